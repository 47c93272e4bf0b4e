/- The evaluator's operations, regions in the order of the text, and control flow are the model's. Conditions: none. -/
import Derived.Test.YtdnelpmolenkoaaDoorEv10
namespace Go.Ev
open Go.RowKit

section
variable {P : Program} {γ : G} {fr : Fr} {a : Act} {o : Oper} {v : AV} {h h' : H} {F : Nat → Option Obj} {w0 w : World}

theorem Does.wp {n : Nat} (hd : Does P γ F w0 a o v n h' w) {K : Act → World → Prop} {Q : Exit → Act → World → Prop} (hK : ∀ c γ' w', Ext γ γ' n h'.next → R γ' v c → HR γ' h' F w0 w' → K (a.put o.dst c) w') : o.wp P a w K Q := by
  obtain ⟨c, w', γ', hrun, hle, hR, hH⟩ := hd
  unfold Oper.wp
  rcases hrun with hrun | ⟨hrun, rfl⟩
  · rw [hrun]; exact hK c γ' w' hle hR hH
  · rw [hrun]; exact hK undef γ' w' hle hR hH
theorem Gives.wp (hd : Gives P γ a o v) {K : Act → World → Prop} {Q : Exit → Act → World → Prop} (hK : ∀ c, R γ v c → K (a.put o.dst c) w) : o.wp P a w K Q := by
  obtain ⟨c, hrun, hR⟩ := hd
  unfold Oper.wp
  rw [hrun w]
  exact hK c hR
theorem GivesAt.wp (hd : GivesAt P γ a o v w) {K : Act → World → Prop} {Q : Exit → Act → World → Prop} (hK : ∀ c, R γ v c → K (a.put o.dst c) w) : o.wp P a w K Q := by
  obtain ⟨c, hrun, hR⟩ := hd
  unfold Oper.wp
  rw [hrun]
  exact hK c hR
theorem Makes.wp {cs : List AV} {f : Nat → AV} (hd : Makes P γ a o cs f) {K : Act → World → Prop} {Q : Exit → Act → World → Prop}
    (hK : ∀ (c : Value) (ccs : List Value) (e : TypeId), Rs γ cs ccs → (∀ (γ' : G) (b : Nat), γ'.blk b = some (w.heap.size, 0) → R γ' (f b) c) → K (a.put o.dst c) (w.alloc (.cells ⟨ccs⟩ e))) : o.wp P a w K Q := by
  obtain ⟨ccs, e, val, hr, hrun, hv⟩ := hd
  unfold Oper.wp
  rw [hrun w]
  exact hK _ ccs e hr (fun γ' b hb => hv γ' b _ hb)

theorem memOp_wp {rec : Rec} (hrec : RecOK P rec) (hm : memOp P rec fr o h = some (v, h')) (hx : Opd γ fr a o.op.operands) (hglob : ∀ g, g < P.globals.size → γ.blk g = some (g, 0)) (hh : HR γ h F w0 w)
    {K : Act → World → Prop} {Q : Exit → Act → World → Prop} (hK : ∀ c γ' w', Ext γ γ' h.next h'.next → R γ' v c → HR γ' h' F w0 w' → K (a.put o.dst c) w') : o.wp P a w K Q := by
  unfold memOp at hm
  split at hm
  · rename_i hop; exact (does_store hop hh hm (by rw [hop] at hx; exact hx)).wp hK
  · rename_i hop; exact (does_convert hop hh hm (by rw [hop] at hx; exact hx)).wp hK
  · rename_i c hop
    rw [hop] at hx
    unfold oCalls at hm
    split at hm
    · rename_i fo hc
      have hxa : ∀ x ∈ c.args.toList, ∀ u, opnd fr x = some u → R γ u (a.eval x) := fun x hxm => hx x (by simp [Op.operands, Call.operands, hc]; exact .inr (by simpa using hxm))
      have hxf : ∀ u, opnd fr fo = some u → R γ u (a.eval fo) := hx fo (by simp [Op.operands, Call.operands, hc])
      unfold oCall at hm
      split at hm
      · rename_i f args htg
        unfold target at htg
        rw [hc] at htg
        simp only at htg
        have key : ∀ (cargs : List Value), Rs γ args cargs → (∀ W : World, (execOp a.eval o).run P W = (callFunc f ⟨cargs⟩).run P W) → o.wp P a w K Q := fun cargs hR hex => by
          obtain ⟨hcalls, hcf⟩ := callWith_sound hrec hm hR hglob hh
          unfold Oper.wp
          rw [hex w, hcf w]
          refine hcalls.mono ?_
          rintro e w' ⟨c0, γ', rfl, hle, hRc, hH⟩
          exact hK c0 γ' w' hle hRc hH
        have emap : c.args.map a.eval = ⟨c.args.toList.map a.eval⟩ := by apply Array.ext'; simp
        split at htg
        · rename_i f' a0 k0 args0 hfv hargs0
          injection htg with htg
          injection htg with e1 e2
          subst e1; subst e2
          have hRa := opnds_R (γ := γ) (a := a) _ _ hargs0 hxa
          have hfv := R_lit (hxf _ hfv)
          refine key (a0.toList ++ c.args.toList.map a.eval ++ k0.toList) (((Rs.lits γ _).append hRa).append (Rs.lits γ _)) (fun W => ?_)
          have e3 : a0 ++ (Array.mk (c.args.toList.map a.eval)) ++ k0 = ⟨a0.toList ++ c.args.toList.map a.eval ++ k0.toList⟩ := by apply Array.ext'; simp
          simp only [execOp, hop, resolve, hc, hfv, Deferred.ofValue, Sem.run_bind, Sem.run_pure, Result.andThen_ok, invoke, emap, e3]
        · rename_i f' a0 k0 args0 hfv hargs0
          injection htg with htg
          injection htg with e1 e2
          subst e1; subst e2
          have hRa := opnds_R (γ := γ) (a := a) _ _ hargs0 hxa
          have hfv := hxf _ hfv
          generalize hcv : a.eval fo = cv at hfv
          cases hfv with
          | fn l1 r1 l2 r2 =>
            rename_i cs ds
            refine key (cs ++ c.args.toList.map a.eval ++ ds) (Rs.append (Rs.append (⟨l1, r1⟩ : Rs γ a0 cs) hRa) ⟨l2, r2⟩) (fun W => ?_)
            have e3 : (Array.mk cs) ++ (Array.mk (c.args.toList.map a.eval)) ++ (Array.mk ds) = ⟨cs ++ c.args.toList.map a.eval ++ ds⟩ := by apply Array.ext'; simp
            simp only [execOp, hop, resolve, hc, hcv, Deferred.ofValue, Sem.run_bind, Sem.run_pure, Result.andThen_ok, invoke, emap, e3]
        · cases htg
      · cases hm
    · rename_i hc
      exact (does_append hop hc hh hm (fun x hxm => hx x (by simp [Op.operands, Call.operands, hc]; simpa using hxm))).wp hK
    · rename_i hc
      exact (does_copy hop hc hh hm (fun x hxm => hx x (by simp [Op.operands, Call.operands, hc]; simpa using hxm))).wp hK
    · cases hm
  · cases hm

theorem oper_wp {rec : Rec} (hrec : RecOK P rec) (hm : oper P rec fr o h = some (v, h')) (hx : Opd γ fr a o.op.operands) (hglob : ∀ g, g < P.globals.size → γ.blk g = some (g, 0)) (hh : HR γ h F w0 w)
    {K : Act → World → Prop} {Q : Exit → Act → World → Prop} (hK : ∀ c γ' w', Ext γ γ' h.next h'.next → R γ' v c → HR γ' h' F w0 w' → K (a.put o.dst c) w') : o.wp P a w K Q := by
  unfold oper operK at hm
  split at hm
  · unfold keepH at hm
    split at hm
    · rename_i u hu
      injection hm with hm
      injection hm with e1 e2
      subst e1; subst e2
      exact (pureOp_sound hu hx).wp (fun c hR => hK c γ w (Ext.refl γ _) hR hh)
    · cases hm
  · unfold keepH at hm
    split at hm
    · rename_i u hu
      injection hm with hm
      injection hm with e1 e2
      subst e1; subst e2
      exact (readOp_sound hh hu hx).wp (fun c hR => hK c γ w (Ext.refl γ _) hR hh)
    · cases hm
  · unfold layNew at hm
    split at hm
    · rename_i cs f hal
      injection hm with hm
      injection hm with e1 e2
      subst e1; subst e2
      refine (allocOp_sound hal hx).wp (fun c ccs e hr hv => ?_)
      have f1 : γ.blk h.next = none := hh.fresh _ (Nat.le_refl _)
      exact hK c (γ.add h.next w.heap.size 0) _ ⟨G.le_add γ f1, fun b hb => by simp only [G.add]; rw [if_neg (by omega)], Nat.le_succ _⟩ (hv _ _ (by simp [G.add])) (hh.newPlain e hr f1 (Nat.lt_succ_self _) (Nat.le_succ _))
    · cases hm
  · exact memOp_wp hrec hm hx hglob hh hK

theorem guard_sound {os : Array Oper} {g : Option (Nat × Bool)} {b : Bool} (hf : FR P γ fr a) (hg : guardOk fr os g = some b) (hog : o.guard = g) : Region.wanted o (yielded os a.tmps) = b := by
  cases g with
  | none =>
    have h' : some true = some b := hg
    injection h' with h'
    subst h'
    simp [Region.wanted, hog]
  | some jw =>
    obtain ⟨j, want⟩ := jw
    have h' : guardIs fr os j want = some b := hg
    unfold guardIs at h'
    obtain ⟨o', ho', h'⟩ := bindO_some h'
    obtain ⟨d, hd, h'⟩ := bindO_some h'
    obtain ⟨u, hu, h'⟩ := bindO_some h'
    split at h'
    · rename_i bb
      injection h' with h'
      subst h'
      obtain ⟨c, hc, hR⟩ := hf.here d _ hu
      have hR := R_lit hR
      subst hR
      have hy : yielded os a.tmps j = some bb := by
        simp [yielded, ho', hd, hc]
      simp only [Region.wanted, hog, hy]
      cases bb <;> cases want <;> rfl
    · injection h' with h'
      subst h'
      obtain ⟨c, hc, hR⟩ := hf.here d _ hu
      have hR := R_lit hR
      subst hR
      have hy : yielded os a.tmps j = none := by
        simp [yielded, ho', hd, hc]
      simp only [Region.wanted, hog, hy]
      rfl
    · cases h'

theorem ops_nil (rec : Rec) (all : Array Oper) (fr : Fr) (h : H) : ops P rec all [] fr h = some (fr, h) := rfl
theorem ops_cons (rec : Rec) (all : Array Oper) (o : Oper) (r : List Oper) (fr : Fr) (h : H) : ops P rec all (o :: r) fr h =
    bindO (guardOk fr all o.guard) fun g => Bool.rec (motive := fun _ => Option (Fr × H)) (bindO (fr.put o.dst (.lit undef)) fun fr => ops P rec all r fr h) (bindO (oper P rec fr o h) fun x => bindO (fr.put o.dst x.1) fun fr => ops P rec all r fr x.2) g := rfl

/-- in the order of the text -/
theorem ops_wp {rec : Rec} (hrec : RecOK P rec) {os : Array Oper} {Q : Exit → Act → World → Prop} : ∀ (l : List Oper) (i : Nat) (fr : Fr) (h : H) (γ : G) (a : Act) (w : World) (fr' : Fr) (h' : H), os.toList.drop i = l → ops P rec os l fr h = some (fr', h') → FR P γ fr a → HR γ h F w0 w →
    (∀ γ' a' w', Ext γ γ' h.next h'.next → FR P γ' fr' a' → HR γ' h' F w0 w' → Q .normal a' w') → wpOps P os Q (List.range' i l.length) a w
  | [], i, fr, h, γ, a, w, fr', h', hl, ho, hf, hh, hQ => by
    rw [ops_nil] at ho
    injection ho with ho
    injection ho with e1 e2
    subst e1; subst e2
    exact hQ γ a w (Ext.refl γ _) hf hh
  | o :: r, i, fr, h, γ, a, w, fr', h', hl, ho, hf, hh, hQ => by
    have hoi : os[i]? = some o := by
      have : (os.toList.drop i)[0]? = some o := by rw [hl]; rfl
      rw [List.getElem?_drop, Nat.add_zero, Array.getElem?_toList] at this
      exact this
    have hr : os.toList.drop (i + 1) = r := by
      rw [← List.tail_drop, hl]; rfl
    rw [ops_cons] at ho
    obtain ⟨g, hg, ho⟩ := bindO_some ho
    have hw := guard_sound hf hg rfl
    simp only [List.length_cons, List.range'_succ]
    rw [wpOps_cons]
    unfold wpOp
    simp only [hoi, hw]
    cases g with
    | false =>
      have ho : (bindO (fr.put o.dst (.lit undef)) fun fr => ops P rec os r fr h) = some (fr', h') := ho
      obtain ⟨fr1, hp, ho⟩ := bindO_some ho
      simp only [Bool.false_eq_true, if_false]
      exact ops_wp hrec r (i + 1) fr1 h γ _ w fr' h' hr ho (hf.put hp (.lit _)) hh hQ
    | true =>
      have ho : (bindO (oper P rec fr o h) fun x => bindO (fr.put o.dst x.1) fun fr => ops P rec os r fr x.2) = some (fr', h') := ho
      obtain ⟨⟨v1, h1⟩, hop, ho⟩ := bindO_some ho
      obtain ⟨fr1, hp, ho⟩ := bindO_some ho
      simp only [if_true]
      refine .inl (oper_wp hrec hop (fun x _ u hu => hf.opnd hu) hf.glob hh (fun c γ1 w1 hle hR hH => ?_))
      exact ops_wp hrec r (i + 1) fr1 h1 γ1 _ w1 fr' h' hr ho ((hf.mono hle.le).put hp hR) hH (fun γ2 a2 w2 hle2 => hQ γ2 a2 w2 (hle.trans hle2))

theorem region_sound {rec : Rec} (hrec : RecOK P rec) {id : Nat} {os : Array Oper} {fr' : Fr} (ho : ops P rec os os.toList fr h = some (fr', h')) (hf : FR P γ fr a) (hh : HR γ h F w0 w) : (Code.region id os false).wp P (Post P γ F w0 h.next .normal fr' h') a w := by
  refine wp_region ?_
  have := ops_wp (F := F) (w0 := w0) (Q := Post P γ F w0 h.next .normal fr' h') hrec os.toList 0 fr h γ a w fr' h' rfl ho hf hh (fun γ' a' w' hle hf' hh' => ⟨rfl, γ', hle, hf', hh'⟩)
  rw [← List.range_eq_range', Array.length_toList] at this
  exact this
end
end Go.Ev
