/- The evaluator's conversions, calls, and operations in the order of the text are the model's. Conditions: none. -/
import Derived.Test.YtjakdbahopbggaaGreatDoorZOmA
import Derived.LoopN
import Derived.ChangeSame
namespace Go.Om
open Go.RowKit

theorem foldl_push (ns : List Int) : ∀ (r : ByteArray), ns.foldl (fun r n => r.push (UInt8.ofNat n.toNat)) r = ⟨⟨r.data.toList ++ ns.map fun n => UInt8.ofNat n.toNat⟩⟩ := by
  induction ns with
  | nil => intro r; simp
  | cons n ns ih =>
    intro r
    rw [List.foldl_cons, ih]
    congr 2
    simp [ByteArray.push]
theorem bytesOf_R {γ : G} : ∀ (cs : List AV) (bs : List UInt8) (ccs : List Value), bytesOf cs = some bs → Rs γ cs ccs → ∃ ns : List Int, ccs = ns.map (Value.int .u8) ∧ bs = ns.map fun n => UInt8.ofNat n.toNat
  | [], bs, ccs, h, hr => by
    simp only [bytesOf] at h
    injection h with h
    subst h
    exact ⟨[], by rw [hr.nil_inv]; rfl, rfl⟩
  | v :: cs, bs, ccs, h, hr => by
    unfold bytesOf at h
    split at h
    · rename_i heq; cases heq
    · rename_i n r heq
      injection heq with e1 e2
      subst e1; subst e2
      split at h
      · rename_i bs' hbs
        injection h with h
        subst h
        obtain ⟨c, r, rfl, hc, hr'⟩ := hr.cons_inv
        have hc := R_lit hc
        subst hc
        obtain ⟨ns, h1, h2⟩ := bytesOf_R cs bs' r hbs hr'
        exact ⟨n :: ns, by simp [h1], by simp [h2]⟩
      · cases h
    · cases h

section
variable {P : Program} {γ : G} {fr : Fr} {a : Act} {o : Oper} {v : AV} {h h' : H} {F : Nat → Option Obj} {w0 w : World}

theorem does_convert {s d : TypeId} {x : Operand} (hop : o.op = .convert s d x) (hh : HR γ h F w0 w) (hs : oConvertM P fr s d x h = some (v, h')) (hx : Opd γ fr a #[x]) : Does P γ F w0 a o v h.next h' w := by
  unfold oConvertM at hs
  split at hs
  · rename_i u hu
    have h1 := hx x (by simp) _ hu
    unfold convertM at hs
    split at hs
    · rename_i e st hsrc hdst
      have e1 := R_lit h1
      split at hs
      · rename_i he
        injection hs with hs
        injection hs with e2 e3
        subst e2; subst e3
        have hrun := run_bytes_of_string (P := P) w s d e st hsrc hdst he
        have hge := grown_ge w st.size 0 e
        generalize grownCap w st.size 0 e = gc at hrun hge
        have hrow : bytesRow st gc = ⟨(st.data.toList.map fun b => Value.int .u8 b.toNat) ++ List.replicate (gc - st.size) (.int .u8 0)⟩ := by
          apply Array.ext'
          simp [bytesRow]
        have hlen : ((st.data.toList.map fun b => Value.int .u8 b.toNat) ++ List.replicate (gc - st.size) (Value.int .u8 0)).length = gc := by
          simp; omega
        have hsz : (bytesRow st gc).size = gc := by rw [hrow]; simpa using hlen
        rw [hsz, hrow] at hrun
        have hlit : Rs γ (st.data.toList.map fun b => AV.lit (.int .u8 b.toNat)) (st.data.toList.map fun b => Value.int .u8 b.toNat) := by
          have := Rs.lits γ (st.data.toList.map fun b => Value.int .u8 b.toNat)
          rw [List.map_map] at this
          exact this
        obtain ⟨γ', hle, hb, hcap, hHR⟩ := hh.newUnk (m := gc) (sz := 1) (w' := w.drew.alloc (.cells ⟨(st.data.toList.map fun b => Value.int .u8 b.toNat) ++ List.replicate (gc - st.size) (.int .u8 0)⟩ e (gc, gc + 1))) (e := e) (fz := (gc, gc + 1)) (more := List.replicate (gc - st.size) (.int .u8 0)) hlit rfl rfl rfl rfl
          (fun i hi => by rw [hlen] at hi; simp only; omega) (by simp; omega) (by rw [hlen]; omega)
        refine ⟨.slice (some ⟨w.heap.size, 0, none⟩) st.size gc, _, γ', .inl ?_, hle, ?_, hHR⟩
        · simp only [execOp, hop, e1, Sem.run_bind, hrun]
          rfl
        · rw [← Lib.size_eq]
          exact R.sl (off := 0) hb (.unk (s := 0) hcap)
      · cases hs
    · rename_i e b off len cap hsrc hdst
      split at hs
      · rename_i he
        split at hs
        · rename_i cs hcs
          split at hs
          · rename_i bs hbs
            injection hs with hs
            injection hs with e2 e3
            subst e2; subst e3
            generalize hcv : a.eval x = cv at h1
            cases h1 with
            | sl hB hC =>
              rename_i B O cc
              obtain ⟨cvs, hR, hlen, hat⟩ := load_R hh hcs hB
              obtain ⟨ns, hn1, hn2⟩ := bytesOf_R cs bs cvs hbs hR
              have hl := run_loadCells_list (P := P) w ⟨B, O + off, none⟩ cvs (fun j c hc => hat j c hc)
              rw [← hR.1, hlen, hn1] at hl
              have hrun := run_bytesToString (P := P) w ⟨B, O + off, none⟩ len cc ns hl
              rw [foldl_push] at hrun
              have e0 : (ByteArray.empty.data.toList ++ ns.map fun n => UInt8.ofNat n.toNat) = bs := by rw [hn2]; rfl
              rw [e0] at hrun
              refine ⟨.string ⟨⟨bs⟩⟩, w, γ, .inl ?_, Ext.refl γ _, .lit _, hh⟩
              simp [execOp, hop, hcv, convert, run_underlying hsrc, run_underlying hdst, run_underlying he, hrun]
          · cases hs
        · cases hs
      · cases hs
    · rename_i e n c hsrc hdst
      have e1 := R_lit h1
      split at hs
      · rename_i he
        injection hs with hs
        injection hs with e2 e3
        subst e2; subst e3
        refine ⟨.string ByteArray.empty, w, γ, .inl ?_, Ext.refl γ _, .lit _, hh⟩
        simp [execOp, hop, e1, convert, run_underlying hsrc, run_underlying hdst, run_underlying he, Conv.bytesToString]
      · cases hs
    · cases hs
  · cases hs

/-- a frame stands for an activation -/
structure FR (P : Program) (γ : G) (fr : Fr) (a : Act) : Prop where
  defers : a.defers = []
  size : a.tmps.size = fr.n
  here : ∀ t v, fr.tm.get t = some v → ∃ c, a.tmps[t]? = some c ∧ R γ v c
  g : fr.g = P.globals.size
  glob : ∀ g, g < P.globals.size → γ.blk g = some (g, 0)
theorem FR.mono {γ' : G} (hf : FR P γ fr a) (hle : γ.le γ') : FR P γ' fr a :=
  { hf with
    here := fun t v ht => by
      obtain ⟨c, hc, hR⟩ := hf.here t v ht
      exact ⟨c, hc, hR.mono hle⟩
    glob := fun g hg => hle.1 _ _ (hf.glob g hg) }
theorem FR.opnd (hf : FR P γ fr a) {x : Operand} {v : AV} (h : opnd fr x = some v) : R γ v (a.eval x) := by
  cases x with
  | tmp t =>
    obtain ⟨c, hc, hR⟩ := hf.here t v h
    have : a.eval (.tmp t) = c := by simp [Act.eval, hc]
    rw [this]
    exact hR
  | const u =>
    have h' : some (AV.lit u) = some v := h
    injection h' with h'
    subst h'
    exact .lit u
  | global g =>
    have h' : sel (Nat.ble (Nat.succ g) fr.g) (some (AV.ptr g 0)) none = some v := h
    obtain ⟨h1, h2⟩ := sel_some h'
    injection h2 with h2
    subst h2
    rw [Nat.ble_eq, hf.g] at h1
    exact R.ptr (off := 0) (hf.glob g h1)
  | func f =>
    have h' : some (AV.lit (.func (.func f) #[] #[])) = some v := h
    injection h' with h'
    subst h'
    exact .lit _
theorem FR.put (hf : FR P γ fr a) {d : Option Tmp} {c : Value} {fr' : Fr} (hp : fr.put d v = some fr') (hv : R γ v c) : FR P γ fr' (a.put d c) := by
  cases d with
  | none =>
    have h' : some fr = some fr' := hp
    injection h' with h'
    subst h'
    exact hf
  | some d =>
    have h' : sel (Nat.ble (Nat.succ d) fr.n) (forceA v fun v => some (⟨fr.tm.put d v, fr.n, fr.g⟩ : Fr)) none = some fr' := hp
    obtain ⟨h1, h2⟩ := sel_some h'
    rw [forceA_eq] at h2
    injection h2 with h2
    subst h2
    rw [Nat.ble_eq] at h1
    refine { defers := hf.defers, size := by simpa [Act.put] using hf.size, here := fun t u ht => ?_, g := hf.g, glob := hf.glob }
    rcases get_put ht with ⟨rfl, rfl⟩ | ⟨hne, ht⟩
    · refine ⟨c, ?_, hv⟩
      have : t < a.tmps.size := by rw [hf.size]; exact h1
      simp [Act.put, this]
    · obtain ⟨c', hc', hR⟩ := hf.here t u ht
      refine ⟨c', ?_, hR⟩
      simp only [Act.put]
      rw [Array.getElem?_setIfInBounds_ne (Ne.symm hne)]
      exact hc'

def exc : Ex → Exit
  | .normal => .normal
  | .exit id => .exit id
  | .ret => .ret
def Post (P : Program) (γ : G) (F : Nat → Option Obj) (w0 : World) (n : Nat) (ex : Ex) (fr' : Fr) (h' : H) : Exit → Act → World → Prop :=
  fun e a' w' => e = exc ex ∧ ∃ γ', Ext γ γ' n h'.next ∧ FR P γ' fr' a' ∧ HR γ' h' F w0 w'
def OrcOK (P : Program) (O : Orc) : Prop := ∀ (f : FuncId) (args : List AV) (v : Value), O f args = some v → ∀ (γ : G) (cargs : List Value), Rs γ args cargs →
  (∀ w, Calls P f ⟨cargs⟩ w fun e w' => e = .returned v ∧ Below w.heap.size w w') ∧ ∀ w, (callFunc f ⟨cargs⟩).run P w = .ok (.enter f ⟨cargs⟩) w
structure RecOK (P : Program) (rec : Rec) : Prop where
  go : ∀ (c : Code) (fr : Fr) (h : H) (ex : Ex) (fr' : Fr) (h' : H), rec.go c fr h = some (ex, fr', h') →
    ∀ (γ : G) (F : Nat → Option Obj) (w0 : World) (a : Act) (w : World), FR P γ fr a → HR γ h F w0 w → c.wp P (Post P γ F w0 h.next ex fr' h') a w
  orc : OrcOK P rec.orc
theorem HR.below (hh : HR γ h F w0 w) {w' : World} (hb : Below w.heap.size w w') : HR γ h F w0 w' where
  os := hb.os.trans hh.os
  tape := hb.tape.trans hh.tape
  output := hb.output.trans hh.output
  size := Nat.le_trans hh.size hb.size
  low := fun B o hB => by
    have h1 := hh.low B o hB
    rw [hb.block B (Array.getElem?_eq_some_iff.1 h1).1]
    exact h1
  fresh := hh.fresh
  ftok := hh.ftok
  here := fun b k hk => by
    obtain ⟨B, O, h1, h2, h3, h4⟩ := hh.here b k hk
    exact ⟨B, O, h1, h2, h3, h4.mono (G.le_refl γ) (hb.block B h4.lt)⟩
  inj := hh.inj

theorem results_R (f : ResultVar → Sem Value) (h1 : ∀ t, f (.tmp t) = pure (a.tmps.getD t undef)) (h2 : ∀ ad t, f (.cell ad t) = (asAddr (a.tmps.getD ad undef) >>= fun A => loadVar t A)) :
    ∀ (rs : List ResultVar) (vs : List AV), resultsOf P fr h rs = some vs → FR P γ fr a → HR γ h F w0 w → ∃ cvs, Rs γ vs cvs ∧ (rs.mapM f).run P w = .ok cvs w
  | [], vs, hr, _, _ => by
    simp only [resultsOf] at hr
    injection hr with hr
    subst hr
    exact ⟨[], Rs.nil γ, by simp⟩
  | .tmp t :: rs, vs, hr, hf, hh => by
    simp only [resultsOf] at hr
    split at hr
    · cases hr
    · rename_i u hu
      split at hr
      · rename_i us hus
        injection hr with hr
        subst hr
        obtain ⟨cvs, hR, hrun⟩ := results_R f h1 h2 rs us hus hf hh
        obtain ⟨c, hc, hRc⟩ := hf.here t u hu
        refine ⟨c :: cvs, hR.cons hRc, ?_⟩
        have : a.tmps.getD t undef = c := by simp [hc]
        simp only [List.mapM_cons, h1, Sem.run_bind, Sem.run_pure, Result.andThen_ok, this, hrun]
      · cases hr
  | .cell ad t :: rs, vs, hr, hf, hh => by
    simp only [resultsOf] at hr
    split at hr
    · rename_i b off hu
      split at hr
      · cases hr
      · rename_i u hld
        split at hr
        · rename_i us hus
          injection hr with hr
          subst hr
          obtain ⟨cvs, hR, hrun⟩ := results_R f h1 h2 rs us hus hf hh
          obtain ⟨c, hc, hRc⟩ := hf.here ad _ hu
          have : a.tmps.getD ad undef = c := by simp [hc]
          cases hRc with
          | ptr hB =>
            obtain ⟨c', hc', hR'⟩ := loadT_R hh hld hB
            refine ⟨c' :: cvs, hR.cons hR', ?_⟩
            have ha : ∀ A : Addr, (asAddr (.pointer (some A))).run P w = .ok A w := fun A => rfl
            simp only [List.mapM_cons, h2, Sem.run_bind, Sem.run_pure, Result.andThen_ok, this, ha, hc', hrun]
        · cases hr
    · cases hr

/-- a call's answer -/
def Ans (γ : G) (F : Nat → Option Obj) (w0 : World) (n : Nat) (v : AV) (h' : H) : Ending → World → Prop := fun e w' => ∃ c γ', e = .returned c ∧ Ext γ γ' n h'.next ∧ R γ' v c ∧ HR γ' h' F w0 w'

theorem give_R {vs : List AV} {cvs : List Value} (hg : give h (some vs) = some (v, h')) (hR : Rs γ vs cvs) : h' = h ∧ R γ v (if hh : (Array.mk cvs).size = 1 then (Array.mk cvs)[0] else .tuple ⟨cvs⟩) := by
  unfold give at hg
  split at hg
  · rename_i u heq
    injection heq with heq
    subst heq
    injection hg with hg
    injection hg with e1 e2
    subst e1; subst e2
    obtain ⟨c, r, rfl, hc, hr⟩ := hR.cons_inv
    rw [hr.nil_inv]
    exact ⟨rfl, by simpa using hc⟩
  · rename_i us hne heq
    injection heq with heq
    subst heq
    injection hg with hg
    injection hg with e1 e2
    subst e1; subst e2
    refine ⟨rfl, ?_⟩
    rw [dif_neg]
    · exact mkTup_R hR
    · intro e
      have hl := hR.1
      have hl1 : vs.length = 1 := by rw [hl]; simpa using e
      obtain ⟨u, hu⟩ := List.length_eq_one_iff.1 hl1
      exact hne u hu
  · rename_i heq; cases heq

theorem callBody_sound {rec : Rec} (hrec : RecOK P rec) {f : FuncId} {args : List AV} {cargs : List Value} (hc : callBody P rec f args h = some (v, h')) (hargs : Rs γ args cargs) (hglob : ∀ g, g < P.globals.size → γ.blk g = some (g, 0)) (hh : HR γ h F w0 w) :
    Calls P f ⟨cargs⟩ w (Ans γ F w0 h.next v h') ∧ ∀ w, (callFunc f ⟨cargs⟩).run P w = .ok (.enter f ⟨cargs⟩) w := by
  unfold callBody at hc
  split at hc
  · cases hc
  · rename_i fn hfn
    split at hc
    · cases hc
    · rename_i c hbody
      obtain ⟨hcond, hc⟩ := sel_some hc
      simp only [Bool.and_eq_true, Nat.ble_eq, Bool.not_eq_true'] at hcond
      obtain ⟨hlen, hname⟩ := hcond
      refine ⟨?_, fun w => ?_⟩
      · split at hc
        · cases hc
        · cases hc
        · rename_i ex fr' h1 hne hrun
          have hf0 : FR P γ { tm := putAll .nil 0 args, n := fn.ntmps, g := P.globals.size } { tmps := (Array.mk cargs) ++ Array.replicate (fn.ntmps - (Array.mk cargs).size) undef, defers := [] } := by
            refine { defers := rfl, size := ?_, here := fun t u ht => ?_, g := rfl, glob := hglob }
            · have := hargs.1
              simp
              omega
            · rcases get_putAll _ _ _ _ _ ht with ⟨_, hv⟩ | ⟨_, hv⟩
              · simp only [Nat.sub_zero] at hv
                obtain ⟨c0, hc0, hR0⟩ := hargs.at_ hv
                refine ⟨c0, ?_, hR0⟩
                have hlt : t < (Array.mk cargs).size := by simpa using (List.getElem?_eq_some_iff.1 hc0).1
                rw [Array.getElem?_append_left hlt]
                simpa using hc0
              · rw [get_nil] at hv; cases hv
          have hwp := hrec.go c _ h ex fr' h1 hrun γ F w0 _ w hf0 hh
          refine calls_of_wp hfn hbody (wp_mono hwp ?_)
          rintro e a' w' ⟨he, γ', hle, hf', hh'⟩
          have hres : bodyPost P fn (Ans γ F w0 h.next v h') .ret a' w' := by
            refine ⟨hf'.defers, ?_⟩
            cases hro : resultsOf P fr' h1 fn.results.toList with
            | none => rw [hro] at hc; cases hc
            | some vs =>
              rw [hro] at hc
              have hres : ∃ f : ResultVar → Sem Value, (∀ t, f (.tmp t) = pure (a'.tmps.getD t undef)) ∧ (∀ ad t, f (.cell ad t) = (asAddr (a'.tmps.getD ad undef) >>= fun A => loadVar t A)) ∧
                  results fn a'.tmps = (fn.results.mapM f >>= fun vs => pure (if h : vs.size = 1 then vs[0] else .tuple vs)) := ⟨_, fun _ => rfl, fun _ _ => rfl, rfl⟩
              obtain ⟨f, hf1, hf2, hf3⟩ := hres
              obtain ⟨cvs, hR, hrun2⟩ := results_R f hf1 hf2 _ _ hro hf' hh'
              obtain ⟨rfl, hRv⟩ := give_R hc hR
              refine ⟨_, ?_, _, γ', rfl, hle, hRv, hh'⟩
              rw [hf3]
              simp only [Array.mapM_eq_mapM_toList, Sem.run_bind]
              have e : ∀ (m : Sem (List Value)), ((List.toArray <$> m) : Sem (Array Value)).run P w' = (m.run P w').andThen fun l W => .ok l.toArray W := fun m => by
                rw [map_eq_pure_bind, Sem.run_bind]
                rfl
              rw [e, hrun2]
              rfl
          cases ex with
          | normal => subst he; exact hres
          | ret => subst he; exact hres
          | exit id => exact (hne _ rfl).elim
      · simp [callFunc, hfn, hbody]
        simpa using hname
theorem callWith_sound {rec : Rec} (hrec : RecOK P rec) {f : FuncId} {args : List AV} {cargs : List Value} (hc : callWith P rec f args h = some (v, h')) (hargs : Rs γ args cargs) (hglob : ∀ g, g < P.globals.size → γ.blk g = some (g, 0)) (hh : HR γ h F w0 w) :
    Calls P f ⟨cargs⟩ w (Ans γ F w0 h.next v h') ∧ ∀ w, (callFunc f ⟨cargs⟩).run P w = .ok (.enter f ⟨cargs⟩) w := by
  unfold callWith at hc
  split at hc
  · rename_i u hu
    injection hc with hc
    simp only [Prod.mk.injEq] at hc
    obtain ⟨rfl, rfl⟩ := hc
    obtain ⟨h1, h2⟩ := hrec.orc f args u hu γ cargs hargs
    exact ⟨(h1 w).mono (fun e w' he => ⟨u, γ, he.1, Ext.refl γ _, .lit _, hh.below he.2⟩), h2⟩
  · exact callBody_sound hrec hc hargs hglob hh
end
end Go.Om
/- The evaluator's operations, regions in the order of the text, and control flow are the model's. Conditions: none. -/
namespace Go.Om
open Go.RowKit

section
variable {P : Program} {γ : G} {fr : Fr} {a : Act} {o : Oper} {v : AV} {h h' : H} {F : Nat → Option Obj} {w0 w : World}

theorem Does.wp {n : Nat} (hd : Does P γ F w0 a o v n h' w) {K : Act → World → Prop} {Q : Exit → Act → World → Prop} (hK : ∀ c γ' w', Ext γ γ' n h'.next → R γ' v c → HR γ' h' F w0 w' → K (a.put o.dst c) w') : o.wp P a w K Q := by
  obtain ⟨c, w', γ', hrun, hle, hR, hH⟩ := hd
  unfold Oper.wp
  rcases hrun with hrun | ⟨hrun, rfl⟩
  · rw [hrun]; exact hK c γ' w' hle hR hH
  · rw [hrun]; exact hK undef γ' w' hle hR hH
theorem Gives.wp (hd : Gives P γ a o v) {K : Act → World → Prop} {Q : Exit → Act → World → Prop} (hK : ∀ c, R γ v c → K (a.put o.dst c) w) : o.wp P a w K Q := by
  obtain ⟨c, hrun, hR⟩ := hd
  unfold Oper.wp
  rw [hrun w]
  exact hK c hR
theorem GivesAt.wp (hd : GivesAt P γ a o v w) {K : Act → World → Prop} {Q : Exit → Act → World → Prop} (hK : ∀ c, R γ v c → K (a.put o.dst c) w) : o.wp P a w K Q := by
  obtain ⟨c, hrun, hR⟩ := hd
  unfold Oper.wp
  rw [hrun]
  exact hK c hR
theorem Makes.wp {cs : List AV} {f : Nat → AV} (hd : Makes P γ a o cs f) {K : Act → World → Prop} {Q : Exit → Act → World → Prop}
    (hK : ∀ (c : Value) (ccs : List Value) (e : TypeId), Rs γ cs ccs → (∀ (γ' : G) (b : Nat), γ'.blk b = some (w.heap.size, 0) → R γ' (f b) c) → K (a.put o.dst c) (w.alloc (.cells ⟨ccs⟩ e))) : o.wp P a w K Q := by
  obtain ⟨ccs, e, val, hr, hrun, hv⟩ := hd
  unfold Oper.wp
  rw [hrun w]
  exact hK _ ccs e hr (fun γ' b hb => hv γ' b _ hb)

theorem memOp_wp {rec : Rec} (hrec : RecOK P rec) (hm : memOp P rec fr o h = some (v, h')) (hx : Opd γ fr a o.op.operands) (hglob : ∀ g, g < P.globals.size → γ.blk g = some (g, 0)) (hh : HR γ h F w0 w)
    {K : Act → World → Prop} {Q : Exit → Act → World → Prop} (hK : ∀ c γ' w', Ext γ γ' h.next h'.next → R γ' v c → HR γ' h' F w0 w' → K (a.put o.dst c) w') : o.wp P a w K Q := by
  unfold memOp at hm
  split at hm
  · rename_i hop; exact (does_store hop hh hm (by rw [hop] at hx; exact hx)).wp hK
  · rename_i hop; exact (does_convert hop hh hm (by rw [hop] at hx; exact hx)).wp hK
  · rename_i c hop
    rw [hop] at hx
    unfold oCalls at hm
    split at hm
    · rename_i fo hc
      have hxa : ∀ x ∈ c.args.toList, ∀ u, opnd fr x = some u → R γ u (a.eval x) := fun x hxm => hx x (by simp [Op.operands, Call.operands, hc]; exact .inr (by simpa using hxm))
      have hxf : ∀ u, opnd fr fo = some u → R γ u (a.eval fo) := hx fo (by simp [Op.operands, Call.operands, hc])
      unfold oCall at hm
      split at hm
      · rename_i f args htg
        unfold target at htg
        rw [hc] at htg
        simp only at htg
        have key : ∀ (cargs : List Value), Rs γ args cargs → (∀ W : World, (execOp a.eval o).run P W = (callFunc f ⟨cargs⟩).run P W) → o.wp P a w K Q := fun cargs hR hex => by
          obtain ⟨hcalls, hcf⟩ := callWith_sound hrec hm hR hglob hh
          unfold Oper.wp
          rw [hex w, hcf w]
          refine hcalls.mono ?_
          rintro e w' ⟨c0, γ', rfl, hle, hRc, hH⟩
          exact hK c0 γ' w' hle hRc hH
        have emap : c.args.map a.eval = ⟨c.args.toList.map a.eval⟩ := by apply Array.ext'; simp
        split at htg
        · rename_i f' a0 k0 args0 hfv hargs0
          injection htg with htg
          injection htg with e1 e2
          subst e1; subst e2
          have hRa := opnds_R (γ := γ) (a := a) _ _ hargs0 hxa
          have hfv := R_lit (hxf _ hfv)
          refine key (a0.toList ++ c.args.toList.map a.eval ++ k0.toList) (((Rs.lits γ _).append hRa).append (Rs.lits γ _)) (fun W => ?_)
          have e3 : a0 ++ (Array.mk (c.args.toList.map a.eval)) ++ k0 = ⟨a0.toList ++ c.args.toList.map a.eval ++ k0.toList⟩ := by apply Array.ext'; simp
          simp only [execOp, hop, resolve, hc, hfv, Deferred.ofValue, Sem.run_bind, Sem.run_pure, Result.andThen_ok, invoke, emap, e3]
        · rename_i f' a0 k0 args0 hfv hargs0
          injection htg with htg
          injection htg with e1 e2
          subst e1; subst e2
          have hRa := opnds_R (γ := γ) (a := a) _ _ hargs0 hxa
          have hfv := hxf _ hfv
          generalize hcv : a.eval fo = cv at hfv
          cases hfv with
          | fn l1 r1 l2 r2 =>
            rename_i cs ds
            refine key (cs ++ c.args.toList.map a.eval ++ ds) (Rs.append (Rs.append (⟨l1, r1⟩ : Rs γ a0 cs) hRa) ⟨l2, r2⟩) (fun W => ?_)
            have e3 : (Array.mk cs) ++ (Array.mk (c.args.toList.map a.eval)) ++ (Array.mk ds) = ⟨cs ++ c.args.toList.map a.eval ++ ds⟩ := by apply Array.ext'; simp
            simp only [execOp, hop, resolve, hc, hcv, Deferred.ofValue, Sem.run_bind, Sem.run_pure, Result.andThen_ok, invoke, emap, e3]
        · cases htg
      · cases hm
    · rename_i hc
      exact (does_append hop hc hh hm (fun x hxm => hx x (by simp [Op.operands, Call.operands, hc]; simpa using hxm))).wp hK
    · rename_i hc
      exact (does_copy hop hc hh hm (fun x hxm => hx x (by simp [Op.operands, Call.operands, hc]; simpa using hxm))).wp hK
    · cases hm
  · rename_i hop; exact (does_makeMap hop hh hm).wp hK
  · rename_i hop; exact (does_mapPut hop hh hm (by rw [hop] at hx; exact hx)).wp hK
  · cases hm

theorem oper_wp {rec : Rec} (hrec : RecOK P rec) (hm : oper P rec fr o h = some (v, h')) (hx : Opd γ fr a o.op.operands) (hglob : ∀ g, g < P.globals.size → γ.blk g = some (g, 0)) (hh : HR γ h F w0 w)
    {K : Act → World → Prop} {Q : Exit → Act → World → Prop} (hK : ∀ c γ' w', Ext γ γ' h.next h'.next → R γ' v c → HR γ' h' F w0 w' → K (a.put o.dst c) w') : o.wp P a w K Q := by
  unfold oper operK at hm
  split at hm
  · unfold keepH at hm
    split at hm
    · rename_i u hu
      injection hm with hm
      injection hm with e1 e2
      subst e1; subst e2
      exact (pureOp_sound hu hx).wp (fun c hR => hK c γ w (Ext.refl γ _) hR hh)
    · cases hm
  · unfold keepH at hm
    split at hm
    · rename_i u hu
      injection hm with hm
      injection hm with e1 e2
      subst e1; subst e2
      exact (readOp_sound hh hu hx).wp (fun c hR => hK c γ w (Ext.refl γ _) hR hh)
    · cases hm
  · unfold layNew at hm
    split at hm
    · rename_i cs f hal
      injection hm with hm
      injection hm with e1 e2
      subst e1; subst e2
      refine (allocOp_sound hal hx).wp (fun c ccs e hr hv => ?_)
      have f1 : γ.blk h.next = none := hh.fresh _ (Nat.le_refl _)
      exact hK c (γ.add h.next w.heap.size 0) _ ⟨G.le_add γ f1, fun b hb => by simp only [G.add]; rw [if_neg (by omega)], Nat.le_succ _⟩ (hv _ _ (by simp [G.add])) (hh.newPlain e hr f1 (Nat.lt_succ_self _) (Nat.le_succ _))
    · cases hm
  · exact memOp_wp hrec hm hx hglob hh hK

theorem guard_sound {os : Array Oper} {g : Option (Nat × Bool)} {b : Bool} (hf : FR P γ fr a) (hg : guardOk fr os g = some b) (hog : o.guard = g) : Region.wanted o (yielded os a.tmps) = b := by
  cases g with
  | none =>
    have h' : some true = some b := hg
    injection h' with h'
    subst h'
    simp [Region.wanted, hog]
  | some jw =>
    obtain ⟨j, want⟩ := jw
    have h' : guardIs fr os j want = some b := hg
    unfold guardIs at h'
    obtain ⟨o', ho', h'⟩ := bindO_some h'
    obtain ⟨d, hd, h'⟩ := bindO_some h'
    obtain ⟨u, hu, h'⟩ := bindO_some h'
    split at h'
    · rename_i bb
      injection h' with h'
      subst h'
      obtain ⟨c, hc, hR⟩ := hf.here d _ hu
      have hR := R_lit hR
      subst hR
      have hy : yielded os a.tmps j = some bb := by
        simp [yielded, ho', hd, hc]
      simp only [Region.wanted, hog, hy]
      cases bb <;> cases want <;> rfl
    · injection h' with h'
      subst h'
      obtain ⟨c, hc, hR⟩ := hf.here d _ hu
      have hR := R_lit hR
      subst hR
      have hy : yielded os a.tmps j = none := by
        simp [yielded, ho', hd, hc]
      simp only [Region.wanted, hog, hy]
      rfl
    · cases h'

theorem ops_nil (rec : Rec) (all : Array Oper) (fr : Fr) (h : H) : ops P rec all [] fr h = some (fr, h) := rfl
theorem ops_cons (rec : Rec) (all : Array Oper) (o : Oper) (r : List Oper) (fr : Fr) (h : H) : ops P rec all (o :: r) fr h =
    bindO (guardOk fr all o.guard) fun g => Bool.rec (motive := fun _ => Option (Fr × H)) (bindO (fr.put o.dst (.lit undef)) fun fr => ops P rec all r fr h) (bindO (oper P rec fr o h) fun x => bindO (fr.put o.dst x.1) fun fr => ops P rec all r fr x.2) g := rfl

/-- in the order of the text -/
theorem ops_wp {rec : Rec} (hrec : RecOK P rec) {os : Array Oper} {Q : Exit → Act → World → Prop} : ∀ (l : List Oper) (i : Nat) (fr : Fr) (h : H) (γ : G) (a : Act) (w : World) (fr' : Fr) (h' : H), os.toList.drop i = l → ops P rec os l fr h = some (fr', h') → FR P γ fr a → HR γ h F w0 w →
    (∀ γ' a' w', Ext γ γ' h.next h'.next → FR P γ' fr' a' → HR γ' h' F w0 w' → Q .normal a' w') → wpOps P os Q (List.range' i l.length) a w
  | [], i, fr, h, γ, a, w, fr', h', hl, ho, hf, hh, hQ => by
    rw [ops_nil] at ho
    injection ho with ho
    injection ho with e1 e2
    subst e1; subst e2
    exact hQ γ a w (Ext.refl γ _) hf hh
  | o :: r, i, fr, h, γ, a, w, fr', h', hl, ho, hf, hh, hQ => by
    have hoi : os[i]? = some o := by
      have : (os.toList.drop i)[0]? = some o := by rw [hl]; rfl
      rw [List.getElem?_drop, Nat.add_zero, Array.getElem?_toList] at this
      exact this
    have hr : os.toList.drop (i + 1) = r := by
      rw [← List.tail_drop, hl]; rfl
    rw [ops_cons] at ho
    obtain ⟨g, hg, ho⟩ := bindO_some ho
    have hw := guard_sound hf hg rfl
    simp only [List.length_cons, List.range'_succ]
    rw [wpOps_cons]
    unfold wpOp
    simp only [hoi, hw]
    cases g with
    | false =>
      have ho : (bindO (fr.put o.dst (.lit undef)) fun fr => ops P rec os r fr h) = some (fr', h') := ho
      obtain ⟨fr1, hp, ho⟩ := bindO_some ho
      simp only [Bool.false_eq_true, if_false]
      exact ops_wp hrec r (i + 1) fr1 h γ _ w fr' h' hr ho (hf.put hp (.lit _)) hh hQ
    | true =>
      have ho : (bindO (oper P rec fr o h) fun x => bindO (fr.put o.dst x.1) fun fr => ops P rec os r fr x.2) = some (fr', h') := ho
      obtain ⟨⟨v1, h1⟩, hop, ho⟩ := bindO_some ho
      obtain ⟨fr1, hp, ho⟩ := bindO_some ho
      simp only [if_true]
      refine .inl (oper_wp hrec hop (fun x _ u hu => hf.opnd hu) hf.glob hh (fun c γ1 w1 hle hR hH => ?_))
      exact ops_wp hrec r (i + 1) fr1 h1 γ1 _ w1 fr' h' hr ho ((hf.mono hle.le).put hp hR) hH (fun γ2 a2 w2 hle2 => hQ γ2 a2 w2 (hle.trans hle2))

theorem region_sound {rec : Rec} (hrec : RecOK P rec) {id : Nat} {os : Array Oper} {fr' : Fr} (ho : ops P rec os os.toList fr h = some (fr', h')) (hf : FR P γ fr a) (hh : HR γ h F w0 w) : (Code.region id os false).wp P (Post P γ F w0 h.next .normal fr' h') a w := by
  refine wp_region ?_
  have := ops_wp (F := F) (w0 := w0) (Q := Post P γ F w0 h.next .normal fr' h') hrec os.toList 0 fr h γ a w fr' h' rfl ho hf hh (fun γ' a' w' hle hf' hh' => ⟨rfl, γ', hle, hf', hh'⟩)
  rw [← List.range_eq_range', Array.length_toList] at this
  exact this
end
end Go.Om
/- A region that draws its order: what its edges, its chain of turns and its temporaries say. Conditions: none. -/
namespace Go.Om
open Go.RowKit

-- masks

theorem maskOf_bit (acc : List Nat) : ∀ (es : List Edge) (j : Nat), Nat.testBit (maskOf acc es) j = true → ∃ e ∈ es, Region.binds .any e = true ∧ (j = e.on ∨ Nat.testBit (acc.getD e.on 0) j = true)
  | [], j, h => by simp [maskOf] at h
  | e :: es, j, h => by
    unfold maskOf at h
    cases hb : Region.binds .any e with
    | false =>
      rw [hb] at h
      obtain ⟨e', he', hx⟩ := maskOf_bit acc es j h
      exact ⟨e', by simp [he'], hx⟩
    | true =>
      rw [hb] at h
      have h : Nat.testBit ((2 ^ e.on ||| acc.getD e.on 0) ||| maskOf acc es) j = true := h
      rw [Nat.testBit_or, Nat.testBit_or, Nat.testBit_two_pow, Bool.or_eq_true, Bool.or_eq_true] at h
      rcases h with (h | h) | h
      · exact ⟨e, by simp, hb, .inl (by simpa using (of_decide_eq_true h).symm)⟩
      · exact ⟨e, by simp, hb, .inr h⟩
      · obtain ⟨e', he', hx⟩ := maskOf_bit acc es j h
        exact ⟨e', by simp [he'], hx⟩
theorem masksGo_spec : ∀ (l : List Oper) (acc : List Nat), ∃ tail, masksGo acc l = acc ++ tail ∧ tail.length = l.length ∧ ∀ t o, l[t]? = some o → tail[t]? = some (maskOf (acc ++ tail.take t) o.after.toList)
  | [], acc => ⟨[], by simp [masksGo], rfl, fun t o h => by simp at h⟩
  | o :: l, acc => by
    obtain ⟨tail, h1, h2, h3⟩ := masksGo_spec l (acc ++ [maskOf acc o.after.toList])
    refine ⟨maskOf acc o.after.toList :: tail, by simp [masksGo, h1], by simp [h2], fun t o' ht => ?_⟩
    cases t with
    | zero => simp at ht; subst ht; simp
    | succ t =>
      rw [List.getElem?_cons_succ] at ht ⊢
      rw [h3 t o' ht]
      simp

def DC (os : Array Oper) (S : Nat → Prop) : Prop := ∀ i o, os[i]? = some o → S i → ∀ e ∈ o.after, Region.binds .any e = true → S e.on

theorem mask_in {os : Array Oper} {S : Nat → Prop} (hdc : DC os S) : ∀ (i : Nat) (o : Oper), os[i]? = some o → (∀ e ∈ o.after, Region.binds .any e = true → S e.on) → ∀ j, Nat.testBit ((masks os).getD i 0) j = true → S j := by
  obtain ⟨tail, h1, h2, h3⟩ := masksGo_spec os.toList []
  have hm : masks os = tail := by rw [masks, h1]; rfl
  intro i
  induction i using Nat.strongRecOn with
  | _ i ih =>
    intro o ho hr j hj
    have hgi : tail[i]? = some (maskOf (tail.take i) o.after.toList) := by
      have := h3 i o (by simpa using ho)
      simpa using this
    rw [hm, List.getD_eq_getElem?_getD, hgi] at hj
    obtain ⟨e, he, hb, hx⟩ := maskOf_bit _ _ _ hj
    have hSe := hr e (by simpa using he) hb
    rcases hx with rfl | hx
    · exact hSe
    · by_cases hlt : e.on < i
      · have hn : i < os.size := (Array.getElem?_eq_some_iff.1 ho).1
        have hoe : os[e.on]? = some os[e.on] := Array.getElem?_eq_getElem (by omega)
        refine ih e.on hlt _ hoe (fun e' he' hb' => hdc e.on _ hoe hSe e' he' hb') j ?_
        rw [hm]
        rw [List.getD_eq_getElem?_getD, List.getElem?_take, if_pos hlt] at hx
        rw [List.getD_eq_getElem?_getD]
        exact hx
      · rw [List.getD_eq_getElem?_getD, List.getElem?_take, if_neg hlt] at hx
        simp at hx
theorem mask_closed {os : Array Oper} {S : Nat → Prop} (hdc : DC os S) {i j : Nat} (hi : i < os.size) (hS : S i) (hj : Nat.testBit ((masks os).getD i 0) j = true) : S j :=
  mask_in hdc i os[i] (Array.getElem?_eq_getElem hi) (fun e he hb => hdc i _ (Array.getElem?_eq_getElem hi) hS e he hb) j hj

theorem edgesOk_spec : ∀ (l : List Oper) (i : Nat), edgesOk i l = true → ∀ t o, l[t]? = some o → ∀ e ∈ o.after, Region.binds .any e = true → e.on < i + t
  | [], i, _, t, o, ht, _, _, _ => by simp at ht
  | x :: l, i, h, t, o, ht, e, he, hb => by
    simp only [edgesOk, Bool.and_eq_true] at h
    cases t with
    | zero =>
      simp at ht
      subst ht
      have := List.all_eq_true.1 h.1 e (by simpa using he)
      rw [hb] at this
      simp only [Bool.not_true, Bool.false_or] at this
      exact Nat.le_of_ble_eq_true this
    | succ t =>
      rw [List.getElem?_cons_succ] at ht
      have := edgesOk_spec l (i + 1) h.2 t o ht e he hb
      omega
theorem aheadOk_spec {os : Array Oper} {oj : Oper} {mj : Nat} : ∀ (l : List Oper) (i : Nat), aheadOk os oj mj i l = true → ∀ t oi, l[t]? = some oi → Nat.testBit mj (i + t) = true ∨ oi.apart os oj = true
  | [], i, _, t, oi, ht => by simp at ht
  | x :: l, i, h, t, oi, ht => by
    simp only [aheadOk, Bool.and_eq_true, Bool.or_eq_true] at h
    cases t with
    | zero => simp at ht; subst ht; exact h.1
    | succ t =>
      rw [List.getElem?_cons_succ] at ht
      have := aheadOk_spec l (i + 1) h.2 t oi ht
      rw [show i + (t + 1) = i + 1 + t from by omega]
      exact this
theorem pairsOk_spec {os : Array Oper} {ms : List Nat} : ∀ (l sofar : List Oper), pairsOk os ms sofar l = true → ∀ t oj, l[t]? = some oj → ∀ i oi, i < sofar.length + t → (sofar ++ l)[i]? = some oi →
    Nat.testBit (ms.getD (sofar.length + t) 0) i = true ∨ oi.apart os oj = true
  | [], sofar, _, t, oj, ht, _, _, _, _ => by simp at ht
  | x :: l, sofar, h, t, oj, ht, i, oi, hi, hoi => by
    simp only [pairsOk, Bool.and_eq_true] at h
    cases t with
    | zero =>
      simp at ht
      subst ht
      rw [List.getElem?_append_left (by omega)] at hoi
      have := aheadOk_spec sofar 0 h.1 i oi hoi
      simpa using this
    | succ t =>
      rw [List.getElem?_cons_succ] at ht
      have := pairsOk_spec l (sofar ++ [x]) h.2 t oj ht i oi (by simp; omega) (by simpa using hoi)
      rw [show sofar.length + (t + 1) = (sofar ++ [x]).length + t from by simp; omega]
      exact this

/-- does the i-th operation turn memory? -/
noncomputable def isMi (P : Program) (os : Array Oper) (i : Nat) : Bool := match os[i]? with
  | some o => isM P o.op
  | none => false
theorem memsFrom_eq (P : Program) : ∀ (l : List Oper) (i : Nat), memsFrom P i l = (List.range' i l.length).filter fun m => match l[m - i]? with | some o => isM P o.op | none => false
  | [], i => by simp [memsFrom]
  | o :: l, i => by
    simp only [memsFrom, List.length_cons, List.range'_succ, List.filter_cons, Nat.sub_self, List.getElem?_cons_zero]
    rw [memsFrom_eq P l (i + 1)]
    have e : (List.range' (i + 1) l.length).filter (fun m => match l[m - (i + 1)]? with | some o => isM P o.op | none => false) =
        (List.range' (i + 1) l.length).filter (fun m => match (o :: l)[m - i]? with | some o => isM P o.op | none => false) := by
      apply List.filter_congr
      intro m hm
      rw [List.mem_range'_1] at hm
      have : m - i = (m - (i + 1)) + 1 := by omega
      rw [this, List.getElem?_cons_succ]
    rw [e]
    cases isM P o.op <;> rfl
theorem mems_eq (P : Program) (os : Array Oper) : memsFrom P 0 os.toList = (List.range os.size).filter (isMi P os) := by
  rw [memsFrom_eq, ← List.range_eq_range', Array.length_toList]
  apply List.filter_congr
  intro m _
  simp [isMi]
theorem chainOk_spec {ms : List Nat} : ∀ (l sofar : List Nat), chainOk ms sofar l = true → (∀ x ∈ sofar, ∀ m ∈ l, Nat.testBit (ms.getD m 0) x = true) ∧ l.Pairwise (fun x m => Nat.testBit (ms.getD m 0) x = true)
  | [], sofar, _ => ⟨fun _ _ _ h => by simp at h, .nil⟩
  | m :: l, sofar, h => by
    simp only [chainOk, Bool.and_eq_true] at h
    obtain ⟨h1, h2⟩ := chainOk_spec l (sofar ++ [m]) h.2
    refine ⟨fun x hx y hy => ?_, ?_⟩
    · rcases List.mem_cons.1 hy with rfl | hy
      · exact List.all_eq_true.1 h.1 x hx
      · exact h1 x (by simp [hx]) y hy
    · exact .cons (fun y hy => h1 m (by simp) y hy) h2
theorem chain_bit {P : Program} {os : Array Oper} {ms : List Nat} (h : chainOk ms [] (memsFrom P 0 os.toList) = true) {x m : Nat} (hx : isMi P os x = true) (hm : isMi P os m = true) (hlt : x < m) : Nat.testBit (ms.getD m 0) x = true := by
  have hp := (chainOk_spec _ _ h).2
  rw [mems_eq] at hp
  have hn : ∀ y, isMi P os y = true → y < os.size := fun y hy => by
    unfold isMi at hy
    split at hy
    · rename_i o ho; exact (Array.getElem?_eq_some_iff.1 ho).1
    · cases hy
  have hs : ((List.range os.size).filter (isMi P os)).Pairwise (· < ·) := List.Pairwise.filter _ List.pairwise_lt_range
  rw [List.pairwise_iff_getElem] at hp hs
  obtain ⟨i, hi, ei⟩ := List.mem_iff_getElem.1 (show x ∈ (List.range os.size).filter (isMi P os) from by simp [hx, hn x hx])
  obtain ⟨j, hj, ej⟩ := List.mem_iff_getElem.1 (show m ∈ (List.range os.size).filter (isMi P os) from by simp [hm, hn m hm])
  have hij : i < j := by
    rcases Nat.lt_trichotomy i j with h' | h' | h'
    · exact h'
    · subst h'; omega
    · have := hs j i hj hi h'; omega
  have := hp i j hi hj hij
  rw [ei, ej] at this
  exact this
theorem isM_cls {P : Program} {os : Array Oper} {i : Nat} {o : Oper} (ho : os[i]? = some o) : isMi P os i = true ↔ cls P o.op = 3 := by
  simp [isMi, ho, isM]

noncomputable def cnt (P : Program) (os : Array Oper) (k : Nat) : Nat := ((List.range k).filter (isMi P os)).length
theorem cnt_succ (P : Program) (os : Array Oper) (k : Nat) : cnt P os (k + 1) = cnt P os k + (if isMi P os k then 1 else 0) := by
  simp only [cnt, List.range_succ, List.filter_append, List.length_append, List.filter_cons, List.filter_nil]
  split <;> simp

theorem cls_le {P : Program} (o : Op) : cls P o ≤ 3 := by
  unfold cls
  split <;> first | (exact Nat.le_refl _) | (exact Nat.zero_le _) | (simp; done) | skip
  · cases (isSlice P _ || isSlice P _) <;> simp
  · rename_i c
    have : clsC c.callee ≤ 3 := by
      unfold clsC
      split
      · unfold clsB; split <;> simp
      · simp
    cases isLenM P c
    · exact this
    · exact (by decide : 1 ≤ 3)

-- the text's order, as a trace

section
variable {P : Program} (rec : Rec) (os : Array Oper) (ms : List Nat) (base : Nat)

abbrev Pend := List (Nat × List AV)
def cut (m : Nat) (p : Pend) : Pend := p.filter fun x => !Nat.testBit m x.1
theorem lay_snd (mask : Nat) (h : H) : ∀ p : Pend, (lay base mask h p).2 = cut mask p
  | [] => rfl
  | (i, cs) :: r => by
    have ih := lay_snd mask h r
    unfold lay
    cases hb : Nat.testBit mask i with
    | true => simp only [sel_true, cut, List.filter_cons, hb]; simpa [cut] using ih
    | false => simp only [sel_false, cut, List.filter_cons, hb]; simpa [cut] using ih

/-- heap and waiting blocks behind an operation -/
def nxt (r : R1) (i : Nat) (s : H × Pend) : H × Pend := match r.k with
  | .mem _ h1 => (h1, cut (ms.getD i 0) s.2)
  | .skip (some hb) => (hb, cut (ms.getD i 0) s.2)
  | .alloc cs => (s.1, (i, cs) :: s.2)
  | _ => s
def StepOK (P : Program) (r : R1) (i : Nat) (s : H × Pend) : Prop := match r.k with
  | .skip none => guardOk r.fr os r.o.guard = some false ∧ r.v = .lit undef ∧ cls P r.o.op ≠ 3
  | .skip (some hb) => guardOk r.fr os r.o.guard = some false ∧ r.v = .lit undef ∧ cls P r.o.op = 3 ∧ hb = (lay base (ms.getD i 0) s.1 s.2).1
  | .pure => guardOk r.fr os r.o.guard = some true ∧ cls P r.o.op ≠ 3 ∧ pureOp P r.fr r.o = some r.v
  | .read => guardOk r.fr os r.o.guard = some true ∧ cls P r.o.op ≠ 3
  | .alloc cs => guardOk r.fr os r.o.guard = some true ∧ cls P r.o.op ≠ 3 ∧ ∃ f, allocOp P r.fr r.o = some (cs, f) ∧ r.v = f (base + i)
  | .mem hb h1 => guardOk r.fr os r.o.guard = some true ∧ cls P r.o.op = 3 ∧ hb = (lay base (ms.getD i 0) s.1 s.2).1 ∧ memOp P rec r.fr r.o hb = some (r.v, h1) ∧ base + os.size ≤ h1.next
def Tr (P : Program) : List R1 → List Oper → Nat → Fr → H × Pend → Fr → H × Pend → Prop
  | [], [], _, fr, s, fr', s' => fr = fr' ∧ s = s'
  | r :: rs, o :: l, i, fr, s, fr', s' => r.fr = fr ∧ r.o = o ∧ StepOK rec os ms base P r i s ∧ ∃ fr1, fr.put o.dst r.v = some fr1 ∧ Tr P rs l (i + 1) fr1 (nxt ms r i s) fr' s'
  | _, _, _, _, _, _, _ => False

theorem pre_some {r : R1} {x : Option Out} {y : Out} (h : pre r x = some y) : ∃ rs z, x = some (rs, z) ∧ y = (r :: rs, z) := by
  unfold pre at h
  split at h
  · rename_i rs z
    injection h with h
    exact ⟨rs, z, rfl, h.symm⟩
  · cases h
theorem dr_Tr : ∀ (l : List Oper) (i : Nat) (fr : Fr) (h : H) (p : Pend) (rs : List R1) (fr' : Fr) (h' : H) (p' : Pend), dr P rec os ms base l i fr h p = some (rs, fr', h', p') → Tr rec os ms base P rs l i fr (h, p) fr' (h', p')
  | [], i, fr, h, p, rs, fr', h', p', hd => by
    simp only [dr] at hd
    injection hd with hd
    simp only [Prod.mk.injEq] at hd
    obtain ⟨rfl, rfl, rfl, rfl⟩ := hd
    exact ⟨rfl, rfl⟩
  | o :: l, i, fr, h, p, rs, fr', h', p', hd => by
    have hls := lay_snd base (ms.getD i 0) h p
    unfold dr at hd
    split at hd
    · cases hd
    · rename_i hg
      split at hd
      · cases hd
      · rename_i fr1 hp
        split at hd
        · rename_i hc
          split at hd
          rename_i hb pd hlay
          obtain ⟨rs1, z, hz, hy⟩ := pre_some hd
          injection hy with e1 e2
          subst e1; subst e2
          have hpd : pd = cut (ms.getD i 0) p := by rw [← hls, hlay]
          subst hpd
          exact ⟨rfl, rfl, ⟨hg, rfl, hc, by rw [hlay]⟩, fr1, hp, dr_Tr l (i + 1) fr1 hb _ rs1 fr' h' p' hz⟩
        · rename_i hc
          obtain ⟨rs1, z, hz, hy⟩ := pre_some hd
          injection hy with e1 e2
          subst e1; subst e2
          exact ⟨rfl, rfl, ⟨hg, rfl, fun e => hc e⟩, fr1, hp, dr_Tr l (i + 1) fr1 h p rs1 fr' h' p' hz⟩
    · rename_i hg
      split at hd
      · rename_i hc
        split at hd
        · cases hd
        · rename_i v hv
          split at hd
          · cases hd
          · rename_i fr1 hp
            obtain ⟨rs1, z, hz, hy⟩ := pre_some hd
            injection hy with e1 e2
            subst e1; subst e2
            exact ⟨rfl, rfl, ⟨hg, (fun e => by rw [hc] at e; cases e), hv⟩, fr1, hp, dr_Tr l (i + 1) fr1 h p rs1 fr' h' p' hz⟩
      · rename_i hc
        split at hd
        · cases hd
        · rename_i v hv
          split at hd
          · cases hd
          · rename_i fr1 hp
            obtain ⟨rs1, z, hz, hy⟩ := pre_some hd
            injection hy with e1 e2
            subst e1; subst e2
            exact ⟨rfl, rfl, ⟨hg, (fun e => by rw [hc] at e; cases e)⟩, fr1, hp, dr_Tr l (i + 1) fr1 h p rs1 fr' h' p' hz⟩
      · rename_i hc
        split at hd
        · cases hd
        · rename_i cs f hv
          split at hd
          · cases hd
          · rename_i fr1 hp
            obtain ⟨rs1, z, hz, hy⟩ := pre_some hd
            injection hy with e1 e2
            subst e1; subst e2
            exact ⟨rfl, rfl, ⟨hg, (fun e => by rw [hc] at e; cases e), f, hv, rfl⟩, fr1, hp, dr_Tr l (i + 1) fr1 h _ rs1 fr' h' p' hz⟩
      · rename_i h0 h1 h2
        split at hd
        rename_i hb pd hlay
        split at hd
        · cases hd
        · rename_i v hh1 hv
          split at hd
          · cases hd
          · rename_i fr1 hp
            obtain ⟨hn, hd⟩ := sel_some hd
            obtain ⟨rs1, z, hz, hy⟩ := pre_some hd
            injection hy with e1 e2
            subst e1; subst e2
            have hpd : pd = cut (ms.getD i 0) p := by rw [← hls, hlay]
            subst hpd
            have hc3 : cls P o.op = 3 := by
              have hle : cls P o.op ≤ 3 := cls_le o.op
              have a0 : cls P o.op ≠ 0 := fun e => h0 e
              have a1 : cls P o.op ≠ 1 := fun e => h1 e
              have a2 : cls P o.op ≠ 2 := fun e => h2 e
              omega
            rw [Nat.ble_eq] at hn
            exact ⟨rfl, rfl, ⟨hg, hc3, by rw [hlay], hv, hn⟩, fr1, hp, dr_Tr l (i + 1) fr1 hh1 _ rs1 fr' h' p' hz⟩
end
end Go.Om
/- A region that draws its order: the trace of the text's order, place by place; blocks that wait. Conditions: none. -/
namespace Go.Om
open Go.RowKit

section
variable {P : Program} {rec : Rec} {os : Array Oper} {ms : List Nat} {base : Nat}

/-- heap and waiting blocks ahead of the t-th operation -/
def stAt (ms : List Nat) : List R1 → Nat → H × Pend → Nat → H × Pend
  | _, _, s, 0 => s
  | [], _, s, _ + 1 => s
  | r :: rs, i, s, t + 1 => stAt ms rs (i + 1) (nxt ms r i s) t
theorem stAt_succ : ∀ (rs : List R1) (i : Nat) (s : H × Pend) (t : Nat) (r : R1), rs[t]? = some r → stAt ms rs i s (t + 1) = nxt ms r (i + t) (stAt ms rs i s t)
  | [], i, s, t, r, h => by simp at h
  | r0 :: rs, i, s, 0, r, h => by
    simp at h
    subst h
    simp [stAt]
  | r0 :: rs, i, s, t + 1, r, h => by
    rw [List.getElem?_cons_succ] at h
    have := stAt_succ rs (i + 1) (nxt ms r0 i s) t r h
    rw [show i + 1 + t = i + (t + 1) from by omega] at this
    simp only [stAt] at this ⊢
    exact this

def frAt (rs : List R1) (fr' : Fr) (t : Nat) : Fr := match rs[t]? with
  | some r => r.fr
  | none => fr'

theorem Tr_length : ∀ (rs : List R1) (l : List Oper) (i : Nat) (fr : Fr) (s : H × Pend) (fr' : Fr) (s' : H × Pend), Tr rec os ms base P rs l i fr s fr' s' → rs.length = l.length ∧ frAt rs fr' 0 = fr ∧ stAt ms rs i s rs.length = s'
  | [], [], i, fr, s, fr', s', h => ⟨rfl, h.1.symm, h.2⟩
  | [], _ :: _, _, _, _, _, _, h => h.elim
  | _ :: _, [], _, _, _, _, _, h => h.elim
  | r :: rs, o :: l, i, fr, s, fr', s', h => by
    obtain ⟨h1, h2, h3, fr1, h4, h5⟩ := h
    obtain ⟨a, b, c⟩ := Tr_length rs l (i + 1) fr1 _ fr' s' h5
    exact ⟨by simp [a], by simp [frAt, h1], by simpa [stAt] using c⟩
theorem Tr_at : ∀ (rs : List R1) (l : List Oper) (i : Nat) (fr : Fr) (s : H × Pend) (fr' : Fr) (s' : H × Pend), Tr rec os ms base P rs l i fr s fr' s' → ∀ t r, rs[t]? = some r →
    l[t]? = some r.o ∧ StepOK rec os ms base P r (i + t) (stAt ms rs i s t) ∧ r.fr.put r.o.dst r.v = some (frAt rs fr' (t + 1))
  | [], [], i, fr, s, fr', s', h, t, r, ht => by simp at ht
  | [], _ :: _, _, _, _, _, _, h, _, _, _ => h.elim
  | _ :: _, [], _, _, _, _, _, h, _, _, _ => h.elim
  | r0 :: rs, o :: l, i, fr, s, fr', s', h, t, r, ht => by
    obtain ⟨h1, h2, h3, fr1, h4, h5⟩ := h
    cases t with
    | zero =>
      simp at ht
      subst ht
      subst h2
      refine ⟨rfl, h3, ?_⟩
      obtain ⟨_, b, _⟩ := Tr_length rs l (i + 1) fr1 _ fr' s' h5
      rw [h1, h4]
      simp only [frAt, List.getElem?_cons_succ] at b ⊢
      rw [b]
    | succ t =>
      rw [List.getElem?_cons_succ] at ht
      obtain ⟨a, b, c⟩ := Tr_at rs l (i + 1) fr1 _ fr' s' h5 t r ht
      refine ⟨by simpa using a, ?_, ?_⟩
      · rw [show i + (t + 1) = i + 1 + t from by omega]
        simpa [stAt] using b
      · simpa [frAt] using c

theorem Fr_put_some {fr fr1 : Fr} {d : Option Tmp} {v : AV} (h : fr.put d v = some fr1) : fr1.n = fr.n ∧ fr1.g = fr.g ∧ (∀ t, d = some t → t < fr.n) ∧ ∀ t u, fr1.tm.get t = some u → (d = some t ∧ v = u) ∨ (d ≠ some t ∧ fr.tm.get t = some u) := by
  cases d with
  | none =>
    have h' : some fr = some fr1 := h
    injection h' with h'
    subst h'
    exact ⟨rfl, rfl, (fun t e => by cases e), fun t u hu => .inr ⟨by simp, hu⟩⟩
  | some d =>
    have h' : sel (Nat.ble (Nat.succ d) fr.n) (forceA v fun v => some (⟨fr.tm.put d v, fr.n, fr.g⟩ : Fr)) none = some fr1 := h
    obtain ⟨h1, h2⟩ := sel_some h'
    rw [forceA_eq] at h2
    injection h2 with h2
    subst h2
    rw [Nat.ble_eq] at h1
    refine ⟨rfl, rfl, (fun t e => by injection e with e; subst e; exact h1), fun t u hu => ?_⟩
    rcases get_put hu with ⟨rfl, rfl⟩ | ⟨hne, hu⟩
    · exact .inl ⟨rfl, rfl⟩
    · exact .inr ⟨fun e => hne (by injection e with e; exact e.symm), hu⟩

/-- blocks laid one by one -/
noncomputable def addAll (base : Nat) (h : H) : Pend → H
  | [] => h
  | (i, cs) :: r => (addAll base h r).add (base + i) (mkBlk cs)
theorem layAll_eq (h : H) : ∀ p : Pend, layAll base h p = addAll base h p
  | [] => rfl
  | (i, cs) :: r => by simp only [layAll, addAll, layAll_eq h r]
theorem lay_fst (mask : Nat) (h : H) : ∀ p : Pend, (lay base mask h p).1 = addAll base h (p.filter fun x => Nat.testBit mask x.1)
  | [] => rfl
  | (i, cs) :: r => by
    have ih := lay_fst mask h r
    unfold lay
    cases hb : Nat.testBit mask i with
    | true => simp only [sel_true, List.filter_cons, hb, if_true, addAll, ih]
    | false => simp only [sel_false, List.filter_cons, hb, Bool.false_eq_true, if_false, ih]

variable {γ : G} {h : H} {F : Nat → Option Obj} {w0 w : World}

theorem HR.absorb (hh : HR γ h F w0 w) {b B : Nat} {cs : List AV} {ccs : List Value} {e : TypeId} (hb : γ.blk b = some (B, 0)) (hF : F B = some (.cells ⟨ccs⟩ e (0, 0))) (hB : w0.heap.size ≤ B) (hr : Rs γ cs ccs) :
    HR γ (h.add b (mkBlk cs)) (fun X => if X = B then none else F X) w0 w := by
  have hother : ∀ b' k' O', h.blks.get b' = some k' → γ.blk b' = some (B, O') → False := fun b' k' O' hk hb' => by
    obtain ⟨B1, O1, p1, p2, p3, _⟩ := hh.here b' k' hk
    rw [hb'] at p1
    injection p1 with p1
    injection p1 with e1 _
    subst e1
    cases hro : k'.ro with
    | false => rw [p2 hro] at hF; cases hF
    | true => have := (p3 hro).1; omega
  refine { hh with low := fun X o hX => ?_, here := fun c l hc => ?_, inj := fun c c' l l' B1 P1 P2 hc hc' hB1 hB2 hl => ?_ }
  · split at hX
    · cases hX
    · exact hh.low X o hX
  · rcases get_put hc with ⟨rfl, rfl⟩ | ⟨hne, hc⟩
    · refine ⟨B, 0, hb, fun _ => by simp, (fun e => by cases e), ?_⟩
      refine at_new (more := []) (e := e) (fz := (0, 0)) hr ?_ rfl (fun i _ => by simp) (fun t sz hts => by cases hts)
      rw [List.append_nil]
      exact hh.low _ _ hF
    · obtain ⟨B1, O1, p1, p2, p3, p4⟩ := hh.here c l hc
      have hne1 : B1 ≠ B := fun e => by subst e; exact hother c l O1 hc p1
      refine ⟨B1, O1, p1, fun hro => by simp [hne1, p2 hro], fun hro => ⟨(p3 hro).1, by simp only [hne1, if_false]; exact (p3 hro).2⟩, p4⟩
  · rcases get_put hc with ⟨rfl, rfl⟩ | ⟨hne, hc1⟩
    · rcases get_put hc' with ⟨rfl, _⟩ | ⟨hne', hc1'⟩
      · rfl
      · rw [hb] at hB1
        injection hB1 with hB1
        injection hB1 with e1 _
        subst e1
        exact (hother _ _ _ hc1' hB2).elim
    · rcases get_put hc' with ⟨rfl, _⟩ | ⟨hne', hc1'⟩
      · rw [hb] at hB2
        injection hB2 with hB2
        injection hB2 with e1 _
        subst e1
        exact (hother _ _ _ hc1 hB1).elim
      · exact hh.inj c c' l l' B1 P1 P2 hc1 hc1' hB1 hB2 hl

/-- a block that waits lies outside the heap -/
def Waits (γ : G) (F : Nat → Option Obj) (w0 : World) (base j : Nat) (cs : List AV) : Prop := ∃ (B : Nat) (ccs : List Value) (e : TypeId), γ.blk (base + j) = some (B, 0) ∧ F B = some (.cells ⟨ccs⟩ e (0, 0)) ∧ w0.heap.size ≤ B ∧ Rs γ cs ccs

open Classical in
theorem HR.addAll (hh : HR γ h F w0 w) : ∀ q : Pend, (∀ x ∈ q, Waits γ F w0 base x.1 x.2) → q.Pairwise (fun x y => ∀ B, γ.blk (base + x.1) = some (B, 0) → γ.blk (base + y.1) = some (B, 0) → False) →
    HR γ (addAll base h q) (fun B => if ∃ x ∈ q, γ.blk (base + x.1) = some (B, 0) then none else F B) w0 w
  | [], _, _ => by
    have e : (fun B => if ∃ x ∈ ([] : Pend), γ.blk (base + x.1) = some (B, 0) then none else F B) = F := by funext B; simp
    rw [e]
    exact hh
  | (j, cs) :: r, hw, hp => by
    have ih := HR.addAll hh r (fun x hx => hw x (by simp [hx])) (List.pairwise_cons.1 hp).2
    obtain ⟨B, ccs, e, h1, h2, h3, h4⟩ := hw (j, cs) (by simp)
    have hnot : ¬ ∃ x ∈ r, γ.blk (base + x.1) = some (B, 0) := fun ⟨x, hx, hxB⟩ => (List.pairwise_cons.1 hp).1 x hx B h1 hxB
    have := ih.absorb (b := base + j) (cs := cs) h1 (by rw [if_neg hnot]; exact h2) h3 h4
    have e : (fun X => if X = B then none else if ∃ x ∈ r, γ.blk (base + x.1) = some (X, 0) then none else F X) = (fun X => if ∃ x ∈ (j, cs) :: r, γ.blk (base + x.1) = some (X, 0) then none else F X) := by
      funext X
      by_cases hX : X = B
      · subst hX
        rw [if_pos rfl, if_pos ⟨(j, cs), by simp, h1⟩]
      · rw [if_neg hX]
        by_cases hr : ∃ x ∈ r, γ.blk (base + x.1) = some (X, 0)
        · rw [if_pos hr]
          obtain ⟨x, hx, hxX⟩ := hr
          rw [if_pos ⟨x, by simp [hx], hxX⟩]
        · rw [if_neg hr, if_neg]
          rintro ⟨x, hx, hxX⟩
          rcases List.mem_cons.1 hx with rfl | hx
          · rw [h1] at hxX
            injection hxX with hxX
            injection hxX with e1 _
            exact hX e1.symm
          · exact hr ⟨x, hx, hxX⟩
    rw [← e]
    exact this

/-- a new block that waits -/
theorem HR.newOut (hh : HR γ h F w0 w) {b : Nat} (obj : Obj) (hb : γ.blk b = none) (hbn : b < h.next) :
    HR (γ.add b w.heap.size 0) h (fun X => if X = w.heap.size then some obj else F X) w0 (w.alloc obj) := by
  have keep : ∀ i, i < w.heap.size → (w.alloc obj).heap[i]? = w.heap[i]? := fun i hi => Below.heap_alloc w obj i hi
  refine { os := hh.os, tape := hh.tape, output := hh.output, size := by simp; exact Nat.le_succ_of_le hh.size, low := fun X o hX => ?_, fresh := fun b' hb' => ?_, ftok := hh.ftok, here := fun c l hc => ?_, inj := fun c c' l l' B1 P1 P2 hc hc' hB1 hB2 hl => ?_ }
  · split at hX
    · rename_i e
      subst e
      injection hX with hX
      subst hX
      show (w.heap.push _)[w.heap.size]? = _
      simp
    · have := hh.low X o hX
      rw [keep X (Array.getElem?_eq_some_iff.1 this).1]
      exact this
  · simp only [G.add]
    rw [if_neg (by omega)]
    exact hh.fresh b' hb'
  · obtain ⟨B1, O1, p1, p2, p3, p4⟩ := hh.here c l hc
    have hne : B1 ≠ w.heap.size := by have := p4.lt; omega
    exact ⟨B1, O1, (G.le_add γ hb).1 _ _ p1, fun hro => by simp [hne, p2 hro], fun hro => ⟨(p3 hro).1, by simp only [hne, if_false]; exact (p3 hro).2⟩, p4.mono (G.le_add γ hb) (keep B1 p4.lt)⟩
  · obtain ⟨B3, O3, p1, _⟩ := hh.here c l hc
    obtain ⟨B4, O4, p2, _⟩ := hh.here c' l' hc'
    have q1 := (G.le_add γ (B := w.heap.size) (O := 0) hb).1 _ _ p1
    have q2 := (G.le_add γ (B := w.heap.size) (O := 0) hb).1 _ _ p2
    rw [hB1] at q1
    rw [hB2] at q2
    injection q1 with q1
    injection q1 with e1 e2
    injection q2 with q2
    injection q2 with e3 e4
    subst e1; subst e2; subst e3; subst e4
    exact hh.inj c c' l l' _ _ _ hc hc' p1 p2 hl
end
end Go.Om
/- A region that draws its order: whatever order is drawn comes to what the evaluator tells. Conditions: none. -/
namespace Go.Om
open Go.RowKit

-- equal abstract values

theorem intEq_true {a b : Int} (h : intEq a b = true) : a = b := by rw [intEq_eq] at h; simpa using h
theorem beqB_true {x y : ByteArray} (h : beqB x.data.toList y.data.toList = true) : x = y := by
  rw [beqB_eq] at h
  have h : x.data.toList = y.data.toList := by simpa using h
  have : x.data = y.data := Array.ext' h
  cases x; cases y
  simp at this
  subst this
  rfl
theorem veq1_eq {a b : Value} (h : veq1 a b = true) : a = b := by
  unfold veq1 at h
  split at h
  · rename_i x y; cases x <;> cases y <;> first | rfl | (simp at h)
  · simp only [Bool.and_eq_true] at h
    rw [kEq_eq h.1, intEq_true h.2]
  · rw [beqB_true h]
  · rfl
  · simp only [Bool.and_eq_true, Nat.beq_eq] at h
    rw [h.1, h.2]
  · rfl
  · rfl
  · rw [Nat.beq_eq] at h; rw [h]
  · simp only [Bool.and_eq_true, Nat.beq_eq] at h
    rw [h.1, beqB_true h.2]
  · simp only [Bool.and_eq_true, Nat.beq_eq] at h
    rw [h.1, kEq_eq h.2.1, intEq_true h.2.2]
  · cases h
theorem veqs_eq : ∀ (x y : List Value), veqs x y = true → x = y
  | [], [], _ => rfl
  | [], _ :: _, h => by cases h
  | _ :: _, [], h => by cases h
  | a :: x, b :: y, h => by
    simp only [veqs, Bool.and_eq_true] at h
    rw [veq1_eq h.1, veqs_eq x y h.2]
theorem capEq_eq {a b : Cap} (h : capEq a b = true) : a = b := by
  cases a <;> cases b <;> simp only [capEq, Bool.and_eq_true, Nat.beq_eq] at h <;> first | (cases h; done) | skip
  · rw [h]
  · rw [h.1, h.2]
theorem aveq1_eq {a b : AV} (h : aveq1 a b = true) : a = b := by
  unfold aveq1 at h
  split at h
  · rename_i x y
    have := veqs_eq _ _ h
    rw [Array.ext' this]
  · rw [veq1_eq h]
  · simp only [Bool.and_eq_true, Nat.beq_eq] at h
    rw [h.1, h.2]
  · simp only [Bool.and_eq_true, Nat.beq_eq] at h
    obtain ⟨⟨⟨h1, h2⟩, h3⟩, h4⟩ := h
    rw [h1, h2, h3, capEq_eq h4]
  · cases h
theorem aveqs_eq : ∀ (x y : List AV), aveqs x y = true → x = y
  | [], [], _ => rfl
  | [], _ :: _, h => by cases h
  | _ :: _, [], h => by cases h
  | a :: x, b :: y, h => by
    simp only [aveqs, Bool.and_eq_true] at h
    rw [aveq1_eq h.1, aveqs_eq x y h.2]
theorem aveq_eq {a b : AV} (h : aveq a b = true) : a = b := by
  unfold aveq at h
  split at h
  · rw [aveqs_eq _ _ h]
  · simp only [Bool.and_eq_true, Nat.beq_eq] at h
    rw [h.1, aveqs_eq _ _ h.2.1, aveqs_eq _ _ h.2.2]
  · exact aveq1_eq h

section
variable {P : Program} {rec : Rec} {os : Array Oper} {base : Nat}

theorem readsOk_spec {ms mems : List Nat} {hs : List H} : ∀ (rs : List R1) (i : Nat), readsOk P ms mems hs i rs = true → ∀ t r, rs[t]? = some r → r.k = .read →
    ∀ h ∈ (hs.drop (mems.filter (fun m => Nat.testBit (ms.getD (i + t) 0) m)).length).take ((mems.filter (fun m => !Nat.testBit (ms.getD m 0) (i + t))).length + 1 - (mems.filter (fun m => Nat.testBit (ms.getD (i + t) 0) m)).length), readOp P r.fr r.o h = some r.v
  | [], i, _, t, r, ht, _, _, _ => by simp at ht
  | r0 :: rs, i, h, t, r, ht, hk, hp, hm => by
    obtain ⟨fr0, o0, v0, k0⟩ := r0
    simp only [readsOk, Bool.and_eq_true] at h
    cases t with
    | zero =>
      simp at ht
      subst ht
      simp only at hk
      subst hk
      have h1 := List.all_eq_true.1 h.1 hp (by simpa using hm)
      split at h1
      · rename_i u hu
        rw [aveq_eq h1] at hu
        exact hu
      · cases h1
    | succ t =>
      rw [List.getElem?_cons_succ] at ht
      have := readsOk_spec rs (i + 1) h.2 t r ht hk hp
      rw [show i + 1 + t = i + (t + 1) from by omega] at this
      exact this hm
theorem mem_window {α : Type} {l : List α} {x : α} {q lo hi : Nat} (h : l[q]? = some x) (h1 : lo ≤ q) (h2 : q ≤ hi) : x ∈ (l.drop lo).take (hi + 1 - lo) := by
  refine List.mem_of_getElem? (i := q - lo) ?_
  rw [List.getElem?_take, if_pos (by omega), List.getElem?_drop]
  rw [show lo + (q - lo) = q from by omega]
  exact h

/-- all that the evaluator has told of the region -/
structure Told (P : Program) (rec : Rec) (os : Array Oper) (base : Nat) (rs : List R1) (h0 : H) (fr0 fr' : Fr) : Prop where
  edges : ∀ i o, os[i]? = some o → ∀ e ∈ o.after, Region.binds .any e = true → e.on < i
  pairs : ∀ i j oi oj, i < j → os[i]? = some oi → os[j]? = some oj → Nat.testBit ((masks os).getD j 0) i = true ∨ oi.apart os oj = true
  chain : ∀ x m, isMi P os x = true → isMi P os m = true → x < m → Nat.testBit ((masks os).getD m 0) x = true
  len : rs.length = os.size
  at_ : ∀ t r, rs[t]? = some r → os[t]? = some r.o ∧ StepOK rec os (masks os) base P r t (stAt (masks os) rs 0 (h0, []) t) ∧ r.fr.put r.o.dst r.v = some (frAt rs fr' (t + 1))
  first : frAt rs fr' 0 = fr0
  reads : ∀ t r, rs[t]? = some r → r.k = .read → ∀ q h, ((memsFrom P 0 os.toList).filter (fun m => Nat.testBit ((masks os).getD t 0) m)).length ≤ q → q ≤ ((memsFrom P 0 os.toList).filter (fun m => !Nat.testBit ((masks os).getD m 0) t)).length →
    (h0 :: heapsOf rs)[q]? = some h → readOp P r.fr r.o h = some r.v
  next : base + os.size ≤ h0.next

variable {rs : List R1} {h0 : H} {fr0 fr' : Fr} (T : Told P rec os base rs h0 fr0 fr')
include T

theorem Told.rec_at {t : Nat} (h : t < os.size) : ∃ r, rs[t]? = some r := ⟨rs[t]'(by rw [T.len]; exact h), List.getElem?_eq_getElem (by rw [T.len]; exact h)⟩
theorem Told.mask_lt {m j : Nat} (hm : m < os.size) (h : Nat.testBit ((masks os).getD m 0) j = true) : j < m := by
  have ho : os[m]? = some os[m] := Array.getElem?_eq_getElem hm
  refine mask_in (S := fun x => x < m) (fun i o hoi hi e he hb => ?_) m _ ho (fun e he hb => T.edges m _ ho e he hb) j h
  have := T.edges i o hoi e he hb
  show e.on < m
  have : i < m := hi
  omega
/-- is the t-th a turn of memory? -/
theorem Told.kind {t : Nat} {r : R1} (h : rs[t]? = some r) : isMi P os t = true ↔ ((∃ hb h1, r.k = .mem hb h1) ∨ ∃ hb, r.k = .skip (some hb)) := by
  obtain ⟨ho, hs, _⟩ := T.at_ t r h
  rw [isM_cls ho]
  unfold StepOK at hs
  split at hs
  · rename_i hk
    exact ⟨fun e => absurd e hs.2.2, fun e => by rcases e with ⟨_, _, e⟩ | ⟨_, e⟩ <;> rw [hk] at e <;> cases e⟩
  · rename_i hb hk
    exact ⟨fun _ => .inr ⟨hb, hk⟩, fun _ => hs.2.2.1⟩
  · rename_i hk
    exact ⟨fun e => absurd e hs.2.1, fun e => by rcases e with ⟨_, _, e⟩ | ⟨_, e⟩ <;> rw [hk] at e <;> cases e⟩
  · rename_i hk
    exact ⟨fun e => absurd e hs.2, fun e => by rcases e with ⟨_, _, e⟩ | ⟨_, e⟩ <;> rw [hk] at e <;> cases e⟩
  · rename_i cs hk
    exact ⟨fun e => absurd e hs.2.1, fun e => by rcases e with ⟨_, _, e⟩ | ⟨_, e⟩ <;> rw [hk] at e <;> cases e⟩
  · rename_i hb h1 hk
    exact ⟨fun _ => .inl ⟨hb, h1, hk⟩, fun _ => hs.2.1⟩

theorem Told.st_same {t : Nat} (ht : t < os.size) (h : isMi P os t = false) : (stAt (masks os) rs 0 (h0, []) (t + 1)).1 = (stAt (masks os) rs 0 (h0, []) t).1 := by
  obtain ⟨r, hr⟩ := T.rec_at ht
  rw [stAt_succ rs 0 (h0, []) t r hr]
  have hk := T.kind hr
  rw [h] at hk
  unfold nxt
  split
  · rename_i hk'; exact absurd (hk.2 (.inl ⟨_, _, hk'⟩)) (by simp)
  · rename_i hk'; exact absurd (hk.2 (.inr ⟨_, hk'⟩)) (by simp)
  · rfl
  · rfl
theorem Told.st_const {t k : Nat} (h1 : t ≤ k) (h2 : k ≤ os.size) (h : ∀ m, t ≤ m → m < k → isMi P os m = false) : (stAt (masks os) rs 0 (h0, []) k).1 = (stAt (masks os) rs 0 (h0, []) t).1 := by
  induction k with
  | zero => have : t = 0 := by omega
            subst this; rfl
  | succ k ih =>
    by_cases hk : t ≤ k
    · rw [T.st_same (by omega) (h k hk (by omega))]
      exact ih hk (by omega) (fun m a b => h m a (by omega))
    · have : t = k + 1 := by omega
      subst this; rfl
/-- two places with the same turns of memory ahead of them -/
theorem Told.st_eq {t k : Nat} (h1 : t ≤ os.size) (h2 : k ≤ os.size) (h : ∀ m, isMi P os m = true → (m < t ↔ m < k)) : (stAt (masks os) rs 0 (h0, []) k).1 = (stAt (masks os) rs 0 (h0, []) t).1 := by
  have key : ∀ m, (t ≤ m ∧ m < k) ∨ (k ≤ m ∧ m < t) → isMi P os m = false := fun m hm => by
    cases hM : isMi P os m with
    | false => rfl
    | true => have := h m hM; omega
  rcases Nat.le_total t k with hle | hle
  · exact T.st_const hle h2 (fun m a b => key m (.inl ⟨a, b⟩))
  · exact (T.st_const hle h1 (fun m a b => key m (.inr ⟨a, b⟩))).symm
end
end Go.Om
/- A region that draws its order: which blocks wait, and which heap is read when. Conditions: none. -/
namespace Go.Om
open Go.RowKit

section
variable {P : Program} {rec : Rec} {os : Array Oper} {base : Nat}

/-- is the record a turn of memory? -/
def isMr (r : R1) : Bool := match r.k with
  | .mem _ _ => true
  | .skip (some _) => true
  | _ => false
theorem heaps_at (ms : List Nat) : ∀ (rs : List R1) (i : Nat) (s : H × Pend) (t : Nat), t ≤ rs.length → (s.1 :: heapsOf rs)[((rs.take t).filter isMr).length]? = some (stAt ms rs i s t).1
  | rs, i, s, 0, _ => by cases rs <;> simp [stAt]
  | [], i, s, t + 1, h => by simp at h
  | r :: rs, i, s, t + 1, h => by
    have ih := heaps_at ms rs (i + 1) (nxt ms r i s) t (by simpa using h)
    obtain ⟨fr, o, v, k⟩ := r
    simp only [stAt, List.take_succ_cons, List.filter_cons]
    cases k with
    | mem hb h1 => simpa [isMr, heapsOf, nxt] using ih
    | skip m =>
      cases m with
      | some hb => simpa [isMr, heapsOf, nxt] using ih
      | none => simpa [isMr, heapsOf, nxt] using ih
    | pure => simpa [isMr, heapsOf, nxt] using ih
    | read => simpa [isMr, heapsOf, nxt] using ih
    | alloc cs => simpa [isMr, heapsOf, nxt] using ih

theorem cnt_eq_mems (P : Program) (os : Array Oper) {K : Nat} (hK : K ≤ os.size) : cnt P os K = ((memsFrom P 0 os.toList).filter (fun m => decide (m < K))).length := by
  rw [mems_eq, List.filter_filter]
  unfold cnt
  have : List.range os.size = List.range K ++ (List.range (os.size - K)).map (K + ·) := by
    have : os.size = K + (os.size - K) := by omega
    rw [this, List.range_add]
    simp
  rw [this, List.filter_append, List.length_append]
  have e1 : (List.range K).filter (fun a => decide (a < K) && isMi P os a) = (List.range K).filter (isMi P os) := by
    apply List.filter_congr
    intro m hm
    simp at hm
    simp [hm]
  have e2 : ((List.range (os.size - K)).map (K + ·)).filter (fun a => decide (a < K) && isMi P os a) = [] := by
    rw [List.filter_eq_nil_iff]
    intro m hm
    simp at hm
    obtain ⟨x, _, rfl⟩ := hm
    simp
    intro h
    omega
  rw [e1, e2]
  simp

variable {rs : List R1} {h0 : H} {fr0 fr' : Fr} (T : Told P rec os base rs h0 fr0 fr')
include T

theorem Told.isMr_iff {t : Nat} {r : R1} (h : rs[t]? = some r) : isMr r = isMi P os t := by
  have hk := T.kind h
  unfold isMr
  split
  · rename_i hk'; exact (hk.2 (.inl ⟨_, _, hk'⟩)).symm
  · rename_i hk'; exact (hk.2 (.inr ⟨_, hk'⟩)).symm
  · rename_i h1 h2
    cases hM : isMi P os t with
    | false => rfl
    | true =>
      rcases hk.1 hM with ⟨hb, h3, e⟩ | ⟨hb, e⟩
      · exact (h1 _ _ e).elim
      · exact (h2 _ e).elim
theorem Told.count (t : Nat) (ht : t ≤ os.size) : ((rs.take t).filter isMr).length = cnt P os t := by
  induction t with
  | zero => simp [cnt]
  | succ t ih =>
    obtain ⟨r, hr⟩ := T.rec_at (by omega : t < os.size)
    rw [List.take_add_one, hr, List.filter_append, List.length_append, ih (by omega), cnt_succ]
    simp only [Option.toList_some, List.filter_cons, List.filter_nil]
    rw [T.isMr_iff hr]
    cases isMi P os t <;> simp
theorem Told.heap_at (t : Nat) (ht : t ≤ os.size) : (h0 :: heapsOf rs)[cnt P os t]? = some (stAt (masks os) rs 0 (h0, []) t).1 := by
  rw [← T.count t ht]
  exact heaps_at (masks os) rs 0 (h0, []) t (by rw [T.len]; exact ht)

/-- what is read is read of the heap that there is -/
theorem Told.read_at {S : Nat → Prop} (hdc : DC os S) {t : Nat} {r : R1} (hr : rs[t]? = some r) (hk : r.k = .read) (hready : ∀ e ∈ r.o.after, Region.binds .any e = true → S e.on) (hnot : ¬ S t) {K : Nat} (hK : K ≤ os.size) (hS : ∀ m, isMi P os m = true → (S m ↔ m < K)) :
    readOp P r.fr r.o (stAt (masks os) rs 0 (h0, []) K).1 = some r.v := by
  have ho := (T.at_ t r hr).1
  refine T.reads t r hr hk (cnt P os K) _ ?_ ?_ (T.heap_at K hK)
  · rw [cnt_eq_mems P os hK, ← List.countP_eq_length_filter, ← List.countP_eq_length_filter]
    refine List.countP_mono_left fun m hm hb => ?_
    have hM : isMi P os m = true := by rw [mems_eq] at hm; exact (List.mem_filter.1 hm).2
    have := mask_in hdc t r.o ho hready m hb
    simpa using (hS m hM).1 this
  · rw [cnt_eq_mems P os hK, ← List.countP_eq_length_filter, ← List.countP_eq_length_filter]
    refine List.countP_mono_left fun m hm hb => ?_
    rw [mems_eq, List.mem_filter, List.mem_range] at hm
    have hSm : S m := (hS m hm.2).2 (by simpa using hb)
    cases hbit : Nat.testBit ((masks os).getD m 0) t with
    | false => rfl
    | true => exact absurd (mask_closed hdc hm.1 hSm hbit) hnot

/-- which blocks wait ahead of the t-th operation -/
theorem Told.pend_at (t : Nat) (ht : t ≤ os.size) : (∀ j cs, (j, cs) ∈ (stAt (masks os) rs 0 (h0, []) t).2 ↔ j < t ∧ (∃ r, rs[j]? = some r ∧ r.k = .alloc cs) ∧ ∀ m, m < t → isMi P os m = true → Nat.testBit ((masks os).getD m 0) j = false) ∧
    (stAt (masks os) rs 0 (h0, []) t).2.Pairwise (fun x y => y.1 < x.1) := by
  induction t with
  | zero => exact ⟨fun j cs => by simp [stAt], by simp [stAt]⟩
  | succ t ih =>
    obtain ⟨ih1, ih2⟩ := ih (by omega)
    obtain ⟨r, hr⟩ := T.rec_at (by omega : t < os.size)
    rw [stAt_succ rs 0 (h0, []) t r hr]
    rw [Nat.zero_add]
    have hk := T.kind hr
    have hcut : isMi P os t = true → (∀ cs, r.k ≠ .alloc cs) → ∀ j cs, (j, cs) ∈ cut ((masks os).getD t 0) (stAt (masks os) rs 0 (h0, []) t).2 ↔ j < t + 1 ∧ (∃ r, rs[j]? = some r ∧ r.k = .alloc cs) ∧ ∀ m, m < t + 1 → isMi P os m = true → Nat.testBit ((masks os).getD m 0) j = false := fun hM hna j cs => by
      unfold cut
      rw [List.mem_filter, ih1]
      constructor
      · rintro ⟨⟨a, b, c⟩, d⟩
        refine ⟨by omega, b, fun m hm hMm => ?_⟩
        rcases Nat.lt_succ_iff_lt_or_eq.1 hm with h | rfl
        · exact c m h hMm
        · simpa using d
      · rintro ⟨a, ⟨r', hr', hk'⟩, c⟩
        have hne : j ≠ t := fun e => by
          subst e
          rw [hr] at hr'
          injection hr' with hr'
          subst hr'
          exact hna _ hk'
        exact ⟨⟨by omega, ⟨r', hr', hk'⟩, fun m hm hMm => c m (by omega) hMm⟩, by simpa using c t (by omega) hM⟩
    have hplain : isMi P os t = false → (∀ cs, r.k ≠ .alloc cs) → ∀ j cs, (j, cs) ∈ (stAt (masks os) rs 0 (h0, []) t).2 ↔ j < t + 1 ∧ (∃ r, rs[j]? = some r ∧ r.k = .alloc cs) ∧ ∀ m, m < t + 1 → isMi P os m = true → Nat.testBit ((masks os).getD m 0) j = false := fun hM hna j cs => by
      rw [ih1]
      constructor
      · rintro ⟨a, b, c⟩
        refine ⟨by omega, b, fun m hm hMm => ?_⟩
        rcases Nat.lt_succ_iff_lt_or_eq.1 hm with h | rfl
        · exact c m h hMm
        · rw [hM] at hMm; cases hMm
      · rintro ⟨a, ⟨r', hr', hk'⟩, c⟩
        have hne : j ≠ t := fun e => by
          subst e
          rw [hr] at hr'
          injection hr' with hr'
          subst hr'
          exact hna _ hk'
        exact ⟨by omega, ⟨r', hr', hk'⟩, fun m hm hMm => c m (by omega) hMm⟩
    have hnM : (∀ hb h1, r.k ≠ .mem hb h1) → (∀ hb, r.k ≠ .skip (some hb)) → isMi P os t = false := fun a b => by
      cases hM : isMi P os t with
      | false => rfl
      | true =>
        rcases hk.1 hM with ⟨hb, h1, e⟩ | ⟨hb, e⟩
        · exact absurd e (a _ _)
        · exact absurd e (b _)
    unfold nxt
    split
    · rename_i hb h1 hk'
      exact ⟨hcut (hk.2 (.inl ⟨_, _, hk'⟩)) (fun cs e => by rw [hk'] at e; cases e), List.Pairwise.filter _ ih2⟩
    · rename_i hb hk'
      exact ⟨hcut (hk.2 (.inr ⟨_, hk'⟩)) (fun cs e => by rw [hk'] at e; cases e), List.Pairwise.filter _ ih2⟩
    · rename_i cs0 hk'
      have hM := hnM (fun hb h1 e => by rw [hk'] at e; cases e) (fun hb e => by rw [hk'] at e; cases e)
      refine ⟨fun j cs => ?_, List.pairwise_cons.2 ⟨fun x hx => ((ih1 x.1 x.2).1 hx).1, ih2⟩⟩
      simp only [List.mem_cons, Prod.mk.injEq]
      rw [ih1]
      constructor
      · rintro (⟨rfl, rfl⟩ | ⟨a, b, c⟩)
        · refine ⟨by omega, ⟨r, hr, hk'⟩, fun m hm hMm => ?_⟩
          cases hbit : Nat.testBit ((masks os).getD m 0) j with
          | false => rfl
          | true => have := T.mask_lt (by omega) hbit; omega
        · refine ⟨by omega, b, fun m hm hMm => ?_⟩
          rcases Nat.lt_succ_iff_lt_or_eq.1 hm with h | rfl
          · exact c m h hMm
          · rw [hM] at hMm; cases hMm
      · rintro ⟨a, ⟨r', hr', hk2⟩, c⟩
        by_cases hne : j = t
        · subst hne
          rw [hr] at hr'
          injection hr' with hr'
          subst hr'
          rw [hk'] at hk2
          injection hk2 with hk2
          exact .inl ⟨rfl, hk2.symm⟩
        · exact .inr ⟨by omega, ⟨r', hr', hk2⟩, fun m hm hMm => c m (by omega) hMm⟩
    · rename_i h1 h2 h3
      have hM := hnM (fun hb h1' e => h1 _ _ e) (fun hb e => h2 _ e)
      exact ⟨hplain hM (fun cs e => h3 _ e), ih2⟩

/-- what a frame of the text's order holds -/
theorem Told.frame_at : ∀ (i : Nat), i ≤ os.size → (frAt rs fr' i).n = fr0.n ∧ (frAt rs fr' i).g = fr0.g ∧ ∀ t v, (frAt rs fr' i).tm.get t = some v →
    (∃ j r, j < i ∧ rs[j]? = some r ∧ r.o.dst = some t ∧ r.v = v ∧ ∀ k r', j < k → k < i → rs[k]? = some r' → r'.o.dst ≠ some t) ∨
    ((∀ k r', k < i → rs[k]? = some r' → r'.o.dst ≠ some t) ∧ fr0.tm.get t = some v) := by
  intro i
  induction i with
  | zero =>
    intro _
    rw [T.first]
    exact ⟨rfl, rfl, fun t v h => .inr ⟨fun k r' hk => by omega, h⟩⟩
  | succ i ih =>
    intro hi
    obtain ⟨ih1, ih2, ih3⟩ := ih (by omega)
    obtain ⟨r, hr⟩ := T.rec_at (by omega : i < os.size)
    obtain ⟨_, _, hp⟩ := T.at_ i r hr
    have hfi : frAt rs fr' i = r.fr := by simp [frAt, hr]
    obtain ⟨p1, p2, p3, p4⟩ := Fr_put_some hp
    rw [hfi] at ih1 ih2 ih3
    refine ⟨p1.trans ih1, p2.trans ih2, fun t v ht => ?_⟩
    rcases p4 t v ht with ⟨hd, rfl⟩ | ⟨hd, ht⟩
    · exact .inl ⟨i, r, by omega, hr, hd, rfl, fun k r' a b => by omega⟩
    · rcases ih3 t v ht with ⟨j, r1, a, b, c, d, e⟩ | ⟨a, b⟩
      · refine .inl ⟨j, r1, by omega, b, c, d, fun k r' hk1 hk2 hk3 => ?_⟩
        rcases Nat.lt_succ_iff_lt_or_eq.1 hk2 with h | rfl
        · exact e k r' hk1 h hk3
        · rw [hr] at hk3
          injection hk3 with hk3
          subst hk3
          exact hd
      · refine .inr ⟨fun k r' hk hk3 => ?_, b⟩
        rcases Nat.lt_succ_iff_lt_or_eq.1 hk with h | rfl
        · exact a k r' h hk3
        · rw [hr] at hk3
          injection hk3 with hk3
          subst hk3
          exact hd
end
end Go.Om
/- A region that draws its order: whatever order is drawn comes to what the evaluator tells (the walk over all orders). Conditions: none. -/
namespace Go.Om
open Go.RowKit

section
variable {P : Program} {rec : Rec} {os : Array Oper} {base : Nat} {rs : List R1} {h0 : H} {fr0 fr' : Fr} (T : Told P rec os base rs h0 fr0 fr')

/-- the block of the j-th operation waits at place K -/
def Pnd (P : Program) (os : Array Oper) (rs : List R1) (S : Nat → Prop) (K j : Nat) (cs : List AV) : Prop :=
  S j ∧ (∃ r, rs[j]? = some r ∧ r.k = .alloc cs) ∧ ∀ m, m < K → isMi P os m = true → Nat.testBit ((masks os).getD m 0) j = false

structure Inv (P : Program) (os : Array Oper) (base : Nat) (rs : List R1) (h0 : H) (fr0 : Fr) (γ0 γ : G) (S : Nat → Prop) (K : Nat) (F F' : Nat → Option Obj) (w0 : World) (a : Act) (w : World) : Prop where
  le : Ext γ0 γ base (stAt (masks os) rs 0 (h0, []) K).1.next
  Kn : K ≤ os.size
  mem : ∀ m, isMi P os m = true → (S m ↔ m < K)
  hr : HR γ (stAt (masks os) rs 0 (h0, []) K).1 F' w0 w
  nx : base + os.size ≤ (stAt (masks os) rs 0 (h0, []) K).1.next
  wait : ∀ j cs, Pnd P os rs S K j cs → Waits γ F' w0 base j cs ∧ ∀ B, γ.blk (base + j) = some (B, 0) → F B = none
  apart : ∀ j j' cs cs' B, Pnd P os rs S K j cs → Pnd P os rs S K j' cs' → γ.blk (base + j) = some (B, 0) → γ.blk (base + j') = some (B, 0) → j = j'
  rest : ∀ B, (∀ j cs, Pnd P os rs S K j cs → γ.blk (base + j) ≠ some (B, 0)) → F' B = F B
  out : ∀ j, j < os.size → ¬ S j → γ.blk (base + j) = none
  defers : a.defers = []
  size : a.tmps.size = fr0.n
  wrote : ∀ j r t, S j → rs[j]? = some r → r.o.dst = some t → (∀ k r', S k → j < k → rs[k]? = some r' → r'.o.dst ≠ some t) → ∃ c, a.tmps[t]? = some c ∧ R γ r.v c
  kept : ∀ t v, (∀ k r', S k → rs[k]? = some r' → r'.o.dst ≠ some t) → fr0.tm.get t = some v → ∃ c, a.tmps[t]? = some c ∧ R γ v c
  glob : ∀ g, g < P.globals.size → γ.blk g = some (g, 0)
  g : fr0.g = P.globals.size

include T
/-- the heaps' sizes: a block that grows keeps its place -/
theorem Told.below {γ : G} {S : Nat → Prop} (hdc : DC os S) {i : Nat} {r : R1} (hr : rs[i]? = some r) (hready : ∀ e ∈ r.o.after, Region.binds .any e = true → S e.on) (hnot : ¬ S i) (hSn : ∀ j, S j → j < os.size) {γ0 : G} {K : Nat} {F F' : Nat → Option Obj} {w0 : World} {a : Act} {w : World}
    (I : Inv P os base rs h0 fr0 γ0 γ S K F F' w0 a w) {t : Nat} (ht : t ∈ r.o.looksAt os) {v : AV} (hv : r.fr.tm.get t = some v) : ∃ c, a.tmps[t]? = some c ∧ R γ v c := by
  have hi : i < os.size := by rw [← T.len]; exact (List.getElem?_eq_some_iff.1 hr).1
  have hoi := (T.at_ i r hr).1
  have hfi : frAt rs fr' i = r.fr := by simp [frAt, hr]
  -- whoever writes t and stands behind has not come up
  have later : ∀ k r', S k → i < k → rs[k]? = some r' → r'.o.dst ≠ some t := fun k r' hk hik hrk hd => by
    have hok := (T.at_ k r' hrk).1
    rcases T.pairs i k r.o r'.o hik hoi hok with hb | hap
    · exact hnot (mask_closed hdc (hSn k hk) hk hb)
    · exact (Oper.apart_spec hap).2.2 t hd ht
  have ahead : ∀ j r1, j < i → rs[j]? = some r1 → r1.o.dst = some t → S j := fun j r1 hj hrj hd => by
    have hoj := (T.at_ j r1 hrj).1
    rcases T.pairs j i r1.o r.o hj hoj hoi with hb | hap
    · exact mask_in hdc i r.o hoi hready j hb
    · exact absurd ht ((Oper.apart_spec hap).1 t hd)
  obtain ⟨_, _, hg⟩ := T.frame_at i (by omega)
  rw [hfi] at hg
  rcases hg t v hv with ⟨j, r1, hj, hrj, hd, rfl, hlast⟩ | ⟨hno, h0⟩
  · refine I.wrote j r1 t (ahead j r1 hj hrj hd) hrj hd (fun k r' hk hjk hrk => ?_)
    rcases Nat.lt_trichotomy k i with h | h | h
    · exact hlast k r' hjk h hrk
    · subst h; exact absurd hk hnot
    · exact later k r' hk h hrk
  · refine I.kept t v (fun k r' hk hrk => ?_) h0
    rcases Nat.lt_trichotomy k i with h | h | h
    · exact hno k r' h hrk
    · subst h; exact absurd hk hnot
    · exact later k r' hk h hrk

theorem Told.operands {γ : G} {S : Nat → Prop} (hdc : DC os S) {i : Nat} {r : R1} (hr : rs[i]? = some r) (hready : ∀ e ∈ r.o.after, Region.binds .any e = true → S e.on) (hnot : ¬ S i) (hSn : ∀ j, S j → j < os.size) {γ0 : G} {K : Nat} {F F' : Nat → Option Obj} {w0 : World} {a : Act} {w : World}
    (I : Inv P os base rs h0 fr0 γ0 γ S K F F' w0 a w) : Opd γ r.fr a r.o.op.operands ∧ ∀ b, guardOk r.fr os r.o.guard = some b → Region.wanted r.o (yielded os a.tmps) = b := by
  have hi : i < os.size := by rw [← T.len]; exact (List.getElem?_eq_some_iff.1 hr).1
  have hfi : frAt rs fr' i = r.fr := by simp [frAt, hr]
  obtain ⟨_, hgg, _⟩ := T.frame_at i (by omega)
  rw [hfi] at hgg
  have look : ∀ t v, t ∈ r.o.looksAt os → r.fr.tm.get t = some v → ∃ c, a.tmps[t]? = some c ∧ R γ v c := fun t v ht hv => T.below hdc hr hready hnot hSn I ht hv
  refine ⟨fun x hx v hv => ?_, fun b hb => ?_⟩
  · cases x with
    | tmp t =>
      obtain ⟨c, hc, hR⟩ := look t v (List.mem_append_left _ (List.mem_filterMap.2 ⟨.tmp t, by simpa using hx, rfl⟩)) hv
      have : a.eval (.tmp t) = c := by simp [Act.eval, hc]
      rw [this]
      exact hR
    | const u =>
      have h' : some (AV.lit u) = some v := hv
      injection h' with h'
      subst h'
      exact .lit u
    | global g =>
      have h' : sel (Nat.ble (Nat.succ g) r.fr.g) (some (AV.ptr g 0)) none = some v := hv
      obtain ⟨h1, h2⟩ := sel_some h'
      injection h2 with h2
      subst h2
      rw [Nat.ble_eq, hgg, I.g] at h1
      exact R.ptr (off := 0) (I.glob g h1)
    | func f =>
      have h' : some (AV.lit (.func (.func f) #[] #[])) = some v := hv
      injection h' with h'
      subst h'
      exact .lit _
  · cases hgd : r.o.guard with
    | none =>
      rw [hgd] at hb
      have h' : some true = some b := hb
      injection h' with h'
      subst h'
      simp [Region.wanted, hgd]
    | some jw =>
      obtain ⟨j, want⟩ := jw
      rw [hgd] at hb
      have h' : guardIs r.fr os j want = some b := hb
      unfold guardIs at h'
      obtain ⟨o', ho', h'⟩ := bindO_some h'
      obtain ⟨d, hd, h'⟩ := bindO_some h'
      obtain ⟨u, hu, h'⟩ := bindO_some h'
      split at h'
      · rename_i bb
        injection h' with h'
        subst h'
        obtain ⟨c, hc, hR⟩ := look d _ (by simp [Oper.looksAt, hgd, ho', hd]) hu
        have hR := R_lit hR
        subst hR
        have hy : yielded os a.tmps j = some bb := by simp [yielded, ho', hd, hc]
        simp only [Region.wanted, hgd, hy]
        cases bb <;> cases want <;> rfl
      · injection h' with h'
        subst h'
        obtain ⟨c, hc, hR⟩ := look d _ (by simp [Oper.looksAt, hgd, ho', hd]) hu
        have hR := R_lit hR
        subst hR
        have hy : yielded os a.tmps j = none := by simp [yielded, ho', hd, hc]
        simp only [Region.wanted, hgd, hy]
        rfl
      · cases h'

/-- the temporaries behind the i-th operation -/
theorem Told.put_act {γ γ' : G} {S : Nat → Prop} (hdc : DC os S) {i : Nat} {r : R1} (hr : rs[i]? = some r) (hnot : ¬ S i) (hSn : ∀ j, S j → j < os.size) {γ0 : G} {K : Nat} {F F' : Nat → Option Obj} {w0 : World} {a : Act} {w : World}
    (I : Inv P os base rs h0 fr0 γ0 γ S K F F' w0 a w) (hle : γ.le γ') {c : Value} (hc : R γ' r.v c) :
    (a.put r.o.dst c).defers = [] ∧ (a.put r.o.dst c).tmps.size = fr0.n ∧
    (∀ j r1 t, (S j ∨ j = i) → rs[j]? = some r1 → r1.o.dst = some t → (∀ k r', (S k ∨ k = i) → j < k → rs[k]? = some r' → r'.o.dst ≠ some t) → ∃ c', (a.put r.o.dst c).tmps[t]? = some c' ∧ R γ' r1.v c') ∧
    (∀ t v, (∀ k r', (S k ∨ k = i) → rs[k]? = some r' → r'.o.dst ≠ some t) → fr0.tm.get t = some v → ∃ c', (a.put r.o.dst c).tmps[t]? = some c' ∧ R γ' v c') := by
  have hi : i < os.size := by rw [← T.len]; exact (List.getElem?_eq_some_iff.1 hr).1
  obtain ⟨hoi, _, hp⟩ := T.at_ i r hr
  have hfi : frAt rs fr' i = r.fr := by simp [frAt, hr]
  obtain ⟨hn, _, _⟩ := T.frame_at i (by omega)
  rw [hfi] at hn
  obtain ⟨_, _, hlt, _⟩ := Fr_put_some hp
  have same : ∀ t, r.o.dst ≠ some t → (a.put r.o.dst c).tmps[t]? = a.tmps[t]? := fun t hne => by
    cases hd : r.o.dst with
    | none => rfl
    | some d =>
      have : d ≠ t := fun e => hne (by rw [hd, e])
      simp only [Act.put]
      rw [Array.getElem?_setIfInBounds_ne this]
  refine ⟨?_, ?_, fun j r1 t hj hrj hd hlast => ?_, fun t v hno hv => ?_⟩
  · cases r.o.dst <;> exact I.defers
  · cases r.o.dst with
    | none => exact I.size
    | some d => simpa [Act.put] using I.size
  · rcases hj with hj | rfl
    · have hne : r.o.dst ≠ some t := fun hdi => by
        have hij : i ≠ j := fun e => by subst e; exact hnot hj
        rcases Nat.lt_or_gt_of_ne hij with h | h
        · -- i stands ahead of j, and both write t
          have hoj := (T.at_ j r1 hrj).1
          rcases T.pairs i j r.o r1.o h hoi hoj with hb | hap
          · exact hnot (mask_closed hdc (hSn j hj) hj hb)
          · exact (Oper.apart_spec hap).2.1 t hdi hd
        · exact hlast i r (.inr rfl) h hr hdi
      obtain ⟨c', hc', hR⟩ := I.wrote j r1 t hj hrj hd (fun k r' hk => hlast k r' (.inl hk))
      exact ⟨c', (same t hne).trans hc', hR.mono hle⟩
    · rw [hr] at hrj
      injection hrj with hrj
      subst hrj
      have htl : t < a.tmps.size := by rw [I.size, ← hn]; exact hlt t hd
      refine ⟨c, ?_, hc⟩
      rw [hd]
      simp [Act.put, htl]
  · have hne : r.o.dst ≠ some t := hno i r (.inr rfl) hr
    obtain ⟨c', hc', hR⟩ := I.kept t v (fun k r' hk => hno k r' (.inl hk)) hv
    exact ⟨c', (same t hne).trans hc', hR.mono hle⟩
end
end Go.Om
/- A region that draws its order: one operation more, whichever it is. Conditions: none. -/
namespace Go.Om
open Go.RowKit

section
variable {P : Program} {rec : Rec} {os : Array Oper} {base : Nat} {rs : List R1} {h0 : H} {fr0 fr' : Fr} (T : Told P rec os base rs h0 fr0 fr')
variable {γ0 γ : G} {S : Nat → Prop} {K : Nat} {F F' : Nat → Option Obj} {w0 : World} {a : Act} {w : World}

theorem addAll_next (h : H) : ∀ q : Pend, (addAll base h q).next = h.next
  | [] => rfl
  | (_, _) :: r => by simp only [addAll, H.add]; exact addAll_next h r

include T
theorem Told.lt {i : Nat} {r : R1} (hr : rs[i]? = some r) : i < os.size := by rw [← T.len]; exact (List.getElem?_eq_some_iff.1 hr).1

/-- neither memory nor a new block -/
theorem Inv.plain (I : Inv P os base rs h0 fr0 γ0 γ S K F F' w0 a w) (hdc : DC os S) (hSn : ∀ j, S j → j < os.size) {i : Nat} {r : R1} (hr : rs[i]? = some r) (hnot : ¬ S i) (hM : isMi P os i = false) (hA : ∀ cs, r.k ≠ .alloc cs) {c : Value} (hc : R γ r.v c) :
    Inv P os base rs h0 fr0 γ0 γ (fun j => S j ∨ j = i) K F F' w0 (a.put r.o.dst c) w := by
  obtain ⟨p1, p2, p3, p4⟩ := T.put_act hdc hr hnot hSn I (G.le_refl γ) hc
  have hP : ∀ j cs, Pnd P os rs (fun j => S j ∨ j = i) K j cs ↔ Pnd P os rs S K j cs := fun j cs => by
    unfold Pnd
    constructor
    · rintro ⟨h1 | rfl, h2, h3⟩
      · exact ⟨h1, h2, h3⟩
      · obtain ⟨r', hr', hk⟩ := h2
        rw [hr] at hr'
        injection hr' with hr'
        subst hr'
        exact absurd hk (hA _)
    · rintro ⟨h1, h2, h3⟩
      exact ⟨.inl h1, h2, h3⟩
  refine { le := I.le, Kn := I.Kn, mem := fun m hm => ?_, hr := I.hr, nx := I.nx, wait := fun j cs hj => I.wait j cs ((hP j cs).1 hj), apart := fun j j' cs cs' B h1 h2 => I.apart j j' cs cs' B ((hP _ _).1 h1) ((hP _ _).1 h2), rest := fun B hB => I.rest B (fun j cs hj => hB j cs ((hP _ _).2 hj)), out := fun j hj hn => I.out j hj (fun hs => hn (.inl hs)), defers := p1, size := p2, wrote := p3, kept := p4, glob := I.glob, g := I.g }
  rw [← I.mem m hm]
  constructor
  · rintro (h | rfl)
    · exact h
    · rw [hM] at hm; cases hm
  · exact .inl

/-- a new block -/
theorem Inv.alloc (I : Inv P os base rs h0 fr0 γ0 γ S K F F' w0 a w) (hdc : DC os S) (hSn : ∀ j, S j → j < os.size) {i : Nat} {r : R1} (hr : rs[i]? = some r) (hnot : ¬ S i) (hM : isMi P os i = false) {cs : List AV} (hA : r.k = .alloc cs) {c : Value} {ccs : List Value} {e : TypeId} (hcs : Rs γ cs ccs)
    (hc : R (γ.add (base + i) w.heap.size 0) r.v c) :
    Inv P os base rs h0 fr0 γ0 (γ.add (base + i) w.heap.size 0) (fun j => S j ∨ j = i) K F (fun X => if X = w.heap.size then some (.cells ⟨ccs⟩ e (0, 0)) else F' X) w0 (a.put r.o.dst c) (w.alloc (.cells ⟨ccs⟩ e)) := by
  have hi := T.lt hr
  have hb := I.out i hi hnot
  have hle := G.le_add γ (B := w.heap.size) (O := 0) hb
  obtain ⟨p1, p2, p3, p4⟩ := T.put_act hdc hr hnot hSn I hle hc
  have hoth : ∀ j, j ≠ i → (γ.add (base + i) w.heap.size 0).blk (base + j) = γ.blk (base + j) := fun j hj => by simp [G.add, hj]
  have hown : (γ.add (base + i) w.heap.size 0).blk (base + i) = some (w.heap.size, 0) := by simp [G.add]
  have hPi : ∀ j cs', Pnd P os rs (fun j => S j ∨ j = i) K j cs' → j ≠ i → Pnd P os rs S K j cs' := fun j cs' h hne => ⟨h.1.resolve_right hne, h.2⟩
  have hPo : ∀ j cs', Pnd P os rs S K j cs' → j ≠ i := fun j cs' h e => by subst e; exact hnot h.1
  have hlow : ∀ j cs' B, Pnd P os rs S K j cs' → γ.blk (base + j) = some (B, 0) → B < w.heap.size := fun j cs' B h hB => by
    obtain ⟨B', ccs', e', q1, q2, _, _⟩ := (I.wait j cs' h).1
    rw [hB] at q1
    injection q1 with q1
    injection q1 with e1 _
    subst e1
    exact (Array.getElem?_eq_some_iff.1 (I.hr.low _ _ q2)).1
  have hF'n : F' w.heap.size = none := by
    cases hF : F' w.heap.size with
    | none => rfl
    | some o => have := I.hr.low _ _ hF; simp at this
  have hFn : F w.heap.size = none := by
    rw [← I.rest w.heap.size (fun j cs' h hB => Nat.lt_irrefl _ (hlow j cs' _ h hB))]
    exact hF'n
  refine { le := ⟨I.le.le.trans hle, fun b hbb => ?_, I.le.mono⟩, Kn := I.Kn, mem := fun m hm => ?_, hr := I.hr.newOut _ hb (Nat.lt_of_lt_of_le (by omega) I.nx), nx := I.nx, wait := fun j cs' hj => ?_, apart := fun j j' cs1 cs2 B h1 h2 hB1 hB2 => ?_, rest := fun B hB => ?_, out := fun j hj hn => ?_, defers := p1, size := p2, wrote := p3, kept := p4, glob := fun g hg => hle.1 _ _ (I.glob g hg), g := I.g }
  · have : (γ.add (base + i) w.heap.size 0).blk b = γ.blk b := by
      simp only [G.add]
      rw [if_neg (by omega)]
    rw [this]
    exact I.le.same b hbb
  · rw [← I.mem m hm]
    constructor
    · rintro (h | rfl)
      · exact h
      · rw [hM] at hm; cases hm
    · exact .inl
  · by_cases hji : j = i
    · subst hji
      obtain ⟨r', hr', hk'⟩ := hj.2.1
      rw [hr] at hr'
      injection hr' with hr'
      subst hr'
      rw [hA] at hk'
      injection hk' with hk'
      subst hk'
      refine ⟨⟨w.heap.size, ccs, e, hown, by simp, I.hr.size, hcs.mono hle⟩, fun B hB => ?_⟩
      rw [hown] at hB
      injection hB with hB
      injection hB with e1 _
      subst e1
      exact hFn
    · have hPj := hPi j cs' hj hji
      obtain ⟨⟨B, ccs', e', q1, q2, q3, q4⟩, q5⟩ := I.wait j cs' hPj
      have hne : B ≠ w.heap.size := by have := hlow j cs' B hPj q1; omega
      refine ⟨⟨B, ccs', e', by rw [hoth j hji]; exact q1, by simp [hne, q2], q3, q4.mono hle⟩, fun B' hB' => ?_⟩
      rw [hoth j hji] at hB'
      exact q5 B' hB'
  · by_cases h1i : j = i
    · by_cases h2i : j' = i
      · rw [h1i, h2i]
      · rw [h1i, hown] at hB1
        injection hB1 with hB1
        injection hB1 with e1 _
        rw [hoth j' h2i] at hB2
        have := hlow j' cs2 B (hPi _ _ h2 h2i) hB2
        omega
    · by_cases h2i : j' = i
      · rw [h2i, hown] at hB2
        injection hB2 with hB2
        injection hB2 with e1 _
        rw [hoth j h1i] at hB1
        have := hlow j cs1 B (hPi _ _ h1 h1i) hB1
        omega
      · rw [hoth j h1i] at hB1
        rw [hoth j' h2i] at hB2
        exact I.apart j j' cs1 cs2 B (hPi _ _ h1 h1i) (hPi _ _ h2 h2i) hB1 hB2
  · have hPii : Pnd P os rs (fun j => S j ∨ j = i) K i cs := by
      refine ⟨.inr rfl, ⟨r, hr, hA⟩, fun m hm hMm => ?_⟩
      cases hbit : Nat.testBit ((masks os).getD m 0) i with
      | false => rfl
      | true =>
        have hSm : S m := (I.mem m hMm).2 hm
        exact absurd (mask_closed hdc (hSn m hSm) hSm hbit) hnot
    have hne : B ≠ w.heap.size := fun e => hB i cs hPii (by rw [e]; exact hown)
    simp only [hne, if_false]
    refine I.rest B (fun j cs' hj hjB => ?_)
    have hji := hPo j cs' hj
    exact hB j cs' ⟨.inl hj.1, hj.2⟩ (by rw [hoth j hji]; exact hjB)
  · have hji : j ≠ i := fun e => hn (.inr e)
    rw [hoth j hji]
    exact I.out j hj (fun hs => hn (.inl hs))

/-- a turn of memory, one: what it hangs on is laid -/
theorem Inv.lay (I : Inv P os base rs h0 fr0 γ0 γ S K F F' w0 a w) (hdc : DC os S) {i : Nat} {r : R1} (hr : rs[i]? = some r) (hready : ∀ e ∈ r.o.after, Region.binds .any e = true → S e.on) (hnot : ¬ S i) (hSn : ∀ j, S j → j < os.size) (hM : isMi P os i = true) :
    ∃ F'', HR γ (lay base ((masks os).getD i 0) (stAt (masks os) rs 0 (h0, []) i).1 (stAt (masks os) rs 0 (h0, []) i).2).1 F'' w0 w ∧
      (lay base ((masks os).getD i 0) (stAt (masks os) rs 0 (h0, []) i).1 (stAt (masks os) rs 0 (h0, []) i).2).1.next = (stAt (masks os) rs 0 (h0, []) K).1.next ∧
      (∀ m, isMi P os m = true → (S m ↔ m < i)) ∧
      (∀ j cs, Pnd P os rs (fun j => S j ∨ j = i) (i + 1) j cs → Pnd P os rs S K j cs ∧ Waits γ F'' w0 base j cs) ∧
      (∀ B, (∀ j cs, Pnd P os rs (fun j => S j ∨ j = i) (i + 1) j cs → γ.blk (base + j) ≠ some (B, 0)) → F'' B = F B) := by
  have hi := T.lt hr
  have hoi := (T.at_ i r hr).1
  have hSi : ∀ m, isMi P os m = true → (S m ↔ m < i) := fun m hm => by
    constructor
    · intro hs
      rcases Nat.lt_trichotomy m i with h | h | h
      · exact h
      · subst h; exact absurd hs hnot
      · exact absurd (mask_closed hdc (hSn m hs) hs (T.chain i m hM hm h)) hnot
    · intro hlt
      exact mask_in hdc i r.o hoi hready m (T.chain m i hm hM hlt)
  have hKi : ∀ m, isMi P os m = true → (m < K ↔ m < i) := fun m hm => (I.mem m hm).symm.trans (hSi m hm)
  have hst : (stAt (masks os) rs 0 (h0, []) i).1 = (stAt (masks os) rs 0 (h0, []) K).1 := T.st_eq I.Kn (by omega) (fun m hm => hKi m hm)
  obtain ⟨hpend, hpw⟩ := T.pend_at i (by omega)
  have hA : ∀ cs, r.k ≠ .alloc cs := fun cs e => by
    rcases (T.kind hr).1 hM with ⟨_, _, e'⟩ | ⟨_, e'⟩ <;> rw [e] at e' <;> cases e'
  -- what is laid
  have hq : ∀ x ∈ (stAt (masks os) rs 0 (h0, []) i).2.filter (fun x => Nat.testBit ((masks os).getD i 0) x.1), Pnd P os rs S K x.1 x.2 := fun x hx => by
    obtain ⟨hx1, hx2⟩ := List.mem_filter.1 hx
    obtain ⟨_, h2, h3⟩ := (hpend x.1 x.2).1 hx1
    exact ⟨mask_in hdc i r.o hoi hready x.1 hx2, h2, fun m hm hMm => h3 m ((hKi m hMm).1 hm) hMm⟩
  have hpair : ((stAt (masks os) rs 0 (h0, []) i).2.filter (fun x => Nat.testBit ((masks os).getD i 0) x.1)).Pairwise (fun x y => ∀ B, γ.blk (base + x.1) = some (B, 0) → γ.blk (base + y.1) = some (B, 0) → False) := by
    refine List.Pairwise.imp_of_mem (fun {x y} hx hy hlt B h1 h2 => ?_) (List.Pairwise.filter _ hpw)
    have := I.apart x.1 y.1 x.2 y.2 B (hq x hx) (hq y hy) h1 h2
    omega
  have hHR := I.hr.addAll (base := base) _ (fun x hx => (I.wait x.1 x.2 (hq x hx)).1) hpair
  refine ⟨_, by rw [lay_fst, hst]; exact hHR, by rw [lay_fst, addAll_next, hst], hSi, fun j cs hj => ?_, fun B hB => ?_⟩
  · have hji : j ≠ i := fun e => by
      subst e
      obtain ⟨r', hr', hk⟩ := hj.2.1
      rw [hr] at hr'
      injection hr' with hr'
      subst hr'
      exact hA _ hk
    have hPj : Pnd P os rs S K j cs := ⟨hj.1.resolve_right hji, hj.2.1, fun m hm hMm => hj.2.2 m (by have := (hKi m hMm).1 hm; omega) hMm⟩
    obtain ⟨⟨B, ccs, e, q1, q2, q3, q4⟩, _⟩ := I.wait j cs hPj
    refine ⟨hPj, B, ccs, e, q1, (if_neg ?_).trans q2, q3, q4⟩
    · rintro ⟨x, hx, hxB⟩
      have := I.apart x.1 j x.2 cs B (hq x hx) hPj hxB q1
      have hbit := (List.mem_filter.1 hx).2
      rw [this] at hbit
      have := hj.2.2 i (Nat.lt_succ_self _) hM
      rw [this] at hbit
      cases hbit
  · by_cases hin : ∃ x ∈ (stAt (masks os) rs 0 (h0, []) i).2.filter (fun x => Nat.testBit ((masks os).getD i 0) x.1), γ.blk (base + x.1) = some (B, 0)
    · refine (if_pos hin).trans ?_
      obtain ⟨x, hx, hxB⟩ := hin
      exact ((I.wait x.1 x.2 (hq x hx)).2 B hxB).symm
    · refine (if_neg hin).trans ?_
      refine I.rest B (fun j cs hj hjB => ?_)
      cases hbit : Nat.testBit ((masks os).getD i 0) j with
      | true =>
        refine hin ⟨(j, cs), List.mem_filter.2 ⟨(hpend j cs).2 ⟨T.mask_lt hi hbit, hj.2.1, fun m hm hMm => hj.2.2 m ((hKi m hMm).2 hm) hMm⟩, hbit⟩, hjB⟩
      | false =>
        refine hB j cs ⟨.inl hj.1, hj.2.1, fun m hm hMm => ?_⟩ hjB
        rcases Nat.lt_succ_iff_lt_or_eq.1 hm with h | rfl
        · exact hj.2.2 m ((hKi m hMm).2 h) hMm
        · exact hbit

/-- a turn of memory, two: behind it -/
theorem Inv.turned (I : Inv P os base rs h0 fr0 γ0 γ S K F F' w0 a w) (hdc : DC os S) {i : Nat} {r : R1} (hr : rs[i]? = some r) (hnot : ¬ S i) (hSn : ∀ j, S j → j < os.size) (hM : isMi P os i = true) {F'' : Nat → Option Obj}
    (hSi : ∀ m, isMi P os m = true → (S m ↔ m < i)) (hwait : ∀ j cs, Pnd P os rs (fun j => S j ∨ j = i) (i + 1) j cs → Pnd P os rs S K j cs ∧ Waits γ F'' w0 base j cs)
    (hrest : ∀ B, (∀ j cs, Pnd P os rs (fun j => S j ∨ j = i) (i + 1) j cs → γ.blk (base + j) ≠ some (B, 0)) → F'' B = F B)
    {γ' : G} {w' : World} {c : Value} (hext : Ext γ γ' (stAt (masks os) rs 0 (h0, []) K).1.next (stAt (masks os) rs 0 (h0, []) (i + 1)).1.next) (hHR : HR γ' (stAt (masks os) rs 0 (h0, []) (i + 1)).1 F'' w0 w') (hnx : base + os.size ≤ (stAt (masks os) rs 0 (h0, []) (i + 1)).1.next) (hc : R γ' r.v c) :
    Inv P os base rs h0 fr0 γ0 γ' (fun j => S j ∨ j = i) (i + 1) F F'' w0 (a.put r.o.dst c) w' := by
  have hi := T.lt hr
  obtain ⟨p1, p2, p3, p4⟩ := T.put_act hdc hr hnot hSn I hext.le hc
  have hsame : ∀ j, j < os.size → γ'.blk (base + j) = γ.blk (base + j) := fun j hj => hext.same _ (Nat.lt_of_lt_of_le (by omega) I.nx)
  have hjn : ∀ j cs, Pnd P os rs S K j cs → j < os.size := fun j cs h => hSn j h.1
  refine { le := I.le.trans hext, Kn := by omega, mem := fun m hm => ?_, hr := hHR, nx := hnx, wait := fun j cs hj => ?_, apart := fun j j' cs1 cs2 B h1 h2 hB1 hB2 => ?_, rest := fun B hB => ?_, out := fun j hj hn => ?_, defers := p1, size := p2, wrote := p3, kept := p4, glob := fun g hg => hext.le.1 _ _ (I.glob g hg), g := I.g }
  · constructor
    · rintro (h | rfl)
      · have := (hSi m hm).1 h; omega
      · omega
    · intro h
      rcases Nat.lt_succ_iff_lt_or_eq.1 h with h | h
      · exact .inl ((hSi m hm).2 h)
      · exact .inr h
  · obtain ⟨hP, B, ccs, e, q1, q2, q3, q4⟩ := hwait j cs hj
    refine ⟨⟨B, ccs, e, hext.le.1 _ _ q1, q2, q3, q4.mono hext.le⟩, fun B' hB' => ?_⟩
    rw [hsame j (hjn j cs hP)] at hB'
    exact (I.wait j cs hP).2 B' hB'
  · obtain ⟨hP1, _⟩ := hwait j cs1 h1
    obtain ⟨hP2, _⟩ := hwait j' cs2 h2
    rw [hsame j (hjn _ _ hP1)] at hB1
    rw [hsame j' (hjn _ _ hP2)] at hB2
    exact I.apart j j' cs1 cs2 B hP1 hP2 hB1 hB2
  · refine hrest B (fun j cs hj hjB => hB j cs hj ?_)
    rw [hsame j (hjn _ _ (hwait j cs hj).1)]
    exact hjB
  · rw [hsame j hj]
    exact I.out j hj (fun hs => hn (.inl hs))
end
end Go.Om
/- The evaluator is sound: what it tells of a call is what the model's call comes to, whatever is drawn. Conditions: none. -/
namespace Go.Om
open Go.RowKit

section
variable {P : Program} {rec : Rec} {os : Array Oper} {base : Nat} {rs : List R1} {h0 : H} {fr0 fr' : Fr} (T : Told P rec os base rs h0 fr0 fr')
variable {γ0 γ : G} {K : Nat} {F F' : Nat → Option Obj} {w0 : World} {a : Act} {w : World}

/-- what is listed -/
def Ls (listed : Array Bool) (i : Nat) : Prop := listed.getD i false = true
theorem Ls_set {listed : Array Bool} {i j : Nat} (hi : i < listed.size) : Ls (listed.setIfInBounds i true) j ↔ Ls listed j ∨ j = i := by
  unfold Ls
  by_cases hij : j = i
  · subst hij; simp [hi]
  · simp only [Array.getD_eq_getD_getElem?, Array.getElem?_setIfInBounds_ne (Ne.symm hij), hij, or_false]

include T
/-- one operation, whichever is ready -/
theorem Told.step (hrec : RecOK P rec) {Q : Exit → Act → World → Prop} {Kn : Act → World → Prop} {S : Nat → Prop} (I : Inv P os base rs h0 fr0 γ0 γ S K F F' w0 a w) (hdc : DC os S) (hSn : ∀ j, S j → j < os.size) {i : Nat} {o : Oper} (hoi : os[i]? = some o) (hnot : ¬ S i) (hready : ∀ e ∈ o.after, Region.binds .any e = true → S e.on)
    (hK : ∀ γ' K' F'' a' w', Inv P os base rs h0 fr0 γ0 γ' (fun j => S j ∨ j = i) K' F F'' w0 a' w' → Kn a' w') : wpOp P os Q i Kn a w := by
  have hi : i < os.size := (Array.getElem?_eq_some_iff.1 hoi).1
  obtain ⟨r, hr⟩ := T.rec_at hi
  obtain ⟨ho, hs, hp⟩ := T.at_ i r hr
  rw [hoi] at ho
  injection ho with ho
  subst ho
  obtain ⟨hopd, hgd⟩ := T.operands hdc hr hready hnot hSn I
  have hkind := T.kind hr
  have hnM : (∀ hb h1, r.k ≠ .mem hb h1) → (∀ hb, r.k ≠ .skip (some hb)) → isMi P os i = false := fun x y => by
    cases hM : isMi P os i with
    | false => rfl
    | true =>
      rcases hkind.1 hM with ⟨hb, h1, e⟩ | ⟨hb, e⟩
      · exact absurd e (x _ _)
      · exact absurd e (y _)
  have hst : stAt (masks os) rs 0 (h0, []) (i + 1) = nxt (masks os) r i (stAt (masks os) rs 0 (h0, []) i) := by
    have := stAt_succ (ms := masks os) rs 0 (h0, []) i r hr
    rwa [Nat.zero_add] at this
  unfold wpOp
  simp only [hoi]
  unfold StepOK at hs
  split at hs
  · rename_i hk
    obtain ⟨hg, hv, _⟩ := hs
    rw [hgd _ hg]
    simp only [Bool.false_eq_true, if_false]
    exact hK _ _ _ _ _ (I.plain T hdc hSn hr hnot (hnM (fun _ _ e => by rw [hk] at e; cases e) (fun _ e => by rw [hk] at e; cases e)) (fun cs e => by rw [hk] at e; cases e) (by rw [hv]; exact .lit _))
  · rename_i hb hk
    obtain ⟨hg, hv, _, hlay⟩ := hs
    rw [hgd _ hg]
    simp only [Bool.false_eq_true, if_false]
    have hM : isMi P os i = true := hkind.2 (.inr ⟨hb, hk⟩)
    obtain ⟨F'', hHR, hnx, hSi, hwait, hrest⟩ := I.lay T hdc hr hready hnot hSn hM
    have hst1 : (stAt (masks os) rs 0 (h0, []) (i + 1)).1 = hb := by rw [hst]; simp only [nxt, hk]
    rw [← hlay] at hHR hnx
    refine hK _ _ _ _ _ (I.turned T hdc hr hnot hSn hM hSi hwait hrest (γ' := γ) (w' := w) ?_ (by rw [hst1]; exact hHR) (by rw [hst1, hnx]; exact I.nx) (by rw [hv]; exact .lit _))
    rw [hst1, hnx]
    exact Ext.refl γ _
  · rename_i hk
    obtain ⟨hg, _, hpure⟩ := hs
    rw [hgd _ hg]
    simp only [if_true]
    refine .inl ((pureOp_sound hpure hopd).wp (fun c hR => ?_))
    exact hK _ _ _ _ _ (I.plain T hdc hSn hr hnot (hnM (fun _ _ e => by rw [hk] at e; cases e) (fun _ e => by rw [hk] at e; cases e)) (fun cs e => by rw [hk] at e; cases e) hR)
  · rename_i hk
    obtain ⟨hg, _⟩ := hs
    rw [hgd _ hg]
    simp only [if_true]
    have hread := T.read_at hdc hr hk hready hnot I.Kn I.mem
    refine .inl ((readOp_sound I.hr hread hopd).wp (fun c hR => ?_))
    exact hK _ _ _ _ _ (I.plain T hdc hSn hr hnot (hnM (fun _ _ e => by rw [hk] at e; cases e) (fun _ e => by rw [hk] at e; cases e)) (fun cs e => by rw [hk] at e; cases e) hR)
  · rename_i cs hk
    obtain ⟨hg, _, f, hal, hv⟩ := hs
    rw [hgd _ hg]
    simp only [if_true]
    refine .inl ((allocOp_sound hal hopd).wp (fun c ccs e hcs hval => ?_))
    refine hK _ _ _ _ _ (I.alloc T hdc hSn hr hnot (hnM (fun _ _ e => by rw [hk] at e; cases e) (fun _ e => by rw [hk] at e; cases e)) hk hcs ?_)
    rw [hv]
    exact hval _ _ (by simp [G.add])
  · rename_i hb h1 hk
    obtain ⟨hg, _, hlay, hmem, hn1⟩ := hs
    rw [hgd _ hg]
    simp only [if_true]
    have hM : isMi P os i = true := hkind.2 (.inl ⟨hb, h1, hk⟩)
    obtain ⟨F'', hHR, hnx, hSi, hwait, hrest⟩ := I.lay T hdc hr hready hnot hSn hM
    have hst1 : (stAt (masks os) rs 0 (h0, []) (i + 1)).1 = h1 := by rw [hst]; simp only [nxt, hk]
    rw [← hlay] at hHR hnx
    refine .inl (memOp_wp hrec hmem hopd I.glob hHR (fun c γ' w' hext hR hH => ?_))
    refine hK _ _ _ _ _ (I.turned T hdc hr hnot hSn hM hSi hwait hrest ?_ (by rw [hst1]; exact hH) (by rw [hst1]; exact hn1) hR)
    rw [hst1, ← hnx]
    exact hext

/-- all have come up -/
theorem Told.done {S : Nat → Prop} (I : Inv P os base rs h0 fr0 γ0 γ S K F F' w0 a w) (hall : ∀ i, i < os.size → S i) (hSn : ∀ j, S j → j < os.size) :
    Ext γ0 γ base (addAll base (stAt (masks os) rs 0 (h0, []) os.size).1 (stAt (masks os) rs 0 (h0, []) os.size).2).next ∧ FR P γ (frAt rs fr' os.size) a ∧ HR γ (addAll base (stAt (masks os) rs 0 (h0, []) os.size).1 (stAt (masks os) rs 0 (h0, []) os.size).2) F w0 w := by
  have hMn : ∀ m, isMi P os m = true → m < os.size := fun m hm => by
    unfold isMi at hm
    split at hm
    · rename_i o ho; exact (Array.getElem?_eq_some_iff.1 ho).1
    · cases hm
  have hKn : ∀ m, isMi P os m = true → (m < K ↔ m < os.size) := fun m hm => ⟨fun _ => hMn m hm, fun h => (I.mem m hm).1 (hall m h)⟩
  have hst : (stAt (masks os) rs 0 (h0, []) os.size).1 = (stAt (masks os) rs 0 (h0, []) K).1 := T.st_eq I.Kn (Nat.le_refl _) hKn
  obtain ⟨hpend, hpw⟩ := T.pend_at os.size (Nat.le_refl _)
  have hq : ∀ x ∈ (stAt (masks os) rs 0 (h0, []) os.size).2, Pnd P os rs S K x.1 x.2 := fun x hx => by
    obtain ⟨h1, h2, h3⟩ := (hpend x.1 x.2).1 hx
    exact ⟨hall _ h1, h2, fun m hm hMm => h3 m (hMn m hMm) hMm⟩
  have hpair : (stAt (masks os) rs 0 (h0, []) os.size).2.Pairwise (fun x y => ∀ B, γ.blk (base + x.1) = some (B, 0) → γ.blk (base + y.1) = some (B, 0) → False) := by
    refine List.Pairwise.imp_of_mem (fun {x y} hx hy hlt B h1 h2 => ?_) hpw
    have := I.apart x.1 y.1 x.2 y.2 B (hq x hx) (hq y hy) h1 h2
    omega
  have hHR := I.hr.addAll (base := base) _ (fun x hx => (I.wait x.1 x.2 (hq x hx)).1) hpair
  refine ⟨by rw [addAll_next, hst]; exact I.le, ?_, ?_⟩
  · obtain ⟨hn, hg, hget⟩ := T.frame_at os.size (Nat.le_refl _)
    refine { defers := I.defers, size := by rw [I.size, hn], here := fun t v ht => ?_, g := by rw [hg]; exact I.g, glob := I.glob }
    rcases hget t v ht with ⟨j, r1, hj, hrj, hd, rfl, hlast⟩ | ⟨hno, h0⟩
    · exact I.wrote j r1 t (hall j hj) hrj hd (fun k r' hk hjk hrk => hlast k r' hjk (hSn k hk) hrk)
    · exact I.kept t v (fun k r' hk hrk => hno k r' (hSn k hk) hrk) h0
  · rw [hst]
    have e : (fun B => if ∃ x ∈ (stAt (masks os) rs 0 (h0, []) os.size).2, γ.blk (base + x.1) = some (B, 0) then none else F' B) = F := by
      funext B
      by_cases hin : ∃ x ∈ (stAt (masks os) rs 0 (h0, []) os.size).2, γ.blk (base + x.1) = some (B, 0)
      · rw [if_pos hin]
        obtain ⟨x, hx, hxB⟩ := hin
        exact ((I.wait x.1 x.2 (hq x hx)).2 B hxB).symm
      · rw [if_neg hin]
        refine I.rest B (fun j cs hj hjB => hin ⟨(j, cs), (hpend j cs).2 ⟨hSn j hj.1, hj.2.1, fun m hm hMm => ?_⟩, hjB⟩)
        exact hj.2.2 m ((hKn m hMm).2 hm) hMm
    rw [e] at hHR
    exact hHR

/-- where something has not come up, something is ready -/
theorem Told.ready {listed : Array Bool} (hsz : listed.size = os.size) (h : Region.ready .any os listed = []) : ∀ i, i < os.size → Ls listed i := by
  intro i
  induction i using Nat.strongRecOn with
  | _ i ih =>
    intro hi
    cases hl : listed.getD i false with
    | true => exact hl
    | false =>
      exfalso
      have hm : i ∈ Region.ready .any os listed := by
        rw [mem_ready]
        refine ⟨?_, os[i], Array.getElem?_eq_getElem hi, fun e he hb => ih e.on (T.edges i _ (Array.getElem?_eq_getElem hi) e he hb) (by have := T.edges i _ (Array.getElem?_eq_getElem hi) e he hb; omega)⟩
        have hlt : i < listed.size := by omega
        simp [hlt] at hl ⊢
        exact hl
      rw [h] at hm
      simp at hm

theorem Told.any (hrec : RecOK P rec) {Q : Exit → Act → World → Prop} (hQ : ∀ γ' a' w', Ext γ0 γ' base (addAll base (stAt (masks os) rs 0 (h0, []) os.size).1 (stAt (masks os) rs 0 (h0, []) os.size).2).next → FR P γ' (frAt rs fr' os.size) a' → HR γ' (addAll base (stAt (masks os) rs 0 (h0, []) os.size).1 (stAt (masks os) rs 0 (h0, []) os.size).2) F w0 w' → Q .normal a' w') :
    ∀ (fuel : Nat) (listed : Array Bool) (γ : G) (K : Nat) (F' : Nat → Option Obj) (a : Act) (w : World), listed.size = os.size → ((List.range os.size).filter (fun i => !listed.getD i false)).length ≤ fuel → DC os (Ls listed) → Inv P os base rs h0 fr0 γ0 γ (Ls listed) K F F' w0 a w → wpAny P .any os Q fuel listed a w := by
  intro fuel
  induction fuel with
  | zero =>
    intro listed γ K F' a w hsz hf hdc I
    have hall : ∀ i, i < os.size → Ls listed i := fun i hi => by
      cases hl : listed.getD i false with
      | true => exact hl
      | false =>
        have : i ∈ (List.range os.size).filter (fun i => !listed.getD i false) := by rw [List.mem_filter]; exact ⟨by simpa using hi, by rw [hl]; rfl⟩
        have h0 : (List.range os.size).filter (fun i => !listed.getD i false) = [] := List.eq_nil_of_length_eq_zero (by omega)
        rw [h0] at this
        simp at this
    have hSn : ∀ j, Ls listed j → j < os.size := fun j hj => by
      rcases Nat.lt_or_ge j listed.size with h | h
      · omega
      · unfold Ls at hj; simp [Array.getElem?_eq_none h] at hj
    obtain ⟨h1, h2, h3⟩ := T.done I hall hSn
    refine ⟨?_, hQ γ a w h1 h2 h3⟩
    cases hr : Region.ready .any os listed with
    | nil => rfl
    | cons x xs =>
      exfalso
      have hx : x ∈ Region.ready .any os listed := by rw [hr]; simp
      rw [mem_ready] at hx
      obtain ⟨h4, o, ho, _⟩ := hx
      have hlt : x < os.size := (Array.getElem?_eq_some_iff.1 ho).1
      have := hall x hlt
      unfold Ls at this
      have hlt' : x < listed.size := by omega
      simp [hlt'] at h4 this
      rw [h4] at this
      cases this
  | succ fuel ih =>
    intro listed γ K F' a w hsz hf hdc I
    have hSn : ∀ j, Ls listed j → j < os.size := fun j hj => by
      rcases Nat.lt_or_ge j listed.size with h | h
      · omega
      · unfold Ls at hj; simp [Array.getElem?_eq_none h] at hj
    refine ⟨fun hr => ?_, fun i hi => ?_⟩
    · obtain ⟨h1, h2, h3⟩ := T.done I (T.ready hsz hr) hSn
      exact hQ γ a w h1 h2 h3
    · rw [mem_ready] at hi
      obtain ⟨h4, o, ho, hedges⟩ := hi
      have hlt : i < os.size := (Array.getElem?_eq_some_iff.1 ho).1
      have hlt' : i < listed.size := by omega
      have hli : listed.getD i false = false := by
        simp [hlt'] at h4 ⊢
        exact h4
      have hnot : ¬ Ls listed i := fun h => by unfold Ls at h; rw [hli] at h; cases h
      refine T.step hrec I hdc hSn ho hnot hedges (fun γ' K' F'' a' w' I' => ?_)
      have hset : (fun j => Ls listed j ∨ j = i) = Ls (listed.setIfInBounds i true) := by
        funext j
        exact propext (Ls_set hlt').symm
      rw [hset] at I'
      refine ih (listed.setIfInBounds i true) γ' K' F'' a' w' (by simpa using hsz) ?_ (fun j oj hoj hj e he hb => ?_) I'
      · have hlen : ((List.range os.size).filter (fun j => !(listed.setIfInBounds i true).getD j false)).length < ((List.range os.size).filter (fun j => !listed.getD j false)).length := by
          rw [← List.countP_eq_length_filter, ← List.countP_eq_length_filter]
          refine Nat.lt_of_not_le (fun hge => ?_)
          have hsub : ((List.range os.size).filter (fun j => !(listed.setIfInBounds i true).getD j false)).length + 1 ≤ ((List.range os.size).filter (fun j => !listed.getD j false)).length := by
            have hnd : (List.range os.size).Nodup := List.nodup_range
            have e1 : ((List.range os.size).filter (fun j => !(listed.setIfInBounds i true).getD j false)) = ((List.range os.size).filter (fun j => !listed.getD j false)).erase i := by
              rw [List.Nodup.erase_eq_filter (hnd.filter _), List.filter_filter]
              apply List.filter_congr
              intro j hj
              by_cases hji : j = i
              · subst hji; simp [hlt', hli]
              · have : (listed.setIfInBounds i true).getD j false = listed.getD j false := getD_set_ne false (Ne.symm hji)
                rw [this]
                simp [hji]
            rw [e1, List.length_erase_of_mem (by rw [List.mem_filter]; exact ⟨by simpa using hlt, by rw [hli]; rfl⟩)]
            have : 0 < ((List.range os.size).filter (fun j => !listed.getD j false)).length := List.length_pos_of_mem (a := i) (by rw [List.mem_filter]; exact ⟨by simpa using hlt, by rw [hli]; rfl⟩)
            omega
          rw [List.countP_eq_length_filter, List.countP_eq_length_filter] at hge
          omega
        omega
      · rw [Ls_set hlt'] at hj ⊢
        rcases hj with hj | rfl
        · exact .inl (hdc j oj hoj hj e he hb)
        · rw [ho] at hoj
          injection hoj with hoj
          subst hoj
          exact .inl (hedges e he hb)
end
end Go.Om
/- The evaluator is sound: a call that it tells returns just that, from whatever world, whatever is drawn; nothing that was there turns. Conditions: the program draws all orders. -/
namespace Go.Om
open Go.RowKit

section
variable {P : Program} {γ : G} {fr : Fr} {a : Act} {h h' : H} {F : Nat → Option Obj} {w0 w : World}

theorem drawn_sound (hmx : P.follows .mixedOrders = true) {rec : Rec} (hrec : RecOK P rec) {id : Nat} {os : Array Oper} {fr' : Fr} (hd : drawn P rec os fr h = some (fr', h')) (hf : FR P γ fr a) (hh : HR γ h F w0 w) :
    (Code.region id os true).wp P (Post P γ F w0 h.next .normal fr' h') a w := by
  unfold drawn at hd
  obtain ⟨hok, hd⟩ := sel_some hd
  unfold okRegion at hok
  simp only [Bool.and_eq_true] at hok
  obtain ⟨⟨⟨hE, hP⟩, hC⟩, _⟩ := hok
  split at hd
  · cases hd
  · rename_i rs fr1 h1 pend hdr
    obtain ⟨hro, hd⟩ := sel_some hd
    injection hd with hd
    injection hd with e1 e2
    subst e1; subst e2
    have htr := dr_Tr rec os (masks os) h.next os.toList 0 fr { h with next := h.next + os.size } [] rs fr1 h1 pend hdr
    obtain ⟨hlen, hfirst, hlast⟩ := Tr_length _ _ _ _ _ _ _ htr
    have hat := Tr_at _ _ _ _ _ _ _ htr
    have hlen' : rs.length = os.size := by rw [hlen]; simp
    have T : Told P rec os h.next rs { h with next := h.next + os.size } fr fr1 := by
      refine { edges := fun i o ho e he hb => ?_, pairs := fun i j oi oj hij hoi hoj => ?_, chain := fun x m hx hm hlt => chain_bit hC hx hm hlt, len := hlen', at_ := fun t r hr => ?_, first := hfirst, reads := fun t r hr hk q hq h2 h3 hq2 => ?_, next := Nat.le_refl _ }
      · have := edgesOk_spec _ _ hE i o (by simpa using ho) e he hb
        omega
      · have := pairsOk_spec _ _ hP j oj (by simpa using hoj) i oi (by simpa using hij) (by simpa using hoi)
        simpa using this
      · obtain ⟨x, y, z⟩ := hat t r hr
        rw [Nat.zero_add] at y
        exact ⟨by simpa using x, y, z⟩
      · have := readsOk_spec rs 0 hro t r hr hk
        rw [Nat.zero_add] at this
        exact this _ (mem_window hq2 h2 h3)
    have hend : stAt (masks os) rs 0 ({ h with next := h.next + os.size }, []) os.size = (h1, pend) := by rw [hlen'] at hlast; exact hlast
    have hfr : frAt rs fr1 os.size = fr1 := by
      unfold frAt
      rw [List.getElem?_eq_none (by omega)]
    refine wp_region_any hmx ?_
    refine T.any (γ0 := γ) (F := F) (w0 := w0) hrec (fun γ' a' w' hx hf' hh' => ?_) os.size (Array.replicate os.size false) γ 0 F a _ (by simp) ?_ (fun i o _ hS => ?_) ?_
    · rw [hend] at hx hh'
      rw [hfr] at hf'
      exact ⟨rfl, γ', by rw [layAll_eq]; exact hx, hf', by rw [layAll_eq]; exact hh'⟩
    · exact Nat.le_trans (List.length_filter_le _ _) (by simp)
    · unfold Ls at hS
      by_cases hi : i < os.size <;> simp [hi] at hS
    · have hno : ∀ i, ¬ Ls (Array.replicate os.size false) i := fun i hS => by
        unfold Ls at hS
        by_cases hi : i < os.size <;> simp [hi] at hS
      refine { le := ⟨G.le_refl γ, fun _ _ => rfl, ?_⟩, Kn := Nat.zero_le _, mem := fun m _ => ⟨fun hS => absurd hS (hno m), fun hlt => by omega⟩, hr := ?_, nx := ?_, wait := fun j cs hj => absurd hj.1 (hno j), apart := fun j j' cs cs' B hj => absurd hj.1 (hno j), rest := fun _ _ => rfl, out := fun j _ _ => hh.fresh _ (Nat.le_add_right _ _), defers := hf.defers, size := hf.size, wrote := fun j r t hS => absurd hS (hno j), kept := fun t v _ hv => hf.here t v hv, glob := hf.glob, g := hf.g }
      · simp only [stAt]; exact Nat.le_add_right _ _
      · simp only [stAt]
        have hs : HR γ h F w0 { w with drawn := w.drawn + 1 } := hh.same rfl rfl rfl rfl
        exact { hs with fresh := fun b hb => hs.fresh b (Nat.le_trans (Nat.le_add_right _ _) hb) }
      · simp only [stAt]; exact Nat.le_refl _

theorem Post.trans {γ' : G} {n : Nat} {ex : Ex} {fr' : Fr} (h1 : Ext γ γ' n h.next) {e : Exit} {a' : Act} {w' : World} (hp : Post P γ' F w0 h.next ex fr' h' e a' w') : Post P γ F w0 n ex fr' h' e a' w' := by
  obtain ⟨he, γ2, hx, hf, hh⟩ := hp
  exact ⟨he, γ2, h1.trans hx, hf, hh⟩
theorem rounds_mono {c : Code} {Q Q' : Exit → Act → World → Prop} (hq : ∀ e a w, Q e a w → Q' e a w) : ∀ (n : Nat) (a : Act) (w : World), Code.rounds P c Q n a w → Code.rounds P c Q' n a w
  | 0, _, _, h => h
  | n + 1, a, w, h => wp_mono h (fun e a' w' h' => by
      cases e with
      | normal => exact rounds_mono hq n a' w' h'
      | _ => exact hq _ _ _ h')

theorem run_zero {O : Orc} (c : Code) (fr : Fr) (h : H) : (run P O 0).go c fr h = none := rfl
theorem run_succ {O : Orc} (n : Nat) (c : Code) (fr : Fr) (h : H) : (run P O (n + 1)).go c fr h = runC P (run P O n) c fr h := rfl

theorem andThen_some {k : Fr → H → Res} {x : Res} {ex : Ex} {fr' : Fr} {h' : H} (ha : andThen k x = some (ex, fr', h')) : (∃ fr1 h1, x = some (.normal, fr1, h1) ∧ k fr1 h1 = some (ex, fr', h')) ∨ (x = some (ex, fr', h') ∧ ex ≠ .normal) := by
  unfold andThen at ha
  split at ha
  · rename_i fr1 h1
    exact .inl ⟨fr1, h1, rfl, ha⟩
  · rename_i hne
    refine .inr ⟨ha, fun e => ?_⟩
    subst e
    exact hne _ _ ha

theorem loop_rounds {O : Orc} {b : Code} : ∀ (n : Nat), (∀ m, m < n → RecOK P (run P O m)) → ∀ (fr : Fr) (h : H) (ex : Ex) (fr' : Fr) (h' : H) (γ : G) (a : Act) (w : World), (run P O n).go (.loop b) fr h = some (ex, fr', h') → FR P γ fr a → HR γ h F w0 w → Code.rounds P b (Post P γ F w0 h.next ex fr' h') n a w
  | 0, _, fr, h, ex, fr', h', γ, a, w, hr, _, _ => by rw [run_zero] at hr; cases hr
  | n + 1, hrec, fr, h, ex, fr', h', γ, a, w, hr, hf, hh => by
    rw [run_succ] at hr
    have hr : andThen ((run P O n).go (.loop b)) ((run P O n).go b fr h) = some (ex, fr', h') := hr
    rw [rounds_succ]
    rcases andThen_some hr with ⟨fr1, h1, hx, hk⟩ | ⟨hx, hne⟩
    · refine wp_mono ((hrec n (Nat.lt_succ_self _)).go b fr h _ fr1 h1 hx γ F w0 a w hf hh) ?_
      rintro e a1 w1 ⟨rfl, γ1, hx1, hf1, hh1⟩
      have := loop_rounds n (fun m hm => hrec m (by omega)) fr1 h1 ex fr' h' γ1 a1 w1 hk hf1 hh1
      exact rounds_mono (fun e a2 w2 => Post.trans hx1) n a1 w1 this
    · refine wp_mono ((hrec n (Nat.lt_succ_self _)).go b fr h _ fr' h' hx γ F w0 a w hf hh) ?_
      rintro e a1 w1 hp
      have he := hp.1
      cases ex with
      | normal => exact absurd rfl hne
      | ret => subst he; exact hp
      | exit id => subst he; exact hp

theorem run_sound (hmx : P.follows .mixedOrders = true) {O : Orc} (hO : OrcOK P O) : ∀ (n : Nat), RecOK P (run P O n) := by
  intro n
  induction n using Nat.strongRecOn with
  | _ n ih =>
    cases n with
    | zero => refine ⟨?_, hO⟩; intro c fr h ex fr' h' hr; rw [run_zero] at hr; cases hr
    | succ n =>
      have hrec := ih n (Nat.lt_succ_self _)
      refine ⟨?_, hO⟩
      intro c fr h ex fr' h' hr γ F w0 a w hf hh
      rw [run_succ] at hr
      unfold runC at hr
      split at hr
      · injection hr with hr
        simp only [Prod.mk.injEq] at hr
        obtain ⟨rfl, rfl, rfl⟩ := hr
        exact wp_skip ⟨rfl, γ, Ext.refl γ _, hf, hh⟩
      · rename_i id os d
        unfold runReg normal at hr
        split at hr
        · rename_i fr1 h1 hx
          injection hr with hr
          simp only [Prod.mk.injEq] at hr
          obtain ⟨rfl, rfl, rfl⟩ := hr
          cases d with
          | true => exact drawn_sound hmx hrec hx hf hh
          | false => exact region_sound hrec hx hf hh
        · cases hr
      · rename_i x y
        refine wp_seq ?_
        rcases andThen_some hr with ⟨fr1, h1, hx, hk⟩ | ⟨hx, hne⟩
        · refine wp_mono (hrec.go x fr h _ fr1 h1 hx γ F w0 a w hf hh) ?_
          rintro e a1 w1 ⟨rfl, γ1, hx1, hf1, hh1⟩
          exact wp_mono (hrec.go y fr1 h1 ex fr' h' hk γ1 F w0 a1 w1 hf1 hh1) (fun e a2 w2 => Post.trans hx1)
        · refine wp_mono (hrec.go x fr h _ fr' h' hx γ F w0 a w hf hh) ?_
          rintro e a1 w1 hp
          have he := hp.1
          cases ex with
          | normal => exact absurd rfl hne
          | ret => subst he; exact hp
          | exit id => subst he; exact hp
      · rename_i c x y
        unfold byCond at hr
        split at hr
        · rename_i hc
          have := R_lit (hf.opnd hc)
          exact wp_cond_true this (hrec.go x fr h ex fr' h' hr γ F w0 a w hf hh)
        · rename_i hc
          have := R_lit (hf.opnd hc)
          exact wp_cond_false this (hrec.go y fr h ex fr' h' hr γ F w0 a w hf hh)
        · cases hr
      · rename_i id b
        refine wp_block ?_
        unfold leaveBlock at hr
        split at hr
        · rename_i id' fr1 h1 hx
          injection hr with hr
          simp only [Prod.mk.injEq] at hr
          obtain ⟨hex, rfl, rfl⟩ := hr
          refine wp_mono (hrec.go b fr h _ fr1 h1 hx γ F w0 a w hf hh) ?_
          rintro e a1 w1 ⟨rfl, γ1, hx1, hf1, hh1⟩
          show if id' = id then _ else _
          cases hb : Nat.beq id' id with
          | true =>
            rw [hb] at hex
            rw [Nat.beq_eq] at hb
            rw [if_pos hb]
            subst hex
            exact ⟨rfl, γ1, hx1, hf1, hh1⟩
          | false =>
            rw [hb] at hex
            rw [← Bool.not_eq_true, Nat.beq_eq] at hb
            rw [if_neg hb]
            subst hex
            exact ⟨rfl, γ1, hx1, hf1, hh1⟩
        · rename_i hne
          refine wp_mono (hrec.go b fr h ex fr' h' hr γ F w0 a w hf hh) ?_
          rintro e a1 w1 hp
          have he := hp.1
          cases ex with
          | normal => subst he; exact hp
          | ret => subst he; exact hp
          | exit id' => exact (hne _ _ _ hr).elim
      · rename_i b
        have hr' : (run P O (n + 1)).go (.loop b) fr h = some (ex, fr', h') := hr
        exact wp_loop_rounds (n + 1) (loop_rounds (n + 1) (fun m hm => ih m hm) fr h ex fr' h' γ a w hr' hf hh)
      · injection hr with hr
        simp only [Prod.mk.injEq] at hr
        obtain ⟨rfl, rfl, rfl⟩ := hr
        exact wp_exit ⟨rfl, γ, Ext.refl γ _, hf, hh⟩
      · injection hr with hr
        simp only [Prod.mk.injEq] at hr
        obtain ⟨rfl, rfl, rfl⟩ := hr
        exact wp_ret ⟨rfl, γ, Ext.refl γ _, hf, hh⟩
      · cases hr

end
end Go.Om
/- A closed call by the evaluator, from memory in which some blocks are known, and are only read. Conditions: none. -/
namespace Go.Om
open Go.RowKit

noncomputable def roBlk (cs : List AV) : Blk := { cells := putAll .nil 0 cs, n := cs.length, tok := none, ro := true }
noncomputable def known : List (Nat × List AV) → T Blk
  | [] => .nil
  | (b, cs) :: r => (known r).put b (roBlk cs)
noncomputable def startAt (n : Nat) (es : List (Nat × List AV)) : H := { blks := known es, next := n, tok := 0 }

section
variable {P : Program}
theorem known_get : ∀ (es : List (Nat × List AV)) (b : Nat) (k : Blk), (known es).get b = some k → ∃ cs, (b, cs) ∈ es ∧ k = roBlk cs
  | [], b, k, h => by cases h
  | (b', cs) :: r, b, k, h => by
    rcases get_put h with ⟨rfl, rfl⟩ | ⟨_, h⟩
    · exact ⟨cs, by simp, rfl⟩
    · obtain ⟨cs', h1, h2⟩ := known_get r b k h
      exact ⟨cs', by simp [h1], h2⟩
theorem hr_known {γ : G} {n : Nat} {es : List (Nat × List AV)} {w : World} (hn : ∀ b, n ≤ b → γ.blk b = none) (ht : ∀ t, γ.cap t = none)
    (he : ∀ b cs, (b, cs) ∈ es → ∃ B O ccs t, γ.blk b = some (B, O) ∧ w.heap[B]? = some (.cells ccs t (0, 0)) ∧ O + cs.length ≤ ccs.size ∧ ∀ (i : Nat) (v : AV), cs[i]? = some v → ∃ c, ccs[O + i]? = some c ∧ R γ v c) :
    HR γ (startAt n es) (fun B => w.heap[B]?) w w := by
  refine { os := rfl, tape := rfl, output := rfl, size := Nat.le_refl _, low := fun B o h => h, fresh := hn, ftok := fun t _ => ht t, here := fun b k hk => ?_, inj := fun b b' k k' B O O' hk => ?_ }
  · obtain ⟨cs, hm, rfl⟩ := known_get es b k hk
    obtain ⟨B, O, ccs, t, h1, h2, h3, h4⟩ := he b cs hm
    refine ⟨B, O, h1, (fun h => by cases h), fun _ => ⟨(Array.getElem?_eq_some_iff.1 h2).1, by rw [h2]; simp⟩, At.of rfl ⟨ccs, t, (0, 0), h2, fun i _ => by simp, h3, fun i v hi => ?_, (fun t sz h => by cases h)⟩⟩
    rcases get_putAll cs .nil 0 i v hi with ⟨_, h⟩ | ⟨_, h⟩
    · rw [Nat.sub_zero] at h
      exact ⟨(List.getElem?_eq_some_iff.1 h).1, h4 i v h⟩
    · cases h
  · obtain ⟨cs, hm, rfl⟩ := known_get es b k hk
    intro _ _ _ h
    cases h
/-- A CALL WITH PLAIN ARGUMENTS, from known memory -/
theorem call_known (hmx : P.follows .mixedOrders = true) {O : Orc} (hO : OrcOK P O) {fuel : Nat} {f : FuncId} {args : List Value} {v : Value} {hh hs : H} {γ : G} (hc : callWith P (run P O fuel) f (args.map .lit) hs = some (.lit v, hh)) (w : World)
    (hg : ∀ g, g < P.globals.size → γ.blk g = some (g, 0)) (h0 : HR γ hs (fun B => w.heap[B]?) w w) :
    Calls P f ⟨args⟩ w fun e w' => e = .returned v ∧ Below w.heap.size w w' := by
  obtain ⟨hcalls, _⟩ := callWith_sound (run_sound hmx hO fuel) hc (Rs.lits _ args) hg h0
  refine hcalls.mono ?_
  rintro e w' ⟨c, γ', rfl, _, hR, hH⟩
  rw [R_lit hR]
  refine ⟨rfl, hH.os, hH.tape, hH.output, hH.size, fun k hk => ?_⟩
  rw [hH.low k w.heap[k] (by simp [hk])]
  simp [hk]
theorem yes_known (hmx : P.follows .mixedOrders = true) {O : Orc} (hO : OrcOK P O) {fuel : Nat} {f : FuncId} {hs : H} {γ : G} (hc : yes (callWith P (run P O fuel) f [] hs) = true) (w : World)
    (hg : ∀ g, g < P.globals.size → γ.blk g = some (g, 0)) (h0 : HR γ hs (fun B => w.heap[B]?) w w) : Calls P f #[] w fun e w' => e = .returned (.bool true) ∧ Below w.heap.size w w' := by
  unfold yes at hc
  split at hc
  · rename_i h hcall
    exact call_known hmx hO (args := []) hcall w hg h0
  · cases hc
end
end Go.Om
