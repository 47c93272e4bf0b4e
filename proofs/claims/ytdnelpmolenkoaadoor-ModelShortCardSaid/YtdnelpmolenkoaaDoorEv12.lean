/- A region that draws its order: what its edges, its chain of turns and its temporaries say. Conditions: none. -/
import Derived.Test.YtdnelpmolenkoaaDoorEv11
namespace Go.Ev
open Go.RowKit

-- masks

theorem maskOf_bit (acc : List Nat) : ∀ (es : List Edge) (j : Nat), Nat.testBit (maskOf acc es) j = true → ∃ e ∈ es, Region.binds .any e = true ∧ (j = e.on ∨ Nat.testBit (acc.getD e.on 0) j = true)
  | [], j, h => by simp [maskOf] at h
  | e :: es, j, h => by
    unfold maskOf at h
    cases hb : Region.binds .any e with
    | false =>
      rw [hb] at h
      obtain ⟨e', he', hx⟩ := maskOf_bit acc es j h
      exact ⟨e', by simp [he'], hx⟩
    | true =>
      rw [hb] at h
      have h : Nat.testBit ((2 ^ e.on ||| acc.getD e.on 0) ||| maskOf acc es) j = true := h
      rw [Nat.testBit_or, Nat.testBit_or, Nat.testBit_two_pow, Bool.or_eq_true, Bool.or_eq_true] at h
      rcases h with (h | h) | h
      · exact ⟨e, by simp, hb, .inl (by simpa using (of_decide_eq_true h).symm)⟩
      · exact ⟨e, by simp, hb, .inr h⟩
      · obtain ⟨e', he', hx⟩ := maskOf_bit acc es j h
        exact ⟨e', by simp [he'], hx⟩
theorem masksGo_spec : ∀ (l : List Oper) (acc : List Nat), ∃ tail, masksGo acc l = acc ++ tail ∧ tail.length = l.length ∧ ∀ t o, l[t]? = some o → tail[t]? = some (maskOf (acc ++ tail.take t) o.after.toList)
  | [], acc => ⟨[], by simp [masksGo], rfl, fun t o h => by simp at h⟩
  | o :: l, acc => by
    obtain ⟨tail, h1, h2, h3⟩ := masksGo_spec l (acc ++ [maskOf acc o.after.toList])
    refine ⟨maskOf acc o.after.toList :: tail, by simp [masksGo, h1], by simp [h2], fun t o' ht => ?_⟩
    cases t with
    | zero => simp at ht; subst ht; simp
    | succ t =>
      rw [List.getElem?_cons_succ] at ht ⊢
      rw [h3 t o' ht]
      simp

def DC (os : Array Oper) (S : Nat → Prop) : Prop := ∀ i o, os[i]? = some o → S i → ∀ e ∈ o.after, Region.binds .any e = true → S e.on

theorem mask_in {os : Array Oper} {S : Nat → Prop} (hdc : DC os S) : ∀ (i : Nat) (o : Oper), os[i]? = some o → (∀ e ∈ o.after, Region.binds .any e = true → S e.on) → ∀ j, Nat.testBit ((masks os).getD i 0) j = true → S j := by
  obtain ⟨tail, h1, h2, h3⟩ := masksGo_spec os.toList []
  have hm : masks os = tail := by rw [masks, h1]; rfl
  intro i
  induction i using Nat.strongRecOn with
  | _ i ih =>
    intro o ho hr j hj
    have hgi : tail[i]? = some (maskOf (tail.take i) o.after.toList) := by
      have := h3 i o (by simpa using ho)
      simpa using this
    rw [hm, List.getD_eq_getElem?_getD, hgi] at hj
    obtain ⟨e, he, hb, hx⟩ := maskOf_bit _ _ _ hj
    have hSe := hr e (by simpa using he) hb
    rcases hx with rfl | hx
    · exact hSe
    · by_cases hlt : e.on < i
      · have hn : i < os.size := (Array.getElem?_eq_some_iff.1 ho).1
        have hoe : os[e.on]? = some os[e.on] := Array.getElem?_eq_getElem (by omega)
        refine ih e.on hlt _ hoe (fun e' he' hb' => hdc e.on _ hoe hSe e' he' hb') j ?_
        rw [hm]
        rw [List.getD_eq_getElem?_getD, List.getElem?_take, if_pos hlt] at hx
        rw [List.getD_eq_getElem?_getD]
        exact hx
      · rw [List.getD_eq_getElem?_getD, List.getElem?_take, if_neg hlt] at hx
        simp at hx
theorem mask_closed {os : Array Oper} {S : Nat → Prop} (hdc : DC os S) {i j : Nat} (hi : i < os.size) (hS : S i) (hj : Nat.testBit ((masks os).getD i 0) j = true) : S j :=
  mask_in hdc i os[i] (Array.getElem?_eq_getElem hi) (fun e he hb => hdc i _ (Array.getElem?_eq_getElem hi) hS e he hb) j hj

theorem edgesOk_spec : ∀ (l : List Oper) (i : Nat), edgesOk i l = true → ∀ t o, l[t]? = some o → ∀ e ∈ o.after, Region.binds .any e = true → e.on < i + t
  | [], i, _, t, o, ht, _, _, _ => by simp at ht
  | x :: l, i, h, t, o, ht, e, he, hb => by
    simp only [edgesOk, Bool.and_eq_true] at h
    cases t with
    | zero =>
      simp at ht
      subst ht
      have := List.all_eq_true.1 h.1 e (by simpa using he)
      rw [hb] at this
      simp only [Bool.not_true, Bool.false_or] at this
      exact Nat.le_of_ble_eq_true this
    | succ t =>
      rw [List.getElem?_cons_succ] at ht
      have := edgesOk_spec l (i + 1) h.2 t o ht e he hb
      omega
theorem aheadOk_spec {os : Array Oper} {oj : Oper} {mj : Nat} : ∀ (l : List Oper) (i : Nat), aheadOk os oj mj i l = true → ∀ t oi, l[t]? = some oi → Nat.testBit mj (i + t) = true ∨ oi.apart os oj = true
  | [], i, _, t, oi, ht => by simp at ht
  | x :: l, i, h, t, oi, ht => by
    simp only [aheadOk, Bool.and_eq_true, Bool.or_eq_true] at h
    cases t with
    | zero => simp at ht; subst ht; exact h.1
    | succ t =>
      rw [List.getElem?_cons_succ] at ht
      have := aheadOk_spec l (i + 1) h.2 t oi ht
      rw [show i + (t + 1) = i + 1 + t from by omega]
      exact this
theorem pairsOk_spec {os : Array Oper} {ms : List Nat} : ∀ (l sofar : List Oper), pairsOk os ms sofar l = true → ∀ t oj, l[t]? = some oj → ∀ i oi, i < sofar.length + t → (sofar ++ l)[i]? = some oi →
    Nat.testBit (ms.getD (sofar.length + t) 0) i = true ∨ oi.apart os oj = true
  | [], sofar, _, t, oj, ht, _, _, _, _ => by simp at ht
  | x :: l, sofar, h, t, oj, ht, i, oi, hi, hoi => by
    simp only [pairsOk, Bool.and_eq_true] at h
    cases t with
    | zero =>
      simp at ht
      subst ht
      rw [List.getElem?_append_left (by omega)] at hoi
      have := aheadOk_spec sofar 0 h.1 i oi hoi
      simpa using this
    | succ t =>
      rw [List.getElem?_cons_succ] at ht
      have := pairsOk_spec l (sofar ++ [x]) h.2 t oj ht i oi (by simp; omega) (by simpa using hoi)
      rw [show sofar.length + (t + 1) = (sofar ++ [x]).length + t from by simp; omega]
      exact this

/-- does the i-th operation turn memory? -/
noncomputable def isMi (P : Program) (os : Array Oper) (i : Nat) : Bool := match os[i]? with
  | some o => isM P o.op
  | none => false
theorem memsFrom_eq (P : Program) : ∀ (l : List Oper) (i : Nat), memsFrom P i l = (List.range' i l.length).filter fun m => match l[m - i]? with | some o => isM P o.op | none => false
  | [], i => by simp [memsFrom]
  | o :: l, i => by
    simp only [memsFrom, List.length_cons, List.range'_succ, List.filter_cons, Nat.sub_self, List.getElem?_cons_zero]
    rw [memsFrom_eq P l (i + 1)]
    have e : (List.range' (i + 1) l.length).filter (fun m => match l[m - (i + 1)]? with | some o => isM P o.op | none => false) =
        (List.range' (i + 1) l.length).filter (fun m => match (o :: l)[m - i]? with | some o => isM P o.op | none => false) := by
      apply List.filter_congr
      intro m hm
      rw [List.mem_range'_1] at hm
      have : m - i = (m - (i + 1)) + 1 := by omega
      rw [this, List.getElem?_cons_succ]
    rw [e]
    cases isM P o.op <;> rfl
theorem mems_eq (P : Program) (os : Array Oper) : memsFrom P 0 os.toList = (List.range os.size).filter (isMi P os) := by
  rw [memsFrom_eq, ← List.range_eq_range', Array.length_toList]
  apply List.filter_congr
  intro m _
  simp [isMi]
theorem chainOk_spec {ms : List Nat} : ∀ (l sofar : List Nat), chainOk ms sofar l = true → (∀ x ∈ sofar, ∀ m ∈ l, Nat.testBit (ms.getD m 0) x = true) ∧ l.Pairwise (fun x m => Nat.testBit (ms.getD m 0) x = true)
  | [], sofar, _ => ⟨fun _ _ _ h => by simp at h, .nil⟩
  | m :: l, sofar, h => by
    simp only [chainOk, Bool.and_eq_true] at h
    obtain ⟨h1, h2⟩ := chainOk_spec l (sofar ++ [m]) h.2
    refine ⟨fun x hx y hy => ?_, ?_⟩
    · rcases List.mem_cons.1 hy with rfl | hy
      · exact List.all_eq_true.1 h.1 x hx
      · exact h1 x (by simp [hx]) y hy
    · exact .cons (fun y hy => h1 m (by simp) y hy) h2
theorem chain_bit {P : Program} {os : Array Oper} {ms : List Nat} (h : chainOk ms [] (memsFrom P 0 os.toList) = true) {x m : Nat} (hx : isMi P os x = true) (hm : isMi P os m = true) (hlt : x < m) : Nat.testBit (ms.getD m 0) x = true := by
  have hp := (chainOk_spec _ _ h).2
  rw [mems_eq] at hp
  have hn : ∀ y, isMi P os y = true → y < os.size := fun y hy => by
    unfold isMi at hy
    split at hy
    · rename_i o ho; exact (Array.getElem?_eq_some_iff.1 ho).1
    · cases hy
  have hs : ((List.range os.size).filter (isMi P os)).Pairwise (· < ·) := List.Pairwise.filter _ List.pairwise_lt_range
  rw [List.pairwise_iff_getElem] at hp hs
  obtain ⟨i, hi, ei⟩ := List.mem_iff_getElem.1 (show x ∈ (List.range os.size).filter (isMi P os) from by simp [hx, hn x hx])
  obtain ⟨j, hj, ej⟩ := List.mem_iff_getElem.1 (show m ∈ (List.range os.size).filter (isMi P os) from by simp [hm, hn m hm])
  have hij : i < j := by
    rcases Nat.lt_trichotomy i j with h' | h' | h'
    · exact h'
    · subst h'; omega
    · have := hs j i hj hi h'; omega
  have := hp i j hi hj hij
  rw [ei, ej] at this
  exact this
theorem isM_cls {P : Program} {os : Array Oper} {i : Nat} {o : Oper} (ho : os[i]? = some o) : isMi P os i = true ↔ cls P o.op = 3 := by
  simp [isMi, ho, isM]

noncomputable def cnt (P : Program) (os : Array Oper) (k : Nat) : Nat := ((List.range k).filter (isMi P os)).length
theorem cnt_succ (P : Program) (os : Array Oper) (k : Nat) : cnt P os (k + 1) = cnt P os k + (if isMi P os k then 1 else 0) := by
  simp only [cnt, List.range_succ, List.filter_append, List.length_append, List.filter_cons, List.filter_nil]
  split <;> simp

theorem cls_le {P : Program} (o : Op) : cls P o ≤ 3 := by
  unfold cls
  split <;> first | (exact Nat.le_refl _) | (exact Nat.zero_le _) | (simp; done) | skip
  · cases (isSlice P _ || isSlice P _) <;> simp
  · unfold clsC
    split
    · unfold clsB; split <;> simp
    · simp

-- the text's order, as a trace

section
variable {P : Program} (rec : Rec) (os : Array Oper) (ms : List Nat) (base : Nat)

abbrev Pend := List (Nat × List AV)
def cut (m : Nat) (p : Pend) : Pend := p.filter fun x => !Nat.testBit m x.1
theorem lay_snd (mask : Nat) (h : H) : ∀ p : Pend, (lay base mask h p).2 = cut mask p
  | [] => rfl
  | (i, cs) :: r => by
    have ih := lay_snd mask h r
    unfold lay
    cases hb : Nat.testBit mask i with
    | true => simp only [sel_true, cut, List.filter_cons, hb]; simpa [cut] using ih
    | false => simp only [sel_false, cut, List.filter_cons, hb]; simpa [cut] using ih

/-- heap and waiting blocks behind an operation -/
def nxt (r : R1) (i : Nat) (s : H × Pend) : H × Pend := match r.k with
  | .mem _ h1 => (h1, cut (ms.getD i 0) s.2)
  | .skip (some hb) => (hb, cut (ms.getD i 0) s.2)
  | .alloc cs => (s.1, (i, cs) :: s.2)
  | _ => s
def StepOK (P : Program) (r : R1) (i : Nat) (s : H × Pend) : Prop := match r.k with
  | .skip none => guardOk r.fr os r.o.guard = some false ∧ r.v = .lit undef ∧ cls P r.o.op ≠ 3
  | .skip (some hb) => guardOk r.fr os r.o.guard = some false ∧ r.v = .lit undef ∧ cls P r.o.op = 3 ∧ hb = (lay base (ms.getD i 0) s.1 s.2).1
  | .pure => guardOk r.fr os r.o.guard = some true ∧ cls P r.o.op ≠ 3 ∧ pureOp P r.fr r.o = some r.v
  | .read => guardOk r.fr os r.o.guard = some true ∧ cls P r.o.op ≠ 3
  | .alloc cs => guardOk r.fr os r.o.guard = some true ∧ cls P r.o.op ≠ 3 ∧ ∃ f, allocOp P r.fr r.o = some (cs, f) ∧ r.v = f (base + i)
  | .mem hb h1 => guardOk r.fr os r.o.guard = some true ∧ cls P r.o.op = 3 ∧ hb = (lay base (ms.getD i 0) s.1 s.2).1 ∧ memOp P rec r.fr r.o hb = some (r.v, h1) ∧ base + os.size ≤ h1.next
def Tr (P : Program) : List R1 → List Oper → Nat → Fr → H × Pend → Fr → H × Pend → Prop
  | [], [], _, fr, s, fr', s' => fr = fr' ∧ s = s'
  | r :: rs, o :: l, i, fr, s, fr', s' => r.fr = fr ∧ r.o = o ∧ StepOK rec os ms base P r i s ∧ ∃ fr1, fr.put o.dst r.v = some fr1 ∧ Tr P rs l (i + 1) fr1 (nxt ms r i s) fr' s'
  | _, _, _, _, _, _, _ => False

theorem pre_some {r : R1} {x : Option Out} {y : Out} (h : pre r x = some y) : ∃ rs z, x = some (rs, z) ∧ y = (r :: rs, z) := by
  unfold pre at h
  split at h
  · rename_i rs z
    injection h with h
    exact ⟨rs, z, rfl, h.symm⟩
  · cases h
theorem dr_Tr : ∀ (l : List Oper) (i : Nat) (fr : Fr) (h : H) (p : Pend) (rs : List R1) (fr' : Fr) (h' : H) (p' : Pend), dr P rec os ms base l i fr h p = some (rs, fr', h', p') → Tr rec os ms base P rs l i fr (h, p) fr' (h', p')
  | [], i, fr, h, p, rs, fr', h', p', hd => by
    simp only [dr] at hd
    injection hd with hd
    simp only [Prod.mk.injEq] at hd
    obtain ⟨rfl, rfl, rfl, rfl⟩ := hd
    exact ⟨rfl, rfl⟩
  | o :: l, i, fr, h, p, rs, fr', h', p', hd => by
    have hls := lay_snd base (ms.getD i 0) h p
    unfold dr at hd
    split at hd
    · cases hd
    · rename_i hg
      split at hd
      · cases hd
      · rename_i fr1 hp
        split at hd
        · rename_i hc
          split at hd
          rename_i hb pd hlay
          obtain ⟨rs1, z, hz, hy⟩ := pre_some hd
          injection hy with e1 e2
          subst e1; subst e2
          have hpd : pd = cut (ms.getD i 0) p := by rw [← hls, hlay]
          subst hpd
          exact ⟨rfl, rfl, ⟨hg, rfl, hc, by rw [hlay]⟩, fr1, hp, dr_Tr l (i + 1) fr1 hb _ rs1 fr' h' p' hz⟩
        · rename_i hc
          obtain ⟨rs1, z, hz, hy⟩ := pre_some hd
          injection hy with e1 e2
          subst e1; subst e2
          exact ⟨rfl, rfl, ⟨hg, rfl, fun e => hc e⟩, fr1, hp, dr_Tr l (i + 1) fr1 h p rs1 fr' h' p' hz⟩
    · rename_i hg
      split at hd
      · rename_i hc
        split at hd
        · cases hd
        · rename_i v hv
          split at hd
          · cases hd
          · rename_i fr1 hp
            obtain ⟨rs1, z, hz, hy⟩ := pre_some hd
            injection hy with e1 e2
            subst e1; subst e2
            exact ⟨rfl, rfl, ⟨hg, (fun e => by rw [hc] at e; cases e), hv⟩, fr1, hp, dr_Tr l (i + 1) fr1 h p rs1 fr' h' p' hz⟩
      · rename_i hc
        split at hd
        · cases hd
        · rename_i v hv
          split at hd
          · cases hd
          · rename_i fr1 hp
            obtain ⟨rs1, z, hz, hy⟩ := pre_some hd
            injection hy with e1 e2
            subst e1; subst e2
            exact ⟨rfl, rfl, ⟨hg, (fun e => by rw [hc] at e; cases e)⟩, fr1, hp, dr_Tr l (i + 1) fr1 h p rs1 fr' h' p' hz⟩
      · rename_i hc
        split at hd
        · cases hd
        · rename_i cs f hv
          split at hd
          · cases hd
          · rename_i fr1 hp
            obtain ⟨rs1, z, hz, hy⟩ := pre_some hd
            injection hy with e1 e2
            subst e1; subst e2
            exact ⟨rfl, rfl, ⟨hg, (fun e => by rw [hc] at e; cases e), f, hv, rfl⟩, fr1, hp, dr_Tr l (i + 1) fr1 h _ rs1 fr' h' p' hz⟩
      · rename_i h0 h1 h2
        split at hd
        rename_i hb pd hlay
        split at hd
        · cases hd
        · rename_i v hh1 hv
          split at hd
          · cases hd
          · rename_i fr1 hp
            obtain ⟨hn, hd⟩ := sel_some hd
            obtain ⟨rs1, z, hz, hy⟩ := pre_some hd
            injection hy with e1 e2
            subst e1; subst e2
            have hpd : pd = cut (ms.getD i 0) p := by rw [← hls, hlay]
            subst hpd
            have hc3 : cls P o.op = 3 := by
              have hle : cls P o.op ≤ 3 := cls_le o.op
              have a0 : cls P o.op ≠ 0 := fun e => h0 e
              have a1 : cls P o.op ≠ 1 := fun e => h1 e
              have a2 : cls P o.op ≠ 2 := fun e => h2 e
              omega
            rw [Nat.ble_eq] at hn
            exact ⟨rfl, rfl, ⟨hg, hc3, by rw [hlay], hv, hn⟩, fr1, hp, dr_Tr l (i + 1) fr1 hh1 _ rs1 fr' h' p' hz⟩
end
end Go.Ev
