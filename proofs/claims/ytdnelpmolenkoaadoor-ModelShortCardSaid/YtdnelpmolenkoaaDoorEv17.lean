/- A region that draws its order: one operation more, whichever it is. Conditions: none. -/
import Derived.Test.YtdnelpmolenkoaaDoorEv16
namespace Go.Ev
open Go.RowKit

section
variable {P : Program} {rec : Rec} {os : Array Oper} {base : Nat} {rs : List R1} {h0 : H} {fr0 fr' : Fr} (T : Told P rec os base rs h0 fr0 fr')
variable {γ0 γ : G} {S : Nat → Prop} {K : Nat} {F F' : Nat → Option Obj} {w0 : World} {a : Act} {w : World}

theorem addAll_next (h : H) : ∀ q : Pend, (addAll base h q).next = h.next
  | [] => rfl
  | (_, _) :: r => by simp only [addAll, H.add]; exact addAll_next h r

include T
theorem Told.lt {i : Nat} {r : R1} (hr : rs[i]? = some r) : i < os.size := by rw [← T.len]; exact (List.getElem?_eq_some_iff.1 hr).1

/-- neither memory nor a new block -/
theorem Inv.plain (I : Inv P os base rs h0 fr0 γ0 γ S K F F' w0 a w) (hdc : DC os S) (hSn : ∀ j, S j → j < os.size) {i : Nat} {r : R1} (hr : rs[i]? = some r) (hnot : ¬ S i) (hM : isMi P os i = false) (hA : ∀ cs, r.k ≠ .alloc cs) {c : Value} (hc : R γ r.v c) :
    Inv P os base rs h0 fr0 γ0 γ (fun j => S j ∨ j = i) K F F' w0 (a.put r.o.dst c) w := by
  obtain ⟨p1, p2, p3, p4⟩ := T.put_act hdc hr hnot hSn I (G.le_refl γ) hc
  have hP : ∀ j cs, Pnd P os rs (fun j => S j ∨ j = i) K j cs ↔ Pnd P os rs S K j cs := fun j cs => by
    unfold Pnd
    constructor
    · rintro ⟨h1 | rfl, h2, h3⟩
      · exact ⟨h1, h2, h3⟩
      · obtain ⟨r', hr', hk⟩ := h2
        rw [hr] at hr'
        injection hr' with hr'
        subst hr'
        exact absurd hk (hA _)
    · rintro ⟨h1, h2, h3⟩
      exact ⟨.inl h1, h2, h3⟩
  refine { le := I.le, Kn := I.Kn, mem := fun m hm => ?_, hr := I.hr, nx := I.nx, wait := fun j cs hj => I.wait j cs ((hP j cs).1 hj), apart := fun j j' cs cs' B h1 h2 => I.apart j j' cs cs' B ((hP _ _).1 h1) ((hP _ _).1 h2), rest := fun B hB => I.rest B (fun j cs hj => hB j cs ((hP _ _).2 hj)), out := fun j hj hn => I.out j hj (fun hs => hn (.inl hs)), defers := p1, size := p2, wrote := p3, kept := p4, glob := I.glob, g := I.g }
  rw [← I.mem m hm]
  constructor
  · rintro (h | rfl)
    · exact h
    · rw [hM] at hm; cases hm
  · exact .inl

/-- a new block -/
theorem Inv.alloc (I : Inv P os base rs h0 fr0 γ0 γ S K F F' w0 a w) (hdc : DC os S) (hSn : ∀ j, S j → j < os.size) {i : Nat} {r : R1} (hr : rs[i]? = some r) (hnot : ¬ S i) (hM : isMi P os i = false) {cs : List AV} (hA : r.k = .alloc cs) {c : Value} {ccs : List Value} {e : TypeId} (hcs : Rs γ cs ccs)
    (hc : R (γ.add (base + i) w.heap.size 0) r.v c) :
    Inv P os base rs h0 fr0 γ0 (γ.add (base + i) w.heap.size 0) (fun j => S j ∨ j = i) K F (fun X => if X = w.heap.size then some (.cells ⟨ccs⟩ e (0, 0)) else F' X) w0 (a.put r.o.dst c) (w.alloc (.cells ⟨ccs⟩ e)) := by
  have hi := T.lt hr
  have hb := I.out i hi hnot
  have hle := G.le_add γ (B := w.heap.size) (O := 0) hb
  obtain ⟨p1, p2, p3, p4⟩ := T.put_act hdc hr hnot hSn I hle hc
  have hoth : ∀ j, j ≠ i → (γ.add (base + i) w.heap.size 0).blk (base + j) = γ.blk (base + j) := fun j hj => by simp [G.add, hj]
  have hown : (γ.add (base + i) w.heap.size 0).blk (base + i) = some (w.heap.size, 0) := by simp [G.add]
  have hPi : ∀ j cs', Pnd P os rs (fun j => S j ∨ j = i) K j cs' → j ≠ i → Pnd P os rs S K j cs' := fun j cs' h hne => ⟨h.1.resolve_right hne, h.2⟩
  have hPo : ∀ j cs', Pnd P os rs S K j cs' → j ≠ i := fun j cs' h e => by subst e; exact hnot h.1
  have hlow : ∀ j cs' B, Pnd P os rs S K j cs' → γ.blk (base + j) = some (B, 0) → B < w.heap.size := fun j cs' B h hB => by
    obtain ⟨B', ccs', e', q1, q2, _, _⟩ := (I.wait j cs' h).1
    rw [hB] at q1
    injection q1 with q1
    injection q1 with e1 _
    subst e1
    exact (Array.getElem?_eq_some_iff.1 (I.hr.low _ _ q2)).1
  have hF'n : F' w.heap.size = none := by
    cases hF : F' w.heap.size with
    | none => rfl
    | some o => have := I.hr.low _ _ hF; simp at this
  have hFn : F w.heap.size = none := by
    rw [← I.rest w.heap.size (fun j cs' h hB => Nat.lt_irrefl _ (hlow j cs' _ h hB))]
    exact hF'n
  refine { le := ⟨I.le.le.trans hle, fun b hbb => ?_, I.le.mono⟩, Kn := I.Kn, mem := fun m hm => ?_, hr := I.hr.newOut _ hb (Nat.lt_of_lt_of_le (by omega) I.nx), nx := I.nx, wait := fun j cs' hj => ?_, apart := fun j j' cs1 cs2 B h1 h2 hB1 hB2 => ?_, rest := fun B hB => ?_, out := fun j hj hn => ?_, defers := p1, size := p2, wrote := p3, kept := p4, glob := fun g hg => hle.1 _ _ (I.glob g hg), g := I.g }
  · have : (γ.add (base + i) w.heap.size 0).blk b = γ.blk b := by
      simp only [G.add]
      rw [if_neg (by omega)]
    rw [this]
    exact I.le.same b hbb
  · rw [← I.mem m hm]
    constructor
    · rintro (h | rfl)
      · exact h
      · rw [hM] at hm; cases hm
    · exact .inl
  · by_cases hji : j = i
    · subst hji
      obtain ⟨r', hr', hk'⟩ := hj.2.1
      rw [hr] at hr'
      injection hr' with hr'
      subst hr'
      rw [hA] at hk'
      injection hk' with hk'
      subst hk'
      refine ⟨⟨w.heap.size, ccs, e, hown, by simp, I.hr.size, hcs.mono hle⟩, fun B hB => ?_⟩
      rw [hown] at hB
      injection hB with hB
      injection hB with e1 _
      subst e1
      exact hFn
    · have hPj := hPi j cs' hj hji
      obtain ⟨⟨B, ccs', e', q1, q2, q3, q4⟩, q5⟩ := I.wait j cs' hPj
      have hne : B ≠ w.heap.size := by have := hlow j cs' B hPj q1; omega
      refine ⟨⟨B, ccs', e', by rw [hoth j hji]; exact q1, by simp [hne, q2], q3, q4.mono hle⟩, fun B' hB' => ?_⟩
      rw [hoth j hji] at hB'
      exact q5 B' hB'
  · by_cases h1i : j = i
    · by_cases h2i : j' = i
      · rw [h1i, h2i]
      · rw [h1i, hown] at hB1
        injection hB1 with hB1
        injection hB1 with e1 _
        rw [hoth j' h2i] at hB2
        have := hlow j' cs2 B (hPi _ _ h2 h2i) hB2
        omega
    · by_cases h2i : j' = i
      · rw [h2i, hown] at hB2
        injection hB2 with hB2
        injection hB2 with e1 _
        rw [hoth j h1i] at hB1
        have := hlow j cs1 B (hPi _ _ h1 h1i) hB1
        omega
      · rw [hoth j h1i] at hB1
        rw [hoth j' h2i] at hB2
        exact I.apart j j' cs1 cs2 B (hPi _ _ h1 h1i) (hPi _ _ h2 h2i) hB1 hB2
  · have hPii : Pnd P os rs (fun j => S j ∨ j = i) K i cs := by
      refine ⟨.inr rfl, ⟨r, hr, hA⟩, fun m hm hMm => ?_⟩
      cases hbit : Nat.testBit ((masks os).getD m 0) i with
      | false => rfl
      | true =>
        have hSm : S m := (I.mem m hMm).2 hm
        exact absurd (mask_closed hdc (hSn m hSm) hSm hbit) hnot
    have hne : B ≠ w.heap.size := fun e => hB i cs hPii (by rw [e]; exact hown)
    simp only [hne, if_false]
    refine I.rest B (fun j cs' hj hjB => ?_)
    have hji := hPo j cs' hj
    exact hB j cs' ⟨.inl hj.1, hj.2⟩ (by rw [hoth j hji]; exact hjB)
  · have hji : j ≠ i := fun e => hn (.inr e)
    rw [hoth j hji]
    exact I.out j hj (fun hs => hn (.inl hs))

/-- a turn of memory, one: what it hangs on is laid -/
theorem Inv.lay (I : Inv P os base rs h0 fr0 γ0 γ S K F F' w0 a w) (hdc : DC os S) {i : Nat} {r : R1} (hr : rs[i]? = some r) (hready : ∀ e ∈ r.o.after, Region.binds .any e = true → S e.on) (hnot : ¬ S i) (hSn : ∀ j, S j → j < os.size) (hM : isMi P os i = true) :
    ∃ F'', HR γ (lay base ((masks os).getD i 0) (stAt (masks os) rs 0 (h0, []) i).1 (stAt (masks os) rs 0 (h0, []) i).2).1 F'' w0 w ∧
      (lay base ((masks os).getD i 0) (stAt (masks os) rs 0 (h0, []) i).1 (stAt (masks os) rs 0 (h0, []) i).2).1.next = (stAt (masks os) rs 0 (h0, []) K).1.next ∧
      (∀ m, isMi P os m = true → (S m ↔ m < i)) ∧
      (∀ j cs, Pnd P os rs (fun j => S j ∨ j = i) (i + 1) j cs → Pnd P os rs S K j cs ∧ Waits γ F'' w0 base j cs) ∧
      (∀ B, (∀ j cs, Pnd P os rs (fun j => S j ∨ j = i) (i + 1) j cs → γ.blk (base + j) ≠ some (B, 0)) → F'' B = F B) := by
  have hi := T.lt hr
  have hoi := (T.at_ i r hr).1
  have hSi : ∀ m, isMi P os m = true → (S m ↔ m < i) := fun m hm => by
    constructor
    · intro hs
      rcases Nat.lt_trichotomy m i with h | h | h
      · exact h
      · subst h; exact absurd hs hnot
      · exact absurd (mask_closed hdc (hSn m hs) hs (T.chain i m hM hm h)) hnot
    · intro hlt
      exact mask_in hdc i r.o hoi hready m (T.chain m i hm hM hlt)
  have hKi : ∀ m, isMi P os m = true → (m < K ↔ m < i) := fun m hm => (I.mem m hm).symm.trans (hSi m hm)
  have hst : (stAt (masks os) rs 0 (h0, []) i).1 = (stAt (masks os) rs 0 (h0, []) K).1 := T.st_eq I.Kn (by omega) (fun m hm => hKi m hm)
  obtain ⟨hpend, hpw⟩ := T.pend_at i (by omega)
  have hA : ∀ cs, r.k ≠ .alloc cs := fun cs e => by
    rcases (T.kind hr).1 hM with ⟨_, _, e'⟩ | ⟨_, e'⟩ <;> rw [e] at e' <;> cases e'
  -- what is laid
  have hq : ∀ x ∈ (stAt (masks os) rs 0 (h0, []) i).2.filter (fun x => Nat.testBit ((masks os).getD i 0) x.1), Pnd P os rs S K x.1 x.2 := fun x hx => by
    obtain ⟨hx1, hx2⟩ := List.mem_filter.1 hx
    obtain ⟨_, h2, h3⟩ := (hpend x.1 x.2).1 hx1
    exact ⟨mask_in hdc i r.o hoi hready x.1 hx2, h2, fun m hm hMm => h3 m ((hKi m hMm).1 hm) hMm⟩
  have hpair : ((stAt (masks os) rs 0 (h0, []) i).2.filter (fun x => Nat.testBit ((masks os).getD i 0) x.1)).Pairwise (fun x y => ∀ B, γ.blk (base + x.1) = some (B, 0) → γ.blk (base + y.1) = some (B, 0) → False) := by
    refine List.Pairwise.imp_of_mem (fun {x y} hx hy hlt B h1 h2 => ?_) (List.Pairwise.filter _ hpw)
    have := I.apart x.1 y.1 x.2 y.2 B (hq x hx) (hq y hy) h1 h2
    omega
  have hHR := I.hr.addAll (base := base) _ (fun x hx => (I.wait x.1 x.2 (hq x hx)).1) hpair
  refine ⟨_, by rw [lay_fst, hst]; exact hHR, by rw [lay_fst, addAll_next, hst], hSi, fun j cs hj => ?_, fun B hB => ?_⟩
  · have hji : j ≠ i := fun e => by
      subst e
      obtain ⟨r', hr', hk⟩ := hj.2.1
      rw [hr] at hr'
      injection hr' with hr'
      subst hr'
      exact hA _ hk
    have hPj : Pnd P os rs S K j cs := ⟨hj.1.resolve_right hji, hj.2.1, fun m hm hMm => hj.2.2 m (by have := (hKi m hMm).1 hm; omega) hMm⟩
    obtain ⟨⟨B, ccs, e, q1, q2, q3, q4⟩, _⟩ := I.wait j cs hPj
    refine ⟨hPj, B, ccs, e, q1, (if_neg ?_).trans q2, q3, q4⟩
    · rintro ⟨x, hx, hxB⟩
      have := I.apart x.1 j x.2 cs B (hq x hx) hPj hxB q1
      have hbit := (List.mem_filter.1 hx).2
      rw [this] at hbit
      have := hj.2.2 i (Nat.lt_succ_self _) hM
      rw [this] at hbit
      cases hbit
  · by_cases hin : ∃ x ∈ (stAt (masks os) rs 0 (h0, []) i).2.filter (fun x => Nat.testBit ((masks os).getD i 0) x.1), γ.blk (base + x.1) = some (B, 0)
    · refine (if_pos hin).trans ?_
      obtain ⟨x, hx, hxB⟩ := hin
      exact ((I.wait x.1 x.2 (hq x hx)).2 B hxB).symm
    · refine (if_neg hin).trans ?_
      refine I.rest B (fun j cs hj hjB => ?_)
      cases hbit : Nat.testBit ((masks os).getD i 0) j with
      | true =>
        refine hin ⟨(j, cs), List.mem_filter.2 ⟨(hpend j cs).2 ⟨T.mask_lt hi hbit, hj.2.1, fun m hm hMm => hj.2.2 m ((hKi m hMm).2 hm) hMm⟩, hbit⟩, hjB⟩
      | false =>
        refine hB j cs ⟨.inl hj.1, hj.2.1, fun m hm hMm => ?_⟩ hjB
        rcases Nat.lt_succ_iff_lt_or_eq.1 hm with h | rfl
        · exact hj.2.2 m ((hKi m hMm).2 h) hMm
        · exact hbit

/-- a turn of memory, two: behind it -/
theorem Inv.turned (I : Inv P os base rs h0 fr0 γ0 γ S K F F' w0 a w) (hdc : DC os S) {i : Nat} {r : R1} (hr : rs[i]? = some r) (hnot : ¬ S i) (hSn : ∀ j, S j → j < os.size) (hM : isMi P os i = true) {F'' : Nat → Option Obj}
    (hSi : ∀ m, isMi P os m = true → (S m ↔ m < i)) (hwait : ∀ j cs, Pnd P os rs (fun j => S j ∨ j = i) (i + 1) j cs → Pnd P os rs S K j cs ∧ Waits γ F'' w0 base j cs)
    (hrest : ∀ B, (∀ j cs, Pnd P os rs (fun j => S j ∨ j = i) (i + 1) j cs → γ.blk (base + j) ≠ some (B, 0)) → F'' B = F B)
    {γ' : G} {w' : World} {c : Value} (hext : Ext γ γ' (stAt (masks os) rs 0 (h0, []) K).1.next (stAt (masks os) rs 0 (h0, []) (i + 1)).1.next) (hHR : HR γ' (stAt (masks os) rs 0 (h0, []) (i + 1)).1 F'' w0 w') (hnx : base + os.size ≤ (stAt (masks os) rs 0 (h0, []) (i + 1)).1.next) (hc : R γ' r.v c) :
    Inv P os base rs h0 fr0 γ0 γ' (fun j => S j ∨ j = i) (i + 1) F F'' w0 (a.put r.o.dst c) w' := by
  have hi := T.lt hr
  obtain ⟨p1, p2, p3, p4⟩ := T.put_act hdc hr hnot hSn I hext.le hc
  have hsame : ∀ j, j < os.size → γ'.blk (base + j) = γ.blk (base + j) := fun j hj => hext.same _ (Nat.lt_of_lt_of_le (by omega) I.nx)
  have hjn : ∀ j cs, Pnd P os rs S K j cs → j < os.size := fun j cs h => hSn j h.1
  refine { le := I.le.trans hext, Kn := by omega, mem := fun m hm => ?_, hr := hHR, nx := hnx, wait := fun j cs hj => ?_, apart := fun j j' cs1 cs2 B h1 h2 hB1 hB2 => ?_, rest := fun B hB => ?_, out := fun j hj hn => ?_, defers := p1, size := p2, wrote := p3, kept := p4, glob := fun g hg => hext.le.1 _ _ (I.glob g hg), g := I.g }
  · constructor
    · rintro (h | rfl)
      · have := (hSi m hm).1 h; omega
      · omega
    · intro h
      rcases Nat.lt_succ_iff_lt_or_eq.1 h with h | h
      · exact .inl ((hSi m hm).2 h)
      · exact .inr h
  · obtain ⟨hP, B, ccs, e, q1, q2, q3, q4⟩ := hwait j cs hj
    refine ⟨⟨B, ccs, e, hext.le.1 _ _ q1, q2, q3, q4.mono hext.le⟩, fun B' hB' => ?_⟩
    rw [hsame j (hjn j cs hP)] at hB'
    exact (I.wait j cs hP).2 B' hB'
  · obtain ⟨hP1, _⟩ := hwait j cs1 h1
    obtain ⟨hP2, _⟩ := hwait j' cs2 h2
    rw [hsame j (hjn _ _ hP1)] at hB1
    rw [hsame j' (hjn _ _ hP2)] at hB2
    exact I.apart j j' cs1 cs2 B hP1 hP2 hB1 hB2
  · refine hrest B (fun j cs hj hjB => hB j cs hj ?_)
    rw [hsame j (hjn _ _ (hwait j cs hj).1)]
    exact hjB
  · rw [hsame j hj]
    exact I.out j hj (fun hs => hn (.inl hs))
end
end Go.Ev
