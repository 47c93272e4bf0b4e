/- A region that draws its order: whatever order is drawn comes to what the evaluator tells (the walk over all orders). Conditions: none. -/
import Derived.Test.YtdnelpmolenkoaaDoorEv15
namespace Go.Ev
open Go.RowKit

section
variable {P : Program} {rec : Rec} {os : Array Oper} {base : Nat} {rs : List R1} {h0 : H} {fr0 fr' : Fr} (T : Told P rec os base rs h0 fr0 fr')

/-- the block of the j-th operation waits at place K -/
def Pnd (P : Program) (os : Array Oper) (rs : List R1) (S : Nat → Prop) (K j : Nat) (cs : List AV) : Prop :=
  S j ∧ (∃ r, rs[j]? = some r ∧ r.k = .alloc cs) ∧ ∀ m, m < K → isMi P os m = true → Nat.testBit ((masks os).getD m 0) j = false

structure Inv (P : Program) (os : Array Oper) (base : Nat) (rs : List R1) (h0 : H) (fr0 : Fr) (γ0 γ : G) (S : Nat → Prop) (K : Nat) (F F' : Nat → Option Obj) (w0 : World) (a : Act) (w : World) : Prop where
  le : Ext γ0 γ base (stAt (masks os) rs 0 (h0, []) K).1.next
  Kn : K ≤ os.size
  mem : ∀ m, isMi P os m = true → (S m ↔ m < K)
  hr : HR γ (stAt (masks os) rs 0 (h0, []) K).1 F' w0 w
  nx : base + os.size ≤ (stAt (masks os) rs 0 (h0, []) K).1.next
  wait : ∀ j cs, Pnd P os rs S K j cs → Waits γ F' w0 base j cs ∧ ∀ B, γ.blk (base + j) = some (B, 0) → F B = none
  apart : ∀ j j' cs cs' B, Pnd P os rs S K j cs → Pnd P os rs S K j' cs' → γ.blk (base + j) = some (B, 0) → γ.blk (base + j') = some (B, 0) → j = j'
  rest : ∀ B, (∀ j cs, Pnd P os rs S K j cs → γ.blk (base + j) ≠ some (B, 0)) → F' B = F B
  out : ∀ j, j < os.size → ¬ S j → γ.blk (base + j) = none
  defers : a.defers = []
  size : a.tmps.size = fr0.n
  wrote : ∀ j r t, S j → rs[j]? = some r → r.o.dst = some t → (∀ k r', S k → j < k → rs[k]? = some r' → r'.o.dst ≠ some t) → ∃ c, a.tmps[t]? = some c ∧ R γ r.v c
  kept : ∀ t v, (∀ k r', S k → rs[k]? = some r' → r'.o.dst ≠ some t) → fr0.tm.get t = some v → ∃ c, a.tmps[t]? = some c ∧ R γ v c
  glob : ∀ g, g < P.globals.size → γ.blk g = some (g, 0)
  g : fr0.g = P.globals.size

include T
/-- the heaps' sizes: a block that grows keeps its place -/
theorem Told.below {γ : G} {S : Nat → Prop} (hdc : DC os S) {i : Nat} {r : R1} (hr : rs[i]? = some r) (hready : ∀ e ∈ r.o.after, Region.binds .any e = true → S e.on) (hnot : ¬ S i) (hSn : ∀ j, S j → j < os.size) {γ0 : G} {K : Nat} {F F' : Nat → Option Obj} {w0 : World} {a : Act} {w : World}
    (I : Inv P os base rs h0 fr0 γ0 γ S K F F' w0 a w) {t : Nat} (ht : t ∈ r.o.looksAt os) {v : AV} (hv : r.fr.tm.get t = some v) : ∃ c, a.tmps[t]? = some c ∧ R γ v c := by
  have hi : i < os.size := by rw [← T.len]; exact (List.getElem?_eq_some_iff.1 hr).1
  have hoi := (T.at_ i r hr).1
  have hfi : frAt rs fr' i = r.fr := by simp [frAt, hr]
  -- whoever writes t and stands behind has not come up
  have later : ∀ k r', S k → i < k → rs[k]? = some r' → r'.o.dst ≠ some t := fun k r' hk hik hrk hd => by
    have hok := (T.at_ k r' hrk).1
    rcases T.pairs i k r.o r'.o hik hoi hok with hb | hap
    · exact hnot (mask_closed hdc (hSn k hk) hk hb)
    · exact (Oper.apart_spec hap).2.2 t hd ht
  have ahead : ∀ j r1, j < i → rs[j]? = some r1 → r1.o.dst = some t → S j := fun j r1 hj hrj hd => by
    have hoj := (T.at_ j r1 hrj).1
    rcases T.pairs j i r1.o r.o hj hoj hoi with hb | hap
    · exact mask_in hdc i r.o hoi hready j hb
    · exact absurd ht ((Oper.apart_spec hap).1 t hd)
  obtain ⟨_, _, hg⟩ := T.frame_at i (by omega)
  rw [hfi] at hg
  rcases hg t v hv with ⟨j, r1, hj, hrj, hd, rfl, hlast⟩ | ⟨hno, h0⟩
  · refine I.wrote j r1 t (ahead j r1 hj hrj hd) hrj hd (fun k r' hk hjk hrk => ?_)
    rcases Nat.lt_trichotomy k i with h | h | h
    · exact hlast k r' hjk h hrk
    · subst h; exact absurd hk hnot
    · exact later k r' hk h hrk
  · refine I.kept t v (fun k r' hk hrk => ?_) h0
    rcases Nat.lt_trichotomy k i with h | h | h
    · exact hno k r' h hrk
    · subst h; exact absurd hk hnot
    · exact later k r' hk h hrk

theorem Told.operands {γ : G} {S : Nat → Prop} (hdc : DC os S) {i : Nat} {r : R1} (hr : rs[i]? = some r) (hready : ∀ e ∈ r.o.after, Region.binds .any e = true → S e.on) (hnot : ¬ S i) (hSn : ∀ j, S j → j < os.size) {γ0 : G} {K : Nat} {F F' : Nat → Option Obj} {w0 : World} {a : Act} {w : World}
    (I : Inv P os base rs h0 fr0 γ0 γ S K F F' w0 a w) : Opd γ r.fr a r.o.op.operands ∧ ∀ b, guardOk r.fr os r.o.guard = some b → Region.wanted r.o (yielded os a.tmps) = b := by
  have hi : i < os.size := by rw [← T.len]; exact (List.getElem?_eq_some_iff.1 hr).1
  have hfi : frAt rs fr' i = r.fr := by simp [frAt, hr]
  obtain ⟨_, hgg, _⟩ := T.frame_at i (by omega)
  rw [hfi] at hgg
  have look : ∀ t v, t ∈ r.o.looksAt os → r.fr.tm.get t = some v → ∃ c, a.tmps[t]? = some c ∧ R γ v c := fun t v ht hv => T.below hdc hr hready hnot hSn I ht hv
  refine ⟨fun x hx v hv => ?_, fun b hb => ?_⟩
  · cases x with
    | tmp t =>
      obtain ⟨c, hc, hR⟩ := look t v (List.mem_append_left _ (List.mem_filterMap.2 ⟨.tmp t, by simpa using hx, rfl⟩)) hv
      have : a.eval (.tmp t) = c := by simp [Act.eval, hc]
      rw [this]
      exact hR
    | const u =>
      have h' : some (AV.lit u) = some v := hv
      injection h' with h'
      subst h'
      exact .lit u
    | global g =>
      have h' : sel (Nat.ble (Nat.succ g) r.fr.g) (some (AV.ptr g 0)) none = some v := hv
      obtain ⟨h1, h2⟩ := sel_some h'
      injection h2 with h2
      subst h2
      rw [Nat.ble_eq, hgg, I.g] at h1
      exact R.ptr (off := 0) (I.glob g h1)
    | func f =>
      have h' : some (AV.lit (.func (.func f) #[] #[])) = some v := hv
      injection h' with h'
      subst h'
      exact .lit _
  · cases hgd : r.o.guard with
    | none =>
      rw [hgd] at hb
      have h' : some true = some b := hb
      injection h' with h'
      subst h'
      simp [Region.wanted, hgd]
    | some jw =>
      obtain ⟨j, want⟩ := jw
      rw [hgd] at hb
      have h' : guardIs r.fr os j want = some b := hb
      unfold guardIs at h'
      obtain ⟨o', ho', h'⟩ := bindO_some h'
      obtain ⟨d, hd, h'⟩ := bindO_some h'
      obtain ⟨u, hu, h'⟩ := bindO_some h'
      split at h'
      · rename_i bb
        injection h' with h'
        subst h'
        obtain ⟨c, hc, hR⟩ := look d _ (by simp [Oper.looksAt, hgd, ho', hd]) hu
        have hR := R_lit hR
        subst hR
        have hy : yielded os a.tmps j = some bb := by simp [yielded, ho', hd, hc]
        simp only [Region.wanted, hgd, hy]
        cases bb <;> cases want <;> rfl
      · injection h' with h'
        subst h'
        obtain ⟨c, hc, hR⟩ := look d _ (by simp [Oper.looksAt, hgd, ho', hd]) hu
        have hR := R_lit hR
        subst hR
        have hy : yielded os a.tmps j = none := by simp [yielded, ho', hd, hc]
        simp only [Region.wanted, hgd, hy]
        rfl
      · cases h'

/-- the temporaries behind the i-th operation -/
theorem Told.put_act {γ γ' : G} {S : Nat → Prop} (hdc : DC os S) {i : Nat} {r : R1} (hr : rs[i]? = some r) (hnot : ¬ S i) (hSn : ∀ j, S j → j < os.size) {γ0 : G} {K : Nat} {F F' : Nat → Option Obj} {w0 : World} {a : Act} {w : World}
    (I : Inv P os base rs h0 fr0 γ0 γ S K F F' w0 a w) (hle : γ.le γ') {c : Value} (hc : R γ' r.v c) :
    (a.put r.o.dst c).defers = [] ∧ (a.put r.o.dst c).tmps.size = fr0.n ∧
    (∀ j r1 t, (S j ∨ j = i) → rs[j]? = some r1 → r1.o.dst = some t → (∀ k r', (S k ∨ k = i) → j < k → rs[k]? = some r' → r'.o.dst ≠ some t) → ∃ c', (a.put r.o.dst c).tmps[t]? = some c' ∧ R γ' r1.v c') ∧
    (∀ t v, (∀ k r', (S k ∨ k = i) → rs[k]? = some r' → r'.o.dst ≠ some t) → fr0.tm.get t = some v → ∃ c', (a.put r.o.dst c).tmps[t]? = some c' ∧ R γ' v c') := by
  have hi : i < os.size := by rw [← T.len]; exact (List.getElem?_eq_some_iff.1 hr).1
  obtain ⟨hoi, _, hp⟩ := T.at_ i r hr
  have hfi : frAt rs fr' i = r.fr := by simp [frAt, hr]
  obtain ⟨hn, _, _⟩ := T.frame_at i (by omega)
  rw [hfi] at hn
  obtain ⟨_, _, hlt, _⟩ := Fr_put_some hp
  have same : ∀ t, r.o.dst ≠ some t → (a.put r.o.dst c).tmps[t]? = a.tmps[t]? := fun t hne => by
    cases hd : r.o.dst with
    | none => rfl
    | some d =>
      have : d ≠ t := fun e => hne (by rw [hd, e])
      simp only [Act.put]
      rw [Array.getElem?_setIfInBounds_ne this]
  refine ⟨?_, ?_, fun j r1 t hj hrj hd hlast => ?_, fun t v hno hv => ?_⟩
  · cases r.o.dst <;> exact I.defers
  · cases r.o.dst with
    | none => exact I.size
    | some d => simpa [Act.put] using I.size
  · rcases hj with hj | rfl
    · have hne : r.o.dst ≠ some t := fun hdi => by
        have hij : i ≠ j := fun e => by subst e; exact hnot hj
        rcases Nat.lt_or_gt_of_ne hij with h | h
        · -- i stands ahead of j, and both write t
          have hoj := (T.at_ j r1 hrj).1
          rcases T.pairs i j r.o r1.o h hoi hoj with hb | hap
          · exact hnot (mask_closed hdc (hSn j hj) hj hb)
          · exact (Oper.apart_spec hap).2.1 t hdi hd
        · exact hlast i r (.inr rfl) h hr hdi
      obtain ⟨c', hc', hR⟩ := I.wrote j r1 t hj hrj hd (fun k r' hk => hlast k r' (.inl hk))
      exact ⟨c', (same t hne).trans hc', hR.mono hle⟩
    · rw [hr] at hrj
      injection hrj with hrj
      subst hrj
      have htl : t < a.tmps.size := by rw [I.size, ← hn]; exact hlt t hd
      refine ⟨c, ?_, hc⟩
      rw [hd]
      simp [Act.put, htl]
  · have hne : r.o.dst ≠ some t := hno i r (.inr rfl) hr
    obtain ⟨c', hc', hR⟩ := I.kept t v (fun k r' hk => hno k r' (.inl hk)) hv
    exact ⟨c', (same t hne).trans hc', hR.mono hle⟩
end
end Go.Ev
