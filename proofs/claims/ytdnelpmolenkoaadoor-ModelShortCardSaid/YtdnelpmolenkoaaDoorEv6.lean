/- What an abstract heap stands for, and how it follows loads, stores and new blocks. Conditions: none. -/
import Derived.Test.YtdnelpmolenkoaaDoorEv5
import Derived.Laws.Cells
namespace Go.Ev
open Go.RowKit

/-- block B, from O on, holds what k says -/
def At (γ : G) (k : Blk) (w : World) (B O : Nat) : Prop :=
  ∃ (cs : Array Value) (e : TypeId) (fz : Nat × Nat), w.heap[B]? = some (.cells cs e fz) ∧ (∀ i, i < cs.size → ¬ (fz.1 ≤ i ∧ i < fz.2)) ∧ O + k.n ≤ cs.size ∧
    (∀ (i : Nat) (v : AV), k.cells.get i = some v → i < k.n ∧ ∃ c, cs[O + i]? = some c ∧ R γ v c) ∧
    (∀ (t sz : Nat), k.tok = some (t, sz) → ∃ m, γ.cap t = some m ∧ k.n ≤ m * sz ∧ O + m * sz ≤ cs.size)

structure HR (γ : G) (h : H) (F : Nat → Option Obj) (w0 w : World) : Prop where
  os : w.os = w0.os
  tape : w.tape = w0.tape
  output : w.output = w0.output
  size : w0.heap.size ≤ w.heap.size
  low : ∀ B o, F B = some o → w.heap[B]? = some o
  fresh : ∀ b, h.next ≤ b → γ.blk b = none
  ftok : ∀ t, h.tok ≤ t → γ.cap t = none
  here : ∀ b k, h.blks.get b = some k → ∃ B O, γ.blk b = some (B, O) ∧ (k.ro = false → F B = none) ∧ (k.ro = true → B < w0.heap.size ∧ F B ≠ none) ∧ At γ k w B O
  inj : ∀ b b' k k' B O O', h.blks.get b = some k → h.blks.get b' = some k' → γ.blk b = some (B, O) → γ.blk b' = some (B, O') → k.ro = false → b = b'

theorem At.mono {γ γ' : G} {k : Blk} {w w' : World} {B O : Nat} (h : At γ k w B O) (hg : γ.le γ') (hw : w'.heap[B]? = w.heap[B]?) : At γ' k w' B O := by
  obtain ⟨cs, e, fz, h1, h2, h3, h4, h5⟩ := h
  refine ⟨cs, e, fz, hw.trans h1, h2, h3, fun i v hi => ?_, fun t sz ht => ?_⟩
  · obtain ⟨a, c, hc, hr⟩ := h4 i v hi
    exact ⟨a, c, hc, hr.mono hg⟩
  · obtain ⟨m, a, b, c⟩ := h5 t sz ht
    exact ⟨m, hg.2 _ _ a, b, c⟩
theorem At.lt {γ : G} {k : Blk} {w : World} {B O : Nat} (h : At γ k w B O) : B < w.heap.size := by
  obtain ⟨cs, e, fz, h1, _⟩ := h
  exact (Array.getElem?_eq_some_iff.1 h1).1

/-- only block B has turned -/
structure Chg (w w' : World) (B : Nat) : Prop where
  os : w'.os = w.os
  tape : w'.tape = w.tape
  output : w'.output = w.output
  size : w'.heap.size = w.heap.size
  block : ∀ k, k ≠ B → w'.heap[k]? = w.heap[k]?
theorem Chg.refl (w : World) (B : Nat) : Chg w w B := ⟨rfl, rfl, rfl, rfl, fun _ _ => rfl⟩
theorem Chg.trans {a b c : World} {B : Nat} (h : Chg a b B) (k : Chg b c B) : Chg a c B :=
  ⟨k.os.trans h.os, k.tape.trans h.tape, k.output.trans h.output, k.size.trans h.size, fun i hi => (k.block i hi).trans (h.block i hi)⟩
theorem Chg.setCell (w : World) (B off : Nat) (v : Value) : Chg w (w.setCell ⟨B, off, none⟩ v) B :=
  ⟨rfl, rfl, rfl, by simp [World.setCell], fun k hk => Below.heap_setCell w ⟨B, off, none⟩ v k hk⟩

theorem cell_at {w : World} {B : Nat} {cs : Array Value} {e : TypeId} {fz : Nat × Nat} (h : w.heap[B]? = some (.cells cs e fz)) (i : Nat) : w.cell? ⟨B, i, none⟩ = cs[i]? := by
  simp [World.cell?, h]
theorem frozen_at {w : World} {B : Nat} {cs : Array Value} {e : TypeId} {fz : Nat × Nat} (h : w.heap[B]? = some (.cells cs e fz)) (hf : ∀ i, i < cs.size → ¬ (fz.1 ≤ i ∧ i < fz.2)) {i : Nat} (hi : i < cs.size) : w.frozen? ⟨B, i, none⟩ = false := by
  have := hf i hi
  simp only [World.frozen?, h, Bool.and_eq_false_iff, decide_eq_false_iff_not]
  omega

section
variable {P : Program}
theorem run_storeCells_blk (B O : Nat) : ∀ (vs : List Value) (i : Nat) (w : World) (cs : Array Value) (e : TypeId) (fz : Nat × Nat), w.heap[B]? = some (.cells cs e fz) → (∀ i, i < cs.size → ¬ (fz.1 ≤ i ∧ i < fz.2)) → O + i + vs.length ≤ cs.size → (∀ v ∈ vs, v.oneCell' = true) →
    ∃ w' cs', (storeCells ⟨B, O, none⟩ vs i).run P w = .ok () w' ∧ Chg w w' B ∧ w'.heap[B]? = some (.cells cs' e fz) ∧ cs'.size = cs.size ∧ (∀ j u, vs[j]? = some u → cs'[O + i + j]? = some u) ∧ (∀ j, (j < O + i ∨ O + i + vs.length ≤ j) → cs'[j]? = cs[j]?)
  | [], i, w, cs, e, fz, h, _, _, _ => ⟨w, cs, rfl, Chg.refl w B, h, rfl, fun j u hj => by simp at hj, fun _ _ => rfl⟩
  | v :: vs, i, w, cs, e, fz, h, hf, hl, h1 => by
    simp only [List.length_cons] at hl
    have hi : O + i < cs.size := by omega
    have hadd : (⟨B, O, none⟩ : Addr).add i = ⟨B, O + i, none⟩ := by unfold Addr.add; split <;> simp_all
    have hcell : w.cell? ⟨B, O + i, none⟩ = some cs[O + i] := by rw [cell_at h]; simp [hi]
    have hst : (store ((⟨B, O, none⟩ : Addr).add i) v).run P w = .ok () (w.setCell ⟨B, O + i, none⟩ v) := by
      rw [hadd, run_store P w _ v _ (h1 v (by simp)), hcell]
      simp [frozen_at h hf hi]
    have hblk : (w.setCell ⟨B, O + i, none⟩ v).heap[B]? = some (.cells (cs.setIfInBounds (O + i) v) e fz) := by
      simp [World.setCell, Array.getElem?_modify, h]
    obtain ⟨w', cs', hr, hc, hb, hs, hin, hout⟩ := run_storeCells_blk B O vs (i + 1) _ (cs.setIfInBounds (O + i) v) e fz hblk (by simpa using hf) (by simp; omega) (fun u hu => h1 u (by simp [hu]))
    refine ⟨w', cs', ?_, (Chg.setCell w B (O + i) v).trans hc, hb, by simpa using hs, fun j u hj => ?_, fun j hj => ?_⟩
    · simp only [storeCells, Sem.run_bind, hst, Result.andThen_ok, hr]
    · cases j with
      | zero =>
        simp at hj
        subst hj
        rw [hout (O + i + 0) (by omega)]
        simp [hi]
      | succ j =>
        rw [List.getElem?_cons_succ] at hj
        rw [show O + i + (j + 1) = O + (i + 1) + j from by omega]
        exact hin j u hj
    · simp only [List.length_cons] at hj
      rw [hout j (by omega)]
      have : O + i ≠ j := by omega
      simp [Array.getElem?_setIfInBounds_ne this]

variable {γ : G} {h : H} {F : Nat → Option Obj} {w0 w : World}

/-- a part of a heap's blocks stands for the same -/
theorem HR.part (hh : HR γ h F w0 w) (h' : H) (hn : h'.next = h.next) (ht : h'.tok = h.tok) (hs : ∀ b k, h'.blks.get b = some k → h.blks.get b = some k) : HR γ h' F w0 w :=
  { hh with
    fresh := fun b hb => hh.fresh b (by omega)
    ftok := fun t ht' => hh.ftok t (by omega)
    here := fun b k hk => hh.here b k (hs b k hk)
    inj := fun b b' k k' B O O' h1 h2 => hh.inj b b' k k' B O O' (hs _ _ h1) (hs _ _ h2) }
/-- a world with the same memory -/
theorem HR.same (hh : HR γ h F w0 w) {w' : World} (h1 : w'.heap = w.heap) (h2 : w'.os = w.os) (h3 : w'.tape = w.tape) (h4 : w'.output = w.output) : HR γ h F w0 w' :=
  { hh with
    os := h2.trans hh.os
    tape := h3.trans hh.tape
    output := h4.trans hh.output
    size := by rw [h1]; exact hh.size
    low := fun B o hB => by rw [h1]; exact hh.low B o hB
    here := fun b k hk => by
      obtain ⟨B, O, a, b', c, d⟩ := hh.here b k hk
      exact ⟨B, O, a, b', c, d.mono (G.le_refl γ) (by rw [h1])⟩ }
theorem HR.drew (hh : HR γ h F w0 w) : HR γ h F w0 w.drew := hh.same rfl rfl rfl rfl

/-- a new block -/
theorem HR.new (hh : HR γ h F w0 w) {γ' : G} {w' : World} {b O : Nat} {k : Blk} {obj : Obj} {nx tk : Nat} (hle : γ.le γ') (hb : γ'.blk b = some (w.heap.size, O)) (hoth : ∀ b', b' ≠ b → γ'.blk b' = γ.blk b')
    (hf : ∀ b', nx ≤ b' → γ'.blk b' = none) (ht : ∀ t, tk ≤ t → γ'.cap t = none) (hw : w'.heap = w.heap.push obj) (h2 : w'.os = w.os) (h3 : w'.tape = w.tape) (h4 : w'.output = w.output)
    (hat : At γ' k w' w.heap.size O) (hro : k.ro = false) : HR γ' { blks := h.blks.put b k, next := nx, tok := tk } F w0 w' := by
  have keep : ∀ i, i < w.heap.size → w'.heap[i]? = w.heap[i]? := fun i hi => by rw [hw, Array.getElem?_push, if_neg (by omega)]
  have hFn : F w.heap.size = none := by
    cases hF : F w.heap.size with
    | none => rfl
    | some o =>
      have := hh.low _ _ hF
      simp at this
  refine { os := h2.trans hh.os, tape := h3.trans hh.tape, output := h4.trans hh.output, size := by rw [hw, Array.size_push]; exact Nat.le_succ_of_le hh.size, low := fun B o hB => ?_, fresh := hf, ftok := ht, here := fun c l hc => ?_, inj := fun c c' l l' B P1 P2 hc hc' hB hB' hl => ?_ }
  · have := hh.low B o hB
    rw [keep B (Array.getElem?_eq_some_iff.1 this).1]
    exact this
  · rcases get_put hc with ⟨rfl, rfl⟩ | ⟨hne, hc⟩
    · exact ⟨_, _, hb, fun _ => hFn, (fun e => by rw [hro] at e; cases e), hat⟩
    · obtain ⟨B, O', a, b', c', d⟩ := hh.here c l hc
      exact ⟨B, O', hle.1 _ _ a, b', c', d.mono hle (keep B d.lt)⟩
  · have old : ∀ c l B P1, c ≠ b → h.blks.get c = some l → γ'.blk c = some (B, P1) → γ.blk c = some (B, P1) ∧ B < w.heap.size := fun c l B P1 hne hc hB => by
      obtain ⟨B', O', a, _, _, d⟩ := hh.here c l hc
      rw [hoth c hne] at hB
      rw [a] at hB
      injection hB with hB
      injection hB with e1 e2
      subst e1; subst e2
      exact ⟨a, d.lt⟩
    rcases get_put hc with ⟨rfl, rfl⟩ | ⟨hne, hc⟩
    · rcases get_put hc' with ⟨rfl, _⟩ | ⟨hne', hc'⟩
      · rfl
      · obtain ⟨_, hlt⟩ := old _ _ _ _ hne' hc' hB'
        rw [hb] at hB
        injection hB with hB
        injection hB with e1 _
        omega
    · rcases get_put hc' with ⟨rfl, rfl⟩ | ⟨hne', hc'⟩
      · obtain ⟨_, hlt⟩ := old _ _ _ _ hne ‹h.blks.get c = some l› hB
        rw [hb] at hB'
        injection hB' with hB'
        injection hB' with e1 _
        omega
      · exact hh.inj c c' l l' B P1 P2 hc hc' (old _ _ _ _ hne hc hB).1 (old _ _ _ _ hne' hc' hB').1 hl

/-- the map of blocks with one more -/
def G.add (γ : G) (b B O : Nat) : G := { blk := fun i => if i = b then some (B, O) else γ.blk i, cap := γ.cap }
def G.addCap (γ : G) (t m : Nat) : G := { blk := γ.blk, cap := fun i => if i = t then some m else γ.cap i }
theorem G.le_add (γ : G) {b B O : Nat} (h : γ.blk b = none) : γ.le (γ.add b B O) :=
  ⟨fun c x hx => by simp only [G.add]; rw [if_neg (fun e => by rw [e, h] at hx; cases hx)]; exact hx, fun _ _ hx => hx⟩
theorem G.le_addCap (γ : G) {t m : Nat} (h : γ.cap t = none) : γ.le (γ.addCap t m) :=
  ⟨fun _ _ hx => hx, fun c x hx => by simp only [G.addCap]; rw [if_neg (fun e => by rw [e, h] at hx; cases hx)]; exact hx⟩

/-- the cells of a new block -/
theorem at_new {cs : List AV} {ccs : List Value} {w : World} {B n : Nat} {e : TypeId} {fz : Nat × Nat} {more : List Value} {tok : Option (Nat × Nat)} (hr : Rs γ cs ccs) (hw : w.heap[B]? = some (.cells ⟨ccs ++ more⟩ e fz)) (hn : n = cs.length)
    (hf : ∀ i, i < (ccs ++ more).length → ¬ (fz.1 ≤ i ∧ i < fz.2)) (ht : ∀ t sz, tok = some (t, sz) → ∃ m, γ.cap t = some m ∧ cs.length ≤ m * sz ∧ m * sz ≤ (ccs ++ more).length) :
    At γ { cells := putAll .nil 0 cs, n := n, tok := tok, ro := false } w B 0 := by
  subst hn
  refine ⟨⟨ccs ++ more⟩, e, fz, hw, by simpa using hf, by simp [hr.1], fun i v hi => ?_, fun t sz hts => ?_⟩
  · rcases get_putAll _ _ _ _ _ hi with ⟨_, h2⟩ | ⟨_, h2⟩
    · simp only [Nat.sub_zero] at h2
      obtain ⟨c, hc, hR⟩ := hr.at_ h2
      refine ⟨(List.getElem?_eq_some_iff.1 h2).1, c, ?_, hR⟩
      simp only [Nat.zero_add, List.getElem?_toArray]
      rw [List.getElem?_append_left (List.getElem?_eq_some_iff.1 hc).1]
      exact hc
    · rw [get_nil] at h2; cases h2
  · obtain ⟨m, a, b, c⟩ := ht t sz hts
    exact ⟨m, a, b, by simpa using c⟩

/-- one new plain block with that number -/
theorem HR.newPlain (hh : HR γ h F w0 w) {b nx : Nat} {cs : List AV} {ccs : List Value} (e : TypeId) (hr : Rs γ cs ccs) (hb : γ.blk b = none) (hbn : b < nx) (hnx : h.next ≤ nx) :
    HR (γ.add b w.heap.size 0) { blks := h.blks.put b (mkBlk cs), next := nx, tok := h.tok } F w0 (w.alloc (.cells ⟨ccs⟩ e)) := by
  refine hh.new (obj := .cells ⟨ccs⟩ e) (O := 0) (G.le_add γ hb) (by simp [G.add]) (fun b' hne => by simp [G.add, hne]) (fun b' hb' => ?_) (fun t ht => hh.ftok t ht) rfl rfl rfl rfl ?_ rfl
  · simp only [G.add]
    rw [if_neg (by omega)]
    exact hh.fresh b' (by omega)
  · refine at_new (more := []) (e := e) (fz := (0, 0)) (hr.mono (G.le_add γ hb)) ?_ rfl (fun i _ => by simp) (fun t sz hts => by cases hts)
    rw [List.append_nil]
    show (w.heap.push _)[w.heap.size]? = _
    simp

/-- cells of a block are read -/
theorem load_R (hh : HR γ h F w0 w) {b off n B O : Nat} {vs : List AV} (hl : h.load b off n = some vs) (hb : γ.blk b = some (B, O)) :
    ∃ cvs, Rs γ vs cvs ∧ vs.length = n ∧ ∀ j c, cvs[j]? = some c → w.cell? (Addr.add ⟨B, O + off, none⟩ j) = some c := by
  unfold H.load at hl
  split at hl
  · cases hl
  · rename_i k hk
    obtain ⟨hlen, hat⟩ := getAll_spec _ _ _ _ hl
    obtain ⟨B', O', hb', _, _, cs, e, fz, h1, h2, h3, h4, h5⟩ := hh.here b k hk
    rw [hb] at hb'
    injection hb' with hb'
    injection hb' with e1 e2
    subst e1; subst e2
    have hex : ∀ j v, vs[j]? = some v → ∃ c, cs[O + off + j]? = some c ∧ R γ v c := fun j v hj => by
      obtain ⟨_, c, hc, hR⟩ := h4 _ _ (hat j v hj)
      exact ⟨c, by rw [← hc]; congr 1; omega, hR⟩
    have hin : ∀ j, j < vs.length → O + off + j < cs.size := fun j hj => by
      obtain ⟨c, hc, _⟩ := hex j vs[j] (List.getElem?_eq_getElem hj)
      exact (Array.getElem?_eq_some_iff.1 hc).1
    refine ⟨(List.range vs.length).map fun j => cs.getD (O + off + j) undef, ⟨by simp, fun j v c hv hc => ?_⟩, hlen, fun j c hc => ?_⟩
    · obtain ⟨c', hc', hR⟩ := hex j v hv
      have hj : j < vs.length := (List.getElem?_eq_some_iff.1 hv).1
      rw [List.getElem?_map, List.getElem?_range hj] at hc
      simp [Array.getD] at hc
      have := hin j hj
      simp [this] at hc
      rw [Array.getElem?_eq_getElem this] at hc'
      injection hc' with hc'
      rw [← hc, hc']
      exact hR
    · have hj : j < vs.length := by
        have := (List.getElem?_eq_some_iff.1 hc).1
        simpa using this
      rw [List.getElem?_map, List.getElem?_range hj] at hc
      have := hin j hj
      simp [this] at hc
      rw [Addr.add_lit, cell_at h1, ← hc, Array.getElem?_eq_getElem this]

theorem store_next {b off : Nat} {vs : List AV} {h' : H} (hs : h.store b off vs = some h') : h'.next = h.next := by
  unfold H.store at hs
  split at hs
  · cases hs
  · obtain ⟨_, hs⟩ := sel_some hs
    injection hs with hs
    subst hs
    rfl
/-- cells of a block are written -/
theorem store_R (hh : HR γ h F w0 w) {b off B O : Nat} {vs : List AV} {cvs : List Value} {h' : H} (hs : h.store b off vs = some h') (hb : γ.blk b = some (B, O)) (hr : Rs γ vs cvs) :
    ∃ w', (storeCells ⟨B, O + off, none⟩ cvs).run P w = .ok () w' ∧ HR γ h' F w0 w' := by
  unfold H.store at hs
  split at hs
  · cases hs
  · rename_i k hk
    obtain ⟨hcond, hs⟩ := sel_some hs
    injection hs with hs
    subst hs
    simp only [Bool.and_eq_true, Nat.ble_eq, Bool.not_eq_true'] at hcond
    obtain ⟨⟨hin, hro⟩, hone⟩ := hcond
    obtain ⟨B', O', hb', hF, _, cs, e, fz, h1, h2, h3, h4, h5⟩ := hh.here b k hk
    rw [hb] at hb'
    injection hb' with hb'
    injection hb' with e1 e2
    subst e1; subst e2
    have hlen := hr.1
    obtain ⟨w', cs', hrun, hch, hblk, hsz, hnew, hold⟩ := run_storeCells_blk (P := P) B (O + off) cvs 0 w cs e fz h1 h2 (by omega) (fun c hc => by
      obtain ⟨j, hj, rfl⟩ := List.mem_iff_getElem.1 hc
      have hjl : j < vs.length := by omega
      exact oneA_R (hr.2 j vs[j] _ (List.getElem?_eq_getElem hjl) (List.getElem?_eq_getElem hj)) (List.all_eq_true.1 hone _ (List.getElem_mem hjl)))
    have hFB : F B = none := hF hro
    refine ⟨w', hrun, ?_⟩
    refine { os := hch.os.trans hh.os, tape := hch.tape.trans hh.tape, output := hch.output.trans hh.output, size := by rw [hch.size]; exact hh.size, low := fun B' o hB' => ?_, fresh := hh.fresh, ftok := hh.ftok, here := fun c l hc => ?_, inj := fun c c' l l' B1 P1 P2 hc hc' hB1 hB2 hl => ?_ }
    · rw [hch.block B' (fun e => by subst e; rw [hFB] at hB'; cases hB')]
      exact hh.low B' o hB'
    · rcases get_put hc with ⟨rfl, rfl⟩ | ⟨hne, hc⟩
      · refine ⟨B, O, hb, hF, (fun e => by rw [hro] at e; cases e), cs', e, fz, hblk, by rw [hsz]; exact h2, by rw [hsz]; exact h3, fun i v hi => ?_, fun t sz ht => by rw [hsz]; exact h5 t sz ht⟩
        simp only at hi ⊢
        rcases get_putAll _ _ _ _ _ hi with ⟨hle, hv⟩ | ⟨hout, hv⟩
        · have hil : i - off < vs.length := (List.getElem?_eq_some_iff.1 hv).1
          obtain ⟨c, hc, hR⟩ := hr.at_ hv
          refine ⟨by omega, c, ?_, hR⟩
          rw [← hnew (i - off) c hc]
          congr 1
          omega
        · obtain ⟨a, c, hc, hR⟩ := h4 i v hv
          refine ⟨a, c, ?_, hR⟩
          rw [hold (O + i) (by omega)]
          exact hc
      · obtain ⟨B1, O1, a, b1, c1, d⟩ := hh.here c l hc
        refine ⟨B1, O1, a, b1, c1, d.mono (G.le_refl γ) (hch.block B1 fun e => ?_)⟩
        subst e
        exact hne (hh.inj b c k l B1 O O1 hk hc hb a hro).symm
    · rcases get_put hc with ⟨rfl, rfl⟩ | ⟨hne, hc⟩
      · rcases get_put hc' with ⟨rfl, _⟩ | ⟨hne', hc'⟩
        · rfl
        · exact hh.inj c c' k l' B1 P1 P2 hk hc' hB1 hB2 hro
      · rcases get_put hc' with ⟨rfl, rfl⟩ | ⟨hne', hc'⟩
        · exact hh.inj c c' l k B1 P1 P2 ‹h.blks.get c = some l› hk hB1 hB2 hl
        · exact hh.inj c c' l l' B1 P1 P2 hc hc' hB1 hB2 hl
end
end Go.Ev
