/- A world in which one old block alone may have turned; a block of two cells. Conditions: none. -/
import Derived.WalkKit
import Derived.Below
import Derived.Deep.QuietTactic
import Derived.BigQuiet
import Derived.Test.YtjakdbahopbggaaGreatDoorZGl
import Derived.Test.YtjakdbahopbggaaGreatDoorZOwn
section
namespace Go.Ow
open Go.RowKit

/-- All that was there but block b is as it was. -/
structure But (b : Nat) (w w' : World) : Prop where
  os : w'.os = w.os
  tape : w'.tape = w.tape
  output : w'.output = w.output
  size : w.heap.size ≤ w'.heap.size
  block : ∀ k, k < w.heap.size → k ≠ b → w'.heap[k]? = w.heap[k]?

theorem But.refl (b : Nat) (w : World) : But b w w := ⟨rfl, rfl, rfl, Nat.le_refl _, fun _ _ _ => rfl⟩
theorem But.trans {b : Nat} {u v w : World} (h : But b u v) (k : But b v w) : But b u w :=
  ⟨k.os.trans h.os, k.tape.trans h.tape, k.output.trans h.output, Nat.le_trans h.size k.size, fun i hi hb => (k.block i (Nat.lt_of_lt_of_le hi h.size) hb).trans (h.block i hi hb)⟩
theorem But.of_below {b : Nat} {w w' : World} (h : Below w.heap.size w w') : But b w w' := ⟨h.os, h.tape, h.output, h.size, fun k hk _ => h.block k hk⟩
theorem But.setCell (b : Nat) (w : World) (o : Nat) (u : Value) : But b w (w.setCell ⟨b, o, none⟩ u) :=
  ⟨rfl, rfl, rfl, by simp [World.setCell], fun k _ hk => Below.heap_setCell _ _ _ _ hk⟩
theorem But.drewN (b : Nat) (w : World) (n : Nat) : But b w (w.drewN n) := ⟨rfl, rfl, rfl, Nat.le_refl _, fun _ _ _ => rfl⟩
theorem But.alloc (b : Nat) (w : World) (o : Obj) : But b w (w.alloc o) := ⟨rfl, rfl, rfl, by simp, fun k hk _ => Below.heap_alloc _ _ _ hk⟩
theorem But.below {B b : Nat} {w w' : World} (h : But b w w') (hB : B ≤ b) (hs : b ≤ w.heap.size) : Below B w w' :=
  ⟨h.os, h.tape, h.output, h.size, fun k hk => h.block k (by omega) (by omega)⟩
theorem But.cell {b : Nat} {w w' : World} (h : But b w w') {k o : Nat} (hk : k < w.heap.size) (hb : k ≠ b) : w'.cell? ⟨k, o, none⟩ = w.cell? ⟨k, o, none⟩ := World.cell?_of_block (w := w) (h.block k hk hb)
theorem But.frozen {b : Nat} {w w' : World} (h : But b w w') {k o : Nat} (hk : k < w.heap.size) (hb : k ≠ b) : w'.frozen? ⟨k, o, none⟩ = w.frozen? ⟨k, o, none⟩ := World.frozen?_of_block (w := w) (h.block k hk hb)

/-- Block b: two cells of a struct of type t. -/
def Two (w : World) (b : Nat) (t : TypeId) (x y : Value) : Prop := w.heap[b]? = some (.cells #[x, y] t (0, 0))
theorem Two.lt {w : World} {b : Nat} {t : TypeId} {x y : Value} (h : Two w b t x y) : b < w.heap.size := (Array.getElem?_eq_some_iff.1 h).1
theorem Two.c0 {w : World} {b : Nat} {t : TypeId} {x y : Value} (h : Two w b t x y) : w.cell? ⟨b, 0, none⟩ = some x := by rw [cell_of_row w b 0 _ t (0, 0) h]; rfl
theorem Two.c1 {w : World} {b : Nat} {t : TypeId} {x y : Value} (h : Two w b t x y) : w.cell? ⟨b, 1, none⟩ = some y := by rw [cell_of_row w b 1 _ t (0, 0) h]; rfl
theorem Two.fz {w : World} {b : Nat} {t : TypeId} {x y : Value} (h : Two w b t x y) (o : Nat) : w.frozen? ⟨b, o, none⟩ = false := by
  have h' : w.heap[b]? = some (.cells #[x, y] t (0, 0)) := h
  unfold World.frozen?
  rw [h']
  simp
theorem Two.set0 {w : World} {b : Nat} {t : TypeId} {x y : Value} (h : Two w b t x y) (u : Value) : Two (w.setCell ⟨b, 0, none⟩ u) b t u y := by
  have h' : w.heap[b]? = some (.cells #[x, y] t (0, 0)) := h
  unfold Two
  simp [World.setCell, Array.getElem?_modify, h']
theorem Two.set1 {w : World} {b : Nat} {t : TypeId} {x y : Value} (h : Two w b t x y) (u : Value) : Two (w.setCell ⟨b, 1, none⟩ u) b t x u := by
  have h' : w.heap[b]? = some (.cells #[x, y] t (0, 0)) := h
  unfold Two
  simp [World.setCell, Array.getElem?_modify, h']
theorem Two.kept {w w' : World} {b c : Nat} {t : TypeId} {x y : Value} (h : Two w b t x y) (k : But c w w') (hb : b ≠ c) : Two w' b t x y := by
  unfold Two
  rw [k.block b h.lt hb]
  exact h
theorem Two.keptB {w w' : World} {b B : Nat} {t : TypeId} {x y : Value} (h : Two w b t x y) (k : Below B w w') (hb : b < B) : Two w' b t x y := by
  unfold Two
  rw [k.block b hb]
  exact h
theorem Two.drewN {w : World} {b : Nat} {t : TypeId} {x y : Value} (h : Two w b t x y) (n : Nat) : Two (w.drewN n) b t x y := h
end Go.Ow
end
/- What slices.Index and Contains (of texts, of bytes), model.Name, Event, ScopeNode and Activity return. Conditions: the two tables are as they are laid; lengths are lengths. -/
section
namespace Go.Proofs.YtjakdbahopbggaaGreatDoor
open Go.RowKit Go.Ow

theorem ret_bool {a b : Bool} (h : a = b) : Ending.returned (.bool a) = .returned (.bool b) := by rw [h]
theorem ret_int {k : IntKind} {a b : Int} (h : a = b) : Ending.returned (.int k a) = .returned (.int k b) := by rw [h]
theorem bytes_ne {t : ByteArray} (h : t.size ≠ 0) : t.toList ≠ [] := by
  rw [ByteArray.toList_eq]
  intro e
  apply h
  show t.data.size = 0
  simpa using congrArg List.length e
theorem bytes_nil {t : ByteArray} (h : t.size = 0) : t = ⟨#[]⟩ := by
  apply ByteArray.ext
  exact Array.eq_empty_of_size_eq_zero h
theorem bytes_emp {t : ByteArray} (h : t.size ≠ 0) : t.toList.isEmpty = false := by
  have := bytes_ne h
  cases hh : t.toList with
  | nil => exact absurd hh this
  | cons a l => rfl
theorem toList_ne {a b : ByteArray} (h : a ≠ b) : ¬ a.toList = b.toList := by
  intro e
  rw [ByteArray.toList_eq, ByteArray.toList_eq] at e
  exact h (ByteArray.ext (Array.ext' e))
theorem toList_beq {a b : ByteArray} (h : a ≠ b) : (a.toList == b.toList) = false := by simp [toList_ne h]

/-- the first place from k on, of m, at which p is true; else -1 -/
def fI (p : Nat → Bool) : Nat → Nat → Int
  | _, 0 => -1
  | k, m + 1 => if p k then k else fI p (k + 1) m
theorem fI_at (p : Nat → Bool) (k n : Nat) (h : k < n) : fI p k (n - k) = if p k then (k : Int) else fI p (k + 1) (n - (k + 1)) := by
  have : n - k = n - (k + 1) + 1 := by omega
  rw [this, fI]
theorem fI_end (p : Nat → Bool) (n : Nat) : fI p n (n - n) = -1 := by rw [Nat.sub_self, fI]
theorem fI_nonneg (p : Nat → Bool) : ∀ m k, 0 ≤ fI p k m ↔ ∃ j, k ≤ j ∧ j < k + m ∧ p j = true
  | 0, k => by simp [fI]; omega
  | m + 1, k => by
    rw [fI]
    split
    · rename_i h
      exact ⟨fun _ => ⟨k, Nat.le_refl _, by omega, h⟩, fun _ => by omega⟩
    · rename_i h
      rw [fI_nonneg p m (k + 1)]
      constructor
      · rintro ⟨j, h1, h2, h3⟩
        exact ⟨j, by omega, by omega, h3⟩
      · rintro ⟨j, h1, h2, h3⟩
        by_cases e : j = k
        · rw [e] at h3; exact absurd h3 h
        · exact ⟨j, by omega, by omega, h3⟩
/-- is p true somewhere below n? -/
def anyB (p : Nat → Bool) (n : Nat) : Bool := decide (0 ≤ fI p 0 n)
theorem anyB_true {p : Nat → Bool} {n : Nat} : anyB p n = true ↔ ∃ j, j < n ∧ p j = true := by
  unfold anyB
  rw [decide_eq_true_eq, fI_nonneg]
  constructor
  · rintro ⟨j, _, h2, h3⟩; exact ⟨j, by omega, h3⟩
  · rintro ⟨j, h2, h3⟩; exact ⟨j, by omega, by omega, h3⟩

/-- the cells of a slice of texts, of bytes -/
def Ss (w : World) (o : Option Addr) (n : Nat) (f : Nat → ByteArray) : Prop := ∀ k, k < n → ∃ b off, o = some ⟨b, off, none⟩ ∧ b < w.heap.size ∧ w.cell? ⟨b, off + k, none⟩ = some (.string (f k))
theorem Ss.below {w wr : World} {o : Option Addr} {n : Nat} {f : Nat → ByteArray} (h : Ss w o n f) (hb : Below w.heap.size w wr) : Ss wr o n f := fun k hk => by
  obtain ⟨b, off, h1, h2, h3⟩ := h k hk
  exact ⟨b, off, h1, Nat.lt_of_lt_of_le h2 hb.size, by rw [hb.cell (p := ⟨b, off + k, none⟩) h2]; exact h3⟩
def Us (w : World) (o : Option Addr) (n : Nat) (f : Nat → Nat) : Prop := ∀ k, k < n → ∃ b off, o = some ⟨b, off, none⟩ ∧ b < w.heap.size ∧ w.cell? ⟨b, off + k, none⟩ = some (.int .u8 (f k))

theorem index_str (o : Option Addr) (n cap : Nat) (f : Nat → ByteArray) (v : ByteArray) (w : World) (h : Ss w o n f) (hn : n ≤ 9223372036854775807) :
    Calls Tryz.prog 127 #[.slice o n cap, .string v] w fun e w' => e = .returned (.int .i64 (fI (fun k => decide (f k = v)) 0 n)) ∧ w = w' := by
  have H := Lib.hid h
  clear h
  obtain ⟨r, hr⟩ : ∃ r, fI (fun k => decide (f k = v)) 0 n = r := ⟨_, rfl⟩
  rw [hr]
  have HR := Lib.hid hr
  clear hr
  go_enter Tryz.func127, Tryz.ntmps127
  go_wp2
  go_loop [8] (fun i => ∃ k : Nat, k ≤ n ∧ i = .int .i64 k ∧ Hid (fI (fun k => decide (f k = v)) k (n - k) = r)) (fun i => n - (intOf i).toNat)
  case atStart => exact ⟨0, Nat.zero_le _, rfl, HR⟩
  case round =>
    obtain ⟨k, hk, rfl, HK⟩ := hrel
    by_cases hlt : k < n
    · obtain ⟨b, off, rfl, hb, hcell⟩ := H.out k hlt
      have E := Lib.hid (fI_at (fun k => decide (f k = v)) k n hlt)
      by_cases hv : f k = v
      · have HE : Hid ((k : Int) = r) := Lib.hid (by have := HK.out; rw [E.out] at this; simpa [hv] using this)
        rw [hv] at hcell
        clear hv E
        go_wp2
        go_ret
        exact ⟨ret_int HE.out, rfl⟩
      · have HE : Hid (fI (fun k => decide (f k = v)) (k + 1) (n - (k + 1)) = r) := Lib.hid (by have := HK.out; rw [E.out] at this; simpa [hv] using this)
        obtain ⟨u, hu⟩ : ∃ u, f k = u := ⟨_, rfl⟩
        rw [hu] at hcell hv
        have n1 := toList_ne (Ne.symm hv)
        have n2 := toList_beq (Ne.symm hv)
        clear hu hv E
        go_wp2
        go_round
        case rel => exact ⟨k + 1, by omega, by go_num, HE⟩
        case measure => simp [intOf]; omega
    · obtain rfl : k = n := by omega
      have HE : Hid (-1 = r) := Lib.hid (by have := HK.out; rw [fI_end] at this; exact this)
      go_wp2
      go_ret
      exact ⟨ret_int HE.out, rfl⟩
theorem contains_str (o : Option Addr) (n cap : Nat) (f : Nat → ByteArray) (v : ByteArray) (w : World) (h : Ss w o n f) (hn : n ≤ 9223372036854775807) :
    Calls Tryz.prog 105 #[.slice o n cap, .string v] w fun e w' => e = .returned (.bool (anyB (fun k => decide (f k = v)) n)) ∧ w = w' := by
  have H := Lib.hid (index_str o n cap f v w h hn)
  unfold anyB
  clear h
  obtain ⟨r, hr⟩ : ∃ r, fI (fun k => decide (f k = v)) 0 n = r := ⟨_, rfl⟩
  rw [hr] at H ⊢
  clear hr
  go_enter Tryz.func105, Tryz.ntmps105
  go_wp2_with (go_at_call 127; refine H.out.mono ?_; rintro e w' ⟨rfl, rfl⟩)
  go_ret
  exact ⟨rfl, rfl⟩
theorem index_u8 (o : Option Addr) (n cap : Nat) (f : Nat → Nat) (v : Nat) (w : World) (h : Us w o n f) (hn : n ≤ 9223372036854775807) :
    Calls Tryz.prog 141 #[.slice o n cap, .int .u8 v] w fun e w' => e = .returned (.int .i64 (fI (fun k => decide (f k = v)) 0 n)) ∧ w = w' := by
  have H := Lib.hid h
  clear h
  obtain ⟨r, hr⟩ : ∃ r, fI (fun k => decide (f k = v)) 0 n = r := ⟨_, rfl⟩
  rw [hr]
  have HR := Lib.hid hr
  clear hr
  go_enter Tryz.func141, Tryz.ntmps141
  go_wp2
  go_loop [8] (fun i => ∃ k : Nat, k ≤ n ∧ i = .int .i64 k ∧ Hid (fI (fun k => decide (f k = v)) k (n - k) = r)) (fun i => n - (intOf i).toNat)
  case atStart => exact ⟨0, Nat.zero_le _, rfl, HR⟩
  case round =>
    obtain ⟨k, hk, rfl, HK⟩ := hrel
    by_cases hlt : k < n
    · obtain ⟨b, off, rfl, hb, hcell⟩ := H.out k hlt
      have E := Lib.hid (fI_at (fun k => decide (f k = v)) k n hlt)
      by_cases hv : f k = v
      · have HE : Hid ((k : Int) = r) := Lib.hid (by have := HK.out; rw [E.out] at this; simpa [hv] using this)
        rw [hv] at hcell
        clear hv E
        go_wp2
        go_ret
        exact ⟨ret_int HE.out, rfl⟩
      · have HE : Hid (fI (fun k => decide (f k = v)) (k + 1) (n - (k + 1)) = r) := Lib.hid (by have := HK.out; rw [E.out] at this; simpa [hv] using this)
        obtain ⟨u, hu⟩ : ∃ u, f k = u := ⟨_, rfl⟩
        rw [hu] at hcell hv
        have n1 : ¬ (v : Int) = u := by omega
        have n2 : ((v : Int) == u) = false := by simpa using n1
        clear hu hv E
        go_wp2
        go_round
        case rel => exact ⟨k + 1, by omega, by go_num, HE⟩
        case measure => simp [intOf]; omega
    · obtain rfl : k = n := by omega
      have HE : Hid (-1 = r) := Lib.hid (by have := HK.out; rw [fI_end] at this; exact this)
      go_wp2
      go_ret
      exact ⟨ret_int HE.out, rfl⟩
theorem contains_u8 (o : Option Addr) (n cap : Nat) (f : Nat → Nat) (v : Nat) (w : World) (h : Us w o n f) (hn : n ≤ 9223372036854775807) :
    Calls Tryz.prog 134 #[.slice o n cap, .int .u8 v] w fun e w' => e = .returned (.bool (anyB (fun k => decide (f k = v)) n)) ∧ w = w' := by
  have H := Lib.hid (index_u8 o n cap f v w h hn)
  unfold anyB
  clear h
  obtain ⟨r, hr⟩ : ∃ r, fI (fun k => decide (f k = v)) 0 n = r := ⟨_, rfl⟩
  rw [hr] at H ⊢
  clear hr
  go_enter Tryz.func134, Tryz.ntmps134
  go_wp2_with (go_at_call 141; refine H.out.mono ?_; rintro e w' ⟨rfl, rfl⟩)
  go_ret
  exact ⟨rfl, rfl⟩
end Go.Proofs.YtjakdbahopbggaaGreatDoor
end
/- What model.Name, Event, ScopeNode and Activity return. Conditions: the two tables are as they are laid; lengths are lengths. -/
section
namespace Go.Proofs.YtjakdbahopbggaaGreatDoor
open Go.RowKit Go.Ow

def nameC (i c : Nat) : Bool := decide ((97 ≤ c ∧ c ≤ 122) ∨ (0 < i ∧ ((48 ≤ c ∧ c ≤ 57) ∨ c = 95)))
/-- the letters from k on, m of them -/
def chars (l : List UInt8) : Nat → Nat → Bool
  | _, 0 => true
  | k, m + 1 => nameC k (l.getD k 0).toNat && chars l (k + 1) m
theorem chars_at (l : List UInt8) (k n : Nat) (h : k < n) : chars l k (n - k) = (nameC k (l.getD k 0).toNat && chars l (k + 1) (n - (k + 1))) := by
  have : n - k = n - (k + 1) + 1 := by omega
  rw [this, chars]
theorem chars_end (l : List UInt8) (n : Nat) : chars l n (n - n) = true := by rw [Nat.sub_self, chars]
def resF (k : Nat) : ByteArray := resRow.getD k ⟨#[]⟩
/-- is it one of the words that are no names? -/
def isRes (s : ByteArray) : Bool := anyB (fun k => decide (resF k = s)) 3
def isName (s : ByteArray) : Bool := decide (1 ≤ s.size ∧ s.size ≤ 12) && (!isRes s && chars s.data.toList 0 s.size)

theorem Gl.resS {A : Nat → Nat × Nat} {w : World} (h : Gl A w) : Ss w (some ⟨1, 0, none⟩) 3 resF := fun k hk => by
  obtain ⟨cs, t, h1, h2, h3⟩ := h.res
  refine ⟨1, 0, rfl, (Array.getElem?_eq_some_iff.1 h1).1, ?_⟩
  rw [cell_of_row w _ _ cs t (0, 0) h1, Nat.zero_add]
  apply h3
  have : k = 0 ∨ k = 1 ∨ k = 2 := by omega
  rcases this with rfl | rfl | rfl <;> rfl
theorem bytes_of_str (w : World) (s : ByteArray) (hm : s.size ≤ 9223372036854775807) : ∃ g cap w1, (convert 9 99 (.string s)).run Tryz.prog w = .ok (.slice (some ⟨g, 0, none⟩) s.size cap) w1 ∧ Below w.heap.size w w1 ∧ g < w1.heap.size ∧ ∀ j, j < s.size → w1.cell? ⟨g, j, none⟩ = some (.int .u8 (s.data.toList.getD j 0).toNat) := by
  obtain ⟨v, w1, hconv, hown, hbel, hlt⟩ := owns_of_string (P := Tryz.prog) w 9 99 5 s Tryz.underlying9 Tryz.underlying99 Tryz.underlying5 (by unfold maxLen; exact hm)
  obtain ⟨g, cap, rfl, _, hg, _, _, hc⟩ := hown.cellAt
  refine ⟨g, cap, w1, ?_, hbel, hg, fun j hj => hc j _ ?_⟩
  · rw [hconv]; simp
  · have e : j < s.data.toList.length := by simpa using hj
    rw [List.getElem?_map, List.getElem?_eq_getElem e, List.getD_eq_getElem?_getD, List.getElem?_eq_getElem e]
    rfl

set_option maxRecDepth 100000 in
set_option maxHeartbeats 1000000 in
theorem name_any {A : Nat → Nat × Nat} (s : ByteArray) (w : World) (hG : Gl A w) (hs : s.size ≤ 9223372036854775807) :
    Calls Tryz.prog 90 #[.string s] w fun e w' => e = .returned (.bool (isName s)) ∧ Below w.heap.size w w' := by
  have HC := Lib.hid (contains_str _ 3 3 resF s w hG.resS (by decide))
  clear hG
  unfold isName
  by_cases h0 : s.size = 0
  · have e : (decide (1 ≤ s.size ∧ s.size ≤ 12) && (!isRes s && chars s.data.toList 0 s.size)) = false := by simp [h0]
    rw [e]
    have e0 := bytes_nil h0
    subst e0
    clear e h0
    go_enter Tryz.func90, Tryz.ntmps90
    go_wp2
    go_ret
    exact ⟨rfl, Below.refl _ _⟩
  · have n1 := bytes_ne h0
    have n2 := bytes_emp h0
    by_cases h12 : s.size ≤ 12
    · have hd : decide (1 ≤ s.size ∧ s.size ≤ 12) = true := by simp; omega
      rw [hd, Bool.true_and]
      clear hd
      cases hr : isRes s
      · have HC' : Hid (Calls Tryz.prog 105 #[.slice (some ⟨1, 0, none⟩) 3 3, .string s] w fun e w' => e = .returned (.bool false) ∧ w = w') := Lib.hid (by rw [← hr]; exact HC.out)
        clear hr HC h0
        obtain ⟨g, cap, w1, hconv, hb1, hg, hc1⟩ := bytes_of_str w s hs
        have H1 := Lib.hid hc1
        have HB := Lib.hid hb1
        clear hc1 hb1
        obtain ⟨r, hrr⟩ : ∃ r, chars s.data.toList 0 s.size = r := ⟨_, rfl⟩
        rw [Bool.not_false, Bool.true_and, hrr]
        have HR := Lib.hid hrr
        clear hrr
        go_enter Tryz.func90, Tryz.ntmps90
        go_wp2_with (go_at_call 105; refine HC'.out.mono ?_; rintro e w' ⟨rfl, rfl⟩)
        go_loop [20] (fun i => ∃ k : Nat, k ≤ s.size ∧ i = .int .i64 k ∧ Hid (chars s.data.toList k (s.size - k) = r)) (fun i => s.size - (intOf i).toNat)
        case atStart => exact ⟨0, Nat.zero_le _, rfl, HR⟩
        case round =>
          obtain ⟨k, hk, rfl, HK⟩ := hrel
          by_cases hlt : k < s.size
          · have hcell := H1.out k hlt
            have E := Lib.hid (chars_at s.data.toList k s.size hlt)
            obtain ⟨c, hc⟩ : ∃ c, (s.data.toList.getD k 0).toNat = c := ⟨_, rfl⟩
            have hc256 : c < 256 := by rw [← hc]; exact UInt8.toNat_lt _
            rw [hc] at hcell E
            clear hc
            by_cases hn : nameC k c = true
            · have HE : Hid (chars s.data.toList (k + 1) (s.size - (k + 1)) = r) := Lib.hid (by have := HK.out; rw [E.out, hn, Bool.true_and] at this; exact this)
              have hn' : (97 ≤ c ∧ c ≤ 122) ∨ (0 < k ∧ (48 ≤ c ∧ c ≤ 57)) ∨ (0 < k ∧ c = 95) := by have := of_decide_eq_true hn; omega
              clear hn E
              rcases hn' with ⟨h1, h2⟩ | ⟨h1, h2, h3⟩ | ⟨h1, rfl⟩
              all_goals
                go_wp2
                go_round
                case rel => exact ⟨k + 1, by omega, by go_num, HE⟩
                case measure => simp [intOf]; omega
            · have HE : Hid (false = r) := Lib.hid (by have := HK.out; rw [E.out, eq_false_of_ne_true hn, Bool.false_and] at this; exact this)
              have hn' : (k < 1 ∧ c < 97) ∨ (k < 1 ∧ 122 < c) ∨ (0 < k ∧ c < 48) ∨ (0 < k ∧ 57 < c ∧ c < 95) ∨ (0 < k ∧ c = 96) ∨ (0 < k ∧ 122 < c) := by
                have : ¬ ((97 ≤ c ∧ c ≤ 122) ∨ (0 < k ∧ ((48 ≤ c ∧ c ≤ 57) ∨ c = 95))) := fun h => hn (decide_eq_true h)
                omega
              clear hn E
              rcases hn' with ⟨h1, h2⟩ | ⟨h1, h2⟩ | ⟨h1, h2⟩ | ⟨h1, h2, h3⟩ | ⟨h1, rfl⟩ | ⟨h1, h2⟩
              all_goals
                try (have e95 : ((c : Int) == 95) = false := by simp; omega)
                go_wp2
                go_ret
                exact ⟨ret_bool HE.out, HB.out⟩
          · obtain rfl : k = s.size := by omega
            have HE : Hid (true = r) := Lib.hid (by have := HK.out; rw [chars_end] at this; exact this)
            go_wp2
            go_ret
            exact ⟨ret_bool HE.out, HB.out⟩
      · have HC' : Hid (Calls Tryz.prog 105 #[.slice (some ⟨1, 0, none⟩) 3 3, .string s] w fun e w' => e = .returned (.bool true) ∧ w = w') := Lib.hid (by rw [← hr]; exact HC.out)
        clear hr HC h0
        rw [Bool.not_true, Bool.false_and]
        go_enter Tryz.func90, Tryz.ntmps90
        go_wp2_with (go_at_call 105; refine HC'.out.mono ?_; rintro e w' ⟨rfl, rfl⟩)
        go_ret
        exact ⟨rfl, Below.refl _ _⟩
    · have hd : decide (1 ≤ s.size ∧ s.size ≤ 12) = false := by simp; omega
      rw [hd, Bool.false_and]
      clear hd h0 HC
      go_enter Tryz.func90, Tryz.ntmps90
      go_wp2
      go_ret
      exact ⟨rfl, Below.refl _ _⟩

/-- has a node of that Kind that event? -/
def evB (k e : Nat) : Bool := decide (k < 16) && anyB (fun j => decide ((evRow k).getD j 0 = e)) (evRow k).length
theorem evRow_len (i : Nat) : (evRow i).length ≤ 6 := by
  unfold evRow
  split <;> decide
theorem event_any {A : Nat → Nat × Nat} (k e : Nat) (w : World) (hG : Gl A w) (hk : k < 256) :
    Calls Tryz.prog 110 #[.int .u8 k, .int .u8 e] w fun r w' => r = .returned (.bool (evB k e)) ∧ w = w' := by
  by_cases h16 : k < 16
  · have hd : evB k e = anyB (fun j => decide ((evRow k).getD j 0 = e)) (evRow k).length := by simp [evB, h16]
    rw [hd]
    clear hd
    by_cases h0 : k = 0
    · subst h0
      obtain ⟨cs, t, h1, h2, h3, _⟩ := hG.evs
      have hcell : w.cell? ⟨2, 0, none⟩ = some (.slice none 0 0) := by rw [cell_of_row w _ _ cs t (0, 0) h1]; exact h3
      have HC := Lib.hid (contains_u8 none 0 0 (fun j => (evRow 0).getD j 0) e w (fun k hk => by omega) (by decide))
      have er : (evRow 0).length = 0 := rfl
      rw [er]
      obtain ⟨b, hb⟩ : ∃ b, anyB (fun j => decide ((evRow 0).getD j 0 = e)) 0 = b := ⟨_, rfl⟩
      rw [hb] at HC ⊢
      clear hb er h1 h2 h3 hG hk h16
      go_enter Tryz.func110, Tryz.ntmps110
      go_wp2_with (go_at_call 134; refine HC.out.mono ?_; rintro e w' ⟨rfl, rfl⟩)
      go_ret
      exact ⟨rfl, rfl⟩
    · obtain ⟨cs, t, h1, h2, _, h3⟩ := hG.evs
      have hcell : w.cell? ⟨2, k, none⟩ = some (.slice (some ⟨(A k).1, (A k).2, none⟩) (evRow k).length (evRow k).length) := by rw [cell_of_row w _ _ cs t (0, 0) h1]; exact h3 k (by omega) h16
      obtain ⟨cs', t', h1', h2', h3'⟩ := hG.row k (by omega) h16
      have HC := Lib.hid (contains_u8 (some ⟨(A k).1, (A k).2, none⟩) (evRow k).length (evRow k).length (fun j => (evRow k).getD j 0) e w (fun j hj => ⟨(A k).1, (A k).2, rfl, (Array.getElem?_eq_some_iff.1 h1').1, by
        rw [cell_of_row w _ _ cs' t' (0, 0) h1']
        apply h3'
        show (evRow k)[j]? = some ((evRow k).getD j 0)
        rw [List.getD_eq_getElem?_getD, List.getElem?_eq_getElem hj]; rfl⟩) (by have := evRow_len k; omega))
      obtain ⟨b, hb⟩ : ∃ b, anyB (fun j => decide ((evRow k).getD j 0 = e)) (evRow k).length = b := ⟨_, rfl⟩
      rw [hb] at HC ⊢
      obtain ⟨n, hn⟩ : ∃ n, (evRow k).length = n := ⟨_, rfl⟩
      rw [hn] at HC hcell
      obtain ⟨a, ha⟩ : ∃ a, A k = a := ⟨_, rfl⟩
      rw [ha] at HC hcell
      clear hb hn ha h1 h2 h3 h1' h2' h3' hG
      go_enter Tryz.func110, Tryz.ntmps110
      go_wp2_with (go_at_call 134; refine HC.out.mono ?_; rintro e w' ⟨rfl, rfl⟩)
      go_ret
      exact ⟨rfl, rfl⟩
  · have hd : evB k e = false := by simp [evB, h16]
    rw [hd]
    clear hd hG
    go_enter Tryz.func110, Tryz.ntmps110
    go_wp2
    go_ret
    exact ⟨rfl, rfl⟩

def scopeF (j : Nat) : Nat := [11, 12, 13].getD j 0
def scopeB (k : Nat) : Bool := anyB (fun j => decide (scopeF j = k)) 3
theorem scope_any (k : Nat) (w : World) :
    Calls Tryz.prog 119 #[.int .u8 k] w fun r w' => r = .returned (.bool (scopeB k)) ∧ Below w.heap.size w w' := by
  have HC := Lib.hid (contains_u8 (some ⟨w.heap.size, 0, none⟩) 3 3 scopeF k (w.alloc (.cells #[.int .u8 11, .int .u8 12, .int .u8 13] 5)) (fun j hj => ⟨w.heap.size, 0, rfl, by simp, by
    have : j = 0 ∨ j = 1 ∨ j = 2 := by omega
    rcases this with rfl | rfl | rfl <;> simp [scopeF]⟩) (by decide))
  unfold scopeB
  obtain ⟨b, hb⟩ : ∃ b, anyB (fun j => decide (scopeF j = k)) 3 = b := ⟨_, rfl⟩
  rw [hb] at HC ⊢
  clear hb
  go_enter Tryz.func119, Tryz.ntmps119
  go_wp2_with (go_at_call 134; refine HC.out.mono ?_; rintro e w' ⟨rfl, rfl⟩)
  go_ret
  exact ⟨rfl, (Below.refl _ _).alloc (Nat.le_refl _) _⟩
end Go.Proofs.YtjakdbahopbggaaGreatDoor
end
