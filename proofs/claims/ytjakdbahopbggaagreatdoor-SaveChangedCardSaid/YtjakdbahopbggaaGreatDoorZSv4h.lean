/- Entries in memory; what save's tells come to; lists that may be told. Conditions: texts of less than 2^47 bytes. -/
import Derived.Test.YtjakdbahopbggaaGreatDoorZSv3
import Derived.Test.YtjakdbahopbggaaGreatDoorZSvR
import Derived.Deep.DeepAppendWide
import Derived.Shelf.SlSorted.Search
namespace Go.Proofs.YtjakdbahopbggaaGreatDoor
open Go.RowKit Go.Ow Go.Wi

/-- the cells of an entry -/
def enC (e : En) : List Value := [strL' e.k, strL' e.v]
theorem enC_len (l : List En) : (l.flatMap enC).length = l.length * 2 := by
  induction l with
  | nil => rfl
  | cons a l ih => rw [List.flatMap_cons, List.length_append, ih, List.length_cons]; simp [enC]; omega
theorem enC_at : ∀ (l : List En) (k : Nat) (e : En), l[k]? = some e → (l.flatMap enC)[k * 2]? = some (strL' e.k) ∧ (l.flatMap enC)[k * 2 + 1]? = some (strL' e.v)
  | [], k, e, h => by simp at h
  | a :: l, 0, e, h => by
    simp only [List.getElem?_cons_zero, Option.some.injEq] at h
    subst h
    exact ⟨rfl, rfl⟩
  | a :: l, k + 1, e, h => by
    have := enC_at l k e (by simpa using h)
    rw [List.flatMap_cons, show (k + 1) * 2 = k * 2 + 2 by omega]
    exact ⟨by rw [← this.1]; rfl, by rw [← this.2]; rfl⟩
/-- entries to be read -/
def EnA (w : World) (o : Option Addr) (l : List En) : Prop := ∀ k e, l[k]? = some e → ∃ b off, o = some ⟨b, off, none⟩ ∧ b < w.heap.size ∧ w.cell? ⟨b, off + k * 2, none⟩ = some (strL' e.k) ∧ w.cell? ⟨b, off + k * 2 + 1, none⟩ = some (strL' e.v)
theorem EnA.below {w wr : World} {o : Option Addr} {l : List En} (h : EnA w o l) (hb : Below w.heap.size w wr) : EnA wr o l := fun k e hk => by
  obtain ⟨b, off, h1, h2, h3, h4⟩ := h k e hk
  refine ⟨b, off, h1, Nat.lt_of_lt_of_le h2 hb.size, ?_, ?_⟩
  · rw [hb.cell (p := ⟨b, off + k * 2, none⟩) h2]; exact h3
  · rw [hb.cell (p := ⟨b, off + k * 2 + 1, none⟩) h2]; exact h4
/-- entries in a row of one's own -/
def EnO (w : World) (B : Nat) (v : Value) (l : List En) : Prop := w.ownsRow B 42 2 v l.length (l.flatMap enC)
theorem EnO.ena {w : World} {B : Nat} {v : Value} {l : List En} (h : EnO w B v l) : ∃ o c, v = .slice o l.length c ∧ l.length ≤ c ∧ EnA w o l := by
  rcases h.2 with ⟨rfl, h0⟩ | ⟨g, cap, cur, rfl, hb, hg, hn, hm, hs, ht⟩
  · refine ⟨none, 0, by rw [h0], by omega, fun k e hk => ?_⟩
    rw [List.eq_nil_of_length_eq_zero h0] at hk
    simp at hk
  · refine ⟨_, cap, rfl, hn, fun k e hk => ⟨g, 0, rfl, (Array.getElem?_eq_some_iff.1 hg).1, ?_⟩⟩
    obtain ⟨a, b⟩ := enC_at l k e hk
    have hlt : k < l.length := (List.getElem?_eq_some_iff.1 hk).1
    rw [← ht, List.getElem?_take] at a b
    rw [if_pos (by omega)] at a b
    rw [cell_of_row w g _ cur _ (0, 0) hg, cell_of_row w g _ cur _ (0, 0) hg, Nat.zero_add, ← Array.getElem?_toList, ← Array.getElem?_toList]
    exact ⟨a, b⟩
theorem row_en {w : World} {B : Nat} {v : Value} {n : Nat} {l : List En} (h : w.ownsRow B 42 2 v n (l.flatMap enC)) (hl : l.length = n) : ∃ o c, v = .slice o n c ∧ n ≤ c ∧ EnA w o l := by
  subst hl
  exact EnO.ena h
theorem ownC_but {w w' : World} {b B C : Nat} {e : TypeId} {n : Nat} {u : Value} {xs : List Value} (h : w.ownsRow B e C u n xs) (hb : But b w w') (hk : ∀ g, u.ownBlock = some g → g ≠ b) : w'.ownsRow B e C u n xs :=
  ⟨h.1, h.2.imp id fun ⟨g, cap, cur, a1, a2, a3, a4⟩ => ⟨g, cap, cur, a1, a2, by rw [hb.block g (Array.getElem?_eq_some_iff.1 a3).1 (hk g (by rw [a1]; rfl))]; exact a3, a4⟩⟩
theorem EnO.below {w w' : World} {B : Nat} {v : Value} {l : List En} (h : EnO w B v l) (hb : Below w.heap.size w w') : EnO w' B v l := ownC_mono h hb
theorem EnO.base {w : World} {B B' : Nat} {v : Value} {l : List En} (h : EnO w B v l) (hB : B' ≤ B) : EnO w B' v l := ownC_base h hB
/-- a row of things whose cells are C -/
def RowA {α : Type} (C : α → Array Value) (S : Nat) (w : World) (o : Option Addr) (n : Nat) (f : Nat → α) : Prop := ∀ k, k < n → ∃ b off, o = some ⟨b, off, none⟩ ∧ b < w.heap.size ∧ ∀ r u, (C (f k))[r]? = some u → w.cell? ⟨b, off + k * S + r, none⟩ = some u
theorem RowA.below {α : Type} {C : α → Array Value} {S : Nat} {w wr : World} {o : Option Addr} {n : Nat} {f : Nat → α} (h : RowA C S w o n f) (hb : Below w.heap.size w wr) : RowA C S wr o n f := fun k hk => by
  obtain ⟨b, off, h1, h2, h3⟩ := h k hk
  refine ⟨b, off, h1, Nat.lt_of_lt_of_le h2 hb.size, fun r u hr => ?_⟩
  rw [hb.cell (p := ⟨b, off + k * S + r, none⟩) h2]
  exact h3 r u hr
abbrev itC (x : It) : Array Value := #[.int .i64 x.id, .int .i64 x.up, .int .u8 x.is, .string x.proc, .int .i64 x.node, .int .i64 x.frm, .int .u8 x.wait, .string x.code]
abbrev clC (x : Cl) : Array Value := #[.int .i64 x.sc, .string x.nm, .int .u8 x.k, .int .i64 x.n, .string x.t]
abbrev waC (x : Wa) : Array Value := #[.int .i64 x.id, .int .i64 x.item, .int .i64 x.node, .int .u8 x.ev, .string x.key, .int .i64 x.due, .bool x.armed]
/-- a state's own cells -/
structure Sh where
  c : Int
  nx : Int
  o1 : Option Addr
  n1 : Nat
  c1 : Nat
  o2 : Option Addr
  n2 : Nat
  c2 : Nat
  o3 : Option Addr
  n3 : Nat
  c3 : Nat
  o4 : Option Addr
  n4 : Nat
  c4 : Nat
abbrev shC (x : Sh) : Array Value := #[.int .i64 x.c, .int .i64 x.nx, .slice x.o1 x.n1 x.c1, .slice x.o2 x.n2 x.c2, .slice x.o3 x.n3 x.c3, .slice x.o4 x.n4 x.c4]
def shE (x : Sh) : En := ⟨[99], numL x.c ++ numL x.nx⟩
def itT (x : It) : Bool := knownB x.id && (lessB x.node && lessB x.frm)
def itP (x : It) : Bool := numB x.up && (numB x.is && (shortB x.proc && (numB (incS x.node) && (numB (incS x.frm) && (numB x.wait && shortB x.code)))))
def clT (x : Cl) : Bool := decide (0 ≤ x.sc ∧ x.sc ≤ 1099511627776 ∧ x.nm.size ≤ 13)
def clP (x : Cl) : Bool := may x.k x.n x.t
def waT (x : Wa) : Bool := knownB x.id && lessB x.node
def waP (x : Wa) : Bool := numB x.item && (numB (incS x.node) && (numB x.ev && (shortB x.key && (numB x.due && numB (b2n x.armed)))))
def shT (x : Sh) : Bool := decide (x.n1 ≤ 12)
def shP (x : Sh) : Bool := numB x.c && numB x.nx
def shOk (x : Sh) : Bool := shT x && shP x
def It.fitS (x : It) : Prop := x.proc.size ≤ 140737488351232 ∧ x.code.size ≤ 140737488351232 ∧ x.is < 256 ∧ x.wait < 256
def Cl.fitS (x : Cl) : Prop := x.k < 256 ∧ -9223372036854775808 ≤ x.n ∧ x.n ≤ 9223372036854775807 ∧ x.t.size ≤ 140737488351232 ∧ x.nm.size ≤ 140737488351232
def Wa.fitS (x : Wa) : Prop := x.key.size ≤ 140737488351232 ∧ x.ev < 256
def Sh.fitS (_ : Sh) : Prop := True
theorem tell_it (x : It) (hx : x.fitS) (p : Nat) (w : World) (h : Pn w p [] true) : Calls Tryz.prog 21 #[.agg (itC x), pt p] w fun e w' => e = .returned (.tuple #[strL' (itE x).k, .bool (itT x)]) ∧ But p w w' ∧ Pn w' p (itE x).v (itP x) := tellItem_any x p w h hx.1 hx.2.1 hx.2.2.1 hx.2.2.2
theorem tell_cl (x : Cl) (hx : x.fitS) (p : Nat) (w : World) (h : Pn w p [] true) : Calls Tryz.prog 23 #[.agg (clC x), pt p] w fun e w' => e = .returned (.tuple #[strL' (clE x).k, .bool (clT x)]) ∧ But p w w' ∧ Pn w' p (clE x).v (clP x) := tellCell_any x p w h hx.1 hx.2.1 hx.2.2.1 hx.2.2.2.1 hx.2.2.2.2
theorem tell_wa (x : Wa) (hx : x.fitS) (p : Nat) (w : World) (h : Pn w p [] true) : Calls Tryz.prog 25 #[.agg (waC x), pt p] w fun e w' => e = .returned (.tuple #[strL' (waE x).k, .bool (waT x)]) ∧ But p w w' ∧ Pn w' p (waE x).v (waP x) := tellWatch_any x p w h hx.1 hx.2
theorem tell_sh (x : Sh) (_ : x.fitS) (p : Nat) (w : World) (h : Pn w p [] true) : Calls Tryz.prog 17 #[.agg (shC x), pt p] w fun e w' => e = .returned (.tuple #[strL' (shE x).k, .bool (shT x)]) ∧ But p w w' ∧ Pn w' p (shE x).v (shP x) := Keys_1_any x.c x.nx x.o1 x.o2 x.o3 x.o4 x.n1 x.n2 x.n3 x.n4 x.c1 x.c2 x.c3 x.c4 p w h
theorem AllOk.zero {α : Type} {E : α → En} {ok : α → Bool} {f : Nat → α} : AllOk E ok f 0 := fun j hj => by omega
theorem AllOk.step {α : Type} {E : α → En} {ok : α → Bool} {f : Nat → α} {k : Nat} (h : AllOk E ok f k) (h1 : ok (f k) = true) (h2 : 0 < k → (E (f (k - 1))).k < (E (f k)).k) : AllOk E ok f (k + 1) := fun j hj => by
  by_cases e : j = k
  · subst e; exact ⟨h1, h2⟩
  · exact h j (by omega)
theorem bytesLess_lt : ∀ (x y : List UInt8), Op.bytesLess x y = decide (x < y)
  | [], [] => by simp [Op.bytesLess]
  | _ :: _, [] => by simp [Op.bytesLess]
  | [], _ :: _ => by simp [Op.bytesLess]
  | a :: x, b :: y => by
    rw [Op.bytesLess, bytesLess_lt x y]
    simp only [List.cons_lt_cons_iff]
    by_cases h1 : a < b <;> by_cases h2 : a = b <;> by_cases h3 : x < y <;> simp [h1, h2, h3]
theorem less_mk (x y : List UInt8) : Op.bytesLess (⟨x.toArray⟩ : ByteArray).toList (⟨y.toArray⟩ : ByteArray).toList = decide (x < y) := by
  rw [ByteArray.toList_eq, ByteArray.toList_eq]
  exact bytesLess_lt x y
theorem info_entry : (Tryz.prog.info? 42).map (fun i => (i.zero, i.size, i.bytes)) = some (some (.agg #[.string ⟨#[]⟩, .string ⟨#[]⟩]), 2, 32) := by kernel_rfl
theorem row_snoc {α : Type} (f : Nat → α) (k : Nat) : rowL f (k + 1) = rowL f k ++ [f k] := by unfold rowL; rw [List.range_succ, List.map_append]; rfl
theorem keys_snoc {α : Type} (E : α → En) (f : Nat → α) (k : Nat) : ((rowL f (k + 1)).map E).flatMap enC = ((rowL f k).map E).flatMap enC ++ enC (E (f k)) := by
  rw [row_snoc, List.map_append, List.flatMap_append]; simp
theorem keys_at {α : Type} (E : α → En) (f : Nat → α) {k j : Nat} (h : j < k) : ((rowL f k).map E)[j]? = some (E (f j)) := by
  unfold rowL
  rw [List.map_map, List.getElem?_map, List.getElem?_range h]
  rfl

end Go.Proofs.YtjakdbahopbggaaGreatDoor
