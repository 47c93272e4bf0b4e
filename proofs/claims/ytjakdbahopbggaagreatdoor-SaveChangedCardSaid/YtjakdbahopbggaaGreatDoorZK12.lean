/- An item, a cell, a watch as data, and as entries (plain). Conditions: none. -/
import Derived.Test.YtjakdbahopbggaaGreatDoorZSvP
import Derived.Test.YtjakdbahopbggaaGreatDoorZK08
import Derived.Test.YtjakdbahopbggaaGreatDoorZSv1
section
namespace Go.Proofs.YtjakdbahopbggaaGreatDoor
open Go.RowKit Go.Ow Go.Wi

structure It where
  id : Int
  up : Int
  is : Nat
  proc : ByteArray
  node : Int
  frm : Int
  wait : Nat
  code : ByteArray
structure Cl where
  sc : Int
  nm : ByteArray
  k : Nat
  n : Int
  t : ByteArray
structure Wa where
  id : Int
  item : Int
  node : Int
  ev : Nat
  key : ByteArray
  due : Int
  armed : Bool
/-- one more, as an int64 has it -/
def incS (n : Int) : Int := IntKind.i64.wrap (n + 1)
/-- a byte of a number -/
def byt (n : Int) (s : Nat) : UInt8 := UInt8.ofNat ((n / (2 ^ s : Nat)) % 256).toNat
def idB (c : UInt8) (n : Int) : List UInt8 := [c, byt n 40, byt n 32, byt n 24, byt n 16, byt n 8, byt n 0]
def knownB (n : Int) : Bool := decide (1 ≤ n ∧ n ≤ 1099511627776)
def shortB (t : ByteArray) : Bool := decide (t.size ≤ 13)
def lessB (n : Int) : Bool := decide (n < 1099511627776)
def itE (x : It) : En := ⟨idB 105 x.id, numL x.up ++ (numL x.is ++ (txt x.proc ++ (numL (incS x.node) ++ (numL (incS x.frm) ++ (numL x.wait ++ txt x.code)))))⟩
def itOk (x : It) : Bool := (knownB x.id && (lessB x.node && lessB x.frm)) && (numB x.up && (numB x.is && (shortB x.proc && (numB (incS x.node) && (numB (incS x.frm) && (numB x.wait && shortB x.code))))))
def clE (x : Cl) : En := ⟨idB 118 x.sc ++ x.nm.data.toList, valL x.k x.n x.t⟩
def clOk (x : Cl) : Bool := decide (0 ≤ x.sc ∧ x.sc ≤ 1099511627776 ∧ x.nm.size ≤ 13) && may x.k x.n x.t
def waE (x : Wa) : En := ⟨idB 119 x.id, numL x.item ++ (numL (incS x.node) ++ (numL x.ev ++ (txt x.key ++ (numL x.due ++ numL (b2n x.armed)))))⟩
def waOk (x : Wa) : Bool := (knownB x.id && lessB x.node) && (numB x.item && (numB (incS x.node) && (numB x.ev && (shortB x.key && (numB x.due && numB (b2n x.armed))))))
def It.fit (x : It) : Prop := -9223372036854775808 ≤ x.node ∧ x.node ≤ 9223372036854775807 ∧ -9223372036854775808 ≤ x.frm ∧ x.frm ≤ 9223372036854775807
def Wa.fit (x : Wa) : Prop := -9223372036854775808 ≤ x.node ∧ x.node ≤ 9223372036854775807
theorem It.fit.def_ {x : It} (h : x.fit) : -9223372036854775808 ≤ x.node ∧ x.node ≤ 9223372036854775807 ∧ -9223372036854775808 ≤ x.frm ∧ x.frm ≤ 9223372036854775807 := h
end Go.Proofs.YtjakdbahopbggaaGreatDoor
end
/- What save.id and known return: a number as a key. Conditions: none. -/
section
namespace Go.Proofs.YtjakdbahopbggaaGreatDoor
open Go.RowKit Go.Ow Go.Wi Go.Proofs.YtjakdbahopbggaaGreatDoor.Wr

theorem byt_val (n : Int) (s : Nat) : (n / (2 ^ s : Nat)) % 256 = ((byt n s).toNat : Int) := by
  unfold byt
  have h1 := Int.emod_nonneg (n / (2 ^ s : Nat)) (by omega : (256 : Int) ≠ 0)
  have h2 := Int.emod_lt_of_pos (n / (2 ^ s : Nat)) (by omega : (0 : Int) < 256)
  simp only [UInt8.toNat_ofNat']
  omega
theorem known_any (n : Int) (w : World) : Calls Tryz.prog 42 #[.int .i64 n] w fun e w' => e = .returned (.bool (knownB n)) ∧ Below w.heap.size w w' := by
  by_cases h1 : 1 ≤ n
  · go_enter Tryz.func42, Tryz.ntmps42
    go_wp2
    go_ret
    exact ⟨ret_bool (by unfold knownB; exact decide_eq_decide.2 (by omega)), Below.refl _ _⟩
  · go_enter Tryz.func42, Tryz.ntmps42
    go_wp2
    go_ret
    exact ⟨ret_bool (by unfold knownB; exact (decide_eq_false (by omega)).symm), Below.refl _ _⟩
theorem owns_byte (w : World) (c : Nat) : Owns (w.alloc (.cells #[.int .u8 c] 5)) w.heap.size 5 (.slice (some ⟨w.heap.size, 0, none⟩) 1 1) [.int .u8 c] :=
  ⟨w.heap.size, 1, _, (0, 0), rfl, Nat.le_refl _, heap_alloc_new w _, fun i _ => by simp, Nat.le_refl _, by unfold maxLen; omega, rfl, rfl⟩
set_option maxRecDepth 100000 in
set_option maxHeartbeats 4000000 in
theorem id_any (c : UInt8) (n : Int) (w : World) :
    Calls Tryz.prog 41 #[.int .u8 c.toNat, .int .i64 n] w fun e w' => e = .returned (strL' (idB c n)) ∧ Below w.heap.size w w' := by
  obtain ⟨i0, hi, hz0, hz1, hz2⟩ := info_parts info5
  have HO : Hid (Owns (w.alloc (.cells #[.int .u8 c.toNat] 5)) w.heap.size 5 (.slice (some ⟨w.heap.size, 0, none⟩) 1 1) (cellsOf ((idB c n).take 1))) := owns_byte w c.toNat
  have B0 := Lib.hid ((Below.refl w.heap.size w).alloc (Nat.le_refl _) (.cells #[.int .u8 c.toNat] 5))
  go_enter Tryz.func41, Tryz.ntmps41
  go_wp2
  go_loopg [5, 6] 6 (fun k V N wr => k ≤ 6 ∧ N = .int .i64 ((k : Int) - 1) ∧ Hid (Owns wr w.heap.size 5 V (cellsOf ((idB c n).take (7 - k))) ∧ Below w.heap.size w wr))
  case atStart => exact ⟨Nat.le_refl _, rfl, Lib.hid ⟨HO.out, B0.out⟩⟩
  case round =>
    obtain ⟨hk, rfl, hob⟩ := hrel
    clear HO
    by_cases h0 : gk = 0
    · subst h0
      have ho' := hob.out.1
      have hback := run_string (P := Tryz.prog) _ ho' 99 9 Tryz.underlying99 Tryz.underlying5 Tryz.underlying9
      clear ho'
      go_wp2
      go_ret
      exact ⟨rfl, hob.out.2⟩
    · have hg : gk = 6 ∨ gk = 5 ∨ gk = 4 ∨ gk = 3 ∨ gk = 2 ∨ gk = 1 := by omega
      have ho := hob.out.1
      have hsz := hob.out.2.size
      rcases hg with rfl | rfl | rfl | rfl | rfl | rfl
      · clear hk h0
        go_wp2_with (at_builtin; refine wpList_append _ rfl (.tmp 13) (.tmp 19) 99 rfl i0 (.int .u8 0) 1 Tryz.underlying99 hi hz0 hz1 hz2 rfl rfl (ho.alloc _) ⟨wr.heap.size, 0, none⟩ 1 (.int .u8 (n / 1099511627776 % 256)) rfl ?c1 rfl rfl ?c2 ?c3 ?c4 ?_)
        case c1 => simp
        case c2 => rw [cellsOf_len, List.length_take]; unfold maxLen; omega
        case c3 => rw [cellsOf_len, List.length_take]; omega
        case c4 => simp; omega
        intro v' w' ho' hb'
        rw [cellsOf_snoc _ (byt n 40) _ (by have h := byt_val n 40; rw [show ((2 ^ 40 : Nat) : Int) = 1099511627776 from rfl] at h; exact h)] at ho'
        have hbw : Below w.heap.size w w' := (hob.out.2.alloc hsz _).trans hb'
        have HN := Lib.hid (⟨ho', hbw⟩ : _ ∧ _)
        clear ho ho' hb' hbw hob hsz
        go_wp2
        go_roundg 5
        case measure => omega
        case rel => exact ⟨by omega, rfl, HN⟩
      · clear hk h0
        go_wp2_with (at_builtin; refine wpList_append _ rfl (.tmp 13) (.tmp 19) 99 rfl i0 (.int .u8 0) 1 Tryz.underlying99 hi hz0 hz1 hz2 rfl rfl (ho.alloc _) ⟨wr.heap.size, 0, none⟩ 1 (.int .u8 (n / 4294967296 % 256)) rfl ?c1 rfl rfl ?c2 ?c3 ?c4 ?_)
        case c1 => simp
        case c2 => rw [cellsOf_len, List.length_take]; unfold maxLen; omega
        case c3 => rw [cellsOf_len, List.length_take]; omega
        case c4 => simp; omega
        intro v' w' ho' hb'
        rw [cellsOf_snoc _ (byt n 32) _ (by have h := byt_val n 32; rw [show ((2 ^ 32 : Nat) : Int) = 4294967296 from rfl] at h; exact h)] at ho'
        have hbw : Below w.heap.size w w' := (hob.out.2.alloc hsz _).trans hb'
        have HN := Lib.hid (⟨ho', hbw⟩ : _ ∧ _)
        clear ho ho' hb' hbw hob hsz
        go_wp2
        go_roundg 4
        case measure => omega
        case rel => exact ⟨by omega, rfl, HN⟩
      · clear hk h0
        go_wp2_with (at_builtin; refine wpList_append _ rfl (.tmp 13) (.tmp 19) 99 rfl i0 (.int .u8 0) 1 Tryz.underlying99 hi hz0 hz1 hz2 rfl rfl (ho.alloc _) ⟨wr.heap.size, 0, none⟩ 1 (.int .u8 (n / 16777216 % 256)) rfl ?c1 rfl rfl ?c2 ?c3 ?c4 ?_)
        case c1 => simp
        case c2 => rw [cellsOf_len, List.length_take]; unfold maxLen; omega
        case c3 => rw [cellsOf_len, List.length_take]; omega
        case c4 => simp; omega
        intro v' w' ho' hb'
        rw [cellsOf_snoc _ (byt n 24) _ (by have h := byt_val n 24; rw [show ((2 ^ 24 : Nat) : Int) = 16777216 from rfl] at h; exact h)] at ho'
        have hbw : Below w.heap.size w w' := (hob.out.2.alloc hsz _).trans hb'
        have HN := Lib.hid (⟨ho', hbw⟩ : _ ∧ _)
        clear ho ho' hb' hbw hob hsz
        go_wp2
        go_roundg 3
        case measure => omega
        case rel => exact ⟨by omega, rfl, HN⟩
      · clear hk h0
        go_wp2_with (at_builtin; refine wpList_append _ rfl (.tmp 13) (.tmp 19) 99 rfl i0 (.int .u8 0) 1 Tryz.underlying99 hi hz0 hz1 hz2 rfl rfl (ho.alloc _) ⟨wr.heap.size, 0, none⟩ 1 (.int .u8 (n / 65536 % 256)) rfl ?c1 rfl rfl ?c2 ?c3 ?c4 ?_)
        case c1 => simp
        case c2 => rw [cellsOf_len, List.length_take]; unfold maxLen; omega
        case c3 => rw [cellsOf_len, List.length_take]; omega
        case c4 => simp; omega
        intro v' w' ho' hb'
        rw [cellsOf_snoc _ (byt n 16) _ (by have h := byt_val n 16; rw [show ((2 ^ 16 : Nat) : Int) = 65536 from rfl] at h; exact h)] at ho'
        have hbw : Below w.heap.size w w' := (hob.out.2.alloc hsz _).trans hb'
        have HN := Lib.hid (⟨ho', hbw⟩ : _ ∧ _)
        clear ho ho' hb' hbw hob hsz
        go_wp2
        go_roundg 2
        case measure => omega
        case rel => exact ⟨by omega, rfl, HN⟩
      · clear hk h0
        go_wp2_with (at_builtin; refine wpList_append _ rfl (.tmp 13) (.tmp 19) 99 rfl i0 (.int .u8 0) 1 Tryz.underlying99 hi hz0 hz1 hz2 rfl rfl (ho.alloc _) ⟨wr.heap.size, 0, none⟩ 1 (.int .u8 (n / 256 % 256)) rfl ?c1 rfl rfl ?c2 ?c3 ?c4 ?_)
        case c1 => simp
        case c2 => rw [cellsOf_len, List.length_take]; unfold maxLen; omega
        case c3 => rw [cellsOf_len, List.length_take]; omega
        case c4 => simp; omega
        intro v' w' ho' hb'
        rw [cellsOf_snoc _ (byt n 8) _ (by have h := byt_val n 8; rw [show ((2 ^ 8 : Nat) : Int) = 256 from rfl] at h; exact h)] at ho'
        have hbw : Below w.heap.size w w' := (hob.out.2.alloc hsz _).trans hb'
        have HN := Lib.hid (⟨ho', hbw⟩ : _ ∧ _)
        clear ho ho' hb' hbw hob hsz
        go_wp2
        go_roundg 1
        case measure => omega
        case rel => exact ⟨by omega, rfl, HN⟩
      · clear hk h0
        go_wp2_with (at_builtin; refine wpList_append _ rfl (.tmp 13) (.tmp 19) 99 rfl i0 (.int .u8 0) 1 Tryz.underlying99 hi hz0 hz1 hz2 rfl rfl (ho.alloc _) ⟨wr.heap.size, 0, none⟩ 1 (.int .u8 (n % 256)) rfl ?c1 rfl rfl ?c2 ?c3 ?c4 ?_)
        case c1 => simp
        case c2 => rw [cellsOf_len, List.length_take]; unfold maxLen; omega
        case c3 => rw [cellsOf_len, List.length_take]; omega
        case c4 => simp; omega
        intro v' w' ho' hb'
        rw [cellsOf_snoc _ (byt n 0) _ (by have h := byt_val n 0; simpa using h)] at ho'
        have hbw : Below w.heap.size w w' := (hob.out.2.alloc hsz _).trans hb'
        have HN := Lib.hid (⟨ho', hbw⟩ : _ ∧ _)
        clear ho ho' hb' hbw hob hsz
        go_wp2
        go_roundg 0
        case measure => omega
        case rel => exact ⟨by omega, rfl, HN⟩
end Go.Proofs.YtjakdbahopbggaaGreatDoor
end
