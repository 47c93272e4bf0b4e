/- What wire.put and the document's bytes return: the bytes, then the number's. Conditions: the bytes are not too many. -/
import Derived.Test.YtlflkmigfggdjaaOwn
import Derived.Test.YtlflkmigfggdjaaWireMath
import Derived.Test.YtlflkmigfggdjaaProg
import Derived.WalkKit
import Derived.Deep.LoopGhost
import Derived.Outline
import Derived.WalkLawsBesides
import Derived.WalkSpells
import Derived.Lib.Hide
namespace Go.Proofs.Ytlflkmigfggdjaa
open Go.RowKit Go.Ow Go.Wi

theorem info5 : (Try.prog.info? 5).map (fun i => (i.zero, i.size, i.bytes)) = some (some (.int .u8 0), 1, 1) := by kernel_rfl

/-- The bytes as cells. -/
def cellsOf (l : List UInt8) : List Value := l.map fun b => Value.int .u8 b.toNat
theorem cellsOf_snoc (l : List UInt8) (b : UInt8) (n : Int) (h : n = b.toNat) : cellsOf l ++ [Value.int .u8 n] = cellsOf (l ++ [b]) := by subst h; simp [cellsOf]
theorem cellsOf_len (l : List UInt8) : (cellsOf l).length = l.length := by simp [cellsOf]

theorem ret_str {a b : ByteArray} (h : a = b) : Ending.returned (.string a) = .returned (.string b) := by rw [h]
theorem one_byte (w : World) (x : Int) (b : UInt8) (hx : x = b.toNat) : (convert 50 9 (.slice (some ⟨w.heap.size, 0, none⟩) 1 1)).run Try.prog (w.alloc (.cells #[.int .u8 x] 5)) = .ok (.string ⟨#[b]⟩) (w.alloc (.cells #[.int .u8 x] 5)) := by
  subst hx
  refine run_convert_bytes_back (P := Try.prog) _ 50 9 5 ⟨w.heap.size, 0, none⟩ 1 [b] Try.underlying50 Try.underlying5 Try.underlying9 (fun j hj => ?_)
  obtain rfl : j = 0 := by simpa using hj
  rw [Addr.add_lit]
  simp
theorem or128 (k : Nat) : bits BinOp.or IntKind.u8 (↑k % 256) 128 = ((UInt8.ofNat (k % 128 + 128)).toNat : Int) := by
  have h : ∀ m : Fin 256, (m.val ||| 128) = m.val % 128 + 128 := by decide +kernel
  have := h ⟨k % 256, by omega⟩
  have e := u8_or_nat (k % 256) 128 (by omega) (by decide)
  have e1 : ((k % 256 : Nat) : Int) = (k : Int) % 256 := by omega
  rw [e1] at e
  have e2 : ((128 : Nat) : Int) = 128 := rfl
  rw [e2] at e
  rw [e, this]
  simp
  omega

set_option maxHeartbeats 1000000 in
set_option maxRecDepth 100000 in
theorem put_any (s : ByteArray) (n : Nat) (w : World) (hs : s.size ≤ 1000000) (hn : n < 18446744073709551616) :
    Calls Try.prog 34 #[.string s, .int .u64 n] w fun e w' => e = .returned (.string (cat s (enc n))) ∧ Below w.heap.size w w' := by
  obtain ⟨v, w1, hconv, hown, hbel, hlt⟩ := owns_of_string (P := Try.prog) w 9 50 5 s Try.underlying9 Try.underlying50 Try.underlying5 (by unfold maxLen; omega)
  obtain ⟨i0, hi, hz0, hz1, hz2⟩ := info_parts info5
  have HO : Hid (Owns w1 w.heap.size 5 v (cellsOf s.data.toList)) := hown
  clear hown
  go_enter Try.func34, Try.ntmps34
  go_wp2
  go_loopg [1, 5] n (fun k N V wr => ∃ l : List UInt8, l ++ enc k = enc n ∧ k ≤ n ∧ N = .int .u64 k ∧ Owns wr w.heap.size 5 V (cellsOf (s.data.toList ++ l)) ∧ Below w.heap.size w wr ∧ w.heap.size < wr.heap.size)
  case atStart => exact ⟨[], rfl, Nat.le_refl _, rfl, by simpa using HO.out, hbel, hlt⟩
  case round =>
    obtain ⟨l, hl, hk, rfl, ho, hb, hz⟩ := hrel
    have HL := Lib.hid hl
    clear hl
    have hlen : l.length + (enc gk).length ≤ 10 := by have := enc_len64 n hn; rw [← HL.out] at this; simpa using this
    have hep := enc_pos gk
    have hbase : w.heap.size ≤ wr.heap.size := hb.size
    by_cases h128 : 128 ≤ gk
    · have HOR := Lib.hid (or128 gk)
      go_wp2_with (at_builtin; refine wpList_append _ rfl (.tmp 12) (.tmp 16) 50 rfl i0 (.int .u8 0) 1 Try.underlying50 hi hz0 hz1 hz2 rfl rfl (ho.alloc _) ⟨wr.heap.size, 0, none⟩ 1 (.int .u8 (bits BinOp.or IntKind.u8 (↑gk % 256) 128)) rfl ?c1 rfl rfl ?c2 ?c3 ?c4 ?_)
      case c1 => simp
      case c2 => rw [cellsOf_len]; simp; unfold maxLen; omega
      case c3 => rw [cellsOf_len]; simp; omega
      case c4 => simp; omega
      intro v' w' ho' hb'
      rw [cellsOf_snoc _ _ _ HOR.out] at ho'
      clear HOR
      have hz' : w.heap.size < w'.heap.size := by have := hb'.size; simp at this; omega
      have hbw : Below w.heap.size w w' := (hb.alloc hbase _).trans hb'
      clear hb'
      go_wp2
      go_roundg (gk / 128)
      case measure => omega
      case rel => exact ⟨l ++ [UInt8.ofNat (gk % 128 + 128)], by rw [← HL.out, enc_more h128]; simp, by omega, by go_num, by rw [← List.append_assoc]; exact ho', hbw, hz'⟩
    · have hc : (gk : Int) % 256 = gk := by omega
      go_wp2_with (at_builtin; refine wpList_append _ rfl (.tmp 18) (.tmp 21) 50 rfl i0 (.int .u8 0) 1 Try.underlying50 hi hz0 hz1 hz2 rfl rfl (ho.alloc _) ⟨wr.heap.size, 0, none⟩ 1 (.int .u8 gk) rfl ?d1 rfl rfl ?d2 ?d3 ?d4 ?_)
      case d1 => simp
      case d2 => rw [cellsOf_len]; simp; unfold maxLen; omega
      case d3 => rw [cellsOf_len]; simp; omega
      case d4 => simp; omega
      intro v' w' ho' hb'
      rw [cellsOf_snoc _ (UInt8.ofNat gk) _ (by simp; omega)] at ho'
      have hbw : Below w.heap.size w w' := (hb.alloc hbase _).trans hb'
      clear hb'
      have hback := run_string (P := Try.prog) _ ho' 50 9 Try.underlying50 Try.underlying5 Try.underlying9
      go_wp2
      go_ret
      exact ⟨ret_str (by rw [← enc_small (n := gk) (by omega), HL.out, mk_cat]), hbw⟩
set_option maxHeartbeats 1000000 in
set_option maxRecDepth 100000 in
theorem bytes_any (s : ByteArray) (n : Nat) (w : World) (hs : s.size ≤ 1000000) (hn : n < 18446744073709551616) :
    Calls Try.prog 35 #[.string s, .int .u64 n] w fun e w' => e = .returned (.string (cat s (enc n))) ∧ Below w.heap.size w w' := by
  go_enter Try.func35, Try.ntmps35
  go_wp2
  go_loopg [0, 1] n (fun k S N wr => ∃ l : List UInt8, l ++ enc k = enc n ∧ k ≤ n ∧ N = .int .u64 k ∧ S = .string (cat s l) ∧ Below w.heap.size w wr)
  case atStart => exact ⟨[], rfl, Nat.le_refl _, rfl, by rw [cat_nil], Below.refl _ _⟩
  case round =>
    obtain ⟨l, hl, hk, rfl, rfl, hb⟩ := hrel
    have HL := Lib.hid hl
    clear hl
    have hlen : l.length + (enc gk).length ≤ 10 := by have := enc_len64 n hn; rw [← HL.out] at this; simpa using this
    have hcs : (cat s l).size ≤ 1000010 := by rw [cat_size]; omega
    have hbase : w.heap.size ≤ wr.heap.size := hb.size
    by_cases h128 : 128 ≤ gk
    · obtain ⟨b, hbv⟩ : ∃ b, b = UInt8.ofNat (gk % 128 + 128) := ⟨_, rfl⟩
      have HB := Lib.hid hbv
      have hb1 := one_byte wr (↑gk % 128 + 128) b (by rw [hbv]; simp; omega)
      clear hbv
      go_wp2
      go_roundg (gk / 128)
      case measure => omega
      case rel => exact ⟨l ++ [b], by rw [← HL.out, enc_more h128, HB.out]; simp, by omega, by go_num, by rw [append_cat, cat_cat], hb.alloc hbase _⟩
    · obtain ⟨b, hbv⟩ : ∃ b, b = UInt8.ofNat gk := ⟨_, rfl⟩
      have HB := Lib.hid hbv
      have hb1 := one_byte wr ↑gk b (by rw [hbv]; simp; omega)
      clear hbv
      go_wp2
      go_ret
      exact ⟨ret_str (by rw [append_cat, cat_cat, ← HL.out, enc_small (n := gk) (by omega), HB.out]), hb.alloc hbase _⟩
end Go.Proofs.Ytlflkmigfggdjaa
