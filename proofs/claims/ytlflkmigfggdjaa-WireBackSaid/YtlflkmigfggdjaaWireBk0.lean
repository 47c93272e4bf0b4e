/- A row of pieces of bytes, one behind the other: written one by one at the end, read one by one at the beginning. Conditions: none. -/
import Derived.Test.YtlflkmigfggdjaaWireAn
namespace Go.Wi

/-- the pieces k, k + 1, .., n of them -/
def seg (f : Nat → List UInt8) : Nat → Nat → List UInt8
  | _, 0 => []
  | k, n + 1 => f k ++ seg f (k + 1) n
theorem seg_snoc (f : Nat → List UInt8) : ∀ k n, seg f k (n + 1) = seg f k n ++ f (k + n)
  | k, 0 => by simp [seg]
  | k, n + 1 => by
    rw [seg, seg_snoc f (k + 1) n, seg, List.append_assoc]
    congr 3
    omega
theorem seg_at (f : Nat → List UInt8) (k n : Nat) (h : k < n) : seg f k (n - k) = f k ++ seg f (k + 1) (n - (k + 1)) := by
  have : n - k = n - (k + 1) + 1 := by omega
  rw [this, seg]
theorem seg_end (f : Nat → List UInt8) (n : Nat) : seg f n (n - n) = [] := by rw [Nat.sub_self, seg]
theorem seg_len (f : Nat → List UInt8) (m : Nat) (h : ∀ j, (f j).length ≤ m) : ∀ k n, (seg f k n).length ≤ n * m
  | k, 0 => by simp [seg]
  | k, n + 1 => by
    have h1 := seg_len f m h (k + 1) n
    have h2 := h k
    rw [seg, List.length_append, Nat.succ_mul]
    omega
theorem cat_seg (s : ByteArray) (f : Nat → List UInt8) (k : Nat) : cat (cat s (seg f 0 k)) (f k) = cat s (seg f 0 (k + 1)) := by rw [cat_cat, seg_snoc, Nat.zero_add]
theorem cat_seg0 (s : ByteArray) (f : Nat → List UInt8) (k : Nat) (h : f k = []) : cat s (seg f 0 k) = cat s (seg f 0 (k + 1)) := by rw [← cat_seg, h, cat_nil]

def pN (n : Int) : List UInt8 := if 0 ≤ n ∧ n ≤ 1099511627776 then enc n.toNat else []
def pX (x : Int) : List UInt8 := if -9223372036854775808 ≤ x ∧ x ≤ 9223372036854775807 then enc (zig x) else []
def pT (t : ByteArray) : List UInt8 := if t.size ≤ 500 then enc t.size ++ t.data.toList else []
def pV (k : Nat) (n : Int) (t : ByteArray) : List UInt8 := if may k n t = true ∧ -9223372036854775808 ≤ n ∧ n ≤ 9223372036854775807 then encV k n t else []
theorem pN_yes {n : Nat} (h : n ≤ 1099511627776) : pN n = enc n := by unfold pN; rw [if_pos (by omega)]; simp
theorem pN_no {n : Int} (h : ¬ (0 ≤ n ∧ n ≤ 1099511627776)) : pN n = [] := if_neg h
theorem pX_yes {x : Int} (h1 : -9223372036854775808 ≤ x) (h2 : x ≤ 9223372036854775807) : pX x = enc (zig x) := if_pos ⟨h1, h2⟩
theorem pT_yes {t : ByteArray} (h : t.size ≤ 500) : pT t = enc t.size ++ t.data.toList := if_pos h
theorem pV_yes {k : Nat} {n : Int} {t : ByteArray} (h : may k n t = true) (h1 : -9223372036854775808 ≤ n) (h2 : n ≤ 9223372036854775807) : pV k n t = encV k n t := if_pos ⟨h, h1, h2⟩
theorem pV_no {k : Nat} {n : Int} {t : ByteArray} (h : may k n t = false) : pV k n t = [] := if_neg (by simp [h])
theorem pN_len (n : Int) : (pN n).length ≤ 10 := by
  unfold pN; split
  · exact enc_len64 _ (by omega)
  · simp
theorem pX_len (x : Int) : (pX x).length ≤ 10 := by
  unfold pX; split
  · exact enc_len64 _ (zig_lt x (by omega) (by omega))
  · simp
theorem pT_len (t : ByteArray) : (pT t).length ≤ 510 := by
  unfold pT; split
  · have := enc_len64 t.size (by omega)
    have e : t.data.toList.length = t.size := by simp
    rw [List.length_append, e]; omega
  · simp
theorem pV_len (k : Nat) (n : Int) (t : ByteArray) : (pV k n t).length ≤ 100 := by
  unfold pV; split
  · rename_i h; exact (Go.Proofs.Ytlflkmigfggdjaa.encV_le h.2.1 h.2.2 h.1).2
  · simp

theorem rd_num {n : Nat} (h : n ≤ 1099511627776) (f : Nat → List UInt8) (k m : Nat) (hk : k < m) (hf : f k = enc n) (r : List UInt8) : (Rs.mk (seg f k (m - k) ++ r) 0).num 1099511627776 = ((n, 0), ⟨seg f (k + 1) (m - (k + 1)) ++ r, 0⟩) := by
  rw [seg_at f k m hk, hf, List.append_assoc]; exact num_enc h (by omega) _
theorem rd_int {x : Int} (h1 : -9223372036854775808 ≤ x) (h2 : x ≤ 9223372036854775807) (f : Nat → List UInt8) (k m : Nat) (hk : k < m) (hf : f k = enc (zig x)) (r : List UInt8) : (Rs.mk (seg f k (m - k) ++ r) 0).int = ((x, 0), ⟨seg f (k + 1) (m - (k + 1)) ++ r, 0⟩) := by
  rw [seg_at f k m hk, hf, List.append_assoc]; exact int_enc h1 h2 _
theorem rd_text {t : ByteArray} (h : t.size ≤ 500) (f : Nat → List UInt8) (k m : Nat) (hk : k < m) (hf : f k = enc t.size ++ t.data.toList) (r : List UInt8) : (Rs.mk (seg f k (m - k) ++ r) 0).text 500 = ((t.data.toList, 0), ⟨seg f (k + 1) (m - (k + 1)) ++ r, 0⟩) := by
  have e : t.size = t.data.toList.length := by simp
  have := text_enc (m := 500) (t := t.data.toList) (by rw [← e]; omega) (by rw [← e]; omega) (seg f (k + 1) (m - (k + 1)) ++ r)
  rw [← e] at this
  rw [seg_at f k m hk, hf, List.append_assoc, List.append_assoc]; exact this
theorem rd_val {c : Nat} {n : Int} {t : ByteArray} (h1 : -9223372036854775808 ≤ n) (h2 : n ≤ 9223372036854775807) (hm : may c n t = true) (f : Nat → List UInt8) (k m : Nat) (hk : k < m) (hf : f k = encV c n t) (r : List UInt8) : (Rs.mk (seg f k (m - k) ++ r) 0).value = ((⟨c, n, t.data.toList⟩, 0), ⟨seg f (k + 1) (m - (k + 1)) ++ r, 0⟩) := by
  rw [seg_at f k m hk, hf, List.append_assoc]; exact value_enc h1 h2 hm _
theorem rd_skip (f : Nat → List UInt8) (k m : Nat) (hk : k < m) (hf : f k = []) (r : List UInt8) : seg f k (m - k) ++ r = seg f (k + 1) (m - (k + 1)) ++ r := by rw [seg_at f k m hk, hf, List.nil_append]
end Go.Wi
