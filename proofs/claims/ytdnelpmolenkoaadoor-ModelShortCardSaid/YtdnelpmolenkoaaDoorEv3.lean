/- The evaluator's plain operations are the model's. Conditions: none. -/
import Derived.Test.YtdnelpmolenkoaaDoorEv2
import Derived.Laws.Concat
import Derived.Laws.BitsAllLaws
import Derived.Laws.BitsLemmas
import Derived.Lib.Strings
namespace Go.Ev
open Go.RowKit

theorem pureVal_run {α : Type} (P : Program) (s : Sem α) : ∀ a, pureVal P s = some a → ∀ w, s.run P w = .ok a w := by
  induction s with
  | pure a => intro b h w; simp only [pureVal] at h; injection h with h; subst h; rfl
  | program k ih => intro a h w; simp only [pureVal] at h; exact ih P a h w
  | mark m k ih => intro a h w; simp only [pureVal] at h; exact ih a h w
  | _ => intros; rename_i h _; simp [pureVal] at h

theorem wrapN_eq (k : IntKind) (m : Nat) : wrapN k m = k.wrap (m : Int) := by
  unfold wrapN
  cases h : Nat.ble (Nat.succ m) (lim k) with
  | true =>
    rw [Nat.ble_eq] at h
    cases k <;> simp only [lim] at h <;> simp only [sel_true, IntKind.wrap, IntKind.bits, IntKind.signed] <;> simp <;> omega
  | false =>
    cases k <;> simp only [sel_false, IntKind.signed, sel_true] <;> first | rfl | (simp only [lim, IntKind.wrap, IntKind.bits, IntKind.signed]; simp; done)
theorem wrapF_eq (k : IntKind) (n : Int) : wrapF k n = k.wrap n := by
  cases n with
  | ofNat m => exact wrapN_eq k m
  | negSucc m =>
    show sel (k.signed && Nat.ble (Nat.succ m) (lim k)) (Int.negSucc m) (k.wrap (.negSucc m)) = _
    cases h : (k.signed && Nat.ble (Nat.succ m) (lim k)) with
    | false => rfl
    | true =>
      simp only [Bool.and_eq_true, Nat.ble_eq] at h
      obtain ⟨h1, h2⟩ := h
      cases k <;> simp only [lim, IntKind.signed] at h1 h2 <;> first | (cases h1; done) | (simp only [sel_true, IntKind.wrap, IntKind.bits, IntKind.signed]; simp; omega)
theorem addF_eq (k : IntKind) (a b : Int) : addF k a b = k.wrap (a + b) := by
  cases a with
  | ofNat m =>
    cases b with
    | ofNat n => exact wrapN_eq k (m + n)
    | negSucc n => exact wrapF_eq k _
  | negSucc m => exact wrapF_eq k _
theorem intEq_eq (a b : Int) : intEq a b = (a == b) := by
  rw [Bool.eq_iff_iff, beq_iff_eq]
  cases a <;> cases b <;> simp [intEq] <;> omega
theorem intLt_eq (a b : Int) : intLt a b = decide (a < b) := by
  rw [Bool.eq_iff_iff, decide_eq_true_iff]
  cases a with
  | ofNat m =>
    cases b with
    | ofNat n => simp [intLt, Nat.blt]; omega
    | negSucc n => simp only [intLt, Bool.false_eq_true, false_iff, Int.ofNat_eq_natCast]; omega
  | negSucc m =>
    cases b with
    | ofNat n => simp only [intLt, true_iff, Int.ofNat_eq_natCast]; omega
    | negSucc n =>
      simp only [intLt, Nat.blt, Nat.ble_eq]
      omega

theorem lim_le (k : IntKind) : lim k ≤ 2 ^ k.bits := by cases k <;> simp [lim, IntKind.bits]
theorem ofInt_small (k : IntKind) (m : Nat) (h : m < lim k) : (BitVec.ofInt k.bits (m : Int)).toNat = m := by
  rw [BitVec.ofInt_natCast, BitVec.toNat_ofNat]
  exact Nat.mod_eq_of_lt (Nat.lt_of_lt_of_le h (lim_le k))
theorem wrap_small (k : IntKind) (m : Nat) (h : m < lim k) : k.wrap (m : Int) = m := by
  rw [← wrapN_eq]
  unfold wrapN
  rw [show Nat.ble (Nat.succ m) (lim k) = true from by rw [Nat.ble_eq]; exact h]
  rfl
theorem lim_pow (k : IntKind) : ∃ j, lim k = 2 ^ j := by
  cases k
  · exact ⟨7, rfl⟩
  · exact ⟨15, rfl⟩
  · exact ⟨31, rfl⟩
  · exact ⟨63, rfl⟩
  · exact ⟨8, rfl⟩
  · exact ⟨16, rfl⟩
  · exact ⟨32, rfl⟩
  · exact ⟨64, rfl⟩

theorem intBin_run {op : BinOp} {k : IntKind} {a b : Int} {v : Value} (h : intBin op k a b = some v) (P : Program) (w : World) (t : TypeId) (hs : op ≠ .shl) (hs' : op ≠ .shr) :
    (binOp op t (.int k a) (.int k b)).run P w = .ok v w := by
  have key : ∀ (m n : Nat), Nat.ble (Nat.succ m) (lim k) = true → Nat.ble (Nat.succ n) (lim k) = true → m < lim k ∧ n < lim k := fun m n h1 h2 => by
    rw [Nat.ble_eq] at h1 h2; exact ⟨h1, h2⟩
  cases op <;> simp only [intBin] at h <;> try (exact absurd rfl hs) <;> try (exact absurd rfl hs')
  case add => injection h with h; subst h; rw [addF_eq]; simp [binOp, Op.intArith]
  case sub => injection h with h; subst h; rw [wrapF_eq]; simp [binOp, Op.intArith]
  case mul => injection h with h; subst h; rw [wrapF_eq]; simp [binOp, Op.intArith]
  case eql => injection h with h; subst h; rw [intEq_eq]; simp [binOp, Op.intCmp]
  case neq => injection h with h; subst h; rw [intEq_eq]; simp [binOp, Op.intCmp, bne]
  case lss => injection h with h; subst h; rw [intLt_eq]; simp [binOp, Op.intCmp]
  case leq => injection h with h; subst h; rw [intLt_eq]; simp [binOp, Op.intCmp]; rw [Bool.eq_iff_iff]; simp
  case gtr => injection h with h; subst h; rw [intLt_eq]; simp [binOp, Op.intCmp]
  case geq => injection h with h; subst h; rw [intLt_eq]; simp [binOp, Op.intCmp]; rw [Bool.eq_iff_iff]; simp
  case and =>
    cases a with
    | negSucc m => cases h
    | ofNat m =>
      cases b with
      | negSucc n => cases h
      | ofNat n =>
        obtain ⟨hc, h⟩ := sel_some h
        injection h with h; subst h
        simp only [Bool.and_eq_true] at hc
        obtain ⟨h1, h2⟩ := key m n hc.1 hc.2
        obtain ⟨j, hj⟩ := lim_pow k
        have hx : m &&& n < lim k := by rw [hj] at h1 h2 ⊢; exact Nat.and_lt_two_pow _ h2
        have e : k.wrap ((BitVec.ofInt k.bits (m : Int) &&& BitVec.ofInt k.bits (n : Int)).toNat : Int) = ((m &&& n : Nat) : Int) := by
          rw [BitVec.toNat_and, ofInt_small k m h1, ofInt_small k n h2, wrap_small k _ hx]
        simp only [binOp, Op.intBits, ne_eq, not_true_eq_false, if_false]
        show Result.ok (Value.int k (k.wrap ((BitVec.ofInt k.bits (m : Int) &&& BitVec.ofInt k.bits (n : Int)).toNat : Int))) w = _
        rw [e]; rfl
  case or =>
    cases a with
    | negSucc m => cases h
    | ofNat m =>
      cases b with
      | negSucc n => cases h
      | ofNat n =>
        obtain ⟨hc, h⟩ := sel_some h
        injection h with h; subst h
        simp only [Bool.and_eq_true] at hc
        obtain ⟨h1, h2⟩ := key m n hc.1 hc.2
        obtain ⟨j, hj⟩ := lim_pow k
        have hx : m ||| n < lim k := by rw [hj] at h1 h2 ⊢; exact Nat.or_lt_two_pow h1 h2
        have e : k.wrap ((BitVec.ofInt k.bits (m : Int) ||| BitVec.ofInt k.bits (n : Int)).toNat : Int) = ((m ||| n : Nat) : Int) := by
          rw [BitVec.toNat_or, ofInt_small k m h1, ofInt_small k n h2, wrap_small k _ hx]
        simp only [binOp, Op.intBits, ne_eq, not_true_eq_false, if_false]
        show Result.ok (Value.int k (k.wrap ((BitVec.ofInt k.bits (m : Int) ||| BitVec.ofInt k.bits (n : Int)).toNat : Int))) w = _
        rw [e]; rfl
  case xor =>
    cases a with
    | negSucc m => cases h
    | ofNat m =>
      cases b with
      | negSucc n => cases h
      | ofNat n =>
        obtain ⟨hc, h⟩ := sel_some h
        injection h with h; subst h
        simp only [Bool.and_eq_true] at hc
        obtain ⟨h1, h2⟩ := key m n hc.1 hc.2
        obtain ⟨j, hj⟩ := lim_pow k
        have hx : m ^^^ n < lim k := by rw [hj] at h1 h2 ⊢; exact Nat.xor_lt_two_pow h1 h2
        have e : k.wrap ((BitVec.ofInt k.bits (m : Int) ^^^ BitVec.ofInt k.bits (n : Int)).toNat : Int) = ((m ^^^ n : Nat) : Int) := by
          rw [BitVec.toNat_xor, ofInt_small k m h1, ofInt_small k n h2, wrap_small k _ hx]
        simp only [binOp, Op.intBits, ne_eq, not_true_eq_false, if_false]
        show Result.ok (Value.int k (k.wrap ((BitVec.ofInt k.bits (m : Int) ^^^ BitVec.ofInt k.bits (n : Int)).toNat : Int))) w = _
        rw [e]; rfl
  case quo =>
    cases a with
    | negSucc m => cases h
    | ofNat m =>
      cases b with
      | negSucc n => cases h
      | ofNat n =>
        cases hc : Nat.beq n 0 with
        | true => simp only [hc] at h; cases h
        | false =>
          simp only [hc] at h
          injection h with h; subst h
          have hn : ¬ (n : Int) = 0 := by
            intro e
            have : n = 0 := by omega
            subst this
            cases hc
          rw [wrapF_eq]
          have e : (Int.ofNat m).tdiv (Int.ofNat n) = Int.ofNat (Nat.div m n) := rfl
          simp only [binOp, Op.intDiv, ne_eq, not_true_eq_false, if_false, Int.ofNat_eq_natCast, hn]
          rfl
  case rem =>
    cases a with
    | negSucc m => cases h
    | ofNat m =>
      cases b with
      | negSucc n => cases h
      | ofNat n =>
        cases hc : Nat.beq n 0 with
        | true => simp only [hc] at h; cases h
        | false =>
          simp only [hc] at h
          injection h with h; subst h
          have hn : ¬ (n : Int) = 0 := by
            intro e
            have : n = 0 := by omega
            subst this
            cases hc
          simp only [binOp, Op.intDiv, ne_eq, not_true_eq_false, if_false, Int.ofNat_eq_natCast, hn]
          rfl
  all_goals cases h

theorem shiftF_run {op : BinOp} {k k' : IntKind} {a b : Int} {v : Value} (h : shiftF op k a b = some v) (P : Program) (w : World) (t : TypeId) :
    (binOp op t (.int k a) (.int k' b)).run P w = .ok v w := by
  cases a with
  | negSucc m => cases op <;> cases h
  | ofNat m =>
    cases b with
    | negSucc n => cases op <;> cases h
    | ofNat n =>
      cases op <;> first | (cases h; done) | skip
      case shl =>
        obtain ⟨hc, h⟩ := sel_some h
        injection h with h; subst h
        rw [Nat.ble_eq] at hc
        have hm : min n k.bits = n := by omega
        have hn : ¬ (Int.ofNat n < 0) := by simp
        have e : Int.ofNat m * 2 ^ n = Int.ofNat (Nat.shiftLeft m n) := by
          show _ = ((m <<< n : Nat) : Int)
          rw [Nat.shiftLeft_eq]
          simp
        rw [wrapF_eq]
        simp only [binOp, Op.shift, hn, if_false]
        show Result.ok (Value.int k (k.wrap (Int.ofNat m * 2 ^ min (Int.ofNat n).toNat k.bits))) w = _
        rw [show (Int.ofNat n).toNat = n from rfl, hm, e]
      case shr =>
        obtain ⟨hc, h⟩ := sel_some h
        injection h with h; subst h
        rw [Nat.ble_eq] at hc
        have hm : min n k.bits = n := by omega
        have hn : ¬ (Int.ofNat n < 0) := by simp
        have e : (Int.ofNat m).fdiv (2 ^ n) = Int.ofNat (Nat.shiftRight m n) := by
          show _ = ((m >>> n : Nat) : Int)
          rw [Nat.shiftRight_eq_div_pow, Int.fdiv_eq_ediv_of_nonneg _ (by exact_mod_cast Nat.zero_le (2 ^ n))]
          simp
        simp only [binOp, Op.shift, hn, if_false]
        show Result.ok (Value.int k ((Int.ofNat m).fdiv (2 ^ min (Int.ofNat n).toNat k.bits))) w = _
        rw [show (Int.ofNat n).toNat = n from rfl, hm, e]

theorem beqB_eq : ∀ (x y : List UInt8), beqB x y = (x == y)
  | [], [] => rfl
  | [], _ :: _ => rfl
  | _ :: _, [] => rfl
  | a :: x, b :: y => by
    show sel (Nat.beq a.toNat b.toNat) (beqB x y) false = _
    rw [beqB_eq x y]
    cases h : Nat.beq a.toNat b.toNat with
    | true =>
      rw [Nat.beq_eq] at h
      have : a = b := UInt8.toNat_inj.1 h
      subst this
      simp
    | false =>
      have : a ≠ b := fun e => by subst e; rw [← Bool.not_eq_true, Nat.beq_eq] at h; exact h rfl
      simp [this]

theorem eta_bytes (s : ByteArray) : (⟨⟨s.data.toList⟩⟩ : ByteArray) = s := rfl
theorem strBin_run {op : BinOp} {x y : ByteArray} {v : Value} (h : strBin op x y = some v) (P : Program) (w : World) : (Op.stringOp op x y).run P w = .ok v w := by
  cases op <;> first | (cases h; done) | skip
  case eql =>
    injection h with h; subst h
    rw [beqB_eq]
    simp only [Op.stringOp, Lib.toList_data]
    rfl
  case neq =>
    injection h with h; subst h
    rw [beqB_eq]
    simp only [Op.stringOp, Lib.toList_data]
    rfl
  case add =>
    obtain ⟨hc, h⟩ := sel_some h
    injection h with h; subst h
    rw [Nat.ble_eq] at hc
    rw [run_string_add_sum w x y (by rw [Lib.size_eq, Lib.size_eq]; omega)]
    congr 2

theorem eqGuard_int (op : BinOp) (t : TypeId) (xo yo : Operand) (k k' : IntKind) (a b : Int) : eqGuard op t xo yo (.int k a) (.int k' b) = pure () := by
  cases op <;> rfl
theorem eqGuard_string (op : BinOp) (t : TypeId) (xo yo : Operand) (a b : ByteArray) : eqGuard op t xo yo (.string a) (.string b) = pure () := by
  cases op <;> rfl
theorem quick_run {op : BinOp} {x y v : Value} (h : quick op x y = some v) (P : Program) (w : World) (t : TypeId) (xo yo : Operand) :
    (eqGuard op t xo yo x y >>= fun _ => binOp op t x y).run P w = .ok v w := by
  unfold quick at h
  split at h
  · split at h
    · rename_i k a _ k' b
      rw [eqGuard_int]
      show (binOp op t (.int k a) (.int k' b)).run P w = _
      cases op with
      | shl => exact shiftF_run h P w t
      | shr => exact shiftF_run h P w t
      | _ =>
        obtain ⟨hk, h2⟩ := sel_some h
        have := kEq_eq hk
        subst this
        exact intBin_run h2 P w t (by simp) (by simp)
    · cases h
  · split at h
    · rename_i a _ b
      rw [eqGuard_string]
      show (binOp op t (.string a) (.string b)).run P w = _
      rw [← strBin_run h P w]
      cases op <;> rfl
    · cases h
  · cases h
end Go.Ev
