/- Calls that proved contracts answer, for the evaluator: a number's and a text's bytes, the sum's bytes, a row of letters. Conditions: none. -/
import Derived.Test.YtblebjgjomamdaaDoorOvB
import Derived.Test.YtblebjgjomamdaaDoorCs
namespace Go.Wi
/-- a number's bytes, by steps -/
noncomputable def encK (k : Nat) : Nat → List UInt8 := Nat.rec (motive := fun _ => Nat → List UInt8) (fun _ => []) (fun _ ih n => Bool.rec (motive := fun _ => List UInt8) (UInt8.ofNat (Nat.add (Nat.mod n 128) 128) :: ih (Nat.div n 128)) [UInt8.ofNat n] (Nat.blt n 128)) k
theorem encK_eq : ∀ (k n : Nat), n < 128 ^ (k + 1) → encK (k + 1) n = enc n
  | 0, n, h => by
    have h' : n < 128 := by simpa using h
    have : Nat.blt n 128 = true := by simpa using h'
    show Bool.rec (motive := fun _ => List UInt8) _ [UInt8.ofNat n] (Nat.blt n 128) = _
    rw [this, enc_small h']
  | k + 1, n, h => by
    by_cases h' : n < 128
    · have : Nat.blt n 128 = true := by simpa using h'
      show Bool.rec (motive := fun _ => List UInt8) _ [UInt8.ofNat n] (Nat.blt n 128) = _
      rw [this, enc_small h']
    · have : Nat.blt n 128 = false := by rw [← Bool.not_eq_true]; simpa using h'
      show Bool.rec (motive := fun _ => List UInt8) (UInt8.ofNat (n % 128 + 128) :: encK (k + 1) (n / 128)) _ (Nat.blt n 128) = _
      rw [this, enc_more (by omega)]
      show _ :: _ = _
      rw [encK_eq k (n / 128) (by rw [Nat.div_lt_iff_lt_mul (by decide), ← Nat.pow_succ]; exact h)]
theorem encK64 {n : Nat} (h : n < 18446744073709551616) : encK 10 n = enc n := encK_eq 9 n (Nat.lt_of_lt_of_le h (by decide))
/-- bytes, reckoned out -/
noncomputable def frc {β : Type} (l : List UInt8) : (List UInt8 → β) → β := List.rec (motive := fun _ => (List UInt8 → β) → β) (fun k => k []) (fun x _ ih k => Ov.forceN x.toNat fun n => ih fun r => k (UInt8.ofNat n :: r)) l
theorem forceN_eq {β : Type} (n : Nat) (k : Nat → β) : Ov.forceN n k = k n := by cases n <;> rfl
theorem frc_eq {β : Type} : ∀ (l : List UInt8) (k : List UInt8 → β), frc l k = k l
  | [], k => rfl
  | x :: l, k => by
    show Ov.forceN x.toNat (fun n => frc l fun r => k (UInt8.ofNat n :: r)) = _
    rw [forceN_eq, frc_eq l]
    simp
/-- a sum's two numbers, by steps -/
noncomputable def adK {β : Type} (l : List UInt8) : Nat → Nat → (Nat → Nat → β) → β := List.rec (motive := fun _ => Nat → Nat → (Nat → Nat → β) → β) (fun a b k => k a b)
  (fun x _ ih a b k => Ov.forceN (Nat.mod (Nat.add a x.toNat) 65521) fun a' => Ov.forceN (Nat.mod (Nat.add b a') 65521) fun b' => ih a' b' k) l
theorem adK_eq {β : Type} : ∀ (l : List UInt8) (a b : Nat) (k : Nat → Nat → β), adK l a b k = k (adl a b l).1 (adl a b l).2
  | [], a, b, k => rfl
  | x :: l, a, b, k => by
    show Ov.forceN ((a + x.toNat) % 65521) (fun a' => Ov.forceN ((b + a') % 65521) fun b' => adK l a' b' k) = _
    rw [forceN_eq, forceN_eq, adK_eq l]
    rfl
noncomputable def sealK (l : List UInt8) : List UInt8 := adK l 1 0 fun a b => Ov.forceN (Nat.add (Nat.mul b 65536) a) fun x =>
  [UInt8.ofNat (Nat.mod x 256), UInt8.ofNat (Nat.mod (Nat.div x 256) 256), UInt8.ofNat (Nat.mod (Nat.div x 65536) 256), UInt8.ofNat (Nat.mod (Nat.div x 16777216) 256)]
theorem sealK_eq (l : List UInt8) : sealK l = sealL l := by
  unfold sealK
  rw [adK_eq, forceN_eq]
  rfl
/-- a row of letters -/
noncomputable def xs (n : Nat) : List UInt8 := Nat.rec (motive := fun _ => List UInt8) [] (fun _ ih => UInt8.ofNat 120 :: ih) n
theorem xs_len (n : Nat) : (xs n).length = n := by
  induction n with
  | zero => rfl
  | succ n ih => show (_ :: xs n).length = _; simp [ih]
theorem xs_snoc (n : Nat) : xs n ++ [120] = xs (n + 1) := by
  induction n with
  | zero => rfl
  | succ n ih => show (UInt8.ofNat 120 :: xs n) ++ [120] = UInt8.ofNat 120 :: xs (n + 1); rw [List.cons_append, ih]
end Go.Wi
namespace Go.Proofs.YtblebjgjomamdaaDoor
open Go.RowKit Go.Ow Go.Wi

set_option maxHeartbeats 1000000 in
theorem text_xs (n : Nat) (w : World) (hn : n ≤ 10000) :
    Calls Tryd.prog 10 #[.int .i64 n] w fun e w' => e = .returned (.string ⟨⟨xs n⟩⟩) ∧ Below w.heap.size w w' := by
  go_enter Tryd.func10, Tryd.ntmps10
  go_wp2
  go_loop [3, 4] (fun S I => ∃ i : Nat, i ≤ n ∧ S = .string ⟨⟨xs i⟩⟩ ∧ I = .int .i64 i) (fun _ I => n - (intOf I).toNat)
  case atStart => exact ⟨0, Nat.zero_le _, rfl, rfl⟩
  case round =>
    obtain ⟨i, hi, rfl, rfl⟩ := hrel
    have hz : (⟨⟨xs i⟩⟩ : ByteArray).size = i := by show (xs i).length = i; exact xs_len i
    by_cases hlt : i < n
    · go_wp2
      go_round
      case rel => exact ⟨i + 1, by omega, by rw [← xs_snoc, append_cat]; simp [cat], by go_num⟩
      case measure => simp [intOf]; omega
    · obtain rfl : i = n := by omega
      go_wp2
      go_ret
      exact ⟨rfl, Below.refl _ _⟩
/-- the oracle -/
noncomputable def orc (f : FuncId) (args : List Ov.AV) : Option Value := match args with
  | [.lit (.string s), .lit (.int .u64 (.ofNat m))] => Ov.sel (Nat.beq f 73 && (Nat.ble s.data.toList.length 1000000 && Nat.blt m 18446744073709551616)) (frc (s.data.toList ++ encK 10 m) fun l => some (.string ⟨⟨l⟩⟩)) none
  | [.lit (.string s), .lit (.string t)] => Ov.sel (Nat.beq f 36 && (Nat.ble s.data.toList.length 900000 && Nat.ble t.data.toList.length 90000)) (frc (s.data.toList ++ (encK 10 t.data.toList.length ++ t.data.toList)) fun l => some (.string ⟨⟨l⟩⟩)) none
  | [.lit (.string s)] => Ov.sel (Nat.beq f 20 && Nat.ble s.data.toList.length 1000000) (some (.string ⟨⟨sealK s.data.toList⟩⟩)) none
  | [.lit (.int .i64 (.ofNat n))] => Ov.sel (Nat.beq f 10 && Nat.ble n 10000) (some (.string ⟨⟨xs n⟩⟩)) none
  | _ => none
theorem enter_of {P : Program} {f : FuncId} {fn : Func} (hfn : P.funcs[f]? = some fn) (hb : fn.body.isSome = true) (hname : (fn.name == "runtime.NumGoroutine") = false) (args : Array Value) (w : World) : (callFunc f args).run P w = .ok (.enter f args) w := by
  obtain ⟨c, hbody⟩ := Option.isSome_iff_exists.1 hb
  simp [callFunc, hfn, hbody]
  simpa using hname
theorem lits1 {γ : Ov.G} {a : Value} {c : List Value} (h : Ov.Rs γ [.lit a] c) : c = [a] := by
  obtain ⟨c1, r1, rfl, h1, h2⟩ := h.cons_inv
  rw [h2.nil_inv, Ov.R_lit h1]
theorem lits2 {γ : Ov.G} {a b : Value} {c : List Value} (h : Ov.Rs γ [.lit a, .lit b] c) : c = [a, b] := by
  obtain ⟨c1, r1, rfl, h1, h2⟩ := h.cons_inv
  rw [lits1 h2, Ov.R_lit h1]
theorem orc_ok : Ov.OrcOK Tryd.prog orc := by
  intro f args v h γ cargs hR
  unfold orc at h
  split at h
  · rename_i s m
    obtain ⟨hc, hv⟩ := Ov.sel_some h
    rw [frc_eq] at hv
    simp only [Bool.and_eq_true, Nat.beq_eq, Nat.ble_eq, Nat.blt_eq] at hc
    obtain ⟨rfl, h1, h2⟩ := hc
    injection hv with hv
    subst hv
    rw [lits2 hR]
    refine ⟨fun w => ?_, fun w => enter_of Tryd.func73 rfl rfl _ w⟩
    rw [encK64 h2, show (⟨⟨s.data.toList ++ enc m⟩⟩ : ByteArray) = cat s (enc m) from mk_cat s _]
    exact Wr.put_any s m w (by simpa using h1) h2
  · rename_i s t
    obtain ⟨hc, hv⟩ := Ov.sel_some h
    rw [frc_eq] at hv
    simp only [Bool.and_eq_true, Nat.beq_eq, Nat.ble_eq] at hc
    obtain ⟨rfl, h1, h2⟩ := hc
    injection hv with hv
    subst hv
    rw [lits2 hR]
    have e1 : t.data.toList.length = t.size := by simp
    refine ⟨fun w => ?_, fun w => enter_of Tryd.func36 rfl rfl _ w⟩
    rw [encK64 (by omega), e1, show (⟨⟨s.data.toList ++ (enc t.size ++ t.data.toList)⟩⟩ : ByteArray) = cat s (enc t.size ++ t.data.toList) from mk_cat s _]
    exact Wr.text_any s t w (by simpa using h1) (by simpa using h2)
  · rename_i s
    obtain ⟨hc, hv⟩ := Ov.sel_some h
    simp only [Bool.and_eq_true, Nat.beq_eq, Nat.ble_eq] at hc
    obtain ⟨rfl, h1⟩ := hc
    injection hv with hv
    subst hv
    rw [lits1 hR, sealK_eq]
    exact ⟨fun w => seal_any s w (by simpa using h1), fun w => enter_of Tryd.func20 rfl rfl _ w⟩
  · rename_i n
    obtain ⟨hc, hv⟩ := Ov.sel_some h
    simp only [Bool.and_eq_true, Nat.beq_eq, Nat.ble_eq] at hc
    obtain ⟨rfl, h1⟩ := hc
    injection hv with hv
    subst hv
    rw [lits1 hR]
    exact ⟨fun w => text_xs n w h1, fun w => enter_of Tryd.func10 rfl rfl _ w⟩
  · cases h
end Go.Proofs.YtblebjgjomamdaaDoor
