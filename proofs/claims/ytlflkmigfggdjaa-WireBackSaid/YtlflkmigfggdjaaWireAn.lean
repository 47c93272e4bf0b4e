/- callboardlaw02.WireAnew returns true at every input. Conditions: none but that lengths are lengths. -/
import Derived.Test.YtlflkmigfggdjaaWireSh
import Derived.Test.YtlflkmigfggdjaaWireMath4
namespace Go.Proofs.Ytlflkmigfggdjaa
open Go.RowKit Go.Ow Go.Wi

theorem RdW.kept {w w' : World} {b c : Nat} {r : Rs} (h : RdW w b r) (k : But c w w') (hb : b ≠ c) : RdW w' b r := Two.kept h k hb
theorem RdW.keptB {w w' : World} {b B : Nat} {r : Rs} (h : RdW w b r) (k : Below B w w') (hb : b < B) : RdW w' b r := Two.keptB h k hb
theorem RdW.lt {w : World} {b : Nat} {r : Rs} (h : RdW w b r) : b < w.heap.size := Two.lt h
theorem RdW.al {w : World} {b : Nat} {r : Rs} (h : RdW w b r) (o : Obj) : RdW (w.alloc o) b r := Two.al h o
theorem RdW.below {w w' : World} {b : Nat} {r : Rs} (h : RdW w b r) (k : Below w.heap.size w w') : RdW w' b r := h.keptB k h.lt
theorem Three.below {w w' : World} {b : Nat} {x y z : Value} (h : Three w b x y z) (k : Below w.heap.size w w') : Three w' b x y z := by
  unfold Three
  rw [k.block b h.lt]
  exact h
theorem str_self (s : ByteArray) : s = ⟨s.data.toList.toArray⟩ := eq_of_list rfl

theorem lost_any (s : ByteArray) (b : Nat) (r : Rs) (w : World) (hr : RdW w b r) (hl : r.l.length ≤ s.size) :
    Calls Try.prog 26 #[.string s, ptr b] w fun e w' => e = .returned (.bool false) ∧ w = w' := by
  have q1 : decide ((r.l.length : Int) < 0) = false := by simp
  have q2 : decide (s.size < r.l.length) = false := by simp; omega
  go_enter Try.func26, Try.ntmps26
  go_wp2_with (go_at_call 27; refine (leftW_any b r w hr).mono ?_; rintro e w' ⟨rfl, rfl⟩)
  go_ret
  exact ⟨rfl, rfl⟩

abbrev ob (s : ByteArray) : Obj := .cells #[.string s, .int .i64 0] 67
abbrev al4 (w : World) (s : ByteArray) : World := (((w.alloc (ob s)).alloc (ob s)).alloc (ob s)).alloc (ob s)
theorem four (w : World) (s : ByteArray) : RdW (al4 w s) w.heap.size ⟨s.data.toList, 0⟩ ∧ RdW (al4 w s) (w.heap.size + 1) ⟨s.data.toList, 0⟩ ∧ RdW (al4 w s) (w.heap.size + 1 + 1) ⟨s.data.toList, 0⟩ ∧ RdW (al4 w s) (w.heap.size + 1 + 1 + 1) ⟨s.data.toList, 0⟩ := by
  have h0 := rd_of w s _ (str_self s)
  have h1 := rd_of (w.alloc (ob s)) s _ (str_self s)
  have h2 := rd_of ((w.alloc (ob s)).alloc (ob s)) s _ (str_self s)
  have h3 := rd_of (((w.alloc (ob s)).alloc (ob s)).alloc (ob s)) s _ (str_self s)
  have e1 : (w.alloc (ob s)).heap.size = w.heap.size + 1 := by simp
  have e2 : ((w.alloc (ob s)).alloc (ob s)).heap.size = w.heap.size + 1 + 1 := by simp
  have e3 : (((w.alloc (ob s)).alloc (ob s)).alloc (ob s)).heap.size = w.heap.size + 1 + 1 + 1 := by simp
  rw [e1] at h1
  rw [e2] at h2
  rw [e3] at h3
  exact ⟨((h0.al _).al _).al _, (h1.al _).al _, h2.al _, h3⟩
theorem below_al4 (w : World) (s : ByteArray) : Below w.heap.size w (al4 w s) := ((((Below.refl _ _).alloc (Nat.le_refl _) _).alloc (by simp) _).alloc (by simp; omega) _).alloc (by simp; omega) _

theorem back_of (s : ByteArray) (p r : List UInt8) (h : s.data.toList = p ++ r) : cat ⟨#[]⟩ p = s.extract 0 (s.size - r.length) := by
  have e : s.size = p.length + r.length := by
    have := congrArg List.length h
    simpa using this
  rw [str_self s, ext_take]
  apply eq_of_list
  rw [cat0, h, size_mk]
  simp
theorem nb {n G : Nat} {s : ByteArray} (h : cat ⟨#[]⟩ (enc n) = s.extract 0 G) (hn : n ≤ 1099511627776) (w : World) :
    Calls Try.prog 11 #[.string ⟨#[]⟩, .int .i64 n] w fun e w' => e = .returned (.tuple #[.string (s.extract 0 G), .int .i64 0]) ∧ Below w.heap.size w w' := by
  rw [← h]; exact num_yes ⟨#[]⟩ n w (by decide) hn
theorem ib {x : Int} {G : Nat} {s : ByteArray} (h : cat ⟨#[]⟩ (enc (zig x)) = s.extract 0 G) (h1 : -9223372036854775808 ≤ x) (h2 : x ≤ 9223372036854775807) (w : World) :
    Calls Try.prog 15 #[.string ⟨#[]⟩, .int .i64 x] w fun e w' => e = .returned (.string (s.extract 0 G)) ∧ Below w.heap.size w w' := by
  rw [← h]; exact int_any ⟨#[]⟩ x w (by decide) h1 h2
theorem tb {t : List UInt8} {G : Nat} {s : ByteArray} (h : cat ⟨#[]⟩ (enc t.length ++ t) = s.extract 0 G) (ht : t.length ≤ 90000) (w : World) :
    Calls Try.prog 17 #[.string ⟨#[]⟩, str t] w fun e w' => e = .returned (.string (s.extract 0 G)) ∧ Below w.heap.size w w' := by
  rw [← h]
  have := text_any ⟨#[]⟩ ⟨t.toArray⟩ w (by decide) (by rw [size_mk]; exact ht)
  rw [size_mk] at this
  exact this
theorem vb {v : Vl} {G : Nat} {s : ByteArray} (h : cat ⟨#[]⟩ (encV v.k v.n ⟨v.t.toArray⟩) = s.extract 0 G) (h1 : -9223372036854775808 ≤ v.n) (h2 : v.n ≤ 9223372036854775807) (hm : may v.k v.n ⟨v.t.toArray⟩ = true) (w : World) :
    Calls Try.prog 13 #[.string ⟨#[]⟩, valOf v] w fun e w' => e = .returned (.tuple #[.string (s.extract 0 G), .int .i64 0]) ∧ Below w.heap.size w w' := by
  rw [← h]; exact value_yes ⟨#[]⟩ v.k v.n ⟨v.t.toArray⟩ w (by decide) h1 h2 hm
theorem valueW_at (b : Nat) (r r2 : Rs) (v : Vl) (c : Nat) (w : World) (hr : RdW w b r) (hl : r.l.length ≤ 1000000) (h : r.value = ((v, c), r2)) :
    Calls Try.prog 24 #[ptr b] w fun e w' => e = .returned (.tuple #[valOf v, .int .i64 c]) ∧ But b w w' ∧ RdW w' b r2 := by
  have := valueW_any b r w hr hl
  rw [h] at this
  exact this
theorem valueW_er (b : Nat) (r : Rs) (c : Nat) (w : World) (hr : RdW w b r) (hl : r.l.length ≤ 1000000) (h : r.value = ((Vl.zero, c), ⟨[], c⟩)) :
    Calls Try.prog 24 #[ptr b] w fun e w' => e = .returned (.tuple #[val0, .int .i64 c]) ∧ But b w w' ∧ RdW w' b ⟨[], c⟩ := by
  have := valueW_any b r w hr hl
  rw [h] at this
  exact this
theorem but_below {w w' u : World} {b : Nat} (h : Below w.heap.size w u) (k : But b u w') (hb : w.heap.size ≤ b) (hb' : b < u.heap.size) : Below w.heap.size w w' := h.trans (k.below hb (by omega))

set_option maxRecDepth 100000 in
set_option maxHeartbeats 4000000 in
theorem anew_0000 (s : ByteArray) (w : World) (hs : s.size ≤ 2000) (n : Nat) (x : Int) (t : List UInt8) (e1 e2 e3 e4 : Nat) (ra rb rc : Rs)
    (hA : (Rs.mk s.data.toList 0).num 1099511627776 = ((n, e1), ra)) (hB : (Rs.mk s.data.toList 0).int = ((x, e2), rb)) (hC : (Rs.mk s.data.toList 0).text s.size = ((t, e3), rc)) (hD : (Rs.mk s.data.toList 0).value = ((Vl.zero, e4), ⟨[], e4⟩))
    (he1 : e1 ≠ 0) (he2 : e2 ≠ 0) (he3 : e3 ≠ 0) (he4 : e4 ≠ 0) :
    Calls Try.prog 6 #[.string s] w fun e w' => e = .returned (.bool true) ∧ Below w.heap.size w w' := by
  have qe1 : ((e1 : Int) == 0) = false := by rw [beq_eq_false_iff_ne]; omega
  have pe1 : ((e1 : Int) != 0) = true := by rw [bne_iff_ne]; omega
  have qe2 : ((e2 : Int) == 0) = false := by rw [beq_eq_false_iff_ne]; omega
  have pe2 : ((e2 : Int) != 0) = true := by rw [bne_iff_ne]; omega
  have qe3 : ((e3 : Int) == 0) = false := by rw [beq_eq_false_iff_ne]; omega
  have pe3 : ((e3 : Int) != 0) = true := by rw [bne_iff_ne]; omega
  have qe4 : ((e4 : Int) == 0) = false := by rw [beq_eq_false_iff_ne]; omega
  have pe4 : ((e4 : Int) != 0) = true := by rw [bne_iff_ne]; omega
  have la : ra.l.length ≤ s.size := by have := num_len 1099511627776 ⟨s.data.toList, 0⟩; rw [hA] at this; simpa using this
  have lb : rb.l.length ≤ s.size := by have := int_len ⟨s.data.toList, 0⟩; rw [hB] at this; simpa using this
  have lc : rc.l.length ≤ s.size := by have := text_len s.size ⟨s.data.toList, 0⟩; rw [hC] at this; simpa using this
  have hL : (Rs.mk s.data.toList 0).l.length ≤ 1000000 := by simp; omega
  have HL := Lib.hid hL
  have HA := Lib.hid hA
  have HB := Lib.hid hB
  have HC := Lib.hid hC
  have HD := Lib.hid hD
  clear hA hB hC hD hL  he1 he2 he3 he4
  go_enter Try.func6, Try.ntmps6
  go_wp2_with (first
    | (go_at_call 10; refine (awake_true _).mono ?_; rintro e w1 ⟨rfl, hZ⟩)
    | (go_at_call 21; refine (open_any _ _).mono ?_; rintro e w2 ⟨rfl, rfl⟩)
    | (go_at_call 25; refine (numW_at w1.heap.size _ ra n e1 (al4 w1 s) (four w1 s).1 HL.out HA.out).mono ?_; rintro e wa ⟨rfl, ba, A0⟩; have sa := ba.size; simp at sa)
    | (go_at_call 22; refine (intW_at (w1.heap.size + 1) _ rb x e2 wa ((four w1 s).2.1.kept ba (by omega)) HL.out HB.out).mono ?_; rintro e wb ⟨rfl, bb, A1⟩; replace A0 := A0.kept bb (by omega); have sb := bb.size)
    | (go_at_call 23; refine (textW_at (w1.heap.size + 1 + 1) s.size _ rc t e3 wb (((four w1 s).2.2.1.kept ba (by omega)).kept bb (by omega)) HL.out HC.out).mono ?_; rintro e wc ⟨rfl, bc, A2⟩; replace A0 := A0.kept bc (by omega); replace A1 := A1.kept bc (by omega); have sc := bc.size)
    | (go_at_call 24; refine (valueW_er (w1.heap.size + 1 + 1 + 1) _ e4 wc ((((four w1 s).2.2.2.kept ba (by omega)).kept bb (by omega)).kept bc (by omega)) HL.out HD.out).mono ?_; rintro e wd ⟨rfl, bd, A3⟩; replace hZ := Below.step hZ (but_below (but_below (but_below (but_below (below_al4 w1 s) ba (by omega) (by simp; omega)) bb (by omega) (by omega)) bc (by omega) (by omega)) bd (by omega) (by omega)); replace hZ := hZ.alloc hZ.size (.cells #[.int .u8 0, .int .i64 0, .string ⟨#[]⟩] 23); replace A0 := (A0.kept bd (by omega)).al (.cells #[.int .u8 0, .int .i64 0, .string ⟨#[]⟩] 23); replace A1 := (A1.kept bd (by omega)).al (.cells #[.int .u8 0, .int .i64 0, .string ⟨#[]⟩] 23); replace A2 := (A2.kept bd (by omega)).al (.cells #[.int .u8 0, .int .i64 0, .string ⟨#[]⟩] 23); replace A3 := A3.al (.cells #[.int .u8 0, .int .i64 0, .string ⟨#[]⟩] 23); have T3 := three_new wd (.int .u8 0) (.int .i64 0) (.string ⟨#[]⟩); clear ba bb bc bd)
    | (go_at_call 26; (with_reducible refine (lost_any s _ _ _ A0 la).mono ?_); rintro e w2 ⟨rfl, rfl⟩)
    | (go_at_call 26; (with_reducible refine (lost_any s _ _ _ A1 lb).mono ?_); rintro e w2 ⟨rfl, rfl⟩)
    | (go_at_call 26; (with_reducible refine (lost_any s _ _ _ A2 lc).mono ?_); rintro e w2 ⟨rfl, rfl⟩)
    | (go_at_call 26; (with_reducible refine (lost_any s _ _ _ A3 (Nat.zero_le _)).mono ?_); rintro e w2 ⟨rfl, rfl⟩)
    | (go_at_call 27; (with_reducible refine (leftW_any _ _ _ A0).mono ?_); rintro e w2 ⟨rfl, rfl⟩)
    | (go_at_call 27; (with_reducible refine (leftW_any _ _ _ A1).mono ?_); rintro e w2 ⟨rfl, rfl⟩)
    | (go_at_call 27; (with_reducible refine (leftW_any _ _ _ A2).mono ?_); rintro e w2 ⟨rfl, rfl⟩)
    | (go_at_call 27; (with_reducible refine (leftW_any _ _ _ A3).mono ?_); rintro e w2 ⟨rfl, rfl⟩))
  go_ret
  exact ⟨rfl, hZ⟩
set_option maxRecDepth 100000 in
set_option maxHeartbeats 4000000 in
theorem anew_0001 (s : ByteArray) (w : World) (hs : s.size ≤ 2000) (n : Nat) (x : Int) (t : List UInt8) (v : Vl) (e1 e2 e3 : Nat) (ra rb rc rd : Rs)
    (hA : (Rs.mk s.data.toList 0).num 1099511627776 = ((n, e1), ra)) (hB : (Rs.mk s.data.toList 0).int = ((x, e2), rb)) (hC : (Rs.mk s.data.toList 0).text s.size = ((t, e3), rc)) (hD : (Rs.mk s.data.toList 0).value = ((v, 0), rd))
    (he1 : e1 ≠ 0) (he2 : e2 ≠ 0) (he3 : e3 ≠ 0) :
    Calls Try.prog 6 #[.string s] w fun e w' => e = .returned (.bool true) ∧ Below w.heap.size w w' := by
  have qe1 : ((e1 : Int) == 0) = false := by rw [beq_eq_false_iff_ne]; omega
  have pe1 : ((e1 : Int) != 0) = true := by rw [bne_iff_ne]; omega
  have qe2 : ((e2 : Int) == 0) = false := by rw [beq_eq_false_iff_ne]; omega
  have pe2 : ((e2 : Int) != 0) = true := by rw [bne_iff_ne]; omega
  have qe3 : ((e3 : Int) == 0) = false := by rw [beq_eq_false_iff_ne]; omega
  have pe3 : ((e3 : Int) != 0) = true := by rw [bne_iff_ne]; omega
  have la : ra.l.length ≤ s.size := by have := num_len 1099511627776 ⟨s.data.toList, 0⟩; rw [hA] at this; simpa using this
  have lb : rb.l.length ≤ s.size := by have := int_len ⟨s.data.toList, 0⟩; rw [hB] at this; simpa using this
  have lc : rc.l.length ≤ s.size := by have := text_len s.size ⟨s.data.toList, 0⟩; rw [hC] at this; simpa using this
  have ld : rd.l.length ≤ s.size := by have := value_len ⟨s.data.toList, 0⟩; rw [hD] at this; simpa using this
  obtain ⟨G4, g4⟩ : ∃ G, G = s.size - rd.l.length := ⟨_, rfl⟩
  have D4 : (s.size : Int) - (rd.l.length : Int) = (G4 : Int) := by omega
  have J4 : G4 ≤ s.size := by omega
  have K4 := Lib.hid (back_of s _ _ (value_inv hD).1)
  rw [← g4] at K4
  have hv := (value_inv hD).2
  have HV := Lib.hid hv
  clear hv
  have hL : (Rs.mk s.data.toList 0).l.length ≤ 1000000 := by simp; omega
  have HL := Lib.hid hL
  have HA := Lib.hid hA
  have HB := Lib.hid hB
  have HC := Lib.hid hC
  have HD := Lib.hid hD
  clear hA hB hC hD hL g4 he1 he2 he3
  go_enter Try.func6, Try.ntmps6
  go_wp2_with (first
    | (go_at_call 10; refine (awake_true _).mono ?_; rintro e w1 ⟨rfl, hZ⟩)
    | (go_at_call 21; refine (open_any _ _).mono ?_; rintro e w2 ⟨rfl, rfl⟩)
    | (go_at_call 25; refine (numW_at w1.heap.size _ ra n e1 (al4 w1 s) (four w1 s).1 HL.out HA.out).mono ?_; rintro e wa ⟨rfl, ba, A0⟩; have sa := ba.size; simp at sa)
    | (go_at_call 22; refine (intW_at (w1.heap.size + 1) _ rb x e2 wa ((four w1 s).2.1.kept ba (by omega)) HL.out HB.out).mono ?_; rintro e wb ⟨rfl, bb, A1⟩; replace A0 := A0.kept bb (by omega); have sb := bb.size)
    | (go_at_call 23; refine (textW_at (w1.heap.size + 1 + 1) s.size _ rc t e3 wb (((four w1 s).2.2.1.kept ba (by omega)).kept bb (by omega)) HL.out HC.out).mono ?_; rintro e wc ⟨rfl, bc, A2⟩; replace A0 := A0.kept bc (by omega); replace A1 := A1.kept bc (by omega); have sc := bc.size)
    | (go_at_call 24; refine (valueW_at (w1.heap.size + 1 + 1 + 1) _ rd v 0 wc ((((four w1 s).2.2.2.kept ba (by omega)).kept bb (by omega)).kept bc (by omega)) HL.out HD.out).mono ?_; rintro e wd ⟨rfl, bd, A3⟩; replace hZ := Below.step hZ (but_below (but_below (but_below (but_below (below_al4 w1 s) ba (by omega) (by simp; omega)) bb (by omega) (by omega)) bc (by omega) (by omega)) bd (by omega) (by omega)); replace hZ := hZ.alloc hZ.size (.cells #[.int .u8 v.k, .int .i64 v.n, .string ⟨v.t.toArray⟩] 23); replace A0 := (A0.kept bd (by omega)).al (.cells #[.int .u8 v.k, .int .i64 v.n, .string ⟨v.t.toArray⟩] 23); replace A1 := (A1.kept bd (by omega)).al (.cells #[.int .u8 v.k, .int .i64 v.n, .string ⟨v.t.toArray⟩] 23); replace A2 := (A2.kept bd (by omega)).al (.cells #[.int .u8 v.k, .int .i64 v.n, .string ⟨v.t.toArray⟩] 23); replace A3 := A3.al (.cells #[.int .u8 v.k, .int .i64 v.n, .string ⟨v.t.toArray⟩] 23); have T3 := three_new wd (.int .u8 v.k) (.int .i64 v.n) (.string ⟨v.t.toArray⟩); clear ba bb bc bd)
    | (go_at_call 26; (with_reducible refine (lost_any s _ _ _ A0 la).mono ?_); rintro e w2 ⟨rfl, rfl⟩)
    | (go_at_call 26; (with_reducible refine (lost_any s _ _ _ A1 lb).mono ?_); rintro e w2 ⟨rfl, rfl⟩)
    | (go_at_call 26; (with_reducible refine (lost_any s _ _ _ A2 lc).mono ?_); rintro e w2 ⟨rfl, rfl⟩)
    | (go_at_call 26; (with_reducible refine (lost_any s _ _ _ A3 ld).mono ?_); rintro e w2 ⟨rfl, rfl⟩)
    | (go_at_call 27; (with_reducible refine (leftW_any _ _ _ A0).mono ?_); rintro e w2 ⟨rfl, rfl⟩)
    | (go_at_call 27; (with_reducible refine (leftW_any _ _ _ A1).mono ?_); rintro e w2 ⟨rfl, rfl⟩)
    | (go_at_call 27; (with_reducible refine (leftW_any _ _ _ A2).mono ?_); rintro e w2 ⟨rfl, rfl⟩)
    | (go_at_call 27; (with_reducible refine (leftW_any _ _ _ A3).mono ?_); rintro e w2 ⟨rfl, rfl⟩)
    | (go_at_call 13; refine (vb K4.out HV.out.2.1 HV.out.2.2 HV.out.1 _).mono ?_; rintro e wx ⟨rfl, hb⟩; replace A0 := A0.below hb; replace A1 := A1.below hb; replace A2 := A2.below hb; replace A3 := A3.below hb; replace T3 := T3.below hb; replace hZ := Below.step hZ hb; clear hb; have v0 := T3.c0; have v1 := T3.c1; have v2 := T3.c2))
  go_ret
  exact ⟨rfl, hZ⟩
set_option maxRecDepth 100000 in
set_option maxHeartbeats 4000000 in
theorem anew_0010 (s : ByteArray) (w : World) (hs : s.size ≤ 2000) (n : Nat) (x : Int) (t : List UInt8) (e1 e2 e4 : Nat) (ra rb rc : Rs)
    (hA : (Rs.mk s.data.toList 0).num 1099511627776 = ((n, e1), ra)) (hB : (Rs.mk s.data.toList 0).int = ((x, e2), rb)) (hC : (Rs.mk s.data.toList 0).text s.size = ((t, 0), rc)) (hD : (Rs.mk s.data.toList 0).value = ((Vl.zero, e4), ⟨[], e4⟩))
    (he1 : e1 ≠ 0) (he2 : e2 ≠ 0) (he4 : e4 ≠ 0) :
    Calls Try.prog 6 #[.string s] w fun e w' => e = .returned (.bool true) ∧ Below w.heap.size w w' := by
  have qe1 : ((e1 : Int) == 0) = false := by rw [beq_eq_false_iff_ne]; omega
  have pe1 : ((e1 : Int) != 0) = true := by rw [bne_iff_ne]; omega
  have qe2 : ((e2 : Int) == 0) = false := by rw [beq_eq_false_iff_ne]; omega
  have pe2 : ((e2 : Int) != 0) = true := by rw [bne_iff_ne]; omega
  have qe4 : ((e4 : Int) == 0) = false := by rw [beq_eq_false_iff_ne]; omega
  have pe4 : ((e4 : Int) != 0) = true := by rw [bne_iff_ne]; omega
  have la : ra.l.length ≤ s.size := by have := num_len 1099511627776 ⟨s.data.toList, 0⟩; rw [hA] at this; simpa using this
  have lb : rb.l.length ≤ s.size := by have := int_len ⟨s.data.toList, 0⟩; rw [hB] at this; simpa using this
  have lc : rc.l.length ≤ s.size := by have := text_len s.size ⟨s.data.toList, 0⟩; rw [hC] at this; simpa using this
  obtain ⟨G3, g3⟩ : ∃ G, G = s.size - rc.l.length := ⟨_, rfl⟩
  have D3 : (s.size : Int) - (rc.l.length : Int) = (G3 : Int) := by omega
  have J3 : G3 ≤ s.size := by omega
  have K3 := Lib.hid (back_of s _ _ ((text_inv hC).1.trans (List.append_assoc _ _ _).symm))
  rw [← g3] at K3
  have ht : t.length ≤ 90000 := by have := (text_inv hC).2.1; simp at this; omega
  have hL : (Rs.mk s.data.toList 0).l.length ≤ 1000000 := by simp; omega
  have HL := Lib.hid hL
  have HA := Lib.hid hA
  have HB := Lib.hid hB
  have HC := Lib.hid hC
  have HD := Lib.hid hD
  clear hA hB hC hD hL g3 he1 he2 he4
  go_enter Try.func6, Try.ntmps6
  go_wp2_with (first
    | (go_at_call 10; refine (awake_true _).mono ?_; rintro e w1 ⟨rfl, hZ⟩)
    | (go_at_call 21; refine (open_any _ _).mono ?_; rintro e w2 ⟨rfl, rfl⟩)
    | (go_at_call 25; refine (numW_at w1.heap.size _ ra n e1 (al4 w1 s) (four w1 s).1 HL.out HA.out).mono ?_; rintro e wa ⟨rfl, ba, A0⟩; have sa := ba.size; simp at sa)
    | (go_at_call 22; refine (intW_at (w1.heap.size + 1) _ rb x e2 wa ((four w1 s).2.1.kept ba (by omega)) HL.out HB.out).mono ?_; rintro e wb ⟨rfl, bb, A1⟩; replace A0 := A0.kept bb (by omega); have sb := bb.size)
    | (go_at_call 23; refine (textW_at (w1.heap.size + 1 + 1) s.size _ rc t 0 wb (((four w1 s).2.2.1.kept ba (by omega)).kept bb (by omega)) HL.out HC.out).mono ?_; rintro e wc ⟨rfl, bc, A2⟩; replace A0 := A0.kept bc (by omega); replace A1 := A1.kept bc (by omega); have sc := bc.size)
    | (go_at_call 24; refine (valueW_er (w1.heap.size + 1 + 1 + 1) _ e4 wc ((((four w1 s).2.2.2.kept ba (by omega)).kept bb (by omega)).kept bc (by omega)) HL.out HD.out).mono ?_; rintro e wd ⟨rfl, bd, A3⟩; replace hZ := Below.step hZ (but_below (but_below (but_below (but_below (below_al4 w1 s) ba (by omega) (by simp; omega)) bb (by omega) (by omega)) bc (by omega) (by omega)) bd (by omega) (by omega)); replace hZ := hZ.alloc hZ.size (.cells #[.int .u8 0, .int .i64 0, .string ⟨#[]⟩] 23); replace A0 := (A0.kept bd (by omega)).al (.cells #[.int .u8 0, .int .i64 0, .string ⟨#[]⟩] 23); replace A1 := (A1.kept bd (by omega)).al (.cells #[.int .u8 0, .int .i64 0, .string ⟨#[]⟩] 23); replace A2 := (A2.kept bd (by omega)).al (.cells #[.int .u8 0, .int .i64 0, .string ⟨#[]⟩] 23); replace A3 := A3.al (.cells #[.int .u8 0, .int .i64 0, .string ⟨#[]⟩] 23); have T3 := three_new wd (.int .u8 0) (.int .i64 0) (.string ⟨#[]⟩); clear ba bb bc bd)
    | (go_at_call 26; (with_reducible refine (lost_any s _ _ _ A0 la).mono ?_); rintro e w2 ⟨rfl, rfl⟩)
    | (go_at_call 26; (with_reducible refine (lost_any s _ _ _ A1 lb).mono ?_); rintro e w2 ⟨rfl, rfl⟩)
    | (go_at_call 26; (with_reducible refine (lost_any s _ _ _ A2 lc).mono ?_); rintro e w2 ⟨rfl, rfl⟩)
    | (go_at_call 26; (with_reducible refine (lost_any s _ _ _ A3 (Nat.zero_le _)).mono ?_); rintro e w2 ⟨rfl, rfl⟩)
    | (go_at_call 27; (with_reducible refine (leftW_any _ _ _ A0).mono ?_); rintro e w2 ⟨rfl, rfl⟩)
    | (go_at_call 27; (with_reducible refine (leftW_any _ _ _ A1).mono ?_); rintro e w2 ⟨rfl, rfl⟩)
    | (go_at_call 27; (with_reducible refine (leftW_any _ _ _ A2).mono ?_); rintro e w2 ⟨rfl, rfl⟩)
    | (go_at_call 27; (with_reducible refine (leftW_any _ _ _ A3).mono ?_); rintro e w2 ⟨rfl, rfl⟩)
    | (go_at_call 17; refine (tb K3.out ht _).mono ?_; rintro e wx ⟨rfl, hb⟩; replace A0 := A0.below hb; replace A1 := A1.below hb; replace A2 := A2.below hb; replace A3 := A3.below hb; replace T3 := T3.below hb; replace hZ := Below.step hZ hb; clear hb; have v0 := T3.c0; have v1 := T3.c1; have v2 := T3.c2))
  go_ret
  exact ⟨rfl, hZ⟩
set_option maxRecDepth 100000 in
set_option maxHeartbeats 4000000 in
theorem anew_0011 (s : ByteArray) (w : World) (hs : s.size ≤ 2000) (n : Nat) (x : Int) (t : List UInt8) (v : Vl) (e1 e2 : Nat) (ra rb rc rd : Rs)
    (hA : (Rs.mk s.data.toList 0).num 1099511627776 = ((n, e1), ra)) (hB : (Rs.mk s.data.toList 0).int = ((x, e2), rb)) (hC : (Rs.mk s.data.toList 0).text s.size = ((t, 0), rc)) (hD : (Rs.mk s.data.toList 0).value = ((v, 0), rd))
    (he1 : e1 ≠ 0) (he2 : e2 ≠ 0) :
    Calls Try.prog 6 #[.string s] w fun e w' => e = .returned (.bool true) ∧ Below w.heap.size w w' := by
  have qe1 : ((e1 : Int) == 0) = false := by rw [beq_eq_false_iff_ne]; omega
  have pe1 : ((e1 : Int) != 0) = true := by rw [bne_iff_ne]; omega
  have qe2 : ((e2 : Int) == 0) = false := by rw [beq_eq_false_iff_ne]; omega
  have pe2 : ((e2 : Int) != 0) = true := by rw [bne_iff_ne]; omega
  have la : ra.l.length ≤ s.size := by have := num_len 1099511627776 ⟨s.data.toList, 0⟩; rw [hA] at this; simpa using this
  have lb : rb.l.length ≤ s.size := by have := int_len ⟨s.data.toList, 0⟩; rw [hB] at this; simpa using this
  have lc : rc.l.length ≤ s.size := by have := text_len s.size ⟨s.data.toList, 0⟩; rw [hC] at this; simpa using this
  have ld : rd.l.length ≤ s.size := by have := value_len ⟨s.data.toList, 0⟩; rw [hD] at this; simpa using this
  obtain ⟨G3, g3⟩ : ∃ G, G = s.size - rc.l.length := ⟨_, rfl⟩
  have D3 : (s.size : Int) - (rc.l.length : Int) = (G3 : Int) := by omega
  have J3 : G3 ≤ s.size := by omega
  have K3 := Lib.hid (back_of s _ _ ((text_inv hC).1.trans (List.append_assoc _ _ _).symm))
  rw [← g3] at K3
  obtain ⟨G4, g4⟩ : ∃ G, G = s.size - rd.l.length := ⟨_, rfl⟩
  have D4 : (s.size : Int) - (rd.l.length : Int) = (G4 : Int) := by omega
  have J4 : G4 ≤ s.size := by omega
  have K4 := Lib.hid (back_of s _ _ (value_inv hD).1)
  rw [← g4] at K4
  have ht : t.length ≤ 90000 := by have := (text_inv hC).2.1; simp at this; omega
  have hv := (value_inv hD).2
  have HV := Lib.hid hv
  clear hv
  have hL : (Rs.mk s.data.toList 0).l.length ≤ 1000000 := by simp; omega
  have HL := Lib.hid hL
  have HA := Lib.hid hA
  have HB := Lib.hid hB
  have HC := Lib.hid hC
  have HD := Lib.hid hD
  clear hA hB hC hD hL g3 g4 he1 he2
  go_enter Try.func6, Try.ntmps6
  go_wp2_with (first
    | (go_at_call 10; refine (awake_true _).mono ?_; rintro e w1 ⟨rfl, hZ⟩)
    | (go_at_call 21; refine (open_any _ _).mono ?_; rintro e w2 ⟨rfl, rfl⟩)
    | (go_at_call 25; refine (numW_at w1.heap.size _ ra n e1 (al4 w1 s) (four w1 s).1 HL.out HA.out).mono ?_; rintro e wa ⟨rfl, ba, A0⟩; have sa := ba.size; simp at sa)
    | (go_at_call 22; refine (intW_at (w1.heap.size + 1) _ rb x e2 wa ((four w1 s).2.1.kept ba (by omega)) HL.out HB.out).mono ?_; rintro e wb ⟨rfl, bb, A1⟩; replace A0 := A0.kept bb (by omega); have sb := bb.size)
    | (go_at_call 23; refine (textW_at (w1.heap.size + 1 + 1) s.size _ rc t 0 wb (((four w1 s).2.2.1.kept ba (by omega)).kept bb (by omega)) HL.out HC.out).mono ?_; rintro e wc ⟨rfl, bc, A2⟩; replace A0 := A0.kept bc (by omega); replace A1 := A1.kept bc (by omega); have sc := bc.size)
    | (go_at_call 24; refine (valueW_at (w1.heap.size + 1 + 1 + 1) _ rd v 0 wc ((((four w1 s).2.2.2.kept ba (by omega)).kept bb (by omega)).kept bc (by omega)) HL.out HD.out).mono ?_; rintro e wd ⟨rfl, bd, A3⟩; replace hZ := Below.step hZ (but_below (but_below (but_below (but_below (below_al4 w1 s) ba (by omega) (by simp; omega)) bb (by omega) (by omega)) bc (by omega) (by omega)) bd (by omega) (by omega)); replace hZ := hZ.alloc hZ.size (.cells #[.int .u8 v.k, .int .i64 v.n, .string ⟨v.t.toArray⟩] 23); replace A0 := (A0.kept bd (by omega)).al (.cells #[.int .u8 v.k, .int .i64 v.n, .string ⟨v.t.toArray⟩] 23); replace A1 := (A1.kept bd (by omega)).al (.cells #[.int .u8 v.k, .int .i64 v.n, .string ⟨v.t.toArray⟩] 23); replace A2 := (A2.kept bd (by omega)).al (.cells #[.int .u8 v.k, .int .i64 v.n, .string ⟨v.t.toArray⟩] 23); replace A3 := A3.al (.cells #[.int .u8 v.k, .int .i64 v.n, .string ⟨v.t.toArray⟩] 23); have T3 := three_new wd (.int .u8 v.k) (.int .i64 v.n) (.string ⟨v.t.toArray⟩); clear ba bb bc bd)
    | (go_at_call 26; (with_reducible refine (lost_any s _ _ _ A0 la).mono ?_); rintro e w2 ⟨rfl, rfl⟩)
    | (go_at_call 26; (with_reducible refine (lost_any s _ _ _ A1 lb).mono ?_); rintro e w2 ⟨rfl, rfl⟩)
    | (go_at_call 26; (with_reducible refine (lost_any s _ _ _ A2 lc).mono ?_); rintro e w2 ⟨rfl, rfl⟩)
    | (go_at_call 26; (with_reducible refine (lost_any s _ _ _ A3 ld).mono ?_); rintro e w2 ⟨rfl, rfl⟩)
    | (go_at_call 27; (with_reducible refine (leftW_any _ _ _ A0).mono ?_); rintro e w2 ⟨rfl, rfl⟩)
    | (go_at_call 27; (with_reducible refine (leftW_any _ _ _ A1).mono ?_); rintro e w2 ⟨rfl, rfl⟩)
    | (go_at_call 27; (with_reducible refine (leftW_any _ _ _ A2).mono ?_); rintro e w2 ⟨rfl, rfl⟩)
    | (go_at_call 27; (with_reducible refine (leftW_any _ _ _ A3).mono ?_); rintro e w2 ⟨rfl, rfl⟩)
    | (go_at_call 17; refine (tb K3.out ht _).mono ?_; rintro e wx ⟨rfl, hb⟩; replace A0 := A0.below hb; replace A1 := A1.below hb; replace A2 := A2.below hb; replace A3 := A3.below hb; replace T3 := T3.below hb; replace hZ := Below.step hZ hb; clear hb; have v0 := T3.c0; have v1 := T3.c1; have v2 := T3.c2)
    | (go_at_call 13; refine (vb K4.out HV.out.2.1 HV.out.2.2 HV.out.1 _).mono ?_; rintro e wx ⟨rfl, hb⟩; replace A0 := A0.below hb; replace A1 := A1.below hb; replace A2 := A2.below hb; replace A3 := A3.below hb; replace T3 := T3.below hb; replace hZ := Below.step hZ hb; clear hb; have v0 := T3.c0; have v1 := T3.c1; have v2 := T3.c2))
  go_ret
  exact ⟨rfl, hZ⟩
set_option maxRecDepth 100000 in
set_option maxHeartbeats 4000000 in
theorem anew_0100 (s : ByteArray) (w : World) (hs : s.size ≤ 2000) (n : Nat) (x : Int) (t : List UInt8) (e1 e3 e4 : Nat) (ra rb rc : Rs)
    (hA : (Rs.mk s.data.toList 0).num 1099511627776 = ((n, e1), ra)) (hB : (Rs.mk s.data.toList 0).int = ((x, 0), rb)) (hC : (Rs.mk s.data.toList 0).text s.size = ((t, e3), rc)) (hD : (Rs.mk s.data.toList 0).value = ((Vl.zero, e4), ⟨[], e4⟩))
    (he1 : e1 ≠ 0) (he3 : e3 ≠ 0) (he4 : e4 ≠ 0) :
    Calls Try.prog 6 #[.string s] w fun e w' => e = .returned (.bool true) ∧ Below w.heap.size w w' := by
  have qe1 : ((e1 : Int) == 0) = false := by rw [beq_eq_false_iff_ne]; omega
  have pe1 : ((e1 : Int) != 0) = true := by rw [bne_iff_ne]; omega
  have qe3 : ((e3 : Int) == 0) = false := by rw [beq_eq_false_iff_ne]; omega
  have pe3 : ((e3 : Int) != 0) = true := by rw [bne_iff_ne]; omega
  have qe4 : ((e4 : Int) == 0) = false := by rw [beq_eq_false_iff_ne]; omega
  have pe4 : ((e4 : Int) != 0) = true := by rw [bne_iff_ne]; omega
  have la : ra.l.length ≤ s.size := by have := num_len 1099511627776 ⟨s.data.toList, 0⟩; rw [hA] at this; simpa using this
  have lb : rb.l.length ≤ s.size := by have := int_len ⟨s.data.toList, 0⟩; rw [hB] at this; simpa using this
  have lc : rc.l.length ≤ s.size := by have := text_len s.size ⟨s.data.toList, 0⟩; rw [hC] at this; simpa using this
  obtain ⟨G2, g2⟩ : ∃ G, G = s.size - rb.l.length := ⟨_, rfl⟩
  have D2 : (s.size : Int) - (rb.l.length : Int) = (G2 : Int) := by omega
  have J2 : G2 ≤ s.size := by omega
  have K2 := Lib.hid (back_of s _ _ (int_inv hB).1)
  rw [← g2] at K2
  have hx := (int_inv hB).2
  have hL : (Rs.mk s.data.toList 0).l.length ≤ 1000000 := by simp; omega
  have HL := Lib.hid hL
  have HA := Lib.hid hA
  have HB := Lib.hid hB
  have HC := Lib.hid hC
  have HD := Lib.hid hD
  clear hA hB hC hD hL g2 he1 he3 he4
  go_enter Try.func6, Try.ntmps6
  go_wp2_with (first
    | (go_at_call 10; refine (awake_true _).mono ?_; rintro e w1 ⟨rfl, hZ⟩)
    | (go_at_call 21; refine (open_any _ _).mono ?_; rintro e w2 ⟨rfl, rfl⟩)
    | (go_at_call 25; refine (numW_at w1.heap.size _ ra n e1 (al4 w1 s) (four w1 s).1 HL.out HA.out).mono ?_; rintro e wa ⟨rfl, ba, A0⟩; have sa := ba.size; simp at sa)
    | (go_at_call 22; refine (intW_at (w1.heap.size + 1) _ rb x 0 wa ((four w1 s).2.1.kept ba (by omega)) HL.out HB.out).mono ?_; rintro e wb ⟨rfl, bb, A1⟩; replace A0 := A0.kept bb (by omega); have sb := bb.size)
    | (go_at_call 23; refine (textW_at (w1.heap.size + 1 + 1) s.size _ rc t e3 wb (((four w1 s).2.2.1.kept ba (by omega)).kept bb (by omega)) HL.out HC.out).mono ?_; rintro e wc ⟨rfl, bc, A2⟩; replace A0 := A0.kept bc (by omega); replace A1 := A1.kept bc (by omega); have sc := bc.size)
    | (go_at_call 24; refine (valueW_er (w1.heap.size + 1 + 1 + 1) _ e4 wc ((((four w1 s).2.2.2.kept ba (by omega)).kept bb (by omega)).kept bc (by omega)) HL.out HD.out).mono ?_; rintro e wd ⟨rfl, bd, A3⟩; replace hZ := Below.step hZ (but_below (but_below (but_below (but_below (below_al4 w1 s) ba (by omega) (by simp; omega)) bb (by omega) (by omega)) bc (by omega) (by omega)) bd (by omega) (by omega)); replace hZ := hZ.alloc hZ.size (.cells #[.int .u8 0, .int .i64 0, .string ⟨#[]⟩] 23); replace A0 := (A0.kept bd (by omega)).al (.cells #[.int .u8 0, .int .i64 0, .string ⟨#[]⟩] 23); replace A1 := (A1.kept bd (by omega)).al (.cells #[.int .u8 0, .int .i64 0, .string ⟨#[]⟩] 23); replace A2 := (A2.kept bd (by omega)).al (.cells #[.int .u8 0, .int .i64 0, .string ⟨#[]⟩] 23); replace A3 := A3.al (.cells #[.int .u8 0, .int .i64 0, .string ⟨#[]⟩] 23); have T3 := three_new wd (.int .u8 0) (.int .i64 0) (.string ⟨#[]⟩); clear ba bb bc bd)
    | (go_at_call 26; (with_reducible refine (lost_any s _ _ _ A0 la).mono ?_); rintro e w2 ⟨rfl, rfl⟩)
    | (go_at_call 26; (with_reducible refine (lost_any s _ _ _ A1 lb).mono ?_); rintro e w2 ⟨rfl, rfl⟩)
    | (go_at_call 26; (with_reducible refine (lost_any s _ _ _ A2 lc).mono ?_); rintro e w2 ⟨rfl, rfl⟩)
    | (go_at_call 26; (with_reducible refine (lost_any s _ _ _ A3 (Nat.zero_le _)).mono ?_); rintro e w2 ⟨rfl, rfl⟩)
    | (go_at_call 27; (with_reducible refine (leftW_any _ _ _ A0).mono ?_); rintro e w2 ⟨rfl, rfl⟩)
    | (go_at_call 27; (with_reducible refine (leftW_any _ _ _ A1).mono ?_); rintro e w2 ⟨rfl, rfl⟩)
    | (go_at_call 27; (with_reducible refine (leftW_any _ _ _ A2).mono ?_); rintro e w2 ⟨rfl, rfl⟩)
    | (go_at_call 27; (with_reducible refine (leftW_any _ _ _ A3).mono ?_); rintro e w2 ⟨rfl, rfl⟩)
    | (go_at_call 15; refine (ib K2.out hx.1 hx.2 _).mono ?_; rintro e wx ⟨rfl, hb⟩; replace A0 := A0.below hb; replace A1 := A1.below hb; replace A2 := A2.below hb; replace A3 := A3.below hb; replace T3 := T3.below hb; replace hZ := Below.step hZ hb; clear hb; have v0 := T3.c0; have v1 := T3.c1; have v2 := T3.c2))
  go_ret
  exact ⟨rfl, hZ⟩
set_option maxRecDepth 100000 in
set_option maxHeartbeats 4000000 in
theorem anew_0101 (s : ByteArray) (w : World) (hs : s.size ≤ 2000) (n : Nat) (x : Int) (t : List UInt8) (v : Vl) (e1 e3 : Nat) (ra rb rc rd : Rs)
    (hA : (Rs.mk s.data.toList 0).num 1099511627776 = ((n, e1), ra)) (hB : (Rs.mk s.data.toList 0).int = ((x, 0), rb)) (hC : (Rs.mk s.data.toList 0).text s.size = ((t, e3), rc)) (hD : (Rs.mk s.data.toList 0).value = ((v, 0), rd))
    (he1 : e1 ≠ 0) (he3 : e3 ≠ 0) :
    Calls Try.prog 6 #[.string s] w fun e w' => e = .returned (.bool true) ∧ Below w.heap.size w w' := by
  have qe1 : ((e1 : Int) == 0) = false := by rw [beq_eq_false_iff_ne]; omega
  have pe1 : ((e1 : Int) != 0) = true := by rw [bne_iff_ne]; omega
  have qe3 : ((e3 : Int) == 0) = false := by rw [beq_eq_false_iff_ne]; omega
  have pe3 : ((e3 : Int) != 0) = true := by rw [bne_iff_ne]; omega
  have la : ra.l.length ≤ s.size := by have := num_len 1099511627776 ⟨s.data.toList, 0⟩; rw [hA] at this; simpa using this
  have lb : rb.l.length ≤ s.size := by have := int_len ⟨s.data.toList, 0⟩; rw [hB] at this; simpa using this
  have lc : rc.l.length ≤ s.size := by have := text_len s.size ⟨s.data.toList, 0⟩; rw [hC] at this; simpa using this
  have ld : rd.l.length ≤ s.size := by have := value_len ⟨s.data.toList, 0⟩; rw [hD] at this; simpa using this
  obtain ⟨G2, g2⟩ : ∃ G, G = s.size - rb.l.length := ⟨_, rfl⟩
  have D2 : (s.size : Int) - (rb.l.length : Int) = (G2 : Int) := by omega
  have J2 : G2 ≤ s.size := by omega
  have K2 := Lib.hid (back_of s _ _ (int_inv hB).1)
  rw [← g2] at K2
  obtain ⟨G4, g4⟩ : ∃ G, G = s.size - rd.l.length := ⟨_, rfl⟩
  have D4 : (s.size : Int) - (rd.l.length : Int) = (G4 : Int) := by omega
  have J4 : G4 ≤ s.size := by omega
  have K4 := Lib.hid (back_of s _ _ (value_inv hD).1)
  rw [← g4] at K4
  have hx := (int_inv hB).2
  have hv := (value_inv hD).2
  have HV := Lib.hid hv
  clear hv
  have hL : (Rs.mk s.data.toList 0).l.length ≤ 1000000 := by simp; omega
  have HL := Lib.hid hL
  have HA := Lib.hid hA
  have HB := Lib.hid hB
  have HC := Lib.hid hC
  have HD := Lib.hid hD
  clear hA hB hC hD hL g2 g4 he1 he3
  go_enter Try.func6, Try.ntmps6
  go_wp2_with (first
    | (go_at_call 10; refine (awake_true _).mono ?_; rintro e w1 ⟨rfl, hZ⟩)
    | (go_at_call 21; refine (open_any _ _).mono ?_; rintro e w2 ⟨rfl, rfl⟩)
    | (go_at_call 25; refine (numW_at w1.heap.size _ ra n e1 (al4 w1 s) (four w1 s).1 HL.out HA.out).mono ?_; rintro e wa ⟨rfl, ba, A0⟩; have sa := ba.size; simp at sa)
    | (go_at_call 22; refine (intW_at (w1.heap.size + 1) _ rb x 0 wa ((four w1 s).2.1.kept ba (by omega)) HL.out HB.out).mono ?_; rintro e wb ⟨rfl, bb, A1⟩; replace A0 := A0.kept bb (by omega); have sb := bb.size)
    | (go_at_call 23; refine (textW_at (w1.heap.size + 1 + 1) s.size _ rc t e3 wb (((four w1 s).2.2.1.kept ba (by omega)).kept bb (by omega)) HL.out HC.out).mono ?_; rintro e wc ⟨rfl, bc, A2⟩; replace A0 := A0.kept bc (by omega); replace A1 := A1.kept bc (by omega); have sc := bc.size)
    | (go_at_call 24; refine (valueW_at (w1.heap.size + 1 + 1 + 1) _ rd v 0 wc ((((four w1 s).2.2.2.kept ba (by omega)).kept bb (by omega)).kept bc (by omega)) HL.out HD.out).mono ?_; rintro e wd ⟨rfl, bd, A3⟩; replace hZ := Below.step hZ (but_below (but_below (but_below (but_below (below_al4 w1 s) ba (by omega) (by simp; omega)) bb (by omega) (by omega)) bc (by omega) (by omega)) bd (by omega) (by omega)); replace hZ := hZ.alloc hZ.size (.cells #[.int .u8 v.k, .int .i64 v.n, .string ⟨v.t.toArray⟩] 23); replace A0 := (A0.kept bd (by omega)).al (.cells #[.int .u8 v.k, .int .i64 v.n, .string ⟨v.t.toArray⟩] 23); replace A1 := (A1.kept bd (by omega)).al (.cells #[.int .u8 v.k, .int .i64 v.n, .string ⟨v.t.toArray⟩] 23); replace A2 := (A2.kept bd (by omega)).al (.cells #[.int .u8 v.k, .int .i64 v.n, .string ⟨v.t.toArray⟩] 23); replace A3 := A3.al (.cells #[.int .u8 v.k, .int .i64 v.n, .string ⟨v.t.toArray⟩] 23); have T3 := three_new wd (.int .u8 v.k) (.int .i64 v.n) (.string ⟨v.t.toArray⟩); clear ba bb bc bd)
    | (go_at_call 26; (with_reducible refine (lost_any s _ _ _ A0 la).mono ?_); rintro e w2 ⟨rfl, rfl⟩)
    | (go_at_call 26; (with_reducible refine (lost_any s _ _ _ A1 lb).mono ?_); rintro e w2 ⟨rfl, rfl⟩)
    | (go_at_call 26; (with_reducible refine (lost_any s _ _ _ A2 lc).mono ?_); rintro e w2 ⟨rfl, rfl⟩)
    | (go_at_call 26; (with_reducible refine (lost_any s _ _ _ A3 ld).mono ?_); rintro e w2 ⟨rfl, rfl⟩)
    | (go_at_call 27; (with_reducible refine (leftW_any _ _ _ A0).mono ?_); rintro e w2 ⟨rfl, rfl⟩)
    | (go_at_call 27; (with_reducible refine (leftW_any _ _ _ A1).mono ?_); rintro e w2 ⟨rfl, rfl⟩)
    | (go_at_call 27; (with_reducible refine (leftW_any _ _ _ A2).mono ?_); rintro e w2 ⟨rfl, rfl⟩)
    | (go_at_call 27; (with_reducible refine (leftW_any _ _ _ A3).mono ?_); rintro e w2 ⟨rfl, rfl⟩)
    | (go_at_call 15; refine (ib K2.out hx.1 hx.2 _).mono ?_; rintro e wx ⟨rfl, hb⟩; replace A0 := A0.below hb; replace A1 := A1.below hb; replace A2 := A2.below hb; replace A3 := A3.below hb; replace T3 := T3.below hb; replace hZ := Below.step hZ hb; clear hb; have v0 := T3.c0; have v1 := T3.c1; have v2 := T3.c2)
    | (go_at_call 13; refine (vb K4.out HV.out.2.1 HV.out.2.2 HV.out.1 _).mono ?_; rintro e wx ⟨rfl, hb⟩; replace A0 := A0.below hb; replace A1 := A1.below hb; replace A2 := A2.below hb; replace A3 := A3.below hb; replace T3 := T3.below hb; replace hZ := Below.step hZ hb; clear hb; have v0 := T3.c0; have v1 := T3.c1; have v2 := T3.c2))
  go_ret
  exact ⟨rfl, hZ⟩
set_option maxRecDepth 100000 in
set_option maxHeartbeats 4000000 in
theorem anew_0110 (s : ByteArray) (w : World) (hs : s.size ≤ 2000) (n : Nat) (x : Int) (t : List UInt8) (e1 e4 : Nat) (ra rb rc : Rs)
    (hA : (Rs.mk s.data.toList 0).num 1099511627776 = ((n, e1), ra)) (hB : (Rs.mk s.data.toList 0).int = ((x, 0), rb)) (hC : (Rs.mk s.data.toList 0).text s.size = ((t, 0), rc)) (hD : (Rs.mk s.data.toList 0).value = ((Vl.zero, e4), ⟨[], e4⟩))
    (he1 : e1 ≠ 0) (he4 : e4 ≠ 0) :
    Calls Try.prog 6 #[.string s] w fun e w' => e = .returned (.bool true) ∧ Below w.heap.size w w' := by
  have qe1 : ((e1 : Int) == 0) = false := by rw [beq_eq_false_iff_ne]; omega
  have pe1 : ((e1 : Int) != 0) = true := by rw [bne_iff_ne]; omega
  have qe4 : ((e4 : Int) == 0) = false := by rw [beq_eq_false_iff_ne]; omega
  have pe4 : ((e4 : Int) != 0) = true := by rw [bne_iff_ne]; omega
  have la : ra.l.length ≤ s.size := by have := num_len 1099511627776 ⟨s.data.toList, 0⟩; rw [hA] at this; simpa using this
  have lb : rb.l.length ≤ s.size := by have := int_len ⟨s.data.toList, 0⟩; rw [hB] at this; simpa using this
  have lc : rc.l.length ≤ s.size := by have := text_len s.size ⟨s.data.toList, 0⟩; rw [hC] at this; simpa using this
  obtain ⟨G2, g2⟩ : ∃ G, G = s.size - rb.l.length := ⟨_, rfl⟩
  have D2 : (s.size : Int) - (rb.l.length : Int) = (G2 : Int) := by omega
  have J2 : G2 ≤ s.size := by omega
  have K2 := Lib.hid (back_of s _ _ (int_inv hB).1)
  rw [← g2] at K2
  obtain ⟨G3, g3⟩ : ∃ G, G = s.size - rc.l.length := ⟨_, rfl⟩
  have D3 : (s.size : Int) - (rc.l.length : Int) = (G3 : Int) := by omega
  have J3 : G3 ≤ s.size := by omega
  have K3 := Lib.hid (back_of s _ _ ((text_inv hC).1.trans (List.append_assoc _ _ _).symm))
  rw [← g3] at K3
  have hx := (int_inv hB).2
  have ht : t.length ≤ 90000 := by have := (text_inv hC).2.1; simp at this; omega
  have hL : (Rs.mk s.data.toList 0).l.length ≤ 1000000 := by simp; omega
  have HL := Lib.hid hL
  have HA := Lib.hid hA
  have HB := Lib.hid hB
  have HC := Lib.hid hC
  have HD := Lib.hid hD
  clear hA hB hC hD hL g2 g3 he1 he4
  go_enter Try.func6, Try.ntmps6
  go_wp2_with (first
    | (go_at_call 10; refine (awake_true _).mono ?_; rintro e w1 ⟨rfl, hZ⟩)
    | (go_at_call 21; refine (open_any _ _).mono ?_; rintro e w2 ⟨rfl, rfl⟩)
    | (go_at_call 25; refine (numW_at w1.heap.size _ ra n e1 (al4 w1 s) (four w1 s).1 HL.out HA.out).mono ?_; rintro e wa ⟨rfl, ba, A0⟩; have sa := ba.size; simp at sa)
    | (go_at_call 22; refine (intW_at (w1.heap.size + 1) _ rb x 0 wa ((four w1 s).2.1.kept ba (by omega)) HL.out HB.out).mono ?_; rintro e wb ⟨rfl, bb, A1⟩; replace A0 := A0.kept bb (by omega); have sb := bb.size)
    | (go_at_call 23; refine (textW_at (w1.heap.size + 1 + 1) s.size _ rc t 0 wb (((four w1 s).2.2.1.kept ba (by omega)).kept bb (by omega)) HL.out HC.out).mono ?_; rintro e wc ⟨rfl, bc, A2⟩; replace A0 := A0.kept bc (by omega); replace A1 := A1.kept bc (by omega); have sc := bc.size)
    | (go_at_call 24; refine (valueW_er (w1.heap.size + 1 + 1 + 1) _ e4 wc ((((four w1 s).2.2.2.kept ba (by omega)).kept bb (by omega)).kept bc (by omega)) HL.out HD.out).mono ?_; rintro e wd ⟨rfl, bd, A3⟩; replace hZ := Below.step hZ (but_below (but_below (but_below (but_below (below_al4 w1 s) ba (by omega) (by simp; omega)) bb (by omega) (by omega)) bc (by omega) (by omega)) bd (by omega) (by omega)); replace hZ := hZ.alloc hZ.size (.cells #[.int .u8 0, .int .i64 0, .string ⟨#[]⟩] 23); replace A0 := (A0.kept bd (by omega)).al (.cells #[.int .u8 0, .int .i64 0, .string ⟨#[]⟩] 23); replace A1 := (A1.kept bd (by omega)).al (.cells #[.int .u8 0, .int .i64 0, .string ⟨#[]⟩] 23); replace A2 := (A2.kept bd (by omega)).al (.cells #[.int .u8 0, .int .i64 0, .string ⟨#[]⟩] 23); replace A3 := A3.al (.cells #[.int .u8 0, .int .i64 0, .string ⟨#[]⟩] 23); have T3 := three_new wd (.int .u8 0) (.int .i64 0) (.string ⟨#[]⟩); clear ba bb bc bd)
    | (go_at_call 26; (with_reducible refine (lost_any s _ _ _ A0 la).mono ?_); rintro e w2 ⟨rfl, rfl⟩)
    | (go_at_call 26; (with_reducible refine (lost_any s _ _ _ A1 lb).mono ?_); rintro e w2 ⟨rfl, rfl⟩)
    | (go_at_call 26; (with_reducible refine (lost_any s _ _ _ A2 lc).mono ?_); rintro e w2 ⟨rfl, rfl⟩)
    | (go_at_call 26; (with_reducible refine (lost_any s _ _ _ A3 (Nat.zero_le _)).mono ?_); rintro e w2 ⟨rfl, rfl⟩)
    | (go_at_call 27; (with_reducible refine (leftW_any _ _ _ A0).mono ?_); rintro e w2 ⟨rfl, rfl⟩)
    | (go_at_call 27; (with_reducible refine (leftW_any _ _ _ A1).mono ?_); rintro e w2 ⟨rfl, rfl⟩)
    | (go_at_call 27; (with_reducible refine (leftW_any _ _ _ A2).mono ?_); rintro e w2 ⟨rfl, rfl⟩)
    | (go_at_call 27; (with_reducible refine (leftW_any _ _ _ A3).mono ?_); rintro e w2 ⟨rfl, rfl⟩)
    | (go_at_call 15; refine (ib K2.out hx.1 hx.2 _).mono ?_; rintro e wx ⟨rfl, hb⟩; replace A0 := A0.below hb; replace A1 := A1.below hb; replace A2 := A2.below hb; replace A3 := A3.below hb; replace T3 := T3.below hb; replace hZ := Below.step hZ hb; clear hb; have v0 := T3.c0; have v1 := T3.c1; have v2 := T3.c2)
    | (go_at_call 17; refine (tb K3.out ht _).mono ?_; rintro e wx ⟨rfl, hb⟩; replace A0 := A0.below hb; replace A1 := A1.below hb; replace A2 := A2.below hb; replace A3 := A3.below hb; replace T3 := T3.below hb; replace hZ := Below.step hZ hb; clear hb; have v0 := T3.c0; have v1 := T3.c1; have v2 := T3.c2))
  go_ret
  exact ⟨rfl, hZ⟩
set_option maxRecDepth 100000 in
set_option maxHeartbeats 4000000 in
theorem anew_0111 (s : ByteArray) (w : World) (hs : s.size ≤ 2000) (n : Nat) (x : Int) (t : List UInt8) (v : Vl) (e1 : Nat) (ra rb rc rd : Rs)
    (hA : (Rs.mk s.data.toList 0).num 1099511627776 = ((n, e1), ra)) (hB : (Rs.mk s.data.toList 0).int = ((x, 0), rb)) (hC : (Rs.mk s.data.toList 0).text s.size = ((t, 0), rc)) (hD : (Rs.mk s.data.toList 0).value = ((v, 0), rd))
    (he1 : e1 ≠ 0) :
    Calls Try.prog 6 #[.string s] w fun e w' => e = .returned (.bool true) ∧ Below w.heap.size w w' := by
  have qe1 : ((e1 : Int) == 0) = false := by rw [beq_eq_false_iff_ne]; omega
  have pe1 : ((e1 : Int) != 0) = true := by rw [bne_iff_ne]; omega
  have la : ra.l.length ≤ s.size := by have := num_len 1099511627776 ⟨s.data.toList, 0⟩; rw [hA] at this; simpa using this
  have lb : rb.l.length ≤ s.size := by have := int_len ⟨s.data.toList, 0⟩; rw [hB] at this; simpa using this
  have lc : rc.l.length ≤ s.size := by have := text_len s.size ⟨s.data.toList, 0⟩; rw [hC] at this; simpa using this
  have ld : rd.l.length ≤ s.size := by have := value_len ⟨s.data.toList, 0⟩; rw [hD] at this; simpa using this
  obtain ⟨G2, g2⟩ : ∃ G, G = s.size - rb.l.length := ⟨_, rfl⟩
  have D2 : (s.size : Int) - (rb.l.length : Int) = (G2 : Int) := by omega
  have J2 : G2 ≤ s.size := by omega
  have K2 := Lib.hid (back_of s _ _ (int_inv hB).1)
  rw [← g2] at K2
  obtain ⟨G3, g3⟩ : ∃ G, G = s.size - rc.l.length := ⟨_, rfl⟩
  have D3 : (s.size : Int) - (rc.l.length : Int) = (G3 : Int) := by omega
  have J3 : G3 ≤ s.size := by omega
  have K3 := Lib.hid (back_of s _ _ ((text_inv hC).1.trans (List.append_assoc _ _ _).symm))
  rw [← g3] at K3
  obtain ⟨G4, g4⟩ : ∃ G, G = s.size - rd.l.length := ⟨_, rfl⟩
  have D4 : (s.size : Int) - (rd.l.length : Int) = (G4 : Int) := by omega
  have J4 : G4 ≤ s.size := by omega
  have K4 := Lib.hid (back_of s _ _ (value_inv hD).1)
  rw [← g4] at K4
  have hx := (int_inv hB).2
  have ht : t.length ≤ 90000 := by have := (text_inv hC).2.1; simp at this; omega
  have hv := (value_inv hD).2
  have HV := Lib.hid hv
  clear hv
  have hL : (Rs.mk s.data.toList 0).l.length ≤ 1000000 := by simp; omega
  have HL := Lib.hid hL
  have HA := Lib.hid hA
  have HB := Lib.hid hB
  have HC := Lib.hid hC
  have HD := Lib.hid hD
  clear hA hB hC hD hL g2 g3 g4 he1
  go_enter Try.func6, Try.ntmps6
  go_wp2_with (first
    | (go_at_call 10; refine (awake_true _).mono ?_; rintro e w1 ⟨rfl, hZ⟩)
    | (go_at_call 21; refine (open_any _ _).mono ?_; rintro e w2 ⟨rfl, rfl⟩)
    | (go_at_call 25; refine (numW_at w1.heap.size _ ra n e1 (al4 w1 s) (four w1 s).1 HL.out HA.out).mono ?_; rintro e wa ⟨rfl, ba, A0⟩; have sa := ba.size; simp at sa)
    | (go_at_call 22; refine (intW_at (w1.heap.size + 1) _ rb x 0 wa ((four w1 s).2.1.kept ba (by omega)) HL.out HB.out).mono ?_; rintro e wb ⟨rfl, bb, A1⟩; replace A0 := A0.kept bb (by omega); have sb := bb.size)
    | (go_at_call 23; refine (textW_at (w1.heap.size + 1 + 1) s.size _ rc t 0 wb (((four w1 s).2.2.1.kept ba (by omega)).kept bb (by omega)) HL.out HC.out).mono ?_; rintro e wc ⟨rfl, bc, A2⟩; replace A0 := A0.kept bc (by omega); replace A1 := A1.kept bc (by omega); have sc := bc.size)
    | (go_at_call 24; refine (valueW_at (w1.heap.size + 1 + 1 + 1) _ rd v 0 wc ((((four w1 s).2.2.2.kept ba (by omega)).kept bb (by omega)).kept bc (by omega)) HL.out HD.out).mono ?_; rintro e wd ⟨rfl, bd, A3⟩; replace hZ := Below.step hZ (but_below (but_below (but_below (but_below (below_al4 w1 s) ba (by omega) (by simp; omega)) bb (by omega) (by omega)) bc (by omega) (by omega)) bd (by omega) (by omega)); replace hZ := hZ.alloc hZ.size (.cells #[.int .u8 v.k, .int .i64 v.n, .string ⟨v.t.toArray⟩] 23); replace A0 := (A0.kept bd (by omega)).al (.cells #[.int .u8 v.k, .int .i64 v.n, .string ⟨v.t.toArray⟩] 23); replace A1 := (A1.kept bd (by omega)).al (.cells #[.int .u8 v.k, .int .i64 v.n, .string ⟨v.t.toArray⟩] 23); replace A2 := (A2.kept bd (by omega)).al (.cells #[.int .u8 v.k, .int .i64 v.n, .string ⟨v.t.toArray⟩] 23); replace A3 := A3.al (.cells #[.int .u8 v.k, .int .i64 v.n, .string ⟨v.t.toArray⟩] 23); have T3 := three_new wd (.int .u8 v.k) (.int .i64 v.n) (.string ⟨v.t.toArray⟩); clear ba bb bc bd)
    | (go_at_call 26; (with_reducible refine (lost_any s _ _ _ A0 la).mono ?_); rintro e w2 ⟨rfl, rfl⟩)
    | (go_at_call 26; (with_reducible refine (lost_any s _ _ _ A1 lb).mono ?_); rintro e w2 ⟨rfl, rfl⟩)
    | (go_at_call 26; (with_reducible refine (lost_any s _ _ _ A2 lc).mono ?_); rintro e w2 ⟨rfl, rfl⟩)
    | (go_at_call 26; (with_reducible refine (lost_any s _ _ _ A3 ld).mono ?_); rintro e w2 ⟨rfl, rfl⟩)
    | (go_at_call 27; (with_reducible refine (leftW_any _ _ _ A0).mono ?_); rintro e w2 ⟨rfl, rfl⟩)
    | (go_at_call 27; (with_reducible refine (leftW_any _ _ _ A1).mono ?_); rintro e w2 ⟨rfl, rfl⟩)
    | (go_at_call 27; (with_reducible refine (leftW_any _ _ _ A2).mono ?_); rintro e w2 ⟨rfl, rfl⟩)
    | (go_at_call 27; (with_reducible refine (leftW_any _ _ _ A3).mono ?_); rintro e w2 ⟨rfl, rfl⟩)
    | (go_at_call 15; refine (ib K2.out hx.1 hx.2 _).mono ?_; rintro e wx ⟨rfl, hb⟩; replace A0 := A0.below hb; replace A1 := A1.below hb; replace A2 := A2.below hb; replace A3 := A3.below hb; replace T3 := T3.below hb; replace hZ := Below.step hZ hb; clear hb; have v0 := T3.c0; have v1 := T3.c1; have v2 := T3.c2)
    | (go_at_call 17; refine (tb K3.out ht _).mono ?_; rintro e wx ⟨rfl, hb⟩; replace A0 := A0.below hb; replace A1 := A1.below hb; replace A2 := A2.below hb; replace A3 := A3.below hb; replace T3 := T3.below hb; replace hZ := Below.step hZ hb; clear hb; have v0 := T3.c0; have v1 := T3.c1; have v2 := T3.c2)
    | (go_at_call 13; refine (vb K4.out HV.out.2.1 HV.out.2.2 HV.out.1 _).mono ?_; rintro e wx ⟨rfl, hb⟩; replace A0 := A0.below hb; replace A1 := A1.below hb; replace A2 := A2.below hb; replace A3 := A3.below hb; replace T3 := T3.below hb; replace hZ := Below.step hZ hb; clear hb; have v0 := T3.c0; have v1 := T3.c1; have v2 := T3.c2))
  go_ret
  exact ⟨rfl, hZ⟩
set_option maxRecDepth 100000 in
set_option maxHeartbeats 4000000 in
theorem anew_1000 (s : ByteArray) (w : World) (hs : s.size ≤ 2000) (n : Nat) (x : Int) (t : List UInt8) (e2 e3 e4 : Nat) (ra rb rc : Rs)
    (hA : (Rs.mk s.data.toList 0).num 1099511627776 = ((n, 0), ra)) (hB : (Rs.mk s.data.toList 0).int = ((x, e2), rb)) (hC : (Rs.mk s.data.toList 0).text s.size = ((t, e3), rc)) (hD : (Rs.mk s.data.toList 0).value = ((Vl.zero, e4), ⟨[], e4⟩))
    (he2 : e2 ≠ 0) (he3 : e3 ≠ 0) (he4 : e4 ≠ 0) :
    Calls Try.prog 6 #[.string s] w fun e w' => e = .returned (.bool true) ∧ Below w.heap.size w w' := by
  have qe2 : ((e2 : Int) == 0) = false := by rw [beq_eq_false_iff_ne]; omega
  have pe2 : ((e2 : Int) != 0) = true := by rw [bne_iff_ne]; omega
  have qe3 : ((e3 : Int) == 0) = false := by rw [beq_eq_false_iff_ne]; omega
  have pe3 : ((e3 : Int) != 0) = true := by rw [bne_iff_ne]; omega
  have qe4 : ((e4 : Int) == 0) = false := by rw [beq_eq_false_iff_ne]; omega
  have pe4 : ((e4 : Int) != 0) = true := by rw [bne_iff_ne]; omega
  have la : ra.l.length ≤ s.size := by have := num_len 1099511627776 ⟨s.data.toList, 0⟩; rw [hA] at this; simpa using this
  have lb : rb.l.length ≤ s.size := by have := int_len ⟨s.data.toList, 0⟩; rw [hB] at this; simpa using this
  have lc : rc.l.length ≤ s.size := by have := text_len s.size ⟨s.data.toList, 0⟩; rw [hC] at this; simpa using this
  obtain ⟨G1, g1⟩ : ∃ G, G = s.size - ra.l.length := ⟨_, rfl⟩
  have D1 : (s.size : Int) - (ra.l.length : Int) = (G1 : Int) := by omega
  have J1 : G1 ≤ s.size := by omega
  have K1 := Lib.hid (back_of s _ _ (num_inv hA))
  rw [← g1] at K1
  have hn : n ≤ 1099511627776 := (Rs.num_ok hA).2.1
  have hL : (Rs.mk s.data.toList 0).l.length ≤ 1000000 := by simp; omega
  have HL := Lib.hid hL
  have HA := Lib.hid hA
  have HB := Lib.hid hB
  have HC := Lib.hid hC
  have HD := Lib.hid hD
  clear hA hB hC hD hL g1 he2 he3 he4
  go_enter Try.func6, Try.ntmps6
  go_wp2_with (first
    | (go_at_call 10; refine (awake_true _).mono ?_; rintro e w1 ⟨rfl, hZ⟩)
    | (go_at_call 21; refine (open_any _ _).mono ?_; rintro e w2 ⟨rfl, rfl⟩)
    | (go_at_call 25; refine (numW_at w1.heap.size _ ra n 0 (al4 w1 s) (four w1 s).1 HL.out HA.out).mono ?_; rintro e wa ⟨rfl, ba, A0⟩; have sa := ba.size; simp at sa)
    | (go_at_call 22; refine (intW_at (w1.heap.size + 1) _ rb x e2 wa ((four w1 s).2.1.kept ba (by omega)) HL.out HB.out).mono ?_; rintro e wb ⟨rfl, bb, A1⟩; replace A0 := A0.kept bb (by omega); have sb := bb.size)
    | (go_at_call 23; refine (textW_at (w1.heap.size + 1 + 1) s.size _ rc t e3 wb (((four w1 s).2.2.1.kept ba (by omega)).kept bb (by omega)) HL.out HC.out).mono ?_; rintro e wc ⟨rfl, bc, A2⟩; replace A0 := A0.kept bc (by omega); replace A1 := A1.kept bc (by omega); have sc := bc.size)
    | (go_at_call 24; refine (valueW_er (w1.heap.size + 1 + 1 + 1) _ e4 wc ((((four w1 s).2.2.2.kept ba (by omega)).kept bb (by omega)).kept bc (by omega)) HL.out HD.out).mono ?_; rintro e wd ⟨rfl, bd, A3⟩; replace hZ := Below.step hZ (but_below (but_below (but_below (but_below (below_al4 w1 s) ba (by omega) (by simp; omega)) bb (by omega) (by omega)) bc (by omega) (by omega)) bd (by omega) (by omega)); replace hZ := hZ.alloc hZ.size (.cells #[.int .u8 0, .int .i64 0, .string ⟨#[]⟩] 23); replace A0 := (A0.kept bd (by omega)).al (.cells #[.int .u8 0, .int .i64 0, .string ⟨#[]⟩] 23); replace A1 := (A1.kept bd (by omega)).al (.cells #[.int .u8 0, .int .i64 0, .string ⟨#[]⟩] 23); replace A2 := (A2.kept bd (by omega)).al (.cells #[.int .u8 0, .int .i64 0, .string ⟨#[]⟩] 23); replace A3 := A3.al (.cells #[.int .u8 0, .int .i64 0, .string ⟨#[]⟩] 23); have T3 := three_new wd (.int .u8 0) (.int .i64 0) (.string ⟨#[]⟩); clear ba bb bc bd)
    | (go_at_call 26; (with_reducible refine (lost_any s _ _ _ A0 la).mono ?_); rintro e w2 ⟨rfl, rfl⟩)
    | (go_at_call 26; (with_reducible refine (lost_any s _ _ _ A1 lb).mono ?_); rintro e w2 ⟨rfl, rfl⟩)
    | (go_at_call 26; (with_reducible refine (lost_any s _ _ _ A2 lc).mono ?_); rintro e w2 ⟨rfl, rfl⟩)
    | (go_at_call 26; (with_reducible refine (lost_any s _ _ _ A3 (Nat.zero_le _)).mono ?_); rintro e w2 ⟨rfl, rfl⟩)
    | (go_at_call 27; (with_reducible refine (leftW_any _ _ _ A0).mono ?_); rintro e w2 ⟨rfl, rfl⟩)
    | (go_at_call 27; (with_reducible refine (leftW_any _ _ _ A1).mono ?_); rintro e w2 ⟨rfl, rfl⟩)
    | (go_at_call 27; (with_reducible refine (leftW_any _ _ _ A2).mono ?_); rintro e w2 ⟨rfl, rfl⟩)
    | (go_at_call 27; (with_reducible refine (leftW_any _ _ _ A3).mono ?_); rintro e w2 ⟨rfl, rfl⟩)
    | (go_at_call 11; refine (nb K1.out hn _).mono ?_; rintro e wx ⟨rfl, hb⟩; replace A0 := A0.below hb; replace A1 := A1.below hb; replace A2 := A2.below hb; replace A3 := A3.below hb; replace T3 := T3.below hb; replace hZ := Below.step hZ hb; clear hb; have v0 := T3.c0; have v1 := T3.c1; have v2 := T3.c2))
  go_ret
  exact ⟨rfl, hZ⟩
set_option maxRecDepth 100000 in
set_option maxHeartbeats 4000000 in
theorem anew_1001 (s : ByteArray) (w : World) (hs : s.size ≤ 2000) (n : Nat) (x : Int) (t : List UInt8) (v : Vl) (e2 e3 : Nat) (ra rb rc rd : Rs)
    (hA : (Rs.mk s.data.toList 0).num 1099511627776 = ((n, 0), ra)) (hB : (Rs.mk s.data.toList 0).int = ((x, e2), rb)) (hC : (Rs.mk s.data.toList 0).text s.size = ((t, e3), rc)) (hD : (Rs.mk s.data.toList 0).value = ((v, 0), rd))
    (he2 : e2 ≠ 0) (he3 : e3 ≠ 0) :
    Calls Try.prog 6 #[.string s] w fun e w' => e = .returned (.bool true) ∧ Below w.heap.size w w' := by
  have qe2 : ((e2 : Int) == 0) = false := by rw [beq_eq_false_iff_ne]; omega
  have pe2 : ((e2 : Int) != 0) = true := by rw [bne_iff_ne]; omega
  have qe3 : ((e3 : Int) == 0) = false := by rw [beq_eq_false_iff_ne]; omega
  have pe3 : ((e3 : Int) != 0) = true := by rw [bne_iff_ne]; omega
  have la : ra.l.length ≤ s.size := by have := num_len 1099511627776 ⟨s.data.toList, 0⟩; rw [hA] at this; simpa using this
  have lb : rb.l.length ≤ s.size := by have := int_len ⟨s.data.toList, 0⟩; rw [hB] at this; simpa using this
  have lc : rc.l.length ≤ s.size := by have := text_len s.size ⟨s.data.toList, 0⟩; rw [hC] at this; simpa using this
  have ld : rd.l.length ≤ s.size := by have := value_len ⟨s.data.toList, 0⟩; rw [hD] at this; simpa using this
  obtain ⟨G1, g1⟩ : ∃ G, G = s.size - ra.l.length := ⟨_, rfl⟩
  have D1 : (s.size : Int) - (ra.l.length : Int) = (G1 : Int) := by omega
  have J1 : G1 ≤ s.size := by omega
  have K1 := Lib.hid (back_of s _ _ (num_inv hA))
  rw [← g1] at K1
  obtain ⟨G4, g4⟩ : ∃ G, G = s.size - rd.l.length := ⟨_, rfl⟩
  have D4 : (s.size : Int) - (rd.l.length : Int) = (G4 : Int) := by omega
  have J4 : G4 ≤ s.size := by omega
  have K4 := Lib.hid (back_of s _ _ (value_inv hD).1)
  rw [← g4] at K4
  have hn : n ≤ 1099511627776 := (Rs.num_ok hA).2.1
  have hv := (value_inv hD).2
  have HV := Lib.hid hv
  clear hv
  have hL : (Rs.mk s.data.toList 0).l.length ≤ 1000000 := by simp; omega
  have HL := Lib.hid hL
  have HA := Lib.hid hA
  have HB := Lib.hid hB
  have HC := Lib.hid hC
  have HD := Lib.hid hD
  clear hA hB hC hD hL g1 g4 he2 he3
  go_enter Try.func6, Try.ntmps6
  go_wp2_with (first
    | (go_at_call 10; refine (awake_true _).mono ?_; rintro e w1 ⟨rfl, hZ⟩)
    | (go_at_call 21; refine (open_any _ _).mono ?_; rintro e w2 ⟨rfl, rfl⟩)
    | (go_at_call 25; refine (numW_at w1.heap.size _ ra n 0 (al4 w1 s) (four w1 s).1 HL.out HA.out).mono ?_; rintro e wa ⟨rfl, ba, A0⟩; have sa := ba.size; simp at sa)
    | (go_at_call 22; refine (intW_at (w1.heap.size + 1) _ rb x e2 wa ((four w1 s).2.1.kept ba (by omega)) HL.out HB.out).mono ?_; rintro e wb ⟨rfl, bb, A1⟩; replace A0 := A0.kept bb (by omega); have sb := bb.size)
    | (go_at_call 23; refine (textW_at (w1.heap.size + 1 + 1) s.size _ rc t e3 wb (((four w1 s).2.2.1.kept ba (by omega)).kept bb (by omega)) HL.out HC.out).mono ?_; rintro e wc ⟨rfl, bc, A2⟩; replace A0 := A0.kept bc (by omega); replace A1 := A1.kept bc (by omega); have sc := bc.size)
    | (go_at_call 24; refine (valueW_at (w1.heap.size + 1 + 1 + 1) _ rd v 0 wc ((((four w1 s).2.2.2.kept ba (by omega)).kept bb (by omega)).kept bc (by omega)) HL.out HD.out).mono ?_; rintro e wd ⟨rfl, bd, A3⟩; replace hZ := Below.step hZ (but_below (but_below (but_below (but_below (below_al4 w1 s) ba (by omega) (by simp; omega)) bb (by omega) (by omega)) bc (by omega) (by omega)) bd (by omega) (by omega)); replace hZ := hZ.alloc hZ.size (.cells #[.int .u8 v.k, .int .i64 v.n, .string ⟨v.t.toArray⟩] 23); replace A0 := (A0.kept bd (by omega)).al (.cells #[.int .u8 v.k, .int .i64 v.n, .string ⟨v.t.toArray⟩] 23); replace A1 := (A1.kept bd (by omega)).al (.cells #[.int .u8 v.k, .int .i64 v.n, .string ⟨v.t.toArray⟩] 23); replace A2 := (A2.kept bd (by omega)).al (.cells #[.int .u8 v.k, .int .i64 v.n, .string ⟨v.t.toArray⟩] 23); replace A3 := A3.al (.cells #[.int .u8 v.k, .int .i64 v.n, .string ⟨v.t.toArray⟩] 23); have T3 := three_new wd (.int .u8 v.k) (.int .i64 v.n) (.string ⟨v.t.toArray⟩); clear ba bb bc bd)
    | (go_at_call 26; (with_reducible refine (lost_any s _ _ _ A0 la).mono ?_); rintro e w2 ⟨rfl, rfl⟩)
    | (go_at_call 26; (with_reducible refine (lost_any s _ _ _ A1 lb).mono ?_); rintro e w2 ⟨rfl, rfl⟩)
    | (go_at_call 26; (with_reducible refine (lost_any s _ _ _ A2 lc).mono ?_); rintro e w2 ⟨rfl, rfl⟩)
    | (go_at_call 26; (with_reducible refine (lost_any s _ _ _ A3 ld).mono ?_); rintro e w2 ⟨rfl, rfl⟩)
    | (go_at_call 27; (with_reducible refine (leftW_any _ _ _ A0).mono ?_); rintro e w2 ⟨rfl, rfl⟩)
    | (go_at_call 27; (with_reducible refine (leftW_any _ _ _ A1).mono ?_); rintro e w2 ⟨rfl, rfl⟩)
    | (go_at_call 27; (with_reducible refine (leftW_any _ _ _ A2).mono ?_); rintro e w2 ⟨rfl, rfl⟩)
    | (go_at_call 27; (with_reducible refine (leftW_any _ _ _ A3).mono ?_); rintro e w2 ⟨rfl, rfl⟩)
    | (go_at_call 11; refine (nb K1.out hn _).mono ?_; rintro e wx ⟨rfl, hb⟩; replace A0 := A0.below hb; replace A1 := A1.below hb; replace A2 := A2.below hb; replace A3 := A3.below hb; replace T3 := T3.below hb; replace hZ := Below.step hZ hb; clear hb; have v0 := T3.c0; have v1 := T3.c1; have v2 := T3.c2)
    | (go_at_call 13; refine (vb K4.out HV.out.2.1 HV.out.2.2 HV.out.1 _).mono ?_; rintro e wx ⟨rfl, hb⟩; replace A0 := A0.below hb; replace A1 := A1.below hb; replace A2 := A2.below hb; replace A3 := A3.below hb; replace T3 := T3.below hb; replace hZ := Below.step hZ hb; clear hb; have v0 := T3.c0; have v1 := T3.c1; have v2 := T3.c2))
  go_ret
  exact ⟨rfl, hZ⟩
set_option maxRecDepth 100000 in
set_option maxHeartbeats 4000000 in
theorem anew_1010 (s : ByteArray) (w : World) (hs : s.size ≤ 2000) (n : Nat) (x : Int) (t : List UInt8) (e2 e4 : Nat) (ra rb rc : Rs)
    (hA : (Rs.mk s.data.toList 0).num 1099511627776 = ((n, 0), ra)) (hB : (Rs.mk s.data.toList 0).int = ((x, e2), rb)) (hC : (Rs.mk s.data.toList 0).text s.size = ((t, 0), rc)) (hD : (Rs.mk s.data.toList 0).value = ((Vl.zero, e4), ⟨[], e4⟩))
    (he2 : e2 ≠ 0) (he4 : e4 ≠ 0) :
    Calls Try.prog 6 #[.string s] w fun e w' => e = .returned (.bool true) ∧ Below w.heap.size w w' := by
  have qe2 : ((e2 : Int) == 0) = false := by rw [beq_eq_false_iff_ne]; omega
  have pe2 : ((e2 : Int) != 0) = true := by rw [bne_iff_ne]; omega
  have qe4 : ((e4 : Int) == 0) = false := by rw [beq_eq_false_iff_ne]; omega
  have pe4 : ((e4 : Int) != 0) = true := by rw [bne_iff_ne]; omega
  have la : ra.l.length ≤ s.size := by have := num_len 1099511627776 ⟨s.data.toList, 0⟩; rw [hA] at this; simpa using this
  have lb : rb.l.length ≤ s.size := by have := int_len ⟨s.data.toList, 0⟩; rw [hB] at this; simpa using this
  have lc : rc.l.length ≤ s.size := by have := text_len s.size ⟨s.data.toList, 0⟩; rw [hC] at this; simpa using this
  obtain ⟨G1, g1⟩ : ∃ G, G = s.size - ra.l.length := ⟨_, rfl⟩
  have D1 : (s.size : Int) - (ra.l.length : Int) = (G1 : Int) := by omega
  have J1 : G1 ≤ s.size := by omega
  have K1 := Lib.hid (back_of s _ _ (num_inv hA))
  rw [← g1] at K1
  obtain ⟨G3, g3⟩ : ∃ G, G = s.size - rc.l.length := ⟨_, rfl⟩
  have D3 : (s.size : Int) - (rc.l.length : Int) = (G3 : Int) := by omega
  have J3 : G3 ≤ s.size := by omega
  have K3 := Lib.hid (back_of s _ _ ((text_inv hC).1.trans (List.append_assoc _ _ _).symm))
  rw [← g3] at K3
  have hn : n ≤ 1099511627776 := (Rs.num_ok hA).2.1
  have ht : t.length ≤ 90000 := by have := (text_inv hC).2.1; simp at this; omega
  have hL : (Rs.mk s.data.toList 0).l.length ≤ 1000000 := by simp; omega
  have HL := Lib.hid hL
  have HA := Lib.hid hA
  have HB := Lib.hid hB
  have HC := Lib.hid hC
  have HD := Lib.hid hD
  clear hA hB hC hD hL g1 g3 he2 he4
  go_enter Try.func6, Try.ntmps6
  go_wp2_with (first
    | (go_at_call 10; refine (awake_true _).mono ?_; rintro e w1 ⟨rfl, hZ⟩)
    | (go_at_call 21; refine (open_any _ _).mono ?_; rintro e w2 ⟨rfl, rfl⟩)
    | (go_at_call 25; refine (numW_at w1.heap.size _ ra n 0 (al4 w1 s) (four w1 s).1 HL.out HA.out).mono ?_; rintro e wa ⟨rfl, ba, A0⟩; have sa := ba.size; simp at sa)
    | (go_at_call 22; refine (intW_at (w1.heap.size + 1) _ rb x e2 wa ((four w1 s).2.1.kept ba (by omega)) HL.out HB.out).mono ?_; rintro e wb ⟨rfl, bb, A1⟩; replace A0 := A0.kept bb (by omega); have sb := bb.size)
    | (go_at_call 23; refine (textW_at (w1.heap.size + 1 + 1) s.size _ rc t 0 wb (((four w1 s).2.2.1.kept ba (by omega)).kept bb (by omega)) HL.out HC.out).mono ?_; rintro e wc ⟨rfl, bc, A2⟩; replace A0 := A0.kept bc (by omega); replace A1 := A1.kept bc (by omega); have sc := bc.size)
    | (go_at_call 24; refine (valueW_er (w1.heap.size + 1 + 1 + 1) _ e4 wc ((((four w1 s).2.2.2.kept ba (by omega)).kept bb (by omega)).kept bc (by omega)) HL.out HD.out).mono ?_; rintro e wd ⟨rfl, bd, A3⟩; replace hZ := Below.step hZ (but_below (but_below (but_below (but_below (below_al4 w1 s) ba (by omega) (by simp; omega)) bb (by omega) (by omega)) bc (by omega) (by omega)) bd (by omega) (by omega)); replace hZ := hZ.alloc hZ.size (.cells #[.int .u8 0, .int .i64 0, .string ⟨#[]⟩] 23); replace A0 := (A0.kept bd (by omega)).al (.cells #[.int .u8 0, .int .i64 0, .string ⟨#[]⟩] 23); replace A1 := (A1.kept bd (by omega)).al (.cells #[.int .u8 0, .int .i64 0, .string ⟨#[]⟩] 23); replace A2 := (A2.kept bd (by omega)).al (.cells #[.int .u8 0, .int .i64 0, .string ⟨#[]⟩] 23); replace A3 := A3.al (.cells #[.int .u8 0, .int .i64 0, .string ⟨#[]⟩] 23); have T3 := three_new wd (.int .u8 0) (.int .i64 0) (.string ⟨#[]⟩); clear ba bb bc bd)
    | (go_at_call 26; (with_reducible refine (lost_any s _ _ _ A0 la).mono ?_); rintro e w2 ⟨rfl, rfl⟩)
    | (go_at_call 26; (with_reducible refine (lost_any s _ _ _ A1 lb).mono ?_); rintro e w2 ⟨rfl, rfl⟩)
    | (go_at_call 26; (with_reducible refine (lost_any s _ _ _ A2 lc).mono ?_); rintro e w2 ⟨rfl, rfl⟩)
    | (go_at_call 26; (with_reducible refine (lost_any s _ _ _ A3 (Nat.zero_le _)).mono ?_); rintro e w2 ⟨rfl, rfl⟩)
    | (go_at_call 27; (with_reducible refine (leftW_any _ _ _ A0).mono ?_); rintro e w2 ⟨rfl, rfl⟩)
    | (go_at_call 27; (with_reducible refine (leftW_any _ _ _ A1).mono ?_); rintro e w2 ⟨rfl, rfl⟩)
    | (go_at_call 27; (with_reducible refine (leftW_any _ _ _ A2).mono ?_); rintro e w2 ⟨rfl, rfl⟩)
    | (go_at_call 27; (with_reducible refine (leftW_any _ _ _ A3).mono ?_); rintro e w2 ⟨rfl, rfl⟩)
    | (go_at_call 11; refine (nb K1.out hn _).mono ?_; rintro e wx ⟨rfl, hb⟩; replace A0 := A0.below hb; replace A1 := A1.below hb; replace A2 := A2.below hb; replace A3 := A3.below hb; replace T3 := T3.below hb; replace hZ := Below.step hZ hb; clear hb; have v0 := T3.c0; have v1 := T3.c1; have v2 := T3.c2)
    | (go_at_call 17; refine (tb K3.out ht _).mono ?_; rintro e wx ⟨rfl, hb⟩; replace A0 := A0.below hb; replace A1 := A1.below hb; replace A2 := A2.below hb; replace A3 := A3.below hb; replace T3 := T3.below hb; replace hZ := Below.step hZ hb; clear hb; have v0 := T3.c0; have v1 := T3.c1; have v2 := T3.c2))
  go_ret
  exact ⟨rfl, hZ⟩
set_option maxRecDepth 100000 in
set_option maxHeartbeats 4000000 in
theorem anew_1011 (s : ByteArray) (w : World) (hs : s.size ≤ 2000) (n : Nat) (x : Int) (t : List UInt8) (v : Vl) (e2 : Nat) (ra rb rc rd : Rs)
    (hA : (Rs.mk s.data.toList 0).num 1099511627776 = ((n, 0), ra)) (hB : (Rs.mk s.data.toList 0).int = ((x, e2), rb)) (hC : (Rs.mk s.data.toList 0).text s.size = ((t, 0), rc)) (hD : (Rs.mk s.data.toList 0).value = ((v, 0), rd))
    (he2 : e2 ≠ 0) :
    Calls Try.prog 6 #[.string s] w fun e w' => e = .returned (.bool true) ∧ Below w.heap.size w w' := by
  have qe2 : ((e2 : Int) == 0) = false := by rw [beq_eq_false_iff_ne]; omega
  have pe2 : ((e2 : Int) != 0) = true := by rw [bne_iff_ne]; omega
  have la : ra.l.length ≤ s.size := by have := num_len 1099511627776 ⟨s.data.toList, 0⟩; rw [hA] at this; simpa using this
  have lb : rb.l.length ≤ s.size := by have := int_len ⟨s.data.toList, 0⟩; rw [hB] at this; simpa using this
  have lc : rc.l.length ≤ s.size := by have := text_len s.size ⟨s.data.toList, 0⟩; rw [hC] at this; simpa using this
  have ld : rd.l.length ≤ s.size := by have := value_len ⟨s.data.toList, 0⟩; rw [hD] at this; simpa using this
  obtain ⟨G1, g1⟩ : ∃ G, G = s.size - ra.l.length := ⟨_, rfl⟩
  have D1 : (s.size : Int) - (ra.l.length : Int) = (G1 : Int) := by omega
  have J1 : G1 ≤ s.size := by omega
  have K1 := Lib.hid (back_of s _ _ (num_inv hA))
  rw [← g1] at K1
  obtain ⟨G3, g3⟩ : ∃ G, G = s.size - rc.l.length := ⟨_, rfl⟩
  have D3 : (s.size : Int) - (rc.l.length : Int) = (G3 : Int) := by omega
  have J3 : G3 ≤ s.size := by omega
  have K3 := Lib.hid (back_of s _ _ ((text_inv hC).1.trans (List.append_assoc _ _ _).symm))
  rw [← g3] at K3
  obtain ⟨G4, g4⟩ : ∃ G, G = s.size - rd.l.length := ⟨_, rfl⟩
  have D4 : (s.size : Int) - (rd.l.length : Int) = (G4 : Int) := by omega
  have J4 : G4 ≤ s.size := by omega
  have K4 := Lib.hid (back_of s _ _ (value_inv hD).1)
  rw [← g4] at K4
  have hn : n ≤ 1099511627776 := (Rs.num_ok hA).2.1
  have ht : t.length ≤ 90000 := by have := (text_inv hC).2.1; simp at this; omega
  have hv := (value_inv hD).2
  have HV := Lib.hid hv
  clear hv
  have hL : (Rs.mk s.data.toList 0).l.length ≤ 1000000 := by simp; omega
  have HL := Lib.hid hL
  have HA := Lib.hid hA
  have HB := Lib.hid hB
  have HC := Lib.hid hC
  have HD := Lib.hid hD
  clear hA hB hC hD hL g1 g3 g4 he2
  go_enter Try.func6, Try.ntmps6
  go_wp2_with (first
    | (go_at_call 10; refine (awake_true _).mono ?_; rintro e w1 ⟨rfl, hZ⟩)
    | (go_at_call 21; refine (open_any _ _).mono ?_; rintro e w2 ⟨rfl, rfl⟩)
    | (go_at_call 25; refine (numW_at w1.heap.size _ ra n 0 (al4 w1 s) (four w1 s).1 HL.out HA.out).mono ?_; rintro e wa ⟨rfl, ba, A0⟩; have sa := ba.size; simp at sa)
    | (go_at_call 22; refine (intW_at (w1.heap.size + 1) _ rb x e2 wa ((four w1 s).2.1.kept ba (by omega)) HL.out HB.out).mono ?_; rintro e wb ⟨rfl, bb, A1⟩; replace A0 := A0.kept bb (by omega); have sb := bb.size)
    | (go_at_call 23; refine (textW_at (w1.heap.size + 1 + 1) s.size _ rc t 0 wb (((four w1 s).2.2.1.kept ba (by omega)).kept bb (by omega)) HL.out HC.out).mono ?_; rintro e wc ⟨rfl, bc, A2⟩; replace A0 := A0.kept bc (by omega); replace A1 := A1.kept bc (by omega); have sc := bc.size)
    | (go_at_call 24; refine (valueW_at (w1.heap.size + 1 + 1 + 1) _ rd v 0 wc ((((four w1 s).2.2.2.kept ba (by omega)).kept bb (by omega)).kept bc (by omega)) HL.out HD.out).mono ?_; rintro e wd ⟨rfl, bd, A3⟩; replace hZ := Below.step hZ (but_below (but_below (but_below (but_below (below_al4 w1 s) ba (by omega) (by simp; omega)) bb (by omega) (by omega)) bc (by omega) (by omega)) bd (by omega) (by omega)); replace hZ := hZ.alloc hZ.size (.cells #[.int .u8 v.k, .int .i64 v.n, .string ⟨v.t.toArray⟩] 23); replace A0 := (A0.kept bd (by omega)).al (.cells #[.int .u8 v.k, .int .i64 v.n, .string ⟨v.t.toArray⟩] 23); replace A1 := (A1.kept bd (by omega)).al (.cells #[.int .u8 v.k, .int .i64 v.n, .string ⟨v.t.toArray⟩] 23); replace A2 := (A2.kept bd (by omega)).al (.cells #[.int .u8 v.k, .int .i64 v.n, .string ⟨v.t.toArray⟩] 23); replace A3 := A3.al (.cells #[.int .u8 v.k, .int .i64 v.n, .string ⟨v.t.toArray⟩] 23); have T3 := three_new wd (.int .u8 v.k) (.int .i64 v.n) (.string ⟨v.t.toArray⟩); clear ba bb bc bd)
    | (go_at_call 26; (with_reducible refine (lost_any s _ _ _ A0 la).mono ?_); rintro e w2 ⟨rfl, rfl⟩)
    | (go_at_call 26; (with_reducible refine (lost_any s _ _ _ A1 lb).mono ?_); rintro e w2 ⟨rfl, rfl⟩)
    | (go_at_call 26; (with_reducible refine (lost_any s _ _ _ A2 lc).mono ?_); rintro e w2 ⟨rfl, rfl⟩)
    | (go_at_call 26; (with_reducible refine (lost_any s _ _ _ A3 ld).mono ?_); rintro e w2 ⟨rfl, rfl⟩)
    | (go_at_call 27; (with_reducible refine (leftW_any _ _ _ A0).mono ?_); rintro e w2 ⟨rfl, rfl⟩)
    | (go_at_call 27; (with_reducible refine (leftW_any _ _ _ A1).mono ?_); rintro e w2 ⟨rfl, rfl⟩)
    | (go_at_call 27; (with_reducible refine (leftW_any _ _ _ A2).mono ?_); rintro e w2 ⟨rfl, rfl⟩)
    | (go_at_call 27; (with_reducible refine (leftW_any _ _ _ A3).mono ?_); rintro e w2 ⟨rfl, rfl⟩)
    | (go_at_call 11; refine (nb K1.out hn _).mono ?_; rintro e wx ⟨rfl, hb⟩; replace A0 := A0.below hb; replace A1 := A1.below hb; replace A2 := A2.below hb; replace A3 := A3.below hb; replace T3 := T3.below hb; replace hZ := Below.step hZ hb; clear hb; have v0 := T3.c0; have v1 := T3.c1; have v2 := T3.c2)
    | (go_at_call 17; refine (tb K3.out ht _).mono ?_; rintro e wx ⟨rfl, hb⟩; replace A0 := A0.below hb; replace A1 := A1.below hb; replace A2 := A2.below hb; replace A3 := A3.below hb; replace T3 := T3.below hb; replace hZ := Below.step hZ hb; clear hb; have v0 := T3.c0; have v1 := T3.c1; have v2 := T3.c2)
    | (go_at_call 13; refine (vb K4.out HV.out.2.1 HV.out.2.2 HV.out.1 _).mono ?_; rintro e wx ⟨rfl, hb⟩; replace A0 := A0.below hb; replace A1 := A1.below hb; replace A2 := A2.below hb; replace A3 := A3.below hb; replace T3 := T3.below hb; replace hZ := Below.step hZ hb; clear hb; have v0 := T3.c0; have v1 := T3.c1; have v2 := T3.c2))
  go_ret
  exact ⟨rfl, hZ⟩
set_option maxRecDepth 100000 in
set_option maxHeartbeats 4000000 in
theorem anew_1100 (s : ByteArray) (w : World) (hs : s.size ≤ 2000) (n : Nat) (x : Int) (t : List UInt8) (e3 e4 : Nat) (ra rb rc : Rs)
    (hA : (Rs.mk s.data.toList 0).num 1099511627776 = ((n, 0), ra)) (hB : (Rs.mk s.data.toList 0).int = ((x, 0), rb)) (hC : (Rs.mk s.data.toList 0).text s.size = ((t, e3), rc)) (hD : (Rs.mk s.data.toList 0).value = ((Vl.zero, e4), ⟨[], e4⟩))
    (he3 : e3 ≠ 0) (he4 : e4 ≠ 0) :
    Calls Try.prog 6 #[.string s] w fun e w' => e = .returned (.bool true) ∧ Below w.heap.size w w' := by
  have qe3 : ((e3 : Int) == 0) = false := by rw [beq_eq_false_iff_ne]; omega
  have pe3 : ((e3 : Int) != 0) = true := by rw [bne_iff_ne]; omega
  have qe4 : ((e4 : Int) == 0) = false := by rw [beq_eq_false_iff_ne]; omega
  have pe4 : ((e4 : Int) != 0) = true := by rw [bne_iff_ne]; omega
  have la : ra.l.length ≤ s.size := by have := num_len 1099511627776 ⟨s.data.toList, 0⟩; rw [hA] at this; simpa using this
  have lb : rb.l.length ≤ s.size := by have := int_len ⟨s.data.toList, 0⟩; rw [hB] at this; simpa using this
  have lc : rc.l.length ≤ s.size := by have := text_len s.size ⟨s.data.toList, 0⟩; rw [hC] at this; simpa using this
  obtain ⟨G1, g1⟩ : ∃ G, G = s.size - ra.l.length := ⟨_, rfl⟩
  have D1 : (s.size : Int) - (ra.l.length : Int) = (G1 : Int) := by omega
  have J1 : G1 ≤ s.size := by omega
  have K1 := Lib.hid (back_of s _ _ (num_inv hA))
  rw [← g1] at K1
  obtain ⟨G2, g2⟩ : ∃ G, G = s.size - rb.l.length := ⟨_, rfl⟩
  have D2 : (s.size : Int) - (rb.l.length : Int) = (G2 : Int) := by omega
  have J2 : G2 ≤ s.size := by omega
  have K2 := Lib.hid (back_of s _ _ (int_inv hB).1)
  rw [← g2] at K2
  have hn : n ≤ 1099511627776 := (Rs.num_ok hA).2.1
  have hx := (int_inv hB).2
  have hL : (Rs.mk s.data.toList 0).l.length ≤ 1000000 := by simp; omega
  have HL := Lib.hid hL
  have HA := Lib.hid hA
  have HB := Lib.hid hB
  have HC := Lib.hid hC
  have HD := Lib.hid hD
  clear hA hB hC hD hL g1 g2 he3 he4
  go_enter Try.func6, Try.ntmps6
  go_wp2_with (first
    | (go_at_call 10; refine (awake_true _).mono ?_; rintro e w1 ⟨rfl, hZ⟩)
    | (go_at_call 21; refine (open_any _ _).mono ?_; rintro e w2 ⟨rfl, rfl⟩)
    | (go_at_call 25; refine (numW_at w1.heap.size _ ra n 0 (al4 w1 s) (four w1 s).1 HL.out HA.out).mono ?_; rintro e wa ⟨rfl, ba, A0⟩; have sa := ba.size; simp at sa)
    | (go_at_call 22; refine (intW_at (w1.heap.size + 1) _ rb x 0 wa ((four w1 s).2.1.kept ba (by omega)) HL.out HB.out).mono ?_; rintro e wb ⟨rfl, bb, A1⟩; replace A0 := A0.kept bb (by omega); have sb := bb.size)
    | (go_at_call 23; refine (textW_at (w1.heap.size + 1 + 1) s.size _ rc t e3 wb (((four w1 s).2.2.1.kept ba (by omega)).kept bb (by omega)) HL.out HC.out).mono ?_; rintro e wc ⟨rfl, bc, A2⟩; replace A0 := A0.kept bc (by omega); replace A1 := A1.kept bc (by omega); have sc := bc.size)
    | (go_at_call 24; refine (valueW_er (w1.heap.size + 1 + 1 + 1) _ e4 wc ((((four w1 s).2.2.2.kept ba (by omega)).kept bb (by omega)).kept bc (by omega)) HL.out HD.out).mono ?_; rintro e wd ⟨rfl, bd, A3⟩; replace hZ := Below.step hZ (but_below (but_below (but_below (but_below (below_al4 w1 s) ba (by omega) (by simp; omega)) bb (by omega) (by omega)) bc (by omega) (by omega)) bd (by omega) (by omega)); replace hZ := hZ.alloc hZ.size (.cells #[.int .u8 0, .int .i64 0, .string ⟨#[]⟩] 23); replace A0 := (A0.kept bd (by omega)).al (.cells #[.int .u8 0, .int .i64 0, .string ⟨#[]⟩] 23); replace A1 := (A1.kept bd (by omega)).al (.cells #[.int .u8 0, .int .i64 0, .string ⟨#[]⟩] 23); replace A2 := (A2.kept bd (by omega)).al (.cells #[.int .u8 0, .int .i64 0, .string ⟨#[]⟩] 23); replace A3 := A3.al (.cells #[.int .u8 0, .int .i64 0, .string ⟨#[]⟩] 23); have T3 := three_new wd (.int .u8 0) (.int .i64 0) (.string ⟨#[]⟩); clear ba bb bc bd)
    | (go_at_call 26; (with_reducible refine (lost_any s _ _ _ A0 la).mono ?_); rintro e w2 ⟨rfl, rfl⟩)
    | (go_at_call 26; (with_reducible refine (lost_any s _ _ _ A1 lb).mono ?_); rintro e w2 ⟨rfl, rfl⟩)
    | (go_at_call 26; (with_reducible refine (lost_any s _ _ _ A2 lc).mono ?_); rintro e w2 ⟨rfl, rfl⟩)
    | (go_at_call 26; (with_reducible refine (lost_any s _ _ _ A3 (Nat.zero_le _)).mono ?_); rintro e w2 ⟨rfl, rfl⟩)
    | (go_at_call 27; (with_reducible refine (leftW_any _ _ _ A0).mono ?_); rintro e w2 ⟨rfl, rfl⟩)
    | (go_at_call 27; (with_reducible refine (leftW_any _ _ _ A1).mono ?_); rintro e w2 ⟨rfl, rfl⟩)
    | (go_at_call 27; (with_reducible refine (leftW_any _ _ _ A2).mono ?_); rintro e w2 ⟨rfl, rfl⟩)
    | (go_at_call 27; (with_reducible refine (leftW_any _ _ _ A3).mono ?_); rintro e w2 ⟨rfl, rfl⟩)
    | (go_at_call 11; refine (nb K1.out hn _).mono ?_; rintro e wx ⟨rfl, hb⟩; replace A0 := A0.below hb; replace A1 := A1.below hb; replace A2 := A2.below hb; replace A3 := A3.below hb; replace T3 := T3.below hb; replace hZ := Below.step hZ hb; clear hb; have v0 := T3.c0; have v1 := T3.c1; have v2 := T3.c2)
    | (go_at_call 15; refine (ib K2.out hx.1 hx.2 _).mono ?_; rintro e wx ⟨rfl, hb⟩; replace A0 := A0.below hb; replace A1 := A1.below hb; replace A2 := A2.below hb; replace A3 := A3.below hb; replace T3 := T3.below hb; replace hZ := Below.step hZ hb; clear hb; have v0 := T3.c0; have v1 := T3.c1; have v2 := T3.c2))
  go_ret
  exact ⟨rfl, hZ⟩
set_option maxRecDepth 100000 in
set_option maxHeartbeats 4000000 in
theorem anew_1101 (s : ByteArray) (w : World) (hs : s.size ≤ 2000) (n : Nat) (x : Int) (t : List UInt8) (v : Vl) (e3 : Nat) (ra rb rc rd : Rs)
    (hA : (Rs.mk s.data.toList 0).num 1099511627776 = ((n, 0), ra)) (hB : (Rs.mk s.data.toList 0).int = ((x, 0), rb)) (hC : (Rs.mk s.data.toList 0).text s.size = ((t, e3), rc)) (hD : (Rs.mk s.data.toList 0).value = ((v, 0), rd))
    (he3 : e3 ≠ 0) :
    Calls Try.prog 6 #[.string s] w fun e w' => e = .returned (.bool true) ∧ Below w.heap.size w w' := by
  have qe3 : ((e3 : Int) == 0) = false := by rw [beq_eq_false_iff_ne]; omega
  have pe3 : ((e3 : Int) != 0) = true := by rw [bne_iff_ne]; omega
  have la : ra.l.length ≤ s.size := by have := num_len 1099511627776 ⟨s.data.toList, 0⟩; rw [hA] at this; simpa using this
  have lb : rb.l.length ≤ s.size := by have := int_len ⟨s.data.toList, 0⟩; rw [hB] at this; simpa using this
  have lc : rc.l.length ≤ s.size := by have := text_len s.size ⟨s.data.toList, 0⟩; rw [hC] at this; simpa using this
  have ld : rd.l.length ≤ s.size := by have := value_len ⟨s.data.toList, 0⟩; rw [hD] at this; simpa using this
  obtain ⟨G1, g1⟩ : ∃ G, G = s.size - ra.l.length := ⟨_, rfl⟩
  have D1 : (s.size : Int) - (ra.l.length : Int) = (G1 : Int) := by omega
  have J1 : G1 ≤ s.size := by omega
  have K1 := Lib.hid (back_of s _ _ (num_inv hA))
  rw [← g1] at K1
  obtain ⟨G2, g2⟩ : ∃ G, G = s.size - rb.l.length := ⟨_, rfl⟩
  have D2 : (s.size : Int) - (rb.l.length : Int) = (G2 : Int) := by omega
  have J2 : G2 ≤ s.size := by omega
  have K2 := Lib.hid (back_of s _ _ (int_inv hB).1)
  rw [← g2] at K2
  obtain ⟨G4, g4⟩ : ∃ G, G = s.size - rd.l.length := ⟨_, rfl⟩
  have D4 : (s.size : Int) - (rd.l.length : Int) = (G4 : Int) := by omega
  have J4 : G4 ≤ s.size := by omega
  have K4 := Lib.hid (back_of s _ _ (value_inv hD).1)
  rw [← g4] at K4
  have hn : n ≤ 1099511627776 := (Rs.num_ok hA).2.1
  have hx := (int_inv hB).2
  have hv := (value_inv hD).2
  have HV := Lib.hid hv
  clear hv
  have hL : (Rs.mk s.data.toList 0).l.length ≤ 1000000 := by simp; omega
  have HL := Lib.hid hL
  have HA := Lib.hid hA
  have HB := Lib.hid hB
  have HC := Lib.hid hC
  have HD := Lib.hid hD
  clear hA hB hC hD hL g1 g2 g4 he3
  go_enter Try.func6, Try.ntmps6
  go_wp2_with (first
    | (go_at_call 10; refine (awake_true _).mono ?_; rintro e w1 ⟨rfl, hZ⟩)
    | (go_at_call 21; refine (open_any _ _).mono ?_; rintro e w2 ⟨rfl, rfl⟩)
    | (go_at_call 25; refine (numW_at w1.heap.size _ ra n 0 (al4 w1 s) (four w1 s).1 HL.out HA.out).mono ?_; rintro e wa ⟨rfl, ba, A0⟩; have sa := ba.size; simp at sa)
    | (go_at_call 22; refine (intW_at (w1.heap.size + 1) _ rb x 0 wa ((four w1 s).2.1.kept ba (by omega)) HL.out HB.out).mono ?_; rintro e wb ⟨rfl, bb, A1⟩; replace A0 := A0.kept bb (by omega); have sb := bb.size)
    | (go_at_call 23; refine (textW_at (w1.heap.size + 1 + 1) s.size _ rc t e3 wb (((four w1 s).2.2.1.kept ba (by omega)).kept bb (by omega)) HL.out HC.out).mono ?_; rintro e wc ⟨rfl, bc, A2⟩; replace A0 := A0.kept bc (by omega); replace A1 := A1.kept bc (by omega); have sc := bc.size)
    | (go_at_call 24; refine (valueW_at (w1.heap.size + 1 + 1 + 1) _ rd v 0 wc ((((four w1 s).2.2.2.kept ba (by omega)).kept bb (by omega)).kept bc (by omega)) HL.out HD.out).mono ?_; rintro e wd ⟨rfl, bd, A3⟩; replace hZ := Below.step hZ (but_below (but_below (but_below (but_below (below_al4 w1 s) ba (by omega) (by simp; omega)) bb (by omega) (by omega)) bc (by omega) (by omega)) bd (by omega) (by omega)); replace hZ := hZ.alloc hZ.size (.cells #[.int .u8 v.k, .int .i64 v.n, .string ⟨v.t.toArray⟩] 23); replace A0 := (A0.kept bd (by omega)).al (.cells #[.int .u8 v.k, .int .i64 v.n, .string ⟨v.t.toArray⟩] 23); replace A1 := (A1.kept bd (by omega)).al (.cells #[.int .u8 v.k, .int .i64 v.n, .string ⟨v.t.toArray⟩] 23); replace A2 := (A2.kept bd (by omega)).al (.cells #[.int .u8 v.k, .int .i64 v.n, .string ⟨v.t.toArray⟩] 23); replace A3 := A3.al (.cells #[.int .u8 v.k, .int .i64 v.n, .string ⟨v.t.toArray⟩] 23); have T3 := three_new wd (.int .u8 v.k) (.int .i64 v.n) (.string ⟨v.t.toArray⟩); clear ba bb bc bd)
    | (go_at_call 26; (with_reducible refine (lost_any s _ _ _ A0 la).mono ?_); rintro e w2 ⟨rfl, rfl⟩)
    | (go_at_call 26; (with_reducible refine (lost_any s _ _ _ A1 lb).mono ?_); rintro e w2 ⟨rfl, rfl⟩)
    | (go_at_call 26; (with_reducible refine (lost_any s _ _ _ A2 lc).mono ?_); rintro e w2 ⟨rfl, rfl⟩)
    | (go_at_call 26; (with_reducible refine (lost_any s _ _ _ A3 ld).mono ?_); rintro e w2 ⟨rfl, rfl⟩)
    | (go_at_call 27; (with_reducible refine (leftW_any _ _ _ A0).mono ?_); rintro e w2 ⟨rfl, rfl⟩)
    | (go_at_call 27; (with_reducible refine (leftW_any _ _ _ A1).mono ?_); rintro e w2 ⟨rfl, rfl⟩)
    | (go_at_call 27; (with_reducible refine (leftW_any _ _ _ A2).mono ?_); rintro e w2 ⟨rfl, rfl⟩)
    | (go_at_call 27; (with_reducible refine (leftW_any _ _ _ A3).mono ?_); rintro e w2 ⟨rfl, rfl⟩)
    | (go_at_call 11; refine (nb K1.out hn _).mono ?_; rintro e wx ⟨rfl, hb⟩; replace A0 := A0.below hb; replace A1 := A1.below hb; replace A2 := A2.below hb; replace A3 := A3.below hb; replace T3 := T3.below hb; replace hZ := Below.step hZ hb; clear hb; have v0 := T3.c0; have v1 := T3.c1; have v2 := T3.c2)
    | (go_at_call 15; refine (ib K2.out hx.1 hx.2 _).mono ?_; rintro e wx ⟨rfl, hb⟩; replace A0 := A0.below hb; replace A1 := A1.below hb; replace A2 := A2.below hb; replace A3 := A3.below hb; replace T3 := T3.below hb; replace hZ := Below.step hZ hb; clear hb; have v0 := T3.c0; have v1 := T3.c1; have v2 := T3.c2)
    | (go_at_call 13; refine (vb K4.out HV.out.2.1 HV.out.2.2 HV.out.1 _).mono ?_; rintro e wx ⟨rfl, hb⟩; replace A0 := A0.below hb; replace A1 := A1.below hb; replace A2 := A2.below hb; replace A3 := A3.below hb; replace T3 := T3.below hb; replace hZ := Below.step hZ hb; clear hb; have v0 := T3.c0; have v1 := T3.c1; have v2 := T3.c2))
  go_ret
  exact ⟨rfl, hZ⟩
set_option maxRecDepth 100000 in
set_option maxHeartbeats 4000000 in
theorem anew_1110 (s : ByteArray) (w : World) (hs : s.size ≤ 2000) (n : Nat) (x : Int) (t : List UInt8) (e4 : Nat) (ra rb rc : Rs)
    (hA : (Rs.mk s.data.toList 0).num 1099511627776 = ((n, 0), ra)) (hB : (Rs.mk s.data.toList 0).int = ((x, 0), rb)) (hC : (Rs.mk s.data.toList 0).text s.size = ((t, 0), rc)) (hD : (Rs.mk s.data.toList 0).value = ((Vl.zero, e4), ⟨[], e4⟩))
    (he4 : e4 ≠ 0) :
    Calls Try.prog 6 #[.string s] w fun e w' => e = .returned (.bool true) ∧ Below w.heap.size w w' := by
  have qe4 : ((e4 : Int) == 0) = false := by rw [beq_eq_false_iff_ne]; omega
  have pe4 : ((e4 : Int) != 0) = true := by rw [bne_iff_ne]; omega
  have la : ra.l.length ≤ s.size := by have := num_len 1099511627776 ⟨s.data.toList, 0⟩; rw [hA] at this; simpa using this
  have lb : rb.l.length ≤ s.size := by have := int_len ⟨s.data.toList, 0⟩; rw [hB] at this; simpa using this
  have lc : rc.l.length ≤ s.size := by have := text_len s.size ⟨s.data.toList, 0⟩; rw [hC] at this; simpa using this
  obtain ⟨G1, g1⟩ : ∃ G, G = s.size - ra.l.length := ⟨_, rfl⟩
  have D1 : (s.size : Int) - (ra.l.length : Int) = (G1 : Int) := by omega
  have J1 : G1 ≤ s.size := by omega
  have K1 := Lib.hid (back_of s _ _ (num_inv hA))
  rw [← g1] at K1
  obtain ⟨G2, g2⟩ : ∃ G, G = s.size - rb.l.length := ⟨_, rfl⟩
  have D2 : (s.size : Int) - (rb.l.length : Int) = (G2 : Int) := by omega
  have J2 : G2 ≤ s.size := by omega
  have K2 := Lib.hid (back_of s _ _ (int_inv hB).1)
  rw [← g2] at K2
  obtain ⟨G3, g3⟩ : ∃ G, G = s.size - rc.l.length := ⟨_, rfl⟩
  have D3 : (s.size : Int) - (rc.l.length : Int) = (G3 : Int) := by omega
  have J3 : G3 ≤ s.size := by omega
  have K3 := Lib.hid (back_of s _ _ ((text_inv hC).1.trans (List.append_assoc _ _ _).symm))
  rw [← g3] at K3
  have hn : n ≤ 1099511627776 := (Rs.num_ok hA).2.1
  have hx := (int_inv hB).2
  have ht : t.length ≤ 90000 := by have := (text_inv hC).2.1; simp at this; omega
  have hL : (Rs.mk s.data.toList 0).l.length ≤ 1000000 := by simp; omega
  have HL := Lib.hid hL
  have HA := Lib.hid hA
  have HB := Lib.hid hB
  have HC := Lib.hid hC
  have HD := Lib.hid hD
  clear hA hB hC hD hL g1 g2 g3 he4
  go_enter Try.func6, Try.ntmps6
  go_wp2_with (first
    | (go_at_call 10; refine (awake_true _).mono ?_; rintro e w1 ⟨rfl, hZ⟩)
    | (go_at_call 21; refine (open_any _ _).mono ?_; rintro e w2 ⟨rfl, rfl⟩)
    | (go_at_call 25; refine (numW_at w1.heap.size _ ra n 0 (al4 w1 s) (four w1 s).1 HL.out HA.out).mono ?_; rintro e wa ⟨rfl, ba, A0⟩; have sa := ba.size; simp at sa)
    | (go_at_call 22; refine (intW_at (w1.heap.size + 1) _ rb x 0 wa ((four w1 s).2.1.kept ba (by omega)) HL.out HB.out).mono ?_; rintro e wb ⟨rfl, bb, A1⟩; replace A0 := A0.kept bb (by omega); have sb := bb.size)
    | (go_at_call 23; refine (textW_at (w1.heap.size + 1 + 1) s.size _ rc t 0 wb (((four w1 s).2.2.1.kept ba (by omega)).kept bb (by omega)) HL.out HC.out).mono ?_; rintro e wc ⟨rfl, bc, A2⟩; replace A0 := A0.kept bc (by omega); replace A1 := A1.kept bc (by omega); have sc := bc.size)
    | (go_at_call 24; refine (valueW_er (w1.heap.size + 1 + 1 + 1) _ e4 wc ((((four w1 s).2.2.2.kept ba (by omega)).kept bb (by omega)).kept bc (by omega)) HL.out HD.out).mono ?_; rintro e wd ⟨rfl, bd, A3⟩; replace hZ := Below.step hZ (but_below (but_below (but_below (but_below (below_al4 w1 s) ba (by omega) (by simp; omega)) bb (by omega) (by omega)) bc (by omega) (by omega)) bd (by omega) (by omega)); replace hZ := hZ.alloc hZ.size (.cells #[.int .u8 0, .int .i64 0, .string ⟨#[]⟩] 23); replace A0 := (A0.kept bd (by omega)).al (.cells #[.int .u8 0, .int .i64 0, .string ⟨#[]⟩] 23); replace A1 := (A1.kept bd (by omega)).al (.cells #[.int .u8 0, .int .i64 0, .string ⟨#[]⟩] 23); replace A2 := (A2.kept bd (by omega)).al (.cells #[.int .u8 0, .int .i64 0, .string ⟨#[]⟩] 23); replace A3 := A3.al (.cells #[.int .u8 0, .int .i64 0, .string ⟨#[]⟩] 23); have T3 := three_new wd (.int .u8 0) (.int .i64 0) (.string ⟨#[]⟩); clear ba bb bc bd)
    | (go_at_call 26; (with_reducible refine (lost_any s _ _ _ A0 la).mono ?_); rintro e w2 ⟨rfl, rfl⟩)
    | (go_at_call 26; (with_reducible refine (lost_any s _ _ _ A1 lb).mono ?_); rintro e w2 ⟨rfl, rfl⟩)
    | (go_at_call 26; (with_reducible refine (lost_any s _ _ _ A2 lc).mono ?_); rintro e w2 ⟨rfl, rfl⟩)
    | (go_at_call 26; (with_reducible refine (lost_any s _ _ _ A3 (Nat.zero_le _)).mono ?_); rintro e w2 ⟨rfl, rfl⟩)
    | (go_at_call 27; (with_reducible refine (leftW_any _ _ _ A0).mono ?_); rintro e w2 ⟨rfl, rfl⟩)
    | (go_at_call 27; (with_reducible refine (leftW_any _ _ _ A1).mono ?_); rintro e w2 ⟨rfl, rfl⟩)
    | (go_at_call 27; (with_reducible refine (leftW_any _ _ _ A2).mono ?_); rintro e w2 ⟨rfl, rfl⟩)
    | (go_at_call 27; (with_reducible refine (leftW_any _ _ _ A3).mono ?_); rintro e w2 ⟨rfl, rfl⟩)
    | (go_at_call 11; refine (nb K1.out hn _).mono ?_; rintro e wx ⟨rfl, hb⟩; replace A0 := A0.below hb; replace A1 := A1.below hb; replace A2 := A2.below hb; replace A3 := A3.below hb; replace T3 := T3.below hb; replace hZ := Below.step hZ hb; clear hb; have v0 := T3.c0; have v1 := T3.c1; have v2 := T3.c2)
    | (go_at_call 15; refine (ib K2.out hx.1 hx.2 _).mono ?_; rintro e wx ⟨rfl, hb⟩; replace A0 := A0.below hb; replace A1 := A1.below hb; replace A2 := A2.below hb; replace A3 := A3.below hb; replace T3 := T3.below hb; replace hZ := Below.step hZ hb; clear hb; have v0 := T3.c0; have v1 := T3.c1; have v2 := T3.c2)
    | (go_at_call 17; refine (tb K3.out ht _).mono ?_; rintro e wx ⟨rfl, hb⟩; replace A0 := A0.below hb; replace A1 := A1.below hb; replace A2 := A2.below hb; replace A3 := A3.below hb; replace T3 := T3.below hb; replace hZ := Below.step hZ hb; clear hb; have v0 := T3.c0; have v1 := T3.c1; have v2 := T3.c2))
  go_ret
  exact ⟨rfl, hZ⟩
set_option maxRecDepth 100000 in
set_option maxHeartbeats 4000000 in
theorem anew_1111 (s : ByteArray) (w : World) (hs : s.size ≤ 2000) (n : Nat) (x : Int) (t : List UInt8) (v : Vl) (ra rb rc rd : Rs)
    (hA : (Rs.mk s.data.toList 0).num 1099511627776 = ((n, 0), ra)) (hB : (Rs.mk s.data.toList 0).int = ((x, 0), rb)) (hC : (Rs.mk s.data.toList 0).text s.size = ((t, 0), rc)) (hD : (Rs.mk s.data.toList 0).value = ((v, 0), rd)) :
    Calls Try.prog 6 #[.string s] w fun e w' => e = .returned (.bool true) ∧ Below w.heap.size w w' := by
  have la : ra.l.length ≤ s.size := by have := num_len 1099511627776 ⟨s.data.toList, 0⟩; rw [hA] at this; simpa using this
  have lb : rb.l.length ≤ s.size := by have := int_len ⟨s.data.toList, 0⟩; rw [hB] at this; simpa using this
  have lc : rc.l.length ≤ s.size := by have := text_len s.size ⟨s.data.toList, 0⟩; rw [hC] at this; simpa using this
  have ld : rd.l.length ≤ s.size := by have := value_len ⟨s.data.toList, 0⟩; rw [hD] at this; simpa using this
  obtain ⟨G1, g1⟩ : ∃ G, G = s.size - ra.l.length := ⟨_, rfl⟩
  have D1 : (s.size : Int) - (ra.l.length : Int) = (G1 : Int) := by omega
  have J1 : G1 ≤ s.size := by omega
  have K1 := Lib.hid (back_of s _ _ (num_inv hA))
  rw [← g1] at K1
  obtain ⟨G2, g2⟩ : ∃ G, G = s.size - rb.l.length := ⟨_, rfl⟩
  have D2 : (s.size : Int) - (rb.l.length : Int) = (G2 : Int) := by omega
  have J2 : G2 ≤ s.size := by omega
  have K2 := Lib.hid (back_of s _ _ (int_inv hB).1)
  rw [← g2] at K2
  obtain ⟨G3, g3⟩ : ∃ G, G = s.size - rc.l.length := ⟨_, rfl⟩
  have D3 : (s.size : Int) - (rc.l.length : Int) = (G3 : Int) := by omega
  have J3 : G3 ≤ s.size := by omega
  have K3 := Lib.hid (back_of s _ _ ((text_inv hC).1.trans (List.append_assoc _ _ _).symm))
  rw [← g3] at K3
  obtain ⟨G4, g4⟩ : ∃ G, G = s.size - rd.l.length := ⟨_, rfl⟩
  have D4 : (s.size : Int) - (rd.l.length : Int) = (G4 : Int) := by omega
  have J4 : G4 ≤ s.size := by omega
  have K4 := Lib.hid (back_of s _ _ (value_inv hD).1)
  rw [← g4] at K4
  have hn : n ≤ 1099511627776 := (Rs.num_ok hA).2.1
  have hx := (int_inv hB).2
  have ht : t.length ≤ 90000 := by have := (text_inv hC).2.1; simp at this; omega
  have hv := (value_inv hD).2
  have HV := Lib.hid hv
  clear hv
  have hL : (Rs.mk s.data.toList 0).l.length ≤ 1000000 := by simp; omega
  have HL := Lib.hid hL
  have HA := Lib.hid hA
  have HB := Lib.hid hB
  have HC := Lib.hid hC
  have HD := Lib.hid hD
  clear hA hB hC hD hL g1 g2 g3 g4
  go_enter Try.func6, Try.ntmps6
  go_wp2_with (first
    | (go_at_call 10; refine (awake_true _).mono ?_; rintro e w1 ⟨rfl, hZ⟩)
    | (go_at_call 21; refine (open_any _ _).mono ?_; rintro e w2 ⟨rfl, rfl⟩)
    | (go_at_call 25; refine (numW_at w1.heap.size _ ra n 0 (al4 w1 s) (four w1 s).1 HL.out HA.out).mono ?_; rintro e wa ⟨rfl, ba, A0⟩; have sa := ba.size; simp at sa)
    | (go_at_call 22; refine (intW_at (w1.heap.size + 1) _ rb x 0 wa ((four w1 s).2.1.kept ba (by omega)) HL.out HB.out).mono ?_; rintro e wb ⟨rfl, bb, A1⟩; replace A0 := A0.kept bb (by omega); have sb := bb.size)
    | (go_at_call 23; refine (textW_at (w1.heap.size + 1 + 1) s.size _ rc t 0 wb (((four w1 s).2.2.1.kept ba (by omega)).kept bb (by omega)) HL.out HC.out).mono ?_; rintro e wc ⟨rfl, bc, A2⟩; replace A0 := A0.kept bc (by omega); replace A1 := A1.kept bc (by omega); have sc := bc.size)
    | (go_at_call 24; refine (valueW_at (w1.heap.size + 1 + 1 + 1) _ rd v 0 wc ((((four w1 s).2.2.2.kept ba (by omega)).kept bb (by omega)).kept bc (by omega)) HL.out HD.out).mono ?_; rintro e wd ⟨rfl, bd, A3⟩; replace hZ := Below.step hZ (but_below (but_below (but_below (but_below (below_al4 w1 s) ba (by omega) (by simp; omega)) bb (by omega) (by omega)) bc (by omega) (by omega)) bd (by omega) (by omega)); replace hZ := hZ.alloc hZ.size (.cells #[.int .u8 v.k, .int .i64 v.n, .string ⟨v.t.toArray⟩] 23); replace A0 := (A0.kept bd (by omega)).al (.cells #[.int .u8 v.k, .int .i64 v.n, .string ⟨v.t.toArray⟩] 23); replace A1 := (A1.kept bd (by omega)).al (.cells #[.int .u8 v.k, .int .i64 v.n, .string ⟨v.t.toArray⟩] 23); replace A2 := (A2.kept bd (by omega)).al (.cells #[.int .u8 v.k, .int .i64 v.n, .string ⟨v.t.toArray⟩] 23); replace A3 := A3.al (.cells #[.int .u8 v.k, .int .i64 v.n, .string ⟨v.t.toArray⟩] 23); have T3 := three_new wd (.int .u8 v.k) (.int .i64 v.n) (.string ⟨v.t.toArray⟩); clear ba bb bc bd)
    | (go_at_call 26; (with_reducible refine (lost_any s _ _ _ A0 la).mono ?_); rintro e w2 ⟨rfl, rfl⟩)
    | (go_at_call 26; (with_reducible refine (lost_any s _ _ _ A1 lb).mono ?_); rintro e w2 ⟨rfl, rfl⟩)
    | (go_at_call 26; (with_reducible refine (lost_any s _ _ _ A2 lc).mono ?_); rintro e w2 ⟨rfl, rfl⟩)
    | (go_at_call 26; (with_reducible refine (lost_any s _ _ _ A3 ld).mono ?_); rintro e w2 ⟨rfl, rfl⟩)
    | (go_at_call 27; (with_reducible refine (leftW_any _ _ _ A0).mono ?_); rintro e w2 ⟨rfl, rfl⟩)
    | (go_at_call 27; (with_reducible refine (leftW_any _ _ _ A1).mono ?_); rintro e w2 ⟨rfl, rfl⟩)
    | (go_at_call 27; (with_reducible refine (leftW_any _ _ _ A2).mono ?_); rintro e w2 ⟨rfl, rfl⟩)
    | (go_at_call 27; (with_reducible refine (leftW_any _ _ _ A3).mono ?_); rintro e w2 ⟨rfl, rfl⟩)
    | (go_at_call 11; refine (nb K1.out hn _).mono ?_; rintro e wx ⟨rfl, hb⟩; replace A0 := A0.below hb; replace A1 := A1.below hb; replace A2 := A2.below hb; replace A3 := A3.below hb; replace T3 := T3.below hb; replace hZ := Below.step hZ hb; clear hb; have v0 := T3.c0; have v1 := T3.c1; have v2 := T3.c2)
    | (go_at_call 15; refine (ib K2.out hx.1 hx.2 _).mono ?_; rintro e wx ⟨rfl, hb⟩; replace A0 := A0.below hb; replace A1 := A1.below hb; replace A2 := A2.below hb; replace A3 := A3.below hb; replace T3 := T3.below hb; replace hZ := Below.step hZ hb; clear hb; have v0 := T3.c0; have v1 := T3.c1; have v2 := T3.c2)
    | (go_at_call 17; refine (tb K3.out ht _).mono ?_; rintro e wx ⟨rfl, hb⟩; replace A0 := A0.below hb; replace A1 := A1.below hb; replace A2 := A2.below hb; replace A3 := A3.below hb; replace T3 := T3.below hb; replace hZ := Below.step hZ hb; clear hb; have v0 := T3.c0; have v1 := T3.c1; have v2 := T3.c2)
    | (go_at_call 13; refine (vb K4.out HV.out.2.1 HV.out.2.2 HV.out.1 _).mono ?_; rintro e wx ⟨rfl, hb⟩; replace A0 := A0.below hb; replace A1 := A1.below hb; replace A2 := A2.below hb; replace A3 := A3.below hb; replace T3 := T3.below hb; replace hZ := Below.step hZ hb; clear hb; have v0 := T3.c0; have v1 := T3.c1; have v2 := T3.c2))
  go_ret
  exact ⟨rfl, hZ⟩
set_option maxRecDepth 100000 in
theorem anew_big (s : ByteArray) (w : World) (hs : s.size ≤ 9223372036854775807) (h : 2000 < s.size) : Calls Try.prog 6 #[.string s] w fun e w' => e = .returned (.bool true) ∧ Below w.heap.size w w' := by
  go_enter Try.func6, Try.ntmps6
  go_wp2_with (go_at_call 10; refine (awake_true _).mono ?_; rintro e w9 ⟨rfl, hb9⟩)
  go_ret
  exact ⟨rfl, hb9⟩
theorem anew_all (s : ByteArray) (w : World) (hs : s.size ≤ 9223372036854775807) : Calls Try.prog 6 #[.string s] w fun e w' => e = .returned (.bool true) ∧ Below w.heap.size w w' := by
  by_cases h : s.size ≤ 2000
  · obtain ⟨⟨⟨n, e1⟩, ra⟩, hA⟩ : ∃ q, (Rs.mk s.data.toList 0).num 1099511627776 = q := ⟨_, rfl⟩
    obtain ⟨⟨⟨x, e2⟩, rb⟩, hB⟩ : ∃ q, (Rs.mk s.data.toList 0).int = q := ⟨_, rfl⟩
    obtain ⟨⟨⟨t, e3⟩, rc⟩, hC⟩ : ∃ q, (Rs.mk s.data.toList 0).text s.size = q := ⟨_, rfl⟩
    obtain ⟨⟨⟨v, e4⟩, rd⟩, hD⟩ : ∃ q, (Rs.mk s.data.toList 0).value = q := ⟨_, rfl⟩
    by_cases he1 : e1 = 0
    · subst he1
      by_cases he2 : e2 = 0
      · subst he2
        by_cases he3 : e3 = 0
        · subst he3
          by_cases he4 : e4 = 0
          · subst he4
            exact anew_1111 s w h n x t v ra rb rc rd hA hB hC hD
          · obtain ⟨rfl, rfl⟩ := value_bad hD he4
            exact anew_1110 s w h n x t e4 ra rb rc hA hB hC hD he4
        · skip
          by_cases he4 : e4 = 0
          · subst he4
            exact anew_1101 s w h n x t v e3 ra rb rc rd hA hB hC hD he3
          · obtain ⟨rfl, rfl⟩ := value_bad hD he4
            exact anew_1100 s w h n x t e3 e4 ra rb rc hA hB hC hD he3 he4
      · skip
        by_cases he3 : e3 = 0
        · subst he3
          by_cases he4 : e4 = 0
          · subst he4
            exact anew_1011 s w h n x t v e2 ra rb rc rd hA hB hC hD he2
          · obtain ⟨rfl, rfl⟩ := value_bad hD he4
            exact anew_1010 s w h n x t e2 e4 ra rb rc hA hB hC hD he2 he4
        · skip
          by_cases he4 : e4 = 0
          · subst he4
            exact anew_1001 s w h n x t v e2 e3 ra rb rc rd hA hB hC hD he2 he3
          · obtain ⟨rfl, rfl⟩ := value_bad hD he4
            exact anew_1000 s w h n x t e2 e3 e4 ra rb rc hA hB hC hD he2 he3 he4
    · skip
      by_cases he2 : e2 = 0
      · subst he2
        by_cases he3 : e3 = 0
        · subst he3
          by_cases he4 : e4 = 0
          · subst he4
            exact anew_0111 s w h n x t v e1 ra rb rc rd hA hB hC hD he1
          · obtain ⟨rfl, rfl⟩ := value_bad hD he4
            exact anew_0110 s w h n x t e1 e4 ra rb rc hA hB hC hD he1 he4
        · skip
          by_cases he4 : e4 = 0
          · subst he4
            exact anew_0101 s w h n x t v e1 e3 ra rb rc rd hA hB hC hD he1 he3
          · obtain ⟨rfl, rfl⟩ := value_bad hD he4
            exact anew_0100 s w h n x t e1 e3 e4 ra rb rc hA hB hC hD he1 he3 he4
      · skip
        by_cases he3 : e3 = 0
        · subst he3
          by_cases he4 : e4 = 0
          · subst he4
            exact anew_0011 s w h n x t v e1 e2 ra rb rc rd hA hB hC hD he1 he2
          · obtain ⟨rfl, rfl⟩ := value_bad hD he4
            exact anew_0010 s w h n x t e1 e2 e4 ra rb rc hA hB hC hD he1 he2 he4
        · skip
          by_cases he4 : e4 = 0
          · subst he4
            exact anew_0001 s w h n x t v e1 e2 e3 ra rb rc rd hA hB hC hD he1 he2 he3
          · obtain ⟨rfl, rfl⟩ := value_bad hD he4
            exact anew_0000 s w h n x t e1 e2 e3 e4 ra rb rc hA hB hC hD he1 he2 he3 he4
  · exact anew_big s w hs (by omega)
end Go.Proofs.Ytlflkmigfggdjaa
