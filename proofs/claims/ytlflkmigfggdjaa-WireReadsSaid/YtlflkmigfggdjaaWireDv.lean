/- What the document's Reader.Value returns, and what it does to the reader. Conditions: the bytes are not too many. -/
import Derived.Test.YtlflkmigfggdjaaWireDm
namespace Go.Proofs.Ytlflkmigfggdjaa
open Go.RowKit Go.Ow Go.Wi

theorem Rs.int_e {x : Int} {c : Nat} {l : List UInt8} {r2 : Rs} (h : (Rs.mk l 0).int = ((x, c), r2)) (hc : c ≠ 0) : r2 = ⟨[], c⟩ := by
  obtain ⟨⟨⟨n, e⟩, r'⟩, hn⟩ : ∃ q, (Rs.mk l 0).num 18446744073709551615 = q := ⟨_, rfl⟩
  unfold Rs.int at h
  rw [hn] at h
  simp only at h
  split at h
  · rename_i he
    simp only [Prod.mk.injEq] at h
    obtain ⟨⟨rfl, rfl⟩, rfl⟩ := h
    exact (Rs.num_e hn he).1
  · simp only [Prod.mk.injEq] at h
    omega
theorem Rs.text_e {m : Int} {t : List UInt8} {c : Nat} {l : List UInt8} {r2 : Rs} (h : (Rs.mk l 0).text m = ((t, c), r2)) (hc : c ≠ 0) : r2 = ⟨[], c⟩ := by
  obtain ⟨⟨⟨n, e⟩, r'⟩, hn⟩ : ∃ q, (Rs.mk l 0).num 1099511627776 = q := ⟨_, rfl⟩
  unfold Rs.text at h
  rw [hn] at h
  simp only at h
  split at h
  · rename_i he
    simp only [Prod.mk.injEq] at h
    obtain ⟨⟨rfl, rfl⟩, rfl⟩ := h
    exact (Rs.num_e hn he).1
  split at h
  · simp only [Prod.mk.injEq] at h
    obtain ⟨⟨rfl, rfl⟩, rfl⟩ := h
    rfl
  split at h
  · simp only [Prod.mk.injEq] at h
    obtain ⟨⟨rfl, rfl⟩, rfl⟩ := h
    rfl
  · simp only [Prod.mk.injEq] at h
    omega

set_option maxRecDepth 100000 in
set_option maxHeartbeats 2000000 in
theorem valD_err (b : Nat) (l : List UInt8) (c : Nat) (w : World) (hs : l.length ≤ 1000000) (hr : RdD w b ⟨l, 0⟩) (hn : (Rs.mk l 0).num 1099511627776 = ((0, c), ⟨[], c⟩)) (hc : c ≠ 0) :
    Calls Try.prog 31 #[ptr b] w fun e w' => e = .returned (.tuple #[val0, .int .i64 c]) ∧ But b w w' ∧ RdD w' b ⟨[], c⟩ := by
  have H := Lib.hid (numD_at b ⟨l, 0⟩ ⟨[], c⟩ 0 c (w.alloc obj0) (Two.al hr _) hs hn)
  have hc'' : ((c : Int) != 0) = true := by rw [bne_iff_ne]; omega
  clear hn hc
  have hlt := Two.lt hr
  clear hr
  go_enter Try.func31, Try.ntmps31
  go_wp2_with (first
    | (go_at_call 28; refine H.out.mono ?_; rintro e w1 ⟨rfl, hb, h2⟩; have hV := (three_new w (.int .u8 0) (.int .i64 0) (.string ⟨#[]⟩)).kept hb (by omega); have v0 := hV.c0; have v1 := hV.c1; have v2 := hV.c2; have g0 := hV.fz 0; have g1 := hV.fz 1; have g2 := hV.fz 2; have hV' := hV.lt; have hlb := Two.lt h2))
  have hW := (But.alloc b w obj0).trans hb
  have h2' : Two w1 b 53 _ _ := h2
  clear H hV
  refine bodyPost_ret (v := .tuple #[val0, .int .i64 c]) (by simp [results, Try.results31, go_sem, *]) rfl ⟨rfl, ?_, ?_⟩
  · exact (((hW).sn _ _ (by omega)).sn _ _ (by omega)).sn _ _ (by omega)
  · exact (((h2').sn _ _ (by omega)).sn _ _ (by omega)).sn _ _ (by omega)

set_option maxRecDepth 100000 in
set_option maxHeartbeats 2000000 in
theorem valD_bad (b : Nat) (l : List UInt8) (c : Nat) (w : World) (hs : l.length ≤ 1000000) (hr : RdD w b ⟨l, c⟩) (hn : (Rs.mk l c).num 1099511627776 = ((0, c), ⟨l, c⟩)) (hc : c ≠ 0) :
    Calls Try.prog 31 #[ptr b] w fun e w' => e = .returned (.tuple #[val0, .int .i64 c]) ∧ But b w w' ∧ RdD w' b ⟨l, c⟩ := by
  have H := Lib.hid (numD_at b ⟨l, c⟩ ⟨l, c⟩ 0 c (w.alloc obj0) (Two.al hr _) hs hn)
  have hc'' : ((c : Int) != 0) = true := by rw [bne_iff_ne]; omega
  clear hn hc
  have hlt := Two.lt hr
  clear hr
  go_enter Try.func31, Try.ntmps31
  go_wp2_with (first
    | (go_at_call 28; refine H.out.mono ?_; rintro e w1 ⟨rfl, hb, h2⟩; have hV := (three_new w (.int .u8 0) (.int .i64 0) (.string ⟨#[]⟩)).kept hb (by omega); have v0 := hV.c0; have v1 := hV.c1; have v2 := hV.c2; have g0 := hV.fz 0; have g1 := hV.fz 1; have g2 := hV.fz 2; have hV' := hV.lt; have hlb := Two.lt h2))
  have hW := (But.alloc b w obj0).trans hb
  have h2' : Two w1 b 53 _ _ := h2
  clear H hV
  refine bodyPost_ret (v := .tuple #[val0, .int .i64 c]) (by simp [results, Try.results31, go_sem, *]) rfl ⟨rfl, ?_, ?_⟩
  · exact (((hW).sn _ _ (by omega)).sn _ _ (by omega)).sn _ _ (by omega)
  · exact (((h2').sn _ _ (by omega)).sn _ _ (by omega)).sn _ _ (by omega)

set_option maxRecDepth 100000 in
set_option maxHeartbeats 2000000 in
theorem valD_big (b : Nat) (l : List UInt8) (l' : List UInt8) (n : Nat) (w : World) (hs : l.length ≤ 1000000) (hr : RdD w b ⟨l, 0⟩) (hn : (Rs.mk l 0).num 1099511627776 = ((n, 0), ⟨l', 0⟩)) (hn3 : 3 < n) :
    Calls Try.prog 31 #[ptr b] w fun e w' => e = .returned (.tuple #[val0, .int .i64 4]) ∧ But b w w' ∧ RdD w' b ⟨[], 4⟩ := by
  have H := Lib.hid (numD_at b ⟨l, 0⟩ ⟨l', 0⟩ n 0 (w.alloc obj0) (Two.al hr _) hs hn)
  clear hn
  have hlt := Two.lt hr
  clear hr
  go_enter Try.func31, Try.ntmps31
  go_wp2_with (first
    | (go_at_call 28; refine H.out.mono ?_; rintro e w1 ⟨rfl, hb, h2⟩; have hV := (three_new w (.int .u8 0) (.int .i64 0) (.string ⟨#[]⟩)).kept hb (by omega); have v0 := hV.c0; have v1 := hV.c1; have v2 := hV.c2; have g0 := hV.fz 0; have g1 := hV.fz 1; have g2 := hV.fz 2; have hV' := hV.lt; have hlb := Two.lt h2)
    | (go_at_call 48; refine (wrong_any b 4 _ _ w1 h2).mono ?_; rintro e w3 ⟨rfl, hb3, h3⟩; have hT := hV.kept hb3 (by omega); have t0 := hT.c0; have t1 := hT.c1; have t2 := hT.c2; have p0 := hT.fz 0; have p1 := hT.fz 1; have p2 := hT.fz 2; have hT' := hT.lt; have hlb3 := Two.lt h3))
  have hW := ((But.alloc b w obj0).trans hb).trans hb3
  have h3' : Two w3 b 53 _ _ := h3
  clear H hV hT
  refine bodyPost_ret (v := .tuple #[val0, .int .i64 4]) (by simp [results, Try.results31, go_sem, *]) rfl ⟨rfl, ?_, ?_⟩
  · exact (((hW).sn _ _ (by omega)).sn _ _ (by omega)).sn _ _ (by omega)
  · exact (((h3').sn _ _ (by omega)).sn _ _ (by omega)).sn _ _ (by omega)

set_option maxRecDepth 100000 in
set_option maxHeartbeats 2000000 in
theorem valD_none (b : Nat) (l : List UInt8) (l' : List UInt8) (w : World) (hs : l.length ≤ 1000000) (hr : RdD w b ⟨l, 0⟩) (hn : (Rs.mk l 0).num 1099511627776 = ((0, 0), ⟨l', 0⟩)) :
    Calls Try.prog 31 #[ptr b] w fun e w' => e = .returned (.tuple #[val0, .int .i64 0]) ∧ But b w w' ∧ RdD w' b ⟨l', 0⟩ := by
  have H := Lib.hid (numD_at b ⟨l, 0⟩ ⟨l', 0⟩ 0 0 (w.alloc obj0) (Two.al hr _) hs hn)
  clear hn
  have hlt := Two.lt hr
  clear hr
  go_enter Try.func31, Try.ntmps31
  go_wp2_with (first
    | (go_at_call 28; refine H.out.mono ?_; rintro e w1 ⟨rfl, hb, h2⟩; have hV := (three_new w (.int .u8 0) (.int .i64 0) (.string ⟨#[]⟩)).kept hb (by omega); have v0 := hV.c0; have v1 := hV.c1; have v2 := hV.c2; have g0 := hV.fz 0; have g1 := hV.fz 1; have g2 := hV.fz 2; have hV' := hV.lt; have hlb := Two.lt h2))
  have hW := (But.alloc b w obj0).trans hb
  have h2' : Two w1 b 53 _ _ := h2
  clear H hV
  refine bodyPost_ret (v := .tuple #[val0, .int .i64 0]) (by simp [results, Try.results31, go_sem, *]) rfl ⟨rfl, ?_, ?_⟩
  · exact ((((hW).sn _ _ (by omega)).sn _ _ (by omega)).sn _ _ (by omega)).al _
  · exact ((((h2').sn _ _ (by omega)).sn _ _ (by omega)).sn _ _ (by omega)).al _

set_option maxRecDepth 100000 in
set_option maxHeartbeats 2000000 in
theorem valD_int_err (b : Nat) (l : List UInt8) (l' : List UInt8) (x : Int) (c : Nat) (r2 : Rs) (w : World) (hs : l.length ≤ 1000000) (hr : RdD w b ⟨l, 0⟩) (hn : (Rs.mk l 0).num 1099511627776 = ((1, 0), ⟨l', 0⟩)) (hi : (Rs.mk l' 0).int = ((x, c), r2)) (hc : c ≠ 0) :
    Calls Try.prog 31 #[ptr b] w fun e w' => e = .returned (.tuple #[val0, .int .i64 c]) ∧ But b w w' ∧ RdD w' b r2 := by
  have H := Lib.hid (numD_at b ⟨l, 0⟩ ⟨l', 0⟩ 1 0 (w.alloc obj0) (Two.al hr _) hs hn)
  have hl' : l'.length ≤ 1000000 := by have := (Rs.num_ok hn).2.2.1; simp only at this; omega
  clear hn
  have HI := Lib.hid hi
  have hc'' : ((c : Int) != 0) = true := by rw [bne_iff_ne]; omega
  have hc' : ((c : Int) == 0) = false := by rw [beq_eq_false_iff_ne]; omega
  clear hi hc
  have hlt := Two.lt hr
  clear hr
  go_enter Try.func31, Try.ntmps31
  go_wp2_with (first
    | (go_at_call 28; refine H.out.mono ?_; rintro e w1 ⟨rfl, hb, h2⟩; have hV := (three_new w (.int .u8 0) (.int .i64 0) (.string ⟨#[]⟩)).kept hb (by omega); have v0 := hV.c0; have v1 := hV.c1; have v2 := hV.c2; have g0 := hV.fz 0; have g1 := hV.fz 1; have g2 := hV.fz 2; have hV' := hV.lt; have hlb := Two.lt h2)
    | (go_at_call 29; refine (intD_at b ⟨l', 0⟩ r2 x c (w1.alloc (.cells #[.int .u8 1, .int .i64 0, .string ⟨#[]⟩] 23)) (Two.al h2 _) hl' HI.out).mono ?_; rintro e w3 ⟨rfl, hb3, h3⟩; have hU := (three_new w1 (.int .u8 1) (.int .i64 0) (.string ⟨#[]⟩)).kept hb3 (by omega); have u0 := hU.c0; have u1 := hU.c1; have u2 := hU.c2; have q0 := hU.fz 0; have q1 := hU.fz 1; have q2 := hU.fz 2; have hU' := hU.lt; have hT := (hV.al (.cells #[.int .u8 1, .int .i64 0, .string ⟨#[]⟩] 23)).kept hb3 (by omega); have t0 := hT.c0; have t1 := hT.c1; have t2 := hT.c2; have p0 := hT.fz 0; have p1 := hT.fz 1; have p2 := hT.fz 2; have hT' := hT.lt; have hlb3 := Two.lt h3))
  have hW := (((But.alloc b w obj0).trans hb).al (.cells #[.int .u8 1, .int .i64 0, .string ⟨#[]⟩] 23)).trans hb3
  have hw1 : w.heap.size ≤ w1.heap.size := by omega
  have h3' : Two w3 b 53 _ _ := h3
  clear H hV HI hU hT
  refine bodyPost_ret (v := .tuple #[val0, .int .i64 c]) (by simp [results, Try.results31, go_sem, *]) rfl ⟨rfl, ?_, ?_⟩
  · exact ((((hW).sn _ _ (by omega)).sn _ _ (by omega)).sn _ _ (by omega)).sn _ _ (by omega)
  · exact ((((h3').sn _ _ (by omega)).sn _ _ (by omega)).sn _ _ (by omega)).sn _ _ (by omega)

set_option maxRecDepth 100000 in
set_option maxHeartbeats 2000000 in
theorem valD_int (b : Nat) (l : List UInt8) (l' : List UInt8) (x : Int) (r2 : Rs) (w : World) (hs : l.length ≤ 1000000) (hr : RdD w b ⟨l, 0⟩) (hn : (Rs.mk l 0).num 1099511627776 = ((1, 0), ⟨l', 0⟩)) (hi : (Rs.mk l' 0).int = ((x, 0), r2)) :
    Calls Try.prog 31 #[ptr b] w fun e w' => e = .returned (.tuple #[vVal 1 x ⟨#[]⟩, .int .i64 0]) ∧ But b w w' ∧ RdD w' b r2 := by
  have H := Lib.hid (numD_at b ⟨l, 0⟩ ⟨l', 0⟩ 1 0 (w.alloc obj0) (Two.al hr _) hs hn)
  have hl' : l'.length ≤ 1000000 := by have := (Rs.num_ok hn).2.2.1; simp only at this; omega
  clear hn
  have HI := Lib.hid hi
  clear hi
  have hlt := Two.lt hr
  clear hr
  go_enter Try.func31, Try.ntmps31
  go_wp2_with (first
    | (go_at_call 28; refine H.out.mono ?_; rintro e w1 ⟨rfl, hb, h2⟩; have hV := (three_new w (.int .u8 0) (.int .i64 0) (.string ⟨#[]⟩)).kept hb (by omega); have v0 := hV.c0; have v1 := hV.c1; have v2 := hV.c2; have g0 := hV.fz 0; have g1 := hV.fz 1; have g2 := hV.fz 2; have hV' := hV.lt; have hlb := Two.lt h2)
    | (go_at_call 29; refine (intD_at b ⟨l', 0⟩ r2 x 0 (w1.alloc (.cells #[.int .u8 1, .int .i64 0, .string ⟨#[]⟩] 23)) (Two.al h2 _) hl' HI.out).mono ?_; rintro e w3 ⟨rfl, hb3, h3⟩; have hU := (three_new w1 (.int .u8 1) (.int .i64 0) (.string ⟨#[]⟩)).kept hb3 (by omega); have u0 := hU.c0; have u1 := hU.c1; have u2 := hU.c2; have q0 := hU.fz 0; have q1 := hU.fz 1; have q2 := hU.fz 2; have hU' := hU.lt; have hT := (hV.al (.cells #[.int .u8 1, .int .i64 0, .string ⟨#[]⟩] 23)).kept hb3 (by omega); have t0 := hT.c0; have t1 := hT.c1; have t2 := hT.c2; have p0 := hT.fz 0; have p1 := hT.fz 1; have p2 := hT.fz 2; have hT' := hT.lt; have hlb3 := Two.lt h3))
  have hW := (((But.alloc b w obj0).trans hb).al (.cells #[.int .u8 1, .int .i64 0, .string ⟨#[]⟩] 23)).trans hb3
  have hw1 : w.heap.size ≤ w1.heap.size := by omega
  have h3' : Two w3 b 53 _ _ := h3
  clear H hV HI hU hT
  refine bodyPost_ret (v := .tuple #[vVal 1 x ⟨#[]⟩, .int .i64 0]) (by simp [results, Try.results31, go_sem, *]) rfl ⟨rfl, ?_, ?_⟩
  · exact ((((hW).sn _ _ (by omega)).sn _ _ (by omega)).sn _ _ (by omega)).sn _ _ (by omega)
  · exact ((((h3').sn _ _ (by omega)).sn _ _ (by omega)).sn _ _ (by omega)).sn _ _ (by omega)

set_option maxRecDepth 100000 in
set_option maxHeartbeats 2000000 in
theorem valD_text_err (b : Nat) (l : List UInt8) (l' : List UInt8) (x : List UInt8) (c : Nat) (r2 : Rs) (w : World) (hs : l.length ≤ 1000000) (hr : RdD w b ⟨l, 0⟩) (hn : (Rs.mk l 0).num 1099511627776 = ((3, 0), ⟨l', 0⟩)) (hi : (Rs.mk l' 0).text 40 = ((x, c), r2)) (hc : c ≠ 0) :
    Calls Try.prog 31 #[ptr b] w fun e w' => e = .returned (.tuple #[val0, .int .i64 c]) ∧ But b w w' ∧ RdD w' b r2 := by
  have H := Lib.hid (numD_at b ⟨l, 0⟩ ⟨l', 0⟩ 3 0 (w.alloc obj0) (Two.al hr _) hs hn)
  have hl' : l'.length ≤ 1000000 := by have := (Rs.num_ok hn).2.2.1; simp only at this; omega
  clear hn
  have HI := Lib.hid hi
  have hc'' : ((c : Int) != 0) = true := by rw [bne_iff_ne]; omega
  have hc' : ((c : Int) == 0) = false := by rw [beq_eq_false_iff_ne]; omega
  clear hi hc
  have hlt := Two.lt hr
  clear hr
  go_enter Try.func31, Try.ntmps31
  go_wp2_with (first
    | (go_at_call 28; refine H.out.mono ?_; rintro e w1 ⟨rfl, hb, h2⟩; have hV := (three_new w (.int .u8 0) (.int .i64 0) (.string ⟨#[]⟩)).kept hb (by omega); have v0 := hV.c0; have v1 := hV.c1; have v2 := hV.c2; have g0 := hV.fz 0; have g1 := hV.fz 1; have g2 := hV.fz 2; have hV' := hV.lt; have hlb := Two.lt h2)
    | (go_at_call 30; refine (textD_at b 40 ⟨l', 0⟩ r2 x c (w1.alloc (.cells #[.int .u8 3, .int .i64 0, .string ⟨#[]⟩] 23)) (Two.al h2 _) hl' HI.out).mono ?_; rintro e w3 ⟨rfl, hb3, h3⟩; have hU := (three_new w1 (.int .u8 3) (.int .i64 0) (.string ⟨#[]⟩)).kept hb3 (by omega); have u0 := hU.c0; have u1 := hU.c1; have u2 := hU.c2; have q0 := hU.fz 0; have q1 := hU.fz 1; have q2 := hU.fz 2; have hU' := hU.lt; have hT := (hV.al (.cells #[.int .u8 3, .int .i64 0, .string ⟨#[]⟩] 23)).kept hb3 (by omega); have t0 := hT.c0; have t1 := hT.c1; have t2 := hT.c2; have p0 := hT.fz 0; have p1 := hT.fz 1; have p2 := hT.fz 2; have hT' := hT.lt; have hlb3 := Two.lt h3))
  have hW := (((But.alloc b w obj0).trans hb).al (.cells #[.int .u8 3, .int .i64 0, .string ⟨#[]⟩] 23)).trans hb3
  have hw1 : w.heap.size ≤ w1.heap.size := by omega
  have h3' : Two w3 b 53 _ _ := h3
  clear H hV HI hU hT
  refine bodyPost_ret (v := .tuple #[val0, .int .i64 c]) (by simp [results, Try.results31, go_sem, *]) rfl ⟨rfl, ?_, ?_⟩
  · exact ((((hW).sn _ _ (by omega)).sn _ _ (by omega)).sn _ _ (by omega)).sn _ _ (by omega)
  · exact ((((h3').sn _ _ (by omega)).sn _ _ (by omega)).sn _ _ (by omega)).sn _ _ (by omega)

set_option maxRecDepth 100000 in
set_option maxHeartbeats 2000000 in
theorem valD_text (b : Nat) (l : List UInt8) (l' : List UInt8) (x : List UInt8) (r2 : Rs) (w : World) (hs : l.length ≤ 1000000) (hr : RdD w b ⟨l, 0⟩) (hn : (Rs.mk l 0).num 1099511627776 = ((3, 0), ⟨l', 0⟩)) (hi : (Rs.mk l' 0).text 40 = ((x, 0), r2)) :
    Calls Try.prog 31 #[ptr b] w fun e w' => e = .returned (.tuple #[vVal 3 0 ⟨x.toArray⟩, .int .i64 0]) ∧ But b w w' ∧ RdD w' b r2 := by
  have H := Lib.hid (numD_at b ⟨l, 0⟩ ⟨l', 0⟩ 3 0 (w.alloc obj0) (Two.al hr _) hs hn)
  have hl' : l'.length ≤ 1000000 := by have := (Rs.num_ok hn).2.2.1; simp only at this; omega
  clear hn
  have HI := Lib.hid hi
  clear hi
  have hlt := Two.lt hr
  clear hr
  go_enter Try.func31, Try.ntmps31
  go_wp2_with (first
    | (go_at_call 28; refine H.out.mono ?_; rintro e w1 ⟨rfl, hb, h2⟩; have hV := (three_new w (.int .u8 0) (.int .i64 0) (.string ⟨#[]⟩)).kept hb (by omega); have v0 := hV.c0; have v1 := hV.c1; have v2 := hV.c2; have g0 := hV.fz 0; have g1 := hV.fz 1; have g2 := hV.fz 2; have hV' := hV.lt; have hlb := Two.lt h2)
    | (go_at_call 30; refine (textD_at b 40 ⟨l', 0⟩ r2 x 0 (w1.alloc (.cells #[.int .u8 3, .int .i64 0, .string ⟨#[]⟩] 23)) (Two.al h2 _) hl' HI.out).mono ?_; rintro e w3 ⟨rfl, hb3, h3⟩; have hU := (three_new w1 (.int .u8 3) (.int .i64 0) (.string ⟨#[]⟩)).kept hb3 (by omega); have u0 := hU.c0; have u1 := hU.c1; have u2 := hU.c2; have q0 := hU.fz 0; have q1 := hU.fz 1; have q2 := hU.fz 2; have hU' := hU.lt; have hT := (hV.al (.cells #[.int .u8 3, .int .i64 0, .string ⟨#[]⟩] 23)).kept hb3 (by omega); have t0 := hT.c0; have t1 := hT.c1; have t2 := hT.c2; have p0 := hT.fz 0; have p1 := hT.fz 1; have p2 := hT.fz 2; have hT' := hT.lt; have hlb3 := Two.lt h3))
  have hW := (((But.alloc b w obj0).trans hb).al (.cells #[.int .u8 3, .int .i64 0, .string ⟨#[]⟩] 23)).trans hb3
  have hw1 : w.heap.size ≤ w1.heap.size := by omega
  have h3' : Two w3 b 53 _ _ := h3
  clear H hV HI hU hT
  refine bodyPost_ret (v := .tuple #[vVal 3 0 ⟨x.toArray⟩, .int .i64 0]) (by simp [results, Try.results31, go_sem, *]) rfl ⟨rfl, ?_, ?_⟩
  · exact ((((hW).sn _ _ (by omega)).sn _ _ (by omega)).sn _ _ (by omega)).sn _ _ (by omega)
  · exact ((((h3').sn _ _ (by omega)).sn _ _ (by omega)).sn _ _ (by omega)).sn _ _ (by omega)

set_option maxRecDepth 100000 in
set_option maxHeartbeats 2000000 in
theorem valD_bool_err (b : Nat) (l : List UInt8) (l' : List UInt8) (x c : Nat) (r2 : Rs) (w : World) (hs : l.length ≤ 1000000) (hr : RdD w b ⟨l, 0⟩) (hn : (Rs.mk l 0).num 1099511627776 = ((2, 0), ⟨l', 0⟩)) (hi : (Rs.mk l' 0).num 1099511627776 = ((x, c), r2)) (hc : c ≠ 0) :
    Calls Try.prog 31 #[ptr b] w fun e w' => e = .returned (.tuple #[val0, .int .i64 c]) ∧ But b w w' ∧ RdD w' b r2 := by
  have H := Lib.hid (numD_at b ⟨l, 0⟩ ⟨l', 0⟩ 2 0 (w.alloc obj0) (Two.al hr _) hs hn)
  have hl' : l'.length ≤ 1000000 := by have := (Rs.num_ok hn).2.2.1; simp only at this; omega
  clear hn
  have HI := Lib.hid hi
  have hc'' : ((c : Int) != 0) = true := by rw [bne_iff_ne]; omega
  have hc' : ((c : Int) == 0) = false := by rw [beq_eq_false_iff_ne]; omega
  clear hi hc
  have hlt := Two.lt hr
  clear hr
  go_enter Try.func31, Try.ntmps31
  go_wp2_with (first
    | (go_at_call 28; (with_reducible refine H.out.mono ?_); rintro e w1 ⟨rfl, hb, h2⟩; have hV := (three_new w (.int .u8 0) (.int .i64 0) (.string ⟨#[]⟩)).kept hb (by omega); have v0 := hV.c0; have v1 := hV.c1; have v2 := hV.c2; have g0 := hV.fz 0; have g1 := hV.fz 1; have g2 := hV.fz 2; have hV' := hV.lt; have hlb := Two.lt h2)
    | (go_at_call 28; refine (numD_at b ⟨l', 0⟩ r2 x c (w1.alloc (.cells #[.int .u8 2, .int .i64 0, .string ⟨#[]⟩] 23)) (Two.al h2 _) hl' HI.out).mono ?_; rintro e w3 ⟨rfl, hb3, h3⟩; have hU := (three_new w1 (.int .u8 2) (.int .i64 0) (.string ⟨#[]⟩)).kept hb3 (by omega); have u0 := hU.c0; have u1 := hU.c1; have u2 := hU.c2; have q0 := hU.fz 0; have q1 := hU.fz 1; have q2 := hU.fz 2; have hU' := hU.lt; have hT := (hV.al (.cells #[.int .u8 2, .int .i64 0, .string ⟨#[]⟩] 23)).kept hb3 (by omega); have t0 := hT.c0; have t1 := hT.c1; have t2 := hT.c2; have p0 := hT.fz 0; have p1 := hT.fz 1; have p2 := hT.fz 2; have hT' := hT.lt; have hlb3 := Two.lt h3))
  have hW := (((But.alloc b w obj0).trans hb).al (.cells #[.int .u8 2, .int .i64 0, .string ⟨#[]⟩] 23)).trans hb3
  have hw1 : w.heap.size ≤ w1.heap.size := by omega
  have h3' : Two w3 b 53 _ _ := h3
  clear H hV HI hU hT
  refine bodyPost_ret (v := .tuple #[val0, .int .i64 c]) (by simp [results, Try.results31, go_sem, *]) rfl ⟨rfl, ?_, ?_⟩
  · exact ((((hW).sn _ _ (by omega)).sn _ _ (by omega)).sn _ _ (by omega)).sn _ _ (by omega)
  · exact ((((h3').sn _ _ (by omega)).sn _ _ (by omega)).sn _ _ (by omega)).sn _ _ (by omega)

set_option maxRecDepth 100000 in
set_option maxHeartbeats 2000000 in
theorem valD_bool (b : Nat) (l : List UInt8) (l' : List UInt8) (x : Nat) (r2 : Rs) (w : World) (hs : l.length ≤ 1000000) (hr : RdD w b ⟨l, 0⟩) (hn : (Rs.mk l 0).num 1099511627776 = ((2, 0), ⟨l', 0⟩)) (hi : (Rs.mk l' 0).num 1099511627776 = ((x, 0), r2)) (hx : x ≤ 1) :
    Calls Try.prog 31 #[ptr b] w fun e w' => e = .returned (.tuple #[vVal 2 x ⟨#[]⟩, .int .i64 0]) ∧ But b w w' ∧ RdD w' b r2 := by
  have H := Lib.hid (numD_at b ⟨l, 0⟩ ⟨l', 0⟩ 2 0 (w.alloc obj0) (Two.al hr _) hs hn)
  have hl' : l'.length ≤ 1000000 := by have := (Rs.num_ok hn).2.2.1; simp only at this; omega
  clear hn
  have HI := Lib.hid hi
  clear hi
  have hlt := Two.lt hr
  clear hr
  go_enter Try.func31, Try.ntmps31
  go_wp2_with (first
    | (go_at_call 28; (with_reducible refine H.out.mono ?_); rintro e w1 ⟨rfl, hb, h2⟩; have hV := (three_new w (.int .u8 0) (.int .i64 0) (.string ⟨#[]⟩)).kept hb (by omega); have v0 := hV.c0; have v1 := hV.c1; have v2 := hV.c2; have g0 := hV.fz 0; have g1 := hV.fz 1; have g2 := hV.fz 2; have hV' := hV.lt; have hlb := Two.lt h2)
    | (go_at_call 28; refine (numD_at b ⟨l', 0⟩ r2 x 0 (w1.alloc (.cells #[.int .u8 2, .int .i64 0, .string ⟨#[]⟩] 23)) (Two.al h2 _) hl' HI.out).mono ?_; rintro e w3 ⟨rfl, hb3, h3⟩; have hU := (three_new w1 (.int .u8 2) (.int .i64 0) (.string ⟨#[]⟩)).kept hb3 (by omega); have u0 := hU.c0; have u1 := hU.c1; have u2 := hU.c2; have q0 := hU.fz 0; have q1 := hU.fz 1; have q2 := hU.fz 2; have hU' := hU.lt; have hT := (hV.al (.cells #[.int .u8 2, .int .i64 0, .string ⟨#[]⟩] 23)).kept hb3 (by omega); have t0 := hT.c0; have t1 := hT.c1; have t2 := hT.c2; have p0 := hT.fz 0; have p1 := hT.fz 1; have p2 := hT.fz 2; have hT' := hT.lt; have hlb3 := Two.lt h3))
  have hW := (((But.alloc b w obj0).trans hb).al (.cells #[.int .u8 2, .int .i64 0, .string ⟨#[]⟩] 23)).trans hb3
  have hw1 : w.heap.size ≤ w1.heap.size := by omega
  have h3' : Two w3 b 53 _ _ := h3
  clear H hV HI hU hT
  refine bodyPost_ret (v := .tuple #[vVal 2 x ⟨#[]⟩, .int .i64 0]) (by simp [results, Try.results31, go_sem, *]) rfl ⟨rfl, ?_, ?_⟩
  · exact ((((hW).sn _ _ (by omega)).sn _ _ (by omega)).sn _ _ (by omega)).sn _ _ (by omega)
  · exact ((((h3').sn _ _ (by omega)).sn _ _ (by omega)).sn _ _ (by omega)).sn _ _ (by omega)

set_option maxRecDepth 100000 in
set_option maxHeartbeats 2000000 in
theorem valD_bool_big (b : Nat) (l : List UInt8) (l' : List UInt8) (x : Nat) (r2 : Rs) (w : World) (hs : l.length ≤ 1000000) (hr : RdD w b ⟨l, 0⟩) (hn : (Rs.mk l 0).num 1099511627776 = ((2, 0), ⟨l', 0⟩)) (hi : (Rs.mk l' 0).num 1099511627776 = ((x, 0), r2)) (hx : 1 < x) :
    Calls Try.prog 31 #[ptr b] w fun e w' => e = .returned (.tuple #[val0, .int .i64 4]) ∧ But b w w' ∧ RdD w' b ⟨[], 4⟩ := by
  have H := Lib.hid (numD_at b ⟨l, 0⟩ ⟨l', 0⟩ 2 0 (w.alloc obj0) (Two.al hr _) hs hn)
  have hl' : l'.length ≤ 1000000 := by have := (Rs.num_ok hn).2.2.1; simp only at this; omega
  clear hn
  have HI := Lib.hid hi
  clear hi
  have hlt := Two.lt hr
  clear hr
  go_enter Try.func31, Try.ntmps31
  go_wp2_with (first
    | (go_at_call 28; (with_reducible refine H.out.mono ?_); rintro e w1 ⟨rfl, hb, h2⟩; have hV := (three_new w (.int .u8 0) (.int .i64 0) (.string ⟨#[]⟩)).kept hb (by omega); have v0 := hV.c0; have v1 := hV.c1; have v2 := hV.c2; have g0 := hV.fz 0; have g1 := hV.fz 1; have g2 := hV.fz 2; have hV' := hV.lt; have hlb := Two.lt h2)
    | (go_at_call 28; refine (numD_at b ⟨l', 0⟩ r2 x 0 (w1.alloc (.cells #[.int .u8 2, .int .i64 0, .string ⟨#[]⟩] 23)) (Two.al h2 _) hl' HI.out).mono ?_; rintro e w3 ⟨rfl, hb3, h3⟩; have hU := (three_new w1 (.int .u8 2) (.int .i64 0) (.string ⟨#[]⟩)).kept hb3 (by omega); have u0 := hU.c0; have u1 := hU.c1; have u2 := hU.c2; have q0 := hU.fz 0; have q1 := hU.fz 1; have q2 := hU.fz 2; have hU' := hU.lt; have hT := (hV.al (.cells #[.int .u8 2, .int .i64 0, .string ⟨#[]⟩] 23)).kept hb3 (by omega); have t0 := hT.c0; have t1 := hT.c1; have t2 := hT.c2; have p0 := hT.fz 0; have p1 := hT.fz 1; have p2 := hT.fz 2; have hT' := hT.lt; have hlb3 := Two.lt h3)
    | (go_at_call 48; refine (wrong_any b 4 _ _ w3 h3).mono ?_; rintro e w4 ⟨rfl, hb4, h4⟩; have hU4 := hU.kept hb4 (by omega); have a0 := hU4.c0; have a1 := hU4.c1; have a2 := hU4.c2; have b0 := hU4.fz 0; have b1 := hU4.fz 1; have b2 := hU4.fz 2; have hU4' := hU4.lt; have hT4 := hT.kept hb4 (by omega); have c0 := hT4.c0; have c1 := hT4.c1; have c2 := hT4.c2; have d0 := hT4.fz 0; have d1 := hT4.fz 1; have d2 := hT4.fz 2; have hT4' := hT4.lt))
  have hW := ((((But.alloc b w obj0).trans hb).al (.cells #[.int .u8 2, .int .i64 0, .string ⟨#[]⟩] 23)).trans hb3).trans hb4
  have hw1 : w.heap.size ≤ w1.heap.size := by omega
  have h3' : Two w4 b 53 _ _ := h4
  clear H hV HI hU hT hU4 hT4
  refine bodyPost_ret (v := .tuple #[val0, .int .i64 4]) (by simp [results, Try.results31, go_sem, *]) rfl ⟨rfl, ?_, ?_⟩
  · exact ((((hW).sn _ _ (by omega)).sn _ _ (by omega)).sn _ _ (by omega)).sn _ _ (by omega)
  · exact ((((h3').sn _ _ (by omega)).sn _ _ (by omega)).sn _ _ (by omega)).sn _ _ (by omega)

theorem valueD_at (b : Nat) (r r2 : Rs) (v : Vl) (c : Nat) (w : World) (hr : RdD w b r) (hl : r.l.length ≤ 1000000) (h : r.value = ((v, c), r2)) :
    Calls Try.prog 31 #[ptr b] w fun e w' => e = .returned (.tuple #[valOf v, .int .i64 c]) ∧ But b w w' ∧ RdD w' b r2 := by
  obtain ⟨l, ce⟩ := r
  obtain ⟨⟨⟨k, e⟩, r1⟩, hn⟩ : ∃ q, (Rs.mk l ce).num 1099511627776 = q := ⟨_, rfl⟩
  unfold Rs.value at h
  rw [hn] at h
  simp only at h
  by_cases hce : ce = 0
  · subst hce
    by_cases he : e = 0
    · subst he
      simp only [ne_eq, not_true_eq_false, if_false] at h
      have he0 := Rs.num_e0 hn
      obtain ⟨l', e'⟩ := r1
      simp only at he0
      subst he0
      by_cases h3 : 3 < k
      · rw [if_pos h3] at h
        simp only [Prod.mk.injEq] at h
        obtain ⟨⟨rfl, rfl⟩, rfl⟩ := h
        exact valD_big b l l' k w hl hr hn h3
      rw [if_neg h3] at h
      by_cases h1 : k = 1
      · subst h1
        rw [if_pos rfl] at h
        obtain ⟨⟨⟨x, c'⟩, r3⟩, hi⟩ : ∃ q, (Rs.mk l' 0).int = q := ⟨_, rfl⟩
        rw [hi] at h
        simp only at h
        by_cases hc : c' = 0
        · subst hc
          simp only [not_true_eq_false, if_false, Prod.mk.injEq] at h
          obtain ⟨⟨rfl, rfl⟩, rfl⟩ := h
          exact valD_int b l l' x r3 w hl hr hn hi
        · simp only [hc, not_false_eq_true, if_true, Prod.mk.injEq] at h
          obtain ⟨⟨rfl, rfl⟩, rfl⟩ := h
          rw [← Rs.int_e hi hc]
          exact valD_int_err b l l' x c' r3 w hl hr hn hi hc
      rw [if_neg h1] at h
      by_cases h2 : k = 2
      · subst h2
        rw [if_pos rfl] at h
        obtain ⟨⟨⟨x, c'⟩, r3⟩, hi⟩ : ∃ q, (Rs.mk l' 0).num 1099511627776 = q := ⟨_, rfl⟩
        rw [hi] at h
        simp only at h
        by_cases hc : c' = 0
        · subst hc
          simp only [not_true_eq_false, if_false] at h
          by_cases hx : 1 < x
          · rw [if_pos hx] at h
            simp only [Prod.mk.injEq] at h
            obtain ⟨⟨rfl, rfl⟩, rfl⟩ := h
            exact valD_bool_big b l l' x r3 w hl hr hn hi hx
          · rw [if_neg hx] at h
            simp only [Prod.mk.injEq] at h
            obtain ⟨⟨rfl, rfl⟩, rfl⟩ := h
            exact valD_bool b l l' x r3 w hl hr hn hi (by omega)
        · simp only [hc, not_false_eq_true, if_true, Prod.mk.injEq] at h
          obtain ⟨⟨rfl, rfl⟩, rfl⟩ := h
          rw [← (Rs.num_e hi hc).1]
          exact valD_bool_err b l l' x c' r3 w hl hr hn hi hc
      rw [if_neg h2] at h
      by_cases h3' : k = 3
      · subst h3'
        rw [if_pos rfl] at h
        obtain ⟨⟨⟨x, c'⟩, r3⟩, hi⟩ : ∃ q, (Rs.mk l' 0).text 40 = q := ⟨_, rfl⟩
        rw [hi] at h
        simp only at h
        by_cases hc : c' = 0
        · subst hc
          simp only [not_true_eq_false, if_false, Prod.mk.injEq] at h
          obtain ⟨⟨rfl, rfl⟩, rfl⟩ := h
          exact valD_text b l l' x r3 w hl hr hn hi
        · simp only [hc, not_false_eq_true, if_true, Prod.mk.injEq] at h
          obtain ⟨⟨rfl, rfl⟩, rfl⟩ := h
          rw [← Rs.text_e hi hc]
          exact valD_text_err b l l' x c' r3 w hl hr hn hi hc
      rw [if_neg h3'] at h
      simp only [Prod.mk.injEq] at h
      obtain ⟨⟨rfl, rfl⟩, rfl⟩ := h
      obtain rfl : k = 0 := by omega
      exact valD_none b l l' w hl hr hn
    · simp only [ne_eq, he, not_false_eq_true, if_true, Prod.mk.injEq] at h
      obtain ⟨⟨rfl, rfl⟩, rfl⟩ := h
      obtain ⟨rfl, rfl⟩ := Rs.num_e hn he
      exact valD_err b l e w hl hr hn he
  · have hn2 : (Rs.mk l ce).num 1099511627776 = ((0, ce), ⟨l, ce⟩) := by simp [Rs.num, hce]
    rw [hn2] at hn
    simp only [Prod.mk.injEq] at hn
    obtain ⟨⟨rfl, rfl⟩, rfl⟩ := hn
    simp only [ne_eq, hce, not_false_eq_true, if_true, Prod.mk.injEq] at h
    obtain ⟨⟨rfl, rfl⟩, rfl⟩ := h
    exact valD_bad b l ce w hl hr hn2 hce
end Go.Proofs.Ytlflkmigfggdjaa
