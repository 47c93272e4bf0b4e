/- What the closure of wire's Reader.Value returns. Conditions: the bytes are not too many. -/
import Derived.Test.YtlflkmigfggdjaaWireRv
namespace Go.Proofs.Ytlflkmigfggdjaa
open Go.RowKit Go.Ow Go.Wi

theorem numW_at (b : Nat) (r r2 : Rs) (n c : Nat) (w : World) (hr : RdW w b r) (hl : r.l.length ≤ 1000000) (h : r.num 1099511627776 = ((n, c), r2)) :
    Calls Try.prog 25 #[ptr b] w fun e w' => e = .returned (.tuple #[.int .i64 n, .int .i64 c]) ∧ But b w w' ∧ RdW w' b r2 := by
  have := numW_any b r w hr hl
  rw [h] at this
  exact this
theorem intW_at (b : Nat) (r r2 : Rs) (n : Int) (c : Nat) (w : World) (hr : RdW w b r) (hl : r.l.length ≤ 1000000) (h : r.int = ((n, c), r2)) :
    Calls Try.prog 22 #[ptr b] w fun e w' => e = .returned (.tuple #[.int .i64 n, .int .i64 c]) ∧ But b w w' ∧ RdW w' b r2 := by
  have := intW_any b r w hr hl
  rw [h] at this
  exact this
theorem textW_at (b : Nat) (m : Int) (r r2 : Rs) (t : List UInt8) (c : Nat) (w : World) (hr : RdW w b r) (hl : r.l.length ≤ 1000000) (h : r.text m = ((t, c), r2)) :
    Calls Try.prog 23 #[ptr b, .int .i64 m] w fun e w' => e = .returned (.tuple #[str t, .int .i64 c]) ∧ But b w w' ∧ RdW w' b r2 := by
  have := textW_any b m r w hr hl
  rw [h] at this
  exact this

set_option maxHeartbeats 1000000 in
theorem val44_err (B b : Nat) (l : List UInt8) (c : Nat) (w : World) (hs : l.length ≤ 1000000) (hB : Cap w B b (ptr b)) (hr : Two w b 67 (str l) (.int .i64 0)) (h : scan 1099511627776 0 0 l = .error c) :
    Calls Try.prog 44 #[ptr B] w fun e w' => e = .returned (.tuple #[vVal 0 0 ⟨#[]⟩, .int .i64 c]) ∧ But b w w' ∧ ∃ y z, Two w' b 67 y z := by
  have hc : c ≠ 0 := by have := scan_err _ _ _ _ _ h; omega
  have hc'' : ((c : Int) != 0) = true := by rw [bne_iff_ne]; omega
  have H := Lib.hid (numW_err b l c (w.alloc obj0) (hr.al _) hs h)
  have hb := hB.cell
  have hlt := hr.lt
  have hBl := hB.lt
  clear h hc hB hr
  go_enter Try.func44, Try.ntmps44
  go_wp2_with (go_at_call 25; refine H.out.mono ?_; rintro e w1 ⟨rfl, hb, h2⟩; have hV := (three_new w (.int .u8 0) (.int .i64 0) (.string ⟨#[]⟩)).kept hb (by omega); have v0 := hV.c0; have v1 := hV.c1; have v2 := hV.c2; have g0 := hV.fz 0; have g1 := hV.fz 1; have g2 := hV.fz 2; have hV' := hV.lt; clear hV)
  have hW := (But.alloc b w obj0).trans hb
  clear H
  refine bodyPost_ret (v := .tuple #[vVal 0 0 ⟨#[]⟩, .int .i64 c]) (by simp [results, Try.results44, go_sem, *]) rfl ⟨rfl, ?_, ?_⟩
  · exact ((hW.sn _ _ (Nat.le_refl _)).sn _ _ (Nat.le_refl _)).sn _ _ (Nat.le_refl _)
  · exact ⟨_, _, ((h2.sn _ _ (by omega)).sn _ _ (by omega)).sn _ _ (by omega)⟩
set_option maxHeartbeats 1000000 in
theorem val44_big (B b : Nat) (l l' : List UInt8) (n : Nat) (w : World) (hs : l.length ≤ 1000000) (hB : Cap w B b (ptr b)) (hr : Two w b 67 (str l) (.int .i64 0)) (h : scan 1099511627776 0 0 l = .ok (n, l')) (hn : 3 < n) :
    Calls Try.prog 44 #[ptr B] w fun e w' => e = .returned (.tuple #[vVal 0 0 ⟨#[]⟩, .int .i64 4]) ∧ But b w w' ∧ ∃ y z, Two w' b 67 y z := by
  have H := Lib.hid (numW_ok b l n l' (w.alloc obj0) (hr.al _) hs h)
  have hb := hB.cell
  have hlt := hr.lt
  have hBl := hB.lt
  clear h hB hr
  go_enter Try.func44, Try.ntmps44
  go_wp2_with (go_at_call 25; refine H.out.mono ?_; rintro e w1 ⟨rfl, hb, h2⟩; have hV := (three_new w (.int .u8 0) (.int .i64 0) (.string ⟨#[]⟩)).kept hb (by omega); have v0 := hV.c0; have v1 := hV.c1; have v2 := hV.c2; have g0 := hV.fz 0; have g1 := hV.fz 1; have g2 := hV.fz 2; have hV' := hV.lt; clear hV)
  have hW := (But.alloc b w obj0).trans hb
  clear H
  refine bodyPost_ret (v := .tuple #[vVal 0 0 ⟨#[]⟩, .int .i64 4]) (by simp [results, Try.results44, go_sem, *]) rfl ⟨rfl, ?_, ?_⟩
  · exact ((hW.sn _ _ (Nat.le_refl _)).sn _ _ (Nat.le_refl _)).sn _ _ (Nat.le_refl _)
  · exact ⟨_, _, ((h2.sn _ _ (by omega)).sn _ _ (by omega)).sn _ _ (by omega)⟩
set_option maxHeartbeats 1000000 in
theorem val44_none (B b : Nat) (l l' : List UInt8) (w : World) (hs : l.length ≤ 1000000) (hB : Cap w B b (ptr b)) (hr : Two w b 67 (str l) (.int .i64 0)) (h : scan 1099511627776 0 0 l = .ok (0, l')) :
    Calls Try.prog 44 #[ptr B] w fun e w' => e = .returned (.tuple #[vVal 0 0 ⟨#[]⟩, .int .i64 0]) ∧ But b w w' ∧ Two w' b 67 (str l') (.int .i64 0) := by
  have H := Lib.hid (numW_ok b l 0 l' (w.alloc obj0) (hr.al _) hs h)
  have hb := hB.cell
  have hlt := hr.lt
  have hBl := hB.lt
  clear h hB hr
  go_enter Try.func44, Try.ntmps44
  go_wp2_with (go_at_call 25; refine H.out.mono ?_; rintro e w1 ⟨rfl, hb, h2⟩; have hV := (three_new w (.int .u8 0) (.int .i64 0) (.string ⟨#[]⟩)).kept hb (by omega); have v0 := hV.c0; have v1 := hV.c1; have v2 := hV.c2; have g0 := hV.fz 0; have g1 := hV.fz 1; have g2 := hV.fz 2; have hV' := hV.lt; clear hV)
  have hW := (But.alloc b w obj0).trans hb
  clear H
  refine bodyPost_ret (v := .tuple #[vVal 0 0 ⟨#[]⟩, .int .i64 0]) (by simp [results, Try.results44, go_sem, *]) rfl ⟨rfl, ?_, ?_⟩
  · exact (((hW.sn _ _ (Nat.le_refl _)).sn _ _ (Nat.le_refl _)).sn _ _ (Nat.le_refl _)).sn _ _ (Nat.le_refl _)
  · exact (((h2.sn _ _ (by omega)).sn _ _ (by omega)).sn _ _ (by omega)).sn _ _ (by omega)
set_option maxHeartbeats 1000000 in
theorem val44_int (B b : Nat) (l l' : List UInt8) (x : Int) (c : Nat) (r2 : Rs) (w : World) (hs : l.length ≤ 1000000) (hB : Cap w B b (ptr b)) (hr : Two w b 67 (str l) (.int .i64 0)) (h : scan 1099511627776 0 0 l = .ok (1, l')) (hi : (Rs.mk l' 0).int = ((x, c), r2)) :
    Calls Try.prog 44 #[ptr B] w fun e w' => e = .returned (.tuple #[vVal 1 x ⟨#[]⟩, .int .i64 c]) ∧ But b w w' ∧ RdW w' b r2 := by
  have H := Lib.hid (numW_ok b l 1 l' (w.alloc obj0) (hr.al _) hs h)
  have hb := hB.cell
  have hlt := hr.lt
  have hBl := hB.lt
  have HB := Lib.hid hB
  have HI := Lib.hid hi
  have hl' : l'.length ≤ 1000000 := by have := (scan_le _ _ _ _ _ _ h).2; omega
  clear h hB hr hi
  go_enter Try.func44, Try.ntmps44
  go_wp2_with (first
    | (go_at_call 25; refine H.out.mono ?_; rintro e w1 ⟨rfl, hb, h2⟩; have hV := (three_new w (.int .u8 0) (.int .i64 0) (.string ⟨#[]⟩)).kept hb (by omega); have v0 := hV.c0; have v1 := hV.c1; have v2 := hV.c2; have g0 := hV.fz 0; have g1 := hV.fz 1; have g2 := hV.fz 2; have hV' := hV.lt; have hBc := (HB.out.kept ((But.alloc b w obj0).trans hb)).cell)
    | (go_at_call 22; refine (intW_at b ⟨l', 0⟩ r2 x c (w1.setCell ⟨w.heap.size, 0, none⟩ (.int .u8 1)) (h2.sn _ _ (by omega)) hl' HI.out).mono ?_; rintro e w3 ⟨rfl, hb3, h3⟩; have hU := (hV.set0 (.int .u8 1)).kept hb3 (by omega); have u0 := hU.c0; have u1 := hU.c1; have u2 := hU.c2; have q0 := hU.fz 0; have q1 := hU.fz 1; have q2 := hU.fz 2; have hU' := hU.lt))
  have hW := (((But.alloc b w obj0).trans hb).sn 0 (.int .u8 1) (Nat.le_refl _)).trans hb3
  have h3' : Two w3 b 67 _ _ := h3
  clear H HI HB hV hU
  refine bodyPost_ret (v := .tuple #[vVal 1 x ⟨#[]⟩, .int .i64 c]) (by simp [results, Try.results44, go_sem, *]) rfl ⟨rfl, ?_, ?_⟩
  · exact (((hW.sn _ _ (Nat.le_refl _)).sn _ _ (Nat.le_refl _)).sn _ _ (Nat.le_refl _)).sn _ _ (Nat.le_refl _)
  · exact (((h3'.sn _ _ (by omega)).sn _ _ (by omega)).sn _ _ (by omega)).sn _ _ (by omega)
set_option maxHeartbeats 1000000 in
theorem val44_text (B b : Nat) (l l' : List UInt8) (x : List UInt8) (c : Nat) (r2 : Rs) (w : World) (hs : l.length ≤ 1000000) (hB : Cap w B b (ptr b)) (hr : Two w b 67 (str l) (.int .i64 0)) (h : scan 1099511627776 0 0 l = .ok (3, l')) (hi : (Rs.mk l' 0).text 40 = ((x, c), r2)) :
    Calls Try.prog 44 #[ptr B] w fun e w' => e = .returned (.tuple #[vVal 3 0 ⟨x.toArray⟩, .int .i64 c]) ∧ But b w w' ∧ RdW w' b r2 := by
  have H := Lib.hid (numW_ok b l 3 l' (w.alloc obj0) (hr.al _) hs h)
  have hb := hB.cell
  have hlt := hr.lt
  have hBl := hB.lt
  have HB := Lib.hid hB
  have HI := Lib.hid hi
  have hl' : l'.length ≤ 1000000 := by have := (scan_le _ _ _ _ _ _ h).2; omega
  clear h hB hr hi
  go_enter Try.func44, Try.ntmps44
  go_wp2_with (first
    | (go_at_call 25; refine H.out.mono ?_; rintro e w1 ⟨rfl, hb, h2⟩; have hV := (three_new w (.int .u8 0) (.int .i64 0) (.string ⟨#[]⟩)).kept hb (by omega); have v0 := hV.c0; have v1 := hV.c1; have v2 := hV.c2; have g0 := hV.fz 0; have g1 := hV.fz 1; have g2 := hV.fz 2; have hV' := hV.lt; have hBc := (HB.out.kept ((But.alloc b w obj0).trans hb)).cell)
    | (go_at_call 23; refine (textW_at b 40 ⟨l', 0⟩ r2 x c (w1.setCell ⟨w.heap.size, 0, none⟩ (.int .u8 3)) (h2.sn _ _ (by omega)) hl' HI.out).mono ?_; rintro e w3 ⟨rfl, hb3, h3⟩; have hU := (hV.set0 (.int .u8 3)).kept hb3 (by omega); have u0 := hU.c0; have u1 := hU.c1; have u2 := hU.c2; have q0 := hU.fz 0; have q1 := hU.fz 1; have q2 := hU.fz 2; have hU' := hU.lt))
  have hW := (((But.alloc b w obj0).trans hb).sn 0 (.int .u8 3) (Nat.le_refl _)).trans hb3
  have h3' : Two w3 b 67 _ _ := h3
  clear H HI HB hV hU
  refine bodyPost_ret (v := .tuple #[vVal 3 0 ⟨x.toArray⟩, .int .i64 c]) (by simp [results, Try.results44, go_sem, *]) rfl ⟨rfl, ?_, ?_⟩
  · exact (((hW.sn _ _ (Nat.le_refl _)).sn _ _ (Nat.le_refl _)).sn _ _ (Nat.le_refl _)).sn _ _ (Nat.le_refl _)
  · exact (((h3'.sn _ _ (by omega)).sn _ _ (by omega)).sn _ _ (by omega)).sn _ _ (by omega)
set_option maxHeartbeats 1000000 in
theorem val44_bool_err (B b : Nat) (l l' : List UInt8) (x c : Nat) (r2 : Rs) (w : World) (hs : l.length ≤ 1000000) (hB : Cap w B b (ptr b)) (hr : Two w b 67 (str l) (.int .i64 0)) (h : scan 1099511627776 0 0 l = .ok (2, l')) (hi : (Rs.mk l' 0).num 1099511627776 = ((x, c), r2)) (hc : c ≠ 0) :
    Calls Try.prog 44 #[ptr B] w fun e w' => e = .returned (.tuple #[vVal 2 x ⟨#[]⟩, .int .i64 c]) ∧ But b w w' ∧ ∃ y z, Two w' b 67 y z := by
  have H := Lib.hid (numW_ok b l 2 l' (w.alloc obj0) (hr.al _) hs h)
  have hb := hB.cell
  have hlt := hr.lt
  have hBl := hB.lt
  have HB := Lib.hid hB
  have HI := Lib.hid hi
  have hl' : l'.length ≤ 1000000 := by have := (scan_le _ _ _ _ _ _ h).2; omega
  have hc1 : ((c : Int) == 0) = false := by rw [beq_eq_false_iff_ne]; omega
  clear hc
  clear h hB hr hi
  go_enter Try.func44, Try.ntmps44
  go_wp2_with (first
    | (go_at_call 25; refine H.out.mono ?_; rintro e w1 ⟨rfl, hb, h2⟩; have hV := (three_new w (.int .u8 0) (.int .i64 0) (.string ⟨#[]⟩)).kept hb (by omega); have v0 := hV.c0; have v1 := hV.c1; have v2 := hV.c2; have g0 := hV.fz 0; have g1 := hV.fz 1; have g2 := hV.fz 2; have hV' := hV.lt; have hBc := (HB.out.kept ((But.alloc b w obj0).trans hb)).cell)
    | (go_at_call 25; refine (numW_at b ⟨l', 0⟩ r2 x c (w1.setCell ⟨w.heap.size, 0, none⟩ (.int .u8 2)) (h2.sn _ _ (by omega)) hl' HI.out).mono ?_; rintro e w3 ⟨rfl, hb3, h3⟩; have hU := (hV.set0 (.int .u8 2)).kept hb3 (by omega); have u0 := hU.c0; have u1 := hU.c1; have u2 := hU.c2; have q0 := hU.fz 0; have q1 := hU.fz 1; have q2 := hU.fz 2; have hU' := hU.lt))
  have hW := (((But.alloc b w obj0).trans hb).sn 0 (.int .u8 2) (Nat.le_refl _)).trans hb3
  have h3' : Two w3 b 67 _ _ := h3
  clear H HI HB hV hU
  refine bodyPost_ret (v := .tuple #[vVal 2 x ⟨#[]⟩, .int .i64 c]) (by simp [results, Try.results44, go_sem, *]) rfl ⟨rfl, ?_, ?_⟩
  · exact (((hW.sn _ _ (Nat.le_refl _)).sn _ _ (Nat.le_refl _)).sn _ _ (Nat.le_refl _)).sn _ _ (Nat.le_refl _)
  · exact ⟨_, _, (((h3'.sn _ _ (by omega)).sn _ _ (by omega)).sn _ _ (by omega)).sn _ _ (by omega)⟩
set_option maxHeartbeats 1000000 in
theorem val44_bool_big (B b : Nat) (l l' : List UInt8) (x : Nat) (r2 : Rs) (w : World) (hs : l.length ≤ 1000000) (hB : Cap w B b (ptr b)) (hr : Two w b 67 (str l) (.int .i64 0)) (h : scan 1099511627776 0 0 l = .ok (2, l')) (hi : (Rs.mk l' 0).num 1099511627776 = ((x, 0), r2)) (hx : 1 < x) (hx' : x ≤ 1099511627776) :
    Calls Try.prog 44 #[ptr B] w fun e w' => e = .returned (.tuple #[vVal 2 x ⟨#[]⟩, .int .i64 4]) ∧ But b w w' ∧ ∃ y z, Two w' b 67 y z := by
  have H := Lib.hid (numW_ok b l 2 l' (w.alloc obj0) (hr.al _) hs h)
  have hb := hB.cell
  have hlt := hr.lt
  have hBl := hB.lt
  have HB := Lib.hid hB
  have HI := Lib.hid hi
  have hl' : l'.length ≤ 1000000 := by have := (scan_le _ _ _ _ _ _ h).2; omega
  clear h hB hr hi
  go_enter Try.func44, Try.ntmps44
  go_wp2_with (first
    | (go_at_call 25; refine H.out.mono ?_; rintro e w1 ⟨rfl, hb, h2⟩; have hV := (three_new w (.int .u8 0) (.int .i64 0) (.string ⟨#[]⟩)).kept hb (by omega); have v0 := hV.c0; have v1 := hV.c1; have v2 := hV.c2; have g0 := hV.fz 0; have g1 := hV.fz 1; have g2 := hV.fz 2; have hV' := hV.lt; have hBc := (HB.out.kept ((But.alloc b w obj0).trans hb)).cell)
    | (go_at_call 25; refine (numW_at b ⟨l', 0⟩ r2 x 0 (w1.setCell ⟨w.heap.size, 0, none⟩ (.int .u8 2)) (h2.sn _ _ (by omega)) hl' HI.out).mono ?_; rintro e w3 ⟨rfl, hb3, h3⟩; have hU := (hV.set0 (.int .u8 2)).kept hb3 (by omega); have u0 := hU.c0; have u1 := hU.c1; have u2 := hU.c2; have q0 := hU.fz 0; have q1 := hU.fz 1; have q2 := hU.fz 2; have hU' := hU.lt))
  have hW := (((But.alloc b w obj0).trans hb).sn 0 (.int .u8 2) (Nat.le_refl _)).trans hb3
  have h3' : Two w3 b 67 _ _ := h3
  clear H HI HB hV hU
  refine bodyPost_ret (v := .tuple #[vVal 2 x ⟨#[]⟩, .int .i64 4]) (by simp [results, Try.results44, go_sem, *]) rfl ⟨rfl, ?_, ?_⟩
  · exact (((hW.sn _ _ (Nat.le_refl _)).sn _ _ (Nat.le_refl _)).sn _ _ (Nat.le_refl _)).sn _ _ (Nat.le_refl _)
  · exact ⟨_, _, (((h3'.sn _ _ (by omega)).sn _ _ (by omega)).sn _ _ (by omega)).sn _ _ (by omega)⟩
set_option maxHeartbeats 1000000 in
theorem val44_bool (B b : Nat) (l l' : List UInt8) (x : Nat) (r2 : Rs) (w : World) (hs : l.length ≤ 1000000) (hB : Cap w B b (ptr b)) (hr : Two w b 67 (str l) (.int .i64 0)) (h : scan 1099511627776 0 0 l = .ok (2, l')) (hi : (Rs.mk l' 0).num 1099511627776 = ((x, 0), r2)) (hx : x ≤ 1) :
    Calls Try.prog 44 #[ptr B] w fun e w' => e = .returned (.tuple #[vVal 2 x ⟨#[]⟩, .int .i64 0]) ∧ But b w w' ∧ RdW w' b r2 := by
  have H := Lib.hid (numW_ok b l 2 l' (w.alloc obj0) (hr.al _) hs h)
  have hb := hB.cell
  have hlt := hr.lt
  have hBl := hB.lt
  have HB := Lib.hid hB
  have HI := Lib.hid hi
  have hl' : l'.length ≤ 1000000 := by have := (scan_le _ _ _ _ _ _ h).2; omega
  clear h hB hr hi
  go_enter Try.func44, Try.ntmps44
  go_wp2_with (first
    | (go_at_call 25; refine H.out.mono ?_; rintro e w1 ⟨rfl, hb, h2⟩; have hV := (three_new w (.int .u8 0) (.int .i64 0) (.string ⟨#[]⟩)).kept hb (by omega); have v0 := hV.c0; have v1 := hV.c1; have v2 := hV.c2; have g0 := hV.fz 0; have g1 := hV.fz 1; have g2 := hV.fz 2; have hV' := hV.lt; have hBc := (HB.out.kept ((But.alloc b w obj0).trans hb)).cell)
    | (go_at_call 25; refine (numW_at b ⟨l', 0⟩ r2 x 0 (w1.setCell ⟨w.heap.size, 0, none⟩ (.int .u8 2)) (h2.sn _ _ (by omega)) hl' HI.out).mono ?_; rintro e w3 ⟨rfl, hb3, h3⟩; have hU := (hV.set0 (.int .u8 2)).kept hb3 (by omega); have u0 := hU.c0; have u1 := hU.c1; have u2 := hU.c2; have q0 := hU.fz 0; have q1 := hU.fz 1; have q2 := hU.fz 2; have hU' := hU.lt))
  have hW := (((But.alloc b w obj0).trans hb).sn 0 (.int .u8 2) (Nat.le_refl _)).trans hb3
  have h3' : Two w3 b 67 _ _ := h3
  clear H HI HB hV hU
  refine bodyPost_ret (v := .tuple #[vVal 2 x ⟨#[]⟩, .int .i64 0]) (by simp [results, Try.results44, go_sem, *]) rfl ⟨rfl, ?_, ?_⟩
  · exact (((hW.sn _ _ (Nat.le_refl _)).sn _ _ (Nat.le_refl _)).sn _ _ (Nat.le_refl _)).sn _ _ (Nat.le_refl _)
  · exact (((h3'.sn _ _ (by omega)).sn _ _ (by omega)).sn _ _ (by omega)).sn _ _ (by omega)
end Go.Proofs.Ytlflkmigfggdjaa
