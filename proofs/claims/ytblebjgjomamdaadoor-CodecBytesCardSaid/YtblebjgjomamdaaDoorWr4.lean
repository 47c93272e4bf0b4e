import Derived.Test.YtblebjgjomamdaaDoorWr3
/- What the closure of wire's Reader.Value returns. Conditions: the bytes are not too many. -/
namespace Go.Proofs.YtblebjgjomamdaaDoor.Wr
open Go.RowKit Go.Ow Go.Wi

theorem numW_at (b : Nat) (r r2 : Rs) (n c : Nat) (w : World) (hr : RdW w b r) (hl : r.l.length ≤ 1000000) (h : r.num 1099511627776 = ((n, c), r2)) :
    Calls Tryd.prog 79 #[ptr b] w fun e w' => e = .returned (.tuple #[.int .i64 n, .int .i64 c]) ∧ But b w w' ∧ RdW w' b r2 := by
  have := numW_any b r w hr hl
  rw [h] at this
  exact this
theorem intW_at (b : Nat) (r r2 : Rs) (n : Int) (c : Nat) (w : World) (hr : RdW w b r) (hl : r.l.length ≤ 1000000) (h : r.int = ((n, c), r2)) :
    Calls Tryd.prog 82 #[ptr b] w fun e w' => e = .returned (.tuple #[.int .i64 n, .int .i64 c]) ∧ But b w w' ∧ RdW w' b r2 := by
  have := intW_any b r w hr hl
  rw [h] at this
  exact this
theorem textW_at (b : Nat) (m : Int) (r r2 : Rs) (t : List UInt8) (c : Nat) (w : World) (hr : RdW w b r) (hl : r.l.length ≤ 1000000) (h : r.text m = ((t, c), r2)) :
    Calls Tryd.prog 40 #[ptr b, .int .i64 m] w fun e w' => e = .returned (.tuple #[str t, .int .i64 c]) ∧ But b w w' ∧ RdW w' b r2 := by
  have := textW_any b m r w hr hl
  rw [h] at this
  exact this

set_option maxHeartbeats 1000000 in
theorem val44_err (B b : Nat) (l : List UInt8) (c : Nat) (w : World) (hs : l.length ≤ 1000000) (hB : Cap w B b (ptr b)) (hr : Two w b 83 (str l) (.int .i64 0)) (h : scan 1099511627776 0 0 l = .error c) :
    Calls Tryd.prog 81 #[ptr B] w fun e w' => e = .returned (.tuple #[vVal 0 0 ⟨#[]⟩, .int .i64 c]) ∧ But b w w' ∧ ∃ y z, Two w' b 83 y z := by
  have hc : c ≠ 0 := by have := scan_err _ _ _ _ _ h; omega
  have hc'' : ((c : Int) != 0) = true := by rw [bne_iff_ne]; omega
  have H := Lib.hid (numW_err b l c (w.alloc obj0) (hr.al _) hs h)
  have hb := hB.cell
  have hlt := hr.lt
  have hBl := hB.lt
  clear h hc hB hr
  go_enter Tryd.func81, Tryd.ntmps81
  go_wp2_with (go_at_call 79; refine H.out.mono ?_; rintro e w1 ⟨rfl, hb, h2⟩; have hV := (three_new w (.int .u8 0) (.int .i64 0) (.string ⟨#[]⟩)).kept hb (by omega); have v0 := hV.c0; have v1 := hV.c1; have v2 := hV.c2; have g0 := hV.fz 0; have g1 := hV.fz 1; have g2 := hV.fz 2; have hV' := hV.lt; clear hV)
  have hW := (But.alloc b w obj0).trans hb
  clear H
  refine bodyPost_ret (v := .tuple #[vVal 0 0 ⟨#[]⟩, .int .i64 c]) (by simp [results, Tryd.results81, go_sem, *]) rfl ⟨rfl, ?_, ?_⟩
  · exact ((hW.sn _ _ (Nat.le_refl _)).sn _ _ (Nat.le_refl _)).sn _ _ (Nat.le_refl _)
  · exact ⟨_, _, ((h2.sn _ _ (by omega)).sn _ _ (by omega)).sn _ _ (by omega)⟩
set_option maxHeartbeats 1000000 in
theorem val44_big (B b : Nat) (l l' : List UInt8) (n : Nat) (w : World) (hs : l.length ≤ 1000000) (hB : Cap w B b (ptr b)) (hr : Two w b 83 (str l) (.int .i64 0)) (h : scan 1099511627776 0 0 l = .ok (n, l')) (hn : 3 < n) :
    Calls Tryd.prog 81 #[ptr B] w fun e w' => e = .returned (.tuple #[vVal 0 0 ⟨#[]⟩, .int .i64 4]) ∧ But b w w' ∧ ∃ y z, Two w' b 83 y z := by
  have H := Lib.hid (numW_ok b l n l' (w.alloc obj0) (hr.al _) hs h)
  have hb := hB.cell
  have hlt := hr.lt
  have hBl := hB.lt
  clear h hB hr
  go_enter Tryd.func81, Tryd.ntmps81
  go_wp2_with (go_at_call 79; refine H.out.mono ?_; rintro e w1 ⟨rfl, hb, h2⟩; have hV := (three_new w (.int .u8 0) (.int .i64 0) (.string ⟨#[]⟩)).kept hb (by omega); have v0 := hV.c0; have v1 := hV.c1; have v2 := hV.c2; have g0 := hV.fz 0; have g1 := hV.fz 1; have g2 := hV.fz 2; have hV' := hV.lt; clear hV)
  have hW := (But.alloc b w obj0).trans hb
  clear H
  refine bodyPost_ret (v := .tuple #[vVal 0 0 ⟨#[]⟩, .int .i64 4]) (by simp [results, Tryd.results81, go_sem, *]) rfl ⟨rfl, ?_, ?_⟩
  · exact ((hW.sn _ _ (Nat.le_refl _)).sn _ _ (Nat.le_refl _)).sn _ _ (Nat.le_refl _)
  · exact ⟨_, _, ((h2.sn _ _ (by omega)).sn _ _ (by omega)).sn _ _ (by omega)⟩
set_option maxHeartbeats 1000000 in
theorem val44_none (B b : Nat) (l l' : List UInt8) (w : World) (hs : l.length ≤ 1000000) (hB : Cap w B b (ptr b)) (hr : Two w b 83 (str l) (.int .i64 0)) (h : scan 1099511627776 0 0 l = .ok (0, l')) :
    Calls Tryd.prog 81 #[ptr B] w fun e w' => e = .returned (.tuple #[vVal 0 0 ⟨#[]⟩, .int .i64 0]) ∧ But b w w' ∧ Two w' b 83 (str l') (.int .i64 0) := by
  have H := Lib.hid (numW_ok b l 0 l' (w.alloc obj0) (hr.al _) hs h)
  have hb := hB.cell
  have hlt := hr.lt
  have hBl := hB.lt
  clear h hB hr
  go_enter Tryd.func81, Tryd.ntmps81
  go_wp2_with (go_at_call 79; refine H.out.mono ?_; rintro e w1 ⟨rfl, hb, h2⟩; have hV := (three_new w (.int .u8 0) (.int .i64 0) (.string ⟨#[]⟩)).kept hb (by omega); have v0 := hV.c0; have v1 := hV.c1; have v2 := hV.c2; have g0 := hV.fz 0; have g1 := hV.fz 1; have g2 := hV.fz 2; have hV' := hV.lt; clear hV)
  have hW := (But.alloc b w obj0).trans hb
  clear H
  refine bodyPost_ret (v := .tuple #[vVal 0 0 ⟨#[]⟩, .int .i64 0]) (by simp [results, Tryd.results81, go_sem, *]) rfl ⟨rfl, ?_, ?_⟩
  · exact (((hW.sn _ _ (Nat.le_refl _)).sn _ _ (Nat.le_refl _)).sn _ _ (Nat.le_refl _)).sn _ _ (Nat.le_refl _)
  · exact (((h2.sn _ _ (by omega)).sn _ _ (by omega)).sn _ _ (by omega)).sn _ _ (by omega)
set_option maxHeartbeats 1000000 in
theorem val44_int (B b : Nat) (l l' : List UInt8) (x : Int) (c : Nat) (r2 : Rs) (w : World) (hs : l.length ≤ 1000000) (hB : Cap w B b (ptr b)) (hr : Two w b 83 (str l) (.int .i64 0)) (h : scan 1099511627776 0 0 l = .ok (1, l')) (hi : (Rs.mk l' 0).int = ((x, c), r2)) :
    Calls Tryd.prog 81 #[ptr B] w fun e w' => e = .returned (.tuple #[vVal 1 x ⟨#[]⟩, .int .i64 c]) ∧ But b w w' ∧ RdW w' b r2 := by
  have H := Lib.hid (numW_ok b l 1 l' (w.alloc obj0) (hr.al _) hs h)
  have hb := hB.cell
  have hlt := hr.lt
  have hBl := hB.lt
  have HB := Lib.hid hB
  have HI := Lib.hid hi
  have hl' : l'.length ≤ 1000000 := by have := (scan_le _ _ _ _ _ _ h).2; omega
  clear h hB hr hi
  go_enter Tryd.func81, Tryd.ntmps81
  go_wp2_with (first
    | (go_at_call 79; refine H.out.mono ?_; rintro e w1 ⟨rfl, hb, h2⟩; have hV := (three_new w (.int .u8 0) (.int .i64 0) (.string ⟨#[]⟩)).kept hb (by omega); have v0 := hV.c0; have v1 := hV.c1; have v2 := hV.c2; have g0 := hV.fz 0; have g1 := hV.fz 1; have g2 := hV.fz 2; have hV' := hV.lt; have hBc := (HB.out.kept ((But.alloc b w obj0).trans hb)).cell)
    | (go_at_call 82; refine (intW_at b ⟨l', 0⟩ r2 x c (w1.setCell ⟨w.heap.size, 0, none⟩ (.int .u8 1)) (h2.sn _ _ (by omega)) hl' HI.out).mono ?_; rintro e w3 ⟨rfl, hb3, h3⟩; have hU := (hV.set0 (.int .u8 1)).kept hb3 (by omega); have u0 := hU.c0; have u1 := hU.c1; have u2 := hU.c2; have q0 := hU.fz 0; have q1 := hU.fz 1; have q2 := hU.fz 2; have hU' := hU.lt))
  have hW := (((But.alloc b w obj0).trans hb).sn 0 (.int .u8 1) (Nat.le_refl _)).trans hb3
  have h3' : Two w3 b 83 _ _ := h3
  clear H HI HB hV hU
  refine bodyPost_ret (v := .tuple #[vVal 1 x ⟨#[]⟩, .int .i64 c]) (by simp [results, Tryd.results81, go_sem, *]) rfl ⟨rfl, ?_, ?_⟩
  · exact (((hW.sn _ _ (Nat.le_refl _)).sn _ _ (Nat.le_refl _)).sn _ _ (Nat.le_refl _)).sn _ _ (Nat.le_refl _)
  · exact (((h3'.sn _ _ (by omega)).sn _ _ (by omega)).sn _ _ (by omega)).sn _ _ (by omega)
set_option maxHeartbeats 1000000 in
theorem val44_text (B b : Nat) (l l' : List UInt8) (x : List UInt8) (c : Nat) (r2 : Rs) (w : World) (hs : l.length ≤ 1000000) (hB : Cap w B b (ptr b)) (hr : Two w b 83 (str l) (.int .i64 0)) (h : scan 1099511627776 0 0 l = .ok (3, l')) (hi : (Rs.mk l' 0).text 40 = ((x, c), r2)) :
    Calls Tryd.prog 81 #[ptr B] w fun e w' => e = .returned (.tuple #[vVal 3 0 ⟨x.toArray⟩, .int .i64 c]) ∧ But b w w' ∧ RdW w' b r2 := by
  have H := Lib.hid (numW_ok b l 3 l' (w.alloc obj0) (hr.al _) hs h)
  have hb := hB.cell
  have hlt := hr.lt
  have hBl := hB.lt
  have HB := Lib.hid hB
  have HI := Lib.hid hi
  have hl' : l'.length ≤ 1000000 := by have := (scan_le _ _ _ _ _ _ h).2; omega
  clear h hB hr hi
  go_enter Tryd.func81, Tryd.ntmps81
  go_wp2_with (first
    | (go_at_call 79; refine H.out.mono ?_; rintro e w1 ⟨rfl, hb, h2⟩; have hV := (three_new w (.int .u8 0) (.int .i64 0) (.string ⟨#[]⟩)).kept hb (by omega); have v0 := hV.c0; have v1 := hV.c1; have v2 := hV.c2; have g0 := hV.fz 0; have g1 := hV.fz 1; have g2 := hV.fz 2; have hV' := hV.lt; have hBc := (HB.out.kept ((But.alloc b w obj0).trans hb)).cell)
    | (go_at_call 40; refine (textW_at b 40 ⟨l', 0⟩ r2 x c (w1.setCell ⟨w.heap.size, 0, none⟩ (.int .u8 3)) (h2.sn _ _ (by omega)) hl' HI.out).mono ?_; rintro e w3 ⟨rfl, hb3, h3⟩; have hU := (hV.set0 (.int .u8 3)).kept hb3 (by omega); have u0 := hU.c0; have u1 := hU.c1; have u2 := hU.c2; have q0 := hU.fz 0; have q1 := hU.fz 1; have q2 := hU.fz 2; have hU' := hU.lt))
  have hW := (((But.alloc b w obj0).trans hb).sn 0 (.int .u8 3) (Nat.le_refl _)).trans hb3
  have h3' : Two w3 b 83 _ _ := h3
  clear H HI HB hV hU
  refine bodyPost_ret (v := .tuple #[vVal 3 0 ⟨x.toArray⟩, .int .i64 c]) (by simp [results, Tryd.results81, go_sem, *]) rfl ⟨rfl, ?_, ?_⟩
  · exact (((hW.sn _ _ (Nat.le_refl _)).sn _ _ (Nat.le_refl _)).sn _ _ (Nat.le_refl _)).sn _ _ (Nat.le_refl _)
  · exact (((h3'.sn _ _ (by omega)).sn _ _ (by omega)).sn _ _ (by omega)).sn _ _ (by omega)
set_option maxHeartbeats 1000000 in
theorem val44_bool_err (B b : Nat) (l l' : List UInt8) (x c : Nat) (r2 : Rs) (w : World) (hs : l.length ≤ 1000000) (hB : Cap w B b (ptr b)) (hr : Two w b 83 (str l) (.int .i64 0)) (h : scan 1099511627776 0 0 l = .ok (2, l')) (hi : (Rs.mk l' 0).num 1099511627776 = ((x, c), r2)) (hc : c ≠ 0) :
    Calls Tryd.prog 81 #[ptr B] w fun e w' => e = .returned (.tuple #[vVal 2 x ⟨#[]⟩, .int .i64 c]) ∧ But b w w' ∧ ∃ y z, Two w' b 83 y z := by
  have H := Lib.hid (numW_ok b l 2 l' (w.alloc obj0) (hr.al _) hs h)
  have hb := hB.cell
  have hlt := hr.lt
  have hBl := hB.lt
  have HB := Lib.hid hB
  have HI := Lib.hid hi
  have hl' : l'.length ≤ 1000000 := by have := (scan_le _ _ _ _ _ _ h).2; omega
  have hc1 : ((c : Int) == 0) = false := by rw [beq_eq_false_iff_ne]; omega
  clear hc
  clear h hB hr hi
  go_enter Tryd.func81, Tryd.ntmps81
  go_wp2_with (first
    | (go_at_call 79; refine H.out.mono ?_; rintro e w1 ⟨rfl, hb, h2⟩; have hV := (three_new w (.int .u8 0) (.int .i64 0) (.string ⟨#[]⟩)).kept hb (by omega); have v0 := hV.c0; have v1 := hV.c1; have v2 := hV.c2; have g0 := hV.fz 0; have g1 := hV.fz 1; have g2 := hV.fz 2; have hV' := hV.lt; have hBc := (HB.out.kept ((But.alloc b w obj0).trans hb)).cell)
    | (go_at_call 79; refine (numW_at b ⟨l', 0⟩ r2 x c (w1.setCell ⟨w.heap.size, 0, none⟩ (.int .u8 2)) (h2.sn _ _ (by omega)) hl' HI.out).mono ?_; rintro e w3 ⟨rfl, hb3, h3⟩; have hU := (hV.set0 (.int .u8 2)).kept hb3 (by omega); have u0 := hU.c0; have u1 := hU.c1; have u2 := hU.c2; have q0 := hU.fz 0; have q1 := hU.fz 1; have q2 := hU.fz 2; have hU' := hU.lt))
  have hW := (((But.alloc b w obj0).trans hb).sn 0 (.int .u8 2) (Nat.le_refl _)).trans hb3
  have h3' : Two w3 b 83 _ _ := h3
  clear H HI HB hV hU
  refine bodyPost_ret (v := .tuple #[vVal 2 x ⟨#[]⟩, .int .i64 c]) (by simp [results, Tryd.results81, go_sem, *]) rfl ⟨rfl, ?_, ?_⟩
  · exact (((hW.sn _ _ (Nat.le_refl _)).sn _ _ (Nat.le_refl _)).sn _ _ (Nat.le_refl _)).sn _ _ (Nat.le_refl _)
  · exact ⟨_, _, (((h3'.sn _ _ (by omega)).sn _ _ (by omega)).sn _ _ (by omega)).sn _ _ (by omega)⟩
set_option maxHeartbeats 1000000 in
theorem val44_bool_big (B b : Nat) (l l' : List UInt8) (x : Nat) (r2 : Rs) (w : World) (hs : l.length ≤ 1000000) (hB : Cap w B b (ptr b)) (hr : Two w b 83 (str l) (.int .i64 0)) (h : scan 1099511627776 0 0 l = .ok (2, l')) (hi : (Rs.mk l' 0).num 1099511627776 = ((x, 0), r2)) (hx : 1 < x) (hx' : x ≤ 1099511627776) :
    Calls Tryd.prog 81 #[ptr B] w fun e w' => e = .returned (.tuple #[vVal 2 x ⟨#[]⟩, .int .i64 4]) ∧ But b w w' ∧ ∃ y z, Two w' b 83 y z := by
  have H := Lib.hid (numW_ok b l 2 l' (w.alloc obj0) (hr.al _) hs h)
  have hb := hB.cell
  have hlt := hr.lt
  have hBl := hB.lt
  have HB := Lib.hid hB
  have HI := Lib.hid hi
  have hl' : l'.length ≤ 1000000 := by have := (scan_le _ _ _ _ _ _ h).2; omega
  clear h hB hr hi
  go_enter Tryd.func81, Tryd.ntmps81
  go_wp2_with (first
    | (go_at_call 79; refine H.out.mono ?_; rintro e w1 ⟨rfl, hb, h2⟩; have hV := (three_new w (.int .u8 0) (.int .i64 0) (.string ⟨#[]⟩)).kept hb (by omega); have v0 := hV.c0; have v1 := hV.c1; have v2 := hV.c2; have g0 := hV.fz 0; have g1 := hV.fz 1; have g2 := hV.fz 2; have hV' := hV.lt; have hBc := (HB.out.kept ((But.alloc b w obj0).trans hb)).cell)
    | (go_at_call 79; refine (numW_at b ⟨l', 0⟩ r2 x 0 (w1.setCell ⟨w.heap.size, 0, none⟩ (.int .u8 2)) (h2.sn _ _ (by omega)) hl' HI.out).mono ?_; rintro e w3 ⟨rfl, hb3, h3⟩; have hU := (hV.set0 (.int .u8 2)).kept hb3 (by omega); have u0 := hU.c0; have u1 := hU.c1; have u2 := hU.c2; have q0 := hU.fz 0; have q1 := hU.fz 1; have q2 := hU.fz 2; have hU' := hU.lt))
  have hW := (((But.alloc b w obj0).trans hb).sn 0 (.int .u8 2) (Nat.le_refl _)).trans hb3
  have h3' : Two w3 b 83 _ _ := h3
  clear H HI HB hV hU
  refine bodyPost_ret (v := .tuple #[vVal 2 x ⟨#[]⟩, .int .i64 4]) (by simp [results, Tryd.results81, go_sem, *]) rfl ⟨rfl, ?_, ?_⟩
  · exact (((hW.sn _ _ (Nat.le_refl _)).sn _ _ (Nat.le_refl _)).sn _ _ (Nat.le_refl _)).sn _ _ (Nat.le_refl _)
  · exact ⟨_, _, (((h3'.sn _ _ (by omega)).sn _ _ (by omega)).sn _ _ (by omega)).sn _ _ (by omega)⟩
set_option maxHeartbeats 1000000 in
theorem val44_bool (B b : Nat) (l l' : List UInt8) (x : Nat) (r2 : Rs) (w : World) (hs : l.length ≤ 1000000) (hB : Cap w B b (ptr b)) (hr : Two w b 83 (str l) (.int .i64 0)) (h : scan 1099511627776 0 0 l = .ok (2, l')) (hi : (Rs.mk l' 0).num 1099511627776 = ((x, 0), r2)) (hx : x ≤ 1) :
    Calls Tryd.prog 81 #[ptr B] w fun e w' => e = .returned (.tuple #[vVal 2 x ⟨#[]⟩, .int .i64 0]) ∧ But b w w' ∧ RdW w' b r2 := by
  have H := Lib.hid (numW_ok b l 2 l' (w.alloc obj0) (hr.al _) hs h)
  have hb := hB.cell
  have hlt := hr.lt
  have hBl := hB.lt
  have HB := Lib.hid hB
  have HI := Lib.hid hi
  have hl' : l'.length ≤ 1000000 := by have := (scan_le _ _ _ _ _ _ h).2; omega
  clear h hB hr hi
  go_enter Tryd.func81, Tryd.ntmps81
  go_wp2_with (first
    | (go_at_call 79; refine H.out.mono ?_; rintro e w1 ⟨rfl, hb, h2⟩; have hV := (three_new w (.int .u8 0) (.int .i64 0) (.string ⟨#[]⟩)).kept hb (by omega); have v0 := hV.c0; have v1 := hV.c1; have v2 := hV.c2; have g0 := hV.fz 0; have g1 := hV.fz 1; have g2 := hV.fz 2; have hV' := hV.lt; have hBc := (HB.out.kept ((But.alloc b w obj0).trans hb)).cell)
    | (go_at_call 79; refine (numW_at b ⟨l', 0⟩ r2 x 0 (w1.setCell ⟨w.heap.size, 0, none⟩ (.int .u8 2)) (h2.sn _ _ (by omega)) hl' HI.out).mono ?_; rintro e w3 ⟨rfl, hb3, h3⟩; have hU := (hV.set0 (.int .u8 2)).kept hb3 (by omega); have u0 := hU.c0; have u1 := hU.c1; have u2 := hU.c2; have q0 := hU.fz 0; have q1 := hU.fz 1; have q2 := hU.fz 2; have hU' := hU.lt))
  have hW := (((But.alloc b w obj0).trans hb).sn 0 (.int .u8 2) (Nat.le_refl _)).trans hb3
  have h3' : Two w3 b 83 _ _ := h3
  clear H HI HB hV hU
  refine bodyPost_ret (v := .tuple #[vVal 2 x ⟨#[]⟩, .int .i64 0]) (by simp [results, Tryd.results81, go_sem, *]) rfl ⟨rfl, ?_, ?_⟩
  · exact (((hW.sn _ _ (Nat.le_refl _)).sn _ _ (Nat.le_refl _)).sn _ _ (Nat.le_refl _)).sn _ _ (Nat.le_refl _)
  · exact (((h3'.sn _ _ (by omega)).sn _ _ (by omega)).sn _ _ (by omega)).sn _ _ (by omega)
end Go.Proofs.YtblebjgjomamdaaDoor.Wr

/- What wire's Reader.Value returns, and what it does to the reader. Conditions: the bytes are not too many. -/
namespace Go.Wi
/-- a value that a reader reads: Kind, N, T -/
structure Vl where
  k : Nat
  n : Int
  t : List UInt8
def Vl.zero : Vl := ⟨0, 0, []⟩
def Rs.value (r : Rs) : (Vl × Nat) × Rs :=
  match r.num 1099511627776 with
  | ((k, e), r1) =>
    if e ≠ 0 then ((Vl.zero, e), r1)
    else if 3 < k then ((Vl.zero, 4), ⟨[], 4⟩)
    else if k = 1 then match r1.int with
      | ((x, e), r2) => if e ≠ 0 then ((Vl.zero, e), ⟨[], e⟩) else ((⟨1, x, []⟩, 0), r2)
    else if k = 2 then match r1.num 1099511627776 with
      | ((x, e), r2) => if e ≠ 0 then ((Vl.zero, e), ⟨[], e⟩) else if 1 < x then ((Vl.zero, 4), ⟨[], 4⟩) else ((⟨2, x, []⟩, 0), r2)
    else if k = 3 then match r1.text 40 with
      | ((t, e), r2) => if e ≠ 0 then ((Vl.zero, e), ⟨[], e⟩) else ((⟨3, 0, t⟩, 0), r2)
    else ((Vl.zero, 0), r1)

theorem Rs.num_ok {most n : Nat} {l : List UInt8} {r2 : Rs} (h : (Rs.mk l 0).num most = ((n, 0), r2)) : r2.e = 0 ∧ n ≤ most ∧ r2.l.length < l.length ∧ scan most 0 0 l = .ok (n, r2.l) := by
  unfold Rs.num at h
  simp only [ne_eq, not_true_eq_false, if_false] at h
  cases hs : scan most 0 0 l with
  | error c =>
    rw [hs] at h
    simp only [Prod.mk.injEq] at h
    have := Go.Proofs.YtblebjgjomamdaaDoor.Wr.scan_err _ _ _ _ _ hs
    omega
  | ok p =>
    obtain ⟨m, l'⟩ := p
    rw [hs] at h
    simp only [Prod.mk.injEq] at h
    obtain ⟨⟨rfl, _⟩, rfl⟩ := h
    have := Go.Proofs.YtblebjgjomamdaaDoor.Wr.scan_le _ _ _ _ _ _ hs
    exact ⟨rfl, this.1, this.2, rfl⟩
theorem Rs.int_ok {x : Int} {l : List UInt8} {r2 : Rs} (h : (Rs.mk l 0).int = ((x, 0), r2)) : r2.e = 0 ∧ r2.l.length < l.length ∧ ∃ n, scan 18446744073709551615 0 0 l = .ok (n, r2.l) ∧ x = zag n := by
  unfold Rs.int at h
  cases hn : (Rs.mk l 0).num 18446744073709551615 with
  | mk p r' =>
    obtain ⟨n, e⟩ := p
    rw [hn] at h
    simp only at h
    split at h
    · simp only [Prod.mk.injEq] at h
      omega
    · rename_i he
      have he : e = 0 := by omega
      subst he
      simp only [Prod.mk.injEq] at h
      obtain ⟨⟨rfl, _⟩, rfl⟩ := h
      have := Rs.num_ok hn
      exact ⟨this.1, this.2.2.1, n, this.2.2.2, rfl⟩
theorem Rs.text_ok {m : Int} {t l : List UInt8} {r2 : Rs} (h : (Rs.mk l 0).text m = ((t, 0), r2)) : r2.e = 0 ∧ r2.l.length < l.length ∧ (t.length : Int) ≤ m ∧ ∃ l', scan 1099511627776 0 0 l = .ok (t.length, l') ∧ l' = t ++ r2.l := by
  unfold Rs.text at h
  cases hn : (Rs.mk l 0).num 1099511627776 with
  | mk p r' =>
    obtain ⟨n, e⟩ := p
    rw [hn] at h
    simp only at h
    split at h
    · simp only [Prod.mk.injEq] at h
      omega
    · rename_i he
      have he : e = 0 := by omega
      subst he
      have h4 := Rs.num_ok hn
      split at h
      · simp at h
      · split at h
        · simp at h
        · simp only [Prod.mk.injEq] at h
          obtain ⟨⟨rfl, _⟩, rfl⟩ := h
          have hlen : (r'.l.take n).length = n := by rw [List.length_take]; omega
          refine ⟨rfl, ?_, by rw [hlen]; omega, r'.l, by rw [hlen]; exact h4.2.2.2, by simp⟩
          simp only [List.length_drop]
          omega
end Go.Wi
namespace Go.Proofs.YtblebjgjomamdaaDoor.Wr
open Go.RowKit Go.Ow Go.Wi

/-- a value's data -/
abbrev valOf (v : Vl) : Value := vVal v.k v.n ⟨v.t.toArray⟩
abbrev capV (w : World) (b : Nat) : World := (w.alloc (.cells #[ptr b] 60)).alloc obj0
theorem capv_facts {w : World} {b : Nat} {x y : Value} (h : Two w b 83 x y) : Two ((capV w b).alloc obj0) b 83 x y ∧ Cap ((capV w b).alloc obj0) w.heap.size b (ptr b) ∧ Two (capV w b) b 83 x y := by
  have hl := h.lt
  refine ⟨((h.al _).al _).al _, ⟨?_, by simp; omega, by omega⟩, (h.al _).al _⟩
  have h1 := (But.alloc b (w.alloc (.cells #[ptr b] 60)) obj0).cell (k := w.heap.size) (o := 0) (by simp) (by omega)
  have h2 := (But.alloc b (capV w b) obj0).cell (k := w.heap.size) (o := 0) (by simp; omega) (by omega)
  rw [h2, h1]; simp
set_option maxHeartbeats 1000000 in
/-- Reader.Value, by what read[Value] comes to -/
theorem value24 (b : Nat) (v : Vl) (c : Nat) (r2 : Rs) (w : World) (hlt : b < w.heap.size)
    (H : Calls Tryd.prog 80 #[ptr b, .func (Fn.func 81) #[] #[ptr w.heap.size]] (capV w b) fun e w' => e = .returned (.tuple #[valOf v, .int .i64 c]) ∧ But b (capV w b) w' ∧ RdW w' b r2) :
    Calls Tryd.prog 43 #[ptr b] w fun e w' => e = .returned (.tuple #[valOf v, .int .i64 c]) ∧ But b w w' ∧ RdW w' b r2 := by
  have H := Lib.hid H
  have h0 := three_new (w.alloc (.cells #[ptr b] 60)) (.int .u8 0) (.int .i64 0) (.string ⟨#[]⟩)
  have hz : (w.alloc (.cells #[ptr b] 60)).heap.size = w.heap.size + 1 := by simp
  rw [hz] at h0
  have H0 := Lib.hid h0
  clear h0 hz
  go_enter Tryd.func43, Tryd.ntmps43
  go_wp2_with (go_at_call 80; refine H.out.mono ?_; rintro e w1 ⟨rfl, hb, h2⟩; have hV := H0.out.kept hb (by omega); have v0 := hV.c0; have v1 := hV.c1; have v2 := hV.c2; have g0 := hV.fz 0; have g1 := hV.fz 1; have g2 := hV.fz 2; have hV' := hV.lt; clear hV)
  have hW := ((But.alloc b w (.cells #[ptr b] 60)).trans (But.alloc b _ obj0)).trans hb
  have h2' : Two w1 b 83 _ _ := h2
  clear H H0
  refine bodyPost_ret (v := .tuple #[valOf v, .int .i64 c]) (by simp [results, Tryd.results43, go_sem, *]) rfl ⟨rfl, ?_, ?_⟩
  · exact ((hW.sn _ _ (by omega)).sn _ _ (by omega)).sn _ _ (by omega)
  · exact ((h2'.sn _ _ (by omega)).sn _ _ (by omega)).sn _ _ (by omega)

theorem Rs.num_e {most n c : Nat} {l : List UInt8} {r2 : Rs} (h : (Rs.mk l 0).num most = ((n, c), r2)) (hc : c ≠ 0) : r2 = ⟨[], c⟩ ∧ n = 0 := by
  unfold Rs.num at h
  simp only [ne_eq, not_true_eq_false, if_false] at h
  cases hs : scan most 0 0 l with
  | error c' =>
    rw [hs] at h
    simp only [Prod.mk.injEq] at h
    obtain ⟨⟨rfl, rfl⟩, rfl⟩ := h
    exact ⟨rfl, rfl⟩
  | ok p =>
    obtain ⟨m, l'⟩ := p
    rw [hs] at h
    simp only [Prod.mk.injEq] at h
    omega

theorem valueW_any (b : Nat) (r : Rs) (w : World) (hr : RdW w b r) (hl : r.l.length ≤ 1000000) :
    Calls Tryd.prog 43 #[ptr b] w fun e w' => e = .returned (.tuple #[valOf r.value.1.1, .int .i64 r.value.1.2]) ∧ But b w w' ∧ RdW w' b r.value.2 := by
  obtain ⟨l, c⟩ := r
  have hr' : Two w b 83 (str l) (.int .i64 c) := hr
  have hlt := hr'.lt
  obtain ⟨k1, k2, k3⟩ := capv_facts hr'
  refine value24 b _ _ _ w hlt ?_
  by_cases hc : c = 0
  · subst hc
    cases hn : (Rs.mk l 0).num 1099511627776 with
    | mk p r1 =>
      obtain ⟨k, c⟩ := p
      by_cases hc : c = 0
      · subst hc
        obtain ⟨e1, e2, e3, hs⟩ := Rs.num_ok hn
        obtain ⟨l', e'⟩ := r1
        simp only at e1
        subst e1
        simp only at hs e3
        simp only [Rs.value, hn, ne_eq, not_true_eq_false, if_false]
        by_cases h3 : 3 < k
        · rw [if_pos h3]
          exact readValue_err b 4 _ 0 0 ⟨#[]⟩ _ _ (by decide) k3 (val44_big _ b l l' k _ hl k2 k1 hs h3)
        rw [if_neg h3]
        by_cases h1 : k = 1
        · subst h1
          rw [if_pos rfl]
          cases hi : (Rs.mk l' 0).int with
          | mk p r2 =>
            obtain ⟨x, c⟩ := p
            have hcl := val44_int _ b l l' x c r2 _ hl k2 k1 hs hi
            by_cases hc : c = 0
            · subst hc
              obtain ⟨i1, _, _⟩ := Rs.int_ok hi
              obtain ⟨l2, e2⟩ := r2
              simp only at i1
              subst i1
              simp only [not_true_eq_false, if_false]
              exact readValue_ok b _ 1 x ⟨#[]⟩ l2 _ _ k3 hcl
            · simp only [hc, not_false_eq_true, if_true]
              exact readValue_err b c _ 1 x ⟨#[]⟩ _ _ hc k3 (hcl.mono fun e w' h => ⟨h.1, h.2.1, _, _, h.2.2⟩)
        rw [if_neg h1]
        by_cases h2 : k = 2
        · subst h2
          rw [if_pos rfl]
          cases hi : (Rs.mk l' 0).num 1099511627776 with
          | mk p r2 =>
            obtain ⟨x, c⟩ := p
            by_cases hc : c = 0
            · subst hc
              obtain ⟨i1, hx, _⟩ := Rs.num_ok hi
              obtain ⟨l2, e2⟩ := r2
              simp only at i1
              subst i1
              simp only [not_true_eq_false, if_false]
              by_cases hx1 : 1 < x
              · rw [if_pos hx1]
                exact readValue_err b 4 _ 2 x ⟨#[]⟩ _ _ (by decide) k3 (val44_bool_big _ b l l' x _ _ hl k2 k1 hs hi hx1 hx)
              · rw [if_neg hx1]
                exact readValue_ok b _ 2 x ⟨#[]⟩ l2 _ _ k3 (val44_bool _ b l l' x _ _ hl k2 k1 hs hi (by omega))
            · simp only [hc, not_false_eq_true, if_true]
              exact readValue_err b c _ 2 x ⟨#[]⟩ _ _ hc k3 (val44_bool_err _ b l l' x c r2 _ hl k2 k1 hs hi hc)
        rw [if_neg h2]
        by_cases h3' : k = 3
        · subst h3'
          rw [if_pos rfl]
          cases hi : (Rs.mk l' 0).text 40 with
          | mk p r2 =>
            obtain ⟨x, c⟩ := p
            have hcl := val44_text _ b l l' x c r2 _ hl k2 k1 hs hi
            by_cases hc : c = 0
            · subst hc
              obtain ⟨i1, _, _⟩ := Rs.text_ok hi
              obtain ⟨l2, e2⟩ := r2
              simp only at i1
              subst i1
              simp only [not_true_eq_false, if_false]
              exact readValue_ok b _ 3 0 ⟨x.toArray⟩ l2 _ _ k3 hcl
            · simp only [hc, not_false_eq_true, if_true]
              exact readValue_err b c _ 3 0 ⟨x.toArray⟩ _ _ hc k3 (hcl.mono fun e w' h => ⟨h.1, h.2.1, _, _, h.2.2⟩)
        rw [if_neg h3']
        obtain rfl : k = 0 := by omega
        exact readValue_ok b _ 0 0 ⟨#[]⟩ l' _ _ k3 (val44_none _ b l l' _ hl k2 k1 hs)
      · obtain ⟨e1, e2⟩ := Rs.num_e hn hc
        subst e1
        subst e2
        have hs : scan 1099511627776 0 0 l = .error c := by
          unfold Rs.num at hn
          simp only [ne_eq, not_true_eq_false, if_false] at hn
          cases hs : scan 1099511627776 0 0 l with
          | error c' => rw [hs] at hn; simp only [Prod.mk.injEq] at hn; rw [hn.1.2]
          | ok p => rw [hs] at hn; simp only [Prod.mk.injEq] at hn; omega
        simp only [Rs.value, hn, ne_eq, hc, not_false_eq_true, if_true]
        exact readValue_err b c _ 0 0 ⟨#[]⟩ _ _ hc k3 (val44_err _ b l c _ hl k2 k1 hs)
  · have hn : (Rs.mk l c).num 1099511627776 = ((0, c), ⟨l, c⟩) := by simp [Rs.num, hc]
    simp only [Rs.value, hn, ne_eq, hc, not_false_eq_true, if_true]
    exact readValue_bad b c _ _ _ hc k3

end Go.Proofs.YtblebjgjomamdaaDoor.Wr

/- Layer 2's bytes without their last ones are not read: bytes are missing; what was written is read. Conditions: none. -/
namespace Go.Wi

theorem scan_short (most : Nat) : ∀ (n i m k : Nat), k < (enc n).length → m + n * 128 ^ i ≤ most → n * 128 ^ i < 18446744073709551616 → (n = 0 → i = 0) → scan most i m ((enc n).take k) = .error 8 := by
  intro n
  induction n using Nat.strongRecOn with
  | ind n ih =>
    intro i m k hk h1 h2 h3
    cases k with
    | zero => rw [List.take_zero, scan]
    | succ k =>
      have hi : i ≤ 9 := by
        rcases Nat.eq_zero_or_pos n with h0 | h0
        · have := h3 h0; omega
        · rcases Nat.lt_or_ge 9 i with hi | hi
          · exfalso
            have : 128 ^ 10 ≤ 128 ^ i := Nat.pow_le_pow_right (by decide) hi
            have h4 : 1 * 128 ^ i ≤ n * 128 ^ i := Nat.mul_le_mul_right _ h0
            have h5 : (18446744073709551616 : Nat) ≤ 128 ^ 10 := by decide
            omega
          · exact hi
      by_cases hn : n < 128
      · rw [enc_small hn] at hk; simp at hk
      · rw [enc_more (by omega)] at hk ⊢
        simp only [List.take_succ_cons, scan]
        have e1 : (UInt8.ofNat (n % 128 + 128)).toNat = n % 128 + 128 := by simp; omega
        have e2 : (n % 128 + 128) % 128 = n % 128 := by omega
        have e3 : n * 128 ^ i = n / 128 * 128 ^ (i + 1) + n % 128 * 128 ^ i := by
          rw [Nat.pow_succ, Nat.mul_comm (128 ^ i) 128, ← Nat.mul_assoc, ← Nat.add_mul]
          congr 1
          omega
        simp only [List.length_cons] at hk
        rw [e1, e2, if_neg (by omega), if_pos (by omega), ih (n / 128) (by omega) (i + 1) _ k (by omega) (by omega) (by omega) (by omega)]
theorem scan_short0 {most n k : Nat} (hk : k < (enc n).length) (h1 : n ≤ most) (h2 : n < 18446744073709551616) : scan most 0 0 ((enc n).take k) = .error 8 :=
  scan_short most n 0 0 k hk (by simpa using h1) (by simpa using h2) (fun _ => rfl)

theorem num_enc {most n : Nat} (h1 : n ≤ most) (h2 : n < 18446744073709551616) (r : List UInt8) : (Rs.mk (enc n ++ r) 0).num most = ((n, 0), ⟨r, 0⟩) := by
  simp [Rs.num, scan_enc0 h1 h2 r]
theorem num_short {most n k : Nat} (hk : k < (enc n).length) (h1 : n ≤ most) (h2 : n < 18446744073709551616) : (Rs.mk ((enc n).take k) 0).num most = ((0, 8), ⟨[], 8⟩) := by
  simp [Rs.num, scan_short0 hk h1 h2]
theorem int_enc {x : Int} (h1 : -9223372036854775808 ≤ x) (h2 : x ≤ 9223372036854775807) (r : List UInt8) : (Rs.mk (enc (zig x) ++ r) 0).int = ((x, 0), ⟨r, 0⟩) := by
  have := zig_lt x h1 h2
  simp [Rs.int, num_enc (most := 18446744073709551615) (n := zig x) (by omega) (by omega) r, zag_zig]
theorem int_short {x : Int} {k : Nat} (h1 : -9223372036854775808 ≤ x) (h2 : x ≤ 9223372036854775807) (hk : k < (enc (zig x)).length) : (Rs.mk ((enc (zig x)).take k) 0).int = ((0, 8), ⟨[], 8⟩) := by
  have := zig_lt x h1 h2
  simp [Rs.int, num_short (most := 18446744073709551615) hk (by omega) (by omega)]
theorem text_enc {m : Int} {t : List UInt8} (h1 : (t.length : Int) ≤ m) (h2 : t.length ≤ 1000000) (r : List UInt8) : (Rs.mk (enc t.length ++ (t ++ r)) 0).text m = ((t, 0), ⟨r, 0⟩) := by
  have hm : ¬ m < (t.length : Int) := by omega
  simp [Rs.text, num_enc (most := 1099511627776) (n := t.length) (by omega) (by omega), hm]
theorem text_short {m : Int} {t : List UInt8} {k : Nat} (h1 : (t.length : Int) ≤ m) (h2 : t.length ≤ 1000000) (hk : k < (enc t.length).length + t.length) : (Rs.mk ((enc t.length ++ t).take k) 0).text m = (([], 8), ⟨[], 8⟩) := by
  rw [List.take_append]
  by_cases h : k < (enc t.length).length
  · have : k - (enc t.length).length = 0 := by omega
    rw [this, List.take_zero, List.append_nil]
    simp [Rs.text, num_short (most := 1099511627776) h (by omega) (by omega)]
  · rw [List.take_of_length_le (by omega)]
    have hm : ¬ m < (t.length : Int) := by omega
    have hl : (t.take (k - (enc t.length).length)).length < t.length := by rw [List.length_take]; omega
    simp only [Rs.text, num_enc (most := 1099511627776) (n := t.length) (by omega) (by omega), hm, hl, if_false, if_true, ne_eq, not_true_eq_false]
theorem value_enc {k : Nat} {n : Int} {t : ByteArray} (h1 : -9223372036854775808 ≤ n) (h2 : n ≤ 9223372036854775807) (hm : may k n t = true) (r : List UInt8) : (Rs.mk (encV k n t ++ r) 0).value = ((⟨k, n, t.data.toList⟩, 0), ⟨r, 0⟩) := by
  unfold encV
  rw [List.append_assoc]
  have z : ∀ u : ByteArray, u.size = 0 → u.data.toList = [] := fun u hu => by rw [Array.eq_empty_of_size_eq_zero hu]
  rcases may_cases' hm with ⟨rfl, rfl, ht⟩ | ⟨rfl, ht⟩ | ⟨rfl, hn, ht⟩ | ⟨rfl, rfl, ht⟩
  · simp [Rs.value, num_enc, Vl.zero, z t ht]
  · simp [Rs.value, num_enc, int_enc h1 h2, z t ht]
  · have e : ((n.toNat : Nat) : Int) = n := by omega
    have h3 : ¬ 1 < n.toNat := by omega
    simp [Rs.value, num_enc, num_enc (n := n.toNat) (most := 1099511627776) (by omega) (by omega), z t ht, e, h3]
  · have e : t.size = t.data.toList.length := by simp
    have := text_enc (m := 40) (t := t.data.toList) (by rw [← e]; omega) (by rw [← e]; omega) r
    rw [← e] at this
    simp [Rs.value, num_enc, this]
theorem value_short {k : Nat} {n : Int} {t : ByteArray} {j : Nat} (h1 : -9223372036854775808 ≤ n) (h2 : n ≤ 9223372036854775807) (hm : may k n t = true) (hj : j < (encV k n t).length) : (Rs.mk ((encV k n t).take j) 0).value = ((Vl.zero, 8), ⟨[], 8⟩) := by
  unfold encV at hj ⊢
  have hk : k ≤ 3 := by rcases may_cases' hm with h | h | h | h <;> omega
  rw [List.length_append] at hj
  rw [List.take_append]
  have hk1 : (enc k).length = 1 := by rw [enc_small (by omega)]; rfl
  rw [hk1] at hj ⊢
  cases j with
  | zero =>
    rw [List.take_zero]
    simp [Rs.value, Rs.num, scan]
  | succ j =>
    rw [List.take_of_length_le (by omega), Nat.add_sub_cancel]
    rcases may_cases' hm with ⟨rfl, rfl, ht⟩ | ⟨rfl, ht⟩ | ⟨rfl, hn, ht⟩ | ⟨rfl, rfl, ht⟩
    · simp at hj
    · simp at hj ⊢
      simp [Rs.value, num_enc, int_short h1 h2 (k := j) (by omega)]
    · simp at hj ⊢
      simp [Rs.value, num_enc, num_short (n := n.toNat) (k := j) (most := 1099511627776) (by omega) (by omega) (by omega)]
    · have e : t.size = t.data.toList.length := by simp
      simp at hj ⊢
      have := text_short (m := 40) (t := t.data.toList) (k := j) (by rw [← e]; omega) (by rw [← e]; omega) (by rw [← e]; omega)
      rw [← e] at this
      simp [Rs.value, num_enc, this]
end Go.Wi

/- Layer 2's bytes: what is read, written anew, are the bytes that were gone over. Conditions: none. -/
namespace Go.Wi

theorem byte_small {b : UInt8} : UInt8.ofNat b.toNat = b := by simp
theorem scan_inv (most : Nat) : ∀ (l : List UInt8) (i n m : Nat) (l' : List UInt8), scan most i n l = .ok (m, l') → ∃ k, m = n + k * 128 ^ i ∧ l = enc k ++ l' ∧ (k = 0 → i = 0)
  | [], i, n, m, l', h => by simp [scan] at h
  | b :: l, i, n, m, l', h => by
    rw [scan] at h
    have hb : b.toNat < 256 := b.toNat_lt
    split at h
    · cases h
    · split at h
      · rename_i h128
        obtain ⟨k, h1, h2, h3⟩ := scan_inv most l _ _ _ _ h
        have hk : k ≠ 0 := fun h => by have := h3 h; omega
        refine ⟨b.toNat % 128 + 128 * k, ?_, ?_, by omega⟩
        · rw [h1, Nat.add_mul, Nat.pow_succ, Nat.mul_comm 128 k, Nat.mul_assoc, Nat.mul_comm 128 (128 ^ i)]
          omega
        · rw [enc_more (by omega)]
          have e1 : (b.toNat % 128 + 128 * k) % 128 + 128 = b.toNat := by omega
          have e2 : (b.toNat % 128 + 128 * k) / 128 = k := by omega
          rw [e1, e2, byte_small, List.cons_append, h2]
      · split at h
        · cases h
        · simp only [Except.ok.injEq, Prod.mk.injEq] at h
          obtain ⟨rfl, rfl⟩ := h
          refine ⟨b.toNat % 128, rfl, ?_, by omega⟩
          have e1 : b.toNat % 128 = b.toNat := by omega
          rw [enc_small (by omega), e1, byte_small]
          rfl
theorem scan_inv0 {most m : Nat} {l l' : List UInt8} (h : scan most 0 0 l = .ok (m, l')) : l = enc m ++ l' := by
  obtain ⟨k, h1, h2, _⟩ := scan_inv most l 0 0 m l' h
  simp at h1
  rw [h1]
  exact h2

theorem num_inv {most n : Nat} {l : List UInt8} {r2 : Rs} (h : (Rs.mk l 0).num most = ((n, 0), r2)) : l = enc n ++ r2.l := scan_inv0 (Rs.num_ok h).2.2.2
theorem int_inv {x : Int} {l : List UInt8} {r2 : Rs} (h : (Rs.mk l 0).int = ((x, 0), r2)) : l = enc (zig x) ++ r2.l ∧ -9223372036854775808 ≤ x ∧ x ≤ 9223372036854775807 := by
  obtain ⟨_, _, n, h1, rfl⟩ := Rs.int_ok h
  have h2 := (Go.Proofs.YtblebjgjomamdaaDoor.Wr.scan_le _ _ _ _ _ _ h1).1
  refine ⟨by rw [zig_zag]; exact scan_inv0 h1, ?_⟩
  unfold zag
  split <;> omega
theorem text_inv {m : Int} {t l : List UInt8} {r2 : Rs} (h : (Rs.mk l 0).text m = ((t, 0), r2)) : l = enc t.length ++ (t ++ r2.l) ∧ t.length ≤ l.length ∧ (t.length : Int) ≤ m := by
  obtain ⟨_, _, h3, l', h1, rfl⟩ := Rs.text_ok h
  have := scan_inv0 h1
  refine ⟨this, ?_, h3⟩
  have := congrArg List.length this
  simp at this
  omega

theorem num_len (most : Nat) (r : Rs) : (r.num most).2.l.length ≤ r.l.length := by
  obtain ⟨l, c⟩ := r
  unfold Rs.num
  split
  · exact Nat.le_refl _
  · cases hs : scan most 0 0 l with
    | error c => simp
    | ok p =>
      obtain ⟨m, l'⟩ := p
      have := (Go.Proofs.YtblebjgjomamdaaDoor.Wr.scan_le _ _ _ _ _ _ hs).2
      simp
      omega
theorem int_len (r : Rs) : r.int.2.l.length ≤ r.l.length := by
  have := num_len 18446744073709551615 r
  unfold Rs.int
  cases hn : r.num 18446744073709551615 with
  | mk p r' =>
    obtain ⟨n, e⟩ := p
    rw [hn] at this
    simp only
    split <;> exact this
theorem text_len (m : Int) (r : Rs) : (r.text m).2.l.length ≤ r.l.length := by
  have := num_len 1099511627776 r
  unfold Rs.text
  cases hn : r.num 1099511627776 with
  | mk p r' =>
    obtain ⟨n, e⟩ := p
    rw [hn] at this
    simp only at this ⊢
    split
    · exact this
    split
    · simp
    split
    · simp
    · simp; omega
theorem value_len (r : Rs) : r.value.2.l.length ≤ r.l.length := by
  have h0 := num_len 1099511627776 r
  unfold Rs.value
  cases hn : r.num 1099511627776 with
  | mk p r' =>
    obtain ⟨n, e⟩ := p
    rw [hn] at h0
    simp only at h0 ⊢
    split
    · exact h0
    split
    · simp
    split
    · have h1 := int_len r'
      cases hi : r'.int with
      | mk p r2 =>
        rw [hi] at h1
        simp only at h1 ⊢
        split
        · simp
        · simp; omega
    split
    · have h1 := num_len 1099511627776 r'
      cases hi : r'.num 1099511627776 with
      | mk p r2 =>
        rw [hi] at h1
        simp only at h1 ⊢
        split
        · simp
        split
        · simp
        · simp; omega
    split
    · have h1 := text_len 40 r'
      cases hi : r'.text 40 with
      | mk p r2 =>
        rw [hi] at h1
        simp only at h1 ⊢
        split
        · simp
        · simp; omega
    · exact h0

theorem value_bad {v : Vl} {c : Nat} {l : List UInt8} {r2 : Rs} (h : (Rs.mk l 0).value = ((v, c), r2)) (hc : c ≠ 0) : v = Vl.zero ∧ r2 = ⟨[], c⟩ := by
  unfold Rs.value at h
  cases hn : (Rs.mk l 0).num 1099511627776 with
  | mk p r' =>
    obtain ⟨n, e⟩ := p
    rw [hn] at h
    simp only at h
    split at h
    · rename_i he
      obtain ⟨rfl, _⟩ := Go.Proofs.YtblebjgjomamdaaDoor.Wr.Rs.num_e hn he
      simp only [Prod.mk.injEq] at h
      obtain ⟨⟨rfl, rfl⟩, rfl⟩ := h
      exact ⟨rfl, rfl⟩
    split at h
    · simp only [Prod.mk.injEq] at h
      obtain ⟨⟨rfl, rfl⟩, rfl⟩ := h
      exact ⟨rfl, rfl⟩
    split at h
    · split at h
      · simp only [Prod.mk.injEq] at h
        obtain ⟨⟨rfl, rfl⟩, rfl⟩ := h
        exact ⟨rfl, rfl⟩
      · simp only [Prod.mk.injEq] at h
        omega
    split at h
    · split at h
      · simp only [Prod.mk.injEq] at h
        obtain ⟨⟨rfl, rfl⟩, rfl⟩ := h
        exact ⟨rfl, rfl⟩
      split at h
      · simp only [Prod.mk.injEq] at h
        obtain ⟨⟨rfl, rfl⟩, rfl⟩ := h
        exact ⟨rfl, rfl⟩
      · simp only [Prod.mk.injEq] at h
        omega
    split at h
    · split at h
      · simp only [Prod.mk.injEq] at h
        obtain ⟨⟨rfl, rfl⟩, rfl⟩ := h
        exact ⟨rfl, rfl⟩
      · simp only [Prod.mk.injEq] at h
        omega
    · simp only [Prod.mk.injEq] at h
      omega

theorem value_inv {v : Vl} {l : List UInt8} {r2 : Rs} (h : (Rs.mk l 0).value = ((v, 0), r2)) :
    l = encV v.k v.n ⟨v.t.toArray⟩ ++ r2.l ∧ may v.k v.n ⟨v.t.toArray⟩ = true ∧ -9223372036854775808 ≤ v.n ∧ v.n ≤ 9223372036854775807 := by
  unfold Rs.value at h
  cases hn : (Rs.mk l 0).num 1099511627776 with
  | mk p r' =>
    obtain ⟨n, e⟩ := p
    rw [hn] at h
    simp only at h
    split at h
    · simp only [Prod.mk.injEq] at h
      omega
    rename_i he
    obtain rfl : e = 0 := by omega
    have e0 := num_inv hn
    have e1 := (Rs.num_ok hn).1
    obtain ⟨l', e'⟩ := r'
    simp only at e1 e0
    subst e1
    split at h
    · simp only [Prod.mk.injEq] at h
      omega
    split at h
    · rename_i hk
      subst hk
      obtain ⟨⟨⟨x, c⟩, r3⟩, hi⟩ : ∃ q, (Rs.mk l' 0).int = q := ⟨_, rfl⟩
      rw [hi] at h
      simp only at h
      split at h
      · simp only [Prod.mk.injEq] at h
        omega
      · rename_i hc
        obtain rfl : c = 0 := by omega
        simp only [Prod.mk.injEq] at h
        obtain ⟨⟨rfl, _⟩, rfl⟩ := h
        obtain ⟨i1, i2, i3⟩ := int_inv hi
        refine ⟨?_, by simp [may, Go.Proofs.YtblebjgjomamdaaDoor.Wr.size_mk], i2, i3⟩
        simp only [encV]
        rw [e0, i1]
        simp
    split at h
    · rename_i hk
      subst hk
      obtain ⟨⟨⟨x, c⟩, r3⟩, hi⟩ : ∃ q, (Rs.mk l' 0).num 1099511627776 = q := ⟨_, rfl⟩
      rw [hi] at h
      simp only at h
      split at h
      · simp only [Prod.mk.injEq] at h
        omega
      split at h
      · simp only [Prod.mk.injEq] at h
        omega
      · rename_i hc hx
        obtain rfl : c = 0 := by omega
        simp only [Prod.mk.injEq] at h
        obtain ⟨⟨rfl, _⟩, rfl⟩ := h
        have i1 := num_inv hi
        refine ⟨?_, by simp [may, Go.Proofs.YtblebjgjomamdaaDoor.Wr.size_mk]; omega, by simp only; omega, by simp only; omega⟩
        simp only [encV]
        rw [e0, i1]
        simp
    split at h
    · rename_i hk
      subst hk
      obtain ⟨⟨⟨x, c⟩, r3⟩, hi⟩ : ∃ q, (Rs.mk l' 0).text 40 = q := ⟨_, rfl⟩
      rw [hi] at h
      simp only at h
      split at h
      · simp only [Prod.mk.injEq] at h
        omega
      · rename_i hc
        obtain rfl : c = 0 := by omega
        simp only [Prod.mk.injEq] at h
        obtain ⟨⟨rfl, _⟩, rfl⟩ := h
        obtain ⟨i1, i2, i3⟩ := text_inv hi
        refine ⟨?_, by simp [may, Go.Proofs.YtblebjgjomamdaaDoor.Wr.size_mk]; omega, by simp, by simp⟩
        simp only [encV, Go.Proofs.YtblebjgjomamdaaDoor.Wr.size_mk]
        rw [e0, i1]
        simp
    · simp only [Prod.mk.injEq] at h
      obtain ⟨⟨rfl, _⟩, rfl⟩ := h
      obtain rfl : n = 0 := by omega
      refine ⟨?_, by simp [may, Vl.zero, Go.Proofs.YtblebjgjomamdaaDoor.Wr.size_mk], by simp [Vl.zero], by simp [Vl.zero]⟩
      rw [e0]
      simp [encV, Vl.zero]
end Go.Wi

