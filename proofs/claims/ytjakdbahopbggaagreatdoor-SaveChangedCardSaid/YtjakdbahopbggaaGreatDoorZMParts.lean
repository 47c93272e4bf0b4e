/- What the closures of model.Node return, and what part does to a node's part. Conditions: the tables as laid; lengths are lengths. -/
import Derived.Test.YtjakdbahopbggaaGreatDoorZK15
namespace Go.Proofs.YtjakdbahopbggaaGreatDoor
open Go.RowKit Go.Ow

def pKeyH (h : Bool) (s : ByteArray) : Bool := isName s || (h && decide (s.size = 0))
def pText (s : ByteArray) : Bool := decide (s.size ≠ 0)
def pOn (k : Int) (kind : Nat) : Bool := decide ((0 ≤ k ∧ kind = 15) ∨ (k = -1 ∧ kind ≠ 15))
def pBr (b : Bool) (kind ev : Nat) : Bool := b || (decide (kind ≠ 15) || decide (ev ≠ 4))

theorem node1_any {A : Nat → Nat × Nat} (s : ByteArray) (B : Nat) (h : Bool) (w : World) (hG : Gl A w) (hs : s.size ≤ 9223372036854775807) (hB : B < w.heap.size) (hc : w.cell? ⟨B, 0, none⟩ = some (.bool h)) :
    Calls Tryz.prog 113 #[.string s, pt B] w fun e w' => e = .returned (.bool (pKeyH h s)) ∧ Below w.heap.size w w' := by
  have NM := name_any s w hG hs
  clear hG
  unfold pKeyH
  cases hn : isName s
  · rw [hn] at NM
    have NM := Lib.hid NM
    clear hn
    cases h
    · go_enter Tryz.func113, Tryz.ntmps113
      go_wp2_with (go_at_call 90; refine NM.out.mono ?_; rintro e w1 ⟨rfl, hb⟩; have hc1 : w1.cell? ⟨B, 0, none⟩ = some (.bool false) := (by rw [hb.cell (p := ⟨B, 0, none⟩) hB]; exact hc))
      go_ret
      exact ⟨rfl, hb⟩
    · by_cases h0 : s.size = 0
      · obtain rfl := bytes_nil h0
        go_enter Tryz.func113, Tryz.ntmps113
        go_wp2_with (go_at_call 90; refine NM.out.mono ?_; rintro e w1 ⟨rfl, hb⟩; have hc1 : w1.cell? ⟨B, 0, none⟩ = some (.bool true) := (by rw [hb.cell (p := ⟨B, 0, none⟩) hB]; exact hc))
        go_ret
        exact ⟨rfl, hb⟩
      · have e1 := bytes_ne h0
        have e2 := bytes_emp h0
        rw [decide_eq_false h0]
        clear h0
        go_enter Tryz.func113, Tryz.ntmps113
        go_wp2_with (go_at_call 90; refine NM.out.mono ?_; rintro e w1 ⟨rfl, hb⟩; have hc1 : w1.cell? ⟨B, 0, none⟩ = some (.bool true) := (by rw [hb.cell (p := ⟨B, 0, none⟩) hB]; exact hc))
        go_ret
        exact ⟨rfl, hb⟩
  · rw [hn] at NM
    have NM := Lib.hid NM
    clear hn
    go_enter Tryz.func113, Tryz.ntmps113
    go_wp2_with (go_at_call 90; refine NM.out.mono ?_; rintro e w1 ⟨rfl, hb⟩)
    go_ret
    exact ⟨rfl, hb⟩
theorem node2_any (s : ByteArray) (w : World) : Calls Tryz.prog 114 #[.string s] w fun e w' => e = .returned (.bool (pText s)) ∧ Below w.heap.size w w' := by
  unfold pText
  by_cases h0 : s.size = 0
  · obtain rfl := bytes_nil h0
    go_enter Tryz.func114, Tryz.ntmps114
    go_wp2
    go_ret
    exact ⟨rfl, Below.refl _ _⟩
  · have e1 := bytes_ne h0
    have e2 := bytes_emp h0
    rw [decide_eq_true (by exact h0)]
    clear h0
    go_enter Tryz.func114, Tryz.ntmps114
    go_wp2
    go_ret
    exact ⟨ret_bool (by simp), Below.refl _ _⟩
theorem node3_any (k : Int) (N kind : Nat) (w : World) (hc : w.cell? ⟨N, 1, none⟩ = some (.int .u8 kind)) :
    Calls Tryz.prog 116 #[.int .i64 k, pt N] w fun e w' => e = .returned (.bool (pOn k kind)) ∧ Below w.heap.size w w' := by
  unfold pOn
  by_cases h15 : kind = 15
  · subst h15
    by_cases hk : 0 ≤ k
    · rw [decide_eq_true (by omega)]
      go_enter Tryz.func116, Tryz.ntmps116
      go_wp2
      go_ret
      exact ⟨rfl, Below.refl _ _⟩
    · rw [decide_eq_false (by omega)]
      by_cases h1 : k = -1
      · subst h1
        go_enter Tryz.func116, Tryz.ntmps116
        go_wp2
        go_ret
        exact ⟨rfl, Below.refl _ _⟩
      · have e1 : (k == -1) = false := by simpa using h1
        have hk' : k < 0 := by omega
        clear hk
        go_enter Tryz.func116, Tryz.ntmps116
        go_wp2
        go_ret
        exact ⟨rfl, Below.refl _ _⟩
  · have n1 : ((kind : Int) == 15) = false := by simp; omega
    have n2 : ((kind : Int) != 15) = true := by simp; omega
    by_cases hk : 0 ≤ k
    · rw [decide_eq_false (by omega)]
      have e1 : (k == -1) = false := by simp; omega
      go_enter Tryz.func116, Tryz.ntmps116
      go_wp2
      go_ret
      exact ⟨rfl, Below.refl _ _⟩
    · have hk' : k < 0 := by omega
      by_cases h1 : k = -1
      · subst h1
        rw [decide_eq_true (by omega)]
        go_enter Tryz.func116, Tryz.ntmps116
        go_wp2
        go_ret
        exact ⟨rfl, Below.refl _ _⟩
      · rw [decide_eq_false (by omega)]
        have e1 : (k == -1) = false := by simpa using h1
        go_enter Tryz.func116, Tryz.ntmps116
        go_wp2
        go_ret
        exact ⟨rfl, Below.refl _ _⟩
theorem node4_any (b : Bool) (N kind ev : Nat) (w : World) (hc : w.cell? ⟨N, 1, none⟩ = some (.int .u8 kind)) (hd : w.cell? ⟨N, 4, none⟩ = some (.int .u8 ev)) :
    Calls Tryz.prog 118 #[.bool b, pt N] w fun e w' => e = .returned (.bool (pBr b kind ev)) ∧ Below w.heap.size w w' := by
  unfold pBr
  cases b
  · by_cases h15 : kind = 15
    · subst h15
      by_cases h4 : ev = 4
      · subst h4
        go_enter Tryz.func118, Tryz.ntmps118
        go_wp2
        go_ret
        exact ⟨rfl, Below.refl _ _⟩
      · have n1 : ((ev : Int) != 4) = true := by simp; omega
        have hv : (false || (decide (15 ≠ 15) || decide (ev ≠ 4))) = true := by simp [h4]
        rw [hv]
        clear hv
        go_enter Tryz.func118, Tryz.ntmps118
        go_wp2
        go_ret
        exact ⟨rfl, Below.refl _ _⟩
    · have n1 : ((kind : Int) != 15) = true := by simp; omega
      rw [decide_eq_true (by exact h15)]
      go_enter Tryz.func118, Tryz.ntmps118
      go_wp2
      go_ret
      exact ⟨rfl, Below.refl _ _⟩
  · go_enter Tryz.func118, Tryz.ntmps118
    go_wp2
    go_ret
    exact ⟨rfl, Below.refl _ _⟩
theorem node5_any {A : Nat → Nat × Nat} (o : Option Addr) (m cap : Nat) (f : Nat → Va) (w : World) (hG : Gl A w) (h : Vr w o m f) (hf : ∀ k, (f k).fit) (hm : m ≤ 9223372036854775807) (hcap : m ≤ cap) :
    Calls Tryz.prog 121 #[.slice o m cap] w fun e w' => e = .returned (.bool (decide (varsE m f = 0))) ∧ Below w.heap.size w w' := by
  have V := vars_any o m cap f w hG h hf hm hcap
  clear hG h hf
  have hv : varsE m f = 0 ∨ varsE m f = 4 ∨ varsE m f = 40 := by unfold varsE; split; exact .inr (.inr rfl); split; exact .inl rfl; exact .inr (.inl rfl)
  rcases hv with hv | hv | hv
  all_goals
    rw [hv] at V ⊢
    have V := Lib.hid V
    clear hv
    go_enter Tryz.func121, Tryz.ntmps121
    go_wp2_with (go_at_call 91; refine V.out.mono ?_; rintro e w1 ⟨rfl, hb⟩)
    go_ret
    exact ⟨rfl, hb⟩
theorem node6_any {A : Nat → Nat × Nat} (o : Option Addr) (m cap : Nat) (f : Nat → ByteArray) (w : World) (hG : Gl A w) (h : Ss w o m f) (hf : ∀ k, (f k).size ≤ 9223372036854775807) (hm : m ≤ 9223372036854775807) (hcap : m ≤ cap) :
    Calls Tryz.prog 123 #[.slice o m cap] w fun e w' => e = .returned (.bool (unlikeS f 0 m)) ∧ Below w.heap.size w w' := by
  have V := Lib.hid (unlike_str o m cap f w hG h hf hm hcap)
  clear hG h hf
  go_enter Tryz.func123, Tryz.ntmps123
  go_wp2_with (go_at_call 124; refine V.out.mono ?_; rintro e w1 ⟨rfl, hb⟩)
  go_ret
  exact ⟨rfl, hb⟩

/-- a part that was so (b), and is taken away -/
def PartP (w : World) (R i : Nat) (b : Bool) (z : Value) (e : Ending) (w' : World) : Prop := e = .returned (.bool b) ∧ ∃ w1, Below w.heap.size w w1 ∧ w' = w1.setCell ⟨R, i, none⟩ z
theorem part_name (R i : Nat) (s : ByteArray) (b : Bool) (caps : Array Value) (w : World) (hR : R < w.heap.size) (hc : w.cell? ⟨R, i, none⟩ = some (.string s)) (hf : w.frozen? ⟨R, i, none⟩ = false)
    (H : Calls Tryz.prog 90 (#[(.string s)] ++ caps) w fun e w' => e = .returned (.bool b) ∧ Below w.heap.size w w') (hcaps : caps = #[]) :
    Calls Tryz.prog 112 #[.pointer (some ⟨R, i, none⟩), .func (.func 90) #[] caps] w (PartP w R i b (.string ⟨#[]⟩)) := by
  subst hcaps
  have H := Lib.hid H
  go_enter Tryz.func112, Tryz.ntmps112
  go_wp2_with (go_at_call 90; refine H.out.mono ?_; rintro e w1 ⟨rfl, hb⟩; have hc1 : w1.cell? ⟨R, i, none⟩ = some (.string s) := (by rw [hb.cell (p := ⟨R, i, none⟩) hR]; exact hc); have hf1 : w1.frozen? ⟨R, i, none⟩ = false := (by rw [hb.frozen (p := ⟨R, i, none⟩) hR]; exact hf))
  go_ret
  exact ⟨rfl, w1, hb, rfl⟩
theorem part_keyh (R i : Nat) (s : ByteArray) (B : Nat) (b : Bool) (caps : Array Value) (w : World) (hR : R < w.heap.size) (hc : w.cell? ⟨R, i, none⟩ = some (.string s)) (hf : w.frozen? ⟨R, i, none⟩ = false)
    (H : Calls Tryz.prog 113 (#[(.string s)] ++ caps) w fun e w' => e = .returned (.bool b) ∧ Below w.heap.size w w') (hcaps : caps = #[pt B]) :
    Calls Tryz.prog 112 #[.pointer (some ⟨R, i, none⟩), .func (.func 113) #[] caps] w (PartP w R i b (.string ⟨#[]⟩)) := by
  subst hcaps
  have H := Lib.hid H
  go_enter Tryz.func112, Tryz.ntmps112
  go_wp2_with (go_at_call 113; refine H.out.mono ?_; rintro e w1 ⟨rfl, hb⟩; have hc1 : w1.cell? ⟨R, i, none⟩ = some (.string s) := (by rw [hb.cell (p := ⟨R, i, none⟩) hR]; exact hc); have hf1 : w1.frozen? ⟨R, i, none⟩ = false := (by rw [hb.frozen (p := ⟨R, i, none⟩) hR]; exact hf))
  go_ret
  exact ⟨rfl, w1, hb, rfl⟩
theorem part_text (R i : Nat) (s : ByteArray) (b : Bool) (caps : Array Value) (w : World) (hR : R < w.heap.size) (hc : w.cell? ⟨R, i, none⟩ = some (.string s)) (hf : w.frozen? ⟨R, i, none⟩ = false)
    (H : Calls Tryz.prog 114 (#[(.string s)] ++ caps) w fun e w' => e = .returned (.bool b) ∧ Below w.heap.size w w') (hcaps : caps = #[]) :
    Calls Tryz.prog 112 #[.pointer (some ⟨R, i, none⟩), .func (.func 114) #[] caps] w (PartP w R i b (.string ⟨#[]⟩)) := by
  subst hcaps
  have H := Lib.hid H
  go_enter Tryz.func112, Tryz.ntmps112
  go_wp2_with (go_at_call 114; refine H.out.mono ?_; rintro e w1 ⟨rfl, hb⟩; have hc1 : w1.cell? ⟨R, i, none⟩ = some (.string s) := (by rw [hb.cell (p := ⟨R, i, none⟩) hR]; exact hc); have hf1 : w1.frozen? ⟨R, i, none⟩ = false := (by rw [hb.frozen (p := ⟨R, i, none⟩) hR]; exact hf))
  go_ret
  exact ⟨rfl, w1, hb, rfl⟩
theorem part_on (R i : Nat) (s : Int) (B : Nat) (b : Bool) (caps : Array Value) (w : World) (hR : R < w.heap.size) (hc : w.cell? ⟨R, i, none⟩ = some (.int .i64 s)) (hf : w.frozen? ⟨R, i, none⟩ = false)
    (H : Calls Tryz.prog 116 (#[(.int .i64 s)] ++ caps) w fun e w' => e = .returned (.bool b) ∧ Below w.heap.size w w') (hcaps : caps = #[pt B]) :
    Calls Tryz.prog 115 #[.pointer (some ⟨R, i, none⟩), .func (.func 116) #[] caps] w (PartP w R i b (.int .i64 0)) := by
  subst hcaps
  have H := Lib.hid H
  go_enter Tryz.func115, Tryz.ntmps115
  go_wp2_with (go_at_call 116; refine H.out.mono ?_; rintro e w1 ⟨rfl, hb⟩; have hc1 : w1.cell? ⟨R, i, none⟩ = some (.int .i64 s) := (by rw [hb.cell (p := ⟨R, i, none⟩) hR]; exact hc); have hf1 : w1.frozen? ⟨R, i, none⟩ = false := (by rw [hb.frozen (p := ⟨R, i, none⟩) hR]; exact hf))
  go_ret
  exact ⟨rfl, w1, hb, rfl⟩
theorem part_br (R i : Nat) (s : Bool) (B : Nat) (b : Bool) (caps : Array Value) (w : World) (hR : R < w.heap.size) (hc : w.cell? ⟨R, i, none⟩ = some (.bool s)) (hf : w.frozen? ⟨R, i, none⟩ = false)
    (H : Calls Tryz.prog 118 (#[(.bool s)] ++ caps) w fun e w' => e = .returned (.bool b) ∧ Below w.heap.size w w') (hcaps : caps = #[pt B]) :
    Calls Tryz.prog 117 #[.pointer (some ⟨R, i, none⟩), .func (.func 118) #[] caps] w (PartP w R i b (.bool false)) := by
  subst hcaps
  have H := Lib.hid H
  go_enter Tryz.func117, Tryz.ntmps117
  go_wp2_with (go_at_call 118; refine H.out.mono ?_; rintro e w1 ⟨rfl, hb⟩; have hc1 : w1.cell? ⟨R, i, none⟩ = some (.bool s) := (by rw [hb.cell (p := ⟨R, i, none⟩) hR]; exact hc); have hf1 : w1.frozen? ⟨R, i, none⟩ = false := (by rw [hb.frozen (p := ⟨R, i, none⟩) hR]; exact hf))
  go_ret
  exact ⟨rfl, w1, hb, rfl⟩
theorem part_vars (R i : Nat) (o : Option Addr) (m cap : Nat) (b : Bool) (caps : Array Value) (w : World) (hR : R < w.heap.size) (hc : w.cell? ⟨R, i, none⟩ = some (.slice o m cap)) (hf : w.frozen? ⟨R, i, none⟩ = false)
    (H : Calls Tryz.prog 121 (#[(.slice o m cap)] ++ caps) w fun e w' => e = .returned (.bool b) ∧ Below w.heap.size w w') (hcaps : caps = #[]) :
    Calls Tryz.prog 120 #[.pointer (some ⟨R, i, none⟩), .func (.func 121) #[] caps] w (PartP w R i b (.slice none 0 0)) := by
  subst hcaps
  have H := Lib.hid H
  go_enter Tryz.func120, Tryz.ntmps120
  go_wp2_with (go_at_call 121; refine H.out.mono ?_; rintro e w1 ⟨rfl, hb⟩; have hc1 : w1.cell? ⟨R, i, none⟩ = some (.slice o m cap) := (by rw [hb.cell (p := ⟨R, i, none⟩) hR]; exact hc); have hf1 : w1.frozen? ⟨R, i, none⟩ = false := (by rw [hb.frozen (p := ⟨R, i, none⟩) hR]; exact hf))
  go_ret
  exact ⟨rfl, w1, hb, rfl⟩
theorem part_back (R i : Nat) (o : Option Addr) (m cap : Nat) (b : Bool) (caps : Array Value) (w : World) (hR : R < w.heap.size) (hc : w.cell? ⟨R, i, none⟩ = some (.slice o m cap)) (hf : w.frozen? ⟨R, i, none⟩ = false)
    (H : Calls Tryz.prog 123 (#[(.slice o m cap)] ++ caps) w fun e w' => e = .returned (.bool b) ∧ Below w.heap.size w w') (hcaps : caps = #[]) :
    Calls Tryz.prog 122 #[.pointer (some ⟨R, i, none⟩), .func (.func 123) #[] caps] w (PartP w R i b (.slice none 0 0)) := by
  subst hcaps
  have H := Lib.hid H
  go_enter Tryz.func122, Tryz.ntmps122
  go_wp2_with (go_at_call 123; refine H.out.mono ?_; rintro e w1 ⟨rfl, hb⟩; have hc1 : w1.cell? ⟨R, i, none⟩ = some (.slice o m cap) := (by rw [hb.cell (p := ⟨R, i, none⟩) hR]; exact hc); have hf1 : w1.frozen? ⟨R, i, none⟩ = false := (by rw [hb.frozen (p := ⟨R, i, none⟩) hR]; exact hf))
  go_ret
  exact ⟨rfl, w1, hb, rfl⟩
end Go.Proofs.YtjakdbahopbggaaGreatDoor
