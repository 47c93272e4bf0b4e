/- What callboardref14.key and Node return: one answer each, stage by stage. Conditions: lengths are lengths. -/
import Derived.Test.YtdnelpmolenkoaaDoorTRef4
import Derived.Test.YtdnelpmolenkoaaDoorMData
import Derived.Deep.DeepCutAuto
namespace Go.Proofs.YtdnelpmolenkoaaDoor
open Go.RowKit Go.Ow

def keyB (d : Nd) : Bool := cond (nC1 d) (isName d.key) (cond (nC2 d) (isName d.key || (nH d && decide (d.key.size = 0))) (decide (d.key.size = 0)))
theorem str_cases (s : ByteArray) : (s.size = 0 ∧ s.toList = [] ∧ s.toList.isEmpty = true) ∨ (s.size ≠ 0 ∧ ¬ s.toList = [] ∧ s.toList.isEmpty = false) := by
  by_cases h : s.size = 0
  · obtain rfl := bytes_nil h
    exact .inl ⟨rfl, by rw [ByteArray.toList_eq], by rw [ByteArray.toList_eq]; rfl⟩
  · exact .inr ⟨h, bytes_ne h, bytes_emp h⟩

set_option maxRecDepth 100000 in
set_option maxHeartbeats 8000000 in
theorem rkey_any (d : Nd) (o1 o2 : Option Addr) (m1 c1 m2 c2 : Nat) (w : World) (hk : d.key.size ≤ 9223372036854775807) :
    Calls Tryd.prog 59 #[.agg (nodeC d (.slice o1 m1 c1) (.slice o2 m2 c2))] w fun e w' => e = .returned (.bool (keyB d)) ∧ Below w.heap.size w w' := by
  obtain ⟨r, hr⟩ : ∃ r, keyB d = r := ⟨_, rfl⟩
  rw [hr]
  have HR := Lib.hid hr
  have NM := fun W => rname_any d.key W hk
  obtain ⟨rn, hrn⟩ : ∃ r, isName d.key = r := ⟨_, rfl⟩
  simp only [hrn] at NM
  have NM := Lib.hid NM
  have HN := Lib.hid hrn
  clear hr hrn
  have HB0 := Lib.hid ((Below.refl w.heap.size w).alloc (Nat.le_refl _) (.cells (nodeC d (.slice o1 m1 c1) (.slice o2 m2 c2)) 25))
  go_enter Tryd.func59, Tryd.ntmps59
  go_upto_region 1 with fail
  go_cut [3] (fun s W => s = .bool (decide (d.kind = 1) || decide (d.kind = 15)) ∧ w.alloc (.cells (nodeC d (.slice o1 m1 c1) (.slice o2 m2 c2)) 25) = W)
  case first => as_aux_lemma =>
    by_cases a0 : d.kind = 1
    · have q0 : ((d.kind : Int) == 1) = true := b8 a0
      go_wp2
      go_meet
      exact ⟨by simp [a0], rfl⟩
    · have q0 : ((d.kind : Int) == 1) = false := b8n a0
      by_cases a1 : d.kind = 15
      · have q1 : ((d.kind : Int) == 15) = true := b8 a1
        go_wp2
        go_meet
        exact ⟨by simp [a1], rfl⟩
      · have q1 : ((d.kind : Int) == 15) = false := b8n a1
        go_wp2
        go_meet
        exact ⟨by simp [a0, a1], rfl⟩
  case rest =>
    obtain ⟨rfl, rfl⟩ := hcut
    obtain ⟨hd, hh⟩ : ∃ b, (decide (d.kind = 1) || decide (d.kind = 15)) = b := ⟨_, rfl⟩
    rw [hh]
    have HH := Lib.hid hh
    clear hh
    by_cases a0 : d.kind = 14
    · have q0 : ((d.kind : Int) == 14) = true := b8 a0
      go_wp2_with (go_at_call 24; refine (NM.out _).mono ?_; rintro e W1 ⟨rfl, rfl⟩)
      go_ret
      exact ⟨ret_bool (by rw [← HR.out]; simp [keyB, nC1, a0, HN.out]), HB0.out⟩
    have q0 : ((d.kind : Int) == 14) = false := b8n a0
    by_cases a1 : d.event = 1
    · have q1 : ((d.event : Int) == 1) = true := b8 a1
      go_wp2_with (go_at_call 24; refine (NM.out _).mono ?_; rintro e W1 ⟨rfl, rfl⟩)
      go_ret
      exact ⟨ret_bool (by rw [← HR.out]; simp [keyB, nC1, a1, HN.out]), HB0.out⟩
    have q1 : ((d.event : Int) == 1) = false := b8n a1
    by_cases a2 : d.event = 6
    · have q2 : ((d.event : Int) == 6) = true := b8 a2
      go_wp2_with (go_at_call 24; refine (NM.out _).mono ?_; rintro e W1 ⟨rfl, rfl⟩)
      go_ret
      exact ⟨ret_bool (by rw [← HR.out]; simp [keyB, nC1, a2, HN.out]), HB0.out⟩
    have q2 : ((d.event : Int) == 6) = false := b8n a2
    have e1 : nC1 d = false := by simp [nC1, a0, a1, a2]
    have E1 := Lib.hid e1
    by_cases a3 : d.event = 4 ∨ d.event = 5
    · have e2 : nC2 d = true := by simp [nC2, a3]
      have E2 := Lib.hid e2
      have HH2 := Lib.hid (show nH d = hd from HH.out)
      clear e1 e2 a0 a1 a2
      have q3 : (((d.event : Int) == 4) = true) ∨ (((d.event : Int) == 4) = false ∧ ((d.event : Int) == 5) = true) := by simp; omega
      clear a3
      cases rn
      · cases hd
        · rcases q3 with q3 | ⟨q3, q4⟩
          all_goals
            go_wp2_with (go_at_call 24; refine (NM.out _).mono ?_; rintro e W1 ⟨rfl, rfl⟩)
            go_ret
            exact ⟨ret_bool (by rw [← HR.out]; simp only [keyB, E1.out, E2.out, HN.out, HH2.out]; rfl), HB0.out⟩
        · rcases str_cases d.key with ⟨t0, t1, t2⟩ | ⟨t0, t1, t2⟩
          · have T0 := Lib.hid t0
            clear t0
            rcases q3 with q3 | ⟨q3, q4⟩
            all_goals
              go_wp2_with (go_at_call 24; refine (NM.out _).mono ?_; rintro e W1 ⟨rfl, rfl⟩)
              go_ret
              exact ⟨ret_bool (by rw [← HR.out]; simp only [keyB, E1.out, E2.out, HN.out, HH2.out, decide_eq_true T0.out]; rfl), HB0.out⟩
          · have T0 := Lib.hid t0
            clear t0
            rcases q3 with q3 | ⟨q3, q4⟩
            all_goals
              go_wp2_with (go_at_call 24; refine (NM.out _).mono ?_; rintro e W1 ⟨rfl, rfl⟩)
              go_ret
              exact ⟨ret_bool (by rw [← HR.out]; simp only [keyB, E1.out, E2.out, HN.out, HH2.out, decide_eq_false T0.out]; rfl), HB0.out⟩
      · rcases q3 with q3 | ⟨q3, q4⟩
        all_goals
          go_wp2_with (go_at_call 24; refine (NM.out _).mono ?_; rintro e W1 ⟨rfl, rfl⟩)
          go_ret
          exact ⟨ret_bool (by rw [← HR.out]; simp only [keyB, E1.out, E2.out, HN.out]; rfl), HB0.out⟩
    · have q3 : ((d.event : Int) == 4) = false := b8n (show ¬ d.event = 4 by omega)
      have q4 : ((d.event : Int) == 5) = false := b8n (show ¬ d.event = 5 by omega)
      have E2 := Lib.hid (show nC2 d = false by simp [nC2]; omega)
      clear e1 a0 a1 a2 a3
      rcases str_cases d.key with ⟨t0, t1, t2⟩ | ⟨t0, t1, t2⟩
      · have T0 := Lib.hid t0
        clear t0
        go_wp2
        go_ret
        exact ⟨ret_bool (by rw [← HR.out]; simp only [keyB, E1.out, E2.out, decide_eq_true T0.out]; rfl), HB0.out⟩
      · have T0 := Lib.hid t0
        clear t0
        go_wp2
        go_ret
        exact ⟨ret_bool (by rw [← HR.out]; simp only [keyB, E1.out, E2.out, decide_eq_false T0.out]; rfl), HB0.out⟩
end Go.Proofs.YtdnelpmolenkoaaDoor
