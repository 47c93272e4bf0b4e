/- What callboardref14.Node returns, by its own stages. Conditions: lengths are lengths. -/
import Derived.Test.YtdnelpmolenkoaaDoorTRef5
namespace Go.Proofs.YtdnelpmolenkoaaDoor
open Go.RowKit Go.Ow

def rC3 (d : Nd) : Bool := !isName d.name || (decide (d.inn < -1) || (!evB d.kind d.event || !keyB d))
def rC5 (d : Nd) : Bool := decide ((d.kind = 15 ∧ d.on < 0) ∨ (d.kind ≠ 15 ∧ d.on ≠ -1))
def rC8 (d : Nd) : Bool := nC3 d != decide (d.text.size ≠ 0)
def rC10 (d : Nd) : Bool := cond (decide (d.kind = 4)) (!isName d.set) (decide (d.set.size ≠ 0))
def rC13 (d : Nd) : Bool := (d.breaks && !nC6 d) || (decide (d.kind = 15 ∧ d.event = 4) && !d.breaks)
def rC15 (d : Nd) (m n : Nat) : Bool := (!scopeB d.kind && decide (0 < m)) || (decide (d.kind ≠ 14) && decide (0 < n))
def refE (d : Nd) (m : Nat) (f : Nat → Va) (n : Nat) (g : Nat → ByteArray) : Nat :=
  if 100 < d.text.size ∨ 8 < m ∨ 8 < n then 40 else
  cond (rC3 d) 4 (cond (rC5 d) 4 (cond (rC8 d) 4 (cond (rC10 d) 4 (cond (rC13 d) 4 (cond (rC15 d m n) 4 (cond (unlikeS g 0 n) (varsE m f) 4))))))

set_option maxRecDepth 100000 in
set_option maxHeartbeats 40000000 in
theorem rnode_few (d : Nd) (o1 p1 : Option Addr) (m1 c1 n1 q1 : Nat) (f1 : Nat → Va) (g1 : Nat → ByteArray) (w : World) (hd : d.text.size ≤ 9223372036854775807) (hm : m1 ≤ 9223372036854775807) (hn : n1 ≤ 9223372036854775807) (h : 100 < d.text.size ∨ 8 < m1 ∨ 8 < n1) :
    Calls Tryd.prog 21 #[.agg (nodeC d (.slice o1 m1 c1) (.slice p1 n1 q1))] w fun r w' => r = .returned (.int .i64 (refE d m1 f1 n1 g1)) ∧ Below w.heap.size w w' := by
  have E := Lib.hid (show refE d m1 f1 n1 g1 = 40 by unfold refE; rw [if_pos h])
  by_cases h1 : 100 < d.text.size
  · clear h
    go_enter Tryd.func21, Tryd.ntmps21
    go_wp2
    go_ret
    exact ⟨ret_int (by rw [E.out]; rfl), (Below.refl _ _).alloc (Nat.le_refl _) _⟩
  by_cases h2 : 8 < m1
  · clear h
    go_enter Tryd.func21, Tryd.ntmps21
    go_wp2
    go_ret
    exact ⟨ret_int (by rw [E.out]; rfl), (Below.refl _ _).alloc (Nat.le_refl _) _⟩
  · have h3 : 8 < n1 := by omega
    clear h
    go_enter Tryd.func21, Tryd.ntmps21
    go_wp2
    go_ret
    exact ⟨ret_int (by rw [E.out]; rfl), (Below.refl _ _).alloc (Nat.le_refl _) _⟩

set_option maxRecDepth 100000 in
set_option maxHeartbeats 40000000 in
theorem rnode_any (d : Nd) (o1 p1 : Option Addr) (m1 c1 n1 q1 : Nat) (f1 : Nat → Va) (g1 : Nat → ByteArray) (w : World)
    (hv : Vr w o1 m1 f1) (hs : Ss w p1 n1 g1) (hf : ∀ k, (f1 k).fit) (hg : ∀ k, (g1 k).size ≤ 9223372036854775807) (hd : d.fit)
    (h1 : d.text.size ≤ 100) (h2 : m1 ≤ 8) (h3 : n1 ≤ 8) :
    Calls Tryd.prog 21 #[.agg (nodeC d (.slice o1 m1 c1) (.slice p1 n1 q1))] w fun r w' => r = .returned (.int .i64 (refE d m1 f1 n1 g1)) ∧ Below w.heap.size w w' := by
  have HV := Lib.hid hv
  have HS := Lib.hid hs
  have HF := Lib.hid hf
  have HGG := Lib.hid hg
  obtain ⟨r, hr⟩ : ∃ r, refE d m1 f1 n1 g1 = r := ⟨_, rfl⟩
  rw [hr]
  have HR : Hid (cond (rC3 d) 4 (cond (rC5 d) 4 (cond (rC8 d) 4 (cond (rC10 d) 4 (cond (rC13 d) 4 (cond (rC15 d m1 n1) 4 (cond (unlikeS g1 0 n1) (varsE m1 f1) 4)))))) = r) := Lib.hid (by rw [← hr]; unfold refE; rw [if_neg (by omega)])
  obtain ⟨e1, e2, e3, e4, e5, e6, e7, e8, e9, e10⟩ := hd
  clear hv hs hf hg hr
  go_enter Tryd.func21, Tryd.ntmps21
  go_upto_region 3 with fail
  go_cut [44] (fun s W => s = .bool (rC3 d) ∧ Below w.heap.size w W ∧ W.heap[w.heap.size]? = some (.cells (nodeC d (.slice o1 m1 c1) (.slice p1 n1 q1)) 25 (0, 0)))
  case first => as_aux_lemma =>
    have NB := Lib.hid (new_block w (.cells (nodeC d (.slice o1 m1 c1) (.slice p1 n1 q1)) 25))
    have HB0 := Lib.hid ((Below.refl w.heap.size w).alloc (Nat.le_refl _) (.cells (nodeC d (.slice o1 m1 c1) (.slice p1 n1 q1)) 25))
    have NM := fun W => rname_any d.name W e1
    have EV := fun W => revent_any d.kind d.event W
    have KY := fun W => rkey_any d o1 p1 m1 c1 n1 q1 W e8
    obtain ⟨s1, h1n⟩ : ∃ s, isName d.name = s := ⟨_, rfl⟩
    obtain ⟨s2, h2n⟩ : ∃ s, evB d.kind d.event = s := ⟨_, rfl⟩
    obtain ⟨s3, h3n⟩ : ∃ s, keyB d = s := ⟨_, rfl⟩
    simp only [h1n] at NM
    simp only [h2n] at EV
    simp only [h3n] at KY
    have NM := Lib.hid NM
    have EV := Lib.hid EV
    have KY := Lib.hid KY
    have H1 := Lib.hid h1n
    have H2 := Lib.hid h2n
    have H3 := Lib.hid h3n
    clear h1n h2n h3n
    cases s1
    · go_wp2_with (go_at_call 24; refine (NM.out _).mono ?_; rintro e W1 ⟨rfl, rfl⟩)
      go_meet
      exact ⟨by simp [rC3, H1.out], HB0.out, NB.out⟩
    by_cases hin : d.inn < -1
    · go_wp2_with (go_at_call 24; refine (NM.out _).mono ?_; rintro e W1 ⟨rfl, rfl⟩)
      go_meet
      exact ⟨by simp [rC3, H1.out, hin], HB0.out, NB.out⟩
    cases s2
    · go_wp2_with (first | (go_at_call 24; refine (NM.out _).mono ?_; rintro e W1 ⟨rfl, rfl⟩) | (go_at_call 26; refine (EV.out _).mono ?_; rintro e W1 ⟨rfl, rfl⟩))
      go_meet
      exact ⟨by simp [rC3, H1.out, H2.out], HB0.out, NB.out⟩
    · go_wp2_with (first | (go_at_call 24; refine (NM.out _).mono ?_; rintro e W1 ⟨rfl, rfl⟩) | (go_at_call 26; refine (EV.out _).mono ?_; rintro e W1 ⟨rfl, rfl⟩) | (go_at_call 59; refine (KY.out _).mono ?_; rintro e W2 ⟨rfl, hb⟩; have HB := Lib.hid hb; clear hb))
      go_meet
      exact ⟨by simp [rC3, H1.out, H2.out, H3.out] <;> omega, below_step HB0.out HB.out, by rw [HB.out.block _ (by simp)]; exact NB.out⟩
  case rest =>
    obtain ⟨rfl, hB, hN⟩ := hcut
    obtain ⟨W0, rfl⟩ : ∃ W : World, W = wc := ⟨_, rfl⟩
    have y1 : W0.cell? ⟨w.heap.size, 1, none⟩ = some (.int .u8 d.kind) := by rw [cell_of_row W0 _ 1 _ _ (0, 0) hN]; rfl
    have y3 : W0.cell? ⟨w.heap.size, 3, none⟩ = some (.int .i64 d.on) := by rw [cell_of_row W0 _ 3 _ _ (0, 0) hN]; rfl
    have y4 : W0.cell? ⟨w.heap.size, 4, none⟩ = some (.int .u8 d.event) := by rw [cell_of_row W0 _ 4 _ _ (0, 0) hN]; rfl
    have y6 : W0.cell? ⟨w.heap.size, 6, none⟩ = some (.string d.text) := by rw [cell_of_row W0 _ 6 _ _ (0, 0) hN]; rfl
    have y7 : W0.cell? ⟨w.heap.size, 7, none⟩ = some (.string d.set) := by rw [cell_of_row W0 _ 7 _ _ (0, 0) hN]; rfl
    have y8 : W0.cell? ⟨w.heap.size, 8, none⟩ = some (.bool d.breaks) := by rw [cell_of_row W0 _ 8 _ _ (0, 0) hN]; rfl
    have y9 : W0.cell? ⟨w.heap.size, 9, none⟩ = some (.slice o1 m1 c1) := by rw [cell_of_row W0 _ 9 _ _ (0, 0) hN]; rfl
    have y10 : W0.cell? ⟨w.heap.size, 10, none⟩ = some (.slice p1 n1 q1) := by rw [cell_of_row W0 _ 10 _ _ (0, 0) hN]; rfl
    have HB := Lib.hid hB
    have HN := Lib.hid hN
    clear hB hN
    obtain ⟨b, hb⟩ : ∃ b, rC3 d = b := ⟨_, rfl⟩
    rw [hb] at HR ⊢
    clear hb
    cases b
    case true =>
      have HR := Lib.hid (show 4 = r from HR.out)
      go_wp2_with fail
      go_ret
      exact ⟨ret_int (by rw [← HR.out]; rfl), HB.out⟩
    rw [Bool.cond_false] at HR
    go_upto_region 5 with fail
    go_cut [62] (fun s W => s = .bool (rC5 d) ∧ W0 = W)
    case first => as_aux_lemma =>
      by_cases a0 : d.kind = 15
      · have q0 : ((d.kind : Int) == 15) = true := b8 a0
        have q1 : ((d.kind : Int) != 15) = false := b9 a0
        by_cases a1 : d.on < 0
        · go_wp2_with fail
          go_meet
          exact ⟨by simp [rC5, a0, a1], rfl⟩
        · go_wp2_with fail
          go_meet
          exact ⟨by simp [rC5, a0, a1], rfl⟩
      · have q0 : ((d.kind : Int) == 15) = false := b8n a0
        have q1 : ((d.kind : Int) != 15) = true := b9n a0
        by_cases a1 : d.on = -1
        · have q2 : (d.on != -1) = false := by simp [a1]
          have a2 := Lib.hid a1
          clear a1
          go_wp2_with fail
          go_meet
          exact ⟨by simp [rC5, a0, a2.out], rfl⟩
        · have q2 : (d.on != -1) = true := by simp [a1]
          go_wp2_with fail
          go_meet
          exact ⟨by simp [rC5, a0, a1], rfl⟩
    case rest =>
      obtain ⟨rfl, rfl⟩ := hcut
      obtain ⟨b, hb⟩ : ∃ b, rC5 d = b := ⟨_, rfl⟩
      rw [hb] at HR ⊢
      clear hb
      cases b
      case true =>
        have HR := Lib.hid (show 4 = r from HR.out)
        go_wp2_with fail
        go_ret
        exact ⟨ret_int (by rw [← HR.out]; rfl), HB.out⟩
      rw [Bool.cond_false] at HR
      go_upto_region 7 with fail
      go_cut [3] (fun s W => s = .bool (nC3 d) ∧ W0 = W)
      case first => as_aux_lemma =>
        by_cases a0 : d.kind = 4
        · have qa0 : ((d.kind : Int) == 4) = true := b8 a0
          go_wp2_with fail
          go_meet
          exact ⟨by simp [nC3, a0], rfl⟩
        · have qa0 : ((d.kind : Int) == 4) = false := b8n a0
          by_cases a1 : d.kind = 12
          · have qa1 : ((d.kind : Int) == 12) = true := b8 a1
            go_wp2_with fail
            go_meet
            exact ⟨by simp [nC3, a1], rfl⟩
          · have qa1 : ((d.kind : Int) == 12) = false := b8n a1
            by_cases a2 : d.event = 2
            · have qa2 : ((d.event : Int) == 2) = true := b8 a2
              go_wp2_with fail
              go_meet
              exact ⟨by simp [nC3, a2], rfl⟩
            · have qa2 : ((d.event : Int) == 2) = false := b8n a2
              by_cases a3 : d.event = 3
              · have qa3 : ((d.event : Int) == 3) = true := b8 a3
                go_wp2_with fail
                go_meet
                exact ⟨by simp [nC3, a3], rfl⟩
              · have qa3 : ((d.event : Int) == 3) = false := b8n a3
                go_wp2_with fail
                go_meet
                exact ⟨by simp [nC3, a0, a1, a2, a3], rfl⟩
      case rest =>
        obtain ⟨rfl, rfl⟩ := hcut
        obtain ⟨b3, hb3⟩ : ∃ b, nC3 d = b := ⟨_, rfl⟩
        rw [hb3]
        have HB8 := Lib.hid hb3
        clear hb3
        go_upto_region 8 with fail
        go_cut [85] (fun s W => s = .bool (rC8 d) ∧ W0 = W)
        case first => as_aux_lemma =>
          rcases str_cases d.text with ⟨t0, t1, t2⟩ | ⟨t0, t1, t2⟩
          · have T0 := Lib.hid t0
            clear t0
            cases b3
            all_goals
              go_wp2_with fail
              go_meet
              exact ⟨by simp [rC8, HB8.out, T0.out], rfl⟩
          · have T0 := Lib.hid t0
            clear t0
            cases b3
            all_goals
              go_wp2_with fail
              go_meet
              exact ⟨by simp [rC8, HB8.out, T0.out], rfl⟩
        case rest =>
          obtain ⟨rfl, rfl⟩ := hcut
          obtain ⟨b, hb⟩ : ∃ b, rC8 d = b := ⟨_, rfl⟩
          rw [hb] at HR ⊢
          clear hb
          cases b
          case true =>
            have HR := Lib.hid (show 4 = r from HR.out)
            go_wp2_with fail
            go_ret
            exact ⟨ret_int (by rw [← HR.out]; rfl), HB.out⟩
          rw [Bool.cond_false] at HR
          go_upto_region 10 with fail
          go_cut [104] (fun s W => s = .bool (rC10 d) ∧ W0 = W)
          case first => as_aux_lemma =>
            have NM := rname_any d.set W0 e10
            obtain ⟨b, hb⟩ : ∃ b, isName d.set = b := ⟨_, rfl⟩
            rw [hb] at NM
            have NM := Lib.hid NM
            have HNM := Lib.hid hb
            clear hb
            by_cases a0 : d.kind = 4
            · have q0 : ((d.kind : Int) == 4) = true := b8 a0
              have q1 : ((d.kind : Int) != 4) = false := b9 a0
              cases b
              all_goals
                go_wp2_with (go_at_call 24; refine NM.out.mono ?_; rintro e W1 ⟨rfl, rfl⟩)
                go_meet
                exact ⟨by simp [rC10, a0, HNM.out], rfl⟩
            · have q0 : ((d.kind : Int) == 4) = false := b8n a0
              have q1 : ((d.kind : Int) != 4) = true := b9n a0
              rcases str_cases d.set with ⟨t0, t1, t2⟩ | ⟨t0, t1, t2⟩
              all_goals
                have T0 := Lib.hid t0
                clear t0
                go_wp2_with fail
                go_meet
                exact ⟨by simp [rC10, a0, T0.out], rfl⟩
          case rest =>
            obtain ⟨rfl, rfl⟩ := hcut
            obtain ⟨b, hb⟩ : ∃ b, rC10 d = b := ⟨_, rfl⟩
            rw [hb] at HR ⊢
            clear hb
            cases b
            case true =>
              have HR := Lib.hid (show 4 = r from HR.out)
              go_wp2_with fail
              go_ret
              exact ⟨ret_int (by rw [← HR.out]; rfl), HB.out⟩
            rw [Bool.cond_false] at HR
            go_upto_region 12 with fail
            go_cut [4] (fun s W => s = .bool (nC6 d) ∧ W0 = W)
            case first => as_aux_lemma =>
              by_cases a0 : d.kind = 15
              · have qa0 : ((d.kind : Int) == 15) = true := b8 a0
                go_wp2_with fail
                go_meet
                exact ⟨by simp [nC6, a0], rfl⟩
              · have qa0 : ((d.kind : Int) == 15) = false := b8n a0
                by_cases a1 : d.kind = 12
                · have qa1 : ((d.kind : Int) == 12) = true := b8 a1
                  go_wp2_with fail
                  go_meet
                  exact ⟨by simp [nC6, a1], rfl⟩
                · have qa1 : ((d.kind : Int) == 12) = false := b8n a1
                  by_cases a2 : d.kind = 1
                  · have qa2 : ((d.kind : Int) == 1) = true := b8 a2
                    by_cases a3 : d.event = 0
                    · have qa3 : ((d.event : Int) != 0) = false := b9 a3
                      go_wp2_with fail
                      go_meet
                      exact ⟨by simp [nC6, a2, a3], rfl⟩
                    · have qa3 : ((d.event : Int) != 0) = true := b9n a3
                      go_wp2_with fail
                      go_meet
                      exact ⟨by simp [nC6, a2, a3], rfl⟩
                  · have qa2 : ((d.kind : Int) == 1) = false := b8n a2
                    go_wp2_with fail
                    go_meet
                    exact ⟨by simp [nC6, a0, a1, a2], rfl⟩
            case rest =>
              obtain ⟨rfl, rfl⟩ := hcut
              obtain ⟨b6, hb6⟩ : ∃ b, nC6 d = b := ⟨_, rfl⟩
              rw [hb6]
              have H6 := Lib.hid hb6
              clear hb6
              go_upto_region 13 with fail
              go_cut [143] (fun s W => s = .bool (rC13 d) ∧ W0 = W)
              case first => as_aux_lemma =>
                obtain ⟨br, hbr⟩ : ∃ b, d.breaks = b := ⟨_, rfl⟩
                rw [hbr] at y8
                have HBR := Lib.hid hbr
                clear hbr
                cases b6 <;> cases br
                · skip
                  by_cases a0 : d.kind = 15
                  · have qa0 : ((d.kind : Int) == 15) = true := b8 a0
                    by_cases a1 : d.event = 4
                    · have qa1 : ((d.event : Int) == 4) = true := b8 a1
                      go_wp2_with fail
                      go_meet
                      exact ⟨by simp [rC13, H6.out, HBR.out, a0, a1], rfl⟩
                    · have qa1 : ((d.event : Int) == 4) = false := b8n a1
                      go_wp2_with fail
                      go_meet
                      exact ⟨by simp [rC13, H6.out, HBR.out, a0, a1], rfl⟩
                  · have qa0 : ((d.kind : Int) == 15) = false := b8n a0
                    go_wp2_with fail
                    go_meet
                    exact ⟨by simp [rC13, H6.out, HBR.out, a0], rfl⟩
                · skip
                  go_wp2_with fail
                  go_meet
                  exact ⟨by simp [rC13, H6.out, HBR.out], rfl⟩
                · skip
                  by_cases a0 : d.kind = 15
                  · have qa0 : ((d.kind : Int) == 15) = true := b8 a0
                    by_cases a1 : d.event = 4
                    · have qa1 : ((d.event : Int) == 4) = true := b8 a1
                      go_wp2_with fail
                      go_meet
                      exact ⟨by simp [rC13, H6.out, HBR.out, a0, a1], rfl⟩
                    · have qa1 : ((d.event : Int) == 4) = false := b8n a1
                      go_wp2_with fail
                      go_meet
                      exact ⟨by simp [rC13, H6.out, HBR.out, a0, a1], rfl⟩
                  · have qa0 : ((d.kind : Int) == 15) = false := b8n a0
                    go_wp2_with fail
                    go_meet
                    exact ⟨by simp [rC13, H6.out, HBR.out, a0], rfl⟩
                · skip
                  by_cases a0 : d.kind = 15
                  · have qa0 : ((d.kind : Int) == 15) = true := b8 a0
                    by_cases a1 : d.event = 4
                    · have qa1 : ((d.event : Int) == 4) = true := b8 a1
                      go_wp2_with fail
                      go_meet
                      exact ⟨by simp [rC13, H6.out, HBR.out, a0, a1], rfl⟩
                    · have qa1 : ((d.event : Int) == 4) = false := b8n a1
                      go_wp2_with fail
                      go_meet
                      exact ⟨by simp [rC13, H6.out, HBR.out, a0, a1], rfl⟩
                  · have qa0 : ((d.kind : Int) == 15) = false := b8n a0
                    go_wp2_with fail
                    go_meet
                    exact ⟨by simp [rC13, H6.out, HBR.out, a0], rfl⟩
              case rest =>
                obtain ⟨rfl, rfl⟩ := hcut
                obtain ⟨b, hb⟩ : ∃ b, rC13 d = b := ⟨_, rfl⟩
                rw [hb] at HR ⊢
                clear hb
                cases b
                case true =>
                  have HR := Lib.hid (show 4 = r from HR.out)
                  go_wp2_with fail
                  go_ret
                  exact ⟨ret_int (by rw [← HR.out]; rfl), HB.out⟩
                rw [Bool.cond_false] at HR
                go_upto_region 15 with fail
                go_cut [164] (fun s W => s = .bool (rC15 d m1 n1) ∧ W0 = W)
                case first => as_aux_lemma =>
                  have SC := rscope_any d.kind W0
                  obtain ⟨b, hb⟩ : ∃ b, scopeB d.kind = b := ⟨_, rfl⟩
                  rw [hb] at SC
                  have SC := Lib.hid SC
                  have HSC := Lib.hid hb
                  clear hb
                  by_cases a1 : d.kind = 14
                  · have HK14 := Lib.hid a1
                    have hb0 : b = false := by rw [← HSC.out, a1]; decide
                    subst hb0
                    have qa1 : ((d.kind : Int) != 14) = false := b9 a1
                    have qa3 : ((d.kind : Int) == 14) = true := b8 a1
                    have S14 : Hid (scopeB 14 = false) := Lib.hid (by decide)
                    clear a1
                    rcases Nat.eq_zero_or_pos m1 with a0 | a0
                    · subst a0
                      rcases Nat.eq_zero_or_pos n1 with a2 | a2
                      · subst a2
                        go_wp2_with (go_at_call 29; refine SC.out.mono ?_; rintro e W1 ⟨rfl, rfl⟩)
                        go_meet
                        exact ⟨by simp [rC15, HK14.out, S14.out], rfl⟩
                      · have qa2 : (0 : Int) < (n1 : Int) := by omega
                        have Ha2 := Lib.hid a2
                        clear a2
                        go_wp2_with (go_at_call 29; refine SC.out.mono ?_; rintro e W1 ⟨rfl, rfl⟩)
                        go_meet
                        exact ⟨by simp [rC15, HK14.out, S14.out, Ha2.out], rfl⟩
                    · have qa0 : (0 : Int) < (m1 : Int) := by omega
                      have Ha0 := Lib.hid a0
                      clear a0
                      rcases Nat.eq_zero_or_pos n1 with a2 | a2
                      · subst a2
                        go_wp2_with (go_at_call 29; refine SC.out.mono ?_; rintro e W1 ⟨rfl, rfl⟩)
                        go_meet
                        exact ⟨by simp [rC15, HK14.out, S14.out, Ha0.out], rfl⟩
                      · have qa2 : (0 : Int) < (n1 : Int) := by omega
                        have Ha2 := Lib.hid a2
                        clear a2
                        go_wp2_with (go_at_call 29; refine SC.out.mono ?_; rintro e W1 ⟨rfl, rfl⟩)
                        go_meet
                        exact ⟨by simp [rC15, HK14.out, S14.out, Ha0.out, Ha2.out], rfl⟩
                  · have qa1 : ((d.kind : Int) != 14) = true := b9n a1
                    have HK14 := Lib.hid a1
                    clear a1
                    cases b
                    all_goals
                      rcases Nat.eq_zero_or_pos m1 with a0 | a0
                      · subst a0
                        rcases Nat.eq_zero_or_pos n1 with a2 | a2
                        · subst a2
                          go_wp2_with (go_at_call 29; refine SC.out.mono ?_; rintro e W1 ⟨rfl, rfl⟩)
                          go_meet
                          exact ⟨by simp [rC15, HSC.out, HK14.out], rfl⟩
                        · have qa2 : (0 : Int) < (n1 : Int) := by omega
                          have Ha2 := Lib.hid a2
                          clear a2
                          go_wp2_with (go_at_call 29; refine SC.out.mono ?_; rintro e W1 ⟨rfl, rfl⟩)
                          go_meet
                          exact ⟨by simp [rC15, HSC.out, HK14.out, Ha2.out], rfl⟩
                      · have qa0 : (0 : Int) < (m1 : Int) := by omega
                        have Ha0 := Lib.hid a0
                        clear a0
                        rcases Nat.eq_zero_or_pos n1 with a2 | a2
                        · subst a2
                          go_wp2_with (go_at_call 29; refine SC.out.mono ?_; rintro e W1 ⟨rfl, rfl⟩)
                          go_meet
                          exact ⟨by simp [rC15, HSC.out, HK14.out, Ha0.out], rfl⟩
                        · have qa2 : (0 : Int) < (n1 : Int) := by omega
                          have Ha2 := Lib.hid a2
                          clear a2
                          go_wp2_with (go_at_call 29; refine SC.out.mono ?_; rintro e W1 ⟨rfl, rfl⟩)
                          go_meet
                          exact ⟨by simp [rC15, HSC.out, HK14.out, Ha0.out, Ha2.out], rfl⟩
                case rest =>
                  obtain ⟨rfl, rfl⟩ := hcut
                  obtain ⟨b, hb⟩ : ∃ b, rC15 d m1 n1 = b := ⟨_, rfl⟩
                  rw [hb] at HR ⊢
                  clear hb
                  cases b
                  case true =>
                    have HR := Lib.hid (show 4 = r from HR.out)
                    go_wp2_with fail
                    go_ret
                    exact ⟨ret_int (by rw [← HR.out]; rfl), HB.out⟩
                  rw [Bool.cond_false] at HR
                  have hl : w.heap.size < W0.heap.size := (Array.getElem?_eq_some_iff.1 HN.out).1
                  have Y9 := Lib.hid y9
                  have Y10 := Lib.hid y10
                  clear y1 y3 y4 y6 y7 y8 y9 y10
                  obtain ⟨ru, hru⟩ : ∃ b, unlikeS g1 0 n1 = b := ⟨_, rfl⟩
                  rw [hru] at HR
                  have HRU := Lib.hid hru
                  clear hru
                  have HVV := Lib.hid (HV.out.below HB.out)
                  have HSS := Lib.hid (HS.out.below HB.out)
                  go_upto_region 18 with fail
                  go_loopw [5, 6] (fun i _ wr => ∃ j : Nat, j ≤ n1 ∧ i = .int .i64 j ∧ Hid (unlikeS g1 j (n1 - j) = ru) ∧ Below W0.heap.size W0 wr) (fun i _ _ => n1 - (intOf i).toNat)
                  case atStart => exact ⟨0, Nat.zero_le _, rfl, HRU, Below.refl _ _⟩
                  case round =>
                    obtain ⟨j, hj, rfl, HK, hBr⟩ := hrel
                    have HBr := Lib.hid hBr
                    have y10 : wr.cell? ⟨w.heap.size, 10, none⟩ = some (.slice p1 n1 q1) := by rw [hBr.cell (p := ⟨w.heap.size, 10, none⟩) hl]; exact Y10.out
                    clear hBr
                    by_cases hlt : j < n1
                    · obtain ⟨b, off, ho, hb, c0⟩ := (HSS.out.below HBr.out) j hlt
                      rw [ho] at y10
                      have E := Lib.hid (unlikeS_at g1 j n1 hlt)
                      obtain ⟨u, hu⟩ : ∃ u, g1 j = u := ⟨_, rfl⟩
                      have hus := HGG.out j
                      rw [hu] at c0 E hus
                      have HU := Lib.hid hu
                      have HO := Lib.hid ho
                      clear hu ho
                      have i1 : (j : Int) < (n1 : Int) := by omega
                      have i2 : (0 : Int) ≤ (j : Int) := by omega
                      have NM := rname_any u wr hus
                      cases hn : isName u
                      · have HE : Hid (false = ru) := Lib.hid (by have := HK.out; rw [E.out, hn] at this; simpa using this)
                        rw [hn] at NM
                        have NM := Lib.hid NM
                        clear hn E
                        have HR4 : Hid (r = 4) := Lib.hid (by rw [← HR.out, ← HE.out]; rfl)
                        go_wp2_with (go_at_call 24; refine NM.out.mono ?_; rintro e w2 ⟨rfl, rfl⟩)
                        go_ret
                        exact ⟨ret_int (by rw [HR4.out]; rfl), below_step HB.out HBr.out⟩
                      rw [hn] at NM
                      have NM := Lib.hid NM
                      obtain ⟨r2, hr2⟩ : ∃ r2, fI (fun i => decide (g1 i = u)) 0 j = r2 := ⟨_, rfl⟩
                      have HJ : Hid (ru = (decide (r2 < 0) && unlikeS g1 (j + 1) (n1 - (j + 1)))) := Lib.hid (by
                        rw [← HK.out, E.out, hn]
                        rw [anyB_fI, hr2]
                        simp only [Bool.true_and]
                        congr 1
                        by_cases hh : 0 ≤ r2
                        · rw [decide_eq_true hh, decide_eq_false (by omega)]; rfl
                        · rw [decide_eq_false hh, decide_eq_true (by omega)]; rfl)
                      have HR2 := Lib.hid hr2
                      clear hn E hr2
                      go_wp2_with (go_at_call 24; refine NM.out.mono ?_; rintro e w2 ⟨rfl, rfl⟩)
                      clear c0 hb
                      go_loopw [6] (fun i wr2 => ∃ l : Nat, l ≤ j ∧ i = .int .i64 l ∧ Hid (fI (fun i => decide (g1 i = u)) l (j - l) = r2) ∧ Below W0.heap.size W0 wr2) (fun i _ => j - (intOf i).toNat)
                      case atStart => exact ⟨0, Nat.zero_le _, rfl, HR2, HBr.out⟩
                      case round =>
                        clear y10
                        obtain ⟨l, hl2, rfl, HL, hB3⟩ := hrel
                        have HB3 := Lib.hid hB3
                        have y10 : wr.cell? ⟨w.heap.size, 10, none⟩ = some (.slice (some ⟨b, off, none⟩) n1 q1) := by rw [hB3.cell (p := ⟨w.heap.size, 10, none⟩) hl, ← HO.out]; exact Y10.out
                        clear hB3
                        by_cases hlj : l < j
                        · obtain ⟨b', off', e', hb', d0⟩ := (HSS.out.below HB3.out) l (by omega)
                          obtain ⟨b'', off'', e'', hb'', c0⟩ := (HSS.out.below HB3.out) j hlt
                          rw [HO.out] at e' e''
                          cases e'
                          cases e''
                          rw [HU.out] at c0
                          have E2 := Lib.hid (fI_at (fun i => decide (g1 i = u)) l j hlj)
                          have i3 : (l : Int) < (n1 : Int) := by omega
                          have i4 : (0 : Int) ≤ (l : Int) := by omega
                          by_cases hq : g1 l = u
                          · have HE : Hid (false = ru) := Lib.hid (by
                              have := HL.out
                              rw [E2.out] at this
                              simp only [hq, decide_true, if_true] at this
                              rw [HJ.out, decide_eq_false (by omega), Bool.false_and])
                            rw [hq] at d0
                            have HR4 : Hid (r = 4) := Lib.hid (by rw [← HR.out, ← HE.out]; rfl)
                            clear hq E2
                            go_wp2
                            go_quiet (fail)
                            go_wp2
                            go_ret
                            exact ⟨ret_int (by rw [HR4.out]; rfl), below_step HB.out (HB3.out.trans (Below.drewN _ _))⟩
                          · have HE : Hid (fI (fun i => decide (g1 i = u)) (l + 1) (j - (l + 1)) = r2) := Lib.hid (by
                              have := HL.out
                              rw [E2.out] at this
                              simpa [hq] using this)
                            obtain ⟨v, hv⟩ : ∃ v, g1 l = v := ⟨_, rfl⟩
                            rw [hv] at d0 hq
                            have n1' := toList_ne hq
                            have n2' := toList_beq hq
                            clear hv hq E2
                            go_wp2
                            go_quiet (fail)
                            go_wp2
                            go_roundw
                            case rel => exact ⟨l + 1, by omega, by go_num, HE, HB3.out.trans (Below.drewN _ _)⟩
                            case measure => simp [intOf]; omega
                        · obtain rfl : l = j := by omega
                          have HE : Hid (unlikeS g1 (l + 1) (n1 - (l + 1)) = ru) := Lib.hid (by
                            have := HL.out
                            rw [fI_end] at this
                            rw [HJ.out, decide_eq_true (by omega), Bool.true_and])
                          clear y10
                          go_wp2
                          go_roundw
                          case rel => exact ⟨l + 1, by omega, by go_num, HE, HB3.out⟩
                          case measure => simp [intOf]; omega
                    · obtain rfl : j = n1 := by omega
                      have HE : Hid (true = ru) := Lib.hid (by have := HK.out; rw [unlikeS_end] at this; exact this)
                      have VR := rvars_err o1 m1 c1 f1 wr (HVV.out.below HBr.out) HF.out (by omega)
                      have y9 : wr.cell? ⟨w.heap.size, 9, none⟩ = some (.slice o1 m1 c1) := by rw [HBr.out.cell (p := ⟨w.heap.size, 9, none⟩) hl]; exact Y9.out
                      have HR4 : Hid (r = varsE m1 f1) := Lib.hid (by rw [← HR.out, ← HE.out]; rfl)
                      obtain ⟨ve, hve⟩ : ∃ e, varsE m1 f1 = e := ⟨_, rfl⟩
                      rw [hve] at VR HR4
                      have VR := Lib.hid VR
                      clear hve
                      go_wp2_with (go_at_call 23; refine VR.out.mono ?_; rintro e w2 ⟨rfl, hb2⟩)
                      go_ret
                      exact ⟨ret_int (by rw [HR4.out]), below_step HB.out (below_step HBr.out hb2)⟩
end Go.Proofs.YtdnelpmolenkoaaDoor
