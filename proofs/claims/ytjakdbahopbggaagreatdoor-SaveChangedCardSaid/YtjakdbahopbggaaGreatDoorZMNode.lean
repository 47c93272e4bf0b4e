/- What model.Node returns. Conditions: the tables as laid; lengths are lengths. -/
import Derived.Test.YtjakdbahopbggaaGreatDoorZMSame3
import Derived.Deep.DeepCutAuto
namespace Go.Proofs.YtjakdbahopbggaaGreatDoor
open Go.RowKit Go.Ow

/-- the world while Node takes a node's parts away: the node's box, the box of what is left (R), the box of handles (H) -/
structure NS (w : World) (d : Nd) (vs bs : Value) (R H : Nat) (h : Bool) (ra : Array Value) (W : World) : Prop where
  be : Below w.heap.size w W
  lr : w.heap.size < R
  lh : w.heap.size < H
  ne : H ≠ R
  n : W.heap[w.heap.size]? = some (.cells (nodeC d vs bs) 111 (0, 0))
  r : W.heap[R]? = some (.cells ra 111 (0, 0))
  h : W.heap[H]? = some (.cells #[.bool h] 4 (0, 0))
section
variable {w : World} {d : Nd} {vs bs : Value} {R H : Nat} {h : Bool} {ra : Array Value} {W : World}
theorem NS.ltR (s : NS w d vs bs R H h ra W) : R < W.heap.size := (Array.getElem?_eq_some_iff.1 s.r).1
theorem NS.ltH (s : NS w d vs bs R H h ra W) : H < W.heap.size := (Array.getElem?_eq_some_iff.1 s.h).1
theorem NS.ltN (s : NS w d vs bs R H h ra W) : w.heap.size < W.heap.size := (Array.getElem?_eq_some_iff.1 s.n).1
theorem NS.kind (s : NS w d vs bs R H h ra W) : W.cell? ⟨w.heap.size, 1, none⟩ = some (.int .u8 d.kind) := by rw [cell_of_row W _ 1 _ _ (0, 0) s.n]; rfl
theorem NS.event (s : NS w d vs bs R H h ra W) : W.cell? ⟨w.heap.size, 4, none⟩ = some (.int .u8 d.event) := by rw [cell_of_row W _ 4 _ _ (0, 0) s.n]; rfl
theorem NS.hc (s : NS w d vs bs R H h ra W) : W.cell? ⟨H, 0, none⟩ = some (.bool h) := by rw [cell_of_row W _ 0 _ _ (0, 0) s.h]; rfl
theorem NS.c (s : NS w d vs bs R H h ra W) (i : Nat) : W.cell? ⟨R, i, none⟩ = ra[i]? := by rw [cell_of_row W _ i _ _ (0, 0) s.r]
theorem NS.fz (s : NS w d vs bs R H h ra W) (i : Nat) : W.frozen? ⟨R, i, none⟩ = false := by
  unfold World.frozen?
  rw [s.r]
  simp
theorem NS.keep (s : NS w d vs bs R H h ra W) {W' : World} (hb : Below W.heap.size W W') : NS w d vs bs R H h ra W' :=
  ⟨below_step s.be hb, s.lr, s.lh, s.ne, by rw [hb.block _ s.ltN]; exact s.n, by rw [hb.block _ s.ltR]; exact s.r, by rw [hb.block _ s.ltH]; exact s.h⟩
theorem NS.put (s : NS w d vs bs R H h ra W) {W' : World} {i : Nat} {b : Bool} {z : Value} {e : Ending} (hp : PartP W R i b z e W') : NS w d vs bs R H h (ra.setIfInBounds i z) W' := by
  obtain ⟨_, w1, hb, rfl⟩ := hp
  have k := s.keep hb
  refine ⟨k.be.setCell (Nat.le_of_lt s.lr) _, s.lr, s.lh, s.ne, ?_, ?_, ?_⟩
  · rw [Below.heap_setCell _ _ _ _ (Nat.ne_of_lt s.lr)]; exact k.n
  · have h' := k.r
    simp [World.setCell, Array.getElem?_modify, h']
  · rw [Below.heap_setCell _ _ _ _ s.ne]; exact k.h
end


def nOk0 (d : Nd) : Bool := isName d.name && (decide (-1 ≤ d.inn) && evB d.kind d.event)
def nH (d : Nd) : Bool := decide (d.kind = 1) || decide (d.kind = 15)
def nC1 (d : Nd) : Bool := decide (d.kind = 14) || (decide (d.event = 1) || decide (d.event = 6))
def nC2 (d : Nd) : Bool := decide (d.event = 4) || decide (d.event = 5)
def nC3 (d : Nd) : Bool := decide (d.kind = 4) || (decide (d.kind = 12) || (decide (d.event = 2) || decide (d.event = 3)))
def nC4 (d : Nd) : Bool := decide (d.kind = 4)
def nC6 (d : Nd) : Bool := decide (d.kind = 12) || (decide (d.kind = 15) || (decide (d.kind = 1) && decide (d.event ≠ 0)))
def nC8 (d : Nd) : Bool := decide (d.kind = 14)
def k1 (d : Nd) : ByteArray := cond (nC1 d) ⟨#[]⟩ d.key
def k2 (d : Nd) : ByteArray := cond (nC2 d) ⟨#[]⟩ (k1 d)
def t3 (d : Nd) : ByteArray := cond (nC3 d) ⟨#[]⟩ d.text
def s4 (d : Nd) : ByteArray := cond (nC4 d) ⟨#[]⟩ d.set
def b6 (d : Nd) : Bool := cond (nC6 d) false d.breaks
def nOk1 (d : Nd) : Bool := cond (nC1 d) (isName d.key && nOk0 d) (nOk0 d)
def nOk2 (d : Nd) : Bool := cond (nC2 d) (pKeyH (nH d) (k1 d) && nOk1 d) (nOk1 d)
def nOk3 (d : Nd) : Bool := cond (nC3 d) (pText d.text && nOk2 d) (nOk2 d)
def nOk4 (d : Nd) : Bool := cond (nC4 d) (isName d.set && nOk3 d) (nOk3 d)
def nOk5 (d : Nd) : Bool := pOn d.on d.kind && nOk4 d
def nOk6 (d : Nd) : Bool := cond (nC6 d) (pBr d.breaks d.kind d.event && nOk5 d) (nOk5 d)
def nOk7 (d : Nd) (m : Nat) (f : Nat → Va) : Bool := cond (scopeB d.kind) (decide (varsE m f = 0) && nOk6 d) (nOk6 d)
def nOk8 (d : Nd) (m : Nat) (f : Nat → Va) (n : Nat) (g : Nat → ByteArray) : Bool := cond (nC8 d) (unlikeS g 0 n && nOk7 d m f) (nOk7 d m f)
def nVs (d : Nd) (o : Option Addr) (m c : Nat) : Value := cond (scopeB d.kind) (.slice none 0 0) (.slice o m c)
def nBs (d : Nd) (o : Option Addr) (m c : Nat) : Value := cond (nC8 d) (.slice none 0 0) (.slice o m c)
abbrev restC (on : Int) (key text set : ByteArray) (br : Bool) (vs bs : Value) : Array Value := #[.string ⟨#[]⟩, .int .u8 0, .int .i64 0, .int .i64 on, .int .u8 0, .string key, .string text, .string set, .bool br, vs, bs]
def nRest (d : Nd) : Nd := ⟨⟨#[]⟩, 0, 0, 0, 0, k2 d, t3 d, s4 d, b6 d⟩
def nZero : Nd := ⟨⟨#[]⟩, 0, 0, 0, 0, ⟨#[]⟩, ⟨#[]⟩, ⟨#[]⟩, false⟩
def nodeE (d : Nd) (m : Nat) (f : Nat → Va) (n : Nat) (g : Nat → ByteArray) : Nat :=
  if 100 < d.text.size ∨ 8 < m ∨ 8 < n then 40 else
  if nOk8 d m f n g && sameD (nRest d) nZero f f g g (cond (scopeB d.kind) 0 m) 0 (cond (nC8 d) 0 n) 0 then 0 else 4
def Nd.fit (d : Nd) : Prop := d.name.size ≤ 9223372036854775807 ∧ d.kind < 256 ∧ -9223372036854775808 ≤ d.inn ∧ d.inn ≤ 9223372036854775807 ∧ -9223372036854775808 ≤ d.on ∧ d.on ≤ 9223372036854775807 ∧ d.event < 256 ∧ d.key.size ≤ 9223372036854775807 ∧ d.text.size ≤ 9223372036854775807 ∧ d.set.size ≤ 9223372036854775807
theorem nodeE_f {d : Nd} {m : Nat} {f : Nat → Va} {n : Nat} {g : Nat → ByteArray} (h1 : d.text.size ≤ 100) (h2 : m ≤ 8) (h3 : n ≤ 8)
    (h : (nOk8 d m f n g && sameD (nRest d) nZero f f g g (cond (scopeB d.kind) 0 m) 0 (cond (nC8 d) 0 n) 0) = false) : nodeE d m f n g = 4 := by
  unfold nodeE; rw [if_neg (by omega), h]; rfl
theorem nodeE_t {d : Nd} {m : Nat} {f : Nat → Va} {n : Nat} {g : Nat → ByteArray} (h1 : d.text.size ≤ 100) (h2 : m ≤ 8) (h3 : n ≤ 8)
    (h : (nOk8 d m f n g && sameD (nRest d) nZero f f g g (cond (scopeB d.kind) 0 m) 0 (cond (nC8 d) 0 n) 0) = true) : nodeE d m f n g = 0 := by
  unfold nodeE; rw [if_neg (by omega), h]; rfl
theorem k1_le {d : Nd} (h : d.fit) : (k1 d).size ≤ 9223372036854775807 := by unfold k1; cases nC1 d; exact h.2.2.2.2.2.2.2.1; exact Nat.zero_le _
theorem new_block (w : World) (o : Obj) : (w.alloc o).heap[w.heap.size]? = some o := by
  show (w.heap.push o)[w.heap.size]? = some o
  simp
theorem b8 {a b : Nat} (h : a = b) : ((a : Int) == b) = true := by subst h; simp
theorem b8n {a b : Nat} (h : ¬ a = b) : ((a : Int) == b) = false := by simp; omega
theorem b9 {a b : Nat} (h : a = b) : ((a : Int) != b) = false := by subst h; simp
theorem b9n {a b : Nat} (h : ¬ a = b) : ((a : Int) != b) = true := by simp; omega

set_option maxRecDepth 100000 in
set_option maxHeartbeats 40000000 in
theorem node_any {A : Nat → Nat × Nat} (d : Nd) (o1 p1 : Option Addr) (m1 c1 n1 q1 : Nat) (f1 : Nat → Va) (g1 : Nat → ByteArray) (w : World) (hG : Gl A w)
    (hv : Vr w o1 m1 f1) (hs : Ss w p1 n1 g1) (hf : ∀ k, (f1 k).fit) (hg : ∀ k, (g1 k).size ≤ 9223372036854775807) (hm : m1 ≤ 9223372036854775807) (hn : n1 ≤ 9223372036854775807) (hcm : m1 ≤ c1) (hcn : n1 ≤ q1) (hd : d.fit)
    (h1 : d.text.size ≤ 100) (h2 : m1 ≤ 8) (h3 : n1 ≤ 8) :
    Calls Tryz.prog 92 #[.agg (nodeC d (.slice o1 m1 c1) (.slice p1 n1 q1))] w fun r w' => r = .returned (.int .i64 (nodeE d m1 f1 n1 g1)) ∧ Below w.heap.size w w' := by
  have HG := Lib.hid hG
  have HV := Lib.hid hv
  have HS := Lib.hid hs
  have HF := Lib.hid hf
  have HGG := Lib.hid hg
  have HD := Lib.hid hd
  obtain ⟨e1, e2, e3, e4, e5, e6, e7, e8, e9, e10⟩ := hd
  clear hG hv hs hf hg
  go_enter Tryz.func92, Tryz.ntmps92
  go_upto_region 3 with fail
  go_cut [3] (fun s W => s = .bool (nOk0 d) ∧ Below w.heap.size w W ∧ W.heap[w.heap.size]? = some (.cells (nodeC d (.slice o1 m1 c1) (.slice p1 n1 q1)) 111 (0, 0)))
  case first => as_aux_lemma =>
    have NB := Lib.hid (new_block w (.cells (nodeC d (.slice o1 m1 c1) (.slice p1 n1 q1)) 111))
    have HB0 := Lib.hid ((Below.refl w.heap.size w).alloc (Nat.le_refl _) (.cells (nodeC d (.slice o1 m1 c1) (.slice p1 n1 q1)) 111))
    have NM := name_any d.name (w.alloc (.cells (nodeC d (.slice o1 m1 c1) (.slice p1 n1 q1)) 111)) (HG.out.below HB0.out) e1
    have EV := fun (W : World) (hB : Below w.heap.size w W) => event_any d.kind d.event W (HG.out.below hB) e2
    obtain ⟨s1, h1n⟩ : ∃ s, isName d.name = s := ⟨_, rfl⟩
    obtain ⟨s2, h2n⟩ : ∃ s, evB d.kind d.event = s := ⟨_, rfl⟩
    rw [h1n] at NM
    simp only [h2n] at EV
    have NM := Lib.hid NM
    have EV := Lib.hid EV
    have H1 := Lib.hid h1n
    have H2 := Lib.hid h2n
    clear h1n h2n
    cases s1
    · go_wp2_with (go_at_call 90; refine NM.out.mono ?_; rintro e W1 ⟨rfl, hb⟩)
      go_meet
      exact ⟨by simp [nOk0, H1.out], below_step HB0.out hb, by rw [hb.block _ (by simp)]; exact NB.out⟩
    · by_cases hin : -1 ≤ d.inn
      · go_wp2_with (first | (go_at_call 90; refine NM.out.mono ?_; rintro e W1 ⟨rfl, hb⟩; have HB := Lib.hid hb; obtain ⟨hc, hf⟩ := bcell hb; clear hb hf) | (go_at_call 110; refine (EV.out _ (below_step HB0.out HB.out)).mono ?_; rintro e W2 ⟨rfl, rfl⟩))
        go_meet
        exact ⟨by simp [nOk0, H1.out, H2.out, hin], below_step HB0.out HB.out, by rw [HB.out.block _ (by simp)]; exact NB.out⟩
      · have hin' : d.inn < -1 := by omega
        go_wp2_with (go_at_call 90; refine NM.out.mono ?_; rintro e W1 ⟨rfl, hb⟩; have HB := Lib.hid hb; obtain ⟨hc, hf⟩ := bcell hb; clear hb hf)
        go_meet
        exact ⟨by simp [nOk0, H1.out]; intro h; omega, below_step HB0.out HB.out, by rw [HB.out.block _ (by simp)]; exact NB.out⟩
  case rest =>
    obtain ⟨rfl, hB, hN⟩ := hcut
    obtain ⟨W0, rfl⟩ : ∃ W : World, W = wc := ⟨_, rfl⟩
    have y0 : W0.cell? ⟨w.heap.size, 0, none⟩ = some (.string d.name) := by rw [cell_of_row W0 _ 0 _ _ (0, 0) hN]; rfl
    have y1 : W0.cell? ⟨w.heap.size, 1, none⟩ = some (.int .u8 d.kind) := by rw [cell_of_row W0 _ 1 _ _ (0, 0) hN]; rfl
    have y2 : W0.cell? ⟨w.heap.size, 2, none⟩ = some (.int .i64 d.inn) := by rw [cell_of_row W0 _ 2 _ _ (0, 0) hN]; rfl
    have y3 : W0.cell? ⟨w.heap.size, 3, none⟩ = some (.int .i64 d.on) := by rw [cell_of_row W0 _ 3 _ _ (0, 0) hN]; rfl
    have y4 : W0.cell? ⟨w.heap.size, 4, none⟩ = some (.int .u8 d.event) := by rw [cell_of_row W0 _ 4 _ _ (0, 0) hN]; rfl
    have y5 : W0.cell? ⟨w.heap.size, 5, none⟩ = some (.string d.key) := by rw [cell_of_row W0 _ 5 _ _ (0, 0) hN]; rfl
    have y6 : W0.cell? ⟨w.heap.size, 6, none⟩ = some (.string d.text) := by rw [cell_of_row W0 _ 6 _ _ (0, 0) hN]; rfl
    have y7 : W0.cell? ⟨w.heap.size, 7, none⟩ = some (.string d.set) := by rw [cell_of_row W0 _ 7 _ _ (0, 0) hN]; rfl
    have y8 : W0.cell? ⟨w.heap.size, 8, none⟩ = some (.bool d.breaks) := by rw [cell_of_row W0 _ 8 _ _ (0, 0) hN]; rfl
    have y9 : W0.cell? ⟨w.heap.size, 9, none⟩ = some (.slice o1 m1 c1) := by rw [cell_of_row W0 _ 9 _ _ (0, 0) hN]; rfl
    have y10 : W0.cell? ⟨w.heap.size, 10, none⟩ = some (.slice p1 n1 q1) := by rw [cell_of_row W0 _ 10 _ _ (0, 0) hN]; rfl
    have HB := Lib.hid hB
    have HN := Lib.hid hN
    clear hB hN
    have hl : w.heap.size < W0.heap.size := (Array.getElem?_eq_some_iff.1 HN.out).1
    go_upto_region 5 with (go_at_call 111; refine (bare_any d _ _ _ _ _ _ W0).mono ?_; rintro e W1 ⟨rfl, hb⟩; have HB1 := Lib.hid hb; obtain ⟨hc, hf⟩ := bcell hb; clear hb hf)
    go_cut [5] (fun s W => ∃ H, s = pt H ∧ NS w d (.slice o1 m1 c1) (.slice p1 n1 q1) W1.heap.size H (nH d) (restC d.on d.key d.text d.set d.breaks (.slice o1 m1 c1) (.slice p1 n1 q1)) W)
    case first => as_aux_lemma =>
      have hz := HB1.out.size
      have z1 : W1.cell? ⟨w.heap.size, 1, none⟩ = some (.int .u8 d.kind) := by rw [hc _ _ hl]; exact y1
      have z2 : ∀ o, (W1.alloc o).cell? ⟨w.heap.size, 1, none⟩ = some (.int .u8 d.kind) := fun o => by rw [World.cell?_alloc_some _ _ _ (by rw [z1]; rfl)]; exact z1
      clear hc
      have FIN : Hid (∀ b : Bool, NS w d (.slice o1 m1 c1) (.slice p1 n1 q1) W1.heap.size (W1.heap.size + 1) b (restC d.on d.key d.text d.set d.breaks (.slice o1 m1 c1) (.slice p1 n1 q1)) ((W1.alloc (.cells (restC d.on d.key d.text d.set d.breaks (.slice o1 m1 c1) (.slice p1 n1 q1)) 111)).alloc (.cells #[.bool b] 4))) := Lib.hid (fun b => by
        refine ⟨((below_step HB.out HB1.out).alloc (by omega) _).alloc (by simp; omega) _, by omega, by omega, by omega, ?_, ?_, ?_⟩
        · rw [Below.heap_alloc _ _ _ (by simp; omega), Below.heap_alloc _ _ _ (by omega), HB1.out.block _ hl]; exact HN.out
        · rw [Below.heap_alloc _ _ _ (by simp)]; exact new_block _ _
        · have := new_block (W1.alloc (.cells (restC d.on d.key d.text d.set d.breaks (.slice o1 m1 c1) (.slice p1 n1 q1)) 111)) (.cells #[.bool b] 4)
          simpa using this)
      by_cases a0 : d.kind = 1
      · have qa0 : ((d.kind : Int) == 1) = true := b8 a0
        go_wp2_with fail
        go_meet
        exact ⟨_, rfl, by rw [show nH d = true by simp [nH, a0]]; exact FIN.out true⟩
      · have qa0 : ((d.kind : Int) == 1) = false := b8n a0
        by_cases a1 : d.kind = 15
        · have qa1 : ((d.kind : Int) == 15) = true := b8 a1
          go_wp2_with fail
          go_meet
          exact ⟨_, rfl, by rw [show nH d = true by simp [nH, a1]]; exact FIN.out true⟩
        · have qa1 : ((d.kind : Int) == 15) = false := b8n a1
          go_wp2_with fail
          go_meet
          exact ⟨_, rfl, by rw [show nH d = false by simp [nH, a0, a1]]; exact FIN.out false⟩
    case rest =>
      obtain ⟨H, rfl, hNS⟩ := hcut
      obtain ⟨R, hR⟩ : ∃ R, W1.heap.size = R := ⟨_, rfl⟩
      rw [hR] at hNS ⊢
      clear hR y0 y1 y2 y3 y4 y5 y6 y7 y8 y9 y10 HB HN HB1 hc hl
      obtain ⟨V1, rfl⟩ : ∃ W : World, W = wc := ⟨_, rfl⟩
      have hk := hNS.kind
      have he := hNS.event
      have HNS := Lib.hid hNS
      clear hNS
      go_upto_region 6 with fail
      go_cut [59] (fun s W => s = .bool (nC1 d) ∧ V1 = W)
      case first => as_aux_lemma =>
        by_cases a0 : d.kind = 14
        · have qa0 : ((d.kind : Int) == 14) = true := b8 a0
          go_wp2_with fail
          go_meet
          exact ⟨by simp [nC1, a0], rfl⟩
        · have qa0 : ((d.kind : Int) == 14) = false := b8n a0
          by_cases a1 : d.event = 1
          · have qa1 : ((d.event : Int) == 1) = true := b8 a1
            go_wp2_with fail
            go_meet
            exact ⟨by simp [nC1, a1], rfl⟩
          · have qa1 : ((d.event : Int) == 1) = false := b8n a1
            by_cases a2 : d.event = 6
            · have qa2 : ((d.event : Int) == 6) = true := b8 a2
              go_wp2_with fail
              go_meet
              exact ⟨by simp [nC1, a2], rfl⟩
            · have qa2 : ((d.event : Int) == 6) = false := b8n a2
              go_wp2_with fail
              go_meet
              exact ⟨by simp [nC1, a0, a1, a2], rfl⟩
      case rest =>
        obtain ⟨rfl, rfl⟩ := hcut
        go_upto_if 59 with fail
        go_cut [3, 59] (fun s _ W => s = .bool (nOk1 d) ∧ NS w d (.slice o1 m1 c1) (.slice p1 n1 q1) R H (nH d) (restC d.on (k1 d) d.text d.set d.breaks (.slice o1 m1 c1) (.slice p1 n1 q1)) W)
        case first => as_aux_lemma =>
          cases hc : nC1 d
          · go_wp2_with fail
            go_meet
            exact ⟨by simp [nOk1, hc], by simp only [k1, hc, cond]; exact HNS.out⟩
          · skip
            have PC := part_name R 5 d.key (isName d.key) #[] V1 HNS.out.ltR (by rw [HNS.out.c]; rfl) (HNS.out.fz 5) (name_any d.key V1 (HG.out.below HNS.out.be) e8) rfl
            obtain ⟨b, hb⟩ : ∃ b, isName d.key = b := ⟨_, rfl⟩
            rw [hb] at PC
            have HBB := Lib.hid hb
            have PC := Lib.hid PC
            clear hb
            cases b
            · go_wp2_with (go_at_call 112; refine PC.out.mono ?_; rintro e W2 hP; have HS2 := Lib.hid (HNS.out.put hP); obtain ⟨rfl, -⟩ := hP)
              go_meet
              exact ⟨by simp [nOk1, HBB.out, hc], by simp only [k1, hc, cond]; exact HS2.out⟩
            · go_wp2_with (go_at_call 112; refine PC.out.mono ?_; rintro e W2 hP; have HS2 := Lib.hid (HNS.out.put hP); obtain ⟨rfl, -⟩ := hP)
              go_meet
              exact ⟨by simp [nOk1, HBB.out, hc], by simp only [k1, hc, cond]; exact HS2.out⟩
        case rest =>
          obtain ⟨rfl, hNS⟩ := hcut
          clear HNS hk he
          obtain ⟨V2, rfl⟩ : ∃ W : World, W = wc := ⟨_, rfl⟩
          have hk := hNS.kind
          have he := hNS.event
          have HNS := Lib.hid hNS
          clear hNS
          go_upto_region 8 with fail
          go_cut [72] (fun s W => s = .bool (nC2 d) ∧ V2 = W)
          case first => as_aux_lemma =>
            by_cases a0 : d.event = 4
            · have qa0 : ((d.event : Int) == 4) = true := b8 a0
              go_wp2_with fail
              go_meet
              exact ⟨by simp [nC2, a0], rfl⟩
            · have qa0 : ((d.event : Int) == 4) = false := b8n a0
              by_cases a1 : d.event = 5
              · have qa1 : ((d.event : Int) == 5) = true := b8 a1
                go_wp2_with fail
                go_meet
                exact ⟨by simp [nC2, a1], rfl⟩
              · have qa1 : ((d.event : Int) == 5) = false := b8n a1
                go_wp2_with fail
                go_meet
                exact ⟨by simp [nC2, a0, a1], rfl⟩
          case rest =>
            obtain ⟨rfl, rfl⟩ := hcut
            go_upto_if 72 with fail
            go_cut [3, 72] (fun s _ W => s = .bool (nOk2 d) ∧ NS w d (.slice o1 m1 c1) (.slice p1 n1 q1) R H (nH d) (restC d.on (k2 d) d.text d.set d.breaks (.slice o1 m1 c1) (.slice p1 n1 q1)) W)
            case first => as_aux_lemma =>
              cases hc : nC2 d
              · go_wp2_with fail
                go_meet
                exact ⟨by simp [nOk2, hc], by simp only [k2, hc, cond]; exact HNS.out⟩
              · skip
                have PC := part_keyh R 5 (k1 d) H (pKeyH (nH d) (k1 d)) #[pt H] V2 HNS.out.ltR (by rw [HNS.out.c]; rfl) (HNS.out.fz 5) (node1_any (k1 d) H (nH d) V2 (HG.out.below HNS.out.be) (k1_le HD.out) HNS.out.ltH HNS.out.hc) rfl
                obtain ⟨b, hb⟩ : ∃ b, pKeyH (nH d) (k1 d) = b := ⟨_, rfl⟩
                rw [hb] at PC
                have HBB := Lib.hid hb
                have PC := Lib.hid PC
                clear hb
                cases b
                · go_wp2_with (go_at_call 112; refine PC.out.mono ?_; rintro e W2 hP; have HS2 := Lib.hid (HNS.out.put hP); obtain ⟨rfl, -⟩ := hP)
                  go_meet
                  exact ⟨by simp [nOk2, HBB.out, hc], by simp only [k2, hc, cond]; exact HS2.out⟩
                · go_wp2_with (go_at_call 112; refine PC.out.mono ?_; rintro e W2 hP; have HS2 := Lib.hid (HNS.out.put hP); obtain ⟨rfl, -⟩ := hP)
                  go_meet
                  exact ⟨by simp [nOk2, HBB.out, hc], by simp only [k2, hc, cond]; exact HS2.out⟩
            case rest =>
              obtain ⟨rfl, hNS⟩ := hcut
              clear HNS hk he
              obtain ⟨V3, rfl⟩ : ∃ W : World, W = wc := ⟨_, rfl⟩
              have hk := hNS.kind
              have he := hNS.event
              have HNS := Lib.hid hNS
              clear hNS
              go_upto_region 10 with fail
              go_cut [96] (fun s W => s = .bool (nC3 d) ∧ V3 = W)
              case first => as_aux_lemma =>
                by_cases a0 : d.kind = 4
                · have qa0 : ((d.kind : Int) == 4) = true := b8 a0
                  go_wp2_with fail
                  go_meet
                  exact ⟨by simp [nC3, a0], rfl⟩
                · have qa0 : ((d.kind : Int) == 4) = false := b8n a0
                  by_cases a1 : d.kind = 12
                  · have qa1 : ((d.kind : Int) == 12) = true := b8 a1
                    go_wp2_with fail
                    go_meet
                    exact ⟨by simp [nC3, a1], rfl⟩
                  · have qa1 : ((d.kind : Int) == 12) = false := b8n a1
                    by_cases a2 : d.event = 2
                    · have qa2 : ((d.event : Int) == 2) = true := b8 a2
                      go_wp2_with fail
                      go_meet
                      exact ⟨by simp [nC3, a2], rfl⟩
                    · have qa2 : ((d.event : Int) == 2) = false := b8n a2
                      by_cases a3 : d.event = 3
                      · have qa3 : ((d.event : Int) == 3) = true := b8 a3
                        go_wp2_with fail
                        go_meet
                        exact ⟨by simp [nC3, a3], rfl⟩
                      · have qa3 : ((d.event : Int) == 3) = false := b8n a3
                        go_wp2_with fail
                        go_meet
                        exact ⟨by simp [nC3, a0, a1, a2, a3], rfl⟩
              case rest =>
                obtain ⟨rfl, rfl⟩ := hcut
                go_upto_if 96 with fail
                go_cut [3, 96] (fun s _ W => s = .bool (nOk3 d) ∧ NS w d (.slice o1 m1 c1) (.slice p1 n1 q1) R H (nH d) (restC d.on (k2 d) (t3 d) d.set d.breaks (.slice o1 m1 c1) (.slice p1 n1 q1)) W)
                case first => as_aux_lemma =>
                  cases hc : nC3 d
                  · go_wp2_with fail
                    go_meet
                    exact ⟨by simp [nOk3, hc], by simp only [t3, hc, cond]; exact HNS.out⟩
                  · skip
                    have PC := part_text R 6 d.text (pText d.text) #[] V3 HNS.out.ltR (by rw [HNS.out.c]; rfl) (HNS.out.fz 6) (node2_any d.text V3) rfl
                    obtain ⟨b, hb⟩ : ∃ b, pText d.text = b := ⟨_, rfl⟩
                    rw [hb] at PC
                    have HBB := Lib.hid hb
                    have PC := Lib.hid PC
                    clear hb
                    cases b
                    · go_wp2_with (go_at_call 112; refine PC.out.mono ?_; rintro e W2 hP; have HS2 := Lib.hid (HNS.out.put hP); obtain ⟨rfl, -⟩ := hP)
                      go_meet
                      exact ⟨by simp [nOk3, HBB.out, hc], by simp only [t3, hc, cond]; exact HS2.out⟩
                    · go_wp2_with (go_at_call 112; refine PC.out.mono ?_; rintro e W2 hP; have HS2 := Lib.hid (HNS.out.put hP); obtain ⟨rfl, -⟩ := hP)
                      go_meet
                      exact ⟨by simp [nOk3, HBB.out, hc], by simp only [t3, hc, cond]; exact HS2.out⟩
                case rest =>
                  obtain ⟨rfl, hNS⟩ := hcut
                  clear HNS hk he
                  obtain ⟨V4, rfl⟩ : ∃ W : World, W = wc := ⟨_, rfl⟩
                  have hk := hNS.kind
                  have he := hNS.event
                  have HNS := Lib.hid hNS
                  clear hNS
                  go_upto_region 12 with fail
                  go_cut [104] (fun s W => s = .bool (nC4 d) ∧ V4 = W)
                  case first => as_aux_lemma =>
                    by_cases a0 : d.kind = 4
                    · have qa0 : ((d.kind : Int) == 4) = true := b8 a0
                      go_wp2_with fail
                      go_meet
                      exact ⟨by simp [nC4, a0], rfl⟩
                    · have qa0 : ((d.kind : Int) == 4) = false := b8n a0
                      go_wp2_with fail
                      go_meet
                      exact ⟨by simp [nC4, a0], rfl⟩
                  case rest =>
                    obtain ⟨rfl, rfl⟩ := hcut
                    go_upto_if 104 with fail
                    go_cut [3, 104] (fun s _ W => s = .bool (nOk4 d) ∧ NS w d (.slice o1 m1 c1) (.slice p1 n1 q1) R H (nH d) (restC d.on (k2 d) (t3 d) (s4 d) d.breaks (.slice o1 m1 c1) (.slice p1 n1 q1)) W)
                    case first => as_aux_lemma =>
                      cases hc : nC4 d
                      · go_wp2_with fail
                        go_meet
                        exact ⟨by simp [nOk4, hc], by simp only [s4, hc, cond]; exact HNS.out⟩
                      · skip
                        have PC := part_name R 7 d.set (isName d.set) #[] V4 HNS.out.ltR (by rw [HNS.out.c]; rfl) (HNS.out.fz 7) (name_any d.set V4 (HG.out.below HNS.out.be) e10) rfl
                        obtain ⟨b, hb⟩ : ∃ b, isName d.set = b := ⟨_, rfl⟩
                        rw [hb] at PC
                        have HBB := Lib.hid hb
                        have PC := Lib.hid PC
                        clear hb
                        cases b
                        · go_wp2_with (go_at_call 112; refine PC.out.mono ?_; rintro e W2 hP; have HS2 := Lib.hid (HNS.out.put hP); obtain ⟨rfl, -⟩ := hP)
                          go_meet
                          exact ⟨by simp [nOk4, HBB.out, hc], by simp only [s4, hc, cond]; exact HS2.out⟩
                        · go_wp2_with (go_at_call 112; refine PC.out.mono ?_; rintro e W2 hP; have HS2 := Lib.hid (HNS.out.put hP); obtain ⟨rfl, -⟩ := hP)
                          go_meet
                          exact ⟨by simp [nOk4, HBB.out, hc], by simp only [s4, hc, cond]; exact HS2.out⟩
                    case rest =>
                      obtain ⟨rfl, hNS⟩ := hcut
                      clear HNS hk he
                      obtain ⟨V5, rfl⟩ : ∃ W : World, W = wc := ⟨_, rfl⟩
                      have hk := hNS.kind
                      have he := hNS.event
                      have HNS := Lib.hid hNS
                      clear hNS
                      go_upto_region 14 with fail
                      go_cut [3] (fun s W => s = .bool (nOk5 d) ∧ NS w d (.slice o1 m1 c1) (.slice p1 n1 q1) R H (nH d) (restC 0 (k2 d) (t3 d) (s4 d) d.breaks (.slice o1 m1 c1) (.slice p1 n1 q1)) W)
                      case first => as_aux_lemma =>
                        have PC := part_on R 3 d.on w.heap.size (pOn d.on d.kind) #[pt w.heap.size] V5 HNS.out.ltR (by rw [HNS.out.c]; rfl) (HNS.out.fz 3) (node3_any d.on w.heap.size d.kind V5 HNS.out.kind) rfl
                        obtain ⟨b, hb⟩ : ∃ b, pOn d.on d.kind = b := ⟨_, rfl⟩
                        rw [hb] at PC
                        have HBB := Lib.hid hb
                        have PC := Lib.hid PC
                        clear hb
                        cases b
                        · go_wp2_with (go_at_call 115; refine PC.out.mono ?_; rintro e W2 hP; have HS2 := Lib.hid (HNS.out.put hP); obtain ⟨rfl, -⟩ := hP)
                          go_meet
                          exact ⟨by simp [nOk5, HBB.out], by exact HS2.out⟩
                        · go_wp2_with (go_at_call 115; refine PC.out.mono ?_; rintro e W2 hP; have HS2 := Lib.hid (HNS.out.put hP); obtain ⟨rfl, -⟩ := hP)
                          go_meet
                          exact ⟨by simp [nOk5, HBB.out], by exact HS2.out⟩
                      case rest =>
                        obtain ⟨rfl, hNS⟩ := hcut
                        clear HNS hk he
                        obtain ⟨V6, rfl⟩ : ∃ W : World, W = wc := ⟨_, rfl⟩
                        have hk := hNS.kind
                        have he := hNS.event
                        have HNS := Lib.hid hNS
                        clear hNS
                        go_upto_region 15 with fail
                        go_cut [133] (fun s W => s = .bool (nC6 d) ∧ V6 = W)
                        case first => as_aux_lemma =>
                          by_cases a0 : d.kind = 12
                          · have qa0 : ((d.kind : Int) == 12) = true := b8 a0
                            go_wp2_with fail
                            go_meet
                            exact ⟨by simp [nC6, a0], rfl⟩
                          · have qa0 : ((d.kind : Int) == 12) = false := b8n a0
                            by_cases a1 : d.kind = 15
                            · have qa1 : ((d.kind : Int) == 15) = true := b8 a1
                              go_wp2_with fail
                              go_meet
                              exact ⟨by simp [nC6, a1], rfl⟩
                            · have qa1 : ((d.kind : Int) == 15) = false := b8n a1
                              by_cases a2 : d.kind = 1
                              · have qa2 : ((d.kind : Int) == 1) = true := b8 a2
                                by_cases a3 : d.event = 0
                                · have qa3 : ((d.event : Int) != 0) = false := b9 a3
                                  go_wp2_with fail
                                  go_meet
                                  exact ⟨by simp [nC6, a2, a3], rfl⟩
                                · have qa3 : ((d.event : Int) != 0) = true := b9n a3
                                  go_wp2_with fail
                                  go_meet
                                  exact ⟨by simp [nC6, a2, a3], rfl⟩
                              · have qa2 : ((d.kind : Int) == 1) = false := b8n a2
                                go_wp2_with fail
                                go_meet
                                exact ⟨by simp [nC6, a0, a1, a2], rfl⟩
                        case rest =>
                          obtain ⟨rfl, rfl⟩ := hcut
                          go_upto_if 133 with fail
                          go_cut [3, 133] (fun s _ W => s = .bool (nOk6 d) ∧ NS w d (.slice o1 m1 c1) (.slice p1 n1 q1) R H (nH d) (restC 0 (k2 d) (t3 d) (s4 d) (b6 d) (.slice o1 m1 c1) (.slice p1 n1 q1)) W)
                          case first => as_aux_lemma =>
                            cases hc : nC6 d
                            · go_wp2_with fail
                              go_meet
                              exact ⟨by simp [nOk6, hc], by simp only [b6, hc, cond]; exact HNS.out⟩
                            · skip
                              have PC := part_br R 8 d.breaks w.heap.size (pBr d.breaks d.kind d.event) #[pt w.heap.size] V6 HNS.out.ltR (by rw [HNS.out.c]; rfl) (HNS.out.fz 8) (node4_any d.breaks w.heap.size d.kind d.event V6 HNS.out.kind HNS.out.event) rfl
                              obtain ⟨b, hb⟩ : ∃ b, pBr d.breaks d.kind d.event = b := ⟨_, rfl⟩
                              rw [hb] at PC
                              have HBB := Lib.hid hb
                              have PC := Lib.hid PC
                              clear hb
                              cases b
                              · go_wp2_with (go_at_call 117; refine PC.out.mono ?_; rintro e W2 hP; have HS2 := Lib.hid (HNS.out.put hP); obtain ⟨rfl, -⟩ := hP)
                                go_meet
                                exact ⟨by simp [nOk6, HBB.out, hc], by simp only [b6, hc, cond]; exact HS2.out⟩
                              · go_wp2_with (go_at_call 117; refine PC.out.mono ?_; rintro e W2 hP; have HS2 := Lib.hid (HNS.out.put hP); obtain ⟨rfl, -⟩ := hP)
                                go_meet
                                exact ⟨by simp [nOk6, HBB.out, hc], by simp only [b6, hc, cond]; exact HS2.out⟩
                          case rest =>
                            obtain ⟨rfl, hNS⟩ := hcut
                            clear HNS hk he
                            obtain ⟨V7, rfl⟩ : ∃ W : World, W = wc := ⟨_, rfl⟩
                            have hk := hNS.kind
                            have he := hNS.event
                            have HNS := Lib.hid hNS
                            clear hNS
                            have SC := Lib.hid (scope_any d.kind V7)
                            go_upto_region 17 with fail
                            go_cut [142] (fun s W => s = .bool (scopeB d.kind) ∧ NS w d (.slice o1 m1 c1) (.slice p1 n1 q1) R H (nH d) (restC 0 (k2 d) (t3 d) (s4 d) (b6 d) (.slice o1 m1 c1) (.slice p1 n1 q1)) W)
                            case first => as_aux_lemma =>
                              go_wp2_with (go_at_call 119; refine SC.out.mono ?_; rintro e W2 ⟨rfl, hb⟩; have HS2 := Lib.hid (HNS.out.keep hb); clear hb)
                              go_meet
                              exact ⟨rfl, HS2.out⟩
                            case rest =>
                              obtain ⟨rfl, hNS⟩ := hcut
                              clear HNS hk he SC
                              obtain ⟨V8, rfl⟩ : ∃ W : World, W = wc := ⟨_, rfl⟩
                              have hk := hNS.kind
                              have he := hNS.event
                              have HNS := Lib.hid hNS
                              clear hNS
                              go_upto_if 142 with fail
                              go_cut [3, 142] (fun s _ W => s = .bool (nOk7 d m1 f1) ∧ NS w d (.slice o1 m1 c1) (.slice p1 n1 q1) R H (nH d) (restC 0 (k2 d) (t3 d) (s4 d) (b6 d) (nVs d o1 m1 c1) (.slice p1 n1 q1)) W)
                              case first => as_aux_lemma =>
                                cases hc : scopeB d.kind
                                · go_wp2_with fail
                                  go_meet
                                  exact ⟨by simp [nOk7, hc], by simp only [nVs, hc, cond]; exact HNS.out⟩
                                · skip
                                  have PC := part_vars R 9 o1 m1 c1 (decide (varsE m1 f1 = 0)) #[] V8 HNS.out.ltR (by rw [HNS.out.c]; rfl) (HNS.out.fz 9) (node5_any o1 m1 c1 f1 V8 (HG.out.below HNS.out.be) (HV.out.below HNS.out.be) HF.out hm hcm) rfl
                                  obtain ⟨b, hb⟩ : ∃ b, decide (varsE m1 f1 = 0) = b := ⟨_, rfl⟩
                                  rw [hb] at PC
                                  have HBB := Lib.hid hb
                                  have PC := Lib.hid PC
                                  clear hb
                                  cases b
                                  · go_wp2_with (go_at_call 120; refine PC.out.mono ?_; rintro e W2 hP; have HS2 := Lib.hid (HNS.out.put hP); obtain ⟨rfl, -⟩ := hP)
                                    go_meet
                                    exact ⟨by simp [nOk7, HBB.out, hc], by simp only [nVs, hc, cond]; exact HS2.out⟩
                                  · go_wp2_with (go_at_call 120; refine PC.out.mono ?_; rintro e W2 hP; have HS2 := Lib.hid (HNS.out.put hP); obtain ⟨rfl, -⟩ := hP)
                                    go_meet
                                    exact ⟨by simp [nOk7, HBB.out, hc], by simp only [nVs, hc, cond]; exact HS2.out⟩
                              case rest =>
                                obtain ⟨rfl, hNS⟩ := hcut
                                clear HNS hk he
                                obtain ⟨V9, rfl⟩ : ∃ W : World, W = wc := ⟨_, rfl⟩
                                have hk := hNS.kind
                                have he := hNS.event
                                have HNS := Lib.hid hNS
                                clear hNS
                                go_upto_region 19 with fail
                                go_cut [150] (fun s W => s = .bool (nC8 d) ∧ V9 = W)
                                case first => as_aux_lemma =>
                                  by_cases a0 : d.kind = 14
                                  · have qa0 : ((d.kind : Int) == 14) = true := b8 a0
                                    go_wp2_with fail
                                    go_meet
                                    exact ⟨by simp [nC8, a0], rfl⟩
                                  · have qa0 : ((d.kind : Int) == 14) = false := b8n a0
                                    go_wp2_with fail
                                    go_meet
                                    exact ⟨by simp [nC8, a0], rfl⟩
                                case rest =>
                                  obtain ⟨rfl, rfl⟩ := hcut
                                  go_upto_if 150 with fail
                                  go_cut [3, 150] (fun s _ W => s = .bool (nOk8 d m1 f1 n1 g1) ∧ NS w d (.slice o1 m1 c1) (.slice p1 n1 q1) R H (nH d) (restC 0 (k2 d) (t3 d) (s4 d) (b6 d) (nVs d o1 m1 c1) (nBs d p1 n1 q1)) W)
                                  case first => as_aux_lemma =>
                                    cases hc : nC8 d
                                    · go_wp2_with fail
                                      go_meet
                                      exact ⟨by simp [nOk8, hc], by simp only [nBs, hc, cond]; exact HNS.out⟩
                                    · skip
                                      have PC := part_back R 10 p1 n1 q1 (unlikeS g1 0 n1) #[] V9 HNS.out.ltR (by rw [HNS.out.c]; rfl) (HNS.out.fz 10) (node6_any p1 n1 q1 g1 V9 (HG.out.below HNS.out.be) (HS.out.below HNS.out.be) HGG.out hn hcn) rfl
                                      obtain ⟨b, hb⟩ : ∃ b, unlikeS g1 0 n1 = b := ⟨_, rfl⟩
                                      rw [hb] at PC
                                      have HBB := Lib.hid hb
                                      have PC := Lib.hid PC
                                      clear hb
                                      cases b
                                      · go_wp2_with (go_at_call 122; refine PC.out.mono ?_; rintro e W2 hP; have HS2 := Lib.hid (HNS.out.put hP); obtain ⟨rfl, -⟩ := hP)
                                        go_meet
                                        exact ⟨by simp [nOk8, HBB.out, hc], by simp only [nBs, hc, cond]; exact HS2.out⟩
                                      · go_wp2_with (go_at_call 122; refine PC.out.mono ?_; rintro e W2 hP; have HS2 := Lib.hid (HNS.out.put hP); obtain ⟨rfl, -⟩ := hP)
                                        go_meet
                                        exact ⟨by simp [nOk8, HBB.out, hc], by simp only [nBs, hc, cond]; exact HS2.out⟩
                                  case rest =>
                                    obtain ⟨rfl, hNS⟩ := hcut
                                    clear HNS hk he
                                    obtain ⟨V10, rfl⟩ : ∃ W : World, W = wc := ⟨_, rfl⟩
                                    have hk := hNS.kind
                                    have he := hNS.event
                                    have HNS := Lib.hid hNS
                                    clear hNS
                                    have x0 : V10.cell? ⟨R, 0, none⟩ = some (.string ⟨#[]⟩) := by rw [HNS.out.c]; rfl
                                    have x1 : V10.cell? ⟨R, 1, none⟩ = some (.int .u8 0) := by rw [HNS.out.c]; rfl
                                    have x2 : V10.cell? ⟨R, 2, none⟩ = some (.int .i64 0) := by rw [HNS.out.c]; rfl
                                    have x3 : V10.cell? ⟨R, 3, none⟩ = some (.int .i64 0) := by rw [HNS.out.c]; rfl
                                    have x4 : V10.cell? ⟨R, 4, none⟩ = some (.int .u8 0) := by rw [HNS.out.c]; rfl
                                    have x5 : V10.cell? ⟨R, 5, none⟩ = some (.string (k2 d)) := by rw [HNS.out.c]; rfl
                                    have x6 : V10.cell? ⟨R, 6, none⟩ = some (.string (t3 d)) := by rw [HNS.out.c]; rfl
                                    have x7 : V10.cell? ⟨R, 7, none⟩ = some (.string (s4 d)) := by rw [HNS.out.c]; rfl
                                    have x8 : V10.cell? ⟨R, 8, none⟩ = some (.bool (b6 d)) := by rw [HNS.out.c]; rfl
                                    have x9 : V10.cell? ⟨R, 9, none⟩ = some (nVs d o1 m1 c1) := by rw [HNS.out.c]; rfl
                                    have x10 : V10.cell? ⟨R, 10, none⟩ = some (nBs d p1 n1 q1) := by rw [HNS.out.c]; rfl
                                    obtain ⟨o', m', c', hVs, hm', hV'⟩ : ∃ o' m' c', nVs d o1 m1 c1 = .slice o' m' c' ∧ m' = cond (scopeB d.kind) 0 m1 ∧ Vr w o' m' f1 := by
                                      unfold nVs
                                      cases scopeB d.kind
                                      · exact ⟨o1, m1, c1, rfl, rfl, HV.out⟩
                                      · exact ⟨none, 0, 0, rfl, rfl, fun k hk => absurd hk (by omega)⟩
                                    obtain ⟨p', n', q', hBs, hn', hS'⟩ : ∃ o' m' c', nBs d p1 n1 q1 = .slice o' m' c' ∧ m' = cond (nC8 d) 0 n1 ∧ Ss w o' m' g1 := by
                                      unfold nBs
                                      cases nC8 d
                                      · exact ⟨p1, n1, q1, rfl, rfl, HS.out⟩
                                      · exact ⟨none, 0, 0, rfl, rfl, fun k hk => absurd hk (by omega)⟩
                                    rw [hVs] at x9
                                    rw [hBs] at x10
                                    have lm : m' ≤ 9223372036854775807 := by rw [hm']; cases scopeB d.kind <;> simp <;> omega
                                    have ln : n' ≤ 9223372036854775807 := by rw [hn']; cases nC8 d <;> simp <;> omega
                                    have SM : Calls Tryz.prog 126 #[.agg (restC 0 (k2 d) (t3 d) (s4 d) (b6 d) (.slice o' m' c') (.slice p' n' q')), .agg (restC 0 ⟨#[]⟩ ⟨#[]⟩ ⟨#[]⟩ false (.slice none 0 0) (.slice none 0 0))] V10 fun r w' => r = .returned (.bool (sameD (nRest d) nZero f1 f1 g1 g1 m' 0 n' 0)) ∧ Below V10.heap.size V10 w' :=
                                      same_any (nRest d) nZero o' none p' none m' c' 0 0 n' q' 0 0 f1 f1 g1 g1 V10 (hV'.below HNS.out.be) (fun k hk => absurd hk (by omega)) (hS'.below HNS.out.be) (fun k hk => absurd hk (by omega)) lm (by decide) ln (by decide)
                                    have BE := Lib.hid HNS.out.be
                                    obtain ⟨sm, hsm⟩ : ∃ s, sameD (nRest d) nZero f1 f1 g1 g1 m' 0 n' 0 = s := ⟨_, rfl⟩
                                    rw [hsm] at SM
                                    have SM := Lib.hid SM
                                    rw [hm', hn'] at hsm
                                    have HSM := Lib.hid hsm
                                    clear hVs hBs hm' hn' hV' hS' HNS hk he hsm
                                    cases hok : nOk8 d m1 f1 n1 g1
                                    · have HR := Lib.hid (nodeE_f h1 h2 h3 (by rw [hok]; rfl : (nOk8 d m1 f1 n1 g1 && sameD (nRest d) nZero f1 f1 g1 g1 (cond (scopeB d.kind) 0 m1) 0 (cond (nC8 d) 0 n1) 0) = false))
                                      clear hok
                                      go_wp2
                                      go_ret
                                      exact ⟨ret_int (by rw [HR.out]; rfl), BE.out⟩
                                    · cases sm
                                      · have HR := Lib.hid (nodeE_f h1 h2 h3 (by rw [hok, HSM.out]; rfl))
                                        clear hok
                                        go_wp2_with (go_at_call 126; refine SM.out.mono ?_; rintro e W2 ⟨rfl, hb⟩)
                                        go_ret
                                        exact ⟨ret_int (by rw [HR.out]; rfl), below_step BE.out hb⟩
                                      · have HR := Lib.hid (nodeE_t h1 h2 h3 (by rw [hok, HSM.out]; rfl))
                                        clear hok
                                        go_wp2_with (go_at_call 126; refine SM.out.mono ?_; rintro e W2 ⟨rfl, hb⟩)
                                        go_ret
                                        exact ⟨ret_int (by rw [HR.out]; rfl), below_step BE.out hb⟩
end Go.Proofs.YtjakdbahopbggaaGreatDoor
