/- What is written is told apart: numbers, texts, lists, and a process's bytes; whether two processes are the same (plain). Conditions: none. -/
import Derived.Test.YtjakdbahopbggaaGreatDoorZK25
namespace Go.Proofs.YtjakdbahopbggaaGreatDoor
open Go.RowKit Go.Ow Go.Wi

/-- what is written may be told apart from what comes behind it -/
def Pf {α : Type} (B : α → List UInt8) (P : α → Prop) : Prop := ∀ x y a b, P x → P y → B x ++ a = B y ++ b → x = y ∧ a = b
theorem pf_txt : Pf txt fun _ => True := by
  intro x y a b _ _ h
  unfold txt at h
  rw [List.append_assoc, List.append_assoc] at h
  obtain ⟨h1, h2⟩ := enc_parts _ _ _ _ h
  have hl : x.data.toList.length = y.data.toList.length := by simpa using h1
  obtain ⟨h3, h4⟩ := List.append_inj h2 hl
  exact ⟨eq_of_list h3, h4⟩
theorem pf_num : Pf numL fun n => numB n = true := by
  intro x y a b hx hy h
  unfold numL at h
  rw [if_pos hx, if_pos hy] at h
  obtain ⟨h1, h2⟩ := enc_parts _ _ _ _ h
  have := of_decide_eq_true hx
  have := of_decide_eq_true hy
  exact ⟨by omega, h2⟩
theorem numB_le2 {n : Nat} (h : n ≤ 1099511627776) : numB (n : Int) = true := decide_eq_true ⟨by omega, by omega⟩
theorem pf_var : Pf varB fun v => may v.k v.n v.t = true := by
  intro x y a b hx hy h
  unfold varB valL at h
  rw [if_pos hx, if_pos hy, List.append_assoc, List.append_assoc] at h
  obtain ⟨h1, h2⟩ := pf_txt _ _ _ _ trivial trivial h
  obtain ⟨h3, h4, h5, h6⟩ := encV_parts hx hy _ _ h2
  refine ⟨?_, h6⟩
  cases x; cases y
  cases h1; cases h3; cases h4; cases h5
  rfl
theorem pf_flat {α : Type} {B : α → List UInt8} {P : α → Prop} (h : Pf B P) : ∀ (l m : List α) (a b : List UInt8), l.length = m.length → (∀ x ∈ l, P x) → (∀ x ∈ m, P x) → l.flatMap B ++ a = m.flatMap B ++ b → l = m ∧ a = b
  | [], [], a, b, _, _, _, e => ⟨rfl, by simpa using e⟩
  | [], _ :: _, a, b, hl, _, _, _ => by simp at hl
  | _ :: _, [], a, b, hl, _, _, _ => by simp at hl
  | x :: l, y :: m, a, b, hl, hx, hy, e => by
    rw [List.flatMap_cons, List.flatMap_cons, List.append_assoc, List.append_assoc] at e
    obtain ⟨rfl, e2⟩ := h _ _ _ _ (hx _ List.mem_cons_self) (hy _ List.mem_cons_self) e
    obtain ⟨rfl, e3⟩ := pf_flat h l m a b (by simpa using hl) (fun z hz => hx z (List.mem_cons_of_mem _ hz)) (fun z hz => hy z (List.mem_cons_of_mem _ hz)) e2
    exact ⟨rfl, e3⟩
theorem pf_list {α : Type} {B : α → List UInt8} {P : α → Prop} (h : Pf B P) : Pf (lsB B) fun l => l.length ≤ 1099511627776 ∧ ∀ x ∈ l, P x := by
  intro l m a b hl hm e
  unfold lsB at e
  rw [List.append_assoc, List.append_assoc] at e
  obtain ⟨e1, e2⟩ := pf_num _ _ _ _ (numB_le2 hl.1) (numB_le2 hm.1) e
  exact pf_flat h l m a b (by omega) hl.2 hm.2 e2
theorem nums_ok {f : Nat → Int} : ∀ {n k : Nat}, numsW f k n = false → ∀ j, k ≤ j → j < k + n → numB (f j) = true
  | 0, k, _, j, h1, h2 => by omega
  | n + 1, k, h, j, h1, h2 => by
    rw [numsW, Bool.or_eq_false_iff] at h
    by_cases hj : j = k
    · subst hj; simpa using h.1
    · exact nums_ok h.2 j (by omega) (by omega)
theorem pf_nums4 {a1 a2 a3 a4 b1 b2 b3 b4 : Int} (ha : numsW (nAt [a1, a2, a3, a4]) 0 4 = false) (hb : numsW (nAt [b1, b2, b3, b4]) 0 4 = false) {a b : List UInt8} (h : nums (nAt [a1, a2, a3, a4]) 0 4 ++ a = nums (nAt [b1, b2, b3, b4]) 0 4 ++ b) : a1 = b1 ∧ a2 = b2 ∧ a3 = b3 ∧ a4 = b4 ∧ a = b := by
  have A := nums_ok ha
  have B := nums_ok hb
  have e : ∀ c1 c2 c3 c4 : Int, nums (nAt [c1, c2, c3, c4]) 0 4 = numL c1 ++ (numL c2 ++ (numL c3 ++ (numL c4 ++ []))) := fun _ _ _ _ => rfl
  rw [e, e] at h
  simp only [List.append_assoc] at h
  obtain ⟨h1, h⟩ := pf_num _ _ _ _ (A 0 (by omega) (by omega)) (B 0 (by omega) (by omega)) h
  obtain ⟨h2, h⟩ := pf_num _ _ _ _ (A 1 (by omega) (by omega)) (B 1 (by omega) (by omega)) h
  obtain ⟨h3, h⟩ := pf_num _ _ _ _ (A 2 (by omega) (by omega)) (B 2 (by omega) (by omega)) h
  obtain ⟨h4, h⟩ := pf_num _ _ _ _ (A 3 (by omega) (by omega)) (B 3 (by omega) (by omega)) h
  exact ⟨h1, h2, h3, h4, by simpa using h⟩
theorem pf_nums2 {a1 a2 b1 b2 : Int} (ha : numsW (nAt [a1, a2]) 0 2 = false) (hb : numsW (nAt [b1, b2]) 0 2 = false) {a b : List UInt8} (h : nums (nAt [a1, a2]) 0 2 ++ a = nums (nAt [b1, b2]) 0 2 ++ b) : a1 = b1 ∧ a2 = b2 ∧ a = b := by
  have A := nums_ok ha
  have B := nums_ok hb
  have e : ∀ c1 c2 : Int, nums (nAt [c1, c2]) 0 2 = numL c1 ++ (numL c2 ++ []) := fun _ _ => rfl
  rw [e, e] at h
  simp only [List.append_assoc] at h
  obtain ⟨h1, h⟩ := pf_num _ _ _ _ (A 0 (by omega) (by omega)) (B 0 (by omega) (by omega)) h
  obtain ⟨h2, h⟩ := pf_num _ _ _ _ (A 1 (by omega) (by omega)) (B 1 (by omega) (by omega)) h
  exact ⟨h1, h2, by simpa using h⟩
theorem b2n_ok (b : Bool) : numB (b2n b) = true := by cases b <;> rfl
theorem b2n_inj {a b : Bool} (h : b2n a = b2n b) : a = b := by cases a <;> cases b <;> first | rfl | (exact absurd h (by decide))
theorem inc_inj {a b : Int} (a1 : -9223372036854775808 ≤ a) (a2 : a ≤ 9223372036854775807) (b1 : -9223372036854775808 ≤ b) (b2 : b ≤ 9223372036854775807) (h : inc a = inc b) : a = b := by
  unfold inc IntKind.wrap at h
  simp [IntKind.bits, IntKind.signed] at h
  omega
/-- the numbers of a node and of a flow may be written -/
def NdOk (d : Nd) : Prop := d.fit ∧ hdW d = false
theorem pf_hd : Pf hdB NdOk := by
  intro x y a b hx hy h
  unfold hdB hd4 at h
  simp only [List.append_assoc] at h
  have wx := hx.2
  have wy := hy.2
  unfold hdW hd4 at wx wy
  obtain ⟨h1, h⟩ := pf_txt _ _ _ _ trivial trivial h
  obtain ⟨k1, k2, k3, k4, h⟩ := pf_nums4 wx wy h
  have e : ∀ s1 s2 s3 : ByteArray, txts (tAt [s1, s2, s3]) 0 3 = txt s1 ++ (txt s2 ++ (txt s3 ++ [])) := fun _ _ _ => rfl
  rw [e, e] at h
  simp only [List.append_assoc, List.nil_append] at h
  obtain ⟨h2, h⟩ := pf_txt _ _ _ _ trivial trivial h
  obtain ⟨h3, h⟩ := pf_txt _ _ _ _ trivial trivial h
  obtain ⟨h4, h⟩ := pf_txt _ _ _ _ trivial trivial h
  obtain ⟨h5, h⟩ := pf_num _ _ _ _ (b2n_ok _) (b2n_ok _) h
  refine ⟨?_, h⟩
  obtain ⟨-, -, f1, f2, f3, f4, -⟩ := hx.1
  obtain ⟨-, -, g1, g2, g3, g4, -⟩ := hy.1
  have e1 := inc_inj f1 f2 g1 g2 k2
  have e2 := inc_inj f3 f4 g3 g4 k3
  have e3 := b2n_inj h5
  have e4 : x.kind = y.kind := by omega
  have e5 : x.event = y.event := by omega
  cases x; cases y
  simp only at h1 h2 h3 h4 e1 e2 e3 e4 e5
  subst h1 h2 h3 h4 e1 e2 e3 e4 e5
  rfl
def VsOk (l : List Va) : Prop := l.length ≤ 1099511627776 ∧ ∀ v ∈ l, may v.k v.n v.t = true
def PnOk (p : PNod) : Prop := NdOk p.d ∧ VsOk p.vs ∧ p.bs.length ≤ 1099511627776
theorem pf_nd : Pf ndB PnOk := by
  intro x y a b hx hy h
  unfold ndB at h
  simp only [List.append_assoc] at h
  obtain ⟨h1, h⟩ := pf_hd _ _ _ _ hx.1 hy.1 h
  obtain ⟨h2, h⟩ := pf_list pf_var _ _ _ _ hx.2.1 hy.2.1 h
  obtain ⟨h3, h⟩ := pf_list pf_txt _ _ _ _ ⟨hx.2.2, fun _ _ => trivial⟩ ⟨hy.2.2, fun _ _ => trivial⟩ h
  refine ⟨?_, h⟩
  cases x; cases y
  simp only at h1 h2 h3
  subst h1 h2 h3
  rfl
theorem pf_flo : Pf floB fun f => floW f = false := by
  intro x y a b hx hy h
  unfold floB at h
  unfold floW at hx hy
  simp only [List.append_assoc] at h
  obtain ⟨h1, h2, h⟩ := pf_nums2 hx hy h
  obtain ⟨h3, h⟩ := pf_txt _ _ _ _ trivial trivial h
  obtain ⟨h4, h⟩ := pf_num _ _ _ _ (b2n_ok _) (b2n_ok _) h
  have h5 := b2n_inj h4
  clear h4
  refine ⟨?_, h⟩
  cases x; cases y
  simp only at h1 h2 h3 h5
  subst h1 h2 h3 h5
  rfl
def PpOk (p : PPr) : Prop := VsOk p.vs ∧ (p.ns.length ≤ 1099511627776 ∧ ∀ q ∈ p.ns, PnOk q) ∧ p.fs.length ≤ 1099511627776 ∧ ∀ f ∈ p.fs, floW f = false
theorem pf_pp : Pf ppB PpOk := by
  intro x y a b hx hy h
  unfold ppB at h
  simp only [List.append_assoc] at h
  obtain ⟨h1, h⟩ := pf_txt _ _ _ _ trivial trivial h
  obtain ⟨h2, h⟩ := pf_list pf_var _ _ _ _ hx.1 hy.1 h
  obtain ⟨h3, h⟩ := pf_list pf_nd _ _ _ _ hx.2.1 hy.2.1 h
  obtain ⟨h4, h⟩ := pf_list pf_flo _ _ _ _ hx.2.2 hy.2.2 h
  refine ⟨?_, h⟩
  cases x; cases y
  simp only at h1 h2 h3 h4
  subst h1 h2 h3 h4
  rfl
theorem may_of {k : Nat} {n : Int} {t : ByteArray} (h : mayV k n t = true) : may k n t = true := by
  unfold mayV at h
  unfold may
  simp only [Bool.or_eq_true, Bool.and_eq_true, decide_eq_true_eq] at h ⊢
  rcases h with h | h | h | h
  · exact .inl h
  · exact .inr (.inl h)
  · exact .inr (.inr (.inl h))
  · refine .inr (.inr (.inr ⟨h.1.1, h.1.2, ?_⟩))
    have := h.2
    unfold plainB at this
    simp only [Bool.and_eq_true, decide_eq_true_eq] at this
    exact this.2
theorem var_may {v : Va} (h : varOk v = true) : may v.k v.n v.t = true := by
  unfold varOk at h
  simp only [Bool.and_eq_true] at h
  exact may_of h.2.1
theorem row_ok {m : Nat} {f : Nat → Va} (hm : m ≤ 8) (h : ∀ j, j < m → varOk (f j) = true) : VsOk (rowL f m) :=
  ⟨by rw [rowL_len]; omega, fun v hv => by obtain ⟨j, hj, rfl⟩ := mem_row hv; exact var_may (h j hj)⟩
theorem pp_ok {x : Pr} (he : x.e = 0) (hx : x.fit) (hw : prW x = false) : PpOk x.pp := by
  obtain ⟨a1, a0, a2, a3, a4, a5, a6, a7⟩ := pr_ok he
  rw [prW_pp, Bool.or_eq_false_iff] at hw
  obtain ⟨w1, w2⟩ := hw
  rw [List.any_eq_false] at w1 w2
  unfold Pr.pp at *
  refine ⟨row_ok a4 a5, ⟨by simp only [List.length_map, rowL_len]; omega, fun q hq => ?_⟩, by simp only [rowL_len]; omega, fun f hf => by simpa using w2 f hf⟩
  have hq1 := w1 q hq
  obtain ⟨y, hy, rfl⟩ := List.mem_map.1 hq
  obtain ⟨j, hj, rfl⟩ := mem_row hy
  obtain ⟨b1, b2, b3, b4, b5, b6, b7, b8⟩ := node_ok (a6 j hj)
  exact ⟨⟨(hx.2.2.1 j).1, by simpa using hq1⟩, row_ok b5 b7, by show (rowL _ _).length ≤ _; rw [rowL_len]; omega⟩
/-- two processes that are written alike are alike -/
theorem written_alike {x y : Pr} {a b : List UInt8} (ex : x.e = 0) (ey : y.e = 0) (fx : x.fit) (fy : y.fit) (wx : prW x = false) (wy : prW y = false) (h : prB x ++ a = prB y ++ b) : x.pp = y.pp := by
  rw [prB_pp, prB_pp] at h
  exact (pf_pp _ _ _ _ (pp_ok ex fx wx) (pp_ok ey fy wy) h).1

def sameF (a b : Fl) : Bool := decide (a.fr = b.fr ∧ a.to = b.to ∧ a.iff = b.iff ∧ a.els = b.els)
def eqF (m1 m2 : Nat) (f g : Nat → Fl) : Bool := decide (m1 = m2) && allF (fun k => sameF (f k) (g k)) 0 m1
def sameK (x y : Nod) : Bool := sameD x.d y.d x.f y.f x.g y.g x.m y.m x.n y.n
def eqN (m1 m2 : Nat) (f g : Nat → Nod) : Bool := decide (m1 = m2) && allF (fun k => sameK (f k) (g k)) 0 m1
def sameP (x y : Pr) : Bool := decide (x.name = y.name) && (eqV x.vm y.vm x.vf y.vf && (eqN x.nn y.nn x.nf y.nf && eqF x.fn y.fn x.ff y.ff))
theorem allF_iff (p : Nat → Bool) : ∀ n k, allF p k n = true ↔ ∀ j, k ≤ j → j < k + n → p j = true
  | 0, k => ⟨fun _ j h1 h2 => by omega, fun _ => rfl⟩
  | n + 1, k => by
    rw [allF, Bool.and_eq_true, allF_iff p n (k + 1)]
    constructor
    · rintro ⟨h1, h2⟩ j a b
      by_cases hj : j = k
      · rw [hj]; exact h1
      · exact h2 j (by omega) (by omega)
    · intro h
      exact ⟨h k (by omega) (by omega), fun j a b => h j (by omega) (by omega)⟩
theorem row_eq {α : Type} {f g : Nat → α} {m n : Nat} : rowL f m = rowL g n ↔ m = n ∧ ∀ j, j < m → f j = g j := by
  constructor
  · intro h
    have hl := congrArg List.length h
    rw [rowL_len, rowL_len] at hl
    refine ⟨hl, fun j hj => ?_⟩
    have := congrArg (fun l => l[j]?) h
    simp only [rowL, List.getElem?_map] at this
    rw [List.getElem?_range hj, List.getElem?_range (by omega)] at this
    simpa using this
  · rintro ⟨rfl, h⟩
    unfold rowL
    exact List.map_congr_left fun j hj => h j (List.mem_range.1 hj)
theorem eq_rows {α β : Type} (E : α → α → Bool) (R : α → β) {f g : Nat → α} {m n : Nat} (hE : ∀ j, j < m → (E (f j) (g j) = true ↔ R (f j) = R (g j))) : (decide (m = n) && allF (fun k => E (f k) (g k)) 0 m) = true ↔ (rowL f m).map R = (rowL g n).map R := by
  have e : ∀ (h : Nat → α) k, (rowL h k).map R = rowL (fun j => R (h j)) k := fun h k => by unfold rowL; rw [List.map_map]; rfl
  rw [e, e, row_eq, Bool.and_eq_true, decide_eq_true_eq, allF_iff]
  constructor
  · rintro ⟨h1, h2⟩
    exact ⟨h1, fun j hj => (hE j hj).1 (h2 j (by omega) (by omega))⟩
  · rintro ⟨h1, h2⟩
    exact ⟨h1, fun j _ hj => (hE j (by omega)).2 (h2 j (by omega))⟩
theorem sameV_iff (a b : Va) : sameV a b = true ↔ a = b := by
  unfold sameV
  cases a; cases b
  simp
theorem sameF_iff (a b : Fl) : sameF a b = true ↔ a = b := by
  unfold sameF
  cases a; cases b
  simp
theorem ba_refl (a : ByteArray) : (a == a) = true := by
  cases a
  show ByteArray.beq _ _ = true
  unfold ByteArray.beq
  simp
theorem ba_beq (a b : ByteArray) : (a == b) = true ↔ a = b := ⟨ba_eq, fun h => by subst h; exact ba_refl a⟩
theorem sameN_iff (a b : Nd) : sameN a b = true ↔ a = b := by
  unfold sameN
  cases a; cases b
  simp only [Bool.and_eq_true, ba_beq, beq_iff_eq, Nd.mk.injEq]
  constructor
  · rintro ⟨h1, h2, h3, h4, h5, h6, h7, h8, h9⟩
    exact ⟨h1, by omega, h3, h4, by omega, h6, h7, h8, h9⟩
  · rintro ⟨h1, h2, h3, h4, h5, h6, h7, h8, h9⟩
    exact ⟨h1, by omega, h3, h4, by omega, h6, h7, h8, h9⟩
theorem map_id' {α : Type} (l : List α) : l.map (fun x => x) = l := List.map_id l
theorem sameK_iff (x y : Nod) : sameK x y = true ↔ x.pn = y.pn := by
  unfold sameK sameD eqV eqS Nod.pn
  have e1 := eq_rows sameV (fun v => v) (f := x.f) (g := y.f) (m := x.m) (n := y.m) (fun j _ => sameV_iff _ _)
  have e2 := eq_rows (fun a b : ByteArray => decide (a = b)) (fun v => v) (f := x.g) (g := y.g) (m := x.n) (n := y.n) (fun j _ => by simp)
  rw [map_id', map_id'] at e1 e2
  simp only [Bool.and_eq_true, sameN_iff, PNod.mk.injEq] at e1 e2 ⊢
  rw [e1, e2]
theorem sameP_iff (x y : Pr) : sameP x y = true ↔ x.pp = y.pp := by
  unfold sameP eqV eqN eqF Pr.pp
  have e1 := eq_rows sameV (fun v => v) (f := x.vf) (g := y.vf) (m := x.vm) (n := y.vm) (fun j _ => sameV_iff _ _)
  have e2 := eq_rows sameK Nod.pn (f := x.nf) (g := y.nf) (m := x.nn) (n := y.nn) (fun j _ => sameK_iff _ _)
  have e3 := eq_rows sameF (fun v => v) (f := x.ff) (g := y.ff) (m := x.fn) (n := y.fn) (fun j _ => sameF_iff _ _)
  rw [map_id', map_id'] at e1 e3
  simp only [Bool.and_eq_true, decide_eq_true_eq, PPr.mk.injEq] at e1 e2 e3 ⊢
  rw [e1, e2, e3]
end Go.Proofs.YtjakdbahopbggaaGreatDoor
