/- A state's keys (plain): they rise, and two states whose keys are alike are the same. Conditions: none. -/
import Derived.Test.YtjakdbahopbggaaGreatDoorZSvQ
import Derived.Test.YtjakdbahopbggaaGreatDoorZK12
namespace Go.Proofs.YtjakdbahopbggaaGreatDoor
open Go.RowKit Go.Ow Go.Wi

/-- a list's entries may be told, and rise -/
def AllOk {α : Type} (E : α → En) (ok : α → Bool) (f : Nat → α) (n : Nat) : Prop := ∀ j, j < n → ok (f j) = true ∧ (0 < j → (E (f (j - 1))).k < (E (f j)).k)
def enPart (at_ : Nat) (s : List UInt8) (j : Nat) : En := ⟨[100, UInt8.ofNat at_, UInt8.ofNat j], (s.drop (100 * j)).take 100⟩
def piecesL (at_ : Nat) (s : List UInt8) : List En := rowL (enPart at_ s) ((s.length + 99) / 100)
def prT (x : Pr) : List UInt8 := prB x ++ sealL (prB x)
def prOk (x : Pr) : Prop := x.e = 0 ∧ prW x = false ∧ (prB x).length + 4 ≤ 4000
structure St where
  clock : Int
  next : Int
  dn : Nat
  df : Nat → Pr
  im : Nat
  itf : Nat → It
  cn : Nat
  clf : Nat → Cl
  wn : Nat
  waf : Nat → Wa
def headE (s : St) : En := ⟨[99], numL s.clock ++ numL s.next⟩
def headL (s : St) : List En := if s.clock = 0 ∧ s.next = 0 then [] else [headE s]
def defsL (s : St) : List En := (List.range s.dn).flatMap fun at_ => piecesL at_ (prT (s.df at_))
def keysL (s : St) : List En := headL s ++ (defsL s ++ ((rowL s.itf s.im).map itE ++ ((rowL s.clf s.cn).map clE ++ (rowL s.waf s.wn).map waE)))
structure KeysOk (s : St) : Prop where
  c : numB s.clock = true
  n : numB s.next = true
  dn : s.dn ≤ 12
  d : ∀ j, j < s.dn → prOk (s.df j)
  i : AllOk itE itOk s.itf s.im
  v : AllOk clE clOk s.clf s.cn
  w : AllOk waE waOk s.waf s.wn
def St.fit (s : St) : Prop := (∀ j, (s.df j).fit) ∧ (∀ j, (s.itf j).fit) ∧ ∀ j, (s.waf j).fit
def sameS (a b : St) : Bool := decide (a.clock = b.clock) && (decide (a.next = b.next) && ((decide (a.dn = b.dn) && allF (fun k => sameP (a.df k) (b.df k)) 0 a.dn) &&
  ((decide (a.im = b.im) && allF (fun k => decide ((a.itf k).id = (b.itf k).id ∧ (a.itf k).up = (b.itf k).up ∧ (a.itf k).is = (b.itf k).is ∧ (a.itf k).proc = (b.itf k).proc ∧ (a.itf k).node = (b.itf k).node ∧ (a.itf k).frm = (b.itf k).frm ∧ (a.itf k).wait = (b.itf k).wait ∧ (a.itf k).code = (b.itf k).code)) 0 a.im) &&
  ((decide (a.cn = b.cn) && allF (fun k => decide ((a.clf k).sc = (b.clf k).sc ∧ (a.clf k).nm = (b.clf k).nm ∧ (a.clf k).k = (b.clf k).k ∧ (a.clf k).n = (b.clf k).n ∧ (a.clf k).t = (b.clf k).t)) 0 a.cn) &&
  (decide (a.wn = b.wn) && allF (fun k => decide ((a.waf k).id = (b.waf k).id ∧ (a.waf k).item = (b.waf k).item ∧ (a.waf k).node = (b.waf k).node ∧ (a.waf k).ev = (b.waf k).ev ∧ (a.waf k).key = (b.waf k).key ∧ (a.waf k).due = (b.waf k).due ∧ (a.waf k).armed = (b.waf k).armed)) 0 a.wn)))))

theorem sameS_iff (a b : St) : sameS a b = true ↔ a.clock = b.clock ∧ a.next = b.next ∧ ((rowL a.df a.dn).map Pr.pp = (rowL b.df b.dn).map Pr.pp) ∧ rowL a.itf a.im = rowL b.itf b.im ∧ rowL a.clf a.cn = rowL b.clf b.cn ∧ rowL a.waf a.wn = rowL b.waf b.wn := by
  unfold sameS
  simp only [Bool.and_eq_true, decide_eq_true_eq]
  have e1 := eq_rows sameP Pr.pp (f := a.df) (g := b.df) (m := a.dn) (n := b.dn) (fun j _ => sameP_iff _ _)
  have e2 := eq_rows (fun x y : It => decide (x.id = y.id ∧ x.up = y.up ∧ x.is = y.is ∧ x.proc = y.proc ∧ x.node = y.node ∧ x.frm = y.frm ∧ x.wait = y.wait ∧ x.code = y.code)) (fun x => x) (f := a.itf) (g := b.itf) (m := a.im) (n := b.im) (fun j _ => by
    generalize a.itf j = x; generalize b.itf j = y
    cases x; cases y; simp)
  have e3 := eq_rows (fun x y : Cl => decide (x.sc = y.sc ∧ x.nm = y.nm ∧ x.k = y.k ∧ x.n = y.n ∧ x.t = y.t)) (fun x => x) (f := a.clf) (g := b.clf) (m := a.cn) (n := b.cn) (fun j _ => by
    generalize a.clf j = x; generalize b.clf j = y
    cases x; cases y; simp)
  have e4 := eq_rows (fun x y : Wa => decide (x.id = y.id ∧ x.item = y.item ∧ x.node = y.node ∧ x.ev = y.ev ∧ x.key = y.key ∧ x.due = y.due ∧ x.armed = y.armed)) (fun x => x) (f := a.waf) (g := b.waf) (m := a.wn) (n := b.wn) (fun j _ => by
    generalize a.waf j = x; generalize b.waf j = y
    cases x; cases y; simp)
  rw [map_id', map_id'] at e2 e3 e4
  simp only [Bool.and_eq_true, decide_eq_true_eq] at e1 e2 e3 e4
  rw [e1, e2, e3, e4]

theorem byt_inj {n m : Int} {s : Nat} (h : byt n s = byt m s) : (n / (2 ^ s : Nat)) % 256 = (m / (2 ^ s : Nat)) % 256 := by
  unfold byt at h
  have h1 := Int.emod_nonneg (n / (2 ^ s : Nat)) (by omega : (256 : Int) ≠ 0)
  have h2 := Int.emod_lt_of_pos (n / (2 ^ s : Nat)) (by omega : (0 : Int) < 256)
  have h3 := Int.emod_nonneg (m / (2 ^ s : Nat)) (by omega : (256 : Int) ≠ 0)
  have h4 := Int.emod_lt_of_pos (m / (2 ^ s : Nat)) (by omega : (0 : Int) < 256)
  have := ofNat_inj (by omega) (by omega) h
  omega
theorem idB_inj {c c' : UInt8} {n m : Int} (h0 : 0 ≤ n) (h1 : n ≤ 1099511627776) (h2 : 0 ≤ m) (h3 : m ≤ 1099511627776) (h : idB c n = idB c' m) : n = m := by
  unfold idB at h
  simp only [List.cons.injEq, and_true] at h
  obtain ⟨-, a5, a4, a3, a2, a1, a0⟩ := h
  have a5 := byt_inj a5
  have a4 := byt_inj a4
  have a3 := byt_inj a3
  have a2 := byt_inj a2
  have a1 := byt_inj a1
  have a0 := byt_inj a0
  have q : ∀ x : Int, x / (2 ^ 40 : Nat) = x / 256 / 256 / 256 / 256 / 256 ∧ x / (2 ^ 32 : Nat) = x / 256 / 256 / 256 / 256 ∧ x / (2 ^ 24 : Nat) = x / 256 / 256 / 256 ∧ x / (2 ^ 16 : Nat) = x / 256 / 256 ∧ x / (2 ^ 8 : Nat) = x / 256 ∧ x / (2 ^ 0 : Nat) = x := fun x => by
    refine ⟨?_, ?_, ?_, ?_, ?_, ?_⟩ <;> omega
  rw [(q n).1, (q m).1] at a5
  rw [(q n).2.1, (q m).2.1] at a4
  rw [(q n).2.2.1, (q m).2.2.1] at a3
  rw [(q n).2.2.2.1, (q m).2.2.2.1] at a2
  rw [(q n).2.2.2.2.1, (q m).2.2.2.2.1] at a1
  rw [(q n).2.2.2.2.2, (q m).2.2.2.2.2] at a0
  have S : ∀ x y : Int, x % 256 = y % 256 → x / 256 = y / 256 → x = y := fun x y h h' => by omega
  have t6 : n / 256 / 256 / 256 / 256 / 256 / 256 = m / 256 / 256 / 256 / 256 / 256 / 256 := by omega
  exact S _ _ a0 (S _ _ a1 (S _ _ a2 (S _ _ a3 (S _ _ a4 (S _ _ a5 t6)))))
theorem incS_inj {a b : Int} (a1 : -9223372036854775808 ≤ a) (a2 : a ≤ 9223372036854775807) (b1 : -9223372036854775808 ≤ b) (b2 : b ≤ 9223372036854775807) (h : incS a = incS b) : a = b := inc_inj a1 a2 b1 b2 h
theorem known_iff {n : Int} (h : knownB n = true) : 1 ≤ n ∧ n ≤ 1099511627776 := of_decide_eq_true h
theorem It.eq {x y : It} (e1 : x.id = y.id) (e2 : x.up = y.up) (e3 : x.is = y.is) (e4 : x.proc = y.proc) (e5 : x.node = y.node) (e6 : x.frm = y.frm) (e7 : x.wait = y.wait) (e8 : x.code = y.code) : x = y := by
  cases x; cases y
  simp only at e1 e2 e3 e4 e5 e6 e7 e8
  subst e1 e2 e3 e4 e5 e6 e7 e8
  rfl
theorem Cl.eq {x y : Cl} (e1 : x.sc = y.sc) (e2 : x.nm = y.nm) (e3 : x.k = y.k) (e4 : x.n = y.n) (e5 : x.t = y.t) : x = y := by
  cases x; cases y
  simp only at e1 e2 e3 e4 e5
  subst e1 e2 e3 e4 e5
  rfl
theorem Wa.eq {x y : Wa} (e1 : x.id = y.id) (e2 : x.item = y.item) (e3 : x.node = y.node) (e4 : x.ev = y.ev) (e5 : x.key = y.key) (e6 : x.due = y.due) (e7 : x.armed = y.armed) : x = y := by
  cases x; cases y
  simp only at e1 e2 e3 e4 e5 e6 e7
  subst e1 e2 e3 e4 e5 e6 e7
  rfl
theorem itE_inj {x y : It} (hx : itOk x = true) (hy : itOk y = true) (fx : x.fit) (fy : y.fit) (h : itE x = itE y) : x = y := by
  unfold itE at h
  unfold itOk at hx hy
  simp only [Bool.and_eq_true] at hx hy
  obtain ⟨⟨x1, -, -⟩, x2, x3, -, x4, x5, x6, -⟩ := hx
  obtain ⟨⟨y1, -, -⟩, y2, y3, -, y4, y5, y6, -⟩ := hy
  simp only [En.mk.injEq] at h
  obtain ⟨hk, h⟩ := h
  have p1 := known_iff x1
  have p2 := known_iff y1
  have e1 := idB_inj (by omega) p1.2 (by omega) p2.2 hk
  obtain ⟨e2, h⟩ := pf_num _ _ _ _ x2 y2 h
  obtain ⟨e3, h⟩ := pf_num _ _ _ _ x3 y3 h
  obtain ⟨e4, h⟩ := pf_txt _ _ _ _ trivial trivial h
  obtain ⟨e5, h⟩ := pf_num _ _ _ _ x4 y4 h
  obtain ⟨e6, h⟩ := pf_num _ _ _ _ x5 y5 h
  obtain ⟨e7, h⟩ := pf_num _ _ _ _ x6 y6 h
  obtain ⟨e8, -⟩ := pf_txt x.code y.code [] [] trivial trivial (by rw [h])
  have e5 := incS_inj fx.1 fx.2.1 fy.1 fy.2.1 e5
  have e6 := incS_inj fx.2.2.1 fx.2.2.2 fy.2.2.1 fy.2.2.2 e6
  exact It.eq e1 e2 (by omega) e4 e5 e6 (by omega) e8
theorem clE_inj {x y : Cl} (hx : clOk x = true) (hy : clOk y = true) (h : clE x = clE y) : x = y := by
  unfold clE at h
  unfold clOk at hx hy
  simp only [Bool.and_eq_true, decide_eq_true_eq] at hx hy
  simp only [En.mk.injEq] at h
  obtain ⟨hk, h⟩ := h
  obtain ⟨h1, h2⟩ := List.append_inj hk rfl
  have e1 := idB_inj hx.1.1 hx.1.2.1 hy.1.1 hy.1.2.1 h1
  have e2 := eq_of_list h2
  unfold valL at h
  rw [if_pos hx.2, if_pos hy.2] at h
  obtain ⟨e3, e4, e5, -⟩ := encV_parts hx.2 hy.2 [] [] (by rw [h])
  exact Cl.eq e1 e2 e3 e4 e5
theorem waE_inj {x y : Wa} (hx : waOk x = true) (hy : waOk y = true) (fx : x.fit) (fy : y.fit) (h : waE x = waE y) : x = y := by
  unfold waE at h
  unfold waOk at hx hy
  simp only [Bool.and_eq_true] at hx hy
  obtain ⟨⟨x1, -⟩, x2, x3, x4, -, x5, x6⟩ := hx
  obtain ⟨⟨y1, -⟩, y2, y3, y4, -, y5, y6⟩ := hy
  simp only [En.mk.injEq] at h
  obtain ⟨hk, h⟩ := h
  have p1 := known_iff x1
  have p2 := known_iff y1
  have e1 := idB_inj (by omega) p1.2 (by omega) p2.2 hk
  obtain ⟨e2, h⟩ := pf_num _ _ _ _ x2 y2 h
  obtain ⟨e3, h⟩ := pf_num _ _ _ _ x3 y3 h
  obtain ⟨e4, h⟩ := pf_num _ _ _ _ x4 y4 h
  obtain ⟨e5, h⟩ := pf_txt _ _ _ _ trivial trivial h
  obtain ⟨e6, h⟩ := pf_num _ _ _ _ x5 y5 h
  obtain ⟨e7, -⟩ := pf_num _ _ [] [] x6 y6 (by rw [h])
  have e3 := incS_inj fx.1 fx.2 fy.1 fy.2 e3
  exact Wa.eq e1 e2 e3 (by omega) e5 e6 (b2n_inj e7)
theorem map_inj_on {α β : Type} {E : α → β} {P : α → Prop} (hE : ∀ x y, P x → P y → E x = E y → x = y) : ∀ (l m : List α), (∀ x ∈ l, P x) → (∀ x ∈ m, P x) → l.map E = m.map E → l = m
  | [], [], _, _, _ => rfl
  | [], _ :: _, _, _, h => by simp at h
  | _ :: _, [], _, _, h => by simp at h
  | x :: l, y :: m, hx, hy, h => by
    simp only [List.map_cons, List.cons.injEq] at h
    rw [hE x y (hx _ List.mem_cons_self) (hy _ List.mem_cons_self) h.1, map_inj_on hE l m (fun z hz => hx z (List.mem_cons_of_mem _ hz)) (fun z hz => hy z (List.mem_cons_of_mem _ hz)) h.2]

/-- a row that rises step by step rises -/
theorem AllOk.rise {α : Type} {E : α → En} {ok : α → Bool} {f : Nat → α} {n : Nat} (h : AllOk E ok f n) : Rise ((rowL f n).map E) := by
  have S : ∀ j, j < n → ∀ i, i < j → (E (f i)).k < (E (f j)).k := by
    intro j
    induction j with
    | zero => intro _ i hi; omega
    | succ j ih =>
      intro hj i hi
      have h1 := (h (j + 1) hj).2 (by omega)
      rw [Nat.add_sub_cancel] at h1
      by_cases hij : i = j
      · subst hij; exact h1
      · exact k_trans (ih (by omega) i (by omega)) h1
  unfold Rise rowL
  rw [List.map_map, List.pairwise_map]
  refine List.Pairwise.imp_of_mem ?_ (List.pairwise_lt_range (n := n))
  intro a b ha hb hab
  exact S b (List.mem_range.1 hb) a hab
theorem AllOk.mem {α : Type} {E : α → En} {ok : α → Bool} {f : Nat → α} {n : Nat} (h : AllOk E ok f n) : ∀ x ∈ rowL f n, ok x = true := fun x hx => by
  obtain ⟨j, hj, rfl⟩ := mem_row hx
  exact (h j hj).1

theorem parts_flat (at_ : Nat) (s : List UInt8) : ∀ m, (rowL (enPart at_ s) m).flatMap (·.v) = s.take (100 * m)
  | 0 => by simp [rowL]
  | m + 1 => by
    have e : rowL (enPart at_ s) (m + 1) = rowL (enPart at_ s) m ++ [enPart at_ s m] := by unfold rowL; rw [List.range_succ, List.map_append]; rfl
    rw [e, List.flatMap_append, parts_flat at_ s m]
    simp only [List.flatMap_cons, List.flatMap_nil, List.append_nil, enPart]
    rw [show 100 * (m + 1) = 100 * m + 100 by omega, List.take_add]
theorem pieces_flat (at_ : Nat) (s : List UInt8) : (piecesL at_ s).flatMap (·.v) = s := by
  unfold piecesL
  rw [parts_flat, List.take_of_length_le (by omega)]
theorem pieces_key {at_ : Nat} {s : List UInt8} {e : En} (h : e ∈ piecesL at_ s) : ∃ j, j < (s.length + 99) / 100 ∧ e.k = [100, UInt8.ofNat at_, UInt8.ofNat j] := by
  obtain ⟨j, hj, rfl⟩ := mem_row h
  exact ⟨j, hj, rfl⟩
def defsN (f : Nat → List UInt8) (n : Nat) : List En := (List.range n).flatMap fun at_ => piecesL at_ (f at_)
theorem defsN_at (f : Nat → List UInt8) (a : Nat) (ha : a < 256) : ∀ n, n ≤ 256 → ((defsN f n).filter fun e => decide (e.k[1]? = some (UInt8.ofNat a))).flatMap (·.v) = if a < n then f a else []
  | 0, _ => by simp [defsN]
  | n + 1, hn => by
    have e : defsN f (n + 1) = defsN f n ++ piecesL n (f n) := by unfold defsN; rw [List.range_succ, List.flatMap_append]; simp
    rw [e, List.filter_append, List.flatMap_append, defsN_at f a ha n (by omega)]
    by_cases h : n = a
    · subst h
      rw [if_neg (by omega), if_pos (by omega), List.nil_append]
      have : (piecesL n (f n)).filter (fun e => decide (e.k[1]? = some (UInt8.ofNat n))) = piecesL n (f n) := by
        rw [List.filter_eq_self]
        intro e he
        obtain ⟨j, _, hj⟩ := pieces_key he
        rw [hj]
        simp
      rw [this, pieces_flat]
    · have : (piecesL n (f n)).filter (fun e => decide (e.k[1]? = some (UInt8.ofNat a))) = [] := by
        rw [List.filter_eq_nil_iff]
        intro e he
        obtain ⟨j, _, hj⟩ := pieces_key he
        rw [hj]
        simp only [List.getElem?_cons_succ, List.getElem?_cons_zero, Option.some.injEq, decide_eq_true_eq]
        exact fun e => h (ofNat_inj (by omega) ha e)
      rw [this]
      by_cases h2 : a < n
      · rw [if_pos h2, if_pos (by omega)]; simp
      · rw [if_neg h2, if_neg (by omega)]; rfl
theorem defsN_inj {f g : Nat → List UInt8} {n m : Nat} (hn : n ≤ 12) (hm : m ≤ 12) (hf : ∀ j, j < n → f j ≠ []) (hg : ∀ j, j < m → g j ≠ []) (h : defsN f n = defsN g m) : n = m ∧ ∀ j, j < n → f j = g j := by
  have T : ∀ a, a < 256 → (if a < n then f a else []) = if a < m then g a else [] := fun a ha => by
    rw [← defsN_at f a ha n (by omega), ← defsN_at g a ha m (by omega), h]
  have e : n = m := by
    rcases Nat.lt_trichotomy n m with h1 | h1 | h1
    · have := T n (by omega)
      rw [if_neg (by omega), if_pos h1] at this
      exact absurd this.symm (hg n h1)
    · exact h1
    · have := T m (by omega)
      rw [if_pos h1, if_neg (by omega)] at this
      exact absurd this (hf m h1)
  refine ⟨e, fun j hj => ?_⟩
  have := T j (by omega)
  rwa [if_pos hj, if_pos (by omega)] at this
theorem u8_lt {a b : Nat} (h : a < b) (hb : b < 256) : UInt8.ofNat a < UInt8.ofNat b := by
  rw [UInt8.lt_iff_toNat_lt]
  simp only [UInt8.toNat_ofNat']
  omega
theorem head_lt {a b : UInt8} {k l : List UInt8} (h : a < b) : a :: k < b :: l := List.cons_lt_cons_iff.2 (.inl h)
theorem tail_lt {a : UInt8} {k l : List UInt8} (h : k < l) : a :: k < a :: l := List.cons_lt_cons_iff.2 (.inr ⟨rfl, h⟩)
theorem defsN_rise (f : Nat → List UInt8) (n : Nat) (hn : n ≤ 256) (hf : ∀ j, j < n → (f j).length ≤ 25000) : Rise (defsN f n) := by
  unfold Rise defsN
  rw [List.pairwise_flatMap]
  constructor
  · intro a ha
    have hl := hf a (List.mem_range.1 ha)
    unfold piecesL rowL
    rw [List.pairwise_map]
    refine List.Pairwise.imp_of_mem ?_ (List.pairwise_lt_range (n := _))
    intro i j hi hj hij
    have hj := List.mem_range.1 hj
    exact tail_lt (tail_lt (head_lt (u8_lt hij (by omega))))
  · refine List.Pairwise.imp_of_mem ?_ (List.pairwise_lt_range (n := n))
    intro i j hi hj hij x hx y hy
    obtain ⟨p, _, e1⟩ := pieces_key hx
    obtain ⟨q, _, e2⟩ := pieces_key hy
    have hj := List.mem_range.1 hj
    rw [e1, e2]
    exact tail_lt (head_lt (u8_lt hij (by omega)))
theorem defs_key {f : Nat → List UInt8} {n : Nat} {e : En} (h : e ∈ defsN f n) : ∃ r, e.k = 100 :: r := by
  unfold defsN at h
  obtain ⟨a, _, h⟩ := List.mem_flatMap.1 h
  obtain ⟨j, _, h⟩ := pieces_key h
  exact ⟨_, h⟩
theorem prT_ne (x : Pr) : prT x ≠ [] := by unfold prT sealL; simp
theorem prT_len (x : Pr) : (prT x).length = (prB x).length + 4 := by unfold prT sealL; simp
/-- which lists entries are of, by the first byte -/
def Hd (c : UInt8) (l : List En) : Prop := ∀ e ∈ l, ∃ r, e.k = c :: r
theorem Hd.filter_yes {c : UInt8} {l : List En} (h : Hd c l) : l.filter (fun e => decide (e.k.head? = some c)) = l := by
  rw [List.filter_eq_self]
  intro e he
  obtain ⟨r, hr⟩ := h e he
  rw [hr]
  simp
theorem Hd.filter_no {c d : UInt8} {l : List En} (h : Hd d l) (hd : d ≠ c) : l.filter (fun e => decide (e.k.head? = some c)) = [] := by
  rw [List.filter_eq_nil_iff]
  intro e he
  obtain ⟨r, hr⟩ := h e he
  rw [hr]
  simpa using hd
theorem hd_head (s : St) : Hd 99 (headL s) := fun e he => by
  unfold headL at he
  split at he
  · cases he
  · rw [List.mem_singleton] at he; subst he; exact ⟨[], rfl⟩
theorem hd_defs (s : St) : Hd 100 (defsL s) := fun _ he => defs_key (f := fun a => prT (s.df a)) he
theorem hd_it (s : St) : Hd 105 ((rowL s.itf s.im).map itE) := fun _ he => by obtain ⟨x, _, rfl⟩ := List.mem_map.1 he; exact ⟨_, rfl⟩
theorem hd_cl (s : St) : Hd 118 ((rowL s.clf s.cn).map clE) := fun _ he => by obtain ⟨x, _, rfl⟩ := List.mem_map.1 he; exact ⟨_, rfl⟩
theorem hd_wa (s : St) : Hd 119 ((rowL s.waf s.wn).map waE) := fun _ he => by obtain ⟨x, _, rfl⟩ := List.mem_map.1 he; exact ⟨_, rfl⟩
theorem Hd.before {c d : UInt8} {l m : List En} (hl : Hd c l) (hm : Hd d m) (h : c < d) : ∀ a ∈ l, ∀ b ∈ m, a.k < b.k := fun a ha b hb => by
  obtain ⟨r, hr⟩ := hl a ha
  obtain ⟨q, hq⟩ := hm b hb
  rw [hr, hq]
  exact head_lt h
theorem rise_app {l m : List En} (hl : Rise l) (hm : Rise m) (h : ∀ a ∈ l, ∀ b ∈ m, a.k < b.k) : Rise (l ++ m) := List.pairwise_append.2 ⟨hl, hm, h⟩
theorem KeysOk.rise {s : St} (h : KeysOk s) : Rise (keysL s) := by
  have d : Rise (defsL s) := defsN_rise (fun a => prT (s.df a)) s.dn (by have := h.dn; omega) (fun j hj => by have := (h.d j hj).2.2; rw [prT_len]; omega)
  have c : Rise (headL s) := by
    unfold headL Rise
    split
    · exact List.Pairwise.nil
    · exact List.pairwise_singleton _ _
  have A : ∀ {l m n : List En}, (∀ a ∈ l, ∀ b ∈ m, a.k < b.k) → (∀ a ∈ l, ∀ b ∈ n, a.k < b.k) → ∀ a ∈ l, ∀ b ∈ m ++ n, a.k < b.k := fun h1 h2 a ha b hb => by
    rcases List.mem_append.1 hb with hb | hb
    · exact h1 a ha b hb
    · exact h2 a ha b hb
  unfold keysL
  refine rise_app c (rise_app d (rise_app h.i.rise (rise_app h.v.rise h.w.rise ?_) (A ?_ ?_)) (A ?_ (A ?_ ?_))) (A ?_ (A ?_ (A ?_ ?_)))
  · exact (hd_cl s).before (hd_wa s) (by decide)
  · exact (hd_it s).before (hd_cl s) (by decide)
  · exact (hd_it s).before (hd_wa s) (by decide)
  · exact (hd_defs s).before (hd_it s) (by decide)
  · exact (hd_defs s).before (hd_cl s) (by decide)
  · exact (hd_defs s).before (hd_wa s) (by decide)
  · exact (hd_head s).before (hd_defs s) (by decide)
  · exact (hd_head s).before (hd_it s) (by decide)
  · exact (hd_head s).before (hd_cl s) (by decide)
  · exact (hd_head s).before (hd_wa s) (by decide)
theorem keys_parts (s : St) : (keysL s).filter (fun e => decide (e.k.head? = some 99)) = headL s ∧ (keysL s).filter (fun e => decide (e.k.head? = some 100)) = defsL s ∧
    (keysL s).filter (fun e => decide (e.k.head? = some 105)) = (rowL s.itf s.im).map itE ∧ (keysL s).filter (fun e => decide (e.k.head? = some 118)) = (rowL s.clf s.cn).map clE ∧
    (keysL s).filter (fun e => decide (e.k.head? = some 119)) = (rowL s.waf s.wn).map waE := by
  unfold keysL
  simp only [List.filter_append]
  refine ⟨?_, ?_, ?_, ?_, ?_⟩
  · rw [(hd_head s).filter_yes, (hd_defs s).filter_no (by decide), (hd_it s).filter_no (by decide), (hd_cl s).filter_no (by decide), (hd_wa s).filter_no (by decide)]; simp
  · rw [(hd_head s).filter_no (by decide), (hd_defs s).filter_yes, (hd_it s).filter_no (by decide), (hd_cl s).filter_no (by decide), (hd_wa s).filter_no (by decide)]; simp
  · rw [(hd_head s).filter_no (by decide), (hd_defs s).filter_no (by decide), (hd_it s).filter_yes, (hd_cl s).filter_no (by decide), (hd_wa s).filter_no (by decide)]; simp
  · rw [(hd_head s).filter_no (by decide), (hd_defs s).filter_no (by decide), (hd_it s).filter_no (by decide), (hd_cl s).filter_yes, (hd_wa s).filter_no (by decide)]; simp
  · rw [(hd_head s).filter_no (by decide), (hd_defs s).filter_no (by decide), (hd_it s).filter_no (by decide), (hd_cl s).filter_no (by decide), (hd_wa s).filter_yes]; simp
theorem head_inj {a b : St} (ha : KeysOk a) (hb : KeysOk b) (h : headL a = headL b) : a.clock = b.clock ∧ a.next = b.next := by
  unfold headL headE at h
  by_cases h1 : a.clock = 0 ∧ a.next = 0
  · rw [if_pos h1] at h
    by_cases h2 : b.clock = 0 ∧ b.next = 0
    · omega
    · rw [if_neg h2] at h; cases h
  · rw [if_neg h1] at h
    by_cases h2 : b.clock = 0 ∧ b.next = 0
    · rw [if_pos h2] at h; cases h
    · rw [if_neg h2] at h
      simp only [List.cons.injEq, En.mk.injEq, true_and, and_true] at h
      obtain ⟨e1, h⟩ := pf_num _ _ _ _ ha.c hb.c h
      obtain ⟨e2, -⟩ := pf_num _ _ [] [] ha.n hb.n (by rw [h])
      exact ⟨e1, e2⟩
/-- two states' keys are alike just if the states are the same -/
theorem keys_same {a b : St} (ha : KeysOk a) (hb : KeysOk b) (fa : a.fit) (fb : b.fit) : keysL a = keysL b ↔ sameS a b = true := by
  rw [sameS_iff]
  constructor
  · intro h
    obtain ⟨a1, a2, a3, a4, a5⟩ := keys_parts a
    obtain ⟨b1, b2, b3, b4, b5⟩ := keys_parts b
    rw [← h] at b1 b2 b3 b4 b5
    have h1 := head_inj ha hb (a1.symm.trans b1)
    have h2 := defsN_inj (f := fun j => prT (a.df j)) (g := fun j => prT (b.df j)) ha.dn hb.dn (fun j _ => prT_ne _) (fun j _ => prT_ne _) (a2.symm.trans b2)
    have pI : ∀ s : St, s.fit → AllOk itE itOk s.itf s.im → ∀ x ∈ rowL s.itf s.im, itOk x = true ∧ x.fit := fun s hf ho x hx => by
      obtain ⟨j, hj, rfl⟩ := mem_row hx
      exact ⟨(ho j hj).1, hf.2.1 j⟩
    have pW : ∀ s : St, s.fit → AllOk waE waOk s.waf s.wn → ∀ x ∈ rowL s.waf s.wn, waOk x = true ∧ x.fit := fun s hf ho x hx => by
      obtain ⟨j, hj, rfl⟩ := mem_row hx
      exact ⟨(ho j hj).1, hf.2.2 j⟩
    refine ⟨h1.1, h1.2, ?_, ?_, ?_, ?_⟩
    · have e : ∀ (h : Nat → Pr) k, (rowL h k).map Pr.pp = rowL (fun j => (h j).pp) k := fun h k => by unfold rowL; rw [List.map_map]; rfl
      rw [e, e, row_eq]
      refine ⟨h2.1, fun j hj => ?_⟩
      have p := ha.d j hj
      have q := hb.d j (by rw [← h2.1]; exact hj)
      exact written_alike p.1 q.1 (fa.1 j) (fb.1 j) p.2.1 q.2.1 (h2.2 j hj)
    · exact map_inj_on (P := fun x : It => itOk x = true ∧ x.fit) (fun x y hx hy => itE_inj hx.1 hy.1 hx.2 hy.2) _ _ (pI a fa ha.i) (pI b fb hb.i) (a3.symm.trans b3)
    · exact map_inj_on (P := fun x : Cl => clOk x = true) (fun x y hx hy => clE_inj hx hy) _ _ ha.v.mem hb.v.mem (a4.symm.trans b4)
    · exact map_inj_on (P := fun x : Wa => waOk x = true ∧ x.fit) (fun x y hx hy => waE_inj hx.1 hy.1 hx.2 hy.2) _ _ (pW a fa ha.w) (pW b fb hb.w) (a5.symm.trans b5)
  · rintro ⟨h1, h2, h3, h4, h5, h6⟩
    unfold keysL
    rw [h4, h5, h6]
    have e1 : headL a = headL b := by unfold headL headE; rw [h1, h2]
    have e : ∀ (h : Nat → Pr) k, (rowL h k).map Pr.pp = rowL (fun j => (h j).pp) k := fun h k => by unfold rowL; rw [List.map_map]; rfl
    rw [e, e, row_eq] at h3
    have e2 : defsL a = defsL b := by
      unfold defsL
      rw [h3.1]
      have : ∀ l : List Nat, (∀ j ∈ l, j < a.dn) → (l.flatMap fun at_ => piecesL at_ (prT (a.df at_))) = l.flatMap fun at_ => piecesL at_ (prT (b.df at_)) := by
        intro l
        induction l with
        | nil => intro _; rfl
        | cons x l ih =>
          intro hl
          rw [List.flatMap_cons, List.flatMap_cons, ih fun j hj => hl j (List.mem_cons_of_mem _ hj)]
          have : prB (a.df x) = prB (b.df x) := by rw [prB_pp, prB_pp]; exact congrArg ppB (h3.2 x (hl x List.mem_cons_self))
          unfold prT
          rw [this]
      exact this _ fun j hj => by rw [h3.1]; exact List.mem_range.1 hj
    rw [e1, e2]
end Go.Proofs.YtjakdbahopbggaaGreatDoor
