/- A process that is read: its data, how it lies in memory, what its fields may be. Conditions: none. -/
import Derived.Test.YtblebjgjomamdaaDoorCr4
namespace Go.Proofs.YtblebjgjomamdaaDoor
open Go.RowKit Go.Ow Go.Wi

structure PPr where
  name : ByteArray
  vs : List Va
  ns : List PNod
  fs : List Fl
def Pr.pp (x : Pr) : PPr := ⟨x.name, rowL x.vf x.vm, (rowL x.nf x.nn).map Nod.pn, rowL x.ff x.fn⟩
def rdA (c : Cs) : List Va × Cs := Cs.list rdVar c.text.2
def rdB (c : Cs) : List PNod × Cs := Cs.list rdNode (rdA c).2
def rdC (c : Cs) : List Fl × Cs := Cs.list rdFlow (rdB c).2
def rdProc (c : Cs) : PPr × Cs := (⟨⟨c.text.1.toArray⟩, (rdA c).1, (rdB c).1, (rdC c).1⟩, (rdC c).2)

-- what the fields may be
theorem Rs.text_size (m : Nat) (r : Rs) : (r.text m).1.1.length ≤ m := by
  obtain ⟨l, e⟩ := r
  by_cases he : e = 0
  · subst he
    cases hn : (Rs.mk l 0).text m with
    | mk p r2 =>
      obtain ⟨t, c⟩ := p
      by_cases hc : c = 0
      · subst hc
        have := (Rs.text_ok hn).2.2.1
        simp only
        omega
      · have e1 : t = [] := by
          unfold Rs.text at hn
          cases hq : (Rs.mk l 0).num 1099511627776 with
          | mk p r' =>
            obtain ⟨n, e⟩ := p
            rw [hq] at hn
            simp only at hn
            split at hn
            · simp only [Prod.mk.injEq] at hn; exact hn.1.1.symm
            · split at hn
              · simp only [Prod.mk.injEq] at hn; exact hn.1.1.symm
              · split at hn
                · simp only [Prod.mk.injEq] at hn; exact hn.1.1.symm
                · simp only [Prod.mk.injEq] at hn; exact absurd hn.1.2.symm hc
        simp only [e1, List.length_nil]
        omega
  · have : (Rs.mk l e).text m = (([], e), ⟨l, e⟩) := by simp [Rs.text, Rs.num, he]
    rw [this]
    simp
theorem Cs.text_size (c : Cs) : c.text.1.length ≤ 4000 := Rs.text_size 4000 _
theorem value_fit (r : Rs) : r.value.1.1.k < 256 ∧ -9223372036854775808 ≤ r.value.1.1.n ∧ r.value.1.1.n ≤ 9223372036854775807 ∧ r.value.1.1.t.length ≤ 40 := by
  have z : ∀ v : Vl, v = Vl.zero → v.k < 256 ∧ -9223372036854775808 ≤ v.n ∧ v.n ≤ 9223372036854775807 ∧ v.t.length ≤ 40 := by rintro v rfl; simp [Vl.zero]
  obtain ⟨l, e⟩ := r
  by_cases he : e = 0
  · subst he
    cases hn : (Rs.mk l 0).value with
    | mk p r2 =>
      obtain ⟨v, c⟩ := p
      by_cases hc : c = 0
      · subst hc
        obtain ⟨_, h2, h3, h4⟩ := value_inv hn
        have h5 := Wr.may_cases h2
        rw [Wr.size_mk] at h5
        exact ⟨by simp only; omega, h3, h4, by simp only; omega⟩
      · exact z _ (value_bad hn hc).1
  · have : (Rs.mk l e).value = ((Vl.zero, e), ⟨l, e⟩) := by simp [Rs.value, Rs.num, he]
    rw [this]
    exact z _ rfl
theorem rep_all {α : Type} {one : Cs → α × Cs} {P : α → Prop} (h : ∀ c, P (one c).1) : ∀ n c, ∀ x ∈ (rep one n c).1, P x
  | 0, c, x, hx => by simp [rep] at hx
  | n + 1, c, x, hx => by
    rw [rep] at hx
    split at hx
    · cases hx
    · rcases List.mem_cons.1 hx with rfl | hx
      · exact h c
      · exact rep_all h n _ x hx
theorem Cs.list_all {α : Type} {one : Cs → α × Cs} {P : α → Prop} (h : ∀ c, P (one c).1) (c : Cs) : ∀ x ∈ (Cs.list one c).1, P x := rep_all h _ _
theorem mk_le {l : List UInt8} {n : Nat} (h : l.length ≤ n) : (⟨l.toArray⟩ : ByteArray).size ≤ n := by rw [mk_size]; exact h
theorem rdVar_fit (c : Cs) : (rdVar c).1.fit := by
  have h1 := value_fit c.text.2.r
  have h2 := Cs.text_size c
  exact ⟨mk_le (Nat.le_trans h2 (by omega)), h1.1, h1.2.1, h1.2.2.1, mk_le (Nat.le_trans h1.2.2.2 (by omega))⟩
theorem rdStr_fit (c : Cs) : (rdStr c).1.size ≤ 9223372036854775807 := mk_le (Nat.le_trans (Cs.text_size c) (by omega))
theorem rdFlow_fit (c : Cs) : (rdFlow c).1.fit := by
  have h1 := c.num_le
  have h2 := c.num.2.num_le
  have h3 := Cs.text_size c.num.2.num.2
  exact ⟨by show (-9223372036854775808 : Int) ≤ (c.num.1 : Int); omega, by show (c.num.1 : Int) ≤ 9223372036854775807; omega, by show (-9223372036854775808 : Int) ≤ (c.num.2.num.1 : Int); omega, by show (c.num.2.num.1 : Int) ≤ 9223372036854775807; omega, mk_le (Nat.le_trans h3 (by omega))⟩
theorem nd_fit (a : List UInt8) (k n m ev : Nat) (x y z : List UInt8) (b : Bool) (h1 : a.length ≤ 4000) (h2 : k < 256) (h3 : n ≤ 1099511627776) (h4 : m ≤ 1099511627776) (h5 : ev < 256) (h6 : x.length ≤ 4000) (h7 : y.length ≤ 4000) (h8 : z.length ≤ 4000) :
    (Nd.mk ⟨a.toArray⟩ k ((n : Int) - 1) ((m : Int) - 1) ev ⟨x.toArray⟩ ⟨y.toArray⟩ ⟨z.toArray⟩ b).fit :=
  ⟨mk_le (Nat.le_trans h1 (by omega)), h2, by simp only; omega, by simp only; omega, by simp only; omega, by simp only; omega, h5, mk_le (Nat.le_trans h6 (by omega)), mk_le (Nat.le_trans h7 (by omega)), mk_le (Nat.le_trans h8 (by omega))⟩
theorem Cs.small_lt (c : Cs) : c.small.1 < 256 := Nat.mod_lt _ (by decide)
theorem rdHead_fit (c : Cs) : (rdHead c).1.fit := by
  unfold rdHead
  simp only
  exact nd_fit _ _ _ _ _ _ _ _ _ (Cs.text_size _) (Cs.small_lt _) (Cs.num_le _) (Cs.num_le _) (Cs.small_lt _) (Cs.text_size _) (Cs.text_size _) (Cs.text_size _)
def PNod.fit (p : PNod) : Prop := p.d.fit ∧ (∀ v ∈ p.vs, v.fit) ∧ (∀ s ∈ p.bs, s.size ≤ 9223372036854775807)
theorem rdNode_fit (c : Cs) : (rdNode c).1.fit := by
  unfold rdNode
  simp only [PNod.fit]
  exact ⟨rdHead_fit c, Cs.list_all rdVar_fit (rdHead c).2, Cs.list_all rdStr_fit (Cs.list rdVar (rdHead c).2).2⟩

-- how it lies
theorem ownC_len {w : World} {B C : Nat} {e : TypeId} {n : Nat} {u : Value} {xs : List Value} (h : w.ownsRow B e C u n xs) : n ≤ 9223372036854775807 := by
  rcases h.2 with ⟨_, rfl⟩ | ⟨g, cap, cur, _, _, _, h1, h2, _⟩
  · omega
  · unfold maxLen at h2; omega
theorem own_rc {w : World} {B C : Nat} {e : TypeId} {n c : Nat} {o : Option Addr} {cell : Nat → List Value} (hC : ∀ i, (cell i).length = C) (h : w.ownsRow B e C (.slice o n c) n (rcs cell 0 n)) : n ≤ c ∧ Rc w C cell o n := by
  obtain ⟨o', c', e1, h1, h2, _⟩ := owns_rc hC h
  simp only [Value.slice.injEq, true_and] at e1
  obtain ⟨rfl, rfl⟩ := e1
  exact ⟨h1, h2⟩
theorem own_vr {w : World} {B n c : Nat} {o : Option Addr} {f : Nat → Va} (h : w.ownsRow B 49 4 (.slice o n c) n ((rowL f n).flatMap vcell)) : n ≤ c ∧ Vr w o n f := by
  rw [← rcs_row] at h
  have := own_rc (cell := varL f) (varL_len f) h
  exact ⟨this.1, this.2.vr⟩
theorem own_ss {w : World} {B n c : Nat} {o : Option Addr} {f : Nat → ByteArray} (h : w.ownsRow B 9 1 (.slice o n c) n ((rowL f n).flatMap scell)) : n ≤ c ∧ Ss w o n f := by
  rw [← rcs_row] at h
  have := own_rc (cell := strL f) (strL_len f) h
  exact ⟨this.1, this.2.ss⟩
theorem own_fla {w : World} {B n c : Nat} {o : Option Addr} {f : Nat → Fl} (h : w.ownsRow B 35 4 (.slice o n c) n ((rowL f n).flatMap fcell)) : n ≤ c ∧ FlA w o n f := by
  rw [← rcs_row] at h
  have := own_rc (cell := flowL f) (flowL_len f) h
  exact ⟨this.1, this.2.fla⟩
theorem own_nda {w : World} {B n c : Nat} {o : Option Addr} {f : Nat → Nod} (h : w.ownsRow B 41 11 (.slice o n c) n ((rowL f n).flatMap ncell)) (ha : ∀ k, k < n → (f k).at w) : n ≤ c ∧ NdA w o n f := by
  rw [← rcs_row] at h
  have := own_rc (cell := nodeL f) (nodeL_len f) h
  exact ⟨this.1, this.2.nda ha⟩
def bZ : ByteArray := ⟨#[]⟩
def vZ : Va := ⟨bZ, 0, 0, bZ⟩
def nZ : Nod := ⟨⟨bZ, 0, 0, 0, 0, bZ, bZ, bZ, false⟩, none, 0, 0, fun _ => vZ, none, 0, 0, fun _ => bZ⟩
def fZ : Fl := ⟨0, 0, bZ, false⟩
theorem bZ_le : bZ.size ≤ 9223372036854775807 := by decide
theorem vZ_fit : vZ.fit := ⟨by decide, by decide, by decide, by decide, by decide⟩
theorem nZ_fit : nZ.fit := ⟨⟨by decide, by decide, by decide, by decide, by decide, by decide, by decide, by decide, by decide, by decide⟩, fun _ => vZ_fit, fun _ => bZ_le, by decide, by decide, by decide, by decide⟩
theorem fZ_fit : fZ.fit := ⟨by decide, by decide, by decide, by decide, by decide⟩
theorem lAt_all {α : Type} {P : α → Prop} {d : α} {l : List α} (h : ∀ x ∈ l, P x) (hd : P d) (k : Nat) : P (lAt d l k) := by
  unfold lAt
  rw [List.getD_eq_getElem?_getD]
  cases hk : l[k]? with
  | none => exact hd
  | some x => exact h x (List.mem_of_getElem? hk)
/-- a node, told by its rows alone -/
def Nod.nrm (y : Nod) : Nod := ⟨y.d, y.o, y.m, y.c, lAt vZ (rowL y.f y.m), y.p, y.n, y.q, lAt bZ (rowL y.g y.n)⟩
theorem rowL_nrm {α : Type} (d : α) (f : Nat → α) (n : Nat) : rowL (lAt d (rowL f n)) n = rowL f n := by
  have := rowL_at d (rowL f n)
  rw [rowL_len] at this
  exact this
theorem Nod.nrm_pn (y : Nod) : y.nrm.pn = y.pn := by unfold Nod.nrm Nod.pn; simp only [rowL_nrm]
theorem Nod.nrm_own {w : World} {B0 : Nat} {y : Nod} (h : NodOwn w B0 y) : NodOwn w B0 y.nrm := by unfold NodOwn Nod.nrm; simp only [rowL_nrm]; exact h
theorem Nod.nrm_fit {w : World} {B0 : Nat} {y : Nod} (h : NodOwn w B0 y) (hf : y.pn.fit) : y.nrm.fit :=
  ⟨hf.1, lAt_all hf.2.1 vZ_fit, lAt_all hf.2.2 bZ_le, ownC_len h.1, ownC_len h.2.1, h.2.2.1, h.2.2.2⟩
theorem NodOwn.at {w : World} {B0 : Nat} {y : Nod} (h : NodOwn w B0 y) : y.at w := ⟨(own_vr h.1).2, (own_ss h.2.1).2⟩

/-- a process of rows of one's own -/
theorem mk_pr {w : World} {B0 : Nat} (name : ByteArray) (vs : List Va) (ys : List Nod) (fs : List Fl) (o1 o2 o3 : Option Addr) (p1 p2 p3 : Nat)
    (hv : w.ownsRow B0 49 4 (.slice o1 vs.length p1) vs.length (vs.flatMap vcell)) (hn : w.ownsRow B0 41 11 (.slice o2 ys.length p2) ys.length (ys.flatMap ncell)) (hy : ∀ y ∈ ys, NodOwn w B0 y)
    (hf : w.ownsRow B0 35 4 (.slice o3 fs.length p3) fs.length (fs.flatMap fcell)) (f1 : name.size ≤ 9223372036854775807) (f2 : ∀ v ∈ vs, v.fit) (f3 : ∀ p ∈ ys.map Nod.pn, p.fit) (f4 : ∀ f ∈ fs, f.fit) :
    ∃ x : Pr, x.cs = #[.string name, .slice o1 vs.length p1, .slice o2 ys.length p2, .slice o3 fs.length p3] ∧ (∀ (w' : World) (B1 : Nat), w'.ownsRow B1 49 4 (.slice o1 vs.length p1) vs.length (vs.flatMap vcell) → w'.ownsRow B1 41 11 (.slice o2 ys.length p2) ys.length (ys.flatMap ncell) → (∀ y ∈ ys, NodOwn w' B1 y) → w'.ownsRow B1 35 4 (.slice o3 fs.length p3) fs.length (fs.flatMap fcell) → x.at w') ∧ x.fit ∧ x.pp = ⟨name, vs, ys.map Nod.pn, fs⟩ := by
  have hz : (ys.map Nod.nrm).length = ys.length := List.length_map ..
  have hzn : ∀ z ∈ ys.map Nod.nrm, NodOwn w B0 z ∧ z.fit := by
    intro z hz
    obtain ⟨y, hy1, rfl⟩ := List.mem_map.1 hz
    exact ⟨Nod.nrm_own (hy y hy1), Nod.nrm_fit (hy y hy1) (f3 _ (List.mem_map_of_mem hy1))⟩
  have hcell : (ys.map Nod.nrm).flatMap ncell = ys.flatMap ncell := by rw [List.flatMap_map]; rfl
  have e1 := rowL_at vZ vs
  have e2 := rowL_at nZ (ys.map Nod.nrm)
  rw [hz] at e2
  have e3 := rowL_at fZ fs
  have V := own_vr (f := lAt vZ vs) (by rw [e1]; exact hv)
  have N := own_nda (f := lAt nZ (ys.map Nod.nrm)) (by rw [e2, hcell]; exact hn) (fun k hk => by
    have : lAt nZ (ys.map Nod.nrm) k ∈ ys.map Nod.nrm := by
      unfold lAt
      rw [List.getD_eq_getElem?_getD, List.getElem?_eq_getElem (by rw [hz]; exact hk)]
      exact List.getElem_mem _
    exact (hzn _ this).1.at)
  have F := own_fla (f := lAt fZ fs) (by rw [e3]; exact hf)
  refine ⟨⟨name, o1, vs.length, p1, lAt vZ vs, o2, ys.length, p2, lAt nZ (ys.map Nod.nrm), o3, fs.length, p3, lAt fZ fs⟩, rfl, ?_, ⟨f1, lAt_all f2 vZ_fit, lAt_all (fun z hz => (hzn z hz).2) nZ_fit, lAt_all f4 fZ_fit, ownC_len hv, ownC_len hn, ownC_len hf, V.1, N.1, F.1⟩, ?_⟩
  · intro w' B1 hv' hn' hy' hf'
    refine ⟨(own_vr (f := lAt vZ vs) (by rw [e1]; exact hv')).2, (own_nda (f := lAt nZ (ys.map Nod.nrm)) (by rw [e2, hcell]; exact hn') (fun k hk => ?_)).2, (own_fla (f := lAt fZ fs) (by rw [e3]; exact hf')).2⟩
    have : lAt nZ (ys.map Nod.nrm) k ∈ ys.map Nod.nrm := by
      unfold lAt
      rw [List.getD_eq_getElem?_getD, List.getElem?_eq_getElem (by rw [hz]; exact hk)]
      exact List.getElem_mem _
    obtain ⟨y, hy1, hy2⟩ := List.mem_map.1 this
    show (lAt nZ (ys.map Nod.nrm) k).at w'
    rw [← hy2]
    exact (Nod.nrm_own (hy' y hy1)).at
  unfold Pr.pp
  simp only [e1, e2, e3, PPr.mk.injEq, true_and, and_true, List.map_map]
  congr 1
  funext y
  exact Nod.nrm_pn y
end Go.Proofs.YtblebjgjomamdaaDoor
