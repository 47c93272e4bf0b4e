/- What slices.Equal returns over texts and over variables. Conditions: lengths are lengths. -/
import Derived.Test.YtjakdbahopbggaaGreatDoorZMParts
import Derived.Lib.IfaceEq
section
namespace Go.Proofs.YtjakdbahopbggaaGreatDoor
open Go.RowKit Go.Ow

/-- is p true from k on, m times? -/
def allF (p : Nat → Bool) : Nat → Nat → Bool
  | _, 0 => true
  | k, m + 1 => p k && allF p (k + 1) m
theorem allF_at (p : Nat → Bool) (k n : Nat) (h : k < n) : allF p k (n - k) = (p k && allF p (k + 1) (n - (k + 1))) := by
  have : n - k = n - (k + 1) + 1 := by omega
  rw [this, allF]
theorem allF_end (p : Nat → Bool) (n : Nat) : allF p n (n - n) = true := by rw [Nat.sub_self, allF]
def eqS (m1 m2 : Nat) (f g : Nat → ByteArray) : Bool := decide (m1 = m2) && allF (fun k => decide (f k = g k)) 0 m1

set_option maxHeartbeats 2000000 in
theorem equal_str (o1 o2 : Option Addr) (m1 m2 c1 c2 : Nat) (f g : Nat → ByteArray) (w : World) (h1 : Ss w o1 m1 f) (h2 : Ss w o2 m2 g) (hm : m1 ≤ 9223372036854775807) (hm2 : m2 ≤ 9223372036854775807) :
    Calls Tryz.prog 139 #[.slice o1 m1 c1, .slice o2 m2 c2] w fun e w' => e = .returned (.bool (eqS m1 m2 f g)) ∧ Below w.heap.size w w' := by
  unfold eqS
  by_cases hmm : m1 = m2
  · subst hmm
    rw [decide_eq_true rfl, Bool.true_and]
    have H1 := Lib.hid h1
    have H2 := Lib.hid h2
    clear h1 h2
    obtain ⟨r, hr⟩ : ∃ r, allF (fun k => decide (f k = g k)) 0 m1 = r := ⟨_, rfl⟩
    rw [hr]
    have HR := Lib.hid hr
    clear hr
    go_enter Tryz.func139, Tryz.ntmps139
    go_wp2
    go_loopw [13] (fun i wr => ∃ k : Nat, k ≤ m1 ∧ i = .int .i64 k ∧ Hid (allF (fun k => decide (f k = g k)) k (m1 - k) = r) ∧ Below w.heap.size w wr) (fun i _ => m1 - (intOf i).toNat)
    case atStart => exact ⟨0, Nat.zero_le _, rfl, HR, Below.refl _ _⟩
    case round =>
      obtain ⟨k, hk, rfl, HK, hB⟩ := hrel
      have HB := Lib.hid hB
      clear hB
      by_cases hlt : k < m1
      · obtain ⟨b, off, rfl, hb, c0⟩ := (H1.out.below HB.out) k hlt
        obtain ⟨b', off', rfl, hb', d0⟩ := (H2.out.below HB.out) k hlt
        have E := Lib.hid (allF_at (fun k => decide (f k = g k)) k m1 hlt)
        have i1 : (k : Int) < (m1 : Int) := by omega
        have i2 : (0 : Int) ≤ (k : Int) := by omega
        by_cases hv : f k = g k
        · have HE : Hid (allF (fun k => decide (f k = g k)) (k + 1) (m1 - (k + 1)) = r) := Lib.hid (by have := HK.out; rw [E.out, decide_eq_true hv, Bool.true_and] at this; exact this)
          rw [hv] at c0
          clear hv E
          go_wp2
          go_quiet (fail)
          go_wp2
          go_roundw
          case rel => exact ⟨k + 1, by omega, by go_num, HE, HB.out.trans (Below.drewN _ _)⟩
          case measure => simp [intOf]; omega
        · have HE : Hid (false = r) := Lib.hid (by have := HK.out; rw [E.out, decide_eq_false hv, Bool.false_and] at this; exact this)
          obtain ⟨u, hu⟩ : ∃ u, f k = u := ⟨_, rfl⟩
          obtain ⟨v, hv'⟩ : ∃ u, g k = u := ⟨_, rfl⟩
          rw [hu] at c0 hv
          rw [hv'] at d0 hv
          have n1 := toList_ne hv
          have n2 := toList_beq hv
          clear hu hv hv' E
          go_wp2
          go_quiet (fail)
          go_wp2
          go_ret
          exact ⟨ret_bool HE.out, HB.out.trans (Below.drewN _ _)⟩
      · obtain rfl : k = m1 := by omega
        have HE : Hid (true = r) := Lib.hid (by have := HK.out; rw [allF_end] at this; exact this)
        go_wp2
        go_ret
        exact ⟨ret_bool HE.out, HB.out⟩
  · rw [decide_eq_false hmm, Bool.false_and]
    have n1 : ((m1 : Int) != (m2 : Int)) = true := by simp; omega
    have n2 : ((m1 : Int) == (m2 : Int)) = false := by simp; omega
    clear h1 h2
    go_enter Tryz.func139, Tryz.ntmps139
    go_wp2
    go_ret
    exact ⟨rfl, Below.refl _ _⟩

def sameV (a b : Va) : Bool := decide (a.nm = b.nm ∧ a.k = b.k ∧ a.n = b.n ∧ a.t = b.t)
def eqV (m1 m2 : Nat) (f g : Nat → Va) : Bool := decide (m1 = m2) && allF (fun k => sameV (f k) (g k)) 0 m1

set_option maxHeartbeats 4000000 in
theorem equal_var (o1 o2 : Option Addr) (m1 m2 c1 c2 : Nat) (f g : Nat → Va) (w : World) (h1 : Vr w o1 m1 f) (h2 : Vr w o2 m2 g) (hm : m1 ≤ 9223372036854775807) (hm2 : m2 ≤ 9223372036854775807) :
    Calls Tryz.prog 138 #[.slice o1 m1 c1, .slice o2 m2 c2] w fun e w' => e = .returned (.bool (eqV m1 m2 f g)) ∧ Below w.heap.size w w' := by
  unfold eqV
  by_cases hmm : m1 = m2
  · subst hmm
    rw [decide_eq_true rfl, Bool.true_and]
    have H1 := Lib.hid h1
    have H2 := Lib.hid h2
    clear h1 h2
    obtain ⟨r, hr⟩ : ∃ r, allF (fun k => sameV (f k) (g k)) 0 m1 = r := ⟨_, rfl⟩
    rw [hr]
    have HR := Lib.hid hr
    clear hr
    go_enter Tryz.func138, Tryz.ntmps138
    go_wp2
    go_loopw [13] (fun i wr => ∃ k : Nat, k ≤ m1 ∧ i = .int .i64 k ∧ Hid (allF (fun k => sameV (f k) (g k)) k (m1 - k) = r) ∧ Below w.heap.size w wr) (fun i _ => m1 - (intOf i).toNat)
    case atStart => exact ⟨0, Nat.zero_le _, rfl, HR, Below.refl _ _⟩
    case round =>
      obtain ⟨k, hk, rfl, HK, hB⟩ := hrel
      have HB := Lib.hid hB
      clear hB
      by_cases hlt : k < m1
      · obtain ⟨b, off, rfl, hb, c0, c1, c2, c3⟩ := (H1.out.below HB.out) k hlt
        obtain ⟨b', off', rfl, hb', d0, d1, d2, d3⟩ := (H2.out.below HB.out) k hlt
        have E := Lib.hid (allF_at (fun k => sameV (f k) (g k)) k m1 hlt)
        have i1 : (k : Int) < (m1 : Int) := by omega
        have i2 : (0 : Int) ≤ (k : Int) := by omega
        obtain ⟨u, hu⟩ : ∃ u, f k = u := ⟨_, rfl⟩
        obtain ⟨v, hv⟩ : ∃ u, g k = u := ⟨_, rfl⟩
        rw [hu] at c0 c1 c2 c3 E
        rw [hv] at d0 d1 d2 d3 E
        clear hu hv
        obtain ⟨a, ka, na, ta⟩ := u
        obtain ⟨a', ka', na', ta'⟩ := v
        simp only at c0 c1 c2 c3 d0 d1 d2 d3
        by_cases q : sameV ⟨a, ka, na, ta⟩ ⟨a', ka', na', ta'⟩ = true
        · have HE : Hid (allF (fun k => sameV (f k) (g k)) (k + 1) (m1 - (k + 1)) = r) := Lib.hid (by have := HK.out; rw [E.out, q, Bool.true_and] at this; exact this)
          obtain ⟨rfl, rfl, rfl, rfl⟩ : a = a' ∧ ka = ka' ∧ na = na' ∧ ta = ta' := of_decide_eq_true q
          clear q E
          go_wp2
          go_quiet (fail)
          go_wp2
          go_roundw
          case rel => exact ⟨k + 1, by omega, by go_num, HE, HB.out.trans (Below.drewN _ _)⟩
          case measure => simp [intOf]; omega
        · have HE : Hid (false = r) := Lib.hid (by have := HK.out; rw [E.out, eq_false_of_ne_true q, Bool.false_and] at this; exact this)
          have q' : a ≠ a' ∨ (a = a' ∧ ka ≠ ka') ∨ (a = a' ∧ ka = ka' ∧ na ≠ na') ∨ (a = a' ∧ ka = ka' ∧ na = na' ∧ ta ≠ ta') := by
            have q2 : ¬ (a = a' ∧ ka = ka' ∧ na = na' ∧ ta = ta') := fun h => q (decide_eq_true h)
            by_cases e1 : a = a'
            · by_cases e2 : ka = ka'
              · by_cases e3 : na = na'
                · exact .inr (.inr (.inr ⟨e1, e2, e3, fun e4 => q2 ⟨e1, e2, e3, e4⟩⟩))
                · exact .inr (.inr (.inl ⟨e1, e2, e3⟩))
              · exact .inr (.inl ⟨e1, e2⟩)
            · exact .inl e1
          clear q E
          rcases q' with e | ⟨rfl, e⟩ | ⟨rfl, rfl, e⟩ | ⟨rfl, rfl, rfl, e⟩
          · have n1 := toList_ne e
            have n2 := toList_beq e
            clear e
            go_wp2
            go_quiet (fail)
            go_wp2
            go_ret
            exact ⟨ret_bool HE.out, HB.out.trans (Below.drewN _ _)⟩
          · have n1 : ¬ (ka : Int) = ka' := by omega
            have n2 : ((ka : Int) == ka') = false := by simpa using n1
            clear e
            go_wp2
            go_quiet (fail)
            go_wp2
            go_ret
            exact ⟨ret_bool HE.out, HB.out.trans (Below.drewN _ _)⟩
          · have n2 : (na == na') = false := by simpa using e
            go_wp2
            go_quiet (fail)
            go_wp2
            go_ret
            exact ⟨ret_bool HE.out, HB.out.trans (Below.drewN _ _)⟩
          · have n1 := toList_ne e
            have n2 := toList_beq e
            clear e
            go_wp2
            go_quiet (fail)
            go_wp2
            go_ret
            exact ⟨ret_bool HE.out, HB.out.trans (Below.drewN _ _)⟩
      · obtain rfl : k = m1 := by omega
        have HE : Hid (true = r) := Lib.hid (by have := HK.out; rw [allF_end] at this; exact this)
        go_wp2
        go_ret
        exact ⟨ret_bool HE.out, HB.out⟩
  · rw [decide_eq_false hmm, Bool.false_and]
    have n1 : ((m1 : Int) != (m2 : Int)) = true := by simp; omega
    have n2 : ((m1 : Int) == (m2 : Int)) = false := by simp; omega
    clear h1 h2
    go_enter Tryz.func138, Tryz.ntmps138
    go_wp2
    go_ret
    exact ⟨rfl, Below.refl _ _⟩
end Go.Proofs.YtjakdbahopbggaaGreatDoor
end
/- What sameNode's closure and bare return. Conditions: none. -/
section
namespace Go.Proofs.YtjakdbahopbggaaGreatDoor
open Go.RowKit Go.Ow

/-- a node's plain fields -/
structure Nd where
  name : ByteArray
  kind : Nat
  inn : Int
  on : Int
  event : Nat
  key : ByteArray
  text : ByteArray
  set : ByteArray
  breaks : Bool
abbrev nodeC (d : Nd) (vs bs : Value) : Array Value := #[.string d.name, .int .u8 d.kind, .int .i64 d.inn, .int .i64 d.on, .int .u8 d.event, .string d.key, .string d.text, .string d.set, .bool d.breaks, vs, bs]
abbrev oneC (d : Nd) : Array Value := #[.iface 9 (.string d.name), .iface 5 (.int .u8 d.kind), .iface 3 (.int .i64 d.inn), .iface 3 (.int .i64 d.on), .iface 5 (.int .u8 d.event), .iface 9 (.string d.key), .iface 9 (.string d.text), .iface 9 (.string d.set), .iface 4 (.bool d.breaks)]

set_option maxRecDepth 100000 in
set_option maxHeartbeats 4000000 in
theorem one_any (d : Nd) (o1 o2 : Option Addr) (m1 c1 m2 c2 : Nat) (w : World) :
    Calls Tryz.prog 137 #[.agg (nodeC d (.slice o1 m1 c1) (.slice o2 m2 c2))] w fun e w' => e = .returned (.agg (oneC d)) ∧ Below w.heap.size w w' := by
  obtain ⟨n, k, i, o, ev, ke, te, se, br⟩ := d
  go_enter Tryz.func137, Tryz.ntmps137
  go_wp2
  exact bodyPost_ret (v := .agg (oneC ⟨n, k, i, o, ev, ke, te, se, br⟩)) (by simp [results, Tryz.results137, go_sem]) rfl ⟨rfl, ((Below.refl _ _).alloc (Nat.le_refl _) _).alloc (by simp) _⟩
set_option maxRecDepth 100000 in
set_option maxHeartbeats 4000000 in
theorem bare_any (d : Nd) (o1 o2 : Option Addr) (m1 c1 m2 c2 : Nat) (w : World) :
    Calls Tryz.prog 111 #[.agg (nodeC d (.slice o1 m1 c1) (.slice o2 m2 c2))] w fun e w' => e = .returned (.agg (nodeC { d with name := ⟨#[]⟩, kind := 0, inn := 0, event := 0 } (.slice o1 m1 c1) (.slice o2 m2 c2))) ∧ Below w.heap.size w w' := by
  obtain ⟨n, k, i, o, ev, ke, te, se, br⟩ := d
  go_enter Tryz.func111, Tryz.ntmps111
  go_wp2
  exact bodyPost_ret (v := .agg (nodeC ⟨⟨#[]⟩, 0, 0, o, 0, ke, te, se, br⟩ (.slice o1 m1 c1) (.slice o2 m2 c2))) (by simp [results, Tryz.results111, go_sem]) rfl ⟨rfl, ((Below.refl _ _).alloc (Nat.le_refl _) _).alloc (by simp) _⟩
end Go.Proofs.YtjakdbahopbggaaGreatDoor
end
/- What model.Flow returns. Conditions: lengths are lengths. -/
section
namespace Go.Proofs.YtjakdbahopbggaaGreatDoor
open Go.RowKit Go.Ow

/-- a flow -/
structure Fl where
  fr : Int
  to : Int
  iff : ByteArray
  els : Bool
def Fl.fit (f : Fl) : Prop := -9223372036854775808 ≤ f.fr ∧ f.fr ≤ 9223372036854775807 ∧ -9223372036854775808 ≤ f.to ∧ f.to ≤ 9223372036854775807 ∧ f.iff.size ≤ 9223372036854775807
abbrev flowC (f : Fl) : Array Value := #[.int .i64 f.fr, .int .i64 f.to, .string f.iff, .bool f.els]
def flowE (f : Fl) : Nat := if 100 < f.iff.size then 40 else if f.fr < 0 ∨ f.to < 0 ∨ (f.els = true ∧ f.iff.size ≠ 0) then 4 else 0

set_option maxRecDepth 100000 in
set_option maxHeartbeats 4000000 in
theorem flow_any (f : Fl) (w : World) (hf : f.fit) :
    Calls Tryz.prog 93 #[.agg (flowC f)] w fun e w' => e = .returned (.int .i64 (flowE f)) ∧ Below w.heap.size w w' := by
  obtain ⟨fr, to, iff, els⟩ := f
  obtain ⟨h1, h2, h3, h4, h5⟩ := hf
  simp only at h1 h2 h3 h4 h5
  have HB := Lib.hid ((Below.refl w.heap.size w).alloc (Nat.le_refl _) (.cells (flowC ⟨fr, to, iff, els⟩) 114))
  by_cases a1 : 100 < iff.size
  · have HE : Hid (flowE ⟨fr, to, iff, els⟩ = 40) := Lib.hid (by simp [flowE, a1])
    go_enter Tryz.func93, Tryz.ntmps93
    go_wp2
    go_ret
    exact ⟨ret_int (by rw [HE.out]; rfl), HB.out⟩
  · have a1' : iff.size ≤ 100 := by omega
    by_cases a2 : fr < 0
    · have HE : Hid (flowE ⟨fr, to, iff, els⟩ = 4) := Lib.hid (by simp [flowE, a1, a2])
      go_enter Tryz.func93, Tryz.ntmps93
      go_wp2
      go_ret
      exact ⟨ret_int (by rw [HE.out]; rfl), HB.out⟩
    · by_cases a3 : to < 0
      · have HE : Hid (flowE ⟨fr, to, iff, els⟩ = 4) := Lib.hid (by simp [flowE, a1, a3])
        go_enter Tryz.func93, Tryz.ntmps93
        go_wp2
        go_ret
        exact ⟨ret_int (by rw [HE.out]; rfl), HB.out⟩
      · cases els
        · have HE : Hid (flowE ⟨fr, to, iff, false⟩ = 0) := Lib.hid (by simp [flowE, a1, a2, a3])
          go_enter Tryz.func93, Tryz.ntmps93
          go_wp2
          go_ret
          exact ⟨ret_int (by rw [HE.out]; rfl), HB.out⟩
        · by_cases a4 : iff.size = 0
          · have HE : Hid (flowE ⟨fr, to, iff, true⟩ = 0) := Lib.hid (by simp [flowE, a2, a3, a4])
            obtain rfl := bytes_nil a4
            clear a4
            go_enter Tryz.func93, Tryz.ntmps93
            go_wp2
            go_ret
            exact ⟨ret_int (by rw [HE.out]; rfl), HB.out⟩
          · have HE : Hid (flowE ⟨fr, to, iff, true⟩ = 4) := Lib.hid (by simp [flowE, a1, a4])
            have e1 := bytes_ne a4
            have e2 := bytes_emp a4
            clear a4
            go_enter Tryz.func93, Tryz.ntmps93
            go_wp2
            go_ret
            exact ⟨ret_int (by rw [HE.out]; rfl), HB.out⟩
end Go.Proofs.YtjakdbahopbggaaGreatDoor
end
/- Two nodes' plain fields as interfaces, compared. Conditions: none. -/
section
namespace Go.Proofs.YtjakdbahopbggaaGreatDoor
open Go.RowKit Go.Ow
theorem comp9 : (Tryz.prog.info? 9).map (·.comparable) = some true := by kernel_rfl
theorem comp5 : (Tryz.prog.info? 5).map (·.comparable) = some true := by kernel_rfl
theorem comp3 : (Tryz.prog.info? 3).map (·.comparable) = some true := by kernel_rfl
theorem comp4 : (Tryz.prog.info? 4).map (·.comparable) = some true := by kernel_rfl
theorem eqIn_str (d : Nat) (a b : ByteArray) (w : World) : (Op.equalIn (d + 2) 20 (.iface 9 (.string a)) (.iface 9 (.string b))).run Tryz.prog w = .ok (a == b) w := by
  cases hi : Tryz.prog.info? 9 with
  | none => have := comp9; simp [hi] at this
  | some i =>
    have hcc : i.comparable = true := by have := comp9; simpa [hi] using this
    simp [Op.equalIn, run_underlying Tryz.underlying20, run_underlying Tryz.underlying9, typeInfo, hi, hcc]
theorem eqIn_u8 (d : Nat) (a b : Int) (w : World) : (Op.equalIn (d + 2) 20 (.iface 5 (.int .u8 a)) (.iface 5 (.int .u8 b))).run Tryz.prog w = .ok (a == b) w := by
  cases hi : Tryz.prog.info? 5 with
  | none => have := comp5; simp [hi] at this
  | some i =>
    have hcc : i.comparable = true := by have := comp5; simpa [hi] using this
    simp [Op.equalIn, run_underlying Tryz.underlying20, run_underlying Tryz.underlying5, typeInfo, hi, hcc]
theorem eqIn_i64 (d : Nat) (a b : Int) (w : World) : (Op.equalIn (d + 2) 20 (.iface 3 (.int .i64 a)) (.iface 3 (.int .i64 b))).run Tryz.prog w = .ok (a == b) w := by
  cases hi : Tryz.prog.info? 3 with
  | none => have := comp3; simp [hi] at this
  | some i =>
    have hcc : i.comparable = true := by have := comp3; simpa [hi] using this
    simp [Op.equalIn, run_underlying Tryz.underlying20, run_underlying Tryz.underlying3, typeInfo, hi, hcc]
theorem eqIn_bool (d : Nat) (a b : Bool) (w : World) : (Op.equalIn (d + 2) 20 (.iface 4 (.bool a)) (.iface 4 (.bool b))).run Tryz.prog w = .ok (a == b) w := by
  cases hi : Tryz.prog.info? 4 with
  | none => have := comp4; simp [hi] at this
  | some i =>
    have hcc : i.comparable = true := by have := comp4; simpa [hi] using this
    simp [Op.equalIn, run_underlying Tryz.underlying20, run_underlying Tryz.underlying4, typeInfo, hi, hcc]
theorem size20 : (Tryz.prog.info? 20).map (·.size) = some 1 := by kernel_rfl
def sameN (d e : Nd) : Bool := d.name == e.name && ((d.kind : Int) == e.kind && (d.inn == e.inn && (d.on == e.on && ((d.event : Int) == e.event && (d.key == e.key && (d.text == e.text && (d.set == e.set && (d.breaks == e.breaks))))))))
theorem eqIn_one (d e : Nd) (k : Nat) (w : World) : (Op.equalIn (k + 3) 209 (.agg (oneC d)) (.agg (oneC e))).run Tryz.prog w = .ok (sameN d e) w := by
  rw [Op.equalIn]
  have hp : ∀ (a : Array Value) (i : Nat) (w : World), (part 20 a i).run Tryz.prog w = match a[i]? with
      | some v => .ok v w
      | none => (stuck (α := Value) "part: no such cell").run Tryz.prog w := fun a i w => by
    simp [part]
    cases a[i]? <;> simp
  simp [run_underlying Tryz.underlying209, oneC, List.range', hp, eqIn_str, eqIn_u8, eqIn_i64, eqIn_bool]
  unfold sameN
  by_cases h1 : (d.kind : Int) = e.kind <;> by_cases h2 : d.inn = e.inn <;> by_cases h3 : d.on = e.on <;> by_cases h4 : (d.event : Int) = e.event <;> cases d.name == e.name <;> cases d.key == e.key <;> cases d.text == e.text <;> cases d.set == e.set <;> cases d.breaks <;> cases e.breaks <;> simp [h1, h2, h3, h4]
end Go.Proofs.YtjakdbahopbggaaGreatDoor
end
