/- Appends of entries onto rows of one's own; what slices.Grow returns at nil, and slices.Concat. Conditions: at most 100000 entries. -/
import Derived.Test.YtjakdbahopbggaaGreatDoorZSv4h
import Derived.Test.YtjakdbahopbggaaGreatDoorZOmA
import Derived.Deep.DeepAppendWide
import Derived.Deep.LoopGhost
section
namespace Go.Proofs.YtjakdbahopbggaaGreatDoor
open Go.RowKit Go.Ow Go.Wi

theorem enC_one (l : List En) : ∀ u ∈ l.flatMap enC, u.oneCell' = true := by
  intro u hu
  obtain ⟨e, _, he⟩ := List.mem_flatMap.1 hu
  simp only [enC, List.mem_cons, List.not_mem_nil, or_false] at he
  rcases he with rfl | rfl <;> rfl
theorem enC_get : ∀ (l : List En) (j : Nat) (u : Value), (l.flatMap enC)[j]? = some u → ∃ e, l[j / 2]? = some e ∧ ((j % 2 = 0 ∧ u = strL' e.k) ∨ (j % 2 = 1 ∧ u = strL' e.v))
  | [], j, u, h => by simp at h
  | a :: l, 0, u, h => ⟨a, rfl, .inl ⟨rfl, by simpa [enC] using h.symm⟩⟩
  | a :: l, 1, u, h => ⟨a, rfl, .inr ⟨rfl, by simpa [enC] using h.symm⟩⟩
  | a :: l, j + 2, u, h => by
    obtain ⟨e, h1, h2⟩ := enC_get l j u (by rw [← h]; rfl)
    refine ⟨e, by rw [show (j + 2) / 2 = j / 2 + 1 by omega]; exact h1, ?_⟩
    rcases h2 with ⟨h3, h4⟩ | ⟨h3, h4⟩
    · exact .inl ⟨by omega, h4⟩
    · exact .inr ⟨by omega, h4⟩
theorem EnA.news {w : World} {a : Addr} {l : List En} (h : EnA w (some a) l) : ∀ j u, (l.flatMap enC)[j]? = some u → w.cell? (a.add j) = some u := by
  intro j u hj
  obtain ⟨e, h1, h2⟩ := enC_get l j u hj
  obtain ⟨b, off, e0, _, c0, c1⟩ := h _ _ h1
  simp only [Option.some.injEq] at e0
  subst e0
  rw [Addr.add_lit]
  rcases h2 with ⟨h3, rfl⟩ | ⟨h3, rfl⟩
  · rw [← c0, show off + j = off + j / 2 * 2 by omega]
  · rw [← c1, show off + j = off + j / 2 * 2 + 1 by omega]
/-- append of nothing -/
theorem run_app_nil {P : Program} {w : World} {base : Nat} {t ty e : TypeId} {i : TypeInfo} {size : Nat} (ht : P.underlying t = some (.slice e)) (hi : P.info? e = some i) {v : Value} {n : Nat} {xs : List Value}
    (hown : w.ownsRow base e size v n xs) (c : Nat) : (Builtin.append_ #[t, t] ty #[v, .slice none 0 c]).run P w = .ok v w := by
  rcases hown.2 with ⟨rfl, rfl⟩ | ⟨g, cap, cur, rfl, _, _, hnc, _⟩
  · simp [Builtin.append_, run_underlying ht, sizeOf, typeInfo, hi, Builtin.lenOf, Builtin.firstCells]
  · simp [Builtin.append_, run_underlying ht, sizeOf, typeInfo, hi, Builtin.lenOf, Builtin.firstCells, hnc, storeCells]
set_option maxRecDepth 100000 in
theorem run_app_en (w : World) (B : Nat) (v : Value) (n : Nat) (l : List En) (hown : w.ownsRow B 42 2 v n (l.flatMap enC)) (o : Option Addr) (m : List En) (q c : Nat) (ty : TypeId) (hq : m.length = q) (h : EnA w o m) (hm : n + q ≤ 1000000) (hbase : B ≤ w.heap.size) :
    ∃ v' w', (Builtin.append_ #[30, 30] ty #[v, .slice o q c]).run Tryz.prog w = .ok v' w' ∧ w'.ownsRow B 42 2 v' (n + q) ((l ++ m).flatMap enC) ∧ w.grownBy w' v.ownBlock := by
  cases o with
  | none =>
    have m0 : m = [] := by
      cases m with
      | nil => rfl
      | cons x m => obtain ⟨b, off, e, _⟩ := h 0 x rfl; cases e
    subst m0
    subst hq
    refine ⟨v, w, run_app_nil (i := (Tryz.prog.info? 42).get (by rfl)) Tryz.underlying30 (by rfl) hown c, ?_, ⟨rfl, rfl, rfl, Nat.le_refl _, fun _ _ _ => rfl⟩⟩
    simpa using hown
  | some a =>
    obtain ⟨v', w', h1', h2', h3', _⟩ := run_append_own_wide (P := Tryz.prog) w B 30 ty 42 _ _ 2 32 Tryz.underlying30 (by rfl) (by rfl) (by rfl) (by rfl) (by rfl) (by decide) v n (l.flatMap enC) hown a q c (m.flatMap enC) (by rw [enC_len, hq]) h.news (enC_one m) (by unfold maxLen; omega) (by omega) hbase
    exact ⟨v', w', h1', by rw [List.flatMap_append]; exact h2', h3'⟩
theorem wpList_appen (w : World) {ops : Array Oper} {rest : List Oper} {o : Oper} {a : Act} {Q : Exit → Act → World → Prop} (hgd : o.guard = none) (s x : Operand)
    (ho : o.op = .call { callee := .builtin .append, args := #[s, x], argTypes := #[30, 30] })
    {B n : Nat} {v : Value} {l : List En} (hs : a.eval s = v) (h : w.ownsRow B 42 2 v n (l.flatMap enC)) (oo : Option Addr) (m : List En) (q c : Nat) (hx : a.eval x = .slice oo q c) (hq : m.length = q) (hm : EnA w oo m)
    (hb : n + q ≤ 1000000) (hbase : B ≤ w.heap.size)
    (hK : ∀ v' w', w'.ownsRow B 42 2 v' (n + q) ((l ++ m).flatMap enC) → w.grownBy w' v.ownBlock → wpList Tryz.prog ops Q rest (a.put o.dst v') w') : wpList Tryz.prog ops Q (o :: rest) a w := by
  refine wpList_plain hgd fun K hK' => ?_
  obtain ⟨v', w', hrun, r1, r2⟩ := run_app_en w B v n l h oo m q c o.type hq hm hb hbase
  unfold Oper.wp
  simp [execOp, ho, resolve, invoke, builtin, hs, hx, hrun, Result.andThen]
  exact hK' _ _ (hK v' w' r1 r2)
/-- Grow of nil -/
theorem own_empty {w : World} {n : Nat} (hn : n ≤ 100000) : (w.drew.alloc (.cells ⟨([] ++ (Builtin.zeroCells #[.string ⟨#[]⟩, .string ⟨#[]⟩] n).toList) ++ (Builtin.zeroCells #[.string ⟨#[]⟩, .string ⟨#[]⟩] (grownCap w (0 + n) 0 42 - (0 + n))).toList⟩ 42)).ownsRow w.heap.size 42 2 (.slice (some ⟨w.heap.size, 0, none⟩) 0 (grownCap w (0 + n) 0 42)) 0 [] := by
  have hc := grownCap_ge w (0 + n) 0 42
  have hc2 := grownCap_le_maxLen w (0 + n) 0 42 (by unfold maxLen; omega)
  refine ⟨rfl, .inr ⟨w.heap.size, _, _, rfl, Nat.le_refl _, heap_alloc_new w.drew _, Nat.zero_le _, hc2, ?_, rfl⟩⟩
  simp only [Nat.zero_add] at hc hc2
  simp [Builtin.zeroCells]
  omega
set_option maxRecDepth 100000 in
theorem wpList_grown (w : World) {ops : Array Oper} {rest : List Oper} {o : Oper} {a : Act} {Q : Exit → Act → World → Prop} (hgd : o.guard = none) (s x : Operand)
    (ho : o.op = .call { callee := .builtin .append, args := #[s, x], argTypes := #[30, 3] }) (n : Nat) (hs : a.eval s = .slice none 0 0) (hx : a.eval x = .int .i64 n) (h0 : 0 < n) (hn : n ≤ 100000)
    (hK : ∀ g cap w', n ≤ cap → w'.ownsRow w.heap.size 42 2 (.slice (some ⟨g, 0, none⟩) 0 cap) 0 [] → Below w.heap.size w w' → wpList Tryz.prog ops Q rest (a.put o.dst (.slice (some ⟨g, 0, none⟩) n cap)) w') : wpList Tryz.prog ops Q (o :: rest) a w := by
  refine wpList_plain hgd fun K hK' => ?_
  have hrun := Go.Om.app_zero (P := Tryz.prog) (w := w) (t := 30) (t' := 3) (ty := o.type) (q' := .i64) Tryz.underlying30 Tryz.underlying3 (by rfl) (by rfl) h0 hn (by decide) (by decide)
  have ho1 := own_empty (w := w) hn
  have hcap := grownCap_ge w (0 + n) 0 42
  rw [Nat.zero_add] at hcap
  have hb := ((Below.refl w.heap.size w).drew).alloc (Nat.le_refl _) (.cells ⟨([] ++ (Builtin.zeroCells #[.string ⟨#[]⟩, .string ⟨#[]⟩] n).toList) ++ (Builtin.zeroCells #[.string ⟨#[]⟩, .string ⟨#[]⟩] (grownCap w (0 + n) 0 42 - (0 + n))).toList⟩ 42)
  unfold Oper.wp
  simp [execOp, ho, resolve, invoke, builtin, hs, hx, hrun, Result.andThen]
  rw [Nat.zero_add] at ho1 hb
  exact hK' _ _ (hK _ _ _ hcap ho1 hb)
set_option maxRecDepth 100000 in
set_option maxHeartbeats 2000000 in
theorem grow_nil (n : Nat) (w : World) (hn : n ≤ 100000) : Calls Tryz.prog 44 #[.slice none 0 0, .int .i64 n] w fun e w' => ∃ u, e = .returned u ∧ w'.ownsRow w.heap.size 42 2 u 0 [] ∧ Below w.heap.size w w' := by
  by_cases h0 : n = 0
  · subst h0
    go_enter Tryz.func44, Tryz.ntmps44
    go_wp2
    go_ret
    exact ⟨_, rfl, ⟨rfl, .inl ⟨rfl, rfl⟩⟩, Below.refl _ _⟩
  · have hpos : 0 < n := by omega
    have hpi : (0 : Int) < n := by omega
    have hpi2 : (0 : Int) ≤ n := by omega
    go_enter Tryz.func44, Tryz.ntmps44
    go_wp2_with (at_builtin; refine wpList_grown _ rfl (.tmp 20) (.tmp 21) rfl n rfl rfl hpos hn ?_)
    intro g cap w1 hcap ho1 hb1
    have HO := Lib.hid ho1
    have HB := Lib.hid hb1
    clear ho1 hb1
    go_wp2
    go_ret
    exact ⟨_, rfl, HO.out, HB.out⟩
end Go.Proofs.YtjakdbahopbggaaGreatDoor
end
/- What slices.Concat returns on rows of entries. Conditions: at most 100000 entries. -/
section
namespace Go.Proofs.YtjakdbahopbggaaGreatDoor
open Go.RowKit Go.Ow Go.Wi

/-- m rows of entries, told one behind the other -/
def Rows (w : World) (oo : Option Addr) (m : Nat) (O : Nat → Option Addr) (LL : Nat → List En) (CC : Nat → Nat) : Prop := ∀ k, k < m → ∃ B off, oo = some ⟨B, off, none⟩ ∧ B < w.heap.size ∧ w.cell? ⟨B, off + k, none⟩ = some (.slice (O k) (LL k).length (CC k)) ∧ EnA w (O k) (LL k)
theorem Rows.below {w wr : World} {oo : Option Addr} {m : Nat} {O : Nat → Option Addr} {LL : Nat → List En} {CC : Nat → Nat} (h : Rows w oo m O LL CC) (hb : Below w.heap.size w wr) : Rows wr oo m O LL CC := fun k hk => by
  obtain ⟨B, off, h1, h2, h3, h4⟩ := h k hk
  exact ⟨B, off, h1, Nat.lt_of_lt_of_le h2 hb.size, (hb.cell (p := Addr.mk B (off + k) Option.none) h2).trans h3, h4.below hb⟩
def cat_ (LL : Nat → List En) (k : Nat) : List En := (List.range k).flatMap LL
theorem cat_snoc (LL : Nat → List En) (k : Nat) : cat_ LL (k + 1) = cat_ LL k ++ LL k := by unfold cat_; rw [List.range_succ, List.flatMap_append]; simp
theorem cat_le (LL : Nat → List En) : ∀ m k, k ≤ m → (cat_ LL k).length ≤ (cat_ LL m).length
  | 0, k, h => by obtain rfl : k = 0 := by omega
                  exact Nat.le_refl _
  | m + 1, k, h => by
    by_cases e : k = m + 1
    · subst e; exact Nat.le_refl _
    · have := cat_le LL m k (by omega)
      rw [cat_snoc, List.length_append]
      omega
set_option maxRecDepth 100000 in
set_option maxHeartbeats 8000000 in
theorem concat_en (oo : Option Addr) (m c : Nat) (O : Nat → Option Addr) (LL : Nat → List En) (CC : Nat → Nat) (w : World) (h : Rows w oo m O LL CC) (hm : m ≤ 100) (ht : (cat_ LL m).length ≤ 100000) :
    Calls Tryz.prog 26 #[.slice oo m c] w fun e w' => ∃ u, e = .returned u ∧ EnO w' w.heap.size u (cat_ LL m) ∧ Below w.heap.size w w' := by
  have HR := Lib.hid h
  have HT := Lib.hid ht
  clear h
  go_enter Tryz.func26, Tryz.ntmps26
  go_wp2
  go_loopg [3, 11] m (fun g S N wr => ∃ k : Nat, k + g = m ∧ S = .int .i64 (cat_ LL k).length ∧ N = .int .i64 k ∧ Hid (w = wr))
  case atStart => exact ⟨0, by omega, rfl, rfl, Lib.hid rfl⟩
  case round =>
    obtain ⟨k, hk, rfl, rfl, HW⟩ := hrel
    have e0 := HW.out
    subst e0
    by_cases hlt : k < m
    · obtain ⟨B, off, rfl, hB, c0, he⟩ := HR.out k hlt
      have i1 : (k : Int) < (m : Int) := by omega
      have i2 : (0 : Int) ≤ (k : Int) := by omega
      have hle := cat_le LL m (k + 1) hlt
      have hsn : (cat_ LL (k + 1)).length = (cat_ LL k).length + (LL k).length := by rw [cat_snoc, List.length_append]
      have HS := Lib.hid hsn
      obtain ⟨p, hp⟩ : ∃ p, (cat_ LL k).length = p := ⟨_, rfl⟩
      obtain ⟨q, hq⟩ : ∃ q, (LL k).length = q := ⟨_, rfl⟩
      rw [hp, hq] at hsn HS
      rw [hsn] at hle
      rw [hq] at c0
      rw [hp]
      clear he hsn hp hq
      have hneg : ¬ ((p : Int) + (q : Int) < 0) := by omega
      go_wp2
      go_roundg (m - (k + 1))
      case measure => omega
      case rel => exact ⟨k + 1, by omega, by rw [HS.out]; go_num, by go_num, Lib.hid rfl⟩
    · obtain rfl : k = m := by omega
      go_wp2_with (go_at_call 44; refine (grow_nil (cat_ LL k).length _ HT.out).mono ?_; rintro e w1 ⟨u, rfl, ho1, hb1⟩)
      have HO1 := Lib.hid ho1
      have HB1 := Lib.hid hb1
      clear ho1 hb1 hlt
      go_loopg [6, 27] k (fun g V N w2 => ∃ j : Nat, j + g = k ∧ N = .int .i64 j ∧ Hid (w2.ownsRow w.heap.size 42 2 V (cat_ LL j).length ((cat_ LL j).flatMap enC)) ∧ Hid (Below w.heap.size w w2))
      case atStart => exact ⟨0, by omega, rfl, HO1, HB1⟩
      case round =>
        obtain ⟨j, hj, rfl, HO, HB⟩ := hrel
        by_cases hlt : j < k
        · obtain ⟨B, off, rfl, hB, c0, he⟩ := (HR.out.below HB.out) j hlt
          have i1 : (j : Int) < (k : Int) := by omega
          have i2 : (0 : Int) ≤ (j : Int) := by omega
          have hle := cat_le LL k (j + 1) hlt
          have hsn : (cat_ LL (j + 1)).length = (cat_ LL j).length + (LL j).length := by rw [cat_snoc, List.length_append]
          have hbd : (cat_ LL j).length + (LL j).length ≤ 1000000 := by omega
          have hbase := HB.out.size
          have HE := Lib.hid he
          have HS := Lib.hid hsn
          clear he hle hsn
          go_wp2_with (at_builtin; refine wpList_appen _ rfl (.tmp 31) (.tmp 32) rfl rfl HO.out (O j) (LL j) (LL j).length (CC j) rfl rfl HE.out hbd hbase ?_)
          intro v' w4 ho4 hg4
          have HO4 : Hid (w4.ownsRow w.heap.size 42 2 v' (cat_ LL (j + 1)).length ((cat_ LL (j + 1)).flatMap enC)) := Lib.hid (by rw [HS.out, cat_snoc]; simpa only [List.flatMap_append] using ho4)
          have HB4 : Hid (Below w.heap.size w w4) := Lib.hid (HB.out.grown hg4 hbase (fun g hg => (ownC_blk HO.out g hg).1))
          clear ho4 hg4
          go_wp2
          go_roundg (k - (j + 1))
          case measure => omega
          case rel => exact ⟨j + 1, by omega, by go_num, HO4, HB4⟩
        · obtain rfl : j = k := by omega
          go_wp2
          go_ret
          exact ⟨_, rfl, HO.out, HB.out⟩
end Go.Proofs.YtjakdbahopbggaaGreatDoor
end
