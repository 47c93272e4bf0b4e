/- What codec.Decode returns. Conditions: the tables as laid; the bytes are not too many. -/
import Derived.Test.YtblebjgjomamdaaDoorCd0
namespace Go.Proofs.YtblebjgjomamdaaDoor
open Go.RowKit Go.Ow Go.Wi

abbrev zP : Array Value := #[.string ⟨#[]⟩, .slice none 0 0, .slice none 0 0, .slice none 0 0]
/-- the codec's reader of bytes with their sum behind them -/
def cs0 (l : List UInt8) : Cs := ⟨⟨l.take (l.length - 4), 0⟩, false⟩
def decC (l : List UInt8) : Nat := if 4000 < l.length then 40 else if l.length < 4 then 8 else if l.drop (l.length - 4) ≠ sealL (l.take (l.length - 4)) then 9 else 4
/-- what Decode comes to -/
def DecP (l : List UInt8) (w : World) (e : Ending) (w' : World) : Prop :=
  Below w.heap.size w w' ∧ ((e = .returned (.tuple #[.agg zP, .int .i64 (decC l)]) ∧ (decC l = 4 → (rdProc (cs0 l)).2.bad = true ∨ (Wr.Rs.fin (rdProc (cs0 l)).2.r).1 ≠ 0 ∨ ∃ x : Pr, x.pp = (rdProc (cs0 l)).1 ∧ x.e ≠ 0)) ∨
    ∃ x : Pr, e = .returned (.tuple #[.agg x.cs, .int .i64 0]) ∧ x.at w' ∧ x.fit ∧ x.e = 0 ∧ decC l = 4 ∧ x.pp = (rdProc (cs0 l)).1 ∧ (rdProc (cs0 l)).2.bad = false ∧ (Wr.Rs.fin (rdProc (cs0 l)).2.r).1 = 0)
theorem DecP.err {l : List UInt8} {w w' : World} {n : Nat} (hb : Below w.heap.size w w') (hc : decC l = n) (hn : n ≠ 4) : DecP l w (.returned (.tuple #[.agg zP, .int .i64 n])) w' := ⟨hb, .inl ⟨by rw [hc], fun h => absurd (hc.symm.trans h) hn⟩⟩

set_option maxRecDepth 100000 in
set_option maxHeartbeats 4000000 in
theorem dec_few (l : List UInt8) (w : World) (hl : l.length ≤ 1000000) (h : 4000 < l.length ∨ l.length < 4 ∨ l.drop (l.length - 4) ≠ sealL (l.take (l.length - 4))) :
    Calls Tryd.prog 11 #[strL' l] w (DecP l w) := by
  have hsz := mk_size l
  have HB := Lib.hid ((Below.refl w.heap.size w).alloc (Nat.le_refl _) (.cells zP 28))
  by_cases a1 : 4000 < l.length
  · have hc : decC l = 40 := by unfold decC; rw [if_pos a1]
    have HC := Lib.hid hc
    clear h hc
    go_enter Tryd.func11, Tryd.ntmps11
    go_wp2
    refine bodyPost_ret (v := .tuple #[.agg zP, .int .i64 40]) (by simp [results, Tryd.results11, go_sem]) rfl (DecP.err ?_ HC.out (by decide))
    exact HB.out
  have a1' : l.length ≤ 4000 := by omega
  by_cases a2 : l.length < 4
  · have hc : decC l = 8 := by unfold decC; rw [if_neg a1, if_pos a2]
    have HC := Lib.hid hc
    clear h hc
    go_enter Tryd.func11, Tryd.ntmps11
    go_wp2
    refine bodyPost_ret (v := .tuple #[.agg zP, .int .i64 8]) (by simp [results, Tryd.results11, go_sem]) rfl (DecP.err ?_ HC.out (by decide))
    exact HB.out
  have h3 : l.drop (l.length - 4) ≠ sealL (l.take (l.length - 4)) := by
    rcases h with h | h | h
    · omega
    · omega
    · exact h
  have hc : decC l = 9 := by unfold decC; rw [if_neg a1, if_neg a2, if_pos h3]
  have HC := Lib.hid hc
  obtain ⟨m, hm⟩ : ∃ m, l.length = m + 4 := ⟨l.length - 4, by omega⟩
  rw [show l.length - 4 = m by omega] at h3
  have x1 : (⟨l.toArray⟩ : ByteArray).extract 0 m = ⟨(l.take m).toArray⟩ := Wr.ext_take l m
  have x2 : (⟨l.toArray⟩ : ByteArray).extract m (m + 4) = ⟨(l.drop m).toArray⟩ := by rw [← hm]; exact Wr.ext_drop' l m
  rw [hm] at hsz a1'
  have SA := fun w1 => seal_any ⟨(l.take m).toArray⟩ w1 (by rw [mk_size, List.length_take]; omega)
  rw [show (⟨(l.take m).toArray⟩ : ByteArray).data.toList = l.take m by simp] at SA
  have SA := Lib.hid SA
  have H3 : ¬ (⟨(l.drop m).toArray⟩ : ByteArray).toList = (⟨(sealL (l.take m)).toArray⟩ : ByteArray).toList := by
    rw [ByteArray.toList_eq, ByteArray.toList_eq]
    intro e
    apply h3
    simpa using e
  have H4 : (l.drop m == sealL (l.take m)) = false := by rw [beq_eq_false_iff_ne]; exact h3
  clear h h3 hc a2 hl
  go_enter Tryd.func11, Tryd.ntmps11
  go_wp2
  go_region_with (go_at_call 20; with_reducible refine (SA.out _).mono ?_; rintro e w1 ⟨rfl, hb⟩)
  all_goals
    have A1 : Blk w1 w.heap.size zP 28 := Blk.below (w := (w.alloc (.cells zP 28)).drew) (blk_new w zP 28) hb (by simp)
    have HB1 := Lib.hid (below_step HB.out.drew hb)
    have y0 := A1.c 0
    have y1 := A1.c 1
    have y2 := A1.c 2
    have y3 := A1.c 3
    have f0 := A1.fz 0
    have f1 := A1.fz 1
    have f2 := A1.fz 2
    have f3 := A1.fz 3
    clear hb A1
    go_wp2
    refine bodyPost_ret (v := .tuple #[.agg zP, .int .i64 9]) (by simp [results, Tryd.results11, go_sem, *]) rfl (DecP.err ?_ HC.out (by decide))
    exact (((HB1.out.setCell (Nat.le_refl _) _).setCell (Nat.le_refl _) _).setCell (Nat.le_refl _) _).setCell (Nat.le_refl _) _
end Go.Proofs.YtblebjgjomamdaaDoor
