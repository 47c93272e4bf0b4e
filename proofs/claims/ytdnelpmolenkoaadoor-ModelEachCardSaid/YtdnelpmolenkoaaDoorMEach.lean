/- callboardlaw14.ModelEach returns true: the walk. Conditions: the tables as laid; lengths are lengths. -/
import Derived.Test.YtdnelpmolenkoaaDoorMProc
import Derived.Test.YtdnelpmolenkoaaDoorMLarge
import Derived.Test.YtdnelpmolenkoaaDoorMawake
namespace Go.Proofs.YtdnelpmolenkoaaDoor
open Go.RowKit Go.Ow

def eachN (x : Pr) (k : Nat) : Bool := decide ((x.nf k).e = 0)
def eachF (x : Pr) (k : Nat) : Bool := decide (flowE (x.ff k) = 0)
def each0 (x : Pr) : Bool := isName x.name && (decide (varsE x.vm x.vf = 0) && (decide (1 ≤ x.nn) && (decide (x.nn ≤ 40) && decide (x.fn ≤ 80))))
theorem firstE_all (e : Nat → Nat) (n : Nat) : ∀ k, (firstE e k n = 0 ↔ allF (fun k => decide (e k = 0)) k n = true) := by
  induction n with
  | zero => intro k; simp [firstE, allF]
  | succ n ih =>
    intro k
    rw [firstE, allF]
    by_cases h : e k = 0
    · simp [h, ih]
    · simp [h]
theorem each_e (x : Pr) : (x.e = 0 ↔ ((each0 x && allF (eachN x) 0 x.nn) && allF (eachF x) 0 x.fn) = true) := by
  have hN := firstE_all (fun k => (x.nf k).e) x.nn 0
  have hF := firstE_all (fun k => flowE (x.ff k)) x.fn 0
  have e1 : allF (eachN x) 0 x.nn = allF (fun k => decide ((x.nf k).e = 0)) 0 x.nn := rfl
  have e2 : allF (eachF x) 0 x.fn = allF (fun k => decide (flowE (x.ff k) = 0)) 0 x.fn := rfl
  rw [e1, e2]
  unfold Pr.e each0
  by_cases h1 : 40 < x.nn ∨ 80 < x.fn
  · rw [if_pos h1]
    rcases h1 with h1 | h1
    · have : ¬ x.nn ≤ 40 := by omega
      simp [this]
    · have : ¬ x.fn ≤ 80 := by omega
      simp [this]
  · rw [if_neg h1]
    have q1 : x.nn ≤ 40 := by omega
    have q2 : x.fn ≤ 80 := by omega
    by_cases h2 : x.nn = 0 ∨ isName x.name = false
    · rw [if_pos h2]
      rcases h2 with h2 | h2
      · have : ¬ 1 ≤ x.nn := by omega
        simp [this]
      · simp [h2]
    · rw [if_neg h2]
      have q3 : 1 ≤ x.nn := by omega
      have q4 : isName x.name = true := by cases hn : isName x.name; exact absurd (.inr hn) h2; rfl
      by_cases h3 : varsE x.vm x.vf = 0
      · simp only [h3, ne_eq, not_true_eq_false, if_false, q1, q2, q3, q4, decide_true, Bool.and_true, Bool.true_and]
        by_cases h4 : firstE (fun k => (x.nf k).e) 0 x.nn = 0
        · rw [if_neg (by simpa using h4), hF, hN.1 h4]; simp
        · rw [if_pos h4]
          have : ¬ allF (fun k => decide ((x.nf k).e = 0)) 0 x.nn = true := fun h => h4 (hN.2 h)
          simp [h4, this]
      · simp [h3]
theorem Pr.e_cases (x : Pr) : x.e = 0 ∨ x.e = 4 ∨ x.e = 40 := by
  have fc : ∀ (e : Nat → Nat), (∀ k, e k = 0 ∨ e k = 4 ∨ e k = 40) → ∀ n k, firstE e k n = 0 ∨ firstE e k n = 4 ∨ firstE e k n = 40 := fun e he n => by
    induction n with
    | zero => intro k; exact .inl rfl
    | succ n ih => intro k; rw [firstE]; split; exact he k; exact ih _
  unfold Pr.e
  split
  · exact .inr (.inr rfl)
  · split
    · exact .inr (.inl rfl)
    · split
      · exact varsE_cases _ _
      · split
        · exact fc _ (fun k => (x.nf k).e_cases) _ _
        · exact fc _ (fun k => flowE_cases _) _ _
end Go.Proofs.YtdnelpmolenkoaaDoor
