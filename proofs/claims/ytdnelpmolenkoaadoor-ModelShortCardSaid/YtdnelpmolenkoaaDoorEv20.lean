/- A closed call by the evaluator, from memory in which some blocks are known, and are only read. Conditions: none. -/
import Derived.Test.YtdnelpmolenkoaaDoorEvRow
namespace Go.Ev
open Go.RowKit

noncomputable def roBlk (cs : List AV) : Blk := { cells := putAll .nil 0 cs, n := cs.length, tok := none, ro := true }
noncomputable def known : List (Nat × List AV) → T Blk
  | [] => .nil
  | (b, cs) :: r => (known r).put b (roBlk cs)
noncomputable def startAt (n : Nat) (es : List (Nat × List AV)) : H := { blks := known es, next := n, tok := 0 }

section
variable {P : Program}
theorem known_get : ∀ (es : List (Nat × List AV)) (b : Nat) (k : Blk), (known es).get b = some k → ∃ cs, (b, cs) ∈ es ∧ k = roBlk cs
  | [], b, k, h => by cases h
  | (b', cs) :: r, b, k, h => by
    rcases get_put h with ⟨rfl, rfl⟩ | ⟨_, h⟩
    · exact ⟨cs, by simp, rfl⟩
    · obtain ⟨cs', h1, h2⟩ := known_get r b k h
      exact ⟨cs', by simp [h1], h2⟩
theorem hr_known {γ : G} {n : Nat} {es : List (Nat × List AV)} {w : World} (hn : ∀ b, n ≤ b → γ.blk b = none) (ht : ∀ t, γ.cap t = none)
    (he : ∀ b cs, (b, cs) ∈ es → ∃ B O ccs t, γ.blk b = some (B, O) ∧ w.heap[B]? = some (.cells ccs t (0, 0)) ∧ O + cs.length ≤ ccs.size ∧ ∀ (i : Nat) (v : AV), cs[i]? = some v → ∃ c, ccs[O + i]? = some c ∧ R γ v c) :
    HR γ (startAt n es) (fun B => w.heap[B]?) w w := by
  refine { os := rfl, tape := rfl, output := rfl, size := Nat.le_refl _, low := fun B o h => h, fresh := hn, ftok := fun t _ => ht t, here := fun b k hk => ?_, inj := fun b b' k k' B O O' hk => ?_ }
  · obtain ⟨cs, hm, rfl⟩ := known_get es b k hk
    obtain ⟨B, O, ccs, t, h1, h2, h3, h4⟩ := he b cs hm
    refine ⟨B, O, h1, (fun h => by cases h), fun _ => ⟨(Array.getElem?_eq_some_iff.1 h2).1, by rw [h2]; simp⟩, ccs, t, (0, 0), h2, fun i _ => by simp, h3, fun i v hi => ?_, (fun t sz h => by cases h)⟩
    rcases get_putAll cs .nil 0 i v hi with ⟨_, h⟩ | ⟨_, h⟩
    · rw [Nat.sub_zero] at h
      exact ⟨(List.getElem?_eq_some_iff.1 h).1, h4 i v h⟩
    · cases h
  · obtain ⟨cs, hm, rfl⟩ := known_get es b k hk
    intro _ _ _ h
    cases h
/-- A CALL WITH PLAIN ARGUMENTS, from known memory -/
theorem call_known (hmx : P.follows .mixedOrders = true) {fuel : Nat} {f : FuncId} {args : List Value} {v : Value} {hh hs : H} {γ : G} (hc : callWith P (run P fuel) f (args.map .lit) hs = some (.lit v, hh)) (w : World)
    (hg : ∀ g, g < P.globals.size → γ.blk g = some (g, 0)) (h0 : HR γ hs (fun B => w.heap[B]?) w w) :
    Calls P f ⟨args⟩ w fun e w' => e = .returned v ∧ Below w.heap.size w w' := by
  obtain ⟨hcalls, _⟩ := callWith_sound (run_sound hmx fuel) hc (Rs.lits _ args) hg h0
  refine hcalls.mono ?_
  rintro e w' ⟨c, γ', rfl, _, hR, hH⟩
  rw [R_lit hR]
  refine ⟨rfl, hH.os, hH.tape, hH.output, hH.size, fun k hk => ?_⟩
  rw [hH.low k w.heap[k] (by simp [hk])]
  simp [hk]
theorem yes_known (hmx : P.follows .mixedOrders = true) {fuel : Nat} {f : FuncId} {hs : H} {γ : G} (hc : yes (callWith P (run P fuel) f [] hs) = true) (w : World)
    (hg : ∀ g, g < P.globals.size → γ.blk g = some (g, 0)) (h0 : HR γ hs (fun B => w.heap[B]?) w w) : Calls P f #[] w fun e w' => e = .returned (.bool true) ∧ Below w.heap.size w w' := by
  unfold yes at hc
  split at hc
  · rename_i h hcall
    exact call_known hmx (args := []) hcall w hg h0
  · cases hc
end
end Go.Ev
