/- A closed run in pieces: the outer function's code goes step by step, from one written state to the next; blocks that nobody needs any more are dropped. Conditions: the program draws all orders. -/
import Derived.Test.YtjakdbahopbggaaGreatDoorOmB
import Derived.LoopN
namespace Go.Om
open Go.RowKit

/-- where in a function's code -/
inductive Dir where
  | l | r | b | t | f
  | lp (n : Nat)
inductive Ko where
  | seq (b : Code) (p : List Dir)
  | blk (id : Nat)
  | lp (b : Code) (n : Nat) (p : List Dir)
structure St where
  c : Code
  K : List Ko
  p : List Dir
  fr : Fr
  h : H
noncomputable def pop (fr : Fr) (h : H) : List Ko → Option St
  | [] => none
  | .seq b p :: K => some ⟨b, K, .r :: p, fr, h⟩
  | .blk _ :: K => pop fr h K
  | .lp b n p :: K => match n with
    | 0 => none
    | n + 1 => some ⟨b, .lp b n p :: K, .lp n :: p, fr, h⟩
noncomputable def leave (id : Nat) (fr : Fr) (h : H) : List Ko → Option St
  | [] => none
  | .seq _ _ :: K => leave id fr h K
  | .lp _ _ _ :: K => leave id fr h K
  | .blk id' :: K => sel (Nat.beq id id') (pop fr h K) (leave id fr h K)
noncomputable def popN (K : List Ko) : Res → Option St
  | some (.normal, fr, h) => pop fr h K
  | _ => none
noncomputable def mstep (P : Program) (rec : Rec) (s : St) : Option St := match s.c with
  | .skip => pop s.fr s.h s.K
  | .region _ os d => popN s.K (runReg P rec os d s.fr s.h)
  | .seq a b => some ⟨a, .seq b s.p :: s.K, .l :: s.p, s.fr, s.h⟩
  | .cond c a b => match opnd s.fr c with
    | some (.lit (.bool true)) => some ⟨a, s.K, .t :: s.p, s.fr, s.h⟩
    | some (.lit (.bool false)) => some ⟨b, s.K, .f :: s.p, s.fr, s.h⟩
    | _ => none
  | .block id b => some ⟨b, .blk id :: s.K, .b :: s.p, s.fr, s.h⟩
  | .loop b => some ⟨b, .lp b 1000000 s.p :: s.K, .lp 1000000 :: s.p, s.fr, s.h⟩
  | .exit id => leave id s.fr s.h s.K
  | _ => none
noncomputable def mrun (P : Program) (rec : Rec) (n : Nat) : St → Option St := Nat.rec (motive := fun _ => St → Option St) (fun s => some s) (fun _ ih s => bindO (mstep P rec s) ih) n

/-- the state at a place of the code -/
noncomputable def ctl : List Dir → Code → List Dir → List Ko → Option (Code × List Ko × List Dir)
  | [], c, q, K => some (c, K, q)
  | d :: p, c, q, K => match d, c with
    | .l, .seq a b => ctl p a (.l :: q) (.seq b q :: K)
    | .r, .seq _ b => ctl p b (.r :: q) K
    | .b, .block id b => ctl p b (.b :: q) (.blk id :: K)
    | .lp n, .loop b => ctl p b (.lp n :: q) (.lp b n q :: K)
    | .t, .cond _ a _ => ctl p a (.t :: q) K
    | .f, .cond _ _ b => ctl p b (.f :: q) K
    | _, _ => none
noncomputable def placeAt (c : Code) (p : List Dir) (fr : Fr) (h : H) : Option St := match ctl p c [] [] with
  | some (c, K, p) => some ⟨c, K, p, fr, h⟩
  | none => none
noncomputable def bodyOf (P : Program) (f : FuncId) : Code := match P.funcs[f]? with
  | some fn => match fn.body with
    | some c => c
    | none => .skip
  | none => .skip

noncomputable def keepT {α : Type} (t : T α) (l : List Nat) : T α := List.rec (motive := fun _ => T α) .nil (fun i _ ih => Option.rec (motive := fun _ => T α) ih (fun x => ih.put i x) (t.get i)) l
noncomputable def prune (bs ts : List Nat) (s : St) : St := { s with fr := { s.fr with tm := keepT s.fr.tm ts }, h := { s.h with blks := keepT s.h.blks bs } }
/-- one piece: n steps from one state to the next -/
noncomputable def piece (P : Program) (O : Orc) (fuel : Nat) (n : Nat) (bs ts : List Nat) (s : Option St) : Option St := bindO s fun s => bindO (mrun P (run P O fuel) n s) fun s => some (prune bs ts s)

section
variable {P : Program} {Q : Exit → Act → World → Prop} {F : Nat → Option Obj} {w0 : World}
def pk (P : Program) (Q : Exit → Act → World → Prop) : List Ko → Exit → Act → World → Prop
  | [] => Q
  | .seq b _ :: K => Exit.then (b.wp P (pk P Q K)) (pk P Q K)
  | .blk id :: K => Exit.inBlock id (pk P Q K)
  | .lp b n _ :: K => Exit.then (Code.rounds P b (pk P Q K) n) (pk P Q K)
/-- from such a state the code comes to Q -/
def Good (P : Program) (Q : Exit → Act → World → Prop) (F : Nat → Option Obj) (w0 : World) (s : St) : Prop :=
  ∀ (γ : G) (a : Act) (w : World), FR P γ s.fr a → HR γ s.h F w0 w → s.c.wp P (pk P Q s.K) a w

theorem pk_ret : ∀ (K : List Ko) (a : Act) (w : World), Q .ret a w → pk P Q K .ret a w
  | [], _, _, h => h
  | .seq _ _ :: K, a, w, h => pk_ret K a w h
  | .blk _ :: K, a, w, h => pk_ret K a w h
  | .lp _ _ _ :: K, a, w, h => pk_ret K a w h
theorem pop_sound {fr : Fr} {h : H} {γ : G} {a : Act} {w : World} : ∀ (K : List Ko) (s' : St), pop fr h K = some s' → Good P Q F w0 s' → FR P γ fr a → HR γ h F w0 w → pk P Q K .normal a w
  | [], s', hp, _, _, _ => by cases hp
  | .seq b p :: K, s', hp, hg, hf, hh => by
    simp only [pop] at hp
    injection hp with hp
    subst hp
    exact hg γ a w hf hh
  | .blk id :: K, s', hp, hg, hf, hh => pop_sound K s' hp hg hf hh
  | .lp b n p :: K, s', hp, hg, hf, hh => by
    cases n with
    | zero => simp only [pop] at hp; cases hp
    | succ n =>
      simp only [pop] at hp
      injection hp with hp
      subst hp
      exact hg γ a w hf hh
theorem leave_sound {fr : Fr} {h : H} {γ : G} {a : Act} {w : World} {id : Nat} : ∀ (K : List Ko) (s' : St), leave id fr h K = some s' → Good P Q F w0 s' → FR P γ fr a → HR γ h F w0 w → pk P Q K (.exit id) a w
  | [], s', hp, _, _, _ => by cases hp
  | .seq b p :: K, s', hp, hg, hf, hh => leave_sound K s' hp hg hf hh
  | .lp b n p :: K, s', hp, hg, hf, hh => leave_sound K s' hp hg hf hh
  | .blk id' :: K, s', hp, hg, hf, hh => by
    simp only [leave] at hp
    show if id = id' then _ else _
    cases hb : Nat.beq id id' with
    | true =>
      rw [hb] at hp
      rw [Nat.beq_eq] at hb
      rw [if_pos hb]
      exact pop_sound K s' hp hg hf hh
    | false =>
      rw [hb] at hp
      rw [← Bool.not_eq_true, Nat.beq_eq] at hb
      rw [if_neg hb]
      exact leave_sound K s' hp hg hf hh
theorem mstep_sound (hmx : P.follows .mixedOrders = true) {rec : Rec} (hrec : RecOK P rec) {s s' : St} (hs : mstep P rec s = some s') (hg : Good P Q F w0 s') : Good P Q F w0 s := by
  intro γ a w hf hh
  obtain ⟨c, K, p, fr, h⟩ := s
  simp only at hf hh ⊢
  unfold mstep at hs
  simp only at hs
  split at hs
  · exact wp_skip (pop_sound K s' hs hg hf hh)
  · rename_i rid os d
    unfold popN at hs
    split at hs
    · rename_i fr1 h1 hx
      have hx : normal (cond d (drawn P rec os fr h) (ops P rec os os.toList fr h)) = some (.normal, fr1, h1) := hx
      unfold normal at hx
      split at hx
      · rename_i fr2 h2 hy
        injection hx with hx
        simp only [Prod.mk.injEq, true_and] at hx
        obtain ⟨rfl, rfl⟩ := hx
        have hwp : (Code.region rid os d).wp P (Post P γ F w0 h.next .normal fr2 h2) a w := by
          cases d with
          | true => exact drawn_sound hmx hrec hy hf hh
          | false => exact region_sound hrec hy hf hh
        refine wp_mono hwp ?_
        rintro e a1 w1 ⟨rfl, γ1, _, hf1, hh1⟩
        exact pop_sound K s' hs hg hf1 hh1
      · cases hx
    · cases hs
  · injection hs with hs
    subst hs
    exact wp_seq (hg γ a w hf hh)
  · split at hs
    · rename_i hc
      injection hs with hs
      subst hs
      exact wp_cond_true (R_lit (hf.opnd hc)) (hg γ a w hf hh)
    · rename_i hc
      injection hs with hs
      subst hs
      exact wp_cond_false (R_lit (hf.opnd hc)) (hg γ a w hf hh)
    · cases hs
  · injection hs with hs
    subst hs
    exact wp_block (hg γ a w hf hh)
  · injection hs with hs
    subst hs
    refine wp_loop_rounds 1000001 ?_
    rw [rounds_succ]
    exact hg γ a w hf hh
  · exact wp_exit (leave_sound K s' hs hg hf hh)
  · cases hs
theorem mrun_sound (hmx : P.follows .mixedOrders = true) {rec : Rec} (hrec : RecOK P rec) : ∀ (n : Nat) (s s' : St), mrun P rec n s = some s' → Good P Q F w0 s' → Good P Q F w0 s
  | 0, s, s', h, hg => by
    have h' : some s = some s' := h
    injection h' with h'
    subst h'
    exact hg
  | n + 1, s, s', h, hg => by
    have h' : bindO (mstep P rec s) (mrun P rec n) = some s' := h
    obtain ⟨s1, h1, h2⟩ := bindO_some h'
    exact mstep_sound hmx hrec h1 (mrun_sound hmx hrec n s1 s' h2 hg)
theorem keepT_get {α : Type} (t : T α) : ∀ (l : List Nat) (i : Nat) (x : α), (keepT t l).get i = some x → t.get i = some x
  | [], i, x, h => by cases h
  | j :: l, i, x, h => by
    have h' : (Option.rec (motive := fun _ => T α) (keepT t l) (fun x => (keepT t l).put j x) (t.get j) : T α).get i = some x := h
    cases hj : t.get j with
    | none =>
      rw [hj] at h'
      exact keepT_get t l i x h'
    | some y =>
      rw [hj] at h'
      rcases get_put h' with ⟨rfl, rfl⟩ | ⟨_, h2⟩
      · exact hj
      · exact keepT_get t l i x h2
theorem prune_sound {bs ts : List Nat} {s : St} (hg : Good P Q F w0 (prune bs ts s)) : Good P Q F w0 s := fun γ a w hf hh =>
  hg γ a w { hf with here := fun t v ht => hf.here t v (keepT_get _ _ _ _ ht) } (hh.part _ rfl rfl fun _ _ hk => keepT_get _ _ _ _ hk)
def GoodO (P : Program) (Q : Exit → Act → World → Prop) (F : Nat → Option Obj) (w0 : World) : Option St → Prop
  | some s => Good P Q F w0 s
  | none => False
theorem piece_sound (hmx : P.follows .mixedOrders = true) {O : Orc} (hO : OrcOK P O) {fuel n : Nat} {bs ts : List Nat} {s s' : Option St} (h : piece P O fuel n bs ts s = s') (hg : GoodO P Q F w0 s') : GoodO P Q F w0 s := by
  subst h
  cases s with
  | none => exact hg
  | some s =>
    have hg : GoodO P Q F w0 (bindO (mrun P (run P O fuel) n s) fun s => some (prune bs ts s)) := hg
    cases hm : mrun P (run P O fuel) n s with
    | none => rw [hm] at hg; exact hg.elim
    | some s1 =>
      rw [hm] at hg
      exact mrun_sound hmx (run_sound hmx hO fuel) n s s1 hm (prune_sound hg)

/-- the last state: it returns -/
theorem ret_sound {fn : Func} {v : Value} {s : St} {w0 : World} (hc : s.c = .ret) (hr : resultsOf P s.fr s.h fn.results.toList = some [.lit v]) :
    Good P (bodyPost P fn fun e w' => e = .returned v ∧ Below w0.heap.size w0 w') (fun B => w0.heap[B]?) w0 s := by
  intro γ a w hf hh
  rw [hc]
  refine wp_ret (pk_ret _ _ _ ⟨hf.defers, ?_⟩)
  have hres : ∃ f : ResultVar → Sem Value, (∀ t, f (.tmp t) = pure (a.tmps.getD t undef)) ∧ (∀ ad t, f (.cell ad t) = (asAddr (a.tmps.getD ad undef) >>= fun A => loadVar t A)) ∧
      results fn a.tmps = (fn.results.mapM f >>= fun vs => pure (if h : vs.size = 1 then vs[0] else .tuple vs)) := ⟨_, fun _ => rfl, fun _ _ => rfl, rfl⟩
  obtain ⟨f, hf1, hf2, hf3⟩ := hres
  obtain ⟨cvs, hR, hrun2⟩ := results_R f hf1 hf2 _ _ hr hf hh
  obtain ⟨_, hRv⟩ := give_R (h := s.h) (h' := s.h) (v := .lit v) rfl hR
  refine ⟨v, ?_, rfl, hh.os, hh.tape, hh.output, hh.size, fun k hk => ?_⟩
  · rw [hf3]
    simp only [Array.mapM_eq_mapM_toList, Sem.run_bind]
    have e : ∀ (m : Sem (List Value)), ((List.toArray <$> m) : Sem (Array Value)).run P w = (m.run P w).andThen fun l W => .ok l.toArray W := fun m => by
      rw [map_eq_pure_bind, Sem.run_bind]
      rfl
    rw [e, hrun2, ← R_lit hRv]
    rfl
  · rw [hh.low k w0.heap[k] (by simp [hk])]
    simp [hk]
/-- A CLOSED CALL, by pieces -/
theorem call_pieces {f : FuncId} {fn : Func} {c : Code} {v : Value} {hs : H} {γ : G} {w : World} (hfn : P.funcs[f]? = some fn) (hb : fn.body = some c) (hg : ∀ g, g < P.globals.size → γ.blk g = some (g, 0)) (h0 : HR γ hs (fun B => w.heap[B]?) w w)
    (hgood : GoodO P (bodyPost P fn fun e w' => e = .returned v ∧ Below w.heap.size w w') (fun B => w.heap[B]?) w (placeAt c [] ⟨.nil, fn.ntmps, P.globals.size⟩ hs)) :
    Calls P f #[] w fun e w' => e = .returned v ∧ Below w.heap.size w w' := by
  refine calls_of_wp hfn hb ?_
  have hgood : Good P (bodyPost P fn fun e w' => e = .returned v ∧ Below w.heap.size w w') (fun B => w.heap[B]?) w ⟨c, [], [], ⟨.nil, fn.ntmps, P.globals.size⟩, hs⟩ := hgood
  exact hgood γ _ w { defers := rfl, size := by simp, here := (fun t v ht => by cases ht), g := rfl, glob := hg } h0
end
end Go.Om
