/- The evaluator is sound: a call that it tells returns just that, from whatever world, whatever is drawn; nothing that was there turns. Conditions: the program draws all orders. -/
import Derived.Test.YtdnelpmolenkoaaDoorEv18
import Derived.LoopN
namespace Go.Ev
open Go.RowKit

section
variable {P : Program} {γ : G} {fr : Fr} {a : Act} {h h' : H} {F : Nat → Option Obj} {w0 w : World}

theorem drawn_sound (hmx : P.follows .mixedOrders = true) {rec : Rec} (hrec : RecOK P rec) {id : Nat} {os : Array Oper} {fr' : Fr} (hd : drawn P rec os fr h = some (fr', h')) (hf : FR P γ fr a) (hh : HR γ h F w0 w) :
    (Code.region id os true).wp P (Post P γ F w0 h.next .normal fr' h') a w := by
  unfold drawn at hd
  obtain ⟨hok, hd⟩ := sel_some hd
  unfold okRegion at hok
  simp only [Bool.and_eq_true] at hok
  obtain ⟨⟨⟨hE, hP⟩, hC⟩, _⟩ := hok
  split at hd
  · cases hd
  · rename_i rs fr1 h1 pend hdr
    obtain ⟨hro, hd⟩ := sel_some hd
    injection hd with hd
    injection hd with e1 e2
    subst e1; subst e2
    have htr := dr_Tr rec os (masks os) h.next os.toList 0 fr { h with next := h.next + os.size } [] rs fr1 h1 pend hdr
    obtain ⟨hlen, hfirst, hlast⟩ := Tr_length _ _ _ _ _ _ _ htr
    have hat := Tr_at _ _ _ _ _ _ _ htr
    have hlen' : rs.length = os.size := by rw [hlen]; simp
    have T : Told P rec os h.next rs { h with next := h.next + os.size } fr fr1 := by
      refine { edges := fun i o ho e he hb => ?_, pairs := fun i j oi oj hij hoi hoj => ?_, chain := fun x m hx hm hlt => chain_bit hC hx hm hlt, len := hlen', at_ := fun t r hr => ?_, first := hfirst, reads := fun t r hr hk q hq h2 h3 hq2 => ?_, next := Nat.le_refl _ }
      · have := edgesOk_spec _ _ hE i o (by simpa using ho) e he hb
        omega
      · have := pairsOk_spec _ _ hP j oj (by simpa using hoj) i oi (by simpa using hij) (by simpa using hoi)
        simpa using this
      · obtain ⟨x, y, z⟩ := hat t r hr
        rw [Nat.zero_add] at y
        exact ⟨by simpa using x, y, z⟩
      · have := readsOk_spec rs 0 hro t r hr hk
        rw [Nat.zero_add] at this
        exact this _ (mem_window hq2 h2 h3)
    have hend : stAt (masks os) rs 0 ({ h with next := h.next + os.size }, []) os.size = (h1, pend) := by rw [hlen'] at hlast; exact hlast
    have hfr : frAt rs fr1 os.size = fr1 := by
      unfold frAt
      rw [List.getElem?_eq_none (by omega)]
    refine wp_region_any hmx ?_
    refine T.any (γ0 := γ) (F := F) (w0 := w0) hrec (fun γ' a' w' hx hf' hh' => ?_) os.size (Array.replicate os.size false) γ 0 F a _ (by simp) ?_ (fun i o _ hS => ?_) ?_
    · rw [hend] at hx hh'
      rw [hfr] at hf'
      exact ⟨rfl, γ', by rw [layAll_eq]; exact hx, hf', by rw [layAll_eq]; exact hh'⟩
    · exact Nat.le_trans (List.length_filter_le _ _) (by simp)
    · unfold Ls at hS
      by_cases hi : i < os.size <;> simp [hi] at hS
    · have hno : ∀ i, ¬ Ls (Array.replicate os.size false) i := fun i hS => by
        unfold Ls at hS
        by_cases hi : i < os.size <;> simp [hi] at hS
      refine { le := ⟨G.le_refl γ, fun _ _ => rfl, ?_⟩, Kn := Nat.zero_le _, mem := fun m _ => ⟨fun hS => absurd hS (hno m), fun hlt => by omega⟩, hr := ?_, nx := ?_, wait := fun j cs hj => absurd hj.1 (hno j), apart := fun j j' cs cs' B hj => absurd hj.1 (hno j), rest := fun _ _ => rfl, out := fun j _ _ => hh.fresh _ (Nat.le_add_right _ _), defers := hf.defers, size := hf.size, wrote := fun j r t hS => absurd hS (hno j), kept := fun t v _ hv => hf.here t v hv, glob := hf.glob, g := hf.g }
      · simp only [stAt]; exact Nat.le_add_right _ _
      · simp only [stAt]
        have hs : HR γ h F w0 { w with drawn := w.drawn + 1 } := hh.same rfl rfl rfl rfl
        exact { hs with fresh := fun b hb => hs.fresh b (Nat.le_trans (Nat.le_add_right _ _) hb) }
      · simp only [stAt]; exact Nat.le_refl _

theorem Post.trans {γ' : G} {n : Nat} {ex : Ex} {fr' : Fr} (h1 : Ext γ γ' n h.next) {e : Exit} {a' : Act} {w' : World} (hp : Post P γ' F w0 h.next ex fr' h' e a' w') : Post P γ F w0 n ex fr' h' e a' w' := by
  obtain ⟨he, γ2, hx, hf, hh⟩ := hp
  exact ⟨he, γ2, h1.trans hx, hf, hh⟩
theorem rounds_mono {c : Code} {Q Q' : Exit → Act → World → Prop} (hq : ∀ e a w, Q e a w → Q' e a w) : ∀ (n : Nat) (a : Act) (w : World), Code.rounds P c Q n a w → Code.rounds P c Q' n a w
  | 0, _, _, h => h
  | n + 1, a, w, h => wp_mono h (fun e a' w' h' => by
      cases e with
      | normal => exact rounds_mono hq n a' w' h'
      | _ => exact hq _ _ _ h')

theorem run_zero (c : Code) (fr : Fr) (h : H) : run P 0 c fr h = none := rfl
theorem run_succ (n : Nat) (c : Code) (fr : Fr) (h : H) : run P (n + 1) c fr h = runC P (run P n) c fr h := rfl

theorem andThen_some {k : Fr → H → Res} {x : Res} {ex : Ex} {fr' : Fr} {h' : H} (ha : andThen k x = some (ex, fr', h')) : (∃ fr1 h1, x = some (.normal, fr1, h1) ∧ k fr1 h1 = some (ex, fr', h')) ∨ (x = some (ex, fr', h') ∧ ex ≠ .normal) := by
  unfold andThen at ha
  split at ha
  · rename_i fr1 h1
    exact .inl ⟨fr1, h1, rfl, ha⟩
  · rename_i hne
    refine .inr ⟨ha, fun e => ?_⟩
    subst e
    exact hne _ _ ha

theorem loop_rounds {b : Code} : ∀ (n : Nat), (∀ m, m < n → RecOK P (run P m)) → ∀ (fr : Fr) (h : H) (ex : Ex) (fr' : Fr) (h' : H) (γ : G) (a : Act) (w : World), run P n (.loop b) fr h = some (ex, fr', h') → FR P γ fr a → HR γ h F w0 w → Code.rounds P b (Post P γ F w0 h.next ex fr' h') n a w
  | 0, _, fr, h, ex, fr', h', γ, a, w, hr, _, _ => by rw [run_zero] at hr; cases hr
  | n + 1, hrec, fr, h, ex, fr', h', γ, a, w, hr, hf, hh => by
    rw [run_succ] at hr
    have hr : andThen (run P n (.loop b)) (run P n b fr h) = some (ex, fr', h') := hr
    rw [rounds_succ]
    rcases andThen_some hr with ⟨fr1, h1, hx, hk⟩ | ⟨hx, hne⟩
    · refine wp_mono (hrec n (Nat.lt_succ_self _) b fr h _ fr1 h1 hx γ F w0 a w hf hh) ?_
      rintro e a1 w1 ⟨rfl, γ1, hx1, hf1, hh1⟩
      have := loop_rounds n (fun m hm => hrec m (by omega)) fr1 h1 ex fr' h' γ1 a1 w1 hk hf1 hh1
      exact rounds_mono (fun e a2 w2 => Post.trans hx1) n a1 w1 this
    · refine wp_mono (hrec n (Nat.lt_succ_self _) b fr h _ fr' h' hx γ F w0 a w hf hh) ?_
      rintro e a1 w1 hp
      have he := hp.1
      cases ex with
      | normal => exact absurd rfl hne
      | ret => subst he; exact hp
      | exit id => subst he; exact hp

theorem run_sound (hmx : P.follows .mixedOrders = true) : ∀ (n : Nat), RecOK P (run P n) := by
  intro n
  induction n using Nat.strongRecOn with
  | _ n ih =>
    cases n with
    | zero => intro c fr h ex fr' h' hr; rw [run_zero] at hr; cases hr
    | succ n =>
      have hrec := ih n (Nat.lt_succ_self _)
      intro c fr h ex fr' h' hr γ F w0 a w hf hh
      rw [run_succ] at hr
      unfold runC at hr
      split at hr
      · injection hr with hr
        simp only [Prod.mk.injEq] at hr
        obtain ⟨rfl, rfl, rfl⟩ := hr
        exact wp_skip ⟨rfl, γ, Ext.refl γ _, hf, hh⟩
      · rename_i id os d
        unfold runReg normal at hr
        split at hr
        · rename_i fr1 h1 hx
          injection hr with hr
          simp only [Prod.mk.injEq] at hr
          obtain ⟨rfl, rfl, rfl⟩ := hr
          cases d with
          | true => exact drawn_sound hmx hrec hx hf hh
          | false => exact region_sound hrec hx hf hh
        · cases hr
      · rename_i x y
        refine wp_seq ?_
        rcases andThen_some hr with ⟨fr1, h1, hx, hk⟩ | ⟨hx, hne⟩
        · refine wp_mono (hrec x fr h _ fr1 h1 hx γ F w0 a w hf hh) ?_
          rintro e a1 w1 ⟨rfl, γ1, hx1, hf1, hh1⟩
          exact wp_mono (hrec y fr1 h1 ex fr' h' hk γ1 F w0 a1 w1 hf1 hh1) (fun e a2 w2 => Post.trans hx1)
        · refine wp_mono (hrec x fr h _ fr' h' hx γ F w0 a w hf hh) ?_
          rintro e a1 w1 hp
          have he := hp.1
          cases ex with
          | normal => exact absurd rfl hne
          | ret => subst he; exact hp
          | exit id => subst he; exact hp
      · rename_i c x y
        unfold byCond at hr
        split at hr
        · rename_i hc
          have := R_lit (hf.opnd hc)
          exact wp_cond_true this (hrec x fr h ex fr' h' hr γ F w0 a w hf hh)
        · rename_i hc
          have := R_lit (hf.opnd hc)
          exact wp_cond_false this (hrec y fr h ex fr' h' hr γ F w0 a w hf hh)
        · cases hr
      · rename_i id b
        refine wp_block ?_
        unfold leaveBlock at hr
        split at hr
        · rename_i id' fr1 h1 hx
          injection hr with hr
          simp only [Prod.mk.injEq] at hr
          obtain ⟨hex, rfl, rfl⟩ := hr
          refine wp_mono (hrec b fr h _ fr1 h1 hx γ F w0 a w hf hh) ?_
          rintro e a1 w1 ⟨rfl, γ1, hx1, hf1, hh1⟩
          show if id' = id then _ else _
          cases hb : Nat.beq id' id with
          | true =>
            rw [hb] at hex
            rw [Nat.beq_eq] at hb
            rw [if_pos hb]
            subst hex
            exact ⟨rfl, γ1, hx1, hf1, hh1⟩
          | false =>
            rw [hb] at hex
            rw [← Bool.not_eq_true, Nat.beq_eq] at hb
            rw [if_neg hb]
            subst hex
            exact ⟨rfl, γ1, hx1, hf1, hh1⟩
        · rename_i hne
          refine wp_mono (hrec b fr h ex fr' h' hr γ F w0 a w hf hh) ?_
          rintro e a1 w1 hp
          have he := hp.1
          cases ex with
          | normal => subst he; exact hp
          | ret => subst he; exact hp
          | exit id' => exact (hne _ _ _ hr).elim
      · rename_i b
        have hr' : run P (n + 1) (.loop b) fr h = some (ex, fr', h') := hr
        exact wp_loop_rounds (n + 1) (loop_rounds (n + 1) (fun m hm => ih m hm) fr h ex fr' h' γ a w hr' hf hh)
      · injection hr with hr
        simp only [Prod.mk.injEq] at hr
        obtain ⟨rfl, rfl, rfl⟩ := hr
        exact wp_exit ⟨rfl, γ, Ext.refl γ _, hf, hh⟩
      · injection hr with hr
        simp only [Prod.mk.injEq] at hr
        obtain ⟨rfl, rfl, rfl⟩ := hr
        exact wp_ret ⟨rfl, γ, Ext.refl γ _, hf, hh⟩
      · cases hr

/-- A CALL WITH PLAIN ARGUMENTS: what the evaluator tells is what it returns; nothing that was there turns. -/
theorem call_returns (hmx : P.follows .mixedOrders = true) {fuel : Nat} {f : FuncId} {args : List Value} {v : Value} {hh : H} (hc : callWith P (run P fuel) f (args.map .lit) (start P) = some (.lit v, hh)) (w : World) :
    Calls P f ⟨args⟩ w fun e w' => e = .returned v ∧ Below w.heap.size w w' := by
  have h0 : HR ⟨fun g => if g < P.globals.size then some (g, 0) else none, fun _ => none⟩ (start P) (fun B => w.heap[B]?) w w := by
    refine { os := rfl, tape := rfl, output := rfl, size := Nat.le_refl _, low := fun B o h => h, fresh := fun b hb => ?_, ftok := fun t _ => rfl, here := fun b k hk => ?_, inj := fun b b' k k' B O O' hk => ?_ }
    · have hb : P.globals.size ≤ b := hb
      simp only
      rw [if_neg (by omega)]
    · have hk : (T.nil : T Blk).get b = some k := hk
      rw [get_nil] at hk; cases hk
    · have hk : (T.nil : T Blk).get b = some k := hk
      rw [get_nil] at hk; cases hk
  obtain ⟨hcalls, _⟩ := callWith_sound (run_sound hmx fuel) hc (Rs.lits _ args) (fun g hg => by simp [hg]) h0
  refine hcalls.mono ?_
  rintro e w' ⟨c, γ', rfl, _, hR, hH⟩
  rw [R_lit hR]
  refine ⟨rfl, hH.os, hH.tape, hH.output, hH.size, fun k hk => ?_⟩
  rw [hH.low k w.heap[k] (by simp [hk])]
  simp [hk]
theorem yes_returns (hmx : P.follows .mixedOrders = true) {fuel : Nat} {f : FuncId} (hc : yes (call P fuel f []) = true) (w : World) : Calls P f #[] w fun e w' => e = .returned (.bool true) ∧ Below w.heap.size w w' := by
  unfold yes at hc
  split at hc
  · rename_i h hcall
    exact call_returns hmx (args := []) hcall w
  · cases hc
end
end Go.Ev
