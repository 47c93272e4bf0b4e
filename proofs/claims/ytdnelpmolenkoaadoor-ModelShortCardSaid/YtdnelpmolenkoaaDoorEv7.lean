/- The evaluator's operations that read memory, and those that make one new block, are the model's. Conditions: none. -/
import Derived.Test.YtdnelpmolenkoaaDoorEv6
import Derived.Laws.Slices
import Derived.Laws.MakeOwn
namespace Go.Ev
open Go.RowKit

section
variable {P : Program} {γ : G} {fr : Fr} {a : Act} {o : Oper} {v : AV} {h : H} {F : Nat → Option Obj} {w0 w : World}

/-- it yields that in this world, and leaves it -/
def GivesAt (P : Program) (γ : G) (a : Act) (o : Oper) (v : AV) (w : World) : Prop := ∃ c, (execOp a.eval o).run P w = .ok (.value c) w ∧ R γ v c

theorem loadT_R {t : TypeId} {b off B O : Nat} (hh : HR γ h F w0 w) (hl : loadT P t h b off = some v) (hb : γ.blk b = some (B, O)) : ∃ c, (loadVar t ⟨B, O + off, none⟩).run P w = .ok c w ∧ R γ v c := by
  unfold loadT at hl
  split at hl
  · rename_i ha
    split at hl
    · rename_i n hn
      split at hl
      · rename_i vs hvs
        injection hl with hl
        subst hl
        obtain ⟨cvs, hR, hlen, hat⟩ := load_R hh hvs hb
        refine ⟨.agg ⟨cvs⟩, ?_, mkAgg_R hR⟩
        have := run_loadCells_list (P := P) w ⟨B, O + off, none⟩ cvs (fun j c hc => hat j c hc)
        rw [← hR.1, hlen] at this
        simp [loadVar, run_isAgg ha, run_sizeOf hn, this]
      · cases hl
    · cases hl
  · rename_i ha
    split at hl
    · rename_i u hvs
      injection hl with hl
      subst hl
      obtain ⟨cvs, hR, hlen, hat⟩ := load_R hh hvs hb
      obtain ⟨c, r, rfl, hc, hr⟩ := hR.cons_inv
      have := hat 0 c rfl
      refine ⟨c, ?_, hc⟩
      rw [show (Addr.add ⟨B, O + off, none⟩ 0) = ⟨B, O + off, none⟩ from rfl] at this
      simp [loadVar, run_isAgg ha, load, Sem.run, this]
    · cases hl
  · cases hl

theorem reads_load {t : TypeId} {x : Operand} (hop : o.op = .load t x) (hh : HR γ h F w0 w) (hl : oLoad P fr t x h = some v) (hx : Opd γ fr a #[x]) : GivesAt P γ a o v w := by
  unfold oLoad at hl
  split at hl
  · rename_i b off hv
    have h1 := hx x (by simp) _ hv
    generalize hcv : a.eval x = cv at h1
    cases h1 with
    | ptr hB =>
      obtain ⟨c, hc, hR⟩ := loadT_R hh hl hB
      exact ⟨c, by simp [execOp, hop, hcv, Instr.loadAt, Instr.sureAddr, hc], hR⟩
  · cases hl

-- slices

/-- a bound that is left out is d -/
def Bd (d n : Nat) (c : Option Value) : Prop := (c = none ∧ n = d) ∨ ∃ k, c = some (.int k (n : Int))
theorem natOr_R {x : Option Operand} {y : Option AV} {d n : Nat} (h1 : optOpnd fr x = some y) (h2 : natOr d y = some n) (hx : ∀ z, x = some z → ∀ u, opnd fr z = some u → R γ u (a.eval z)) : Bd d n (x.map a.eval) ∧ (y = none ↔ x = none) := by
  unfold optOpnd at h1
  split at h1
  · injection h1 with h1
    subst h1
    simp only [natOr] at h2
    injection h2 with h2
    exact ⟨.inl ⟨rfl, h2.symm⟩, by simp⟩
  · rename_i z
    split at h1
    · rename_i u hu
      injection h1 with h1
      subst h1
      simp only [natOr] at h2
      obtain ⟨k, hk⟩ := natOf_R h2 (hx z rfl u hu)
      exact ⟨.inr ⟨k, by simp [hk]⟩, by simp⟩
    · cases h1
theorem run_bounds (isSlice : Bool) (len cap l hh m : Nat) (low high max : Option Value) (h1 : Bd 0 l low) (h2 : Bd len hh high) (h3 : Bd cap m max) (hm : max ≠ none → high ≠ none) (a1 : l ≤ hh) (a2 : hh ≤ m) (a3 : m ≤ cap) (w : World) :
    (Instr.sliceBounds isSlice len cap low high max).run P w = .ok (l, hh, m) w := by
  rcases h3 with ⟨rfl, rfl⟩ | ⟨k3, rfl⟩
  · rcases h2 with ⟨rfl, rfl⟩ | ⟨k2, rfl⟩
    · rcases h1 with ⟨rfl, rfl⟩ | ⟨k1, rfl⟩
      · simp [Instr.sliceBounds]
      · simp [Instr.sliceBounds, Instr.sliceBound, asIntOf, a1]
    · rcases h1 with ⟨rfl, rfl⟩ | ⟨k1, rfl⟩
      · simp [Instr.sliceBounds, Instr.sliceBound, asIntOf, a2]
      · simp [Instr.sliceBounds, Instr.sliceBound, asIntOf, a1, a2]
  · rcases h2 with ⟨rfl, rfl⟩ | ⟨k2, rfl⟩
    · exact absurd rfl (hm (by simp))
    · rcases h1 with ⟨rfl, rfl⟩ | ⟨k1, rfl⟩
      · simp [Instr.sliceBounds, Instr.sliceBound, asIntOf, a2, a3]
      · simp [Instr.sliceBounds, Instr.sliceBound, asIntOf, a1, a2, a3]

theorem capIs_le {k : Blk} {off sz i c : Nat} {cap : Cap} {B O : Nat} (h : capIs k off sz cap i = true) (hat : At γ k w B O) (hc : CapR γ cap c) : i ≤ c := by
  unfold capIs at h
  cases hc with
  | known n => simpa using h
  | unk hk =>
    rename_i t s m
    simp only at h
    split at h
    · rename_i tk sz' htok
      simp only [Bool.and_eq_true, Nat.beq_eq, Nat.ble_eq, Bool.not_eq_true'] at h
      obtain ⟨⟨⟨⟨rfl, rfl⟩, _⟩, h1⟩, h2⟩ := h
      obtain ⟨cs, e, fz, _, _, _, _, h5⟩ := hat
      obtain ⟨m', hm, hn, _⟩ := h5 _ _ htok
      rw [hk] at hm
      injection hm with hm
      subst hm
      have hsz : 0 < sz := by
        rcases Nat.eq_zero_or_pos sz with e | e
        · subst e; cases h2
        · exact e
      have := Nat.le_of_mul_le_mul_right (Nat.le_trans h1 hn) hsz
      omega
    · cases h

theorem sel_nat (c l x y : Nat) : sel (Nat.beq c l) x y = if c = l then x else y := by
  cases h : Nat.beq c l with
  | true => rw [Nat.beq_eq] at h; rw [if_pos h]; rfl
  | false => rw [← Bool.not_eq_true, Nat.beq_eq] at h; rw [if_neg h]; rfl
theorem at_pick (B O off l sz m : Nat) : (if m = l then (some ⟨B, O + off, none⟩ : Option Addr) else (some ⟨B, O + off, none⟩ : Option Addr).map (·.add (l * sz))) = some ⟨B, O + (sel (Nat.beq m l) off (off + l * sz)), none⟩ := by
  rw [sel_nat]
  split
  · rfl
  · simp [Addr.add_lit, Nat.add_assoc]

theorem reads_slice {t : TypeId} {x : Operand} {lo hi mx : Option Operand} (hop : o.op = .slice t x lo hi mx) (hh : HR γ h F w0 w) (hl : oSlice P fr t x lo hi mx h = some v) (hx : Opd γ fr a o.op.operands) : GivesAt P γ a o v w := by
  rw [hop] at hx
  have hx0 : ∀ u, opnd fr x = some u → R γ u (a.eval x) := hx x (by simp [Op.operands])
  have hlo : ∀ z, lo = some z → ∀ u, opnd fr z = some u → R γ u (a.eval z) := fun z hz => hx z (by subst hz; simp [Op.operands])
  have hhi : ∀ z, hi = some z → ∀ u, opnd fr z = some u → R γ u (a.eval z) := fun z hz => hx z (by subst hz; simp [Op.operands])
  have hmx : ∀ z, mx = some z → ∀ u, opnd fr z = some u → R γ u (a.eval z) := fun z hz => hx z (by subst hz; simp [Op.operands])
  unfold oSlice at hl
  split at hl
  · rename_i u lo' hi' mx' hu hlo' hhi' hmx'
    have hR := hx0 _ hu
    unfold sliceA at hl
    split at hl
    · rename_i b off len cap
      split at hl
      · cases hl
      · rename_i e he
        have hel := elem_some he
        split at hl
        · rename_i sz l hhh k hsz hl' hhh' hk
          obtain ⟨d1, _⟩ := natOr_R hlo' hl' hlo
          obtain ⟨d2, e2⟩ := natOr_R hhi' hhh' hhi
          generalize hcv : a.eval x = cv at hR
          cases hR with
          | sl hB hC =>
            rename_i B O c
            obtain ⟨B', O', hb', _, _, hat⟩ := hh.here b k hk
            rw [hB] at hb'
            injection hb' with hb'
            injection hb' with q1 q2
            subst q1; subst q2
            have fin : ∀ (m : Nat) (cap' : Cap) (off' : Nat), Bd c m (mx.map a.eval) → (mx.map a.eval ≠ none → hi.map a.eval ≠ none) → l ≤ hhh → hhh ≤ m → m ≤ c → CapR γ cap' (m - l) →
                (if m = l then (some ⟨B, O + off, none⟩ : Option Addr) else (some ⟨B, O + off, none⟩ : Option Addr).map (·.add (l * sz))) = some ⟨B, O + off', none⟩ →
                GivesAt P γ a o (.sl b off' (hhh - l) cap') w := fun m cap' off' d3 hne a1 a2 a3 hcap hoff => by
              refine ⟨.slice (some ⟨B, O + off', none⟩) (hhh - l) (m - l), ?_, .sl hB hcap⟩
              have hb := run_bounds (P := P) true len c l hhh m _ _ _ d1 d2 d3 hne a1 a2 a3 w
              simp only [execOp, hop, hcv, Instr.sliceAt, Instr.slice, Sem.run_bind, run_underlying hel, Result.andThen_ok, hb, run_sizeOf hsz, hoff]
              rfl
            split at hl
            · -- no max
              have hmn : mx.map a.eval = none := by
                unfold optOpnd at hmx'
                split at hmx'
                · rfl
                · split at hmx' <;> cases hmx'
              split at hl
              · rename_i cc
                obtain ⟨hc, hl⟩ := sel_some hl
                injection hl with hl
                subst hl
                simp only [Bool.and_eq_true, Nat.ble_eq] at hc
                cases hC
                exact fin _ _ _ (.inl ⟨hmn, rfl⟩) (fun e => absurd hmn e) hc.1 hc.2 (Nat.le_refl _) (.known _) (at_pick ..)
              · rename_i tk sub
                obtain ⟨hc, hl⟩ := sel_some hl
                injection hl with hl
                subst hl
                simp only [Bool.and_eq_true, Bool.or_eq_true, Nat.ble_eq, Nat.beq_eq] at hc
                obtain ⟨⟨c1, c2⟩, c3⟩ := hc
                have c2' := capIs_le c2 hat hC
                have c3' : l = 0 ∨ l + 1 ≤ c := c3.imp id (fun hq => capIs_le hq hat hC)
                refine fin c _ _ (.inl ⟨hmn, rfl⟩) (fun e => absurd hmn e) c1 c2' (Nat.le_refl _) ?_ ?_
                · cases hC with
                  | unk hk => rw [Nat.sub_sub]; exact .unk hk
                · split
                  · have : l = 0 := by omega
                    subst this
                    simp
                  · simp [Addr.add_lit, Nat.add_assoc]
            · rename_i mv
              split at hl
              · rename_i m hm
                obtain ⟨hc, hl⟩ := sel_some hl
                injection hl with hl
                subst hl
                simp only [Bool.and_eq_true, Nat.ble_eq] at hc
                obtain ⟨⟨⟨c1, c2⟩, c3⟩, c4⟩ := hc
                have c3' := capIs_le c3 hat hC
                have hm' : natOr c (some mv) = some m := hm
                obtain ⟨d3, _⟩ := natOr_R hmx' hm' hmx
                refine fin m _ _ d3 (fun _ e => ?_) c1 c2 c3' (.known _) (at_pick ..)
                have : hi = none := by simpa using e
                rw [e2.2 this] at c4
                cases c4
              · cases hl
        · cases hl
    · rename_i b off
      split at hl
      · rename_i n e hun
        split at hl
        · rename_i sz l hhh hsz hl' hhh'
          obtain ⟨hc, hl⟩ := sel_some hl
          injection hl with hl
          subst hl
          simp only [Bool.and_eq_true, Nat.ble_eq] at hc
          obtain ⟨d1, _⟩ := natOr_R hlo' hl' hlo
          obtain ⟨d2, _⟩ := natOr_R hhi' hhh' hhi
          have hmn : mx.map a.eval = none := by
            unfold optOpnd at hmx'
            split at hmx'
            · rfl
            · split at hmx' <;> cases hmx'
          generalize hcv : a.eval x = cv at hR
          cases hR with
          | ptr hB =>
            rename_i B O
            refine ⟨.slice (some ⟨B, O + (sel (Nat.beq n l) off (off + l * sz)), none⟩) (hhh - l) (n - l), ?_, .sl hB (.known _)⟩
            have hb := run_bounds (P := P) false n n l hhh n _ _ _ d1 d2 (.inl ⟨hmn, rfl⟩) (fun e => absurd hmn e) hc.1 hc.2 (Nat.le_refl _) w
            have hp' : (if n = l then (⟨B, O + off, none⟩ : Addr) else Addr.add ⟨B, O + off, none⟩ (l * sz)) = ⟨B, O + (sel (Nat.beq n l) off (off + l * sz)), none⟩ := by
              rw [sel_nat]
              split
              · rfl
              · simp [Addr.add_lit, Nat.add_assoc]
            simp only [execOp, hop, hcv, Instr.sliceAt, Instr.sureAddr, Sem.run_bind, run_underlying hun, Result.andThen_ok, hb, run_sizeOf hsz, Sem.run_pure, hp']
        · cases hl
      · cases hl
    · rename_i s
      split at hl
      · rename_i l hhh hun hl' hhh'
        obtain ⟨hc, hl⟩ := sel_some hl
        injection hl with hl
        subst hl
        simp only [Bool.and_eq_true, Nat.ble_eq] at hc
        obtain ⟨d1, _⟩ := natOr_R hlo' hl' hlo
        obtain ⟨d2, _⟩ := natOr_R hhi' hhh' hhi
        rw [← Lib.size_eq] at hc d2
        have hmn : mx.map a.eval = none := by
          unfold optOpnd at hmx'
          split at hmx'
          · rfl
          · split at hmx' <;> cases hmx'
        have e1 := R_lit hR
        refine ⟨.string (s.extract l hhh), ?_, ?_⟩
        · have hb := run_bounds (P := P) false s.size s.size l hhh s.size _ _ none d1 d2 (.inl ⟨rfl, rfl⟩) (fun e => absurd rfl e) hc.1 hc.2 (Nat.le_refl _) w
          simp only [execOp, hop, e1, hmn, Instr.sliceAt, Instr.slice, Sem.run_bind, run_underlying hun, Result.andThen_ok, hb, Option.isSome_none, Bool.false_eq_true, if_false]
          rfl
        · rw [Lib.extract_eq]
          exact .lit _
      · cases hl
    · rename_i len cap
      split at hl
      · cases hl
      · rename_i e he
        have hel := elem_some he
        split at hl
        · rename_i sz l hhh hsz hl' hhh'
          obtain ⟨hc, hl⟩ := sel_some hl
          injection hl with hl
          subst hl
          simp only [Bool.and_eq_true, Nat.ble_eq] at hc
          obtain ⟨d1, _⟩ := natOr_R hlo' hl' hlo
          obtain ⟨d2, _⟩ := natOr_R hhi' hhh' hhi
          have hmn : mx.map a.eval = none := by
            unfold optOpnd at hmx'
            split at hmx'
            · rfl
            · split at hmx' <;> cases hmx'
          have e1 := R_lit hR
          refine ⟨.slice none (hhh - l) (cap - l), ?_, .lit _⟩
          have hb := run_bounds (P := P) true len cap l hhh cap _ _ _ d1 d2 (.inl ⟨hmn, rfl⟩) (fun e => absurd hmn e) hc.1 hc.2 (Nat.le_refl _) w
          simp only [execOp, hop, e1, Instr.sliceAt, Instr.slice, Sem.run_bind, run_underlying hel, Result.andThen_ok, hb, run_sizeOf hsz, Option.map_none, ite_self]
          rfl
        · cases hl
    · cases hl
  · cases hl

theorem readOp_sound (hh : HR γ h F w0 w) (hr : readOp P fr o h = some v) (hx : Opd γ fr a o.op.operands) : GivesAt P γ a o v w := by
  unfold readOp at hr
  split at hr
  · rename_i hop; exact reads_load hop hh hr (by rw [hop] at hx; exact hx)
  · rename_i hop; exact reads_slice hop hh hr hx
  · cases hr
end
end Go.Ev
