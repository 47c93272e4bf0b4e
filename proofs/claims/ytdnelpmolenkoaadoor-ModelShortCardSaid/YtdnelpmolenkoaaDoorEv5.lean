/- The evaluator's operations that ask no memory, one by one. Conditions: none. -/
import Derived.Test.YtdnelpmolenkoaaDoorEv4
namespace Go.Ev
open Go.RowKit

section
variable {P : Program} {γ : G} {fr : Fr} {a : Act} {o : Oper} {v : AV}

theorem gives_move {x : Operand} (hop : o.op = .move x ∨ o.op = .assign x) (h : opnd fr x = some v) (hx : Opd γ fr a #[x]) : Gives P γ a o v := by
  refine ⟨a.eval x, fun w => ?_, hx x (by simp) v h⟩
  rcases hop with hop | hop <;> (simp only [execOp, hop]; rfl)
theorem gives_pick {c x y : Operand} (hop : o.op = .pick c x y) (h : oPick fr c x y = some v) (hx : Opd γ fr a #[c, x, y]) : Gives P γ a o v := by
  unfold oPick at h
  split at h
  · rename_i hc
    have h1 := hx c (by simp) _ hc
    refine ⟨a.eval x, fun w => ?_, hx x (by simp) v h⟩
    generalize hcv : a.eval c = cv at h1
    cases h1
    simp [execOp, hop, hcv, asBool]
  · rename_i hc
    have h1 := hx c (by simp) _ hc
    refine ⟨a.eval y, fun w => ?_, hx y (by simp) v h⟩
    generalize hcv : a.eval c = cv at h1
    cases h1
    simp [execOp, hop, hcv, asBool]
  · cases h
theorem gives_build {t : TypeId} {ps : Array (Nat × Operand)} (hop : o.op = .build t ps) (h : oBuild P fr t ps = some v) (hx : Opd γ fr a o.op.operands) : Gives P γ a o v := by
  rw [hop] at hx
  unfold oBuild at h
  split at h
  · rename_i z qs hz hqs
    have hp := opParts_R (γ := γ) (a := a) ps.toList qs hqs (fun x hxm => hx x (by simpa [Op.operands] using hxm))
    obtain ⟨i, hi, hz⟩ := zero_some hz
    have hzc := cellsOf_R (R.lit (γ := γ) z)
    have fin : ∀ (cr : List Value), P.built t (ps.toList.map fun p => (p.1, a.eval p.2)) = some ⟨cr⟩ → ∀ w, (execOp a.eval o).run P w = .ok (.value (.agg ⟨cr⟩)) w := fun cr hb w => by
      have := run_build (P := P) w t (ps.map fun (i, x) => (i, a.eval x)) ⟨cr⟩ (by simpa using hb)
      simp [execOp, hop, this]
    split at h
    · rename_i fs hu
      split at h
      · rename_i pl hpl
        unfold aggOf at h
        split at h
        · rename_i cs hcs
          injection h with h
          subst h
          obtain ⟨cr, hcr, hR⟩ := fillA_R (γ := γ) _ qs _ _ z.cells.toList _ hcs hp hzc
          refine ⟨.agg ⟨cr⟩, fin cr ?_, mkAgg_R hR⟩
          unfold Program.built
          simp only [hi, hu, hz, placesOf_some _ _ hpl]
          rw [← hcr]
          congr 1
          funext x
          simp
        · cases h
      · cases h
    · rename_i n e hu
      split at h
      · rename_i sz hsz
        unfold aggOf at h
        split at h
        · rename_i cs hcs
          injection h with h
          subst h
          obtain ⟨cr, hcr, hR⟩ := fillA_R (γ := γ) _ qs _ _ z.cells.toList _ hcs hp hzc
          obtain ⟨ie, hie, rfl⟩ := sizeOf_some hsz
          refine ⟨.agg ⟨cr⟩, fin cr ?_, mkAgg_R hR⟩
          unfold Program.built
          simp only [hi, hu, hz, hie]
          rw [← hcr]
        · cases h
      · cases h
    · cases h
  · cases h
theorem gives_nilCheck {x : Operand} (hop : o.op = .nilCheck x) (h : oNilCheck fr x = some v) (hx : Opd γ fr a #[x]) : Gives P γ a o v := by
  unfold oNilCheck at h
  split at h
  · rename_i b off hv
    injection h with h; subst h
    have h1 := hx x (by simp) _ hv
    refine ⟨a.eval x, fun w => ?_, h1⟩
    generalize hcv : a.eval x = cv at h1
    cases h1
    simp only [execOp, hop, hcv]
    rfl
  · rename_i f l c hv
    injection h with h; subst h
    have h1 := hx x (by simp) _ hv
    refine ⟨a.eval x, fun w => ?_, h1⟩
    generalize hcv : a.eval x = cv at h1
    cases h1
    simp only [execOp, hop, hcv]
    rfl
  · rename_i f l c hv
    injection h with h; subst h
    have h1 := hx x (by simp) _ hv
    refine ⟨a.eval x, fun w => ?_, h1⟩
    generalize hcv : a.eval x = cv at h1
    cases h1
    simp only [execOp, hop, hcv]
    rfl
  · cases h
theorem gives_fieldAddr {s : TypeId} {x : Operand} {f : Nat} (hop : o.op = .fieldAddr s x f) (h : oFieldAddr P fr s x f = some v) (hx : Opd γ fr a #[x]) : Gives P γ a o v := by
  unfold oFieldAddr at h
  split at h
  · rename_i b off hv
    split at h
    · rename_i fs hu
      split at h
      · rename_i fd hf
        split at h
        · rename_i n hn
          cases hb : Nat.beq n 0 with
          | true => rw [hb] at h; cases h
          | false =>
            rw [hb] at h
            injection h with h; subst h
            have hn0 : n ≠ 0 := fun e => by subst e; cases hb
            have h1 := hx x (by simp) _ hv
            generalize hcv : a.eval x = cv at h1
            cases h1 with
            | ptr hB =>
              rename_i B O
              refine ⟨.pointer (some ⟨B, O + (off + fd.offset), none⟩), fun w => ?_, .ptr hB⟩
              simp [execOp, hop, hcv, Instr.fieldAt, run_underlying hu, hf, Instr.sureAddr, fieldPlace, run_sizeOf hn, hn0, Addr.add_lit, Nat.add_assoc]
        · cases h
      · cases h
    · cases h
  · cases h
theorem gives_indexAddr {t : TypeId} {x ix : Operand} (hop : o.op = .indexAddr t x ix) (h : oIndexAddr P fr t x ix = some v) (hx : Opd γ fr a #[x, ix]) : Gives P γ a o v := by
  unfold oIndexAddr at h
  split at h
  · rename_i iv hiv
    split at h
    · rename_i i hi
      have h2 := hx ix (by simp) _ hiv
      obtain ⟨k, hk⟩ := natOf_R hi h2
      split at h
      · rename_i b off len cap hv
        split at h
        · rename_i e he
          split at h
          · rename_i sz hsz
            obtain ⟨hlt, h⟩ := sel_some h
            injection h with h; subst h
            have hlt : i < len := Nat.le_of_ble_eq_true hlt
            have h1 := hx x (by simp) _ hv
            generalize hcv : a.eval x = cv at h1
            cases h1 with
            | sl hB hC =>
              rename_i B O c
              refine ⟨.pointer (some ⟨B, O + (off + i * sz), none⟩), fun w => ?_, .ptr hB⟩
              simp [execOp, hop, hcv, hk, Instr.indexAt, run_underlying (elem_some he), asIntOf, hlt, run_sizeOf hsz, Addr.add_lit, Nat.add_assoc]
          · cases h
        · cases h
      · rename_i b off hv
        split at h
        · rename_i len e he
          split at h
          · rename_i sz hsz
            obtain ⟨hlt, h⟩ := sel_some h
            injection h with h; subst h
            have hlt : i < len := Nat.le_of_ble_eq_true hlt
            have h1 := hx x (by simp) _ hv
            generalize hcv : a.eval x = cv at h1
            cases h1 with
            | ptr hB =>
              rename_i B O
              refine ⟨.pointer (some ⟨B, O + (off + i * sz), none⟩), fun w => ?_, .ptr hB⟩
              simp [execOp, hop, hcv, hk, Instr.indexAt, run_underlying he, asIntOf, hlt, run_sizeOf hsz, Addr.add_lit, Nat.add_assoc, Instr.sureAddr]
          · cases h
        · cases h
      · cases h
    · cases h
  · cases h
theorem gives_index {t : TypeId} {x ix : Operand} (hop : o.op = .index t x ix) (h : oIndex P fr o t x ix = some v) (hx : Opd γ fr a #[x, ix]) : Gives P γ a o v := by
  unfold oIndex at h
  split at h
  · rename_i s iv hs hiv
    unfold oIndexS at h
    split at h
    · rename_i i hu hi
      split at h
      · rename_i b hb
        injection h with h; subst h
        have h1 := hx x (by simp) _ hs
        obtain ⟨k, hk⟩ := natOf_R hi (hx ix (by simp) _ hiv)
        generalize hcv : a.eval x = cv at h1
        cases h1
        refine ⟨.int .u8 b.toNat, fun w => ?_, .lit _⟩
        have hlt : i < s.size := by
          have := (List.getElem?_eq_some_iff.1 hb).1
          rw [Lib.size_eq]; exact this
        have hsi : s[i] = b := by
          have := (List.getElem?_eq_some_iff.1 hb).2
          rw [← this]
          rfl
        have := run_index_string (P := P) w t s k (i : Int) hu
        rw [dif_pos ⟨by omega, by omega⟩] at this
        simp [execOp, hop, hcv, hk, this, hsi]
      · cases h
    · cases h
  · exact gen_sound (fun cs b e => by rw [hop] at e; cases e) h (by rw [hop]; exact hx)
theorem gives_field {t : TypeId} {x : Operand} {f : Nat} (hop : o.op = .field t x f) (h : oField P fr t x f = some v) (hx : Opd γ fr a #[x]) : Gives P γ a o v := by
  unfold oField at h
  split at h
  · rename_i u hu
    split at h
    · rename_i fs hfs
      split at h
      · rename_i fd hf
        obtain ⟨hag, h⟩ := sel_some h
        have h1 := hx x (by simp) _ hu
        obtain ⟨cs, hcs⟩ : ∃ cs : List Value, a.eval x = .agg ⟨cs⟩ := by
          generalize a.eval x = cv at h1
          cases h1 with
          | lit =>
            cases cv with
            | agg cs => exact ⟨cs.toList, rfl⟩
            | _ => simp [isAggA] at hag
          | agg _ _ => exact ⟨_, rfl⟩
          | _ => simp [isAggA] at hag
        have hcells := cellsOf_R h1
        rw [hcs] at hcells
        obtain ⟨c, hc, hR⟩ := partOf_R h hcells
        refine ⟨c, fun w => ?_, hR⟩
        have := hc w
        simp only [Value.cells] at this
        simp [execOp, hop, hcs, Instr.field, run_underlying hfs, hf, asAgg, this]
      · cases h
    · cases h
  · cases h
theorem gives_extract {x : Operand} {i : Nat} (hop : o.op = .extract x i) (h : oExtract fr x i = some v) (hx : Opd γ fr a #[x]) : Gives P γ a o v := by
  unfold oExtract at h
  split at h
  · rename_i l hl
    have h1 := hx x (by simp) _ hl
    generalize hcv : a.eval x = cv at h1
    cases h1 with
    | tup hlen hr =>
      rename_i cs
      obtain ⟨c, hc, hR⟩ := Rs.at_ (⟨hlen, hr⟩ : Rs γ l cs) h
      refine ⟨c, fun w => ?_, hR⟩
      have : (Array.mk cs)[i]? = some c := by simpa using hc
      simp only [execOp, hop, hcv, Instr.extract, this]
      rfl
  · rename_i l hl
    have h1 := hx x (by simp) _ hl
    generalize hcv : a.eval x = cv at h1
    cases h1
    unfold litO at h
    split at h
    · rename_i u hu
      injection h with h; subst h
      refine ⟨u, fun w => ?_, .lit u⟩
      have : l[i]? = some u := by simpa using hu
      simp only [execOp, hop, hcv, Instr.extract, this]
      rfl
    · cases h
  · cases h
theorem gives_makeFunc {f : Fn} {xs ys : Array Operand} (hop : o.op = .makeFunc f xs ys) (h : oMakeFunc fr f xs ys = some v) (hx : Opd γ fr a (xs ++ ys)) : Gives P γ a o v := by
  unfold oMakeFunc at h
  split at h
  · rename_i l m hl hm
    injection h with h; subst h
    have h1 := opnds_R (γ := γ) (a := a) xs.toList l hl (fun x hxm => hx x (by simp at hxm ⊢; exact .inl hxm))
    have h2 := opnds_R (γ := γ) (a := a) ys.toList m hm (fun x hxm => hx x (by simp at hxm ⊢; exact .inr hxm))
    refine ⟨.func f ⟨xs.toList.map a.eval⟩ ⟨ys.toList.map a.eval⟩, fun w => ?_, .fn h1.1 h1.2 h2.1 h2.2⟩
    have e1 : xs.map a.eval = ⟨xs.toList.map a.eval⟩ := by apply Array.ext'; simp
    have e2 : ys.map a.eval = ⟨ys.toList.map a.eval⟩ := by apply Array.ext'; simp
    simp only [execOp, hop, Instr.makeFunc, e1, e2]
    rfl
  · cases h
theorem gives_makeIface {t : TypeId} {x : Operand} (hop : o.op = .makeInterface t x) (h : oMakeIface P fr t x = some v) (hx : Opd γ fr a #[x]) : Gives P γ a o v := by
  unfold oMakeIface at h
  cases hd : P.underlying t with
  | none => rw [hd] at h; cases h
  | some d =>
    rw [hd] at h
    have key : (∀ ms, d ≠ .interface ms) → (∃ u, opnd fr x = some u ∧ v = mkIfc t u) → Gives P γ a o v := by
      rintro hne ⟨u, hu, rfl⟩
      have h1 := hx x (by simp) _ hu
      refine ⟨.iface t (a.eval x), fun w => ?_, ?_⟩
      · cases d <;> first | (exact absurd rfl (hne _)) | (simp [execOp, hop, Instr.makeInterface, run_underlying hd])
      · generalize a.eval x = cv at h1 ⊢
        cases h1 with
        | lit => exact .lit _
        | ptr hb => exact .ifc (.ptr hb)
        | sl hb hc => exact .ifc (.sl hb hc)
        | agg hl hr => exact .ifc (.agg hl hr)
        | tup hl hr => exact .ifc (.tup hl hr)
        | fn p q r s => exact .ifc (.fn p q r s)
        | ifc hv => exact .ifc (.ifc hv)
    cases d <;> first
      | (cases h; done)
      | (refine key (fun ms e => by cases e) ?_
         simp only at h
         split at h
         · rename_i u hu; injection h with h; exact ⟨u, hu, h.symm⟩
         · cases h)
theorem gives_convert {s d : TypeId} {x : Operand} (hop : o.op = .convert s d x) (h : oConvert P fr o s d x = some v) (hx : Opd γ fr a #[x]) : Gives P γ a o v := by
  have hg : gen P fr o = some v → Gives P γ a o v := fun h => gen_sound (fun cs b e => by rw [hop] at e; cases e) h (by rw [hop]; exact hx)
  unfold oConvert at h
  split at h
  · rename_i k n hn
    split at h
    · rename_i ds hds
      split at h
      · rename_i k' hd
        injection h with h; subst h
        have h1 := hx x (by simp) _ hn
        generalize hcv : a.eval x = cv at h1
        cases h1
        refine ⟨.int k' (k'.wrap n), fun w => ?_, by rw [wrapF_eq]; exact .lit _⟩
        simp [execOp, hop, hcv, convert, run_underlying hds, run_underlying hd, Conv.intToInt]
      · exact hg h
    · cases h
  · exact hg h
theorem equalIn_slice_nil (w : World) {t e : TypeId} (hu : P.underlying t = some (.slice e)) (d : Nat) (A : Addr) (l c n k : Nat) :
    (Op.equalIn (d + 1) t (.slice (some A) l c) (.slice none n k)).run P w = .ok false w := by
  simp [Op.equalIn, run_underlying hu]
theorem gives_bin {op : BinOp} {t t' : TypeId} {x y : Operand} (hop : o.op = .binOp op t x y t') (h : oBin P fr o op t x y = some v) (hx : Opd γ fr a #[x, y]) : Gives P γ a o v := by
  have hg : gen P fr o = some v → Gives P γ a o v := fun h => gen_sound (fun cs b e => by rw [hop] at e; cases e) h (by rw [hop]; exact hx)
  unfold oBin at h
  obtain ⟨u, hu, h⟩ := bindO_some h
  obtain ⟨u', hu', h⟩ := bindO_some h
  have h1 := hx x (by simp) _ hu
  have h2 := hx y (by simp) _ hu'
  unfold oBinA at h
  split at h
  · rename_i c'
    have e2 := R_lit h2
    split at h
    · rename_i c
      have e1 := R_lit h1
      unfold orGen at h
      split at h
      · rename_i r hr
        injection h with h; subst h
        refine ⟨r, fun w => ?_, .lit r⟩
        have := quick_run hr P w t x y
        simp only [execOp, hop, e1, e2, Sem.run_bind] at this ⊢
        rw [this]
        rfl
      · exact hg h
    · rename_i b off
      split at h
      · obtain ⟨hp, h⟩ := sel_some h
        unfold isPtrT at hp
        split at hp
        · rename_i pe hu
          generalize hcv : a.eval x = cv at h1
          cases h1 with
          | ptr hB =>
            rename_i B O
            unfold nilEq at h
            split at h
            · injection h with h; subst h
              refine ⟨.bool false, fun w => ?_, .lit _⟩
              have e := fun p => run_equalIn_pointer_nil (P := P) w 9999 t p (by rw [hu, Program.pointee, hu])
              simp [execOp, hop, hcv, e2, eqGuard, binOp, Op.equal, Op.maxDepth, e]
            · injection h with h; subst h
              refine ⟨.bool true, fun w => ?_, .lit _⟩
              have e := fun p => run_equalIn_pointer_nil (P := P) w 9999 t p (by rw [hu, Program.pointee, hu])
              simp [execOp, hop, hcv, e2, eqGuard, binOp, Op.equal, Op.maxDepth, e]
            · cases h
        · cases hp
      · cases h
    · rename_i b off len cap
      split at h
      · obtain ⟨hp, h⟩ := sel_some h
        unfold isSlice at hp
        split at hp
        · rename_i pe hu
          generalize hcv : a.eval x = cv at h1
          cases h1 with
          | sl hB hC =>
            rename_i B O c
            unfold nilEq at h
            split at h
            · injection h with h; subst h
              refine ⟨.bool false, fun w => ?_, .lit _⟩
              have e := fun A l c n k => equalIn_slice_nil w hu 9999 A l c n k
              simp [execOp, hop, hcv, e2, eqGuard, binOp, Op.equal, Op.maxDepth, e]
            · injection h with h; subst h
              refine ⟨.bool true, fun w => ?_, .lit _⟩
              have e := fun A l c n k => equalIn_slice_nil w hu 9999 A l c n k
              simp [execOp, hop, hcv, e2, eqGuard, binOp, Op.equal, Op.maxDepth, e]
            · cases h
        · cases hp
      · cases h
    · cases h
  · cases h
theorem gives_builtin {c : Call} (hop : o.op = .call c) (h : oBuiltin P fr o c = some v) (hx : Opd γ fr a o.op.operands) : Gives P γ a o v := by
  have hg : gen P fr o = some v → Gives P γ a o v := fun h => gen_sound (fun cs b e => by rw [hop] at e; cases e) h hx
  have hx' : ∀ x ∈ c.args.toList, ∀ v, opnd fr x = some v → R γ v (a.eval x) := fun x hxm => hx x (by rw [hop]; simp [Op.operands, Call.operands]; exact .inr (by simpa using hxm))
  unfold oBuiltin at h
  split at h
  · rename_i hc
    unfold oLen at h
    split at h
    · rename_i t ts hts
      split at h
      · rename_i b off n cap hvs
        split at h
        · rename_i e he
          injection h with h; subst h
          have hR := opnds_R (γ := γ) (a := a) _ _ hvs hx'
          obtain ⟨c0, r, hr, hc0, hr0⟩ := hR.cons_inv
          have hr0 := hr0.nil_inv
          subst hr0
          have hargs : c.args.map a.eval = #[c0] := by apply Array.ext'; simpa using hr
          have hat : c.argTypes[0]? = some t := by rw [← Array.getElem?_toList, hts]; rfl
          cases hc0 with
          | sl hB hC =>
            refine ⟨.int .i64 n, fun w => ?_, .lit _⟩
            simp [execOp, hop, resolve, hc, hargs, invoke, builtin, Builtin.len_, hat, run_underlying (elem_some he), goInt]
        · cases h
      · rename_i s hvs
        split at h
        · rename_i hu
          injection h with h; subst h
          have hR := opnds_R (γ := γ) (a := a) _ _ hvs hx'
          obtain ⟨c0, r, hr, hc0, hr0⟩ := hR.cons_inv
          have hr0 := hr0.nil_inv
          subst hr0
          have hc0 := R_lit hc0
          subst hc0
          have hargs : c.args.map a.eval = #[.string s] := by apply Array.ext'; simpa using hr
          have hat : c.argTypes[0]? = some t := by rw [← Array.getElem?_toList, hts]; rfl
          refine ⟨.int .i64 s.data.toList.length, fun w => ?_, .lit _⟩
          simp [execOp, hop, resolve, hc, hargs, invoke, builtin, Builtin.len_, hat, run_underlying hu, goInt]
        · cases h
      · exact hg h
    · cases h
  · rename_i hc
    unfold oCap at h
    split at h
    · rename_i t ts hts
      split at h
      · rename_i b off n cap hvs
        split at h
        · rename_i e he
          injection h with h; subst h
          have hR := opnds_R (γ := γ) (a := a) _ _ hvs hx'
          obtain ⟨c0, r, hr, hc0, hr0⟩ := hR.cons_inv
          have hr0 := hr0.nil_inv
          subst hr0
          have hargs : c.args.map a.eval = #[c0] := by apply Array.ext'; simpa using hr
          have hat : c.argTypes[0]? = some t := by rw [← Array.getElem?_toList, hts]; rfl
          cases hc0 with
          | sl hB hC =>
            cases hC
            refine ⟨.int .i64 cap, fun w => ?_, .lit _⟩
            simp [execOp, hop, resolve, hc, hargs, invoke, builtin, Builtin.cap_, hat, run_underlying (elem_some he), goInt]
        · cases h
      · exact hg h
    · cases h
  · exact hg h
  · exact hg h
  · cases h

theorem pureOp_sound (h : pureOp P fr o = some v) (hx : Opd γ fr a o.op.operands) : Gives P γ a o v := by
  unfold pureOp at h
  split at h
  · rename_i x hop; exact gives_move (.inl hop) h (by rw [hop] at hx; exact hx)
  · rename_i x hop; exact gives_move (.inr hop) h (by rw [hop] at hx; exact hx)
  · rename_i hop; exact gives_pick hop h (by rw [hop] at hx; exact hx)
  · rename_i hop; exact gives_build hop h hx
  · rename_i hop; exact gives_nilCheck hop h (by rw [hop] at hx; exact hx)
  · rename_i hop; exact gives_fieldAddr hop h (by rw [hop] at hx; exact hx)
  · rename_i hop; exact gives_indexAddr hop h (by rw [hop] at hx; exact hx)
  · rename_i hop; exact gives_index hop h (by rw [hop] at hx; exact hx)
  · rename_i hop; exact gives_field hop h (by rw [hop] at hx; exact hx)
  · rename_i hop; exact gives_extract hop h (by rw [hop] at hx; exact hx)
  · rename_i hop; exact gives_makeFunc hop h (by rw [hop] at hx; exact hx)
  · rename_i hop; exact gives_makeIface hop h (by rw [hop] at hx; exact hx)
  · rename_i hop; exact gives_convert hop h (by rw [hop] at hx; exact hx)
  · rename_i hop; exact gives_bin hop h (by rw [hop] at hx; exact hx)
  · rename_i hop; exact gives_builtin hop h hx
  · rename_i hop; exact gen_sound (fun cs b e => by rw [hop] at e; cases e) h hx
  · rename_i hop; exact gen_sound (fun cs b e => by rw [hop] at e; cases e) h hx
  · cases h
end
end Go.Ev
