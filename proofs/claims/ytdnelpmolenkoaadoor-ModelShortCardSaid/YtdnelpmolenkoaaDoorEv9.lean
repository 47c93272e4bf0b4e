/- The evaluator's stores, conversions, appends and copies are the model's. Conditions: none. -/
import Derived.Test.YtdnelpmolenkoaaDoorEv8
namespace Go.Ev
open Go.RowKit

section
variable {P : Program} {γ : G} {fr : Fr} {a : Act} {o : Oper} {v : AV} {h h' : H} {F : Nat → Option Obj} {w0 w : World}

/-- it yields that, and turns memory as told -/
def Does (P : Program) (γ : G) (F : Nat → Option Obj) (w0 : World) (a : Act) (o : Oper) (v : AV) (n : Nat) (h' : H) (w : World) : Prop :=
  ∃ c w' γ', ((execOp a.eval o).run P w = .ok (.value c) w' ∨ ((execOp a.eval o).run P w = .ok .skip w' ∧ c = undef)) ∧ Ext γ γ' n h'.next ∧ R γ' v c ∧ HR γ' h' F w0 w'

theorem does_store {t : TypeId} {x y : Operand} (hop : o.op = .store t x y) (hh : HR γ h F w0 w) (hs : oStore P fr t x y h = some (v, h')) (hx : Opd γ fr a #[x, y]) : Does P γ F w0 a o v h.next h' w := by
  unfold oStore at hs
  split at hs
  · rename_i b off u n hb hu hn
    obtain ⟨hc, hs⟩ := sel_some hs
    rw [Nat.beq_eq] at hc
    unfold skipH at hs
    split at hs
    · rename_i h1 hst
      injection hs with hs
      injection hs with e1 e2
      subst e1; subst e2
      have h1 := hx x (by simp) _ hb
      have h2 := hx y (by simp) _ hu
      generalize hcv : a.eval x = cv at h1
      cases h1 with
      | ptr hB =>
        rename_i B O
        have hcells := cellsOf_R h2
        obtain ⟨w', hrun, hR⟩ := store_R (P := P) hh hst hB hcells
        have hsz : (a.eval y).cells.size = n := by rw [← hc, hcells.1]; simp
        refine ⟨undef, w', γ, .inr ⟨?_, rfl⟩, by rw [store_next hst]; exact Ext.refl γ _, .lit _, hR⟩
        simp [execOp, hop, hcv, Instr.storeAt, Instr.sureAddr, storeVar, run_sizeOf hn, hsz, hrun]
    · cases hs
  · cases hs

/-- what is appended or copied -/
theorem src_R {x : AV} {cx : Value} {sz m n : Nat} {news : List AV} (hh : HR γ h F w0 w) (hl : lenA x = some m) (hf : firstOf h sz n x = some news) (hx : R γ x cx) :
    ∃ cnews, Rs γ news cnews ∧ news.length = n * sz ∧ ∀ W : World, W.heap = w.heap → (Builtin.lenOf cx).run P W = .ok m W ∧ (Builtin.firstCells sz n cx).run P W = .ok ⟨cnews⟩ W := by
  cases hx with
  | sl hB hC =>
    simp only [lenA] at hl
    injection hl with hl
    subst hl
    simp only [firstOf] at hf
    obtain ⟨cvs, hR, hlen, hat⟩ := load_R hh hf hB
    refine ⟨cvs, hR, hlen, fun W hW => ⟨rfl, ?_⟩⟩
    refine run_firstCells_some (P := P) W sz n _ _ _ cvs (by rw [← hR.1, hlen]) (fun j c hc => ?_)
    rw [← hat j c hc]
    simp only [World.cell?, hW]
  | lit =>
    cases cx with
    | slice ad n' c =>
      cases ad with
      | some _ => cases hf
      | none =>
        simp only [lenA] at hl
        injection hl with hl
        subst hl
        simp only [firstOf] at hf
        obtain ⟨hn, hf⟩ := sel_some hf
        injection hf with hf
        subst hf
        rw [Nat.beq_eq] at hn
        subst hn
        exact ⟨[], Rs.nil γ, by simp, fun W _ => ⟨rfl, rfl⟩⟩
    | string s =>
      simp only [lenA] at hl
      injection hl with hl
      subst hl
      simp only [firstOf] at hf
      obtain ⟨hc, hf⟩ := sel_some hf
      injection hf with hf
      subst hf
      simp only [Bool.and_eq_true, Nat.beq_eq, Nat.ble_eq] at hc
      obtain ⟨rfl, hle⟩ := hc
      refine ⟨(s.data.toList.take n).map fun b => Value.int .u8 b.toNat, ?_, by simp at hle ⊢; omega, fun W _ => ⟨?_, ?_⟩⟩
      · have := Rs.lits γ ((s.data.toList.take n).map fun b => Value.int .u8 b.toNat)
        rw [List.map_map] at this
        exact this
      · simp [Builtin.lenOf]
      · have e : ((s.extract 0 n).data.map fun b => Value.int .u8 b.toNat) = ⟨(s.data.toList.take n).map fun b => Value.int .u8 b.toNat⟩ := by
          rw [Lib.extract_eq]
          apply Array.ext'
          simp
        simp only [Builtin.firstCells, e]
        rfl
    | _ => cases hf
  | _ => cases hf

theorem growBy_le (n : Nat) : ∀ r c, Builtin.growBy n r c ≤ max c (n + (n + 768) / 4)
  | 0, c => by simp only [Builtin.growBy]; omega
  | r + 1, c => by
    simp only [Builtin.growBy]
    split
    · omega
    · have := growBy_le n r (c + (c + 768) / 4)
      omega
theorem nextcap_le (n c : Nat) (h : c < n) : Builtin.nextslicecap n c ≤ 2 * n + 1000 := by
  unfold Builtin.nextslicecap
  split
  · omega
  · split
    · omega
    · have := growBy_le n 4 c
      omega

theorem notInt_some {t : TypeId} (h : notInt P t = true) : P.underlying t = some .string ∨ ∃ e, P.underlying t = some (.slice e) := by
  unfold notInt at h
  split at h
  · rename_i e hu; exact .inr ⟨e, hu⟩
  · rename_i hu; exact .inl hu
  · cases h

section
variable {t t' ty e : TypeId} {i : TypeInfo} {z : Value} {cx : Value} {m : Nat} {cnews : List Value}
theorem app_in (ht : P.underlying t = some (.slice e)) (ht' : notInt P t' = true) (hi : P.info? e = some i) (hl : (Builtin.lenOf cx).run P w = .ok m w) (hf : (Builtin.firstCells i.size m cx).run P w = .ok ⟨cnews⟩ w)
    (base : Option Addr) (len cap : Nat) (hroom : len + m ≤ cap) (w' : World) (hst : ∀ A, base = some A → (storeCells (A.add (len * i.size)) cnews).run P w = .ok () w') (hn : base = none → w' = w) :
    (Builtin.append_ #[t, t'] ty #[.slice base len cap, cx]).run P w = .ok (.slice base (len + m) cap) w' := by
  have hd := notInt_some ht'
  cases base with
  | none =>
    have := hn rfl
    subst this
    rcases hd with hd | ⟨e', hd⟩ <;> simp [Builtin.append_, run_underlying ht, run_underlying hd, sizeOf, typeInfo, hi, hl, hf, hroom]
  | some A =>
    have hst := hst A rfl
    rcases hd with hd | ⟨e', hd⟩ <;> simp [Builtin.append_, run_underlying ht, run_underlying hd, sizeOf, typeInfo, hi, hl, hf, hroom, hst]
theorem app_grow (ht : P.underlying t = some (.slice e)) (ht' : notInt P t' = true) (hi : P.info? e = some i) (hz : i.zero = some z) (hsrc : ∀ W : World, W.heap = w.heap → (Builtin.lenOf cx).run P W = .ok m W ∧ (Builtin.firstCells i.size m cx).run P W = .ok ⟨cnews⟩ W)
    (base : Option Addr) (len cap : Nat) (colds : List Value) (hold : ∀ W : World, W.heap = w.heap → (Builtin.firstCells i.size len (.slice base len cap)).run P W = .ok ⟨colds⟩ W) (hroom : cap < len + m) (hm : len + m ≤ 2000000) (hby : i.bytes ≤ 10000) :
    (Builtin.append_ #[t, t'] ty #[.slice base len cap, cx]).run P w =
      .ok (.slice (some ⟨w.heap.size, 0, none⟩) (len + m) (grownCap w (len + m) cap e)) (w.drew.alloc (.cells ⟨(colds ++ cnews) ++ (Builtin.zeroCells z.cells (grownCap w (len + m) cap e - (len + m))).toList⟩ e)) := by
  have hd := notInt_some ht'
  have hn : ¬ (len + m ≤ cap) := by omega
  have hl := (hsrc w rfl).1
  have hf := (hsrc w.drew rfl).2
  have ho := hold w.drew rfl
  have h63' : ¬ (9223372036854775807 < ((len : Int) + (m : Int))) := by omega
  have h48' : ¬ (281474976710656 < Builtin.nextslicecap (len + m) cap * i.bytes) := by
    have h1 := nextcap_le (len + m) cap hroom
    have h2 : Builtin.nextslicecap (len + m) cap * i.bytes ≤ 4001000 * 10000 := Nat.mul_le_mul (by omega) hby
    omega
  rcases hd with hd | ⟨e', hd⟩ <;> simp [Builtin.append_, run_underlying ht, run_underlying hd, sizeOf, typeInfo, zeroValue, hi, hz, hl, hn, h63', h48', Question.forced, hf, ho, newRow, grownCap] <;> (congr 2; apply Array.ext'; simp)
end

theorem zeroCells_size (z : Array Value) (n : Nat) : (Builtin.zeroCells z n).size = n * z.size := by simp [Builtin.zeroCells]
theorem grown_ge (w : World) (need old : Nat) (e : TypeId) : need ≤ grownCap w need old e := by
  unfold grownCap Question.cut
  exact Nat.le_add_right _ _
theorem growOk_some {i : TypeInfo} (h : growOk i = true) : ∃ z, i.zero = some z ∧ z.cells.size = i.size ∧ i.size ≠ 0 ∧ i.bytes ≤ 10000 := by
  unfold growOk at h
  split at h
  · rename_i z hz
    simp only [Bool.and_eq_true, Nat.beq_eq, Nat.ble_eq, Bool.not_eq_true'] at h
    obtain ⟨⟨h1, h2⟩, h3⟩ := h
    have hzc := cellsOf_R (R.lit (γ := ⟨fun _ => none, fun _ => none⟩) z)
    exact ⟨z, hz, by rw [← h1, hzc.1]; simp, (fun e => by rw [e] at h2; cases h2), h3⟩
  · cases h

theorem does_append {c : Call} (hop : o.op = .call c) (hc : c.callee = .builtin .append) (hh : HR γ h F w0 w) (hs : oAppend P fr c h = some (v, h')) (hx : ∀ x ∈ c.args.toList, ∀ u, opnd fr x = some u → R γ u (a.eval x)) : Does P γ F w0 a o v h.next h' w := by
  unfold oAppend at hs
  split at hs
  · rename_i s x t t' hargs hats
    obtain ⟨hni, hs⟩ := sel_some hs
    have hR := opnds_R (γ := γ) (a := a) _ _ hargs hx
    obtain ⟨cs, r, hr, hRs, hr0⟩ := hR.cons_inv
    obtain ⟨cx, r', hr', hRx, hr0'⟩ := hr0.cons_inv
    have hnil := hr0'.nil_inv
    subst hnil
    subst hr'
    have hcargs : c.args.map a.eval = #[cs, cx] := by apply Array.ext'; simpa using hr
    have hcats : c.argTypes = #[t, t'] := by apply Array.ext'; simpa using hats
    have fin : ∀ (c0 : Value) (w' : World), (Builtin.append_ #[t, t'] o.type #[cs, cx]).run P w = .ok c0 w' → (execOp a.eval o).run P w = .ok (.value c0) w' := fun c0 w' hrun => by
      simp only [execOp, hop, resolve, hc, hcargs, hcats, invoke, builtin, Sem.run_bind, Sem.run_pure, Result.andThen_ok, hrun]
    unfold append at hs
    obtain ⟨e, he, hs⟩ := bindO_some hs
    obtain ⟨i, hi, hs⟩ := bindO_some hs
    obtain ⟨hgo, hs⟩ := sel_some hs
    obtain ⟨m, hm, hs⟩ := bindO_some hs
    obtain ⟨hmle, hs⟩ := sel_some hs
    obtain ⟨news, hnews, hs⟩ := bindO_some hs
    rw [Nat.ble_eq] at hmle
    obtain ⟨z, hz, hzs, hsz0, hby⟩ := growOk_some hgo
    obtain ⟨cnews, hRn, hnl, hsrc⟩ := src_R (P := P) hh hm hnews hRx
    have ht := elem_some he
    have hpos : 0 < i.size := by omega
    cases s with
    | lit u =>
      have hcs := R_lit hRs
      subst hcs
      unfold appendTo at hs
      split at hs
      rotate_left
      · rename_i heq; cases heq
      · cases hs
      rename_i heq
      injection heq with heq
      subst heq
      cases hm0 : Nat.beq m 0 with
      | true =>
        rw [hm0] at hs
        rw [Nat.beq_eq] at hm0
        subst hm0
        injection hs with hs
        injection hs with e1 e2
        subst e1; subst e2
        refine ⟨.slice none 0 0, w, γ, .inl (fin _ _ ?_), Ext.refl γ _, .lit _, hh⟩
        exact app_in ht hni hi (hsrc w rfl).1 (hsrc w rfl).2 none 0 0 (Nat.le_refl _) w (fun A hA => by cases hA) (fun _ => rfl)
      | false =>
        rw [hm0] at hs
        have hmpos : m ≠ 0 := fun e => by subst e; cases hm0
        injection hs with hs
        injection hs with e1 e2
        subst e1; subst e2
        have hrun := app_grow (ty := o.type) ht hni hi hz hsrc none 0 0 [] (fun W _ => rfl) (by omega) (by omega) hby
        have hge := grown_ge w (0 + m) 0 e
        have hzl : (Builtin.zeroCells z.cells (grownCap w (0 + m) 0 e - (0 + m))).toList.length = (grownCap w (0 + m) 0 e - (0 + m)) * i.size := by
          rw [Array.length_toList, zeroCells_size, hzs]
        generalize grownCap w (0 + m) 0 e = gc at hrun hge hzl
        have e1 : (gc - (0 + m)) * i.size = gc * i.size - m * i.size := by rw [Nat.sub_mul, Nat.zero_add]
        have e2 : m * i.size ≤ gc * i.size := Nat.mul_le_mul_right _ (by omega)
        have hcl : cnews.length = m * i.size := by rw [← hRn.1, hnl]
        obtain ⟨γ', hle, hb, hcap, hHR⟩ := hh.newUnk (m := gc) (sz := i.size) (w' := w.drew.alloc (.cells ⟨([] ++ cnews) ++ (Builtin.zeroCells z.cells (gc - (0 + m))).toList⟩ e)) (e := e) (fz := (0, 0)) (more := (Builtin.zeroCells z.cells (gc - (0 + m))).toList) hRn rfl rfl rfl rfl (fun j _ => by simp)
          (by rw [hnl]; exact e2) (by rw [List.length_append, hzl, hcl]; omega)
        refine ⟨_, _, γ', .inl (fin _ _ hrun), hle, ?_, hHR⟩
        rw [Nat.zero_add]
        exact R.sl (off := 0) hb (.unk (s := 0) hcap)
    | sl b off len cap =>
      have hs : (bindO (h.blks.get b) fun k => sel (Nat.ble (len + m) 1000000) (sel (capIs k off i.size cap (len + m)) (inPlace h b off len m i.size cap news) (grow h b off len m i.size cap k news)) none) = some (v, h') := hs
      obtain ⟨k, hk, hs⟩ := bindO_some hs
      obtain ⟨hlm, hs⟩ := sel_some hs
      rw [Nat.ble_eq] at hlm
      generalize hcsv : cs = csv at hRs
      cases hRs with
      | sl hB hC =>
        rename_i B O cc
        subst hcsv
        obtain ⟨B', O', hb', hF, _, hat⟩ := hh.here b k hk
        rw [hB] at hb'
        injection hb' with hb'
        injection hb' with q1 q2
        subst q1; subst q2
        cases hin : capIs k off i.size cap (len + m) with
        | true =>
          rw [hin] at hs
          have hroom := capIs_le hin hat hC
          unfold inPlace at hs
          simp only [sel_true] at hs
          obtain ⟨h1, hst, hs⟩ := bindO_some hs
          injection hs with hs
          injection hs with e1 e2
          subst e1; subst e2
          obtain ⟨w', hrun, hHR⟩ := store_R (P := P) hh hst hB hRn
          refine ⟨_, w', γ, .inl (fin _ _ (app_in ht hni hi (hsrc w rfl).1 (hsrc w rfl).2 (some ⟨B, O + off, none⟩) len cc hroom w' (fun A hA => ?_) (fun hA => by cases hA))), (by rw [store_next hst]; exact Ext.refl γ _), .sl hB hC, hHR⟩
          injection hA with hA
          subst hA
          rw [Addr.add_lit, Nat.add_assoc]
          exact hrun
        | false =>
          rw [hin] at hs
          unfold grow at hs
          simp only [sel_false] at hs
          obtain ⟨old, hold, hs⟩ := bindO_some hs
          have hload : h.load b off (len * i.size) = some old := by
            unfold H.load
            rw [hk]
            exact hold
          obtain ⟨colds, hRo, hol, hato⟩ := load_R hh hload hB
          have hcl : cnews.length = m * i.size := by rw [← hRn.1, hnl]
          have hcol : colds.length = len * i.size := by rw [← hRo.1, hol]
          have hfirst : ∀ W : World, W.heap = w.heap → (Builtin.firstCells i.size len (.slice (some ⟨B, O + off, none⟩) len cc)).run P W = .ok ⟨colds⟩ W := fun W hW => by
            refine run_firstCells_some (P := P) W i.size len _ _ _ colds hcol (fun j c0 hj => ?_)
            rw [← hato j c0 hj]
            simp only [World.cell?, hW]
          -- it is laid anew
          have anew : ∀ (hp : H), hp.next = h.next → hp.tok = h.tok → HR γ hp F w0 w → cc < len + m → h' = hp.newUnk (old ++ news) i.size → v = .sl h.next 0 (len + m) (.unk h.tok 0) → Does P γ F w0 a o v h.next h' w := fun hp hn1 hn2 hhp hroom e1 e2 => by
            subst e1; subst e2
            have hrun := app_grow (ty := o.type) ht hni hi hz hsrc (some ⟨B, O + off, none⟩) len cc colds hfirst hroom (by omega) hby
            have hge := grown_ge w (len + m) cc e
            have hzl : (Builtin.zeroCells z.cells (grownCap w (len + m) cc e - (len + m))).toList.length = (grownCap w (len + m) cc e - (len + m)) * i.size := by
              rw [Array.length_toList, zeroCells_size, hzs]
            generalize grownCap w (len + m) cc e = gc at hrun hge hzl
            have e1 : (gc - (len + m)) * i.size = gc * i.size - (len + m) * i.size := by rw [Nat.sub_mul]
            have e2 : (len + m) * i.size ≤ gc * i.size := Nat.mul_le_mul_right _ hge
            have e3 : (len + m) * i.size = len * i.size + m * i.size := Nat.add_mul _ _ _
            obtain ⟨γ', hle, hb, hcap, hHR⟩ := hhp.newUnk (m := gc) (sz := i.size) (w' := w.drew.alloc (.cells ⟨(colds ++ cnews) ++ (Builtin.zeroCells z.cells (gc - (len + m))).toList⟩ e)) (e := e) (fz := (0, 0)) (more := (Builtin.zeroCells z.cells (gc - (len + m))).toList) (hRo.append hRn) rfl rfl rfl rfl (fun j _ => by simp)
              (by rw [List.length_append, hnl, hol]; omega) (by rw [List.length_append, List.length_append, hzl, hcl, hcol]; omega)
            rw [hn1] at hb hle
            rw [hn2] at hcap
            exact ⟨_, _, γ', .inl (fin _ _ hrun), (by show Ext γ γ' h.next (hp.next + 1); rw [hn1]; exact hle), R.sl (off := 0) hb (.unk (s := 0) hcap), hHR⟩
          split at hs
          · injection hs with hs
            injection hs with e1 e2
            have hroom : cc < len + m := by
              cases hC
              have : Nat.ble (len + m) _ = false := hin
              rw [← Bool.not_eq_true, Nat.ble_eq] at this
              omega
            exact anew h rfl rfl hh hroom e2.symm e1.symm
          · rename_i tk sub
            split at hs
            · cases hs
            · rename_i tk' sz' htok
              obtain ⟨hcond, hs⟩ := sel_some hs
              injection hs with hs
              injection hs with e1 e2
              simp only [Bool.and_eq_true, Nat.beq_eq, Bool.not_eq_true'] at hcond
              obtain ⟨⟨⟨⟨⟨rfl, rfl⟩, rfl⟩, rfl⟩, hro⟩, hone⟩ := hcond
              by_cases hroom : len + m ≤ cc
              · -- where it lies
                obtain ⟨cs0, e0, fz, h1, h2, h3, h4, h5⟩ := hat
                obtain ⟨mm, hmm, hn1, hn2⟩ := h5 _ _ htok
                cases hC with
                | unk hk2 =>
                  rw [hmm] at hk2
                  injection hk2 with hk2
                  subst hk2
                  have e3 : (len + m) * i.size = len * i.size + m * i.size := Nat.add_mul _ _ _
                  have e4 : (len + m) * i.size ≤ mm * i.size := Nat.mul_le_mul_right _ (by omega)
                  obtain ⟨w', cs', hrun, hch, hblk, hsize, hnew, hkeep⟩ := run_storeCells_blk (P := P) B (O + 0 + len * i.size) cnews 0 w cs0 e0 fz h1 h2 (by rw [hcl]; omega) (fun c0 hc0 => by
                    obtain ⟨j, hj, rfl⟩ := List.mem_iff_getElem.1 hc0
                    have hjl : j < news.length := by rw [hRn.1]; exact hj
                    exact oneA_R (hRn.2 j news[j] _ (List.getElem?_eq_getElem hjl) (List.getElem?_eq_getElem hj)) (List.all_eq_true.1 hone _ (List.getElem_mem hjl)))
                  obtain ⟨γ', hle, hb, hcap, hHR⟩ := hh.retire (m := mm) (sz := i.size) (n := (old ++ news).length) (cells := putAll .nil 0 (old ++ news)) hk hB hro hch (fun γ' hle' hcap' => by
                    refine ⟨cs', e0, fz, hblk, by rw [hsize]; exact h2, ?_, fun j u hj => ?_, fun t2 s2 ht2 => ?_⟩
                    · simp only [List.length_append, hol, hnl, hsize]; omega
                    · rcases get_putAll _ _ _ _ _ hj with ⟨_, hv⟩ | ⟨_, hv⟩
                      · simp only [Nat.sub_zero] at hv
                        obtain ⟨c1, hc1, hR1⟩ := (hRo.append hRn).at_ hv
                        refine ⟨(List.getElem?_eq_some_iff.1 hv).1, c1, ?_, hR1.mono hle'⟩
                        by_cases hjo : j < colds.length
                        · rw [hkeep (O + j) (by omega)]
                          rw [List.getElem?_append_left hjo] at hc1
                          have := hato j c1 hc1
                          rw [Addr.add_lit, cell_at h1] at this
                          rw [← this]
                          congr 1
                        · rw [List.getElem?_append_right (by omega)] at hc1
                          have := hnew (j - colds.length) c1 hc1
                          rw [← this]
                          congr 1
                          omega
                      · rw [get_nil] at hv; cases hv
                    · injection ht2 with ht2
                      injection ht2 with p1 p2
                      subst p1; subst p2
                      exact ⟨mm, hcap', by simp only [List.length_append, hol, hnl]; omega, by rw [hsize]; exact hn2⟩)
                  subst e1; subst e2
                  refine ⟨_, w', γ', .inl (fin _ _ (app_in ht hni hi (hsrc w rfl).1 (hsrc w rfl).2 (some ⟨B, O + 0, none⟩) len (mm - 0) hroom w' (fun A hA => ?_) (fun hA => by cases hA))), hle, R.sl (off := 0) hb (.unk (s := 0) hcap), ?_⟩
                  · injection hA with hA
                    subst hA
                    rw [Addr.add_lit]
                    exact hrun
                  · exact hHR
              · refine anew ⟨h.blks.del b, h.next, h.tok⟩ rfl rfl (hh.part _ rfl rfl (fun b' k' hk' => (get_del hk').2)) (by omega) e2.symm e1.symm
    | ptr b off => cases hs
    | agg l => cases hs
    | tup l => cases hs
    | fn f l c => cases hs
    | ifc t v => cases hs
  · cases hs

theorem does_copy {c : Call} (hop : o.op = .call c) (hc : c.callee = .builtin .copy) (hh : HR γ h F w0 w) (hs : oCopy P fr c h = some (v, h')) (hx : ∀ x ∈ c.args.toList, ∀ u, opnd fr x = some u → R γ u (a.eval x)) : Does P γ F w0 a o v h.next h' w := by
  unfold oCopy at hs
  split at hs
  · rename_i b off dn cap x t ts hargs hats
    have hR := opnds_R (γ := γ) (a := a) _ _ hargs hx
    obtain ⟨cs, r, hr, hRs, hr0⟩ := hR.cons_inv
    obtain ⟨cx, r', hr', hRx, hr0'⟩ := hr0.cons_inv
    have hnil := hr0'.nil_inv
    subst hnil
    subst hr'
    have hcargs : c.args.map a.eval = #[cs, cx] := by apply Array.ext'; simpa using hr
    have hat0 : c.argTypes[0]? = some t := by rw [← Array.getElem?_toList, hats]; rfl
    split at hs
    · rename_i e xn he hxn
      split at hs
      · rename_i sz hsz
        split at hs
        · rename_i ds hds
          unfold tellN at hs
          split at hs
          · rename_i h1 hst
            injection hs with hs
            injection hs with e1 e2
            subst e1; subst e2
            obtain ⟨cds, hRd, _, hsrc⟩ := src_R (P := P) hh hxn hds hRx
            cases hRs with
            | sl hB hC =>
              rename_i B O cc
              obtain ⟨w', hrun, hHR⟩ := store_R (P := P) hh hst hB hRd
              refine ⟨.int .i64 (Nat.min xn dn : Nat), w', γ, .inl ?_, (by rw [store_next hst]; exact Ext.refl γ _), .lit _, hHR⟩
              have h1 := (hsrc w rfl).1
              have h2 := (hsrc w rfl).2
              simp only [execOp, hop, resolve, hc, hcargs, invoke, builtin, Sem.run_bind, Sem.run_pure, Result.andThen_ok]
              unfold Builtin.copy_
              simp [hat0, run_underlying (elem_some he), h1, run_sizeOf hsz, h2, hrun, goInt]
          · cases hs
        · cases hs
      · cases hs
    · cases hs
  · cases hs
end
end Go.Ev
