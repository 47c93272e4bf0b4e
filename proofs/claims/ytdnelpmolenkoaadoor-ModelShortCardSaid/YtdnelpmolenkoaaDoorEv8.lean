/- The evaluator's operations that make or turn memory (no calls) are the model's. Conditions: none. -/
import Derived.Test.YtdnelpmolenkoaaDoorEv7
import Derived.Laws.Append
import Derived.Laws.IdiomStrings
import Derived.Laws.BytesString
namespace Go.Ev
open Go.RowKit

def repC (zs : List Value) : Nat → List Value
  | 0 => []
  | n + 1 => zs ++ repC zs n
theorem repC_length (zs : List Value) : ∀ n, (repC zs n).length = n * zs.length
  | 0 => by simp [repC]
  | n + 1 => by simp only [repC, List.length_append, repC_length zs n, Nat.succ_mul]; omega
theorem repC_get (zs : List Value) : ∀ n i, i < n * zs.length → (repC zs n)[i]? = zs[i % zs.length]?
  | 0, i, h => by simp at h
  | n + 1, i, h => by
    simp only [repC]
    by_cases hi : i < zs.length
    · rw [List.getElem?_append_left hi, Nat.mod_eq_of_lt hi]
    · rw [List.getElem?_append_right (by omega), repC_get zs n _ (by rw [Nat.succ_mul] at h; omega)]
      congr 1
      have : i = (i - zs.length) + zs.length := by omega
      rw [this, Nat.add_mod_right]
      simp
theorem repC_R {γ : G} {zs : List AV} {czs : List Value} (h : Rs γ zs czs) : ∀ n, Rs γ (repeatCells zs n) (repC czs n)
  | 0 => Rs.nil γ
  | n + 1 => h.append (repC_R h n)
theorem made_eq (z : Array Value) (n : Nat) (hz : 0 < z.size) : madeCells z (n * z.size) = ⟨repC z.toList n⟩ := by
  apply Array.ext'
  apply List.ext_getElem?
  intro i
  by_cases hi : i < n * z.size
  · have h1 := repC_get z.toList n i (by simpa using hi)
    have hm : i % z.size < z.size := Nat.mod_lt _ hz
    simp only [madeCells, Array.toList_map, Array.toList_range, List.getElem?_map, List.getElem?_range hi, Option.map_some]
    rw [h1]
    simp [hm]
  · rw [List.getElem?_eq_none (by simp [madeCells]; omega), List.getElem?_eq_none (by rw [repC_length]; simp; omega)]

theorem run_buildSlice {P : Program} (w : World) (t e : TypeId) (len : Nat) (parts : Array (Nat × Value)) (i : TypeInfo) (z : Value) (cells : Array Value) (ht : P.underlying t = some (.slice e)) (hi : P.info? e = some i) (hz : i.zero = some z)
    (hc : z.cells.size = i.size) (hs : i.size ≠ 0) (hle : len * i.size ≤ 16777216) (hf : Instr.fill (fun j => some (j * i.size, i.size)) ⟨repC z.cells.toList len⟩ parts.toList = some cells) :
    (Instr.buildSlice t len parts).run P w = .ok (.slice (some ⟨w.heap.size, 0, none⟩) len len) (w.alloc (.cells cells e)) := by
  have hsz : (sizeOf e).run P w = .ok i.size w := by simp [sizeOf, typeInfo, hi]
  have hzv : (zeroValue e).run P w = .ok z w := by simp [zeroValue, typeInfo, hi, hz]
  have hm : ((Array.range (len * i.size)).map fun j => z.cells[j % z.cells.size]!) = ⟨repC z.cells.toList len⟩ := by
    have := made_eq z.cells len (by omega)
    rw [hc] at this
    exact this
  have hgt : ¬ (len * i.size > 2 ^ 24) := by omega
  unfold Instr.buildSlice
  simp only [Sem.run_bind, run_underlying ht, Result.andThen_ok, hsz, hgt, if_false]
  by_cases h0 : len * i.size = 0
  · have hl : len = 0 := by
      rcases Nat.mul_eq_zero.1 h0 with h | h
      · exact h
      · exact absurd h hs
    subst hl
    simp only [h0, if_true, Sem.run_bind, Sem.run_pure, Result.andThen_ok]
    have e1 : ((Array.range 0).map fun j => (#[] : Array Value)[j % (#[] : Array Value).size]!) = ⟨[]⟩ := by simp
    rw [e1]
    simp only [repC] at hf
    rw [hf]
    simp [newRow]
  · simp only [h0, if_false, Sem.run_bind, hzv, Result.andThen_ok, Sem.run_pure, hm, hf]
    simp [newRow]

section
variable {P : Program} {γ : G} {fr : Fr} {a : Act} {o : Oper} {v : AV} {h h' : H} {F : Nat → Option Obj} {w0 w : World}

/-- it makes one new block with these cells -/
def Makes (P : Program) (γ : G) (a : Act) (o : Oper) (cs : List AV) (f : Nat → AV) : Prop :=
  ∃ (ccs : List Value) (e : TypeId) (val : Nat → Value), Rs γ cs ccs ∧ (∀ w, (execOp a.eval o).run P w = .ok (.value (val w.heap.size)) (w.alloc (.cells ⟨ccs⟩ e))) ∧ ∀ (γ' : G) (b B : Nat), γ'.blk b = some (B, 0) → R γ' (f b) (val B)

theorem allocOp_sound {cs : List AV} {f : Nat → AV} (hal : allocOp P fr o = some (cs, f)) (hx : Opd γ fr a o.op.operands) : Makes P γ a o cs f := by
  unfold allocOp at hal
  split at hal
  · rename_i t hop
    unfold oAlloc at hal
    split at hal
    · rename_i z hz
      unfold ptrNew at hal
      injection hal with hal
      injection hal with e1 e2
      subst e1; subst e2
      obtain ⟨i, hi, hz⟩ := zero_some hz
      refine ⟨z.cells.toList, t, fun B => .pointer (some ⟨B, 0, none⟩), cellsOf_R (.lit z), fun w => ?_, fun γ' b B hb => R.ptr (off := 0) hb⟩
      simp [execOp, hop, Instr.alloc, zeroValue, typeInfo, hi, hz, newVar, newRow]
    · cases hal
  · rename_i t x hop
    rw [hop] at hx
    unfold oBox at hal
    split at hal
    · rename_i u hu
      unfold ptrNew at hal
      injection hal with hal
      injection hal with e1 e2
      subst e1; subst e2
      have h1 := hx x (by simp [Op.operands]) _ hu
      refine ⟨(a.eval x).cells.toList, t, fun B => .pointer (some ⟨B, 0, none⟩), cellsOf_R h1, fun w => ?_, fun γ' b B hb => R.ptr (off := 0) hb⟩
      simp [execOp, hop, Instr.box, newVar, newRow]
    · cases hal
  · rename_i t len ps hop
    rw [hop] at hx
    unfold oBuildSlice at hal
    split at hal
    · rename_i e qs he hqs
      split at hal
      · rename_i sz z hsz hz
        obtain ⟨hc, hal⟩ := sel_some hal
        simp only [Bool.and_eq_true, Nat.beq_eq, Nat.ble_eq, Bool.not_eq_true'] at hc
        obtain ⟨⟨c1, c2⟩, c3⟩ := hc
        unfold slNew at hal
        split at hal
        · rename_i r hr
          injection hal with hal
          injection hal with e1 e2
          subst e1; subst e2
          obtain ⟨i, hi, hz⟩ := zero_some hz
          have hzc := cellsOf_R (R.lit (γ := γ) z)
          have hzl : z.cells.size = sz := by rw [← c1, hzc.1]; simp
          have hsz0 : sz ≠ 0 := fun e => by subst e; cases c3
          have hp := opParts_R (γ := γ) (a := a) ps.toList qs hqs (fun x hxm => hx x (by simpa [Op.operands] using hxm))
          obtain ⟨cr, hcr, hR⟩ := fillA_R (γ := γ) _ qs _ _ _ _ hr hp (repC_R hzc len)
          refine ⟨cr, e, fun B => .slice (some ⟨B, 0, none⟩) len len, hR, fun w => ?_, fun γ' b B hb => R.sl (off := 0) hb (.known _)⟩
          obtain ⟨i', hi', rfl⟩ := sizeOf_some hsz
          have hps : (ps.map fun (i, x) => (i, a.eval x)).toList = ps.toList.map fun p => (p.1, a.eval p.2) := by simp
          have := run_buildSlice (P := P) w t e len (ps.map fun (i, x) => (i, a.eval x)) i' z ⟨cr⟩ (elem_some he) hi' (by rw [hi] at hi'; injection hi' with hi'; subst hi'; exact hz) hzl hsz0 (by omega) (by rw [hps]; exact hcr)
          simp only [execOp, hop, Sem.run_bind, this]
          rfl
        · cases hal
      · cases hal
    · cases hal
  · rename_i t l c hop
    rw [hop] at hx
    unfold oMakeSlice at hal
    split at hal
    · rename_i e lv cv he hlv hcv
      split at hal
      · rename_i ln cn i hl hc hi
        split at hal
        · rename_i z hz
          obtain ⟨hcond, hal⟩ := sel_some hal
          simp only [Bool.and_eq_true, Nat.beq_eq, Nat.ble_eq, Bool.not_eq_true'] at hcond
          obtain ⟨⟨⟨⟨c1, c2⟩, c3⟩, c4⟩, c5⟩ := hcond
          unfold slNew at hal
          injection hal with hal
          injection hal with e1 e2
          subst e1; subst e2
          obtain ⟨k1, hk1⟩ := natOf_R hl (hx l (by simp [Op.operands]) _ hlv)
          obtain ⟨k2, hk2⟩ := natOf_R hc (hx c (by simp [Op.operands]) _ hcv)
          have hzc := cellsOf_R (R.lit (γ := γ) z)
          have hzl : z.cells.size = i.size := by rw [← c3, hzc.1]; simp
          have hsz0 : i.size ≠ 0 := fun e => by rw [e] at c5; cases c5
          refine ⟨repC z.cells.toList cn, e, fun B => .slice (some ⟨B, 0, none⟩) ln cn, repC_R hzc cn, fun w => ?_, fun γ' b B hb => R.sl (off := 0) hb (.known _)⟩
          have hby : (i.bytes : Int) * (cn : Int) ≤ 281474976710656 := by
            have : ((cn * i.bytes : Nat) : Int) ≤ 1000000 := by omega
            rw [Int.natCast_mul, Int.mul_comm] at this
            omega
          have := run_make (P := P) w t e i z (elem_some he) hi hz k1 k2 (ln : Int) (cn : Int) (by omega) (by omega) hby (by omega)
          have hm := made_eq z.cells cn (by omega)
          rw [hzl] at hm
          simp only [Int.toNat_natCast, hm] at this
          simp [execOp, hop, hk1, hk2, this]
        · cases hal
      · cases hal
    · cases hal
  · cases hal

/-- more is known of blocks from n on -/
structure Ext (γ γ' : G) (n n' : Nat) : Prop where
  le : γ.le γ'
  same : ∀ b, b < n → γ'.blk b = γ.blk b
  mono : n ≤ n'
theorem Ext.refl (γ : G) (n : Nat) : Ext γ γ n n := ⟨G.le_refl γ, fun _ _ => rfl, Nat.le_refl _⟩
theorem Ext.trans {γ1 γ2 γ3 : G} {n1 n2 n3 : Nat} (h : Ext γ1 γ2 n1 n2) (k : Ext γ2 γ3 n2 n3) : Ext γ1 γ3 n1 n3 :=
  ⟨h.le.trans k.le, fun b hb => (k.same b (Nat.lt_of_lt_of_le hb h.mono)).trans (h.same b hb), Nat.le_trans h.mono k.mono⟩

/-- a new row whose capacity is drawn -/
theorem HR.newUnk (hh : HR γ h F w0 w) {cs : List AV} {ccs more : List Value} {m sz : Nat} {w' : World} {e : TypeId} {fz : Nat × Nat} (hr : Rs γ cs ccs)
    (hw : w'.heap = w.heap.push (.cells ⟨ccs ++ more⟩ e fz)) (h2 : w'.os = w.os) (h3 : w'.tape = w.tape) (h4 : w'.output = w.output)
    (hf : ∀ i, i < (ccs ++ more).length → ¬ (fz.1 ≤ i ∧ i < fz.2)) (a1 : cs.length ≤ m * sz) (a2 : m * sz ≤ (ccs ++ more).length) :
    ∃ γ', Ext γ γ' h.next (h.next + 1) ∧ γ'.blk h.next = some (w.heap.size, 0) ∧ γ'.cap h.tok = some m ∧ HR γ' (h.newUnk cs sz) F w0 w' := by
  have f1 : γ.blk h.next = none := hh.fresh _ (Nat.le_refl _)
  have f2 : γ.cap h.tok = none := hh.ftok _ (Nat.le_refl _)
  have hle : γ.le ((γ.add h.next w.heap.size 0).addCap h.tok m) := (G.le_add γ f1).trans (G.le_addCap (γ.add h.next w.heap.size 0) f2)
  refine ⟨(γ.add h.next w.heap.size 0).addCap h.tok m, ⟨hle, fun b hb => by simp only [G.add, G.addCap]; rw [if_neg (by omega)], Nat.le_succ _⟩, by simp [G.add, G.addCap], by simp [G.addCap], ?_⟩
  unfold H.newUnk
  refine hh.new (O := 0) hle (by simp [G.add, G.addCap]) (fun b' hne => by simp [G.add, G.addCap, hne]) (fun b' hb' => ?_) (fun t ht => ?_) hw h2 h3 h4 ?_ rfl
  · simp only [G.add, G.addCap]
    rw [if_neg (by omega)]
    exact hh.fresh b' (by omega)
  · simp only [G.addCap]
    rw [if_neg (by omega)]
    exact hh.ftok t (by omega)
  · refine at_new (more := more) (e := e) (fz := fz) (hr.mono hle) (by rw [hw]; simp) rfl hf (fun t s hts => ?_)
    injection hts with hts
    injection hts with e1 e2
    subst e1; subst e2
    exact ⟨m, by simp [G.addCap], a1, a2⟩

/-- a row grows where it lies: the old one is gone -/
theorem HR.retire (hh : HR γ h F w0 w) {b B O n m sz : Nat} {k : Blk} {cells : T AV} {w' : World} (hk : h.blks.get b = some k) (hb : γ.blk b = some (B, O)) (hro : k.ro = false) (hch : Chg w w' B)
    (hat : ∀ γ', γ.le γ' → γ'.cap h.tok = some m → At γ' { cells := cells, n := n, tok := some (h.tok, sz), ro := false } w' B O) :
    ∃ γ', Ext γ γ' h.next (h.next + 1) ∧ γ'.blk h.next = some (B, O) ∧ γ'.cap h.tok = some m ∧ HR γ' { blks := (h.blks.del b).put h.next { cells := cells, n := n, tok := some (h.tok, sz), ro := false }, next := h.next + 1, tok := h.tok + 1 } F w0 w' := by
  have f1 : γ.blk h.next = none := hh.fresh _ (Nat.le_refl _)
  have f2 : γ.cap h.tok = none := hh.ftok _ (Nat.le_refl _)
  have hle : γ.le ((γ.add h.next B O).addCap h.tok m) := (G.le_add γ f1).trans (G.le_addCap (γ.add h.next B O) f2)
  obtain ⟨B', O', hb', hF, _, hat0⟩ := hh.here b k hk
  rw [hb] at hb'
  injection hb' with hb'
  injection hb' with e1 e2
  subst e1; subst e2
  have hFB : F B = none := hF hro
  refine ⟨(γ.add h.next B O).addCap h.tok m, ⟨hle, fun b hb => by simp only [G.add, G.addCap]; rw [if_neg (by omega)], Nat.le_succ _⟩, by simp [G.add, G.addCap], by simp [G.addCap], ?_⟩
  have hoth : ∀ b', b' ≠ h.next → ((γ.add h.next B O).addCap h.tok m).blk b' = γ.blk b' := fun b' hne => by simp [G.add, G.addCap, hne]
  have old : ∀ c l B1 P1, c ≠ h.next → c ≠ b → h.blks.get c = some l → ((γ.add h.next B O).addCap h.tok m).blk c = some (B1, P1) → γ.blk c = some (B1, P1) ∧ B1 ≠ B := fun c l B1 P1 hne hcb hc hB => by
    rw [hoth c hne] at hB
    refine ⟨hB, fun e => ?_⟩
    subst e
    exact hcb (hh.inj b c k l B1 O P1 hk hc hb hB hro).symm
  refine { os := hch.os.trans hh.os, tape := hch.tape.trans hh.tape, output := hch.output.trans hh.output, size := by rw [hch.size]; exact hh.size, low := fun B' o hB' => ?_, fresh := fun b' hb' => ?_, ftok := fun t ht => ?_, here := fun c l hc => ?_, inj := fun c c' l l' B1 P1 P2 hc hc' hB1 hB2 hl => ?_ }
  · rw [hch.block B' (fun e => by subst e; rw [hFB] at hB'; cases hB')]
    exact hh.low B' o hB'
  · have hb' : h.next + 1 ≤ b' := hb'
    simp only [G.add, G.addCap]
    rw [if_neg (by omega)]
    exact hh.fresh b' (by omega)
  · have ht : h.tok + 1 ≤ t := ht
    simp only [G.addCap]
    rw [if_neg (by omega)]
    exact hh.ftok t (by omega)
  · rcases get_put hc with ⟨rfl, rfl⟩ | ⟨hne, hc1⟩
    · exact ⟨B, O, by simp [G.add, G.addCap], fun _ => hFB, (fun e => by cases e), hat _ hle (by simp [G.addCap])⟩
    · obtain ⟨hcb, hc2⟩ := get_del hc1
      obtain ⟨B1, O1, p1, p2, p3, p4⟩ := hh.here c l hc2
      have p1' := hle.1 _ _ p1
      refine ⟨B1, O1, p1', p2, p3, p4.mono hle (hch.block B1 (old c l B1 O1 hne hcb hc2 p1').2)⟩
  · rcases get_put hc with ⟨rfl, rfl⟩ | ⟨hne, hc1⟩
    · rcases get_put hc' with ⟨rfl, _⟩ | ⟨hne', hc1'⟩
      · rfl
      · obtain ⟨hcb, hc2⟩ := get_del hc1'
        have := (old _ _ _ _ hne' hcb hc2 hB2).2
        have hB1' : some (B, O) = some (B1, P1) := by rw [← hB1]; simp [G.add, G.addCap]
        injection hB1' with hB1'
        injection hB1' with e1 _
        exact absurd e1.symm this
    · obtain ⟨hcb, hc2⟩ := get_del hc1
      rcases get_put hc' with ⟨rfl, rfl⟩ | ⟨hne', hc1'⟩
      · have := (old _ _ _ _ hne hcb hc2 hB1).2
        have hB2' : some (B, O) = some (B1, P2) := by rw [← hB2]; simp [G.add, G.addCap]
        injection hB2' with hB2'
        injection hB2' with e1 _
        exact absurd e1.symm this
      · obtain ⟨hcb', hc2'⟩ := get_del hc1'
        exact hh.inj c c' l l' B1 P1 P2 hc2 hc2' (old _ _ _ _ hne hcb hc2 hB1).1 (old _ _ _ _ hne' hcb' hc2' hB2).1 hl
end
end Go.Ev
