/- callboardlaw02.WireReads returns true at every input, and its arguments read as they did. Conditions: none. -/
import Derived.Test.YtlflkmigfggdjaaRows
import Derived.Test.YtlflkmigfggdjaaLaw
import Derived.Test.YtlflkmigfggdjaaWireRe
import Derived.ChangeSlices
namespace Go.Proofs.Ytlflkmigfggdjaa
open Go.RowKit Go.Ow Go.Wi
theorem reads_big (s : ByteArray) (o : Option Addr) (len cap : Nat) (most : Int) (w : World) (hs : s.size ≤ 9223372036854775807) (hl : len ≤ 9223372036854775807) (h : 2000 < s.size ∨ 300 < len) :
    Calls Try.prog 7 #[.string s, .slice o len cap, .int .i64 most] w fun e w' => e = .returned (.bool true) ∧ Below w.heap.size w w' := by
  by_cases h1 : 2000 < s.size
  · clear h
    go_enter Try.func7, Try.ntmps7
    go_wp2_with (go_at_call 10; refine (awake_true _).mono ?_; rintro e w9 ⟨rfl, hb9⟩)
    go_ret
    exact ⟨rfl, hb9⟩
  · have h2 : 300 < len := by omega
    have h1' : s.size ≤ 2000 := by omega
    clear h h1
    go_enter Try.func7, Try.ntmps7
    go_wp2_with (go_at_call 10; refine (awake_true _).mono ?_; rintro e w9 ⟨rfl, hb9⟩)
    go_ret
    exact ⟨rfl, hb9⟩
theorem reads_none (s : ByteArray) (o : Option Addr) (cap : Nat) (most : Int) (w : World) (hs : s.size ≤ 2000) :
    Calls Try.prog 7 #[.string s, .slice o 0 cap, .int .i64 most] w fun e w' => e = .returned (.bool true) ∧ Below w.heap.size w w' := by
  have HB : Hid (Below w.heap.size w ((w.alloc (ob s)).alloc (.cells #[.string s, .int .i64 0] 53))) := Lib.hid (((Below.refl _ _).alloc (Nat.le_refl _) _).alloc (by simp) _)
  go_enter Try.func7, Try.ntmps7
  go_wp2_with (go_at_call 21; refine (open_any _ _).mono ?_; rintro e w2 ⟨rfl, rfl⟩)
  go_loopw [9] (fun I wr => I = .int .i64 0 ∧ wr = (w.alloc (ob s)).alloc (.cells #[.string s, .int .i64 0] 53)) (fun _ _ => 0)
  case atStart => exact ⟨rfl, rfl⟩
  case round =>
    obtain ⟨rfl, rfl⟩ := hrel
    go_wp2_with (go_at_call 10; refine (awake_true _).mono ?_; rintro e w9 ⟨rfl, hb9⟩)
    go_ret
    exact ⟨rfl, Below.trans HB.out (hb9.mono HB.out.size)⟩
end Go.Proofs.Ytlflkmigfggdjaa
namespace Go.Proofs.Ytlflkmigfggdjaa.wireReads
open Go.ChangeShapes Go.WideShapes Go.ChangeAt Go.RowKit Go.Joins Go.Wi
open Go.ChangeMaps (open_string)

theorem own : ownKnob Try.prog.godebug = none := by kernel_rfl
theorem laidOut : laidOutB Try.prog = true := by kernel_rfl
theorem cells5 : Try.prog.cellsOf 5 = 1 := by kernel_rfl

set_option maxRecDepth 100000 in
theorem lifted (os : Os) (started : os.Started) (H : Type) (enc : TypeId × Value → H) :
    ReturnsInHanded {} Try.checked os 7 .any (Rows.wireReadsSpec.pre6 enc Try.prog Try.f7 Rows.wireReadsRow.domain false) (Rows.wireReadsSpec.post enc Try.prog Try.f7 false true false false) := by
  refine returnsInHanded_of_change (C := Try.checked) own started (by kernel_rfl) Try.func7
    (ChangeSpec.witness6 (enc := enc) (C := Try.checked) false ⟨#[], #[.string ⟨#[]⟩, .slice none 0 0, .int .i64 0], []⟩ 8 (by kernel_rfl) (by kernel_rfl) (by kernel_rfl) (by kernel_rfl)) ?_
  intro W base args ds gs before hval0 hW _ _
  have hval : ∀ (j : Nat) t v, Try.f7.params[j]? = some t → args[j]? = some v → Value.okWide Try.prog W .any base t v := hval0
  have hW' := hW
  obtain ⟨p, q, hA0, hV, rfl, hfz, hnd⟩ := hW
  have hA : DataW.TrodAll enc Try.prog W 0 (fun _ => true) true Try.f7.params.toList args.toList ds p := hA0
  rw [Try.params7] at hA hval
  obtain ⟨v0, vs0, d0, ds0, p0, q0, e0, rfl, rfl, h0, hA1⟩ := trodAll_cons hA
  obtain ⟨v1, vs1, d1, ds1, p1, q1, rfl, rfl, rfl, h1, hA2⟩ := trodAll_cons hA1
  obtain ⟨v2, vs2, d2, ds2, p2, q2, rfl, rfl, rfl, h2, hA3⟩ := trodAll_cons hA2
  obtain ⟨e5, rfl, rfl⟩ := trodAll_none (args := ⟨vs2⟩) hA3
  obtain rfl : vs2 = [] := by simpa using e5
  obtain rfl : args = #[v0, v1, v2] := by cases args; simp at e0; simp [e0]
  obtain ⟨s, rfl, rfl, rfl, ws⟩ := open_string Try.underlying9 (hval 0 9 v0 rfl rfl) h0
  obtain ⟨o, len, cap, rfl⟩ := okWide_slice Try.underlying50 (hval 1 50 v1 rfl rfl)
  obtain ⟨most, rfl, rfl, rfl, wn⟩ := open_int Try.underlying3 (hval 2 3 v2 rfl rfl) h2
  obtain ⟨fuel1, hf1⟩ := h1
  clear hA0 hval0
  unfold maxLen at ws
  have hcall : Calls Try.prog 7 #[.string s, .slice o len cap, .int .i64 most] W fun e w' => e = .returned (.bool true) ∧ Below W.heap.size W w' := by
    rcases open_ints Try.underlying50 Try.underlying5 cells5 hf1 with ⟨hcs, hx⟩ | ⟨ad, len', cap', zd, hcs, _, hdl, hdm, hdz, hx, hdcell, hdw⟩
    · simp [Value.cells] at hcs
      obtain ⟨rfl, rfl, rfl⟩ := hcs
      by_cases hb : s.size ≤ 2000
      · exact reads_none s none 0 most W hb
      · exact reads_big s none 0 0 most W (by omega) (by omega) (by omega)
    · simp [Value.cells] at hcs
      obtain ⟨rfl, rfl, rfl⟩ := hcs
      unfold maxLen at hdm
      by_cases hb : s.size ≤ 2000 ∧ len ≤ 300
      · by_cases hl0 : len = 0
        · subst hl0
          exact reads_none s _ cap most W hb.1
        · have hzl : zd.length = cap := by simpa using hdz
          have hc0 := hdcell 0 (by omega)
          obtain ⟨b, off, spot⟩ := ad
          have hsp : spot = none ∧ b < W.heap.size := by
            simp only [Addr.add, if_pos] at hc0
            unfold World.cell? at hc0
            split at hc0
            · rename_i heq
              refine ⟨?_, (Array.getElem?_eq_some_iff.1 heq).1⟩
              cases spot with
              | none => rfl
              | some _ => simp at hc0
            · cases hc0
          obtain ⟨rfl, hbl⟩ := hsp
          refine reads_cells s b off len cap most W hb.1 hb.2 hbl fun k hk => ?_
          have hck := hdcell k (by omega)
          have hadd : (Addr.mk b off none).add k = ⟨b, off + k, none⟩ := by
            unfold Addr.add
            split
            · rename_i h; subst h; rfl
            · rfl
          rw [hadd] at hck
          have hw := hdw (zd.getD k 0) (by rw [List.getD_eq_getElem?_getD, List.getElem?_eq_getElem (by omega)]; simp)
          have wk' : 0 ≤ zd.getD k 0 ∧ zd.getD k 0 ≤ 255 := by simpa [Lit.wf, IntKind.min, IntKind.max, IntKind.signed, IntKind.bits] using hw
          obtain ⟨z, hz⟩ := Int.eq_ofNat_of_zero_le wk'.1
          rw [hz] at hck wk'
          exact ⟨z, by omega, hck⟩
      · exact reads_big s _ len cap most W (by omega) (by omega) (by omega)
  refine hcall.mono fun e W' ⟨he, hg⟩ => ?_
  subst he
  exact ⟨_, rfl, Law.post_true rfl (by kernel_rfl) Try.underlying4 laidOut (by kernel_rfl) hW' rfl rfl rfl hg⟩

theorem over : Rows.wireReadsRow.holds Try.pinned (OpenSpec.ofChange Rows.wireReadsSpec) :=
  OpenClaim.holds_of_wide 7 Try.f7 rfl rfl rfl rfl rfl rfl rfl ⟨rfl, rfl, rfl, rfl, rfl⟩ rfl rfl rfl rfl rfl (by kernel_rfl) Try.func7 (by kernel_rfl)
    (of_decide_eq_true (by kernel_rfl)) (by unfold Func.isWrapper; first | (rw [if_pos (by decide +kernel)]; kernel_rfl) | (rw [if_neg (by decide +kernel)]; exact ⟨rfl, rfl⟩))
    (fun os started H enc _ => lifted os started H enc)

/-- THE STATEMENT -/
theorem proved : Rows.WireReadsSaid := over
end Go.Proofs.Ytlflkmigfggdjaa.wireReads
