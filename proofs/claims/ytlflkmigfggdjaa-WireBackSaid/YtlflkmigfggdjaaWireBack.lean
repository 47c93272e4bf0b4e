/- callboardlaw02.WireBack returns true at every input, and its arguments read as they did. Conditions: none. -/
import Derived.Test.YtlflkmigfggdjaaRows
import Derived.Test.YtlflkmigfggdjaaOpen
import Derived.Test.YtlflkmigfggdjaaWireBk1
namespace Go.Proofs.Ytlflkmigfggdjaa
open Go.RowKit Go.Ow Go.Wi
set_option maxRecDepth 100000 in
set_option maxHeartbeats 2000000 in
theorem back_big (o1 o2 o3 o4 : Option Addr) (ln lx lt lv c1 c2 c3 c4 : Nat) (bh : ByteArray) (w : World) (m1 : ln ≤ 9223372036854775807) (m2 : lx ≤ 9223372036854775807) (m3 : lt ≤ 9223372036854775807) (m4 : lv ≤ 9223372036854775807) (m5 : bh.size ≤ 9223372036854775807)
    (h : 50 < ln ∨ 50 < lx ∨ 50 < lt ∨ 50 < lv ∨ 1000 < bh.size) :
    Calls Try.prog 9 #[.slice o1 ln c1, .slice o2 lx c2, .slice o3 lt c3, .slice o4 lv c4, .string bh] w fun e w' => e = .returned (.bool true) ∧ Below w.heap.size w w' := by
  rcases (show 50 < ln ∨ (ln ≤ 50 ∧ 50 < lx) ∨ (ln ≤ 50 ∧ lx ≤ 50 ∧ 50 < lt) ∨ (ln ≤ 50 ∧ lx ≤ 50 ∧ lt ≤ 50 ∧ 50 < lv) ∨ (ln ≤ 50 ∧ lx ≤ 50 ∧ lt ≤ 50 ∧ lv ≤ 50 ∧ 1000 < bh.size) by omega) with h1 | ⟨h1, h2⟩ | ⟨h1, h2, h3⟩ | ⟨h1, h2, h3, h4⟩ | ⟨h1, h2, h3, h4, h5⟩
  all_goals
    clear h
    go_enter Try.func9, Try.ntmps9
    go_wp2_with (go_at_call 10; refine (awake_true _).mono ?_; rintro e w9 ⟨rfl, hb9⟩)
    go_ret
    exact ⟨rfl, hb9⟩
end Go.Proofs.Ytlflkmigfggdjaa
namespace Go.Proofs.Ytlflkmigfggdjaa.wireBack
open Go.ChangeShapes Go.WideShapes Go.ChangeAt Go.RowKit Go.Joins Go.Wi Go.Law
open Go.ChangeMaps (open_string)

theorem own : ownKnob Try.prog.godebug = none := by kernel_rfl
theorem laidOut : laidOutB Try.prog = true := by kernel_rfl
theorem cells2 : Try.prog.cellsOf 2 = 1 := by kernel_rfl
theorem cells3 : Try.prog.cellsOf 3 = 1 := by kernel_rfl
theorem cells5 : Try.prog.cellsOf 5 = 1 := by kernel_rfl
theorem cells9 : Try.prog.cellsOf 9 = 1 := by kernel_rfl
theorem cells23 : Try.prog.cellsOf 23 = 3 := by kernel_rfl
theorem wf64 {n : Int} (h : (Lit.int .i64 n).wf = true) : -9223372036854775808 ≤ n ∧ n ≤ 9223372036854775807 := by simpa [Lit.wf, IntKind.min, IntKind.max, IntKind.signed, IntKind.bits] using h

section
variable {H : Type} {enc : TypeId × Value → H} {w : World} {base : Nat} {spare : Nat → Bool} {held : Bool}
theorem is_of {t e : TypeId} {fuel : Nat} {o : Option Addr} {len cap : Nat} {x : DataW H × List MemPlace} (ht : Try.prog.underlying t = some (.slice e)) (he : Try.prog.underlying e = some (.int .i64)) (hC : Try.prog.cellsOf e = 1)
    (h : DataW.trod enc Try.prog w base spare held fuel t [.slice o len cap] = some x) :
    len ≤ 9223372036854775807 ∧ ∃ f : Nat → Int, Is w o len f ∧ ∀ k, -9223372036854775808 ≤ f k ∧ f k ≤ 9223372036854775807 := by
  obtain ⟨h1, _, h2⟩ := slice_cells ht hC (by decide) h
  refine ⟨by unfold maxLen at h1; exact h1, ?_⟩
  have h3 : ∀ k, ∃ z : Int, (-9223372036854775808 ≤ z ∧ z ≤ 9223372036854775807) ∧ (k < len → ∃ b off, o = some ⟨b, off, none⟩ ∧ b < w.heap.size ∧ w.cell? ⟨b, off + k, none⟩ = some (.int .i64 z)) := fun k => by
    by_cases hk : k < len
    · obtain ⟨cs, n, y, hl, hy, b, off, ho, hb, hc⟩ := h2 k hk
      obtain ⟨z, rfl, _, wz⟩ := DataW.trod_int he hy
      have := hc 0 (by decide)
      simp at this
      exact ⟨z, wf64 wz, fun _ => ⟨b, off, ho, hb, this⟩⟩
    · exact ⟨0, by omega, fun h => absurd h hk⟩
  refine ⟨fun k => (h3 k).choose, fun k hk => (h3 k).choose_spec.2 hk, fun k => (h3 k).choose_spec.1⟩
theorem ss_of {t e : TypeId} {fuel : Nat} {o : Option Addr} {len cap : Nat} {x : DataW H × List MemPlace} (ht : Try.prog.underlying t = some (.slice e)) (he : Try.prog.underlying e = some .string) (hC : Try.prog.cellsOf e = 1)
    (h : DataW.trod enc Try.prog w base spare held fuel t [.slice o len cap] = some x) :
    len ≤ 9223372036854775807 ∧ ∃ f : Nat → ByteArray, Ss w o len f ∧ ∀ k, (f k).size ≤ 9223372036854775807 := by
  obtain ⟨h1, _, h2⟩ := slice_cells ht hC (by decide) h
  refine ⟨by unfold maxLen at h1; exact h1, ?_⟩
  have h3 : ∀ k, ∃ z : ByteArray, z.size ≤ 9223372036854775807 ∧ (k < len → ∃ b off, o = some ⟨b, off, none⟩ ∧ b < w.heap.size ∧ w.cell? ⟨b, off + k, none⟩ = some (.string z)) := fun k => by
    by_cases hk : k < len
    · obtain ⟨cs, n, y, hl, hy, b, off, ho, hb, hc⟩ := h2 k hk
      obtain ⟨z, rfl, _, wz⟩ := DataW.trod_string he hy
      have := hc 0 (by decide)
      simp at this
      exact ⟨z, by unfold maxLen at wz; exact wz, fun _ => ⟨b, off, ho, hb, this⟩⟩
    · exact ⟨⟨#[]⟩, by decide, fun h => absurd h hk⟩
  refine ⟨fun k => (h3 k).choose, fun k hk => (h3 k).choose_spec.2 hk, fun k => (h3 k).choose_spec.1⟩
theorem vs_of {fuel : Nat} {o : Option Addr} {len cap : Nat} {x : DataW H × List MemPlace}
    (h : DataW.trod enc Try.prog w base spare held fuel 57 [.slice o len cap] = some x) :
    len ≤ 9223372036854775807 ∧ ∃ (f : Nat → Nat) (g : Nat → Int) (i : Nat → ByteArray), Vs w o len f g i ∧ ∀ k, f k < 256 ∧ -9223372036854775808 ≤ g k ∧ g k ≤ 9223372036854775807 ∧ (i k).size ≤ 9223372036854775807 := by
  obtain ⟨h1, _, h2⟩ := slice_cells Try.underlying57 cells23 (by decide) h
  refine ⟨by unfold maxLen at h1; exact h1, ?_⟩
  have h3 : ∀ k, ∃ z : Nat × Int × ByteArray, (z.1 < 256 ∧ -9223372036854775808 ≤ z.2.1 ∧ z.2.1 ≤ 9223372036854775807 ∧ z.2.2.size ≤ 9223372036854775807) ∧ (k < len → ∃ b off, o = some ⟨b, off, none⟩ ∧ b < w.heap.size ∧ w.cell? ⟨b, off + k * 3, none⟩ = some (.int .u8 z.1) ∧ w.cell? ⟨b, off + k * 3 + 1, none⟩ = some (.int .i64 z.2.1) ∧ w.cell? ⟨b, off + k * 3 + 2, none⟩ = some (.string z.2.2)) := fun k => by
    by_cases hk : k < len
    · obtain ⟨cs, n, y, hl, hy, b, off, ho, hb, hc⟩ := h2 k hk
      obtain ⟨v0, n0, y0, e0, t0⟩ := struct_cell Try.underlying23 hy 0 _ rfl rfl cells5 (by omega)
      obtain ⟨v1, n1, y1, e1, t1⟩ := struct_cell Try.underlying23 hy 1 _ rfl rfl cells2 (by omega)
      obtain ⟨v2, n2, y2, e2, t2⟩ := struct_cell Try.underlying23 hy 2 _ rfl rfl cells9 (by omega)
      obtain ⟨a, ea, _, wa⟩ := DataW.trod_int Try.underlying5 t0
      obtain ⟨c, ec, _, wc⟩ := DataW.trod_int Try.underlying2 t1
      obtain ⟨d, ed, _, wd⟩ := DataW.trod_string Try.underlying9 t2
      simp at ea ec ed
      subst ea ec ed
      have c0 := hc 0 (by decide)
      have c1 := hc 1 (by decide)
      have c2 := hc 2 (by decide)
      rw [e0] at c0
      rw [e1] at c1
      rw [e2] at c2
      have wa' : 0 ≤ a ∧ a ≤ 255 := by simpa [Lit.wf, IntKind.min, IntKind.max, IntKind.signed, IntKind.bits] using wa
      obtain ⟨a', rfl⟩ := Int.eq_ofNat_of_zero_le wa'.1
      have wc' := wf64 wc
      unfold maxLen at wd
      exact ⟨(a', c, d), ⟨by simp only; omega, wc'.1, wc'.2, wd⟩, fun _ => ⟨b, off, ho, hb, c0, c1, c2⟩⟩
    · exact ⟨(0, 0, ⟨#[]⟩), ⟨by decide, by decide, by decide, by decide⟩, fun h => absurd h hk⟩
  refine ⟨fun k => (h3 k).choose.1, fun k => (h3 k).choose.2.1, fun k => (h3 k).choose.2.2, fun k hk => (h3 k).choose_spec.2 hk, fun k => (h3 k).choose_spec.1⟩
end

set_option maxRecDepth 100000 in
theorem lifted (os : Os) (started : os.Started) (H : Type) (enc : TypeId × Value → H) :
    ReturnsInHanded {} Try.checked os 9 .any (Rows.wireBackSpec.pre6 enc Try.prog Try.f9 Rows.wireBackRow.domain false) (Rows.wireBackSpec.post enc Try.prog Try.f9 false true false false) := by
  refine returnsInHanded_of_change (C := Try.checked) own started (by kernel_rfl) Try.func9
    (ChangeSpec.witness6 (enc := enc) (C := Try.checked) false ⟨#[], #[.slice none 0 0, .slice none 0 0, .slice none 0 0, .slice none 0 0, .string ⟨#[]⟩], []⟩ 8 (by kernel_rfl) (by kernel_rfl) (by kernel_rfl) (by kernel_rfl)) ?_
  intro W base args ds gs before hval0 hW _ _
  have hval : ∀ (j : Nat) t v, Try.f9.params[j]? = some t → args[j]? = some v → Value.okWide Try.prog W .any base t v := hval0
  have hW' := hW
  obtain ⟨p, q, hA0, hV, rfl, hfz, hnd⟩ := hW
  have hA : DataW.TrodAll enc Try.prog W 0 (fun _ => true) true Try.f9.params.toList args.toList ds p := hA0
  rw [Try.params9] at hA hval
  obtain ⟨v0, vs0, d0, ds0, p0, q0, e0, rfl, rfl, h0, hA1⟩ := trodAll_cons hA
  obtain ⟨v1, vs1, d1, ds1, p1, q1, rfl, rfl, rfl, h1, hA2⟩ := trodAll_cons hA1
  obtain ⟨v2, vs2, d2, ds2, p2, q2, rfl, rfl, rfl, h2, hA3⟩ := trodAll_cons hA2
  obtain ⟨v3, vs3, d3, ds3, p3, q3, rfl, rfl, rfl, h3, hA4⟩ := trodAll_cons hA3
  obtain ⟨v4, vs4, d4, ds4, p4, q4, rfl, rfl, rfl, h4, hA5⟩ := trodAll_cons hA4
  obtain ⟨e5, rfl, rfl⟩ := trodAll_none (args := ⟨vs4⟩) hA5
  obtain rfl : vs4 = [] := by simpa using e5
  obtain rfl : args = #[v0, v1, v2, v3, v4] := by cases args; simp at e0; simp [e0]
  obtain ⟨o1, ln, c1, rfl⟩ := okWide_slice Try.underlying58 (hval 0 58 v0 rfl rfl)
  obtain ⟨o2, lx, c2, rfl⟩ := okWide_slice Try.underlying56 (hval 1 56 v1 rfl rfl)
  obtain ⟨o3, lt, c3, rfl⟩ := okWide_slice Try.underlying59 (hval 2 59 v2 rfl rfl)
  obtain ⟨o4, lv, c4, rfl⟩ := okWide_slice Try.underlying57 (hval 3 57 v3 rfl rfl)
  obtain ⟨bh, rfl, rfl, rfl, ws⟩ := open_string Try.underlying9 (hval 4 9 v4 rfl rfl) h4
  obtain ⟨f0, hf0⟩ := h0
  obtain ⟨f1, hf1⟩ := h1
  obtain ⟨f2, hf2⟩ := h2
  obtain ⟨f3, hf3⟩ := h3
  clear hA0 hval0
  unfold maxLen at ws
  have hcall : Calls Try.prog 9 #[.slice o1 ln c1, .slice o2 lx c2, .slice o3 lt c3, .slice o4 lv c4, .string bh] W fun e w' => e = .returned (.bool true) ∧ Below W.heap.size W w' := by
    obtain ⟨m1, ns, i1, _⟩ := is_of Try.underlying58 Try.underlying3 cells3 hf0
    obtain ⟨m2, xs, i2, b2⟩ := is_of Try.underlying56 Try.underlying2 cells2 hf1
    obtain ⟨m3, ts, i3, b3⟩ := ss_of Try.underlying59 Try.underlying9 cells9 hf2
    obtain ⟨m4, vk, vn, vt, i4, b4⟩ := vs_of hf3
    by_cases hb : ln ≤ 50 ∧ lx ≤ 50 ∧ lt ≤ 50 ∧ lv ≤ 50 ∧ bh.size ≤ 1000
    · exact back_cells o1 o2 o3 o4 ln lx lt lv c1 c2 c3 c4 bh ns xs ts vk vn vt W hb.1 hb.2.1 hb.2.2.1 hb.2.2.2.1 hb.2.2.2.2 i1 i2 i3 i4 b2 b3 b4
    · exact back_big o1 o2 o3 o4 ln lx lt lv c1 c2 c3 c4 bh W m1 m2 m3 m4 ws (by omega)
  refine hcall.mono fun e W' ⟨he, hg⟩ => ?_
  subst he
  exact ⟨_, rfl, Law.post_true rfl (by kernel_rfl) Try.underlying4 laidOut (by kernel_rfl) hW' rfl rfl rfl hg⟩

theorem over : Rows.wireBackRow.holds Try.pinned (OpenSpec.ofChange Rows.wireBackSpec) :=
  OpenClaim.holds_of_wide 9 Try.f9 rfl rfl rfl rfl rfl rfl rfl ⟨rfl, rfl, rfl, rfl, rfl⟩ rfl rfl rfl rfl rfl (by kernel_rfl) Try.func9 (by kernel_rfl)
    (of_decide_eq_true (by kernel_rfl)) (by unfold Func.isWrapper; first | (rw [if_pos (by decide +kernel)]; kernel_rfl) | (rw [if_neg (by decide +kernel)]; exact ⟨rfl, rfl⟩))
    (fun os started H enc _ => lifted os started H enc)

/-- THE STATEMENT -/
theorem proved : Rows.WireBackSaid := over
end Go.Proofs.Ytlflkmigfggdjaa.wireBack
