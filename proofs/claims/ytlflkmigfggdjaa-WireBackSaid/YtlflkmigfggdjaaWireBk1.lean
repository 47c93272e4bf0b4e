/- callboardlaw02.WireBack returns true where its slices are short, whatever they hold. Conditions: the slices are not too long. -/
import Derived.Test.YtlflkmigfggdjaaWireBk0
namespace Go.Proofs.Ytlflkmigfggdjaa
open Go.RowKit Go.Ow Go.Wi

/-- the cells of a slice of whole numbers, of texts, of values -/
def Is (w : World) (o : Option Addr) (n : Nat) (f : Nat → Int) : Prop := ∀ k, k < n → ∃ b off, o = some ⟨b, off, none⟩ ∧ b < w.heap.size ∧ w.cell? ⟨b, off + k, none⟩ = some (.int .i64 (f k))
theorem Is.below {w wr : World} {o : Option Addr} {n : Nat} {f : Nat → Int} (h : Is w o n f) (hb : Below w.heap.size w wr) : Is wr o n f := fun k hk => by
  obtain ⟨b, off, h1, h2, h3⟩ := h k hk
  exact ⟨b, off, h1, Nat.lt_of_lt_of_le h2 hb.size, by rw [hb.cell (p := ⟨b, off + k, none⟩) h2]; exact h3⟩
def Ss (w : World) (o : Option Addr) (n : Nat) (f : Nat → ByteArray) : Prop := ∀ k, k < n → ∃ b off, o = some ⟨b, off, none⟩ ∧ b < w.heap.size ∧ w.cell? ⟨b, off + k, none⟩ = some (.string (f k))
theorem Ss.below {w wr : World} {o : Option Addr} {n : Nat} {f : Nat → ByteArray} (h : Ss w o n f) (hb : Below w.heap.size w wr) : Ss wr o n f := fun k hk => by
  obtain ⟨b, off, h1, h2, h3⟩ := h k hk
  exact ⟨b, off, h1, Nat.lt_of_lt_of_le h2 hb.size, by rw [hb.cell (p := ⟨b, off + k, none⟩) h2]; exact h3⟩
def Vs (w : World) (o : Option Addr) (n : Nat) (f : Nat → Nat) (g : Nat → Int) (h : Nat → ByteArray) : Prop := ∀ k, k < n → ∃ b off, o = some ⟨b, off, none⟩ ∧ b < w.heap.size ∧ w.cell? ⟨b, off + k * 3, none⟩ = some (.int .u8 (f k)) ∧ w.cell? ⟨b, off + k * 3 + 1, none⟩ = some (.int .i64 (g k)) ∧ w.cell? ⟨b, off + k * 3 + 2, none⟩ = some (.string (h k))
theorem Vs.below {w wr : World} {o : Option Addr} {n : Nat} {f : Nat → Nat} {g : Nat → Int} {i : Nat → ByteArray} (h : Vs w o n f g i) (hb : Below w.heap.size w wr) : Vs wr o n f g i := fun k hk => by
  obtain ⟨b, off, h1, h2, h3, h4, h5⟩ := h k hk
  exact ⟨b, off, h1, Nat.lt_of_lt_of_le h2 hb.size, by rw [hb.cell (p := ⟨b, _, none⟩) h2]; exact h3, by rw [hb.cell (p := ⟨b, _, none⟩) h2]; exact h4, by rw [hb.cell (p := ⟨b, _, none⟩) h2]; exact h5⟩
theorem S_le (s : ByteArray) (f : Nat → List UInt8) (m k : Nat) (h : ∀ j, (f j).length ≤ m) (hk : k ≤ 50) : (cat s (seg f 0 k)).size ≤ s.size + 50 * m := by
  rw [cat_size]
  have := seg_len f m h 0 k
  have := Nat.mul_le_mul_right m hk
  omega
theorem rl (f : Nat → List UInt8) (m : Nat) (R : List UInt8) (k n : Nat) (h : ∀ j, (f j).length ≤ m) (hn : n ≤ 50) (hR : R.length ≤ 200000) (hm : m ≤ 510) : (seg f k (n - k) ++ R).length ≤ 1000000 := by
  rw [List.length_append]
  have h1 := seg_len f m h k (n - k)
  have h2 : (n - k) * m ≤ 50 * 510 := Nat.mul_le_mul (by omega) hm
  omega
/-- block T: n bools, of which the first k are known -/
def Told (w : World) (T n : Nat) (f : Nat → Bool) (k : Nat) : Prop := ∃ cur : Array Value, w.heap[T]? = some (.cells cur 4 (0, 0)) ∧ cur.size = n ∧ ∀ j, j < k → cur[j]? = some (.bool (f j))
theorem Told.new (w : World) (n : Nat) (f : Nat → Bool) (a : Array Value) (h : a.size = n) : Told (w.alloc (.cells a 4)) w.heap.size n f 0 := ⟨a, heap_alloc_new w _, h, fun j hj => by omega⟩
theorem Told.lt {w : World} {T n : Nat} {f : Nat → Bool} {k : Nat} (h : Told w T n f k) : T < w.heap.size := by obtain ⟨cur, h1, _⟩ := h; exact (Array.getElem?_eq_some_iff.1 h1).1
theorem Told.fz {w : World} {T n : Nat} {f : Nat → Bool} {k : Nat} (h : Told w T n f k) (o : Nat) : w.frozen? ⟨T, o, none⟩ = false := by
  obtain ⟨cur, h1, _⟩ := h
  unfold World.frozen?
  rw [h1]
  simp
theorem Told.old {w : World} {T n : Nat} {f : Nat → Bool} {k : Nat} (h : Told w T n f k) (o : Nat) (ho : o < n) : ∃ u, w.cell? ⟨T, o, none⟩ = some u := by
  obtain ⟨cur, h1, h2, _⟩ := h
  exact ⟨cur[o]'(by omega), by rw [cell_of_row w T o cur 4 (0, 0) h1]; simp [h2, ho]⟩
theorem Told.cell {w : World} {T n : Nat} {f : Nat → Bool} {k : Nat} (h : Told w T n f k) (o : Nat) (ho : o < k) : w.cell? ⟨T, o, none⟩ = some (.bool (f o)) := by
  obtain ⟨cur, h1, h2, h3⟩ := h
  rw [cell_of_row w T o cur 4 (0, 0) h1]; exact h3 o ho
theorem Told.kept {w w' : World} {T n : Nat} {f : Nat → Bool} {k : Nat} (h : Told w T n f k) (hb : Below w.heap.size w w') : Told w' T n f k := by
  have hl := h.lt
  obtain ⟨cur, h1, h2, h3⟩ := h
  exact ⟨cur, by rw [hb.block T hl]; exact h1, h2, h3⟩
theorem Told.but {w w' : World} {T n B : Nat} {f : Nat → Bool} {k : Nat} (h : Told w T n f k) (hb : But B w w') (hT : T ≠ B) : Told w' T n f k := by
  have hl := h.lt
  obtain ⟨cur, h1, h2, h3⟩ := h
  exact ⟨cur, by rw [hb.block T hl hT]; exact h1, h2, h3⟩
theorem Told.set {w : World} {T n : Nat} {f : Nat → Bool} {k : Nat} (h : Told w T n f k) (hk : k < n) (b : Bool) (hb : b = f k) : Told (w.setCell ⟨T, k, none⟩ (.bool b)) T n f (k + 1) := by
  obtain ⟨cur, h1, h2, h3⟩ := h
  refine ⟨cur.setIfInBounds k (.bool b), ?_, by simp [h2], fun j hj => ?_⟩
  · simp [World.setCell, Array.getElem?_modify, h1]
  · rw [Array.getElem?_setIfInBounds]
    by_cases e : k = j
    · subst e; simp [h2, hk, hb]
    · simp [e]; exact h3 j (by omega)
theorem info4 : (Try.prog.info? 4).map (fun i => (i.zero, i.size, i.bytes)) = some (some (.bool false), 1, 1) := by kernel_rfl
theorem make_told (n : Nat) (hn : n ≤ 50) (w : World) : (Instr.makeSlice 60 (.int .i64 n) (.int .i64 n)).run Try.prog w = .ok (.slice (some ⟨w.heap.size, 0, none⟩) n n) (w.alloc (.cells (madeCells #[.bool false] n) 4)) := by
  obtain ⟨i0, hi, hz0, hz1, hz2⟩ := info_parts info4
  have := run_make (P := Try.prog) w 60 4 i0 (.bool false) Try.underlying60 hi hz0 .i64 .i64 n n (by omega) (by omega) (by rw [hz2]; omega) (by omega)
  rw [hz1, Nat.mul_one] at this
  exact this

set_option maxRecDepth 100000 in
set_option maxHeartbeats 8000000 in
theorem back_cells (o1 o2 o3 o4 : Option Addr) (ln lx lt lv c1 c2 c3 c4 : Nat) (bh : ByteArray) (ns xs : Nat → Int) (ts : Nat → ByteArray) (vk : Nat → Nat) (vn : Nat → Int) (vt : Nat → ByteArray) (w : World)
    (l1 : ln ≤ 50) (l2 : lx ≤ 50) (l3 : lt ≤ 50) (l4 : lv ≤ 50) (l5 : bh.size ≤ 1000)
    (h1 : Is w o1 ln ns) (h2 : Is w o2 lx xs) (h3 : Ss w o3 lt ts) (h4 : Vs w o4 lv vk vn vt)
    (bx : ∀ k, -9223372036854775808 ≤ xs k ∧ xs k ≤ 9223372036854775807) (bt : ∀ k, (ts k).size ≤ 9223372036854775807) (bv : ∀ k, vk k < 256 ∧ -9223372036854775808 ≤ vn k ∧ vn k ≤ 9223372036854775807 ∧ (vt k).size ≤ 9223372036854775807) :
    Calls Try.prog 9 #[.slice o1 ln c1, .slice o2 lx c2, .slice o3 lt c3, .slice o4 lv c4, .string bh] w fun e w' => e = .returned (.bool true) ∧ Below w.heap.size w w' := by
  have H1 := Lib.hid h1
  have H2 := Lib.hid h2
  have H3 := Lib.hid h3
  have H4 := Lib.hid h4
  have BX := Lib.hid bx
  have BT := Lib.hid bt
  have BV := Lib.hid bv
  have hmk := make_told lv l4
  clear h1 h2 h3 h4 bx bt bv
  obtain ⟨S1, hS1⟩ : ∃ s : Nat → ByteArray, ∀ k, s k = cat ⟨#[]⟩ (seg (fun j => pN (ns j)) 0 k) := ⟨_, fun _ => rfl⟩
  obtain ⟨S2, hS2⟩ : ∃ s : Nat → ByteArray, ∀ k, s k = cat (S1 ln) (seg (fun j => pX (xs j)) 0 k) := ⟨_, fun _ => rfl⟩
  obtain ⟨S3, hS3⟩ : ∃ s : Nat → ByteArray, ∀ k, s k = cat (S2 lx) (seg (fun j => pT (ts j)) 0 k) := ⟨_, fun _ => rfl⟩
  obtain ⟨S4, hS4⟩ : ∃ s : Nat → ByteArray, ∀ k, s k = cat (S3 lt) (seg (fun j => pV (vk j) (vn j) (vt j)) 0 k) := ⟨_, fun _ => rfl⟩
  have z1 : ∀ k, k ≤ 50 → (S1 k).size ≤ 500 := fun k hk => by have := S_le ⟨#[]⟩ _ 10 k (fun j => pN_len (ns j)) hk; have e : (ByteArray.mk #[]).size = 0 := rfl; rw [hS1]; omega
  have z2 : ∀ k, k ≤ 50 → (S2 k).size ≤ 1000 := fun k hk => by have := S_le (S1 ln) _ 10 k (fun j => pX_len (xs j)) hk; have := z1 ln l1; rw [hS2]; omega
  have z3 : ∀ k, k ≤ 50 → (S3 k).size ≤ 26500 := fun k hk => by have := S_le (S2 lx) _ 510 k (fun j => pT_len (ts j)) hk; have := z2 lx l2; rw [hS3]; omega
  have z4 : ∀ k, k ≤ 50 → (S4 k).size ≤ 31500 := fun k hk => by have := S_le (S3 lt) _ 100 k (fun j => pV_len (vk j) (vn j) (vt j)) hk; have := z3 lt l3; rw [hS4]; omega
  have Z1 := Lib.hid z1
  have Z2 := Lib.hid z2
  have Z3 := Lib.hid z3
  have Z4 := Lib.hid z4
  have E10 : Hid (S1 0 = ⟨#[]⟩) := Lib.hid (by rw [hS1]; rfl)
  have E20 : Hid (S2 0 = S1 ln) := Lib.hid (by rw [hS2]; exact cat_nil _)
  have E30 : Hid (S3 0 = S2 lx) := Lib.hid (by rw [hS3]; exact cat_nil _)
  have E40 : Hid (S4 0 = S3 lt) := Lib.hid (by rw [hS4]; exact cat_nil _)
  have E1 : Hid (∀ k, cat (S1 k) (pN (ns k)) = S1 (k + 1)) := Lib.hid fun k => by rw [hS1, hS1]; exact cat_seg _ (fun j => pN (ns j)) k
  have E2 : Hid (∀ k, cat (S2 k) (pX (xs k)) = S2 (k + 1)) := Lib.hid fun k => by rw [hS2, hS2]; exact cat_seg _ (fun j => pX (xs j)) k
  have E3 : Hid (∀ k, cat (S3 k) (pT (ts k)) = S3 (k + 1)) := Lib.hid fun k => by rw [hS3, hS3]; exact cat_seg _ (fun j => pT (ts j)) k
  have E4 : Hid (∀ k, cat (S4 k) (pV (vk k) (vn k) (vt k)) = S4 (k + 1)) := Lib.hid fun k => by rw [hS4, hS4]; exact cat_seg _ (fun j => pV (vk j) (vn j) (vt j)) k
  have E5 : Hid ((S4 lv).data.toList = seg (fun j => pN (ns j)) 0 ln ++ (seg (fun j => pX (xs j)) 0 lx ++ (seg (fun j => pT (ts j)) 0 lt ++ seg (fun j => pV (vk j) (vn j) (vt j)) 0 lv))) := Lib.hid (by
    rw [hS4, cat_list, hS3, cat_list, hS2, cat_list, hS1, cat_list]; simp)
  obtain ⟨R3, hR3⟩ : ∃ R3, seg (fun j => pV (vk j) (vn j) (vt j)) 0 lv ++ bh.data.toList = R3 := ⟨_, rfl⟩
  obtain ⟨R2, hR2⟩ : ∃ R2, seg (fun j => pT (ts j)) 0 lt ++ R3 = R2 := ⟨_, rfl⟩
  obtain ⟨R1, hR1⟩ : ∃ R1, seg (fun j => pX (xs j)) 0 lx ++ R2 = R1 := ⟨_, rfl⟩
  have rl3 : R3.length ≤ 6000 := by rw [← hR3, List.length_append]; have := seg_len _ 100 (fun j => pV_len (vk j) (vn j) (vt j)) 0 lv; have e : bh.data.toList.length = bh.size := (by simp); omega
  have rl2 : R2.length ≤ 31500 := by rw [← hR2, List.length_append]; have := seg_len _ 510 (fun j => pT_len (ts j)) 0 lt; omega
  have rl1 : R1.length ≤ 32000 := by rw [← hR1, List.length_append]; have := seg_len _ 10 (fun j => pX_len (xs j)) 0 lx; omega
  have ER : Hid (seg (fun j => pN (ns j)) 0 ln ++ R1 = (seg (fun j => pN (ns j)) 0 ln ++ (seg (fun j => pX (xs j)) 0 lx ++ (seg (fun j => pT (ts j)) 0 lt ++ seg (fun j => pV (vk j) (vn j) (vt j)) 0 lv))) ++ bh.data.toList) := Lib.hid (by rw [← hR1, ← hR2, ← hR3]; simp)
  have ER1 := Lib.hid hR1
  have ER2 := Lib.hid hR2
  have ER3 := Lib.hid hR3
  have RL1 := Lib.hid (show R1.length ≤ 200000 by omega)
  have RL2 := Lib.hid (show R2.length ≤ 200000 by omega)
  have RL3 := Lib.hid (show R3.length ≤ 200000 by omega)
  clear hR1 hR2 hR3 rl1 rl2 rl3
  clear hS1 hS2 hS3 hS4 z1 z2 z3 z4
  go_enter Try.func9, Try.ntmps9
  go_wp2_with (go_at_call 10; refine (awake_true _).mono ?_; rintro e w0 ⟨rfl, hb0⟩)
  go_loopw [11, 13] (fun s I wr => ∃ k : Nat, k ≤ ln ∧ I = .int .i64 k ∧ s = .string (S1 k) ∧ Below w.heap.size w wr) (fun _ I _ => ln - (intOf I).toNat)
  case atStart => exact ⟨0, by omega, rfl, by rw [E10.out], hb0⟩
  case round =>
    obtain ⟨k, hk, rfl, rfl, hB⟩ := hrel
    have HB := Lib.hid hB
    clear hB hb0
    by_cases hlt : k < ln
    · obtain ⟨b, off, rfl, hbl, hcell⟩ := (H1.out.below HB.out) k hlt
      by_cases hc : 0 ≤ ns k ∧ ns k ≤ 1099511627776
      · obtain ⟨m, hm⟩ := Int.eq_ofNat_of_zero_le hc.1
        rw [hm] at hcell hc
        have hm2 : m ≤ 1099511627776 := by omega
        have E : Hid (cat (S1 k) (enc m) = S1 (k + 1)) := Lib.hid (by rw [← E1.out, hm, pN_yes hm2])
        have hd : decide ((m : Int) ≤ 1099511627776) = true := by simp; omega
        clear hm hc
        go_wp2_with (go_at_call 11; refine (num_yes _ m _ (by have := Z1.out k (by omega); omega) hm2).mono ?_; rintro e w1 ⟨rfl, hb1⟩; have hcell1 : w1.cell? ⟨b, off + k, none⟩ = some (.int .i64 m) := (by rw [hb1.cell (p := ⟨b, off + k, none⟩) hbl]; exact hcell); have HB1 := Lib.hid (Below.step HB.out hb1); clear hb1)
        go_roundw
        case rel => exact ⟨k + 1, by omega, by go_num, by rw [E.out], HB1.out⟩
        case measure => simp [intOf]; omega
      · have E : Hid (S1 k = S1 (k + 1)) := Lib.hid (by rw [← E1.out, pN_no hc, cat_nil])
        obtain ⟨m, hm⟩ : ∃ m, ns k = m := ⟨_, rfl⟩
        rw [hm] at hcell hc
        clear hm
        rcases (show m < 0 ∨ 1099511627776 < m by omega) with hc' | hc'
        all_goals
          clear hc
          go_wp2_with (go_at_call 11; refine (num_no _ m _ (by omega)).mono ?_; rintro e w1 ⟨rfl, rfl⟩)
          go_roundw
          case rel => exact ⟨k + 1, by omega, by go_num, by rw [← E.out], HB.out⟩
          case measure => simp [intOf]; omega
    · obtain rfl : k = ln := by omega
      clear Z1 E1 E10 hlt
      go_wp2
      go_loopw [11, 14] (fun s I wr => ∃ k : Nat, k ≤ lx ∧ I = .int .i64 k ∧ s = .string (S2 k) ∧ Below w.heap.size w wr) (fun _ I _ => lx - (intOf I).toNat)
      case atStart => exact ⟨0, by omega, rfl, by rw [E20.out], HB.out⟩
      case round =>
        clear HB
        obtain ⟨k2, hk2, rfl, rfl, hB⟩ := hrel
        have HB := Lib.hid hB
        clear hB
        by_cases hlt : k2 < lx
        · obtain ⟨b, off, rfl, hbl, hcell⟩ := (H2.out.below HB.out) k2 hlt
          have hx := BX.out k2
          have E : Hid (cat (S2 k2) (enc (zig (xs k2))) = S2 (k2 + 1)) := Lib.hid (by rw [← E2.out, pX_yes hx.1 hx.2])
          obtain ⟨x, hxe⟩ : ∃ m, xs k2 = m := ⟨_, rfl⟩
          rw [hxe] at hcell hx E
          clear hxe
          obtain ⟨hx1, hx2⟩ := hx
          go_wp2_with (go_at_call 15; refine (int_any _ x _ (by have := Z2.out k2 (by omega); omega) hx1 hx2).mono ?_; rintro e w1 ⟨rfl, hb1⟩; have HB1 := Lib.hid (Below.step HB.out hb1); clear hb1)
          go_roundw
          case rel => exact ⟨k2 + 1, by omega, by go_num, by rw [E.out], HB1.out⟩
          case measure => simp [intOf]; omega
        · obtain rfl : k2 = lx := by omega
          clear Z2 E2 E20 hlt
          go_wp2
          go_loopw [11, 15] (fun s I wr => ∃ k : Nat, k ≤ lt ∧ I = .int .i64 k ∧ s = .string (S3 k) ∧ Below w.heap.size w wr ∧ ∀ j, j < k → (ts j).size ≤ 500) (fun _ I _ => lt - (intOf I).toNat)
          case atStart => exact ⟨0, by omega, rfl, by rw [E30.out], HB.out, fun j hj => by omega⟩
          case round =>
            clear HB
            obtain ⟨k3, hk3, rfl, rfl, hB, hT⟩ := hrel
            have HB := Lib.hid hB
            have HT := Lib.hid hT
            clear hB hT
            by_cases hlt : k3 < lt
            · obtain ⟨b, off, rfl, hbl, hcell⟩ := (H3.out.below HB.out) k3 hlt
              have hx := BT.out k3
              have E : (ts k3).size ≤ 500 → cat (S3 k3) (enc (ts k3).size ++ (ts k3).data.toList) = S3 (k3 + 1) := fun h => by rw [← E3.out, pT_yes h]
              have HT2 : (ts k3).size ≤ 500 → ∀ j, j < k3 + 1 → (ts j).size ≤ 500 := fun h j hj => by
                by_cases e : j = k3
                · rw [e]; exact h
                · exact HT.out j (by omega)
              have HT2 := Lib.hid HT2
              obtain ⟨x, hxe⟩ : ∃ m, ts k3 = m := ⟨_, rfl⟩
              rw [hxe] at hcell hx E HT2
              clear hxe
              by_cases h5 : x.size ≤ 500
              · have EE := Lib.hid (E h5)
                clear E
                go_wp2_with (go_at_call 17; refine (text_any _ x _ (by have := Z3.out k3 (by omega); omega) (by omega)).mono ?_; rintro e w1 ⟨rfl, hb1⟩; have HB1 := Lib.hid (Below.step HB.out hb1); clear hb1)
                go_roundw
                case rel => exact ⟨k3 + 1, by omega, by go_num, by rw [EE.out], HB1.out, HT2.out h5⟩
                case measure => simp [intOf]; omega
              · clear E
                go_wp2
                go_ret
                exact ⟨rfl, HB.out⟩
            · obtain rfl : k3 = lt := by omega
              clear Z3 E3 E30 hlt
              go_wp2
              obtain ⟨w3, rfl⟩ : ∃ w3 : World, w3 = wr := ⟨_, rfl⟩
              go_loopw [11, 17] (fun s I wr' => ∃ k : Nat, k ≤ lv ∧ I = .int .i64 k ∧ s = .string (S4 k) ∧ Below w.heap.size w wr' ∧ Told wr' w3.heap.size lv (fun j => may (vk j) (vn j) (vt j)) k) (fun _ I _ => lv - (intOf I).toNat)
              case atStart => exact ⟨0, by omega, rfl, by rw [E40.out], HB.out.alloc HB.out.size _, Told.new _ _ _ _ (size_madeCells _ _)⟩
              case round =>
                have hTw : w.heap.size ≤ w3.heap.size := HB.out.size
                clear HB hmk
                obtain ⟨k4, hk4, rfl, rfl, hB, hO⟩ := hrel
                have HB := Lib.hid hB
                have HO := Lib.hid hO
                clear hB hO
                by_cases hlt : k4 < lv
                · obtain ⟨b, off, rfl, hbl, hcl1, hcl2, hcl3⟩ := (H4.out.below HB.out) k4 hlt
                  have hx := BV.out k4
                  have E : Hid (cat (S4 k4) (pV (vk k4) (vn k4) (vt k4)) = S4 (k4 + 1)) := Lib.hid (E4.out k4)
                  have F : Hid (∀ (W : World) (q : Bool), Below w.heap.size w W → Told W w3.heap.size lv (fun j => may (vk j) (vn j) (vt j)) k4 → q = may (vk k4) (vn k4) (vt k4) → Told (W.setCell ⟨w3.heap.size, k4, none⟩ (.bool q)) w3.heap.size lv (fun j => may (vk j) (vn j) (vt j)) (k4 + 1)) := Lib.hid fun W q _ hW hq => hW.set hlt q hq
                  obtain ⟨c, hce⟩ : ∃ m, vk k4 = m := ⟨_, rfl⟩
                  obtain ⟨x, hxe⟩ : ∃ m, vn k4 = m := ⟨_, rfl⟩
                  obtain ⟨t, hte⟩ : ∃ m, vt k4 = m := ⟨_, rfl⟩
                  rw [hce] at hcl1 hx E F
                  rw [hxe] at hcl2 hx E F
                  rw [hte] at hcl3 hx E F
                  clear hce hxe hte
                  obtain ⟨hx0, hx1, hx2, hx3⟩ := hx
                  by_cases h5 : t.size ≤ 500
                  · cases hm : may c x t
                    · rw [hm] at F
                      have E := Lib.hid (show S4 k4 = S4 (k4 + 1) by rw [← E.out, pV_no hm, cat_nil])
                      have Hm := Lib.hid hm
                      clear hm
                      go_wp2_with (go_at_call 13; refine (value_no _ c x t _ hx0 hx1 hx2 (by omega) Hm.out).mono ?_; rintro e w1 ⟨rfl, hb1⟩; have HB1 := Lib.hid (Below.step HB.out hb1); have HO1 := Lib.hid (HO.out.kept hb1); obtain ⟨u, hu⟩ := HO1.out.old k4 hlt; have hfz := HO1.out.fz k4; clear hb1)
                      go_roundw
                      case rel => exact ⟨k4 + 1, by omega, by go_num, by rw [← E.out], HB1.out.setCell hTw _, F.out _ _ HB1.out HO1.out rfl⟩
                      case measure => simp [intOf]; omega
                    · rw [hm] at F
                      have E := Lib.hid (show cat (S4 k4) (encV c x t) = S4 (k4 + 1) by rw [← E.out, pV_yes hm hx1 hx2])
                      have Hm := Lib.hid hm
                      clear hm
                      go_wp2_with (go_at_call 13; refine (value_yes _ c x t _ (by have := Z4.out k4 (by omega); omega) hx1 hx2 Hm.out).mono ?_; rintro e w1 ⟨rfl, hb1⟩; have HB1 := Lib.hid (Below.step HB.out hb1); have HO1 := Lib.hid (HO.out.kept hb1); obtain ⟨u, hu⟩ := HO1.out.old k4 hlt; have hfz := HO1.out.fz k4; clear hb1)
                      go_roundw
                      case rel => exact ⟨k4 + 1, by omega, by go_num, by rw [E.out], HB1.out.setCell hTw _, F.out _ _ HB1.out HO1.out rfl⟩
                      case measure => simp [intOf]; omega
                  · go_wp2
                    go_ret
                    exact ⟨rfl, HB.out⟩
                · obtain rfl : k4 = lv := by omega
                  obtain ⟨w4, rfl⟩ : ∃ w4 : World, w4 = wr := ⟨_, rfl⟩
                  have hz4 : w3.heap.size < w4.heap.size := HO.out.lt
                  have z5 := Z4.out _ l4
                  clear Z4 E4 E40 hlt
                  go_wp2_with (go_at_call 21; refine (open_any _ _).mono ?_; rintro e w5 ⟨rfl, rfl⟩)
                  have HR := Lib.hid (rd_of w4 (S4 k4 ++ bh) (seg (fun j => pN (ns j)) 0 k ++ R1) (by rw [append_cat, ER.out, ← E5.out]; exact (mk_cat _ _).symm))
                  have HB5 := Lib.hid (HB.out.alloc (o := .cells #[.string (S4 k4 ++ bh), .int .i64 0] 67) (by omega))
                  go_loopw [19] (fun I wr' => ∃ j : Nat, j ≤ k ∧ I = .int .i64 j ∧ RdW wr' w4.heap.size ⟨seg (fun j => pN (ns j)) j (k - j) ++ R1, 0⟩ ∧ Below w.heap.size w wr' ∧ Told wr' w3.heap.size k4 (fun j => may (vk j) (vn j) (vt j)) k4) (fun I _ => k - (intOf I).toNat)
                  case atStart => exact ⟨0, by omega, rfl, HR.out, HB5.out, HO.out.kept ((Below.refl _ _).alloc (Nat.le_refl _) _)⟩
                  case round =>
                    clear HB HR HB5 HO
                    obtain ⟨k5, hk5, rfl, hR, hB, hO⟩ := hrel
                    have HR := Lib.hid hR
                    have HB := Lib.hid hB
                    have HO := Lib.hid hO
                    clear hB hO hR
                    by_cases hlt : k5 < k
                    · obtain ⟨b, off, rfl, hbl0, _⟩ := H1.out k5 hlt
                      obtain ⟨b', off', ho', hbl, hcell⟩ := (H1.out.below HB.out) k5 hlt
                      obtain ⟨rfl, rfl⟩ : b = b' ∧ off = off' := by simpa using ho'
                      clear ho'
                      by_cases hc : 0 ≤ ns k5 ∧ ns k5 ≤ 1099511627776
                      · obtain ⟨m, hm⟩ := Int.eq_ofNat_of_zero_le hc.1
                        have hm2 : m ≤ 1099511627776 := by omega
                        have X := Lib.hid (rd_num hm2 (fun j => pN (ns j)) k5 k hlt (by show pN (ns k5) = _; rw [hm, pN_yes hm2]) R1)
                        rw [hm] at hcell
                        have hd : decide ((m : Int) ≤ 1099511627776) = true := by simp; omega
                        clear hm hc
                        go_wp2_with (go_at_call 25; refine (numW_at w4.heap.size _ _ m 0 wr HR.out (rl _ 10 _ _ _ (fun j => pN_len _) (by omega) RL1.out (by omega)) X.out).mono ?_; rintro e w6 ⟨rfl, b6, a6⟩; have hcell6 : w6.cell? ⟨b, off + k5, none⟩ = some (.int .i64 m) := (by rw [b6.cell hbl (by omega)]; exact hcell); have HB6 := Lib.hid (HB.out.trans (b6.below (B := w.heap.size) (by omega) (by have := HR.out; have := Two.lt this; omega))); have HO6 := Lib.hid (HO.out.but b6 (by omega)); have HR6 := Lib.hid a6; clear a6 b6)
                        go_roundw
                        case rel => exact ⟨k5 + 1, by omega, by go_num, HR6.out, HB6.out, HO6.out⟩
                        case measure => simp [intOf]; omega
                      · have X := Lib.hid (rd_skip (fun j => pN (ns j)) k5 k hlt (pN_no hc) R1)
                        obtain ⟨m, hm⟩ : ∃ m, ns k5 = m := ⟨_, rfl⟩
                        rw [hm] at hcell hc
                        clear hm
                        rcases (show m < 0 ∨ 1099511627776 < m by omega) with hc' | hc'
                        all_goals
                          clear hc
                          go_wp2
                          go_roundw
                          case rel => exact ⟨k5 + 1, by omega, by go_num, by rw [← X.out]; exact HR.out, HB.out, HO.out⟩
                          case measure => simp [intOf]; omega
                    · obtain rfl : k5 = k := by omega
                      clear hlt
                      have HR2 := Lib.hid (show RdW wr w4.heap.size ⟨seg (fun j => pX (xs j)) 0 (k2 - 0) ++ R2, 0⟩ by have := HR.out; rw [seg_end, List.nil_append, ← ER1.out] at this; exact this)
                      clear HR H1 RL1 ER1 ER
                      go_wp2
                      go_loopw [22] (fun I wr' => ∃ j : Nat, j ≤ k2 ∧ I = .int .i64 j ∧ RdW wr' w4.heap.size ⟨seg (fun j => pX (xs j)) j (k2 - j) ++ R2, 0⟩ ∧ Below w.heap.size w wr' ∧ Told wr' w3.heap.size k4 (fun j => may (vk j) (vn j) (vt j)) k4) (fun I _ => k2 - (intOf I).toNat)
                      case atStart => exact ⟨0, by omega, rfl, HR2.out, HB.out, HO.out⟩
                      case round =>
                        clear HB HR2 HO
                        obtain ⟨k6, hk6, rfl, hR, hB, hO⟩ := hrel
                        have HR := Lib.hid hR
                        have HB := Lib.hid hB
                        have HO := Lib.hid hO
                        clear hB hO hR
                        by_cases hlt : k6 < k2
                        · obtain ⟨b, off, rfl, hbl0, _⟩ := H2.out k6 hlt
                          obtain ⟨b', off', ho', hbl, hcell⟩ := (H2.out.below HB.out) k6 hlt
                          obtain ⟨rfl, rfl⟩ : b = b' ∧ off = off' := by simpa using ho'
                          clear ho'
                          have hx := BX.out k6
                          have X := Lib.hid (rd_int hx.1 hx.2 (fun j => pX (xs j)) k6 k2 hlt (pX_yes hx.1 hx.2) R2)
                          obtain ⟨x, hxe⟩ : ∃ m, xs k6 = m := ⟨_, rfl⟩
                          rw [hxe] at hcell hx X
                          clear hxe
                          obtain ⟨hx1, hx2⟩ := hx
                          go_wp2_with (go_at_call 22; refine (intW_at w4.heap.size _ _ x 0 wr HR.out (rl _ 10 _ _ _ (fun j => pX_len _) (by omega) RL2.out (by omega)) X.out).mono ?_; rintro e w6 ⟨rfl, b6, a6⟩; have hcell6 : w6.cell? ⟨b, off + k6, none⟩ = some (.int .i64 x) := (by rw [b6.cell hbl (by omega)]; exact hcell); have HB6 := Lib.hid (HB.out.trans (b6.below (B := w.heap.size) (by omega) (by have := HR.out; have := Two.lt this; omega))); have HO6 := Lib.hid (HO.out.but b6 (by omega)); have HR6 := Lib.hid a6; clear a6 b6)
                          go_roundw
                          case rel => exact ⟨k6 + 1, by omega, by go_num, HR6.out, HB6.out, HO6.out⟩
                          case measure => simp [intOf]; omega
                        · obtain rfl : k6 = k2 := by omega
                          have HR2 := Lib.hid (show RdW wr w4.heap.size ⟨seg (fun j => pT (ts j)) 0 (k3 - 0) ++ R3, 0⟩ by have := HR.out; rw [seg_end, List.nil_append, ← ER2.out] at this; exact this)
                          clear HR H2 RL2 ER2 hlt
                          go_wp2
                          go_loopw [25] (fun I wr' => ∃ j : Nat, j ≤ k3 ∧ I = .int .i64 j ∧ RdW wr' w4.heap.size ⟨seg (fun j => pT (ts j)) j (k3 - j) ++ R3, 0⟩ ∧ Below w.heap.size w wr' ∧ Told wr' w3.heap.size k4 (fun j => may (vk j) (vn j) (vt j)) k4) (fun I _ => k3 - (intOf I).toNat)
                          case atStart => exact ⟨0, by omega, rfl, HR2.out, HB.out, HO.out⟩
                          case round =>
                            clear HB HR2 HO
                            obtain ⟨k7, hk7, rfl, hR, hB, hO⟩ := hrel
                            have HR := Lib.hid hR
                            have HB := Lib.hid hB
                            have HO := Lib.hid hO
                            clear hB hO hR
                            by_cases hlt : k7 < k3
                            · obtain ⟨b, off, rfl, hbl0, _⟩ := H3.out k7 hlt
                              obtain ⟨b', off', ho', hbl, hcell⟩ := (H3.out.below HB.out) k7 hlt
                              obtain ⟨rfl, rfl⟩ : b = b' ∧ off = off' := by simpa using ho'
                              clear ho'
                              have hx := HT.out k7 hlt
                              have X := Lib.hid (rd_text hx (fun j => pT (ts j)) k7 k3 hlt (pT_yes hx) R3)
                              obtain ⟨x, hxe⟩ : ∃ m, ts k7 = m := ⟨_, rfl⟩
                              rw [hxe] at hcell hx X
                              clear hxe
                              have hst : str x.data.toList = .string x := by simp
                              have TX := textW_at w4.heap.size 500 _ _ _ 0 wr HR.out (rl _ 510 _ _ _ (fun j => pT_len _) (by omega) RL3.out (by omega)) X.out
                              rw [hst] at TX
                              have TX := Lib.hid TX
                              clear hst
                              go_wp2_with (go_at_call 23; refine TX.out.mono ?_; rintro e w6 ⟨rfl, b6, a6⟩; have hcell6 : w6.cell? ⟨b, off + k7, none⟩ = some (.string x) := (by rw [b6.cell hbl (by omega)]; exact hcell); have HB6 := Lib.hid (HB.out.trans (b6.below (B := w.heap.size) (by omega) (by have := HR.out; have := Two.lt this; omega))); have HO6 := Lib.hid (HO.out.but b6 (by omega)); have HR6 := Lib.hid a6; clear a6 b6)
                              go_roundw
                              case rel => exact ⟨k7 + 1, by omega, by go_num, HR6.out, HB6.out, HO6.out⟩
                              case measure => simp [intOf]; omega
                            · obtain rfl : k7 = k3 := by omega
                              have HR2 := Lib.hid (show RdW wr w4.heap.size ⟨seg (fun j => pV (vk j) (vn j) (vt j)) 0 (k4 - 0) ++ bh.data.toList, 0⟩ by have := HR.out; rw [seg_end, List.nil_append, ← ER3.out] at this; exact this)
                              clear HR H3 RL3 ER3 hlt HT
                              go_wp2
                              go_loopw [28] (fun I wr' => ∃ j : Nat, j ≤ k4 ∧ I = .int .i64 j ∧ RdW wr' w4.heap.size ⟨seg (fun j => pV (vk j) (vn j) (vt j)) j (k4 - j) ++ bh.data.toList, 0⟩ ∧ Below w.heap.size w wr' ∧ Told wr' w3.heap.size k4 (fun j => may (vk j) (vn j) (vt j)) k4) (fun I _ => k4 - (intOf I).toNat)
                              case atStart => exact ⟨0, by omega, rfl, HR2.out, HB.out, HO.out⟩
                              case round =>
                                clear HB HR2 HO
                                obtain ⟨k8, hk8, rfl, hR, hB, hO⟩ := hrel
                                have HR := Lib.hid hR
                                have HB := Lib.hid hB
                                have HO := Lib.hid hO
                                clear hB hO hR
                                by_cases hlt : k8 < k4
                                · obtain ⟨b, off, rfl, hbl0, _⟩ := H4.out k8 hlt
                                  obtain ⟨b', off', ho', hbl, hcl1, hcl2, hcl3⟩ := (H4.out.below HB.out) k8 hlt
                                  obtain ⟨rfl, rfl⟩ : b = b' ∧ off = off' := by simpa using ho'
                                  clear ho'
                                  have hx := BV.out k8
                                  have htold := HO.out.cell k8 hlt
                                  have X0 : may (vk k8) (vn k8) (vt k8) = false → _ := fun h => rd_skip (fun j => pV (vk j) (vn j) (vt j)) k8 k4 hlt (pV_no h) bh.data.toList
                                  have X1 : may (vk k8) (vn k8) (vt k8) = true → _ := fun h => rd_val hx.2.1 hx.2.2.1 h (fun j => pV (vk j) (vn j) (vt j)) k8 k4 hlt (pV_yes h hx.2.1 hx.2.2.1) bh.data.toList
                                  have X0 := Lib.hid X0
                                  have X1 := Lib.hid X1
                                  have htold' : wr.cell? ⟨w3.heap.size, k8, none⟩ = some (.bool (may (vk k8) (vn k8) (vt k8))) := htold
                                  clear htold
                                  obtain ⟨c, hce⟩ : ∃ m, vk k8 = m := ⟨_, rfl⟩
                                  obtain ⟨x, hxe⟩ : ∃ m, vn k8 = m := ⟨_, rfl⟩
                                  obtain ⟨t, hte⟩ : ∃ m, vt k8 = m := ⟨_, rfl⟩
                                  rw [hce] at hcl1 hx X0 X1 htold'
                                  rw [hxe] at hcl2 hx X0 X1 htold'
                                  rw [hte] at hcl3 hx X0 X1 htold'
                                  clear hce hxe hte
                                  obtain ⟨hx0, hx1, hx2, hx3⟩ := hx
                                  cases hm : may c x t
                                  · rw [hm] at htold'
                                    have X := Lib.hid (X0.out hm)
                                    clear X0 X1 hm
                                    go_wp2
                                    go_roundw
                                    case rel => exact ⟨k8 + 1, by omega, by go_num, by rw [← X.out]; exact HR.out, HB.out, HO.out⟩
                                    case measure => simp [intOf]; omega
                                  · rw [hm] at htold'
                                    have X := X1.out hm
                                    clear X0 X1 hm
                                    have hst : valOf ⟨c, x, t.data.toList⟩ = .agg #[.int .u8 c, .int .i64 x, .string t] := by simp [valOf]
                                    have TX := valueW_at w4.heap.size _ _ _ 0 wr HR.out (rl _ 100 _ _ _ (fun j => pV_len _ _ _) (by omega) (by have : bh.data.toList.length = bh.size := (by simp); omega) (by omega)) X
                                    rw [hst] at TX
                                    have TX := Lib.hid TX
                                    clear hst X
                                    go_wp2_with (go_at_call 24; refine TX.out.mono ?_; rintro e w6 ⟨rfl, b6, a6⟩; have hbl6 : b < w6.heap.size := Nat.lt_of_lt_of_le hbl b6.size; have hcl1' : w6.cell? ⟨b, off + k8 * 3, none⟩ = some (.int .u8 c) := (by rw [b6.cell hbl (by omega)]; exact hcl1); have hcl2' : w6.cell? ⟨b, off + k8 * 3 + 1, none⟩ = some (.int .i64 x) := (by rw [b6.cell hbl (by omega)]; exact hcl2); have hcl3' : w6.cell? ⟨b, off + k8 * 3 + 2, none⟩ = some (.string t) := (by rw [b6.cell hbl (by omega)]; exact hcl3); have HB6 := Lib.hid (HB.out.trans (b6.below (B := w.heap.size) (by omega) (by have := HR.out; have := Two.lt this; omega))); have HO6 := Lib.hid (HO.out.but b6 (by omega)); have HR6 := Lib.hid a6; clear a6 b6)
                                    go_quiet (fail)
                                    go_wp2
                                    go_roundw
                                    case rel => exact ⟨k8 + 1, by omega, by go_num, Two.drewN (Two.al HR6.out _) _, (HB6.out.alloc HB6.out.size _).trans (Below.drewN _ _), HO6.out.kept (((Below.refl _ _).alloc (Nat.le_refl _) _).trans (Below.drewN _ _))⟩
                                    case measure => simp [intOf]; omega
                                · obtain rfl : k8 = k4 := by omega
                                  have HR2 := Lib.hid (show RdW wr w4.heap.size ⟨bh.data.toList, 0⟩ by have := HR.out; rw [seg_end, List.nil_append] at this; exact this)
                                  clear HR H4 hlt HO BV BX BT
                                  have hbl : bh.data.toList.length = bh.size := by simp
                                  have lz := Two.lt HR2.out
                                  by_cases hz : bh.size = 0
                                  · have hz0 := bytes_nil hz
                                    subst hz0
                                    clear hz hbl
                                    have EW := endW_any _ _ _ HR2.out
                                    have hfin : (Rs.fin ⟨(ByteArray.mk #[]).data.toList, 0⟩).1 = 0 := rfl
                                    rw [hfin] at EW
                                    have EW := Lib.hid EW
                                    clear hfin
                                    go_wp2_with (first | (go_at_call 27; refine (leftW_any _ _ _ HR2.out).mono ?_; rintro e w6 ⟨rfl, rfl⟩) | (go_at_call 32; refine EW.out.mono ?_; rintro e w6 ⟨rfl, b6, _⟩))
                                    go_ret
                                    exact ⟨rfl, HB.out.trans (b6.below (by omega) (by omega))⟩
                                  · have EW := endW_any _ _ _ HR2.out
                                    have hne : bh.data.toList ≠ [] := fun h => hz (by rw [← hbl, h]; rfl)
                                    have hfin : (Rs.fin ⟨bh.data.toList, 0⟩).1 = 4 := by simp [Rs.fin] at hne ⊢; simp [hne]
                                    rw [hfin] at EW
                                    have EW := Lib.hid EW
                                    have LW := leftW_any _ _ _ HR2.out
                                    rw [show (Rs.mk bh.data.toList 0).l.length = bh.size from hbl] at LW
                                    have LW := Lib.hid LW
                                    have n1 : ¬ bh.toList = [] := bytes_ne hz
                                    have n2 := bytes_emp hz
                                    clear hfin hne hbl
                                    go_wp2_with (first | (go_at_call 27; refine LW.out.mono ?_; rintro e w6 ⟨rfl, rfl⟩) | (go_at_call 32; refine EW.out.mono ?_; rintro e w6 ⟨rfl, b6, _⟩))
                                    go_ret
                                    exact ⟨rfl, HB.out.trans (b6.below (by omega) (by omega))⟩
end Go.Proofs.Ytlflkmigfggdjaa
