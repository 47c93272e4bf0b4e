/- A slice of variables as a row of cells; append of variables. Conditions: none. -/
import Derived.Test.YtdnelpmolenkoaaDoorMShort
import Derived.Deep.DeepAppendWide
import Derived.Deep.AppendLies
namespace Go.Proofs.YtdnelpmolenkoaaDoor
open Go.RowKit Go.Ow

/-- the cells of n variables, from number i on -/
def vcs (f : Nat → Va) : Nat → Nat → List Value
  | _, 0 => []
  | i, n + 1 => .string (f i).nm :: .int .u8 (f i).k :: .int .i64 (f i).n :: .string (f i).t :: vcs f (i + 1) n
theorem vcs_length (f : Nat → Va) : ∀ n i, (vcs f i n).length = n * 4
  | 0, _ => by simp [vcs]
  | n + 1, i => by simp [vcs, vcs_length f n (i + 1)]; omega
theorem vcs_one (f : Nat → Va) : ∀ n i, ∀ u ∈ vcs f i n, u.oneCell' = true
  | 0, _ => by simp [vcs]
  | n + 1, i => by
    intro u hu
    simp only [vcs, List.mem_cons] at hu
    rcases hu with rfl | rfl | rfl | rfl | hu
    · rfl
    · rfl
    · rfl
    · rfl
    · exact vcs_one f n (i + 1) u hu
/-- the cells of one variable -/
def vc (v : Va) : List Value := [.string v.nm, .int .u8 v.k, .int .i64 v.n, .string v.t]
theorem vcs_at (f : Nat → Va) : ∀ n i j r, j < n → r < 4 → (vcs f i n)[j * 4 + r]? = (vc (f (i + j)))[r]?
  | 0, _, _, _, h, _ => by omega
  | n + 1, i, 0, r, _, hr => by
    have : r = 0 ∨ r = 1 ∨ r = 2 ∨ r = 3 := by omega
    rcases this with rfl | rfl | rfl | rfl <;> simp [vcs, vc]
  | n + 1, i, j + 1, r, h, hr => by
    have e : (j + 1) * 4 + r = (j * 4 + r) + 4 := by omega
    rw [e, vcs]
    simp only [List.getElem?_cons_succ]
    rw [vcs_at f n (i + 1) j r (by omega) hr, show i + 1 + j = i + (j + 1) by omega]
theorem vcs_append (f g : Nat → Va) (h : Nat → Va) : ∀ a i b j k, (∀ x, x < a → f (i + x) = h (k + x)) → (∀ x, x < b → g (j + x) = h (k + a + x)) → vcs f i a ++ vcs g j b = vcs h k (a + b)
  | 0, i, 0, j, k, _, _ => by simp [vcs]
  | 0, i, b + 1, j, k, h1, h2 => by
    have h0 := h2 0 (by omega)
    simp only [Nat.add_zero] at h0
    have ih := vcs_append f g h 0 i b (j + 1) (k + 1) (fun x hx => by omega) (fun x hx => by have := h2 (x + 1) (by omega); rw [show j + 1 + x = j + (x + 1) by omega, this]; congr 1; omega)
    rw [Nat.zero_add] at ih ⊢
    simp only [vcs, List.nil_append] at ih ⊢
    rw [ih, h0]
  | a + 1, i, b, j, k, h1, h2 => by
    have h0 := h1 0 (by omega)
    simp only [Nat.add_zero] at h0
    have ih := vcs_append f g h a (i + 1) b j (k + 1) (fun x hx => by have := h1 (x + 1) (by omega); rw [show i + 1 + x = i + (x + 1) by omega, this]; congr 1; omega) (fun x hx => by rw [h2 x hx]; congr 1; omega)
    rw [show a + 1 + b = (a + b) + 1 by omega]
    simp only [vcs, List.cons_append]
    rw [ih, h0]
theorem vcs_less (f : Nat → Va) (k n : Nat) : vcs f 0 k ++ vcs f (k + 1) n = vcs (lessF f k) 0 (k + n) :=
  vcs_append f f (lessF f k) k 0 n (k + 1) 0 (fun x hx => by unfold lessF; rw [if_pos (by omega)]) (fun x hx => by unfold lessF; rw [if_neg (by omega)]; congr 1; omega)
theorem vcs_more (f : Nat → Va) (m k : Nat) : vcs f 0 m ++ vcs f k 1 = vcs (moreF f m k) 0 (m + 1) :=
  vcs_append f f (moreF f m k) m 0 1 k 0 (fun x hx => by unfold moreF; rw [if_pos (by omega)]) (fun x hx => by unfold moreF; rw [if_neg (by omega)]; congr 1; omega)
/-- the elements from number i on, as what is to be appended -/
theorem vcs_news {w : World} {b off m : Nat} {f : Nat → Va} (h : Vr w (some ⟨b, off, none⟩) m f) (i n : Nat) (hn : i + n ≤ m) : ∀ j u, (vcs f i n)[j]? = some u → w.cell? ((Addr.mk b (off + i * 4) none).add j) = some u := by
  intro j u hj
  have hlt : j < n * 4 := by rw [← vcs_length f n i]; exact (List.getElem?_eq_some_iff.1 hj).1
  obtain ⟨b', off', e, hb, c0, c1, c2, c3⟩ := h (i + j / 4) (by omega)
  simp only [Option.some.injEq, Addr.mk.injEq, and_true] at e
  obtain ⟨rfl, rfl⟩ := e
  have hd : j = j / 4 * 4 + j % 4 := by omega
  rw [hd, vcs_at f n i (j / 4) (j % 4) (by omega) (by omega)] at hj
  rw [Addr.add_lit]
  have hr : j % 4 = 0 ∨ j % 4 = 1 ∨ j % 4 = 2 ∨ j % 4 = 3 := by omega
  rcases hr with hr | hr | hr | hr <;> rw [hr] at hj hd <;> simp only [vc, List.getElem?_cons_zero, List.getElem?_cons_succ, Option.some.injEq] at hj <;> subst hj
  · rw [show off + i * 4 + j = off + (i + j / 4) * 4 by omega]; exact c0
  · rw [show off + i * 4 + j = off + (i + j / 4) * 4 + 1 by omega]; exact c1
  · rw [show off + i * 4 + j = off + (i + j / 4) * 4 + 2 by omega]; exact c2
  · rw [show off + i * 4 + j = off + (i + j / 4) * 4 + 3 by omega]; exact c3
/-- what owns the cells of variables is a slice of them -/
theorem owns_vr {w : World} {B : Nat} {e : TypeId} {u : Value} {n : Nat} {f : Nat → Va} (h : w.ownsRow B e 4 u n (vcs f 0 n)) : ∃ o c, u = .slice o n c ∧ n ≤ c ∧ Vr w o n f := by
  rcases h.2 with ⟨rfl, rfl⟩ | ⟨g, cap, cur, rfl, hb, hg, hn, hm, hs, ht⟩
  · exact ⟨none, 0, rfl, Nat.le_refl _, fun k hk => by omega⟩
  · refine ⟨_, cap, rfl, hn, fun k hk => ⟨g, 0, rfl, (Array.getElem?_eq_some_iff.1 hg).1, ?_⟩⟩
    have hc : ∀ r, r < 4 → w.cell? ⟨g, 0 + k * 4 + r, none⟩ = (vc (f k))[r]? := fun r hr => by
      rw [cell_of_row w g _ cur e (0, 0) hg]
      have h1 := vcs_at f n 0 k r hk hr
      rw [← ht, List.getElem?_take, if_pos (by omega), Array.getElem?_toList] at h1
      rw [Nat.zero_add] at h1
      rw [← h1, Nat.zero_add]
    have h0 := hc 0 (by omega)
    rw [Nat.add_zero] at h0
    exact ⟨h0, hc 1 (by omega), hc 2 (by omega), hc 3 (by omega)⟩
/-- append of variables to a row of one's own -/
theorem app_vars (w : World) (B : Nat) (v : Value) (n : Nat) (xs : List Value) (hown : w.ownsRow B 43 4 v n xs) (a : Addr) (m c : Nat) (news : List Value) (hl : news.length = m * 4)
    (hnews : ∀ j u, news[j]? = some u → w.cell? (a.add j) = some u) (h1 : ∀ u ∈ news, u.oneCell' = true) (hb : n + m ≤ 1000000) (hbase : B ≤ w.heap.size) :
    ∃ v' w', (Builtin.append_ #[22, 22] 22 #[v, .slice (some a) m c]).run Tryd.prog w = .ok v' w' ∧ w'.ownsRow B 43 4 v' (n + m) (xs ++ news) ∧ w.grownBy w' v.ownBlock := by
  obtain ⟨v', w', h1', h2', h3', _⟩ := run_append_own_wide (P := Tryd.prog) w B 22 22 43 _ _ 4 48 Tryd.underlying22 (by rfl) (by rfl) (by rfl) (by rfl) (by rfl) (by decide) v n xs hown a m c news hl hnews h1 (by unfold maxLen; omega) (by omega) hbase
  exact ⟨v', w', h1', h2', h3'⟩
end Go.Proofs.YtdnelpmolenkoaaDoor
