/- The evaluator is sound: what it tells of a call is what the model's call comes to, whatever is drawn. Conditions: none. -/
import Derived.Test.YtdnelpmolenkoaaDoorEv17
namespace Go.Ev
open Go.RowKit

section
variable {P : Program} {rec : Rec} {os : Array Oper} {base : Nat} {rs : List R1} {h0 : H} {fr0 fr' : Fr} (T : Told P rec os base rs h0 fr0 fr')
variable {γ0 γ : G} {K : Nat} {F F' : Nat → Option Obj} {w0 : World} {a : Act} {w : World}

/-- what is listed -/
def Ls (listed : Array Bool) (i : Nat) : Prop := listed.getD i false = true
theorem Ls_set {listed : Array Bool} {i j : Nat} (hi : i < listed.size) : Ls (listed.setIfInBounds i true) j ↔ Ls listed j ∨ j = i := by
  unfold Ls
  by_cases hij : j = i
  · subst hij; simp [hi]
  · simp only [Array.getD_eq_getD_getElem?, Array.getElem?_setIfInBounds_ne (Ne.symm hij), hij, or_false]

include T
/-- one operation, whichever is ready -/
theorem Told.step (hrec : RecOK P rec) {Q : Exit → Act → World → Prop} {Kn : Act → World → Prop} {S : Nat → Prop} (I : Inv P os base rs h0 fr0 γ0 γ S K F F' w0 a w) (hdc : DC os S) (hSn : ∀ j, S j → j < os.size) {i : Nat} {o : Oper} (hoi : os[i]? = some o) (hnot : ¬ S i) (hready : ∀ e ∈ o.after, Region.binds .any e = true → S e.on)
    (hK : ∀ γ' K' F'' a' w', Inv P os base rs h0 fr0 γ0 γ' (fun j => S j ∨ j = i) K' F F'' w0 a' w' → Kn a' w') : wpOp P os Q i Kn a w := by
  have hi : i < os.size := (Array.getElem?_eq_some_iff.1 hoi).1
  obtain ⟨r, hr⟩ := T.rec_at hi
  obtain ⟨ho, hs, hp⟩ := T.at_ i r hr
  rw [hoi] at ho
  injection ho with ho
  subst ho
  obtain ⟨hopd, hgd⟩ := T.operands hdc hr hready hnot hSn I
  have hkind := T.kind hr
  have hnM : (∀ hb h1, r.k ≠ .mem hb h1) → (∀ hb, r.k ≠ .skip (some hb)) → isMi P os i = false := fun x y => by
    cases hM : isMi P os i with
    | false => rfl
    | true =>
      rcases hkind.1 hM with ⟨hb, h1, e⟩ | ⟨hb, e⟩
      · exact absurd e (x _ _)
      · exact absurd e (y _)
  have hst : stAt (masks os) rs 0 (h0, []) (i + 1) = nxt (masks os) r i (stAt (masks os) rs 0 (h0, []) i) := by
    have := stAt_succ (ms := masks os) rs 0 (h0, []) i r hr
    rwa [Nat.zero_add] at this
  unfold wpOp
  simp only [hoi]
  unfold StepOK at hs
  split at hs
  · rename_i hk
    obtain ⟨hg, hv, _⟩ := hs
    rw [hgd _ hg]
    simp only [Bool.false_eq_true, if_false]
    exact hK _ _ _ _ _ (I.plain T hdc hSn hr hnot (hnM (fun _ _ e => by rw [hk] at e; cases e) (fun _ e => by rw [hk] at e; cases e)) (fun cs e => by rw [hk] at e; cases e) (by rw [hv]; exact .lit _))
  · rename_i hb hk
    obtain ⟨hg, hv, _, hlay⟩ := hs
    rw [hgd _ hg]
    simp only [Bool.false_eq_true, if_false]
    have hM : isMi P os i = true := hkind.2 (.inr ⟨hb, hk⟩)
    obtain ⟨F'', hHR, hnx, hSi, hwait, hrest⟩ := I.lay T hdc hr hready hnot hSn hM
    have hst1 : (stAt (masks os) rs 0 (h0, []) (i + 1)).1 = hb := by rw [hst]; simp only [nxt, hk]
    rw [← hlay] at hHR hnx
    refine hK _ _ _ _ _ (I.turned T hdc hr hnot hSn hM hSi hwait hrest (γ' := γ) (w' := w) ?_ (by rw [hst1]; exact hHR) (by rw [hst1, hnx]; exact I.nx) (by rw [hv]; exact .lit _))
    rw [hst1, hnx]
    exact Ext.refl γ _
  · rename_i hk
    obtain ⟨hg, _, hpure⟩ := hs
    rw [hgd _ hg]
    simp only [if_true]
    refine .inl ((pureOp_sound hpure hopd).wp (fun c hR => ?_))
    exact hK _ _ _ _ _ (I.plain T hdc hSn hr hnot (hnM (fun _ _ e => by rw [hk] at e; cases e) (fun _ e => by rw [hk] at e; cases e)) (fun cs e => by rw [hk] at e; cases e) hR)
  · rename_i hk
    obtain ⟨hg, _⟩ := hs
    rw [hgd _ hg]
    simp only [if_true]
    have hread := T.read_at hdc hr hk hready hnot I.Kn I.mem
    refine .inl ((readOp_sound I.hr hread hopd).wp (fun c hR => ?_))
    exact hK _ _ _ _ _ (I.plain T hdc hSn hr hnot (hnM (fun _ _ e => by rw [hk] at e; cases e) (fun _ e => by rw [hk] at e; cases e)) (fun cs e => by rw [hk] at e; cases e) hR)
  · rename_i cs hk
    obtain ⟨hg, _, f, hal, hv⟩ := hs
    rw [hgd _ hg]
    simp only [if_true]
    refine .inl ((allocOp_sound hal hopd).wp (fun c ccs e hcs hval => ?_))
    refine hK _ _ _ _ _ (I.alloc T hdc hSn hr hnot (hnM (fun _ _ e => by rw [hk] at e; cases e) (fun _ e => by rw [hk] at e; cases e)) hk hcs ?_)
    rw [hv]
    exact hval _ _ (by simp [G.add])
  · rename_i hb h1 hk
    obtain ⟨hg, _, hlay, hmem, hn1⟩ := hs
    rw [hgd _ hg]
    simp only [if_true]
    have hM : isMi P os i = true := hkind.2 (.inl ⟨hb, h1, hk⟩)
    obtain ⟨F'', hHR, hnx, hSi, hwait, hrest⟩ := I.lay T hdc hr hready hnot hSn hM
    have hst1 : (stAt (masks os) rs 0 (h0, []) (i + 1)).1 = h1 := by rw [hst]; simp only [nxt, hk]
    rw [← hlay] at hHR hnx
    refine .inl (memOp_wp hrec hmem hopd I.glob hHR (fun c γ' w' hext hR hH => ?_))
    refine hK _ _ _ _ _ (I.turned T hdc hr hnot hSn hM hSi hwait hrest ?_ (by rw [hst1]; exact hH) (by rw [hst1]; exact hn1) hR)
    rw [hst1, ← hnx]
    exact hext

/-- all have come up -/
theorem Told.done {S : Nat → Prop} (I : Inv P os base rs h0 fr0 γ0 γ S K F F' w0 a w) (hall : ∀ i, i < os.size → S i) (hSn : ∀ j, S j → j < os.size) :
    Ext γ0 γ base (addAll base (stAt (masks os) rs 0 (h0, []) os.size).1 (stAt (masks os) rs 0 (h0, []) os.size).2).next ∧ FR P γ (frAt rs fr' os.size) a ∧ HR γ (addAll base (stAt (masks os) rs 0 (h0, []) os.size).1 (stAt (masks os) rs 0 (h0, []) os.size).2) F w0 w := by
  have hMn : ∀ m, isMi P os m = true → m < os.size := fun m hm => by
    unfold isMi at hm
    split at hm
    · rename_i o ho; exact (Array.getElem?_eq_some_iff.1 ho).1
    · cases hm
  have hKn : ∀ m, isMi P os m = true → (m < K ↔ m < os.size) := fun m hm => ⟨fun _ => hMn m hm, fun h => (I.mem m hm).1 (hall m h)⟩
  have hst : (stAt (masks os) rs 0 (h0, []) os.size).1 = (stAt (masks os) rs 0 (h0, []) K).1 := T.st_eq I.Kn (Nat.le_refl _) hKn
  obtain ⟨hpend, hpw⟩ := T.pend_at os.size (Nat.le_refl _)
  have hq : ∀ x ∈ (stAt (masks os) rs 0 (h0, []) os.size).2, Pnd P os rs S K x.1 x.2 := fun x hx => by
    obtain ⟨h1, h2, h3⟩ := (hpend x.1 x.2).1 hx
    exact ⟨hall _ h1, h2, fun m hm hMm => h3 m (hMn m hMm) hMm⟩
  have hpair : (stAt (masks os) rs 0 (h0, []) os.size).2.Pairwise (fun x y => ∀ B, γ.blk (base + x.1) = some (B, 0) → γ.blk (base + y.1) = some (B, 0) → False) := by
    refine List.Pairwise.imp_of_mem (fun {x y} hx hy hlt B h1 h2 => ?_) hpw
    have := I.apart x.1 y.1 x.2 y.2 B (hq x hx) (hq y hy) h1 h2
    omega
  have hHR := I.hr.addAll (base := base) _ (fun x hx => (I.wait x.1 x.2 (hq x hx)).1) hpair
  refine ⟨by rw [addAll_next, hst]; exact I.le, ?_, ?_⟩
  · obtain ⟨hn, hg, hget⟩ := T.frame_at os.size (Nat.le_refl _)
    refine { defers := I.defers, size := by rw [I.size, hn], here := fun t v ht => ?_, g := by rw [hg]; exact I.g, glob := I.glob }
    rcases hget t v ht with ⟨j, r1, hj, hrj, hd, rfl, hlast⟩ | ⟨hno, h0⟩
    · exact I.wrote j r1 t (hall j hj) hrj hd (fun k r' hk hjk hrk => hlast k r' hjk (hSn k hk) hrk)
    · exact I.kept t v (fun k r' hk hrk => hno k r' (hSn k hk) hrk) h0
  · rw [hst]
    have e : (fun B => if ∃ x ∈ (stAt (masks os) rs 0 (h0, []) os.size).2, γ.blk (base + x.1) = some (B, 0) then none else F' B) = F := by
      funext B
      by_cases hin : ∃ x ∈ (stAt (masks os) rs 0 (h0, []) os.size).2, γ.blk (base + x.1) = some (B, 0)
      · rw [if_pos hin]
        obtain ⟨x, hx, hxB⟩ := hin
        exact ((I.wait x.1 x.2 (hq x hx)).2 B hxB).symm
      · rw [if_neg hin]
        refine I.rest B (fun j cs hj hjB => hin ⟨(j, cs), (hpend j cs).2 ⟨hSn j hj.1, hj.2.1, fun m hm hMm => ?_⟩, hjB⟩)
        exact hj.2.2 m ((hKn m hMm).2 hm) hMm
    rw [e] at hHR
    exact hHR

/-- where something has not come up, something is ready -/
theorem Told.ready {listed : Array Bool} (hsz : listed.size = os.size) (h : Region.ready .any os listed = []) : ∀ i, i < os.size → Ls listed i := by
  intro i
  induction i using Nat.strongRecOn with
  | _ i ih =>
    intro hi
    cases hl : listed.getD i false with
    | true => exact hl
    | false =>
      exfalso
      have hm : i ∈ Region.ready .any os listed := by
        rw [mem_ready]
        refine ⟨?_, os[i], Array.getElem?_eq_getElem hi, fun e he hb => ih e.on (T.edges i _ (Array.getElem?_eq_getElem hi) e he hb) (by have := T.edges i _ (Array.getElem?_eq_getElem hi) e he hb; omega)⟩
        have hlt : i < listed.size := by omega
        simp [hlt] at hl ⊢
        exact hl
      rw [h] at hm
      simp at hm

theorem Told.any (hrec : RecOK P rec) {Q : Exit → Act → World → Prop} (hQ : ∀ γ' a' w', Ext γ0 γ' base (addAll base (stAt (masks os) rs 0 (h0, []) os.size).1 (stAt (masks os) rs 0 (h0, []) os.size).2).next → FR P γ' (frAt rs fr' os.size) a' → HR γ' (addAll base (stAt (masks os) rs 0 (h0, []) os.size).1 (stAt (masks os) rs 0 (h0, []) os.size).2) F w0 w' → Q .normal a' w') :
    ∀ (fuel : Nat) (listed : Array Bool) (γ : G) (K : Nat) (F' : Nat → Option Obj) (a : Act) (w : World), listed.size = os.size → ((List.range os.size).filter (fun i => !listed.getD i false)).length ≤ fuel → DC os (Ls listed) → Inv P os base rs h0 fr0 γ0 γ (Ls listed) K F F' w0 a w → wpAny P .any os Q fuel listed a w := by
  intro fuel
  induction fuel with
  | zero =>
    intro listed γ K F' a w hsz hf hdc I
    have hall : ∀ i, i < os.size → Ls listed i := fun i hi => by
      cases hl : listed.getD i false with
      | true => exact hl
      | false =>
        have : i ∈ (List.range os.size).filter (fun i => !listed.getD i false) := by rw [List.mem_filter]; exact ⟨by simpa using hi, by rw [hl]; rfl⟩
        have h0 : (List.range os.size).filter (fun i => !listed.getD i false) = [] := List.eq_nil_of_length_eq_zero (by omega)
        rw [h0] at this
        simp at this
    have hSn : ∀ j, Ls listed j → j < os.size := fun j hj => by
      rcases Nat.lt_or_ge j listed.size with h | h
      · omega
      · unfold Ls at hj; simp [Array.getElem?_eq_none h] at hj
    obtain ⟨h1, h2, h3⟩ := T.done I hall hSn
    refine ⟨?_, hQ γ a w h1 h2 h3⟩
    cases hr : Region.ready .any os listed with
    | nil => rfl
    | cons x xs =>
      exfalso
      have hx : x ∈ Region.ready .any os listed := by rw [hr]; simp
      rw [mem_ready] at hx
      obtain ⟨h4, o, ho, _⟩ := hx
      have hlt : x < os.size := (Array.getElem?_eq_some_iff.1 ho).1
      have := hall x hlt
      unfold Ls at this
      have hlt' : x < listed.size := by omega
      simp [hlt'] at h4 this
      rw [h4] at this
      cases this
  | succ fuel ih =>
    intro listed γ K F' a w hsz hf hdc I
    have hSn : ∀ j, Ls listed j → j < os.size := fun j hj => by
      rcases Nat.lt_or_ge j listed.size with h | h
      · omega
      · unfold Ls at hj; simp [Array.getElem?_eq_none h] at hj
    refine ⟨fun hr => ?_, fun i hi => ?_⟩
    · obtain ⟨h1, h2, h3⟩ := T.done I (T.ready hsz hr) hSn
      exact hQ γ a w h1 h2 h3
    · rw [mem_ready] at hi
      obtain ⟨h4, o, ho, hedges⟩ := hi
      have hlt : i < os.size := (Array.getElem?_eq_some_iff.1 ho).1
      have hlt' : i < listed.size := by omega
      have hli : listed.getD i false = false := by
        simp [hlt'] at h4 ⊢
        exact h4
      have hnot : ¬ Ls listed i := fun h => by unfold Ls at h; rw [hli] at h; cases h
      refine T.step hrec I hdc hSn ho hnot hedges (fun γ' K' F'' a' w' I' => ?_)
      have hset : (fun j => Ls listed j ∨ j = i) = Ls (listed.setIfInBounds i true) := by
        funext j
        exact propext (Ls_set hlt').symm
      rw [hset] at I'
      refine ih (listed.setIfInBounds i true) γ' K' F'' a' w' (by simpa using hsz) ?_ (fun j oj hoj hj e he hb => ?_) I'
      · have hlen : ((List.range os.size).filter (fun j => !(listed.setIfInBounds i true).getD j false)).length < ((List.range os.size).filter (fun j => !listed.getD j false)).length := by
          rw [← List.countP_eq_length_filter, ← List.countP_eq_length_filter]
          refine Nat.lt_of_not_le (fun hge => ?_)
          have hsub : ((List.range os.size).filter (fun j => !(listed.setIfInBounds i true).getD j false)).length + 1 ≤ ((List.range os.size).filter (fun j => !listed.getD j false)).length := by
            have hnd : (List.range os.size).Nodup := List.nodup_range
            have e1 : ((List.range os.size).filter (fun j => !(listed.setIfInBounds i true).getD j false)) = ((List.range os.size).filter (fun j => !listed.getD j false)).erase i := by
              rw [List.Nodup.erase_eq_filter (hnd.filter _), List.filter_filter]
              apply List.filter_congr
              intro j hj
              by_cases hji : j = i
              · subst hji; simp [hlt', hli]
              · have : (listed.setIfInBounds i true).getD j false = listed.getD j false := getD_set_ne false (Ne.symm hji)
                rw [this]
                simp [hji]
            rw [e1, List.length_erase_of_mem (by rw [List.mem_filter]; exact ⟨by simpa using hlt, by rw [hli]; rfl⟩)]
            have : 0 < ((List.range os.size).filter (fun j => !listed.getD j false)).length := List.length_pos_of_mem (a := i) (by rw [List.mem_filter]; exact ⟨by simpa using hlt, by rw [hli]; rfl⟩)
            omega
          rw [List.countP_eq_length_filter, List.countP_eq_length_filter] at hge
          omega
        omega
      · rw [Ls_set hlt'] at hj ⊢
        rcases hj with hj | rfl
        · exact .inl (hdc j oj hoj hj e he hb)
        · rw [ho] at hoj
          injection hoj with hoj
          subst hoj
          exact .inl (hedges e he hb)
end
end Go.Ev
