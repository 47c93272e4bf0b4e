/- The evaluator's conversions, calls, and operations in the order of the text are the model's. Conditions: none. -/
import Derived.Test.YtdnelpmolenkoaaDoorEv9
namespace Go.Ev
open Go.RowKit

theorem foldl_push (ns : List Int) : ∀ (r : ByteArray), ns.foldl (fun r n => r.push (UInt8.ofNat n.toNat)) r = ⟨⟨r.data.toList ++ ns.map fun n => UInt8.ofNat n.toNat⟩⟩ := by
  induction ns with
  | nil => intro r; simp
  | cons n ns ih =>
    intro r
    rw [List.foldl_cons, ih]
    congr 2
    simp [ByteArray.push]
theorem bytesOf_R {γ : G} : ∀ (cs : List AV) (bs : List UInt8) (ccs : List Value), bytesOf cs = some bs → Rs γ cs ccs → ∃ ns : List Int, ccs = ns.map (Value.int .u8) ∧ bs = ns.map fun n => UInt8.ofNat n.toNat
  | [], bs, ccs, h, hr => by
    simp only [bytesOf] at h
    injection h with h
    subst h
    exact ⟨[], by rw [hr.nil_inv]; rfl, rfl⟩
  | v :: cs, bs, ccs, h, hr => by
    unfold bytesOf at h
    split at h
    · rename_i heq; cases heq
    · rename_i n r heq
      injection heq with e1 e2
      subst e1; subst e2
      split at h
      · rename_i bs' hbs
        injection h with h
        subst h
        obtain ⟨c, r, rfl, hc, hr'⟩ := hr.cons_inv
        have hc := R_lit hc
        subst hc
        obtain ⟨ns, h1, h2⟩ := bytesOf_R cs bs' r hbs hr'
        exact ⟨n :: ns, by simp [h1], by simp [h2]⟩
      · cases h
    · cases h

section
variable {P : Program} {γ : G} {fr : Fr} {a : Act} {o : Oper} {v : AV} {h h' : H} {F : Nat → Option Obj} {w0 w : World}

theorem does_convert {s d : TypeId} {x : Operand} (hop : o.op = .convert s d x) (hh : HR γ h F w0 w) (hs : oConvertM P fr s d x h = some (v, h')) (hx : Opd γ fr a #[x]) : Does P γ F w0 a o v h.next h' w := by
  unfold oConvertM at hs
  split at hs
  · rename_i u hu
    have h1 := hx x (by simp) _ hu
    unfold convertM at hs
    split at hs
    · rename_i e st hsrc hdst
      have e1 := R_lit h1
      split at hs
      · rename_i he
        injection hs with hs
        injection hs with e2 e3
        subst e2; subst e3
        have hrun := run_bytes_of_string (P := P) w s d e st hsrc hdst he
        have hge := grown_ge w st.size 0 e
        generalize grownCap w st.size 0 e = gc at hrun hge
        have hrow : bytesRow st gc = ⟨(st.data.toList.map fun b => Value.int .u8 b.toNat) ++ List.replicate (gc - st.size) (.int .u8 0)⟩ := by
          apply Array.ext'
          simp [bytesRow]
        have hlen : ((st.data.toList.map fun b => Value.int .u8 b.toNat) ++ List.replicate (gc - st.size) (Value.int .u8 0)).length = gc := by
          simp; omega
        have hsz : (bytesRow st gc).size = gc := by rw [hrow]; simpa using hlen
        rw [hsz, hrow] at hrun
        have hlit : Rs γ (st.data.toList.map fun b => AV.lit (.int .u8 b.toNat)) (st.data.toList.map fun b => Value.int .u8 b.toNat) := by
          have := Rs.lits γ (st.data.toList.map fun b => Value.int .u8 b.toNat)
          rw [List.map_map] at this
          exact this
        obtain ⟨γ', hle, hb, hcap, hHR⟩ := hh.newUnk (m := gc) (sz := 1) (w' := w.drew.alloc (.cells ⟨(st.data.toList.map fun b => Value.int .u8 b.toNat) ++ List.replicate (gc - st.size) (.int .u8 0)⟩ e (gc, gc + 1))) (e := e) (fz := (gc, gc + 1)) (more := List.replicate (gc - st.size) (.int .u8 0)) hlit rfl rfl rfl rfl
          (fun i hi => by rw [hlen] at hi; simp only; omega) (by simp; omega) (by rw [hlen]; omega)
        refine ⟨.slice (some ⟨w.heap.size, 0, none⟩) st.size gc, _, γ', .inl ?_, hle, ?_, hHR⟩
        · simp only [execOp, hop, e1, Sem.run_bind, hrun]
          rfl
        · rw [← Lib.size_eq]
          exact R.sl (off := 0) hb (.unk (s := 0) hcap)
      · cases hs
    · rename_i e b off len cap hsrc hdst
      split at hs
      · rename_i he
        split at hs
        · rename_i cs hcs
          split at hs
          · rename_i bs hbs
            injection hs with hs
            injection hs with e2 e3
            subst e2; subst e3
            generalize hcv : a.eval x = cv at h1
            cases h1 with
            | sl hB hC =>
              rename_i B O cc
              obtain ⟨cvs, hR, hlen, hat⟩ := load_R hh hcs hB
              obtain ⟨ns, hn1, hn2⟩ := bytesOf_R cs bs cvs hbs hR
              have hl := run_loadCells_list (P := P) w ⟨B, O + off, none⟩ cvs (fun j c hc => hat j c hc)
              rw [← hR.1, hlen, hn1] at hl
              have hrun := run_bytesToString (P := P) w ⟨B, O + off, none⟩ len cc ns hl
              rw [foldl_push] at hrun
              have e0 : (ByteArray.empty.data.toList ++ ns.map fun n => UInt8.ofNat n.toNat) = bs := by rw [hn2]; rfl
              rw [e0] at hrun
              refine ⟨.string ⟨⟨bs⟩⟩, w, γ, .inl ?_, Ext.refl γ _, .lit _, hh⟩
              simp [execOp, hop, hcv, convert, run_underlying hsrc, run_underlying hdst, run_underlying he, hrun]
          · cases hs
        · cases hs
      · cases hs
    · rename_i e n c hsrc hdst
      have e1 := R_lit h1
      split at hs
      · rename_i he
        injection hs with hs
        injection hs with e2 e3
        subst e2; subst e3
        refine ⟨.string ByteArray.empty, w, γ, .inl ?_, Ext.refl γ _, .lit _, hh⟩
        simp [execOp, hop, e1, convert, run_underlying hsrc, run_underlying hdst, run_underlying he, Conv.bytesToString]
      · cases hs
    · cases hs
  · cases hs

/-- a frame stands for an activation -/
structure FR (P : Program) (γ : G) (fr : Fr) (a : Act) : Prop where
  defers : a.defers = []
  size : a.tmps.size = fr.n
  here : ∀ t v, fr.tm.get t = some v → ∃ c, a.tmps[t]? = some c ∧ R γ v c
  g : fr.g = P.globals.size
  glob : ∀ g, g < P.globals.size → γ.blk g = some (g, 0)
theorem FR.mono {γ' : G} (hf : FR P γ fr a) (hle : γ.le γ') : FR P γ' fr a :=
  { hf with
    here := fun t v ht => by
      obtain ⟨c, hc, hR⟩ := hf.here t v ht
      exact ⟨c, hc, hR.mono hle⟩
    glob := fun g hg => hle.1 _ _ (hf.glob g hg) }
theorem FR.opnd (hf : FR P γ fr a) {x : Operand} {v : AV} (h : opnd fr x = some v) : R γ v (a.eval x) := by
  cases x with
  | tmp t =>
    obtain ⟨c, hc, hR⟩ := hf.here t v h
    have : a.eval (.tmp t) = c := by simp [Act.eval, hc]
    rw [this]
    exact hR
  | const u =>
    have h' : some (AV.lit u) = some v := h
    injection h' with h'
    subst h'
    exact .lit u
  | global g =>
    have h' : sel (Nat.ble (Nat.succ g) fr.g) (some (AV.ptr g 0)) none = some v := h
    obtain ⟨h1, h2⟩ := sel_some h'
    injection h2 with h2
    subst h2
    rw [Nat.ble_eq, hf.g] at h1
    exact R.ptr (off := 0) (hf.glob g h1)
  | func f =>
    have h' : some (AV.lit (.func (.func f) #[] #[])) = some v := h
    injection h' with h'
    subst h'
    exact .lit _
theorem FR.put (hf : FR P γ fr a) {d : Option Tmp} {c : Value} {fr' : Fr} (hp : fr.put d v = some fr') (hv : R γ v c) : FR P γ fr' (a.put d c) := by
  cases d with
  | none =>
    have h' : some fr = some fr' := hp
    injection h' with h'
    subst h'
    exact hf
  | some d =>
    have h' : sel (Nat.ble (Nat.succ d) fr.n) (forceA v fun v => some (⟨fr.tm.put d v, fr.n, fr.g⟩ : Fr)) none = some fr' := hp
    obtain ⟨h1, h2⟩ := sel_some h'
    rw [forceA_eq] at h2
    injection h2 with h2
    subst h2
    rw [Nat.ble_eq] at h1
    refine { defers := hf.defers, size := by simpa [Act.put] using hf.size, here := fun t u ht => ?_, g := hf.g, glob := hf.glob }
    rcases get_put ht with ⟨rfl, rfl⟩ | ⟨hne, ht⟩
    · refine ⟨c, ?_, hv⟩
      have : t < a.tmps.size := by rw [hf.size]; exact h1
      simp [Act.put, this]
    · obtain ⟨c', hc', hR⟩ := hf.here t u ht
      refine ⟨c', ?_, hR⟩
      simp only [Act.put]
      rw [Array.getElem?_setIfInBounds_ne (Ne.symm hne)]
      exact hc'

def exc : Ex → Exit
  | .normal => .normal
  | .exit id => .exit id
  | .ret => .ret
def Post (P : Program) (γ : G) (F : Nat → Option Obj) (w0 : World) (n : Nat) (ex : Ex) (fr' : Fr) (h' : H) : Exit → Act → World → Prop :=
  fun e a' w' => e = exc ex ∧ ∃ γ', Ext γ γ' n h'.next ∧ FR P γ' fr' a' ∧ HR γ' h' F w0 w'
def RecOK (P : Program) (rec : Rec) : Prop := ∀ (c : Code) (fr : Fr) (h : H) (ex : Ex) (fr' : Fr) (h' : H), rec c fr h = some (ex, fr', h') →
  ∀ (γ : G) (F : Nat → Option Obj) (w0 : World) (a : Act) (w : World), FR P γ fr a → HR γ h F w0 w → c.wp P (Post P γ F w0 h.next ex fr' h') a w

theorem results_R (f : ResultVar → Sem Value) (h1 : ∀ t, f (.tmp t) = pure (a.tmps.getD t undef)) (h2 : ∀ ad t, f (.cell ad t) = (asAddr (a.tmps.getD ad undef) >>= fun A => loadVar t A)) :
    ∀ (rs : List ResultVar) (vs : List AV), resultsOf P fr h rs = some vs → FR P γ fr a → HR γ h F w0 w → ∃ cvs, Rs γ vs cvs ∧ (rs.mapM f).run P w = .ok cvs w
  | [], vs, hr, _, _ => by
    simp only [resultsOf] at hr
    injection hr with hr
    subst hr
    exact ⟨[], Rs.nil γ, by simp⟩
  | .tmp t :: rs, vs, hr, hf, hh => by
    simp only [resultsOf] at hr
    split at hr
    · cases hr
    · rename_i u hu
      split at hr
      · rename_i us hus
        injection hr with hr
        subst hr
        obtain ⟨cvs, hR, hrun⟩ := results_R f h1 h2 rs us hus hf hh
        obtain ⟨c, hc, hRc⟩ := hf.here t u hu
        refine ⟨c :: cvs, hR.cons hRc, ?_⟩
        have : a.tmps.getD t undef = c := by simp [hc]
        simp only [List.mapM_cons, h1, Sem.run_bind, Sem.run_pure, Result.andThen_ok, this, hrun]
      · cases hr
  | .cell ad t :: rs, vs, hr, hf, hh => by
    simp only [resultsOf] at hr
    split at hr
    · rename_i b off hu
      split at hr
      · cases hr
      · rename_i u hld
        split at hr
        · rename_i us hus
          injection hr with hr
          subst hr
          obtain ⟨cvs, hR, hrun⟩ := results_R f h1 h2 rs us hus hf hh
          obtain ⟨c, hc, hRc⟩ := hf.here ad _ hu
          have : a.tmps.getD ad undef = c := by simp [hc]
          cases hRc with
          | ptr hB =>
            obtain ⟨c', hc', hR'⟩ := loadT_R hh hld hB
            refine ⟨c' :: cvs, hR.cons hR', ?_⟩
            have ha : ∀ A : Addr, (asAddr (.pointer (some A))).run P w = .ok A w := fun A => rfl
            simp only [List.mapM_cons, h2, Sem.run_bind, Sem.run_pure, Result.andThen_ok, this, ha, hc', hrun]
        · cases hr
    · cases hr

/-- a call's answer -/
def Ans (γ : G) (F : Nat → Option Obj) (w0 : World) (n : Nat) (v : AV) (h' : H) : Ending → World → Prop := fun e w' => ∃ c γ', e = .returned c ∧ Ext γ γ' n h'.next ∧ R γ' v c ∧ HR γ' h' F w0 w'

theorem give_R {vs : List AV} {cvs : List Value} (hg : give h (some vs) = some (v, h')) (hR : Rs γ vs cvs) : h' = h ∧ R γ v (if hh : (Array.mk cvs).size = 1 then (Array.mk cvs)[0] else .tuple ⟨cvs⟩) := by
  unfold give at hg
  split at hg
  · rename_i u heq
    injection heq with heq
    subst heq
    injection hg with hg
    injection hg with e1 e2
    subst e1; subst e2
    obtain ⟨c, r, rfl, hc, hr⟩ := hR.cons_inv
    rw [hr.nil_inv]
    exact ⟨rfl, by simpa using hc⟩
  · rename_i us hne heq
    injection heq with heq
    subst heq
    injection hg with hg
    injection hg with e1 e2
    subst e1; subst e2
    refine ⟨rfl, ?_⟩
    rw [dif_neg]
    · exact mkTup_R hR
    · intro e
      have hl := hR.1
      have hl1 : vs.length = 1 := by rw [hl]; simpa using e
      obtain ⟨u, hu⟩ := List.length_eq_one_iff.1 hl1
      exact hne u hu
  · rename_i heq; cases heq

theorem callWith_sound {rec : Rec} (hrec : RecOK P rec) {f : FuncId} {args : List AV} {cargs : List Value} (hc : callWith P rec f args h = some (v, h')) (hargs : Rs γ args cargs) (hglob : ∀ g, g < P.globals.size → γ.blk g = some (g, 0)) (hh : HR γ h F w0 w) :
    Calls P f ⟨cargs⟩ w (Ans γ F w0 h.next v h') ∧ ∀ w, (callFunc f ⟨cargs⟩).run P w = .ok (.enter f ⟨cargs⟩) w := by
  unfold callWith at hc
  split at hc
  · cases hc
  · rename_i fn hfn
    split at hc
    · cases hc
    · rename_i c hbody
      obtain ⟨hcond, hc⟩ := sel_some hc
      simp only [Bool.and_eq_true, Nat.ble_eq, Bool.not_eq_true'] at hcond
      obtain ⟨hlen, hname⟩ := hcond
      refine ⟨?_, fun w => ?_⟩
      · split at hc
        · cases hc
        · cases hc
        · rename_i ex fr' h1 hne hrun
          have hf0 : FR P γ { tm := putAll .nil 0 args, n := fn.ntmps, g := P.globals.size } { tmps := (Array.mk cargs) ++ Array.replicate (fn.ntmps - (Array.mk cargs).size) undef, defers := [] } := by
            refine { defers := rfl, size := ?_, here := fun t u ht => ?_, g := rfl, glob := hglob }
            · have := hargs.1
              simp
              omega
            · rcases get_putAll _ _ _ _ _ ht with ⟨_, hv⟩ | ⟨_, hv⟩
              · simp only [Nat.sub_zero] at hv
                obtain ⟨c0, hc0, hR0⟩ := hargs.at_ hv
                refine ⟨c0, ?_, hR0⟩
                have hlt : t < (Array.mk cargs).size := by simpa using (List.getElem?_eq_some_iff.1 hc0).1
                rw [Array.getElem?_append_left hlt]
                simpa using hc0
              · rw [get_nil] at hv; cases hv
          have hwp := hrec c _ h ex fr' h1 hrun γ F w0 _ w hf0 hh
          refine calls_of_wp hfn hbody (wp_mono hwp ?_)
          rintro e a' w' ⟨he, γ', hle, hf', hh'⟩
          have hres : bodyPost P fn (Ans γ F w0 h.next v h') .ret a' w' := by
            refine ⟨hf'.defers, ?_⟩
            cases hro : resultsOf P fr' h1 fn.results.toList with
            | none => rw [hro] at hc; cases hc
            | some vs =>
              rw [hro] at hc
              have hres : ∃ f : ResultVar → Sem Value, (∀ t, f (.tmp t) = pure (a'.tmps.getD t undef)) ∧ (∀ ad t, f (.cell ad t) = (asAddr (a'.tmps.getD ad undef) >>= fun A => loadVar t A)) ∧
                  results fn a'.tmps = (fn.results.mapM f >>= fun vs => pure (if h : vs.size = 1 then vs[0] else .tuple vs)) := ⟨_, fun _ => rfl, fun _ _ => rfl, rfl⟩
              obtain ⟨f, hf1, hf2, hf3⟩ := hres
              obtain ⟨cvs, hR, hrun2⟩ := results_R f hf1 hf2 _ _ hro hf' hh'
              obtain ⟨rfl, hRv⟩ := give_R hc hR
              refine ⟨_, ?_, _, γ', rfl, hle, hRv, hh'⟩
              rw [hf3]
              simp only [Array.mapM_eq_mapM_toList, Sem.run_bind]
              have e : ∀ (m : Sem (List Value)), ((List.toArray <$> m) : Sem (Array Value)).run P w' = (m.run P w').andThen fun l W => .ok l.toArray W := fun m => by
                rw [map_eq_pure_bind, Sem.run_bind]
                rfl
              rw [e, hrun2]
              rfl
          cases ex with
          | normal => subst he; exact hres
          | ret => subst he; exact hres
          | exit id => exact (hne _ rfl).elim
      · simp [callFunc, hfn, hbody]
        simpa using hname
end
end Go.Ev
