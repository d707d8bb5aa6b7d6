/- Parts of the proof, joined by program: The abstract machine and the model: frames, calls; The abstract machine and the model: regions in the order of the text; rounds of a range over a function; The abstract machine and the model: regions in the order of the text; The abstract machine and the model: a range over a function; The abstract machine: a name that is dead stays so; The abstract machine: what a region that draws its order has looked at; The abstract machine: facts of the stages of a region that draws its order; The abstract machine and the model: a region in an order that is drawn: what is kept. -/
import Derived.Test.YtmodeilippcbnaaR02
import Derived.RangeFuncLeaves
set_option linter.all false
section
namespace Go.Ab

inductive DRels (μ : Inj) : List Deferred → List Deferred → Prop where
  | nil : DRels μ [] []
  | cons (d d' : Deferred) (l l' : List Deferred) (h : DRel μ d d') (t : DRels μ l l') : DRels μ (d :: l) (d' :: l')
theorem DRels.mono {μ μ' : Inj} (hμ : μ.Le μ') {l l' : List Deferred} (h : DRels μ l l') : DRels μ' l l' := by
  induction h with
  | nil => exact .nil
  | cons d d' l l' h t ih => exact .cons _ _ _ _ (h.mono hμ) ih

structure PRel (μ : Inj) (p p' : PanicEntry) : Prop where
  v : VRel μ p.v p'.v
  recovered : p.recovered = p'.recovered
  goexit : p.goexit = p'.goexit
inductive PRels (μ : Inj) : List PanicEntry → List PanicEntry → Prop where
  | nil : PRels μ [] []
  | cons (d d' : PanicEntry) (l l' : List PanicEntry) (h : PRel μ d d') (t : PRels μ l l') : PRels μ (d :: l) (d' :: l')

inductive XRel (μ : Inj) : Exit → Exit → Prop where
  | normal : XRel μ .normal .normal
  | exit (id : Nat) : XRel μ (.exit id) (.exit id)
  | ret : XRel μ .ret .ret
  | panic (c c' : List PanicEntry) (h : PRels μ c c') : XRel μ (.panic c) (.panic c')


structure FrRel (ng : Nat) (μ : Inj) (st : St) (a : Act) (w : World) : Prop where
  tm : TmRel μ st.tm st.sz a.tmps
  dfr : DRels μ st.defers a.defers
  rel : Rel ng μ st.heap.get w
  dom : Dom ng μ st.heap

def WF (rd : Option Nat) : Fence := { Fence.wide with round := rd }

/-- what a piece of code comes to -/
structure Post (ng : Nat) (μ : Inj) (st : St) (w : World) (e : Exit) (st' : St) (μ' : Inj) (e' : Exit) (a' : Act) (w' : World) : Prop where
  goes : Goes ng μ st.heap.get w μ' st'.heap.get w'
  exit : XRel μ' e e'
  fr : FrRel ng μ' st' a' w'
  next : Nxt μ st.heap μ' st'.heap
  rd : st'.rd = st.rd
  sz : st'.sz = st.sz

/-- 'rec' is sound. -/
def Sound (P : Program) (ng : Nat) (rec : Rec) : Prop :=
  ∀ c st e st', codeOk ng c = true → rec c st = some (e, st') → ∀ rd μ a w, (st.rd = false → rd = none) → FrRel ng μ st a w →
    c.wpIn (WF rd) 0 P (fun e' a' w' => ∃ μ', Post ng μ st w e st' μ' e' a' w') a w

section
variable {P : Program} {T : Tab} {ng : Nat} {μ : Inj} {H : Heap} {w : World}

theorem wf_fn (rd : Option Nat) (f : FuncId) : (WF rd).fn f := trivial
theorem wf_depth (rd : Option Nat) : (WF rd).depth.isSome = true → 1 ≤ 0 := fun h => by simp [WF, Fence.wide] at h

theorem callsIn_wf {rd rd' : Option Nat} {n : Nat} {f : FuncId} {args : Array Value} {R : Ending → World → Prop} (h : CallsIn (WF rd) n P f args w R) : CallsIn (WF rd') n P f args w R := h

/-! ### entering a function -/
theorem get_initTm : ∀ (l : List Value) (k : Nat) (t : Tr Value) (j : Nat), (initTm k l t).get j = if k ≤ j ∧ j < k + l.length then l[j - k]? else t.get j
  | [], k, t, j => by simp [initTm]; omega
  | v :: l, k, t, j => by
    simp only [initTm]
    rw [get_initTm l (k + 1) _ j, Tr.get_set]
    by_cases h : k + 1 ≤ j ∧ j < k + 1 + l.length
    · rw [if_pos h, if_pos (by simp; omega)]
      rw [show j - k = (j - (k + 1)) + 1 by omega]; simp
    · rw [if_neg h]
      by_cases hj : j = k
      · subst hj; simp
      · rw [if_neg hj, if_neg (by simp; omega)]

theorem enter_tm {args args' : Array Value} (h : VRels μ args.toList args'.toList) (n : Nat) : TmRel μ (initTm 0 args.toList .e) (Nat.max args.size n) (args' ++ Array.replicate (n - args'.size) undef) := by
  have hl : args.size = args'.size := by simpa using h.length
  have hundef : VRel μ undef undef := .tuple _ _ .nil
  refine ⟨by
    have e : Nat.max args.size n = max args.size n := rfl
    rw [e]; simp; omega, fun t => ?_⟩
  simp only [evalT, get_initTm, Nat.zero_le, true_and, Nat.zero_add, Nat.sub_zero, Array.length_toList]
  by_cases ht : t < args.size
  · rw [if_pos ht]
    have hv : args.toList[t]? = some args[t] := by simp [ht]
    obtain ⟨v', h1, h2⟩ := h.get t _ hv
    rw [hv]
    have h1' : args'[t]? = some v' := by simpa using h1
    have ht' : t < args'.size := by omega
    simp only [Option.getD_some, Array.getD_eq_getD_getElem?, Array.getElem?_append_left ht', h1']
    exact h2
  · rw [if_neg ht]
    simp only [Tr.get, Option.getD_none, Array.getD_eq_getD_getElem?]
    rw [Array.getElem?_append_right (by omega)]
    by_cases h2 : t - args'.size < n - args'.size
    · simp [h2]; exact hundef
    · simp [h2]; exact hundef

theorem put_tm {tm : Tr Value} {sz : Nat} {a : Act} {dst : Option Tmp} {v v' : Value} (h : TmRel μ tm sz a.tmps) (hd : dstOk sz dst = true) (hv : VRel μ v v') : TmRel μ (putT tm dst v) sz (a.put dst v').tmps := by
  cases dst with
  | none => exact h
  | some d =>
    have hlt : d < sz := by
      simp only [dstOk] at hd
      exact Nat.le_of_ble_eq_true hd
    refine ⟨by simp [Act.put, h.size], fun t => ?_⟩
    simp only [putT, evalT, Tr.get_set, Act.put]
    by_cases ht : t = d
    · subst ht
      rw [if_pos rfl]
      simp [Array.getD_eq_getD_getElem?, h.size, hlt]
      exact hv
    · rw [if_neg ht]
      have := h.val t
      simp only [evalT, Array.getD_eq_getD_getElem?] at this ⊢
      rw [Array.getElem?_setIfInBounds_ne (fun e => ht e.symm)]
      exact this

theorem eval_rel {st : St} {a : Act} (h : FrRel ng μ st a w) {x : Operand} (hx : opndOk ng x = true) : VRel μ (evalT st.tm x) (a.eval x) := by
  cases x with
  | tmp t => exact h.tm.val t
  | const v => exact flat_refl hx
  | global g =>
    have hg : g < ng := Nat.le_of_ble_eq_true hx
    obtain ⟨t, h1, h2, h3⟩ := h.rel.glob g hg
    have := VRel.ptr (μ := μ) g 0 t h1
    rw [h2, h3] at this
    exact this
  | func f => exact .func _ _ _ _ _ .nil .nil

/-! ### leaving a function -/
def resF (tmps : Array Value) : ResultVar → Sem Value
  | .tmp t => pure (tmps.getD t undef)
  | .cell a t => do loadVar t (← asAddr (tmps.getD a undef))

theorem results_eq (fn : Func) (tmps : Array Value) : results fn tmps = (do
    let vs ← fn.results.mapM (resF tmps)
    pure (if h : vs.size = 1 then vs[0] else .tuple vs)) := by
  unfold results
  congr 1

theorem mapM_results {tmps : Array Value} {tm : Tr Value} {sz : Nat} (hT : T.Ok P ng) (hR : Rel ng μ H.get w) (ht : TmRel μ tm sz tmps) : ∀ (rs : List ResultVar) (l : List Value), resultsC T tm H rs = some l →
    ∃ l', (rs.mapM (resF tmps)).run P w = .ok l' w ∧ VRels μ l l'
  | [], l, h => by simp [resultsC] at h; subst h; exact ⟨[], rfl, .nil⟩
  | .tmp t :: rs, l, h => by
    simp only [resultsC] at h
    cases hr : resultsC T tm H rs with
    | none => simp [hr] at h
    | some l0 =>
      simp [hr] at h; subst h
      obtain ⟨l', k1, k2⟩ := mapM_results hT hR ht rs l0 hr
      exact ⟨tmps.getD t undef :: l', by rw [List.mapM_cons]; simp only [resF, Sem.run_bind, Sem.run_pure, Result.andThen_ok, k1], .cons _ _ _ _ (ht.val t) k2⟩
  | .cell a t :: rs, l, h => by
    simp only [resultsC] at h
    split at h
    · rename_i b o i hab hti
      split at h
      · rename_i v l0 hv hr
        simp at h; subst h
        obtain ⟨l', k1, k2⟩ := mapM_results hT hR ht rs l0 hr
        have ha := ht.val a
        rw [hab] at ha
        obtain ⟨tg, hm, ha'⟩ := ha.ptr_inv
        obtain ⟨tg', v', j1, j2, j3⟩ := loadC_sim hR (hT.ty _ _ hti) hv
        rw [hm] at j1; cases j1
        have hasA : (asAddr (tmps.getD a undef)).run P w = .ok ⟨tg.cb, tg.off + o, none⟩ w := by rw [ha']; rfl
        exact ⟨v' :: l', by rw [List.mapM_cons]; simp only [resF, Sem.run_bind, Sem.run_pure, Result.andThen_ok, hasA, j2, k1], .cons _ _ _ _ j3 k2⟩
      · cases h
    · cases h

theorem results_sim {fn : Func} {tmps : Array Value} {tm : Tr Value} {sz : Nat} (hT : T.Ok P ng) (hR : Rel ng μ H.get w) (ht : TmRel μ tm sz tmps) {l : List Value} (h : resultsC T tm H fn.results.toList = some l) :
    ∃ v', (results fn tmps).run P w = .ok v' w ∧ VRel μ (retOf l) v' := by
  obtain ⟨l', k1, k2⟩ := mapM_results hT hR ht _ l h
  have hrun : (results fn tmps).run P w = .ok (if h : l'.toArray.size = 1 then l'.toArray[0] else .tuple l'.toArray) w := by
    rw [results_eq, Array.mapM_eq_mapM_toList]
    simp only [Sem.run_bind, Sem.run_map, k1, Result.andThen_ok, Sem.run_pure]
  refine ⟨_, hrun, ?_⟩
  match l, l', k2 with
  | [], _, .nil => exact .tuple _ _ .nil
  | [v], _, .cons _ v' _ _ hv .nil => exact hv
  | v :: u :: l, _, .cons _ v' _ _ hv (.cons _ u' _ l' hu ht) => exact .tuple _ _ (.cons _ _ _ _ hv (.cons _ _ _ _ hu ht))

inductive RRel (μ : Inj) : Ret → Ending → Prop where
  | ret (v v' : Value) (h : VRel μ v v') : RRel μ (.ret v) (.returned v')
  | pan (c c' : List PanicEntry) (h : PRels μ c c') : RRel μ (.pan c) (.panicked c')


/-- what a call comes to -/
structure CPost (ng : Nat) (μ : Inj) (H : Heap) (w : World) (r : Ret) (H' : Heap) (μ' : Inj) (e : Ending) (w' : World) : Prop where
  goes : Goes ng μ H.get w μ' H'.get w'
  ret : RRel μ' r e
  dom : Dom ng μ' H'
  next : Nxt μ H μ' H'

theorem body_sim (hT : T.Ok P ng) {rec : Rec} (hS : Sound P ng rec) (hR : Rel ng μ H.get w) (hD : Dom ng μ H) {f : FuncId} {args args' : Array Value} (ha : VRels μ args.toList args'.toList) {fn : Func} {e : Exit} {st : St}
    (h : bodyF T rec f args H = some (fn, e, st)) :
    ∃ c, P.funcs[f]? = some fn ∧ fn.body = some c ∧
      c.wpIn (WF none) 0 P (fun e' a' w' => ∃ μ', Goes ng μ H.get w μ' st.heap.get w' ∧ XRel μ' e e' ∧ FrRel ng μ' st a' w' ∧ Nxt μ H μ' st.heap) { tmps := args' ++ Array.replicate (fn.ntmps - args'.size) undef, defers := [] } w := by
  unfold bodyF at h
  split at h
  · cases h
  rename_i fn0 hfn
  split at h
  · cases h
  rename_i c hc
  split at h
  case h_2 => cases h
  rename_i e0 st0 hrec
  simp only [Option.some.injEq, Prod.mk.injEq] at h
  obtain ⟨rfl, rfl, rfl⟩ := h
  obtain ⟨q1, q2, q3⟩ := hT.fn _ _ hfn
  refine ⟨c, q1, hc, ?_⟩
  refine wpIn_mono (hS c _ _ _ (q3 c hc) hrec none μ _ w (fun _ => rfl) ⟨enter_tm ha _, .nil, hR, hD⟩) ?_
  rintro e' a' w' ⟨μ', hp⟩
  exact ⟨μ', hp.goes, hp.exit, hp.fr, hp.next⟩

theorem defer_sim (hT : T.Ok P ng) {rec : Rec} (hS : Sound P ng rec) (hR : Rel ng μ H.get w) (hD : Dom ng μ H) {f : FuncId} {args args' : Array Value} (ha : VRels μ args.toList args'.toList) {H' : Heap} (u : FrameMode)
    (h : deferF T rec f args H = some H') :
    CallsDIn (WF none) 0 P f args' u w fun e u' w' => u' = u ∧ ∃ v, e = .returned v ∧ ∃ μ', Goes ng μ H.get w μ' H'.get w' ∧ Dom ng μ' H' ∧ Nxt μ H μ' H' := by
  unfold deferF at h
  split at h
  case h_2 => cases h
  rename_i fn e st hb
  obtain ⟨c, q1, q2, q3⟩ := body_sim hT hS hR hD ha hb
  have key : ∀ (l : List Value), st.defers = [] → resultsC T st.tm st.heap fn.results.toList = some l → H' = st.heap → (e = .normal ∨ e = .ret) → CallsDIn (WF none) 0 P f args' u w fun e u' w' => u' = u ∧ ∃ v, e = .returned v ∧ ∃ μ', Goes ng μ H.get w μ' H'.get w' ∧ Dom ng μ' H' ∧ Nxt μ H μ' H' := by
    intro l hd hres hH he
    subst hH
    refine callsDIn_of_wp (R := fun e w' => ∃ v, e = .returned v ∧ ∃ μ', Goes ng μ H.get w μ' st.heap.get w' ∧ Dom ng μ' st.heap ∧ Nxt μ H μ' st.heap) q1 q2 (wf_fn _ _) (wpIn_mono q3 ?_)
    rintro e' a' w' ⟨μ', g1, g2, g3, g4⟩
    obtain ⟨v', k1, k2⟩ := results_sim (P := P) (fn := fn) hT g3.rel g3.tm hres
    have hd' : a'.defers = [] := by
      have := g3.dfr
      rw [hd] at this
      cases hda : a'.defers with
      | nil => rfl
      | cons x y => rw [hda] at this; cases this
    rcases he with rfl | rfl <;> cases g2
    · exact ⟨hd', v', k1, v', rfl, μ', g1, g3.dom, g4⟩
    · exact ⟨hd', v', k1, v', rfl, μ', g1, g3.dom, g4⟩
  split at h
  · split at h
    · rename_i hd
      split at h
      · rename_i l hres
        simp at h
        exact key l hd hres h.symm (.inl rfl)
      · cases h
    · cases h
  · split at h
    · rename_i hd
      split at h
      · rename_i l hres
        simp at h
        exact key l hd hres h.symm (.inr rfl)
      · cases h
    · cases h
  · cases h

theorem leave_sim (hT : T.Ok P ng) {rec : Rec} (hS : Sound P ng rec) {fn : Func} {tmps : Array Value} {tm : Tr Value} {sz : Nat} {μ0 : Inj} {H0 : Heap} {w0 : World} {l : List Value} {Hend : Heap} :
    ∀ (ds ds' : List Deferred) (μ : Inj) (H : Heap) (w : World), Goes ng μ0 H0.get w0 μ H.get w → Dom ng μ H → Nxt μ0 H0 μ H → TmRel μ tm sz tmps → DRels μ ds ds' → leaveF T rec ds H = some Hend → resultsC T tm Hend fn.results.toList = some l →
      LeavesInM (WF none) 0 P fn tmps (fun e w' => ∃ μ', CPost ng μ0 H0 w0 (.ret (retOf l)) Hend μ' e w') ds' .returning w := by
  intro ds
  induction ds with
  | nil =>
    intro ds' μ H w hG hD hN ht hds h hres
    cases hds
    simp [leaveF] at h; subst h
    obtain ⟨v', k1, k2⟩ := results_sim (P := P) (fn := fn) hT hG.rel ht hres
    exact ⟨v', k1, μ, hG, .ret _ _ k2, hD, hN⟩
  | cons d ds ih =>
    intro ds' μ H w hG hD hN ht hds h hres
    cases hds with
    | cons _ d' _ ds' hd hds =>
    simp only [leaveF] at h
    refine ⟨by simp, ?_⟩
    cases hd with
    | mark r t args args' hm =>
      simp only at h
      split at h
      · rename_i hr
        obtain ⟨t', ob, k1, k2, k3⟩ := hG.rel.obj r (by rw [hr]; simp)
        rw [hm] at k1; cases k1
        rw [hr] at k3
        simp only [ORel, if_true] at k3
        subst k3
        refine .inl ⟨t.cb, setB w t.cb (.deferred none), rfl, ?_, ?_⟩
        · simp [Instr.takeDeferred, getObj, setObj, Sem.run, k2, setB]
        · have hg2 := hG.rel.write (w' := setB w t.cb (.deferred none)) (b := r) (a := .defr false) (o := .deferred none) (by rw [hr]; rfl) hm rfl ⟨rfl, rfl, rfl⟩ rfl rfl (H.put r (.defr false)).get (fun j => by rw [Heap.get_put])
          exact ih ds' μ (H.put r (.defr false)) _ (hG.trans hg2) (hD.put _ _) (hN.trans (.same rfl)) ht hds h hres
      · cases h
    | fn f cap cap' args args' hc ha =>
      simp only at h
      split at h
      · rename_i H' hH'
        refine .inr ⟨wf_depth _, .func f, cap', f, args' ++ cap', rfl, ?_, fun _ _ => wf_fn _ _, ?_⟩
        · -- the call goes in
          have hfn : ∃ fn' c, T.fn f = some fn' ∧ fn'.body = some c := by
            unfold deferF bodyF at hH'
            split at hH'
            · rename_i fn' e st hb
              split at hb
              · cases hb
              · rename_i fn0 hfn0
                split at hb
                · cases hb
                · rename_i c hc0; exact ⟨fn0, c, hfn0, hc0⟩
            · cases hH'
          obtain ⟨fn', c, q1, q2⟩ := hfn
          obtain ⟨p1, p2, p3⟩ := hT.fn _ _ q1
          simp only [invoke, callFunc, Sem.run_bind, run_program, Result.andThen_ok, p1, p2, q2]
          rfl
        · have := defer_sim (P := P) hT hS hG.rel hD (args := args ++ cap) (args' := args' ++ cap') (by simp only [Array.toList_append]; exact ha.append hc) .returning hH'
          refine CallsDIn.mono this ?_
          rintro e u' w' ⟨rfl, v, rfl, μ', g1, g2, g3⟩
          exact ih ds' μ' H' w' (hG.trans g1) g2 (hN.trans g3) (ht.mono g1.le) (hds.mono g1.le) h hres
      · cases h

theorem call_sim (hT : T.Ok P ng) {rec : Rec} (hS : Sound P ng rec) (hR : Rel ng μ H.get w) (hD : Dom ng μ H) {f : FuncId} {args args' : Array Value} (ha : VRels μ args.toList args'.toList) {r : Ret} {H' : Heap}
    (h : callF T rec f args H = some (r, H')) : CallsIn (WF none) 0 P f args' w fun e w' => ∃ μ', CPost ng μ H w r H' μ' e w' := by
  unfold callF at h
  split at h
  case h_2 => cases h
  rename_i fn e st hb
  obtain ⟨c, q1, q2, q3⟩ := body_sim hT hS hR hD ha hb
  refine callsIn_of_wp_marks q1 q2 (wf_fn _ _) (wpIn_mono q3 ?_)
  rintro e' a' w' ⟨μ', g1, g2, g3, g4⟩
  have key : ∀ (Hend : Heap) (l : List Value), leaveF T rec st.defers st.heap = some Hend → resultsC T st.tm Hend fn.results.toList = some l → r = .ret (retOf l) → H' = Hend →
      LeavesInM (WF none) 0 P fn a'.tmps (fun e w' => ∃ μ', CPost ng μ H w r H' μ' e w') a'.defers .returning w' := by
    rintro Hend l h1 h2 rfl rfl
    exact leave_sim hT hS st.defers a'.defers μ' st.heap w' g1 g3.dom g4 g3.tm g3.dfr h1 h2
  split at h
  · split at h
    · rename_i Hend h1
      split at h
      · rename_i l h2
        simp at h
        cases g2
        exact key Hend l h1 h2 h.1.symm h.2.symm
      · cases h
    · cases h
  · split at h
    · rename_i Hend h1
      split at h
      · rename_i l h2
        simp at h
        cases g2
        exact key Hend l h1 h2 h.1.symm h.2.symm
      · cases h
    · cases h
  · rename_i ch
    split at h
    · rename_i hd
      simp at h
      obtain ⟨rfl, rfl⟩ := h
      cases g2 with
      | panic _ c' hp =>
        have hd' : a'.defers = [] := by
          have := g3.dfr
          rw [hd] at this
          cases hda : a'.defers with
          | nil => rfl
          | cons x y => rw [hda] at this; cases this
        show LeavesInM (WF none) 0 P fn a'.tmps _ a'.defers (.panicking c') w'
        rw [hd']
        exact ⟨μ', g1, .pan _ _ hp, g3.dom, g4⟩
    · cases h
  · cases h

end
end Go.Ab
end
section
namespace Go.Ab

section
variable {P : Program} {T : Tab} {ng : Nat} {μ : Inj} {H : Heap} {w : World}


theorem wanted_eq {ops : Array Oper} {tm : Tr Value} {sz : Nat} {tmps : Array Value} (ht : TmRel μ tm sz tmps) (o : Oper) : Region.wanted o (yielded ops tmps) = wantedC ops tm o := by
  unfold Region.wanted wantedC
  cases hg : o.guard with
  | none => rfl
  | some g =>
    obtain ⟨j, want⟩ := g
    simp only [yielded]
    cases hd : (ops[j]?).bind (·.dst) with
    | none => simp
    | some d =>
      simp only [Option.bind_some]
      have hv := ht.val d
      rw [Array.getD_eq_getD_getElem?] at hv
      cases hq : tmps[d]? with
      | none =>
        rw [hq] at hv
        simp only [Option.getD_none] at hv
        generalize hx : evalT tm (.tmp d) = x at *
        cases hv with
        | tuple a a' h => simp
      | some v' =>
        rw [hq] at hv
        simp only [Option.getD_some] at hv
        generalize hx : evalT tm (.tmp d) = x at *
        cases hv <;> simp

/-! ### rounds -/
theorem setTms_sim : ∀ (ps : List Tmp) (args args' : List Value) (tm tm' : Tr Value) (sz : Nat) (a : Array Value), TmRel μ tm sz a → VRels μ args args' → setTms tm sz (ps.zip args) = some tm' →
    TmRel μ tm' sz ((ps.zip args').foldl (fun tmps (p : Tmp × Value) => tmps.setIfInBounds p.1 p.2) a)
  | [], _, _, tm, tm', sz, a, h, _, e => by simp [setTms] at e; subst e; simpa using h
  | p :: ps, _, _, tm, tm', sz, a, h, .nil, e => by simp [setTms] at e; subst e; simpa using h
  | p :: ps, _, _, tm, tm', sz, a, h, .cons v v' l l' hv ht, e => by
    simp only [List.zip_cons_cons, setTms] at e
    cases hb : Nat.blt p sz with
    | false => simp [hb] at e
    | true =>
      simp only [hb, cond_true] at e
      simp only [List.zip_cons_cons, List.foldl_cons]
      have := put_tm (a := { tmps := a, defers := [] }) (dst := some p) h hb hv
      exact setTms_sim ps l l' _ tm' sz _ this ht e

theorem Rel.loop (hR : Rel ng μ H.get w) {b : Nat} {s : LoopState} {j : Option Code} {f : FuncId} {tm : Tr Value} {sz : Nat} {ps : Array Tmp} {as body : Code} {df : Nat} (hb : H.get b = .loop s j f tm sz ps as body df) :
    ∃ t l t', μ b = some t ∧ w.heap[t.cb]? = some (.loop l) ∧ l.state = s ∧ l.pending = j ∧ TmRel μ tm sz l.tmps ∧ l.params = ps ∧ l.assign = as ∧ l.body = body ∧ codeOk ng as = true ∧ codeOk ng body = true ∧ jumpOk j = true ∧ μ df = some t' ∧ l.defers = t'.cb := by
  obtain ⟨t, ob, h1, h2, h3⟩ := hR.obj b (by rw [hb]; simp)
  rw [hb] at h3
  obtain ⟨l, rfl, h4, h5, h6, h7, h8, h9, h10, h11, h12, t', h13, h14⟩ := h3
  exact ⟨t, l, t', h1, h2, h4, h5, h6, h7, h8, h9, h10, h11, h12, h13, h14⟩

theorem run_getLoop {k : Nat} {l : Loop} (h : w.heap[k]? = some (.loop l)) : (Instr.getLoop k).run P w = .ok l w := by
  simp [Instr.getLoop, getObj, Sem.run, h]
theorem run_setLoop {k : Nat} {l : Loop} {ob : Obj} (h : w.heap[k]? = some (.loop l)) : (setObj k ob).run P w = .ok () (setB w k ob) := by
  simp [setObj, Sem.run, h, setB]

/-- a loop's record is turned -/
theorem loop_write (hR : Rel ng μ H.get w) {b : Nat} {s s' : LoopState} {j j' : Option Code} {f f' : FuncId} {tm : Tr Value} {sz : Nat} {ps : Array Tmp} {as body : Code} {df : Nat} {t : Tgt} {l : Loop}
    (hb : H.get b = .loop s j f tm sz ps as body df) (hm : μ b = some t) (hl : w.heap[t.cb]? = some (.loop l)) (hj : jumpOk j' = true) :
    Goes ng μ H.get w μ (H.put b (.loop s' j' f' tm sz ps as body df)).get (setB w t.cb (.loop { l with state := s', pending := j' })) := by
  obtain ⟨t1, l1, t', h1, h2, h3, h4, h5, h6, h7, h8, h9, h10, h11, h12, h13⟩ := hR.loop hb
  rw [hm] at h1; cases h1
  rw [hl] at h2; cases h2
  exact hR.write (w' := setB w t.cb (.loop { l with state := s', pending := j' })) (b := b) (a := .loop s' j' f' tm sz ps as body df) (o := .loop { l with state := s', pending := j' }) (by rw [hb]; rfl) hm rfl ⟨rfl, rfl, rfl⟩
    ⟨_, rfl, rfl, rfl, h5, h6, h7, h8, h9, h10, hj, t', h12, h13⟩ rfl (H.put b (.loop s' j' f' tm sz ps as body df)).get (fun k => by rw [Heap.get_put])

theorem wf_inRound (rd : Option Nat) (l : Nat) : (WF rd).inRound l = WF (some l) := rfl

theorem round_sim {rec : Rec} (hS : Sound P ng rec) (hR : Rel ng μ H.get w) (hD : Dom ng μ H) {l : Nat} {t : Tgt} (hm : μ l = some t) {args args' : Array Value} (ha : VRels μ args.toList args'.toList) {v : Value} {H' : Heap} (rd : Option Nat)
    (h : roundF rec l args H = some (v, H')) :
    ∃ f tmps as body, (Instr.yield t.cb args').run P w = .ok (.round t.cb f tmps as body) w ∧ RoundIn (WF rd) 0 P t.cb f tmps as body w fun e w' => ∃ μ', CPost ng μ H w (.ret v) H' μ' e w' := by
  unfold roundF at h
  split at h
  case h_2 => cases h
  rename_i pd fn tm sz ps as body df hb
  split at h
  case isFalse => cases h
  rename_i hsize
  split at h
  · cases h
  rename_i tm' htm'
  split at h
  case h_2 => cases h
  rename_i st1 hrec1
  split at h
  case h_2 => cases h
  rename_i pd1 fn1 tm1 sz1 ps1 as1 body1 df1 hd1 hb1
  split at h
  case h_2 => cases h
  rename_i e st2 hrec2
  obtain ⟨t1, lo, t', k1, k2, k3, k4, k5, k6, k7, k8, k9, k10, k11, k12, k13⟩ := hR.loop hb
  rw [hm] at k1; cases k1
  have hl : args.size = args'.size := by simpa using ha.length
  refine ⟨lo.fn, (ps.zip args').foldl (fun tmps (p : Tmp × Value) => tmps.setIfInBounds p.1 p.2) lo.tmps, as, body, ?_, ?_⟩
  · have hne : ¬ (args'.size ≠ ps.size) := by omega
    simp only [Instr.yield, Sem.run_bind, run_getLoop k2, Result.andThen_ok, k6, k7, k8, if_neg hne, Sem.run_pure]
  · have htm0 : TmRel μ tm' sz ((ps.zip args').foldl (fun tmps (p : Tmp × Value) => tmps.setIfInBounds p.1 p.2) lo.tmps) := by
      have := setTms_sim ps.toList args.toList args'.toList tm tm' sz lo.tmps k5 ha htm'
      rw [← Array.foldl_toList, Array.toList_zip]
      exact this
    refine roundIn_of_wpIn (wf_fn _ _) ?_
    rw [wf_inRound]
    refine wpIn_mono (hS as _ _ _ k9 hrec1 (some t.cb) μ { tmps := _, defers := [] } w (fun h => by simp at h) ⟨htm0, .nil, hR, hD⟩) ?_
    rintro e1 a1 w1 ⟨μ1, p1⟩
    have px := p1.exit
    cases px
    show ∃ w₂, _
    obtain ⟨t2, lo1, t1', j1, j2, j3, j4, j5, j6, j7, j8, j9, j10, j11, j12, j13⟩ := p1.fr.rel.loop hb1
    have hm1 : μ1 l = some t := p1.goes.le _ _ hm
    rw [hm1] at j1; cases j1
    have hg1 := loop_write (s' := .busy) (j' := pd1) (f' := fn1) p1.fr.rel hb1 hm1 j2 j11
    have hbegin : (Instr.beginRound t.cb).run P w1 = .ok () (setB w1 t.cb (.loop { lo1 with state := .busy })) := by
      simp only [Instr.beginRound, Sem.run_bind, run_getLoop j2, run_setLoop j2, Result.andThen_ok, j3]
      rfl
    have hbq : ({ lo1 with state := .busy, pending := pd1 } : Loop) = { lo1 with state := .busy } := by rw [← j4]
    rw [hbq] at hg1
    refine ⟨_, hbegin, ?_⟩
    have hbodyeq : codeOk ng body = true := k10
    refine wpIn_mono (hS body { st1 with heap := st1.heap.put l (.loop .busy pd1 fn1 tm1 sz1 ps1 as1 body1 df1) } _ _ k10 hrec2 (some t.cb) μ1 a1 _ (fun h => by
      have hrd := p1.rd
      simp only at hrd h
      rw [hrd] at h; cases h) ⟨p1.fr.tm, p1.fr.dfr, hg1.rel, p1.fr.dom.put _ _⟩) ?_
    rintro e2 a2 w2 ⟨μ2, p2⟩
    have hm2 : μ2 l = some t := p2.goes.le _ _ hm1
    -- the end of the round
    have fin : ∀ (j : Option Code) (s2 : LoopState) (pd2 : Option Code) (fn2 : FuncId) (tm2 : Tr Value) (sz2 : Nat) (ps2 : Array Tmp) (as2 body2 : Code) (df2 : Nat), jumpOk j = true →
        st2.heap.get l = .loop s2 pd2 fn2 tm2 sz2 ps2 as2 body2 df2 → v = .bool j.isNone → H' = st2.heap.put l (.loop (if j.isNone then .ready else .done) j fn2 tm2 sz2 ps2 as2 body2 df2) →
        ∃ v' w', (Instr.endRound t.cb j).run P w2 = .ok v' w' ∧ ∃ μ', CPost ng μ H w (.ret v) H' μ' (.returned v') w' := by
      rintro j s2 pd2 fn2 tm2 sz2 ps2 as2 body2 df2 hj hb2 rfl rfl
      obtain ⟨t3, lo2, t2', i1, i2, i3, i4, i5, i6, i7, i8, i9, i10, i11, i12, i13⟩ := p2.fr.rel.loop hb2
      rw [hm2] at i1; cases i1
      have hg2 := loop_write (s' := if j.isNone then .ready else .done) (j' := j) (f' := fn2) p2.fr.rel hb2 hm2 i2 hj
      refine ⟨.bool j.isNone, setB w2 t.cb (.loop { lo2 with state := if j.isNone then .ready else .done, pending := j }), ?_, μ2, ?_⟩
      · simp only [Instr.endRound, Sem.run_bind, run_getLoop i2, run_setLoop i2, Result.andThen_ok, Sem.run_pure]
      · exact ⟨((p1.goes.trans hg1).trans p2.goes).trans hg2, .ret _ _ (.bool _), p2.fr.dom.put _ _, ((p1.next.trans (show Nxt μ1 st1.heap μ1 (st1.heap.put l (.loop .busy pd1 fn1 tm1 sz1 ps1 as1 body1 df1)) from .same rfl)).trans p2.next).trans (.same rfl)⟩
    have px2 := p2.exit
    split at h
    case h_2 => cases h
    rename_i j s2 pd2 fn2 tm2 sz2 ps2 as2 body2 df2 hj0 hd2 hb2
    simp at h
    obtain ⟨hv, hH⟩ := h
    cases px2 with
    | normal => simp [jumpOf] at hj0; subst hj0; exact fin none _ _ _ _ _ _ _ _ _ rfl hb2 hv.symm hH.symm
    | ret => simp [jumpOf] at hj0; subst hj0; exact fin (some .ret) _ _ _ _ _ _ _ _ _ rfl hb2 hv.symm hH.symm
    | exit id => simp [jumpOf] at hj0; subst hj0; exact fin (some (.exit id)) _ _ _ _ _ _ _ _ _ rfl hb2 hv.symm hH.symm
    | panic c c' hp => simp [jumpOf] at hj0

end
end Go.Ab
end
section
namespace Go.Ab

section
variable {P : Program} {T : Tab} {ng : Nat} {μ : Inj} {H : Heap} {w : World} {ρ ρ' : Operand → Value} {o : Oper}

theorem aop_ok (hT : T.Ok P ng) (hR : Rel ng μ H.get w) (hD : Dom ng μ H) (hρ : ∀ x ∈ o.op.operands.toList, VRel μ (ρ x) (ρ' x)) {out : Out} (h : aop P T ρ o H = some out) : OpOk P T ng μ H w ρ' o out := by
  unfold aop at h
  split at h
  · cases hr : aread P T ρ o H with
    | none => simp [hr] at h
    | some v =>
      simp [hr] at h; subst h
      obtain ⟨v', k1, k2⟩ := aread_sim (w := w) hT hR hρ hr
      exact ⟨v', w, μ, .inl k1, .refl hR, k2, hD, .refl _ _⟩
  · cases hr : aalloc T ρ o with
    | none => simp [hr] at h
    | some p =>
      simp [hr] at h; subst h
      obtain ⟨v', o', t, k1, k2, k3, k4⟩ := aalloc_sim (w := w) hT hρ hr
      have hn : μ H.next = none := hD.fresh _ (Nat.le_refl _)
      obtain ⟨k5, k6⟩ := k4 H.next hn
      exact ⟨v', w.alloc o', μ.add H.next t, .inl k1, hR.push (w' := w.alloc o') hD.ng hn k2 rfl ⟨rfl, rfl, rfl⟩ k5 k3 (H.push p.1).get (fun b => by rw [Heap.get_push]), k6, hD.push _ _, .push _ _ _ _⟩
  · exact aeff_sim hT hR hD hρ h

theorem aop_notDefer {out : Out} (h : aop P T ρ o H = some out) (hd : ∀ d, out ≠ .dfr d) : ∀ c, o.op ≠ .defer c := by
  intro c hc
  unfold aop at h
  simp only [hc, kindOf] at h
  unfold aeff at h
  simp only [hc] at h
  split at h
  · unfold dfrOf at h
    split at h
    · simp at h; exact hd _ h.symm
    · cases h
  · cases h

/-- from a beginning to here -/
structure Acc (ng : Nat) (μ0 : Inj) (st0 : St) (w0 : World) (μ : Inj) (st : St) (a : Act) (w : World) : Prop where
  goes : Goes ng μ0 st0.heap.get w0 μ st.heap.get w
  fr : FrRel ng μ st a w
  next : Nxt μ0 st0.heap μ st.heap
  rd : st.rd = st0.rd
  sz : st.sz = st0.sz

theorem Acc.refl {μ : Inj} {st : St} {a : Act} {w : World} (h : FrRel ng μ st a w) : Acc ng μ st w μ st a w := ⟨.refl h.rel, h, .refl _ _, rfl, rfl⟩

/-- a value comes into a temporary -/
theorem Acc.put {μ0 : Inj} {st0 : St} {w0 : World} {st : St} {a : Act} (h : Acc ng μ0 st0 w0 μ st a w) {μ' : Inj} {H' : Heap} {w' : World} {v v' : Value} {dst : Option Tmp} (hd : dstOk st.sz dst = true)
    (hg : Goes ng μ st.heap.get w μ' H'.get w') (hv : VRel μ' v v') (hD : Dom ng μ' H') (hn : Nxt μ st.heap μ' H') :
    Acc ng μ0 st0 w0 μ' { st with tm := putT st.tm dst v, heap := H' } (a.put dst v') w' :=
  ⟨h.goes.trans hg, ⟨put_tm (h.fr.tm.mono hg.le) hd hv, by
    have := h.fr.dfr.mono hg.le
    cases dst <;> exact this, hg.rel, hD⟩, h.next.trans hn, h.rd, h.sz⟩

theorem semAt_eq {rd : Option Nat} {ρ : Operand → Value} (h : rd = none ∨ ∀ c, o.op ≠ .defer c) : o.semAt (WF rd).round ρ = execOp ρ o := by
  rcases h with rfl | h
  · rfl
  · exact Oper.semAt_eq _ _ _ h

theorem opnds {st : St} {a : Act} (h : FrRel ng μ st a w) (ho : operOk ng o = true) : ∀ x ∈ o.op.operands.toList, VRel μ (evalT st.tm x) (a.eval x) := by
  intro x hx
  unfold operOk at ho
  rw [List.all_eq_true] at ho
  exact eval_rel h (ho x hx)

theorem undef_rel {μ : Inj} : VRel μ undef undef := .tuple _ _ .nil

theorem seqOps_sim (hT : T.Ok P ng) {rec : Rec} (hS : Sound P ng rec) {ops : Array Oper} (hok : ∀ o ∈ ops.toList, operOk ng o = true) {μ0 : Inj} {st0 : St} {w0 : World} {e : Exit} {st' : St} {rd : Option Nat} (hrd : st0.rd = false → rd = none) :
    ∀ (rest : List Oper) (i : Nat) (st : St) (μ : Inj) (a : Act) (w : World), ops.toList.drop i = rest → seqOps P T rec ops rest st = some (e, st') → Acc ng μ0 st0 w0 μ st a w →
      wpOpsIn (WF rd) 0 P ops (fun e' a' w' => ∃ μ', Post ng μ0 st0 w0 e st' μ' e' a' w') (List.range' i rest.length) a w := by
  intro rest
  induction rest with
  | nil =>
    intro i st μ a w _ h hA
    simp only [seqOps, Option.some.injEq, Prod.mk.injEq] at h
    obtain ⟨rfl, rfl⟩ := h
    exact ⟨μ, hA.goes, .normal, hA.fr, hA.next, hA.rd, hA.sz⟩
  | cons o rest ih =>
    intro i st μ a w hdrop h hA
    have hoi : ops[i]? = some o := by
      have : (ops.toList.drop i)[0]? = some o := by rw [hdrop]; rfl
      rw [List.getElem?_drop] at this
      simpa using this
    have hdrop' : ops.toList.drop (i + 1) = rest := by
      have : (ops.toList.drop i).drop 1 = rest := by rw [hdrop]; rfl
      rw [List.drop_drop] at this
      exact this
    have hmem : o ∈ ops.toList := List.mem_of_getElem? (by rw [Array.getElem?_toList]; exact hoi)
    simp only [seqOps] at h
    cases hdst : dstOk st.sz o.dst with
    | false => simp [hdst] at h
    | true =>
    simp only [hdst, cond_true] at h
    simp only [List.length_cons, List.range'_succ, wpOpsIn, hoi]
    rw [wanted_eq hA.fr.tm o]
    cases hw : wantedC ops st.tm o with
    | false =>
      simp only [hw, cond_false] at h
      simp only [Bool.false_eq_true, if_false]
      refine ⟨fun _ _ => wf_fn _ _, ih (i + 1) _ μ _ w hdrop' h ?_⟩
      exact hA.put hdst (.refl hA.fr.rel) undef_rel hA.fr.dom (.refl _ _)
    | true =>
      simp only [hw, cond_true] at h
      simp only [if_true]
      refine ⟨fun _ _ => wf_fn _ _, ?_⟩
      cases hop : aop P T (evalT st.tm) o st.heap with
      | none => simp [hop] at h
      | some out =>
      have hO := aop_ok (w := w) (ρ' := a.eval) hT hA.fr.rel hA.fr.dom (opnds hA.fr (hok o hmem)) hop
      rw [hop] at h
      cases out with
      | val v H' =>
        rw [semAt_eq (.inr (aop_notDefer hop (by simp)))]
        simp only at h
        obtain ⟨v', w', μ', hrun, hg, hv, hD, hn⟩ := hO
        have hA' := hA.put hdst hg hv hD hn
        rcases hrun with hrun | ⟨rfl, hrun⟩
        · rw [hrun]; exact ih (i + 1) _ μ' _ w' hdrop' h hA'
        · rw [hrun]; exact ih (i + 1) _ μ' _ w' hdrop' h hA'
      | call f args =>
        rw [semAt_eq (.inr (aop_notDefer hop (by simp)))]
        simp only at h
        obtain ⟨args', fn, hrun, ha, _⟩ := hO
        rw [hrun]
        refine ⟨wf_depth _, ?_⟩
        split at h
        · rename_i v H' hcall
          have hc := call_sim hT hS hA.fr.rel hA.fr.dom ha hcall
          refine CallsIn.mono (callsIn_wf hc) ?_
          rintro e1 w1 ⟨μ', hp⟩
          have hret := hp.ret
          cases hret with
          | ret _ v' hv => exact ih (i + 1) _ μ' _ w1 hdrop' h (hA.put hdst hp.goes hv hp.dom hp.next)
        · rename_i ch H' hcall
          simp at h
          obtain ⟨rfl, rfl⟩ := h
          have hc := call_sim hT hS hA.fr.rel hA.fr.dom ha hcall
          refine CallsIn.mono (callsIn_wf hc) ?_
          rintro e1 w1 ⟨μ', hp⟩
          have hret := hp.ret
          cases hret with
          | pan _ c' hpr =>
            exact ⟨μ', hA.goes.trans hp.goes, .panic _ _ hpr, ⟨hA.fr.tm.mono hp.goes.le, hA.fr.dfr.mono hp.goes.le, hp.goes.rel, hp.dom⟩, hA.next.trans hp.next, hA.rd, hA.sz⟩
        · cases h
      | round l args =>
        rw [semAt_eq (.inr (aop_notDefer hop (by simp)))]
        simp only at h
        obtain ⟨args', t, hm, hrun, ha⟩ := hO
        split at h
        · rename_i v H' hround
          obtain ⟨f, tmps, as, body, hy, hR⟩ := round_sim hS hA.fr.rel hA.fr.dom hm ha rd hround
          rw [hrun, hy]
          refine ⟨wf_depth _, RoundIn.mono hR ?_⟩
          rintro e1 w1 ⟨μ', hp⟩
          have hret := hp.ret
          cases hret with
          | ret _ v' hv => exact ih (i + 1) _ μ' _ w1 hdrop' h (hA.put hdst hp.goes hv hp.dom hp.next)
        · cases h
      | dfr d =>
        simp only at h
        cases hst : st.rd with
        | true => simp [hst] at h
        | false =>
        simp only [hst, cond_false] at h
        have hrd0 : rd = none := hrd (by rw [← hA.rd]; exact hst)
        rw [semAt_eq (.inl hrd0)]
        obtain ⟨d', hrun, hd, _⟩ := hO
        rw [hrun]
        refine ih (i + 1) { st with tm := putT st.tm o.dst undef, defers := d :: st.defers } μ _ w hdrop' ?_ ?_
        · rw [hst]; exact h
        · have hA2 : Acc ng μ0 st0 w0 μ { st with defers := d :: st.defers } { a with defers := d' :: a.defers } w :=
            ⟨hA.goes, ⟨hA.fr.tm, .cons _ _ _ _ hd hA.fr.dfr, hA.fr.rel, hA.fr.dom⟩, hA.next, hA.rd, hA.sz⟩
          exact hA2.put hdst (.refl hA.fr.rel) undef_rel hA.fr.dom (.refl _ _)
      | pan v =>
        rw [semAt_eq (.inr (aop_notDefer hop (by simp)))]
        simp at h
        obtain ⟨rfl, rfl⟩ := h
        obtain ⟨v', hrun, hv⟩ := hO
        rw [hrun]
        exact ⟨μ, hA.goes, .panic _ _ (.cons _ _ _ _ ⟨hv, rfl, rfl⟩ .nil), hA.fr, hA.next, hA.rd, hA.sz⟩

end
end Go.Ab
end
section
namespace Go.Ab

section
variable {P : Program} {T : Tab} {ng : Nat} {μ : Inj} {H : Heap} {w : World}

theorem rangeF_sim (hT : T.Ok P ng) {rec : Rec} (hS : Sound P ng rec) {g : Operand} {ps : Array Tmp} {as body : Code} {st st' : St} {e : Exit} (hok : codeOk ng (.rangeFunc g ps as body) = true)
    (h : rangeF T rec g ps as body st = some (e, st')) {rd : Option Nat} {a : Act} (hrd : st.rd = false → rd = none) (hF : FrRel ng μ st a w) :
    (Code.rangeFunc g ps as body).wpIn (WF rd) 0 P (fun e' a' w' => ∃ μ', Post ng μ st w e st' μ' e' a' w') a w := by
  simp only [codeOk, Bool.and_eq_true] at hok
  obtain ⟨⟨hg, hok1⟩, hok2⟩ := hok
  unfold rangeF at h
  cases hst : st.rd with
  | true => simp [hst] at h
  | false =>
  have hrd0 : rd = none := hrd hst
  subst hrd0
  simp only [hst, cond_false] at h
  split at h
  case h_2 => cases h
  rename_i f first captured hgv
  split at h
  case h_2 => cases h
  rename_i v H3 hcall
  split at h
  case h_2 => cases h
  rename_i s j fn2 tm2 sz2 ps2 as2 body2 df2 hl3
  -- the record
  have hn1 : μ st.heap.next = none := hF.dom.fresh _ (Nat.le_refl _)
  let t1 : Tgt := ⟨w.heap.size, 0, 0, 0⟩
  have hG1 := hF.rel.push (w' := w.alloc (.deferred (some []))) (n := st.heap.next) (a := .defr true) (o := .deferred (some [])) (t := t1) hF.dom.ng hn1 rfl rfl ⟨rfl, rfl, rfl⟩ rfl rfl (st.heap.push (.defr true)).get (fun b => by rw [Heap.get_push])
  have hD1 : Dom ng (μ.add st.heap.next t1) (st.heap.push (.defr true)) := hF.dom.push _ _
  have hn2 : (μ.add st.heap.next t1) (st.heap.next + 1) = none := hD1.fresh _ (Nat.le_refl _)
  let t2 : Tgt := ⟨w.heap.size + 1, 0, 0, 0⟩
  refine wpIn_rangeFunc fun fn _ => ?_
  let lo : Loop := { state := .ready, pending := none, fn := fn, tmps := a.tmps, params := ps, assign := as, body := body, defers := w.heap.size }
  have hle2 : (μ.add st.heap.next t1).Le ((μ.add st.heap.next t1).add (st.heap.next + 1) t2) := Inj.le_add hn2
  have hG2 := hG1.rel.push (w' := (w.alloc (.deferred (some []))).alloc (.loop lo)) (n := st.heap.next + 1) (a := .loop .ready none 0 st.tm st.sz ps as body st.heap.next) (o := .loop lo) (t := t2) hD1.ng hn2 (by simp [t2]) rfl ⟨rfl, rfl, rfl⟩
    ⟨lo, rfl, rfl, rfl, (hF.tm.mono hG1.le).mono hle2, rfl, rfl, rfl, hok1, hok2, rfl, t1, hle2 _ _ (Inj.add_same _ _ _), rfl⟩ rfl ((st.heap.push (.defr true)).push (.loop .ready none 0 st.tm st.sz ps as body st.heap.next)).get (fun b => by rw [Heap.get_push]; rfl)
  have hD2 : Dom ng ((μ.add st.heap.next t1).add (st.heap.next + 1) t2) ((st.heap.push (.defr true)).push (.loop .ready none 0 st.tm st.sz ps as body st.heap.next)) := hD1.push _ _
  have hm2 : ((μ.add st.heap.next t1).add (st.heap.next + 1) t2) (st.heap.next + 1) = some t2 := Inj.add_same _ _ _
  have hgr := eval_rel hF hg
  rw [hgv] at hgr
  generalize hgv' : a.eval g = g' at hgr
  cases hgr with
  | func _ _ _ fi' ca' hfi hca =>
  -- the call
  have hargs : VRels ((μ.add st.heap.next t1).add (st.heap.next + 1) t2) (first ++ #[Value.func (.yield (st.heap.next + 1)) #[] #[]] ++ captured).toList (fi' ++ #[Value.func (.yield (w.heap.size + 1)) #[] #[]] ++ ca').toList := by
    simp only [Array.toList_append]
    exact (((hfi.mono hG1.le).mono hle2).append (.cons _ _ _ _ (.yield _ t2 hm2) .nil)).append ((hca.mono hG1.le).mono hle2)
  have hc := call_sim hT hS hG2.rel hD2 hargs hcall
  have hbody : ∃ fn0, T.fn f = some fn0 ∧ fn0.body.isSome = true := by
    unfold callF bodyF at hcall
    split at hcall
    · rename_i fn' e' st1 hb
      split at hb
      · cases hb
      · rename_i fn0 hfn0
        split at hb
        · cases hb
        · rename_i c hc0; exact ⟨fn0, hfn0, by rw [hc0]; rfl⟩
    · cases hcall
  obtain ⟨fn0, hfn0, hb0⟩ := hbody
  obtain ⟨p1, p2, p3⟩ := hT.fn _ _ hfn0
  refine ⟨w.heap.size + 1, [{ target := .collected w.heap.size, args := #[] }], (w.alloc (.deferred (some []))).alloc (.loop lo), { target := .fn (.func f) ca', args := fi' ++ #[Value.func (.yield (w.heap.size + 1)) #[] #[]] }, (w.alloc (.deferred (some []))).alloc (.loop lo), f, fi' ++ #[Value.func (.yield (w.heap.size + 1)) #[] #[]] ++ ca', (w.alloc (.deferred (some []))).alloc (.loop lo), ?_, ?_, fun _ _ => wf_fn _ _, ?_, wf_depth _, CallsIn.mono hc ?_⟩
  · simp [Instr.enterLoop, WF, lo]
  · show (resolve a.eval (rangeCall g (w.heap.size + 1)) 0).run P _ = _
    simp only [resolve, rangeCall, hgv', Deferred.ofValue, Sem.run_pure]
    simp [Act.eval]
  · cases hbb : fn0.body with
    | none => simp [hbb] at hb0
    | some c =>
      simp only [invoke, callFunc, Sem.run_bind, run_program, Result.andThen_ok, p1, p2, hbb]
      rfl
  · rintro e1 w3 ⟨μ3, hp⟩
    have hret := hp.ret
    cases hret with
    | ret _ v' hv =>
    have hm3 : μ3 (st.heap.next + 1) = some t2 := hp.goes.le _ _ hm2
    have hm31 : μ3 st.heap.next = some t1 := hp.goes.le _ _ (hle2 _ _ (Inj.add_same _ _ _))
    obtain ⟨t3, lo3, t3', k1, k2, k3, k4, k5, k6, k7, k8, k9, k10, k11, k12, k13⟩ := hp.goes.rel.loop hl3
    rw [show (st.heap.push (.defr true)).next = st.heap.next + 1 from rfl, hm3] at k1
    cases k1
    have hg4 := loop_write (s' := .exhausted) (j' := j) (f' := fn2) hp.goes.rel hl3 hm3 k2 k11
    have hjeq : ({ lo3 with state := .exhausted, pending := j } : Loop) = { lo3 with state := .exhausted } := by rw [← k4]
    rw [hjeq] at hg4
    cases hnb : notBusy s with
    | false => simp [hnb] at h
    | true =>
      simp only [hnb, cond_true] at h
      rw [show (st.heap.push (.defr true)).next = st.heap.next + 1 from rfl, ← hst] at h
      have hnb2 : (lo3.state == LoopState.busy) = false := by rw [k3]; cases s <;> first | rfl | simp [notBusy] at hnb
      have hend : (Instr.endLoop (w.heap.size + 1)).run P w3 = .ok j (setB w3 (w.heap.size + 1) (.loop { lo3 with state := .exhausted })) := by
        have k2' : w3.heap[w.heap.size + 1]? = some (.loop lo3) := k2
        simp only [Instr.endLoop, Sem.run_bind, run_getLoop k2', Result.andThen_ok, hnb2, Bool.false_eq_true, if_false, run_setLoop k2', Sem.run_pure, k4]
      have hGall : Goes ng μ st.heap.get w μ3 (H3.put (st.heap.next + 1) (.loop .exhausted j fn2 tm2 sz2 ps2 as2 body2 df2)).get (setB w3 (w.heap.size + 1) (.loop { lo3 with state := .exhausted })) :=
        ((hG1.trans hG2).trans hp.goes).trans hg4
      have hFall : FrRel ng μ3 { st with defers := { target := .collected st.heap.next, args := #[] } :: st.defers, heap := H3.put (st.heap.next + 1) (.loop .exhausted j fn2 tm2 sz2 ps2 as2 body2 df2) }
          { a with defers := [{ target := .collected w.heap.size, args := #[] }] ++ a.defers } (setB w3 (w.heap.size + 1) (.loop { lo3 with state := .exhausted })) :=
        ⟨hF.tm.mono hGall.le, .cons _ _ _ _ (.mark _ t1 _ _ hm31) (hF.dfr.mono hGall.le), hGall.rel, hp.dom.put _ _⟩
      have hnx : Nxt μ st.heap μ3 H3 := ((Nxt.push _ _ _ _).trans (Nxt.push _ _ _ _)).trans hp.next
      refine ⟨j, _, hend, ?_⟩
      cases j with
      | none =>
        simp only [afterLoop, Option.some.injEq, Prod.mk.injEq] at h
        obtain ⟨rfl, rfl⟩ := h
        exact ⟨μ3, hGall, .normal, hFall, hnx.trans (.same rfl), rfl, rfl⟩
      | some c =>
        simp only [afterLoop] at h
        have hcok : codeOk ng c = true := by
          unfold jumpOk at k11
          split at k11
          · cases ‹some c = none›
          · rename_i e1; cases e1; rfl
          · rename_i e1; cases e1; rfl
          · cases k11
        refine wpIn_mono (hS c _ _ _ hcok h none μ3 _ _ (fun _ => rfl) hFall) ?_
        rintro e' a' w' ⟨μ', hq⟩
        exact ⟨μ', hGall.trans hq.goes, hq.exit, hq.fr, (hnx.trans (show Nxt μ3 H3 μ3 (H3.put (st.heap.next + 1) (.loop .exhausted (some c) fn2 tm2 sz2 ps2 as2 body2 df2)) from .same rfl)).trans hq.next, hq.rd, hq.sz⟩

end
end Go.Ab
end
section
namespace Go.Ab

structure NR (H H' : Heap) : Prop where
  le : H.next ≤ H'.next
  dead : ∀ b, b < H.next → H.get b = .dead → H'.get b = .dead

theorem NR.refl (H : Heap) : NR H H := ⟨Nat.le_refl _, fun _ _ h => h⟩
theorem NR.trans {H H' H'' : Heap} (h : NR H H') (h' : NR H' H'') : NR H H'' := ⟨Nat.le_trans h.le h'.le, fun b hb hd => h'.dead b (Nat.lt_of_lt_of_le hb h.le) (h.dead b hb hd)⟩
theorem NR.push (H : Heap) (a : AObj) : NR H (H.push a) := ⟨Nat.le_succ _, fun b hb hd => by rw [Heap.get_push, if_neg (by omega)]; exact hd⟩
theorem NR.put {H : Heap} {b : Nat} {a : AObj} (h : H.get b ≠ .dead ∨ a = .dead) : NR H (H.put b a) := ⟨Nat.le_refl _, fun j _ hd => by
  rw [Heap.get_put]
  split
  · rename_i e; subst e
    rcases h with h | h
    · exact absurd hd h
    · exact h
  · exact hd⟩

section
variable {P : Program} {T : Tab} {H : Heap} {ρ : Operand → Value} {o : Oper}

theorem storeC_NR {i : TInfo} {b off : Nat} {v : Value} {H' : Heap} (h : storeC H i b off v = some H') : NR H H' := by
  unfold storeC at h
  split at h
  · rename_i e c hb
    split at h
    · simp at h; subst h; exact .put (.inl (by rw [hb]; simp))
    · cases h
  · cases h

theorem updateC_NR {t : TypeId} {m k v : Value} {H' : Heap} (h : updateC T H t m k v = some H') : NR H H' := by
  unfold updateC at h
  repeat' (split at h)
  all_goals first
    | (cases h; done)
    | (simp only [Option.some.injEq] at h; subst h; rename_i hb _; exact .put (.inl (by rw [‹H.get _ = _›]; simp)))
    | (simp only [Option.some.injEq] at h; subst h; exact .put (.inl (by rw [‹H.get _ = _›]; simp)))

theorem deleteC_NR {t : TypeId} {m k : Value} {H' : Heap} (h : deleteC T H t m k = some H') : NR H H' := by
  unfold deleteC at h
  repeat' (split at h)
  all_goals first
    | (cases h; done)
    | (simp only [Option.some.injEq] at h; subst h; exact .refl _)
    | (simp only [Option.some.injEq] at h; subst h; exact .put (.inl (by rw [‹H.get _ = _›]; simp)))

theorem appendC_NR {ts : Array TypeId} {s x : Value} {v : Value} {H' : Heap} (h : appendC T H ts s x = some (.val v H')) : NR H H' := by
  unfold appendC at h
  repeat' (split at h)
  all_goals first
    | (cases h; done)
    | (simp only [Option.some.injEq, Out.val.injEq] at h; obtain ⟨_, rfl⟩ := h; exact .refl _)
    | (simp only [Option.some.injEq, Out.val.injEq] at h; obtain ⟨_, rfl⟩ := h; exact .push _ _)
    | (simp only [Option.some.injEq, Out.val.injEq] at h; obtain ⟨_, rfl⟩ := h; exact .put (.inl (by rw [‹H.get _ = _›]; simp)))
    | (simp only [Option.some.injEq, Out.val.injEq] at h; obtain ⟨_, rfl⟩ := h; exact (NR.put (.inr rfl)).trans (.push _ _))


theorem copyC_NR {ts : Array TypeId} {s x : Value} {out : Out} (h : copyC T H ts s x = some out) : ∃ v H', out = .val v H' ∧ NR H H' := by
  unfold copyC at h
  split at h
  · cases h
  split at h
  case h_2 => cases h
  split at h
  case h_2 => cases h
  split at h
  · split at h
    · simp only [Option.some.injEq] at h; exact ⟨_, _, h.symm, .refl _⟩
    · simp only [Option.some.injEq] at h; exact ⟨_, _, h.symm, .refl _⟩
    · cases h
  · simp only at h
    split at h
    · split at h
      · rename_i hb
        split at h
        · simp only [Option.some.injEq] at h; exact ⟨_, _, h.symm, .put (.inl (by rw [hb]; simp))⟩
        · cases h
      · cases h
    · cases h
  · cases h

theorem aeff_NR {v : Value} {H' : Heap} (h : aeff T ρ o H = some (.val v H')) : NR H H' := by
  unfold aeff at h
  split at h
  · split at h
    · rename_i b off i _ _
      cases hs : storeC H i b off _ with
      | none => rw [hs] at h; cases h
      | some H1 => rw [hs] at h; simp at h; obtain ⟨_, rfl⟩ := h; exact storeC_NR hs
    · cases h
  · rename_i t m k v0 _
    cases hs : updateC T H t (ρ m) (ρ k) (ρ v0) with
    | none => rw [hs] at h; cases h
    | some H1 => rw [hs] at h; simp at h; obtain ⟨_, rfl⟩ := h; exact updateC_NR hs
  · rename_i t m k v0 _
    cases hs : updateC T H t (ρ m) (ρ k) (ρ v0) with
    | none => rw [hs] at h; cases h
    | some H1 => rw [hs] at h; simp at h; obtain ⟨_, rfl⟩ := h; exact updateC_NR hs
  · split at h
    · split at h
      · rename_i hb
        split at h
        · simp at h; obtain ⟨_, rfl⟩ := h; exact .put (.inl (by rw [hb]; simp))
        · simp at h; obtain ⟨_, rfl⟩ := h; exact .refl _
      · cases h
    · cases h
  · split at h
    · split at h
      · split at h
        · simp at h; obtain ⟨_, rfl⟩ := h; exact .push _ _
        · cases h
      · cases h
    · cases h
  · split at h
    · unfold fnOf at h
      split at h
      · split at h
        · rename_i fn _
          cases hb : fn.body.isSome <;> rw [hb] at h <;> simp at h
        · cases h
      · simp at h
      · cases h
    · split at h
      · exact appendC_NR h
      · cases h
    · split at h
      · obtain ⟨v1, H1, e, hn⟩ := copyC_NR h
        cases e; exact hn
      · cases h
    · split at h
      · rename_i m k t _ _
        cases hs : deleteC T H t (ρ m) (ρ k) with
        | none => rw [hs] at h; cases h
        | some H1 => rw [hs] at h; simp at h; obtain ⟨_, rfl⟩ := h; exact deleteC_NR hs
      · cases h
    · repeat' (split at h)
      all_goals first | (cases h; done) | (simp at h; done)
    · cases h
  · split at h
    · unfold dfrOf at h
      split at h <;> simp at h
    · cases h
  · split at h <;> simp at h
  · cases h

theorem aop_NR {v : Value} {H' : Heap} (h : aop P T ρ o H = some (.val v H')) : NR H H' := by
  unfold aop at h
  split at h
  · cases hr : aread P T ρ o H with
    | none => simp [hr] at h
    | some v => simp [hr] at h; obtain ⟨_, rfl⟩ := h; exact .refl _
  · cases hr : aalloc T ρ o with
    | none => simp [hr] at h
    | some p => simp [hr] at h; obtain ⟨_, rfl⟩ := h; exact .push _ _
  · exact aeff_NR h

def SNR (rec : Rec) : Prop := ∀ c st e st', rec c st = some (e, st') → NR st.heap st'.heap

variable {rec : Rec}

theorem bodyF_NR (hS : SNR rec) {f : FuncId} {args : Array Value} {fn : Func} {e : Exit} {st : St} (h : bodyF T rec f args H = some (fn, e, st)) : NR H st.heap := by
  unfold bodyF at h
  split at h
  · cases h
  split at h
  · cases h
  split at h
  case h_2 => cases h
  rename_i hrec
  simp only [Option.some.injEq, Prod.mk.injEq] at h
  obtain ⟨_, rfl, rfl⟩ := h
  exact hS _ _ _ _ hrec

theorem deferF_NR (hS : SNR rec) {f : FuncId} {args : Array Value} {H' : Heap} (h : deferF T rec f args H = some H') : NR H H' := by
  unfold deferF at h
  split at h
  case h_2 => cases h
  rename_i hb
  have := bodyF_NR hS hb
  repeat' (split at h)
  all_goals first | (cases h; done) | (simp only [Option.some.injEq] at h; subst h; exact this)

theorem leaveF_NR (hS : SNR rec) : ∀ (ds : List Deferred) (H H' : Heap), leaveF T rec ds H = some H' → NR H H'
  | [], H, H', h => by simp [leaveF] at h; subst h; exact .refl _
  | d :: ds, H, H', h => by
    simp only [leaveF] at h
    split at h
    · split at h
      · rename_i hb
        exact (NR.put (.inl (by rw [hb]; simp))).trans (leaveF_NR hS ds _ _ h)
      · cases h
    · split at h
      · rename_i hd
        exact (deferF_NR hS hd).trans (leaveF_NR hS ds _ _ h)
      · cases h
    · cases h

theorem callF_NR (hS : SNR rec) {f : FuncId} {args : Array Value} {r : Ret} {H' : Heap} (h : callF T rec f args H = some (r, H')) : NR H H' := by
  unfold callF at h
  split at h
  case h_2 => cases h
  rename_i hb
  have h0 := bodyF_NR hS hb
  split at h
  · split at h
    · rename_i h1
      have := leaveF_NR hS _ _ _ h1
      split at h
      · simp at h; obtain ⟨_, rfl⟩ := h; exact h0.trans this
      · cases h
    · cases h
  · split at h
    · rename_i h1
      have := leaveF_NR hS _ _ _ h1
      split at h
      · simp at h; obtain ⟨_, rfl⟩ := h; exact h0.trans this
      · cases h
    · cases h
  · split at h
    · simp at h; obtain ⟨_, rfl⟩ := h; exact h0
    · cases h
  · cases h

theorem roundF_NR (hS : SNR rec) {l : Nat} {args : Array Value} {v : Value} {H' : Heap} (h : roundF rec l args H = some (v, H')) : NR H H' := by
  unfold roundF at h
  split at h
  case h_2 => cases h
  split at h
  case isFalse => cases h
  split at h
  · cases h
  split at h
  case h_2 => cases h
  rename_i st1 hrec1
  have n1 := hS _ _ _ _ hrec1
  split at h
  case h_2 => cases h
  rename_i hb1
  split at h
  case h_2 => cases h
  rename_i hrec2
  have n2 := hS _ _ _ _ hrec2
  split at h
  case h_2 => cases h
  rename_i hb2
  simp at h
  obtain ⟨_, rfl⟩ := h
  exact ((n1.trans (NR.put (.inl (by rw [hb1]; simp)))).trans n2).trans (NR.put (.inl (by rw [hb2]; simp)))

theorem seqOps_NR (hS : SNR rec) {ops : Array Oper} : ∀ (rest : List Oper) (st : St) (e : Exit) (st' : St), seqOps P T rec ops rest st = some (e, st') → NR st.heap st'.heap
  | [], st, e, st', h => by simp [seqOps] at h; obtain ⟨_, rfl⟩ := h; exact .refl _
  | o :: rest, st, e, st', h => by
    simp only [seqOps] at h
    cases hd : dstOk st.sz o.dst with
    | false => simp [hd] at h
    | true =>
    simp only [hd, cond_true] at h
    cases hw : wantedC ops st.tm o with
    | false =>
      simp only [hw, cond_false] at h
      have := seqOps_NR hS rest _ _ _ h
      exact this
    | true =>
    simp only [hw, cond_true] at h
    split at h
    · rename_i hop
      have n1 := aop_NR hop
      have n2 := seqOps_NR hS rest _ _ _ h
      exact n1.trans n2
    · split at h
      · rename_i hc
        have n1 := callF_NR hS hc
        have n2 := seqOps_NR hS rest _ _ _ h
        exact n1.trans n2
      · rename_i hc
        simp at h; obtain ⟨_, rfl⟩ := h
        exact callF_NR hS hc
      · cases h
    · split at h
      · rename_i hc
        have n1 := roundF_NR hS hc
        have n2 := seqOps_NR hS rest _ _ _ h
        exact n1.trans n2
      · cases h
    · cases hr : st.rd with
      | true => simp [hr] at h
      | false => simp only [hr, cond_false] at h; have := seqOps_NR hS rest _ _ _ h; exact this
    · simp at h; obtain ⟨_, rfl⟩ := h; exact .refl _
    · cases h

theorem rangeF_NR (hS : SNR rec) {g : Operand} {ps : Array Tmp} {as body : Code} {st st' : St} {e : Exit} (h : rangeF T rec g ps as body st = some (e, st')) : NR st.heap st'.heap := by
  unfold rangeF at h
  cases hr : st.rd with
  | true => simp [hr] at h
  | false =>
  simp only [hr, cond_false] at h
  split at h
  case h_2 => cases h
  split at h
  case h_2 => cases h
  rename_i hc
  have n1 := callF_NR hS hc
  split at h
  case h_2 => cases h
  rename_i hb
  rename_i s j _ _ _ _ _ _ _
  cases hn : notBusy s with
  | false => simp [hn] at h
  | true =>
  simp only [hn, cond_true] at h
  have n2 := fun a => (((NR.push st.heap (.defr true)).trans (.push _ _)).trans n1).trans (NR.put (b := (st.heap.push (.defr true)).next) (a := a) (.inl (by rw [hb]; simp)))
  cases j with
  | none => simp [afterLoop] at h; obtain ⟨_, rfl⟩ := h; exact n2 _
  | some c => simp only [afterLoop] at h; exact (n2 _).trans (hS _ _ _ _ h)
end
end Go.Ab
end
section
namespace Go.Ab

/-! ### the order -/
def bstep (acc : Array Nat) (o : Oper) : Nat := o.after.foldl (fun s e => if Region.binds .any e then s ||| 2 ^ e.on ||| acc.getD e.on 0 else s) 0

theorem before_eq (ops : Array Oper) : Region.before ops = ops.toList.foldl (fun acc o => acc.push (bstep acc o)) #[] := by
  unfold Region.before
  rw [← Array.foldl_toList]
  rfl

theorem bfold_size : ∀ (l : List Oper) (acc : Array Nat), (l.foldl (fun acc o => acc.push (bstep acc o)) acc).size = acc.size + l.length
  | [], acc => rfl
  | o :: l, acc => by
    simp only [List.foldl_cons, List.length_cons]
    rw [bfold_size l]; simp; omega

theorem bfold_old : ∀ (l : List Oper) (acc : Array Nat) (i : Nat), i < acc.size → (l.foldl (fun acc o => acc.push (bstep acc o)) acc).getD i 0 = acc.getD i 0
  | [], acc, i, _ => rfl
  | o :: l, acc, i, h => by
    simp only [List.foldl_cons]
    rw [bfold_old l _ i (by simp; omega)]
    simp [Array.getD_eq_getD_getElem?, Array.getElem?_push, Nat.ne_of_lt h]

theorem bfold_new : ∀ (l : List Oper) (acc : Array Nat) (k : Nat) (o : Oper), l[k]? = some o →
    ∃ acc', (l.foldl (fun acc o => acc.push (bstep acc o)) acc).getD (acc.size + k) 0 = bstep acc' o ∧ acc'.size = acc.size + k ∧ ∀ i, i < acc'.size → acc'.getD i 0 = (l.foldl (fun acc o => acc.push (bstep acc o)) acc).getD i 0
  | [], acc, k, o, h => by simp at h
  | x :: l, acc, 0, o, h => by
    simp at h; subst h
    refine ⟨acc, ?_, rfl, fun i hi => ?_⟩
    · simp only [List.foldl_cons]
      rw [bfold_old l _ _ (by simp)]
      simp [Array.getD_eq_getD_getElem?]
    · simp only [List.foldl_cons]
      rw [bfold_old l _ i (by simp; omega)]
      simp [Array.getD_eq_getD_getElem?, Array.getElem?_push, Nat.ne_of_lt hi]
  | x :: l, acc, k + 1, o, h => by
    simp at h
    obtain ⟨acc', h1, h2, h3⟩ := bfold_new l (acc.push (bstep acc x)) k o h
    refine ⟨acc', ?_, by rw [h2]; simp; omega, fun i hi => ?_⟩
    · simp only [List.foldl_cons]
      rw [← h1]
      congr 1
      simp; omega
    · simp only [List.foldl_cons]
      exact h3 i hi

theorem bstep_bit (acc : Array Nat) (o : Oper) (j : Nat) (h : bit (bstep acc o) j = true) : ∃ e ∈ o.after.toList, Region.binds .any e = true ∧ (e.on = j ∨ bit (acc.getD e.on 0) j = true) := by
  unfold bstep at h
  rw [← Array.foldl_toList] at h
  have key : ∀ (l : List Edge) (s : Nat), bit (l.foldl (fun s e => if Region.binds .any e then s ||| 2 ^ e.on ||| acc.getD e.on 0 else s) s) j = true →
      bit s j = true ∨ ∃ e ∈ l, Region.binds .any e = true ∧ (e.on = j ∨ bit (acc.getD e.on 0) j = true) := by
    intro l
    induction l with
    | nil => intro s h; exact .inl h
    | cons e l ih =>
      intro s h
      simp only [List.foldl_cons] at h
      rcases ih _ h with h | ⟨e', h1, h2⟩
      · by_cases hb : Region.binds .any e = true
        · simp only [hb, if_true, bit, Nat.testBit_or, Nat.testBit_two_pow, Bool.or_eq_true, decide_eq_true_eq] at h
          rcases h with (h | h) | h
          · exact .inl h
          · exact .inr ⟨e, by simp, hb, .inl h⟩
          · exact .inr ⟨e, by simp, hb, .inr h⟩
        · simp only [hb] at h
          exact .inl h
      · exact .inr ⟨e', by simp [h1], h2⟩
  rcases key _ _ h with h | h
  · simp [bit] at h
  · exact h

/-- who is ahead: by an edge, or through one -/
theorem before_bit {ops : Array Oper} {i j : Nat} (h : bit ((Region.before ops).getD i 0) j = true) :
    ∃ o, ops[i]? = some o ∧ ∃ e ∈ o.after.toList, Region.binds .any e = true ∧ (e.on = j ∨ bit ((Region.before ops).getD e.on 0) j = true) := by
  rw [before_eq] at h ⊢
  cases ho : ops[i]? with
  | none =>
    have hs := bfold_size ops.toList #[]
    have hi : ops.size ≤ i := Array.getElem?_eq_none_iff.1 ho
    rw [Array.getD_eq_getD_getElem?, Array.getElem?_eq_none (by rw [hs]; simpa using hi)] at h
    simp [bit] at h
  | some o =>
    obtain ⟨acc', h1, h2, h3⟩ := bfold_new ops.toList #[] i o (by simpa using ho)
    have e0 : (#[] : Array Nat).size + i = i := by simp
    rw [e0] at h1 h2
    rw [h1] at h
    obtain ⟨e, he, hb, hj⟩ := bstep_bit acc' o j h
    refine ⟨o, rfl, e, he, hb, ?_⟩
    rcases hj with hj | hj
    · exact .inl hj
    · right
      by_cases hlt : e.on < acc'.size
      · rw [h3 _ hlt] at hj; exact hj
      · rw [Array.getD_eq_getD_getElem?, Array.getElem?_eq_none (by omega)] at hj
        simp [bit] at hj

theorem rank_edge {m : Region.Mode} {r : Nat → Nat} {ops : Array Oper} (h : rankOk m r ops = true) {i : Nat} {o : Oper} (ho : ops[i]? = some o) {e : Edge} (he : e ∈ o.after.toList) (hb : Region.binds m e = true) : e.on < ops.size ∧ r e.on < r i := by
  unfold rankOk at h
  rw [List.all_eq_true] at h
  have hi : i < ops.size := (Array.getElem?_eq_some_iff.1 ho).1
  have h1 := h i (by simpa using hi)
  rw [ho] at h1
  simp only [List.all_eq_true] at h1
  have h2 := h1 e he
  simp only [hb, Bool.not_true, Bool.false_or, Bool.and_eq_true] at h2
  exact ⟨Nat.le_of_ble_eq_true h2.1, Nat.le_of_ble_eq_true h2.2⟩

theorem binds_any {m : Region.Mode} {e : Edge} (h : Region.binds .any e = true) : Region.binds m e = true := by
  unfold Region.binds at h ⊢
  split at h
  · simp at h
  · simp at h
  · rfl

theorem before_lt {ops : Array Oper} (h : orderOK ops = true) : ∀ {i j : Nat}, bit ((Region.before ops).getD i 0) j = true → j < i := by
  simp only [orderOK, Bool.and_eq_true] at h
  intro i
  induction i using Nat.strongRecOn with
  | _ i ih =>
    intro j hj
    obtain ⟨o, ho, e, he, hb, hj'⟩ := before_bit hj
    have h1 := (rank_edge h.1 ho he (binds_any hb)).2
    rcases hj' with rfl | hj'
    · exact h1
    · have := ih e.on h1 hj'; omega

/-! ### an effect, as the model takes it -/
theorem effR_NR {T : Tab} {rec : Rec} (hS : SNR rec) {ρ : Operand → Value} {o : Oper} {H H' : Heap} {r : Ret} (h : effR T rec ρ o H = some (r, H')) : NR H H' := by
  unfold effR at h
  split at h
  · rename_i hop; simp at h; obtain ⟨_, rfl⟩ := h; exact aeff_NR hop
  · exact callF_NR hS h
  · rename_i l args _
    cases hr : roundF rec l args H with
    | none => simp [hr] at h
    | some p => simp [hr] at h; obtain ⟨_, rfl⟩ := h; exact roundF_NR hS hr
  · cases h

structure EffV (P : Program) (T : Tab) (ng : Nat) (ρ : Operand → Value) (o : Oper) (H : Heap) (v : Value) (H' : Heap) : Prop where
  nr : NR H H'
  sim : ∀ (rd : Option Nat) (μ : Inj) (a : Act) (w : World) (K : Act → World → Prop) (Q : Exit → Act → World → Prop), Rel ng μ H.get w → Dom ng μ H → (∀ x ∈ o.op.operands.toList, VRel μ (ρ x) (a.eval x)) →
    (∀ μ' v' w', VRel μ' v v' → Goes ng μ H.get w μ' H'.get w' → Dom ng μ' H' → Nxt μ H μ' H' → K (a.put o.dst v') w') → o.uponIn (WF rd) 0 P a K Q ((o.semAt (WF rd).round a.eval).run P w)

/-- a call, as the model takes it -/
structure CallV (P : Program) (ng : Nat) (f : FuncId) (args : Array Value) (H : Heap) (r : Ret) (H' : Heap) : Prop where
  nr : NR H H'
  sim : ∀ (μ : Inj) (w : World) (args' : Array Value), Rel ng μ H.get w → Dom ng μ H → VRels μ args.toList args'.toList → CallsIn (WF none) 0 P f args' w fun e w' => ∃ μ', CPost ng μ H w r H' μ' e w'

theorem CallV.of {P : Program} {T : Tab} {ng : Nat} (hT : T.Ok P ng) {rec : Rec} (hS : Sound P ng rec) (hN : SNR rec) {f : FuncId} {args : Array Value} {H : Heap} {r : Ret} {H' : Heap} (h : callF T rec f args H = some (r, H')) : CallV P ng f args H r H' :=
  ⟨callF_NR hN h, fun _ _ _ hR hD ha => call_sim hT hS hR hD ha h⟩

theorem EffV.val {P : Program} {T : Tab} {ng : Nat} (hT : T.Ok P ng) {ρ : Operand → Value} {o : Oper} {H : Heap} {v : Value} {H' : Heap} (hk : kindOf T o.op = .eff) (h : aeff T ρ o H = some (.val v H')) : EffV P T ng ρ o H v H' := by
  refine ⟨aeff_NR h, fun rd μ a w K Q hR hD hρ fin => ?_⟩
  have hop : aop P T ρ o H = some (.val v H') := by unfold aop; rw [hk]; exact h
  rw [semAt_eq (.inr (aop_notDefer hop (by simp)))]
  obtain ⟨v', w', μ', hrun, hg, hv, hD', hn⟩ := aeff_sim (P := P) (w := w) hT hR hD hρ h
  have := fin μ' v' w' hv hg hD' hn
  rcases hrun with hrun | ⟨rfl, hrun⟩ <;> (rw [hrun]; exact this)

theorem EffV.call {P : Program} {T : Tab} {ng : Nat} (hT : T.Ok P ng) {ρ : Operand → Value} {o : Oper} {H : Heap} {v : Value} {H' : Heap} (hk : kindOf T o.op = .eff) {f : FuncId} {args : Array Value} (h : aeff T ρ o H = some (.call f args))
    (hC : CallV P ng f args H (.ret v) H') : EffV P T ng ρ o H v H' := by
  refine ⟨hC.nr, fun rd μ a w K Q hR hD hρ fin => ?_⟩
  have hop : aop P T ρ o H = some (.call f args) := by unfold aop; rw [hk]; exact h
  rw [semAt_eq (.inr (aop_notDefer hop (by simp)))]
  obtain ⟨args', fn, hrun, ha, _⟩ := aeff_sim (P := P) (w := w) hT hR hD hρ h
  rw [hrun]
  refine ⟨wf_depth _, CallsIn.mono (callsIn_wf (hC.sim μ w args' hR hD ha)) ?_⟩
  rintro x1 w1 ⟨μ', hp⟩
  have hret := hp.ret
  cases hret with
  | ret _ v' hv => exact fin μ' v' w1 hv hp.goes hp.dom hp.next

theorem EffV.of {P : Program} {T : Tab} {ng : Nat} (hT : T.Ok P ng) {rec : Rec} (hS : Sound P ng rec) (hN : SNR rec) {ρ : Operand → Value} {o : Oper} {H : Heap} {v : Value} {H' : Heap} (hk : kindOf T o.op = .eff) (e2 : effR T rec ρ o H = some (.ret v, H')) : EffV P T ng ρ o H v H' := by
  have hnr := effR_NR hN e2
  unfold effR at e2
  cases hae : aeff T ρ o H with
  | none => rw [hae] at e2; cases e2
  | some out =>
  rw [hae] at e2
  cases out with
  | val v1 H1 =>
    simp only [Option.some.injEq, Prod.mk.injEq, Ret.ret.injEq] at e2
    obtain ⟨rfl, rfl⟩ := e2
    exact .val hT hk hae
  | call f args => exact .call hT hk hae (.of hT hS hN e2)
  | round l args =>
    refine ⟨hnr, fun rd μ a w K Q hR hD hρ fin => ?_⟩
    have hop : aop P T ρ o H = some (.round l args) := by unfold aop; rw [hk]; exact hae
    rw [semAt_eq (.inr (aop_notDefer hop (by simp)))]
    obtain ⟨args', t, hm, hrun, ha⟩ := aeff_sim (P := P) (w := w) hT hR hD hρ hae
    simp only at e2
    cases hro : roundF rec l args H with
    | none => rw [hro] at e2; cases e2
    | some q =>
      obtain ⟨v1, H1⟩ := q
      rw [hro] at e2
      simp only [Option.map_some, Option.some.injEq, Prod.mk.injEq, Ret.ret.injEq] at e2
      obtain ⟨rfl, rfl⟩ := e2
      obtain ⟨f, tmps, as, body, hy, hRr⟩ := round_sim hS hR hD hm ha rd hro
      rw [hrun, hy]
      refine ⟨wf_depth _, RoundIn.mono hRr ?_⟩
      rintro x1 w1 ⟨μ', hp⟩
      have hret := hp.ret
      cases hret with
      | ret _ v' hv => exact fin μ' v' w1 hv hp.goes hp.dom hp.next
  | dfr d => cases e2
  | pan v => cases e2

/-! ### stages -/
def Eff (T : Tab) (ops : Array Oper) (S : Nat → DS) (k : Nat) : Prop := ∃ o, ops[k]? = some o ∧ wantedC ops (S k).tm o = true ∧ kindOf T o.op = .eff

/-- one operation, as 'drawOps' takes it -/
inductive DStep (P : Program) (T : Tab) (ng : Nat) (ops : Array Oper) (B : Array Nat) (sz base : Nat) (o : Oper) (s : DS) : Value → DS → Prop where
  | skip (hd : dstOk sz o.dst = true) (hw : wantedC ops s.tm o = false) : DStep P T ng ops B sz base o s undef { s with i := s.i + 1, tm := putT s.tm o.dst undef }
  | read (hd : dstOk sz o.dst = true) (hw : wantedC ops s.tm o = true) (hk : kindOf T o.op = .read) (v : Value) (hv : aread P T (evalT s.tm) o (withA s.G s.inc base (B.getD s.i 0) s.objs) = some v)
      (hs : stillBack P T (evalT s.tm) o v base (B.getD s.i 0) s.effs s.objs s.hist = true) : DStep P T ng ops B sz base o s v { s with i := s.i + 1, tm := putT s.tm o.dst v, rds := (s.i, s.tm, o, v) :: s.rds }
  | alloc (hd : dstOk sz o.dst = true) (hw : wantedC ops s.tm o = true) (hk : kindOf T o.op = .alloc) (p : AObj × (Nat → Value)) (hv : aalloc T (evalT s.tm) o = some p) :
      DStep P T ng ops B sz base o s (p.2 (base + s.i)) { s with i := s.i + 1, tm := putT s.tm o.dst (p.2 (base + s.i)), objs := (s.i, p.1) :: s.objs }
  | eff (hd : dstOk sz o.dst = true) (hw : wantedC ops s.tm o = true) (hk : kindOf T o.op = .eff) (he : s.effs &&& B.getD s.i 0 = s.effs) (v : Value) (H : Heap) (hv : EffV P T ng (evalT s.tm) o (withA s.G s.inc base (B.getD s.i 0) s.objs) v H)
      (hs : stillOn P T B H (s.inc ||| B.getD s.i 0) base (B.getD s.i 0) s.objs s.rds = true) :
      DStep P T ng ops B sz base o s v { s with i := s.i + 1, tm := putT s.tm o.dst v, G := H, inc := s.inc ||| B.getD s.i 0, effs := s.effs ||| 2 ^ s.i, hist := (s.G, s.inc, s.effs) :: s.hist }

section
variable {P : Program} {T : Tab} {rec : Rec} {ng : Nat} {ops : Array Oper} {B : Array Nat} {sz base : Nat}

theorem drawOps_chain (hE : ∀ ρ o H v H', kindOf T o.op = .eff → effR T rec ρ o H = some (.ret v, H') → EffV P T ng ρ o H v H') : ∀ (rest : List Oper) (s s' : DS), drawOps P T rec ops B sz base rest s = some s' →
    ∃ (S : Nat → DS) (val : Nat → Value), S 0 = s ∧ S rest.length = s' ∧ ∀ k o, rest[k]? = some o → DStep P T ng ops B sz base o (S k) (val k) (S (k + 1))
  | [], s, s', h => by
    simp [drawOps] at h; subst h
    exact ⟨fun _ => s, fun _ => undef, rfl, rfl, fun k o hk => by simp at hk⟩
  | o :: rest, s, s', h => by
    have glue : ∀ (v : Value) (s1 : DS), DStep P T ng ops B sz base o s v s1 → drawOps P T rec ops B sz base rest s1 = some s' →
        ∃ (S : Nat → DS) (val : Nat → Value), S 0 = s ∧ S (o :: rest).length = s' ∧ ∀ k o', (o :: rest)[k]? = some o' → DStep P T ng ops B sz base o' (S k) (val k) (S (k + 1)) := by
      intro v s1 hst h1
      obtain ⟨S, val, e0, e1, hS⟩ := drawOps_chain hE rest s1 s' h1
      refine ⟨fun k => match k with | 0 => s | k + 1 => S k, fun k => match k with | 0 => v | k + 1 => val k, rfl, e1, fun k o' hk => ?_⟩
      cases k with
      | zero => simp at hk; subst hk; show DStep P T ng ops B sz base o s v (S 0); rw [e0]; exact hst
      | succ k => simp at hk; exact hS k o' hk
    simp only [drawOps] at h
    cases hd : dstOk sz o.dst with
    | false => simp [hd] at h
    | true =>
    simp only [hd, cond_true] at h
    cases hw : wantedC ops s.tm o with
    | false =>
      simp only [hw, cond_false] at h
      exact glue _ _ (.skip hd hw) h
    | true =>
    simp only [hw, cond_true] at h
    split at h
    · rename_i hk
      split at h
      · cases h
      · rename_i v hv
        cases hs : stillBack P T (evalT s.tm) o v base (B.getD s.i 0) s.effs s.objs s.hist with
        | false => simp only [hs, cond_false] at h; cases h
        | true => simp only [hs, cond_true] at h; exact glue _ _ (.read hd hw hk v hv hs) h
    · rename_i hk
      split at h
      · cases h
      · rename_i p hv
        exact glue _ _ (.alloc hd hw hk p hv) h
    · rename_i hk
      cases he : Nat.beq (s.effs &&& B.getD s.i 0) s.effs with
      | false => simp only [he, cond_false] at h; cases h
      | true =>
      simp only [he, cond_true] at h
      split at h
      · rename_i v H hv
        cases hs : stillOn P T B H (s.inc ||| B.getD s.i 0) base (B.getD s.i 0) s.objs s.rds with
        | false => simp only [hs, cond_false] at h; cases h
        | true => simp only [hs, cond_true] at h; exact glue _ _ (.eff hd hw hk ((beq_iff _ _).1 he) v H (hE _ _ _ _ _ hk hv) hs) h
      · cases h

/-! ### the new blocks of a stage -/
def actO (base inc : Nat) (Q : Nat → Bool) (b : Nat) : List (Nat × AObj) → Option AObj
  | [] => none
  | p :: r => if Q p.1 = true ∧ bit inc p.1 = false ∧ b = base + p.1 then some p.2 else actO base inc Q b r

theorem withA_get (G : Heap) (inc base msk : Nat) (b : Nat) : ∀ objs : List (Nat × AObj), (withA G inc base msk objs).get b = (actO base inc (bit msk) b objs).getD (G.get b)
  | [] => rfl
  | p :: r => by
    simp only [withA, actO]
    cases h1 : bit msk p.1 with
    | false => simp [withA_get G inc base msk b r]
    | true =>
      cases h2 : bit inc p.1 with
      | true => simp [withA_get G inc base msk b r]
      | false =>
        simp only [Bool.and_true, Bool.not_false, cond_true, Heap.get_put, true_and]
        by_cases h3 : b = base + p.1
        · simp [h3]
        · simp [h3, withA_get G inc base msk b r]

theorem withA_next (G : Heap) (inc base msk : Nat) : ∀ objs : List (Nat × AObj), (withA G inc base msk objs).next = G.next
  | [] => rfl
  | p :: r => by
    simp only [withA]
    cases bit msk p.1 && !bit inc p.1 with
    | false => simp [withA_next G inc base msk r]
    | true => simp [withA_next G inc base msk r]

theorem actO_some {base inc : Nat} {Q : Nat → Bool} {b : Nat} {x : AObj} : ∀ {objs : List (Nat × AObj)}, actO base inc Q b objs = some x → ∃ p ∈ objs, Q p.1 = true ∧ bit inc p.1 = false ∧ b = base + p.1 ∧ p.2 = x
  | [], h => by simp [actO] at h
  | p :: r, h => by
    simp only [actO] at h
    split at h
    · rename_i hc; simp at h; exact ⟨p, by simp, hc.1, hc.2.1, hc.2.2, h⟩
    · obtain ⟨q, h1, h2⟩ := actO_some h; exact ⟨q, by simp [h1], h2⟩

theorem actO_none {base inc : Nat} {Q : Nat → Bool} {b : Nat} : ∀ {objs : List (Nat × AObj)}, actO base inc Q b objs = none → ∀ p ∈ objs, Q p.1 = true → bit inc p.1 = false → b ≠ base + p.1
  | [], _, p, hp => by simp at hp
  | q :: r, h, p, hp => by
    simp only [actO] at h
    split at h
    · cases h
    · rename_i hc
      intro h1 h2 h3
      simp at hp
      rcases hp with rfl | hp
      · exact hc ⟨h1, h2, h3⟩
      · exact actO_none h p hp h1 h2 h3

theorem aalloc_live {ρ : Operand → Value} {o : Oper} {p : AObj × (Nat → Value)} (h : aalloc T ρ o = some p) : p.1 ≠ .dead := by
  unfold aalloc at h
  repeat' (split at h)
  all_goals first | (cases h; done) | (simp only [Option.some.injEq] at h; subst h; simp)

end
end Go.Ab
end
section
namespace Go.Ab

/-- a run through the operations, in the order of the text -/
structure Run (P : Program) (T : Tab) (ng : Nat) (ops : Array Oper) (B : Array Nat) (sz : Nat) (st : St) (S : Nat → DS) (val : Nat → Value) : Prop where
  init : S 0 = { i := 0, tm := st.tm, G := st.heap.skip ops.size, inc := 0, effs := 0, hist := [], objs := [], rds := [] }
  step : ∀ k o, ops[k]? = some o → DStep P T ng ops B sz st.heap.next o (S k) (val k) (S (k + 1))

section
variable {P : Program} {T : Tab} {ng : Nat} {ops : Array Oper} {B : Array Nat} {sz : Nat} {st : St} {S : Nat → DS} {val : Nat → Value}

theorem Run.idx (h : Run P T ng ops B sz st S val) : ∀ k, k ≤ ops.size → (S k).i = k
  | 0, _ => by rw [h.init]
  | k + 1, hk => by
    have ho : ops[k]? = some ops[k] := by simp [show k < ops.size by omega]
    have := h.step k _ ho
    have ih := h.idx k (by omega)
    generalize S (k + 1) = s' at *
    generalize val k = v at *
    cases this <;> simp [ih]

theorem Run.tm (h : Run P T ng ops B sz st S val) {k : Nat} {o : Oper} (ho : ops[k]? = some o) : (S (k + 1)).tm = putT (S k).tm o.dst (val k) ∧ dstOk sz o.dst = true := by
  have := h.step k o ho
  generalize S (k + 1) = s' at *
  generalize val k = v at *
  cases this with
  | skip hd hw => exact ⟨rfl, hd⟩
  | read hd hw hk hv hs => exact ⟨rfl, hd⟩
  | alloc hd hw hk p hv => exact ⟨rfl, hd⟩
  | eff hd hw hk he v H hv hs => exact ⟨rfl, hd⟩

theorem Run.stay (h : Run P T ng ops B sz st S val) {k : Nat} (hk : k < ops.size) (hn : ¬ Eff T ops S k) : (S (k + 1)).G = (S k).G ∧ (S (k + 1)).inc = (S k).inc ∧ (S (k + 1)).effs = (S k).effs ∧ (S (k + 1)).hist = (S k).hist := by
  have ho : ops[k]? = some ops[k] := by simp [hk]
  have := h.step k _ ho
  generalize S (k + 1) = s' at *
  generalize val k = v at *
  cases this with
  | eff hd hw hk he v H hv hs => exact absurd ⟨_, ho, hw, hk⟩ hn
  | _ => exact ⟨rfl, rfl, rfl, rfl⟩

/-- what an effect does -/
theorem Run.eff (h : Run P T ng ops B sz st S val) {k : Nat} (hk : k < ops.size) (hn : Eff T ops S k) :
    ∃ o, ops[k]? = some o ∧ wantedC ops (S k).tm o = true ∧ kindOf T o.op = .eff ∧ (S k).effs &&& B.getD k 0 = (S k).effs ∧
      EffV P T ng (evalT (S k).tm) o (withA (S k).G (S k).inc st.heap.next (B.getD k 0) (S k).objs) (val k) (S (k + 1)).G ∧
      stillOn P T B (S (k + 1)).G ((S k).inc ||| B.getD k 0) st.heap.next (B.getD k 0) (S k).objs (S k).rds = true ∧
      (S (k + 1)).inc = (S k).inc ||| B.getD k 0 ∧ (S (k + 1)).effs = (S k).effs ||| 2 ^ k ∧ (S (k + 1)).hist = ((S k).G, (S k).inc, (S k).effs) :: (S k).hist ∧ (S (k + 1)).objs = (S k).objs ∧ (S (k + 1)).rds = (S k).rds := by
  obtain ⟨o, ho, hw, hke⟩ := hn
  have hst := h.step k o ho
  have hi := h.idx k (by omega)
  generalize S (k + 1) = s' at *
  generalize val k = v at *
  cases hst with
  | skip hd hw' => rw [hw] at hw'; cases hw'
  | read hd hw' hk' hv hs => rw [hke] at hk'; cases hk'
  | alloc hd hw' hk' p hv => rw [hke] at hk'; cases hk'
  | eff hd hw' hk' he v H hv hs =>
    rw [hi] at he hv hs
    exact ⟨o, ho, hw, hke, he, hv, hs, by rw [hi], by rw [hi], rfl, rfl, rfl⟩

theorem Run.effs (h : Run P T ng ops B sz st S val) (j : Nat) : ∀ k, k ≤ ops.size → (bit (S k).effs j = true ↔ j < k ∧ Eff T ops S j)
  | 0, _ => by rw [h.init]; simp [bit]
  | k + 1, hk => by
    have ih := h.effs j k (by omega)
    by_cases he : Eff T ops S k
    · obtain ⟨o, ho, hw, hke, e1, e2, e3, e4, e5, e6⟩ := h.eff (by omega) he
      rw [e5]
      simp only [bit, Nat.testBit_or, Nat.testBit_two_pow, Bool.or_eq_true, decide_eq_true_eq]
      rw [show Nat.testBit (S k).effs j = bit (S k).effs j from rfl, ih]
      constructor
      · rintro (⟨h1, h2⟩ | rfl)
        · exact ⟨by omega, h2⟩
        · exact ⟨by omega, he⟩
      · rintro ⟨h1, h2⟩
        by_cases hjk : j = k
        · exact .inr hjk.symm
        · exact .inl ⟨by omega, h2⟩
    · obtain ⟨e1, e2, e3, e4⟩ := h.stay (by omega) he
      rw [e3, ih]
      constructor
      · rintro ⟨h1, h2⟩; exact ⟨by omega, h2⟩
      · rintro ⟨h1, h2⟩
        have : j ≠ k := fun e => he (e ▸ h2)
        exact ⟨by omega, h2⟩

/-- effects stand in a row -/
theorem Run.chain (h : Run P T ng ops B sz st S val) {j k : Nat} (hk : k < ops.size) (hjk : j < k) (hj : Eff T ops S j) (he : Eff T ops S k) : bit (B.getD k 0) j = true := by
  obtain ⟨o, ho, hw, hke, e1, _⟩ := h.eff hk he
  have hb := (h.effs j k (by omega)).2 ⟨hjk, hj⟩
  have : bit ((S k).effs &&& B.getD k 0) j = true := by rw [e1]; exact hb
  simp only [bit, Nat.testBit_and, Bool.and_eq_true] at this
  exact this.2

theorem Run.inc (h : Run P T ng ops B sz st S val) (j : Nat) : ∀ k, k ≤ ops.size → (bit (S k).inc j = true ↔ ∃ m, m < k ∧ Eff T ops S m ∧ bit (B.getD m 0) j = true)
  | 0, _ => by rw [h.init]; simp [bit]
  | k + 1, hk => by
    have ih := h.inc j k (by omega)
    by_cases he : Eff T ops S k
    · obtain ⟨o, ho, hw, hke, e1, e2, e3, e4, e5, e6⟩ := h.eff (by omega) he
      rw [e4]
      simp only [bit, Nat.testBit_or, Bool.or_eq_true]
      rw [show Nat.testBit (S k).inc j = bit (S k).inc j from rfl, ih]
      constructor
      · rintro (⟨m, h1, h2, h3⟩ | h1)
        · exact ⟨m, by omega, h2, h3⟩
        · exact ⟨k, by omega, he, h1⟩
      · rintro ⟨m, h1, h2, h3⟩
        by_cases hmk : m = k
        · subst hmk; exact .inr h3
        · exact .inl ⟨m, by omega, h2, h3⟩
    · obtain ⟨e1, e2, e3, e4⟩ := h.stay (by omega) he
      rw [e2, ih]
      constructor
      · rintro ⟨m, h1, h2, h3⟩; exact ⟨m, by omega, h2, h3⟩
      · rintro ⟨m, h1, h2, h3⟩
        have : m ≠ k := fun e => he (e ▸ h2)
        exact ⟨m, by omega, h2, h3⟩

/-- a stage goes on until the next effect -/
theorem Run.same (h : Run P T ng ops B sz st S val) {a b : Nat} (hab : a ≤ b) (hb : b ≤ ops.size) (hn : ∀ m, a ≤ m → m < b → ¬ Eff T ops S m) : (S b).G = (S a).G ∧ (S b).inc = (S a).inc := by
  induction b with
  | zero => have : a = 0 := by omega
            subst this; exact ⟨rfl, rfl⟩
  | succ b ih =>
    by_cases e : a = b + 1
    · subst e; exact ⟨rfl, rfl⟩
    · have i1 := ih (by omega) (by omega) fun m h1 h2 => hn m h1 (by omega)
      obtain ⟨e1, e2, _⟩ := h.stay (show b < ops.size by omega) (hn b (by omega) (by omega))
      exact ⟨e1.trans i1.1, e2.trans i1.2⟩

/-! ### new blocks -/
def AllocAt (T : Tab) (ops : Array Oper) (S : Nat → DS) (j : Nat) (x : AObj) : Prop :=
  ∃ o p, ops[j]? = some o ∧ wantedC ops (S j).tm o = true ∧ kindOf T o.op = .alloc ∧ aalloc T (evalT (S j).tm) o = some p ∧ x = p.1

theorem AllocAt.unique {j : Nat} {x y : AObj} (h : AllocAt T ops S j x) (h' : AllocAt T ops S j y) : x = y := by
  obtain ⟨o, p, h1, _, _, h2, rfl⟩ := h
  obtain ⟨o', p', h1', _, _, h2', rfl⟩ := h'
  rw [h1] at h1'; cases h1'
  rw [h2] at h2'; cases h2'
  rfl

theorem Run.objs_step (h : Run P T ng ops B sz st S val) {k : Nat} (hk : k < ops.size) : (S (k + 1)).objs = (S k).objs ∨ ∃ x, (S (k + 1)).objs = (k, x) :: (S k).objs ∧ AllocAt T ops S k x := by
  have ho : ops[k]? = some ops[k] := by simp [hk]
  have hst := h.step k _ ho
  have hi := h.idx k (by omega)
  generalize hs' : S (k + 1) = s' at *
  generalize val k = v at *
  cases hst with
  | alloc hd hw' hk' p hv => exact .inr ⟨p.1, by simp [hi], _, p, ho, hw', hk', hv, rfl⟩
  | _ => exact .inl rfl

theorem Run.objs (h : Run P T ng ops B sz st S val) : ∀ k, k ≤ ops.size → ∀ p ∈ (S k).objs, p.1 < k ∧ AllocAt T ops S p.1 p.2
  | 0, _, p, hp => by rw [h.init] at hp; simp at hp
  | k + 1, hk, p, hp => by
    rcases h.objs_step (show k < ops.size by omega) with e | ⟨x, e, hx⟩
    · rw [e] at hp
      have := h.objs k (by omega) p hp
      exact ⟨by omega, this.2⟩
    · rw [e] at hp
      simp at hp
      rcases hp with rfl | hp
      · exact ⟨by simp, hx⟩
      · have := h.objs k (by omega) p hp
        exact ⟨by omega, this.2⟩

theorem Run.objs_mem (h : Run P T ng ops B sz st S val) {j : Nat} {x : AObj} (hx : AllocAt T ops S j x) : ∀ k, k ≤ ops.size → j < k → (j, x) ∈ (S k).objs
  | 0, _, hj => by omega
  | k + 1, hk, hj => by
    have hkn : k < ops.size := by omega
    by_cases e : j = k
    · subst e
      obtain ⟨o, p, h1, h2, h3, h4, rfl⟩ := hx
      have hst := h.step j o h1
      have hi := h.idx j (by omega)
      generalize hs' : S (j + 1) = s' at *
      generalize val j = v at *
      cases hst with
      | skip hd hw' => rw [h2] at hw'; cases hw'
      | read hd hw' hk' hv hs => rw [h3] at hk'; cases hk'
      | alloc hd hw' hk' q hv =>
        rw [h4] at hv; cases hv
        simp [hi]
      | eff hd hw' hk' he v H hv hs => rw [h3] at hk'; cases hk'
    · have := h.objs_mem hx k (by omega) (by omega)
      rcases h.objs_step hkn with e | ⟨y, e, _⟩
      · rw [e]; exact this
      · rw [e]; simp [this]

/-- later blocks don't matter for what stands ahead of them -/
theorem Run.withA_same (h : Run P T ng ops B sz st S val) {k m : Nat} (hkm : k ≤ m) (hm : m ≤ ops.size) {G : Heap} {inc base msk : Nat} (hb : ∀ j, bit msk j = true → j < k) :
    withA G inc base msk (S m).objs = withA G inc base msk (S k).objs := by
  induction m with
  | zero => have : k = 0 := by omega
            subst this; rfl
  | succ m ih =>
    by_cases e : k = m + 1
    · subst e; rfl
    · rw [← ih (by omega) (by omega)]
      rcases h.objs_step (show m < ops.size by omega) with e | ⟨x, e, _⟩
      · rw [e]
      · rw [e]
        have : bit msk m = false := by
          cases hbm : bit msk m with
          | false => rfl
          | true => have := hb m hbm; omega
        simp [withA, this]

/-! ### reads -/
theorem Run.rds (h : Run P T ng ops B sz st S val) {i : Nat} {o : Oper} (ho : ops[i]? = some o) (hw : wantedC ops (S i).tm o = true) (hk : kindOf T o.op = .read) : ∀ k, k ≤ ops.size → i < k → (i, (S i).tm, o, val i) ∈ (S k).rds
  | 0, _, hj => by omega
  | k + 1, hkn, hj => by
    by_cases e : i = k
    · subst e
      have hst := h.step i o ho
      have hi := h.idx i (by omega)
      generalize hs' : S (i + 1) = s' at *
      generalize hv' : val i = v at *
      cases hst with
      | skip hd hw' => rw [hw] at hw'; cases hw'
      | read hd hw' hk' hv hs => simp [hi]
      | alloc hd hw' hk' q hv => rw [hk] at hk'; cases hk'
      | eff hd hw' hk' he v H hv hs => rw [hk] at hk'; cases hk'
    · have ih := h.rds ho hw hk k (by omega) (by omega)
      have ho' : ops[k]? = some ops[k] := by simp [show k < ops.size by omega]
      have hst := h.step k _ ho'
      generalize hs' : S (k + 1) = s' at *
      generalize val k = v at *
      cases hst with
      | read hd hw' hk' hv hs => simp [ih]
      | _ => exact ih

theorem Run.hist (h : Run P T ng ops B sz st S val) {p : Nat} : ∀ k, k ≤ ops.size → p ≤ k → ((S p).G, (S p).inc, (S p).effs) = ((S k).G, (S k).inc, (S k).effs) ∨ ((S p).G, (S p).inc, (S p).effs) ∈ (S k).hist
  | 0, _, hp => by have : p = 0 := by omega
                   subst this; exact .inl rfl
  | k + 1, hk, hp => by
    by_cases e : p = k + 1
    · subst e; exact .inl rfl
    · have ih := h.hist k (show k ≤ ops.size by omega) (show p ≤ k by omega)
      by_cases he : Eff T ops S k
      · obtain ⟨o, ho, hw, hke, e1, e2, e3, e4, e5, e6, _⟩ := h.eff (show k < ops.size by omega) he
        right
        rw [e6]
        rcases ih with ih | ih
        · rw [ih]; exact List.mem_cons_self
        · exact List.mem_cons_of_mem _ ih
      · obtain ⟨e1, e2, e3, e4⟩ := h.stay (show k < ops.size by omega) he
        rw [e1, e2, e3, e4]; exact ih

theorem same_some {v : Value} {x : Option Value} (h : same? v x = true) : x = some v := by
  cases x with
  | none => simp [same?] at h
  | some u => simp only [same?] at h; rw [veq_eq _ _ h]

theorem stillBack_mem {ρ : Operand → Value} {o : Oper} {v : Value} {base msk effs : Nat} {objs : List (Nat × AObj)} : ∀ {l : List (Heap × Nat × Nat)}, stillBack P T ρ o v base msk effs objs l = true → ∀ s ∈ l, (msk &&& effs) &&& s.2.2 = msk &&& effs →
    aread P T ρ o (withA s.1 s.2.1 base msk objs) = some v
  | [], _, s, hs, _ => by simp at hs
  | x :: l, h, s, hs, hc => by
    simp only [stillBack, Bool.and_eq_true, Bool.or_eq_true] at h
    simp at hs
    rcases hs with rfl | hs
    · rcases h.1 with h1 | h1
      · rw [Bool.not_eq_true'] at h1
        have : Nat.beq (msk &&& effs &&& s.2.2) (msk &&& effs) = true := (beq_iff _ _).2 hc
        rw [this] at h1; cases h1
      · exact same_some h1
    · exact stillBack_mem h.2 s hs hc

theorem stillOn_mem {G : Heap} {inc base bi : Nat} {objs : List (Nat × AObj)} : ∀ {l : List (Nat × Tr Value × Oper × Value)}, stillOn P T B G inc base bi objs l = true → ∀ r ∈ l, bit bi r.1 = false →
    aread P T (evalT r.2.1) r.2.2.1 (withA G inc base (B.getD r.1 0) objs) = some r.2.2.2
  | [], _, r, hr, _ => by simp at hr
  | x :: l, h, r, hr, hc => by
    simp only [stillOn, Bool.and_eq_true, Bool.or_eq_true] at h
    simp only [List.mem_cons] at hr
    rcases hr with rfl | hr
    · rcases h.1 with h1 | h1
      · rw [hc] at h1; cases h1
      · exact same_some h1
    · exact stillOn_mem h.2 r hr hc

/-- A read is the same at whatever stage it may come up. -/
theorem Run.still (h : Run P T ng ops B sz st S val) (hB : ∀ i j, bit (B.getD i 0) j = true → j < i) {i : Nat} {o : Oper} (ho : ops[i]? = some o) (hw : wantedC ops (S i).tm o = true) (hk : kindOf T o.op = .read) :
    ∀ p, p ≤ ops.size → (∀ m, Eff T ops S m → bit (B.getD i 0) m = true → m < p) → (∀ m, m < p → Eff T ops S m → bit (B.getD m 0) i = false) →
      aread P T (evalT (S i).tm) o (withA (S p).G (S p).inc st.heap.next (B.getD i 0) (S ops.size).objs) = some (val i) := by
  have hin : i < ops.size := (Array.getElem?_eq_some_iff.1 ho).1
  have hi := h.idx i (by omega)
  have hmain : aread P T (evalT (S i).tm) o (withA (S i).G (S i).inc st.heap.next (B.getD i 0) (S i).objs) = some (val i) ∧ stillBack P T (evalT (S i).tm) o (val i) st.heap.next (B.getD i 0) (S i).effs (S i).objs (S i).hist = true := by
    have hst := h.step i o ho
    generalize hs' : S (i + 1) = s' at *
    generalize hv' : val i = v at *
    cases hst with
    | skip hd hw' => rw [hw] at hw'; cases hw'
    | read hd hw' hk' u hv hs => rw [hi] at hv hs; exact ⟨hv, hs⟩
    | alloc hd hw' hk' q hv => rw [hk] at hk'; cases hk'
    | eff hd hw' hk' he v H hv hs => rw [hk] at hk'; cases hk'
  have early : ∀ p, p ≤ i → (∀ m, Eff T ops S m → bit (B.getD i 0) m = true → m < p) → aread P T (evalT (S i).tm) o (withA (S p).G (S p).inc st.heap.next (B.getD i 0) (S ops.size).objs) = some (val i) := by
    intro p hp hc
    rw [h.withA_same (show i ≤ ops.size by omega) (Nat.le_refl _) (fun j hj => hB i j hj)]
    rcases h.hist (p := p) i (by omega) hp with e | e
    · simp only [Prod.mk.injEq] at e
      rw [e.1, e.2.1]; exact hmain.1
    · refine stillBack_mem hmain.2 _ e ?_
      apply Nat.eq_of_testBit_eq
      intro j
      simp only [Nat.testBit_and]
      cases hb1 : Nat.testBit (B.getD i 0) j with
      | false => simp
      | true =>
        cases hb2 : Nat.testBit (S i).effs j with
        | false => simp
        | true =>
          have hej := (h.effs j i (by omega)).1 hb2
          have : bit (S p).effs j = true := (h.effs j p (by omega)).2 ⟨hc j hej.2 hb1, hej.2⟩
          simp only [Bool.and_self, Bool.true_and]
          exact this
  intro p
  induction p with
  | zero => intro _ hc _; exact early 0 (Nat.zero_le _) hc
  | succ p ih =>
    intro hp hc1 hc2
    by_cases hpi : p + 1 ≤ i
    · exact early (p + 1) hpi hc1
    · by_cases he : Eff T ops S p
      · by_cases hpe : p = i
        · subst hpe
          obtain ⟨o', ho', _, hke⟩ := he
          have e0 : o' = o := by rw [ho] at ho'; exact (Option.some.inj ho').symm
          rw [e0, hk] at hke; cases hke
        · obtain ⟨o', ho', hw', hke, e1, e2, e3, e4, e5, e6, e7, e8⟩ := h.eff (show p < ops.size by omega) he
          have hm := h.rds ho hw hk p (by omega) (by omega)
          have := stillOn_mem e3 _ hm (hc2 p (by omega) he)
          simp only at this
          rw [e4]
          rw [h.withA_same (show p ≤ ops.size by omega) (Nat.le_refl _) (fun j hj => by have := hB i j hj; omega)]
          exact this
      · obtain ⟨e1, e2, _⟩ := h.stay (show p < ops.size by omega) he
        rw [e1, e2]
        exact ih (by omega) (fun m hm hb => by have := hB i m hb; omega) (fun m hm hme => hc2 m (by omega) hme)

/-! ### dead names -/
theorem Run.dead (h : Run P T ng ops B sz st S val) (h0 : ∀ b, st.heap.next ≤ b → st.heap.get b = .dead) :
    ∀ k, k ≤ ops.size → st.heap.next + ops.size ≤ (S k).G.next ∧ ∀ j, j < ops.size → bit (S k).inc j = false → (S k).G.get (st.heap.next + j) = .dead
  | 0, _ => by rw [h.init]; exact ⟨Nat.le_refl _, fun j _ _ => h0 _ (by omega)⟩
  | k + 1, hk => by
    obtain ⟨i1, i2⟩ := h.dead h0 k (by omega)
    by_cases he : Eff T ops S k
    · obtain ⟨o', ho', hw', hke, e1, e2, e3, e4, e5, e6, e7, e8⟩ := h.eff (show k < ops.size by omega) he
      have hn := e2.nr
      have hnl := hn.le
      rw [withA_next] at hnl
      refine ⟨by omega, fun j hj hb => ?_⟩
      rw [e4] at hb
      simp only [bit, Nat.testBit_or, Bool.or_eq_false_iff] at hb
      refine hn.dead _ (by rw [withA_next]; omega) ?_
      rw [withA_get]
      cases ha : actO st.heap.next (S k).inc (bit (B.getD k 0)) (st.heap.next + j) (S k).objs with
      | none => exact i2 j hj hb.1
      | some x =>
        obtain ⟨p, _, q1, _, q3, _⟩ := actO_some ha
        have : p.1 = j := by omega
        rw [this] at q1
        rw [show bit (B.getD k 0) j = Nat.testBit (B.getD k 0) j from rfl, hb.2] at q1
        cases q1
    · obtain ⟨e1, e2, _⟩ := h.stay (show k < ops.size by omega) he
      rw [e1, e2]; exact ⟨i1, i2⟩

end
end Go.Ab
end
section
namespace Go.Ab

/-! ### a heap with a part left out -/
theorem Goes.frame {ng : Nat} {μ μ' : Inj} {g g0 g1 : Nat → AObj} {w w' : World} (hR : Rel ng μ g w) (hl : ∀ b, g0 b = g b ∨ g0 b = .dead) (hG : Goes ng μ g0 w μ' g1 w') (g2 : Nat → AObj)
    (h2 : ∀ b, (g0 b = .dead ∧ g b ≠ .dead ∧ g2 b = g b) ∨ ((g0 b ≠ .dead ∨ g b = .dead) ∧ g2 b = g1 b)) : Goes ng μ g w μ' g2 w' := by
  have hsame : ∀ b, g0 b ≠ .dead → g0 b = g b := fun b hb => (hl b).resolve_right hb
  have hnd : ∀ {x : AObj}, owned x = true → x ≠ .dead := fun h e => by rw [e] at h; simp [owned] at h
  have hown0 : ∀ k, Own μ g0 k → Own μ g k := fun k ⟨b, t, h1, h2, h3⟩ => ⟨b, t, by rw [← hsame b (hnd h1)]; exact h1, h2, h3⟩
  have nofr : ∀ b t, g0 b = .dead → g b ≠ .dead → μ b = some t → ¬ Own μ g0 t.cb := by
    rintro b t hb hgb hm ⟨b0, t0, h1, h2, h3⟩
    have e0 := hsame b0 (hnd h1)
    have hne : b0 ≠ b := fun e => by rw [e, hb] at h1; simp [owned] at h1
    rw [e0] at h1
    exact hR.inj b0 b t0 t hne h1 hgb h2 hm h3
  have hkeep : ∀ b t, g0 b = .dead → g b ≠ .dead → μ b = some t → w'.heap[t.cb]? = w.heap[t.cb]? := fun b t h1 h2 h3 =>
    hG.kept t.cb (hR.lt h2 h3) (nofr b t h1 h2 h3)
  refine ⟨hG.le, ⟨fun b hb => ?_, fun b b' t t' hne ho hb' hm hm' => ?_, hG.rel.glob⟩, hG.size, fun k hk hn => hG.kept k hk fun h => hn (hown0 k h), fun k hk ⟨b, t, ho, hm, hc⟩ => ?_, fun b h3 h4 => ?_, hG.same⟩
  · rcases h2 b with ⟨e1, e2, e3⟩ | ⟨e1, e2⟩
    · obtain ⟨t, o, k1, k2, k3⟩ := hR.obj b e2
      rw [e3]
      exact ⟨t, o, hG.le _ _ k1, by rw [hkeep b t e1 e2 k1]; exact k2, k3.mono hG.le⟩
    · rw [e2] at hb ⊢; exact hG.rel.obj b hb
  · rcases h2 b with ⟨e1, e2, e3⟩ | ⟨e1, e2⟩ <;> rcases h2 b' with ⟨f1, f2, f3⟩ | ⟨f1, f2⟩
    · obtain ⟨t0, o0, k1, k2, k3⟩ := hR.obj b e2
      obtain ⟨t1, o1, j1, j2, j3⟩ := hR.obj b' f2
      have q1 := hG.le _ _ k1
      have q2 := hG.le _ _ j1
      rw [hm] at q1; cases q1
      rw [hm'] at q2; cases q2
      rw [e3] at ho
      exact hR.inj b b' t t' hne ho f2 k1 j1
    · obtain ⟨t0, o0, k1, k2, k3⟩ := hR.obj b e2
      have q1 := hG.le _ _ k1
      rw [hm] at q1; cases q1
      rw [e3] at ho
      rw [f2] at hb'
      intro hcb
      cases hob : owned (g1 b') with
      | true => exact nofr b t e1 e2 k1 (hG.own _ (hR.lt e2 k1) ⟨b', t', hob, hm', hcb.symm⟩)
      | false =>
        have r1 := hG.ro b' hb' hob
        rw [← r1] at hb'
        have r2 := hsame b' hb'
        rw [r2] at hb'
        obtain ⟨t1, o1, j1, j2, j3⟩ := hR.obj b' hb'
        have q2 := hG.le _ _ j1
        rw [hm'] at q2; cases q2
        exact hR.inj b b' t t' hne ho hb' k1 j1 hcb
    · obtain ⟨t1, o1, j1, j2, j3⟩ := hR.obj b' f2
      have q2 := hG.le _ _ j1
      rw [hm'] at q2; cases q2
      rw [e2] at ho
      intro hcb
      exact nofr b' t' f1 f2 j1 (hG.own _ (hR.lt f2 j1) ⟨b, t, ho, hm, hcb⟩)
    · rw [e2] at ho
      rw [f2] at hb'
      exact hG.rel.inj b b' t t' hne ho hb' hm hm'
  · rcases h2 b with ⟨e1, e2, e3⟩ | ⟨e1, e2⟩
    · obtain ⟨t0, o0, k1, k2, k3⟩ := hR.obj b e2
      have q1 := hG.le _ _ k1
      rw [hm] at q1; cases q1
      exact ⟨b, t, by rw [← e3]; exact ho, k1, hc⟩
    · rw [e2] at ho
      exact hown0 k (hG.own k hk ⟨b, t, ho, hm, hc⟩)
  · rcases h2 b with ⟨e1, e2, e3⟩ | ⟨e1, e2⟩
    · exact e3.symm
    · rw [e2] at h3 h4 ⊢
      have r1 := hG.ro b h3 h4
      rw [← r1] at h3
      rw [← hsame b h3]; exact r1

/-! ### how many are left -/
def cntF (f : Nat → Bool) : Nat → Nat
  | 0 => 0
  | k + 1 => (if f k = true then 0 else 1) + cntF f k

theorem cntF_congr {f f' : Nat → Bool} : ∀ {k : Nat}, (∀ j, j < k → f' j = f j) → cntF f' k = cntF f k
  | 0, _ => rfl
  | k + 1, h => by simp only [cntF]; rw [h k (by omega), cntF_congr fun j hj => h j (by omega)]
theorem cntF_set {f f' : Nat → Bool} {i : Nat} (hi : f i = false) (h : ∀ j, f' j = if j = i then true else f j) : ∀ {k : Nat}, i < k → cntF f' k + 1 = cntF f k
  | 0, hk => by omega
  | k + 1, hk => by
    simp only [cntF]
    by_cases e : k = i
    · subst e
      rw [h k, if_pos rfl, hi, cntF_congr (f := f) (f' := f') fun j hj => by rw [h j, if_neg (by omega)]]
      simp; omega
    · rw [h k, if_neg e]
      have := cntF_set hi h (k := k) (by omega)
      omega
theorem cntF_zero {f : Nat → Bool} : ∀ {k : Nat}, cntF f k = 0 → ∀ i, i < k → f i = true
  | 0, _, i, hi => by omega
  | k + 1, h, i, hi => by
    simp only [cntF] at h
    by_cases e : i = k
    · subst e
      cases hf : f i with
      | true => rfl
      | false => rw [hf] at h; simp at h
    · exact cntF_zero (f := f) (k := k) (by omega) i (by omega)
theorem cntF_le (f : Nat → Bool) : ∀ k, cntF f k ≤ k
  | 0 => Nat.le_refl _
  | k + 1 => by
    simp only [cntF]
    have := cntF_le f k
    split <;> omega

def onL (L : Array Bool) (j : Nat) : Bool := L.getD j false

theorem onL_set {L : Array Bool} {i : Nat} (hi : i < L.size) (j : Nat) : onL (L.setIfInBounds i true) j = if j = i then true else onL L j := by
  unfold onL
  simp only [Array.getD_eq_getD_getElem?]
  by_cases e : j = i
  · subst e; simp [hi]
  · rw [if_neg e, Array.getElem?_setIfInBounds_ne (fun e' => e e'.symm)]

/-- someone is ready -/
theorem ready_some {md : Region.Mode} {ops : Array Oper} {L : Array Bool} (hL : L.size = ops.size) {r : Nat → Nat} (hr : ∀ i o e, ops[i]? = some o → e ∈ o.after.toList → Region.binds md e = true → e.on < ops.size ∧ r e.on < r i) :
    ∀ (k i : Nat), r i ≤ k → i < ops.size → onL L i = false → Region.ready md ops L ≠ [] := by
  intro k
  induction k with
  | zero =>
    intro i hk hi hon hnil
    have hmem : i ∈ Region.ready md ops L := by
      unfold Region.ready
      rw [List.mem_filter]
      refine ⟨by simpa using hi, ?_⟩
      have h1 : L.getD i true = false := by
        unfold onL at hon
        simp only [Array.getD_eq_getD_getElem?] at hon ⊢
        have : L[i]? = some L[i] := by simp [hL, hi]
        rw [this] at hon ⊢; exact hon
      have ho : ops[i]? = some ops[i] := by simp [hi]
      rw [h1, ho]
      simp only [Bool.not_false, Bool.true_and, Option.map_some, Option.getD_some]
      rw [← Array.all_toList, List.all_eq_true]
      intro e he
      cases hb : Region.binds md e with
      | false => rfl
      | true => have := (hr i _ e ho he hb).2; omega
    rw [hnil] at hmem; cases hmem
  | succ k ih =>
    intro i hk hi hon hnil
    by_cases hall : ∀ e ∈ ops[i].after.toList, Region.binds md e = true → onL L e.on = true
    · have hmem : i ∈ Region.ready md ops L := by
        unfold Region.ready
        rw [List.mem_filter]
        refine ⟨by simpa using hi, ?_⟩
        have h1 : L.getD i true = false := by
          unfold onL at hon
          simp only [Array.getD_eq_getD_getElem?] at hon ⊢
          have : L[i]? = some L[i] := by simp [hL, hi]
          rw [this] at hon ⊢; exact hon
        have ho : ops[i]? = some ops[i] := by simp [hi]
        rw [h1, ho]
        simp only [Bool.not_false, Bool.true_and, Option.map_some, Option.getD_some]
        rw [← Array.all_toList, List.all_eq_true]
        intro e he
        cases hb : Region.binds md e with
        | false => rfl
        | true => simpa [onL] using hall e he hb
      rw [hnil] at hmem; cases hmem
    · simp only [Classical.not_forall] at hall
      obtain ⟨e, he, hb, hne⟩ := hall
      have ho : ops[i]? = some ops[i] := by simp [hi]
      have := hr i _ e ho he hb
      exact ih e.on (by omega) this.1 (by simpa using hne) hnil

theorem ready_spec {md : Region.Mode} {ops : Array Oper} {L : Array Bool} (hL : L.size = ops.size) {i : Nat} (h : i ∈ Region.ready md ops L) :
    ∃ o, ops[i]? = some o ∧ onL L i = false ∧ ∀ e ∈ o.after.toList, Region.binds md e = true → onL L e.on = true := by
  unfold Region.ready at h
  rw [List.mem_filter] at h
  obtain ⟨h1, h2⟩ := h
  simp at h1
  have ho : ops[i]? = some ops[i] := by simp [h1]
  rw [ho] at h2
  simp only [Option.map_some, Option.getD_some, Bool.and_eq_true] at h2
  refine ⟨_, ho, ?_, fun e he hb => ?_⟩
  · have h3 := h2.1
    unfold onL
    simp only [Array.getD_eq_getD_getElem?] at h3 ⊢
    have : L[i]? = some L[i] := by simp [hL, h1]
    rw [this] at h3 ⊢
    simpa using h3
  · have h3 := h2.2
    rw [← Array.all_toList, List.all_eq_true] at h3
    have := h3 e he
    rw [hb] at this
    simpa [onL] using this

/-! ### the temporaries, when some are listed -/
theorem putT_get (tm : Tr Value) (dst : Option Tmp) (v : Value) (d : Tmp) : (putT tm dst v).get d = if dst = some d then some v else tm.get d := by
  cases dst with
  | none => simp [putT]
  | some x =>
    simp only [putT, Tr.get_set, Option.some.injEq]
    by_cases e : d = x
    · subst e; simp
    · rw [if_neg e, if_neg (fun e' => e e'.symm)]

def tmL (ops : Array Oper) (val : Nat → Value) (L : Array Bool) (tm0 : Tr Value) : Nat → Tr Value
  | 0 => tm0
  | k + 1 => if onL L k = true then putT (tmL ops val L tm0 k) ((ops[k]?).bind (·.dst)) (val k) else tmL ops val L tm0 k

theorem tmp_spec {ops : Array Oper} {B : Array Nat} (h : tmpOK ops B = true) {i j : Nat} {oi oj : Oper} (hij : i < j) (hi : ops[i]? = some oi) (hj : ops[j]? = some oj) (hb : bit (B.getD j 0) i = false) :
    (∀ d, oi.dst = some d → d ∉ readsT ops oj ∧ oj.dst ≠ some d) ∧ ∀ d, oj.dst = some d → d ∉ readsT ops oi := by
  unfold tmpOK at h
  rw [List.all_eq_true] at h
  have h1 := h j (by simpa using (Array.getElem?_eq_some_iff.1 hj).1)
  rw [hj] at h1
  simp only [List.all_eq_true] at h1
  have h2 := h1 i (by simpa using hij)
  rw [hi] at h2
  simp only [hb, Bool.false_or, Bool.and_eq_true] at h2
  constructor
  · intro d hd
    have h3 := h2.1
    rw [hd] at h3
    simp only [Bool.and_eq_true, Bool.not_eq_true'] at h3
    refine ⟨fun hm => ?_, fun hd' => ?_⟩
    · have := h3.1
      rw [List.contains_iff_mem.2 hm] at this; cases this
    · rw [hd'] at h3
      have h4 := h3.2
      simp only [beq_iff, Bool.not_eq_true] at h4
      have : Nat.beq d d = true := (beq_iff _ _).2 rfl
      rw [this] at h4; cases h4
  · intro d hd hm
    have h3 := h2.2
    rw [hd] at h3
    simp only [Bool.not_eq_true'] at h3
    rw [List.contains_iff_mem.2 hm] at h3; cases h3

section
variable {P : Program} {T : Tab} {ng : Nat} {ops : Array Oper} {B : Array Nat} {sz : Nat} {st : St} {S : Nat → DS} {val : Nat → Value} {L : Array Bool}

theorem tmL_read (h : Run P T ng ops B sz st S val) (htmp : tmpOK ops B = true) {i : Nat} {oi : Oper} (hi : ops[i]? = some oi) (hon : onL L i = false) (hBi : ∀ j, bit (B.getD i 0) j = true → onL L j = true)
    (hc : ∀ i, onL L i = true → ∀ j, bit (B.getD i 0) j = true → onL L j = true) {d : Tmp} (hd : d ∈ readsT ops oi) : (tmL ops val L st.tm ops.size).get d = (S i).tm.get d := by
  have hin : i < ops.size := (Array.getElem?_eq_some_iff.1 hi).1
  have p1 : ∀ k, k ≤ i → (tmL ops val L st.tm k).get d = (S k).tm.get d := by
    intro k
    induction k with
    | zero => intro _; rw [h.init]; rfl
    | succ k ih =>
      intro hk
      have hok : ops[k]? = some ops[k] := by simp [show k < ops.size by omega]
      rw [(h.tm hok).1]
      simp only [tmL, hok, Option.bind_some]
      split
      · rw [putT_get, putT_get, ih (by omega)]
      · rename_i hnon
        rw [putT_get, ih (by omega), if_neg]
        intro hdk
        cases hb : bit (B.getD i 0) k with
        | true => exact hnon (hBi k hb)
        | false => exact ((tmp_spec htmp (by omega) hok hi hb).1 d hdk).1 hd
  have p2 : ∀ k, i ≤ k → k ≤ ops.size → (tmL ops val L st.tm k).get d = (tmL ops val L st.tm i).get d := by
    intro k
    induction k with
    | zero => intro h1 _; have : i = 0 := by omega
              subst this; rfl
    | succ k ih =>
      intro h1 h2
      by_cases e : i = k + 1
      · subst e; rfl
      · have hok : ops[k]? = some ops[k] := by simp [show k < ops.size by omega]
        have i1 := ih (by omega) (by omega)
        simp only [tmL, hok, Option.bind_some]
        split
        · rename_i hk
          have hne : k ≠ i := fun e => by rw [e, hon] at hk; cases hk
          rw [putT_get, i1, if_neg]
          intro hdk
          cases hb : bit (B.getD k 0) i with
          | true => rw [hc k hk i hb] at hon; cases hon
          | false => exact (tmp_spec htmp (by omega) hi hok hb).2 d hdk hd
        · exact i1
  rw [p2 _ (by omega) (Nat.le_refl _), p1 i (Nat.le_refl _)]

theorem tmL_put (htmp : tmpOK ops B = true) {i : Nat} {oi : Oper} (hi : ops[i]? = some oi) (hon : onL L i = false)
    (hc : ∀ i, onL L i = true → ∀ j, bit (B.getD i 0) j = true → onL L j = true) {L' : Array Bool} (hL' : ∀ j, onL L' j = if j = i then true else onL L j) (tm0 : Tr Value) (d : Tmp) :
    (tmL ops val L' tm0 ops.size).get d = (putT (tmL ops val L tm0 ops.size) oi.dst (val i)).get d := by
  have hin : i < ops.size := (Array.getElem?_eq_some_iff.1 hi).1
  have p1 : ∀ k, k ≤ i → tmL ops val L' tm0 k = tmL ops val L tm0 k := by
    intro k
    induction k with
    | zero => intro _; rfl
    | succ k ih =>
      intro hk
      simp only [tmL]
      rw [hL' k, if_neg (show k ≠ i by omega), ih (by omega)]
  have p2 : ∀ k, i + 1 ≤ k → k ≤ ops.size → (tmL ops val L' tm0 k).get d = (putT (tmL ops val L tm0 k) oi.dst (val i)).get d := by
    intro k
    induction k with
    | zero => intro h1; omega
    | succ k ih =>
      intro h1 h2
      by_cases e : k = i
      · subst e
        simp only [tmL, hL' k, if_true, hi, Option.bind_some, hon]
        rw [p1 k (Nat.le_refl _)]
        simp
      · have hok : ops[k]? = some ops[k] := by simp [show k < ops.size by omega]
        have i1 := ih (by omega) (by omega)
        simp only [tmL, hok, Option.bind_some, hL' k, if_neg e]
        split
        · rename_i hk
          rw [putT_get, putT_get, putT_get, i1, putT_get]
          by_cases hdk : ops[k].dst = some d
          · rw [if_pos hdk]
            by_cases hdi : oi.dst = some d
            · exfalso
              cases hb : bit (B.getD k 0) i with
              | true => rw [hc k hk i hb] at hon; cases hon
              | false => exact ((tmp_spec htmp (by omega) hi hok hb).1 d hdi).2 hdk
            · rw [if_neg hdi, if_pos hdk]
          · rw [if_neg hdk, if_neg hdk]
        · exact i1
  exact p2 _ (by omega) (Nat.le_refl _)

theorem tmL_all (h : Run P T ng ops B sz st S val) (hall : ∀ i, i < ops.size → onL L i = true) : ∀ k, k ≤ ops.size → tmL ops val L st.tm k = (S k).tm
  | 0, _ => by rw [h.init]; rfl
  | k + 1, hk => by
    have hok : ops[k]? = some ops[k] := by simp [show k < ops.size by omega]
    rw [(h.tm hok).1]
    simp only [tmL, hok, Option.bind_some, hall k (by omega), if_true]
    rw [tmL_all h hall k (by omega)]

theorem TmRel.ext {μ : Inj} {tm tm' : Tr Value} {sz : Nat} {a : Array Value} (h : TmRel μ tm sz a) (e : ∀ d, tm'.get d = tm.get d) : TmRel μ tm' sz a :=
  ⟨h.size, fun t => by have := h.val t; simp only [evalT] at this ⊢; rw [e]; exact this⟩

end
end Go.Ab
end
