/- Parts of the proof, joined by program: Wire: the program's Can of a graph, given its Can of a circuit; Wire: the program's Can of a circuit, given that of a gate; Wire: what a graph comes to is code; Wire: the program's Expand; Wire: the law WireExpands, given the program's look at a gate. -/
import Derived.Test.YtmodeilippcbnaaR14
import Derived.Test.YtmodeilippcbnaaR23
set_option linter.all false
section
namespace Go.Ab.Ex
open Go.Proofs
set_option maxRecDepth 10000
set_option maxHeartbeats 1000000

/-- what the program's Can of a circuit comes to (proved elsewhere) -/
def CirC : Prop := ∀ {F : Fr} {H : Heap} {v : Value} {g : CircM}, CircR F H v g → (g.gates.length < 1000000 ∧ g.outs.length < 1000000) → ∀ {Q : Ret → Heap → Prop}, (∀ r H', Ext H H' → (r = true ↔ CircOk g) → Q (.ret (.bool r)) H') → C 78 #[v] H Q

theorem f69_c (h78 : CirC) {F : Fr} {H : Heap} {v : Value} {g : CircM} (hv : CircR F H v g) (hl : g.gates.length < 1000000 ∧ g.outs.length < 1000000) {Q : Ret → Heap → Prop}
    (hQ : ∀ r H', Ext H H' → (r = true ↔ CircOk g ∧ ∀ (i : Nat) (x : GateM), g.gates[i]? = some x → x.K ≤ 8) → Q (.ret (.bool r)) H') : C 69 #[v] H Q := by
  have hv0 := hv.noF
  obtain ⟨v1, v2, rfl, hg1, hg2⟩ := hv.noF.ex
  have hg10 := hg1
  obtain ⟨ag, cg, rfl, h3, h4, hgA⟩ := hg1.ex
  obtain ⟨au, cu, rfl, h5, h6, huA⟩ := hg2.ex
  refine SemC_fn TT.ok fn69 rfl rfl ?_
  simp only [Try.f69, start, KC_normal, go_sem, Nat.reduceEqDiff, Nat.reduceAdd, reduceIte, reduceCtorEq, Nat.reduceLeDiff, Nat.reduceShiftRight, Nat.reduceAnd, Nat.reduceOr, Nat.reducePow, Nat.reduceBNe, Nat.reduceBEq]
  generalize hX : H.push _ = H1
  obtain ⟨hE1, h7, hn1⟩ := new_push hX
  clear hX
  refine h78 (hv0.step hE1.step) hl fun r H2 hE2 hr => ?_
  have h72 := (hE2.get _ (by omega)).trans h7
  have hE12 := hE1.trans hE2
  cases r with
  | false =>
    simp only [start, KC_normal, go_sem, Nat.reduceEqDiff, Nat.reduceAdd, reduceIte, reduceCtorEq, Nat.reduceLeDiff, Nat.reduceShiftRight, Nat.reduceAnd, Nat.reduceOr, Nat.reducePow, Nat.reduceBNe, Nat.reduceBEq]
    exact hQ _ H2 hE12 ⟨fun h => (by cases h), fun h => hr.2 h.1⟩
  | true =>
    simp only [start, KC_normal, go_sem, Nat.reduceEqDiff, Nat.reduceAdd, reduceIte, reduceCtorEq, Nat.reduceLeDiff, Nat.reduceShiftRight, Nat.reduceAnd, Nat.reduceOr, Nat.reducePow, Nat.reduceBNe, Nat.reduceBEq, h72]
    refine f71_c (cs := []) (p := fun x => decide (x.K = 9) || (decide (x.K = 10) || decide (x.K = 11))) (hg10.step hE12.step) hl.1 has79 (fun x hx H' hE Q' hQ' => f79_c hQ') fun H3 r2 hE3 hr2 => ?_
    simp only [start, KC_normal, go_sem, Nat.reduceEqDiff, Nat.reduceAdd, reduceIte, reduceCtorEq, Nat.reduceLeDiff, Nat.reduceShiftRight, Nat.reduceAnd, Nat.reduceOr, Nat.reducePow, Nat.reduceBNe, Nat.reduceBEq]
    refine hQ _ H3 (hE12.trans hE3) ?_
    have hc := hr.1 rfl
    cases r2 with
    | true =>
      obtain ⟨x, hx, hk⟩ := hr2.1 rfl
      obtain ⟨i, hi⟩ := List.getElem?_of_mem hx
      refine ⟨fun h => (by cases h), fun h => ?_⟩
      have := h.2 i x hi
      simp only [Bool.or_eq_true, decide_eq_true_eq] at hk
      omega
    | false =>
      refine ⟨fun _ => ⟨hc, fun i x hi => ?_⟩, fun _ => rfl⟩
      have h11 := (hc.t i x hi).2.1
      have hno : ¬ (x.K = 9 ∨ x.K = 10 ∨ x.K = 11) := fun h => by
        have := hr2.2 ⟨x, List.mem_of_getElem? hi, by simp only [Bool.or_eq_true, decide_eq_true_eq]; exact h⟩
        cases this
      omega

theorem f52_c (h78 : CirC) {F : Fr} {H : Heap} {v : Value} {g : CircM} (hv : CircR F H v g) (hl : g.gates.length < 1000000 ∧ g.outs.length < 1000000) {Q : Ret → Heap → Prop}
    (hQ : ∀ r H', Ext H H' → (r = true ↔ GraphOk g) → Q (.ret (.bool r)) H') : C 52 #[v] H Q := by
  have hv0 := hv.noF
  obtain ⟨v1, v2, rfl, hg1, hg2⟩ := hv.noF.ex
  have hg10 := hg1
  obtain ⟨ag, cg, rfl, h3, h4, hgA⟩ := hg1.ex
  obtain ⟨au, cu, rfl, h5, h6, huA⟩ := hg2.ex
  refine SemC_fn TT.ok fn52 rfl rfl ?_
  simp only [Try.f52, start, KC_normal, go_sem, Nat.reduceEqDiff, Nat.reduceAdd, reduceIte, reduceCtorEq, Nat.reduceLeDiff, Nat.reduceShiftRight, Nat.reduceAnd, Nat.reduceOr, Nat.reducePow, Nat.reduceBNe, Nat.reduceBEq]
  generalize hX : H.push _ = H1
  obtain ⟨hE1, h7, hn1⟩ := new_push hX
  clear hX
  refine f70_c (hv0.step hE1.step) hl fun H2 u hE2 hu => ?_
  have h72 := (hE2.get _ (by omega)).trans h7
  have hE12 := hE1.trans hE2
  simp only [start, KC_normal, go_sem, Nat.reduceEqDiff, Nat.reduceAdd, reduceIte, reduceCtorEq, Nat.reduceLeDiff, Nat.reduceShiftRight, Nat.reduceAnd, Nat.reduceOr, Nat.reducePow, Nat.reduceBNe, Nat.reduceBEq]
  have hll : (g.as 5).gates.length < 1000000 ∧ (g.as 5).outs.length < 1000000 := by rw [as_len]; exact hl
  refine f69_c h78 hu hll fun r H3 hE3 hr => ?_
  have h73 := (hE3.get _ (by have := hE2.le; omega)).trans h72
  have hE13 := hE12.trans hE3
  cases r with
  | false =>
    simp only [start, KC_normal, go_sem, Nat.reduceEqDiff, Nat.reduceAdd, reduceIte, reduceCtorEq, Nat.reduceLeDiff, Nat.reduceShiftRight, Nat.reduceAnd, Nat.reduceOr, Nat.reducePow, Nat.reduceBNe, Nat.reduceBEq]
    exact hQ _ H3 hE13 ⟨fun h => (by cases h), fun h => hr.2 ⟨h.c, h.k⟩⟩
  | true =>
    obtain ⟨hc, hk⟩ := hr.1 rfl
    simp only [start, KC_normal, go_sem, Nat.reduceEqDiff, Nat.reduceAdd, reduceIte, reduceCtorEq, Nat.reduceLeDiff, Nat.reduceShiftRight, Nat.reduceAnd, Nat.reduceOr, Nat.reducePow, Nat.reduceBNe, Nat.reduceBEq, h73]
    refine f71_c (cs := [.pointer (some ⟨H.next, 0, none⟩)]) (p := badRef g) (hg10.step hE13.step) hl.1 has72 (fun x hx H' hE Q' hQ' => ?_) fun H4 r2 hE4 hr2 => ?_
    · obtain ⟨i, hi⟩ := List.getElem?_of_mem hx
      refine f72_c (by have := hE.le; have := hE2.le; have := hE3.le; omega) ((hE.get _ (by have := hE2.le; have := hE3.le; omega)).trans h73) (hgA.step ((hE13.trans hE).step)) (fun hx12 => ?_) hQ'
      have h1 := hc.t i _ (as_get (k := 5) hi)
      have hK5 : (asG 5 x).K = 5 := by simp [asG, hx12]
      have hAa : (asG 5 x).A = x.A := by simp [asG, hx12]
      have := ((gOk_5 hK5).1 h1).2.1
      have hlt := lt_of_get hi
      rw [hAa] at this
      omega
    · simp only [start, KC_normal, go_sem, Nat.reduceEqDiff, Nat.reduceAdd, reduceIte, reduceCtorEq, Nat.reduceLeDiff, Nat.reduceShiftRight, Nat.reduceAnd, Nat.reduceOr, Nat.reducePow, Nat.reduceBNe, Nat.reduceBEq]
      refine hQ _ H4 (hE13.trans hE4) ?_
      cases r2 with
      | true =>
        obtain ⟨x, hx, hb⟩ := hr2.1 rfl
        obtain ⟨i, hi⟩ := List.getElem?_of_mem hx
        refine ⟨fun h => (by cases h), fun h => ?_⟩
        simp only [badRef, Bool.and_eq_true, decide_eq_true_eq, Bool.not_eq_true'] at hb
        rw [h.r i x hi hb.1] at hb
        cases hb.2
      | false =>
        refine ⟨fun _ => ⟨hc, hk, fun i x hi h12 => ?_⟩, fun _ => rfl⟩
        cases hs : g.sec x.A with
        | true => rfl
        | false =>
          have := hr2.2 ⟨x, List.mem_of_getElem? hi, by simp [badRef, h12, hs]⟩
          cases this

theorem f44_c (h78 : CirC) : CanC := by
  intro F H v g hv hl Q hQ
  have hv0 := hv.noF
  obtain ⟨v1, v2, rfl, hg1, hg2⟩ := hv.noF.ex
  obtain ⟨ag, cg, rfl, h3, h4, hgA⟩ := hg1.ex
  obtain ⟨au, cu, rfl, h5, h6, huA⟩ := hg2.ex
  refine SemC_fn TT.ok fn44 rfl rfl ?_
  simp only [Try.f44, start, KC_normal, go_sem, Nat.reduceEqDiff, Nat.reduceAdd, reduceIte, reduceCtorEq, Nat.reduceLeDiff, Nat.reduceShiftRight, Nat.reduceAnd, Nat.reduceOr, Nat.reducePow, Nat.reduceBNe, Nat.reduceBEq]
  generalize hX : H.push _ = H1
  obtain ⟨hE1, h7, hn1⟩ := new_push hX
  clear hX
  refine f52_c h78 (hv0.step hE1.step) hl fun r H2 hE2 hr => ?_
  simp only [start, KC_normal, go_sem, Nat.reduceEqDiff, Nat.reduceAdd, reduceIte, reduceCtorEq, Nat.reduceLeDiff, Nat.reduceShiftRight, Nat.reduceAnd, Nat.reduceOr, Nat.reducePow, Nat.reduceBNe, Nat.reduceBEq]
  exact hQ _ H2 (hE1.trans hE2) hr
end Go.Ab.Ex
end
section
namespace Go.Ab.Ex
open Go.Proofs
set_option maxRecDepth 10000
set_option maxHeartbeats 1000000

/-- what the program's look at a gate comes to (proved elsewhere) -/
def GatC : Prop := ∀ {F : Fr} {H : Heap} {v : Value} {g : CircM} {i : Nat} {x : GateM}, CircR F H v g → (0 ≤ g.secrets ∧ g.secrets ≤ 1000) → (0 ≤ g.publics ∧ g.publics ≤ 1000) → g.gates.length ≤ 8000 → g.gates[i]? = some x → ∀ {Q : Ret → Heap → Prop}, (∀ r H', Ext H H' → (r = true ↔ gOkM g i x) → Q (.ret (.bool r)) H') → C 85 #[v, .int .i64 (i : Nat)] H Q

theorem f84_c (h85 : GatC) {F : Fr} {H : Heap} {v : Value} {g : CircM} (hv : CircR F H v g) (hl : g.gates.length < 1000000 ∧ g.outs.length < 1000000) {Q : Ret → Heap → Prop} (hQ : ∀ r H', Ext H H' → (r = true ↔ CircOk g) → Q (.ret (.bool r)) H') : C 84 #[v] H Q := by
  have hv0 := hv.noF
  obtain ⟨v1, v2, rfl, hg1, hg2⟩ := hv.noF.ex
  obtain ⟨ag, cg, rfl, h3, h4, hgA⟩ := hg1.ex
  obtain ⟨au, cu, rfl, h5, h6, huA⟩ := hg2.ex
  refine SemC_fn TT.ok fn84 rfl rfl ?_
  simp only [Try.f84, start, KC_normal, go_sem, Nat.reduceEqDiff, Nat.reduceAdd, reduceIte, reduceCtorEq, Nat.reduceLeDiff, Nat.reduceShiftRight, Nat.reduceAnd, Nat.reduceOr, Nat.reducePow, Nat.reduceBNe, Nat.reduceBEq]
  generalize hX : H.push _ = H1
  obtain ⟨hE1, h7, hn1⟩ := new_push hX
  clear hX
  have no : ¬ CircOk g → (false = true ↔ CircOk g) := fun h => ⟨fun e => (by cases e), fun e => (h e).elim⟩
  by_cases s0 : g.secrets < 0
  · simp only [start, KC_normal, go_sem, Nat.reduceEqDiff, Nat.reduceAdd, reduceIte, reduceCtorEq, Nat.reduceLeDiff, Nat.reduceShiftRight, Nat.reduceAnd, Nat.reduceOr, Nat.reducePow, Nat.reduceBNe, Nat.reduceBEq, h7, s0]; exact hQ false H1 hE1 (no fun h => by have := h.s; omega)
  by_cases s1 : 1000 < g.secrets
  · simp only [start, KC_normal, go_sem, Nat.reduceEqDiff, Nat.reduceAdd, reduceIte, reduceCtorEq, Nat.reduceLeDiff, Nat.reduceShiftRight, Nat.reduceAnd, Nat.reduceOr, Nat.reducePow, Nat.reduceBNe, Nat.reduceBEq, h7, s0, s1]; exact hQ false H1 hE1 (no fun h => by have := h.s; omega)
  by_cases p0 : g.publics < 0
  · simp only [start, KC_normal, go_sem, Nat.reduceEqDiff, Nat.reduceAdd, reduceIte, reduceCtorEq, Nat.reduceLeDiff, Nat.reduceShiftRight, Nat.reduceAnd, Nat.reduceOr, Nat.reducePow, Nat.reduceBNe, Nat.reduceBEq, h7, s0, s1, p0]; exact hQ false H1 hE1 (no fun h => by have := h.p; omega)
  by_cases p1 : 1000 < g.publics
  · simp only [start, KC_normal, go_sem, Nat.reduceEqDiff, Nat.reduceAdd, reduceIte, reduceCtorEq, Nat.reduceLeDiff, Nat.reduceShiftRight, Nat.reduceAnd, Nat.reduceOr, Nat.reducePow, Nat.reduceBNe, Nat.reduceBEq, h7, s0, s1, p0, p1]; exact hQ false H1 hE1 (no fun h => by have := h.p; omega)
  by_cases l1 : (8000 : Int) < (g.gates.length : Int)
  · simp only [start, KC_normal, go_sem, Nat.reduceEqDiff, Nat.reduceAdd, reduceIte, reduceCtorEq, Nat.reduceLeDiff, Nat.reduceShiftRight, Nat.reduceAnd, Nat.reduceOr, Nat.reducePow, Nat.reduceBNe, Nat.reduceBEq, h7, s0, s1, p0, p1, l1]; exact hQ false H1 hE1 (no fun h => by have := h.l; omega)
  simp only [start, KC_normal, go_sem, Nat.reduceEqDiff, Nat.reduceAdd, reduceIte, reduceCtorEq, Nat.reduceLeDiff, Nat.reduceShiftRight, Nat.reduceAnd, Nat.reduceOr, Nat.reducePow, Nat.reduceBNe, Nat.reduceBEq, h7, s0, s1, p0, p1, l1]
  refine wp_loop TT.ok rfl rfl (fun j s => ∃ tm H' i, s = ⟨tm, 60, [], false, H'⟩ ∧ j = g.gates.length - i ∧ i ≤ g.gates.length ∧ Ext H1 H' ∧ (∀ (k : Nat) (x : GateM), k < i → g.gates[k]? = some x → gOkM g k x) ∧
    tm.get 1 = some (.pointer (some ⟨H.next, 0, none⟩)) ∧ tm.get 32 = some (.int .i64 (g.gates.length : Nat)) ∧ tm.get 33 = some (.int .i64 (i : Nat))) g.gates.length ?_ ?_
  · refine ⟨_, H1, 0, rfl, rfl, Nat.zero_le _, Ext.refl _, fun k x hk => by omega, ?_, ?_, ?_⟩
    all_goals simp only [start, KC_normal, go_sem, Nat.reduceEqDiff, Nat.reduceAdd, reduceIte, reduceCtorEq, Nat.reduceLeDiff, Nat.reduceShiftRight, Nat.reduceAnd, Nat.reduceOr, Nat.reducePow, Nat.reduceBNe, Nat.reduceBEq]
    rfl
  · rintro j s - ⟨tm, H', i, rfl, hj, hi, hE, hok, t1, t32, t33⟩
    have hk := (hE.get H.next (by omega)).trans h7
    simp only [start, KC_normal, go_sem, Nat.reduceEqDiff, Nat.reduceAdd, reduceIte, reduceCtorEq, Nat.reduceLeDiff, Nat.reduceShiftRight, Nat.reduceAnd, Nat.reduceOr, Nat.reducePow, Nat.reduceBNe, Nat.reduceBEq, t32, t33]
    refine CN_split (fun hlt => ?_) (fun hge => ?_)
    · have hlt' : i < g.gates.length := by omega
      obtain ⟨x, hx⟩ : ∃ x, g.gates[i]? = some x := ⟨_, List.getElem?_eq_getElem hlt'⟩
      simp only [start, KC_normal, go_sem, Nat.reduceEqDiff, Nat.reduceAdd, reduceIte, reduceCtorEq, Nat.reduceLeDiff, Nat.reduceShiftRight, Nat.reduceAnd, Nat.reduceOr, Nat.reducePow, Nat.reduceBNe, Nat.reduceBEq, t1, t33, hk]
      refine h85 (hv0.step (hE1.trans hE).step) (by omega) (by omega) (by omega) hx fun r H2 hE2 hr => ?_
      cases r with
      | false =>
        simp only [start, KC_normal, go_sem, Nat.reduceEqDiff, Nat.reduceAdd, reduceIte, reduceCtorEq, Nat.reduceLeDiff, Nat.reduceShiftRight, Nat.reduceAnd, Nat.reduceOr, Nat.reducePow, Nat.reduceBNe, Nat.reduceBEq]
        exact hQ false H2 ((hE1.trans hE).trans hE2) (no fun h => by have := hr.2 (h.t i x hx); cases this)
      | true =>
        simp only [start, KC_normal, go_sem, Nat.reduceEqDiff, Nat.reduceAdd, reduceIte, reduceCtorEq, Nat.reduceLeDiff, Nat.reduceShiftRight, Nat.reduceAnd, Nat.reduceOr, Nat.reducePow, Nat.reduceBNe, Nat.reduceBEq, t33]
        refine ⟨g.gates.length - (i + 1), by omega, _, H2, i + 1, rfl, rfl, by omega, hE.trans hE2, fun k y hk hy => ?_, ?_, ?_, ?_⟩
        · rcases Nat.lt_or_ge k i with h | h
          · exact hok k y h hy
          · have : k = i := by omega
            subst this
            rw [hx] at hy
            cases hy
            exact hr.1 rfl
        all_goals simp only [start, KC_normal, go_sem, Nat.reduceEqDiff, Nat.reduceAdd, reduceIte, reduceCtorEq, Nat.reduceLeDiff, Nat.reduceShiftRight, Nat.reduceAnd, Nat.reduceOr, Nat.reducePow, Nat.reduceBNe, Nat.reduceBEq, t1, t32]
        rw [wrap_i64 _ (by omega) (by omega)]; simp
    · have hi' : i = g.gates.length := by omega
      subst hi'
      simp only [start, KC_normal, go_sem, Nat.reduceEqDiff, Nat.reduceAdd, reduceIte, reduceCtorEq, Nat.reduceLeDiff, Nat.reduceShiftRight, Nat.reduceAnd, Nat.reduceOr, Nat.reducePow, Nat.reduceBNe, Nat.reduceBEq, t1, hk]
      refine wp_loop TT.ok rfl rfl (fun j s => ∃ tm H' i, s = ⟨tm, 60, [], false, H'⟩ ∧ j = g.outs.length - i ∧ i ≤ g.outs.length ∧ Ext H1 H' ∧ (∀ (k : Nat) (o : OutM), k < i → g.outs[k]? = some o → 0 ≤ o.At ∧ o.At < g.gates.length) ∧
        tm.get 1 = some (.pointer (some ⟨H.next, 0, none⟩)) ∧ tm.get 42 = some (.slice au g.outs.length cu) ∧ tm.get 43 = some (.int .i64 (g.outs.length : Nat)) ∧ tm.get 44 = some (.int .i64 (i : Nat))) g.outs.length ?_ ?_
      · refine ⟨_, H', 0, rfl, rfl, Nat.zero_le _, hE, fun k x hk => by omega, ?_, ?_, ?_, ?_⟩
        all_goals simp only [start, KC_normal, go_sem, Nat.reduceEqDiff, Nat.reduceAdd, reduceIte, reduceCtorEq, Nat.reduceLeDiff, Nat.reduceShiftRight, Nat.reduceAnd, Nat.reduceOr, Nat.reducePow, Nat.reduceBNe, Nat.reduceBEq, t1]
        rfl
      · clear hE t1 t32 t33 hk hj
        rintro j2 s - ⟨tm, H', i, rfl, hj, hi, hE, hoo, t1, t42, t43, t44⟩
        have hk := (hE.get H.next (by omega)).trans h7
        simp only [start, KC_normal, go_sem, Nat.reduceEqDiff, Nat.reduceAdd, reduceIte, reduceCtorEq, Nat.reduceLeDiff, Nat.reduceShiftRight, Nat.reduceAnd, Nat.reduceOr, Nat.reducePow, Nat.reduceBNe, Nat.reduceBEq, t42, t43, t44]
        refine CN_split (fun hlt => ?_) (fun hge => ?_)
        · have hlt' : i < g.outs.length := by omega
          obtain ⟨o, hx⟩ : ∃ o, g.outs[i]? = some o := ⟨_, List.getElem?_eq_getElem hlt'⟩
          obtain ⟨bo, oo, owo, Co, rfl, hko, hCo⟩ := huA.all OutM.len (by omega)
          have hseg := (hCo _ _ hx).2
          simp only [OutM.c] at hseg
          simp only [start, KC_normal, go_sem, Nat.reduceEqDiff, Nat.reduceAdd, reduceIte, reduceCtorEq, Nat.reduceLeDiff, Nat.reduceShiftRight, Nat.reduceAnd, Nat.reduceOr, Nat.reducePow, Nat.reduceBNe, Nat.reduceBEq, t1, t42, t44, ia_in _ _ _ _ _ hlt', (hko.step (hE1.trans hE).step).get, hseg]
          generalize hY : (H'.push _).put _ _ = H3
          obtain ⟨hE3, h9, hn3⟩ := new_put hY
          clear hY
          have hle := hE.le
          have hk3 := (hE3.get H.next (by omega)).trans hk
          have hEE := (hE1.trans hE).trans hE3
          by_cases a0 : o.At < 0
          · simp only [start, KC_normal, go_sem, Nat.reduceEqDiff, Nat.reduceAdd, reduceIte, reduceCtorEq, Nat.reduceLeDiff, Nat.reduceShiftRight, Nat.reduceAnd, Nat.reduceOr, Nat.reducePow, Nat.reduceBNe, Nat.reduceBEq, h9, a0]; exact hQ false H3 hEE (no fun h => by have := h.o i o hx; omega)
          by_cases a1 : (g.gates.length : Int) ≤ o.At
          · simp only [start, KC_normal, go_sem, Nat.reduceEqDiff, Nat.reduceAdd, reduceIte, reduceCtorEq, Nat.reduceLeDiff, Nat.reduceShiftRight, Nat.reduceAnd, Nat.reduceOr, Nat.reducePow, Nat.reduceBNe, Nat.reduceBEq, t1, h9, a0, hk3, a1]; exact hQ false H3 hEE (no fun h => by have := h.o i o hx; omega)
          simp only [start, KC_normal, go_sem, Nat.reduceEqDiff, Nat.reduceAdd, reduceIte, reduceCtorEq, Nat.reduceLeDiff, Nat.reduceShiftRight, Nat.reduceAnd, Nat.reduceOr, Nat.reducePow, Nat.reduceBNe, Nat.reduceBEq, t1, h9, a0, hk3, a1, t44]
          refine ⟨g.outs.length - (i + 1), by omega, _, H3, i + 1, rfl, rfl, by omega, hE.trans hE3, fun k y hk hy => ?_, ?_, ?_, ?_, ?_⟩
          · rcases Nat.lt_or_ge k i with h | h
            · exact hoo k y h hy
            · have : k = i := by omega
              subst this
              rw [hx] at hy
              cases hy
              omega
          all_goals simp only [start, KC_normal, go_sem, Nat.reduceEqDiff, Nat.reduceAdd, reduceIte, reduceCtorEq, Nat.reduceLeDiff, Nat.reduceShiftRight, Nat.reduceAnd, Nat.reduceOr, Nat.reducePow, Nat.reduceBNe, Nat.reduceBEq, t1, t42, t43]
          rw [wrap_i64 _ (by omega) (by omega)]; simp
        · simp only [start, KC_normal, go_sem, Nat.reduceEqDiff, Nat.reduceAdd, reduceIte, reduceCtorEq, Nat.reduceLeDiff, Nat.reduceShiftRight, Nat.reduceAnd, Nat.reduceOr, Nat.reducePow, Nat.reduceBNe, Nat.reduceBEq]
          exact hQ true H' (hE1.trans hE) ⟨fun _ => ⟨by omega, by omega, by omega, fun k x hx => hok k x (lt_of_get hx) hx, fun k o hx => hoo k o (by have := lt_of_get hx; omega) hx⟩, fun _ => rfl⟩

theorem f78_c (h85 : GatC) : CirC := by
  intro F H v g hv hl Q hQ
  have hv0 := hv.noF
  obtain ⟨v1, v2, rfl, hg1, hg2⟩ := hv.noF.ex
  obtain ⟨ag, cg, rfl, h3, h4, hgA⟩ := hg1.ex
  obtain ⟨au, cu, rfl, h5, h6, huA⟩ := hg2.ex
  refine SemC_fn TT.ok fn78 rfl rfl ?_
  simp only [Try.f78, start, KC_normal, go_sem, Nat.reduceEqDiff, Nat.reduceAdd, reduceIte, reduceCtorEq, Nat.reduceLeDiff, Nat.reduceShiftRight, Nat.reduceAnd, Nat.reduceOr, Nat.reducePow, Nat.reduceBNe, Nat.reduceBEq]
  generalize hX : H.push _ = H1
  obtain ⟨hE1, h7, hn1⟩ := new_push hX
  clear hX
  refine f84_c h85 (hv0.step hE1.step) hl fun r H2 hE2 hr => ?_
  simp only [start, KC_normal, go_sem, Nat.reduceEqDiff, Nat.reduceAdd, reduceIte, reduceCtorEq, Nat.reduceLeDiff, Nat.reduceShiftRight, Nat.reduceAnd, Nat.reduceOr, Nat.reducePow, Nat.reduceBNe, Nat.reduceBEq]
  exact hQ _ H2 (hE1.trans hE2) hr
end Go.Ab.Ex
end
section
namespace Go.Ab.Ex
open Go.Proofs
set_option maxRecDepth 10000

theorem outOps_ok {inn : Int} {d k : Nat} {row : List Int} (hw : WiresOk row (inn + (k : Int))) : OpsOk inn k (outOps d row) := by
  intro i o hio
  have hi : i < d + 1 := by have := lt_of_get hio; rwa [outOps_len] at this
  rw [outOps_get hi] at hio
  by_cases h : i < row.length
  · rw [if_pos h] at hio
    cases hio
    have := hw.getD h
    exact opOk_one (.inr (.inl rfl)) ⟨this.1, by omega⟩ (fun _ => rfl) (by decide)
  · rw [if_neg h] at hio
    cases hio
    exact opOk_const

theorem runO_ok {inn : Int} (h0 : 0 ≤ inn) {d : Nat} {rows : List (List Int)} : ∀ (l : List OutM) (s : List OpM × List Int), OpsOk inn 0 s.1 → WiresOk s.2 (inn + (s.1.length : Int)) → (∀ o ∈ l, WiresOk (rowOf rows o.At) (inn + (s.1.length : Int))) →
    OpsOk inn 0 (l.foldl (stepO d inn rows) s).1 ∧ WiresOk (l.foldl (stepO d inn rows) s).2 (inn + ((l.foldl (stepO d inn rows) s).1.length : Int))
  | [], s, h1, h2, _ => ⟨h1, h2⟩
  | o :: l, s, h1, h2, h3 => by
    rw [List.foldl_cons]
    have hlen : ((stepO d inn rows s o).1.length : Int) = s.1.length + (d + 1) := by simp only [stepO, List.length_append, outOps_len]; omega
    refine runO_ok h0 l _ ?_ ?_ fun o' ho' => ?_
    · simp only [stepO]
      refine h1.append ?_
      rw [Nat.zero_add]
      exact outOps_ok (h3 o List.mem_cons_self)
    · rw [hlen]
      intro x hx
      simp only [stepO, List.mem_append, List.mem_map, List.mem_range] at hx
      rcases hx with hx | ⟨k, hk, rfl⟩
      · have := h2 x hx; omega
      · omega
    · rw [hlen]
      exact (h3 o' (List.mem_cons_of_mem _ ho')).mono (by omega)

theorem codeM_ok {g : CircM} (h : GraphOk g) {d : Nat} (hd : 1 ≤ d ∧ d ≤ 6) (hf : g.gates.length ≤ 150 ∧ g.outs.length ≤ 50) (hin : innM g d ≤ 4000) : CodeOk (innM g d) (codeM g d).1 (codeM g d).2 := by
  have hs := h.c.s
  have hp := h.c.p
  have hi0 : 0 ≤ innM g d := by
    unfold innM
    exact Int.add_nonneg (Int.mul_nonneg hs.1 (by omega)) hp.1
  have hR := rows_run h hd g.gates.length (Nat.le_refl _)
  rw [List.take_length] at hR
  have hn := hR.n
  have hr := runO_ok hi0 (d := d) (rows := (runG g d (innM g d) g.gates).2) g.outs ((runG g d (innM g d) g.gates).1, []) hR.fit (fun x hx => by cases hx) fun o ho => by
    obtain ⟨k, hk⟩ := List.getElem?_of_mem ho
    have hoo : 0 ≤ o.At ∧ o.At < g.gates.length := by have := h.c.o k o hk; rwa [as_len] at this
    exact hR.wires o.At hoo.1 hoo.2
  have hl := runO_len d (innM g d) (runG g d (innM g d) g.gates).2 g.outs ((runG g d (innM g d) g.gates).1, [])
  have hk7 : g.outs.length * (d + 1) ≤ 350 := by
    have h1 : g.outs.length * (d + 1) ≤ g.outs.length * 7 := Nat.mul_le_mul_left _ (by omega)
    omega
  simp only at hl
  refine ⟨⟨hi0, hin⟩, ?_, fun i o hio => ?_, fun i x hx => hr.2 x (List.mem_of_getElem? hx)⟩
  · have hc : (codeM g d).1.length = _ := hl
    omega
  · have := hr.1 i o hio
    rwa [Nat.zero_add] at this

theorem zero_ok : CodeOk 0 [] [] := ⟨by omega, by simp, fun i o h => by simp at h, fun i x h => by simp at h⟩

theorem expandM_ok {g : CircM} {d : Int} (hf : g.gates.length ≤ 150 ∧ g.outs.length ≤ 50) : CodeOk (expandM g d).1.1 (expandM g d).1.2.1 (expandM g d).1.2.2 := by
  unfold expandM
  split
  · exact zero_ok
  · rename_i hg
    split
    · exact zero_ok
    · split
      · exact zero_ok
      · rename_i h1 h2
        obtain ⟨D, rfl⟩ : ∃ D : Nat, d = (D : Int) := ⟨d.toNat, by omega⟩
        have : g.secrets * ((D : Int) + 1) + g.publics = innM g D := rfl
        rw [this] at h2
        rw [Int.toNat_natCast]
        exact codeM_ok (Classical.not_not.1 hg) (by omega) hf (by omega)
end Go.Ab.Ex
end
section
namespace Go.Ab.Ex
open Go.Proofs
set_option maxRecDepth 10000
set_option maxHeartbeats 1000000

theorem f9_c (h44 : CanC) {F : Fr} {H : Heap} {v : Value} {g : CircM} {d : Int} (hv : CircR F H v g) (hf : g.gates.length ≤ 150 ∧ g.outs.length ≤ 50) {Q : Ret → Heap → Prop}
    (hQ : ∀ H' u, Ext H H' → (∀ G, Bd G H → CodeR G H' u (expandM g d).1.1 (expandM g d).1.2.1 (expandM g d).1.2.2) → Q (.ret (.tuple #[u, .int .i64 (expandM g d).2])) H') : C 9 #[v, .int .i64 d] H Q := by
  have hv0 := hv.noF
  obtain ⟨v1, v2, rfl, hg1, hg2⟩ := hv.noF.ex
  obtain ⟨ag, cg, rfl, h3, h4, hgA⟩ := hg1.ex
  obtain ⟨au, cu, rfl, h5, h6, huA⟩ := hg2.ex
  clear hv hg1 hg2
  refine SemC_fn TT.ok fn9 rfl rfl ?_
  simp only [Try.f9, start, KC_normal, go_sem, Nat.reduceEqDiff, Nat.reduceAdd, reduceIte, reduceCtorEq, Nat.reduceLeDiff, Nat.reduceShiftRight, Nat.reduceAnd, Nat.reduceOr, Nat.reducePow, Nat.reduceBNe, Nat.reduceBEq]
  generalize hX : (H.push _).push _ = H1
  obtain ⟨hE1, h7, h8, hn1⟩ := pre2 hX
  clear hX
  simp only [start, KC_normal, go_sem, Nat.reduceEqDiff, Nat.reduceAdd, reduceIte, reduceCtorEq, Nat.reduceLeDiff, Nat.reduceShiftRight, Nat.reduceAnd, Nat.reduceOr, Nat.reducePow, Nat.reduceBNe, Nat.reduceBEq, h7]
  refine f28_c h44 (hv0.step hE1.step) hf fun H2 u hE2 hu => ?_
  have hE12 := hE1.trans hE2
  have hle2 := hE2.le
  have h82 := (hE2.get _ (by omega)).trans h8
  obtain ⟨u1, u2, rfl, hs1, hs2⟩ := hu noF (noF_Bd _)
  obtain ⟨x1, x2, rfl⟩ := hs1.len
  obtain ⟨x3, x4, rfl⟩ := hs2.len
  simp only [start, KC_normal, go_sem, Nat.reduceEqDiff, Nat.reduceAdd, reduceIte, reduceCtorEq, Nat.reduceLeDiff, Nat.reduceShiftRight, Nat.reduceAnd, Nat.reduceOr, Nat.reducePow, Nat.reduceBNe, Nat.reduceBEq, h82]
  refine hQ _ _ (hE12.put (show H.next ≤ H.next + 1 by omega) _) fun G hB => ?_
  have h9 := hu (fun j => G j ∨ j = H.next + 1) ⟨fun j hj => by rcases hj with h | h; have := hB.lt j h; omega; omega⟩
  exact (h9.step (Step.put (F := fun j => G j ∨ j = H.next + 1) (F' := fun j => G j ∨ j = H.next + 1) Step.refl (.inl (.inr rfl)) _)).more fun j hj => .inl (.inl hj)
end Go.Ab.Ex
end
section
namespace Go.Ab.Ex
open Go.Proofs
set_option maxRecDepth 10000
set_option maxHeartbeats 1000000

theorem runO_outs (d : Nat) (inn : Int) (rows : List (List Int)) : ∀ (l : List OutM) (s : List OpM × List Int), (l.foldl (stepO d inn rows) s).2.length = s.2.length + l.length * (d + 1)
  | [], s => by simp
  | o :: l, s => by
    rw [List.foldl_cons, runO_outs d inn rows l, List.length_cons, Nat.succ_mul]
    simp only [stepO, List.length_append, List.length_map, List.length_range]
    omega
theorem expandM_outs {g : CircM} {d : Int} (hf : g.gates.length ≤ 150 ∧ g.outs.length ≤ 50) : (expandM g d).1.2.2.length < 1000000 := by
  unfold expandM
  split
  · simp
  · split
    · simp
    · split
      · simp
      · rename_i h1 h2
        have hc : (codeM g d.toNat).2.length = _ := runO_outs _ _ _ _ _
        have h1 : g.outs.length * (d.toNat + 1) ≤ g.outs.length * 7 := Nat.mul_le_mul_left _ (by omega)
        simp only [List.length_nil] at hc
        show (codeM g d.toNat).2.length < 1000000
        omega

end Go.Ab.Ex
end
