/- Parts of the proof, joined by program: Wire: what is plain, what is a graph, by the document; Wire: the program's Can of a graph: a list of gates of its own; Wire: the program's graph with a kind in the place of each fresh one; Wire: the program's Can of a graph: the most a gate's number may be; kinds that are no graph's; Wire: the first gate of a kind; Wire: whether there is a gate of a kind; Wire: codes that are the same. -/
import Derived.Test.YtmodeilippcbnaaR13
import Derived.Test.YtmodeilippcbnaaR12
import Derived.Test.YtmodeilippcbnaaR06
set_option linter.all false
section
namespace Go.Ab.Ex
open Go.Proofs
set_option maxRecDepth 10000
set_option maxHeartbeats 1000000

theorem lt_of_get {α : Type} {l : List α} {i : Nat} {x : α} (h : l[i]? = some x) : i < l.length := by
  rcases Nat.lt_or_ge i l.length with h' | h'
  · exact h'
  · rw [List.getElem?_eq_none h'] at h; cases h

theorem f39_c {F : Fr} {H : Heap} {v : Value} {g : CircM} (hv : CircR F H v g) (hl : g.gates.length < 1000000 ∧ g.outs.length < 1000000) {Q : Ret → Heap → Prop}
    (hQ : ∀ r H', Ext H H' → (r = true ↔ CircOk g ∧ ∀ (i : Nat) (x : GateM), g.gates[i]? = some x → x.K ≤ 8) → Q (.ret (.bool r)) H') : C 39 #[v] H Q := by
  have hv0 := hv
  obtain ⟨v1, v2, rfl, hg1, hg2⟩ := hv.noF.ex
  obtain ⟨ag, cg, rfl, h3, h4, hgA⟩ := hg1.ex
  obtain ⟨au, cu, rfl, h5, h6, huA⟩ := hg2.ex
  refine SemC_fn TT.ok fn39 rfl rfl ?_
  simp only [Try.f39, start, KC_normal, go_sem, Nat.reduceEqDiff, Nat.reduceAdd, reduceIte, reduceCtorEq, Nat.reduceLeDiff, Nat.reduceShiftRight, Nat.reduceAnd, Nat.reduceOr, Nat.reducePow, Nat.reduceBNe, Nat.reduceBEq]
  refine wp_loop TT.ok rfl rfl (fun j s => ∃ tm H' i, s = ⟨tm, 20, [], false, H'⟩ ∧ j = g.gates.length - i ∧ i ≤ g.gates.length ∧ Ext H H' ∧
    Kp noF H' H.next (.cells true 4 [.slice ag g.gates.length cg, .int .i64 g.secrets, .int .i64 g.publics, .slice au g.outs.length cu]) ∧ (∀ (j : Nat) (x : GateM), j < i → g.gates[j]? = some x → x.K ≤ 8) ∧
    tm.get 1 = some (.pointer (some ⟨H.next, 0, none⟩)) ∧ tm.get 3 = some (.int .i64 (i : Nat))) g.gates.length ?_ ?_
  · refine ⟨_, _, 0, rfl, rfl, Nat.zero_le _, (Ext.refl H).push _, ⟨Nat.lt_succ_self _, noF_not _, H_get_new _ _⟩, fun j x hj => by omega, ?_, ?_⟩
    all_goals simp only [start, KC_normal, go_sem, Nat.reduceEqDiff, Nat.reduceAdd, reduceIte, reduceCtorEq, Nat.reduceLeDiff, Nat.reduceShiftRight, Nat.reduceAnd, Nat.reduceOr, Nat.reducePow, Nat.reduceBNe, Nat.reduceBEq]
    rfl
  · rintro j s - ⟨tm, H', i, rfl, hj, hi, hE, hk, hall, t1, t3⟩
    simp only [start, KC_normal, go_sem, Nat.reduceEqDiff, Nat.reduceAdd, reduceIte, reduceCtorEq, Nat.reduceLeDiff, Nat.reduceShiftRight, Nat.reduceAnd, Nat.reduceOr, Nat.reducePow, Nat.reduceBNe, Nat.reduceBEq, t1, t3, hk.get]
    refine CN_split (fun hlt => ?_) (fun hge => ?_)
    · have hlt' : i < g.gates.length := by omega
      obtain ⟨x, hx⟩ : ∃ x, g.gates[i]? = some x := ⟨_, List.getElem?_eq_getElem hlt'⟩
      obtain ⟨bg, og, owg, Cg, rfl, hkg, hCg⟩ := hgA.all GateM.len (by omega)
      have hK := (hCg i x hx).1 0 (by omega)
      simp only [GateM.c, Nat.add_zero, List.getElem?_cons_zero] at hK
      simp only [start, KC_normal, go_sem, Nat.reduceEqDiff, Nat.reduceAdd, reduceIte, reduceCtorEq, Nat.reduceLeDiff, Nat.reduceShiftRight, Nat.reduceAnd, Nat.reduceOr, Nat.reducePow, Nat.reduceBNe, Nat.reduceBEq, t1, t3, hk.get, ia_in _ _ _ _ _ hlt', (hkg.step hE.step).get, hK]
      refine CN_split (fun h8 => ?_) (fun h8 => ?_)
      · simp only [start, KC_normal, go_sem, Nat.reduceEqDiff, Nat.reduceAdd, reduceIte, reduceCtorEq, Nat.reduceLeDiff, Nat.reduceShiftRight, Nat.reduceAnd, Nat.reduceOr, Nat.reducePow, Nat.reduceBNe, Nat.reduceBEq]
        refine hQ false _ hE ?_
        simp only [Bool.false_eq_true, false_iff]
        exact fun hc => by have := hc.2 i x hx; omega
      · simp only [start, KC_normal, go_sem, Nat.reduceEqDiff, Nat.reduceAdd, reduceIte, reduceCtorEq, Nat.reduceLeDiff, Nat.reduceShiftRight, Nat.reduceAnd, Nat.reduceOr, Nat.reducePow, Nat.reduceBNe, Nat.reduceBEq, t3]
        refine ⟨g.gates.length - (i + 1), by omega, _, H', i + 1, rfl, rfl, by omega, hE, hk, fun j y hj hy => ?_, ?_, ?_⟩
        · rcases Nat.lt_or_ge j i with hj' | hj'
          · exact hall j y hj' hy
          · obtain rfl : j = i := by omega
            rw [hx] at hy; cases hy; omega
        all_goals simp only [start, KC_normal, go_sem, Nat.reduceEqDiff, Nat.reduceAdd, reduceIte, reduceCtorEq, Nat.reduceLeDiff, Nat.reduceShiftRight, Nat.reduceAnd, Nat.reduceOr, Nat.reducePow, Nat.reduceBNe, Nat.reduceBEq, t1]
        rw [wrap_i64 _ (by omega) (by omega)]; simp
    · have hi' : i = g.gates.length := by omega
      subst hi'
      simp only [start, KC_normal, go_sem, Nat.reduceEqDiff, Nat.reduceAdd, reduceIte, reduceCtorEq, Nat.reduceLeDiff, Nat.reduceShiftRight, Nat.reduceAnd, Nat.reduceOr, Nat.reducePow, Nat.reduceBNe, Nat.reduceBEq, t1, hk.get]
      refine f55_c (hv0.noF.step hE.step) hl fun r H'' hE'' hr => ?_
      simp only [start, KC_normal, go_sem, Nat.reduceEqDiff, Nat.reduceAdd, reduceIte, reduceCtorEq, Nat.reduceLeDiff, Nat.reduceShiftRight, Nat.reduceAnd, Nat.reduceOr, Nat.reducePow, Nat.reduceBNe, Nat.reduceBEq]
      refine hQ r _ (hE.trans hE'') ?_
      rw [hr]
      exact ⟨fun h => ⟨h, fun j x hjx => hall j x (lt_of_get hjx) hjx⟩, fun h => h.1⟩

theorem as_get {g : CircM} {k : Int} {i : Nat} {x : GateM} (h : g.gates[i]? = some x) : (g.as k).gates[i]? = some (asG k x) := by
  simp [CircM.as, h]
theorem as_len (g : CircM) (k : Int) : (g.as k).gates.length = g.gates.length := by simp [CircM.as]

theorem f23_c {F : Fr} {H : Heap} {v : Value} {g : CircM} (hv : CircR F H v g) (hl : g.gates.length < 1000000 ∧ g.outs.length < 1000000) {Q : Ret → Heap → Prop}
    (hQ : ∀ r H', Ext H H' → (r = true ↔ GraphOk g) → Q (.ret (.bool r)) H') : C 23 #[v] H Q := by
  have hv0 := hv
  obtain ⟨v1, v2, rfl, hg1, hg2⟩ := hv.noF.ex
  obtain ⟨ag, cg, rfl, h3, h4, hgA⟩ := hg1.ex
  obtain ⟨au, cu, rfl, h5, h6, huA⟩ := hg2.ex
  refine SemC_fn TT.ok fn23 rfl rfl ?_
  simp only [Try.f23, start, KC_normal, go_sem, Nat.reduceEqDiff, Nat.reduceAdd, reduceIte, reduceCtorEq, Nat.reduceLeDiff, Nat.reduceShiftRight, Nat.reduceAnd, Nat.reduceOr, Nat.reducePow, Nat.reduceBNe, Nat.reduceBEq]
  generalize hX : H.push _ = H1
  obtain ⟨hE1, h7, hn1⟩ := new_push hX
  clear hX
  refine f40_c (hv0.noF.step hE1.step) hl fun H2 u hE2 hown => ?_
  simp only [start, KC_normal, go_sem, Nat.reduceEqDiff, Nat.reduceAdd, reduceIte, reduceCtorEq, Nat.reduceLeDiff, Nat.reduceShiftRight, Nat.reduceAnd, Nat.reduceOr, Nat.reducePow, Nat.reduceBNe, Nat.reduceBEq]
  refine f39_c (hown.r (noF_Bd _)) (by rw [as_len]; exact hl) fun r H3 hE3 hr => ?_
  simp only [start, KC_normal, go_sem, Nat.reduceEqDiff, Nat.reduceAdd, reduceIte, reduceCtorEq, Nat.reduceLeDiff, Nat.reduceShiftRight, Nat.reduceAnd, Nat.reduceOr, Nat.reducePow, Nat.reduceBNe, Nat.reduceBEq]
  have hE13 := hE1.trans (hE2.trans hE3)
  have h73 := ((hE2.trans hE3).get _ (by omega)).trans h7
  cases r with
  | false =>
    simp only [start, KC_normal, go_sem, Nat.reduceEqDiff, Nat.reduceAdd, reduceIte, reduceCtorEq, Nat.reduceLeDiff, Nat.reduceShiftRight, Nat.reduceAnd, Nat.reduceOr, Nat.reducePow, Nat.reduceBNe, Nat.reduceBEq]
    refine hQ false _ hE13 ?_
    simp only [Bool.false_eq_true, false_iff] at hr ⊢
    exact fun hc => hr ⟨hc.c, hc.k⟩
  | true =>
    simp only [start, KC_normal, go_sem, Nat.reduceEqDiff, Nat.reduceAdd, reduceIte, reduceCtorEq, Nat.reduceLeDiff, Nat.reduceShiftRight, Nat.reduceAnd, Nat.reduceOr, Nat.reducePow, Nat.reduceBNe, Nat.reduceBEq]
    have hr := hr.1 rfl
    refine wp_loop TT.ok rfl rfl (fun j s => ∃ tm H' i, s = ⟨tm, 36, [], false, H'⟩ ∧ j = g.gates.length - i ∧ i ≤ g.gates.length ∧ Ext H H' ∧
      Kp noF H' H.next (.cells true 4 [.slice ag g.gates.length cg, .int .i64 g.secrets, .int .i64 g.publics, .slice au g.outs.length cu]) ∧ (∀ (j : Nat) (x : GateM), j < i → g.gates[j]? = some x → x.K = 12 → g.sec x.A = true) ∧
      tm.get 1 = some (.pointer (some ⟨H.next, 0, none⟩)) ∧ tm.get 3 = some (.int .i64 (i : Nat))) g.gates.length ?_ ?_
    · refine ⟨_, H3, 0, rfl, rfl, Nat.zero_le _, hE13, ⟨by have := hE2.le; have := hE3.le; omega, noF_not _, h73⟩, fun j x hj => by omega, ?_, ?_⟩
      all_goals simp only [start, KC_normal, go_sem, Nat.reduceEqDiff, Nat.reduceAdd, reduceIte, reduceCtorEq, Nat.reduceLeDiff, Nat.reduceShiftRight, Nat.reduceAnd, Nat.reduceOr, Nat.reducePow, Nat.reduceBNe, Nat.reduceBEq]
      rfl
    · rintro j s - ⟨tm, H', i, rfl, hj, hi, hE, hk, hall, t1, t3⟩
      simp only [start, KC_normal, go_sem, Nat.reduceEqDiff, Nat.reduceAdd, reduceIte, reduceCtorEq, Nat.reduceLeDiff, Nat.reduceShiftRight, Nat.reduceAnd, Nat.reduceOr, Nat.reducePow, Nat.reduceBNe, Nat.reduceBEq, t1, t3, hk.get]
      refine CN_split (fun hlt => ?_) (fun hge => ?_)
      · have hlt' : i < g.gates.length := by omega
        obtain ⟨x, hx⟩ : ∃ x, g.gates[i]? = some x := ⟨_, List.getElem?_eq_getElem hlt'⟩
        obtain ⟨bg, og, owg, Cg, rfl, hkg, hCg⟩ := hgA.all GateM.len (by omega)
        have hK := (hCg i x hx).1 0 (by omega)
        have hAA := (hCg i x hx).1 1 (by omega)
        simp only [GateM.c, Nat.add_zero, List.getElem?_cons_zero, List.getElem?_cons_succ] at hK hAA
        have hkg' := (hkg.step hE.step).get
        have ok : (x.K = 12 → g.sec x.A = true) → ∀ (j : Nat) (y : GateM), j < i + 1 → g.gates[j]? = some y → y.K = 12 → g.sec y.A = true := fun hg j y hj hy => by
          rcases Nat.lt_or_ge j i with hj' | hj'
          · exact hall j y hj' hy
          · obtain rfl : j = i := by omega
            rw [hx] at hy; cases hy; exact hg
        have e2 : IntKind.i64.wrap ((i : Int) + 1) = ((i + 1 : Nat) : Int) := by rw [wrap_i64 _ (by omega) (by omega)]; simp
        simp only [start, KC_normal, go_sem, Nat.reduceEqDiff, Nat.reduceAdd, reduceIte, reduceCtorEq, Nat.reduceLeDiff, Nat.reduceShiftRight, Nat.reduceAnd, Nat.reduceOr, Nat.reducePow, Nat.reduceBNe, Nat.reduceBEq]
        by_cases h12 : x.K = 12
        · have hgo := hr.1.t i _ (as_get (k := 5) hx)
          have hKa : (asG 5 x).K = 5 := by simp [asG, h12]
          have hAa : (asG 5 x).A = x.A := by simp [asG, h12]
          have hgo := (gOk_5 hKa).1 hgo
          rw [hAa] at hgo
          have hA := hgo.2.1
          have hAl : x.A < (g.gates.length : Int) := by omega
          obtain ⟨gA, hgA', hsecA⟩ := sec_get (g := g) hA.1 hAl
          have hgS := (hCg _ _ hgA').1 4 (by omega)
          simp only [GateM.c, List.getElem?_cons_succ, List.getElem?_cons_zero] at hgS
          cases hs : gA.S
          all_goals
            rw [hs] at hgS
            refine DRg_x TT.ok [0, 1, 0, 7, 15, 31, 63, 127, 255, 511, 255, 1279, 255, 7423, 15615, 31999, 65535, 131071, 262143, 524287, 1048575] 21 2097151 36 rfl (by decide +kernel) ?_
            simp only [start, KC_normal, go_sem, Nat.reduceEqDiff, Nat.reduceAdd, reduceIte, reduceCtorEq, Nat.reduceLeDiff, Nat.reduceShiftRight, Nat.reduceAnd, Nat.reduceOr, Nat.reducePow, Nat.reduceBNe, Nat.reduceBEq, t1, t3, hk.get, ia_in _ _ _ _ _ hlt', hkg', hK, hAA, h12, ia_int _ _ _ _ _ hA.1 hAl, hgS]
          · refine hQ false _ (hE.skip _) ?_
            simp only [Bool.false_eq_true, false_iff]
            exact fun hc => by have := hc.r i x hx h12; rw [hsecA, hs] at this; cases this
          · refine ⟨g.gates.length - (i + 1), by omega, _, _, i + 1, rfl, rfl, by omega, hE.skip _, hk.step ((Ext.refl H').skip _).step, ok (fun _ => by rw [hsecA, hs]), ?_, ?_⟩
            all_goals simp only [start, KC_normal, go_sem, Nat.reduceEqDiff, Nat.reduceAdd, reduceIte, reduceCtorEq, Nat.reduceLeDiff, Nat.reduceShiftRight, Nat.reduceAnd, Nat.reduceOr, Nat.reducePow, Nat.reduceBNe, Nat.reduceBEq, t1]
            rw [e2]
        · refine DRg_x TT.ok [0, 1, 0, 7, 15, 31, 63, 127, 255, 511, 255, 1279, 255, 7423, 15615, 31999, 65535, 131071, 262143, 524287, 1048575] 21 2097151 36 rfl (by decide +kernel) ?_
          simp only [start, KC_normal, go_sem, Nat.reduceEqDiff, Nat.reduceAdd, reduceIte, reduceCtorEq, Nat.reduceLeDiff, Nat.reduceShiftRight, Nat.reduceAnd, Nat.reduceOr, Nat.reducePow, Nat.reduceBNe, Nat.reduceBEq, t1, t3, hk.get, ia_in _ _ _ _ _ hlt', hkg', hK, h12]
          refine ⟨g.gates.length - (i + 1), by omega, _, _, i + 1, rfl, rfl, by omega, hE.skip _, hk.step ((Ext.refl H').skip _).step, ok (fun h => absurd h h12), ?_, ?_⟩
          all_goals simp only [start, KC_normal, go_sem, Nat.reduceEqDiff, Nat.reduceAdd, reduceIte, reduceCtorEq, Nat.reduceLeDiff, Nat.reduceShiftRight, Nat.reduceAnd, Nat.reduceOr, Nat.reducePow, Nat.reduceBNe, Nat.reduceBEq, t1]
          rw [e2]
      · have hi' : i = g.gates.length := by omega
        subst hi'
        simp only [start, KC_normal, go_sem, Nat.reduceEqDiff, Nat.reduceAdd, reduceIte, reduceCtorEq, Nat.reduceLeDiff, Nat.reduceShiftRight, Nat.reduceAnd, Nat.reduceOr, Nat.reducePow, Nat.reduceBNe, Nat.reduceBEq]
        refine hQ true _ hE ?_
        simp only [true_iff]
        exact ⟨hr.1, hr.2, fun j x hjx => hall j x (lt_of_get hjx) hjx⟩
end Go.Ab.Ex
end
section
namespace Go.Ab.Ex
open Go.Proofs
set_option maxRecDepth 10000
set_option maxHeartbeats 1000000

theorem bin_nil (ρ : Operand → Value) (o : Oper) (a : Option Addr) (n c : Nat) (h : a = none → n = 0 ∧ c = 0) : binO Try.prog TT ρ o .eql 22 (.slice a n c) (.slice none 0 0) = some (.bool a.isNone) := by
  cases a with
  | none => obtain ⟨rfl, rfl⟩ := h rfl; simp [binO, isEq, eqC, descOf, ty22]
  | some ad => simp [binO, isEq, eqC, descOf, ty22]

theorem f80_c {F : Fr} {H : Heap} {v : Value} {l : List GateM} (hv : Sl F H 5 v l.length (l.flatMap GateM.c)) (hl : l.length < 1000000) {Q : Ret → Heap → Prop}
    (hQ : ∀ H' u b, Ext H H' → Own1 H' 5 (l.flatMap GateM.c) u l.length b → (∀ j, b = some j → H.next ≤ j) → Q (.ret u) H') : C 80 #[v] H Q := by
  have hv0 := hv
  obtain ⟨a, cap, rfl, hc1, hc2, hA⟩ := hv.ex
  refine SemC_fn TT.ok fn80 rfl rfl ?_
  cases a with
  | none =>
    have h0 : l = [] := by
      cases hA with
      | nil h1 h2 h3 => exact List.length_eq_zero_iff.1 h1
    subst h0
    have hcap : cap = 0 := by
      cases hA with
      | nil h1 h2 h3 => exact h2
    subst hcap
    have e : ∀ ρ o, binO Try.prog TT ρ o .eql 22 (.slice none 0 0) (.slice none 0 0) = some (.bool true) := fun ρ o => bin_nil ρ o none 0 0 fun _ => ⟨rfl, rfl⟩
    simp only [Try.f80, start, KC_normal, go_sem, Nat.reduceEqDiff, Nat.reduceAdd, reduceIte, reduceCtorEq, Nat.reduceLeDiff, Nat.reduceShiftRight, Nat.reduceAnd, Nat.reduceOr, Nat.reducePow, Nat.reduceBNe, Nat.reduceBEq, List.length_nil, e]
    exact hQ H _ none (Ext.refl H) (.nil rfl) fun j hj => by cases hj
  | some ad =>
    have e : ∀ ρ o, binO Try.prog TT ρ o .eql 22 (.slice (some ad) l.length cap) (.slice none 0 0) = some (.bool false) := fun ρ o => bin_nil ρ o (some ad) _ _ fun h => by cases h
    simp only [Try.f80, start, KC_normal, go_sem, Nat.reduceEqDiff, Nat.reduceAdd, reduceIte, reduceCtorEq, Nat.reduceLeDiff, Nat.reduceShiftRight, Nat.reduceAnd, Nat.reduceOr, Nat.reducePow, Nat.reduceBNe, Nat.reduceBEq, e]
    generalize hX : H.push _ = H1
    obtain ⟨hE1, h9, hn1⟩ := new_push hX
    clear hX
    obtain ⟨v', H2, b', he, ho, hS, hb⟩ := app_own (T := TT) (t := 22) ty22 ty60 rfl (by omega) GateM.one (by omega) h9 (hv0.step hE1.step) hl
    simp only [he, start, KC_normal, go_sem, Nat.reduceEqDiff, Nat.reduceAdd, reduceIte, reduceCtorEq, Nat.reduceLeDiff, Nat.reduceShiftRight, Nat.reduceAnd, Nat.reduceOr, Nat.reducePow, Nat.reduceBNe, Nat.reduceBEq]
    have hle := hE1.le
    exact hQ H2 v' b' (hE1.app hS fun j hj => by cases hj; exact Nat.le_refl _) ho fun j hj => by have := hb j hj; omega
end Go.Ab.Ex
end
section
namespace Go.Ab.Ex
open Go.Proofs
set_option maxRecDepth 10000
set_option maxHeartbeats 1000000

theorem f70_c {F : Fr} {H : Heap} {v : Value} {g : CircM} (hv : CircR F H v g) (hl : g.gates.length < 1000000 ∧ g.outs.length < 1000000) {Q : Ret → Heap → Prop} (hQ : ∀ H' u, Ext H H' → CircR noF H' u (g.as 5) → Q (.ret u) H') : C 70 #[v, .int .i64 5, .int .u32 0] H Q := by
  have hv0 := hv.noF
  obtain ⟨v1, v2, rfl, hg1, hg2⟩ := hv.noF.ex
  have hg20 := hg2
  obtain ⟨ag, cg, rfl, h3, h4, hgA⟩ := hg1.ex
  obtain ⟨au, cu, rfl, h5, h6, huA⟩ := hg2.ex
  refine SemC_fn TT.ok fn70 rfl rfl ?_
  simp only [Try.f70, start, KC_normal, go_sem, Nat.reduceEqDiff, Nat.reduceAdd, reduceIte, reduceCtorEq, Nat.reduceLeDiff, Nat.reduceShiftRight, Nat.reduceAnd, Nat.reduceOr, Nat.reducePow, Nat.reduceBNe, Nat.reduceBEq]
  generalize hX : (H.push _).push _ = H1
  obtain ⟨hE1, h7, h8, hn1⟩ := pre2 hX
  clear hX
  simp only [start, KC_normal, go_sem, Nat.reduceEqDiff, Nat.reduceAdd, reduceIte, reduceCtorEq, Nat.reduceLeDiff, Nat.reduceShiftRight, Nat.reduceAnd, Nat.reduceOr, Nat.reducePow, Nat.reduceBNe, Nat.reduceBEq, h7]
  refine f80_c (hg1.step hE1.step) hl.1 fun H2 u b hE2 ho1 hb => ?_
  obtain ⟨a3, rfl⟩ := ho1.len
  have hle2 := hE2.le
  have h72 := (hE2.get _ (by omega)).trans h7
  have h82 := (hE2.get _ (by omega)).trans h8
  simp only [start, KC_normal, go_sem, Nat.reduceEqDiff, Nat.reduceAdd, reduceIte, reduceCtorEq, Nat.reduceLeDiff, Nat.reduceShiftRight, Nat.reduceAnd, Nat.reduceOr, Nat.reducePow, Nat.reduceBNe, Nat.reduceBEq, h72]
  generalize hY : H2.put _ _ = H3
  have hE3 : Ext H H3 := by subst hY; exact (hE1.trans hE2).put (Nat.le_refl _) _
  have h73 : H3.get H.next = .cells true 4 [.slice a3 g.gates.length g.gates.length, .int .i64 g.secrets, .int .i64 g.publics, .slice au g.outs.length cu] := by subst hY; exact H_put_same _ _ _
  have h83 : H3.get (H.next + 1) = _ := (show H3.get (H.next + 1) = H2.get (H.next + 1) by subst hY; exact H_put_other _ _ _ _ (by omega)).trans h82
  have ho3 : Own1 H3 5 (g.gates.flatMap GateM.c) (.slice a3 g.gates.length g.gates.length) g.gates.length b := by subst hY; exact ho1.put (fun j hj => by have := hb j hj; omega) _
  have hn3 : H3.next = H2.next := by subst hY; rfl
  clear hY
  refine wp_loop TT.ok rfl rfl (fun j s => ∃ tm H' i, s = ⟨tm, 43, [], false, H'⟩ ∧ j = g.gates.length - i ∧ i ≤ g.gates.length ∧ Ext H H' ∧ H2.next ≤ H'.next ∧
    H'.get (H.next + 1) = .cells true 4 [.slice none 0 0, .int .i64 0, .int .i64 0, .slice none 0 0] ∧ H'.get H.next = .cells true 4 [.slice a3 g.gates.length g.gates.length, .int .i64 g.secrets, .int .i64 g.publics, .slice au g.outs.length cu] ∧
    Own1 H' 5 ((asTo 5 g.gates i).flatMap GateM.c) (.slice a3 g.gates.length g.gates.length) g.gates.length b ∧
    tm.get 1 = some (.int .i64 5) ∧ tm.get 2 = some (.int .u32 0) ∧ tm.get 3 = some (.pointer (some ⟨H.next, 0, none⟩)) ∧ tm.get 6 = some (.pointer (some ⟨H.next + 1, 0, none⟩)) ∧ tm.get 15 = some (.int .i64 (g.gates.length : Nat)) ∧ tm.get 16 = some (.int .i64 (i : Nat))) g.gates.length ?_ ?_
  · refine ⟨_, H3, 0, rfl, rfl, Nat.zero_le _, hE3, by omega, h83, h73, by simpa [asTo] using ho3, ?_, ?_, ?_, ?_, ?_, ?_⟩
    all_goals simp only [start, KC_normal, go_sem, Nat.reduceEqDiff, Nat.reduceAdd, reduceIte, reduceCtorEq, Nat.reduceLeDiff, Nat.reduceShiftRight, Nat.reduceAnd, Nat.reduceOr, Nat.reducePow, Nat.reduceBNe, Nat.reduceBEq]
    rfl
  · have hlb : ∀ j, b = some j → j < H2.next := fun j hj => ho1.lt hj
    clear ho1 ho3 h83 h73 h72 h82 hE3
    rintro j s - ⟨tm, H', i, rfl, hj, hi, hE, hle, h8, h9, ho1, t1, t2, t3, t6, t15, t16⟩
    simp only [start, KC_normal, go_sem, Nat.reduceEqDiff, Nat.reduceAdd, reduceIte, reduceCtorEq, Nat.reduceLeDiff, Nat.reduceShiftRight, Nat.reduceAnd, Nat.reduceOr, Nat.reducePow, Nat.reduceBNe, Nat.reduceBEq, t15, t16]
    refine CN_split (fun hlt => ?_) (fun hge => ?_)
    · have hlt' : i < g.gates.length := by omega
      obtain ⟨x, hx⟩ : ∃ x, g.gates[i]? = some x := ⟨_, List.getElem?_eq_getElem hlt'⟩
      obtain ⟨bk, hbk⟩ := ho1.pos (by omega)
      obtain ⟨q1, q2, q3, q4⟩ := ho1.at hbk
      simp only [Value.slice.injEq, and_true] at q3
      subst q3
      have hx' := asTo_get (k := 5) hx
      have hC : ∀ kk, kk < 5 → ((asTo 5 g.gates i).flatMap GateM.c)[i * 5 + kk]? = x.c[kk]? := fun kk hkk => fm_get GateM.len _ i kk x hx' hkk
      have hC0 := hC 0 (by omega)
      have hC3 := hC 3 (by omega)
      simp only [GateM.c, Nat.add_zero, List.getElem?_cons_zero, List.getElem?_cons_succ] at hC0 hC3
      simp only [start, KC_normal, go_sem, Nat.reduceEqDiff, Nat.reduceAdd, reduceIte, reduceCtorEq, Nat.reduceLeDiff, Nat.reduceShiftRight, Nat.reduceAnd, Nat.reduceOr, Nat.reducePow, Nat.reduceBNe, Nat.reduceBEq, t3, t16, h9, ia_in _ _ _ _ _ hlt', q2]
      simp only [GateM.c, hC0, start, KC_normal, go_sem, Nat.reduceEqDiff, Nat.reduceAdd, reduceIte, reduceCtorEq, Nat.reduceLeDiff, Nat.reduceShiftRight, Nat.reduceAnd, Nat.reduceOr, Nat.reducePow, Nat.reduceBNe, Nat.reduceBEq]
      have hbl := hlb bk hbk
      have hbe := hb bk hbk
      have hlen : ((asTo 5 g.gates i).flatMap GateM.c).length = g.gates.length * 5 := by rw [fm_length GateM.len, asTo_len]
      refine CN_split (fun h12 => ?_) (fun h12 => ?_)
      · have wN : IntKind.u32.wrap ((x.N.toNat : Int) + 0) = (x.N.toNat : Int) := by rw [Int.add_zero]; exact Go.Ab.wrap_u32 _ (by omega) (by have := x.N.isLt; omega)
        have hle0 : i * 5 + 1 ≤ ((asTo 5 g.gates i).flatMap GateM.c).length := by omega
        have hle3 : i * 5 + 3 + 1 ≤ ((asTo 5 g.gates i).flatMap GateM.c).length := by omega
        simp only [start, KC_normal, go_sem, Nat.reduceEqDiff, Nat.reduceAdd, reduceIte, reduceCtorEq, Nat.reduceLeDiff, Nat.reduceShiftRight, Nat.reduceAnd, Nat.reduceOr, Nat.reducePow, Nat.reduceBNe, Nat.reduceBEq, t1, t2, q2, setSeg_one, hC3, wN, Nat.zero_add, Nat.add_zero, hle0, hle3, List.length_set, t16]
        have e0 := fm_set GateM.len (asTo 5 g.gates i) i 0 x (asG 5 x) (.int .i64 5) hx' (by omega) (by simp only [asG, if_pos h12, GateM.c, List.set_cons_zero])
        rw [Nat.add_zero] at e0
        have hx5 : ((asTo 5 g.gates i).set i (asG 5 x))[i]? = some (asG 5 x) := by rw [List.getElem?_set, if_pos rfl, if_pos (by rw [asTo_len]; exact hlt')]
        have e3 := fm_set GateM.len ((asTo 5 g.gates i).set i (asG 5 x)) i 3 (asG 5 x) (asG 5 x) (.int .u32 x.N.toNat) hx5 (by omega) (by simp only [asG, if_pos h12, GateM.c, List.set_cons_zero, List.set_cons_succ])
        rw [List.set_set] at e3
        rw [e0, e3, ← asTo_succ hx]
        refine ⟨g.gates.length - (i + 1), by omega, _, _, i + 1, rfl, rfl, by omega, (hE.put (by omega) _).put (by omega) _, hle, ?_, ?_, (ho1.set hbk (c' := (asTo 5 g.gates (i + 1)).flatMap GateM.c) (by rw [fm_length GateM.len, fm_length GateM.len, asTo_len, asTo_len])).set hbk rfl, ?_, ?_, ?_, ?_, ?_, ?_⟩
        · rw [H_put_other _ _ _ _ (by omega), H_put_other _ _ _ _ (by omega)]; exact h8
        · rw [H_put_other _ _ _ _ (by omega), H_put_other _ _ _ _ (by omega)]; exact h9
        all_goals simp only [start, KC_normal, go_sem, Nat.reduceEqDiff, Nat.reduceAdd, reduceIte, reduceCtorEq, Nat.reduceLeDiff, Nat.reduceShiftRight, Nat.reduceAnd, Nat.reduceOr, Nat.reducePow, Nat.reduceBNe, Nat.reduceBEq, t1, t2, t3, t6, t15]
        rw [wrap_i64 _ (by omega) (by omega)]; simp
      · simp only [start, KC_normal, go_sem, Nat.reduceEqDiff, Nat.reduceAdd, reduceIte, reduceCtorEq, Nat.reduceLeDiff, Nat.reduceShiftRight, Nat.reduceAnd, Nat.reduceOr, Nat.reducePow, Nat.reduceBNe, Nat.reduceBEq, t16]
        have hsame : asTo 5 g.gates (i + 1) = asTo 5 g.gates i := by
          rw [asTo_succ hx, show asG 5 x = x from if_neg h12]
          apply List.ext_getElem?
          intro jj
          rw [List.getElem?_set]
          split
          · rename_i e; subst e; rw [asTo_len, if_pos hlt', hx']
          · rfl
        refine ⟨g.gates.length - (i + 1), by omega, _, _, i + 1, rfl, rfl, by omega, hE, hle, h8, h9, by rw [hsame]; exact ho1, ?_, ?_, ?_, ?_, ?_, ?_⟩
        all_goals simp only [start, KC_normal, go_sem, Nat.reduceEqDiff, Nat.reduceAdd, reduceIte, reduceCtorEq, Nat.reduceLeDiff, Nat.reduceShiftRight, Nat.reduceAnd, Nat.reduceOr, Nat.reducePow, Nat.reduceBNe, Nat.reduceBEq, t1, t2, t3, t6, t15]
        rw [wrap_i64 _ (by omega) (by omega)]; simp
    · have hi' : i = g.gates.length := by omega
      subst hi'
      rw [asTo_all] at ho1
      simp only [start, KC_normal, go_sem, Nat.reduceEqDiff, Nat.reduceAdd, reduceIte, reduceCtorEq, Nat.reduceLeDiff, Nat.reduceShiftRight, Nat.reduceAnd, Nat.reduceOr, Nat.reducePow, Nat.reduceBNe, Nat.reduceBEq, t3, t6, h8, h9, setSeg]
      have ho9 := ho1.put (j := H.next + 1) (fun j hj => by have := hb j hj; omega) (.cells true 4 [.slice a3 g.gates.length g.gates.length, .int .i64 g.secrets, .int .i64 g.publics, .slice au g.outs.length cu])
      refine hQ _ _ (hE.put (show H.next ≤ H.next + 1 by omega) _) ⟨_, _, rfl, ?_, hg20.step ((hE.put (show H.next ≤ H.next + 1 by omega) _).step)⟩
      have := ho9.sl (F := noF) fun _ _ h => h
      simpa [CircM.as] using this
end Go.Ab.Ex
end
section
namespace Go.Ab.Ex
open Go.Proofs
set_option maxRecDepth 10000
set_option maxHeartbeats 1000000

def mostM (g : CircM) (k : Int) : Int := if k = 0 then 4294967295 else if k = 1 then g.secrets - 1 else if k = 2 then g.publics - 1 else if k = 6 then 31 else if k = 7 then 31 else if k = 8 then 31 else 0

theorem f86_c {F : Fr} {H : Heap} {v : Value} {g : CircM} {k : Int} (hv : CircR F H v g) (hs : 0 ≤ g.secrets ∧ g.secrets ≤ 1000) (hp : 0 ≤ g.publics ∧ g.publics ≤ 1000) {Q : Ret → Heap → Prop} (hQ : ∀ H', Ext H H' → Q (.ret (.int .i64 (mostM g k))) H') : C 86 #[v, .int .i64 k] H Q := by
  obtain ⟨v1, v2, rfl, hg1, hg2⟩ := hv.noF.ex
  obtain ⟨ag, cg, rfl, h3, h4, hgA⟩ := hg1.ex
  obtain ⟨au, cu, rfl, h5, h6, huA⟩ := hg2.ex
  have w1 : IntKind.i64.wrap (g.secrets - 1) = g.secrets - 1 := wrap_i64 _ (by omega) (by omega)
  have w2 : IntKind.i64.wrap (g.publics - 1) = g.publics - 1 := wrap_i64 _ (by omega) (by omega)
  refine SemC_fn TT.ok fn86 rfl rfl ?_
  simp only [Try.f86, start, KC_normal, go_sem, Nat.reduceEqDiff, Nat.reduceAdd, reduceIte, reduceCtorEq, Nat.reduceLeDiff, Nat.reduceShiftRight, Nat.reduceAnd, Nat.reduceOr, Nat.reducePow, Nat.reduceBNe, Nat.reduceBEq]
  generalize hX : H.push _ = H1
  obtain ⟨hE1, h7, hn1⟩ := new_push hX
  clear hX
  unfold mostM at hQ
  by_cases k0 : k = 0
  · rw [if_pos k0] at hQ; simp only [start, KC_normal, go_sem, Nat.reduceEqDiff, Nat.reduceAdd, reduceIte, reduceCtorEq, Nat.reduceLeDiff, Nat.reduceShiftRight, Nat.reduceAnd, Nat.reduceOr, Nat.reducePow, Nat.reduceBNe, Nat.reduceBEq, k0]; exact hQ H1 hE1
  rw [if_neg k0] at hQ
  by_cases k1 : k = 1
  · rw [if_pos k1] at hQ; subst k1; simp only [start, KC_normal, go_sem, Nat.reduceEqDiff, Nat.reduceAdd, reduceIte, reduceCtorEq, Nat.reduceLeDiff, Nat.reduceShiftRight, Nat.reduceAnd, Nat.reduceOr, Nat.reducePow, Nat.reduceBNe, Nat.reduceBEq, Int.reduceEq, h7, w1]; exact hQ H1 hE1
  rw [if_neg k1] at hQ
  by_cases k2 : k = 2
  · rw [if_pos k2] at hQ; subst k2; simp only [start, KC_normal, go_sem, Nat.reduceEqDiff, Nat.reduceAdd, reduceIte, reduceCtorEq, Nat.reduceLeDiff, Nat.reduceShiftRight, Nat.reduceAnd, Nat.reduceOr, Nat.reducePow, Nat.reduceBNe, Nat.reduceBEq, Int.reduceEq, h7, w2]; exact hQ H1 hE1
  rw [if_neg k2] at hQ
  by_cases k6 : k = 6
  · rw [if_pos k6] at hQ; subst k6; simp only [start, KC_normal, go_sem, Nat.reduceEqDiff, Nat.reduceAdd, reduceIte, reduceCtorEq, Nat.reduceLeDiff, Nat.reduceShiftRight, Nat.reduceAnd, Nat.reduceOr, Nat.reducePow, Nat.reduceBNe, Nat.reduceBEq, Int.reduceEq]; exact hQ H1 hE1
  rw [if_neg k6] at hQ
  by_cases k7 : k = 7
  · rw [if_pos k7] at hQ; subst k7; simp only [start, KC_normal, go_sem, Nat.reduceEqDiff, Nat.reduceAdd, reduceIte, reduceCtorEq, Nat.reduceLeDiff, Nat.reduceShiftRight, Nat.reduceAnd, Nat.reduceOr, Nat.reducePow, Nat.reduceBNe, Nat.reduceBEq, Int.reduceEq]; exact hQ H1 hE1
  rw [if_neg k7] at hQ
  by_cases k8 : k = 8
  · rw [if_pos k8] at hQ; subst k8; simp only [start, KC_normal, go_sem, Nat.reduceEqDiff, Nat.reduceAdd, reduceIte, reduceCtorEq, Nat.reduceLeDiff, Nat.reduceShiftRight, Nat.reduceAnd, Nat.reduceOr, Nat.reducePow, Nat.reduceBNe, Nat.reduceBEq, Int.reduceEq]; exact hQ H1 hE1
  rw [if_neg k8] at hQ
  simp only [start, KC_normal, go_sem, Nat.reduceEqDiff, Nat.reduceAdd, reduceIte, reduceCtorEq, Nat.reduceLeDiff, Nat.reduceShiftRight, Nat.reduceAnd, Nat.reduceOr, Nat.reducePow, Nat.reduceBNe, Nat.reduceBEq, k0, k1, k2, k6, k7, k8]; exact hQ H1 hE1

theorem f79_c {x : GateM} {H : Heap} {Q : Ret → Heap → Prop} (hQ : ∀ H', Ext H H' → Q (.ret (.bool (decide (x.K = 9) || (decide (x.K = 10) || decide (x.K = 11))))) H') : C 79 #[x.v] H Q := by
  obtain ⟨K, A, B, N, S⟩ := x
  simp only at hQ
  refine SemC_fn TT.ok fn79 rfl rfl ?_
  simp only [Try.f79, GateM.v, start, KC_normal, go_sem, Nat.reduceEqDiff, Nat.reduceAdd, reduceIte, reduceCtorEq, Nat.reduceLeDiff, Nat.reduceShiftRight, Nat.reduceAnd, Nat.reduceOr, Nat.reducePow, Nat.reduceBNe, Nat.reduceBEq]
  generalize hX : H.push _ = H1
  obtain ⟨hE1, h7, hn1⟩ := new_push hX
  clear hX
  by_cases k9 : K = 9
  · subst k9; simp only [start, KC_normal, go_sem, Nat.reduceEqDiff, Nat.reduceAdd, reduceIte, reduceCtorEq, Nat.reduceLeDiff, Nat.reduceShiftRight, Nat.reduceAnd, Nat.reduceOr, Nat.reducePow, Nat.reduceBNe, Nat.reduceBEq, h7, Int.reduceEq]; exact hQ H1 hE1
  by_cases k10 : K = 10
  · subst k10; simp only [start, KC_normal, go_sem, Nat.reduceEqDiff, Nat.reduceAdd, reduceIte, reduceCtorEq, Nat.reduceLeDiff, Nat.reduceShiftRight, Nat.reduceAnd, Nat.reduceOr, Nat.reducePow, Nat.reduceBNe, Nat.reduceBEq, h7, Int.reduceEq]; exact hQ H1 hE1
  by_cases k11 : K = 11
  · subst k11; simp only [start, KC_normal, go_sem, Nat.reduceEqDiff, Nat.reduceAdd, reduceIte, reduceCtorEq, Nat.reduceLeDiff, Nat.reduceShiftRight, Nat.reduceAnd, Nat.reduceOr, Nat.reducePow, Nat.reduceBNe, Nat.reduceBEq, h7, Int.reduceEq]; exact hQ H1 hE1
  simp only [start, KC_normal, go_sem, Nat.reduceEqDiff, Nat.reduceAdd, reduceIte, reduceCtorEq, Nat.reduceLeDiff, Nat.reduceShiftRight, Nat.reduceAnd, Nat.reduceOr, Nat.reducePow, Nat.reduceBNe, Nat.reduceBEq, h7, k9, k10, k11]; simpa [k9, k10, k11] using hQ H1 hE1
end Go.Ab.Ex
end
section
namespace Go.Ab.Ex
open Go.Proofs
set_option maxRecDepth 10000
set_option maxHeartbeats 1000000

/-- a list of gates that is looked through for one that a function names -/
theorem f81_c {F : Fr} {H : Heap} {v : Value} {l : List GateM} {fn : Nat} {cs : List Value} {p : GateM → Bool} (hv : Sl F H 5 v l.length (l.flatMap GateM.c)) (hl : l.length < 1000000) (hfn : hasFn TT fn = true)
    (hp : ∀ x ∈ l, ∀ H', Ext H H' → ∀ {Q' : Ret → Heap → Prop}, (∀ H'', Ext H' H'' → Q' (.ret (.bool (p x))) H'') → SemC Try.prog 0 fn (#[x.v] ++ cs.toArray) H' Q') {Q : Ret → Heap → Prop}
    (hQ : ∀ H' r, Ext H H' → (0 ≤ r ↔ ∃ x ∈ l, p x = true) → Q (.ret (.int .i64 r)) H') : C 81 #[v, .func (.func fn) #[] cs.toArray] H Q := by
  obtain ⟨a, cap, rfl, hc1, hc2, hA⟩ := hv.ex
  have ef : ∀ c, fnOf TT (.func (.func fn) #[] cs.toArray) c = some (.call fn (c ++ cs.toArray)) := fun c => by rw [fn_call _ _ _ _ _ hfn, Array.empty_append]
  refine SemC_fn TT.ok fn81 rfl rfl ?_
  simp only [Try.f81, start, KC_normal, go_sem, Nat.reduceEqDiff, Nat.reduceAdd, reduceIte, reduceCtorEq, Nat.reduceLeDiff, Nat.reduceShiftRight, Nat.reduceAnd, Nat.reduceOr, Nat.reducePow, Nat.reduceBNe, Nat.reduceBEq]
  refine wp_loop TT.ok rfl rfl (fun j s => ∃ tm H' i, s = ⟨tm, 19, [], false, H'⟩ ∧ j = l.length - i ∧ i ≤ l.length ∧ Ext H H' ∧ (∀ (k : Nat) (x : GateM), k < i → l[k]? = some x → p x = false) ∧
    tm.get 0 = some (.slice a l.length cap) ∧ tm.get 1 = some (.func (.func fn) #[] cs.toArray) ∧ tm.get 7 = some (.int .i64 (l.length : Nat)) ∧ tm.get 8 = some (.int .i64 (i : Nat))) l.length ?_ ?_
  · refine ⟨_, H, 0, rfl, rfl, Nat.zero_le _, Ext.refl H, fun k x hk => by omega, ?_, ?_, ?_, ?_⟩
    all_goals simp only [start, KC_normal, go_sem, Nat.reduceEqDiff, Nat.reduceAdd, reduceIte, reduceCtorEq, Nat.reduceLeDiff, Nat.reduceShiftRight, Nat.reduceAnd, Nat.reduceOr, Nat.reducePow, Nat.reduceBNe, Nat.reduceBEq]
    rfl
  · rintro j s - ⟨tm, H', i, rfl, hj, hi, hE, hno, t0, t1, t7, t8⟩
    simp only [start, KC_normal, go_sem, Nat.reduceEqDiff, Nat.reduceAdd, reduceIte, reduceCtorEq, Nat.reduceLeDiff, Nat.reduceShiftRight, Nat.reduceAnd, Nat.reduceOr, Nat.reducePow, Nat.reduceBNe, Nat.reduceBEq, t7, t8]
    refine CN_split (fun hlt => ?_) (fun hge => ?_)
    · have hlt' : i < l.length := by omega
      obtain ⟨x, hx⟩ : ∃ x, l[i]? = some x := ⟨_, List.getElem?_eq_getElem hlt'⟩
      obtain ⟨bg, og, owg, Cg, rfl, hkg, hCg⟩ := hA.all GateM.len (by omega)
      have hseg := (hCg i x hx).2
      simp only [GateM.c] at hseg
      simp only [start, KC_normal, go_sem, Nat.reduceEqDiff, Nat.reduceAdd, reduceIte, reduceCtorEq, Nat.reduceLeDiff, Nat.reduceShiftRight, Nat.reduceAnd, Nat.reduceOr, Nat.reducePow, Nat.reduceBNe, Nat.reduceBEq, t0, t1, t8, ia_in _ _ _ _ _ hlt', (hkg.step hE.step).get, hseg, ef]
      refine hp x (List.mem_of_getElem? hx) H' hE fun H2 hE2 => ?_
      cases hpx : p x with
      | true =>
        simp only [start, KC_normal, go_sem, Nat.reduceEqDiff, Nat.reduceAdd, reduceIte, reduceCtorEq, Nat.reduceLeDiff, Nat.reduceShiftRight, Nat.reduceAnd, Nat.reduceOr, Nat.reducePow, Nat.reduceBNe, Nat.reduceBEq]
        refine hQ H2 _ (hE.trans hE2) ⟨fun _ => ⟨x, List.mem_of_getElem? hx, hpx⟩, fun _ => by omega⟩
      | false =>
        simp only [start, KC_normal, go_sem, Nat.reduceEqDiff, Nat.reduceAdd, reduceIte, reduceCtorEq, Nat.reduceLeDiff, Nat.reduceShiftRight, Nat.reduceAnd, Nat.reduceOr, Nat.reducePow, Nat.reduceBNe, Nat.reduceBEq, t8]
        refine ⟨l.length - (i + 1), by omega, _, H2, i + 1, rfl, rfl, by omega, hE.trans hE2, fun k y hk hy => ?_, ?_, ?_, ?_, ?_⟩
        · rcases Nat.lt_or_ge k i with h | h
          · exact hno k y h hy
          · have : k = i := by omega
            subst this
            rw [hx] at hy
            cases hy
            exact hpx
        all_goals simp only [start, KC_normal, go_sem, Nat.reduceEqDiff, Nat.reduceAdd, reduceIte, reduceCtorEq, Nat.reduceLeDiff, Nat.reduceShiftRight, Nat.reduceAnd, Nat.reduceOr, Nat.reducePow, Nat.reduceBNe, Nat.reduceBEq, t0, t1, t7]
        rw [wrap_i64 _ (by omega) (by omega)]; simp
    · have hi' : i = l.length := by omega
      subst hi'
      simp only [start, KC_normal, go_sem, Nat.reduceEqDiff, Nat.reduceAdd, reduceIte, reduceCtorEq, Nat.reduceLeDiff, Nat.reduceShiftRight, Nat.reduceAnd, Nat.reduceOr, Nat.reducePow, Nat.reduceBNe, Nat.reduceBEq]
      refine hQ H' _ hE ⟨fun h => by omega, fun ⟨x, hx, hxk⟩ => ?_⟩
      obtain ⟨k, hk⟩ := List.getElem?_of_mem hx
      rw [hno k x (lt_of_get hk) hk] at hxk; cases hxk
end Go.Ab.Ex
end
section
namespace Go.Ab.Ex
open Go.Proofs
set_option maxRecDepth 10000
set_option maxHeartbeats 1000000

theorem f71_c {F : Fr} {H : Heap} {v : Value} {l : List GateM} {fn : Nat} {cs : List Value} {p : GateM → Bool} (hv : Sl F H 5 v l.length (l.flatMap GateM.c)) (hl : l.length < 1000000) (hfn : hasFn TT fn = true)
    (hp : ∀ x ∈ l, ∀ H', Ext H H' → ∀ {Q' : Ret → Heap → Prop}, (∀ H'', Ext H' H'' → Q' (.ret (.bool (p x))) H'') → SemC Try.prog 0 fn (#[x.v] ++ cs.toArray) H' Q') {Q : Ret → Heap → Prop}
    (hQ : ∀ H' r, Ext H H' → (r = true ↔ ∃ x ∈ l, p x = true) → Q (.ret (.bool r)) H') : C 71 #[v, .func (.func fn) #[] cs.toArray] H Q := by
  refine SemC_fn TT.ok fn71 rfl rfl ?_
  simp only [Try.f71, start, KC_normal, go_sem, Nat.reduceEqDiff, Nat.reduceAdd, reduceIte, reduceCtorEq, Nat.reduceLeDiff, Nat.reduceShiftRight, Nat.reduceAnd, Nat.reduceOr, Nat.reducePow, Nat.reduceBNe, Nat.reduceBEq]
  refine f81_c hv hl hfn hp fun H2 r hE2 hr => ?_
  simp only [start, KC_normal, go_sem, Nat.reduceEqDiff, Nat.reduceAdd, reduceIte, reduceCtorEq, Nat.reduceLeDiff, Nat.reduceShiftRight, Nat.reduceAnd, Nat.reduceOr, Nat.reducePow, Nat.reduceBNe, Nat.reduceBEq]
  exact hQ H2 _ hE2 (by rw [← hr]; simp)

/-- a gate that refreshes what is no secret -/
def badRef (g : CircM) (x : GateM) : Bool := decide (x.K = 12) && !(g.sec x.A)

theorem f72_c {H : Heap} {k : Nat} {ag au : Option Addr} {cg cu : Nat} {g : CircM} {x : GateM} (hlt : k < H.next) (hk : H.get k = .cells true 4 [.slice ag g.gates.length cg, .int .i64 g.secrets, .int .i64 g.publics, .slice au g.outs.length cu])
    (hA : SlA noF H 5 g.gates.length cg (g.gates.flatMap GateM.c) ag) (hx : x.K = 12 → 0 ≤ x.A ∧ x.A < g.gates.length) {Q : Ret → Heap → Prop} (hQ : ∀ H', Ext H H' → Q (.ret (.bool (badRef g x))) H') :
    C 72 #[x.v, .pointer (some ⟨k, 0, none⟩)] H Q := by
  obtain ⟨K, A, B, N, S⟩ := x
  simp only at hx
  refine SemC_fn TT.ok fn72 rfl rfl ?_
  simp only [Try.f72, GateM.v, start, KC_normal, go_sem, Nat.reduceEqDiff, Nat.reduceAdd, reduceIte, reduceCtorEq, Nat.reduceLeDiff, Nat.reduceShiftRight, Nat.reduceAnd, Nat.reduceOr, Nat.reducePow, Nat.reduceBNe, Nat.reduceBEq]
  generalize hX : H.push _ = H1
  obtain ⟨hE1, h7, hn1⟩ := new_push hX
  clear hX
  have hk1 := (hE1.get k hlt).trans hk
  by_cases k12 : K = 12
  · subst k12
    obtain ⟨a0, a1⟩ := hx rfl
    obtain ⟨bg, og, owg, Cg, rfl, hkg, hCg⟩ := hA.all GateM.len (by omega)
    obtain ⟨y, hy⟩ : ∃ y, g.gates[A.toNat]? = some y := ⟨_, List.getElem?_eq_getElem (by omega)⟩
    have hy4 := (hCg _ _ hy).1 4 (by omega)
    simp only [GateM.c, List.getElem?_cons_zero, List.getElem?_cons_succ] at hy4
    simp only [start, KC_normal, go_sem, Nat.reduceEqDiff, Nat.reduceAdd, reduceIte, reduceCtorEq, Nat.reduceLeDiff, Nat.reduceShiftRight, Nat.reduceAnd, Nat.reduceOr, Nat.reducePow, Nat.reduceBNe, Nat.reduceBEq, h7, hk1, Int.reduceEq, ia_int _ _ _ _ _ a0 a1, (hkg.step hE1.step).get, hy4]
    simpa [badRef, CircM.sec, hy] using hQ H1 hE1
  · simp only [start, KC_normal, go_sem, Nat.reduceEqDiff, Nat.reduceAdd, reduceIte, reduceCtorEq, Nat.reduceLeDiff, Nat.reduceShiftRight, Nat.reduceAnd, Nat.reduceOr, Nat.reducePow, Nat.reduceBNe, Nat.reduceBEq, h7, k12]
    simpa [badRef, k12] using hQ H1 hE1
end Go.Ab.Ex
end
section
namespace Go.Ab
theorem pureRun_bind {α β : Type} (P : Program) (f : α → Sem β) : ∀ s : Sem α, pureRun P (s >>= f) = (pureRun P s).bind fun a => pureRun P (f a) := by
  intro s
  induction s with
  | pure a => rfl
  | program k ih => exact ih P
  | _ => rfl
theorem pureRun_pure {α : Type} (P : Program) (a : α) : pureRun P (pure a : Sem α) = some a := rfl
end Go.Ab
namespace Go.Ab.Ex
open Go.Proofs
theorem und3 : pureRun Try.prog (underlying 3) = some (.int .i64) := by kernel_rfl
theorem und54 : pureRun Try.prog (underlying 54) = some (.int .u32) := by kernel_rfl
theorem und69 : pureRun Try.prog (underlying 69) = some (.struct (fsOf Try.prog 69)) := by kernel_rfl
theorem fs69 : (fsOf Try.prog 69).toList.map (fun f => (f.name, f.type, f.offset)) = [("K", 3, 0), ("A", 3, 1), ("B", 3, 2), ("N", 54, 3)] := by kernel_rfl
theorem stood69 : Program.stoodInHeld Try.prog 69 = false := by kernel_rfl
theorem eq_i (d : Nat) (a b : Int) : pureRun Try.prog (Op.equalIn (d + 1) 3 (.int .i64 a) (.int .i64 b)) = some (a == b) := by
  rw [Op.equalIn, pureRun_bind, und3]
  rfl
theorem eq_u (d : Nat) (a b : Int) : pureRun Try.prog (Op.equalIn (d + 1) 54 (.int .u32 a) (.int .u32 b)) = some (a == b) := by
  rw [Op.equalIn, pureRun_bind, und54]
  rfl
theorem eq_op (k a b n : Int) : pureRun Try.prog (Op.equalIn (9998 + 1 + 1) 69 (.agg #[.int .i64 k, .int .i64 a, .int .i64 b, .int .u32 n]) (.agg #[.int .i64 k, .int .i64 a, .int .i64 b, .int .u32 n])) = some true := by
  rw [Op.equalIn, pureRun_bind, und69]
  have h4 := fs69
  generalize fsOf Try.prog 69 = fs at *
  obtain ⟨l⟩ := fs
  simp only at h4
  have hl : l.length = 4 := by simpa using congrArg List.length h4
  rcases l with _ | ⟨f0, _ | ⟨f1, _ | ⟨f2, _ | ⟨f3, _ | ⟨f4, l⟩⟩⟩⟩⟩ <;> simp at hl
  simp only [List.map_cons, List.map_nil, List.cons.injEq, Prod.mk.injEq, and_true] at h4
  obtain ⟨⟨a0, b0, c0⟩, ⟨a1, b1, c1⟩, ⟨a2, b2, c2⟩, ⟨a3, b3, c3⟩⟩ := h4
  have pr : pureRun Try.prog program = some Try.prog := rfl
  have p0 : pureRun Try.prog (Go.part 3 #[Value.int .i64 k, .int .i64 a, .int .i64 b, .int .u32 n] 0) = some (.int .i64 k) := by kernel_rfl
  have p1 : pureRun Try.prog (Go.part 3 #[Value.int .i64 k, .int .i64 a, .int .i64 b, .int .u32 n] 1) = some (.int .i64 a) := by kernel_rfl
  have p2 : pureRun Try.prog (Go.part 3 #[Value.int .i64 k, .int .i64 a, .int .i64 b, .int .u32 n] 2) = some (.int .i64 b) := by kernel_rfl
  have p3 : pureRun Try.prog (Go.part 54 #[Value.int .i64 k, .int .i64 a, .int .i64 b, .int .u32 n] 3) = some (.int .u32 n) := by kernel_rfl
  have s0 : ("K" = "_") = False := by decide
  simp [pureRun_bind, pr, stood69, a0, a1, a2, a3, b0, b1, b2, b3, c0, c1, c2, c3, p0, p1, p2, p3, eq_i, eq_u, pureRun_pure]
theorem guard69 (x y : Operand) (k a b n : Int) : pureRun Try.prog (eqGuard BinOp.neq 69 x y (.agg #[.int .i64 k, .int .i64 a, .int .i64 b, .int .u32 n]) (.agg #[.int .i64 k, .int .i64 a, .int .i64 b, .int .u32 n])) = some () := by
  cases x <;> cases y <;> kernel_rfl
theorem bin_neq_op (ρ : Operand → Value) (d : Option Tmp) (ty : TypeId) (ps : String) (af : Array Edge) (gd : Option (Nat × Bool)) (x y : Operand) (k a b n : Int)
    (hx : ρ x = .agg #[.int .i64 k, .int .i64 a, .int .i64 b, .int .u32 n]) (hy : ρ y = .agg #[.int .i64 k, .int .i64 a, .int .i64 b, .int .u32 n]) :
    binO Try.prog TT ρ ⟨d, .binOp .neq 69 x y 69, ty, ps, af, gd⟩ .neq 69 (.agg #[.int .i64 k, .int .i64 a, .int .i64 b, .int .u32 n]) (.agg #[.int .i64 k, .int .i64 a, .int .i64 b, .int .u32 n]) = some (.bool false) := by
  have e : eqC TT 69 (.agg #[.int .i64 k, .int .i64 a, .int .i64 b, .int .u32 n]) (.agg #[.int .i64 k, .int .i64 a, .int .i64 b, .int .u32 n]) = none := by simp only [eqC, descOf, ty69]; rfl
  simp only [binO, isEq, e]
  unfold flatRun
  have e0 : (⟨d, .binOp .neq 69 x y 69, ty, ps, af, gd⟩ : Oper).op.operands.toList.all (fun x => flat (ρ x)) = true := by
    simp [Op.operands, hx, hy, flat, flat1, flat2]
  have e1 : pureRun Try.prog (execOp ρ ⟨d, .binOp .neq 69 x y 69, ty, ps, af, gd⟩) = some (.value (.bool false)) := by
    unfold execOp
    simp only [hx, hy, binOp, Op.equal, pureRun_bind, guard69, Option.bind_some]
    rw [show Op.maxDepth = 9998 + 1 + 1 from rfl, eq_op]
    rfl
  rw [if_pos e0, e1]
  rfl
attribute [go_sem] bin_neq_op
set_option maxRecDepth 10000

end Go.Ab.Ex
end
