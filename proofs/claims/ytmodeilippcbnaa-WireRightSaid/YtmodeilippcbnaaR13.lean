/- Wire: what is a circuit, by the document. -/
import Derived.Test.YtmodeilippcbnaaR12
set_option linter.all false
namespace Go.Ab.Ex
open Go.Proofs
set_option maxRecDepth 10000
set_option maxHeartbeats 8000000


theorem gOk_0 {g : CircM} {i : Nat} {x : GateM} (hK : x.K = 0) : gOkM g i x ↔ x.B = 0 ∧ x.A = 0 ∧ x.S = false := by
  unfold gOkM; rw [hK, show takesG 0 = 0 from rfl]; simp
theorem gOk_1 {g : CircM} {i : Nat} {x : GateM} (hK : x.K = 1) : gOkM g i x ↔ x.B = 0 ∧ x.A = 0 ∧ (x.N.toNat : Int) < g.secrets ∧ x.S = true := by
  unfold gOkM; rw [hK, show takesG 1 = 0 from rfl]; simp
theorem gOk_2 {g : CircM} {i : Nat} {x : GateM} (hK : x.K = 2) : gOkM g i x ↔ x.B = 0 ∧ x.A = 0 ∧ (x.N.toNat : Int) < g.publics ∧ x.S = false := by
  unfold gOkM; rw [hK, show takesG 2 = 0 from rfl]; simp
theorem gOk_5 {g : CircM} {i : Nat} {x : GateM} (hK : x.K = 5) : gOkM g i x ↔ x.B = 0 ∧ (0 ≤ x.A ∧ x.A < i) ∧ (x.N.toNat : Int) = 0 ∧ x.S = g.sec x.A := by
  unfold gOkM; rw [hK, show takesG 5 = 1 from rfl]; simp
theorem gOk_678 {g : CircM} {i : Nat} {x : GateM} (hK : x.K = 6 ∨ x.K = 7 ∨ x.K = 8) : gOkM g i x ↔ x.B = 0 ∧ (0 ≤ x.A ∧ x.A < i) ∧ (x.N.toNat : Int) ≤ 31 ∧ x.S = g.sec x.A := by
  unfold gOkM
  rcases hK with hK | hK | hK
  · rw [hK, show takesG 6 = 1 from rfl]; simp
  · rw [hK, show takesG 7 = 1 from rfl]; simp
  · rw [hK, show takesG 8 = 1 from rfl]; simp
theorem gOk_two {g : CircM} {i : Nat} {x : GateM} (hK : x.K = 3 ∨ x.K = 4 ∨ x.K = 9 ∨ x.K = 10 ∨ x.K = 11) : gOkM g i x ↔ (0 ≤ x.A ∧ x.A < i) ∧ (0 ≤ x.B ∧ x.B < i) ∧ (x.N.toNat : Int) = 0 ∧ x.S = (g.sec x.A || g.sec x.B) := by
  unfold gOkM
  rcases hK with hK | hK | hK | hK | hK
  · rw [hK, show takesG 3 = 2 from rfl]; simp
  · rw [hK, show takesG 4 = 2 from rfl]; simp
  · rw [hK, show takesG 9 = 2 from rfl]; simp
  · rw [hK, show takesG 10 = 2 from rfl]; simp
  · rw [hK, show takesG 11 = 2 from rfl]; simp

theorem f55_c {F : Fr} {H : Heap} {v : Value} {g : CircM} (hv : CircR F H v g) (hl : g.gates.length < 1000000 ∧ g.outs.length < 1000000) {Q : Ret → Heap → Prop} (hQ : ∀ r H', Ext H H' → (r = true ↔ CircOk g) → Q (.ret (.bool r)) H') : C 55 #[v] H Q := by
  obtain ⟨v1, v2, rfl, hg1, hg2⟩ := hv.noF.ex
  obtain ⟨ag, cg, rfl, h3, h4, hgA⟩ := hg1.ex
  obtain ⟨au, cu, rfl, h5, h6, huA⟩ := hg2.ex
  clear hv hg1 hg2
  refine SemC_fn TT.ok fn55 rfl rfl ?_
  simp only [Try.f55, start, KC_normal, go_sem, Nat.reduceEqDiff, Nat.reduceAdd, reduceIte, reduceCtorEq, Nat.reduceLeDiff, Nat.reduceShiftRight, Nat.reduceAnd, Nat.reduceOr, Nat.reducePow, Nat.reduceBNe, Nat.reduceBEq]
  generalize hX : H.push _ = H1
  obtain ⟨hE1, h7, hn1⟩ := new_push hX
  clear hX
  repeat' (first | (refine CN_b (fun h => ?_) (fun h => ?_) <;> simp only [h, start, KC_normal, go_sem, Nat.reduceEqDiff, Nat.reduceAdd, reduceIte, reduceCtorEq, Nat.reduceLeDiff, Nat.reduceShiftRight, Nat.reduceAnd, Nat.reduceOr, Nat.reducePow, Nat.reduceBNe, Nat.reduceBEq, h7]) | (refine RWn_b (fun h => ?_) (fun h => ?_) <;> simp only [h, start, KC_normal, go_sem, Nat.reduceEqDiff, Nat.reduceAdd, reduceIte, reduceCtorEq, Nat.reduceLeDiff, Nat.reduceShiftRight, Nat.reduceAnd, Nat.reduceOr, Nat.reducePow, Nat.reduceBNe, Nat.reduceBEq, h7]) | (refine RW_b (fun h => ?_) (fun h => ?_) <;> simp only [h, start, KC_normal, go_sem, Nat.reduceEqDiff, Nat.reduceAdd, reduceIte, reduceCtorEq, Nat.reduceLeDiff, Nat.reduceShiftRight, Nat.reduceAnd, Nat.reduceOr, Nat.reducePow, Nat.reduceBNe, Nat.reduceBEq, h7]))
  all_goals try
    refine hQ false _ hE1 ?_
    simp only [Bool.false_eq_true, false_iff]
    intro hc
    have k1 := hc.s
    have k2 := hc.p
    have k3 := hc.l
    simp only [decide_eq_true_eq] at *
    omega
  have hs : 0 ≤ g.secrets ∧ g.secrets ≤ 1000 ∧ 0 ≤ g.publics ∧ g.publics ≤ 1000 ∧ g.gates.length ≤ 8000 := by
    simp only [decide_eq_false_iff_not] at *
    omega
  clear h
  refine wp_loop TT.ok rfl rfl (fun j s => ∃ tm H' i, s = ⟨tm, 221, [], false, H'⟩ ∧ j = g.gates.length - i ∧ i ≤ g.gates.length ∧ Ext H H' ∧
    Kp noF H' H.next (.cells true 4 [.slice ag g.gates.length cg, .int .i64 g.secrets, .int .i64 g.publics, .slice au g.outs.length cu]) ∧ (∀ (j : Nat) (x : GateM), j < i → g.gates[j]? = some x → gOkM g j x) ∧
    tm.get 1 = some (.pointer (some ⟨H.next, 0, none⟩)) ∧ tm.get 3 = some (.int .i64 (i : Nat))) g.gates.length ?_ ?_
  · refine ⟨_, H1, 0, rfl, rfl, Nat.zero_le _, hE1, ⟨by omega, noF_not _, h7⟩, fun j x hj => by omega, ?_, ?_⟩
    all_goals simp only [start, KC_normal, go_sem, Nat.reduceEqDiff, Nat.reduceAdd, reduceIte, reduceCtorEq, Nat.reduceLeDiff, Nat.reduceShiftRight, Nat.reduceAnd, Nat.reduceOr, Nat.reducePow, Nat.reduceBNe, Nat.reduceBEq]
    rfl
  · clear h7 hn1 hE1
    rintro j s - ⟨tm, H', i, rfl, hj, hi, hE, hk, hall, t1, t3⟩
    simp only [start, KC_normal, go_sem, Nat.reduceEqDiff, Nat.reduceAdd, reduceIte, reduceCtorEq, Nat.reduceLeDiff, Nat.reduceShiftRight, Nat.reduceAnd, Nat.reduceOr, Nat.reducePow, Nat.reduceBNe, Nat.reduceBEq, t1, t3, hk.get]
    refine CN_split (fun hlt => ?_) (fun hge => ?_)
    · have hlt' : i < g.gates.length := by omega
      obtain ⟨x, hx⟩ : ∃ x, g.gates[i]? = some x := ⟨_, List.getElem?_eq_getElem hlt'⟩
      obtain ⟨bg, og, owg, Cg, rfl, hkg, hCg⟩ := hgA.all GateM.len (by omega)
      have hseg := (hCg i x hx).2
      simp only [GateM.c] at hseg
      have hkg' := hkg.step hE.step
      simp only [start, KC_normal, go_sem, Nat.reduceEqDiff, Nat.reduceAdd, reduceIte, reduceCtorEq, Nat.reduceLeDiff, Nat.reduceShiftRight, Nat.reduceAnd, Nat.reduceOr, Nat.reducePow, Nat.reduceBNe, Nat.reduceBEq, t1, t3, hk.get, ia_in _ _ _ _ _ hlt', hkg'.get, hseg]
      generalize hX : (H'.push _).put _ _ = H5
      obtain ⟨hE5, hbx, hn5⟩ := new_put hX
      clear hX
      have hk5 := hk.step hE5.step
      have hkg5 := hkg'.step hE5.step
      refine f67_c fun r hr => ?_
      simp only [start, go_sem, Nat.reduceEqDiff, Nat.reduceAdd, reduceIte, reduceCtorEq, Nat.reduceLeDiff, Nat.reduceShiftRight, Nat.reduceAnd, Nat.reduceOr, Nat.reducePow, Nat.reduceBNe, Nat.reduceBEq, hbx]
      generalize hT : Tr.set _ _ _ _ = tm2
      obtain ⟨u1, u3, u4, u5⟩ : tm2.get 1 = some (.pointer (some ⟨H.next, 0, none⟩)) ∧ tm2.get 3 = some (.int .i64 (i : Nat)) ∧ tm2.get 4 = some (.pointer (some ⟨H'.next, 0, none⟩)) ∧ tm2.get 5 = some (.int .i64 r) := by
        subst hT
        refine ⟨?_, ?_, ?_, ?_⟩ <;> simp only [start, KC_normal, go_sem, Nat.reduceEqDiff, Nat.reduceAdd, reduceIte, reduceCtorEq, Nat.reduceLeDiff, Nat.reduceShiftRight, Nat.reduceAnd, Nat.reduceOr, Nat.reducePow, Nat.reduceBNe, Nat.reduceBEq, t1, t3]
      clear hT t1 t3
      have ok : gOkM g i x → ∀ (j : Nat) (y : GateM), j < i + 1 → g.gates[j]? = some y → gOkM g j y := fun hg j y hj hy => by
        rcases Nat.lt_or_ge j i with hj' | hj'
        · exact hall j y hj' hy
        · obtain rfl : j = i := by omega
          rw [hx] at hy; cases hy; exact hg
      have bad : ¬ gOkM g i x → Q (.ret (.bool false)) H5 := fun hg => hQ false _ (hE.trans hE5) (by
        simp only [Bool.false_eq_true, false_iff]
        exact fun hc => hg (hc.t i x hx))
      have e2 : IntKind.i64.wrap ((i : Int) + 1) = ((i + 1 : Nat) : Int) := by rw [wrap_i64 _ (by omega) (by omega)]; simp
      have hNlt : (x.N.toNat : Int) < 4294967296 := by have := x.N.isLt; omega
      have hNw : IntKind.i64.wrap (x.N.toNat : Int) = (x.N.toNat : Int) := wrap_i64 _ (by omega) (by omega)
      by_cases hK0 : x.K < 0
      · simp only [start, KC_normal, go_sem, Nat.reduceEqDiff, Nat.reduceAdd, reduceIte, reduceCtorEq, Nat.reduceLeDiff, Nat.reduceShiftRight, Nat.reduceAnd, Nat.reduceOr, Nat.reducePow, Nat.reduceBNe, Nat.reduceBEq, hK0, hbx, u1, u3, u4, u5, hk5.get]
        exact bad fun hc => by have h1 := hc.1; omega
      by_cases hK1 : 11 < x.K
      · simp only [start, KC_normal, go_sem, Nat.reduceEqDiff, Nat.reduceAdd, reduceIte, reduceCtorEq, Nat.reduceLeDiff, Nat.reduceShiftRight, Nat.reduceAnd, Nat.reduceOr, Nat.reducePow, Nat.reduceBNe, Nat.reduceBEq, hK0, hK1, hbx, u1, u3, u4, u5, hk5.get]
        exact bad fun hc => by have h1 := hc.2.1; omega
      have hr3 : r = 0 ∨ r = 1 ∨ r = 2 := by rw [hr]; unfold takesG; repeat' split
                                             all_goals omega
      rw [KC_normal]
      simp only [wpc_seq, wpc_region]
      -- the operands
      generalize hk : KC Try.prog TT 0 _ _ = K
      have cut : ∀ (tm' : Tr Value) (b : Bool), (b = true ↔ ¬ ((r < 2 → x.B = 0) ∧ (r < 1 → x.A = 0) ∧ (0 < r → 0 ≤ x.A ∧ x.A < i) ∧ (1 < r → 0 ≤ x.B ∧ x.B < i))) → tm'.get 1 = some (.pointer (some ⟨H.next, 0, none⟩)) → tm'.get 3 = some (.int .i64 (i : Nat)) → tm'.get 4 = some (.pointer (some ⟨H'.next, 0, none⟩)) → tm'.get 5 = some (.int .i64 r) → tm'.get 102 = some (.bool b) → K .normal ⟨tm', 221, [], false, H5⟩ := by
        subst hk
        intro tm2 b hb u1 u3 u4 u5 uc
        cases b with
        | true =>
          simp only [start, KC_normal, go_sem, Nat.reduceEqDiff, Nat.reduceAdd, reduceIte, reduceCtorEq, Nat.reduceLeDiff, Nat.reduceShiftRight, Nat.reduceAnd, Nat.reduceOr, Nat.reducePow, Nat.reduceBNe, Nat.reduceBEq, uc]
          refine bad fun hc => hb.1 rfl ?_
          obtain ⟨-, -, c1, c2, c3, c4, -⟩ := hc
          rw [← hr] at c1 c2 c3 c4
          exact ⟨c1, c2, c3, c4⟩
        | false =>
          have hok : (r < 2 → x.B = 0) ∧ (r < 1 → x.A = 0) ∧ (0 < r → 0 ≤ x.A ∧ x.A < i) ∧ (1 < r → 0 ≤ x.B ∧ x.B < i) := Classical.byContradiction fun hh => by have := hb.2 hh; cases this
          clear hb
          rw [KC_normal]
          simp only [start, go_sem, Nat.reduceEqDiff, Nat.reduceAdd, reduceIte, reduceCtorEq, Nat.reduceLeDiff, Nat.reduceShiftRight, Nat.reduceAnd, Nat.reduceOr, Nat.reducePow, Nat.reduceBNe, Nat.reduceBEq, uc]
          rw [KC_normal]
          simp only [wpc_seq, wpc_region]
          -- the number
          generalize hk : KC Try.prog TT 0 _ _ = K
          have cut : ∀ (tm' : Tr Value) (b : Bool), (b = true ↔ ¬ ((x.K = 1 → (x.N.toNat : Int) < g.secrets) ∧ (x.K = 2 → (x.N.toNat : Int) < g.publics) ∧ (6 ≤ x.K ∧ x.K ≤ 8 → (x.N.toNat : Int) ≤ 31) ∧ ((3 ≤ x.K ∧ x.K ≤ 5) ∨ 9 ≤ x.K → (x.N.toNat : Int) = 0))) → tm'.get 1 = some (.pointer (some ⟨H.next, 0, none⟩)) → tm'.get 3 = some (.int .i64 (i : Nat)) → tm'.get 4 = some (.pointer (some ⟨H'.next, 0, none⟩)) → tm'.get 5 = some (.int .i64 r) → tm'.get 161 = some (.bool b) → K .normal ⟨tm', 221, [], false, H5⟩ := by
            subst hk
            intro tm2 b hb u1 u3 u4 u5 uc
            cases b with
            | true =>
              simp only [start, KC_normal, go_sem, Nat.reduceEqDiff, Nat.reduceAdd, reduceIte, reduceCtorEq, Nat.reduceLeDiff, Nat.reduceShiftRight, Nat.reduceAnd, Nat.reduceOr, Nat.reducePow, Nat.reduceBNe, Nat.reduceBEq, uc]
              refine bad fun hc => hb.1 rfl ?_
              obtain ⟨-, -, -, -, -, -, c5, c6, c7, c8, -⟩ := hc
              exact ⟨c5, c6, c7, c8⟩
            | false =>
              have hok2 : (x.K = 1 → (x.N.toNat : Int) < g.secrets) ∧ (x.K = 2 → (x.N.toNat : Int) < g.publics) ∧ (6 ≤ x.K ∧ x.K ≤ 8 → (x.N.toNat : Int) ≤ 31) ∧ ((3 ≤ x.K ∧ x.K ≤ 5) ∨ 9 ≤ x.K → (x.N.toNat : Int) = 0) := Classical.byContradiction fun hh => by have := hb.2 hh; cases this
              clear hb
              rw [KC_normal]
              simp only [start, go_sem, Nat.reduceEqDiff, Nat.reduceAdd, reduceIte, reduceCtorEq, Nat.reduceLeDiff, Nat.reduceShiftRight, Nat.reduceAnd, Nat.reduceOr, Nat.reducePow, Nat.reduceBNe, Nat.reduceBEq, uc]
              rw [KC_normal]
              simp only [wpc_seq, wpc_region]
              -- whether it is secret
              generalize hk : KC Try.prog TT 0 _ _ = K
              have cut : ∀ (tm' : Tr Value), tm'.get 1 = some (.pointer (some ⟨H.next, 0, none⟩)) → tm'.get 3 = some (.int .i64 (i : Nat)) → tm'.get 4 = some (.pointer (some ⟨H'.next, 0, none⟩)) → tm'.get 5 = some (.int .i64 r) → tm'.get 6 = some (.bool (decide (x.K = 1) || decide (0 < r) && g.sec x.A || decide (1 < r) && g.sec x.B)) → K .normal ⟨tm', 221, [], false, H5⟩ := by
                subst hk
                intro tm2 u1 u3 u4 u5 u6
                rw [KC_normal]
                simp only [start, KC_normal, go_sem, Nat.reduceEqDiff, Nat.reduceAdd, reduceIte, reduceCtorEq, Nat.reduceLeDiff, Nat.reduceShiftRight, Nat.reduceAnd, Nat.reduceOr, Nat.reducePow, Nat.reduceBNe, Nat.reduceBEq, hbx, u1, u3, u4, u5, u6, hk5.get]
                refine CN_b (fun h => ?_) (fun h => ?_)
                · simp only [start, KC_normal, go_sem, Nat.reduceEqDiff, Nat.reduceAdd, reduceIte, reduceCtorEq, Nat.reduceLeDiff, Nat.reduceShiftRight, Nat.reduceAnd, Nat.reduceOr, Nat.reducePow, Nat.reduceBNe, Nat.reduceBEq]
                  refine bad fun hc => ?_
                  obtain ⟨-, -, -, -, -, -, -, -, -, -, hS⟩ := hc
                  rw [← hr] at hS
                  rw [hS] at h
                  simp at h
                · simp only [start, KC_normal, go_sem, Nat.reduceEqDiff, Nat.reduceAdd, reduceIte, reduceCtorEq, Nat.reduceLeDiff, Nat.reduceShiftRight, Nat.reduceAnd, Nat.reduceOr, Nat.reducePow, Nat.reduceBNe, Nat.reduceBEq, u3]
                  refine ⟨g.gates.length - (i + 1), by omega, _, H5, i + 1, rfl, rfl, by omega, hE.trans hE5, hk5, ok ⟨by omega, by omega, by rw [← hr]; exact hok.1, by rw [← hr]; exact hok.2.1, by rw [← hr]; exact hok.2.2.1, by rw [← hr]; exact hok.2.2.2, hok2.1, hok2.2.1, hok2.2.2.1, hok2.2.2.2, by rw [← hr]; simpa using h⟩, ?_, ?_⟩
                  · simp only [start, KC_normal, go_sem, Nat.reduceEqDiff, Nat.reduceAdd, reduceIte, reduceCtorEq, Nat.reduceLeDiff, Nat.reduceShiftRight, Nat.reduceAnd, Nat.reduceOr, Nat.reducePow, Nat.reduceBNe, Nat.reduceBEq, u1]
                  · simp only [start, KC_normal, go_sem, Nat.reduceEqDiff, Nat.reduceAdd, reduceIte, reduceCtorEq, Nat.reduceLeDiff, Nat.reduceShiftRight, Nat.reduceAnd, Nat.reduceOr, Nat.reducePow, Nat.reduceBNe, Nat.reduceBEq]; rw [e2]
              clear hk
              have fin : ∀ (tm' : Tr Value) (b : Bool), tm'.get 1 = some (.pointer (some ⟨H.next, 0, none⟩)) → tm'.get 3 = some (.int .i64 (i : Nat)) → tm'.get 4 = some (.pointer (some ⟨H'.next, 0, none⟩)) → tm'.get 5 = some (.int .i64 r) → tm'.get 6 = some (.bool b) → b = (decide (x.K = 1) || decide (0 < r) && g.sec x.A || decide (1 < r) && g.sec x.B) → K .normal ⟨tm', 221, [], false, H5⟩ := fun tm' b v1 v3 v4 v5 v6 hb => cut tm' v1 v3 v4 v5 (by rw [v6, hb])
              clear cut bad ok hok2 uc
              by_cases h1 : x.K = 1
              · simp only [start, KC_normal, go_sem, Nat.reduceEqDiff, Nat.reduceAdd, reduceIte, reduceCtorEq, Nat.reduceLeDiff, Nat.reduceShiftRight, Nat.reduceAnd, Nat.reduceOr, Nat.reducePow, Nat.reduceBNe, Nat.reduceBEq, hbx, u1, u3, u4, u5, hk5.get, h1]
                refine fin _ true ?_ ?_ ?_ ?_ ?_ ?_
                · simp only [start, KC_normal, go_sem, Nat.reduceEqDiff, Nat.reduceAdd, reduceIte, reduceCtorEq, Nat.reduceLeDiff, Nat.reduceShiftRight, Nat.reduceAnd, Nat.reduceOr, Nat.reducePow, Nat.reduceBNe, Nat.reduceBEq, u1]
                · simp only [start, KC_normal, go_sem, Nat.reduceEqDiff, Nat.reduceAdd, reduceIte, reduceCtorEq, Nat.reduceLeDiff, Nat.reduceShiftRight, Nat.reduceAnd, Nat.reduceOr, Nat.reducePow, Nat.reduceBNe, Nat.reduceBEq, u3]
                · simp only [start, KC_normal, go_sem, Nat.reduceEqDiff, Nat.reduceAdd, reduceIte, reduceCtorEq, Nat.reduceLeDiff, Nat.reduceShiftRight, Nat.reduceAnd, Nat.reduceOr, Nat.reducePow, Nat.reduceBNe, Nat.reduceBEq, u4]
                · simp only [start, KC_normal, go_sem, Nat.reduceEqDiff, Nat.reduceAdd, reduceIte, reduceCtorEq, Nat.reduceLeDiff, Nat.reduceShiftRight, Nat.reduceAnd, Nat.reduceOr, Nat.reducePow, Nat.reduceBNe, Nat.reduceBEq, u5]
                · simp only [start, KC_normal, go_sem, Nat.reduceEqDiff, Nat.reduceAdd, reduceIte, reduceCtorEq, Nat.reduceLeDiff, Nat.reduceShiftRight, Nat.reduceAnd, Nat.reduceOr, Nat.reducePow, Nat.reduceBNe, Nat.reduceBEq]
                · simp [h1]
              rcases hr3 with h0 | h0 | h0
              · subst h0
                simp only [start, KC_normal, go_sem, Nat.reduceEqDiff, Nat.reduceAdd, reduceIte, reduceCtorEq, Nat.reduceLeDiff, Nat.reduceShiftRight, Nat.reduceAnd, Nat.reduceOr, Nat.reducePow, Nat.reduceBNe, Nat.reduceBEq, hbx, u1, u3, u4, u5, hk5.get, h1, Int.reduceLT]
                refine fin _ false ?_ ?_ ?_ ?_ ?_ ?_
                · simp only [start, KC_normal, go_sem, Nat.reduceEqDiff, Nat.reduceAdd, reduceIte, reduceCtorEq, Nat.reduceLeDiff, Nat.reduceShiftRight, Nat.reduceAnd, Nat.reduceOr, Nat.reducePow, Nat.reduceBNe, Nat.reduceBEq, u1]
                · simp only [start, KC_normal, go_sem, Nat.reduceEqDiff, Nat.reduceAdd, reduceIte, reduceCtorEq, Nat.reduceLeDiff, Nat.reduceShiftRight, Nat.reduceAnd, Nat.reduceOr, Nat.reducePow, Nat.reduceBNe, Nat.reduceBEq, u3]
                · simp only [start, KC_normal, go_sem, Nat.reduceEqDiff, Nat.reduceAdd, reduceIte, reduceCtorEq, Nat.reduceLeDiff, Nat.reduceShiftRight, Nat.reduceAnd, Nat.reduceOr, Nat.reducePow, Nat.reduceBNe, Nat.reduceBEq, u4]
                · simp only [start, KC_normal, go_sem, Nat.reduceEqDiff, Nat.reduceAdd, reduceIte, reduceCtorEq, Nat.reduceLeDiff, Nat.reduceShiftRight, Nat.reduceAnd, Nat.reduceOr, Nat.reducePow, Nat.reduceBNe, Nat.reduceBEq, u5]
                · simp only [start, KC_normal, go_sem, Nat.reduceEqDiff, Nat.reduceAdd, reduceIte, reduceCtorEq, Nat.reduceLeDiff, Nat.reduceShiftRight, Nat.reduceAnd, Nat.reduceOr, Nat.reducePow, Nat.reduceBNe, Nat.reduceBEq]
                · simp [h1]
              · subst h0
                have hA := hok.2.2.1 (by omega)
                have hAl : x.A < (g.gates.length : Int) := by omega
                obtain ⟨gA, hgA', hsecA⟩ := sec_get (g := g) hA.1 hAl
                have hgS := (hCg _ _ hgA').1 4 (by omega)
                simp only [GateM.c, List.getElem?_cons_succ, List.getElem?_cons_zero] at hgS
                cases hs : gA.S
                all_goals
                  rw [hs] at hgS
                  simp only [start, KC_normal, go_sem, Nat.reduceEqDiff, Nat.reduceAdd, reduceIte, reduceCtorEq, Nat.reduceLeDiff, Nat.reduceShiftRight, Nat.reduceAnd, Nat.reduceOr, Nat.reducePow, Nat.reduceBNe, Nat.reduceBEq, hbx, u1, u3, u4, u5, hk5.get, h1, Int.reduceLT, ia_int _ _ _ _ _ hA.1 hAl, hkg5.get, hgS]
                  refine fin _ gA.S ?_ ?_ ?_ ?_ ?_ ?_
                  · simp only [start, KC_normal, go_sem, Nat.reduceEqDiff, Nat.reduceAdd, reduceIte, reduceCtorEq, Nat.reduceLeDiff, Nat.reduceShiftRight, Nat.reduceAnd, Nat.reduceOr, Nat.reducePow, Nat.reduceBNe, Nat.reduceBEq, u1]
                  · simp only [start, KC_normal, go_sem, Nat.reduceEqDiff, Nat.reduceAdd, reduceIte, reduceCtorEq, Nat.reduceLeDiff, Nat.reduceShiftRight, Nat.reduceAnd, Nat.reduceOr, Nat.reducePow, Nat.reduceBNe, Nat.reduceBEq, u3]
                  · simp only [start, KC_normal, go_sem, Nat.reduceEqDiff, Nat.reduceAdd, reduceIte, reduceCtorEq, Nat.reduceLeDiff, Nat.reduceShiftRight, Nat.reduceAnd, Nat.reduceOr, Nat.reducePow, Nat.reduceBNe, Nat.reduceBEq, u4]
                  · simp only [start, KC_normal, go_sem, Nat.reduceEqDiff, Nat.reduceAdd, reduceIte, reduceCtorEq, Nat.reduceLeDiff, Nat.reduceShiftRight, Nat.reduceAnd, Nat.reduceOr, Nat.reducePow, Nat.reduceBNe, Nat.reduceBEq, u5]
                  · (rw [hs]; simp only [start, KC_normal, go_sem, Nat.reduceEqDiff, Nat.reduceAdd, reduceIte, reduceCtorEq, Nat.reduceLeDiff, Nat.reduceShiftRight, Nat.reduceAnd, Nat.reduceOr, Nat.reducePow, Nat.reduceBNe, Nat.reduceBEq])
                  · simp [h1, hsecA, hs]
              · subst h0
                have hA := hok.2.2.1 (by omega)
                have hB := hok.2.2.2 (by omega)
                have hAl : x.A < (g.gates.length : Int) := by omega
                have hBl : x.B < (g.gates.length : Int) := by omega
                obtain ⟨gA, hgA', hsecA⟩ := sec_get (g := g) hA.1 hAl
                obtain ⟨gB, hgB', hsecB⟩ := sec_get (g := g) hB.1 hBl
                have hgS := (hCg _ _ hgA').1 4 (by omega)
                have hgS' := (hCg _ _ hgB').1 4 (by omega)
                simp only [GateM.c, List.getElem?_cons_succ, List.getElem?_cons_zero] at hgS hgS'
                cases hs : gA.S
                all_goals cases hs' : gB.S
                all_goals
                  rw [hs] at hgS
                  rw [hs'] at hgS'
                  simp only [start, KC_normal, go_sem, Nat.reduceEqDiff, Nat.reduceAdd, reduceIte, reduceCtorEq, Nat.reduceLeDiff, Nat.reduceShiftRight, Nat.reduceAnd, Nat.reduceOr, Nat.reducePow, Nat.reduceBNe, Nat.reduceBEq, hbx, u1, u3, u4, u5, hk5.get, h1, Int.reduceLT, ia_int _ _ _ _ _ hA.1 hAl, ia_int _ _ _ _ _ hB.1 hBl, hkg5.get, hgS, hgS']
                  refine fin _ (gA.S || gB.S) ?_ ?_ ?_ ?_ ?_ ?_
                  · simp only [start, KC_normal, go_sem, Nat.reduceEqDiff, Nat.reduceAdd, reduceIte, reduceCtorEq, Nat.reduceLeDiff, Nat.reduceShiftRight, Nat.reduceAnd, Nat.reduceOr, Nat.reducePow, Nat.reduceBNe, Nat.reduceBEq, u1]
                  · simp only [start, KC_normal, go_sem, Nat.reduceEqDiff, Nat.reduceAdd, reduceIte, reduceCtorEq, Nat.reduceLeDiff, Nat.reduceShiftRight, Nat.reduceAnd, Nat.reduceOr, Nat.reducePow, Nat.reduceBNe, Nat.reduceBEq, u3]
                  · simp only [start, KC_normal, go_sem, Nat.reduceEqDiff, Nat.reduceAdd, reduceIte, reduceCtorEq, Nat.reduceLeDiff, Nat.reduceShiftRight, Nat.reduceAnd, Nat.reduceOr, Nat.reducePow, Nat.reduceBNe, Nat.reduceBEq, u4]
                  · simp only [start, KC_normal, go_sem, Nat.reduceEqDiff, Nat.reduceAdd, reduceIte, reduceCtorEq, Nat.reduceLeDiff, Nat.reduceShiftRight, Nat.reduceAnd, Nat.reduceOr, Nat.reducePow, Nat.reduceBNe, Nat.reduceBEq, u5]
                  · (rw [hs, hs']; simp only [start, KC_normal, go_sem, Nat.reduceEqDiff, Nat.reduceAdd, reduceIte, reduceCtorEq, Nat.reduceLeDiff, Nat.reduceShiftRight, Nat.reduceAnd, Nat.reduceOr, Nat.reducePow, Nat.reduceBNe, Nat.reduceBEq]; try rfl)
                  · simp [h1, hsecA, hsecB, hs, hs']
          clear hk bad ok uc hok
          have hcase : (x.K = 1) ∨ (x.K = 2) ∨ (x.K = 0) ∨ (6 ≤ x.K ∧ x.K ≤ 8) ∨ (3 ≤ x.K ∧ x.K ≤ 5) ∨ 9 ≤ x.K := by omega
          rcases hcase with h | h | h | h | h | h
          · by_cases hn : g.secrets ≤ (x.N.toNat : Int)
            · simp only [start, KC_normal, go_sem, Nat.reduceEqDiff, Nat.reduceAdd, reduceIte, reduceCtorEq, Nat.reduceLeDiff, Nat.reduceShiftRight, Nat.reduceAnd, Nat.reduceOr, Nat.reducePow, Nat.reduceBNe, Nat.reduceBEq, hbx, u1, u3, u4, u5, hk5.get, h, hn, hNw, Int.reduceEq, Int.reduceLE, Int.reduceLT]
              refine cut _ true ?_ ?_ ?_ ?_ ?_ ?_
              · simp only [true_iff]; omega
              · simp only [start, KC_normal, go_sem, Nat.reduceEqDiff, Nat.reduceAdd, reduceIte, reduceCtorEq, Nat.reduceLeDiff, Nat.reduceShiftRight, Nat.reduceAnd, Nat.reduceOr, Nat.reducePow, Nat.reduceBNe, Nat.reduceBEq, u1]
              · simp only [start, KC_normal, go_sem, Nat.reduceEqDiff, Nat.reduceAdd, reduceIte, reduceCtorEq, Nat.reduceLeDiff, Nat.reduceShiftRight, Nat.reduceAnd, Nat.reduceOr, Nat.reducePow, Nat.reduceBNe, Nat.reduceBEq, u3]
              · simp only [start, KC_normal, go_sem, Nat.reduceEqDiff, Nat.reduceAdd, reduceIte, reduceCtorEq, Nat.reduceLeDiff, Nat.reduceShiftRight, Nat.reduceAnd, Nat.reduceOr, Nat.reducePow, Nat.reduceBNe, Nat.reduceBEq, u4]
              · simp only [start, KC_normal, go_sem, Nat.reduceEqDiff, Nat.reduceAdd, reduceIte, reduceCtorEq, Nat.reduceLeDiff, Nat.reduceShiftRight, Nat.reduceAnd, Nat.reduceOr, Nat.reducePow, Nat.reduceBNe, Nat.reduceBEq, u5]
              · simp only [start, KC_normal, go_sem, Nat.reduceEqDiff, Nat.reduceAdd, reduceIte, reduceCtorEq, Nat.reduceLeDiff, Nat.reduceShiftRight, Nat.reduceAnd, Nat.reduceOr, Nat.reducePow, Nat.reduceBNe, Nat.reduceBEq]
            · simp only [start, KC_normal, go_sem, Nat.reduceEqDiff, Nat.reduceAdd, reduceIte, reduceCtorEq, Nat.reduceLeDiff, Nat.reduceShiftRight, Nat.reduceAnd, Nat.reduceOr, Nat.reducePow, Nat.reduceBNe, Nat.reduceBEq, hbx, u1, u3, u4, u5, hk5.get, h, hn, hNw, Int.reduceEq, Int.reduceLE, Int.reduceLT]
              refine cut _ false ?_ ?_ ?_ ?_ ?_ ?_
              · simp only [Bool.false_eq_true, false_iff, Classical.not_not]; omega
              · simp only [start, KC_normal, go_sem, Nat.reduceEqDiff, Nat.reduceAdd, reduceIte, reduceCtorEq, Nat.reduceLeDiff, Nat.reduceShiftRight, Nat.reduceAnd, Nat.reduceOr, Nat.reducePow, Nat.reduceBNe, Nat.reduceBEq, u1]
              · simp only [start, KC_normal, go_sem, Nat.reduceEqDiff, Nat.reduceAdd, reduceIte, reduceCtorEq, Nat.reduceLeDiff, Nat.reduceShiftRight, Nat.reduceAnd, Nat.reduceOr, Nat.reducePow, Nat.reduceBNe, Nat.reduceBEq, u3]
              · simp only [start, KC_normal, go_sem, Nat.reduceEqDiff, Nat.reduceAdd, reduceIte, reduceCtorEq, Nat.reduceLeDiff, Nat.reduceShiftRight, Nat.reduceAnd, Nat.reduceOr, Nat.reducePow, Nat.reduceBNe, Nat.reduceBEq, u4]
              · simp only [start, KC_normal, go_sem, Nat.reduceEqDiff, Nat.reduceAdd, reduceIte, reduceCtorEq, Nat.reduceLeDiff, Nat.reduceShiftRight, Nat.reduceAnd, Nat.reduceOr, Nat.reducePow, Nat.reduceBNe, Nat.reduceBEq, u5]
              · simp only [start, KC_normal, go_sem, Nat.reduceEqDiff, Nat.reduceAdd, reduceIte, reduceCtorEq, Nat.reduceLeDiff, Nat.reduceShiftRight, Nat.reduceAnd, Nat.reduceOr, Nat.reducePow, Nat.reduceBNe, Nat.reduceBEq]
          · by_cases hn : g.publics ≤ (x.N.toNat : Int)
            · simp only [start, KC_normal, go_sem, Nat.reduceEqDiff, Nat.reduceAdd, reduceIte, reduceCtorEq, Nat.reduceLeDiff, Nat.reduceShiftRight, Nat.reduceAnd, Nat.reduceOr, Nat.reducePow, Nat.reduceBNe, Nat.reduceBEq, hbx, u1, u3, u4, u5, hk5.get, h, hn, hNw, Int.reduceEq, Int.reduceLE, Int.reduceLT]
              refine cut _ true ?_ ?_ ?_ ?_ ?_ ?_
              · simp only [true_iff]; omega
              · simp only [start, KC_normal, go_sem, Nat.reduceEqDiff, Nat.reduceAdd, reduceIte, reduceCtorEq, Nat.reduceLeDiff, Nat.reduceShiftRight, Nat.reduceAnd, Nat.reduceOr, Nat.reducePow, Nat.reduceBNe, Nat.reduceBEq, u1]
              · simp only [start, KC_normal, go_sem, Nat.reduceEqDiff, Nat.reduceAdd, reduceIte, reduceCtorEq, Nat.reduceLeDiff, Nat.reduceShiftRight, Nat.reduceAnd, Nat.reduceOr, Nat.reducePow, Nat.reduceBNe, Nat.reduceBEq, u3]
              · simp only [start, KC_normal, go_sem, Nat.reduceEqDiff, Nat.reduceAdd, reduceIte, reduceCtorEq, Nat.reduceLeDiff, Nat.reduceShiftRight, Nat.reduceAnd, Nat.reduceOr, Nat.reducePow, Nat.reduceBNe, Nat.reduceBEq, u4]
              · simp only [start, KC_normal, go_sem, Nat.reduceEqDiff, Nat.reduceAdd, reduceIte, reduceCtorEq, Nat.reduceLeDiff, Nat.reduceShiftRight, Nat.reduceAnd, Nat.reduceOr, Nat.reducePow, Nat.reduceBNe, Nat.reduceBEq, u5]
              · simp only [start, KC_normal, go_sem, Nat.reduceEqDiff, Nat.reduceAdd, reduceIte, reduceCtorEq, Nat.reduceLeDiff, Nat.reduceShiftRight, Nat.reduceAnd, Nat.reduceOr, Nat.reducePow, Nat.reduceBNe, Nat.reduceBEq]
            · simp only [start, KC_normal, go_sem, Nat.reduceEqDiff, Nat.reduceAdd, reduceIte, reduceCtorEq, Nat.reduceLeDiff, Nat.reduceShiftRight, Nat.reduceAnd, Nat.reduceOr, Nat.reducePow, Nat.reduceBNe, Nat.reduceBEq, hbx, u1, u3, u4, u5, hk5.get, h, hn, hNw, Int.reduceEq, Int.reduceLE, Int.reduceLT]
              refine cut _ false ?_ ?_ ?_ ?_ ?_ ?_
              · simp only [Bool.false_eq_true, false_iff, Classical.not_not]; omega
              · simp only [start, KC_normal, go_sem, Nat.reduceEqDiff, Nat.reduceAdd, reduceIte, reduceCtorEq, Nat.reduceLeDiff, Nat.reduceShiftRight, Nat.reduceAnd, Nat.reduceOr, Nat.reducePow, Nat.reduceBNe, Nat.reduceBEq, u1]
              · simp only [start, KC_normal, go_sem, Nat.reduceEqDiff, Nat.reduceAdd, reduceIte, reduceCtorEq, Nat.reduceLeDiff, Nat.reduceShiftRight, Nat.reduceAnd, Nat.reduceOr, Nat.reducePow, Nat.reduceBNe, Nat.reduceBEq, u3]
              · simp only [start, KC_normal, go_sem, Nat.reduceEqDiff, Nat.reduceAdd, reduceIte, reduceCtorEq, Nat.reduceLeDiff, Nat.reduceShiftRight, Nat.reduceAnd, Nat.reduceOr, Nat.reducePow, Nat.reduceBNe, Nat.reduceBEq, u4]
              · simp only [start, KC_normal, go_sem, Nat.reduceEqDiff, Nat.reduceAdd, reduceIte, reduceCtorEq, Nat.reduceLeDiff, Nat.reduceShiftRight, Nat.reduceAnd, Nat.reduceOr, Nat.reducePow, Nat.reduceBNe, Nat.reduceBEq, u5]
              · simp only [start, KC_normal, go_sem, Nat.reduceEqDiff, Nat.reduceAdd, reduceIte, reduceCtorEq, Nat.reduceLeDiff, Nat.reduceShiftRight, Nat.reduceAnd, Nat.reduceOr, Nat.reducePow, Nat.reduceBNe, Nat.reduceBEq]
          · simp only [start, KC_normal, go_sem, Nat.reduceEqDiff, Nat.reduceAdd, reduceIte, reduceCtorEq, Nat.reduceLeDiff, Nat.reduceShiftRight, Nat.reduceAnd, Nat.reduceOr, Nat.reducePow, Nat.reduceBNe, Nat.reduceBEq, hbx, u1, u3, u4, u5, hk5.get, h, hNw, Int.reduceEq, Int.reduceLE, Int.reduceLT]
            refine cut _ false ?_ ?_ ?_ ?_ ?_ ?_
            · simp only [Bool.false_eq_true, false_iff, Classical.not_not]; omega
            · simp only [start, KC_normal, go_sem, Nat.reduceEqDiff, Nat.reduceAdd, reduceIte, reduceCtorEq, Nat.reduceLeDiff, Nat.reduceShiftRight, Nat.reduceAnd, Nat.reduceOr, Nat.reducePow, Nat.reduceBNe, Nat.reduceBEq, u1]
            · simp only [start, KC_normal, go_sem, Nat.reduceEqDiff, Nat.reduceAdd, reduceIte, reduceCtorEq, Nat.reduceLeDiff, Nat.reduceShiftRight, Nat.reduceAnd, Nat.reduceOr, Nat.reducePow, Nat.reduceBNe, Nat.reduceBEq, u3]
            · simp only [start, KC_normal, go_sem, Nat.reduceEqDiff, Nat.reduceAdd, reduceIte, reduceCtorEq, Nat.reduceLeDiff, Nat.reduceShiftRight, Nat.reduceAnd, Nat.reduceOr, Nat.reducePow, Nat.reduceBNe, Nat.reduceBEq, u4]
            · simp only [start, KC_normal, go_sem, Nat.reduceEqDiff, Nat.reduceAdd, reduceIte, reduceCtorEq, Nat.reduceLeDiff, Nat.reduceShiftRight, Nat.reduceAnd, Nat.reduceOr, Nat.reducePow, Nat.reduceBNe, Nat.reduceBEq, u5]
            · simp only [start, KC_normal, go_sem, Nat.reduceEqDiff, Nat.reduceAdd, reduceIte, reduceCtorEq, Nat.reduceLeDiff, Nat.reduceShiftRight, Nat.reduceAnd, Nat.reduceOr, Nat.reducePow, Nat.reduceBNe, Nat.reduceBEq]
          · have n1 : ¬ x.K = 1 := by omega
            have n2 : ¬ x.K = 2 := by omega
            have n3 : 3 ≤ x.K := by omega
            have n5 : ¬ x.K ≤ 5 := by omega
            have n9 : ¬ 9 ≤ x.K := by omega
            by_cases hn : 31 < (x.N.toNat : Int)
            · simp only [start, KC_normal, go_sem, Nat.reduceEqDiff, Nat.reduceAdd, reduceIte, reduceCtorEq, Nat.reduceLeDiff, Nat.reduceShiftRight, Nat.reduceAnd, Nat.reduceOr, Nat.reducePow, Nat.reduceBNe, Nat.reduceBEq, hbx, u1, u3, u4, u5, hk5.get, h.1, h.2, hn, hNw, n1, n2, n3, n5, n9]
              refine cut _ true ?_ ?_ ?_ ?_ ?_ ?_
              · simp only [true_iff]; omega
              · simp only [start, KC_normal, go_sem, Nat.reduceEqDiff, Nat.reduceAdd, reduceIte, reduceCtorEq, Nat.reduceLeDiff, Nat.reduceShiftRight, Nat.reduceAnd, Nat.reduceOr, Nat.reducePow, Nat.reduceBNe, Nat.reduceBEq, u1]
              · simp only [start, KC_normal, go_sem, Nat.reduceEqDiff, Nat.reduceAdd, reduceIte, reduceCtorEq, Nat.reduceLeDiff, Nat.reduceShiftRight, Nat.reduceAnd, Nat.reduceOr, Nat.reducePow, Nat.reduceBNe, Nat.reduceBEq, u3]
              · simp only [start, KC_normal, go_sem, Nat.reduceEqDiff, Nat.reduceAdd, reduceIte, reduceCtorEq, Nat.reduceLeDiff, Nat.reduceShiftRight, Nat.reduceAnd, Nat.reduceOr, Nat.reducePow, Nat.reduceBNe, Nat.reduceBEq, u4]
              · simp only [start, KC_normal, go_sem, Nat.reduceEqDiff, Nat.reduceAdd, reduceIte, reduceCtorEq, Nat.reduceLeDiff, Nat.reduceShiftRight, Nat.reduceAnd, Nat.reduceOr, Nat.reducePow, Nat.reduceBNe, Nat.reduceBEq, u5]
              · simp only [start, KC_normal, go_sem, Nat.reduceEqDiff, Nat.reduceAdd, reduceIte, reduceCtorEq, Nat.reduceLeDiff, Nat.reduceShiftRight, Nat.reduceAnd, Nat.reduceOr, Nat.reducePow, Nat.reduceBNe, Nat.reduceBEq]
            · simp only [start, KC_normal, go_sem, Nat.reduceEqDiff, Nat.reduceAdd, reduceIte, reduceCtorEq, Nat.reduceLeDiff, Nat.reduceShiftRight, Nat.reduceAnd, Nat.reduceOr, Nat.reducePow, Nat.reduceBNe, Nat.reduceBEq, hbx, u1, u3, u4, u5, hk5.get, h.1, h.2, hn, hNw, n1, n2, n3, n5, n9]
              refine cut _ false ?_ ?_ ?_ ?_ ?_ ?_
              · simp only [Bool.false_eq_true, false_iff, Classical.not_not]; omega
              · simp only [start, KC_normal, go_sem, Nat.reduceEqDiff, Nat.reduceAdd, reduceIte, reduceCtorEq, Nat.reduceLeDiff, Nat.reduceShiftRight, Nat.reduceAnd, Nat.reduceOr, Nat.reducePow, Nat.reduceBNe, Nat.reduceBEq, u1]
              · simp only [start, KC_normal, go_sem, Nat.reduceEqDiff, Nat.reduceAdd, reduceIte, reduceCtorEq, Nat.reduceLeDiff, Nat.reduceShiftRight, Nat.reduceAnd, Nat.reduceOr, Nat.reducePow, Nat.reduceBNe, Nat.reduceBEq, u3]
              · simp only [start, KC_normal, go_sem, Nat.reduceEqDiff, Nat.reduceAdd, reduceIte, reduceCtorEq, Nat.reduceLeDiff, Nat.reduceShiftRight, Nat.reduceAnd, Nat.reduceOr, Nat.reducePow, Nat.reduceBNe, Nat.reduceBEq, u4]
              · simp only [start, KC_normal, go_sem, Nat.reduceEqDiff, Nat.reduceAdd, reduceIte, reduceCtorEq, Nat.reduceLeDiff, Nat.reduceShiftRight, Nat.reduceAnd, Nat.reduceOr, Nat.reducePow, Nat.reduceBNe, Nat.reduceBEq, u5]
              · simp only [start, KC_normal, go_sem, Nat.reduceEqDiff, Nat.reduceAdd, reduceIte, reduceCtorEq, Nat.reduceLeDiff, Nat.reduceShiftRight, Nat.reduceAnd, Nat.reduceOr, Nat.reducePow, Nat.reduceBNe, Nat.reduceBEq]
          · have n1 : ¬ x.K = 1 := by omega
            have n2 : ¬ x.K = 2 := by omega
            have n6 : ¬ 6 ≤ x.K := by omega
            by_cases hn : (x.N.toNat : Int) = 0
            · simp only [start, KC_normal, go_sem, Nat.reduceEqDiff, Nat.reduceAdd, reduceIte, reduceCtorEq, Nat.reduceLeDiff, Nat.reduceShiftRight, Nat.reduceAnd, Nat.reduceOr, Nat.reducePow, Nat.reduceBNe, Nat.reduceBEq, hbx, u1, u3, u4, u5, hk5.get, h.1, h.2, hn, hNw, n1, n2, n6]
              refine cut _ false ?_ ?_ ?_ ?_ ?_ ?_
              · simp only [Bool.false_eq_true, false_iff, Classical.not_not]; omega
              · simp only [start, KC_normal, go_sem, Nat.reduceEqDiff, Nat.reduceAdd, reduceIte, reduceCtorEq, Nat.reduceLeDiff, Nat.reduceShiftRight, Nat.reduceAnd, Nat.reduceOr, Nat.reducePow, Nat.reduceBNe, Nat.reduceBEq, u1]
              · simp only [start, KC_normal, go_sem, Nat.reduceEqDiff, Nat.reduceAdd, reduceIte, reduceCtorEq, Nat.reduceLeDiff, Nat.reduceShiftRight, Nat.reduceAnd, Nat.reduceOr, Nat.reducePow, Nat.reduceBNe, Nat.reduceBEq, u3]
              · simp only [start, KC_normal, go_sem, Nat.reduceEqDiff, Nat.reduceAdd, reduceIte, reduceCtorEq, Nat.reduceLeDiff, Nat.reduceShiftRight, Nat.reduceAnd, Nat.reduceOr, Nat.reducePow, Nat.reduceBNe, Nat.reduceBEq, u4]
              · simp only [start, KC_normal, go_sem, Nat.reduceEqDiff, Nat.reduceAdd, reduceIte, reduceCtorEq, Nat.reduceLeDiff, Nat.reduceShiftRight, Nat.reduceAnd, Nat.reduceOr, Nat.reducePow, Nat.reduceBNe, Nat.reduceBEq, u5]
              · simp only [start, KC_normal, go_sem, Nat.reduceEqDiff, Nat.reduceAdd, reduceIte, reduceCtorEq, Nat.reduceLeDiff, Nat.reduceShiftRight, Nat.reduceAnd, Nat.reduceOr, Nat.reducePow, Nat.reduceBNe, Nat.reduceBEq]
            · simp only [start, KC_normal, go_sem, Nat.reduceEqDiff, Nat.reduceAdd, reduceIte, reduceCtorEq, Nat.reduceLeDiff, Nat.reduceShiftRight, Nat.reduceAnd, Nat.reduceOr, Nat.reducePow, Nat.reduceBNe, Nat.reduceBEq, hbx, u1, u3, u4, u5, hk5.get, h.1, h.2, hn, hNw, n1, n2, n6]
              refine cut _ true ?_ ?_ ?_ ?_ ?_ ?_
              · simp only [true_iff]; omega
              · simp only [start, KC_normal, go_sem, Nat.reduceEqDiff, Nat.reduceAdd, reduceIte, reduceCtorEq, Nat.reduceLeDiff, Nat.reduceShiftRight, Nat.reduceAnd, Nat.reduceOr, Nat.reducePow, Nat.reduceBNe, Nat.reduceBEq, u1]
              · simp only [start, KC_normal, go_sem, Nat.reduceEqDiff, Nat.reduceAdd, reduceIte, reduceCtorEq, Nat.reduceLeDiff, Nat.reduceShiftRight, Nat.reduceAnd, Nat.reduceOr, Nat.reducePow, Nat.reduceBNe, Nat.reduceBEq, u3]
              · simp only [start, KC_normal, go_sem, Nat.reduceEqDiff, Nat.reduceAdd, reduceIte, reduceCtorEq, Nat.reduceLeDiff, Nat.reduceShiftRight, Nat.reduceAnd, Nat.reduceOr, Nat.reducePow, Nat.reduceBNe, Nat.reduceBEq, u4]
              · simp only [start, KC_normal, go_sem, Nat.reduceEqDiff, Nat.reduceAdd, reduceIte, reduceCtorEq, Nat.reduceLeDiff, Nat.reduceShiftRight, Nat.reduceAnd, Nat.reduceOr, Nat.reducePow, Nat.reduceBNe, Nat.reduceBEq, u5]
              · simp only [start, KC_normal, go_sem, Nat.reduceEqDiff, Nat.reduceAdd, reduceIte, reduceCtorEq, Nat.reduceLeDiff, Nat.reduceShiftRight, Nat.reduceAnd, Nat.reduceOr, Nat.reducePow, Nat.reduceBNe, Nat.reduceBEq]
          · have n1 : ¬ x.K = 1 := by omega
            have n2 : ¬ x.K = 2 := by omega
            have n3 : 3 ≤ x.K := by omega
            have n5 : ¬ x.K ≤ 5 := by omega
            have n6 : 6 ≤ x.K := by omega
            have n8 : ¬ x.K ≤ 8 := by omega
            by_cases hn : (x.N.toNat : Int) = 0
            · simp only [start, KC_normal, go_sem, Nat.reduceEqDiff, Nat.reduceAdd, reduceIte, reduceCtorEq, Nat.reduceLeDiff, Nat.reduceShiftRight, Nat.reduceAnd, Nat.reduceOr, Nat.reducePow, Nat.reduceBNe, Nat.reduceBEq, hbx, u1, u3, u4, u5, hk5.get, h, hn, hNw, n1, n2, n3, n5, n6, n8]
              refine cut _ false ?_ ?_ ?_ ?_ ?_ ?_
              · simp only [Bool.false_eq_true, false_iff, Classical.not_not]; omega
              · simp only [start, KC_normal, go_sem, Nat.reduceEqDiff, Nat.reduceAdd, reduceIte, reduceCtorEq, Nat.reduceLeDiff, Nat.reduceShiftRight, Nat.reduceAnd, Nat.reduceOr, Nat.reducePow, Nat.reduceBNe, Nat.reduceBEq, u1]
              · simp only [start, KC_normal, go_sem, Nat.reduceEqDiff, Nat.reduceAdd, reduceIte, reduceCtorEq, Nat.reduceLeDiff, Nat.reduceShiftRight, Nat.reduceAnd, Nat.reduceOr, Nat.reducePow, Nat.reduceBNe, Nat.reduceBEq, u3]
              · simp only [start, KC_normal, go_sem, Nat.reduceEqDiff, Nat.reduceAdd, reduceIte, reduceCtorEq, Nat.reduceLeDiff, Nat.reduceShiftRight, Nat.reduceAnd, Nat.reduceOr, Nat.reducePow, Nat.reduceBNe, Nat.reduceBEq, u4]
              · simp only [start, KC_normal, go_sem, Nat.reduceEqDiff, Nat.reduceAdd, reduceIte, reduceCtorEq, Nat.reduceLeDiff, Nat.reduceShiftRight, Nat.reduceAnd, Nat.reduceOr, Nat.reducePow, Nat.reduceBNe, Nat.reduceBEq, u5]
              · simp only [start, KC_normal, go_sem, Nat.reduceEqDiff, Nat.reduceAdd, reduceIte, reduceCtorEq, Nat.reduceLeDiff, Nat.reduceShiftRight, Nat.reduceAnd, Nat.reduceOr, Nat.reducePow, Nat.reduceBNe, Nat.reduceBEq]
            · simp only [start, KC_normal, go_sem, Nat.reduceEqDiff, Nat.reduceAdd, reduceIte, reduceCtorEq, Nat.reduceLeDiff, Nat.reduceShiftRight, Nat.reduceAnd, Nat.reduceOr, Nat.reducePow, Nat.reduceBNe, Nat.reduceBEq, hbx, u1, u3, u4, u5, hk5.get, h, hn, hNw, n1, n2, n3, n5, n6, n8]
              refine cut _ true ?_ ?_ ?_ ?_ ?_ ?_
              · simp only [true_iff]; omega
              · simp only [start, KC_normal, go_sem, Nat.reduceEqDiff, Nat.reduceAdd, reduceIte, reduceCtorEq, Nat.reduceLeDiff, Nat.reduceShiftRight, Nat.reduceAnd, Nat.reduceOr, Nat.reducePow, Nat.reduceBNe, Nat.reduceBEq, u1]
              · simp only [start, KC_normal, go_sem, Nat.reduceEqDiff, Nat.reduceAdd, reduceIte, reduceCtorEq, Nat.reduceLeDiff, Nat.reduceShiftRight, Nat.reduceAnd, Nat.reduceOr, Nat.reducePow, Nat.reduceBNe, Nat.reduceBEq, u3]
              · simp only [start, KC_normal, go_sem, Nat.reduceEqDiff, Nat.reduceAdd, reduceIte, reduceCtorEq, Nat.reduceLeDiff, Nat.reduceShiftRight, Nat.reduceAnd, Nat.reduceOr, Nat.reducePow, Nat.reduceBNe, Nat.reduceBEq, u4]
              · simp only [start, KC_normal, go_sem, Nat.reduceEqDiff, Nat.reduceAdd, reduceIte, reduceCtorEq, Nat.reduceLeDiff, Nat.reduceShiftRight, Nat.reduceAnd, Nat.reduceOr, Nat.reducePow, Nat.reduceBNe, Nat.reduceBEq, u5]
              · simp only [start, KC_normal, go_sem, Nat.reduceEqDiff, Nat.reduceAdd, reduceIte, reduceCtorEq, Nat.reduceLeDiff, Nat.reduceShiftRight, Nat.reduceAnd, Nat.reduceOr, Nat.reducePow, Nat.reduceBNe, Nat.reduceBEq]
      clear hk bad ok
      rcases hr3 with h0 | h0 | h0
      · subst h0
        by_cases hB : x.B = 0
        rotate_left
        · skip
          simp only [start, KC_normal, go_sem, Nat.reduceEqDiff, Nat.reduceAdd, reduceIte, reduceCtorEq, Nat.reduceLeDiff, Nat.reduceShiftRight, Nat.reduceAnd, Nat.reduceOr, Nat.reducePow, Nat.reduceBNe, Nat.reduceBEq, hbx, u1, u3, u4, u5, hk5.get, hB, hK0, hK1, Int.reduceLT]
          refine cut _ true ?_ ?_ ?_ ?_ ?_ ?_
          · simp only [true_iff]; omega
          · simp only [start, KC_normal, go_sem, Nat.reduceEqDiff, Nat.reduceAdd, reduceIte, reduceCtorEq, Nat.reduceLeDiff, Nat.reduceShiftRight, Nat.reduceAnd, Nat.reduceOr, Nat.reducePow, Nat.reduceBNe, Nat.reduceBEq, u1]
          · simp only [start, KC_normal, go_sem, Nat.reduceEqDiff, Nat.reduceAdd, reduceIte, reduceCtorEq, Nat.reduceLeDiff, Nat.reduceShiftRight, Nat.reduceAnd, Nat.reduceOr, Nat.reducePow, Nat.reduceBNe, Nat.reduceBEq, u3]
          · simp only [start, KC_normal, go_sem, Nat.reduceEqDiff, Nat.reduceAdd, reduceIte, reduceCtorEq, Nat.reduceLeDiff, Nat.reduceShiftRight, Nat.reduceAnd, Nat.reduceOr, Nat.reducePow, Nat.reduceBNe, Nat.reduceBEq, u4]
          · simp only [start, KC_normal, go_sem, Nat.reduceEqDiff, Nat.reduceAdd, reduceIte, reduceCtorEq, Nat.reduceLeDiff, Nat.reduceShiftRight, Nat.reduceAnd, Nat.reduceOr, Nat.reducePow, Nat.reduceBNe, Nat.reduceBEq, u5]
          · simp only [start, KC_normal, go_sem, Nat.reduceEqDiff, Nat.reduceAdd, reduceIte, reduceCtorEq, Nat.reduceLeDiff, Nat.reduceShiftRight, Nat.reduceAnd, Nat.reduceOr, Nat.reducePow, Nat.reduceBNe, Nat.reduceBEq]
        by_cases hA : x.A = 0
        rotate_left
        · skip
          simp only [start, KC_normal, go_sem, Nat.reduceEqDiff, Nat.reduceAdd, reduceIte, reduceCtorEq, Nat.reduceLeDiff, Nat.reduceShiftRight, Nat.reduceAnd, Nat.reduceOr, Nat.reducePow, Nat.reduceBNe, Nat.reduceBEq, hbx, u1, u3, u4, u5, hk5.get, hB, hA, hK0, hK1, Int.reduceLT]
          refine cut _ true ?_ ?_ ?_ ?_ ?_ ?_
          · simp only [true_iff]; omega
          · simp only [start, KC_normal, go_sem, Nat.reduceEqDiff, Nat.reduceAdd, reduceIte, reduceCtorEq, Nat.reduceLeDiff, Nat.reduceShiftRight, Nat.reduceAnd, Nat.reduceOr, Nat.reducePow, Nat.reduceBNe, Nat.reduceBEq, u1]
          · simp only [start, KC_normal, go_sem, Nat.reduceEqDiff, Nat.reduceAdd, reduceIte, reduceCtorEq, Nat.reduceLeDiff, Nat.reduceShiftRight, Nat.reduceAnd, Nat.reduceOr, Nat.reducePow, Nat.reduceBNe, Nat.reduceBEq, u3]
          · simp only [start, KC_normal, go_sem, Nat.reduceEqDiff, Nat.reduceAdd, reduceIte, reduceCtorEq, Nat.reduceLeDiff, Nat.reduceShiftRight, Nat.reduceAnd, Nat.reduceOr, Nat.reducePow, Nat.reduceBNe, Nat.reduceBEq, u4]
          · simp only [start, KC_normal, go_sem, Nat.reduceEqDiff, Nat.reduceAdd, reduceIte, reduceCtorEq, Nat.reduceLeDiff, Nat.reduceShiftRight, Nat.reduceAnd, Nat.reduceOr, Nat.reducePow, Nat.reduceBNe, Nat.reduceBEq, u5]
          · simp only [start, KC_normal, go_sem, Nat.reduceEqDiff, Nat.reduceAdd, reduceIte, reduceCtorEq, Nat.reduceLeDiff, Nat.reduceShiftRight, Nat.reduceAnd, Nat.reduceOr, Nat.reducePow, Nat.reduceBNe, Nat.reduceBEq]
        simp only [start, KC_normal, go_sem, Nat.reduceEqDiff, Nat.reduceAdd, reduceIte, reduceCtorEq, Nat.reduceLeDiff, Nat.reduceShiftRight, Nat.reduceAnd, Nat.reduceOr, Nat.reducePow, Nat.reduceBNe, Nat.reduceBEq, hbx, u1, u3, u4, u5, hk5.get, hB, hA, hK0, hK1, Int.reduceLT]
        refine cut _ false ?_ ?_ ?_ ?_ ?_ ?_
        · simp only [Bool.false_eq_true, false_iff, Classical.not_not]; omega
        · simp only [start, KC_normal, go_sem, Nat.reduceEqDiff, Nat.reduceAdd, reduceIte, reduceCtorEq, Nat.reduceLeDiff, Nat.reduceShiftRight, Nat.reduceAnd, Nat.reduceOr, Nat.reducePow, Nat.reduceBNe, Nat.reduceBEq, u1]
        · simp only [start, KC_normal, go_sem, Nat.reduceEqDiff, Nat.reduceAdd, reduceIte, reduceCtorEq, Nat.reduceLeDiff, Nat.reduceShiftRight, Nat.reduceAnd, Nat.reduceOr, Nat.reducePow, Nat.reduceBNe, Nat.reduceBEq, u3]
        · simp only [start, KC_normal, go_sem, Nat.reduceEqDiff, Nat.reduceAdd, reduceIte, reduceCtorEq, Nat.reduceLeDiff, Nat.reduceShiftRight, Nat.reduceAnd, Nat.reduceOr, Nat.reducePow, Nat.reduceBNe, Nat.reduceBEq, u4]
        · simp only [start, KC_normal, go_sem, Nat.reduceEqDiff, Nat.reduceAdd, reduceIte, reduceCtorEq, Nat.reduceLeDiff, Nat.reduceShiftRight, Nat.reduceAnd, Nat.reduceOr, Nat.reducePow, Nat.reduceBNe, Nat.reduceBEq, u5]
        · simp only [start, KC_normal, go_sem, Nat.reduceEqDiff, Nat.reduceAdd, reduceIte, reduceCtorEq, Nat.reduceLeDiff, Nat.reduceShiftRight, Nat.reduceAnd, Nat.reduceOr, Nat.reducePow, Nat.reduceBNe, Nat.reduceBEq]
      · subst h0
        by_cases hB : x.B = 0
        rotate_left
        · skip
          simp only [start, KC_normal, go_sem, Nat.reduceEqDiff, Nat.reduceAdd, reduceIte, reduceCtorEq, Nat.reduceLeDiff, Nat.reduceShiftRight, Nat.reduceAnd, Nat.reduceOr, Nat.reducePow, Nat.reduceBNe, Nat.reduceBEq, hbx, u1, u3, u4, u5, hk5.get, hB, hK0, hK1, Int.reduceLT]
          refine cut _ true ?_ ?_ ?_ ?_ ?_ ?_
          · simp only [true_iff]; omega
          · simp only [start, KC_normal, go_sem, Nat.reduceEqDiff, Nat.reduceAdd, reduceIte, reduceCtorEq, Nat.reduceLeDiff, Nat.reduceShiftRight, Nat.reduceAnd, Nat.reduceOr, Nat.reducePow, Nat.reduceBNe, Nat.reduceBEq, u1]
          · simp only [start, KC_normal, go_sem, Nat.reduceEqDiff, Nat.reduceAdd, reduceIte, reduceCtorEq, Nat.reduceLeDiff, Nat.reduceShiftRight, Nat.reduceAnd, Nat.reduceOr, Nat.reducePow, Nat.reduceBNe, Nat.reduceBEq, u3]
          · simp only [start, KC_normal, go_sem, Nat.reduceEqDiff, Nat.reduceAdd, reduceIte, reduceCtorEq, Nat.reduceLeDiff, Nat.reduceShiftRight, Nat.reduceAnd, Nat.reduceOr, Nat.reducePow, Nat.reduceBNe, Nat.reduceBEq, u4]
          · simp only [start, KC_normal, go_sem, Nat.reduceEqDiff, Nat.reduceAdd, reduceIte, reduceCtorEq, Nat.reduceLeDiff, Nat.reduceShiftRight, Nat.reduceAnd, Nat.reduceOr, Nat.reducePow, Nat.reduceBNe, Nat.reduceBEq, u5]
          · simp only [start, KC_normal, go_sem, Nat.reduceEqDiff, Nat.reduceAdd, reduceIte, reduceCtorEq, Nat.reduceLeDiff, Nat.reduceShiftRight, Nat.reduceAnd, Nat.reduceOr, Nat.reducePow, Nat.reduceBNe, Nat.reduceBEq]
        by_cases hA : x.A < 0
        · skip
          simp only [start, KC_normal, go_sem, Nat.reduceEqDiff, Nat.reduceAdd, reduceIte, reduceCtorEq, Nat.reduceLeDiff, Nat.reduceShiftRight, Nat.reduceAnd, Nat.reduceOr, Nat.reducePow, Nat.reduceBNe, Nat.reduceBEq, hbx, u1, u3, u4, u5, hk5.get, hB, hA, hK0, hK1, Int.reduceLT]
          refine cut _ true ?_ ?_ ?_ ?_ ?_ ?_
          · simp only [true_iff]; omega
          · simp only [start, KC_normal, go_sem, Nat.reduceEqDiff, Nat.reduceAdd, reduceIte, reduceCtorEq, Nat.reduceLeDiff, Nat.reduceShiftRight, Nat.reduceAnd, Nat.reduceOr, Nat.reducePow, Nat.reduceBNe, Nat.reduceBEq, u1]
          · simp only [start, KC_normal, go_sem, Nat.reduceEqDiff, Nat.reduceAdd, reduceIte, reduceCtorEq, Nat.reduceLeDiff, Nat.reduceShiftRight, Nat.reduceAnd, Nat.reduceOr, Nat.reducePow, Nat.reduceBNe, Nat.reduceBEq, u3]
          · simp only [start, KC_normal, go_sem, Nat.reduceEqDiff, Nat.reduceAdd, reduceIte, reduceCtorEq, Nat.reduceLeDiff, Nat.reduceShiftRight, Nat.reduceAnd, Nat.reduceOr, Nat.reducePow, Nat.reduceBNe, Nat.reduceBEq, u4]
          · simp only [start, KC_normal, go_sem, Nat.reduceEqDiff, Nat.reduceAdd, reduceIte, reduceCtorEq, Nat.reduceLeDiff, Nat.reduceShiftRight, Nat.reduceAnd, Nat.reduceOr, Nat.reducePow, Nat.reduceBNe, Nat.reduceBEq, u5]
          · simp only [start, KC_normal, go_sem, Nat.reduceEqDiff, Nat.reduceAdd, reduceIte, reduceCtorEq, Nat.reduceLeDiff, Nat.reduceShiftRight, Nat.reduceAnd, Nat.reduceOr, Nat.reducePow, Nat.reduceBNe, Nat.reduceBEq]
        by_cases hA2 : (i : Int) ≤ x.A
        · skip
          simp only [start, KC_normal, go_sem, Nat.reduceEqDiff, Nat.reduceAdd, reduceIte, reduceCtorEq, Nat.reduceLeDiff, Nat.reduceShiftRight, Nat.reduceAnd, Nat.reduceOr, Nat.reducePow, Nat.reduceBNe, Nat.reduceBEq, hbx, u1, u3, u4, u5, hk5.get, hB, hA, hA2, hK0, hK1, Int.reduceLT]
          refine cut _ true ?_ ?_ ?_ ?_ ?_ ?_
          · simp only [true_iff]; omega
          · simp only [start, KC_normal, go_sem, Nat.reduceEqDiff, Nat.reduceAdd, reduceIte, reduceCtorEq, Nat.reduceLeDiff, Nat.reduceShiftRight, Nat.reduceAnd, Nat.reduceOr, Nat.reducePow, Nat.reduceBNe, Nat.reduceBEq, u1]
          · simp only [start, KC_normal, go_sem, Nat.reduceEqDiff, Nat.reduceAdd, reduceIte, reduceCtorEq, Nat.reduceLeDiff, Nat.reduceShiftRight, Nat.reduceAnd, Nat.reduceOr, Nat.reducePow, Nat.reduceBNe, Nat.reduceBEq, u3]
          · simp only [start, KC_normal, go_sem, Nat.reduceEqDiff, Nat.reduceAdd, reduceIte, reduceCtorEq, Nat.reduceLeDiff, Nat.reduceShiftRight, Nat.reduceAnd, Nat.reduceOr, Nat.reducePow, Nat.reduceBNe, Nat.reduceBEq, u4]
          · simp only [start, KC_normal, go_sem, Nat.reduceEqDiff, Nat.reduceAdd, reduceIte, reduceCtorEq, Nat.reduceLeDiff, Nat.reduceShiftRight, Nat.reduceAnd, Nat.reduceOr, Nat.reducePow, Nat.reduceBNe, Nat.reduceBEq, u5]
          · simp only [start, KC_normal, go_sem, Nat.reduceEqDiff, Nat.reduceAdd, reduceIte, reduceCtorEq, Nat.reduceLeDiff, Nat.reduceShiftRight, Nat.reduceAnd, Nat.reduceOr, Nat.reducePow, Nat.reduceBNe, Nat.reduceBEq]
        simp only [start, KC_normal, go_sem, Nat.reduceEqDiff, Nat.reduceAdd, reduceIte, reduceCtorEq, Nat.reduceLeDiff, Nat.reduceShiftRight, Nat.reduceAnd, Nat.reduceOr, Nat.reducePow, Nat.reduceBNe, Nat.reduceBEq, hbx, u1, u3, u4, u5, hk5.get, hB, hA, hA2, hK0, hK1, Int.reduceLT]
        refine cut _ false ?_ ?_ ?_ ?_ ?_ ?_
        · simp only [Bool.false_eq_true, false_iff, Classical.not_not]; omega
        · simp only [start, KC_normal, go_sem, Nat.reduceEqDiff, Nat.reduceAdd, reduceIte, reduceCtorEq, Nat.reduceLeDiff, Nat.reduceShiftRight, Nat.reduceAnd, Nat.reduceOr, Nat.reducePow, Nat.reduceBNe, Nat.reduceBEq, u1]
        · simp only [start, KC_normal, go_sem, Nat.reduceEqDiff, Nat.reduceAdd, reduceIte, reduceCtorEq, Nat.reduceLeDiff, Nat.reduceShiftRight, Nat.reduceAnd, Nat.reduceOr, Nat.reducePow, Nat.reduceBNe, Nat.reduceBEq, u3]
        · simp only [start, KC_normal, go_sem, Nat.reduceEqDiff, Nat.reduceAdd, reduceIte, reduceCtorEq, Nat.reduceLeDiff, Nat.reduceShiftRight, Nat.reduceAnd, Nat.reduceOr, Nat.reducePow, Nat.reduceBNe, Nat.reduceBEq, u4]
        · simp only [start, KC_normal, go_sem, Nat.reduceEqDiff, Nat.reduceAdd, reduceIte, reduceCtorEq, Nat.reduceLeDiff, Nat.reduceShiftRight, Nat.reduceAnd, Nat.reduceOr, Nat.reducePow, Nat.reduceBNe, Nat.reduceBEq, u5]
        · simp only [start, KC_normal, go_sem, Nat.reduceEqDiff, Nat.reduceAdd, reduceIte, reduceCtorEq, Nat.reduceLeDiff, Nat.reduceShiftRight, Nat.reduceAnd, Nat.reduceOr, Nat.reducePow, Nat.reduceBNe, Nat.reduceBEq]
      · subst h0
        by_cases hA : x.A < 0
        · skip
          simp only [start, KC_normal, go_sem, Nat.reduceEqDiff, Nat.reduceAdd, reduceIte, reduceCtorEq, Nat.reduceLeDiff, Nat.reduceShiftRight, Nat.reduceAnd, Nat.reduceOr, Nat.reducePow, Nat.reduceBNe, Nat.reduceBEq, hbx, u1, u3, u4, u5, hk5.get, hA, hK0, hK1, Int.reduceLT]
          refine cut _ true ?_ ?_ ?_ ?_ ?_ ?_
          · simp only [true_iff]; omega
          · simp only [start, KC_normal, go_sem, Nat.reduceEqDiff, Nat.reduceAdd, reduceIte, reduceCtorEq, Nat.reduceLeDiff, Nat.reduceShiftRight, Nat.reduceAnd, Nat.reduceOr, Nat.reducePow, Nat.reduceBNe, Nat.reduceBEq, u1]
          · simp only [start, KC_normal, go_sem, Nat.reduceEqDiff, Nat.reduceAdd, reduceIte, reduceCtorEq, Nat.reduceLeDiff, Nat.reduceShiftRight, Nat.reduceAnd, Nat.reduceOr, Nat.reducePow, Nat.reduceBNe, Nat.reduceBEq, u3]
          · simp only [start, KC_normal, go_sem, Nat.reduceEqDiff, Nat.reduceAdd, reduceIte, reduceCtorEq, Nat.reduceLeDiff, Nat.reduceShiftRight, Nat.reduceAnd, Nat.reduceOr, Nat.reducePow, Nat.reduceBNe, Nat.reduceBEq, u4]
          · simp only [start, KC_normal, go_sem, Nat.reduceEqDiff, Nat.reduceAdd, reduceIte, reduceCtorEq, Nat.reduceLeDiff, Nat.reduceShiftRight, Nat.reduceAnd, Nat.reduceOr, Nat.reducePow, Nat.reduceBNe, Nat.reduceBEq, u5]
          · simp only [start, KC_normal, go_sem, Nat.reduceEqDiff, Nat.reduceAdd, reduceIte, reduceCtorEq, Nat.reduceLeDiff, Nat.reduceShiftRight, Nat.reduceAnd, Nat.reduceOr, Nat.reducePow, Nat.reduceBNe, Nat.reduceBEq]
        by_cases hA2 : (i : Int) ≤ x.A
        · skip
          simp only [start, KC_normal, go_sem, Nat.reduceEqDiff, Nat.reduceAdd, reduceIte, reduceCtorEq, Nat.reduceLeDiff, Nat.reduceShiftRight, Nat.reduceAnd, Nat.reduceOr, Nat.reducePow, Nat.reduceBNe, Nat.reduceBEq, hbx, u1, u3, u4, u5, hk5.get, hA, hA2, hK0, hK1, Int.reduceLT]
          refine cut _ true ?_ ?_ ?_ ?_ ?_ ?_
          · simp only [true_iff]; omega
          · simp only [start, KC_normal, go_sem, Nat.reduceEqDiff, Nat.reduceAdd, reduceIte, reduceCtorEq, Nat.reduceLeDiff, Nat.reduceShiftRight, Nat.reduceAnd, Nat.reduceOr, Nat.reducePow, Nat.reduceBNe, Nat.reduceBEq, u1]
          · simp only [start, KC_normal, go_sem, Nat.reduceEqDiff, Nat.reduceAdd, reduceIte, reduceCtorEq, Nat.reduceLeDiff, Nat.reduceShiftRight, Nat.reduceAnd, Nat.reduceOr, Nat.reducePow, Nat.reduceBNe, Nat.reduceBEq, u3]
          · simp only [start, KC_normal, go_sem, Nat.reduceEqDiff, Nat.reduceAdd, reduceIte, reduceCtorEq, Nat.reduceLeDiff, Nat.reduceShiftRight, Nat.reduceAnd, Nat.reduceOr, Nat.reducePow, Nat.reduceBNe, Nat.reduceBEq, u4]
          · simp only [start, KC_normal, go_sem, Nat.reduceEqDiff, Nat.reduceAdd, reduceIte, reduceCtorEq, Nat.reduceLeDiff, Nat.reduceShiftRight, Nat.reduceAnd, Nat.reduceOr, Nat.reducePow, Nat.reduceBNe, Nat.reduceBEq, u5]
          · simp only [start, KC_normal, go_sem, Nat.reduceEqDiff, Nat.reduceAdd, reduceIte, reduceCtorEq, Nat.reduceLeDiff, Nat.reduceShiftRight, Nat.reduceAnd, Nat.reduceOr, Nat.reducePow, Nat.reduceBNe, Nat.reduceBEq]
        by_cases hB : x.B < 0
        · skip
          simp only [start, KC_normal, go_sem, Nat.reduceEqDiff, Nat.reduceAdd, reduceIte, reduceCtorEq, Nat.reduceLeDiff, Nat.reduceShiftRight, Nat.reduceAnd, Nat.reduceOr, Nat.reducePow, Nat.reduceBNe, Nat.reduceBEq, hbx, u1, u3, u4, u5, hk5.get, hA, hA2, hB, hK0, hK1, Int.reduceLT]
          refine cut _ true ?_ ?_ ?_ ?_ ?_ ?_
          · simp only [true_iff]; omega
          · simp only [start, KC_normal, go_sem, Nat.reduceEqDiff, Nat.reduceAdd, reduceIte, reduceCtorEq, Nat.reduceLeDiff, Nat.reduceShiftRight, Nat.reduceAnd, Nat.reduceOr, Nat.reducePow, Nat.reduceBNe, Nat.reduceBEq, u1]
          · simp only [start, KC_normal, go_sem, Nat.reduceEqDiff, Nat.reduceAdd, reduceIte, reduceCtorEq, Nat.reduceLeDiff, Nat.reduceShiftRight, Nat.reduceAnd, Nat.reduceOr, Nat.reducePow, Nat.reduceBNe, Nat.reduceBEq, u3]
          · simp only [start, KC_normal, go_sem, Nat.reduceEqDiff, Nat.reduceAdd, reduceIte, reduceCtorEq, Nat.reduceLeDiff, Nat.reduceShiftRight, Nat.reduceAnd, Nat.reduceOr, Nat.reducePow, Nat.reduceBNe, Nat.reduceBEq, u4]
          · simp only [start, KC_normal, go_sem, Nat.reduceEqDiff, Nat.reduceAdd, reduceIte, reduceCtorEq, Nat.reduceLeDiff, Nat.reduceShiftRight, Nat.reduceAnd, Nat.reduceOr, Nat.reducePow, Nat.reduceBNe, Nat.reduceBEq, u5]
          · simp only [start, KC_normal, go_sem, Nat.reduceEqDiff, Nat.reduceAdd, reduceIte, reduceCtorEq, Nat.reduceLeDiff, Nat.reduceShiftRight, Nat.reduceAnd, Nat.reduceOr, Nat.reducePow, Nat.reduceBNe, Nat.reduceBEq]
        by_cases hB2 : (i : Int) ≤ x.B
        · skip
          simp only [start, KC_normal, go_sem, Nat.reduceEqDiff, Nat.reduceAdd, reduceIte, reduceCtorEq, Nat.reduceLeDiff, Nat.reduceShiftRight, Nat.reduceAnd, Nat.reduceOr, Nat.reducePow, Nat.reduceBNe, Nat.reduceBEq, hbx, u1, u3, u4, u5, hk5.get, hA, hA2, hB, hB2, hK0, hK1, Int.reduceLT]
          refine cut _ true ?_ ?_ ?_ ?_ ?_ ?_
          · simp only [true_iff]; omega
          · simp only [start, KC_normal, go_sem, Nat.reduceEqDiff, Nat.reduceAdd, reduceIte, reduceCtorEq, Nat.reduceLeDiff, Nat.reduceShiftRight, Nat.reduceAnd, Nat.reduceOr, Nat.reducePow, Nat.reduceBNe, Nat.reduceBEq, u1]
          · simp only [start, KC_normal, go_sem, Nat.reduceEqDiff, Nat.reduceAdd, reduceIte, reduceCtorEq, Nat.reduceLeDiff, Nat.reduceShiftRight, Nat.reduceAnd, Nat.reduceOr, Nat.reducePow, Nat.reduceBNe, Nat.reduceBEq, u3]
          · simp only [start, KC_normal, go_sem, Nat.reduceEqDiff, Nat.reduceAdd, reduceIte, reduceCtorEq, Nat.reduceLeDiff, Nat.reduceShiftRight, Nat.reduceAnd, Nat.reduceOr, Nat.reducePow, Nat.reduceBNe, Nat.reduceBEq, u4]
          · simp only [start, KC_normal, go_sem, Nat.reduceEqDiff, Nat.reduceAdd, reduceIte, reduceCtorEq, Nat.reduceLeDiff, Nat.reduceShiftRight, Nat.reduceAnd, Nat.reduceOr, Nat.reducePow, Nat.reduceBNe, Nat.reduceBEq, u5]
          · simp only [start, KC_normal, go_sem, Nat.reduceEqDiff, Nat.reduceAdd, reduceIte, reduceCtorEq, Nat.reduceLeDiff, Nat.reduceShiftRight, Nat.reduceAnd, Nat.reduceOr, Nat.reducePow, Nat.reduceBNe, Nat.reduceBEq]
        simp only [start, KC_normal, go_sem, Nat.reduceEqDiff, Nat.reduceAdd, reduceIte, reduceCtorEq, Nat.reduceLeDiff, Nat.reduceShiftRight, Nat.reduceAnd, Nat.reduceOr, Nat.reducePow, Nat.reduceBNe, Nat.reduceBEq, hbx, u1, u3, u4, u5, hk5.get, hA, hA2, hB, hB2, hK0, hK1, Int.reduceLT]
        refine cut _ false ?_ ?_ ?_ ?_ ?_ ?_
        · simp only [Bool.false_eq_true, false_iff, Classical.not_not]; omega
        · simp only [start, KC_normal, go_sem, Nat.reduceEqDiff, Nat.reduceAdd, reduceIte, reduceCtorEq, Nat.reduceLeDiff, Nat.reduceShiftRight, Nat.reduceAnd, Nat.reduceOr, Nat.reducePow, Nat.reduceBNe, Nat.reduceBEq, u1]
        · simp only [start, KC_normal, go_sem, Nat.reduceEqDiff, Nat.reduceAdd, reduceIte, reduceCtorEq, Nat.reduceLeDiff, Nat.reduceShiftRight, Nat.reduceAnd, Nat.reduceOr, Nat.reducePow, Nat.reduceBNe, Nat.reduceBEq, u3]
        · simp only [start, KC_normal, go_sem, Nat.reduceEqDiff, Nat.reduceAdd, reduceIte, reduceCtorEq, Nat.reduceLeDiff, Nat.reduceShiftRight, Nat.reduceAnd, Nat.reduceOr, Nat.reducePow, Nat.reduceBNe, Nat.reduceBEq, u4]
        · simp only [start, KC_normal, go_sem, Nat.reduceEqDiff, Nat.reduceAdd, reduceIte, reduceCtorEq, Nat.reduceLeDiff, Nat.reduceShiftRight, Nat.reduceAnd, Nat.reduceOr, Nat.reducePow, Nat.reduceBNe, Nat.reduceBEq, u5]
        · simp only [start, KC_normal, go_sem, Nat.reduceEqDiff, Nat.reduceAdd, reduceIte, reduceCtorEq, Nat.reduceLeDiff, Nat.reduceShiftRight, Nat.reduceAnd, Nat.reduceOr, Nat.reducePow, Nat.reduceBNe, Nat.reduceBEq]
    · have hi' : i = g.gates.length := by omega
      subst hi'
      simp only [start, go_sem, Nat.reduceEqDiff, Nat.reduceAdd, reduceIte, reduceCtorEq, Nat.reduceLeDiff, Nat.reduceShiftRight, Nat.reduceAnd, Nat.reduceOr, Nat.reducePow, Nat.reduceBNe, Nat.reduceBEq]
      rw [KC_normal]
      simp only [start, go_sem, Nat.reduceEqDiff, Nat.reduceAdd, reduceIte, reduceCtorEq, Nat.reduceLeDiff, Nat.reduceShiftRight, Nat.reduceAnd, Nat.reduceOr, Nat.reducePow, Nat.reduceBNe, Nat.reduceBEq]
      rw [KC_normal]
      simp only [start, go_sem, Nat.reduceEqDiff, Nat.reduceAdd, reduceIte, reduceCtorEq, Nat.reduceLeDiff, Nat.reduceShiftRight, Nat.reduceAnd, Nat.reduceOr, Nat.reducePow, Nat.reduceBNe, Nat.reduceBEq]
      have hcl : (∀ (j : Nat) (x : GateM), g.gates[j]? = some x → gOkM g j x) := fun j x hjx => hall j x (by
        rcases Nat.lt_or_ge j g.gates.length with h' | h'
        · exact h'
        · rw [List.getElem?_eq_none h'] at hjx; cases hjx) hjx
      clear hall hj hi hge
      refine wp_loop TT.ok rfl rfl (fun j s => ∃ tm H'' k, s = ⟨tm, 221, [], false, H''⟩ ∧ j = g.outs.length - k ∧ k ≤ g.outs.length ∧ Ext H H'' ∧
        Kp noF H'' H.next (.cells true 4 [.slice ag g.gates.length cg, .int .i64 g.secrets, .int .i64 g.publics, .slice au g.outs.length cu]) ∧ (∀ (j : Nat) (x : OutM), j < k → g.outs[j]? = some x → 0 ≤ x.At ∧ x.At < g.gates.length) ∧
        tm.get 1 = some (.pointer (some ⟨H.next, 0, none⟩)) ∧ tm.get 7 = some (.int .i64 (k : Nat))) g.outs.length ?_ ?_
      · refine ⟨_, H', 0, rfl, rfl, Nat.zero_le _, hE, hk, fun j x hj => by omega, ?_, ?_⟩
        all_goals simp only [start, KC_normal, go_sem, Nat.reduceEqDiff, Nat.reduceAdd, reduceIte, reduceCtorEq, Nat.reduceLeDiff, Nat.reduceShiftRight, Nat.reduceAnd, Nat.reduceOr, Nat.reducePow, Nat.reduceBNe, Nat.reduceBEq, t1]
        rfl
      · clear t1 t3 hE hk
        rintro j s - ⟨tm, H', k, rfl, hj, hi, hE, hk, hall, t1, t7⟩
        simp only [start, KC_normal, go_sem, Nat.reduceEqDiff, Nat.reduceAdd, reduceIte, reduceCtorEq, Nat.reduceLeDiff, Nat.reduceShiftRight, Nat.reduceAnd, Nat.reduceOr, Nat.reducePow, Nat.reduceBNe, Nat.reduceBEq, t1, t7, hk.get]
        refine CN_split (fun hlt => ?_) (fun hge => ?_)
        · have hlt' : k < g.outs.length := by omega
          obtain ⟨x, hx⟩ : ∃ x, g.outs[k]? = some x := ⟨_, List.getElem?_eq_getElem hlt'⟩
          obtain ⟨bo, oo, owo, Co, rfl, hko, hCo⟩ := huA.all OutM.len (by omega)
          have hat := (hCo _ _ hx).1 1 (by omega)
          simp only [OutM.c, List.getElem?_cons_succ, List.getElem?_cons_zero] at hat
          have ok : (0 ≤ x.At ∧ x.At < g.gates.length) → ∀ (j : Nat) (y : OutM), j < k + 1 → g.outs[j]? = some y → 0 ≤ y.At ∧ y.At < g.gates.length := fun hg j y hj hy => by
            rcases Nat.lt_or_ge j k with hj' | hj'
            · exact hall j y hj' hy
            · obtain rfl : j = k := by omega
              rw [hx] at hy; cases hy; exact hg
          have bad : ∀ H'', Ext H H'' → ¬ (0 ≤ x.At ∧ x.At < g.gates.length) → Q (.ret (.bool false)) H'' := fun H'' hE'' hg => hQ false _ hE'' (by
            simp only [Bool.false_eq_true, false_iff]
            exact fun hc => hg (hc.o k x hx))
          have e2 : IntKind.i64.wrap ((k : Int) + 1) = ((k + 1 : Nat) : Int) := by rw [wrap_i64 _ (by omega) (by omega)]; simp
          have hko' := (hko.step hE.step).get
          simp only [start, KC_normal, go_sem, Nat.reduceEqDiff, Nat.reduceAdd, reduceIte, reduceCtorEq, Nat.reduceLeDiff, Nat.reduceShiftRight, Nat.reduceAnd, Nat.reduceOr, Nat.reducePow, Nat.reduceBNe, Nat.reduceBEq]
          by_cases h0 : x.At < 0
          all_goals by_cases h1 : (g.gates.length : Int) ≤ x.At
          all_goals
            refine DRg_x TT.ok [0, 1, 0, 7, 15, 31, 63, 127, 255, 511, 255, 2047, 4095, 8191, 255, 16639, 49407, 131071, 262143] 19 524287 221 rfl (by decide +kernel) ?_
            simp only [start, KC_normal, go_sem, Nat.reduceEqDiff, Nat.reduceAdd, reduceIte, reduceCtorEq, Nat.reduceLeDiff, Nat.reduceShiftRight, Nat.reduceAnd, Nat.reduceOr, Nat.reducePow, Nat.reduceBNe, Nat.reduceBEq, t1, t7, hk.get, ia_in _ _ _ _ _ hlt', hko', hat, h0, h1]
            first
              | exact bad _ (hE.skip _) (by omega)
              | refine ⟨g.outs.length - (k + 1), by omega, _, _, k + 1, rfl, rfl, by omega, hE.skip _, hk.step ((Ext.refl H').skip _).step, ok (by omega), ?_, ?_⟩
          all_goals simp only [start, KC_normal, go_sem, Nat.reduceEqDiff, Nat.reduceAdd, reduceIte, reduceCtorEq, Nat.reduceLeDiff, Nat.reduceShiftRight, Nat.reduceAnd, Nat.reduceOr, Nat.reducePow, Nat.reduceBNe, Nat.reduceBEq, t1]
          rw [e2]
        · have hk' : k = g.outs.length := by omega
          subst hk'
          simp only [start, KC_normal, go_sem, Nat.reduceEqDiff, Nat.reduceAdd, reduceIte, reduceCtorEq, Nat.reduceLeDiff, Nat.reduceShiftRight, Nat.reduceAnd, Nat.reduceOr, Nat.reducePow, Nat.reduceBNe, Nat.reduceBEq]
          refine hQ true _ hE ?_
          simp only [true_iff]
          exact ⟨⟨hs.1, hs.2.1⟩, ⟨hs.2.2.1, hs.2.2.2.1⟩, hs.2.2.2.2, hcl, fun j x hjx => hall j x (by
            rcases Nat.lt_or_ge j g.outs.length with h' | h'
            · exact h'
            · rw [List.getElem?_eq_none h'] at hjx; cases hjx) hjx⟩
end Go.Ab.Ex
