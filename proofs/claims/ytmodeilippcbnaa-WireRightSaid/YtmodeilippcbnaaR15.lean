/- Wire: what is code, by the document. -/
import Derived.Test.YtmodeilippcbnaaR14
set_option linter.all false
namespace Go.Ab.Ex
open Go.Proofs
set_option maxRecDepth 10000
set_option maxHeartbeats 2000000

def opOkM (inn : Int) (i : Nat) (o : OpM) : Prop :=
  0 ≤ o.K ∧ o.K ≤ 8 ∧ (takesO o.K < 1 → o.A = 0) ∧ (takesO o.K < 2 → o.B = 0) ∧ (0 < takesO o.K → 0 ≤ o.A ∧ o.A < inn + i) ∧ (1 < takesO o.K → 0 ≤ o.B ∧ o.B < inn + i) ∧
  (4 ≤ o.K ∧ o.K ≤ 6 → (o.N.toNat : Int) ≤ 31) ∧ (o.K < 4 ∨ o.K = 8 → (o.N.toNat : Int) = 0)
structure CodeOk (inn : Int) (ops : List OpM) (outs : List Int) : Prop where
  i : 0 ≤ inn ∧ inn ≤ 4000
  l : ops.length ≤ 60000
  p : ∀ (i : Nat) (o : OpM), ops[i]? = some o → opOkM inn i o
  o : ∀ (i : Nat) (x : Int), outs[i]? = some x → 0 ≤ x ∧ x < inn + ops.length

theorem f13_c {F : Fr} {H : Heap} {v : Value} {inn : Int} {ops : List OpM} {outs : List Int} (hv : CodeR F H v inn ops outs) (hok : CodeOk inn ops outs) (hl : outs.length < 1000000) {Q : Ret → Heap → Prop} (hQ : ∀ H', Ext H H' → Q (.ret (.bool true)) H') : C 13 #[v] H Q := by
  obtain ⟨vo, vu, rfl, ho1, hu1⟩ := hv.noF.ex
  obtain ⟨ao, co, rfl, -, -, hoA⟩ := ho1.ex
  obtain ⟨au, cu, rfl, -, -, huA⟩ := hu1.ex
  clear hv ho1 hu1
  have hi0 := hok.i
  have hl0 := hok.l
  have a1 : ¬ inn < 0 := by omega
  have a2 : ¬ (4000 : Int) < inn := by omega
  have a3 : ¬ (60000 : Int) < (ops.length : Int) := by omega
  refine SemC_fn TT.ok fn13 rfl rfl ?_
  simp only [Try.f13, start, KC_normal, go_sem, Nat.reduceEqDiff, Nat.reduceAdd, reduceIte, reduceCtorEq, Nat.reduceLeDiff, Nat.reduceShiftRight, Nat.reduceAnd, Nat.reduceOr, Nat.reducePow, Nat.reduceBNe, Nat.reduceBEq]
  generalize hX : H.push _ = H1
  obtain ⟨hE1, h7, hn1⟩ := new_push hX
  clear hX
  simp only [start, KC_normal, go_sem, Nat.reduceEqDiff, Nat.reduceAdd, reduceIte, reduceCtorEq, Nat.reduceLeDiff, Nat.reduceShiftRight, Nat.reduceAnd, Nat.reduceOr, Nat.reducePow, Nat.reduceBNe, Nat.reduceBEq, a1, a2, a3, h7]
  refine wp_loop TT.ok rfl rfl (fun j s => ∃ tm H' i, s = ⟨tm, 152, [], false, H'⟩ ∧ j = ops.length - i ∧ i ≤ ops.length ∧ Ext H H' ∧ Kp noF H' H.next (.cells true 3 [.int .i64 inn, .slice ao ops.length co, .slice au outs.length cu]) ∧
    tm.get 1 = some (.pointer (some ⟨H.next, 0, none⟩)) ∧ tm.get 3 = some (.int .i64 (i : Nat))) ops.length ?_ ?_
  · refine ⟨_, H1, 0, rfl, rfl, Nat.zero_le _, hE1, ⟨by omega, noF_not _, h7⟩, ?_, ?_⟩
    all_goals simp only [start, KC_normal, go_sem, Nat.reduceEqDiff, Nat.reduceAdd, reduceIte, reduceCtorEq, Nat.reduceLeDiff, Nat.reduceShiftRight, Nat.reduceAnd, Nat.reduceOr, Nat.reducePow, Nat.reduceBNe, Nat.reduceBEq]
    rfl
  · clear h7 hn1 hE1
    rintro j s - ⟨tm, H', i, rfl, hj, hi, hE, hk, t1, t3⟩
    simp only [start, KC_normal, go_sem, Nat.reduceEqDiff, Nat.reduceAdd, reduceIte, reduceCtorEq, Nat.reduceLeDiff, Nat.reduceShiftRight, Nat.reduceAnd, Nat.reduceOr, Nat.reducePow, Nat.reduceBNe, Nat.reduceBEq, t1, t3, hk.get]
    refine CN_split (fun hlt => ?_) (fun hge => ?_)
    · have hlt' : i < ops.length := by omega
      obtain ⟨x, hx⟩ : ∃ x, ops[i]? = some x := ⟨_, List.getElem?_eq_getElem hlt'⟩
      have hxo := hok.p i x hx
      obtain ⟨bg, og, owg, Cg, rfl, hkg, hCg⟩ := hoA.all OpM.len (by omega)
      have hseg := (hCg i x hx).2
      simp only [OpM.c] at hseg
      have hkg' := hkg.step hE.step
      simp only [start, KC_normal, go_sem, Nat.reduceEqDiff, Nat.reduceAdd, reduceIte, reduceCtorEq, Nat.reduceLeDiff, Nat.reduceShiftRight, Nat.reduceAnd, Nat.reduceOr, Nat.reducePow, Nat.reduceBNe, Nat.reduceBEq, t1, t3, hk.get, ia_in _ _ _ _ _ hlt', hkg'.get, hseg]
      generalize hX : (H'.push _).put _ _ = H5
      obtain ⟨hE5, hbx, hn5⟩ := new_put hX
      clear hX
      have hk5 := hk.step hE5.step
      refine DRg_x TT.ok [0, 1, 3, 0, 8, 0, 56, 7, 255] 9 511 152 rfl (by decide +kernel) ?_
      simp only [start, KC_normal, go_sem, Nat.reduceEqDiff, Nat.reduceAdd, reduceIte, reduceCtorEq, Nat.reduceLeDiff, Nat.reduceShiftRight, Nat.reduceAnd, Nat.reduceOr, Nat.reducePow, Nat.reduceBNe, Nat.reduceBEq, hbx]
      refine f32_c fun r hr => ?_
      have hw : IntKind.i64.wrap (inn + (i : Int)) = inn + (i : Int) := wrap_i64 _ (by omega) (by omega)
      simp only [start, go_sem, Nat.reduceEqDiff, Nat.reduceAdd, reduceIte, reduceCtorEq, Nat.reduceLeDiff, Nat.reduceShiftRight, Nat.reduceAnd, Nat.reduceOr, Nat.reducePow, Nat.reduceBNe, Nat.reduceBEq, t1, t3, hk5.get, hw]
      have hE6 : Ext H5 (H5.skip 9) := (Ext.refl H5).skip 9
      have hbx := (hE6.get _ (by omega)).trans hbx
      have hk5 := hk5.step hE6.step
      have hE56 := hE5.trans hE6
      generalize H5.skip 9 = H6 at *
      generalize hT : Tr.set _ _ _ _ = tm2
      obtain ⟨u1, u3, u4, u5, u6⟩ : tm2.get 1 = some (.pointer (some ⟨H.next, 0, none⟩)) ∧ tm2.get 3 = some (.int .i64 (i : Nat)) ∧ tm2.get 4 = some (.pointer (some ⟨H'.next, 0, none⟩)) ∧ tm2.get 5 = some (.int .i64 r) ∧ tm2.get 6 = some (.int .i64 (inn + (i : Int))) := by
        subst hT
        refine ⟨?_, ?_, ?_, ?_, ?_⟩ <;> simp only [start, KC_normal, go_sem, Nat.reduceEqDiff, Nat.reduceAdd, reduceIte, reduceCtorEq, Nat.reduceLeDiff, Nat.reduceShiftRight, Nat.reduceAnd, Nat.reduceOr, Nat.reducePow, Nat.reduceBNe, Nat.reduceBEq, t1, t3]
      clear hT t1 t3
      have e2 : IntKind.i64.wrap ((i : Int) + 1) = ((i + 1 : Nat) : Int) := by rw [wrap_i64 _ (by omega) (by omega)]; simp
      obtain ⟨hK0, hK8, hA0, hB0, hA1, hB1, hN1, hN2⟩ := hxo
      rw [← hr] at hA0 hB0 hA1 hB1
      clear hw hk hkg hkg' hCg hoA hseg hE6
      have hKc : (x.K = 0 ∨ x.K = 7) ∨ (x.K = 3 ∨ x.K = 4 ∨ x.K = 5 ∨ x.K = 6 ∨ x.K = 8) ∨ (x.K = 1 ∨ x.K = 2) := by omega
      rcases hKc with hKc | hKc | hKc
      · have hrr : r = 0 := by rw [hr]; rcases hKc with h | h <;> rw [h] <;> rfl
        subst hrr
        have hA := hA0 (by omega)
        have hB := hB0 (by omega)
        rcases hKc with hK | hK
        · have hN := hN2 (by omega)
          rw [KC_normal]
          simp only [start, go_sem, Nat.reduceEqDiff, Nat.reduceAdd, reduceIte, reduceCtorEq, Nat.reduceLeDiff, Nat.reduceShiftRight, Nat.reduceAnd, Nat.reduceOr, Nat.reducePow, Nat.reduceBNe, Nat.reduceBEq, hK, hbx, u1, u3, u4, u5, u6, hk5.get, hA, hB, hN, Int.reduceLT, Int.reduceLE, Int.reduceEq, Int.reduceNe]
          generalize hT : Tr.set _ _ _ _ = tm3
          obtain ⟨w1, w3, w4, w5, w6, uc⟩ : tm3.get 1 = some (.pointer (some ⟨H.next, 0, none⟩)) ∧ tm3.get 3 = some (.int .i64 (i : Nat)) ∧ tm3.get 4 = some (.pointer (some ⟨H'.next, 0, none⟩)) ∧ tm3.get 5 = some (.int .i64 0) ∧ tm3.get 6 = some (.int .i64 (inn + (i : Int))) ∧ tm3.get 96 = some (.bool false) := by
            subst hT
            refine ⟨?_, ?_, ?_, ?_, ?_, ?_⟩ <;> simp only [start, KC_normal, go_sem, Nat.reduceEqDiff, Nat.reduceAdd, reduceIte, reduceCtorEq, Nat.reduceLeDiff, Nat.reduceShiftRight, Nat.reduceAnd, Nat.reduceOr, Nat.reducePow, Nat.reduceBNe, Nat.reduceBEq, u1, u3, u4, u5, u6]
          clear hT u1 u3 u4 u5 u6
          have u1 := w1
          have u3 := w3
          have u4 := w4
          have u5 := w5
          have u6 := w6
          clear w1 w3 w4 w5 w6
          rw [KC_normal]
          simp only [start, go_sem, Nat.reduceEqDiff, Nat.reduceAdd, reduceIte, reduceCtorEq, Nat.reduceLeDiff, Nat.reduceShiftRight, Nat.reduceAnd, Nat.reduceOr, Nat.reducePow, Nat.reduceBNe, Nat.reduceBEq, uc]
          rw [KC_normal]
          simp only [start, go_sem, Nat.reduceEqDiff, Nat.reduceAdd, reduceIte, reduceCtorEq, Nat.reduceLeDiff, Nat.reduceShiftRight, Nat.reduceAnd, Nat.reduceOr, Nat.reducePow, Nat.reduceBNe, Nat.reduceBEq, hK, hbx, u1, u3, u4, u5, u6, hk5.get, hA, hB, hN, Int.reduceLT, Int.reduceLE, Int.reduceEq, Int.reduceNe]
          generalize hT : Tr.set _ _ _ _ = tm4
          obtain ⟨w1, w3, w4, w5, w6, uc⟩ : tm4.get 1 = some (.pointer (some ⟨H.next, 0, none⟩)) ∧ tm4.get 3 = some (.int .i64 (i : Nat)) ∧ tm4.get 4 = some (.pointer (some ⟨H'.next, 0, none⟩)) ∧ tm4.get 5 = some (.int .i64 0) ∧ tm4.get 6 = some (.int .i64 (inn + (i : Int))) ∧ tm4.get 124 = some (.bool false) := by
            subst hT
            refine ⟨?_, ?_, ?_, ?_, ?_, ?_⟩ <;> simp only [start, KC_normal, go_sem, Nat.reduceEqDiff, Nat.reduceAdd, reduceIte, reduceCtorEq, Nat.reduceLeDiff, Nat.reduceShiftRight, Nat.reduceAnd, Nat.reduceOr, Nat.reducePow, Nat.reduceBNe, Nat.reduceBEq, u1, u3, u4, u5, u6]
          clear hT u1 u3 u4 u5 u6
          have u1 := w1
          have u3 := w3
          have u4 := w4
          have u5 := w5
          have u6 := w6
          clear w1 w3 w4 w5 w6
          rw [KC_normal]
          simp only [start, go_sem, Nat.reduceEqDiff, Nat.reduceAdd, reduceIte, reduceCtorEq, Nat.reduceLeDiff, Nat.reduceShiftRight, Nat.reduceAnd, Nat.reduceOr, Nat.reducePow, Nat.reduceBNe, Nat.reduceBEq, uc]
          simp only [start, KC_normal, go_sem, Nat.reduceEqDiff, Nat.reduceAdd, reduceIte, reduceCtorEq, Nat.reduceLeDiff, Nat.reduceShiftRight, Nat.reduceAnd, Nat.reduceOr, Nat.reducePow, Nat.reduceBNe, Nat.reduceBEq, u3]
          refine ⟨ops.length - (i + 1), by omega, _, H6, i + 1, rfl, rfl, by omega, hE.trans hE56, hk5, ?_, ?_⟩
          · simp only [start, KC_normal, go_sem, Nat.reduceEqDiff, Nat.reduceAdd, reduceIte, reduceCtorEq, Nat.reduceLeDiff, Nat.reduceShiftRight, Nat.reduceAnd, Nat.reduceOr, Nat.reducePow, Nat.reduceBNe, Nat.reduceBEq, u1]
          · simp only [start, KC_normal, go_sem, Nat.reduceEqDiff, Nat.reduceAdd, reduceIte, reduceCtorEq, Nat.reduceLeDiff, Nat.reduceShiftRight, Nat.reduceAnd, Nat.reduceOr, Nat.reducePow, Nat.reduceBNe, Nat.reduceBEq]; rw [e2]
        · skip
          rw [KC_normal]
          simp only [start, go_sem, Nat.reduceEqDiff, Nat.reduceAdd, reduceIte, reduceCtorEq, Nat.reduceLeDiff, Nat.reduceShiftRight, Nat.reduceAnd, Nat.reduceOr, Nat.reducePow, Nat.reduceBNe, Nat.reduceBEq, hK, hbx, u1, u3, u4, u5, u6, hk5.get, hA, hB, Int.reduceLT, Int.reduceLE, Int.reduceEq, Int.reduceNe]
          generalize hT : Tr.set _ _ _ _ = tm3
          obtain ⟨w1, w3, w4, w5, w6, uc⟩ : tm3.get 1 = some (.pointer (some ⟨H.next, 0, none⟩)) ∧ tm3.get 3 = some (.int .i64 (i : Nat)) ∧ tm3.get 4 = some (.pointer (some ⟨H'.next, 0, none⟩)) ∧ tm3.get 5 = some (.int .i64 0) ∧ tm3.get 6 = some (.int .i64 (inn + (i : Int))) ∧ tm3.get 96 = some (.bool false) := by
            subst hT
            refine ⟨?_, ?_, ?_, ?_, ?_, ?_⟩ <;> simp only [start, KC_normal, go_sem, Nat.reduceEqDiff, Nat.reduceAdd, reduceIte, reduceCtorEq, Nat.reduceLeDiff, Nat.reduceShiftRight, Nat.reduceAnd, Nat.reduceOr, Nat.reducePow, Nat.reduceBNe, Nat.reduceBEq, u1, u3, u4, u5, u6]
          clear hT u1 u3 u4 u5 u6
          have u1 := w1
          have u3 := w3
          have u4 := w4
          have u5 := w5
          have u6 := w6
          clear w1 w3 w4 w5 w6
          rw [KC_normal]
          simp only [start, go_sem, Nat.reduceEqDiff, Nat.reduceAdd, reduceIte, reduceCtorEq, Nat.reduceLeDiff, Nat.reduceShiftRight, Nat.reduceAnd, Nat.reduceOr, Nat.reducePow, Nat.reduceBNe, Nat.reduceBEq, uc]
          rw [KC_normal]
          simp only [start, go_sem, Nat.reduceEqDiff, Nat.reduceAdd, reduceIte, reduceCtorEq, Nat.reduceLeDiff, Nat.reduceShiftRight, Nat.reduceAnd, Nat.reduceOr, Nat.reducePow, Nat.reduceBNe, Nat.reduceBEq, hK, hbx, u1, u3, u4, u5, u6, hk5.get, hA, hB, Int.reduceLT, Int.reduceLE, Int.reduceEq, Int.reduceNe]
          generalize hT : Tr.set _ _ _ _ = tm4
          obtain ⟨w1, w3, w4, w5, w6, uc⟩ : tm4.get 1 = some (.pointer (some ⟨H.next, 0, none⟩)) ∧ tm4.get 3 = some (.int .i64 (i : Nat)) ∧ tm4.get 4 = some (.pointer (some ⟨H'.next, 0, none⟩)) ∧ tm4.get 5 = some (.int .i64 0) ∧ tm4.get 6 = some (.int .i64 (inn + (i : Int))) ∧ tm4.get 124 = some (.bool false) := by
            subst hT
            refine ⟨?_, ?_, ?_, ?_, ?_, ?_⟩ <;> simp only [start, KC_normal, go_sem, Nat.reduceEqDiff, Nat.reduceAdd, reduceIte, reduceCtorEq, Nat.reduceLeDiff, Nat.reduceShiftRight, Nat.reduceAnd, Nat.reduceOr, Nat.reducePow, Nat.reduceBNe, Nat.reduceBEq, u1, u3, u4, u5, u6]
          clear hT u1 u3 u4 u5 u6
          have u1 := w1
          have u3 := w3
          have u4 := w4
          have u5 := w5
          have u6 := w6
          clear w1 w3 w4 w5 w6
          rw [KC_normal]
          simp only [start, go_sem, Nat.reduceEqDiff, Nat.reduceAdd, reduceIte, reduceCtorEq, Nat.reduceLeDiff, Nat.reduceShiftRight, Nat.reduceAnd, Nat.reduceOr, Nat.reducePow, Nat.reduceBNe, Nat.reduceBEq, uc]
          simp only [start, KC_normal, go_sem, Nat.reduceEqDiff, Nat.reduceAdd, reduceIte, reduceCtorEq, Nat.reduceLeDiff, Nat.reduceShiftRight, Nat.reduceAnd, Nat.reduceOr, Nat.reducePow, Nat.reduceBNe, Nat.reduceBEq, u3]
          refine ⟨ops.length - (i + 1), by omega, _, H6, i + 1, rfl, rfl, by omega, hE.trans hE56, hk5, ?_, ?_⟩
          · simp only [start, KC_normal, go_sem, Nat.reduceEqDiff, Nat.reduceAdd, reduceIte, reduceCtorEq, Nat.reduceLeDiff, Nat.reduceShiftRight, Nat.reduceAnd, Nat.reduceOr, Nat.reducePow, Nat.reduceBNe, Nat.reduceBEq, u1]
          · simp only [start, KC_normal, go_sem, Nat.reduceEqDiff, Nat.reduceAdd, reduceIte, reduceCtorEq, Nat.reduceLeDiff, Nat.reduceShiftRight, Nat.reduceAnd, Nat.reduceOr, Nat.reducePow, Nat.reduceBNe, Nat.reduceBEq]; rw [e2]
      · have hrr : r = 1 := by rw [hr]; rcases hKc with h | h | h | h | h <;> rw [h] <;> rfl
        subst hrr
        have hB := hB0 (by omega)
        have hA := hA1 (by omega)
        have hA2 : ¬ x.A < 0 := by omega
        have hA3 : ¬ inn + (i : Int) ≤ x.A := by omega
        rcases hKc with hK | hK | hK | hK | hK
        · have hN := hN2 (by omega)
          rw [KC_normal]
          simp only [start, go_sem, Nat.reduceEqDiff, Nat.reduceAdd, reduceIte, reduceCtorEq, Nat.reduceLeDiff, Nat.reduceShiftRight, Nat.reduceAnd, Nat.reduceOr, Nat.reducePow, Nat.reduceBNe, Nat.reduceBEq, hK, hbx, u1, u3, u4, u5, u6, hk5.get, hA2, hA3, hB, hN, Int.reduceLT, Int.reduceLE, Int.reduceEq, Int.reduceNe]
          generalize hT : Tr.set _ _ _ _ = tm3
          obtain ⟨w1, w3, w4, w5, w6, uc⟩ : tm3.get 1 = some (.pointer (some ⟨H.next, 0, none⟩)) ∧ tm3.get 3 = some (.int .i64 (i : Nat)) ∧ tm3.get 4 = some (.pointer (some ⟨H'.next, 0, none⟩)) ∧ tm3.get 5 = some (.int .i64 1) ∧ tm3.get 6 = some (.int .i64 (inn + (i : Int))) ∧ tm3.get 96 = some (.bool false) := by
            subst hT
            refine ⟨?_, ?_, ?_, ?_, ?_, ?_⟩ <;> simp only [start, KC_normal, go_sem, Nat.reduceEqDiff, Nat.reduceAdd, reduceIte, reduceCtorEq, Nat.reduceLeDiff, Nat.reduceShiftRight, Nat.reduceAnd, Nat.reduceOr, Nat.reducePow, Nat.reduceBNe, Nat.reduceBEq, u1, u3, u4, u5, u6]
          clear hT u1 u3 u4 u5 u6
          have u1 := w1
          have u3 := w3
          have u4 := w4
          have u5 := w5
          have u6 := w6
          clear w1 w3 w4 w5 w6
          rw [KC_normal]
          simp only [start, go_sem, Nat.reduceEqDiff, Nat.reduceAdd, reduceIte, reduceCtorEq, Nat.reduceLeDiff, Nat.reduceShiftRight, Nat.reduceAnd, Nat.reduceOr, Nat.reducePow, Nat.reduceBNe, Nat.reduceBEq, uc]
          rw [KC_normal]
          simp only [start, go_sem, Nat.reduceEqDiff, Nat.reduceAdd, reduceIte, reduceCtorEq, Nat.reduceLeDiff, Nat.reduceShiftRight, Nat.reduceAnd, Nat.reduceOr, Nat.reducePow, Nat.reduceBNe, Nat.reduceBEq, hK, hbx, u1, u3, u4, u5, u6, hk5.get, hA2, hA3, hB, hN, Int.reduceLT, Int.reduceLE, Int.reduceEq, Int.reduceNe]
          generalize hT : Tr.set _ _ _ _ = tm4
          obtain ⟨w1, w3, w4, w5, w6, uc⟩ : tm4.get 1 = some (.pointer (some ⟨H.next, 0, none⟩)) ∧ tm4.get 3 = some (.int .i64 (i : Nat)) ∧ tm4.get 4 = some (.pointer (some ⟨H'.next, 0, none⟩)) ∧ tm4.get 5 = some (.int .i64 1) ∧ tm4.get 6 = some (.int .i64 (inn + (i : Int))) ∧ tm4.get 124 = some (.bool false) := by
            subst hT
            refine ⟨?_, ?_, ?_, ?_, ?_, ?_⟩ <;> simp only [start, KC_normal, go_sem, Nat.reduceEqDiff, Nat.reduceAdd, reduceIte, reduceCtorEq, Nat.reduceLeDiff, Nat.reduceShiftRight, Nat.reduceAnd, Nat.reduceOr, Nat.reducePow, Nat.reduceBNe, Nat.reduceBEq, u1, u3, u4, u5, u6]
          clear hT u1 u3 u4 u5 u6
          have u1 := w1
          have u3 := w3
          have u4 := w4
          have u5 := w5
          have u6 := w6
          clear w1 w3 w4 w5 w6
          rw [KC_normal]
          simp only [start, go_sem, Nat.reduceEqDiff, Nat.reduceAdd, reduceIte, reduceCtorEq, Nat.reduceLeDiff, Nat.reduceShiftRight, Nat.reduceAnd, Nat.reduceOr, Nat.reducePow, Nat.reduceBNe, Nat.reduceBEq, uc]
          simp only [start, KC_normal, go_sem, Nat.reduceEqDiff, Nat.reduceAdd, reduceIte, reduceCtorEq, Nat.reduceLeDiff, Nat.reduceShiftRight, Nat.reduceAnd, Nat.reduceOr, Nat.reducePow, Nat.reduceBNe, Nat.reduceBEq, u3]
          refine ⟨ops.length - (i + 1), by omega, _, H6, i + 1, rfl, rfl, by omega, hE.trans hE56, hk5, ?_, ?_⟩
          · simp only [start, KC_normal, go_sem, Nat.reduceEqDiff, Nat.reduceAdd, reduceIte, reduceCtorEq, Nat.reduceLeDiff, Nat.reduceShiftRight, Nat.reduceAnd, Nat.reduceOr, Nat.reducePow, Nat.reduceBNe, Nat.reduceBEq, u1]
          · simp only [start, KC_normal, go_sem, Nat.reduceEqDiff, Nat.reduceAdd, reduceIte, reduceCtorEq, Nat.reduceLeDiff, Nat.reduceShiftRight, Nat.reduceAnd, Nat.reduceOr, Nat.reducePow, Nat.reduceBNe, Nat.reduceBEq]; rw [e2]
        · have hN := hN1 (by omega)
          have hN3 : ¬ (31 : Int) < (x.N.toNat : Int) := by omega
          rw [KC_normal]
          simp only [start, go_sem, Nat.reduceEqDiff, Nat.reduceAdd, reduceIte, reduceCtorEq, Nat.reduceLeDiff, Nat.reduceShiftRight, Nat.reduceAnd, Nat.reduceOr, Nat.reducePow, Nat.reduceBNe, Nat.reduceBEq, hK, hbx, u1, u3, u4, u5, u6, hk5.get, hA2, hA3, hB, hN3, Int.reduceLT, Int.reduceLE, Int.reduceEq, Int.reduceNe]
          generalize hT : Tr.set _ _ _ _ = tm3
          obtain ⟨w1, w3, w4, w5, w6, uc⟩ : tm3.get 1 = some (.pointer (some ⟨H.next, 0, none⟩)) ∧ tm3.get 3 = some (.int .i64 (i : Nat)) ∧ tm3.get 4 = some (.pointer (some ⟨H'.next, 0, none⟩)) ∧ tm3.get 5 = some (.int .i64 1) ∧ tm3.get 6 = some (.int .i64 (inn + (i : Int))) ∧ tm3.get 96 = some (.bool false) := by
            subst hT
            refine ⟨?_, ?_, ?_, ?_, ?_, ?_⟩ <;> simp only [start, KC_normal, go_sem, Nat.reduceEqDiff, Nat.reduceAdd, reduceIte, reduceCtorEq, Nat.reduceLeDiff, Nat.reduceShiftRight, Nat.reduceAnd, Nat.reduceOr, Nat.reducePow, Nat.reduceBNe, Nat.reduceBEq, u1, u3, u4, u5, u6]
          clear hT u1 u3 u4 u5 u6
          have u1 := w1
          have u3 := w3
          have u4 := w4
          have u5 := w5
          have u6 := w6
          clear w1 w3 w4 w5 w6
          rw [KC_normal]
          simp only [start, go_sem, Nat.reduceEqDiff, Nat.reduceAdd, reduceIte, reduceCtorEq, Nat.reduceLeDiff, Nat.reduceShiftRight, Nat.reduceAnd, Nat.reduceOr, Nat.reducePow, Nat.reduceBNe, Nat.reduceBEq, uc]
          rw [KC_normal]
          simp only [start, go_sem, Nat.reduceEqDiff, Nat.reduceAdd, reduceIte, reduceCtorEq, Nat.reduceLeDiff, Nat.reduceShiftRight, Nat.reduceAnd, Nat.reduceOr, Nat.reducePow, Nat.reduceBNe, Nat.reduceBEq, hK, hbx, u1, u3, u4, u5, u6, hk5.get, hA2, hA3, hB, hN3, Int.reduceLT, Int.reduceLE, Int.reduceEq, Int.reduceNe]
          generalize hT : Tr.set _ _ _ _ = tm4
          obtain ⟨w1, w3, w4, w5, w6, uc⟩ : tm4.get 1 = some (.pointer (some ⟨H.next, 0, none⟩)) ∧ tm4.get 3 = some (.int .i64 (i : Nat)) ∧ tm4.get 4 = some (.pointer (some ⟨H'.next, 0, none⟩)) ∧ tm4.get 5 = some (.int .i64 1) ∧ tm4.get 6 = some (.int .i64 (inn + (i : Int))) ∧ tm4.get 124 = some (.bool false) := by
            subst hT
            refine ⟨?_, ?_, ?_, ?_, ?_, ?_⟩ <;> simp only [start, KC_normal, go_sem, Nat.reduceEqDiff, Nat.reduceAdd, reduceIte, reduceCtorEq, Nat.reduceLeDiff, Nat.reduceShiftRight, Nat.reduceAnd, Nat.reduceOr, Nat.reducePow, Nat.reduceBNe, Nat.reduceBEq, u1, u3, u4, u5, u6]
          clear hT u1 u3 u4 u5 u6
          have u1 := w1
          have u3 := w3
          have u4 := w4
          have u5 := w5
          have u6 := w6
          clear w1 w3 w4 w5 w6
          rw [KC_normal]
          simp only [start, go_sem, Nat.reduceEqDiff, Nat.reduceAdd, reduceIte, reduceCtorEq, Nat.reduceLeDiff, Nat.reduceShiftRight, Nat.reduceAnd, Nat.reduceOr, Nat.reducePow, Nat.reduceBNe, Nat.reduceBEq, uc]
          simp only [start, KC_normal, go_sem, Nat.reduceEqDiff, Nat.reduceAdd, reduceIte, reduceCtorEq, Nat.reduceLeDiff, Nat.reduceShiftRight, Nat.reduceAnd, Nat.reduceOr, Nat.reducePow, Nat.reduceBNe, Nat.reduceBEq, u3]
          refine ⟨ops.length - (i + 1), by omega, _, H6, i + 1, rfl, rfl, by omega, hE.trans hE56, hk5, ?_, ?_⟩
          · simp only [start, KC_normal, go_sem, Nat.reduceEqDiff, Nat.reduceAdd, reduceIte, reduceCtorEq, Nat.reduceLeDiff, Nat.reduceShiftRight, Nat.reduceAnd, Nat.reduceOr, Nat.reducePow, Nat.reduceBNe, Nat.reduceBEq, u1]
          · simp only [start, KC_normal, go_sem, Nat.reduceEqDiff, Nat.reduceAdd, reduceIte, reduceCtorEq, Nat.reduceLeDiff, Nat.reduceShiftRight, Nat.reduceAnd, Nat.reduceOr, Nat.reducePow, Nat.reduceBNe, Nat.reduceBEq]; rw [e2]
        · have hN := hN1 (by omega)
          have hN3 : ¬ (31 : Int) < (x.N.toNat : Int) := by omega
          rw [KC_normal]
          simp only [start, go_sem, Nat.reduceEqDiff, Nat.reduceAdd, reduceIte, reduceCtorEq, Nat.reduceLeDiff, Nat.reduceShiftRight, Nat.reduceAnd, Nat.reduceOr, Nat.reducePow, Nat.reduceBNe, Nat.reduceBEq, hK, hbx, u1, u3, u4, u5, u6, hk5.get, hA2, hA3, hB, hN3, Int.reduceLT, Int.reduceLE, Int.reduceEq, Int.reduceNe]
          generalize hT : Tr.set _ _ _ _ = tm3
          obtain ⟨w1, w3, w4, w5, w6, uc⟩ : tm3.get 1 = some (.pointer (some ⟨H.next, 0, none⟩)) ∧ tm3.get 3 = some (.int .i64 (i : Nat)) ∧ tm3.get 4 = some (.pointer (some ⟨H'.next, 0, none⟩)) ∧ tm3.get 5 = some (.int .i64 1) ∧ tm3.get 6 = some (.int .i64 (inn + (i : Int))) ∧ tm3.get 96 = some (.bool false) := by
            subst hT
            refine ⟨?_, ?_, ?_, ?_, ?_, ?_⟩ <;> simp only [start, KC_normal, go_sem, Nat.reduceEqDiff, Nat.reduceAdd, reduceIte, reduceCtorEq, Nat.reduceLeDiff, Nat.reduceShiftRight, Nat.reduceAnd, Nat.reduceOr, Nat.reducePow, Nat.reduceBNe, Nat.reduceBEq, u1, u3, u4, u5, u6]
          clear hT u1 u3 u4 u5 u6
          have u1 := w1
          have u3 := w3
          have u4 := w4
          have u5 := w5
          have u6 := w6
          clear w1 w3 w4 w5 w6
          rw [KC_normal]
          simp only [start, go_sem, Nat.reduceEqDiff, Nat.reduceAdd, reduceIte, reduceCtorEq, Nat.reduceLeDiff, Nat.reduceShiftRight, Nat.reduceAnd, Nat.reduceOr, Nat.reducePow, Nat.reduceBNe, Nat.reduceBEq, uc]
          rw [KC_normal]
          simp only [start, go_sem, Nat.reduceEqDiff, Nat.reduceAdd, reduceIte, reduceCtorEq, Nat.reduceLeDiff, Nat.reduceShiftRight, Nat.reduceAnd, Nat.reduceOr, Nat.reducePow, Nat.reduceBNe, Nat.reduceBEq, hK, hbx, u1, u3, u4, u5, u6, hk5.get, hA2, hA3, hB, hN3, Int.reduceLT, Int.reduceLE, Int.reduceEq, Int.reduceNe]
          generalize hT : Tr.set _ _ _ _ = tm4
          obtain ⟨w1, w3, w4, w5, w6, uc⟩ : tm4.get 1 = some (.pointer (some ⟨H.next, 0, none⟩)) ∧ tm4.get 3 = some (.int .i64 (i : Nat)) ∧ tm4.get 4 = some (.pointer (some ⟨H'.next, 0, none⟩)) ∧ tm4.get 5 = some (.int .i64 1) ∧ tm4.get 6 = some (.int .i64 (inn + (i : Int))) ∧ tm4.get 124 = some (.bool false) := by
            subst hT
            refine ⟨?_, ?_, ?_, ?_, ?_, ?_⟩ <;> simp only [start, KC_normal, go_sem, Nat.reduceEqDiff, Nat.reduceAdd, reduceIte, reduceCtorEq, Nat.reduceLeDiff, Nat.reduceShiftRight, Nat.reduceAnd, Nat.reduceOr, Nat.reducePow, Nat.reduceBNe, Nat.reduceBEq, u1, u3, u4, u5, u6]
          clear hT u1 u3 u4 u5 u6
          have u1 := w1
          have u3 := w3
          have u4 := w4
          have u5 := w5
          have u6 := w6
          clear w1 w3 w4 w5 w6
          rw [KC_normal]
          simp only [start, go_sem, Nat.reduceEqDiff, Nat.reduceAdd, reduceIte, reduceCtorEq, Nat.reduceLeDiff, Nat.reduceShiftRight, Nat.reduceAnd, Nat.reduceOr, Nat.reducePow, Nat.reduceBNe, Nat.reduceBEq, uc]
          simp only [start, KC_normal, go_sem, Nat.reduceEqDiff, Nat.reduceAdd, reduceIte, reduceCtorEq, Nat.reduceLeDiff, Nat.reduceShiftRight, Nat.reduceAnd, Nat.reduceOr, Nat.reducePow, Nat.reduceBNe, Nat.reduceBEq, u3]
          refine ⟨ops.length - (i + 1), by omega, _, H6, i + 1, rfl, rfl, by omega, hE.trans hE56, hk5, ?_, ?_⟩
          · simp only [start, KC_normal, go_sem, Nat.reduceEqDiff, Nat.reduceAdd, reduceIte, reduceCtorEq, Nat.reduceLeDiff, Nat.reduceShiftRight, Nat.reduceAnd, Nat.reduceOr, Nat.reducePow, Nat.reduceBNe, Nat.reduceBEq, u1]
          · simp only [start, KC_normal, go_sem, Nat.reduceEqDiff, Nat.reduceAdd, reduceIte, reduceCtorEq, Nat.reduceLeDiff, Nat.reduceShiftRight, Nat.reduceAnd, Nat.reduceOr, Nat.reducePow, Nat.reduceBNe, Nat.reduceBEq]; rw [e2]
        · have hN := hN1 (by omega)
          have hN3 : ¬ (31 : Int) < (x.N.toNat : Int) := by omega
          rw [KC_normal]
          simp only [start, go_sem, Nat.reduceEqDiff, Nat.reduceAdd, reduceIte, reduceCtorEq, Nat.reduceLeDiff, Nat.reduceShiftRight, Nat.reduceAnd, Nat.reduceOr, Nat.reducePow, Nat.reduceBNe, Nat.reduceBEq, hK, hbx, u1, u3, u4, u5, u6, hk5.get, hA2, hA3, hB, hN3, Int.reduceLT, Int.reduceLE, Int.reduceEq, Int.reduceNe]
          generalize hT : Tr.set _ _ _ _ = tm3
          obtain ⟨w1, w3, w4, w5, w6, uc⟩ : tm3.get 1 = some (.pointer (some ⟨H.next, 0, none⟩)) ∧ tm3.get 3 = some (.int .i64 (i : Nat)) ∧ tm3.get 4 = some (.pointer (some ⟨H'.next, 0, none⟩)) ∧ tm3.get 5 = some (.int .i64 1) ∧ tm3.get 6 = some (.int .i64 (inn + (i : Int))) ∧ tm3.get 96 = some (.bool false) := by
            subst hT
            refine ⟨?_, ?_, ?_, ?_, ?_, ?_⟩ <;> simp only [start, KC_normal, go_sem, Nat.reduceEqDiff, Nat.reduceAdd, reduceIte, reduceCtorEq, Nat.reduceLeDiff, Nat.reduceShiftRight, Nat.reduceAnd, Nat.reduceOr, Nat.reducePow, Nat.reduceBNe, Nat.reduceBEq, u1, u3, u4, u5, u6]
          clear hT u1 u3 u4 u5 u6
          have u1 := w1
          have u3 := w3
          have u4 := w4
          have u5 := w5
          have u6 := w6
          clear w1 w3 w4 w5 w6
          rw [KC_normal]
          simp only [start, go_sem, Nat.reduceEqDiff, Nat.reduceAdd, reduceIte, reduceCtorEq, Nat.reduceLeDiff, Nat.reduceShiftRight, Nat.reduceAnd, Nat.reduceOr, Nat.reducePow, Nat.reduceBNe, Nat.reduceBEq, uc]
          rw [KC_normal]
          simp only [start, go_sem, Nat.reduceEqDiff, Nat.reduceAdd, reduceIte, reduceCtorEq, Nat.reduceLeDiff, Nat.reduceShiftRight, Nat.reduceAnd, Nat.reduceOr, Nat.reducePow, Nat.reduceBNe, Nat.reduceBEq, hK, hbx, u1, u3, u4, u5, u6, hk5.get, hA2, hA3, hB, hN3, Int.reduceLT, Int.reduceLE, Int.reduceEq, Int.reduceNe]
          generalize hT : Tr.set _ _ _ _ = tm4
          obtain ⟨w1, w3, w4, w5, w6, uc⟩ : tm4.get 1 = some (.pointer (some ⟨H.next, 0, none⟩)) ∧ tm4.get 3 = some (.int .i64 (i : Nat)) ∧ tm4.get 4 = some (.pointer (some ⟨H'.next, 0, none⟩)) ∧ tm4.get 5 = some (.int .i64 1) ∧ tm4.get 6 = some (.int .i64 (inn + (i : Int))) ∧ tm4.get 124 = some (.bool false) := by
            subst hT
            refine ⟨?_, ?_, ?_, ?_, ?_, ?_⟩ <;> simp only [start, KC_normal, go_sem, Nat.reduceEqDiff, Nat.reduceAdd, reduceIte, reduceCtorEq, Nat.reduceLeDiff, Nat.reduceShiftRight, Nat.reduceAnd, Nat.reduceOr, Nat.reducePow, Nat.reduceBNe, Nat.reduceBEq, u1, u3, u4, u5, u6]
          clear hT u1 u3 u4 u5 u6
          have u1 := w1
          have u3 := w3
          have u4 := w4
          have u5 := w5
          have u6 := w6
          clear w1 w3 w4 w5 w6
          rw [KC_normal]
          simp only [start, go_sem, Nat.reduceEqDiff, Nat.reduceAdd, reduceIte, reduceCtorEq, Nat.reduceLeDiff, Nat.reduceShiftRight, Nat.reduceAnd, Nat.reduceOr, Nat.reducePow, Nat.reduceBNe, Nat.reduceBEq, uc]
          simp only [start, KC_normal, go_sem, Nat.reduceEqDiff, Nat.reduceAdd, reduceIte, reduceCtorEq, Nat.reduceLeDiff, Nat.reduceShiftRight, Nat.reduceAnd, Nat.reduceOr, Nat.reducePow, Nat.reduceBNe, Nat.reduceBEq, u3]
          refine ⟨ops.length - (i + 1), by omega, _, H6, i + 1, rfl, rfl, by omega, hE.trans hE56, hk5, ?_, ?_⟩
          · simp only [start, KC_normal, go_sem, Nat.reduceEqDiff, Nat.reduceAdd, reduceIte, reduceCtorEq, Nat.reduceLeDiff, Nat.reduceShiftRight, Nat.reduceAnd, Nat.reduceOr, Nat.reducePow, Nat.reduceBNe, Nat.reduceBEq, u1]
          · simp only [start, KC_normal, go_sem, Nat.reduceEqDiff, Nat.reduceAdd, reduceIte, reduceCtorEq, Nat.reduceLeDiff, Nat.reduceShiftRight, Nat.reduceAnd, Nat.reduceOr, Nat.reducePow, Nat.reduceBNe, Nat.reduceBEq]; rw [e2]
        · have hN := hN2 (by omega)
          rw [KC_normal]
          simp only [start, go_sem, Nat.reduceEqDiff, Nat.reduceAdd, reduceIte, reduceCtorEq, Nat.reduceLeDiff, Nat.reduceShiftRight, Nat.reduceAnd, Nat.reduceOr, Nat.reducePow, Nat.reduceBNe, Nat.reduceBEq, hK, hbx, u1, u3, u4, u5, u6, hk5.get, hA2, hA3, hB, hN, Int.reduceLT, Int.reduceLE, Int.reduceEq, Int.reduceNe]
          generalize hT : Tr.set _ _ _ _ = tm3
          obtain ⟨w1, w3, w4, w5, w6, uc⟩ : tm3.get 1 = some (.pointer (some ⟨H.next, 0, none⟩)) ∧ tm3.get 3 = some (.int .i64 (i : Nat)) ∧ tm3.get 4 = some (.pointer (some ⟨H'.next, 0, none⟩)) ∧ tm3.get 5 = some (.int .i64 1) ∧ tm3.get 6 = some (.int .i64 (inn + (i : Int))) ∧ tm3.get 96 = some (.bool false) := by
            subst hT
            refine ⟨?_, ?_, ?_, ?_, ?_, ?_⟩ <;> simp only [start, KC_normal, go_sem, Nat.reduceEqDiff, Nat.reduceAdd, reduceIte, reduceCtorEq, Nat.reduceLeDiff, Nat.reduceShiftRight, Nat.reduceAnd, Nat.reduceOr, Nat.reducePow, Nat.reduceBNe, Nat.reduceBEq, u1, u3, u4, u5, u6]
          clear hT u1 u3 u4 u5 u6
          have u1 := w1
          have u3 := w3
          have u4 := w4
          have u5 := w5
          have u6 := w6
          clear w1 w3 w4 w5 w6
          rw [KC_normal]
          simp only [start, go_sem, Nat.reduceEqDiff, Nat.reduceAdd, reduceIte, reduceCtorEq, Nat.reduceLeDiff, Nat.reduceShiftRight, Nat.reduceAnd, Nat.reduceOr, Nat.reducePow, Nat.reduceBNe, Nat.reduceBEq, uc]
          rw [KC_normal]
          simp only [start, go_sem, Nat.reduceEqDiff, Nat.reduceAdd, reduceIte, reduceCtorEq, Nat.reduceLeDiff, Nat.reduceShiftRight, Nat.reduceAnd, Nat.reduceOr, Nat.reducePow, Nat.reduceBNe, Nat.reduceBEq, hK, hbx, u1, u3, u4, u5, u6, hk5.get, hA2, hA3, hB, hN, Int.reduceLT, Int.reduceLE, Int.reduceEq, Int.reduceNe]
          generalize hT : Tr.set _ _ _ _ = tm4
          obtain ⟨w1, w3, w4, w5, w6, uc⟩ : tm4.get 1 = some (.pointer (some ⟨H.next, 0, none⟩)) ∧ tm4.get 3 = some (.int .i64 (i : Nat)) ∧ tm4.get 4 = some (.pointer (some ⟨H'.next, 0, none⟩)) ∧ tm4.get 5 = some (.int .i64 1) ∧ tm4.get 6 = some (.int .i64 (inn + (i : Int))) ∧ tm4.get 124 = some (.bool false) := by
            subst hT
            refine ⟨?_, ?_, ?_, ?_, ?_, ?_⟩ <;> simp only [start, KC_normal, go_sem, Nat.reduceEqDiff, Nat.reduceAdd, reduceIte, reduceCtorEq, Nat.reduceLeDiff, Nat.reduceShiftRight, Nat.reduceAnd, Nat.reduceOr, Nat.reducePow, Nat.reduceBNe, Nat.reduceBEq, u1, u3, u4, u5, u6]
          clear hT u1 u3 u4 u5 u6
          have u1 := w1
          have u3 := w3
          have u4 := w4
          have u5 := w5
          have u6 := w6
          clear w1 w3 w4 w5 w6
          rw [KC_normal]
          simp only [start, go_sem, Nat.reduceEqDiff, Nat.reduceAdd, reduceIte, reduceCtorEq, Nat.reduceLeDiff, Nat.reduceShiftRight, Nat.reduceAnd, Nat.reduceOr, Nat.reducePow, Nat.reduceBNe, Nat.reduceBEq, uc]
          simp only [start, KC_normal, go_sem, Nat.reduceEqDiff, Nat.reduceAdd, reduceIte, reduceCtorEq, Nat.reduceLeDiff, Nat.reduceShiftRight, Nat.reduceAnd, Nat.reduceOr, Nat.reducePow, Nat.reduceBNe, Nat.reduceBEq, u3]
          refine ⟨ops.length - (i + 1), by omega, _, H6, i + 1, rfl, rfl, by omega, hE.trans hE56, hk5, ?_, ?_⟩
          · simp only [start, KC_normal, go_sem, Nat.reduceEqDiff, Nat.reduceAdd, reduceIte, reduceCtorEq, Nat.reduceLeDiff, Nat.reduceShiftRight, Nat.reduceAnd, Nat.reduceOr, Nat.reducePow, Nat.reduceBNe, Nat.reduceBEq, u1]
          · simp only [start, KC_normal, go_sem, Nat.reduceEqDiff, Nat.reduceAdd, reduceIte, reduceCtorEq, Nat.reduceLeDiff, Nat.reduceShiftRight, Nat.reduceAnd, Nat.reduceOr, Nat.reducePow, Nat.reduceBNe, Nat.reduceBEq]; rw [e2]
      · have hrr : r = 2 := by rw [hr]; rcases hKc with h | h <;> rw [h] <;> rfl
        subst hrr
        have hA := hA1 (by omega)
        have hA2 : ¬ x.A < 0 := by omega
        have hA3 : ¬ inn + (i : Int) ≤ x.A := by omega
        have hB := hB1 (by omega)
        have hB2 : ¬ x.B < 0 := by omega
        have hB3 : ¬ inn + (i : Int) ≤ x.B := by omega
        have hN := hN2 (by omega)
        rcases hKc with hK | hK
        all_goals
          rw [KC_normal]
          simp only [start, go_sem, Nat.reduceEqDiff, Nat.reduceAdd, reduceIte, reduceCtorEq, Nat.reduceLeDiff, Nat.reduceShiftRight, Nat.reduceAnd, Nat.reduceOr, Nat.reducePow, Nat.reduceBNe, Nat.reduceBEq, hK, hbx, u1, u3, u4, u5, u6, hk5.get, hA2, hA3, hB2, hB3, hN, Int.reduceLT, Int.reduceLE, Int.reduceEq, Int.reduceNe]
          generalize hT : Tr.set _ _ _ _ = tm3
          obtain ⟨w1, w3, w4, w5, w6, uc⟩ : tm3.get 1 = some (.pointer (some ⟨H.next, 0, none⟩)) ∧ tm3.get 3 = some (.int .i64 (i : Nat)) ∧ tm3.get 4 = some (.pointer (some ⟨H'.next, 0, none⟩)) ∧ tm3.get 5 = some (.int .i64 2) ∧ tm3.get 6 = some (.int .i64 (inn + (i : Int))) ∧ tm3.get 96 = some (.bool false) := by
            subst hT
            refine ⟨?_, ?_, ?_, ?_, ?_, ?_⟩ <;> simp only [start, KC_normal, go_sem, Nat.reduceEqDiff, Nat.reduceAdd, reduceIte, reduceCtorEq, Nat.reduceLeDiff, Nat.reduceShiftRight, Nat.reduceAnd, Nat.reduceOr, Nat.reducePow, Nat.reduceBNe, Nat.reduceBEq, u1, u3, u4, u5, u6]
          clear hT u1 u3 u4 u5 u6
          have u1 := w1
          have u3 := w3
          have u4 := w4
          have u5 := w5
          have u6 := w6
          clear w1 w3 w4 w5 w6
          rw [KC_normal]
          simp only [start, go_sem, Nat.reduceEqDiff, Nat.reduceAdd, reduceIte, reduceCtorEq, Nat.reduceLeDiff, Nat.reduceShiftRight, Nat.reduceAnd, Nat.reduceOr, Nat.reducePow, Nat.reduceBNe, Nat.reduceBEq, uc]
          rw [KC_normal]
          simp only [start, go_sem, Nat.reduceEqDiff, Nat.reduceAdd, reduceIte, reduceCtorEq, Nat.reduceLeDiff, Nat.reduceShiftRight, Nat.reduceAnd, Nat.reduceOr, Nat.reducePow, Nat.reduceBNe, Nat.reduceBEq, hK, hbx, u1, u3, u4, u5, u6, hk5.get, hA2, hA3, hB2, hB3, hN, Int.reduceLT, Int.reduceLE, Int.reduceEq, Int.reduceNe]
          generalize hT : Tr.set _ _ _ _ = tm4
          obtain ⟨w1, w3, w4, w5, w6, uc⟩ : tm4.get 1 = some (.pointer (some ⟨H.next, 0, none⟩)) ∧ tm4.get 3 = some (.int .i64 (i : Nat)) ∧ tm4.get 4 = some (.pointer (some ⟨H'.next, 0, none⟩)) ∧ tm4.get 5 = some (.int .i64 2) ∧ tm4.get 6 = some (.int .i64 (inn + (i : Int))) ∧ tm4.get 124 = some (.bool false) := by
            subst hT
            refine ⟨?_, ?_, ?_, ?_, ?_, ?_⟩ <;> simp only [start, KC_normal, go_sem, Nat.reduceEqDiff, Nat.reduceAdd, reduceIte, reduceCtorEq, Nat.reduceLeDiff, Nat.reduceShiftRight, Nat.reduceAnd, Nat.reduceOr, Nat.reducePow, Nat.reduceBNe, Nat.reduceBEq, u1, u3, u4, u5, u6]
          clear hT u1 u3 u4 u5 u6
          have u1 := w1
          have u3 := w3
          have u4 := w4
          have u5 := w5
          have u6 := w6
          clear w1 w3 w4 w5 w6
          rw [KC_normal]
          simp only [start, go_sem, Nat.reduceEqDiff, Nat.reduceAdd, reduceIte, reduceCtorEq, Nat.reduceLeDiff, Nat.reduceShiftRight, Nat.reduceAnd, Nat.reduceOr, Nat.reducePow, Nat.reduceBNe, Nat.reduceBEq, uc]
          simp only [start, KC_normal, go_sem, Nat.reduceEqDiff, Nat.reduceAdd, reduceIte, reduceCtorEq, Nat.reduceLeDiff, Nat.reduceShiftRight, Nat.reduceAnd, Nat.reduceOr, Nat.reducePow, Nat.reduceBNe, Nat.reduceBEq, u3]
          refine ⟨ops.length - (i + 1), by omega, _, H6, i + 1, rfl, rfl, by omega, hE.trans hE56, hk5, ?_, ?_⟩
          · simp only [start, KC_normal, go_sem, Nat.reduceEqDiff, Nat.reduceAdd, reduceIte, reduceCtorEq, Nat.reduceLeDiff, Nat.reduceShiftRight, Nat.reduceAnd, Nat.reduceOr, Nat.reducePow, Nat.reduceBNe, Nat.reduceBEq, u1]
          · simp only [start, KC_normal, go_sem, Nat.reduceEqDiff, Nat.reduceAdd, reduceIte, reduceCtorEq, Nat.reduceLeDiff, Nat.reduceShiftRight, Nat.reduceAnd, Nat.reduceOr, Nat.reducePow, Nat.reduceBNe, Nat.reduceBEq]; rw [e2]
    · have hi' : i = ops.length := by omega
      subst hi'
      simp only [start, go_sem, Nat.reduceEqDiff, Nat.reduceAdd, reduceIte, reduceCtorEq, Nat.reduceLeDiff, Nat.reduceShiftRight, Nat.reduceAnd, Nat.reduceOr, Nat.reducePow, Nat.reduceBNe, Nat.reduceBEq]
      rw [KC_normal]
      simp only [start, go_sem, Nat.reduceEqDiff, Nat.reduceAdd, reduceIte, reduceCtorEq, Nat.reduceLeDiff, Nat.reduceShiftRight, Nat.reduceAnd, Nat.reduceOr, Nat.reducePow, Nat.reduceBNe, Nat.reduceBEq]
      rw [KC_normal]
      simp only [start, go_sem, Nat.reduceEqDiff, Nat.reduceAdd, reduceIte, reduceCtorEq, Nat.reduceLeDiff, Nat.reduceShiftRight, Nat.reduceAnd, Nat.reduceOr, Nat.reducePow, Nat.reduceBNe, Nat.reduceBEq]
      clear hj hi hge
      refine wp_loop TT.ok rfl rfl (fun j s => ∃ tm H'' k, s = ⟨tm, 152, [], false, H''⟩ ∧ j = outs.length - k ∧ k ≤ outs.length ∧ Ext H H'' ∧
        Kp noF H'' H.next (.cells true 3 [.int .i64 inn, .slice ao ops.length co, .slice au outs.length cu]) ∧
        tm.get 1 = some (.pointer (some ⟨H.next, 0, none⟩)) ∧ tm.get 7 = some (.int .i64 (k : Nat))) outs.length ?_ ?_
      · refine ⟨_, H', 0, rfl, rfl, Nat.zero_le _, hE, hk, ?_, ?_⟩
        all_goals simp only [start, KC_normal, go_sem, Nat.reduceEqDiff, Nat.reduceAdd, reduceIte, reduceCtorEq, Nat.reduceLeDiff, Nat.reduceShiftRight, Nat.reduceAnd, Nat.reduceOr, Nat.reducePow, Nat.reduceBNe, Nat.reduceBEq, t1]
        rfl
      · clear t1 t3 hE hk
        rintro j s - ⟨tm, H', k, rfl, hj, hi, hE, hk, t1, t7⟩
        simp only [start, KC_normal, go_sem, Nat.reduceEqDiff, Nat.reduceAdd, reduceIte, reduceCtorEq, Nat.reduceLeDiff, Nat.reduceShiftRight, Nat.reduceAnd, Nat.reduceOr, Nat.reducePow, Nat.reduceBNe, Nat.reduceBEq, t1, t7, hk.get]
        refine CN_split (fun hlt => ?_) (fun hge => ?_)
        · have hlt' : k < outs.length := by omega
          obtain ⟨x, hx⟩ : ∃ x, outs[k]? = some x := ⟨_, List.getElem?_eq_getElem hlt'⟩
          have hxo := hok.o k x hx
          have hx1 : ¬ x < 0 := by omega
          have hx2 : ¬ inn + (ops.length : Int) ≤ x := by omega
          have hw : IntKind.i64.wrap (inn + (ops.length : Int)) = inn + (ops.length : Int) := wrap_i64 _ (by omega) (by omega)
          obtain ⟨bo, oo, owo, Co, rfl, hko, hCo⟩ := huA.all intC_len (by omega)
          have hat := (hCo _ _ hx).1 0 (by omega)
          simp only [intC, Nat.add_zero, List.getElem?_cons_zero] at hat
          have e2 : IntKind.i64.wrap ((k : Int) + 1) = ((k + 1 : Nat) : Int) := by rw [wrap_i64 _ (by omega) (by omega)]; simp
          simp only [start, KC_normal, go_sem, Nat.reduceEqDiff, Nat.reduceAdd, reduceIte, reduceCtorEq, Nat.reduceLeDiff, Nat.reduceShiftRight, Nat.reduceAnd, Nat.reduceOr, Nat.reducePow, Nat.reduceBNe, Nat.reduceBEq]
          have hko' := (hko.step hE.step).get
          refine DRg_x TT.ok [0, 1, 0, 7, 15, 31, 63, 127, 255, 127, 1023, 2047, 127, 4223, 127, 16511, 49279, 127103, 262143, 524287] 20 1048575 152 rfl (by decide +kernel) ?_
          simp only [start, KC_normal, go_sem, Nat.reduceEqDiff, Nat.reduceAdd, reduceIte, reduceCtorEq, Nat.reduceLeDiff, Nat.reduceShiftRight, Nat.reduceAnd, Nat.reduceOr, Nat.reducePow, Nat.reduceBNe, Nat.reduceBEq, t1, t7, hk.get, ia_in _ _ _ _ _ hlt', hko', hat, hx1, hx2, hw]
          refine ⟨outs.length - (k + 1), by omega, _, _, k + 1, rfl, rfl, by omega, hE.skip _, hk.step ((Ext.refl H').skip _).step, ?_, ?_⟩
          all_goals simp only [start, KC_normal, go_sem, Nat.reduceEqDiff, Nat.reduceAdd, reduceIte, reduceCtorEq, Nat.reduceLeDiff, Nat.reduceShiftRight, Nat.reduceAnd, Nat.reduceOr, Nat.reducePow, Nat.reduceBNe, Nat.reduceBEq, t1]
          rw [e2]
        · simp only [start, KC_normal, go_sem, Nat.reduceEqDiff, Nat.reduceAdd, reduceIte, reduceCtorEq, Nat.reduceLeDiff, Nat.reduceShiftRight, Nat.reduceAnd, Nat.reduceOr, Nat.reducePow, Nat.reduceBNe, Nat.reduceBEq]
          exact hQ _ hE
end Go.Ab.Ex
