/- Wire: a gate's wires, by the document: shifts. PRINTED BY wip/tools/gen16.py. -/
import Derived.Test.YtmodeilippcbnaaM18
set_option linter.all false
namespace Go.Ab.Ex
open Go.Proofs
set_option maxRecDepth 10000
set_option maxHeartbeats 1000000

section
variable {F : Fr} {H : Heap} {bm : Nat} {inn : Int} {ops : List OpM} {outs : List Int} {d : Nat} {g : CircM} {rows : List (List Int)} {vg vl : Value} {Q : Ret → Heap → Prop}

theorem f29_sh (h : GateIn F H bm inn ops outs d g rows vg vl) {K A B : Int} {N : BitVec 32} {S : Bool} (hK : 6 ≤ K ∧ K ≤ 8) (hA : 0 ≤ A ∧ A < rows.length) (hrg : rows.length ≤ g.gates.length) (hrl : (rowOf rows A).length ≤ 7) (hQ : GateQ F H bm inn ops outs d g rows ⟨K, A, B, N, S⟩ Q) :
    C 29 #[.pointer (some ⟨bm, 0, none⟩), vg, GateM.v ⟨K, A, B, N, S⟩, vl, .int .i64 (d : Nat)] H Q := by
  obtain ⟨v1, v2, rfl, hg1, hg2⟩ := h.c.ex
  obtain ⟨ag, cg, rfl, -, -, hgA⟩ := hg1.ex
  obtain ⟨au, cu, rfl, -, -, huA⟩ := hg2.ex
  obtain ⟨bl, ol, owl, Cl, cl, rfl, hkl, hCl⟩ := h.r.all (by omega)
  obtain ⟨bg, og, owg, Cg, rfl, hkg, hCg⟩ := hgA.all GateM.len (by omega)
  obtain ⟨a2, c2, hlA, hsA⟩ := hCl A hA.1 hA.2
  obtain ⟨gA, hgA', hsecA⟩ := sec_get (g := g) hA.1 (by omega)
  have hgS := (hCg _ _ hgA').1 4 (by omega)
  simp only [GateM.c, List.getElem?_cons_succ, List.getElem?_cons_zero] at hgS
  have hm0 := h.m
  have hl0 := h.l
  have hi0' := h.i
  have e : gateM g d rows (inn + ops.length) ⟨K, A, B, N, S⟩ = (elOps (decide (K = 5)) (stepOf K) N (rowOf rows A) (fun _ => 0), elRow (decide (K = 5)) (rowOf rows A) (inn + ops.length)) := by
    obtain rfl | rfl | rfl : K = 6 ∨ K = 7 ∨ K = 8 := by omega
    all_goals rfl
  unfold GateQ at hQ
  rw [e] at hQ
  simp only at hQ
  clear e huA hg1 hg2 hCl hCg hgA h
  generalize hn : inn + (ops.length : Int) = n at *
  generalize hEd : elOps (decide (K = 5)) (stepOf K) N (rowOf rows A) (fun _ => 0) = E at *
  generalize hRd : elRow (decide (K = 5)) (rowOf rows A) n = R at *
  generalize rowOf rows A = a at *
  obtain ⟨k', hk'⟩ : ∃ k', k' = stepOf K := ⟨_, rfl⟩
  rw [← hk'] at hEd
  refine SemC_fn TT.ok fn29 rfl rfl ?_
  obtain rfl | rfl | rfl : K = 6 ∨ K = 7 ∨ K = 8 := by omega
  all_goals
    simp only [Try.f29, GateM.v, start, KC_normal, go_sem, Nat.reduceEqDiff, Nat.reduceAdd, reduceIte, reduceCtorEq, Nat.reduceLeDiff, Nat.reduceShiftRight, Nat.reduceAnd, Nat.reduceOr, Nat.reducePow, Nat.reduceBNe, Nat.reduceBEq]
    generalize hX : ((H.push _).push _).push _ = H1
    obtain ⟨hE1, h6, h7, h8, hn1⟩ := pre3 hX
    clear hX
    simp only [start, KC_normal, go_sem, Nat.reduceEqDiff, Nat.reduceAdd, reduceIte, reduceCtorEq, Nat.reduceLeDiff, Nat.reduceShiftRight, Nat.reduceAnd, Nat.reduceOr, Nat.reducePow, Nat.reduceBNe, Nat.reduceBEq, h6, h7, Int.reduceEq]
    refine DRg_x TT.ok [0, 0, 2, 7, 15, 0, 0, 64, 0, 256, 960, 1984, 4032, 31, 8255, 32767, 65535] 17 131071 214 rfl (by decide +kernel) ?_
    simp only [start, KC_normal, go_sem, Nat.reduceEqDiff, Nat.reduceAdd, reduceIte, reduceCtorEq, Nat.reduceLeDiff, Nat.reduceShiftRight, Nat.reduceAnd, Nat.reduceOr, Nat.reducePow, Nat.reduceBNe, Nat.reduceBEq, h6, h7, ia_int _ _ _ _ _ hA.1 hA.2, ia_int _ _ _ _ _ hA.1 (show A < (g.gates.length : Int) by omega), (hkl.step hE1.step).get, hlA, (hkg.step hE1.step).get, hgS]
    generalize hY : (H1.skip 17).put _ _ = H2
    obtain ⟨hE2, h9, hn2⟩ := skip_put hY (by omega)
    clear hY
    have h7 := (hE2.get _ (by omega)).trans h7
    have h8 := (hE2.get _ (by omega)).trans h8
    simp only [start, KC_normal, go_sem, Nat.reduceEqDiff, Nat.reduceAdd, reduceIte, reduceCtorEq, Nat.reduceLeDiff, Nat.reduceShiftRight, Nat.reduceAnd, Nat.reduceOr, Nat.reducePow, Nat.reduceBNe, Nat.reduceBEq, h7]
    refine f49_c fun r hr => ?_
    subst hr
    simp only [start, KC_normal, go_sem, Nat.reduceEqDiff, Nat.reduceAdd, reduceIte, reduceCtorEq, Nat.reduceLeDiff, Nat.reduceShiftRight, Nat.reduceAnd, Nat.reduceOr, Nat.reducePow, Nat.reduceBNe, Nat.reduceBEq, h7, show takesR 5 = 1 from rfl, show takesR 6 = 1 from rfl, show takesR 7 = 1 from rfl, show takesR 8 = 1 from rfl, Int.reduceLT, Int.reduceEq]
    refine f49_c fun r hr => ?_
    subst hr
    simp only [start, KC_normal, go_sem, Nat.reduceEqDiff, Nat.reduceAdd, reduceIte, reduceCtorEq, Nat.reduceLeDiff, Nat.reduceShiftRight, Nat.reduceAnd, Nat.reduceOr, Nat.reducePow, Nat.reduceBNe, Nat.reduceBEq, h7, show takesR 5 = 1 from rfl, show takesR 6 = 1 from rfl, show takesR 7 = 1 from rfl, show takesR 8 = 1 from rfl, Int.reduceLT, Int.reduceEq]
    have hE12 := hE1.trans hE2
    have hle := hE12.le
    obtain ⟨x2, y2, e2, hcap2, hlen2, hsA'⟩ := hsA.ex
    cases e2
    obtain ⟨G, hG⟩ : ∃ G, G = H2.get (H.next + 1) := ⟨_, rfl⟩
    have hk7 : Kp F H2 (H.next + 1) G := Kp.mk' hm0.bd hE12 (by omega) (by omega) hG.symm
    rw [h7] at hG
    have ho := Own1.blk (sz := 1) (c := []) (H := H2) (H.next + 1 + 1) 0 (by omega) h8 rfl
    clear hE1 hE2 h6 h7 h8 h9 hkl hkg hlA hgS hsA
    refine wp_loop TT.ok rfl rfl (fun j s => ∃ tm H' F' b v i, s = ⟨tm, 214, [], false, H'⟩ ∧ j = a.length - i ∧ i ≤ a.length ∧ Step F H F' H' ∧ MkR F' H' bm inn (ops ++ E.take i) outs ∧ Kp (F'.un b) H' (H.next + 1) G ∧ SlA (F'.un b) H' 1 a.length c2 (a.flatMap intC) a2 ∧
      Own1 H' 1 ((R.take i).flatMap intC) v (R.take i).length b ∧ (∀ j, b = some j → H.next + 2 ≤ j ∧ ¬ F' j) ∧
      tm.get 0 = some (.pointer (some ⟨bm, 0, none⟩)) ∧ tm.get 7 = some (.pointer (some ⟨H.next + 1, 0, none⟩)) ∧ tm.get 11 = some v ∧ tm.get 13 = some (.slice a2 a.length c2) ∧ tm.get 17 = some (.int .i64 (i : Nat))) a.length ?_ ?_
    · have hb0 : ∀ j, some (H.next + 1 + 1) = some j → H.next + 2 ≤ j := fun j hj => by cases hj; omega
      refine ⟨_, H2, F, some (H.next + 1 + 1), .slice (some ⟨H.next + 1 + 1, 0, none⟩) 0 0, 0, rfl, rfl, Nat.zero_le _, hE12.step, by simpa using hm0.ext hE12, hk7.un (fun k hk e => by cases hk; omega), (hsA'.un (fun j hj => by have := hb0 j hj; omega)).step hE12.step, ho, fun j hj => ⟨hb0 j hj, fun hf => by have := hm0.bd.lt j hf; have := hb0 j hj; omega⟩, ?_, ?_, ?_, ?_, ?_⟩
      all_goals simp only [start, KC_normal, go_sem, Nat.reduceEqDiff, Nat.reduceAdd, reduceIte, reduceCtorEq, Nat.reduceLeDiff, Nat.reduceShiftRight, Nat.reduceAnd, Nat.reduceOr, Nat.reducePow, Nat.reduceBNe, Nat.reduceBEq]
      rfl
    · subst hG
      clear hk7 hm0 ho
      rintro j s - ⟨tm, H', F', b, v, i, rfl, hj, hi', hS, hm, hk, hsl, ho, hb, t0, t7, t11, t13, t17⟩
      simp only [start, KC_normal, go_sem, Nat.reduceEqDiff, Nat.reduceAdd, reduceIte, reduceCtorEq, Nat.reduceLeDiff, Nat.reduceShiftRight, Nat.reduceAnd, Nat.reduceOr, Nat.reducePow, Nat.reduceBNe, Nat.reduceBEq, t0, t7, t11, t13, t17]
      have hleS := hS.le
      refine CN_split (fun hlt => ?_) (fun hge => ?_)
      · have hlt' : i < a.length := by omega
        obtain ⟨y, hy⟩ : ∃ y, a[i]? = some y := ⟨_, List.getElem?_eq_getElem hlt'⟩
        obtain ⟨bA, oA, owA, CA, rfl, hkA, hCA⟩ := hsl.all intC_len (by omega)
        have hy4 := (hCA i y hy).1 0 (by omega)
        simp only [intC, Nat.add_zero, List.getElem?_cons_zero] at hy4
        by_cases hi0 : (0 : Int) < (i : Int)
        all_goals simp only [start, KC_normal, go_sem, Nat.reduceEqDiff, Nat.reduceAdd, reduceIte, reduceCtorEq, Nat.reduceLeDiff, Nat.reduceShiftRight, Nat.reduceAnd, Nat.reduceOr, Nat.reducePow, Nat.reduceBNe, Nat.reduceBEq, t0, t7, t11, t13, t17, hk.get, hi0, Int.reduceEq]
        all_goals
          have hnx := el_next (kp := false) (k := k') (n := n) (N := N) (bs := fun _ => 0) hy rfl
          simp only [Int.reduceEq, decide_false] at hEd hRd
          rw [hEd, hRd] at hnx
          refine f49_c fun r hr => ?_
          subst hr
          simp only [start, KC_normal, go_sem, Nat.reduceEqDiff, Nat.reduceAdd, reduceIte, reduceCtorEq, Nat.reduceLeDiff, Nat.reduceShiftRight, Nat.reduceAnd, Nat.reduceOr, Nat.reducePow, Nat.reduceBNe, Nat.reduceBEq, show takesR 5 = 1 from rfl, show takesR 6 = 1 from rfl, show takesR 7 = 1 from rfl, show takesR 8 = 1 from rfl, Int.reduceEq]
          refine DRg_x TT.ok [0, 0, 2, 6, 0, 0, 48, 112, 0, 256, 1023, 2047] 12 4095 214 rfl (by decide +kernel) ?_
          simp only [start, KC_normal, go_sem, Nat.reduceEqDiff, Nat.reduceAdd, reduceIte, reduceCtorEq, Nat.reduceLeDiff, Nat.reduceShiftRight, Nat.reduceAnd, Nat.reduceOr, Nat.reducePow, Nat.reduceBNe, Nat.reduceBEq, t0, t7, hk.get]
          rw [hk'] at hnx
          refine f51_c (by omega) fun H3 r hE3 hr => ?_
          subst hr
          have hE3 := ((Ext.refl H').skip _).trans hE3
          have hm3 := hm.ext hE3
          have ho3 := ho.ext hE3
          simp only [start, KC_normal, go_sem, Nat.reduceEqDiff, Nat.reduceAdd, reduceIte, reduceCtorEq, Nat.reduceLeDiff, Nat.reduceShiftRight, Nat.reduceAnd, Nat.reduceOr, Nat.reducePow, Nat.reduceBNe, Nat.reduceBEq, t7, t13, t17, ia_in _ _ _ _ _ hlt', (hkA.step hE3.step).get, hkA.get, hy4, (hk.step hE3.step).get, hk.get]
          refine f30_c hm3 (by rw [List.length_append, hnx.2.2]; omega) hi0' fun H4 F4 hm4 hS4 => ?_
          rw [List.append_assoc, ← hnx.1] at hm4
          have hx : inn + ((ops ++ List.take i E).length : Int) = n + i := by rw [List.length_append, hnx.2.2]; omega
          simp only [start, KC_normal, go_sem, Nat.reduceEqDiff, Nat.reduceAdd, reduceIte, reduceCtorEq, Nat.reduceLeDiff, Nat.reduceShiftRight, Nat.reduceAnd, Nat.reduceOr, Nat.reducePow, Nat.reduceBNe, Nat.reduceBEq, t11]
          rw [hx]
          have ho4 := ho3.step hS4 fun j hj => (hb j hj).2
          obtain ⟨v7, H7, b7, he, hw7, hS7, hb7⟩ := app1_int ho4 (by rw [List.length_take]; omega) (n + i)
          have hle3 := hE3.le
          have hle4 := hS4.le
          have hb4 := ho3.out hS4 fun j hj => (hb j hj).2
          have hS04 := hE3.step.trans hS4
          simp only [he, start, KC_normal, go_sem, Nat.reduceEqDiff, Nat.reduceAdd, reduceIte, reduceCtorEq, Nat.reduceLeDiff, Nat.reduceShiftRight, Nat.reduceAnd, Nat.reduceOr, Nat.reducePow, Nat.reduceBNe, Nat.reduceBEq, t17]
          refine ⟨a.length - (i + 1), by omega, _, H7, F4, b7, v7, i + 1, rfl, rfl, by omega, (hS.trans hS04).app hS7 (fun j hj => by have := (hb j hj).1; omega), hm4.app hS7 hb4, (hk.step hS04.un).step (hS7 F4), (hsl.step hS04.un).step (hS7 F4), ?_, fun j hj => ⟨by have := hb7 j hj; have := hk.lt; omega, fun hf => by have := hm4.bd.lt j hf; have := hb7 j hj; omega⟩, ?_, ?_, ?_, ?_, ?_⟩
          · rw [hnx.2.1]; exact hw7
          all_goals simp only [start, KC_normal, go_sem, Nat.reduceEqDiff, Nat.reduceAdd, reduceIte, reduceCtorEq, Nat.reduceLeDiff, Nat.reduceShiftRight, Nat.reduceAnd, Nat.reduceOr, Nat.reducePow, Nat.reduceBNe, Nat.reduceBEq, t0, t7, t13]
          rw [wrap_i64 _ (by omega) (by omega)]; simp
      · have hi'' : i = a.length := by omega
        subst hi''
        have hall := el_all (kp := false) (k := k') (n := n) (N := N) (a := a) (bs := fun _ => 0)
        simp only [Int.reduceEq, decide_false] at hEd hRd
        rw [hEd, hRd] at hall
        rw [hall.1] at hm
        rw [hall.2] at ho
        simp only [start, KC_normal, go_sem, Nat.reduceEqDiff, Nat.reduceAdd, reduceIte, reduceCtorEq, Nat.reduceLeDiff, Nat.reduceShiftRight, Nat.reduceAnd, Nat.reduceOr, Nat.reducePow, Nat.reduceBNe, Nat.reduceBEq, t11]
        exact hQ H' F' v b hm hS ho fun j hj => ⟨by have := (hb j hj).1; omega, (hb j hj).2⟩
end
end Go.Ab.Ex
