/- Wire: the document's Expand. -/
import Derived.Test.YtmodeilippcbnaaM23
set_option linter.all false
namespace Go.Ab.Ex
open Go.Proofs
set_option maxRecDepth 10000
set_option maxHeartbeats 1000000

theorem f11_c {F : Fr} {H : Heap} {v : Value} {g : CircM} {d : Int} (hv : CircR F H v g) (hf : g.gates.length ≤ 150 ∧ g.outs.length ≤ 50) {Q : Ret → Heap → Prop}
    (hQ : ∀ H' u, Ext H H' → (∀ G, Bd G H → CodeR G H' u (expandM g d).1.1 (expandM g d).1.2.1 (expandM g d).1.2.2) → Q (.ret (.tuple #[u, .int .i64 (expandM g d).2])) H') : C 11 #[v, .int .i64 d] H Q := by
  have hv0 := hv.noF
  obtain ⟨v1, v2, rfl, hg1, hg2⟩ := hv.noF.ex
  obtain ⟨ag, cg, rfl, h3, h4, hgA⟩ := hg1.ex
  obtain ⟨au, cu, rfl, h5, h6, huA⟩ := hg2.ex
  clear hv hg1 hg2
  refine SemC_fn TT.ok fn11 rfl rfl ?_
  simp only [Try.f11, start, KC_normal, go_sem, Nat.reduceEqDiff, Nat.reduceAdd, reduceIte, reduceCtorEq, Nat.reduceLeDiff, Nat.reduceShiftRight, Nat.reduceAnd, Nat.reduceOr, Nat.reducePow, Nat.reduceBNe, Nat.reduceBEq]
  generalize hX : (H.push _).push _ = H1
  obtain ⟨hE1, h7, h8, hn1⟩ := pre2 hX
  clear hX
  simp only [start, KC_normal, go_sem, Nat.reduceEqDiff, Nat.reduceAdd, reduceIte, reduceCtorEq, Nat.reduceLeDiff, Nat.reduceShiftRight, Nat.reduceAnd, Nat.reduceOr, Nat.reducePow, Nat.reduceBNe, Nat.reduceBEq, h7]
  refine f23_c (hv0.step hE1.step) (by omega) fun r H2 hE2 hr => ?_
  have hE12 := hE1.trans hE2
  have hle2 := hE2.le
  have h72 := (hE2.get _ (by omega)).trans h7
  have h82 := (hE2.get _ (by omega)).trans h8
  have hput : Ext H (H2.put (H.next + 1) (.cells true 3 [.int .i64 0, .slice none 0 0, .slice none 0 0])) := hE12.put (show H.next ≤ H.next + 1 by omega) _
  unfold expandM at hQ
  cases r with
  | false =>
    rw [if_pos (fun h => by have := hr.2 h; cases this)] at hQ
    simp only [start, KC_normal, go_sem, Nat.reduceEqDiff, Nat.reduceAdd, reduceIte, reduceCtorEq, Nat.reduceLeDiff, Nat.reduceShiftRight, Nat.reduceAnd, Nat.reduceOr, Nat.reducePow, Nat.reduceBNe, Nat.reduceBEq, h82]
    exact hQ _ _ hput fun G _ => zeroCode
  | true =>
    have hgr := hr.1 rfl
    rw [if_neg (fun h => h hgr)] at hQ
    simp only [start, KC_normal, go_sem, Nat.reduceEqDiff, Nat.reduceAdd, reduceIte, reduceCtorEq, Nat.reduceLeDiff, Nat.reduceShiftRight, Nat.reduceAnd, Nat.reduceOr, Nat.reducePow, Nat.reduceBNe, Nat.reduceBEq]
    by_cases hd1 : d < 1
    · rw [if_pos hd1] at hQ
      simp only [start, KC_normal, go_sem, Nat.reduceEqDiff, Nat.reduceAdd, reduceIte, reduceCtorEq, Nat.reduceLeDiff, Nat.reduceShiftRight, Nat.reduceAnd, Nat.reduceOr, Nat.reducePow, Nat.reduceBNe, Nat.reduceBEq, hd1, h82]
      exact hQ _ _ hput fun G _ => zeroCode
    · rw [if_neg hd1] at hQ
      simp only [start, KC_normal, go_sem, Nat.reduceEqDiff, Nat.reduceAdd, reduceIte, reduceCtorEq, Nat.reduceLeDiff, Nat.reduceShiftRight, Nat.reduceAnd, Nat.reduceOr, Nat.reducePow, Nat.reduceBNe, Nat.reduceBEq, hd1]
      by_cases hd6 : 6 < d
      · rw [if_pos (.inl hd6)] at hQ
        simp only [start, KC_normal, go_sem, Nat.reduceEqDiff, Nat.reduceAdd, reduceIte, reduceCtorEq, Nat.reduceLeDiff, Nat.reduceShiftRight, Nat.reduceAnd, Nat.reduceOr, Nat.reducePow, Nat.reduceBNe, Nat.reduceBEq, hd6, h82]
        exact hQ _ _ hput fun G _ => zeroCode
      · have hs : 0 ≤ g.secrets ∧ g.secrets ≤ 1000 := hgr.c.s
        have hp : 0 ≤ g.publics ∧ g.publics ≤ 1000 := hgr.c.p
        have hb : 0 ≤ g.secrets * (d + 1) ∧ g.secrets * (d + 1) ≤ 7000 := by
          refine ⟨Int.mul_nonneg hs.1 (by omega), ?_⟩
          have h1 : g.secrets * (d + 1) ≤ g.secrets * 7 := Int.mul_le_mul_of_nonneg_left (by omega) hs.1
          omega
        have w1 : IntKind.i64.wrap (d + 1) = d + 1 := wrap_i64 _ (by omega) (by omega)
        have w2 : IntKind.i64.wrap (g.secrets * (d + 1)) = g.secrets * (d + 1) := wrap_i64 _ (by omega) (by omega)
        have w3 : IntKind.i64.wrap (g.secrets * (d + 1) + g.publics) = g.secrets * (d + 1) + g.publics := wrap_i64 _ (by omega) (by omega)
        have hou : ¬ (60000 : Int) < (g.outs.length : Int) := by omega
        by_cases hin : 4000 < g.secrets * (d + 1) + g.publics
        · rw [if_pos (.inr hin)] at hQ
          simp only [start, KC_normal, go_sem, Nat.reduceEqDiff, Nat.reduceAdd, reduceIte, reduceCtorEq, Nat.reduceLeDiff, Nat.reduceShiftRight, Nat.reduceAnd, Nat.reduceOr, Nat.reducePow, Nat.reduceBNe, Nat.reduceBEq, hd6, h72, h82, w1, w2, w3, hin]
          exact hQ _ _ hput fun G _ => zeroCode
        · rw [if_neg (by omega)] at hQ
          obtain ⟨D, rfl⟩ : ∃ D : Nat, d = (D : Int) := ⟨d.toNat, by omega⟩
          rw [Int.toNat_natCast] at hQ
          have hD : 1 ≤ D ∧ D ≤ 6 := by omega
          have hinn : g.secrets * ((D : Int) + 1) + g.publics = innM g D := rfl
          simp only [start, KC_normal, go_sem, Nat.reduceEqDiff, Nat.reduceAdd, reduceIte, reduceCtorEq, Nat.reduceLeDiff, Nat.reduceShiftRight, Nat.reduceAnd, Nat.reduceOr, Nat.reducePow, Nat.reduceBNe, Nat.reduceBEq, hd6, h72, h82, w1, w2, w3, hin, hou]
          rw [hinn] at *
          generalize hX : (H2.push _).push _ = H3
          obtain ⟨hE3, h9, h10, hn3⟩ := pre2 hX
          clear hX
          have hE13 := hE12.trans hE3
          have h73 := (hE3.get _ (by omega)).trans h72
          simp only [start, KC_normal, go_sem, Nat.reduceEqDiff, Nat.reduceAdd, reduceIte, reduceCtorEq, Nat.reduceLeDiff, Nat.reduceShiftRight, Nat.reduceAnd, Nat.reduceOr, Nat.reducePow, Nat.reduceBNe, Nat.reduceBEq, h73, h9, w1, w2, w3]
          have hinn : g.secrets * ((D : Int) + 1) + g.publics = innM g D := rfl
          have hi0 : 0 ≤ innM g D ∧ innM g D ≤ 4000 := by rw [← hinn]; omega
          rw [hinn] at *
          generalize hY : H3.put _ _ = H4
          have hE34 : Ext H2 H4 := by subst hY; exact hE3.put (Nat.le_refl _) _
          have h94 : H4.get H2.next = .cells true 3 [.int .i64 (innM g D), .slice none 0 0, .slice none 0 0] := by subst hY; exact H_put_same _ _ _
          have h104 : H4.get (H2.next + 1) = .cells true 1 [] := by subst hY; rw [H_put_other _ _ _ _ (by omega)]; exact h10
          have hn4 : H4.next = H2.next + 2 := by subst hY; exact hn3
          clear hY h9 h10 h73
          have hE14 := hE12.trans hE34
          have h74 := (hE34.get _ (by omega)).trans h72
          have h84 := (hE34.get _ (by omega)).trans h82
          have hm4 : MkR (fun j => j = H2.next) H4 H2.next (innM g D) [] [] :=
            ⟨_, _, none, none, h94, by omega, .nil rfl, .nil rfl, fun j => ⟨fun h => .inl h, fun h => by rcases h with h | h | h; exact h; cases h; cases h⟩⟩
          have hl4 : Own1 H4 1 (([] : List Value).flatMap cellC) (.slice (some ⟨H2.next + 1, 0, none⟩) 0 0) 0 (some (H2.next + 1)) := .blk _ _ (by omega) h104 rfl
          clear hE13 h7 h8 h82 h72 hput hE3 hn3 hE1 hE2 h94 h104
          -- the gates
          refine wp_loop TT.ok rfl rfl (fun j s => ∃ tm H' F' bl vl, ∃ vs : List Value, ∃ i, s = ⟨tm, 152, [], false, H'⟩ ∧ j = g.gates.length - i ∧ i ≤ g.gates.length ∧ Ext H H' ∧ MkR F' H' H2.next (innM g D) (runG g D (innM g D) (g.gates.take i)).1 [] ∧
            Own1 H' 1 (vs.flatMap cellC) vl vs.length bl ∧ (∀ j, F' j → H2.next ≤ j) ∧ (∀ j, bl = some j → H2.next ≤ j ∧ ¬ F' j) ∧ vs.length = i ∧
            (∀ (k : Nat) (r : List Int), (runG g D (innM g D) (g.gates.take i)).2[k]? = some r → ∃ u, vs[k]? = some u ∧ Sl (F'.un bl) H' 1 u r.length (r.flatMap intC)) ∧
            H'.get H.next = .cells true 4 [.slice ag g.gates.length cg, .int .i64 g.secrets, .int .i64 g.publics, .slice au g.outs.length cu] ∧ H'.get (H.next + 1) = .cells true 3 [.int .i64 0, .slice none 0 0, .slice none 0 0] ∧
            tm.get 1 = some (.int .i64 D) ∧ tm.get 2 = some (.pointer (some ⟨H.next, 0, none⟩)) ∧ tm.get 4 = some (.pointer (some ⟨H.next + 1, 0, none⟩)) ∧ tm.get 6 = some (.pointer (some ⟨H2.next, 0, none⟩)) ∧ tm.get 7 = some vl ∧ tm.get 8 = some (.int .i64 (i : Nat))) g.gates.length ?_ ?_
          · refine ⟨_, H4, fun j => j = H2.next, some (H2.next + 1), .slice (some ⟨H2.next + 1, 0, none⟩) 0 0, [], 0, rfl, rfl, Nat.zero_le _, hE14, hm4, hl4, fun j hj => by omega, fun j hj => by cases hj; exact ⟨by omega, by omega⟩, rfl, fun k r hk => by simp [runG] at hk, h74, h84, ?_, ?_, ?_, ?_, ?_, ?_⟩
            all_goals simp only [start, KC_normal, go_sem, Nat.reduceEqDiff, Nat.reduceAdd, reduceIte, reduceCtorEq, Nat.reduceLeDiff, Nat.reduceShiftRight, Nat.reduceAnd, Nat.reduceOr, Nat.reducePow, Nat.reduceBNe, Nat.reduceBEq]
            rfl
          · clear hm4 hl4 hE14 h74 h84 hE34
            rintro j s - ⟨tm, H', F', bl, vl, vs, i, rfl, hj, hi, hE, hm, hvl, hF, hbl, hvs, hrows, hb1, hb2, t1, t2, t4, t6, t7, t8⟩
            have hR := rows_run hgr hD i hi
            obtain ⟨vo, vu, bo, bu, hmb, hmlt, hmo, hmu, -⟩ := hm.ex
            obtain ⟨ao, hao⟩ := hmo.len
            subst hao
            have hopl : ¬ (60000 : Int) < ((runG g D (innM g D) (g.gates.take i)).1.length : Int) := by have := hR.n; omega
            have hople : ((runG g D (innM g D) (g.gates.take i)).1.length : Int) ≤ 60000 := by omega
            simp only [start, KC_normal, go_sem, Nat.reduceEqDiff, Nat.reduceAdd, reduceIte, reduceCtorEq, Nat.reduceLeDiff, Nat.reduceShiftRight, Nat.reduceAnd, Nat.reduceOr, Nat.reducePow, Nat.reduceBNe, Nat.reduceBEq, t2, t8, hb1]
            by_cases hlt : (i : Int) < (g.gates.length : Int)
            · have hlt' : i < g.gates.length := by omega
              simp only [start, KC_normal, go_sem, Nat.reduceEqDiff, Nat.reduceAdd, reduceIte, reduceCtorEq, Nat.reduceLeDiff, Nat.reduceShiftRight, Nat.reduceAnd, Nat.reduceOr, Nat.reducePow, Nat.reduceBNe, Nat.reduceBEq, t6, hmb, hlt, hople]
              obtain ⟨x, hx⟩ : ∃ x, g.gates[i]? = some x := ⟨_, List.getElem?_eq_getElem hlt'⟩
              obtain ⟨bg, og, owg, Cg, rfl, hkg, hCg⟩ := hgA.all GateM.len (by omega)
              have hseg := (hCg i x hx).2
              simp only [GateM.c] at hseg
              refine DRg_x TT.ok [0, 0, 0, 4, 0, 28, 60, 0, 0, 511, 1023] 11 2047 152 rfl (by decide +kernel) ?_
              simp only [start, KC_normal, go_sem, Nat.reduceEqDiff, Nat.reduceAdd, reduceIte, reduceCtorEq, Nat.reduceLeDiff, Nat.reduceShiftRight, Nat.reduceAnd, Nat.reduceOr, Nat.reducePow, Nat.reduceBNe, Nat.reduceBEq, t1, t2, t6, t7, t8, hb1, ia_in _ _ _ _ _ hlt', (hkg.step hE.step).get, hseg]
              have hEs : Ext H' (H'.skip 11) := (Ext.refl H').skip 11
              have hlH := hE.le
              have hcr := (hv0.more (F' := F') (fun j hj => .inr (by have := hF j hj; omega))).step ((hE.trans hEs).step)
              have hrows' : RowsR F' (H'.skip 11) vl (runG g D (innM g D) (g.gates.take i)).2 := ⟨vs, by rw [hvs, hR.len], (hvl.sl (fun j hj => (hbl j hj).2)).step hEs.step, fun k r hk => let ⟨u, k1, k2⟩ := hrows k r hk; ⟨u, k1, k2.left.step hEs.step⟩⟩
              refine f29_c (x := x) (i := i) ⟨hm.ext hEs, by have := hR.n; omega, by omega, hD, hcr, hs, hrows'⟩ (graph_gate hgr hx) hR (by rw [hR.len]; omega) hp fun H5 F5 v5 b5 hm5 hS5 ho5 hb5 => ?_
              have hnx : runG g D (innM g D) (g.gates.take (i + 1)) = stepG g D (innM g D) (runG g D (innM g D) (g.gates.take i)) x := by rw [take_next hx, runG_next]
              have hS5' := hEs.step.trans hS5
              have hvl5 := hvl.step hS5' (fun j hj => (hbl j hj).2)
              have hbl5 := hvl.out hS5' (fun j hj => (hbl j hj).2)
              obtain ⟨a5, e5⟩ := ho5.len
              subst e5
              simp only [start, KC_normal, go_sem, Nat.reduceEqDiff, Nat.reduceAdd, reduceIte, reduceCtorEq, Nat.reduceLeDiff, Nat.reduceShiftRight, Nat.reduceAnd, Nat.reduceOr, Nat.reducePow, Nat.reduceBNe, Nat.reduceBEq, t7]
              obtain ⟨v7, H7, b7, he, hw7, hS7, hb7⟩ := app1_row hvl5 (by omega) (u := .slice a5 (gateM g D (runG g D (innM g D) (g.gates.take i)).2 (innM g D + ((runG g D (innM g D) (g.gates.take i)).1.length : Int)) x).2.length (gateM g D (runG g D (innM g D) (g.gates.take i)).2 (innM g D + ((runG g D (innM g D) (g.gates.take i)).1.length : Int)) x).2.length) rfl
              simp only [he, start, KC_normal, go_sem, Nat.reduceEqDiff, Nat.reduceAdd, reduceIte, reduceCtorEq, Nat.reduceLeDiff, Nat.reduceShiftRight, Nat.reduceAnd, Nat.reduceOr, Nat.reducePow, Nat.reduceBNe, Nat.reduceBEq, t8]
              have hle5 := hS5'.le
              have hle7 := (hS7 noF).le
              have hF5 : ∀ j, F5 j → H2.next ≤ j := fun j hj => by
                rcases hS5'.new j hj with h | h
                · exact hF j h
                · have := hm.bd; omega
              have hget : ∀ b, b < H2.next → H7.get b = H'.get b := fun b hb => by
                rw [(hS7 noF).get b (by omega) (fun h => by rcases h with h | h; exact h; have := (hbl _ h).1; omega), hS5'.get b (by omega) (fun h => by have := hF _ h; omega)]
              refine ⟨g.gates.length - (i + 1), by omega, _, H7, F5, b7, v7, vs ++ [.slice a5 _ _], i + 1, rfl, rfl, by omega, (hE.thenStep hS5' (fun j hj => by have := hF j hj; omega)).app hS7 (fun j hj => by have := (hbl j hj).1; omega), ?_, hw7, hF5, fun j hj => ⟨by have := hb7 j hj; omega, fun hf => by have := hm5.bd.lt j hf; have := hb7 j hj; omega⟩, by simp [hvs], fun k r hk => ?_, ?_, ?_, ?_, ?_, ?_, ?_, ?_, ?_⟩
              · rw [hnx]; exact hm5.app hS7 hbl5
              · rw [hnx] at hk
                simp only [stepG] at hk
                by_cases hkl : k < (runG g D (innM g D) (g.gates.take i)).2.length
                · rw [List.getElem?_append_left hkl] at hk
                  obtain ⟨u, k1, k2⟩ := hrows k r hk
                  refine ⟨u, ?_, (k2.step hS5'.un).step (hS7 F5)⟩
                  rw [List.getElem?_append_left (by rw [hvs]; rw [hR.len] at hkl; exact hkl)]; exact k1
                · have hk2 := lt_of_get hk
                  rw [List.length_append, List.length_singleton] at hk2
                  have hke : k = (runG g D (innM g D) (g.gates.take i)).2.length := by omega
                  subst hke
                  rw [List.getElem?_append_right (Nat.le_refl _), Nat.sub_self] at hk
                  simp only [List.getElem?_cons_zero, Option.some.injEq] at hk
                  subst hk
                  have h1 := ho5.sl (F := F5.un bl) (fun j hj hf => by
                    rcases hf with h | h
                    · exact (hb5 j hj).2 h
                    · have := hvl.lt h; have := (hb5 j hj).1; simp only [Heap.next_skip] at this; omega)
                  refine ⟨_, ?_, h1.step (hS7 F5)⟩
                  rw [hR.len, ← hvs]; simp
              · rw [hget _ (by omega)]; exact hb1
              · rw [hget _ (by omega)]; exact hb2
              all_goals simp only [start, KC_normal, go_sem, Nat.reduceEqDiff, Nat.reduceAdd, reduceIte, reduceCtorEq, Nat.reduceLeDiff, Nat.reduceShiftRight, Nat.reduceAnd, Nat.reduceOr, Nat.reducePow, Nat.reduceBNe, Nat.reduceBEq, t1, t2, t4, t6]
              rw [wrap_i64 _ (by omega) (by omega)]; simp
            · have hi' : i = g.gates.length := by omega
              subst hi'
              simp only [hlt, start, KC_normal, go_sem, Nat.reduceEqDiff, Nat.reduceAdd, reduceIte, reduceCtorEq, Nat.reduceLeDiff, Nat.reduceShiftRight, Nat.reduceAnd, Nat.reduceOr, Nat.reducePow, Nat.reduceBNe, Nat.reduceBEq]
              have hle : H2.next + 1 ≤ H'.next := hmlt
              clear hmo hmu hmb hlt hopl hople
              rw [List.take_length] at hm hrows hR
              generalize hG1 : (runG g D (innM g D) g.gates).1 = opsG at *
              generalize hG2 : (runG g D (innM g D) g.gates).2 = rowsG at *
              have hrl := hR.n
              have hcode : codeM g D = runO D (innM g D) rowsG opsG g.outs := by unfold codeM; rw [hG1, hG2]
              refine wp_loop TT.ok rfl rfl (fun j s => ∃ tm H' F' k, s = ⟨tm, 152, [], false, H'⟩ ∧ j = g.outs.length - k ∧ k ≤ g.outs.length ∧ Ext H H' ∧ MkR F' H' H2.next (innM g D) (runO D (innM g D) rowsG opsG (g.outs.take k)).1 (runO D (innM g D) rowsG opsG (g.outs.take k)).2 ∧
                Own1 H' 1 (vs.flatMap cellC) vl vs.length bl ∧ (∀ j, F' j → H2.next ≤ j) ∧ (∀ j, bl = some j → H2.next ≤ j ∧ ¬ F' j) ∧
                (∀ (k : Nat) (r : List Int), rowsG[k]? = some r → ∃ u, vs[k]? = some u ∧ Sl (F'.un bl) H' 1 u r.length (r.flatMap intC)) ∧
                H'.get H.next = .cells true 4 [.slice ag g.gates.length cg, .int .i64 g.secrets, .int .i64 g.publics, .slice au g.outs.length cu] ∧ H'.get (H.next + 1) = .cells true 3 [.int .i64 0, .slice none 0 0, .slice none 0 0] ∧
                (runO D (innM g D) rowsG opsG (g.outs.take k)).1.length = opsG.length + k * (D + 1) ∧ (runO D (innM g D) rowsG opsG (g.outs.take k)).2.length = k * (D + 1) ∧
                tm.get 1 = some (.int .i64 D) ∧ tm.get 2 = some (.pointer (some ⟨H.next, 0, none⟩)) ∧ tm.get 4 = some (.pointer (some ⟨H.next + 1, 0, none⟩)) ∧ tm.get 6 = some (.pointer (some ⟨H2.next, 0, none⟩)) ∧ tm.get 7 = some vl ∧ tm.get 10 = some (.int .i64 (k : Nat))) g.outs.length ?_ ?_
              · refine ⟨_, H', F', 0, rfl, rfl, Nat.zero_le _, hE, hm, hvl, hF, hbl, hrows, hb1, hb2, by simp [runO], by simp [runO], ?_, ?_, ?_, ?_, ?_, ?_⟩
                all_goals simp only [start, KC_normal, go_sem, Nat.reduceEqDiff, Nat.reduceAdd, reduceIte, reduceCtorEq, Nat.reduceLeDiff, Nat.reduceShiftRight, Nat.reduceAnd, Nat.reduceOr, Nat.reducePow, Nat.reduceBNe, Nat.reduceBEq, t1, t2, t4, t6, t7]
                rfl
              · clear hm hvl hF hbl hrows hb1 hb2 t1 t2 t4 t6 t7 t8 hE hj j
                rintro j s - ⟨tm, H', F', k, rfl, hj, hk, hE, hm, hvl, hF, hbl, hrows, hb1, hb2, hol, hul, t1, t2, t4, t6, t7, t10⟩
                obtain ⟨vo, vu, bo, bu, hmb, hmlt, hmo, hmu, -⟩ := hm.ex
                obtain ⟨ao, hao⟩ := hmo.len
                subst hao
                have hk7 : k * (D + 1) ≤ 350 := by
                  have h1 : k * (D + 1) ≤ k * 7 := Nat.mul_le_mul_left _ (by omega)
                  omega
                have hople : ((runO D (innM g D) rowsG opsG (g.outs.take k)).1.length : Int) ≤ 60000 := by rw [hol]; omega
                simp only [start, KC_normal, go_sem, Nat.reduceEqDiff, Nat.reduceAdd, reduceIte, reduceCtorEq, Nat.reduceLeDiff, Nat.reduceShiftRight, Nat.reduceAnd, Nat.reduceOr, Nat.reducePow, Nat.reduceBNe, Nat.reduceBEq, t2, t10, hb1]
                by_cases hlt : (k : Int) < (g.outs.length : Int)
                · have hlt' : k < g.outs.length := by omega
                  simp only [start, KC_normal, go_sem, Nat.reduceEqDiff, Nat.reduceAdd, reduceIte, reduceCtorEq, Nat.reduceLeDiff, Nat.reduceShiftRight, Nat.reduceAnd, Nat.reduceOr, Nat.reducePow, Nat.reduceBNe, Nat.reduceBEq, t6, hmb, hlt, hople]
                  obtain ⟨o, hx⟩ : ∃ o, g.outs[k]? = some o := ⟨_, List.getElem?_eq_getElem hlt'⟩
                  have hoo : 0 ≤ o.At ∧ o.At < g.gates.length := by have := hgr.c.o k o hx; rwa [as_len] at this
                  obtain ⟨bo2, oo, owo, Co, rfl, hko, hCo⟩ := huA.all OutM.len (by omega)
                  have hat := (hCo _ _ hx).1 1 (by omega)
                  simp only [OutM.c, List.getElem?_cons_succ, List.getElem?_cons_zero] at hat
                  have hrl2 := hR.len
                  obtain ⟨u, hu1, hu2⟩ := hrows _ _ (rowOf_get hoo.1 (by omega))
                  obtain ⟨ar, cr, rfl, -, -, hrA⟩ := hu2.ex
                  obtain ⟨al, capl, rfl, -, -, hlA⟩ := (hvl.sl (F := noF) fun _ _ h => h).ex
                  obtain ⟨bl2, ol, owl, Cl, rfl, hkl, hCl⟩ := hlA.all cellC_len (by omega)
                  have hu4 := (hCl _ _ hu1).1 0 (by omega)
                  simp only [cellC, Nat.add_zero, List.getElem?_cons_zero] at hu4
                  simp only [start, KC_normal, go_sem, Nat.reduceEqDiff, Nat.reduceAdd, reduceIte, reduceCtorEq, Nat.reduceLeDiff, Nat.reduceShiftRight, Nat.reduceAnd, Nat.reduceOr, Nat.reducePow, Nat.reduceBNe, Nat.reduceBEq, t2, t7, t10, hb1, ia_in _ _ _ _ _ hlt', (hko.step hE.step).get, hat, ia_int _ _ _ _ _ hoo.1 (show o.At < (vs.length : Int) by omega), hkl.get, hu4]
                  have hrowl : (rowOf rowsG o.At).length ≤ 7 := by
                    have := hR.wid o.At hoo.1 (by omega)
                    have := wid_le hD.2 (g.sec o.At)
                    omega
                  have hnx := runO_next D (innM g D) rowsG opsG (g.outs.take k) o
                  rw [← take_next hx] at hnx
                  simp only [stepO] at hnx
                  generalize hK1 : (runO D (innM g D) rowsG opsG (g.outs.take k)).1 = opsK at *
                  generalize hK2 : (runO D (innM g D) rowsG opsG (g.outs.take k)).2 = outsK at *
                  generalize hrw : rowOf rowsG o.At = row at *
                  have hm0 := hm
                  clear hmo hmu hmb hu4 hlA hCl hrw
                  refine wp_loop TT.ok rfl rfl (fun j s => ∃ tm H3 F3 q, s = ⟨tm, 152, [], false, H3⟩ ∧ j = D + 1 - q ∧ q ≤ D + 1 ∧ Ext H H3 ∧ MkR F3 H3 H2.next (innM g D) (opsK ++ (outOps D row).take q) (outsK ++ (List.range q).map fun (e : Nat) => innM g D + opsK.length + (e : Int)) ∧
                    Own1 H3 1 (vs.flatMap cellC) (.slice (some ⟨bl2, ol, none⟩) vs.length capl) vs.length bl ∧ (∀ j, F3 j → H2.next ≤ j) ∧ (∀ j, bl = some j → H2.next ≤ j ∧ ¬ F3 j) ∧
                    (∀ (k : Nat) (r : List Int), rowsG[k]? = some r → ∃ u, vs[k]? = some u ∧ Sl (F3.un bl) H3 1 u r.length (r.flatMap intC)) ∧
                    H3.get H.next = .cells true 4 [.slice ag g.gates.length cg, .int .i64 g.secrets, .int .i64 g.publics, .slice (some ⟨bo2, oo, none⟩) g.outs.length cu] ∧ H3.get (H.next + 1) = .cells true 3 [.int .i64 0, .slice none 0 0, .slice none 0 0] ∧
                    SlA (F3.un bl) H3 1 row.length cr (row.flatMap intC) ar ∧
                    tm.get 1 = some (.int .i64 D) ∧ tm.get 2 = some (.pointer (some ⟨H.next, 0, none⟩)) ∧ tm.get 4 = some (.pointer (some ⟨H.next + 1, 0, none⟩)) ∧ tm.get 6 = some (.pointer (some ⟨H2.next, 0, none⟩)) ∧ tm.get 7 = some (.slice (some ⟨bl2, ol, none⟩) vs.length capl) ∧ tm.get 10 = some (.int .i64 (k : Nat)) ∧ tm.get 11 = some (.slice ar row.length cr) ∧ tm.get 12 = some (.int .i64 (q : Nat))) (D + 1) ?_ ?_
                  · refine ⟨_, H', F', 0, rfl, rfl, Nat.zero_le _, hE, by simpa using hm, hvl, hF, hbl, hrows, hb1, hb2, hrA, ?_, ?_, ?_, ?_, ?_, ?_, ?_, ?_⟩
                    all_goals simp only [start, KC_normal, go_sem, Nat.reduceEqDiff, Nat.reduceAdd, reduceIte, reduceCtorEq, Nat.reduceLeDiff, Nat.reduceShiftRight, Nat.reduceAnd, Nat.reduceOr, Nat.reducePow, Nat.reduceBNe, Nat.reduceBEq, t1, t2, t4, t6, t7, t10]
                    rfl
                  · clear hm hvl hF hbl hrows hb1 hb2 t1 t2 t4 t6 t7 t10 hE hkl hu1 hu2 hrA
                    rintro j2 s - ⟨tm, H3, F3, q, rfl, hj2, hq, hE, hm, hvl, hF, hbl, hrows, hb1, hb2, hrA, t1, t2, t4, t6, t7, t10, t11, t12⟩
                    have hlq : (outOps D row).length = D + 1 := by simp [outOps]
                    obtain ⟨-, -, -, -, -, hlt9, -⟩ := hm.ex
                    have hlo : (opsK ++ (outOps D row).take q).length = opsK.length + q := by rw [List.length_append, List.length_take, hlq]; omega
                    simp only [start, KC_normal, go_sem, Nat.reduceEqDiff, Nat.reduceAdd, reduceIte, reduceCtorEq, Nat.reduceLeDiff, Nat.reduceShiftRight, Nat.reduceAnd, Nat.reduceOr, Nat.reducePow, Nat.reduceBNe, Nat.reduceBEq, t1, t11, t12]
                    refine CN_split (fun hqd => ?_) (fun hqd => ?_)
                    · have hqd' : q < D + 1 := by omega
                      have hget : (outOps D row)[q]? = some (if q < row.length then ⟨8, row.getD q 0, 0, 0⟩ else ⟨7, 0, 0, 0⟩) := by
                        unfold outOps; rw [List.getElem?_map, List.getElem?_range hqd']; rfl
                      have hx2 : innM g D + ((opsK ++ (outOps D row).take q).length : Int) = innM g D + opsK.length + (q : Int) := by rw [hlo]; omega
                      simp only [start, KC_normal, go_sem, Nat.reduceEqDiff, Nat.reduceAdd, reduceIte, reduceCtorEq, Nat.reduceLeDiff, Nat.reduceShiftRight, Nat.reduceAnd, Nat.reduceOr, Nat.reducePow, Nat.reduceBNe, Nat.reduceBEq, t1, t11, t12]
                      refine CN_split (fun hql => ?_) (fun hql => ?_)
                      obtain ⟨y, hy⟩ : ∃ y, row[q]? = some y := ⟨_, List.getElem?_eq_getElem (by omega)⟩
                      obtain ⟨br, orr, owr, Cr, rfl, hkr, hCr⟩ := hrA.all intC_len (by omega)
                      have hy4 := (hCr _ _ hy).1 0 (by omega)
                      simp only [intC, Nat.add_zero, List.getElem?_cons_zero] at hy4
                      have hyd : row.getD q 0 = y := by rw [List.getD_eq_getElem?_getD, hy]; rfl
                      rw [if_pos (by omega), hyd] at hget
                      simp only [start, KC_normal, go_sem, Nat.reduceEqDiff, Nat.reduceAdd, reduceIte, reduceCtorEq, Nat.reduceLeDiff, Nat.reduceShiftRight, Nat.reduceAnd, Nat.reduceOr, Nat.reducePow, Nat.reduceBNe, Nat.reduceBEq, t6, t11, t12, ia_in _ _ _ _ _ (show q < row.length by omega), hkr.get, hy4]
                      refine f30_c (n := 0) hm (by rw [hlo]; omega) (by omega) fun H5 F5 hm5 hS5 => ?_
                      rotate_left
                      rw [if_neg (by omega)] at hget
                      simp only [start, KC_normal, go_sem, Nat.reduceEqDiff, Nat.reduceAdd, reduceIte, reduceCtorEq, Nat.reduceLeDiff, Nat.reduceShiftRight, Nat.reduceAnd, Nat.reduceOr, Nat.reducePow, Nat.reduceBNe, Nat.reduceBEq, t6]
                      refine f30_c (n := 0) hm (by rw [hlo]; omega) (by omega) fun H5 F5 hm5 hS5 => ?_
                      all_goals
                        rw [List.append_assoc, ← take_next hget] at hm5
                        simp only [start, KC_normal, go_sem, Nat.reduceEqDiff, Nat.reduceAdd, reduceIte, reduceCtorEq, Nat.reduceLeDiff, Nat.reduceShiftRight, Nat.reduceAnd, Nat.reduceOr, Nat.reducePow, Nat.reduceBNe, Nat.reduceBEq, t6]
                        rw [hx2]
                        obtain ⟨vo5, vu5, a7, n7, H7, q1, q2, q3, q4, F7, hm7, hS7⟩ := hm5.appOut (by rw [List.length_append, List.length_map, List.length_range]; omega) (innM g D + opsK.length + (q : Int))
                        simp only [start, KC_normal, go_sem, Nat.reduceEqDiff, Nat.reduceAdd, reduceIte, reduceCtorEq, Nat.reduceLeDiff, Nat.reduceShiftRight, Nat.reduceAnd, Nat.reduceOr, Nat.reducePow, Nat.reduceBNe, Nat.reduceBEq, t6, t12, q1, q2, q3, q4]
                        generalize H7.put _ _ = H8 at *
                        have hS := hS5.trans hS7
                        have hF7 : ∀ j, F7 j → H2.next ≤ j := fun j hj => by
                          rcases hS.new j hj with h | h
                          · exact hF j h
                          · omega
                        have hg : ∀ b, b < H2.next → H8.get b = H3.get b := fun b hb => hS.get b (by omega) (fun h => by have := hF _ h; omega)
                        refine ⟨D + 1 - (q + 1), by omega, _, H8, F7, q + 1, rfl, rfl, by omega, hE.thenStep hS (fun j hj => by have := hF j hj; omega), ?_, hvl.step hS (fun j hj => (hbl j hj).2), hF7, fun j hj => ⟨(hbl j hj).1, hvl.out hS (fun j hj => (hbl j hj).2) j hj⟩, fun k r hk => let ⟨u, k1, k2⟩ := hrows k r hk; ⟨u, k1, k2.step hS.un⟩, by rw [hg _ (by omega)]; exact hb1, by rw [hg _ (by omega)]; exact hb2, hrA.step hS.un, ?_, ?_, ?_, ?_, ?_, ?_, ?_, ?_⟩
                        · rw [List.range_succ, List.map_append, ← List.append_assoc]; exact hm7
                        all_goals simp only [start, KC_normal, go_sem, Nat.reduceEqDiff, Nat.reduceAdd, reduceIte, reduceCtorEq, Nat.reduceLeDiff, Nat.reduceShiftRight, Nat.reduceAnd, Nat.reduceOr, Nat.reducePow, Nat.reduceBNe, Nat.reduceBEq, t1, t2, t4, t6, t7, t10, t11]
                        rw [wrap_i64 _ (by omega) (by omega)]; simp
                    · have hq' : q = D + 1 := by omega
                      subst hq'
                      rw [List.take_of_length_le (by omega)] at hm
                      simp only [start, KC_normal, go_sem, Nat.reduceEqDiff, Nat.reduceAdd, reduceIte, reduceCtorEq, Nat.reduceLeDiff, Nat.reduceShiftRight, Nat.reduceAnd, Nat.reduceOr, Nat.reducePow, Nat.reduceBNe, Nat.reduceBEq, t10]
                      have hkk : (k + 1) * (D + 1) = k * (D + 1) + (D + 1) := Nat.succ_mul _ _
                      refine ⟨g.outs.length - (k + 1), by omega, _, H3, F3, k + 1, rfl, rfl, by omega, hE, by rw [hnx]; exact hm, hvl, hF, hbl, hrows, hb1, hb2, ?_, ?_, ?_, ?_, ?_, ?_, ?_, ?_⟩
                      · rw [hnx]; simp only [List.length_append, hlq]; omega
                      · rw [hnx]; simp only [List.length_append, List.length_map, List.length_range]; omega
                      all_goals simp only [start, KC_normal, go_sem, Nat.reduceEqDiff, Nat.reduceAdd, reduceIte, reduceCtorEq, Nat.reduceLeDiff, Nat.reduceShiftRight, Nat.reduceAnd, Nat.reduceOr, Nat.reducePow, Nat.reduceBNe, Nat.reduceBEq, t1, t2, t4, t6, t7]
                      rw [wrap_i64 _ (by omega) (by omega)]; simp
                · have hk' : k = g.outs.length := by omega
                  subst hk'
                  rw [List.take_length] at hm hol hul hople
                  have hopl : ¬ (60000 : Int) < ((runO D (innM g D) rowsG opsG g.outs).1.length : Int) := by omega
                  clear hmb hmo hmu
                  obtain ⟨vo', vu', bo', bu', hmb', -, hmo', hmu', hmF'⟩ := hm.ex
                  obtain ⟨ao', hao'⟩ := hmo'.len
                  obtain ⟨au', hau'⟩ := hmu'.len
                  subst hao' hau'
                  simp only [start, KC_normal, go_sem, Nat.reduceEqDiff, Nat.reduceAdd, reduceIte, reduceCtorEq, Nat.reduceLeDiff, Nat.reduceShiftRight, Nat.reduceAnd, Nat.reduceOr, Nat.reducePow, Nat.reduceBNe, Nat.reduceBEq, hlt, t4, t6, hmb', hopl, hb2]
                  rw [hcode] at hQ
                  have ho9 := hmo'.put (j := H.next + 1) (fun j hj => by have := hF j ((hmF' j).2 (.inr (.inl hj))); omega) (.cells true 3 [.int .i64 (innM g D), .slice ao' (runO D (innM g D) rowsG opsG g.outs).1.length (runO D (innM g D) rowsG opsG g.outs).1.length, .slice au' (runO D (innM g D) rowsG opsG g.outs).2.length (runO D (innM g D) rowsG opsG g.outs).2.length])
                  have hu9 := hmu'.put (j := H.next + 1) (fun j hj => by have := hF j ((hmF' j).2 (.inr (.inr hj))); omega) (.cells true 3 [.int .i64 (innM g D), .slice ao' (runO D (innM g D) rowsG opsG g.outs).1.length (runO D (innM g D) rowsG opsG g.outs).1.length, .slice au' (runO D (innM g D) rowsG opsG g.outs).2.length (runO D (innM g D) rowsG opsG g.outs).2.length])
                  exact hQ _ _ (hE.put (show H.next ≤ H.next + 1 by omega) _) fun G hB => ⟨_, _, rfl, ho9.sl (fun j hj hg => by have := hB.lt j hg; have := hF j ((hmF' j).2 (.inr (.inl hj))); omega), hu9.sl (fun j hj hg => by have := hB.lt j hg; have := hF j ((hmF' j).2 (.inr (.inr hj))); omega)⟩
end Go.Ab.Ex
