/- Wire: a gate's wires, by the program: two that are secret. PRINTED BY wip/tools/gen36.py. -/
import Derived.Test.YtmodeilippcbnaaR16
set_option linter.all false
namespace Go.Ab.Ex
open Go.Proofs
set_option maxRecDepth 10000
set_option maxHeartbeats 2000000

section
variable {F : Fr} {H : Heap} {bm : Nat} {inn : Int} {ops : List OpM} {outs : List Int} {d : Nat} {g : CircM} {rows : List (List Int)} {vg vn va1 va2 vf1 vf2 : Value} {first nx : Int} {Q : Ret → Heap → Prop}


theorem f64_xx (h : PGate F H bm inn ops outs d g rows vg vn va1 va2 vf1 vf2 first nx) {A B : Int} {N : BitVec 32} {S : Bool} (hA : 0 ≤ A ∧ A < rows.length) (hB : 0 ≤ B ∧ B < rows.length) (hrg : rows.length ≤ g.gates.length) (sA : g.sec A = true) (sB : g.sec B = true) (hrl : (rowOf rows A).length ≤ 7) (hrq : (rowOf rows B).length = (rowOf rows A).length) (hQ : PGateQ F H bm inn ops outs d g rows vn va1 va2 vf1 vf2 first ⟨4, A, B, N, S⟩ Q) :
    C 64 #[.pointer (some ⟨bm, 0, none⟩), vg, GateM.v ⟨4, A, B, N, S⟩] H Q := by
  obtain ⟨v1, v2, rfl, hg1, hg2⟩ := h.c.ex
  obtain ⟨ag, cg, rfl, -, -, hgA⟩ := hg1.ex
  obtain ⟨au, cu, rfl, -, -, huA⟩ := hg2.ex
  obtain ⟨bl, ol, owl, Cl, cl, rfl, hkl, hCl⟩ := h.r.all (by omega)
  obtain ⟨bg, og, owg, Cg, rfl, hkg, hCg⟩ := hgA.all GateM.len (by omega)
  obtain ⟨a2, c2, hlA, hsA⟩ := hCl A hA.1 hA.2
  obtain ⟨a3, c3, hlB, hsB⟩ := hCl B hB.1 hB.2
  obtain ⟨gA, hgA', hsecA⟩ := sec_get (g := g) hA.1 (by omega)
  obtain ⟨gB, hgB', hsecB⟩ := sec_get (g := g) hB.1 (by omega)
  have hgS := (hCg _ _ hgA').1 4 (by omega)
  have hgS' := (hCg _ _ hgB').1 4 (by omega)
  simp only [GateM.c, List.getElem?_cons_succ, List.getElem?_cons_zero] at hgS hgS'
  rw [← hsecA] at hgS
  rw [← hsecB] at hgS'
  have hl0 := h.l
  have hd0 := h.dd
  refine SemC_fn TT.ok fn64 rfl rfl ?_
  simp only [Try.f64, GateM.v, start, KC_normal, go_sem, Nat.reduceEqDiff, Nat.reduceAdd, reduceIte, reduceCtorEq, Nat.reduceLeDiff, Nat.reduceShiftRight, Nat.reduceAnd, Nat.reduceOr, Nat.reducePow, Nat.reduceBNe, Nat.reduceBEq]
  generalize hX : (H.push _).push _ = H1
  obtain ⟨hE1, h4, h5, hn1⟩ := pre2 hX
  clear hX
  obtain ⟨mo, mu, hg⟩ := (h.m.ext hE1).get
  simp only [start, KC_normal, go_sem, Nat.reduceEqDiff, Nat.reduceAdd, reduceIte, reduceCtorEq, Nat.reduceLeDiff, Nat.reduceShiftRight, Nat.reduceAnd, Nat.reduceOr, Nat.reducePow, Nat.reduceBNe, Nat.reduceBEq, h5, Int.reduceEq]
  refine DRg_x TT.ok [0, 1, 3, 7, 0, 16, 63, 127, 0, 256, 768, 1792, 0, 4096, 16128, 32512, 255, 131071] 18 262143 233 rfl (by decide +kernel) ?_
  simp only [start, go_sem, Nat.reduceEqDiff, Nat.reduceAdd, reduceIte, reduceCtorEq, Nat.reduceLeDiff, Nat.reduceShiftRight, Nat.reduceAnd, Nat.reduceOr, Nat.reducePow, Nat.reduceBNe, Nat.reduceBEq, h5, hg, ia_int _ _ _ _ _ hA.1 hA.2, ia_int _ _ _ _ _ hB.1 hB.2, (hkl.step hE1.step).get, hlA, hlB]
  have hE2 : Ext H1 (H1.skip 18) := (Ext.refl H1).skip 18
  have h4 := (hE2.get _ (by omega)).trans h4
  have h5 := (hE2.get _ (by omega)).trans h5
  have hE12 := hE1.trans hE2
  clear hg
  generalize H1.skip 18 = H2 at *
  have hm2 := h.m.ext hE12
  obtain ⟨mo, mu, hg⟩ := hm2.get
  have hle := hE12.le
  have hkg2 := (hkg.step hE12.step).get
  have ha2 := hsA.step (hE12.step (F := F))
  have hb2 := hsB.step (hE12.step (F := F))
  obtain ⟨x2, y2, e2, hcap2, hlen2, hA2⟩ := ha2.ex
  cases e2
  obtain ⟨x3, y3, e3, hcap3, hlen3, hB2⟩ := hb2.ex
  cases e3
  have hX9 : Ext H H2 := hE12
  clear hE1 hE2 hkl hlA hlB hkg hCg hCl hgA hg1 hg2 huA
  generalize hTm : Tr.set _ _ _ _ = tm0
  obtain ⟨t0, t4, t5, t7, t11, t12⟩ : tm0.get 0 = some (.pointer (some ⟨bm, 0, none⟩)) ∧ tm0.get 4 = some (.pointer (some ⟨H.next, 0, none⟩)) ∧ tm0.get 5 = some (.pointer (some ⟨H.next + 1, 0, none⟩)) ∧ tm0.get 7 = some (.bool true) ∧ tm0.get 11 = some (.slice a2 (rowOf rows A).length c2) ∧ tm0.get 12 = some (.slice a3 (rowOf rows B).length c3) := by
    subst hTm
    refine ⟨?_, ?_, ?_, ?_, ?_, ?_⟩ <;> simp only [start, KC_normal, go_sem, Nat.reduceEqDiff, Nat.reduceAdd, reduceIte, reduceCtorEq, Nat.reduceLeDiff, Nat.reduceShiftRight, Nat.reduceAnd, Nat.reduceOr, Nat.reducePow, Nat.reduceBNe, Nat.reduceBEq]
  clear hTm
  rw [sA] at hgS
  rw [sB] at hgS'
  simp only [start, KC_normal, go_sem, Nat.reduceEqDiff, Nat.reduceAdd, reduceIte, reduceCtorEq, Nat.reduceLeDiff, Nat.reduceShiftRight, Nat.reduceAnd, Nat.reduceOr, Nat.reducePow, Nat.reduceBNe, Nat.reduceBEq, t0, t4, t5, t7, t11, t12, h4, h5, hg, hkg2, hgS, hgS', ia_int _ _ _ _ _ hA.1 (show A < (g.gates.length : Int) by omega), ia_int _ _ _ _ _ hB.1 (show B < (g.gates.length : Int) by omega), Int.reduceEq]
  have e : gateM g d rows (inn + ops.length) ⟨4, A, B, N, S⟩ = (elOps false (stepOf 4) 0 (rowOf rows A) (fun i => (rowOf rows B).getD i 0), elRow false (rowOf rows A) (inn + ops.length)) := by
    simp [gateM, twoM, sA, sB]
  unfold PGateQ at hQ
  rw [e] at hQ
  simp only at hQ
  have hi0 := h.i
  clear e hgS hgS' h4 h5 hg t4 t5 hsA hsB ha2 hb2
  generalize hn : inn + (ops.length : Int) = n at *
  generalize hEd : elOps false (stepOf 4) 0 (rowOf rows A) (fun i => (rowOf rows B).getD i 0) = E at *
  generalize hRd : elRow false (rowOf rows A) n = R0 at *
  generalize hap : rowOf rows A = a at *
  generalize haq : rowOf rows B = q at *
  have hElen : E.length = a.length := by rw [← hEd, elOps_len]; rfl
  have hRlen : R0.length = a.length := by rw [← hRd, elRow_len]
  clear hap haq h
  refine wp_loop TT.ok rfl rfl (fun j s => ∃ tm H' F' b v i, s = ⟨tm, 233, [], false, H'⟩ ∧ j = a.length - i ∧ i ≤ a.length ∧ Step F H F' H' ∧ PmR F' H' bm inn (ops ++ E.take i) outs (rest d (.slice (some ⟨bl, ol, none⟩) rows.length cl) va1 va2 vf1 vf2 first nx) ∧ SlA (F'.un b) H' 1 a.length c2 (a.flatMap intC) a2 ∧ SlA (F'.un b) H' 1 q.length c3 (q.flatMap intC) a3 ∧
    Own1 H' 1 ((R0.take i).flatMap intC) v (R0.take i).length b ∧ (∀ j, b = some j → H.next ≤ j ∧ ¬ F' j) ∧
    tm.get 0 = some (.pointer (some ⟨bm, 0, none⟩)) ∧ tm.get 11 = some (.slice a2 a.length c2) ∧ tm.get 12 = some (.slice a3 q.length c3) ∧ tm.get 14 = some v ∧ tm.get 158 = some (.int .i64 (a.length : Nat)) ∧ tm.get 159 = some (.int .i64 (i : Nat))) a.length ?_ ?_
  · refine ⟨_, H2, F, none, .slice none 0 0, 0, rfl, rfl, Nat.zero_le _, hE12.step, by simpa using hm2, hA2.un (fun j hj => by cases hj), hB2.un (fun j hj => by cases hj), .nil rfl, fun j hj => (by cases hj), ?_, ?_, ?_, ?_, ?_, ?_⟩
    all_goals simp only [start, KC_normal, go_sem, Nat.reduceEqDiff, Nat.reduceAdd, reduceIte, reduceCtorEq, Nat.reduceLeDiff, Nat.reduceShiftRight, Nat.reduceAnd, Nat.reduceOr, Nat.reducePow, Nat.reduceBNe, Nat.reduceBEq, t0, t11, t12]
    rfl
  · clear hA2 hB2 hm2 t0 t7 t11 t12
    rintro j s - ⟨tm, H', F', b, v, i, rfl, hj, hi', hS, hm', hA', hB', ho, hb, t0, t11, t12, t14, t158, t159⟩
    simp only [start, KC_normal, go_sem, Nat.reduceEqDiff, Nat.reduceAdd, reduceIte, reduceCtorEq, Nat.reduceLeDiff, Nat.reduceShiftRight, Nat.reduceAnd, Nat.reduceOr, Nat.reducePow, Nat.reduceBNe, Nat.reduceBEq, t158, t159]
    have hleS := hS.le
    refine CN_split (fun hlt => ?_) (fun hge => ?_)
    · have hlt' : i < a.length := by omega
      obtain ⟨y, hy⟩ : ∃ y, a[i]? = some y := ⟨_, List.getElem?_eq_getElem hlt'⟩
      obtain ⟨z, hz⟩ : ∃ z, q[i]? = some z := ⟨_, List.getElem?_eq_getElem (by omega)⟩
      have hzd : q.getD i 0 = z := by rw [List.getD_eq_getElem?_getD, hz]; rfl
      obtain ⟨bk, o, own, Cb, rfl, hkb, hC⟩ := hA'.all intC_len (by omega)
      obtain ⟨bq, oq, ownq, Cq, rfl, hkq, hCq⟩ := hB'.all intC_len (by omega)
      have hy4 := (hC _ _ hy).1 0 (by omega)
      have hz4 := (hCq _ _ hz).1 0 (by omega)
      simp only [intC, Nat.add_zero, List.getElem?_cons_zero] at hy4 hz4
      have hnx := el_next (kp := false) (k := stepOf 4) (n := n) (N := 0) (bs := fun i => q.getD i 0) hy rfl
      rw [hEd, hRd, hzd] at hnx
      simp only [start, KC_normal, go_sem, Nat.reduceEqDiff, Nat.reduceAdd, reduceIte, reduceCtorEq, Nat.reduceLeDiff, Nat.reduceShiftRight, Nat.reduceAnd, Nat.reduceOr, Nat.reducePow, Nat.reduceBNe, Nat.reduceBEq, t159]
      refine DRg_x TT.ok [0, 0, 0, 0, 12, 28, 0, 0, 192, 448, 1020, 2046, 4094, 8191, 16383] 15 32767 233 rfl (by decide +kernel) ?_
      simp only [start, KC_normal, go_sem, Nat.reduceEqDiff, Nat.reduceAdd, reduceIte, reduceCtorEq, Nat.reduceLeDiff, Nat.reduceShiftRight, Nat.reduceAnd, Nat.reduceOr, Nat.reducePow, Nat.reduceBNe, Nat.reduceBEq, t0, t11, t12, t14, t159, ia_in _ _ _ _ _ hlt', ia_in _ _ _ _ _ (show i < q.length by omega), hkb.get, hkq.get, hy4, hz4]
      generalize hX : (H'.skip 15).put _ _ = H1
      obtain ⟨hE1, h6, hn1⟩ := skip_put hX (by omega)
      clear hX
      refine f66_c (n := 0) (tk := [y, z]) (hm'.ext hE1) (by rw [List.length_append, hnx.2.2]; omega) hi0 (by simp) ((Own1.blk _ 2 (by omega) h6 rfl).sl (F := F') (fun j hj hf => by cases hj; have := hm'.bd.lt _ hf; omega)) fun H4 F4 hm4 hS4 => ?_
      have hop : addM 2 0 [y, z] = ⟨stepOf 4, y, z, 0⟩ := by simp [addM, stepOf]
      rw [hop, List.append_assoc, ← hnx.1] at hm4
      have hx : inn + ((ops ++ List.take i E).length : Int) = n + i := by rw [List.length_append, hnx.2.2]; omega
      have hS14 := hE1.step.trans hS4
      have hle4 := hS4.le
      have hg4 : ∀ j, j < H'.next → ¬ F' j → H4.get j = H'.get j := hS14.get
      simp only [start, KC_normal, go_sem, Nat.reduceEqDiff, Nat.reduceAdd, reduceIte, reduceCtorEq, Nat.reduceLeDiff, Nat.reduceShiftRight, Nat.reduceAnd, Nat.reduceOr, Nat.reducePow, Nat.reduceBNe, Nat.reduceBEq, t14]
      rw [hx]
      have hF4 : ∀ j, F4 j → j < H'.next ∨ H'.next + 15 ≤ j := fun j hj => by
        rcases hS4.new j hj with h | h
        · exact .inl (hm'.bd.lt j h)
        · exact .inr (by omega)
      generalize hY : H4.put _ _ = H5
      have hE45 : H5.next = H4.next := by subst hY; rfl
      have h75 : H5.get (H'.next + 12) = .cells true 1 [.int .i64 (n + i)] := by subst hY; exact H_put_same _ _ _
      have hg5 : ∀ j, j ≠ H'.next + 12 → H5.get j = H4.get j := fun j hj => by subst hY; exact H_put_other _ _ _ _ hj
      clear hY
      have hm5 := hm4.keep (H' := H5) (by omega) (fun j hj => hg5 j (by have := hF4 j hj; omega))
      have hS15 : Step F' H' F4 H5 := ⟨by have := hS14.le; omega, fun j hj hn => by rw [hg5 j (by omega)]; exact hS14.get j hj hn, hS14.new⟩
      have ho5 := ho.step hS15 fun j hj => (hb j hj).2
      have hb5 := ho.out hS15 fun j hj => (hb j hj).2
      obtain ⟨v7, H7, b7, he, hw7, hS7, hb7⟩ := appN_int (m := [n + i]) ho5 ((Own1.blk (H := H5) (sz := 1) (c := [.int .i64 (n + i)]) (H'.next + 12) 1 (by omega) h75 rfl).sl (F := noF) fun _ _ h => h) (by simp only [List.length_take, List.length_cons, List.length_nil]; omega)
      simp only [he, start, KC_normal, go_sem, Nat.reduceEqDiff, Nat.reduceAdd, reduceIte, reduceCtorEq, Nat.reduceLeDiff, Nat.reduceShiftRight, Nat.reduceAnd, Nat.reduceOr, Nat.reducePow, Nat.reduceBNe, Nat.reduceBEq, t159]
      have hb7' : ∀ j, b7 = some j → H.next ≤ j ∧ ¬ F4 j := fun j hj => by
        rcases hb7 j hj with e | e
        · exact ⟨(hb j e).1, hb5 j e⟩
        · exact ⟨by omega, fun hf => by have := hm5.bd.lt j hf; omega⟩
      refine ⟨a.length - (i + 1), by omega, _, H7, F4, b7, v7, i + 1, rfl, rfl, by omega, (hS.trans hS15).app hS7 (fun j hj => (hb j hj).1), hm5.app hS7 hb5, (hA'.step hS15.un).step (hS7 F4), (hB'.step hS15.un).step (hS7 F4), ?_, hb7', ?_, ?_, ?_, ?_, ?_, ?_⟩
      · rw [hnx.2.1]; exact hw7
      all_goals simp only [start, KC_normal, go_sem, Nat.reduceEqDiff, Nat.reduceAdd, reduceIte, reduceCtorEq, Nat.reduceLeDiff, Nat.reduceShiftRight, Nat.reduceAnd, Nat.reduceOr, Nat.reducePow, Nat.reduceBNe, Nat.reduceBEq, t0, t11, t12, t158]
      rw [wrap_i64 _ (by omega) (by omega)]; simp
    · have hi'' : i = a.length := by omega
      subst hi''
      rw [List.take_of_length_le (by omega)] at hm'
      rw [List.take_of_length_le (by omega)] at ho
      simp only [start, KC_normal, go_sem, Nat.reduceEqDiff, Nat.reduceAdd, reduceIte, reduceCtorEq, Nat.reduceLeDiff, Nat.reduceShiftRight, Nat.reduceAnd, Nat.reduceOr, Nat.reducePow, Nat.reduceBNe, Nat.reduceBEq, t14]
      exact hQ H' F' v b _ hm' hS ho hb
end
end Go.Ab.Ex
