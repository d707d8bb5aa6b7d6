/- Wire: a gate's wires, by the program: two, not both secret. PRINTED BY wip/tools/gen36.py. -/
import Derived.Test.YtmodeilippcbnaaR16
set_option linter.all false
namespace Go.Ab.Ex
open Go.Proofs
set_option maxRecDepth 10000
set_option maxHeartbeats 2000000

section
variable {F : Fr} {H : Heap} {bm : Nat} {inn : Int} {ops : List OpM} {outs : List Int} {d : Nat} {g : CircM} {rows : List (List Int)} {vg vn va1 va2 vf1 vf2 : Value} {first nx : Int} {Q : Ret → Heap → Prop}


theorem f64_3ff (h : PGate F H bm inn ops outs d g rows vg vn va1 va2 vf1 vf2 first nx) {A B : Int} {N : BitVec 32} {S : Bool} (hA : 0 ≤ A ∧ A < rows.length) (hB : 0 ≤ B ∧ B < rows.length) (hrg : rows.length ≤ g.gates.length) (sA : g.sec A = false) (sB : g.sec B = false) (hS : S = false) (hrl : (rowOf rows A).length ≤ 7) (hrq : 0 < (rowOf rows B).length) (hQ : PGateQ F H bm inn ops outs d g rows vn va1 va2 vf1 vf2 first ⟨3, A, B, N, S⟩ Q) :
    C 64 #[.pointer (some ⟨bm, 0, none⟩), vg, GateM.v ⟨3, A, B, N, S⟩] H Q := by
  obtain ⟨v1, v2, rfl, hg1, hg2⟩ := h.c.ex
  obtain ⟨ag, cg, rfl, -, -, hgA⟩ := hg1.ex
  obtain ⟨au, cu, rfl, -, -, huA⟩ := hg2.ex
  obtain ⟨bl, ol, owl, Cl, cl, rfl, hkl, hCl⟩ := h.r.all (by omega)
  obtain ⟨bg, og, owg, Cg, rfl, hkg, hCg⟩ := hgA.all GateM.len (by omega)
  obtain ⟨a2, c2, hlA, hsA⟩ := hCl A hA.1 hA.2
  obtain ⟨a3, c3, hlB, hsB⟩ := hCl B hB.1 hB.2
  obtain ⟨gA, hgA', hsecA⟩ := sec_get (g := g) hA.1 (by omega)
  obtain ⟨gB, hgB', hsecB⟩ := sec_get (g := g) hB.1 (by omega)
  have hgS := (hCg _ _ hgA').1 4 (by omega)
  have hgS' := (hCg _ _ hgB').1 4 (by omega)
  simp only [GateM.c, List.getElem?_cons_succ, List.getElem?_cons_zero] at hgS hgS'
  rw [← hsecA] at hgS
  rw [← hsecB] at hgS'
  have hl0 := h.l
  have hd0 := h.dd
  refine SemC_fn TT.ok fn64 rfl rfl ?_
  simp only [Try.f64, GateM.v, start, KC_normal, go_sem, Nat.reduceEqDiff, Nat.reduceAdd, reduceIte, reduceCtorEq, Nat.reduceLeDiff, Nat.reduceShiftRight, Nat.reduceAnd, Nat.reduceOr, Nat.reducePow, Nat.reduceBNe, Nat.reduceBEq]
  generalize hX : (H.push _).push _ = H1
  obtain ⟨hE1, h4, h5, hn1⟩ := pre2 hX
  clear hX
  obtain ⟨mo, mu, hg⟩ := (h.m.ext hE1).get
  simp only [start, KC_normal, go_sem, Nat.reduceEqDiff, Nat.reduceAdd, reduceIte, reduceCtorEq, Nat.reduceLeDiff, Nat.reduceShiftRight, Nat.reduceAnd, Nat.reduceOr, Nat.reducePow, Nat.reduceBNe, Nat.reduceBEq, h5, Int.reduceEq]
  refine DRg_x TT.ok [0, 1, 3, 7, 0, 16, 63, 127, 0, 256, 768, 1792, 0, 4096, 16128, 32512, 255, 131071] 18 262143 233 rfl (by decide +kernel) ?_
  simp only [start, go_sem, Nat.reduceEqDiff, Nat.reduceAdd, reduceIte, reduceCtorEq, Nat.reduceLeDiff, Nat.reduceShiftRight, Nat.reduceAnd, Nat.reduceOr, Nat.reducePow, Nat.reduceBNe, Nat.reduceBEq, h5, hg, ia_int _ _ _ _ _ hA.1 hA.2, ia_int _ _ _ _ _ hB.1 hB.2, (hkl.step hE1.step).get, hlA, hlB]
  have hE2 : Ext H1 (H1.skip 18) := (Ext.refl H1).skip 18
  have h4 := (hE2.get _ (by omega)).trans h4
  have h5 := (hE2.get _ (by omega)).trans h5
  have hE12 := hE1.trans hE2
  clear hg
  generalize H1.skip 18 = H2 at *
  have hm2 := h.m.ext hE12
  obtain ⟨mo, mu, hg⟩ := hm2.get
  have hle := hE12.le
  have hkg2 := (hkg.step hE12.step).get
  have ha2 := hsA.step (hE12.step (F := F))
  have hb2 := hsB.step (hE12.step (F := F))
  obtain ⟨x2, y2, e2, hcap2, hlen2, hA2⟩ := ha2.ex
  cases e2
  obtain ⟨x3, y3, e3, hcap3, hlen3, hB2⟩ := hb2.ex
  cases e3
  have hX9 : Ext H H2 := hE12
  clear hE1 hE2 hkl hlA hlB hkg hCg hCl hgA hg1 hg2 huA
  generalize hTm : Tr.set _ _ _ _ = tm0
  obtain ⟨t0, t4, t5, t7, t11, t12⟩ : tm0.get 0 = some (.pointer (some ⟨bm, 0, none⟩)) ∧ tm0.get 4 = some (.pointer (some ⟨H.next, 0, none⟩)) ∧ tm0.get 5 = some (.pointer (some ⟨H.next + 1, 0, none⟩)) ∧ tm0.get 7 = some (.bool true) ∧ tm0.get 11 = some (.slice a2 (rowOf rows A).length c2) ∧ tm0.get 12 = some (.slice a3 (rowOf rows B).length c3) := by
    subst hTm
    refine ⟨?_, ?_, ?_, ?_, ?_, ?_⟩ <;> simp only [start, KC_normal, go_sem, Nat.reduceEqDiff, Nat.reduceAdd, reduceIte, reduceCtorEq, Nat.reduceLeDiff, Nat.reduceShiftRight, Nat.reduceAnd, Nat.reduceOr, Nat.reducePow, Nat.reduceBNe, Nat.reduceBEq]
  clear hTm
  rw [sA] at hgS
  rw [sB] at hgS'
  simp only [start, KC_normal, go_sem, Nat.reduceEqDiff, Nat.reduceAdd, reduceIte, reduceCtorEq, Nat.reduceLeDiff, Nat.reduceShiftRight, Nat.reduceAnd, Nat.reduceOr, Nat.reducePow, Nat.reduceBNe, Nat.reduceBEq, t0, t4, t5, t7, t11, t12, h4, h5, hg, hkg2, hgS, hgS', ia_int _ _ _ _ _ hA.1 (show A < (g.gates.length : Int) by omega), ia_int _ _ _ _ _ hB.1 (show B < (g.gates.length : Int) by omega), Int.reduceEq, hS]
  obtain ⟨z, hz⟩ : ∃ z, (rowOf rows B)[0]? = some z := ⟨_, List.getElem?_eq_getElem hrq⟩
  obtain ⟨bQ, oQ, owQ, CQ, rfl, hkQ, hCQ⟩ := hB2.all intC_len (by omega)
  have hz4 : CQ[oQ + 0 * 1]? = some (.int .i64 z) := (hCQ _ z hz).1 0 (by omega)
  have hzd : (rowOf rows B).getD 0 0 = z := by rw [List.getD_eq_getElem?_getD, hz]; rfl
  refine DRg_x TT.ok [0, 0, 2, 6, 0, 0, 32, 96, 224, 511, 1023] 11 2047 233 rfl (by decide +kernel) ?_
  simp only [start, KC_normal, go_sem, Nat.reduceEqDiff, Nat.reduceAdd, reduceIte, reduceCtorEq, Nat.reduceLeDiff, Nat.reduceShiftRight, Nat.reduceAnd, Nat.reduceOr, Nat.reducePow, Nat.reduceBNe, Nat.reduceBEq, t0, t4, t5, t11, t12, h5]
  refine f77_c fun r hr => ?_
  subst hr
  simp only [start, KC_normal, go_sem, Nat.reduceEqDiff, Nat.reduceAdd, reduceIte, reduceCtorEq, Nat.reduceLeDiff, Nat.reduceShiftRight, Nat.reduceAnd, Nat.reduceOr, Nat.reducePow, Nat.reduceBNe, Nat.reduceBEq, t0, t4, t5, t11, t12, h5, ia_in _ _ _ _ 0 (show 0 < (rowOf rows B).length by omega), ia_zero _ _ _ _ (show 0 < (rowOf rows B).length by omega), hkQ.get, hz4]
  generalize hY : (H2.skip 11).put _ _ = H3
  obtain ⟨hE3, h6, hn3⟩ := skip_put hY (by omega)
  clear hY
  have hE12 := hE12.trans hE3
  refine f65_c (N := 0) (other := [z]) (hm2.ext hE3) (by omega) h.i (by omega) (by simp) (ha2.step hE3.step) ((Own1.blk _ 1 (by omega) h6 rfl).sl (F := F) (fun j hj hf => by cases hj; have := hm2.bd.lt _ hf; omega)) fun H3 F3 v b hm3 hS3 ho3 hb3 => ?_
  simp only [start, KC_normal, go_sem, Nat.reduceEqDiff, Nat.reduceAdd, reduceIte, reduceCtorEq, Nat.reduceLeDiff, Nat.reduceShiftRight, Nat.reduceAnd, Nat.reduceOr, Nat.reducePow, Nat.reduceBNe, Nat.reduceBEq]
  have e : gateM g d rows (inn + ops.length) ⟨3, A, B, N, S⟩ = (elOps false (stepOf 3) 0 (rowOf rows A) (fun _ => z), elRow false (rowOf rows A) (inn + ops.length)) := by
    simp [gateM, twoM, sA, sB]; rw [← hzd]; simp
  have hle9 := hE12.le
  have hle3 := hS3.le
  exact hQ H3 F3 v b _ (by rw [e]; exact hm3) (hE12.step.trans hS3) (by rw [e]; exact ho3) fun j hj => ⟨by have := (hb3 j hj).1; omega, (hb3 j hj).2⟩

theorem f64_3tf (h : PGate F H bm inn ops outs d g rows vg vn va1 va2 vf1 vf2 first nx) {A B : Int} {N : BitVec 32} {S : Bool} (hA : 0 ≤ A ∧ A < rows.length) (hB : 0 ≤ B ∧ B < rows.length) (hrg : rows.length ≤ g.gates.length) (sA : g.sec A = true) (sB : g.sec B = false) (hS : S = true) (hrl : (rowOf rows A).length ≤ 7) (hrq : 0 < (rowOf rows B).length) (hQ : PGateQ F H bm inn ops outs d g rows vn va1 va2 vf1 vf2 first ⟨3, A, B, N, S⟩ Q) :
    C 64 #[.pointer (some ⟨bm, 0, none⟩), vg, GateM.v ⟨3, A, B, N, S⟩] H Q := by
  obtain ⟨v1, v2, rfl, hg1, hg2⟩ := h.c.ex
  obtain ⟨ag, cg, rfl, -, -, hgA⟩ := hg1.ex
  obtain ⟨au, cu, rfl, -, -, huA⟩ := hg2.ex
  obtain ⟨bl, ol, owl, Cl, cl, rfl, hkl, hCl⟩ := h.r.all (by omega)
  obtain ⟨bg, og, owg, Cg, rfl, hkg, hCg⟩ := hgA.all GateM.len (by omega)
  obtain ⟨a2, c2, hlA, hsA⟩ := hCl A hA.1 hA.2
  obtain ⟨a3, c3, hlB, hsB⟩ := hCl B hB.1 hB.2
  obtain ⟨gA, hgA', hsecA⟩ := sec_get (g := g) hA.1 (by omega)
  obtain ⟨gB, hgB', hsecB⟩ := sec_get (g := g) hB.1 (by omega)
  have hgS := (hCg _ _ hgA').1 4 (by omega)
  have hgS' := (hCg _ _ hgB').1 4 (by omega)
  simp only [GateM.c, List.getElem?_cons_succ, List.getElem?_cons_zero] at hgS hgS'
  rw [← hsecA] at hgS
  rw [← hsecB] at hgS'
  have hl0 := h.l
  have hd0 := h.dd
  refine SemC_fn TT.ok fn64 rfl rfl ?_
  simp only [Try.f64, GateM.v, start, KC_normal, go_sem, Nat.reduceEqDiff, Nat.reduceAdd, reduceIte, reduceCtorEq, Nat.reduceLeDiff, Nat.reduceShiftRight, Nat.reduceAnd, Nat.reduceOr, Nat.reducePow, Nat.reduceBNe, Nat.reduceBEq]
  generalize hX : (H.push _).push _ = H1
  obtain ⟨hE1, h4, h5, hn1⟩ := pre2 hX
  clear hX
  obtain ⟨mo, mu, hg⟩ := (h.m.ext hE1).get
  simp only [start, KC_normal, go_sem, Nat.reduceEqDiff, Nat.reduceAdd, reduceIte, reduceCtorEq, Nat.reduceLeDiff, Nat.reduceShiftRight, Nat.reduceAnd, Nat.reduceOr, Nat.reducePow, Nat.reduceBNe, Nat.reduceBEq, h5, Int.reduceEq]
  refine DRg_x TT.ok [0, 1, 3, 7, 0, 16, 63, 127, 0, 256, 768, 1792, 0, 4096, 16128, 32512, 255, 131071] 18 262143 233 rfl (by decide +kernel) ?_
  simp only [start, go_sem, Nat.reduceEqDiff, Nat.reduceAdd, reduceIte, reduceCtorEq, Nat.reduceLeDiff, Nat.reduceShiftRight, Nat.reduceAnd, Nat.reduceOr, Nat.reducePow, Nat.reduceBNe, Nat.reduceBEq, h5, hg, ia_int _ _ _ _ _ hA.1 hA.2, ia_int _ _ _ _ _ hB.1 hB.2, (hkl.step hE1.step).get, hlA, hlB]
  have hE2 : Ext H1 (H1.skip 18) := (Ext.refl H1).skip 18
  have h4 := (hE2.get _ (by omega)).trans h4
  have h5 := (hE2.get _ (by omega)).trans h5
  have hE12 := hE1.trans hE2
  clear hg
  generalize H1.skip 18 = H2 at *
  have hm2 := h.m.ext hE12
  obtain ⟨mo, mu, hg⟩ := hm2.get
  have hle := hE12.le
  have hkg2 := (hkg.step hE12.step).get
  have ha2 := hsA.step (hE12.step (F := F))
  have hb2 := hsB.step (hE12.step (F := F))
  obtain ⟨x2, y2, e2, hcap2, hlen2, hA2⟩ := ha2.ex
  cases e2
  obtain ⟨x3, y3, e3, hcap3, hlen3, hB2⟩ := hb2.ex
  cases e3
  have hX9 : Ext H H2 := hE12
  clear hE1 hE2 hkl hlA hlB hkg hCg hCl hgA hg1 hg2 huA
  generalize hTm : Tr.set _ _ _ _ = tm0
  obtain ⟨t0, t4, t5, t7, t11, t12⟩ : tm0.get 0 = some (.pointer (some ⟨bm, 0, none⟩)) ∧ tm0.get 4 = some (.pointer (some ⟨H.next, 0, none⟩)) ∧ tm0.get 5 = some (.pointer (some ⟨H.next + 1, 0, none⟩)) ∧ tm0.get 7 = some (.bool true) ∧ tm0.get 11 = some (.slice a2 (rowOf rows A).length c2) ∧ tm0.get 12 = some (.slice a3 (rowOf rows B).length c3) := by
    subst hTm
    refine ⟨?_, ?_, ?_, ?_, ?_, ?_⟩ <;> simp only [start, KC_normal, go_sem, Nat.reduceEqDiff, Nat.reduceAdd, reduceIte, reduceCtorEq, Nat.reduceLeDiff, Nat.reduceShiftRight, Nat.reduceAnd, Nat.reduceOr, Nat.reducePow, Nat.reduceBNe, Nat.reduceBEq]
  clear hTm
  rw [sA] at hgS
  rw [sB] at hgS'
  simp only [start, KC_normal, go_sem, Nat.reduceEqDiff, Nat.reduceAdd, reduceIte, reduceCtorEq, Nat.reduceLeDiff, Nat.reduceShiftRight, Nat.reduceAnd, Nat.reduceOr, Nat.reducePow, Nat.reduceBNe, Nat.reduceBEq, t0, t4, t5, t7, t11, t12, h4, h5, hg, hkg2, hgS, hgS', ia_int _ _ _ _ _ hA.1 (show A < (g.gates.length : Int) by omega), ia_int _ _ _ _ _ hB.1 (show B < (g.gates.length : Int) by omega), Int.reduceEq, hS]
  obtain ⟨z, hz⟩ : ∃ z, (rowOf rows B)[0]? = some z := ⟨_, List.getElem?_eq_getElem hrq⟩
  obtain ⟨bQ, oQ, owQ, CQ, rfl, hkQ, hCQ⟩ := hB2.all intC_len (by omega)
  have hz4 : CQ[oQ + 0 * 1]? = some (.int .i64 z) := (hCQ _ z hz).1 0 (by omega)
  have hzd : (rowOf rows B).getD 0 0 = z := by rw [List.getD_eq_getElem?_getD, hz]; rfl
  refine DRg_x TT.ok [0, 0, 2, 6, 0, 0, 32, 96, 224, 511, 1023] 11 2047 233 rfl (by decide +kernel) ?_
  simp only [start, KC_normal, go_sem, Nat.reduceEqDiff, Nat.reduceAdd, reduceIte, reduceCtorEq, Nat.reduceLeDiff, Nat.reduceShiftRight, Nat.reduceAnd, Nat.reduceOr, Nat.reducePow, Nat.reduceBNe, Nat.reduceBEq, t0, t4, t5, t11, t12, h5]
  refine f77_c fun r hr => ?_
  subst hr
  simp only [start, KC_normal, go_sem, Nat.reduceEqDiff, Nat.reduceAdd, reduceIte, reduceCtorEq, Nat.reduceLeDiff, Nat.reduceShiftRight, Nat.reduceAnd, Nat.reduceOr, Nat.reducePow, Nat.reduceBNe, Nat.reduceBEq, t0, t4, t5, t11, t12, h5, ia_in _ _ _ _ 0 (show 0 < (rowOf rows B).length by omega), ia_zero _ _ _ _ (show 0 < (rowOf rows B).length by omega), hkQ.get, hz4]
  generalize hY : (H2.skip 11).put _ _ = H3
  obtain ⟨hE3, h6, hn3⟩ := skip_put hY (by omega)
  clear hY
  have hE12 := hE12.trans hE3
  refine f65_c (N := 0) (other := [z]) (hm2.ext hE3) (by omega) h.i (by omega) (by simp) (ha2.step hE3.step) ((Own1.blk _ 1 (by omega) h6 rfl).sl (F := F) (fun j hj hf => by cases hj; have := hm2.bd.lt _ hf; omega)) fun H3 F3 v b hm3 hS3 ho3 hb3 => ?_
  simp only [start, KC_normal, go_sem, Nat.reduceEqDiff, Nat.reduceAdd, reduceIte, reduceCtorEq, Nat.reduceLeDiff, Nat.reduceShiftRight, Nat.reduceAnd, Nat.reduceOr, Nat.reducePow, Nat.reduceBNe, Nat.reduceBEq]
  have e : gateM g d rows (inn + ops.length) ⟨3, A, B, N, S⟩ = (elOps false (stepOf 3) 0 (rowOf rows A) (fun _ => z), elRow false (rowOf rows A) (inn + ops.length)) := by
    simp [gateM, twoM, sA, sB]; rw [← hzd]; simp
  have hle9 := hE12.le
  have hle3 := hS3.le
  exact hQ H3 F3 v b _ (by rw [e]; exact hm3) (hE12.step.trans hS3) (by rw [e]; exact ho3) fun j hj => ⟨by have := (hb3 j hj).1; omega, (hb3 j hj).2⟩

theorem f64_3ft (h : PGate F H bm inn ops outs d g rows vg vn va1 va2 vf1 vf2 first nx) {A B : Int} {N : BitVec 32} {S : Bool} (hA : 0 ≤ A ∧ A < rows.length) (hB : 0 ≤ B ∧ B < rows.length) (hrg : rows.length ≤ g.gates.length) (sA : g.sec A = false) (sB : g.sec B = true) (hS : S = true) (hrl : (rowOf rows B).length ≤ 7) (hrq : 0 < (rowOf rows A).length) (hQ : PGateQ F H bm inn ops outs d g rows vn va1 va2 vf1 vf2 first ⟨3, A, B, N, S⟩ Q) :
    C 64 #[.pointer (some ⟨bm, 0, none⟩), vg, GateM.v ⟨3, A, B, N, S⟩] H Q := by
  obtain ⟨v1, v2, rfl, hg1, hg2⟩ := h.c.ex
  obtain ⟨ag, cg, rfl, -, -, hgA⟩ := hg1.ex
  obtain ⟨au, cu, rfl, -, -, huA⟩ := hg2.ex
  obtain ⟨bl, ol, owl, Cl, cl, rfl, hkl, hCl⟩ := h.r.all (by omega)
  obtain ⟨bg, og, owg, Cg, rfl, hkg, hCg⟩ := hgA.all GateM.len (by omega)
  obtain ⟨a2, c2, hlA, hsA⟩ := hCl A hA.1 hA.2
  obtain ⟨a3, c3, hlB, hsB⟩ := hCl B hB.1 hB.2
  obtain ⟨gA, hgA', hsecA⟩ := sec_get (g := g) hA.1 (by omega)
  obtain ⟨gB, hgB', hsecB⟩ := sec_get (g := g) hB.1 (by omega)
  have hgS := (hCg _ _ hgA').1 4 (by omega)
  have hgS' := (hCg _ _ hgB').1 4 (by omega)
  simp only [GateM.c, List.getElem?_cons_succ, List.getElem?_cons_zero] at hgS hgS'
  rw [← hsecA] at hgS
  rw [← hsecB] at hgS'
  have hl0 := h.l
  have hd0 := h.dd
  refine SemC_fn TT.ok fn64 rfl rfl ?_
  simp only [Try.f64, GateM.v, start, KC_normal, go_sem, Nat.reduceEqDiff, Nat.reduceAdd, reduceIte, reduceCtorEq, Nat.reduceLeDiff, Nat.reduceShiftRight, Nat.reduceAnd, Nat.reduceOr, Nat.reducePow, Nat.reduceBNe, Nat.reduceBEq]
  generalize hX : (H.push _).push _ = H1
  obtain ⟨hE1, h4, h5, hn1⟩ := pre2 hX
  clear hX
  obtain ⟨mo, mu, hg⟩ := (h.m.ext hE1).get
  simp only [start, KC_normal, go_sem, Nat.reduceEqDiff, Nat.reduceAdd, reduceIte, reduceCtorEq, Nat.reduceLeDiff, Nat.reduceShiftRight, Nat.reduceAnd, Nat.reduceOr, Nat.reducePow, Nat.reduceBNe, Nat.reduceBEq, h5, Int.reduceEq]
  refine DRg_x TT.ok [0, 1, 3, 7, 0, 16, 63, 127, 0, 256, 768, 1792, 0, 4096, 16128, 32512, 255, 131071] 18 262143 233 rfl (by decide +kernel) ?_
  simp only [start, go_sem, Nat.reduceEqDiff, Nat.reduceAdd, reduceIte, reduceCtorEq, Nat.reduceLeDiff, Nat.reduceShiftRight, Nat.reduceAnd, Nat.reduceOr, Nat.reducePow, Nat.reduceBNe, Nat.reduceBEq, h5, hg, ia_int _ _ _ _ _ hA.1 hA.2, ia_int _ _ _ _ _ hB.1 hB.2, (hkl.step hE1.step).get, hlA, hlB]
  have hE2 : Ext H1 (H1.skip 18) := (Ext.refl H1).skip 18
  have h4 := (hE2.get _ (by omega)).trans h4
  have h5 := (hE2.get _ (by omega)).trans h5
  have hE12 := hE1.trans hE2
  clear hg
  generalize H1.skip 18 = H2 at *
  have hm2 := h.m.ext hE12
  obtain ⟨mo, mu, hg⟩ := hm2.get
  have hle := hE12.le
  have hkg2 := (hkg.step hE12.step).get
  have ha2 := hsA.step (hE12.step (F := F))
  have hb2 := hsB.step (hE12.step (F := F))
  obtain ⟨x2, y2, e2, hcap2, hlen2, hA2⟩ := ha2.ex
  cases e2
  obtain ⟨x3, y3, e3, hcap3, hlen3, hB2⟩ := hb2.ex
  cases e3
  have hX9 : Ext H H2 := hE12
  clear hE1 hE2 hkl hlA hlB hkg hCg hCl hgA hg1 hg2 huA
  generalize hTm : Tr.set _ _ _ _ = tm0
  obtain ⟨t0, t4, t5, t7, t11, t12⟩ : tm0.get 0 = some (.pointer (some ⟨bm, 0, none⟩)) ∧ tm0.get 4 = some (.pointer (some ⟨H.next, 0, none⟩)) ∧ tm0.get 5 = some (.pointer (some ⟨H.next + 1, 0, none⟩)) ∧ tm0.get 7 = some (.bool true) ∧ tm0.get 11 = some (.slice a2 (rowOf rows A).length c2) ∧ tm0.get 12 = some (.slice a3 (rowOf rows B).length c3) := by
    subst hTm
    refine ⟨?_, ?_, ?_, ?_, ?_, ?_⟩ <;> simp only [start, KC_normal, go_sem, Nat.reduceEqDiff, Nat.reduceAdd, reduceIte, reduceCtorEq, Nat.reduceLeDiff, Nat.reduceShiftRight, Nat.reduceAnd, Nat.reduceOr, Nat.reducePow, Nat.reduceBNe, Nat.reduceBEq]
  clear hTm
  rw [sA] at hgS
  rw [sB] at hgS'
  simp only [start, KC_normal, go_sem, Nat.reduceEqDiff, Nat.reduceAdd, reduceIte, reduceCtorEq, Nat.reduceLeDiff, Nat.reduceShiftRight, Nat.reduceAnd, Nat.reduceOr, Nat.reducePow, Nat.reduceBNe, Nat.reduceBEq, t0, t4, t5, t7, t11, t12, h4, h5, hg, hkg2, hgS, hgS', ia_int _ _ _ _ _ hA.1 (show A < (g.gates.length : Int) by omega), ia_int _ _ _ _ _ hB.1 (show B < (g.gates.length : Int) by omega), Int.reduceEq, hS]
  obtain ⟨z, hz⟩ : ∃ z, (rowOf rows A)[0]? = some z := ⟨_, List.getElem?_eq_getElem hrq⟩
  obtain ⟨bQ, oQ, owQ, CQ, rfl, hkQ, hCQ⟩ := hA2.all intC_len (by omega)
  have hz4 : CQ[oQ + 0 * 1]? = some (.int .i64 z) := (hCQ _ z hz).1 0 (by omega)
  have hzd : (rowOf rows A).getD 0 0 = z := by rw [List.getD_eq_getElem?_getD, hz]; rfl
  refine DRg_x TT.ok [0, 0, 2, 6, 0, 0, 32, 96, 224, 511, 1023] 11 2047 233 rfl (by decide +kernel) ?_
  simp only [start, KC_normal, go_sem, Nat.reduceEqDiff, Nat.reduceAdd, reduceIte, reduceCtorEq, Nat.reduceLeDiff, Nat.reduceShiftRight, Nat.reduceAnd, Nat.reduceOr, Nat.reducePow, Nat.reduceBNe, Nat.reduceBEq, t0, t4, t5, t11, t12, h5]
  refine f77_c fun r hr => ?_
  subst hr
  simp only [start, KC_normal, go_sem, Nat.reduceEqDiff, Nat.reduceAdd, reduceIte, reduceCtorEq, Nat.reduceLeDiff, Nat.reduceShiftRight, Nat.reduceAnd, Nat.reduceOr, Nat.reducePow, Nat.reduceBNe, Nat.reduceBEq, t0, t4, t5, t11, t12, h5, ia_in _ _ _ _ 0 (show 0 < (rowOf rows A).length by omega), ia_zero _ _ _ _ (show 0 < (rowOf rows A).length by omega), hkQ.get, hz4]
  generalize hY : (H2.skip 11).put _ _ = H3
  obtain ⟨hE3, h6, hn3⟩ := skip_put hY (by omega)
  clear hY
  have hE12 := hE12.trans hE3
  refine f65_c (N := 0) (other := [z]) (hm2.ext hE3) (by omega) h.i (by omega) (by simp) (hb2.step hE3.step) ((Own1.blk _ 1 (by omega) h6 rfl).sl (F := F) (fun j hj hf => by cases hj; have := hm2.bd.lt _ hf; omega)) fun H3 F3 v b hm3 hS3 ho3 hb3 => ?_
  simp only [start, KC_normal, go_sem, Nat.reduceEqDiff, Nat.reduceAdd, reduceIte, reduceCtorEq, Nat.reduceLeDiff, Nat.reduceShiftRight, Nat.reduceAnd, Nat.reduceOr, Nat.reducePow, Nat.reduceBNe, Nat.reduceBEq]
  have e : gateM g d rows (inn + ops.length) ⟨3, A, B, N, S⟩ = (elOps false (stepOf 3) 0 (rowOf rows B) (fun _ => z), elRow false (rowOf rows B) (inn + ops.length)) := by
    simp [gateM, twoM, sA, sB]; rw [← hzd]; simp
  have hle9 := hE12.le
  have hle3 := hS3.le
  exact hQ H3 F3 v b _ (by rw [e]; exact hm3) (hE12.step.trans hS3) (by rw [e]; exact ho3) fun j hj => ⟨by have := (hb3 j hj).1; omega, (hb3 j hj).2⟩

theorem f64_4ff (h : PGate F H bm inn ops outs d g rows vg vn va1 va2 vf1 vf2 first nx) {A B : Int} {N : BitVec 32} {S : Bool} (hA : 0 ≤ A ∧ A < rows.length) (hB : 0 ≤ B ∧ B < rows.length) (hrg : rows.length ≤ g.gates.length) (sA : g.sec A = false) (sB : g.sec B = false) (hS : S = false) (hw : (rowOf rows A).length = 1) (hrl : (rowOf rows A).length ≤ 7) (hrq : 0 < (rowOf rows B).length) (hQ : PGateQ F H bm inn ops outs d g rows vn va1 va2 vf1 vf2 first ⟨4, A, B, N, S⟩ Q) :
    C 64 #[.pointer (some ⟨bm, 0, none⟩), vg, GateM.v ⟨4, A, B, N, S⟩] H Q := by
  obtain ⟨v1, v2, rfl, hg1, hg2⟩ := h.c.ex
  obtain ⟨ag, cg, rfl, -, -, hgA⟩ := hg1.ex
  obtain ⟨au, cu, rfl, -, -, huA⟩ := hg2.ex
  obtain ⟨bl, ol, owl, Cl, cl, rfl, hkl, hCl⟩ := h.r.all (by omega)
  obtain ⟨bg, og, owg, Cg, rfl, hkg, hCg⟩ := hgA.all GateM.len (by omega)
  obtain ⟨a2, c2, hlA, hsA⟩ := hCl A hA.1 hA.2
  obtain ⟨a3, c3, hlB, hsB⟩ := hCl B hB.1 hB.2
  obtain ⟨gA, hgA', hsecA⟩ := sec_get (g := g) hA.1 (by omega)
  obtain ⟨gB, hgB', hsecB⟩ := sec_get (g := g) hB.1 (by omega)
  have hgS := (hCg _ _ hgA').1 4 (by omega)
  have hgS' := (hCg _ _ hgB').1 4 (by omega)
  simp only [GateM.c, List.getElem?_cons_succ, List.getElem?_cons_zero] at hgS hgS'
  rw [← hsecA] at hgS
  rw [← hsecB] at hgS'
  have hl0 := h.l
  have hd0 := h.dd
  refine SemC_fn TT.ok fn64 rfl rfl ?_
  simp only [Try.f64, GateM.v, start, KC_normal, go_sem, Nat.reduceEqDiff, Nat.reduceAdd, reduceIte, reduceCtorEq, Nat.reduceLeDiff, Nat.reduceShiftRight, Nat.reduceAnd, Nat.reduceOr, Nat.reducePow, Nat.reduceBNe, Nat.reduceBEq]
  generalize hX : (H.push _).push _ = H1
  obtain ⟨hE1, h4, h5, hn1⟩ := pre2 hX
  clear hX
  obtain ⟨mo, mu, hg⟩ := (h.m.ext hE1).get
  simp only [start, KC_normal, go_sem, Nat.reduceEqDiff, Nat.reduceAdd, reduceIte, reduceCtorEq, Nat.reduceLeDiff, Nat.reduceShiftRight, Nat.reduceAnd, Nat.reduceOr, Nat.reducePow, Nat.reduceBNe, Nat.reduceBEq, h5, Int.reduceEq]
  refine DRg_x TT.ok [0, 1, 3, 7, 0, 16, 63, 127, 0, 256, 768, 1792, 0, 4096, 16128, 32512, 255, 131071] 18 262143 233 rfl (by decide +kernel) ?_
  simp only [start, go_sem, Nat.reduceEqDiff, Nat.reduceAdd, reduceIte, reduceCtorEq, Nat.reduceLeDiff, Nat.reduceShiftRight, Nat.reduceAnd, Nat.reduceOr, Nat.reducePow, Nat.reduceBNe, Nat.reduceBEq, h5, hg, ia_int _ _ _ _ _ hA.1 hA.2, ia_int _ _ _ _ _ hB.1 hB.2, (hkl.step hE1.step).get, hlA, hlB]
  have hE2 : Ext H1 (H1.skip 18) := (Ext.refl H1).skip 18
  have h4 := (hE2.get _ (by omega)).trans h4
  have h5 := (hE2.get _ (by omega)).trans h5
  have hE12 := hE1.trans hE2
  clear hg
  generalize H1.skip 18 = H2 at *
  have hm2 := h.m.ext hE12
  obtain ⟨mo, mu, hg⟩ := hm2.get
  have hle := hE12.le
  have hkg2 := (hkg.step hE12.step).get
  have ha2 := hsA.step (hE12.step (F := F))
  have hb2 := hsB.step (hE12.step (F := F))
  obtain ⟨x2, y2, e2, hcap2, hlen2, hA2⟩ := ha2.ex
  cases e2
  obtain ⟨x3, y3, e3, hcap3, hlen3, hB2⟩ := hb2.ex
  cases e3
  have hX9 : Ext H H2 := hE12
  clear hE1 hE2 hkl hlA hlB hkg hCg hCl hgA hg1 hg2 huA
  generalize hTm : Tr.set _ _ _ _ = tm0
  obtain ⟨t0, t4, t5, t7, t11, t12⟩ : tm0.get 0 = some (.pointer (some ⟨bm, 0, none⟩)) ∧ tm0.get 4 = some (.pointer (some ⟨H.next, 0, none⟩)) ∧ tm0.get 5 = some (.pointer (some ⟨H.next + 1, 0, none⟩)) ∧ tm0.get 7 = some (.bool true) ∧ tm0.get 11 = some (.slice a2 (rowOf rows A).length c2) ∧ tm0.get 12 = some (.slice a3 (rowOf rows B).length c3) := by
    subst hTm
    refine ⟨?_, ?_, ?_, ?_, ?_, ?_⟩ <;> simp only [start, KC_normal, go_sem, Nat.reduceEqDiff, Nat.reduceAdd, reduceIte, reduceCtorEq, Nat.reduceLeDiff, Nat.reduceShiftRight, Nat.reduceAnd, Nat.reduceOr, Nat.reducePow, Nat.reduceBNe, Nat.reduceBEq]
  clear hTm
  rw [sA] at hgS
  rw [sB] at hgS'
  simp only [start, KC_normal, go_sem, Nat.reduceEqDiff, Nat.reduceAdd, reduceIte, reduceCtorEq, Nat.reduceLeDiff, Nat.reduceShiftRight, Nat.reduceAnd, Nat.reduceOr, Nat.reducePow, Nat.reduceBNe, Nat.reduceBEq, t0, t4, t5, t7, t11, t12, h4, h5, hg, hkg2, hgS, hgS', ia_int _ _ _ _ _ hA.1 (show A < (g.gates.length : Int) by omega), ia_int _ _ _ _ _ hB.1 (show B < (g.gates.length : Int) by omega), Int.reduceEq, hS]
  obtain ⟨z, hz⟩ : ∃ z, (rowOf rows B)[0]? = some z := ⟨_, List.getElem?_eq_getElem hrq⟩
  obtain ⟨bQ, oQ, owQ, CQ, rfl, hkQ, hCQ⟩ := hB2.all intC_len (by omega)
  have hz4 : CQ[oQ + 0 * 1]? = some (.int .i64 z) := (hCQ _ z hz).1 0 (by omega)
  have hzd : (rowOf rows B).getD 0 0 = z := by rw [List.getD_eq_getElem?_getD, hz]; rfl
  refine DRg_x TT.ok [0, 0, 2, 6, 0, 0, 32, 96, 224, 511, 1023] 11 2047 233 rfl (by decide +kernel) ?_
  simp only [start, KC_normal, go_sem, Nat.reduceEqDiff, Nat.reduceAdd, reduceIte, reduceCtorEq, Nat.reduceLeDiff, Nat.reduceShiftRight, Nat.reduceAnd, Nat.reduceOr, Nat.reducePow, Nat.reduceBNe, Nat.reduceBEq, t0, t4, t5, t11, t12, h5]
  refine f77_c fun r hr => ?_
  subst hr
  simp only [start, KC_normal, go_sem, Nat.reduceEqDiff, Nat.reduceAdd, reduceIte, reduceCtorEq, Nat.reduceLeDiff, Nat.reduceShiftRight, Nat.reduceAnd, Nat.reduceOr, Nat.reducePow, Nat.reduceBNe, Nat.reduceBEq, t0, t4, t5, t11, t12, h5, ia_in _ _ _ _ 0 (show 0 < (rowOf rows B).length by omega), ia_zero _ _ _ _ (show 0 < (rowOf rows B).length by omega), hkQ.get, hz4]
  generalize hY : (H2.skip 11).put _ _ = H3
  obtain ⟨hE3, h6, hn3⟩ := skip_put hY (by omega)
  clear hY
  have hE12 := hE12.trans hE3
  refine f65_c (N := 0) (other := [z]) (hm2.ext hE3) (by omega) h.i (by omega) (by simp) (ha2.step hE3.step) ((Own1.blk _ 1 (by omega) h6 rfl).sl (F := F) (fun j hj hf => by cases hj; have := hm2.bd.lt _ hf; omega)) fun H3 F3 v b hm3 hS3 ho3 hb3 => ?_
  simp only [start, KC_normal, go_sem, Nat.reduceEqDiff, Nat.reduceAdd, reduceIte, reduceCtorEq, Nat.reduceLeDiff, Nat.reduceShiftRight, Nat.reduceAnd, Nat.reduceOr, Nat.reducePow, Nat.reduceBNe, Nat.reduceBEq]
  have e : gateM g d rows (inn + ops.length) ⟨4, A, B, N, S⟩ = (elOps false (stepOf 4) 0 (rowOf rows A) (fun _ => z), elRow false (rowOf rows A) (inn + ops.length)) := by
    have q := el_single (k := stepOf 4) (n := inn + ops.length) (N := 0) (bs := fun _ => (rowOf rows B)[0]?.getD 0) hw; simp at q; simp [gateM, twoM, sA, sB, q.1]; rw [← hzd]; simp [q.2]
  have hle9 := hE12.le
  have hle3 := hS3.le
  exact hQ H3 F3 v b _ (by rw [e]; exact hm3) (hE12.step.trans hS3) (by rw [e]; exact ho3) fun j hj => ⟨by have := (hb3 j hj).1; omega, (hb3 j hj).2⟩
end
end Go.Ab.Ex
