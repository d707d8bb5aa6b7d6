/- Wire: a gate's wires, by the program: element for element. PRINTED BY wip/tools/gen36.py. -/
import Derived.Test.YtmodeilippcbnaaR16
set_option linter.all false
namespace Go.Ab.Ex
open Go.Proofs
set_option maxRecDepth 10000
set_option maxHeartbeats 2000000

section
variable {F : Fr} {H : Heap} {bm : Nat} {inn : Int} {ops : List OpM} {outs : List Int} {d : Nat} {g : CircM} {rows : List (List Int)} {vg vn va1 va2 vf1 vf2 : Value} {first nx : Int} {Q : Ret → Heap → Prop}


theorem f64_6t (h : PGate F H bm inn ops outs d g rows vg vn va1 va2 vf1 vf2 first nx) {A B : Int} {N : BitVec 32} {S : Bool} (hA : 0 ≤ A ∧ A < rows.length) (hB : 0 ≤ B ∧ B < rows.length) (hrg : rows.length ≤ g.gates.length) (hS : S = true) (hrl : (rowOf rows A).length ≤ 7) (hQ : PGateQ F H bm inn ops outs d g rows vn va1 va2 vf1 vf2 first ⟨6, A, B, N, S⟩ Q) :
    C 64 #[.pointer (some ⟨bm, 0, none⟩), vg, GateM.v ⟨6, A, B, N, S⟩] H Q := by
  obtain ⟨v1, v2, rfl, hg1, hg2⟩ := h.c.ex
  obtain ⟨ag, cg, rfl, -, -, hgA⟩ := hg1.ex
  obtain ⟨au, cu, rfl, -, -, huA⟩ := hg2.ex
  obtain ⟨bl, ol, owl, Cl, cl, rfl, hkl, hCl⟩ := h.r.all (by omega)
  obtain ⟨bg, og, owg, Cg, rfl, hkg, hCg⟩ := hgA.all GateM.len (by omega)
  obtain ⟨a2, c2, hlA, hsA⟩ := hCl A hA.1 hA.2
  obtain ⟨a3, c3, hlB, hsB⟩ := hCl B hB.1 hB.2
  obtain ⟨gA, hgA', hsecA⟩ := sec_get (g := g) hA.1 (by omega)
  obtain ⟨gB, hgB', hsecB⟩ := sec_get (g := g) hB.1 (by omega)
  have hgS := (hCg _ _ hgA').1 4 (by omega)
  have hgS' := (hCg _ _ hgB').1 4 (by omega)
  simp only [GateM.c, List.getElem?_cons_succ, List.getElem?_cons_zero] at hgS hgS'
  rw [← hsecA] at hgS
  rw [← hsecB] at hgS'
  have hl0 := h.l
  have hd0 := h.dd
  refine SemC_fn TT.ok fn64 rfl rfl ?_
  simp only [Try.f64, GateM.v, start, KC_normal, go_sem, Nat.reduceEqDiff, Nat.reduceAdd, reduceIte, reduceCtorEq, Nat.reduceLeDiff, Nat.reduceShiftRight, Nat.reduceAnd, Nat.reduceOr, Nat.reducePow, Nat.reduceBNe, Nat.reduceBEq]
  generalize hX : (H.push _).push _ = H1
  obtain ⟨hE1, h4, h5, hn1⟩ := pre2 hX
  clear hX
  obtain ⟨mo, mu, hg⟩ := (h.m.ext hE1).get
  simp only [start, KC_normal, go_sem, Nat.reduceEqDiff, Nat.reduceAdd, reduceIte, reduceCtorEq, Nat.reduceLeDiff, Nat.reduceShiftRight, Nat.reduceAnd, Nat.reduceOr, Nat.reducePow, Nat.reduceBNe, Nat.reduceBEq, h5, Int.reduceEq]
  refine DRg_x TT.ok [0, 1, 3, 7, 0, 16, 63, 127, 0, 256, 768, 1792, 0, 4096, 16128, 32512, 255, 131071] 18 262143 233 rfl (by decide +kernel) ?_
  simp only [start, go_sem, Nat.reduceEqDiff, Nat.reduceAdd, reduceIte, reduceCtorEq, Nat.reduceLeDiff, Nat.reduceShiftRight, Nat.reduceAnd, Nat.reduceOr, Nat.reducePow, Nat.reduceBNe, Nat.reduceBEq, h5, hg, ia_int _ _ _ _ _ hA.1 hA.2, ia_int _ _ _ _ _ hB.1 hB.2, (hkl.step hE1.step).get, hlA, hlB]
  have hE2 : Ext H1 (H1.skip 18) := (Ext.refl H1).skip 18
  have h4 := (hE2.get _ (by omega)).trans h4
  have h5 := (hE2.get _ (by omega)).trans h5
  have hE12 := hE1.trans hE2
  clear hg
  generalize H1.skip 18 = H2 at *
  have hm2 := h.m.ext hE12
  obtain ⟨mo, mu, hg⟩ := hm2.get
  have hle := hE12.le
  have hkg2 := (hkg.step hE12.step).get
  have ha2 := hsA.step (hE12.step (F := F))
  have hb2 := hsB.step (hE12.step (F := F))
  obtain ⟨x2, y2, e2, hcap2, hlen2, hA2⟩ := ha2.ex
  cases e2
  obtain ⟨x3, y3, e3, hcap3, hlen3, hB2⟩ := hb2.ex
  cases e3
  have hX9 : Ext H H2 := hE12
  clear hE1 hE2 hkl hlA hlB hkg hCg hCl hgA hg1 hg2 huA
  generalize hTm : Tr.set _ _ _ _ = tm0
  obtain ⟨t0, t4, t5, t7, t11, t12⟩ : tm0.get 0 = some (.pointer (some ⟨bm, 0, none⟩)) ∧ tm0.get 4 = some (.pointer (some ⟨H.next, 0, none⟩)) ∧ tm0.get 5 = some (.pointer (some ⟨H.next + 1, 0, none⟩)) ∧ tm0.get 7 = some (.bool false) ∧ tm0.get 11 = some (.slice a2 (rowOf rows A).length c2) ∧ tm0.get 12 = some (.slice a3 (rowOf rows B).length c3) := by
    subst hTm
    refine ⟨?_, ?_, ?_, ?_, ?_, ?_⟩ <;> simp only [start, KC_normal, go_sem, Nat.reduceEqDiff, Nat.reduceAdd, reduceIte, reduceCtorEq, Nat.reduceLeDiff, Nat.reduceShiftRight, Nat.reduceAnd, Nat.reduceOr, Nat.reducePow, Nat.reduceBNe, Nat.reduceBEq]
  clear hTm
  simp only [start, KC_normal, go_sem, Nat.reduceEqDiff, Nat.reduceAdd, reduceIte, reduceCtorEq, Nat.reduceLeDiff, Nat.reduceShiftRight, Nat.reduceAnd, Nat.reduceOr, Nat.reducePow, Nat.reduceBNe, Nat.reduceBEq, t0, t4, t5, t7, t11, t12, h4, h5, hg, hkg2, hgS, hgS', ia_int _ _ _ _ _ hA.1 (show A < (g.gates.length : Int) by omega), ia_int _ _ _ _ _ hB.1 (show B < (g.gates.length : Int) by omega), Int.reduceEq, hS]
  refine DRg_x TT.ok [0, 0, 2, 6, 0, 16, 0, 127, 255] 9 511 233 rfl (by decide +kernel) ?_
  simp only [start, KC_normal, go_sem, Nat.reduceEqDiff, Nat.reduceAdd, reduceIte, reduceCtorEq, Nat.reduceLeDiff, Nat.reduceShiftRight, Nat.reduceAnd, Nat.reduceOr, Nat.reducePow, Nat.reduceBNe, Nat.reduceBEq, t0, t4, t5, t11, t12, h5]
  refine f77_c fun r hr => ?_
  subst hr
  simp only [start, KC_normal, go_sem, Nat.reduceEqDiff, Nat.reduceAdd, reduceIte, reduceCtorEq, Nat.reduceLeDiff, Nat.reduceShiftRight, Nat.reduceAnd, Nat.reduceOr, Nat.reducePow, Nat.reduceBNe, Nat.reduceBEq, t0, t4, t5, t11, t12, h5]
  have hE3 : Ext H2 (H2.skip 9) := (Ext.refl H2).skip 9
  generalize H2.skip 9 = H3 at *
  have hE12 := hE12.trans hE3
  refine f65_c (other := []) (hm2.ext hE3) (by omega) h.i (by omega) (by simp) (ha2.step hE3.step) ⟨none, 0, rfl, Nat.le_refl _, rfl, .nil rfl rfl rfl⟩ fun H3 F3 v b hm3 hS3 ho3 hb3 => ?_
  simp only [start, KC_normal, go_sem, Nat.reduceEqDiff, Nat.reduceAdd, reduceIte, reduceCtorEq, Nat.reduceLeDiff, Nat.reduceShiftRight, Nat.reduceAnd, Nat.reduceOr, Nat.reducePow, Nat.reduceBNe, Nat.reduceBEq]
  have e : gateM g d rows (inn + ops.length) ⟨6, A, B, N, S⟩ = (elOps false (stepOf 6) N (rowOf rows A) (fun _ => 0), elRow false (rowOf rows A) (inn + ops.length)) := rfl
  have hle9 := hE12.le
  have hle3 := hS3.le
  exact hQ H3 F3 v b _ (by rw [e]; exact hm3) (hE12.step.trans hS3) (by rw [e]; exact ho3) fun j hj => ⟨by have := (hb3 j hj).1; omega, (hb3 j hj).2⟩

theorem f64_6f (h : PGate F H bm inn ops outs d g rows vg vn va1 va2 vf1 vf2 first nx) {A B : Int} {N : BitVec 32} {S : Bool} (hA : 0 ≤ A ∧ A < rows.length) (hB : 0 ≤ B ∧ B < rows.length) (hrg : rows.length ≤ g.gates.length) (hS : S = false) (hrl : (rowOf rows A).length ≤ 7) (hQ : PGateQ F H bm inn ops outs d g rows vn va1 va2 vf1 vf2 first ⟨6, A, B, N, S⟩ Q) :
    C 64 #[.pointer (some ⟨bm, 0, none⟩), vg, GateM.v ⟨6, A, B, N, S⟩] H Q := by
  obtain ⟨v1, v2, rfl, hg1, hg2⟩ := h.c.ex
  obtain ⟨ag, cg, rfl, -, -, hgA⟩ := hg1.ex
  obtain ⟨au, cu, rfl, -, -, huA⟩ := hg2.ex
  obtain ⟨bl, ol, owl, Cl, cl, rfl, hkl, hCl⟩ := h.r.all (by omega)
  obtain ⟨bg, og, owg, Cg, rfl, hkg, hCg⟩ := hgA.all GateM.len (by omega)
  obtain ⟨a2, c2, hlA, hsA⟩ := hCl A hA.1 hA.2
  obtain ⟨a3, c3, hlB, hsB⟩ := hCl B hB.1 hB.2
  obtain ⟨gA, hgA', hsecA⟩ := sec_get (g := g) hA.1 (by omega)
  obtain ⟨gB, hgB', hsecB⟩ := sec_get (g := g) hB.1 (by omega)
  have hgS := (hCg _ _ hgA').1 4 (by omega)
  have hgS' := (hCg _ _ hgB').1 4 (by omega)
  simp only [GateM.c, List.getElem?_cons_succ, List.getElem?_cons_zero] at hgS hgS'
  rw [← hsecA] at hgS
  rw [← hsecB] at hgS'
  have hl0 := h.l
  have hd0 := h.dd
  refine SemC_fn TT.ok fn64 rfl rfl ?_
  simp only [Try.f64, GateM.v, start, KC_normal, go_sem, Nat.reduceEqDiff, Nat.reduceAdd, reduceIte, reduceCtorEq, Nat.reduceLeDiff, Nat.reduceShiftRight, Nat.reduceAnd, Nat.reduceOr, Nat.reducePow, Nat.reduceBNe, Nat.reduceBEq]
  generalize hX : (H.push _).push _ = H1
  obtain ⟨hE1, h4, h5, hn1⟩ := pre2 hX
  clear hX
  obtain ⟨mo, mu, hg⟩ := (h.m.ext hE1).get
  simp only [start, KC_normal, go_sem, Nat.reduceEqDiff, Nat.reduceAdd, reduceIte, reduceCtorEq, Nat.reduceLeDiff, Nat.reduceShiftRight, Nat.reduceAnd, Nat.reduceOr, Nat.reducePow, Nat.reduceBNe, Nat.reduceBEq, h5, Int.reduceEq]
  refine DRg_x TT.ok [0, 1, 3, 7, 0, 16, 63, 127, 0, 256, 768, 1792, 0, 4096, 16128, 32512, 255, 131071] 18 262143 233 rfl (by decide +kernel) ?_
  simp only [start, go_sem, Nat.reduceEqDiff, Nat.reduceAdd, reduceIte, reduceCtorEq, Nat.reduceLeDiff, Nat.reduceShiftRight, Nat.reduceAnd, Nat.reduceOr, Nat.reducePow, Nat.reduceBNe, Nat.reduceBEq, h5, hg, ia_int _ _ _ _ _ hA.1 hA.2, ia_int _ _ _ _ _ hB.1 hB.2, (hkl.step hE1.step).get, hlA, hlB]
  have hE2 : Ext H1 (H1.skip 18) := (Ext.refl H1).skip 18
  have h4 := (hE2.get _ (by omega)).trans h4
  have h5 := (hE2.get _ (by omega)).trans h5
  have hE12 := hE1.trans hE2
  clear hg
  generalize H1.skip 18 = H2 at *
  have hm2 := h.m.ext hE12
  obtain ⟨mo, mu, hg⟩ := hm2.get
  have hle := hE12.le
  have hkg2 := (hkg.step hE12.step).get
  have ha2 := hsA.step (hE12.step (F := F))
  have hb2 := hsB.step (hE12.step (F := F))
  obtain ⟨x2, y2, e2, hcap2, hlen2, hA2⟩ := ha2.ex
  cases e2
  obtain ⟨x3, y3, e3, hcap3, hlen3, hB2⟩ := hb2.ex
  cases e3
  have hX9 : Ext H H2 := hE12
  clear hE1 hE2 hkl hlA hlB hkg hCg hCl hgA hg1 hg2 huA
  generalize hTm : Tr.set _ _ _ _ = tm0
  obtain ⟨t0, t4, t5, t7, t11, t12⟩ : tm0.get 0 = some (.pointer (some ⟨bm, 0, none⟩)) ∧ tm0.get 4 = some (.pointer (some ⟨H.next, 0, none⟩)) ∧ tm0.get 5 = some (.pointer (some ⟨H.next + 1, 0, none⟩)) ∧ tm0.get 7 = some (.bool false) ∧ tm0.get 11 = some (.slice a2 (rowOf rows A).length c2) ∧ tm0.get 12 = some (.slice a3 (rowOf rows B).length c3) := by
    subst hTm
    refine ⟨?_, ?_, ?_, ?_, ?_, ?_⟩ <;> simp only [start, KC_normal, go_sem, Nat.reduceEqDiff, Nat.reduceAdd, reduceIte, reduceCtorEq, Nat.reduceLeDiff, Nat.reduceShiftRight, Nat.reduceAnd, Nat.reduceOr, Nat.reducePow, Nat.reduceBNe, Nat.reduceBEq]
  clear hTm
  simp only [start, KC_normal, go_sem, Nat.reduceEqDiff, Nat.reduceAdd, reduceIte, reduceCtorEq, Nat.reduceLeDiff, Nat.reduceShiftRight, Nat.reduceAnd, Nat.reduceOr, Nat.reducePow, Nat.reduceBNe, Nat.reduceBEq, t0, t4, t5, t7, t11, t12, h4, h5, hg, hkg2, hgS, hgS', ia_int _ _ _ _ _ hA.1 (show A < (g.gates.length : Int) by omega), ia_int _ _ _ _ _ hB.1 (show B < (g.gates.length : Int) by omega), Int.reduceEq, hS]
  refine DRg_x TT.ok [0, 0, 2, 6, 0, 16, 0, 127, 255] 9 511 233 rfl (by decide +kernel) ?_
  simp only [start, KC_normal, go_sem, Nat.reduceEqDiff, Nat.reduceAdd, reduceIte, reduceCtorEq, Nat.reduceLeDiff, Nat.reduceShiftRight, Nat.reduceAnd, Nat.reduceOr, Nat.reducePow, Nat.reduceBNe, Nat.reduceBEq, t0, t4, t5, t11, t12, h5]
  refine f77_c fun r hr => ?_
  subst hr
  simp only [start, KC_normal, go_sem, Nat.reduceEqDiff, Nat.reduceAdd, reduceIte, reduceCtorEq, Nat.reduceLeDiff, Nat.reduceShiftRight, Nat.reduceAnd, Nat.reduceOr, Nat.reducePow, Nat.reduceBNe, Nat.reduceBEq, t0, t4, t5, t11, t12, h5]
  have hE3 : Ext H2 (H2.skip 9) := (Ext.refl H2).skip 9
  generalize H2.skip 9 = H3 at *
  have hE12 := hE12.trans hE3
  refine f65_c (other := []) (hm2.ext hE3) (by omega) h.i (by omega) (by simp) (ha2.step hE3.step) ⟨none, 0, rfl, Nat.le_refl _, rfl, .nil rfl rfl rfl⟩ fun H3 F3 v b hm3 hS3 ho3 hb3 => ?_
  simp only [start, KC_normal, go_sem, Nat.reduceEqDiff, Nat.reduceAdd, reduceIte, reduceCtorEq, Nat.reduceLeDiff, Nat.reduceShiftRight, Nat.reduceAnd, Nat.reduceOr, Nat.reducePow, Nat.reduceBNe, Nat.reduceBEq]
  have e : gateM g d rows (inn + ops.length) ⟨6, A, B, N, S⟩ = (elOps false (stepOf 6) N (rowOf rows A) (fun _ => 0), elRow false (rowOf rows A) (inn + ops.length)) := rfl
  have hle9 := hE12.le
  have hle3 := hS3.le
  exact hQ H3 F3 v b _ (by rw [e]; exact hm3) (hE12.step.trans hS3) (by rw [e]; exact ho3) fun j hj => ⟨by have := (hb3 j hj).1; omega, (hb3 j hj).2⟩

theorem f64_7t (h : PGate F H bm inn ops outs d g rows vg vn va1 va2 vf1 vf2 first nx) {A B : Int} {N : BitVec 32} {S : Bool} (hA : 0 ≤ A ∧ A < rows.length) (hB : 0 ≤ B ∧ B < rows.length) (hrg : rows.length ≤ g.gates.length) (hS : S = true) (hrl : (rowOf rows A).length ≤ 7) (hQ : PGateQ F H bm inn ops outs d g rows vn va1 va2 vf1 vf2 first ⟨7, A, B, N, S⟩ Q) :
    C 64 #[.pointer (some ⟨bm, 0, none⟩), vg, GateM.v ⟨7, A, B, N, S⟩] H Q := by
  obtain ⟨v1, v2, rfl, hg1, hg2⟩ := h.c.ex
  obtain ⟨ag, cg, rfl, -, -, hgA⟩ := hg1.ex
  obtain ⟨au, cu, rfl, -, -, huA⟩ := hg2.ex
  obtain ⟨bl, ol, owl, Cl, cl, rfl, hkl, hCl⟩ := h.r.all (by omega)
  obtain ⟨bg, og, owg, Cg, rfl, hkg, hCg⟩ := hgA.all GateM.len (by omega)
  obtain ⟨a2, c2, hlA, hsA⟩ := hCl A hA.1 hA.2
  obtain ⟨a3, c3, hlB, hsB⟩ := hCl B hB.1 hB.2
  obtain ⟨gA, hgA', hsecA⟩ := sec_get (g := g) hA.1 (by omega)
  obtain ⟨gB, hgB', hsecB⟩ := sec_get (g := g) hB.1 (by omega)
  have hgS := (hCg _ _ hgA').1 4 (by omega)
  have hgS' := (hCg _ _ hgB').1 4 (by omega)
  simp only [GateM.c, List.getElem?_cons_succ, List.getElem?_cons_zero] at hgS hgS'
  rw [← hsecA] at hgS
  rw [← hsecB] at hgS'
  have hl0 := h.l
  have hd0 := h.dd
  refine SemC_fn TT.ok fn64 rfl rfl ?_
  simp only [Try.f64, GateM.v, start, KC_normal, go_sem, Nat.reduceEqDiff, Nat.reduceAdd, reduceIte, reduceCtorEq, Nat.reduceLeDiff, Nat.reduceShiftRight, Nat.reduceAnd, Nat.reduceOr, Nat.reducePow, Nat.reduceBNe, Nat.reduceBEq]
  generalize hX : (H.push _).push _ = H1
  obtain ⟨hE1, h4, h5, hn1⟩ := pre2 hX
  clear hX
  obtain ⟨mo, mu, hg⟩ := (h.m.ext hE1).get
  simp only [start, KC_normal, go_sem, Nat.reduceEqDiff, Nat.reduceAdd, reduceIte, reduceCtorEq, Nat.reduceLeDiff, Nat.reduceShiftRight, Nat.reduceAnd, Nat.reduceOr, Nat.reducePow, Nat.reduceBNe, Nat.reduceBEq, h5, Int.reduceEq]
  refine DRg_x TT.ok [0, 1, 3, 7, 0, 16, 63, 127, 0, 256, 768, 1792, 0, 4096, 16128, 32512, 255, 131071] 18 262143 233 rfl (by decide +kernel) ?_
  simp only [start, go_sem, Nat.reduceEqDiff, Nat.reduceAdd, reduceIte, reduceCtorEq, Nat.reduceLeDiff, Nat.reduceShiftRight, Nat.reduceAnd, Nat.reduceOr, Nat.reducePow, Nat.reduceBNe, Nat.reduceBEq, h5, hg, ia_int _ _ _ _ _ hA.1 hA.2, ia_int _ _ _ _ _ hB.1 hB.2, (hkl.step hE1.step).get, hlA, hlB]
  have hE2 : Ext H1 (H1.skip 18) := (Ext.refl H1).skip 18
  have h4 := (hE2.get _ (by omega)).trans h4
  have h5 := (hE2.get _ (by omega)).trans h5
  have hE12 := hE1.trans hE2
  clear hg
  generalize H1.skip 18 = H2 at *
  have hm2 := h.m.ext hE12
  obtain ⟨mo, mu, hg⟩ := hm2.get
  have hle := hE12.le
  have hkg2 := (hkg.step hE12.step).get
  have ha2 := hsA.step (hE12.step (F := F))
  have hb2 := hsB.step (hE12.step (F := F))
  obtain ⟨x2, y2, e2, hcap2, hlen2, hA2⟩ := ha2.ex
  cases e2
  obtain ⟨x3, y3, e3, hcap3, hlen3, hB2⟩ := hb2.ex
  cases e3
  have hX9 : Ext H H2 := hE12
  clear hE1 hE2 hkl hlA hlB hkg hCg hCl hgA hg1 hg2 huA
  generalize hTm : Tr.set _ _ _ _ = tm0
  obtain ⟨t0, t4, t5, t7, t11, t12⟩ : tm0.get 0 = some (.pointer (some ⟨bm, 0, none⟩)) ∧ tm0.get 4 = some (.pointer (some ⟨H.next, 0, none⟩)) ∧ tm0.get 5 = some (.pointer (some ⟨H.next + 1, 0, none⟩)) ∧ tm0.get 7 = some (.bool false) ∧ tm0.get 11 = some (.slice a2 (rowOf rows A).length c2) ∧ tm0.get 12 = some (.slice a3 (rowOf rows B).length c3) := by
    subst hTm
    refine ⟨?_, ?_, ?_, ?_, ?_, ?_⟩ <;> simp only [start, KC_normal, go_sem, Nat.reduceEqDiff, Nat.reduceAdd, reduceIte, reduceCtorEq, Nat.reduceLeDiff, Nat.reduceShiftRight, Nat.reduceAnd, Nat.reduceOr, Nat.reducePow, Nat.reduceBNe, Nat.reduceBEq]
  clear hTm
  simp only [start, KC_normal, go_sem, Nat.reduceEqDiff, Nat.reduceAdd, reduceIte, reduceCtorEq, Nat.reduceLeDiff, Nat.reduceShiftRight, Nat.reduceAnd, Nat.reduceOr, Nat.reducePow, Nat.reduceBNe, Nat.reduceBEq, t0, t4, t5, t7, t11, t12, h4, h5, hg, hkg2, hgS, hgS', ia_int _ _ _ _ _ hA.1 (show A < (g.gates.length : Int) by omega), ia_int _ _ _ _ _ hB.1 (show B < (g.gates.length : Int) by omega), Int.reduceEq, hS]
  refine DRg_x TT.ok [0, 0, 2, 6, 0, 16, 0, 127, 255] 9 511 233 rfl (by decide +kernel) ?_
  simp only [start, KC_normal, go_sem, Nat.reduceEqDiff, Nat.reduceAdd, reduceIte, reduceCtorEq, Nat.reduceLeDiff, Nat.reduceShiftRight, Nat.reduceAnd, Nat.reduceOr, Nat.reducePow, Nat.reduceBNe, Nat.reduceBEq, t0, t4, t5, t11, t12, h5]
  refine f77_c fun r hr => ?_
  subst hr
  simp only [start, KC_normal, go_sem, Nat.reduceEqDiff, Nat.reduceAdd, reduceIte, reduceCtorEq, Nat.reduceLeDiff, Nat.reduceShiftRight, Nat.reduceAnd, Nat.reduceOr, Nat.reducePow, Nat.reduceBNe, Nat.reduceBEq, t0, t4, t5, t11, t12, h5]
  have hE3 : Ext H2 (H2.skip 9) := (Ext.refl H2).skip 9
  generalize H2.skip 9 = H3 at *
  have hE12 := hE12.trans hE3
  refine f65_c (other := []) (hm2.ext hE3) (by omega) h.i (by omega) (by simp) (ha2.step hE3.step) ⟨none, 0, rfl, Nat.le_refl _, rfl, .nil rfl rfl rfl⟩ fun H3 F3 v b hm3 hS3 ho3 hb3 => ?_
  simp only [start, KC_normal, go_sem, Nat.reduceEqDiff, Nat.reduceAdd, reduceIte, reduceCtorEq, Nat.reduceLeDiff, Nat.reduceShiftRight, Nat.reduceAnd, Nat.reduceOr, Nat.reducePow, Nat.reduceBNe, Nat.reduceBEq]
  have e : gateM g d rows (inn + ops.length) ⟨7, A, B, N, S⟩ = (elOps false (stepOf 7) N (rowOf rows A) (fun _ => 0), elRow false (rowOf rows A) (inn + ops.length)) := rfl
  have hle9 := hE12.le
  have hle3 := hS3.le
  exact hQ H3 F3 v b _ (by rw [e]; exact hm3) (hE12.step.trans hS3) (by rw [e]; exact ho3) fun j hj => ⟨by have := (hb3 j hj).1; omega, (hb3 j hj).2⟩

theorem f64_7f (h : PGate F H bm inn ops outs d g rows vg vn va1 va2 vf1 vf2 first nx) {A B : Int} {N : BitVec 32} {S : Bool} (hA : 0 ≤ A ∧ A < rows.length) (hB : 0 ≤ B ∧ B < rows.length) (hrg : rows.length ≤ g.gates.length) (hS : S = false) (hrl : (rowOf rows A).length ≤ 7) (hQ : PGateQ F H bm inn ops outs d g rows vn va1 va2 vf1 vf2 first ⟨7, A, B, N, S⟩ Q) :
    C 64 #[.pointer (some ⟨bm, 0, none⟩), vg, GateM.v ⟨7, A, B, N, S⟩] H Q := by
  obtain ⟨v1, v2, rfl, hg1, hg2⟩ := h.c.ex
  obtain ⟨ag, cg, rfl, -, -, hgA⟩ := hg1.ex
  obtain ⟨au, cu, rfl, -, -, huA⟩ := hg2.ex
  obtain ⟨bl, ol, owl, Cl, cl, rfl, hkl, hCl⟩ := h.r.all (by omega)
  obtain ⟨bg, og, owg, Cg, rfl, hkg, hCg⟩ := hgA.all GateM.len (by omega)
  obtain ⟨a2, c2, hlA, hsA⟩ := hCl A hA.1 hA.2
  obtain ⟨a3, c3, hlB, hsB⟩ := hCl B hB.1 hB.2
  obtain ⟨gA, hgA', hsecA⟩ := sec_get (g := g) hA.1 (by omega)
  obtain ⟨gB, hgB', hsecB⟩ := sec_get (g := g) hB.1 (by omega)
  have hgS := (hCg _ _ hgA').1 4 (by omega)
  have hgS' := (hCg _ _ hgB').1 4 (by omega)
  simp only [GateM.c, List.getElem?_cons_succ, List.getElem?_cons_zero] at hgS hgS'
  rw [← hsecA] at hgS
  rw [← hsecB] at hgS'
  have hl0 := h.l
  have hd0 := h.dd
  refine SemC_fn TT.ok fn64 rfl rfl ?_
  simp only [Try.f64, GateM.v, start, KC_normal, go_sem, Nat.reduceEqDiff, Nat.reduceAdd, reduceIte, reduceCtorEq, Nat.reduceLeDiff, Nat.reduceShiftRight, Nat.reduceAnd, Nat.reduceOr, Nat.reducePow, Nat.reduceBNe, Nat.reduceBEq]
  generalize hX : (H.push _).push _ = H1
  obtain ⟨hE1, h4, h5, hn1⟩ := pre2 hX
  clear hX
  obtain ⟨mo, mu, hg⟩ := (h.m.ext hE1).get
  simp only [start, KC_normal, go_sem, Nat.reduceEqDiff, Nat.reduceAdd, reduceIte, reduceCtorEq, Nat.reduceLeDiff, Nat.reduceShiftRight, Nat.reduceAnd, Nat.reduceOr, Nat.reducePow, Nat.reduceBNe, Nat.reduceBEq, h5, Int.reduceEq]
  refine DRg_x TT.ok [0, 1, 3, 7, 0, 16, 63, 127, 0, 256, 768, 1792, 0, 4096, 16128, 32512, 255, 131071] 18 262143 233 rfl (by decide +kernel) ?_
  simp only [start, go_sem, Nat.reduceEqDiff, Nat.reduceAdd, reduceIte, reduceCtorEq, Nat.reduceLeDiff, Nat.reduceShiftRight, Nat.reduceAnd, Nat.reduceOr, Nat.reducePow, Nat.reduceBNe, Nat.reduceBEq, h5, hg, ia_int _ _ _ _ _ hA.1 hA.2, ia_int _ _ _ _ _ hB.1 hB.2, (hkl.step hE1.step).get, hlA, hlB]
  have hE2 : Ext H1 (H1.skip 18) := (Ext.refl H1).skip 18
  have h4 := (hE2.get _ (by omega)).trans h4
  have h5 := (hE2.get _ (by omega)).trans h5
  have hE12 := hE1.trans hE2
  clear hg
  generalize H1.skip 18 = H2 at *
  have hm2 := h.m.ext hE12
  obtain ⟨mo, mu, hg⟩ := hm2.get
  have hle := hE12.le
  have hkg2 := (hkg.step hE12.step).get
  have ha2 := hsA.step (hE12.step (F := F))
  have hb2 := hsB.step (hE12.step (F := F))
  obtain ⟨x2, y2, e2, hcap2, hlen2, hA2⟩ := ha2.ex
  cases e2
  obtain ⟨x3, y3, e3, hcap3, hlen3, hB2⟩ := hb2.ex
  cases e3
  have hX9 : Ext H H2 := hE12
  clear hE1 hE2 hkl hlA hlB hkg hCg hCl hgA hg1 hg2 huA
  generalize hTm : Tr.set _ _ _ _ = tm0
  obtain ⟨t0, t4, t5, t7, t11, t12⟩ : tm0.get 0 = some (.pointer (some ⟨bm, 0, none⟩)) ∧ tm0.get 4 = some (.pointer (some ⟨H.next, 0, none⟩)) ∧ tm0.get 5 = some (.pointer (some ⟨H.next + 1, 0, none⟩)) ∧ tm0.get 7 = some (.bool false) ∧ tm0.get 11 = some (.slice a2 (rowOf rows A).length c2) ∧ tm0.get 12 = some (.slice a3 (rowOf rows B).length c3) := by
    subst hTm
    refine ⟨?_, ?_, ?_, ?_, ?_, ?_⟩ <;> simp only [start, KC_normal, go_sem, Nat.reduceEqDiff, Nat.reduceAdd, reduceIte, reduceCtorEq, Nat.reduceLeDiff, Nat.reduceShiftRight, Nat.reduceAnd, Nat.reduceOr, Nat.reducePow, Nat.reduceBNe, Nat.reduceBEq]
  clear hTm
  simp only [start, KC_normal, go_sem, Nat.reduceEqDiff, Nat.reduceAdd, reduceIte, reduceCtorEq, Nat.reduceLeDiff, Nat.reduceShiftRight, Nat.reduceAnd, Nat.reduceOr, Nat.reducePow, Nat.reduceBNe, Nat.reduceBEq, t0, t4, t5, t7, t11, t12, h4, h5, hg, hkg2, hgS, hgS', ia_int _ _ _ _ _ hA.1 (show A < (g.gates.length : Int) by omega), ia_int _ _ _ _ _ hB.1 (show B < (g.gates.length : Int) by omega), Int.reduceEq, hS]
  refine DRg_x TT.ok [0, 0, 2, 6, 0, 16, 0, 127, 255] 9 511 233 rfl (by decide +kernel) ?_
  simp only [start, KC_normal, go_sem, Nat.reduceEqDiff, Nat.reduceAdd, reduceIte, reduceCtorEq, Nat.reduceLeDiff, Nat.reduceShiftRight, Nat.reduceAnd, Nat.reduceOr, Nat.reducePow, Nat.reduceBNe, Nat.reduceBEq, t0, t4, t5, t11, t12, h5]
  refine f77_c fun r hr => ?_
  subst hr
  simp only [start, KC_normal, go_sem, Nat.reduceEqDiff, Nat.reduceAdd, reduceIte, reduceCtorEq, Nat.reduceLeDiff, Nat.reduceShiftRight, Nat.reduceAnd, Nat.reduceOr, Nat.reducePow, Nat.reduceBNe, Nat.reduceBEq, t0, t4, t5, t11, t12, h5]
  have hE3 : Ext H2 (H2.skip 9) := (Ext.refl H2).skip 9
  generalize H2.skip 9 = H3 at *
  have hE12 := hE12.trans hE3
  refine f65_c (other := []) (hm2.ext hE3) (by omega) h.i (by omega) (by simp) (ha2.step hE3.step) ⟨none, 0, rfl, Nat.le_refl _, rfl, .nil rfl rfl rfl⟩ fun H3 F3 v b hm3 hS3 ho3 hb3 => ?_
  simp only [start, KC_normal, go_sem, Nat.reduceEqDiff, Nat.reduceAdd, reduceIte, reduceCtorEq, Nat.reduceLeDiff, Nat.reduceShiftRight, Nat.reduceAnd, Nat.reduceOr, Nat.reducePow, Nat.reduceBNe, Nat.reduceBEq]
  have e : gateM g d rows (inn + ops.length) ⟨7, A, B, N, S⟩ = (elOps false (stepOf 7) N (rowOf rows A) (fun _ => 0), elRow false (rowOf rows A) (inn + ops.length)) := rfl
  have hle9 := hE12.le
  have hle3 := hS3.le
  exact hQ H3 F3 v b _ (by rw [e]; exact hm3) (hE12.step.trans hS3) (by rw [e]; exact ho3) fun j hj => ⟨by have := (hb3 j hj).1; omega, (hb3 j hj).2⟩

theorem f64_8t (h : PGate F H bm inn ops outs d g rows vg vn va1 va2 vf1 vf2 first nx) {A B : Int} {N : BitVec 32} {S : Bool} (hA : 0 ≤ A ∧ A < rows.length) (hB : 0 ≤ B ∧ B < rows.length) (hrg : rows.length ≤ g.gates.length) (hS : S = true) (hrl : (rowOf rows A).length ≤ 7) (hQ : PGateQ F H bm inn ops outs d g rows vn va1 va2 vf1 vf2 first ⟨8, A, B, N, S⟩ Q) :
    C 64 #[.pointer (some ⟨bm, 0, none⟩), vg, GateM.v ⟨8, A, B, N, S⟩] H Q := by
  obtain ⟨v1, v2, rfl, hg1, hg2⟩ := h.c.ex
  obtain ⟨ag, cg, rfl, -, -, hgA⟩ := hg1.ex
  obtain ⟨au, cu, rfl, -, -, huA⟩ := hg2.ex
  obtain ⟨bl, ol, owl, Cl, cl, rfl, hkl, hCl⟩ := h.r.all (by omega)
  obtain ⟨bg, og, owg, Cg, rfl, hkg, hCg⟩ := hgA.all GateM.len (by omega)
  obtain ⟨a2, c2, hlA, hsA⟩ := hCl A hA.1 hA.2
  obtain ⟨a3, c3, hlB, hsB⟩ := hCl B hB.1 hB.2
  obtain ⟨gA, hgA', hsecA⟩ := sec_get (g := g) hA.1 (by omega)
  obtain ⟨gB, hgB', hsecB⟩ := sec_get (g := g) hB.1 (by omega)
  have hgS := (hCg _ _ hgA').1 4 (by omega)
  have hgS' := (hCg _ _ hgB').1 4 (by omega)
  simp only [GateM.c, List.getElem?_cons_succ, List.getElem?_cons_zero] at hgS hgS'
  rw [← hsecA] at hgS
  rw [← hsecB] at hgS'
  have hl0 := h.l
  have hd0 := h.dd
  refine SemC_fn TT.ok fn64 rfl rfl ?_
  simp only [Try.f64, GateM.v, start, KC_normal, go_sem, Nat.reduceEqDiff, Nat.reduceAdd, reduceIte, reduceCtorEq, Nat.reduceLeDiff, Nat.reduceShiftRight, Nat.reduceAnd, Nat.reduceOr, Nat.reducePow, Nat.reduceBNe, Nat.reduceBEq]
  generalize hX : (H.push _).push _ = H1
  obtain ⟨hE1, h4, h5, hn1⟩ := pre2 hX
  clear hX
  obtain ⟨mo, mu, hg⟩ := (h.m.ext hE1).get
  simp only [start, KC_normal, go_sem, Nat.reduceEqDiff, Nat.reduceAdd, reduceIte, reduceCtorEq, Nat.reduceLeDiff, Nat.reduceShiftRight, Nat.reduceAnd, Nat.reduceOr, Nat.reducePow, Nat.reduceBNe, Nat.reduceBEq, h5, Int.reduceEq]
  refine DRg_x TT.ok [0, 1, 3, 7, 0, 16, 63, 127, 0, 256, 768, 1792, 0, 4096, 16128, 32512, 255, 131071] 18 262143 233 rfl (by decide +kernel) ?_
  simp only [start, go_sem, Nat.reduceEqDiff, Nat.reduceAdd, reduceIte, reduceCtorEq, Nat.reduceLeDiff, Nat.reduceShiftRight, Nat.reduceAnd, Nat.reduceOr, Nat.reducePow, Nat.reduceBNe, Nat.reduceBEq, h5, hg, ia_int _ _ _ _ _ hA.1 hA.2, ia_int _ _ _ _ _ hB.1 hB.2, (hkl.step hE1.step).get, hlA, hlB]
  have hE2 : Ext H1 (H1.skip 18) := (Ext.refl H1).skip 18
  have h4 := (hE2.get _ (by omega)).trans h4
  have h5 := (hE2.get _ (by omega)).trans h5
  have hE12 := hE1.trans hE2
  clear hg
  generalize H1.skip 18 = H2 at *
  have hm2 := h.m.ext hE12
  obtain ⟨mo, mu, hg⟩ := hm2.get
  have hle := hE12.le
  have hkg2 := (hkg.step hE12.step).get
  have ha2 := hsA.step (hE12.step (F := F))
  have hb2 := hsB.step (hE12.step (F := F))
  obtain ⟨x2, y2, e2, hcap2, hlen2, hA2⟩ := ha2.ex
  cases e2
  obtain ⟨x3, y3, e3, hcap3, hlen3, hB2⟩ := hb2.ex
  cases e3
  have hX9 : Ext H H2 := hE12
  clear hE1 hE2 hkl hlA hlB hkg hCg hCl hgA hg1 hg2 huA
  generalize hTm : Tr.set _ _ _ _ = tm0
  obtain ⟨t0, t4, t5, t7, t11, t12⟩ : tm0.get 0 = some (.pointer (some ⟨bm, 0, none⟩)) ∧ tm0.get 4 = some (.pointer (some ⟨H.next, 0, none⟩)) ∧ tm0.get 5 = some (.pointer (some ⟨H.next + 1, 0, none⟩)) ∧ tm0.get 7 = some (.bool false) ∧ tm0.get 11 = some (.slice a2 (rowOf rows A).length c2) ∧ tm0.get 12 = some (.slice a3 (rowOf rows B).length c3) := by
    subst hTm
    refine ⟨?_, ?_, ?_, ?_, ?_, ?_⟩ <;> simp only [start, KC_normal, go_sem, Nat.reduceEqDiff, Nat.reduceAdd, reduceIte, reduceCtorEq, Nat.reduceLeDiff, Nat.reduceShiftRight, Nat.reduceAnd, Nat.reduceOr, Nat.reducePow, Nat.reduceBNe, Nat.reduceBEq]
  clear hTm
  simp only [start, KC_normal, go_sem, Nat.reduceEqDiff, Nat.reduceAdd, reduceIte, reduceCtorEq, Nat.reduceLeDiff, Nat.reduceShiftRight, Nat.reduceAnd, Nat.reduceOr, Nat.reducePow, Nat.reduceBNe, Nat.reduceBEq, t0, t4, t5, t7, t11, t12, h4, h5, hg, hkg2, hgS, hgS', ia_int _ _ _ _ _ hA.1 (show A < (g.gates.length : Int) by omega), ia_int _ _ _ _ _ hB.1 (show B < (g.gates.length : Int) by omega), Int.reduceEq, hS]
  refine DRg_x TT.ok [0, 0, 2, 6, 0, 16, 0, 127, 255] 9 511 233 rfl (by decide +kernel) ?_
  simp only [start, KC_normal, go_sem, Nat.reduceEqDiff, Nat.reduceAdd, reduceIte, reduceCtorEq, Nat.reduceLeDiff, Nat.reduceShiftRight, Nat.reduceAnd, Nat.reduceOr, Nat.reducePow, Nat.reduceBNe, Nat.reduceBEq, t0, t4, t5, t11, t12, h5]
  refine f77_c fun r hr => ?_
  subst hr
  simp only [start, KC_normal, go_sem, Nat.reduceEqDiff, Nat.reduceAdd, reduceIte, reduceCtorEq, Nat.reduceLeDiff, Nat.reduceShiftRight, Nat.reduceAnd, Nat.reduceOr, Nat.reducePow, Nat.reduceBNe, Nat.reduceBEq, t0, t4, t5, t11, t12, h5]
  have hE3 : Ext H2 (H2.skip 9) := (Ext.refl H2).skip 9
  generalize H2.skip 9 = H3 at *
  have hE12 := hE12.trans hE3
  refine f65_c (other := []) (hm2.ext hE3) (by omega) h.i (by omega) (by simp) (ha2.step hE3.step) ⟨none, 0, rfl, Nat.le_refl _, rfl, .nil rfl rfl rfl⟩ fun H3 F3 v b hm3 hS3 ho3 hb3 => ?_
  simp only [start, KC_normal, go_sem, Nat.reduceEqDiff, Nat.reduceAdd, reduceIte, reduceCtorEq, Nat.reduceLeDiff, Nat.reduceShiftRight, Nat.reduceAnd, Nat.reduceOr, Nat.reducePow, Nat.reduceBNe, Nat.reduceBEq]
  have e : gateM g d rows (inn + ops.length) ⟨8, A, B, N, S⟩ = (elOps false (stepOf 8) N (rowOf rows A) (fun _ => 0), elRow false (rowOf rows A) (inn + ops.length)) := rfl
  have hle9 := hE12.le
  have hle3 := hS3.le
  exact hQ H3 F3 v b _ (by rw [e]; exact hm3) (hE12.step.trans hS3) (by rw [e]; exact ho3) fun j hj => ⟨by have := (hb3 j hj).1; omega, (hb3 j hj).2⟩

theorem f64_8f (h : PGate F H bm inn ops outs d g rows vg vn va1 va2 vf1 vf2 first nx) {A B : Int} {N : BitVec 32} {S : Bool} (hA : 0 ≤ A ∧ A < rows.length) (hB : 0 ≤ B ∧ B < rows.length) (hrg : rows.length ≤ g.gates.length) (hS : S = false) (hrl : (rowOf rows A).length ≤ 7) (hQ : PGateQ F H bm inn ops outs d g rows vn va1 va2 vf1 vf2 first ⟨8, A, B, N, S⟩ Q) :
    C 64 #[.pointer (some ⟨bm, 0, none⟩), vg, GateM.v ⟨8, A, B, N, S⟩] H Q := by
  obtain ⟨v1, v2, rfl, hg1, hg2⟩ := h.c.ex
  obtain ⟨ag, cg, rfl, -, -, hgA⟩ := hg1.ex
  obtain ⟨au, cu, rfl, -, -, huA⟩ := hg2.ex
  obtain ⟨bl, ol, owl, Cl, cl, rfl, hkl, hCl⟩ := h.r.all (by omega)
  obtain ⟨bg, og, owg, Cg, rfl, hkg, hCg⟩ := hgA.all GateM.len (by omega)
  obtain ⟨a2, c2, hlA, hsA⟩ := hCl A hA.1 hA.2
  obtain ⟨a3, c3, hlB, hsB⟩ := hCl B hB.1 hB.2
  obtain ⟨gA, hgA', hsecA⟩ := sec_get (g := g) hA.1 (by omega)
  obtain ⟨gB, hgB', hsecB⟩ := sec_get (g := g) hB.1 (by omega)
  have hgS := (hCg _ _ hgA').1 4 (by omega)
  have hgS' := (hCg _ _ hgB').1 4 (by omega)
  simp only [GateM.c, List.getElem?_cons_succ, List.getElem?_cons_zero] at hgS hgS'
  rw [← hsecA] at hgS
  rw [← hsecB] at hgS'
  have hl0 := h.l
  have hd0 := h.dd
  refine SemC_fn TT.ok fn64 rfl rfl ?_
  simp only [Try.f64, GateM.v, start, KC_normal, go_sem, Nat.reduceEqDiff, Nat.reduceAdd, reduceIte, reduceCtorEq, Nat.reduceLeDiff, Nat.reduceShiftRight, Nat.reduceAnd, Nat.reduceOr, Nat.reducePow, Nat.reduceBNe, Nat.reduceBEq]
  generalize hX : (H.push _).push _ = H1
  obtain ⟨hE1, h4, h5, hn1⟩ := pre2 hX
  clear hX
  obtain ⟨mo, mu, hg⟩ := (h.m.ext hE1).get
  simp only [start, KC_normal, go_sem, Nat.reduceEqDiff, Nat.reduceAdd, reduceIte, reduceCtorEq, Nat.reduceLeDiff, Nat.reduceShiftRight, Nat.reduceAnd, Nat.reduceOr, Nat.reducePow, Nat.reduceBNe, Nat.reduceBEq, h5, Int.reduceEq]
  refine DRg_x TT.ok [0, 1, 3, 7, 0, 16, 63, 127, 0, 256, 768, 1792, 0, 4096, 16128, 32512, 255, 131071] 18 262143 233 rfl (by decide +kernel) ?_
  simp only [start, go_sem, Nat.reduceEqDiff, Nat.reduceAdd, reduceIte, reduceCtorEq, Nat.reduceLeDiff, Nat.reduceShiftRight, Nat.reduceAnd, Nat.reduceOr, Nat.reducePow, Nat.reduceBNe, Nat.reduceBEq, h5, hg, ia_int _ _ _ _ _ hA.1 hA.2, ia_int _ _ _ _ _ hB.1 hB.2, (hkl.step hE1.step).get, hlA, hlB]
  have hE2 : Ext H1 (H1.skip 18) := (Ext.refl H1).skip 18
  have h4 := (hE2.get _ (by omega)).trans h4
  have h5 := (hE2.get _ (by omega)).trans h5
  have hE12 := hE1.trans hE2
  clear hg
  generalize H1.skip 18 = H2 at *
  have hm2 := h.m.ext hE12
  obtain ⟨mo, mu, hg⟩ := hm2.get
  have hle := hE12.le
  have hkg2 := (hkg.step hE12.step).get
  have ha2 := hsA.step (hE12.step (F := F))
  have hb2 := hsB.step (hE12.step (F := F))
  obtain ⟨x2, y2, e2, hcap2, hlen2, hA2⟩ := ha2.ex
  cases e2
  obtain ⟨x3, y3, e3, hcap3, hlen3, hB2⟩ := hb2.ex
  cases e3
  have hX9 : Ext H H2 := hE12
  clear hE1 hE2 hkl hlA hlB hkg hCg hCl hgA hg1 hg2 huA
  generalize hTm : Tr.set _ _ _ _ = tm0
  obtain ⟨t0, t4, t5, t7, t11, t12⟩ : tm0.get 0 = some (.pointer (some ⟨bm, 0, none⟩)) ∧ tm0.get 4 = some (.pointer (some ⟨H.next, 0, none⟩)) ∧ tm0.get 5 = some (.pointer (some ⟨H.next + 1, 0, none⟩)) ∧ tm0.get 7 = some (.bool false) ∧ tm0.get 11 = some (.slice a2 (rowOf rows A).length c2) ∧ tm0.get 12 = some (.slice a3 (rowOf rows B).length c3) := by
    subst hTm
    refine ⟨?_, ?_, ?_, ?_, ?_, ?_⟩ <;> simp only [start, KC_normal, go_sem, Nat.reduceEqDiff, Nat.reduceAdd, reduceIte, reduceCtorEq, Nat.reduceLeDiff, Nat.reduceShiftRight, Nat.reduceAnd, Nat.reduceOr, Nat.reducePow, Nat.reduceBNe, Nat.reduceBEq]
  clear hTm
  simp only [start, KC_normal, go_sem, Nat.reduceEqDiff, Nat.reduceAdd, reduceIte, reduceCtorEq, Nat.reduceLeDiff, Nat.reduceShiftRight, Nat.reduceAnd, Nat.reduceOr, Nat.reducePow, Nat.reduceBNe, Nat.reduceBEq, t0, t4, t5, t7, t11, t12, h4, h5, hg, hkg2, hgS, hgS', ia_int _ _ _ _ _ hA.1 (show A < (g.gates.length : Int) by omega), ia_int _ _ _ _ _ hB.1 (show B < (g.gates.length : Int) by omega), Int.reduceEq, hS]
  refine DRg_x TT.ok [0, 0, 2, 6, 0, 16, 0, 127, 255] 9 511 233 rfl (by decide +kernel) ?_
  simp only [start, KC_normal, go_sem, Nat.reduceEqDiff, Nat.reduceAdd, reduceIte, reduceCtorEq, Nat.reduceLeDiff, Nat.reduceShiftRight, Nat.reduceAnd, Nat.reduceOr, Nat.reducePow, Nat.reduceBNe, Nat.reduceBEq, t0, t4, t5, t11, t12, h5]
  refine f77_c fun r hr => ?_
  subst hr
  simp only [start, KC_normal, go_sem, Nat.reduceEqDiff, Nat.reduceAdd, reduceIte, reduceCtorEq, Nat.reduceLeDiff, Nat.reduceShiftRight, Nat.reduceAnd, Nat.reduceOr, Nat.reducePow, Nat.reduceBNe, Nat.reduceBEq, t0, t4, t5, t11, t12, h5]
  have hE3 : Ext H2 (H2.skip 9) := (Ext.refl H2).skip 9
  generalize H2.skip 9 = H3 at *
  have hE12 := hE12.trans hE3
  refine f65_c (other := []) (hm2.ext hE3) (by omega) h.i (by omega) (by simp) (ha2.step hE3.step) ⟨none, 0, rfl, Nat.le_refl _, rfl, .nil rfl rfl rfl⟩ fun H3 F3 v b hm3 hS3 ho3 hb3 => ?_
  simp only [start, KC_normal, go_sem, Nat.reduceEqDiff, Nat.reduceAdd, reduceIte, reduceCtorEq, Nat.reduceLeDiff, Nat.reduceShiftRight, Nat.reduceAnd, Nat.reduceOr, Nat.reducePow, Nat.reduceBNe, Nat.reduceBEq]
  have e : gateM g d rows (inn + ops.length) ⟨8, A, B, N, S⟩ = (elOps false (stepOf 8) N (rowOf rows A) (fun _ => 0), elRow false (rowOf rows A) (inn + ops.length)) := rfl
  have hle9 := hE12.le
  have hle3 := hS3.le
  exact hQ H3 F3 v b _ (by rw [e]; exact hm3) (hE12.step.trans hS3) (by rw [e]; exact ho3) fun j hj => ⟨by have := (hb3 j hj).1; omega, (hb3 j hj).2⟩

theorem f64_5 (h : PGate F H bm inn ops outs d g rows vg vn va1 va2 vf1 vf2 first nx) {A B : Int} {N : BitVec 32} {S : Bool} (hA : 0 ≤ A ∧ A < rows.length) (hB : 0 ≤ B ∧ B < rows.length) (hrg : rows.length ≤ g.gates.length) (hS : S = false) (hw : (rowOf rows A).length = 1) (hrl : (rowOf rows A).length ≤ 7) (hQ : PGateQ F H bm inn ops outs d g rows vn va1 va2 vf1 vf2 first ⟨5, A, B, N, S⟩ Q) :
    C 64 #[.pointer (some ⟨bm, 0, none⟩), vg, GateM.v ⟨5, A, B, N, S⟩] H Q := by
  obtain ⟨v1, v2, rfl, hg1, hg2⟩ := h.c.ex
  obtain ⟨ag, cg, rfl, -, -, hgA⟩ := hg1.ex
  obtain ⟨au, cu, rfl, -, -, huA⟩ := hg2.ex
  obtain ⟨bl, ol, owl, Cl, cl, rfl, hkl, hCl⟩ := h.r.all (by omega)
  obtain ⟨bg, og, owg, Cg, rfl, hkg, hCg⟩ := hgA.all GateM.len (by omega)
  obtain ⟨a2, c2, hlA, hsA⟩ := hCl A hA.1 hA.2
  obtain ⟨a3, c3, hlB, hsB⟩ := hCl B hB.1 hB.2
  obtain ⟨gA, hgA', hsecA⟩ := sec_get (g := g) hA.1 (by omega)
  obtain ⟨gB, hgB', hsecB⟩ := sec_get (g := g) hB.1 (by omega)
  have hgS := (hCg _ _ hgA').1 4 (by omega)
  have hgS' := (hCg _ _ hgB').1 4 (by omega)
  simp only [GateM.c, List.getElem?_cons_succ, List.getElem?_cons_zero] at hgS hgS'
  rw [← hsecA] at hgS
  rw [← hsecB] at hgS'
  have hl0 := h.l
  have hd0 := h.dd
  refine SemC_fn TT.ok fn64 rfl rfl ?_
  simp only [Try.f64, GateM.v, start, KC_normal, go_sem, Nat.reduceEqDiff, Nat.reduceAdd, reduceIte, reduceCtorEq, Nat.reduceLeDiff, Nat.reduceShiftRight, Nat.reduceAnd, Nat.reduceOr, Nat.reducePow, Nat.reduceBNe, Nat.reduceBEq]
  generalize hX : (H.push _).push _ = H1
  obtain ⟨hE1, h4, h5, hn1⟩ := pre2 hX
  clear hX
  obtain ⟨mo, mu, hg⟩ := (h.m.ext hE1).get
  simp only [start, KC_normal, go_sem, Nat.reduceEqDiff, Nat.reduceAdd, reduceIte, reduceCtorEq, Nat.reduceLeDiff, Nat.reduceShiftRight, Nat.reduceAnd, Nat.reduceOr, Nat.reducePow, Nat.reduceBNe, Nat.reduceBEq, h5, Int.reduceEq]
  refine DRg_x TT.ok [0, 1, 3, 7, 0, 16, 63, 127, 0, 256, 768, 1792, 0, 4096, 16128, 32512, 255, 131071] 18 262143 233 rfl (by decide +kernel) ?_
  simp only [start, go_sem, Nat.reduceEqDiff, Nat.reduceAdd, reduceIte, reduceCtorEq, Nat.reduceLeDiff, Nat.reduceShiftRight, Nat.reduceAnd, Nat.reduceOr, Nat.reducePow, Nat.reduceBNe, Nat.reduceBEq, h5, hg, ia_int _ _ _ _ _ hA.1 hA.2, ia_int _ _ _ _ _ hB.1 hB.2, (hkl.step hE1.step).get, hlA, hlB]
  have hE2 : Ext H1 (H1.skip 18) := (Ext.refl H1).skip 18
  have h4 := (hE2.get _ (by omega)).trans h4
  have h5 := (hE2.get _ (by omega)).trans h5
  have hE12 := hE1.trans hE2
  clear hg
  generalize H1.skip 18 = H2 at *
  have hm2 := h.m.ext hE12
  obtain ⟨mo, mu, hg⟩ := hm2.get
  have hle := hE12.le
  have hkg2 := (hkg.step hE12.step).get
  have ha2 := hsA.step (hE12.step (F := F))
  have hb2 := hsB.step (hE12.step (F := F))
  obtain ⟨x2, y2, e2, hcap2, hlen2, hA2⟩ := ha2.ex
  cases e2
  obtain ⟨x3, y3, e3, hcap3, hlen3, hB2⟩ := hb2.ex
  cases e3
  have hX9 : Ext H H2 := hE12
  clear hE1 hE2 hkl hlA hlB hkg hCg hCl hgA hg1 hg2 huA
  generalize hTm : Tr.set _ _ _ _ = tm0
  obtain ⟨t0, t4, t5, t7, t11, t12⟩ : tm0.get 0 = some (.pointer (some ⟨bm, 0, none⟩)) ∧ tm0.get 4 = some (.pointer (some ⟨H.next, 0, none⟩)) ∧ tm0.get 5 = some (.pointer (some ⟨H.next + 1, 0, none⟩)) ∧ tm0.get 7 = some (.bool false) ∧ tm0.get 11 = some (.slice a2 (rowOf rows A).length c2) ∧ tm0.get 12 = some (.slice a3 (rowOf rows B).length c3) := by
    subst hTm
    refine ⟨?_, ?_, ?_, ?_, ?_, ?_⟩ <;> simp only [start, KC_normal, go_sem, Nat.reduceEqDiff, Nat.reduceAdd, reduceIte, reduceCtorEq, Nat.reduceLeDiff, Nat.reduceShiftRight, Nat.reduceAnd, Nat.reduceOr, Nat.reducePow, Nat.reduceBNe, Nat.reduceBEq]
  clear hTm
  simp only [start, KC_normal, go_sem, Nat.reduceEqDiff, Nat.reduceAdd, reduceIte, reduceCtorEq, Nat.reduceLeDiff, Nat.reduceShiftRight, Nat.reduceAnd, Nat.reduceOr, Nat.reducePow, Nat.reduceBNe, Nat.reduceBEq, t0, t4, t5, t7, t11, t12, h4, h5, hg, hkg2, hgS, hgS', ia_int _ _ _ _ _ hA.1 (show A < (g.gates.length : Int) by omega), ia_int _ _ _ _ _ hB.1 (show B < (g.gates.length : Int) by omega), Int.reduceEq, hS]
  refine DRg_x TT.ok [0, 0, 2, 6, 0, 16, 0, 127, 255] 9 511 233 rfl (by decide +kernel) ?_
  simp only [start, KC_normal, go_sem, Nat.reduceEqDiff, Nat.reduceAdd, reduceIte, reduceCtorEq, Nat.reduceLeDiff, Nat.reduceShiftRight, Nat.reduceAnd, Nat.reduceOr, Nat.reducePow, Nat.reduceBNe, Nat.reduceBEq, t0, t4, t5, t11, t12, h5]
  refine f77_c fun r hr => ?_
  subst hr
  simp only [start, KC_normal, go_sem, Nat.reduceEqDiff, Nat.reduceAdd, reduceIte, reduceCtorEq, Nat.reduceLeDiff, Nat.reduceShiftRight, Nat.reduceAnd, Nat.reduceOr, Nat.reducePow, Nat.reduceBNe, Nat.reduceBEq, t0, t4, t5, t11, t12, h5]
  have hE3 : Ext H2 (H2.skip 9) := (Ext.refl H2).skip 9
  generalize H2.skip 9 = H3 at *
  have hE12 := hE12.trans hE3
  refine f65_c (other := []) (hm2.ext hE3) (by omega) h.i (by omega) (by simp) (ha2.step hE3.step) ⟨none, 0, rfl, Nat.le_refl _, rfl, .nil rfl rfl rfl⟩ fun H3 F3 v b hm3 hS3 ho3 hb3 => ?_
  simp only [start, KC_normal, go_sem, Nat.reduceEqDiff, Nat.reduceAdd, reduceIte, reduceCtorEq, Nat.reduceLeDiff, Nat.reduceShiftRight, Nat.reduceAnd, Nat.reduceOr, Nat.reducePow, Nat.reduceBNe, Nat.reduceBEq]
  have e : gateM g d rows (inn + ops.length) ⟨5, A, B, N, S⟩ = (elOps false (stepOf 5) N (rowOf rows A) (fun _ => 0), elRow false (rowOf rows A) (inn + ops.length)) := by simp [gateM, stepOf, (el_single (k := 3) (n := inn + ops.length) (N := N) (bs := fun _ => 0) hw).1, (el_single (k := 3) (n := inn + ops.length) (N := N) (bs := fun _ => 0) hw).2]
  have hle9 := hE12.le
  have hle3 := hS3.le
  exact hQ H3 F3 v b _ (by rw [e]; exact hm3) (hE12.step.trans hS3) (by rw [e]; exact ho3) fun j hj => ⟨by have := (hb3 j hj).1; omega, (hb3 j hj).2⟩
end
end Go.Ab.Ex
