/- Parts of the proof, joined by program: Wire: a graph's words; Wire: how many random words the model takes; Wire: the document's count; Wire: the program's count; Wire: how many random words there are; Wire: which words come in, by the program; Wire: which words come in, by the document; Wire: the outputs' words; Wire: the law WireWords; Wire: the law WireRight, given the plain law; Wire: the plain law of WireRight: what a run adds, old steps, the gadgets' sums. (under way); Wire: a gadget's steps among others run as by themselves; Wire: the gadgets' sums: one pair more; Wire: the gadgets' sums: a pair more; Wire: the gadgets' sums. -/
import Derived.Test.YtmodeilippcbnaaR26
import Derived.Test.YtmodeilippcbnaaR16
import Derived.Test.YtmodeilippcbnaaR24
set_option linter.all false
section
namespace Go.Ab.Ex
open Go.Proofs
set_option maxRecDepth 10000
set_option maxHeartbeats 1000000

def fnG (K : Int) (N a b s p : Wd) : Wd := if K = 0 then N else if K = 1 then s else if K = 2 then p else if K = 3 then a &&& b else if K = 4 then a ^^^ b else if K = 5 then ~~~a else if K = 6 then shW 0 a N.toNat else if K = 7 then shW 1 a N.toNat else rotW a N.toNat
def gW (s p ws : List Wd) (x : GateM) : Wd := fnG x.K x.N (atW ws x.A.toNat) (atW ws x.B.toNat) (atW s x.N.toNat) (atW p x.N.toNat)
def wordsL (s p : List Wd) (l : List GateM) : List Wd := l.foldl (fun ws x => ws ++ [gW s p ws x]) []
theorem wordsL_next (s p : List Wd) {l : List GateM} {i : Nat} {x : GateM} (h : l[i]? = some x) : wordsL s p (l.take (i + 1)) = wordsL s p (l.take i) ++ [gW s p (wordsL s p (l.take i)) x] := by
  unfold wordsL
  rw [take_next h, List.foldl_append]; rfl
theorem foldl_len (s p : List Wd) : ∀ (l : List GateM) (ws : List Wd), (l.foldl (fun ws x => ws ++ [gW s p ws x]) ws).length = ws.length + l.length
  | [], ws => rfl
  | x :: l, ws => by
    rw [List.foldl_cons, foldl_len s p l]
    simp only [List.length_append, List.length_cons, List.length_nil]
    omega
theorem wordsL_len (s p : List Wd) (l : List GateM) : (wordsL s p l).length = l.length := by
  unfold wordsL
  rw [foldl_len]; simp

theorem graph_as8 {g : CircM} (h : GraphOk g) : CircOk (g.as 8) ∧ ∀ (i : Nat) (x : GateM), (g.as 8).gates[i]? = some x → x.K ≤ 8 := by
  have key : ∀ (i : Nat) (x : GateM), g.gates[i]? = some x → gOkM (g.as 8) i (asG 8 x) ∧ (asG 8 x).K ≤ 8 := by
    intro i x hx
    have h1 := h.c.t i _ (as_get (k := 5) hx)
    have h2 := h.k i _ (as_get (k := 5) hx)
    by_cases h12 : x.K = 12
    · have hK : (asG 5 x).K = 5 := by simp [asG, h12]
      obtain ⟨k1, k2, k3, k4⟩ := (gOk_5 hK).1 h1
      simp only [asG, h12, if_true] at k1 k2 k3 k4
      rw [as_sec] at k4
      refine ⟨(gOk_678 (.inr (.inr (by simp [asG, h12])))).2 ⟨?_, ?_, ?_, ?_⟩, by simp [asG, h12]⟩
      · simpa [asG, h12] using k1
      · simpa [asG, h12] using k2
      · simp only [asG, h12, if_true]; omega
      · simp only [asG, h12, if_true]; rw [as_sec]; exact k4
    · have ha : asG 5 x = x := if_neg h12
      have ha8 : asG 8 x = x := if_neg h12
      rw [ha] at h1 h2
      rw [ha8]
      refine ⟨?_, h2⟩
      obtain ⟨c1, c2, c3, c4, c5, c6, c7, c8, c9, c10, c11⟩ := h1
      refine ⟨c1, c2, c3, c4, c5, c6, c7, c8, c9, c10, ?_⟩
      rw [c11, as_sec, as_sec, as_sec, as_sec]
  have get : ∀ (i : Nat) (x : GateM), (g.as 8).gates[i]? = some x → ∃ y, g.gates[i]? = some y ∧ x = asG 8 y := by
    intro i x hx
    simp only [CircM.as, List.getElem?_map, Option.map_eq_some_iff] at hx
    obtain ⟨y, h1, h2⟩ := hx
    exact ⟨y, h1, h2.symm⟩
  refine ⟨⟨h.c.s, h.c.p, by have := h.c.l; rw [as_len] at this ⊢; exact this, fun i x hx => ?_, fun i x hx => ?_⟩, fun i x hx => ?_⟩
  · obtain ⟨y, hy, rfl⟩ := get i x hx; exact (key i y hy).1
  · have := h.c.o i x hx; rw [as_len] at this ⊢; exact this
  · obtain ⟨y, hy, rfl⟩ := get i x hx; exact (key i y hy).2

theorem f43_c {F : Fr} {H : Heap} {v vs vp : Value} {g : CircM} {s p : List Wd} (hv : CircR F H v g) (hl : g.gates.length < 1000000 ∧ g.outs.length < 1000000) (hok : CircOk g) (hk8 : ∀ (i : Nat) (x : GateM), g.gates[i]? = some x → x.K ≤ 8) (hs : Sl noF H 1 vs s.length (s.flatMap wordC)) (hp : Sl noF H 1 vp p.length (p.flatMap wordC)) {Q : Ret → Heap → Prop}
    (hQ : ∀ H' u b, Ext H H' → Own1 H' 1 ((wordsL s p g.gates).flatMap wordC) u (wordsL s p g.gates).length b → (∀ j, b = some j → H.next ≤ j) → Q (.ret u) H') : C 43 #[v, vs, vp] H Q := by
  have hv0 := hv.noF
  obtain ⟨v1, v2, rfl, hg1, hg2⟩ := hv.noF.ex
  obtain ⟨ag, cg, rfl, h3, h4, hgA⟩ := hg1.ex
  obtain ⟨au, cu, rfl, h5, h6, huA⟩ := hg2.ex
  refine SemC_fn TT.ok fn43 rfl rfl ?_
  simp only [Try.f43, start, KC_normal, go_sem, Nat.reduceEqDiff, Nat.reduceAdd, reduceIte, reduceCtorEq, Nat.reduceLeDiff, Nat.reduceShiftRight, Nat.reduceAnd, Nat.reduceOr, Nat.reducePow, Nat.reduceBNe, Nat.reduceBEq]
  generalize hX : (H.push _).push _ = H1
  obtain ⟨hE1, k3, k7, hn1⟩ := pre2 hX
  clear hX
  simp only [start, KC_normal, go_sem, Nat.reduceEqDiff, Nat.reduceAdd, reduceIte, reduceCtorEq, Nat.reduceLeDiff, Nat.reduceShiftRight, Nat.reduceAnd, Nat.reduceOr, Nat.reducePow, Nat.reduceBNe, Nat.reduceBEq, k3]
  refine f55_c (hv0.step hE1.step) hl fun r H2 hE2 hr => ?_
  obtain rfl := hr.2 hok
  have q3 := (hE2.get _ (by omega)).trans k3
  have q7 := (hE2.get _ (by omega)).trans k7
  have hE02 := hE1.trans hE2
  have hle2 : H.next + 2 ≤ H2.next := by have := hE2.le; omega
  simp only [start, KC_normal, go_sem, Nat.reduceEqDiff, Nat.reduceAdd, reduceIte, reduceCtorEq, Nat.reduceLeDiff, Nat.reduceShiftRight, Nat.reduceAnd, Nat.reduceOr, Nat.reducePow, Nat.reduceBNe, Nat.reduceBEq]
  refine wp_loop TT.ok rfl rfl (fun j st => ∃ tm H' i u b, st = ⟨tm, 116, [], false, H'⟩ ∧ j = g.gates.length - i ∧ i ≤ g.gates.length ∧ Ext H H' ∧ H.next < H'.next ∧ H'.get H.next = .cells true 4 [.slice ag g.gates.length cg, .int .i64 g.secrets, .int .i64 g.publics, .slice au g.outs.length cu] ∧
    Own1 H' 1 ((wordsL s p (g.gates.take i)).flatMap wordC) u (wordsL s p (g.gates.take i)).length b ∧ (∀ j, b = some j → H.next < j) ∧
    tm.get 1 = some vs ∧ tm.get 2 = some vp ∧ tm.get 3 = some (.pointer (some ⟨H.next, 0, none⟩)) ∧ tm.get 7 = some u ∧ tm.get 8 = some (.int .i64 (i : Nat))) g.gates.length ?_ ?_
  · refine ⟨_, H2, 0, .slice (some ⟨H.next + 1, 0, none⟩) 0 0, some (H.next + 1), rfl, rfl, Nat.zero_le _, hE02, by omega, q3, .blk _ 0 (by omega) q7 rfl, (fun j hj => by cases hj; omega), ?_, ?_, ?_, ?_, ?_⟩
    all_goals simp only [start, KC_normal, go_sem, Nat.reduceEqDiff, Nat.reduceAdd, reduceIte, reduceCtorEq, Nat.reduceLeDiff, Nat.reduceShiftRight, Nat.reduceAnd, Nat.reduceOr, Nat.reducePow, Nat.reduceBNe, Nat.reduceBEq]
    rfl
  · clear q3 q7 k3 k7 hE02 hle2 hE1 hE2 hn1 hr
    rintro j st - ⟨tm, H', i, u, b, rfl, hj, hi, hE, hle, k3, ho, hb, t1, t2, t3, t7, t8⟩
    simp only [start, KC_normal, go_sem, Nat.reduceEqDiff, Nat.reduceAdd, reduceIte, reduceCtorEq, Nat.reduceLeDiff, Nat.reduceShiftRight, Nat.reduceAnd, Nat.reduceOr, Nat.reducePow, Nat.reduceBNe, Nat.reduceBEq, t3, t8, k3]
    refine CN_split (fun hlt => ?_) (fun hge => ?_)
    · have hlt' : i < g.gates.length := by omega
      obtain ⟨x, hx⟩ : ∃ x, g.gates[i]? = some x := ⟨_, List.getElem?_eq_getElem hlt'⟩
      obtain ⟨bg, og, owg, Cg, rfl, hkg, hCg⟩ := hgA.all GateM.len (by omega)
      have hseg := (hCg i x hx).2
      simp only [GateM.c] at hseg
      have hkg' := hkg.step hE.step
      have hgo := hok.t i x hx
      have hK8 := hk8 i x hx
      have hlen : (wordsL s p (g.gates.take i)).length = i := by rw [wordsL_len, List.length_take]; omega
      have hnx := wordsL_next s p hx
      generalize wordsL s p (g.gates.take i) = ws at *
      have e2 : IntKind.i64.wrap ((i : Int) + 1) = ((i + 1 : Nat) : Int) := by rw [wrap_i64 _ (by omega) (by omega)]; rfl
      simp only [start, KC_normal, go_sem, Nat.reduceEqDiff, Nat.reduceAdd, reduceIte, reduceCtorEq, Nat.reduceLeDiff, Nat.reduceShiftRight, Nat.reduceAnd, Nat.reduceOr, Nat.reducePow, Nat.reduceBNe, Nat.reduceBEq, t3, t8, k3, ia_in _ _ _ _ _ hlt', hkg'.get, hseg]
      generalize hX : (H'.push _).put _ _ = H5
      obtain ⟨hE5, hbx, hn5⟩ := new_put hX
      clear hX
      have hE05 := hE.trans hE5
      have k35 := (hE5.get _ hle).trans k3
      have ho5 := ho.ext hE5
      -- what comes last
      have fin : ∀ (H6 : Heap) (w : Wd), Ext H5 H6 → w = gW s p ws x → ∃ v7 H7, appendC TT (H6.push (.cells true 1 [.int .u32 (w.toNat : Int)])) #[43, 43] u (.slice (some ⟨H6.next, 0, none⟩) 1 1) = some (.val v7 H7) ∧
          ∃ j', j = j' + 1 ∧ ∀ tm' : Tr Value, tm'.get 1 = some vs → tm'.get 2 = some vp → tm'.get 3 = some (.pointer (some ⟨H.next, 0, none⟩)) → tm'.get 7 = some v7 → tm'.get 8 = some (.int .i64 ((i + 1 : Nat) : Int)) →
          ∃ tm H' i u b, (⟨tm', 116, [], false, H7⟩ : St) = ⟨tm, 116, [], false, H'⟩ ∧ j' = g.gates.length - i ∧ i ≤ g.gates.length ∧ Ext H H' ∧ H.next < H'.next ∧ H'.get H.next = .cells true 4 [.slice (some ⟨bg, og, none⟩) g.gates.length cg, .int .i64 g.secrets, .int .i64 g.publics, .slice au g.outs.length cu] ∧
          Own1 H' 1 ((wordsL s p (g.gates.take i)).flatMap wordC) u (wordsL s p (g.gates.take i)).length b ∧ (∀ j, b = some j → H.next < j) ∧
          tm.get 1 = some vs ∧ tm.get 2 = some vp ∧ tm.get 3 = some (.pointer (some ⟨H.next, 0, none⟩)) ∧ tm.get 7 = some u ∧ tm.get 8 = some (.int .i64 (i : Nat)) := by
        intro H6 w hE6 hw
        obtain ⟨v7, H7, b7, he7, ho7, hS7, hb7⟩ := app1_wd (ho5.ext hE6) (by omega) w
        refine ⟨v7, H7, he7, g.gates.length - (i + 1), by omega, fun tm' g1 g2 g3 g7 g8 => ⟨tm', H7, i + 1, v7, b7, rfl, rfl, by omega, (hE05.trans hE6).app hS7 (fun j hj => by have := hb j hj; omega), ?_, ?_, ?_, ?_, g1, g2, g3, g7, g8⟩⟩
        · have := (hS7 noF).le; have := hE6.le; omega
        · rw [(hS7 noF).get _ (by have := hE6.le; omega) (fun h => h.elim (fun h => h) (fun h => by have := hb _ h; omega)), hE6.get _ (by omega)]; exact k35
        · rw [hnx, ← hw]; exact ho7
        · intro j hj; have := hb7 j hj; have := hE6.le; omega
      clear hnx ho hkg' hn5
      have hK0 := hgo.1
      have hc9 : x.K = 0 ∨ x.K = 1 ∨ x.K = 2 ∨ x.K = 3 ∨ x.K = 4 ∨ x.K = 5 ∨ x.K = 6 ∨ x.K = 7 ∨ x.K = 8 := by omega
      have hN31 : 6 ≤ x.K ∧ x.K ≤ 8 → (x.N.toNat : Int) ≤ 31 := hgo.2.2.2.2.2.2.2.2.1
      have hAB := hgo.2.2
      have hs5 := (hs.step hE05.step)
      have hp5 := (hp.step hE05.step)
      by_cases hi0 : (0 : Int) < (i : Nat)
      · -- the operands
        have hA : 0 ≤ x.A ∧ x.A < (ws.length : Int) := by
          by_cases h : 0 < takesG x.K
          · have := hAB.2.2.1 h; omega
          · have := hAB.2.1 (by omega); omega
        have hB : 0 ≤ x.B ∧ x.B < (ws.length : Int) := by
          by_cases h : 1 < takesG x.K
          · have := hAB.2.2.2.1 h; omega
          · have := hAB.1 (by omega); omega
        obtain ⟨kw, rfl, hgw, hkw, hcA⟩ := Ex.Own1.word ho5 (n := x.A.toNat) (by omega)
        obtain ⟨kw', hu', hgw', hkw', hcB⟩ := Ex.Own1.word ho5 (n := x.B.toNat) (by omega)
        cases hu'
        simp only [start, KC_normal, go_sem, Nat.reduceEqDiff, Nat.reduceAdd, reduceIte, reduceCtorEq, Nat.reduceLeDiff, Nat.reduceShiftRight, Nat.reduceAnd, Nat.reduceOr, Nat.reducePow, Nat.reduceBNe, Nat.reduceBEq, t8, hi0]
        refine DRg_x TT.ok [0, 0, 2, 7, 15, 0, 0, 64, 224, 480, 31, 2047] 12 4095 116 rfl (by decide +kernel) ?_
        have hg5 : (H5.skip 12).get kw = _ := hgw
        simp only [start, go_sem, Nat.reduceEqDiff, Nat.reduceAdd, reduceIte, reduceCtorEq, Nat.reduceLeDiff, Nat.reduceShiftRight, Nat.reduceAnd, Nat.reduceOr, Nat.reducePow, Nat.reduceBNe, Nat.reduceBEq, t7, hbx, ia_int _ _ _ _ _ hA.1 hA.2, ia_int _ _ _ _ _ hB.1 hB.2, hgw, hcA, hcB]
        generalize hT : Tr.set _ _ _ _ = tm2
        obtain ⟨g1, g2, g3, g7, g8, g9, g11, g12⟩ : tm2.get 1 = some vs ∧ tm2.get 2 = some vp ∧ tm2.get 3 = some (.pointer (some ⟨H.next, 0, none⟩)) ∧ tm2.get 7 = some (.slice (some ⟨kw, 0, none⟩) ws.length ws.length) ∧ tm2.get 8 = some (.int .i64 (i : Nat)) ∧ tm2.get 9 = some (.pointer (some ⟨H'.next, 0, none⟩)) ∧ tm2.get 11 = some (.int .u32 (((atW ws x.A.toNat).toNat : Int))) ∧ tm2.get 12 = some (.int .u32 (((atW ws x.B.toNat).toNat : Int))) := by
          subst hT
          refine ⟨?_, ?_, ?_, ?_, ?_, ?_, ?_, ?_⟩ <;> simp only [start, KC_normal, go_sem, Nat.reduceEqDiff, Nat.reduceAdd, reduceIte, reduceCtorEq, Nat.reduceLeDiff, Nat.reduceShiftRight, Nat.reduceAnd, Nat.reduceOr, Nat.reducePow, Nat.reduceBNe, Nat.reduceBEq, t1, t2, t3, t7, t8]
        clear hT
        have hE6 : Ext H5 (H5.skip 12) := (Ext.refl H5).skip 12
        have hbx6 : (H5.skip 12).get H'.next = _ := hbx
        clear hg5
        generalize H5.skip 12 = H6 at *
        rw [KC_normal]
        rcases hc9 with hK | hK | hK | hK | hK | hK | hK | hK | hK
        · have hop : gW s p ws x = x.N := by unfold gW fnG; rw [hK]; rfl
          obtain ⟨v7, H7, he7, j', hj', fin⟩ := fin H6 (x.N) hE6 hop.symm
          simp only [start, KC_normal, go_sem, Nat.reduceEqDiff, Nat.reduceAdd, reduceIte, reduceCtorEq, Nat.reduceLeDiff, Nat.reduceShiftRight, Nat.reduceAnd, Nat.reduceOr, Nat.reducePow, Nat.reduceBNe, Nat.reduceBEq, g1, g2, g3, g7, g8, g9, g11, g12, hbx6, hK, he7, Int.reduceEq, Int.reduceLT]
          refine ⟨j', hj', fin _ ?_ ?_ ?_ ?_ ?_⟩
          all_goals simp only [start, KC_normal, go_sem, Nat.reduceEqDiff, Nat.reduceAdd, reduceIte, reduceCtorEq, Nat.reduceLeDiff, Nat.reduceShiftRight, Nat.reduceAnd, Nat.reduceOr, Nat.reducePow, Nat.reduceBNe, Nat.reduceBEq, g1, g2, g3]
          rw [e2]
        · have hop : gW s p ws x = atW s x.N.toNat := by unfold gW fnG; rw [hK]; rfl
          simp only [start, KC_normal, go_sem, Nat.reduceEqDiff, Nat.reduceAdd, reduceIte, reduceCtorEq, Nat.reduceLeDiff, Nat.reduceShiftRight, Nat.reduceAnd, Nat.reduceOr, Nat.reducePow, Nat.reduceBNe, Nat.reduceBEq, g1, g2, g3, g7, g8, g9, g11, g12, hbx6, hK, Int.reduceEq, Int.reduceLT]
          refine f58_c (hs5.step hE6.step) ?_
          obtain ⟨v7, H7, he7, j', hj', fin⟩ := fin H6 (atW s x.N.toNat) (hE6) hop.symm
          simp only [start, KC_normal, go_sem, Nat.reduceEqDiff, Nat.reduceAdd, reduceIte, reduceCtorEq, Nat.reduceLeDiff, Nat.reduceShiftRight, Nat.reduceAnd, Nat.reduceOr, Nat.reducePow, Nat.reduceBNe, Nat.reduceBEq, g1, g2, g3, g7, g8, he7]
          refine ⟨j', hj', fin _ ?_ ?_ ?_ ?_ ?_⟩
          all_goals simp only [start, KC_normal, go_sem, Nat.reduceEqDiff, Nat.reduceAdd, reduceIte, reduceCtorEq, Nat.reduceLeDiff, Nat.reduceShiftRight, Nat.reduceAnd, Nat.reduceOr, Nat.reducePow, Nat.reduceBNe, Nat.reduceBEq, g1, g2, g3]
          rw [e2]
        · have hop : gW s p ws x = atW p x.N.toNat := by unfold gW fnG; rw [hK]; rfl
          simp only [start, KC_normal, go_sem, Nat.reduceEqDiff, Nat.reduceAdd, reduceIte, reduceCtorEq, Nat.reduceLeDiff, Nat.reduceShiftRight, Nat.reduceAnd, Nat.reduceOr, Nat.reducePow, Nat.reduceBNe, Nat.reduceBEq, g1, g2, g3, g7, g8, g9, g11, g12, hbx6, hK, Int.reduceEq, Int.reduceLT]
          refine f58_c (hp5.step hE6.step) ?_
          obtain ⟨v7, H7, he7, j', hj', fin⟩ := fin H6 (atW p x.N.toNat) (hE6) hop.symm
          simp only [start, KC_normal, go_sem, Nat.reduceEqDiff, Nat.reduceAdd, reduceIte, reduceCtorEq, Nat.reduceLeDiff, Nat.reduceShiftRight, Nat.reduceAnd, Nat.reduceOr, Nat.reducePow, Nat.reduceBNe, Nat.reduceBEq, g1, g2, g3, g7, g8, he7]
          refine ⟨j', hj', fin _ ?_ ?_ ?_ ?_ ?_⟩
          all_goals simp only [start, KC_normal, go_sem, Nat.reduceEqDiff, Nat.reduceAdd, reduceIte, reduceCtorEq, Nat.reduceLeDiff, Nat.reduceShiftRight, Nat.reduceAnd, Nat.reduceOr, Nat.reducePow, Nat.reduceBNe, Nat.reduceBEq, g1, g2, g3]
          rw [e2]
        · have hop : gW s p ws x = atW ws x.A.toNat &&& atW ws x.B.toNat := by unfold gW fnG; rw [hK]; rfl
          obtain ⟨v7, H7, he7, j', hj', fin⟩ := fin H6 (atW ws x.A.toNat &&& atW ws x.B.toNat) hE6 hop.symm
          simp only [start, KC_normal, go_sem, Nat.reduceEqDiff, Nat.reduceAdd, reduceIte, reduceCtorEq, Nat.reduceLeDiff, Nat.reduceShiftRight, Nat.reduceAnd, Nat.reduceOr, Nat.reducePow, Nat.reduceBNe, Nat.reduceBEq, g1, g2, g3, g7, g8, g9, g11, g12, hbx6, hK, i_andw, he7, Int.reduceEq, Int.reduceLT]
          refine ⟨j', hj', fin _ ?_ ?_ ?_ ?_ ?_⟩
          all_goals simp only [start, KC_normal, go_sem, Nat.reduceEqDiff, Nat.reduceAdd, reduceIte, reduceCtorEq, Nat.reduceLeDiff, Nat.reduceShiftRight, Nat.reduceAnd, Nat.reduceOr, Nat.reducePow, Nat.reduceBNe, Nat.reduceBEq, g1, g2, g3]
          rw [e2]
        · have hop : gW s p ws x = atW ws x.A.toNat ^^^ atW ws x.B.toNat := by unfold gW fnG; rw [hK]; rfl
          obtain ⟨v7, H7, he7, j', hj', fin⟩ := fin H6 (atW ws x.A.toNat ^^^ atW ws x.B.toNat) hE6 hop.symm
          simp only [start, KC_normal, go_sem, Nat.reduceEqDiff, Nat.reduceAdd, reduceIte, reduceCtorEq, Nat.reduceLeDiff, Nat.reduceShiftRight, Nat.reduceAnd, Nat.reduceOr, Nat.reducePow, Nat.reduceBNe, Nat.reduceBEq, g1, g2, g3, g7, g8, g9, g11, g12, hbx6, hK, i_xorw, he7, Int.reduceEq, Int.reduceLT]
          refine ⟨j', hj', fin _ ?_ ?_ ?_ ?_ ?_⟩
          all_goals simp only [start, KC_normal, go_sem, Nat.reduceEqDiff, Nat.reduceAdd, reduceIte, reduceCtorEq, Nat.reduceLeDiff, Nat.reduceShiftRight, Nat.reduceAnd, Nat.reduceOr, Nat.reducePow, Nat.reduceBNe, Nat.reduceBEq, g1, g2, g3]
          rw [e2]
        · have hop : gW s p ws x = ~~~(atW ws x.A.toNat) := by unfold gW fnG; rw [hK]; rfl
          obtain ⟨v7, H7, he7, j', hj', fin⟩ := fin H6 (~~~(atW ws x.A.toNat)) hE6 hop.symm
          simp only [start, KC_normal, go_sem, Nat.reduceEqDiff, Nat.reduceAdd, reduceIte, reduceCtorEq, Nat.reduceLeDiff, Nat.reduceShiftRight, Nat.reduceAnd, Nat.reduceOr, Nat.reducePow, Nat.reduceBNe, Nat.reduceBEq, g1, g2, g3, g7, g8, g9, g11, g12, hbx6, hK, wrap_not, he7, Int.reduceEq, Int.reduceLT]
          refine ⟨j', hj', fin _ ?_ ?_ ?_ ?_ ?_⟩
          all_goals simp only [start, KC_normal, go_sem, Nat.reduceEqDiff, Nat.reduceAdd, reduceIte, reduceCtorEq, Nat.reduceLeDiff, Nat.reduceShiftRight, Nat.reduceAnd, Nat.reduceOr, Nat.reducePow, Nat.reduceBNe, Nat.reduceBEq, g1, g2, g3]
          rw [e2]
        · have hop : gW s p ws x = shW 0 (atW ws x.A.toNat) x.N.toNat := by unfold gW fnG; rw [hK]; rfl
          simp only [start, KC_normal, go_sem, Nat.reduceEqDiff, Nat.reduceAdd, reduceIte, reduceCtorEq, Nat.reduceLeDiff, Nat.reduceShiftRight, Nat.reduceAnd, Nat.reduceOr, Nat.reducePow, Nat.reduceBNe, Nat.reduceBEq, g1, g2, g3, g7, g8, g9, g11, g12, hbx6, hK, Int.reduceEq, Int.reduceLT]
          refine f41_c (op := 0) (.inl rfl) (by have := hN31 (by omega); omega) fun H8 cc hE8 => ?_
          obtain ⟨v7, H7, he7, j', hj', fin⟩ := fin H8 (shW 0 (atW ws x.A.toNat) x.N.toNat) (hE6.trans hE8) hop.symm
          simp only [start, KC_normal, go_sem, Nat.reduceEqDiff, Nat.reduceAdd, reduceIte, reduceCtorEq, Nat.reduceLeDiff, Nat.reduceShiftRight, Nat.reduceAnd, Nat.reduceOr, Nat.reducePow, Nat.reduceBNe, Nat.reduceBEq, g1, g2, g3, g7, g8, he7]
          refine ⟨j', hj', fin _ ?_ ?_ ?_ ?_ ?_⟩
          all_goals simp only [start, KC_normal, go_sem, Nat.reduceEqDiff, Nat.reduceAdd, reduceIte, reduceCtorEq, Nat.reduceLeDiff, Nat.reduceShiftRight, Nat.reduceAnd, Nat.reduceOr, Nat.reducePow, Nat.reduceBNe, Nat.reduceBEq, g1, g2, g3]
          rw [e2]
        · have hop : gW s p ws x = shW 1 (atW ws x.A.toNat) x.N.toNat := by unfold gW fnG; rw [hK]; rfl
          simp only [start, KC_normal, go_sem, Nat.reduceEqDiff, Nat.reduceAdd, reduceIte, reduceCtorEq, Nat.reduceLeDiff, Nat.reduceShiftRight, Nat.reduceAnd, Nat.reduceOr, Nat.reducePow, Nat.reduceBNe, Nat.reduceBEq, g1, g2, g3, g7, g8, g9, g11, g12, hbx6, hK, Int.reduceEq, Int.reduceLT]
          refine f41_c (op := 1) (.inr rfl) (by have := hN31 (by omega); omega) fun H8 cc hE8 => ?_
          obtain ⟨v7, H7, he7, j', hj', fin⟩ := fin H8 (shW 1 (atW ws x.A.toNat) x.N.toNat) (hE6.trans hE8) hop.symm
          simp only [start, KC_normal, go_sem, Nat.reduceEqDiff, Nat.reduceAdd, reduceIte, reduceCtorEq, Nat.reduceLeDiff, Nat.reduceShiftRight, Nat.reduceAnd, Nat.reduceOr, Nat.reducePow, Nat.reduceBNe, Nat.reduceBEq, g1, g2, g3, g7, g8, he7]
          refine ⟨j', hj', fin _ ?_ ?_ ?_ ?_ ?_⟩
          all_goals simp only [start, KC_normal, go_sem, Nat.reduceEqDiff, Nat.reduceAdd, reduceIte, reduceCtorEq, Nat.reduceLeDiff, Nat.reduceShiftRight, Nat.reduceAnd, Nat.reduceOr, Nat.reducePow, Nat.reduceBNe, Nat.reduceBEq, g1, g2, g3]
          rw [e2]
        · have hop : gW s p ws x = rotW (atW ws x.A.toNat) x.N.toNat := by unfold gW fnG; rw [hK]; rfl
          simp only [start, KC_normal, go_sem, Nat.reduceEqDiff, Nat.reduceAdd, reduceIte, reduceCtorEq, Nat.reduceLeDiff, Nat.reduceShiftRight, Nat.reduceAnd, Nat.reduceOr, Nat.reducePow, Nat.reduceBNe, Nat.reduceBEq, g1, g2, g3, g7, g8, g9, g11, g12, hbx6, hK, Int.reduceEq, Int.reduceLT]
          refine f42_c (by have := hN31 (by omega); omega) fun H8 hE8 => ?_
          obtain ⟨v7, H7, he7, j', hj', fin⟩ := fin H8 (rotW (atW ws x.A.toNat) x.N.toNat) (hE6.trans hE8) hop.symm
          simp only [start, KC_normal, go_sem, Nat.reduceEqDiff, Nat.reduceAdd, reduceIte, reduceCtorEq, Nat.reduceLeDiff, Nat.reduceShiftRight, Nat.reduceAnd, Nat.reduceOr, Nat.reducePow, Nat.reduceBNe, Nat.reduceBEq, g1, g2, g3, g7, g8, he7]
          refine ⟨j', hj', fin _ ?_ ?_ ?_ ?_ ?_⟩
          all_goals simp only [start, KC_normal, go_sem, Nat.reduceEqDiff, Nat.reduceAdd, reduceIte, reduceCtorEq, Nat.reduceLeDiff, Nat.reduceShiftRight, Nat.reduceAnd, Nat.reduceOr, Nat.reducePow, Nat.reduceBNe, Nat.reduceBEq, g1, g2, g3]
          rw [e2]
      · have hi00 : i = 0 := by omega
        have hA : x.A = 0 := hAB.2.1 (by
          have := hAB.2.2.1
          by_cases h : takesG x.K < 1
          · exact h
          · have := this (by omega); omega)
        have hw0 : ws = [] := List.eq_nil_of_length_eq_zero (by omega)
        have ht0 : takesG x.K < 1 := by
          by_cases h : takesG x.K < 1
          · exact h
          · have := hAB.2.2.1 (by omega); omega
        simp only [start, go_sem, Nat.reduceEqDiff, Nat.reduceAdd, reduceIte, reduceCtorEq, Nat.reduceLeDiff, Nat.reduceShiftRight, Nat.reduceAnd, Nat.reduceOr, Nat.reducePow, Nat.reduceBNe, Nat.reduceBEq, t8, hi0]
        generalize hT : Tr.set _ _ _ _ = tm2
        obtain ⟨g1, g2, g3, g7, g8, g9, g11, g12⟩ : tm2.get 1 = some vs ∧ tm2.get 2 = some vp ∧ tm2.get 3 = some (.pointer (some ⟨H.next, 0, none⟩)) ∧ tm2.get 7 = some u ∧ tm2.get 8 = some (.int .i64 (i : Nat)) ∧ tm2.get 9 = some (.pointer (some ⟨H'.next, 0, none⟩)) ∧ tm2.get 11 = some (.int .u32 (0)) ∧ tm2.get 12 = some (.int .u32 (0)) := by
          subst hT
          refine ⟨?_, ?_, ?_, ?_, ?_, ?_, ?_, ?_⟩ <;> simp only [start, KC_normal, go_sem, Nat.reduceEqDiff, Nat.reduceAdd, reduceIte, reduceCtorEq, Nat.reduceLeDiff, Nat.reduceShiftRight, Nat.reduceAnd, Nat.reduceOr, Nat.reducePow, Nat.reduceBNe, Nat.reduceBEq, t1, t2, t3, t7, t8]
        clear hT
        have hE6 : Ext H5 H5 := Ext.refl H5
        have hbx6 := hbx
        have hc3 : x.K = 0 ∨ x.K = 1 ∨ x.K = 2 := by
          rcases hc9 with hK | hK | hK | hK | hK | hK | hK | hK | hK
          all_goals first | omega | (rw [hK] at ht0; exact absurd ht0 (by decide))
        rw [KC_normal]
        rcases hc3 with hK | hK | hK
        · have hop : gW s p ws x = x.N := by unfold gW fnG; rw [hK]; rfl
          obtain ⟨v7, H7, he7, j', hj', fin⟩ := fin H5 (x.N) hE6 hop.symm
          simp only [start, KC_normal, go_sem, Nat.reduceEqDiff, Nat.reduceAdd, reduceIte, reduceCtorEq, Nat.reduceLeDiff, Nat.reduceShiftRight, Nat.reduceAnd, Nat.reduceOr, Nat.reducePow, Nat.reduceBNe, Nat.reduceBEq, g1, g2, g3, g7, g8, g9, g11, g12, hbx6, hK, he7, Int.reduceEq, Int.reduceLT]
          refine ⟨j', hj', fin _ ?_ ?_ ?_ ?_ ?_⟩
          all_goals simp only [start, KC_normal, go_sem, Nat.reduceEqDiff, Nat.reduceAdd, reduceIte, reduceCtorEq, Nat.reduceLeDiff, Nat.reduceShiftRight, Nat.reduceAnd, Nat.reduceOr, Nat.reducePow, Nat.reduceBNe, Nat.reduceBEq, g1, g2, g3]
          rw [e2]
        · have hop : gW s p ws x = atW s x.N.toNat := by unfold gW fnG; rw [hK]; rfl
          simp only [start, KC_normal, go_sem, Nat.reduceEqDiff, Nat.reduceAdd, reduceIte, reduceCtorEq, Nat.reduceLeDiff, Nat.reduceShiftRight, Nat.reduceAnd, Nat.reduceOr, Nat.reducePow, Nat.reduceBNe, Nat.reduceBEq, g1, g2, g3, g7, g8, g9, g11, g12, hbx6, hK, Int.reduceEq, Int.reduceLT]
          refine f58_c (hs5.step hE6.step) ?_
          obtain ⟨v7, H7, he7, j', hj', fin⟩ := fin H5 (atW s x.N.toNat) (hE6) hop.symm
          simp only [start, KC_normal, go_sem, Nat.reduceEqDiff, Nat.reduceAdd, reduceIte, reduceCtorEq, Nat.reduceLeDiff, Nat.reduceShiftRight, Nat.reduceAnd, Nat.reduceOr, Nat.reducePow, Nat.reduceBNe, Nat.reduceBEq, g1, g2, g3, g7, g8, he7]
          refine ⟨j', hj', fin _ ?_ ?_ ?_ ?_ ?_⟩
          all_goals simp only [start, KC_normal, go_sem, Nat.reduceEqDiff, Nat.reduceAdd, reduceIte, reduceCtorEq, Nat.reduceLeDiff, Nat.reduceShiftRight, Nat.reduceAnd, Nat.reduceOr, Nat.reducePow, Nat.reduceBNe, Nat.reduceBEq, g1, g2, g3]
          rw [e2]
        · have hop : gW s p ws x = atW p x.N.toNat := by unfold gW fnG; rw [hK]; rfl
          simp only [start, KC_normal, go_sem, Nat.reduceEqDiff, Nat.reduceAdd, reduceIte, reduceCtorEq, Nat.reduceLeDiff, Nat.reduceShiftRight, Nat.reduceAnd, Nat.reduceOr, Nat.reducePow, Nat.reduceBNe, Nat.reduceBEq, g1, g2, g3, g7, g8, g9, g11, g12, hbx6, hK, Int.reduceEq, Int.reduceLT]
          refine f58_c (hp5.step hE6.step) ?_
          obtain ⟨v7, H7, he7, j', hj', fin⟩ := fin H5 (atW p x.N.toNat) (hE6) hop.symm
          simp only [start, KC_normal, go_sem, Nat.reduceEqDiff, Nat.reduceAdd, reduceIte, reduceCtorEq, Nat.reduceLeDiff, Nat.reduceShiftRight, Nat.reduceAnd, Nat.reduceOr, Nat.reducePow, Nat.reduceBNe, Nat.reduceBEq, g1, g2, g3, g7, g8, he7]
          refine ⟨j', hj', fin _ ?_ ?_ ?_ ?_ ?_⟩
          all_goals simp only [start, KC_normal, go_sem, Nat.reduceEqDiff, Nat.reduceAdd, reduceIte, reduceCtorEq, Nat.reduceLeDiff, Nat.reduceShiftRight, Nat.reduceAnd, Nat.reduceOr, Nat.reducePow, Nat.reduceBNe, Nat.reduceBEq, g1, g2, g3]
          rw [e2]
    · have hi' : i = g.gates.length := by omega
      subst hi'
      simp only [start, KC_normal, go_sem, Nat.reduceEqDiff, Nat.reduceAdd, reduceIte, reduceCtorEq, Nat.reduceLeDiff, Nat.reduceShiftRight, Nat.reduceAnd, Nat.reduceOr, Nat.reducePow, Nat.reduceBNe, Nat.reduceBEq, t7]
      rw [List.take_length] at ho
      exact hQ H' u b hE ho fun j hj => by have := hb j hj; omega
theorem f26_c {F : Fr} {H : Heap} {v vs vp : Value} {g : CircM} {s p : List Wd} (hv : CircR F H v g) (hl : g.gates.length < 1000000 ∧ g.outs.length < 1000000) (hok : GraphOk g) (hs : Sl noF H 1 vs s.length (s.flatMap wordC)) (hp : Sl noF H 1 vp p.length (p.flatMap wordC)) {Q : Ret → Heap → Prop}
    (hQ : ∀ H' u b, Ext H H' → Own1 H' 1 ((wordsL s p (g.as 8).gates).flatMap wordC) u (wordsL s p (g.as 8).gates).length b → (∀ j, b = some j → H.next ≤ j) → Q (.ret u) H') : C 26 #[v, vs, vp] H Q := by
  have hv0 := hv.noF
  obtain ⟨v1, v2, rfl, hg1, hg2⟩ := hv.noF.ex
  obtain ⟨ag, cg, rfl, h3, h4, hgA⟩ := hg1.ex
  obtain ⟨au, cu, rfl, h5, h6, huA⟩ := hg2.ex
  refine SemC_fn TT.ok fn26 rfl rfl ?_
  simp only [Try.f26, start, KC_normal, go_sem, Nat.reduceEqDiff, Nat.reduceAdd, reduceIte, reduceCtorEq, Nat.reduceLeDiff, Nat.reduceShiftRight, Nat.reduceAnd, Nat.reduceOr, Nat.reducePow, Nat.reduceBNe, Nat.reduceBEq]
  generalize hX : H.push _ = H1
  obtain ⟨hE1, k3, hn1⟩ := new_push hX
  clear hX
  refine f23_c (hv0.step hE1.step) hl fun r H2 hE2 hr => ?_
  obtain rfl := hr.2 hok
  have hE02 := hE1.trans hE2
  have q3 := (hE2.get _ (by omega)).trans k3
  simp only [start, KC_normal, go_sem, Nat.reduceEqDiff, Nat.reduceAdd, reduceIte, reduceCtorEq, Nat.reduceLeDiff, Nat.reduceShiftRight, Nat.reduceAnd, Nat.reduceOr, Nat.reducePow, Nat.reduceBNe, Nat.reduceBEq, q3]
  refine f40_c (hv0.step hE02.step) hl fun H3 u hE3 hu => ?_
  have hE03 := hE02.trans hE3
  obtain ⟨h8, h88⟩ := graph_as8 hok
  simp only [start, KC_normal, go_sem, Nat.reduceEqDiff, Nat.reduceAdd, reduceIte, reduceCtorEq, Nat.reduceLeDiff, Nat.reduceShiftRight, Nat.reduceAnd, Nat.reduceOr, Nat.reducePow, Nat.reduceBNe, Nat.reduceBEq]
  refine f43_c (hu.r (noF_Bd _)) (by rw [as_len]; exact hl) h8 h88 (hs.step hE03.step) (hp.step hE03.step) fun H4 w b hE4 ho hb => ?_
  simp only [start, KC_normal, go_sem, Nat.reduceEqDiff, Nat.reduceAdd, reduceIte, reduceCtorEq, Nat.reduceLeDiff, Nat.reduceShiftRight, Nat.reduceAnd, Nat.reduceOr, Nat.reducePow, Nat.reduceBNe, Nat.reduceBEq]
  exact hQ H4 w b (hE03.trans hE4) ho fun j hj => by have := hb j hj; have := hE03.le; omega
end Go.Ab.Ex
end
section
namespace Go.Ab.Ex
open Go.Proofs
set_option maxRecDepth 10000

def isAnd (g : CircM) (x : GateM) : Bool := decide (x.K = 3) && (g.sec x.A && g.sec x.B)
def isRef (x : GateM) : Bool := decide (x.K = 12)

end Go.Ab.Ex
end
section
namespace Go.Ab.Ex
open Go.Proofs
set_option maxRecDepth 10000
set_option maxHeartbeats 1000000

open Classical in
noncomputable def cA (g : CircM) : Nat := if GraphOk g then g.gates.countP (isAnd g) else 0
open Classical in
noncomputable def cF (g : CircM) : Nat := if GraphOk g then g.gates.countP isRef else 0

end Go.Ab.Ex
end
section
namespace Go.Ab.Ex
open Go.Proofs
set_option maxRecDepth 10000
set_option maxHeartbeats 1000000




end Go.Ab.Ex
end
section
namespace Go.Ab.Ex
open Go.Proofs
set_option maxRecDepth 10000
set_option maxHeartbeats 1000000



theorem expand_0 {g : CircM} {d : Int} (h : (expandM g d).2 = 0) : GraphOk g ∧ (1 ≤ d ∧ d ≤ 6) ∧ (expandM g d).1 = (innM g d.toNat, codeM g d.toNat) := by
  unfold expandM at h ⊢
  by_cases hg : GraphOk g
  · rw [if_neg (not_not_intro hg)] at h ⊢
    by_cases h1 : d < 1
    · rw [if_pos h1] at h; simp at h
    rw [if_neg h1] at h ⊢
    by_cases h6 : 6 < d ∨ 4000 < g.secrets * (d + 1) + g.publics
    · rw [if_pos h6] at h; simp at h
    rw [if_neg h6]
    exact ⟨hg, by omega, rfl⟩
  · rw [if_pos hg] at h; simp at h





end Go.Ab.Ex
end
section
namespace Go.Ab.Ex
open Go.Proofs
set_option maxRecDepth 10000
set_option maxHeartbeats 1000000

theorem takeW_eq (l : List Wd) (n : Nat) : takeW l n = (List.range n).map (atW l) := by
  apply List.ext_getElem?
  intro i
  rw [List.getElem?_map]
  by_cases hi : i < n
  · rw [takeW_get hi, List.getElem?_range hi]; rfl
  · rw [List.getElem?_eq_none (by rw [takeW_len]; omega), List.getElem?_eq_none (by simp; omega)]; rfl
theorem atW_drop (l : List Wd) (q k : Nat) : atW (l.drop q) k = atW l (q + k) := by
  unfold atW
  rw [List.getD_eq_getElem?_getD, List.getD_eq_getElem?_getD, List.getElem?_drop]
def maskW (m : List Wd) (d i : Nat) : List Wd := (List.range d).map fun k => atW m (i * d + k)
theorem maskW_len (m : List Wd) (d i : Nat) : (maskW m d i).length = d := by simp [maskW]
theorem take_mask (m : List Wd) (d i : Nat) : takeW (m.drop (i * d)) d = maskW m d i := by
  rw [takeW_eq]
  unfold maskW
  congr 1
  funext k
  exact atW_drop m (i * d) k
def inW (s m : List Wd) (d i : Nat) : List Wd := (atW s i ^^^ joinW (maskW m d i)) :: maskW m d i
theorem inW_len (s m : List Wd) (d i : Nat) : (inW s m d i).length = d + 1 := by simp [inW, maskW]
def secW (s m : List Wd) (d n : Nat) : List Wd := (List.range n).flatMap (inW s m d)
theorem secW_next (s m : List Wd) (d n : Nat) : secW s m d (n + 1) = secW s m d n ++ inW s m d n := by simp [secW, List.range_succ, List.flatMap_append]
theorem secW_len (s m : List Wd) (d : Nat) : ∀ n, (secW s m d n).length = n * (d + 1)
  | 0 => by simp [secW]
  | n + 1 => by rw [secW_next, List.length_append, secW_len s m d n, inW_len, Nat.succ_mul]
noncomputable def inputsM (g : CircM) (d : Int) (s p m : List Wd) : List Wd := if (expandM g d).2 = 0 then secW s m d.toNat g.secrets.toNat ++ (List.range g.publics.toNat).map (atW p) else []

def New (H : Heap) : Fr := fun j => H.next ≤ j
theorem New.ext {H H' : Heap} (h : Ext H H') : Step (New H) H (New H) H' := h.step
theorem toNew {H : Heap} {v : Value} {l : List Wd} (h : Tk noF H v l) : Tk (New H) H v l := h.more fun j hj => .inr hj
theorem pre4 {H H' : Heap} {a b c e : AObj} (hX : (((H.push a).push b).push c).push e = H') : Ext H H' ∧ H'.get H.next = a ∧ H'.get (H.next + 1) = b ∧ H'.get (H.next + 2) = c ∧ H'.get (H.next + 3) = e ∧ H'.next = H.next + 4 := by
  generalize hY : ((H.push a).push b).push c = H1 at hX
  obtain ⟨h1, h2, h3, h4, h5⟩ := pre3 hY
  obtain ⟨k1, k2, k3⟩ := new_push hX
  refine ⟨h1.trans k1, (k1.get _ (by omega)).trans h2, (k1.get _ (by omega)).trans h3, (k1.get _ (by omega)).trans h4, by rw [h5] at k2; exact k2, by omega⟩

theorem f19_c (h78 : CirC) {F : Fr} {H : Heap} {v vs vp vm : Value} {g : CircM} {d : Int} {s p m : List Wd} (hv : CircR F H v g) (hf : g.gates.length ≤ 150 ∧ g.outs.length ≤ 50) (hs : Tk noF H vs s) (hp : Tk noF H vp p) (hm : Tk noF H vm m) {Q : Ret → Heap → Prop}
    (hQ : ∀ H' u b, Ext H H' → Own1 H' 1 ((inputsM g d s p m).flatMap wordC) u (inputsM g d s p m).length b → (∀ j, b = some j → H.next ≤ j) → Q (.ret u) H') : C 19 #[v, .int .i64 d, vs, vp, vm] H Q := by
  have h44 : CanC := f44_c h78
  have hv0 := hv.noF
  obtain ⟨v1, v2, rfl, hg1, hg2⟩ := hv.noF.ex
  obtain ⟨ag, cg, rfl, h3, h4, hgA⟩ := hg1.ex
  obtain ⟨au, cu, rfl, h5, h6, huA⟩ := hg2.ex
  have hs' := toNew hs
  have hp' := toNew hp
  have hm' := toNew hm
  obtain ⟨asx, ns, cs, rfl⟩ := hs.form
  obtain ⟨ap, np, cp, rfl⟩ := hp.form
  obtain ⟨am, nm, cm, rfl⟩ := hm.form
  refine SemC_fn TT.ok fn19 rfl rfl ?_
  simp only [Try.f19, start, KC_normal, go_sem, Nat.reduceEqDiff, Nat.reduceAdd, reduceIte, reduceCtorEq, Nat.reduceLeDiff, Nat.reduceShiftRight, Nat.reduceAnd, Nat.reduceOr, Nat.reducePow, Nat.reduceBNe, Nat.reduceBEq]
  generalize hX : (((H.push _).push _).push _).push _ = H1
  obtain ⟨hE1, k5, k7, k8, k9, hn1⟩ := pre4 hX
  clear hX
  simp only [start, KC_normal, go_sem, Nat.reduceEqDiff, Nat.reduceAdd, reduceIte, reduceCtorEq, Nat.reduceLeDiff, Nat.reduceShiftRight, Nat.reduceAnd, Nat.reduceOr, Nat.reducePow, Nat.reduceBNe, Nat.reduceBEq, k5]
  refine f28_c h44 (hv0.step hE1.step) hf fun H2 u hE2 hu => ?_
  obtain ⟨e1, e2, rfl, hs1, hs2⟩ := (hu noF (noF_Bd _)).ex
  obtain ⟨x1, x2, rfl⟩ := hs1.len
  obtain ⟨x3, x4, rfl⟩ := hs2.len
  simp only [start, KC_normal, go_sem, Nat.reduceEqDiff, Nat.reduceAdd, reduceIte, reduceCtorEq, Nat.reduceLeDiff, Nat.reduceShiftRight, Nat.reduceAnd, Nat.reduceOr, Nat.reducePow, Nat.reduceBNe, Nat.reduceBEq]
  generalize hX : (H2.push _).put _ _ = H3
  obtain ⟨hE3, -, hn3⟩ := new_put hX
  clear hX
  have hE13 := hE2.trans hE3
  have hE03 := hE1.trans hE13
  unfold inputsM at hQ
  by_cases he : (expandM g d).2 = 0
  · obtain ⟨hgo, hd, -⟩ := expand_0 he
    rw [if_pos he] at hQ
    have hsec := hgo.c.s
    have hpub := hgo.c.p
    simp only [CircM.as] at hsec hpub
    obtain ⟨dn, rfl⟩ : ∃ n : Nat, d = n := ⟨d.toNat, by omega⟩
    obtain ⟨S, hS⟩ : ∃ n : Nat, g.secrets = n := ⟨g.secrets.toNat, by omega⟩
    obtain ⟨U, hU⟩ : ∃ n : Nat, g.publics = n := ⟨g.publics.toNat, by omega⟩
    simp only [hS, hU, Int.toNat_natCast] at hQ k5 hsec hpub ⊢
    have q5 := (hE13.get _ (by omega)).trans k5
    have q7 := (hE13.get _ (by omega)).trans k7
    have q8 := (hE13.get _ (by omega)).trans k8
    have q9 := (hE13.get _ (by omega)).trans k9
    simp only [start, KC_normal, go_sem, Nat.reduceEqDiff, Nat.reduceAdd, reduceIte, reduceCtorEq, Nat.reduceLeDiff, Nat.reduceShiftRight, Nat.reduceAnd, Nat.reduceOr, Nat.reducePow, Nat.reduceBNe, Nat.reduceBEq, he, q5]
    refine f34_c (F := New H) q7 (by have := hE2.le; omega) (hs'.step (New.ext hE03)) (show H.next ≤ H.next + 1 by omega) (by omega) fun H4 u4 b4 v4 hS4 _ _ ho4 hb4 => ?_
    have hE04 : Ext H H4 := ((New.ext hE03).trans (Ex.Step.up hS4 (show New H (H.next + 1) from Nat.le_succ _))).toExt fun _ h => h
    have o5 := (hS4.get _ (by have := hE2.le; omega) (show ¬ H.next = H.next + 1 by omega)).trans q5
    have o8 := (hS4.get _ (by have := hE2.le; omega) (show ¬ H.next + 2 = H.next + 1 by omega)).trans q8
    have o9 := (hS4.get _ (by have := hE2.le; omega) (show ¬ H.next + 3 = H.next + 1 by omega)).trans q9
    have hp4 := (hp'.step (New.ext hE03)).step (Ex.Step.up hS4 (show New H (H.next + 1) from Nat.le_succ _))
    have hm4 := (hm'.step (New.ext hE03)).step (Ex.Step.up hS4 (show New H (H.next + 1) from Nat.le_succ _))
    obtain ⟨hb4l, hb4g, rfl, -⟩ := ho4.at rfl
    rw [takeW_len]
    have hle4 : H.next + 4 ≤ H4.next := by have := hS4.le; have := hE13.le; omega
    have hb4' : H.next + 4 ≤ b4 := by have := hE13.le; omega
    clear hS4 ho4 q5 q7 q8 q9 hE13 hE03 hE3 hE2 hn3 hs1 hs2 hu
    simp only [start, KC_normal, go_sem, Nat.reduceEqDiff, Nat.reduceAdd, reduceIte, reduceCtorEq, Nat.reduceLeDiff, Nat.reduceShiftRight, Nat.reduceAnd, Nat.reduceOr, Nat.reducePow, Nat.reduceBNe, Nat.reduceBEq]
    refine wp_loop TT.ok rfl rfl (fun j st => ∃ tm H' i u b mv, st = ⟨tm, 44, [], false, H'⟩ ∧ j = S - i ∧ i ≤ S ∧ Ext H H' ∧ H4.next ≤ H'.next ∧
      H'.get H.next = .cells true 4 [.slice ag g.gates.length cg, .int .i64 (S : Nat), .int .i64 (U : Nat), .slice au g.outs.length cu] ∧ H'.get (H.next + 2) = .cells true 1 [.slice ap np cp] ∧ H'.get (H.next + 3) = .cells true 1 [mv] ∧ H'.get b4 = .cells true 1 ((takeW s S).flatMap wordC) ∧
      Tk (New H) H' (.slice ap np cp) p ∧ Tk (New H) H' mv (m.drop (i * dn)) ∧ Own1 H' 1 ((secW s m dn i).flatMap wordC) u (secW s m dn i).length b ∧ (∀ j, b = some j → H4.next ≤ j) ∧
      tm.get 1 = some (.int .i64 (dn : Nat)) ∧ tm.get 5 = some (.pointer (some ⟨H.next, 0, none⟩)) ∧ tm.get 8 = some (.pointer (some ⟨H.next + 2, 0, none⟩)) ∧ tm.get 9 = some (.pointer (some ⟨H.next + 3, 0, none⟩)) ∧ tm.get 13 = some u ∧
      tm.get 26 = some (.slice (some ⟨b4, 0, none⟩) S S) ∧ tm.get 27 = some (.int .i64 (S : Nat)) ∧ tm.get 28 = some (.int .i64 (i : Nat))) S ?_ ?_
    · refine ⟨_, H4, 0, .slice none 0 0, none, _, rfl, rfl, Nat.zero_le _, hE04, Nat.le_refl _, o5, o8, o9, hb4g, hp4, ?_, .nil rfl, (fun j hj => by cases hj), ?_, ?_, ?_, ?_, ?_, ?_, ?_, ?_⟩
      · rw [Nat.zero_mul, List.drop_zero]; exact hm4
      all_goals simp only [start, KC_normal, go_sem, Nat.reduceEqDiff, Nat.reduceAdd, reduceIte, reduceCtorEq, Nat.reduceLeDiff, Nat.reduceShiftRight, Nat.reduceAnd, Nat.reduceOr, Nat.reducePow, Nat.reduceBNe, Nat.reduceBEq]
      all_goals rfl
    · clear o5 o8 o9 hb4g hp4 hm4 hE04 hE1 k5 k7 k8 k9
      rintro j st - ⟨tm, H', i, u, b, mv, rfl, hj, hi, hE, hle, o5, o8, o9, o4, hp', hm', ho, hb, t1, t5, t8, t9, t13, t26, t27, t28⟩
      simp only [start, KC_normal, go_sem, Nat.reduceEqDiff, Nat.reduceAdd, reduceIte, reduceCtorEq, Nat.reduceLeDiff, Nat.reduceShiftRight, Nat.reduceAnd, Nat.reduceOr, Nat.reducePow, Nat.reduceBNe, Nat.reduceBEq, t27, t28]
      refine CN_split (fun hlt => ?_) (fun hge => ?_)
      · have hlt' : i < S := by omega
        have hel : ((takeW s S).flatMap wordC)[i * 1]? = some (.int .u32 ((atW s i).toNat : Int)) := fm_get0 wordC_len _ i _ (takeW_get hlt') (by omega)
        obtain ⟨a', n', c', rfl⟩ := hm'.form
        simp only [start, KC_normal, go_sem, Nat.reduceEqDiff, Nat.reduceAdd, reduceIte, reduceCtorEq, Nat.reduceLeDiff, Nat.reduceShiftRight, Nat.reduceAnd, Nat.reduceOr, Nat.reducePow, Nat.reduceBNe, Nat.reduceBEq, t26, t28, ia_in _ _ _ _ _ hlt', o4, hel, t9, t1]
        refine f34_c (F := New H) o9 (by omega) hm' (show H.next ≤ H.next + 3 by omega) (by omega) fun H5 u5 b5 v5 hS5 hv5 ht5 ho5 hb5 => ?_
        have hS5' : Step (New H) H' (New H) H5 := Ex.Step.up hS5 (show H.next ≤ H.next + 3 by omega)
        have hE5 : Ext H H5 := ((New.ext hE).trans hS5').toExt fun _ h => h
        have e5 : takeW (m.drop (i * dn)) dn = maskW m dn i := take_mask m dn i
        rw [e5] at ho5
        obtain ⟨hb5l, hb5g, hu5, -⟩ := ho5.at rfl
        have hsl5 := ho5.sl (F := noF) fun _ _ h => h
        rw [List.drop_drop] at ht5
        have ho' : Own1 H5 1 ((secW s m dn i).flatMap wordC) u (secW s m dn i).length b := ho.step hS5 fun j hj e => by
          have := hb j hj
          have e : j = H.next + 3 := e
          omega
        have q5 := (hS5.get H.next (by omega) (show ¬ H.next = H.next + 3 by omega)).trans o5
        have q8 := (hS5.get (H.next + 2) (by omega) (show ¬ H.next + 2 = H.next + 3 by omega)).trans o8
        have q4 := (hS5.get b4 (by omega) (show ¬ b4 = H.next + 3 by omega)).trans o4
        have hle5 := hS5.le
        subst hu5
        simp only [start, KC_normal, go_sem, Nat.reduceEqDiff, Nat.reduceAdd, reduceIte, reduceCtorEq, Nat.reduceLeDiff, Nat.reduceShiftRight, Nat.reduceAnd, Nat.reduceOr, Nat.reducePow, Nat.reduceBNe, Nat.reduceBEq]
        refine f35_c hsl5 (by rw [maskW_len]; omega) fun H6 u6 b6 hE6 ho6 hb6 => ?_
        have hsl6 := ho6.sl (F := noF) fun _ _ h => h
        have hl6 : ((atW s i ^^^ joinW (maskW m dn i)) :: maskW m dn i).length = dn + 1 := inW_len s m dn i
        have hls := secW_len s m dn i
        have hbnd : i * (dn + 1) ≤ 1000 * 7 := Nat.mul_le_mul (by omega) (by omega)
        obtain ⟨v7, H7, b7, he7, ho7, hS7, hb7⟩ := appN_wd (ho'.ext hE6) hsl6 (by rw [hls, hl6]; omega)
        have hb' : ∀ j, b = some j → H.next ≤ j := fun j hj => by have := hb j hj; omega
        have hE7 : Ext H H7 := (hE5.trans hE6).app hS7 hb'
        have k7 : ∀ j, j < H5.next → b ≠ some j → H7.get j = H5.get j := fun j hj hn => ((hS7 noF).get j (by have := hE6.le; omega) (fun h => h.elim (fun h => h) (fun h => hn h))).trans (hE6.get j hj)
        have hne : ∀ j, j < H4.next → b ≠ some j := fun j hj e => by have := hb j e; omega
        have hN7 : Step (New H) H5 (New H) H7 := (hE6.step (F := New H)).trans ⟨(hS7 noF).le, fun j hj hf => (hS7 noF).get j hj (fun h => h.elim (fun h => h) (fun h => hf (hb' j h))), fun j hj => .inl hj⟩
        simp only [start, KC_normal, go_sem, Nat.reduceEqDiff, Nat.reduceAdd, reduceIte, reduceCtorEq, Nat.reduceLeDiff, Nat.reduceShiftRight, Nat.reduceAnd, Nat.reduceOr, Nat.reducePow, Nat.reduceBNe, Nat.reduceBEq, t13, he7, t28]
        refine ⟨S - (i + 1), by omega, _, H7, i + 1, v7, b7, v5, rfl, rfl, by omega, hE7, ?_, ?_, ?_, ?_, ?_, ?_, ?_, ?_, ?_, ?_, ?_, ?_, ?_, ?_, ?_, ?_, ?_⟩
        · have := (hS7 noF).le; have := hE6.le; omega
        · exact (k7 _ (by omega) (hne _ (by omega))).trans q5
        · exact (k7 _ (by omega) (hne _ (by omega))).trans q8
        · exact (k7 _ (by omega) (hne _ (by omega))).trans hv5
        · exact (k7 _ (by omega) (hne _ (by omega))).trans q4
        · exact (hp'.step hS5').step hN7
        · rw [Nat.succ_mul]; exact ht5.step hN7
        · rw [secW_next]; exact ho7
        · intro j hj
          rcases hb7 j hj with h | h
          · exact hb j h
          · have := hE6.le; omega
        all_goals simp only [start, KC_normal, go_sem, Nat.reduceEqDiff, Nat.reduceAdd, reduceIte, reduceCtorEq, Nat.reduceLeDiff, Nat.reduceShiftRight, Nat.reduceAnd, Nat.reduceOr, Nat.reducePow, Nat.reduceBNe, Nat.reduceBEq, t1, t5, t8, t9, t13, t26, t27, t28]
        rw [wrap_i64 _ (by omega) (by omega)]; simp
      · have hi' : i = S := by omega
        subst hi'
        simp only [start, KC_normal, go_sem, Nat.reduceEqDiff, Nat.reduceAdd, reduceIte, reduceCtorEq, Nat.reduceLeDiff, Nat.reduceShiftRight, Nat.reduceAnd, Nat.reduceOr, Nat.reducePow, Nat.reduceBNe, Nat.reduceBEq, t5, t8, t13, o5]
        refine f34_c (F := New H) o8 (by omega) hp' (show H.next ≤ H.next + 2 by omega) (by omega) fun H5 u5 b5 v5 hS5 _ _ ho5 hb5 => ?_
        have hE5 : Ext H H5 := ((New.ext hE).trans (Ex.Step.up hS5 (show H.next ≤ H.next + 2 by omega))).toExt fun _ h => h
        have ho' : Own1 H5 1 ((secW s m dn i).flatMap wordC) u (secW s m dn i).length b := ho.step hS5 fun j hj e => by
          have := hb j hj
          have e : j = H.next + 2 := e
          omega
        have hls := secW_len s m dn i
        have hbnd : i * (dn + 1) ≤ 1000 * 7 := Nat.mul_le_mul (by omega) (by omega)
        obtain ⟨v7, H7, b7, he7, ho7, hS7, hb7⟩ := appN_wd ho' (ho5.sl (F := noF) fun _ _ h => h) (by rw [hls, takeW_len]; omega)
        obtain ⟨-, -, hu5, -⟩ := ho5.at rfl
        have hb' : ∀ j, b = some j → H.next ≤ j := fun j hj => by have := hb j hj; omega
        rw [takeW_eq] at ho7
        simp only [start, KC_normal, go_sem, Nat.reduceEqDiff, Nat.reduceAdd, reduceIte, reduceCtorEq, Nat.reduceLeDiff, Nat.reduceShiftRight, Nat.reduceAnd, Nat.reduceOr, Nat.reducePow, Nat.reduceBNe, Nat.reduceBEq, he7]
        refine hQ H7 v7 b7 (hE5.app hS7 hb') ho7 fun j hj => ?_
        rcases hb7 j hj with h | h
        · exact hb' j h
        · have := hE5.le; omega
  · rw [if_neg he] at hQ
    simp only [start, KC_normal, go_sem, Nat.reduceEqDiff, Nat.reduceAdd, reduceIte, reduceCtorEq, Nat.reduceLeDiff, Nat.reduceShiftRight, Nat.reduceAnd, Nat.reduceOr, Nat.reducePow, Nat.reduceBNe, Nat.reduceBEq, he]
    exact hQ H3 _ none hE03 (.nil rfl) fun j hj => by cases hj
end Go.Ab.Ex
end
section
namespace Go.Ab.Ex
open Go.Proofs
set_option maxRecDepth 10000
set_option maxHeartbeats 1000000


end Go.Ab.Ex
end
section
namespace Go.Ab.Ex
open Go.Proofs
set_option maxRecDepth 10000
set_option maxHeartbeats 1000000

def outW (w : List Wd) (d i : Nat) : Wd := joinW (maskW w (d + 1) i)
def outsW (w : List Wd) (d n : Nat) : List Wd := (List.range n).map (outW w d)
theorem outsW_next (w : List Wd) (d n : Nat) : outsW w d (n + 1) = outsW w d n ++ [outW w d n] := by simp [outsW, List.range_succ]
theorem outsW_len (w : List Wd) (d n : Nat) : (outsW w d n).length = n := by simp [outsW]
noncomputable def outsM (g : CircM) (d : Int) (w : List Wd) : List Wd := if (expandM g d).2 = 0 then outsW w d.toNat g.outs.length else []

theorem f21_c (h78 : CirC) {F : Fr} {H : Heap} {v vw : Value} {g : CircM} {d : Int} {w : List Wd} (hv : CircR F H v g) (hf : g.gates.length ≤ 150 ∧ g.outs.length ≤ 50) (hw : Tk noF H vw w) {Q : Ret → Heap → Prop}
    (hQ : ∀ H' u b, Ext H H' → Own1 H' 1 ((outsM g d w).flatMap wordC) u (outsM g d w).length b → (∀ j, b = some j → H.next ≤ j) → Q (.ret u) H') : C 21 #[v, .int .i64 d, vw] H Q := by
  have h44 : CanC := f44_c h78
  have hv0 := hv.noF
  obtain ⟨v1, v2, rfl, hg1, hg2⟩ := hv.noF.ex
  obtain ⟨ag, cg, rfl, h3, h4, hgA⟩ := hg1.ex
  obtain ⟨au, cu, rfl, h5, h6, huA⟩ := hg2.ex
  have hw' := toNew hw
  obtain ⟨aw, nw, cw, rfl⟩ := hw.form
  refine SemC_fn TT.ok fn21 rfl rfl ?_
  simp only [Try.f21, start, KC_normal, go_sem, Nat.reduceEqDiff, Nat.reduceAdd, reduceIte, reduceCtorEq, Nat.reduceLeDiff, Nat.reduceShiftRight, Nat.reduceAnd, Nat.reduceOr, Nat.reducePow, Nat.reduceBNe, Nat.reduceBEq]
  generalize hX : (H.push _).push _ = H1
  obtain ⟨hE1, k5, k6, hn1⟩ := pre2 hX
  clear hX
  simp only [start, KC_normal, go_sem, Nat.reduceEqDiff, Nat.reduceAdd, reduceIte, reduceCtorEq, Nat.reduceLeDiff, Nat.reduceShiftRight, Nat.reduceAnd, Nat.reduceOr, Nat.reducePow, Nat.reduceBNe, Nat.reduceBEq, k5]
  refine f28_c h44 (hv0.step hE1.step) hf fun H2 u hE2 hu => ?_
  obtain ⟨e1, e2, rfl, hs1, hs2⟩ := (hu noF (noF_Bd _)).ex
  obtain ⟨x1, x2, rfl⟩ := hs1.len
  obtain ⟨x3, x4, rfl⟩ := hs2.len
  simp only [start, KC_normal, go_sem, Nat.reduceEqDiff, Nat.reduceAdd, reduceIte, reduceCtorEq, Nat.reduceLeDiff, Nat.reduceShiftRight, Nat.reduceAnd, Nat.reduceOr, Nat.reducePow, Nat.reduceBNe, Nat.reduceBEq]
  generalize hX : (H2.push _).put _ _ = H3
  obtain ⟨hE3, -, hn3⟩ := new_put hX
  clear hX
  have hE13 := hE2.trans hE3
  have hE03 := hE1.trans hE13
  have q5 := (hE13.get _ (by omega)).trans k5
  have q6 := (hE13.get _ (by omega)).trans k6
  have hle3 := hE13.le
  unfold outsM at hQ
  by_cases he : (expandM g d).2 = 0
  · obtain ⟨hgo, hd, -⟩ := expand_0 he
    rw [if_pos he] at hQ
    obtain ⟨dn, rfl⟩ : ∃ n : Nat, d = n := ⟨d.toNat, by omega⟩
    simp only [Int.toNat_natCast] at hQ
    clear k5 k6 hs1 hs2 hu hE2 hE3
    have hwd : IntKind.i64.wrap ((dn : Int) + 1) = ((dn + 1 : Nat) : Int) := by rw [wrap_i64 _ (by omega) (by omega)]; rfl
    simp only [start, KC_normal, go_sem, Nat.reduceEqDiff, Nat.reduceAdd, reduceIte, reduceCtorEq, Nat.reduceLeDiff, Nat.reduceShiftRight, Nat.reduceAnd, Nat.reduceOr, Nat.reducePow, Nat.reduceBNe, Nat.reduceBEq, he, q5]
    refine wp_loop TT.ok rfl rfl (fun j st => ∃ tm H' i u b mv, st = ⟨tm, 32, [], false, H'⟩ ∧ j = g.outs.length - i ∧ i ≤ g.outs.length ∧ Ext H H' ∧ H.next + 2 ≤ H'.next ∧
      H'.get (H.next + 1) = .cells true 1 [mv] ∧ Tk (New H) H' mv (w.drop (i * (dn + 1))) ∧ Own1 H' 1 ((outsW w dn i).flatMap wordC) u (outsW w dn i).length b ∧ (∀ j, b = some j → H.next + 2 ≤ j) ∧
      tm.get 1 = some (.int .i64 (dn : Nat)) ∧ tm.get 5 = some (.pointer (some ⟨H.next + 1, 0, none⟩)) ∧ tm.get 9 = some u ∧ tm.get 20 = some (.int .i64 (g.outs.length : Nat)) ∧ tm.get 21 = some (.int .i64 (i : Nat))) g.outs.length ?_ ?_
    · refine ⟨_, H3, 0, .slice none 0 0, none, _, rfl, rfl, Nat.zero_le _, hE03, by omega, q6, ?_, .nil rfl, (fun j hj => by cases hj), ?_, ?_, ?_, ?_, ?_⟩
      · rw [Nat.zero_mul, List.drop_zero]; exact hw'.step (New.ext hE03)
      all_goals simp only [start, KC_normal, go_sem, Nat.reduceEqDiff, Nat.reduceAdd, reduceIte, reduceCtorEq, Nat.reduceLeDiff, Nat.reduceShiftRight, Nat.reduceAnd, Nat.reduceOr, Nat.reducePow, Nat.reduceBNe, Nat.reduceBEq]
      all_goals rfl
    · clear q5 q6 hle3 hE13 hE03 hE1 hn3 hn1
      rintro j st - ⟨tm, H', i, u, b, mv, rfl, hj, hi, hE, hle, o6, hm', ho, hb, t1, t5, t9, t20, t21⟩
      simp only [start, KC_normal, go_sem, Nat.reduceEqDiff, Nat.reduceAdd, reduceIte, reduceCtorEq, Nat.reduceLeDiff, Nat.reduceShiftRight, Nat.reduceAnd, Nat.reduceOr, Nat.reducePow, Nat.reduceBNe, Nat.reduceBEq, t20, t21]
      refine CN_split (fun hlt => ?_) (fun hge => ?_)
      · have hlt' : i < g.outs.length := by omega
        obtain ⟨a', n', c', rfl⟩ := hm'.form
        simp only [start, KC_normal, go_sem, Nat.reduceEqDiff, Nat.reduceAdd, reduceIte, reduceCtorEq, Nat.reduceLeDiff, Nat.reduceShiftRight, Nat.reduceAnd, Nat.reduceOr, Nat.reducePow, Nat.reduceBNe, Nat.reduceBEq, t1, t5, t9, hwd]
        refine f34_c (F := New H) o6 (by omega) hm' (show H.next ≤ H.next + 1 by omega) (by omega) fun H5 u5 b5 v5 hS5 hv5 ht5 ho5 hb5 => ?_
        have hS5' : Step (New H) H' (New H) H5 := Ex.Step.up hS5 (show H.next ≤ H.next + 1 by omega)
        have hE5 : Ext H H5 := ((New.ext hE).trans hS5').toExt fun _ h => h
        have e5 : takeW (w.drop (i * (dn + 1))) (dn + 1) = maskW w (dn + 1) i := take_mask w (dn + 1) i
        rw [e5] at ho5
        obtain ⟨hb5l, hb5g, hu5, -⟩ := ho5.at rfl
        have hsl5 := ho5.sl (F := noF) fun _ _ h => h
        rw [List.drop_drop] at ht5
        have ho' : Own1 H5 1 ((outsW w dn i).flatMap wordC) u (outsW w dn i).length b := ho.step hS5 fun j hj e => by
          have := hb j hj
          have e : j = H.next + 1 := e
          omega
        have hle5 := hS5.le
        subst hu5
        simp only [start, KC_normal, go_sem, Nat.reduceEqDiff, Nat.reduceAdd, reduceIte, reduceCtorEq, Nat.reduceLeDiff, Nat.reduceShiftRight, Nat.reduceAnd, Nat.reduceOr, Nat.reducePow, Nat.reduceBNe, Nat.reduceBEq]
        refine f38_c hsl5 (by rw [maskW_len]; omega) ?_
        have hb' : ∀ j, b = some j → H.next ≤ j := fun j hj => by have := hb j hj; omega
        obtain ⟨v7, H7, b7, he7, ho7, hS7, hb7⟩ := app1_wd ho' (by rw [outsW_len]; omega) (joinW (maskW w (dn + 1) i))
        simp only [start, KC_normal, go_sem, Nat.reduceEqDiff, Nat.reduceAdd, reduceIte, reduceCtorEq, Nat.reduceLeDiff, Nat.reduceShiftRight, Nat.reduceAnd, Nat.reduceOr, Nat.reducePow, Nat.reduceBNe, Nat.reduceBEq]
        simp only [wordC] at he7
        simp only [he7, start, KC_normal, go_sem, Nat.reduceEqDiff, Nat.reduceAdd, reduceIte, reduceCtorEq, Nat.reduceLeDiff, Nat.reduceShiftRight, Nat.reduceAnd, Nat.reduceOr, Nat.reducePow, Nat.reduceBNe, Nat.reduceBEq, t21]
        have hN7 : Step (New H) H5 (New H) H7 := (Step.refl (F := New H) (H := H5)).sub (G := New H) (fun j h => .inl h) (fun j h => .inl h) |>.trans
          ⟨(hS7 noF).le, fun j hj hf => (hS7 noF).get j hj (fun h => h.elim (fun h => h) (fun h => hf (hb' j h))), fun j hj => .inl hj⟩
        refine ⟨g.outs.length - (i + 1), by omega, _, H7, i + 1, v7, b7, v5, rfl, rfl, by omega, hE5.app hS7 hb', ?_, ?_, ?_, ?_, ?_, ?_, ?_, ?_, ?_, ?_⟩
        · have := (hS7 noF).le; omega
        · rw [(hS7 noF).get _ (by omega) (fun h => h.elim (fun h => h) (fun h => by have := hb _ h; omega))]; exact hv5
        · rw [Nat.succ_mul]; exact ht5.step hN7
        · rw [outsW_next]; exact ho7
        · intro j hj; have := hb7 j hj; omega
        all_goals simp only [start, KC_normal, go_sem, Nat.reduceEqDiff, Nat.reduceAdd, reduceIte, reduceCtorEq, Nat.reduceLeDiff, Nat.reduceShiftRight, Nat.reduceAnd, Nat.reduceOr, Nat.reducePow, Nat.reduceBNe, Nat.reduceBEq, t1, t5, t20]
        rw [wrap_i64 _ (by omega) (by omega)]; simp
      · have hi' : i = g.outs.length := by omega
        subst hi'
        simp only [start, KC_normal, go_sem, Nat.reduceEqDiff, Nat.reduceAdd, reduceIte, reduceCtorEq, Nat.reduceLeDiff, Nat.reduceShiftRight, Nat.reduceAnd, Nat.reduceOr, Nat.reducePow, Nat.reduceBNe, Nat.reduceBEq, t9]
        exact hQ H' u b hE ho fun j hj => by have := hb j hj; omega
  · rw [if_neg he] at hQ
    simp only [start, KC_normal, go_sem, Nat.reduceEqDiff, Nat.reduceAdd, reduceIte, reduceCtorEq, Nat.reduceLeDiff, Nat.reduceShiftRight, Nat.reduceAnd, Nat.reduceOr, Nat.reducePow, Nat.reduceBNe, Nat.reduceBEq, he]
    exact hQ H3 _ none hE03 (.nil rfl) fun j hj => by cases hj


end Go.Ab.Ex
end
section
namespace Go.Ab.Ex
open Go.Proofs
set_option maxRecDepth 10000
set_option maxHeartbeats 1000000

theorem ia4_0 (de : TypeDesc) (s : Nat) (z : Option Value) (ag : Bool) (fl : List (Nat × Nat)) (b o : Nat) : iaO2 (some ⟨de, 1, s, z, ag, fl⟩) b o 4 0 = some (.pointer (some ⟨b, o, none⟩)) := (rfl)
theorem ia4_1 (de : TypeDesc) (s : Nat) (z : Option Value) (ag : Bool) (fl : List (Nat × Nat)) (b o : Nat) : iaO2 (some ⟨de, 1, s, z, ag, fl⟩) b o 4 1 = some (.pointer (some ⟨b, o + 1, none⟩)) := (rfl)
theorem ia4_2 (de : TypeDesc) (s : Nat) (z : Option Value) (ag : Bool) (fl : List (Nat × Nat)) (b o : Nat) : iaO2 (some ⟨de, 1, s, z, ag, fl⟩) b o 4 2 = some (.pointer (some ⟨b, o + 2, none⟩)) := (rfl)
theorem ia4_3 (de : TypeDesc) (s : Nat) (z : Option Value) (ag : Bool) (fl : List (Nat × Nat)) (b o : Nat) : iaO2 (some ⟨de, 1, s, z, ag, fl⟩) b o 4 3 = some (.pointer (some ⟨b, o + 3, none⟩)) := (rfl)


end Go.Ab.Ex
end
section
namespace Go.Ab.Ex
open Go.Proofs
set_option maxRecDepth 10000
set_option maxHeartbeats 1000000

theorem i_rem4 (m : Nat) : intOp .rem .u8 (m : Int) .u8 4 = some (.int .u8 ((m % 4 : Nat) : Int)) := by
  simp only [intOp, if_true]
  rw [if_neg (by decide), Int.tmod_eq_emod_of_nonneg (by omega)]
  congr 1

/-- what the outputs are to be -/
def wantW (s p : List Wd) (g : CircM) (l : List OutM) : List Wd := l.map fun o => atW (wordsL s p (g.as 8).gates) o.At.toNat
theorem wantW_next (s p : List Wd) (g : CircM) {l : List OutM} {i : Nat} {o : OutM} (h : l[i]? = some o) : wantW s p g (l.take (i + 1)) = wantW s p g (l.take i) ++ [atW (wordsL s p (g.as 8).gates) o.At.toNat] := by
  unfold wantW
  rw [take_next h, List.map_append]; rfl
/-- the plain law -/
def PlainC : Prop := ∀ {g : CircM} {n : Nat} {s p m rs : List Wd}, g.gates.length ≤ 150 → g.outs.length ≤ 50 → 1 ≤ n → n ≤ 4 → (expandM g n).2 = 0 → randoms (expandM g n).1.2.1 ≤ rs.length →
  outsM g n (pickW (execM (expandM g n).1.1.toNat (expandM g n).1.2.1 (inputsM g n s p m) rs) (expandM g n).1.2.2) = wantW s p g g.outs

theorem expand_150 {g : CircM} {n : Nat} (hg : GraphOk g) (h1 : 1 ≤ n) (h4 : n ≤ 4) (he : (expandM g n).2 ≠ 0) : (expandM g n).2 = 150 ∧ 4000 < g.secrets * 5 + g.publics := by
  have hs := hg.c.s
  simp only [CircM.as] at hs
  unfold expandM at he ⊢
  rw [if_neg (not_not_intro hg), if_neg (by omega)] at he ⊢
  by_cases h6 : 6 < (n : Int) ∨ 4000 < g.secrets * ((n : Int) + 1) + g.publics
  · rw [if_pos h6]
    refine ⟨rfl, ?_⟩
    rcases h6 with h6 | h6
    · omega
    · have : g.secrets * ((n : Int) + 1) ≤ g.secrets * 5 := Int.mul_le_mul_of_nonneg_left (by omega) hs.1
      omega
  · rw [if_neg h6] at he; exact absurd rfl he

theorem f6_c (h85 : GatC) (hP : PlainC) {F : Fr} {H : Heap} {v a0 a1 a2 a3 : Value} {g : CircM} {dn : Nat} {l0 l1 l2 l3 : List Wd} (hd : dn < 256) (hv : CircR F H v g) (h0 : Sl noF H 1 a0 l0.length (l0.flatMap wordC)) (h1 : Sl noF H 1 a1 l1.length (l1.flatMap wordC)) (h2 : Sl noF H 1 a2 l2.length (l2.flatMap wordC)) (h3 : Sl noF H 1 a3 l3.length (l3.flatMap wordC))
    {Q : Ret → Heap → Prop} (hQ : ∀ H', Ext H H' → Q (.ret (.bool true)) H') : C 6 #[v, .int .u8 (dn : Nat), .agg #[a0, a1, a2, a3]] H Q := by
  have h78 : CirC := f78_c h85
  have h44 : CanC := f44_c h78
  have hv0 := hv.noF
  obtain ⟨v1, v2, rfl, hg1, hg2⟩ := hv.noF.ex
  obtain ⟨ag, cg, rfl, h7, h8, hgA⟩ := hg1.ex
  obtain ⟨au, cu, rfl, h5, h6, huA⟩ := hg2.ex
  have k0 := h0
  have k1 := h1
  have k2 := h2
  have k3 := h3
  obtain ⟨x0, y0, rfl⟩ := h0.len
  obtain ⟨x1, y1, rfl⟩ := h1.len
  obtain ⟨x2, y2, rfl⟩ := h2.len
  obtain ⟨x3, y3, rfl⟩ := h3.len
  have w1 : IntKind.i64.wrap ((dn % 4 : Nat) : Int) = ((dn % 4 : Nat) : Int) := wrap_i64 _ (by omega) (by omega)
  have w2 : IntKind.i64.wrap (1 + ((dn % 4 : Nat) : Int)) = ((dn % 4 + 1 : Nat) : Int) := by rw [wrap_i64 _ (by omega) (by omega)]; omega
  have hn1 : 1 ≤ dn % 4 + 1 := by omega
  have hn4 : dn % 4 + 1 ≤ 4 := by omega
  refine SemC_fn TT.ok fn6 rfl rfl ?_
  simp only [Try.f6, start, KC_normal, go_sem, Nat.reduceEqDiff, Nat.reduceAdd, reduceIte, reduceCtorEq, Nat.reduceLeDiff, Nat.reduceShiftRight, Nat.reduceAnd, Nat.reduceOr, Nat.reducePow, Nat.reduceBNe, Nat.reduceBEq]
  generalize hX : (H.push _).push _ = H1
  obtain ⟨hE1, q3, q5, hnx1⟩ := pre2 hX
  clear hX
  simp only [start, KC_normal, go_sem, Nat.reduceEqDiff, Nat.reduceAdd, reduceIte, reduceCtorEq, Nat.reduceLeDiff, Nat.reduceShiftRight, Nat.reduceAnd, Nat.reduceOr, Nat.reducePow, Nat.reduceBNe, Nat.reduceBEq, q3, i_rem4, w1, w2]
  generalize dn % 4 + 1 = n at *
  refine few_c (hv0.step hE1.step) fun b H2 hE2 hb => ?_
  have hE12 := hE1.trans hE2
  have p3 := (hE2.get _ (by omega)).trans q3
  have p5 := (hE2.get _ (by omega)).trans q5
  have hn2 : H.next + 2 ≤ H2.next := by have := hE2.le; omega
  cases b with
  | false =>
    simp only [start, KC_normal, go_sem, Nat.reduceEqDiff, Nat.reduceAdd, reduceIte, reduceCtorEq, Nat.reduceLeDiff, Nat.reduceShiftRight, Nat.reduceAnd, Nat.reduceOr, Nat.reducePow, Nat.reduceBNe, Nat.reduceBEq]
    refine lives_c fun H3 hE3 => ?_
    simp only [start, KC_normal, go_sem, Nat.reduceEqDiff, Nat.reduceAdd, reduceIte, reduceCtorEq, Nat.reduceLeDiff, Nat.reduceShiftRight, Nat.reduceAnd, Nat.reduceOr, Nat.reducePow, Nat.reduceBNe, Nat.reduceBEq]
    exact hQ H3 (hE12.trans hE3)
  | true =>
    have hf := hb.1 rfl
    simp only [start, KC_normal, go_sem, Nat.reduceEqDiff, Nat.reduceAdd, reduceIte, reduceCtorEq, Nat.reduceLeDiff, Nat.reduceShiftRight, Nat.reduceAnd, Nat.reduceOr, Nat.reducePow, Nat.reduceBNe, Nat.reduceBEq, p3]
    refine f23_c (hv0.step hE12.step) (by omega) fun r H3 hE3 hr => ?_
    have hE13 := hE12.trans hE3
    have hn3 : H.next + 2 ≤ H3.next := by have := hE3.le; omega
    have o3 := (hE3.get _ (by omega)).trans p3
    have o5 := (hE3.get _ (by omega)).trans p5
    clear p3 p5 q3 q5 hnx1
    cases r with
    | false =>
      simp only [start, KC_normal, go_sem, Nat.reduceEqDiff, Nat.reduceAdd, reduceIte, reduceCtorEq, Nat.reduceLeDiff, Nat.reduceShiftRight, Nat.reduceAnd, Nat.reduceOr, Nat.reducePow, Nat.reduceBNe, Nat.reduceBEq]
      refine lives_c fun H4 hE4 => ?_
      simp only [start, KC_normal, go_sem, Nat.reduceEqDiff, Nat.reduceAdd, reduceIte, reduceCtorEq, Nat.reduceLeDiff, Nat.reduceShiftRight, Nat.reduceAnd, Nat.reduceOr, Nat.reducePow, Nat.reduceBNe, Nat.reduceBEq]
      exact hQ H4 (hE13.trans hE4)
    | true =>
      have hgo := hr.1 rfl
      simp only [start, KC_normal, go_sem, Nat.reduceEqDiff, Nat.reduceAdd, reduceIte, reduceCtorEq, Nat.reduceLeDiff, Nat.reduceShiftRight, Nat.reduceAnd, Nat.reduceOr, Nat.reducePow, Nat.reduceBNe, Nat.reduceBEq, o3]
      refine f10_c (hv0.step hE13.step) (by omega) fun H4 u hE4 hu => ?_
      have hE14 := hE13.trans hE4
      simp only [start, KC_normal, go_sem, Nat.reduceEqDiff, Nat.reduceAdd, reduceIte, reduceCtorEq, Nat.reduceLeDiff, Nat.reduceShiftRight, Nat.reduceAnd, Nat.reduceOr, Nat.reducePow, Nat.reduceBNe, Nat.reduceBEq]
      refine f9_c h44 (hu.r (noF_Bd _)) hf fun H5 e hE5 he => ?_
      have hE15 := hE14.trans hE5
      have he0 := he noF (noF_Bd _)
      obtain ⟨e1, e2, rfl, hs1, hs2⟩ := he0.ex
      obtain ⟨z1, z2, rfl⟩ := hs1.len
      obtain ⟨z3, z4, rfl⟩ := hs2.len
      have m3 := ((hE4.trans hE5).get _ (by omega)).trans o3
      have m5 := ((hE4.trans hE5).get _ (by omega)).trans o5
      have hn5 : H.next + 2 ≤ H5.next := by have := hE4.le; have := hE5.le; omega
      simp only [start, KC_normal, go_sem, Nat.reduceEqDiff, Nat.reduceAdd, reduceIte, reduceCtorEq, Nat.reduceLeDiff, Nat.reduceShiftRight, Nat.reduceAnd, Nat.reduceOr, Nat.reducePow, Nat.reduceBNe, Nat.reduceBEq]
      generalize hX : (H5.push _).put _ _ = H6
      obtain ⟨hE6, k8, hn6⟩ := new_put hX
      clear hX
      have hE16 := hE15.trans hE6
      have r3 := (hE6.get _ (by omega)).trans m3
      have r5 := (hE6.get _ (by omega)).trans m5
      by_cases hex : (expandM g n).2 = 0
      · have hok := expandM_ok (g := g) (d := n) hf
        have hlo : (expandM g n).1.2.2.length < 1000000 := expandM_outs hf
        have hopl := hok.l
        have hs := hgo.c.s
        have hp := hgo.c.p
        simp only [CircM.as] at hs hp
        obtain ⟨S, hS⟩ : ∃ S : Nat, g.secrets = S := ⟨g.secrets.toNat, by omega⟩
        have hSn : S * n ≤ 1000 * 4 := Nat.mul_le_mul (by omega) (by omega)
        have w5 : IntKind.i64.wrap (g.secrets * (n : Int)) = ((S * n : Nat) : Int) := by
          obtain ⟨q, hq⟩ : ∃ q, q = S * n := ⟨_, rfl⟩
          have e : g.secrets * (n : Int) = (q : Int) := by rw [hq, hS, Int.natCast_mul]
          rw [e, ← hq]
          exact wrap_i64 _ (by omega) (by omega)
        have hcode : CodeR noF H6 (.agg #[.int .i64 (expandM g n).1.1, .slice z1 (expandM g n).1.2.1.length z2, .slice z3 (expandM g n).1.2.2.length z4]) (expandM g n).1.1 (expandM g n).1.2.1 (expandM g n).1.2.2 := he0.step hE6.step
        simp only [start, KC_normal, go_sem, Nat.reduceEqDiff, Nat.reduceAdd, reduceIte, reduceCtorEq, Nat.reduceLeDiff, Nat.reduceShiftRight, Nat.reduceAnd, Nat.reduceOr, Nat.reducePow, Nat.reduceBNe, Nat.reduceBEq, hex]
        generalize hT : Tr.set _ _ _ _ = tm2
        obtain ⟨f3, f5, f7, f8⟩ : tm2.get 3 = some (.pointer (some ⟨H.next, 0, none⟩)) ∧ tm2.get 5 = some (.pointer (some ⟨H.next + 1, 0, none⟩)) ∧ tm2.get 7 = some (.int .i64 (n : Nat)) ∧ tm2.get 8 = some (.pointer (some ⟨H5.next, 0, none⟩)) := by
          subst hT
          refine ⟨?_, ?_, ?_, ?_⟩ <;> simp only [start, KC_normal, go_sem, Nat.reduceEqDiff, Nat.reduceAdd, reduceIte, reduceCtorEq, Nat.reduceLeDiff, Nat.reduceShiftRight, Nat.reduceAnd, Nat.reduceOr, Nat.reducePow, Nat.reduceBNe, Nat.reduceBEq]
        clear hT
        have lt6 : H.next + 2 ≤ H5.next ∧ H5.next < H6.next := ⟨hn5, by omega⟩
        refine DRg_x TT.ok [0, 1, 3, 0, 8, 31, 63, 127] 8 255 120 rfl (by decide +kernel) ?_
        simp only [start, KC_normal, go_sem, Nat.reduceEqDiff, Nat.reduceAdd, reduceIte, reduceCtorEq, Nat.reduceLeDiff, Nat.reduceShiftRight, Nat.reduceAnd, Nat.reduceOr, Nat.reducePow, Nat.reduceBNe, Nat.reduceBEq, f5, r5, ia4_0]
        have hs6 := hE16.skip 8
        refine f17_c (k0.step hs6.step) fun H7 u0 b0 hE7 ho0 hb0 => ?_
        have hE17 := hs6.trans hE7
        have hle7 := hE7.le
        simp only [Heap.next_skip] at hle7
        have r57 : H7.get _ = _ := (hE7.get (H.next + 1) (by simp only [Heap.next_skip]; omega)).trans r5
        simp only [start, KC_normal, go_sem, Nat.reduceEqDiff, Nat.reduceAdd, reduceIte, reduceCtorEq, Nat.reduceLeDiff, Nat.reduceShiftRight, Nat.reduceAnd, Nat.reduceOr, Nat.reducePow, Nat.reduceBNe, Nat.reduceBEq, f5, r5, r57, ia4_0, ia4_1]
        refine f17_c (k1.step hE17.step) fun H8 u1 b1 hE8 ho1 hb1 => ?_
        have hE68 : Ext H6 H8 := ((Ext.refl H6).skip 8).trans (hE7.trans hE8)
        have hE18 := hE16.trans hE68
        have r38 : H8.get _ = _ := (hE68.get H.next (by omega)).trans r3
        have r58 : H8.get _ = _ := (hE68.get (H.next + 1) (by omega)).trans r5
        have c88 : H8.get _ = _ := (hE68.get H5.next (by omega)).trans k8
        have lt8 := hE68.le
        have ho0' := ho0.ext hE8
        simp only [start, KC_normal, go_sem, Nat.reduceEqDiff, Nat.reduceAdd, reduceIte, reduceCtorEq, Nat.reduceLeDiff, Nat.reduceShiftRight, Nat.reduceAnd, Nat.reduceOr, Nat.reducePow, Nat.reduceBNe, Nat.reduceBEq, f5, r5, r57, r58, ia4_0, ia4_1]
        generalize hT : Tr.set _ _ _ _ = tm3
        obtain ⟨g3, g5, g7, g8, g10, g11⟩ : tm3.get 3 = some (.pointer (some ⟨H.next, 0, none⟩)) ∧ tm3.get 5 = some (.pointer (some ⟨H.next + 1, 0, none⟩)) ∧ tm3.get 7 = some (.int .i64 (n : Nat)) ∧ tm3.get 8 = some (.pointer (some ⟨H5.next, 0, none⟩)) ∧ tm3.get 10 = some u0 ∧ tm3.get 11 = some u1 := by
          subst hT
          refine ⟨?_, ?_, ?_, ?_, ?_, ?_⟩ <;> simp only [start, KC_normal, go_sem, Nat.reduceEqDiff, Nat.reduceAdd, reduceIte, reduceCtorEq, Nat.reduceLeDiff, Nat.reduceShiftRight, Nat.reduceAnd, Nat.reduceOr, Nat.reducePow, Nat.reduceBNe, Nat.reduceBEq, f3, f5, f7, f8]
        clear hT f3 f5 f7 f8
        have tkn : ∀ {H' : Heap} {v : Value} {l : List Wd} {b : Option Nat}, Own1 H' 1 (l.flatMap wordC) v l.length b → Tk noF H' v l := fun h => Ex.Own1.tk h fun _ _ h => h
        have sln : ∀ {H' : Heap} {v : Value} {l : List Wd} {b : Option Nat}, Own1 H' 1 (l.flatMap wordC) v l.length b → Sl noF H' 1 v l.length (l.flatMap wordC) := fun h => h.sl fun _ _ h => h
        refine DRg_x TT.ok [0, 0, 0, 0, 0, 16, 0, 64, 0, 448, 1008, 2047, 4095] 13 8191 120 rfl (by decide +kernel) ?_
        simp only [start, KC_normal, go_sem, Nat.reduceEqDiff, Nat.reduceAdd, reduceIte, reduceCtorEq, Nat.reduceLeDiff, Nat.reduceShiftRight, Nat.reduceAnd, Nat.reduceOr, Nat.reducePow, Nat.reduceBNe, Nat.reduceBEq, g3, g5, g7, g8, g10, g11, r38, r58, ia4_2, w5]
        have hs8 := hE18.skip 13
        refine f24_c (k2.step hs8.step) (by omega) fun H9 u2 b2 ml hml hE9 ho2 hb2 => ?_
        have hE89 : Ext H8 H9 := ((Ext.refl H8).skip 13).trans hE9
        have hE19 := hE18.trans hE89
        have r39 : H9.get _ = _ := (hE89.get H.next (by omega)).trans r38
        have r59 : H9.get _ = _ := (hE89.get (H.next + 1) (by omega)).trans r58
        simp only [start, KC_normal, go_sem, Nat.reduceEqDiff, Nat.reduceAdd, reduceIte, reduceCtorEq, Nat.reduceLeDiff, Nat.reduceShiftRight, Nat.reduceAnd, Nat.reduceOr, Nat.reducePow, Nat.reduceBNe, Nat.reduceBEq, g3, g5, g7, g8, g10, g11, r38, r58, r39, r59, ia4_2, w5]
        refine f19_c h78 (hv0.step hE19.step) hf (tkn (ho0'.ext hE89)) (tkn (ho1.ext hE89)) (tkn ho2) fun HA uin bin hEA hoin hbin => ?_
        have hE8A := hE89.trans hEA
        have hE1A := hE18.trans hE8A
        have r3A : HA.get _ = _ := (hE8A.get H.next (by omega)).trans r38
        have r5A : HA.get _ = _ := (hE8A.get (H.next + 1) (by omega)).trans r58
        have c8A : HA.get _ = _ := (hE8A.get H5.next (by omega)).trans c88
        have ltA := hE8A.le
        simp only [start, KC_normal, go_sem, Nat.reduceEqDiff, Nat.reduceAdd, reduceIte, reduceCtorEq, Nat.reduceLeDiff, Nat.reduceShiftRight, Nat.reduceAnd, Nat.reduceOr, Nat.reducePow, Nat.reduceBNe, Nat.reduceBEq, g3, g5, g7, g8, g10, g11, r38, r58, r39, r59, r3A, r5A, ia4_2, w5]
        generalize hT : Tr.set _ _ _ _ = tm4
        obtain ⟨j3, j5, j7, j8, j10, j11, j12⟩ : tm4.get 3 = some (.pointer (some ⟨H.next, 0, none⟩)) ∧ tm4.get 5 = some (.pointer (some ⟨H.next + 1, 0, none⟩)) ∧ tm4.get 7 = some (.int .i64 (n : Nat)) ∧ tm4.get 8 = some (.pointer (some ⟨H5.next, 0, none⟩)) ∧ tm4.get 10 = some u0 ∧ tm4.get 11 = some u1 ∧ tm4.get 12 = some uin := by
          subst hT
          refine ⟨?_, ?_, ?_, ?_, ?_, ?_, ?_⟩ <;> simp only [start, KC_normal, go_sem, Nat.reduceEqDiff, Nat.reduceAdd, reduceIte, reduceCtorEq, Nat.reduceLeDiff, Nat.reduceShiftRight, Nat.reduceAnd, Nat.reduceOr, Nat.reducePow, Nat.reduceBNe, Nat.reduceBEq, g3, g5, g7, g8, g10, g11]
        clear hT g3 g5 g7 g8 g10 g11
        refine DRg_x TT.ok [0, 0, 0, 4, 0, 16, 60, 127, 255, 511, 511, 1023, 4095] 13 8191 120 rfl (by decide +kernel) ?_
        simp only [start, KC_normal, go_sem, Nat.reduceEqDiff, Nat.reduceAdd, reduceIte, reduceCtorEq, Nat.reduceLeDiff, Nat.reduceShiftRight, Nat.reduceAnd, Nat.reduceOr, Nat.reducePow, Nat.reduceBNe, Nat.reduceBEq, j3, j5, j7, j8, j12, r5A, c8A, ia4_3]
        have hE6A := hE68.trans hE8A
        have hrb : randoms (expandM g n).1.2.1 ≤ 60000 := Nat.le_trans (List.countP_le_length) hopl
        refine f16_c (hcode.step (hE6A.skip 13).step) (by omega) fun HB hEB => ?_
        have hEAB : Ext HA HB := ((Ext.refl HA).skip 13).trans hEB
        have r5B : HB.get _ = _ := (hEAB.get (H.next + 1) (by omega)).trans r5A
        have c8B : HB.get _ = _ := (hEAB.get H5.next (by omega)).trans c8A
        have ltB := hEAB.le
        simp only [start, KC_normal, go_sem, Nat.reduceEqDiff, Nat.reduceAdd, reduceIte, reduceCtorEq, Nat.reduceLeDiff, Nat.reduceShiftRight, Nat.reduceAnd, Nat.reduceOr, Nat.reducePow, Nat.reduceBNe, Nat.reduceBEq, j3, j5, j7, j8, j12, r5A, c8A, r5B, c8B, ia4_3]
        refine f24_c (k3.step (hE1A.trans hEAB).step) (by omega) fun HC ut bt rl hrl hEC hot hbt => ?_
        have hEAC := hEAB.trans hEC
        have r5C : HC.get _ = _ := (hEAC.get (H.next + 1) (by omega)).trans r5A
        have c8C : HC.get _ = _ := (hEAC.get H5.next (by omega)).trans c8A
        simp only [start, KC_normal, go_sem, Nat.reduceEqDiff, Nat.reduceAdd, reduceIte, reduceCtorEq, Nat.reduceLeDiff, Nat.reduceShiftRight, Nat.reduceAnd, Nat.reduceOr, Nat.reducePow, Nat.reduceBNe, Nat.reduceBEq, j3, j5, j7, j8, j12, r5A, c8A, r5B, c8B, r5C, c8C, ia4_3]
        refine f25_c (hcode.step (hE6A.trans hEAC).step) hok hlo (sln (hoin.ext hEAC)) (sln hot) (by rw [hrl]; exact Nat.le_refl _) fun HD uw bw hED how hbw => ?_
        have hEAD := hEAC.trans hED
        have r3D : HD.get _ = _ := (hEAD.get H.next (by omega)).trans r3A
        have r5D : HD.get _ = _ := (hEAD.get (H.next + 1) (by omega)).trans r5A
        have c8D : HD.get _ = _ := (hEAD.get H5.next (by omega)).trans c8A
        have ltD := hEAD.le
        simp only [start, KC_normal, go_sem, Nat.reduceEqDiff, Nat.reduceAdd, reduceIte, reduceCtorEq, Nat.reduceLeDiff, Nat.reduceShiftRight, Nat.reduceAnd, Nat.reduceOr, Nat.reducePow, Nat.reduceBNe, Nat.reduceBEq, j3, j5, j7, j8, j10, j11, j12, r5A, c8A, r5B, c8B, r5C, c8C, r5D, c8D, r3D, ia4_3]
        generalize hT : Tr.set _ _ _ _ = tm5
        obtain ⟨i3, i7, i8, i13⟩ : tm5.get 3 = some (.pointer (some ⟨H.next, 0, none⟩)) ∧ tm5.get 7 = some (.int .i64 (n : Nat)) ∧ tm5.get 8 = some (.pointer (some ⟨H5.next, 0, none⟩)) ∧ tm5.get 13 = some uw := by
          subst hT
          refine ⟨?_, ?_, ?_, ?_⟩ <;> simp only [start, KC_normal, go_sem, Nat.reduceEqDiff, Nat.reduceAdd, reduceIte, reduceCtorEq, Nat.reduceLeDiff, Nat.reduceShiftRight, Nat.reduceAnd, Nat.reduceOr, Nat.reducePow, Nat.reduceBNe, Nat.reduceBEq, j3, j7, j8]
        clear hT
        have hE8D := hE8A.trans hEAD
        have hE1D := hE1A.trans hEAD
        refine f26_c (hv0.step hE1D.step) (by omega) hgo (sln (ho0'.ext hE8D)) (sln (ho1.ext hE8D)) fun HE ug bgw hEE hog hbg => ?_
        have hE1E := hE1D.trans hEE
        have ltE := hEE.le
        have r3E : HE.get _ = _ := (hEE.get H.next (by omega)).trans r3D
        have c8E : HE.get _ = _ := (hEE.get H5.next (by omega)).trans c8D
        have howE := how.ext hEE
        simp only [start, KC_normal, go_sem, Nat.reduceEqDiff, Nat.reduceAdd, reduceIte, reduceCtorEq, Nat.reduceLeDiff, Nat.reduceShiftRight, Nat.reduceAnd, Nat.reduceOr, Nat.reducePow, Nat.reduceBNe, Nat.reduceBEq, i3, i7, i8, i13]
        generalize hX : HE.push _ = HF
        obtain ⟨hEF, kF, hnF⟩ := new_push hX
        clear hX
        refine wp_loop TT.ok rfl rfl (fun j st => ∃ tm H' i w b, st = ⟨tm, 120, [], false, H'⟩ ∧ j = g.outs.length - i ∧ i ≤ g.outs.length ∧ Ext HE H' ∧ Own1 H' 1 ((wantW (l0.take 5000) (l1.take 5000) g (g.outs.take i)).flatMap wordC) w (wantW (l0.take 5000) (l1.take 5000) g (g.outs.take i)).length b ∧ (∀ j, b = some j → HE.next ≤ j) ∧
          tm.get 3 = some (.pointer (some ⟨H.next, 0, none⟩)) ∧ tm.get 7 = some (.int .i64 (n : Nat)) ∧ tm.get 8 = some (.pointer (some ⟨H5.next, 0, none⟩)) ∧ tm.get 13 = some uw ∧ tm.get 15 = some ug ∧ tm.get 16 = some w ∧ tm.get 17 = some (.int .i64 (i : Nat))) g.outs.length ?_ ?_
        · refine ⟨_, HF, 0, .slice (some ⟨HE.next, 0, none⟩) 0 0, some HE.next, rfl, rfl, Nat.zero_le _, hEF, .blk _ 0 (by omega) kF rfl, (fun j hj => by cases hj; omega), ?_, ?_, ?_, ?_, ?_, ?_, ?_⟩
          all_goals simp only [start, KC_normal, go_sem, Nat.reduceEqDiff, Nat.reduceAdd, reduceIte, reduceCtorEq, Nat.reduceLeDiff, Nat.reduceShiftRight, Nat.reduceAnd, Nat.reduceOr, Nat.reducePow, Nat.reduceBNe, Nat.reduceBEq, i3, i7, i8, i13]
          rfl
        · clear kF hnF hEF
          rintro j st - ⟨tm, H', i, w, b, rfl, hj, hi, hEx, how', hb', t3, t7, t8, t13, t15, t16, t17⟩
          have r3X : H'.get _ = _ := (hEx.get H.next (by omega)).trans r3E
          have c8X : H'.get _ = _ := (hEx.get H5.next (by omega)).trans c8E
          simp only [start, KC_normal, go_sem, Nat.reduceEqDiff, Nat.reduceAdd, reduceIte, reduceCtorEq, Nat.reduceLeDiff, Nat.reduceShiftRight, Nat.reduceAnd, Nat.reduceOr, Nat.reducePow, Nat.reduceBNe, Nat.reduceBEq, t3, t17, r3X]
          refine CN_split (fun hlt => ?_) (fun hge => ?_)
          · have hlt' : i < g.outs.length := by omega
            obtain ⟨o, hx⟩ : ∃ o, g.outs[i]? = some o := ⟨_, List.getElem?_eq_getElem hlt'⟩
            obtain ⟨bo, oo, owo, Co, rfl, hko, hCo⟩ := huA.all OutM.len (by omega)
            have hat := (hCo _ _ hx).1 1 (by omega)
            simp only [OutM.c, List.getElem?_cons_succ, List.getElem?_cons_zero] at hat
            have hko' := (hko.step (hE1E.trans hEx).step).get
            have hor : 0 ≤ o.At ∧ o.At < g.gates.length := by have := hgo.c.o i o hx; rw [as_len] at this; exact this
            have hwl : (wordsL (l0.take 5000) (l1.take 5000) (g.as 8).gates).length = g.gates.length := by rw [wordsL_len, as_len]
            obtain ⟨kw, rfl, hgw, hkw, hcA⟩ := Ex.Own1.word (hog.ext hEx) (n := o.At.toNat) (by omega)
            have hAl : o.At < ((wordsL (l0.take 5000) (l1.take 5000) (g.as 8).gates).length : Int) := by omega
            have e2 : IntKind.i64.wrap ((i : Int) + 1) = ((i + 1 : Nat) : Int) := by rw [wrap_i64 _ (by omega) (by omega)]; rfl
            have hwn := wantW_next (l0.take 5000) (l1.take 5000) g hx
            have hwlen : (wantW (l0.take 5000) (l1.take 5000) g (g.outs.take i)).length = i := by simp [wantW]; omega
            obtain ⟨v7, H7', b7, he7, ho7, hS7, hb7⟩ := app1_wd how' (by omega) (atW (wordsL (l0.take 5000) (l1.take 5000) (g.as 8).gates) o.At.toNat)
            simp only [wordC] at he7
            simp only [start, KC_normal, go_sem, Nat.reduceEqDiff, Nat.reduceAdd, reduceIte, reduceCtorEq, Nat.reduceLeDiff, Nat.reduceShiftRight, Nat.reduceAnd, Nat.reduceOr, Nat.reducePow, Nat.reduceBNe, Nat.reduceBEq, t3, t7, t8, t15, t16, t17, r3X, ia_in _ _ _ _ _ hlt', hko', hat, ia_int _ _ _ _ _ hor.1 hAl, hgw, hcA, he7]
            refine ⟨g.outs.length - (i + 1), by omega, _, H7', i + 1, v7, b7, rfl, rfl, by omega, hEx.app hS7 hb', ?_, ?_, ?_, ?_, ?_, ?_, ?_, ?_, ?_⟩
            · rw [hwn]; exact ho7
            · intro j hj; have := hb7 j hj; have := hEx.le; omega
            all_goals simp only [start, KC_normal, go_sem, Nat.reduceEqDiff, Nat.reduceAdd, reduceIte, reduceCtorEq, Nat.reduceLeDiff, Nat.reduceShiftRight, Nat.reduceAnd, Nat.reduceOr, Nat.reducePow, Nat.reduceBNe, Nat.reduceBEq, t3, t7, t8, t13, t15]
            rw [e2]
          · have hi' : i = g.outs.length := by omega
            subst hi'
            rw [List.take_length] at how'
            simp only [start, KC_normal, go_sem, Nat.reduceEqDiff, Nat.reduceAdd, reduceIte, reduceCtorEq, Nat.reduceLeDiff, Nat.reduceShiftRight, Nat.reduceAnd, Nat.reduceOr, Nat.reducePow, Nat.reduceBNe, Nat.reduceBEq]
            generalize hT : Tr.set _ _ _ _ = tm6
            obtain ⟨y3', y7', y8', y13', y16'⟩ : tm6.get 3 = some (.pointer (some ⟨H.next, 0, none⟩)) ∧ tm6.get 7 = some (.int .i64 (n : Nat)) ∧ tm6.get 8 = some (.pointer (some ⟨H5.next, 0, none⟩)) ∧ tm6.get 13 = some uw ∧ tm6.get 16 = some w := by
              subst hT
              refine ⟨?_, ?_, ?_, ?_, ?_⟩ <;> simp only [start, KC_normal, go_sem, Nat.reduceEqDiff, Nat.reduceAdd, reduceIte, reduceCtorEq, Nat.reduceLeDiff, Nat.reduceShiftRight, Nat.reduceAnd, Nat.reduceOr, Nat.reducePow, Nat.reduceBNe, Nat.reduceBEq, t3, t7, t8, t13, t16]
            clear hT t3 t7 t8 t13 t15 t16 t17
            have hE1X := hE1E.trans hEx
            have ltX := hEx.le
            have hpl := hP (s := l0.take 5000) (p := l1.take 5000) (m := ml) (rs := rl) hf.1 hf.2 hn1 hn4 hex (by rw [hrl]; exact Nat.le_refl _)
            refine DRg_x TT.ok [0, 0, 0, 0, 12, 31, 0, 127, 255, 511, 1023, 2047] 12 4095 120 rfl (by decide +kernel) ?_
            simp only [start, KC_normal, go_sem, Nat.reduceEqDiff, Nat.reduceAdd, reduceIte, reduceCtorEq, Nat.reduceLeDiff, Nat.reduceShiftRight, Nat.reduceAnd, Nat.reduceOr, Nat.reducePow, Nat.reduceBNe, Nat.reduceBEq, y3', y7', y8', y13', y16', r3X, c8X]
            have hEs : Ext H' (H'.skip 12) := (Ext.refl H').skip 12
            refine f27_c (hcode.step ((hE6A.trans hEAD).trans ((hEE.trans hEx).trans hEs)).step) (sln ((howE.ext hEx).ext hEs)) hlo (fun x hx => by
              obtain ⟨q, hq⟩ := List.getElem?_of_mem hx
              exact (hok.o q x hq).1) fun HG up bp hEG hop hbp => ?_
            have hXG := hEs.trans hEG
            have r3G : HG.get _ = _ := (hXG.get H.next (by omega)).trans r3X
            have c8G : HG.get _ = _ := (hXG.get H5.next (by omega)).trans c8X
            have ltG := hXG.le
            simp only [start, KC_normal, go_sem, Nat.reduceEqDiff, Nat.reduceAdd, reduceIte, reduceCtorEq, Nat.reduceLeDiff, Nat.reduceShiftRight, Nat.reduceAnd, Nat.reduceOr, Nat.reducePow, Nat.reduceBNe, Nat.reduceBEq, y3', y7', y8', y13', y16', r3X, c8X, r3G, c8G]
            refine f21_c h78 (hv0.step (hE1X.trans hXG).step) hf (tkn hop) fun HI ui bi hEI hoi hbi => ?_
            have hXI := hXG.trans hEI
            have r3I : HI.get _ = _ := (hXI.get H.next (by omega)).trans r3X
            have c8I : HI.get _ = _ := (hXI.get H5.next (by omega)).trans c8X
            have ltI := hXI.le
            rw [hpl] at hoi
            simp only [start, KC_normal, go_sem, Nat.reduceEqDiff, Nat.reduceAdd, reduceIte, reduceCtorEq, Nat.reduceLeDiff, Nat.reduceShiftRight, Nat.reduceAnd, Nat.reduceOr, Nat.reducePow, Nat.reduceBNe, Nat.reduceBEq, y3', y7', y8', y13', y16', r3X, c8X, r3G, c8G, r3I, c8I]
            refine f18_c (sln hoi) (sln (how'.ext hXI)) (by simp only [wantW, List.length_map]; omega) fun r HJ hEJ hr => ?_
            obtain rfl := hr.2 rfl
            have hXJ := hXI.trans hEJ
            have r3J : HJ.get _ = _ := (hXJ.get H.next (by omega)).trans r3X
            have c8J : HJ.get _ = _ := (hXJ.get H5.next (by omega)).trans c8X
            have ltJ := hXJ.le
            simp only [start, KC_normal, go_sem, Nat.reduceEqDiff, Nat.reduceAdd, reduceIte, reduceCtorEq, Nat.reduceLeDiff, Nat.reduceShiftRight, Nat.reduceAnd, Nat.reduceOr, Nat.reducePow, Nat.reduceBNe, Nat.reduceBEq, y3', y7', y8', y13', y16', r3X, c8X, r3G, c8G, r3I, c8I, r3J, c8J]
            refine lives_c fun HK hEK => ?_
            have r3K : HK.get _ = _ := ((hXJ.trans hEK).get H.next (by omega)).trans r3X
            have c8K : HK.get _ = _ := ((hXJ.trans hEK).get H5.next (by omega)).trans c8X
            simp only [start, KC_normal, go_sem, Nat.reduceEqDiff, Nat.reduceAdd, reduceIte, reduceCtorEq, Nat.reduceLeDiff, Nat.reduceShiftRight, Nat.reduceAnd, Nat.reduceOr, Nat.reducePow, Nat.reduceBNe, Nat.reduceBEq, y3', y7', y8', y13', y16', r3X, c8X, r3G, c8G, r3I, c8I, r3J, c8J, r3K, c8K]
            exact hQ HK ((hE1X.trans hXJ).trans hEK)
      · obtain ⟨h150, h4000⟩ := expand_150 hgo hn1 hn4 hex
        have hs := hgo.c.s
        have hp := hgo.c.p
        simp only [CircM.as] at hs hp
        have w3 : IntKind.i64.wrap (g.secrets * 5) = g.secrets * 5 := wrap_i64 _ (by omega) (by omega)
        have w4 : IntKind.i64.wrap (g.secrets * 5 + g.publics) = g.secrets * 5 + g.publics := wrap_i64 _ (by omega) (by omega)
        simp only [start, KC_normal, go_sem, Nat.reduceEqDiff, Nat.reduceAdd, reduceIte, reduceCtorEq, Nat.reduceLeDiff, Nat.reduceShiftRight, Nat.reduceAnd, Nat.reduceOr, Nat.reducePow, Nat.reduceBNe, Nat.reduceBEq, h150, Int.reduceEq, r3, w3, w4, h4000]
        refine lives_c fun H7 hE7 => ?_
        simp only [start, KC_normal, go_sem, Nat.reduceEqDiff, Nat.reduceAdd, reduceIte, reduceCtorEq, Nat.reduceLeDiff, Nat.reduceShiftRight, Nat.reduceAnd, Nat.reduceOr, Nat.reducePow, Nat.reduceBNe, Nat.reduceBEq]
        exact hQ H7 (hE16.trans hE7)
end Go.Ab.Ex
end
section
namespace Go.Ab.Ex
open Go.Proofs
set_option maxRecDepth 10000
set_option maxHeartbeats 1000000

/-! a run only adds -/
theorem runE_add (rs : List Wd) : ∀ (ops : List OpM) (s : List Wd × Nat), ∃ t : List Wd, t.length = ops.length ∧ (runE rs ops s).1 = s.1 ++ t
  | [], s => ⟨[], rfl, (List.append_nil _).symm⟩
  | o :: ops, s => by
    obtain ⟨t, ht, h⟩ := runE_add rs ops (stepE rs s o)
    refine ⟨opW rs s.1 s.2 o :: t, by simp [ht], ?_⟩
    show (runE rs ops (stepE rs s o)).1 = _
    rw [h]
    simp [stepE]
theorem runE_app (rs : List Wd) (a b : List OpM) (s : List Wd × Nat) : runE rs (a ++ b) s = runE rs b (runE rs a s) := by
  unfold runE
  rw [List.foldl_append]
theorem atW_app {ws t : List Wd} {n : Nat} (h : n < ws.length) : atW (ws ++ t) n = atW ws n := by
  unfold atW
  rw [List.getD_eq_getElem?_getD, List.getD_eq_getElem?_getD, List.getElem?_append_left h]
theorem atW_new {ws t : List Wd} {n : Nat} : atW (ws ++ t) (ws.length + n) = atW t n := by
  unfold atW
  rw [List.getD_eq_getElem?_getD, List.getD_eq_getElem?_getD, List.getElem?_append_right (by omega), Nat.add_sub_cancel_left]

/-! steps over old words alone -/
structure OldOp (n : Nat) (o : OpM) : Prop where
  k : o.K ≠ 0
  a : 0 < takesO o.K → o.A.toNat < n
  b : 1 < takesO o.K → o.B.toNat < n
theorem opW_old {rs ws t : List Wd} {rc rc' : Nat} {o : OpM} (h : OldOp ws.length o) : opW rs (ws ++ t) rc o = opW rs ws rc' o := by
  unfold opW
  have e1 : (if 0 < takesO o.K then atW (ws ++ t) o.A.toNat else 0) = if 0 < takesO o.K then atW ws o.A.toNat else 0 := by
    split
    · exact atW_app (h.a (by assumption))
    · rfl
  have e2 : (if 1 < takesO o.K then atW (ws ++ t) o.B.toNat else 0) = if 1 < takesO o.K then atW ws o.B.toNat else 0 := by
    split
    · exact atW_app (h.b (by assumption))
    · rfl
  rw [e1, e2]
  unfold fnW
  rw [if_neg h.k, if_neg h.k]
theorem run_old (rs : List Wd) {ws : List Wd} (rc : Nat) : ∀ (l : List OpM) (t : List Wd), (∀ o ∈ l, OldOp ws.length o) → runE rs l (ws ++ t, rc) = (ws ++ (t ++ l.map (opW rs ws 0)), rc)
  | [], t, _ => by simp [runE]
  | o :: l, t, h => by
    have ho := h o (by simp)
    have e : stepE rs (ws ++ t, rc) o = (ws ++ (t ++ [opW rs ws 0 o]), rc) := by
      simp only [stepE]
      rw [opW_old (rc' := 0) ho, if_neg ho.k, List.append_assoc]; rfl
    show runE rs l (stepE rs (ws ++ t, rc) o) = _
    rw [e, run_old rs rc l (t ++ [opW rs ws 0 o]) fun o' ho' => h o' (by simp [ho'])]
    simp

/-! sums -/
theorem joinW_cons (x : Wd) (l : List Wd) : joinW (x :: l) = x ^^^ joinW l := by
  have key : ∀ (l : List Wd) (a : Wd), l.foldl (fun a b => a ^^^ b) a = a ^^^ l.foldl (fun a b => a ^^^ b) 0 := by
    intro l
    induction l with
    | nil => intro a; simp
    | cons y l ih => intro a; rw [List.foldl_cons, List.foldl_cons, ih (a ^^^ y), ih (0 ^^^ y)]; simp [BitVec.xor_assoc]
  unfold joinW
  rw [List.foldl_cons, key]
  simp
theorem joinW_nil : joinW [] = 0 := rfl
theorem joinW_app : ∀ (l m : List Wd), joinW (l ++ m) = joinW l ^^^ joinW m
  | [], m => by simp [joinW_nil]
  | x :: l, m => by rw [List.cons_append, joinW_cons, joinW_cons, joinW_app l m, BitVec.xor_assoc]
theorem joinW_lin {f : Wd → Wd} (hf : ∀ a b, f (a ^^^ b) = f a ^^^ f b) (h0 : f 0 = 0) : ∀ l : List Wd, joinW (l.map f) = f (joinW l)
  | [] => by show (0 : Wd) = f 0; exact h0.symm
  | x :: l => by rw [List.map_cons, joinW_cons, joinW_cons, joinW_lin hf h0 l, hf]
end Go.Ab.Ex
end
section
namespace Go.Ab.Ex
open Go.Proofs
set_option maxRecDepth 10000
set_option maxHeartbeats 1000000

section
variable {rs ws : List Wd} {inp : List Int}
def inV (ws : List Wd) (inp : List Int) : List Wd := inp.map fun w => atW ws w.toNat
theorem inV_len (ws : List Wd) (inp : List Int) : (inV ws inp).length = inp.length := by simp [inV]
theorem atM_val {t : List Wd} {x : Int} (hi : WiresOk inp ws.length) (h0 : 0 ≤ x) (h1 : x < inp.length + t.length) : atW (ws ++ t) (atM inp ws.length x).toNat = atW (inV ws inp ++ t) x.toNat := by
  unfold atM
  by_cases hx : x < inp.length
  · rw [if_pos hx]
    have hw := hi.getD (i := x.toNat) (by omega)
    rw [atW_app (by omega), atW_app (by rw [inV_len]; omega)]
    have e : inp[x.toNat]? = some (inp.getD x.toNat 0) := by
      rw [List.getD_eq_getElem?_getD, List.getElem?_eq_getElem (by omega)]; rfl
    have e2 : (inV ws inp)[x.toNat]? = some (atW ws (inp.getD x.toNat 0).toNat) := by
      unfold inV
      rw [List.getElem?_map, e]; rfl
    have e3 : (inV ws inp).getD x.toNat 0 = atW ws (inp.getD x.toNat 0).toNat := by rw [List.getD_eq_getElem?_getD, e2]; rfl
    exact e3.symm
  · rw [if_neg hx]
    have e1 : (x - (inp.length : Int) + (ws.length : Int)).toNat = ws.length + (x.toNat - inp.length) := by omega
    have e2 : x.toNat = (inV ws inp).length + (x.toNat - inp.length) := by rw [inV_len]; omega
    rw [e1, atW_new]
    conv => rhs; rw [e2]
    rw [atW_new]

/-- what fits a gadget's step, so many words being there -/
structure GFit (n : Int) (o : OpM) : Prop where
  ex : (o.K = 0 ∧ o.A = 0 ∧ o.B = 0) ∨ ((o.K = 1 ∨ o.K = 2) ∧ 0 ≤ o.A ∧ o.A < n ∧ 0 ≤ o.B ∧ o.B < n)

theorem opW_gop {t : List Wd} {rc : Nat} {o : OpM} (hi : WiresOk inp ws.length) (h : GFit (inp.length + t.length) o) : opW rs (ws ++ t) rc (gopM inp ws.length o) = opW rs (inV ws inp ++ t) rc o := by
  rcases h.ex with ⟨hK, hA, hB⟩ | ⟨hK, hA0, hA1, hB0, hB1⟩
  · have e : gopM inp ws.length o = ⟨o.K, 0, 0, 0⟩ := by unfold gopM; rw [hK]; rfl
    rw [e]
    unfold opW fnW
    rw [if_pos hK, if_pos hK]
  · have h2 : takesO o.K = 2 := by rcases hK with h | h <;> rw [h] <;> rfl
    have e : gopM inp ws.length o = ⟨o.K, atM inp ws.length o.A, atM inp ws.length o.B, 0⟩ := by unfold gopM; rw [if_pos h2]
    rw [e]
    unfold opW
    simp only [h2]
    rw [if_pos (by decide), if_pos (by decide), if_pos (by decide), if_pos (by decide), atM_val hi hA0 hA1, atM_val hi hB0 hB1]
    unfold fnW
    rcases hK with h | h <;> rw [h] <;> rfl
theorem gopM_K' (n : Int) (o : OpM) : (gopM inp n o).K = o.K := by unfold gopM; split <;> rfl
theorem reloc (hi : WiresOk inp ws.length) : ∀ (l : List OpM) (t : List Wd) (rc : Nat), (∀ (i : Nat) (o : OpM), l[i]? = some o → GFit (inp.length + t.length + i) o) →
    ∃ G rc', runE rs (l.map (gopM inp ws.length)) (ws ++ t, rc) = (ws ++ G, rc') ∧ runE rs l (inV ws inp ++ t, rc) = (inV ws inp ++ G, rc')
  | [], t, rc, _ => ⟨t, rc, rfl, rfl⟩
  | o :: l, t, rc, h => by
    have ho : GFit (inp.length + t.length) o := by have := h 0 o rfl; simpa using this
    have e1 : stepE rs (ws ++ t, rc) (gopM inp ws.length o) = (ws ++ (t ++ [opW rs (inV ws inp ++ t) rc o]), rc + if o.K = 0 then 1 else 0) := by
      simp only [stepE]
      rw [opW_gop hi ho, gopM_K', List.append_assoc]
    have e2 : stepE rs (inV ws inp ++ t, rc) o = (inV ws inp ++ (t ++ [opW rs (inV ws inp ++ t) rc o]), rc + if o.K = 0 then 1 else 0) := by
      simp only [stepE]
      rw [List.append_assoc]
    obtain ⟨G, rc', h1, h2⟩ := reloc hi l (t ++ [opW rs (inV ws inp ++ t) rc o]) (rc + if o.K = 0 then 1 else 0) fun i o' hio => by
      have := h (i + 1) o' hio
      rw [List.length_append, List.length_singleton]
      have e : (inp.length : Int) + ((t.length + 1 : Nat) : Int) + (i : Int) = inp.length + t.length + ((i + 1 : Nat) : Int) := by omega
      rw [e]; exact this
    refine ⟨G, rc', ?_, ?_⟩
    · show runE rs (l.map (gopM inp ws.length)) (stepE rs (ws ++ t, rc) (gopM inp ws.length o)) = _
      rw [e1]; exact h1
    · show runE rs l (stepE rs (inV ws inp ++ t, rc) o) = _
      rw [e2]; exact h2
end

/-- a gadget among others -/
theorem gadget_run {and : Bool} {d : Nat} (hd : 1 ≤ d ∧ d ≤ 6) {rs ws : List Wd} {inp : List Int} (hlen : (inp.length : Int) = gIn and d) (hi : WiresOk inp ws.length) (rc : Nat) :
    ∃ G rc', runE rs (gadgetM and d inp ws.length).1 (ws, rc) = (ws ++ G, rc') ∧ runE rs (gadOps and d) (inV ws inp, rc) = (inV ws inp ++ G, rc') ∧
      (gadgetM and d inp ws.length).2.map (fun w => atW (ws ++ G) w.toNat) = (gad and d).outs.map (fun x => atW (inV ws inp ++ G) x.toNat) := by
  have hG := gadOk and hd.1 hd.2
  obtain ⟨G, rc', h1, h2⟩ := reloc (rs := rs) hi (gadOps and d) [] rc fun i o hio => by
    obtain ⟨h1, hN⟩ := hG.op i o hio
    refine ⟨?_⟩
    rcases h1 with h1 | ⟨hK, hA0, hA1, hB0, hB1⟩
    · exact .inl h1
    · right
      refine ⟨hK, hA0, ?_, hB0, ?_⟩
      · rw [hlen]; simpa using hA1
      · rw [hlen]; simpa using hB1
  rw [List.append_nil] at h1 h2
  refine ⟨G, rc', h1, h2, ?_⟩
  have hGl : G.length = (gadOps and d).length := by
    have := runE_len rs (gadOps and d) (inV ws inp, rc)
    rw [h2] at this
    simp only [List.length_append] at this
    omega
  simp only [gadgetM, List.map_map]
  apply List.map_congr_left
  intro x hx
  have := hG.out x hx
  exact atM_val hi this.1 (by rw [hlen, hGl]; exact this.2)
end Go.Ab.Ex
end
section
namespace Go.Ab.Ex
open Go.Proofs
set_option maxRecDepth 10000
set_option maxHeartbeats 1000000

theorem joinW_set : ∀ (l : List Wd) (i : Nat) (u : Wd), i < l.length → joinW (l.set i u) = joinW l ^^^ (atW l i ^^^ u)
  | [], i, u, h => by simp at h
  | x :: l, 0, u, _ => by
    show joinW (u :: l) = joinW (x :: l) ^^^ (x ^^^ u)
    rw [joinW_cons, joinW_cons]
    ext k
    simp only [BitVec.getElem_xor]
    cases x[k] <;> cases u[k] <;> cases (joinW l)[k] <;> rfl
  | x :: l, i + 1, u, h => by
    rw [List.set_cons_succ, joinW_cons, joinW_cons, joinW_set l i u (by simpa using h), BitVec.xor_assoc]
    rfl
theorem atW_set_ne {l : List Wd} {i j : Nat} {u : Wd} (h : i ≠ j) : atW (l.set i u) j = atW l j := by
  unfold atW
  rw [List.getD_eq_getElem?_getD, List.getD_eq_getElem?_getD, List.getElem?_set_ne h]
theorem atW_map {f : Int → Wd} {l : List Int} {i : Nat} (h : i < l.length) : atW (l.map f) i = f (l.getD i 0) := by
  unfold atW
  rw [List.getD_eq_getElem?_getD, List.getD_eq_getElem?_getD, List.getElem?_map, List.getElem?_eq_getElem h]; rfl

section
variable (rs W : List Wd) (rc : Nat) (A B : Int) (N : Wd)
theorem opW_1 : opW rs W rc ⟨1, A, B, N⟩ = atW W A.toNat &&& atW W B.toNat := rfl
theorem opW_2 : opW rs W rc ⟨2, A, B, N⟩ = atW W A.toNat ^^^ atW W B.toNat := rfl
end

/-- what is so of a gadget so far -/
structure GI (rs vin : List Wd) (rc0 : Nat) (d : Nat) (s : Gad) (J : Wd) : Prop where
  len : s.outs.length = d + 1
  rng : ∀ x ∈ s.outs, 0 ≤ x ∧ x < (vin.length : Int) + s.ops.length
  sum : joinW (s.outs.map fun x => atW (runE rs (s.ops.map toOp) (vin, rc0)).1 x.toNat) = J

theorem sum_two {V V' : List Wd} {outs : List Int} {i j : Nat} {p q : Int} (hij : i ≠ j) (hi : i < outs.length) (hj : j < outs.length) (hV : ∀ x ∈ outs, atW V' x.toNat = atW V x.toNat) {y : Wd}
    (hu : ∃ r, atW V' p.toNat = atW V (outs.getD i 0).toNat ^^^ r ∧ atW V' q.toNat = atW V (outs.getD j 0).toNat ^^^ (r ^^^ y)) :
    joinW (((outs.set i p).set j q).map fun x => atW V' x.toNat) = joinW (outs.map fun x => atW V x.toNat) ^^^ y := by
  obtain ⟨r, h1, h2⟩ := hu
  rw [List.map_set, List.map_set]
  have e : outs.map (fun x => atW V' x.toNat) = outs.map (fun x => atW V x.toNat) := List.map_congr_left hV
  rw [e, joinW_set _ _ _ (by simpa using hj), joinW_set _ _ _ (by simpa using hi), atW_set_ne hij, atW_map hi, atW_map hj, h1, h2]
  generalize joinW (outs.map fun x => atW V x.toNat) = J
  generalize atW V (outs.getD i 0).toNat = a
  generalize atW V (outs.getD j 0).toNat = b
  ext k
  simp only [BitVec.getElem_xor]
  cases J[k] <;> cases a[k] <;> cases b[k] <;> cases r[k] <;> cases y[k] <;> rfl
end Go.Ab.Ex
end
section
namespace Go.Ab.Ex
open Go.Proofs
set_option maxRecDepth 10000
set_option maxHeartbeats 1000000

section
variable (rs W : List Wd) (c : Nat) (A B : Int) (N : Wd)
theorem stepE_0 : stepE rs (W, c) ⟨0, A, B, N⟩ = (W ++ [atW rs c], c + 1) := rfl
theorem stepE_1 : stepE rs (W, c) ⟨1, A, B, N⟩ = (W ++ [atW W A.toNat &&& atW W B.toNat], c) := rfl
theorem stepE_2 : stepE rs (W, c) ⟨2, A, B, N⟩ = (W ++ [atW W A.toNat ^^^ atW W B.toNat], c) := rfl
end
theorem atW_newI {V l : List Wd} {n : Int} {k : Nat} (h : n = V.length + k) : atW (V ++ l) n.toNat = atW l k := by
  have e : n.toNat = V.length + k := by omega
  rw [e, atW_new]

theorem xor_0 (w : Wd) : w ^^^ (0 : Wd) = w := by simp
theorem getD_rng {outs : List Int} {n : Int} (h : ∀ x ∈ outs, 0 ≤ x ∧ x < n) {i : Nat} (hi : i < outs.length) : 0 ≤ outs.getD i 0 ∧ outs.getD i 0 < n := by
  rw [List.getD_eq_getElem?_getD, List.getElem?_eq_getElem hi]
  exact h _ (List.getElem_mem hi)

theorem ref_words {rs V : List Wd} {rc : Nat} {oi oj n : Int} (hn : n = V.length) (hi : 0 ≤ oi ∧ oi < V.length) (hj : 0 ≤ oj ∧ oj < V.length) :
    runE rs ([[0, 0, 0, 0], [2, oi, n, 0], [2, oj, n, 0]].map toOp) (V, rc) = (V ++ [atW rs rc, atW V oi.toNat ^^^ atW rs rc, atW V oj.toNat ^^^ atW rs rc], rc + 1) := by
  show stepE rs (stepE rs (stepE rs (V, rc) ⟨0, 0, 0, 0⟩) ⟨2, oi, n, 0⟩) ⟨2, oj, n, 0⟩ = _
  have s2 : stepE rs (V ++ [atW rs rc], rc + 1) ⟨2, oi, n, 0⟩ = (V ++ [atW rs rc, atW V oi.toNat ^^^ atW rs rc], rc + 1) := by
    rw [stepE_2, atW_app (by omega), atW_newI (k := 0) (by omega), List.append_assoc]; rfl
  rw [stepE_0, s2, stepE_2, atW_app (by omega), atW_newI (k := 0) (by omega), List.append_assoc]
  rfl

theorem GI_ref {rs vin : List Wd} {rc0 d : Nat} {s : Gad} {J : Wd} (h : GI rs vin rc0 d s J) (hL : (vin.length : Int) = gIn false d) {i j : Nat} (hij : i < j) (hj : j ≤ d) : GI rs vin rc0 d (gStep false d s (i, j)) J := by
  have hlen := h.len
  have hVl := runE_len rs (s.ops.map toOp) (vin, rc0)
  have hsum := h.sum
  have hrng := h.rng
  have e : gStep false d s (i, j) = ⟨s.ops ++ [[0, 0, 0, 0], [2, s.outs.getD i 0, gIn false d + s.ops.length, 0], [2, s.outs.getD j 0, gIn false d + s.ops.length, 0]], (s.outs.set i (gIn false d + s.ops.length + 1)).set j (gIn false d + s.ops.length + 2)⟩ := rfl
  rw [e]
  have ri := getD_rng hrng (i := i) (by omega)
  have rj := getD_rng hrng (i := j) (by omega)
  rw [List.length_map] at hVl
  generalize hE : runE rs (s.ops.map toOp) (vin, rc0) = E at *
  obtain ⟨V, rc⟩ := E
  simp only at hVl hsum
  have hrun := ref_words (rs := rs) (V := V) (rc := rc) (n := gIn false d + s.ops.length) (oi := s.outs.getD i 0) (oj := s.outs.getD j 0) (by omega) (by omega) (by omega)
  refine ⟨by simp only [List.length_set]; exact hlen, fun x hx => ?_, ?_⟩
  · simp only [List.length_append, List.length_cons, List.length_nil]
    rcases List.mem_or_eq_of_mem_set hx with hx | rfl
    · rcases List.mem_or_eq_of_mem_set hx with hx | rfl
      · have := hrng x hx; omega
      · omega
    · omega
  · simp only [List.map_append, runE_app, hE]
    rw [hrun]
    have := sum_two (V := V) (V' := V ++ [atW rs rc, atW V (s.outs.getD i 0).toNat ^^^ atW rs rc, atW V (s.outs.getD j 0).toNat ^^^ atW rs rc]) (outs := s.outs) (i := i) (j := j) (p := gIn false d + s.ops.length + 1) (q := gIn false d + s.ops.length + 2) (by omega) (by omega) (by omega) (fun x hx => atW_app (by have := hrng x hx; omega)) (y := 0)
      ⟨atW rs rc, by rw [atW_newI (k := 1) (by omega)]; rfl, by rw [atW_newI (k := 2) (by omega), xor_0]; rfl⟩
    rw [this, hsum, xor_0]

theorem and_words {rs V : List Wd} {rc : Nat} {oi oj n ai bj aj bi : Int} (hn : n = V.length) (hi : 0 ≤ oi ∧ oi < V.length) (hj : 0 ≤ oj ∧ oj < V.length) (h1 : 0 ≤ ai ∧ ai < V.length) (h2 : 0 ≤ bj ∧ bj < V.length) (h3 : 0 ≤ aj ∧ aj < V.length) (h4 : 0 ≤ bi ∧ bi < V.length) :
    runE rs ([[0, 0, 0, 0], [1, ai, bj, 0], [2, n, n + 1, 0], [1, aj, bi, 0], [2, n + 2, n + 3, 0], [2, oi, n, 0], [2, oj, n + 4, 0]].map toOp) (V, rc) =
      (V ++ [atW rs rc, atW V ai.toNat &&& atW V bj.toNat, atW rs rc ^^^ (atW V ai.toNat &&& atW V bj.toNat), atW V aj.toNat &&& atW V bi.toNat, (atW rs rc ^^^ (atW V ai.toNat &&& atW V bj.toNat)) ^^^ (atW V aj.toNat &&& atW V bi.toNat), atW V oi.toNat ^^^ atW rs rc, atW V oj.toNat ^^^ ((atW rs rc ^^^ (atW V ai.toNat &&& atW V bj.toNat)) ^^^ (atW V aj.toNat &&& atW V bi.toNat))], rc + 1) := by
  show stepE rs (stepE rs (stepE rs (stepE rs (stepE rs (stepE rs (stepE rs (V, rc) ⟨0, 0, 0, 0⟩) ⟨1, ai, bj, 0⟩) ⟨2, n, n + 1, 0⟩) ⟨1, aj, bi, 0⟩) ⟨2, n + 2, n + 3, 0⟩) ⟨2, oi, n, 0⟩) ⟨2, oj, n + 4, 0⟩ = _
  generalize hr : atW rs rc = r
  generalize hx1 : atW V ai.toNat &&& atW V bj.toNat = x1
  generalize hx2 : atW V aj.toNat &&& atW V bi.toNat = x2
  have s2 : stepE rs (V ++ [r], rc + 1) ⟨1, ai, bj, 0⟩ = (V ++ [r, x1], rc + 1) := by
    rw [stepE_1, atW_app (by omega), atW_app (by omega), hx1, List.append_assoc]; rfl
  have s3 : stepE rs (V ++ [r, x1], rc + 1) ⟨2, n, n + 1, 0⟩ = (V ++ [r, x1, r ^^^ x1], rc + 1) := by
    rw [stepE_2, atW_newI (k := 0) (by omega), atW_newI (k := 1) (by omega), List.append_assoc]; rfl
  have s4 : stepE rs (V ++ [r, x1, r ^^^ x1], rc + 1) ⟨1, aj, bi, 0⟩ = (V ++ [r, x1, r ^^^ x1, x2], rc + 1) := by
    rw [stepE_1, atW_app (by omega), atW_app (by omega), hx2, List.append_assoc]; rfl
  have s5 : stepE rs (V ++ [r, x1, r ^^^ x1, x2], rc + 1) ⟨2, n + 2, n + 3, 0⟩ = (V ++ [r, x1, r ^^^ x1, x2, (r ^^^ x1) ^^^ x2], rc + 1) := by
    rw [stepE_2, atW_newI (k := 2) (by omega), atW_newI (k := 3) (by omega), List.append_assoc]; rfl
  have s6 : stepE rs (V ++ [r, x1, r ^^^ x1, x2, (r ^^^ x1) ^^^ x2], rc + 1) ⟨2, oi, n, 0⟩ = (V ++ [r, x1, r ^^^ x1, x2, (r ^^^ x1) ^^^ x2, atW V oi.toNat ^^^ r], rc + 1) := by
    rw [stepE_2, atW_app (by omega), atW_newI (k := 0) (by omega), List.append_assoc]; rfl
  rw [stepE_0, hr, s2, s3, s4, s5, s6, stepE_2, atW_app (by omega), atW_newI (k := 4) (by omega), List.append_assoc]
  rfl

theorem GI_and {rs vin : List Wd} {rc0 d : Nat} {s : Gad} {J : Wd} (h : GI rs vin rc0 d s J) (hL : (vin.length : Int) = gIn true d) {i j : Nat} (hij : i < j) (hj : j ≤ d) :
    GI rs vin rc0 d (gStep true d s (i, j)) (J ^^^ ((atW vin i &&& atW vin (d + 1 + j)) ^^^ (atW vin j &&& atW vin (d + 1 + i)))) := by
  have hlen := h.len
  have hL2 : vin.length = 2 * d + 2 := by
    have : gIn true d = 2 * (d : Int) + 2 := rfl
    omega
  have hVl := runE_len rs (s.ops.map toOp) (vin, rc0)
  obtain ⟨t, -, ht⟩ := runE_add rs (s.ops.map toOp) (vin, rc0)
  have hsum := h.sum
  have hrng := h.rng
  have e : gStep true d s (i, j) = ⟨s.ops ++ [[0, 0, 0, 0], [1, (i : Int), (d : Int) + 1 + j, 0], [2, gIn true d + s.ops.length, gIn true d + s.ops.length + 1, 0], [1, (j : Int), (d : Int) + 1 + i, 0], [2, gIn true d + s.ops.length + 2, gIn true d + s.ops.length + 3, 0], [2, s.outs.getD i 0, gIn true d + s.ops.length, 0], [2, s.outs.getD j 0, gIn true d + s.ops.length + 4, 0]], (s.outs.set i (gIn true d + s.ops.length + 5)).set j (gIn true d + s.ops.length + 6)⟩ := rfl
  rw [e]
  have ri := getD_rng hrng (i := i) (by omega)
  have rj := getD_rng hrng (i := j) (by omega)
  rw [List.length_map] at hVl
  generalize hE : runE rs (s.ops.map toOp) (vin, rc0) = E at *
  obtain ⟨V, rc⟩ := E
  simp only at hVl hsum ht
  have old : ∀ k : Nat, k < 2 * d + 2 → atW V k = atW vin k := fun k hk => by rw [ht]; exact atW_app (by omega)
  have hrun := and_words (rs := rs) (V := V) (rc := rc) (n := gIn true d + s.ops.length) (oi := s.outs.getD i 0) (oj := s.outs.getD j 0) (ai := i) (bj := (d : Int) + 1 + j) (aj := j) (bi := (d : Int) + 1 + i) (by omega) (by omega) (by omega) (by omega) (by omega) (by omega) (by omega)
  have n1 : ((i : Nat) : Int).toNat = i := by omega
  have n2 : ((j : Nat) : Int).toNat = j := by omega
  have n3 : ((d : Int) + 1 + (j : Int)).toNat = d + 1 + j := by omega
  have n4 : ((d : Int) + 1 + (i : Int)).toNat = d + 1 + i := by omega
  rw [n1, n2, n3, n4, old i (by omega), old j (by omega), old _ (by omega : d + 1 + j < 2 * d + 2), old _ (by omega : d + 1 + i < 2 * d + 2)] at hrun
  generalize hx1 : atW vin i &&& atW vin (d + 1 + j) = x1 at *
  generalize hx2 : atW vin j &&& atW vin (d + 1 + i) = x2 at *
  refine ⟨by simp only [List.length_set]; exact hlen, fun x hx => ?_, ?_⟩
  · simp only [List.length_append, List.length_cons, List.length_nil]
    rcases List.mem_or_eq_of_mem_set hx with hx | rfl
    · rcases List.mem_or_eq_of_mem_set hx with hx | rfl
      · have := hrng x hx; omega
      · omega
    · omega
  · simp only [List.map_append, runE_app, hE]
    rw [hrun]
    have := sum_two (V := V) (V' := (V ++ [atW rs rc, x1, atW rs rc ^^^ x1, x2, (atW rs rc ^^^ x1) ^^^ x2, atW V (s.outs.getD i 0).toNat ^^^ atW rs rc, atW V (s.outs.getD j 0).toNat ^^^ ((atW rs rc ^^^ x1) ^^^ x2)])) (outs := s.outs) (i := i) (j := j) (p := gIn true d + s.ops.length + 5) (q := gIn true d + s.ops.length + 6) (by omega) (by omega) (by omega) (fun x hx => atW_app (by have := hrng x hx; omega)) (y := x1 ^^^ x2)
      ⟨atW rs rc, by rw [atW_newI (k := 5) (by omega)]; rfl, by rw [atW_newI (k := 6) (by omega), ← BitVec.xor_assoc (atW rs rc)]; rfl⟩
    rw [this, hsum]
end Go.Ab.Ex
end
section
namespace Go.Ab.Ex
open Go.Proofs
set_option maxRecDepth 10000
set_option maxHeartbeats 1000000

theorem mem_pairs {d : Nat} {p : Nat × Nat} (h : p ∈ gPairs d) : p.1 < p.2 ∧ p.2 ≤ d := by
  unfold gPairs at h
  simp only [List.mem_flatMap, List.mem_map, List.mem_filter, List.mem_range, decide_eq_true_eq] at h
  obtain ⟨i, -, j, ⟨hj, hij⟩, rfl⟩ := h
  exact ⟨hij, by omega⟩

theorem fold_ref {rs vin : List Wd} {rc0 d : Nat} {J : Wd} (hL : (vin.length : Int) = gIn false d) : ∀ (ps : List (Nat × Nat)) (s : Gad), (∀ p ∈ ps, p.1 < p.2 ∧ p.2 ≤ d) → GI rs vin rc0 d s J → GI rs vin rc0 d (ps.foldl (gStep false d) s) J
  | [], s, _, h => h
  | p :: ps, s, hp, h => by
    rw [List.foldl_cons]
    have := hp p (by simp)
    exact fold_ref hL ps _ (fun q hq => hp q (by simp [hq])) (GI_ref h hL this.1 this.2)

def crossW (vin : List Wd) (d : Nat) (p : Nat × Nat) : Wd := (atW vin p.1 &&& atW vin (d + 1 + p.2)) ^^^ (atW vin p.2 &&& atW vin (d + 1 + p.1))
theorem fold_and {rs vin : List Wd} {rc0 d : Nat} (hL : (vin.length : Int) = gIn true d) : ∀ (ps : List (Nat × Nat)) (s : Gad) (J : Wd), (∀ p ∈ ps, p.1 < p.2 ∧ p.2 ≤ d) → GI rs vin rc0 d s J → GI rs vin rc0 d (ps.foldl (gStep true d) s) (J ^^^ joinW (ps.map (crossW vin d)))
  | [], s, J, _, h => by
    show GI rs vin rc0 d s (J ^^^ 0)
    rw [xor_0]; exact h
  | p :: ps, s, J, hp, h => by
    rw [List.foldl_cons, List.map_cons, joinW_cons, ← BitVec.xor_assoc]
    have := hp p (by simp)
    exact fold_and hL ps _ _ (fun q hq => hp q (by simp [hq])) (GI_and h hL this.1 this.2)

theorem atW_all (l : List Wd) : (List.range l.length).map (atW l) = l := by
  apply List.ext_getElem?
  intro i
  rw [List.getElem?_map]
  by_cases hi : i < l.length
  · rw [List.getElem?_range hi, List.getElem?_eq_getElem hi]
    show some (atW l i) = _
    unfold atW
    rw [List.getD_eq_getElem?_getD, List.getElem?_eq_getElem hi]; rfl
  · rw [List.getElem?_eq_none (by simp; omega), List.getElem?_eq_none (by omega)]; rfl

theorem start_ref {rs vin : List Wd} {rc0 d : Nat} (hL : vin.length = d + 1) : GI rs vin rc0 d (gStart false d) (joinW vin) := by
  refine ⟨by simp [gStart], fun x hx => ?_, ?_⟩
  · simp only [gStart, Bool.false_eq_true, if_false, List.mem_map, List.mem_range] at hx
    obtain ⟨i, hi, rfl⟩ := hx
    simp only [gStart, Bool.false_eq_true, if_false, List.length_nil]
    omega
  · simp only [gStart, Bool.false_eq_true, if_false, List.map_nil, runE, List.foldl_nil, List.map_map]
    have e : (List.range (d + 1)).map ((fun x : Int => atW vin x.toNat) ∘ fun i : Nat => (i : Int)) = vin := by
      rw [← hL]
      exact (List.map_congr_left fun i _ => rfl).trans (atW_all vin)
    rw [e]

theorem gad_ref {rs vin : List Wd} {rc0 d : Nat} (hL : vin.length = d + 1) : GI rs vin rc0 d (gad false d) (joinW vin) :=
  fold_ref (by rw [hL]; rfl) _ _ (fun _ h => mem_pairs h) (start_ref hL)
end Go.Ab.Ex
end
