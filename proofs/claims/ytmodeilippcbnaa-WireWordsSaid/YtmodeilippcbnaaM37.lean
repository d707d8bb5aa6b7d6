/- Parts of the proof, joined by program: Wire: words: one at a place, all together, lists that are the same; Wire: four lists of words among the arguments; Wire: the first words of a list; Wire: shares of a word, short lists; Wire: which words come in, by the program; Wire: which words come in, by the document; Wire: the outputs' words; Wire: the law WireWords. -/
import Derived.Test.YtmodeilippcbnaaM06
import Derived.Test.YtmodeilippcbnaaM35
import Derived.Test.YtmodeilippcbnaaM14
set_option linter.all false
section
namespace Go.Ab.Ex
open Go.Proofs
set_option maxRecDepth 10000
set_option maxHeartbeats 1000000

abbrev Wd := BitVec 32
theorem wrap_u32 (x : Wd) : IntKind.u32.wrap (x.toNat : Int) = x.toNat := by
  have := x.isLt
  simp only [IntKind.wrap, IntKind.bits, IntKind.signed]
  simp
  omega
theorem i_xorw (a b : Wd) : intOp .xor .u32 (a.toNat : Int) .u32 (b.toNat : Int) = some (.int .u32 ((a ^^^ b).toNat : Int)) := by
  rw [i_xor]
  have e : ∀ x : Wd, BitVec.ofInt 32 (x.toNat : Int) = x := fun x => by
    apply BitVec.eq_of_toNat_eq
    simp
  show some (Value.int .u32 (IntKind.u32.wrap (((BitVec.ofInt 32 (a.toNat : Int)) ^^^ (BitVec.ofInt 32 (b.toNat : Int))).toNat : Nat))) = _
  rw [e, e, wrap_u32]
def joinW (l : List Wd) : Wd := l.foldl (fun a b => a ^^^ b) 0
theorem joinW_next {l : List Wd} {i : Nat} {x : Wd} (h : l[i]? = some x) : joinW (l.take (i + 1)) = joinW (l.take i) ^^^ x := by
  unfold joinW
  rw [take_next h, List.foldl_append]; rfl
def atW (l : List Wd) (i : Nat) : Wd := l.getD i 0

theorem f36_c {H : Heap} {v : Value} {l : List Wd} {F : Fr} (hv : Sl F H 1 v l.length (l.flatMap wordC)) {i : Nat} {Q : Ret → Heap → Prop} (hQ : Q (.ret (.int .u32 ((atW l i).toNat : Int))) H) : C 36 #[v, .int .i64 (i : Nat)] H Q := by
  obtain ⟨a, cap, rfl, -, -, ha⟩ := hv.noF.ex
  refine SemC_fn TT.ok fn36 rfl rfl ?_
  by_cases hlt : i < l.length
  · have ea : l[i]? = some l[i] := by simp [hlt]
    have e : atW l i = l[i] := by unfold atW; rw [List.getD_eq_getElem?_getD, ea]; rfl
    obtain ⟨k, o, own, Ca, rfl, hk, hc, -⟩ := ha.at wordC_len ea
    have hc := hc 0 (by omega)
    simp only [wordC, Nat.add_zero, List.getElem?_cons_zero] at hc
    rw [e] at hQ
    have h1 : ((i : Nat) : Int) < (l.length : Nat) := by omega
    simp only [Try.f36, start, KC_normal, go_sem, Nat.reduceEqDiff, Nat.reduceAdd, reduceIte, reduceCtorEq, Nat.reduceLeDiff, Nat.reduceShiftRight, Nat.reduceAnd, Nat.reduceOr, Nat.reducePow, Nat.reduceBNe, Nat.reduceBEq, h1, ia_in _ _ _ _ _ hlt, hk.get, hc]
    exact hQ
  · have e : atW l i = 0 := by unfold atW; rw [List.getD_eq_getElem?_getD, List.getElem?_eq_none (by omega)]; rfl
    rw [e] at hQ
    have h1 : ¬ ((i : Nat) : Int) < (l.length : Nat) := by omega
    simp only [Try.f36, start, KC_normal, go_sem, Nat.reduceEqDiff, Nat.reduceAdd, reduceIte, reduceCtorEq, Nat.reduceLeDiff, Nat.reduceShiftRight, Nat.reduceAnd, Nat.reduceOr, Nat.reducePow, Nat.reduceBNe, Nat.reduceBEq, h1]
    exact hQ

theorem f37_c {H : Heap} {v : Value} {l : List Wd} {F : Fr} (hv : Sl F H 1 v l.length (l.flatMap wordC)) (hlen : l.length < 1000000) {Q : Ret → Heap → Prop} (hQ : Q (.ret (.int .u32 ((joinW l).toNat : Int))) H) : C 37 #[v] H Q := by
  obtain ⟨a, cap, rfl, -, -, ha⟩ := hv.noF.ex
  refine SemC_fn TT.ok fn37 rfl rfl ?_
  simp only [Try.f37, start, KC_normal, go_sem, Nat.reduceEqDiff, Nat.reduceAdd, reduceIte, reduceCtorEq, Nat.reduceLeDiff, Nat.reduceShiftRight, Nat.reduceAnd, Nat.reduceOr, Nat.reducePow, Nat.reduceBNe, Nat.reduceBEq]
  refine wp_loop TT.ok rfl rfl (fun j s => ∃ tm i, s = ⟨tm, 18, [], false, H⟩ ∧ j = l.length - i ∧ i ≤ l.length ∧
    tm.get 0 = some (.slice a l.length cap) ∧ tm.get 3 = some (.int .u32 ((joinW (l.take i)).toNat : Int)) ∧ tm.get 4 = some (.int .i64 (i : Nat))) l.length ?_ ?_
  · refine ⟨_, 0, rfl, rfl, Nat.zero_le _, ?_, ?_, ?_⟩ <;> simp only [start, KC_normal, go_sem, Nat.reduceEqDiff, Nat.reduceAdd, reduceIte, reduceCtorEq, Nat.reduceLeDiff, Nat.reduceShiftRight, Nat.reduceAnd, Nat.reduceOr, Nat.reducePow, Nat.reduceBNe, Nat.reduceBEq] <;> rfl
  · rintro j s - ⟨tm, i, rfl, hj, hi, h0, h3, h4⟩
    simp only [start, KC_normal, go_sem, Nat.reduceEqDiff, Nat.reduceAdd, reduceIte, reduceCtorEq, Nat.reduceLeDiff, Nat.reduceShiftRight, Nat.reduceAnd, Nat.reduceOr, Nat.reducePow, Nat.reduceBNe, Nat.reduceBEq, h0, h4]
    refine CN_split (fun hlt => ?_) (fun hge => ?_)
    · have hlt' : i < l.length := by omega
      have ea : l[i]? = some l[i] := by simp [hlt']
      obtain ⟨k, o, own, Ca, rfl, hk, hc, -⟩ := ha.at wordC_len ea
      have hc := hc 0 (by omega)
      simp only [wordC, Nat.add_zero, List.getElem?_cons_zero] at hc
      simp only [start, KC_normal, go_sem, Nat.reduceEqDiff, Nat.reduceAdd, reduceIte, reduceCtorEq, Nat.reduceLeDiff, Nat.reduceShiftRight, Nat.reduceAnd, Nat.reduceOr, Nat.reducePow, Nat.reduceBNe, Nat.reduceBEq, h0, h3, h4, ia_in _ _ _ _ _ hlt', hk.get, hc, i_xorw]
      refine ⟨l.length - (i + 1), by omega, _, i + 1, rfl, rfl, by omega, ?_, ?_, ?_⟩
      all_goals simp only [start, KC_normal, go_sem, Nat.reduceEqDiff, Nat.reduceAdd, reduceIte, reduceCtorEq, Nat.reduceLeDiff, Nat.reduceShiftRight, Nat.reduceAnd, Nat.reduceOr, Nat.reducePow, Nat.reduceBNe, Nat.reduceBEq, h0, h3, h4]
      · rw [joinW_next ea]
      · rw [wrap_i64 _ (by omega) (by omega)]; simp
    · have hi' : i = l.length := by omega
      subst hi'
      simp only [start, KC_normal, go_sem, Nat.reduceEqDiff, Nat.reduceAdd, reduceIte, reduceCtorEq, Nat.reduceLeDiff, Nat.reduceShiftRight, Nat.reduceAnd, Nat.reduceOr, Nat.reducePow, Nat.reduceBNe, Nat.reduceBEq, h3]
      rw [List.take_length]
      exact hQ

theorem f54_c {H : Heap} {v : Value} {l : List Wd} {F : Fr} (hv : Sl F H 1 v l.length (l.flatMap wordC)) (hlen : l.length < 1000000) {Q : Ret → Heap → Prop} (hQ : Q (.ret (.int .u32 ((joinW l).toNat : Int))) H) : C 54 #[v] H Q := by
  obtain ⟨a, cap, rfl, -, -, ha⟩ := hv.noF.ex
  refine SemC_fn TT.ok fn54 rfl rfl ?_
  simp only [Try.f54, start, KC_normal, go_sem, Nat.reduceEqDiff, Nat.reduceAdd, reduceIte, reduceCtorEq, Nat.reduceLeDiff, Nat.reduceShiftRight, Nat.reduceAnd, Nat.reduceOr, Nat.reducePow, Nat.reduceBNe, Nat.reduceBEq]
  refine wp_loop TT.ok rfl rfl (fun j s => ∃ tm i, s = ⟨tm, 17, [], false, H⟩ ∧ j = l.length - i ∧ i ≤ l.length ∧
    tm.get 6 = some (.slice a l.length cap) ∧ tm.get 7 = some (.int .i64 (l.length : Nat)) ∧ tm.get 3 = some (.int .u32 ((joinW (l.take i)).toNat : Int)) ∧ tm.get 8 = some (.int .i64 (i : Nat))) l.length ?_ ?_
  · refine ⟨_, 0, rfl, rfl, Nat.zero_le _, ?_, ?_, ?_, ?_⟩ <;> simp only [start, KC_normal, go_sem, Nat.reduceEqDiff, Nat.reduceAdd, reduceIte, reduceCtorEq, Nat.reduceLeDiff, Nat.reduceShiftRight, Nat.reduceAnd, Nat.reduceOr, Nat.reducePow, Nat.reduceBNe, Nat.reduceBEq] <;> rfl
  · rintro j s - ⟨tm, i, rfl, hj, hi, h6, h7, h3, h8⟩
    simp only [start, KC_normal, go_sem, Nat.reduceEqDiff, Nat.reduceAdd, reduceIte, reduceCtorEq, Nat.reduceLeDiff, Nat.reduceShiftRight, Nat.reduceAnd, Nat.reduceOr, Nat.reducePow, Nat.reduceBNe, Nat.reduceBEq, h7, h8]
    refine CN_split (fun hlt => ?_) (fun hge => ?_)
    · have hlt' : i < l.length := by omega
      have ea : l[i]? = some l[i] := by simp [hlt']
      obtain ⟨k, o, own, Ca, rfl, hk, hc, -⟩ := ha.at wordC_len ea
      have hc := hc 0 (by omega)
      simp only [wordC, Nat.add_zero, List.getElem?_cons_zero] at hc
      simp only [start, KC_normal, go_sem, Nat.reduceEqDiff, Nat.reduceAdd, reduceIte, reduceCtorEq, Nat.reduceLeDiff, Nat.reduceShiftRight, Nat.reduceAnd, Nat.reduceOr, Nat.reducePow, Nat.reduceBNe, Nat.reduceBEq, h6, h3, h8, ia_in _ _ _ _ _ hlt', hk.get, hc, i_xorw]
      refine ⟨l.length - (i + 1), by omega, _, i + 1, rfl, rfl, by omega, ?_, ?_, ?_, ?_⟩
      all_goals simp only [start, KC_normal, go_sem, Nat.reduceEqDiff, Nat.reduceAdd, reduceIte, reduceCtorEq, Nat.reduceLeDiff, Nat.reduceShiftRight, Nat.reduceAnd, Nat.reduceOr, Nat.reducePow, Nat.reduceBNe, Nat.reduceBEq, h6, h7, h3, h8]
      · rw [joinW_next ea]
      · rw [wrap_i64 _ (by omega) (by omega)]; simp
    · have hi' : i = l.length := by omega
      subst hi'
      simp only [start, KC_normal, go_sem, Nat.reduceEqDiff, Nat.reduceAdd, reduceIte, reduceCtorEq, Nat.reduceLeDiff, Nat.reduceShiftRight, Nat.reduceAnd, Nat.reduceOr, Nat.reducePow, Nat.reduceBNe, Nat.reduceBEq, h3]
      rw [List.take_length]
      exact hQ

theorem f38_c {H : Heap} {v : Value} {l : List Wd} {F : Fr} (hv : Sl F H 1 v l.length (l.flatMap wordC)) (hlen : l.length < 1000000) {Q : Ret → Heap → Prop} (hQ : Q (.ret (.int .u32 ((joinW l).toNat : Int))) H) : C 38 #[v] H Q := by
  refine SemC_fn TT.ok fn38 rfl rfl ?_
  simp only [Try.f38, start, KC_normal, go_sem, Nat.reduceEqDiff, Nat.reduceAdd, reduceIte, reduceCtorEq, Nat.reduceLeDiff, Nat.reduceShiftRight, Nat.reduceAnd, Nat.reduceOr, Nat.reducePow, Nat.reduceBNe, Nat.reduceBEq]
  refine f54_c hv hlen ?_
  simp only [start, KC_normal, go_sem, Nat.reduceEqDiff, Nat.reduceAdd, reduceIte, reduceCtorEq, Nat.reduceLeDiff, Nat.reduceShiftRight, Nat.reduceAnd, Nat.reduceOr, Nat.reducePow, Nat.reduceBNe, Nat.reduceBEq]
  exact hQ

/-- lists of words that are the same -/
theorem f18_c {H : Heap} {va vb : Value} {la lb : List Wd} {F : Fr} (ha : Sl F H 1 va la.length (la.flatMap wordC)) (hb : Sl F H 1 vb lb.length (lb.flatMap wordC)) (hlen : la.length < 1000000) {Q : Ret → Heap → Prop} (hQ : ∀ r H', Ext H H' → (r = true ↔ la = lb) → Q (.ret (.bool r)) H') : C 18 #[va, vb] H Q := by
  obtain ⟨a, cap, rfl, -, -, ha⟩ := ha.noF.ex
  obtain ⟨b, cap', rfl, -, -, hb⟩ := hb.noF.ex
  refine SemC_fn TT.ok fn18 rfl rfl ?_
  simp only [Try.f18, start, KC_normal, go_sem, Nat.reduceEqDiff, Nat.reduceAdd, reduceIte, reduceCtorEq, Nat.reduceLeDiff, Nat.reduceShiftRight, Nat.reduceAnd, Nat.reduceOr, Nat.reducePow, Nat.reduceBNe, Nat.reduceBEq]
  repeat' (first | (refine CN_b (fun h => ?_) (fun h => ?_) <;> simp only [h, start, KC_normal, go_sem, Nat.reduceEqDiff, Nat.reduceAdd, reduceIte, reduceCtorEq, Nat.reduceLeDiff, Nat.reduceShiftRight, Nat.reduceAnd, Nat.reduceOr, Nat.reducePow, Nat.reduceBNe, Nat.reduceBEq]) | (refine RWn_b (fun h => ?_) (fun h => ?_) <;> simp only [h, start, KC_normal, go_sem, Nat.reduceEqDiff, Nat.reduceAdd, reduceIte, reduceCtorEq, Nat.reduceLeDiff, Nat.reduceShiftRight, Nat.reduceAnd, Nat.reduceOr, Nat.reducePow, Nat.reduceBNe, Nat.reduceBEq]) | (refine RW_b (fun h => ?_) (fun h => ?_) <;> simp only [h, start, KC_normal, go_sem, Nat.reduceEqDiff, Nat.reduceAdd, reduceIte, reduceCtorEq, Nat.reduceLeDiff, Nat.reduceShiftRight, Nat.reduceAnd, Nat.reduceOr, Nat.reducePow, Nat.reduceBNe, Nat.reduceBEq]))
  · refine hQ _ _ (Ext.refl H) ?_
    simp only [decide_eq_true_eq, Bool.false_eq_true, false_iff] at *
    intro e; rw [e] at h; exact h rfl
  · have hll : la.length = lb.length := by simp only [decide_eq_false_iff_not, Classical.not_not] at h; omega
    refine wp_loop TT.ok rfl rfl (fun j s => ∃ tm H' i, s = ⟨tm, 26, [], false, H'⟩ ∧ j = la.length - i ∧ i ≤ la.length ∧ Ext H H' ∧ la.take i = lb.take i ∧
      tm.get 0 = some (.slice a la.length cap) ∧ tm.get 1 = some (.slice b lb.length cap') ∧ tm.get 5 = some (.int .i64 (i : Nat))) la.length ?_ ?_
    · refine ⟨_, _, 0, rfl, rfl, Nat.zero_le _, Ext.refl H, rfl, ?_, ?_, ?_⟩ <;> simp only [start, KC_normal, go_sem, Nat.reduceEqDiff, Nat.reduceAdd, reduceIte, reduceCtorEq, Nat.reduceLeDiff, Nat.reduceShiftRight, Nat.reduceAnd, Nat.reduceOr, Nat.reducePow, Nat.reduceBNe, Nat.reduceBEq] <;> rfl
    · rintro j s - ⟨tm, H', i, rfl, hj, hi, hE, hsame, h0, h1, h5⟩
      simp only [start, KC_normal, go_sem, Nat.reduceEqDiff, Nat.reduceAdd, reduceIte, reduceCtorEq, Nat.reduceLeDiff, Nat.reduceShiftRight, Nat.reduceAnd, Nat.reduceOr, Nat.reducePow, Nat.reduceBNe, Nat.reduceBEq, h0, h1, h5]
      refine CN_split (fun hlt => ?_) (fun hge => ?_)
      · have hlt' : i < la.length := by omega
        have hlt2 : i < lb.length := by omega
        have ea : la[i]? = some la[i] := by simp [hlt']
        have eb : lb[i]? = some lb[i] := by simp [hlt2]
        obtain ⟨ka, ofa, oa, Ca, rfl, hka, hca, -⟩ := ha.at wordC_len ea
        obtain ⟨kb, ofb, ob, Cb, rfl, hkb, hcb, -⟩ := hb.at wordC_len eb
        have hca := hca 0 (by omega)
        have hcb := hcb 0 (by omega)
        simp only [wordC, Nat.add_zero, List.getElem?_cons_zero] at hca hcb
        simp only [start, KC_normal, go_sem, Nat.reduceEqDiff, Nat.reduceAdd, reduceIte, reduceCtorEq, Nat.reduceLeDiff, Nat.reduceShiftRight, Nat.reduceAnd, Nat.reduceOr, Nat.reducePow, Nat.reduceBNe, Nat.reduceBEq, h0, h1, h5]
        refine DRg_x TT.ok [0, 0, 3, 7, 0, 0, 48, 112, 255] 9 511 26 rfl (by decide +kernel) ?_
        simp only [start, KC_normal, go_sem, Nat.reduceEqDiff, Nat.reduceAdd, reduceIte, reduceCtorEq, Nat.reduceLeDiff, Nat.reduceShiftRight, Nat.reduceAnd, Nat.reduceOr, Nat.reducePow, Nat.reduceBNe, Nat.reduceBEq, h0, h1, h5, ia_in _ _ _ _ _ hlt', ia_in _ _ _ _ _ hlt2, (hka.step hE.step).get, (hkb.step hE.step).get, hca, hcb]
        refine CN_split (fun hne => ?_) (fun heq => ?_)
        · simp only [start, KC_normal, go_sem, Nat.reduceEqDiff, Nat.reduceAdd, reduceIte, reduceCtorEq, Nat.reduceLeDiff, Nat.reduceShiftRight, Nat.reduceAnd, Nat.reduceOr, Nat.reducePow, Nat.reduceBNe, Nat.reduceBEq]
          refine hQ _ _ (hE.skip _) ?_
          simp only [Bool.false_eq_true, false_iff]
          rintro rfl
          exact hne rfl
        · simp only [start, KC_normal, go_sem, Nat.reduceEqDiff, Nat.reduceAdd, reduceIte, reduceCtorEq, Nat.reduceLeDiff, Nat.reduceShiftRight, Nat.reduceAnd, Nat.reduceOr, Nat.reducePow, Nat.reduceBNe, Nat.reduceBEq, h0, h1, h5]
          refine ⟨la.length - (i + 1), by omega, _, _, i + 1, rfl, rfl, by omega, hE.skip _, ?_, ?_, ?_, ?_⟩
          · have e : la[i] = lb[i] := BitVec.eq_of_toNat_eq (by have := Classical.not_not.1 heq; omega)
            rw [take_next ea, take_next eb, hsame, e]
          all_goals simp only [start, KC_normal, go_sem, Nat.reduceEqDiff, Nat.reduceAdd, reduceIte, reduceCtorEq, Nat.reduceLeDiff, Nat.reduceShiftRight, Nat.reduceAnd, Nat.reduceOr, Nat.reducePow, Nat.reduceBNe, Nat.reduceBEq, h0, h1, h5]
          rw [wrap_i64 _ (by omega) (by omega)]; simp
      · have hi' : i = la.length := by omega
        simp only [start, KC_normal, go_sem, Nat.reduceEqDiff, Nat.reduceAdd, reduceIte, reduceCtorEq, Nat.reduceLeDiff, Nat.reduceShiftRight, Nat.reduceAnd, Nat.reduceOr, Nat.reducePow, Nat.reduceBNe, Nat.reduceBEq]
        refine hQ _ _ hE ?_
        rw [hi', List.take_length, hll, List.take_length] at hsame
        simp only [true_iff]; exact hsame
end Go.Ab.Ex
end
section
namespace Go.Ab.Gl
open Go.Ab Go.Ab.Ex
open Go.Proofs
open Go.ChangeShapes Go.WideShapes Go.RowKit
open Go.Proofs.Ytmodeilippcbnaa
set_option maxRecDepth 100000

section
variable {H : Type} {enc : TypeId × Value → H} {W : World}

theorem okWide_array {n : Nat} {t e : TypeId} {r : Reach} {base : Nat} {v : Value} (ht : Try.prog.underlying t = some (.array n e)) (h : Value.okWide Try.prog W r base t v) : ∃ cs, v = .agg cs ∧ cs.size = Try.prog.cellsOf t := by
  simp only [Value.okWide, ht] at h
  obtain ⟨cs, h1, h2, _⟩ := h
  exact ⟨cs, h1, h2⟩

theorem elem_in {n : Nat} {t e : TypeId} (ht : Try.prog.underlying t = some (.array n e)) (he : Try.prog.cellsOf e = 1) {fuel : Nat} {cs : List Value} {x : DataW H × List MemPlace} (h : DataW.trod enc Try.prog W 0 (fun _ => true) true fuel t cs = some x) {i : Nat} (hi : i < n) {c : Value} (hc : cs[i]? = some c) :
    ∃ m y, DataW.trod enc Try.prog W 0 (fun _ => true) true m e [c] = some y := by
  obtain ⟨xs, m, -, -, -, hlen, hf⟩ := DataW.trod_array ht h
  have e1 := hf i hi
  rw [he, Nat.mul_one, List.getElem?_eq_getElem (by omega)] at e1
  have e2 : (cs.drop i).take 1 = [c] := by
    obtain ⟨h1, h2⟩ := List.getElem?_eq_some_iff.1 hc
    rw [List.drop_eq_getElem_cons h1, h2]; simp
  rw [e2] at e1
  exact ⟨m, _, e1⟩

theorem words_in {r : Reach} {base : Nat} {v' : Value} {d : DataW H} {p : List MemPlace} (hv : Value.okWide Try.prog W r base 44 v') (h : DataW.Trod enc Try.prog W 0 (fun _ => true) true 44 v' d p) :
    ∃ (l0 l1 l2 l3 : List Wd) (p0 p1 p2 p3 : AObj × Tgt), InOk W p0 ∧ InOk W p1 ∧ InOk W p2 ∧ InOk W p3 ∧ ∀ b0 b1 b2 b3, ∃ v0 v1 v2 v3, (∀ μ, μ b0 = some p0.2 → μ b1 = some p1.2 → μ b2 = some p2.2 → μ b3 = some p3.2 → VRel μ (.agg #[v0, v1, v2, v3]) v') ∧
      (∀ (F : Fr) (H : Heap), b0 < H.next → ¬ F b0 → H.get b0 = p0.1 → Sl F H 1 v0 l0.length (l0.flatMap wordC)) ∧ (∀ (F : Fr) (H : Heap), b1 < H.next → ¬ F b1 → H.get b1 = p1.1 → Sl F H 1 v1 l1.length (l1.flatMap wordC)) ∧
      (∀ (F : Fr) (H : Heap), b2 < H.next → ¬ F b2 → H.get b2 = p2.1 → Sl F H 1 v2 l2.length (l2.flatMap wordC)) ∧ (∀ (F : Fr) (H : Heap), b3 < H.next → ¬ F b3 → H.get b3 = p3.1 → Sl F H 1 v3 l3.length (l3.flatMap wordC)) := by
  obtain ⟨cs, rfl, hsz⟩ := okWide_array und44 hv
  obtain ⟨fuel, hf⟩ := h
  obtain ⟨cs⟩ := cs
  obtain ⟨a, b, c, e, rfl⟩ := list4 (hsz.trans co44)
  have hf' : DataW.trod enc Try.prog W 0 (fun _ => true) true fuel 44 [a, b, c, e] = some (d, p) := hf
  obtain ⟨_, _, h0⟩ := elem_in und44 co43 hf' (i := 0) (by omega) rfl
  obtain ⟨_, _, h1⟩ := elem_in und44 co43 hf' (i := 1) (by omega) rfl
  obtain ⟨_, _, h2⟩ := elem_in und44 co43 hf' (i := 2) (by omega) rfl
  obtain ⟨_, _, h3⟩ := elem_in und44 co43 hf' (i := 3) (by omega) rfl
  obtain ⟨l0, p0, i0, k0⟩ := slice_in (α := Wd) wordC_len (fun x => rfl) (by omega) und43 co54 word_in h0
  obtain ⟨l1, p1, i1, k1⟩ := slice_in (α := Wd) wordC_len (fun x => rfl) (by omega) und43 co54 word_in h1
  obtain ⟨l2, p2, i2, k2⟩ := slice_in (α := Wd) wordC_len (fun x => rfl) (by omega) und43 co54 word_in h2
  obtain ⟨l3, p3, i3, k3⟩ := slice_in (α := Wd) wordC_len (fun x => rfl) (by omega) und43 co54 word_in h3
  refine ⟨l0, l1, l2, l3, p0, p1, p2, p3, i0, i1, i2, i3, fun b0 b1 b2 b3 => ?_⟩
  obtain ⟨v0, r0, s0⟩ := k0 b0
  obtain ⟨v1, r1, s1⟩ := k1 b1
  obtain ⟨v2, r2, s2⟩ := k2 b2
  obtain ⟨v3, r3, s3⟩ := k3 b3
  exact ⟨v0, v1, v2, v3, fun μ m0 m1 m2 m3 => .agg _ _ (.cons _ _ _ _ (r0 μ m0) (.cons _ _ _ _ (r1 μ m1) (.cons _ _ _ _ (r2 μ m2) (.cons _ _ _ _ (r3 μ m3) .nil)))), s0, s1, s2, s3⟩

/-- A law of a circuit, a number and four lists of words. -/
theorem circ_law3 {f : FuncId} {fn : Func} {s : ChangeSpec} {fresh handsOn again : Bool} {base : Nat} {args : Array Value} {ds gs : List (DataW H)} {before : List MemPlace} {k : IntKind} {t : TypeId}
    (law : ∀ {F : Fr} {H : Heap} {v a0 a1 a2 a3 : Value} {g : CircM} {d : Int} {l0 l1 l2 l3 : List Wd}, CircR F H v g → (Lit.int k d).wf = true → Sl noF H 1 a0 l0.length (l0.flatMap wordC) → Sl noF H 1 a1 l1.length (l1.flatMap wordC) → Sl noF H 1 a2 l2.length (l2.flatMap wordC) → Sl noF H 1 a3 l3.length (l3.flatMap wordC) →
      ∀ {Q : Ret → Heap → Prop}, (∀ H', Ext H H' → Q (.ret (.bool true)) H') → C f #[v, .int k d, .agg #[a0, a1, a2, a3]] H Q)
    (ht : Try.prog.underlying t = some (.int k)) (hpar : fn.params = #[25, t, 44]) (hres : fn.resultTypes = #[4]) (hv : s.vars = []) (hs : ∀ x y z : DataW H, s.fn H [x, y, z] = { results := [.lit (.bool true)], args := [x, y, z] })
    (hpp : ∀ u ∈ fn.params.toList, Try.prog.readableRec u = true ∧ u < Try.prog.types.size)
    (hval : ∀ (j : Nat) t v, fn.params[j]? = some t → args[j]? = some v → Value.okWide Try.prog W .any base t v) (hW : DataW.Whole enc Try.prog fn.params.toList s.vars false W args.toList ds gs before) :
    Calls Try.prog f args W fun e W' => ∃ v, e = .returned v ∧ s.post enc Try.prog fn false fresh handsOn again W args v W' := by
  have hW0 := hW
  obtain ⟨p, q, hA, hV, rfl, -, -⟩ := hW
  rw [hv] at hV
  obtain ⟨rfl, rfl⟩ := trodVars_none hV
  rw [hpar] at hA hval
  obtain ⟨v0, v1, v2, d0, d1, d2, q0, q1, q2, rfl, rfl, rfl, h0, h1, h2⟩ := trodAll_three hA
  obtain ⟨g, p1, p2, i1, i2, k1⟩ := circ_in (hval 0 25 v0 rfl rfl) h0
  obtain ⟨n, rfl, -, -, hwf⟩ := open_int ht (hval 1 t v1 rfl rfl) h1
  obtain ⟨l0, l1, l2, l3, p3, p4, p5, p6, i3, i4, i5, i6, k2⟩ := words_in (hval 2 44 v2 rfl rfl) h2
  obtain ⟨v, hr, hc⟩ := k1 0 1
  obtain ⟨a0, a1, a2, a3, hr2, c0, c1, c2, c3⟩ := k2 2 3 4 5
  have hin : ∀ x ∈ [p1, p2, p3, p4, p5, p6], InOk W x := fun x hx => by
    simp only [List.mem_cons, List.not_mem_nil, or_false] at hx
    rcases hx with rfl | rfl | rfl | rfl | rfl | rfl <;> assumption
  have hn : (hp [p1, p2, p3, p4, p5, p6]).next = 6 := hp_next _
  have hcr : CircR noF (hp [p1, p2, p3, p4, p5, p6]) v g := hc _ _ (by rw [hn]; omega) (noF_not _) (hp_some rfl) (by rw [hn]; omega) (noF_not _) (hp_some rfl)
  have z0 := c0 noF (hp [p1, p2, p3, p4, p5, p6]) (by rw [hn]; omega) (noF_not _) (hp_some rfl)
  have z1 := c1 noF (hp [p1, p2, p3, p4, p5, p6]) (by rw [hn]; omega) (noF_not _) (hp_some rfl)
  have z2 := c2 noF (hp [p1, p2, p3, p4, p5, p6]) (by rw [hn]; omega) (noF_not _) (hp_some rfl)
  have z3 := c3 noF (hp [p1, p2, p3, p4, p5, p6]) (by rw [hn]; omega) (noF_not _) (hp_some rfl)
  refine (calls_law (args := #[v, .int k n, .agg #[a0, a1, a2, a3]]) (law hcr hwf z0 z1 z2 z3 fun _ _ => rfl) hin (.cons _ _ _ _ (hr _ rfl rfl) (.cons _ _ _ _ (.int _ _) (.cons _ _ _ _ (hr2 _ rfl rfl rfl rfl) .nil)))).mono fun e W' ⟨he, hB⟩ => ⟨_, he, ?_⟩
  exact post_law hv hres und4 laid_ hpp hW0 (by rw [List.append_nil, hs]) (by rw [List.append_nil, hs]) (by rw [List.append_nil, hs]) hB

theorem words_of (law : ∀ {F : Fr} {H : Heap} {v a0 a1 a2 a3 : Value} {g : CircM} {d : Int} {l0 l1 l2 l3 : List Wd}, CircR F H v g → Sl noF H 1 a0 l0.length (l0.flatMap wordC) → Sl noF H 1 a1 l1.length (l1.flatMap wordC) → Sl noF H 1 a2 l2.length (l2.flatMap wordC) → Sl noF H 1 a3 l3.length (l3.flatMap wordC) →
      ∀ {Q : Ret → Heap → Prop}, (∀ H', Ext H H' → Q (.ret (.bool true)) H') → C 5 #[v, .int .i64 d, .agg #[a0, a1, a2, a3]] H Q) : Rows.WireWordsSaid :=
  OpenClaim.holds_of_wide 5 Try.f5 rfl rfl rfl rfl rfl rfl rfl ⟨rfl, rfl, rfl, rfl, rfl⟩ rfl rfl rfl rfl rfl (by kernel_rfl) fn5 (by kernel_rfl)
    (of_decide_eq_true (by kernel_rfl)) (wrap_ Try.f5 (by decide +kernel))
    (fun os started H enc _ => returnsInHanded_of_change (C := Try.checked) (s := Rows.wireWordsSpec) (conds := []) (apart := false) own_ started (by kernel_rfl) fn5
      (ChangeSpec.witness6 (enc := enc) (C := Try.checked) false ⟨#[], #[.agg #[.slice none 0 0, .int .i64 0, .int .i64 0, .slice none 0 0], .int .i64 0, .agg #[.slice none 0 0, .slice none 0 0, .slice none 0 0, .slice none 0 0]], []⟩ 8 (by kernel_rfl) (by kernel_rfl) (by kernel_rfl) (by kernel_rfl))
      (fun _ _ _ _ _ _ hval hW _ _ => circ_law3 (fun hv _ h0 h1 h2 h3 _ hQ => law hv h0 h1 h2 h3 hQ) und3 rfl rfl rfl (fun _ _ _ => rfl) (by decide +kernel) hval hW))
end
end Go.Ab.Gl
end
section
namespace Go.Ab.Ex
open Go.Proofs
set_option maxRecDepth 10000
set_option maxHeartbeats 1000000

/-- a list of words that can be cut -/
inductive Tk (F : Fr) (H : Heap) : Value → List Wd → Prop
  | nil : Tk F H (.slice none 0 0) []
  | blk (b o cap : Nat) (own : Bool) (C : List Value) (l : List Wd) (hk : Kp F H b (.cells own 1 C)) (hs : seg C o (l.length * 1) = some (l.flatMap wordC)) (hc : l.length ≤ cap) : Tk F H (.slice (some ⟨b, o, none⟩) l.length cap) l
section
variable {F F' : Fr} {H H' : Heap} {v : Value} {l : List Wd}
theorem words_len (l : List Wd) : (l.flatMap wordC).length = l.length * 1 := fm_length wordC_len l
theorem Tk.sl (h : Tk F H v l) : Sl F H 1 v l.length (l.flatMap wordC) := by
  cases h with
  | nil => exact ⟨none, 0, rfl, Nat.le_refl _, rfl, .nil rfl rfl rfl⟩
  | blk b o cap own C l hk hs hc => exact ⟨_, cap, rfl, hc, words_len l, .blk b o own C hk hs⟩
theorem Tk.form (h : Tk F H v l) : ∃ a n c, v = .slice a n c := by
  cases h with
  | nil => exact ⟨_, _, _, rfl⟩
  | blk b o cap own C l hk hs hc => exact ⟨_, _, _, rfl⟩
theorem Tk.step (h : Tk F H v l) (s : Step F H F' H') : Tk F' H' v l := by
  cases h with
  | nil => exact .nil
  | blk b o cap own C l hk hs hc => exact .blk b o cap own C l (hk.step s) hs hc
theorem Tk.more (h : Tk F H v l) (hF : ∀ j, F' j → F j ∨ H.next ≤ j) : Tk F' H v l := by
  cases h with
  | nil => exact .nil
  | blk b o cap own C l hk hs hc => exact .blk b o cap own C l (hk.more hF) hs hc
theorem Own1.tk {b : Option Nat} (h : Own1 H 1 (l.flatMap wordC) v l.length b) (hF : ∀ j, b = some j → ¬ F j) : Tk F H v l := by
  generalize hn : l.length = n at h
  cases h with
  | nil h =>
    obtain rfl : l = [] := List.length_eq_zero_iff.1 hn
    exact .nil
  | blk k n h1 h2 h3 => subst hn; exact .blk k 0 _ true _ l ⟨h1, hF k rfl, h2⟩ (seg_all _ _ h3) (Nat.le_refl _)
end

/-! one block that is written -/
def one (b : Nat) : Fr := fun j => j = b
theorem Step.up {F : Fr} {H H' : Heap} {b : Nat} (h : Step (one b) H (one b) H') (hb : F b) : Step F H F H' :=
  ⟨h.le, fun j hj hf => h.get j hj fun e => hf (by rw [show j = b from e]; exact hb), fun j hj => .inl hj⟩

/-! so many noughts -/
def msO (T : Tab) (i : Option TInfo) (l c : Value) : Option (AObj × (Nat → Value)) := match i, l, c with
    | some ⟨.slice e, _, _, _, _, _⟩, .int _ l, .int _ c => match T.ty e with
      | some i => match i.zero with
        | some z => if 0 ≤ l ∧ l ≤ c ∧ c * i.bytes ≤ 140737488355328 ∧ c < 9223372036854775808 ∧ z.cells.toList.length = i.size ∧ z.cells.toList.all oneCell = true then
            some (.cells true i.size (rep z.cells.toList c.toNat), fun b => .slice (some ⟨b, 0, none⟩) l.toNat c.toNat) else none
        | none => none
      | none => none
    | _, _, _ => none
section
variable (T : Tab) (ρ : Operand → Value) (d : Option Tmp) (ty : TypeId) (ps : String) (af : Array Edge) (gd : Option (Nat × Bool))
theorem a_makeSlice (t : TypeId) (x y : Operand) : aalloc T ρ ⟨d, .makeSlice t x y, ty, ps, af, gd⟩ = msO T (T.ty t) (ρ x) (ρ y) := (rfl)
end
def zeros (n : Nat) : List Wd := List.replicate n 0
theorem rep_words : ∀ n : Nat, rep [Value.int .u32 0] n = (zeros n).flatMap wordC
  | 0 => rfl
  | n + 1 => by
    show [Value.int .u32 0] ++ rep [Value.int .u32 0] n = _
    rw [rep_words n]; rfl
theorem ms_words {n : Nat} (hn : n < 1000000) {s b : Nat} {z : Option Value} {a : Bool} {fl : List (Nat × Nat)} : msO TT (some ⟨.slice 54, s, b, z, a, fl⟩) (.int .i64 (n : Nat)) (.int .i64 (n : Nat)) = some (.cells true 1 ((zeros n).flatMap wordC), fun b => .slice (some ⟨b, 0, none⟩) n n) := by
  simp only [msO, ty54]
  rw [if_pos ⟨by omega, by omega, by omega, by omega, rfl, rfl⟩]
  simp only [Int.toNat_natCast]
  have e : rep (Value.int .u32 0).cells.toList n = (zeros n).flatMap wordC := rep_words n
  rw [e]

def takeW (l : List Wd) (n : Nat) : List Wd := l.take n ++ zeros (n - l.length)
theorem takeW_len (l : List Wd) (n : Nat) : (takeW l n).length = n := by
  simp only [takeW, zeros, List.length_append, List.length_take, List.length_replicate]; omega
theorem takeW_get {l : List Wd} {n i : Nat} (h : i < n) : (takeW l n)[i]? = some (atW l i) := by
  unfold takeW atW
  rw [List.getD_eq_getElem?_getD]
  by_cases hi : i < l.length
  · rw [List.getElem?_append_left (by rw [List.length_take]; omega), List.getElem?_take, if_pos h, List.getElem?_eq_getElem hi]; rfl
  · rw [List.getElem?_append_right (by rw [List.length_take]; omega), List.getElem?_eq_none (l := l) (by omega)]
    simp only [zeros, List.getElem?_replicate, List.length_take]
    rw [if_pos (by omega)]; rfl

theorem setSeg_0 {c vs : List Value} (h : vs.length ≤ c.length) : setSeg c 0 vs = vs ++ c.drop vs.length := by
  apply List.ext_getElem?
  intro i
  rw [get_setSeg vs c 0 i (by omega)]
  by_cases hi : i < vs.length
  · rw [if_pos ⟨Nat.zero_le _, by omega⟩, List.getElem?_append_left hi]; rfl
  · rw [if_neg (by omega), List.getElem?_append_right (by omega), List.getElem?_drop]
    congr 1
    omega
theorem wd_drop : ∀ (l : List Wd) (n : Nat), (l.flatMap wordC).drop n = (l.drop n).flatMap wordC
  | [], n => by simp
  | x :: l, 0 => rfl
  | x :: l, n + 1 => by rw [List.flatMap_cons, List.drop_succ_cons]; exact wd_drop l n
theorem wd_take : ∀ (l : List Wd) (n : Nat), (l.flatMap wordC).take n = (l.take n).flatMap wordC
  | [], n => by simp
  | x :: l, 0 => rfl
  | x :: l, n + 1 => by
    rw [List.flatMap_cons, List.take_succ_cons, List.flatMap_cons]
    show _ :: (l.flatMap wordC).take n = _ :: _
    rw [wd_take l n]
    rfl
theorem wd_append (l m : List Wd) : (l ++ m).flatMap wordC = l.flatMap wordC ++ m.flatMap wordC := by simp
theorem wd_one : ∀ l : List Wd, (l.flatMap wordC).all oneCell = true := one_all wordC_one
theorem seg_take {C c : List Value} {o n m : Nat} (h : seg C o n = some c) (hm : m ≤ n) : seg C o m = some (c.take m) := by
  obtain ⟨h1, rfl⟩ := seg_some h
  unfold seg
  rw [if_pos (by omega), List.take_take, Nat.min_eq_left hm]
theorem seg_drop {C c : List Value} {o n m : Nat} (h : seg C o n = some c) (hm : m ≤ n) : seg C (o + m) (n - m) = some (c.drop m) := by
  obtain ⟨h1, rfl⟩ := seg_some h
  unfold seg
  rw [if_pos (by omega), List.drop_take, List.drop_drop]

theorem copy_w {F : Fr} {H : Heap} {v : Value} {l : List Wd} {n nb : Nat} (ht : Tk F H v l) (hb : H.get nb = .cells true 1 ((zeros n).flatMap wordC)) :
    copyC TT H #[43, 43] (.slice (some ⟨nb, 0, none⟩) n n) v = some (.val (.int .i64 (min l.length n : Nat)) (H.put nb (.cells true 1 ((takeW l n).flatMap wordC)))) := by
  have key : ∀ m : Nat, m = min l.length n → setSeg ((zeros n).flatMap wordC) 0 ((l.take m).flatMap wordC) = (takeW l n).flatMap wordC := by
    rintro m rfl
    have hz : (zeros n).length = n := by simp [zeros]
    rw [setSeg_0 (by rw [words_len, words_len, hz, List.length_take]; omega), words_len, Nat.mul_one, wd_drop, ← wd_append]
    congr 1
    unfold takeW
    congr 1
    · rw [Nat.min_comm, ← List.take_take, List.take_length]
    · simp only [zeros, List.drop_replicate, List.length_take]
      congr 1
      omega
  cases ht with
  | nil =>
    have k := key 0 (by simp)
    simp only [copyC, List.getElem?_toArray, List.getElem?_cons_zero, ty43, ty54, List.length_nil]
    have e : Nat.min 0 n = 0 := Nat.zero_min n
    simp only [e, headCells, Nat.zero_mul]
    simp only [Nat.beq, cond_true, Option.map_some, hb, List.all_nil, List.length_nil, Nat.add_zero, Nat.zero_le, and_self, if_true]
    simp only [List.take_nil, List.flatMap_nil] at k
    rw [k]
  | blk b o cap own C l hk hs hc =>
    have k := key (min l.length n) rfl
    have hm : min l.length n ≤ l.length := Nat.min_le_left _ _
    have hh : headCells H (min l.length n * 1) (.slice (some ⟨b, o, none⟩) l.length cap) = some ((l.take (min l.length n)).flatMap wordC) := by
      have h1 := seg_take hs (m := min l.length n * 1) (by omega)
      rw [Nat.mul_one, wd_take] at h1
      rw [Nat.mul_one]
      simp only [headCells]
      rcases Nat.eq_zero_or_pos (min l.length n) with h0 | h0
      · rw [h0]; rfl
      · have e1 : Nat.beq (min l.length n) 0 = false := by cases hb0 : Nat.beq _ 0 with | false => rfl | true => have := Nat.eq_of_beq_eq_true hb0; omega
        have e2 : Nat.beq cap 0 = false := by cases hb0 : Nat.beq _ 0 with | false => rfl | true => have := Nat.eq_of_beq_eq_true hb0; omega
        rw [e1, e2, hk.get]
        exact h1
    simp only [copyC, List.getElem?_toArray, List.getElem?_cons_zero, ty43, ty54]
    have e : Nat.min l.length n = min l.length n := rfl
    simp only [e, hh, Option.map_some, hb]
    have hle : 0 + ((l.take (min l.length n)).flatMap wordC).length ≤ ((zeros n).flatMap wordC).length := by
      rw [words_len, words_len, List.length_take]
      simp [zeros]
      omega
    rw [if_pos ⟨wd_one _, hle⟩, k]

theorem cut_w {F : Fr} {H : Heap} {v : Value} {l : List Wd} {k : Nat} (ht : Tk F H v l) (hk : k ≤ l.length) : ∃ v', sliceC TT H 43 v (some (.int .i64 (k : Nat))) none none = some v' ∧ Tk F H v' (l.drop k) := by
  cases ht with
  | nil =>
    obtain rfl : k = 0 := by simpa using hk
    refine ⟨.slice none 0 0, ?_, .nil⟩
    simp only [sliceC, ty43, ty54]
    rfl
  | blk b o cap own C l hk' hs hc =>
    have e : bnds l.length cap (some ((k : Nat) : Int)) none none = some (k, l.length, cap) := by
      have h1 : ((k : Int) ≤ (l.length : Int)) := by omega
      have h2 : (0 : Int) ≤ (k : Int) := by omega
      simp [bnds, bMax, bHigh, bLow, h1, h2]
    refine ⟨.slice (some ⟨b, o + k, none⟩) (l.drop k).length (cap - k), ?_, .blk b (o + k) _ own C (l.drop k) hk' ?_ (by rw [List.length_drop]; omega)⟩
    · simp only [sliceC, lit?, ty43, ty54, hk'.get, e]
      simp
    · have := seg_drop hs (m := k) (by omega)
      rw [wd_drop] at this
      rw [List.length_drop, show (l.length - k) * 1 = l.length * 1 - k by omega]
      exact this

theorem f34_c {F : Fr} {H : Heap} {bx n : Nat} {v : Value} {l : List Wd} (hbx : H.get bx = .cells true 1 [v]) (hlt : bx < H.next) (ht : Tk F H v l) (hF : F bx) (hn : n < 1000000) {Q : Ret → Heap → Prop}
    (hQ : ∀ H' u b v', Step (one bx) H (one bx) H' → H'.get bx = .cells true 1 [v'] → Tk F H' v' (l.drop n) → Own1 H' 1 ((takeW l n).flatMap wordC) u (takeW l n).length (some b) → H.next ≤ b → Q (.ret u) H') :
    C 34 #[.pointer (some ⟨bx, 0, none⟩), .int .i64 (n : Nat)] H Q := by
  refine SemC_fn TT.ok fn34 rfl rfl ?_
  simp only [Try.f34, start, KC_normal, go_sem, Nat.reduceEqDiff, Nat.reduceAdd, reduceIte, reduceCtorEq, Nat.reduceLeDiff, Nat.reduceShiftRight, Nat.reduceAnd, Nat.reduceOr, Nat.reducePow, Nat.reduceBNe, Nat.reduceBEq, a_makeSlice, ms_words hn]
  generalize hX : H.push _ = H1
  obtain ⟨hE1, h7, hn1⟩ := new_push hX
  clear hX
  have hb1 := (hE1.get bx hlt).trans hbx
  have ht1 := ht.step hE1.step
  refine DRg_x TT.ok [0, 0, 2, 6, 0, 0, 32, 96, 240, 510, 1023, 2047] 12 4095 20 rfl (by decide +kernel) ?_
  simp only [start, KC_normal, go_sem, Nat.reduceEqDiff, Nat.reduceAdd, reduceIte, reduceCtorEq, Nat.reduceLeDiff, Nat.reduceShiftRight, Nat.reduceAnd, Nat.reduceOr, Nat.reducePow, Nat.reduceBNe, Nat.reduceBEq, hb1]
  have hz : ((zeros n).flatMap wordC).length = ((takeW l n).flatMap wordC).length := by rw [words_len, words_len, takeW_len]; simp [zeros]
  have hco := copy_w (H := H1.skip 12) (n := n) (nb := H.next) (ht1.step ((Ext.refl H1).skip 12).step) h7
  have hEs : Ext H (H1.skip 12) := hE1.skip 12
  generalize hY : (H1.skip 12).put H.next (.cells true 1 ((takeW l n).flatMap wordC)) = H2 at hco
  have hE2 : Ext H H2 := by subst hY; exact hEs.put (Nat.le_refl _) _
  have h72 : H2.get H.next = .cells true 1 ((takeW l n).flatMap wordC) := by subst hY; exact H_put_same _ _ _
  have hn2 : H2.next = H.next + 13 := by subst hY; simp only [Heap.next_put, Heap.next_skip]; omega
  have hb2 := (hE2.get bx hlt).trans hbx
  obtain ⟨v', hcut, ht'⟩ := cut_w (k := min l.length n) (ht.step hE2.step) (Nat.min_le_left _ _)
  obtain ⟨a', n', c', rfl⟩ := ht'.form
  simp only [hco, start, KC_normal, go_sem, Nat.reduceEqDiff, Nat.reduceAdd, reduceIte, reduceCtorEq, Nat.reduceLeDiff, Nat.reduceShiftRight, Nat.reduceAnd, Nat.reduceOr, Nat.reducePow, Nat.reduceBNe, Nat.reduceBEq, hb1, hb2, Option.map_none, hcut]
  have hS2 : Step (one bx) H2 (one bx) (H2.put bx (.cells true 1 [.slice a' n' c'])) := ⟨Nat.le_refl _, fun j hj hf => H_put_other _ _ _ _ hf, fun j hj => .inl hj⟩
  refine hQ _ _ H.next _ ((hE2.step (F := one bx)).trans hS2) (H_put_same _ _ _) ?_ ?_ (Nat.le_refl _)
  · have e : l.drop (min l.length n) = l.drop n := by
      rcases Nat.le_total n l.length with h | h
      · rw [Nat.min_eq_right h]
      · rw [Nat.min_eq_left h, List.drop_of_length_le h, List.drop_of_length_le (Nat.le_refl _)]
    rw [← e]
    exact ht'.step (Ex.Step.up hS2 hF)
  · have e := takeW_len l n
    have h73 : (H2.put bx (.cells true 1 [.slice a' n' c'])).get H.next = .cells true 1 ((takeW l n).flatMap wordC) := by rw [H_put_other _ _ _ _ (by omega)]; exact h72
    have := Own1.blk (H := H2.put bx (.cells true 1 [.slice a' n' c'])) (sz := 1) H.next n (by simp only [Heap.next_put]; omega) h73 (by rw [words_len, takeW_len])
    rw [e]
    exact this
end Go.Ab.Ex
end
section
namespace Go.Ab.Ex
open Go.Proofs
set_option maxRecDepth 10000
set_option maxHeartbeats 1000000

theorem appN_wd {F0 : Fr} {H : Heap} {v x : Value} {l m : List Wd} {b : Option Nat} (ho : Own1 H 1 (l.flatMap wordC) v l.length b) (hx : Sl F0 H 1 x m.length (m.flatMap wordC)) (hl : l.length + m.length < 1000000) :
    ∃ v' H' b', appendC TT H #[43, 43] v x = some (.val v' H') ∧ Own1 H' 1 ((l ++ m).flatMap wordC) v' (l ++ m).length b' ∧ (∀ F : Fr, Step (F.un b) H (F.un b') H') ∧ (∀ j, b' = some j → b = some j ∨ H.next ≤ j) :=
  appN ty43 ty54 rfl (by omega) wordC_one ho hx hl
theorem app1_wd {H : Heap} {v : Value} {l : List Wd} {b : Option Nat} (ho : Own1 H 1 (l.flatMap wordC) v l.length b) (hl : l.length < 1000000) (x : Wd) :
    ∃ v' H' b', appendC TT (H.push (.cells true 1 (wordC x))) #[43, 43] v (.slice (some ⟨H.next, 0, none⟩) 1 1) = some (.val v' H') ∧ Own1 H' 1 ((l ++ [x]).flatMap wordC) v' (l ++ [x]).length b' ∧ (∀ F : Fr, Step (F.un b) H (F.un b') H') ∧ (∀ j, b' = some j → H.next ≤ j) :=
  app1 ty43 ty54 rfl (by omega) wordC_len wordC_one ho hl x

theorem f35_c {F : Fr} {H : Heap} {w : Wd} {v : Value} {l : List Wd} (hs : Sl F H 1 v l.length (l.flatMap wordC)) (hl : l.length < 1000) {Q : Ret → Heap → Prop}
    (hQ : ∀ H' u b, Ext H H' → Own1 H' 1 (((w ^^^ joinW l) :: l).flatMap wordC) u ((w ^^^ joinW l) :: l).length b → (∀ j, b = some j → H.next ≤ j) → Q (.ret u) H') : C 35 #[.int .u32 (w.toNat : Int), v] H Q := by
  refine SemC_fn TT.ok fn35 rfl rfl ?_
  simp only [Try.f35, start, KC_normal, go_sem, Nat.reduceEqDiff, Nat.reduceAdd, reduceIte, reduceCtorEq, Nat.reduceLeDiff, Nat.reduceShiftRight, Nat.reduceAnd, Nat.reduceOr, Nat.reducePow, Nat.reduceBNe, Nat.reduceBEq]
  refine f54_c hs (by omega) ?_
  simp only [start, KC_normal, go_sem, Nat.reduceEqDiff, Nat.reduceAdd, reduceIte, reduceCtorEq, Nat.reduceLeDiff, Nat.reduceShiftRight, Nat.reduceAnd, Nat.reduceOr, Nat.reducePow, Nat.reduceBNe, Nat.reduceBEq, i_xorw]
  generalize hX : H.push _ = H1
  obtain ⟨hE1, -, hn1⟩ := new_push hX
  have hx1 := Own1.new (n := 1) (sz := 1) (l := wordC (w ^^^ joinW l)) hX rfl
  clear hX
  obtain ⟨v7, H7, b7, he, hw7, hS7, hb7⟩ := appN_wd (l := [w ^^^ joinW l]) hx1 (hs.noF.step hE1.step) (by simp only [List.length_cons, List.length_nil]; omega)
  simp only [he, start, KC_normal, go_sem, Nat.reduceEqDiff, Nat.reduceAdd, reduceIte, reduceCtorEq, Nat.reduceLeDiff, Nat.reduceShiftRight, Nat.reduceAnd, Nat.reduceOr, Nat.reducePow, Nat.reduceBNe, Nat.reduceBEq]
  refine hQ H7 v7 b7 (hE1.app hS7 fun j hj => by cases hj; exact Nat.le_refl _) hw7 fun j hj => ?_
  rcases hb7 j hj with e | e
  · cases e; exact Nat.le_refl _
  · omega

theorem sl_to43 {H : Heap} {b o len cap h : Nat} {own : Bool} {c : List Value} (hg : H.get b = .cells own 1 c) (hh : h ≤ cap) : sliceC TT H 43 (.slice (some ⟨b, o, none⟩) len cap) none (some (.int .i64 (h : Nat))) none = some (.slice (some ⟨b, o, none⟩) h cap) := by
  have e : bnds len cap none (some ((h : Nat) : Int)) none = some (0, h, cap) := by
    have h1 : ((h : Int) ≤ (cap : Int)) := by omega
    have h2 : (0 : Int) ≤ (h : Int) := by omega
    simp [bnds, bMax, bHigh, bLow, h1, h2, hh]
  simp only [sliceC, lit?, ty43, ty54, hg, e]
  simp

theorem short_end {F0 : Fr} {H : Heap} {x : Value} {m : List Wd} (hx : Sl F0 H 1 x m.length (m.flatMap wordC)) (hl : m.length < 1000000) :
    ∃ v' H' b', appendC TT (H.push (.cells true 1 [])) #[43, 43] (.slice (some ⟨H.next, 0, none⟩) 0 0) x = some (.val v' H') ∧ Own1 H' 1 (m.flatMap wordC) v' m.length b' ∧ Ext H H' ∧ (∀ j, b' = some j → H.next ≤ j) := by
  have hE : Ext H (H.push (.cells true 1 [])) := (Ext.refl H).push _
  obtain ⟨v', H', b', k1, k2, k3, k4⟩ := app_own (T := TT) (t := 43) ty43 ty54 rfl (by omega) wordC_one (k := H.next) (H := H.push (.cells true 1 [])) (by simp) (H_get_new _ _) (hx.noF.step hE.step) hl
  refine ⟨v', H', b', k1, k2, hE.app k3 fun j hj => by cases hj; exact Nat.le_refl _, fun j hj => ?_⟩
  rcases k4 j hj with e | e
  · omega
  · have := hE.le; omega

theorem f17_c {F : Fr} {H : Heap} {v : Value} {l : List Wd} (hs : Sl F H 1 v l.length (l.flatMap wordC)) {Q : Ret → Heap → Prop}
    (hQ : ∀ H' u b, Ext H H' → Own1 H' 1 ((l.take 5000).flatMap wordC) u (l.take 5000).length b → (∀ j, b = some j → H.next ≤ j) → Q (.ret u) H') : C 17 #[v] H Q := by
  have hs0 := hs
  obtain ⟨a, cap, rfl, hcap, hlen, hA⟩ := hs.noF.ex
  refine SemC_fn TT.ok fn17 rfl rfl ?_
  by_cases hb : (5000 : Int) < (l.length : Nat)
  · cases hA with
    | nil h1 h2 h3 => omega
    | zer a h1 h2 h3 h4 => omega
    | blk b o own Cb hk hseg =>
      have h5 := sl_to43 (len := l.length) (o := o) (cap := cap) (h := 5000) hk.get (by omega)
      have e5 : ((5000 : Nat) : Int) = 5000 := rfl
      rw [e5] at h5
      have ht : (l.take 5000).length = 5000 := by rw [List.length_take]; omega
      have hsl : Sl noF H 1 (.slice (some ⟨b, o, none⟩) 5000 cap) (l.take 5000).length ((l.take 5000).flatMap wordC) := by
        rw [ht]
        refine ⟨_, cap, rfl, by omega, by rw [words_len, ht], .blk b o own Cb hk ?_⟩
        have := seg_take hseg (m := 5000 * 1) (by omega)
        rw [wd_take] at this
        exact this
      obtain ⟨v', H', b', he, ho, hE, hb'⟩ := short_end hsl (by omega)
      simp only [Try.f17, start, KC_normal, go_sem, Nat.reduceEqDiff, Nat.reduceAdd, reduceIte, reduceCtorEq, Nat.reduceLeDiff, Nat.reduceShiftRight, Nat.reduceAnd, Nat.reduceOr, Nat.reducePow, Nat.reduceBNe, Nat.reduceBEq, hb, Option.map_none, h5, he]
      exact hQ H' v' b' hE ho hb'
  · have ht : l.take 5000 = l := List.take_of_length_le (by omega)
    rw [ht] at hQ
    obtain ⟨v', H', b', he, ho, hE, hb'⟩ := short_end hs0 (by omega)
    simp only [Try.f17, start, KC_normal, go_sem, Nat.reduceEqDiff, Nat.reduceAdd, reduceIte, reduceCtorEq, Nat.reduceLeDiff, Nat.reduceShiftRight, Nat.reduceAnd, Nat.reduceOr, Nat.reducePow, Nat.reduceBNe, Nat.reduceBEq, hb, he]
    exact hQ H' v' b' hE ho hb'
end Go.Ab.Ex
end
section
namespace Go.Ab.Ex
open Go.Proofs
set_option maxRecDepth 10000
set_option maxHeartbeats 1000000

theorem takeW_eq (l : List Wd) (n : Nat) : takeW l n = (List.range n).map (atW l) := by
  apply List.ext_getElem?
  intro i
  rw [List.getElem?_map]
  by_cases hi : i < n
  · rw [takeW_get hi, List.getElem?_range hi]; rfl
  · rw [List.getElem?_eq_none (by rw [takeW_len]; omega), List.getElem?_eq_none (by simp; omega)]; rfl
theorem atW_drop (l : List Wd) (q k : Nat) : atW (l.drop q) k = atW l (q + k) := by
  unfold atW
  rw [List.getD_eq_getElem?_getD, List.getD_eq_getElem?_getD, List.getElem?_drop]
def maskW (m : List Wd) (d i : Nat) : List Wd := (List.range d).map fun k => atW m (i * d + k)
theorem maskW_len (m : List Wd) (d i : Nat) : (maskW m d i).length = d := by simp [maskW]
theorem take_mask (m : List Wd) (d i : Nat) : takeW (m.drop (i * d)) d = maskW m d i := by
  rw [takeW_eq]
  unfold maskW
  congr 1
  funext k
  exact atW_drop m (i * d) k
def inW (s m : List Wd) (d i : Nat) : List Wd := (atW s i ^^^ joinW (maskW m d i)) :: maskW m d i
theorem inW_len (s m : List Wd) (d i : Nat) : (inW s m d i).length = d + 1 := by simp [inW, maskW]
def secW (s m : List Wd) (d n : Nat) : List Wd := (List.range n).flatMap (inW s m d)
theorem secW_next (s m : List Wd) (d n : Nat) : secW s m d (n + 1) = secW s m d n ++ inW s m d n := by simp [secW, List.range_succ, List.flatMap_append]
theorem secW_len (s m : List Wd) (d : Nat) : ∀ n, (secW s m d n).length = n * (d + 1)
  | 0 => by simp [secW]
  | n + 1 => by rw [secW_next, List.length_append, secW_len s m d n, inW_len, Nat.succ_mul]
noncomputable def inputsM (g : CircM) (d : Int) (s p m : List Wd) : List Wd := if (expandM g d).2 = 0 then secW s m d.toNat g.secrets.toNat ++ (List.range g.publics.toNat).map (atW p) else []

def New (H : Heap) : Fr := fun j => H.next ≤ j
theorem New.ext {H H' : Heap} (h : Ext H H') : Step (New H) H (New H) H' := h.step
theorem toNew {H : Heap} {v : Value} {l : List Wd} (h : Tk noF H v l) : Tk (New H) H v l := h.more fun j hj => .inr hj
theorem pre4 {H H' : Heap} {a b c e : AObj} (hX : (((H.push a).push b).push c).push e = H') : Ext H H' ∧ H'.get H.next = a ∧ H'.get (H.next + 1) = b ∧ H'.get (H.next + 2) = c ∧ H'.get (H.next + 3) = e ∧ H'.next = H.next + 4 := by
  generalize hY : ((H.push a).push b).push c = H1 at hX
  obtain ⟨h1, h2, h3, h4, h5⟩ := pre3 hY
  obtain ⟨k1, k2, k3⟩ := new_push hX
  refine ⟨h1.trans k1, (k1.get _ (by omega)).trans h2, (k1.get _ (by omega)).trans h3, (k1.get _ (by omega)).trans h4, by rw [h5] at k2; exact k2, by omega⟩

theorem f19_c (h78 : CirC) {F : Fr} {H : Heap} {v vs vp vm : Value} {g : CircM} {d : Int} {s p m : List Wd} (hv : CircR F H v g) (hf : g.gates.length ≤ 150 ∧ g.outs.length ≤ 50) (hs : Tk noF H vs s) (hp : Tk noF H vp p) (hm : Tk noF H vm m) {Q : Ret → Heap → Prop}
    (hQ : ∀ H' u b, Ext H H' → Own1 H' 1 ((inputsM g d s p m).flatMap wordC) u (inputsM g d s p m).length b → (∀ j, b = some j → H.next ≤ j) → Q (.ret u) H') : C 19 #[v, .int .i64 d, vs, vp, vm] H Q := by
  have h44 : CanC := f44_c h78
  have hv0 := hv.noF
  obtain ⟨v1, v2, rfl, hg1, hg2⟩ := hv.noF.ex
  obtain ⟨ag, cg, rfl, h3, h4, hgA⟩ := hg1.ex
  obtain ⟨au, cu, rfl, h5, h6, huA⟩ := hg2.ex
  have hs' := toNew hs
  have hp' := toNew hp
  have hm' := toNew hm
  obtain ⟨asx, ns, cs, rfl⟩ := hs.form
  obtain ⟨ap, np, cp, rfl⟩ := hp.form
  obtain ⟨am, nm, cm, rfl⟩ := hm.form
  refine SemC_fn TT.ok fn19 rfl rfl ?_
  simp only [Try.f19, start, KC_normal, go_sem, Nat.reduceEqDiff, Nat.reduceAdd, reduceIte, reduceCtorEq, Nat.reduceLeDiff, Nat.reduceShiftRight, Nat.reduceAnd, Nat.reduceOr, Nat.reducePow, Nat.reduceBNe, Nat.reduceBEq]
  generalize hX : (((H.push _).push _).push _).push _ = H1
  obtain ⟨hE1, k5, k7, k8, k9, hn1⟩ := pre4 hX
  clear hX
  simp only [start, KC_normal, go_sem, Nat.reduceEqDiff, Nat.reduceAdd, reduceIte, reduceCtorEq, Nat.reduceLeDiff, Nat.reduceShiftRight, Nat.reduceAnd, Nat.reduceOr, Nat.reducePow, Nat.reduceBNe, Nat.reduceBEq, k5]
  refine f28_c h44 (hv0.step hE1.step) hf fun H2 u hE2 hu => ?_
  obtain ⟨e1, e2, rfl, hs1, hs2⟩ := (hu noF (noF_Bd _)).ex
  obtain ⟨x1, x2, rfl⟩ := hs1.len
  obtain ⟨x3, x4, rfl⟩ := hs2.len
  simp only [start, KC_normal, go_sem, Nat.reduceEqDiff, Nat.reduceAdd, reduceIte, reduceCtorEq, Nat.reduceLeDiff, Nat.reduceShiftRight, Nat.reduceAnd, Nat.reduceOr, Nat.reducePow, Nat.reduceBNe, Nat.reduceBEq]
  generalize hX : (H2.push _).put _ _ = H3
  obtain ⟨hE3, -, hn3⟩ := new_put hX
  clear hX
  have hE13 := hE2.trans hE3
  have hE03 := hE1.trans hE13
  unfold inputsM at hQ
  by_cases he : (expandM g d).2 = 0
  · obtain ⟨hgo, hd, -⟩ := expand_0 he
    rw [if_pos he] at hQ
    have hsec := hgo.c.s
    have hpub := hgo.c.p
    simp only [CircM.as] at hsec hpub
    obtain ⟨dn, rfl⟩ : ∃ n : Nat, d = n := ⟨d.toNat, by omega⟩
    obtain ⟨S, hS⟩ : ∃ n : Nat, g.secrets = n := ⟨g.secrets.toNat, by omega⟩
    obtain ⟨U, hU⟩ : ∃ n : Nat, g.publics = n := ⟨g.publics.toNat, by omega⟩
    simp only [hS, hU, Int.toNat_natCast] at hQ k5 hsec hpub ⊢
    have q5 := (hE13.get _ (by omega)).trans k5
    have q7 := (hE13.get _ (by omega)).trans k7
    have q8 := (hE13.get _ (by omega)).trans k8
    have q9 := (hE13.get _ (by omega)).trans k9
    simp only [start, KC_normal, go_sem, Nat.reduceEqDiff, Nat.reduceAdd, reduceIte, reduceCtorEq, Nat.reduceLeDiff, Nat.reduceShiftRight, Nat.reduceAnd, Nat.reduceOr, Nat.reducePow, Nat.reduceBNe, Nat.reduceBEq, he, q5]
    refine f34_c (F := New H) q7 (by have := hE2.le; omega) (hs'.step (New.ext hE03)) (show H.next ≤ H.next + 1 by omega) (by omega) fun H4 u4 b4 v4 hS4 _ _ ho4 hb4 => ?_
    have hE04 : Ext H H4 := ((New.ext hE03).trans (Ex.Step.up hS4 (show New H (H.next + 1) from Nat.le_succ _))).toExt fun _ h => h
    have o5 := (hS4.get _ (by have := hE2.le; omega) (show ¬ H.next = H.next + 1 by omega)).trans q5
    have o8 := (hS4.get _ (by have := hE2.le; omega) (show ¬ H.next + 2 = H.next + 1 by omega)).trans q8
    have o9 := (hS4.get _ (by have := hE2.le; omega) (show ¬ H.next + 3 = H.next + 1 by omega)).trans q9
    have hp4 := (hp'.step (New.ext hE03)).step (Ex.Step.up hS4 (show New H (H.next + 1) from Nat.le_succ _))
    have hm4 := (hm'.step (New.ext hE03)).step (Ex.Step.up hS4 (show New H (H.next + 1) from Nat.le_succ _))
    obtain ⟨hb4l, hb4g, rfl, -⟩ := ho4.at rfl
    rw [takeW_len]
    have hle4 : H.next + 4 ≤ H4.next := by have := hS4.le; have := hE13.le; omega
    have hb4' : H.next + 4 ≤ b4 := by have := hE13.le; omega
    clear hS4 ho4 q5 q7 q8 q9 hE13 hE03 hE3 hE2 hn3 hs1 hs2 hu
    simp only [start, KC_normal, go_sem, Nat.reduceEqDiff, Nat.reduceAdd, reduceIte, reduceCtorEq, Nat.reduceLeDiff, Nat.reduceShiftRight, Nat.reduceAnd, Nat.reduceOr, Nat.reducePow, Nat.reduceBNe, Nat.reduceBEq]
    refine wp_loop TT.ok rfl rfl (fun j st => ∃ tm H' i u b mv, st = ⟨tm, 44, [], false, H'⟩ ∧ j = S - i ∧ i ≤ S ∧ Ext H H' ∧ H4.next ≤ H'.next ∧
      H'.get H.next = .cells true 4 [.slice ag g.gates.length cg, .int .i64 (S : Nat), .int .i64 (U : Nat), .slice au g.outs.length cu] ∧ H'.get (H.next + 2) = .cells true 1 [.slice ap np cp] ∧ H'.get (H.next + 3) = .cells true 1 [mv] ∧ H'.get b4 = .cells true 1 ((takeW s S).flatMap wordC) ∧
      Tk (New H) H' (.slice ap np cp) p ∧ Tk (New H) H' mv (m.drop (i * dn)) ∧ Own1 H' 1 ((secW s m dn i).flatMap wordC) u (secW s m dn i).length b ∧ (∀ j, b = some j → H4.next ≤ j) ∧
      tm.get 1 = some (.int .i64 (dn : Nat)) ∧ tm.get 5 = some (.pointer (some ⟨H.next, 0, none⟩)) ∧ tm.get 8 = some (.pointer (some ⟨H.next + 2, 0, none⟩)) ∧ tm.get 9 = some (.pointer (some ⟨H.next + 3, 0, none⟩)) ∧ tm.get 13 = some u ∧
      tm.get 26 = some (.slice (some ⟨b4, 0, none⟩) S S) ∧ tm.get 27 = some (.int .i64 (S : Nat)) ∧ tm.get 28 = some (.int .i64 (i : Nat))) S ?_ ?_
    · refine ⟨_, H4, 0, .slice none 0 0, none, _, rfl, rfl, Nat.zero_le _, hE04, Nat.le_refl _, o5, o8, o9, hb4g, hp4, ?_, .nil rfl, (fun j hj => by cases hj), ?_, ?_, ?_, ?_, ?_, ?_, ?_, ?_⟩
      · rw [Nat.zero_mul, List.drop_zero]; exact hm4
      all_goals simp only [start, KC_normal, go_sem, Nat.reduceEqDiff, Nat.reduceAdd, reduceIte, reduceCtorEq, Nat.reduceLeDiff, Nat.reduceShiftRight, Nat.reduceAnd, Nat.reduceOr, Nat.reducePow, Nat.reduceBNe, Nat.reduceBEq]
      all_goals rfl
    · clear o5 o8 o9 hb4g hp4 hm4 hE04 hE1 k5 k7 k8 k9
      rintro j st - ⟨tm, H', i, u, b, mv, rfl, hj, hi, hE, hle, o5, o8, o9, o4, hp', hm', ho, hb, t1, t5, t8, t9, t13, t26, t27, t28⟩
      simp only [start, KC_normal, go_sem, Nat.reduceEqDiff, Nat.reduceAdd, reduceIte, reduceCtorEq, Nat.reduceLeDiff, Nat.reduceShiftRight, Nat.reduceAnd, Nat.reduceOr, Nat.reducePow, Nat.reduceBNe, Nat.reduceBEq, t27, t28]
      refine CN_split (fun hlt => ?_) (fun hge => ?_)
      · have hlt' : i < S := by omega
        have hel : ((takeW s S).flatMap wordC)[i * 1]? = some (.int .u32 ((atW s i).toNat : Int)) := fm_get0 wordC_len _ i _ (takeW_get hlt') (by omega)
        obtain ⟨a', n', c', rfl⟩ := hm'.form
        simp only [start, KC_normal, go_sem, Nat.reduceEqDiff, Nat.reduceAdd, reduceIte, reduceCtorEq, Nat.reduceLeDiff, Nat.reduceShiftRight, Nat.reduceAnd, Nat.reduceOr, Nat.reducePow, Nat.reduceBNe, Nat.reduceBEq, t26, t28, ia_in _ _ _ _ _ hlt', o4, hel, t9, t1]
        refine f34_c (F := New H) o9 (by omega) hm' (show H.next ≤ H.next + 3 by omega) (by omega) fun H5 u5 b5 v5 hS5 hv5 ht5 ho5 hb5 => ?_
        have hS5' : Step (New H) H' (New H) H5 := Ex.Step.up hS5 (show H.next ≤ H.next + 3 by omega)
        have hE5 : Ext H H5 := ((New.ext hE).trans hS5').toExt fun _ h => h
        have e5 : takeW (m.drop (i * dn)) dn = maskW m dn i := take_mask m dn i
        rw [e5] at ho5
        obtain ⟨hb5l, hb5g, hu5, -⟩ := ho5.at rfl
        have hsl5 := ho5.sl (F := noF) fun _ _ h => h
        rw [List.drop_drop] at ht5
        have ho' : Own1 H5 1 ((secW s m dn i).flatMap wordC) u (secW s m dn i).length b := ho.step hS5 fun j hj e => by
          have := hb j hj
          have e : j = H.next + 3 := e
          omega
        have q5 := (hS5.get H.next (by omega) (show ¬ H.next = H.next + 3 by omega)).trans o5
        have q8 := (hS5.get (H.next + 2) (by omega) (show ¬ H.next + 2 = H.next + 3 by omega)).trans o8
        have q4 := (hS5.get b4 (by omega) (show ¬ b4 = H.next + 3 by omega)).trans o4
        have hle5 := hS5.le
        subst hu5
        simp only [start, KC_normal, go_sem, Nat.reduceEqDiff, Nat.reduceAdd, reduceIte, reduceCtorEq, Nat.reduceLeDiff, Nat.reduceShiftRight, Nat.reduceAnd, Nat.reduceOr, Nat.reducePow, Nat.reduceBNe, Nat.reduceBEq]
        refine f35_c hsl5 (by rw [maskW_len]; omega) fun H6 u6 b6 hE6 ho6 hb6 => ?_
        have hsl6 := ho6.sl (F := noF) fun _ _ h => h
        have hl6 : ((atW s i ^^^ joinW (maskW m dn i)) :: maskW m dn i).length = dn + 1 := inW_len s m dn i
        have hls := secW_len s m dn i
        have hbnd : i * (dn + 1) ≤ 1000 * 7 := Nat.mul_le_mul (by omega) (by omega)
        obtain ⟨v7, H7, b7, he7, ho7, hS7, hb7⟩ := appN_wd (ho'.ext hE6) hsl6 (by rw [hls, hl6]; omega)
        have hb' : ∀ j, b = some j → H.next ≤ j := fun j hj => by have := hb j hj; omega
        have hE7 : Ext H H7 := (hE5.trans hE6).app hS7 hb'
        have k7 : ∀ j, j < H5.next → b ≠ some j → H7.get j = H5.get j := fun j hj hn => ((hS7 noF).get j (by have := hE6.le; omega) (fun h => h.elim (fun h => h) (fun h => hn h))).trans (hE6.get j hj)
        have hne : ∀ j, j < H4.next → b ≠ some j := fun j hj e => by have := hb j e; omega
        have hN7 : Step (New H) H5 (New H) H7 := (hE6.step (F := New H)).trans ⟨(hS7 noF).le, fun j hj hf => (hS7 noF).get j hj (fun h => h.elim (fun h => h) (fun h => hf (hb' j h))), fun j hj => .inl hj⟩
        simp only [start, KC_normal, go_sem, Nat.reduceEqDiff, Nat.reduceAdd, reduceIte, reduceCtorEq, Nat.reduceLeDiff, Nat.reduceShiftRight, Nat.reduceAnd, Nat.reduceOr, Nat.reducePow, Nat.reduceBNe, Nat.reduceBEq, t13, he7, t28]
        refine ⟨S - (i + 1), by omega, _, H7, i + 1, v7, b7, v5, rfl, rfl, by omega, hE7, ?_, ?_, ?_, ?_, ?_, ?_, ?_, ?_, ?_, ?_, ?_, ?_, ?_, ?_, ?_, ?_, ?_⟩
        · have := (hS7 noF).le; have := hE6.le; omega
        · exact (k7 _ (by omega) (hne _ (by omega))).trans q5
        · exact (k7 _ (by omega) (hne _ (by omega))).trans q8
        · exact (k7 _ (by omega) (hne _ (by omega))).trans hv5
        · exact (k7 _ (by omega) (hne _ (by omega))).trans q4
        · exact (hp'.step hS5').step hN7
        · rw [Nat.succ_mul]; exact ht5.step hN7
        · rw [secW_next]; exact ho7
        · intro j hj
          rcases hb7 j hj with h | h
          · exact hb j h
          · have := hE6.le; omega
        all_goals simp only [start, KC_normal, go_sem, Nat.reduceEqDiff, Nat.reduceAdd, reduceIte, reduceCtorEq, Nat.reduceLeDiff, Nat.reduceShiftRight, Nat.reduceAnd, Nat.reduceOr, Nat.reducePow, Nat.reduceBNe, Nat.reduceBEq, t1, t5, t8, t9, t13, t26, t27, t28]
        rw [wrap_i64 _ (by omega) (by omega)]; simp
      · have hi' : i = S := by omega
        subst hi'
        simp only [start, KC_normal, go_sem, Nat.reduceEqDiff, Nat.reduceAdd, reduceIte, reduceCtorEq, Nat.reduceLeDiff, Nat.reduceShiftRight, Nat.reduceAnd, Nat.reduceOr, Nat.reducePow, Nat.reduceBNe, Nat.reduceBEq, t5, t8, t13, o5]
        refine f34_c (F := New H) o8 (by omega) hp' (show H.next ≤ H.next + 2 by omega) (by omega) fun H5 u5 b5 v5 hS5 _ _ ho5 hb5 => ?_
        have hE5 : Ext H H5 := ((New.ext hE).trans (Ex.Step.up hS5 (show H.next ≤ H.next + 2 by omega))).toExt fun _ h => h
        have ho' : Own1 H5 1 ((secW s m dn i).flatMap wordC) u (secW s m dn i).length b := ho.step hS5 fun j hj e => by
          have := hb j hj
          have e : j = H.next + 2 := e
          omega
        have hls := secW_len s m dn i
        have hbnd : i * (dn + 1) ≤ 1000 * 7 := Nat.mul_le_mul (by omega) (by omega)
        obtain ⟨v7, H7, b7, he7, ho7, hS7, hb7⟩ := appN_wd ho' (ho5.sl (F := noF) fun _ _ h => h) (by rw [hls, takeW_len]; omega)
        obtain ⟨-, -, hu5, -⟩ := ho5.at rfl
        have hb' : ∀ j, b = some j → H.next ≤ j := fun j hj => by have := hb j hj; omega
        rw [takeW_eq] at ho7
        simp only [start, KC_normal, go_sem, Nat.reduceEqDiff, Nat.reduceAdd, reduceIte, reduceCtorEq, Nat.reduceLeDiff, Nat.reduceShiftRight, Nat.reduceAnd, Nat.reduceOr, Nat.reducePow, Nat.reduceBNe, Nat.reduceBEq, he7]
        refine hQ H7 v7 b7 (hE5.app hS7 hb') ho7 fun j hj => ?_
        rcases hb7 j hj with h | h
        · exact hb' j h
        · have := hE5.le; omega
  · rw [if_neg he] at hQ
    simp only [start, KC_normal, go_sem, Nat.reduceEqDiff, Nat.reduceAdd, reduceIte, reduceCtorEq, Nat.reduceLeDiff, Nat.reduceShiftRight, Nat.reduceAnd, Nat.reduceOr, Nat.reducePow, Nat.reduceBNe, Nat.reduceBEq, he]
    exact hQ H3 _ none hE03 (.nil rfl) fun j hj => by cases hj
end Go.Ab.Ex
end
section
namespace Go.Ab.Ex
open Go.Proofs
set_option maxRecDepth 10000
set_option maxHeartbeats 1000000

def mkW (m : List Wd) (d i k : Nat) : List Wd := (List.range k).map fun k => atW m (i * d + k)
theorem mkW_next (m : List Wd) (d i k : Nat) : mkW m d i (k + 1) = mkW m d i k ++ [atW m (i * d + k)] := by simp [mkW, List.range_succ]
theorem mkW_len (m : List Wd) (d i k : Nat) : (mkW m d i k).length = k := by simp [mkW]
def pubW (p : List Wd) (n : Nat) : List Wd := (List.range n).map (atW p)
theorem pubW_next (p : List Wd) (n : Nat) : pubW p (n + 1) = pubW p n ++ [atW p n] := by simp [pubW, List.range_succ]
theorem pubW_len (p : List Wd) (n : Nat) : (pubW p n).length = n := by simp [pubW]

theorem f20_c {F : Fr} {H : Heap} {v vs vp vm : Value} {g : CircM} {d : Int} {s p m : List Wd} (hv : CircR F H v g) (hf : g.gates.length ≤ 150 ∧ g.outs.length ≤ 50) (hs : Sl noF H 1 vs s.length (s.flatMap wordC)) (hp : Sl noF H 1 vp p.length (p.flatMap wordC)) (hm : Sl noF H 1 vm m.length (m.flatMap wordC)) {Q : Ret → Heap → Prop}
    (hQ : ∀ H' u b, Ext H H' → Own1 H' 1 ((inputsM g d s p m).flatMap wordC) u (inputsM g d s p m).length b → (∀ j, b = some j → H.next ≤ j) → Q (.ret u) H') : C 20 #[v, .int .i64 d, vs, vp, vm] H Q := by
  have hv0 := hv.noF
  obtain ⟨v1, v2, rfl, hg1, hg2⟩ := hv.noF.ex
  obtain ⟨ag, cg, rfl, h3, h4, hgA⟩ := hg1.ex
  obtain ⟨au, cu, rfl, h5, h6, huA⟩ := hg2.ex
  refine SemC_fn TT.ok fn20 rfl rfl ?_
  simp only [Try.f20, start, KC_normal, go_sem, Nat.reduceEqDiff, Nat.reduceAdd, reduceIte, reduceCtorEq, Nat.reduceLeDiff, Nat.reduceShiftRight, Nat.reduceAnd, Nat.reduceOr, Nat.reducePow, Nat.reduceBNe, Nat.reduceBEq]
  generalize hX : (H.push _).push _ = H1
  obtain ⟨hE1, k5, k6, hn1⟩ := pre2 hX
  clear hX
  simp only [start, KC_normal, go_sem, Nat.reduceEqDiff, Nat.reduceAdd, reduceIte, reduceCtorEq, Nat.reduceLeDiff, Nat.reduceShiftRight, Nat.reduceAnd, Nat.reduceOr, Nat.reducePow, Nat.reduceBNe, Nat.reduceBEq, k5]
  refine f11_c (hv0.step hE1.step) hf fun H2 u hE2 hu => ?_
  obtain ⟨e1, e2, rfl, hs1, hs2⟩ := (hu noF (noF_Bd _)).ex
  obtain ⟨x1, x2, rfl⟩ := hs1.len
  obtain ⟨x3, x4, rfl⟩ := hs2.len
  simp only [start, KC_normal, go_sem, Nat.reduceEqDiff, Nat.reduceAdd, reduceIte, reduceCtorEq, Nat.reduceLeDiff, Nat.reduceShiftRight, Nat.reduceAnd, Nat.reduceOr, Nat.reducePow, Nat.reduceBNe, Nat.reduceBEq]
  generalize hX : (H2.push _).put _ _ = H3
  obtain ⟨hE3, -, hn3⟩ := new_put hX
  clear hX
  have hE13 := hE2.trans hE3
  have hE03 := hE1.trans hE13
  have q5 := (hE13.get _ (by omega)).trans k5
  have q6 := (hE13.get _ (by omega)).trans k6
  have hle3 := hE13.le
  unfold inputsM at hQ
  by_cases he : (expandM g d).2 = 0
  · obtain ⟨hgo, hd, -⟩ := expand_0 he
    rw [if_pos he] at hQ
    have hsec := hgo.c.s
    have hpub := hgo.c.p
    simp only [CircM.as] at hsec hpub
    obtain ⟨dn, rfl⟩ : ∃ n : Nat, d = n := ⟨d.toNat, by omega⟩
    obtain ⟨S, hS⟩ : ∃ n : Nat, g.secrets = n := ⟨g.secrets.toNat, by omega⟩
    obtain ⟨U, hU⟩ : ∃ n : Nat, g.publics = n := ⟨g.publics.toNat, by omega⟩
    simp only [hS, hU, Int.toNat_natCast] at hQ q5 hsec hpub ⊢
    have ho3 : Own1 H3 1 ((secW s m dn 0).flatMap wordC) (.slice (some ⟨H.next + 1, 0, none⟩) 0 0) (secW s m dn 0).length (some (H.next + 1)) := .blk _ 0 (by omega) q6 rfl
    clear k5 k6 hs1 hs2 hu hE2 hE3
    simp only [start, KC_normal, go_sem, Nat.reduceEqDiff, Nat.reduceAdd, reduceIte, reduceCtorEq, Nat.reduceLeDiff, Nat.reduceShiftRight, Nat.reduceAnd, Nat.reduceOr, Nat.reducePow, Nat.reduceBNe, Nat.reduceBEq, he]
    refine wp_loop TT.ok rfl rfl (fun j st => ∃ tm H' i u b, st = ⟨tm, 74, [], false, H'⟩ ∧ j = S - i ∧ i ≤ S ∧ Ext H H' ∧ H.next < H'.next ∧
      H'.get H.next = .cells true 4 [.slice ag g.gates.length cg, .int .i64 (S : Nat), .int .i64 (U : Nat), .slice au g.outs.length cu] ∧
      Own1 H' 1 ((secW s m dn i).flatMap wordC) u (secW s m dn i).length b ∧ (∀ j, b = some j → H.next < j) ∧
      tm.get 1 = some (.int .i64 (dn : Nat)) ∧ tm.get 2 = some vs ∧ tm.get 3 = some vp ∧ tm.get 4 = some vm ∧ tm.get 5 = some (.pointer (some ⟨H.next, 0, none⟩)) ∧ tm.get 11 = some u ∧ tm.get 14 = some (.int .i64 (i : Nat))) S ?_ ?_
    · refine ⟨_, H3, 0, _, _, rfl, rfl, Nat.zero_le _, hE03, by omega, q5, ho3, (fun j hj => by cases hj; omega), ?_, ?_, ?_, ?_, ?_, ?_, ?_⟩
      all_goals simp only [start, KC_normal, go_sem, Nat.reduceEqDiff, Nat.reduceAdd, reduceIte, reduceCtorEq, Nat.reduceLeDiff, Nat.reduceShiftRight, Nat.reduceAnd, Nat.reduceOr, Nat.reducePow, Nat.reduceBNe, Nat.reduceBEq]
      all_goals rfl
    · clear q5 q6 ho3 hle3 hE13 hE03 hE1 hn3 hn1
      rintro j st - ⟨tm, H', i, u, b, rfl, hj, hi, hE, hle, o5, ho, hb, t1, t2, t3, t4, t5, t11, t14⟩
      simp only [start, KC_normal, go_sem, Nat.reduceEqDiff, Nat.reduceAdd, reduceIte, reduceCtorEq, Nat.reduceLeDiff, Nat.reduceShiftRight, Nat.reduceAnd, Nat.reduceOr, Nat.reducePow, Nat.reduceBNe, Nat.reduceBEq, t5, t14, o5]
      refine CN_split (fun hlt => ?_) (fun hge => ?_)
      · have hlt' : i < S := by omega
        have hid : i * dn ≤ 1000 * 6 := Nat.mul_le_mul (by omega) (by omega)
        simp only [start, KC_normal, go_sem, Nat.reduceEqDiff, Nat.reduceAdd, reduceIte, reduceCtorEq, Nat.reduceLeDiff, Nat.reduceShiftRight, Nat.reduceAnd, Nat.reduceOr, Nat.reducePow, Nat.reduceBNe, Nat.reduceBEq]
        generalize hX : H'.push _ = H1
        obtain ⟨hE1, k1, hn1⟩ := new_push hX
        clear hX
        refine wp_loop TT.ok rfl rfl (fun j st => ∃ tm H'' k w b', st = ⟨tm, 74, [], false, H''⟩ ∧ j = dn - k ∧ k ≤ dn ∧ Ext H' H'' ∧ Own1 H'' 1 ((mkW m dn i k).flatMap wordC) w (mkW m dn i k).length b' ∧ (∀ j, b' = some j → H'.next ≤ j) ∧
          tm.get 1 = some (.int .i64 (dn : Nat)) ∧ tm.get 2 = some vs ∧ tm.get 3 = some vp ∧ tm.get 4 = some vm ∧ tm.get 5 = some (.pointer (some ⟨H.next, 0, none⟩)) ∧ tm.get 11 = some u ∧ tm.get 14 = some (.int .i64 (i : Nat)) ∧ tm.get 15 = some w ∧ tm.get 16 = some (.int .i64 (k : Nat))) dn ?_ ?_
        · refine ⟨_, H1, 0, .slice (some ⟨H'.next, 0, none⟩) 0 0, some H'.next, rfl, rfl, Nat.zero_le _, hE1, .blk _ 0 (by omega) k1 rfl, (fun j hj => by cases hj; omega), ?_, ?_, ?_, ?_, ?_, ?_, ?_, ?_, ?_⟩
          all_goals simp only [start, KC_normal, go_sem, Nat.reduceEqDiff, Nat.reduceAdd, reduceIte, reduceCtorEq, Nat.reduceLeDiff, Nat.reduceShiftRight, Nat.reduceAnd, Nat.reduceOr, Nat.reducePow, Nat.reduceBNe, Nat.reduceBEq, t1, t2, t3, t4, t5, t11, t14]
          rfl
        · clear k1 hE1 hn1
          rintro j st - ⟨tm, H'', k, w, b', rfl, hj, hk, hE', ho', hb', t1, t2, t3, t4, t5, t11, t14, t15, t16⟩
          simp only [start, KC_normal, go_sem, Nat.reduceEqDiff, Nat.reduceAdd, reduceIte, reduceCtorEq, Nat.reduceLeDiff, Nat.reduceShiftRight, Nat.reduceAnd, Nat.reduceOr, Nat.reducePow, Nat.reduceBNe, Nat.reduceBEq, t1, t16]
          refine CN_split (fun hlt => ?_) (fun hge => ?_)
          · have hw : IntKind.i64.wrap (IntKind.i64.wrap ((i : Int) * (dn : Int)) + (k : Int)) = ((i * dn + k : Nat) : Int) := by
              obtain ⟨q, hq⟩ : ∃ q, q = i * dn := ⟨_, rfl⟩
              have e : (i : Int) * (dn : Int) = (q : Int) := by rw [hq, Int.natCast_mul]
              rw [e, ← hq, wrap_i64 (q : Int) (by omega) (by omega), wrap_i64 _ (by omega) (by omega)]; rfl
            simp only [start, KC_normal, go_sem, Nat.reduceEqDiff, Nat.reduceAdd, reduceIte, reduceCtorEq, Nat.reduceLeDiff, Nat.reduceShiftRight, Nat.reduceAnd, Nat.reduceOr, Nat.reducePow, Nat.reduceBNe, Nat.reduceBEq, t1, t4, t14, t15, t16, hw]
            refine f36_c ((hm.step hE.step).step hE'.step) ?_
            obtain ⟨v7, H7, b7, he7, ho7, hS7, hb7⟩ := app1_wd ho' (by rw [mkW_len]; omega) (atW m (i * dn + k))
            simp only [start, KC_normal, go_sem, Nat.reduceEqDiff, Nat.reduceAdd, reduceIte, reduceCtorEq, Nat.reduceLeDiff, Nat.reduceShiftRight, Nat.reduceAnd, Nat.reduceOr, Nat.reducePow, Nat.reduceBNe, Nat.reduceBEq]
            simp only [wordC] at he7
            simp only [he7, start, KC_normal, go_sem, Nat.reduceEqDiff, Nat.reduceAdd, reduceIte, reduceCtorEq, Nat.reduceLeDiff, Nat.reduceShiftRight, Nat.reduceAnd, Nat.reduceOr, Nat.reducePow, Nat.reduceBNe, Nat.reduceBEq, t16]
            refine ⟨dn - (k + 1), by omega, _, H7, k + 1, v7, b7, rfl, rfl, by omega, hE'.app hS7 hb', ?_, ?_, ?_, ?_, ?_, ?_, ?_, ?_, ?_, ?_, ?_⟩
            · rw [mkW_next]; exact ho7
            · intro j hj; have := hb7 j hj; have := hE'.le; omega
            all_goals simp only [start, KC_normal, go_sem, Nat.reduceEqDiff, Nat.reduceAdd, reduceIte, reduceCtorEq, Nat.reduceLeDiff, Nat.reduceShiftRight, Nat.reduceAnd, Nat.reduceOr, Nat.reducePow, Nat.reduceBNe, Nat.reduceBEq, t1, t2, t3, t4, t5, t11, t14]
            rw [wrap_i64 _ (by omega) (by omega)]; simp
          · have hk' : k = dn := by omega
            subst hk'
            simp only [start, KC_normal, go_sem, Nat.reduceEqDiff, Nat.reduceAdd, reduceIte, reduceCtorEq, Nat.reduceLeDiff, Nat.reduceShiftRight, Nat.reduceAnd, Nat.reduceOr, Nat.reducePow, Nat.reduceBNe, Nat.reduceBEq, t2, t11, t14, t15]
            refine f36_c ((hs.step hE.step).step hE'.step) ?_
            simp only [start, KC_normal, go_sem, Nat.reduceEqDiff, Nat.reduceAdd, reduceIte, reduceCtorEq, Nat.reduceLeDiff, Nat.reduceShiftRight, Nat.reduceAnd, Nat.reduceOr, Nat.reducePow, Nat.reduceBNe, Nat.reduceBEq, t15]
            have hslw := ho'.sl (F := noF) fun _ _ h => h
            refine f37_c hslw (by rw [mkW_len]; omega) ?_
            simp only [start, KC_normal, go_sem, Nat.reduceEqDiff, Nat.reduceAdd, reduceIte, reduceCtorEq, Nat.reduceLeDiff, Nat.reduceShiftRight, Nat.reduceAnd, Nat.reduceOr, Nat.reducePow, Nat.reduceBNe, Nat.reduceBEq, i_xorw, t15]
            have hls := secW_len s m k i
            have hbnd : i * (k + 1) ≤ 1000 * 7 := Nat.mul_le_mul (by omega) (by omega)
            obtain ⟨v7, H7, b7, he7, ho7, hS7, hb7⟩ := app1_wd (ho.ext hE') (by rw [hls]; omega) (atW s i ^^^ joinW (mkW m k i k))
            simp only [wordC] at he7
            simp only [he7, start, KC_normal, go_sem, Nat.reduceEqDiff, Nat.reduceAdd, reduceIte, reduceCtorEq, Nat.reduceLeDiff, Nat.reduceShiftRight, Nat.reduceAnd, Nat.reduceOr, Nat.reducePow, Nat.reduceBNe, Nat.reduceBEq, t15]
            have hbE : ∀ j, b = some j → H.next ≤ j := fun j hj => by have := hb j hj; omega
            have hE7 : Ext H H7 := (hE.trans hE').app hS7 hbE
            have hslw7 : Sl noF H7 1 w (mkW m k i k).length ((mkW m k i k).flatMap wordC) := by
              have := (hS7 noF)
              have hbw : ∀ j, b' = some j → ¬ (noF.un b) j := fun j hj hf => by
                rcases hf with hf | hf
                · exact hf
                · cases hf
                  have h1 := hb' j hj
                  have h2 := (ho.lt rfl)
                  omega
              exact ((ho'.sl hbw).step this).noF
            obtain ⟨v8, H8, b8, he8, ho8, hS8, hb8⟩ := appN_wd ho7 hslw7 (by rw [List.length_append, hls, mkW_len, List.length_singleton]; omega)
            have hb7' : ∀ j, b7 = some j → H.next < j := fun j hj => by have := hb7 j hj; have := hE'.le; omega
            simp only [he8, start, KC_normal, go_sem, Nat.reduceEqDiff, Nat.reduceAdd, reduceIte, reduceCtorEq, Nat.reduceLeDiff, Nat.reduceShiftRight, Nat.reduceAnd, Nat.reduceOr, Nat.reducePow, Nat.reduceBNe, Nat.reduceBEq, t14]
            refine ⟨S - (i + 1), by omega, _, H8, i + 1, v8, b8, rfl, rfl, by omega, hE7.app hS8 (fun j hj => by have := hb7' j hj; omega), ?_, ?_, ?_, ?_, ?_, ?_, ?_, ?_, ?_, ?_, ?_⟩
            · have := (hS8 noF).le; have := (hS7 noF).le; have := hE'.le; omega
            · rw [(hS8 noF).get _ (by have := (hS7 noF).le; have := hE'.le; omega) (fun h => h.elim (fun h => h) (fun h => by have := hb7' _ h; omega)), (hS7 noF).get _ (by have := hE'.le; omega) (fun h => h.elim (fun h => h) (fun h => by have := hb _ h; omega)), hE'.get _ hle]; exact o5
            · rw [secW_next]
              have e : inW s m k i = [atW s i ^^^ joinW (mkW m k i k)] ++ mkW m k i k := rfl
              rw [e, ← List.append_assoc]
              exact ho8
            · intro j hj
              rcases hb8 j hj with h | h
              · exact hb7' j h
              · have := (hS7 noF).le; have := hE'.le; omega
            all_goals simp only [start, KC_normal, go_sem, Nat.reduceEqDiff, Nat.reduceAdd, reduceIte, reduceCtorEq, Nat.reduceLeDiff, Nat.reduceShiftRight, Nat.reduceAnd, Nat.reduceOr, Nat.reducePow, Nat.reduceBNe, Nat.reduceBEq, t1, t2, t3, t4, t5]
            rw [wrap_i64 _ (by omega) (by omega)]; simp
      · have hi' : i = S := by omega
        subst hi'
        simp only [start, KC_normal, go_sem, Nat.reduceEqDiff, Nat.reduceAdd, reduceIte, reduceCtorEq, Nat.reduceLeDiff, Nat.reduceShiftRight, Nat.reduceAnd, Nat.reduceOr, Nat.reducePow, Nat.reduceBNe, Nat.reduceBEq]
        refine wp_loop TT.ok rfl rfl (fun j st => ∃ tm H'' k w b', st = ⟨tm, 74, [], false, H''⟩ ∧ j = U - k ∧ k ≤ U ∧ Ext H H'' ∧ H.next < H''.next ∧
          H''.get H.next = .cells true 4 [.slice ag g.gates.length cg, .int .i64 (i : Nat), .int .i64 (U : Nat), .slice au g.outs.length cu] ∧ Own1 H'' 1 ((secW s m dn i ++ pubW p k).flatMap wordC) w (secW s m dn i ++ pubW p k).length b' ∧ (∀ j, b' = some j → H.next < j) ∧
          tm.get 3 = some vp ∧ tm.get 5 = some (.pointer (some ⟨H.next, 0, none⟩)) ∧ tm.get 11 = some w ∧ tm.get 17 = some (.int .i64 (k : Nat))) U ?_ ?_
        · refine ⟨_, H', 0, u, b, rfl, rfl, Nat.zero_le _, hE, hle, o5, ?_, hb, ?_, ?_, ?_, ?_⟩
          · have e : secW s m dn i ++ pubW p 0 = secW s m dn i := List.append_nil _
            rw [e]; exact ho
          all_goals simp only [start, KC_normal, go_sem, Nat.reduceEqDiff, Nat.reduceAdd, reduceIte, reduceCtorEq, Nat.reduceLeDiff, Nat.reduceShiftRight, Nat.reduceAnd, Nat.reduceOr, Nat.reducePow, Nat.reduceBNe, Nat.reduceBEq, t3, t5, t11]
          rfl
        · clear o5 ho hb hE hle t1 t2 t3 t4 t5 t11 t14
          rintro j st - ⟨tm, H'', k, w, b', rfl, hj, hk, hE, hle, o5, ho, hb, t3, t5, t11, t17⟩
          simp only [start, KC_normal, go_sem, Nat.reduceEqDiff, Nat.reduceAdd, reduceIte, reduceCtorEq, Nat.reduceLeDiff, Nat.reduceShiftRight, Nat.reduceAnd, Nat.reduceOr, Nat.reducePow, Nat.reduceBNe, Nat.reduceBEq, t5, t17, o5]
          refine CN_split (fun hlt => ?_) (fun hge => ?_)
          · simp only [start, KC_normal, go_sem, Nat.reduceEqDiff, Nat.reduceAdd, reduceIte, reduceCtorEq, Nat.reduceLeDiff, Nat.reduceShiftRight, Nat.reduceAnd, Nat.reduceOr, Nat.reducePow, Nat.reduceBNe, Nat.reduceBEq, t3, t11, t17]
            refine f36_c (hp.step hE.step) ?_
            have hls := secW_len s m dn i
            have hbnd : i * (dn + 1) ≤ 1000 * 7 := Nat.mul_le_mul (by omega) (by omega)
            obtain ⟨v7, H7, b7, he7, ho7, hS7, hb7⟩ := app1_wd ho (by rw [List.length_append, hls, pubW_len]; omega) (atW p k)
            simp only [start, KC_normal, go_sem, Nat.reduceEqDiff, Nat.reduceAdd, reduceIte, reduceCtorEq, Nat.reduceLeDiff, Nat.reduceShiftRight, Nat.reduceAnd, Nat.reduceOr, Nat.reducePow, Nat.reduceBNe, Nat.reduceBEq]
            simp only [wordC] at he7
            simp only [he7, start, KC_normal, go_sem, Nat.reduceEqDiff, Nat.reduceAdd, reduceIte, reduceCtorEq, Nat.reduceLeDiff, Nat.reduceShiftRight, Nat.reduceAnd, Nat.reduceOr, Nat.reducePow, Nat.reduceBNe, Nat.reduceBEq, t17]
            refine ⟨U - (k + 1), by omega, _, H7, k + 1, v7, b7, rfl, rfl, by omega, hE.app hS7 (fun j hj => by have := hb j hj; omega), ?_, ?_, ?_, ?_, ?_, ?_, ?_, ?_⟩
            · have := (hS7 noF).le; omega
            · rw [(hS7 noF).get _ (by omega) (fun h => h.elim (fun h => h) (fun h => by have := hb _ h; omega))]; exact o5
            · rw [pubW_next, ← List.append_assoc]; exact ho7
            · intro j hj; have := hb7 j hj; omega
            all_goals simp only [start, KC_normal, go_sem, Nat.reduceEqDiff, Nat.reduceAdd, reduceIte, reduceCtorEq, Nat.reduceLeDiff, Nat.reduceShiftRight, Nat.reduceAnd, Nat.reduceOr, Nat.reducePow, Nat.reduceBNe, Nat.reduceBEq, t3, t5]
            rw [wrap_i64 _ (by omega) (by omega)]; simp
          · have hk' : k = U := by omega
            subst hk'
            simp only [start, KC_normal, go_sem, Nat.reduceEqDiff, Nat.reduceAdd, reduceIte, reduceCtorEq, Nat.reduceLeDiff, Nat.reduceShiftRight, Nat.reduceAnd, Nat.reduceOr, Nat.reducePow, Nat.reduceBNe, Nat.reduceBEq, t11]
            exact hQ H'' w b' hE ho fun j hj => by have := hb j hj; omega
  · rw [if_neg he] at hQ
    simp only [start, KC_normal, go_sem, Nat.reduceEqDiff, Nat.reduceAdd, reduceIte, reduceCtorEq, Nat.reduceLeDiff, Nat.reduceShiftRight, Nat.reduceAnd, Nat.reduceOr, Nat.reducePow, Nat.reduceBNe, Nat.reduceBEq, he]
    exact hQ H3 _ (some (H.next + 1)) hE03 (.blk _ 0 (by omega) q6 rfl) fun j hj => by cases hj; omega
end Go.Ab.Ex
end
section
namespace Go.Ab.Ex
open Go.Proofs
set_option maxRecDepth 10000
set_option maxHeartbeats 1000000

def outW (w : List Wd) (d i : Nat) : Wd := joinW (maskW w (d + 1) i)
def outsW (w : List Wd) (d n : Nat) : List Wd := (List.range n).map (outW w d)
theorem outsW_next (w : List Wd) (d n : Nat) : outsW w d (n + 1) = outsW w d n ++ [outW w d n] := by simp [outsW, List.range_succ]
theorem outsW_len (w : List Wd) (d n : Nat) : (outsW w d n).length = n := by simp [outsW]
noncomputable def outsM (g : CircM) (d : Int) (w : List Wd) : List Wd := if (expandM g d).2 = 0 then outsW w d.toNat g.outs.length else []

theorem f21_c (h78 : CirC) {F : Fr} {H : Heap} {v vw : Value} {g : CircM} {d : Int} {w : List Wd} (hv : CircR F H v g) (hf : g.gates.length ≤ 150 ∧ g.outs.length ≤ 50) (hw : Tk noF H vw w) {Q : Ret → Heap → Prop}
    (hQ : ∀ H' u b, Ext H H' → Own1 H' 1 ((outsM g d w).flatMap wordC) u (outsM g d w).length b → (∀ j, b = some j → H.next ≤ j) → Q (.ret u) H') : C 21 #[v, .int .i64 d, vw] H Q := by
  have h44 : CanC := f44_c h78
  have hv0 := hv.noF
  obtain ⟨v1, v2, rfl, hg1, hg2⟩ := hv.noF.ex
  obtain ⟨ag, cg, rfl, h3, h4, hgA⟩ := hg1.ex
  obtain ⟨au, cu, rfl, h5, h6, huA⟩ := hg2.ex
  have hw' := toNew hw
  obtain ⟨aw, nw, cw, rfl⟩ := hw.form
  refine SemC_fn TT.ok fn21 rfl rfl ?_
  simp only [Try.f21, start, KC_normal, go_sem, Nat.reduceEqDiff, Nat.reduceAdd, reduceIte, reduceCtorEq, Nat.reduceLeDiff, Nat.reduceShiftRight, Nat.reduceAnd, Nat.reduceOr, Nat.reducePow, Nat.reduceBNe, Nat.reduceBEq]
  generalize hX : (H.push _).push _ = H1
  obtain ⟨hE1, k5, k6, hn1⟩ := pre2 hX
  clear hX
  simp only [start, KC_normal, go_sem, Nat.reduceEqDiff, Nat.reduceAdd, reduceIte, reduceCtorEq, Nat.reduceLeDiff, Nat.reduceShiftRight, Nat.reduceAnd, Nat.reduceOr, Nat.reducePow, Nat.reduceBNe, Nat.reduceBEq, k5]
  refine f28_c h44 (hv0.step hE1.step) hf fun H2 u hE2 hu => ?_
  obtain ⟨e1, e2, rfl, hs1, hs2⟩ := (hu noF (noF_Bd _)).ex
  obtain ⟨x1, x2, rfl⟩ := hs1.len
  obtain ⟨x3, x4, rfl⟩ := hs2.len
  simp only [start, KC_normal, go_sem, Nat.reduceEqDiff, Nat.reduceAdd, reduceIte, reduceCtorEq, Nat.reduceLeDiff, Nat.reduceShiftRight, Nat.reduceAnd, Nat.reduceOr, Nat.reducePow, Nat.reduceBNe, Nat.reduceBEq]
  generalize hX : (H2.push _).put _ _ = H3
  obtain ⟨hE3, -, hn3⟩ := new_put hX
  clear hX
  have hE13 := hE2.trans hE3
  have hE03 := hE1.trans hE13
  have q5 := (hE13.get _ (by omega)).trans k5
  have q6 := (hE13.get _ (by omega)).trans k6
  have hle3 := hE13.le
  unfold outsM at hQ
  by_cases he : (expandM g d).2 = 0
  · obtain ⟨hgo, hd, -⟩ := expand_0 he
    rw [if_pos he] at hQ
    obtain ⟨dn, rfl⟩ : ∃ n : Nat, d = n := ⟨d.toNat, by omega⟩
    simp only [Int.toNat_natCast] at hQ
    clear k5 k6 hs1 hs2 hu hE2 hE3
    have hwd : IntKind.i64.wrap ((dn : Int) + 1) = ((dn + 1 : Nat) : Int) := by rw [wrap_i64 _ (by omega) (by omega)]; rfl
    simp only [start, KC_normal, go_sem, Nat.reduceEqDiff, Nat.reduceAdd, reduceIte, reduceCtorEq, Nat.reduceLeDiff, Nat.reduceShiftRight, Nat.reduceAnd, Nat.reduceOr, Nat.reducePow, Nat.reduceBNe, Nat.reduceBEq, he, q5]
    refine wp_loop TT.ok rfl rfl (fun j st => ∃ tm H' i u b mv, st = ⟨tm, 32, [], false, H'⟩ ∧ j = g.outs.length - i ∧ i ≤ g.outs.length ∧ Ext H H' ∧ H.next + 2 ≤ H'.next ∧
      H'.get (H.next + 1) = .cells true 1 [mv] ∧ Tk (New H) H' mv (w.drop (i * (dn + 1))) ∧ Own1 H' 1 ((outsW w dn i).flatMap wordC) u (outsW w dn i).length b ∧ (∀ j, b = some j → H.next + 2 ≤ j) ∧
      tm.get 1 = some (.int .i64 (dn : Nat)) ∧ tm.get 5 = some (.pointer (some ⟨H.next + 1, 0, none⟩)) ∧ tm.get 9 = some u ∧ tm.get 20 = some (.int .i64 (g.outs.length : Nat)) ∧ tm.get 21 = some (.int .i64 (i : Nat))) g.outs.length ?_ ?_
    · refine ⟨_, H3, 0, .slice none 0 0, none, _, rfl, rfl, Nat.zero_le _, hE03, by omega, q6, ?_, .nil rfl, (fun j hj => by cases hj), ?_, ?_, ?_, ?_, ?_⟩
      · rw [Nat.zero_mul, List.drop_zero]; exact hw'.step (New.ext hE03)
      all_goals simp only [start, KC_normal, go_sem, Nat.reduceEqDiff, Nat.reduceAdd, reduceIte, reduceCtorEq, Nat.reduceLeDiff, Nat.reduceShiftRight, Nat.reduceAnd, Nat.reduceOr, Nat.reducePow, Nat.reduceBNe, Nat.reduceBEq]
      all_goals rfl
    · clear q5 q6 hle3 hE13 hE03 hE1 hn3 hn1
      rintro j st - ⟨tm, H', i, u, b, mv, rfl, hj, hi, hE, hle, o6, hm', ho, hb, t1, t5, t9, t20, t21⟩
      simp only [start, KC_normal, go_sem, Nat.reduceEqDiff, Nat.reduceAdd, reduceIte, reduceCtorEq, Nat.reduceLeDiff, Nat.reduceShiftRight, Nat.reduceAnd, Nat.reduceOr, Nat.reducePow, Nat.reduceBNe, Nat.reduceBEq, t20, t21]
      refine CN_split (fun hlt => ?_) (fun hge => ?_)
      · have hlt' : i < g.outs.length := by omega
        obtain ⟨a', n', c', rfl⟩ := hm'.form
        simp only [start, KC_normal, go_sem, Nat.reduceEqDiff, Nat.reduceAdd, reduceIte, reduceCtorEq, Nat.reduceLeDiff, Nat.reduceShiftRight, Nat.reduceAnd, Nat.reduceOr, Nat.reducePow, Nat.reduceBNe, Nat.reduceBEq, t1, t5, t9, hwd]
        refine f34_c (F := New H) o6 (by omega) hm' (show H.next ≤ H.next + 1 by omega) (by omega) fun H5 u5 b5 v5 hS5 hv5 ht5 ho5 hb5 => ?_
        have hS5' : Step (New H) H' (New H) H5 := Ex.Step.up hS5 (show H.next ≤ H.next + 1 by omega)
        have hE5 : Ext H H5 := ((New.ext hE).trans hS5').toExt fun _ h => h
        have e5 : takeW (w.drop (i * (dn + 1))) (dn + 1) = maskW w (dn + 1) i := take_mask w (dn + 1) i
        rw [e5] at ho5
        obtain ⟨hb5l, hb5g, hu5, -⟩ := ho5.at rfl
        have hsl5 := ho5.sl (F := noF) fun _ _ h => h
        rw [List.drop_drop] at ht5
        have ho' : Own1 H5 1 ((outsW w dn i).flatMap wordC) u (outsW w dn i).length b := ho.step hS5 fun j hj e => by
          have := hb j hj
          have e : j = H.next + 1 := e
          omega
        have hle5 := hS5.le
        subst hu5
        simp only [start, KC_normal, go_sem, Nat.reduceEqDiff, Nat.reduceAdd, reduceIte, reduceCtorEq, Nat.reduceLeDiff, Nat.reduceShiftRight, Nat.reduceAnd, Nat.reduceOr, Nat.reducePow, Nat.reduceBNe, Nat.reduceBEq]
        refine f38_c hsl5 (by rw [maskW_len]; omega) ?_
        have hb' : ∀ j, b = some j → H.next ≤ j := fun j hj => by have := hb j hj; omega
        obtain ⟨v7, H7, b7, he7, ho7, hS7, hb7⟩ := app1_wd ho' (by rw [outsW_len]; omega) (joinW (maskW w (dn + 1) i))
        simp only [start, KC_normal, go_sem, Nat.reduceEqDiff, Nat.reduceAdd, reduceIte, reduceCtorEq, Nat.reduceLeDiff, Nat.reduceShiftRight, Nat.reduceAnd, Nat.reduceOr, Nat.reducePow, Nat.reduceBNe, Nat.reduceBEq]
        simp only [wordC] at he7
        simp only [he7, start, KC_normal, go_sem, Nat.reduceEqDiff, Nat.reduceAdd, reduceIte, reduceCtorEq, Nat.reduceLeDiff, Nat.reduceShiftRight, Nat.reduceAnd, Nat.reduceOr, Nat.reducePow, Nat.reduceBNe, Nat.reduceBEq, t21]
        have hN7 : Step (New H) H5 (New H) H7 := (Step.refl (F := New H) (H := H5)).sub (G := New H) (fun j h => .inl h) (fun j h => .inl h) |>.trans
          ⟨(hS7 noF).le, fun j hj hf => (hS7 noF).get j hj (fun h => h.elim (fun h => h) (fun h => hf (hb' j h))), fun j hj => .inl hj⟩
        refine ⟨g.outs.length - (i + 1), by omega, _, H7, i + 1, v7, b7, v5, rfl, rfl, by omega, hE5.app hS7 hb', ?_, ?_, ?_, ?_, ?_, ?_, ?_, ?_, ?_, ?_⟩
        · have := (hS7 noF).le; omega
        · rw [(hS7 noF).get _ (by omega) (fun h => h.elim (fun h => h) (fun h => by have := hb _ h; omega))]; exact hv5
        · rw [Nat.succ_mul]; exact ht5.step hN7
        · rw [outsW_next]; exact ho7
        · intro j hj; have := hb7 j hj; omega
        all_goals simp only [start, KC_normal, go_sem, Nat.reduceEqDiff, Nat.reduceAdd, reduceIte, reduceCtorEq, Nat.reduceLeDiff, Nat.reduceShiftRight, Nat.reduceAnd, Nat.reduceOr, Nat.reducePow, Nat.reduceBNe, Nat.reduceBEq, t1, t5, t20]
        rw [wrap_i64 _ (by omega) (by omega)]; simp
      · have hi' : i = g.outs.length := by omega
        subst hi'
        simp only [start, KC_normal, go_sem, Nat.reduceEqDiff, Nat.reduceAdd, reduceIte, reduceCtorEq, Nat.reduceLeDiff, Nat.reduceShiftRight, Nat.reduceAnd, Nat.reduceOr, Nat.reducePow, Nat.reduceBNe, Nat.reduceBEq, t9]
        exact hQ H' u b hE ho fun j hj => by have := hb j hj; omega
  · rw [if_neg he] at hQ
    simp only [start, KC_normal, go_sem, Nat.reduceEqDiff, Nat.reduceAdd, reduceIte, reduceCtorEq, Nat.reduceLeDiff, Nat.reduceShiftRight, Nat.reduceAnd, Nat.reduceOr, Nat.reducePow, Nat.reduceBNe, Nat.reduceBEq, he]
    exact hQ H3 _ none hE03 (.nil rfl) fun j hj => by cases hj

theorem mkW_all (m : List Wd) (d i : Nat) : mkW m d i d = maskW m d i := rfl
theorem joinW_mk (m : List Wd) (d i k : Nat) : joinW (mkW m d i (k + 1)) = joinW (mkW m d i k) ^^^ atW m (i * d + k) := by
  rw [mkW_next]
  unfold joinW
  rw [List.foldl_append]; rfl

theorem f22_c {F : Fr} {H : Heap} {v vw : Value} {g : CircM} {d : Int} {w : List Wd} (hv : CircR F H v g) (hf : g.gates.length ≤ 150 ∧ g.outs.length ≤ 50) (hw : Sl noF H 1 vw w.length (w.flatMap wordC)) {Q : Ret → Heap → Prop}
    (hQ : ∀ H' u b, Ext H H' → Own1 H' 1 ((outsM g d w).flatMap wordC) u (outsM g d w).length b → (∀ j, b = some j → H.next ≤ j) → Q (.ret u) H') : C 22 #[v, .int .i64 d, vw] H Q := by
  have hv0 := hv.noF
  obtain ⟨v1, v2, rfl, hg1, hg2⟩ := hv.noF.ex
  obtain ⟨ag, cg, rfl, h3, h4, hgA⟩ := hg1.ex
  obtain ⟨au, cu, rfl, h5, h6, huA⟩ := hg2.ex
  refine SemC_fn TT.ok fn22 rfl rfl ?_
  simp only [Try.f22, start, KC_normal, go_sem, Nat.reduceEqDiff, Nat.reduceAdd, reduceIte, reduceCtorEq, Nat.reduceLeDiff, Nat.reduceShiftRight, Nat.reduceAnd, Nat.reduceOr, Nat.reducePow, Nat.reduceBNe, Nat.reduceBEq]
  generalize hX : (H.push _).push _ = H1
  obtain ⟨hE1, k5, k6, hn1⟩ := pre2 hX
  clear hX
  simp only [start, KC_normal, go_sem, Nat.reduceEqDiff, Nat.reduceAdd, reduceIte, reduceCtorEq, Nat.reduceLeDiff, Nat.reduceShiftRight, Nat.reduceAnd, Nat.reduceOr, Nat.reducePow, Nat.reduceBNe, Nat.reduceBEq, k5]
  refine f11_c (hv0.step hE1.step) hf fun H2 u hE2 hu => ?_
  obtain ⟨e1, e2, rfl, hs1, hs2⟩ := (hu noF (noF_Bd _)).ex
  obtain ⟨x1, x2, rfl⟩ := hs1.len
  obtain ⟨x3, x4, rfl⟩ := hs2.len
  simp only [start, KC_normal, go_sem, Nat.reduceEqDiff, Nat.reduceAdd, reduceIte, reduceCtorEq, Nat.reduceLeDiff, Nat.reduceShiftRight, Nat.reduceAnd, Nat.reduceOr, Nat.reducePow, Nat.reduceBNe, Nat.reduceBEq]
  generalize hX : (H2.push _).put _ _ = H3
  obtain ⟨hE3, -, hn3⟩ := new_put hX
  clear hX
  have hE13 := hE2.trans hE3
  have hE03 := hE1.trans hE13
  have q5 := (hE13.get _ (by omega)).trans k5
  have q6 := (hE13.get _ (by omega)).trans k6
  have hle3 := hE13.le
  unfold outsM at hQ
  by_cases he : (expandM g d).2 = 0
  · obtain ⟨hgo, hd, -⟩ := expand_0 he
    rw [if_pos he] at hQ
    obtain ⟨dn, rfl⟩ : ∃ n : Nat, d = n := ⟨d.toNat, by omega⟩
    simp only [Int.toNat_natCast] at hQ
    have ho3 : Own1 H3 1 ((outsW w dn 0).flatMap wordC) (.slice (some ⟨H.next + 1, 0, none⟩) 0 0) (outsW w dn 0).length (some (H.next + 1)) := .blk _ 0 (by omega) q6 rfl
    clear k5 k6 hs1 hs2 hu hE2 hE3
    have hwd : IntKind.i64.wrap ((dn : Int) + 1) = ((dn + 1 : Nat) : Int) := by rw [wrap_i64 _ (by omega) (by omega)]; rfl
    simp only [start, KC_normal, go_sem, Nat.reduceEqDiff, Nat.reduceAdd, reduceIte, reduceCtorEq, Nat.reduceLeDiff, Nat.reduceShiftRight, Nat.reduceAnd, Nat.reduceOr, Nat.reducePow, Nat.reduceBNe, Nat.reduceBEq, he]
    refine wp_loop TT.ok rfl rfl (fun j st => ∃ tm H' i u b, st = ⟨tm, 50, [], false, H'⟩ ∧ j = g.outs.length - i ∧ i ≤ g.outs.length ∧ Ext H H' ∧ H.next < H'.next ∧
      H'.get H.next = .cells true 4 [.slice ag g.gates.length cg, .int .i64 g.secrets, .int .i64 g.publics, .slice au g.outs.length cu] ∧ Own1 H' 1 ((outsW w dn i).flatMap wordC) u (outsW w dn i).length b ∧ (∀ j, b = some j → H.next < j) ∧
      tm.get 1 = some (.int .i64 (dn : Nat)) ∧ tm.get 2 = some vw ∧ tm.get 3 = some (.pointer (some ⟨H.next, 0, none⟩)) ∧ tm.get 7 = some u ∧ tm.get 10 = some (.int .i64 (i : Nat))) g.outs.length ?_ ?_
    · refine ⟨_, H3, 0, _, _, rfl, rfl, Nat.zero_le _, hE03, by omega, q5, ho3, (fun j hj => by cases hj; omega), ?_, ?_, ?_, ?_, ?_⟩
      all_goals simp only [start, KC_normal, go_sem, Nat.reduceEqDiff, Nat.reduceAdd, reduceIte, reduceCtorEq, Nat.reduceLeDiff, Nat.reduceShiftRight, Nat.reduceAnd, Nat.reduceOr, Nat.reducePow, Nat.reduceBNe, Nat.reduceBEq]
      all_goals rfl
    · clear q5 q6 ho3 hle3 hE13 hE03 hE1 hn3 hn1
      rintro j st - ⟨tm, H', i, u, b, rfl, hj, hi, hE, hle, o5, ho, hb, t1, t2, t3, t7, t10⟩
      simp only [start, KC_normal, go_sem, Nat.reduceEqDiff, Nat.reduceAdd, reduceIte, reduceCtorEq, Nat.reduceLeDiff, Nat.reduceShiftRight, Nat.reduceAnd, Nat.reduceOr, Nat.reducePow, Nat.reduceBNe, Nat.reduceBEq, t3, t10, o5]
      refine CN_split (fun hlt => ?_) (fun hge => ?_)
      · have hlt' : i < g.outs.length := by omega
        have hid : i * (dn + 1) ≤ 50 * 7 := Nat.mul_le_mul (by omega) (by omega)
        simp only [start, KC_normal, go_sem, Nat.reduceEqDiff, Nat.reduceAdd, reduceIte, reduceCtorEq, Nat.reduceLeDiff, Nat.reduceShiftRight, Nat.reduceAnd, Nat.reduceOr, Nat.reducePow, Nat.reduceBNe, Nat.reduceBEq]
        refine wp_loop TT.ok rfl rfl (fun j st => ∃ tm k, st = ⟨tm, 50, [], false, H'⟩ ∧ j = dn + 1 - k ∧ k ≤ dn + 1 ∧
          tm.get 1 = some (.int .i64 (dn : Nat)) ∧ tm.get 2 = some vw ∧ tm.get 3 = some (.pointer (some ⟨H.next, 0, none⟩)) ∧ tm.get 7 = some u ∧ tm.get 10 = some (.int .i64 (i : Nat)) ∧ tm.get 11 = some (.int .u32 ((joinW (mkW w (dn + 1) i k)).toNat : Int)) ∧ tm.get 12 = some (.int .i64 (k : Nat))) (dn + 1) ?_ ?_
        · refine ⟨_, 0, rfl, rfl, Nat.zero_le _, ?_, ?_, ?_, ?_, ?_, ?_, ?_⟩
          all_goals simp only [start, KC_normal, go_sem, Nat.reduceEqDiff, Nat.reduceAdd, reduceIte, reduceCtorEq, Nat.reduceLeDiff, Nat.reduceShiftRight, Nat.reduceAnd, Nat.reduceOr, Nat.reducePow, Nat.reduceBNe, Nat.reduceBEq, t1, t2, t3, t7, t10]
          all_goals rfl
        · rintro j st - ⟨tm, k, rfl, hj, hk, t1, t2, t3, t7, t10, t11, t12⟩
          simp only [start, KC_normal, go_sem, Nat.reduceEqDiff, Nat.reduceAdd, reduceIte, reduceCtorEq, Nat.reduceLeDiff, Nat.reduceShiftRight, Nat.reduceAnd, Nat.reduceOr, Nat.reducePow, Nat.reduceBNe, Nat.reduceBEq, t1, t12]
          refine CN_split (fun hlt => ?_) (fun hge => ?_)
          · have hwk : IntKind.i64.wrap (IntKind.i64.wrap ((i : Int) * ((dn + 1 : Nat) : Int)) + (k : Int)) = ((i * (dn + 1) + k : Nat) : Int) := by
              obtain ⟨q, hq⟩ : ∃ q, q = i * (dn + 1) := ⟨_, rfl⟩
              have e : (i : Int) * ((dn + 1 : Nat) : Int) = (q : Int) := by rw [hq, Int.natCast_mul]
              rw [e, ← hq, wrap_i64 (q : Int) (by omega) (by omega), wrap_i64 _ (by omega) (by omega)]; rfl
            simp only [start, KC_normal, go_sem, Nat.reduceEqDiff, Nat.reduceAdd, reduceIte, reduceCtorEq, Nat.reduceLeDiff, Nat.reduceShiftRight, Nat.reduceAnd, Nat.reduceOr, Nat.reducePow, Nat.reduceBNe, Nat.reduceBEq, t1, t2, t10, t11, t12, hwd, hwk]
            refine f36_c (hw.step hE.step) ?_
            simp only [start, KC_normal, go_sem, Nat.reduceEqDiff, Nat.reduceAdd, reduceIte, reduceCtorEq, Nat.reduceLeDiff, Nat.reduceShiftRight, Nat.reduceAnd, Nat.reduceOr, Nat.reducePow, Nat.reduceBNe, Nat.reduceBEq, i_xorw, t12]
            refine ⟨dn + 1 - (k + 1), by omega, _, k + 1, rfl, rfl, by omega, ?_, ?_, ?_, ?_, ?_, ?_, ?_⟩
            all_goals simp only [start, KC_normal, go_sem, Nat.reduceEqDiff, Nat.reduceAdd, reduceIte, reduceCtorEq, Nat.reduceLeDiff, Nat.reduceShiftRight, Nat.reduceAnd, Nat.reduceOr, Nat.reducePow, Nat.reduceBNe, Nat.reduceBEq, t1, t2, t3, t7, t10]
            · rw [joinW_mk]
            · rw [wrap_i64 _ (by omega) (by omega)]; simp
          · have hk' : k = dn + 1 := by omega
            subst hk'
            simp only [start, KC_normal, go_sem, Nat.reduceEqDiff, Nat.reduceAdd, reduceIte, reduceCtorEq, Nat.reduceLeDiff, Nat.reduceShiftRight, Nat.reduceAnd, Nat.reduceOr, Nat.reducePow, Nat.reduceBNe, Nat.reduceBEq, t7, t11]
            obtain ⟨v7, H7, b7, he7, ho7, hS7, hb7⟩ := app1_wd ho (by rw [outsW_len]; omega) (joinW (mkW w (dn + 1) i (dn + 1)))
            simp only [wordC] at he7
            simp only [he7, start, KC_normal, go_sem, Nat.reduceEqDiff, Nat.reduceAdd, reduceIte, reduceCtorEq, Nat.reduceLeDiff, Nat.reduceShiftRight, Nat.reduceAnd, Nat.reduceOr, Nat.reducePow, Nat.reduceBNe, Nat.reduceBEq, t10]
            refine ⟨g.outs.length - (i + 1), by omega, _, H7, i + 1, v7, b7, rfl, rfl, by omega, hE.app hS7 (fun j hj => by have := hb j hj; omega), ?_, ?_, ?_, ?_, ?_, ?_, ?_, ?_, ?_⟩
            · have := (hS7 noF).le; omega
            · rw [(hS7 noF).get _ (by omega) (fun h => h.elim (fun h => h) (fun h => by have := hb _ h; omega))]; exact o5
            · rw [outsW_next]; exact ho7
            · intro j hj; have := hb7 j hj; omega
            all_goals simp only [start, KC_normal, go_sem, Nat.reduceEqDiff, Nat.reduceAdd, reduceIte, reduceCtorEq, Nat.reduceLeDiff, Nat.reduceShiftRight, Nat.reduceAnd, Nat.reduceOr, Nat.reducePow, Nat.reduceBNe, Nat.reduceBEq, t1, t2, t3]
            rw [wrap_i64 _ (by omega) (by omega)]; simp
      · have hi' : i = g.outs.length := by omega
        subst hi'
        simp only [start, KC_normal, go_sem, Nat.reduceEqDiff, Nat.reduceAdd, reduceIte, reduceCtorEq, Nat.reduceLeDiff, Nat.reduceShiftRight, Nat.reduceAnd, Nat.reduceOr, Nat.reducePow, Nat.reduceBNe, Nat.reduceBEq, t7]
        exact hQ H' u b hE ho fun j hj => by have := hb j hj; omega
  · rw [if_neg he] at hQ
    simp only [start, KC_normal, go_sem, Nat.reduceEqDiff, Nat.reduceAdd, reduceIte, reduceCtorEq, Nat.reduceLeDiff, Nat.reduceShiftRight, Nat.reduceAnd, Nat.reduceOr, Nat.reducePow, Nat.reduceBNe, Nat.reduceBEq, he]
    exact hQ H3 _ (some (H.next + 1)) hE03 (.blk _ 0 (by omega) q6 rfl) fun j hj => by cases hj; omega
end Go.Ab.Ex
end
section
namespace Go.Ab.Ex
open Go.Proofs
set_option maxRecDepth 10000
set_option maxHeartbeats 1000000

theorem pw1 : (2 : Nat) ^ 1 = 2 := (rfl)
theorem pw6 : (2 : Nat) ^ 6 = 64 := (rfl)
theorem pw12 : (2 : Nat) ^ 12 = 4096 := (rfl)
theorem pw13 : (2 : Nat) ^ 13 = 8192 := (rfl)
theorem pw16 : (2 : Nat) ^ 16 = 65536 := (rfl)
theorem pw19 : (2 : Nat) ^ 19 = 524288 := (rfl)
theorem pw23 : (2 : Nat) ^ 23 = 8388608 := (rfl)
theorem pw24 : (2 : Nat) ^ 24 = 16777216 := (rfl)
theorem pw27 : (2 : Nat) ^ 27 = 134217728 := (rfl)
theorem ia4_0 (de : TypeDesc) (s : Nat) (z : Option Value) (ag : Bool) (fl : List (Nat × Nat)) (b o : Nat) : iaO2 (some ⟨de, 1, s, z, ag, fl⟩) b o 4 0 = some (.pointer (some ⟨b, o, none⟩)) := (rfl)
theorem ia4_1 (de : TypeDesc) (s : Nat) (z : Option Value) (ag : Bool) (fl : List (Nat × Nat)) (b o : Nat) : iaO2 (some ⟨de, 1, s, z, ag, fl⟩) b o 4 1 = some (.pointer (some ⟨b, o + 1, none⟩)) := (rfl)
theorem ia4_2 (de : TypeDesc) (s : Nat) (z : Option Value) (ag : Bool) (fl : List (Nat × Nat)) (b o : Nat) : iaO2 (some ⟨de, 1, s, z, ag, fl⟩) b o 4 2 = some (.pointer (some ⟨b, o + 2, none⟩)) := (rfl)
theorem ia4_3 (de : TypeDesc) (s : Nat) (z : Option Value) (ag : Bool) (fl : List (Nat × Nat)) (b o : Nat) : iaO2 (some ⟨de, 1, s, z, ag, fl⟩) b o 4 3 = some (.pointer (some ⟨b, o + 3, none⟩)) := (rfl)

theorem inputsM_len (g : CircM) (d : Int) (s p m : List Wd) : (inputsM g d s p m).length < 1000000 := by
  unfold inputsM
  split
  · rename_i he
    obtain ⟨hgo, hd, -⟩ := expand_0 he
    have h1 := hgo.c.s
    have h2 := hgo.c.p
    simp only [CircM.as] at h1 h2
    rw [List.length_append, secW_len, List.length_map, List.length_range]
    have : g.secrets.toNat * (d.toNat + 1) ≤ 1000 * 7 := Nat.mul_le_mul (by omega) (by omega)
    omega
  · simp
theorem outsM_len {g : CircM} {d : Int} {w : List Wd} (h : g.outs.length ≤ 50) : (outsM g d w).length < 1000000 := by
  unfold outsM
  split
  · rw [outsW_len]; omega
  · simp

theorem f5_c (h85 : GatC) {F : Fr} {H : Heap} {v a0 a1 a2 a3 : Value} {g : CircM} {d : Int} {l0 l1 l2 l3 : List Wd} (hv : CircR F H v g) (h0 : Sl noF H 1 a0 l0.length (l0.flatMap wordC)) (h1 : Sl noF H 1 a1 l1.length (l1.flatMap wordC)) (h2 : Sl noF H 1 a2 l2.length (l2.flatMap wordC)) (h3 : Sl noF H 1 a3 l3.length (l3.flatMap wordC))
    {Q : Ret → Heap → Prop} (hQ : ∀ H', Ext H H' → Q (.ret (.bool true)) H') : C 5 #[v, .int .i64 d, .agg #[a0, a1, a2, a3]] H Q := by
  have h78 : CirC := f78_c h85
  have hv0 := hv.noF
  obtain ⟨v1, v2, rfl, hg1, hg2⟩ := hv.noF.ex
  obtain ⟨ag, cg, rfl, h7, h8, hgA⟩ := hg1.ex
  obtain ⟨au, cu, rfl, h5, h6, huA⟩ := hg2.ex
  have k0 := h0
  have k1 := h1
  have k2 := h2
  have k3 := h3
  obtain ⟨x0, y0, rfl⟩ := h0.len
  obtain ⟨x1, y1, rfl⟩ := h1.len
  obtain ⟨x2, y2, rfl⟩ := h2.len
  obtain ⟨x3, y3, rfl⟩ := h3.len
  refine SemC_fn TT.ok fn5 rfl rfl ?_
  simp only [Try.f5, start, KC_normal, go_sem, Nat.reduceEqDiff, Nat.reduceAdd, reduceIte, reduceCtorEq, Nat.reduceLeDiff, Nat.reduceShiftRight, Nat.reduceAnd, Nat.reduceOr, Nat.reducePow, Nat.reduceBNe, Nat.reduceBEq]
  generalize hX : (H.push _).push _ = H1
  obtain ⟨hE1, q3, q5, hn1⟩ := pre2 hX
  clear hX
  simp only [start, KC_normal, go_sem, Nat.reduceEqDiff, Nat.reduceAdd, reduceIte, reduceCtorEq, Nat.reduceLeDiff, Nat.reduceShiftRight, Nat.reduceAnd, Nat.reduceOr, Nat.reducePow, Nat.reduceBNe, Nat.reduceBEq, q3]
  refine few_c (hv0.step hE1.step) fun b H2 hE2 hb => ?_
  have hE12 := hE1.trans hE2
  have p3 := (hE2.get _ (by omega)).trans q3
  have p5 := (hE2.get _ (by omega)).trans q5
  cases b with
  | false =>
    simp only [start, KC_normal, go_sem, Nat.reduceEqDiff, Nat.reduceAdd, reduceIte, reduceCtorEq, Nat.reduceLeDiff, Nat.reduceShiftRight, Nat.reduceAnd, Nat.reduceOr, Nat.reducePow, Nat.reduceBNe, Nat.reduceBEq]
    refine lives_c fun H3 hE3 => ?_
    simp only [start, KC_normal, go_sem, Nat.reduceEqDiff, Nat.reduceAdd, reduceIte, reduceCtorEq, Nat.reduceLeDiff, Nat.reduceShiftRight, Nat.reduceAnd, Nat.reduceOr, Nat.reducePow, Nat.reduceBNe, Nat.reduceBEq]
    exact hQ H3 (hE12.trans hE3)
  | true =>
    have hf := hb.1 rfl
    have hn2 : H.next + 2 ≤ H2.next := by have := hE2.le; omega
    simp only [start, KC_normal, go_sem, Nat.reduceEqDiff, Nat.reduceAdd, reduceIte, reduceCtorEq, Nat.reduceLeDiff, Nat.reduceShiftRight, Nat.reduceAnd, Nat.reduceOr, Nat.reducePow, Nat.reduceBNe, Nat.reduceBEq]
    refine DRg_x TT.ok [0, 1, 3, 0, 8, 31, 0, 64, 255, 0, 512, 2047, 4095, 8191, 16383, 32767] 16 65535 56 rfl (by decide +kernel) ?_
    simp only [start, KC_normal, go_sem, Nat.reduceEqDiff, Nat.reduceAdd, reduceIte, reduceCtorEq, Nat.reduceLeDiff, Nat.reduceShiftRight, Nat.reduceAnd, Nat.reduceOr, Nat.reducePow, Nat.reduceBNe, Nat.reduceBEq, p5, ia4_0]
    have hs2 := hE12.skip 16
    refine f17_c (k0.step hs2.step) fun H3 u0 b0 hE3 ho0 hb0 => ?_
    have hE13 := hs2.trans hE3
    have p53 : H3.get _ = _ := (hE3.get (H.next + 1) (by simp only [Heap.next_skip]; omega)).trans p5
    simp only [start, KC_normal, go_sem, Nat.reduceEqDiff, Nat.reduceAdd, reduceIte, reduceCtorEq, Nat.reduceLeDiff, Nat.reduceShiftRight, Nat.reduceAnd, Nat.reduceOr, Nat.reducePow, Nat.reduceBNe, Nat.reduceBEq, p5, p53, ia4_0, ia4_1]
    refine f17_c (k1.step hE13.step) fun H4 u1 b1 hE4 ho1 hb1 => ?_
    have hE14 := hE13.trans hE4
    have p54 : H4.get _ = _ := (hE4.get (H.next + 1) (by have := hE3.le; simp only [Heap.next_skip] at this; omega)).trans p53
    simp only [start, KC_normal, go_sem, Nat.reduceEqDiff, Nat.reduceAdd, reduceIte, reduceCtorEq, Nat.reduceLeDiff, Nat.reduceShiftRight, Nat.reduceAnd, Nat.reduceOr, Nat.reducePow, Nat.reduceBNe, Nat.reduceBEq, p5, p53, p54, ia4_0, ia4_1, ia4_2]
    refine f17_c (k2.step hE14.step) fun H5 u2 b2 hE5 ho2 hb2 => ?_
    have hE15 := hE14.trans hE5
    have p55 : H5.get _ = _ := (hE5.get (H.next + 1) (by have := hE3.le; have := hE4.le; simp only [Heap.next_skip] at *; omega)).trans p54
    simp only [start, KC_normal, go_sem, Nat.reduceEqDiff, Nat.reduceAdd, reduceIte, reduceCtorEq, Nat.reduceLeDiff, Nat.reduceShiftRight, Nat.reduceAnd, Nat.reduceOr, Nat.reducePow, Nat.reduceBNe, Nat.reduceBEq, p5, p53, p54, p55, ia4_0, ia4_1, ia4_2, ia4_3]
    refine f17_c (k3.step hE15.step) fun H6 u3 b3 hE6 ho3 hb3 => ?_
    have hE16 := hE15.trans hE6
    have p56 : H6.get _ = _ := (hE6.get (H.next + 1) (by have := hE3.le; have := hE4.le; have := hE5.le; simp only [Heap.next_skip] at *; omega)).trans p55
    simp only [start, KC_normal, go_sem, Nat.reduceEqDiff, Nat.reduceAdd, reduceIte, reduceCtorEq, Nat.reduceLeDiff, Nat.reduceShiftRight, Nat.reduceAnd, Nat.reduceOr, Nat.reducePow, Nat.reduceBNe, Nat.reduceBEq, p5, p53, p54, p55, p56, ia4_0, ia4_1, ia4_2, ia4_3]
    have n3 := hE3.le
    have n4 := hE4.le
    have n5 := hE5.le
    have n6 := hE6.le
    simp only [Heap.next_skip] at n3
    have o3 : H6.get H.next = _ := (((hE3.trans (hE4.trans (hE5.trans hE6))).get H.next (by simp only [Heap.next_skip]; omega)).trans p3)
    have z0 := ho0.ext (hE4.trans (hE5.trans hE6))
    have z1 := ho1.ext (hE5.trans hE6)
    have z2 := ho2.ext hE6
    have z3 := ho3
    generalize hT : Tr.set _ _ _ _ = tm2
    obtain ⟨f1, f3, f7, f8, f9, f10⟩ : tm2.get 1 = some (.int .i64 d) ∧ tm2.get 3 = some (.pointer (some ⟨H.next, 0, none⟩)) ∧ tm2.get 7 = some u0 ∧ tm2.get 8 = some u1 ∧ tm2.get 9 = some u2 ∧ tm2.get 10 = some u3 := by
      subst hT
      refine ⟨?_, ?_, ?_, ?_, ?_, ?_⟩ <;> simp only [start, KC_normal, go_sem, Nat.reduceEqDiff, Nat.reduceAdd, reduceIte, reduceCtorEq, Nat.reduceLeDiff, Nat.reduceShiftRight, Nat.reduceAnd, Nat.reduceOr, Nat.reducePow, Nat.reduceBNe, Nat.reduceBEq]
    clear hT
    refine DRg_x TT.ok [0, 1, 0, 0, 0, 0, 63, 0, 0, 0, 0, 0, 4095, 8191, 16383, 32767, 65535, 32767, 32767, 524287, 32767, 32767, 32767, 8388607, 16777215, 33554431, 67108863, 134217727, 268435455, 536870911] 30 1073741823 56 rfl (by decide +kernel) ?_
    simp only [start, KC_normal, go_sem, Nat.reduceEqDiff, Nat.reduceAdd, reduceIte, reduceCtorEq, Nat.reduceLeDiff, Nat.reduceShiftRight, Nat.reduceAnd, Nat.reduceOr, Nat.reduceBNe, Nat.reduceBEq, pw1, pw6, pw12, pw13, pw16, pw19, pw23, pw24, pw27, o3, f1, f3, f7, f8, f9, f10]
    have hs6 := hE16.skip 30
    have y0' := z0.ext ((Ext.refl H6).skip 30)
    have y1' := z1.ext ((Ext.refl H6).skip 30)
    have y2' := z2.ext ((Ext.refl H6).skip 30)
    have y3' := z3.ext ((Ext.refl H6).skip 30)
    refine f10_c (hv0.step hs6.step) (by omega) fun H7 u hE7 hu => ?_
    have hE17 := hs6.trans hE7
    have o37 : H7.get H.next = _ := (hE7.get H.next (by simp only [Heap.next_skip]; omega)).trans o3
    have n7 := hE7.le
    simp only [Heap.next_skip] at n7
    have tkn : ∀ {H' : Heap} {v : Value} {l : List Wd} {b : Option Nat}, Own1 H' 1 (l.flatMap wordC) v l.length b → Tk noF H' v l := fun h => Ex.Own1.tk h fun _ _ h => h
    have sln : ∀ {H' : Heap} {v : Value} {l : List Wd} {b : Option Nat}, Own1 H' 1 (l.flatMap wordC) v l.length b → Sl noF H' 1 v l.length (l.flatMap wordC) := fun h => h.sl fun _ _ h => h
    simp only [start, KC_normal, go_sem, Nat.reduceEqDiff, Nat.reduceAdd, reduceIte, reduceCtorEq, Nat.reduceLeDiff, Nat.reduceShiftRight, Nat.reduceAnd, Nat.reduceOr, Nat.reduceBNe, Nat.reduceBEq, pw1, pw6, pw12, pw13, pw16, pw19, pw23, pw24, pw27, f1, f3, f7, f8, f9, f10, o3, o37]
    refine f19_c h78 (hu.r (noF_Bd _)) hf (tkn (y0'.ext hE7)) (tkn (y1'.ext hE7)) (tkn (y2'.ext hE7)) fun H8 u8 b8 hE8 ho8 hb8 => ?_
    have hE18 := hE17.trans hE8
    have hE78 := hE7.trans hE8
    have o38 : H8.get H.next = _ := (hE8.get H.next (by omega)).trans o37
    have n8 := hE8.le
    simp only [start, KC_normal, go_sem, Nat.reduceEqDiff, Nat.reduceAdd, reduceIte, reduceCtorEq, Nat.reduceLeDiff, Nat.reduceShiftRight, Nat.reduceAnd, Nat.reduceOr, Nat.reduceBNe, Nat.reduceBEq, pw1, pw6, pw12, pw13, pw16, pw19, pw23, pw24, pw27, f1, f3, f7, f8, f9, f10, o3, o37, o38]
    refine f20_c (hv0.step hE18.step) hf (sln (y0'.ext hE78)) (sln (y1'.ext hE78)) (sln (y2'.ext hE78)) fun H9 u9 b9 hE9 ho9 hb9 => ?_
    have hE19 := hE18.trans hE9
    have hE79 := hE78.trans hE9
    have o39 : H9.get H.next = _ := (hE9.get H.next (by omega)).trans o38
    have n9 := hE9.le
    have hil : (inputsM g d (l0.take 5000) (l1.take 5000) (l2.take 5000)).length < 1000000 := inputsM_len _ _ _ _ _
    simp only [start, KC_normal, go_sem, Nat.reduceEqDiff, Nat.reduceAdd, reduceIte, reduceCtorEq, Nat.reduceLeDiff, Nat.reduceShiftRight, Nat.reduceAnd, Nat.reduceOr, Nat.reduceBNe, Nat.reduceBEq, pw1, pw6, pw12, pw13, pw16, pw19, pw23, pw24, pw27, f1, f3, f7, f8, f9, f10, o3, o37, o38, o39]
    refine f18_c (sln (ho8.ext hE9)) (sln ho9) hil fun r HA hEA hr => ?_
    have hE1A := hE19.trans hEA
    have hE7A := hE79.trans hEA
    have o3A : HA.get H.next = _ := (hEA.get H.next (by omega)).trans o39
    have nA := hEA.le
    obtain rfl := hr.2 rfl
    generalize hTtm3 : Tr.set _ _ _ _ = tm3
    obtain ⟨tm31, tm33, tm310⟩ : tm3.get 1 = some (.int .i64 d) ∧ tm3.get 3 = some (.pointer (some ⟨H.next, 0, none⟩)) ∧ tm3.get 10 = some u3 := by
      subst hTtm3
      refine ⟨?_, ?_, ?_⟩ <;> simp only [start, KC_normal, go_sem, Nat.reduceEqDiff, Nat.reduceAdd, reduceIte, reduceCtorEq, Nat.reduceLeDiff, Nat.reduceShiftRight, Nat.reduceAnd, Nat.reduceOr, Nat.reduceBNe, Nat.reduceBEq, pw1, pw6, pw12, pw13, pw16, pw19, pw23, pw24, pw27, f1, f3, f10]
    clear hTtm3
    simp only [start, KC_normal, go_sem, Nat.reduceEqDiff, Nat.reduceAdd, reduceIte, reduceCtorEq, Nat.reduceLeDiff, Nat.reduceShiftRight, Nat.reduceAnd, Nat.reduceOr, Nat.reduceBNe, Nat.reduceBEq, pw1, pw6, pw12, pw13, pw16, pw19, pw23, pw24, pw27, tm31, tm33, tm310, f1, f3, f7, f8, f9, f10, o3, o37, o38, o39, o3A]
    refine f10_c (hv0.step hE1A.step) (by omega) fun HB uB hEB huB => ?_
    have hE1B := hE1A.trans hEB
    have hE7B := hE7A.trans hEB
    have o3B : HB.get H.next = _ := (hEB.get H.next (by omega)).trans o3A
    have nB := hEB.le
    simp only [start, KC_normal, go_sem, Nat.reduceEqDiff, Nat.reduceAdd, reduceIte, reduceCtorEq, Nat.reduceLeDiff, Nat.reduceShiftRight, Nat.reduceAnd, Nat.reduceOr, Nat.reduceBNe, Nat.reduceBEq, pw1, pw6, pw12, pw13, pw16, pw19, pw23, pw24, pw27, tm31, tm33, tm310, f1, f3, f7, f8, f9, f10, o3, o37, o38, o39, o3A, o3B]
    refine f21_c h78 (huB.r (noF_Bd _)) hf (tkn (y3'.ext hE7B)) fun HC uC bC hEC hoC hbC => ?_
    have hE1C := hE1B.trans hEC
    have hE7C := hE7B.trans hEC
    have o3C : HC.get H.next = _ := (hEC.get H.next (by omega)).trans o3B
    have nC := hEC.le
    generalize hTtm4 : Tr.set _ _ _ _ = tm4
    obtain ⟨tm41, tm43, tm410, tm441⟩ : tm4.get 1 = some (.int .i64 d) ∧ tm4.get 3 = some (.pointer (some ⟨H.next, 0, none⟩)) ∧ tm4.get 10 = some u3 ∧ tm4.get 41 = some (.bool true) := by
      subst hTtm4
      refine ⟨?_, ?_, ?_, ?_⟩ <;> simp only [start, KC_normal, go_sem, Nat.reduceEqDiff, Nat.reduceAdd, reduceIte, reduceCtorEq, Nat.reduceLeDiff, Nat.reduceShiftRight, Nat.reduceAnd, Nat.reduceOr, Nat.reduceBNe, Nat.reduceBEq, pw1, pw6, pw12, pw13, pw16, pw19, pw23, pw24, pw27, tm31, tm33, tm310]
    clear hTtm4
    simp only [start, KC_normal, go_sem, Nat.reduceEqDiff, Nat.reduceAdd, reduceIte, reduceCtorEq, Nat.reduceLeDiff, Nat.reduceShiftRight, Nat.reduceAnd, Nat.reduceOr, Nat.reduceBNe, Nat.reduceBEq, pw1, pw6, pw12, pw13, pw16, pw19, pw23, pw24, pw27, tm31, tm33, tm310, tm41, tm43, tm410, tm441, f1, f3, f7, f8, f9, f10, o3, o37, o38, o39, o3A, o3B, o3C]
    refine f22_c (hv0.step hE1C.step) hf (sln (y3'.ext hE7C)) fun HD uD bD hED hoD hbD => ?_
    have hE1D := hE1C.trans hED
    have o3D : HD.get H.next = _ := (hED.get H.next (by omega)).trans o3C
    have nD := hED.le
    have hol : (outsM g d (l3.take 5000)).length < 1000000 := outsM_len hf.2
    simp only [start, KC_normal, go_sem, Nat.reduceEqDiff, Nat.reduceAdd, reduceIte, reduceCtorEq, Nat.reduceLeDiff, Nat.reduceShiftRight, Nat.reduceAnd, Nat.reduceOr, Nat.reduceBNe, Nat.reduceBEq, pw1, pw6, pw12, pw13, pw16, pw19, pw23, pw24, pw27, tm31, tm33, tm310, tm41, tm43, tm410, tm441, f1, f3, f7, f8, f9, f10, o3, o37, o38, o39, o3A, o3B, o3C, o3D]
    refine f18_c (sln (hoC.ext hED)) (sln hoD) hol fun r HE hEE hr => ?_
    have hE1E := hE1D.trans hEE
    have o3E : HE.get H.next = _ := (hEE.get H.next (by omega)).trans o3D
    obtain rfl := hr.2 rfl
    simp only [start, KC_normal, go_sem, Nat.reduceEqDiff, Nat.reduceAdd, reduceIte, reduceCtorEq, Nat.reduceLeDiff, Nat.reduceShiftRight, Nat.reduceAnd, Nat.reduceOr, Nat.reduceBNe, Nat.reduceBEq, pw1, pw6, pw12, pw13, pw16, pw19, pw23, pw24, pw27, tm31, tm33, tm310, tm41, tm43, tm410, tm441, f1, f3, f7, f8, f9, f10, o3, o37, o38, o39, o3A, o3B, o3C, o3D, o3E]
    refine lives_c fun HF hEF => ?_
    have o3F : HF.get H.next = _ := (hEF.get H.next (by have := hEE.le; omega)).trans o3E
    simp only [start, KC_normal, go_sem, Nat.reduceEqDiff, Nat.reduceAdd, reduceIte, reduceCtorEq, Nat.reduceLeDiff, Nat.reduceShiftRight, Nat.reduceAnd, Nat.reduceOr, Nat.reduceBNe, Nat.reduceBEq, pw1, pw6, pw12, pw13, pw16, pw19, pw23, pw24, pw27, tm31, tm33, tm310, tm41, tm43, tm410, tm441, f1, f3, f7, f8, f9, f10, o3, o37, o38, o39, o3A, o3B, o3C, o3D, o3E, o3F]
    exact hQ HF (hE1E.trans hEF)
end Go.Ab.Ex
end
