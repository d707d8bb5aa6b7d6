/- Parts of the proof, joined by program: Wire: the rows of the laws WireRandoms and WireWords, from the laws of the abstract machine; Wire: how many random words the model takes; Wire: the document's count; Wire: the program's count; Wire: how many random words there are. -/
import Derived.Test.YtmodeilippcbnaaM06
import Derived.Test.YtmodeilippcbnaaM18
import Derived.Test.YtmodeilippcbnaaM32
set_option linter.all false
section
namespace Go.Ab.Gl
open Go.Ab Go.Ab.Ex
open Go.Proofs
open Go.ChangeShapes Go.WideShapes Go.RowKit
open Go.Proofs.Ytmodeilippcbnaa
set_option maxRecDepth 100000

theorem randoms_of (law : ∀ {F : Fr} {H : Heap} {v : Value} {g : CircM} {d : Int}, CircR F H v g → ∀ {Q : Ret → Heap → Prop}, (∀ H', Ext H H' → Q (.ret (.bool true)) H') → C 4 #[v, .int .i64 d] H Q) : Rows.WireRandomsSaid :=
  OpenClaim.holds_of_wide 4 Try.f4 rfl rfl rfl rfl rfl rfl rfl ⟨rfl, rfl, rfl, rfl, rfl⟩ rfl rfl rfl rfl rfl (by kernel_rfl) fn4 (by kernel_rfl)
    (of_decide_eq_true (by kernel_rfl)) (wrap_ Try.f4 (by decide +kernel))
    (fun os started H enc _ => returnsInHanded_of_change (C := Try.checked) (s := Rows.wireRandomsSpec) (conds := []) (apart := false) own_ started (by kernel_rfl) fn4
      (ChangeSpec.witness6 (enc := enc) (C := Try.checked) false ⟨#[], #[.agg #[.slice none 0 0, .int .i64 0, .int .i64 0, .slice none 0 0], .int .i64 0], []⟩ 8 (by kernel_rfl) (by kernel_rfl) (by kernel_rfl) (by kernel_rfl))
      (fun _ _ _ _ _ _ hval hW _ _ => circ_law law rfl rfl rfl (fun _ _ => rfl) hval hW))
end Go.Ab.Gl
end
section
namespace Go.Ab.Ex
open Go.Proofs
set_option maxRecDepth 10000

def isAnd (g : CircM) (x : GateM) : Bool := decide (x.K = 3) && (g.sec x.A && g.sec x.B)
def isRef (x : GateM) : Bool := decide (x.K = 12)
theorem randoms_append (l m : List OpM) : randoms (l ++ m) = randoms l + randoms m := by simp [randoms, List.countP_append]
theorem randoms_none {l : List OpM} (h : ∀ o ∈ l, o.K ≠ 0) : randoms l = 0 := by
  unfold randoms
  rw [List.countP_eq_zero]
  intro o ho
  simpa using h o ho

set_option maxRecDepth 100000 in
theorem gad_count : ((List.range 7).all fun d => d == 0 || decide (randoms (gadOps true d) = d * (d + 1) / 2) && decide (randoms (gadOps false d) = d * (d + 1) / 2)) = true := by decide +kernel
theorem gopM_K (inp : List Int) (n : Int) (o : OpM) : (gopM inp n o).K = o.K := by unfold gopM; split <;> rfl
theorem randoms_gadget {and : Bool} {d : Nat} (hd : 1 ≤ d ∧ d ≤ 6) (inp : List Int) (n : Int) : randoms (gadgetM and d inp n).1 = d * (d + 1) / 2 := by
  have h0 := gad_count
  rw [List.all_eq_true] at h0
  have h := h0 d (by simp; omega)
  simp only [Bool.or_eq_true, beq_iff_eq, Bool.and_eq_true, decide_eq_true_eq] at h
  have e : randoms (gadgetM and d inp n).1 = randoms (gadOps and d) := by
    simp only [gadgetM, randoms, List.countP_map]
    congr 1
    funext o
    simp only [Function.comp, gopM_K]
  rw [e]
  rcases h with h | h
  · omega
  · cases and
    · exact h.2
    · exact h.1
theorem elOps_K {kp : Bool} {k : Int} {N : BitVec 32} {a : List Int} {bs : Nat → Int} {o : OpM} (h : o ∈ elOps kp k N a bs) : o.K = k := by
  unfold elOps at h
  rw [List.mem_mapIdx] at h
  obtain ⟨i, hi, rfl⟩ := h
  rfl
theorem stepOf_ne (k : Int) : stepOf k ≠ 0 := by
  unfold stepOf
  repeat' split
  all_goals omega
theorem randoms_gate {g : CircM} {d : Nat} (hd : 1 ≤ d ∧ d ≤ 6) (rows : List (List Int)) (n : Int) (x : GateM) : randoms (gateM g d rows n x).1 = ((if isRef x then 1 else 0) + (if isAnd g x then 1 else 0)) * (d * (d + 1) / 2) := by
  unfold gateM isRef isAnd
  by_cases h1 : x.K = 1
  · rw [if_pos h1]; simp [h1, randoms]
  rw [if_neg h1]
  by_cases h2 : x.K = 2
  · rw [if_pos h2]; simp [h2, randoms]
  rw [if_neg h2]
  by_cases h0 : x.K = 0
  · rw [if_pos h0]; simp [h0, randoms]
  rw [if_neg h0]
  by_cases h12 : x.K = 12
  · rw [if_pos h12, randoms_gadget hd]; simp [h12]
  rw [if_neg h12]
  by_cases h3 : x.K = 3 ∧ g.sec x.A = true ∧ g.sec x.B = true
  · rw [if_pos h3, randoms_gadget hd]; simp [h3.1, h3.2.1, h3.2.2]
  rw [if_neg h3]
  have hz : (decide (x.K = 3) && (g.sec x.A && g.sec x.B)) = false := by
    cases hh : (decide (x.K = 3) && (g.sec x.A && g.sec x.B)) with
    | false => rfl
    | true => simp only [Bool.and_eq_true, decide_eq_true_eq] at hh; exact absurd hh h3
  rw [hz]
  simp only [h12, decide_false, Bool.false_eq_true, if_false, Nat.add_zero, Nat.zero_mul]
  split
  · exact randoms_none fun o ho => by rw [elOps_K ho]; exact stepOf_ne _
  · exact randoms_none fun o ho => by rw [elOps_K ho]; exact stepOf_ne _
def cntG (g : CircM) (l : List GateM) : Nat := l.countP isRef + l.countP (isAnd g)
theorem randoms_run {g : CircM} {d : Nat} (hd : 1 ≤ d ∧ d ≤ 6) (inn : Int) (l : List GateM) : ∀ s : List OpM × List (List Int), randoms (l.foldl (stepG g d inn) s).1 = randoms s.1 + cntG g l * (d * (d + 1) / 2) := by
  induction l with
  | nil => intro s; simp [cntG]
  | cons x l ih =>
    intro s
    rw [List.foldl_cons, ih]
    simp only [stepG, randoms_append, randoms_gate hd, cntG, List.countP_cons]
    rw [show l.countP isRef + (if isRef x = true then 1 else 0) + (l.countP (isAnd g) + (if isAnd g x = true then 1 else 0)) = ((if isRef x = true then 1 else 0) + (if isAnd g x = true then 1 else 0)) + (l.countP isRef + l.countP (isAnd g)) by omega]
    simp only [Nat.add_mul, Nat.add_assoc]
theorem randoms_outs (d : Nat) (inn : Int) (rows : List (List Int)) (l : List OutM) : ∀ s : List OpM × List Int, randoms (l.foldl (stepO d inn rows) s).1 = randoms s.1 := by
  induction l with
  | nil => intro s; rfl
  | cons o l ih =>
    intro s
    rw [List.foldl_cons, ih]
    simp only [stepO, randoms_append]
    rw [randoms_none (l := outOps d (rowOf rows o.At))]
    · rfl
    · intro y hy
      simp only [outOps, List.mem_map] at hy
      obtain ⟨k, -, rfl⟩ := hy
      split <;> simp
theorem randoms_code {g : CircM} {d : Nat} (hd : 1 ≤ d ∧ d ≤ 6) : randoms (codeM g d).1 = cntG g g.gates * (d * (d + 1) / 2) := by
  unfold codeM runO
  rw [randoms_outs]
  unfold runG
  rw [randoms_run hd]
  simp [randoms]
end Go.Ab.Ex
end
section
namespace Go.Ab.Ex
open Go.Proofs
set_option maxRecDepth 10000
set_option maxHeartbeats 1000000

theorem cnt_take {p : GateM → Bool} {l : List GateM} {i : Nat} {x : GateM} (h : l[i]? = some x) : (l.take (i + 1)).countP p = (l.take i).countP p + (if p x then 1 else 0) := by
  rw [List.take_add_one, h]
  simp [List.countP_append, List.countP_cons]
theorem cnt_le {p : GateM → Bool} {l : List GateM} {i : Nat} : (l.take i).countP p ≤ l.length := Nat.le_trans (List.countP_le_length) (by rw [List.length_take]; omega)
open Classical in
noncomputable def cA (g : CircM) : Nat := if GraphOk g then g.gates.countP (isAnd g) else 0
open Classical in
noncomputable def cF (g : CircM) : Nat := if GraphOk g then g.gates.countP isRef else 0
theorem cA_ok {g : CircM} (h : GraphOk g) : cA g = g.gates.countP (isAnd g) := if_pos h
theorem cF_ok {g : CircM} (h : GraphOk g) : cF g = g.gates.countP isRef := if_pos h
theorem cA_no {g : CircM} (h : ¬ GraphOk g) : cA g = 0 := if_neg h
theorem cF_no {g : CircM} (h : ¬ GraphOk g) : cF g = 0 := if_neg h

theorem f14_c {F : Fr} {H : Heap} {v : Value} {g : CircM} (hv : CircR F H v g) (hl : g.gates.length < 1000000 ∧ g.outs.length < 1000000) {Q : Ret → Heap → Prop}
    (hQ : ∀ H' (s : Int), Ext H H' → Q (.ret (.tuple #[.int .i64 (cA g : Nat), .int .i64 (cF g : Nat), .int .i64 s])) H') : C 14 #[v] H Q := by
  have hv0 := hv.noF
  obtain ⟨v1, v2, rfl, hg1, hg2⟩ := hv.noF.ex
  obtain ⟨ag, cg, rfl, h3, h4, hgA⟩ := hg1.ex
  obtain ⟨au, cu, rfl, h5, h6, huA⟩ := hg2.ex
  refine SemC_fn TT.ok fn14 rfl rfl ?_
  simp only [Try.f14, start, KC_normal, go_sem, Nat.reduceEqDiff, Nat.reduceAdd, reduceIte, reduceCtorEq, Nat.reduceLeDiff, Nat.reduceShiftRight, Nat.reduceAnd, Nat.reduceOr, Nat.reducePow, Nat.reduceBNe, Nat.reduceBEq]
  generalize hX : H.push _ = H1
  obtain ⟨hE1, h7, hn1⟩ := new_push hX
  clear hX
  refine f23_c (hv0.step hE1.step) hl fun r H2 hE2 hr => ?_
  have h72 := (hE2.get _ (by omega)).trans h7
  have hE12 := hE1.trans hE2
  cases r with
  | false =>
    have hno : ¬ GraphOk g := fun h => by have := hr.2 h; cases this
    simp only [start, KC_normal, go_sem, Nat.reduceEqDiff, Nat.reduceAdd, reduceIte, reduceCtorEq, Nat.reduceLeDiff, Nat.reduceShiftRight, Nat.reduceAnd, Nat.reduceOr, Nat.reducePow, Nat.reduceBNe, Nat.reduceBEq]
    have := hQ H2 0 hE12
    rw [cA_no hno, cF_no hno] at this
    exact this
  | true =>
    have hgo := hr.1 rfl
    rw [cA_ok hgo, cF_ok hgo] at hQ
    simp only [start, KC_normal, go_sem, Nat.reduceEqDiff, Nat.reduceAdd, reduceIte, reduceCtorEq, Nat.reduceLeDiff, Nat.reduceShiftRight, Nat.reduceAnd, Nat.reduceOr, Nat.reducePow, Nat.reduceBNe, Nat.reduceBEq]
    refine wp_loop TT.ok rfl rfl (fun j s => ∃ tm H' i, ∃ u : Int, s = ⟨tm, 61, [], false, H'⟩ ∧ j = g.gates.length - i ∧ i ≤ g.gates.length ∧ Ext H H' ∧
      Kp noF H' H.next (.cells true 4 [.slice ag g.gates.length cg, .int .i64 g.secrets, .int .i64 g.publics, .slice au g.outs.length cu]) ∧
      tm.get 1 = some (.pointer (some ⟨H.next, 0, none⟩)) ∧ tm.get 5 = some (.int .i64 ((g.gates.take i).countP (isAnd g) : Nat)) ∧ tm.get 6 = some (.int .i64 ((g.gates.take i).countP isRef : Nat)) ∧ tm.get 7 = some (.int .i64 u) ∧ tm.get 8 = some (.int .i64 (i : Nat))) g.gates.length ?_ ?_
    · refine ⟨_, H2, 0, 0, rfl, rfl, Nat.zero_le _, hE12, ⟨by have := hE2.le; omega, noF_not _, h72⟩, ?_, ?_, ?_, ?_, ?_⟩
      all_goals simp only [start, KC_normal, go_sem, Nat.reduceEqDiff, Nat.reduceAdd, reduceIte, reduceCtorEq, Nat.reduceLeDiff, Nat.reduceShiftRight, Nat.reduceAnd, Nat.reduceOr, Nat.reducePow, Nat.reduceBNe, Nat.reduceBEq]
      all_goals rfl
    · clear h72 h7 hE12 hE2 hE1
      rintro j s - ⟨tm, H', i, u, rfl, hj, hi, hE, hk, t1, t5, t6, t7, t8⟩
      simp only [start, KC_normal, go_sem, Nat.reduceEqDiff, Nat.reduceAdd, reduceIte, reduceCtorEq, Nat.reduceLeDiff, Nat.reduceShiftRight, Nat.reduceAnd, Nat.reduceOr, Nat.reducePow, Nat.reduceBNe, Nat.reduceBEq, t1, t8, hk.get]
      refine CN_split (fun hlt => ?_) (fun hge => ?_)
      · have hlt' : i < g.gates.length := by omega
        obtain ⟨x, hx⟩ : ∃ x, g.gates[i]? = some x := ⟨_, List.getElem?_eq_getElem hlt'⟩
        obtain ⟨bg, og, owg, Cg, rfl, hkg, hCg⟩ := hgA.all GateM.len (by omega)
        have hseg := (hCg i x hx).2
        simp only [GateM.c] at hseg
        have hkg' := hkg.step hE.step
        have e2 : IntKind.i64.wrap ((i : Int) + 1) = ((i + 1 : Nat) : Int) := by rw [wrap_i64 _ (by omega) (by omega)]; simp
        have hcA := cnt_take (p := isAnd g) hx
        have hcF := cnt_take (p := isRef) hx
        have lA := cnt_le (p := isAnd g) (l := g.gates) (i := i)
        have lF := cnt_le (p := isRef) (l := g.gates) (i := i)
        simp only [start, KC_normal, go_sem, Nat.reduceEqDiff, Nat.reduceAdd, reduceIte, reduceCtorEq, Nat.reduceLeDiff, Nat.reduceShiftRight, Nat.reduceAnd, Nat.reduceOr, Nat.reducePow, Nat.reduceBNe, Nat.reduceBEq, t1, t8, hk.get, ia_in _ _ _ _ _ hlt', hkg'.get, hseg]
        generalize hX : (H'.push _).put _ _ = H5
        obtain ⟨hE5, hbx, hn5⟩ := new_put hX
        clear hX
        have hk5 := hk.step hE5.step
        have hkg5 := hkg'.step hE5.step
        have hgk := graph_gate hgo hx
        by_cases h12 : x.K = 12
        · have q1 : isAnd g x = false := by simp [isAnd, h12]
          have q2 : isRef x = true := by simp [isRef, h12]
          rw [q1] at hcA
          rw [q2] at hcF
          simp only [start, KC_normal, go_sem, Nat.reduceEqDiff, Nat.reduceAdd, reduceIte, reduceCtorEq, Nat.reduceLeDiff, Nat.reduceShiftRight, Nat.reduceAnd, Nat.reduceOr, Nat.reducePow, Nat.reduceBNe, Nat.reduceBEq, hbx, h12, t5, t6, t7, t8]
          refine ⟨g.gates.length - (i + 1), by omega, _, H5, i + 1, u, rfl, rfl, by omega, hE.trans hE5, hk5, ?_, ?_, ?_, ?_, ?_⟩
          all_goals simp only [start, KC_normal, go_sem, Nat.reduceEqDiff, Nat.reduceAdd, reduceIte, reduceCtorEq, Nat.reduceLeDiff, Nat.reduceShiftRight, Nat.reduceAnd, Nat.reduceOr, Nat.reducePow, Nat.reduceBNe, Nat.reduceBEq, t1, t5, t6, t7, t8]
          · rw [hcA]; rfl
          · rw [hcF, wrap_i64 _ (by omega) (by omega)]; rfl
          · rw [e2]
        have q2 : isRef x = false := by simp [isRef, h12]
        rw [q2] at hcF
        by_cases h1 : x.K = 1
        · have q1 : isAnd g x = false := by simp [isAnd, h1]
          rw [q1] at hcA
          simp only [start, KC_normal, go_sem, Nat.reduceEqDiff, Nat.reduceAdd, reduceIte, reduceCtorEq, Nat.reduceLeDiff, Nat.reduceShiftRight, Nat.reduceAnd, Nat.reduceOr, Nat.reducePow, Nat.reduceBNe, Nat.reduceBEq, hbx, h1, t5, t6, t7, t8, Int.reduceEq]
          refine ⟨g.gates.length - (i + 1), by omega, _, H5, i + 1, IntKind.i64.wrap (u + 1), rfl, rfl, by omega, hE.trans hE5, hk5, ?_, ?_, ?_, ?_, ?_⟩
          all_goals simp only [start, KC_normal, go_sem, Nat.reduceEqDiff, Nat.reduceAdd, reduceIte, reduceCtorEq, Nat.reduceLeDiff, Nat.reduceShiftRight, Nat.reduceAnd, Nat.reduceOr, Nat.reducePow, Nat.reduceBNe, Nat.reduceBEq, t1, t5, t6, t7, t8]
          · rw [hcA]; rfl
          · rw [hcF]; rfl
          · rw [e2]
        by_cases h3 : x.K = 3
        · have hAB : (0 ≤ x.A ∧ x.A < i) ∧ (0 ≤ x.B ∧ x.B < i) := by
            cases hgk with
            | two h hA hB hS => exact ⟨hA, hB⟩
            | _ => omega
          obtain ⟨hA, hB⟩ := hAB
          have hAl : x.A < (g.gates.length : Int) := by omega
          have hBl : x.B < (g.gates.length : Int) := by omega
          obtain ⟨gA, hgA', hsecA⟩ := sec_get (g := g) hA.1 hAl
          obtain ⟨gB, hgB', hsecB⟩ := sec_get (g := g) hB.1 hBl
          have hSA := (hCg _ _ hgA').1 4 (by omega)
          have hSB := (hCg _ _ hgB').1 4 (by omega)
          simp only [GateM.c, List.getElem?_cons_succ, List.getElem?_cons_zero] at hSA hSB
          have q1 : isAnd g x = (gA.S && gB.S) := by simp [isAnd, h3, hsecA, hsecB]
          rw [q1] at hcA
          cases hs1 : gA.S
          all_goals cases hs2 : gB.S
          all_goals
            rw [hs1] at hSA
            rw [hs2] at hSB
            rw [hs1, hs2] at hcA
            simp only [start, KC_normal, go_sem, Nat.reduceEqDiff, Nat.reduceAdd, reduceIte, reduceCtorEq, Nat.reduceLeDiff, Nat.reduceShiftRight, Nat.reduceAnd, Nat.reduceOr, Nat.reducePow, Nat.reduceBNe, Nat.reduceBEq, hbx, t1, t5, t6, t7, t8, hk5.get, hkg5.get, h3, Int.reduceEq, ia_int _ _ _ _ _ hA.1 hAl, ia_int _ _ _ _ _ hB.1 hBl, hSA, hSB]
            refine ⟨g.gates.length - (i + 1), by omega, _, H5, i + 1, u, rfl, rfl, by omega, hE.trans hE5, hk5, ?_, ?_, ?_, ?_, ?_⟩
            all_goals simp only [start, KC_normal, go_sem, Nat.reduceEqDiff, Nat.reduceAdd, reduceIte, reduceCtorEq, Nat.reduceLeDiff, Nat.reduceShiftRight, Nat.reduceAnd, Nat.reduceOr, Nat.reducePow, Nat.reduceBNe, Nat.reduceBEq, t1, t5, t6, t7, t8]
          all_goals first
            | (rw [hcA]; rfl)
            | (rw [hcF]; rfl)
            | rw [e2]
            | (rw [hcA, wrap_i64 _ (by omega) (by omega)]; rfl)
        have q1 : isAnd g x = false := by simp [isAnd, h3]
        rw [q1] at hcA
        simp only [start, KC_normal, go_sem, Nat.reduceEqDiff, Nat.reduceAdd, reduceIte, reduceCtorEq, Nat.reduceLeDiff, Nat.reduceShiftRight, Nat.reduceAnd, Nat.reduceOr, Nat.reducePow, Nat.reduceBNe, Nat.reduceBEq, hbx, h12, h1, h3, t5, t6, t7, t8]
        refine ⟨g.gates.length - (i + 1), by omega, _, H5, i + 1, u, rfl, rfl, by omega, hE.trans hE5, hk5, ?_, ?_, ?_, ?_, ?_⟩
        all_goals simp only [start, KC_normal, go_sem, Nat.reduceEqDiff, Nat.reduceAdd, reduceIte, reduceCtorEq, Nat.reduceLeDiff, Nat.reduceShiftRight, Nat.reduceAnd, Nat.reduceOr, Nat.reducePow, Nat.reduceBNe, Nat.reduceBEq, t1, t5, t6, t7, t8]
        · rw [hcA]; rfl
        · rw [hcF]; rfl
        · rw [e2]
      · have hi' : i = g.gates.length := by omega
        subst hi'
        simp only [start, KC_normal, go_sem, Nat.reduceEqDiff, Nat.reduceAdd, reduceIte, reduceCtorEq, Nat.reduceLeDiff, Nat.reduceShiftRight, Nat.reduceAnd, Nat.reduceOr, Nat.reducePow, Nat.reduceBNe, Nat.reduceBEq, t5, t6, t7]
        rw [List.take_length]
        exact hQ H' u hE
end Go.Ab.Ex
end
section
namespace Go.Ab.Ex
open Go.Proofs
set_option maxRecDepth 10000
set_option maxHeartbeats 1000000

def sortM (g : CircM) (x : GateM) : Int := if x.S = false then 0 else if x.K = 12 then 2 else if isAnd g x = true then 2 else 1

theorem f53_c {F : Fr} {H : Heap} {v : Value} {g : CircM} {i : Nat} {x : GateM} (hv : CircR F H v g) (hl : g.gates.length < 1000000) (hx : g.gates[i]? = some x) (hop : x.K = 3 → (0 ≤ x.A ∧ x.A < g.gates.length) ∧ (0 ≤ x.B ∧ x.B < g.gates.length)) {Q : Ret → Heap → Prop}
    (hQ : ∀ H', Ext H H' → Q (.ret (.int .i64 (sortM g x))) H') : C 53 #[v, .int .i64 (i : Nat)] H Q := by
  have hv0 := hv.noF
  obtain ⟨v1, v2, rfl, hg1, hg2⟩ := hv.noF.ex
  obtain ⟨ag, cg, rfl, h3, h4, hgA⟩ := hg1.ex
  obtain ⟨au, cu, rfl, h5, h6, huA⟩ := hg2.ex
  have hlt := lt_of_get hx
  obtain ⟨bg, og, owg, Cg, rfl, hkg, hCg⟩ := hgA.all GateM.len (by omega)
  have hseg := (hCg i x hx).2
  simp only [GateM.c] at hseg
  refine SemC_fn TT.ok fn53 rfl rfl ?_
  simp only [Try.f53, start, KC_normal, go_sem, Nat.reduceEqDiff, Nat.reduceAdd, reduceIte, reduceCtorEq, Nat.reduceLeDiff, Nat.reduceShiftRight, Nat.reduceAnd, Nat.reduceOr, Nat.reducePow, Nat.reduceBNe, Nat.reduceBEq]
  generalize hX : H.push _ = H1
  obtain ⟨hE1, h7, hn1⟩ := new_push hX
  clear hX
  simp only [start, KC_normal, go_sem, Nat.reduceEqDiff, Nat.reduceAdd, reduceIte, reduceCtorEq, Nat.reduceLeDiff, Nat.reduceShiftRight, Nat.reduceAnd, Nat.reduceOr, Nat.reducePow, Nat.reduceBNe, Nat.reduceBEq, h7, ia_in _ _ _ _ _ hlt, (hkg.step hE1.step).get, hseg]
  generalize hX : (H1.push _).put _ _ = H2
  obtain ⟨hE2, h8, hn2⟩ := new_put hX
  clear hX
  have hE12 := hE1.trans hE2
  have hkg2 := hkg.step hE12.step
  have h72 := (hE2.get H.next (by omega)).trans h7
  unfold sortM at hQ
  cases hS : x.S with
  | false =>
    rw [hS] at h8
    simp only [start, KC_normal, go_sem, Nat.reduceEqDiff, Nat.reduceAdd, reduceIte, reduceCtorEq, Nat.reduceLeDiff, Nat.reduceShiftRight, Nat.reduceAnd, Nat.reduceOr, Nat.reducePow, Nat.reduceBNe, Nat.reduceBEq, h8]
    have := hQ H2 hE12
    rw [if_pos hS] at this
    exact this
  | true =>
    rw [hS] at h8
    have := hQ H2 hE12
    rw [if_neg (by rw [hS]; decide)] at this
    by_cases h12 : x.K = 12
    · rw [if_pos h12] at this
      simp only [start, KC_normal, go_sem, Nat.reduceEqDiff, Nat.reduceAdd, reduceIte, reduceCtorEq, Nat.reduceLeDiff, Nat.reduceShiftRight, Nat.reduceAnd, Nat.reduceOr, Nat.reducePow, Nat.reduceBNe, Nat.reduceBEq, h8, h12]
      exact this
    rw [if_neg h12] at this
    by_cases h3 : x.K = 3
    · obtain ⟨hA, hB⟩ := hop h3
      obtain ⟨gA, hgA', hsecA⟩ := sec_get (g := g) hA.1 hA.2
      obtain ⟨gB, hgB', hsecB⟩ := sec_get (g := g) hB.1 hB.2
      have hSA := (hCg _ _ hgA').1 4 (by omega)
      have hSB := (hCg _ _ hgB').1 4 (by omega)
      simp only [GateM.c, List.getElem?_cons_succ, List.getElem?_cons_zero] at hSA hSB
      have q1 : isAnd g x = (gA.S && gB.S) := by simp [isAnd, h3, hsecA, hsecB]
      rw [q1] at this
      cases hs1 : gA.S
      all_goals cases hs2 : gB.S
      all_goals
        rw [hs1] at hSA
        rw [hs2] at hSB
        rw [hs1, hs2] at this
        simp only [start, KC_normal, go_sem, Nat.reduceEqDiff, Nat.reduceAdd, reduceIte, reduceCtorEq, Nat.reduceLeDiff, Nat.reduceShiftRight, Nat.reduceAnd, Nat.reduceOr, Nat.reducePow, Nat.reduceBNe, Nat.reduceBEq, h8, h72, hkg2.get, h3, Int.reduceEq, ia_int _ _ _ _ _ hA.1 hA.2, ia_int _ _ _ _ _ hB.1 hB.2, hSA, hSB]
        exact this
    · have q1 : isAnd g x = false := by simp [isAnd, h3]
      rw [q1] at this
      simp only [start, KC_normal, go_sem, Nat.reduceEqDiff, Nat.reduceAdd, reduceIte, reduceCtorEq, Nat.reduceLeDiff, Nat.reduceShiftRight, Nat.reduceAnd, Nat.reduceOr, Nat.reducePow, Nat.reduceBNe, Nat.reduceBEq, h8, h12, h3]
      exact this

theorem sort_and {g : CircM} {i : Nat} {x : GateM} (hg : GateK g i x) (h12 : ¬ x.K = 12) : (sortM g x = 2 ↔ isAnd g x = true) := by
  unfold sortM
  rw [if_neg h12]
  by_cases hS : x.S = false
  · rw [if_pos hS]
    refine ⟨fun h => by omega, fun h => ?_⟩
    simp only [isAnd, Bool.and_eq_true, decide_eq_true_eq] at h
    cases hg with
    | two hK hA hB hS' => rw [hS', h.2.1] at hS; cases hS
    | _ => omega
  · rw [if_neg hS]
    by_cases ha : isAnd g x = true
    · rw [if_pos ha]; exact ⟨fun _ => ha, fun _ => rfl⟩
    · rw [if_neg ha]; exact ⟨fun h => by omega, fun h => absurd h ha⟩

theorem f33_c (h78 : CirC) {F : Fr} {H : Heap} {v : Value} {g : CircM} (hv : CircR F H v g) (hl : g.gates.length < 1000000 ∧ g.outs.length < 1000000) {Q : Ret → Heap → Prop}
    (hQ : ∀ H' (s : Int), Ext H H' → Q (.ret (.tuple #[.int .i64 (cA g : Nat), .int .i64 (cF g : Nat), .int .i64 s])) H') : C 33 #[v] H Q := by
  have hv0 := hv.noF
  obtain ⟨v1, v2, rfl, hg1, hg2⟩ := hv.noF.ex
  obtain ⟨ag, cg, rfl, h3, h4, hgA⟩ := hg1.ex
  obtain ⟨au, cu, rfl, h5, h6, huA⟩ := hg2.ex
  refine SemC_fn TT.ok fn33 rfl rfl ?_
  simp only [Try.f33, start, KC_normal, go_sem, Nat.reduceEqDiff, Nat.reduceAdd, reduceIte, reduceCtorEq, Nat.reduceLeDiff, Nat.reduceShiftRight, Nat.reduceAnd, Nat.reduceOr, Nat.reducePow, Nat.reduceBNe, Nat.reduceBEq]
  generalize hX : H.push _ = H1
  obtain ⟨hE1, h7, hn1⟩ := new_push hX
  clear hX
  refine f52_c h78 (hv0.step hE1.step) hl fun r H2 hE2 hr => ?_
  have h72 := (hE2.get _ (by omega)).trans h7
  have hE12 := hE1.trans hE2
  cases r with
  | false =>
    have hno : ¬ GraphOk g := fun h => by have := hr.2 h; cases this
    simp only [start, KC_normal, go_sem, Nat.reduceEqDiff, Nat.reduceAdd, reduceIte, reduceCtorEq, Nat.reduceLeDiff, Nat.reduceShiftRight, Nat.reduceAnd, Nat.reduceOr, Nat.reducePow, Nat.reduceBNe, Nat.reduceBEq]
    have := hQ H2 0 hE12
    rw [cA_no hno, cF_no hno] at this
    exact this
  | true =>
    have hgo := hr.1 rfl
    rw [cA_ok hgo, cF_ok hgo] at hQ
    simp only [start, KC_normal, go_sem, Nat.reduceEqDiff, Nat.reduceAdd, reduceIte, reduceCtorEq, Nat.reduceLeDiff, Nat.reduceShiftRight, Nat.reduceAnd, Nat.reduceOr, Nat.reducePow, Nat.reduceBNe, Nat.reduceBEq, h72]
    refine wp_loop TT.ok rfl rfl (fun j s => ∃ tm H' i, ∃ u : Int, s = ⟨tm, 41, [], false, H'⟩ ∧ j = g.gates.length - i ∧ i ≤ g.gates.length ∧ Ext H H' ∧
      Kp noF H' H.next (.cells true 4 [.slice ag g.gates.length cg, .int .i64 g.secrets, .int .i64 g.publics, .slice au g.outs.length cu]) ∧
      tm.get 1 = some (.pointer (some ⟨H.next, 0, none⟩)) ∧ tm.get 2 = some (.int .i64 ((g.gates.take i).countP (isAnd g) : Nat)) ∧ tm.get 3 = some (.int .i64 ((g.gates.take i).countP isRef : Nat)) ∧ tm.get 4 = some (.int .i64 u) ∧ tm.get 13 = some (.int .i64 (i : Nat)) ∧
      tm.get 11 = some (.slice ag g.gates.length cg) ∧ tm.get 12 = some (.int .i64 (g.gates.length : Nat))) g.gates.length ?_ ?_
    · refine ⟨_, H2, 0, 0, rfl, rfl, Nat.zero_le _, hE12, ⟨by have := hE2.le; omega, noF_not _, h72⟩, ?_, ?_, ?_, ?_, ?_, ?_, ?_⟩
      all_goals simp only [start, KC_normal, go_sem, Nat.reduceEqDiff, Nat.reduceAdd, reduceIte, reduceCtorEq, Nat.reduceLeDiff, Nat.reduceShiftRight, Nat.reduceAnd, Nat.reduceOr, Nat.reducePow, Nat.reduceBNe, Nat.reduceBEq]
      all_goals rfl
    · clear h72 h7 hE12 hE2 hE1
      rintro j s - ⟨tm, H', i, u, rfl, hj, hi, hE, hk, t1, t2, t3, t4, t13, t11, t12⟩
      simp only [start, KC_normal, go_sem, Nat.reduceEqDiff, Nat.reduceAdd, reduceIte, reduceCtorEq, Nat.reduceLeDiff, Nat.reduceShiftRight, Nat.reduceAnd, Nat.reduceOr, Nat.reducePow, Nat.reduceBNe, Nat.reduceBEq, t13, t12]
      refine CN_split (fun hlt => ?_) (fun hge => ?_)
      · have hlt' : i < g.gates.length := by omega
        obtain ⟨x, hx⟩ : ∃ x, g.gates[i]? = some x := ⟨_, List.getElem?_eq_getElem hlt'⟩
        obtain ⟨bg, og, owg, Cg, rfl, hkg, hCg⟩ := hgA.all GateM.len (by omega)
        have hseg := (hCg i x hx).2
        simp only [GateM.c] at hseg
        have hkg' := hkg.step hE.step
        have e2 : IntKind.i64.wrap ((i : Int) + 1) = ((i + 1 : Nat) : Int) := by rw [wrap_i64 _ (by omega) (by omega)]; simp
        have hcA := cnt_take (p := isAnd g) hx
        have hcF := cnt_take (p := isRef) hx
        have lA := cnt_le (p := isAnd g) (l := g.gates) (i := i)
        have lF := cnt_le (p := isRef) (l := g.gates) (i := i)
        simp only [start, KC_normal, go_sem, Nat.reduceEqDiff, Nat.reduceAdd, reduceIte, reduceCtorEq, Nat.reduceLeDiff, Nat.reduceShiftRight, Nat.reduceAnd, Nat.reduceOr, Nat.reducePow, Nat.reduceBNe, Nat.reduceBEq, t11, t13, ia_in _ _ _ _ _ hlt', hkg'.get, hseg]
        generalize hX : (H'.push _).put _ _ = H5
        obtain ⟨hE5, hbx, hn5⟩ := new_put hX
        clear hX
        have hk5 := hk.step hE5.step
        have hgk := graph_gate hgo hx
        by_cases h12 : x.K = 12
        · have q1 : isAnd g x = false := by simp [isAnd, h12]
          have q2 : isRef x = true := by simp [isRef, h12]
          rw [q1] at hcA
          rw [q2] at hcF
          simp only [start, KC_normal, go_sem, Nat.reduceEqDiff, Nat.reduceAdd, reduceIte, reduceCtorEq, Nat.reduceLeDiff, Nat.reduceShiftRight, Nat.reduceAnd, Nat.reduceOr, Nat.reducePow, Nat.reduceBNe, Nat.reduceBEq, hbx, h12, t2, t3, t4, t13]
          refine ⟨g.gates.length - (i + 1), by omega, _, H5, i + 1, u, rfl, rfl, by omega, hE.trans hE5, hk5, ?_, ?_, ?_, ?_, ?_, ?_, ?_⟩
          all_goals simp only [start, KC_normal, go_sem, Nat.reduceEqDiff, Nat.reduceAdd, reduceIte, reduceCtorEq, Nat.reduceLeDiff, Nat.reduceShiftRight, Nat.reduceAnd, Nat.reduceOr, Nat.reducePow, Nat.reduceBNe, Nat.reduceBEq, t1, t2, t3, t4, t11, t12, t13]
          · rw [hcA]; rfl
          · rw [hcF, wrap_i64 _ (by omega) (by omega)]; rfl
          · rw [e2]
        have q2 : isRef x = false := by simp [isRef, h12]
        rw [q2] at hcF
        by_cases h1 : x.K = 1
        · have q1 : isAnd g x = false := by simp [isAnd, h1]
          rw [q1] at hcA
          simp only [start, KC_normal, go_sem, Nat.reduceEqDiff, Nat.reduceAdd, reduceIte, reduceCtorEq, Nat.reduceLeDiff, Nat.reduceShiftRight, Nat.reduceAnd, Nat.reduceOr, Nat.reducePow, Nat.reduceBNe, Nat.reduceBEq, hbx, h1, t2, t3, t4, t13, Int.reduceEq]
          refine ⟨g.gates.length - (i + 1), by omega, _, H5, i + 1, IntKind.i64.wrap (u + 1), rfl, rfl, by omega, hE.trans hE5, hk5, ?_, ?_, ?_, ?_, ?_, ?_, ?_⟩
          all_goals simp only [start, KC_normal, go_sem, Nat.reduceEqDiff, Nat.reduceAdd, reduceIte, reduceCtorEq, Nat.reduceLeDiff, Nat.reduceShiftRight, Nat.reduceAnd, Nat.reduceOr, Nat.reducePow, Nat.reduceBNe, Nat.reduceBEq, t1, t2, t3, t4, t11, t12, t13]
          · rw [hcA]; rfl
          · rw [hcF]; rfl
          · rw [e2]
        simp only [start, KC_normal, go_sem, Nat.reduceEqDiff, Nat.reduceAdd, reduceIte, reduceCtorEq, Nat.reduceLeDiff, Nat.reduceShiftRight, Nat.reduceAnd, Nat.reduceOr, Nat.reducePow, Nat.reduceBNe, Nat.reduceBEq, hbx, h12, h1, t1, t13, hk5.get]
        refine f53_c (hv0.step (hE.trans hE5).step) hl.1 hx (fun hK3 => ?_) fun H6 hE6 => ?_
        · cases hgk with
          | two h hA hB hS => exact ⟨⟨hA.1, by omega⟩, ⟨hB.1, by omega⟩⟩
          | _ => omega
        have hk6 := hk5.step hE6.step
        have hE56 := (hE.trans hE5).trans hE6
        have hsa := sort_and hgk h12
        by_cases hs : sortM g x = 2
        · rw [hsa.1 hs] at hcA
          simp only [start, KC_normal, go_sem, Nat.reduceEqDiff, Nat.reduceAdd, reduceIte, reduceCtorEq, Nat.reduceLeDiff, Nat.reduceShiftRight, Nat.reduceAnd, Nat.reduceOr, Nat.reducePow, Nat.reduceBNe, Nat.reduceBEq, hs, t2, t3, t4, t13]
          refine ⟨g.gates.length - (i + 1), by omega, _, H6, i + 1, u, rfl, rfl, by omega, hE56, hk6, ?_, ?_, ?_, ?_, ?_, ?_, ?_⟩
          all_goals simp only [start, KC_normal, go_sem, Nat.reduceEqDiff, Nat.reduceAdd, reduceIte, reduceCtorEq, Nat.reduceLeDiff, Nat.reduceShiftRight, Nat.reduceAnd, Nat.reduceOr, Nat.reducePow, Nat.reduceBNe, Nat.reduceBEq, t1, t2, t3, t4, t11, t12, t13]
          · rw [hcA, wrap_i64 _ (by omega) (by omega)]; rfl
          · rw [hcF]; rfl
          · rw [e2]
        · have q1 : isAnd g x = false := by
            cases hh : isAnd g x with
            | false => rfl
            | true => exact absurd (hsa.2 hh) hs
          rw [q1] at hcA
          simp only [start, KC_normal, go_sem, Nat.reduceEqDiff, Nat.reduceAdd, reduceIte, reduceCtorEq, Nat.reduceLeDiff, Nat.reduceShiftRight, Nat.reduceAnd, Nat.reduceOr, Nat.reducePow, Nat.reduceBNe, Nat.reduceBEq, hs, t2, t3, t4, t13]
          refine ⟨g.gates.length - (i + 1), by omega, _, H6, i + 1, u, rfl, rfl, by omega, hE56, hk6, ?_, ?_, ?_, ?_, ?_, ?_, ?_⟩
          all_goals simp only [start, KC_normal, go_sem, Nat.reduceEqDiff, Nat.reduceAdd, reduceIte, reduceCtorEq, Nat.reduceLeDiff, Nat.reduceShiftRight, Nat.reduceAnd, Nat.reduceOr, Nat.reducePow, Nat.reduceBNe, Nat.reduceBEq, t1, t2, t3, t4, t11, t12, t13]
          · rw [hcA]; rfl
          · rw [hcF]; rfl
          · rw [e2]
      · have hi' : i = g.gates.length := by omega
        subst hi'
        simp only [start, KC_normal, go_sem, Nat.reduceEqDiff, Nat.reduceAdd, reduceIte, reduceCtorEq, Nat.reduceLeDiff, Nat.reduceShiftRight, Nat.reduceAnd, Nat.reduceOr, Nat.reducePow, Nat.reduceBNe, Nat.reduceBEq, t2, t3, t4]
        rw [List.take_length]
        exact hQ H' u hE
end Go.Ab.Ex
end
section
namespace Go.Ab.Ex
open Go.Proofs
set_option maxRecDepth 10000
set_option maxHeartbeats 1000000

theorem i_quo2 (k : IntKind) (a : Int) : intOp .quo k a k 2 = some (.int k (k.wrap (a.tdiv 2))) := i_quo k a 2 (by decide)

noncomputable def wantM (g : CircM) (d : Int) : Int := if (expandM g d).2 = 0 then (((cA g + cF g : Nat) : Int) * d * (d + 1)) / 2 else 0

theorem expand_0 {g : CircM} {d : Int} (h : (expandM g d).2 = 0) : GraphOk g ∧ (1 ≤ d ∧ d ≤ 6) ∧ (expandM g d).1 = (innM g d.toNat, codeM g d.toNat) := by
  unfold expandM at h ⊢
  by_cases hg : GraphOk g
  · rw [if_neg (not_not_intro hg)] at h ⊢
    by_cases h1 : d < 1
    · rw [if_pos h1] at h; simp at h
    rw [if_neg h1] at h ⊢
    by_cases h6 : 6 < d ∨ 4000 < g.secrets * (d + 1) + g.publics
    · rw [if_pos h6] at h; simp at h
    rw [if_neg h6]
    exact ⟨hg, by omega, rfl⟩
  · rw [if_pos hg] at h; simp at h
theorem expand_e {g : CircM} {d : Int} (h : (expandM g d).2 ≠ 0) : (expandM g d).1 = (0, [], []) := by
  unfold expandM at h ⊢
  by_cases hg : GraphOk g
  · rw [if_neg (not_not_intro hg)] at h ⊢
    by_cases h1 : d < 1
    · rw [if_pos h1]
    rw [if_neg h1] at h ⊢
    by_cases h6 : 6 < d ∨ 4000 < g.secrets * (d + 1) + g.publics
    · rw [if_pos h6]
    rw [if_neg h6] at h
    exact absurd rfl h
  · rw [if_pos hg]

theorem cA_le (g : CircM) : cA g ≤ g.gates.length := by
  by_cases h : GraphOk g
  · rw [cA_ok h]; exact List.countP_le_length
  · rw [cA_no h]; omega
theorem cF_le (g : CircM) : cF g ≤ g.gates.length := by
  by_cases h : GraphOk g
  · rw [cF_ok h]; exact List.countP_le_length
  · rw [cF_no h]; omega

theorem want_wrap {a f : Nat} {d : Int} (ha : a ≤ 150) (hf : f ≤ 150) (hd : 1 ≤ d ∧ d ≤ 6) :
    IntKind.i64.wrap (Int.tdiv (IntKind.i64.wrap (IntKind.i64.wrap (IntKind.i64.wrap ((a : Int) + f) * d) * IntKind.i64.wrap (d + 1))) 2) = (((a + f : Nat) : Int) * d * (d + 1)) / 2 := by
  have h : d = 1 ∨ d = 2 ∨ d = 3 ∨ d = 4 ∨ d = 5 ∨ d = 6 := by omega
  rcases h with rfl | rfl | rfl | rfl | rfl | rfl
  all_goals
    rw [wrap_i64 ((a : Int) + f) (by omega) (by omega), wrap_i64 (((a : Int) + f) * _) (by omega) (by omega), wrap_i64 (_ + 1) (by omega) (by omega), wrap_i64 (_ * (_ + 1)) (by omega) (by omega), Int.tdiv_eq_ediv_of_nonneg (by omega), wrap_i64 _ (by omega) (by omega)]
    rw [Int.natCast_add]

theorem randoms_want {g : CircM} {d : Int} (hf : g.gates.length ≤ 150) : (randoms (expandM g d).1.2.1 : Int) = wantM g d := by
  unfold wantM
  by_cases he : (expandM g d).2 = 0
  · rw [if_pos he]
    obtain ⟨hg, hd, hc⟩ := expand_0 he
    rw [hc]
    show ((randoms (codeM g d.toNat).1 : Nat) : Int) = _
    rw [randoms_code (by omega), cA_ok hg, cF_ok hg]
    unfold cntG
    have h : d = 1 ∨ d = 2 ∨ d = 3 ∨ d = 4 ∨ d = 5 ∨ d = 6 := by omega
    generalize g.gates.countP isRef = x
    generalize g.gates.countP (isAnd g) = y
    rcases h with rfl | rfl | rfl | rfl | rfl | rfl
    · show (((x + y) * 1 : Nat) : Int) = _; omega
    · show (((x + y) * 3 : Nat) : Int) = _; omega
    · show (((x + y) * 6 : Nat) : Int) = _; omega
    · show (((x + y) * 10 : Nat) : Int) = _; omega
    · show (((x + y) * 15 : Nat) : Int) = _; omega
    · show (((x + y) * 21 : Nat) : Int) = _; omega
  · rw [if_neg he, expand_e he]; rfl

theorem f15_c (h78 : CirC) {F : Fr} {H : Heap} {v : Value} {g : CircM} {d : Int} (hv : CircR F H v g) (hf : g.gates.length ≤ 150 ∧ g.outs.length ≤ 50) {Q : Ret → Heap → Prop}
    (hQ : ∀ H', Ext H H' → Q (.ret (.int .i64 (wantM g d))) H') : C 15 #[v, .int .i64 d] H Q := by
  have h44 : CanC := f44_c h78
  have hv0 := hv.noF
  obtain ⟨v1, v2, rfl, hg1, hg2⟩ := hv.noF.ex
  obtain ⟨ag, cg, rfl, h3, h4, hgA⟩ := hg1.ex
  obtain ⟨au, cu, rfl, h5, h6, huA⟩ := hg2.ex
  refine SemC_fn TT.ok fn15 rfl rfl ?_
  simp only [Try.f15, start, KC_normal, go_sem, Nat.reduceEqDiff, Nat.reduceAdd, reduceIte, reduceCtorEq, Nat.reduceLeDiff, Nat.reduceShiftRight, Nat.reduceAnd, Nat.reduceOr, Nat.reducePow, Nat.reduceBNe, Nat.reduceBEq]
  generalize hX : H.push _ = H1
  obtain ⟨hE1, h7, hn1⟩ := new_push hX
  clear hX
  refine f28_c h44 (hv0.step hE1.step) hf fun H2 u hE2 hu => ?_
  have hE12 := hE1.trans hE2
  have h72 := (hE2.get _ (by omega)).trans h7
  obtain ⟨e1, e2, rfl, hs1, hs2⟩ := (hu noF (noF_Bd _)).ex
  obtain ⟨x1, x2, rfl⟩ := hs1.len
  obtain ⟨x3, x4, rfl⟩ := hs2.len
  simp only [start, KC_normal, go_sem, Nat.reduceEqDiff, Nat.reduceAdd, reduceIte, reduceCtorEq, Nat.reduceLeDiff, Nat.reduceShiftRight, Nat.reduceAnd, Nat.reduceOr, Nat.reducePow, Nat.reduceBNe, Nat.reduceBEq]
  generalize hX : (H2.push _).put _ _ = H3
  obtain ⟨hE3, h8, hn3⟩ := new_put hX
  clear hX
  have h73 := (hE3.get _ (by have := hE2.le; omega)).trans h72
  have hE13 := hE12.trans hE3
  unfold wantM at hQ
  by_cases he : (expandM g d).2 = 0
  · obtain ⟨hgo, hd, -⟩ := expand_0 he
    rw [if_pos he] at hQ
    simp only [start, KC_normal, go_sem, Nat.reduceEqDiff, Nat.reduceAdd, reduceIte, reduceCtorEq, Nat.reduceLeDiff, Nat.reduceShiftRight, Nat.reduceAnd, Nat.reduceOr, Nat.reducePow, Nat.reduceBNe, Nat.reduceBEq, he, h73]
    refine f33_c h78 (hv0.step hE13.step) (by omega) fun H4 s hE4 => ?_
    have hA := cA_le g
    have hF := cF_le g
    simp only [start, KC_normal, go_sem, Nat.reduceEqDiff, Nat.reduceAdd, reduceIte, reduceCtorEq, Nat.reduceLeDiff, Nat.reduceShiftRight, Nat.reduceAnd, Nat.reduceOr, Nat.reducePow, Nat.reduceBNe, Nat.reduceBEq, i_quo2]
    rw [want_wrap (by omega) (by omega) hd]
    exact hQ H4 (hE13.trans hE4)
  · rw [if_neg he] at hQ
    simp only [start, KC_normal, go_sem, Nat.reduceEqDiff, Nat.reduceAdd, reduceIte, reduceCtorEq, Nat.reduceLeDiff, Nat.reduceShiftRight, Nat.reduceAnd, Nat.reduceOr, Nat.reducePow, Nat.reduceBNe, Nat.reduceBEq, he]
    exact hQ H3 hE13

theorem f4_c (h85 : GatC) {F : Fr} {H : Heap} {v : Value} {g : CircM} {d : Int} (hv : CircR F H v g) {Q : Ret → Heap → Prop} (hQ : ∀ H', Ext H H' → Q (.ret (.bool true)) H') : C 4 #[v, .int .i64 d] H Q := by
  have h78 : CirC := f78_c h85
  have hv0 := hv.noF
  obtain ⟨v1, v2, rfl, hg1, hg2⟩ := hv.noF.ex
  obtain ⟨ag, cg, rfl, h3, h4, hgA⟩ := hg1.ex
  obtain ⟨au, cu, rfl, h5, h6, huA⟩ := hg2.ex
  refine SemC_fn TT.ok fn4 rfl rfl ?_
  simp only [Try.f4, start, KC_normal, go_sem, Nat.reduceEqDiff, Nat.reduceAdd, reduceIte, reduceCtorEq, Nat.reduceLeDiff, Nat.reduceShiftRight, Nat.reduceAnd, Nat.reduceOr, Nat.reducePow, Nat.reduceBNe, Nat.reduceBEq]
  generalize hX : H.push _ = H1
  obtain ⟨hE1, h7, hn1⟩ := new_push hX
  clear hX
  refine few_c (hv0.step hE1.step) fun b H2 hE2 hb => ?_
  have hE12 := hE1.trans hE2
  have h72 := (hE2.get _ (by omega)).trans h7
  cases b with
  | false =>
    simp only [start, KC_normal, go_sem, Nat.reduceEqDiff, Nat.reduceAdd, reduceIte, reduceCtorEq, Nat.reduceLeDiff, Nat.reduceShiftRight, Nat.reduceAnd, Nat.reduceOr, Nat.reducePow, Nat.reduceBNe, Nat.reduceBEq]
    refine lives_c fun H3 hE3 => ?_
    simp only [start, KC_normal, go_sem, Nat.reduceEqDiff, Nat.reduceAdd, reduceIte, reduceCtorEq, Nat.reduceLeDiff, Nat.reduceShiftRight, Nat.reduceAnd, Nat.reduceOr, Nat.reducePow, Nat.reduceBNe, Nat.reduceBEq]
    exact hQ H3 (hE12.trans hE3)
  | true =>
    have hf := hb.1 rfl
    simp only [start, KC_normal, go_sem, Nat.reduceEqDiff, Nat.reduceAdd, reduceIte, reduceCtorEq, Nat.reduceLeDiff, Nat.reduceShiftRight, Nat.reduceAnd, Nat.reduceOr, Nat.reducePow, Nat.reduceBNe, Nat.reduceBEq, h72]
    refine f11_c (hv0.step hE12.step) hf fun H3 u hE3 hu => ?_
    have hE13 := hE12.trans hE3
    have h73 := (hE3.get _ (by have := hE2.le; omega)).trans h72
    have hu0 := hu noF (noF_Bd _)
    obtain ⟨e1, e2, rfl, hs1, hs2⟩ := hu0.ex
    obtain ⟨x1, x2, rfl⟩ := hs1.len
    obtain ⟨x3, x4, rfl⟩ := hs2.len
    simp only [start, KC_normal, go_sem, Nat.reduceEqDiff, Nat.reduceAdd, reduceIte, reduceCtorEq, Nat.reduceLeDiff, Nat.reduceShiftRight, Nat.reduceAnd, Nat.reduceOr, Nat.reducePow, Nat.reduceBNe, Nat.reduceBEq]
    generalize hX : (H3.push _).put _ _ = H4
    obtain ⟨hE4, h8, hn4⟩ := new_put hX
    clear hX
    have hE14 := hE13.trans hE4
    have h74 := (hE4.get _ (by have := hE2.le; have := hE3.le; omega)).trans h73
    simp only [start, KC_normal, go_sem, Nat.reduceEqDiff, Nat.reduceAdd, reduceIte, reduceCtorEq, Nat.reduceLeDiff, Nat.reduceShiftRight, Nat.reduceAnd, Nat.reduceOr, Nat.reducePow, Nat.reduceBNe, Nat.reduceBEq, h74]
    refine f14_c (hv0.step hE14.step) (by omega) fun H5 s hE5 => ?_
    have hE15 := hE14.trans hE5
    have h75 := (hE5.get _ (by have := hE2.le; have := hE3.le; omega)).trans h74
    have h85' := (hE5.get _ (by omega)).trans h8
    have hlo : (expandM g d).1.2.1.length < 1000000 := by have := (expandM_ok (g := g) (d := d) hf).l; omega
    have hrw := randoms_want (g := g) (d := d) hf.1
    have hA := cA_le g
    have hF := cF_le g
    by_cases he : (expandM g d).2 = 0
    · obtain ⟨hgo, hd, -⟩ := expand_0 he
      have hw : wantM g d = (((cA g + cF g : Nat) : Int) * d * (d + 1)) / 2 := if_pos he
      simp only [start, KC_normal, go_sem, Nat.reduceEqDiff, Nat.reduceAdd, reduceIte, reduceCtorEq, Nat.reduceLeDiff, Nat.reduceShiftRight, Nat.reduceAnd, Nat.reduceOr, Nat.reducePow, Nat.reduceBNe, Nat.reduceBEq, he, i_quo2, want_wrap (show cA g ≤ 150 by omega) (show cF g ≤ 150 by omega) hd, ← hw, h75]
      refine f10_c (hv0.step hE15.step) (by omega) fun H6 y hE6 hy => ?_
      have hE16 := hE15.trans hE6
      have h86 := (hE6.get _ (by have := hE5.le; omega)).trans h85'
      simp only [start, KC_normal, go_sem, Nat.reduceEqDiff, Nat.reduceAdd, reduceIte, reduceCtorEq, Nat.reduceLeDiff, Nat.reduceShiftRight, Nat.reduceAnd, Nat.reduceOr, Nat.reducePow, Nat.reduceBNe, Nat.reduceBEq]
      refine f15_c h78 (hy.r (noF_Bd _)) hf fun H7 hE7 => ?_
      have hE17 := hE16.trans hE7
      have h87 := (hE7.get _ (by have := hE5.le; have := hE6.le; omega)).trans h86
      simp only [start, KC_normal, go_sem, Nat.reduceEqDiff, Nat.reduceAdd, reduceIte, reduceCtorEq, Nat.reduceLeDiff, Nat.reduceShiftRight, Nat.reduceAnd, Nat.reduceOr, Nat.reducePow, Nat.reduceBNe, Nat.reduceBEq, h87]
      refine f16_c (hu0.step ((((hE4.trans hE5).trans hE6).trans hE7)).step) hlo fun H8 hE8 => ?_
      rw [hrw]
      simp only [start, KC_normal, go_sem, Nat.reduceEqDiff, Nat.reduceAdd, reduceIte, reduceCtorEq, Nat.reduceLeDiff, Nat.reduceShiftRight, Nat.reduceAnd, Nat.reduceOr, Nat.reducePow, Nat.reduceBNe, Nat.reduceBEq]
      refine lives_c fun H9 hE9 => ?_
      simp only [start, KC_normal, go_sem, Nat.reduceEqDiff, Nat.reduceAdd, reduceIte, reduceCtorEq, Nat.reduceLeDiff, Nat.reduceShiftRight, Nat.reduceAnd, Nat.reduceOr, Nat.reducePow, Nat.reduceBNe, Nat.reduceBEq]
      exact hQ H9 ((hE17.trans hE8).trans hE9)
    · have hw : wantM g d = 0 := if_neg he
      simp only [start, KC_normal, go_sem, Nat.reduceEqDiff, Nat.reduceAdd, reduceIte, reduceCtorEq, Nat.reduceLeDiff, Nat.reduceShiftRight, Nat.reduceAnd, Nat.reduceOr, Nat.reducePow, Nat.reduceBNe, Nat.reduceBEq, he, h75]
      refine f10_c (hv0.step hE15.step) (by omega) fun H6 y hE6 hy => ?_
      have hE16 := hE15.trans hE6
      have h86 := (hE6.get _ (by have := hE5.le; omega)).trans h85'
      simp only [start, KC_normal, go_sem, Nat.reduceEqDiff, Nat.reduceAdd, reduceIte, reduceCtorEq, Nat.reduceLeDiff, Nat.reduceShiftRight, Nat.reduceAnd, Nat.reduceOr, Nat.reducePow, Nat.reduceBNe, Nat.reduceBEq]
      refine f15_c h78 (hy.r (noF_Bd _)) hf fun H7 hE7 => ?_
      have hE17 := hE16.trans hE7
      have h87 := (hE7.get _ (by have := hE5.le; have := hE6.le; omega)).trans h86
      rw [hw]
      simp only [start, KC_normal, go_sem, Nat.reduceEqDiff, Nat.reduceAdd, reduceIte, reduceCtorEq, Nat.reduceLeDiff, Nat.reduceShiftRight, Nat.reduceAnd, Nat.reduceOr, Nat.reducePow, Nat.reduceBNe, Nat.reduceBEq, h87]
      refine f16_c (hu0.step ((((hE4.trans hE5).trans hE6).trans hE7)).step) hlo fun H8 hE8 => ?_
      rw [hrw, hw]
      simp only [start, KC_normal, go_sem, Nat.reduceEqDiff, Nat.reduceAdd, reduceIte, reduceCtorEq, Nat.reduceLeDiff, Nat.reduceShiftRight, Nat.reduceAnd, Nat.reduceOr, Nat.reducePow, Nat.reduceBNe, Nat.reduceBEq]
      refine lives_c fun H9 hE9 => ?_
      simp only [start, KC_normal, go_sem, Nat.reduceEqDiff, Nat.reduceAdd, reduceIte, reduceCtorEq, Nat.reduceLeDiff, Nat.reduceShiftRight, Nat.reduceAnd, Nat.reduceOr, Nat.reducePow, Nat.reduceBNe, Nat.reduceBEq]
      exact hQ H9 ((hE17.trans hE8).trans hE9)
end Go.Ab.Ex
end
