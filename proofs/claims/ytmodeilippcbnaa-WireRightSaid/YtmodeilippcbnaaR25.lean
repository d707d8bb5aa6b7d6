/- Wire: the program's look at a gate. -/
import Derived.Test.YtmodeilippcbnaaR24
set_option linter.all false
namespace Go.Ab.Ex
open Go.Proofs
set_option maxRecDepth 10000
set_option maxHeartbeats 1000000

/-! arrays of two numbers -/
def ixO (T : Tab) (i : Option TInfo) (x y : Value) : Option Value := match i, x, y with
    | some ⟨.array len e, _, _, _, _, _⟩, .agg cs, .int _ n => match T.ty e with
      | some i => if 0 ≤ n ∧ n < len then partC i cs.toList (n.toNat * i.size) else none
      | none => none
    | some ⟨.string, _, _, _, _, _⟩, .string s, .int _ n => if 0 ≤ n then match s.data.toList[n.toNat]? with
        | some b => some (.int .u8 b.toNat)
        | none => none
      else none
    | _, _, _ => none
section
variable (P : Program) (T : Tab) (ρ : Operand → Value) (H : Heap) (d : Option Tmp) (ty : TypeId) (ps : String) (af : Array Edge) (gd : Option (Nat × Bool))
theorem r_index (t : TypeId) (x y : Operand) : aread P T ρ ⟨d, .index t x y, ty, ps, af, gd⟩ H = ixO T (T.ty t) (ρ x) (ρ y) := (rfl)
end
def two (A B : Int) (k : Nat) : Int := if k = 0 then A else B
theorem ix_two {A B : Int} {k : Nat} (hk : k < 2) {z : Option Value} {a : Bool} {fl : List (Nat × Nat)} {s b : Nat} : ixO TT (some ⟨.array 2 3, s, b, z, a, fl⟩) (.agg #[.int .i64 A, .int .i64 B]) (.int .i64 (k : Nat)) = some (.int .i64 (two A B k)) := by
  simp only [ixO, ty3]
  rw [if_pos (by omega)]
  match k, hk with
  | 0, _ => rfl
  | 1, _ => rfl
theorem fb_array (n : Nat) (e : TypeId) (s b : Nat) (z : Option Value) (ag : Bool) (fields : List (Nat × Nat)) (parts : List (Nat × Value)) (dflt : Option Value) :
    fbO (some ⟨.array n e, s, b, z, ag, fields⟩) parts dflt = dflt := (rfl)
theorem fill_two {A B : Int} : fillBuild TT 113 [(0, .int .i64 A), (1, .int .i64 B)] = some (.agg #[.int .i64 A, .int .i64 B]) := by
  simp only [fillBuild, ty113, ty3]
  rfl

/-! one operand after the other -/
def opOk (i : Nat) (K y : Int) (k : Nat) : Prop := if takesG K ≤ k then y = 0 else 0 ≤ y ∧ y < i
def accG (g : CircM) (x : GateM) : Nat → Bool
  | 0 => decide (x.K = 1)
  | k + 1 => accG g x k || (decide (k < takesG x.K) && g.sec (two x.A x.B k))
theorem gOk_most {g : CircM} {i : Nat} {x : GateM} (h0 : ¬ x.K < 0) (h12 : ¬ 12 ≤ x.K) : gOkM g i x ↔ ¬ mostM g x.K < x.N.toNat ∧ opOk i x.K (two x.A x.B 0) 0 ∧ opOk i x.K (two x.A x.B 1) 1 ∧ x.S = accG g x 2 := by
  have hN := x.N.isLt
  obtain ⟨K, A, B, N, S⟩ := x
  simp only at *
  have hK : K = 0 ∨ K = 1 ∨ K = 2 ∨ K = 3 ∨ K = 4 ∨ K = 5 ∨ K = 6 ∨ K = 7 ∨ K = 8 ∨ K = 9 ∨ K = 10 ∨ K = 11 := by omega
  simp only [accG, two, opOk, if_true, Nat.one_ne_zero, if_false]
  rcases hK with rfl | rfl | rfl | rfl | rfl | rfl | rfl | rfl | rfl | rfl | rfl | rfl
  · rw [gOk_0 rfl]; simp [show takesG 0 = 0 from rfl, mostM]; constructor
    · rintro ⟨h1, h2, h3⟩; exact ⟨by omega, h2, h1, h3⟩
    · rintro ⟨-, h2, h1, h3⟩; exact ⟨h1, h2, h3⟩
  · rw [gOk_1 rfl]; simp [show takesG 1 = 0 from rfl, mostM]; constructor
    · rintro ⟨h1, h2, h3, h4⟩; exact ⟨by omega, h2, h1, h4⟩
    · rintro ⟨h3, h2, h1, h4⟩; exact ⟨h1, h2, by omega, h4⟩
  · rw [gOk_2 rfl]; simp [show takesG 2 = 0 from rfl, mostM]; constructor
    · rintro ⟨h1, h2, h3, h4⟩; exact ⟨by omega, h2, h1, h4⟩
    · rintro ⟨h3, h2, h1, h4⟩; exact ⟨h1, h2, by omega, h4⟩
  · rw [gOk_two (by simp)]; simp [show takesG 3 = 2 from rfl, mostM]; constructor
    · rintro ⟨h1, h2, h3, h4⟩; exact ⟨by omega, h1, h2, h4⟩
    · rintro ⟨h3, h1, h2, h4⟩; exact ⟨h1, h2, by omega, h4⟩
  · rw [gOk_two (by simp)]; simp [show takesG 4 = 2 from rfl, mostM]; constructor
    · rintro ⟨h1, h2, h3, h4⟩; exact ⟨by omega, h1, h2, h4⟩
    · rintro ⟨h3, h1, h2, h4⟩; exact ⟨h1, h2, by omega, h4⟩
  · rw [gOk_5 rfl]; simp [show takesG 5 = 1 from rfl, mostM]; constructor
    · rintro ⟨h1, h2, h3, h4⟩; exact ⟨by omega, h2, h1, h4⟩
    · rintro ⟨h3, h1, h2, h4⟩; exact ⟨h2, h1, by omega, h4⟩
  · rw [gOk_678 (by simp)]; simp [show takesG 6 = 1 from rfl, mostM]; constructor
    · rintro ⟨h1, h2, h3, h4⟩; exact ⟨by omega, h2, h1, h4⟩
    · rintro ⟨h3, h1, h2, h4⟩; exact ⟨h2, h1, by omega, h4⟩
  · rw [gOk_678 (by simp)]; simp [show takesG 7 = 1 from rfl, mostM]; constructor
    · rintro ⟨h1, h2, h3, h4⟩; exact ⟨by omega, h2, h1, h4⟩
    · rintro ⟨h3, h1, h2, h4⟩; exact ⟨h2, h1, by omega, h4⟩
  · rw [gOk_678 (by simp)]; simp [show takesG 8 = 1 from rfl, mostM]; constructor
    · rintro ⟨h1, h2, h3, h4⟩; exact ⟨by omega, h2, h1, h4⟩
    · rintro ⟨h3, h1, h2, h4⟩; exact ⟨h2, h1, by omega, h4⟩
  · rw [gOk_two (by simp)]; simp [show takesG 9 = 2 from rfl, mostM]; constructor
    · rintro ⟨h1, h2, h3, h4⟩; exact ⟨by omega, h1, h2, h4⟩
    · rintro ⟨h3, h1, h2, h4⟩; exact ⟨h1, h2, by omega, h4⟩
  · rw [gOk_two (by simp)]; simp [show takesG 10 = 2 from rfl, mostM]; constructor
    · rintro ⟨h1, h2, h3, h4⟩; exact ⟨by omega, h1, h2, h4⟩
    · rintro ⟨h3, h1, h2, h4⟩; exact ⟨h1, h2, by omega, h4⟩
  · rw [gOk_two (by simp)]; simp [show takesG 11 = 2 from rfl, mostM]; constructor
    · rintro ⟨h1, h2, h3, h4⟩; exact ⟨by omega, h1, h2, h4⟩
    · rintro ⟨h3, h1, h2, h4⟩; exact ⟨h1, h2, by omega, h4⟩

theorem gatC : GatC := by
  intro F H v g i x hv hs hp hl hx Q hQ
  have hv0 := hv.noF
  obtain ⟨v1, v2, rfl, hg1, hg2⟩ := hv.noF.ex
  obtain ⟨ag, cg, rfl, h3, h4, hgA⟩ := hg1.ex
  obtain ⟨au, cu, rfl, h5, h6, huA⟩ := hg2.ex
  have hlt := lt_of_get hx
  obtain ⟨bg, og, owg, Cg, rfl, hkg, hCg⟩ := hgA.all GateM.len (by omega)
  have hseg := (hCg i x hx).2
  simp only [GateM.c] at hseg
  refine SemC_fn TT.ok fn85 rfl rfl ?_
  simp only [Try.f85, start, KC_normal, go_sem, Nat.reduceEqDiff, Nat.reduceAdd, reduceIte, reduceCtorEq, Nat.reduceLeDiff, Nat.reduceShiftRight, Nat.reduceAnd, Nat.reduceOr, Nat.reducePow, Nat.reduceBNe, Nat.reduceBEq]
  generalize hX : H.push _ = H1
  obtain ⟨hE1, h7, hn1⟩ := new_push hX
  clear hX
  simp only [start, KC_normal, go_sem, Nat.reduceEqDiff, Nat.reduceAdd, reduceIte, reduceCtorEq, Nat.reduceLeDiff, Nat.reduceShiftRight, Nat.reduceAnd, Nat.reduceOr, Nat.reducePow, Nat.reduceBNe, Nat.reduceBEq, h7, ia_in _ _ _ _ _ hlt, (hkg.step hE1.step).get, hseg]
  generalize hX : (H1.push _).put _ _ = H2
  obtain ⟨hE2, h8, hn2⟩ := new_put hX
  clear hX
  have h72 := (hE2.get H.next (by omega)).trans h7
  have no : ¬ gOkM g i x → (false = true ↔ gOkM g i x) := fun h => ⟨fun e => (by cases e), fun e => (h e).elim⟩
  by_cases k0 : x.K < 0
  · refine DRg_x TT.ok [0, 1, 3, 7, 15, 31, 63, 127, 255, 511, 1023, 2047, 511, 511, 8703, 29183, 65535, 131071] 18 262143 74 rfl (by decide +kernel) ?_
    simp only [start, KC_normal, go_sem, Nat.reduceEqDiff, Nat.reduceAdd, reduceIte, reduceCtorEq, Nat.reduceLeDiff, Nat.reduceShiftRight, Nat.reduceAnd, Nat.reduceOr, Nat.reducePow, Nat.reduceBNe, Nat.reduceBEq, h8, h72, k0]
    exact hQ false _ ((hE1.trans hE2).skip 18) (no fun h => by have := h.1; omega)
  by_cases k12 : 12 ≤ x.K
  · refine DRg_x TT.ok [0, 1, 3, 7, 15, 31, 63, 127, 255, 511, 1023, 2047, 511, 511, 8703, 29183, 65535, 131071] 18 262143 74 rfl (by decide +kernel) ?_
    simp only [start, KC_normal, go_sem, Nat.reduceEqDiff, Nat.reduceAdd, reduceIte, reduceCtorEq, Nat.reduceLeDiff, Nat.reduceShiftRight, Nat.reduceAnd, Nat.reduceOr, Nat.reducePow, Nat.reduceBNe, Nat.reduceBEq, h8, h72, k0, k12]
    exact hQ false _ ((hE1.trans hE2).skip 18) (no fun h => by have := h.2.1; omega)
  refine DRg_x TT.ok [0, 1, 3, 7, 15, 31, 63, 127, 255, 511, 1023, 2047, 511, 511, 8703, 29183, 65535, 131071] 18 262143 74 rfl (by decide +kernel) ?_
  simp only [start, KC_normal, go_sem, Nat.reduceEqDiff, Nat.reduceAdd, reduceIte, reduceCtorEq, Nat.reduceLeDiff, Nat.reduceShiftRight, Nat.reduceAnd, Nat.reduceOr, Nat.reducePow, Nat.reduceBNe, Nat.reduceBEq, h8, h72, k0, k12]
  have hcm := gOk_most (g := g) (i := i) k0 k12
  have hNlt := x.N.isLt
  have hNw : IntKind.i64.wrap (x.N.toNat : Int) = (x.N.toNat : Int) := wrap_i64 _ (by omega) (by omega)
  refine f86_c (hv0.step ((hE1.trans hE2).skip 18).step) hs hp fun H3 hE3 => ?_
  have hE13 : Ext H H3 := ((hE1.trans hE2).skip 18).trans hE3
  have h83 : H3.get H1.next = _ := (hE3.get H1.next (by simp only [Heap.next_skip]; omega)).trans h8
  have h73 : H3.get H.next = _ := (hE3.get H.next (by simp only [Heap.next_skip]; omega)).trans h72
  simp only [start, KC_normal, go_sem, Nat.reduceEqDiff, Nat.reduceAdd, reduceIte, reduceCtorEq, Nat.reduceLeDiff, Nat.reduceShiftRight, Nat.reduceAnd, Nat.reduceOr, Nat.reducePow, Nat.reduceBNe, Nat.reduceBEq, hNw, h83, h73]
  by_cases kN : mostM g x.K < x.N.toNat
  · simp only [start, KC_normal, go_sem, Nat.reduceEqDiff, Nat.reduceAdd, reduceIte, reduceCtorEq, Nat.reduceLeDiff, Nat.reduceShiftRight, Nat.reduceAnd, Nat.reduceOr, Nat.reducePow, Nat.reduceBNe, Nat.reduceBEq, kN, h83, h73]
    exact hQ false _ hE13 (no fun h => (hcm.1 h).1 kN)
  simp only [start, KC_normal, go_sem, Nat.reduceEqDiff, Nat.reduceAdd, reduceIte, reduceCtorEq, Nat.reduceLeDiff, Nat.reduceShiftRight, Nat.reduceAnd, Nat.reduceOr, Nat.reducePow, Nat.reduceBNe, Nat.reduceBEq, kN, h83, h73, r_index, r_buildS, fb_array, fill_two]
  have hw0 : ((0 : Nat) : Int) = 0 := rfl
  refine wp_loop TT.ok rfl rfl (fun j st => ∃ tm H' k, st = ⟨tm, 74, [], false, H'⟩ ∧ j = 2 - k ∧ k ≤ 2 ∧ Ext H H' ∧ H'.get H.next = .cells true 4 [.slice (some ⟨bg, og, none⟩) g.gates.length cg, .int .i64 g.secrets, .int .i64 g.publics, .slice au g.outs.length cu] ∧
    H'.get H1.next = .cells true 5 [.int .i64 x.K, .int .i64 x.A, .int .i64 x.B, .int .u32 x.N.toNat, .bool x.S] ∧ H1.next < H'.next ∧ (∀ q, q < k → opOk i x.K (two x.A x.B q) q) ∧
    tm.get 1 = some (.int .i64 (i : Nat)) ∧ tm.get 2 = some (.pointer (some ⟨H.next, 0, none⟩)) ∧ tm.get 5 = some (.pointer (some ⟨H1.next, 0, none⟩)) ∧ tm.get 6 = some (.bool (accG g x k)) ∧ tm.get 39 = some (.agg #[.int .i64 x.A, .int .i64 x.B]) ∧ tm.get 40 = some (.int .i64 (k : Nat))) 2 ?_ ?_
  · refine ⟨_, H3, 0, rfl, rfl, Nat.zero_le _, hE13, h73, h83, ?_, fun q hq => by omega, ?_, ?_, ?_, ?_, ?_, ?_⟩
    · have := hE3.le; simp only [Heap.next_skip] at this; omega
    all_goals simp only [start, KC_normal, go_sem, Nat.reduceEqDiff, Nat.reduceAdd, reduceIte, reduceCtorEq, Nat.reduceLeDiff, Nat.reduceShiftRight, Nat.reduceAnd, Nat.reduceOr, Nat.reducePow, Nat.reduceBNe, Nat.reduceBEq]
    all_goals rfl
  · rintro j st - ⟨tm, H', k, rfl, hj, hk, hE, o2, o5, hlt5, hall, t1, t2, t5, t6, t39, t40⟩
    have hkg' := hkg.step hE.step
    simp only [start, KC_normal, go_sem, Nat.reduceEqDiff, Nat.reduceAdd, reduceIte, reduceCtorEq, Nat.reduceLeDiff, Nat.reduceShiftRight, Nat.reduceAnd, Nat.reduceOr, Nat.reducePow, Nat.reduceBNe, Nat.reduceBEq, t40]
    refine CN_split (fun hlt2 => ?_) (fun hge => ?_)
    · have hk2 : k < 2 := by omega
      simp only [start, KC_normal, go_sem, Nat.reduceEqDiff, Nat.reduceAdd, reduceIte, reduceCtorEq, Nat.reduceLeDiff, Nat.reduceShiftRight, Nat.reduceAnd, Nat.reduceOr, Nat.reducePow, Nat.reduceBNe, Nat.reduceBEq, t5, t39, t40, r_index, ix_two hk2, o5]
      refine f87_c fun r hr => ?_
      have noo : ¬ opOk i x.K (two x.A x.B k) k → ¬ gOkM g i x := fun h hg => by
        have := hcm.1 hg
        match k, hk2, h with
        | 0, _, h => exact h this.2.1
        | 1, _, h => exact h this.2.2.1
      have okk : opOk i x.K (two x.A x.B k) k → ∀ q, q < k + 1 → opOk i x.K (two x.A x.B q) q := fun h q hq => by
        rcases Nat.lt_or_ge q k with h' | h'
        · exact hall q h'
        · obtain rfl : q = k := by omega
          exact h
      have e2 : IntKind.i64.wrap ((k : Int) + 1) = ((k + 1 : Nat) : Int) := by rw [wrap_i64 _ (by omega) (by omega)]; simp
      have hac : accG g x (k + 1) = (accG g x k || (decide ((k : Int) < takesG x.K) && g.sec (two x.A x.B k))) := rfl
      generalize two x.A x.B k = y at *
      by_cases htk : r ≤ (k : Int)
      · have hacc : accG g x (k + 1) = accG g x k := by
          have : ¬ ((k : Int) < takesG x.K) := by omega
          simp [accG, this]
        have hop : opOk i x.K y k ↔ y = 0 := by unfold opOk; rw [if_pos (by omega)]
        by_cases hy : y = 0
        · simp only [start, KC_normal, go_sem, Nat.reduceEqDiff, Nat.reduceAdd, reduceIte, reduceCtorEq, Nat.reduceLeDiff, Nat.reduceShiftRight, Nat.reduceAnd, Nat.reduceOr, Nat.reducePow, Nat.reduceBNe, Nat.reduceBEq, htk, hy, t5, t6, t39, t40]
          refine ⟨2 - (k + 1), by omega, _, H', k + 1, rfl, rfl, by omega, hE, o2, o5, hlt5, okk (hop.2 hy), ?_, ?_, ?_, ?_, ?_, ?_⟩
          all_goals simp only [start, KC_normal, go_sem, Nat.reduceEqDiff, Nat.reduceAdd, reduceIte, reduceCtorEq, Nat.reduceLeDiff, Nat.reduceShiftRight, Nat.reduceAnd, Nat.reduceOr, Nat.reducePow, Nat.reduceBNe, Nat.reduceBEq, t1, t2, t5, t6, t39, hacc]
          rw [e2]
        · simp only [start, KC_normal, go_sem, Nat.reduceEqDiff, Nat.reduceAdd, reduceIte, reduceCtorEq, Nat.reduceLeDiff, Nat.reduceShiftRight, Nat.reduceAnd, Nat.reduceOr, Nat.reducePow, Nat.reduceBNe, Nat.reduceBEq, htk, hy]
          exact hQ false _ hE (no (noo fun h => hy (hop.1 h)))
      · have hop : opOk i x.K y k ↔ 0 ≤ y ∧ y < i := by unfold opOk; rw [if_neg (by omega)]
        by_cases hy0 : y < 0
        · simp only [start, KC_normal, go_sem, Nat.reduceEqDiff, Nat.reduceAdd, reduceIte, reduceCtorEq, Nat.reduceLeDiff, Nat.reduceShiftRight, Nat.reduceAnd, Nat.reduceOr, Nat.reducePow, Nat.reduceBNe, Nat.reduceBEq, htk, hy0]
          exact hQ false _ hE (no (noo fun h => by have := hop.1 h; omega))
        by_cases hyi : (i : Int) ≤ y
        · simp only [start, KC_normal, go_sem, Nat.reduceEqDiff, Nat.reduceAdd, reduceIte, reduceCtorEq, Nat.reduceLeDiff, Nat.reduceShiftRight, Nat.reduceAnd, Nat.reduceOr, Nat.reducePow, Nat.reduceBNe, Nat.reduceBEq, htk, hy0, hyi, t1]
          exact hQ false _ hE (no (noo fun h => by have := hop.1 h; omega))
        have hyy : 0 ≤ y ∧ y < i := ⟨by omega, by omega⟩
        have hyl : y < (g.gates.length : Int) := by omega
        obtain ⟨gY, hgY', hsecY⟩ := sec_get (g := g) hyy.1 hyl
        have hSY := (hCg _ _ hgY').1 4 (by omega)
        simp only [GateM.c, List.getElem?_cons_succ, List.getElem?_cons_zero] at hSY
        have hkt : (k : Int) < takesG x.K := by omega
        cases ha : accG g x k with
        | true =>
          rw [ha] at t6 hac
          simp only [start, KC_normal, go_sem, Nat.reduceEqDiff, Nat.reduceAdd, reduceIte, reduceCtorEq, Nat.reduceLeDiff, Nat.reduceShiftRight, Nat.reduceAnd, Nat.reduceOr, Nat.reducePow, Nat.reduceBNe, Nat.reduceBEq, htk, hy0, hyi, t1, t2, t5, t6, t39, t40]
          refine ⟨2 - (k + 1), by omega, _, H', k + 1, rfl, rfl, by omega, hE, o2, o5, hlt5, okk (hop.2 hyy), ?_, ?_, ?_, ?_, ?_, ?_⟩
          all_goals simp only [start, KC_normal, go_sem, Nat.reduceEqDiff, Nat.reduceAdd, reduceIte, reduceCtorEq, Nat.reduceLeDiff, Nat.reduceShiftRight, Nat.reduceAnd, Nat.reduceOr, Nat.reducePow, Nat.reduceBNe, Nat.reduceBEq, t1, t2, t5, t6, t39]
          · rw [hac]; rfl
          · rw [e2]
        | false =>
          rw [ha] at t6 hac
          simp only [start, KC_normal, go_sem, Nat.reduceEqDiff, Nat.reduceAdd, reduceIte, reduceCtorEq, Nat.reduceLeDiff, Nat.reduceShiftRight, Nat.reduceAnd, Nat.reduceOr, Nat.reducePow, Nat.reduceBNe, Nat.reduceBEq, htk, hy0, hyi, t1, t2, t5, t6, t39, t40, o2, ia_int _ _ _ _ _ hyy.1 hyl, hkg'.get, hSY]
          refine ⟨2 - (k + 1), by omega, _, H', k + 1, rfl, rfl, by omega, hE, o2, o5, hlt5, okk (hop.2 hyy), ?_, ?_, ?_, ?_, ?_, ?_⟩
          all_goals simp only [start, KC_normal, go_sem, Nat.reduceEqDiff, Nat.reduceAdd, reduceIte, reduceCtorEq, Nat.reduceLeDiff, Nat.reduceShiftRight, Nat.reduceAnd, Nat.reduceOr, Nat.reducePow, Nat.reduceBNe, Nat.reduceBEq, t1, t2, t5, t6, t39]
          · rw [hac, hsecY]; simp [hkt]
          · rw [e2]
    · have hk2 : k = 2 := by omega
      subst hk2
      simp only [start, KC_normal, go_sem, Nat.reduceEqDiff, Nat.reduceAdd, reduceIte, reduceCtorEq, Nat.reduceLeDiff, Nat.reduceShiftRight, Nat.reduceAnd, Nat.reduceOr, Nat.reducePow, Nat.reduceBNe, Nat.reduceBEq, t5, t6, o5]
      refine hQ _ _ hE ?_
      rw [hcm]
      have h0 := hall 0 (by omega)
      have h1 := hall 1 (by omega)
      refine ⟨fun h => ⟨kN, h0, h1, by simpa using h⟩, fun h => by simpa using h.2.2.2⟩
end Go.Ab.Ex
