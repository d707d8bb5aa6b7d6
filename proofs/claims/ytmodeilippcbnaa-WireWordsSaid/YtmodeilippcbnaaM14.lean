/- Parts of the proof, joined by program: Wire: a gate's wires, by the document: the model; gates that take none; Wire: what is a circuit, a graph; a circuit of its own; Wire: a graph with a kind in the place of each fresh one, by the document; Wire: truths that are compared; Wire: a gate's wires, by the document: gadgets. -/
import Derived.Test.YtmodeilippcbnaaM13
import Derived.Test.YtmodeilippcbnaaM06
set_option linter.all false
section
namespace Go.Ab.Ex
open Go.Proofs
set_option maxRecDepth 10000

def cellC (v : Value) : List Value := [v]
theorem cellC_len (v : Value) : (cellC v).length = 1 := rfl

/-- rows of wires -/
structure RowsR (F : Fr) (H : Heap) (v : Value) (rows : List (List Int)) : Prop where
  ex : ∃ vs : List Value, vs.length = rows.length ∧ Sl F H 1 v vs.length (vs.flatMap cellC) ∧ ∀ (i : Nat) (r : List Int), rows[i]? = some r → ∃ u, vs[i]? = some u ∧ Sl F H 1 u r.length (r.flatMap intC)
theorem RowsR.step {F F' : Fr} {H H' : Heap} {v : Value} {rows : List (List Int)} (h : RowsR F H v rows) (s : Step F H F' H') : RowsR F' H' v rows :=
  let ⟨vs, h1, h2, h3⟩ := h.ex; ⟨vs, h1, h2.step s, fun i r hr => let ⟨u, k1, k2⟩ := h3 i r hr; ⟨u, k1, k2.step s⟩⟩
theorem RowsR.noF {F : Fr} {H : Heap} {v : Value} {rows : List (List Int)} (h : RowsR F H v rows) : RowsR noF H v rows :=
  let ⟨vs, h1, h2, h3⟩ := h.ex; ⟨vs, h1, h2.noF, fun i r hr => let ⟨u, k1, k2⟩ := h3 i r hr; ⟨u, k1, k2.noF⟩⟩
theorem RowsR.sub {F F' : Fr} {H : Heap} {v : Value} {rows : List (List Int)} (h : RowsR F H v rows) (hF : ∀ j, F' j → F j) : RowsR F' H v rows :=
  let ⟨vs, h1, h2, h3⟩ := h.ex; ⟨vs, h1, h2.sub hF, fun i r hr => let ⟨u, k1, k2⟩ := h3 i r hr; ⟨u, k1, k2.sub hF⟩⟩

/-- element for element: with 'kp', all but the first stay -/
def elOps (kp : Bool) (k : Int) (N : BitVec 32) (a : List Int) (bs : Nat → Int) : List OpM := (if kp then a.take 1 else a).mapIdx fun i y => ⟨k, y, bs i, N⟩
def elRow (kp : Bool) (a : List Int) (n : Int) : List Int := a.mapIdx fun i y => if kp && decide (0 < i) then y else n + i

def CircM.sec (g : CircM) (i : Int) : Bool := (g.gates[i.toNat]?).elim false GateM.S
def rowOf (rows : List (List Int)) (i : Int) : List Int := rows.getD i.toNat []

/-- a gate of two -/
def twoM (g : CircM) (rows : List (List Int)) (n : Int) (x : GateM) : List OpM × List Int :=
  let sw := g.sec x.B && !g.sec x.A
  let a := rowOf rows (if sw then x.B else x.A)
  let b := rowOf rows (if sw then x.A else x.B)
  let sb := g.sec (if sw then x.A else x.B)
  (elOps (decide (x.K = 4) && !sb) (stepOf x.K) 0 a (fun i => b.getD (if sb then i else 0) 0), elRow (decide (x.K = 4) && !sb) a n)

/-- a gate's steps and wires; what goes before it are n wires -/
def gateM (g : CircM) (d : Nat) (rows : List (List Int)) (n : Int) (x : GateM) : List OpM × List Int :=
  if x.K = 1 then ([], (List.range (d + 1)).map fun (i : Nat) => (x.N.toNat : Int) * (d + 1) + i)
  else if x.K = 2 then ([], [g.secrets * (d + 1) + x.N.toNat])
  else if x.K = 0 then ([⟨7, 0, 0, x.N⟩], [n])
  else if x.K = 12 then gadgetM false d (rowOf rows x.A) n
  else if x.K = 3 ∧ g.sec x.A = true ∧ g.sec x.B = true then gadgetM true d (rowOf rows x.A ++ rowOf rows x.B) n
  else if x.K = 3 ∨ x.K = 4 then twoM g rows n x
  else (elOps (decide (x.K = 5)) (stepOf x.K) x.N (rowOf rows x.A) (fun _ => 0), elRow (decide (x.K = 5)) (rowOf rows x.A) n)

theorem bs_step : bsE (some ⟨.int .i64, 1, 8, some (.int .i64 0), false, []⟩) 9 [(0, .int .i64 7), (1, .int .i64 0), (2, .int .i64 0), (3, .int .i64 1), (4, .int .i64 2), (5, .int .i64 3), (6, .int .i64 4), (7, .int .i64 5), (8, .int .i64 6)] =
    some (.cells true 1 [.int .i64 7, .int .i64 0, .int .i64 0, .int .i64 1, .int .i64 2, .int .i64 3, .int .i64 4, .int .i64 5, .int .i64 6], fun b => .slice (some ⟨b, 0, none⟩) 9 9) := (rfl)
theorem f51_c {H : Heap} {k : Int} (hk : 3 ≤ k ∧ k ≤ 8) {Q : Ret → Heap → Prop} (hQ : ∀ H' r, Ext H H' → r = stepOf k → Q (.ret (.int .i64 r)) H') : C 51 #[.int .i64 k] H Q := by
  refine SemC_fn TT.ok fn51 rfl rfl ?_
  simp only [Try.f51, start, KC_normal, go_sem, Nat.reduceEqDiff, Nat.reduceAdd, reduceIte, reduceCtorEq, Nat.reduceLeDiff, Nat.reduceShiftRight, Nat.reduceAnd, Nat.reduceOr, Nat.reducePow, Nat.reduceBNe, Nat.reduceBEq, bs_step]
  simp only [start, KC_normal, go_sem, Nat.reduceEqDiff, Nat.reduceAdd, reduceIte, reduceCtorEq, Nat.reduceLeDiff, Nat.reduceShiftRight, Nat.reduceAnd, Nat.reduceOr, Nat.reducePow, Nat.reduceBNe, Nat.reduceBEq, ia_int _ _ _ 9 k (by omega) (by omega)]
  obtain rfl | rfl | rfl | rfl | rfl | rfl : k = 3 ∨ k = 4 ∨ k = 5 ∨ k = 6 ∨ k = 7 ∨ k = 8 := by omega
  all_goals
    simp only [start, KC_normal, go_sem, Nat.reduceEqDiff, Nat.reduceAdd, reduceIte, reduceCtorEq, Nat.reduceLeDiff, Nat.reduceShiftRight, Nat.reduceAnd, Nat.reduceOr, Nat.reducePow, Nat.reduceBNe, Nat.reduceBEq, Nat.zero_add, Nat.mul_one, Int.reduceToNat]
    exact hQ _ _ ((Ext.refl H).push _) rfl
/-- the circuit's box and the gate's box, and a list that is made -/
theorem pre3 {H H' : Heap} {a b c : AObj} (hX : ((H.push a).push b).push c = H') : Ext H H' ∧ H'.get H.next = a ∧ H'.get (H.next + 1) = b ∧ H'.get (H.next + 1 + 1) = c ∧ H'.next = H.next + 3 := by
  subst hX
  refine ⟨(((Ext.refl H).push a).push b).push c, ?_, ?_, ?_, rfl⟩
  · rw [H_get_old _ _ _ (show H.next < (H.push a).next + 1 by simp only [Heap.next_push]; omega), H_get_old _ _ _ (show H.next < (H.push a).next by simp only [Heap.next_push]; omega), H_get_new]
  · rw [H_get_old _ _ _ (show H.next + 1 < (H.push a).next + 1 by simp only [Heap.next_push]; omega)]; exact H_get_new _ _
  · exact H_get_new _ _

/-- what a gate needs -/
structure GateIn (F : Fr) (H : Heap) (bm : Nat) (inn : Int) (ops : List OpM) (outs : List Int) (d : Nat) (g : CircM) (rows : List (List Int)) (vg vl : Value) : Prop where
  m : MkR F H bm inn ops outs
  l : ops.length < 70000
  i : 0 ≤ inn ∧ inn < 1000000
  d : 1 ≤ d ∧ d ≤ 6
  c : CircR F H vg g
  s : 0 ≤ g.secrets ∧ g.secrets ≤ 1000
  r : RowsR F H vl rows

/-- what comes of it -/
def GateQ (F : Fr) (H : Heap) (bm : Nat) (inn : Int) (ops : List OpM) (outs : List Int) (d : Nat) (g : CircM) (rows : List (List Int)) (x : GateM) (Q : Ret → Heap → Prop) : Prop :=
  ∀ H' F' v b, MkR F' H' bm inn (ops ++ (gateM g d rows (inn + ops.length) x).1) outs → Step F H F' H' → Own1 H' 1 ((gateM g d rows (inn + ops.length) x).2.flatMap intC) v (gateM g d rows (inn + ops.length) x).2.length b → (∀ j, b = some j → H.next ≤ j ∧ ¬ F' j) → Q (.ret v) H'

def GateM.v (x : GateM) : Value := .agg #[.int .i64 x.K, .int .i64 x.A, .int .i64 x.B, .int .u32 x.N.toNat, .bool x.S]

section
variable {F : Fr} {H : Heap} {bm : Nat} {inn : Int} {ops : List OpM} {outs : List Int} {d : Nat} {g : CircM} {rows : List (List Int)} {vg vl : Value} {Q : Ret → Heap → Prop}

theorem f29_0 (h : GateIn F H bm inn ops outs d g rows vg vl) {A B : Int} {N : BitVec 32} {S : Bool} (hQ : GateQ F H bm inn ops outs d g rows ⟨0, A, B, N, S⟩ Q) :
    C 29 #[.pointer (some ⟨bm, 0, none⟩), vg, GateM.v ⟨0, A, B, N, S⟩, vl, .int .i64 (d : Nat)] H Q := by
  obtain ⟨v1, v2, rfl, hg1, hg2⟩ := h.c.ex
  obtain ⟨ag, cg, rfl, -, -, hgA⟩ := hg1.ex
  obtain ⟨au, cu, rfl, -, -, huA⟩ := hg2.ex
  refine SemC_fn TT.ok fn29 rfl rfl ?_
  simp only [Try.f29, GateM.v, start, KC_normal, go_sem, Nat.reduceEqDiff, Nat.reduceAdd, reduceIte, reduceCtorEq, Nat.reduceLeDiff, Nat.reduceShiftRight, Nat.reduceAnd, Nat.reduceOr, Nat.reducePow, Nat.reduceBNe, Nat.reduceBEq]
  generalize hX : ((H.push _).push _).push _ = H1
  obtain ⟨hE1, h6, h7, h8, hn1⟩ := pre3 hX
  clear hX
  simp only [start, KC_normal, go_sem, Nat.reduceEqDiff, Nat.reduceAdd, reduceIte, reduceCtorEq, Nat.reduceLeDiff, Nat.reduceShiftRight, Nat.reduceAnd, Nat.reduceOr, Nat.reducePow, Nat.reduceBNe, Nat.reduceBEq, h6, h7, Int.reduceEq]
  refine f30_c (h.m.ext hE1) (by have := h.l; omega) h.i fun H2 F2 hm2 hS2 => ?_
  simp only [start, KC_normal, go_sem, Nat.reduceEqDiff, Nat.reduceAdd, reduceIte, reduceCtorEq, Nat.reduceLeDiff, Nat.reduceShiftRight, Nat.reduceAnd, Nat.reduceOr, Nat.reducePow, Nat.reduceBNe, Nat.reduceBEq]
  generalize hY : H2.push _ = H3
  obtain ⟨hE3, -, hn3⟩ := new_push hY
  have hle := hE1.le
  have hle2 := hS2.le
  exact hQ H3 F2 _ (some H2.next) (hm2.ext hE3) ((hE1.step.trans hS2).trans hE3.step) (Own1.new hY rfl) fun j hj => by cases hj; exact ⟨by omega, fun hf => by have := hm2.bd.lt _ hf; omega⟩

theorem f29_2 (h : GateIn F H bm inn ops outs d g rows vg vl) (hp : 0 ≤ g.publics ∧ g.publics ≤ 1000) {A B : Int} {N : BitVec 32} {S : Bool} (hQ : GateQ F H bm inn ops outs d g rows ⟨2, A, B, N, S⟩ Q) :
    C 29 #[.pointer (some ⟨bm, 0, none⟩), vg, GateM.v ⟨2, A, B, N, S⟩, vl, .int .i64 (d : Nat)] H Q := by
  obtain ⟨v1, v2, rfl, hg1, hg2⟩ := h.c.ex
  obtain ⟨ag, cg, rfl, -, -, hgA⟩ := hg1.ex
  obtain ⟨au, cu, rfl, -, -, huA⟩ := hg2.ex
  refine SemC_fn TT.ok fn29 rfl rfl ?_
  simp only [Try.f29, GateM.v, start, KC_normal, go_sem, Nat.reduceEqDiff, Nat.reduceAdd, reduceIte, reduceCtorEq, Nat.reduceLeDiff, Nat.reduceShiftRight, Nat.reduceAnd, Nat.reduceOr, Nat.reducePow, Nat.reduceBNe, Nat.reduceBEq]
  generalize hX : ((H.push _).push _).push _ = H1
  obtain ⟨hE1, h6, h7, h8, hn1⟩ := pre3 hX
  clear hX
  simp only [start, KC_normal, go_sem, Nat.reduceEqDiff, Nat.reduceAdd, reduceIte, reduceCtorEq, Nat.reduceLeDiff, Nat.reduceShiftRight, Nat.reduceAnd, Nat.reduceOr, Nat.reducePow, Nat.reduceBNe, Nat.reduceBEq, h6, h7, Int.reduceEq]
  generalize hY : H1.push _ = H3
  obtain ⟨hE3, -, hn3⟩ := new_push hY
  have hle := hE1.le
  have hs := h.s
  have hd := h.d
  have hN : ((N.toNat : Nat) : Int) < 4294967296 := by have := N.isLt; omega
  have e : IntKind.i64.wrap (IntKind.i64.wrap (g.secrets * IntKind.i64.wrap ((d : Int) + 1)) + IntKind.i64.wrap (N.toNat : Int)) = g.secrets * ((d : Int) + 1) + (N.toNat : Int) := by
    have hb : 0 ≤ g.secrets * ((d : Int) + 1) ∧ g.secrets * ((d : Int) + 1) ≤ 7000 := by
      refine ⟨Int.mul_nonneg hs.1 (by omega), ?_⟩
      have h1 : g.secrets * ((d : Int) + 1) ≤ g.secrets * 7 := Int.mul_le_mul_of_nonneg_left (by omega) hs.1
      omega
    rw [wrap_i64 ((d : Int) + 1) (by omega) (by omega), wrap_i64 (N.toNat : Int) (by omega) (by omega), wrap_i64 (g.secrets * ((d : Int) + 1)) (by omega) (by omega), wrap_i64 _ (by omega) (by omega)]
  rw [e] at hY
  exact hQ H3 F _ (some H1.next) (by simpa [gateM] using (h.m.ext hE1).ext hE3) (hE1.step.trans hE3.step) (Own1.new hY rfl) fun j hj => by cases hj; exact ⟨by omega, fun hf => by have := h.m.bd.lt _ hf; omega⟩

theorem f29_1 (h : GateIn F H bm inn ops outs d g rows vg vl) {A B : Int} {N : BitVec 32} {S : Bool} (hQ : GateQ F H bm inn ops outs d g rows ⟨1, A, B, N, S⟩ Q) :
    C 29 #[.pointer (some ⟨bm, 0, none⟩), vg, GateM.v ⟨1, A, B, N, S⟩, vl, .int .i64 (d : Nat)] H Q := by
  obtain ⟨v1, v2, rfl, hg1, hg2⟩ := h.c.ex
  obtain ⟨ag, cg, rfl, -, -, hgA⟩ := hg1.ex
  obtain ⟨au, cu, rfl, -, -, huA⟩ := hg2.ex
  refine SemC_fn TT.ok fn29 rfl rfl ?_
  simp only [Try.f29, GateM.v, start, KC_normal, go_sem, Nat.reduceEqDiff, Nat.reduceAdd, reduceIte, reduceCtorEq, Nat.reduceLeDiff, Nat.reduceShiftRight, Nat.reduceAnd, Nat.reduceOr, Nat.reducePow, Nat.reduceBNe, Nat.reduceBEq]
  generalize hX : ((H.push _).push _).push _ = H1
  obtain ⟨hE1, h6, h7, h8, hn1⟩ := pre3 hX
  clear hX
  simp only [start, KC_normal, go_sem, Nat.reduceEqDiff, Nat.reduceAdd, reduceIte, reduceCtorEq, Nat.reduceLeDiff, Nat.reduceShiftRight, Nat.reduceAnd, Nat.reduceOr, Nat.reducePow, Nat.reduceBNe, Nat.reduceBEq, h6, h7, Int.reduceEq]
  have hd := h.d
  have hN : ((N.toNat : Nat) : Int) < 4294967296 := by have := N.isLt; omega
  have ho := Own1.blk (sz := 1) (c := []) (H := H1) (H.next + 1 + 1) 0 (by omega) h8 rfl
  have hk7 : Kp (fun j => H.next + 2 ≤ j) H1 (H.next + 1) (.cells true 5 [.int .i64 1, .int .i64 A, .int .i64 B, .int .u32 N.toNat, .bool S]) := ⟨by omega, by omega, h7⟩
  refine wp_loop TT.ok rfl rfl (fun j s => ∃ tm H' v b i, s = ⟨tm, 214, [], false, H'⟩ ∧ j = d + 1 - i ∧ i ≤ d + 1 ∧ Ext H H' ∧ H'.get (H.next + 1) = (.cells true 5 [.int .i64 1, .int .i64 A, .int .i64 B, .int .u32 N.toNat, .bool S]) ∧ H.next + 1 < H'.next ∧
    Own1 H' 1 (((List.range i).map fun (i : Nat) => (N.toNat : Int) * (d + 1) + i).flatMap intC) v ((List.range i).map fun (i : Nat) => (N.toNat : Int) * (d + 1) + i).length b ∧ (∀ j, b = some j → H.next + 2 ≤ j) ∧
    tm.get 4 = some (.int .i64 (d : Nat)) ∧ tm.get 7 = some (.pointer (some ⟨H.next + 1, 0, none⟩)) ∧ tm.get 11 = some v ∧ tm.get 12 = some (.int .i64 (i : Nat))) (d + 1) ?_ ?_
  · refine ⟨_, H1, .slice (some ⟨H.next + 1 + 1, 0, none⟩) 0 0, some (H.next + 1 + 1), 0, rfl, rfl, Nat.zero_le _, hE1, h7, by omega, ho, fun j hj => by cases hj; omega, ?_, ?_, ?_, ?_⟩
    all_goals simp only [start, KC_normal, go_sem, Nat.reduceEqDiff, Nat.reduceAdd, reduceIte, reduceCtorEq, Nat.reduceLeDiff, Nat.reduceShiftRight, Nat.reduceAnd, Nat.reduceOr, Nat.reducePow, Nat.reduceBNe, Nat.reduceBEq]
    rfl
  · clear h6 h7 h8 hE1 hn1 ho hk7
    rintro j s - ⟨tm, H', v, b, i, rfl, hj, hi, hE, h7, hlt, ho, hb, t4, t7, t11, t12⟩
    simp only [start, KC_normal, go_sem, Nat.reduceEqDiff, Nat.reduceAdd, reduceIte, reduceCtorEq, Nat.reduceLeDiff, Nat.reduceShiftRight, Nat.reduceAnd, Nat.reduceOr, Nat.reducePow, Nat.reduceBNe, Nat.reduceBEq, t4, t7, t11, t12]
    refine CN_split (fun hle => ?_) (fun hgt => ?_)
    · simp only [start, KC_normal, go_sem, Nat.reduceEqDiff, Nat.reduceAdd, reduceIte, reduceCtorEq, Nat.reduceLeDiff, Nat.reduceShiftRight, Nat.reduceAnd, Nat.reduceOr, Nat.reducePow, Nat.reduceBNe, Nat.reduceBEq, t4, t7, t11, t12, h7]
      have e : IntKind.i64.wrap (IntKind.i64.wrap (IntKind.i64.wrap (N.toNat : Int) * IntKind.i64.wrap ((d : Int) + 1)) + (i : Int)) = (N.toNat : Int) * ((d : Int) + 1) + (i : Int) := by
        have hb : 0 ≤ (N.toNat : Int) * ((d : Int) + 1) ∧ (N.toNat : Int) * ((d : Int) + 1) ≤ 30064771072 := by
          refine ⟨Int.mul_nonneg (by omega) (by omega), ?_⟩
          have h1 : (N.toNat : Int) * ((d : Int) + 1) ≤ (N.toNat : Int) * 7 := Int.mul_le_mul_of_nonneg_left (by omega) (by omega)
          omega
        rw [wrap_i64 ((d : Int) + 1) (by omega) (by omega), wrap_i64 (N.toNat : Int) (by omega) (by omega), wrap_i64 ((N.toNat : Int) * ((d : Int) + 1)) (by omega) (by omega), wrap_i64 _ (by omega) (by omega)]
      rw [e]
      obtain ⟨v7, H7, b7, he, hw7, hS7, hb7⟩ := app1_int ho (by simp only [List.length_map, List.length_range]; omega) ((N.toNat : Int) * ((d : Int) + 1) + (i : Int))
      have hle7 := (hS7 noF).le
      simp only [he, start, KC_normal, go_sem, Nat.reduceEqDiff, Nat.reduceAdd, reduceIte, reduceCtorEq, Nat.reduceLeDiff, Nat.reduceShiftRight, Nat.reduceAnd, Nat.reduceOr, Nat.reducePow, Nat.reduceBNe, Nat.reduceBEq, t12]
      refine ⟨d + 1 - (i + 1), by omega, _, H7, v7, b7, i + 1, rfl, rfl, by omega, hE.app hS7 (fun j hj => by have := hb j hj; omega), ?_, by omega, ?_, fun j hj => by have := hb7 j hj; omega, ?_, ?_, ?_, ?_⟩
      · rw [(hS7 noF).get _ hlt (fun hf => by rcases hf with hf | hf; exact hf; have := hb _ hf; omega)]; exact h7
      · rw [List.range_succ, List.map_append]; exact hw7
      all_goals simp only [start, KC_normal, go_sem, Nat.reduceEqDiff, Nat.reduceAdd, reduceIte, reduceCtorEq, Nat.reduceLeDiff, Nat.reduceShiftRight, Nat.reduceAnd, Nat.reduceOr, Nat.reducePow, Nat.reduceBNe, Nat.reduceBEq, t4, t7]
      rw [wrap_i64 _ (by omega) (by omega)]; simp
    · have hi' : i = d + 1 := by omega
      subst hi'
      simp only [start, KC_normal, go_sem, Nat.reduceEqDiff, Nat.reduceAdd, reduceIte, reduceCtorEq, Nat.reduceLeDiff, Nat.reduceShiftRight, Nat.reduceAnd, Nat.reduceOr, Nat.reducePow, Nat.reduceBNe, Nat.reduceBEq, t11]
      exact hQ H' F v b (by simpa [gateM] using h.m.ext hE) hE.step ho fun j hj => by have := hb j hj; exact ⟨by omega, fun hf => by have := h.m.bd.lt _ hf; omega⟩
end

end Go.Ab.Ex
end
section
namespace Go.Ab.Ex
open Go.Proofs
set_option maxRecDepth 10000

def gOkM (g : CircM) (i : Nat) (x : GateM) : Prop :=
  0 ≤ x.K ∧ x.K ≤ 11 ∧ (takesG x.K < 2 → x.B = 0) ∧ (takesG x.K < 1 → x.A = 0) ∧ (0 < takesG x.K → 0 ≤ x.A ∧ x.A < i) ∧ (1 < takesG x.K → 0 ≤ x.B ∧ x.B < i) ∧
  (x.K = 1 → (x.N.toNat : Int) < g.secrets) ∧ (x.K = 2 → (x.N.toNat : Int) < g.publics) ∧ (6 ≤ x.K ∧ x.K ≤ 8 → (x.N.toNat : Int) ≤ 31) ∧ ((3 ≤ x.K ∧ x.K ≤ 5) ∨ 9 ≤ x.K → (x.N.toNat : Int) = 0) ∧
  x.S = (decide (x.K = 1) || decide (0 < takesG x.K) && g.sec x.A || decide (1 < takesG x.K) && g.sec x.B)
structure CircOk (g : CircM) : Prop where
  s : 0 ≤ g.secrets ∧ g.secrets ≤ 1000
  p : 0 ≤ g.publics ∧ g.publics ≤ 1000
  l : g.gates.length ≤ 8000
  t : ∀ (i : Nat) (x : GateM), g.gates[i]? = some x → gOkM g i x
  o : ∀ (i : Nat) (x : OutM), g.outs[i]? = some x → 0 ≤ x.At ∧ x.At < g.gates.length
def asG (k : Int) (x : GateM) : GateM := if x.K = 12 then { x with K := k } else x
def CircM.as (g : CircM) (k : Int) : CircM := { g with gates := g.gates.map (asG k) }
structure GraphOk (g : CircM) : Prop where
  c : CircOk (g.as 5)
  k : ∀ (i : Nat) (x : GateM), (g.as 5).gates[i]? = some x → x.K ≤ 8
  r : ∀ (i : Nat) (x : GateM), g.gates[i]? = some x → x.K = 12 → g.sec x.A = true

/-- a circuit of its own -/
structure CircOwn (H H' : Heap) (v : Value) (g : CircM) : Prop where
  ex : ∃ vg vo b c, v = .agg #[vg, .int .i64 g.secrets, .int .i64 g.publics, vo] ∧ Own1 H' 5 (g.gates.flatMap GateM.c) vg g.gates.length b ∧ Own1 H' 2 (g.outs.flatMap OutM.c) vo g.outs.length c ∧ (∀ j, b = some j → H.next ≤ j) ∧ (∀ j, c = some j → H.next ≤ j) ∧ (∀ j, b = some j → ¬ c = some j)
theorem CircOwn.r {H H' : Heap} {v : Value} {g : CircM} (h : CircOwn H H' v g) {F : Fr} (hB : Bd F H) : CircR F H' v g := by
  obtain ⟨vg, vo, b, c, rfl, h1, h2, h3, h4, -⟩ := h.ex
  exact ⟨vg, vo, rfl, h1.sl (out_new hB h3), h2.sl (out_new hB h4)⟩

theorem app_own {T : Tab} {t e : TypeId} {de : TypeDesc} {sz by_ : Nat} {z : Value} {ag : Bool} {fl : List (Nat × Nat)} {a1 a2 : Nat} {a3 : Option Value} {a4 : Bool} {a5 : List (Nat × Nat)} (h0 : T.ty t = some ⟨.slice e, a1, a2, a3, a4, a5⟩) (he : T.ty e = some ⟨de, sz, by_, some z, ag, fl⟩) (hz : z.cells.toList.length = sz) (hby : by_ ≤ 1000)
    {α : Type} {f : α → List Value} (h1 : ∀ x, (f x).all oneCell = true) {F0 : Fr} {H : Heap} {k : Nat} {x : Value} {l : List α} (hk : k < H.next) (ho : H.get k = .cells true sz []) (hx : Sl F0 H sz x l.length (l.flatMap f)) (hl : l.length < 1000000) :
    ∃ v' H' b', appendC T H #[t, t] (.slice (some ⟨k, 0, none⟩) 0 0) x = some (.val v' H') ∧ Own1 H' sz (l.flatMap f) v' l.length b' ∧ (∀ F : Fr, Step (F.un (some k)) H (F.un b') H') ∧ (∀ j, b' = some j → j = k ∨ H.next ≤ j) := by
  obtain ⟨v', H', b', k1, k2, k3, k4⟩ := appN h0 he hz hby h1 (l := []) (.blk k 0 hk ho (by simp)) hx (by simp only [List.length_nil]; omega)
  simp only [List.nil_append] at k2
  exact ⟨v', H', b', k1, k2, k3, fun j hj => (k4 j hj).imp (fun e => by cases e; rfl) id⟩

theorem pre2 {H H' : Heap} {a b : AObj} (hX : (H.push a).push b = H') : Ext H H' ∧ H'.get H.next = a ∧ H'.get (H.next + 1) = b ∧ H'.next = H.next + 2 := by
  subst hX
  refine ⟨((Ext.refl H).push a).push b, ?_, H_get_new _ _, rfl⟩
  rw [H_get_old _ _ _ (show H.next < (H.push a).next by simp only [Heap.next_push]; omega), H_get_new]

theorem skip_put0 {H H' : Heap} {n k : Nat} {c : AObj} (hX : (H.skip n).put (H.next + k) c = H') (hk : k < n) : Ext H H' ∧ H'.get (H.next + k) = c ∧ H'.next = H.next + n := by
  subst hX; exact ⟨((Ext.refl H).skip n).put (Nat.le_add_right _ _) c, H_put_same _ _ _, rfl⟩

theorem f10_c {F : Fr} {H : Heap} {v : Value} {g : CircM} (hv : CircR F H v g) (hl : g.gates.length < 1000000 ∧ g.outs.length < 1000000) {Q : Ret → Heap → Prop} (hQ : ∀ H' u, Ext H H' → CircOwn H H' u g → Q (.ret u) H') : C 10 #[v] H Q := by
  obtain ⟨v1, v2, rfl, hg1, hg2⟩ := hv.noF.ex
  obtain ⟨ag, cg, rfl, h3, h4, hgA⟩ := hg1.ex
  obtain ⟨au, cu, rfl, h5, h6, huA⟩ := hg2.ex
  refine SemC_fn TT.ok fn10 rfl rfl ?_
  simp only [Try.f10, start, KC_normal, go_sem, Nat.reduceEqDiff, Nat.reduceAdd, reduceIte, reduceCtorEq, Nat.reduceLeDiff, Nat.reduceShiftRight, Nat.reduceAnd, Nat.reduceOr, Nat.reducePow, Nat.reduceBNe, Nat.reduceBEq]
  generalize hX : (H.push _).push _ = H1
  obtain ⟨hE1, h7, h8, hn1⟩ := pre2 hX
  clear hX
  refine DRg_x TT.ok [0, 0, 2, 7, 0, 16, 0, 64, 0, 0, 512, 1807, 4095, 8191] 14 16383 16 rfl (by decide +kernel) ?_
  simp only [start, KC_normal, go_sem, Nat.reduceEqDiff, Nat.reduceAdd, reduceIte, reduceCtorEq, Nat.reduceLeDiff, Nat.reduceShiftRight, Nat.reduceAnd, Nat.reduceOr, Nat.reducePow, Nat.reduceBNe, Nat.reduceBEq, h7]
  generalize hY : (H1.skip 14).put H1.next _ = H2
  have hY' : (H1.skip 14).put (H1.next + 0) (.cells true 5 []) = H2 := hY
  obtain ⟨hE2, h9, hn2⟩ := skip_put0 hY' (by omega)
  clear hY hY'
  rw [Nat.add_zero] at h9
  obtain ⟨v3, H3, b3, he3, ho3, hS3, hb3⟩ := app_own (T := TT) (t := 22) ty22 ty60 rfl (by omega) GateM.one (by omega) h9 ((Sl.mkA hgA h3 h4).step (hE1.trans hE2).step) hl.1
  have hE13 : Ext H1 H3 := hE2.app hS3 fun j hj => by cases hj; omega
  have h73 := (hE13.get _ (by omega)).trans h7
  simp only [he3, start, KC_normal, go_sem, Nat.reduceEqDiff, Nat.reduceAdd, reduceIte, reduceCtorEq, Nat.reduceLeDiff, Nat.reduceShiftRight, Nat.reduceAnd, Nat.reduceOr, Nat.reducePow, Nat.reduceBNe, Nat.reduceBEq, h7, h73]
  generalize hZ : H3.put _ _ = H4
  have hle3 := hE13.le
  have hle2 : H2.next ≤ H3.next := (hS3 noF).le
  have hE14 : Ext H1 H4 := by subst hZ; exact hE13.put (Nat.le_add_right _ _) _
  have ho4 : Own1 H4 5 (g.gates.flatMap GateM.c) v3 g.gates.length b3 := by
    subst hZ
    exact ho3.put (fun j hj => by have := hb3 j hj; omega) _
  have h10 : H4.get (H1.next + 8) = .cells true 2 [] := by subst hZ; exact H_put_same _ _ _
  have hn4 : H4.next = H3.next := by subst hZ; rfl
  clear hZ
  obtain ⟨v5, H5, b5, he5, ho5, hS5, hb5⟩ := app_own (T := TT) (t := 23) ty23 ty56 rfl (by omega) OutM.one (by omega) h10 ((Sl.mkA huA h5 h6).step (hE1.trans hE14).step) hl.2
  have hE15 : Ext H1 H5 := hE14.app hS5 fun j hj => by cases hj; omega
  have h75 := (hE15.get _ (by omega)).trans h7
  have h85 := (hE15.get _ (by omega)).trans h8
  obtain ⟨a3, rfl⟩ := ho3.len
  obtain ⟨a5, rfl⟩ := ho5.len
  simp only [he5, start, KC_normal, go_sem, Nat.reduceEqDiff, Nat.reduceAdd, reduceIte, reduceCtorEq, Nat.reduceLeDiff, Nat.reduceShiftRight, Nat.reduceAnd, Nat.reduceOr, Nat.reducePow, Nat.reduceBNe, Nat.reduceBEq, h75, h85]
  refine hQ _ _ ((hE1.trans hE15).put (show H.next ≤ H.next + 1 by omega) _) ⟨_, _, b3, b5, rfl, ?_, ?_, ?_, ?_, ?_⟩
  · refine Own1.put (ho4.step (hS5 noF) ?_) ?_ _
    · intro j hj hf
      rcases hf with hf | hf
      · exact hf
      · cases hf; have := hb3 _ hj; omega
    · intro j hj; have := hb3 j hj; omega
  · refine ho5.put ?_ _
    intro j hj; have := hb5 j hj; omega
  · intro j hj; have := hb3 j hj; omega
  · intro j hj; have := hb5 j hj; omega
  · intro j hj hj'; have := hb3 j hj; have := hb5 j hj'; have := ho3.lt hj; omega
end Go.Ab.Ex
end
section
namespace Go.Ab.Ex
open Go.Proofs
set_option maxRecDepth 10000

theorem fm_set {α : Type} {f : α → List Value} {m : Nat} (hf : ∀ x, (f x).length = m) : ∀ (l : List α) (i j : Nat) (x x' : α) (v : Value), l[i]? = some x → j < m → (f x).set j v = f x' → (l.flatMap f).set (i * m + j) v = (l.set i x').flatMap f
  | [], i, j, x, x', v, h, _, _ => by simp at h
  | y :: l, 0, j, x, x', v, h, hj, he => by
    simp at h; subst h
    simp only [List.flatMap_cons, Nat.zero_mul, Nat.zero_add, List.set_cons_zero]
    rw [List.set_append_left _ _ (by rw [hf]; exact hj), he]
  | y :: l, i + 1, j, x, x', v, h, hj, he => by
    simp at h
    simp only [List.flatMap_cons, List.set_cons_succ]
    rw [List.set_append_right _ _ (by rw [hf, Nat.succ_mul]; omega), hf, show (i + 1) * m + j - m = i * m + j by rw [Nat.succ_mul]; omega, fm_set hf l i j x x' v h hj he]

def asTo (k : Int) (l : List GateM) (i : Nat) : List GateM := (l.take i).map (asG k) ++ l.drop i
theorem asTo_len (k : Int) (l : List GateM) (i : Nat) : (asTo k l i).length = l.length := by simp [asTo]; omega
theorem asTo_get {k : Int} {l : List GateM} {i : Nat} {x : GateM} (h : l[i]? = some x) : (asTo k l i)[i]? = some x := by
  have hi : i < l.length := by
    rcases Nat.lt_or_ge i l.length with h' | h'
    · exact h'
    · rw [List.getElem?_eq_none h'] at h; cases h
  unfold asTo
  rw [List.getElem?_append_right (by simp; omega)]
  simp [Nat.min_eq_left (Nat.le_of_lt hi), h]
theorem asTo_succ {k : Int} {l : List GateM} {i : Nat} {x : GateM} (h : l[i]? = some x) : asTo k l (i + 1) = (asTo k l i).set i (asG k x) := by
  have hi : i < l.length := by
    rcases Nat.lt_or_ge i l.length with h' | h'
    · exact h'
    · rw [List.getElem?_eq_none h'] at h; cases h
  have hx : l[i] = x := by rw [List.getElem?_eq_getElem hi] at h; exact Option.some.inj h
  unfold asTo
  rw [take_next h, List.map_append, List.set_append_right _ _ (by simp; omega), List.length_map, List.length_take, Nat.min_eq_left (Nat.le_of_lt hi), Nat.sub_self, List.drop_eq_getElem_cons hi, List.set_cons_zero]
  simp
theorem asTo_all (k : Int) (l : List GateM) : asTo k l l.length = l.map (asG k) := by simp [asTo]

theorem setSeg_one (c : List Value) (o : Nat) (v : Value) : setSeg c o [v] = c.set o v := (rfl)

theorem f40_c {F : Fr} {H : Heap} {v : Value} {g : CircM} {k : Int} (hv : CircR F H v g) (hl : g.gates.length < 1000000 ∧ g.outs.length < 1000000) {Q : Ret → Heap → Prop} (hQ : ∀ H' u, Ext H H' → CircOwn H H' u (g.as k) → Q (.ret u) H') : C 40 #[v, .int .i64 k] H Q := by
  obtain ⟨v1, v2, rfl, hg1, hg2⟩ := hv.noF.ex
  obtain ⟨ag, cg, rfl, h3, h4, hgA⟩ := hg1.ex
  obtain ⟨au, cu, rfl, h5, h6, huA⟩ := hg2.ex
  refine SemC_fn TT.ok fn40 rfl rfl ?_
  simp only [Try.f40, start, KC_normal, go_sem, Nat.reduceEqDiff, Nat.reduceAdd, reduceIte, reduceCtorEq, Nat.reduceLeDiff, Nat.reduceShiftRight, Nat.reduceAnd, Nat.reduceOr, Nat.reducePow, Nat.reduceBNe, Nat.reduceBEq]
  generalize hX : (H.push _).push _ = H1
  obtain ⟨hE1, h7, h8, hn1⟩ := pre2 hX
  clear hX
  simp only [start, KC_normal, go_sem, Nat.reduceEqDiff, Nat.reduceAdd, reduceIte, reduceCtorEq, Nat.reduceLeDiff, Nat.reduceShiftRight, Nat.reduceAnd, Nat.reduceOr, Nat.reducePow, Nat.reduceBNe, Nat.reduceBEq, h7]
  refine f10_c (hv.noF.step hE1.step) hl fun H2 u hE2 hown => ?_
  obtain ⟨vg, vo, b, c, rfl, ho1, ho2, hb, hc, hbc⟩ := hown.ex
  obtain ⟨a3, rfl⟩ := ho1.len
  obtain ⟨a5, rfl⟩ := ho2.len
  simp only [start, KC_normal, go_sem, Nat.reduceEqDiff, Nat.reduceAdd, reduceIte, reduceCtorEq, Nat.reduceLeDiff, Nat.reduceShiftRight, Nat.reduceAnd, Nat.reduceOr, Nat.reducePow, Nat.reduceBNe, Nat.reduceBEq]
  generalize hY : (H2.push _).put _ _ = H3
  obtain ⟨hE3, h9, hn3⟩ := new_put hY
  clear hY
  have hE13 := hE2.trans hE3
  have h83 := (hE13.get _ (by omega)).trans h8
  have hle2 := hE2.le
  refine wp_loop TT.ok rfl rfl (fun j s => ∃ tm H' i, s = ⟨tm, 30, [], false, H'⟩ ∧ j = g.gates.length - i ∧ i ≤ g.gates.length ∧ Ext H H' ∧ H3.next ≤ H'.next ∧
    H'.get (H.next + 1) = .cells true 4 [.slice none 0 0, .int .i64 0, .int .i64 0, .slice none 0 0] ∧ H'.get H2.next = .cells true 4 [.slice a3 g.gates.length g.gates.length, .int .i64 g.secrets, .int .i64 g.publics, .slice a5 g.outs.length g.outs.length] ∧
    Own1 H' 5 ((asTo k g.gates i).flatMap GateM.c) (.slice a3 g.gates.length g.gates.length) g.gates.length b ∧ Own1 H' 2 (g.outs.flatMap OutM.c) (.slice a5 g.outs.length g.outs.length) g.outs.length c ∧
    tm.get 1 = some (.int .i64 k) ∧ tm.get 4 = some (.pointer (some ⟨H.next + 1, 0, none⟩)) ∧ tm.get 5 = some (.pointer (some ⟨H2.next, 0, none⟩)) ∧ tm.get 6 = some (.int .i64 (i : Nat))) g.gates.length ?_ ?_
  · refine ⟨_, H3, 0, rfl, rfl, Nat.zero_le _, hE1.trans hE13, Nat.le_refl _, h83, h9, by simpa [asTo] using ho1.ext hE3, ho2.ext hE3, ?_, ?_, ?_, ?_⟩
    all_goals simp only [start, KC_normal, go_sem, Nat.reduceEqDiff, Nat.reduceAdd, reduceIte, reduceCtorEq, Nat.reduceLeDiff, Nat.reduceShiftRight, Nat.reduceAnd, Nat.reduceOr, Nat.reducePow, Nat.reduceBNe, Nat.reduceBEq]
    rfl
  · have hlb : ∀ j, b = some j → j < H2.next := fun j hj => ho1.lt hj
    have hlc : ∀ j, c = some j → j < H2.next := fun j hj => ho2.lt hj
    clear ho1 ho2 h83 h9 hown
    rintro j s - ⟨tm, H', i, rfl, hj, hi, hE, hle, h8, h9, ho1, ho2, t1, t4, t5, t6⟩
    simp only [start, KC_normal, go_sem, Nat.reduceEqDiff, Nat.reduceAdd, reduceIte, reduceCtorEq, Nat.reduceLeDiff, Nat.reduceShiftRight, Nat.reduceAnd, Nat.reduceOr, Nat.reducePow, Nat.reduceBNe, Nat.reduceBEq, t5, t6, h9]
    refine CN_split (fun hlt => ?_) (fun hge => ?_)
    · have hlt' : i < g.gates.length := by omega
      obtain ⟨x, hx⟩ : ∃ x, g.gates[i]? = some x := ⟨_, List.getElem?_eq_getElem hlt'⟩
      obtain ⟨bk, hbk⟩ := ho1.pos (by omega)
      obtain ⟨q1, q2, q3, q4⟩ := ho1.at hbk
      simp only [Value.slice.injEq, and_true] at q3
      subst q3
      have hx' := asTo_get (k := k) hx
      have hC : ∀ kk, kk < 5 → ((asTo k g.gates i).flatMap GateM.c)[i * 5 + kk]? = x.c[kk]? := fun kk hkk => fm_get GateM.len _ i kk x hx' hkk
      have hC0 := hC 0 (by omega)
      simp only [GateM.c, Nat.add_zero, List.getElem?_cons_zero] at hC0
      simp only [start, KC_normal, go_sem, Nat.reduceEqDiff, Nat.reduceAdd, reduceIte, reduceCtorEq, Nat.reduceLeDiff, Nat.reduceShiftRight, Nat.reduceAnd, Nat.reduceOr, Nat.reducePow, Nat.reduceBNe, Nat.reduceBEq, t5, t6, h9, ia_in _ _ _ _ _ hlt', q2]
      simp only [GateM.c, hC0, start, KC_normal, go_sem, Nat.reduceEqDiff, Nat.reduceAdd, reduceIte, reduceCtorEq, Nat.reduceLeDiff, Nat.reduceShiftRight, Nat.reduceAnd, Nat.reduceOr, Nat.reducePow, Nat.reduceBNe, Nat.reduceBEq]
      have hbl := hlb bk hbk
      have hbe := hb bk hbk
      refine CN_split (fun h12 => ?_) (fun h12 => ?_)
      · simp only [start, KC_normal, go_sem, Nat.reduceEqDiff, Nat.reduceAdd, reduceIte, reduceCtorEq, Nat.reduceLeDiff, Nat.reduceShiftRight, Nat.reduceAnd, Nat.reduceOr, Nat.reducePow, Nat.reduceBNe, Nat.reduceBEq, t1, t5, t6, h9, ia_in _ _ _ _ _ hlt', q2, setSeg_one]
        have hle5 : 0 + i * 5 + 0 + 1 ≤ ((asTo k g.gates i).flatMap GateM.c).length := by rw [fm_length GateM.len, asTo_len]; omega
        simp only [Nat.zero_add, Nat.add_zero] at hle5
        simp only [start, KC_normal, go_sem, Nat.reduceEqDiff, Nat.reduceAdd, reduceIte, reduceCtorEq, Nat.reduceLeDiff, Nat.reduceShiftRight, Nat.reduceAnd, Nat.reduceOr, Nat.reducePow, Nat.reduceBNe, Nat.reduceBEq, hle5, t1, t5, t6]
        have hset := fm_set GateM.len (asTo k g.gates i) i 0 x (asG k x) (.int .i64 k) hx' (by omega) (by simp only [asG, if_pos h12, GateM.c, List.set_cons_zero])
        rw [Nat.add_zero] at hset
        rw [hset, ← asTo_succ hx]
        refine ⟨g.gates.length - (i + 1), by omega, _, _, i + 1, rfl, rfl, by omega, hE.put (by omega) _, hle, ?_, ?_, ho1.set hbk (by rw [fm_length GateM.len, fm_length GateM.len, asTo_len, asTo_len]), ho2.put (fun j hj e => by subst e; exact hbc _ hbk hj) _, ?_, ?_, ?_, ?_⟩
        · rw [H_put_other _ _ _ _ (by omega)]; exact h8
        · rw [H_put_other _ _ _ _ (by omega)]; exact h9
        all_goals simp only [start, KC_normal, go_sem, Nat.reduceEqDiff, Nat.reduceAdd, reduceIte, reduceCtorEq, Nat.reduceLeDiff, Nat.reduceShiftRight, Nat.reduceAnd, Nat.reduceOr, Nat.reducePow, Nat.reduceBNe, Nat.reduceBEq, t1, t4, t5]
        rw [wrap_i64 _ (by omega) (by omega)]; simp
      · simp only [start, KC_normal, go_sem, Nat.reduceEqDiff, Nat.reduceAdd, reduceIte, reduceCtorEq, Nat.reduceLeDiff, Nat.reduceShiftRight, Nat.reduceAnd, Nat.reduceOr, Nat.reducePow, Nat.reduceBNe, Nat.reduceBEq, t6]
        have hsame : asTo k g.gates (i + 1) = asTo k g.gates i := by
          rw [asTo_succ hx, show asG k x = x from if_neg h12]
          apply List.ext_getElem?
          intro jj
          rw [List.getElem?_set]
          split
          · rename_i e; subst e; rw [asTo_len, if_pos hlt', hx']
          · rfl
        refine ⟨g.gates.length - (i + 1), by omega, _, _, i + 1, rfl, rfl, by omega, hE, hle, h8, h9, by rw [hsame]; exact ho1, ho2, ?_, ?_, ?_, ?_⟩
        all_goals simp only [start, KC_normal, go_sem, Nat.reduceEqDiff, Nat.reduceAdd, reduceIte, reduceCtorEq, Nat.reduceLeDiff, Nat.reduceShiftRight, Nat.reduceAnd, Nat.reduceOr, Nat.reducePow, Nat.reduceBNe, Nat.reduceBEq, t1, t4, t5]
        rw [wrap_i64 _ (by omega) (by omega)]; simp
    · have hi' : i = g.gates.length := by omega
      subst hi'
      rw [asTo_all] at ho1
      simp only [start, KC_normal, go_sem, Nat.reduceEqDiff, Nat.reduceAdd, reduceIte, reduceCtorEq, Nat.reduceLeDiff, Nat.reduceShiftRight, Nat.reduceAnd, Nat.reduceOr, Nat.reducePow, Nat.reduceBNe, Nat.reduceBEq, t4, t5, h8, h9, setSeg]
      refine hQ _ _ (hE.put (show H.next ≤ H.next + 1 by omega) _) ⟨_, _, b, c, rfl, ?_, ?_, fun j hj => by have := hb j hj; omega, fun j hj => by have := hc j hj; omega, hbc⟩
      · have := ho1.put (j := H.next + 1) (fun j hj => by have := hb j hj; omega) (.cells true 4 [.slice a3 g.gates.length g.gates.length, .int .i64 g.secrets, .int .i64 g.publics, .slice a5 g.outs.length g.outs.length])
        simpa [CircM.as] using this
      · have := ho2.put (j := H.next + 1) (fun j hj => by have := hc j hj; omega) (.cells true 4 [.slice a3 g.gates.length g.gates.length, .int .i64 g.secrets, .int .i64 g.publics, .slice a5 g.outs.length g.outs.length])
        simpa [CircM.as] using this
end Go.Ab.Ex
end
section
namespace Go.Ab.Ex
open Go.Proofs
theorem pr_neq (a b : Bool) (x y : Operand) : pureRun Try.prog (do
      let r ← (do
        eqGuard BinOp.neq 4 x y (Value.bool a) (Value.bool b)
        binOp BinOp.neq 4 (Value.bool a) (Value.bool b))
      pure (Next.value r)) = some (.value (.bool (a != b))) := by
  cases a <;> cases b <;> cases x <;> cases y <;> kernel_rfl
theorem pr_eql (a b : Bool) (x y : Operand) : pureRun Try.prog (do
      let r ← (do
        eqGuard BinOp.eql 4 x y (Value.bool a) (Value.bool b)
        binOp BinOp.eql 4 (Value.bool a) (Value.bool b))
      pure (Next.value r)) = some (.value (.bool (a == b))) := by
  cases a <;> cases b <;> cases x <;> cases y <;> kernel_rfl
section
variable (ρ : Operand → Value) (d : Option Tmp) (ty : TypeId) (ps : String) (af : Array Edge) (gd : Option (Nat × Bool)) (x y : Operand) (a b : Bool)
theorem bin_neqb (hx : ρ x = .bool a) (hy : ρ y = .bool b) : binO Try.prog TT ρ ⟨d, .binOp .neq 4 x y 4, ty, ps, af, gd⟩ .neq 4 (.bool a) (.bool b) = some (.bool (a != b)) := by
  have e : eqC TT 4 (.bool a) (.bool b) = none := by simp only [eqC, descOf, ty4]; rfl
  simp only [binO, isEq, e]
  unfold flatRun
  have e0 : (⟨d, .binOp .neq 4 x y 4, ty, ps, af, gd⟩ : Oper).op.operands.toList.all (fun x => flat (ρ x)) = true := by
    simp [Op.operands, hx, hy, flat, flat1, flat2]
  have e1 : execOp ρ ⟨d, .binOp .neq 4 x y 4, ty, ps, af, gd⟩ = (do
      let r ← (do
        eqGuard BinOp.neq 4 x y (Value.bool a) (Value.bool b)
        binOp BinOp.neq 4 (Value.bool a) (Value.bool b))
      pure (Next.value r)) := by
    unfold execOp
    simp only [hx, hy]
  rw [if_pos e0, e1, pr_neq]
  rfl
theorem bin_eqlb (hx : ρ x = .bool a) (hy : ρ y = .bool b) : binO Try.prog TT ρ ⟨d, .binOp .eql 4 x y 4, ty, ps, af, gd⟩ .eql 4 (.bool a) (.bool b) = some (.bool (a == b)) := by
  have e : eqC TT 4 (.bool a) (.bool b) = none := by simp only [eqC, descOf, ty4]; rfl
  simp only [binO, isEq, e]
  unfold flatRun
  have e0 : (⟨d, .binOp .eql 4 x y 4, ty, ps, af, gd⟩ : Oper).op.operands.toList.all (fun x => flat (ρ x)) = true := by
    simp [Op.operands, hx, hy, flat, flat1, flat2]
  have e1 : execOp ρ ⟨d, .binOp .eql 4 x y 4, ty, ps, af, gd⟩ = (do
      let r ← (do
        eqGuard BinOp.eql 4 x y (Value.bool a) (Value.bool b)
        binOp BinOp.eql 4 (Value.bool a) (Value.bool b))
      pure (Next.value r)) := by
    unfold execOp
    simp only [hx, hy]
  rw [if_pos e0, e1, pr_eql]
  rfl
end
attribute [go_sem] bin_neqb bin_eqlb
end Go.Ab.Ex
end
section
namespace Go.Ab.Ex
open Go.Proofs
set_option maxRecDepth 10000

theorem skip_put {H H' : Heap} {n k : Nat} {c : AObj} (hX : (H.skip n).put (H.next + k) c = H') (hk : k < n) : Ext H H' ∧ H'.get (H.next + k) = c ∧ H'.next = H.next + n := by
  subst hX; exact ⟨((Ext.refl H).skip n).put (Nat.le_add_right _ _) c, H_put_same _ _ _, rfl⟩

theorem rowOf_get {rows : List (List Int)} {i : Int} (h0 : 0 ≤ i) (h1 : i < rows.length) : rows[i.toNat]? = some (rowOf rows i) := by
  have : i.toNat < rows.length := by omega
  simp [rowOf, List.getElem?_eq_getElem this]

/-- the block of rows -/
theorem RowsR.all {F : Fr} {H : Heap} {vl : Value} {rows : List (List Int)} (h : RowsR F H vl rows) (hp : 0 < rows.length) : ∃ b o own C cap, vl = .slice (some ⟨b, o, none⟩) rows.length cap ∧ Kp F H b (.cells own 1 C) ∧
    ∀ i : Int, 0 ≤ i → i < rows.length → ∃ a2 c2, C[o + i.toNat * 1]? = some (.slice a2 (rowOf rows i).length c2) ∧ Sl F H 1 (.slice a2 (rowOf rows i).length c2) (rowOf rows i).length ((rowOf rows i).flatMap intC) := by
  obtain ⟨vs, hl, hs, hv⟩ := h.ex
  obtain ⟨a, cap, rfl, -, -, hA⟩ := hs.ex
  obtain ⟨b, o, own, C, rfl, hk, hC⟩ := hA.all cellC_len (by omega)
  refine ⟨b, o, own, C, cap, by rw [hl], hk, fun i h0 h1 => ?_⟩
  obtain ⟨u, hu, hsl⟩ := hv _ _ (rowOf_get h0 h1)
  obtain ⟨a2, c2, rfl, -⟩ := hsl.ex
  have := (hC _ _ hu).1 0 (by omega)
  simp only [cellC, Nat.add_zero, List.getElem?_cons_zero] at this
  exact ⟨a2, c2, this, hsl⟩

theorem sec_get {g : CircM} {i : Int} (h0 : 0 ≤ i) (h1 : i < g.gates.length) : ∃ x, g.gates[i.toNat]? = some x ∧ g.sec i = x.S := by
  have : i.toNat < g.gates.length := by omega
  exact ⟨g.gates[i.toNat], by simp, by simp [CircM.sec, this]⟩

section
variable {F : Fr} {H : Heap} {bm : Nat} {inn : Int} {ops : List OpM} {outs : List Int} {d : Nat} {g : CircM} {rows : List (List Int)} {vg vl : Value} {Q : Ret → Heap → Prop}

theorem f29_12 (h : GateIn F H bm inn ops outs d g rows vg vl) {A B : Int} {N : BitVec 32} {S : Bool} (hA : 0 ≤ A ∧ A < rows.length) (hrg : rows.length ≤ g.gates.length) (hrl : (rowOf rows A).length = d + 1) (hQ : GateQ F H bm inn ops outs d g rows ⟨12, A, B, N, S⟩ Q) :
    C 29 #[.pointer (some ⟨bm, 0, none⟩), vg, GateM.v ⟨12, A, B, N, S⟩, vl, .int .i64 (d : Nat)] H Q := by
  obtain ⟨v1, v2, rfl, hg1, hg2⟩ := h.c.ex
  obtain ⟨ag, cg, rfl, -, -, hgA⟩ := hg1.ex
  obtain ⟨au, cu, rfl, -, -, huA⟩ := hg2.ex
  obtain ⟨bl, ol, owl, Cl, cl, rfl, hkl, hCl⟩ := h.r.all (by omega)
  obtain ⟨bg, og, owg, Cg, rfl, hkg, hCg⟩ := hgA.all GateM.len (by omega)
  obtain ⟨a2, c2, hlA, hsA⟩ := hCl A hA.1 hA.2
  obtain ⟨gA, hgA', hsecA⟩ := sec_get (g := g) hA.1 (by omega)
  have hgS := (hCg _ _ hgA').1 4 (by omega)
  simp only [GateM.c, List.getElem?_cons_succ, List.getElem?_cons_zero] at hgS
  refine SemC_fn TT.ok fn29 rfl rfl ?_
  simp only [Try.f29, GateM.v, start, KC_normal, go_sem, Nat.reduceEqDiff, Nat.reduceAdd, reduceIte, reduceCtorEq, Nat.reduceLeDiff, Nat.reduceShiftRight, Nat.reduceAnd, Nat.reduceOr, Nat.reducePow, Nat.reduceBNe, Nat.reduceBEq]
  generalize hX : ((H.push _).push _).push _ = H1
  obtain ⟨hE1, h6, h7, h8, hn1⟩ := pre3 hX
  clear hX
  simp only [start, KC_normal, go_sem, Nat.reduceEqDiff, Nat.reduceAdd, reduceIte, reduceCtorEq, Nat.reduceLeDiff, Nat.reduceShiftRight, Nat.reduceAnd, Nat.reduceOr, Nat.reducePow, Nat.reduceBNe, Nat.reduceBEq, h6, h7, Int.reduceEq]
  refine DRg_x TT.ok [0, 0, 2, 7, 15, 0, 0, 64, 0, 256, 960, 1984, 4032, 31, 8255, 32767, 65535] 17 131071 214 rfl (by decide +kernel) ?_
  simp only [start, KC_normal, go_sem, Nat.reduceEqDiff, Nat.reduceAdd, reduceIte, reduceCtorEq, Nat.reduceLeDiff, Nat.reduceShiftRight, Nat.reduceAnd, Nat.reduceOr, Nat.reducePow, Nat.reduceBNe, Nat.reduceBEq, h6, h7, ia_int _ _ _ _ _ hA.1 hA.2, ia_int _ _ _ _ _ hA.1 (show A < (g.gates.length : Int) by omega), (hkl.step hE1.step).get, hlA, (hkg.step hE1.step).get, hgS]
  generalize hY : (H1.skip 17).put _ _ = H2
  obtain ⟨hE2, h9, hn2⟩ := skip_put hY (by omega)
  clear hY
  have h7 := (hE2.get _ (by omega)).trans h7
  simp only [start, KC_normal, go_sem, Nat.reduceEqDiff, Nat.reduceAdd, reduceIte, reduceCtorEq, Nat.reduceLeDiff, Nat.reduceShiftRight, Nat.reduceAnd, Nat.reduceOr, Nat.reducePow, Nat.reduceBNe, Nat.reduceBEq, h7]
  refine f49_c fun r hr => ?_
  subst hr
  simp only [start, KC_normal, go_sem, Nat.reduceEqDiff, Nat.reduceAdd, reduceIte, reduceCtorEq, Nat.reduceLeDiff, Nat.reduceShiftRight, Nat.reduceAnd, Nat.reduceOr, Nat.reducePow, Nat.reduceBNe, Nat.reduceBEq, h7, show takesR 12 = 1 from rfl, Int.reduceLT, Int.reduceEq]
  refine f50_c (h.m.ext (hE1.trans hE2)) (by have := h.l; omega) h.i h.d (inp := rowOf rows A) (by rw [hrl]; unfold gIn; simp) (hsA.step (hE1.trans hE2).step) fun H3 F3 v b hm3 hS3 ho3 hb3 => ?_
  simp only [start, KC_normal, go_sem, Nat.reduceEqDiff, Nat.reduceAdd, reduceIte, reduceCtorEq, Nat.reduceLeDiff, Nat.reduceShiftRight, Nat.reduceAnd, Nat.reduceOr, Nat.reducePow, Nat.reduceBNe, Nat.reduceBEq]
  have e : gateM g d rows (inn + ops.length) ⟨12, A, B, N, S⟩ = gadgetM false d (rowOf rows A) (inn + ops.length) := rfl
  have hle := (hE1.trans hE2).le
  exact hQ H3 F3 v b (by rw [e]; exact hm3) ((hE1.trans hE2).step.trans hS3) (by rw [e]; exact ho3) fun j hj => ⟨by have := (hb3 j hj).1; omega, (hb3 j hj).2⟩

theorem f29_and (h : GateIn F H bm inn ops outs d g rows vg vl) {A B : Int} {N : BitVec 32} {S : Bool} (hA : 0 ≤ A ∧ A < rows.length) (hB : 0 ≤ B ∧ B < rows.length) (hrg : rows.length ≤ g.gates.length) (hrl : (rowOf rows A).length = d + 1) (hrl' : (rowOf rows B).length = d + 1) (sA : g.sec A = true) (sB : g.sec B = true) (hQ : GateQ F H bm inn ops outs d g rows ⟨3, A, B, N, S⟩ Q) :
    C 29 #[.pointer (some ⟨bm, 0, none⟩), vg, GateM.v ⟨3, A, B, N, S⟩, vl, .int .i64 (d : Nat)] H Q := by
  obtain ⟨v1, v2, rfl, hg1, hg2⟩ := h.c.ex
  obtain ⟨ag, cg, rfl, -, -, hgA⟩ := hg1.ex
  obtain ⟨au, cu, rfl, -, -, huA⟩ := hg2.ex
  obtain ⟨bl, ol, owl, Cl, cl, rfl, hkl, hCl⟩ := h.r.all (by omega)
  obtain ⟨bg, og, owg, Cg, rfl, hkg, hCg⟩ := hgA.all GateM.len (by omega)
  obtain ⟨a2, c2, hlA, hsA⟩ := hCl A hA.1 hA.2
  obtain ⟨a3, c3, hlB, hsB⟩ := hCl B hB.1 hB.2
  obtain ⟨gA, hgA', hsecA⟩ := sec_get (g := g) hA.1 (by omega)
  obtain ⟨gB, hgB', hsecB⟩ := sec_get (g := g) hB.1 (by omega)
  have hgS := (hCg _ _ hgA').1 4 (by omega)
  have hgS' := (hCg _ _ hgB').1 4 (by omega)
  simp only [GateM.c, List.getElem?_cons_succ, List.getElem?_cons_zero] at hgS hgS'
  rw [← hsecA, sA] at hgS
  rw [← hsecB, sB] at hgS'
  refine SemC_fn TT.ok fn29 rfl rfl ?_
  simp only [Try.f29, GateM.v, start, KC_normal, go_sem, Nat.reduceEqDiff, Nat.reduceAdd, reduceIte, reduceCtorEq, Nat.reduceLeDiff, Nat.reduceShiftRight, Nat.reduceAnd, Nat.reduceOr, Nat.reducePow, Nat.reduceBNe, Nat.reduceBEq]
  generalize hX : ((H.push _).push _).push _ = H1
  obtain ⟨hE1, h6, h7, h8, hn1⟩ := pre3 hX
  clear hX
  simp only [start, KC_normal, go_sem, Nat.reduceEqDiff, Nat.reduceAdd, reduceIte, reduceCtorEq, Nat.reduceLeDiff, Nat.reduceShiftRight, Nat.reduceAnd, Nat.reduceOr, Nat.reducePow, Nat.reduceBNe, Nat.reduceBEq, h6, h7, Int.reduceEq]
  refine DRg_x TT.ok [0, 0, 2, 7, 15, 0, 0, 64, 0, 256, 960, 1984, 4032, 31, 8255, 32767, 65535] 17 131071 214 rfl (by decide +kernel) ?_
  simp only [start, KC_normal, go_sem, Nat.reduceEqDiff, Nat.reduceAdd, reduceIte, reduceCtorEq, Nat.reduceLeDiff, Nat.reduceShiftRight, Nat.reduceAnd, Nat.reduceOr, Nat.reducePow, Nat.reduceBNe, Nat.reduceBEq, h6, h7, ia_int _ _ _ _ _ hA.1 hA.2, ia_int _ _ _ _ _ hA.1 (show A < (g.gates.length : Int) by omega), (hkl.step hE1.step).get, hlA, (hkg.step hE1.step).get, hgS]
  generalize hY : (H1.skip 17).put _ _ = H2
  obtain ⟨hE2, h9, hn2⟩ := skip_put hY (by omega)
  clear hY
  have h6 := (hE2.get _ (by omega)).trans h6
  have h7 := (hE2.get _ (by omega)).trans h7
  simp only [start, KC_normal, go_sem, Nat.reduceEqDiff, Nat.reduceAdd, reduceIte, reduceCtorEq, Nat.reduceLeDiff, Nat.reduceShiftRight, Nat.reduceAnd, Nat.reduceOr, Nat.reducePow, Nat.reduceBNe, Nat.reduceBEq, h7]
  refine f49_c fun r hr => ?_
  subst hr
  simp only [start, KC_normal, go_sem, Nat.reduceEqDiff, Nat.reduceAdd, reduceIte, reduceCtorEq, Nat.reduceLeDiff, Nat.reduceShiftRight, Nat.reduceAnd, Nat.reduceOr, Nat.reducePow, Nat.reduceBNe, Nat.reduceBEq, h7, show takesR 3 = 2 from rfl, Int.reduceLT, Int.reduceEq]
  have hE12 := hE1.trans hE2
  refine DRg_x TT.ok [0, 0, 2, 7, 15, 0, 32, 0, 128, 480, 992, 2016, 31, 8191] 14 16383 214 rfl (by decide +kernel) ?_
  simp only [start, KC_normal, go_sem, Nat.reduceEqDiff, Nat.reduceAdd, reduceIte, reduceCtorEq, Nat.reduceLeDiff, Nat.reduceShiftRight, Nat.reduceAnd, Nat.reduceOr, Nat.reducePow, Nat.reduceBNe, Nat.reduceBEq, h6, h7, ia_int _ _ _ _ _ hB.1 hB.2, ia_int _ _ _ _ _ hB.1 (show B < (g.gates.length : Int) by omega), (hkl.step hE12.step).get, hlB, (hkg.step hE12.step).get, hgS', Int.reduceEq]
  generalize hY : (H2.skip 14).push _ = H3
  obtain ⟨hE3', -, hn3⟩ := new_push hY
  have ho3 := Own1.new (n := 0) (sz := 1) (l := []) hY rfl
  have hE3 : Ext H2 H3 := ((Ext.refl H2).skip 14).trans hE3'
  clear hY
  simp only [Heap.next_skip] at ho3 hn3
  have hE13 := hE12.trans hE3
  obtain ⟨v4, H4, b4, he4, ho4, hS4, hb4⟩ := appN_int (l := []) ho3 (hsA.step hE13.step) (by have := h.d; simp only [List.length_nil]; omega)
  simp only [he4, start, KC_normal, go_sem, Nat.reduceEqDiff, Nat.reduceAdd, reduceIte, reduceCtorEq, Nat.reduceLeDiff, Nat.reduceShiftRight, Nat.reduceAnd, Nat.reduceOr, Nat.reducePow, Nat.reduceBNe, Nat.reduceBEq]
  have hle12 := hE12.le
  have hd := h.d
  have hE4 : Ext H H4 := hE13.app hS4 (fun j hj => by cases hj; omega)
  have hb4' : ∀ j, b4 = some j → H.next ≤ j := fun j hj => by
    rcases hb4 j hj with e | e
    · cases e; omega
    · omega
  obtain ⟨v5, H5, b5, he5, ho5, hS5, hb5⟩ := appN_int ho4 (hsB.step hE4.step) (by simp only [List.length_append, List.length_nil]; omega)
  have hE5 : Ext H H5 := hE4.app hS5 hb4'
  have hb5' : ∀ j, b5 = some j → H.next ≤ j := fun j hj => by
    rcases hb5 j hj with e | e
    · exact hb4' j e
    · have := hE4.le; omega
  simp only [he5, start, KC_normal, go_sem, Nat.reduceEqDiff, Nat.reduceAdd, reduceIte, reduceCtorEq, Nat.reduceLeDiff, Nat.reduceShiftRight, Nat.reduceAnd, Nat.reduceOr, Nat.reducePow, Nat.reduceBNe, Nat.reduceBEq]
  simp only [List.nil_append] at ho5
  refine f50_c (h.m.ext hE5) (by have := h.l; omega) h.i h.d (inp := rowOf rows A ++ rowOf rows B) (by rw [List.length_append, hrl, hrl']; unfold gIn; simp; omega) (ho5.sl (out_new h.m.bd hb5')) fun H6 F6 v b hm6 hS6 ho6 hb6 => ?_
  simp only [start, KC_normal, go_sem, Nat.reduceEqDiff, Nat.reduceAdd, reduceIte, reduceCtorEq, Nat.reduceLeDiff, Nat.reduceShiftRight, Nat.reduceAnd, Nat.reduceOr, Nat.reducePow, Nat.reduceBNe, Nat.reduceBEq]
  have e : gateM g d rows (inn + ops.length) ⟨3, A, B, N, S⟩ = gadgetM true d (rowOf rows A ++ rowOf rows B) (inn + ops.length) := by
    simp [gateM, sA, sB]
  have hle := hE5.le
  exact hQ H6 F6 v b (by rw [e]; exact hm6) (hE5.step.trans hS6) (by rw [e]; exact ho6) fun j hj => ⟨by have := (hb6 j hj).1; omega, (hb6 j hj).2⟩
end
end Go.Ab.Ex
end
