/- Parts of the proof, joined by program: Wire: a gate's wires, by the document: element for element; Wire: the model of what a graph comes to, and what is so of it; Wire: what is so of the model, gate by gate. -/
import Derived.Test.YtmodeilippcbnaaM14
import Derived.Test.YtmodeilippcbnaaM17
import Derived.Test.YtmodeilippcbnaaM16
set_option linter.all false
section
namespace Go.Ab.Ex
open Go.Proofs
set_option maxRecDepth 10000

section
variable {kp : Bool} {k n : Int} {N : BitVec 32} {a : List Int} {bs : Nat → Int} {i : Nat} {y : Int}
theorem take_same {α : Type} {l : List α} {i : Nat} (h : l.length ≤ i) : l.take (i + 1) = l.take i := by
  rw [List.take_of_length_le h, List.take_of_length_le (by omega)]
theorem elOps_len : (elOps kp k N a bs).length = if kp then min 1 a.length else a.length := by
  unfold elOps; cases kp <;> simp
theorem elRow_len : (elRow kp a n).length = a.length := by simp [elRow]
theorem el_next (h : a[i]? = some y) (hc : (kp && decide (0 < i)) = false) : (elOps kp k N a bs).take (i + 1) = (elOps kp k N a bs).take i ++ [⟨k, y, bs i, N⟩] ∧ (elRow kp a n).take (i + 1) = (elRow kp a n).take i ++ [n + i] ∧ ((elOps kp k N a bs).take i).length = i := by
  have hi : i < a.length := by
    rcases Nat.lt_or_ge i a.length with h' | h'
    · exact h'
    · rw [List.getElem?_eq_none h'] at h; cases h
  refine ⟨take_next ?_, take_next ?_, ?_⟩
  · unfold elOps
    rw [List.getElem?_mapIdx]
    cases kp with
    | false => simp [h]
    | true =>
      have : i = 0 := by simpa using hc
      subst this
      rw [if_pos rfl, List.getElem?_take, if_pos (by omega), h]; rfl
  · unfold elRow
    rw [List.getElem?_mapIdx, h]
    simp [hc]
  · rw [List.length_take, elOps_len]
    cases kp with
    | false => simp; omega
    | true =>
      have : i = 0 := by simpa using hc
      subst this; simp
theorem el_keep (h : a[i]? = some y) (hc : (kp && decide (0 < i)) = true) : (elOps kp k N a bs).take (i + 1) = (elOps kp k N a bs).take i ∧ (elRow kp a n).take (i + 1) = (elRow kp a n).take i ++ [y] := by
  refine ⟨take_same ?_, take_next ?_⟩
  · rw [elOps_len]
    simp only [Bool.and_eq_true, decide_eq_true_eq] at hc
    rw [if_pos hc.1]; omega
  · unfold elRow
    rw [List.getElem?_mapIdx, h]
    simp [hc]
theorem el_all : (elOps kp k N a bs).take a.length = elOps kp k N a bs ∧ (elRow kp a n).take a.length = elRow kp a n := by
  refine ⟨List.take_of_length_le ?_, List.take_of_length_le (by rw [elRow_len]; omega)⟩
  rw [elOps_len]; split <;> omega
end

section
variable {F : Fr} {H : Heap} {bm : Nat} {inn : Int} {ops : List OpM} {outs : List Int} {d : Nat} {g : CircM} {rows : List (List Int)} {vg vl : Value} {Q : Ret → Heap → Prop}

theorem f29_not (h : GateIn F H bm inn ops outs d g rows vg vl) {K A B : Int} {N : BitVec 32} {S : Bool} (hK : K = 5) (hA : 0 ≤ A ∧ A < rows.length) (hrg : rows.length ≤ g.gates.length) (hrl : (rowOf rows A).length ≤ 7) (hQ : GateQ F H bm inn ops outs d g rows ⟨K, A, B, N, S⟩ Q) :
    C 29 #[.pointer (some ⟨bm, 0, none⟩), vg, GateM.v ⟨K, A, B, N, S⟩, vl, .int .i64 (d : Nat)] H Q := by
  obtain ⟨v1, v2, rfl, hg1, hg2⟩ := h.c.ex
  obtain ⟨ag, cg, rfl, -, -, hgA⟩ := hg1.ex
  obtain ⟨au, cu, rfl, -, -, huA⟩ := hg2.ex
  obtain ⟨bl, ol, owl, Cl, cl, rfl, hkl, hCl⟩ := h.r.all (by omega)
  obtain ⟨bg, og, owg, Cg, rfl, hkg, hCg⟩ := hgA.all GateM.len (by omega)
  obtain ⟨a2, c2, hlA, hsA⟩ := hCl A hA.1 hA.2
  obtain ⟨gA, hgA', hsecA⟩ := sec_get (g := g) hA.1 (by omega)
  have hgS := (hCg _ _ hgA').1 4 (by omega)
  simp only [GateM.c, List.getElem?_cons_succ, List.getElem?_cons_zero] at hgS
  have hm0 := h.m
  have hl0 := h.l
  have hi0' := h.i
  have e : gateM g d rows (inn + ops.length) ⟨K, A, B, N, S⟩ = (elOps (decide (K = 5)) (stepOf K) N (rowOf rows A) (fun _ => 0), elRow (decide (K = 5)) (rowOf rows A) (inn + ops.length)) := by
    obtain rfl := hK
    all_goals rfl
  unfold GateQ at hQ
  rw [e] at hQ
  simp only at hQ
  clear e huA hg1 hg2 hCl hCg hgA h
  generalize hn : inn + (ops.length : Int) = n at *
  generalize hEd : elOps (decide (K = 5)) (stepOf K) N (rowOf rows A) (fun _ => 0) = E at *
  generalize hRd : elRow (decide (K = 5)) (rowOf rows A) n = R at *
  generalize rowOf rows A = a at *
  refine SemC_fn TT.ok fn29 rfl rfl ?_
  obtain rfl := hK
  all_goals
    simp only [Try.f29, GateM.v, start, KC_normal, go_sem, Nat.reduceEqDiff, Nat.reduceAdd, reduceIte, reduceCtorEq, Nat.reduceLeDiff, Nat.reduceShiftRight, Nat.reduceAnd, Nat.reduceOr, Nat.reducePow, Nat.reduceBNe, Nat.reduceBEq]
    generalize hX : ((H.push _).push _).push _ = H1
    obtain ⟨hE1, h6, h7, h8, hn1⟩ := pre3 hX
    clear hX
    simp only [start, KC_normal, go_sem, Nat.reduceEqDiff, Nat.reduceAdd, reduceIte, reduceCtorEq, Nat.reduceLeDiff, Nat.reduceShiftRight, Nat.reduceAnd, Nat.reduceOr, Nat.reducePow, Nat.reduceBNe, Nat.reduceBEq, h6, h7, Int.reduceEq]
    refine DRg_x TT.ok [0, 0, 2, 7, 15, 0, 0, 64, 0, 256, 960, 1984, 4032, 31, 8255, 32767, 65535] 17 131071 214 rfl (by decide +kernel) ?_
    simp only [start, KC_normal, go_sem, Nat.reduceEqDiff, Nat.reduceAdd, reduceIte, reduceCtorEq, Nat.reduceLeDiff, Nat.reduceShiftRight, Nat.reduceAnd, Nat.reduceOr, Nat.reducePow, Nat.reduceBNe, Nat.reduceBEq, h6, h7, ia_int _ _ _ _ _ hA.1 hA.2, ia_int _ _ _ _ _ hA.1 (show A < (g.gates.length : Int) by omega), (hkl.step hE1.step).get, hlA, (hkg.step hE1.step).get, hgS]
    generalize hY : (H1.skip 17).put _ _ = H2
    obtain ⟨hE2, h9, hn2⟩ := skip_put hY (by omega)
    clear hY
    have h7 := (hE2.get _ (by omega)).trans h7
    have h8 := (hE2.get _ (by omega)).trans h8
    simp only [start, KC_normal, go_sem, Nat.reduceEqDiff, Nat.reduceAdd, reduceIte, reduceCtorEq, Nat.reduceLeDiff, Nat.reduceShiftRight, Nat.reduceAnd, Nat.reduceOr, Nat.reducePow, Nat.reduceBNe, Nat.reduceBEq, h7]
    refine f49_c fun r hr => ?_
    subst hr
    simp only [start, KC_normal, go_sem, Nat.reduceEqDiff, Nat.reduceAdd, reduceIte, reduceCtorEq, Nat.reduceLeDiff, Nat.reduceShiftRight, Nat.reduceAnd, Nat.reduceOr, Nat.reducePow, Nat.reduceBNe, Nat.reduceBEq, h7, show takesR 5 = 1 from rfl, show takesR 6 = 1 from rfl, show takesR 7 = 1 from rfl, show takesR 8 = 1 from rfl, Int.reduceLT, Int.reduceEq]
    refine f49_c fun r hr => ?_
    subst hr
    simp only [start, KC_normal, go_sem, Nat.reduceEqDiff, Nat.reduceAdd, reduceIte, reduceCtorEq, Nat.reduceLeDiff, Nat.reduceShiftRight, Nat.reduceAnd, Nat.reduceOr, Nat.reducePow, Nat.reduceBNe, Nat.reduceBEq, h7, show takesR 5 = 1 from rfl, show takesR 6 = 1 from rfl, show takesR 7 = 1 from rfl, show takesR 8 = 1 from rfl, Int.reduceLT, Int.reduceEq]
    have hE12 := hE1.trans hE2
    have hle := hE12.le
    obtain ⟨x2, y2, e2, hcap2, hlen2, hsA'⟩ := hsA.ex
    cases e2
    obtain ⟨G, hG⟩ : ∃ G, G = H2.get (H.next + 1) := ⟨_, rfl⟩
    have hk7 : Kp F H2 (H.next + 1) G := Kp.mk' hm0.bd hE12 (by omega) (by omega) hG.symm
    rw [h7] at hG
    have ho := Own1.blk (sz := 1) (c := []) (H := H2) (H.next + 1 + 1) 0 (by omega) h8 rfl
    clear hE1 hE2 h6 h7 h8 h9 hkl hkg hlA hgS hsA
    refine wp_loop TT.ok rfl rfl (fun j s => ∃ tm H' F' b v i, s = ⟨tm, 214, [], false, H'⟩ ∧ j = a.length - i ∧ i ≤ a.length ∧ Step F H F' H' ∧ MkR F' H' bm inn (ops ++ E.take i) outs ∧ Kp (F'.un b) H' (H.next + 1) G ∧ SlA (F'.un b) H' 1 a.length c2 (a.flatMap intC) a2 ∧
      Own1 H' 1 ((R.take i).flatMap intC) v (R.take i).length b ∧ (∀ j, b = some j → H.next + 2 ≤ j ∧ ¬ F' j) ∧
      tm.get 0 = some (.pointer (some ⟨bm, 0, none⟩)) ∧ tm.get 7 = some (.pointer (some ⟨H.next + 1, 0, none⟩)) ∧ tm.get 11 = some v ∧ tm.get 13 = some (.slice a2 a.length c2) ∧ tm.get 17 = some (.int .i64 (i : Nat))) a.length ?_ ?_
    · have hb0 : ∀ j, some (H.next + 1 + 1) = some j → H.next + 2 ≤ j := fun j hj => by cases hj; omega
      refine ⟨_, H2, F, some (H.next + 1 + 1), .slice (some ⟨H.next + 1 + 1, 0, none⟩) 0 0, 0, rfl, rfl, Nat.zero_le _, hE12.step, by simpa using hm0.ext hE12, hk7.un (fun k hk e => by cases hk; omega), (hsA'.un (fun j hj => by have := hb0 j hj; omega)).step hE12.step, ho, fun j hj => ⟨hb0 j hj, fun hf => by have := hm0.bd.lt j hf; have := hb0 j hj; omega⟩, ?_, ?_, ?_, ?_, ?_⟩
      all_goals simp only [start, KC_normal, go_sem, Nat.reduceEqDiff, Nat.reduceAdd, reduceIte, reduceCtorEq, Nat.reduceLeDiff, Nat.reduceShiftRight, Nat.reduceAnd, Nat.reduceOr, Nat.reducePow, Nat.reduceBNe, Nat.reduceBEq]
      rfl
    · subst hG
      clear hk7 hm0 ho
      rintro j s - ⟨tm, H', F', b, v, i, rfl, hj, hi', hS, hm, hk, hsl, ho, hb, t0, t7, t11, t13, t17⟩
      simp only [start, KC_normal, go_sem, Nat.reduceEqDiff, Nat.reduceAdd, reduceIte, reduceCtorEq, Nat.reduceLeDiff, Nat.reduceShiftRight, Nat.reduceAnd, Nat.reduceOr, Nat.reducePow, Nat.reduceBNe, Nat.reduceBEq, t0, t7, t11, t13, t17]
      have hleS := hS.le
      refine CN_split (fun hlt => ?_) (fun hge => ?_)
      · have hlt' : i < a.length := by omega
        obtain ⟨y, hy⟩ : ∃ y, a[i]? = some y := ⟨_, List.getElem?_eq_getElem hlt'⟩
        obtain ⟨bA, oA, owA, CA, rfl, hkA, hCA⟩ := hsl.all intC_len (by omega)
        have hy4 := (hCA i y hy).1 0 (by omega)
        simp only [intC, Nat.add_zero, List.getElem?_cons_zero] at hy4
        by_cases hi0 : (0 : Int) < (i : Int)
        all_goals simp only [start, KC_normal, go_sem, Nat.reduceEqDiff, Nat.reduceAdd, reduceIte, reduceCtorEq, Nat.reduceLeDiff, Nat.reduceShiftRight, Nat.reduceAnd, Nat.reduceOr, Nat.reducePow, Nat.reduceBNe, Nat.reduceBEq, t0, t7, t11, t13, t17, hk.get, hi0, Int.reduceEq]
        · have hnx := el_keep (kp := true) (k := stepOf 5) (n := n) (N := N) (bs := fun _ => 0) hy (by simp; omega)
          rw [show decide ((5 : Int) = 5) = true from rfl] at hEd hRd
          rw [hEd, hRd] at hnx
          simp only [start, KC_normal, go_sem, Nat.reduceEqDiff, Nat.reduceAdd, reduceIte, reduceCtorEq, Nat.reduceLeDiff, Nat.reduceShiftRight, Nat.reduceAnd, Nat.reduceOr, Nat.reducePow, Nat.reduceBNe, Nat.reduceBEq, t0, t7, t11, t13, t17, ia_in _ _ _ _ _ hlt', hkA.get, hy4]
          obtain ⟨v7, H7, b7, he, hw7, hS7, hb7⟩ := app1_int ho (by rw [List.length_take]; omega) y
          simp only [he, start, KC_normal, go_sem, Nat.reduceEqDiff, Nat.reduceAdd, reduceIte, reduceCtorEq, Nat.reduceLeDiff, Nat.reduceShiftRight, Nat.reduceAnd, Nat.reduceOr, Nat.reducePow, Nat.reduceBNe, Nat.reduceBEq, t17]
          refine ⟨a.length - (i + 1), by omega, _, H7, F', b7, v7, i + 1, rfl, rfl, by omega, hS.app hS7 (fun j hj => by have := (hb j hj).1; omega), ?_, hk.step (hS7 F'), hsl.step (hS7 F'), ?_, fun j hj => ⟨by have := hb7 j hj; have := hk.lt; omega, fun hf => by have := hm.bd.lt j hf; have := hb7 j hj; omega⟩, ?_, ?_, ?_, ?_, ?_⟩
          · rw [hnx.1]; exact hm.app hS7 fun j hj => (hb j hj).2
          · rw [hnx.2]; exact hw7
          all_goals simp only [start, KC_normal, go_sem, Nat.reduceEqDiff, Nat.reduceAdd, reduceIte, reduceCtorEq, Nat.reduceLeDiff, Nat.reduceShiftRight, Nat.reduceAnd, Nat.reduceOr, Nat.reducePow, Nat.reduceBNe, Nat.reduceBEq, t0, t7, t13]
          rw [wrap_i64 _ (by omega) (by omega)]; simp
        · have hnx := el_next (kp := true) (k := stepOf 5) (n := n) (N := N) (bs := fun _ => 0) hy (by simp; omega)
          rw [show decide ((5 : Int) = 5) = true from rfl] at hEd hRd
          rw [hEd, hRd] at hnx
          refine f49_c fun r hr => ?_
          subst hr
          simp only [start, KC_normal, go_sem, Nat.reduceEqDiff, Nat.reduceAdd, reduceIte, reduceCtorEq, Nat.reduceLeDiff, Nat.reduceShiftRight, Nat.reduceAnd, Nat.reduceOr, Nat.reducePow, Nat.reduceBNe, Nat.reduceBEq, show takesR 5 = 1 from rfl, show takesR 6 = 1 from rfl, show takesR 7 = 1 from rfl, show takesR 8 = 1 from rfl, Int.reduceEq]
          refine DRg_x TT.ok [0, 0, 2, 6, 0, 0, 48, 112, 0, 256, 1023, 2047] 12 4095 214 rfl (by decide +kernel) ?_
          simp only [start, KC_normal, go_sem, Nat.reduceEqDiff, Nat.reduceAdd, reduceIte, reduceCtorEq, Nat.reduceLeDiff, Nat.reduceShiftRight, Nat.reduceAnd, Nat.reduceOr, Nat.reducePow, Nat.reduceBNe, Nat.reduceBEq, t0, t7, hk.get]
          refine f51_c (by omega) fun H3 r hE3 hr => ?_
          subst hr
          have hE3 := ((Ext.refl H').skip _).trans hE3
          have hm3 := hm.ext hE3
          have ho3 := ho.ext hE3
          simp only [start, KC_normal, go_sem, Nat.reduceEqDiff, Nat.reduceAdd, reduceIte, reduceCtorEq, Nat.reduceLeDiff, Nat.reduceShiftRight, Nat.reduceAnd, Nat.reduceOr, Nat.reducePow, Nat.reduceBNe, Nat.reduceBEq, t7, t13, t17, ia_in _ _ _ _ _ hlt', (hkA.step hE3.step).get, hkA.get, hy4, (hk.step hE3.step).get, hk.get]
          refine f30_c hm3 (by rw [List.length_append, hnx.2.2]; omega) hi0' fun H4 F4 hm4 hS4 => ?_
          rw [List.append_assoc, ← hnx.1] at hm4
          have hx : inn + ((ops ++ List.take i E).length : Int) = n + i := by rw [List.length_append, hnx.2.2]; omega
          simp only [start, KC_normal, go_sem, Nat.reduceEqDiff, Nat.reduceAdd, reduceIte, reduceCtorEq, Nat.reduceLeDiff, Nat.reduceShiftRight, Nat.reduceAnd, Nat.reduceOr, Nat.reducePow, Nat.reduceBNe, Nat.reduceBEq, t11]
          rw [hx]
          have ho4 := ho3.step hS4 fun j hj => (hb j hj).2
          obtain ⟨v7, H7, b7, he, hw7, hS7, hb7⟩ := app1_int ho4 (by rw [List.length_take]; omega) (n + i)
          have hle3 := hE3.le
          have hle4 := hS4.le
          have hb4 := ho3.out hS4 fun j hj => (hb j hj).2
          have hS04 := hE3.step.trans hS4
          simp only [he, start, KC_normal, go_sem, Nat.reduceEqDiff, Nat.reduceAdd, reduceIte, reduceCtorEq, Nat.reduceLeDiff, Nat.reduceShiftRight, Nat.reduceAnd, Nat.reduceOr, Nat.reducePow, Nat.reduceBNe, Nat.reduceBEq, t17]
          refine ⟨a.length - (i + 1), by omega, _, H7, F4, b7, v7, i + 1, rfl, rfl, by omega, (hS.trans hS04).app hS7 (fun j hj => by have := (hb j hj).1; omega), hm4.app hS7 hb4, (hk.step hS04.un).step (hS7 F4), (hsl.step hS04.un).step (hS7 F4), ?_, fun j hj => ⟨by have := hb7 j hj; have := hk.lt; omega, fun hf => by have := hm4.bd.lt j hf; have := hb7 j hj; omega⟩, ?_, ?_, ?_, ?_, ?_⟩
          · rw [hnx.2.1]; exact hw7
          all_goals simp only [start, KC_normal, go_sem, Nat.reduceEqDiff, Nat.reduceAdd, reduceIte, reduceCtorEq, Nat.reduceLeDiff, Nat.reduceShiftRight, Nat.reduceAnd, Nat.reduceOr, Nat.reducePow, Nat.reduceBNe, Nat.reduceBEq, t0, t7, t13]
          rw [wrap_i64 _ (by omega) (by omega)]; simp
      · have hi'' : i = a.length := by omega
        subst hi''
        have hall := el_all (kp := true) (k := stepOf 5) (n := n) (N := N) (a := a) (bs := fun _ => 0)
        rw [show decide ((5 : Int) = 5) = true from rfl] at hEd hRd
        rw [hEd, hRd] at hall
        rw [hall.1] at hm
        rw [hall.2] at ho
        simp only [start, KC_normal, go_sem, Nat.reduceEqDiff, Nat.reduceAdd, reduceIte, reduceCtorEq, Nat.reduceLeDiff, Nat.reduceShiftRight, Nat.reduceAnd, Nat.reduceOr, Nat.reducePow, Nat.reduceBNe, Nat.reduceBEq, t11]
        exact hQ H' F' v b hm hS ho fun j hj => ⟨by have := (hb j hj).1; omega, (hb j hj).2⟩
end
end Go.Ab.Ex
end
section
namespace Go.Ab.Ex
open Go.Proofs
set_option maxRecDepth 10000

def wid (d : Nat) (s : Bool) : Nat := if s then d + 1 else 1

def stepG (g : CircM) (d : Nat) (inn : Int) (s : List OpM × List (List Int)) (x : GateM) : List OpM × List (List Int) :=
  (s.1 ++ (gateM g d s.2 (inn + s.1.length) x).1, s.2 ++ [(gateM g d s.2 (inn + s.1.length) x).2])
def runG (g : CircM) (d : Nat) (inn : Int) (l : List GateM) : List OpM × List (List Int) := l.foldl (stepG g d inn) ([], [])
theorem runG_next (g : CircM) (d : Nat) (inn : Int) (l : List GateM) (x : GateM) : runG g d inn (l ++ [x]) = stepG g d inn (runG g d inn l) x := by
  simp [runG, List.foldl_append]

def outOps (d : Nat) (row : List Int) : List OpM := (List.range (d + 1)).map fun k => if k < row.length then ⟨8, row.getD k 0, 0, 0⟩ else ⟨7, 0, 0, 0⟩
def stepO (d : Nat) (inn : Int) (rows : List (List Int)) (s : List OpM × List Int) (o : OutM) : List OpM × List Int :=
  (s.1 ++ outOps d (rowOf rows o.At), s.2 ++ (List.range (d + 1)).map fun (k : Nat) => inn + s.1.length + (k : Int))
def runO (d : Nat) (inn : Int) (rows : List (List Int)) (ops : List OpM) (l : List OutM) : List OpM × List Int := l.foldl (stepO d inn rows) (ops, [])
theorem runO_next (d : Nat) (inn : Int) (rows : List (List Int)) (ops : List OpM) (l : List OutM) (o : OutM) : runO d inn rows ops (l ++ [o]) = stepO d inn rows (runO d inn rows ops l) o := by
  simp [runO, List.foldl_append]

def innM (g : CircM) (d : Nat) : Int := g.secrets * (d + 1) + g.publics
def codeM (g : CircM) (d : Nat) : List OpM × List Int :=
  runO d (innM g d) (runG g d (innM g d) g.gates).2 (runG g d (innM g d) g.gates).1 g.outs

/-! ### what is so of a graph's gates -/
theorem wire_lt {a b c : Int} (h : a < b) (h2 : b ≤ c) : a < c := by omega

/-- wires that are there -/
def WiresOk (l : List Int) (n : Int) : Prop := ∀ x ∈ l, 0 ≤ x ∧ x < n
theorem WiresOk.mono {l : List Int} {n m : Int} (h : WiresOk l n) (hm : n ≤ m) : WiresOk l m := fun x hx => ⟨(h x hx).1, by have := (h x hx).2; omega⟩
theorem WiresOk.getD {l : List Int} {n : Int} (h : WiresOk l n) {i : Nat} (hi : i < l.length) : 0 ≤ l.getD i 0 ∧ l.getD i 0 < n := by
  rw [List.getD_eq_getElem?_getD, List.getElem?_eq_getElem hi]
  exact h _ (List.getElem_mem hi)

/-- steps that are fit, from a number of wires on -/
def OpsOk (inn : Int) (k : Nat) (l : List OpM) : Prop := ∀ (i : Nat) (o : OpM), l[i]? = some o → opOkM inn (k + i) o
theorem OpsOk.append {inn : Int} {k : Nat} {l m : List OpM} (h : OpsOk inn k l) (h2 : OpsOk inn (k + l.length) m) : OpsOk inn k (l ++ m) := by
  intro i o hio
  by_cases hi : i < l.length
  · rw [List.getElem?_append_left hi] at hio; exact h i o hio
  · rw [List.getElem?_append_right (by omega)] at hio
    have := h2 _ o hio
    rwa [show k + l.length + (i - l.length) = k + i by omega] at this

theorem opOk_two {inn : Int} {i : Nat} {k a b : Int} (hk : k = 1 ∨ k = 2) (ha : 0 ≤ a ∧ a < inn + i) (hb : 0 ≤ b ∧ b < inn + i) : opOkM inn i ⟨k, a, b, 0⟩ := by
  have e0 : (((0 : BitVec 32).toNat : Nat) : Int) = 0 := rfl
  unfold opOkM
  dsimp only
  rcases hk with rfl | rfl
  · have e : takesO 1 = 2 := rfl
    rw [e]; exact ⟨by omega, by omega, by omega, by omega, fun _ => ha, fun _ => hb, by omega, fun _ => e0⟩
  · have e : takesO 2 = 2 := rfl
    rw [e]; exact ⟨by omega, by omega, by omega, by omega, fun _ => ha, fun _ => hb, by omega, fun _ => e0⟩
theorem opOk_rnd {inn : Int} {i : Nat} : opOkM inn i ⟨0, 0, 0, 0⟩ := by
  have e0 : (((0 : BitVec 32).toNat : Nat) : Int) = 0 := rfl
  have e : takesO 0 = 0 := rfl
  unfold opOkM
  dsimp only
  rw [e]; exact ⟨by omega, by omega, fun _ => rfl, fun _ => rfl, by omega, by omega, by omega, fun _ => e0⟩
theorem opOk_one {inn : Int} {i : Nat} {k a : Int} {n : BitVec 32} (hk : k = 3 ∨ k = 8 ∨ k = 4 ∨ k = 5 ∨ k = 6) (ha : 0 ≤ a ∧ a < inn + i) (hn : k = 3 ∨ k = 8 → (n.toNat : Int) = 0) (hn2 : (n.toNat : Int) ≤ 31) : opOkM inn i ⟨k, a, 0, n⟩ := by
  have e : takesO k = 1 := by rcases hk with rfl | rfl | rfl | rfl | rfl <;> rfl
  unfold opOkM
  dsimp only
  rw [e]
  exact ⟨by omega, by omega, by omega, fun _ => rfl, fun _ => ha, by omega, fun _ => hn2, fun h => hn (by omega)⟩
theorem opOk_const {inn : Int} {i : Nat} {n : BitVec 32} : opOkM inn i ⟨7, 0, 0, n⟩ := by
  have e : takesO 7 = 0 := rfl
  unfold opOkM
  dsimp only
  rw [e]; exact ⟨by omega, by omega, fun _ => rfl, fun _ => rfl, by omega, by omega, by omega, by omega⟩

theorem atM_ok {inp : List Int} {n x : Int} {t : Nat} (hi : WiresOk inp n) (h0 : 0 ≤ x) (h1 : x < inp.length + t) (hn : 0 ≤ n) : 0 ≤ atM inp n x ∧ atM inp n x < n + t := by
  unfold atM
  split
  · have := hi.getD (i := x.toNat) (by omega); omega
  · omega

theorem gadget_ok {and : Bool} {d : Nat} (hd : 1 ≤ d ∧ d ≤ 6) {inp : List Int} (hlen : (inp.length : Int) = gIn and d) {inn : Int} {k : Nat} (h0 : 0 ≤ inn) (hi : WiresOk inp (inn + k)) :
    OpsOk inn k (gadgetM and d inp (inn + k)).1 ∧ WiresOk (gadgetM and d inp (inn + k)).2 (inn + k + (gadgetM and d inp (inn + k)).1.length) ∧ (gadgetM and d inp (inn + k)).2.length = d + 1 ∧ (gadgetM and d inp (inn + k)).1.length ≤ 154 := by
  have hG := gadOk and hd.1 hd.2
  refine ⟨fun i o hio => ?_, fun x hx => ?_, ?_, ?_⟩
  · simp only [gadgetM, List.getElem?_map, Option.map_eq_some_iff] at hio
    obtain ⟨p, hp, rfl⟩ := hio
    obtain ⟨h1, hN⟩ := hG.op i p hp
    rcases h1 with ⟨hK, hA, hB⟩ | ⟨hK, hA0, hA1, hB0, hB1⟩
    · have : gopM inp (inn + k) p = ⟨0, 0, 0, 0⟩ := by unfold gopM; rw [hK]; simp [takesO]
      rw [this]; exact opOk_rnd
    · have : gopM inp (inn + k) p = ⟨p.K, atM inp (inn + k) p.A, atM inp (inn + k) p.B, 0⟩ := by
        unfold gopM
        rw [if_pos (by rcases hK with h | h <;> rw [h] <;> rfl)]
      rw [this]
      have q1 := atM_ok (t := i) hi hA0 (by omega) (by omega)
      have q2 := atM_ok (t := i) hi hB0 (by omega) (by omega)
      exact opOk_two hK ⟨q1.1, by omega⟩ ⟨q2.1, by omega⟩
  · simp only [gadgetM, List.mem_map] at hx
    obtain ⟨y, hy, rfl⟩ := hx
    have := hG.out y hy
    simp only [gadgetM, List.length_map]
    exact atM_ok hi this.1 (by omega) (by omega)
  · simp [gadgetM, hG.outs]
  · simp only [gadgetM, List.length_map]
    have : ((List.range 7).all fun d => d == 0 || decide ((gadOps true d).length ≤ 154) && decide ((gadOps false d).length ≤ 154)) = true := by decide +kernel
    rw [List.all_eq_true] at this
    have := this d (by simp; omega)
    simp only [Bool.or_eq_true, beq_iff_eq, Bool.and_eq_true, decide_eq_true_eq] at this
    rcases this with h | h
    · omega
    · cases and
      · exact h.2
      · exact h.1
end Go.Ab.Ex
end
section
namespace Go.Ab.Ex
open Go.Proofs
set_option maxRecDepth 10000

theorem as_sec (g : CircM) (k i : Int) : (g.as k).sec i = g.sec i := by
  unfold CircM.sec CircM.as
  simp only [List.getElem?_map]
  cases g.gates[i.toNat]? with
  | none => rfl
  | some x => simp only [Option.map_some, Option.elim_some, asG]; split <;> rfl

inductive GateK (g : CircM) (i : Nat) (x : GateM) : Prop where
  | const (h : x.K = 0) (hS : x.S = false)
  | sec (h : x.K = 1) (hN : (x.N.toNat : Int) < g.secrets) (hS : x.S = true)
  | pub (h : x.K = 2) (hN : (x.N.toNat : Int) < g.publics) (hS : x.S = false)
  | ref (h : x.K = 12) (hA : 0 ≤ x.A ∧ x.A < i) (hs : g.sec x.A = true) (hS : x.S = true)
  | two (h : x.K = 3 ∨ x.K = 4) (hA : 0 ≤ x.A ∧ x.A < i) (hB : 0 ≤ x.B ∧ x.B < i) (hS : x.S = (g.sec x.A || g.sec x.B))
  | not (h : x.K = 5) (hA : 0 ≤ x.A ∧ x.A < i) (hN : (x.N.toNat : Int) = 0) (hS : x.S = g.sec x.A)
  | sh (h : x.K = 6 ∨ x.K = 7 ∨ x.K = 8) (hA : 0 ≤ x.A ∧ x.A < i) (hN : (x.N.toNat : Int) ≤ 31) (hS : x.S = g.sec x.A)

theorem graph_gate {g : CircM} (h : GraphOk g) {i : Nat} {x : GateM} (hx : g.gates[i]? = some x) : GateK g i x := by
  have h1 := h.c.t i _ (as_get (k := 5) hx)
  have h2 := h.k i _ (as_get (k := 5) hx)
  by_cases h12 : x.K = 12
  · have hK : (asG 5 x).K = 5 := by simp [asG, h12]
    have hAa : (asG 5 x).A = x.A := by simp [asG, h12]
    have hSa : (asG 5 x).S = x.S := by simp [asG, h12]
    obtain ⟨k1, k2, k3, k4⟩ := (gOk_5 hK).1 h1
    have hs := h.r i x hx h12
    rw [hAa] at k2 k4
    rw [hSa, as_sec, hs] at k4
    exact .ref h12 k2 hs k4
  · have ha : asG 5 x = x := if_neg h12
    rw [ha] at h1 h2
    have hr := h1.1
    have hc : x.K = 0 ∨ x.K = 1 ∨ x.K = 2 ∨ (x.K = 3 ∨ x.K = 4) ∨ x.K = 5 ∨ (x.K = 6 ∨ x.K = 7 ∨ x.K = 8) := by omega
    rcases hc with hK | hK | hK | hK | hK | hK
    · exact .const hK ((gOk_0 hK).1 h1).2.2
    · obtain ⟨-, -, k3, k4⟩ := (gOk_1 hK).1 h1; exact .sec hK k3 k4
    · obtain ⟨-, -, k3, k4⟩ := (gOk_2 hK).1 h1; exact .pub hK k3 k4
    · obtain ⟨k1, k2, -, k4⟩ := (gOk_two (by omega)).1 h1
      rw [as_sec, as_sec] at k4
      exact .two hK k1 k2 k4
    · obtain ⟨-, k2, k3, k4⟩ := (gOk_5 hK).1 h1
      rw [as_sec] at k4
      exact .not hK k2 k3 k4
    · obtain ⟨-, k2, k3, k4⟩ := (gOk_678 hK).1 h1
      rw [as_sec] at k4
      exact .sh hK k2 k3 k4

/-- so far -/
structure RowsOk (g : CircM) (d : Nat) (inn : Int) (i : Nat) (ops : List OpM) (rows : List (List Int)) : Prop where
  len : rows.length = i
  wid : ∀ k : Int, 0 ≤ k → k < i → (rowOf rows k).length = wid d (g.sec k)
  wires : ∀ k : Int, 0 ≤ k → k < i → WiresOk (rowOf rows k) (inn + ops.length)
  fit : OpsOk inn 0 ops
  n : ops.length ≤ 160 * i

/-- what a gate comes to -/
structure GateOut (d : Nat) (inn : Int) (k : Nat) (s : Bool) (r : List OpM × List Int) : Prop where
  fit : OpsOk inn k r.1
  wires : WiresOk r.2 (inn + k + r.1.length)
  wid : r.2.length = wid d s
  n : r.1.length ≤ 160

theorem el_out {d : Nat} {inn : Int} {k : Nat} {kp s : Bool} {op : Int} {N : BitVec 32} {a : List Int} {bs : Nat → Int} (h0 : 0 ≤ inn) (hd : d ≤ 6) (ha : WiresOk a (inn + k)) (hw : a.length = wid d s)
    (hop : ∀ i y, a[i]? = some y → opOkM inn (k + i) ⟨op, y, bs i, N⟩) : GateOut d inn k s (elOps kp op N a bs, elRow kp a (inn + k)) := by
  have hwl : a.length ≤ 7 := by rw [hw]; unfold wid; split <;> omega
  have hpos : 0 < a.length := by rw [hw]; unfold wid; split <;> omega
  refine ⟨fun i o hio => ?_, fun x hx => ?_, by rw [elRow_len]; exact hw, by rw [elOps_len]; split <;> omega⟩
  · unfold elOps at hio
    rw [List.getElem?_mapIdx, Option.map_eq_some_iff] at hio
    obtain ⟨y, hy, rfl⟩ := hio
    refine hop i y ?_
    cases kp with
    | false => exact hy
    | true =>
      simp only [if_true] at hy
      rw [List.getElem?_take] at hy
      split at hy
      · exact hy
      · cases hy
  · obtain ⟨i, hi⟩ := List.getElem?_of_mem hx
    unfold elRow at hi
    rw [List.getElem?_mapIdx, Option.map_eq_some_iff] at hi
    obtain ⟨y, hy, rfl⟩ := hi
    have hy2 := ha y (List.mem_of_getElem? hy)
    have hil := lt_of_get hy
    rw [elOps_len]
    cases kp with
    | false => simp only [Bool.false_and, Bool.false_eq_true, if_false]; omega
    | true =>
      simp only [Bool.true_and, decide_eq_true_eq, if_true]
      split <;> omega

theorem gate_out {g : CircM} {d : Nat} (hd : 1 ≤ d ∧ d ≤ 6) {i : Nat} {ops : List OpM} {rows : List (List Int)} {x : GateM} (hs : 0 ≤ g.secrets) (hp : 0 ≤ g.publics) (hx : GateK g i x) (hR : RowsOk g d (innM g d) i ops rows) :
    GateOut d (innM g d) ops.length x.S (gateM g d rows (innM g d + ops.length) x) := by
  have hi0 : 0 ≤ innM g d := by
    unfold innM
    have : 0 ≤ g.secrets * ((d : Int) + 1) := Int.mul_nonneg hs (by omega)
    omega
  cases hx with
  | const h hS =>
    have e : gateM g d rows (innM g d + ops.length) x = ([⟨7, 0, 0, x.N⟩], [innM g d + ops.length]) := by simp [gateM, h]
    rw [e, hS]
    refine ⟨fun i o hio => ?_, fun y hy => ?_, rfl, by simp⟩
    · have hl := lt_of_get hio
      simp at hl
      subst hl
      simp at hio
      subst hio
      exact opOk_const
    · simp at hy; subst hy; simp; omega
  | sec h hN hS =>
    have e : gateM g d rows (innM g d + ops.length) x = ([], (List.range (d + 1)).map fun (i : Nat) => (x.N.toNat : Int) * (d + 1) + i) := by simp [gateM, h]
    rw [e, hS]
    refine ⟨fun i o hio => by simp at hio, fun y hy => ?_, by simp [wid], by simp⟩
    simp only [List.mem_map, List.mem_range] at hy
    obtain ⟨k, hk, rfl⟩ := hy
    have h1 : ((x.N.toNat : Int) + 1) * ((d : Int) + 1) ≤ g.secrets * ((d : Int) + 1) := Int.mul_le_mul_of_nonneg_right (by omega) (by omega)
    rw [Int.add_mul, Int.one_mul] at h1
    have h2 : 0 ≤ (x.N.toNat : Int) * ((d : Int) + 1) := Int.mul_nonneg (by omega) (by omega)
    simp only [innM, List.length_nil]
    omega
  | pub h hN hS =>
    have e : gateM g d rows (innM g d + ops.length) x = ([], [g.secrets * (d + 1) + x.N.toNat]) := by simp [gateM, h]
    rw [e, hS]
    refine ⟨fun i o hio => by simp at hio, fun y hy => ?_, rfl, by simp⟩
    simp at hy
    subst hy
    have h2 : 0 ≤ g.secrets * ((d : Int) + 1) := Int.mul_nonneg hs (by omega)
    simp only [innM, List.length_nil]
    omega
  | ref h hA hs' hS =>
    have e : gateM g d rows (innM g d + ops.length) x = gadgetM false d (rowOf rows x.A) (innM g d + ops.length) := by simp [gateM, h]
    rw [e, hS]
    have hl := hR.wid x.A hA.1 hA.2
    rw [hs'] at hl
    obtain ⟨h1, h2, h3, h4⟩ := gadget_ok hd (and := false) (inp := rowOf rows x.A) (by rw [hl]; simp [wid, gIn]) hi0 (hR.wires x.A hA.1 hA.2)
    exact ⟨h1, h2, by rw [h3]; rfl, by omega⟩
  | two h hA hB hS =>
    have hlA := hR.wid x.A hA.1 hA.2
    have hlB := hR.wid x.B hB.1 hB.2
    have hwA := hR.wires x.A hA.1 hA.2
    have hwB := hR.wires x.B hB.1 hB.2
    by_cases hboth : x.K = 3 ∧ g.sec x.A = true ∧ g.sec x.B = true
    · obtain ⟨h3, sA, sB⟩ := hboth
      have e : gateM g d rows (innM g d + ops.length) x = gadgetM true d (rowOf rows x.A ++ rowOf rows x.B) (innM g d + ops.length) := by simp [gateM, h3, sA, sB]
      rw [sA] at hlA
      rw [sB] at hlB
      rw [e, hS, sA, sB]
      obtain ⟨h1, h2, h3, h4⟩ := gadget_ok hd (and := true) (inp := rowOf rows x.A ++ rowOf rows x.B) (by rw [List.length_append, hlA, hlB]; simp [wid, gIn]; omega) hi0 (fun y hy => by
        rcases List.mem_append.1 hy with h | h
        · exact hwA y h
        · exact hwB y h)
      exact ⟨h1, h2, by rw [h3]; rfl, by omega⟩
    · have e : gateM g d rows (innM g d + ops.length) x = twoM g rows (innM g d + ops.length) x := by
        unfold gateM
        rw [if_neg (by omega), if_neg (by omega), if_neg (by omega), if_neg (by omega), if_neg hboth, if_pos h]
      rw [e]
      unfold twoM
      cases hsw : (g.sec x.B && !g.sec x.A) with
      | true =>
        simp only [Bool.and_eq_true, Bool.not_eq_true'] at hsw
        simp only [hsw.1, hsw.2, if_true, Bool.not_false, Bool.and_true, Bool.false_eq_true, if_false] at *
        rw [hS]
        refine el_out hi0 hd.2 hwB hlB fun i y hy => ?_
        have hy2 := hwB y (List.mem_of_getElem? hy)
        have hq := hwA.getD (i := 0) (by rw [hlA]; unfold wid; simp)
        refine opOk_two (by rcases h with h | h <;> rw [h] <;> decide) ⟨hy2.1, by omega⟩ ⟨hq.1, by omega⟩
      | false =>
        simp only [Bool.false_eq_true, if_false]
        have hS' : x.S = g.sec x.A := by
          rw [hS]; revert hsw; cases g.sec x.A <;> cases g.sec x.B <;> simp
        rw [hS']
        refine el_out hi0 hd.2 hwA hlA fun i y hy => ?_
        have hy2 := hwA y (List.mem_of_getElem? hy)
        have hil := lt_of_get hy
        have hq := hwB.getD (i := if g.sec x.B = true then i else 0) (by
          rw [hlB]
          revert hsw
          cases hb : g.sec x.B
          · unfold wid; simp
          · cases ha : g.sec x.A
            · simp
            · intro _; rw [hlA, ha] at hil; simpa using hil)
        refine opOk_two (by rcases h with h | h <;> rw [h] <;> decide) ⟨hy2.1, by omega⟩ ⟨hq.1, by omega⟩
  | not h hA hN hS =>
    have e : gateM g d rows (innM g d + ops.length) x = (elOps true 3 x.N (rowOf rows x.A) (fun _ => 0), elRow true (rowOf rows x.A) (innM g d + ops.length)) := by simp [gateM, h, stepOf]
    rw [e, hS]
    refine el_out hi0 hd.2 (hR.wires x.A hA.1 hA.2) (hR.wid x.A hA.1 hA.2) fun i y hy => ?_
    have hy2 := hR.wires x.A hA.1 hA.2 y (List.mem_of_getElem? hy)
    exact opOk_one (by omega) ⟨hy2.1, by omega⟩ (fun _ => hN) (by omega)
  | sh h hA hN hS =>
    have e : gateM g d rows (innM g d + ops.length) x = (elOps false (stepOf x.K) x.N (rowOf rows x.A) (fun _ => 0), elRow false (rowOf rows x.A) (innM g d + ops.length)) := by
      rcases h with h | h | h <;> simp [gateM, h, stepOf]
    rw [e, hS]
    refine el_out hi0 hd.2 (hR.wires x.A hA.1 hA.2) (hR.wid x.A hA.1 hA.2) fun i y hy => ?_
    have hy2 := hR.wires x.A hA.1 hA.2 y (List.mem_of_getElem? hy)
    refine opOk_one (by rcases h with h | h | h <;> rw [h] <;> decide) ⟨hy2.1, by omega⟩ (fun hk => ?_) hN
    exfalso
    rcases h with h | h | h <;> rw [h] at hk <;> revert hk <;> decide

theorem rowOf_append {rows : List (List Int)} {r : List Int} {k : Int} (h0 : 0 ≤ k) : rowOf (rows ++ [r]) k = if k < rows.length then rowOf rows k else if k = rows.length then r else [] := by
  unfold rowOf
  rw [List.getD_eq_getElem?_getD, List.getD_eq_getElem?_getD]
  by_cases h : k < rows.length
  · rw [if_pos h, List.getElem?_append_left (by omega)]
  · rw [if_neg h]
    by_cases h2 : k = rows.length
    · rw [if_pos h2, List.getElem?_append_right (by omega)]
      have : k.toNat - rows.length = 0 := by omega
      simp [this]
    · rw [if_neg h2, List.getElem?_eq_none (by simp; omega)]; rfl

theorem rows_next {g : CircM} {d : Nat} {i : Nat} {ops : List OpM} {rows : List (List Int)} {x : GateM} {inn : Int} {r : List OpM × List Int} (hx : g.gates[i]? = some x) (hR : RowsOk g d inn i ops rows) (hG : GateOut d inn ops.length x.S r) :
    RowsOk g d inn (i + 1) (ops ++ r.1) (rows ++ [r.2]) := by
  have hsec : g.sec (i : Int) = x.S := by simp [CircM.sec, hx]
  refine ⟨by simp [hR.len], fun k h0 h1 => ?_, fun k h0 h1 => ?_, hR.fit.append (by simpa using hG.fit), by have := hR.n; have := hG.n; rw [List.length_append]; omega⟩
  · rw [rowOf_append h0, hR.len]
    by_cases h : k < i
    · rw [if_pos h]; exact hR.wid k h0 h
    · have : k = i := by omega
      subst this
      rw [if_neg (by omega), if_pos rfl, hsec]; exact hG.wid
  · rw [rowOf_append h0, hR.len, List.length_append]
    by_cases h : k < i
    · rw [if_pos h]; exact (hR.wires k h0 h).mono (by omega)
    · have : k = i := by omega
      subst this
      rw [if_neg (by omega), if_pos rfl]; exact hG.wires.mono (by omega)

theorem rows_zero (g : CircM) (d : Nat) (inn : Int) : RowsOk g d inn 0 [] [] := ⟨rfl, fun k h0 h1 => by omega, fun k h0 h1 => by omega, fun i o h => by simp at h, by simp⟩

theorem rows_run {g : CircM} (h : GraphOk g) {d : Nat} (hd : 1 ≤ d ∧ d ≤ 6) : ∀ i, i ≤ g.gates.length → RowsOk g d (innM g d) i (runG g d (innM g d) (g.gates.take i)).1 (runG g d (innM g d) (g.gates.take i)).2
  | 0, _ => rows_zero g d _
  | i + 1, hi => by
    have ih := rows_run h hd i (by omega)
    have hx : g.gates[i]? = some g.gates[i] := List.getElem?_eq_getElem (by omega)
    have hs := h.c.s
    have hp := h.c.p
    rw [take_next hx, runG_next]
    exact rows_next hx ih (gate_out hd hs.1 hp.1 (graph_gate h hx) ih)
end Go.Ab.Ex
end
