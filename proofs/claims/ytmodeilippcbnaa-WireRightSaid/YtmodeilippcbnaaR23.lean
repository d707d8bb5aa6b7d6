/- Wire: the program's expand. -/
import Derived.Test.YtmodeilippcbnaaR22
set_option linter.all false
namespace Go.Ab.Ex
open Go.Proofs
set_option maxRecDepth 10000
set_option maxHeartbeats 1000000

/-- what the program's Can of a graph comes to (proved elsewhere) -/
def CanC : Prop := ∀ {F : Fr} {H : Heap} {v : Value} {g : CircM}, CircR F H v g → (g.gates.length < 1000000 ∧ g.outs.length < 1000000) → ∀ {Q : Ret → Heap → Prop}, (∀ r H', Ext H H' → (r = true ↔ GraphOk g) → Q (.ret (.bool r)) H') → C 44 #[v] H Q

theorem runO_len (d : Nat) (inn : Int) (rows : List (List Int)) : ∀ (l : List OutM) (s : List OpM × List Int), (l.foldl (stepO d inn rows) s).1.length = s.1.length + l.length * (d + 1)
  | [], s => by simp
  | o :: l, s => by
    rw [List.foldl_cons, runO_len d inn rows l, List.length_cons, Nat.succ_mul]
    simp only [stepO, List.length_append, outOps_len]
    omega

theorem f28_c (h44 : CanC) {F : Fr} {H : Heap} {v : Value} {g : CircM} {d : Int} (hv : CircR F H v g) (hf : g.gates.length ≤ 150 ∧ g.outs.length ≤ 50) {Q : Ret → Heap → Prop}
    (hQ : ∀ H' u, Ext H H' → (∀ G, Bd G H → CodeR G H' u (expandM g d).1.1 (expandM g d).1.2.1 (expandM g d).1.2.2) → Q (.ret (.tuple #[u, .int .i64 (expandM g d).2])) H') : C 28 #[v, .int .i64 d] H Q := by
  have hv0 := hv.noF
  obtain ⟨v1, v2, rfl, hg1, hg2⟩ := hv.noF.ex
  obtain ⟨ag, cg, rfl, h3, h4, hgA⟩ := hg1.ex
  obtain ⟨au, cu, rfl, h5, h6, huA⟩ := hg2.ex
  clear hv hg1 hg2
  refine SemC_fn TT.ok fn28 rfl rfl ?_
  simp only [Try.f28, start, KC_normal, go_sem, Nat.reduceEqDiff, Nat.reduceAdd, reduceIte, reduceCtorEq, Nat.reduceLeDiff, Nat.reduceShiftRight, Nat.reduceAnd, Nat.reduceOr, Nat.reducePow, Nat.reduceBNe, Nat.reduceBEq]
  generalize hX : (H.push _).push _ = H1
  obtain ⟨hE1, h7, h8, hn1⟩ := pre2 hX
  clear hX
  simp only [start, KC_normal, go_sem, Nat.reduceEqDiff, Nat.reduceAdd, reduceIte, reduceCtorEq, Nat.reduceLeDiff, Nat.reduceShiftRight, Nat.reduceAnd, Nat.reduceOr, Nat.reducePow, Nat.reduceBNe, Nat.reduceBEq, h7]
  refine h44 (hv0.step hE1.step) (by omega) fun r H2 hE2 hr => ?_
  have hE12 := hE1.trans hE2
  have hle2 := hE2.le
  have h72 := (hE2.get _ (by omega)).trans h7
  have h82 := (hE2.get _ (by omega)).trans h8
  have hput : Ext H (H2.put (H.next + 1) (.cells true 3 [.int .i64 0, .slice none 0 0, .slice none 0 0])) := hE12.put (show H.next ≤ H.next + 1 by omega) _
  unfold expandM at hQ
  cases r with
  | false =>
    rw [if_pos (fun h => by have := hr.2 h; cases this)] at hQ
    simp only [start, KC_normal, go_sem, Nat.reduceEqDiff, Nat.reduceAdd, reduceIte, reduceCtorEq, Nat.reduceLeDiff, Nat.reduceShiftRight, Nat.reduceAnd, Nat.reduceOr, Nat.reducePow, Nat.reduceBNe, Nat.reduceBEq, h82]
    exact hQ _ _ hput fun G _ => zeroCode
  | true =>
    have hgr := hr.1 rfl
    rw [if_neg (fun h => h hgr)] at hQ
    simp only [start, KC_normal, go_sem, Nat.reduceEqDiff, Nat.reduceAdd, reduceIte, reduceCtorEq, Nat.reduceLeDiff, Nat.reduceShiftRight, Nat.reduceAnd, Nat.reduceOr, Nat.reducePow, Nat.reduceBNe, Nat.reduceBEq]
    by_cases hd1 : d < 1
    · rw [if_pos hd1] at hQ
      simp only [start, KC_normal, go_sem, Nat.reduceEqDiff, Nat.reduceAdd, reduceIte, reduceCtorEq, Nat.reduceLeDiff, Nat.reduceShiftRight, Nat.reduceAnd, Nat.reduceOr, Nat.reducePow, Nat.reduceBNe, Nat.reduceBEq, hd1, h82]
      exact hQ _ _ hput fun G _ => zeroCode
    · rw [if_neg hd1] at hQ
      simp only [start, KC_normal, go_sem, Nat.reduceEqDiff, Nat.reduceAdd, reduceIte, reduceCtorEq, Nat.reduceLeDiff, Nat.reduceShiftRight, Nat.reduceAnd, Nat.reduceOr, Nat.reducePow, Nat.reduceBNe, Nat.reduceBEq, hd1]
      by_cases hd6 : 6 < d
      · rw [if_pos (.inl hd6)] at hQ
        simp only [start, KC_normal, go_sem, Nat.reduceEqDiff, Nat.reduceAdd, reduceIte, reduceCtorEq, Nat.reduceLeDiff, Nat.reduceShiftRight, Nat.reduceAnd, Nat.reduceOr, Nat.reducePow, Nat.reduceBNe, Nat.reduceBEq, hd6, h82]
        exact hQ _ _ hput fun G _ => zeroCode
      · have hs : 0 ≤ g.secrets ∧ g.secrets ≤ 1000 := hgr.c.s
        have hp : 0 ≤ g.publics ∧ g.publics ≤ 1000 := hgr.c.p
        have hb : 0 ≤ g.secrets * (d + 1) ∧ g.secrets * (d + 1) ≤ 7000 := by
          refine ⟨Int.mul_nonneg hs.1 (by omega), ?_⟩
          have h1 : g.secrets * (d + 1) ≤ g.secrets * 7 := Int.mul_le_mul_of_nonneg_left (by omega) hs.1
          omega
        have w1 : IntKind.i64.wrap (d + 1) = d + 1 := wrap_i64 _ (by omega) (by omega)
        have w2 : IntKind.i64.wrap (g.secrets * (d + 1)) = g.secrets * (d + 1) := wrap_i64 _ (by omega) (by omega)
        have w3 : IntKind.i64.wrap (g.secrets * (d + 1) + g.publics) = g.secrets * (d + 1) + g.publics := wrap_i64 _ (by omega) (by omega)
        obtain ⟨D, rfl⟩ : ∃ D : Nat, d = (D : Int) := ⟨d.toNat, by omega⟩
        have hD : 1 ≤ D ∧ D ≤ 6 := by omega
        simp only [start, KC_normal, go_sem, Nat.reduceEqDiff, Nat.reduceAdd, reduceIte, reduceCtorEq, Nat.reduceLeDiff, Nat.reduceShiftRight, Nat.reduceAnd, Nat.reduceOr, Nat.reducePow, Nat.reduceBNe, Nat.reduceBEq, hd6, h72, w1, w2]
        generalize hX : H2.push _ = H3
        obtain ⟨hE3, h9, hn3⟩ := new_push hX
        clear hX
        have h73 := (hE3.get _ (by omega)).trans h72
        refine DRg_x TT.ok [0, 0, 2, 6, 14, 0, 32, 126, 255, 511, 1023, 2047] 12 4095 115 rfl (by decide +kernel) ?_
        simp only [start, KC_normal, go_sem, Nat.reduceEqDiff, Nat.reduceAdd, reduceIte, reduceCtorEq, Nat.reduceLeDiff, Nat.reduceShiftRight, Nat.reduceAnd, Nat.reduceOr, Nat.reducePow, Nat.reduceBNe, Nat.reduceBEq, h9, h73, w3]
        generalize hX : (H3.skip 12).put H2.next _ = H4
        have hE4 : Ext H2 H4 := by subst hX; exact (hE3.skip 12).put (Nat.le_refl _) _
        have h94 : H4.get H2.next = .cells true 13 [.int .i64 (g.secrets * ((D : Int) + 1) + g.publics), .slice none 0 0, .slice none 0 0, .int .i64 (D : Int), .slice none 0 0, .int .i64 0, .slice none 0 0, .slice none 0 0, .int .i64 0, .slice none 0 0, .slice none 0 0, .int .i64 (g.secrets * ((D : Int) + 1)), .int .i64 0] := by subst hX; exact H_put_same _ _ _
        have hn4 : H2.next < H4.next := by subst hX; simp only [Heap.next_put, Heap.next_skip]; omega
        clear hX h9 h73
        have h74 := (hE4.get _ (by omega)).trans h72
        have h84 := (hE4.get _ (by omega)).trans h82
        have hput4 : Ext H (H4.put (H.next + 1) (.cells true 3 [.int .i64 0, .slice none 0 0, .slice none 0 0])) := (hE12.trans hE4).put (show H.next ≤ H.next + 1 by omega) _
        by_cases hin : 4000 < g.secrets * ((D : Int) + 1) + g.publics
        · rw [if_pos (.inr hin)] at hQ
          simp only [start, KC_normal, go_sem, Nat.reduceEqDiff, Nat.reduceAdd, reduceIte, reduceCtorEq, Nat.reduceLeDiff, Nat.reduceShiftRight, Nat.reduceAnd, Nat.reduceOr, Nat.reducePow, Nat.reduceBNe, Nat.reduceBEq, hin, h84]
          exact hQ _ _ hput4 fun G _ => zeroCode
        · rw [if_neg (by omega)] at hQ
          rw [Int.toNat_natCast] at hQ
          have hinn : g.secrets * ((D : Int) + 1) + g.publics = innM g D := rfl
          simp only [start, KC_normal, go_sem, Nat.reduceEqDiff, Nat.reduceAdd, reduceIte, reduceCtorEq, Nat.reduceLeDiff, Nat.reduceShiftRight, Nat.reduceAnd, Nat.reduceOr, Nat.reducePow, Nat.reduceBNe, Nat.reduceBEq, hin]
          refine f45_c hD fun H5 va hE5 hva => ?_
          obtain ⟨va1, va2, rfl, hs1, hs2⟩ := hva noF (noF_Bd _)
          obtain ⟨x1, x2, rfl⟩ := hs1.len
          obtain ⟨x3, x4, rfl⟩ := hs2.len
          have h95 := (hE5.get _ (by omega)).trans h94
          simp only [start, KC_normal, go_sem, Nat.reduceEqDiff, Nat.reduceAdd, reduceIte, reduceCtorEq, Nat.reduceLeDiff, Nat.reduceShiftRight, Nat.reduceAnd, Nat.reduceOr, Nat.reducePow, Nat.reduceBNe, Nat.reduceBEq, h95]
          generalize hX : H5.put H2.next _ = H6
          have hE6 : Step (fun j => j = H2.next) H5 (fun j => j = H2.next) H6 := by subst hX; exact Step.put (F := fun j => j = H2.next) (F' := fun j => j = H2.next) Step.refl (.inl rfl) _
          have h96 : H6.get H2.next = .cells true 13 [.int .i64 (g.secrets * ((D : Int) + 1) + g.publics), .slice none 0 0, .slice none 0 0, .int .i64 (D : Int), .slice none 0 0, .int .i64 (gIn true D), .slice x1 (gadOps true D).length x2, .slice x3 (gad true D).outs.length x4, .int .i64 0, .slice none 0 0, .slice none 0 0, .int .i64 (g.secrets * ((D : Int) + 1)), .int .i64 0] := by subst hX; exact H_put_same _ _ _
          clear hX
          refine f46_c hD fun H7 vf hE7 hvf => ?_
          obtain ⟨vf1, vf2, rfl, ht1, ht2⟩ := hvf noF (noF_Bd _)
          obtain ⟨y1, y2, rfl⟩ := ht1.len
          obtain ⟨y3, y4, rfl⟩ := ht2.len
          have hle5 := hE5.le
          have hle6 := hE6.le
          have h97 := (hE7.get _ (by omega)).trans h96
          simp only [start, KC_normal, go_sem, Nat.reduceEqDiff, Nat.reduceAdd, reduceIte, reduceCtorEq, Nat.reduceLeDiff, Nat.reduceShiftRight, Nat.reduceAnd, Nat.reduceOr, Nat.reducePow, Nat.reduceBNe, Nat.reduceBEq, h97]
          generalize hX : H7.put H2.next _ = H8
          have hle7 := hE7.le
          have hE8 : Step (fun j => j = H2.next) H7 (fun j => j = H2.next) H8 := by subst hX; exact Step.put (F := fun j => j = H2.next) (F' := fun j => j = H2.next) Step.refl (.inl rfl) _
          have h98 : H8.get H2.next = .cells true 13 (.int .i64 (innM g D) :: .slice none 0 0 :: .slice none 0 0 :: rest D (.slice none 0 0) (.slice x1 (gadOps true D).length x2) (.slice x3 (gad true D).outs.length x4) (.slice y1 (gadOps false D).length y2) (.slice y3 (gad false D).outs.length y4) (g.secrets * ((D : Int) + 1)) 0) := by subst hX; exact H_put_same _ _ _
          clear hX
          have hle8 := hE8.le
          have hE48 : Step (fun j => j = H2.next) H4 (fun j => j = H2.next) H8 := ((hE5.step.trans hE6).trans hE7.step).trans hE8
          have hE18 : Ext H H8 := (hE12.trans hE4).thenStep hE48 fun j hj => by omega
          have h78 := (hE48.get H.next (by omega) (by omega)).trans h74
          have h88 := (hE48.get (H.next + 1) (by omega) (by omega)).trans h84
          have cA : CodeR (fun j => j = H2.next) H8 _ _ _ _ := ((((hva _ ⟨fun j hj => by omega⟩).step hE6).step hE7.step).step hE8)
          have cF : CodeR (fun j => j = H2.next) H8 _ _ _ _ := (hvf _ ⟨fun j hj => by omega⟩).step hE8
          simp only [start, KC_normal, go_sem, Nat.reduceEqDiff, Nat.reduceAdd, reduceIte, reduceCtorEq, Nat.reduceLeDiff, Nat.reduceShiftRight, Nat.reduceAnd, Nat.reduceOr, Nat.reducePow, Nat.reduceBNe, Nat.reduceBEq, h78]
          have hi0 : 0 ≤ innM g D ∧ innM g D ≤ 4000 := by rw [← hinn]; omega
          have hm8 : PmR (fun j => j = H2.next) H8 H2.next (innM g D) [] [] (rest D (.slice none 0 0) (.slice x1 (gadOps true D).length x2) (.slice x3 (gad true D).outs.length x4) (.slice y1 (gadOps false D).length y2) (.slice y3 (gad false D).outs.length y4) (g.secrets * ((D : Int) + 1)) 0) :=
            ⟨_, _, none, none, h98, rfl, by omega, .nil rfl, .nil rfl, fun j => ⟨fun h => .inl h, fun h => by rcases h with h | h | h; exact h; cases h; cases h⟩⟩
          have hou : ¬ (60000 : Int) < (g.outs.length : Int) := by omega
          clear hva hvf hs1 hs2 ht1 ht2 h94 h95 h96 h97 h98 hE48 hE8 hE7 hE6 hE5 hE4 hE3 hput hput4 h74 h84 h72 h82 h7 h8 hE1 hE2 hinn hin hd1 hd6 w1 w2 w3 hr
          generalize Value.slice x1 (gadOps true D).length x2 = va1 at *
          generalize Value.slice x3 (gad true D).outs.length x4 = va2 at *
          generalize Value.slice y1 (gadOps false D).length y2 = vf1 at *
          generalize Value.slice y3 (gad false D).outs.length y4 = vf2 at *
          refine wp_loop TT.ok rfl rfl (fun j s => ∃ tm H' F' bl vn, ∃ vs : List Value, ∃ i nx, s = ⟨tm, 115, [], false, H'⟩ ∧ j = g.gates.length - i ∧ i ≤ g.gates.length ∧ Ext H H' ∧ PmR F' H' H2.next (innM g D) (runG g D (innM g D) (g.gates.take i)).1 [] (rest D vn va1 va2 vf1 vf2 (g.secrets * ((D : Int) + 1)) nx) ∧
            Own1 H' 1 (vs.flatMap cellC) vn vs.length bl ∧ (∀ j, F' j → H2.next ≤ j) ∧ (∀ j, bl = some j → H2.next ≤ j ∧ ¬ F' j) ∧ vs.length = i ∧ (i = 0 → vn = .slice none 0 0 ∧ bl = none) ∧
            (∀ (k : Nat) (r : List Int), (runG g D (innM g D) (g.gates.take i)).2[k]? = some r → ∃ u, vs[k]? = some u ∧ Sl (F'.un bl) H' 1 u r.length (r.flatMap intC)) ∧
            CodeR (F'.un bl) H' (.agg #[.int .i64 (gIn true D), va1, va2]) (gIn true D) (gadOps true D) (gad true D).outs ∧ CodeR (F'.un bl) H' (.agg #[.int .i64 (gIn false D), vf1, vf2]) (gIn false D) (gadOps false D) (gad false D).outs ∧
            H'.get H.next = .cells true 4 [.slice ag g.gates.length cg, .int .i64 g.secrets, .int .i64 g.publics, .slice au g.outs.length cu] ∧ H'.get (H.next + 1) = .cells true 3 [.int .i64 0, .slice none 0 0, .slice none 0 0] ∧
            tm.get 1 = some (.int .i64 D) ∧ tm.get 2 = some (.pointer (some ⟨H.next, 0, none⟩)) ∧ tm.get 4 = some (.pointer (some ⟨H.next + 1, 0, none⟩)) ∧ tm.get 6 = some (.pointer (some ⟨H2.next, 0, none⟩)) ∧ tm.get 66 = some (.slice ag g.gates.length cg) ∧ tm.get 67 = some (.int .i64 (g.gates.length : Nat)) ∧ tm.get 68 = some (.int .i64 (i : Nat))) g.gates.length ?_ ?_
          · refine ⟨_, H8, fun j => j = H2.next, none, .slice none 0 0, [], 0, 0, rfl, rfl, Nat.zero_le _, hE18, hm8, .nil rfl, fun j hj => by omega, fun j hj => (by cases hj), rfl, fun _ => ⟨rfl, rfl⟩, fun k r hk => by simp [runG] at hk, cA.more (fun j hj => by rcases hj with h | h; exact .inl h; cases h), cF.more (fun j hj => by rcases hj with h | h; exact .inl h; cases h), h78, h88, ?_, ?_, ?_, ?_, ?_, ?_, ?_⟩
            all_goals simp only [start, KC_normal, go_sem, Nat.reduceEqDiff, Nat.reduceAdd, reduceIte, reduceCtorEq, Nat.reduceLeDiff, Nat.reduceShiftRight, Nat.reduceAnd, Nat.reduceOr, Nat.reducePow, Nat.reduceBNe, Nat.reduceBEq]
            rfl
          · clear hm8 cA cF hE18 h78 h88
            rintro j s - ⟨tm, H', F', bl, vn, vs, i, nx, rfl, hj, hi, hE, hm, hvl, hF, hbl, hvs, hv00, hrows, cA, cF, hb1, hb2, t1, t2, t4, t6, t66, t67, t68⟩
            have hR := rows_run hgr hD i hi
            simp only [start, KC_normal, go_sem, Nat.reduceEqDiff, Nat.reduceAdd, reduceIte, reduceCtorEq, Nat.reduceLeDiff, Nat.reduceShiftRight, Nat.reduceAnd, Nat.reduceOr, Nat.reducePow, Nat.reduceBNe, Nat.reduceBEq, t66, t67, t68]
            refine CN_split (fun hlt => ?_) (fun hge => ?_)
            · have hlt' : i < g.gates.length := by omega
              obtain ⟨x, hx⟩ : ∃ x, g.gates[i]? = some x := ⟨_, List.getElem?_eq_getElem hlt'⟩
              obtain ⟨bg, og, owg, Cg, rfl, hkg, hCg⟩ := hgA.all GateM.len (by omega)
              have hseg := (hCg i x hx).2
              simp only [GateM.c] at hseg
              simp only [start, KC_normal, go_sem, Nat.reduceEqDiff, Nat.reduceAdd, reduceIte, reduceCtorEq, Nat.reduceLeDiff, Nat.reduceShiftRight, Nat.reduceAnd, Nat.reduceOr, Nat.reducePow, Nat.reduceBNe, Nat.reduceBEq, t2, t6, t66, t68, ia_in _ _ _ _ _ hlt', (hkg.step hE.step).get, hseg, hb1]
              generalize hX : (H'.push _).put _ _ = H3'
              obtain ⟨hEb, hb8, hnb⟩ := new_put hX
              clear hX
              have hlH := hE.le
              have hlm := hm.lt.1
              have hb1' := (hEb.get _ (by omega)).trans hb1
              simp only [start, KC_normal, go_sem, Nat.reduceEqDiff, Nat.reduceAdd, reduceIte, reduceCtorEq, Nat.reduceLeDiff, Nat.reduceShiftRight, Nat.reduceAnd, Nat.reduceOr, Nat.reducePow, Nat.reduceBNe, Nat.reduceBEq, hb1', hb8]
              have hcr := (hv0.more (F' := F') (fun j hj => .inr (by have := hF j hj; omega))).step ((hE.trans hEb).step)
              have hrows' : RowsR F' H3' vn (runG g D (innM g D) (g.gates.take i)).2 := ⟨vs, by rw [hvs, hR.len], (hvl.sl (fun j hj => (hbl j hj).2)).step hEb.step, fun k r hk => let ⟨u, k1, k2⟩ := hrows k r hk; ⟨u, k1, k2.left.step hEb.step⟩⟩
              have hRl := hR.len
              have hR1 := rows_run hgr hD (i + 1) (by omega)
              have hnx : runG g D (innM g D) (g.gates.take (i + 1)) = stepG g D (innM g D) (runG g D (innM g D) (g.gates.take i)) x := by rw [take_next hx, runG_next]
              refine f47_m (x := x) (i := i) ⟨hm.ext hEb, by have := hR.n; omega, by omega, hD, hcr, hs, hrows', (cA.more (fun j hj => .inl (.inl hj))).step hEb.step, (cF.more (fun j hj => .inl (.inl hj))).step hEb.step, rfl⟩ (graph_gate hgr hx) (graph_B0 hgr hx) hR (by omega) (by omega) (hvl.ext hEb) (by omega) (fun j hj => (hbl j hj).2) (fun h0 => hv00 (by omega)) fun H5 F5 v5 b5 nx5 vn5 v7 H7 b7 hm5 hm7 he hw7 hS7 ho7 hb5 hb7 hS5 => ?_
              have hops : (runG g D (innM g D) (g.gates.take i)).1 ++ (gateM g D (runG g D (innM g D) (g.gates.take i)).2 (innM g D + ((runG g D (innM g D) (g.gates.take i)).1.length : Int)) x).1 = (runG g D (innM g D) (g.gates.take (i + 1))).1 := by rw [hnx]; rfl
              rw [hops] at hm5 hm7
              obtain ⟨a5, e5⟩ := ho7.len
              have hu5 : v5.cells = #[v5] ∧ oneCell v5 = true := by rw [e5]; exact ⟨rfl, rfl⟩
              obtain ⟨mo5, mu5, hg5⟩ := hm5.get
              obtain ⟨mo7, mu7, hg7⟩ := hm7.get
              obtain ⟨a7, e7⟩ := hw7.len
              obtain ⟨hm9, hS9⟩ := hm7.setR (R' := rest D v7 va1 va2 vf1 vf2 (g.secrets * ((D : Int) + 1)) nx5) rfl hg7
              have hlo : ¬ (60000 : Int) < ((runG g D (innM g D) (g.gates.take (i + 1))).1.length : Int) := by have := hR1.n; omega
              subst e5 e7
              simp only [start, KC_normal, go_sem, Nat.reduceEqDiff, Nat.reduceAdd, reduceIte, reduceCtorEq, Nat.reduceLeDiff, Nat.reduceShiftRight, Nat.reduceAnd, Nat.reduceOr, Nat.reducePow, Nat.reduceBNe, Nat.reduceBEq, t6, hg5, he, hg7, hlo, t68]
              have hle5 := hS5.le
              have hS39 := hEb.step.trans (hS7.trans hS9.un)
              have hnF : ∀ j, (F'.un bl) j → H2.next ≤ j := fun j hj => by
                rcases hj with h | h
                · exact hF j h
                · exact (hbl j h).1
              have hF5 : ∀ j, F5 j → H2.next ≤ j := fun j hj => by
                rcases hS5.new j hj with h | h
                · exact hF j h
                · omega
              refine ⟨g.gates.length - (i + 1), by omega, _, _, F5, b7, _, vs ++ [.slice a5 _ _], i + 1, nx5, rfl, rfl, by omega, hE.thenStep hS39 (fun j hj => by have := hnF j hj; omega), hm9, hw7.step hS9 (fun j hj => (hb7 j hj).1), hF5, fun j hj => ⟨by have := (hb7 j hj).2; omega, (hb7 j hj).1⟩, by simp [hvs], fun h => by omega, fun k r hk => ?_, cA.step hS39, cF.step hS39, ?_, ?_, ?_, ?_, ?_, ?_, ?_, ?_, ?_⟩
              · rw [hnx] at hk
                simp only [stepG] at hk
                by_cases hkl : k < (runG g D (innM g D) (g.gates.take i)).2.length
                · rw [List.getElem?_append_left hkl] at hk
                  obtain ⟨u, k1, k2⟩ := hrows k r hk
                  refine ⟨u, ?_, k2.step hS39⟩
                  rw [List.getElem?_append_left (by omega)]; exact k1
                · have hk2 := lt_of_get hk
                  rw [List.length_append, List.length_singleton] at hk2
                  have hke : k = (runG g D (innM g D) (g.gates.take i)).2.length := by omega
                  subst hke
                  rw [List.getElem?_append_right (Nat.le_refl _), Nat.sub_self] at hk
                  simp only [List.getElem?_cons_zero, Option.some.injEq] at hk
                  subst hk
                  refine ⟨_, ?_, (ho7.sl (F := F5.un b7) (fun j hj hf => by
                    rcases hf with h | h
                    · exact (hb5 j hj).2.1 h
                    · exact (hb5 j hj).2.2 h)).step hS9.un⟩
                  rw [hRl, ← hvs]; simp
              · exact (hS39.get H.next (by omega) (fun h => by have := hnF _ h; omega)).trans hb1
              · exact (hS39.get (H.next + 1) (by omega) (fun h => by have := hnF _ h; omega)).trans hb2
              all_goals simp only [start, KC_normal, go_sem, Nat.reduceEqDiff, Nat.reduceAdd, reduceIte, reduceCtorEq, Nat.reduceLeDiff, Nat.reduceShiftRight, Nat.reduceAnd, Nat.reduceOr, Nat.reducePow, Nat.reduceBNe, Nat.reduceBEq, t1, t2, t4, t6, t66, t67]
              rw [wrap_i64 _ (by omega) (by omega)]; simp
            · have hi' : i = g.gates.length := by omega
              subst hi'
              have hlm := hm.lt.1
              rw [List.take_length] at hm hrows hR
              have hRl := hR.len
              have hrl := hR.n
              have hcode : codeM g D = runO D (innM g D) (runG g D (innM g D) g.gates).2 (runG g D (innM g D) g.gates).1 g.outs := rfl
              simp only [start, KC_normal, go_sem, Nat.reduceEqDiff, Nat.reduceAdd, reduceIte, reduceCtorEq, Nat.reduceLeDiff, Nat.reduceShiftRight, Nat.reduceAnd, Nat.reduceOr, Nat.reducePow, Nat.reduceBNe, Nat.reduceBEq, t2, hb1, hou, t6]
              have hcr := (hv0.more (F' := F') (fun j hj => .inr (by have := hF j hj; omega))).step hE.step
              have hrows' : RowsR F' H' vn (runG g D (innM g D) g.gates).2 := ⟨vs, by omega, hvl.sl (fun j hj => (hbl j hj).2), fun k r hk => let ⟨u, k1, k2⟩ := hrows k r hk; ⟨u, k1, k2.left⟩⟩
              refine f48_c hm (by omega) (by omega) hD hcr hrows' hf.2 (fun k o hx => ?_) (by omega) fun H5 F5 hm5 hS5 => ?_
              · have hoo : 0 ≤ o.At ∧ o.At < g.gates.length := by have := hgr.c.o k o hx; rwa [as_len] at this
                refine ⟨hoo.1, by omega, ?_⟩
                rw [hR.wid o.At hoo.1 hoo.2]
                unfold wid
                split <;> omega
              · have hlH := hE.le
                have hle5 := hS5.le
                have hF5 : ∀ j, F5 j → H2.next ≤ j := fun j hj => by
                  rcases hS5.new j hj with h | h
                  · exact hF j h
                  · omega
                have hol : (runO D (innM g D) (runG g D (innM g D) g.gates).2 (runG g D (innM g D) g.gates).1 g.outs).1.length = _ := runO_len _ _ _ _ _
                have hk7 : g.outs.length * (D + 1) ≤ 350 := by
                  have h1 : g.outs.length * (D + 1) ≤ g.outs.length * 7 := Nat.mul_le_mul_left _ (by omega)
                  omega
                simp only at hol
                rw [← hcode] at hm5 hol
                have hopl : ¬ (60000 : Int) < ((codeM g D).1.length : Int) := by omega
                have hb25 := (hS5.get (H.next + 1) (by omega) (fun h => by have := hF _ h; omega)).trans hb2
                obtain ⟨vo', vu', bo', bu', hmb', hRl', -, hmo', hmu', hmF'⟩ := hm5.ex
                obtain ⟨ao', hao'⟩ := hmo'.len
                obtain ⟨au', hau'⟩ := hmu'.len
                subst hao' hau'
                simp only [start, KC_normal, go_sem, Nat.reduceEqDiff, Nat.reduceAdd, reduceIte, reduceCtorEq, Nat.reduceLeDiff, Nat.reduceShiftRight, Nat.reduceAnd, Nat.reduceOr, Nat.reducePow, Nat.reduceBNe, Nat.reduceBEq, t4, t6, hmb', hopl, hb25]
                have ho9 := hmo'.put (j := H.next + 1) (fun j hj => by have := hF5 j ((hmF' j).2 (.inr (.inl hj))); omega) (.cells true 3 [.int .i64 (innM g D), .slice ao' (codeM g D).1.length (codeM g D).1.length, .slice au' (codeM g D).2.length (codeM g D).2.length])
                have hu9 := hmu'.put (j := H.next + 1) (fun j hj => by have := hF5 j ((hmF' j).2 (.inr (.inr hj))); omega) (.cells true 3 [.int .i64 (innM g D), .slice ao' (codeM g D).1.length (codeM g D).1.length, .slice au' (codeM g D).2.length (codeM g D).2.length])
                exact hQ _ _ ((hE.thenStep hS5 (fun j hj => by have := hF j hj; omega)).put (show H.next ≤ H.next + 1 by omega) _) fun G hB => ⟨_, _, rfl, ho9.sl (fun j hj hg => by have := hB.lt j hg; have := hF5 j ((hmF' j).2 (.inr (.inl hj))); omega), hu9.sl (fun j hj hg => by have := hB.lt j hg; have := hF5 j ((hmF' j).2 (.inr (.inr hj))); omega)⟩
end Go.Ab.Ex
