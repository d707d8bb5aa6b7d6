/- Parts of the proof, joined by program: Wire: a gate's wires, by the program: any gate of a graph; Wire: a gate's wires, by the program, with what is deferred; Wire: the first gate's wires, by the program; Wire: the outputs, by the program; Wire: a gate's wires, by the program, and the row that is kept; Wire: the document's Expand. -/
import Derived.Test.YtmodeilippcbnaaR17
import Derived.Test.YtmodeilippcbnaaR18
import Derived.Test.YtmodeilippcbnaaR19
import Derived.Test.YtmodeilippcbnaaR20
import Derived.Test.YtmodeilippcbnaaR21
import Derived.Test.YtmodeilippcbnaaR16
set_option linter.all false
section
namespace Go.Ab.Ex
open Go.Proofs
set_option maxRecDepth 10000

theorem graph_B0 {g : CircM} (h : GraphOk g) {i : Nat} {x : GateM} (hx : g.gates[i]? = some x) (hK : x.K = 12 ∨ (5 ≤ x.K ∧ x.K ≤ 8)) : x.B = 0 := by
  have h1 := h.c.t i _ (as_get (k := 5) hx)
  by_cases h12 : x.K = 12
  · have hK5 : (asG 5 x).K = 5 := by simp [asG, h12]
    have hBa : (asG 5 x).B = x.B := by simp [asG, h12]
    have := ((gOk_5 hK5).1 h1).1
    rwa [hBa] at this
  · have ha : asG 5 x = x := if_neg h12
    rw [ha] at h1
    have hc : x.K = 5 ∨ (x.K = 6 ∨ x.K = 7 ∨ x.K = 8) := by omega
    rcases hc with hK | hK
    · exact ((gOk_5 hK).1 h1).1
    · exact ((gOk_678 hK).1 h1).1

section
variable {F : Fr} {H : Heap} {bm : Nat} {inn : Int} {ops : List OpM} {outs : List Int} {d i : Nat} {g : CircM} {rows : List (List Int)} {vg vn va1 va2 vf1 vf2 : Value} {first nx : Int} {x : GateM} {Q : Ret → Heap → Prop}

theorem f64_c (h : PGate F H bm inn ops outs d g rows vg vn va1 va2 vf1 vf2 first nx) (hx : GateK g i x) (hB0 : x.K = 12 ∨ (5 ≤ x.K ∧ x.K ≤ 8) → x.B = 0) (hR : RowsOk g d inn i ops rows) (hrg : rows.length ≤ g.gates.length) (hQ : PGateQ F H bm inn ops outs d g rows vn va1 va2 vf1 vf2 first x Q) :
    C 64 #[.pointer (some ⟨bm, 0, none⟩), vg, x.v] H Q := by
  obtain ⟨K, A, B, N, S⟩ := x
  have hl := hR.len
  have hd := h.dd
  have rl : ∀ j : Int, 0 ≤ j ∧ j < (i : Int) → 0 ≤ j ∧ j < (rows.length : Int) := fun j hj => by omega
  have hw : ∀ j : Int, 0 ≤ j ∧ j < (i : Int) → (rowOf rows j).length = wid d (g.sec j) := fun j hj => hR.wid j hj.1 hj.2
  cases hx with
  | const h0 hS => cases h0; exact f64_0 h hQ
  | sec h0 hN hS => cases h0; exact f64_1 h hQ
  | pub h0 hN hS => cases h0; exact f64_2 h hQ
  | ref h0 hA hs hS =>
    cases h0
    have := hw A hA
    rw [hs] at this
    have hb := hB0 (.inl rfl)
    simp only at hb hA
    exact f64_12 h (rl A hA) (by omega) hrg (by rw [this]; rfl) hQ
  | two h0 hA hB hS =>
    simp only at h0 hA hB hS
    have wA := hw A hA
    have wB := hw B hB
    have bA := wid_le hd.2 (g.sec A)
    have bB := wid_le hd.2 (g.sec B)
    cases sA : g.sec A
    · cases sB : g.sec B
      · rw [sA, sB] at hS
        rcases h0 with h0 | h0
        · subst h0; exact f64_3ff h (rl A hA) (rl B hB) hrg sA sB hS (by omega) (by omega) hQ
        · subst h0; exact f64_4ff h (rl A hA) (rl B hB) hrg sA sB hS (by rw [wA, sA]; rfl) (by omega) (by omega) hQ
      · rw [sA, sB] at hS
        rcases h0 with h0 | h0
        · subst h0; exact f64_3ft h (rl A hA) (rl B hB) hrg sA sB hS (by omega) (by omega) hQ
        · subst h0; exact f64_4ft h (rl A hA) (rl B hB) hrg sA sB hS (by omega) (by omega) (by omega) hQ
    · cases sB : g.sec B
      · rw [sA, sB] at hS
        rcases h0 with h0 | h0
        · subst h0; exact f64_3tf h (rl A hA) (rl B hB) hrg sA sB hS (by omega) (by omega) hQ
        · subst h0; exact f64_4tf h (rl A hA) (rl B hB) hrg sA sB hS (by omega) (by omega) (by omega) hQ
      · rw [sA] at wA
        rw [sB] at wB
        rcases h0 with h0 | h0
        · subst h0; exact f64_and h (rl A hA) (rl B hB) hrg (by rw [wA]; rfl) (by rw [wB]; rfl) sA sB hQ
        · subst h0; exact f64_xx h (rl A hA) (rl B hB) hrg sA sB (by rw [wA]; unfold wid; simp; omega) (by rw [wA, wB]) hQ
  | not h0 hA hN hS =>
    simp only at h0 hA hN hS
    have wA := hw A hA
    have bA := wid_le hd.2 (g.sec A)
    have hb := hB0 (.inr (by simp only; omega))
    simp only at hb
    subst h0
    cases hs : g.sec A
    · rw [hs] at hS wA bA
      exact f64_5 h (rl A hA) (by omega) hrg hS (by rw [wA]; rfl) (by omega) hQ
    · rw [hs] at hS
      exact f64_not h (rl A hA) (by omega) hrg hS hN (by omega) (by omega) hQ
  | sh h0 hA hN hS =>
    simp only at h0 hA hN hS
    have wA := hw A hA
    have bA := wid_le hd.2 (g.sec A)
    have hb := hB0 (.inr (by simp only; omega))
    simp only at hb
    cases hs : g.sec A
    · rw [hs] at hS
      rcases h0 with h0 | h0 | h0
      · subst h0; exact f64_6f h (rl A hA) (by omega) hrg hS (by omega) hQ
      · subst h0; exact f64_7f h (rl A hA) (by omega) hrg hS (by omega) hQ
      · subst h0; exact f64_8f h (rl A hA) (by omega) hrg hS (by omega) hQ
    · rw [hs] at hS
      rcases h0 with h0 | h0 | h0
      · subst h0; exact f64_6t h (rl A hA) (by omega) hrg hS (by omega) hQ
      · subst h0; exact f64_7t h (rl A hA) (by omega) hrg hS (by omega) hQ
      · subst h0; exact f64_8t h (rl A hA) (by omega) hrg hS (by omega) hQ
end
end Go.Ab.Ex
end
section
namespace Go.Ab.Ex
open Go.Proofs
set_option maxRecDepth 10000
set_option maxHeartbeats 1000000

theorem e_defer2 (T : Tab) (ρ : Operand → Value) (H : Heap) (d : Option Tmp) (ty : TypeId) (ps : String) (af : Array Edge) (gd : Option (Nat × Bool)) (f : Operand) (x : Array Operand) (t : Array TypeId) : aeff T ρ ⟨d, .defer ⟨.value f, x, t⟩, ty, ps, af, gd⟩ H = dfrOf (ρ f) (x.map ρ) := by simp only [aeff]
theorem dfr_fn (g : FuncId) (cap : List Value) : dfrOf (.func (.func g) #[] cap.toArray) #[] = some (.dfr { target := .fn (.func g) cap.toArray, args := #[] }) := by simp [dfrOf]
theorem KL_fn2 (P : Program) (T : Tab) (ng : Nat) (rs : List ResultVar) (tm : Tr Value) (Q : Ret → Heap → Prop) (f : FuncId) (cap : List Value) (ds : List Deferred) (H : Heap) : KL P T ng rs tm Q ({ target := .fn (.func f) cap.toArray, args := #[] } :: ds) H =
    SemD P ng f cap.toArray H (KL P T ng rs tm Q ds) := by rw [KL_fn]; simp
theorem KDf_normal (rs : List ResultVar) (T : Tab) (K : Heap → Prop) (st : St) (h1 : st.defers = []) (h2 : rs = []) (h3 : K st.heap) : KDf rs T K .normal st := by
  unfold KDf; subst h2; exact ⟨.inl rfl, h1, ⟨[], rfl⟩, h3⟩
theorem arr_nil_map (ρ : Operand → Value) : (#[] : Array Operand).map ρ = #[] := by simp
attribute [go_sem] e_defer2 dfr_fn KL_fn2 arr_nil_map

section
variable {F : Fr} {H : Heap} {bm : Nat} {inn : Int} {ops : List OpM} {outs : List Int} {d i : Nat} {g : CircM} {rows : List (List Int)} {vg vn va1 va2 vf1 vf2 : Value} {first nx : Int} {x : GateM} {Q : Ret → Heap → Prop}

theorem PGate.ext {H' : Heap} (h : PGate F H bm inn ops outs d g rows vg vn va1 va2 vf1 vf2 first nx) (hE : Ext H H') : PGate F H' bm inn ops outs d g rows vg vn va1 va2 vf1 vf2 first nx :=
  ⟨h.m.ext hE, h.l, h.i, h.dd, h.c.step hE.step, h.s, h.r.step hE.step, h.a.step hE.step, h.f.step hE.step, h.fst⟩

/-- a gate behind others -/
theorem f47_c (h : PGate F H bm inn ops outs d g rows vg vn va1 va2 vf1 vf2 first nx) (hx : GateK g i x) (hB0 : x.K = 12 ∨ (5 ≤ x.K ∧ x.K ≤ 8) → x.B = 0) (hR : RowsOk g d inn i ops rows) (hrg : rows.length ≤ g.gates.length) (hpos : 0 < rows.length) (hQ : PGateQ F H bm inn ops outs d g rows vn va1 va2 vf1 vf2 first x Q) :
    C 47 #[.pointer (some ⟨bm, 0, none⟩), vg, x.v] H Q := by
  obtain ⟨v1, v2, rfl, hg1, hg2⟩ := h.c.ex
  obtain ⟨ag, cg, rfl, -, -, hgA⟩ := hg1.ex
  obtain ⟨au, cu, rfl, -, -, huA⟩ := hg2.ex
  obtain ⟨bl, ol, owl, Cl, cl, rfl, hkl, hCl⟩ := h.r.all (by omega)
  refine SemC_fn TT.ok fn47 rfl rfl ?_
  simp only [Try.f47, GateM.v, start, KC_normal, go_sem, Nat.reduceEqDiff, Nat.reduceAdd, reduceIte, reduceCtorEq, Nat.reduceLeDiff, Nat.reduceShiftRight, Nat.reduceAnd, Nat.reduceOr, Nat.reducePow, Nat.reduceBNe, Nat.reduceBEq]
  generalize hX : ((H.push _).push _).push _ = H1
  obtain ⟨hE1, h3, h4, h5, hn1⟩ := pre3 hX
  clear hX
  obtain ⟨mo, mu, hg⟩ := (h.m.ext hE1).get
  have hne : ¬ (rows.length : Int) = 0 := by omega
  simp only [start, KC_normal, go_sem, Nat.reduceEqDiff, Nat.reduceAdd, reduceIte, reduceCtorEq, Nat.reduceLeDiff, Nat.reduceShiftRight, Nat.reduceAnd, Nat.reduceOr, Nat.reducePow, Nat.reduceBNe, Nat.reduceBEq, h3, hg, hne, h4, h5]
  refine f64_c (x := x) (h.ext hE1) hx hB0 hR hrg fun H2 F2 v b nx' hm2 hS2 ho2 hb2 => ?_
  simp only [start, KC_normal, go_sem, Nat.reduceEqDiff, Nat.reduceAdd, reduceIte, reduceCtorEq, Nat.reduceLeDiff, Nat.reduceShiftRight, Nat.reduceAnd, Nat.reduceOr, Nat.reducePow, Nat.reduceBNe, Nat.reduceBEq]
  have hle := hE1.le
  exact hQ H2 F2 v b nx' hm2 (hE1.step.trans hS2) ho2 fun j hj => ⟨by have := (hb2 j hj).1; omega, (hb2 j hj).2⟩

theorem f63_d {K : Heap → Prop} {b3 bm k cap len : Nat} {w0 w1 w2 r0 r2 r3 r4 r5 r6 r7 r8 r9 : Value} {c : List Value} {own : Bool} (h3 : H.get b3 = .cells true 1 [.pointer (some ⟨bm, 0, none⟩)]) (hm : H.get bm = .cells true 13 [w0, w1, w2, r0, .slice (some ⟨k, 0, none⟩) len cap, r2, r3, r4, r5, r6, r7, r8, r9]) (hk : H.get k = .cells own 1 c)
    (hK : K ((H.skip 9).put bm (.cells true 13 [w0, w1, w2, r0, .slice (some ⟨k, 0, none⟩) 0 cap, r2, r3, r4, r5, r6, r7, r8, r9]))) : SemD Try.prog 0 63 #[.pointer (some ⟨b3, 0, none⟩)] H K := by
  refine SemD_fn TT.ok fn63 rfl rfl ?_
  simp only [Try.f63, start, KC_normal, go_sem, Nat.reduceEqDiff, Nat.reduceAdd, reduceIte, reduceCtorEq, Nat.reduceLeDiff, Nat.reduceShiftRight, Nat.reduceAnd, Nat.reduceOr, Nat.reducePow, Nat.reduceBNe, Nat.reduceBEq]
  refine DRg_x TT.ok [0, 0, 2, 6, 14, 30, 63, 127, 255] 9 511 9 rfl (by decide +kernel) ?_
  have e : ∀ H', H'.get k = .cells own 1 c → sliceC TT H' 64 (.slice (some ⟨k, 0, none⟩) len cap) none (some (.int .i64 0)) none = some (.slice (some ⟨k, 0, none⟩) 0 cap) := by
    intro H' hk
    have e : bnds len cap none (some (0 : Int)) none = some (0, 0, cap) := by simp [bnds, bMax, bHigh, bLow]
    simp only [sliceC, lit?, ty64, ty29, hk, e]
    simp
  simp only [start, KC_normal, go_sem, Nat.reduceEqDiff, Nat.reduceAdd, reduceIte, reduceCtorEq, Nat.reduceLeDiff, Nat.reduceShiftRight, Nat.reduceAnd, Nat.reduceOr, Nat.reducePow, Nat.reduceBNe, Nat.reduceBEq, h3, hm, e (H.skip 9) hk]
  exact KDf_normal _ _ _ _ rfl rfl hK
end
end Go.Ab.Ex
end
section
namespace Go.Ab.Ex
open Go.Proofs
set_option maxRecDepth 10000
set_option maxHeartbeats 1000000

theorem gateM_nil (g : CircM) (d : Nat) (n : Int) {x : GateM} (h : x.K = 0 ∨ x.K = 1 ∨ x.K = 2) : gateM g d [[]] n x = gateM g d [] n x := by
  unfold gateM
  rcases h with h | h | h <;> simp [h]

/-- a list's first row, a nil one -/
theorem app1_nil (H : Heap) {k : Nat} (hk : k < H.next) (hg : H.get k = .cells true 1 [.slice none 0 0]) :
    ∃ H', appendC TT H #[64, 64] (.slice none 0 0) (.slice (some ⟨k, 0, none⟩) 1 1) = some (.val (.slice (some ⟨H.next, 0, none⟩) 1 1) H') ∧ H'.get H.next = .cells true 1 [.slice none 0 0] ∧ Ext H H' ∧ H.next < H'.next := by
  have hx : Own1 H 1 [.slice none 0 0] (.slice (some ⟨k, 0, none⟩) 1 1) 1 (some k) := .blk k 1 hk hg rfl
  obtain ⟨v', H2, b', he, ho', hS, hb', hb1', hle2⟩ := append_s (T := TT) (t0 := 64) (t1 := 64) ty64 ty64 ty29 rfl (Own1.nil0 H 1) (hx.sl (F := noF) fun _ _ h => h) rfl (by decide) (by decide)
  have hb := hb1' (by decide)
  subst hb
  cases ho' with
  | blk k n h1 h2 h3 => exact ⟨H2, he, h2, ((hS noF).sub (G := noF) (F'' := noF) (fun j hj => by rcases hj with h | h; exact h.elim; cases h) (fun j hj => hj.elim)).noF, h1⟩

section
variable {F : Fr} {H : Heap} {bm : Nat} {inn : Int} {ops : List OpM} {outs : List Int} {d : Nat} {g : CircM} {vg va1 va2 vf1 vf2 : Value} {first nx : Int} {x : GateM} {Q : Ret → Heap → Prop}

theorem PGate.row0 (h : PGate F H bm inn ops outs d g [] vg (.slice none 0 0) va1 va2 vf1 vf2 first nx) {H1 : Heap} (hE : Ext H H1) {k : Nat} (hk : H.next ≤ k) (hk1 : k < H1.next) (hg : H1.get k = .cells true 1 [.slice none 0 0]) {H2 : Heap} (hS : Step F H F H2) (hm : PmR F H2 bm inn ops outs (rest d (.slice (some ⟨k, 0, none⟩) 1 1) va1 va2 vf1 vf2 first nx)) (hg2 : H2.get k = .cells true 1 [.slice none 0 0]) (hk2 : k < H2.next) :
    PGate F H2 bm inn ops outs d g [[]] vg (.slice (some ⟨k, 0, none⟩) 1 1) va1 va2 vf1 vf2 first nx := by
  refine ⟨hm, h.l, h.i, h.dd, h.c.step hS, h.s, ⟨[.slice none 0 0], rfl, ⟨_, 1, rfl, Nat.le_refl _, rfl, .blk k 0 true _ ⟨hk2, fun hf => by have := h.m.bd.lt k hf; omega, hg2⟩ rfl⟩, fun i r hr => ?_⟩, h.a.step hS, h.f.step hS, h.fst⟩
  match i, hr with
  | 0, hr => cases hr; exact ⟨_, rfl, ⟨none, 0, rfl, Nat.le_refl _, rfl, .nil rfl rfl rfl⟩⟩

/-- a gate that takes none -/
theorem f64_no {rows : List (List Int)} {vn : Value} (h : PGate F H bm inn ops outs d g rows vg vn va1 va2 vf1 vf2 first nx) (hx : x.K = 0 ∨ x.K = 1 ∨ x.K = 2) (hQ : PGateQ F H bm inn ops outs d g rows vn va1 va2 vf1 vf2 first x Q) :
    C 64 #[.pointer (some ⟨bm, 0, none⟩), vg, x.v] H Q := by
  obtain ⟨K, A, B, N, S⟩ := x
  simp only at hx
  rcases hx with rfl | rfl | rfl
  · exact f64_0 h hQ
  · exact f64_1 h hQ
  · exact f64_2 h hQ

/-- the first gate -/
theorem f47_c0 (h : PGate F H bm inn ops outs d g [] vg (.slice none 0 0) va1 va2 vf1 vf2 first nx) (hx : x.K = 0 ∨ x.K = 1 ∨ x.K = 2)
    (hQ : ∀ H' F' v b nx' k, PmR F' H' bm inn (ops ++ (gateM g d [] (inn + ops.length) x).1) outs (rest d (.slice (some ⟨k, 0, none⟩) 0 1) va1 va2 vf1 vf2 first nx') → Step F H F' H' → Own1 H' 1 ((gateM g d [] (inn + ops.length) x).2.flatMap intC) v (gateM g d [] (inn + ops.length) x).2.length b → (∀ j, b = some j → H.next ≤ j ∧ ¬ F' j) → H.next ≤ k → Kp F' H' k (.cells true 1 [.slice none 0 0]) → b ≠ some k → Q (.ret v) H') :
    C 47 #[.pointer (some ⟨bm, 0, none⟩), vg, x.v] H Q := by
  have h0 := h
  obtain ⟨v1, v2, rfl, hg1, hg2⟩ := h.c.ex
  obtain ⟨ag, cg, rfl, -, -, hgA⟩ := hg1.ex
  obtain ⟨au, cu, rfl, -, -, huA⟩ := hg2.ex
  refine SemC_fn TT.ok fn47 rfl rfl ?_
  simp only [Try.f47, GateM.v, start, KC_normal, go_sem, Nat.reduceEqDiff, Nat.reduceAdd, reduceIte, reduceCtorEq, Nat.reduceLeDiff, Nat.reduceShiftRight, Nat.reduceAnd, Nat.reduceOr, Nat.reducePow, Nat.reduceBNe, Nat.reduceBEq]
  generalize hX : ((H.push _).push _).push _ = H1
  obtain ⟨hE1, h3, h4, h5, hn1⟩ := pre3 hX
  clear hX
  obtain ⟨mo, mu, hg⟩ := (h.m.ext hE1).get
  simp only [start, KC_normal, go_sem, Nat.reduceEqDiff, Nat.reduceAdd, reduceIte, reduceCtorEq, Nat.reduceLeDiff, Nat.reduceShiftRight, Nat.reduceAnd, Nat.reduceOr, Nat.reducePow, Nat.reduceBNe, Nat.reduceBEq, h3, hg, h4, h5, List.length_nil, Int.natCast_zero]
  trace_state
  refine DRg_x TT.ok [0, 0, 2, 6, 14, 0, 62, 127, 255, 511] 10 1023 27 rfl (by decide +kernel) ?_
  simp only [start, KC_normal, go_sem, Nat.reduceEqDiff, Nat.reduceAdd, reduceIte, reduceCtorEq, Nat.reduceLeDiff, Nat.reduceShiftRight, Nat.reduceAnd, Nat.reduceOr, Nat.reducePow, Nat.reduceBNe, Nat.reduceBEq, h3, hg, h4, h5]
  generalize hY : (H1.skip 10).put _ _ = H2
  obtain ⟨hE2, h6, hn2⟩ := skip_put hY (by omega)
  clear hY
  obtain ⟨H3, he, h7, hE3, hn3⟩ := app1_nil H2 (k := H1.next + 5) (by omega) h6
  have hE13 := (hE1.trans hE2).trans hE3
  have hg3 := (hE2.trans hE3).get bm (by have := h.m.lt.1; have := hE1.le; omega)
  rw [hg] at hg3
  obtain ⟨hm4, hS4⟩ := (h.m.ext hE13).setR (R' := rest d (.slice (some ⟨H2.next, 0, none⟩) 1 1) va1 va2 vf1 vf2 first nx) rfl hg3
  simp only [he, start, KC_normal, go_sem, Nat.reduceEqDiff, Nat.reduceAdd, reduceIte, reduceCtorEq, Nat.reduceLeDiff, Nat.reduceShiftRight, Nat.reduceAnd, Nat.reduceOr, Nat.reducePow, Nat.reduceBNe, Nat.reduceBEq, hg3]
  generalize hY : H3.put bm _ = H4 at *
  have hle1 := hE1.le
  have hle2 := hE2.le
  have hle3 := hE3.le
  have kp : ∀ j a, H.next ≤ j → j < H1.next → H1.get j = a → H4.get j = a := fun j a h1 h2 ha => by
    rw [hS4.get j (by omega) (fun hf => by have := h.m.bd.lt j hf; omega), (hE2.trans hE3).get j h2]; exact ha
  have k3 := kp _ _ (by omega) (by omega) h3
  have k4 := kp _ _ (by omega) (by omega) h4
  have k5 := kp _ _ (by omega) (by omega) h5
  have k7 : H4.get H2.next = .cells true 1 [.slice none 0 0] := by
    rw [hS4.get _ (by omega) (fun hf => by have := h.m.bd.lt _ hf; omega)]; exact h7
  have hP : PGate F H4 bm inn ops outs d g [[]] _ (.slice (some ⟨H2.next, 0, none⟩) 1 1) va1 va2 vf1 vf2 first nx := h.row0 hE13 (k := H2.next) (by omega) (by omega) h7 (hE13.step.trans hS4) hm4 k7 (by have := hS4.le; omega)
  have e3 : H3.get H.next = _ := ((hE2.trans hE3).get H.next (by omega)).trans h3
  simp only [start, KC_normal, go_sem, Nat.reduceEqDiff, Nat.reduceAdd, reduceIte, reduceCtorEq, Nat.reduceLeDiff, Nat.reduceShiftRight, Nat.reduceAnd, Nat.reduceOr, Nat.reducePow, Nat.reduceBNe, Nat.reduceBEq, k3, k4, k5, e3]
  have hgn := gateM_nil g d (inn + ops.length) hx
  refine f64_no hP hx fun H5 F5 v b nx' hm5 hS5 ho5 hb5 => ?_
  rw [hgn] at hm5 ho5
  have hle4 := hS4.le
  have hle5 := hS5.le
  have nF : ∀ j, H.next ≤ j → ¬ F j := fun j hj hf => by have := h.m.bd.lt j hf; omega
  have s3 := (hS5.get H.next (by omega) (nF _ (by omega))).trans k3
  have s7 := (hS5.get H2.next (by omega) (nF _ (by omega))).trans k7
  obtain ⟨mo5, mu5, hg5⟩ := hm5.get
  simp only [start, KC_normal, go_sem, Nat.reduceEqDiff, Nat.reduceAdd, reduceIte, reduceCtorEq, Nat.reduceLeDiff, Nat.reduceShiftRight, Nat.reduceAnd, Nat.reduceOr, Nat.reducePow, Nat.reduceBNe, Nat.reduceBEq]
  refine f63_d s3 hg5 s7 ?_
  simp only [start, KC_normal, go_sem, Nat.reduceEqDiff, Nat.reduceAdd, reduceIte, reduceCtorEq, Nat.reduceLeDiff, Nat.reduceShiftRight, Nat.reduceAnd, Nat.reduceOr, Nat.reducePow, Nat.reduceBNe, Nat.reduceBEq]
  obtain ⟨hm6, hS6⟩ := (hm5.ext ((Ext.refl H5).skip 9)).setR (R' := rest d (.slice (some ⟨H2.next, 0, none⟩) 0 1) va1 va2 vf1 vf2 first nx') rfl hg5
  generalize hY : (H5.skip 9).put bm _ = H6 at *
  have hS56 := (((Ext.refl H5).skip 9).step (F := F5)).trans hS6
  exact hQ H6 F5 v b nx' H2.next hm6 (((hE13.step.trans hS4).trans hS5).trans hS56) (ho5.step hS56 fun j hj => (hb5 j hj).2) (fun j hj => ⟨by have := (hb5 j hj).1; omega, (hb5 j hj).2⟩) (by omega)
    (((⟨by omega, nF _ (by omega), k7⟩ : Kp F H4 H2.next _).step hS5).step hS56) (fun e => by have := (hb5 _ e).1; omega)
end
end Go.Ab.Ex
end
section
namespace Go.Ab.Ex
open Go.Proofs
set_option maxRecDepth 10000
set_option maxHeartbeats 1000000

/-- outputs more -/
theorem PmR.appOuts {F : Fr} {H : Heap} {bm : Nat} {inn : Int} {ops : List OpM} {outs : List Int} {R : List Value} (hm : PmR F H bm inn ops outs R) {y : List Int} {vy : Value} {by_ : Option Nat} (hy : Own1 H 1 (y.flatMap intC) vy y.length by_) (hl : outs.length + y.length < 1000000) :
    ∃ ao au a H2, H.get bm = .cells true 13 (.int .i64 inn :: .slice ao ops.length ops.length :: .slice au outs.length outs.length :: R) ∧ appendC TT H #[29, 29] (.slice au outs.length outs.length) vy = some (.val (.slice a (outs.length + y.length) (outs.length + y.length)) H2) ∧
      H2.get bm = .cells true 13 (.int .i64 inn :: .slice ao ops.length ops.length :: .slice au outs.length outs.length :: R) ∧
      ∃ F2, PmR F2 (H2.put bm (.cells true 13 (.int .i64 inn :: .slice ao ops.length ops.length :: .slice a (outs.length + y.length) (outs.length + y.length) :: R))) bm inn ops (outs ++ y) R ∧ Step F H F2 (H2.put bm (.cells true 13 (.int .i64 inn :: .slice ao ops.length ops.length :: .slice a (outs.length + y.length) (outs.length + y.length) :: R))) := by
  obtain ⟨vo, vu, bo, bu, hb, hR, hlt, ho, hu, hF⟩ := hm.ex
  obtain ⟨ao, rfl⟩ := ho.len
  obtain ⟨au, rfl⟩ := hu.len
  have hbm : ∀ j, bo = some j → j ≠ bm := fun j e h => by
    have := (ho.at e).2.1
    rw [h, hb] at this; cases this
  have hum : ∀ j, bu = some j → j ≠ bm := fun j e h => by
    have := (hu.at e).2.1
    rw [h, hb] at this; cases this
  have hou : ∀ j, bo = some j → ¬ bu = some j := fun j hj e => by
    have h1 := (hu.at e).2.1
    have h2 := (ho.at hj).2.1
    rw [h1] at h2; cases h2
  obtain ⟨v', H2, b', he, hu', hS, hb'⟩ := appN_int hu (hy.sl (F := noF) fun _ _ h => h) hl
  rw [List.length_append] at hu'
  obtain ⟨a, rfl⟩ := hu'.len
  have hle2 := (hS noF).le
  have hb2 := ((hS noF).get bm hlt (fun h => by rcases h with h | h; exact h; exact hum bm h rfl)).trans hb
  have hbm2 : ∀ j, b' = some j → j ≠ bm := fun j hj e => by
    rcases hb' j hj with h | h
    · exact hum j h e
    · omega
  refine ⟨ao, au, a, H2, hb, he, hb2, fun j => j = bm ∨ bo = some j ∨ b' = some j, ⟨_, _, bo, b', H_put_same _ _ _, hR, by simp only [Heap.next_put]; omega, ?_, ?_, fun _ => .rfl⟩, ?_⟩
  · exact (ho.step (hS noF) (fun j hj h => by rcases h with h | h; exact h; exact hou j hj h)).put hbm _
  · rw [List.length_append]; exact hu'.put hbm2 _
  · refine Step.put (F' := fun j => j = bm ∨ bo = some j ∨ b' = some j) ((hS (fun j => j = bm ∨ bo = some j)).sub (fun j hf => ?_) (fun j hf => ?_)) (.inl ((hF bm).2 (.inl rfl))) _
    · rcases hf with (h | h) | h
      · exact .inl ((hF j).2 (.inl h))
      · exact .inl ((hF j).2 (.inr (.inl h)))
      · exact .inl ((hF j).2 (.inr (.inr h)))
    · rcases hf with h | h | h
      · exact .inl (.inl (.inl h))
      · exact .inl (.inl (.inr h))
      · exact .inl (.inr h)

theorem outOps_len (d : Nat) (row : List Int) : (outOps d row).length = d + 1 := by simp [outOps]
theorem elRow_range (a : List Int) (n : Int) : elRow false a n = (List.range a.length).map fun (e : Nat) => n + (e : Int) := by
  unfold elRow
  apply List.ext_getElem?
  intro i
  rw [List.getElem?_mapIdx, List.getElem?_map]
  by_cases h : i < a.length
  · rw [List.getElem?_range h, List.getElem?_eq_getElem h]; simp
  · rw [List.getElem?_eq_none (by omega), List.getElem?_eq_none (by simp; omega)]; rfl
theorem outOps_get {d : Nat} {row : List Int} {q : Nat} (h : q < d + 1) : (outOps d row)[q]? = some (if q < row.length then ⟨8, row.getD q 0, 0, 0⟩ else ⟨7, 0, 0, 0⟩) := by
  unfold outOps; rw [List.getElem?_map, List.getElem?_range h]; rfl
theorem elOps_out {d : Nat} {row : List Int} (h : row.length ≤ d + 1) : elOps false 8 0 row (fun _ => ([] : List Int).getD 0 0) = (outOps d row).take row.length := by
  apply List.ext_getElem?
  intro i
  unfold elOps
  rw [List.getElem?_mapIdx, List.getElem?_take]
  by_cases hi : i < row.length
  · rw [if_pos hi, outOps_get (by omega), if_pos hi]
    simp [List.getElem?_eq_getElem hi]
  · rw [if_neg hi]; simp; omega

section
variable {F : Fr} {H : Heap} {bm : Nat} {inn : Int} {ops : List OpM} {d : Nat} {g : CircM} {rows : List (List Int)} {vg vn va1 va2 vf1 vf2 : Value} {first nx : Int} {Q : Ret → Heap → Prop}

theorem f48_c (hm : PmR F H bm inn ops [] (rest d vn va1 va2 vf1 vf2 first nx)) (hl : ops.length < 60000) (hi : 0 ≤ inn ∧ inn < 1000000) (hd : 1 ≤ d ∧ d ≤ 6) (hc : CircR F H vg g) (hr : RowsR F H vn rows) (hg50 : g.outs.length ≤ 50)
    (ho : ∀ (i : Nat) (o : OutM), g.outs[i]? = some o → 0 ≤ o.At ∧ o.At < rows.length ∧ (rowOf rows o.At).length ≤ d + 1) (hrl : rows.length < 1000000)
    (hQ : ∀ H' F', PmR F' H' bm inn (runO d inn rows ops g.outs).1 (runO d inn rows ops g.outs).2 (rest d vn va1 va2 vf1 vf2 first nx) → Step F H F' H' → Q (.ret (.tuple #[])) H') :
    C 48 #[.pointer (some ⟨bm, 0, none⟩), vg] H Q := by
  obtain ⟨v1, v2, rfl, hg1, hg2⟩ := hc.ex
  obtain ⟨ag, cg, rfl, -, -, hgA⟩ := hg1.ex
  obtain ⟨au, cu, rfl, -, -, huA⟩ := hg2.ex
  refine SemC_fn TT.ok fn48 rfl rfl ?_
  simp only [Try.f48, start, KC_normal, go_sem, Nat.reduceEqDiff, Nat.reduceAdd, reduceIte, reduceCtorEq, Nat.reduceLeDiff, Nat.reduceShiftRight, Nat.reduceAnd, Nat.reduceOr, Nat.reducePow, Nat.reduceBNe, Nat.reduceBEq]
  generalize hX : H.push _ = H1
  obtain ⟨hE1, h3, hn1⟩ := new_push hX
  clear hX
  refine wp_loop TT.ok rfl rfl (fun j s => ∃ tm H' F' k, s = ⟨tm, 48, [], false, H'⟩ ∧ j = g.outs.length - k ∧ k ≤ g.outs.length ∧ Step F H F' H' ∧ PmR F' H' bm inn (runO d inn rows ops (g.outs.take k)).1 (runO d inn rows ops (g.outs.take k)).2 (rest d vn va1 va2 vf1 vf2 first nx) ∧
    (runO d inn rows ops (g.outs.take k)).1.length = ops.length + k * (d + 1) ∧ (runO d inn rows ops (g.outs.take k)).2.length = k * (d + 1) ∧
    tm.get 0 = some (.pointer (some ⟨bm, 0, none⟩)) ∧ tm.get 8 = some (.slice au g.outs.length cu) ∧ tm.get 9 = some (.int .i64 (g.outs.length : Nat)) ∧ tm.get 10 = some (.int .i64 (k : Nat))) g.outs.length ?_ ?_
  · refine ⟨_, H1, F, 0, rfl, rfl, Nat.zero_le _, hE1.step, by simpa [runO] using hm.ext hE1, by simp [runO], by simp [runO], ?_, ?_, ?_, ?_⟩
    all_goals simp only [start, KC_normal, go_sem, Nat.reduceEqDiff, Nat.reduceAdd, reduceIte, reduceCtorEq, Nat.reduceLeDiff, Nat.reduceShiftRight, Nat.reduceAnd, Nat.reduceOr, Nat.reducePow, Nat.reduceBNe, Nat.reduceBEq]
    rfl
  · clear h3 hE1 hn1
    rintro j s - ⟨tm, H', F', k, rfl, hj, hk, hS, hm', hol, hul, t0, t8, t9, t10⟩
    have hk7 : k * (d + 1) ≤ 350 := by
      have h1 : k * (d + 1) ≤ k * 7 := Nat.mul_le_mul_left _ (by omega)
      omega
    simp only [start, KC_normal, go_sem, Nat.reduceEqDiff, Nat.reduceAdd, reduceIte, reduceCtorEq, Nat.reduceLeDiff, Nat.reduceShiftRight, Nat.reduceAnd, Nat.reduceOr, Nat.reducePow, Nat.reduceBNe, Nat.reduceBEq, t8, t9, t10]
    refine CN_split (fun hlt => ?_) (fun hge => ?_)
    · have hlt' : k < g.outs.length := by omega
      obtain ⟨o, hx⟩ : ∃ o, g.outs[k]? = some o := ⟨_, List.getElem?_eq_getElem hlt'⟩
      obtain ⟨ho1, ho2, ho3⟩ := ho k o hx
      obtain ⟨bo2, oo, owo, Co, rfl, hko, hCo⟩ := (huA.step hS).all OutM.len (by omega)
      have hseg := (hCo _ _ hx).2
      simp only [OutM.c] at hseg
      simp only [start, KC_normal, go_sem, Nat.reduceEqDiff, Nat.reduceAdd, reduceIte, reduceCtorEq, Nat.reduceLeDiff, Nat.reduceShiftRight, Nat.reduceAnd, Nat.reduceOr, Nat.reducePow, Nat.reduceBNe, Nat.reduceBEq, t0, t8, t10, ia_in _ _ _ _ _ hlt', hko.get, hseg]
      generalize hX : (H'.push _).put _ _ = H2
      obtain ⟨hE2, h5, hn2⟩ := new_put hX
      clear hX
      have hm2 := hm'.ext hE2
      obtain ⟨mo, mu, hg⟩ := hm2.get
      obtain ⟨vs, hvs, hvl, hrows⟩ := ((hr.step hS).step hE2.step).ex
      obtain ⟨u, hu1, hu2⟩ := hrows _ _ (rowOf_get ho1 ho2)
      obtain ⟨al, capl, rfl, -, -, hlA⟩ := hvl.ex
      obtain ⟨bl, ol, owl, Cl, rfl, hkl, hCl⟩ := hlA.all cellC_len (by omega)
      have hu4 := (hCl _ _ hu1).1 0 (by omega)
      simp only [cellC, Nat.add_zero, List.getElem?_cons_zero] at hu4
      refine DRg_x TT.ok [0, 0, 2, 6, 14, 0, 32, 126, 254, 511, 1023] 11 2047 48 rfl (by decide +kernel) ?_
      simp only [start, KC_normal, go_sem, Nat.reduceEqDiff, Nat.reduceAdd, reduceIte, reduceCtorEq, Nat.reduceLeDiff, Nat.reduceShiftRight, Nat.reduceAnd, Nat.reduceOr, Nat.reducePow, Nat.reduceBNe, Nat.reduceBEq, t0, t8, t10, h5, hg, ia_int _ _ _ _ _ ho1 (show o.At < (vs.length : Int) by omega), hkl.get, hu4]
      have hn := runO_next d inn rows ops (g.outs.take k) o
      rw [← take_next hx] at hn
      simp only [stepO] at hn
      generalize hK1 : (runO d inn rows ops (g.outs.take k)).1 = opsK at *
      generalize hK2 : (runO d inn rows ops (g.outs.take k)).2 = outsK at *
      generalize hrw : rowOf rows o.At = row at *
      have hEs : Ext H2 (H2.skip 11) := (Ext.refl H2).skip 11
      refine f65_c (k := 8) (N := 0) (a := row) (other := []) (hm2.ext hEs) (by omega) hi (by omega) (by simp) (hu2.step hEs.step) ⟨none, 0, rfl, Nat.le_refl _, rfl, .nil rfl rfl rfl⟩ fun H3 F3 v b hm3 hS3 hw3 hb3 => ?_
      rw [elOps_out ho3] at hm3
      rw [elRow_range] at hw3
      simp only [start, KC_normal, go_sem, Nat.reduceEqDiff, Nat.reduceAdd, reduceIte, reduceCtorEq, Nat.reduceLeDiff, Nat.reduceShiftRight, Nat.reduceAnd, Nat.reduceOr, Nat.reducePow, Nat.reduceBNe, Nat.reduceBEq]
      have hS03 : Step F H F3 H3 := (hS.trans (hE2.trans hEs).step).trans hS3
      have hHl := hS.le
      have hle2 := (hE2.trans hEs).le
      have hb0 : ∀ j, b = some j → H.next ≤ j ∧ ¬ F3 j := fun j hj => ⟨by have := (hb3 j hj).1; omega, (hb3 j hj).2⟩
      clear hS3 hb3 hm2 hE2 hEs hle2 hg h5 hS hm'
      refine wp_loop TT.ok rfl rfl (fun j s => ∃ tm H4 F4 v b q, s = ⟨tm, 48, [], false, H4⟩ ∧ j = d + 1 - q ∧ q ≤ d + 1 ∧ row.length ≤ q ∧ Step F H F4 H4 ∧ PmR F4 H4 bm inn (opsK ++ (outOps d row).take q) outsK (rest d (.slice (some ⟨bl, ol, none⟩) vs.length capl) va1 va2 vf1 vf2 first nx) ∧
        Own1 H4 1 (((List.range q).map fun (e : Nat) => inn + (opsK.length : Int) + (e : Int)).flatMap intC) v ((List.range q).map fun (e : Nat) => inn + (opsK.length : Int) + (e : Int)).length b ∧ (∀ j, b = some j → H.next ≤ j ∧ ¬ F4 j) ∧
        tm.get 0 = some (.pointer (some ⟨bm, 0, none⟩)) ∧ tm.get 6 = some v ∧ tm.get 8 = some (.slice (some ⟨bo2, oo, none⟩) g.outs.length cu) ∧ tm.get 9 = some (.int .i64 (g.outs.length : Nat)) ∧ tm.get 10 = some (.int .i64 (k : Nat))) (d + 1 - row.length) ?_ ?_
      · refine ⟨_, H3, F3, v, b, row.length, rfl, rfl, ho3, Nat.le_refl _, hS03, hm3, hw3, hb0, ?_, ?_, ?_, ?_, ?_⟩
        all_goals simp only [start, KC_normal, go_sem, Nat.reduceEqDiff, Nat.reduceAdd, reduceIte, reduceCtorEq, Nat.reduceLeDiff, Nat.reduceShiftRight, Nat.reduceAnd, Nat.reduceOr, Nat.reducePow, Nat.reduceBNe, Nat.reduceBEq, t0, t8, t9, t10]
      · clear hS03 hm3 hw3 hb0 t0 t8 t9 t10
        rintro j2 s - ⟨tm, H4, F4, v, b, q, rfl, hj2, hq, hrq, hS, hm, hw, hb, t0, t6, t8, t9, t10⟩
        obtain ⟨a6, rfl⟩ := hw.len
        obtain ⟨mo, mu, hg⟩ := hm.get
        have hLq : ((List.range q).map fun (e : Nat) => inn + (opsK.length : Int) + (e : Int)).length = q := by simp
        have hlo : (opsK ++ (outOps d row).take q).length = opsK.length + q := by rw [List.length_append, List.length_take, outOps_len]; omega
        have hx2 : inn + ((opsK ++ (outOps d row).take q).length : Int) = inn + opsK.length + (q : Int) := by rw [hlo]; omega
        simp only [start, KC_normal, go_sem, Nat.reduceEqDiff, Nat.reduceAdd, reduceIte, reduceCtorEq, Nat.reduceLeDiff, Nat.reduceShiftRight, Nat.reduceAnd, Nat.reduceOr, Nat.reducePow, Nat.reduceBNe, Nat.reduceBEq, t0, t6, hg]
        refine CN_split (fun hlq => ?_) (fun hgq => ?_)
        · have hqd : q < d + 1 := by rw [hLq] at hlq; omega
          have hget := outOps_get (row := row) hqd
          rw [if_neg (by omega)] at hget
          simp only [start, KC_normal, go_sem, Nat.reduceEqDiff, Nat.reduceAdd, reduceIte, reduceCtorEq, Nat.reduceLeDiff, Nat.reduceShiftRight, Nat.reduceAnd, Nat.reduceOr, Nat.reducePow, Nat.reduceBNe, Nat.reduceBEq, t0, t6]
          refine f66_c (k := 7) (n := 0) (tk := []) hm (by rw [hlo]; omega) hi (by simp) ⟨none, 0, rfl, Nat.le_refl _, rfl, .nil rfl rfl rfl⟩ fun H5 F5 hm5 hS5 => ?_
          have ha : addM 7 0 [] = ⟨7, 0, 0, 0⟩ := rfl
          rw [ha, List.append_assoc, ← take_next hget] at hm5
          simp only [start, KC_normal, go_sem, Nat.reduceEqDiff, Nat.reduceAdd, reduceIte, reduceCtorEq, Nat.reduceLeDiff, Nat.reduceShiftRight, Nat.reduceAnd, Nat.reduceOr, Nat.reducePow, Nat.reduceBNe, Nat.reduceBEq]
          rw [hx2]
          have hw5 := hw.step hS5 fun j hj => (hb j hj).2
          have hb5 := hw.out hS5 fun j hj => (hb j hj).2
          obtain ⟨v7, H7, b7, he, hw7, hS7, hb7⟩ := app1_int hw5 (by rw [hLq]; omega) (inn + opsK.length + (q : Int))
          have hle := hS.le
          have hle5 := hS5.le
          simp only [he, start, KC_normal, go_sem, Nat.reduceEqDiff, Nat.reduceAdd, reduceIte, reduceCtorEq, Nat.reduceLeDiff, Nat.reduceShiftRight, Nat.reduceAnd, Nat.reduceOr, Nat.reducePow, Nat.reduceBNe, Nat.reduceBEq]
          have hLn : ((List.range (q + 1)).map fun (e : Nat) => inn + (opsK.length : Int) + (e : Int)) = ((List.range q).map fun (e : Nat) => inn + (opsK.length : Int) + (e : Int)) ++ [inn + opsK.length + (q : Int)] := by rw [List.range_succ, List.map_append]; rfl
          refine ⟨d + 1 - (q + 1), by omega, _, H7, F5, v7, b7, q + 1, rfl, rfl, by omega, by omega, ?_, hm5.app hS7 hb5, ?_, fun j hj => ⟨by have := hb7 j hj; omega, fun hf => by have := hm5.bd.lt j hf; have := hb7 j hj; omega⟩, ?_, ?_, ?_, ?_, ?_⟩
          · exact (hS.trans hS5).app hS7 fun j hj => (hb j hj).1
          · rw [hLn]; exact hw7
          all_goals simp only [start, KC_normal, go_sem, Nat.reduceEqDiff, Nat.reduceAdd, reduceIte, reduceCtorEq, Nat.reduceLeDiff, Nat.reduceShiftRight, Nat.reduceAnd, Nat.reduceOr, Nat.reducePow, Nat.reduceBNe, Nat.reduceBEq, t0, t8, t9, t10]
        · have hqd : q = d + 1 := by rw [hLq] at hgq; omega
          subst hqd
          rw [List.take_of_length_le (by rw [outOps_len]; omega)] at hm
          generalize hL : ((List.range (d + 1)).map fun (e : Nat) => inn + (opsK.length : Int) + (e : Int)) = L at *
          obtain ⟨ao, au', a8, H8, hg8, he8, hg8', F8, hm8, hS8⟩ := hm.appOuts hw (by omega)
          simp only [start, KC_normal, go_sem, Nat.reduceEqDiff, Nat.reduceAdd, reduceIte, reduceCtorEq, Nat.reduceLeDiff, Nat.reduceShiftRight, Nat.reduceAnd, Nat.reduceOr, Nat.reducePow, Nat.reduceBNe, Nat.reduceBEq, t0, t6, hg8, he8, hg8', t10]
          refine ⟨g.outs.length - (k + 1), by omega, _, _, F8, k + 1, rfl, rfl, by omega, hS.trans hS8, ?_, ?_, ?_, ?_, ?_, ?_, ?_⟩
          · rw [hn]; exact hm8
          · rw [hn, List.length_append, outOps_len, hol]; rw [Nat.succ_mul]; omega
          · rw [hn, List.length_append, hul, hLq]; rw [Nat.succ_mul]
          all_goals simp only [start, KC_normal, go_sem, Nat.reduceEqDiff, Nat.reduceAdd, reduceIte, reduceCtorEq, Nat.reduceLeDiff, Nat.reduceShiftRight, Nat.reduceAnd, Nat.reduceOr, Nat.reducePow, Nat.reduceBNe, Nat.reduceBEq, t0, t8, t9]
          rw [wrap_i64 _ (by omega) (by omega)]; simp
    · have hi'' : k = g.outs.length := by omega
      subst hi''
      rw [List.take_length] at hm'
      simp only [start, KC_normal, go_sem, Nat.reduceEqDiff, Nat.reduceAdd, reduceIte, reduceCtorEq, Nat.reduceLeDiff, Nat.reduceShiftRight, Nat.reduceAnd, Nat.reduceOr, Nat.reducePow, Nat.reduceBNe, Nat.reduceBEq]
      exact hQ H' F' hm' hS
end
end Go.Ab.Ex
end
section
namespace Go.Ab.Ex
open Go.Proofs
set_option maxRecDepth 10000
set_option maxHeartbeats 1000000

theorem app1_row0 {H : Heap} {k : Nat} {u : Value} (hlt : k < H.next) (hk : H.get k = .cells true 1 [.slice none 0 0]) (hu : oneCell u = true) :
    appendC TT (H.push (.cells true 1 [u])) #[64, 64] (.slice (some ⟨k, 0, none⟩) 0 1) (.slice (some ⟨H.next, 0, none⟩) 1 1) = some (.val (.slice (some ⟨k, 0, none⟩) 1 1) ((H.push (.cells true 1 [u])).put k (.cells true 1 [u]))) := by
  have hnews : newsOf TT (H.push (.cells true 1 [u])) ⟨.slice 3, 1, 24, some (.slice none 0 0), false, []⟩ (.slice (some ⟨H.next, 0, none⟩) 1 1) (.slice 29) = some (1, [u]) := by
    have hb : Nat.beq 1 0 = false := rfl
    simp [newsOf, appendNews, headCells, H_get_new, seg, hb]
  have hk1 : (H.push (.cells true 1 [u])).get k = .cells true 1 [.slice none 0 0] := by rw [H_get_old _ _ _ hlt]; exact hk
  have hz : (Value.slice none 0 0).cells.toList.length = 1 := rfl
  have hs : setSeg [Value.slice none 0 0] 0 [u] = [u] := rfl
  simp [appendC, ty64, ty29, hnews, hu, hk1, hz, hs]

section
variable {F : Fr} {H : Heap} {bm : Nat} {inn : Int} {ops : List OpM} {outs : List Int} {d i : Nat} {g : CircM} {rows : List (List Int)} {vg vn va1 va2 vf1 vf2 : Value} {first nx : Int} {x : GateM} {vs : List Value} {bl : Option Nat} {Q : Ret → Heap → Prop}

theorem f47_m (h : PGate F H bm inn ops outs d g rows vg vn va1 va2 vf1 vf2 first nx) (hx : GateK g i x) (hB0 : x.K = 12 ∨ (5 ≤ x.K ∧ x.K ≤ 8) → x.B = 0) (hR : RowsOk g d inn i ops rows) (hrg : rows.length ≤ g.gates.length) (hrl : rows.length < 1000000)
    (hvl : Own1 H 1 (vs.flatMap cellC) vn vs.length bl) (hvs : vs.length = rows.length) (hbl : ∀ j, bl = some j → ¬ F j) (hv0 : rows.length = 0 → vn = .slice none 0 0 ∧ bl = none)
    (hQ : ∀ H' F' v b nx' vn' v7 H7 b7, PmR F' H' bm inn (ops ++ (gateM g d rows (inn + ops.length) x).1) outs (rest d vn' va1 va2 vf1 vf2 first nx') → PmR F' H7 bm inn (ops ++ (gateM g d rows (inn + ops.length) x).1) outs (rest d vn' va1 va2 vf1 vf2 first nx') →
      appendC TT (H'.push (.cells true 1 [v])) #[64, 64] vn' (.slice (some ⟨H'.next, 0, none⟩) 1 1) = some (.val v7 H7) → Own1 H7 1 ((vs ++ [v]).flatMap cellC) v7 (vs ++ [v]).length b7 → Step (F.un bl) H (F'.un b7) H7 →
      Own1 H7 1 ((gateM g d rows (inn + ops.length) x).2.flatMap intC) v (gateM g d rows (inn + ops.length) x).2.length b → (∀ j, b = some j → H.next ≤ j ∧ ¬ F' j ∧ b7 ≠ some j) → (∀ j, b7 = some j → ¬ F' j ∧ H.next ≤ j) → Step F H F' H' → Q (.ret v) H') :
    C 47 #[.pointer (some ⟨bm, 0, none⟩), vg, x.v] H Q := by
  by_cases hpos : 0 < rows.length
  · refine f47_c h hx hB0 hR hrg hpos fun H5 F5 v5 b5 nx' hm5 hS5 ho5 hb5 => ?_
    have hvl5 := hvl.step hS5 hbl
    have hbl5 := hvl.out hS5 hbl
    obtain ⟨a5, e5⟩ := ho5.len
    obtain ⟨v7, H7, b7, he, hw7, hS7, hb7⟩ := app1_row hvl5 (by omega) (u := v5) (by rw [e5]; rfl)
    have hle5 := hS5.le
    refine hQ H5 F5 v5 b5 nx' vn v7 H7 b7 hm5 (hm5.app hS7 hbl5) he hw7 (hS5.un.trans (hS7 F5)) (ho5.step (hS7 Go.Ab.noF) fun j hj hf => ?_) (fun j hj => ⟨(hb5 j hj).1, (hb5 j hj).2, fun e => ?_⟩) (fun j hj => ⟨fun hf => ?_, ?_⟩) hS5
    · rcases hf with h | h
      · exact h
      · have := hvl.lt h; have := (hb5 j hj).1; omega
    · have := hb7 j e; have := ho5.lt hj; omega
    · have := hm5.bd.lt j hf; have := hb7 j hj; omega
    · have := hb7 j hj; omega
  · have hr0 : rows = [] := List.length_eq_zero_iff.1 (by omega)
    obtain ⟨rfl, rfl⟩ := hv0 (by omega)
    subst hr0
    have hv0 : vs = [] := List.length_eq_zero_iff.1 (by simpa using hvs)
    subst hv0
    have hi0 : i = 0 := by have := hR.len; simpa using this.symm
    subst hi0
    have hK : x.K = 0 ∨ x.K = 1 ∨ x.K = 2 := by
      cases hx with
      | const h0 hS => omega
      | sec h0 hN hS => omega
      | pub h0 hN hS => omega
      | ref h0 hA hs hS => omega
      | two h0 hA hB hS => omega
      | not h0 hA hN hS => omega
      | sh h0 hA hN hS => omega
    refine f47_c0 h hK fun H5 F5 v5 b5 nx' k hm5 hS5 ho5 hb5 hk hkp hbk => ?_
    obtain ⟨a5, e5⟩ := ho5.len
    have hu : oneCell v5 = true := by rw [e5]; rfl
    have he := app1_row0 hkp.lt hkp.get hu
    have hle5 := hS5.le
    generalize hX : (H5.push (.cells true 1 [v5])).put k (.cells true 1 [v5]) = H7 at he
    have hn7 : H7.next = H5.next + 1 := by subst hX; rfl
    have h7k : H7.get k = .cells true 1 [v5] := by subst hX; exact H_put_same _ _ _
    have h7 : ∀ j, j ≠ k → j < H5.next → H7.get j = H5.get j := fun j hj hlt => by subst hX; rw [H_put_other _ _ _ _ hj, H_get_old _ _ _ hlt]
    clear hX
    refine hQ H5 F5 v5 b5 nx' _ _ H7 (some k) hm5 (hm5.keep (by omega) fun j hj => h7 j (fun e => hkp.out (e ▸ hj)) (hm5.bd.lt j hj)) he (.blk k 1 (by have := hkp.lt; omega) h7k rfl) ⟨by omega, fun j hj hf => ?_, fun j hf => ?_⟩ ?_ (fun j hj => ⟨(hb5 j hj).1, (hb5 j hj).2, fun e => by cases e; exact hbk hj⟩) (fun j hj => by cases hj; exact ⟨hkp.out, hk⟩) hS5
    · rw [h7 j (by omega) (by omega)]; exact hS5.get j hj fun h => hf (.inl h)
    · rcases hf with hf | hf
      · rcases hS5.new j hf with h | h
        · exact .inl (.inl h)
        · exact .inr h
      · cases hf; exact .inr hk
    · exact ho5.keep (by omega) fun j hj => h7 j (fun e => hbk (by rw [hj, e])) (ho5.lt hj)
end
end Go.Ab.Ex
end
section
namespace Go.Ab.Ex
open Go.Proofs
set_option maxRecDepth 10000
set_option maxHeartbeats 1000000

end Go.Ab.Ex
end
