/- Wire: a gadget's steps over wires, by the document. -/
import Derived.Test.YtmodeilippcbnaaM06
import Derived.Test.YtmodeilippcbnaaM12
set_option linter.all false
namespace Go.Ab.Ex
open Go.Proofs
set_option maxRecDepth 10000

theorem six {d : Nat} (h : 1 ≤ d ∧ d ≤ 6) : d = 1 ∨ d = 2 ∨ d = 3 ∨ d = 4 ∨ d = 5 ∨ d = 6 := by omega

section
variable {H : Heap} {d : Nat} {Q : Ret → Heap → Prop}
theorem f68_c {and : Bool} (hd : 1 ≤ d ∧ d ≤ 6) (hQ : ∀ H' v, Ext H H' → (∀ F, Bd F H → CodeR F H' v (gIn and d) (gadOps and d) (gad and d).outs) → Q (.ret (.tuple #[v, .int .i64 0])) H') : C 68 #[.int .i64 (d : Nat), .bool and] H Q := by
  have hn := (gadOk and hd.1 hd.2).num
  cases and
  · rcases six hd with rfl | rfl | rfl | rfl | rfl | rfl
    · exact ground_code g68f_1 rfl hn hQ
    · exact ground_code g68f_2 rfl hn hQ
    · exact ground_code g68f_3 rfl hn hQ
    · exact ground_code g68f_4 rfl hn hQ
    · exact ground_code g68f_5 rfl hn hQ
    · exact ground_code g68f_6 rfl hn hQ
  · rcases six hd with rfl | rfl | rfl | rfl | rfl | rfl
    · exact ground_code g68t_1 rfl hn hQ
    · exact ground_code g68t_2 rfl hn hQ
    · exact ground_code g68t_3 rfl hn hQ
    · exact ground_code g68t_4 rfl hn hQ
    · exact ground_code g68t_5 rfl hn hQ
    · exact ground_code g68t_6 rfl hn hQ
theorem f45_c (hd : 1 ≤ d ∧ d ≤ 6) (hQ : ∀ H' v, Ext H H' → (∀ F, Bd F H → CodeR F H' v (gIn true d) (gadOps true d) (gad true d).outs) → Q (.ret (.tuple #[v, .int .i64 0])) H') : C 45 #[.int .i64 (d : Nat)] H Q := by
  have hn := (gadOk true hd.1 hd.2).num
  rcases six hd with rfl | rfl | rfl | rfl | rfl | rfl
  · exact ground_code g45_1 rfl hn hQ
  · exact ground_code g45_2 rfl hn hQ
  · exact ground_code g45_3 rfl hn hQ
  · exact ground_code g45_4 rfl hn hQ
  · exact ground_code g45_5 rfl hn hQ
  · exact ground_code g45_6 rfl hn hQ
theorem f46_c (hd : 1 ≤ d ∧ d ≤ 6) (hQ : ∀ H' v, Ext H H' → (∀ F, Bd F H → CodeR F H' v (gIn false d) (gadOps false d) (gad false d).outs) → Q (.ret (.tuple #[v, .int .i64 0])) H') : C 46 #[.int .i64 (d : Nat)] H Q := by
  have hn := (gadOk false hd.1 hd.2).num
  rcases six hd with rfl | rfl | rfl | rfl | rfl | rfl
  · exact ground_code g46_1 rfl hn hQ
  · exact ground_code g46_2 rfl hn hQ
  · exact ground_code g46_3 rfl hn hQ
  · exact ground_code g46_4 rfl hn hQ
  · exact ground_code g46_5 rfl hn hQ
  · exact ground_code g46_6 rfl hn hQ
end

/-- the wires of a gadget, so far -/
def gwires (inp : List Int) (n : Int) (t : Nat) : List Int := inp ++ (List.range t).map fun (i : Nat) => n + (i : Int)
theorem gwires_len (inp : List Int) (n : Int) (t : Nat) : (gwires inp n t).length = inp.length + t := by simp [gwires]
theorem gwires_get (inp : List Int) (n x : Int) (t : Nat) (h0 : 0 ≤ x) (h1 : x < inp.length + t) : (gwires inp n t)[x.toNat]? = some (atM inp n x) := by
  unfold gwires atM
  by_cases h : x < inp.length
  · rw [if_pos h, List.getElem?_append_left (by omega), List.getD_eq_getElem?_getD]
    have : x.toNat < inp.length := by omega
    simp [this]
  · rw [if_neg h, List.getElem?_append_right (by omega), List.getElem?_map, List.getElem?_range (by omega)]
    simp only [Option.map_some, Option.some.injEq]
    omega
theorem gwires_succ (inp : List Int) (n : Int) (t : Nat) : gwires inp n (t + 1) = gwires inp n t ++ [n + (t : Int)] := by
  simp [gwires, List.range_succ]

theorem MkR.app {F : Fr} {H H' : Heap} {bm : Nat} {inn : Int} {ops : List OpM} {outs : List Int} {b b' : Option Nat} (hm : MkR F H bm inn ops outs) (hS : ∀ G : Fr, Step (G.un b) H (G.un b') H') (hb : ∀ j, b = some j → ¬ F j) : MkR F H' bm inn ops outs :=
  hm.keep (hS noF).le fun j hj => (hS noF).get j (hm.bd.lt j hj) fun hf => by
    rcases hf with h | h
    · exact h
    · exact hb j h hj

theorem map_take_next {α β : Type} (f : α → β) {l : List α} {i : Nat} {x : α} (h : l[i]? = some x) : (l.take (i + 1)).map f = (l.take i).map f ++ [f x] := by
  rw [take_next h, List.map_append]; rfl

theorem f50_c {F : Fr} {H : Heap} {bm : Nat} {inn : Int} {ops : List OpM} {outs : List Int} (hm : MkR F H bm inn ops outs) (hl : ops.length < 100000) (hi : 0 ≤ inn ∧ inn < 1000000) {and : Bool} {d : Nat} (hd : 1 ≤ d ∧ d ≤ 6) {inp : List Int} (hlen : (inp.length : Int) = gIn and d) {vin : Value} (hin : Sl F H 1 vin inp.length (inp.flatMap intC)) {Q : Ret → Heap → Prop}
    (hQ : ∀ H' F' v b, MkR F' H' bm inn (ops ++ (gadgetM and d inp (inn + ops.length)).1) outs → Step F H F' H' → Own1 H' 1 ((gadgetM and d inp (inn + ops.length)).2.flatMap intC) v (gadgetM and d inp (inn + ops.length)).2.length b → (∀ j, b = some j → H.next ≤ j ∧ ¬ F' j) → Q (.ret v) H') :
    C 50 #[.pointer (some ⟨bm, 0, none⟩), .int .i64 (d : Nat), .bool and, vin] H Q := by
  have hG := gadOk and hd.1 hd.2
  have hgl := hG.len
  have hinl : inp.length < 20 := by
    have : gIn and d ≤ 14 := by unfold gIn; split <;> omega
    omega
  refine SemC_fn TT.ok fn50 rfl rfl ?_
  simp only [Try.f50, start, KC_normal, go_sem, Nat.reduceEqDiff, Nat.reduceAdd, reduceIte, reduceCtorEq, Nat.reduceLeDiff, Nat.reduceShiftRight, Nat.reduceAnd, Nat.reduceOr, Nat.reducePow, Nat.reduceBNe, Nat.reduceBEq]
  refine f68_c hd fun H1 v hE1 hcode => ?_
  obtain ⟨vo, vu, rfl, ho, hu⟩ := (hcode F hm.bd).ex
  obtain ⟨ao, capo, rfl, -, -, ho⟩ := ho.ex
  obtain ⟨au, capu, rfl, -, -, hu⟩ := hu.ex
  simp only [start, KC_normal, go_sem, Nat.reduceEqDiff, Nat.reduceAdd, reduceIte, reduceCtorEq, Nat.reduceLeDiff, Nat.reduceShiftRight, Nat.reduceAnd, Nat.reduceOr, Nat.reducePow, Nat.reduceBNe, Nat.reduceBEq]
  generalize hX : (H1.push _).put _ _ = H2
  obtain ⟨hE2, hb9, hn2⟩ := new_put hX
  rw [← hn2]
  clear hX
  have hB1 : Bd F H1 := hm.bd.le hE1.le
  have hk9 := Kp.mk' hB1 hE2 (Nat.le_refl _) (by omega) hb9
  generalize hY : H2.push _ = H3
  obtain ⟨hE3, -, hn3⟩ := new_push hY
  have hw3 := Own1.new (n := 0) (sz := 1) (l := []) hY rfl
  have hE13 := hE1.trans (hE2.trans hE3)
  obtain ⟨vw, H4, bw, he, hw4, hSw, hbw⟩ := appN_int (l := []) hw3 (hin.step hE13.step) (by simp only [List.length_nil]; omega)
  simp only [he, start, KC_normal, go_sem, Nat.reduceEqDiff, Nat.reduceAdd, reduceIte, reduceCtorEq, Nat.reduceLeDiff, Nat.reduceShiftRight, Nat.reduceAnd, Nat.reduceOr, Nat.reducePow, Nat.reduceBNe, Nat.reduceBEq]
  clear he hY
  have hEw : Ext H2 H4 := hE3.app hSw (fun j hj => by cases hj; omega)
  have hbw2 : ∀ j, bw = some j → H2.next ≤ j := fun j hj => by
    rcases hbw j hj with h | h
    · cases h; omega
    · omega
  have hE4 : Ext H H4 := hE1.trans (hE2.trans hEw)
  generalize hn : inn + (ops.length : Int) = n at *
  have hle1 := hE1.le
  refine wp_loop TT.ok rfl rfl (fun j s => ∃ tm H' F' bw vw i, s = ⟨tm, 84, [], false, H'⟩ ∧ j = (gadOps and d).length - i ∧ i ≤ (gadOps and d).length ∧ Step F H F' H' ∧ MkR F' H' bm inn (ops ++ ((gadOps and d).take i).map (gopM inp n)) outs ∧
    Kp (F'.un bw) H' H1.next (.cells true 3 [.int .i64 (gIn and d), .slice ao (gadOps and d).length capo, .slice au (gad and d).outs.length capu]) ∧
    SlA (F'.un bw) H' 4 (gadOps and d).length capo ((gadOps and d).flatMap OpM.c) ao ∧ SlA (F'.un bw) H' 1 (gad and d).outs.length capu ((gad and d).outs.flatMap intC) au ∧
    Own1 H' 1 ((gwires inp n i).flatMap intC) vw (gwires inp n i).length bw ∧ (∀ j, bw = some j → H2.next ≤ j ∧ ¬ F' j) ∧
    tm.get 0 = some (.pointer (some ⟨bm, 0, none⟩)) ∧ tm.get 9 = some (.pointer (some ⟨H1.next, 0, none⟩)) ∧ tm.get 11 = some vw ∧ tm.get 12 = some (.int .i64 (i : Nat))) (gadOps and d).length ?_ ?_
  · have hEk : Step F H1 F H4 := (hE2.trans hEw).step
    have hbk : ∀ j, bw = some j → H1.next ≤ j := fun j hj => by have := hbw2 j hj; omega
    refine ⟨_, H4, F, bw, vw, 0, rfl, rfl, Nat.zero_le _, hE4.step, ?_, ?_, ?_, ?_, ?_, fun j hj => ⟨hbw2 j hj, out_new hm.bd (fun j hj => by have := hbw2 j hj; omega) j hj⟩, ?_, ?_, ?_, ?_⟩
    · simpa using hm.ext hE4
    · exact (hk9.step hEw.step).un (fun k hk e => by have := hbw2 k hk; omega)
    · exact (ho.un hbk).step (hE2.trans hEw).step
    · exact (hu.un hbk).step (hE2.trans hEw).step
    · simpa [gwires] using hw4
    all_goals simp only [start, KC_normal, go_sem, Nat.reduceEqDiff, Nat.reduceAdd, reduceIte, reduceCtorEq, Nat.reduceLeDiff, Nat.reduceShiftRight, Nat.reduceAnd, Nat.reduceOr, Nat.reducePow, Nat.reduceBNe, Nat.reduceBEq]
    rfl
  · clear ho hu hk9 hw4 hSw hbw2 hbw hEw
    rintro j s - ⟨tm, H', F', bw, vw, i, rfl, hj, hi', hS, hm', hk, hao, hau, hw, hb, t0, t9, t11, t12⟩
    obtain ⟨aw, capw, rfl, -, -, hwA⟩ := (hw.sl (F := noF) fun _ _ h => h).ex
    simp only [start, KC_normal, go_sem, Nat.reduceEqDiff, Nat.reduceAdd, reduceIte, reduceCtorEq, Nat.reduceLeDiff, Nat.reduceShiftRight, Nat.reduceAnd, Nat.reduceOr, Nat.reducePow, Nat.reduceBNe, Nat.reduceBEq, t0, t9, t11, t12, hk.get]
    refine CN_split (fun hlt => ?_) (fun hge => ?_)
    · have hlt' : i < (gadOps and d).length := by omega
      obtain ⟨x, hel⟩ : ∃ x, (gadOps and d)[i]? = some x := ⟨_, List.getElem?_eq_getElem hlt'⟩
      obtain ⟨hop, hN⟩ := hG.op i x hel
      obtain ⟨bk, o, own, C, rfl, hkb, -, hseg⟩ := hao.at OpM.len hel
      simp only [OpM.c] at hseg
      simp only [start, KC_normal, go_sem, Nat.reduceEqDiff, Nat.reduceAdd, reduceIte, reduceCtorEq, Nat.reduceLeDiff, Nat.reduceShiftRight, Nat.reduceAnd, Nat.reduceOr, Nat.reducePow, Nat.reduceBNe, Nat.reduceBEq, t0, t9, t11, t12, hk.get, ia_in _ _ _ _ _ hlt', hkb.get, hseg]
      generalize hX : (H'.push _).put _ _ = H5
      obtain ⟨hE5, hbx, hn5⟩ := new_put hX
      clear hX
      refine f32_c fun r hr => ?_
      simp only [start, KC_normal, go_sem, Nat.reduceEqDiff, Nat.reduceAdd, reduceIte, reduceCtorEq, Nat.reduceLeDiff, Nat.reduceShiftRight, Nat.reduceAnd, Nat.reduceOr, Nat.reducePow, Nat.reduceBNe, Nat.reduceBEq]
      have hm5 := hm'.ext hE5
      have hw5 := hw.ext hE5
      have hk5 := hk.step hE5.step
      have hao5 := hao.step hE5.step
      have hau5 := hau.step hE5.step
      have hwl : 0 < (gwires inp n i).length := by
        have : gIn and d ≥ 1 := by unfold gIn; split <;> omega
        rw [gwires_len]; omega
      have hlen1 : (ops ++ List.map (gopM inp n) (List.take i (gadOps and d))).length = ops.length + i := by simp only [List.length_append, List.length_map, List.length_take]; omega
      have hH : gopM inp n x = if takesO x.K = 2 then ⟨x.K, atM inp n x.A, atM inp n x.B, 0⟩ else ⟨x.K, 0, 0, 0⟩ := rfl
      have hx : inn + ((ops ++ List.map (gopM inp n) (List.take i (gadOps and d))).length : Int) = n + i := by rw [hlen1]; omega
      refine CN_split (fun h2 => ?_) (fun h2 => ?_)
      have hK : (x.K = 1 ∨ x.K = 2) ∧ 0 ≤ x.A ∧ x.A < gIn and d + i ∧ 0 ≤ x.B ∧ x.B < gIn and d + i := by
        rcases hop with h | h
        · rw [hr, h.1] at h2; simp [takesO] at h2
        · exact h
      obtain ⟨-, hA0, hA1, hB0, hB2⟩ := hK
      have hA3 : x.A < ((gwires inp n i).length : Nat) := by rw [gwires_len]; omega
      have hB3 : x.B < ((gwires inp n i).length : Nat) := by rw [gwires_len]; omega
      obtain ⟨bA, oA, owA, CA, rfl, hkA, hCA⟩ := hwA.all intC_len hwl
      have hA4 := (hCA _ _ (gwires_get inp n x.A i hA0 (by omega))).1 0 (by omega)
      have hB4 := (hCA _ _ (gwires_get inp n x.B i hB0 (by omega))).1 0 (by omega)
      simp only [intC, Nat.add_zero, List.getElem?_cons_zero] at hA4 hB4
      simp only [start, KC_normal, go_sem, Nat.reduceEqDiff, Nat.reduceAdd, reduceIte, reduceCtorEq, Nat.reduceLeDiff, Nat.reduceShiftRight, Nat.reduceAnd, Nat.reduceOr, Nat.reducePow, Nat.reduceBNe, Nat.reduceBEq]
      refine DRg_x TT.ok [0, 0, 2, 0, 0, 16, 56, 120, 0, 0, 512, 1792, 3840, 8191, 16383] 15 32767 84 rfl (by decide +kernel) ?_
      simp only [start, KC_normal, go_sem, Nat.reduceEqDiff, Nat.reduceAdd, reduceIte, reduceCtorEq, Nat.reduceLeDiff, Nat.reduceShiftRight, Nat.reduceAnd, Nat.reduceOr, Nat.reducePow, Nat.reduceBNe, Nat.reduceBEq, t0, t11, hbx, ia_int _ _ _ _ _ hA0 hA3, ia_int _ _ _ _ _ hB0 hB3, (hkA.step hE5.step).get, hA4, hB4]
      refine f30_c (n := 0) (hm5.ext ((Ext.refl _).skip 15)) (by omega) hi fun H6 F6 hm6 hS6 => ?_
      have hS6 := (((Ext.refl H5).skip 15).step (F := F')).trans hS6
      rw [← hr, if_pos h2] at hH
      rotate_left
      simp only [start, KC_normal, go_sem, Nat.reduceEqDiff, Nat.reduceAdd, reduceIte, reduceCtorEq, Nat.reduceLeDiff, Nat.reduceShiftRight, Nat.reduceAnd, Nat.reduceOr, Nat.reducePow, Nat.reduceBNe, Nat.reduceBEq, t0, t11, hbx]
      refine f30_c (n := 0) hm5 (by omega) hi fun H6 F6 hm6 hS6 => ?_
      rw [← hr, if_neg h2] at hH
      all_goals
        rw [List.append_assoc, ← hH, ← map_take_next _ hel] at hm6
        simp only [start, KC_normal, go_sem, Nat.reduceEqDiff, Nat.reduceAdd, reduceIte, reduceCtorEq, Nat.reduceLeDiff, Nat.reduceShiftRight, Nat.reduceAnd, Nat.reduceOr, Nat.reducePow, Nat.reduceBNe, Nat.reduceBEq, t11]
        rw [hx]
        have hw6 := hw5.step hS6 fun j hj => (hb j hj).2
        obtain ⟨v7, H7, b7, he, hw7, hS7, hb7⟩ := app1_int hw6 (by rw [gwires_len]; omega) (n + i)
        have hle5 := hE5.le
        have hle6 := hS6.le
        have hleS := hS.le
        have hb6 := hw5.out hS6 fun j hj => (hb j hj).2
        simp only [he, start, KC_normal, go_sem, Nat.reduceEqDiff, Nat.reduceAdd, reduceIte, reduceCtorEq, Nat.reduceLeDiff, Nat.reduceShiftRight, Nat.reduceAnd, Nat.reduceOr, Nat.reducePow, Nat.reduceBNe, Nat.reduceBEq, t0, t9, t12]
        refine ⟨(gadOps and d).length - (i + 1), by omega, _, H7, F6, b7, v7, i + 1, rfl, rfl, by omega, ?_, ?_, ?_, ?_, ?_, ?_, ?_, ?_, ?_, ?_, ?_⟩
        · exact (hS.trans (hE5.step.trans hS6)).app hS7 fun j hj => by have := (hb j hj).1; omega
        · exact hm6.app hS7 hb6
        · exact (hk5.step hS6.un).step (hS7 F6)
        · exact (hao5.step hS6.un).step (hS7 F6)
        · exact (hau5.step hS6.un).step (hS7 F6)
        · rw [gwires_succ]; exact hw7
        · exact fun j hj => ⟨by have := hb7 j hj; have := hk.lt; omega, fun hf => by have := hm6.bd.lt j hf; have := hb7 j hj; omega⟩
        all_goals simp only [start, KC_normal, go_sem, Nat.reduceEqDiff, Nat.reduceAdd, reduceIte, reduceCtorEq, Nat.reduceLeDiff, Nat.reduceShiftRight, Nat.reduceAnd, Nat.reduceOr, Nat.reducePow, Nat.reduceBNe, Nat.reduceBEq, t0, t9]
        rw [wrap_i64 _ (by omega) (by omega)]; simp
    · have hi'' : i = (gadOps and d).length := by omega
      subst hi''
      rw [List.take_length] at hm'
      simp only [start, KC_normal, go_sem, Nat.reduceEqDiff, Nat.reduceAdd, reduceIte, reduceCtorEq, Nat.reduceLeDiff, Nat.reduceShiftRight, Nat.reduceAnd, Nat.reduceOr, Nat.reducePow, Nat.reduceBNe, Nat.reduceBEq, t9, t11, hk.get]
      generalize hY : H'.push _ = H5
      obtain ⟨hE5, -, hn5⟩ := new_push hY
      have hx5 := Own1.new (n := 0) (sz := 1) (l := []) hY rfl
      clear hY
      refine wp_loop TT.ok rfl rfl (fun j s => ∃ tm H'' bx vx k, s = ⟨tm, 84, [], false, H''⟩ ∧ j = (gad and d).outs.length - k ∧ k ≤ (gad and d).outs.length ∧ Ext H' H'' ∧ Own1 H'' 1 ((((gad and d).outs.take k).map (atM inp n)).flatMap intC) vx (((gad and d).outs.take k).map (atM inp n)).length bx ∧ (∀ j, bx = some j → H'.next ≤ j) ∧
        tm.get 9 = some (.pointer (some ⟨H1.next, 0, none⟩)) ∧ tm.get 11 = some (.slice aw (gwires inp n (gadOps and d).length).length capw) ∧ tm.get 15 = some vx ∧ tm.get 16 = some (.int .i64 (k : Nat))) (gad and d).outs.length ?_ ?_
      · refine ⟨_, H5, some H'.next, .slice (some ⟨H'.next, 0, none⟩) 0 0, 0, rfl, rfl, Nat.zero_le _, hE5, ?_, ?_, ?_, ?_, ?_, ?_⟩
        · exact hx5
        · intro j hj; cases hj; exact Nat.le_refl _
        all_goals simp only [start, KC_normal, go_sem, Nat.reduceEqDiff, Nat.reduceAdd, reduceIte, reduceCtorEq, Nat.reduceLeDiff, Nat.reduceShiftRight, Nat.reduceAnd, Nat.reduceOr, Nat.reducePow, Nat.reduceBNe, Nat.reduceBEq, t9, t11]
        rfl
      · clear hj j
        rintro j s - ⟨tm', H'', bx, vx, k, rfl, hj, hk', hE'', hxx, hbx, t9, t11, t15, t16⟩
        simp only [start, KC_normal, go_sem, Nat.reduceEqDiff, Nat.reduceAdd, reduceIte, reduceCtorEq, Nat.reduceLeDiff, Nat.reduceShiftRight, Nat.reduceAnd, Nat.reduceOr, Nat.reducePow, Nat.reduceBNe, Nat.reduceBEq, t9, t11, t15, t16, (hk.step hE''.step).get]
        refine CN_split (fun hlt => ?_) (fun hge => ?_)
        · have hlt' : k < (gad and d).outs.length := by omega
          obtain ⟨y, hel⟩ : ∃ y, (gad and d).outs[k]? = some y := ⟨_, List.getElem?_eq_getElem hlt'⟩
          obtain ⟨hy0, hy1⟩ := hG.out y (List.mem_of_getElem? hel)
          obtain ⟨bu, ou, owu, Cu, rfl, hku, hCu⟩ := hau.all intC_len (by omega)
          have hwl : 0 < (gwires inp n (gadOps and d).length).length := by
            have : gIn and d ≥ 1 := by unfold gIn; split <;> omega
            rw [gwires_len]; omega
          obtain ⟨bA, oA, owA, CA, rfl, hkA, hCA⟩ := hwA.all intC_len hwl
          have hu4 := (hCu _ _ hel).1 0 (by omega)
          have hy3 : y < ((gwires inp n (gadOps and d).length).length : Nat) := by rw [gwires_len]; omega
          have hA4 := (hCA _ _ (gwires_get inp n y (gadOps and d).length hy0 (by omega))).1 0 (by omega)
          simp only [intC, Nat.add_zero, List.getElem?_cons_zero] at hA4 hu4
          simp only [start, KC_normal, go_sem, Nat.reduceEqDiff, Nat.reduceAdd, reduceIte, reduceCtorEq, Nat.reduceLeDiff, Nat.reduceShiftRight, Nat.reduceAnd, Nat.reduceOr, Nat.reducePow, Nat.reduceBNe, Nat.reduceBEq, t9, t11, t15, t16, (hk.step hE''.step).get, ia_in _ _ _ _ _ hlt', (hku.step hE''.step).get, hu4, ia_int _ _ _ _ _ hy0 hy3, (hkA.step hE''.step).get, hA4]
          obtain ⟨v7, H7, b7, he, hw7, hS7, hb7⟩ := app1_int hxx (by rw [List.length_map, List.length_take, hG.outs]; omega) (atM inp n y)
          simp only [he, start, KC_normal, go_sem, Nat.reduceEqDiff, Nat.reduceAdd, reduceIte, reduceCtorEq, Nat.reduceLeDiff, Nat.reduceShiftRight, Nat.reduceAnd, Nat.reduceOr, Nat.reducePow, Nat.reduceBNe, Nat.reduceBEq, t16]
          refine ⟨(gad and d).outs.length - (k + 1), by omega, _, H7, b7, v7, k + 1, rfl, rfl, by omega, hE''.app hS7 hbx, ?_, ?_, ?_, ?_, ?_, ?_⟩
          · rw [map_take_next _ hel]; exact hw7
          · exact fun j hj => by have := hb7 j hj; have := hE''.le; omega
          all_goals simp only [start, KC_normal, go_sem, Nat.reduceEqDiff, Nat.reduceAdd, reduceIte, reduceCtorEq, Nat.reduceLeDiff, Nat.reduceShiftRight, Nat.reduceAnd, Nat.reduceOr, Nat.reducePow, Nat.reduceBNe, Nat.reduceBEq, t9, t11]
          have := hG.outs
          rw [wrap_i64 _ (by omega) (by omega)]; simp
        · have hk'' : k = (gad and d).outs.length := by omega
          subst hk''
          rw [List.take_length] at hxx
          simp only [start, KC_normal, go_sem, Nat.reduceEqDiff, Nat.reduceAdd, reduceIte, reduceCtorEq, Nat.reduceLeDiff, Nat.reduceShiftRight, Nat.reduceAnd, Nat.reduceOr, Nat.reducePow, Nat.reduceBNe, Nat.reduceBEq, t15]
          exact hQ H'' F' vx bx (hm'.ext hE'') (hS.trans hE''.step) hxx fun j hj => ⟨by have := hbx j hj; have := hS.le; omega, out_new hm'.bd hbx j hj⟩
end Go.Ab.Ex
