/- Parts of the proof, joined by program: Wire: the first words of a list; Wire: shares of a word, short lists; Wire: a word's bits, bits' word; Wire: a word shifted, turned; Wire: a word turned; Wire: a word at a place, tapes, a code's outputs; Wire: a code executed. -/
import Derived.Test.YtmodeilippcbnaaR06
import Derived.Test.YtmodeilippcbnaaR12
import Derived.Test.YtmodeilippcbnaaR15
set_option linter.all false
section
namespace Go.Ab.Ex
open Go.Proofs
set_option maxRecDepth 10000
set_option maxHeartbeats 1000000

/-- a list of words that can be cut -/
inductive Tk (F : Fr) (H : Heap) : Value → List Wd → Prop
  | nil : Tk F H (.slice none 0 0) []
  | blk (b o cap : Nat) (own : Bool) (C : List Value) (l : List Wd) (hk : Kp F H b (.cells own 1 C)) (hs : seg C o (l.length * 1) = some (l.flatMap wordC)) (hc : l.length ≤ cap) : Tk F H (.slice (some ⟨b, o, none⟩) l.length cap) l
section
variable {F F' : Fr} {H H' : Heap} {v : Value} {l : List Wd}
theorem words_len (l : List Wd) : (l.flatMap wordC).length = l.length * 1 := fm_length wordC_len l
theorem Tk.form (h : Tk F H v l) : ∃ a n c, v = .slice a n c := by
  cases h with
  | nil => exact ⟨_, _, _, rfl⟩
  | blk b o cap own C l hk hs hc => exact ⟨_, _, _, rfl⟩
theorem Tk.step (h : Tk F H v l) (s : Step F H F' H') : Tk F' H' v l := by
  cases h with
  | nil => exact .nil
  | blk b o cap own C l hk hs hc => exact .blk b o cap own C l (hk.step s) hs hc
theorem Tk.more (h : Tk F H v l) (hF : ∀ j, F' j → F j ∨ H.next ≤ j) : Tk F' H v l := by
  cases h with
  | nil => exact .nil
  | blk b o cap own C l hk hs hc => exact .blk b o cap own C l (hk.more hF) hs hc
theorem Own1.tk {b : Option Nat} (h : Own1 H 1 (l.flatMap wordC) v l.length b) (hF : ∀ j, b = some j → ¬ F j) : Tk F H v l := by
  generalize hn : l.length = n at h
  cases h with
  | nil h =>
    obtain rfl : l = [] := List.length_eq_zero_iff.1 hn
    exact .nil
  | blk k n h1 h2 h3 => subst hn; exact .blk k 0 _ true _ l ⟨h1, hF k rfl, h2⟩ (seg_all _ _ h3) (Nat.le_refl _)
end

/-! one block that is written -/
def one (b : Nat) : Fr := fun j => j = b
theorem Step.up {F : Fr} {H H' : Heap} {b : Nat} (h : Step (one b) H (one b) H') (hb : F b) : Step F H F H' :=
  ⟨h.le, fun j hj hf => h.get j hj fun e => hf (by rw [show j = b from e]; exact hb), fun j hj => .inl hj⟩

/-! so many noughts -/
def msO (T : Tab) (i : Option TInfo) (l c : Value) : Option (AObj × (Nat → Value)) := match i, l, c with
    | some ⟨.slice e, _, _, _, _, _⟩, .int _ l, .int _ c => match T.ty e with
      | some i => match i.zero with
        | some z => if 0 ≤ l ∧ l ≤ c ∧ c * i.bytes ≤ 140737488355328 ∧ c < 9223372036854775808 ∧ z.cells.toList.length = i.size ∧ z.cells.toList.all oneCell = true then
            some (.cells true i.size (rep z.cells.toList c.toNat), fun b => .slice (some ⟨b, 0, none⟩) l.toNat c.toNat) else none
        | none => none
      | none => none
    | _, _, _ => none
section
variable (T : Tab) (ρ : Operand → Value) (d : Option Tmp) (ty : TypeId) (ps : String) (af : Array Edge) (gd : Option (Nat × Bool))
theorem a_makeSlice (t : TypeId) (x y : Operand) : aalloc T ρ ⟨d, .makeSlice t x y, ty, ps, af, gd⟩ = msO T (T.ty t) (ρ x) (ρ y) := (rfl)
end
def zeros (n : Nat) : List Wd := List.replicate n 0
theorem rep_words : ∀ n : Nat, rep [Value.int .u32 0] n = (zeros n).flatMap wordC
  | 0 => rfl
  | n + 1 => by
    show [Value.int .u32 0] ++ rep [Value.int .u32 0] n = _
    rw [rep_words n]; rfl
theorem ms_words {n : Nat} (hn : n < 1000000) {s b : Nat} {z : Option Value} {a : Bool} {fl : List (Nat × Nat)} : msO TT (some ⟨.slice 54, s, b, z, a, fl⟩) (.int .i64 (n : Nat)) (.int .i64 (n : Nat)) = some (.cells true 1 ((zeros n).flatMap wordC), fun b => .slice (some ⟨b, 0, none⟩) n n) := by
  simp only [msO, ty54]
  rw [if_pos ⟨by omega, by omega, by omega, by omega, rfl, rfl⟩]
  simp only [Int.toNat_natCast]
  have e : rep (Value.int .u32 0).cells.toList n = (zeros n).flatMap wordC := rep_words n
  rw [e]

def takeW (l : List Wd) (n : Nat) : List Wd := l.take n ++ zeros (n - l.length)
theorem takeW_len (l : List Wd) (n : Nat) : (takeW l n).length = n := by
  simp only [takeW, zeros, List.length_append, List.length_take, List.length_replicate]; omega
theorem takeW_get {l : List Wd} {n i : Nat} (h : i < n) : (takeW l n)[i]? = some (atW l i) := by
  unfold takeW atW
  rw [List.getD_eq_getElem?_getD]
  by_cases hi : i < l.length
  · rw [List.getElem?_append_left (by rw [List.length_take]; omega), List.getElem?_take, if_pos h, List.getElem?_eq_getElem hi]; rfl
  · rw [List.getElem?_append_right (by rw [List.length_take]; omega), List.getElem?_eq_none (l := l) (by omega)]
    simp only [zeros, List.getElem?_replicate, List.length_take]
    rw [if_pos (by omega)]; rfl

theorem setSeg_0 {c vs : List Value} (h : vs.length ≤ c.length) : setSeg c 0 vs = vs ++ c.drop vs.length := by
  apply List.ext_getElem?
  intro i
  rw [get_setSeg vs c 0 i (by omega)]
  by_cases hi : i < vs.length
  · rw [if_pos ⟨Nat.zero_le _, by omega⟩, List.getElem?_append_left hi]; rfl
  · rw [if_neg (by omega), List.getElem?_append_right (by omega), List.getElem?_drop]
    congr 1
    omega
theorem wd_drop : ∀ (l : List Wd) (n : Nat), (l.flatMap wordC).drop n = (l.drop n).flatMap wordC
  | [], n => by simp
  | x :: l, 0 => rfl
  | x :: l, n + 1 => by rw [List.flatMap_cons, List.drop_succ_cons]; exact wd_drop l n
theorem wd_take : ∀ (l : List Wd) (n : Nat), (l.flatMap wordC).take n = (l.take n).flatMap wordC
  | [], n => by simp
  | x :: l, 0 => rfl
  | x :: l, n + 1 => by
    rw [List.flatMap_cons, List.take_succ_cons, List.flatMap_cons]
    show _ :: (l.flatMap wordC).take n = _ :: _
    rw [wd_take l n]
    rfl
theorem wd_append (l m : List Wd) : (l ++ m).flatMap wordC = l.flatMap wordC ++ m.flatMap wordC := by simp
theorem wd_one : ∀ l : List Wd, (l.flatMap wordC).all oneCell = true := one_all wordC_one
theorem seg_take {C c : List Value} {o n m : Nat} (h : seg C o n = some c) (hm : m ≤ n) : seg C o m = some (c.take m) := by
  obtain ⟨h1, rfl⟩ := seg_some h
  unfold seg
  rw [if_pos (by omega), List.take_take, Nat.min_eq_left hm]
theorem seg_drop {C c : List Value} {o n m : Nat} (h : seg C o n = some c) (hm : m ≤ n) : seg C (o + m) (n - m) = some (c.drop m) := by
  obtain ⟨h1, rfl⟩ := seg_some h
  unfold seg
  rw [if_pos (by omega), List.drop_take, List.drop_drop]

theorem copy_w {F : Fr} {H : Heap} {v : Value} {l : List Wd} {n nb : Nat} (ht : Tk F H v l) (hb : H.get nb = .cells true 1 ((zeros n).flatMap wordC)) :
    copyC TT H #[43, 43] (.slice (some ⟨nb, 0, none⟩) n n) v = some (.val (.int .i64 (min l.length n : Nat)) (H.put nb (.cells true 1 ((takeW l n).flatMap wordC)))) := by
  have key : ∀ m : Nat, m = min l.length n → setSeg ((zeros n).flatMap wordC) 0 ((l.take m).flatMap wordC) = (takeW l n).flatMap wordC := by
    rintro m rfl
    have hz : (zeros n).length = n := by simp [zeros]
    rw [setSeg_0 (by rw [words_len, words_len, hz, List.length_take]; omega), words_len, Nat.mul_one, wd_drop, ← wd_append]
    congr 1
    unfold takeW
    congr 1
    · rw [Nat.min_comm, ← List.take_take, List.take_length]
    · simp only [zeros, List.drop_replicate, List.length_take]
      congr 1
      omega
  cases ht with
  | nil =>
    have k := key 0 (by simp)
    simp only [copyC, List.getElem?_toArray, List.getElem?_cons_zero, ty43, ty54, List.length_nil]
    have e : Nat.min 0 n = 0 := Nat.zero_min n
    simp only [e, headCells, Nat.zero_mul]
    simp only [Nat.beq, cond_true, Option.map_some, hb, List.all_nil, List.length_nil, Nat.add_zero, Nat.zero_le, and_self, if_true]
    simp only [List.take_nil, List.flatMap_nil] at k
    rw [k]
  | blk b o cap own C l hk hs hc =>
    have k := key (min l.length n) rfl
    have hm : min l.length n ≤ l.length := Nat.min_le_left _ _
    have hh : headCells H (min l.length n * 1) (.slice (some ⟨b, o, none⟩) l.length cap) = some ((l.take (min l.length n)).flatMap wordC) := by
      have h1 := seg_take hs (m := min l.length n * 1) (by omega)
      rw [Nat.mul_one, wd_take] at h1
      rw [Nat.mul_one]
      simp only [headCells]
      rcases Nat.eq_zero_or_pos (min l.length n) with h0 | h0
      · rw [h0]; rfl
      · have e1 : Nat.beq (min l.length n) 0 = false := by cases hb0 : Nat.beq _ 0 with | false => rfl | true => have := Nat.eq_of_beq_eq_true hb0; omega
        have e2 : Nat.beq cap 0 = false := by cases hb0 : Nat.beq _ 0 with | false => rfl | true => have := Nat.eq_of_beq_eq_true hb0; omega
        rw [e1, e2, hk.get]
        exact h1
    simp only [copyC, List.getElem?_toArray, List.getElem?_cons_zero, ty43, ty54]
    have e : Nat.min l.length n = min l.length n := rfl
    simp only [e, hh, Option.map_some, hb]
    have hle : 0 + ((l.take (min l.length n)).flatMap wordC).length ≤ ((zeros n).flatMap wordC).length := by
      rw [words_len, words_len, List.length_take]
      simp [zeros]
      omega
    rw [if_pos ⟨wd_one _, hle⟩, k]

theorem cut_w {F : Fr} {H : Heap} {v : Value} {l : List Wd} {k : Nat} (ht : Tk F H v l) (hk : k ≤ l.length) : ∃ v', sliceC TT H 43 v (some (.int .i64 (k : Nat))) none none = some v' ∧ Tk F H v' (l.drop k) := by
  cases ht with
  | nil =>
    obtain rfl : k = 0 := by simpa using hk
    refine ⟨.slice none 0 0, ?_, .nil⟩
    simp only [sliceC, ty43, ty54]
    rfl
  | blk b o cap own C l hk' hs hc =>
    have e : bnds l.length cap (some ((k : Nat) : Int)) none none = some (k, l.length, cap) := by
      have h1 : ((k : Int) ≤ (l.length : Int)) := by omega
      have h2 : (0 : Int) ≤ (k : Int) := by omega
      simp [bnds, bMax, bHigh, bLow, h1, h2]
    refine ⟨.slice (some ⟨b, o + k, none⟩) (l.drop k).length (cap - k), ?_, .blk b (o + k) _ own C (l.drop k) hk' ?_ (by rw [List.length_drop]; omega)⟩
    · simp only [sliceC, lit?, ty43, ty54, hk'.get, e]
      simp
    · have := seg_drop hs (m := k) (by omega)
      rw [wd_drop] at this
      rw [List.length_drop, show (l.length - k) * 1 = l.length * 1 - k by omega]
      exact this

theorem f34_c {F : Fr} {H : Heap} {bx n : Nat} {v : Value} {l : List Wd} (hbx : H.get bx = .cells true 1 [v]) (hlt : bx < H.next) (ht : Tk F H v l) (hF : F bx) (hn : n < 1000000) {Q : Ret → Heap → Prop}
    (hQ : ∀ H' u b v', Step (one bx) H (one bx) H' → H'.get bx = .cells true 1 [v'] → Tk F H' v' (l.drop n) → Own1 H' 1 ((takeW l n).flatMap wordC) u (takeW l n).length (some b) → H.next ≤ b → Q (.ret u) H') :
    C 34 #[.pointer (some ⟨bx, 0, none⟩), .int .i64 (n : Nat)] H Q := by
  refine SemC_fn TT.ok fn34 rfl rfl ?_
  simp only [Try.f34, start, KC_normal, go_sem, Nat.reduceEqDiff, Nat.reduceAdd, reduceIte, reduceCtorEq, Nat.reduceLeDiff, Nat.reduceShiftRight, Nat.reduceAnd, Nat.reduceOr, Nat.reducePow, Nat.reduceBNe, Nat.reduceBEq, a_makeSlice, ms_words hn]
  generalize hX : H.push _ = H1
  obtain ⟨hE1, h7, hn1⟩ := new_push hX
  clear hX
  have hb1 := (hE1.get bx hlt).trans hbx
  have ht1 := ht.step hE1.step
  refine DRg_x TT.ok [0, 0, 2, 6, 0, 0, 32, 96, 240, 510, 1023, 2047] 12 4095 20 rfl (by decide +kernel) ?_
  simp only [start, KC_normal, go_sem, Nat.reduceEqDiff, Nat.reduceAdd, reduceIte, reduceCtorEq, Nat.reduceLeDiff, Nat.reduceShiftRight, Nat.reduceAnd, Nat.reduceOr, Nat.reducePow, Nat.reduceBNe, Nat.reduceBEq, hb1]
  have hz : ((zeros n).flatMap wordC).length = ((takeW l n).flatMap wordC).length := by rw [words_len, words_len, takeW_len]; simp [zeros]
  have hco := copy_w (H := H1.skip 12) (n := n) (nb := H.next) (ht1.step ((Ext.refl H1).skip 12).step) h7
  have hEs : Ext H (H1.skip 12) := hE1.skip 12
  generalize hY : (H1.skip 12).put H.next (.cells true 1 ((takeW l n).flatMap wordC)) = H2 at hco
  have hE2 : Ext H H2 := by subst hY; exact hEs.put (Nat.le_refl _) _
  have h72 : H2.get H.next = .cells true 1 ((takeW l n).flatMap wordC) := by subst hY; exact H_put_same _ _ _
  have hn2 : H2.next = H.next + 13 := by subst hY; simp only [Heap.next_put, Heap.next_skip]; omega
  have hb2 := (hE2.get bx hlt).trans hbx
  obtain ⟨v', hcut, ht'⟩ := cut_w (k := min l.length n) (ht.step hE2.step) (Nat.min_le_left _ _)
  obtain ⟨a', n', c', rfl⟩ := ht'.form
  simp only [hco, start, KC_normal, go_sem, Nat.reduceEqDiff, Nat.reduceAdd, reduceIte, reduceCtorEq, Nat.reduceLeDiff, Nat.reduceShiftRight, Nat.reduceAnd, Nat.reduceOr, Nat.reducePow, Nat.reduceBNe, Nat.reduceBEq, hb1, hb2, Option.map_none, hcut]
  have hS2 : Step (one bx) H2 (one bx) (H2.put bx (.cells true 1 [.slice a' n' c'])) := ⟨Nat.le_refl _, fun j hj hf => H_put_other _ _ _ _ hf, fun j hj => .inl hj⟩
  refine hQ _ _ H.next _ ((hE2.step (F := one bx)).trans hS2) (H_put_same _ _ _) ?_ ?_ (Nat.le_refl _)
  · have e : l.drop (min l.length n) = l.drop n := by
      rcases Nat.le_total n l.length with h | h
      · rw [Nat.min_eq_right h]
      · rw [Nat.min_eq_left h, List.drop_of_length_le h, List.drop_of_length_le (Nat.le_refl _)]
    rw [← e]
    exact ht'.step (Ex.Step.up hS2 hF)
  · have e := takeW_len l n
    have h73 : (H2.put bx (.cells true 1 [.slice a' n' c'])).get H.next = .cells true 1 ((takeW l n).flatMap wordC) := by rw [H_put_other _ _ _ _ (by omega)]; exact h72
    have := Own1.blk (H := H2.put bx (.cells true 1 [.slice a' n' c'])) (sz := 1) H.next n (by simp only [Heap.next_put]; omega) h73 (by rw [words_len, takeW_len])
    rw [e]
    exact this
end Go.Ab.Ex
end
section
namespace Go.Ab.Ex
open Go.Proofs
set_option maxRecDepth 10000
set_option maxHeartbeats 1000000

theorem appN_wd {F0 : Fr} {H : Heap} {v x : Value} {l m : List Wd} {b : Option Nat} (ho : Own1 H 1 (l.flatMap wordC) v l.length b) (hx : Sl F0 H 1 x m.length (m.flatMap wordC)) (hl : l.length + m.length < 1000000) :
    ∃ v' H' b', appendC TT H #[43, 43] v x = some (.val v' H') ∧ Own1 H' 1 ((l ++ m).flatMap wordC) v' (l ++ m).length b' ∧ (∀ F : Fr, Step (F.un b) H (F.un b') H') ∧ (∀ j, b' = some j → b = some j ∨ H.next ≤ j) :=
  appN ty43 ty54 rfl (by omega) wordC_one ho hx hl
theorem app1_wd {H : Heap} {v : Value} {l : List Wd} {b : Option Nat} (ho : Own1 H 1 (l.flatMap wordC) v l.length b) (hl : l.length < 1000000) (x : Wd) :
    ∃ v' H' b', appendC TT (H.push (.cells true 1 (wordC x))) #[43, 43] v (.slice (some ⟨H.next, 0, none⟩) 1 1) = some (.val v' H') ∧ Own1 H' 1 ((l ++ [x]).flatMap wordC) v' (l ++ [x]).length b' ∧ (∀ F : Fr, Step (F.un b) H (F.un b') H') ∧ (∀ j, b' = some j → H.next ≤ j) :=
  app1 ty43 ty54 rfl (by omega) wordC_len wordC_one ho hl x

theorem f35_c {F : Fr} {H : Heap} {w : Wd} {v : Value} {l : List Wd} (hs : Sl F H 1 v l.length (l.flatMap wordC)) (hl : l.length < 1000) {Q : Ret → Heap → Prop}
    (hQ : ∀ H' u b, Ext H H' → Own1 H' 1 (((w ^^^ joinW l) :: l).flatMap wordC) u ((w ^^^ joinW l) :: l).length b → (∀ j, b = some j → H.next ≤ j) → Q (.ret u) H') : C 35 #[.int .u32 (w.toNat : Int), v] H Q := by
  refine SemC_fn TT.ok fn35 rfl rfl ?_
  simp only [Try.f35, start, KC_normal, go_sem, Nat.reduceEqDiff, Nat.reduceAdd, reduceIte, reduceCtorEq, Nat.reduceLeDiff, Nat.reduceShiftRight, Nat.reduceAnd, Nat.reduceOr, Nat.reducePow, Nat.reduceBNe, Nat.reduceBEq]
  refine f54_c hs (by omega) ?_
  simp only [start, KC_normal, go_sem, Nat.reduceEqDiff, Nat.reduceAdd, reduceIte, reduceCtorEq, Nat.reduceLeDiff, Nat.reduceShiftRight, Nat.reduceAnd, Nat.reduceOr, Nat.reducePow, Nat.reduceBNe, Nat.reduceBEq, i_xorw]
  generalize hX : H.push _ = H1
  obtain ⟨hE1, -, hn1⟩ := new_push hX
  have hx1 := Own1.new (n := 1) (sz := 1) (l := wordC (w ^^^ joinW l)) hX rfl
  clear hX
  obtain ⟨v7, H7, b7, he, hw7, hS7, hb7⟩ := appN_wd (l := [w ^^^ joinW l]) hx1 (hs.noF.step hE1.step) (by simp only [List.length_cons, List.length_nil]; omega)
  simp only [he, start, KC_normal, go_sem, Nat.reduceEqDiff, Nat.reduceAdd, reduceIte, reduceCtorEq, Nat.reduceLeDiff, Nat.reduceShiftRight, Nat.reduceAnd, Nat.reduceOr, Nat.reducePow, Nat.reduceBNe, Nat.reduceBEq]
  refine hQ H7 v7 b7 (hE1.app hS7 fun j hj => by cases hj; exact Nat.le_refl _) hw7 fun j hj => ?_
  rcases hb7 j hj with e | e
  · cases e; exact Nat.le_refl _
  · omega

theorem sl_to43 {H : Heap} {b o len cap h : Nat} {own : Bool} {c : List Value} (hg : H.get b = .cells own 1 c) (hh : h ≤ cap) : sliceC TT H 43 (.slice (some ⟨b, o, none⟩) len cap) none (some (.int .i64 (h : Nat))) none = some (.slice (some ⟨b, o, none⟩) h cap) := by
  have e : bnds len cap none (some ((h : Nat) : Int)) none = some (0, h, cap) := by
    have h1 : ((h : Int) ≤ (cap : Int)) := by omega
    have h2 : (0 : Int) ≤ (h : Int) := by omega
    simp [bnds, bMax, bHigh, bLow, h1, h2, hh]
  simp only [sliceC, lit?, ty43, ty54, hg, e]
  simp

theorem short_end {F0 : Fr} {H : Heap} {x : Value} {m : List Wd} (hx : Sl F0 H 1 x m.length (m.flatMap wordC)) (hl : m.length < 1000000) :
    ∃ v' H' b', appendC TT (H.push (.cells true 1 [])) #[43, 43] (.slice (some ⟨H.next, 0, none⟩) 0 0) x = some (.val v' H') ∧ Own1 H' 1 (m.flatMap wordC) v' m.length b' ∧ Ext H H' ∧ (∀ j, b' = some j → H.next ≤ j) := by
  have hE : Ext H (H.push (.cells true 1 [])) := (Ext.refl H).push _
  obtain ⟨v', H', b', k1, k2, k3, k4⟩ := app_own (T := TT) (t := 43) ty43 ty54 rfl (by omega) wordC_one (k := H.next) (H := H.push (.cells true 1 [])) (by simp) (H_get_new _ _) (hx.noF.step hE.step) hl
  refine ⟨v', H', b', k1, k2, hE.app k3 fun j hj => by cases hj; exact Nat.le_refl _, fun j hj => ?_⟩
  rcases k4 j hj with e | e
  · omega
  · have := hE.le; omega

theorem f17_c {F : Fr} {H : Heap} {v : Value} {l : List Wd} (hs : Sl F H 1 v l.length (l.flatMap wordC)) {Q : Ret → Heap → Prop}
    (hQ : ∀ H' u b, Ext H H' → Own1 H' 1 ((l.take 5000).flatMap wordC) u (l.take 5000).length b → (∀ j, b = some j → H.next ≤ j) → Q (.ret u) H') : C 17 #[v] H Q := by
  have hs0 := hs
  obtain ⟨a, cap, rfl, hcap, hlen, hA⟩ := hs.noF.ex
  refine SemC_fn TT.ok fn17 rfl rfl ?_
  by_cases hb : (5000 : Int) < (l.length : Nat)
  · cases hA with
    | nil h1 h2 h3 => omega
    | zer a h1 h2 h3 h4 => omega
    | blk b o own Cb hk hseg =>
      have h5 := sl_to43 (len := l.length) (o := o) (cap := cap) (h := 5000) hk.get (by omega)
      have e5 : ((5000 : Nat) : Int) = 5000 := rfl
      rw [e5] at h5
      have ht : (l.take 5000).length = 5000 := by rw [List.length_take]; omega
      have hsl : Sl noF H 1 (.slice (some ⟨b, o, none⟩) 5000 cap) (l.take 5000).length ((l.take 5000).flatMap wordC) := by
        rw [ht]
        refine ⟨_, cap, rfl, by omega, by rw [words_len, ht], .blk b o own Cb hk ?_⟩
        have := seg_take hseg (m := 5000 * 1) (by omega)
        rw [wd_take] at this
        exact this
      obtain ⟨v', H', b', he, ho, hE, hb'⟩ := short_end hsl (by omega)
      simp only [Try.f17, start, KC_normal, go_sem, Nat.reduceEqDiff, Nat.reduceAdd, reduceIte, reduceCtorEq, Nat.reduceLeDiff, Nat.reduceShiftRight, Nat.reduceAnd, Nat.reduceOr, Nat.reducePow, Nat.reduceBNe, Nat.reduceBEq, hb, Option.map_none, h5, he]
      exact hQ H' v' b' hE ho hb'
  · have ht : l.take 5000 = l := List.take_of_length_le (by omega)
    rw [ht] at hQ
    obtain ⟨v', H', b', he, ho, hE, hb'⟩ := short_end hs0 (by omega)
    simp only [Try.f17, start, KC_normal, go_sem, Nat.reduceEqDiff, Nat.reduceAdd, reduceIte, reduceCtorEq, Nat.reduceLeDiff, Nat.reduceShiftRight, Nat.reduceAnd, Nat.reduceOr, Nat.reducePow, Nat.reduceBNe, Nat.reduceBEq, hb, he]
    exact hQ H' v' b' hE ho hb'
end Go.Ab.Ex
end
section
namespace Go.Ab.Ex
open Go.Proofs
set_option maxRecDepth 10000
set_option maxHeartbeats 1000000

def boolC (b : Bool) : List Value := [.bool b]
theorem boolC_len (b : Bool) : (boolC b).length = 1 := rfl
theorem boolC_one (b : Bool) : (boolC b).all oneCell = true := (rfl)
def bitsL (x : Wd) : List Bool := (List.range 32).map fun i => x.getLsbD i
theorem bitsL_len (x : Wd) : (bitsL x).length = 32 := by simp [bitsL]
theorem bitsL_get {x : Wd} {i : Nat} (h : i < 32) : (bitsL x)[i]? = some (x.getLsbD i) := by
  unfold bitsL
  rw [List.getElem?_map, List.getElem?_range h]; rfl
theorem bit_div (x : Wd) (i : Nat) : x.getLsbD i = decide (x.toNat / 2 ^ i % 2 = 1) := by
  rw [BitVec.getLsbD, Nat.testBit_eq_decide_div_mod_eq]

theorem i_rem2 (m : Nat) : intOp .rem .u32 (m : Int) .u32 2 = some (.int .u32 ((m % 2 : Nat) : Int)) := by
  simp only [intOp, if_true]
  rw [if_neg (by decide), Int.tmod_eq_emod_of_nonneg (by omega)]
  congr 1
theorem i_quo2w (m : Nat) (hm : m < 4294967296) : intOp .quo .u32 (m : Int) .u32 2 = some (.int .u32 ((m / 2 : Nat) : Int)) := by
  rw [i_quo _ _ _ (by decide), Int.tdiv_eq_ediv_of_nonneg (by omega)]
  have e : (m : Int) / 2 = ((m / 2 : Nat) : Int) := by omega
  rw [e]
  have := wrap_u32 (BitVec.ofNat 32 (m / 2))
  rw [BitVec.toNat_ofNat, Nat.mod_eq_of_lt (by omega)] at this
  rw [this]
theorem wrap_u32n {m : Nat} (hm : m < 4294967296) : IntKind.u32.wrap (m : Int) = (m : Int) := by
  have := wrap_u32 (BitVec.ofNat 32 m)
  rw [BitVec.toNat_ofNat, Nat.mod_eq_of_lt (by omega)] at this
  exact this

theorem app1_b {H : Heap} {v : Value} {l : List Bool} {b : Option Nat} (ho : Own1 H 1 (l.flatMap boolC) v l.length b) (hl : l.length < 1000000) (x : Bool) :
    ∃ v' H' b', appendC TT (H.push (.cells true 1 (boolC x))) #[88, 88] v (.slice (some ⟨H.next, 0, none⟩) 1 1) = some (.val v' H') ∧ Own1 H' 1 ((l ++ [x]).flatMap boolC) v' (l ++ [x]).length b' ∧ (∀ F : Fr, Step (F.un b) H (F.un b') H') ∧ (∀ j, b' = some j → H.next ≤ j) :=
  app1 ty88 ty4 rfl (by omega) boolC_len boolC_one ho hl x

theorem f56_c {H : Heap} {x : Wd} {Q : Ret → Heap → Prop} (hQ : ∀ H' u b, Ext H H' → Own1 H' 1 ((bitsL x).flatMap boolC) u (bitsL x).length b → (∀ j, b = some j → H.next ≤ j) → Q (.ret u) H') : C 56 #[.int .u32 (x.toNat : Int)] H Q := by
  have hx := x.isLt
  refine SemC_fn TT.ok fn56 rfl rfl ?_
  simp only [Try.f56, start, KC_normal, go_sem, Nat.reduceEqDiff, Nat.reduceAdd, reduceIte, reduceCtorEq, Nat.reduceLeDiff, Nat.reduceShiftRight, Nat.reduceAnd, Nat.reduceOr, Nat.reducePow, Nat.reduceBNe, Nat.reduceBEq]
  generalize hX : H.push _ = H1
  obtain ⟨hE1, k1, hn1⟩ := new_push hX
  clear hX
  refine wp_loop TT.ok rfl rfl (fun j st => ∃ tm H' i u b, st = ⟨tm, 19, [], false, H'⟩ ∧ j = 32 - i ∧ i ≤ 32 ∧ Ext H H' ∧ Own1 H' 1 (((bitsL x).take i).flatMap boolC) u ((bitsL x).take i).length b ∧ (∀ j, b = some j → H.next ≤ j) ∧
    tm.get 0 = some (.int .u32 ((x.toNat / 2 ^ i : Nat) : Int)) ∧ tm.get 3 = some u ∧ tm.get 4 = some (.int .i64 (i : Nat))) 32 ?_ ?_
  · refine ⟨_, H1, 0, .slice (some ⟨H.next, 0, none⟩) 0 0, some H.next, rfl, rfl, Nat.zero_le _, hE1, .blk _ 0 (by omega) k1 rfl, fun j hj => by cases hj; omega, ?_, ?_, ?_⟩
    all_goals simp only [start, KC_normal, go_sem, Nat.reduceEqDiff, Nat.reduceAdd, reduceIte, reduceCtorEq, Nat.reduceLeDiff, Nat.reduceShiftRight, Nat.reduceAnd, Nat.reduceOr, Nat.reducePow, Nat.reduceBNe, Nat.reduceBEq]
    · simp
    · rfl
  · rintro j st - ⟨tm, H', i, u, b, rfl, hj, hi, hE, ho, hb, t0, t3, t4⟩
    simp only [start, KC_normal, go_sem, Nat.reduceEqDiff, Nat.reduceAdd, reduceIte, reduceCtorEq, Nat.reduceLeDiff, Nat.reduceShiftRight, Nat.reduceAnd, Nat.reduceOr, Nat.reducePow, Nat.reduceBNe, Nat.reduceBEq, t4]
    refine CN_split (fun hlt => ?_) (fun hge => ?_)
    · have hlt' : i < 32 := by omega
      have hdl : x.toNat / 2 ^ i < 4294967296 := Nat.lt_of_le_of_lt (Nat.div_le_self _ _) hx
      have hbit : decide (((x.toNat / 2 ^ i % 2 : Nat) : Int) = 1) = x.getLsbD i := by
        rw [bit_div]
        exact decide_eq_decide.2 (by omega)
      have hll : ((bitsL x).take i).length = i := by rw [List.length_take, bitsL_len]; omega
      obtain ⟨v7, H7, b7, he7, ho7, hS7, hb7⟩ := app1_b ho (by omega) (x.getLsbD i)
      simp only [boolC] at he7
      simp only [start, KC_normal, go_sem, Nat.reduceEqDiff, Nat.reduceAdd, reduceIte, reduceCtorEq, Nat.reduceLeDiff, Nat.reduceShiftRight, Nat.reduceAnd, Nat.reduceOr, Nat.reducePow, Nat.reduceBNe, Nat.reduceBEq, t0, t3, t4, i_rem2, i_quo2w _ hdl, hbit, he7]
      refine ⟨32 - (i + 1), by omega, _, H7, i + 1, v7, b7, rfl, rfl, by omega, hE.app hS7 hb, ?_, ?_, ?_, ?_, ?_⟩
      · rw [take_next (bitsL_get hlt')]; exact ho7
      · intro j hj; have := hb7 j hj; have := hE.le; omega
      all_goals simp only [start, KC_normal, go_sem, Nat.reduceEqDiff, Nat.reduceAdd, reduceIte, reduceCtorEq, Nat.reduceLeDiff, Nat.reduceShiftRight, Nat.reduceAnd, Nat.reduceOr, Nat.reducePow, Nat.reduceBNe, Nat.reduceBEq]
      · rw [Nat.div_div_eq_div_mul, ← Nat.pow_succ]
      · rw [wrap_i64 _ (by omega) (by omega)]; simp
    · have hi' : i = 32 := by omega
      subst hi'
      simp only [start, KC_normal, go_sem, Nat.reduceEqDiff, Nat.reduceAdd, reduceIte, reduceCtorEq, Nat.reduceLeDiff, Nat.reduceShiftRight, Nat.reduceAnd, Nat.reduceOr, Nat.reducePow, Nat.reduceBNe, Nat.reduceBEq, t3]
      rw [List.take_of_length_le (by rw [bitsL_len]; omega)] at ho
      exact hQ H' u b hE ho hb

theorem f57_c {F : Fr} {H : Heap} {v : Value} {x : Wd} (hv : Sl F H 1 v (bitsL x).length ((bitsL x).flatMap boolC)) {Q : Ret → Heap → Prop} (hQ : Q (.ret (.int .u32 (x.toNat : Int))) H) : C 57 #[v] H Q := by
  have hx := x.isLt
  obtain ⟨a, cap, rfl, -, -, ha⟩ := hv.noF.ex
  refine SemC_fn TT.ok fn57 rfl rfl ?_
  have h32 := bitsL_len x
  simp only [Try.f57, start, KC_normal, go_sem, Nat.reduceEqDiff, Nat.reduceAdd, reduceIte, reduceCtorEq, Nat.reduceLeDiff, Nat.reduceShiftRight, Nat.reduceAnd, Nat.reduceOr, Nat.reducePow, Nat.reduceBNe, Nat.reduceBEq, h32]
  refine wp_loop TT.ok rfl rfl (fun j st => ∃ tm i, st = ⟨tm, 21, [], false, H⟩ ∧ j = i ∧ i ≤ 32 ∧ tm.get 0 = some (.slice a 32 cap) ∧ tm.get 3 = some (.int .u32 ((x.toNat / 2 ^ i : Nat) : Int)) ∧ tm.get 4 = some (.int .i64 ((i : Int) - 1))) 32 ?_ ?_
  · refine ⟨_, 32, rfl, rfl, Nat.le_refl _, ?_, ?_, ?_⟩
    all_goals simp only [start, KC_normal, go_sem, Nat.reduceEqDiff, Nat.reduceAdd, reduceIte, reduceCtorEq, Nat.reduceLeDiff, Nat.reduceShiftRight, Nat.reduceAnd, Nat.reduceOr, Nat.reducePow, Nat.reduceBNe, Nat.reduceBEq]
    · rw [Nat.div_eq_of_lt hx]; rfl
    · rfl
  · rintro j st - ⟨tm, i, rfl, rfl, hi, t0, t3, t4⟩
    simp only [start, KC_normal, go_sem, Nat.reduceEqDiff, Nat.reduceAdd, reduceIte, reduceCtorEq, Nat.reduceLeDiff, Nat.reduceShiftRight, Nat.reduceAnd, Nat.reduceOr, Nat.reducePow, Nat.reduceBNe, Nat.reduceBEq, t4]
    refine CN_split (fun hlt => ?_) (fun hge => ?_)
    · obtain ⟨k, rfl⟩ : ∃ k, j = k + 1 := ⟨j - 1, by omega⟩
      have ek : ((k + 1 : Nat) : Int) - 1 = (k : Nat) := by omega
      rw [ek] at t4
      obtain ⟨kk, o, own, Ca, rfl, hk, hc, -⟩ := ha.at boolC_len (bitsL_get (x := x) (i := k) (by omega))
      have hc := hc 0 (by omega)
      simp only [boolC, Nat.add_zero, List.getElem?_cons_zero] at hc
      have hkl : k < 32 := by omega
      have hd : x.toNat / 2 ^ (k + 1) = x.toNat / 2 ^ k / 2 := by rw [Nat.div_div_eq_div_mul, ← Nat.pow_succ]
      have hle : x.toNat / 2 ^ k ≤ x.toNat := Nat.div_le_self _ _
      have hb := bit_div x k
      have e2 : IntKind.u32.wrap (((x.toNat / 2 ^ (k + 1) : Nat) : Int) * 2) = ((x.toNat / 2 ^ (k + 1) * 2 : Nat) : Int) := by
        rw [show ((x.toNat / 2 ^ (k + 1) : Nat) : Int) * 2 = ((x.toNat / 2 ^ (k + 1) * 2 : Nat) : Int) by omega]
        exact wrap_u32n (by omega)
      have e4 : IntKind.i64.wrap ((k : Int) - 1) = (k : Int) - 1 := wrap_i64 _ (by omega) (by omega)
      cases hbb : x.getLsbD k with
      | true =>
        rw [hbb] at hc hb
        have hb := of_decide_eq_true hb.symm
        have e3 : IntKind.u32.wrap (((x.toNat / 2 ^ (k + 1) * 2 : Nat) : Int) + 1) = ((x.toNat / 2 ^ k : Nat) : Int) := by
          rw [show ((x.toNat / 2 ^ (k + 1) * 2 : Nat) : Int) + 1 = ((x.toNat / 2 ^ k : Nat) : Int) by omega]
          exact wrap_u32n (by omega)
        simp only [start, KC_normal, go_sem, Nat.reduceEqDiff, Nat.reduceAdd, reduceIte, reduceCtorEq, Nat.reduceLeDiff, Nat.reduceShiftRight, Nat.reduceAnd, Nat.reduceOr, Nat.reducePow, Nat.reduceBNe, Nat.reduceBEq, t0, t3, t4, e2, ia_in _ _ _ _ _ hkl, hk.get, hc, e3]
        refine ⟨k, by omega, _, k, rfl, rfl, by omega, ?_, ?_, ?_⟩
        all_goals simp only [start, KC_normal, go_sem, Nat.reduceEqDiff, Nat.reduceAdd, reduceIte, reduceCtorEq, Nat.reduceLeDiff, Nat.reduceShiftRight, Nat.reduceAnd, Nat.reduceOr, Nat.reducePow, Nat.reduceBNe, Nat.reduceBEq, t0]
        rw [e4]
      | false =>
        rw [hbb] at hc hb
        have hb := of_decide_eq_false hb.symm
        have e3 : ((x.toNat / 2 ^ (k + 1) * 2 : Nat) : Int) = ((x.toNat / 2 ^ k : Nat) : Int) := by omega
        simp only [start, KC_normal, go_sem, Nat.reduceEqDiff, Nat.reduceAdd, reduceIte, reduceCtorEq, Nat.reduceLeDiff, Nat.reduceShiftRight, Nat.reduceAnd, Nat.reduceOr, Nat.reducePow, Nat.reduceBNe, Nat.reduceBEq, t0, t3, t4, e2, ia_in _ _ _ _ _ hkl, hk.get, hc, e3]
        refine ⟨k, by omega, _, k, rfl, rfl, by omega, ?_, ?_, ?_⟩
        all_goals simp only [start, KC_normal, go_sem, Nat.reduceEqDiff, Nat.reduceAdd, reduceIte, reduceCtorEq, Nat.reduceLeDiff, Nat.reduceShiftRight, Nat.reduceAnd, Nat.reduceOr, Nat.reducePow, Nat.reduceBNe, Nat.reduceBEq, t0]
        rw [e4]
    · have hi' : j = 0 := by omega
      subst hi'
      simp only [start, KC_normal, go_sem, Nat.reduceEqDiff, Nat.reduceAdd, reduceIte, reduceCtorEq, Nat.reduceLeDiff, Nat.reduceShiftRight, Nat.reduceAnd, Nat.reduceOr, Nat.reducePow, Nat.reduceBNe, Nat.reduceBEq, t3]
      rw [Nat.div_one]
      exact hQ
end Go.Ab.Ex
end
section
namespace Go.Ab.Ex
open Go.Proofs
set_option maxRecDepth 10000
set_option maxHeartbeats 1000000

/-- one place up, down, round -/
def shB (op : Nat) (x : Wd) : Wd := if op = 0 then x <<< 1 else x >>> 1
def shW (op : Nat) (x : Wd) : Nat → Wd
  | 0 => x
  | n + 1 => shB op (shW op x n)
theorem shB_bit (op : Nat) (x : Wd) {k : Nat} (hk : k < 32) : (shB op x).getLsbD k = if op = 0 then (decide (0 < k) && x.getLsbD (k - 1)) else x.getLsbD (k + 1) := by
  unfold shB
  split
  · rw [BitVec.getLsbD_shiftLeft]
    by_cases h : 0 < k
    · simp [hk, h]; omega
    · have : k = 0 := by omega
      subst this; simp
  · rw [BitVec.getLsbD_ushiftRight, Nat.add_comm]
theorem shB_xor (op : Nat) (a b : Wd) : shB op (a ^^^ b) = shB op a ^^^ shB op b := by
  unfold shB
  split
  · exact BitVec.shiftLeft_xor_distrib a b 1
  · exact BitVec.ushiftRight_xor_distrib a b 1
theorem shW_xor (op : Nat) (a b : Wd) : ∀ n, shW op (a ^^^ b) n = shW op a n ^^^ shW op b n
  | 0 => rfl
  | n + 1 => by simp only [shW, shW_xor op a b n, shB_xor]
theorem shB_0 (op : Nat) : shB op 0 = 0 := by unfold shB; split <;> rfl
theorem shW_0 (op : Nat) : ∀ n, shW op 0 n = 0
  | 0 => rfl
  | n + 1 => by simp only [shW, shW_0 op n, shB_0]

/-- so far -/
def partB (op : Nat) (x : Wd) (k : Nat) : List Bool := (List.range 32).map fun j => decide (j < k) && (shB op x).getLsbD j
theorem partB_len (op : Nat) (x : Wd) (k : Nat) : (partB op x k).length = 32 := by simp [partB]
theorem partB_all (op : Nat) (x : Wd) : partB op x 32 = bitsL (shB op x) := by
  unfold partB bitsL
  apply List.map_congr_left
  intro j hj
  have : j < 32 := by simpa using hj
  simp [this]
theorem partB_0 (op : Nat) (x : Wd) : partB op x 0 = List.replicate 32 false := by
  apply List.ext_getElem?
  intro i
  simp only [partB, List.getElem?_map, List.getElem?_replicate]
  by_cases h : i < 32
  · rw [List.getElem?_range h]; simp [h]
  · rw [List.getElem?_eq_none (by simp; omega)]; simp [h]
theorem partB_get (op : Nat) (x : Wd) (k j : Nat) (hj : j < 32) : (partB op x k)[j]? = some (decide (j < k) && (shB op x).getLsbD j) := by
  unfold partB
  rw [List.getElem?_map, List.getElem?_range hj]; rfl
theorem partB_set {op : Nat} {x : Wd} {k : Nat} (hk : k < 32) {b : Bool} (hb : b = (shB op x).getLsbD k) : (partB op x k).set k b = partB op x (k + 1) := by
  apply List.ext_getElem?
  intro i
  rw [List.getElem?_set]
  by_cases h : k = i
  · subst h
    rw [if_pos rfl, if_pos (by rw [partB_len]; exact hk), partB_get _ _ _ _ hk]
    simp [hb]
  · rw [if_neg h]
    by_cases hi : i < 32
    · rw [partB_get _ _ _ _ hi, partB_get _ _ _ _ hi]
      have : decide (i < k) = decide (i < k + 1) := decide_eq_decide.2 (by omega)
      rw [this]
    · rw [List.getElem?_eq_none (by rw [partB_len]; omega), List.getElem?_eq_none (by rw [partB_len]; omega)]
theorem partB_keep {op : Nat} {x : Wd} {k : Nat} (hk : k < 32) (hb : (shB op x).getLsbD k = false) : partB op x k = partB op x (k + 1) := by
  rw [← partB_set hk rfl]
  apply List.ext_getElem?
  intro i
  rw [List.getElem?_set]
  by_cases h : k = i
  · subst h
    rw [if_pos rfl, if_pos (by rw [partB_len]; exact hk), partB_get _ _ _ _ hk, hb]
    simp
  · rw [if_neg h]

theorem bool_set (l : List Bool) (k : Nat) (b : Bool) : setSeg (l.flatMap boolC) k [.bool b] = (l.set k b).flatMap boolC := by
  simp only [setSeg]
  induction l generalizing k with
  | nil => simp
  | cons y l ih =>
    cases k with
    | zero => rfl
    | succ k =>
      rw [List.flatMap_cons]
      show (boolC y ++ l.flatMap boolC).set (k + 1) _ = _
      rw [List.set_cons_succ, List.flatMap_cons, ← ih]
      rfl
theorem bools_len (l : List Bool) : (l.flatMap boolC).length = l.length * 1 := fm_length boolC_len l
theorem rep_bools : ∀ n : Nat, rep [Value.bool false] n = (List.replicate n false).flatMap boolC
  | 0 => rfl
  | n + 1 => by
    show [Value.bool false] ++ rep [Value.bool false] n = _
    rw [rep_bools n]; rfl
theorem ms_bools {s b : Nat} {z : Option Value} {a : Bool} {fl : List (Nat × Nat)} : msO TT (some ⟨.slice 4, s, b, z, a, fl⟩) (.int .i64 32) (.int .i64 32) = some (.cells true 1 ((List.replicate 32 false).flatMap boolC), fun b => .slice (some ⟨b, 0, none⟩) 32 32) := by
  simp only [msO, ty4]
  rw [if_pos ⟨by decide, by decide, by decide, by decide, rfl, rfl⟩]
  have e : rep (Value.bool false).cells.toList 32 = (List.replicate 32 false).flatMap boolC := rep_bools 32
  show some (AObj.cells true 1 (rep (Value.bool false).cells.toList 32), _) = _
  rw [e]
  rfl
theorem bset (l : List Bool) (k : Nat) (b : Bool) : (l.flatMap boolC).set (k * 1) (.bool b) = (l.set k b).flatMap boolC := by
  rw [Nat.mul_one]
  exact bool_set l k b
theorem bits_at {x : Wd} {k : Nat} (hk : k < 32) : ((bitsL x).flatMap boolC)[k * 1]? = some (.bool (x.getLsbD k)) := fm_get0 boolC_len _ k _ (bitsL_get hk) (by omega)

theorem ia32_31 (s : Nat) (z : Option Value) (ag : Bool) (fl : List (Nat × Nat)) (b : Nat) : iaO2 (some ⟨.bool, 1, s, z, ag, fl⟩) b 0 32 31 = some (.pointer (some ⟨b, 31, none⟩)) := (rfl)
theorem ia32_00 (s : Nat) (z : Option Value) (ag : Bool) (fl : List (Nat × Nat)) (b : Nat) : iaO2 (some ⟨.bool, 1, s, z, ag, fl⟩) b 0 32 0 = some (.pointer (some ⟨b, 0, none⟩)) := (rfl)

theorem f41_c {op : Nat} (hop : op = 0 ∨ op = 1) {H : Heap} {x : Wd} {n : Nat} (hn : n ≤ 31) {Q : Ret → Heap → Prop} (hQ : ∀ H' c, Ext H H' → Q (.ret (.tuple #[.int .u32 ((shW op x n).toNat : Int), .bool c])) H') :
    C 41 #[.int .i64 (op : Nat), .int .u32 (x.toNat : Int), .int .u32 (n : Nat), .bool false] H Q := by
  refine SemC_fn TT.ok fn41 rfl rfl ?_
  have o1 : ¬ (op : Int) < 0 := by omega
  have o2 : ¬ 3 < (op : Int) := by omega
  have o3 : ¬ (op : Int) = 3 := by omega
  have o4 : ¬ (op : Int) = 2 := by omega
  simp only [Try.f41, start, KC_normal, go_sem, Nat.reduceEqDiff, Nat.reduceAdd, reduceIte, reduceCtorEq, Nat.reduceLeDiff, Nat.reduceShiftRight, Nat.reduceAnd, Nat.reduceOr, Nat.reducePow, Nat.reduceBNe, Nat.reduceBEq, o1, o2, o3]
  refine f56_c fun H1 u b hE1 ho hb => ?_
  have hu : ∃ k, b = some k := ho.pos (by rw [bitsL_len]; decide)
  obtain ⟨k, rfl⟩ := hu
  obtain ⟨hkl, hkg, rfl, -⟩ := ho.at rfl
  rw [bitsL_len]
  simp only [start, KC_normal, go_sem, Nat.reduceEqDiff, Nat.reduceAdd, reduceIte, reduceCtorEq, Nat.reduceLeDiff, Nat.reduceShiftRight, Nat.reduceAnd, Nat.reduceOr, Nat.reducePow, Nat.reduceBNe, Nat.reduceBEq]
  refine wp_loop TT.ok rfl rfl (fun j st => ∃ tm H' i kb c, st = ⟨tm, 99, [], false, H'⟩ ∧ j = n - i ∧ i ≤ n ∧ Ext H H' ∧ kb < H'.next ∧ H'.get kb = .cells true 1 ((bitsL (shW op x i)).flatMap boolC) ∧
    tm.get 0 = some (.int .i64 (op : Nat)) ∧ tm.get 2 = some (.int .u32 (n : Nat)) ∧ tm.get 3 = some (.bool c) ∧ tm.get 10 = some (.slice (some ⟨kb, 0, none⟩) 32 32) ∧ tm.get 11 = some (.int .u32 (i : Nat))) n ?_ ?_
  · refine ⟨_, H1, 0, k, false, rfl, rfl, Nat.zero_le _, hE1, hkl, hkg, ?_, ?_, ?_, ?_, ?_⟩
    all_goals simp only [start, KC_normal, go_sem, Nat.reduceEqDiff, Nat.reduceAdd, reduceIte, reduceCtorEq, Nat.reduceLeDiff, Nat.reduceShiftRight, Nat.reduceAnd, Nat.reduceOr, Nat.reducePow, Nat.reduceBNe, Nat.reduceBEq]
    all_goals rfl
  · rintro j st - ⟨tm, H', i, kb, c, rfl, hj, hi, hE, hkb, hbl, t0, t2, t3, t10, t11⟩
    have e2 : IntKind.u32.wrap ((i : Int) + 1) = ((i + 1 : Nat) : Int) := by
      rw [show (i : Int) + 1 = ((i + 1 : Nat) : Int) by omega]; exact wrap_u32n (by omega)
    by_cases hlt : (i : Int) < (n : Int)
    · have h70 : (i : Int) < 70 := by omega
      simp only [start, KC_normal, go_sem, Nat.reduceEqDiff, Nat.reduceAdd, reduceIte, reduceCtorEq, Nat.reduceLeDiff, Nat.reduceShiftRight, Nat.reduceAnd, Nat.reduceOr, Nat.reducePow, Nat.reduceBNe, Nat.reduceBEq, t2, t11, hlt, h70, a_makeSlice, ms_bools]
      generalize hX : H'.push _ = H2
      obtain ⟨hE2, k2, hn2⟩ := new_push hX
      clear hX
      generalize hT : Tr.set _ _ _ _ = tm2
      obtain ⟨u0, u2, u10, u11, u12, u13⟩ : tm2.get 0 = some (.int .i64 (op : Nat)) ∧ tm2.get 2 = some (.int .u32 (n : Nat)) ∧ tm2.get 10 = some (.slice (some ⟨kb, 0, none⟩) 32 32) ∧ tm2.get 11 = some (.int .u32 (i : Nat)) ∧ tm2.get 12 = some (.slice (some ⟨H'.next, 0, none⟩) 32 32) ∧ tm2.get 13 = some (.int .i64 0) := by
        subst hT
        refine ⟨?_, ?_, ?_, ?_, ?_, ?_⟩ <;> simp only [start, KC_normal, go_sem, Nat.reduceEqDiff, Nat.reduceAdd, reduceIte, reduceCtorEq, Nat.reduceLeDiff, Nat.reduceShiftRight, Nat.reduceAnd, Nat.reduceOr, Nat.reducePow, Nat.reduceBNe, Nat.reduceBEq, t0, t2, t10, t11]
      clear hT t0 t2 t3 t10 t11
      refine wp_loop TT.ok rfl rfl (fun j st => ∃ tm H'' q, st = ⟨tm, 99, [], false, H''⟩ ∧ j = 32 - q ∧ q ≤ 32 ∧ Ext H' H'' ∧ H'.next < H''.next ∧ H''.get H'.next = .cells true 1 ((partB op (shW op x i) q).flatMap boolC) ∧
        tm.get 0 = some (.int .i64 (op : Nat)) ∧ tm.get 2 = some (.int .u32 (n : Nat)) ∧ tm.get 10 = some (.slice (some ⟨kb, 0, none⟩) 32 32) ∧ tm.get 11 = some (.int .u32 (i : Nat)) ∧ tm.get 12 = some (.slice (some ⟨H'.next, 0, none⟩) 32 32) ∧ tm.get 13 = some (.int .i64 (q : Nat))) 32 ?_ ?_
      · refine ⟨_, H2, 0, rfl, rfl, Nat.zero_le _, hE2, by omega, by rw [partB_0]; exact k2, u0, u2, u10, u11, u12, u13⟩
      · clear u0 u2 u10 u11 u12 u13 k2 hE2 hn2
        rintro j st - ⟨tm, H'', q, rfl, hj, hq, hE', hlt', hpb, t0, t2, t10, t11, t12, t13⟩
        have hbl' : H''.get kb = _ := (hE'.get kb hkb).trans hbl
        have e3 : IntKind.i64.wrap ((q : Int) + 1) = ((q + 1 : Nat) : Int) := by rw [wrap_i64 _ (by omega) (by omega)]; rfl
        by_cases hq32 : (q : Int) < 32
        · have hqn : q < 32 := by omega
          have hbit := shB_bit op (shW op x i) hqn
          have hsz : ((partB op (shW op x i) q).flatMap boolC).length = 32 := by rw [bools_len, partB_len]
          have keep : (shB op (shW op x i)).getLsbD q = false → H''.get H'.next = .cells true 1 ((partB op (shW op x i) (q + 1)).flatMap boolC) := fun h => by rw [← partB_keep hqn h]; exact hpb
          rcases hop with rfl | rfl
          · by_cases hq0 : 0 < (q : Int)
            · obtain ⟨r, rfl⟩ : ∃ r, q = r + 1 := ⟨q - 1, by omega⟩
              have er : IntKind.i64.wrap (((r + 1 : Nat) : Int) - 1) = (r : Int) := by rw [wrap_i64 _ (by omega) (by omega)]; omega
              have hb1 := bits_at (x := shW 0 x i) (k := r) (by omega)
              have t0' : tm.get 0 = some (.int .i64 0) := t0
              have hr1 : r + 1 < 32 := hqn
              have hr0 : r < 32 := by omega
              have hle : (r + 1) * 1 ≤ 31 := by omega
              have hbt : (shW 0 x i).getLsbD r = (shB 0 (shW 0 x i)).getLsbD (r + 1) := by
                rw [hbit, if_pos rfl, Nat.add_sub_cancel]
                simp
              simp only [start, KC_normal, go_sem, Nat.reduceEqDiff, Nat.reduceAdd, reduceIte, reduceCtorEq, Nat.reduceLeDiff, Nat.reduceShiftRight, Nat.reduceAnd, Nat.reduceOr, Nat.reducePow, Nat.reduceBNe, Nat.reduceBEq, t0', t10, t12, t13, hq32, hq0, er, ia_in _ _ _ _ _ hr1, ia_in _ _ _ _ _ hr0, hbl', hb1, hpb, hsz, hle, bset, partB_set hqn hbt, Int.reduceLT]
              refine ⟨32 - (r + 1 + 1), by omega, _, _, r + 1 + 1, rfl, rfl, by omega, hE'.put (Nat.le_refl _) _, by simp only [Heap.next_put]; exact hlt', H_put_same _ _ _, ?_, ?_, ?_, ?_, ?_, ?_⟩
              all_goals simp only [start, KC_normal, go_sem, Nat.reduceEqDiff, Nat.reduceAdd, reduceIte, reduceCtorEq, Nat.reduceLeDiff, Nat.reduceShiftRight, Nat.reduceAnd, Nat.reduceOr, Nat.reducePow, Nat.reduceBNe, Nat.reduceBEq, t0, t2, t10, t11, t12]
              rw [e3]
            · have t0' : tm.get 0 = some (.int .i64 0) := t0
              have hq' : q = 0 := by omega
              subst hq'
              simp only [start, KC_normal, go_sem, Nat.reduceEqDiff, Nat.reduceAdd, reduceIte, reduceCtorEq, Nat.reduceLeDiff, Nat.reduceShiftRight, Nat.reduceAnd, Nat.reduceOr, Nat.reducePow, Nat.reduceBNe, Nat.reduceBEq, t0', t10, t12, t13, hq32, hq0, Int.reduceLT]
              refine ⟨32 - (0 + 1), by omega, _, _, 0 + 1, rfl, rfl, by omega, hE', hlt', keep (by rw [hbit]; simp), ?_, ?_, ?_, ?_, ?_, ?_⟩
              all_goals simp only [start, KC_normal, go_sem, Nat.reduceEqDiff, Nat.reduceAdd, reduceIte, reduceCtorEq, Nat.reduceLeDiff, Nat.reduceShiftRight, Nat.reduceAnd, Nat.reduceOr, Nat.reducePow, Nat.reduceBNe, Nat.reduceBEq, t0, t2, t10, t11, t12]
              rw [e3]
          · have t0' : tm.get 0 = some (.int .i64 1) := t0
            by_cases hq31 : (q : Int) < 31
            · have er : IntKind.i64.wrap ((q : Int) + 1) = ((q + 1 : Nat) : Int) := e3
              have hq1 : q + 1 < 32 := by omega
              have hb1 := bits_at (x := shW 1 x i) (k := q + 1) hq1
              have hle : q * 1 ≤ 31 := by omega
              have hbt : (shW 1 x i).getLsbD (q + 1) = (shB 1 (shW 1 x i)).getLsbD q := by
                rw [hbit, if_neg (by decide)]
              simp only [start, KC_normal, go_sem, Nat.reduceEqDiff, Nat.reduceAdd, reduceIte, reduceCtorEq, Nat.reduceLeDiff, Nat.reduceShiftRight, Nat.reduceAnd, Nat.reduceOr, Nat.reducePow, Nat.reduceBNe, Nat.reduceBEq, t0', t10, t12, t13, hq32, hq31, er, ia_in _ _ _ _ _ hq1, ia_in _ _ _ _ _ hqn, hbl', hb1, hpb, hsz, hle, bset, partB_set hqn hbt, Int.reduceLT, Int.reduceEq]
              refine ⟨32 - (q + 1), by omega, _, _, q + 1, rfl, rfl, by omega, hE'.put (Nat.le_refl _) _, by simp only [Heap.next_put]; exact hlt', H_put_same _ _ _, ?_, ?_, ?_, ?_, ?_, ?_⟩
              all_goals simp only [start, KC_normal, go_sem, Nat.reduceEqDiff, Nat.reduceAdd, reduceIte, reduceCtorEq, Nat.reduceLeDiff, Nat.reduceShiftRight, Nat.reduceAnd, Nat.reduceOr, Nat.reducePow, Nat.reduceBNe, Nat.reduceBEq, t0, t2, t10, t11, t12]
            · have hq' : q = 31 := by omega
              subst hq'
              simp only [start, KC_normal, go_sem, Nat.reduceEqDiff, Nat.reduceAdd, reduceIte, reduceCtorEq, Nat.reduceLeDiff, Nat.reduceShiftRight, Nat.reduceAnd, Nat.reduceOr, Nat.reducePow, Nat.reduceBNe, Nat.reduceBEq, t0', t10, t12, t13, hq32, hq31, Int.reduceLT, Int.reduceEq]
              refine ⟨32 - (31 + 1), by omega, _, _, 31 + 1, rfl, rfl, by omega, hE', hlt', keep (by rw [hbit]; simp), ?_, ?_, ?_, ?_, ?_, ?_⟩
              all_goals simp only [start, KC_normal, go_sem, Nat.reduceEqDiff, Nat.reduceAdd, reduceIte, reduceCtorEq, Nat.reduceLeDiff, Nat.reduceShiftRight, Nat.reduceAnd, Nat.reduceOr, Nat.reducePow, Nat.reduceBNe, Nat.reduceBEq, t0, t2, t10, t11, t12]
              rw [e3]
        · have hq' : q = 32 := by omega
          subst hq'
          rw [partB_all] at hpb
          have e4 : shB op (shW op x i) = shW op x (i + 1) := rfl
          rw [e4] at hpb
          have hb31 : ((bitsL (shW op x i)).flatMap boolC)[31]? = some (.bool ((shW op x i).getLsbD 31)) := bits_at (k := 31) (by omega)
          have hb00 : ((bitsL (shW op x i)).flatMap boolC)[0]? = some (.bool ((shW op x i).getLsbD 0)) := bits_at (k := 0) (by omega)
          rcases hop with rfl | rfl
          · have t0' : tm.get 0 = some (.int .i64 0) := t0
            simp only [start, KC_normal, go_sem, Nat.reduceEqDiff, Nat.reduceAdd, reduceIte, reduceCtorEq, Nat.reduceLeDiff, Nat.reduceShiftRight, Nat.reduceAnd, Nat.reduceOr, Nat.reducePow, Nat.reduceBNe, Nat.reduceBEq, t0', t10, t12, t13, hq32, t11, Int.reduceEq, hbl', ia32_31, hb31]
            refine ⟨n - (i + 1), by omega, _, H'', i + 1, H'.next, (shW 0 x i).getLsbD 31, rfl, rfl, by omega, hE.trans hE', hlt', hpb, ?_, ?_, ?_, ?_, ?_⟩
            all_goals simp only [start, KC_normal, go_sem, Nat.reduceEqDiff, Nat.reduceAdd, reduceIte, reduceCtorEq, Nat.reduceLeDiff, Nat.reduceShiftRight, Nat.reduceAnd, Nat.reduceOr, Nat.reducePow, Nat.reduceBNe, Nat.reduceBEq, t0, t2, t12]
            rw [e2]
          · have t0' : tm.get 0 = some (.int .i64 1) := t0
            simp only [start, KC_normal, go_sem, Nat.reduceEqDiff, Nat.reduceAdd, reduceIte, reduceCtorEq, Nat.reduceLeDiff, Nat.reduceShiftRight, Nat.reduceAnd, Nat.reduceOr, Nat.reducePow, Nat.reduceBNe, Nat.reduceBEq, t0', t10, t12, t13, hq32, t11, Int.reduceEq, hbl', ia32_00, hb00]
            refine ⟨n - (i + 1), by omega, _, H'', i + 1, H'.next, (shW 1 x i).getLsbD 0, rfl, rfl, by omega, hE.trans hE', hlt', hpb, ?_, ?_, ?_, ?_, ?_⟩
            all_goals simp only [start, KC_normal, go_sem, Nat.reduceEqDiff, Nat.reduceAdd, reduceIte, reduceCtorEq, Nat.reduceLeDiff, Nat.reduceShiftRight, Nat.reduceAnd, Nat.reduceOr, Nat.reducePow, Nat.reduceBNe, Nat.reduceBEq, t0, t2, t12]
            rw [e2]
    · have hi' : i = n := by omega
      subst hi'
      simp only [start, KC_normal, go_sem, Nat.reduceEqDiff, Nat.reduceAdd, reduceIte, reduceCtorEq, Nat.reduceLeDiff, Nat.reduceShiftRight, Nat.reduceAnd, Nat.reduceOr, Nat.reducePow, Nat.reduceBNe, Nat.reduceBEq, t2, t11, hlt, t10]
      refine f57_c (F := noF) (x := shW op x i) (by
        rw [bitsL_len]
        exact ⟨_, 32, rfl, Nat.le_refl _, by rw [bools_len, bitsL_len], .blk kb 0 true _ ⟨hkb, noF_not _, hbl⟩ (seg_all _ _ (by rw [bools_len, bitsL_len]))⟩) ?_
      simp only [start, KC_normal, go_sem, Nat.reduceEqDiff, Nat.reduceAdd, reduceIte, reduceCtorEq, Nat.reduceLeDiff, Nat.reduceShiftRight, Nat.reduceAnd, Nat.reduceOr, Nat.reducePow, Nat.reduceBNe, Nat.reduceBEq, t3]
      exact hQ H' c hE

/-- round by one place -/
def rot1 (x : Wd) : Wd := (x <<< 1) ||| (x >>> 31)
def rotW (x : Wd) : Nat → Wd
  | 0 => x
  | n + 1 => rot1 (rotW x n)
theorem rot1_bit (x : Wd) {k : Nat} (hk : k < 32) : (rot1 x).getLsbD k = if k = 0 then x.getLsbD 31 else x.getLsbD (k - 1) := by
  unfold rot1
  rw [BitVec.getLsbD_or, BitVec.getLsbD_shiftLeft, BitVec.getLsbD_ushiftRight]
  by_cases h : k = 0
  · subst h; simp
  · rw [if_neg h]
    have h1 : ¬ k < 1 := by omega
    have h2 : x.getLsbD (31 + k) = false := BitVec.getLsbD_of_ge x _ (by omega)
    rw [h2]
    simp [hk, h1]
theorem rot1_xor (a b : Wd) : rot1 (a ^^^ b) = rot1 a ^^^ rot1 b := by
  apply BitVec.eq_of_getLsbD_eq
  intro k hk
  rw [BitVec.getLsbD_xor, rot1_bit _ hk, rot1_bit _ hk, rot1_bit _ hk]
  split <;> rw [BitVec.getLsbD_xor]
theorem rotW_xor (a b : Wd) : ∀ n, rotW (a ^^^ b) n = rotW a n ^^^ rotW b n
  | 0 => rfl
  | n + 1 => by simp only [rotW, rotW_xor a b n, rot1_xor]
end Go.Ab.Ex
end
section
namespace Go.Ab.Ex
open Go.Proofs
set_option maxRecDepth 10000
set_option maxHeartbeats 1000000

theorem i_rem32 (m : Nat) : intOp .rem .u32 (m : Int) .u32 32 = some (.int .u32 ((m % 32 : Nat) : Int)) := by
  simp only [intOp, if_true]
  rw [if_neg (by decide), Int.tmod_eq_emod_of_nonneg (by omega)]
  congr 1
theorem sl_to88 {H : Heap} {b len cap h : Nat} {own : Bool} {c : List Value} (hg : H.get b = .cells own 1 c) (hh : h ≤ cap) : sliceC TT H 88 (.slice (some ⟨b, 0, none⟩) len cap) none (some (.int .i64 (h : Nat))) none = some (.slice (some ⟨b, 0, none⟩) h cap) := by
  have e : bnds len cap none (some ((h : Nat) : Int)) none = some (0, h, cap) := by
    have h1 : ((h : Int) ≤ (cap : Int)) := by omega
    have h2 : (0 : Int) ≤ (h : Int) := by omega
    simp [bnds, bMax, bHigh, bLow, h1, h2, hh]
  simp only [sliceC, lit?, ty88, ty4, hg, e]
  simp
theorem bl_take : ∀ (l : List Bool) (n : Nat), (l.flatMap boolC).take n = (l.take n).flatMap boolC
  | [], n => by simp
  | x :: l, 0 => rfl
  | x :: l, n + 1 => by
    rw [List.flatMap_cons, List.take_succ_cons, List.flatMap_cons]
    show _ :: (l.flatMap boolC).take n = _ :: _
    rw [bl_take l n]
    rfl
theorem rot_bits (y : Wd) : bitsL (rot1 y) = [y.getLsbD 31] ++ (bitsL y).take 31 := by
  apply List.ext_getElem?
  intro i
  by_cases hi : i < 32
  · rw [bitsL_get hi, rot1_bit _ hi]
    cases i with
    | zero => rfl
    | succ i =>
      rw [if_neg (by omega), List.getElem?_append_right (by simp), List.getElem?_take, if_pos (by simp; omega)]
      simp only [List.length_singleton, Nat.add_sub_cancel]
      rw [bitsL_get (by omega)]
  · rw [List.getElem?_eq_none (by rw [bitsL_len]; omega), List.getElem?_eq_none (by rw [List.length_append, List.length_take, bitsL_len]; simp; omega)]

theorem appN_b {F0 : Fr} {H : Heap} {v x : Value} {l m : List Bool} {b : Option Nat} (ho : Own1 H 1 (l.flatMap boolC) v l.length b) (hx : Sl F0 H 1 x m.length (m.flatMap boolC)) (hl : l.length + m.length < 1000000) :
    ∃ v' H' b', appendC TT H #[88, 88] v x = some (.val v' H') ∧ Own1 H' 1 ((l ++ m).flatMap boolC) v' (l ++ m).length b' ∧ (∀ F : Fr, Step (F.un b) H (F.un b') H') ∧ (∀ j, b' = some j → b = some j ∨ H.next ≤ j) :=
  appN ty88 ty4 rfl (by omega) boolC_one ho hx hl

theorem f42_c {H : Heap} {x : Wd} {n : Nat} (hn : n ≤ 31) {Q : Ret → Heap → Prop} (hQ : ∀ H', Ext H H' → Q (.ret (.int .u32 ((rotW x n).toNat : Int))) H') : C 42 #[.int .u32 (x.toNat : Int), .int .u32 (n : Nat)] H Q := by
  have hmod : n % 32 = n := Nat.mod_eq_of_lt (by omega)
  refine SemC_fn TT.ok fn42 rfl rfl ?_
  simp only [Try.f42, start, KC_normal, go_sem, Nat.reduceEqDiff, Nat.reduceAdd, reduceIte, reduceCtorEq, Nat.reduceLeDiff, Nat.reduceShiftRight, Nat.reduceAnd, Nat.reduceOr, Nat.reducePow, Nat.reduceBNe, Nat.reduceBEq]
  refine f56_c fun H1 u b hE1 ho hb => ?_
  obtain ⟨k, rfl⟩ : ∃ k, b = some k := ho.pos (by rw [bitsL_len]; decide)
  obtain ⟨hkl, hkg, rfl, -⟩ := ho.at rfl
  rw [bitsL_len] at ho ⊢
  simp only [start, KC_normal, go_sem, Nat.reduceEqDiff, Nat.reduceAdd, reduceIte, reduceCtorEq, Nat.reduceLeDiff, Nat.reduceShiftRight, Nat.reduceAnd, Nat.reduceOr, Nat.reducePow, Nat.reduceBNe, Nat.reduceBEq]
  refine wp_loop TT.ok rfl rfl (fun j st => ∃ tm H' i kb, st = ⟨tm, 24, [], false, H'⟩ ∧ j = n - i ∧ i ≤ n ∧ Ext H H' ∧ kb < H'.next ∧ H'.get kb = .cells true 1 ((bitsL (rotW x i)).flatMap boolC) ∧
    tm.get 1 = some (.int .u32 (n : Nat)) ∧ tm.get 5 = some (.slice (some ⟨kb, 0, none⟩) 32 32) ∧ tm.get 6 = some (.int .u32 (i : Nat))) n ?_ ?_
  · refine ⟨_, H1, 0, k, rfl, rfl, Nat.zero_le _, hE1, hkl, hkg, ?_, ?_, ?_⟩
    all_goals simp only [start, KC_normal, go_sem, Nat.reduceEqDiff, Nat.reduceAdd, reduceIte, reduceCtorEq, Nat.reduceLeDiff, Nat.reduceShiftRight, Nat.reduceAnd, Nat.reduceOr, Nat.reducePow, Nat.reduceBNe, Nat.reduceBEq]
    all_goals rfl
  · clear ho hkl hkg hE1 hb
    rintro j st - ⟨tm, H', i, kb, rfl, hj, hi, hE, hkb, hbl, t1, t5, t6⟩
    have e2 : IntKind.u32.wrap ((i : Int) + 1) = ((i + 1 : Nat) : Int) := by
      rw [show (i : Int) + 1 = ((i + 1 : Nat) : Int) by omega]; exact wrap_u32n (by omega)
    simp only [start, KC_normal, go_sem, Nat.reduceEqDiff, Nat.reduceAdd, reduceIte, reduceCtorEq, Nat.reduceLeDiff, Nat.reduceShiftRight, Nat.reduceAnd, Nat.reduceOr, Nat.reducePow, Nat.reduceBNe, Nat.reduceBEq, t1, t6, i_rem32, hmod]
    refine CN_split (fun hlt => ?_) (fun hge => ?_)
    · have hb31 : ((bitsL (rotW x i)).flatMap boolC)[31]? = some (.bool ((rotW x i).getLsbD 31)) := bits_at (k := 31) (by omega)
      have h31 := sl_to88 (len := 32) (cap := 32) (h := 31) (H := H'.skip 8) hbl (by omega)
      have e31 : ((31 : Nat) : Int) = 31 := rfl
      rw [e31] at h31
      simp only [start, KC_normal, go_sem, Nat.reduceEqDiff, Nat.reduceAdd, reduceIte, reduceCtorEq, Nat.reduceLeDiff, Nat.reduceShiftRight, Nat.reduceAnd, Nat.reduceOr, Nat.reducePow, Nat.reduceBNe, Nat.reduceBEq]
      refine DRg_x TT.ok [0, 1, 3, 7, 0, 16, 63, 127] 8 255 24 rfl (by decide +kernel) ?_
      simp only [start, KC_normal, go_sem, Nat.reduceEqDiff, Nat.reduceAdd, reduceIte, reduceCtorEq, Nat.reduceLeDiff, Nat.reduceShiftRight, Nat.reduceAnd, Nat.reduceOr, Nat.reducePow, Nat.reduceBNe, Nat.reduceBEq, t5, hbl, ia32_31, hb31, Option.map_none, h31]
      generalize hY : (H'.skip 8).put (H'.next + 3) _ = H2
      obtain ⟨hE2, k2, hn2⟩ := skip_put0 hY (by omega)
      clear hY
      have hbl2 := (hE2.get kb hkb).trans hbl
      have ho2 : Own1 H2 1 ([(rotW x i).getLsbD 31].flatMap boolC) (.slice (some ⟨H'.next + 3, 0, none⟩) 1 1) [(rotW x i).getLsbD 31].length (some (H'.next + 3)) := .blk _ 1 (by omega) k2 rfl
      have hlt31 : ((bitsL (rotW x i)).take 31).length = 31 := by rw [List.length_take, bitsL_len]; rfl
      have hx2 : Sl noF H2 1 (.slice (some ⟨kb, 0, none⟩) 31 32) ((bitsL (rotW x i)).take 31).length (((bitsL (rotW x i)).take 31).flatMap boolC) := by
        rw [hlt31]
        refine ⟨_, 32, rfl, by omega, by rw [bools_len, hlt31], .blk kb 0 true _ ⟨by omega, noF_not _, hbl2⟩ ?_⟩
        have h32 : seg ((bitsL (rotW x i)).flatMap boolC) 0 32 = some ((bitsL (rotW x i)).flatMap boolC) := seg_all _ _ (by rw [bools_len, bitsL_len])
        have := seg_take h32 (m := 31 * 1) (by omega)
        rw [bl_take] at this
        exact this
      obtain ⟨v7, H7, b7, he7, ho7, hS7, hb7⟩ := appN_b ho2 hx2 (by rw [hlt31, List.length_singleton]; omega)
      have hE7 : Ext H' H7 := hE2.app hS7 fun j hj => by cases hj; omega
      have hbl7 := (hE7.get kb hkb).trans hbl
      have h317 := sl_to88 (len := 32) (cap := 32) (h := 31) hbl7 (by omega)
      rw [e31] at h317
      rw [← rot_bits] at ho7
      obtain ⟨k7, rfl⟩ : ∃ k, b7 = some k := ho7.pos (by rw [bitsL_len]; decide)
      obtain ⟨h7l, h7g, rfl, -⟩ := ho7.at rfl
      rw [bitsL_len] at he7
      simp only [he7, start, KC_normal, go_sem, Nat.reduceEqDiff, Nat.reduceAdd, reduceIte, reduceCtorEq, Nat.reduceLeDiff, Nat.reduceShiftRight, Nat.reduceAnd, Nat.reduceOr, Nat.reducePow, Nat.reduceBNe, Nat.reduceBEq, t5, t6, hbl7, ia32_31, hb31, Option.map_none, h317]
      refine ⟨n - (i + 1), by omega, _, H7, i + 1, k7, rfl, rfl, by omega, hE.trans hE7, h7l, h7g, ?_, ?_, ?_⟩
      all_goals simp only [start, KC_normal, go_sem, Nat.reduceEqDiff, Nat.reduceAdd, reduceIte, reduceCtorEq, Nat.reduceLeDiff, Nat.reduceShiftRight, Nat.reduceAnd, Nat.reduceOr, Nat.reducePow, Nat.reduceBNe, Nat.reduceBEq, t1]
      rw [e2]
    · have hi' : i = n := by omega
      subst hi'
      simp only [start, KC_normal, go_sem, Nat.reduceEqDiff, Nat.reduceAdd, reduceIte, reduceCtorEq, Nat.reduceLeDiff, Nat.reduceShiftRight, Nat.reduceAnd, Nat.reduceOr, Nat.reducePow, Nat.reduceBNe, Nat.reduceBEq, t5]
      refine f57_c (F := noF) (x := rotW x i) (by
        rw [bitsL_len]
        exact ⟨_, 32, rfl, Nat.le_refl _, by rw [bools_len, bitsL_len], .blk kb 0 true _ ⟨hkb, noF_not _, hbl⟩ (seg_all _ _ (by rw [bools_len, bitsL_len]))⟩) ?_
      simp only [start, KC_normal, go_sem, Nat.reduceEqDiff, Nat.reduceAdd, reduceIte, reduceCtorEq, Nat.reduceLeDiff, Nat.reduceShiftRight, Nat.reduceAnd, Nat.reduceOr, Nat.reducePow, Nat.reduceBNe, Nat.reduceBEq]
      exact hQ H' hE
end Go.Ab.Ex
end
section
namespace Go.Ab.Ex
open Go.Proofs
set_option maxRecDepth 10000
set_option maxHeartbeats 1000000

theorem f58_c {H : Heap} {v : Value} {l : List Wd} {F : Fr} (hv : Sl F H 1 v l.length (l.flatMap wordC)) {n : Wd} {Q : Ret → Heap → Prop} (hQ : Q (.ret (.int .u32 ((atW l n.toNat).toNat : Int))) H) : C 58 #[v, .int .u32 (n.toNat : Int)] H Q := by
  have hnl := n.isLt
  obtain ⟨a, cap, rfl, -, -, ha⟩ := hv.noF.ex
  refine SemC_fn TT.ok fn58 rfl rfl ?_
  have hNw : IntKind.i64.wrap (n.toNat : Int) = (n.toNat : Int) := wrap_i64 _ (by omega) (by omega)
  by_cases hlt : n.toNat < l.length
  · have ea : l[n.toNat]? = some l[n.toNat] := by simp [hlt]
    have e : atW l n.toNat = l[n.toNat] := by unfold atW; rw [List.getD_eq_getElem?_getD, ea]; rfl
    obtain ⟨k, o, own, Ca, rfl, hk, hc, -⟩ := ha.at wordC_len ea
    have hc := hc 0 (by omega)
    simp only [wordC, Nat.add_zero, List.getElem?_cons_zero] at hc
    rw [e] at hQ
    have h1 : ((n.toNat : Nat) : Int) < (l.length : Nat) := by omega
    simp only [Try.f58, start, KC_normal, go_sem, Nat.reduceEqDiff, Nat.reduceAdd, reduceIte, reduceCtorEq, Nat.reduceLeDiff, Nat.reduceShiftRight, Nat.reduceAnd, Nat.reduceOr, Nat.reducePow, Nat.reduceBNe, Nat.reduceBEq, hNw, h1, ia_in _ _ _ _ _ hlt, hk.get, hc]
    exact hQ
  · have e : atW l n.toNat = 0 := by unfold atW; rw [List.getD_eq_getElem?_getD, List.getElem?_eq_none (by omega)]; rfl
    rw [e] at hQ
    have h1 : ¬ ((n.toNat : Nat) : Int) < (l.length : Nat) := by omega
    simp only [Try.f58, start, KC_normal, go_sem, Nat.reduceEqDiff, Nat.reduceAdd, reduceIte, reduceCtorEq, Nat.reduceLeDiff, Nat.reduceShiftRight, Nat.reduceAnd, Nat.reduceOr, Nat.reducePow, Nat.reduceBNe, Nat.reduceBEq, hNw, h1]
    exact hQ

theorem wrap_ex (z : Int) : ∃ w : Wd, IntKind.u32.wrap z = (w.toNat : Int) := by
  refine ⟨BitVec.ofInt 32 z, ?_⟩
  simp only [IntKind.wrap, IntKind.bits, IntKind.signed]
  simp [BitVec.toNat_ofInt]
  omega
theorem i_remn (i n : Nat) (h : 0 < n) : intOp .rem .i64 (i : Int) .i64 (n : Int) = some (.int .i64 ((i % n : Nat) : Int)) := by
  simp only [intOp, if_true]
  rw [if_neg (by omega), Int.tmod_eq_emod_of_nonneg (by omega)]
  congr 1

theorem f24_c {F : Fr} {H : Heap} {v : Value} {l : List Wd} {n : Nat} (hv : Sl F H 1 v l.length (l.flatMap wordC)) (hn : n < 100000) {Q : Ret → Heap → Prop}
    (hQ : ∀ H' u b (m : List Wd), m.length = n → Ext H H' → Own1 H' 1 (m.flatMap wordC) u m.length b → (∀ j, b = some j → H.next ≤ j) → Q (.ret u) H') : C 24 #[v, .int .i64 (n : Nat)] H Q := by
  obtain ⟨a, cap, rfl, -, -, ha⟩ := hv.noF.ex
  refine SemC_fn TT.ok fn24 rfl rfl ?_
  simp only [Try.f24, start, KC_normal, go_sem, Nat.reduceEqDiff, Nat.reduceAdd, reduceIte, reduceCtorEq, Nat.reduceLeDiff, Nat.reduceShiftRight, Nat.reduceAnd, Nat.reduceOr, Nat.reducePow, Nat.reduceBNe, Nat.reduceBEq]
  generalize hX : H.push _ = H1
  obtain ⟨hE1, k1, hn1⟩ := new_push hX
  clear hX
  refine wp_loop TT.ok rfl rfl (fun j st => ∃ tm H' i u b, ∃ m : List Wd, st = ⟨tm, 34, [], false, H'⟩ ∧ j = n - i ∧ i ≤ n ∧ m.length = i ∧ Ext H H' ∧ Own1 H' 1 (m.flatMap wordC) u m.length b ∧ (∀ j, b = some j → H.next ≤ j) ∧
    tm.get 0 = some (.slice a l.length cap) ∧ tm.get 1 = some (.int .i64 (n : Nat)) ∧ tm.get 5 = some u ∧ tm.get 6 = some (.int .i64 (i : Nat))) n ?_ ?_
  · refine ⟨_, H1, 0, .slice (some ⟨H.next, 0, none⟩) 0 0, some H.next, [], rfl, rfl, Nat.zero_le _, rfl, hE1, .blk _ 0 (by omega) k1 rfl, (fun j hj => by cases hj; omega), ?_, ?_, ?_, ?_⟩
    all_goals simp only [start, KC_normal, go_sem, Nat.reduceEqDiff, Nat.reduceAdd, reduceIte, reduceCtorEq, Nat.reduceLeDiff, Nat.reduceShiftRight, Nat.reduceAnd, Nat.reduceOr, Nat.reducePow, Nat.reduceBNe, Nat.reduceBEq]
    rfl
  · clear k1 hE1 hn1
    rintro j st - ⟨tm, H', i, u, b, m, rfl, hj, hi, hm, hE, ho, hb, t0, t1, t5, t6⟩
    simp only [start, KC_normal, go_sem, Nat.reduceEqDiff, Nat.reduceAdd, reduceIte, reduceCtorEq, Nat.reduceLeDiff, Nat.reduceShiftRight, Nat.reduceAnd, Nat.reduceOr, Nat.reducePow, Nat.reduceBNe, Nat.reduceBEq, t1, t6]
    refine CN_split (fun hlt => ?_) (fun hge => ?_)
    · have e2 : IntKind.i64.wrap ((i : Int) + 1) = ((i + 1 : Nat) : Int) := by rw [wrap_i64 _ (by omega) (by omega)]; rfl
      obtain ⟨w, hw⟩ := wrap_ex (IntKind.u32.wrap (i : Int) * 2654435761)
      simp only [start, KC_normal, go_sem, Nat.reduceEqDiff, Nat.reduceAdd, reduceIte, reduceCtorEq, Nat.reduceLeDiff, Nat.reduceShiftRight, Nat.reduceAnd, Nat.reduceOr, Nat.reducePow, Nat.reduceBNe, Nat.reduceBEq, t0, t1, t5, t6, hw]
      by_cases h0 : (0 : Int) < (l.length : Nat)
      · have hml : i % l.length < l.length := Nat.mod_lt _ (by omega)
        have ea : l[i % l.length]? = some l[i % l.length] := by simp [hml]
        obtain ⟨k, o, own, Ca, rfl, hk, hc, -⟩ := ha.at wordC_len ea
        have hc := hc 0 (by omega)
        simp only [wordC, Nat.add_zero, List.getElem?_cons_zero] at hc
        obtain ⟨v7, H7, b7, he7, ho7, hS7, hb7⟩ := app1_wd ho (by omega) (w ^^^ l[i % l.length])
        simp only [wordC] at he7
        simp only [start, KC_normal, go_sem, Nat.reduceEqDiff, Nat.reduceAdd, reduceIte, reduceCtorEq, Nat.reduceLeDiff, Nat.reduceShiftRight, Nat.reduceAnd, Nat.reduceOr, Nat.reducePow, Nat.reduceBNe, Nat.reduceBEq, t0, t5, t6, h0, i_remn i l.length (by omega), ia_in _ _ _ _ _ hml, (hk.step hE.step).get, hc, i_xorw, he7]
        refine ⟨n - (i + 1), by omega, _, H7, i + 1, v7, b7, _, rfl, rfl, by omega, ?_, hE.app hS7 hb, ho7, (fun j hj => by have := hb7 j hj; have := hE.le; omega), ?_, ?_, ?_, ?_⟩
        · rw [List.length_append, hm]; rfl
        all_goals simp only [start, KC_normal, go_sem, Nat.reduceEqDiff, Nat.reduceAdd, reduceIte, reduceCtorEq, Nat.reduceLeDiff, Nat.reduceShiftRight, Nat.reduceAnd, Nat.reduceOr, Nat.reducePow, Nat.reduceBNe, Nat.reduceBEq, t0, t1]
        rw [e2]
      · obtain ⟨v7, H7, b7, he7, ho7, hS7, hb7⟩ := app1_wd ho (by omega) w
        simp only [wordC] at he7
        simp only [start, KC_normal, go_sem, Nat.reduceEqDiff, Nat.reduceAdd, reduceIte, reduceCtorEq, Nat.reduceLeDiff, Nat.reduceShiftRight, Nat.reduceAnd, Nat.reduceOr, Nat.reducePow, Nat.reduceBNe, Nat.reduceBEq, t0, t5, t6, h0, he7]
        refine ⟨n - (i + 1), by omega, _, H7, i + 1, v7, b7, _, rfl, rfl, by omega, ?_, hE.app hS7 hb, ho7, (fun j hj => by have := hb7 j hj; have := hE.le; omega), ?_, ?_, ?_, ?_⟩
        · rw [List.length_append, hm]; rfl
        all_goals simp only [start, KC_normal, go_sem, Nat.reduceEqDiff, Nat.reduceAdd, reduceIte, reduceCtorEq, Nat.reduceLeDiff, Nat.reduceShiftRight, Nat.reduceAnd, Nat.reduceOr, Nat.reducePow, Nat.reduceBNe, Nat.reduceBEq, t0, t1]
        rw [e2]
    · have hi' : i = n := by omega
      simp only [start, KC_normal, go_sem, Nat.reduceEqDiff, Nat.reduceAdd, reduceIte, reduceCtorEq, Nat.reduceLeDiff, Nat.reduceShiftRight, Nat.reduceAnd, Nat.reduceOr, Nat.reducePow, Nat.reduceBNe, Nat.reduceBEq, t5]
      exact hQ H' u b m (by omega) hE ho hb

def pickW (ws : List Wd) (outs : List Int) : List Wd := outs.map fun o => atW ws o.toNat
theorem pick_next {ws : List Wd} {outs : List Int} {i : Nat} {o : Int} (h : outs[i]? = some o) : pickW ws (outs.take (i + 1)) = pickW ws (outs.take i) ++ [atW ws o.toNat] := by
  unfold pickW
  rw [take_next h, List.map_append]; rfl

theorem f27_c {F : Fr} {H : Heap} {v vw : Value} {inn : Int} {ops : List OpM} {outs : List Int} {ws : List Wd} (hv : CodeR F H v inn ops outs) (hw : Sl noF H 1 vw ws.length (ws.flatMap wordC)) (hol : outs.length < 1000000) (h0 : ∀ o ∈ outs, 0 ≤ o) {Q : Ret → Heap → Prop}
    (hQ : ∀ H' u b, Ext H H' → Own1 H' 1 ((pickW ws outs).flatMap wordC) u (pickW ws outs).length b → (∀ j, b = some j → H.next ≤ j) → Q (.ret u) H') : C 27 #[v, vw] H Q := by
  obtain ⟨vo, vu, rfl, hs1, hs2⟩ := hv.noF.ex
  obtain ⟨bo, cb, rfl, -, -, hoA⟩ := hs1.ex
  obtain ⟨bu, cu, rfl, -, -, huA⟩ := hs2.ex
  obtain ⟨aw, cw, rfl, -, -, hwA⟩ := hw.ex
  refine SemC_fn TT.ok fn27 rfl rfl ?_
  simp only [Try.f27, start, KC_normal, go_sem, Nat.reduceEqDiff, Nat.reduceAdd, reduceIte, reduceCtorEq, Nat.reduceLeDiff, Nat.reduceShiftRight, Nat.reduceAnd, Nat.reduceOr, Nat.reducePow, Nat.reduceBNe, Nat.reduceBEq]
  generalize hX : (H.push _).push _ = H1
  obtain ⟨hE1, k2, k5, hn1⟩ := pre2 hX
  clear hX
  refine wp_loop TT.ok rfl rfl (fun j st => ∃ tm H' i u b, st = ⟨tm, 40, [], false, H'⟩ ∧ j = outs.length - i ∧ i ≤ outs.length ∧ Ext H H' ∧ H.next < H'.next ∧ H'.get H.next = .cells true 3 [.int .i64 inn, .slice bo ops.length cb, .slice bu outs.length cu] ∧
    Own1 H' 1 ((pickW ws (outs.take i)).flatMap wordC) u (pickW ws (outs.take i)).length b ∧ (∀ j, b = some j → H.next < j) ∧
    tm.get 1 = some (.slice aw ws.length cw) ∧ tm.get 2 = some (.pointer (some ⟨H.next, 0, none⟩)) ∧ tm.get 5 = some u ∧ tm.get 6 = some (.int .i64 (i : Nat))) outs.length ?_ ?_
  · refine ⟨_, H1, 0, .slice (some ⟨H.next + 1, 0, none⟩) 0 0, some (H.next + 1), rfl, rfl, Nat.zero_le _, hE1, by omega, k2, .blk _ 0 (by omega) k5 rfl, (fun j hj => by cases hj; omega), ?_, ?_, ?_, ?_⟩
    all_goals simp only [start, KC_normal, go_sem, Nat.reduceEqDiff, Nat.reduceAdd, reduceIte, reduceCtorEq, Nat.reduceLeDiff, Nat.reduceShiftRight, Nat.reduceAnd, Nat.reduceOr, Nat.reducePow, Nat.reduceBNe, Nat.reduceBEq]
    rfl
  · clear k2 k5 hE1 hn1
    rintro j st - ⟨tm, H', i, u, b, rfl, hj, hi, hE, hle, k2, ho, hb, t1, t2, t5, t6⟩
    simp only [start, KC_normal, go_sem, Nat.reduceEqDiff, Nat.reduceAdd, reduceIte, reduceCtorEq, Nat.reduceLeDiff, Nat.reduceShiftRight, Nat.reduceAnd, Nat.reduceOr, Nat.reducePow, Nat.reduceBNe, Nat.reduceBEq, t2, t6, k2]
    refine CN_split (fun hlt => ?_) (fun hge => ?_)
    · have hlt' : i < outs.length := by omega
      have ea : outs[i]? = some outs[i] := by simp [hlt']
      have hoi : 0 ≤ outs[i] := h0 _ (List.getElem_mem hlt')
      have e2 : IntKind.i64.wrap ((i : Int) + 1) = ((i + 1 : Nat) : Int) := by rw [wrap_i64 _ (by omega) (by omega)]; rfl
      have hpl : (pickW ws (outs.take i)).length = i := by simp [pickW]; omega
      obtain ⟨ku, ou, owu, Cu, rfl, hku, hcu, -⟩ := huA.at intC_len ea
      have hcu := hcu 0 (by omega)
      simp only [intC, Nat.add_zero, List.getElem?_cons_zero] at hcu
      have hpn := pick_next (ws := ws) ea
      generalize outs[i] = o at *
      by_cases hol2 : o < (ws.length : Nat)
      · have hkn : o.toNat < ws.length := by omega
        have ew : ws[o.toNat]? = some ws[o.toNat] := by simp [hkn]
        have eaw : atW ws o.toNat = ws[o.toNat] := by unfold atW; rw [List.getD_eq_getElem?_getD, ew]; rfl
        obtain ⟨kw, ow, oww, Cw, rfl, hkw, hcw, -⟩ := hwA.at wordC_len ew
        have hcw := hcw 0 (by omega)
        simp only [wordC, Nat.add_zero, List.getElem?_cons_zero] at hcw
        obtain ⟨v7, H7, b7, he7, ho7, hS7, hb7⟩ := app1_wd ho (by omega) (atW ws o.toNat)
        rw [eaw] at he7
        simp only [wordC] at he7
        simp only [start, KC_normal, go_sem, Nat.reduceEqDiff, Nat.reduceAdd, reduceIte, reduceCtorEq, Nat.reduceLeDiff, Nat.reduceShiftRight, Nat.reduceAnd, Nat.reduceOr, Nat.reducePow, Nat.reduceBNe, Nat.reduceBEq, t1, t2, t5, t6, k2, ia_in _ _ _ _ _ hlt', (hku.step hE.step).get, hcu, hoi, hol2, ia_int _ _ _ _ _ hoi hol2, (hkw.step hE.step).get, hcw, he7]
        refine ⟨outs.length - (i + 1), by omega, _, H7, i + 1, v7, b7, rfl, rfl, by omega, hE.app hS7 (fun j hj => by have := hb j hj; omega), ?_, ?_, ?_, ?_, ?_, ?_, ?_, ?_⟩
        · have := (hS7 noF).le; omega
        · rw [(hS7 noF).get _ (by omega) (fun h => h.elim (fun h => h) (fun h => by have := hb _ h; omega))]; exact k2
        · rw [hpn]; exact ho7
        · intro j hj; have := hb7 j hj; omega
        all_goals simp only [start, KC_normal, go_sem, Nat.reduceEqDiff, Nat.reduceAdd, reduceIte, reduceCtorEq, Nat.reduceLeDiff, Nat.reduceShiftRight, Nat.reduceAnd, Nat.reduceOr, Nat.reducePow, Nat.reduceBNe, Nat.reduceBEq, t1, t2]
        rw [e2]
      · have eaw : atW ws o.toNat = 0 := by unfold atW; rw [List.getD_eq_getElem?_getD, List.getElem?_eq_none (by omega)]; rfl
        obtain ⟨v7, H7, b7, he7, ho7, hS7, hb7⟩ := app1_wd ho (by omega) (atW ws o.toNat)
        rw [eaw] at he7
        have he7 : appendC TT (H'.push (.cells true 1 [.int .u32 0])) #[43, 43] u (.slice (some ⟨H'.next, 0, none⟩) 1 1) = some (.val v7 H7) := he7
        simp only [start, KC_normal, go_sem, Nat.reduceEqDiff, Nat.reduceAdd, reduceIte, reduceCtorEq, Nat.reduceLeDiff, Nat.reduceShiftRight, Nat.reduceAnd, Nat.reduceOr, Nat.reducePow, Nat.reduceBNe, Nat.reduceBEq, t1, t2, t5, t6, k2, ia_in _ _ _ _ _ hlt', (hku.step hE.step).get, hcu, hoi, hol2, he7]
        refine ⟨outs.length - (i + 1), by omega, _, H7, i + 1, v7, b7, rfl, rfl, by omega, hE.app hS7 (fun j hj => by have := hb j hj; omega), ?_, ?_, ?_, ?_, ?_, ?_, ?_, ?_⟩
        · have := (hS7 noF).le; omega
        · rw [(hS7 noF).get _ (by omega) (fun h => h.elim (fun h => h) (fun h => by have := hb _ h; omega))]; exact k2
        · rw [hpn]; exact ho7
        · intro j hj; have := hb7 j hj; omega
        all_goals simp only [start, KC_normal, go_sem, Nat.reduceEqDiff, Nat.reduceAdd, reduceIte, reduceCtorEq, Nat.reduceLeDiff, Nat.reduceShiftRight, Nat.reduceAnd, Nat.reduceOr, Nat.reducePow, Nat.reduceBNe, Nat.reduceBEq, t1, t2]
        rw [e2]
    · have hi' : i = outs.length := by omega
      subst hi'
      simp only [start, KC_normal, go_sem, Nat.reduceEqDiff, Nat.reduceAdd, reduceIte, reduceCtorEq, Nat.reduceLeDiff, Nat.reduceShiftRight, Nat.reduceAnd, Nat.reduceOr, Nat.reducePow, Nat.reduceBNe, Nat.reduceBEq, t5]
      rw [List.take_length] at ho
      exact hQ H' u b hE ho fun j hj => by have := hb j hj; omega
end Go.Ab.Ex
end
section
namespace Go.Ab.Ex
open Go.Proofs
set_option maxRecDepth 10000
set_option maxHeartbeats 1000000

theorem i_andw (a b : Wd) : intOp .and .u32 (a.toNat : Int) .u32 (b.toNat : Int) = some (.int .u32 ((a &&& b).toNat : Int)) := by
  rw [i_and]
  have e : ∀ x : Wd, BitVec.ofInt 32 (x.toNat : Int) = x := fun x => by
    apply BitVec.eq_of_toNat_eq
    simp
  show some (Value.int .u32 (IntKind.u32.wrap (((BitVec.ofInt 32 (a.toNat : Int)) &&& (BitVec.ofInt 32 (b.toNat : Int))).toNat : Nat))) = _
  rw [e, e, wrap_u32]
theorem wrap_not (a : Wd) : IntKind.u32.wrap (4294967295 - (a.toNat : Int)) = ((~~~a).toNat : Int) := by
  have := a.isLt
  have e : (~~~a).toNat = 4294967295 - a.toNat := by rw [BitVec.toNat_not]
  rw [e, show (4294967295 - (a.toNat : Int)) = ((4294967295 - a.toNat : Nat) : Int) by omega]
  exact wrap_u32n (by omega)

def fnW (K : Int) (N a b c : Wd) : Wd := if K = 0 then c else if K = 1 then a &&& b else if K = 2 then a ^^^ b else if K = 3 then ~~~a else if K = 4 then shW 0 a N.toNat else if K = 5 then shW 1 a N.toNat else if K = 6 then rotW a N.toNat else if K = 7 then N else a
def opW (rs ws : List Wd) (rc : Nat) (o : OpM) : Wd := fnW o.K o.N (if 0 < takesO o.K then atW ws o.A.toNat else 0) (if 1 < takesO o.K then atW ws o.B.toNat else 0) (atW rs rc)
def stepE (rs : List Wd) (s : List Wd × Nat) (o : OpM) : List Wd × Nat := (s.1 ++ [opW rs s.1 s.2 o], s.2 + if o.K = 0 then 1 else 0)
def runE (rs : List Wd) (ops : List OpM) (s : List Wd × Nat) : List Wd × Nat := ops.foldl (stepE rs) s
def execM (inn : Nat) (ops : List OpM) (inp rs : List Wd) : List Wd := (runE rs ops (takeW inp inn, 0)).1
theorem runE_next (rs : List Wd) {ops : List OpM} {i : Nat} {o : OpM} (h : ops[i]? = some o) (s : List Wd × Nat) : runE rs (ops.take (i + 1)) s = stepE rs (runE rs (ops.take i) s) o := by
  unfold runE
  rw [take_next h, List.foldl_append]; rfl
theorem runE_len (rs : List Wd) : ∀ (ops : List OpM) (s : List Wd × Nat), (runE rs ops s).1.length = s.1.length + ops.length
  | [], s => rfl
  | o :: ops, s => by
    show (runE rs ops (stepE rs s o)).1.length = _
    rw [runE_len rs ops]
    simp only [stepE, List.length_append, List.length_cons, List.length_nil]
    omega
theorem runE_rc (rs : List Wd) : ∀ (ops : List OpM) (s : List Wd × Nat), (runE rs ops s).2 = s.2 + randoms ops
  | [], s => rfl
  | o :: ops, s => by
    show (runE rs ops (stepE rs s o)).2 = _
    rw [runE_rc rs ops]
    by_cases h : o.K = 0
    · simp only [stepE, randoms, List.countP_cons, h, decide_true, if_true]; omega
    · simp only [stepE, randoms, List.countP_cons, h, decide_false, if_false, Bool.false_eq_true]; omega
theorem takeW_next (l : List Wd) (n : Nat) : takeW l (n + 1) = takeW l n ++ [atW l n] := by
  apply List.ext_getElem?
  intro i
  rcases Nat.lt_trichotomy i n with h | h | h
  · rw [takeW_get (by omega), List.getElem?_append_left (by rw [takeW_len]; omega), takeW_get h]
  · subst h; rw [takeW_get (by omega), List.getElem?_append_right (by rw [takeW_len]; omega), takeW_len]; simp
  · rw [List.getElem?_eq_none (by rw [takeW_len]; omega), List.getElem?_eq_none (by rw [List.length_append, takeW_len, List.length_singleton]; omega)]

theorem takeW_0 (l : List Wd) : takeW l 0 = [] := List.eq_nil_of_length_eq_zero (takeW_len l 0)

theorem Own1.word {H : Heap} {v : Value} {ws : List Wd} {b : Option Nat} (ho : Own1 H 1 (ws.flatMap wordC) v ws.length b) {n : Nat} (hn : n < ws.length) :
    ∃ k, v = .slice (some ⟨k, 0, none⟩) ws.length ws.length ∧ H.get k = .cells true 1 (ws.flatMap wordC) ∧ k < H.next ∧ (ws.flatMap wordC)[n * 1]? = some (.int .u32 ((atW ws n).toNat : Int)) := by
  obtain ⟨k, rfl⟩ : ∃ k, b = some k := ho.pos (by omega)
  obtain ⟨h1, h2, h3, -⟩ := ho.at rfl
  refine ⟨k, h3, h2, h1, ?_⟩
  have e : ws[n]? = some (atW ws n) := by
    unfold atW
    rw [List.getD_eq_getElem?_getD, List.getElem?_eq_getElem hn]; rfl
  exact fm_get0 wordC_len _ n _ e (by omega)

theorem f25_c {F : Fr} {H : Heap} {v vi vr : Value} {inn : Int} {ops : List OpM} {outs : List Int} {inp rs : List Wd} (hv : CodeR F H v inn ops outs) (hok : CodeOk inn ops outs) (hol : outs.length < 1000000) (hi : Sl noF H 1 vi inp.length (inp.flatMap wordC)) (hr : Sl noF H 1 vr rs.length (rs.flatMap wordC)) (hrl : randoms ops ≤ rs.length) {Q : Ret → Heap → Prop}
    (hQ : ∀ H' u b, Ext H H' → Own1 H' 1 ((execM inn.toNat ops inp rs).flatMap wordC) u (execM inn.toNat ops inp rs).length b → (∀ j, b = some j → H.next ≤ j) → Q (.ret (.tuple #[u, .bool true])) H') : C 25 #[v, vi, vr] H Q := by
  have hv0 := hv.noF
  obtain ⟨vo, vu, rfl, hs1, hs2⟩ := hv.noF.ex
  obtain ⟨bo, cb, rfl, -, -, hoA⟩ := hs1.ex
  obtain ⟨bu, cu, rfl, -, -, huA⟩ := hs2.ex
  obtain ⟨ai, ci, rfl, -, -, hiA⟩ := hi.ex
  obtain ⟨ar, cr, rfl, -, -, hrA⟩ := hr.ex
  have hinn := hok.i
  have hopl := hok.l
  obtain ⟨M, rfl⟩ : ∃ M : Nat, inn = M := ⟨inn.toNat, by omega⟩
  rw [Int.toNat_natCast] at hQ
  refine SemC_fn TT.ok fn25 rfl rfl ?_
  simp only [Try.f25, start, KC_normal, go_sem, Nat.reduceEqDiff, Nat.reduceAdd, reduceIte, reduceCtorEq, Nat.reduceLeDiff, Nat.reduceShiftRight, Nat.reduceAnd, Nat.reduceOr, Nat.reducePow, Nat.reduceBNe, Nat.reduceBEq]
  generalize hX : (H.push _).push _ = H1
  obtain ⟨hE1, k3, k8, hn1⟩ := pre2 hX
  clear hX
  simp only [start, KC_normal, go_sem, Nat.reduceEqDiff, Nat.reduceAdd, reduceIte, reduceCtorEq, Nat.reduceLeDiff, Nat.reduceShiftRight, Nat.reduceAnd, Nat.reduceOr, Nat.reducePow, Nat.reduceBNe, Nat.reduceBEq, k3]
  refine f13_c (hv0.step hE1.step) hok hol fun H2 hE2 => ?_
  have q3 := (hE2.get _ (by omega)).trans k3
  have q8 := (hE2.get _ (by omega)).trans k8
  have hrl' : ¬ (rs.length : Int) < (randoms ops : Nat) := by omega
  simp only [start, KC_normal, go_sem, Nat.reduceEqDiff, Nat.reduceAdd, reduceIte, reduceCtorEq, Nat.reduceLeDiff, Nat.reduceShiftRight, Nat.reduceAnd, Nat.reduceOr, Nat.reducePow, Nat.reduceBNe, Nat.reduceBEq, q3]
  refine f16_c (hv0.step (hE1.trans hE2).step) (by omega) fun H3 hE3 => ?_
  have hE03 := (hE1.trans hE2).trans hE3
  have p3 := (hE3.get _ (by have := hE2.le; omega)).trans q3
  have p8 := (hE3.get _ (by have := hE2.le; omega)).trans q8
  have hle3 : H.next + 2 ≤ H3.next := by have := hE2.le; have := hE3.le; omega
  clear q3 q8 k3 k8 hn1 hE2 hE3 hE1
  simp only [start, KC_normal, go_sem, Nat.reduceEqDiff, Nat.reduceAdd, reduceIte, reduceCtorEq, Nat.reduceLeDiff, Nat.reduceShiftRight, Nat.reduceAnd, Nat.reduceOr, Nat.reducePow, Nat.reduceBNe, Nat.reduceBEq, hrl']
  refine wp_loop TT.ok rfl rfl (fun j st => ∃ tm H' i u b, st = ⟨tm, 136, [], false, H'⟩ ∧ j = M - i ∧ i ≤ M ∧ Ext H H' ∧ H.next < H'.next ∧ H'.get H.next = .cells true 3 [.int .i64 (M : Nat), .slice bo ops.length cb, .slice bu outs.length cu] ∧
    Own1 H' 1 ((takeW inp i).flatMap wordC) u (takeW inp i).length b ∧ (∀ j, b = some j → H.next < j) ∧
    tm.get 1 = some (.slice ai inp.length ci) ∧ tm.get 2 = some (.slice ar rs.length cr) ∧ tm.get 3 = some (.pointer (some ⟨H.next, 0, none⟩)) ∧ tm.get 8 = some u ∧ tm.get 9 = some (.int .i64 0) ∧ tm.get 10 = some (.int .i64 (i : Nat))) M ?_ ?_
  · refine ⟨_, H3, 0, .slice (some ⟨H.next + 1, 0, none⟩) 0 0, some (H.next + 1), rfl, rfl, Nat.zero_le _, hE03, by omega, p3, (by rw [takeW_0]; exact .blk _ 0 (by omega) p8 rfl), (fun j hj => by cases hj; omega), ?_, ?_, ?_, ?_, ?_, ?_⟩
    all_goals simp only [start, KC_normal, go_sem, Nat.reduceEqDiff, Nat.reduceAdd, reduceIte, reduceCtorEq, Nat.reduceLeDiff, Nat.reduceShiftRight, Nat.reduceAnd, Nat.reduceOr, Nat.reducePow, Nat.reduceBNe, Nat.reduceBEq]
    rfl
  · clear p3 p8 hE03 hle3
    rintro j st - ⟨tm, H', i, u, b, rfl, hj, hi', hE, hle, k3, ho, hb, t1, t2, t3, t8, t9, t10⟩
    simp only [start, KC_normal, go_sem, Nat.reduceEqDiff, Nat.reduceAdd, reduceIte, reduceCtorEq, Nat.reduceLeDiff, Nat.reduceShiftRight, Nat.reduceAnd, Nat.reduceOr, Nat.reducePow, Nat.reduceBNe, Nat.reduceBEq, t3, t10, k3]
    refine CN_split (fun hlt => ?_) (fun hge => ?_)
    · have e2 : IntKind.i64.wrap ((i : Int) + 1) = ((i + 1 : Nat) : Int) := by rw [wrap_i64 _ (by omega) (by omega)]; rfl
      obtain ⟨v7, H7, b7, he7, ho7, hS7, hb7⟩ := app1_wd ho (by rw [takeW_len]; omega) (atW inp i)
      have fin : ∃ j', j = j' + 1 ∧ ∀ tm' : Tr Value, tm'.get 1 = some (.slice ai inp.length ci) → tm'.get 2 = some (.slice ar rs.length cr) → tm'.get 3 = some (.pointer (some ⟨H.next, 0, none⟩)) → tm'.get 8 = some v7 → tm'.get 9 = some (.int .i64 0) → tm'.get 10 = some (.int .i64 ((i + 1 : Nat) : Int)) →
          ∃ tm H' i u b, (⟨tm', 136, [], false, H7⟩ : St) = ⟨tm, 136, [], false, H'⟩ ∧ j' = M - i ∧ i ≤ M ∧ Ext H H' ∧ H.next < H'.next ∧ H'.get H.next = .cells true 3 [.int .i64 (M : Nat), .slice bo ops.length cb, .slice bu outs.length cu] ∧
          Own1 H' 1 ((takeW inp i).flatMap wordC) u (takeW inp i).length b ∧ (∀ j, b = some j → H.next < j) ∧
          tm.get 1 = some (.slice ai inp.length ci) ∧ tm.get 2 = some (.slice ar rs.length cr) ∧ tm.get 3 = some (.pointer (some ⟨H.next, 0, none⟩)) ∧ tm.get 8 = some u ∧ tm.get 9 = some (.int .i64 0) ∧ tm.get 10 = some (.int .i64 (i : Nat)) := by
        refine ⟨M - (i + 1), by omega, fun tm' g1 g2 g3 g8 g9 g10 => ⟨tm', H7, i + 1, v7, b7, rfl, rfl, by omega, hE.app hS7 (fun j hj => by have := hb j hj; omega), ?_, ?_, ?_, ?_, g1, g2, g3, g8, g9, g10⟩⟩
        · have := (hS7 noF).le; omega
        · rw [(hS7 noF).get _ (by omega) (fun h => h.elim (fun h => h) (fun h => by have := hb _ h; omega))]; exact k3
        · rw [takeW_next]; exact ho7
        · intro j hj; have := hb7 j hj; omega
      obtain ⟨j', hj', fin⟩ := fin
      by_cases hil : (i : Int) < (inp.length : Nat)
      · have hil' : i < inp.length := by omega
        have ea : inp[i]? = some inp[i] := by simp [hil']
        have eaw : atW inp i = inp[i] := by unfold atW; rw [List.getD_eq_getElem?_getD, ea]; rfl
        obtain ⟨k, o, own, Ca, rfl, hk, hc, -⟩ := hiA.at wordC_len ea
        have hc := hc 0 (by omega)
        simp only [wordC, Nat.add_zero, List.getElem?_cons_zero] at hc
        rw [eaw] at he7
        simp only [wordC] at he7
        simp only [start, KC_normal, go_sem, Nat.reduceEqDiff, Nat.reduceAdd, reduceIte, reduceCtorEq, Nat.reduceLeDiff, Nat.reduceShiftRight, Nat.reduceAnd, Nat.reduceOr, Nat.reducePow, Nat.reduceBNe, Nat.reduceBEq, t1, t8, t10, hil, ia_in _ _ _ _ _ hil', (hk.step hE.step).get, hc, he7]
        refine ⟨j', hj', fin _ ?_ ?_ ?_ ?_ ?_ ?_⟩
        all_goals simp only [start, KC_normal, go_sem, Nat.reduceEqDiff, Nat.reduceAdd, reduceIte, reduceCtorEq, Nat.reduceLeDiff, Nat.reduceShiftRight, Nat.reduceAnd, Nat.reduceOr, Nat.reducePow, Nat.reduceBNe, Nat.reduceBEq, t1, t2, t3, t9]
        rw [e2]
      · have eaw : atW inp i = 0 := by unfold atW; rw [List.getD_eq_getElem?_getD, List.getElem?_eq_none (by omega)]; rfl
        rw [eaw] at he7
        have he7 : appendC TT (H'.push (.cells true 1 [.int .u32 0])) #[43, 43] u (.slice (some ⟨H'.next, 0, none⟩) 1 1) = some (.val v7 H7) := he7
        simp only [start, KC_normal, go_sem, Nat.reduceEqDiff, Nat.reduceAdd, reduceIte, reduceCtorEq, Nat.reduceLeDiff, Nat.reduceShiftRight, Nat.reduceAnd, Nat.reduceOr, Nat.reducePow, Nat.reduceBNe, Nat.reduceBEq, t1, t8, t10, hil, he7]
        refine ⟨j', hj', fin _ ?_ ?_ ?_ ?_ ?_ ?_⟩
        all_goals simp only [start, KC_normal, go_sem, Nat.reduceEqDiff, Nat.reduceAdd, reduceIte, reduceCtorEq, Nat.reduceLeDiff, Nat.reduceShiftRight, Nat.reduceAnd, Nat.reduceOr, Nat.reducePow, Nat.reduceBNe, Nat.reduceBEq, t1, t2, t3, t9]
        rw [e2]
    · have hiM : i = M := by omega
      subst hiM
      simp only [start, KC_normal, go_sem, Nat.reduceEqDiff, Nat.reduceAdd, reduceIte, reduceCtorEq, Nat.reduceLeDiff, Nat.reduceShiftRight, Nat.reduceAnd, Nat.reduceOr, Nat.reducePow, Nat.reduceBNe, Nat.reduceBEq]
      -- the steps
      refine wp_loop TT.ok rfl rfl (fun j st => ∃ tm H' q u b, st = ⟨tm, 136, [], false, H'⟩ ∧ j = ops.length - q ∧ q ≤ ops.length ∧ Ext H H' ∧ H.next < H'.next ∧ H'.get H.next = .cells true 3 [.int .i64 (i : Nat), .slice bo ops.length cb, .slice bu outs.length cu] ∧
        Own1 H' 1 ((runE rs (ops.take q) (takeW inp i, 0)).1.flatMap wordC) u (runE rs (ops.take q) (takeW inp i, 0)).1.length b ∧ (∀ j, b = some j → H.next < j) ∧
        tm.get 2 = some (.slice ar rs.length cr) ∧ tm.get 3 = some (.pointer (some ⟨H.next, 0, none⟩)) ∧ tm.get 8 = some u ∧ tm.get 9 = some (.int .i64 (randoms (ops.take q) : Nat)) ∧ tm.get 11 = some (.int .i64 (q : Nat))) ops.length ?_ ?_
      · refine ⟨_, H', 0, u, b, rfl, rfl, Nat.zero_le _, hE, hle, k3, ho, hb, ?_, ?_, ?_, ?_, ?_⟩
        all_goals simp only [start, KC_normal, go_sem, Nat.reduceEqDiff, Nat.reduceAdd, reduceIte, reduceCtorEq, Nat.reduceLeDiff, Nat.reduceShiftRight, Nat.reduceAnd, Nat.reduceOr, Nat.reducePow, Nat.reduceBNe, Nat.reduceBEq, t2, t3, t8, t9]
        all_goals rfl
      · clear k3 ho hb hE hle t1 t2 t3 t8 t9 t10
        rintro j st - ⟨tm, H', q, u, b, rfl, hj, hq, hE, hle, k3, ho, hb, t2, t3, t8, t9, t11⟩
        simp only [start, KC_normal, go_sem, Nat.reduceEqDiff, Nat.reduceAdd, reduceIte, reduceCtorEq, Nat.reduceLeDiff, Nat.reduceShiftRight, Nat.reduceAnd, Nat.reduceOr, Nat.reducePow, Nat.reduceBNe, Nat.reduceBEq, t3, t11, k3]
        refine CN_split (fun hlt => ?_) (fun hge => ?_)
        · have hlt' : q < ops.length := by omega
          obtain ⟨x, hx⟩ : ∃ x, ops[q]? = some x := ⟨_, List.getElem?_eq_getElem hlt'⟩
          obtain ⟨bg, og, owg, Cg, rfl, hkg, hCg⟩ := hoA.all OpM.len (by omega)
          have hseg := (hCg q x hx).2
          simp only [OpM.c] at hseg
          have hkg' := hkg.step hE.step
          have hfit := hok.p q x hx
          have hlen : (runE rs (ops.take q) (takeW inp i, 0)).1.length = i + q := by rw [runE_len, takeW_len, List.length_take]; omega
          have hrn := randoms_take hx
          have hrc : (runE rs (ops.take q) (takeW inp i, 0)).2 = randoms (ops.take q) := by rw [runE_rc]; omega
          have hnx := runE_next rs hx (takeW inp i, 0)
          generalize hws : (runE rs (ops.take q) (takeW inp i, 0)).1 = ws at *
          have e2 : IntKind.i64.wrap ((q : Int) + 1) = ((q + 1 : Nat) : Int) := by rw [wrap_i64 _ (by omega) (by omega)]; rfl
          have hrle : randoms (ops.take (q + 1)) ≤ randoms ops := by
            unfold randoms
            exact List.Sublist.countP_le (List.take_sublist _ _)
          simp only [start, KC_normal, go_sem, Nat.reduceEqDiff, Nat.reduceAdd, reduceIte, reduceCtorEq, Nat.reduceLeDiff, Nat.reduceShiftRight, Nat.reduceAnd, Nat.reduceOr, Nat.reducePow, Nat.reduceBNe, Nat.reduceBEq, t3, t11, k3, ia_in _ _ _ _ _ hlt', hkg'.get, hseg]
          generalize hX : (H'.push _).put _ _ = H5
          obtain ⟨hE5, hbx, hn5⟩ := new_put hX
          clear hX
          have hE05 := hE.trans hE5
          have k35 := (hE5.get _ hle).trans k3
          have ho5 := ho.ext hE5
          -- what comes last
          have fin : ∀ (H6 : Heap) (w : Wd) (rc : Nat), Ext H5 H6 → w = opW rs ws (randoms (ops.take q)) x → rc = randoms (ops.take (q + 1)) → ∃ v7 H7, appendC TT (H6.push (.cells true 1 [.int .u32 (w.toNat : Int)])) #[43, 43] u (.slice (some ⟨H6.next, 0, none⟩) 1 1) = some (.val v7 H7) ∧
              ∃ j', j = j' + 1 ∧ ∀ tm' : Tr Value, tm'.get 2 = some (.slice ar rs.length cr) → tm'.get 3 = some (.pointer (some ⟨H.next, 0, none⟩)) → tm'.get 8 = some v7 → tm'.get 9 = some (.int .i64 (rc : Nat)) → tm'.get 11 = some (.int .i64 ((q + 1 : Nat) : Int)) →
              ∃ tm H' q u b, (⟨tm', 136, [], false, H7⟩ : St) = ⟨tm, 136, [], false, H'⟩ ∧ j' = ops.length - q ∧ q ≤ ops.length ∧ Ext H H' ∧ H.next < H'.next ∧ H'.get H.next = .cells true 3 [.int .i64 (i : Nat), .slice (some ⟨bg, og, none⟩) ops.length cb, .slice bu outs.length cu] ∧
              Own1 H' 1 ((runE rs (ops.take q) (takeW inp i, 0)).1.flatMap wordC) u (runE rs (ops.take q) (takeW inp i, 0)).1.length b ∧ (∀ j, b = some j → H.next < j) ∧
              tm.get 2 = some (.slice ar rs.length cr) ∧ tm.get 3 = some (.pointer (some ⟨H.next, 0, none⟩)) ∧ tm.get 8 = some u ∧ tm.get 9 = some (.int .i64 (randoms (ops.take q) : Nat)) ∧ tm.get 11 = some (.int .i64 (q : Nat)) := by
            intro H6 w rc hE6 hw hrcc
            obtain ⟨v7, H7, b7, he7, ho7, hS7, hb7⟩ := app1_wd (ho5.ext hE6) (by omega) w
            refine ⟨v7, H7, he7, ops.length - (q + 1), by omega, fun tm' g2 g3 g8 g9 g11 => ⟨tm', H7, q + 1, v7, b7, rfl, rfl, by omega, (hE05.trans hE6).app hS7 (fun j hj => by have := hb j hj; omega), ?_, ?_, ?_, ?_, g2, g3, g8, by rw [← hrcc]; exact g9, g11⟩⟩
            · have := (hS7 noF).le; have := hE6.le; omega
            · rw [(hS7 noF).get _ (by have := hE6.le; omega) (fun h => h.elim (fun h => h) (fun h => by have := hb _ h; omega)), hE6.get _ (by omega)]; exact k35
            · rw [hnx]
              simp only [stepE, hws, hrc]
              rw [← hw]
              exact ho7
            · intro j hj; have := hb7 j hj; have := hE6.le; omega
          have hrb : randoms (ops.take q) ≤ 60000 := Nat.le_trans (List.countP_le_length) (by rw [List.length_take]; omega)
          clear hnx hws hrc ho hkg' hE5 hn5
          have hK := hfit.2.1
          have hK0 := hfit.1
          have hc9 : x.K = 0 ∨ x.K = 1 ∨ x.K = 2 ∨ x.K = 3 ∨ x.K = 4 ∨ x.K = 5 ∨ x.K = 6 ∨ x.K = 7 ∨ x.K = 8 := by omega
          have hN31 := hfit.2.2.2.2.2.2.1
          have hA0 := hfit.2.2.2.2.1
          have hB0 := hfit.2.2.2.2.2.1
          rcases hc9 with hK | hK | hK | hK | hK | hK | hK | hK | hK
          · have htk : takesO x.K = 0 := by rw [hK]; rfl
            rw [htk] at hA0 hB0
            have hop : opW rs ws (randoms (ops.take q)) x = atW rs (randoms (ops.take q)) := by unfold opW fnW; rw [htk, hK]; rfl
            have hrq : randoms (ops.take q) < rs.length := by rw [if_pos hK] at hrn; omega
            have er : rs[randoms (ops.take q)]? = some rs[randoms (ops.take q)] := by simp [hrq]
            have ear : atW rs (randoms (ops.take q)) = rs[randoms (ops.take q)] := by unfold atW; rw [List.getD_eq_getElem?_getD, er]; rfl
            obtain ⟨kr, orr, owr, Cr, rfl, hkr, hcr, -⟩ := hrA.at wordC_len er
            have hcr := hcr 0 (by omega)
            rw [← ear] at hcr
            simp only [wordC, Nat.add_zero, List.getElem?_cons_zero] at hcr
            have e3 : IntKind.i64.wrap ((randoms (ops.take q) : Int) + 1) = ((randoms (ops.take q) + 1 : Nat) : Int) := by rw [wrap_i64 _ (by omega) (by omega)]; rfl
            refine f32_c fun r hr => ?_
            obtain rfl : r = 0 := by rw [hr]; first | rfl | (rw [hK]; rfl)
            simp only [start, KC_normal, go_sem, Nat.reduceEqDiff, Nat.reduceAdd, reduceIte, reduceCtorEq, Nat.reduceLeDiff, Nat.reduceShiftRight, Nat.reduceAnd, Nat.reduceOr, Nat.reducePow, Nat.reduceBNe, Nat.reduceBEq, hbx, hK, t2, t3, t8, t9, t11, ia_in _ _ _ _ _ hrq, (hkr.step hE05.step).get, hcr, e3, Int.reduceEq, Int.reduceLT]
            refine f32_c fun r hr => ?_
            obtain rfl : r = 0 := by rw [hr]; first | rfl | (rw [hK]; rfl)
            obtain ⟨v7, H7, he7, j', hj', fin⟩ := fin H5 (atW rs (randoms (ops.take q))) (randoms (ops.take q) + 1) (Ext.refl H5) hop.symm (by rw [hrn, if_pos hK])
            have he7' := he7
            simp only [start, KC_normal, go_sem, Nat.reduceEqDiff, Nat.reduceAdd, reduceIte, reduceCtorEq, Nat.reduceLeDiff, Nat.reduceShiftRight, Nat.reduceAnd, Nat.reduceOr, Nat.reducePow, Nat.reduceBNe, Nat.reduceBEq, hbx, hK, t2, t3, t8, t9, t11, ia_in _ _ _ _ _ hrq, (hkr.step hE05.step).get, hcr, e3, Int.reduceEq, Int.reduceLT, he7']
            refine ⟨j', hj', fin _ ?_ ?_ ?_ ?_ ?_⟩
            all_goals simp only [start, KC_normal, go_sem, Nat.reduceEqDiff, Nat.reduceAdd, reduceIte, reduceCtorEq, Nat.reduceLeDiff, Nat.reduceShiftRight, Nat.reduceAnd, Nat.reduceOr, Nat.reducePow, Nat.reduceBNe, Nat.reduceBEq, t2, t3, t9]
            rw [e2]
          · have htk : takesO x.K = 2 := by rw [hK]; rfl
            rw [htk] at hA0 hB0
            have hA := hA0 (by omega)
            have hAl : x.A < (ws.length : Int) := by omega
            obtain ⟨kw, hu, hgw, hkw, hcA⟩ := Ex.Own1.word ho5 (n := x.A.toNat) (by omega)
            have hB := hB0 (by omega)
            have hBl : x.B < (ws.length : Int) := by omega
            obtain ⟨kw', hu', hgw', hkw', hcB⟩ := Ex.Own1.word ho5 (n := x.B.toNat) (by omega)
            rw [hu] at hu'
            cases hu'
            have hop : opW rs ws (randoms (ops.take q)) x = atW ws x.A.toNat &&& atW ws x.B.toNat := by unfold opW fnW; rw [htk, hK]; rfl
            refine f32_c fun r hr => ?_
            obtain rfl : r = 2 := by rw [hr]; first | rfl | (rw [hK]; rfl)
            simp only [start, KC_normal, go_sem, Nat.reduceEqDiff, Nat.reduceAdd, reduceIte, reduceCtorEq, Nat.reduceLeDiff, Nat.reduceShiftRight, Nat.reduceAnd, Nat.reduceOr, Nat.reducePow, Nat.reduceBNe, Nat.reduceBEq, hbx, hK, t2, t3, t8, hu, t9, t11, ia_int _ _ _ _ _ hA.1 hAl, hgw, hcA, ia_int _ _ _ _ _ hB.1 hBl, hcB, i_andw, Int.reduceEq, Int.reduceLT]
            refine f32_c fun r hr => ?_
            obtain rfl : r = 2 := by rw [hr]; first | rfl | (rw [hK]; rfl)
            obtain ⟨v7, H7, he7, j', hj', fin⟩ := fin H5 (atW ws x.A.toNat &&& atW ws x.B.toNat) (randoms (ops.take q)) (Ext.refl H5) hop.symm (by rw [hrn, if_neg (by rw [hK]; decide), Nat.add_zero])
            have he7' := he7
            rw [hu] at he7'
            simp only [start, KC_normal, go_sem, Nat.reduceEqDiff, Nat.reduceAdd, reduceIte, reduceCtorEq, Nat.reduceLeDiff, Nat.reduceShiftRight, Nat.reduceAnd, Nat.reduceOr, Nat.reducePow, Nat.reduceBNe, Nat.reduceBEq, hbx, hK, t2, t3, t8, hu, t9, t11, ia_int _ _ _ _ _ hA.1 hAl, hgw, hcA, ia_int _ _ _ _ _ hB.1 hBl, hcB, i_andw, Int.reduceEq, Int.reduceLT, he7']
            refine ⟨j', hj', fin _ ?_ ?_ ?_ ?_ ?_⟩
            all_goals simp only [start, KC_normal, go_sem, Nat.reduceEqDiff, Nat.reduceAdd, reduceIte, reduceCtorEq, Nat.reduceLeDiff, Nat.reduceShiftRight, Nat.reduceAnd, Nat.reduceOr, Nat.reducePow, Nat.reduceBNe, Nat.reduceBEq, t2, t3, t9]
            rw [e2]
          · have htk : takesO x.K = 2 := by rw [hK]; rfl
            rw [htk] at hA0 hB0
            have hA := hA0 (by omega)
            have hAl : x.A < (ws.length : Int) := by omega
            obtain ⟨kw, hu, hgw, hkw, hcA⟩ := Ex.Own1.word ho5 (n := x.A.toNat) (by omega)
            have hB := hB0 (by omega)
            have hBl : x.B < (ws.length : Int) := by omega
            obtain ⟨kw', hu', hgw', hkw', hcB⟩ := Ex.Own1.word ho5 (n := x.B.toNat) (by omega)
            rw [hu] at hu'
            cases hu'
            have hop : opW rs ws (randoms (ops.take q)) x = atW ws x.A.toNat ^^^ atW ws x.B.toNat := by unfold opW fnW; rw [htk, hK]; rfl
            refine f32_c fun r hr => ?_
            obtain rfl : r = 2 := by rw [hr]; first | rfl | (rw [hK]; rfl)
            simp only [start, KC_normal, go_sem, Nat.reduceEqDiff, Nat.reduceAdd, reduceIte, reduceCtorEq, Nat.reduceLeDiff, Nat.reduceShiftRight, Nat.reduceAnd, Nat.reduceOr, Nat.reducePow, Nat.reduceBNe, Nat.reduceBEq, hbx, hK, t2, t3, t8, hu, t9, t11, ia_int _ _ _ _ _ hA.1 hAl, hgw, hcA, ia_int _ _ _ _ _ hB.1 hBl, hcB, i_xorw, Int.reduceEq, Int.reduceLT]
            refine f32_c fun r hr => ?_
            obtain rfl : r = 2 := by rw [hr]; first | rfl | (rw [hK]; rfl)
            obtain ⟨v7, H7, he7, j', hj', fin⟩ := fin H5 (atW ws x.A.toNat ^^^ atW ws x.B.toNat) (randoms (ops.take q)) (Ext.refl H5) hop.symm (by rw [hrn, if_neg (by rw [hK]; decide), Nat.add_zero])
            have he7' := he7
            rw [hu] at he7'
            simp only [start, KC_normal, go_sem, Nat.reduceEqDiff, Nat.reduceAdd, reduceIte, reduceCtorEq, Nat.reduceLeDiff, Nat.reduceShiftRight, Nat.reduceAnd, Nat.reduceOr, Nat.reducePow, Nat.reduceBNe, Nat.reduceBEq, hbx, hK, t2, t3, t8, hu, t9, t11, ia_int _ _ _ _ _ hA.1 hAl, hgw, hcA, ia_int _ _ _ _ _ hB.1 hBl, hcB, i_xorw, Int.reduceEq, Int.reduceLT, he7']
            refine ⟨j', hj', fin _ ?_ ?_ ?_ ?_ ?_⟩
            all_goals simp only [start, KC_normal, go_sem, Nat.reduceEqDiff, Nat.reduceAdd, reduceIte, reduceCtorEq, Nat.reduceLeDiff, Nat.reduceShiftRight, Nat.reduceAnd, Nat.reduceOr, Nat.reducePow, Nat.reduceBNe, Nat.reduceBEq, t2, t3, t9]
            rw [e2]
          · have htk : takesO x.K = 1 := by rw [hK]; rfl
            rw [htk] at hA0 hB0
            have hA := hA0 (by omega)
            have hAl : x.A < (ws.length : Int) := by omega
            obtain ⟨kw, hu, hgw, hkw, hcA⟩ := Ex.Own1.word ho5 (n := x.A.toNat) (by omega)
            have hop : opW rs ws (randoms (ops.take q)) x = ~~~(atW ws x.A.toNat) := by unfold opW fnW; rw [htk, hK]; rfl
            refine f32_c fun r hr => ?_
            obtain rfl : r = 1 := by rw [hr]; first | rfl | (rw [hK]; rfl)
            simp only [start, KC_normal, go_sem, Nat.reduceEqDiff, Nat.reduceAdd, reduceIte, reduceCtorEq, Nat.reduceLeDiff, Nat.reduceShiftRight, Nat.reduceAnd, Nat.reduceOr, Nat.reducePow, Nat.reduceBNe, Nat.reduceBEq, hbx, hK, t2, t3, t8, hu, t9, t11, ia_int _ _ _ _ _ hA.1 hAl, hgw, hcA, wrap_not, Int.reduceEq, Int.reduceLT]
            refine f32_c fun r hr => ?_
            obtain rfl : r = 1 := by rw [hr]; first | rfl | (rw [hK]; rfl)
            obtain ⟨v7, H7, he7, j', hj', fin⟩ := fin H5 (~~~(atW ws x.A.toNat)) (randoms (ops.take q)) (Ext.refl H5) hop.symm (by rw [hrn, if_neg (by rw [hK]; decide), Nat.add_zero])
            have he7' := he7
            rw [hu] at he7'
            simp only [start, KC_normal, go_sem, Nat.reduceEqDiff, Nat.reduceAdd, reduceIte, reduceCtorEq, Nat.reduceLeDiff, Nat.reduceShiftRight, Nat.reduceAnd, Nat.reduceOr, Nat.reducePow, Nat.reduceBNe, Nat.reduceBEq, hbx, hK, t2, t3, t8, hu, t9, t11, ia_int _ _ _ _ _ hA.1 hAl, hgw, hcA, wrap_not, Int.reduceEq, Int.reduceLT, he7']
            refine ⟨j', hj', fin _ ?_ ?_ ?_ ?_ ?_⟩
            all_goals simp only [start, KC_normal, go_sem, Nat.reduceEqDiff, Nat.reduceAdd, reduceIte, reduceCtorEq, Nat.reduceLeDiff, Nat.reduceShiftRight, Nat.reduceAnd, Nat.reduceOr, Nat.reducePow, Nat.reduceBNe, Nat.reduceBEq, t2, t3, t9]
            rw [e2]
          · have htk : takesO x.K = 1 := by rw [hK]; rfl
            rw [htk] at hA0 hB0
            have hA := hA0 (by omega)
            have hAl : x.A < (ws.length : Int) := by omega
            obtain ⟨kw, hu, hgw, hkw, hcA⟩ := Ex.Own1.word ho5 (n := x.A.toNat) (by omega)
            have hop : opW rs ws (randoms (ops.take q)) x = shW 0 (atW ws x.A.toNat) x.N.toNat := by unfold opW fnW; rw [htk, hK]; rfl
            refine f32_c fun r hr => ?_
            obtain rfl : r = 1 := by rw [hr]; first | rfl | (rw [hK]; rfl)
            simp only [start, KC_normal, go_sem, Nat.reduceEqDiff, Nat.reduceAdd, reduceIte, reduceCtorEq, Nat.reduceLeDiff, Nat.reduceShiftRight, Nat.reduceAnd, Nat.reduceOr, Nat.reducePow, Nat.reduceBNe, Nat.reduceBEq, hbx, hK, t2, t3, t8, hu, t9, t11, ia_int _ _ _ _ _ hA.1 hAl, hgw, hcA, Int.reduceEq, Int.reduceLT]
            refine f32_c fun r hr => ?_
            obtain rfl : r = 1 := by rw [hr]; first | rfl | (rw [hK]; rfl)
            simp only [start, KC_normal, go_sem, Nat.reduceEqDiff, Nat.reduceAdd, reduceIte, reduceCtorEq, Nat.reduceLeDiff, Nat.reduceShiftRight, Nat.reduceAnd, Nat.reduceOr, Nat.reducePow, Nat.reduceBNe, Nat.reduceBEq, hbx, hK, t2, t3, t8, hu, t9, t11, ia_int _ _ _ _ _ hA.1 hAl, hgw, hcA, Int.reduceEq, Int.reduceLT]
            refine f41_c (op := 0) (.inl rfl) (by have := hN31 (by omega); omega) fun H6 cc hE6 => ?_
            obtain ⟨v7, H7, he7, j', hj', fin⟩ := fin H6 (shW 0 (atW ws x.A.toNat) x.N.toNat) (randoms (ops.take q)) hE6 hop.symm (by rw [hrn, if_neg (by rw [hK]; decide), Nat.add_zero])
            have he7' := he7
            rw [hu] at he7'
            simp only [start, KC_normal, go_sem, Nat.reduceEqDiff, Nat.reduceAdd, reduceIte, reduceCtorEq, Nat.reduceLeDiff, Nat.reduceShiftRight, Nat.reduceAnd, Nat.reduceOr, Nat.reducePow, Nat.reduceBNe, Nat.reduceBEq, t2, t3, t8, hu, t9, t11, he7']
            refine ⟨j', hj', fin _ ?_ ?_ ?_ ?_ ?_⟩
            all_goals simp only [start, KC_normal, go_sem, Nat.reduceEqDiff, Nat.reduceAdd, reduceIte, reduceCtorEq, Nat.reduceLeDiff, Nat.reduceShiftRight, Nat.reduceAnd, Nat.reduceOr, Nat.reducePow, Nat.reduceBNe, Nat.reduceBEq, t2, t3, t9]
            rw [e2]
          · have htk : takesO x.K = 1 := by rw [hK]; rfl
            rw [htk] at hA0 hB0
            have hA := hA0 (by omega)
            have hAl : x.A < (ws.length : Int) := by omega
            obtain ⟨kw, hu, hgw, hkw, hcA⟩ := Ex.Own1.word ho5 (n := x.A.toNat) (by omega)
            have hop : opW rs ws (randoms (ops.take q)) x = shW 1 (atW ws x.A.toNat) x.N.toNat := by unfold opW fnW; rw [htk, hK]; rfl
            refine f32_c fun r hr => ?_
            obtain rfl : r = 1 := by rw [hr]; first | rfl | (rw [hK]; rfl)
            simp only [start, KC_normal, go_sem, Nat.reduceEqDiff, Nat.reduceAdd, reduceIte, reduceCtorEq, Nat.reduceLeDiff, Nat.reduceShiftRight, Nat.reduceAnd, Nat.reduceOr, Nat.reducePow, Nat.reduceBNe, Nat.reduceBEq, hbx, hK, t2, t3, t8, hu, t9, t11, ia_int _ _ _ _ _ hA.1 hAl, hgw, hcA, Int.reduceEq, Int.reduceLT]
            refine f32_c fun r hr => ?_
            obtain rfl : r = 1 := by rw [hr]; first | rfl | (rw [hK]; rfl)
            simp only [start, KC_normal, go_sem, Nat.reduceEqDiff, Nat.reduceAdd, reduceIte, reduceCtorEq, Nat.reduceLeDiff, Nat.reduceShiftRight, Nat.reduceAnd, Nat.reduceOr, Nat.reducePow, Nat.reduceBNe, Nat.reduceBEq, hbx, hK, t2, t3, t8, hu, t9, t11, ia_int _ _ _ _ _ hA.1 hAl, hgw, hcA, Int.reduceEq, Int.reduceLT]
            refine f41_c (op := 1) (.inr rfl) (by have := hN31 (by omega); omega) fun H6 cc hE6 => ?_
            obtain ⟨v7, H7, he7, j', hj', fin⟩ := fin H6 (shW 1 (atW ws x.A.toNat) x.N.toNat) (randoms (ops.take q)) hE6 hop.symm (by rw [hrn, if_neg (by rw [hK]; decide), Nat.add_zero])
            have he7' := he7
            rw [hu] at he7'
            simp only [start, KC_normal, go_sem, Nat.reduceEqDiff, Nat.reduceAdd, reduceIte, reduceCtorEq, Nat.reduceLeDiff, Nat.reduceShiftRight, Nat.reduceAnd, Nat.reduceOr, Nat.reducePow, Nat.reduceBNe, Nat.reduceBEq, t2, t3, t8, hu, t9, t11, he7']
            refine ⟨j', hj', fin _ ?_ ?_ ?_ ?_ ?_⟩
            all_goals simp only [start, KC_normal, go_sem, Nat.reduceEqDiff, Nat.reduceAdd, reduceIte, reduceCtorEq, Nat.reduceLeDiff, Nat.reduceShiftRight, Nat.reduceAnd, Nat.reduceOr, Nat.reducePow, Nat.reduceBNe, Nat.reduceBEq, t2, t3, t9]
            rw [e2]
          · have htk : takesO x.K = 1 := by rw [hK]; rfl
            rw [htk] at hA0 hB0
            have hA := hA0 (by omega)
            have hAl : x.A < (ws.length : Int) := by omega
            obtain ⟨kw, hu, hgw, hkw, hcA⟩ := Ex.Own1.word ho5 (n := x.A.toNat) (by omega)
            have hop : opW rs ws (randoms (ops.take q)) x = rotW (atW ws x.A.toNat) x.N.toNat := by unfold opW fnW; rw [htk, hK]; rfl
            refine f32_c fun r hr => ?_
            obtain rfl : r = 1 := by rw [hr]; first | rfl | (rw [hK]; rfl)
            simp only [start, KC_normal, go_sem, Nat.reduceEqDiff, Nat.reduceAdd, reduceIte, reduceCtorEq, Nat.reduceLeDiff, Nat.reduceShiftRight, Nat.reduceAnd, Nat.reduceOr, Nat.reducePow, Nat.reduceBNe, Nat.reduceBEq, hbx, hK, t2, t3, t8, hu, t9, t11, ia_int _ _ _ _ _ hA.1 hAl, hgw, hcA, Int.reduceEq, Int.reduceLT]
            refine f32_c fun r hr => ?_
            obtain rfl : r = 1 := by rw [hr]; first | rfl | (rw [hK]; rfl)
            simp only [start, KC_normal, go_sem, Nat.reduceEqDiff, Nat.reduceAdd, reduceIte, reduceCtorEq, Nat.reduceLeDiff, Nat.reduceShiftRight, Nat.reduceAnd, Nat.reduceOr, Nat.reducePow, Nat.reduceBNe, Nat.reduceBEq, hbx, hK, t2, t3, t8, hu, t9, t11, ia_int _ _ _ _ _ hA.1 hAl, hgw, hcA, Int.reduceEq, Int.reduceLT]
            refine f42_c (by have := hN31 (by omega); omega) fun H6 hE6 => ?_
            obtain ⟨v7, H7, he7, j', hj', fin⟩ := fin H6 (rotW (atW ws x.A.toNat) x.N.toNat) (randoms (ops.take q)) hE6 hop.symm (by rw [hrn, if_neg (by rw [hK]; decide), Nat.add_zero])
            have he7' := he7
            rw [hu] at he7'
            simp only [start, KC_normal, go_sem, Nat.reduceEqDiff, Nat.reduceAdd, reduceIte, reduceCtorEq, Nat.reduceLeDiff, Nat.reduceShiftRight, Nat.reduceAnd, Nat.reduceOr, Nat.reducePow, Nat.reduceBNe, Nat.reduceBEq, t2, t3, t8, hu, t9, t11, he7']
            refine ⟨j', hj', fin _ ?_ ?_ ?_ ?_ ?_⟩
            all_goals simp only [start, KC_normal, go_sem, Nat.reduceEqDiff, Nat.reduceAdd, reduceIte, reduceCtorEq, Nat.reduceLeDiff, Nat.reduceShiftRight, Nat.reduceAnd, Nat.reduceOr, Nat.reducePow, Nat.reduceBNe, Nat.reduceBEq, t2, t3, t9]
            rw [e2]
          · have htk : takesO x.K = 0 := by rw [hK]; rfl
            rw [htk] at hA0 hB0
            have hop : opW rs ws (randoms (ops.take q)) x = x.N := by unfold opW fnW; rw [htk, hK]; rfl
            refine f32_c fun r hr => ?_
            obtain rfl : r = 0 := by rw [hr]; first | rfl | (rw [hK]; rfl)
            simp only [start, KC_normal, go_sem, Nat.reduceEqDiff, Nat.reduceAdd, reduceIte, reduceCtorEq, Nat.reduceLeDiff, Nat.reduceShiftRight, Nat.reduceAnd, Nat.reduceOr, Nat.reducePow, Nat.reduceBNe, Nat.reduceBEq, hbx, hK, t2, t3, t8, t9, t11, Int.reduceEq, Int.reduceLT]
            refine f32_c fun r hr => ?_
            obtain rfl : r = 0 := by rw [hr]; first | rfl | (rw [hK]; rfl)
            obtain ⟨v7, H7, he7, j', hj', fin⟩ := fin H5 (x.N) (randoms (ops.take q)) (Ext.refl H5) hop.symm (by rw [hrn, if_neg (by rw [hK]; decide), Nat.add_zero])
            have he7' := he7
            simp only [start, KC_normal, go_sem, Nat.reduceEqDiff, Nat.reduceAdd, reduceIte, reduceCtorEq, Nat.reduceLeDiff, Nat.reduceShiftRight, Nat.reduceAnd, Nat.reduceOr, Nat.reducePow, Nat.reduceBNe, Nat.reduceBEq, hbx, hK, t2, t3, t8, t9, t11, Int.reduceEq, Int.reduceLT, he7']
            refine ⟨j', hj', fin _ ?_ ?_ ?_ ?_ ?_⟩
            all_goals simp only [start, KC_normal, go_sem, Nat.reduceEqDiff, Nat.reduceAdd, reduceIte, reduceCtorEq, Nat.reduceLeDiff, Nat.reduceShiftRight, Nat.reduceAnd, Nat.reduceOr, Nat.reducePow, Nat.reduceBNe, Nat.reduceBEq, t2, t3, t9]
            rw [e2]
          · have htk : takesO x.K = 1 := by rw [hK]; rfl
            rw [htk] at hA0 hB0
            have hA := hA0 (by omega)
            have hAl : x.A < (ws.length : Int) := by omega
            obtain ⟨kw, hu, hgw, hkw, hcA⟩ := Ex.Own1.word ho5 (n := x.A.toNat) (by omega)
            have hop : opW rs ws (randoms (ops.take q)) x = atW ws x.A.toNat := by unfold opW fnW; rw [htk, hK]; rfl
            refine f32_c fun r hr => ?_
            obtain rfl : r = 1 := by rw [hr]; first | rfl | (rw [hK]; rfl)
            simp only [start, KC_normal, go_sem, Nat.reduceEqDiff, Nat.reduceAdd, reduceIte, reduceCtorEq, Nat.reduceLeDiff, Nat.reduceShiftRight, Nat.reduceAnd, Nat.reduceOr, Nat.reducePow, Nat.reduceBNe, Nat.reduceBEq, hbx, hK, t2, t3, t8, hu, t9, t11, ia_int _ _ _ _ _ hA.1 hAl, hgw, hcA, Int.reduceEq, Int.reduceLT]
            refine f32_c fun r hr => ?_
            obtain rfl : r = 1 := by rw [hr]; first | rfl | (rw [hK]; rfl)
            obtain ⟨v7, H7, he7, j', hj', fin⟩ := fin H5 (atW ws x.A.toNat) (randoms (ops.take q)) (Ext.refl H5) hop.symm (by rw [hrn, if_neg (by rw [hK]; decide), Nat.add_zero])
            have he7' := he7
            rw [hu] at he7'
            simp only [start, KC_normal, go_sem, Nat.reduceEqDiff, Nat.reduceAdd, reduceIte, reduceCtorEq, Nat.reduceLeDiff, Nat.reduceShiftRight, Nat.reduceAnd, Nat.reduceOr, Nat.reducePow, Nat.reduceBNe, Nat.reduceBEq, hbx, hK, t2, t3, t8, hu, t9, t11, ia_int _ _ _ _ _ hA.1 hAl, hgw, hcA, Int.reduceEq, Int.reduceLT, he7']
            refine ⟨j', hj', fin _ ?_ ?_ ?_ ?_ ?_⟩
            all_goals simp only [start, KC_normal, go_sem, Nat.reduceEqDiff, Nat.reduceAdd, reduceIte, reduceCtorEq, Nat.reduceLeDiff, Nat.reduceShiftRight, Nat.reduceAnd, Nat.reduceOr, Nat.reducePow, Nat.reduceBNe, Nat.reduceBEq, t2, t3, t9]
            rw [e2]
        · have hq' : q = ops.length := by omega
          subst hq'
          simp only [start, KC_normal, go_sem, Nat.reduceEqDiff, Nat.reduceAdd, reduceIte, reduceCtorEq, Nat.reduceLeDiff, Nat.reduceShiftRight, Nat.reduceAnd, Nat.reduceOr, Nat.reducePow, Nat.reduceBNe, Nat.reduceBEq, t8]
          rw [List.take_length] at ho
          exact hQ H' u b hE ho fun j hj => by have := hb j hj; omega
end Go.Ab.Ex
end
