/- Parts of the proof, joined by program: Wire: the gadgets' contracts; Wire: what is appended. -/
import Derived.Test.YtmodeilippcbnaaM07
import Derived.Test.YtmodeilippcbnaaM09
import Derived.Test.YtmodeilippcbnaaM10
import Derived.Test.YtmodeilippcbnaaM11
import Derived.Test.YtmodeilippcbnaaM06
set_option linter.all false
section
namespace Go.Ab.Ex
open Go.Proofs

def toOp (l : List Int) : OpM := ⟨l.getD 0 0, l.getD 1 0, l.getD 2 0, 0⟩

theorem readInts_spec : ∀ (c : List Value) (l : List Int), readInts c = some l → c = l.flatMap intC
  | [], l, h => by simp [readInts] at h; subst h; rfl
  | v :: c, l, h => by
    unfold readInts at h
    split at h
    · cases ‹_ :: _ = []›
    · rename_i n l' heq
      cases heq
      cases hr : readInts c with
      | none => rw [hr] at h; simp at h
      | some m =>
        rw [hr] at h
        simp at h
        subst h
        rw [readInts_spec c m hr]; rfl
    · cases h

theorem readOps_spec : ∀ (n : Nat) (c : List Value) (l : List (List Int)), c.length ≤ n → readOps c = some l → (∀ x ∈ l, x.getD 3 1 = 0) → c = (l.map toOp).flatMap OpM.c
  | n, [], l, _, h, _ => by simp [readOps] at h; subst h; rfl
  | 0, v :: c, l, hn, _, _ => by simp at hn
  | n + 1, v :: c, l, hn, h, hz => by
    unfold readOps at h
    split at h
    · cases ‹_ :: _ = []›
    · rename_i k a b m l' heq
      cases heq
      cases hr : readOps l' with
      | none => rw [hr] at h; simp at h
      | some m' =>
        rw [hr] at h
        simp at h
        subst h
        have hm : m = 0 := by simpa using hz [k, a, b, m] (by simp)
        subst hm
        rw [readOps_spec n l' m' (by simp at hn; omega) hr (fun x hx => hz x (by simp [hx]))]
        rfl
    · cases h

theorem shiftL_ops (n : Nat) : ∀ l : List OpM, shiftL n (l.flatMap OpM.c) = l.flatMap OpM.c
  | [] => rfl
  | o :: l => by
    simp only [List.flatMap_cons, OpM.c, List.cons_append, List.nil_append, shiftL]
    rw [shiftL_ops n l]; rfl
theorem shiftL_ints (n : Nat) : ∀ l : List Int, shiftL n (l.flatMap intC) = l.flatMap intC
  | [] => rfl
  | o :: l => by
    simp only [List.flatMap_cons, intC, List.cons_append, List.nil_append, shiftL]
    rw [shiftL_ints n l]; rfl

def gadOps (and : Bool) (d : Nat) : List OpM := (gad and d).ops.map toOp

/-- a slice that a run on the ground made -/
theorem sl_ground {F : Fr} {H H' : Heap} {sz n cap b : Nat} {own : Bool} {c : List Value} (hB : Bd F H) (hb : H.next ≤ b) (hlt : b < H'.next) (hg : H'.get b = .cells own sz c) (hc : c.length = n * sz) (hcap : n ≤ cap) : Sl F H' sz (.slice (some ⟨b, 0, none⟩) n cap) n c :=
  ⟨_, cap, rfl, hcap, hc, .blk b 0 own c ⟨hlt, fun hf => by have := hB.lt b hf; omega, hg⟩ (seg_all _ _ hc)⟩

theorem ground_code {f : FuncId} {args : Array Value} {and : Bool} {d : Nat} (h : gCheck f args and d = true) (hfl : args.toList.all flat = true) (hz : ∀ x ∈ (gad and d).ops, x.getD 3 1 = 0) {H : Heap} {Q : Ret → Heap → Prop}
    (hQ : ∀ H' v, Ext H H' → (∀ F, Bd F H → CodeR F H' v (gIn and d) (gadOps and d) (gad and d).outs) → Q (.ret (.tuple #[v, .int .i64 0])) H') : C f args H Q := by
  unfold gCheck at h
  have h := of_decide_eq_true h
  unfold readCode at h
  split at h
  case h_2 => cases h
  rename_i vs H1 hc
  split at h
  case h_2 => cases h
  rename_i cs hvs
  split at h
  case h_2 => cases h
  rename_i inn b1 n1 cap1 b2 n2 cap2 hcs
  split at h
  case h_2 => cases h
  rename_i o1 c1 o2 c2 hb1 hb2
  split at h
  case h_2 => cases h
  rename_i l1 l2 hr1 hr2
  split at h
  case isFalse => cases h
  rename_i hcond
  obtain ⟨q1, q2, q3, q4, q5, q6⟩ := hcond
  simp only [Option.some.injEq, List.cons.injEq, and_true] at h
  obtain ⟨e1, e2, e3⟩ := h
  have hc1 := readOps_spec _ _ _ (Nat.le_refl _) hr1 (by rw [e3]; exact hz)
  have hc2 := readInts_spec _ _ hr2
  refine ⟨_, _, ?_, (CallV.run TT.ok hc).ground hfl H⟩
  obtain ⟨s1, s2⟩ := foldl_push_spec H.next (blocksOf H1 H1.next) H
  obtain ⟨t1, t2⟩ := blocksOf_spec H1 H1.next
  have hget : ∀ b, b < H1.next → (groundH (blocksOf H1 H1.next) H).get (b + H.next) = shiftO H.next (H1.get b) := by
    intro b hb
    rw [show (groundH (blocksOf H1 H1.next) H).get (b + H.next) = _ from s2 _, if_pos (by omega), show b + H.next - H.next = b by omega, t2 b hb]; rfl
  have hnx : (groundH (blocksOf H1 H1.next) H).next = H.next + H1.next := by rw [show (groundH (blocksOf H1 H1.next) H).next = _ from s1, t1]
  have hvs' : shiftV H.next (.tuple vs) = .tuple #[.agg #[.int .i64 inn, .slice (some ⟨b1 + H.next, 0, none⟩) n1 cap1, .slice (some ⟨b2 + H.next, 0, none⟩) n2 cap2], .int .i64 0] := by
    obtain ⟨vl⟩ := vs
    obtain ⟨cl⟩ := cs
    simp only at hvs hcs
    subst hvs hcs
    rfl
  rw [hvs']
  have hg1 := hget b1 q3
  have hg2 := hget b2 q4
  rw [hb1] at hg1
  rw [hb2] at hg2
  simp only [shiftO] at hg1 hg2
  rw [hc1, shiftL_ops, e3] at hg1
  rw [hc2, shiftL_ints, e2] at hg2
  have n1e : n1 = (gadOps and d).length := by unfold gadOps; rw [List.length_map, ← e3]; exact q1.symm
  have n2e : n2 = (gad and d).outs.length := by rw [← e2]; exact q2.symm
  subst n1e n2e e1
  refine hQ _ _ (ground_ext _ _) fun F hB => ⟨_, _, rfl, sl_ground hB (by omega) (by omega) hg1 (fm_length OpM.len _) q5, sl_ground hB (by omega) (by omega) hg2 (fm_length intC_len _) q6⟩

end Go.Ab.Ex
end
section
namespace Go.Ab.Ex
open Go.Proofs
set_option maxRecDepth 10000

section
variable {H : Heap} {v x : Value} {b : Option Nat} {F0 : Fr}
theorem app1_int {l : List Int} (ho : Own1 H 1 (l.flatMap intC) v l.length b) (hl : l.length < 1000000) (x : Int) :
    ∃ v' H' b', appendC TT (H.push (.cells true 1 [.int .i64 x])) #[29, 29] v (.slice (some ⟨H.next, 0, none⟩) 1 1) = some (.val v' H') ∧ Own1 H' 1 ((l ++ [x]).flatMap intC) v' (l ++ [x]).length b' ∧ (∀ F : Fr, Step (F.un b) H (F.un b') H') ∧ (∀ j, b' = some j → H.next ≤ j) :=
  app1 ty29 ty3 rfl (by omega) intC_len intC_one ho hl x
theorem app1_word {l : List (BitVec 32)} (ho : Own1 H 1 (l.flatMap wordC) v l.length b) (hl : l.length < 1000000) (x : BitVec 32) :
    ∃ v' H' b', appendC TT (H.push (.cells true 1 [.int .u32 x.toNat])) #[43, 43] v (.slice (some ⟨H.next, 0, none⟩) 1 1) = some (.val v' H') ∧ Own1 H' 1 ((l ++ [x]).flatMap wordC) v' (l ++ [x]).length b' ∧ (∀ F : Fr, Step (F.un b) H (F.un b') H') ∧ (∀ j, b' = some j → H.next ≤ j) :=
  app1 ty43 ty54 rfl (by omega) wordC_len wordC_one ho hl x
theorem app1_op {l : List OpM} (ho : Own1 H 4 (l.flatMap OpM.c) v l.length b) (hl : l.length < 1000000) (x : OpM) :
    ∃ v' H' b', appendC TT (H.push (.cells true 4 [.int .i64 x.K, .int .i64 x.A, .int .i64 x.B, .int .u32 x.N.toNat])) #[28, 28] v (.slice (some ⟨H.next, 0, none⟩) 1 1) = some (.val v' H') ∧ Own1 H' 4 ((l ++ [x]).flatMap OpM.c) v' (l ++ [x]).length b' ∧ (∀ F : Fr, Step (F.un b) H (F.un b') H') ∧ (∀ j, b' = some j → H.next ≤ j) :=
  app1 ty28 ty69 rfl (by omega) OpM.len OpM.one ho hl x
theorem appN_int {l m : List Int} (ho : Own1 H 1 (l.flatMap intC) v l.length b) (hx : Sl F0 H 1 x m.length (m.flatMap intC)) (hl : l.length + m.length < 1000000) :
    ∃ v' H' b', appendC TT H #[29, 29] v x = some (.val v' H') ∧ Own1 H' 1 ((l ++ m).flatMap intC) v' (l ++ m).length b' ∧ (∀ F : Fr, Step (F.un b) H (F.un b') H') ∧ (∀ j, b' = some j → b = some j ∨ H.next ≤ j) :=
  appN ty29 ty3 rfl (by omega) intC_one ho hx hl
theorem appN_word {l m : List (BitVec 32)} (ho : Own1 H 1 (l.flatMap wordC) v l.length b) (hx : Sl F0 H 1 x m.length (m.flatMap wordC)) (hl : l.length + m.length < 1000000) :
    ∃ v' H' b', appendC TT H #[43, 43] v x = some (.val v' H') ∧ Own1 H' 1 ((l ++ m).flatMap wordC) v' (l ++ m).length b' ∧ (∀ F : Fr, Step (F.un b) H (F.un b') H') ∧ (∀ j, b' = some j → b = some j ∨ H.next ≤ j) :=
  appN ty43 ty54 rfl (by omega) wordC_one ho hx hl
theorem appN_op {l m : List OpM} (ho : Own1 H 4 (l.flatMap OpM.c) v l.length b) (hx : Sl F0 H 4 x m.length (m.flatMap OpM.c)) (hl : l.length + m.length < 1000000) :
    ∃ v' H' b', appendC TT H #[28, 28] v x = some (.val v' H') ∧ Own1 H' 4 ((l ++ m).flatMap OpM.c) v' (l ++ m).length b' ∧ (∀ F : Fr, Step (F.un b) H (F.un b') H') ∧ (∀ j, b' = some j → b = some j ∨ H.next ≤ j) :=
  appN ty28 ty69 rfl (by omega) OpM.one ho hx hl
end

/-! ### gadgets -/
def atM (inp : List Int) (n x : Int) : Int := if x < inp.length then inp.getD x.toNat 0 else x - inp.length + n
def gopM (inp : List Int) (n : Int) (o : OpM) : OpM := if takesO o.K = 2 then ⟨o.K, atM inp n o.A, atM inp n o.B, 0⟩ else ⟨o.K, 0, 0, 0⟩
def gadgetM (and : Bool) (d : Nat) (inp : List Int) (n : Int) : List OpM × List Int := ((gadOps and d).map (gopM inp n), (gad and d).outs.map (atM inp n))

/-- what is so of the gadgets' steps -/
def gOk (and : Bool) (d : Nat) : Bool :=
  ((List.range (gadOps and d).length).all fun t => match (gadOps and d)[t]? with
    | some o => (o.K == 0 && o.A == 0 && o.B == 0 || o.K == 1 || o.K == 2) && o.N == 0 && (decide (0 ≤ o.A) && decide (o.A < gIn and d + t) && decide (0 ≤ o.B) && decide (o.B < gIn and d + t) || o.K == 0)
    | none => false) && (gad and d).outs.all (fun x => decide (0 ≤ x) && decide (x < gIn and d + (gadOps and d).length)) && (gad and d).outs.length == d + 1 && decide ((gadOps and d).length < 1000) &&
  (gad and d).ops.all (fun x => x.getD 3 1 == 0)
set_option maxRecDepth 100000 in
theorem gOk_all : ((List.range 7).all fun d => d == 0 || gOk true d && gOk false d) = true := by decide +kernel
theorem gOk_d (and : Bool) {d : Nat} (h : 1 ≤ d) (h6 : d ≤ 6) : gOk and d = true := by
  have h0 := gOk_all
  rw [List.all_eq_true] at h0
  have h1 := h0 d (by simp; omega)
  simp only [Bool.or_eq_true, beq_iff_eq, Bool.and_eq_true] at h1
  rcases h1 with h1 | ⟨h1, h2⟩
  · omega
  · cases and
    · exact h2
    · exact h1

structure GadOk (and : Bool) (d : Nat) : Prop where
  op : ∀ (t : Nat) (o : OpM), (gadOps and d)[t]? = some o → ((o.K = 0 ∧ o.A = 0 ∧ o.B = 0) ∨ ((o.K = 1 ∨ o.K = 2) ∧ 0 ≤ o.A ∧ o.A < gIn and d + t ∧ 0 ≤ o.B ∧ o.B < gIn and d + t)) ∧ o.N = 0
  out : ∀ x ∈ (gad and d).outs, 0 ≤ x ∧ x < gIn and d + (gadOps and d).length
  outs : (gad and d).outs.length = d + 1
  len : (gadOps and d).length < 1000
  num : ∀ x ∈ (gad and d).ops, x.getD 3 1 = 0

theorem gadOk (and : Bool) {d : Nat} (h : 1 ≤ d) (h6 : d ≤ 6) : GadOk and d := by
  have h := gOk_d and h h6
  unfold gOk at h
  simp only [Bool.and_eq_true, List.all_eq_true, List.mem_range, decide_eq_true_eq, beq_iff_eq] at h
  obtain ⟨⟨⟨⟨h1, h2⟩, h3⟩, h4⟩, h5⟩ := h
  refine ⟨fun t o ht => ?_, h2, h3, h4, h5⟩
  have hlt : t < (gadOps and d).length := by
    rcases Nat.lt_or_ge t (gadOps and d).length with h | h
    · exact h
    · rw [List.getElem?_eq_none h] at ht; cases ht
  have := h1 t hlt
  rw [ht] at this
  simp only [Bool.and_eq_true, Bool.or_eq_true, beq_iff_eq, decide_eq_true_eq] at this
  obtain ⟨⟨k1, k2⟩, k3⟩ := this
  refine ⟨?_, k2⟩
  rcases k1 with (⟨⟨k, ka⟩, kb⟩ | k) | k
  · exact .inl ⟨k, ka, kb⟩
  · right
    rcases k3 with ⟨⟨⟨q1, q2⟩, q3⟩, q4⟩ | q
    · exact ⟨.inl k, q1, q2, q3, q4⟩
    · omega
  · right
    rcases k3 with ⟨⟨⟨q1, q2⟩, q3⟩, q4⟩ | q
    · exact ⟨.inr k, q1, q2, q3, q4⟩
    · omega

end Go.Ab.Ex
end
