/- Parts of the proof, joined by program: Wire: the gadgets' contracts; Wire: what is appended; Wire: a gadget's steps over wires, by the document; Wire: a gate's wires, by the document: the model; gates that take none; Wire: what is a circuit, a graph; a circuit of its own; Wire: a graph with a kind in the place of each fresh one, by the document; Wire: truths that are compared; Wire: a gate's wires, by the document: gadgets. -/
import Derived.Test.YtmodeilippcbnaaR07
import Derived.Test.YtmodeilippcbnaaR09
import Derived.Test.YtmodeilippcbnaaR10
import Derived.Test.YtmodeilippcbnaaR11
import Derived.Test.YtmodeilippcbnaaR06
set_option linter.all false
section
namespace Go.Ab.Ex
open Go.Proofs

def toOp (l : List Int) : OpM := ⟨l.getD 0 0, l.getD 1 0, l.getD 2 0, 0⟩

theorem readInts_spec : ∀ (c : List Value) (l : List Int), readInts c = some l → c = l.flatMap intC
  | [], l, h => by simp [readInts] at h; subst h; rfl
  | v :: c, l, h => by
    unfold readInts at h
    split at h
    · cases ‹_ :: _ = []›
    · rename_i n l' heq
      cases heq
      cases hr : readInts c with
      | none => rw [hr] at h; simp at h
      | some m =>
        rw [hr] at h
        simp at h
        subst h
        rw [readInts_spec c m hr]; rfl
    · cases h

theorem readOps_spec : ∀ (n : Nat) (c : List Value) (l : List (List Int)), c.length ≤ n → readOps c = some l → (∀ x ∈ l, x.getD 3 1 = 0) → c = (l.map toOp).flatMap OpM.c
  | n, [], l, _, h, _ => by simp [readOps] at h; subst h; rfl
  | 0, v :: c, l, hn, _, _ => by simp at hn
  | n + 1, v :: c, l, hn, h, hz => by
    unfold readOps at h
    split at h
    · cases ‹_ :: _ = []›
    · rename_i k a b m l' heq
      cases heq
      cases hr : readOps l' with
      | none => rw [hr] at h; simp at h
      | some m' =>
        rw [hr] at h
        simp at h
        subst h
        have hm : m = 0 := by simpa using hz [k, a, b, m] (by simp)
        subst hm
        rw [readOps_spec n l' m' (by simp at hn; omega) hr (fun x hx => hz x (by simp [hx]))]
        rfl
    · cases h

theorem shiftL_ops (n : Nat) : ∀ l : List OpM, shiftL n (l.flatMap OpM.c) = l.flatMap OpM.c
  | [] => rfl
  | o :: l => by
    simp only [List.flatMap_cons, OpM.c, List.cons_append, List.nil_append, shiftL]
    rw [shiftL_ops n l]; rfl
theorem shiftL_ints (n : Nat) : ∀ l : List Int, shiftL n (l.flatMap intC) = l.flatMap intC
  | [] => rfl
  | o :: l => by
    simp only [List.flatMap_cons, intC, List.cons_append, List.nil_append, shiftL]
    rw [shiftL_ints n l]; rfl

def gadOps (and : Bool) (d : Nat) : List OpM := (gad and d).ops.map toOp

/-- a slice that a run on the ground made -/
theorem sl_ground {F : Fr} {H H' : Heap} {sz n cap b : Nat} {own : Bool} {c : List Value} (hB : Bd F H) (hb : H.next ≤ b) (hlt : b < H'.next) (hg : H'.get b = .cells own sz c) (hc : c.length = n * sz) (hcap : n ≤ cap) : Sl F H' sz (.slice (some ⟨b, 0, none⟩) n cap) n c :=
  ⟨_, cap, rfl, hcap, hc, .blk b 0 own c ⟨hlt, fun hf => by have := hB.lt b hf; omega, hg⟩ (seg_all _ _ hc)⟩

theorem ground_code {f : FuncId} {args : Array Value} {and : Bool} {d : Nat} (h : gCheck f args and d = true) (hfl : args.toList.all flat = true) (hz : ∀ x ∈ (gad and d).ops, x.getD 3 1 = 0) {H : Heap} {Q : Ret → Heap → Prop}
    (hQ : ∀ H' v, Ext H H' → (∀ F, Bd F H → CodeR F H' v (gIn and d) (gadOps and d) (gad and d).outs) → Q (.ret (.tuple #[v, .int .i64 0])) H') : C f args H Q := by
  unfold gCheck at h
  have h := of_decide_eq_true h
  unfold readCode at h
  split at h
  case h_2 => cases h
  rename_i vs H1 hc
  split at h
  case h_2 => cases h
  rename_i cs hvs
  split at h
  case h_2 => cases h
  rename_i inn b1 n1 cap1 b2 n2 cap2 hcs
  split at h
  case h_2 => cases h
  rename_i o1 c1 o2 c2 hb1 hb2
  split at h
  case h_2 => cases h
  rename_i l1 l2 hr1 hr2
  split at h
  case isFalse => cases h
  rename_i hcond
  obtain ⟨q1, q2, q3, q4, q5, q6⟩ := hcond
  simp only [Option.some.injEq, List.cons.injEq, and_true] at h
  obtain ⟨e1, e2, e3⟩ := h
  have hc1 := readOps_spec _ _ _ (Nat.le_refl _) hr1 (by rw [e3]; exact hz)
  have hc2 := readInts_spec _ _ hr2
  refine ⟨_, _, ?_, (CallV.run TT.ok hc).ground hfl H⟩
  obtain ⟨s1, s2⟩ := foldl_push_spec H.next (blocksOf H1 H1.next) H
  obtain ⟨t1, t2⟩ := blocksOf_spec H1 H1.next
  have hget : ∀ b, b < H1.next → (groundH (blocksOf H1 H1.next) H).get (b + H.next) = shiftO H.next (H1.get b) := by
    intro b hb
    rw [show (groundH (blocksOf H1 H1.next) H).get (b + H.next) = _ from s2 _, if_pos (by omega), show b + H.next - H.next = b by omega, t2 b hb]; rfl
  have hnx : (groundH (blocksOf H1 H1.next) H).next = H.next + H1.next := by rw [show (groundH (blocksOf H1 H1.next) H).next = _ from s1, t1]
  have hvs' : shiftV H.next (.tuple vs) = .tuple #[.agg #[.int .i64 inn, .slice (some ⟨b1 + H.next, 0, none⟩) n1 cap1, .slice (some ⟨b2 + H.next, 0, none⟩) n2 cap2], .int .i64 0] := by
    obtain ⟨vl⟩ := vs
    obtain ⟨cl⟩ := cs
    simp only at hvs hcs
    subst hvs hcs
    rfl
  rw [hvs']
  have hg1 := hget b1 q3
  have hg2 := hget b2 q4
  rw [hb1] at hg1
  rw [hb2] at hg2
  simp only [shiftO] at hg1 hg2
  rw [hc1, shiftL_ops, e3] at hg1
  rw [hc2, shiftL_ints, e2] at hg2
  have n1e : n1 = (gadOps and d).length := by unfold gadOps; rw [List.length_map, ← e3]; exact q1.symm
  have n2e : n2 = (gad and d).outs.length := by rw [← e2]; exact q2.symm
  subst n1e n2e e1
  refine hQ _ _ (ground_ext _ _) fun F hB => ⟨_, _, rfl, sl_ground hB (by omega) (by omega) hg1 (fm_length OpM.len _) q5, sl_ground hB (by omega) (by omega) hg2 (fm_length intC_len _) q6⟩

end Go.Ab.Ex
end
section
namespace Go.Ab.Ex
open Go.Proofs
set_option maxRecDepth 10000

section
variable {H : Heap} {v x : Value} {b : Option Nat} {F0 : Fr}
theorem app1_int {l : List Int} (ho : Own1 H 1 (l.flatMap intC) v l.length b) (hl : l.length < 1000000) (x : Int) :
    ∃ v' H' b', appendC TT (H.push (.cells true 1 [.int .i64 x])) #[29, 29] v (.slice (some ⟨H.next, 0, none⟩) 1 1) = some (.val v' H') ∧ Own1 H' 1 ((l ++ [x]).flatMap intC) v' (l ++ [x]).length b' ∧ (∀ F : Fr, Step (F.un b) H (F.un b') H') ∧ (∀ j, b' = some j → H.next ≤ j) :=
  app1 ty29 ty3 rfl (by omega) intC_len intC_one ho hl x
theorem appN_int {l m : List Int} (ho : Own1 H 1 (l.flatMap intC) v l.length b) (hx : Sl F0 H 1 x m.length (m.flatMap intC)) (hl : l.length + m.length < 1000000) :
    ∃ v' H' b', appendC TT H #[29, 29] v x = some (.val v' H') ∧ Own1 H' 1 ((l ++ m).flatMap intC) v' (l ++ m).length b' ∧ (∀ F : Fr, Step (F.un b) H (F.un b') H') ∧ (∀ j, b' = some j → b = some j ∨ H.next ≤ j) :=
  appN ty29 ty3 rfl (by omega) intC_one ho hx hl
end

/-! ### gadgets -/
def atM (inp : List Int) (n x : Int) : Int := if x < inp.length then inp.getD x.toNat 0 else x - inp.length + n
def gopM (inp : List Int) (n : Int) (o : OpM) : OpM := if takesO o.K = 2 then ⟨o.K, atM inp n o.A, atM inp n o.B, 0⟩ else ⟨o.K, 0, 0, 0⟩
def gadgetM (and : Bool) (d : Nat) (inp : List Int) (n : Int) : List OpM × List Int := ((gadOps and d).map (gopM inp n), (gad and d).outs.map (atM inp n))

/-- what is so of the gadgets' steps -/
def gOk (and : Bool) (d : Nat) : Bool :=
  ((List.range (gadOps and d).length).all fun t => match (gadOps and d)[t]? with
    | some o => (o.K == 0 && o.A == 0 && o.B == 0 || o.K == 1 || o.K == 2) && o.N == 0 && (decide (0 ≤ o.A) && decide (o.A < gIn and d + t) && decide (0 ≤ o.B) && decide (o.B < gIn and d + t) || o.K == 0)
    | none => false) && (gad and d).outs.all (fun x => decide (0 ≤ x) && decide (x < gIn and d + (gadOps and d).length)) && (gad and d).outs.length == d + 1 && decide ((gadOps and d).length < 1000) &&
  (gad and d).ops.all (fun x => x.getD 3 1 == 0)
set_option maxRecDepth 100000 in
theorem gOk_all : ((List.range 7).all fun d => d == 0 || gOk true d && gOk false d) = true := by decide +kernel
theorem gOk_d (and : Bool) {d : Nat} (h : 1 ≤ d) (h6 : d ≤ 6) : gOk and d = true := by
  have h0 := gOk_all
  rw [List.all_eq_true] at h0
  have h1 := h0 d (by simp; omega)
  simp only [Bool.or_eq_true, beq_iff_eq, Bool.and_eq_true] at h1
  rcases h1 with h1 | ⟨h1, h2⟩
  · omega
  · cases and
    · exact h2
    · exact h1

structure GadOk (and : Bool) (d : Nat) : Prop where
  op : ∀ (t : Nat) (o : OpM), (gadOps and d)[t]? = some o → ((o.K = 0 ∧ o.A = 0 ∧ o.B = 0) ∨ ((o.K = 1 ∨ o.K = 2) ∧ 0 ≤ o.A ∧ o.A < gIn and d + t ∧ 0 ≤ o.B ∧ o.B < gIn and d + t)) ∧ o.N = 0
  out : ∀ x ∈ (gad and d).outs, 0 ≤ x ∧ x < gIn and d + (gadOps and d).length
  outs : (gad and d).outs.length = d + 1
  len : (gadOps and d).length < 1000
  num : ∀ x ∈ (gad and d).ops, x.getD 3 1 = 0

theorem gadOk (and : Bool) {d : Nat} (h : 1 ≤ d) (h6 : d ≤ 6) : GadOk and d := by
  have h := gOk_d and h h6
  unfold gOk at h
  simp only [Bool.and_eq_true, List.all_eq_true, List.mem_range, decide_eq_true_eq, beq_iff_eq] at h
  obtain ⟨⟨⟨⟨h1, h2⟩, h3⟩, h4⟩, h5⟩ := h
  refine ⟨fun t o ht => ?_, h2, h3, h4, h5⟩
  have hlt : t < (gadOps and d).length := by
    rcases Nat.lt_or_ge t (gadOps and d).length with h | h
    · exact h
    · rw [List.getElem?_eq_none h] at ht; cases ht
  have := h1 t hlt
  rw [ht] at this
  simp only [Bool.and_eq_true, Bool.or_eq_true, beq_iff_eq, decide_eq_true_eq] at this
  obtain ⟨⟨k1, k2⟩, k3⟩ := this
  refine ⟨?_, k2⟩
  rcases k1 with (⟨⟨k, ka⟩, kb⟩ | k) | k
  · exact .inl ⟨k, ka, kb⟩
  · right
    rcases k3 with ⟨⟨⟨q1, q2⟩, q3⟩, q4⟩ | q
    · exact ⟨.inl k, q1, q2, q3, q4⟩
    · omega
  · right
    rcases k3 with ⟨⟨⟨q1, q2⟩, q3⟩, q4⟩ | q
    · exact ⟨.inr k, q1, q2, q3, q4⟩
    · omega

end Go.Ab.Ex
end
section
namespace Go.Ab.Ex
open Go.Proofs
set_option maxRecDepth 10000

theorem six {d : Nat} (h : 1 ≤ d ∧ d ≤ 6) : d = 1 ∨ d = 2 ∨ d = 3 ∨ d = 4 ∨ d = 5 ∨ d = 6 := by omega

section
variable {H : Heap} {d : Nat} {Q : Ret → Heap → Prop}
theorem f45_c (hd : 1 ≤ d ∧ d ≤ 6) (hQ : ∀ H' v, Ext H H' → (∀ F, Bd F H → CodeR F H' v (gIn true d) (gadOps true d) (gad true d).outs) → Q (.ret (.tuple #[v, .int .i64 0])) H') : C 45 #[.int .i64 (d : Nat)] H Q := by
  have hn := (gadOk true hd.1 hd.2).num
  rcases six hd with rfl | rfl | rfl | rfl | rfl | rfl
  · exact ground_code g45_1 rfl hn hQ
  · exact ground_code g45_2 rfl hn hQ
  · exact ground_code g45_3 rfl hn hQ
  · exact ground_code g45_4 rfl hn hQ
  · exact ground_code g45_5 rfl hn hQ
  · exact ground_code g45_6 rfl hn hQ
theorem f46_c (hd : 1 ≤ d ∧ d ≤ 6) (hQ : ∀ H' v, Ext H H' → (∀ F, Bd F H → CodeR F H' v (gIn false d) (gadOps false d) (gad false d).outs) → Q (.ret (.tuple #[v, .int .i64 0])) H') : C 46 #[.int .i64 (d : Nat)] H Q := by
  have hn := (gadOk false hd.1 hd.2).num
  rcases six hd with rfl | rfl | rfl | rfl | rfl | rfl
  · exact ground_code g46_1 rfl hn hQ
  · exact ground_code g46_2 rfl hn hQ
  · exact ground_code g46_3 rfl hn hQ
  · exact ground_code g46_4 rfl hn hQ
  · exact ground_code g46_5 rfl hn hQ
  · exact ground_code g46_6 rfl hn hQ
end



theorem map_take_next {α β : Type} (f : α → β) {l : List α} {i : Nat} {x : α} (h : l[i]? = some x) : (l.take (i + 1)).map f = (l.take i).map f ++ [f x] := by
  rw [take_next h, List.map_append]; rfl

end Go.Ab.Ex
end
section
namespace Go.Ab.Ex
open Go.Proofs
set_option maxRecDepth 10000

def cellC (v : Value) : List Value := [v]
theorem cellC_len (v : Value) : (cellC v).length = 1 := rfl

/-- rows of wires -/
structure RowsR (F : Fr) (H : Heap) (v : Value) (rows : List (List Int)) : Prop where
  ex : ∃ vs : List Value, vs.length = rows.length ∧ Sl F H 1 v vs.length (vs.flatMap cellC) ∧ ∀ (i : Nat) (r : List Int), rows[i]? = some r → ∃ u, vs[i]? = some u ∧ Sl F H 1 u r.length (r.flatMap intC)
theorem RowsR.step {F F' : Fr} {H H' : Heap} {v : Value} {rows : List (List Int)} (h : RowsR F H v rows) (s : Step F H F' H') : RowsR F' H' v rows :=
  let ⟨vs, h1, h2, h3⟩ := h.ex; ⟨vs, h1, h2.step s, fun i r hr => let ⟨u, k1, k2⟩ := h3 i r hr; ⟨u, k1, k2.step s⟩⟩

/-- element for element: with 'kp', all but the first stay -/
def elOps (kp : Bool) (k : Int) (N : BitVec 32) (a : List Int) (bs : Nat → Int) : List OpM := (if kp then a.take 1 else a).mapIdx fun i y => ⟨k, y, bs i, N⟩
def elRow (kp : Bool) (a : List Int) (n : Int) : List Int := a.mapIdx fun i y => if kp && decide (0 < i) then y else n + i

def CircM.sec (g : CircM) (i : Int) : Bool := (g.gates[i.toNat]?).elim false GateM.S
def rowOf (rows : List (List Int)) (i : Int) : List Int := rows.getD i.toNat []

/-- a gate of two -/
def twoM (g : CircM) (rows : List (List Int)) (n : Int) (x : GateM) : List OpM × List Int :=
  let sw := g.sec x.B && !g.sec x.A
  let a := rowOf rows (if sw then x.B else x.A)
  let b := rowOf rows (if sw then x.A else x.B)
  let sb := g.sec (if sw then x.A else x.B)
  (elOps (decide (x.K = 4) && !sb) (stepOf x.K) 0 a (fun i => b.getD (if sb then i else 0) 0), elRow (decide (x.K = 4) && !sb) a n)

/-- a gate's steps and wires; what goes before it are n wires -/
def gateM (g : CircM) (d : Nat) (rows : List (List Int)) (n : Int) (x : GateM) : List OpM × List Int :=
  if x.K = 1 then ([], (List.range (d + 1)).map fun (i : Nat) => (x.N.toNat : Int) * (d + 1) + i)
  else if x.K = 2 then ([], [g.secrets * (d + 1) + x.N.toNat])
  else if x.K = 0 then ([⟨7, 0, 0, x.N⟩], [n])
  else if x.K = 12 then gadgetM false d (rowOf rows x.A) n
  else if x.K = 3 ∧ g.sec x.A = true ∧ g.sec x.B = true then gadgetM true d (rowOf rows x.A ++ rowOf rows x.B) n
  else if x.K = 3 ∨ x.K = 4 then twoM g rows n x
  else (elOps (decide (x.K = 5)) (stepOf x.K) x.N (rowOf rows x.A) (fun _ => 0), elRow (decide (x.K = 5)) (rowOf rows x.A) n)

/-- the circuit's box and the gate's box, and a list that is made -/
theorem pre3 {H H' : Heap} {a b c : AObj} (hX : ((H.push a).push b).push c = H') : Ext H H' ∧ H'.get H.next = a ∧ H'.get (H.next + 1) = b ∧ H'.get (H.next + 1 + 1) = c ∧ H'.next = H.next + 3 := by
  subst hX
  refine ⟨(((Ext.refl H).push a).push b).push c, ?_, ?_, ?_, rfl⟩
  · rw [H_get_old _ _ _ (show H.next < (H.push a).next + 1 by simp only [Heap.next_push]; omega), H_get_old _ _ _ (show H.next < (H.push a).next by simp only [Heap.next_push]; omega), H_get_new]
  · rw [H_get_old _ _ _ (show H.next + 1 < (H.push a).next + 1 by simp only [Heap.next_push]; omega)]; exact H_get_new _ _
  · exact H_get_new _ _



def GateM.v (x : GateM) : Value := .agg #[.int .i64 x.K, .int .i64 x.A, .int .i64 x.B, .int .u32 x.N.toNat, .bool x.S]

section
variable {F : Fr} {H : Heap} {bm : Nat} {inn : Int} {ops : List OpM} {outs : List Int} {d : Nat} {g : CircM} {rows : List (List Int)} {vg vl : Value} {Q : Ret → Heap → Prop}



end

end Go.Ab.Ex
end
section
namespace Go.Ab.Ex
open Go.Proofs
set_option maxRecDepth 10000

def gOkM (g : CircM) (i : Nat) (x : GateM) : Prop :=
  0 ≤ x.K ∧ x.K ≤ 11 ∧ (takesG x.K < 2 → x.B = 0) ∧ (takesG x.K < 1 → x.A = 0) ∧ (0 < takesG x.K → 0 ≤ x.A ∧ x.A < i) ∧ (1 < takesG x.K → 0 ≤ x.B ∧ x.B < i) ∧
  (x.K = 1 → (x.N.toNat : Int) < g.secrets) ∧ (x.K = 2 → (x.N.toNat : Int) < g.publics) ∧ (6 ≤ x.K ∧ x.K ≤ 8 → (x.N.toNat : Int) ≤ 31) ∧ ((3 ≤ x.K ∧ x.K ≤ 5) ∨ 9 ≤ x.K → (x.N.toNat : Int) = 0) ∧
  x.S = (decide (x.K = 1) || decide (0 < takesG x.K) && g.sec x.A || decide (1 < takesG x.K) && g.sec x.B)
structure CircOk (g : CircM) : Prop where
  s : 0 ≤ g.secrets ∧ g.secrets ≤ 1000
  p : 0 ≤ g.publics ∧ g.publics ≤ 1000
  l : g.gates.length ≤ 8000
  t : ∀ (i : Nat) (x : GateM), g.gates[i]? = some x → gOkM g i x
  o : ∀ (i : Nat) (x : OutM), g.outs[i]? = some x → 0 ≤ x.At ∧ x.At < g.gates.length
def asG (k : Int) (x : GateM) : GateM := if x.K = 12 then { x with K := k } else x
def CircM.as (g : CircM) (k : Int) : CircM := { g with gates := g.gates.map (asG k) }
structure GraphOk (g : CircM) : Prop where
  c : CircOk (g.as 5)
  k : ∀ (i : Nat) (x : GateM), (g.as 5).gates[i]? = some x → x.K ≤ 8
  r : ∀ (i : Nat) (x : GateM), g.gates[i]? = some x → x.K = 12 → g.sec x.A = true

/-- a circuit of its own -/
structure CircOwn (H H' : Heap) (v : Value) (g : CircM) : Prop where
  ex : ∃ vg vo b c, v = .agg #[vg, .int .i64 g.secrets, .int .i64 g.publics, vo] ∧ Own1 H' 5 (g.gates.flatMap GateM.c) vg g.gates.length b ∧ Own1 H' 2 (g.outs.flatMap OutM.c) vo g.outs.length c ∧ (∀ j, b = some j → H.next ≤ j) ∧ (∀ j, c = some j → H.next ≤ j) ∧ (∀ j, b = some j → ¬ c = some j)
theorem CircOwn.r {H H' : Heap} {v : Value} {g : CircM} (h : CircOwn H H' v g) {F : Fr} (hB : Bd F H) : CircR F H' v g := by
  obtain ⟨vg, vo, b, c, rfl, h1, h2, h3, h4, -⟩ := h.ex
  exact ⟨vg, vo, rfl, h1.sl (out_new hB h3), h2.sl (out_new hB h4)⟩

theorem app_own {T : Tab} {t e : TypeId} {de : TypeDesc} {sz by_ : Nat} {z : Value} {ag : Bool} {fl : List (Nat × Nat)} {a1 a2 : Nat} {a3 : Option Value} {a4 : Bool} {a5 : List (Nat × Nat)} (h0 : T.ty t = some ⟨.slice e, a1, a2, a3, a4, a5⟩) (he : T.ty e = some ⟨de, sz, by_, some z, ag, fl⟩) (hz : z.cells.toList.length = sz) (hby : by_ ≤ 1000)
    {α : Type} {f : α → List Value} (h1 : ∀ x, (f x).all oneCell = true) {F0 : Fr} {H : Heap} {k : Nat} {x : Value} {l : List α} (hk : k < H.next) (ho : H.get k = .cells true sz []) (hx : Sl F0 H sz x l.length (l.flatMap f)) (hl : l.length < 1000000) :
    ∃ v' H' b', appendC T H #[t, t] (.slice (some ⟨k, 0, none⟩) 0 0) x = some (.val v' H') ∧ Own1 H' sz (l.flatMap f) v' l.length b' ∧ (∀ F : Fr, Step (F.un (some k)) H (F.un b') H') ∧ (∀ j, b' = some j → j = k ∨ H.next ≤ j) := by
  obtain ⟨v', H', b', k1, k2, k3, k4⟩ := appN h0 he hz hby h1 (l := []) (.blk k 0 hk ho (by simp)) hx (by simp only [List.length_nil]; omega)
  simp only [List.nil_append] at k2
  exact ⟨v', H', b', k1, k2, k3, fun j hj => (k4 j hj).imp (fun e => by cases e; rfl) id⟩

theorem pre2 {H H' : Heap} {a b : AObj} (hX : (H.push a).push b = H') : Ext H H' ∧ H'.get H.next = a ∧ H'.get (H.next + 1) = b ∧ H'.next = H.next + 2 := by
  subst hX
  refine ⟨((Ext.refl H).push a).push b, ?_, H_get_new _ _, rfl⟩
  rw [H_get_old _ _ _ (show H.next < (H.push a).next by simp only [Heap.next_push]; omega), H_get_new]

theorem skip_put0 {H H' : Heap} {n k : Nat} {c : AObj} (hX : (H.skip n).put (H.next + k) c = H') (hk : k < n) : Ext H H' ∧ H'.get (H.next + k) = c ∧ H'.next = H.next + n := by
  subst hX; exact ⟨((Ext.refl H).skip n).put (Nat.le_add_right _ _) c, H_put_same _ _ _, rfl⟩

theorem f10_c {F : Fr} {H : Heap} {v : Value} {g : CircM} (hv : CircR F H v g) (hl : g.gates.length < 1000000 ∧ g.outs.length < 1000000) {Q : Ret → Heap → Prop} (hQ : ∀ H' u, Ext H H' → CircOwn H H' u g → Q (.ret u) H') : C 10 #[v] H Q := by
  obtain ⟨v1, v2, rfl, hg1, hg2⟩ := hv.noF.ex
  obtain ⟨ag, cg, rfl, h3, h4, hgA⟩ := hg1.ex
  obtain ⟨au, cu, rfl, h5, h6, huA⟩ := hg2.ex
  refine SemC_fn TT.ok fn10 rfl rfl ?_
  simp only [Try.f10, start, KC_normal, go_sem, Nat.reduceEqDiff, Nat.reduceAdd, reduceIte, reduceCtorEq, Nat.reduceLeDiff, Nat.reduceShiftRight, Nat.reduceAnd, Nat.reduceOr, Nat.reducePow, Nat.reduceBNe, Nat.reduceBEq]
  generalize hX : (H.push _).push _ = H1
  obtain ⟨hE1, h7, h8, hn1⟩ := pre2 hX
  clear hX
  refine DRg_x TT.ok [0, 0, 2, 7, 0, 16, 0, 64, 0, 0, 512, 1807, 4095, 8191] 14 16383 16 rfl (by decide +kernel) ?_
  simp only [start, KC_normal, go_sem, Nat.reduceEqDiff, Nat.reduceAdd, reduceIte, reduceCtorEq, Nat.reduceLeDiff, Nat.reduceShiftRight, Nat.reduceAnd, Nat.reduceOr, Nat.reducePow, Nat.reduceBNe, Nat.reduceBEq, h7]
  generalize hY : (H1.skip 14).put H1.next _ = H2
  have hY' : (H1.skip 14).put (H1.next + 0) (.cells true 5 []) = H2 := hY
  obtain ⟨hE2, h9, hn2⟩ := skip_put0 hY' (by omega)
  clear hY hY'
  rw [Nat.add_zero] at h9
  obtain ⟨v3, H3, b3, he3, ho3, hS3, hb3⟩ := app_own (T := TT) (t := 22) ty22 ty60 rfl (by omega) GateM.one (by omega) h9 ((Sl.mkA hgA h3 h4).step (hE1.trans hE2).step) hl.1
  have hE13 : Ext H1 H3 := hE2.app hS3 fun j hj => by cases hj; omega
  have h73 := (hE13.get _ (by omega)).trans h7
  simp only [he3, start, KC_normal, go_sem, Nat.reduceEqDiff, Nat.reduceAdd, reduceIte, reduceCtorEq, Nat.reduceLeDiff, Nat.reduceShiftRight, Nat.reduceAnd, Nat.reduceOr, Nat.reducePow, Nat.reduceBNe, Nat.reduceBEq, h7, h73]
  generalize hZ : H3.put _ _ = H4
  have hle3 := hE13.le
  have hle2 : H2.next ≤ H3.next := (hS3 noF).le
  have hE14 : Ext H1 H4 := by subst hZ; exact hE13.put (Nat.le_add_right _ _) _
  have ho4 : Own1 H4 5 (g.gates.flatMap GateM.c) v3 g.gates.length b3 := by
    subst hZ
    exact ho3.put (fun j hj => by have := hb3 j hj; omega) _
  have h10 : H4.get (H1.next + 8) = .cells true 2 [] := by subst hZ; exact H_put_same _ _ _
  have hn4 : H4.next = H3.next := by subst hZ; rfl
  clear hZ
  obtain ⟨v5, H5, b5, he5, ho5, hS5, hb5⟩ := app_own (T := TT) (t := 23) ty23 ty56 rfl (by omega) OutM.one (by omega) h10 ((Sl.mkA huA h5 h6).step (hE1.trans hE14).step) hl.2
  have hE15 : Ext H1 H5 := hE14.app hS5 fun j hj => by cases hj; omega
  have h75 := (hE15.get _ (by omega)).trans h7
  have h85 := (hE15.get _ (by omega)).trans h8
  obtain ⟨a3, rfl⟩ := ho3.len
  obtain ⟨a5, rfl⟩ := ho5.len
  simp only [he5, start, KC_normal, go_sem, Nat.reduceEqDiff, Nat.reduceAdd, reduceIte, reduceCtorEq, Nat.reduceLeDiff, Nat.reduceShiftRight, Nat.reduceAnd, Nat.reduceOr, Nat.reducePow, Nat.reduceBNe, Nat.reduceBEq, h75, h85]
  refine hQ _ _ ((hE1.trans hE15).put (show H.next ≤ H.next + 1 by omega) _) ⟨_, _, b3, b5, rfl, ?_, ?_, ?_, ?_, ?_⟩
  · refine Own1.put (ho4.step (hS5 noF) ?_) ?_ _
    · intro j hj hf
      rcases hf with hf | hf
      · exact hf
      · cases hf; have := hb3 _ hj; omega
    · intro j hj; have := hb3 j hj; omega
  · refine ho5.put ?_ _
    intro j hj; have := hb5 j hj; omega
  · intro j hj; have := hb3 j hj; omega
  · intro j hj; have := hb5 j hj; omega
  · intro j hj hj'; have := hb3 j hj; have := hb5 j hj'; have := ho3.lt hj; omega
end Go.Ab.Ex
end
section
namespace Go.Ab.Ex
open Go.Proofs
set_option maxRecDepth 10000

theorem fm_set {α : Type} {f : α → List Value} {m : Nat} (hf : ∀ x, (f x).length = m) : ∀ (l : List α) (i j : Nat) (x x' : α) (v : Value), l[i]? = some x → j < m → (f x).set j v = f x' → (l.flatMap f).set (i * m + j) v = (l.set i x').flatMap f
  | [], i, j, x, x', v, h, _, _ => by simp at h
  | y :: l, 0, j, x, x', v, h, hj, he => by
    simp at h; subst h
    simp only [List.flatMap_cons, Nat.zero_mul, Nat.zero_add, List.set_cons_zero]
    rw [List.set_append_left _ _ (by rw [hf]; exact hj), he]
  | y :: l, i + 1, j, x, x', v, h, hj, he => by
    simp at h
    simp only [List.flatMap_cons, List.set_cons_succ]
    rw [List.set_append_right _ _ (by rw [hf, Nat.succ_mul]; omega), hf, show (i + 1) * m + j - m = i * m + j by rw [Nat.succ_mul]; omega, fm_set hf l i j x x' v h hj he]

def asTo (k : Int) (l : List GateM) (i : Nat) : List GateM := (l.take i).map (asG k) ++ l.drop i
theorem asTo_len (k : Int) (l : List GateM) (i : Nat) : (asTo k l i).length = l.length := by simp [asTo]; omega
theorem asTo_get {k : Int} {l : List GateM} {i : Nat} {x : GateM} (h : l[i]? = some x) : (asTo k l i)[i]? = some x := by
  have hi : i < l.length := by
    rcases Nat.lt_or_ge i l.length with h' | h'
    · exact h'
    · rw [List.getElem?_eq_none h'] at h; cases h
  unfold asTo
  rw [List.getElem?_append_right (by simp; omega)]
  simp [Nat.min_eq_left (Nat.le_of_lt hi), h]
theorem asTo_succ {k : Int} {l : List GateM} {i : Nat} {x : GateM} (h : l[i]? = some x) : asTo k l (i + 1) = (asTo k l i).set i (asG k x) := by
  have hi : i < l.length := by
    rcases Nat.lt_or_ge i l.length with h' | h'
    · exact h'
    · rw [List.getElem?_eq_none h'] at h; cases h
  have hx : l[i] = x := by rw [List.getElem?_eq_getElem hi] at h; exact Option.some.inj h
  unfold asTo
  rw [take_next h, List.map_append, List.set_append_right _ _ (by simp; omega), List.length_map, List.length_take, Nat.min_eq_left (Nat.le_of_lt hi), Nat.sub_self, List.drop_eq_getElem_cons hi, List.set_cons_zero]
  simp
theorem asTo_all (k : Int) (l : List GateM) : asTo k l l.length = l.map (asG k) := by simp [asTo]

theorem setSeg_one (c : List Value) (o : Nat) (v : Value) : setSeg c o [v] = c.set o v := (rfl)

theorem f40_c {F : Fr} {H : Heap} {v : Value} {g : CircM} {k : Int} (hv : CircR F H v g) (hl : g.gates.length < 1000000 ∧ g.outs.length < 1000000) {Q : Ret → Heap → Prop} (hQ : ∀ H' u, Ext H H' → CircOwn H H' u (g.as k) → Q (.ret u) H') : C 40 #[v, .int .i64 k] H Q := by
  obtain ⟨v1, v2, rfl, hg1, hg2⟩ := hv.noF.ex
  obtain ⟨ag, cg, rfl, h3, h4, hgA⟩ := hg1.ex
  obtain ⟨au, cu, rfl, h5, h6, huA⟩ := hg2.ex
  refine SemC_fn TT.ok fn40 rfl rfl ?_
  simp only [Try.f40, start, KC_normal, go_sem, Nat.reduceEqDiff, Nat.reduceAdd, reduceIte, reduceCtorEq, Nat.reduceLeDiff, Nat.reduceShiftRight, Nat.reduceAnd, Nat.reduceOr, Nat.reducePow, Nat.reduceBNe, Nat.reduceBEq]
  generalize hX : (H.push _).push _ = H1
  obtain ⟨hE1, h7, h8, hn1⟩ := pre2 hX
  clear hX
  simp only [start, KC_normal, go_sem, Nat.reduceEqDiff, Nat.reduceAdd, reduceIte, reduceCtorEq, Nat.reduceLeDiff, Nat.reduceShiftRight, Nat.reduceAnd, Nat.reduceOr, Nat.reducePow, Nat.reduceBNe, Nat.reduceBEq, h7]
  refine f10_c (hv.noF.step hE1.step) hl fun H2 u hE2 hown => ?_
  obtain ⟨vg, vo, b, c, rfl, ho1, ho2, hb, hc, hbc⟩ := hown.ex
  obtain ⟨a3, rfl⟩ := ho1.len
  obtain ⟨a5, rfl⟩ := ho2.len
  simp only [start, KC_normal, go_sem, Nat.reduceEqDiff, Nat.reduceAdd, reduceIte, reduceCtorEq, Nat.reduceLeDiff, Nat.reduceShiftRight, Nat.reduceAnd, Nat.reduceOr, Nat.reducePow, Nat.reduceBNe, Nat.reduceBEq]
  generalize hY : (H2.push _).put _ _ = H3
  obtain ⟨hE3, h9, hn3⟩ := new_put hY
  clear hY
  have hE13 := hE2.trans hE3
  have h83 := (hE13.get _ (by omega)).trans h8
  have hle2 := hE2.le
  refine wp_loop TT.ok rfl rfl (fun j s => ∃ tm H' i, s = ⟨tm, 30, [], false, H'⟩ ∧ j = g.gates.length - i ∧ i ≤ g.gates.length ∧ Ext H H' ∧ H3.next ≤ H'.next ∧
    H'.get (H.next + 1) = .cells true 4 [.slice none 0 0, .int .i64 0, .int .i64 0, .slice none 0 0] ∧ H'.get H2.next = .cells true 4 [.slice a3 g.gates.length g.gates.length, .int .i64 g.secrets, .int .i64 g.publics, .slice a5 g.outs.length g.outs.length] ∧
    Own1 H' 5 ((asTo k g.gates i).flatMap GateM.c) (.slice a3 g.gates.length g.gates.length) g.gates.length b ∧ Own1 H' 2 (g.outs.flatMap OutM.c) (.slice a5 g.outs.length g.outs.length) g.outs.length c ∧
    tm.get 1 = some (.int .i64 k) ∧ tm.get 4 = some (.pointer (some ⟨H.next + 1, 0, none⟩)) ∧ tm.get 5 = some (.pointer (some ⟨H2.next, 0, none⟩)) ∧ tm.get 6 = some (.int .i64 (i : Nat))) g.gates.length ?_ ?_
  · refine ⟨_, H3, 0, rfl, rfl, Nat.zero_le _, hE1.trans hE13, Nat.le_refl _, h83, h9, by simpa [asTo] using ho1.ext hE3, ho2.ext hE3, ?_, ?_, ?_, ?_⟩
    all_goals simp only [start, KC_normal, go_sem, Nat.reduceEqDiff, Nat.reduceAdd, reduceIte, reduceCtorEq, Nat.reduceLeDiff, Nat.reduceShiftRight, Nat.reduceAnd, Nat.reduceOr, Nat.reducePow, Nat.reduceBNe, Nat.reduceBEq]
    rfl
  · have hlb : ∀ j, b = some j → j < H2.next := fun j hj => ho1.lt hj
    have hlc : ∀ j, c = some j → j < H2.next := fun j hj => ho2.lt hj
    clear ho1 ho2 h83 h9 hown
    rintro j s - ⟨tm, H', i, rfl, hj, hi, hE, hle, h8, h9, ho1, ho2, t1, t4, t5, t6⟩
    simp only [start, KC_normal, go_sem, Nat.reduceEqDiff, Nat.reduceAdd, reduceIte, reduceCtorEq, Nat.reduceLeDiff, Nat.reduceShiftRight, Nat.reduceAnd, Nat.reduceOr, Nat.reducePow, Nat.reduceBNe, Nat.reduceBEq, t5, t6, h9]
    refine CN_split (fun hlt => ?_) (fun hge => ?_)
    · have hlt' : i < g.gates.length := by omega
      obtain ⟨x, hx⟩ : ∃ x, g.gates[i]? = some x := ⟨_, List.getElem?_eq_getElem hlt'⟩
      obtain ⟨bk, hbk⟩ := ho1.pos (by omega)
      obtain ⟨q1, q2, q3, q4⟩ := ho1.at hbk
      simp only [Value.slice.injEq, and_true] at q3
      subst q3
      have hx' := asTo_get (k := k) hx
      have hC : ∀ kk, kk < 5 → ((asTo k g.gates i).flatMap GateM.c)[i * 5 + kk]? = x.c[kk]? := fun kk hkk => fm_get GateM.len _ i kk x hx' hkk
      have hC0 := hC 0 (by omega)
      simp only [GateM.c, Nat.add_zero, List.getElem?_cons_zero] at hC0
      simp only [start, KC_normal, go_sem, Nat.reduceEqDiff, Nat.reduceAdd, reduceIte, reduceCtorEq, Nat.reduceLeDiff, Nat.reduceShiftRight, Nat.reduceAnd, Nat.reduceOr, Nat.reducePow, Nat.reduceBNe, Nat.reduceBEq, t5, t6, h9, ia_in _ _ _ _ _ hlt', q2]
      simp only [GateM.c, hC0, start, KC_normal, go_sem, Nat.reduceEqDiff, Nat.reduceAdd, reduceIte, reduceCtorEq, Nat.reduceLeDiff, Nat.reduceShiftRight, Nat.reduceAnd, Nat.reduceOr, Nat.reducePow, Nat.reduceBNe, Nat.reduceBEq]
      have hbl := hlb bk hbk
      have hbe := hb bk hbk
      refine CN_split (fun h12 => ?_) (fun h12 => ?_)
      · simp only [start, KC_normal, go_sem, Nat.reduceEqDiff, Nat.reduceAdd, reduceIte, reduceCtorEq, Nat.reduceLeDiff, Nat.reduceShiftRight, Nat.reduceAnd, Nat.reduceOr, Nat.reducePow, Nat.reduceBNe, Nat.reduceBEq, t1, t5, t6, h9, ia_in _ _ _ _ _ hlt', q2, setSeg_one]
        have hle5 : 0 + i * 5 + 0 + 1 ≤ ((asTo k g.gates i).flatMap GateM.c).length := by rw [fm_length GateM.len, asTo_len]; omega
        simp only [Nat.zero_add, Nat.add_zero] at hle5
        simp only [start, KC_normal, go_sem, Nat.reduceEqDiff, Nat.reduceAdd, reduceIte, reduceCtorEq, Nat.reduceLeDiff, Nat.reduceShiftRight, Nat.reduceAnd, Nat.reduceOr, Nat.reducePow, Nat.reduceBNe, Nat.reduceBEq, hle5, t1, t5, t6]
        have hset := fm_set GateM.len (asTo k g.gates i) i 0 x (asG k x) (.int .i64 k) hx' (by omega) (by simp only [asG, if_pos h12, GateM.c, List.set_cons_zero])
        rw [Nat.add_zero] at hset
        rw [hset, ← asTo_succ hx]
        refine ⟨g.gates.length - (i + 1), by omega, _, _, i + 1, rfl, rfl, by omega, hE.put (by omega) _, hle, ?_, ?_, ho1.set hbk (by rw [fm_length GateM.len, fm_length GateM.len, asTo_len, asTo_len]), ho2.put (fun j hj e => by subst e; exact hbc _ hbk hj) _, ?_, ?_, ?_, ?_⟩
        · rw [H_put_other _ _ _ _ (by omega)]; exact h8
        · rw [H_put_other _ _ _ _ (by omega)]; exact h9
        all_goals simp only [start, KC_normal, go_sem, Nat.reduceEqDiff, Nat.reduceAdd, reduceIte, reduceCtorEq, Nat.reduceLeDiff, Nat.reduceShiftRight, Nat.reduceAnd, Nat.reduceOr, Nat.reducePow, Nat.reduceBNe, Nat.reduceBEq, t1, t4, t5]
        rw [wrap_i64 _ (by omega) (by omega)]; simp
      · simp only [start, KC_normal, go_sem, Nat.reduceEqDiff, Nat.reduceAdd, reduceIte, reduceCtorEq, Nat.reduceLeDiff, Nat.reduceShiftRight, Nat.reduceAnd, Nat.reduceOr, Nat.reducePow, Nat.reduceBNe, Nat.reduceBEq, t6]
        have hsame : asTo k g.gates (i + 1) = asTo k g.gates i := by
          rw [asTo_succ hx, show asG k x = x from if_neg h12]
          apply List.ext_getElem?
          intro jj
          rw [List.getElem?_set]
          split
          · rename_i e; subst e; rw [asTo_len, if_pos hlt', hx']
          · rfl
        refine ⟨g.gates.length - (i + 1), by omega, _, _, i + 1, rfl, rfl, by omega, hE, hle, h8, h9, by rw [hsame]; exact ho1, ho2, ?_, ?_, ?_, ?_⟩
        all_goals simp only [start, KC_normal, go_sem, Nat.reduceEqDiff, Nat.reduceAdd, reduceIte, reduceCtorEq, Nat.reduceLeDiff, Nat.reduceShiftRight, Nat.reduceAnd, Nat.reduceOr, Nat.reducePow, Nat.reduceBNe, Nat.reduceBEq, t1, t4, t5]
        rw [wrap_i64 _ (by omega) (by omega)]; simp
    · have hi' : i = g.gates.length := by omega
      subst hi'
      rw [asTo_all] at ho1
      simp only [start, KC_normal, go_sem, Nat.reduceEqDiff, Nat.reduceAdd, reduceIte, reduceCtorEq, Nat.reduceLeDiff, Nat.reduceShiftRight, Nat.reduceAnd, Nat.reduceOr, Nat.reducePow, Nat.reduceBNe, Nat.reduceBEq, t4, t5, h8, h9, setSeg]
      refine hQ _ _ (hE.put (show H.next ≤ H.next + 1 by omega) _) ⟨_, _, b, c, rfl, ?_, ?_, fun j hj => by have := hb j hj; omega, fun j hj => by have := hc j hj; omega, hbc⟩
      · have := ho1.put (j := H.next + 1) (fun j hj => by have := hb j hj; omega) (.cells true 4 [.slice a3 g.gates.length g.gates.length, .int .i64 g.secrets, .int .i64 g.publics, .slice a5 g.outs.length g.outs.length])
        simpa [CircM.as] using this
      · have := ho2.put (j := H.next + 1) (fun j hj => by have := hc j hj; omega) (.cells true 4 [.slice a3 g.gates.length g.gates.length, .int .i64 g.secrets, .int .i64 g.publics, .slice a5 g.outs.length g.outs.length])
        simpa [CircM.as] using this
end Go.Ab.Ex
end
section
namespace Go.Ab.Ex
open Go.Proofs
theorem pr_neq (a b : Bool) (x y : Operand) : pureRun Try.prog (do
      let r ← (do
        eqGuard BinOp.neq 4 x y (Value.bool a) (Value.bool b)
        binOp BinOp.neq 4 (Value.bool a) (Value.bool b))
      pure (Next.value r)) = some (.value (.bool (a != b))) := by
  cases a <;> cases b <;> cases x <;> cases y <;> kernel_rfl
theorem pr_eql (a b : Bool) (x y : Operand) : pureRun Try.prog (do
      let r ← (do
        eqGuard BinOp.eql 4 x y (Value.bool a) (Value.bool b)
        binOp BinOp.eql 4 (Value.bool a) (Value.bool b))
      pure (Next.value r)) = some (.value (.bool (a == b))) := by
  cases a <;> cases b <;> cases x <;> cases y <;> kernel_rfl
section
variable (ρ : Operand → Value) (d : Option Tmp) (ty : TypeId) (ps : String) (af : Array Edge) (gd : Option (Nat × Bool)) (x y : Operand) (a b : Bool)
theorem bin_neqb (hx : ρ x = .bool a) (hy : ρ y = .bool b) : binO Try.prog TT ρ ⟨d, .binOp .neq 4 x y 4, ty, ps, af, gd⟩ .neq 4 (.bool a) (.bool b) = some (.bool (a != b)) := by
  have e : eqC TT 4 (.bool a) (.bool b) = none := by simp only [eqC, descOf, ty4]; rfl
  simp only [binO, isEq, e]
  unfold flatRun
  have e0 : (⟨d, .binOp .neq 4 x y 4, ty, ps, af, gd⟩ : Oper).op.operands.toList.all (fun x => flat (ρ x)) = true := by
    simp [Op.operands, hx, hy, flat, flat1, flat2]
  have e1 : execOp ρ ⟨d, .binOp .neq 4 x y 4, ty, ps, af, gd⟩ = (do
      let r ← (do
        eqGuard BinOp.neq 4 x y (Value.bool a) (Value.bool b)
        binOp BinOp.neq 4 (Value.bool a) (Value.bool b))
      pure (Next.value r)) := by
    unfold execOp
    simp only [hx, hy]
  rw [if_pos e0, e1, pr_neq]
  rfl
theorem bin_eqlb (hx : ρ x = .bool a) (hy : ρ y = .bool b) : binO Try.prog TT ρ ⟨d, .binOp .eql 4 x y 4, ty, ps, af, gd⟩ .eql 4 (.bool a) (.bool b) = some (.bool (a == b)) := by
  have e : eqC TT 4 (.bool a) (.bool b) = none := by simp only [eqC, descOf, ty4]; rfl
  simp only [binO, isEq, e]
  unfold flatRun
  have e0 : (⟨d, .binOp .eql 4 x y 4, ty, ps, af, gd⟩ : Oper).op.operands.toList.all (fun x => flat (ρ x)) = true := by
    simp [Op.operands, hx, hy, flat, flat1, flat2]
  have e1 : execOp ρ ⟨d, .binOp .eql 4 x y 4, ty, ps, af, gd⟩ = (do
      let r ← (do
        eqGuard BinOp.eql 4 x y (Value.bool a) (Value.bool b)
        binOp BinOp.eql 4 (Value.bool a) (Value.bool b))
      pure (Next.value r)) := by
    unfold execOp
    simp only [hx, hy]
  rw [if_pos e0, e1, pr_eql]
  rfl
end
attribute [go_sem] bin_neqb bin_eqlb
end Go.Ab.Ex
end
section
namespace Go.Ab.Ex
open Go.Proofs
set_option maxRecDepth 10000

theorem skip_put {H H' : Heap} {n k : Nat} {c : AObj} (hX : (H.skip n).put (H.next + k) c = H') (hk : k < n) : Ext H H' ∧ H'.get (H.next + k) = c ∧ H'.next = H.next + n := by
  subst hX; exact ⟨((Ext.refl H).skip n).put (Nat.le_add_right _ _) c, H_put_same _ _ _, rfl⟩

theorem rowOf_get {rows : List (List Int)} {i : Int} (h0 : 0 ≤ i) (h1 : i < rows.length) : rows[i.toNat]? = some (rowOf rows i) := by
  have : i.toNat < rows.length := by omega
  simp [rowOf, List.getElem?_eq_getElem this]

/-- the block of rows -/
theorem RowsR.all {F : Fr} {H : Heap} {vl : Value} {rows : List (List Int)} (h : RowsR F H vl rows) (hp : 0 < rows.length) : ∃ b o own C cap, vl = .slice (some ⟨b, o, none⟩) rows.length cap ∧ Kp F H b (.cells own 1 C) ∧
    ∀ i : Int, 0 ≤ i → i < rows.length → ∃ a2 c2, C[o + i.toNat * 1]? = some (.slice a2 (rowOf rows i).length c2) ∧ Sl F H 1 (.slice a2 (rowOf rows i).length c2) (rowOf rows i).length ((rowOf rows i).flatMap intC) := by
  obtain ⟨vs, hl, hs, hv⟩ := h.ex
  obtain ⟨a, cap, rfl, -, -, hA⟩ := hs.ex
  obtain ⟨b, o, own, C, rfl, hk, hC⟩ := hA.all cellC_len (by omega)
  refine ⟨b, o, own, C, cap, by rw [hl], hk, fun i h0 h1 => ?_⟩
  obtain ⟨u, hu, hsl⟩ := hv _ _ (rowOf_get h0 h1)
  obtain ⟨a2, c2, rfl, -⟩ := hsl.ex
  have := (hC _ _ hu).1 0 (by omega)
  simp only [cellC, Nat.add_zero, List.getElem?_cons_zero] at this
  exact ⟨a2, c2, this, hsl⟩

theorem sec_get {g : CircM} {i : Int} (h0 : 0 ≤ i) (h1 : i < g.gates.length) : ∃ x, g.gates[i.toNat]? = some x ∧ g.sec i = x.S := by
  have : i.toNat < g.gates.length := by omega
  exact ⟨g.gates[i.toNat], by simp, by simp [CircM.sec, this]⟩

section
variable {F : Fr} {H : Heap} {bm : Nat} {inn : Int} {ops : List OpM} {outs : List Int} {d : Nat} {g : CircM} {rows : List (List Int)} {vg vl : Value} {Q : Ret → Heap → Prop}


end
end Go.Ab.Ex
end
