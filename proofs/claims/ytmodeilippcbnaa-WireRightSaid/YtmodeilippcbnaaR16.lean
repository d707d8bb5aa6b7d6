/- Parts of the proof, joined by program: Wire: a gate's wires, by the document: element for element; Wire: the model of what a graph comes to, and what is so of it; Wire: what is so of the model, gate by gate; Wire: a gate's wires, by the document: shifts. PRINTED BY wip/tools/gen16.py; Wire: a gate's wires, by the document: two, not both secret. PRINTED BY wip/tools/gen16.py; Wire: a gate's wires, by the document: two, one ahead of the other. PRINTED BY wip/tools/gen16.py; Wire: a gate's wires, by the document: two that are secret. PRINTED BY wip/tools/gen16.py; Wire: a gate's wires, by the document: any gate of a graph; Wire: the document's Expand: pieces; Wire: the program's maker of code; Wire: the program's maker: a step for each wire; Wire: lists behind one another; Wire: slices.Concat of two lists; Wire: the program's maker: a gadget's steps; Wire: a gate's wires, by the program: what is needed; gates that take none. -/
import Derived.Test.YtmodeilippcbnaaR12
import Derived.Test.YtmodeilippcbnaaR15
import Derived.Test.YtmodeilippcbnaaR14
set_option linter.all false
section
namespace Go.Ab.Ex
open Go.Proofs
set_option maxRecDepth 10000

section
variable {kp : Bool} {k n : Int} {N : BitVec 32} {a : List Int} {bs : Nat → Int} {i : Nat} {y : Int}
theorem elOps_len : (elOps kp k N a bs).length = if kp then min 1 a.length else a.length := by
  unfold elOps; cases kp <;> simp
theorem elRow_len : (elRow kp a n).length = a.length := by simp [elRow]
theorem el_next (h : a[i]? = some y) (hc : (kp && decide (0 < i)) = false) : (elOps kp k N a bs).take (i + 1) = (elOps kp k N a bs).take i ++ [⟨k, y, bs i, N⟩] ∧ (elRow kp a n).take (i + 1) = (elRow kp a n).take i ++ [n + i] ∧ ((elOps kp k N a bs).take i).length = i := by
  have hi : i < a.length := by
    rcases Nat.lt_or_ge i a.length with h' | h'
    · exact h'
    · rw [List.getElem?_eq_none h'] at h; cases h
  refine ⟨take_next ?_, take_next ?_, ?_⟩
  · unfold elOps
    rw [List.getElem?_mapIdx]
    cases kp with
    | false => simp [h]
    | true =>
      have : i = 0 := by simpa using hc
      subst this
      rw [if_pos rfl, List.getElem?_take, if_pos (by omega), h]; rfl
  · unfold elRow
    rw [List.getElem?_mapIdx, h]
    simp [hc]
  · rw [List.length_take, elOps_len]
    cases kp with
    | false => simp; omega
    | true =>
      have : i = 0 := by simpa using hc
      subst this; simp
end

section
variable {F : Fr} {H : Heap} {bm : Nat} {inn : Int} {ops : List OpM} {outs : List Int} {d : Nat} {g : CircM} {rows : List (List Int)} {vg vl : Value} {Q : Ret → Heap → Prop}

end
end Go.Ab.Ex
end
section
namespace Go.Ab.Ex
open Go.Proofs
set_option maxRecDepth 10000

def wid (d : Nat) (s : Bool) : Nat := if s then d + 1 else 1

def stepG (g : CircM) (d : Nat) (inn : Int) (s : List OpM × List (List Int)) (x : GateM) : List OpM × List (List Int) :=
  (s.1 ++ (gateM g d s.2 (inn + s.1.length) x).1, s.2 ++ [(gateM g d s.2 (inn + s.1.length) x).2])
def runG (g : CircM) (d : Nat) (inn : Int) (l : List GateM) : List OpM × List (List Int) := l.foldl (stepG g d inn) ([], [])
theorem runG_next (g : CircM) (d : Nat) (inn : Int) (l : List GateM) (x : GateM) : runG g d inn (l ++ [x]) = stepG g d inn (runG g d inn l) x := by
  simp [runG, List.foldl_append]

def outOps (d : Nat) (row : List Int) : List OpM := (List.range (d + 1)).map fun k => if k < row.length then ⟨8, row.getD k 0, 0, 0⟩ else ⟨7, 0, 0, 0⟩
def stepO (d : Nat) (inn : Int) (rows : List (List Int)) (s : List OpM × List Int) (o : OutM) : List OpM × List Int :=
  (s.1 ++ outOps d (rowOf rows o.At), s.2 ++ (List.range (d + 1)).map fun (k : Nat) => inn + s.1.length + (k : Int))
def runO (d : Nat) (inn : Int) (rows : List (List Int)) (ops : List OpM) (l : List OutM) : List OpM × List Int := l.foldl (stepO d inn rows) (ops, [])
theorem runO_next (d : Nat) (inn : Int) (rows : List (List Int)) (ops : List OpM) (l : List OutM) (o : OutM) : runO d inn rows ops (l ++ [o]) = stepO d inn rows (runO d inn rows ops l) o := by
  simp [runO, List.foldl_append]

def innM (g : CircM) (d : Nat) : Int := g.secrets * (d + 1) + g.publics
def codeM (g : CircM) (d : Nat) : List OpM × List Int :=
  runO d (innM g d) (runG g d (innM g d) g.gates).2 (runG g d (innM g d) g.gates).1 g.outs

/-! ### what is so of a graph's gates -/

/-- wires that are there -/
def WiresOk (l : List Int) (n : Int) : Prop := ∀ x ∈ l, 0 ≤ x ∧ x < n
theorem WiresOk.mono {l : List Int} {n m : Int} (h : WiresOk l n) (hm : n ≤ m) : WiresOk l m := fun x hx => ⟨(h x hx).1, by have := (h x hx).2; omega⟩
theorem WiresOk.getD {l : List Int} {n : Int} (h : WiresOk l n) {i : Nat} (hi : i < l.length) : 0 ≤ l.getD i 0 ∧ l.getD i 0 < n := by
  rw [List.getD_eq_getElem?_getD, List.getElem?_eq_getElem hi]
  exact h _ (List.getElem_mem hi)

/-- steps that are fit, from a number of wires on -/
def OpsOk (inn : Int) (k : Nat) (l : List OpM) : Prop := ∀ (i : Nat) (o : OpM), l[i]? = some o → opOkM inn (k + i) o
theorem OpsOk.append {inn : Int} {k : Nat} {l m : List OpM} (h : OpsOk inn k l) (h2 : OpsOk inn (k + l.length) m) : OpsOk inn k (l ++ m) := by
  intro i o hio
  by_cases hi : i < l.length
  · rw [List.getElem?_append_left hi] at hio; exact h i o hio
  · rw [List.getElem?_append_right (by omega)] at hio
    have := h2 _ o hio
    rwa [show k + l.length + (i - l.length) = k + i by omega] at this

theorem opOk_two {inn : Int} {i : Nat} {k a b : Int} (hk : k = 1 ∨ k = 2) (ha : 0 ≤ a ∧ a < inn + i) (hb : 0 ≤ b ∧ b < inn + i) : opOkM inn i ⟨k, a, b, 0⟩ := by
  have e0 : (((0 : BitVec 32).toNat : Nat) : Int) = 0 := rfl
  unfold opOkM
  dsimp only
  rcases hk with rfl | rfl
  · have e : takesO 1 = 2 := rfl
    rw [e]; exact ⟨by omega, by omega, by omega, by omega, fun _ => ha, fun _ => hb, by omega, fun _ => e0⟩
  · have e : takesO 2 = 2 := rfl
    rw [e]; exact ⟨by omega, by omega, by omega, by omega, fun _ => ha, fun _ => hb, by omega, fun _ => e0⟩
theorem opOk_rnd {inn : Int} {i : Nat} : opOkM inn i ⟨0, 0, 0, 0⟩ := by
  have e0 : (((0 : BitVec 32).toNat : Nat) : Int) = 0 := rfl
  have e : takesO 0 = 0 := rfl
  unfold opOkM
  dsimp only
  rw [e]; exact ⟨by omega, by omega, fun _ => rfl, fun _ => rfl, by omega, by omega, by omega, fun _ => e0⟩
theorem opOk_one {inn : Int} {i : Nat} {k a : Int} {n : BitVec 32} (hk : k = 3 ∨ k = 8 ∨ k = 4 ∨ k = 5 ∨ k = 6) (ha : 0 ≤ a ∧ a < inn + i) (hn : k = 3 ∨ k = 8 → (n.toNat : Int) = 0) (hn2 : (n.toNat : Int) ≤ 31) : opOkM inn i ⟨k, a, 0, n⟩ := by
  have e : takesO k = 1 := by rcases hk with rfl | rfl | rfl | rfl | rfl <;> rfl
  unfold opOkM
  dsimp only
  rw [e]
  exact ⟨by omega, by omega, by omega, fun _ => rfl, fun _ => ha, by omega, fun _ => hn2, fun h => hn (by omega)⟩
theorem opOk_const {inn : Int} {i : Nat} {n : BitVec 32} : opOkM inn i ⟨7, 0, 0, n⟩ := by
  have e : takesO 7 = 0 := rfl
  unfold opOkM
  dsimp only
  rw [e]; exact ⟨by omega, by omega, fun _ => rfl, fun _ => rfl, by omega, by omega, by omega, by omega⟩

theorem atM_ok {inp : List Int} {n x : Int} {t : Nat} (hi : WiresOk inp n) (h0 : 0 ≤ x) (h1 : x < inp.length + t) (hn : 0 ≤ n) : 0 ≤ atM inp n x ∧ atM inp n x < n + t := by
  unfold atM
  split
  · have := hi.getD (i := x.toNat) (by omega); omega
  · omega

theorem gadget_ok {and : Bool} {d : Nat} (hd : 1 ≤ d ∧ d ≤ 6) {inp : List Int} (hlen : (inp.length : Int) = gIn and d) {inn : Int} {k : Nat} (h0 : 0 ≤ inn) (hi : WiresOk inp (inn + k)) :
    OpsOk inn k (gadgetM and d inp (inn + k)).1 ∧ WiresOk (gadgetM and d inp (inn + k)).2 (inn + k + (gadgetM and d inp (inn + k)).1.length) ∧ (gadgetM and d inp (inn + k)).2.length = d + 1 ∧ (gadgetM and d inp (inn + k)).1.length ≤ 154 := by
  have hG := gadOk and hd.1 hd.2
  refine ⟨fun i o hio => ?_, fun x hx => ?_, ?_, ?_⟩
  · simp only [gadgetM, List.getElem?_map, Option.map_eq_some_iff] at hio
    obtain ⟨p, hp, rfl⟩ := hio
    obtain ⟨h1, hN⟩ := hG.op i p hp
    rcases h1 with ⟨hK, hA, hB⟩ | ⟨hK, hA0, hA1, hB0, hB1⟩
    · have : gopM inp (inn + k) p = ⟨0, 0, 0, 0⟩ := by unfold gopM; rw [hK]; simp [takesO]
      rw [this]; exact opOk_rnd
    · have : gopM inp (inn + k) p = ⟨p.K, atM inp (inn + k) p.A, atM inp (inn + k) p.B, 0⟩ := by
        unfold gopM
        rw [if_pos (by rcases hK with h | h <;> rw [h] <;> rfl)]
      rw [this]
      have q1 := atM_ok (t := i) hi hA0 (by omega) (by omega)
      have q2 := atM_ok (t := i) hi hB0 (by omega) (by omega)
      exact opOk_two hK ⟨q1.1, by omega⟩ ⟨q2.1, by omega⟩
  · simp only [gadgetM, List.mem_map] at hx
    obtain ⟨y, hy, rfl⟩ := hx
    have := hG.out y hy
    simp only [gadgetM, List.length_map]
    exact atM_ok hi this.1 (by omega) (by omega)
  · simp [gadgetM, hG.outs]
  · simp only [gadgetM, List.length_map]
    have : ((List.range 7).all fun d => d == 0 || decide ((gadOps true d).length ≤ 154) && decide ((gadOps false d).length ≤ 154)) = true := by decide +kernel
    rw [List.all_eq_true] at this
    have := this d (by simp; omega)
    simp only [Bool.or_eq_true, beq_iff_eq, Bool.and_eq_true, decide_eq_true_eq] at this
    rcases this with h | h
    · omega
    · cases and
      · exact h.2
      · exact h.1
end Go.Ab.Ex
end
section
namespace Go.Ab.Ex
open Go.Proofs
set_option maxRecDepth 10000

theorem as_sec (g : CircM) (k i : Int) : (g.as k).sec i = g.sec i := by
  unfold CircM.sec CircM.as
  simp only [List.getElem?_map]
  cases g.gates[i.toNat]? with
  | none => rfl
  | some x => simp only [Option.map_some, Option.elim_some, asG]; split <;> rfl

inductive GateK (g : CircM) (i : Nat) (x : GateM) : Prop where
  | const (h : x.K = 0) (hS : x.S = false)
  | sec (h : x.K = 1) (hN : (x.N.toNat : Int) < g.secrets) (hS : x.S = true)
  | pub (h : x.K = 2) (hN : (x.N.toNat : Int) < g.publics) (hS : x.S = false)
  | ref (h : x.K = 12) (hA : 0 ≤ x.A ∧ x.A < i) (hs : g.sec x.A = true) (hS : x.S = true)
  | two (h : x.K = 3 ∨ x.K = 4) (hA : 0 ≤ x.A ∧ x.A < i) (hB : 0 ≤ x.B ∧ x.B < i) (hS : x.S = (g.sec x.A || g.sec x.B))
  | not (h : x.K = 5) (hA : 0 ≤ x.A ∧ x.A < i) (hN : (x.N.toNat : Int) = 0) (hS : x.S = g.sec x.A)
  | sh (h : x.K = 6 ∨ x.K = 7 ∨ x.K = 8) (hA : 0 ≤ x.A ∧ x.A < i) (hN : (x.N.toNat : Int) ≤ 31) (hS : x.S = g.sec x.A)

theorem graph_gate {g : CircM} (h : GraphOk g) {i : Nat} {x : GateM} (hx : g.gates[i]? = some x) : GateK g i x := by
  have h1 := h.c.t i _ (as_get (k := 5) hx)
  have h2 := h.k i _ (as_get (k := 5) hx)
  by_cases h12 : x.K = 12
  · have hK : (asG 5 x).K = 5 := by simp [asG, h12]
    have hAa : (asG 5 x).A = x.A := by simp [asG, h12]
    have hSa : (asG 5 x).S = x.S := by simp [asG, h12]
    obtain ⟨k1, k2, k3, k4⟩ := (gOk_5 hK).1 h1
    have hs := h.r i x hx h12
    rw [hAa] at k2 k4
    rw [hSa, as_sec, hs] at k4
    exact .ref h12 k2 hs k4
  · have ha : asG 5 x = x := if_neg h12
    rw [ha] at h1 h2
    have hr := h1.1
    have hc : x.K = 0 ∨ x.K = 1 ∨ x.K = 2 ∨ (x.K = 3 ∨ x.K = 4) ∨ x.K = 5 ∨ (x.K = 6 ∨ x.K = 7 ∨ x.K = 8) := by omega
    rcases hc with hK | hK | hK | hK | hK | hK
    · exact .const hK ((gOk_0 hK).1 h1).2.2
    · obtain ⟨-, -, k3, k4⟩ := (gOk_1 hK).1 h1; exact .sec hK k3 k4
    · obtain ⟨-, -, k3, k4⟩ := (gOk_2 hK).1 h1; exact .pub hK k3 k4
    · obtain ⟨k1, k2, -, k4⟩ := (gOk_two (by omega)).1 h1
      rw [as_sec, as_sec] at k4
      exact .two hK k1 k2 k4
    · obtain ⟨-, k2, k3, k4⟩ := (gOk_5 hK).1 h1
      rw [as_sec] at k4
      exact .not hK k2 k3 k4
    · obtain ⟨-, k2, k3, k4⟩ := (gOk_678 hK).1 h1
      rw [as_sec] at k4
      exact .sh hK k2 k3 k4

/-- so far -/
structure RowsOk (g : CircM) (d : Nat) (inn : Int) (i : Nat) (ops : List OpM) (rows : List (List Int)) : Prop where
  len : rows.length = i
  wid : ∀ k : Int, 0 ≤ k → k < i → (rowOf rows k).length = wid d (g.sec k)
  wires : ∀ k : Int, 0 ≤ k → k < i → WiresOk (rowOf rows k) (inn + ops.length)
  fit : OpsOk inn 0 ops
  n : ops.length ≤ 160 * i

/-- what a gate comes to -/
structure GateOut (d : Nat) (inn : Int) (k : Nat) (s : Bool) (r : List OpM × List Int) : Prop where
  fit : OpsOk inn k r.1
  wires : WiresOk r.2 (inn + k + r.1.length)
  wid : r.2.length = wid d s
  n : r.1.length ≤ 160

theorem el_out {d : Nat} {inn : Int} {k : Nat} {kp s : Bool} {op : Int} {N : BitVec 32} {a : List Int} {bs : Nat → Int} (h0 : 0 ≤ inn) (hd : d ≤ 6) (ha : WiresOk a (inn + k)) (hw : a.length = wid d s)
    (hop : ∀ i y, a[i]? = some y → opOkM inn (k + i) ⟨op, y, bs i, N⟩) : GateOut d inn k s (elOps kp op N a bs, elRow kp a (inn + k)) := by
  have hwl : a.length ≤ 7 := by rw [hw]; unfold wid; split <;> omega
  have hpos : 0 < a.length := by rw [hw]; unfold wid; split <;> omega
  refine ⟨fun i o hio => ?_, fun x hx => ?_, by rw [elRow_len]; exact hw, by rw [elOps_len]; split <;> omega⟩
  · unfold elOps at hio
    rw [List.getElem?_mapIdx, Option.map_eq_some_iff] at hio
    obtain ⟨y, hy, rfl⟩ := hio
    refine hop i y ?_
    cases kp with
    | false => exact hy
    | true =>
      simp only [if_true] at hy
      rw [List.getElem?_take] at hy
      split at hy
      · exact hy
      · cases hy
  · obtain ⟨i, hi⟩ := List.getElem?_of_mem hx
    unfold elRow at hi
    rw [List.getElem?_mapIdx, Option.map_eq_some_iff] at hi
    obtain ⟨y, hy, rfl⟩ := hi
    have hy2 := ha y (List.mem_of_getElem? hy)
    have hil := lt_of_get hy
    rw [elOps_len]
    cases kp with
    | false => simp only [Bool.false_and, Bool.false_eq_true, if_false]; omega
    | true =>
      simp only [Bool.true_and, decide_eq_true_eq, if_true]
      split <;> omega

theorem gate_out {g : CircM} {d : Nat} (hd : 1 ≤ d ∧ d ≤ 6) {i : Nat} {ops : List OpM} {rows : List (List Int)} {x : GateM} (hs : 0 ≤ g.secrets) (hp : 0 ≤ g.publics) (hx : GateK g i x) (hR : RowsOk g d (innM g d) i ops rows) :
    GateOut d (innM g d) ops.length x.S (gateM g d rows (innM g d + ops.length) x) := by
  have hi0 : 0 ≤ innM g d := by
    unfold innM
    have : 0 ≤ g.secrets * ((d : Int) + 1) := Int.mul_nonneg hs (by omega)
    omega
  cases hx with
  | const h hS =>
    have e : gateM g d rows (innM g d + ops.length) x = ([⟨7, 0, 0, x.N⟩], [innM g d + ops.length]) := by simp [gateM, h]
    rw [e, hS]
    refine ⟨fun i o hio => ?_, fun y hy => ?_, rfl, by simp⟩
    · have hl := lt_of_get hio
      simp at hl
      subst hl
      simp at hio
      subst hio
      exact opOk_const
    · simp at hy; subst hy; simp; omega
  | sec h hN hS =>
    have e : gateM g d rows (innM g d + ops.length) x = ([], (List.range (d + 1)).map fun (i : Nat) => (x.N.toNat : Int) * (d + 1) + i) := by simp [gateM, h]
    rw [e, hS]
    refine ⟨fun i o hio => by simp at hio, fun y hy => ?_, by simp [wid], by simp⟩
    simp only [List.mem_map, List.mem_range] at hy
    obtain ⟨k, hk, rfl⟩ := hy
    have h1 : ((x.N.toNat : Int) + 1) * ((d : Int) + 1) ≤ g.secrets * ((d : Int) + 1) := Int.mul_le_mul_of_nonneg_right (by omega) (by omega)
    rw [Int.add_mul, Int.one_mul] at h1
    have h2 : 0 ≤ (x.N.toNat : Int) * ((d : Int) + 1) := Int.mul_nonneg (by omega) (by omega)
    simp only [innM, List.length_nil]
    omega
  | pub h hN hS =>
    have e : gateM g d rows (innM g d + ops.length) x = ([], [g.secrets * (d + 1) + x.N.toNat]) := by simp [gateM, h]
    rw [e, hS]
    refine ⟨fun i o hio => by simp at hio, fun y hy => ?_, rfl, by simp⟩
    simp at hy
    subst hy
    have h2 : 0 ≤ g.secrets * ((d : Int) + 1) := Int.mul_nonneg hs (by omega)
    simp only [innM, List.length_nil]
    omega
  | ref h hA hs' hS =>
    have e : gateM g d rows (innM g d + ops.length) x = gadgetM false d (rowOf rows x.A) (innM g d + ops.length) := by simp [gateM, h]
    rw [e, hS]
    have hl := hR.wid x.A hA.1 hA.2
    rw [hs'] at hl
    obtain ⟨h1, h2, h3, h4⟩ := gadget_ok hd (and := false) (inp := rowOf rows x.A) (by rw [hl]; simp [wid, gIn]) hi0 (hR.wires x.A hA.1 hA.2)
    exact ⟨h1, h2, by rw [h3]; rfl, by omega⟩
  | two h hA hB hS =>
    have hlA := hR.wid x.A hA.1 hA.2
    have hlB := hR.wid x.B hB.1 hB.2
    have hwA := hR.wires x.A hA.1 hA.2
    have hwB := hR.wires x.B hB.1 hB.2
    by_cases hboth : x.K = 3 ∧ g.sec x.A = true ∧ g.sec x.B = true
    · obtain ⟨h3, sA, sB⟩ := hboth
      have e : gateM g d rows (innM g d + ops.length) x = gadgetM true d (rowOf rows x.A ++ rowOf rows x.B) (innM g d + ops.length) := by simp [gateM, h3, sA, sB]
      rw [sA] at hlA
      rw [sB] at hlB
      rw [e, hS, sA, sB]
      obtain ⟨h1, h2, h3, h4⟩ := gadget_ok hd (and := true) (inp := rowOf rows x.A ++ rowOf rows x.B) (by rw [List.length_append, hlA, hlB]; simp [wid, gIn]; omega) hi0 (fun y hy => by
        rcases List.mem_append.1 hy with h | h
        · exact hwA y h
        · exact hwB y h)
      exact ⟨h1, h2, by rw [h3]; rfl, by omega⟩
    · have e : gateM g d rows (innM g d + ops.length) x = twoM g rows (innM g d + ops.length) x := by
        unfold gateM
        rw [if_neg (by omega), if_neg (by omega), if_neg (by omega), if_neg (by omega), if_neg hboth, if_pos h]
      rw [e]
      unfold twoM
      cases hsw : (g.sec x.B && !g.sec x.A) with
      | true =>
        simp only [Bool.and_eq_true, Bool.not_eq_true'] at hsw
        simp only [hsw.1, hsw.2, if_true, Bool.not_false, Bool.and_true, Bool.false_eq_true, if_false] at *
        rw [hS]
        refine el_out hi0 hd.2 hwB hlB fun i y hy => ?_
        have hy2 := hwB y (List.mem_of_getElem? hy)
        have hq := hwA.getD (i := 0) (by rw [hlA]; unfold wid; simp)
        refine opOk_two (by rcases h with h | h <;> rw [h] <;> decide) ⟨hy2.1, by omega⟩ ⟨hq.1, by omega⟩
      | false =>
        simp only [Bool.false_eq_true, if_false]
        have hS' : x.S = g.sec x.A := by
          rw [hS]; revert hsw; cases g.sec x.A <;> cases g.sec x.B <;> simp
        rw [hS']
        refine el_out hi0 hd.2 hwA hlA fun i y hy => ?_
        have hy2 := hwA y (List.mem_of_getElem? hy)
        have hil := lt_of_get hy
        have hq := hwB.getD (i := if g.sec x.B = true then i else 0) (by
          rw [hlB]
          revert hsw
          cases hb : g.sec x.B
          · unfold wid; simp
          · cases ha : g.sec x.A
            · simp
            · intro _; rw [hlA, ha] at hil; simpa using hil)
        refine opOk_two (by rcases h with h | h <;> rw [h] <;> decide) ⟨hy2.1, by omega⟩ ⟨hq.1, by omega⟩
  | not h hA hN hS =>
    have e : gateM g d rows (innM g d + ops.length) x = (elOps true 3 x.N (rowOf rows x.A) (fun _ => 0), elRow true (rowOf rows x.A) (innM g d + ops.length)) := by simp [gateM, h, stepOf]
    rw [e, hS]
    refine el_out hi0 hd.2 (hR.wires x.A hA.1 hA.2) (hR.wid x.A hA.1 hA.2) fun i y hy => ?_
    have hy2 := hR.wires x.A hA.1 hA.2 y (List.mem_of_getElem? hy)
    exact opOk_one (by omega) ⟨hy2.1, by omega⟩ (fun _ => hN) (by omega)
  | sh h hA hN hS =>
    have e : gateM g d rows (innM g d + ops.length) x = (elOps false (stepOf x.K) x.N (rowOf rows x.A) (fun _ => 0), elRow false (rowOf rows x.A) (innM g d + ops.length)) := by
      rcases h with h | h | h <;> simp [gateM, h, stepOf]
    rw [e, hS]
    refine el_out hi0 hd.2 (hR.wires x.A hA.1 hA.2) (hR.wid x.A hA.1 hA.2) fun i y hy => ?_
    have hy2 := hR.wires x.A hA.1 hA.2 y (List.mem_of_getElem? hy)
    refine opOk_one (by rcases h with h | h | h <;> rw [h] <;> decide) ⟨hy2.1, by omega⟩ (fun hk => ?_) hN
    exfalso
    rcases h with h | h | h <;> rw [h] at hk <;> revert hk <;> decide

theorem rowOf_append {rows : List (List Int)} {r : List Int} {k : Int} (h0 : 0 ≤ k) : rowOf (rows ++ [r]) k = if k < rows.length then rowOf rows k else if k = rows.length then r else [] := by
  unfold rowOf
  rw [List.getD_eq_getElem?_getD, List.getD_eq_getElem?_getD]
  by_cases h : k < rows.length
  · rw [if_pos h, List.getElem?_append_left (by omega)]
  · rw [if_neg h]
    by_cases h2 : k = rows.length
    · rw [if_pos h2, List.getElem?_append_right (by omega)]
      have : k.toNat - rows.length = 0 := by omega
      simp [this]
    · rw [if_neg h2, List.getElem?_eq_none (by simp; omega)]; rfl

theorem rows_next {g : CircM} {d : Nat} {i : Nat} {ops : List OpM} {rows : List (List Int)} {x : GateM} {inn : Int} {r : List OpM × List Int} (hx : g.gates[i]? = some x) (hR : RowsOk g d inn i ops rows) (hG : GateOut d inn ops.length x.S r) :
    RowsOk g d inn (i + 1) (ops ++ r.1) (rows ++ [r.2]) := by
  have hsec : g.sec (i : Int) = x.S := by simp [CircM.sec, hx]
  refine ⟨by simp [hR.len], fun k h0 h1 => ?_, fun k h0 h1 => ?_, hR.fit.append (by simpa using hG.fit), by have := hR.n; have := hG.n; rw [List.length_append]; omega⟩
  · rw [rowOf_append h0, hR.len]
    by_cases h : k < i
    · rw [if_pos h]; exact hR.wid k h0 h
    · have : k = i := by omega
      subst this
      rw [if_neg (by omega), if_pos rfl, hsec]; exact hG.wid
  · rw [rowOf_append h0, hR.len, List.length_append]
    by_cases h : k < i
    · rw [if_pos h]; exact (hR.wires k h0 h).mono (by omega)
    · have : k = i := by omega
      subst this
      rw [if_neg (by omega), if_pos rfl]; exact hG.wires.mono (by omega)

theorem rows_zero (g : CircM) (d : Nat) (inn : Int) : RowsOk g d inn 0 [] [] := ⟨rfl, fun k h0 h1 => by omega, fun k h0 h1 => by omega, fun i o h => by simp at h, by simp⟩

theorem rows_run {g : CircM} (h : GraphOk g) {d : Nat} (hd : 1 ≤ d ∧ d ≤ 6) : ∀ i, i ≤ g.gates.length → RowsOk g d (innM g d) i (runG g d (innM g d) (g.gates.take i)).1 (runG g d (innM g d) (g.gates.take i)).2
  | 0, _ => rows_zero g d _
  | i + 1, hi => by
    have ih := rows_run h hd i (by omega)
    have hx : g.gates[i]? = some g.gates[i] := List.getElem?_eq_getElem (by omega)
    have hs := h.c.s
    have hp := h.c.p
    rw [take_next hx, runG_next]
    exact rows_next hx ih (gate_out hd hs.1 hp.1 (graph_gate h hx) ih)
end Go.Ab.Ex
end
section
namespace Go.Ab.Ex
open Go.Proofs
set_option maxRecDepth 10000
set_option maxHeartbeats 1000000

section
variable {F : Fr} {H : Heap} {bm : Nat} {inn : Int} {ops : List OpM} {outs : List Int} {d : Nat} {g : CircM} {rows : List (List Int)} {vg vl : Value} {Q : Ret → Heap → Prop}

end
end Go.Ab.Ex
end
section
namespace Go.Ab.Ex
open Go.Proofs
set_option maxRecDepth 10000
set_option maxHeartbeats 1000000

section
variable {F : Fr} {H : Heap} {bm : Nat} {inn : Int} {ops : List OpM} {outs : List Int} {d : Nat} {g : CircM} {rows : List (List Int)} {vg vl : Value} {Q : Ret → Heap → Prop}

theorem ia_zero (i : TInfo) (b o len : Nat) (h : 0 < len) : iaO2 (some i) b o len 0 = some (.pointer (some ⟨b, o + 0 * i.size, none⟩)) := ia_in i b o len 0 h

end
end Go.Ab.Ex
end
section
namespace Go.Ab.Ex
open Go.Proofs
set_option maxRecDepth 10000
set_option maxHeartbeats 1000000

section
variable {F : Fr} {H : Heap} {bm : Nat} {inn : Int} {ops : List OpM} {outs : List Int} {d : Nat} {g : CircM} {rows : List (List Int)} {vg vl : Value} {Q : Ret → Heap → Prop}


end
end Go.Ab.Ex
end
section
namespace Go.Ab.Ex
open Go.Proofs
set_option maxRecDepth 10000
set_option maxHeartbeats 1000000

section
variable {F : Fr} {H : Heap} {bm : Nat} {inn : Int} {ops : List OpM} {outs : List Int} {d : Nat} {g : CircM} {rows : List (List Int)} {vg vl : Value} {Q : Ret → Heap → Prop}

end
end Go.Ab.Ex
end
section
namespace Go.Ab.Ex
open Go.Proofs
set_option maxRecDepth 10000

theorem wid_le {d : Nat} (hd : d ≤ 6) (s : Bool) : wid d s ≤ 7 ∧ 0 < wid d s := by unfold wid; split <;> omega

section
variable {F : Fr} {H : Heap} {bm : Nat} {inn : Int} {ops : List OpM} {outs : List Int} {d i : Nat} {g : CircM} {rows : List (List Int)} {vg vl : Value} {x : GateM} {Q : Ret → Heap → Prop}

end
end Go.Ab.Ex
end
section
namespace Go.Ab.Ex
open Go.Proofs
set_option maxRecDepth 10000

theorem _root_.Go.Ab.Ext.thenStep {F F' : Fr} {H H' H'' : Heap} (hE : Ext H H') (hS : Step F H' F' H'') (hF : ∀ j, F j → H.next ≤ j) : Ext H H'' :=
  ⟨Nat.le_trans hE.le hS.le, fun b hb => (hS.get b (Nat.lt_of_lt_of_le hb hE.le) (fun hf => by have := hF b hf; omega)).trans (hE.get b hb)⟩

theorem app1_row {H : Heap} {vl u : Value} {vs : List Value} {b : Option Nat} (ho : Own1 H 1 (vs.flatMap cellC) vl vs.length b) (hl : vs.length < 1000000) (hu : oneCell u = true) :
    ∃ v' H' b', appendC TT (H.push (.cells true 1 [u])) #[64, 64] vl (.slice (some ⟨H.next, 0, none⟩) 1 1) = some (.val v' H') ∧ Own1 H' 1 ((vs ++ [u]).flatMap cellC) v' (vs ++ [u]).length b' ∧ (∀ F : Fr, Step (F.un b) H (F.un b') H') ∧ (∀ j, b' = some j → H.next ≤ j) := by
  have hE : Ext H (H.push (.cells true 1 [u])) := (Ext.refl H).push _
  have hnew := Own1.fresh H 1 [u] 1 rfl
  obtain ⟨v', H', b', k1, k2, k3, k4, k5, k6⟩ := append_s (T := TT) (t0 := 64) (t1 := 64) ty64 ty64 ty29 rfl (ho.ext hE) (hnew.sl (F := noF) fun _ _ h => h) (by simp [hu]) (by omega) (by omega)
  refine ⟨v', H', b', k1, by simpa [cellC] using k2, fun F => (hE.step (F := F.un b)).trans (k3 F), fun j hj => ?_⟩
  have := k5 (by omega)
  rw [this] at hj
  cases hj
  exact hE.le


noncomputable section
open Classical in
def expandM (g : CircM) (d : Int) : (Int × List OpM × List Int) × Int :=
  if ¬ GraphOk g then ((0, [], []), 1) else if d < 1 then ((0, [], []), 140) else if 6 < d ∨ 4000 < g.secrets * (d + 1) + g.publics then ((0, [], []), 150) else ((innM g d.toNat, codeM g d.toNat), 0)
end

theorem zeroCode {F : Fr} {H : Heap} : CodeR F H (.agg #[.int .i64 0, .slice none 0 0, .slice none 0 0]) 0 [] [] :=
  ⟨_, _, rfl, ⟨none, 0, rfl, Nat.le_refl _, rfl, .nil rfl rfl rfl⟩, ⟨none, 0, rfl, Nat.le_refl _, rfl, .nil rfl rfl rfl⟩⟩

end Go.Ab.Ex
end
section
namespace Go.Ab.Ex
open Go.Proofs
set_option maxRecDepth 10000
set_option maxHeartbeats 1000000

/-- the program's maker: its block (R: what is behind the code), its code; all blocks of these -/
structure PmR (F : Fr) (H : Heap) (bm : Nat) (inn : Int) (ops : List OpM) (outs : List Int) (R : List Value) : Prop where
  ex : ∃ vo vu bo bu, H.get bm = .cells true 13 (.int .i64 inn :: vo :: vu :: R) ∧ R.length = 10 ∧ bm < H.next ∧ Own1 H 4 (ops.flatMap OpM.c) vo ops.length bo ∧ Own1 H 1 (outs.flatMap intC) vu outs.length bu ∧ (∀ j, F j ↔ j = bm ∨ bo = some j ∨ bu = some j)

section
variable {F F' : Fr} {H H' : Heap} {bm : Nat} {inn : Int} {ops : List OpM} {outs : List Int} {R : List Value}
theorem PmR.bd (hm : PmR F H bm inn ops outs R) : Bd F H := by
  obtain ⟨vo, vu, bo, bu, hb, hR, hlt, ho, hu, hF⟩ := hm.ex
  refine ⟨fun j hj => ?_⟩
  rcases (hF j).1 hj with rfl | e | e
  · exact hlt
  · exact ho.lt e
  · exact hu.lt e
theorem PmR.keep (hm : PmR F H bm inn ops outs R) (hle : H.next ≤ H'.next) (hg : ∀ j, F j → H'.get j = H.get j) : PmR F H' bm inn ops outs R := by
  obtain ⟨vo, vu, bo, bu, hb, hR, hlt, ho, hu, hF⟩ := hm.ex
  exact ⟨vo, vu, bo, bu, by rw [hg bm ((hF bm).2 (.inl rfl))]; exact hb, hR, Nat.lt_of_lt_of_le hlt hle, ho.keep hle (fun j hj => hg j ((hF j).2 (.inr (.inl hj)))), hu.keep hle (fun j hj => hg j ((hF j).2 (.inr (.inr hj)))), hF⟩
theorem PmR.ext (hm : PmR F H bm inn ops outs R) (hE : Ext H H') : PmR F H' bm inn ops outs R := hm.keep hE.le fun j hj => hE.get j (hm.bd.lt j hj)
theorem PmR.app {b b' : Option Nat} (hm : PmR F H bm inn ops outs R) (hS : ∀ G : Fr, Step (G.un b) H (G.un b') H') (hb : ∀ j, b = some j → ¬ F j) : PmR F H' bm inn ops outs R :=
  hm.keep (hS noF).le fun j hj => (hS noF).get j (hm.bd.lt j hj) fun hf => by
    rcases hf with h | h
    · exact h
    · exact hb j h hj
theorem PmR.get (hm : PmR F H bm inn ops outs R) : ∃ ao au, H.get bm = .cells true 13 (.int .i64 inn :: .slice ao ops.length ops.length :: .slice au outs.length outs.length :: R) := by
  obtain ⟨vo, vu, bo, bu, hb, hR, hlt, ho, hu, hF⟩ := hm.ex
  obtain ⟨ao, rfl⟩ := ho.len
  obtain ⟨au, rfl⟩ := hu.len
  exact ⟨ao, au, hb⟩
theorem PmR.lt (hm : PmR F H bm inn ops outs R) : bm < H.next ∧ F bm := by
  obtain ⟨vo, vu, bo, bu, hb, hR, hlt, ho, hu, hF⟩ := hm.ex
  exact ⟨hlt, (hF bm).2 (.inl rfl)⟩
/-- other cells behind the code -/
theorem PmR.setR (hm : PmR F H bm inn ops outs R) {R' : List Value} (hR' : R'.length = 10) {ao au : Option Addr} (hg : H.get bm = .cells true 13 (.int .i64 inn :: .slice ao ops.length ops.length :: .slice au outs.length outs.length :: R)) :
    PmR F (H.put bm (.cells true 13 (.int .i64 inn :: .slice ao ops.length ops.length :: .slice au outs.length outs.length :: R'))) bm inn ops outs R' ∧ Step F H F (H.put bm (.cells true 13 (.int .i64 inn :: .slice ao ops.length ops.length :: .slice au outs.length outs.length :: R'))) := by
  obtain ⟨vo, vu, bo, bu, hb, hR, hlt, ho, hu, hF⟩ := hm.ex
  rw [hb] at hg
  cases hg
  refine ⟨⟨_, _, bo, bu, H_put_same _ _ _, hR', hlt, ho.put (fun j hj e => ?_) _, hu.put (fun j hj e => ?_) _, hF⟩, Step.refl.put (.inl ((hF bm).2 (.inl rfl))) _⟩
  · have := (ho.at hj).2.1; rw [e, hb] at this; cases this
  · have := (hu.at hj).2.1; rw [e, hb] at this; cases this

/-- one step more -/
theorem PmR.appOp (hm : PmR F H bm inn ops outs R) {H1 : Heap} {k : Nat} (hE : Ext H H1) (hk : H.next ≤ k) (hk1 : k < H1.next) (o : OpM) (hc : H1.get k = .cells true 4 o.c) (hl : ops.length < 1000000) :
    ∃ ao au a H2, H.get bm = .cells true 13 (.int .i64 inn :: .slice ao ops.length ops.length :: .slice au outs.length outs.length :: R) ∧ H1.get bm = .cells true 13 (.int .i64 inn :: .slice ao ops.length ops.length :: .slice au outs.length outs.length :: R) ∧
      appendC TT H1 #[28, 28] (.slice ao ops.length ops.length) (.slice (some ⟨k, 0, none⟩) 1 1) = some (.val (.slice a (ops.length + 1) (ops.length + 1)) H2) ∧ H2.get bm = .cells true 13 (.int .i64 inn :: .slice ao ops.length ops.length :: .slice au outs.length outs.length :: R) ∧ H1.next ≤ H2.next ∧
      ∃ F2, PmR F2 (H2.put bm (.cells true 13 (.int .i64 inn :: .slice a (ops.length + 1) (ops.length + 1) :: .slice au outs.length outs.length :: R))) bm inn (ops ++ [o]) outs R ∧ Step F H F2 (H2.put bm (.cells true 13 (.int .i64 inn :: .slice a (ops.length + 1) (ops.length + 1) :: .slice au outs.length outs.length :: R))) := by
  obtain ⟨vo, vu, bo, bu, hb, hR, hlt, ho, hu, hF⟩ := hm.ex
  obtain ⟨ao, rfl⟩ := ho.len
  obtain ⟨au, rfl⟩ := hu.len
  have hbm : ∀ j, bo = some j → j ≠ bm := fun j e h => by
    have := (ho.at e).2.1
    rw [h, hb] at this; cases this
  have hum : ∀ j, bu = some j → j ≠ bm := fun j e h => by
    have := (hu.at e).2.1
    rw [h, hb] at this; cases this
  have hou : ∀ j, bu = some j → ¬ bo = some j := fun j hj e => by
    have h1 := (hu.at hj).2.1
    have h2 := (ho.at e).2.1
    rw [h1] at h2; cases h2
  have hbo : ∀ j, bo = some j → j < H.next := fun j hj => ho.lt hj
  have hbu : ∀ j, bu = some j → j < H.next := fun j hj => hu.lt hj
  have hx : Own1 H1 4 o.c (.slice (some ⟨k, 0, none⟩) 1 1) 1 (some k) := .blk k 1 hk1 hc rfl
  obtain ⟨v', H2, b', he, ho', hS, hb', hb1', hle2⟩ := append_s (T := TT) (t0 := 28) (t1 := 28) ty28 ty28 ty69 rfl (ho.ext hE) (hx.sl (F := noF) fun _ _ h => h) (OpM.one o) (by omega) (by omega)
  obtain ⟨a, rfl⟩ := ho'.len
  have hle := hE.le
  have hb1 : H1.get bm = _ := (hE.get bm hlt).trans hb
  have hb2 : H2.get bm = .cells true 13 (.int .i64 inn :: .slice ao ops.length ops.length :: .slice au outs.length outs.length :: R) := by
    rw [(hS noF).get bm (by omega) (fun h => by rcases h with h | h; exact h; exact hbm bm h rfl)]; exact hb1
  have hbm2 : ∀ j, b' = some j → j ≠ bm := fun j hj e => by
    rcases hb' j hj with h | h
    · exact hbm j h e
    · omega
  have hu2 : Own1 H2 1 (outs.flatMap intC) (.slice au outs.length outs.length) outs.length bu := (hu.ext hE).step (hS noF) (fun j hj h => by rcases h with h | h; exact h; exact hou j hj h)
  refine ⟨ao, au, a, H2, hb, hb1, he, hb2, hle2, fun j => j = bm ∨ b' = some j ∨ bu = some j, ⟨_, _, b', bu, H_put_same _ _ _, hR, by simp only [Heap.next_put]; omega, ?_, hu2.put hum _, fun _ => .rfl⟩, ?_⟩
  · have := ho'.put hbm2 (.cells true 13 (.int .i64 inn :: .slice a (ops.length + 1) (ops.length + 1) :: .slice au outs.length outs.length :: R))
    simpa using this
  · refine Step.put (F' := fun j => j = bm ∨ b' = some j ∨ bu = some j) ((hE.step (F := F)).trans ((hS (fun j => j = bm ∨ bu = some j)).sub (fun j hf => ?_) (fun j hf => ?_))) (.inl ((hF bm).2 (.inl rfl))) _
    · rcases hf with (h | h) | h
      · exact .inl ((hF j).2 (.inl h))
      · exact .inl ((hF j).2 (.inr (.inr h)))
      · exact .inl ((hF j).2 (.inr (.inl h)))
    · rcases hf with h | h | h
      · exact .inl (.inl (.inl h))
      · exact .inl (.inr h)
      · exact .inl (.inl (.inr h))
end

def addM (k : Int) (n : BitVec 32) (tk : List Int) : OpM := ⟨k, tk.getD 0 0, tk.getD 1 0, n⟩

theorem f66_c {F : Fr} {H : Heap} {bm : Nat} {inn : Int} {ops : List OpM} {outs : List Int} {R : List Value} (hm : PmR F H bm inn ops outs R) (hl : ops.length < 900000) (hi : 0 ≤ inn ∧ inn < 1000000) {k : Int} {n : BitVec 32} {tk : List Int} (htk : tk.length ≤ 2) {vt : Value} (ht : Sl F H 1 vt tk.length (tk.flatMap intC)) {Q : Ret → Heap → Prop}
    (hQ : ∀ H' F', PmR F' H' bm inn (ops ++ [addM k n tk]) outs R → Step F H F' H' → Q (.ret (.int .i64 (inn + ops.length))) H') :
    C 66 #[.pointer (some ⟨bm, 0, none⟩), .int .i64 k, .int .u32 n.toNat, vt] H Q := by
  obtain ⟨a, cap, rfl, -, -, hA⟩ := ht.ex
  refine SemC_fn TT.ok fn66 rfl rfl ?_
  simp only [Try.f66, start, KC_normal, go_sem, Nat.reduceEqDiff, Nat.reduceAdd, reduceIte, reduceCtorEq, Nat.reduceLeDiff, Nat.reduceShiftRight, Nat.reduceAnd, Nat.reduceOr, Nat.reducePow, Nat.reduceBNe, Nat.reduceBEq]
  generalize hX : (H.push _).put _ _ = H1
  obtain ⟨hE1, h9, hn1⟩ := new_put hX
  clear hX
  refine wp_loop TT.ok rfl rfl (fun j s => ∃ tm H' i, s = ⟨tm, 54, [], false, H'⟩ ∧ j = tk.length - i ∧ i ≤ tk.length ∧ Ext H H' ∧ H'.next = H.next + 1 ∧ H'.get H.next = .cells true 4 [.int .i64 k, .int .i64 (if 0 < i then tk.getD 0 0 else 0), .int .i64 (if 1 < i then tk.getD 1 0 else 0), .int .u32 n.toNat] ∧
    tm.get 0 = some (.pointer (some ⟨bm, 0, none⟩)) ∧ tm.get 9 = some (.pointer (some ⟨H.next, 0, none⟩)) ∧ tm.get 15 = some (.slice a tk.length cap) ∧ tm.get 16 = some (.int .i64 (tk.length : Nat)) ∧ tm.get 17 = some (.int .i64 (i : Nat))) tk.length ?_ ?_
  · refine ⟨_, H1, 0, rfl, rfl, Nat.zero_le _, hE1, hn1, h9, ?_, ?_, ?_, ?_, ?_⟩
    all_goals simp only [start, KC_normal, go_sem, Nat.reduceEqDiff, Nat.reduceAdd, reduceIte, reduceCtorEq, Nat.reduceLeDiff, Nat.reduceShiftRight, Nat.reduceAnd, Nat.reduceOr, Nat.reducePow, Nat.reduceBNe, Nat.reduceBEq]
    rfl
  · clear h9 hE1 hn1
    rintro j s - ⟨tm, H', i, rfl, hj, hi', hE, hn, hk, t0, t9, t15, t16, t17⟩
    simp only [start, KC_normal, go_sem, Nat.reduceEqDiff, Nat.reduceAdd, reduceIte, reduceCtorEq, Nat.reduceLeDiff, Nat.reduceShiftRight, Nat.reduceAnd, Nat.reduceOr, Nat.reducePow, Nat.reduceBNe, Nat.reduceBEq, t0, t9, t15, t16, t17]
    refine CN_split (fun hlt => ?_) (fun hge => ?_)
    · have hlt' : i < tk.length := by omega
      obtain ⟨y, hy⟩ : ∃ y, tk[i]? = some y := ⟨_, List.getElem?_eq_getElem hlt'⟩
      obtain ⟨bk, o, own, Cb, rfl, hkb, hC⟩ := hA.all intC_len (by omega)
      have hy4 := (hC _ _ hy).1 0 (by omega)
      simp only [intC, Nat.add_zero, List.getElem?_cons_zero] at hy4
      have hyd : tk.getD i 0 = y := by rw [List.getD_eq_getElem?_getD, hy]; rfl
      have e2 : IntKind.i64.wrap ((i : Int) + 1) = ((i + 1 : Nat) : Int) := by rw [wrap_i64 _ (by omega) (by omega)]; simp
      simp only [start, KC_normal, go_sem, Nat.reduceEqDiff, Nat.reduceAdd, reduceIte, reduceCtorEq, Nat.reduceLeDiff, Nat.reduceShiftRight, Nat.reduceAnd, Nat.reduceOr, Nat.reducePow, Nat.reduceBNe, Nat.reduceBEq, t9, t15, t17, ia_in _ _ _ _ _ hlt', (hkb.step hE.step).get, hy4]
      have hi01 : i = 0 ∨ i = 1 := by omega
      rcases hi01 with rfl | rfl
      · simp only [start, KC_normal, go_sem, Nat.reduceEqDiff, Nat.reduceAdd, reduceIte, reduceCtorEq, Nat.reduceLeDiff, Nat.reduceShiftRight, Nat.reduceAnd, Nat.reduceOr, Nat.reducePow, Nat.reduceBNe, Nat.reduceBEq, Int.natCast_zero, t9, t17, hk, Nat.lt_irrefl, Nat.not_lt_zero]
        refine ⟨tk.length - 1, by omega, _, _, 1, rfl, rfl, by omega, hE.put (Nat.le_refl _) _, hn, ?_, ?_, ?_, ?_, ?_, ?_⟩
        · rw [H_put_same, ← hyd]; rfl
        all_goals simp only [start, KC_normal, go_sem, Nat.reduceEqDiff, Nat.reduceAdd, reduceIte, reduceCtorEq, Nat.reduceLeDiff, Nat.reduceShiftRight, Nat.reduceAnd, Nat.reduceOr, Nat.reducePow, Nat.reduceBNe, Nat.reduceBEq, t0, t9, t15, t16]
        exact congrArg (fun z => some (Value.int .i64 z)) e2
      · simp only [start, KC_normal, go_sem, Nat.reduceEqDiff, Nat.reduceAdd, reduceIte, reduceCtorEq, Nat.reduceLeDiff, Nat.reduceShiftRight, Nat.reduceAnd, Nat.reduceOr, Nat.reducePow, Nat.reduceBNe, Nat.reduceBEq, t9, t17, hk, Int.natCast_one, Int.reduceEq]
        refine ⟨tk.length - 2, by omega, _, _, 2, rfl, rfl, by omega, hE.put (Nat.le_refl _) _, hn, ?_, ?_, ?_, ?_, ?_, ?_⟩
        · rw [H_put_same, ← hyd]; rfl
        all_goals simp only [start, KC_normal, go_sem, Nat.reduceEqDiff, Nat.reduceAdd, reduceIte, reduceCtorEq, Nat.reduceLeDiff, Nat.reduceShiftRight, Nat.reduceAnd, Nat.reduceOr, Nat.reducePow, Nat.reduceBNe, Nat.reduceBEq, t0, t9, t15, t16]
        exact congrArg (fun z => some (Value.int .i64 z)) e2
    · have hi'' : i = tk.length := by omega
      subst hi''
      have hop : H'.get H.next = .cells true 4 (addM k n tk).c := by
        rw [hk]
        unfold addM OpM.c
        have h0 : (if 0 < tk.length then tk.getD 0 0 else 0) = tk.getD 0 0 := by
          split
          · rfl
          · rw [List.getD_eq_getElem?_getD, List.getElem?_eq_none (by omega)]; rfl
        have h1 : (if 1 < tk.length then tk.getD 1 0 else 0) = tk.getD 1 0 := by
          split
          · rfl
          · rw [List.getD_eq_getElem?_getD, List.getElem?_eq_none (by omega)]; rfl
        rw [h0, h1]
      have hop2 := hop
      unfold OpM.c at hop
      have hm' := hm.ext hE
      simp only [start, KC_normal, go_sem, Nat.reduceEqDiff, Nat.reduceAdd, reduceIte, reduceCtorEq, Nat.reduceLeDiff, Nat.reduceShiftRight, Nat.reduceAnd, Nat.reduceOr, Nat.reducePow, Nat.reduceBNe, Nat.reduceBEq]
      refine DRg_x TT.ok [0, 0, 2, 6, 14, 30, 0, 64, 254, 511, 1023, 2047, 4095] 13 8191 54 rfl (by decide +kernel) ?_
      obtain ⟨ao, au, hg⟩ := hm'.get
      simp only [start, KC_normal, go_sem, Nat.reduceEqDiff, Nat.reduceAdd, reduceIte, reduceCtorEq, Nat.reduceLeDiff, Nat.reduceShiftRight, Nat.reduceAnd, Nat.reduceOr, Nat.reducePow, Nat.reduceBNe, Nat.reduceBEq, t0, t9, hg, hop]
      generalize hY : (H'.skip 13).put _ _ = H5
      obtain ⟨hE5, hc5, hn5⟩ := skip_put hY (by omega)
      clear hY
      obtain ⟨ao', au', a7, H7, q1, q2, q3, q4, q5, F7, hm7, hS7⟩ := hm'.appOp hE5 (Nat.le_add_right _ 7) (by omega) (addM k n tk) hc5 (by omega)
      have e := hg.symm.trans q1
      cases e
      simp only [q3, start, KC_normal, go_sem, Nat.reduceEqDiff, Nat.reduceAdd, reduceIte, reduceCtorEq, Nat.reduceLeDiff, Nat.reduceShiftRight, Nat.reduceAnd, Nat.reduceOr, Nat.reducePow, Nat.reduceBNe, Nat.reduceBEq, q4]
      refine DRg_x TT.ok [0, 1, 3, 7, 15, 0, 32, 96, 224, 480, 992, 2047, 4095, 8191] 14 16383 54 rfl (by decide +kernel) ?_
      simp only [start, KC_normal, go_sem, Nat.reduceEqDiff, Nat.reduceAdd, reduceIte, reduceCtorEq, Nat.reduceLeDiff, Nat.reduceShiftRight, Nat.reduceAnd, Nat.reduceOr, Nat.reducePow, Nat.reduceBNe, Nat.reduceBEq, t0]
      have hw : IntKind.i64.wrap (IntKind.i64.wrap (inn + ((ops.length + 1 : Nat) : Int)) - 1) = inn + ops.length := by
        rw [wrap_i64 (inn + ((ops.length + 1 : Nat) : Int)) (by omega) (by omega), wrap_i64 _ (by omega) (by omega)]; omega
      rw [hw]
      exact hQ _ F7 (hm7.ext ((Ext.refl _).skip _)) ((hE.step.trans hS7).skip _)
end Go.Ab.Ex
end
section
namespace Go.Ab.Ex
open Go.Proofs
set_option maxRecDepth 10000
set_option maxHeartbeats 1000000

theorem f65_c {F : Fr} {H : Heap} {bm : Nat} {inn : Int} {ops : List OpM} {outs : List Int} {R : List Value} (hm : PmR F H bm inn ops outs R) (hl : ops.length < 800000) (hi : 0 ≤ inn ∧ inn < 1000000) {k : Int} {N : BitVec 32} {a other : List Int} (hal : a.length < 1000) (hol : other.length ≤ 1)
    {va vt : Value} (ha : Sl F H 1 va a.length (a.flatMap intC)) (ht : Sl F H 1 vt other.length (other.flatMap intC)) {Q : Ret → Heap → Prop}
    (hQ : ∀ H' F' v b, PmR F' H' bm inn (ops ++ elOps false k N a (fun _ => other.getD 0 0)) outs R → Step F H F' H' → Own1 H' 1 ((elRow false a (inn + ops.length)).flatMap intC) v (elRow false a (inn + ops.length)).length b → (∀ j, b = some j → H.next ≤ j ∧ ¬ F' j) → Q (.ret v) H') :
    C 65 #[.pointer (some ⟨bm, 0, none⟩), .int .i64 k, .int .u32 N.toNat, va, vt] H Q := by
  obtain ⟨aa, ca, rfl, hca, hla, hA⟩ := ha.ex
  have ht0 := ht
  generalize hn : inn + (ops.length : Int) = n at *
  generalize hEd : elOps false k N a (fun _ => other.getD 0 0) = E at *
  generalize hRd : elRow false a n = R0 at *
  have hElen : E.length = a.length := by rw [← hEd, elOps_len]; rfl
  have hRlen : R0.length = a.length := by rw [← hRd, elRow_len]
  refine SemC_fn TT.ok fn65 rfl rfl ?_
  simp only [Try.f65, start, KC_normal, go_sem, Nat.reduceEqDiff, Nat.reduceAdd, reduceIte, reduceCtorEq, Nat.reduceLeDiff, Nat.reduceShiftRight, Nat.reduceAnd, Nat.reduceOr, Nat.reducePow, Nat.reduceBNe, Nat.reduceBEq]
  refine wp_loop TT.ok rfl rfl (fun j s => ∃ tm H' F' b v i, s = ⟨tm, 33, [], false, H'⟩ ∧ j = a.length - i ∧ i ≤ a.length ∧ Step F H F' H' ∧ PmR F' H' bm inn (ops ++ E.take i) outs R ∧ SlA (F'.un b) H' 1 a.length ca (a.flatMap intC) aa ∧ Sl (F'.un b) H' 1 vt other.length (other.flatMap intC) ∧
    Own1 H' 1 ((R0.take i).flatMap intC) v (R0.take i).length b ∧ (∀ j, b = some j → H.next ≤ j ∧ ¬ F' j) ∧
    tm.get 0 = some (.pointer (some ⟨bm, 0, none⟩)) ∧ tm.get 1 = some (.int .i64 k) ∧ tm.get 2 = some (.int .u32 N.toNat) ∧ tm.get 4 = some vt ∧ tm.get 11 = some v ∧ tm.get 14 = some (.slice aa a.length ca) ∧ tm.get 15 = some (.int .i64 (a.length : Nat)) ∧ tm.get 16 = some (.int .i64 (i : Nat))) a.length ?_ ?_
  · refine ⟨_, H, F, none, .slice none 0 0, 0, rfl, rfl, Nat.zero_le _, Step.refl, by simpa using hm, hA.un (fun j hj => by cases hj), ht.un (fun j hj => by cases hj), .nil rfl, fun j hj => (by cases hj), ?_, ?_, ?_, ?_, ?_, ?_, ?_, ?_⟩
    all_goals simp only [start, KC_normal, go_sem, Nat.reduceEqDiff, Nat.reduceAdd, reduceIte, reduceCtorEq, Nat.reduceLeDiff, Nat.reduceShiftRight, Nat.reduceAnd, Nat.reduceOr, Nat.reducePow, Nat.reduceBNe, Nat.reduceBEq]
    rfl
  · rintro j s - ⟨tm, H', F', b, v, i, rfl, hj, hi', hS, hm', hA', ht', ho, hb, t0, t1, t2, t4, t11, t14, t15, t16⟩
    simp only [start, KC_normal, go_sem, Nat.reduceEqDiff, Nat.reduceAdd, reduceIte, reduceCtorEq, Nat.reduceLeDiff, Nat.reduceShiftRight, Nat.reduceAnd, Nat.reduceOr, Nat.reducePow, Nat.reduceBNe, Nat.reduceBEq, t14, t15, t16]
    have hleS := hS.le
    refine CN_split (fun hlt => ?_) (fun hge => ?_)
    · have hlt' : i < a.length := by omega
      obtain ⟨y, hy⟩ : ∃ y, a[i]? = some y := ⟨_, List.getElem?_eq_getElem hlt'⟩
      obtain ⟨bk, o, own, Cb, rfl, hkb, hC⟩ := hA'.all intC_len (by omega)
      have hy4 := (hC _ _ hy).1 0 (by omega)
      simp only [intC, Nat.add_zero, List.getElem?_cons_zero] at hy4
      have hnx := el_next (kp := false) (k := k) (n := n) (N := N) (bs := fun _ => other.getD 0 0) hy rfl
      rw [hEd, hRd] at hnx
      simp only [start, KC_normal, go_sem, Nat.reduceEqDiff, Nat.reduceAdd, reduceIte, reduceCtorEq, Nat.reduceLeDiff, Nat.reduceShiftRight, Nat.reduceAnd, Nat.reduceOr, Nat.reducePow, Nat.reduceBNe, Nat.reduceBEq, t0, t1, t2, t4, t11, t14, t16, ia_in _ _ _ _ _ hlt', hkb.get, hy4]
      generalize hX : H'.push _ = H1
      obtain ⟨hE1, -, hn1⟩ := new_push hX
      have hx1 := Own1.new (n := 1) (sz := 1) (l := [.int .i64 y]) hX rfl
      clear hX
      obtain ⟨v2, H2, b2, he2, ho2, hS2, hb2⟩ := appN_int (l := [y]) hx1 (ht'.step hE1.step) (by simp only [List.length_cons, List.length_nil]; omega)
      have hE2 : Ext H' H2 := hE1.app hS2 fun j hj => by cases hj; exact Nat.le_refl _
      have hb2' : ∀ j, b2 = some j → H'.next ≤ j := fun j hj => by
        rcases hb2 j hj with e | e
        · cases e; exact Nat.le_refl _
        · omega
      simp only [he2, start, KC_normal, go_sem, Nat.reduceEqDiff, Nat.reduceAdd, reduceIte, reduceCtorEq, Nat.reduceLeDiff, Nat.reduceShiftRight, Nat.reduceAnd, Nat.reduceOr, Nat.reducePow, Nat.reduceBNe, Nat.reduceBEq]
      have hm2 := hm'.ext hE2
      have ho2' := ho.ext hE2
      refine f66_c hm2 (by rw [List.length_append, hnx.2.2]; omega) hi (by simp only [List.length_append, List.length_cons, List.length_nil]; omega) (ho2.sl (out_new hm'.bd hb2')) fun H4 F4 hm4 hS4 => ?_
      have hop : addM k N ([y] ++ other) = ⟨k, y, other.getD 0 0, N⟩ := by simp [addM]
      rw [hop, List.append_assoc, ← hnx.1] at hm4
      have hx : inn + ((ops ++ List.take i E).length : Int) = n + i := by rw [List.length_append, hnx.2.2]; omega
      simp only [start, KC_normal, go_sem, Nat.reduceEqDiff, Nat.reduceAdd, reduceIte, reduceCtorEq, Nat.reduceLeDiff, Nat.reduceShiftRight, Nat.reduceAnd, Nat.reduceOr, Nat.reducePow, Nat.reduceBNe, Nat.reduceBEq]
      rw [hx]
      have ho4 := ho2'.step hS4 fun j hj => (hb j hj).2
      obtain ⟨v7, H7, b7, he, hw7, hS7, hb7⟩ := app1_int ho4 (by rw [List.length_take]; omega) (n + i)
      have hle2 := hE2.le
      have hle4 := hS4.le
      have hb4 := ho2'.out hS4 fun j hj => (hb j hj).2
      have hS04 := hE2.step.trans hS4
      simp only [he, start, KC_normal, go_sem, Nat.reduceEqDiff, Nat.reduceAdd, reduceIte, reduceCtorEq, Nat.reduceLeDiff, Nat.reduceShiftRight, Nat.reduceAnd, Nat.reduceOr, Nat.reducePow, Nat.reduceBNe, Nat.reduceBEq, t16]
      refine ⟨a.length - (i + 1), by omega, _, H7, F4, b7, v7, i + 1, rfl, rfl, by omega, (hS.trans hS04).app hS7 (fun j hj => by have := (hb j hj).1; omega), hm4.app hS7 hb4, (hA'.step hS04.un).step (hS7 F4), (ht'.step hS04.un).step (hS7 F4), ?_, fun j hj => ⟨by have := hb7 j hj; omega, fun hf => by have := hm4.bd.lt j hf; have := hb7 j hj; omega⟩, ?_, ?_, ?_, ?_, ?_, ?_, ?_, ?_⟩
      · rw [hnx.2.1]; exact hw7
      all_goals simp only [start, KC_normal, go_sem, Nat.reduceEqDiff, Nat.reduceAdd, reduceIte, reduceCtorEq, Nat.reduceLeDiff, Nat.reduceShiftRight, Nat.reduceAnd, Nat.reduceOr, Nat.reducePow, Nat.reduceBNe, Nat.reduceBEq, t0, t1, t2, t4, t14, t15]
      rw [wrap_i64 _ (by omega) (by omega)]; simp
    · have hi'' : i = a.length := by omega
      subst hi''
      rw [List.take_of_length_le (by omega)] at hm'
      rw [List.take_of_length_le (by omega)] at ho
      simp only [start, KC_normal, go_sem, Nat.reduceEqDiff, Nat.reduceAdd, reduceIte, reduceCtorEq, Nat.reduceLeDiff, Nat.reduceShiftRight, Nat.reduceAnd, Nat.reduceOr, Nat.reducePow, Nat.reduceBNe, Nat.reduceBEq, t11]
      exact hQ H' F' v b hm' hS ho hb
end Go.Ab.Ex
end
section
namespace Go.Ab.Ex
open Go.Proofs
set_option maxRecDepth 10000

section
variable (P : Program) (T : Tab) (ρ : Operand → Value) (H : Heap) (d : Option Tmp) (ty : TypeId) (ps : String) (af : Array Edge) (gd : Option (Nat × Bool))
def capO (i : Option TInfo) (v : Value) : Option Value := match i.map TInfo.desc, v with
    | some (.slice _), .slice none 0 0 => some (goInt 0)
    | some (.array n _), _ => some (goInt n)
    | _, _ => none
theorem k_cap (x : Array Operand) (t : Array TypeId) : kindOf T (.call ⟨.builtin .cap, x, t⟩) = .read := (rfl)
theorem r_cap (x : Operand) (t : TypeId) : aread P T ρ ⟨d, .call ⟨.builtin .cap, #[x], #[t]⟩, ty, ps, af, gd⟩ H = capO (T.ty t) (ρ x) := (rfl)
theorem cap_nil (e : TypeId) (s b : Nat) (z : Option Value) (ag : Bool) (f : List (Nat × Nat)) : capO (some ⟨.slice e, s, b, z, ag, f⟩) (.slice none 0 0) = some (.int .i64 0) := (rfl)
attribute [go_sem] k_cap r_cap cap_nil Option.map_none
end

theorem sl_nil0 (H : Heap) : sliceC TT H 29 (.slice none 0 0) none (some (.int .i64 0)) none = some (.slice none 0 0) := by
  simp only [sliceC, ty29, ty3]; rfl
theorem sl_to {H : Heap} {b o len cap h : Nat} {own : Bool} {c : List Value} (hg : H.get b = .cells own 1 c) (hh : h ≤ cap) : sliceC TT H 29 (.slice (some ⟨b, o, none⟩) len cap) none (some (.int .i64 (h : Nat))) none = some (.slice (some ⟨b, o, none⟩) h cap) := by
  have e : bnds len cap none (some ((h : Nat) : Int)) none = some (0, h, cap) := by
    have h1 : ((h : Int) ≤ (cap : Int)) := by omega
    have h2 : (0 : Int) ≤ (h : Int) := by omega
    simp [bnds, bMax, bHigh, bLow, h1, h2, hh]
  simp only [sliceC, lit?, ty29, ty3, hg, e]
  simp
theorem sl_from1 {H : Heap} {b o len cap : Nat} {own : Bool} {c : List Value} (hg : H.get b = .cells own 1 c) (hc : len + 1 ≤ cap) : sliceC TT H 29 (.slice (some ⟨b, o, none⟩) (len + 1) cap) (some (.int .i64 1)) none none = some (.slice (some ⟨b, o + 1, none⟩) len (cap - 1)) := by
  have e : bnds (len + 1) cap (some (1 : Int)) none none = some (1, len + 1, cap) := by
    have h1 : (1 : Int) ≤ (len : Int) + 1 := by omega
    simp [bnds, bMax, bHigh, bLow, h1]
  simp only [sliceC, lit?, ty29, ty3, hg, e]
  simp

theorem seg_tail {C c : List Value} {v : Value} {o n : Nat} (h : seg C o (n + 1) = some (v :: c)) : seg C (o + 1) n = some c := by
  obtain ⟨h1, h2⟩ := seg_some h
  unfold seg
  rw [if_pos (by omega)]
  congr 1
  have h3 : C.drop o = C[o]'(by omega) :: C.drop (o + 1) := List.drop_eq_getElem_cons (by omega)
  rw [h3, List.take_succ_cons] at h2
  cases h2; rfl

theorem f76_c {F : Fr} {H : Heap} {x y : Int} {l : List Int} {v : Value} (hs : Sl F H 1 v (y :: l).length ((y :: l).flatMap intC)) (hB : Bd F H) (hl : l.length < 1000) {Q : Ret → Heap → Prop}
    (hQ : ∀ H' u b, Ext H H' → Own1 H' 1 ((x :: l).flatMap intC) u (x :: l).length b → (∀ j, b = some j → H.next ≤ j) → Q (.ret u) H') : C 76 #[.int .i64 x, v] H Q := by
  obtain ⟨a, cap, rfl, hcap, hlen, hA⟩ := hs.ex
  refine SemC_fn TT.ok fn76 rfl rfl ?_
  simp only [Try.f76, start, KC_normal, go_sem, Nat.reduceEqDiff, Nat.reduceAdd, reduceIte, reduceCtorEq, Nat.reduceLeDiff, Nat.reduceShiftRight, Nat.reduceAnd, Nat.reduceOr, Nat.reducePow, Nat.reduceBNe, Nat.reduceBEq]
  generalize hX : H.push _ = H1
  obtain ⟨hE1, -, hn1⟩ := new_push hX
  have hx1 := Own1.new (n := 1) (sz := 1) (l := [.int .i64 x]) hX rfl
  clear hX
  cases hA with
  | nil h1 h2 h3 => simp at h1
  | zer a h1 h2 h3 h4 => simp at h1
  | blk b o own Cb hk hseg =>
    have hg := (hk.step hE1.step).get
    simp only [start, KC_normal, go_sem, Nat.reduceEqDiff, Nat.reduceAdd, reduceIte, reduceCtorEq, Nat.reduceLeDiff, Nat.reduceShiftRight, Nat.reduceAnd, Nat.reduceOr, Nat.reducePow, Nat.reduceBNe, Nat.reduceBEq, sl_from1 hg (show l.length + 1 ≤ cap by simpa using hcap)]
    have hsg : seg Cb (o + 1) l.length = some (l.flatMap intC) := by
      have : seg Cb o (l.length + 1) = some (.int .i64 y :: l.flatMap intC) := by simpa [intC] using hseg
      exact seg_tail this
    have hsl : Sl F H1 1 (.slice (some ⟨b, o + 1, none⟩) l.length (cap - 1)) l.length (l.flatMap intC) :=
      ⟨_, _, rfl, by simp at hcap; omega, by simp [fm_length intC_len], .blk b (o + 1) own Cb (hk.step hE1.step) (by simpa using hsg)⟩
    obtain ⟨v7, H7, b7, he, hw7, hS7, hb7⟩ := appN_int (l := [x]) hx1 hsl (by simp only [List.length_cons, List.length_nil]; omega)
    simp only [he, start, KC_normal, go_sem, Nat.reduceEqDiff, Nat.reduceAdd, reduceIte, reduceCtorEq, Nat.reduceLeDiff, Nat.reduceShiftRight, Nat.reduceAnd, Nat.reduceOr, Nat.reducePow, Nat.reduceBNe, Nat.reduceBEq]
    refine hQ H7 v7 b7 (hE1.app hS7 fun j hj => by cases hj; exact Nat.le_refl _) hw7 fun j hj => ?_
    rcases hb7 j hj with e | e
    · cases e; exact Nat.le_refl _
    · omega
end Go.Ab.Ex
end
section
namespace Go.Ab.Ex
open Go.Proofs
set_option maxRecDepth 10000

theorem setSeg_len : ∀ (vs c : List Value) (i : Nat), (setSeg c i vs).length = c.length
  | [], c, i => rfl
  | v :: vs, c, i => by simp only [setSeg]; rw [setSeg_len vs]; simp

def zers (n : Nat) : List Value := rep [.int .i64 0] n
theorem zers_len : ∀ n, (zers n).length = n
  | 0 => rfl
  | n + 1 => by simp [zers, rep]; exact zers_len n
theorem zers_one : ∀ n, (zers n).all oneCell = true
  | 0 => rfl
  | n + 1 => by
    have := zers_one n
    simp only [zers, rep, List.all_append] at this ⊢
    rw [this]; rfl

theorem grow_app {H : Heap} {n : Nat} (h0 : 0 < n) (hn : n < 1000) : appendC TT H #[29, 3] (.slice none 0 0) (.int .i64 (n : Nat)) = some (.val (.slice (some ⟨H.next, 0, none⟩) n n) (H.push (.cells true 1 (zers n)))) := by
  have e1 : ((0 : Int) ≤ (n : Nat) ∧ ((n : Nat) : Int) * (8 : Nat) ≤ 281474976710656 ∧ ((n : Nat) : Int) < 9223372036854775808 ∧ ([Value.int .i64 0] : List Value).length = 1) := by refine ⟨by omega, by omega, by omega, rfl⟩
  have e2 : (n ≠ 0) := by omega
  have e3 : n * 8 ≤ 140737488355328 ∧ n < 9223372036854775807 := by omega
  have e4 : (rep [Value.int .i64 0] n).all oneCell = true := zers_one n
  simp only [appendC, List.getElem?_toArray, List.getElem?_cons_zero, List.getElem?_cons_succ, ty29, ty3, Option.map_some, newsOf, appendZeros]
  have e5 : (Value.int .i64 0).cells.toList = [Value.int .i64 0] := rfl
  simp only [e5, e1, and_self, if_true, Int.toNat_natCast, e4, e2, if_false, e3]
  rfl

theorem f83_c {H : Heap} {n : Nat} (h0 : 0 < n) (hn : n < 1000) {Q : Ret → Heap → Prop} (hQ : ∀ H', Ext H H' → H'.get H.next = .cells true 1 (zers n) → H'.next = H.next + 1 → Q (.ret (.slice (some ⟨H.next, 0, none⟩) 0 n)) H') : C 83 #[.slice none 0 0, .int .i64 (n : Nat)] H Q := by
  refine SemC_fn TT.ok fn83 rfl rfl ?_
  have a1 : ¬ (n : Int) < 0 := by omega
  have a2 : (0 : Int) < (n : Int) := by omega
  have a3 : IntKind.i64.wrap 0 = 0 := by decide
  have a4 : IntKind.i64.wrap ((n : Int) - 0) = n := by rw [wrap_i64 _ (by omega) (by omega)]; omega
  have a5 : (((0 : Nat) : Int)) = 0 := rfl
  simp only [Try.f83, start, KC_normal, go_sem, Nat.reduceEqDiff, Nat.reduceAdd, reduceIte, reduceCtorEq, Nat.reduceLeDiff, Nat.reduceShiftRight, Nat.reduceAnd, Nat.reduceOr, Nat.reducePow, Nat.reduceBNe, Nat.reduceBEq, a1, a2, a3, a4, a5, Int.sub_self, sl_nil0, grow_app h0 hn]
  generalize hX : H.push _ = H1
  obtain ⟨hE1, hg, hn1⟩ := new_push hX
  have e := sl_to (o := 0) (len := n) (h := 0) hg (Nat.zero_le n)
  rw [a5] at e
  simp only [start, KC_normal, go_sem, Nat.reduceEqDiff, Nat.reduceAdd, reduceIte, reduceCtorEq, Nat.reduceLeDiff, Nat.reduceShiftRight, Nat.reduceAnd, Nat.reduceOr, Nat.reducePow, Nat.reduceBNe, Nat.reduceBEq, e]
  exact hQ H1 hE1 hg hn1

/-- a list that has room -/
structure Room (H : Heap) (data : List Int) (n b : Nat) : Prop where
  lt : b < H.next
  le : data.length ≤ n
  ex : ∃ c, H.get b = .cells true 1 c ∧ c.length = n ∧ ∀ i, i < data.length → c[i]? = (data.flatMap intC)[i]?

theorem room_app {F0 : Fr} {H : Heap} {data m : List Int} {n b : Nat} {x : Value} (h : Room H data n b) (hx : Sl F0 H 1 x m.length (m.flatMap intC)) (hl : data.length + m.length ≤ n) :
    ∃ H', appendC TT H #[29, 29] (.slice (some ⟨b, 0, none⟩) data.length n) x = some (.val (.slice (some ⟨b, 0, none⟩) (data ++ m).length n) H') ∧ Room H' (data ++ m) n b ∧ (∀ j, j ≠ b → H'.get j = H.get j) ∧ H'.next = H.next := by
  obtain ⟨c, hc, hcl, hcd⟩ := h.ex
  obtain ⟨a, cap, rfl, -, hml, -⟩ := hx.ex
  have hh := hx.head
  have hnews : newsOf TT H ⟨.int .i64, 1, 8, some (.int .i64 0), false, []⟩ (.slice a m.length cap) (.slice 3) = some (m.length, m.flatMap intC) := by
    simp only [newsOf, appendNews, hh, Option.map_some]
  have hone := one_all intC_one m
  have e5 : (Value.int .i64 0).cells.toList = [Value.int .i64 0] := rfl
  have e1 : 1 = 1 ∧ 0 + data.length * 1 ≤ c.length := by have := h.le; omega
  have e2 : data.length + m.length ≤ n := hl
  have e3 : 0 + (data.length + m.length) * 1 ≤ c.length := by omega
  refine ⟨H.put b (.cells true 1 (setSeg c (0 + data.length * 1) (m.flatMap intC))), ?_, ⟨h.lt, by simp; omega, _, H_put_same _ _ _, by rw [setSeg_len]; exact hcl, fun i hi => ?_⟩, fun j hj => H_put_other _ _ _ _ hj, rfl⟩
  · simp only [appendC, List.getElem?_toArray, List.getElem?_cons_zero, List.getElem?_cons_succ, ty29, ty3, Option.map_some, hnews, e5, hone, List.length_singleton, and_self, if_true, hc, e1, e2, e3, List.length_append]
  · rw [get_setSeg _ _ _ _ (by rw [hml]; omega), List.flatMap_append]
    have hdl : (data.flatMap intC).length = data.length := by rw [fm_length intC_len]; omega
    rw [List.length_append] at hi
    by_cases h1 : i < data.length
    · rw [if_neg (by omega), List.getElem?_append_left (by omega)]; exact hcd i h1
    · rw [if_pos (by rw [hml]; omega), List.getElem?_append_right (by omega), hdl]
      congr 1; omega
theorem room_own {H : Heap} {data : List Int} {b : Nat} (h : Room H data data.length b) : Own1 H 1 (data.flatMap intC) (.slice (some ⟨b, 0, none⟩) data.length data.length) data.length (some b) := by
  obtain ⟨c, hc, hcl, hcd⟩ := h.ex
  have e : c = data.flatMap intC := by
    apply List.ext_getElem?
    intro i
    by_cases hi : i < data.length
    · exact hcd i hi
    · rw [List.getElem?_eq_none (by omega), List.getElem?_eq_none (by rw [fm_length intC_len]; omega)]
  subst e
  exact .blk b data.length h.lt hc (fm_length intC_len _)

theorem f75_c {F : Fr} {H : Heap} {v va vb : Value} {a b : List Int} (hB : Bd F H) {bk cap : Nat} (hv : v = .slice (some ⟨bk, 0, none⟩) 2 cap) (hk : Kp F H bk (.cells true 1 [va, vb])) (ha : Sl F H 1 va a.length (a.flatMap intC)) (hb : Sl F H 1 vb b.length (b.flatMap intC)) (hl : 0 < a.length ∧ a.length < 100 ∧ b.length < 100) {Q : Ret → Heap → Prop}
    (hQ : ∀ H' u c, Ext H H' → Own1 H' 1 ((a ++ b).flatMap intC) u (a ++ b).length c → (∀ j, c = some j → H.next ≤ j) → Q (.ret u) H') : C 75 #[v] H Q := by
  subst hv
  obtain ⟨aa, ca, rfl, -, -, hA⟩ := ha.ex
  obtain ⟨ab, cb, rfl, -, -, hBb⟩ := hb.ex
  refine SemC_fn TT.ok fn75 rfl rfl ?_
  simp only [Try.f75, start, KC_normal, go_sem, Nat.reduceEqDiff, Nat.reduceAdd, reduceIte, reduceCtorEq, Nat.reduceLeDiff, Nat.reduceShiftRight, Nat.reduceAnd, Nat.reduceOr, Nat.reducePow, Nat.reduceBNe, Nat.reduceBEq]
  refine wp_loop TT.ok rfl rfl (fun j s => ∃ tm H' i, s = ⟨tm, 36, [], false, H'⟩ ∧ j = 2 - i ∧ i ≤ 2 ∧ Ext H H' ∧ tm.get 0 = some (.slice (some ⟨bk, 0, none⟩) 2 cap) ∧ tm.get 3 = some (.int .i64 ((if 0 < i then (a.length : Int) else 0) + (if 1 < i then (b.length : Int) else 0))) ∧ tm.get 9 = some (.slice (some ⟨bk, 0, none⟩) 2 cap) ∧ tm.get 10 = some (.int .i64 (2 : Nat)) ∧ tm.get 11 = some (.int .i64 (i : Nat))) 2 ?_ ?_
  · refine ⟨_, H, 0, rfl, rfl, Nat.zero_le _, Ext.refl _, ?_, ?_, ?_, ?_, ?_⟩
    all_goals simp only [start, KC_normal, go_sem, Nat.reduceEqDiff, Nat.reduceAdd, reduceIte, reduceCtorEq, Nat.reduceLeDiff, Nat.reduceShiftRight, Nat.reduceAnd, Nat.reduceOr, Nat.reducePow, Nat.reduceBNe, Nat.reduceBEq]
    all_goals rfl
  · rintro j s - ⟨tm, H', i, rfl, hj, hi, hE, t0, t3, t9, t10, t11⟩
    simp only [start, KC_normal, go_sem, Nat.reduceEqDiff, Nat.reduceAdd, reduceIte, reduceCtorEq, Nat.reduceLeDiff, Nat.reduceShiftRight, Nat.reduceAnd, Nat.reduceOr, Nat.reducePow, Nat.reduceBNe, Nat.reduceBEq, t0, t3, t9, t10, t11]
    have hkg := (hk.step hE.step).get
    refine CN_split (fun hlt => ?_) (fun hge => ?_)
    · have hi01 : i = 0 ∨ i = 1 := by omega
      rcases hi01 with rfl | rfl
      · have e1 : IntKind.i64.wrap ((if 0 < 0 then (a.length : Int) else 0) + (if 1 < 0 then (b.length : Int) else 0) + (a.length : Int)) = (if 0 < 1 then (a.length : Int) else 0) + (if 1 < 1 then (b.length : Int) else 0) := by
          simp only [Nat.lt_irrefl, Nat.not_lt_zero, if_false, Nat.zero_lt_one, if_true]
          rw [wrap_i64 _ (by omega) (by omega)]; omega
        have e3 : ¬ ((if 0 < 1 then (a.length : Int) else 0) + (if 1 < 1 then (b.length : Int) else 0)) < 0 := by simp only [Nat.lt_irrefl, if_false, Nat.zero_lt_one, if_true]; omega
        simp only [start, KC_normal, go_sem, Nat.reduceEqDiff, Nat.reduceAdd, reduceIte, reduceCtorEq, Nat.reduceLeDiff, Nat.reduceShiftRight, Nat.reduceAnd, Nat.reduceOr, Nat.reducePow, Nat.reduceBNe, Nat.reduceBEq, t3, t9, t11, ia_in _ _ _ _ _ (show 0 < 2 by omega), hkg, Nat.zero_mul, e1, e3]
        refine ⟨1, by omega, _, H', 1, rfl, rfl, by omega, hE, ?_, ?_, ?_, ?_, ?_⟩
        all_goals simp only [start, KC_normal, go_sem, Nat.reduceEqDiff, Nat.reduceAdd, reduceIte, reduceCtorEq, Nat.reduceLeDiff, Nat.reduceShiftRight, Nat.reduceAnd, Nat.reduceOr, Nat.reducePow, Nat.reduceBNe, Nat.reduceBEq, t0, t9, t10]
        rfl
      · have e1 : IntKind.i64.wrap ((if 0 < 1 then (a.length : Int) else 0) + (if 1 < 1 then (b.length : Int) else 0) + (b.length : Int)) = (if 0 < 2 then (a.length : Int) else 0) + (if 1 < 2 then (b.length : Int) else 0) := by
          simp only [Nat.lt_irrefl, if_false, Nat.zero_lt_one, if_true, Nat.zero_lt_two, show (1 : Nat) < 2 by omega]
          rw [wrap_i64 _ (by omega) (by omega)]; omega
        have e3 : ¬ ((if 0 < 2 then (a.length : Int) else 0) + (if 1 < 2 then (b.length : Int) else 0)) < 0 := by simp only [if_true, Nat.zero_lt_two, show (1 : Nat) < 2 by omega]; omega
        simp only [start, KC_normal, go_sem, Nat.reduceEqDiff, Nat.reduceAdd, reduceIte, reduceCtorEq, Nat.reduceLeDiff, Nat.reduceShiftRight, Nat.reduceAnd, Nat.reduceOr, Nat.reducePow, Nat.reduceBNe, Nat.reduceBEq, t3, t9, t11, ia_in _ _ _ _ _ (show 1 < 2 by omega), hkg, Nat.one_mul, e1, e3]
        refine ⟨0, by omega, _, H', 2, rfl, rfl, by omega, hE, ?_, ?_, ?_, ?_, ?_⟩
        all_goals simp only [start, KC_normal, go_sem, Nat.reduceEqDiff, Nat.reduceAdd, reduceIte, reduceCtorEq, Nat.reduceLeDiff, Nat.reduceShiftRight, Nat.reduceAnd, Nat.reduceOr, Nat.reducePow, Nat.reduceBNe, Nat.reduceBEq, t0, t9, t10]
        rfl
    · have hi2 : i = 2 := by omega
      subst hi2
      have e3 : (if 0 < 2 then (a.length : Int) else 0) + (if 1 < 2 then (b.length : Int) else 0) = ((a.length + b.length : Nat) : Int) := by
        simp only [if_true, Nat.zero_lt_two, show (1 : Nat) < 2 by omega]; omega
      rw [e3] at t3
      simp only [start, KC_normal, go_sem, Nat.reduceEqDiff, Nat.reduceAdd, reduceIte, reduceCtorEq, Nat.reduceLeDiff, Nat.reduceShiftRight, Nat.reduceAnd, Nat.reduceOr, Nat.reducePow, Nat.reduceBNe, Nat.reduceBEq, t3]
      refine f83_c (n := a.length + b.length) (by omega) (by omega) fun H2 hE2 hg2 hn2 => ?_
      simp only [start, KC_normal, go_sem, Nat.reduceEqDiff, Nat.reduceAdd, reduceIte, reduceCtorEq, Nat.reduceLeDiff, Nat.reduceShiftRight, Nat.reduceAnd, Nat.reduceOr, Nat.reducePow, Nat.reduceBNe, Nat.reduceBEq, t0]
      have hle := hE.le
      have hE12 := hE.trans hE2
      have hr0 : Room H2 [] (a.length + b.length) H'.next := ⟨by omega, by simp, zers (a.length + b.length), hg2, zers_len _, fun i hi => by simp at hi⟩
      refine wp_loop TT.ok rfl rfl (fun j s => ∃ tm H3 data i, s = ⟨tm, 36, [], false, H3⟩ ∧ j = 2 - i ∧ i ≤ 2 ∧ Ext H H3 ∧ data = (if 0 < i then a else []) ++ (if 1 < i then b else []) ∧ Room H3 data (a.length + b.length) H'.next ∧ tm.get 6 = some (.slice (some ⟨H'.next, 0, none⟩) data.length (a.length + b.length)) ∧ tm.get 25 = some (.slice (some ⟨bk, 0, none⟩) 2 cap) ∧ tm.get 26 = some (.int .i64 (2 : Nat)) ∧ tm.get 27 = some (.int .i64 (i : Nat))) 2 ?_ ?_
      · refine ⟨_, H2, [], 0, rfl, rfl, Nat.zero_le _, hE12, rfl, hr0, ?_, ?_, ?_, ?_⟩
        all_goals simp only [start, KC_normal, go_sem, Nat.reduceEqDiff, Nat.reduceAdd, reduceIte, reduceCtorEq, Nat.reduceLeDiff, Nat.reduceShiftRight, Nat.reduceAnd, Nat.reduceOr, Nat.reducePow, Nat.reduceBNe, Nat.reduceBEq]
        all_goals rfl
      · rintro j2 s - ⟨tm2, H3, data, i, rfl, hj2, hi, hE3, hda, hr, t6, t25, t26, t27⟩
        simp only [start, KC_normal, go_sem, Nat.reduceEqDiff, Nat.reduceAdd, reduceIte, reduceCtorEq, Nat.reduceLeDiff, Nat.reduceShiftRight, Nat.reduceAnd, Nat.reduceOr, Nat.reducePow, Nat.reduceBNe, Nat.reduceBEq, t25, t26, t27]
        have hkg := (hk.step hE3.step).get
        refine CN_split (fun hlt => ?_) (fun hge => ?_)
        · have hi01 : i = 0 ∨ i = 1 := by omega
          rcases hi01 with rfl | rfl
          · have hda' : data = [] := hda
            subst hda'
            obtain ⟨H4, he4, hr4, hg4, hn4⟩ := room_app hr (ha.step hE3.step) (by simp)
            rw [List.length_nil] at he4
            simp only [start, KC_normal, go_sem, Nat.reduceEqDiff, Nat.reduceAdd, reduceIte, reduceCtorEq, Nat.reduceLeDiff, Nat.reduceShiftRight, Nat.reduceAnd, Nat.reduceOr, Nat.reducePow, Nat.reduceBNe, Nat.reduceBEq, t6, t25, t27, ia_in _ _ _ _ _ (show 0 < 2 by omega), hkg, Nat.zero_mul, he4]
            refine ⟨1, by omega, _, H4, _, 1, rfl, rfl, by omega, ⟨by have := hE3.le; omega, fun b hb => by rw [hg4 b (by omega)]; exact hE3.get b hb⟩, ?_, hr4, ?_, ?_, ?_, ?_⟩
            · simp
            all_goals simp only [start, KC_normal, go_sem, Nat.reduceEqDiff, Nat.reduceAdd, reduceIte, reduceCtorEq, Nat.reduceLeDiff, Nat.reduceShiftRight, Nat.reduceAnd, Nat.reduceOr, Nat.reducePow, Nat.reduceBNe, Nat.reduceBEq, t25, t26]
            rfl
          · have hda' : data = a := by rw [hda]; simp
            subst hda'
            obtain ⟨H4, he4, hr4, hg4, hn4⟩ := room_app hr (hb.step hE3.step) (by simp)
            simp only [start, KC_normal, go_sem, Nat.reduceEqDiff, Nat.reduceAdd, reduceIte, reduceCtorEq, Nat.reduceLeDiff, Nat.reduceShiftRight, Nat.reduceAnd, Nat.reduceOr, Nat.reducePow, Nat.reduceBNe, Nat.reduceBEq, t6, t25, t27, ia_in _ _ _ _ _ (show 1 < 2 by omega), hkg, Nat.one_mul, he4]
            refine ⟨0, by omega, _, H4, _, 2, rfl, rfl, by omega, ⟨by have := hE3.le; omega, fun b hb => by rw [hg4 b (by omega)]; exact hE3.get b hb⟩, ?_, hr4, ?_, ?_, ?_, ?_⟩
            · simp
            all_goals simp only [start, KC_normal, go_sem, Nat.reduceEqDiff, Nat.reduceAdd, reduceIte, reduceCtorEq, Nat.reduceLeDiff, Nat.reduceShiftRight, Nat.reduceAnd, Nat.reduceOr, Nat.reducePow, Nat.reduceBNe, Nat.reduceBEq, t25, t26]
            rfl
        · have hi2 : i = 2 := by omega
          subst hi2
          have hda' : data = a ++ b := by rw [hda]; simp
          subst hda'
          have hab : (a ++ b).length = a.length + b.length := by simp
          rw [← hab] at hr t6
          simp only [start, KC_normal, go_sem, Nat.reduceEqDiff, Nat.reduceAdd, reduceIte, reduceCtorEq, Nat.reduceLeDiff, Nat.reduceShiftRight, Nat.reduceAnd, Nat.reduceOr, Nat.reducePow, Nat.reduceBNe, Nat.reduceBEq, t6]
          exact hQ H3 _ (some H'.next) hE3 (room_own hr) fun j hj => by cases hj; exact hle
end Go.Ab.Ex
end
section
namespace Go.Ab.Ex
open Go.Proofs
set_option maxRecDepth 10000
set_option maxHeartbeats 1000000

theorem fn_cl (g : FuncId) (l m : List Value) (h : hasFn TT g = true) : fnOf TT (.func (.func g) #[] m.toArray) l.toArray = some (.call g (l ++ m).toArray) := by
  rw [fn_call _ _ _ _ _ h]; simp
attribute [go_sem] fn_cl List.cons_append List.nil_append

theorem f82_c {F : Fr} {H : Heap} {bm b3 b4 b5 cap : Nat} {ai : Option Addr} {vo vu w0 w1 w2 : Value} {inp : List Int} {nx x : Int} {r0 r1 r2 r3 r4 r5 r6 r7 r8 : Value}
    (h4 : H.get b4 = .cells true 3 [.int .i64 (inp.length : Nat), vo, vu]) (h5 : H.get b5 = .cells true 1 [.slice ai inp.length cap]) (h3 : H.get b3 = .cells true 1 [.pointer (some ⟨bm, 0, none⟩)])
    (hb : H.get bm = .cells true 13 [w0, w1, w2, r0, r1, r2, r3, r4, r5, r6, r7, r8, .int .i64 nx]) (hA : SlA F H 1 inp.length cap (inp.flatMap intC) ai) (hx : 0 ≤ x ∧ x < 1000000) (hn : 0 ≤ nx ∧ nx < 10000000) (hil : inp.length < 1000000) {Q : Ret → Heap → Prop} (hQ : ∀ H', Ext H H' → Q (.ret (.int .i64 (atM inp nx x))) H') :
    C 82 #[.int .i64 x, .pointer (some ⟨b4, 0, none⟩), .pointer (some ⟨b5, 0, none⟩), .pointer (some ⟨b3, 0, none⟩)] H Q := by
  refine SemC_fn TT.ok fn82 rfl rfl ?_
  simp only [Try.f82, start, KC_normal, go_sem, Nat.reduceEqDiff, Nat.reduceAdd, reduceIte, reduceCtorEq, Nat.reduceLeDiff, Nat.reduceShiftRight, Nat.reduceAnd, Nat.reduceOr, Nat.reducePow, Nat.reduceBNe, Nat.reduceBEq, h4]
  refine CN_split (fun hlt => ?_) (fun hge => ?_)
  · obtain ⟨bk, o, own, Cb, rfl, hkb, hC⟩ := hA.all intC_len (by omega)
    have hy : inp[x.toNat]? = some (inp.getD x.toNat 0) := by
      rw [List.getD_eq_getElem?_getD, List.getElem?_eq_getElem (by omega)]; rfl
    have hy4 := (hC _ _ hy).1 0 (by omega)
    simp only [intC, Nat.add_zero, List.getElem?_cons_zero] at hy4
    simp only [start, KC_normal, go_sem, Nat.reduceEqDiff, Nat.reduceAdd, reduceIte, reduceCtorEq, Nat.reduceLeDiff, Nat.reduceShiftRight, Nat.reduceAnd, Nat.reduceOr, Nat.reducePow, Nat.reduceBNe, Nat.reduceBEq, h5, ia_int _ _ _ _ _ hx.1 hlt, hkb.get, hy4]
    have e : atM inp nx x = inp.getD x.toNat 0 := by unfold atM; rw [if_pos hlt]
    rw [← e]
    exact hQ _ (Ext.refl _)
  · simp only [start, KC_normal, go_sem, Nat.reduceEqDiff, Nat.reduceAdd, reduceIte, reduceCtorEq, Nat.reduceLeDiff, Nat.reduceShiftRight, Nat.reduceAnd, Nat.reduceOr, Nat.reducePow, Nat.reduceBNe, Nat.reduceBEq]
    refine DRg_x TT.ok [0, 0, 2, 7, 0, 16, 48, 112, 255, 511] 10 1023 23 rfl (by decide +kernel) ?_
    simp only [start, KC_normal, go_sem, Nat.reduceEqDiff, Nat.reduceAdd, reduceIte, reduceCtorEq, Nat.reduceLeDiff, Nat.reduceShiftRight, Nat.reduceAnd, Nat.reduceOr, Nat.reducePow, Nat.reduceBNe, Nat.reduceBEq, h4, h3, hb]
    have e : IntKind.i64.wrap (IntKind.i64.wrap (x - (inp.length : Int)) + nx) = atM inp nx x := by
      unfold atM
      rw [if_neg hge, wrap_i64 (x - (inp.length : Int)) (by omega) (by omega), wrap_i64 _ (by omega) (by omega)]
    rw [e]
    exact hQ _ ((Ext.refl H).skip _)

theorem f74_c {F : Fr} {H : Heap} {bm : Nat} {inn : Int} {ops : List OpM} {outs : List Int} {nx : Int} {r0 r1 r2 r3 r4 r5 r6 r7 r8 : Value} (hm : PmR F H bm inn ops outs [r0, r1, r2, r3, r4, r5, r6, r7, r8, .int .i64 nx]) (hl : ops.length < 100000) (hi : 0 ≤ inn ∧ inn < 1000000) {and : Bool} {d : Nat} (hd : 1 ≤ d ∧ d ≤ 6)
    {inp : List Int} (hlen : (inp.length : Int) = gIn and d) {vc vin : Value} (hc : CodeR F H vc (gIn and d) (gadOps and d) (gad and d).outs) (hin : Sl F H 1 vin inp.length (inp.flatMap intC)) {Q : Ret → Heap → Prop}
    (hQ : ∀ H' F' v b, PmR F' H' bm inn (ops ++ (gadgetM and d inp (inn + ops.length)).1) outs [r0, r1, r2, r3, r4, r5, r6, r7, r8, .int .i64 (inn + ops.length)] → Step F H F' H' → Own1 H' 1 ((gadgetM and d inp (inn + ops.length)).2.flatMap intC) v (gadgetM and d inp (inn + ops.length)).2.length b → (∀ j, b = some j → H.next ≤ j ∧ ¬ F' j) → Q (.ret v) H') :
    C 74 #[.pointer (some ⟨bm, 0, none⟩), vc, vin] H Q := by
  have hG := gadOk and hd.1 hd.2
  have hgl := hG.len
  have hinl : inp.length < 20 := by
    have : gIn and d ≤ 14 := by unfold gIn; split <;> omega
    omega
  obtain ⟨vo, vu, rfl, ho, hu⟩ := hc.ex
  obtain ⟨ao, capo, rfl, -, -, ho⟩ := ho.ex
  obtain ⟨au, capu, rfl, -, -, hu⟩ := hu.ex
  obtain ⟨ai, capi, rfl, -, -, hiA⟩ := hin.ex
  refine SemC_fn TT.ok fn74 rfl rfl ?_
  simp only [Try.f74, start, KC_normal, go_sem, Nat.reduceEqDiff, Nat.reduceAdd, reduceIte, reduceCtorEq, Nat.reduceLeDiff, Nat.reduceShiftRight, Nat.reduceAnd, Nat.reduceOr, Nat.reducePow, Nat.reduceBNe, Nat.reduceBEq]
  generalize hX : ((H.push _).push _).push _ = H1
  obtain ⟨hE1, h3, h4, h5, hn1⟩ := pre3 hX
  clear hX
  refine DRg_x TT.ok [0, 0, 2, 6, 14, 30, 0, 64, 192, 448, 960, 1984, 4094, 8191, 16383, 32767] 16 65535 79 rfl (by decide +kernel) ?_
  have hEs : Ext H1 (H1.skip 16) := (Ext.refl H1).skip 16
  have hmlt := hm.lt
  obtain ⟨av, uv, hg⟩ := (hm.ext (hE1.trans hEs)).get
  simp only [Heap.get_skip] at hg
  simp only [start, KC_normal, go_sem, Nat.reduceEqDiff, Nat.reduceAdd, reduceIte, reduceCtorEq, Nat.reduceLeDiff, Nat.reduceShiftRight, Nat.reduceAnd, Nat.reduceOr, Nat.reducePow, Nat.reduceBNe, Nat.reduceBEq, h3, hg]
  have hw : IntKind.i64.wrap (inn + (ops.length : Int)) = inn + ops.length := wrap_i64 _ (by omega) (by omega)
  rw [hw]
  generalize hn : inn + (ops.length : Int) = n at *
  have hsr := (hm.ext (hE1.trans hEs)).setR (R' := [r0, r1, r2, r3, r4, r5, r6, r7, r8, .int .i64 n]) rfl (by simpa only [Heap.get_skip] using hg)
  generalize hY : (H1.skip 16).put bm _ = H2 at *
  obtain ⟨hm2, hS2'⟩ := hsr
  clear hY hg
  have hB := hm.bd
  have k3 := Kp.mk' hB hE1 (Nat.le_refl _) (by omega) h3
  have k4 := Kp.mk' hB hE1 (by omega) (by omega) h4
  have k5 := Kp.mk' hB hE1 (by omega) (by omega) h5
  have hS12 : Step F H1 F H2 := hEs.step.trans hS2'
  have hS2 : Step F H F H2 := hE1.step.trans hS12
  have k3 := k3.step hS12
  have k4 := k4.step hS12
  have k5 := k5.step hS12
  have ho2 := ho.step hS2
  have hu2 := hu.step hS2
  have hi2 := hiA.step hS2
  clear h3 h4 h5 hm hE1 hEs hS12 hS2' ho hu hiA
  have hnb : 0 ≤ n ∧ n < 10000000 := by omega
  simp only [start, KC_normal, go_sem, Nat.reduceEqDiff, Nat.reduceAdd, reduceIte, reduceCtorEq, Nat.reduceLeDiff, Nat.reduceShiftRight, Nat.reduceAnd, Nat.reduceOr, Nat.reducePow, Nat.reduceBNe, Nat.reduceBEq, k4.get]
  refine wp_loop TT.ok rfl rfl (fun j s => ∃ tm H' F' i, s = ⟨tm, 79, [], false, H'⟩ ∧ j = (gadOps and d).length - i ∧ i ≤ (gadOps and d).length ∧ Step F H F' H' ∧ PmR F' H' bm inn (ops ++ ((gadOps and d).take i).map (gopM inp n)) outs [r0, r1, r2, r3, r4, r5, r6, r7, r8, .int .i64 n] ∧
    Kp F' H' H.next (.cells true 1 [.pointer (some ⟨bm, 0, none⟩)]) ∧ Kp F' H' (H.next + 1) (.cells true 3 [.int .i64 (gIn and d), .slice ao (gadOps and d).length capo, .slice au (gad and d).outs.length capu]) ∧ Kp F' H' (H.next + 1 + 1) (.cells true 1 [.slice ai inp.length capi]) ∧
    SlA F' H' 4 (gadOps and d).length capo ((gadOps and d).flatMap OpM.c) ao ∧ SlA F' H' 1 (gad and d).outs.length capu ((gad and d).outs.flatMap intC) au ∧ SlA F' H' 1 inp.length capi (inp.flatMap intC) ai ∧
    tm.get 3 = some (.pointer (some ⟨H.next, 0, none⟩)) ∧ tm.get 4 = some (.pointer (some ⟨H.next + 1, 0, none⟩)) ∧ tm.get 7 = some (.func (.func 82) #[] #[.pointer (some ⟨H.next + 1, 0, none⟩), .pointer (some ⟨H.next + 1 + 1, 0, none⟩), .pointer (some ⟨H.next, 0, none⟩)]) ∧
    tm.get 30 = some (.slice ao (gadOps and d).length capo) ∧ tm.get 31 = some (.int .i64 ((gadOps and d).length : Nat)) ∧ tm.get 32 = some (.int .i64 (i : Nat))) (gadOps and d).length ?_ ?_
  · refine ⟨_, H2, F, 0, rfl, rfl, Nat.zero_le _, hS2, by simpa using hm2, k3, k4, k5, ho2, hu2, hi2, ?_, ?_, ?_, ?_, ?_, ?_⟩
    all_goals simp only [start, KC_normal, go_sem, Nat.reduceEqDiff, Nat.reduceAdd, reduceIte, reduceCtorEq, Nat.reduceLeDiff, Nat.reduceShiftRight, Nat.reduceAnd, Nat.reduceOr, Nat.reducePow, Nat.reduceBNe, Nat.reduceBEq]
    rfl
  · clear hm2 k3 k4 k5 ho2 hu2 hi2 hS2
    rintro j s - ⟨tm, H', F', i, rfl, hj, hi', hS0, hm, k3, k4, k5, hao, hau, hiA, t3, t4, t7, t30, t31, t32⟩
    have hleS := hS0.le
    simp only [start, KC_normal, go_sem, Nat.reduceEqDiff, Nat.reduceAdd, reduceIte, reduceCtorEq, Nat.reduceLeDiff, Nat.reduceShiftRight, Nat.reduceAnd, Nat.reduceOr, Nat.reducePow, Nat.reduceBNe, Nat.reduceBEq, t30, t31, t32]
    refine CN_split (fun hlt => ?_) (fun hge => ?_)
    · have hlt' : i < (gadOps and d).length := by omega
      obtain ⟨x, hel⟩ : ∃ x, (gadOps and d)[i]? = some x := ⟨_, List.getElem?_eq_getElem hlt'⟩
      obtain ⟨hop, hN⟩ := hG.op i x hel
      obtain ⟨bk, o, own, Cb, rfl, hkb, hCb⟩ := hao.all OpM.len (by omega)
      have hseg := (hCb i x hel).2
      simp only [OpM.c] at hseg
      simp only [start, KC_normal, go_sem, Nat.reduceEqDiff, Nat.reduceAdd, reduceIte, reduceCtorEq, Nat.reduceLeDiff, Nat.reduceShiftRight, Nat.reduceAnd, Nat.reduceOr, Nat.reducePow, Nat.reduceBNe, Nat.reduceBEq, t30, t32, ia_in _ _ _ _ _ hlt', hkb.get, hseg]
      generalize hX : (H'.push _).put _ _ = H5
      obtain ⟨hE5, hbx, hn5⟩ := new_put hX
      clear hX
      have call : ∀ (X : Heap), Ext H' X → ∀ z : Int, 0 ≤ z ∧ z < 1000000 → ∀ Q : Ret → Heap → Prop, (∀ Y, Ext X Y → Q (.ret (.int .i64 (atM inp n z))) Y) → C 82 #[.int .i64 z, .pointer (some ⟨H.next + 1, 0, none⟩), .pointer (some ⟨H.next + 1 + 1, 0, none⟩), .pointer (some ⟨H.next, 0, none⟩)] X Q := by
        intro X hX z hz Q hQ
        have q4 := (k4.step hX.step).get
        rw [← hlen] at q4
        obtain ⟨av, uv, hg⟩ := (hm.ext hX).get
        exact f82_c (F := F') q4 (k5.step hX.step).get (k3.step hX.step).get hg (hiA.step hX.step) hz hnb (by omega) hQ
      have hlen1 : (ops ++ List.map (gopM inp n) (List.take i (gadOps and d))).length = ops.length + i := by simp only [List.length_append, List.length_map, List.length_take]; omega
      have hcase : (x.K = 0 ∧ (x.A = 0 ∧ x.B = 0) ∧ gopM inp n x = ⟨0, 0, 0, 0⟩) ∨ (x.K = 1 ∧ (0 ≤ x.A ∧ x.A < 1000000) ∧ (0 ≤ x.B ∧ x.B < 1000000) ∧ gopM inp n x = ⟨x.K, atM inp n x.A, atM inp n x.B, 0⟩) ∨ (x.K = 2 ∧ (0 ≤ x.A ∧ x.A < 1000000) ∧ (0 ≤ x.B ∧ x.B < 1000000) ∧ gopM inp n x = ⟨x.K, atM inp n x.A, atM inp n x.B, 0⟩) := by
        rcases hop with ⟨hK, hA, hB⟩ | ⟨hK, hA0, hA1, hB0, hB1⟩
        · exact .inl ⟨hK, ⟨hA, hB⟩, by unfold gopM; rw [hK]; simp [takesO]⟩
        · have e : gopM inp n x = ⟨x.K, atM inp n x.A, atM inp n x.B, 0⟩ := by unfold gopM; rw [if_pos (by rcases hK with h | h <;> rw [h] <;> rfl)]
          rcases hK with hK | hK
          · exact .inr (.inl ⟨hK, ⟨hA0, by omega⟩, ⟨hB0, by omega⟩, e⟩)
          · exact .inr (.inr ⟨hK, ⟨hA0, by omega⟩, ⟨hB0, by omega⟩, e⟩)
      rcases hcase with ⟨hK, hAB, hgo⟩ | ⟨hK, hA, hB', hgo⟩ | ⟨hK, hA, hB', hgo⟩
      simp only [start, KC_normal, go_sem, Nat.reduceEqDiff, Nat.reduceAdd, reduceIte, reduceCtorEq, Nat.reduceLeDiff, Nat.reduceShiftRight, Nat.reduceAnd, Nat.reduceOr, Nat.reducePow, Nat.reduceBNe, Nat.reduceBEq, hK, Int.reduceEq, hbx]
      have hE8 := hE5
      have hb8 : H5.get H'.next = .cells true 4 (gopM inp n x).c := by rw [hbx, hgo, hK, hAB.1, hAB.2, hN]; rfl
      have hn8 : H'.next < H5.next := by omega
      generalize H5 = H8 at hE8 hb8 hn8 ⊢
      rotate_left
      simp only [start, KC_normal, go_sem, Nat.reduceEqDiff, Nat.reduceAdd, reduceIte, reduceCtorEq, Nat.reduceLeDiff, Nat.reduceShiftRight, Nat.reduceAnd, Nat.reduceOr, Nat.reducePow, Nat.reduceBNe, Nat.reduceBEq, hK, Int.reduceEq, hbx]
      refine DRg_x TT.ok [0, 0, 2, 7, 0, 0, 32, 127, 111, 511, 1023, 2047] 12 4095 79 rfl (by decide +kernel) ?_
      simp only [start, KC_normal, go_sem, Nat.reduceEqDiff, Nat.reduceAdd, reduceIte, reduceCtorEq, Nat.reduceLeDiff, Nat.reduceShiftRight, Nat.reduceAnd, Nat.reduceOr, Nat.reducePow, Nat.reduceBNe, Nat.reduceBEq, t7, hbx]
      refine call _ (hE5.trans ((Ext.refl H5).skip _)) _ hA _ fun H6 hE6 => ?_
      have hE56 : Ext H5 H6 := ((Ext.refl H5).skip _).trans hE6
      have hb6 := (hE56.get _ (by omega)).trans hbx
      simp only [start, KC_normal, go_sem, Nat.reduceEqDiff, Nat.reduceAdd, reduceIte, reduceCtorEq, Nat.reduceLeDiff, Nat.reduceShiftRight, Nat.reduceAnd, Nat.reduceOr, Nat.reducePow, Nat.reduceBNe, Nat.reduceBEq, t7, hbx, hb6]
      refine call _ (hE5.trans hE56) _ hB' _ fun H7 hE7 => ?_
      have hle6 := hE56.le
      have hle7 := hE7.le
      have hb7 := (hE7.get _ (by omega)).trans hb6
      simp only [start, KC_normal, go_sem, Nat.reduceEqDiff, Nat.reduceAdd, reduceIte, reduceCtorEq, Nat.reduceLeDiff, Nat.reduceShiftRight, Nat.reduceAnd, Nat.reduceOr, Nat.reducePow, Nat.reduceBNe, Nat.reduceBEq, hb7]
      generalize hZ : (H7.put _ _).put _ _ = H8
      have hE8 : Ext H' H8 := by subst hZ; exact ((hE5.trans (hE56.trans hE7)).put (Nat.le_refl _) _).put (Nat.le_refl _) _
      have hb8 : H8.get H'.next = .cells true 4 (gopM inp n x).c := by subst hZ; rw [H_put_same, hgo, hN, hK]; rfl
      have hn8 : H'.next < H8.next := by subst hZ; simp only [Heap.next_put]; omega
      clear hZ hb7 hb6 hE7 hE56 hE6
      rotate_left
      simp only [start, KC_normal, go_sem, Nat.reduceEqDiff, Nat.reduceAdd, reduceIte, reduceCtorEq, Nat.reduceLeDiff, Nat.reduceShiftRight, Nat.reduceAnd, Nat.reduceOr, Nat.reducePow, Nat.reduceBNe, Nat.reduceBEq, hK, Int.reduceEq, hbx]
      refine DRg_x TT.ok [0, 0, 2, 7, 0, 0, 32, 127, 111, 511, 1023, 2047] 12 4095 79 rfl (by decide +kernel) ?_
      simp only [start, KC_normal, go_sem, Nat.reduceEqDiff, Nat.reduceAdd, reduceIte, reduceCtorEq, Nat.reduceLeDiff, Nat.reduceShiftRight, Nat.reduceAnd, Nat.reduceOr, Nat.reducePow, Nat.reduceBNe, Nat.reduceBEq, t7, hbx]
      refine call _ (hE5.trans ((Ext.refl H5).skip _)) _ hA _ fun H6 hE6 => ?_
      have hE56 : Ext H5 H6 := ((Ext.refl H5).skip _).trans hE6
      have hb6 := (hE56.get _ (by omega)).trans hbx
      simp only [start, KC_normal, go_sem, Nat.reduceEqDiff, Nat.reduceAdd, reduceIte, reduceCtorEq, Nat.reduceLeDiff, Nat.reduceShiftRight, Nat.reduceAnd, Nat.reduceOr, Nat.reducePow, Nat.reduceBNe, Nat.reduceBEq, t7, hbx, hb6]
      refine call _ (hE5.trans hE56) _ hB' _ fun H7 hE7 => ?_
      have hle6 := hE56.le
      have hle7 := hE7.le
      have hb7 := (hE7.get _ (by omega)).trans hb6
      simp only [start, KC_normal, go_sem, Nat.reduceEqDiff, Nat.reduceAdd, reduceIte, reduceCtorEq, Nat.reduceLeDiff, Nat.reduceShiftRight, Nat.reduceAnd, Nat.reduceOr, Nat.reducePow, Nat.reduceBNe, Nat.reduceBEq, hb7]
      generalize hZ : (H7.put _ _).put _ _ = H8
      have hE8 : Ext H' H8 := by subst hZ; exact ((hE5.trans (hE56.trans hE7)).put (Nat.le_refl _) _).put (Nat.le_refl _) _
      have hb8 : H8.get H'.next = .cells true 4 (gopM inp n x).c := by subst hZ; rw [H_put_same, hgo, hN, hK]; rfl
      have hn8 : H'.next < H8.next := by subst hZ; simp only [Heap.next_put]; omega
      clear hZ hb7 hb6 hE7 hE56 hE6
      rotate_left
      all_goals
        refine DRg_x TT.ok [0, 0, 2, 6, 14, 30, 0, 64, 254, 511, 1023, 2047, 4095] 13 8191 79 rfl (by decide +kernel) ?_
        have hm8 := hm.ext (hE8.trans ((Ext.refl H8).skip 13))
        obtain ⟨av, uv, hg⟩ := hm8.get
        have hb8' := hb8
        unfold OpM.c at hb8'
        have k38 := (k3.step hE8.step).get
        simp only [Heap.get_skip] at hg
        simp only [start, KC_normal, go_sem, Nat.reduceEqDiff, Nat.reduceAdd, reduceIte, reduceCtorEq, Nat.reduceLeDiff, Nat.reduceShiftRight, Nat.reduceAnd, Nat.reduceOr, Nat.reducePow, Nat.reduceBNe, Nat.reduceBEq, t3, k38, hg, hb8']
        generalize hY : (H8.skip 13).put _ _ = H9
        obtain ⟨hE9, hc9, hn9⟩ := skip_put hY (by omega)
        clear hY
        have hm8 := hm.ext hE8
        obtain ⟨ao', au', a7, H10, q1, q2, q3, q4, q5, F7, hm7, hS7⟩ := hm8.appOp hE9 (Nat.le_add_right _ 7) (by omega) (gopM inp n x) hc9 (by omega)
        have e := hg.symm.trans q1
        cases e
        have hne : H.next ≠ bm := fun e => k3.out (by rw [e]; exact hm.lt.2)
        have k310 : H10.get H.next = .cells true 1 [.pointer (some ⟨bm, 0, none⟩)] := by
          have := ((k3.step hE8.step).step hS7).get
          rwa [H_put_other _ _ _ _ hne] at this
        simp only [q3, start, KC_normal, go_sem, Nat.reduceEqDiff, Nat.reduceAdd, reduceIte, reduceCtorEq, Nat.reduceLeDiff, Nat.reduceShiftRight, Nat.reduceAnd, Nat.reduceOr, Nat.reducePow, Nat.reduceBNe, Nat.reduceBEq, q4, t3, t32, k310]
        generalize H10.put _ _ = H11 at *
        have hS := hE8.step.trans hS7
        rw [List.append_assoc, ← map_take_next _ hel] at hm7
        refine ⟨(gadOps and d).length - (i + 1), by omega, _, H11, F7, i + 1, rfl, rfl, by omega, hS0.trans hS, hm7, k3.step hS, k4.step hS, k5.step hS, hao.step hS, hau.step hS, hiA.step hS, ?_, ?_, ?_, ?_, ?_, ?_⟩
        all_goals simp only [start, KC_normal, go_sem, Nat.reduceEqDiff, Nat.reduceAdd, reduceIte, reduceCtorEq, Nat.reduceLeDiff, Nat.reduceShiftRight, Nat.reduceAnd, Nat.reduceOr, Nat.reducePow, Nat.reduceBNe, Nat.reduceBEq, t3, t4, t7, t30, t31]
        rw [wrap_i64 _ (by omega) (by omega)]; simp
    · have hi'' : i = (gadOps and d).length := by omega
      subst hi''
      rw [List.take_length] at hm
      have call : ∀ (X : Heap), Ext H' X → ∀ z : Int, 0 ≤ z ∧ z < 1000000 → ∀ Q : Ret → Heap → Prop, (∀ Y, Ext X Y → Q (.ret (.int .i64 (atM inp n z))) Y) → C 82 #[.int .i64 z, .pointer (some ⟨H.next + 1, 0, none⟩), .pointer (some ⟨H.next + 1 + 1, 0, none⟩), .pointer (some ⟨H.next, 0, none⟩)] X Q := by
        intro X hX z hz Q hQ
        have q4 := (k4.step hX.step).get
        rw [← hlen] at q4
        obtain ⟨av, uv, hg⟩ := (hm.ext hX).get
        exact f82_c (F := F') q4 (k5.step hX.step).get (k3.step hX.step).get hg (hiA.step hX.step) hz hnb (by omega) hQ
      simp only [start, KC_normal, go_sem, Nat.reduceEqDiff, Nat.reduceAdd, reduceIte, reduceCtorEq, Nat.reduceLeDiff, Nat.reduceShiftRight, Nat.reduceAnd, Nat.reduceOr, Nat.reducePow, Nat.reduceBNe, Nat.reduceBEq, t4, k4.get]
      refine wp_loop TT.ok rfl rfl (fun j s => ∃ tm H'' bx vx k, s = ⟨tm, 79, [], false, H''⟩ ∧ j = (gad and d).outs.length - k ∧ k ≤ (gad and d).outs.length ∧ Ext H' H'' ∧ Own1 H'' 1 ((((gad and d).outs.take k).map (atM inp n)).flatMap intC) vx (((gad and d).outs.take k).map (atM inp n)).length bx ∧ (∀ j, bx = some j → H'.next ≤ j) ∧
        tm.get 7 = some (.func (.func 82) #[] #[.pointer (some ⟨H.next + 1, 0, none⟩), .pointer (some ⟨H.next + 1 + 1, 0, none⟩), .pointer (some ⟨H.next, 0, none⟩)]) ∧ tm.get 10 = some vx ∧ tm.get 65 = some (.slice au (gad and d).outs.length capu) ∧ tm.get 66 = some (.int .i64 ((gad and d).outs.length : Nat)) ∧ tm.get 67 = some (.int .i64 (k : Nat))) (gad and d).outs.length ?_ ?_
      · refine ⟨_, H', none, .slice none 0 0, 0, rfl, rfl, Nat.zero_le _, Ext.refl _, .nil rfl, fun j hj => (by cases hj), ?_, ?_, ?_, ?_, ?_⟩
        all_goals simp only [start, KC_normal, go_sem, Nat.reduceEqDiff, Nat.reduceAdd, reduceIte, reduceCtorEq, Nat.reduceLeDiff, Nat.reduceShiftRight, Nat.reduceAnd, Nat.reduceOr, Nat.reducePow, Nat.reduceBNe, Nat.reduceBEq, t7]
        rfl
      · clear hj j
        rintro j s - ⟨tm', H'', bx, vx, k, rfl, hj, hk', hE'', hxx, hbx, t7, t10, t65, t66, t67⟩
        simp only [start, KC_normal, go_sem, Nat.reduceEqDiff, Nat.reduceAdd, reduceIte, reduceCtorEq, Nat.reduceLeDiff, Nat.reduceShiftRight, Nat.reduceAnd, Nat.reduceOr, Nat.reducePow, Nat.reduceBNe, Nat.reduceBEq, t65, t66, t67]
        refine CN_split (fun hlt => ?_) (fun hge => ?_)
        · have hlt' : k < (gad and d).outs.length := by omega
          obtain ⟨y, hel⟩ : ∃ y, (gad and d).outs[k]? = some y := ⟨_, List.getElem?_eq_getElem hlt'⟩
          obtain ⟨hy0, hy1⟩ := hG.out y (List.mem_of_getElem? hel)
          obtain ⟨bu, ou, owu, Cu, rfl, hku, hCu⟩ := hau.all intC_len (by omega)
          have hu4 := (hCu _ _ hel).1 0 (by omega)
          simp only [intC, Nat.add_zero, List.getElem?_cons_zero] at hu4
          simp only [start, KC_normal, go_sem, Nat.reduceEqDiff, Nat.reduceAdd, reduceIte, reduceCtorEq, Nat.reduceLeDiff, Nat.reduceShiftRight, Nat.reduceAnd, Nat.reduceOr, Nat.reducePow, Nat.reduceBNe, Nat.reduceBEq, t7, t10, t65, t67, ia_in _ _ _ _ _ hlt', (hku.step hE''.step).get, hu4]
          refine call _ hE'' _ ⟨hy0, by omega⟩ _ fun H6 hE6 => ?_
          have hxx6 := hxx.ext hE6
          simp only [start, KC_normal, go_sem, Nat.reduceEqDiff, Nat.reduceAdd, reduceIte, reduceCtorEq, Nat.reduceLeDiff, Nat.reduceShiftRight, Nat.reduceAnd, Nat.reduceOr, Nat.reducePow, Nat.reduceBNe, Nat.reduceBEq]
          have hos := hG.outs
          obtain ⟨v7, H7, b7, he, hw7, hS7, hb7⟩ := app1_int hxx6 (by rw [List.length_map, List.length_take]; omega) (atM inp n y)
          have hle6 := (hE''.trans hE6).le
          simp only [he, start, KC_normal, go_sem, Nat.reduceEqDiff, Nat.reduceAdd, reduceIte, reduceCtorEq, Nat.reduceLeDiff, Nat.reduceShiftRight, Nat.reduceAnd, Nat.reduceOr, Nat.reducePow, Nat.reduceBNe, Nat.reduceBEq, t67]
          refine ⟨(gad and d).outs.length - (k + 1), by omega, _, H7, b7, v7, k + 1, rfl, rfl, by omega, (hE''.trans hE6).app hS7 hbx, ?_, ?_, ?_, ?_, ?_, ?_, ?_⟩
          · rw [map_take_next _ hel]; exact hw7
          · exact fun j hj => by have := hb7 j hj; omega
          all_goals simp only [start, KC_normal, go_sem, Nat.reduceEqDiff, Nat.reduceAdd, reduceIte, reduceCtorEq, Nat.reduceLeDiff, Nat.reduceShiftRight, Nat.reduceAnd, Nat.reduceOr, Nat.reducePow, Nat.reduceBNe, Nat.reduceBEq, t7, t65, t66]
          rw [wrap_i64 _ (by omega) (by omega)]; simp
        · have hk'' : k = (gad and d).outs.length := by omega
          subst hk''
          rw [List.take_length] at hxx
          simp only [start, KC_normal, go_sem, Nat.reduceEqDiff, Nat.reduceAdd, reduceIte, reduceCtorEq, Nat.reduceLeDiff, Nat.reduceShiftRight, Nat.reduceAnd, Nat.reduceOr, Nat.reducePow, Nat.reduceBNe, Nat.reduceBEq, t10]
          exact hQ H'' F' vx bx (hm.ext hE'') (hS0.trans hE''.step) hxx fun j hj => ⟨by have := hbx j hj; omega, out_new hm.bd hbx j hj⟩
end Go.Ab.Ex
end
section
namespace Go.Ab.Ex
open Go.Proofs
set_option maxRecDepth 10000
set_option maxHeartbeats 1000000

section
variable (a b c d e f g h i j k l m : Value)
theorem seg13_0 : seg [a, b, c, d, e, f, g, h, i, j, k, l, m] 0 3 = some [a, b, c] := (rfl)
theorem seg13_5 : seg [a, b, c, d, e, f, g, h, i, j, k, l, m] 5 3 = some [f, g, h] := (rfl)
theorem seg13_8 : seg [a, b, c, d, e, f, g, h, i, j, k, l, m] 8 3 = some [i, j, k] := (rfl)
end
attribute [go_sem] seg13_0 seg13_5 seg13_8

/-- a list of two that are one cell each -/
theorem bsE_2 (de : TypeDesc) (by_ : Nat) (z v0 v1 : Value) (ag : Bool) (fl : List (Nat × Nat)) (hz : z.cells.toList.length = 1) (h0 : v0.cells.toList = [v0]) (h1 : v1.cells.toList = [v1]) (o0 : oneCell v0 = true) (o1 : oneCell v1 = true) :
    bsE (some ⟨de, 1, by_, some z, ag, fl⟩) 2 [(0, v0), (1, v1)] = some (.cells true 1 [v0, v1], fun b => .slice (some ⟨b, 0, none⟩) 2 2) := by
  obtain ⟨zz, hzz⟩ : ∃ zz, z.cells.toList = [zz] := by
    match hh : z.cells.toList, hz with
    | [q], _ => exact ⟨q, rfl⟩
  simp [bsE, hzz, fillL, rep, h0, h1, setSeg, o0, o1]
attribute [go_sem] bsE_2

section
variable {k n : Int} {N : BitVec 32} {bs : Nat → Int} {y : Int} {l a : List Int}
theorem elRow_head : elRow true (y :: l) n = n :: l := by
  unfold elRow
  apply List.ext_getElem?
  intro i
  rw [List.getElem?_mapIdx]
  cases i with
  | zero => simp
  | succ i =>
    simp only [List.getElem?_cons_succ]
    cases l[i]? with
    | none => rfl
    | some z => simp
theorem elOps_head : elOps true k N (y :: l) bs = [⟨k, y, bs 0, N⟩] := by simp [elOps]
theorem el_single (h : a.length = 1) : elRow true a n = elRow false a n ∧ elOps true k N a bs = elOps false k N a bs := by
  match a, h with
  | [y], _ => exact ⟨by simp [elRow], by simp [elOps]⟩
end

abbrev rest (d : Nat) (vn va1 va2 vf1 vf2 : Value) (first nx : Int) : List Value := [.int .i64 (d : Nat), vn, .int .i64 (gIn true d), va1, va2, .int .i64 (gIn false d), vf1, vf2, .int .i64 first, .int .i64 nx]

/-- what a gate needs -/
structure PGate (F : Fr) (H : Heap) (bm : Nat) (inn : Int) (ops : List OpM) (outs : List Int) (d : Nat) (g : CircM) (rows : List (List Int)) (vg vn va1 va2 vf1 vf2 : Value) (first nx : Int) : Prop where
  m : PmR F H bm inn ops outs (rest d vn va1 va2 vf1 vf2 first nx)
  l : ops.length < 70000
  i : 0 ≤ inn ∧ inn < 1000000
  dd : 1 ≤ d ∧ d ≤ 6
  c : CircR F H vg g
  s : 0 ≤ g.secrets ∧ g.secrets ≤ 1000
  r : RowsR F H vn rows
  a : CodeR F H (.agg #[.int .i64 (gIn true d), va1, va2]) (gIn true d) (gadOps true d) (gad true d).outs
  f : CodeR F H (.agg #[.int .i64 (gIn false d), vf1, vf2]) (gIn false d) (gadOps false d) (gad false d).outs
  fst : first = g.secrets * (d + 1)

/-- what comes of it -/
def PGateQ (F : Fr) (H : Heap) (bm : Nat) (inn : Int) (ops : List OpM) (outs : List Int) (d : Nat) (g : CircM) (rows : List (List Int)) (vn va1 va2 vf1 vf2 : Value) (first : Int) (x : GateM) (Q : Ret → Heap → Prop) : Prop :=
  ∀ H' F' v b nx', PmR F' H' bm inn (ops ++ (gateM g d rows (inn + ops.length) x).1) outs (rest d vn va1 va2 vf1 vf2 first nx') → Step F H F' H' → Own1 H' 1 ((gateM g d rows (inn + ops.length) x).2.flatMap intC) v (gateM g d rows (inn + ops.length) x).2.length b → (∀ j, b = some j → H.next ≤ j ∧ ¬ F' j) → Q (.ret v) H'

section
variable {F : Fr} {H : Heap} {bm : Nat} {inn : Int} {ops : List OpM} {outs : List Int} {d : Nat} {g : CircM} {rows : List (List Int)} {vg vn va1 va2 vf1 vf2 : Value} {first nx : Int} {Q : Ret → Heap → Prop}

theorem f64_0 (h : PGate F H bm inn ops outs d g rows vg vn va1 va2 vf1 vf2 first nx) {A B : Int} {N : BitVec 32} {S : Bool} (hQ : PGateQ F H bm inn ops outs d g rows vn va1 va2 vf1 vf2 first ⟨0, A, B, N, S⟩ Q) :
    C 64 #[.pointer (some ⟨bm, 0, none⟩), vg, GateM.v ⟨0, A, B, N, S⟩] H Q := by
  obtain ⟨v1, v2, rfl, hg1, hg2⟩ := h.c.ex
  obtain ⟨ag, cg, rfl, -, -, hgA⟩ := hg1.ex
  obtain ⟨au, cu, rfl, -, -, huA⟩ := hg2.ex
  refine SemC_fn TT.ok fn64 rfl rfl ?_
  simp only [Try.f64, GateM.v, start, KC_normal, go_sem, Nat.reduceEqDiff, Nat.reduceAdd, reduceIte, reduceCtorEq, Nat.reduceLeDiff, Nat.reduceShiftRight, Nat.reduceAnd, Nat.reduceOr, Nat.reducePow, Nat.reduceBNe, Nat.reduceBEq]
  generalize hX : (H.push _).push _ = H1
  obtain ⟨hE1, h4, h5, hn1⟩ := pre2 hX
  clear hX
  simp only [start, KC_normal, go_sem, Nat.reduceEqDiff, Nat.reduceAdd, reduceIte, reduceCtorEq, Nat.reduceLeDiff, Nat.reduceShiftRight, Nat.reduceAnd, Nat.reduceOr, Nat.reducePow, Nat.reduceBNe, Nat.reduceBEq, h5, Int.reduceEq]
  refine f66_c (tk := []) (h.m.ext hE1) (by have := h.l; omega) h.i (by simp) ⟨none, 0, rfl, Nat.le_refl _, rfl, .nil rfl rfl rfl⟩ fun H2 F2 hm2 hS2 => ?_
  simp only [start, KC_normal, go_sem, Nat.reduceEqDiff, Nat.reduceAdd, reduceIte, reduceCtorEq, Nat.reduceLeDiff, Nat.reduceShiftRight, Nat.reduceAnd, Nat.reduceOr, Nat.reducePow, Nat.reduceBNe, Nat.reduceBEq]
  generalize hY : H2.push _ = H3
  obtain ⟨hE3, -, hn3⟩ := new_push hY
  have hle := hE1.le
  have hle2 := hS2.le
  exact hQ H3 F2 _ (some H2.next) nx (hm2.ext hE3) ((hE1.step.trans hS2).trans hE3.step) (Own1.new hY rfl) fun j hj => by cases hj; exact ⟨by omega, fun hf => by have := hm2.bd.lt _ hf; omega⟩

theorem f64_2 (h : PGate F H bm inn ops outs d g rows vg vn va1 va2 vf1 vf2 first nx) {A B : Int} {N : BitVec 32} {S : Bool} (hQ : PGateQ F H bm inn ops outs d g rows vn va1 va2 vf1 vf2 first ⟨2, A, B, N, S⟩ Q) :
    C 64 #[.pointer (some ⟨bm, 0, none⟩), vg, GateM.v ⟨2, A, B, N, S⟩] H Q := by
  obtain ⟨v1, v2, rfl, hg1, hg2⟩ := h.c.ex
  obtain ⟨ag, cg, rfl, -, -, hgA⟩ := hg1.ex
  obtain ⟨au, cu, rfl, -, -, huA⟩ := hg2.ex
  refine SemC_fn TT.ok fn64 rfl rfl ?_
  simp only [Try.f64, GateM.v, start, KC_normal, go_sem, Nat.reduceEqDiff, Nat.reduceAdd, reduceIte, reduceCtorEq, Nat.reduceLeDiff, Nat.reduceShiftRight, Nat.reduceAnd, Nat.reduceOr, Nat.reducePow, Nat.reduceBNe, Nat.reduceBEq]
  generalize hX : (H.push _).push _ = H1
  obtain ⟨hE1, h4, h5, hn1⟩ := pre2 hX
  clear hX
  obtain ⟨mo, mu, hg⟩ := (h.m.ext hE1).get
  simp only [start, KC_normal, go_sem, Nat.reduceEqDiff, Nat.reduceAdd, reduceIte, reduceCtorEq, Nat.reduceLeDiff, Nat.reduceShiftRight, Nat.reduceAnd, Nat.reduceOr, Nat.reducePow, Nat.reduceBNe, Nat.reduceBEq, h5, Int.reduceEq]
  refine DRg_x TT.ok [0, 1, 3, 7, 0, 16, 48, 127, 255, 511] 10 1023 233 rfl (by decide +kernel) ?_
  simp only [start, KC_normal, go_sem, Nat.reduceEqDiff, Nat.reduceAdd, reduceIte, reduceCtorEq, Nat.reduceLeDiff, Nat.reduceShiftRight, Nat.reduceAnd, Nat.reduceOr, Nat.reducePow, Nat.reduceBNe, Nat.reduceBEq, h5, hg]
  generalize hY : (H1.skip 10).put _ _ = H3
  obtain ⟨hE3, h6, hn3⟩ := skip_put hY (by omega)
  clear hY
  have hle := hE1.le
  have hs := h.s
  have hd := h.dd
  have hN : ((N.toNat : Nat) : Int) < 4294967296 := by have := N.isLt; omega
  have e : IntKind.i64.wrap (first + IntKind.i64.wrap (N.toNat : Int)) = g.secrets * ((d : Int) + 1) + (N.toNat : Int) := by
    have hb : 0 ≤ g.secrets * ((d : Int) + 1) ∧ g.secrets * ((d : Int) + 1) ≤ 7000 := by
      refine ⟨Int.mul_nonneg hs.1 (by omega), ?_⟩
      have h1 : g.secrets * ((d : Int) + 1) ≤ g.secrets * 7 := Int.mul_le_mul_of_nonneg_left (by omega) hs.1
      omega
    rw [h.fst, wrap_i64 (N.toNat : Int) (by omega) (by omega), wrap_i64 _ (by omega) (by omega)]
  rw [e] at h6
  exact hQ H3 F _ (some (H1.next + 8)) nx (by simpa [gateM] using (h.m.ext hE1).ext hE3) (hE1.step.trans hE3.step) (.blk _ 1 (by omega) h6 rfl) fun j hj => by cases hj; exact ⟨by omega, fun hf => by have := h.m.bd.lt _ hf; omega⟩

theorem f64_1 (h : PGate F H bm inn ops outs d g rows vg vn va1 va2 vf1 vf2 first nx) {A B : Int} {N : BitVec 32} {S : Bool} (hQ : PGateQ F H bm inn ops outs d g rows vn va1 va2 vf1 vf2 first ⟨1, A, B, N, S⟩ Q) :
    C 64 #[.pointer (some ⟨bm, 0, none⟩), vg, GateM.v ⟨1, A, B, N, S⟩] H Q := by
  obtain ⟨v1, v2, rfl, hg1, hg2⟩ := h.c.ex
  obtain ⟨ag, cg, rfl, -, -, hgA⟩ := hg1.ex
  obtain ⟨au, cu, rfl, -, -, huA⟩ := hg2.ex
  refine SemC_fn TT.ok fn64 rfl rfl ?_
  simp only [Try.f64, GateM.v, start, KC_normal, go_sem, Nat.reduceEqDiff, Nat.reduceAdd, reduceIte, reduceCtorEq, Nat.reduceLeDiff, Nat.reduceShiftRight, Nat.reduceAnd, Nat.reduceOr, Nat.reducePow, Nat.reduceBNe, Nat.reduceBEq]
  generalize hX : (H.push _).push _ = H1
  obtain ⟨hE1, h4, h5, hn1⟩ := pre2 hX
  clear hX
  obtain ⟨mo, mu, hg⟩ := (h.m.ext hE1).get
  have hd := h.dd
  have hN : ((N.toNat : Nat) : Int) < 4294967296 := by have := N.isLt; omega
  have w1 : IntKind.i64.wrap (N.toNat : Int) = (N.toNat : Int) := wrap_i64 _ (by omega) (by omega)
  have w2 : IntKind.i64.wrap ((d : Int) + 1) = (d : Int) + 1 := wrap_i64 _ (by omega) (by omega)
  have hb : 0 ≤ (N.toNat : Int) * ((d : Int) + 1) ∧ (N.toNat : Int) * ((d : Int) + 1) ≤ 30064771072 := by
    refine ⟨Int.mul_nonneg (by omega) (by omega), ?_⟩
    have h1 : (N.toNat : Int) * ((d : Int) + 1) ≤ (N.toNat : Int) * 7 := Int.mul_le_mul_of_nonneg_left (by omega) (by omega)
    omega
  have w3 : IntKind.i64.wrap ((N.toNat : Int) * ((d : Int) + 1)) = (N.toNat : Int) * ((d : Int) + 1) := wrap_i64 _ (by omega) (by omega)
  simp only [start, KC_normal, go_sem, Nat.reduceEqDiff, Nat.reduceAdd, reduceIte, reduceCtorEq, Nat.reduceLeDiff, Nat.reduceShiftRight, Nat.reduceAnd, Nat.reduceOr, Nat.reducePow, Nat.reduceBNe, Nat.reduceBEq, h5, Int.reduceEq]
  refine DRg_x TT.ok [0, 1, 3, 0, 8, 24, 56, 120, 255, 511] 10 1023 233 rfl (by decide +kernel) ?_
  simp only [start, KC_normal, go_sem, Nat.reduceEqDiff, Nat.reduceAdd, reduceIte, reduceCtorEq, Nat.reduceLeDiff, Nat.reduceShiftRight, Nat.reduceAnd, Nat.reduceOr, Nat.reducePow, Nat.reduceBNe, Nat.reduceBEq, h5, hg, w1, w2, w3]
  have hE2 : Ext H (H1.skip 10) := hE1.skip 10
  generalize H1.skip 10 = H2 at *
  refine wp_loop TT.ok rfl rfl (fun j s => ∃ tm H' v b i, s = ⟨tm, 233, [], false, H'⟩ ∧ j = d + 1 - i ∧ i ≤ d + 1 ∧ Ext H H' ∧
    Own1 H' 1 (((List.range i).map fun (i : Nat) => (N.toNat : Int) * (d + 1) + i).flatMap intC) v ((List.range i).map fun (i : Nat) => (N.toNat : Int) * (d + 1) + i).length b ∧ (∀ j, b = some j → H.next ≤ j) ∧
    tm.get 8 = some (.int .i64 ((N.toNat : Int) * (d + 1))) ∧ tm.get 9 = some v ∧ tm.get 41 = some (.int .i64 ((d : Int) + 1)) ∧ tm.get 42 = some (.int .i64 (i : Nat))) (d + 1) ?_ ?_
  · refine ⟨_, H2, .slice none 0 0, none, 0, rfl, rfl, Nat.zero_le _, hE2, .nil rfl, fun j hj => (by cases hj), ?_, ?_, ?_, ?_⟩
    all_goals simp only [start, KC_normal, go_sem, Nat.reduceEqDiff, Nat.reduceAdd, reduceIte, reduceCtorEq, Nat.reduceLeDiff, Nat.reduceShiftRight, Nat.reduceAnd, Nat.reduceOr, Nat.reducePow, Nat.reduceBNe, Nat.reduceBEq]
    rfl
  · clear h4 h5 hE1 hn1 hE2
    rintro j s - ⟨tm, H', v, b, i, rfl, hj, hi, hE, ho, hbb, t8, t9, t41, t42⟩
    simp only [start, KC_normal, go_sem, Nat.reduceEqDiff, Nat.reduceAdd, reduceIte, reduceCtorEq, Nat.reduceLeDiff, Nat.reduceShiftRight, Nat.reduceAnd, Nat.reduceOr, Nat.reducePow, Nat.reduceBNe, Nat.reduceBEq, t8, t9, t41, t42]
    refine CN_split (fun hle => ?_) (fun hgt => ?_)
    · simp only [start, KC_normal, go_sem, Nat.reduceEqDiff, Nat.reduceAdd, reduceIte, reduceCtorEq, Nat.reduceLeDiff, Nat.reduceShiftRight, Nat.reduceAnd, Nat.reduceOr, Nat.reducePow, Nat.reduceBNe, Nat.reduceBEq, t8, t9, t42]
      have e : IntKind.i64.wrap ((N.toNat : Int) * ((d : Int) + 1) + (i : Int)) = (N.toNat : Int) * ((d : Int) + 1) + (i : Int) := wrap_i64 _ (by omega) (by omega)
      rw [e]
      obtain ⟨v7, H7, b7, he, hw7, hS7, hb7⟩ := app1_int ho (by simp only [List.length_map, List.length_range]; omega) ((N.toNat : Int) * ((d : Int) + 1) + (i : Int))
      have hle7 := (hS7 noF).le
      have hle0 := hE.le
      simp only [he, start, KC_normal, go_sem, Nat.reduceEqDiff, Nat.reduceAdd, reduceIte, reduceCtorEq, Nat.reduceLeDiff, Nat.reduceShiftRight, Nat.reduceAnd, Nat.reduceOr, Nat.reducePow, Nat.reduceBNe, Nat.reduceBEq, t42]
      refine ⟨d + 1 - (i + 1), by omega, _, H7, v7, b7, i + 1, rfl, rfl, by omega, hE.app hS7 (fun j hj => hbb j hj), ?_, fun j hj => by have := hb7 j hj; omega, ?_, ?_, ?_, ?_⟩
      · rw [List.range_succ, List.map_append]; exact hw7
      all_goals simp only [start, KC_normal, go_sem, Nat.reduceEqDiff, Nat.reduceAdd, reduceIte, reduceCtorEq, Nat.reduceLeDiff, Nat.reduceShiftRight, Nat.reduceAnd, Nat.reduceOr, Nat.reducePow, Nat.reduceBNe, Nat.reduceBEq, t8, t41]
      rw [wrap_i64 _ (by omega) (by omega)]; simp
    · have hi' : i = d + 1 := by omega
      subst hi'
      simp only [start, KC_normal, go_sem, Nat.reduceEqDiff, Nat.reduceAdd, reduceIte, reduceCtorEq, Nat.reduceLeDiff, Nat.reduceShiftRight, Nat.reduceAnd, Nat.reduceOr, Nat.reducePow, Nat.reduceBNe, Nat.reduceBEq, t9]
      exact hQ H' F v b nx (by simpa [gateM] using h.m.ext hE) hE.step ho fun j hj => by have := hbb j hj; exact ⟨by omega, fun hf => by have := h.m.bd.lt _ hf; omega⟩
end
end Go.Ab.Ex
end
