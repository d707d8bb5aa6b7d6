/- Parts of the proof, joined by program: Wire: the gadget of the and: its sum; Wire: the gadgets' sums, among other steps; Wire: a gate element for element: what its steps and its row come to; Wire: a gate element for element: the sums; Wire: one gate's sum, kind by kind; Wire: any gate's sum is the document's word; the gates one after the other; Wire: the plain law of WireRight. -/
import Derived.Test.YtmodeilippcbnaaR27
set_option linter.all false
section
namespace Go.Ab.Ex
open Go.Proofs
set_option maxRecDepth 10000
set_option maxHeartbeats 1000000

def diaW (vin : List Wd) (d i : Nat) : Wd := atW vin i &&& atW vin (d + 1 + i)
theorem start_and {rs vin : List Wd} {rc0 d : Nat} (hL : vin.length = 2 * d + 2) : GI rs vin rc0 d (gStart true d) (joinW ((List.range (d + 1)).map (diaW vin d))) := by
  have hg : gIn true d = 2 * (d : Int) + 2 := rfl
  have eops : (gStart true d).ops.map toOp = (List.range (d + 1)).map fun i : Nat => (⟨1, (i : Int), (d : Int) + 1 + i, 0⟩ : OpM) := by
    simp only [gStart, if_true, List.map_map]
    rfl
  have hrun := run_old rs (ws := vin) rc0 ((List.range (d + 1)).map fun i : Nat => (⟨1, (i : Int), (d : Int) + 1 + i, 0⟩ : OpM)) [] fun o ho => by
    simp only [List.mem_map, List.mem_range] at ho
    obtain ⟨i, hi, rfl⟩ := ho
    exact ⟨by show (1 : Int) ≠ 0; decide, fun _ => by simp only; omega, fun _ => by simp only; omega⟩
  rw [List.append_nil, List.nil_append] at hrun
  refine ⟨by simp [gStart], fun x hx => ?_, ?_⟩
  · simp only [gStart, if_true, List.mem_map, List.mem_range] at hx
    obtain ⟨i, hi, rfl⟩ := hx
    simp only [gStart, if_true, List.length_map, List.length_range]
    omega
  · rw [eops, hrun]
    simp only [gStart, if_true, List.map_map]
    congr 1
    apply List.map_congr_left
    intro i hi
    have hi' : i < d + 1 := by simpa using hi
    simp only [Function.comp]
    rw [atW_newI (k := i) (by omega)]
    unfold atW
    rw [List.getD_eq_getElem?_getD, List.getElem?_map, List.getElem?_range hi']
    simp only [Option.map_some, Option.getD_some, Function.comp]
    rw [opW_1]
    unfold diaW
    have e1 : ((i : Nat) : Int).toNat = i := by omega
    have e2 : ((d : Int) + 1 + (i : Int)).toNat = d + 1 + i := by omega
    rw [e1, e2]

theorem cross_all {vin : List Wd} {d : Nat} (hd : 1 ≤ d ∧ d ≤ 4) : joinW ((List.range (d + 1)).map (diaW vin d)) ^^^ joinW ((gPairs d).map (crossW vin d)) = joinW ((List.range (d + 1)).map (atW vin)) &&& joinW ((List.range (d + 1)).map fun i => atW vin (d + 1 + i)) := by
  have h : d = 1 ∨ d = 2 ∨ d = 3 ∨ d = 4 := by omega
  rcases h with rfl | rfl | rfl | rfl
  · have rg : List.range (1 + 1) = [0, 1] := rfl
    have gp : gPairs 1 = [(0, 1)] := rfl
    rw [rg, gp]
    simp only [List.map_cons, List.map_nil, joinW_cons, joinW_nil, crossW, diaW]
    simp only [Nat.reduceAdd]
    generalize atW vin 0 = v0
    generalize atW vin 1 = v1
    generalize atW vin 2 = v2
    generalize atW vin 3 = v3
    ext k hk
    have hz : (0 : Wd)[k] = false := by simp
    simp only [BitVec.getElem_xor, BitVec.getElem_and, hz]
    generalize v0[k] = x0
    generalize v1[k] = x1
    generalize v2[k] = x2
    generalize v3[k] = x3
    clear hz hk hd v0 v1 v2 v3
    revert x0 x1 x2 x3
    decide +kernel
  · have rg : List.range (2 + 1) = [0, 1, 2] := rfl
    have gp : gPairs 2 = [(0, 1), (0, 2), (1, 2)] := rfl
    rw [rg, gp]
    simp only [List.map_cons, List.map_nil, joinW_cons, joinW_nil, crossW, diaW]
    simp only [Nat.reduceAdd]
    generalize atW vin 0 = v0
    generalize atW vin 1 = v1
    generalize atW vin 2 = v2
    generalize atW vin 3 = v3
    generalize atW vin 4 = v4
    generalize atW vin 5 = v5
    ext k hk
    have hz : (0 : Wd)[k] = false := by simp
    simp only [BitVec.getElem_xor, BitVec.getElem_and, hz]
    generalize v0[k] = x0
    generalize v1[k] = x1
    generalize v2[k] = x2
    generalize v3[k] = x3
    generalize v4[k] = x4
    generalize v5[k] = x5
    clear hz hk hd v0 v1 v2 v3 v4 v5
    revert x0 x1 x2 x3 x4 x5
    decide +kernel
  · have rg : List.range (3 + 1) = [0, 1, 2, 3] := rfl
    have gp : gPairs 3 = [(0, 1), (0, 2), (0, 3), (1, 2), (1, 3), (2, 3)] := rfl
    rw [rg, gp]
    simp only [List.map_cons, List.map_nil, joinW_cons, joinW_nil, crossW, diaW]
    simp only [Nat.reduceAdd]
    generalize atW vin 0 = v0
    generalize atW vin 1 = v1
    generalize atW vin 2 = v2
    generalize atW vin 3 = v3
    generalize atW vin 4 = v4
    generalize atW vin 5 = v5
    generalize atW vin 6 = v6
    generalize atW vin 7 = v7
    ext k hk
    have hz : (0 : Wd)[k] = false := by simp
    simp only [BitVec.getElem_xor, BitVec.getElem_and, hz]
    generalize v0[k] = x0
    generalize v1[k] = x1
    generalize v2[k] = x2
    generalize v3[k] = x3
    generalize v4[k] = x4
    generalize v5[k] = x5
    generalize v6[k] = x6
    generalize v7[k] = x7
    clear hz hk hd v0 v1 v2 v3 v4 v5 v6 v7
    revert x0 x1 x2 x3 x4 x5 x6 x7
    decide +kernel
  · have rg : List.range (4 + 1) = [0, 1, 2, 3, 4] := rfl
    have gp : gPairs 4 = [(0, 1), (0, 2), (0, 3), (0, 4), (1, 2), (1, 3), (1, 4), (2, 3), (2, 4), (3, 4)] := rfl
    rw [rg, gp]
    simp only [List.map_cons, List.map_nil, joinW_cons, joinW_nil, crossW, diaW]
    simp only [Nat.reduceAdd]
    generalize atW vin 0 = v0
    generalize atW vin 1 = v1
    generalize atW vin 2 = v2
    generalize atW vin 3 = v3
    generalize atW vin 4 = v4
    generalize atW vin 5 = v5
    generalize atW vin 6 = v6
    generalize atW vin 7 = v7
    generalize atW vin 8 = v8
    generalize atW vin 9 = v9
    ext k hk
    have hz : (0 : Wd)[k] = false := by simp
    simp only [BitVec.getElem_xor, BitVec.getElem_and, hz]
    generalize v0[k] = x0
    generalize v1[k] = x1
    generalize v2[k] = x2
    generalize v3[k] = x3
    generalize v4[k] = x4
    generalize v5[k] = x5
    generalize v6[k] = x6
    generalize v7[k] = x7
    generalize v8[k] = x8
    generalize v9[k] = x9
    clear hz hk hd v0 v1 v2 v3 v4 v5 v6 v7 v8 v9
    revert x0 x1 x2 x3 x4 x5 x6 x7 x8 x9
    decide +kernel

theorem gad_and {rs vin : List Wd} {rc0 d : Nat} (hd : 1 ≤ d ∧ d ≤ 4) (hL : vin.length = 2 * d + 2) : GI rs vin rc0 d (gad true d) (joinW ((List.range (d + 1)).map (atW vin)) &&& joinW ((List.range (d + 1)).map fun i => atW vin (d + 1 + i))) := by
  rw [← cross_all hd]
  exact fold_and (by rw [hL]; show ((2 * d + 2 : Nat) : Int) = 2 * (d : Int) + 2; omega) _ _ _ (fun _ h => mem_pairs h) (start_and hL)
end Go.Ab.Ex
end
section
namespace Go.Ab.Ex
open Go.Proofs
set_option maxRecDepth 10000
set_option maxHeartbeats 1000000

theorem refresh_sum {d : Nat} (hd : 1 ≤ d ∧ d ≤ 6) {rs ws : List Wd} {inp : List Int} (hlen : inp.length = d + 1) (hi : WiresOk inp ws.length) (rc : Nat) :
    ∃ G rc', runE rs (gadgetM false d inp ws.length).1 (ws, rc) = (ws ++ G, rc') ∧ joinW ((gadgetM false d inp ws.length).2.map (fun w => atW (ws ++ G) w.toNat)) = joinW (inV ws inp) := by
  obtain ⟨G, rc', h1, h2, h3⟩ := gadget_run (and := false) hd (rs := rs) (by rw [hlen]; rfl) hi rc
  refine ⟨G, rc', h1, ?_⟩
  rw [h3]
  have := (gad_ref (rs := rs) (vin := inV ws inp) (rc0 := rc) (d := d) (by rw [inV_len]; exact hlen)).sum
  have e : (gad false d).ops.map toOp = gadOps false d := rfl
  rw [e, h2] at this
  exact this

theorem inV_left {ws : List Wd} {a b : List Int} : (List.range a.length).map (atW (inV ws (a ++ b))) = inV ws a := by
  have e : inV ws (a ++ b) = inV ws a ++ inV ws b := by simp [inV]
  rw [e, ← inV_len ws a]
  refine Eq.trans (List.map_congr_left fun i hi => ?_) (atW_all (inV ws a))
  exact atW_app (by simpa using hi)
theorem inV_right {ws : List Wd} {a b : List Int} : ((List.range b.length).map fun i => atW (inV ws (a ++ b)) (a.length + i)) = inV ws b := by
  have e : inV ws (a ++ b) = inV ws a ++ inV ws b := by simp [inV]
  rw [e, ← inV_len ws b]
  refine Eq.trans (List.map_congr_left fun i hi => ?_) (atW_all (inV ws b))
  rw [← inV_len ws a]
  exact atW_new

theorem and_sum {d : Nat} (hd : 1 ≤ d ∧ d ≤ 4) {rs ws : List Wd} {a b : List Int} (ha : a.length = d + 1) (hb : b.length = d + 1) (hi : WiresOk (a ++ b) ws.length) (rc : Nat) :
    ∃ G rc', runE rs (gadgetM true d (a ++ b) ws.length).1 (ws, rc) = (ws ++ G, rc') ∧ joinW ((gadgetM true d (a ++ b) ws.length).2.map (fun w => atW (ws ++ G) w.toNat)) = joinW (inV ws a) &&& joinW (inV ws b) := by
  have hl : (a ++ b).length = 2 * d + 2 := by rw [List.length_append]; omega
  obtain ⟨G, rc', h1, h2, h3⟩ := gadget_run (and := true) ⟨hd.1, by omega⟩ (rs := rs) (by rw [hl]; show ((2 * d + 2 : Nat) : Int) = 2 * (d : Int) + 2; omega) hi rc
  refine ⟨G, rc', h1, ?_⟩
  rw [h3]
  have := (gad_and (rs := rs) (vin := inV ws (a ++ b)) (rc0 := rc) hd (by rw [inV_len]; exact hl)).sum
  have e : (gad true d).ops.map toOp = gadOps true d := rfl
  rw [e, h2] at this
  rw [this, ← inV_left (ws := ws) (a := a) (b := b), ← inV_right (ws := ws) (a := a) (b := b), ha, hb]
end Go.Ab.Ex
end
section
namespace Go.Ab.Ex
open Go.Proofs
set_option maxRecDepth 10000
set_option maxHeartbeats 1000000

section
variable {rs ws : List Wd} {k : Int} {N : Wd} {a : List Int} {bs : Nat → Int}
theorem elOps_mem {kp : Bool} {o : OpM} (h : o ∈ elOps kp k N a bs) : ∃ i y, i < a.length ∧ y ∈ a ∧ o = ⟨k, y, bs i, N⟩ := by
  unfold elOps at h
  rw [List.mem_mapIdx] at h
  obtain ⟨i, hi, rfl⟩ := h
  cases kp with
  | false => exact ⟨i, _, hi, List.getElem_mem hi, rfl⟩
  | true =>
    have hi' : i < a.length := by
      have : i < (a.take 1).length := hi
      rw [List.length_take] at this
      omega
    exact ⟨i, _, hi', List.mem_of_mem_take (List.getElem_mem hi), rfl⟩
theorem elOps_old {kp : Bool} (hk : k ≠ 0) (ha : WiresOk a ws.length) (hb : 1 < takesO k → ∀ i, i < a.length → 0 ≤ bs i ∧ bs i < ws.length) : ∀ o ∈ elOps kp k N a bs, OldOp ws.length o := by
  intro o ho
  obtain ⟨i, y, hi, hy, rfl⟩ := elOps_mem ho
  exact ⟨hk, fun _ => by have := ha y hy; simp only; omega, fun h => by have := hb h i hi; simp only; omega⟩
theorem el_run {kp : Bool} (hk : k ≠ 0) (ha : WiresOk a ws.length) (hb : 1 < takesO k → ∀ i, i < a.length → 0 ≤ bs i ∧ bs i < ws.length) (rc : Nat) :
    runE rs (elOps kp k N a bs) (ws, rc) = (ws ++ (elOps kp k N a bs).map (opW rs ws 0), rc) := by
  have := run_old rs (ws := ws) rc (elOps kp k N a bs) [] (elOps_old hk ha hb)
  rw [List.append_nil, List.nil_append] at this
  exact this
/-- all elements new -/
theorem el_row (V : List Wd) (hV : V.length = a.length) : inV (ws ++ V) (elRow false a ws.length) = V := by
  apply List.ext_getElem?
  intro i
  unfold inV elRow
  rw [List.getElem?_map, List.getElem?_mapIdx]
  by_cases hi : i < a.length
  · rw [List.getElem?_eq_getElem hi]
    simp only [Option.map_some, Bool.false_and, Bool.false_eq_true, if_false]
    rw [atW_newI (k := i) rfl]
    unfold atW
    rw [List.getD_eq_getElem?_getD, List.getElem?_eq_getElem (show i < V.length by omega)]; rfl
  · rw [List.getElem?_eq_none (by omega), List.getElem?_eq_none (by omega)]; rfl
/-- the same function of each element -/
theorem el_map {f : Wd → Wd} (hf : ∀ (i : Nat) (y : Int), a[i]? = some y → opW rs ws 0 ⟨k, y, bs i, N⟩ = f (atW ws y.toNat)) : (elOps false k N a bs).map (opW rs ws 0) = (inV ws a).map f := by
  apply List.ext_getElem?
  intro i
  unfold elOps inV
  simp only [Bool.false_eq_true, if_false, List.getElem?_map, List.getElem?_mapIdx]
  cases h : a[i]? with
  | none => rfl
  | some y => simp only [Option.map_some]; rw [hf i y h]
end
end Go.Ab.Ex
end
section
namespace Go.Ab.Ex
open Go.Proofs
set_option maxRecDepth 10000
set_option maxHeartbeats 1000000

section
variable {rs ws : List Wd} {k : Int} {N : Wd} {a : List Int} {bs : Nat → Int}
theorem inV_old {t : List Wd} {a : List Int} (ha : WiresOk a ws.length) : inV (ws ++ t) a = inV ws a := by
  unfold inV
  exact List.map_congr_left fun y hy => atW_app (by have := ha y hy; omega)
/-- a linear function of each element -/
theorem el_lin {f : Wd → Wd} (hk : k ≠ 0) (ha : WiresOk a ws.length) (hb : 1 < takesO k → ∀ i, i < a.length → 0 ≤ bs i ∧ bs i < ws.length) (hf : ∀ (i : Nat) (y : Int), a[i]? = some y → opW rs ws 0 ⟨k, y, bs i, N⟩ = f (atW ws y.toNat)) (hx : ∀ u v, f (u ^^^ v) = f u ^^^ f v) (h0 : f 0 = 0) (rc : Nat) :
    ∃ V, runE rs (elOps false k N a bs) (ws, rc) = (ws ++ V, rc) ∧ joinW (inV (ws ++ V) (elRow false a ws.length)) = f (joinW (inV ws a)) := by
  refine ⟨_, el_run hk ha hb rc, ?_⟩
  rw [el_row _ (by simp [elOps]), el_map hf, joinW_lin hx h0]
/-- the first element alone -/
theorem el_first {y : Int} {l : List Int} (hk : k ≠ 0) (ha : WiresOk (y :: l) ws.length) (hb : 1 < takesO k → 0 ≤ bs 0 ∧ bs 0 < ws.length) (rc : Nat) :
    runE rs (elOps true k N (y :: l) bs) (ws, rc) = (ws ++ [opW rs ws 0 ⟨k, y, bs 0, N⟩], rc) ∧
      joinW (inV (ws ++ [opW rs ws 0 ⟨k, y, bs 0, N⟩]) (elRow true (y :: l) ws.length)) = opW rs ws 0 ⟨k, y, bs 0, N⟩ ^^^ joinW (inV ws l) := by
  have e : elOps true k N (y :: l) bs = [⟨k, y, bs 0, N⟩] := by simp [elOps]
  constructor
  · rw [e]
    have := run_old rs (ws := ws) rc [⟨k, y, bs 0, N⟩] [] fun o ho => by
      simp only [List.mem_singleton] at ho
      subst ho
      exact ⟨hk, fun _ => by have := ha y (by simp); simp only; omega, fun h => by have := hb h; simp only; omega⟩
    rw [List.append_nil, List.nil_append] at this
    exact this
  · generalize opW rs ws 0 ⟨k, y, bs 0, N⟩ = v
    have er : elRow true (y :: l) ws.length = (ws.length : Int) :: l := by
      unfold elRow
      apply List.ext_getElem?
      intro i
      rw [List.getElem?_mapIdx]
      cases i with
      | zero => simp
      | succ i =>
        rw [List.getElem?_cons_succ, List.getElem?_cons_succ]
        cases l[i]? with
        | none => rfl
        | some z => simp
    rw [er]
    have e1 : inV (ws ++ [v]) ((ws.length : Int) :: l) = v :: inV ws l := by
      have e2 : inV (ws ++ [v]) l = inV ws l := inV_old fun z hz => ha z (by simp [hz])
      have e3 : atW (ws ++ [v]) ((ws.length : Int)).toNat = v := by rw [atW_newI (k := 0) (by omega)]; rfl
      show atW (ws ++ [v]) ((ws.length : Int)).toNat :: inV (ws ++ [v]) l = _
      rw [e2, e3]
    rw [e1, joinW_cons]
end
end Go.Ab.Ex
end
section
namespace Go.Ab.Ex
open Go.Proofs
set_option maxRecDepth 10000
set_option maxHeartbeats 1000000

theorem joinW_one (x : Wd) : joinW [x] = x := by rw [joinW_cons]; show x ^^^ 0 = x; exact xor_0 x
theorem joinW_zip : ∀ (l m : List Wd), l.length = m.length → joinW (List.zipWith (fun a b => a ^^^ b) l m) = joinW l ^^^ joinW m
  | [], [], _ => by show (0 : Wd) = 0 ^^^ 0; rw [xor_0]
  | [], _ :: _, h => by cases h
  | _ :: _, [], h => by cases h
  | x :: l, y :: m, h => by
    rw [List.zipWith_cons_cons, joinW_cons, joinW_cons, joinW_cons, joinW_zip l m (by simpa using h)]
    ext k
    simp only [BitVec.getElem_xor]
    cases x[k] <;> cases y[k] <;> cases (joinW l)[k] <;> cases (joinW m)[k] <;> rfl
theorem rotW_0 : ∀ n, rotW 0 n = 0
  | 0 => rfl
  | n + 1 => by rw [rotW, rotW_0 n]; rfl

/-- what is said of a gate's steps: they run on, and the sum of its row -/
def Said (rs ws : List Wd) (rc : Nat) (r : List OpM × List Int) (w : Wd) : Prop := ∃ G rc', runE rs r.1 (ws, rc) = (ws ++ G, rc') ∧ joinW (inV (ws ++ G) r.2) = w

section
variable {rs ws : List Wd} {rc d : Nat} {a b : List Int}
theorem said_ref (hd : 1 ≤ d ∧ d ≤ 6) (ha : a.length = d + 1) (hi : WiresOk a ws.length) : Said rs ws rc (gadgetM false d a ws.length) (joinW (inV ws a)) := refresh_sum hd ha hi rc
theorem said_and (hd : 1 ≤ d ∧ d ≤ 4) (ha : a.length = d + 1) (hb : b.length = d + 1) (hi : WiresOk (a ++ b) ws.length) : Said rs ws rc (gadgetM true d (a ++ b) ws.length) (joinW (inV ws a) &&& joinW (inV ws b)) := and_sum hd ha hb hi rc
theorem and_0' (x : Wd) : (0 : Wd) &&& x = 0 := by simp
theorem said_and1 (hb : b.length = 1) (ha : WiresOk a ws.length) (hi : WiresOk b ws.length) : Said rs ws rc (elOps false 1 0 a (fun _ => b.getD 0 0), elRow false a ws.length) (joinW (inV ws a) &&& joinW (inV ws b)) := by
  obtain ⟨y, rfl⟩ := List.length_eq_one_iff.1 hb
  have hy := hi y (by simp)
  have e : joinW (inV ws [y]) = atW ws y.toNat := joinW_one _
  obtain ⟨V, h1, h2⟩ := el_lin (rs := rs) (ws := ws) (k := 1) (N := 0) (a := a) (bs := fun _ => y) (f := fun w => w &&& atW ws y.toNat) (by decide) ha (fun _ _ _ => hy) (fun _ _ _ => rfl) (fun u v => by
    ext k
    simp only [BitVec.getElem_xor, BitVec.getElem_and]
    cases u[k] <;> cases v[k] <;> cases (atW ws y.toNat)[k] <;> rfl) (and_0' _) rc
  rw [e]
  exact ⟨V, rc, h1, h2⟩
theorem said_xor1 (hb : b.length = 1) (ha0 : 0 < a.length) (ha : WiresOk a ws.length) (hi : WiresOk b ws.length) : Said rs ws rc (elOps true 2 0 a (fun _ => b.getD 0 0), elRow true a ws.length) (joinW (inV ws a) ^^^ joinW (inV ws b)) := by
  obtain ⟨y, rfl⟩ := List.length_eq_one_iff.1 hb
  have hy := hi y (by simp)
  have e : joinW (inV ws [y]) = atW ws y.toNat := joinW_one _
  cases a with
  | nil => cases ha0
  | cons z l =>
    obtain ⟨h1, h2⟩ := el_first (rs := rs) (ws := ws) (k := 2) (N := 0) (y := z) (l := l) (bs := fun _ => y) (by decide) ha (fun _ => hy) rc
    refine ⟨_, rc, h1, h2.trans ?_⟩
    rw [e]
    show (atW ws z.toNat ^^^ atW ws y.toNat) ^^^ joinW (inV ws l) = joinW (atW ws z.toNat :: inV ws l) ^^^ atW ws y.toNat
    rw [joinW_cons, BitVec.xor_assoc, BitVec.xor_assoc, BitVec.xor_comm (atW ws y.toNat)]
theorem said_xor2 (hl : a.length = b.length) (ha : WiresOk a ws.length) (hi : WiresOk b ws.length) : Said rs ws rc (elOps false 2 0 a (fun i => b.getD i 0), elRow false a ws.length) (joinW (inV ws a) ^^^ joinW (inV ws b)) := by
  refine ⟨_, rc, el_run (by decide) ha (fun _ i h => hi.getD (by omega)) rc, ?_⟩
  rw [el_row _ (by simp [elOps]), ← joinW_zip _ _ (by rw [inV_len, inV_len]; exact hl)]
  congr 1
  apply List.ext_getElem?
  intro i
  unfold elOps inV
  simp only [Bool.false_eq_true, if_false, List.getElem?_map, List.getElem?_mapIdx, List.getElem?_zipWith]
  by_cases h : i < a.length
  · rw [List.getElem?_eq_getElem h, List.getElem?_eq_getElem (show i < b.length by omega)]
    simp only [Option.map_some]
    rw [opW_2, List.getD_eq_getElem?_getD, List.getElem?_eq_getElem (show i < b.length by omega)]
    rfl
  · rw [List.getElem?_eq_none (by omega)]; rfl
theorem said_not (ha0 : 0 < a.length) (ha : WiresOk a ws.length) {N : Wd} : Said rs ws rc (elOps true 3 N a (fun _ => 0), elRow true a ws.length) (~~~ joinW (inV ws a)) := by
  cases a with
  | nil => cases ha0
  | cons z l =>
    obtain ⟨h1, h2⟩ := el_first (rs := rs) (ws := ws) (k := 3) (N := N) (y := z) (l := l) (bs := fun _ => 0) (by decide) ha (fun h => absurd h (by decide)) rc
    refine ⟨_, rc, h1, h2.trans ?_⟩
    show ~~~ atW ws z.toNat ^^^ joinW (inV ws l) = ~~~ joinW (atW ws z.toNat :: inV ws l)
    rw [joinW_cons]
    ext k hk
    simp only [BitVec.getElem_xor, BitVec.getElem_not]
    cases (atW ws z.toNat)[k] <;> cases (joinW (inV ws l))[k] <;> rfl
theorem said_lin {k : Int} {N : Wd} {f : Wd → Wd} (hk : k = 4 ∨ k = 5 ∨ k = 6) (ha : WiresOk a ws.length) (hf : ∀ y, opW rs ws 0 ⟨k, y, 0, N⟩ = f (atW ws y.toNat)) (hx : ∀ u v, f (u ^^^ v) = f u ^^^ f v) (h0 : f 0 = 0) : Said rs ws rc (elOps false k N a (fun _ => 0), elRow false a ws.length) (f (joinW (inV ws a))) := by
  obtain ⟨V, h1, h2⟩ := el_lin (rs := rs) (ws := ws) (k := k) (N := N) (a := a) (bs := fun _ => 0) (f := f) (by omega) ha (fun h => by exfalso; rcases hk with rfl | rfl | rfl <;> revert h <;> decide) (fun _ y _ => hf y) hx h0 rc
  exact ⟨V, rc, h1, h2⟩
theorem said_const {N : Wd} : Said rs ws rc ([⟨7, 0, 0, N⟩], [(ws.length : Int)]) N := by
  refine ⟨[N], rc, rfl, ?_⟩
  have e : inV (ws ++ [N]) [(ws.length : Int)] = [N] := by
    show [atW (ws ++ [N]) (ws.length : Int).toNat] = [N]
    rw [atW_newI (k := 0) (by omega)]; rfl
  rw [e, joinW_one]
theorem said_none {l : List Int} {w : Wd} (h : joinW (inV ws l) = w) : Said rs ws rc ([], l) w := ⟨[], rc, by rw [List.append_nil]; rfl, by rw [List.append_nil]; exact h⟩
end
end Go.Ab.Ex
end
section
namespace Go.Ab.Ex
open Go.Proofs
set_option maxRecDepth 10000
set_option maxHeartbeats 1000000

/-- the words that come in, where they lie -/
structure InW (g : CircM) (d : Nat) (s p ws : List Wd) : Prop where
  sec : ∀ N : Nat, (N : Int) < g.secrets → joinW ((List.range (d + 1)).map fun k => atW ws (N * (d + 1) + k)) = atW s N
  pub : ∀ N : Nat, (N : Int) < g.publics → atW ws (g.secrets * ((d : Int) + 1) + N).toNat = atW p N
/-- the rows' sums so far -/
def Vals (ws wd : List Wd) (rows : List (List Int)) (i : Nat) : Prop := ∀ k : Int, 0 ≤ k → k < i → joinW (inV ws (rowOf rows k)) = atW wd k.toNat

theorem gW_as {s p wd : List Wd} {x : GateM} (h : x.K ≠ 12) : gW s p wd (asG 8 x) = fnG x.K x.N (atW wd x.A.toNat) (atW wd x.B.toNat) (atW s x.N.toNat) (atW p x.N.toNat) := by
  have : asG 8 x = x := if_neg h
  rw [this]; rfl
theorem wid_f (d : Nat) : wid d false = 1 := rfl
theorem wid_t (d : Nat) : wid d true = d + 1 := rfl

theorem said_twoM {g : CircM} {d i : Nat} {rows : List (List Int)} {x : GateM} {ws rs : List Wd} {rc : Nat}
    (h : x.K = 3 ∨ x.K = 4) (hboth : ¬ (x.K = 3 ∧ g.sec x.A = true ∧ g.sec x.B = true)) (hlA : (rowOf rows x.A).length = wid d (g.sec x.A)) (hlB : (rowOf rows x.B).length = wid d (g.sec x.B)) (hwA : WiresOk (rowOf rows x.A) ws.length) (hwB : WiresOk (rowOf rows x.B) ws.length) :
    Said rs ws rc (twoM g rows ws.length x) (if x.K = 3 then joinW (inV ws (rowOf rows x.A)) &&& joinW (inV ws (rowOf rows x.B)) else joinW (inV ws (rowOf rows x.A)) ^^^ joinW (inV ws (rowOf rows x.B))) := by
  unfold twoM
  generalize hsa : g.sec x.A = sa at *
  generalize hsb : g.sec x.B = sb at *
  have n4 : ¬ (4 : Int) = 3 := by decide
  have n3 : ¬ (3 : Int) = 4 := by decide
  have s3 : stepOf 3 = 1 := rfl
  have s4 : stepOf 4 = 2 := rfl
  rcases h with h | h
  · rw [h]
    rw [if_pos rfl]
    cases sa <;> cases sb
    · simp only [Bool.false_and, Bool.false_eq_true, if_false, n3, decide_false, s3, hsb]
      exact said_and1 hlB hwA hwB
    · simp only [Bool.not_false, Bool.and_true, if_true, Bool.false_eq_true, if_false, n3, decide_false, s3, hsa]
      rw [BitVec.and_comm]
      exact said_and1 hlA hwB hwA
    · simp only [Bool.not_true, Bool.and_false, Bool.false_eq_true, if_false, n3, decide_false, Bool.false_and, s3, hsb]
      exact said_and1 hlB hwA hwB
    · exact absurd ⟨h, rfl, rfl⟩ hboth
  · rw [h]
    rw [if_neg n4]
    cases sa <;> cases sb
    · simp only [Bool.false_and, Bool.false_eq_true, if_false, decide_true, Bool.not_false, Bool.and_true, s4, hsb]
      exact said_xor1 hlB (by rw [hlA, wid_f]; decide) hwA hwB
    · simp only [Bool.not_false, Bool.and_true, if_true, Bool.false_eq_true, if_false, decide_true, s4, hsa]
      rw [BitVec.xor_comm]
      exact said_xor1 hlA (by rw [hlB, wid_t]; omega) hwB hwA
    · simp only [Bool.not_true, Bool.not_false, Bool.and_false, Bool.and_true, Bool.false_eq_true, if_false, decide_true, s4, hsb]
      exact said_xor1 hlB (by rw [hlA, wid_t]; omega) hwA hwB
    · simp only [Bool.not_true, Bool.and_false, Bool.false_eq_true, if_false, if_true, s4, hsb]
      exact said_xor2 (by rw [hlA, hlB]) hwA hwB

theorem gate_sum {g : CircM} {d i : Nat} {ops : List OpM} {rows : List (List Int)} {x : GateM} {s p ws wd rs : List Wd} {rc : Nat} (hd : 1 ≤ d ∧ d ≤ 4) (hx : GateK g i x) (h12 : x.K = 12 → (x.N.toNat : Int) = 0) (hR : RowsOk g d (innM g d) i ops rows) (hlen : (ws.length : Int) = innM g d + ops.length)
    (hin : InW g d s p ws) (hV : Vals ws wd rows i) : Said rs ws rc (gateM g d rows (innM g d + ops.length) x) (gW s p wd (asG 8 x)) := by
  have hwid := hR.wid
  have hwir := hR.wires
  rw [← hlen] at hwir ⊢
  cases hx with
  | const h hS =>
    have e : gateM g d rows ws.length x = ([⟨7, 0, 0, x.N⟩], [(ws.length : Int)]) := by simp [gateM, h]
    rw [e, gW_as (by rw [h]; decide)]
    have e2 : ∀ a b c e, fnG x.K x.N a b c e = x.N := fun _ _ _ _ => by rw [h]; rfl
    rw [e2]
    exact said_const
  | sec h hN hS =>
    have e : gateM g d rows ws.length x = ([], (List.range (d + 1)).map fun (i : Nat) => (x.N.toNat : Int) * (d + 1) + i) := by simp [gateM, h]
    rw [e, gW_as (by rw [h]; decide)]
    have e2 : ∀ a b c e, fnG x.K x.N a b c e = c := fun _ _ _ _ => by rw [h]; rfl
    rw [e2]
    refine said_none (Eq.trans ?_ (hin.sec _ hN))
    unfold inV
    rw [List.map_map]
    congr 1
  | pub h hN hS =>
    have e : gateM g d rows ws.length x = ([], [g.secrets * (d + 1) + x.N.toNat]) := by simp [gateM, h]
    rw [e, gW_as (by rw [h]; decide)]
    have e2 : ∀ a b c e, fnG x.K x.N a b c e = e := fun _ _ _ _ => by rw [h]; rfl
    rw [e2]
    exact said_none ((joinW_one _).trans (hin.pub _ hN))
  | ref h hA hs' hS =>
    have e : gateM g d rows ws.length x = gadgetM false d (rowOf rows x.A) ws.length := by simp [gateM, h]
    have hl := hwid x.A hA.1 hA.2
    rw [hs'] at hl
    have h0 : x.N.toNat = 0 := by have := h12 h; omega
    have e2 : gW s p wd (asG 8 x) = atW wd x.A.toNat := by
      have : asG 8 x = { x with K := 8 } := if_pos h
      rw [this]
      show rotW (atW wd x.A.toNat) x.N.toNat = _
      rw [h0]; rfl
    rw [e, e2, ← hV x.A hA.1 hA.2]
    exact said_ref ⟨hd.1, by omega⟩ hl (hwir x.A hA.1 hA.2)
  | two h hA hB hS =>
    have hlA := hwid x.A hA.1 hA.2
    have hlB := hwid x.B hB.1 hB.2
    have hwA := hwir x.A hA.1 hA.2
    have hwB := hwir x.B hB.1 hB.2
    rw [gW_as (by omega)]
    by_cases hboth : x.K = 3 ∧ g.sec x.A = true ∧ g.sec x.B = true
    · obtain ⟨h3, sA, sB⟩ := hboth
      have e : gateM g d rows ws.length x = gadgetM true d (rowOf rows x.A ++ rowOf rows x.B) ws.length := by simp [gateM, h3, sA, sB]
      rw [sA] at hlA
      rw [sB] at hlB
      have e2 : ∀ a b c e, fnG x.K x.N a b c e = a &&& b := fun _ _ _ _ => by rw [h3]; rfl
      rw [e, e2, ← hV x.A hA.1 hA.2, ← hV x.B hB.1 hB.2]
      exact said_and hd hlA hlB (fun y hy => by
        rcases List.mem_append.1 hy with h | h
        · exact hwA y h
        · exact hwB y h)
    · have e : gateM g d rows ws.length x = twoM g rows ws.length x := by
        unfold gateM
        rw [if_neg (by omega), if_neg (by omega), if_neg (by omega), if_neg (by omega), if_neg hboth, if_pos h]
      have e2 : ∀ a b c e, fnG x.K x.N a b c e = if x.K = 3 then a &&& b else a ^^^ b := fun _ _ _ _ => by rcases h with h | h <;> rw [h] <;> rfl
      rw [e, e2, ← hV x.A hA.1 hA.2, ← hV x.B hB.1 hB.2]
      exact said_twoM (i := i) h hboth hlA hlB hwA hwB
  | not h hA hN hS =>
    have e : gateM g d rows ws.length x = (elOps true 3 x.N (rowOf rows x.A) (fun _ => 0), elRow true (rowOf rows x.A) ws.length) := by simp [gateM, h, stepOf]
    have e2 : ∀ a b c e, fnG x.K x.N a b c e = ~~~a := fun _ _ _ _ => by rw [h]; rfl
    rw [e, gW_as (by rw [h]; decide), e2, ← hV x.A hA.1 hA.2]
    exact said_not (by rw [hwid x.A hA.1 hA.2]; unfold wid; split <;> omega) (hwir x.A hA.1 hA.2)
  | sh h hA hN hS =>
    have e : gateM g d rows ws.length x = (elOps false (stepOf x.K) x.N (rowOf rows x.A) (fun _ => 0), elRow false (rowOf rows x.A) ws.length) := by
      rcases h with h | h | h <;> simp [gateM, h, stepOf]
    rw [e, gW_as (by omega)]
    have hw := hwir x.A hA.1 hA.2
    have hv := hV x.A hA.1 hA.2
    rcases h with h | h | h
    · have e2 : ∀ a b c e, fnG x.K x.N a b c e = shW 0 a x.N.toNat := fun _ _ _ _ => by rw [h]; rfl
      rw [e2, ← hv]
      have es : stepOf x.K = 4 := by rw [h]; rfl
      rw [es]
      exact said_lin (f := fun a => shW 0 a x.N.toNat) (.inl rfl) hw (fun _ => rfl) (fun u v => shW_xor 0 u v _) (shW_0 0 _)
    · have e2 : ∀ a b c e, fnG x.K x.N a b c e = shW 1 a x.N.toNat := fun _ _ _ _ => by rw [h]; rfl
      rw [e2, ← hv]
      have es : stepOf x.K = 5 := by rw [h]; rfl
      rw [es]
      exact said_lin (f := fun a => shW 1 a x.N.toNat) (.inr (.inl rfl)) hw (fun _ => rfl) (fun u v => shW_xor 1 u v _) (shW_0 1 _)
    · have e2 : ∀ a b c e, fnG x.K x.N a b c e = rotW a x.N.toNat := fun _ _ _ _ => by rw [h]; rfl
      rw [e2, ← hv]
      have es : stepOf x.K = 6 := by rw [h]; rfl
      rw [es]
      exact said_lin (f := fun a => rotW a x.N.toNat) (.inr (.inr rfl)) hw (fun _ => rfl) (fun u v => rotW_xor u v _) (rotW_0 _)

/-- the gates one after the other -/
theorem gates_sum {g : CircM} (hg : GraphOk g) {d : Nat} (hd : 1 ≤ d ∧ d ≤ 4) {s p rs W0 : List Wd} (hl0 : (W0.length : Int) = innM g d) (hin : InW g d s p W0) : ∀ i, i ≤ g.gates.length → ∃ t rc, runE rs (runG g d (innM g d) (g.gates.take i)).1 (W0, 0) = (W0 ++ t, rc) ∧ Vals (W0 ++ t) (wordsL s p ((g.as 8).gates.take i)) (runG g d (innM g d) (g.gates.take i)).2 i
  | 0, _ => ⟨[], 0, by rw [List.append_nil]; rfl, fun k h0 h1 => by omega⟩
  | i + 1, hi => by
    obtain ⟨t, rc, h1, h2⟩ := gates_sum hg hd (rs := rs) hl0 hin i (by omega)
    have hx : g.gates[i]? = some g.gates[i] := List.getElem?_eq_getElem (by omega)
    have hx8 : (g.as 8).gates[i]? = some (asG 8 g.gates[i]) := as_get hx
    have hR := rows_run hg (d := d) ⟨hd.1, by omega⟩ i (by omega)
    have hk := graph_gate hg hx
    have h12 : g.gates[i].K = 12 → (g.gates[i].N.toNat : Int) = 0 := fun h => by
      have hgo := hg.c.t i _ (as_get (k := 5) hx)
      have hK : (asG 5 g.gates[i]).K = 5 := by simp [asG, h]
      obtain ⟨-, -, k3, -⟩ := (gOk_5 hK).1 hgo
      simpa [asG, h] using k3
    rw [take_next hx, runG_next, wordsL_next s p hx8]
    have hwl : (wordsL s p ((g.as 8).gates.take i)).length = i := by rw [wordsL_len, List.length_take, as_len]; omega
    generalize wordsL s p ((g.as 8).gates.take i) = wd at *
    generalize runG g d (innM g d) (g.gates.take i) = S at *
    obtain ⟨ops, rows⟩ := S
    generalize g.gates[i] = x at *
    have hlen : ((W0 ++ t).length : Int) = innM g d + ops.length := by
      have := runE_len rs ops (W0, 0)
      rw [h1] at this
      simp only at this
      rw [this]; omega
    have hin' : InW g d s p (W0 ++ t) := by
      have hs := hg.c.s
      have hp := hg.c.p
      simp only [CircM.as] at hs hp
      unfold innM at hl0
      refine ⟨fun N hN => Eq.trans ?_ (hin.sec N hN), fun N hN => Eq.trans ?_ (hin.pub N hN)⟩
      · congr 1
        apply List.map_congr_left
        intro k hk
        have hk' : k < d + 1 := by simpa using hk
        apply atW_app
        have h1 : ((N : Int) + 1) * ((d : Int) + 1) ≤ g.secrets * ((d : Int) + 1) := Int.mul_le_mul_of_nonneg_right (by omega) (by omega)
        rw [Int.add_mul, Int.one_mul] at h1
        have h3 : ((N * (d + 1) : Nat) : Int) = (N : Int) * ((d : Int) + 1) := by rw [Int.natCast_mul]; rfl
        omega
      · apply atW_app
        have h2 : 0 ≤ g.secrets * ((d : Int) + 1) := Int.mul_nonneg hs.1 (by omega)
        omega
    obtain ⟨G, rc', k1, k2⟩ := gate_sum (rs := rs) (rc := rc) hd hk h12 hR hlen hin' h2
    have hlr := hR.len
    simp only at hlr
    refine ⟨t ++ G, rc', ?_, fun k h0 hk' => ?_⟩
    · show runE rs (ops ++ (gateM g d rows (innM g d + ops.length) x).1) (W0, 0) = _
      rw [runE_app, h1, k1, List.append_assoc]
    · show joinW (inV (W0 ++ (t ++ G)) (rowOf (rows ++ [(gateM g d rows (innM g d + ops.length) x).2]) k)) = _
      rw [rowOf_append h0, hlr, ← List.append_assoc]
      by_cases hki : k < i
      · rw [if_pos hki, inV_old (by rw [hlen]; exact hR.wires k h0 hki), h2 k h0 hki, atW_app (by omega)]
      · have : k = i := by omega
        subst this
        rw [if_neg (by omega), if_pos rfl, k2, atW_newI (k := 0) (by omega)]
        rfl
end Go.Ab.Ex
end
section
namespace Go.Ab.Ex
open Go.Proofs
set_option maxRecDepth 10000
set_option maxHeartbeats 1000000

theorem joinW_reps : ∀ n, joinW (List.replicate n (0 : Wd)) = 0
  | 0 => rfl
  | n + 1 => by rw [List.replicate_succ, joinW_cons, joinW_reps n]; rfl
theorem out_op {d : Nat} {row : List Int} {o : OpM} (h : o ∈ outOps d row) : (∃ k, k < row.length ∧ o = ⟨8, row.getD k 0, 0, 0⟩) ∨ o = ⟨7, 0, 0, 0⟩ := by
  simp only [outOps, List.mem_map, List.mem_range] at h
  obtain ⟨k, -, rfl⟩ := h
  by_cases hk : k < row.length
  · rw [if_pos hk]; exact .inl ⟨k, hk, rfl⟩
  · rw [if_neg hk]; exact .inr rfl
theorem out_run (rs : List Wd) {W : List Wd} (rc : Nat) {d : Nat} {row : List Int} (hr : WiresOk row W.length) (hl : row.length ≤ d + 1) : ∃ V, V.length = d + 1 ∧ runE rs (outOps d row) (W, rc) = (W ++ V, rc) ∧ joinW V = joinW (inV W row) := by
  have hold : ∀ o ∈ outOps d row, OldOp W.length o := by
    intro o ho
    rcases out_op ho with ⟨k, hk, rfl⟩ | rfl
    · exact ⟨show (8 : Int) ≠ 0 by decide, fun _ => by have := hr.getD hk; simp only; omega, fun h => absurd (show 1 < takesO 8 from h) (by decide)⟩
    · exact ⟨by decide, fun h => absurd h (by decide), fun h => absurd h (by decide)⟩
  have hrun := run_old rs (ws := W) rc (outOps d row) [] hold
  rw [List.append_nil, List.nil_append] at hrun
  refine ⟨_, by simp [outOps], hrun, ?_⟩
  have e : (outOps d row).map (opW rs W 0) = inV W row ++ List.replicate (d + 1 - row.length) 0 := by
    apply List.ext_getElem?
    intro i
    unfold outOps inV
    rw [List.map_map, List.getElem?_map]
    by_cases hi : i < d + 1
    · rw [List.getElem?_range hi]
      by_cases hk : i < row.length
      · rw [List.getElem?_append_left (by simpa using hk), List.getElem?_map, List.getElem?_eq_getElem hk]
        simp only [Option.map_some, Function.comp, if_pos hk]
        rw [List.getD_eq_getElem?_getD, List.getElem?_eq_getElem hk]
        rfl
      · rw [List.getElem?_append_right (by simpa using hk), List.getElem?_replicate, List.length_map, if_pos (by omega)]
        simp only [Option.map_some, Function.comp, if_neg hk]
        rfl
    · rw [List.getElem?_eq_none (by simpa using hi), List.getElem?_eq_none (by simp; omega)]; rfl
  rw [e, joinW_app, joinW_reps, xor_0]

theorem mask_last {w V : List Wd} {d j : Nat} (hw : w.length = j * d) (hV : V.length = d) : maskW (w ++ V) d j = V := by
  unfold maskW
  rw [← hw]
  refine Eq.trans ?_ (atW_all V)
  rw [hV]
  exact List.map_congr_left fun k _ => atW_new
theorem outsW_app {w V : List Wd} {d j : Nat} (hw : w.length = j * (d + 1)) (hV : V.length = d + 1) : outsW (w ++ V) d (j + 1) = outsW w d j ++ [joinW V] := by
  rw [outsW_next]
  congr 1
  · unfold outsW
    apply List.map_congr_left
    intro i hi
    have hi' : i < j := by simpa using hi
    unfold outW maskW
    congr 1
    apply List.map_congr_left
    intro k hk
    have hk' : k < d + 1 := by simpa using hk
    apply atW_app
    have : (i + 1) * (d + 1) ≤ j * (d + 1) := Nat.mul_le_mul_right _ hi'
    rw [Nat.succ_mul] at this
    omega
  · show [joinW (maskW (w ++ V) (d + 1) j)] = _
    rw [mask_last hw hV]

/-- the outputs one after the other -/
theorem outs_sum (rs : List Wd) {g : CircM} {d : Nat} {rows : List (List Int)} {ops : List OpM} {ws W0 s p : List Wd} {rc : Nat} {inn : Int} {n : Nat} (hlen : (ws.length : Int) = inn + ops.length) (hrun : runE rs ops (W0, 0) = (ws, rc)) (hwid : ∀ k : Int, 0 ≤ k → k < n → (rowOf rows k).length ≤ d + 1) (hwir : ∀ k : Int, 0 ≤ k → k < n → WiresOk (rowOf rows k) ws.length) (hV : Vals ws (wordsL s p (g.as 8).gates) rows n) (l : List OutM) (hl : ∀ (i : Nat) (o : OutM), l[i]? = some o → 0 ≤ o.At ∧ o.At < n) :
    ∀ j, j ≤ l.length → ∃ t : List Wd, runE rs (runO d inn rows ops (l.take j)).1 (W0, 0) = (ws ++ t, rc) ∧ ((runO d inn rows ops (l.take j)).1.length : Int) + inn = ws.length + t.length ∧ WiresOk (runO d inn rows ops (l.take j)).2 (ws ++ t).length ∧
      (pickW (ws ++ t) (runO d inn rows ops (l.take j)).2).length = j * (d + 1) ∧ outsW (pickW (ws ++ t) (runO d inn rows ops (l.take j)).2) d j = wantW s p g (l.take j)
  | 0, _ => ⟨[], by rw [List.append_nil]; exact hrun, by show (ops.length : Int) + inn = _; simp only [List.length_nil]; omega, fun x hx => by simp [runO] at hx, by simp [pickW, runO], rfl⟩
  | j + 1, hj => by
    obtain ⟨t, h1, h2, h3, h4, h5⟩ := outs_sum rs hlen hrun hwid hwir hV l hl j (by omega)
    have ho : l[j]? = some l[j] := List.getElem?_eq_getElem (by omega)
    have hA := hl j _ ho
    rw [wantW_next s p g ho, take_next ho, runO_next]
    generalize runO d inn rows ops (l.take j) = S at *
    obtain ⟨ops', us⟩ := S
    simp only at h1 h2 h3 h4 h5
    generalize l[j] = o at *
    simp only [stepO]
    have hwA := hwir o.At hA.1 hA.2
    obtain ⟨V, v1, v2, v3⟩ := out_run rs (W := ws ++ t) rc (d := d) (row := rowOf rows o.At) (hwA.mono (by rw [List.length_append]; omega)) (hwid o.At hA.1 hA.2)
    have hoo : (outOps d (rowOf rows o.At)).length = d + 1 := by simp [outOps]
    have ep : pickW (ws ++ (t ++ V)) (us ++ (List.range (d + 1)).map fun (k : Nat) => inn + ops'.length + (k : Int)) = pickW (ws ++ t) us ++ V := by
      unfold pickW
      rw [List.map_append, List.map_map, ← List.append_assoc]
      congr 1
      · apply List.map_congr_left
        intro x hx
        have := h3 x hx
        exact atW_app (by omega)
      · have : ((fun o : Int => atW (ws ++ t ++ V) o.toNat) ∘ fun (k : Nat) => inn + ops'.length + (k : Int)) = atW V := by
          funext k
          show atW (ws ++ t ++ V) (inn + ops'.length + (k : Int)).toNat = _
          exact atW_newI (k := k) (by rw [List.length_append]; omega)
        rw [this, ← v1]
        exact atW_all V
    refine ⟨t ++ V, ?_, ?_, ?_, ?_, ?_⟩
    · rw [runE_app, h1, v2, List.append_assoc]
    · rw [List.length_append, List.length_append, hoo, v1]; omega
    · intro x hx
      rw [List.length_append, List.length_append, v1]
      rw [List.length_append] at h3
      rcases List.mem_append.1 hx with hx | hx
      · have := h3 x hx; omega
      · simp only [List.mem_map, List.mem_range] at hx
        obtain ⟨k, hk, rfl⟩ := hx
        omega
    · rw [ep, List.length_append, h4, v1, Nat.succ_mul]
    · rw [ep, outsW_app h4 v1, h5, v3, inV_old hwA, hV o.At hA.1 hA.2]

theorem joinW_in (s m : List Wd) (d i : Nat) : joinW (inW s m d i) = atW s i := by
  unfold inW
  rw [joinW_cons, BitVec.xor_assoc, BitVec.xor_self]
  exact xor_0 _
theorem sec_at (s m : List Wd) (d : Nat) : ∀ (n N k : Nat), N < n → k < d + 1 → atW (secW s m d n) (N * (d + 1) + k) = atW (inW s m d N) k
  | 0, N, k, h, _ => absurd h (by omega)
  | n + 1, N, k, h, hk => by
    rw [secW_next]
    have hl := secW_len s m d n
    by_cases hN : N < n
    · rw [atW_app, sec_at s m d n N k hN hk]
      have : (N + 1) * (d + 1) ≤ n * (d + 1) := Nat.mul_le_mul_right _ hN
      rw [Nat.succ_mul] at this
      omega
    · have : N = n := by omega
      subst this
      rw [← hl, atW_new]

theorem plainC : PlainC := by
  intro g n s p m rs hgl hol h1 h4 he _
  have hg : GraphOk g := Classical.byContradiction fun h => by
    unfold expandM at he
    rw [if_pos h] at he
    exact absurd he (by decide)
  have e : (expandM g n).1 = (innM g n, codeM g n) := by
    unfold expandM at he ⊢
    rw [if_neg (not_not_intro hg), if_neg (by omega)] at he ⊢
    by_cases h6 : 6 < (n : Int) ∨ 4000 < g.secrets * ((n : Int) + 1) + g.publics
    · rw [if_pos h6] at he; exact absurd he (by decide)
    · rw [if_neg h6]; rfl
  unfold outsM inputsM
  rw [if_pos he, if_pos he, e]
  simp only [Int.toNat_natCast]
  have hs := hg.c.s
  have hp := hg.c.p
  simp only [CircM.as] at hs hp
  obtain ⟨S, hS⟩ : ∃ S : Nat, g.secrets = S := ⟨g.secrets.toNat, by omega⟩
  obtain ⟨P, hP⟩ : ∃ P : Nat, g.publics = P := ⟨g.publics.toNat, by omega⟩
  have hinn : innM g n = ((S * (n + 1) + P : Nat) : Int) := by
    unfold innM
    rw [hS, hP, Int.natCast_add, Int.natCast_mul]; rfl
  have hsl := secW_len s m n S
  unfold execM
  generalize hW : takeW (secW s m n g.secrets.toNat ++ (List.range g.publics.toNat).map (atW p)) (innM g n).toNat = W0
  rw [hS, hP, hinn] at hW
  simp only [Int.toNat_natCast] at hW
  have hW0 : W0 = secW s m n S ++ (List.range P).map (atW p) := by
    rw [← hW]
    apply List.ext_getElem?
    intro i
    by_cases hi : i < S * (n + 1) + P
    · rw [takeW_get hi]
      unfold atW
      rw [List.getD_eq_getElem?_getD, List.getElem?_eq_getElem (by rw [List.length_append, hsl, List.length_map, List.length_range]; exact hi)]
      rfl
    · rw [List.getElem?_eq_none (by rw [takeW_len]; omega), List.getElem?_eq_none (by rw [List.length_append, hsl, List.length_map, List.length_range]; omega)]
  clear hW
  have hl0 : (W0.length : Int) = innM g n := by rw [hinn, hW0, List.length_append, hsl, List.length_map, List.length_range]
  have hin : InW g n s p W0 := by
    refine ⟨fun N hN => ?_, fun N hN => ?_⟩
    · rw [← joinW_in s m n N]
      congr 1
      rw [← atW_all (inW s m n N), inW_len]
      apply List.map_congr_left
      intro k hk
      have hk' : k < n + 1 := by simpa using hk
      rw [hW0, atW_app, sec_at s m n S N k (by omega) hk']
      rw [hsl]
      have : (N + 1) * (n + 1) ≤ S * (n + 1) := Nat.mul_le_mul_right _ (by omega)
      rw [Nat.succ_mul] at this
      omega
    · have e2 : g.secrets * ((n : Int) + 1) + N = (((secW s m n S).length + N : Nat) : Int) := by
        rw [hsl, hS, Int.natCast_add, Int.natCast_mul]; rfl
      rw [e2, Int.toNat_natCast, hW0, atW_new]
      unfold atW
      rw [List.getD_eq_getElem?_getD, List.getElem?_map, List.getElem?_range (by omega)]
      rfl
  obtain ⟨t, rc, k1, k2⟩ := gates_sum hg (rs := rs) ⟨h1, h4⟩ hl0 hin g.gates.length (Nat.le_refl _)
  have hR := rows_run hg (d := n) ⟨h1, by omega⟩ g.gates.length (Nat.le_refl _)
  have et8 : (g.as 8).gates.take g.gates.length = (g.as 8).gates := by rw [← as_len g 8]; exact List.take_length
  rw [et8] at k2
  rw [List.take_length] at k1 k2 hR
  have hlen : ((W0 ++ t).length : Int) = innM g n + (runG g n (innM g n) g.gates).1.length := by
    have := runE_len rs (runG g n (innM g n) g.gates).1 (W0, 0)
    rw [k1] at this
    simp only at this
    rw [this]; omega
  have hwir := hR.wires
  rw [← hlen] at hwir
  obtain ⟨t', q1, -, -, -, q5⟩ := outs_sum rs (g := g) (d := n) (s := s) (p := p) hlen k1 (fun k h0 h1 => by rw [hR.wid k h0 h1]; unfold wid; split <;> omega) hwir k2 g.outs (fun i o hio => by have := hg.c.o i o hio; rw [as_len] at this; exact this) g.outs.length (Nat.le_refl _)
  rw [List.take_length] at q1 q5
  show outsW (pickW (runE rs (runO n (innM g n) (runG g n (innM g n) g.gates).2 (runG g n (innM g n) g.gates).1 g.outs).1 (W0, 0)).1 (runO n (innM g n) (runG g n (innM g n) g.gates).2 (runG g n (innM g n) g.gates).1 g.outs).2) n g.outs.length = _
  rw [q1]
  exact q5
end Go.Ab.Ex
end
