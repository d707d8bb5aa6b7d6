/- Parts of the proof, joined by program: Wire: how values are read; a first function; Wire: a circuit among the arguments; Wire: the row of the law WireExpands, from the law of the abstract machine; Wire: the rows of the laws WireRandoms and WireWords, from the laws of the abstract machine; Wire: functions of numbers; Wire: lists that are the same; Wire: words: one at a place, all together, lists that are the same; Wire: four lists of words among the arguments; Wire: the row of the law WireRight, from the law of the abstract machine; The abstract machine: one element more, so many more; The abstract machine: new blocks; slices that grow; The abstract machine: more equations of operations; The abstract machine: results; Wire: the document's maker of code. -/
import Derived.Test.YtmodeilippcbnaaR05
import Derived.Test.YtmodeilippcbnaaRows
set_option linter.all false
section
namespace Go.Ab.Ex
open Go.Proofs

abbrev C (f : FuncId) (args : Array Value) (H : Heap) (Q : Ret → Heap → Prop) : Prop := SemC Try.prog 0 f args H Q
abbrev W (c : Code) (k : Exit → St → Prop) (st : St) : Prop := wpc Try.prog TT 0 c k st

structure OpM where
  (K A B : Int)
  (N : BitVec 32)
def OpM.c (o : OpM) : List Value := [.int .i64 o.K, .int .i64 o.A, .int .i64 o.B, .int .u32 o.N.toNat]
theorem OpM.len (o : OpM) : o.c.length = 4 := rfl
def intC (x : Int) : List Value := [.int .i64 x]
theorem intC_len (x : Int) : (intC x).length = 1 := rfl

def wordC (x : BitVec 32) : List Value := [.int .u32 x.toNat]
theorem wordC_len (x : BitVec 32) : (wordC x).length = 1 := rfl
structure GateM where
  (K A B : Int)
  (N : BitVec 32)
  (S : Bool)
def GateM.c (g : GateM) : List Value := [.int .i64 g.K, .int .i64 g.A, .int .i64 g.B, .int .u32 g.N.toNat, .bool g.S]
theorem GateM.len (g : GateM) : g.c.length = 5 := rfl
structure OutM where
  (name : ByteArray)
  (At : Int)
def OutM.c (o : OutM) : List Value := [.string o.name, .int .i64 o.At]
theorem OutM.len (o : OutM) : o.c.length = 2 := rfl
structure CircM where
  gates : List GateM
  (secrets publics : Int)
  outs : List OutM

/-- a circuit's value -/
structure CircR (F : Fr) (H : Heap) (v : Value) (g : CircM) : Prop where
  ex : ∃ vg vo, v = .agg #[vg, .int .i64 g.secrets, .int .i64 g.publics, vo] ∧ Sl F H 5 vg g.gates.length (g.gates.flatMap GateM.c) ∧ Sl F H 2 vo g.outs.length (g.outs.flatMap OutM.c)
theorem CircR.step {F F' : Fr} {H H' : Heap} {v : Value} {g : CircM} (h : CircR F H v g) (s : Step F H F' H') : CircR F' H' v g :=
  let ⟨vg, vo, h1, h2, h3⟩ := h.ex; ⟨vg, vo, h1, h2.step s, h3.step s⟩
theorem CircR.noF {F : Fr} {H : Heap} {v : Value} {g : CircM} (h : CircR F H v g) : CircR noF H v g :=
  let ⟨vg, vo, h1, h2, h3⟩ := h.ex; ⟨vg, vo, h1, h2.noF, h3.noF⟩
theorem CircR.more {F F' : Fr} {H : Heap} {v : Value} {g : CircM} (h : CircR F H v g) (hF : ∀ j, F' j → F j ∨ H.next ≤ j) : CircR F' H v g :=
  let ⟨vg, vo, h1, h2, h3⟩ := h.ex; ⟨vg, vo, h1, h2.more hF, h3.more hF⟩

/-- a code's value -/
structure CodeR (F : Fr) (H : Heap) (v : Value) (inn : Int) (ops : List OpM) (outs : List Int) : Prop where
  ex : ∃ vo vu, v = .agg #[.int .i64 inn, vo, vu] ∧ Sl F H 4 vo ops.length (ops.flatMap OpM.c) ∧ Sl F H 1 vu outs.length (outs.flatMap intC)

theorem CodeR.step {F F' : Fr} {H H' : Heap} {v : Value} {inn : Int} {ops : List OpM} {outs : List Int} (h : CodeR F H v inn ops outs) (s : Step F H F' H') : CodeR F' H' v inn ops outs :=
  let ⟨vg, vo, h1, h2, h3⟩ := h.ex; ⟨vg, vo, h1, h2.step s, h3.step s⟩
theorem CodeR.noF {F : Fr} {H : Heap} {v : Value} {inn : Int} {ops : List OpM} {outs : List Int} (h : CodeR F H v inn ops outs) : CodeR noF H v inn ops outs :=
  let ⟨vg, vo, h1, h2, h3⟩ := h.ex; ⟨vg, vo, h1, h2.noF, h3.noF⟩
theorem CodeR.more {F F' : Fr} {H : Heap} {v : Value} {inn : Int} {ops : List OpM} {outs : List Int} (h : CodeR F H v inn ops outs) (hF : ∀ j, F' j → F j ∨ H.next ≤ j) : CodeR F' H v inn ops outs :=
  let ⟨vg, vo, h1, h2, h3⟩ := h.ex; ⟨vg, vo, h1, h2.more hF, h3.more hF⟩

theorem OpM.one (o : OpM) : o.c.all oneCell = true := (rfl)
theorem intC_one (x : Int) : (intC x).all oneCell = true := (rfl)
theorem wordC_one (x : BitVec 32) : (wordC x).all oneCell = true := (rfl)
theorem GateM.one (x : GateM) : x.c.all oneCell = true := (rfl)
theorem OutM.one (x : OutM) : x.c.all oneCell = true := (rfl)

def randoms (ops : List OpM) : Nat := ops.countP fun o => decide (o.K = 0)
theorem randoms_take {ops : List OpM} {i : Nat} {o : OpM} (h : ops[i]? = some o) : randoms (ops.take (i + 1)) = randoms (ops.take i) + (if o.K = 0 then 1 else 0) := by
  unfold randoms
  rw [List.take_add_one, h]
  simp [List.countP_append, List.countP_cons]

set_option maxRecDepth 10000
theorem f16_c {H : Heap} {v : Value} {inn : Int} {ops : List OpM} {outs : List Int} {F : Fr} (hv : CodeR F H v inn ops outs) (hlen : ops.length < 1000000) {Q : Ret → Heap → Prop} (hQ : ∀ H', Ext H H' → Q (.ret (.int .i64 (randoms ops))) H') : C 16 #[v] H Q := by
  obtain ⟨vo, vu, rfl, ho, hu⟩ := hv.noF.ex
  obtain ⟨b, cap, rfl, -, -, hb⟩ := ho.ex
  obtain ⟨b', cap', rfl, -⟩ := hu.ex
  clear hv ho hu
  refine SemC_fn TT.ok fn16 rfl rfl ?_
  simp only [Try.f16, start, KC_normal, go_sem, Nat.reduceEqDiff, Nat.reduceAdd, reduceIte, reduceCtorEq, Nat.reduceLeDiff, Nat.reduceShiftRight, Nat.reduceAnd, Nat.reduceOr, Nat.reducePow, Nat.reduceBNe, Nat.reduceBEq]
  -- the loop
  refine wp_loop TT.ok rfl rfl (fun j s => ∃ tm H' i, s = ⟨tm, 22, [], false, H'⟩ ∧ j = ops.length - i ∧ i ≤ ops.length ∧ Ext H H' ∧ Kp noF H' H.next (.cells true 3 [.int .i64 inn, .slice b ops.length cap, .slice b' outs.length cap']) ∧
    tm.get 1 = some (.pointer (some ⟨H.next, 0, none⟩)) ∧ tm.get 3 = some (.int .i64 (randoms (ops.take i))) ∧ tm.get 4 = some (.int .i64 (i : Nat))) ops.length ?_ ?_
  · refine ⟨_, _, 0, rfl, rfl, Nat.zero_le _, (Ext.refl H).push _, ⟨Nat.lt_succ_self _, noF_not _, H_get_new _ _⟩, ?_, ?_, ?_⟩ <;> simp only [start, KC_normal, go_sem, Nat.reduceEqDiff, Nat.reduceAdd, reduceIte, reduceCtorEq, Nat.reduceLeDiff, Nat.reduceShiftRight, Nat.reduceAnd, Nat.reduceOr, Nat.reducePow, Nat.reduceBNe, Nat.reduceBEq] <;> rfl
  · rintro j s - ⟨tm, H', i, rfl, hj, hi, hE, hbx, h1, h3, h4⟩
    simp only [start, KC_normal, go_sem, Nat.reduceEqDiff, Nat.reduceAdd, reduceIte, reduceCtorEq, Nat.reduceLeDiff, Nat.reduceShiftRight, Nat.reduceAnd, Nat.reduceOr, Nat.reducePow, Nat.reduceBNe, Nat.reduceBEq, h1, h3, h4, hbx.get]
    refine CN_split (fun hlt => ?_) (fun hge => ?_)
    · have hlt' : i < ops.length := by omega
      have hel : ops[i]? = some ops[i] := by simp [hlt']
      obtain ⟨bk, o, own, C, rfl, hk, hC, -⟩ := hb.at OpM.len hel
      have hr := randoms_take hel
      have hcount : randoms (ops.take i) ≤ i := by unfold randoms; exact Nat.le_trans (List.countP_le_length) (by simp; omega)
      have hC0 := hC 0 (by omega)
      simp only [OpM.c, Nat.add_zero, List.getElem?_cons_zero] at hC0
      simp only [start, KC_normal, go_sem, Nat.reduceEqDiff, Nat.reduceAdd, reduceIte, reduceCtorEq, Nat.reduceLeDiff, Nat.reduceShiftRight, Nat.reduceAnd, Nat.reduceOr, Nat.reducePow, Nat.reduceBNe, Nat.reduceBEq, h1, h3, h4, hbx.get, ia_in _ _ _ _ _ hlt', (hk.step hE.step).get, hC0]
      refine CN_split (fun h0 => ?_) (fun h0 => ?_)
      · simp only [start, KC_normal, go_sem, Nat.reduceEqDiff, Nat.reduceAdd, reduceIte, reduceCtorEq, Nat.reduceLeDiff, Nat.reduceShiftRight, Nat.reduceAnd, Nat.reduceOr, Nat.reducePow, Nat.reduceBNe, Nat.reduceBEq, h1, h3, h4]
        refine ⟨ops.length - (i + 1), by omega, _, H', i + 1, rfl, rfl, by omega, hE, hbx, ?_, ?_, ?_⟩ <;> simp only [start, KC_normal, go_sem, Nat.reduceEqDiff, Nat.reduceAdd, reduceIte, reduceCtorEq, Nat.reduceLeDiff, Nat.reduceShiftRight, Nat.reduceAnd, Nat.reduceOr, Nat.reducePow, Nat.reduceBNe, Nat.reduceBEq, h1, h3, h4]
        · rw [hr, if_pos h0, wrap_i64 _ (by omega) (by omega)]; simp
        · rw [wrap_i64 _ (by omega) (by omega)]; simp
      · simp only [start, KC_normal, go_sem, Nat.reduceEqDiff, Nat.reduceAdd, reduceIte, reduceCtorEq, Nat.reduceLeDiff, Nat.reduceShiftRight, Nat.reduceAnd, Nat.reduceOr, Nat.reducePow, Nat.reduceBNe, Nat.reduceBEq, h1, h3, h4]
        refine ⟨ops.length - (i + 1), by omega, _, H', i + 1, rfl, rfl, by omega, hE, hbx, ?_, ?_, ?_⟩ <;> simp only [start, KC_normal, go_sem, Nat.reduceEqDiff, Nat.reduceAdd, reduceIte, reduceCtorEq, Nat.reduceLeDiff, Nat.reduceShiftRight, Nat.reduceAnd, Nat.reduceOr, Nat.reducePow, Nat.reduceBNe, Nat.reduceBEq, h1, h3, h4]
        · rw [hr, if_neg h0]; simp
        · rw [wrap_i64 _ (by omega) (by omega)]; simp
    · have hi' : i = ops.length := by omega
      subst hi'
      rw [List.take_length] at h3
      simp only [start, KC_normal, go_sem, Nat.reduceEqDiff, Nat.reduceAdd, reduceIte, reduceCtorEq, Nat.reduceLeDiff, Nat.reduceShiftRight, Nat.reduceAnd, Nat.reduceOr, Nat.reducePow, Nat.reduceBNe, Nat.reduceBEq, h1, h3, h4, hbx.get]
      exact hQ H' hE
end Go.Ab.Ex
end
section
namespace Go.Ab.Gl
open Go.Ab Go.Ab.Ex
open Go.Proofs
open Go.ChangeShapes Go.WideShapes Go.RowKit

theorem und3 : Try.prog.underlying 3 = some (.int .i64) := by kernel_rfl
theorem und4 : Try.prog.underlying 4 = some .bool := by kernel_rfl
theorem und9 : Try.prog.underlying 9 = some .string := by kernel_rfl
theorem und22 : Try.prog.underlying 22 = some (.slice 60) := by kernel_rfl
theorem und23 : Try.prog.underlying 23 = some (.slice 56) := by kernel_rfl
theorem und25 : Try.prog.underlying 25 = some (.struct (fsOf Try.prog 25)) := by kernel_rfl
theorem und43 : Try.prog.underlying 43 = some (.slice 54) := by kernel_rfl
theorem und44 : Try.prog.underlying 44 = some (.array 4 43) := by kernel_rfl
theorem und54 : Try.prog.underlying 54 = some (.int .u32) := by kernel_rfl
theorem und56 : Try.prog.underlying 56 = some (.struct (fsOf Try.prog 56)) := by kernel_rfl
theorem und60 : Try.prog.underlying 60 = some (.struct (fsOf Try.prog 60)) := by kernel_rfl
theorem co3 : Try.prog.cellsOf 3 = 1 := by kernel_rfl
theorem co4 : Try.prog.cellsOf 4 = 1 := by kernel_rfl
theorem co9 : Try.prog.cellsOf 9 = 1 := by kernel_rfl
theorem co22 : Try.prog.cellsOf 22 = 1 := by kernel_rfl
theorem co23 : Try.prog.cellsOf 23 = 1 := by kernel_rfl
theorem co25 : Try.prog.cellsOf 25 = 4 := by kernel_rfl
theorem co43 : Try.prog.cellsOf 43 = 1 := by kernel_rfl
theorem co44 : Try.prog.cellsOf 44 = 4 := by kernel_rfl
theorem co54 : Try.prog.cellsOf 54 = 1 := by kernel_rfl
theorem co56 : Try.prog.cellsOf 56 = 2 := by kernel_rfl
theorem co60 : Try.prog.cellsOf 60 = 5 := by kernel_rfl
theorem fs60_0 : ((fsOf Try.prog 60)[0]?).map (fun f => (f.type, f.offset)) = some (3, 0) := by kernel_rfl
theorem fs60_1 : ((fsOf Try.prog 60)[1]?).map (fun f => (f.type, f.offset)) = some (3, 1) := by kernel_rfl
theorem fs60_2 : ((fsOf Try.prog 60)[2]?).map (fun f => (f.type, f.offset)) = some (3, 2) := by kernel_rfl
theorem fs60_3 : ((fsOf Try.prog 60)[3]?).map (fun f => (f.type, f.offset)) = some (54, 3) := by kernel_rfl
theorem fs60_4 : ((fsOf Try.prog 60)[4]?).map (fun f => (f.type, f.offset)) = some (4, 4) := by kernel_rfl
theorem fs56_0 : ((fsOf Try.prog 56)[0]?).map (fun f => (f.type, f.offset)) = some (9, 0) := by kernel_rfl
theorem fs56_1 : ((fsOf Try.prog 56)[1]?).map (fun f => (f.type, f.offset)) = some (3, 1) := by kernel_rfl
theorem fs25_0 : ((fsOf Try.prog 25)[0]?).map (fun f => (f.type, f.offset)) = some (22, 0) := by kernel_rfl
theorem fs25_1 : ((fsOf Try.prog 25)[1]?).map (fun f => (f.type, f.offset)) = some (3, 1) := by kernel_rfl
theorem fs25_2 : ((fsOf Try.prog 25)[2]?).map (fun f => (f.type, f.offset)) = some (3, 2) := by kernel_rfl
theorem fs25_3 : ((fsOf Try.prog 25)[3]?).map (fun f => (f.type, f.offset)) = some (23, 3) := by kernel_rfl

set_option maxRecDepth 100000
theorem list5 {α : Type} {l : List α} (h : l.length = 5) : ∃ a b c d e, l = [a, b, c, d, e] := by
  match l, h with
  | [a, b, c, d, e], _ => exact ⟨a, b, c, d, e, rfl⟩
theorem list2 {α : Type} {l : List α} (h : l.length = 2) : ∃ a b, l = [a, b] := by
  match l, h with
  | [a, b], _ => exact ⟨a, b, rfl⟩
theorem list4 {α : Type} {l : List α} (h : l.length = 4) : ∃ a b c d, l = [a, b, c, d] := by
  match l, h with
  | [a, b, c, d], _ => exact ⟨a, b, c, d, rfl⟩

theorem u32_of {n : Int} (h : (Lit.int .u32 n).wf = true) : ∃ x : BitVec 32, n = x.toNat := by
  simp [Lit.wf, IntKind.min, IntKind.max, IntKind.signed, IntKind.bits] at h
  refine ⟨BitVec.ofNat 32 n.toNat, ?_⟩
  rw [BitVec.toNat_ofNat, Nat.mod_eq_of_lt (by omega)]
  omega

instance : Inhabited GateM := ⟨⟨0, 0, 0, 0, false⟩⟩
instance : Inhabited OutM := ⟨⟨.empty, 0⟩⟩

section
variable {H : Type} {enc : TypeId × Value → H} {W : World}

theorem gate_in (n : Nat) (cs : List Value) (y : DataW H × List MemPlace) (h : DataW.trod enc Try.prog W 0 (fun _ => true) true n 60 cs = some y) : ∃ x : GateM, cs = x.c := by
  obtain ⟨xs, m, -, -, hl, -, -⟩ := DataW.trod_struct und60 h
  obtain ⟨a, b, c, d, e, rfl⟩ := list5 (hl.trans co60)
  obtain ⟨_, _, h0⟩ := field_in und60 h fs60_0 co3 rfl
  obtain ⟨_, _, h1⟩ := field_in und60 h fs60_1 co3 rfl
  obtain ⟨_, _, h2⟩ := field_in und60 h fs60_2 co3 rfl
  obtain ⟨_, _, h3⟩ := field_in und60 h fs60_3 co54 rfl
  obtain ⟨_, _, h4⟩ := field_in und60 h fs60_4 co4 rfl
  obtain ⟨K, rfl, -⟩ := int_in und3 h0
  obtain ⟨A, rfl, -⟩ := int_in und3 h1
  obtain ⟨B, rfl, -⟩ := int_in und3 h2
  obtain ⟨N, rfl, hw⟩ := int_in und54 h3
  obtain ⟨x, rfl⟩ := u32_of hw
  obtain ⟨S, rfl⟩ := bool_in und4 h4
  exact ⟨⟨K, A, B, x, S⟩, rfl⟩
theorem out_in (n : Nat) (cs : List Value) (y : DataW H × List MemPlace) (h : DataW.trod enc Try.prog W 0 (fun _ => true) true n 56 cs = some y) : ∃ x : OutM, cs = x.c := by
  obtain ⟨xs, m, -, -, hl, -, -⟩ := DataW.trod_struct und56 h
  obtain ⟨a, b, rfl⟩ := list2 (hl.trans co56)
  obtain ⟨_, _, h0⟩ := field_in und56 h fs56_0 co9 rfl
  obtain ⟨_, _, h1⟩ := field_in und56 h fs56_1 co3 rfl
  obtain ⟨s, rfl⟩ := string_in und9 h0
  obtain ⟨A, rfl, -⟩ := int_in und3 h1
  exact ⟨⟨s, A⟩, rfl⟩
theorem word_in (n : Nat) (cs : List Value) (y : DataW H × List MemPlace) (h : DataW.trod enc Try.prog W 0 (fun _ => true) true n 54 cs = some y) : ∃ x : BitVec 32, cs = wordC x := by
  obtain ⟨v, hcs, hw⟩ := DataW.trod_int und54 h
  obtain ⟨x, rfl⟩ := u32_of hw.2
  exact ⟨x, by simpa [wordC] using hcs⟩

theorem circ_in {r : Reach} {base : Nat} {v' : Value} {d : DataW H} {p : List MemPlace} (hv : Value.okWide Try.prog W r base 25 v') (h : DataW.Trod enc Try.prog W 0 (fun _ => true) true 25 v' d p) :
    ∃ (g : CircM) (p1 p2 : AObj × Tgt), InOk W p1 ∧ InOk W p2 ∧ ∀ b1 b2, ∃ v, (∀ μ, μ b1 = some p1.2 → μ b2 = some p2.2 → VRel μ v v') ∧
      ∀ (F : Fr) (H : Heap), b1 < H.next → ¬ F b1 → H.get b1 = p1.1 → b2 < H.next → ¬ F b2 → H.get b2 = p2.1 → CircR F H v g := by
  obtain ⟨cs, rfl, hsz⟩ := okWide_struct und25 hv
  obtain ⟨fuel, hf⟩ := h
  obtain ⟨cs⟩ := cs
  obtain ⟨a, b, c, e, rfl⟩ := list4 (hsz.trans co25)
  have hf' : DataW.trod enc Try.prog W 0 (fun _ => true) true fuel 25 [a, b, c, e] = some (d, p) := hf
  obtain ⟨_, _, h0⟩ := field_in und25 hf' fs25_0 co22 rfl
  obtain ⟨_, _, h1⟩ := field_in und25 hf' fs25_1 co3 rfl
  obtain ⟨_, _, h2⟩ := field_in und25 hf' fs25_2 co3 rfl
  obtain ⟨_, _, h3⟩ := field_in und25 hf' fs25_3 co23 rfl
  obtain ⟨S, rfl, -⟩ := int_in und3 h1
  obtain ⟨U, rfl, -⟩ := int_in und3 h2
  obtain ⟨lg, p1, i1, k1⟩ := slice_in GateM.len (fun x => rfl) (by omega) und22 co60 gate_in h0
  obtain ⟨lo, p2, i2, k2⟩ := slice_in OutM.len (fun x => rfl) (by omega) und23 co56 out_in h3
  refine ⟨⟨lg, S, U, lo⟩, p1, p2, i1, i2, fun b1 b2 => ?_⟩
  obtain ⟨v1, r1, s1⟩ := k1 b1
  obtain ⟨v2, r2, s2⟩ := k2 b2
  exact ⟨.agg #[v1, .int .i64 S, .int .i64 U, v2], fun μ m1 m2 => .agg _ _ (.cons _ _ _ _ (r1 μ m1) (.cons _ _ _ _ (.int _ _) (.cons _ _ _ _ (.int _ _) (.cons _ _ _ _ (r2 μ m2) .nil)))),
    fun F H b1 f1 g1 b2 f2 g2 => ⟨v1, v2, rfl, s1 F H b1 f1 g1, s2 F H b2 f2 g2⟩⟩
end

theorem own_ : ownKnob Try.prog.godebug = none := by kernel_rfl
theorem laid_ : laidOutB Try.prog = true := by kernel_rfl

end Go.Ab.Gl
end
section
namespace Go.Ab.Gl
open Go.Ab Go.Ab.Ex
open Go.Proofs
open Go.ChangeShapes Go.WideShapes Go.RowKit
open Go.Proofs.Ytmodeilippcbnaa
set_option maxRecDepth 100000

theorem wrap_ (fn : Func) (h : Check.packageOf fn.name ≠ "main") : fn.isWrapper Try.prog false "" := by
  unfold Func.isWrapper
  rw [if_neg h]
  exact ⟨rfl, rfl⟩

end Go.Ab.Gl
end
section
namespace Go.Ab.Gl
open Go.Ab Go.Ab.Ex
open Go.Proofs
open Go.ChangeShapes Go.WideShapes Go.RowKit
open Go.Proofs.Ytmodeilippcbnaa
set_option maxRecDepth 100000

end Go.Ab.Gl
end
section
namespace Go.Ab.Ex
open Go.Proofs
set_option maxRecDepth 10000

def takesO (k : Int) : Int := if k = 1 ∨ k = 2 then 2 else if 3 ≤ k ∧ k ≤ 6 ∨ k = 8 then 1 else 0
theorem f32_c {H : Heap} {k : Int} {Q : Ret → Heap → Prop} (hQ : ∀ r, r = takesO k → Q (.ret (.int .i64 r)) H) : C 32 #[.int .i64 k] H Q := by
  refine SemC_fn TT.ok fn32 rfl rfl ?_
  simp only [Try.f32, start, KC_normal, go_sem, Nat.reduceEqDiff, Nat.reduceAdd, reduceIte, reduceCtorEq, Nat.reduceLeDiff, Nat.reduceShiftRight, Nat.reduceAnd, Nat.reduceOr, Nat.reducePow, Nat.reduceBNe, Nat.reduceBEq]
  repeat' (first | (refine CN_b (fun h => ?_) (fun h => ?_) <;> simp only [h, start, KC_normal, go_sem, Nat.reduceEqDiff, Nat.reduceAdd, reduceIte, reduceCtorEq, Nat.reduceLeDiff, Nat.reduceShiftRight, Nat.reduceAnd, Nat.reduceOr, Nat.reducePow, Nat.reduceBNe, Nat.reduceBEq]) | (refine RWn_b (fun h => ?_) (fun h => ?_) <;> simp only [h, start, KC_normal, go_sem, Nat.reduceEqDiff, Nat.reduceAdd, reduceIte, reduceCtorEq, Nat.reduceLeDiff, Nat.reduceShiftRight, Nat.reduceAnd, Nat.reduceOr, Nat.reducePow, Nat.reduceBNe, Nat.reduceBEq]) | (refine RW_b (fun h => ?_) (fun h => ?_) <;> simp only [h, start, KC_normal, go_sem, Nat.reduceEqDiff, Nat.reduceAdd, reduceIte, reduceCtorEq, Nat.reduceLeDiff, Nat.reduceShiftRight, Nat.reduceAnd, Nat.reduceOr, Nat.reducePow, Nat.reduceBNe, Nat.reduceBEq]))
  all_goals (refine hQ _ ?_; simp only [decide_eq_true_eq, decide_eq_false_iff_not] at *; unfold takesO; repeat' split)
  all_goals omega

def takesG (k : Int) : Int := if k = 3 ∨ k = 4 ∨ 9 ≤ k ∧ k ≤ 11 then 2 else if 5 ≤ k ∧ k ≤ 8 then 1 else 0
theorem f67_c {H : Heap} {k : Int} {Q : Ret → Heap → Prop} (hQ : ∀ r, r = takesG k → Q (.ret (.int .i64 r)) H) : C 67 #[.int .i64 k] H Q := by
  refine SemC_fn TT.ok fn67 rfl rfl ?_
  simp only [Try.f67, start, KC_normal, go_sem, Nat.reduceEqDiff, Nat.reduceAdd, reduceIte, reduceCtorEq, Nat.reduceLeDiff, Nat.reduceShiftRight, Nat.reduceAnd, Nat.reduceOr, Nat.reducePow, Nat.reduceBNe, Nat.reduceBEq]
  repeat' (first | (refine CN_b (fun h => ?_) (fun h => ?_) <;> simp only [h, start, KC_normal, go_sem, Nat.reduceEqDiff, Nat.reduceAdd, reduceIte, reduceCtorEq, Nat.reduceLeDiff, Nat.reduceShiftRight, Nat.reduceAnd, Nat.reduceOr, Nat.reducePow, Nat.reduceBNe, Nat.reduceBEq]) | (refine RWn_b (fun h => ?_) (fun h => ?_) <;> simp only [h, start, KC_normal, go_sem, Nat.reduceEqDiff, Nat.reduceAdd, reduceIte, reduceCtorEq, Nat.reduceLeDiff, Nat.reduceShiftRight, Nat.reduceAnd, Nat.reduceOr, Nat.reducePow, Nat.reduceBNe, Nat.reduceBEq]) | (refine RW_b (fun h => ?_) (fun h => ?_) <;> simp only [h, start, KC_normal, go_sem, Nat.reduceEqDiff, Nat.reduceAdd, reduceIte, reduceCtorEq, Nat.reduceLeDiff, Nat.reduceShiftRight, Nat.reduceAnd, Nat.reduceOr, Nat.reducePow, Nat.reduceBNe, Nat.reduceBEq]))
  all_goals (refine hQ _ ?_; simp only [decide_eq_true_eq, decide_eq_false_iff_not] at *; unfold takesG; repeat' split)
  all_goals omega
theorem f87_c {H : Heap} {k : Int} {Q : Ret → Heap → Prop} (hQ : ∀ r, r = takesG k → Q (.ret (.int .i64 r)) H) : C 87 #[.int .i64 k] H Q := by
  refine SemC_fn TT.ok fn87 rfl rfl ?_
  simp only [Try.f87, start, KC_normal, go_sem, Nat.reduceEqDiff, Nat.reduceAdd, reduceIte, reduceCtorEq, Nat.reduceLeDiff, Nat.reduceShiftRight, Nat.reduceAnd, Nat.reduceOr, Nat.reducePow, Nat.reduceBNe, Nat.reduceBEq]
  repeat' (first | (refine CN_b (fun h => ?_) (fun h => ?_) <;> simp only [h, start, KC_normal, go_sem, Nat.reduceEqDiff, Nat.reduceAdd, reduceIte, reduceCtorEq, Nat.reduceLeDiff, Nat.reduceShiftRight, Nat.reduceAnd, Nat.reduceOr, Nat.reducePow, Nat.reduceBNe, Nat.reduceBEq]) | (refine RWn_b (fun h => ?_) (fun h => ?_) <;> simp only [h, start, KC_normal, go_sem, Nat.reduceEqDiff, Nat.reduceAdd, reduceIte, reduceCtorEq, Nat.reduceLeDiff, Nat.reduceShiftRight, Nat.reduceAnd, Nat.reduceOr, Nat.reducePow, Nat.reduceBNe, Nat.reduceBEq]) | (refine RW_b (fun h => ?_) (fun h => ?_) <;> simp only [h, start, KC_normal, go_sem, Nat.reduceEqDiff, Nat.reduceAdd, reduceIte, reduceCtorEq, Nat.reduceLeDiff, Nat.reduceShiftRight, Nat.reduceAnd, Nat.reduceOr, Nat.reducePow, Nat.reduceBNe, Nat.reduceBEq]))
  all_goals (refine hQ _ ?_; simp only [decide_eq_true_eq, decide_eq_false_iff_not] at *; unfold takesG; repeat' split)
  all_goals omega


/-- a gate's kind of step -/
def stepOf (k : Int) : Int := if k = 3 then 1 else if k = 4 then 2 else if k = 5 then 3 else if k = 6 then 4 else if k = 7 then 5 else if k = 8 then 6 else 7
theorem f77_c {H : Heap} {k : Int} {Q : Ret → Heap → Prop} (hQ : ∀ r, r = stepOf k → Q (.ret (.int .i64 r)) H) : C 77 #[.int .i64 k] H Q := by
  refine SemC_fn TT.ok fn77 rfl rfl ?_
  simp only [Try.f77, start, KC_normal, go_sem, Nat.reduceEqDiff, Nat.reduceAdd, reduceIte, reduceCtorEq, Nat.reduceLeDiff, Nat.reduceShiftRight, Nat.reduceAnd, Nat.reduceOr, Nat.reducePow, Nat.reduceBNe, Nat.reduceBEq]
  repeat' (first | (refine CN_b (fun h => ?_) (fun h => ?_) <;> simp only [h, start, KC_normal, go_sem, Nat.reduceEqDiff, Nat.reduceAdd, reduceIte, reduceCtorEq, Nat.reduceLeDiff, Nat.reduceShiftRight, Nat.reduceAnd, Nat.reduceOr, Nat.reducePow, Nat.reduceBNe, Nat.reduceBEq]) | (refine RWn_b (fun h => ?_) (fun h => ?_) <;> simp only [h, start, KC_normal, go_sem, Nat.reduceEqDiff, Nat.reduceAdd, reduceIte, reduceCtorEq, Nat.reduceLeDiff, Nat.reduceShiftRight, Nat.reduceAnd, Nat.reduceOr, Nat.reducePow, Nat.reduceBNe, Nat.reduceBEq]) | (refine RW_b (fun h => ?_) (fun h => ?_) <;> simp only [h, start, KC_normal, go_sem, Nat.reduceEqDiff, Nat.reduceAdd, reduceIte, reduceCtorEq, Nat.reduceLeDiff, Nat.reduceShiftRight, Nat.reduceAnd, Nat.reduceOr, Nat.reducePow, Nat.reduceBNe, Nat.reduceBEq]))
  all_goals (refine hQ _ ?_; simp only [decide_eq_true_eq, decide_eq_false_iff_not] at *; unfold stepOf; repeat' split)
  all_goals first | rfl | contradiction

end Go.Ab.Ex
end
section
namespace Go.Ab.Ex
open Go.Proofs
set_option maxRecDepth 10000

theorem few_c {H : Heap} {v : Value} {g : CircM} {F : Fr} (hv : CircR F H v g) {Q : Ret → Heap → Prop} (hQ : ∀ b H', Ext H H' → (b = true ↔ g.gates.length ≤ 150 ∧ g.outs.length ≤ 50) → Q (.ret (.bool b)) H') : C 7 #[v] H Q := by
  obtain ⟨vg, vo, rfl, hg, ho⟩ := hv.ex
  obtain ⟨b, cap, rfl, -⟩ := hg.ex
  obtain ⟨b', cap', rfl, -⟩ := ho.ex
  refine SemC_fn TT.ok fn7 rfl rfl ?_
  simp only [Try.f7, start, KC_normal, go_sem, Nat.reduceEqDiff, Nat.reduceAdd, reduceIte, reduceCtorEq, Nat.reduceLeDiff, Nat.reduceShiftRight, Nat.reduceAnd, Nat.reduceOr, Nat.reducePow, Nat.reduceBNe, Nat.reduceBEq]
  repeat' (first | (refine CN_b (fun h => ?_) (fun h => ?_) <;> simp only [h, start, KC_normal, go_sem, Nat.reduceEqDiff, Nat.reduceAdd, reduceIte, reduceCtorEq, Nat.reduceLeDiff, Nat.reduceShiftRight, Nat.reduceAnd, Nat.reduceOr, Nat.reducePow, Nat.reduceBNe, Nat.reduceBEq]) | (refine RWn_b (fun h => ?_) (fun h => ?_) <;> simp only [h, start, KC_normal, go_sem, Nat.reduceEqDiff, Nat.reduceAdd, reduceIte, reduceCtorEq, Nat.reduceLeDiff, Nat.reduceShiftRight, Nat.reduceAnd, Nat.reduceOr, Nat.reducePow, Nat.reduceBNe, Nat.reduceBEq]) | (refine RW_b (fun h => ?_) (fun h => ?_) <;> simp only [h, start, KC_normal, go_sem, Nat.reduceEqDiff, Nat.reduceAdd, reduceIte, reduceCtorEq, Nat.reduceLeDiff, Nat.reduceShiftRight, Nat.reduceAnd, Nat.reduceOr, Nat.reducePow, Nat.reduceBNe, Nat.reduceBEq]))
  · refine hQ _ _ ((Ext.refl H).push _) ?_
    simp only [decide_eq_true_eq] at *; omega
  · refine hQ _ _ ((Ext.refl H).push _) ?_
    simp only [decide_eq_true_eq, decide_eq_false_iff_not, Bool.false_eq_true, false_iff] at *; omega

theorem take_next {α : Type} {l : List α} {i : Nat} {x : α} (h : l[i]? = some x) : l.take (i + 1) = l.take i ++ [x] := by
  rw [List.take_add_one, h]; rfl


end Go.Ab.Ex
end
section
namespace Go.Ab.Ex
open Go.Proofs
set_option maxRecDepth 10000
set_option maxHeartbeats 1000000

abbrev Wd := BitVec 32
theorem wrap_u32 (x : Wd) : IntKind.u32.wrap (x.toNat : Int) = x.toNat := by
  have := x.isLt
  simp only [IntKind.wrap, IntKind.bits, IntKind.signed]
  simp
  omega
theorem i_xorw (a b : Wd) : intOp .xor .u32 (a.toNat : Int) .u32 (b.toNat : Int) = some (.int .u32 ((a ^^^ b).toNat : Int)) := by
  rw [i_xor]
  have e : ∀ x : Wd, BitVec.ofInt 32 (x.toNat : Int) = x := fun x => by
    apply BitVec.eq_of_toNat_eq
    simp
  show some (Value.int .u32 (IntKind.u32.wrap (((BitVec.ofInt 32 (a.toNat : Int)) ^^^ (BitVec.ofInt 32 (b.toNat : Int))).toNat : Nat))) = _
  rw [e, e, wrap_u32]
def joinW (l : List Wd) : Wd := l.foldl (fun a b => a ^^^ b) 0
theorem joinW_next {l : List Wd} {i : Nat} {x : Wd} (h : l[i]? = some x) : joinW (l.take (i + 1)) = joinW (l.take i) ^^^ x := by
  unfold joinW
  rw [take_next h, List.foldl_append]; rfl
def atW (l : List Wd) (i : Nat) : Wd := l.getD i 0



theorem f54_c {H : Heap} {v : Value} {l : List Wd} {F : Fr} (hv : Sl F H 1 v l.length (l.flatMap wordC)) (hlen : l.length < 1000000) {Q : Ret → Heap → Prop} (hQ : Q (.ret (.int .u32 ((joinW l).toNat : Int))) H) : C 54 #[v] H Q := by
  obtain ⟨a, cap, rfl, -, -, ha⟩ := hv.noF.ex
  refine SemC_fn TT.ok fn54 rfl rfl ?_
  simp only [Try.f54, start, KC_normal, go_sem, Nat.reduceEqDiff, Nat.reduceAdd, reduceIte, reduceCtorEq, Nat.reduceLeDiff, Nat.reduceShiftRight, Nat.reduceAnd, Nat.reduceOr, Nat.reducePow, Nat.reduceBNe, Nat.reduceBEq]
  refine wp_loop TT.ok rfl rfl (fun j s => ∃ tm i, s = ⟨tm, 17, [], false, H⟩ ∧ j = l.length - i ∧ i ≤ l.length ∧
    tm.get 6 = some (.slice a l.length cap) ∧ tm.get 7 = some (.int .i64 (l.length : Nat)) ∧ tm.get 3 = some (.int .u32 ((joinW (l.take i)).toNat : Int)) ∧ tm.get 8 = some (.int .i64 (i : Nat))) l.length ?_ ?_
  · refine ⟨_, 0, rfl, rfl, Nat.zero_le _, ?_, ?_, ?_, ?_⟩ <;> simp only [start, KC_normal, go_sem, Nat.reduceEqDiff, Nat.reduceAdd, reduceIte, reduceCtorEq, Nat.reduceLeDiff, Nat.reduceShiftRight, Nat.reduceAnd, Nat.reduceOr, Nat.reducePow, Nat.reduceBNe, Nat.reduceBEq] <;> rfl
  · rintro j s - ⟨tm, i, rfl, hj, hi, h6, h7, h3, h8⟩
    simp only [start, KC_normal, go_sem, Nat.reduceEqDiff, Nat.reduceAdd, reduceIte, reduceCtorEq, Nat.reduceLeDiff, Nat.reduceShiftRight, Nat.reduceAnd, Nat.reduceOr, Nat.reducePow, Nat.reduceBNe, Nat.reduceBEq, h7, h8]
    refine CN_split (fun hlt => ?_) (fun hge => ?_)
    · have hlt' : i < l.length := by omega
      have ea : l[i]? = some l[i] := by simp [hlt']
      obtain ⟨k, o, own, Ca, rfl, hk, hc, -⟩ := ha.at wordC_len ea
      have hc := hc 0 (by omega)
      simp only [wordC, Nat.add_zero, List.getElem?_cons_zero] at hc
      simp only [start, KC_normal, go_sem, Nat.reduceEqDiff, Nat.reduceAdd, reduceIte, reduceCtorEq, Nat.reduceLeDiff, Nat.reduceShiftRight, Nat.reduceAnd, Nat.reduceOr, Nat.reducePow, Nat.reduceBNe, Nat.reduceBEq, h6, h3, h8, ia_in _ _ _ _ _ hlt', hk.get, hc, i_xorw]
      refine ⟨l.length - (i + 1), by omega, _, i + 1, rfl, rfl, by omega, ?_, ?_, ?_, ?_⟩
      all_goals simp only [start, KC_normal, go_sem, Nat.reduceEqDiff, Nat.reduceAdd, reduceIte, reduceCtorEq, Nat.reduceLeDiff, Nat.reduceShiftRight, Nat.reduceAnd, Nat.reduceOr, Nat.reducePow, Nat.reduceBNe, Nat.reduceBEq, h6, h7, h3, h8]
      · rw [joinW_next ea]
      · rw [wrap_i64 _ (by omega) (by omega)]; simp
    · have hi' : i = l.length := by omega
      subst hi'
      simp only [start, KC_normal, go_sem, Nat.reduceEqDiff, Nat.reduceAdd, reduceIte, reduceCtorEq, Nat.reduceLeDiff, Nat.reduceShiftRight, Nat.reduceAnd, Nat.reduceOr, Nat.reducePow, Nat.reduceBNe, Nat.reduceBEq, h3]
      rw [List.take_length]
      exact hQ

theorem f38_c {H : Heap} {v : Value} {l : List Wd} {F : Fr} (hv : Sl F H 1 v l.length (l.flatMap wordC)) (hlen : l.length < 1000000) {Q : Ret → Heap → Prop} (hQ : Q (.ret (.int .u32 ((joinW l).toNat : Int))) H) : C 38 #[v] H Q := by
  refine SemC_fn TT.ok fn38 rfl rfl ?_
  simp only [Try.f38, start, KC_normal, go_sem, Nat.reduceEqDiff, Nat.reduceAdd, reduceIte, reduceCtorEq, Nat.reduceLeDiff, Nat.reduceShiftRight, Nat.reduceAnd, Nat.reduceOr, Nat.reducePow, Nat.reduceBNe, Nat.reduceBEq]
  refine f54_c hv hlen ?_
  simp only [start, KC_normal, go_sem, Nat.reduceEqDiff, Nat.reduceAdd, reduceIte, reduceCtorEq, Nat.reduceLeDiff, Nat.reduceShiftRight, Nat.reduceAnd, Nat.reduceOr, Nat.reducePow, Nat.reduceBNe, Nat.reduceBEq]
  exact hQ

/-- lists of words that are the same -/
theorem f18_c {H : Heap} {va vb : Value} {la lb : List Wd} {F : Fr} (ha : Sl F H 1 va la.length (la.flatMap wordC)) (hb : Sl F H 1 vb lb.length (lb.flatMap wordC)) (hlen : la.length < 1000000) {Q : Ret → Heap → Prop} (hQ : ∀ r H', Ext H H' → (r = true ↔ la = lb) → Q (.ret (.bool r)) H') : C 18 #[va, vb] H Q := by
  obtain ⟨a, cap, rfl, -, -, ha⟩ := ha.noF.ex
  obtain ⟨b, cap', rfl, -, -, hb⟩ := hb.noF.ex
  refine SemC_fn TT.ok fn18 rfl rfl ?_
  simp only [Try.f18, start, KC_normal, go_sem, Nat.reduceEqDiff, Nat.reduceAdd, reduceIte, reduceCtorEq, Nat.reduceLeDiff, Nat.reduceShiftRight, Nat.reduceAnd, Nat.reduceOr, Nat.reducePow, Nat.reduceBNe, Nat.reduceBEq]
  repeat' (first | (refine CN_b (fun h => ?_) (fun h => ?_) <;> simp only [h, start, KC_normal, go_sem, Nat.reduceEqDiff, Nat.reduceAdd, reduceIte, reduceCtorEq, Nat.reduceLeDiff, Nat.reduceShiftRight, Nat.reduceAnd, Nat.reduceOr, Nat.reducePow, Nat.reduceBNe, Nat.reduceBEq]) | (refine RWn_b (fun h => ?_) (fun h => ?_) <;> simp only [h, start, KC_normal, go_sem, Nat.reduceEqDiff, Nat.reduceAdd, reduceIte, reduceCtorEq, Nat.reduceLeDiff, Nat.reduceShiftRight, Nat.reduceAnd, Nat.reduceOr, Nat.reducePow, Nat.reduceBNe, Nat.reduceBEq]) | (refine RW_b (fun h => ?_) (fun h => ?_) <;> simp only [h, start, KC_normal, go_sem, Nat.reduceEqDiff, Nat.reduceAdd, reduceIte, reduceCtorEq, Nat.reduceLeDiff, Nat.reduceShiftRight, Nat.reduceAnd, Nat.reduceOr, Nat.reducePow, Nat.reduceBNe, Nat.reduceBEq]))
  · refine hQ _ _ (Ext.refl H) ?_
    simp only [decide_eq_true_eq, Bool.false_eq_true, false_iff] at *
    intro e; rw [e] at h; exact h rfl
  · have hll : la.length = lb.length := by simp only [decide_eq_false_iff_not, Classical.not_not] at h; omega
    refine wp_loop TT.ok rfl rfl (fun j s => ∃ tm H' i, s = ⟨tm, 26, [], false, H'⟩ ∧ j = la.length - i ∧ i ≤ la.length ∧ Ext H H' ∧ la.take i = lb.take i ∧
      tm.get 0 = some (.slice a la.length cap) ∧ tm.get 1 = some (.slice b lb.length cap') ∧ tm.get 5 = some (.int .i64 (i : Nat))) la.length ?_ ?_
    · refine ⟨_, _, 0, rfl, rfl, Nat.zero_le _, Ext.refl H, rfl, ?_, ?_, ?_⟩ <;> simp only [start, KC_normal, go_sem, Nat.reduceEqDiff, Nat.reduceAdd, reduceIte, reduceCtorEq, Nat.reduceLeDiff, Nat.reduceShiftRight, Nat.reduceAnd, Nat.reduceOr, Nat.reducePow, Nat.reduceBNe, Nat.reduceBEq] <;> rfl
    · rintro j s - ⟨tm, H', i, rfl, hj, hi, hE, hsame, h0, h1, h5⟩
      simp only [start, KC_normal, go_sem, Nat.reduceEqDiff, Nat.reduceAdd, reduceIte, reduceCtorEq, Nat.reduceLeDiff, Nat.reduceShiftRight, Nat.reduceAnd, Nat.reduceOr, Nat.reducePow, Nat.reduceBNe, Nat.reduceBEq, h0, h1, h5]
      refine CN_split (fun hlt => ?_) (fun hge => ?_)
      · have hlt' : i < la.length := by omega
        have hlt2 : i < lb.length := by omega
        have ea : la[i]? = some la[i] := by simp [hlt']
        have eb : lb[i]? = some lb[i] := by simp [hlt2]
        obtain ⟨ka, ofa, oa, Ca, rfl, hka, hca, -⟩ := ha.at wordC_len ea
        obtain ⟨kb, ofb, ob, Cb, rfl, hkb, hcb, -⟩ := hb.at wordC_len eb
        have hca := hca 0 (by omega)
        have hcb := hcb 0 (by omega)
        simp only [wordC, Nat.add_zero, List.getElem?_cons_zero] at hca hcb
        simp only [start, KC_normal, go_sem, Nat.reduceEqDiff, Nat.reduceAdd, reduceIte, reduceCtorEq, Nat.reduceLeDiff, Nat.reduceShiftRight, Nat.reduceAnd, Nat.reduceOr, Nat.reducePow, Nat.reduceBNe, Nat.reduceBEq, h0, h1, h5]
        refine DRg_x TT.ok [0, 0, 3, 7, 0, 0, 48, 112, 255] 9 511 26 rfl (by decide +kernel) ?_
        simp only [start, KC_normal, go_sem, Nat.reduceEqDiff, Nat.reduceAdd, reduceIte, reduceCtorEq, Nat.reduceLeDiff, Nat.reduceShiftRight, Nat.reduceAnd, Nat.reduceOr, Nat.reducePow, Nat.reduceBNe, Nat.reduceBEq, h0, h1, h5, ia_in _ _ _ _ _ hlt', ia_in _ _ _ _ _ hlt2, (hka.step hE.step).get, (hkb.step hE.step).get, hca, hcb]
        refine CN_split (fun hne => ?_) (fun heq => ?_)
        · simp only [start, KC_normal, go_sem, Nat.reduceEqDiff, Nat.reduceAdd, reduceIte, reduceCtorEq, Nat.reduceLeDiff, Nat.reduceShiftRight, Nat.reduceAnd, Nat.reduceOr, Nat.reducePow, Nat.reduceBNe, Nat.reduceBEq]
          refine hQ _ _ (hE.skip _) ?_
          simp only [Bool.false_eq_true, false_iff]
          rintro rfl
          exact hne rfl
        · simp only [start, KC_normal, go_sem, Nat.reduceEqDiff, Nat.reduceAdd, reduceIte, reduceCtorEq, Nat.reduceLeDiff, Nat.reduceShiftRight, Nat.reduceAnd, Nat.reduceOr, Nat.reducePow, Nat.reduceBNe, Nat.reduceBEq, h0, h1, h5]
          refine ⟨la.length - (i + 1), by omega, _, _, i + 1, rfl, rfl, by omega, hE.skip _, ?_, ?_, ?_, ?_⟩
          · have e : la[i] = lb[i] := BitVec.eq_of_toNat_eq (by have := Classical.not_not.1 heq; omega)
            rw [take_next ea, take_next eb, hsame, e]
          all_goals simp only [start, KC_normal, go_sem, Nat.reduceEqDiff, Nat.reduceAdd, reduceIte, reduceCtorEq, Nat.reduceLeDiff, Nat.reduceShiftRight, Nat.reduceAnd, Nat.reduceOr, Nat.reducePow, Nat.reduceBNe, Nat.reduceBEq, h0, h1, h5]
          rw [wrap_i64 _ (by omega) (by omega)]; simp
      · have hi' : i = la.length := by omega
        simp only [start, KC_normal, go_sem, Nat.reduceEqDiff, Nat.reduceAdd, reduceIte, reduceCtorEq, Nat.reduceLeDiff, Nat.reduceShiftRight, Nat.reduceAnd, Nat.reduceOr, Nat.reducePow, Nat.reduceBNe, Nat.reduceBEq]
        refine hQ _ _ hE ?_
        rw [hi', List.take_length, hll, List.take_length] at hsame
        simp only [true_iff]; exact hsame
end Go.Ab.Ex
end
section
namespace Go.Ab.Gl
open Go.Ab Go.Ab.Ex
open Go.Proofs
open Go.ChangeShapes Go.WideShapes Go.RowKit
open Go.Proofs.Ytmodeilippcbnaa
set_option maxRecDepth 100000

section
variable {H : Type} {enc : TypeId × Value → H} {W : World}

theorem okWide_array {n : Nat} {t e : TypeId} {r : Reach} {base : Nat} {v : Value} (ht : Try.prog.underlying t = some (.array n e)) (h : Value.okWide Try.prog W r base t v) : ∃ cs, v = .agg cs ∧ cs.size = Try.prog.cellsOf t := by
  simp only [Value.okWide, ht] at h
  obtain ⟨cs, h1, h2, _⟩ := h
  exact ⟨cs, h1, h2⟩

theorem elem_in {n : Nat} {t e : TypeId} (ht : Try.prog.underlying t = some (.array n e)) (he : Try.prog.cellsOf e = 1) {fuel : Nat} {cs : List Value} {x : DataW H × List MemPlace} (h : DataW.trod enc Try.prog W 0 (fun _ => true) true fuel t cs = some x) {i : Nat} (hi : i < n) {c : Value} (hc : cs[i]? = some c) :
    ∃ m y, DataW.trod enc Try.prog W 0 (fun _ => true) true m e [c] = some y := by
  obtain ⟨xs, m, -, -, -, hlen, hf⟩ := DataW.trod_array ht h
  have e1 := hf i hi
  rw [he, Nat.mul_one, List.getElem?_eq_getElem (by omega)] at e1
  have e2 : (cs.drop i).take 1 = [c] := by
    obtain ⟨h1, h2⟩ := List.getElem?_eq_some_iff.1 hc
    rw [List.drop_eq_getElem_cons h1, h2]; simp
  rw [e2] at e1
  exact ⟨m, _, e1⟩

theorem words_in {r : Reach} {base : Nat} {v' : Value} {d : DataW H} {p : List MemPlace} (hv : Value.okWide Try.prog W r base 44 v') (h : DataW.Trod enc Try.prog W 0 (fun _ => true) true 44 v' d p) :
    ∃ (l0 l1 l2 l3 : List Wd) (p0 p1 p2 p3 : AObj × Tgt), InOk W p0 ∧ InOk W p1 ∧ InOk W p2 ∧ InOk W p3 ∧ ∀ b0 b1 b2 b3, ∃ v0 v1 v2 v3, (∀ μ, μ b0 = some p0.2 → μ b1 = some p1.2 → μ b2 = some p2.2 → μ b3 = some p3.2 → VRel μ (.agg #[v0, v1, v2, v3]) v') ∧
      (∀ (F : Fr) (H : Heap), b0 < H.next → ¬ F b0 → H.get b0 = p0.1 → Sl F H 1 v0 l0.length (l0.flatMap wordC)) ∧ (∀ (F : Fr) (H : Heap), b1 < H.next → ¬ F b1 → H.get b1 = p1.1 → Sl F H 1 v1 l1.length (l1.flatMap wordC)) ∧
      (∀ (F : Fr) (H : Heap), b2 < H.next → ¬ F b2 → H.get b2 = p2.1 → Sl F H 1 v2 l2.length (l2.flatMap wordC)) ∧ (∀ (F : Fr) (H : Heap), b3 < H.next → ¬ F b3 → H.get b3 = p3.1 → Sl F H 1 v3 l3.length (l3.flatMap wordC)) := by
  obtain ⟨cs, rfl, hsz⟩ := okWide_array und44 hv
  obtain ⟨fuel, hf⟩ := h
  obtain ⟨cs⟩ := cs
  obtain ⟨a, b, c, e, rfl⟩ := list4 (hsz.trans co44)
  have hf' : DataW.trod enc Try.prog W 0 (fun _ => true) true fuel 44 [a, b, c, e] = some (d, p) := hf
  obtain ⟨_, _, h0⟩ := elem_in und44 co43 hf' (i := 0) (by omega) rfl
  obtain ⟨_, _, h1⟩ := elem_in und44 co43 hf' (i := 1) (by omega) rfl
  obtain ⟨_, _, h2⟩ := elem_in und44 co43 hf' (i := 2) (by omega) rfl
  obtain ⟨_, _, h3⟩ := elem_in und44 co43 hf' (i := 3) (by omega) rfl
  obtain ⟨l0, p0, i0, k0⟩ := slice_in (α := Wd) wordC_len (fun x => rfl) (by omega) und43 co54 word_in h0
  obtain ⟨l1, p1, i1, k1⟩ := slice_in (α := Wd) wordC_len (fun x => rfl) (by omega) und43 co54 word_in h1
  obtain ⟨l2, p2, i2, k2⟩ := slice_in (α := Wd) wordC_len (fun x => rfl) (by omega) und43 co54 word_in h2
  obtain ⟨l3, p3, i3, k3⟩ := slice_in (α := Wd) wordC_len (fun x => rfl) (by omega) und43 co54 word_in h3
  refine ⟨l0, l1, l2, l3, p0, p1, p2, p3, i0, i1, i2, i3, fun b0 b1 b2 b3 => ?_⟩
  obtain ⟨v0, r0, s0⟩ := k0 b0
  obtain ⟨v1, r1, s1⟩ := k1 b1
  obtain ⟨v2, r2, s2⟩ := k2 b2
  obtain ⟨v3, r3, s3⟩ := k3 b3
  exact ⟨v0, v1, v2, v3, fun μ m0 m1 m2 m3 => .agg _ _ (.cons _ _ _ _ (r0 μ m0) (.cons _ _ _ _ (r1 μ m1) (.cons _ _ _ _ (r2 μ m2) (.cons _ _ _ _ (r3 μ m3) .nil)))), s0, s1, s2, s3⟩

/-- A law of a circuit, a number and four lists of words. -/
theorem circ_law3 {f : FuncId} {fn : Func} {s : ChangeSpec} {fresh handsOn again : Bool} {base : Nat} {args : Array Value} {ds gs : List (DataW H)} {before : List MemPlace} {k : IntKind} {t : TypeId}
    (law : ∀ {F : Fr} {H : Heap} {v a0 a1 a2 a3 : Value} {g : CircM} {d : Int} {l0 l1 l2 l3 : List Wd}, CircR F H v g → (Lit.int k d).wf = true → Sl noF H 1 a0 l0.length (l0.flatMap wordC) → Sl noF H 1 a1 l1.length (l1.flatMap wordC) → Sl noF H 1 a2 l2.length (l2.flatMap wordC) → Sl noF H 1 a3 l3.length (l3.flatMap wordC) →
      ∀ {Q : Ret → Heap → Prop}, (∀ H', Ext H H' → Q (.ret (.bool true)) H') → C f #[v, .int k d, .agg #[a0, a1, a2, a3]] H Q)
    (ht : Try.prog.underlying t = some (.int k)) (hpar : fn.params = #[25, t, 44]) (hres : fn.resultTypes = #[4]) (hv : s.vars = []) (hs : ∀ x y z : DataW H, s.fn H [x, y, z] = { results := [.lit (.bool true)], args := [x, y, z] })
    (hpp : ∀ u ∈ fn.params.toList, Try.prog.readableRec u = true ∧ u < Try.prog.types.size)
    (hval : ∀ (j : Nat) t v, fn.params[j]? = some t → args[j]? = some v → Value.okWide Try.prog W .any base t v) (hW : DataW.Whole enc Try.prog fn.params.toList s.vars false W args.toList ds gs before) :
    Calls Try.prog f args W fun e W' => ∃ v, e = .returned v ∧ s.post enc Try.prog fn false fresh handsOn again W args v W' := by
  have hW0 := hW
  obtain ⟨p, q, hA, hV, rfl, -, -⟩ := hW
  rw [hv] at hV
  obtain ⟨rfl, rfl⟩ := trodVars_none hV
  rw [hpar] at hA hval
  obtain ⟨v0, v1, v2, d0, d1, d2, q0, q1, q2, rfl, rfl, rfl, h0, h1, h2⟩ := trodAll_three hA
  obtain ⟨g, p1, p2, i1, i2, k1⟩ := circ_in (hval 0 25 v0 rfl rfl) h0
  obtain ⟨n, rfl, -, -, hwf⟩ := open_int ht (hval 1 t v1 rfl rfl) h1
  obtain ⟨l0, l1, l2, l3, p3, p4, p5, p6, i3, i4, i5, i6, k2⟩ := words_in (hval 2 44 v2 rfl rfl) h2
  obtain ⟨v, hr, hc⟩ := k1 0 1
  obtain ⟨a0, a1, a2, a3, hr2, c0, c1, c2, c3⟩ := k2 2 3 4 5
  have hin : ∀ x ∈ [p1, p2, p3, p4, p5, p6], InOk W x := fun x hx => by
    simp only [List.mem_cons, List.not_mem_nil, or_false] at hx
    rcases hx with rfl | rfl | rfl | rfl | rfl | rfl <;> assumption
  have hn : (hp [p1, p2, p3, p4, p5, p6]).next = 6 := hp_next _
  have hcr : CircR noF (hp [p1, p2, p3, p4, p5, p6]) v g := hc _ _ (by rw [hn]; omega) (noF_not _) (hp_some rfl) (by rw [hn]; omega) (noF_not _) (hp_some rfl)
  have z0 := c0 noF (hp [p1, p2, p3, p4, p5, p6]) (by rw [hn]; omega) (noF_not _) (hp_some rfl)
  have z1 := c1 noF (hp [p1, p2, p3, p4, p5, p6]) (by rw [hn]; omega) (noF_not _) (hp_some rfl)
  have z2 := c2 noF (hp [p1, p2, p3, p4, p5, p6]) (by rw [hn]; omega) (noF_not _) (hp_some rfl)
  have z3 := c3 noF (hp [p1, p2, p3, p4, p5, p6]) (by rw [hn]; omega) (noF_not _) (hp_some rfl)
  refine (calls_law (args := #[v, .int k n, .agg #[a0, a1, a2, a3]]) (law hcr hwf z0 z1 z2 z3 fun _ _ => rfl) hin (.cons _ _ _ _ (hr _ rfl rfl) (.cons _ _ _ _ (.int _ _) (.cons _ _ _ _ (hr2 _ rfl rfl rfl rfl) .nil)))).mono fun e W' ⟨he, hB⟩ => ⟨_, he, ?_⟩
  exact post_law hv hres und4 laid_ hpp hW0 (by rw [List.append_nil, hs]) (by rw [List.append_nil, hs]) (by rw [List.append_nil, hs]) hB

end
end Go.Ab.Gl
end
section
namespace Go.Ab.Gl
open Go.Ab Go.Ab.Ex
open Go.Proofs
open Go.ChangeShapes Go.WideShapes Go.RowKit
open Go.Proofs.Ytmodeilippcbnaa
set_option maxRecDepth 100000

theorem und5 : Try.prog.underlying 5 = some (.int .u8) := by kernel_rfl
theorem u8_of {n : Int} (h : (Lit.int .u8 n).wf = true) : ∃ x : Nat, x < 256 ∧ n = x := by
  simp [Lit.wf, IntKind.min, IntKind.max, IntKind.signed, IntKind.bits] at h
  exact ⟨n.toNat, by omega, by omega⟩

theorem right_of (law : ∀ {F : Fr} {H : Heap} {v a0 a1 a2 a3 : Value} {g : CircM} {dn : Nat} {l0 l1 l2 l3 : List Wd}, dn < 256 → CircR F H v g → Sl noF H 1 a0 l0.length (l0.flatMap wordC) → Sl noF H 1 a1 l1.length (l1.flatMap wordC) → Sl noF H 1 a2 l2.length (l2.flatMap wordC) → Sl noF H 1 a3 l3.length (l3.flatMap wordC) →
      ∀ {Q : Ret → Heap → Prop}, (∀ H', Ext H H' → Q (.ret (.bool true)) H') → C 6 #[v, .int .u8 (dn : Nat), .agg #[a0, a1, a2, a3]] H Q) : Rows.WireRightSaid :=
  OpenClaim.holds_of_wide 6 Try.f6 rfl rfl rfl rfl rfl rfl rfl ⟨rfl, rfl, rfl, rfl, rfl⟩ rfl rfl rfl rfl rfl (by kernel_rfl) fn6 (by kernel_rfl)
    (of_decide_eq_true (by kernel_rfl)) (wrap_ Try.f6 (by decide +kernel))
    (fun os started H enc _ => returnsInHanded_of_change (C := Try.checked) (s := Rows.wireRightSpec) (conds := []) (apart := false) own_ started (by kernel_rfl) fn6
      (ChangeSpec.witness6 (enc := enc) (C := Try.checked) false ⟨#[], #[.agg #[.slice none 0 0, .int .i64 0, .int .i64 0, .slice none 0 0], .int .u8 0, .agg #[.slice none 0 0, .slice none 0 0, .slice none 0 0, .slice none 0 0]], []⟩ 8 (by kernel_rfl) (by kernel_rfl) (by kernel_rfl) (by kernel_rfl))
      (fun _ _ _ _ _ _ hval hW _ _ => circ_law3 (fun {F H v a0 a1 a2 a3 g d l0 l1 l2 l3} hv hwf h0 h1 h2 h3 {Q} hQ => by
        obtain ⟨x, hx, rfl⟩ := u8_of hwf
        exact law hx hv h0 h1 h2 h3 hQ) und5 rfl rfl rfl (fun _ _ _ => rfl) (by decide +kernel) hval hW))
end Go.Ab.Gl
end
section
namespace Go.Ab

section
variable {T : Tab} {t e : TypeId} {de : TypeDesc} {sz by_ : Nat} {z : Value} {ag : Bool} {fl : List (Nat × Nat)} {a1 a2 : Nat} {a3 : Option Value} {a4 : Bool} {a5 : List (Nat × Nat)}

/-- one element more -/
theorem app1 (h0 : T.ty t = some ⟨.slice e, a1, a2, a3, a4, a5⟩) (he : T.ty e = some ⟨de, sz, by_, some z, ag, fl⟩) (hz : z.cells.toList.length = sz) (hby : by_ ≤ 1000)
    {α : Type} {f : α → List Value} (hf : ∀ x, (f x).length = sz) (h1 : ∀ x, (f x).all oneCell = true) {H : Heap} {v : Value} {l : List α} {b : Option Nat} (ho : Own1 H sz (l.flatMap f) v l.length b) (hl : l.length < 1000000) (x : α) :
    ∃ v' H' b', appendC T (H.push (.cells true sz (f x))) #[t, t] v (.slice (some ⟨H.next, 0, none⟩) 1 1) = some (.val v' H') ∧ Own1 H' sz ((l ++ [x]).flatMap f) v' (l ++ [x]).length b' ∧ (∀ F : Fr, Step (F.un b) H (F.un b') H') ∧ (∀ j, b' = some j → H.next ≤ j) := by
  have hE : Ext H (H.push (.cells true sz (f x))) := (Ext.refl H).push _
  have hnew := Own1.fresh H sz (f x) 1 (by rw [hf, Nat.one_mul])
  have hb : (l.length + 1) * by_ ≤ 140737488355328 := Nat.le_trans (Nat.mul_le_mul (show l.length + 1 ≤ 1000001 by omega) hby) (by omega)
  obtain ⟨v', H', b', k1, k2, k3, k4, k5, k6⟩ := append_s h0 h0 he hz (ho.ext hE) (hnew.sl (F := noF) fun _ _ h => h) (h1 x) hb (by omega)
  refine ⟨v', H', b', k1, by simpa using k2, fun F => (hE.step (F := F.un b)).trans (k3 F), fun j hj => ?_⟩
  have := k5 (by omega)
  rw [this] at hj
  cases hj
  exact hE.le

/-- so many elements more -/
theorem appN (h0 : T.ty t = some ⟨.slice e, a1, a2, a3, a4, a5⟩) (he : T.ty e = some ⟨de, sz, by_, some z, ag, fl⟩) (hz : z.cells.toList.length = sz) (hby : by_ ≤ 1000)
    {α : Type} {f : α → List Value} (h1 : ∀ x, (f x).all oneCell = true) {F0 : Fr} {H : Heap} {v x : Value} {l m : List α} {b : Option Nat} (ho : Own1 H sz (l.flatMap f) v l.length b) (hx : Sl F0 H sz x m.length (m.flatMap f)) (hl : l.length + m.length < 1000000) :
    ∃ v' H' b', appendC T H #[t, t] v x = some (.val v' H') ∧ Own1 H' sz ((l ++ m).flatMap f) v' (l ++ m).length b' ∧ (∀ F : Fr, Step (F.un b) H (F.un b') H') ∧ (∀ j, b' = some j → b = some j ∨ H.next ≤ j) := by
  have hb : (l.length + m.length) * by_ ≤ 140737488355328 := Nat.le_trans (Nat.mul_le_mul (show l.length + m.length ≤ 1000001 by omega) hby) (by omega)
  obtain ⟨v', H', b', k1, k2, k3, k4, k5, k6⟩ := append_s h0 h0 he hz ho hx (one_all h1 m) hb (by omega)
  refine ⟨v', H', b', k1, by simpa using k2, k3, fun j hj => ?_⟩
  rcases k4 j hj with h | h
  · exact .inl h
  · exact .inr (by omega)
end

end Go.Ab
end
section
namespace Go.Ab

section
variable {F F' G : Fr} {H H' H'' : Heap} {b b' : Option Nat} {a c : AObj} {sz n : Nat} {v : Value} {l : List Value}

/-- a new block -/
theorem new_push (hX : H.push c = H') : Ext H H' ∧ H'.get H.next = c ∧ H'.next = H.next + 1 := by
  subst hX; exact ⟨(Ext.refl H).push c, H_get_new H c, rfl⟩
/-- a new block, and what is put there -/
theorem new_put (hX : (H.push a).put H.next c = H') : Ext H H' ∧ H'.get H.next = c ∧ H'.next = H.next + 1 := by
  subst hX; exact ⟨((Ext.refl H).push a).put (Nat.le_refl _) c, H_put_same _ _ _, rfl⟩
theorem Kp.mk' (hB : Bd F H) (hE : Ext H H') {j : Nat} (hj : H.next ≤ j) (hlt : j < H'.next) (hg : H'.get j = c) : Kp F H' j c := ⟨hlt, fun hf => by have := hB.lt j hf; omega, hg⟩
theorem Own1.new (hX : H.push (.cells true sz l) = H') (h : l.length = n * sz) : Own1 H' sz l (.slice (some ⟨H.next, 0, none⟩) n n) n (some H.next) := by
  subst hX; exact Own1.fresh H sz l n h

theorem Ext.app {Hs : Heap} (hE : Ext Hs H) (hS : ∀ F : Fr, Step (F.un b) H (F.un b') H') (hb : ∀ j, b = some j → Hs.next ≤ j) : Ext Hs H' :=
  ((hE.step (F := noF.un b)).trans (hS Go.Ab.noF)).toExt fun j hf => by rcases hf with h | h; exact h.elim; exact hb j h
theorem Step.app (h : Step F H F' H') (hS : ∀ G : Fr, Step (G.un b) H' (G.un b') H'') (hb : ∀ j, b = some j → H.next ≤ j) : Step F H F' H'' :=
  ⟨Nat.le_trans h.le (hS Go.Ab.noF).le, fun j hj hn => by
    rw [(hS Go.Ab.noF).get j (Nat.lt_of_lt_of_le hj h.le) (fun hf => by rcases hf with h1 | h1; exact h1; have := hb j h1; omega)]; exact h.get j hj hn, h.new⟩
theorem Own1.out (h : Own1 H sz l v n b) (s : Step F H F' H') (hn : ∀ j, b = some j → ¬ F j) : ∀ j, b = some j → ¬ F' j := fun j hj hf => by
  rcases s.new j hf with h1 | h1
  · exact hn j hj h1
  · have := h.lt hj; omega
/-- what is new is outside -/
theorem out_new (hB : Bd F H) (hb : ∀ j, b = some j → H.next ≤ j) : ∀ j, b = some j → ¬ F j := fun j hj hf => by
  have := hB.lt j hf; have := hb j hj; omega
theorem Sl.un (h : Sl F H sz v n l) (hb : ∀ j, b = some j → H.next ≤ j) : Sl (F.un b) H sz v n l := h.more fun j hf => by
  rcases hf with h1 | h1
  · exact .inl h1
  · exact .inr (hb j h1)
theorem Sl.left (h : Sl (F.un b) H sz v n l) : Sl F H sz v n l := h.sub fun _ h => .inl h
theorem Sl.mkA {cap : Nat} {x : Option Addr} (h : SlA F H sz n cap l x) (h1 : n ≤ cap) (h2 : l.length = n * sz) : Sl F H sz (.slice x n cap) n l := ⟨x, cap, rfl, h1, h2, h⟩
theorem SlA.un {cap : Nat} {x : Option Addr} (h : SlA F H sz n cap l x) (hb : ∀ j, b = some j → H.next ≤ j) : SlA (F.un b) H sz n cap l x := h.more fun j hf => by
  rcases hf with h1 | h1
  · exact .inl h1
  · exact .inr (hb j h1)
end
end Go.Ab
end
section
namespace Go.Ab
theorem al_some (de : TypeDesc) (s by_ : Nat) (z : Value) (ag : Bool) (f : List (Nat × Nat)) : alO (some ⟨de, s, by_, some z, ag, f⟩) = if z.cells.toList.all oneCell = true then some (.cells true s z.cells.toList, fun b => .pointer (some ⟨b, 0, none⟩)) else none := (rfl)
/-- of whole numbers, made other ones -/
def cvO2 (a b : Option TInfo) (v : Value) (dflt : Option Value) : Option Value := match a, b, v with
  | some ⟨.int _, _, _, _, _, _⟩, some ⟨.int k, _, _, _, _, _⟩, .int _ n => some (.int k (k.wrap n))
  | _, _, _ => dflt
def areadN (P : Program) (T : Tab) (ρ : Operand → Value) (o : Oper) (H : Heap) : Option Value := aread P T ρ o H
theorem r_conv (P : Program) (T : Tab) (ρ : Operand → Value) (H : Heap) (d : Option Tmp) (ty : TypeId) (ps : String) (af : Array Edge) (gd : Option (Nat × Bool)) (s t : TypeId) (x : Operand) :
    aread P T ρ ⟨d, .convert s t x, ty, ps, af, gd⟩ H = cvO2 (T.ty s) (T.ty t) (ρ x) (areadN P T ρ ⟨d, .convert s t x, ty, ps, af, gd⟩ H) := by
  unfold cvO2 areadN
  split
  · rename_i h1 h2 h3
    exact r_convert P T ρ H d ty ps af gd s t x _ _ _ _ _ _ _ _ _ _ _ _ _ _ h1 h2 h3
  · rfl
theorem cv_int (j k : IntKind) (a b a' b' : Nat) (z z' : Option Value) (c c' : Bool) (l l' : List (Nat × Nat)) (i : IntKind) (n : Int) (dflt : Option Value) : cvO2 (some ⟨.int j, a, b, z, c, l⟩) (some ⟨.int k, a', b', z', c', l'⟩) (.int i n) dflt = some (.int k (k.wrap n)) := (rfl)
def notO2 (v : Value) (dflt : Option Value) : Option Value := match v with
  | .bool b => some (.bool (!b))
  | _ => dflt
theorem r_not2 (P : Program) (T : Tab) (ρ : Operand → Value) (H : Heap) (d : Option Tmp) (ty : TypeId) (ps : String) (af : Array Edge) (gd : Option (Nat × Bool)) (t : TypeId) (x : Operand) :
    aread P T ρ ⟨d, .unOp .not t x, ty, ps, af, gd⟩ H = notO2 (ρ x) (areadN P T ρ ⟨d, .unOp .not t x, ty, ps, af, gd⟩ H) := by
  unfold notO2 areadN
  split
  · rename_i h
    exact r_not P T ρ H d ty ps af gd t x _ h
  · rfl
theorem not_bool (b : Bool) (dflt : Option Value) : notO2 (.bool b) dflt = some (.bool (!b)) := (rfl)
attribute [irreducible] cvO2 areadN notO2
attribute [go_sem] r_not2 not_bool
theorem gBool_undef (b : Bool) : gBool undef b = false := (rfl)
attribute [go_sem] al_some r_conv cv_int gBool_undef

section
variable {F F' : Fr} {H H' : Heap} {sz n cap : Nat} {c : List Value} {v : Value} {a : Option Addr}
/-- the block, and all elements -/
theorem SlA.all {α : Type} {f : α → List Value} {l : List α} (h : SlA F H sz l.length cap (l.flatMap f) a) (hf : ∀ x, (f x).length = sz) (hp : 0 < l.length) :
    ∃ b o own C, a = some ⟨b, o, none⟩ ∧ Kp F H b (.cells own sz C) ∧ ∀ (i : Nat) (x : α), l[i]? = some x → (∀ k, k < sz → C[o + i * sz + k]? = (f x)[k]?) ∧ seg C (o + i * sz) sz = some (f x) := by
  obtain ⟨b, o, own, C, rfl, hk, -, -⟩ := h.at hf (i := 0) (x := l[0]) (by simp)
  refine ⟨b, o, own, C, rfl, hk, fun i x hx => ?_⟩
  obtain ⟨b', o', own', C', e, hk', h1, h2⟩ := h.at hf hx
  cases e
  have := hk.get.symm.trans hk'.get
  cases this
  exact ⟨h1, h2⟩
end
end Go.Ab
end
section
namespace Go.Ab
def kl1 (x : Option Value) (k : Value → Prop) : Prop := match x with
  | some v => k v
  | none => False
theorem kl1_some (v : Value) (k : Value → Prop) : kl1 (some v) k = k v := (rfl)
section
variable (P : Program) (T : Tab) (ng : Nat) (tm : Tr Value) (Q : Ret → Heap → Prop) (H : Heap)
theorem res_cell (a t : Nat) (rs : List ResultVar) : resultsC T tm H (.cell a t :: rs) = (loadO H (T.ty t) (evalT tm (.tmp a))).bind fun v => (resultsC T tm H rs).map fun l => v :: l := by
  simp only [resultsC]
  unfold loadO
  split
  · rename_i b o i h1 h2
    rw [h1, h2]
    simp only
    cases loadC H i b o with
    | none => rfl
    | some v => cases resultsC T tm H rs <;> rfl
  · rename_i h
    split
    · rename_i b o i h1 h2
      exact (h b o i h1 h2).elim
    · rfl
theorem KL_cell1 (a t : Nat) : KL P T ng [.cell a t] tm Q [] H = kl1 (loadO H (T.ty t) (evalT tm (.tmp a))) (fun v => Q (.ret v) H) := by
  rw [KL_nil, res_cell, res_nil]
  unfold kl1
  cases loadO H (T.ty t) (evalT tm (.tmp a)) <;> simp [retOf]
theorem KL_ct (a t b : Nat) : KL P T ng [.cell a t, .tmp b] tm Q [] H = kl1 (loadO H (T.ty t) (evalT tm (.tmp a))) (fun v => Q (.ret (.tuple #[v, evalT tm (.tmp b)])) H) := by
  rw [KL_nil, res_cell, res_tmp, res_nil]
  unfold kl1
  cases loadO H (T.ty t) (evalT tm (.tmp a)) <;> simp [retOf]
theorem KL_tt (a b : Nat) : KL P T ng [.tmp a, .tmp b] tm Q [] H = Q (.ret (.tuple #[evalT tm (.tmp a), evalT tm (.tmp b)])) H := by
  rw [KL_nil, res_tmp, res_tmp, res_nil]; simp [retOf]
theorem KL_ttt (a b c : Nat) : KL P T ng [.tmp a, .tmp b, .tmp c] tm Q [] H = Q (.ret (.tuple #[evalT tm (.tmp a), evalT tm (.tmp b), evalT tm (.tmp c)])) H := by
  rw [KL_nil, res_tmp, res_tmp, res_tmp, res_nil]; simp [retOf]
theorem KL_no (T : Tab) : KL P T ng [] tm Q [] H = Q (.ret (.tuple #[])) H := by
  rw [KL_nil, res_nil]; simp [retOf]
end
theorem seg2_0 (a b : Value) : seg [a, b] 0 2 = some [a, b] := (rfl)
theorem seg3_0 (a b c : Value) : seg [a, b, c] 0 3 = some [a, b, c] := (rfl)
theorem seg4_0 (a b c d : Value) : seg [a, b, c, d] 0 4 = some [a, b, c, d] := (rfl)
theorem seg5_0 (a b c d e : Value) : seg [a, b, c, d, e] 0 5 = some [a, b, c, d, e] := (rfl)
attribute [irreducible] kl1
attribute [go_sem] seg2_0 seg3_0 seg4_0 seg5_0
attribute [go_sem] kl1_some KL_cell1 KL_ct KL_tt KL_ttt KL_no
theorem Own1.pos {H : Heap} {sz n : Nat} {c : List Value} {v : Value} {b : Option Nat} (h : Own1 H sz c v n b) (hn : n ≠ 0) : ∃ k, b = some k := by
  cases h with
  | nil h => exact absurd rfl hn
  | blk k n h1 h2 h3 => exact ⟨k, rfl⟩
theorem RWn_true {P : Program} {T : Tab} {ng : Nat} {ops : Array Oper} {k : Exit → St → Prop} {o : Oper} {rest : List Oper} {st : St} : RWn P T ng ops k o rest st true = RW P T ng ops k o rest st false := by unfold RWn; rfl
theorem RWn_false {P : Program} {T : Tab} {ng : Nat} {ops : Array Oper} {k : Exit → St → Prop} {o : Oper} {rest : List Oper} {st : St} : RWn P T ng ops k o rest st false = RW P T ng ops k o rest st true := by unfold RWn; rfl
attribute [go_sem] RWn_true RWn_false
/-- one cell of it -/
theorem Own1.set {H : Heap} {sz n k : Nat} {c c' : List Value} {v : Value} {b : Option Nat} (h : Own1 H sz c v n b) (hb : b = some k) (hl : c'.length = c.length) : Own1 (H.put k (.cells true sz c')) sz c' v n b := by
  cases h with
  | nil h => cases hb
  | blk k' n h1 h2 h3 => cases hb; exact .blk k n h1 (H_put_same _ _ _) (by omega)
end Go.Ab
end
section
namespace Go.Ab.Ex
open Go.Proofs
set_option maxRecDepth 10000


theorem _root_.Go.Ab.Own1.keep {H H' : Heap} {sz n : Nat} {v : Value} {c : List Value} {b : Option Nat} (h : Own1 H sz c v n b) (hle : H.next ≤ H'.next) (hg : ∀ j, b = some j → H'.get j = H.get j) : Own1 H' sz c v n b := by
  cases h with
  | nil h => exact .nil h
  | blk k n h1 h2 h3 => exact .blk k n (Nat.lt_of_lt_of_le h1 hle) (by rw [hg k rfl]; exact h2) h3

section
variable {F F' : Fr} {H H' : Heap} {bm : Nat} {inn : Int} {ops : List OpM} {outs : List Int}
end

end Go.Ab.Ex
end
