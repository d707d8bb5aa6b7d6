/- Parts of the proof, joined by program: The abstract machine: from a world's arguments to an abstract heap; The abstract machine: from a run that answers true to what a row's law asks; Wire: the table; Wire: facts of the table. PRINTED BY wip/tools/ex1.py; Wire: how values are read; a first function; Wire: a circuit among the arguments; Wire: the row of the law WireExpands, from the law of the abstract machine; The abstract machine: one element more, so many more; The abstract machine: new blocks; slices that grow; The abstract machine: more equations of operations; The abstract machine: results; Wire: functions of numbers; Wire: lists that are the same; Wire: the document's maker of code. -/
import Derived.Test.YtmodeilippcbnaaM05
import Derived.ProofKit
import Derived.Carry
import Derived.Deep.Slices
import Derived.OpenShut
import Derived.Handed
import Derived.Test.YtmodeilippcbnaaProg
import Derived.KernelRfl
import Derived.Test.YtmodeilippcbnaaRows
set_option linter.all false
section
namespace Go.Ab
open Go.ChangeShapes Go.WideShapes Go.Deep Go.RowKit

/-- what a slice of the arguments is: a block that is read alone -/
structure InOk (W : World) (p : AObj × Tgt) : Prop where
  ro : owned p.1 = false
  rel : p.1 ≠ .dead → ∃ o, W.heap[p.2.cb]? = some o ∧ ∀ μ, ORel 0 μ p.2 p.1 o

def hpFrom (H : Heap) : List (AObj × Tgt) → Heap
  | [] => H
  | p :: l => hpFrom (H.push p.1) l
def hp (l : List (AObj × Tgt)) : Heap := hpFrom .empty l
def mu (l : List (AObj × Tgt)) : Inj := fun b => (l[b]?).map (·.2)

theorem hpFrom_next : ∀ (l : List (AObj × Tgt)) (H : Heap), (hpFrom H l).next = H.next + l.length
  | [], H => rfl
  | p :: l, H => by simp only [hpFrom, hpFrom_next l, Heap.next_push, List.length_cons]; omega
theorem hpFrom_get : ∀ (l : List (AObj × Tgt)) (H : Heap) (b : Nat), (hpFrom H l).get b = if b < H.next then H.get b else match l[b - H.next]? with | some p => p.1 | none => H.get b
  | [], H, b => by simp [hpFrom]
  | p :: l, H, b => by
    simp only [hpFrom]
    rw [hpFrom_get l, Heap.get_push, Heap.next_push]
    by_cases h1 : b < H.next
    · rw [if_pos (by omega), if_neg (by omega), if_pos h1]
    · rw [if_neg h1]
      by_cases h2 : b = H.next
      · subst h2; rw [if_pos (by omega), if_pos rfl]; simp
      · rw [if_neg (by omega), if_neg h2]
        have e : b - H.next = (b - (H.next + 1)) + 1 := by omega
        rw [e, List.getElem?_cons_succ]
theorem empty_get (b : Nat) : Heap.empty.get b = .dead := by simp [Heap.get, Heap.empty, Tr.get]
theorem hp_next (l : List (AObj × Tgt)) : (hp l).next = l.length := by unfold hp; rw [hpFrom_next]; simp [Heap.empty]
theorem hp_get (l : List (AObj × Tgt)) (b : Nat) : (hp l).get b = match l[b]? with | some p => p.1 | none => .dead := by
  unfold hp; rw [hpFrom_get, empty_get]; simp [Heap.empty]
theorem hp_some {l : List (AObj × Tgt)} {b : Nat} {p : AObj × Tgt} (h : l[b]? = some p) : (hp l).get b = p.1 := by rw [hp_get, h]

theorem hp_rel {W : World} {l : List (AObj × Tgt)} (h : ∀ p ∈ l, InOk W p) : Rel 0 (mu l) (hp l).get W := by
  have key : ∀ b, (hp l).get b ≠ .dead → ∃ p, l[b]? = some p ∧ p ∈ l ∧ (hp l).get b = p.1 := fun b hb => by
    rw [hp_get] at hb ⊢
    cases hp : l[b]? with
    | none => rw [hp] at hb; exact absurd rfl hb
    | some p => exact ⟨p, rfl, List.mem_of_getElem? hp, rfl⟩
  refine ⟨fun b hb => ?_, fun b b' t t' _ ho _ _ _ => ?_, fun k hk => by omega⟩
  · obtain ⟨p, h1, h2, h3⟩ := key b hb
    rw [h3] at hb
    obtain ⟨o, h4, h5⟩ := (h p h2).rel hb
    exact ⟨p.2, o, by simp [mu, h1], h4, by rw [h3]; exact h5 _⟩
  · by_cases hb : (hp l).get b = .dead
    · rw [hb] at ho; simp [owned] at ho
    · obtain ⟨p, h1, h2, h3⟩ := key b hb
      rw [h3, (h p h2).ro] at ho; cases ho
theorem hp_dom (l : List (AObj × Tgt)) : Dom 0 (mu l) (hp l) := ⟨Nat.zero_le _, fun n hn => by rw [hp_next] at hn; simp [mu, List.getElem?_eq_none hn]⟩
theorem hp_not_own {W : World} {l : List (AObj × Tgt)} (h : ∀ p ∈ l, InOk W p) (k : Nat) : ¬ Own (mu l) (hp l).get k := by
  rintro ⟨b, t, ho, -, -⟩
  rw [hp_get] at ho
  cases hp : l[b]? with
  | none => rw [hp] at ho; simp [owned] at ho
  | some p => rw [hp] at ho; simp only at ho; rw [(h p (List.mem_of_getElem? hp)).ro] at ho; cases ho

theorem inOk_dead (W : World) (t : Tgt) : InOk W (.dead, t) := ⟨rfl, fun h => absurd rfl h⟩

section
variable {H : Type} {enc : TypeId × Value → H} {P : Program} {W : World}

/-- A slice of the arguments. -/
theorem slice_in {α : Type} [Inhabited α] {c : α → List Value} {sz : Nat} (hc : ∀ x, (c x).length = sz) (hf : ∀ x, (c x).all flat1 = true) (hsz : 0 < sz) {t e : TypeId} (ht : P.underlying t = some (.slice e)) (he : P.cellsOf e = sz)
    (hel : ∀ (n : Nat) (cs' : List Value) (y : DataW H × List MemPlace), DataW.trod enc P W 0 (fun _ => true) true n e cs' = some y → ∃ x : α, cs' = c x) {fuel : Nat} {v' : Value} {x : DataW H × List MemPlace} (h : DataW.trod enc P W 0 (fun _ => true) true fuel t [v'] = some x) :
    ∃ (l : List α) (p : AObj × Tgt), InOk W p ∧ ∀ b, ∃ v, (∀ μ, μ b = some p.2 → VRel μ v v') ∧ ∀ (F : Fr) (H : Heap), b < H.next → ¬ F b → H.get b = p.1 → Sl F H sz v l.length (l.flatMap c) := by
  rcases open_slice ht h with ⟨hcs, -⟩ | ⟨a, len, cap, m, n, D, Pl, hcs, -, hl, -, hm, -, hx⟩
  · simp only [List.cons.injEq, and_true] at hcs
    subst hcs
    exact ⟨[], (.dead, ⟨0, 0, 0, 0⟩), inOk_dead _ _, fun b => ⟨.slice none 0 0, fun μ _ => .slice0, fun F H _ _ _ => ⟨none, 0, rfl, Nat.le_refl _, by simp, .nil rfl rfl rfl⟩⟩⟩
  simp only [List.cons.injEq, and_true] at hcs
  subst hcs
  simp only [if_true] at hm
  subst hm
  rcases Nat.eq_zero_or_pos m with h0 | hpos
  · subst h0
    obtain rfl : len = 0 := by omega
    exact ⟨[], (.dead, ⟨0, 0, 0, 0⟩), inOk_dead _ _, fun b => ⟨.slice (some ⟨0, 0, none⟩) 0 0, fun μ _ => .sliceZ _ _, fun F H _ _ _ => ⟨some ⟨0, 0, none⟩, 0, rfl, Nat.le_refl _, by simp, .zer _ rfl rfl rfl rfl⟩⟩⟩
  rw [he] at hx
  have hcell : ∀ i k, i < m → k < sz → ∃ v, W.cell? ((a.add (i * sz)).add k) = some v := fun i k hi hk => by
    obtain ⟨cs', h1, -⟩ := hx i hi
    obtain ⟨-, h2, h3⟩ := World.cells?_some h1
    rw [h3 k hk]
    exact ⟨_, List.getElem?_eq_getElem (by omega)⟩
  have hsp : a.spot = none := by
    obtain ⟨v, hv⟩ := hcell 0 0 hpos hsz
    simpa [Addr.add] using World.cell?_spot hv
  obtain ⟨ab, ao, asp⟩ := a
  simp only at hsp
  subst hsp
  simp only [WideShapes.add_plain] at hx hcell
  obtain ⟨arr, elem, fr, hh⟩ : ∃ arr elem fr, W.heap[ab]? = some (.cells arr elem fr) := by
    obtain ⟨v, hv⟩ := hcell 0 0 hpos hsz
    unfold World.cell? at hv
    split at hv
    · exact ⟨_, _, _, by assumption⟩
    · cases hv
  have hcellA : ∀ j, W.cell? ⟨ab, j, none⟩ = arr[j]? := fun j => by unfold World.cell?; simp [hh]
  obtain ⟨X, hX⟩ := choose_lt (n := len) (p := fun i (x : α) => W.cells? 0 ⟨ab, ao + i * sz, none⟩ sz = some (c x)) fun i hi => by
    obtain ⟨cs', h1, h2⟩ := hx i (by omega)
    obtain ⟨y, rfl⟩ := hel _ _ _ h2
    exact ⟨y, h1⟩
  have hlen : ((List.range len).map X).length = len := by simp
  have hfm : (((List.range len).map X).flatMap c).length = len * sz := by rw [fm_length hc, hlen]
  have hget : ∀ i v, (((List.range len).map X).flatMap c)[i]? = some v → arr[ao + i]? = some v := fun i v hv => by
    have hi : i < len * sz := by
      rw [← hfm]
      exact (List.getElem?_eq_some_iff.1 hv).1
    have hq : i / sz < len := Nat.div_lt_of_lt_mul (by rw [Nat.mul_comm]; exact hi)
    have hr : i % sz < sz := Nat.mod_lt _ hsz
    have hdm : i / sz * sz + i % sz = i := by rw [Nat.mul_comm]; exact Nat.div_add_mod _ _
    have e1 := fm_get hc ((List.range len).map X) (i / sz) (i % sz) (X (i / sz)) (by simp [hq]) hr
    rw [hdm, hv] at e1
    obtain ⟨-, -, h3⟩ := World.cells?_some (hX _ hq)
    have e2 := h3 _ hr
    rw [WideShapes.add_plain, hcellA, ← e1, show ao + i / sz * sz + i % sz = ao + i by omega] at e2
    exact e2
  have hroom : ao + m * sz ≤ arr.size := by
    obtain ⟨v, hv⟩ := hcell (m - 1) (sz - 1) (by omega) (by omega)
    rw [hcellA] at hv
    have := (Array.getElem?_eq_some_iff.1 hv).1
    have e : m * sz = (m - 1) * sz + sz := by
      obtain ⟨k, rfl⟩ : ∃ k, m = k + 1 := ⟨m - 1, by omega⟩
      rw [Nat.succ_mul]; simp
    omega
  have hle : len * sz ≤ m * sz := Nat.mul_le_mul_right _ hl
  have hflat : ∀ i v, (((List.range len).map X).flatMap c)[i]? = some v → flat1 v = true := fun i v hv => by
    have hmem := List.mem_of_getElem? hv
    rw [List.mem_flatMap] at hmem
    obtain ⟨y, -, hy⟩ := hmem
    exact List.all_eq_true.1 (hf y) v hy
  refine ⟨(List.range len).map X, (.cells false sz (((List.range len).map X).flatMap c), ⟨ab, ao, sz, m * sz⟩), ⟨rfl, fun _ => ⟨_, hh, fun μ => ⟨arr, elem, fr, rfl, rfl, hroom, ?_, fun i v hv => ⟨v, hget i v hv, flat1_refl (hflat i v hv)⟩, by simp⟩⟩⟩, fun b => ⟨.slice (some ⟨b, 0, none⟩) len m, fun μ hμ => ?_, fun F H hb hF hg => ?_⟩⟩
  · show (((List.range len).map X).flatMap c).length ≤ m * sz
    rw [hfm]; exact hle
  · exact .slice b 0 _ len m m hμ hl (Nat.le_refl _) (.inl rfl)
  · rw [hlen]
    refine ⟨some ⟨b, 0, none⟩, m, rfl, hl, hfm, .blk b 0 false _ ⟨hb, hF, hg⟩ ?_⟩
    unfold seg
    rw [if_pos (by rw [hfm]; omega), List.drop_zero, List.take_of_length_le (by rw [hfm]; exact Nat.le_refl _)]

theorem field_in {fs : Array Field} {t : TypeId} (ht : P.underlying t = some (.struct fs)) {fuel : Nat} {cs : List Value} {x : DataW H × List MemPlace} (h : DataW.trod enc P W 0 (fun _ => true) true fuel t cs = some x) {i ty off : Nat} {c : Value}
    (hi : (fs[i]?).map (fun f => (f.type, f.offset)) = some (ty, off)) (hc : P.cellsOf ty = 1) (hcs : cs[off]? = some c) : ∃ n y, DataW.trod enc P W 0 (fun _ => true) true n ty [c] = some y := by
  obtain ⟨xs, n, -, -, -, hlen, hf⟩ := DataW.trod_struct ht h
  cases hfi : fs[i]? with
  | none => rw [hfi] at hi; cases hi
  | some f =>
    rw [hfi] at hi
    simp only [Option.map_some, Option.some.injEq, Prod.mk.injEq] at hi
    obtain ⟨rfl, rfl⟩ := hi
    have e := hf i f hfi
    have hil : i < xs.length := by rw [hlen]; exact (Array.getElem?_eq_some_iff.1 hfi).1
    rw [List.getElem?_eq_getElem hil, hc] at e
    have e2 : (cs.drop f.offset).take 1 = [c] := by
      obtain ⟨h1, h2⟩ := List.getElem?_eq_some_iff.1 hcs
      rw [List.drop_eq_getElem_cons h1, h2]; simp
    rw [e2] at e
    exact ⟨n, _, e⟩

theorem int_in {t : TypeId} {k : IntKind} (ht : P.underlying t = some (.int k)) {fuel : Nat} {c : Value} {x : DataW H × List MemPlace} (h : DataW.trod enc P W 0 (fun _ => true) true fuel t [c] = some x) : ∃ n, c = .int k n ∧ (Lit.int k n).wf = true := by
  cases fuel with
  | zero => simp [DataW.trod] at h
  | succ m =>
    unfold DataW.trod at h
    rw [ht] at h
    split at h <;> simp_all
theorem bool_in {t : TypeId} (ht : P.underlying t = some .bool) {fuel : Nat} {c : Value} {x : DataW H × List MemPlace} (h : DataW.trod enc P W 0 (fun _ => true) true fuel t [c] = some x) : ∃ b, c = .bool b := by
  cases fuel with
  | zero => simp [DataW.trod] at h
  | succ m =>
    unfold DataW.trod at h
    rw [ht] at h
    split at h <;> simp_all
theorem string_in {t : TypeId} (ht : P.underlying t = some .string) {fuel : Nat} {c : Value} {x : DataW H × List MemPlace} (h : DataW.trod enc P W 0 (fun _ => true) true fuel t [c] = some x) : ∃ b, c = .string b := by
  cases fuel with
  | zero => simp [DataW.trod] at h
  | succ m =>
    unfold DataW.trod at h
    rw [ht] at h
    split at h <;> simp_all
end
end Go.Ab
end
section
namespace Go.Ab
open Go.ChangeShapes Go.WideShapes Go.RowKit

section
variable {H : Type} {enc : TypeId × Value → H} {P : Program}

theorem calls_law {f : FuncId} {args args' : Array Value} {l : List (AObj × Tgt)} {W : World} (h : SemC P 0 f args (hp l) (fun r _ => r = .ret (.bool true))) (hin : ∀ p ∈ l, InOk W p) (hrel : VRels (mu l) args.toList args'.toList) :
    Calls P f args' W fun e W' => e = .returned (.bool true) ∧ Below W.heap.size W W' := by
  obtain ⟨r, H', rfl, hV⟩ := h
  refine (callsIn_wide (n := 0)).1 (CallsIn.mono (hV.sim (mu l) W args' (hp_rel hin) (hp_dom l) hrel) ?_)
  rintro e W' ⟨μ', hp⟩
  have hret := hp.ret
  cases hret with
  | ret _ v' hv =>
    cases hv
    exact ⟨rfl, hp.goes.same.os, hp.goes.same.tape, hp.goes.same.output, hp.goes.size, fun k hk => hp.goes.kept k hk (hp_not_own hin k)⟩

theorem stays_all (hl : laidOutB P = true) {W W' : World} (hB : Below W.heap.size W W') {sp : Nat → Bool} : ∀ {ts : List TypeId} {vs : List Value} {ds : List (DataW H)} {ps : List MemPlace}, (∀ t ∈ ts, P.readableRec t = true ∧ t < P.types.size) →
    DataW.TrodAll enc P W 0 (fun _ => true) true ts vs ds ps → (∀ x ∈ ps, x.block < W.heap.size) → (∀ x ∈ ps, sp x.block = true) → DataW.TrodAll enc P W' 0 sp true ts vs ds ps
  | [], [], [], _, _, h, _, _ => h
  | t :: ts, v :: vs, d :: ds, _, ht, ⟨p, q, h1, h2, rfl⟩, hlt, hsp =>
    ⟨p, q, WideElems.Trod_stays hl (ht t (by simp)).1 (ht t (by simp)).2 h1 (fun x hx => hB.same (hlt x (by simp [hx]))) (fun x hx => hsp x (by simp [hx])),
      stays_all hl hB (fun u hu => ht u (by simp [hu])) h2 (fun x hx => hlt x (by simp [hx])) (fun x hx => hsp x (by simp [hx])), rfl⟩
  | [], _ :: _, _, _, _, h, _, _ => by simp [DataW.TrodAll] at h
  | [], [], _ :: _, _, _, h, _, _ => by simp [DataW.TrodAll] at h
  | _ :: _, [], _, _, _, h, _, _ => by simp [DataW.TrodAll] at h
  | _ :: _, _ :: _, [], _, _, h, _, _ => by simp [DataW.TrodAll] at h

theorem post_law {fn : Func} {s : ChangeSpec} {fresh handsOn again : Bool} {W W' : World} {args : Array Value} {ds gs : List (DataW H)} {before : List MemPlace} {t : TypeId} (hv : s.vars = []) (hr : fn.resultTypes = #[t]) (ut : P.underlying t = some .bool) (hl : laidOutB P = true)
    (hp : ∀ u ∈ fn.params.toList, P.readableRec u = true ∧ u < P.types.size) (hW : DataW.Whole enc P fn.params.toList s.vars false W args.toList ds gs before)
    (hs1 : (s.fn H (ds ++ gs)).results = [.lit (.bool true)]) (hs2 : (s.fn H (ds ++ gs)).args = ds) (hs3 : (s.fn H (ds ++ gs)).vars = []) (hB : Below W.heap.size W W') :
    s.post enc P fn false fresh handsOn again W args (.bool true) W' := by
  have hlt := hW.lt
  have hW0 := hW
  obtain ⟨p, q, hA, hV, rfl, hz, -⟩ := hW
  rw [hv] at hV
  obtain ⟨rfl, rfl⟩ := trodVars_none hV
  simp only [List.append_nil] at hlt hz hW0 hs1 hs2 hs3
  have hA' : ∀ sp : Nat → Bool, (∀ x ∈ p, sp x.block = true) → DataW.TrodAll enc P W' 0 sp true fn.params.toList args.toList ds p := fun sp hsp => stays_all hl hB hp hA hlt hsp
  have hres : ∀ (b : Nat) (sp : Nat → Bool) (hd : Bool), DataW.TrodAll enc P W' b sp hd fn.resultTypes.toList ((Value.bool true).resultList fn.resultTypes.size) [.lit (.bool true)] [] := fun b sp hd => by
    rw [hr]
    exact trodAll_mk1 (shut_bool ut true)
  refine ⟨ds, [], p, [], p, [], by simpa using hW0, ?_, ?_, ?_, ?_, fun _ => ⟨?_, [.lit (.bool true)] ++ ds, [], [] ++ p, ⟨[] ++ p, [], trodAll_append (hA' _ fun _ _ => rfl) (hres _ _ _), by rw [hv]; rfl, (List.append_nil _).symm, ?_, fun h => by cases h⟩, fun x hx _ => hx⟩⟩
  · rw [List.append_nil, hs1]; exact hres _ _ _
  · rw [List.append_nil, hs2]; exact hA' _ fun x hx => by simpa using hlt x hx
  · rw [List.append_nil, hs3, hv]; rfl
  · refine ⟨hB.os, hB.output, fun i hi => ?_⟩
    rw [hB.block i hi]
    split <;> simp_all
  · intro j u r h1 h2
    rw [hr] at h1 h2
    match j, h1, h2 with
    | 0, h1, h2 =>
      simp [Value.resultList] at h1 h2
      subst h1; subst h2
      exact okWide_bool_mk ut true
  · intro b off hx
    have h1 := hz b off hx
    unfold World.frozen? at h1 ⊢
    rw [hB.block b (hlt _ hx)]
    exact h1
end
end Go.Ab
end
section
namespace Go.Ab.Ex
open Go.Proofs

noncomputable def TT : Tab := tabOf Try.prog

set_option maxRecDepth 100000 in
theorem tyChecked : tyCheck Try.prog = true := by decide +kernel
set_option maxRecDepth 100000 in
theorem fnChecked : fnCheck Try.prog = true := by decide +kernel
theorem TT.ok : TT.Ok Try.prog 0 := tabOf_ok tyChecked fnChecked
theorem TT_fn (f : Nat) : TT.fn f = Try.prog.funcs[f]? := rfl

end Go.Ab.Ex
end
section
namespace Go.Ab.Ex
open Go.Proofs

theorem ty0 : TT.ty 0 = some ⟨.tuple #[], 1, 0, some (.tuple #[]), false, []⟩ := by kernel_rfl
theorem ty3 : TT.ty 3 = some ⟨.int .i64, 1, 8, some (.int .i64 (0)), false, []⟩ := by kernel_rfl
theorem ty4 : TT.ty 4 = some ⟨.bool, 1, 1, some (.bool false), false, []⟩ := by kernel_rfl
theorem ty5 : TT.ty 5 = some ⟨.int .u8, 1, 1, some (.int .u8 (0)), false, []⟩ := by kernel_rfl
theorem ty9 : TT.ty 9 = some ⟨.string, 1, 16, some (.string { data := #[] }), false, []⟩ := by kernel_rfl
theorem ty22 : TT.ty 22 = some ⟨.slice 60, 1, 24, some (.slice none 0 0), false, []⟩ := by kernel_rfl
theorem ty23 : TT.ty 23 = some ⟨.slice 56, 1, 24, some (.slice none 0 0), false, []⟩ := by kernel_rfl
theorem ty25 : TT.ty 25 = some ⟨.struct (fsOf Try.prog 25), 4, 64, some (.agg #[.slice none 0 0, .int .i64 (0), .int .i64 (0), .slice none 0 0]), true, [(0, 1), (1, 1), (2, 1), (3, 1)]⟩ := by kernel_rfl
theorem ty28 : TT.ty 28 = some ⟨.slice 69, 1, 24, some (.slice none 0 0), false, []⟩ := by kernel_rfl
theorem ty29 : TT.ty 29 = some ⟨.slice 3, 1, 24, some (.slice none 0 0), false, []⟩ := by kernel_rfl
theorem ty31 : TT.ty 31 = some ⟨.struct (fsOf Try.prog 31), 3, 56, some (.agg #[.int .i64 (0), .slice none 0 0, .slice none 0 0]), true, [(0, 1), (1, 1), (2, 1)]⟩ := by kernel_rfl
theorem ty32 : TT.ty 32 = some ⟨.int .i64, 1, 8, some (.int .i64 (0)), false, []⟩ := by kernel_rfl
theorem ty43 : TT.ty 43 = some ⟨.slice 54, 1, 24, some (.slice none 0 0), false, []⟩ := by kernel_rfl
theorem ty44 : TT.ty 44 = some ⟨.array 4 43, 4, 96, some (.agg #[.slice none 0 0, .slice none 0 0, .slice none 0 0, .slice none 0 0]), true, []⟩ := by kernel_rfl
theorem ty54 : TT.ty 54 = some ⟨.int .u32, 1, 4, some (.int .u32 (0)), false, []⟩ := by kernel_rfl
theorem ty56 : TT.ty 56 = some ⟨.struct (fsOf Try.prog 56), 2, 24, some (.agg #[.string { data := { toList := [] } }, .int .i64 (0)]), true, [(0, 1), (1, 1)]⟩ := by kernel_rfl
theorem ty60 : TT.ty 60 = some ⟨.struct (fsOf Try.prog 60), 5, 32, some (.agg #[.int .i64 (0), .int .i64 (0), .int .i64 (0), .int .u32 (0), .bool false]), true, [(0, 1), (1, 1), (2, 1), (3, 1), (4, 1)]⟩ := by kernel_rfl
theorem ty61 : TT.ty 61 = some ⟨.pointer 63, 1, 8, some (.pointer none), false, []⟩ := by kernel_rfl
theorem ty63 : TT.ty 63 = some ⟨.struct (fsOf Try.prog 63), 3, 56, some (.agg #[.int .i64 (0), .slice none 0 0, .slice none 0 0]), true, [(0, 3)]⟩ := by kernel_rfl
theorem ty64 : TT.ty 64 = some ⟨.slice 29, 1, 24, some (.slice none 0 0), false, []⟩ := by kernel_rfl
theorem ty69 : TT.ty 69 = some ⟨.struct (fsOf Try.prog 69), 4, 32, some (.agg #[.int .i64 (0), .int .i64 (0), .int .i64 (0), .int .u32 (0)]), true, [(0, 1), (1, 1), (2, 1), (3, 1)]⟩ := by kernel_rfl
theorem ty72 : TT.ty 72 = some ⟨.pointer 43, 1, 8, some (.pointer none), false, []⟩ := by kernel_rfl
theorem ty80 : TT.ty 80 = some ⟨.pointer 82, 1, 8, some (.pointer none), false, []⟩ := by kernel_rfl
theorem ty82 : TT.ty 82 = some ⟨.struct (fsOf Try.prog 82), 13, 216, some (.agg #[.int .i64 (0), .slice none 0 0, .slice none 0 0, .int .i64 (0), .slice none 0 0, .int .i64 (0), .slice none 0 0, .slice none 0 0, .int .i64 (0), .slice none 0 0, .slice none 0 0, .int .i64 (0), .int .i64 (0)]), true, [(0, 3), (3, 1), (4, 1), (5, 3), (8, 3), (11, 1), (12, 1)]⟩ := by kernel_rfl
theorem ty88 : TT.ty 88 = some ⟨.slice 4, 1, 24, some (.slice none 0 0), false, []⟩ := by kernel_rfl
theorem ty93 : TT.ty 93 = some ⟨.pointer 95, 1, 8, some (.pointer none), false, []⟩ := by kernel_rfl
theorem ty95 : TT.ty 95 = some ⟨.struct (fsOf Try.prog 95), 3, 56, some (.agg #[.int .i64 (0), .slice none 0 0, .slice none 0 0]), true, [(0, 3)]⟩ := by kernel_rfl
theorem ty110 : TT.ty 110 = some ⟨.pointer 60, 1, 8, some (.pointer none), false, []⟩ := by kernel_rfl
theorem ty113 : TT.ty 113 = some ⟨.array 2 3, 2, 16, some (.agg #[.int .i64 (0), .int .i64 (0)]), true, []⟩ := by kernel_rfl
theorem r_len22 (ρ : Operand → Value) (H : Heap) (d : Option Tmp) (ty : TypeId) (ps : String) (af : Array Edge) (gd : Option (Nat × Bool)) (x : Operand) : aread Try.prog TT ρ ⟨d, .call ⟨.builtin .len, #[x], #[22]⟩, ty, ps, af, gd⟩ H = lenO (TT.ty 22) (ρ x) := r_len _ _ _ _ _ _ _ _ _ _ _ _ _ _ _ _ _ ty22
theorem r_len23 (ρ : Operand → Value) (H : Heap) (d : Option Tmp) (ty : TypeId) (ps : String) (af : Array Edge) (gd : Option (Nat × Bool)) (x : Operand) : aread Try.prog TT ρ ⟨d, .call ⟨.builtin .len, #[x], #[23]⟩, ty, ps, af, gd⟩ H = lenO (TT.ty 23) (ρ x) := r_len _ _ _ _ _ _ _ _ _ _ _ _ _ _ _ _ _ ty23
theorem r_len28 (ρ : Operand → Value) (H : Heap) (d : Option Tmp) (ty : TypeId) (ps : String) (af : Array Edge) (gd : Option (Nat × Bool)) (x : Operand) : aread Try.prog TT ρ ⟨d, .call ⟨.builtin .len, #[x], #[28]⟩, ty, ps, af, gd⟩ H = lenO (TT.ty 28) (ρ x) := r_len _ _ _ _ _ _ _ _ _ _ _ _ _ _ _ _ _ ty28
theorem r_len29 (ρ : Operand → Value) (H : Heap) (d : Option Tmp) (ty : TypeId) (ps : String) (af : Array Edge) (gd : Option (Nat × Bool)) (x : Operand) : aread Try.prog TT ρ ⟨d, .call ⟨.builtin .len, #[x], #[29]⟩, ty, ps, af, gd⟩ H = lenO (TT.ty 29) (ρ x) := r_len _ _ _ _ _ _ _ _ _ _ _ _ _ _ _ _ _ ty29
theorem r_len43 (ρ : Operand → Value) (H : Heap) (d : Option Tmp) (ty : TypeId) (ps : String) (af : Array Edge) (gd : Option (Nat × Bool)) (x : Operand) : aread Try.prog TT ρ ⟨d, .call ⟨.builtin .len, #[x], #[43]⟩, ty, ps, af, gd⟩ H = lenO (TT.ty 43) (ρ x) := r_len _ _ _ _ _ _ _ _ _ _ _ _ _ _ _ _ _ ty43
theorem r_len64 (ρ : Operand → Value) (H : Heap) (d : Option Tmp) (ty : TypeId) (ps : String) (af : Array Edge) (gd : Option (Nat × Bool)) (x : Operand) : aread Try.prog TT ρ ⟨d, .call ⟨.builtin .len, #[x], #[64]⟩, ty, ps, af, gd⟩ H = lenO (TT.ty 64) (ρ x) := r_len _ _ _ _ _ _ _ _ _ _ _ _ _ _ _ _ _ ty64
theorem r_len88 (ρ : Operand → Value) (H : Heap) (d : Option Tmp) (ty : TypeId) (ps : String) (af : Array Edge) (gd : Option (Nat × Bool)) (x : Operand) : aread Try.prog TT ρ ⟨d, .call ⟨.builtin .len, #[x], #[88]⟩, ty, ps, af, gd⟩ H = lenO (TT.ty 88) (ρ x) := r_len _ _ _ _ _ _ _ _ _ _ _ _ _ _ _ _ _ ty88
theorem fn3 : TT.fn 3 = some Try.f3 := (TT_fn 3).trans Try.func3
theorem fn4 : TT.fn 4 = some Try.f4 := (TT_fn 4).trans Try.func4
theorem fn5 : TT.fn 5 = some Try.f5 := (TT_fn 5).trans Try.func5
theorem fn6 : TT.fn 6 = some Try.f6 := (TT_fn 6).trans Try.func6
theorem fn7 : TT.fn 7 = some Try.f7 := (TT_fn 7).trans Try.func7
theorem fn8 : TT.fn 8 = some Try.f8 := (TT_fn 8).trans Try.func8
theorem fn9 : TT.fn 9 = some Try.f9 := (TT_fn 9).trans Try.func9
theorem fn10 : TT.fn 10 = some Try.f10 := (TT_fn 10).trans Try.func10
theorem fn11 : TT.fn 11 = some Try.f11 := (TT_fn 11).trans Try.func11
theorem fn12 : TT.fn 12 = some Try.f12 := (TT_fn 12).trans Try.func12
theorem fn13 : TT.fn 13 = some Try.f13 := (TT_fn 13).trans Try.func13
theorem fn14 : TT.fn 14 = some Try.f14 := (TT_fn 14).trans Try.func14
theorem fn15 : TT.fn 15 = some Try.f15 := (TT_fn 15).trans Try.func15
theorem fn16 : TT.fn 16 = some Try.f16 := (TT_fn 16).trans Try.func16
theorem fn17 : TT.fn 17 = some Try.f17 := (TT_fn 17).trans Try.func17
theorem fn18 : TT.fn 18 = some Try.f18 := (TT_fn 18).trans Try.func18
theorem fn19 : TT.fn 19 = some Try.f19 := (TT_fn 19).trans Try.func19
theorem fn20 : TT.fn 20 = some Try.f20 := (TT_fn 20).trans Try.func20
theorem fn21 : TT.fn 21 = some Try.f21 := (TT_fn 21).trans Try.func21
theorem fn22 : TT.fn 22 = some Try.f22 := (TT_fn 22).trans Try.func22
theorem fn23 : TT.fn 23 = some Try.f23 := (TT_fn 23).trans Try.func23
theorem fn24 : TT.fn 24 = some Try.f24 := (TT_fn 24).trans Try.func24
theorem fn25 : TT.fn 25 = some Try.f25 := (TT_fn 25).trans Try.func25
theorem fn26 : TT.fn 26 = some Try.f26 := (TT_fn 26).trans Try.func26
theorem fn27 : TT.fn 27 = some Try.f27 := (TT_fn 27).trans Try.func27
theorem fn28 : TT.fn 28 = some Try.f28 := (TT_fn 28).trans Try.func28
theorem fn29 : TT.fn 29 = some Try.f29 := (TT_fn 29).trans Try.func29
theorem fn30 : TT.fn 30 = some Try.f30 := (TT_fn 30).trans Try.func30
theorem fn31 : TT.fn 31 = some Try.f31 := (TT_fn 31).trans Try.func31
theorem fn32 : TT.fn 32 = some Try.f32 := (TT_fn 32).trans Try.func32
theorem fn33 : TT.fn 33 = some Try.f33 := (TT_fn 33).trans Try.func33
theorem fn34 : TT.fn 34 = some Try.f34 := (TT_fn 34).trans Try.func34
theorem fn35 : TT.fn 35 = some Try.f35 := (TT_fn 35).trans Try.func35
theorem fn36 : TT.fn 36 = some Try.f36 := (TT_fn 36).trans Try.func36
theorem fn37 : TT.fn 37 = some Try.f37 := (TT_fn 37).trans Try.func37
theorem fn38 : TT.fn 38 = some Try.f38 := (TT_fn 38).trans Try.func38
theorem fn39 : TT.fn 39 = some Try.f39 := (TT_fn 39).trans Try.func39
theorem fn40 : TT.fn 40 = some Try.f40 := (TT_fn 40).trans Try.func40
theorem fn41 : TT.fn 41 = some Try.f41 := (TT_fn 41).trans Try.func41
theorem fn42 : TT.fn 42 = some Try.f42 := (TT_fn 42).trans Try.func42
theorem fn43 : TT.fn 43 = some Try.f43 := (TT_fn 43).trans Try.func43
theorem fn44 : TT.fn 44 = some Try.f44 := (TT_fn 44).trans Try.func44
theorem fn45 : TT.fn 45 = some Try.f45 := (TT_fn 45).trans Try.func45
theorem fn46 : TT.fn 46 = some Try.f46 := (TT_fn 46).trans Try.func46
theorem fn47 : TT.fn 47 = some Try.f47 := (TT_fn 47).trans Try.func47
theorem fn48 : TT.fn 48 = some Try.f48 := (TT_fn 48).trans Try.func48
theorem fn49 : TT.fn 49 = some Try.f49 := (TT_fn 49).trans Try.func49
theorem fn50 : TT.fn 50 = some Try.f50 := (TT_fn 50).trans Try.func50
theorem fn51 : TT.fn 51 = some Try.f51 := (TT_fn 51).trans Try.func51
theorem fn52 : TT.fn 52 = some Try.f52 := (TT_fn 52).trans Try.func52
theorem fn53 : TT.fn 53 = some Try.f53 := (TT_fn 53).trans Try.func53
theorem fn54 : TT.fn 54 = some Try.f54 := (TT_fn 54).trans Try.func54
theorem fn55 : TT.fn 55 = some Try.f55 := (TT_fn 55).trans Try.func55
theorem fn56 : TT.fn 56 = some Try.f56 := (TT_fn 56).trans Try.func56
theorem fn57 : TT.fn 57 = some Try.f57 := (TT_fn 57).trans Try.func57
theorem fn58 : TT.fn 58 = some Try.f58 := (TT_fn 58).trans Try.func58
theorem fn59 : TT.fn 59 = some Try.f59 := (TT_fn 59).trans Try.func59
theorem fn60 : TT.fn 60 = some Try.f60 := (TT_fn 60).trans Try.func60
theorem fn61 : TT.fn 61 = some Try.f61 := (TT_fn 61).trans Try.func61
theorem fn62 : TT.fn 62 = some Try.f62 := (TT_fn 62).trans Try.func62
theorem fn63 : TT.fn 63 = some Try.f63 := (TT_fn 63).trans Try.func63
theorem fn64 : TT.fn 64 = some Try.f64 := (TT_fn 64).trans Try.func64
theorem fn65 : TT.fn 65 = some Try.f65 := (TT_fn 65).trans Try.func65
theorem fn66 : TT.fn 66 = some Try.f66 := (TT_fn 66).trans Try.func66
theorem fn67 : TT.fn 67 = some Try.f67 := (TT_fn 67).trans Try.func67
theorem fn68 : TT.fn 68 = some Try.f68 := (TT_fn 68).trans Try.func68
theorem fn69 : TT.fn 69 = some Try.f69 := (TT_fn 69).trans Try.func69
theorem fn70 : TT.fn 70 = some Try.f70 := (TT_fn 70).trans Try.func70
theorem fn71 : TT.fn 71 = some Try.f71 := (TT_fn 71).trans Try.func71
theorem fn72 : TT.fn 72 = some Try.f72 := (TT_fn 72).trans Try.func72
theorem fn73 : TT.fn 73 = some Try.f73 := (TT_fn 73).trans Try.func73
theorem fn74 : TT.fn 74 = some Try.f74 := (TT_fn 74).trans Try.func74
theorem fn75 : TT.fn 75 = some Try.f75 := (TT_fn 75).trans Try.func75
theorem fn76 : TT.fn 76 = some Try.f76 := (TT_fn 76).trans Try.func76
theorem fn77 : TT.fn 77 = some Try.f77 := (TT_fn 77).trans Try.func77
theorem fn78 : TT.fn 78 = some Try.f78 := (TT_fn 78).trans Try.func78
theorem fn79 : TT.fn 79 = some Try.f79 := (TT_fn 79).trans Try.func79
theorem fn80 : TT.fn 80 = some Try.f80 := (TT_fn 80).trans Try.func80
theorem fn81 : TT.fn 81 = some Try.f81 := (TT_fn 81).trans Try.func81
theorem fn82 : TT.fn 82 = some Try.f82 := (TT_fn 82).trans Try.func82
theorem fn83 : TT.fn 83 = some Try.f83 := (TT_fn 83).trans Try.func83
theorem fn84 : TT.fn 84 = some Try.f84 := (TT_fn 84).trans Try.func84
theorem fn85 : TT.fn 85 = some Try.f85 := (TT_fn 85).trans Try.func85
theorem fn86 : TT.fn 86 = some Try.f86 := (TT_fn 86).trans Try.func86
theorem fn87 : TT.fn 87 = some Try.f87 := (TT_fn 87).trans Try.func87
theorem has3 : hasFn TT 3 = true := by unfold hasFn; rw [fn3]; rfl
theorem has4 : hasFn TT 4 = true := by unfold hasFn; rw [fn4]; rfl
theorem has5 : hasFn TT 5 = true := by unfold hasFn; rw [fn5]; rfl
theorem has6 : hasFn TT 6 = true := by unfold hasFn; rw [fn6]; rfl
theorem has7 : hasFn TT 7 = true := by unfold hasFn; rw [fn7]; rfl
theorem has8 : hasFn TT 8 = true := by unfold hasFn; rw [fn8]; rfl
theorem has9 : hasFn TT 9 = true := by unfold hasFn; rw [fn9]; rfl
theorem has10 : hasFn TT 10 = true := by unfold hasFn; rw [fn10]; rfl
theorem has11 : hasFn TT 11 = true := by unfold hasFn; rw [fn11]; rfl
theorem has12 : hasFn TT 12 = true := by unfold hasFn; rw [fn12]; rfl
theorem has13 : hasFn TT 13 = true := by unfold hasFn; rw [fn13]; rfl
theorem has14 : hasFn TT 14 = true := by unfold hasFn; rw [fn14]; rfl
theorem has15 : hasFn TT 15 = true := by unfold hasFn; rw [fn15]; rfl
theorem has16 : hasFn TT 16 = true := by unfold hasFn; rw [fn16]; rfl
theorem has17 : hasFn TT 17 = true := by unfold hasFn; rw [fn17]; rfl
theorem has18 : hasFn TT 18 = true := by unfold hasFn; rw [fn18]; rfl
theorem has19 : hasFn TT 19 = true := by unfold hasFn; rw [fn19]; rfl
theorem has20 : hasFn TT 20 = true := by unfold hasFn; rw [fn20]; rfl
theorem has21 : hasFn TT 21 = true := by unfold hasFn; rw [fn21]; rfl
theorem has22 : hasFn TT 22 = true := by unfold hasFn; rw [fn22]; rfl
theorem has23 : hasFn TT 23 = true := by unfold hasFn; rw [fn23]; rfl
theorem has24 : hasFn TT 24 = true := by unfold hasFn; rw [fn24]; rfl
theorem has25 : hasFn TT 25 = true := by unfold hasFn; rw [fn25]; rfl
theorem has26 : hasFn TT 26 = true := by unfold hasFn; rw [fn26]; rfl
theorem has27 : hasFn TT 27 = true := by unfold hasFn; rw [fn27]; rfl
theorem has28 : hasFn TT 28 = true := by unfold hasFn; rw [fn28]; rfl
theorem has29 : hasFn TT 29 = true := by unfold hasFn; rw [fn29]; rfl
theorem has30 : hasFn TT 30 = true := by unfold hasFn; rw [fn30]; rfl
theorem has31 : hasFn TT 31 = true := by unfold hasFn; rw [fn31]; rfl
theorem has32 : hasFn TT 32 = true := by unfold hasFn; rw [fn32]; rfl
theorem has33 : hasFn TT 33 = true := by unfold hasFn; rw [fn33]; rfl
theorem has34 : hasFn TT 34 = true := by unfold hasFn; rw [fn34]; rfl
theorem has35 : hasFn TT 35 = true := by unfold hasFn; rw [fn35]; rfl
theorem has36 : hasFn TT 36 = true := by unfold hasFn; rw [fn36]; rfl
theorem has37 : hasFn TT 37 = true := by unfold hasFn; rw [fn37]; rfl
theorem has38 : hasFn TT 38 = true := by unfold hasFn; rw [fn38]; rfl
theorem has39 : hasFn TT 39 = true := by unfold hasFn; rw [fn39]; rfl
theorem has40 : hasFn TT 40 = true := by unfold hasFn; rw [fn40]; rfl
theorem has41 : hasFn TT 41 = true := by unfold hasFn; rw [fn41]; rfl
theorem has42 : hasFn TT 42 = true := by unfold hasFn; rw [fn42]; rfl
theorem has43 : hasFn TT 43 = true := by unfold hasFn; rw [fn43]; rfl
theorem has44 : hasFn TT 44 = true := by unfold hasFn; rw [fn44]; rfl
theorem has45 : hasFn TT 45 = true := by unfold hasFn; rw [fn45]; rfl
theorem has46 : hasFn TT 46 = true := by unfold hasFn; rw [fn46]; rfl
theorem has47 : hasFn TT 47 = true := by unfold hasFn; rw [fn47]; rfl
theorem has48 : hasFn TT 48 = true := by unfold hasFn; rw [fn48]; rfl
theorem has49 : hasFn TT 49 = true := by unfold hasFn; rw [fn49]; rfl
theorem has50 : hasFn TT 50 = true := by unfold hasFn; rw [fn50]; rfl
theorem has51 : hasFn TT 51 = true := by unfold hasFn; rw [fn51]; rfl
theorem has52 : hasFn TT 52 = true := by unfold hasFn; rw [fn52]; rfl
theorem has53 : hasFn TT 53 = true := by unfold hasFn; rw [fn53]; rfl
theorem has54 : hasFn TT 54 = true := by unfold hasFn; rw [fn54]; rfl
theorem has55 : hasFn TT 55 = true := by unfold hasFn; rw [fn55]; rfl
theorem has56 : hasFn TT 56 = true := by unfold hasFn; rw [fn56]; rfl
theorem has57 : hasFn TT 57 = true := by unfold hasFn; rw [fn57]; rfl
theorem has58 : hasFn TT 58 = true := by unfold hasFn; rw [fn58]; rfl
theorem has59 : hasFn TT 59 = true := by unfold hasFn; rw [fn59]; rfl
theorem has60 : hasFn TT 60 = true := by unfold hasFn; rw [fn60]; rfl
theorem has61 : hasFn TT 61 = true := by unfold hasFn; rw [fn61]; rfl
theorem has62 : hasFn TT 62 = true := by unfold hasFn; rw [fn62]; rfl
theorem has63 : hasFn TT 63 = true := by unfold hasFn; rw [fn63]; rfl
theorem has64 : hasFn TT 64 = true := by unfold hasFn; rw [fn64]; rfl
theorem has65 : hasFn TT 65 = true := by unfold hasFn; rw [fn65]; rfl
theorem has66 : hasFn TT 66 = true := by unfold hasFn; rw [fn66]; rfl
theorem has67 : hasFn TT 67 = true := by unfold hasFn; rw [fn67]; rfl
theorem has68 : hasFn TT 68 = true := by unfold hasFn; rw [fn68]; rfl
theorem has69 : hasFn TT 69 = true := by unfold hasFn; rw [fn69]; rfl
theorem has70 : hasFn TT 70 = true := by unfold hasFn; rw [fn70]; rfl
theorem has71 : hasFn TT 71 = true := by unfold hasFn; rw [fn71]; rfl
theorem has72 : hasFn TT 72 = true := by unfold hasFn; rw [fn72]; rfl
theorem has73 : hasFn TT 73 = true := by unfold hasFn; rw [fn73]; rfl
theorem has74 : hasFn TT 74 = true := by unfold hasFn; rw [fn74]; rfl
theorem has75 : hasFn TT 75 = true := by unfold hasFn; rw [fn75]; rfl
theorem has76 : hasFn TT 76 = true := by unfold hasFn; rw [fn76]; rfl
theorem has77 : hasFn TT 77 = true := by unfold hasFn; rw [fn77]; rfl
theorem has78 : hasFn TT 78 = true := by unfold hasFn; rw [fn78]; rfl
theorem has79 : hasFn TT 79 = true := by unfold hasFn; rw [fn79]; rfl
theorem has80 : hasFn TT 80 = true := by unfold hasFn; rw [fn80]; rfl
theorem has81 : hasFn TT 81 = true := by unfold hasFn; rw [fn81]; rfl
theorem has82 : hasFn TT 82 = true := by unfold hasFn; rw [fn82]; rfl
theorem has83 : hasFn TT 83 = true := by unfold hasFn; rw [fn83]; rfl
theorem has84 : hasFn TT 84 = true := by unfold hasFn; rw [fn84]; rfl
theorem has85 : hasFn TT 85 = true := by unfold hasFn; rw [fn85]; rfl
theorem has86 : hasFn TT 86 = true := by unfold hasFn; rw [fn86]; rfl
theorem has87 : hasFn TT 87 = true := by unfold hasFn; rw [fn87]; rfl
attribute [go_sem] ty0 ty3 ty4 ty5 ty9 ty22 ty23 ty25 ty28 ty29 ty31 ty32 ty43 ty44 ty54 ty56 ty60 ty61 ty63 ty64 ty69 ty72 ty80 ty82 ty88 ty93 ty95 ty110 ty113 r_len22 r_len23 r_len28 r_len29 r_len43 r_len64 r_len88 has3 has4 has5 has6 has7 has8 has9 has10 has11 has12 has13 has14 has15 has16 has17 has18 has19 has20 has21 has22 has23 has24 has25 has26 has27 has28 has29 has30 has31 has32 has33 has34 has35 has36 has37 has38 has39 has40 has41 has42 has43 has44 has45 has46 has47 has48 has49 has50 has51 has52 has53 has54 has55 has56 has57 has58 has59 has60 has61 has62 has63 has64 has65 has66 has67 has68 has69 has70 has71 has72 has73 has74 has75 has76 has77 has78 has79 has80 has81 has82 has83 has84 has85 has86 has87
end Go.Ab.Ex
end
section
namespace Go.Ab.Ex
open Go.Proofs

abbrev C (f : FuncId) (args : Array Value) (H : Heap) (Q : Ret → Heap → Prop) : Prop := SemC Try.prog 0 f args H Q
abbrev W (c : Code) (k : Exit → St → Prop) (st : St) : Prop := wpc Try.prog TT 0 c k st

structure OpM where
  (K A B : Int)
  (N : BitVec 32)
def OpM.c (o : OpM) : List Value := [.int .i64 o.K, .int .i64 o.A, .int .i64 o.B, .int .u32 o.N.toNat]
theorem OpM.len (o : OpM) : o.c.length = 4 := rfl
def intC (x : Int) : List Value := [.int .i64 x]
theorem intC_len (x : Int) : (intC x).length = 1 := rfl

def wordC (x : BitVec 32) : List Value := [.int .u32 x.toNat]
theorem wordC_len (x : BitVec 32) : (wordC x).length = 1 := rfl
structure GateM where
  (K A B : Int)
  (N : BitVec 32)
  (S : Bool)
def GateM.c (g : GateM) : List Value := [.int .i64 g.K, .int .i64 g.A, .int .i64 g.B, .int .u32 g.N.toNat, .bool g.S]
theorem GateM.len (g : GateM) : g.c.length = 5 := rfl
structure OutM where
  (name : ByteArray)
  (At : Int)
def OutM.c (o : OutM) : List Value := [.string o.name, .int .i64 o.At]
theorem OutM.len (o : OutM) : o.c.length = 2 := rfl
structure CircM where
  gates : List GateM
  (secrets publics : Int)
  outs : List OutM

/-- a circuit's value -/
structure CircR (F : Fr) (H : Heap) (v : Value) (g : CircM) : Prop where
  ex : ∃ vg vo, v = .agg #[vg, .int .i64 g.secrets, .int .i64 g.publics, vo] ∧ Sl F H 5 vg g.gates.length (g.gates.flatMap GateM.c) ∧ Sl F H 2 vo g.outs.length (g.outs.flatMap OutM.c)
theorem CircR.step {F F' : Fr} {H H' : Heap} {v : Value} {g : CircM} (h : CircR F H v g) (s : Step F H F' H') : CircR F' H' v g :=
  let ⟨vg, vo, h1, h2, h3⟩ := h.ex; ⟨vg, vo, h1, h2.step s, h3.step s⟩
theorem CircR.noF {F : Fr} {H : Heap} {v : Value} {g : CircM} (h : CircR F H v g) : CircR noF H v g :=
  let ⟨vg, vo, h1, h2, h3⟩ := h.ex; ⟨vg, vo, h1, h2.noF, h3.noF⟩
theorem CircR.more {F F' : Fr} {H : Heap} {v : Value} {g : CircM} (h : CircR F H v g) (hF : ∀ j, F' j → F j ∨ H.next ≤ j) : CircR F' H v g :=
  let ⟨vg, vo, h1, h2, h3⟩ := h.ex; ⟨vg, vo, h1, h2.more hF, h3.more hF⟩

/-- a code's value -/
structure CodeR (F : Fr) (H : Heap) (v : Value) (inn : Int) (ops : List OpM) (outs : List Int) : Prop where
  ex : ∃ vo vu, v = .agg #[.int .i64 inn, vo, vu] ∧ Sl F H 4 vo ops.length (ops.flatMap OpM.c) ∧ Sl F H 1 vu outs.length (outs.flatMap intC)

theorem CodeR.step {F F' : Fr} {H H' : Heap} {v : Value} {inn : Int} {ops : List OpM} {outs : List Int} (h : CodeR F H v inn ops outs) (s : Step F H F' H') : CodeR F' H' v inn ops outs :=
  let ⟨vg, vo, h1, h2, h3⟩ := h.ex; ⟨vg, vo, h1, h2.step s, h3.step s⟩
theorem CodeR.noF {F : Fr} {H : Heap} {v : Value} {inn : Int} {ops : List OpM} {outs : List Int} (h : CodeR F H v inn ops outs) : CodeR noF H v inn ops outs :=
  let ⟨vg, vo, h1, h2, h3⟩ := h.ex; ⟨vg, vo, h1, h2.noF, h3.noF⟩
theorem CodeR.more {F F' : Fr} {H : Heap} {v : Value} {inn : Int} {ops : List OpM} {outs : List Int} (h : CodeR F H v inn ops outs) (hF : ∀ j, F' j → F j ∨ H.next ≤ j) : CodeR F' H v inn ops outs :=
  let ⟨vg, vo, h1, h2, h3⟩ := h.ex; ⟨vg, vo, h1, h2.more hF, h3.more hF⟩

theorem OpM.one (o : OpM) : o.c.all oneCell = true := (rfl)
theorem intC_one (x : Int) : (intC x).all oneCell = true := (rfl)
theorem wordC_one (x : BitVec 32) : (wordC x).all oneCell = true := (rfl)
theorem GateM.one (x : GateM) : x.c.all oneCell = true := (rfl)
theorem OutM.one (x : OutM) : x.c.all oneCell = true := (rfl)

def randoms (ops : List OpM) : Nat := ops.countP fun o => decide (o.K = 0)
theorem randoms_take {ops : List OpM} {i : Nat} {o : OpM} (h : ops[i]? = some o) : randoms (ops.take (i + 1)) = randoms (ops.take i) + (if o.K = 0 then 1 else 0) := by
  unfold randoms
  rw [List.take_add_one, h]
  simp [List.countP_append, List.countP_cons]

set_option maxRecDepth 10000
theorem f16_c {H : Heap} {v : Value} {inn : Int} {ops : List OpM} {outs : List Int} {F : Fr} (hv : CodeR F H v inn ops outs) (hlen : ops.length < 1000000) {Q : Ret → Heap → Prop} (hQ : ∀ H', Ext H H' → Q (.ret (.int .i64 (randoms ops))) H') : C 16 #[v] H Q := by
  obtain ⟨vo, vu, rfl, ho, hu⟩ := hv.noF.ex
  obtain ⟨b, cap, rfl, -, -, hb⟩ := ho.ex
  obtain ⟨b', cap', rfl, -⟩ := hu.ex
  clear hv ho hu
  refine SemC_fn TT.ok fn16 rfl rfl ?_
  simp only [Try.f16, start, KC_normal, go_sem, Nat.reduceEqDiff, Nat.reduceAdd, reduceIte, reduceCtorEq, Nat.reduceLeDiff, Nat.reduceShiftRight, Nat.reduceAnd, Nat.reduceOr, Nat.reducePow, Nat.reduceBNe, Nat.reduceBEq]
  -- the loop
  refine wp_loop TT.ok rfl rfl (fun j s => ∃ tm H' i, s = ⟨tm, 22, [], false, H'⟩ ∧ j = ops.length - i ∧ i ≤ ops.length ∧ Ext H H' ∧ Kp noF H' H.next (.cells true 3 [.int .i64 inn, .slice b ops.length cap, .slice b' outs.length cap']) ∧
    tm.get 1 = some (.pointer (some ⟨H.next, 0, none⟩)) ∧ tm.get 3 = some (.int .i64 (randoms (ops.take i))) ∧ tm.get 4 = some (.int .i64 (i : Nat))) ops.length ?_ ?_
  · refine ⟨_, _, 0, rfl, rfl, Nat.zero_le _, (Ext.refl H).push _, ⟨Nat.lt_succ_self _, noF_not _, H_get_new _ _⟩, ?_, ?_, ?_⟩ <;> simp only [start, KC_normal, go_sem, Nat.reduceEqDiff, Nat.reduceAdd, reduceIte, reduceCtorEq, Nat.reduceLeDiff, Nat.reduceShiftRight, Nat.reduceAnd, Nat.reduceOr, Nat.reducePow, Nat.reduceBNe, Nat.reduceBEq] <;> rfl
  · rintro j s - ⟨tm, H', i, rfl, hj, hi, hE, hbx, h1, h3, h4⟩
    simp only [start, KC_normal, go_sem, Nat.reduceEqDiff, Nat.reduceAdd, reduceIte, reduceCtorEq, Nat.reduceLeDiff, Nat.reduceShiftRight, Nat.reduceAnd, Nat.reduceOr, Nat.reducePow, Nat.reduceBNe, Nat.reduceBEq, h1, h3, h4, hbx.get]
    refine CN_split (fun hlt => ?_) (fun hge => ?_)
    · have hlt' : i < ops.length := by omega
      have hel : ops[i]? = some ops[i] := by simp [hlt']
      obtain ⟨bk, o, own, C, rfl, hk, hC, -⟩ := hb.at OpM.len hel
      have hr := randoms_take hel
      have hcount : randoms (ops.take i) ≤ i := by unfold randoms; exact Nat.le_trans (List.countP_le_length) (by simp; omega)
      have hC0 := hC 0 (by omega)
      simp only [OpM.c, Nat.add_zero, List.getElem?_cons_zero] at hC0
      simp only [start, KC_normal, go_sem, Nat.reduceEqDiff, Nat.reduceAdd, reduceIte, reduceCtorEq, Nat.reduceLeDiff, Nat.reduceShiftRight, Nat.reduceAnd, Nat.reduceOr, Nat.reducePow, Nat.reduceBNe, Nat.reduceBEq, h1, h3, h4, hbx.get, ia_in _ _ _ _ _ hlt', (hk.step hE.step).get, hC0]
      refine CN_split (fun h0 => ?_) (fun h0 => ?_)
      · simp only [start, KC_normal, go_sem, Nat.reduceEqDiff, Nat.reduceAdd, reduceIte, reduceCtorEq, Nat.reduceLeDiff, Nat.reduceShiftRight, Nat.reduceAnd, Nat.reduceOr, Nat.reducePow, Nat.reduceBNe, Nat.reduceBEq, h1, h3, h4]
        refine ⟨ops.length - (i + 1), by omega, _, H', i + 1, rfl, rfl, by omega, hE, hbx, ?_, ?_, ?_⟩ <;> simp only [start, KC_normal, go_sem, Nat.reduceEqDiff, Nat.reduceAdd, reduceIte, reduceCtorEq, Nat.reduceLeDiff, Nat.reduceShiftRight, Nat.reduceAnd, Nat.reduceOr, Nat.reducePow, Nat.reduceBNe, Nat.reduceBEq, h1, h3, h4]
        · rw [hr, if_pos h0, wrap_i64 _ (by omega) (by omega)]; simp
        · rw [wrap_i64 _ (by omega) (by omega)]; simp
      · simp only [start, KC_normal, go_sem, Nat.reduceEqDiff, Nat.reduceAdd, reduceIte, reduceCtorEq, Nat.reduceLeDiff, Nat.reduceShiftRight, Nat.reduceAnd, Nat.reduceOr, Nat.reducePow, Nat.reduceBNe, Nat.reduceBEq, h1, h3, h4]
        refine ⟨ops.length - (i + 1), by omega, _, H', i + 1, rfl, rfl, by omega, hE, hbx, ?_, ?_, ?_⟩ <;> simp only [start, KC_normal, go_sem, Nat.reduceEqDiff, Nat.reduceAdd, reduceIte, reduceCtorEq, Nat.reduceLeDiff, Nat.reduceShiftRight, Nat.reduceAnd, Nat.reduceOr, Nat.reducePow, Nat.reduceBNe, Nat.reduceBEq, h1, h3, h4]
        · rw [hr, if_neg h0]; simp
        · rw [wrap_i64 _ (by omega) (by omega)]; simp
    · have hi' : i = ops.length := by omega
      subst hi'
      rw [List.take_length] at h3
      simp only [start, KC_normal, go_sem, Nat.reduceEqDiff, Nat.reduceAdd, reduceIte, reduceCtorEq, Nat.reduceLeDiff, Nat.reduceShiftRight, Nat.reduceAnd, Nat.reduceOr, Nat.reducePow, Nat.reduceBNe, Nat.reduceBEq, h1, h3, h4, hbx.get]
      exact hQ H' hE
end Go.Ab.Ex
end
section
namespace Go.Ab.Gl
open Go.Ab Go.Ab.Ex
open Go.Proofs
open Go.ChangeShapes Go.WideShapes Go.RowKit

theorem und3 : Try.prog.underlying 3 = some (.int .i64) := by kernel_rfl
theorem und4 : Try.prog.underlying 4 = some .bool := by kernel_rfl
theorem und9 : Try.prog.underlying 9 = some .string := by kernel_rfl
theorem und22 : Try.prog.underlying 22 = some (.slice 60) := by kernel_rfl
theorem und23 : Try.prog.underlying 23 = some (.slice 56) := by kernel_rfl
theorem und25 : Try.prog.underlying 25 = some (.struct (fsOf Try.prog 25)) := by kernel_rfl
theorem und43 : Try.prog.underlying 43 = some (.slice 54) := by kernel_rfl
theorem und44 : Try.prog.underlying 44 = some (.array 4 43) := by kernel_rfl
theorem und54 : Try.prog.underlying 54 = some (.int .u32) := by kernel_rfl
theorem und56 : Try.prog.underlying 56 = some (.struct (fsOf Try.prog 56)) := by kernel_rfl
theorem und60 : Try.prog.underlying 60 = some (.struct (fsOf Try.prog 60)) := by kernel_rfl
theorem co3 : Try.prog.cellsOf 3 = 1 := by kernel_rfl
theorem co4 : Try.prog.cellsOf 4 = 1 := by kernel_rfl
theorem co9 : Try.prog.cellsOf 9 = 1 := by kernel_rfl
theorem co22 : Try.prog.cellsOf 22 = 1 := by kernel_rfl
theorem co23 : Try.prog.cellsOf 23 = 1 := by kernel_rfl
theorem co25 : Try.prog.cellsOf 25 = 4 := by kernel_rfl
theorem co43 : Try.prog.cellsOf 43 = 1 := by kernel_rfl
theorem co44 : Try.prog.cellsOf 44 = 4 := by kernel_rfl
theorem co54 : Try.prog.cellsOf 54 = 1 := by kernel_rfl
theorem co56 : Try.prog.cellsOf 56 = 2 := by kernel_rfl
theorem co60 : Try.prog.cellsOf 60 = 5 := by kernel_rfl
theorem fs60_0 : ((fsOf Try.prog 60)[0]?).map (fun f => (f.type, f.offset)) = some (3, 0) := by kernel_rfl
theorem fs60_1 : ((fsOf Try.prog 60)[1]?).map (fun f => (f.type, f.offset)) = some (3, 1) := by kernel_rfl
theorem fs60_2 : ((fsOf Try.prog 60)[2]?).map (fun f => (f.type, f.offset)) = some (3, 2) := by kernel_rfl
theorem fs60_3 : ((fsOf Try.prog 60)[3]?).map (fun f => (f.type, f.offset)) = some (54, 3) := by kernel_rfl
theorem fs60_4 : ((fsOf Try.prog 60)[4]?).map (fun f => (f.type, f.offset)) = some (4, 4) := by kernel_rfl
theorem fs56_0 : ((fsOf Try.prog 56)[0]?).map (fun f => (f.type, f.offset)) = some (9, 0) := by kernel_rfl
theorem fs56_1 : ((fsOf Try.prog 56)[1]?).map (fun f => (f.type, f.offset)) = some (3, 1) := by kernel_rfl
theorem fs25_0 : ((fsOf Try.prog 25)[0]?).map (fun f => (f.type, f.offset)) = some (22, 0) := by kernel_rfl
theorem fs25_1 : ((fsOf Try.prog 25)[1]?).map (fun f => (f.type, f.offset)) = some (3, 1) := by kernel_rfl
theorem fs25_2 : ((fsOf Try.prog 25)[2]?).map (fun f => (f.type, f.offset)) = some (3, 2) := by kernel_rfl
theorem fs25_3 : ((fsOf Try.prog 25)[3]?).map (fun f => (f.type, f.offset)) = some (23, 3) := by kernel_rfl

set_option maxRecDepth 100000
theorem list5 {α : Type} {l : List α} (h : l.length = 5) : ∃ a b c d e, l = [a, b, c, d, e] := by
  match l, h with
  | [a, b, c, d, e], _ => exact ⟨a, b, c, d, e, rfl⟩
theorem list2 {α : Type} {l : List α} (h : l.length = 2) : ∃ a b, l = [a, b] := by
  match l, h with
  | [a, b], _ => exact ⟨a, b, rfl⟩
theorem list4 {α : Type} {l : List α} (h : l.length = 4) : ∃ a b c d, l = [a, b, c, d] := by
  match l, h with
  | [a, b, c, d], _ => exact ⟨a, b, c, d, rfl⟩

theorem u32_of {n : Int} (h : (Lit.int .u32 n).wf = true) : ∃ x : BitVec 32, n = x.toNat := by
  simp [Lit.wf, IntKind.min, IntKind.max, IntKind.signed, IntKind.bits] at h
  refine ⟨BitVec.ofNat 32 n.toNat, ?_⟩
  rw [BitVec.toNat_ofNat, Nat.mod_eq_of_lt (by omega)]
  omega

instance : Inhabited GateM := ⟨⟨0, 0, 0, 0, false⟩⟩
instance : Inhabited OutM := ⟨⟨.empty, 0⟩⟩

section
variable {H : Type} {enc : TypeId × Value → H} {W : World}

theorem gate_in (n : Nat) (cs : List Value) (y : DataW H × List MemPlace) (h : DataW.trod enc Try.prog W 0 (fun _ => true) true n 60 cs = some y) : ∃ x : GateM, cs = x.c := by
  obtain ⟨xs, m, -, -, hl, -, -⟩ := DataW.trod_struct und60 h
  obtain ⟨a, b, c, d, e, rfl⟩ := list5 (hl.trans co60)
  obtain ⟨_, _, h0⟩ := field_in und60 h fs60_0 co3 rfl
  obtain ⟨_, _, h1⟩ := field_in und60 h fs60_1 co3 rfl
  obtain ⟨_, _, h2⟩ := field_in und60 h fs60_2 co3 rfl
  obtain ⟨_, _, h3⟩ := field_in und60 h fs60_3 co54 rfl
  obtain ⟨_, _, h4⟩ := field_in und60 h fs60_4 co4 rfl
  obtain ⟨K, rfl, -⟩ := int_in und3 h0
  obtain ⟨A, rfl, -⟩ := int_in und3 h1
  obtain ⟨B, rfl, -⟩ := int_in und3 h2
  obtain ⟨N, rfl, hw⟩ := int_in und54 h3
  obtain ⟨x, rfl⟩ := u32_of hw
  obtain ⟨S, rfl⟩ := bool_in und4 h4
  exact ⟨⟨K, A, B, x, S⟩, rfl⟩
theorem out_in (n : Nat) (cs : List Value) (y : DataW H × List MemPlace) (h : DataW.trod enc Try.prog W 0 (fun _ => true) true n 56 cs = some y) : ∃ x : OutM, cs = x.c := by
  obtain ⟨xs, m, -, -, hl, -, -⟩ := DataW.trod_struct und56 h
  obtain ⟨a, b, rfl⟩ := list2 (hl.trans co56)
  obtain ⟨_, _, h0⟩ := field_in und56 h fs56_0 co9 rfl
  obtain ⟨_, _, h1⟩ := field_in und56 h fs56_1 co3 rfl
  obtain ⟨s, rfl⟩ := string_in und9 h0
  obtain ⟨A, rfl, -⟩ := int_in und3 h1
  exact ⟨⟨s, A⟩, rfl⟩
theorem word_in (n : Nat) (cs : List Value) (y : DataW H × List MemPlace) (h : DataW.trod enc Try.prog W 0 (fun _ => true) true n 54 cs = some y) : ∃ x : BitVec 32, cs = wordC x := by
  obtain ⟨v, hcs, hw⟩ := DataW.trod_int und54 h
  obtain ⟨x, rfl⟩ := u32_of hw.2
  exact ⟨x, by simpa [wordC] using hcs⟩

theorem circ_in {r : Reach} {base : Nat} {v' : Value} {d : DataW H} {p : List MemPlace} (hv : Value.okWide Try.prog W r base 25 v') (h : DataW.Trod enc Try.prog W 0 (fun _ => true) true 25 v' d p) :
    ∃ (g : CircM) (p1 p2 : AObj × Tgt), InOk W p1 ∧ InOk W p2 ∧ ∀ b1 b2, ∃ v, (∀ μ, μ b1 = some p1.2 → μ b2 = some p2.2 → VRel μ v v') ∧
      ∀ (F : Fr) (H : Heap), b1 < H.next → ¬ F b1 → H.get b1 = p1.1 → b2 < H.next → ¬ F b2 → H.get b2 = p2.1 → CircR F H v g := by
  obtain ⟨cs, rfl, hsz⟩ := okWide_struct und25 hv
  obtain ⟨fuel, hf⟩ := h
  obtain ⟨cs⟩ := cs
  obtain ⟨a, b, c, e, rfl⟩ := list4 (hsz.trans co25)
  have hf' : DataW.trod enc Try.prog W 0 (fun _ => true) true fuel 25 [a, b, c, e] = some (d, p) := hf
  obtain ⟨_, _, h0⟩ := field_in und25 hf' fs25_0 co22 rfl
  obtain ⟨_, _, h1⟩ := field_in und25 hf' fs25_1 co3 rfl
  obtain ⟨_, _, h2⟩ := field_in und25 hf' fs25_2 co3 rfl
  obtain ⟨_, _, h3⟩ := field_in und25 hf' fs25_3 co23 rfl
  obtain ⟨S, rfl, -⟩ := int_in und3 h1
  obtain ⟨U, rfl, -⟩ := int_in und3 h2
  obtain ⟨lg, p1, i1, k1⟩ := slice_in GateM.len (fun x => rfl) (by omega) und22 co60 gate_in h0
  obtain ⟨lo, p2, i2, k2⟩ := slice_in OutM.len (fun x => rfl) (by omega) und23 co56 out_in h3
  refine ⟨⟨lg, S, U, lo⟩, p1, p2, i1, i2, fun b1 b2 => ?_⟩
  obtain ⟨v1, r1, s1⟩ := k1 b1
  obtain ⟨v2, r2, s2⟩ := k2 b2
  exact ⟨.agg #[v1, .int .i64 S, .int .i64 U, v2], fun μ m1 m2 => .agg _ _ (.cons _ _ _ _ (r1 μ m1) (.cons _ _ _ _ (.int _ _) (.cons _ _ _ _ (.int _ _) (.cons _ _ _ _ (r2 μ m2) .nil)))),
    fun F H b1 f1 g1 b2 f2 g2 => ⟨v1, v2, rfl, s1 F H b1 f1 g1, s2 F H b2 f2 g2⟩⟩
end

theorem own_ : ownKnob Try.prog.godebug = none := by kernel_rfl
theorem laid_ : laidOutB Try.prog = true := by kernel_rfl

/-- A law of a circuit and a number. -/
theorem circ_law {H : Type} {enc : TypeId × Value → H} {W : World} {f : FuncId} {fn : Func} {s : ChangeSpec} {fresh handsOn again : Bool} {base : Nat} {args : Array Value} {ds gs : List (DataW H)} {before : List MemPlace}
    (law : ∀ {F : Fr} {H : Heap} {v : Value} {g : CircM} {d : Int}, CircR F H v g → ∀ {Q : Ret → Heap → Prop}, (∀ H', Ext H H' → Q (.ret (.bool true)) H') → C f #[v, .int .i64 d] H Q)
    (hpar : fn.params = #[25, 3]) (hres : fn.resultTypes = #[4]) (hv : s.vars = []) (hs : ∀ x y : DataW H, s.fn H [x, y] = { results := [.lit (.bool true)], args := [x, y] })
    (hval : ∀ (j : Nat) t v, fn.params[j]? = some t → args[j]? = some v → Value.okWide Try.prog W .any base t v) (hW : DataW.Whole enc Try.prog fn.params.toList s.vars false W args.toList ds gs before) :
    Calls Try.prog f args W fun e W' => ∃ v, e = .returned v ∧ s.post enc Try.prog fn false fresh handsOn again W args v W' := by
  have hW0 := hW
  obtain ⟨p, q, hA, hV, rfl, -, -⟩ := hW
  rw [hv] at hV
  obtain ⟨rfl, rfl⟩ := trodVars_none hV
  rw [hpar] at hA hval
  obtain ⟨v0, v1, d0, d1, q0, q1, rfl, rfl, rfl, h0, h1⟩ := trodAll_two hA
  obtain ⟨g, p1, p2, i1, i2, k⟩ := circ_in (hval 0 25 v0 rfl rfl) h0
  obtain ⟨n, rfl, -⟩ := open_int und3 (hval 1 3 v1 rfl rfl) h1
  obtain ⟨v, hr, hc⟩ := k 0 1
  have hin : ∀ x ∈ [p1, p2], InOk W x := fun x hx => by
    simp only [List.mem_cons, List.not_mem_nil, or_false] at hx
    rcases hx with rfl | rfl <;> assumption
  have hcr : CircR noF (hp [p1, p2]) v g := hc _ _ (by rw [hp_next]; simp) (noF_not _) (hp_some rfl) (by rw [hp_next]; simp) (noF_not _) (hp_some rfl)
  refine (calls_law (args := #[v, .int .i64 n]) (law hcr fun _ _ => rfl) hin (.cons _ _ _ _ (hr _ rfl rfl) (.cons _ _ _ _ (.int _ _) .nil))).mono fun e W' ⟨he, hB⟩ => ⟨_, he, ?_⟩
  exact post_law hv hres und4 laid_ (by rw [hpar]; decide +kernel) hW0 (by rw [List.append_nil, hs]) (by rw [List.append_nil, hs]) (by rw [List.append_nil, hs]) hB
end Go.Ab.Gl
end
section
namespace Go.Ab.Gl
open Go.Ab Go.Ab.Ex
open Go.Proofs
open Go.ChangeShapes Go.WideShapes Go.RowKit
open Go.Proofs.Ytmodeilippcbnaa
set_option maxRecDepth 100000

theorem wrap_ (fn : Func) (h : Check.packageOf fn.name ≠ "main") : fn.isWrapper Try.prog false "" := by
  unfold Func.isWrapper
  rw [if_neg h]
  exact ⟨rfl, rfl⟩

theorem expands_of (law : ∀ {F : Fr} {H : Heap} {v : Value} {g : CircM} {d : Int}, CircR F H v g → ∀ {Q : Ret → Heap → Prop}, (∀ H', Ext H H' → Q (.ret (.bool true)) H') → C 3 #[v, .int .i64 d] H Q) : Rows.WireExpandsSaid :=
  OpenClaim.holds_of_wide 3 Try.f3 rfl rfl rfl rfl rfl rfl rfl ⟨rfl, rfl, rfl, rfl, rfl⟩ rfl rfl rfl rfl rfl (by kernel_rfl) fn3 (by kernel_rfl)
    (of_decide_eq_true (by kernel_rfl)) (wrap_ Try.f3 (by decide +kernel))
    (fun os started H enc _ => returnsInHanded_of_change (C := Try.checked) (s := Rows.wireExpandsSpec) (conds := []) (apart := false) own_ started (by kernel_rfl) fn3
      (ChangeSpec.witness6 (enc := enc) (C := Try.checked) false ⟨#[], #[.agg #[.slice none 0 0, .int .i64 0, .int .i64 0, .slice none 0 0], .int .i64 0], []⟩ 8 (by kernel_rfl) (by kernel_rfl) (by kernel_rfl) (by kernel_rfl))
      (fun _ _ _ _ _ _ hval hW _ _ => circ_law law rfl rfl rfl (fun _ _ => rfl) hval hW))
end Go.Ab.Gl
end
section
namespace Go.Ab

section
variable {T : Tab} {t e : TypeId} {de : TypeDesc} {sz by_ : Nat} {z : Value} {ag : Bool} {fl : List (Nat × Nat)} {a1 a2 : Nat} {a3 : Option Value} {a4 : Bool} {a5 : List (Nat × Nat)}

/-- one element more -/
theorem app1 (h0 : T.ty t = some ⟨.slice e, a1, a2, a3, a4, a5⟩) (he : T.ty e = some ⟨de, sz, by_, some z, ag, fl⟩) (hz : z.cells.toList.length = sz) (hby : by_ ≤ 1000)
    {α : Type} {f : α → List Value} (hf : ∀ x, (f x).length = sz) (h1 : ∀ x, (f x).all oneCell = true) {H : Heap} {v : Value} {l : List α} {b : Option Nat} (ho : Own1 H sz (l.flatMap f) v l.length b) (hl : l.length < 1000000) (x : α) :
    ∃ v' H' b', appendC T (H.push (.cells true sz (f x))) #[t, t] v (.slice (some ⟨H.next, 0, none⟩) 1 1) = some (.val v' H') ∧ Own1 H' sz ((l ++ [x]).flatMap f) v' (l ++ [x]).length b' ∧ (∀ F : Fr, Step (F.un b) H (F.un b') H') ∧ (∀ j, b' = some j → H.next ≤ j) := by
  have hE : Ext H (H.push (.cells true sz (f x))) := (Ext.refl H).push _
  have hnew := Own1.fresh H sz (f x) 1 (by rw [hf, Nat.one_mul])
  have hb : (l.length + 1) * by_ ≤ 140737488355328 := Nat.le_trans (Nat.mul_le_mul (show l.length + 1 ≤ 1000001 by omega) hby) (by omega)
  obtain ⟨v', H', b', k1, k2, k3, k4, k5, k6⟩ := append_s h0 h0 he hz (ho.ext hE) (hnew.sl (F := noF) fun _ _ h => h) (h1 x) hb (by omega)
  refine ⟨v', H', b', k1, by simpa using k2, fun F => (hE.step (F := F.un b)).trans (k3 F), fun j hj => ?_⟩
  have := k5 (by omega)
  rw [this] at hj
  cases hj
  exact hE.le

/-- so many elements more -/
theorem appN (h0 : T.ty t = some ⟨.slice e, a1, a2, a3, a4, a5⟩) (he : T.ty e = some ⟨de, sz, by_, some z, ag, fl⟩) (hz : z.cells.toList.length = sz) (hby : by_ ≤ 1000)
    {α : Type} {f : α → List Value} (h1 : ∀ x, (f x).all oneCell = true) {F0 : Fr} {H : Heap} {v x : Value} {l m : List α} {b : Option Nat} (ho : Own1 H sz (l.flatMap f) v l.length b) (hx : Sl F0 H sz x m.length (m.flatMap f)) (hl : l.length + m.length < 1000000) :
    ∃ v' H' b', appendC T H #[t, t] v x = some (.val v' H') ∧ Own1 H' sz ((l ++ m).flatMap f) v' (l ++ m).length b' ∧ (∀ F : Fr, Step (F.un b) H (F.un b') H') ∧ (∀ j, b' = some j → b = some j ∨ H.next ≤ j) := by
  have hb : (l.length + m.length) * by_ ≤ 140737488355328 := Nat.le_trans (Nat.mul_le_mul (show l.length + m.length ≤ 1000001 by omega) hby) (by omega)
  obtain ⟨v', H', b', k1, k2, k3, k4, k5, k6⟩ := append_s h0 h0 he hz ho hx (one_all h1 m) hb (by omega)
  refine ⟨v', H', b', k1, by simpa using k2, k3, fun j hj => ?_⟩
  rcases k4 j hj with h | h
  · exact .inl h
  · exact .inr (by omega)
end

end Go.Ab
end
section
namespace Go.Ab

section
variable {F F' G : Fr} {H H' H'' : Heap} {b b' : Option Nat} {a c : AObj} {sz n : Nat} {v : Value} {l : List Value}

/-- a new block -/
theorem new_push (hX : H.push c = H') : Ext H H' ∧ H'.get H.next = c ∧ H'.next = H.next + 1 := by
  subst hX; exact ⟨(Ext.refl H).push c, H_get_new H c, rfl⟩
/-- a new block, and what is put there -/
theorem new_put (hX : (H.push a).put H.next c = H') : Ext H H' ∧ H'.get H.next = c ∧ H'.next = H.next + 1 := by
  subst hX; exact ⟨((Ext.refl H).push a).put (Nat.le_refl _) c, H_put_same _ _ _, rfl⟩
theorem Kp.mk' (hB : Bd F H) (hE : Ext H H') {j : Nat} (hj : H.next ≤ j) (hlt : j < H'.next) (hg : H'.get j = c) : Kp F H' j c := ⟨hlt, fun hf => by have := hB.lt j hf; omega, hg⟩
theorem Own1.new (hX : H.push (.cells true sz l) = H') (h : l.length = n * sz) : Own1 H' sz l (.slice (some ⟨H.next, 0, none⟩) n n) n (some H.next) := by
  subst hX; exact Own1.fresh H sz l n h

theorem Ext.app {Hs : Heap} (hE : Ext Hs H) (hS : ∀ F : Fr, Step (F.un b) H (F.un b') H') (hb : ∀ j, b = some j → Hs.next ≤ j) : Ext Hs H' :=
  ((hE.step (F := noF.un b)).trans (hS Go.Ab.noF)).toExt fun j hf => by rcases hf with h | h; exact h.elim; exact hb j h
theorem Step.app (h : Step F H F' H') (hS : ∀ G : Fr, Step (G.un b) H' (G.un b') H'') (hb : ∀ j, b = some j → H.next ≤ j) : Step F H F' H'' :=
  ⟨Nat.le_trans h.le (hS Go.Ab.noF).le, fun j hj hn => by
    rw [(hS Go.Ab.noF).get j (Nat.lt_of_lt_of_le hj h.le) (fun hf => by rcases hf with h1 | h1; exact h1; have := hb j h1; omega)]; exact h.get j hj hn, h.new⟩
theorem Own1.out (h : Own1 H sz l v n b) (s : Step F H F' H') (hn : ∀ j, b = some j → ¬ F j) : ∀ j, b = some j → ¬ F' j := fun j hj hf => by
  rcases s.new j hf with h1 | h1
  · exact hn j hj h1
  · have := h.lt hj; omega
theorem Ext.nextle (h : Ext H H') {k : Nat} (hk : k ≤ H.next) : k ≤ H'.next := Nat.le_trans hk h.le
/-- what is new is outside -/
theorem out_new (hB : Bd F H) (hb : ∀ j, b = some j → H.next ≤ j) : ∀ j, b = some j → ¬ F j := fun j hj hf => by
  have := hB.lt j hf; have := hb j hj; omega
theorem Sl.un (h : Sl F H sz v n l) (hb : ∀ j, b = some j → H.next ≤ j) : Sl (F.un b) H sz v n l := h.more fun j hf => by
  rcases hf with h1 | h1
  · exact .inl h1
  · exact .inr (hb j h1)
theorem Kp.un {j : Nat} {X : AObj} (h : Kp F H j X) (hb : ∀ k, b = some k → k ≠ j) : Kp (F.un b) H j X := ⟨h.lt, fun hf => by
  rcases hf with h1 | h1
  · exact h.out h1
  · exact hb j h1 rfl, h.get⟩
theorem Kp.left {j : Nat} {X : AObj} (h : Kp (F.un b) H j X) : Kp F H j X := h.sub fun _ h => .inl h
theorem Sl.left (h : Sl (F.un b) H sz v n l) : Sl F H sz v n l := h.sub fun _ h => .inl h
theorem SlA.left {cap : Nat} {x : Option Addr} (h : SlA (F.un b) H sz n cap l x) : SlA F H sz n cap l x := h.sub fun _ h => .inl h
theorem Sl.mkA {cap : Nat} {x : Option Addr} (h : SlA F H sz n cap l x) (h1 : n ≤ cap) (h2 : l.length = n * sz) : Sl F H sz (.slice x n cap) n l := ⟨x, cap, rfl, h1, h2, h⟩
theorem SlA.un {cap : Nat} {x : Option Addr} (h : SlA F H sz n cap l x) (hb : ∀ j, b = some j → H.next ≤ j) : SlA (F.un b) H sz n cap l x := h.more fun j hf => by
  rcases hf with h1 | h1
  · exact .inl h1
  · exact .inr (hb j h1)
end
end Go.Ab
end
section
namespace Go.Ab
theorem al_some (de : TypeDesc) (s by_ : Nat) (z : Value) (ag : Bool) (f : List (Nat × Nat)) : alO (some ⟨de, s, by_, some z, ag, f⟩) = if z.cells.toList.all oneCell = true then some (.cells true s z.cells.toList, fun b => .pointer (some ⟨b, 0, none⟩)) else none := (rfl)
/-- of whole numbers, made other ones -/
def cvO2 (a b : Option TInfo) (v : Value) (dflt : Option Value) : Option Value := match a, b, v with
  | some ⟨.int _, _, _, _, _, _⟩, some ⟨.int k, _, _, _, _, _⟩, .int _ n => some (.int k (k.wrap n))
  | _, _, _ => dflt
def areadN (P : Program) (T : Tab) (ρ : Operand → Value) (o : Oper) (H : Heap) : Option Value := aread P T ρ o H
theorem r_conv (P : Program) (T : Tab) (ρ : Operand → Value) (H : Heap) (d : Option Tmp) (ty : TypeId) (ps : String) (af : Array Edge) (gd : Option (Nat × Bool)) (s t : TypeId) (x : Operand) :
    aread P T ρ ⟨d, .convert s t x, ty, ps, af, gd⟩ H = cvO2 (T.ty s) (T.ty t) (ρ x) (areadN P T ρ ⟨d, .convert s t x, ty, ps, af, gd⟩ H) := by
  unfold cvO2 areadN
  split
  · rename_i h1 h2 h3
    exact r_convert P T ρ H d ty ps af gd s t x _ _ _ _ _ _ _ _ _ _ _ _ _ _ h1 h2 h3
  · rfl
theorem cv_int (j k : IntKind) (a b a' b' : Nat) (z z' : Option Value) (c c' : Bool) (l l' : List (Nat × Nat)) (i : IntKind) (n : Int) (dflt : Option Value) : cvO2 (some ⟨.int j, a, b, z, c, l⟩) (some ⟨.int k, a', b', z', c', l'⟩) (.int i n) dflt = some (.int k (k.wrap n)) := (rfl)
def notO2 (v : Value) (dflt : Option Value) : Option Value := match v with
  | .bool b => some (.bool (!b))
  | _ => dflt
theorem r_not2 (P : Program) (T : Tab) (ρ : Operand → Value) (H : Heap) (d : Option Tmp) (ty : TypeId) (ps : String) (af : Array Edge) (gd : Option (Nat × Bool)) (t : TypeId) (x : Operand) :
    aread P T ρ ⟨d, .unOp .not t x, ty, ps, af, gd⟩ H = notO2 (ρ x) (areadN P T ρ ⟨d, .unOp .not t x, ty, ps, af, gd⟩ H) := by
  unfold notO2 areadN
  split
  · rename_i h
    exact r_not P T ρ H d ty ps af gd t x _ h
  · rfl
theorem not_bool (b : Bool) (dflt : Option Value) : notO2 (.bool b) dflt = some (.bool (!b)) := (rfl)
attribute [irreducible] cvO2 areadN notO2
attribute [go_sem] r_not2 not_bool
theorem gBool_undef (b : Bool) : gBool undef b = false := (rfl)
attribute [go_sem] al_some r_conv cv_int gBool_undef

section
variable {F F' : Fr} {H H' : Heap} {sz n cap : Nat} {c : List Value} {v : Value} {a : Option Addr}
/-- the block, and all elements -/
theorem SlA.all {α : Type} {f : α → List Value} {l : List α} (h : SlA F H sz l.length cap (l.flatMap f) a) (hf : ∀ x, (f x).length = sz) (hp : 0 < l.length) :
    ∃ b o own C, a = some ⟨b, o, none⟩ ∧ Kp F H b (.cells own sz C) ∧ ∀ (i : Nat) (x : α), l[i]? = some x → (∀ k, k < sz → C[o + i * sz + k]? = (f x)[k]?) ∧ seg C (o + i * sz) sz = some (f x) := by
  obtain ⟨b, o, own, C, rfl, hk, -, -⟩ := h.at hf (i := 0) (x := l[0]) (by simp)
  refine ⟨b, o, own, C, rfl, hk, fun i x hx => ?_⟩
  obtain ⟨b', o', own', C', e, hk', h1, h2⟩ := h.at hf hx
  cases e
  have := hk.get.symm.trans hk'.get
  cases this
  exact ⟨h1, h2⟩
end
end Go.Ab
end
section
namespace Go.Ab
def kl1 (x : Option Value) (k : Value → Prop) : Prop := match x with
  | some v => k v
  | none => False
theorem kl1_some (v : Value) (k : Value → Prop) : kl1 (some v) k = k v := (rfl)
section
variable (P : Program) (T : Tab) (ng : Nat) (tm : Tr Value) (Q : Ret → Heap → Prop) (H : Heap)
theorem res_cell (a t : Nat) (rs : List ResultVar) : resultsC T tm H (.cell a t :: rs) = (loadO H (T.ty t) (evalT tm (.tmp a))).bind fun v => (resultsC T tm H rs).map fun l => v :: l := by
  simp only [resultsC]
  unfold loadO
  split
  · rename_i b o i h1 h2
    rw [h1, h2]
    simp only
    cases loadC H i b o with
    | none => rfl
    | some v => cases resultsC T tm H rs <;> rfl
  · rename_i h
    split
    · rename_i b o i h1 h2
      exact (h b o i h1 h2).elim
    · rfl
theorem KL_cell1 (a t : Nat) : KL P T ng [.cell a t] tm Q [] H = kl1 (loadO H (T.ty t) (evalT tm (.tmp a))) (fun v => Q (.ret v) H) := by
  rw [KL_nil, res_cell, res_nil]
  unfold kl1
  cases loadO H (T.ty t) (evalT tm (.tmp a)) <;> simp [retOf]
theorem KL_ct (a t b : Nat) : KL P T ng [.cell a t, .tmp b] tm Q [] H = kl1 (loadO H (T.ty t) (evalT tm (.tmp a))) (fun v => Q (.ret (.tuple #[v, evalT tm (.tmp b)])) H) := by
  rw [KL_nil, res_cell, res_tmp, res_nil]
  unfold kl1
  cases loadO H (T.ty t) (evalT tm (.tmp a)) <;> simp [retOf]
theorem KL_tt (a b : Nat) : KL P T ng [.tmp a, .tmp b] tm Q [] H = Q (.ret (.tuple #[evalT tm (.tmp a), evalT tm (.tmp b)])) H := by
  rw [KL_nil, res_tmp, res_tmp, res_nil]; simp [retOf]
theorem KL_ttt (a b c : Nat) : KL P T ng [.tmp a, .tmp b, .tmp c] tm Q [] H = Q (.ret (.tuple #[evalT tm (.tmp a), evalT tm (.tmp b), evalT tm (.tmp c)])) H := by
  rw [KL_nil, res_tmp, res_tmp, res_tmp, res_nil]; simp [retOf]
theorem KL_no (T : Tab) : KL P T ng [] tm Q [] H = Q (.ret (.tuple #[])) H := by
  rw [KL_nil, res_nil]; simp [retOf]
end
theorem seg2_0 (a b : Value) : seg [a, b] 0 2 = some [a, b] := (rfl)
theorem seg3_0 (a b c : Value) : seg [a, b, c] 0 3 = some [a, b, c] := (rfl)
theorem seg4_0 (a b c d : Value) : seg [a, b, c, d] 0 4 = some [a, b, c, d] := (rfl)
theorem seg5_0 (a b c d e : Value) : seg [a, b, c, d, e] 0 5 = some [a, b, c, d, e] := (rfl)
attribute [irreducible] kl1
attribute [go_sem] seg2_0 seg3_0 seg4_0 seg5_0
attribute [go_sem] kl1_some KL_cell1 KL_ct KL_tt KL_ttt KL_no
theorem Own1.pos {H : Heap} {sz n : Nat} {c : List Value} {v : Value} {b : Option Nat} (h : Own1 H sz c v n b) (hn : n ≠ 0) : ∃ k, b = some k := by
  cases h with
  | nil h => exact absurd rfl hn
  | blk k n h1 h2 h3 => exact ⟨k, rfl⟩
theorem RWn_true {P : Program} {T : Tab} {ng : Nat} {ops : Array Oper} {k : Exit → St → Prop} {o : Oper} {rest : List Oper} {st : St} : RWn P T ng ops k o rest st true = RW P T ng ops k o rest st false := by unfold RWn; rfl
theorem RWn_false {P : Program} {T : Tab} {ng : Nat} {ops : Array Oper} {k : Exit → St → Prop} {o : Oper} {rest : List Oper} {st : St} : RWn P T ng ops k o rest st false = RW P T ng ops k o rest st true := by unfold RWn; rfl
attribute [go_sem] RWn_true RWn_false
/-- one cell of it -/
theorem Own1.set {H : Heap} {sz n k : Nat} {c c' : List Value} {v : Value} {b : Option Nat} (h : Own1 H sz c v n b) (hb : b = some k) (hl : c'.length = c.length) : Own1 (H.put k (.cells true sz c')) sz c' v n b := by
  cases h with
  | nil h => cases hb
  | blk k' n h1 h2 h3 => cases hb; exact .blk k n h1 (H_put_same _ _ _) (by omega)
end Go.Ab
end
section
namespace Go.Ab.Ex
open Go.Proofs
set_option maxRecDepth 10000

def takesO (k : Int) : Int := if k = 1 ∨ k = 2 then 2 else if 3 ≤ k ∧ k ≤ 6 ∨ k = 8 then 1 else 0
theorem f32_c {H : Heap} {k : Int} {Q : Ret → Heap → Prop} (hQ : ∀ r, r = takesO k → Q (.ret (.int .i64 r)) H) : C 32 #[.int .i64 k] H Q := by
  refine SemC_fn TT.ok fn32 rfl rfl ?_
  simp only [Try.f32, start, KC_normal, go_sem, Nat.reduceEqDiff, Nat.reduceAdd, reduceIte, reduceCtorEq, Nat.reduceLeDiff, Nat.reduceShiftRight, Nat.reduceAnd, Nat.reduceOr, Nat.reducePow, Nat.reduceBNe, Nat.reduceBEq]
  repeat' (first | (refine CN_b (fun h => ?_) (fun h => ?_) <;> simp only [h, start, KC_normal, go_sem, Nat.reduceEqDiff, Nat.reduceAdd, reduceIte, reduceCtorEq, Nat.reduceLeDiff, Nat.reduceShiftRight, Nat.reduceAnd, Nat.reduceOr, Nat.reducePow, Nat.reduceBNe, Nat.reduceBEq]) | (refine RWn_b (fun h => ?_) (fun h => ?_) <;> simp only [h, start, KC_normal, go_sem, Nat.reduceEqDiff, Nat.reduceAdd, reduceIte, reduceCtorEq, Nat.reduceLeDiff, Nat.reduceShiftRight, Nat.reduceAnd, Nat.reduceOr, Nat.reducePow, Nat.reduceBNe, Nat.reduceBEq]) | (refine RW_b (fun h => ?_) (fun h => ?_) <;> simp only [h, start, KC_normal, go_sem, Nat.reduceEqDiff, Nat.reduceAdd, reduceIte, reduceCtorEq, Nat.reduceLeDiff, Nat.reduceShiftRight, Nat.reduceAnd, Nat.reduceOr, Nat.reducePow, Nat.reduceBNe, Nat.reduceBEq]))
  all_goals (refine hQ _ ?_; simp only [decide_eq_true_eq, decide_eq_false_iff_not] at *; unfold takesO; repeat' split)
  all_goals omega

def takesG (k : Int) : Int := if k = 3 ∨ k = 4 ∨ 9 ≤ k ∧ k ≤ 11 then 2 else if 5 ≤ k ∧ k ≤ 8 then 1 else 0
theorem f67_c {H : Heap} {k : Int} {Q : Ret → Heap → Prop} (hQ : ∀ r, r = takesG k → Q (.ret (.int .i64 r)) H) : C 67 #[.int .i64 k] H Q := by
  refine SemC_fn TT.ok fn67 rfl rfl ?_
  simp only [Try.f67, start, KC_normal, go_sem, Nat.reduceEqDiff, Nat.reduceAdd, reduceIte, reduceCtorEq, Nat.reduceLeDiff, Nat.reduceShiftRight, Nat.reduceAnd, Nat.reduceOr, Nat.reducePow, Nat.reduceBNe, Nat.reduceBEq]
  repeat' (first | (refine CN_b (fun h => ?_) (fun h => ?_) <;> simp only [h, start, KC_normal, go_sem, Nat.reduceEqDiff, Nat.reduceAdd, reduceIte, reduceCtorEq, Nat.reduceLeDiff, Nat.reduceShiftRight, Nat.reduceAnd, Nat.reduceOr, Nat.reducePow, Nat.reduceBNe, Nat.reduceBEq]) | (refine RWn_b (fun h => ?_) (fun h => ?_) <;> simp only [h, start, KC_normal, go_sem, Nat.reduceEqDiff, Nat.reduceAdd, reduceIte, reduceCtorEq, Nat.reduceLeDiff, Nat.reduceShiftRight, Nat.reduceAnd, Nat.reduceOr, Nat.reducePow, Nat.reduceBNe, Nat.reduceBEq]) | (refine RW_b (fun h => ?_) (fun h => ?_) <;> simp only [h, start, KC_normal, go_sem, Nat.reduceEqDiff, Nat.reduceAdd, reduceIte, reduceCtorEq, Nat.reduceLeDiff, Nat.reduceShiftRight, Nat.reduceAnd, Nat.reduceOr, Nat.reducePow, Nat.reduceBNe, Nat.reduceBEq]))
  all_goals (refine hQ _ ?_; simp only [decide_eq_true_eq, decide_eq_false_iff_not] at *; unfold takesG; repeat' split)
  all_goals omega
theorem f87_c {H : Heap} {k : Int} {Q : Ret → Heap → Prop} (hQ : ∀ r, r = takesG k → Q (.ret (.int .i64 r)) H) : C 87 #[.int .i64 k] H Q := by
  refine SemC_fn TT.ok fn87 rfl rfl ?_
  simp only [Try.f87, start, KC_normal, go_sem, Nat.reduceEqDiff, Nat.reduceAdd, reduceIte, reduceCtorEq, Nat.reduceLeDiff, Nat.reduceShiftRight, Nat.reduceAnd, Nat.reduceOr, Nat.reducePow, Nat.reduceBNe, Nat.reduceBEq]
  repeat' (first | (refine CN_b (fun h => ?_) (fun h => ?_) <;> simp only [h, start, KC_normal, go_sem, Nat.reduceEqDiff, Nat.reduceAdd, reduceIte, reduceCtorEq, Nat.reduceLeDiff, Nat.reduceShiftRight, Nat.reduceAnd, Nat.reduceOr, Nat.reducePow, Nat.reduceBNe, Nat.reduceBEq]) | (refine RWn_b (fun h => ?_) (fun h => ?_) <;> simp only [h, start, KC_normal, go_sem, Nat.reduceEqDiff, Nat.reduceAdd, reduceIte, reduceCtorEq, Nat.reduceLeDiff, Nat.reduceShiftRight, Nat.reduceAnd, Nat.reduceOr, Nat.reducePow, Nat.reduceBNe, Nat.reduceBEq]) | (refine RW_b (fun h => ?_) (fun h => ?_) <;> simp only [h, start, KC_normal, go_sem, Nat.reduceEqDiff, Nat.reduceAdd, reduceIte, reduceCtorEq, Nat.reduceLeDiff, Nat.reduceShiftRight, Nat.reduceAnd, Nat.reduceOr, Nat.reducePow, Nat.reduceBNe, Nat.reduceBEq]))
  all_goals (refine hQ _ ?_; simp only [decide_eq_true_eq, decide_eq_false_iff_not] at *; unfold takesG; repeat' split)
  all_goals omega

def takesR (k : Int) : Int := if k = 12 then 1 else takesG k
theorem f49_c {H : Heap} {k : Int} {Q : Ret → Heap → Prop} (hQ : ∀ r, r = takesR k → Q (.ret (.int .i64 r)) H) : C 49 #[.int .i64 k] H Q := by
  refine SemC_fn TT.ok fn49 rfl rfl ?_
  simp only [Try.f49, start, KC_normal, go_sem, Nat.reduceEqDiff, Nat.reduceAdd, reduceIte, reduceCtorEq, Nat.reduceLeDiff, Nat.reduceShiftRight, Nat.reduceAnd, Nat.reduceOr, Nat.reducePow, Nat.reduceBNe, Nat.reduceBEq]
  repeat' (first | (refine CN_b (fun h => ?_) (fun h => ?_) <;> simp only [h, start, KC_normal, go_sem, Nat.reduceEqDiff, Nat.reduceAdd, reduceIte, reduceCtorEq, Nat.reduceLeDiff, Nat.reduceShiftRight, Nat.reduceAnd, Nat.reduceOr, Nat.reducePow, Nat.reduceBNe, Nat.reduceBEq]) | (refine RWn_b (fun h => ?_) (fun h => ?_) <;> simp only [h, start, KC_normal, go_sem, Nat.reduceEqDiff, Nat.reduceAdd, reduceIte, reduceCtorEq, Nat.reduceLeDiff, Nat.reduceShiftRight, Nat.reduceAnd, Nat.reduceOr, Nat.reducePow, Nat.reduceBNe, Nat.reduceBEq]) | (refine RW_b (fun h => ?_) (fun h => ?_) <;> simp only [h, start, KC_normal, go_sem, Nat.reduceEqDiff, Nat.reduceAdd, reduceIte, reduceCtorEq, Nat.reduceLeDiff, Nat.reduceShiftRight, Nat.reduceAnd, Nat.reduceOr, Nat.reducePow, Nat.reduceBNe, Nat.reduceBEq]))
  · refine hQ _ ?_; simp only [decide_eq_true_eq] at h; simp [takesR, h]
  · refine f67_c fun r hr => ?_
    simp only [start, KC_normal, go_sem, Nat.reduceEqDiff, Nat.reduceAdd, reduceIte, reduceCtorEq, Nat.reduceLeDiff, Nat.reduceShiftRight, Nat.reduceAnd, Nat.reduceOr, Nat.reducePow, Nat.reduceBNe, Nat.reduceBEq]
    refine hQ _ ?_; simp only [decide_eq_false_iff_not] at h; simp [takesR, h, hr]

/-- a gate's kind of step -/
def stepOf (k : Int) : Int := if k = 3 then 1 else if k = 4 then 2 else if k = 5 then 3 else if k = 6 then 4 else if k = 7 then 5 else if k = 8 then 6 else 7
theorem f77_c {H : Heap} {k : Int} {Q : Ret → Heap → Prop} (hQ : ∀ r, r = stepOf k → Q (.ret (.int .i64 r)) H) : C 77 #[.int .i64 k] H Q := by
  refine SemC_fn TT.ok fn77 rfl rfl ?_
  simp only [Try.f77, start, KC_normal, go_sem, Nat.reduceEqDiff, Nat.reduceAdd, reduceIte, reduceCtorEq, Nat.reduceLeDiff, Nat.reduceShiftRight, Nat.reduceAnd, Nat.reduceOr, Nat.reducePow, Nat.reduceBNe, Nat.reduceBEq]
  repeat' (first | (refine CN_b (fun h => ?_) (fun h => ?_) <;> simp only [h, start, KC_normal, go_sem, Nat.reduceEqDiff, Nat.reduceAdd, reduceIte, reduceCtorEq, Nat.reduceLeDiff, Nat.reduceShiftRight, Nat.reduceAnd, Nat.reduceOr, Nat.reducePow, Nat.reduceBNe, Nat.reduceBEq]) | (refine RWn_b (fun h => ?_) (fun h => ?_) <;> simp only [h, start, KC_normal, go_sem, Nat.reduceEqDiff, Nat.reduceAdd, reduceIte, reduceCtorEq, Nat.reduceLeDiff, Nat.reduceShiftRight, Nat.reduceAnd, Nat.reduceOr, Nat.reducePow, Nat.reduceBNe, Nat.reduceBEq]) | (refine RW_b (fun h => ?_) (fun h => ?_) <;> simp only [h, start, KC_normal, go_sem, Nat.reduceEqDiff, Nat.reduceAdd, reduceIte, reduceCtorEq, Nat.reduceLeDiff, Nat.reduceShiftRight, Nat.reduceAnd, Nat.reduceOr, Nat.reducePow, Nat.reduceBNe, Nat.reduceBEq]))
  all_goals (refine hQ _ ?_; simp only [decide_eq_true_eq, decide_eq_false_iff_not] at *; unfold stepOf; repeat' split)
  all_goals first | rfl | contradiction

end Go.Ab.Ex
end
section
namespace Go.Ab.Ex
open Go.Proofs
set_option maxRecDepth 10000

theorem few_c {H : Heap} {v : Value} {g : CircM} {F : Fr} (hv : CircR F H v g) {Q : Ret → Heap → Prop} (hQ : ∀ b H', Ext H H' → (b = true ↔ g.gates.length ≤ 150 ∧ g.outs.length ≤ 50) → Q (.ret (.bool b)) H') : C 7 #[v] H Q := by
  obtain ⟨vg, vo, rfl, hg, ho⟩ := hv.ex
  obtain ⟨b, cap, rfl, -⟩ := hg.ex
  obtain ⟨b', cap', rfl, -⟩ := ho.ex
  refine SemC_fn TT.ok fn7 rfl rfl ?_
  simp only [Try.f7, start, KC_normal, go_sem, Nat.reduceEqDiff, Nat.reduceAdd, reduceIte, reduceCtorEq, Nat.reduceLeDiff, Nat.reduceShiftRight, Nat.reduceAnd, Nat.reduceOr, Nat.reducePow, Nat.reduceBNe, Nat.reduceBEq]
  repeat' (first | (refine CN_b (fun h => ?_) (fun h => ?_) <;> simp only [h, start, KC_normal, go_sem, Nat.reduceEqDiff, Nat.reduceAdd, reduceIte, reduceCtorEq, Nat.reduceLeDiff, Nat.reduceShiftRight, Nat.reduceAnd, Nat.reduceOr, Nat.reducePow, Nat.reduceBNe, Nat.reduceBEq]) | (refine RWn_b (fun h => ?_) (fun h => ?_) <;> simp only [h, start, KC_normal, go_sem, Nat.reduceEqDiff, Nat.reduceAdd, reduceIte, reduceCtorEq, Nat.reduceLeDiff, Nat.reduceShiftRight, Nat.reduceAnd, Nat.reduceOr, Nat.reducePow, Nat.reduceBNe, Nat.reduceBEq]) | (refine RW_b (fun h => ?_) (fun h => ?_) <;> simp only [h, start, KC_normal, go_sem, Nat.reduceEqDiff, Nat.reduceAdd, reduceIte, reduceCtorEq, Nat.reduceLeDiff, Nat.reduceShiftRight, Nat.reduceAnd, Nat.reduceOr, Nat.reducePow, Nat.reduceBNe, Nat.reduceBEq]))
  · refine hQ _ _ ((Ext.refl H).push _) ?_
    simp only [decide_eq_true_eq] at *; omega
  · refine hQ _ _ ((Ext.refl H).push _) ?_
    simp only [decide_eq_true_eq, decide_eq_false_iff_not, Bool.false_eq_true, false_iff] at *; omega

theorem take_next {α : Type} {l : List α} {i : Nat} {x : α} (h : l[i]? = some x) : l.take (i + 1) = l.take i ++ [x] := by
  rw [List.take_add_one, h]; rfl

theorem f31_c {H : Heap} {va vb : Value} {la lb : List Int} {F : Fr} (ha : Sl F H 1 va la.length (la.flatMap intC)) (hb : Sl F H 1 vb lb.length (lb.flatMap intC)) (hlen : la.length < 1000000) {Q : Ret → Heap → Prop} (hQ : ∀ r H', Ext H H' → (r = true ↔ la = lb) → Q (.ret (.bool r)) H') : C 31 #[va, vb] H Q := by
  obtain ⟨a, cap, rfl, -, -, ha⟩ := ha.noF.ex
  obtain ⟨b, cap', rfl, -, -, hb⟩ := hb.noF.ex
  refine SemC_fn TT.ok fn31 rfl rfl ?_
  simp only [Try.f31, start, KC_normal, go_sem, Nat.reduceEqDiff, Nat.reduceAdd, reduceIte, reduceCtorEq, Nat.reduceLeDiff, Nat.reduceShiftRight, Nat.reduceAnd, Nat.reduceOr, Nat.reducePow, Nat.reduceBNe, Nat.reduceBEq]
  repeat' (first | (refine CN_b (fun h => ?_) (fun h => ?_) <;> simp only [h, start, KC_normal, go_sem, Nat.reduceEqDiff, Nat.reduceAdd, reduceIte, reduceCtorEq, Nat.reduceLeDiff, Nat.reduceShiftRight, Nat.reduceAnd, Nat.reduceOr, Nat.reducePow, Nat.reduceBNe, Nat.reduceBEq]) | (refine RWn_b (fun h => ?_) (fun h => ?_) <;> simp only [h, start, KC_normal, go_sem, Nat.reduceEqDiff, Nat.reduceAdd, reduceIte, reduceCtorEq, Nat.reduceLeDiff, Nat.reduceShiftRight, Nat.reduceAnd, Nat.reduceOr, Nat.reducePow, Nat.reduceBNe, Nat.reduceBEq]) | (refine RW_b (fun h => ?_) (fun h => ?_) <;> simp only [h, start, KC_normal, go_sem, Nat.reduceEqDiff, Nat.reduceAdd, reduceIte, reduceCtorEq, Nat.reduceLeDiff, Nat.reduceShiftRight, Nat.reduceAnd, Nat.reduceOr, Nat.reducePow, Nat.reduceBNe, Nat.reduceBEq]))
  · refine hQ _ _ (Ext.refl H) ?_
    simp only [decide_eq_true_eq, Bool.false_eq_true, false_iff] at *
    intro e; rw [e] at h; exact h rfl
  · have hll : la.length = lb.length := by simp only [decide_eq_false_iff_not, Classical.not_not] at h; omega
    refine wp_loop TT.ok rfl rfl (fun j s => ∃ tm H' i, s = ⟨tm, 26, [], false, H'⟩ ∧ j = la.length - i ∧ i ≤ la.length ∧ Ext H H' ∧ la.take i = lb.take i ∧
      tm.get 0 = some (.slice a la.length cap) ∧ tm.get 1 = some (.slice b lb.length cap') ∧ tm.get 5 = some (.int .i64 (i : Nat))) la.length ?_ ?_
    · refine ⟨_, _, 0, rfl, rfl, Nat.zero_le _, Ext.refl H, rfl, ?_, ?_, ?_⟩ <;> simp only [start, KC_normal, go_sem, Nat.reduceEqDiff, Nat.reduceAdd, reduceIte, reduceCtorEq, Nat.reduceLeDiff, Nat.reduceShiftRight, Nat.reduceAnd, Nat.reduceOr, Nat.reducePow, Nat.reduceBNe, Nat.reduceBEq] <;> rfl
    · rintro j s - ⟨tm, H', i, rfl, hj, hi, hE, hsame, h0, h1, h5⟩
      simp only [start, KC_normal, go_sem, Nat.reduceEqDiff, Nat.reduceAdd, reduceIte, reduceCtorEq, Nat.reduceLeDiff, Nat.reduceShiftRight, Nat.reduceAnd, Nat.reduceOr, Nat.reducePow, Nat.reduceBNe, Nat.reduceBEq, h0, h1, h5]
      refine CN_split (fun hlt => ?_) (fun hge => ?_)
      · have hlt' : i < la.length := by omega
        have hlt2 : i < lb.length := by omega
        have ea : la[i]? = some la[i] := by simp [hlt']
        have eb : lb[i]? = some lb[i] := by simp [hlt2]
        obtain ⟨ka, ofa, oa, Ca, rfl, hka, hca, -⟩ := ha.at intC_len ea
        obtain ⟨kb, ofb, ob, Cb, rfl, hkb, hcb, -⟩ := hb.at intC_len eb
        have hca := hca 0 (by omega)
        have hcb := hcb 0 (by omega)
        simp only [intC, Nat.add_zero, List.getElem?_cons_zero] at hca hcb
        simp only [start, KC_normal, go_sem, Nat.reduceEqDiff, Nat.reduceAdd, reduceIte, reduceCtorEq, Nat.reduceLeDiff, Nat.reduceShiftRight, Nat.reduceAnd, Nat.reduceOr, Nat.reducePow, Nat.reduceBNe, Nat.reduceBEq, h0, h1, h5]
        refine DRg_x TT.ok [0, 0, 3, 7, 0, 0, 48, 112, 255] 9 511 26 rfl (by decide +kernel) ?_
        simp only [start, KC_normal, go_sem, Nat.reduceEqDiff, Nat.reduceAdd, reduceIte, reduceCtorEq, Nat.reduceLeDiff, Nat.reduceShiftRight, Nat.reduceAnd, Nat.reduceOr, Nat.reducePow, Nat.reduceBNe, Nat.reduceBEq, h0, h1, h5, ia_in _ _ _ _ _ hlt', ia_in _ _ _ _ _ hlt2, (hka.step hE.step).get, (hkb.step hE.step).get, hca, hcb]
        refine CN_split (fun hne => ?_) (fun heq => ?_)
        · simp only [start, KC_normal, go_sem, Nat.reduceEqDiff, Nat.reduceAdd, reduceIte, reduceCtorEq, Nat.reduceLeDiff, Nat.reduceShiftRight, Nat.reduceAnd, Nat.reduceOr, Nat.reducePow, Nat.reduceBNe, Nat.reduceBEq]
          refine hQ _ _ (hE.skip _) ?_
          simp only [Bool.false_eq_true, false_iff]
          rintro rfl
          exact hne rfl
        · simp only [start, KC_normal, go_sem, Nat.reduceEqDiff, Nat.reduceAdd, reduceIte, reduceCtorEq, Nat.reduceLeDiff, Nat.reduceShiftRight, Nat.reduceAnd, Nat.reduceOr, Nat.reducePow, Nat.reduceBNe, Nat.reduceBEq, h0, h1, h5]
          refine ⟨la.length - (i + 1), by omega, _, _, i + 1, rfl, rfl, by omega, hE.skip _, ?_, ?_, ?_, ?_⟩
          · rw [take_next ea, take_next eb, hsame, Classical.not_not.1 heq]
          all_goals simp only [start, KC_normal, go_sem, Nat.reduceEqDiff, Nat.reduceAdd, reduceIte, reduceCtorEq, Nat.reduceLeDiff, Nat.reduceShiftRight, Nat.reduceAnd, Nat.reduceOr, Nat.reducePow, Nat.reduceBNe, Nat.reduceBEq, h0, h1, h5]
          rw [wrap_i64 _ (by omega) (by omega)]; simp
      · have hi' : i = la.length := by omega
        simp only [start, KC_normal, go_sem, Nat.reduceEqDiff, Nat.reduceAdd, reduceIte, reduceCtorEq, Nat.reduceLeDiff, Nat.reduceShiftRight, Nat.reduceAnd, Nat.reduceOr, Nat.reducePow, Nat.reduceBNe, Nat.reduceBEq]
        refine hQ _ _ hE ?_
        rw [hi', List.take_length, hll, List.take_length] at hsame
        simp only [true_iff]; exact hsame

end Go.Ab.Ex
end
section
namespace Go.Ab.Ex
open Go.Proofs
set_option maxRecDepth 10000

/-- a maker: its block, its code; all its blocks -/
structure MkR (F : Fr) (H : Heap) (bm : Nat) (inn : Int) (ops : List OpM) (outs : List Int) : Prop where
  ex : ∃ vo vu bo bu, H.get bm = .cells true 3 [.int .i64 inn, vo, vu] ∧ bm < H.next ∧ Own1 H 4 (ops.flatMap OpM.c) vo ops.length bo ∧ Own1 H 1 (outs.flatMap intC) vu outs.length bu ∧ (∀ j, F j ↔ j = bm ∨ bo = some j ∨ bu = some j)

theorem _root_.Go.Ab.Own1.keep {H H' : Heap} {sz n : Nat} {v : Value} {c : List Value} {b : Option Nat} (h : Own1 H sz c v n b) (hle : H.next ≤ H'.next) (hg : ∀ j, b = some j → H'.get j = H.get j) : Own1 H' sz c v n b := by
  cases h with
  | nil h => exact .nil h
  | blk k n h1 h2 h3 => exact .blk k n (Nat.lt_of_lt_of_le h1 hle) (by rw [hg k rfl]; exact h2) h3

section
variable {F F' : Fr} {H H' : Heap} {bm : Nat} {inn : Int} {ops : List OpM} {outs : List Int}
theorem MkR.bd (hm : MkR F H bm inn ops outs) : Bd F H := by
  obtain ⟨vo, vu, bo, bu, hb, hlt, ho, hu, hF⟩ := hm.ex
  refine ⟨fun j hj => ?_⟩
  rcases (hF j).1 hj with rfl | e | e
  · exact hlt
  · exact ho.lt e
  · exact hu.lt e
theorem MkR.keep (hm : MkR F H bm inn ops outs) (hle : H.next ≤ H'.next) (hg : ∀ j, F j → H'.get j = H.get j) : MkR F H' bm inn ops outs := by
  obtain ⟨vo, vu, bo, bu, hb, hlt, ho, hu, hF⟩ := hm.ex
  exact ⟨vo, vu, bo, bu, by rw [hg bm ((hF bm).2 (.inl rfl))]; exact hb, Nat.lt_of_lt_of_le hlt hle, ho.keep hle (fun j hj => hg j ((hF j).2 (.inr (.inl hj)))), hu.keep hle (fun j hj => hg j ((hF j).2 (.inr (.inr hj)))), hF⟩
theorem MkR.ext (hm : MkR F H bm inn ops outs) (hE : Ext H H') : MkR F H' bm inn ops outs := hm.keep hE.le fun j hj => hE.get j (hm.bd.lt j hj)
end

theorem f30_c {F : Fr} {H : Heap} {bm : Nat} {inn : Int} {ops : List OpM} {outs : List Int} (hm : MkR F H bm inn ops outs) (hl : ops.length < 1000000) (hi : 0 ≤ inn ∧ inn < 1000000) {k a b : Int} {n : BitVec 32} {Q : Ret → Heap → Prop}
    (hQ : ∀ H' F', MkR F' H' bm inn (ops ++ [⟨k, a, b, n⟩]) outs → Step F H F' H' → Q (.ret (.int .i64 (inn + ops.length))) H') :
    C 30 #[.pointer (some ⟨bm, 0, none⟩), .int .i64 k, .int .i64 a, .int .i64 b, .int .u32 n.toNat] H Q := by
  obtain ⟨vo, vu, bo, bu, hb, hlt, ho, hu, hF⟩ := hm.ex
  refine SemC_fn TT.ok fn30 rfl rfl ?_
  simp only [Try.f30, start, KC_normal, go_sem, Nat.reduceEqDiff, Nat.reduceAdd, reduceIte, reduceCtorEq, Nat.reduceLeDiff, Nat.reduceShiftRight, Nat.reduceAnd, Nat.reduceOr, Nat.reducePow, Nat.reduceBNe, Nat.reduceBEq, hb]
  -- what is appended
  have hE1 : Ext H (H.push (.cells true 4 [.int .i64 k, .int .i64 a, .int .i64 b, .int .u32 n.toNat])) := (Ext.refl H).push _
  have hnew := Own1.fresh H 4 (OpM.c ⟨k, a, b, n⟩) 1 rfl
  have hnx : (H.push (.cells true 4 [.int .i64 k, .int .i64 a, .int .i64 b, .int .u32 n.toNat])).next = H.next + 1 := rfl
  simp only [OpM.c] at hnew
  generalize H.push (.cells true 4 [.int .i64 k, .int .i64 a, .int .i64 b, .int .u32 n.toNat]) = H1 at *
  have hbm : ∀ j, bo = some j → j ≠ bm := fun j e h => by
    have := (ho.at e).2.1
    rw [h, hb] at this; cases this
  have hum : ∀ j, bu = some j → j ≠ bm := fun j e h => by
    have := (hu.at e).2.1
    rw [h, hb] at this; cases this
  have hou : ∀ j, bu = some j → ¬ bo = some j := fun j hj e => by
    have h1 := (hu.at hj).2.1
    have h2 := (ho.at e).2.1
    rw [h1] at h2; cases h2
  obtain ⟨v', H2, b', he, ho', hS, hb', hb1', hle2⟩ := append_s (T := TT) (t0 := 28) (t1 := 28) ty28 ty28 ty69 rfl (ho.ext hE1) (hnew.sl (F := noF) fun _ _ h => h) rfl (by omega) (by omega)
  have hbo : ∀ j, bo = some j → j < H.next := fun j hj => ho.lt hj
  have hbu : ∀ j, bu = some j → j < H.next := fun j hj => hu.lt hj
  have hS2 : Step F H (fun j => j = bm ∨ b' = some j ∨ bu = some j) H2 := (hE1.step (F := F)).trans ((hS (fun j => j = bm ∨ bu = some j)).sub
    (fun j hf => by rcases hf with (h | h) | h
                    · exact .inl ((hF j).2 (.inl h))
                    · exact .inl ((hF j).2 (.inr (.inr h)))
                    · exact .inl ((hF j).2 (.inr (.inl h))))
    (fun j hf => by rcases hf with h | h | h
                    · exact .inl (.inl (.inl h))
                    · exact .inl (.inr h)
                    · exact .inl (.inl (.inr h))))
  have hbm2 : ∀ j, b' = some j → j ≠ bm := fun j hj e => by
    rcases hb' j hj with h | h
    · exact hbm j h e
    · omega
  have hb2 : H2.get bm = .cells true 3 [.int .i64 inn, vo, vu] := by
    rw [(hS noF).get bm (by omega) (fun h => by rcases h with h | h; exact h; exact hbm bm h rfl), hE1.get bm hlt]; exact hb
  have hu2 : Own1 H2 1 (outs.flatMap intC) vu outs.length bu := (hu.ext hE1).step (hS noF) (fun j hj h => by rcases h with h | h; exact h; exact hou j hj h)
  obtain ⟨hc1, hc2⟩ := ho'.one
  obtain ⟨av, hav⟩ := ho'.len
  subst hav
  simp only [he, start, KC_normal, go_sem, Nat.reduceEqDiff, Nat.reduceAdd, reduceIte, reduceCtorEq, Nat.reduceLeDiff, Nat.reduceShiftRight, Nat.reduceAnd, Nat.reduceOr, Nat.reducePow, Nat.reduceBNe, Nat.reduceBEq, hb2]
  refine DRg_x TT.ok [0, 1, 3, 7, 15, 0, 32, 96, 224, 480, 992, 2047, 4095, 8191] 14 16383 40 rfl (by decide +kernel) ?_
  simp only [start, KC_normal, go_sem, Nat.reduceEqDiff, Nat.reduceAdd, reduceIte, reduceCtorEq, Nat.reduceLeDiff, Nat.reduceShiftRight, Nat.reduceAnd, Nat.reduceOr, Nat.reducePow, Nat.reduceBNe, Nat.reduceBEq, Nat.reduceSub]
  have hw : IntKind.i64.wrap (IntKind.i64.wrap (inn + ((ops.length + 1 : Nat) : Int)) - 1) = inn + ops.length := by
    rw [wrap_i64 (inn + ((ops.length + 1 : Nat) : Int)) (by omega) (by omega), wrap_i64 _ (by omega) (by omega)]; omega
  rw [hw]
  refine hQ _ (fun j => j = bm ∨ b' = some j ∨ bu = some j) ⟨.slice av (ops.length + 1) (ops.length + 1), vu, b', bu, ?_, ?_, ?_, ?_, fun _ => .rfl⟩ ?_
  · rw [Heap.get_skip, H_put_same]
  · simp only [Heap.next_skip, Heap.next_put]; omega
  · have := (ho'.put hbm2 (.cells true 3 [.int .i64 inn, .slice av (ops.length + 1) (ops.length + 1), vu])).ext ((Ext.refl _).skip 14)
    simpa [OpM.c] using this
  · exact (hu2.put hum _).ext ((Ext.refl _).skip 14)
  · exact (hS2.put (.inl ((hF bm).2 (.inl rfl))) _).skip 14
end Go.Ab.Ex
end
