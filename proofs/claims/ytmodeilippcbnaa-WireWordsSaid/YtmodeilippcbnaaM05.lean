/- Parts of the proof, joined by program: The abstract machine: a logic of its runs: functions; The abstract machine: a program's table; The abstract machine: what each operation comes to, as equations to rewrite by. None of them is one that the kernel would unfold; The abstract machine: slices and what lies in them; The abstract machine: slices of one's own, and what is appended; The abstract machine: a drawn region that only reads; The abstract machine: structures and slices that are built; The abstract machine: drawn regions, where what asks not for the heap is no matter; The abstract machine: the equations, in the set of the walk; The abstract machine: what stays as it was, and slices that are read. -/
import Derived.Test.YtmodeilippcbnaaM04
import Derived.Attr
set_option linter.all false
section
namespace Go.Ab

structure DefV (P : Program) (ng : Nat) (f : FuncId) (args : Array Value) (H H' : Heap) : Prop where
  body : ∃ fn c, P.funcs[f]? = some fn ∧ (fn.name == "runtime.NumGoroutine") = false ∧ fn.body = some c
  nr : NR H H'
  sim : ∀ (μ : Inj) (w : World) (args' : Array Value) (u : FrameMode), Rel ng μ H.get w → Dom ng μ H → VRels μ args.toList args'.toList →
    CallsDIn (WF none) 0 P f args' u w fun e u' w' => u' = u ∧ ∃ v, e = .returned v ∧ ∃ μ', Goes ng μ H.get w μ' H'.get w' ∧ Dom ng μ' H' ∧ Nxt μ H μ' H'

def SemD (P : Program) (ng : Nat) (f : FuncId) (args : Array Value) (H : Heap) (K : Heap → Prop) : Prop := ∃ H', K H' ∧ DefV P ng f args H H'

section
variable (P : Program) (T : Tab) (ng : Nat)

/-- the end of a function: what was deferred; its results -/
def KL (rs : List ResultVar) (tm : Tr Value) (Q : Ret → Heap → Prop) : List Deferred → Heap → Prop
  | [], H => ∃ l, resultsC T tm H rs = some l ∧ Q (.ret (retOf l)) H
  | d :: ds, H => match d.target with
    | .fn (.func f) cap => SemD P ng f (d.args ++ cap) H (KL rs tm Q ds)
    | _ => False

def KF (rs : List ResultVar) (Q : Ret → Heap → Prop) (e : Exit) (st : St) : Prop := match e with
  | .normal => KL P T ng rs st.tm Q st.defers st.heap
  | .ret => KL P T ng rs st.tm Q st.defers st.heap
  | .panic ch => st.defers = [] ∧ Q (.pan ch) st.heap
  | _ => False
theorem KF_ret (rs : List ResultVar) (Q : Ret → Heap → Prop) (st : St) : KF P T ng rs Q .ret st = KL P T ng rs st.tm Q st.defers st.heap := (rfl)
theorem KF_normal (rs : List ResultVar) (Q : Ret → Heap → Prop) (st : St) : KF P T ng rs Q .normal st = KL P T ng rs st.tm Q st.defers st.heap := (rfl)
theorem KL_nil (rs : List ResultVar) (tm : Tr Value) (Q : Ret → Heap → Prop) (H : Heap) : KL P T ng rs tm Q [] H = ∃ l, resultsC T tm H rs = some l ∧ Q (.ret (retOf l)) H := (rfl)
theorem KL_fn (rs : List ResultVar) (tm : Tr Value) (Q : Ret → Heap → Prop) (f : FuncId) (cap args : Array Value) (ds : List Deferred) (H : Heap) : KL P T ng rs tm Q ({ target := .fn (.func f) cap, args := args } :: ds) H =
    SemD P ng f (args ++ cap) H (KL P T ng rs tm Q ds) := (rfl)
end

section
variable {P : Program} {T : Tab} {ng : Nat}

def start (fn : Func) (args : Array Value) (H : Heap) : St := { tm := initTm 0 args.toList .e, sz := Nat.max args.size fn.ntmps, defers := [], rd := false, heap := H }

theorem KL_sound (hT : T.Ok P ng) {fn : Func} {tm : Tr Value} {Q : Ret → Heap → Prop} : ∀ (ds : List Deferred) (H : Heap), KL P T ng fn.results.toList tm Q ds H →
    ∃ v Hend, Q (.ret v) Hend ∧ NR H Hend ∧ ∀ {tmps : Array Value} {sz : Nat} {μ0 : Inj} {H0 : Heap} {w0 : World} (ds' : List Deferred) (μ : Inj) (w : World), Goes ng μ0 H0.get w0 μ H.get w → Dom ng μ H → Nxt μ0 H0 μ H → TmRel μ tm sz tmps → DRels μ ds ds' →
      LeavesInM (WF none) 0 P fn tmps (fun e w' => ∃ μ', CPost ng μ0 H0 w0 (.ret v) Hend μ' e w') ds' .returning w := by
  intro ds
  induction ds with
  | nil =>
    intro H h
    rw [KL_nil] at h
    obtain ⟨l, hres, hQ⟩ := h
    refine ⟨retOf l, H, hQ, .refl _, fun ds' μ w hG hD hN ht hds => ?_⟩
    cases hds
    obtain ⟨v', k1, k2⟩ := results_sim (P := P) (fn := fn) hT hG.rel ht hres
    exact ⟨v', k1, μ, hG, .ret _ _ k2, hD, hN⟩
  | cons d ds ih =>
    intro H h
    simp only [KL] at h
    split at h
    case h_2 => exact h.elim
    rename_i f cap htg
    obtain ⟨H1, hk, hV⟩ := h
    obtain ⟨v, Hend, hQ, hnr, hrest⟩ := ih H1 hk
    refine ⟨v, Hend, hQ, hV.nr.trans hnr, fun ds' μ w hG hD hN ht hds => ?_⟩
    cases hds with
    | cons _ d' _ ds' hd hds =>
    cases hd with
    | mark r t args args' hm => simp at htg
    | fn f2 cap2 cap' args args' hc ha =>
      cases htg
      refine ⟨by simp, .inr ⟨wf_depth _, .func f, cap', f, args' ++ cap', rfl, ?_, fun _ _ => wf_fn _ _, ?_⟩⟩
      · obtain ⟨fn', c, p1, p2, q2⟩ := hV.body
        simp only [invoke, callFunc, Sem.run_bind, run_program, Result.andThen_ok, p1, p2, q2]
        rfl
      · have := hV.sim μ w (args' ++ cap') .returning hG.rel hD (by simp only [Array.toList_append]; exact ha.append hc)
        refine CallsDIn.mono this ?_
        rintro e u' w' ⟨rfl, v, rfl, μ', g1, g2, g3⟩
        exact hrest ds' μ' w' (hG.trans g1) g2 (hN.trans g3) (ht.mono g1.le) (hds.mono g1.le)

theorem SemC_fn (hT : T.Ok P ng) {f : FuncId} {args : Array Value} {H : Heap} {Q : Ret → Heap → Prop} {fn : Func} {c : Code} (hf : T.fn f = some fn) (hb : fn.body = some c) (hd : codeDst (Nat.max args.size fn.ntmps) c = true)
    (h : wpc P T ng c (KF P T ng fn.results.toList Q) (start fn args H)) : SemC P ng f args H Q := by
  obtain ⟨q1, q2, q3⟩ := hT.fn _ _ hf
  obtain ⟨e, st', hk, hV⟩ := wpc_sound hT c _ (start fn args H) (q3 c hb) hd h
  have body : ∀ {μ : Inj} {w : World} {args' : Array Value}, Rel ng μ H.get w → Dom ng μ H → VRels μ args.toList args'.toList →
      c.wpIn (WF none) 0 P (fun e' a' w' => ∃ μ', Goes ng μ H.get w μ' st'.heap.get w' ∧ XRel μ' e e' ∧ FrRel ng μ' st' a' w' ∧ Nxt μ H μ' st'.heap) { tmps := args' ++ Array.replicate (fn.ntmps - args'.size) undef, defers := [] } w := by
    intro μ w args' hR hD ha
    refine wpIn_mono (hV.sim none μ _ w (fun _ => rfl) ⟨enter_tm ha _, .nil, hR, hD⟩) ?_
    rintro e' a' w' ⟨μ', hp⟩
    exact ⟨μ', hp.goes, hp.exit, hp.fr, hp.next⟩
  have leave : KL P T ng fn.results.toList st'.tm Q st'.defers st'.heap → (e = .normal ∨ e = .ret) → SemC P ng f args H Q := by
    intro hk he
    obtain ⟨v, Hend, hQ, hnr, hL⟩ := KL_sound hT _ _ hk
    refine ⟨.ret v, Hend, hQ, hV.nr.trans hnr, fun μ w args' hR hD ha => callsIn_of_wp_marks q1 hb (wf_fn _ _) (wpIn_mono (body hR hD ha) ?_)⟩
    rintro e' a' w' ⟨μ', g1, g2, g3, g4⟩
    have := hL a'.defers μ' w' g1 g3.dom g4 g3.tm g3.dfr
    rcases he with rfl | rfl <;> cases g2 <;> exact this
  cases e with
  | normal => exact leave hk (.inl rfl)
  | ret => exact leave hk (.inr rfl)
  | panic ch =>
    obtain ⟨hdf, hQ⟩ := hk
    refine ⟨.pan ch, st'.heap, hQ, hV.nr, fun μ w args' hR hD ha => callsIn_of_wp_marks q1 hb (wf_fn _ _) (wpIn_mono (body hR hD ha) ?_)⟩
    rintro e' a' w' ⟨μ', g1, g2, g3, g4⟩
    cases g2 with
    | panic _ c' hp =>
      have hd' : a'.defers = [] := by
        have := g3.dfr
        rw [hdf] at this
        cases hda : a'.defers with
        | nil => rfl
        | cons x y => rw [hda] at this; cases this
      show LeavesInM (WF none) 0 P fn a'.tmps _ a'.defers (.panicking c') w'
      rw [hd']
      exact ⟨μ', g1, .pan _ _ hp, g3.dom, g4⟩
  | _ => exact hk.elim

def KDf (rs : List ResultVar) (T : Tab) (K : Heap → Prop) (e : Exit) (st : St) : Prop := (e = .normal ∨ e = .ret) ∧ st.defers = [] ∧ (∃ l, resultsC T st.tm st.heap rs = some l) ∧ K st.heap

theorem SemD_fn (hT : T.Ok P ng) {f : FuncId} {args : Array Value} {H : Heap} {K : Heap → Prop} {fn : Func} {c : Code} (hf : T.fn f = some fn) (hb : fn.body = some c) (hd : codeDst (Nat.max args.size fn.ntmps) c = true)
    (h : wpc P T ng c (KDf fn.results.toList T K) (start fn args H)) : SemD P ng f args H K := by
  obtain ⟨q1, q2, q3⟩ := hT.fn _ _ hf
  obtain ⟨e, st', ⟨he, hdf, ⟨l, hres⟩, hK⟩, hV⟩ := wpc_sound hT c _ (start fn args H) (q3 c hb) hd h
  refine ⟨st'.heap, hK, ⟨fn, c, q1, q2, hb⟩, hV.nr, fun μ w args' u hR hD ha => ?_⟩
  refine callsDIn_of_wp (R := fun e w' => ∃ v, e = .returned v ∧ ∃ μ', Goes ng μ H.get w μ' st'.heap.get w' ∧ Dom ng μ' st'.heap ∧ Nxt μ H μ' st'.heap) q1 hb (wf_fn _ _) (wpIn_mono (hV.sim none μ _ w (fun _ => rfl) ⟨enter_tm ha _, .nil, hR, hD⟩) ?_)
  rintro e' a' w' ⟨μ', hp⟩
  obtain ⟨v', k1, k2⟩ := results_sim (P := P) (fn := fn) hT hp.fr.rel hp.fr.tm hres
  have hd' : a'.defers = [] := by
    have := hp.fr.dfr
    rw [hdf] at this
    cases hda : a'.defers with
    | nil => rfl
    | cons x y => rw [hda] at this; cases this
  have hx := hp.exit
  rcases he with rfl | rfl <;> cases hx
  · exact ⟨hd', v', k1, v', rfl, μ', hp.goes, hp.fr.dom, hp.next⟩
  · exact ⟨hd', v', k1, v', rfl, μ', hp.goes, hp.fr.dom, hp.next⟩

end

/-! ### a run on the ground, moved -/
mutual
def shiftV (n : Nat) : Value → Value
  | .pointer (some ⟨b, o, s⟩) => .pointer (some ⟨b + n, o, s⟩)
  | .slice (some ⟨b, o, s⟩) len cap => .slice (some ⟨b + n, o, s⟩) len cap
  | .map (some b) => .map (some (b + n))
  | .func (.yield b) a c => .func (.yield (b + n)) a c
  | .func f a c => .func f (shiftA n a) (shiftA n c)
  | .iface t v => .iface t (shiftV n v)
  | .agg a => .agg (shiftA n a)
  | .tuple a => .tuple (shiftA n a)
  | v => v
def shiftA (n : Nat) : Array Value → Array Value
  | ⟨l⟩ => ⟨shiftL n l⟩
def shiftL (n : Nat) : List Value → List Value
  | [] => []
  | v :: l => shiftV n v :: shiftL n l
end

def shiftO (n : Nat) : AObj → AObj
  | .cells own e c => .cells own e (shiftL n c)
  | _ => .dead

theorem shiftL_length (n : Nat) : ∀ l : List Value, (shiftL n l).length = l.length
  | [] => rfl
  | v :: l => by simp [shiftL, shiftL_length n l]
theorem shiftL_get (n : Nat) : ∀ (l : List Value) (i : Nat), (shiftL n l)[i]? = (l[i]?).map (shiftV n)
  | [], i => by simp [shiftL]
  | v :: l, 0 => by simp [shiftL]
  | v :: l, i + 1 => by simp [shiftL, shiftL_get n l i]

mutual
theorem VRel.shift {μ μ' : Inj} {n : Nat} (h : ∀ b t, μ b = some t → μ' (b + n) = some t) : ∀ {v v' : Value}, VRel μ v v' → VRel μ' (shiftV n v) v'
  | _, _, .bool b => .bool b
  | _, _, .int k m => .int k m
  | _, _, .float k m => .float k m
  | _, _, .complex k a b => .complex k a b
  | _, _, .string s => .string s
  | _, _, .ptr0 => .ptr0
  | _, _, .ptr b o t hm => .ptr (b + n) o t (h _ _ hm)
  | _, _, .slice0 => .slice0
  | _, _, .sliceZ ⟨_, _, _⟩ a' => .sliceZ _ a'
  | _, _, .slice b o t len ca cc hm hl hc hr => .slice (b + n) o t len ca cc (h _ _ hm) hl hc hr
  | _, _, .map0 => .map0
  | _, _, .map b t hm => .map (b + n) t (h _ _ hm)
  | _, _, .func f ⟨a⟩ ⟨c⟩ a' c' ha hc => .func f ⟨shiftL n a⟩ ⟨shiftL n c⟩ a' c' (VRels.shift h ha) (VRels.shift h hc)
  | _, _, .yield b t hm => .yield (b + n) t (h _ _ hm)
  | _, _, .nilFunc => .nilFunc
  | _, _, .iface t v v' hv => .iface t _ v' (VRel.shift h hv)
  | _, _, .nilIface => .nilIface
  | _, _, .agg ⟨a⟩ a' ha => .agg ⟨shiftL n a⟩ a' (VRels.shift h ha)
  | _, _, .tuple ⟨a⟩ a' ha => .tuple ⟨shiftL n a⟩ a' (VRels.shift h ha)
theorem VRels.shift {μ μ' : Inj} {n : Nat} (h : ∀ b t, μ b = some t → μ' (b + n) = some t) : ∀ {l l' : List Value}, VRels μ l l' → VRels μ' (shiftL n l) l'
  | _, _, .nil => .nil
  | _, _, .cons _ v' l _ hv ht => .cons _ v' _ _ (VRel.shift h hv) (VRels.shift h ht)
end

def heapOf (l : List AObj) (H : Heap) : Heap := l.foldl (fun H o => H.push (shiftO 0 o)) H

theorem foldl_push_spec (n : Nat) : ∀ (l : List AObj) (H : Heap), (l.foldl (fun H o => H.push (shiftO n o)) H).next = H.next + l.length ∧
    ∀ b, (l.foldl (fun H o => H.push (shiftO n o)) H).get b = if H.next ≤ b ∧ b < H.next + l.length then ((l[b - H.next]?).map (shiftO n)).getD .dead else H.get b
  | [], H => ⟨rfl, fun b => by simp; omega⟩
  | o :: l, H => by
    obtain ⟨h1, h2⟩ := foldl_push_spec n l (H.push (shiftO n o))
    simp only [List.foldl_cons, List.length_cons]
    rw [Heap.next_push] at h1
    refine ⟨by rw [h1]; omega, fun b => ?_⟩
    rw [h2 b, Heap.next_push, Heap.get_push]
    by_cases e : b = H.next
    · subst e
      rw [if_neg (by omega), if_pos rfl, if_pos (by omega)]
      simp
    · by_cases hc : H.next + 1 ≤ b ∧ b < H.next + 1 + l.length
      · rw [if_pos hc, if_pos (by omega), show b - H.next = (b - (H.next + 1)) + 1 by omega]
        simp
      · rw [if_neg hc, if_neg e, if_neg (by omega)]

/-- behind a run on the ground: its blocks, moved -/
def groundH (l : List AObj) (H : Heap) : Heap := l.foldl (fun X o => X.push (shiftO H.next o)) H

theorem flatL_eq {μ : Inj} : ∀ {l l' : List Value}, l.all flat = true → VRels μ l l' → l' = l
  | [], _, _, .nil => rfl
  | v :: l, _, hf, .cons _ v' _ l' hv ht => by
    simp only [List.all_cons, Bool.and_eq_true] at hf
    rw [hv.flat_eq hf.1, flatL_eq hf.2 ht]
theorem flatL_refl {μ : Inj} : ∀ {l : List Value}, l.all flat = true → VRels μ l l
  | [], _ => .nil
  | v :: l, hf => by
    simp only [List.all_cons, Bool.and_eq_true] at hf
    exact .cons _ _ _ _ (flat_refl hf.1) (flatL_refl hf.2)

def cellsOnly : AObj → AObj
  | .cells own e c => .cells own e c
  | _ => .dead

/-- the blocks of a heap, up to a number -/
def blocksOf (H : Heap) : Nat → List AObj
  | 0 => []
  | n + 1 => blocksOf H n ++ [H.get n]
theorem blocksOf_spec (H : Heap) : ∀ n, (blocksOf H n).length = n ∧ ∀ b, b < n → (blocksOf H n)[b]? = some (H.get b)
  | 0 => ⟨rfl, fun b h => by omega⟩
  | n + 1 => by
    obtain ⟨h1, h2⟩ := blocksOf_spec H n
    refine ⟨by simp [blocksOf, h1], fun b hb => ?_⟩
    simp only [blocksOf]
    by_cases e : b = n
    · subst e; rw [List.getElem?_append_right (by omega), h1]; simp
    · rw [List.getElem?_append_left (by omega)]; exact h2 b (by omega)

theorem CallV.ground {P : Program} {f : FuncId} {args : Array Value} {v : Value} {H1 : Heap} (hfl : args.toList.all flat = true) (h : CallV P 0 f args Heap.empty (.ret v) H1) (H : Heap) :
    CallV P 0 f args H (.ret (shiftV H.next v)) (groundH (blocksOf H1 H1.next) H) := by
  obtain ⟨hl, hg⟩ := blocksOf_spec H1 H1.next
  obtain ⟨s1, s2⟩ := foldl_push_spec H.next (blocksOf H1 H1.next) H
  rw [hl] at s1 s2
  have hget : ∀ b, (groundH (blocksOf H1 H1.next) H).get b = if H.next ≤ b ∧ b < H.next + H1.next then shiftO H.next (H1.get (b - H.next)) else H.get b := by
    intro b
    unfold groundH
    rw [s2 b]
    split
    · rename_i hb; rw [hg _ (by omega)]; simp
    · rfl
  have hnext : (groundH (blocksOf H1 H1.next) H).next = H.next + H1.next := s1
  refine ⟨⟨by rw [hnext]; omega, fun b hb hd => by rw [hget, if_neg (by omega)]; exact hd⟩, fun μ w args' hR hD ha => ?_⟩
  have hargs := flatL_eq hfl ha
  have hR0 : Rel 0 (fun _ => none) Heap.empty.get w := ⟨fun b hb => absurd rfl hb, fun b b' t t' _ ho => by simp [Heap.empty, Heap.get, Tr.get, owned] at ho, fun k hk => by omega⟩
  have hD0 : Dom 0 (fun _ => none) Heap.empty := ⟨Nat.le_refl _, fun _ _ => rfl⟩
  refine CallsIn.mono (h.sim (fun _ => none) w args' hR0 hD0 (by rw [hargs]; exact flatL_refl hfl)) ?_
  rintro e w' ⟨μ1, hp⟩
  -- the new injection
  let μ' : Inj := fun b => if b < H.next then μ b else μ1 (b - H.next)
  have hold : ∀ b, b < H.next → μ' b = μ b := fun b hb => by simp [μ', hb]
  have hnew : ∀ b, H.next ≤ b → μ' b = μ1 (b - H.next) := fun b hb => by simp [μ', Nat.not_lt.2 hb]
  have hsh : ∀ b t, μ1 b = some t → μ' (b + H.next) = some t := fun b t ht => by rw [hnew _ (by omega)]; simpa using ht
  have hle : μ.Le μ' := fun b t ht => by
    by_cases hb : b < H.next
    · rw [hold b hb]; exact ht
    · rw [hD.fresh b (by omega)] at ht; cases ht
  have hno : ∀ k, ¬ Own (fun _ => none) Heap.empty.get k := by rintro k ⟨b, t, ho, hm, _⟩; cases hm
  have hkept : ∀ k, k < w.heap.size → w'.heap[k]? = w.heap[k]? := fun k hk => hp.goes.kept k hk (hno k)
  have hnotown : ∀ k, k < w.heap.size → ¬ Own μ1 H1.get k := fun k hk ho => hno k (hp.goes.own k hk ho)
  have hdeadtop : ∀ b, H1.next ≤ b → H1.get b = .dead := by
    intro b hb
    have := hp.dom.fresh b hb
    cases hd : H1.get b with
    | dead => rfl
    | _ => obtain ⟨t, o, k1, _⟩ := hp.goes.rel.obj b (by rw [hd]; simp); rw [this] at k1; cases k1
  have hget' : ∀ b, H.next ≤ b → (groundH (blocksOf H1 H1.next) H).get b = shiftO H.next (H1.get (b - H.next)) := by
    intro b hb
    rw [hget]
    split
    · rfl
    · rename_i hc
      rw [hdeadtop (b - H.next) (by omega)]
      have := hD.fresh b hb
      cases hd : H.get b with
      | dead => rfl
      | _ => obtain ⟨t, o, k1, _⟩ := hR.obj b (by rw [hd]; simp); rw [this] at k1; cases k1
  have hcells : ∀ b, shiftO H.next (H1.get b) ≠ .dead → ∃ own e c, H1.get b = .cells own e c := by
    intro b hb
    cases hd : H1.get b <;> simp [shiftO, hd] at hb ⊢
  have hown : ∀ b, owned (shiftO H.next (H1.get b)) = true → owned (H1.get b) = true := by
    intro b hb
    have hnd : shiftO H.next (H1.get b) ≠ .dead := fun e => by rw [e] at hb; simp [owned] at hb
    obtain ⟨own, e, c, hc⟩ := hcells b hnd
    rw [hc] at hb ⊢
    exact hb
  have hlive : ∀ b, shiftO H.next (H1.get b) ≠ .dead → H1.get b ≠ .dead := by
    intro b hb e; rw [e] at hb; exact hb rfl
  have hrel : Rel 0 μ' (groundH (blocksOf H1 H1.next) H).get w' := by
    refine ⟨fun b hb => ?_, fun b b' t t' hne ho hb' hm hm' => ?_, fun k hk => by omega⟩
    · by_cases hlt : b < H.next
      · rw [hget, if_neg (by omega)] at hb ⊢
        obtain ⟨t, o, k1, k2, k3⟩ := hR.obj b hb
        exact ⟨t, o, by rw [hold b hlt]; exact k1, by rw [hkept _ (hR.lt hb k1)]; exact k2, k3.mono hle⟩
      · rw [hget' b (by omega)] at hb ⊢
        obtain ⟨own, e, c, hc⟩ := hcells _ hb
        obtain ⟨t, o, k1, k2, k3⟩ := hp.goes.rel.obj (b - H.next) (hlive _ hb)
        refine ⟨t, o, by rw [hnew b (by omega)]; exact k1, k2, ?_⟩
        rw [hc] at k3 ⊢
        obtain ⟨arr, e', fr, q1, q2, q3, q4, q5, q6⟩ := k3
        refine ⟨arr, e', fr, q1, q2, q3, by rw [shiftL_length]; exact q4, fun i u hu => ?_, q6⟩
        rw [shiftL_get] at hu
        cases hci : c[i]? with
        | none => rw [hci] at hu; simp at hu
        | some u0 =>
          rw [hci] at hu
          simp only [Option.map_some, Option.some.injEq] at hu
          obtain ⟨v', j1, j2⟩ := q5 i u0 hci
          exact ⟨v', j1, by rw [← hu]; exact j2.shift hsh⟩
    · by_cases hlt : b < H.next
      · rw [hget, if_neg (by omega)] at ho
        rw [hold b hlt] at hm
        have hbnd : H.get b ≠ .dead := fun e => by rw [e] at ho; simp [owned] at ho
        by_cases hlt' : b' < H.next
        · rw [hget, if_neg (by omega)] at hb'
          rw [hold b' hlt'] at hm'
          exact hR.inj b b' t t' hne ho hb' hm hm'
        · rw [hget' b' (by omega)] at hb'
          rw [hnew b' (by omega)] at hm'
          intro hcb
          have hbs := hR.lt hbnd hm
          cases hob : owned (H1.get (b' - H.next)) with
          | true => exact hnotown _ hbs ⟨_, t', hob, hm', hcb.symm⟩
          | false =>
            have := hp.goes.ro _ (hlive _ hb') hob
            rw [← this] at hb'
            exact hb' rfl
      · rw [hget' b (by omega)] at ho
        rw [hnew b (by omega)] at hm
        by_cases hlt' : b' < H.next
        · rw [hget, if_neg (by omega)] at hb'
          rw [hold b' hlt'] at hm'
          intro hcb
          exact hnotown _ (hR.lt hb' hm') ⟨_, t, hown _ ho, hm, hcb⟩
        · rw [hget' b' (by omega)] at hb'
          rw [hnew b' (by omega)] at hm'
          exact hp.goes.rel.inj _ _ t t' (by omega) (hown _ ho) (hlive _ hb') hm hm'
  refine ⟨μ', ⟨hle, hrel, hp.goes.size, fun k hk _ => hkept k hk, fun k hk ⟨b, t, ho, hm, hc⟩ => ?_, fun b hb hob => ?_, hp.goes.same⟩, ?_, ⟨Nat.zero_le _, fun b hb => ?_⟩, ⟨by rw [hnext]; omega, fun b hb hm => by rw [hold b hb]; exact hm⟩⟩
  · by_cases hlt : b < H.next
    · rw [hget, if_neg (by omega)] at ho
      rw [hold b hlt] at hm
      exact ⟨b, t, ho, hm, hc⟩
    · rw [hget' b (by omega)] at ho
      rw [hnew b (by omega)] at hm
      exact absurd ⟨_, t, hown _ ho, hm, hc⟩ (hnotown k hk)
  · by_cases hlt : b < H.next
    · rw [hget, if_neg (by omega)]
    · rw [hget' b (by omega)] at hb hob
      exfalso
      obtain ⟨own, e, c, hc⟩ := hcells _ hb
      have hob' : owned (H1.get (b - H.next)) = false := by
        rw [hc] at hob ⊢
        exact hob
      have := hp.goes.ro _ (hlive _ hb) hob'
      rw [← this] at hb
      exact hb rfl
  · have hr := hp.ret
    cases hr with
    | ret _ v' hv => exact .ret _ _ (hv.shift hsh)
  · rw [hnext] at hb
    rw [hnew b (by omega)]
    exact hp.dom.fresh _ (by omega)

attribute [irreducible] KF KL KDf

end Go.Ab
end
section
namespace Go.Ab

def tabOf (P : Program) : Tab := { ty := fun t => bif Nat.blt t P.types.size then tinfo P t else none, fn := fun f => P.funcs[f]? }

def tyCheck (P : Program) : Bool := (List.range P.types.size).all fun t => match tinfo P t with
  | some i => zeroOk i
  | none => true
def fnCheck (P : Program) : Bool := P.funcs.toList.all fun fn => !(fn.name == "runtime.NumGoroutine") && match fn.body with
  | some c => codeOk 0 c
  | none => true

theorem tabOf_ok {P : Program} (h1 : tyCheck P = true) (h2 : fnCheck P = true) : (tabOf P).Ok P 0 := by
  unfold tyCheck at h1
  unfold fnCheck at h2
  rw [List.all_eq_true] at h1 h2
  have hty : ∀ t i, (tabOf P).ty t = some i → t < P.types.size ∧ tinfo P t = some i := by
    intro t i h
    simp only [tabOf] at h
    cases hb : Nat.blt t P.types.size with
    | false => rw [hb] at h; simp at h
    | true => rw [hb] at h; exact ⟨Nat.le_of_ble_eq_true hb, h⟩
  refine ⟨fun t i h => (hty t i h).2, fun t i h => ?_, fun f fn h => ?_⟩
  · obtain ⟨k1, k2⟩ := hty t i h
    have := h1 t (List.mem_range.2 k1)
    rw [k2] at this
    exact this
  · have hm : fn ∈ P.funcs.toList := by
      have h' : P.funcs[f]? = some fn := h
      exact List.mem_of_getElem? (by rw [Array.getElem?_toList]; exact h')
    have := h2 fn hm
    simp only [Bool.and_eq_true, Bool.not_eq_true'] at this
    refine ⟨h, this.1, fun c hc => ?_⟩
    have h3 := this.2
    rw [hc] at h3
    exact h3

/-- a structure's fields -/
def fsOf (P : Program) (t : Nat) : Array Field := match tinfo P t with
  | some i => match i.desc with
    | .struct fs => fs
    | _ => #[]
  | none => #[]

end Go.Ab
end
section
namespace Go.Ab

section
variable (P : Program) (T : Tab) (ρ : Operand → Value) (H : Heap) (d : Option Tmp) (ty : TypeId) (ps : String) (af : Array Edge) (gd : Option (Nat × Bool))

def outV (H : Heap) (x : Option Value) : Option Out := x.map fun v => .val v H
theorem outV_some (v : Value) : outV H (some v) = some (.val v H) := (rfl)
def outH (v : Value) (x : Option Heap) : Option Out := x.map fun H => .val v H
theorem outH_some (v : Value) : outH v (some H) = some (.val v H) := (rfl)
def outA (H : Heap) (x : Option (AObj × (Nat → Value))) : Option Out := x.map fun p => .val (p.2 H.next) (H.push p.1)
theorem outA_some (a : AObj) (f : Nat → Value) : outA H (some (a, f)) = some (.val (f H.next) (H.push a)) := (rfl)
def aopK (o : Oper) (k : Kind) : Option Out := match k with
  | .read => outV H (aread P T ρ o H)
  | .alloc => outA H (aalloc T ρ o)
  | .eff => aeff T ρ o H
theorem aop_eq (o : Oper) : aop P T ρ o H = aopK P T ρ H o (kindOf T o.op) := by
  unfold aop aopK outV outA
  cases kindOf T o.op <;> rfl
theorem aopK_read (o : Oper) : aopK P T ρ H o .read = outV H (aread P T ρ o H) := (rfl)
theorem aopK_alloc (o : Oper) : aopK P T ρ H o .alloc = outA H (aalloc T ρ o) := (rfl)
theorem aopK_eff (o : Oper) : aopK P T ρ H o .eff = aeff T ρ o H := (rfl)

/-! #### kinds -/
theorem k_move (x : Operand) : kindOf T (.move x) = .read := (rfl)
theorem k_assign (x : Operand) : kindOf T (.assign x) = .read := (rfl)
theorem k_pick (a b c : Operand) : kindOf T (.pick a b c) = .read := (rfl)
theorem k_load (t : TypeId) (x : Operand) : kindOf T (.load t x) = .read := (rfl)
theorem k_nilCheck (x : Operand) : kindOf T (.nilCheck x) = .read := (rfl)
theorem k_fieldAddr (t : TypeId) (x : Operand) (f : Nat) : kindOf T (.fieldAddr t x f) = .read := (rfl)
theorem k_field (t : TypeId) (x : Operand) (f : Nat) : kindOf T (.field t x f) = .read := (rfl)
theorem k_indexAddr (t : TypeId) (x y : Operand) : kindOf T (.indexAddr t x y) = .read := (rfl)
theorem k_index (t : TypeId) (x y : Operand) : kindOf T (.index t x y) = .read := (rfl)
theorem k_build (t : TypeId) (p : Array (Nat × Operand)) : kindOf T (.build t p) = .read := (rfl)
theorem k_binOp (op : BinOp) (t : TypeId) (x y : Operand) (u : TypeId) : kindOf T (.binOp op t x y u) = .read := (rfl)
theorem k_unOp (op : UnOp) (t : TypeId) (x : Operand) : kindOf T (.unOp op t x) = .read := (rfl)
theorem k_makeFunc (f : Fn) (x y : Array Operand) : kindOf T (.makeFunc f x y) = .read := (rfl)
theorem k_slice (t : TypeId) (x : Operand) (l h m : Option Operand) : kindOf T (.slice t x l h m) = .read := (rfl)
theorem k_extract (x : Operand) (i : Nat) : kindOf T (.extract x i) = .read := (rfl)
theorem k_len (x : Array Operand) (t : Array TypeId) : kindOf T (.call ⟨.builtin .len, x, t⟩) = .read := (rfl)
theorem k_append (x : Array Operand) (t : Array TypeId) : kindOf T (.call ⟨.builtin .append, x, t⟩) = .eff := (rfl)
theorem k_copy (x : Array Operand) (t : Array TypeId) : kindOf T (.call ⟨.builtin .copy, x, t⟩) = .eff := (rfl)
theorem k_call (f : Operand) (x : Array Operand) (t : Array TypeId) : kindOf T (.call ⟨.value f, x, t⟩) = .eff := (rfl)
theorem k_alloc (t : TypeId) : kindOf T (.alloc t) = .alloc := (rfl)
theorem k_box (t : TypeId) (x : Operand) : kindOf T (.box t x) = .alloc := (rfl)
theorem k_buildSlice (t : TypeId) (n : Nat) (p : Array (Nat × Operand)) : kindOf T (.buildSlice t n p) = .alloc := (rfl)
theorem k_makeSlice (t : TypeId) (x y : Operand) : kindOf T (.makeSlice t x y) = .alloc := (rfl)
theorem k_store (t : TypeId) (x y : Operand) : kindOf T (.store t x y) = .eff := (rfl)
theorem k_defer (c : Call) : kindOf T (.defer c) = .eff := (rfl)
def kConv (x : Option TInfo) : Kind := match x.map TInfo.desc with
  | some (.slice _) => .eff
  | _ => .read
theorem k_convert (s t : TypeId) (x : Operand) : kindOf T (.convert s t x) = kConv (T.ty t) := (rfl)
theorem kConv_int (k : IntKind) (a b : Nat) (z : Option Value) (c : Bool) (l : List (Nat × Nat)) : kConv (some ⟨.int k, a, b, z, c, l⟩) = .read := (rfl)

/-! #### reads -/
theorem r_move (x : Operand) : aread P T ρ ⟨d, .move x, ty, ps, af, gd⟩ H = some (ρ x) := (rfl)
theorem r_assign (x : Operand) : aread P T ρ ⟨d, .assign x, ty, ps, af, gd⟩ H = some (ρ x) := (rfl)
def pickO (c a b : Value) : Option Value := match c with
  | .bool t => some (bif t then a else b)
  | _ => none
theorem r_pick (c a b : Operand) : aread P T ρ ⟨d, .pick c a b, ty, ps, af, gd⟩ H = pickO (ρ c) (ρ a) (ρ b) := (rfl)
theorem pick_bool (t : Bool) (a b : Value) : pickO (.bool t) a b = some (bif t then a else b) := (rfl)
def loadO (H : Heap) (i : Option TInfo) (v : Value) : Option Value := match v, i with
  | .pointer (some ⟨b, o, none⟩), some i => loadC H i b o
  | _, _ => none
theorem r_load (t : TypeId) (x : Operand) : aread P T ρ ⟨d, .load t x, ty, ps, af, gd⟩ H = loadO H (T.ty t) (ρ x) := (rfl)
def cellO (x : AObj) (o : Nat) : Option Value := match x with
  | .cells _ _ c => c[o]?
  | _ => none
def segO (x : AObj) (o n : Nat) : Option Value := match x with
  | .cells _ _ c => (seg c o n).map fun l => .agg l.toArray
  | _ => none
theorem load_1 (de : TypeDesc) (s by_ : Nat) (z : Option Value) (f : List (Nat × Nat)) (b o : Nat) : loadO H (some ⟨de, s, by_, z, false, f⟩) (.pointer (some ⟨b, o, none⟩)) = cellO (H.get b) o := by
  simp only [loadO, loadC, cellO]
  cases H.get b <;> rfl
theorem load_n (de : TypeDesc) (s by_ : Nat) (z : Option Value) (f : List (Nat × Nat)) (b o : Nat) : loadO H (some ⟨de, s, by_, z, true, f⟩) (.pointer (some ⟨b, o, none⟩)) = segO (H.get b) o s := by
  simp only [loadO, loadC, segO]
  cases H.get b <;> rfl
theorem cellO_cells (own : Bool) (e : Nat) (c : List Value) (o : Nat) : cellO (.cells own e c) o = c[o]? := (rfl)
theorem segO_cells (own : Bool) (e : Nat) (c : List Value) (o n : Nat) : segO (.cells own e c) o n = (seg c o n).map fun l => .agg l.toArray := (rfl)
def nilO (v : Value) : Option Value := match v with
  | .pointer (some a) => some (.pointer (some a))
  | .func (.func f) fi ca => some (.func (.func f) fi ca)
  | .func (.yield f) fi ca => some (.func (.yield f) fi ca)
  | .iface t v => some (.iface t v)
  | _ => none
theorem r_nilCheck (x : Operand) : aread P T ρ ⟨d, .nilCheck x, ty, ps, af, gd⟩ H = nilO (ρ x) := (rfl)
theorem nil_ptr (a : Addr) : nilO (.pointer (some a)) = some (.pointer (some a)) := (rfl)
theorem nil_fun (f : FuncId) (a b : Array Value) : nilO (.func (.func f) a b) = some (.func (.func f) a b) := (rfl)
def faO (i : Option TInfo) (f : Nat) (v : Value) : Option Value := match i with
  | some ⟨.struct _, _, _, _, _, fields⟩ => match fields[f]? with
      | some (off, sz) => bif Nat.beq sz 0 then none else addOff off v
      | none => none
  | _ => none
theorem r_fieldAddr (t : TypeId) (x : Operand) (f : Nat) : aread P T ρ ⟨d, .fieldAddr t x f, ty, ps, af, gd⟩ H = faO (T.ty t) f (ρ x) := (rfl)
def faO2 (x : Option (Nat × Nat)) (v : Value) : Option Value := match x with
  | some (off, sz) => bif Nat.beq sz 0 then none else addOff off v
  | none => none
theorem fa_struct (fs : Array Field) (s by_ : Nat) (z : Option Value) (ag : Bool) (fields : List (Nat × Nat)) (f : Nat) (v : Value) : faO (some ⟨.struct fs, s, by_, z, ag, fields⟩) f v = faO2 fields[f]? v := (rfl)
theorem fa_ptr (off sz b o : Nat) : faO2 (some (off, sz + 1)) (.pointer (some ⟨b, o, none⟩)) = some (.pointer (some ⟨b, o + off, none⟩)) := (rfl)
def iaO (T : Tab) (i : Option TInfo) (v n : Value) : Option Value := match i, v, n with
    | some ⟨.slice e, _, _, _, _, _⟩, .slice (some ⟨b, o, none⟩) len _, .int _ n => match T.ty e with
      | some i => if 0 ≤ n ∧ n < len then some (.pointer (some ⟨b, o + n.toNat * i.size, none⟩)) else none
      | none => none
    | some ⟨.array len e, _, _, _, _, _⟩, .pointer (some ⟨b, o, none⟩), .int _ n => match T.ty e with
      | some i => if 0 ≤ n ∧ n < len then some (.pointer (some ⟨b, o + n.toNat * i.size, none⟩)) else none
      | none => none
    | _, _, _ => none
theorem r_indexAddr (t : TypeId) (x y : Operand) : aread P T ρ ⟨d, .indexAddr t x y, ty, ps, af, gd⟩ H = iaO T (T.ty t) (ρ x) (ρ y) := (rfl)
def iaO2 (i : Option TInfo) (b o len : Nat) (n : Int) : Option Value := match i with
  | some i => if 0 ≤ n ∧ n < len then some (.pointer (some ⟨b, o + n.toNat * i.size, none⟩)) else none
  | none => none
theorem ia_slice (e : TypeId) (s by_ : Nat) (z : Option Value) (ag : Bool) (fl : List (Nat × Nat)) (b o len cap : Nat) (k : IntKind) (n : Int) : iaO T (some ⟨.slice e, s, by_, z, ag, fl⟩) (.slice (some ⟨b, o, none⟩) len cap) (.int k n) = iaO2 (T.ty e) b o len n := (rfl)
theorem ia_array (len : Nat) (e : TypeId) (s by_ : Nat) (z : Option Value) (ag : Bool) (fl : List (Nat × Nat)) (b o : Nat) (k : IntKind) (n : Int) : iaO T (some ⟨.array len e, s, by_, z, ag, fl⟩) (.pointer (some ⟨b, o, none⟩)) (.int k n) = iaO2 (T.ty e) b o len n := (rfl)
theorem ia_in (i : TInfo) (b o len j : Nat) (h : j < len) : iaO2 (some i) b o len (j : Int) = some (.pointer (some ⟨b, o + j * i.size, none⟩)) := by
  have h2 : ((j : Int)) < (len : Int) := by omega
  simp only [iaO2, h2, Int.natCast_nonneg, and_self, if_true, Int.toNat_natCast]
theorem ia_int (i : TInfo) (b o len : Nat) (n : Int) (h0 : 0 ≤ n) (h1 : n < len) : iaO2 (some i) b o len n = some (.pointer (some ⟨b, o + n.toNat * i.size, none⟩)) := by
  simp only [iaO2, h0, h1, and_self, if_true]
def binO (P : Program) (T : Tab) (ρ : Operand → Value) (o : Oper) (op : BinOp) (t : TypeId) (vx vy : Value) : Option Value := match vx, vy with
    | .int k a, .int k' b => intOp op k a k' b
    | vx, vy => match isEq op with
      | some s => match eqC T t vx vy with
        | some b => some (.bool (b == s))
        | none => flatRun P ρ o
      | none => flatRun P ρ o
theorem r_binOp (op : BinOp) (t : TypeId) (x y : Operand) (u : TypeId) : aread P T ρ ⟨d, .binOp op t x y u, ty, ps, af, gd⟩ H = binO P T ρ ⟨d, .binOp op t x y u, ty, ps, af, gd⟩ op t (ρ x) (ρ y) := (rfl)
theorem bin_int (o : Oper) (op : BinOp) (t : TypeId) (k k' : IntKind) (a b : Int) : binO P T ρ o op t (.int k a) (.int k' b) = intOp op k a k' b := (rfl)
theorem i_add (k : IntKind) (a b : Int) : intOp .add k a k b = some (.int k (k.wrap (a + b))) := by simp [intOp]
theorem i_sub (k : IntKind) (a b : Int) : intOp .sub k a k b = some (.int k (k.wrap (a - b))) := by simp [intOp]
theorem i_mul (k : IntKind) (a b : Int) : intOp .mul k a k b = some (.int k (k.wrap (a * b))) := by simp [intOp]
theorem i_quo (k : IntKind) (a b : Int) (h : b ≠ 0) : intOp .quo k a k b = some (.int k (k.wrap (a.tdiv b))) := by simp [intOp, h]
theorem i_rem (k : IntKind) (a b : Int) (h : b ≠ 0) : intOp .rem k a k b = some (.int k (a.tmod b)) := by simp [intOp, h]
theorem i_eql (k : IntKind) (a b : Int) : intOp .eql k a k b = some (.bool (decide (a = b))) := by
  simp only [intOp, if_true]; congr 2
theorem i_neq (k : IntKind) (a b : Int) : intOp .neq k a k b = some (.bool (decide (a ≠ b))) := by
  simp only [intOp, if_true]; by_cases h : a = b <;> simp [h]
theorem i_lss (k : IntKind) (a b : Int) : intOp .lss k a k b = some (.bool (decide (a < b))) := by simp [intOp]
theorem i_leq (k : IntKind) (a b : Int) : intOp .leq k a k b = some (.bool (decide (a ≤ b))) := by simp [intOp]
theorem i_gtr (k : IntKind) (a b : Int) : intOp .gtr k a k b = some (.bool (decide (b < a))) := by simp [intOp]
theorem i_geq (k : IntKind) (a b : Int) : intOp .geq k a k b = some (.bool (decide (b ≤ a))) := by simp [intOp]
theorem i_and (k : IntKind) (a b : Int) : intOp .and k a k b = some (.int k (k.wrap ((BitVec.ofInt k.bits a &&& BitVec.ofInt k.bits b).toNat : Nat))) := by simp [intOp]
theorem i_or (k : IntKind) (a b : Int) : intOp .or k a k b = some (.int k (k.wrap ((BitVec.ofInt k.bits a ||| BitVec.ofInt k.bits b).toNat : Nat))) := by simp [intOp]
theorem i_xor (k : IntKind) (a b : Int) : intOp .xor k a k b = some (.int k (k.wrap ((BitVec.ofInt k.bits a ^^^ BitVec.ofInt k.bits b).toNat : Nat))) := by simp [intOp]
def notO (v : Value) : Option Value := match v with
  | .bool b => some (.bool (!b))
  | _ => none
theorem r_not (t : TypeId) (x : Operand) (b : Bool) (h : ρ x = .bool b) : aread P T ρ ⟨d, .unOp .not t x, ty, ps, af, gd⟩ H = some (.bool (!b)) := by simp only [aread, h]
def exO (v : Value) (i : Nat) : Option Value := match v with
  | .tuple vs => vs.toList[i]?
  | _ => none
theorem r_extract (x : Operand) (i : Nat) : aread P T ρ ⟨d, .extract x i, ty, ps, af, gd⟩ H = exO (ρ x) i := (rfl)
theorem ex_tuple (l : List Value) (i : Nat) : exO (.tuple l.toArray) i = l[i]? := by simp [exO]
theorem r_makeFunc (f : FuncId) (x y : Array Operand) : aread P T ρ ⟨d, .makeFunc (.func f) x y, ty, ps, af, gd⟩ H = some (.func (.func f) (x.map ρ) (y.map ρ)) := (rfl)
theorem r_slice (t : TypeId) (x : Operand) (l h m : Option Operand) : aread P T ρ ⟨d, .slice t x l h m, ty, ps, af, gd⟩ H = sliceC T H t (ρ x) (l.map ρ) (h.map ρ) (m.map ρ) := (rfl)
def lenO (i : Option TInfo) (v : Value) : Option Value := match i.map TInfo.desc, v with
  | some (.slice _), .slice _ n _ => some (.int .i64 n)
  | _, _ => none
theorem r_len (x : Operand) (t e : TypeId) (s by_ : Nat) (z : Option Value) (ag : Bool) (fl : List (Nat × Nat)) (h : T.ty t = some ⟨.slice e, s, by_, z, ag, fl⟩) : aread P T ρ ⟨d, .call ⟨.builtin .len, #[x], #[t]⟩, ty, ps, af, gd⟩ H = lenO (T.ty t) (ρ x) := by
  simp only [aread, lenC, descOf, lenO, h, Option.map_some, List.getElem?_toArray, List.getElem?_cons_zero]
  cases ρ x <;> rfl
theorem len_slice (e : TypeId) (s by_ : Nat) (z : Option Value) (ag : Bool) (fl : List (Nat × Nat)) (a : Option Addr) (n c : Nat) : lenO (some ⟨.slice e, s, by_, z, ag, fl⟩) (.slice a n c) = some (.int .i64 n) := (rfl)
def cvO (i : Option TInfo) (v : Value) : Option Value := match i, v with
  | some ⟨.int k, _, _, _, _, _⟩, .int _ n => some (.int k (k.wrap n))
  | _, _ => none
theorem r_convert (s t : TypeId) (x : Operand) (k0 k : IntKind) (n : Int) (k1 : IntKind) (a b a' b' : Nat) (z z' : Option Value) (c c' : Bool) (l l' : List (Nat × Nat)) (hs : T.ty s = some ⟨.int k0, a, b, z, c, l⟩) (ht : T.ty t = some ⟨.int k, a', b', z', c', l'⟩) (hx : ρ x = .int k1 n) :
    aread P T ρ ⟨d, .convert s t x, ty, ps, af, gd⟩ H = some (.int k (k.wrap n)) := by
  simp only [aread, descOf, hs, ht, hx, Option.map_some]
theorem r_build (t : TypeId) (p : List (Nat × Operand)) : aread P T ρ ⟨d, .build t p.toArray, ty, ps, af, gd⟩ H = fillBuild T t (p.map fun q => (q.1, ρ q.2)) := by simp only [aread]

/-! #### new blocks -/
def alO (i : Option TInfo) : Option (AObj × (Nat → Value)) := match i with
  | some ⟨_, sz, _, some z, _, _⟩ => if z.cells.toList.all oneCell = true then some (.cells true sz z.cells.toList, fun b => .pointer (some ⟨b, 0, none⟩)) else none
  | _ => none
theorem a_alloc (t : TypeId) : aalloc T ρ ⟨d, .alloc t, ty, ps, af, gd⟩ = alO (T.ty t) := (rfl)
def bxO (i : Option TInfo) (v : Value) : Option (AObj × (Nat → Value)) := if v.cells.toList.all oneCell = true then
      match i with
      | some i => some (.cells true i.size v.cells.toList, fun b => .pointer (some ⟨b, 0, none⟩))
      | none => none
    else none
theorem a_box (t : TypeId) (x : Operand) : aalloc T ρ ⟨d, .box t x, ty, ps, af, gd⟩ = bxO (T.ty t) (ρ x) := (rfl)

/-! #### effects -/
def stO (H : Heap) (i : Option TInfo) (a v : Value) : Option Out := match a, i with
  | .pointer (some ⟨b, o, none⟩), some i => outH undef (storeC H i b o v)
  | _, _ => none
theorem e_store (t : TypeId) (a v : Operand) : aeff T ρ ⟨d, .store t a v, ty, ps, af, gd⟩ H = stO H (T.ty t) (ρ a) (ρ v) := (rfl)
theorem st_ptr (i : TInfo) (b o : Nat) (v : Value) : stO H (some i) (.pointer (some ⟨b, o, none⟩)) v = outH undef (storeC H i b o v) := (rfl)
theorem st_cells (i : TInfo) (b o e : Nat) (v : Value) (c : List Value) (h : H.get b = .cells true e c) (h1 : v.cells.toList.length = i.size) (h2 : v.cells.toList.all oneCell = true) (h3 : o + i.size ≤ c.length) :
    storeC H i b o v = some (H.put b (.cells true e (setSeg c o v.cells.toList))) := by simp only [storeC, h, h1, h2, h3, and_self, if_true]
def hasFn (T : Tab) (f : FuncId) : Bool := match T.fn f with
  | some fn => fn.body.isSome
  | none => false
theorem e_call (f : Operand) (x : Array Operand) (t : Array TypeId) : aeff T ρ ⟨d, .call ⟨.value f, x, t⟩, ty, ps, af, gd⟩ H = fnOf T (ρ f) (x.map ρ) := by simp only [aeff]
theorem fn_call (g : FuncId) (a b c : Array Value) (h : hasFn T g = true) : fnOf T (.func (.func g) a b) c = some (.call g (a ++ c ++ b)) := by
  unfold hasFn at h
  simp only [fnOf]
  split at h
  · rename_i fn hfn
    rw [hfn]; simp [h]
  · cases h
theorem fn_call0 (g : FuncId) (c : Array Value) (h : hasFn T g = true) : fnOf T (.func (.func g) #[] #[]) c = some (.call g c) := by
  rw [fn_call T g _ _ _ h]; simp
theorem e_append (s x : Operand) (t : Array TypeId) : aeff T ρ ⟨d, .call ⟨.builtin .append, #[s, x], t⟩, ty, ps, af, gd⟩ H = appendC T H t (ρ s) (ρ x) := by simp only [aeff]
theorem e_copy (s x : Operand) (t : Array TypeId) : aeff T ρ ⟨d, .call ⟨.builtin .copy, #[s, x], t⟩, ty, ps, af, gd⟩ H = copyC T H t (ρ s) (ρ x) := by simp only [aeff]
theorem e_defer (f : FuncId) (a c : Array Value) (x : Operand) (as : Array Operand) (t : Array TypeId) (h : ρ x = .func (.func f) a c) : aeff T ρ ⟨d, .defer ⟨.value x, as, t⟩, ty, ps, af, gd⟩ H = some (.dfr { target := .fn (.func f) c, args := a ++ as.map ρ }) := by simp only [aeff, h, dfrOf]
end

/-! #### the frame -/
section
variable (tm : Tr Value)
theorem ev_tmp (t : Nat) : evalT tm (.tmp t) = (tm.get t).getD undef := (rfl)
theorem ev_const (v : Value) : evalT tm (.const v) = v := (rfl)
theorem ev_func (f : FuncId) : evalT tm (.func f) = .func (.func f) #[] #[] := (rfl)
theorem put_some (d : Tmp) (v : Value) : putT tm (some d) v = tm.set 9 d v := (rfl)
theorem put_none (v : Value) : putT tm none v = tm := (rfl)
theorem get_ne (k j : Nat) (v : Value) (h : j ≠ k) : (tm.set 9 k v).get j = tm.get j := by rw [Tr.get_set, if_neg h]
theorem get_eq (k : Nat) (v : Value) : (tm.set 9 k v).get k = some v := by rw [Tr.get_set, if_pos rfl]
theorem wanted_none (ops : Array Oper) (d : Option Tmp) (op : Op) (ty : TypeId) (ps : String) (af : Array Edge) : wantedC ops tm ⟨d, op, ty, ps, af, none⟩ = true := (rfl)
def gBool (v : Value) (b : Bool) : Bool := match v with
  | .bool x => x == b
  | _ => false
def gOf (tm : Tr Value) (d : Option Tmp) (b : Bool) : Bool := match d with
  | some d => gBool (evalT tm (.tmp d)) b
  | none => false
theorem wanted_some (ops : Array Oper) (d : Option Tmp) (op : Op) (ty : TypeId) (ps : String) (af : Array Edge) (j : Nat) (b : Bool) : wantedC ops tm ⟨d, op, ty, ps, af, some (j, b)⟩ = gOf tm ((ops[j]?).bind (·.dst)) b := (rfl)
theorem gOf_some (d : Tmp) (b : Bool) : gOf tm (some d) b = gBool (evalT tm (.tmp d)) b := (rfl)
theorem gBool_t (x : Bool) : gBool (.bool x) true = x := by cases x <;> rfl
theorem gBool_f (x : Bool) : gBool (.bool x) false = !x := by cases x <;> rfl
theorem init_nil (k : Nat) (t : Tr Value) : initTm k [] t = t := (rfl)
theorem init_cons (k : Nat) (v : Value) (l : List Value) (t : Tr Value) : initTm k (v :: l) t = initTm (k + 1) l (t.set 9 k v) := (rfl)
theorem res_nil (T : Tab) (H : Heap) : resultsC T tm H [] = some [] := (rfl)
theorem res_tmp (T : Tab) (H : Heap) (t : Nat) (rs : List ResultVar) : resultsC T tm H (.tmp t :: rs) = (resultsC T tm H rs).map fun l => evalT tm (.tmp t) :: l := (rfl)
theorem retOf_one (v : Value) : retOf [v] = v := (rfl)
theorem retOf_two (v u : Value) (l : List Value) : retOf (v :: u :: l) = .tuple (v :: u :: l).toArray := (rfl)
theorem KL_one (P : Program) (T : Tab) (ng : Nat) (tm : Tr Value) (Q : Ret → Heap → Prop) (t : Nat) (H : Heap) : KL P T ng [.tmp t] tm Q [] H = Q (.ret (evalT tm (.tmp t))) H := by
  simp [KL, resultsC, retOf]
end

theorem CN_b {P : Program} {T : Tab} {ng : Nat} {x y : Code} {k : Exit → St → Prop} {st : St} {b : Bool} (h1 : b = true → wpc P T ng x k st) (h2 : b = false → wpc P T ng y k st) : CN P T ng x y k st (.bool b) := by
  cases b
  · rw [CN_false]; exact h2 rfl
  · rw [CN_true]; exact h1 rfl
def RWn (P : Program) (T : Tab) (ng : Nat) (ops : Array Oper) (k : Exit → St → Prop) (o : Oper) (rest : List Oper) (st : St) (b : Bool) : Prop := RW P T ng ops k o rest st (!b)
theorem RW_not {P : Program} {T : Tab} {ng : Nat} {ops : Array Oper} {k : Exit → St → Prop} {o : Oper} {rest : List Oper} {st : St} {b : Bool} : RW P T ng ops k o rest st (!b) = RWn P T ng ops k o rest st b := (rfl)
theorem RWn_b {P : Program} {T : Tab} {ng : Nat} {ops : Array Oper} {k : Exit → St → Prop} {o : Oper} {rest : List Oper} {st : St} {b : Bool} (h1 : b = true → RW P T ng ops k o rest st false) (h2 : b = false → RW P T ng ops k o rest st true) : RWn P T ng ops k o rest st b := by
  cases b
  · exact h2 rfl
  · exact h1 rfl
theorem RW_b {P : Program} {T : Tab} {ng : Nat} {ops : Array Oper} {k : Exit → St → Prop} {o : Oper} {rest : List Oper} {st : St} {b : Bool} (h1 : b = true → RW P T ng ops k o rest st true) (h2 : b = false → RW P T ng ops k o rest st false) : RW P T ng ops k o rest st b := by
  cases b
  · exact h2 rfl
  · exact h1 rfl

/-! #### heaps -/
theorem H_get_new (H : Heap) (a : AObj) : (H.push a).get H.next = a := by rw [Heap.get_push, if_pos rfl]
theorem H_get_old (H : Heap) (a : AObj) (b : Nat) (h : b < H.next) : (H.push a).get b = H.get b := by rw [Heap.get_push, if_neg (by omega)]
theorem H_put_same (H : Heap) (a : AObj) (b : Nat) : (H.put b a).get b = a := by rw [Heap.get_put, if_pos rfl]
theorem H_put_other (H : Heap) (a : AObj) (b j : Nat) (h : j ≠ b) : (H.put b a).get j = H.get j := by rw [Heap.get_put, if_neg h]

/-- nothing that was there is touched -/
structure Ext (H H' : Heap) : Prop where
  le : H.next ≤ H'.next
  get : ∀ b, b < H.next → H'.get b = H.get b
theorem Ext.refl (H : Heap) : Ext H H := ⟨Nat.le_refl _, fun _ _ => rfl⟩
theorem Ext.trans {H H' H'' : Heap} (h : Ext H H') (h' : Ext H' H'') : Ext H H'' := ⟨Nat.le_trans h.le h'.le, fun b hb => (h'.get b (Nat.lt_of_lt_of_le hb h.le)).trans (h.get b hb)⟩
theorem Ext.push {H0 H : Heap} (h : Ext H0 H) (a : AObj) : Ext H0 (H.push a) := h.trans ⟨Nat.le_succ _, fun b hb => H_get_old H a b hb⟩
theorem Ext.put {H0 H : Heap} (h : Ext H0 H) {b : Nat} (hb : H0.next ≤ b) (a : AObj) : Ext H0 (H.put b a) := ⟨h.le, fun j hj => by rw [H_put_other H a b j (by omega)]; exact h.get j hj⟩

attribute [irreducible] RWn aopK outV outH outA

end Go.Ab
end
section
namespace Go.Ab

/-! ### lists of elements of one size -/
section
variable {α : Type} {f : α → List Value} {m : Nat}

theorem fm_length (hf : ∀ x, (f x).length = m) : ∀ l : List α, (l.flatMap f).length = l.length * m
  | [] => by simp
  | x :: l => by simp only [List.flatMap_cons, List.length_append, hf, fm_length hf l, List.length_cons, Nat.succ_mul]; omega
theorem fm_get (hf : ∀ x, (f x).length = m) : ∀ (l : List α) (i k : Nat) (x : α), l[i]? = some x → k < m → (l.flatMap f)[i * m + k]? = (f x)[k]?
  | [], i, k, x, h, _ => by simp at h
  | y :: l, 0, k, x, h, hk => by
    simp at h; subst h
    simp only [List.flatMap_cons, Nat.zero_mul, Nat.zero_add]
    rw [List.getElem?_append_left (by rw [hf]; exact hk)]
  | y :: l, i + 1, k, x, h, hk => by
    simp at h
    simp only [List.flatMap_cons]
    rw [List.getElem?_append_right (by rw [hf, Nat.succ_mul]; omega), hf, show (i + 1) * m + k - m = i * m + k by rw [Nat.succ_mul]; omega]
    exact fm_get hf l i k x h hk
theorem fm_get0 (hf : ∀ x, (f x).length = m) (l : List α) (i : Nat) (x : α) (h : l[i]? = some x) (hm : 0 < m) : (l.flatMap f)[i * m]? = (f x)[0]? := fm_get hf l i 0 x h hm
theorem fm_seg (hf : ∀ x, (f x).length = m) : ∀ (l : List α) (i : Nat) (x : α), l[i]? = some x → seg (l.flatMap f) (i * m) m = some (f x)
  | [], i, x, h => by simp at h
  | y :: l, 0, x, h => by
    simp at h; subst h
    unfold seg
    rw [fm_length hf, Nat.zero_mul, Nat.zero_add, if_pos (by simp only [List.length_cons, Nat.succ_mul]; omega)]
    simp only [List.drop_zero, List.flatMap_cons]
    rw [List.take_append_of_le_length (by rw [hf]; omega), List.take_of_length_le (by rw [hf]; omega)]
  | y :: l, i + 1, x, h => by
    simp at h
    have ih := fm_seg hf l i x h
    unfold seg at ih ⊢
    rw [fm_length hf] at ih ⊢
    split at ih
    · rename_i hle
      rw [if_pos (by simp only [List.length_cons, Nat.succ_mul]; omega)]
      simp only [List.flatMap_cons]
      rw [show (i + 1) * m = (f y).length + i * m by rw [hf, Nat.succ_mul]; omega, List.drop_append, List.drop_of_length_le (by omega), List.nil_append, Nat.add_sub_cancel_left]
      exact ih
    · cases ih
end

/-- a slice that is read -/
structure IsSl (H : Heap) (sz : Nat) (v : Value) (n : Nat) (c : List Value) : Prop where
  ex : ∃ b cap, v = .slice b n cap ∧ c.length = n * sz ∧ (b = none → cap = 0) ∧ (∀ a, b = some a → a.spot = none) ∧ (n ≠ 0 → ∃ bk own, b = some ⟨bk, 0, none⟩ ∧ bk < H.next ∧ H.get bk = .cells own sz c)

theorem IsSl.ext {H H' : Heap} {sz n : Nat} {v : Value} {c : List Value} (h : IsSl H sz v n c) (hE : Ext H H') : IsSl H' sz v n c := by
  obtain ⟨b, cap, h1, h2, h3, h5, h4⟩ := h.ex
  exact ⟨b, cap, h1, h2, h3, h5, fun hn => let ⟨bk, own, k1, k2, k3⟩ := h4 hn; ⟨bk, own, k1, Nat.lt_of_lt_of_le k2 hE.le, by rw [hE.get _ k2]; exact k3⟩⟩

/-! ### wrapping -/
theorem wrap_i64 (n : Int) (h1 : -9223372036854775808 ≤ n) (h2 : n < 9223372036854775808) : IntKind.i64.wrap n = n := by
  have e1 : (2 : Int) ^ 64 = 18446744073709551616 := by decide
  have e2 : (2 : Int) ^ (64 - 1) = 9223372036854775808 := by decide
  simp only [IntKind.wrap, IntKind.bits, IntKind.signed, Bool.true_and, decide_eq_true_eq, e1, e2]
  split <;> omega
theorem wrap_u32 (n : Int) (h1 : 0 ≤ n) (h2 : n < 4294967296) : IntKind.u32.wrap n = n := by
  simp only [IntKind.wrap, IntKind.bits, IntKind.signed, Bool.false_and, Bool.false_eq_true, if_false]
  omega

end Go.Ab
end
section
namespace Go.Ab

/-- all but some blocks are as they were -/
structure Mod (X : Nat → Prop) (H H' : Heap) : Prop where
  le : H.next ≤ H'.next
  get : ∀ b, b < H.next → ¬ X b → H'.get b = H.get b
theorem Mod.refl (X : Nat → Prop) (H : Heap) : Mod X H H := ⟨Nat.le_refl _, fun _ _ _ => rfl⟩
theorem Mod.trans {X Y : Nat → Prop} {H H' H'' : Heap} (h : Mod X H H') (h' : Mod Y H' H'') (hY : ∀ b, b < H.next → Y b → X b) : Mod X H H'' :=
  ⟨Nat.le_trans h.le h'.le, fun b hb hn => (h'.get b (Nat.lt_of_lt_of_le hb h.le) (fun hy => hn (hY b hb hy))).trans (h.get b hb hn)⟩
theorem Mod.ext {X : Nat → Prop} {H H' : Heap} (h : Mod X H H') (hX : ∀ b, b < H.next → ¬ X b) : Ext H H' := ⟨h.le, fun b hb => h.get b hb (hX b hb)⟩
theorem Ext.mod {X : Nat → Prop} {H H' : Heap} (h : Ext H H') : Mod X H H' := ⟨h.le, fun b hb _ => h.get b hb⟩
theorem Ext.thenMod {X : Nat → Prop} {H H' H'' : Heap} (h : Ext H H') (h' : Mod X H' H'') (hX : ∀ b, X b → H.next ≤ b) : Ext H H'' :=
  ⟨Nat.le_trans h.le h'.le, fun b hb => (h'.get b (Nat.lt_of_lt_of_le hb h.le) (fun hx => by have := hX b hx; omega)).trans (h.get b hb)⟩

/-- a slice of one's own: its block, which holds it and no more -/
inductive Own1 (H : Heap) (sz : Nat) (c : List Value) : Value → Nat → Option Nat → Prop where
  | nil (h : c = []) : Own1 H sz c (.slice none 0 0) 0 none
  | blk (k n : Nat) (h1 : k < H.next) (h2 : H.get k = .cells true sz c) (h3 : c.length = n * sz) : Own1 H sz c (.slice (some ⟨k, 0, none⟩) n n) n (some k)

theorem Own1.isSl {H : Heap} {sz n : Nat} {v : Value} {c : List Value} {b : Option Nat} (h : Own1 H sz c v n b) : IsSl H sz v n c := by
  cases h with
  | nil h => subst h; exact ⟨none, 0, rfl, by simp, fun _ => rfl, (fun a h => by cases h), fun h => absurd rfl h⟩
  | blk k n h1 h2 h3 => exact ⟨_, _, rfl, h3, (fun h => by simp at h), (fun a h => by cases h; rfl), fun _ => ⟨k, true, rfl, h1, h2⟩⟩

theorem Own1.mod {X : Nat → Prop} {H H' : Heap} {sz n : Nat} {v : Value} {c : List Value} {b : Option Nat} (h : Own1 H sz c v n b) (hm : Mod X H H') (hX : ∀ k, b = some k → ¬ X k) : Own1 H' sz c v n b := by
  cases h with
  | nil h => exact .nil h
  | blk k n h1 h2 h3 => exact .blk k n (Nat.lt_of_lt_of_le h1 hm.le) (by rw [hm.get k h1 (hX k rfl)]; exact h2) h3

theorem Own1.at {H : Heap} {sz n : Nat} {v : Value} {c : List Value} {k : Nat} {b : Option Nat} (h : Own1 H sz c v n b) (hb : b = some k) : k < H.next ∧ H.get k = .cells true sz c ∧ v = .slice (some ⟨k, 0, none⟩) n n ∧ c.length = n * sz := by
  cases h with
  | nil h => cases hb
  | blk k n h1 h2 h3 => cases hb; exact ⟨h1, h2, rfl, h3⟩
theorem Own1.one {H : Heap} {sz n : Nat} {v : Value} {c : List Value} {b : Option Nat} (h : Own1 H sz c v n b) : v.cells = #[v] ∧ oneCell v = true := by
  cases h <;> exact ⟨rfl, rfl⟩
theorem Own1.len {H : Heap} {sz n : Nat} {v : Value} {c : List Value} {b : Option Nat} (h : Own1 H sz c v n b) : ∃ a, v = .slice a n n := by
  cases h <;> exact ⟨_, rfl⟩

theorem IsSl.mod {X : Nat → Prop} {H H' : Heap} {sz n : Nat} {v : Value} {c : List Value} (h : IsSl H sz v n c) (hm : Mod X H H') (hX : ∀ a cap k o, v = .slice (some a) n cap → a = ⟨k, o, none⟩ → n ≠ 0 → ¬ X k) : IsSl H' sz v n c := by
  obtain ⟨b, cap, h1, h2, h3, h5, h4⟩ := h.ex
  refine ⟨b, cap, h1, h2, h3, h5, fun hn => ?_⟩
  obtain ⟨bk, own, k1, k2, k3⟩ := h4 hn
  exact ⟨bk, own, k1, Nat.lt_of_lt_of_le k2 hm.le, by rw [hm.get bk k2 (hX _ cap bk 0 (by rw [h1, k1]) rfl hn)]; exact k3⟩

theorem seg_all (c : List Value) (n : Nat) (h : c.length = n) : seg c 0 n = some c := by
  unfold seg
  rw [if_pos (by omega)]
  simp [← h]

theorem IsSl.head {H : Heap} {sz n : Nat} {v : Value} {c : List Value} (h : IsSl H sz v n c) (hcap : n ≠ 0 → ∃ a cap, v = .slice a n cap ∧ cap ≠ 0) : headCells H (n * sz) v = some c := by
  obtain ⟨b, cap, rfl, h2, h3, h5, h4⟩ := h.ex
  by_cases hn : n = 0
  · subst hn
    have hc : c = [] := by simpa using h2
    subst hc
    cases b with
    | none => rw [h3 rfl]; simp [headCells]
    | some a =>
      obtain ⟨bk, o, st⟩ := a
      have : st = none := h5 _ rfl
      subst this
      simp [headCells]
  · obtain ⟨bk, own, rfl, k2, k3⟩ := h4 hn
    obtain ⟨a, cap', he, hc⟩ := hcap hn
    cases he
    simp only [headCells]
    by_cases hz : n * sz = 0
    · have : c = [] := by
        rw [hz] at h2
        exact List.length_eq_zero_iff.1 h2
      rw [hz, this]; rfl
    · have e1 : Nat.beq (n * sz) 0 = false := by cases hb : Nat.beq (n * sz) 0 with
        | false => rfl
        | true => exact absurd ((beq_iff _ _).1 hb) hz
      have e2 : Nat.beq cap 0 = false := by cases hb : Nat.beq cap 0 with
        | false => rfl
        | true => exact absurd ((beq_iff _ _).1 hb) hc
      rw [e1, e2, k3]
      exact seg_all c _ h2

section
variable {T : Tab} {t0 t1 e e1 : TypeId} {de : TypeDesc} {sz by_ : Nat} {z : Value} {ag : Bool} {fl : List (Nat × Nat)} {a1 a2 b1 b2 : Nat} {a3 b3 : Option Value} {a4 b4 : Bool} {a5 b5 : List (Nat × Nat)}

theorem append_ok (h0 : T.ty t0 = some ⟨.slice e, a1, a2, a3, a4, a5⟩) (h1 : T.ty t1 = some ⟨.slice e1, b1, b2, b3, b4, b5⟩) (he : T.ty e = some ⟨de, sz, by_, some z, ag, fl⟩) (hz : z.cells.toList.length = sz)
    {H : Heap} {v x : Value} {n m : Nat} {c nw : List Value} {b : Option Nat} (hv : Own1 H sz c v n b) (hx : ∃ a cap, x = .slice a m cap) (hh : headCells H (m * sz) x = some nw) (hl : nw.length = m * sz) (hone : nw.all oneCell = true) (hb1 : (n + m) * by_ ≤ 140737488355328) (hb2 : n + m < 9223372036854775807) :
    ∃ v' H' b', appendC T H #[t0, t1] v x = some (.val v' H') ∧ Own1 H' sz (c ++ nw) v' (n + m) b' ∧ Mod (fun j => b = some j) H H' ∧ (b' = b ∨ b' = some H.next) ∧ (m ≠ 0 → b' = some H.next) := by
  obtain ⟨a, cap, rfl⟩ := hx
  have hnews : newsOf T H ⟨de, sz, by_, some z, ag, fl⟩ (.slice a m cap) (.slice e1) = some (m, nw) := by simp [newsOf, appendNews, hh]
  have hA : appendC T H #[t0, t1] v (.slice a m cap) = match (generalizing := false) v with
        | .slice none 0 0 =>
          if m = 0 then some (.val (.slice none 0 0) H)
          else if m * by_ ≤ 140737488355328 ∧ m < 9223372036854775807 then
            some (.val (.slice (some ⟨H.next, 0, none⟩) m m) (H.push (.cells true sz nw))) else none
        | .slice (some ⟨b, o, none⟩) len cap =>
          match H.get b with
          | .cells true esz c =>
            if esz = sz ∧ o + len * sz ≤ c.length then
              if len + m ≤ cap then
                if o + (len + m) * sz ≤ c.length then
                  some (.val (.slice (some ⟨b, o, none⟩) (len + m) cap) (H.put b (.cells true esz (setSeg c (o + len * sz) nw)))) else none
              else if (len + m) * by_ ≤ 140737488355328 ∧ len + m < 9223372036854775807 then
                some (.val (.slice (some ⟨H.next, 0, none⟩) (len + m) (len + m)) ((H.put b .dead).push (.cells true sz ((c.drop o).take (len * sz) ++ nw)))) else none
            else none
          | _ => none
        | _ => none := by
    simp only [appendC, List.getElem?_toArray, List.getElem?_cons_zero, List.getElem?_cons_succ, h0, h1, he, Option.map_some, hnews, hz, hone, and_self, if_true]
    rfl
  rw [hA]
  cases hv with
  | nil hc =>
    subst hc
    simp only [Nat.zero_add] at *
    by_cases hm : m = 0
    · subst hm
      have hnw : nw = [] := by simpa using hl
      subst hnw
      exact ⟨_, H, none, by simp, .nil rfl, .refl _ _, .inl rfl, fun h => absurd rfl h⟩
    · refine ⟨_, H.push (.cells true sz nw), some H.next, by rw [if_neg hm, if_pos ⟨hb1, hb2⟩], .blk _ _ (Nat.lt_succ_self _) (H_get_new _ _) (by simpa using hl), ⟨Nat.le_succ _, fun j hj _ => H_get_old _ _ _ hj⟩, .inr rfl, fun _ => rfl⟩
  | blk k n k1 k2 k3 =>
    simp only [k2]
    rw [if_pos ⟨trivial, by omega⟩]
    by_cases hm : m = 0
    · subst hm
      have hnw : nw = [] := by simpa using hl
      subst hnw
      rw [if_pos (by omega), if_pos (by simp [k3])]
      refine ⟨_, _, some k, rfl, .blk _ _ k1 (by rw [H_put_same]; simp [setSeg]) (by simpa using k3), ⟨Nat.le_refl _, fun j hj hn => H_put_other _ _ _ _ (fun e => hn (by rw [e]))⟩, .inl rfl, fun h => absurd rfl h⟩
    · rw [if_neg (by omega), if_pos ⟨hb1, hb2⟩]
      refine ⟨_, _, some H.next, rfl, .blk _ _ (Nat.lt_succ_self _) ?_ ?_, ⟨Nat.le_succ _, fun j hj hn => ?_⟩, .inr rfl, fun _ => rfl⟩
      · have : ((H.put k .dead).push (.cells true sz (List.take (n * sz) (List.drop 0 c) ++ nw))).get H.next = .cells true sz (List.take (n * sz) (List.drop 0 c) ++ nw) := H_get_new _ _
        rw [this, List.drop_zero, List.take_of_length_le (by omega)]
      · simp [k3, hl, Nat.add_mul]
      · rw [H_get_old _ _ _ (show j < (H.put k .dead).next from hj), H_put_other _ _ _ _ (fun e => hn (by rw [e]))]
end

end Go.Ab
end
section
namespace Go.Ab

def rdOp : Op → Bool
  | .move _ | .assign _ | .pick _ _ _ | .load _ _ | .nilCheck _ | .fieldAddr _ _ _ | .field _ _ _ | .indexAddr _ _ _ | .index _ _ _ | .build _ _ | .binOp _ _ _ _ _ | .unOp _ _ _ | .makeFunc _ _ _ | .slice _ _ _ _ _ | .extract _ _ => true
  | .call c => match c.callee with
    | .builtin .len => true
    | _ => false
  | _ => false

theorem rdOp_kind {T : Tab} {op : Op} (h : rdOp op = true) : kindOf T op = .read := by
  cases op <;> simp only [rdOp, Bool.false_eq_true] at h <;> try rfl
  rename_i c
  obtain ⟨callee, args, ats⟩ := c
  cases callee <;> simp only [Bool.false_eq_true] at h
  rename_i b
  cases b <;> simp only [Bool.false_eq_true] at h <;> rfl

/-- such a region is fit -/
def rdCheck (sz : Nat) (ops : Array Oper) : Bool := ops.toList.all (fun o => rdOp o.op && dstOk sz o.dst) && tmpOK ops (Region.before ops) && orderOK ops

section
variable {P : Program} {T : Tab} {ng : Nat}

theorem RO_reads {ops : Array Oper} {B : Array Nat} {base : Nat} {k : Exit → St → Prop} {sz : Nat} {df : List Deferred} {rd : Bool} {H : Heap} {K : DS → Prop} : ∀ (rest : List Oper) (s : DS), (∀ o ∈ rest, rdOp o.op = true) → s.objs = [] → s.hist = [] → s.G = H →
    RO P T ng ops k rest ⟨s.tm, sz, df, rd, H⟩ → (∀ s' : DS, s'.objs = [] → s'.G = H → k .normal ⟨s'.tm, sz, df, rd, H⟩ → K s') → DO P T ng ops B base K rest s
  | [], s, _, h1, _, h3, h, hK => by
    rw [DO_nil]; rw [RO_nil] at h
    exact hK s h1 h3 h
  | o :: rest, s, hr, h1, h2, h3, h, hK => by
    have hk := rdOp_kind (T := T) (hr o (by simp))
    have hr' : ∀ o ∈ rest, rdOp o.op = true := fun o ho => hr o (by simp [ho])
    rw [RO_cons] at h
    rw [DO_cons]
    cases hw : wantedC ops s.tm o with
    | false =>
      rw [hw, RW_false] at h
      rw [DW_false]
      exact RO_reads rest _ hr' h1 h2 h3 h hK
    | true =>
      rw [hw, RW_true] at h
      rw [DW_true, hk, DK_read, h1]
      simp only [withA, h3]
      simp only [aop, hk] at h
      cases hv : aread P T (evalT s.tm) o H with
      | none =>
        rw [hv] at h
        simp only [Option.map_none] at h
        unfold RA at h
        exact h.elim
      | some v =>
        rw [hv] at h
        simp only [Option.map_some, RA_val] at h
        rw [DR_some, h2]
        exact ⟨trivial, RO_reads rest _ hr' h1 rfl h3 h hK⟩

theorem DRg_reads (hT : T.Ok P ng) {ops : Array Oper} {k : Exit → St → Prop} {st : St} (n sz : Nat) (hn : ops.size = n) (hs : st.sz = sz) (hc : rdCheck sz ops = true) (h : RO P T ng ops k ops.toList ⟨st.tm, st.sz, st.defers, st.rd, st.heap.skip n⟩) : DRg P T ng ops k st := by
  subst hs
  unfold rdCheck at hc
  simp only [Bool.and_eq_true] at hc
  obtain ⟨⟨hc1, hc2⟩, hc3⟩ := hc
  rw [List.all_eq_true] at hc1
  have hr : ∀ o ∈ ops.toList, rdOp o.op = true := fun o ho => by have := hc1 o ho; simp only [Bool.and_eq_true] at this; exact this.1
  have hd : ops.toList.all (fun o => dstOk st.sz o.dst) = true := by
    rw [List.all_eq_true]
    intro o ho
    have := hc1 o ho
    simp only [Bool.and_eq_true] at this; exact this.2
  subst hn
  refine DRg_intro hT (Region.before ops) (by simp only [drawCheck, hc2, hc3, decide_true, Bool.and_self]) hd ?_
  refine RO_reads (H := st.heap.skip ops.size) _ _ hr rfl rfl rfl h ?_
  intro s' h1 h2 hk
  unfold KDS
  rw [h1, h2]
  exact hk
end

theorem Ext.skip {H0 H : Heap} (h : Ext H0 H) (n : Nat) : Ext H0 (H.skip n) := h.trans ⟨Nat.le_add_right _ _, fun _ _ => rfl⟩
end Go.Ab
end
section
namespace Go.Ab

section
variable (P : Program) (T : Tab) (ρ : Operand → Value) (H : Heap) (d : Option Tmp) (ty : TypeId) (ps : String) (af : Array Edge) (gd : Option (Nat × Bool))

def fbO (i : Option TInfo) (parts : List (Nat × Value)) (dflt : Option Value) : Option Value := match i with
  | some ⟨.struct _, _, _, some z, _, fields⟩ => (fillL (fun i => fields[i]?) z.cells.toList parts).map fun l => .agg l.toArray
  | _ => dflt
theorem fb_eq (t : TypeId) (parts : List (Nat × Value)) : fillBuild T t parts = fbO (T.ty t) parts (fillBuild T t parts) := by
  unfold fbO
  split
  · rename_i heq; simp only [fillBuild, heq]
  · rfl
def fillO (fields : List (Nat × Nat)) (cells : List Value) (parts : List (Nat × Value)) : Option Value := (fillL (fun i => fields[i]?) cells parts).map fun l => .agg l.toArray
theorem fb_struct (fs : Array Field) (s b : Nat) (l : List Value) (ag : Bool) (fields : List (Nat × Nat)) (parts : List (Nat × Value)) (dflt : Option Value) :
    fbO (some ⟨.struct fs, s, b, some (.agg l.toArray), ag, fields⟩) parts dflt = fillO fields l parts := (rfl)
theorem r_buildS (t : TypeId) (p : List (Nat × Operand)) : aread P T ρ ⟨d, .build t p.toArray, ty, ps, af, gd⟩ H = fbO (T.ty t) (p.map fun q => (q.1, ρ q.2)) (fillBuild T t (p.map fun q => (q.1, ρ q.2))) := by
  rw [← fb_eq]; exact r_build P T ρ H d ty ps af gd t p
theorem fillO_nil (fields : List (Nat × Nat)) (cells : List Value) : fillO fields cells [] = some (.agg cells.toArray) := (rfl)
def fillP (fields : List (Nat × Nat)) (cells : List Value) (rest : List (Nat × Value)) (v : Value) (q : Option (Nat × Nat)) : Option Value := match q with
  | none => none
  | some q => if v.cells.toList.length = q.2 ∧ q.1 + q.2 ≤ cells.length then fillO fields (setSeg cells q.1 v.cells.toList) rest else none
theorem fillO_cons (fields : List (Nat × Nat)) (cells : List Value) (i : Nat) (v : Value) (rest : List (Nat × Value)) : fillO fields cells ((i, v) :: rest) = fillP fields cells rest v fields[i]? := by
  unfold fillP fillO
  simp only [fillL]
  cases fields[i]? with
  | none => rfl
  | some q => simp only; split <;> rfl
theorem fillP_some (fields : List (Nat × Nat)) (cells : List Value) (rest : List (Nat × Value)) (v : Value) (o n : Nat) (h : v.cells.toList.length = n) (h2 : o + n ≤ cells.length) : fillP fields cells rest v (some (o, n)) = fillO fields (setSeg cells o v.cells.toList) rest := by
  simp only [fillP, h, h2, and_self, if_true]

/-! slices -/
def bsO (T : Tab) (i : Option TInfo) (len : Nat) (parts : List (Nat × Value)) : Option (AObj × (Nat → Value)) := match i with
    | some ⟨.slice e, _, _, _, _, _⟩ => match T.ty e with
      | some i => if len * i.size ≤ 16777216 then
          match i.zero with
          | some z => if z.cells.toList.length = i.size then
              match fillL (fun k => some (k * i.size, i.size)) (rep z.cells.toList len) parts with
              | some cs => if cs.all oneCell = true then some (.cells true i.size cs, fun b => .slice (some ⟨b, 0, none⟩) len len) else none
              | none => none
            else none
          | none => none
        else none
      | none => none
    | _ => none
theorem a_buildSlice (t : TypeId) (n : Nat) (p : List (Nat × Operand)) : aalloc T ρ ⟨d, .buildSlice t n p.toArray, ty, ps, af, gd⟩ = bsO T (T.ty t) n (p.map fun q => (q.1, ρ q.2)) := (rfl)
def bsE (i : Option TInfo) (len : Nat) (parts : List (Nat × Value)) : Option (AObj × (Nat → Value)) := match i with
      | some i => if len * i.size ≤ 16777216 then
          match i.zero with
          | some z => if z.cells.toList.length = i.size then
              match fillL (fun k => some (k * i.size, i.size)) (rep z.cells.toList len) parts with
              | some cs => if cs.all oneCell = true then some (.cells true i.size cs, fun b => .slice (some ⟨b, 0, none⟩) len len) else none
              | none => none
            else none
          | none => none
        else none
      | none => none
theorem bs_slice (e : TypeId) (s by_ : Nat) (z : Option Value) (ag : Bool) (fl : List (Nat × Nat)) (n : Nat) (parts : List (Nat × Value)) : bsO T (some ⟨.slice e, s, by_, z, ag, fl⟩) n parts = bsE (T.ty e) n parts := (rfl)
theorem bsE_0 (de : TypeDesc) (s by_ : Nat) (z : Value) (ag : Bool) (fl : List (Nat × Nat)) (hz : z.cells.toList.length = s) : bsE (some ⟨de, s, by_, some z, ag, fl⟩) 0 [] = some (.cells true s [], fun b => .slice (some ⟨b, 0, none⟩) 0 0) := by
  simp [bsE, hz, fillL, rep]
theorem setSeg_whole : ∀ (c vs : List Value), c.length = vs.length → setSeg c 0 vs = vs := by
  intro c vs h
  apply List.ext_getElem?
  intro j
  rw [get_setSeg vs c 0 j (by omega)]
  split
  · simp
  · rename_i hn
    rw [List.getElem?_eq_none (by omega), List.getElem?_eq_none (by omega)]
theorem bsE_1 (de : TypeDesc) (s by_ : Nat) (z v : Value) (ag : Bool) (fl : List (Nat × Nat)) (hz : z.cells.toList.length = s) (hs : s ≤ 16777216) (hv : v.cells.toList.length = s) (ho : v.cells.toList.all oneCell = true) :
    bsE (some ⟨de, s, by_, some z, ag, fl⟩) 1 [(0, v)] = some (.cells true s v.cells.toList, fun b => .slice (some ⟨b, 0, none⟩) 1 1) := by
  have h1 : rep z.cells.toList 1 = z.cells.toList := by simp [rep]
  have h2 : fillL (fun k => some (k * s, s)) z.cells.toList [(0, v)] = some v.cells.toList := by
    simp only [fillL, Nat.zero_mul, Nat.zero_add, hv, hz, Nat.le_refl, and_self, if_true]
    rw [setSeg_whole _ _ (by omega)]
  simp only [bsE, Nat.one_mul, hs, if_true, hz, h1, h2, ho]
/-! stores -/
def stG (x : AObj) (H : Heap) (s b o : Nat) (v : Value) : Option Heap := match x with
  | .cells true e c => if v.cells.toList.length = s ∧ v.cells.toList.all oneCell = true ∧ o + s ≤ c.length then some (H.put b (.cells true e (setSeg c o v.cells.toList))) else none
  | _ => none
theorem st_ptr2 (i : TInfo) (b o : Nat) (v : Value) : stO H (some i) (.pointer (some ⟨b, o, none⟩)) v = outH undef (stG (H.get b) H i.size b o v) := by
  rw [st_ptr]
  unfold storeC stG
  cases H.get b <;> rfl
theorem stG_cells (s b o e : Nat) (v : Value) (c : List Value) : stG (.cells true e c) H s b o v = if v.cells.toList.length = s ∧ v.cells.toList.all oneCell = true ∧ o + s ≤ c.length then some (H.put b (.cells true e (setSeg c o v.cells.toList))) else none := (rfl)
end

theorem vc_int (k : IntKind) (n : Int) : (Value.int k n).cells = #[.int k n] := (rfl)
theorem vc_bool (b : Bool) : (Value.bool b).cells = #[.bool b] := (rfl)
theorem vc_string (b : ByteArray) : (Value.string b).cells = #[.string b] := (rfl)
theorem vc_slice (a : Option Addr) (n c : Nat) : (Value.slice a n c).cells = #[.slice a n c] := (rfl)
theorem vc_ptr (a : Option Addr) : (Value.pointer a).cells = #[.pointer a] := (rfl)
theorem vc_agg (a : Array Value) : (Value.agg a).cells = a := (rfl)
theorem oc_int (k : IntKind) (n : Int) : oneCell (.int k n) = true := (rfl)
theorem oc_bool (b : Bool) : oneCell (.bool b) = true := (rfl)
theorem oc_string (b : ByteArray) : oneCell (.string b) = true := (rfl)
theorem oc_slice (a : Option Addr) (n c : Nat) : oneCell (.slice a n c) = true := (rfl)
theorem oc_ptr (a : Option Addr) : oneCell (.pointer a) = true := (rfl)
theorem arr_list (l : List Value) : l.toArray.toList = l := (rfl)
end Go.Ab
end
section
namespace Go.Ab

def hfT (i : Option TInfo) : Bool := match i.map TInfo.desc with
  | some (.slice _) => true
  | _ => false
def hfC (i : Option TInfo) : Bool := match i.map TInfo.desc with
  | some (.int _) => true
  | _ => false
/-- reads that ask not for the heap -/
def hf (T : Tab) : Op → Bool
  | .move _ | .assign _ | .pick _ _ _ | .nilCheck _ | .fieldAddr _ _ _ | .field _ _ _ | .indexAddr _ _ _ | .index _ _ _ | .build _ _ | .binOp _ _ _ _ _ | .unOp _ _ _ | .makeFunc _ _ _ | .extract _ _ => true
  | .convert _ t _ => hfC (T.ty t)
  | .call c => match c.callee, c.argTypes[0]? with
    | .builtin .len, some t => hfT (T.ty t)
    | _, _ => false
  | _ => false

theorem hf_free {P : Program} {T : Tab} {ρ : Operand → Value} {o : Oper} (h : hf T o.op = true) (H H' : Heap) : aread P T ρ o H = aread P T ρ o H' := by
  obtain ⟨d, op, ty, ps, af, gd⟩ := o
  cases op with
  | convert s t x =>
    simp only [hf, hfC] at h
    simp only [aread, descOf]
    split at h
    · rename_i k hk
      rw [hk]
      cases Option.map (fun x => x.desc) (T.ty s) with
      | none => rfl
      | some d => cases d <;> cases ρ x <;> rfl
    · cases h
  | call c =>
    simp only [hf] at h
    split at h
    · rename_i t h1 h2
      simp only [aread, h1, h2]
      simp only [hfT] at h
      split at h
      · rename_i e he
        cases c.args[0]? with
        | none => rfl
        | some x => simp only [lenC, descOf, he]; cases ρ x <;> rfl
      · cases h
    · cases h
  | _ => first | rfl | (simp only [hf, Bool.false_eq_true] at h)

section
variable (P : Program) (T : Tab) (ng : Nat) (ops : Array Oper) (B : List Nat) (base : Nat) (k : DS → Prop)

def bOf (i : Nat) : Nat := B.toArray.getD i 0

def DX : List Oper → DS → Prop
  | [], s => k s
  | o :: rest, s =>
    bif wantedC ops s.tm o then
      match kindOf T o.op with
      | .read => bif hf T o.op then
          match aread P T (evalT s.tm) o s.G with
          | some v => DX rest { s with i := s.i + 1, tm := putT s.tm o.dst v }
          | none => False
        else match aread P T (evalT s.tm) o (withA s.G s.inc base (bOf B s.i) s.objs) with
        | some v => BackP P T base (evalT s.tm) o v (bOf B s.i) s.effs s.objs s.hist ∧ DX rest { s with i := s.i + 1, tm := putT s.tm o.dst v, rds := (s.i, s.tm, o, v) :: s.rds }
        | none => False
      | .alloc => match aalloc T (evalT s.tm) o with
        | some p => DX rest { s with i := s.i + 1, tm := putT s.tm o.dst (p.2 (base + s.i)), objs := (s.i, p.1) :: s.objs }
        | none => False
      | .eff => s.effs &&& bOf B s.i = s.effs ∧ match aeff T (evalT s.tm) o (withA s.G s.inc base (bOf B s.i) s.objs) with
        | some (.val v H) => OnP P T B.toArray base H (s.inc ||| bOf B s.i) (bOf B s.i) s.objs s.rds ∧
            DX rest { s with i := s.i + 1, tm := putT s.tm o.dst v, G := H, inc := s.inc ||| bOf B s.i, effs := s.effs ||| 2 ^ s.i, hist := (s.G, s.inc, s.effs) :: s.hist }
        | some (.call f args) => SemC P ng f args (withA s.G s.inc base (bOf B s.i) s.objs) fun r H => match r with
          | .ret v => OnP P T B.toArray base H (s.inc ||| bOf B s.i) (bOf B s.i) s.objs s.rds ∧
              DX rest { s with i := s.i + 1, tm := putT s.tm o.dst v, G := H, inc := s.inc ||| bOf B s.i, effs := s.effs ||| 2 ^ s.i, hist := (s.G, s.inc, s.effs) :: s.hist }
          | .pan _ => False
        | _ => False
    else DX rest { s with i := s.i + 1, tm := putT s.tm o.dst undef }

def XD (o : Oper) (rest : List Oper) (s : DS) (r : Ret) (H : Heap) : Prop := match r with
  | .ret v => OnP P T B.toArray base H (s.inc ||| bOf B s.i) (bOf B s.i) s.objs s.rds ∧
      DX P T ng ops B base k rest { s with i := s.i + 1, tm := putT s.tm o.dst v, G := H, inc := s.inc ||| bOf B s.i, effs := s.effs ||| 2 ^ s.i, hist := (s.G, s.inc, s.effs) :: s.hist }
  | .pan _ => False
def XF (o : Oper) (rest : List Oper) (s : DS) (x : Option Value) : Prop := match x with
  | some v => DX P T ng ops B base k rest { s with i := s.i + 1, tm := putT s.tm o.dst v }
  | none => False
def XR (o : Oper) (rest : List Oper) (s : DS) (x : Option Value) : Prop := match x with
  | some v => BackP P T base (evalT s.tm) o v (bOf B s.i) s.effs s.objs s.hist ∧ DX P T ng ops B base k rest { s with i := s.i + 1, tm := putT s.tm o.dst v, rds := (s.i, s.tm, o, v) :: s.rds }
  | none => False
def XA (o : Oper) (rest : List Oper) (s : DS) (x : Option (AObj × (Nat → Value))) : Prop := match x with
  | some p => DX P T ng ops B base k rest { s with i := s.i + 1, tm := putT s.tm o.dst (p.2 (base + s.i)), objs := (s.i, p.1) :: s.objs }
  | none => False
def XE (o : Oper) (rest : List Oper) (s : DS) (x : Option Out) : Prop := match x with
  | some (.val v H) => OnP P T B.toArray base H (s.inc ||| bOf B s.i) (bOf B s.i) s.objs s.rds ∧
      DX P T ng ops B base k rest { s with i := s.i + 1, tm := putT s.tm o.dst v, G := H, inc := s.inc ||| bOf B s.i, effs := s.effs ||| 2 ^ s.i, hist := (s.G, s.inc, s.effs) :: s.hist }
  | some (.call f args) => SemC P ng f args (withA s.G s.inc base (bOf B s.i) s.objs) (XD P T ng ops B base k o rest s)
  | _ => False
def XH (o : Oper) (rest : List Oper) (s : DS) (b : Bool) : Prop :=
  bif b then XF P T ng ops B base k o rest s (aread P T (evalT s.tm) o s.G) else XR P T ng ops B base k o rest s (aread P T (evalT s.tm) o (withA s.G s.inc base (bOf B s.i) s.objs))
def XK (o : Oper) (rest : List Oper) (s : DS) (x : Kind) : Prop := match x with
  | .read => XH P T ng ops B base k o rest s (hf T o.op)
  | .alloc => XA P T ng ops B base k o rest s (aalloc T (evalT s.tm) o)
  | .eff => s.effs &&& bOf B s.i = s.effs ∧ XE P T ng ops B base k o rest s (aeff T (evalT s.tm) o (withA s.G s.inc base (bOf B s.i) s.objs))
def XW (o : Oper) (rest : List Oper) (s : DS) (b : Bool) : Prop :=
  bif b then XK P T ng ops B base k o rest s (kindOf T o.op) else DX P T ng ops B base k rest { s with i := s.i + 1, tm := putT s.tm o.dst undef }

theorem DX_nil (s : DS) : DX P T ng ops B base k [] s = k s := (rfl)
theorem DX_cons (o : Oper) (rest : List Oper) (s : DS) : DX P T ng ops B base k (o :: rest) s = XW P T ng ops B base k o rest s (wantedC ops s.tm o) := by
  simp only [DX, XW]
  cases wantedC ops s.tm o with
  | false => rfl
  | true =>
    simp only [cond_true]
    unfold XK
    cases kindOf T o.op with
    | read =>
      unfold XH
      cases hf T o.op with
      | true => simp only [XF, cond_true]
      | false => simp only [XR, cond_false]
    | alloc =>
      simp only [XA]
    | eff =>
      simp only [XE]
      cases aeff T (evalT s.tm) o (withA s.G s.inc base (bOf B s.i) s.objs) with
      | none => rfl
      | some out => cases out <;> rfl
theorem XW_true (o : Oper) (rest : List Oper) (s : DS) : XW P T ng ops B base k o rest s true = XK P T ng ops B base k o rest s (kindOf T o.op) := (rfl)
theorem XW_false (o : Oper) (rest : List Oper) (s : DS) : XW P T ng ops B base k o rest s false = DX P T ng ops B base k rest { s with i := s.i + 1, tm := putT s.tm o.dst undef } := (rfl)
theorem XK_read (o : Oper) (rest : List Oper) (s : DS) : XK P T ng ops B base k o rest s .read = XH P T ng ops B base k o rest s (hf T o.op) := (rfl)
theorem XK_alloc (o : Oper) (rest : List Oper) (s : DS) : XK P T ng ops B base k o rest s .alloc = XA P T ng ops B base k o rest s (aalloc T (evalT s.tm) o) := (rfl)
theorem XK_eff (o : Oper) (rest : List Oper) (s : DS) : XK P T ng ops B base k o rest s .eff = (s.effs &&& bOf B s.i = s.effs ∧ XE P T ng ops B base k o rest s (aeff T (evalT s.tm) o (withA s.G s.inc base (bOf B s.i) s.objs))) := (rfl)
theorem XH_true (o : Oper) (rest : List Oper) (s : DS) : XH P T ng ops B base k o rest s true = XF P T ng ops B base k o rest s (aread P T (evalT s.tm) o s.G) := (rfl)
theorem XH_false (o : Oper) (rest : List Oper) (s : DS) : XH P T ng ops B base k o rest s false = XR P T ng ops B base k o rest s (aread P T (evalT s.tm) o (withA s.G s.inc base (bOf B s.i) s.objs)) := (rfl)
theorem XF_some (o : Oper) (rest : List Oper) (s : DS) (v : Value) : XF P T ng ops B base k o rest s (some v) = DX P T ng ops B base k rest { s with i := s.i + 1, tm := putT s.tm o.dst v } := (rfl)
theorem XR_some (o : Oper) (rest : List Oper) (s : DS) (v : Value) : XR P T ng ops B base k o rest s (some v) = (BackP P T base (evalT s.tm) o v (bOf B s.i) s.effs s.objs s.hist ∧ DX P T ng ops B base k rest { s with i := s.i + 1, tm := putT s.tm o.dst v, rds := (s.i, s.tm, o, v) :: s.rds }) := (rfl)
theorem XA_some (o : Oper) (rest : List Oper) (s : DS) (a : AObj) (f : Nat → Value) : XA P T ng ops B base k o rest s (some (a, f)) = DX P T ng ops B base k rest { s with i := s.i + 1, tm := putT s.tm o.dst (f (base + s.i)), objs := (s.i, a) :: s.objs } := (rfl)
theorem XE_val (o : Oper) (rest : List Oper) (s : DS) (v : Value) (H : Heap) : XE P T ng ops B base k o rest s (some (.val v H)) = (OnP P T B.toArray base H (s.inc ||| bOf B s.i) (bOf B s.i) s.objs s.rds ∧
      DX P T ng ops B base k rest { s with i := s.i + 1, tm := putT s.tm o.dst v, G := H, inc := s.inc ||| bOf B s.i, effs := s.effs ||| 2 ^ s.i, hist := (s.G, s.inc, s.effs) :: s.hist }) := (rfl)
theorem XE_call (o : Oper) (rest : List Oper) (s : DS) (f : FuncId) (args : Array Value) : XE P T ng ops B base k o rest s (some (.call f args)) = SemC P ng f args (withA s.G s.inc base (bOf B s.i) s.objs) (XD P T ng ops B base k o rest s) := (rfl)
theorem XD_ret (o : Oper) (rest : List Oper) (s : DS) (v : Value) (H : Heap) : XD P T ng ops B base k o rest s (.ret v) H = (OnP P T B.toArray base H (s.inc ||| bOf B s.i) (bOf B s.i) s.objs s.rds ∧
      DX P T ng ops B base k rest { s with i := s.i + 1, tm := putT s.tm o.dst v, G := H, inc := s.inc ||| bOf B s.i, effs := s.effs ||| 2 ^ s.i, hist := (s.G, s.inc, s.effs) :: s.hist }) := (rfl)
theorem bOf_zero (b : Nat) (l : List Nat) : bOf (b :: l) 0 = b := (rfl)
theorem bOf_succ (b : Nat) (l : List Nat) (i : Nat) : bOf (b :: l) (i + 1) = bOf l i := by simp [bOf]
theorem getD_bOf (i : Nat) : B.toArray.getD i 0 = bOf B i := (rfl)
end

def wA (G : Heap) (inc base msk : Nat) (i : Nat) (a : AObj) (r : List (Nat × AObj)) (b : Bool) : Heap := bif b then (withA G inc base msk r).put (base + i) a else withA G inc base msk r
theorem withA_nil (G : Heap) (inc base msk : Nat) : withA G inc base msk [] = G := (rfl)
theorem withA_cons (G : Heap) (inc base msk : Nat) (i : Nat) (a : AObj) (r : List (Nat × AObj)) : withA G inc base msk ((i, a) :: r) = wA G inc base msk i a r (bit msk i && !bit inc i) := (rfl)
theorem wA_true (G : Heap) (inc base msk : Nat) (i : Nat) (a : AObj) (r : List (Nat × AObj)) : wA G inc base msk i a r true = (withA G inc base msk r).put (base + i) a := (rfl)
theorem wA_false (G : Heap) (inc base msk : Nat) (i : Nat) (a : AObj) (r : List (Nat × AObj)) : wA G inc base msk i a r false = withA G inc base msk r := (rfl)
theorem bit_eq (m i : Nat) : bit m i = (1 &&& (m >>> i) != 0) := (rfl)


section
variable {P : Program} {T : Tab} {ng : Nat} {ops : Array Oper} {B : List Nat} {base : Nat}

inductive RR (P : Program) (T : Tab) : List (Nat × Tr Value × Oper × Value) → List (Nat × Tr Value × Oper × Value) → Prop where
  | nil : RR P T [] []
  | cons (r : Nat × Tr Value × Oper × Value) (l l' : List (Nat × Tr Value × Oper × Value)) (h : RR P T l l') : RR P T (r :: l) (r :: l')
  | free (i : Nat) (tm : Tr Value) (o : Oper) (v : Value) (l l' : List (Nat × Tr Value × Oper × Value)) (hv : ∀ H, aread P T (evalT tm) o H = some v) (h : RR P T l l') : RR P T ((i, tm, o, v) :: l) l'

theorem RR.on {G : Heap} {inc bi : Nat} {objs : List (Nat × AObj)} {A : Array Nat} : ∀ {l l' : List (Nat × Tr Value × Oper × Value)}, RR P T l l' → OnP P T A base G inc bi objs l' → OnP P T A base G inc bi objs l
  | _, _, .nil, h => h
  | _, _, .cons _ _ _ hr, h => ⟨h.1, hr.on h.2⟩
  | _, _, .free _ _ _ _ _ _ hv hr, h => ⟨.inr (hv _), hr.on h⟩

theorem free_back {tm : Tr Value} {o : Oper} {v : Value} {msk effs : Nat} {objs : List (Nat × AObj)} (hv : ∀ H, aread P T (evalT tm) o H = some v) : ∀ l : List (Heap × Nat × Nat), BackP P T base (evalT tm) o v msk effs objs l
  | [] => trivial
  | _ :: l => ⟨.inr (hv _), free_back hv l⟩

theorem DO_of_DX {k : DS → Prop} {k' : DS → Prop} (hk : ∀ (s : DS) r, k' s → k { s with rds := r }) : ∀ (rest : List Oper) (s : DS) (rds : List (Nat × Tr Value × Oper × Value)), RR P T rds s.rds → DX P T ng ops B base k' rest s → DO P T ng ops B.toArray base k rest { s with rds := rds }
  | [], s, rds, hr, h => by
    rw [DX_nil] at h; rw [DO_nil]; exact hk s rds h
  | o :: rest, s, rds, hr, h => by
    rw [DX_cons] at h
    rw [DO_cons]
    show DW P T ng ops B.toArray base k o rest _ (wantedC ops s.tm o)
    cases hw : wantedC ops s.tm o with
    | false =>
      rw [hw, XW_false] at h
      rw [DW_false]
      exact DO_of_DX hk rest _ rds (by exact hr) h
    | true =>
      rw [hw, XW_true] at h
      rw [DW_true]
      cases hkd : kindOf T o.op with
      | read =>
        rw [hkd, XK_read] at h
        rw [DK_read]
        show DR P T ng ops B.toArray base k o rest _ (aread P T (evalT s.tm) o (withA s.G s.inc base (B.toArray.getD s.i 0) s.objs))
        cases hh : hf T o.op with
        | true =>
          rw [hh, XH_true] at h
          cases hv : aread P T (evalT s.tm) o s.G with
          | none => rw [hv] at h; unfold XF at h; exact h.elim
          | some v =>
            rw [hv, XF_some] at h
            have hall : ∀ H, aread P T (evalT s.tm) o H = some v := fun H => by rw [hf_free hh H s.G]; exact hv
            rw [hall, DR_some]
            exact ⟨free_back hall _, DO_of_DX hk rest { s with i := s.i + 1, tm := putT s.tm o.dst v } _ (.free _ _ _ _ _ _ hall hr) h⟩
        | false =>
          rw [hh, XH_false] at h
          rw [getD_bOf]
          cases hv : aread P T (evalT s.tm) o (withA s.G s.inc base (bOf B s.i) s.objs) with
          | none => rw [hv] at h; unfold XR at h; exact h.elim
          | some v =>
            rw [hv, XR_some] at h
            rw [DR_some]
            exact ⟨h.1, DO_of_DX hk rest _ _ (.cons _ _ _ hr) h.2⟩
      | alloc =>
        rw [hkd, XK_alloc] at h
        rw [DK_alloc]
        show DA P T ng ops B.toArray base k o rest _ (aalloc T (evalT s.tm) o)
        cases hv : aalloc T (evalT s.tm) o with
        | none => rw [hv] at h; unfold XA at h; exact h.elim
        | some p =>
          obtain ⟨a, f⟩ := p
          rw [hv, XA_some] at h
          rw [DA_some]
          exact DO_of_DX hk rest _ rds (by exact hr) h
      | eff =>
        rw [hkd, XK_eff] at h
        rw [DK_eff]
        obtain ⟨h1, h⟩ := h
        refine ⟨h1, ?_⟩
        show DE P T ng ops B.toArray base k o rest _ (aeff T (evalT s.tm) o (withA s.G s.inc base (B.toArray.getD s.i 0) s.objs))
        rw [getD_bOf]
        cases hv : aeff T (evalT s.tm) o (withA s.G s.inc base (bOf B s.i) s.objs) with
        | none => rw [hv] at h; unfold XE at h; exact h.elim
        | some out =>
          rw [hv] at h
          cases out with
          | val v H =>
            rw [XE_val] at h
            rw [DE_val]
            exact ⟨hr.on h.1, DO_of_DX hk rest _ rds (by exact hr) h.2⟩
          | call f args =>
            rw [XE_call] at h
            rw [DE_call]
            refine SemC.mono h ?_
            intro r H hr'
            cases r with
            | pan => unfold XD at hr'; exact hr'.elim
            | ret v =>
              rw [XD_ret] at hr'
              rw [KD_ret]
              exact ⟨hr.on hr'.1, DO_of_DX hk rest _ rds (by exact hr) hr'.2⟩
          | round l args => unfold XE at h; exact h.elim
          | dfr d => unfold XE at h; exact h.elim
          | pan v => unfold XE at h; exact h.elim

def XS (n : Nat) (k : Exit → St → Prop) (st : St) (s : DS) : Prop := k .normal { st with tm := s.tm, heap := withA s.G s.inc st.heap.next n s.objs }
theorem XS_eq (n : Nat) (k : Exit → St → Prop) (tm : Tr Value) (sz : Nat) (df : List Deferred) (rd : Bool) (H : Heap) (s : DS) : XS n k ⟨tm, sz, df, rd, H⟩ s = k .normal ⟨s.tm, sz, df, rd, withA s.G s.inc H.next n s.objs⟩ := (rfl)

def xCheck (sz n m : Nat) (ops : Array Oper) (B : List Nat) : Bool := decide (Region.before ops = B.toArray) && tmpOK ops B.toArray && orderOK ops && ops.toList.all (fun o => dstOk sz o.dst) && decide (ops.size = n) && decide (2 ^ n - 1 = m)

theorem DRg_x (hT : T.Ok P ng) {ops : Array Oper} {k : Exit → St → Prop} {st : St} (B : List Nat) (n m sz : Nat) (hs : st.sz = sz) (hc : xCheck sz n m ops B = true)
    (h : DX P T ng ops B st.heap.next (XS m k st) ops.toList ⟨0, st.tm, st.heap.skip n, 0, 0, [], [], []⟩) : DRg P T ng ops k st := by
  subst hs
  simp only [xCheck, Bool.and_eq_true, decide_eq_true_eq] at hc
  obtain ⟨⟨⟨⟨⟨c1, c2⟩, c3⟩, c4⟩, rfl⟩, rfl⟩ := hc
  refine DRg_intro hT B.toArray (by simp only [drawCheck, c1, c2, c3, decide_true, Bool.and_self]) c4 ?_
  refine DO_of_DX (k' := XS (2 ^ ops.size - 1) k st) ?_ _ ⟨0, st.tm, st.heap.skip ops.size, 0, 0, [], [], []⟩ [] .nil h
  intro s r hs
  unfold XS at hs
  unfold KDS
  exact hs
end
attribute [irreducible] DX XW XK XH XF XR XA XE XD XS
theorem hf_move (T : Tab) (x : Operand) : hf T (.move x) = true := (rfl)
theorem hf_assign (T : Tab) (x : Operand) : hf T (.assign x) = true := (rfl)
theorem hf_pick (T : Tab) (x y z : Operand) : hf T (.pick x y z) = true := (rfl)
theorem hf_nilCheck (T : Tab) (x : Operand) : hf T (.nilCheck x) = true := (rfl)
theorem hf_fieldAddr (T : Tab) (t : TypeId) (x : Operand) (f : Nat) : hf T (.fieldAddr t x f) = true := (rfl)
theorem hf_field (T : Tab) (t : TypeId) (x : Operand) (f : Nat) : hf T (.field t x f) = true := (rfl)
theorem hf_indexAddr (T : Tab) (t : TypeId) (x y : Operand) : hf T (.indexAddr t x y) = true := (rfl)
theorem hf_index (T : Tab) (t : TypeId) (x y : Operand) : hf T (.index t x y) = true := (rfl)
theorem hf_build (T : Tab) (t : TypeId) (p : Array (Nat × Operand)) : hf T (.build t p) = true := (rfl)
theorem hf_binOp (T : Tab) (op : BinOp) (t : TypeId) (x y : Operand) (u : TypeId) : hf T (.binOp op t x y u) = true := (rfl)
theorem hf_unOp (T : Tab) (op : UnOp) (t : TypeId) (x : Operand) : hf T (.unOp op t x) = true := (rfl)
theorem hf_makeFunc (T : Tab) (f : Fn) (x y : Array Operand) : hf T (.makeFunc f x y) = true := (rfl)
theorem hf_extract (T : Tab) (x : Operand) (i : Nat) : hf T (.extract x i) = true := (rfl)
theorem hf_load (T : Tab) (t : TypeId) (x : Operand) : hf T (.load t x) = false := (rfl)
theorem hf_slice (T : Tab) (t : TypeId) (x : Operand) (l h m : Option Operand) : hf T (.slice t x l h m) = false := (rfl)
theorem hf_len (T : Tab) (x : Array Operand) (t : TypeId) : hf T (.call ⟨.builtin .len, x, #[t]⟩) = hfT (T.ty t) := (rfl)
theorem hfT_slice (e : TypeId) (s b : Nat) (z : Option Value) (ag : Bool) (f : List (Nat × Nat)) : hfT (some ⟨.slice e, s, b, z, ag, f⟩) = true := (rfl)
theorem hf_convert (T : Tab) (s t : TypeId) (x : Operand) : hf T (.convert s t x) = hfC (T.ty t) := (rfl)
theorem hfC_int (k : IntKind) (s b : Nat) (z : Option Value) (ag : Bool) (f : List (Nat × Nat)) : hfC (some ⟨.int k, s, b, z, ag, f⟩) = true := (rfl)
attribute [irreducible] hf hfT hfC wA bOf
end Go.Ab
end
section
namespace Go.Ab
attribute [go_sem] wpc_skip wpc_label wpc_exit wpc_ret wpc_region wpc_draw wpc_seq wpc_block wpc_cond wpc_loop KC_exit
  KC_ret KC_panic KB_normal KB_ret KB_panic KB_exit CN_true CN_false RO_nil RO_cons RW_true RW_false
  RA_val RA_call RA_dfr KR_ret KF_ret KF_normal KL_one LQ_normal LQ_exit LQ_ret aop_eq aopK_read
  aopK_alloc aopK_eff outV_some outH_some outA_some k_move k_assign k_pick k_load k_nilCheck k_fieldAddr k_field
  k_indexAddr k_index k_build k_binOp k_unOp k_makeFunc k_slice k_extract k_len k_append k_copy k_call
  k_alloc k_box k_buildSlice k_makeSlice k_store k_defer k_convert kConv_int r_move r_assign r_pick pick_bool
  r_load load_1 load_n cellO_cells segO_cells r_nilCheck nil_ptr nil_fun r_fieldAddr fa_struct fa_ptr r_indexAddr
  ia_slice ia_array r_binOp bin_int i_add i_sub i_mul i_eql i_neq i_lss i_leq i_gtr
  i_geq r_extract ex_tuple r_makeFunc r_slice len_slice a_alloc a_box e_store st_ptr2 stG_cells e_call
  e_append e_copy ev_tmp ev_const ev_func put_some put_none Tr.get_set wanted_none wanted_some gOf_some gBool_t
  gBool_f Bool.not_true Bool.not_false init_nil init_cons Option.getD_some Option.bind_some Option.map_some if_true if_false cond_true cond_false
  List.getElem?_toArray List.getElem?_cons_zero List.getElem?_cons_succ Nat.add_zero Nat.zero_add bxO vc_int vc_bool vc_string vc_slice vc_ptr vc_agg
  oc_int oc_bool oc_string oc_slice oc_ptr arr_list List.all_cons List.all_nil Bool.and_true Bool.and_self H_get_new H_put_same
  Heap.next_push Heap.next_put decide_true decide_false fn_call0 List.map_toArray List.map_cons List.map_nil Bool.not_not Bool.and_false Bool.false_and Bool.true_and
  RW_not r_buildS fb_struct fillO_cons fillO_nil fillP_some a_buildSlice bs_slice bsE_0 bsE_1 List.length_cons List.length_nil
  setSeg List.set_cons_zero List.set_cons_succ Nat.le_refl and_self true_and and_true DX_cons DX_nil XW_true XW_false XK_read
  XK_alloc XK_eff XH_true XH_false XF_some XR_some XA_some XE_val XE_call XD_ret XS_eq bOf_zero
  bOf_succ getD_bOf withA_nil withA_cons wA_true wA_false bit_eq OnP_nil OnP_cons BackP_nil BackP_cons hf_move
  hf_assign hf_pick hf_nilCheck hf_fieldAddr hf_field hf_indexAddr hf_index hf_build hf_binOp hf_unOp hf_makeFunc hf_extract
  hf_load hf_slice hf_len hfT_slice hf_convert hfC_int true_or or_true false_or or_false ne_eq not_true_eq_false
  not_false_eq_true Bool.false_eq_true Heap.get_skip Heap.next_skip Nat.zero_or Nat.or_zero
end Go.Ab
end
section
namespace Go.Ab

/-- blocks that may change -/
abbrev Fr := Nat → Prop
def noF : Fr := fun _ => False
def Fr.un (F : Fr) (b : Option Nat) : Fr := fun j => F j ∨ b = some j

structure Bd (F : Fr) (H : Heap) : Prop where
  lt : ∀ j, F j → j < H.next

structure Step (F : Fr) (H : Heap) (F' : Fr) (H' : Heap) : Prop where
  le : H.next ≤ H'.next
  get : ∀ b, b < H.next → ¬ F b → H'.get b = H.get b
  new : ∀ b, F' b → F b ∨ H.next ≤ b

structure Kp (F : Fr) (H : Heap) (b : Nat) (X : AObj) : Prop where
  lt : b < H.next
  out : ¬ F b
  get : H.get b = X

theorem noF_not (j : Nat) : ¬ noF j := fun h => h
theorem noF_Bd (H : Heap) : Bd noF H := ⟨fun _ h => h.elim⟩

section
variable {F F' F'' G : Fr} {H H' H'' : Heap} {b : Nat} {X : AObj}

theorem Step.refl : Step F H F H := ⟨Nat.le_refl _, fun _ _ _ => rfl, fun _ h => .inl h⟩
theorem Step.trans (h : Step F H F' H') (h' : Step F' H' F'' H'') : Step F H F'' H'' :=
  ⟨Nat.le_trans h.le h'.le, fun b hb hn => (h'.get b (Nat.lt_of_lt_of_le hb h.le) (fun hf => by rcases h.new b hf with h1 | h1; exact hn h1; omega)).trans (h.get b hb hn),
   fun b hf => by rcases h'.new b hf with h1 | h1; exact h.new b h1; exact .inr (Nat.le_trans h.le h1)⟩
theorem Ext.step (h : Ext H H') : Step F H F H' := ⟨h.le, fun b hb _ => h.get b hb, fun _ h => .inl h⟩
theorem Step.push (h : Step F H F' H') (a : AObj) : Step F H F' (H'.push a) := h.trans (((Ext.refl H').push a).step)
theorem Step.skip (h : Step F H F' H') (n : Nat) : Step F H F' (H'.skip n) := h.trans (((Ext.refl H').skip n).step)
theorem Step.put (h : Step F H F' H') (hb : F b ∨ H.next ≤ b) (a : AObj) : Step F H F' (H'.put b a) :=
  ⟨h.le, fun j hj hn => by rw [H_put_other H' a b j (fun e => by subst e; rcases hb with h1 | h1; exact hn h1; omega)]; exact h.get j hj hn, h.new⟩
theorem Step.toExt (h : Step F H F' H') (hF : ∀ j, F j → H.next ≤ j) : Ext H H' := ⟨h.le, fun b hb => h.get b hb (fun hf => by have := hF b hf; omega)⟩
theorem Step.noF (h : Step noF H F' H') : Ext H H' := h.toExt fun _ h => h.elim
theorem Step.sub (h : Step F H F' H') (hG : ∀ j, F j → G j ∨ H.next ≤ j) (hG' : ∀ j, F'' j → F' j ∨ G j) : Step G H F'' H' :=
  ⟨h.le, fun b hb hn => h.get b hb (fun hf => by rcases hG b hf with h1 | h1; exact hn h1; omega), fun j hj => by
    rcases hG' j hj with h1 | h1
    · rcases h.new j h1 with h2 | h2
      · exact hG j h2
      · exact .inr h2
    · exact .inl h1⟩
/-- others besides -/
theorem Step.un (h : Step F H F' H') {c : Option Nat} : Step (F.un c) H (F'.un c) H' :=
  h.sub (fun _ hf => .inl (.inl hf)) (fun _ hf => by rcases hf with h1 | h1; exact .inl h1; exact .inr (.inr h1))
theorem Step.add (h : Step F H F' H') {c : Option Nat} (hc : ∀ j, c = some j → H.next ≤ j) : Step F H (F'.un c) H' :=
  ⟨h.le, h.get, fun j hf => by rcases hf with h1 | h1; exact h.new j h1; exact .inr (hc j h1)⟩

theorem Kp.step (h : Kp F H b X) (s : Step F H F' H') : Kp F' H' b X :=
  ⟨Nat.lt_of_lt_of_le h.lt s.le, fun hf => by rcases s.new b hf with h1 | h1; exact h.out h1; have := h.lt; omega, (s.get b h.lt h.out).trans h.get⟩
theorem Kp.sub (h : Kp F H b X) (hF : ∀ j, F' j → F j) : Kp F' H b X := ⟨h.lt, fun hf => h.out (hF b hf), h.get⟩
theorem Bd.step (h : Bd F H) (s : Step F H F' H') (hF : ∀ j, F' j → F j) : Bd F' H' := ⟨fun j hj => Nat.lt_of_lt_of_le (h.lt j (hF j hj)) s.le⟩
theorem Bd.le (h : Bd F H) (s : H.next ≤ H'.next) : Bd F H' := ⟨fun j hj => Nat.lt_of_lt_of_le (h.lt j hj) s⟩
end

/-! ### slices that are read -/
inductive SlA (F : Fr) (H : Heap) (sz n cap : Nat) (c : List Value) : Option Addr → Prop where
  | nil (h1 : n = 0) (h2 : cap = 0) (h3 : c = []) : SlA F H sz n cap c none
  | zer (a : Addr) (h1 : n = 0) (h2 : cap = 0) (h3 : c = []) (h4 : a.spot = none) : SlA F H sz n cap c (some a)
  | blk (b o : Nat) (own : Bool) (C : List Value) (hk : Kp F H b (.cells own sz C)) (hs : seg C o (n * sz) = some c) : SlA F H sz n cap c (some ⟨b, o, none⟩)

structure Sl (F : Fr) (H : Heap) (sz : Nat) (v : Value) (n : Nat) (c : List Value) : Prop where
  ex : ∃ a cap, v = .slice a n cap ∧ n ≤ cap ∧ c.length = n * sz ∧ SlA F H sz n cap c a

theorem seg_some {C c : List Value} {o n : Nat} (h : seg C o n = some c) : o + n ≤ C.length ∧ c = (C.drop o).take n := by
  unfold seg at h
  split at h
  · cases h; exact ⟨‹_›, rfl⟩
  · cases h
theorem seg_get {C c : List Value} {o n j : Nat} (h : seg C o n = some c) (hj : j < n) : C[o + j]? = c[j]? := by
  obtain ⟨h1, rfl⟩ := seg_some h
  rw [List.getElem?_take, if_pos hj, List.getElem?_drop]
theorem seg_seg {C c : List Value} {o n p m : Nat} (h : seg C o n = some c) (hj : p + m ≤ n) : seg C (o + p) m = seg c p m := by
  obtain ⟨h1, rfl⟩ := seg_some h
  unfold seg
  rw [if_pos (by omega), if_pos (by rw [List.length_take, List.length_drop]; omega)]
  congr 1
  apply List.ext_getElem?
  intro j
  simp only [List.getElem?_take, List.getElem?_drop]
  by_cases hm : j < m
  · rw [if_pos hm, if_pos hm, if_pos (by omega)]; congr 1; omega
  · rw [if_neg hm, if_neg hm]

section
variable {F F' : Fr} {H H' : Heap} {sz n cap : Nat} {c : List Value} {v : Value} {a : Option Addr}

theorem SlA.step (h : SlA F H sz n cap c a) (s : Step F H F' H') : SlA F' H' sz n cap c a := by
  cases h with
  | nil h1 h2 h3 => exact .nil h1 h2 h3
  | zer a h1 h2 h3 h4 => exact .zer a h1 h2 h3 h4
  | blk b o own C hk hs => exact .blk b o own C (hk.step s) hs
theorem Sl.step (h : Sl F H sz v n c) (s : Step F H F' H') : Sl F' H' sz v n c :=
  let ⟨a, cap, h1, h2, h3, h4⟩ := h.ex; ⟨a, cap, h1, h2, h3, h4.step s⟩
theorem SlA.sub (h : SlA F H sz n cap c a) (hF : ∀ j, F' j → F j) : SlA F' H sz n cap c a := by
  cases h with
  | nil h1 h2 h3 => exact .nil h1 h2 h3
  | zer a h1 h2 h3 h4 => exact .zer a h1 h2 h3 h4
  | blk b o own C hk hs => exact .blk b o own C (hk.sub hF) hs
theorem Sl.sub (h : Sl F H sz v n c) (hF : ∀ j, F' j → F j) : Sl F' H sz v n c :=
  let ⟨a, cap, h1, h2, h3, h4⟩ := h.ex; ⟨a, cap, h1, h2, h3, h4.sub hF⟩
theorem Sl.noF (h : Sl F H sz v n c) : Sl noF H sz v n c := h.sub fun _ h => h.elim
/-- outside more -/
theorem SlA.more (h : SlA F H sz n cap c a) (hF : ∀ j, F' j → F j ∨ H.next ≤ j) : SlA F' H sz n cap c a := by
  cases h with
  | nil h1 h2 h3 => exact .nil h1 h2 h3
  | zer a h1 h2 h3 h4 => exact .zer a h1 h2 h3 h4
  | blk b o own C hk hs => exact .blk b o own C ⟨hk.lt, fun hf => by rcases hF b hf with h1 | h1; exact hk.out h1; have := hk.lt; omega, hk.get⟩ hs
theorem Sl.more (h : Sl F H sz v n c) (hF : ∀ j, F' j → F j ∨ H.next ≤ j) : Sl F' H sz v n c :=
  let ⟨a, cap, h1, h2, h3, h4⟩ := h.ex; ⟨a, cap, h1, h2, h3, h4.more hF⟩
theorem Kp.more {b : Nat} {X : AObj} (hk : Kp F H b X) (hF : ∀ j, F' j → F j ∨ H.next ≤ j) : Kp F' H b X :=
  ⟨hk.lt, fun hf => by rcases hF b hf with h1 | h1; exact hk.out h1; have := hk.lt; omega, hk.get⟩

theorem Sl.one (h : Sl F H sz v n c) : v.cells = #[v] ∧ oneCell v = true := by
  obtain ⟨a, cap, rfl, _⟩ := h.ex; exact ⟨rfl, rfl⟩
theorem Sl.len (h : Sl F H sz v n c) : ∃ a cap, v = .slice a n cap := by
  obtain ⟨a, cap, rfl, _⟩ := h.ex; exact ⟨a, cap, rfl⟩

/-- an element -/
theorem SlA.at {α : Type} {f : α → List Value} {l : List α} {cap : Nat} {a : Option Addr} (h : SlA F H sz l.length cap (l.flatMap f) a) (hf : ∀ x, (f x).length = sz) {i : Nat} {x : α} (hx : l[i]? = some x) :
    ∃ b o own C, a = some ⟨b, o, none⟩ ∧ Kp F H b (.cells own sz C) ∧ (∀ k, k < sz → C[o + i * sz + k]? = (f x)[k]?) ∧ seg C (o + i * sz) sz = some (f x) := by
  have hi : i < l.length := by
    rcases Nat.lt_or_ge i l.length with h | h
    · exact h
    · rw [List.getElem?_eq_none h] at hx; cases hx
  cases h with
  | nil h1 h2 h3 => omega
  | zer a h1 h2 h3 h4 => omega
  | blk b o own C hk hs =>
    have hle : i * sz + sz ≤ l.length * sz := by rw [← Nat.succ_mul]; exact Nat.mul_le_mul_right _ hi
    refine ⟨b, o, own, C, rfl, hk, fun k hk' => ?_, ?_⟩
    · rw [Nat.add_assoc, seg_get hs (by omega)]
      exact fm_get hf l i k x hx hk'
    · rw [seg_seg hs hle]
      exact fm_seg hf l i x hx

theorem Sl.head (h : Sl F H sz v n c) : headCells H (n * sz) v = some c := by
  obtain ⟨a, cap, rfl, h1, h2, h3⟩ := h.ex
  cases h3 with
  | nil k1 k2 k3 => subst k1 k2 k3; simp [headCells]
  | zer a k1 k2 k3 k4 =>
    obtain ⟨b, o, st⟩ := a
    subst k1 k2 k3; simp only at k4; subst k4; simp [headCells]
  | blk b o own C hk hs =>
    simp only [headCells]
    by_cases hz : n * sz = 0
    · rw [hz] at h2 ⊢
      rw [List.length_eq_zero_iff.1 h2]; rfl
    · have e1 : Nat.beq (n * sz) 0 = false := by cases hb : Nat.beq (n * sz) 0 with
        | false => rfl
        | true => exact absurd ((beq_iff _ _).1 hb) hz
      have hn : n ≠ 0 := fun e => by subst e; simp at hz
      have e2 : Nat.beq cap 0 = false := by cases hb : Nat.beq cap 0 with
        | false => rfl
        | true => have := (beq_iff _ _).1 hb; omega
      rw [e1, e2, hk.get]
      exact hs

theorem Own1.sl {b : Option Nat} (h : Own1 H sz c v n b) (hF : ∀ j, b = some j → ¬ F j) : Sl F H sz v n c := by
  cases h with
  | nil h => subst h; exact ⟨none, 0, rfl, Nat.le_refl _, by simp, .nil rfl rfl rfl⟩
  | blk k n h1 h2 h3 => exact ⟨_, n, rfl, Nat.le_refl _, h3, .blk k 0 true c ⟨h1, hF k rfl, h2⟩ (seg_all _ _ h3)⟩
theorem Own1.step {b : Option Nat} (h : Own1 H sz c v n b) (s : Step F H F' H') (hF : ∀ j, b = some j → ¬ F j) : Own1 H' sz c v n b := by
  cases h with
  | nil h => exact .nil h
  | blk k n h1 h2 h3 => exact .blk k n (Nat.lt_of_lt_of_le h1 s.le) (by rw [s.get k h1 (hF k rfl)]; exact h2) h3
theorem Own1.lt {b : Option Nat} (h : Own1 H sz c v n b) {j : Nat} (hj : b = some j) : j < H.next := (h.at hj).1
theorem Own1.put {b : Option Nat} (h : Own1 H sz c v n b) {j : Nat} (hj : ∀ k, b = some k → k ≠ j) (x : AObj) : Own1 (H.put j x) sz c v n b := by
  cases h with
  | nil h => exact .nil h
  | blk k n h1 h2 h3 => exact .blk k n h1 (by rw [H_put_other _ _ _ _ (hj k rfl)]; exact h2) h3
theorem Own1.ext {b : Option Nat} (h : Own1 H sz c v n b) (s : Ext H H') : Own1 H' sz c v n b := h.step (F := Go.Ab.noF) (F' := Go.Ab.noF) s.step fun _ _ h => h.elim
theorem Own1.fresh (H : Heap) (sz : Nat) (c : List Value) (n : Nat) (h : c.length = n * sz) : Own1 (H.push (.cells true sz c)) sz c (.slice (some ⟨H.next, 0, none⟩) n n) n (some H.next) :=
  .blk _ _ (Nat.lt_succ_self _) (H_get_new _ _) h
theorem Own1.nil0 (H : Heap) (sz : Nat) : Own1 H sz [] (.slice none 0 0) 0 none := .nil rfl
end

section
variable {T : Tab} {t0 t1 e e1 : TypeId} {de : TypeDesc} {sz by_ : Nat} {z : Value} {ag : Bool} {fl : List (Nat × Nat)} {a1 a2 b1 b2 : Nat} {a3 b3 : Option Value} {a4 b4 : Bool} {a5 b5 : List (Nat × Nat)}

theorem append_s (h0 : T.ty t0 = some ⟨.slice e, a1, a2, a3, a4, a5⟩) (h1 : T.ty t1 = some ⟨.slice e1, b1, b2, b3, b4, b5⟩) (he : T.ty e = some ⟨de, sz, by_, some z, ag, fl⟩) (hz : z.cells.toList.length = sz)
    {F0 : Fr} {H : Heap} {v x : Value} {n m : Nat} {c nw : List Value} {b : Option Nat} (hv : Own1 H sz c v n b) (hx : Sl F0 H sz x m nw) (hone : nw.all oneCell = true) (hb1 : (n + m) * by_ ≤ 140737488355328) (hb2 : n + m < 9223372036854775807) :
    ∃ v' H' b', appendC T H #[t0, t1] v x = some (.val v' H') ∧ Own1 H' sz (c ++ nw) v' (n + m) b' ∧ (∀ F : Fr, Step (F.un b) H (F.un b') H') ∧ (∀ j, b' = some j → b = some j ∨ j = H.next) ∧ (m ≠ 0 → b' = some H.next) ∧ H.next ≤ H'.next := by
  obtain ⟨a, cap, h2, h3, h4, h5⟩ := hx.ex
  obtain ⟨v', H', b', k1, k2, k3, k4, k5⟩ := append_ok h0 h1 he hz hv ⟨a, cap, h2⟩ hx.head h4 hone hb1 hb2
  refine ⟨v', H', b', k1, k2, fun F => ⟨k3.le, fun j hj hn => k3.get j hj (fun h => hn (.inr h)), fun j hf => ?_⟩, fun j hj => ?_, k5, k3.le⟩
  · rcases hf with hf | hf
    · exact .inl (.inl hf)
    · rcases k4 with e | e
      · exact .inl (.inr (by rw [← e]; exact hf))
      · rw [e] at hf; cases hf; exact .inr (Nat.le_refl _)
  · rcases k4 with e | e
    · exact .inl (by rw [← e]; exact hj)
    · rw [e] at hj; cases hj; exact .inr rfl
end

theorem one_all {α : Type} {f : α → List Value} (hf : ∀ x, (f x).all oneCell = true) : ∀ l : List α, (l.flatMap f).all oneCell = true
  | [] => rfl
  | x :: l => by simp only [List.flatMap_cons, List.all_append, hf, one_all hf l, Bool.and_self]

end Go.Ab
end
