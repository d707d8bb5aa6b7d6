/- Parts of the proof, joined by program: The abstract machine and the model: a region in an order that is drawn: its invariant; The abstract machine and the model: a region in an order that is drawn; The abstract machine and the model: code, and all of it; The abstract machine: a logic of its runs; The abstract machine: a logic of its runs: drawn regions, code; The abstract machine: a logic of its runs: functions; The abstract machine: a program's table. -/
import Derived.Test.YtmodeilippcbnaaR03
import Derived.LoopNIn
set_option linter.all false
section
namespace Go.Ab

theorem actO_congr {base inc : Nat} {Q Q' : Nat → Bool} {b : Nat} : ∀ {objs : List (Nat × AObj)}, (∀ p ∈ objs, Q p.1 = Q' p.1) → actO base inc Q b objs = actO base inc Q' b objs
  | [], _ => rfl
  | p :: r, h => by
    simp only [actO]
    rw [h p (by simp), actO_congr (objs := r) fun q hq => h q (by simp [hq])]

section
variable {P : Program} {T : Tab} {ng : Nat} {ops : Array Oper} {B : Array Nat} {sz : Nat} {st : St} {S : Nat → DS} {val : Nat → Value} {L L' : Array Bool}

def Cond (T : Tab) (ops : Array Oper) (S : Nat → DS) (L : Array Bool) (p : Nat) : Prop := ∀ m, Eff T ops S m → (onL L m = true ↔ m < p)
def gL (ops : Array Oper) (S : Nat → DS) (base p : Nat) (L : Array Bool) (b : Nat) : AObj := (actO base (S p).inc (onL L) b (S ops.size).objs).getD ((S p).G.get b)

theorem same_cond (h : Run P T ng ops B sz st S val) {p p' : Nat} (hp : p ≤ ops.size) (hp' : p' ≤ ops.size) (hc : Cond T ops S L p) (hc' : Cond T ops S L p') : (S p').G = (S p).G ∧ (S p').inc = (S p).inc := by
  rcases Nat.le_total p p' with hle | hle
  · exact h.same hle hp' fun m h1 h2 he => by
      have := (hc m he).1 ((hc' m he).2 h2); omega
  · have := h.same hle hp fun m h1 h2 he => by
      have := (hc' m he).1 ((hc m he).2 h2); omega
    exact ⟨this.1.symm, this.2.symm⟩

theorem gL_same (h : Run P T ng ops B sz st S val) {p p' : Nat} (hp : p ≤ ops.size) (hp' : p' ≤ ops.size) (hc : Cond T ops S L p) (hc' : Cond T ops S L p') (base : Nat) : gL ops S base p' L = gL ops S base p L := by
  obtain ⟨e1, e2⟩ := same_cond h hp hp' hc hc'
  unfold gL
  rw [e1, e2]

theorem inc_on (h : Run P T ng ops B sz st S val) (hcl : ∀ i, onL L i = true → ∀ j, bit (B.getD i 0) j = true → onL L j = true) {p : Nat} (hp : p ≤ ops.size) (hc : Cond T ops S L p) {j : Nat} (hj : bit (S p).inc j = true) : onL L j = true := by
  obtain ⟨m, h1, h2, h3⟩ := (h.inc j p hp).1 hj
  exact hcl m ((hc m h2).2 h1) j h3

/-- what an operation sees -/
theorem part (h : Run P T ng ops B sz st S val) (h0 : ∀ b, st.heap.next ≤ b → st.heap.get b = .dead) {i p : Nat} (hp : p ≤ ops.size) (hBi : ∀ j, bit (B.getD i 0) j = true → onL L j = true) (b : Nat) :
    (withA (S p).G (S p).inc st.heap.next (B.getD i 0) (S ops.size).objs).get b = gL ops S st.heap.next p L b ∨
    ((withA (S p).G (S p).inc st.heap.next (B.getD i 0) (S ops.size).objs).get b = .dead ∧ ∃ q ∈ (S ops.size).objs, b = st.heap.next + q.1 ∧ bit (S p).inc q.1 = false ∧ bit (B.getD i 0) q.1 = false ∧ onL L q.1 = true ∧ gL ops S st.heap.next p L b = q.2) := by
  rw [withA_get]
  unfold gL
  cases ha : actO st.heap.next (S p).inc (bit (B.getD i 0)) b (S ops.size).objs with
  | some x =>
    left
    obtain ⟨q, k1, k2, k3, k4, k5⟩ := actO_some ha
    cases hb : actO st.heap.next (S p).inc (onL L) b (S ops.size).objs with
    | none => exact absurd k4 (actO_none hb q k1 (hBi _ k2) k3)
    | some y =>
      obtain ⟨q', j1, j2, j3, j4, j5⟩ := actO_some hb
      have e : q.1 = q'.1 := by omega
      have a1 := (h.objs _ (Nat.le_refl _) q k1).2
      have a2 := (h.objs _ (Nat.le_refl _) q' j1).2
      rw [← e] at a2
      have := a1.unique a2
      simp only [Option.getD_some]
      rw [← k5, ← j5, this]
  | none =>
    cases hb : actO st.heap.next (S p).inc (onL L) b (S ops.size).objs with
    | none => exact .inl rfl
    | some y =>
      right
      obtain ⟨q', j1, j2, j3, j4, j5⟩ := actO_some hb
      have hlt := (h.objs _ (Nat.le_refl _) q' j1).1
      refine ⟨?_, q', j1, j4, j3, ?_, j2, j5.symm⟩
      · simp only [Option.getD_none]
        rw [j4]
        exact (h.dead h0 p hp).2 q'.1 hlt j3
      · cases hbb : bit (B.getD i 0) q'.1 with
        | false => rfl
        | true => exact absurd j4 (actO_none ha q' j1 hbb j3)

/-- what is kept -/
structure Inv (T : Tab) (ops : Array Oper) (B : Array Nat) (st : St) (S : Nat → DS) (val : Nat → Value) (ng : Nat) (μ0 : Inj) (w0 : World) (L : Array Bool) (μ : Inj) (a : Act) (w : World) : Prop where
  size : L.size = ops.size
  closed : ∀ i, onL L i = true → ∀ j, bit (B.getD i 0) j = true → onL L j = true
  tm : TmRel μ (tmL ops val L st.tm ops.size) st.sz a.tmps
  dfr : DRels μ st.defers a.defers
  cond : ∃ p, p ≤ ops.size ∧ Cond T ops S L p
  goes : ∀ p, p ≤ ops.size → Cond T ops S L p → Goes ng μ0 st.heap.get w0 μ (gL ops S st.heap.next p L) w
  top : ∀ p, p ≤ ops.size → Cond T ops S L p → ∀ b, (S p).G.next ≤ b → μ b = none
  fresh : ∀ j, j < ops.size → onL L j = false → μ (st.heap.next + j) = none
  old : ∀ b, b < st.heap.next → μ0 b = none → μ b = none

variable {μ0 μ : Inj} {w0 w : World} {a : Act}

theorem closed_set (hcl : ∀ i, onL L i = true → ∀ j, bit (B.getD i 0) j = true → onL L j = true) {i : Nat} (hBi : ∀ j, bit (B.getD i 0) j = true → onL L j = true) (hL' : ∀ j, onL L' j = if j = i then true else onL L j) :
    ∀ k, onL L' k = true → ∀ j, bit (B.getD k 0) j = true → onL L' j = true := by
  intro k hk j hj
  rw [hL'] at hk ⊢
  by_cases e : k = i
  · subst e
    split
    · rfl
    · exact hBi j hj
  · rw [if_neg e] at hk
    split
    · rfl
    · exact hcl k hk j hj

theorem put_defers (a : Act) (dst : Option Tmp) (v : Value) : (a.put dst v).defers = a.defers := by cases dst <;> rfl

theorem cond_set {i : Nat} (he : ¬ Eff T ops S i) (hL' : ∀ j, onL L' j = if j = i then true else onL L j) (p : Nat) : Cond T ops S L' p ↔ Cond T ops S L p := by
  constructor
  · intro h m hm
    have := h m hm
    rw [hL', if_neg (fun e : m = i => he (e ▸ hm))] at this; exact this
  · intro h m hm
    rw [hL', if_neg (fun e : m = i => he (e ▸ hm))]; exact h m hm

/-- no effect -/
theorem Inv.plain (h : Run P T ng ops B sz st S val) (h0 : ∀ b, st.heap.next ≤ b → st.heap.get b = .dead) (htmp : tmpOK ops B = true) (hsz : sz = st.sz) (hI : Inv T ops B st S val ng μ0 w0 L μ a w) {i : Nat} {oi : Oper}
    (hi : ops[i]? = some oi) (hon : onL L i = false) (hBi : ∀ j, bit (B.getD i 0) j = true → onL L j = true) (he : ¬ Eff T ops S i) (hsL : L'.size = L.size) (hL' : ∀ j, onL L' j = if j = i then true else onL L j)
    {μ' : Inj} (hle : μ.Le μ') {v' : Value} (hv : VRel μ' (val i) v') {w' : World} (hg : ∀ p, p ≤ ops.size → Cond T ops S L p → Goes ng μ (gL ops S st.heap.next p L) w μ' (gL ops S st.heap.next p L') w')
    (hfr : ∀ b, b ≠ st.heap.next + i → μ b = none → μ' b = none) : Inv T ops B st S val ng μ0 w0 L' μ' (a.put oi.dst v') w' := by
  have hin : i < ops.size := (Array.getElem?_eq_some_iff.1 hi).1
  have hd := (h.tm hi).2
  rw [hsz] at hd
  refine ⟨hsL.trans hI.size, closed_set hI.closed hBi hL', ?_, ?_, ?_, fun p hp hc => ?_, fun p hp hc b hb => ?_, fun j hj hjn => ?_, fun b hb hm => ?_⟩
  · exact (put_tm (hI.tm.mono hle) hd hv).ext fun d => tmL_put htmp hi hon hI.closed hL' st.tm d
  · rw [put_defers]; exact hI.dfr.mono hle
  · obtain ⟨p, h1, h2⟩ := hI.cond
    exact ⟨p, h1, (cond_set he hL' p).2 h2⟩
  · rw [cond_set he hL'] at hc
    exact (hI.goes p hp hc).trans (hg p hp hc)
  · rw [cond_set he hL'] at hc
    have hn := (h.dead h0 p hp).1
    exact hfr b (by omega) (hI.top p hp hc b hb)
  · rw [hL'] at hjn
    by_cases e : j = i
    · rw [if_pos e] at hjn; cases hjn
    · rw [if_neg e] at hjn
      exact hfr _ (by omega) (hI.fresh j hj hjn)
  · exact hfr b (by omega) (hI.old b hb hm)

theorem gL_plain {i : Nat} (hx : ∀ q ∈ (S ops.size).objs, q.1 ≠ i) (hL' : ∀ j, onL L' j = if j = i then true else onL L j) (base p : Nat) : gL ops S base p L' = gL ops S base p L := by
  funext b
  unfold gL
  rw [actO_congr (Q := onL L') (Q' := onL L) fun q hq => by rw [hL', if_neg (hx q hq)]]

/-- an effect -/
theorem Inv.effect (h : Run P T ng ops B sz st S val) (h0 : ∀ b, st.heap.next ≤ b → st.heap.get b = .dead) (htmp : tmpOK ops B = true) (hsz : sz = st.sz) (hI : Inv T ops B st S val ng μ0 w0 L μ a w) {i : Nat} {oi : Oper}
    (hi : ops[i]? = some oi) (hon : onL L i = false) (hBi : ∀ j, bit (B.getD i 0) j = true → onL L j = true) (he : Eff T ops S i) (hci : Cond T ops S L i) (hsL : L'.size = L.size) (hL' : ∀ j, onL L' j = if j = i then true else onL L j)
    {μ' : Inj} {v' : Value} (hv : VRel μ' (val i) v') {w' : World} {G0 : Heap} (hG0 : G0 = withA (S i).G (S i).inc st.heap.next (B.getD i 0) (S ops.size).objs)
    (hg : Goes ng μ G0.get w μ' (S (i + 1)).G.get w') (hD : Dom ng μ' (S (i + 1)).G) (hx : Nxt μ G0 μ' (S (i + 1)).G) : Inv T ops B st S val ng μ0 w0 L' μ' (a.put oi.dst v') w' := by
  have hin : i < ops.size := (Array.getElem?_eq_some_iff.1 hi).1
  have hd := (h.tm hi).2
  rw [hsz] at hd
  have hle := hg.le
  obtain ⟨o', ho', hw', hke, e1, e2, e3, e4, e5, e6, e7, e8⟩ := h.eff hin he
  have hoo : o' = oi := by rw [hi] at ho'; exact (Option.some.inj ho').symm
  subst hoo
  have hnobj : ∀ q ∈ (S ops.size).objs, q.1 ≠ i := by
    intro q hq e
    obtain ⟨o2, p2, k1, k2, k3, k4, k5⟩ := (h.objs _ (Nat.le_refl _) q hq).2
    rw [e, hi] at k1; cases k1
    rw [hke] at k3; cases k3
  have hc1 : Cond T ops S L' (i + 1) := by
    intro m hm
    rw [hL']
    by_cases e : m = i
    · subst e; simp
    · rw [if_neg e, hci m hm]; omega
  have hG : Goes ng μ (gL ops S st.heap.next i L) w μ' (gL ops S st.heap.next (i + 1) L') w' := by
    refine Goes.frame (hI.goes i (by omega) hci).rel (fun b => ?_) hg _ fun b => ?_
    · rw [hG0]
      rcases part h h0 (p := i) (by omega) hBi b with e | ⟨e, _⟩
      · exact .inl e
      · exact .inr e
    · -- which blocks are left out
      have hcase := part h h0 (p := i) (by omega) hBi b
      rw [← hG0] at hcase
      rcases hcase with e | ⟨e, q, k1, k2, k3, k4, k5, k6⟩
      · right
        refine ⟨?_, ?_⟩
        · by_cases hd : G0.get b = .dead
          · exact .inr (by rw [← e]; exact hd)
          · exact .inl hd
        · -- no block of one's own is left out at b
          unfold gL
          cases hb : actO st.heap.next (S (i + 1)).inc (onL L') b (S ops.size).objs with
          | none => rfl
          | some y =>
            exfalso
            obtain ⟨q, j1, j2, j3, j4, j5⟩ := actO_some hb
            rw [e4] at j3
            simp only [bit, Nat.testBit_or, Bool.or_eq_false_iff] at j3
            rw [hL', if_neg (hnobj q j1)] at j2
            -- then it is live in gL and dead in G0
            have l1 : G0.get b = .dead := by
              rw [hG0, withA_get]
              cases hz : actO st.heap.next (S i).inc (bit (B.getD i 0)) b (S ops.size).objs with
              | none =>
                simp only [Option.getD_none]
                rw [j4]
                exact (h.dead h0 i (by omega)).2 q.1 (h.objs _ (Nat.le_refl _) q j1).1 j3.1
              | some z =>
                obtain ⟨q2, m1, m2, m3, m4, m5⟩ := actO_some hz
                have : q2.1 = q.1 := by omega
                rw [this] at m2
                rw [show bit (B.getD i 0) q.1 = Nat.testBit (B.getD i 0) q.1 from rfl, j3.2] at m2; cases m2
            rw [e] at l1
            unfold gL at l1
            cases hz : actO st.heap.next (S i).inc (onL L) b (S ops.size).objs with
            | none => exact actO_none hz q j1 j2 j3.1 j4
            | some z =>
              rw [hz] at l1
              simp only [Option.getD_some] at l1
              obtain ⟨q2, m1, m2, m3, m4, m5⟩ := actO_some hz
              obtain ⟨o2, p2, k1, k2, k3, k4, k5⟩ := (h.objs _ (Nat.le_refl _) q2 m1).2
              exact aalloc_live k4 (by rw [← k5, m5]; exact l1)
      · left
        have hlive : gL ops S st.heap.next i L b ≠ .dead := by
          rw [k6]
          obtain ⟨o2, p2, j1, j2, j3, j4, j5⟩ := (h.objs _ (Nat.le_refl _) q k1).2
          rw [j5]; exact aalloc_live j4
        refine ⟨e, hlive, ?_⟩
        rw [k6]
        unfold gL
        cases hb : actO st.heap.next (S (i + 1)).inc (onL L') b (S ops.size).objs with
        | none =>
          exfalso
          refine actO_none hb q k1 (by rw [hL', if_neg (hnobj q k1)]; exact k5) ?_ k2
          rw [e4]
          simp only [bit, Nat.testBit_or, Bool.or_eq_false_iff]
          exact ⟨k3, k4⟩
        | some y =>
          obtain ⟨q2, m1, m2, m3, m4, m5⟩ := actO_some hb
          have ee : q.1 = q2.1 := by omega
          have a1 := (h.objs _ (Nat.le_refl _) q k1).2
          have a2 := (h.objs _ (Nat.le_refl _) q2 m1).2
          rw [← ee] at a2
          simp only [Option.getD_some]
          rw [← m5, a1.unique a2]
  refine ⟨hsL.trans hI.size, closed_set hI.closed hBi hL', ?_, ?_, ⟨i + 1, by omega, hc1⟩, fun p hp hc => ?_, fun p hp hc b hb => ?_, fun j hj hjn => ?_, fun b hb hm => ?_⟩
  · exact (put_tm (hI.tm.mono hle) hd hv).ext fun d => tmL_put htmp hi hon hI.closed hL' st.tm d
  · rw [put_defers]; exact hI.dfr.mono hle
  · rw [gL_same h (show i + 1 ≤ ops.size by omega) hp hc1 hc]
    exact (hI.goes i (by omega) hci).trans hG
  · rw [(same_cond h (show i + 1 ≤ ops.size by omega) hp hc1 hc).1] at hb
    exact hD.fresh b hb
  · rw [hL'] at hjn
    by_cases e : j = i
    · rw [if_pos e] at hjn; cases hjn
    · rw [if_neg e] at hjn
      have hn := (h.dead h0 i (by omega)).1
      exact hx.old _ (by rw [hG0, withA_next]; omega) (hI.fresh j hj hjn)
  · have hn := (h.dead h0 i (by omega)).1
    exact hx.old _ (by rw [hG0, withA_next]; omega) (hI.old b hb hm)

end
end Go.Ab
end
section
namespace Go.Ab

section
variable {P : Program} {T : Tab} {ng : Nat} {ops : Array Oper} {B : Array Nat} {sz : Nat} {st : St} {S : Nat → DS} {val : Nat → Value} {L L' : Array Bool}
variable {μ0 μ : Inj} {w0 w : World} {a : Act}

theorem Run.kinds (h : Run P T ng ops B sz st S val) {i : Nat} {o : Oper} (hi : ops[i]? = some o) :
    (wantedC ops (S i).tm o = false ∧ val i = undef) ∨ (wantedC ops (S i).tm o = true ∧ kindOf T o.op = .read) ∨
    (wantedC ops (S i).tm o = true ∧ kindOf T o.op = .alloc ∧ ∃ p, aalloc T (evalT (S i).tm) o = some p ∧ val i = p.2 (st.heap.next + i)) ∨ (wantedC ops (S i).tm o = true ∧ kindOf T o.op = .eff) := by
  have hst := h.step i o hi
  have hix := h.idx i (Nat.le_of_lt (Array.getElem?_eq_some_iff.1 hi).1)
  generalize S (i + 1) = s' at hst
  generalize hv : val i = v at hst ⊢
  cases hst with
  | skip hd hw => exact .inl ⟨hw, rfl⟩
  | read hd hw hk u hv' hs => exact .inr (.inl ⟨hw, hk⟩)
  | alloc hd hw hk p hv' => exact .inr (.inr (.inl ⟨hw, hk, p, hv', by rw [hix]⟩))
  | eff hd hw hk he u H hv' hs => exact .inr (.inr (.inr ⟨hw, hk⟩))

theorem Run.noObj (h : Run P T ng ops B sz st S val) {i : Nat} {o : Oper} (hi : ops[i]? = some o) (hn : wantedC ops (S i).tm o = false ∨ kindOf T o.op ≠ .alloc) : ∀ q ∈ (S ops.size).objs, q.1 ≠ i := by
  intro q hq e
  obtain ⟨o2, p2, k1, k2, k3, k4, k5⟩ := (h.objs _ (Nat.le_refl _) q hq).2
  rw [e] at k1 k2
  rw [hi] at k1; cases k1
  rcases hn with hn | hn
  · rw [hn] at k2; cases k2
  · exact hn k3

theorem draw_wanted (h : Run P T ng ops B sz st S val) (htmp : tmpOK ops B = true) (hI : Inv T ops B st S val ng μ0 w0 L μ a w) {i : Nat} {oi : Oper} (hi : ops[i]? = some oi) (hon : onL L i = false) (hBi : ∀ j, bit (B.getD i 0) j = true → onL L j = true) :
    Region.wanted oi (yielded ops a.tmps) = wantedC ops (S i).tm oi := by
  rw [wanted_eq hI.tm oi]
  unfold wantedC
  cases hg : oi.guard with
  | none => rfl
  | some g =>
    simp only
    cases hd : (ops[g.1]?).bind (·.dst) with
    | none => rfl
    | some d =>
      have hm : d ∈ readsT ops oi := by
        unfold readsT
        rw [hg]
        simp only [hd]
        simp
      have := tmL_read h htmp hi hon hBi hI.closed hm
      simp only [evalT, this]

theorem draw_opnds (h : Run P T ng ops B sz st S val) (htmp : tmpOK ops B = true) (hI : Inv T ops B st S val ng μ0 w0 L μ a w) {i : Nat} {oi : Oper} (hi : ops[i]? = some oi) (hon : onL L i = false) (hBi : ∀ j, bit (B.getD i 0) j = true → onL L j = true)
    (hok : operOk ng oi = true) {H : Heap} (hR : Rel ng μ H.get w) (hD : Dom ng μ H) : ∀ x ∈ oi.op.operands.toList, VRel μ (evalT (S i).tm x) (a.eval x) := by
  intro x hx
  have hF : FrRel ng μ { st with tm := tmL ops val L st.tm ops.size, heap := H } a w := ⟨hI.tm, hI.dfr, hR, hD⟩
  have h1 := opnds hF hok x hx
  have e : evalT (S i).tm x = evalT (tmL ops val L st.tm ops.size) x := by
    cases x with
    | tmp t =>
      have hm : t ∈ readsT ops oi := by
        unfold readsT
        rw [List.mem_append]
        left
        rw [List.mem_flatMap]
        exact ⟨_, hx, by simp [tmpOf]⟩
      simp only [evalT, tmL_read h htmp hi hon hBi hI.closed hm]
    | _ => rfl
  rw [e]; exact h1

theorem draw_step (h : Run P T ng ops B sz st S val) (h0 : ∀ b, st.heap.next ≤ b → st.heap.get b = .dead) (htmp : tmpOK ops B = true) (hsz : sz = st.sz) (hT : T.Ok P ng) (hok : ∀ o ∈ ops.toList, operOk ng o = true)
    (hB : ∀ i j, bit (B.getD i 0) j = true → j < i) (hng : ng ≤ st.heap.next) {rd : Option Nat} {Q : Exit → Act → World → Prop} {K : Act → World → Prop}
    (hI : Inv T ops B st S val ng μ0 w0 L μ a w) {i : Nat} {oi : Oper} (hi : ops[i]? = some oi) (hon : onL L i = false) (hBi : ∀ j, bit (B.getD i 0) j = true → onL L j = true)
    (hK : ∀ μ' a' w', Inv T ops B st S val ng μ0 w0 (L.setIfInBounds i true) μ' a' w' → K a' w') : wpOpIn (WF rd) 0 P ops Q i K a w := by
  have hin : i < ops.size := (Array.getElem?_eq_some_iff.1 hi).1
  have hmem : oi ∈ ops.toList := List.mem_of_getElem? (by rw [Array.getElem?_toList]; exact hi)
  have hokI := hok oi hmem
  have hsL : (L.setIfInBounds i true).size = L.size := by simp
  have hL' : ∀ j, onL (L.setIfInBounds i true) j = if j = i then true else onL L j := onL_set (by rw [hI.size]; exact hin)
  -- what it sees, at a stage
  have hRel : ∀ p, p ≤ ops.size → Cond T ops S L p → Rel ng μ (withA (S p).G (S p).inc st.heap.next (B.getD i 0) (S ops.size).objs).get w ∧ Dom ng μ (withA (S p).G (S p).inc st.heap.next (B.getD i 0) (S ops.size).objs) := by
    intro p hp hc
    refine ⟨(hI.goes p hp hc).rel.less fun b => ?_, ?_, fun b hb => ?_⟩
    · rcases part h h0 hp hBi b with e | ⟨e, _⟩
      · exact .inl e
      · exact .inr e
    · rw [withA_next]
      have := (h.dead h0 p hp).1
      omega
    · rw [withA_next] at hb; exact hI.top p hp hc b hb
  unfold wpOpIn
  simp only [hi]
  rw [draw_wanted h htmp hI hi hon hBi]
  obtain ⟨p, hp, hc⟩ := hI.cond
  obtain ⟨hR, hD⟩ := hRel p hp hc
  have hρ := draw_opnds h htmp hI hi hon hBi hokI hR hD
  rcases h.kinds hi with ⟨hw, hv⟩ | ⟨hw, hk⟩ | ⟨hw, hk, pr, hpr, hv⟩ | ⟨hw, hk⟩
  · -- not wanted
    simp only [hw, Bool.false_eq_true, if_false]
    refine ⟨fun _ _ => wf_fn _ _, ?_⟩
    have he : ¬ Eff T ops S i := by
      rintro ⟨o', ho', hw', _⟩
      rw [hi] at ho'; cases ho'
      rw [hw] at hw'; cases hw'
    refine hK μ _ _ (hI.plain h h0 htmp hsz hi hon hBi he hsL hL' (.refl _) (v' := undef) (by rw [hv]; exact undef_rel) (fun p hp hc => ?_) (fun _ _ h => h))
    rw [gL_plain (h.noObj hi (.inl hw)) hL']
    exact .refl (hI.goes p hp hc).rel
  · -- a read
    simp only [hw, if_true]
    refine ⟨fun _ _ => wf_fn _ _, ?_⟩
    have he : ¬ Eff T ops S i := by
      rintro ⟨o', ho', _, hk'⟩
      have e0 : o' = oi := by rw [hi] at ho'; exact (Option.some.inj ho').symm
      rw [e0, hk] at hk'; cases hk'
    have hrd := h.still hB hi hw hk p hp (fun m hm hb => (hc m hm).1 (hBi m hb)) (fun m hmp hm => by
      cases hb : bit (B.getD m 0) i with
      | false => rfl
      | true => rw [hI.closed m ((hc m hm).2 hmp) i hb] at hon; cases hon)
    obtain ⟨v', k1, k2⟩ := aread_sim (w := w) hT hR hρ hrd
    have hop : aop P T (evalT (S i).tm) oi (withA (S p).G (S p).inc st.heap.next (B.getD i 0) (S ops.size).objs) = some (.val (val i) (withA (S p).G (S p).inc st.heap.next (B.getD i 0) (S ops.size).objs)) := by
      unfold aop; rw [hk]; simp only [hrd, Option.map_some]
    rw [semAt_eq (.inr (aop_notDefer hop (by simp))), k1]
    refine hK μ _ _ (hI.plain h h0 htmp hsz hi hon hBi he hsL hL' (.refl _) k2 (fun p hp hc => ?_) (fun _ _ h => h))
    rw [gL_plain (h.noObj hi (.inr (by rw [hk]; simp))) hL']
    exact .refl (hI.goes p hp hc).rel
  · -- a new block
    simp only [hw, if_true]
    refine ⟨fun _ _ => wf_fn _ _, ?_⟩
    have he : ¬ Eff T ops S i := by
      rintro ⟨o', ho', _, hk'⟩
      have e0 : o' = oi := by rw [hi] at ho'; exact (Option.some.inj ho').symm
      rw [e0, hk] at hk'; cases hk'
    obtain ⟨v', o', t, k1, k2, k3, k4⟩ := aalloc_sim (w := w) hT hρ hpr
    have hn : μ (st.heap.next + i) = none := hI.fresh i hin hon
    obtain ⟨k5, k6⟩ := k4 (st.heap.next + i) hn
    have hop : aop P T (evalT (S i).tm) oi (withA (S p).G (S p).inc st.heap.next (B.getD i 0) (S ops.size).objs) = some (.val (pr.2 (withA (S p).G (S p).inc st.heap.next (B.getD i 0) (S ops.size).objs).next) ((withA (S p).G (S p).inc st.heap.next (B.getD i 0) (S ops.size).objs).push pr.1)) := by
      unfold aop; rw [hk]; simp only [hpr, Option.map_some]
    rw [semAt_eq (.inr (aop_notDefer hop (by simp))), k1]
    refine hK (μ.add (st.heap.next + i) t) _ _ (hI.plain h h0 htmp hsz hi hon hBi he hsL hL' (Inj.le_add hn) (v' := v') (by rw [hv]; exact k6) (fun p hp hc => ?_) (fun b hb hm => by rw [Inj.add_other hb]; exact hm))
    refine (hI.goes p hp hc).rel.push (w' := w.alloc o') (n := st.heap.next + i) (by omega) hn k2 rfl ⟨rfl, rfl, rfl⟩ k5 k3 _ fun b => ?_
    have hat : AllocAt T ops S i pr.1 := ⟨oi, pr, hi, hw, hk, hpr, rfl⟩
    have hmo := h.objs_mem hat ops.size (Nat.le_refl _) hin
    have hni : bit (S p).inc i = false := by
      cases hb : bit (S p).inc i with
      | false => rfl
      | true => rw [inc_on h hI.closed hp hc hb] at hon; cases hon
    by_cases e : b = st.heap.next + i
    · rw [if_pos e]
      unfold gL
      cases hz : actO st.heap.next (S p).inc (onL (L.setIfInBounds i true)) b (S ops.size).objs with
      | none => exact absurd e (actO_none hz _ hmo (by rw [hL']; simp) hni)
      | some z =>
        obtain ⟨q2, m1, m2, m3, m4, m5⟩ := actO_some hz
        have ee : q2.1 = i := by omega
        have a2 := (h.objs _ (Nat.le_refl _) q2 m1).2
        rw [ee] at a2
        simp only [Option.getD_some]
        rw [← m5, a2.unique hat]
    · rw [if_neg e]
      unfold gL
      congr 1
      have : ∀ objs : List (Nat × AObj), actO st.heap.next (S p).inc (onL (L.setIfInBounds i true)) b objs = actO st.heap.next (S p).inc (onL L) b objs := by
        intro objs
        induction objs with
        | nil => rfl
        | cons q r ih =>
          simp only [actO]
          by_cases eq : q.1 = i
          · rw [eq, if_neg (fun hh => e hh.2.2), if_neg (fun hh => e hh.2.2), ih]
          · rw [hL', if_neg eq, ih]
      exact this _
  · -- an effect
    simp only [hw, if_true]
    refine ⟨fun _ _ => wf_fn _ _, ?_⟩
    have he : Eff T ops S i := ⟨oi, hi, hw, hk⟩
    have hci : Cond T ops S L i := by
      intro m hm
      constructor
      · intro hom
        rcases Nat.lt_trichotomy m i with hlt | rfl | hgt
        · exact hlt
        · rw [hon] at hom; cases hom
        · have hms : m < ops.size := let ⟨o', ho', _⟩ := hm; (Array.getElem?_eq_some_iff.1 ho').1
          rw [hI.closed m hom i (h.chain hms hgt he hm)] at hon; cases hon
      · intro hlt
        exact hBi m (h.chain hin hlt hm he)
    obtain ⟨hR, hD⟩ := hRel i (by omega) hci
    obtain ⟨o', ho', hw', hke, e1, e2, e3, e4, e5, e6, e7, e8⟩ := h.eff hin he
    have hoo : o' = oi := by rw [hi] at ho'; exact (Option.some.inj ho').symm
    subst hoo
    rw [← h.withA_same (show i ≤ ops.size by omega) (Nat.le_refl _) (fun j hj => hB i j hj)] at e2
    generalize hG0 : withA (S i).G (S i).inc st.heap.next (B.getD i 0) (S ops.size).objs = G0 at *
    have fin : ∀ (μ' : Inj) (v' : Value) (w' : World), VRel μ' (val i) v' → Goes ng μ G0.get w μ' (S (i + 1)).G.get w' → Dom ng μ' (S (i + 1)).G → Nxt μ G0 μ' (S (i + 1)).G → K (a.put o'.dst v') w' :=
      fun μ' v' w' k1 k2 k3 k4 => hK μ' _ _ (hI.effect h h0 htmp hsz hi hon hBi he hci hsL hL' k1 hG0.symm k2 k3 k4)
    exact e2.sim rd μ a w K Q hR hD hρ fin

end
end Go.Ab
end
section
namespace Go.Ab

section
variable {P : Program} {T : Tab} {rec : Rec} {ng : Nat}

/-! ### dead names stay dead -/
theorem Run.NR {ops : Array Oper} {B : Array Nat} {sz : Nat} {st : St} {S : Nat → DS} {val : Nat → Value} (h : Run P T ng ops B sz st S val) : ∀ k, k ≤ ops.size → Ab.NR st.heap (S k).G
  | 0, _ => by rw [h.init]; exact ⟨Nat.le_add_right _ _, fun _ _ h => h⟩
  | k + 1, hk => by
    have ih := h.NR k (by omega)
    by_cases he : Eff T ops S k
    · obtain ⟨o', ho', hw', hke, e1, e2, e3, e4, e5, e6, e7, e8⟩ := h.eff (show k < ops.size by omega) he
      have hn := e2.nr
      refine ⟨by have := hn.le; rw [withA_next] at this; have := ih.le; omega, fun b hb hd => hn.dead b (by rw [withA_next]; have := ih.le; omega) ?_⟩
      rw [withA_get]
      cases ha : actO st.heap.next (S k).inc (bit (B.getD k 0)) b (S k).objs with
      | none => exact ih.dead b hb hd
      | some x => obtain ⟨p, _, _, _, q3, _⟩ := actO_some ha; omega
    · rw [(h.stay (show k < ops.size by omega) he).1]; exact ih

theorem draw_run (hE : ∀ ρ o H v H', kindOf T o.op = .eff → effR T rec ρ o H = some (.ret v, H') → EffV P T ng ρ o H v H') {ops : Array Oper} {st : St} {e : Exit} {st' : St} (h : drawR P T rec ops st = some (e, st')) :
    tmpOK ops (Region.before ops) = true ∧ orderOK ops = true ∧ e = .normal ∧ ∃ S val, Run P T ng ops (Region.before ops) st.sz st S val ∧
      st' = { st with tm := (S ops.size).tm, heap := withA (S ops.size).G (S ops.size).inc st.heap.next (2 ^ ops.size - 1) (S ops.size).objs } := by
  unfold drawR at h
  simp only at h
  cases h1 : tmpOK ops (Region.before ops) with
  | false => simp [h1] at h
  | true =>
  cases h2 : orderOK ops with
  | false => simp [h1, h2] at h
  | true =>
  simp only [h1, h2, Bool.and_self, cond_true] at h
  split at h
  · rename_i s hs
    simp only [Option.some.injEq, Prod.mk.injEq] at h
    obtain ⟨rfl, rfl⟩ := h
    obtain ⟨S, val, k1, k2, k3⟩ := drawOps_chain hE _ _ _ hs
    rw [Array.length_toList] at k2
    refine ⟨rfl, rfl, rfl, S, val, ⟨k1, fun k o ho => k3 k o (by rw [Array.getElem?_toList]; exact ho)⟩, ?_⟩
    rw [k2]
  · cases h

theorem drawR_NR (hE : ∀ ρ o H v H', kindOf T o.op = .eff → effR T rec ρ o H = some (.ret v, H') → EffV P T ng ρ o H v H') {ops : Array Oper} {st : St} {e : Exit} {st' : St} (h : drawR P T rec ops st = some (e, st')) : NR st.heap st'.heap := by
  obtain ⟨_, _, _, S, val, hr, rfl⟩ := draw_run hE h
  have hn := hr.NR ops.size (Nat.le_refl _)
  refine ⟨by rw [withA_next]; exact hn.le, fun b hb hd => ?_⟩
  rw [withA_get]
  cases ha : actO st.heap.next (S ops.size).inc (bit (2 ^ ops.size - 1)) b (S ops.size).objs with
  | none => exact hn.dead b hb hd
  | some x => obtain ⟨p, _, _, _, q3, _⟩ := actO_some ha; omega

theorem stepCode_NR (hE : ∀ ρ o H v H', kindOf T o.op = .eff → effR T rec ρ o H = some (.ret v, H') → EffV P T ng ρ o H v H') (hN : SNR rec) : SNR (stepCode P T rec) := by
  intro c st e st' h
  cases c with
  | skip => simp only [stepCode, Option.some.injEq, Prod.mk.injEq] at h; rw [← h.2]; exact .refl _
  | label => simp only [stepCode, Option.some.injEq, Prod.mk.injEq] at h; rw [← h.2]; exact .refl _
  | exit => simp only [stepCode, Option.some.injEq, Prod.mk.injEq] at h; rw [← h.2]; exact .refl _
  | ret => simp only [stepCode, Option.some.injEq, Prod.mk.injEq] at h; rw [← h.2]; exact .refl _
  | region id ops draw =>
    simp only [stepCode] at h
    cases draw with
    | true => simp only [cond_true] at h; exact drawR_NR hE h
    | false => simp only [cond_false] at h; exact seqOps_NR hN _ _ _ _ h
  | seq a b =>
    simp only [stepCode] at h
    split at h
    · rename_i st1 h1; exact (hN _ _ _ _ h1).trans (hN _ _ _ _ h)
    · exact hN _ _ _ _ h
  | cond c x y =>
    simp only [stepCode] at h
    split at h
    · rename_i b _
      cases b with
      | true => exact hN _ _ _ _ h
      | false => exact hN _ _ _ _ h
    · cases h
  | block id c =>
    simp only [stepCode] at h
    split at h
    · rename_i i st1 h1
      cases hi : Nat.beq i id with
      | true => simp only [hi, cond_true, Option.some.injEq, Prod.mk.injEq] at h; rw [← h.2]; exact hN _ _ _ _ h1
      | false => simp only [hi, cond_false, Option.some.injEq, Prod.mk.injEq] at h; rw [← h.2]; exact hN _ _ _ _ h1
    · exact hN _ _ _ _ h
  | loop c =>
    simp only [stepCode] at h
    split at h
    · rename_i st1 h1; exact (hN _ _ _ _ h1).trans (hN _ _ _ _ h)
    · exact hN _ _ _ _ h
  | rangeFunc g ps as body => simp only [stepCode] at h; exact rangeF_NR hN h
  | _ => simp [stepCode] at h

/-! ### a region that draws its order -/
theorem draw_loop {ops : Array Oper} {B : Array Nat} (hBe : B = Region.before ops) {st : St} {S : Nat → DS} {val : Nat → Value} (h : Run P T ng ops B st.sz st S val) (h0 : ∀ b, st.heap.next ≤ b → st.heap.get b = .dead)
    (htmp : tmpOK ops B = true) (hT : T.Ok P ng) (hok : ∀ o ∈ ops.toList, operOk ng o = true) (hB : ∀ i j, bit (B.getD i 0) j = true → j < i) (hng : ng ≤ st.heap.next) {rd : Option Nat} {Q : Exit → Act → World → Prop} {μ0 : Inj} {w0 : World}
    {md : Region.Mode} {r : Nat → Nat} (hr : ∀ i o e, ops[i]? = some o → e ∈ o.after.toList → Region.binds md e = true → e.on < ops.size ∧ r e.on < r i)
    (hfin : ∀ L μ a w, Inv T ops B st S val ng μ0 w0 L μ a w → (∀ i, i < ops.size → onL L i = true) → Q .normal a w) :
    ∀ (fuel : Nat) (L : Array Bool) (μ : Inj) (a : Act) (w : World), cntF (onL L) ops.size ≤ fuel → Inv T ops B st S val ng μ0 w0 L μ a w → wpAnyIn (WF rd) 0 P md ops Q fuel L a w := by
  intro fuel
  induction fuel with
  | zero =>
    intro L μ a w hc hI
    have hall := cntF_zero (f := onL L) (k := ops.size) (by omega)
    refine ⟨?_, hfin L μ a w hI hall⟩
    cases hrd : Region.ready md ops L with
    | nil => rfl
    | cons x xs =>
      obtain ⟨o, k1, k2, k3⟩ := ready_spec (i := x) hI.size (by rw [hrd]; simp)
      rw [hall x (Array.getElem?_eq_some_iff.1 k1).1] at k2; cases k2
  | succ fuel ih =>
    intro L μ a w hc hI
    refine ⟨fun hnil => hfin L μ a w hI fun i hi => ?_, fun i hi => ?_⟩
    · cases hon : onL L i with
      | true => rfl
      | false => exact absurd hnil (ready_some hI.size hr (r i) i (Nat.le_refl _) hi hon)
    · obtain ⟨o, k1, k2, k3⟩ := ready_spec hI.size hi
      have hin : i < ops.size := (Array.getElem?_eq_some_iff.1 k1).1
      have hBi : ∀ j, bit (B.getD i 0) j = true → onL L j = true := by
        intro j hj
        rw [hBe] at hj
        obtain ⟨o', ho', e, he, hb, hej⟩ := before_bit hj
        rw [k1] at ho'; cases ho'
        have hon := k3 e he (binds_any hb)
        rcases hej with rfl | hej
        · exact hon
        · rw [← hBe] at hej; exact hI.closed _ hon _ hej
      refine draw_step h h0 htmp rfl hT hok hB hng hI k1 k2 hBi fun μ' a' w' hI' => ih _ μ' a' w' ?_ hI'
      have := cntF_set k2 (onL_set (L := L) (i := i) (by rw [hI.size]; exact hin)) hin
      omega

theorem draws_sim (hT : T.Ok P ng) {id : Nat} {ops : Array Oper} (hok : ∀ o ∈ ops.toList, operOk ng o = true) {st : St} (htmp : tmpOK ops (Region.before ops) = true) (hord : orderOK ops = true) {S : Nat → DS} {val : Nat → Value} (hr : Run P T ng ops (Region.before ops) st.sz st S val)
    {rd : Option Nat} {μ : Inj} {a : Act} {w : World} (hF : FrRel ng μ st a w) : (Code.region id ops true).wpIn (WF rd) 0 P (fun e' a' w' => ∃ μ', Post ng μ st w .normal { st with tm := (S ops.size).tm, heap := withA (S ops.size).G (S ops.size).inc st.heap.next (2 ^ ops.size - 1) (S ops.size).objs } μ' e' a' w') a w := by
  have h0 : ∀ b, st.heap.next ≤ b → st.heap.get b = .dead := by
    intro b hb
    have := hF.dom.fresh b hb
    cases hd : st.heap.get b with
    | dead => rfl
    | _ => obtain ⟨t, o, k1, _⟩ := hF.rel.obj b (by rw [hd]; simp); rw [this] at k1; cases k1
  have hoff : ∀ i, onL (Array.replicate ops.size false) i = false := by
    intro i
    unfold onL
    simp only [Array.getD_eq_getD_getElem?]
    by_cases hi : i < ops.size
    · simp [hi]
    · simp [hi]
  have hG0 : ∀ w' : World, w'.heap = w.heap → Same w w' → ∀ p, p ≤ ops.size → Cond T ops S (Array.replicate ops.size false) p → Goes ng μ st.heap.get w μ (gL ops S st.heap.next p (Array.replicate ops.size false)) w' := by
    intro w' hw hs p hp hc
    have hc0 : Cond T ops S (Array.replicate ops.size false) 0 := fun m _ => by rw [hoff]; simp
    rw [gL_same hr (Nat.zero_le _) hp hc0 hc]
    refine (Goes.drawn hF.rel hw hs).trans (.of_eq (hF.rel.drawn hw) fun b => ?_)
    unfold gL
    rw [hr.init]
    cases ha : actO st.heap.next 0 (onL (Array.replicate ops.size false)) b (S ops.size).objs with
    | none => rfl
    | some x => obtain ⟨q, _, k2, _⟩ := actO_some ha; rw [hoff] at k2; cases k2
  have main : ∀ md (r : Nat → Nat), (∀ i o e, ops[i]? = some o → e ∈ o.after.toList → Region.binds md e = true → e.on < ops.size ∧ r e.on < r i) →
      wpAnyIn (WF rd) 0 P md ops (fun e' a' w' => ∃ μ', Post ng μ st w .normal { st with tm := (S ops.size).tm, heap := withA (S ops.size).G (S ops.size).inc st.heap.next (2 ^ ops.size - 1) (S ops.size).objs } μ' e' a' w') ops.size (Array.replicate ops.size false) a { w with drawn := w.drawn + 1 } := by
    intro md r hrank
    refine draw_loop (μ0 := μ) (w0 := w) rfl hr h0 htmp hT hok (fun i j hj => before_lt hord hj) hF.dom.ng hrank (fun L μ' a' w' hI hall => ?_) ops.size _ μ a _ (cntF_le _ _) ?_
    · have hcn : Cond T ops S L ops.size := by
        rintro m ⟨o', ho', _⟩
        have hm : m < ops.size := (Array.getElem?_eq_some_iff.1 ho').1
        exact ⟨fun _ => hm, fun _ => hall m hm⟩
      have hg := hI.goes ops.size (Nat.le_refl _) hcn
      have heq : ∀ b, (withA (S ops.size).G (S ops.size).inc st.heap.next (2 ^ ops.size - 1) (S ops.size).objs).get b = gL ops S st.heap.next ops.size L b := by
        intro b
        rw [withA_get]
        unfold gL
        rw [actO_congr (Q := bit (2 ^ ops.size - 1)) (Q' := onL L) fun p hp => ?_]
        have hlt := (hr.objs _ (Nat.le_refl _) p hp).1
        rw [hall _ hlt]
        simp [bit, Nat.testBit_two_pow_sub_one, hlt]
      have hg' := hg.trans (Goes.of_eq hg.rel heq)
      have hnx := (hr.NR ops.size (Nat.le_refl _)).le
      refine ⟨μ', hg', .normal, ⟨(hI.tm).ext fun d => by rw [tmL_all hr hall ops.size (Nat.le_refl _)], hI.dfr, hg'.rel, ?_, ?_⟩, ⟨?_, hI.old⟩, rfl, rfl⟩
      · simp only [withA_next]; have := hF.dom.ng; omega
      · intro n hn
        simp only [withA_next] at hn
        exact hI.top ops.size (Nat.le_refl _) hcn n hn
      · simp only [withA_next]; exact hnx
    · refine ⟨by simp, fun i hi => ?_, ?_, hF.dfr, ⟨0, Nat.zero_le _, fun m _ => by rw [hoff]; simp⟩, fun p hp hc => hG0 { w with drawn := w.drawn + 1 } rfl ⟨rfl, rfl, rfl⟩ p hp hc, fun p hp hc b hb => ?_, fun j hj _ => hF.dom.fresh _ (by omega), fun b _ hm => hm⟩
      · rw [hoff] at hi; cases hi
      · refine hF.tm.ext fun d => ?_
        have : ∀ k, tmL ops val (Array.replicate ops.size false) st.tm k = st.tm := by
          intro k
          induction k with
          | zero => rfl
          | succ k ih => simp only [tmL, hoff]; simpa using ih
        rw [this]
      · have := (hr.NR p hp).le
        exact hF.dom.fresh b (by omega)
  have hord' := hord
  simp only [orderOK, Bool.and_eq_true, Bool.or_eq_true] at hord'
  have rk : ∀ md r, rankOk md r ops = true → ∀ i o e, ops[i]? = some o → e ∈ o.after.toList → Region.binds md e = true → e.on < ops.size ∧ r e.on < r i := fun md r hrk i o e ho he hb => rank_edge hrk ho he hb
  refine wpIn_region_draw fun t => ?_
  unfold Region.schedule
  split
  · exact wpAnyIn_sound ops.size t _ a _ (main .any (fun i => i) fun i o e ho he hb => rk .text _ hord'.1 i o e ho he (binds_any hb))
  · split
    · exact wpAnyIn_sound ops.size (t / 2) _ a _ (main .text _ (rk .text _ hord'.1))
    · rcases hord'.2 with h2 | h2
      · exact wpAnyIn_sound ops.size (t / 2) _ a _ (main .gc _ (rk .gc _ h2))
      · exact wpAnyIn_sound ops.size (t / 2) _ a _ (main .gc _ (rk .gc _ h2))

theorem drawR_sim (hT : T.Ok P ng) (hE : ∀ ρ o H v H', kindOf T o.op = .eff → effR T rec ρ o H = some (.ret v, H') → EffV P T ng ρ o H v H') {id : Nat} {ops : Array Oper} (hok : ∀ o ∈ ops.toList, operOk ng o = true) {st : St} {e : Exit} {st' : St} (h : drawR P T rec ops st = some (e, st')) {rd : Option Nat} {μ : Inj} {a : Act} {w : World}
    (hF : FrRel ng μ st a w) : (Code.region id ops true).wpIn (WF rd) 0 P (fun e' a' w' => ∃ μ', Post ng μ st w e st' μ' e' a' w') a w := by
  obtain ⟨htmp, hord, rfl, S, val, hr, rfl⟩ := draw_run hE h
  exact draws_sim hT hok htmp hord hr hF

/-! ### code -/
theorem Acc.post {ng : Nat} {μ0 μ μ' : Inj} {st0 st st' : St} {w0 w : World} {a : Act} (h : Acc ng μ0 st0 w0 μ st a w) {e e' : Exit} {a' : Act} {w' : World} (hp : Post ng μ st w e st' μ' e' a' w') : Post ng μ0 st0 w0 e st' μ' e' a' w' :=
  ⟨h.goes.trans hp.goes, hp.exit, hp.fr, h.next.trans hp.next, hp.rd.trans h.rd, hp.sz.trans h.sz⟩
theorem Post.acc {ng : Nat} {μ μ' : Inj} {st st' : St} {w : World} {e e' : Exit} {a' : Act} {w' : World} (hp : Post ng μ st w e st' μ' e' a' w') : Acc ng μ st w μ' st' a' w' :=
  ⟨hp.goes, hp.fr, hp.next, hp.rd, hp.sz⟩

theorem run_sound_le (hT : T.Ok P ng) : ∀ n m, m ≤ n → Sound P ng (run P T m) ∧ SNR (run P T m)
  | n, 0, _ => ⟨fun c st e st' _ h => by simp [run] at h, fun c st e st' h => by simp [run] at h⟩
  | 0, m + 1, hm => by omega
  | n + 1, m + 1, hm => by
    have ih := run_sound_le hT n
    have hS := (ih m (by omega)).1
    have hN := (ih m (by omega)).2
    have hE : ∀ ρ o H v H', kindOf T o.op = .eff → effR T (run P T m) ρ o H = some (.ret v, H') → EffV P T ng ρ o H v H' := fun ρ o H v H' hk h => .of hT hS hN hk h
    refine ⟨?_, stepCode_NR hE hN⟩
    intro c st e st' hok h rd μ a w hrd hF
    simp only [run] at h
    cases c with
    | skip =>
      simp only [stepCode, Option.some.injEq, Prod.mk.injEq] at h; obtain ⟨rfl, rfl⟩ := h
      exact wpIn_skip ⟨μ, .refl hF.rel, .normal, hF, .refl _ _, rfl, rfl⟩
    | label =>
      simp only [stepCode, Option.some.injEq, Prod.mk.injEq] at h; obtain ⟨rfl, rfl⟩ := h
      exact wpIn_label ⟨μ, .refl hF.rel, .normal, hF, .refl _ _, rfl, rfl⟩
    | exit id =>
      simp only [stepCode, Option.some.injEq, Prod.mk.injEq] at h; obtain ⟨rfl, rfl⟩ := h
      exact wpIn_exit ⟨μ, .refl hF.rel, .exit _, hF, .refl _ _, rfl, rfl⟩
    | ret =>
      simp only [stepCode, Option.some.injEq, Prod.mk.injEq] at h; obtain ⟨rfl, rfl⟩ := h
      exact wpIn_ret ⟨μ, .refl hF.rel, .ret, hF, .refl _ _, rfl, rfl⟩
    | region id ops draw =>
      simp only [stepCode] at h
      have hok' : ∀ o ∈ ops.toList, operOk ng o = true := by
        simp only [codeOk, List.all_eq_true] at hok; exact hok
      cases draw with
      | true => simp only [cond_true] at h; exact drawR_sim hT hE hok' h hF
      | false =>
        simp only [cond_false] at h
        refine wpIn_region ?_
        have := seqOps_sim (P := P) (rd := rd) hT hS hok' hrd ops.toList 0 st μ a w rfl h (.refl hF)
        rw [Array.length_toList] at this
        rw [List.range_eq_range']; exact this
    | seq x y =>
      simp only [codeOk, Bool.and_eq_true] at hok
      simp only [stepCode] at h
      refine wpIn_seq ?_
      split at h
      · rename_i st1 h1
        refine wpIn_mono (hS _ _ _ _ hok.1 h1 rd μ a w hrd hF) ?_
        rintro e1 a1 w1 ⟨μ1, p1⟩
        have px := p1.exit
        cases px
        refine wpIn_mono (hS _ _ _ _ hok.2 h rd μ1 a1 w1 (fun hr => hrd (by rw [← p1.rd]; exact hr)) p1.fr) ?_
        rintro e2 a2 w2 ⟨μ2, p2⟩
        exact ⟨μ2, p1.acc.post p2⟩
      · rename_i hne
        refine wpIn_mono (hS _ _ _ _ hok.1 h rd μ a w hrd hF) ?_
        rintro e1 a1 w1 ⟨μ1, p1⟩
        have px := p1.exit
        cases px with
        | normal => exact absurd h (hne st')
        | _ => exact ⟨μ1, p1⟩
    | cond c x y =>
      simp only [codeOk, Bool.and_eq_true] at hok
      simp only [stepCode] at h
      split at h
      · rename_i b hb
        have hv := eval_rel hF hok.1.1
        rw [hb] at hv
        have hv' := hv.bool_inv
        cases b with
        | true => exact wpIn_cond_true hv' (hS _ _ _ _ hok.1.2 h rd μ a w hrd hF)
        | false => exact wpIn_cond_false hv' (hS _ _ _ _ hok.2 h rd μ a w hrd hF)
      · cases h
    | block id c =>
      simp only [codeOk] at hok
      simp only [stepCode] at h
      refine wpIn_block ?_
      split at h
      · rename_i i st1 h1
        refine wpIn_mono (hS _ _ _ _ hok h1 rd μ a w hrd hF) ?_
        rintro e1 a1 w1 ⟨μ1, p1⟩
        have px := p1.exit
        cases px
        cases hi : Nat.beq i id with
        | true =>
          simp only [hi, cond_true, Option.some.injEq, Prod.mk.injEq] at h
          obtain ⟨rfl, rfl⟩ := h
          have he := (beq_iff _ _).1 hi
          simp only [Exit.inBlock, he, if_true]
          exact ⟨μ1, p1.goes, .normal, p1.fr, p1.next, p1.rd, p1.sz⟩
        | false =>
          simp only [hi, cond_false, Option.some.injEq, Prod.mk.injEq] at h
          obtain ⟨rfl, rfl⟩ := h
          have he : i ≠ id := fun e => by rw [(beq_iff _ _).2 e] at hi; cases hi
          simp only [Exit.inBlock, he, if_false]
          exact ⟨μ1, p1⟩
      · rename_i hne
        refine wpIn_mono (hS _ _ _ _ hok h rd μ a w hrd hF) ?_
        rintro e1 a1 w1 ⟨μ1, p1⟩
        have px := p1.exit
        cases px with
        | exit i => exact absurd h (hne i st')
        | normal => exact ⟨μ1, p1⟩
        | ret => exact ⟨μ1, p1⟩
        | panic c c' hp => exact ⟨μ1, p1⟩
    | loop c =>
      simp only [codeOk] at hok
      have key : ∀ (k : Nat) (st1 : St) (μ1 : Inj) (a1 : Act) (w1 : World), k ≤ m + 1 → run P T k (.loop c) st1 = some (e, st') → Acc ng μ st w μ1 st1 a1 w1 → Code.roundsIn (WF rd) 0 P c (fun e' a' w' => ∃ μ', Post ng μ st w e st' μ' e' a' w') k a1 w1 := by
        intro k
        induction k with
        | zero => intro st1 μ1 a1 w1 _ h; simp [run] at h
        | succ k ihk =>
          intro st1 μ1 a1 w1 hk h hA
          rw [roundsIn_succ]
          simp only [run, stepCode] at h
          have hSk := (ih k (by omega)).1
          split at h
          · rename_i st2 h2
            refine wpIn_mono (hSk _ _ _ _ hok h2 rd μ1 a1 w1 (fun hr => hrd (by rw [← hA.rd]; exact hr)) hA.fr) ?_
            rintro e3 a3 w3 ⟨μ3, p3⟩
            have px := p3.exit
            cases px
            have hA3 := p3.acc
            exact ihk st2 μ3 a3 w3 (by omega) h ⟨hA.goes.trans hA3.goes, hA3.fr, hA.next.trans hA3.next, hA3.rd.trans hA.rd, hA3.sz.trans hA.sz⟩
          · rename_i hne
            refine wpIn_mono (hSk _ _ _ _ hok h rd μ1 a1 w1 (fun hr => hrd (by rw [← hA.rd]; exact hr)) hA.fr) ?_
            rintro e3 a3 w3 ⟨μ3, p3⟩
            have hp := hA.post p3
            have px := p3.exit
            cases px with
            | normal => exact absurd h (hne st')
            | _ => exact ⟨μ3, hp⟩
      exact wpIn_loop_rounds (m + 1) (key (m + 1) st μ a w (Nat.le_refl _) (by simpa only [run] using h) (.refl hF))
    | rangeFunc g ps as body =>
      simp only [stepCode] at h
      exact rangeF_sim hT hS hok h hrd hF
    | _ => simp [stepCode] at h

theorem run_sound (hT : T.Ok P ng) (n : Nat) : Sound P ng (run P T n) := (run_sound_le hT n n (Nat.le_refl _)).1
theorem run_NR (hT : T.Ok P ng) (n : Nat) : SNR (run P T n) := (run_sound_le hT n n (Nat.le_refl _)).2


theorem CallV.run (hT : T.Ok P ng) {n : Nat} {f : FuncId} {args : Array Value} {H H' : Heap} {r : Ret} (h : call P T n f args H = some (r, H')) : CallV P ng f args H r H' := .of hT (run_sound hT n) (run_NR hT n) h

end
end Go.Ab
end
section
namespace Go.Ab

/-- a piece of code comes to this -/
structure CodeV (P : Program) (ng : Nat) (c : Code) (st : St) (e : Exit) (st' : St) : Prop where
  nr : NR st.heap st'.heap
  sz : st'.sz = st.sz
  rd : st'.rd = st.rd
  sim : ∀ (rd : Option Nat) (μ : Inj) (a : Act) (w : World), (st.rd = false → rd = none) → FrRel ng μ st a w → c.wpIn (WF rd) 0 P (fun e' a' w' => ∃ μ', Post ng μ st w e st' μ' e' a' w') a w

def SW (P : Program) (ng : Nat) (c : Code) (st : St) (Q : Exit → St → Prop) : Prop := ∃ e st', Q e st' ∧ CodeV P ng c st e st'

def SemC (P : Program) (ng : Nat) (f : FuncId) (args : Array Value) (H : Heap) (Q : Ret → Heap → Prop) : Prop := ∃ r H', Q r H' ∧ CallV P ng f args H r H'

theorem SemC.mono {P : Program} {ng : Nat} {f : FuncId} {args : Array Value} {H : Heap} {Q Q' : Ret → Heap → Prop} (h : SemC P ng f args H Q) (hQ : ∀ r H', Q r H' → Q' r H') : SemC P ng f args H Q' :=
  let ⟨r, H', h1, h2⟩ := h; ⟨r, H', hQ r H' h1, h2⟩

/-! ### a region in the order of the text -/
section
variable (P : Program) (T : Tab) (ng : Nat) (ops : Array Oper) (k : Exit → St → Prop)

def RO : List Oper → St → Prop
  | [], st => k .normal st
  | o :: rest, st =>
    bif wantedC ops st.tm o then
      match aop P T (evalT st.tm) o st.heap with
      | some (.val v H) => RO rest { st with tm := putT st.tm o.dst v, heap := H }
      | some (.call f args) => SemC P ng f args st.heap fun r H => match r with
        | .ret v => RO rest { st with tm := putT st.tm o.dst v, heap := H }
        | .pan ch => k (.panic ch) { st with heap := H }
      | some (.dfr d) => st.rd = false ∧ RO rest { st with tm := putT st.tm o.dst undef, defers := d :: st.defers }
      | some (.pan v) => k (.panic [{ v, recovered := false }]) st
      | _ => False
    else RO rest { st with tm := putT st.tm o.dst undef }

def KR (o : Oper) (rest : List Oper) (st : St) (r : Ret) (H : Heap) : Prop := match r with
  | .ret v => RO P T ng ops k rest { st with tm := putT st.tm o.dst v, heap := H }
  | .pan ch => k (.panic ch) { st with heap := H }
def RA (o : Oper) (rest : List Oper) (st : St) (out : Option Out) : Prop := match out with
  | some (.val v H) => RO P T ng ops k rest { st with tm := putT st.tm o.dst v, heap := H }
  | some (.call f args) => SemC P ng f args st.heap (KR P T ng ops k o rest st)
  | some (.dfr d) => st.rd = false ∧ RO P T ng ops k rest { st with tm := putT st.tm o.dst undef, defers := d :: st.defers }
  | some (.pan v) => k (.panic [{ v, recovered := false }]) st
  | _ => False
def RW (o : Oper) (rest : List Oper) (st : St) (b : Bool) : Prop :=
  bif b then RA P T ng ops k o rest st (aop P T (evalT st.tm) o st.heap) else RO P T ng ops k rest { st with tm := putT st.tm o.dst undef }

theorem RO_nil (st : St) : RO P T ng ops k [] st = k .normal st := (rfl)
theorem RO_cons (o : Oper) (rest : List Oper) (st : St) : RO P T ng ops k (o :: rest) st = RW P T ng ops k o rest st (wantedC ops st.tm o) := by
  simp only [RO, RW, RA]
  cases wantedC ops st.tm o with
  | false => rfl
  | true =>
    simp only [cond_true]
    cases aop P T (evalT st.tm) o st.heap with
    | none => rfl
    | some out => cases out <;> rfl
theorem RW_true (o : Oper) (rest : List Oper) (st : St) : RW P T ng ops k o rest st true = RA P T ng ops k o rest st (aop P T (evalT st.tm) o st.heap) := (rfl)
theorem RW_false (o : Oper) (rest : List Oper) (st : St) : RW P T ng ops k o rest st false = RO P T ng ops k rest { st with tm := putT st.tm o.dst undef } := (rfl)
theorem RA_val (o : Oper) (rest : List Oper) (st : St) (v : Value) (H : Heap) : RA P T ng ops k o rest st (some (.val v H)) = RO P T ng ops k rest { st with tm := putT st.tm o.dst v, heap := H } := (rfl)
theorem RA_call (o : Oper) (rest : List Oper) (st : St) (f : FuncId) (args : Array Value) : RA P T ng ops k o rest st (some (.call f args)) = SemC P ng f args st.heap (KR P T ng ops k o rest st) := (rfl)
theorem RA_dfr (o : Oper) (rest : List Oper) (st : St) (d : Deferred) : RA P T ng ops k o rest st (some (.dfr d)) = (st.rd = false ∧ RO P T ng ops k rest { st with tm := putT st.tm o.dst undef, defers := d :: st.defers }) := (rfl)
theorem KR_ret (o : Oper) (rest : List Oper) (st : St) (v : Value) (H : Heap) : KR P T ng ops k o rest st (.ret v) H = RO P T ng ops k rest { st with tm := putT st.tm o.dst v, heap := H } := (rfl)
end

section
variable {P : Program} {T : Tab} {ng : Nat}

/-- operations come to this -/
structure OpsV (P : Program) (ng : Nat) (ops : Array Oper) (i n : Nat) (st : St) (e : Exit) (st' : St) : Prop where
  nr : NR st.heap st'.heap
  sz : st'.sz = st.sz
  rd : st'.rd = st.rd
  sim : ∀ (rd : Option Nat) (μ : Inj) (a : Act) (w : World), (st.rd = false → rd = none) → FrRel ng μ st a w → wpOpsIn (WF rd) 0 P ops (fun e' a' w' => ∃ μ', Post ng μ st w e st' μ' e' a' w') (List.range' i n) a w

theorem wpOpsIn_mono {F : Fence} {n : Nat} {ops : Array Oper} {Q Q' : Exit → Act → World → Prop} (hQ : ∀ e a w, Q e a w → Q' e a w) : ∀ (l : List Nat) (a : Act) (w : World), wpOpsIn F n P ops Q l a w → wpOpsIn F n P ops Q' l a w
  | [], a, w, h => hQ _ _ _ h
  | i :: l, a, w, h => by
    rw [wpOpsIn] at h ⊢
    cases ho : ops[i]? with
    | none => rw [ho] at h; exact wpOpsIn_mono hQ l a w h
    | some o =>
      rw [ho] at h
      simp only at h ⊢
      split
      · rename_i hw
        rw [if_pos hw] at h
        refine ⟨h.1, ?_⟩
        have hh := h.2
        generalize (o.semAt F.round a.eval).run P w = r at *
        cases r with
        | ok x w' =>
          cases x <;> simp only [Oper.uponIn] at hh ⊢ <;>
            first
              | exact wpOpsIn_mono hQ l _ _ hh
              | exact ⟨hh.1, CallsIn.mono hh.2 (fun e w'' he => by cases e <;> first | exact wpOpsIn_mono hQ l _ _ he | exact hQ _ _ _ he | exact let ⟨a, w, h⟩ := he; ⟨a, w, hQ _ _ _ h⟩)⟩
              | exact ⟨hh.1, RowsIn.mono hh.2 (fun _ _ he => wpOpsIn_mono hQ l _ _ he)⟩
              | exact ⟨hh.1, RoundIn.mono hh.2 (fun e w'' he => by cases e <;> first | exact wpOpsIn_mono hQ l _ _ he | exact hQ _ _ _ he | exact let ⟨a, w, h⟩ := he; ⟨a, w, hQ _ _ _ h⟩)⟩
        | halt x w' => cases x <;> simp only [Oper.uponIn] at hh ⊢ <;> first | exact hh | exact hQ _ _ _ hh
      · rename_i hw
        rw [if_neg hw] at h
        exact ⟨h.1, wpOpsIn_mono hQ l _ _ h.2⟩

theorem RO_sound (hT : T.Ok P ng) {ops : Array Oper} (hok : ∀ o ∈ ops.toList, operOk ng o = true) {k : Exit → St → Prop} : ∀ (rest : List Oper) (i : Nat) (st : St), ops.toList.drop i = rest → (∀ o ∈ rest, dstOk st.sz o.dst = true) → RO P T ng ops k rest st →
    ∃ e st', k e st' ∧ OpsV P ng ops i rest.length st e st' := by
  intro rest
  induction rest with
  | nil =>
    intro i st _ _ h
    exact ⟨.normal, st, h, .refl _, rfl, rfl, fun rd μ a w _ hF => ⟨μ, .refl hF.rel, .normal, hF, .refl _ _, rfl, rfl⟩⟩
  | cons o rest ih =>
    intro i st hdrop hdst h
    have hoi : ops[i]? = some o := by
      have : (ops.toList.drop i)[0]? = some o := by rw [hdrop]; rfl
      rw [List.getElem?_drop] at this
      simpa using this
    have hdrop' : ops.toList.drop (i + 1) = rest := by
      have : (ops.toList.drop i).drop 1 = rest := by rw [hdrop]; rfl
      rw [List.drop_drop] at this
      exact this
    have hmem : o ∈ ops.toList := List.mem_of_getElem? (by rw [Array.getElem?_toList]; exact hoi)
    have hd0 : dstOk st.sz o.dst = true := hdst o (by simp)
    have hd1 : ∀ o ∈ rest, dstOk st.sz o.dst = true := fun o ho => hdst o (by simp [ho])
    have ihh : ∀ {st1 : St}, RO P T ng ops k rest st1 → st1.sz = st.sz → ∃ e st', k e st' ∧ OpsV P ng ops (i + 1) rest.length st1 e st' := fun h hs => ih (i + 1) _ hdrop' (by rw [hs]; exact hd1) h
    -- a value comes in, and on it goes
    have go : ∀ {st1 : St} {e : Exit} {st' : St} (_ : OpsV P ng ops (i + 1) rest.length st1 e st') {rd : Option Nat} {μ μ1 : Inj} {a1 : Act} {w w1 : World}, (st.rd = false → rd = none) → Acc ng μ st w μ1 st1 a1 w1 →
        wpOpsIn (WF rd) 0 P ops (fun e' a' w' => ∃ μ', Post ng μ st w e st' μ' e' a' w') (List.range' (i + 1) rest.length) a1 w1 := by
      intro st1 e st' hV rd μ μ1 a1 w w1 hrd hA
      refine wpOpsIn_mono ?_ _ _ _ (hV.sim rd μ1 a1 w1 (fun hr => hrd (by rw [← hA.rd]; exact hr)) hA.fr)
      rintro e' a' w' ⟨μ', hp⟩
      exact ⟨μ', hA.post hp⟩
    rw [RO_cons, RW] at h
    cases hw : wantedC ops st.tm o with
    | false =>
      rw [hw] at h
      simp only [cond_false] at h
      obtain ⟨e, st', hk, hV⟩ := ihh h rfl
      refine ⟨e, st', hk, hV.nr, hV.sz, hV.rd, fun rd μ a w hrd hF => ?_⟩
      simp only [List.length_cons, List.range'_succ, wpOpsIn, hoi]
      rw [wanted_eq hF.tm o, hw]
      simp only [Bool.false_eq_true, if_false]
      exact ⟨fun _ _ => wf_fn _ _, go hV hrd ((Acc.refl hF).put hd0 (.refl hF.rel) undef_rel hF.dom (.refl _ _))⟩
    | true =>
      rw [hw] at h
      simp only [cond_true] at h
      cases hop : aop P T (evalT st.tm) o st.heap with
      | none => rw [hop] at h; exact h.elim
      | some out =>
      rw [hop] at h
      cases out with
      | val v H' =>
        rw [RA_val] at h
        obtain ⟨e, st', hk, hV⟩ := ihh h rfl
        refine ⟨e, st', hk, (aop_NR hop).trans hV.nr, hV.sz, hV.rd, fun rd μ a w hrd hF => ?_⟩
        simp only [List.length_cons, List.range'_succ, wpOpsIn, hoi]
        rw [wanted_eq hF.tm o, hw]
        simp only [if_true]
        refine ⟨fun _ _ => wf_fn _ _, ?_⟩
        have hO := aop_ok (w := w) (ρ' := a.eval) hT hF.rel hF.dom (opnds hF (hok o hmem)) hop
        rw [semAt_eq (.inr (aop_notDefer hop (by simp)))]
        obtain ⟨v', w', μ', hrun, hg, hv, hD, hn⟩ := hO
        have hA' := (Acc.refl hF).put hd0 hg hv hD hn
        rcases hrun with hrun | ⟨rfl, hrun⟩
        · rw [hrun]; exact go hV hrd hA'
        · rw [hrun]; exact go hV hrd hA'
      | call f args =>
        rw [RA_call] at h
        obtain ⟨r, H', hr, hC⟩ := h
        cases r with
        | ret v =>
          rw [KR_ret] at hr
          obtain ⟨e, st', hk, hV⟩ := ihh hr rfl
          refine ⟨e, st', hk, hC.nr.trans hV.nr, hV.sz, hV.rd, fun rd μ a w hrd hF => ?_⟩
          simp only [List.length_cons, List.range'_succ, wpOpsIn, hoi]
          rw [wanted_eq hF.tm o, hw]
          simp only [if_true]
          refine ⟨fun _ _ => wf_fn _ _, ?_⟩
          have hO := aop_ok (w := w) (ρ' := a.eval) hT hF.rel hF.dom (opnds hF (hok o hmem)) hop
          rw [semAt_eq (.inr (aop_notDefer hop (by simp)))]
          obtain ⟨args', fn, hrun, ha, _⟩ := hO
          rw [hrun]
          refine ⟨wf_depth _, CallsIn.mono (callsIn_wf (hC.sim μ w args' hF.rel hF.dom ha)) ?_⟩
          rintro e1 w1 ⟨μ', hp⟩
          have hret := hp.ret
          cases hret with
          | ret _ v' hv => exact go hV hrd ((Acc.refl hF).put hd0 hp.goes hv hp.dom hp.next)
        | pan ch =>
          refine ⟨.panic ch, { st with heap := H' }, hr, hC.nr, rfl, rfl, fun rd μ a w hrd hF => ?_⟩
          simp only [List.length_cons, List.range'_succ, wpOpsIn, hoi]
          rw [wanted_eq hF.tm o, hw]
          simp only [if_true]
          refine ⟨fun _ _ => wf_fn _ _, ?_⟩
          have hO := aop_ok (w := w) (ρ' := a.eval) hT hF.rel hF.dom (opnds hF (hok o hmem)) hop
          rw [semAt_eq (.inr (aop_notDefer hop (by simp)))]
          obtain ⟨args', fn, hrun, ha, _⟩ := hO
          rw [hrun]
          refine ⟨wf_depth _, CallsIn.mono (callsIn_wf (hC.sim μ w args' hF.rel hF.dom ha)) ?_⟩
          rintro e1 w1 ⟨μ', hp⟩
          have hret := hp.ret
          cases hret with
          | pan _ c' hpr => exact ⟨μ', hp.goes, .panic _ _ hpr, ⟨hF.tm.mono hp.goes.le, hF.dfr.mono hp.goes.le, hp.goes.rel, hp.dom⟩, hp.next, rfl, rfl⟩
      | round l args => exact h.elim
      | dfr d =>
        rw [RA_dfr] at h
        obtain ⟨hrdf, h⟩ := h
        obtain ⟨e, st', hk, hV⟩ := ihh h rfl
        refine ⟨e, st', hk, hV.nr, hV.sz, hV.rd, fun rd μ a w hrd hF => ?_⟩
        simp only [List.length_cons, List.range'_succ, wpOpsIn, hoi]
        rw [wanted_eq hF.tm o, hw]
        simp only [if_true]
        refine ⟨fun _ _ => wf_fn _ _, ?_⟩
        have hO := aop_ok (w := w) (ρ' := a.eval) hT hF.rel hF.dom (opnds hF (hok o hmem)) hop
        have hrd0 : rd = none := hrd hrdf
        rw [semAt_eq (.inl hrd0)]
        obtain ⟨d', hrun, hd, _⟩ := hO
        rw [hrun]
        have hA2 : Acc ng μ st w μ { st with defers := d :: st.defers } { a with defers := d' :: a.defers } w :=
          ⟨.refl hF.rel, ⟨hF.tm, .cons _ _ _ _ hd hF.dfr, hF.rel, hF.dom⟩, .refl _ _, rfl, rfl⟩
        exact go hV hrd (hA2.put hd0 (.refl hF.rel) undef_rel hF.dom (.refl _ _))
      | pan v =>
        refine ⟨.panic [{ v, recovered := false }], st, h, .refl _, rfl, rfl, fun rd μ a w hrd hF => ?_⟩
        simp only [List.length_cons, List.range'_succ, wpOpsIn, hoi]
        rw [wanted_eq hF.tm o, hw]
        simp only [if_true]
        refine ⟨fun _ _ => wf_fn _ _, ?_⟩
        have hO := aop_ok (w := w) (ρ' := a.eval) hT hF.rel hF.dom (opnds hF (hok o hmem)) hop
        rw [semAt_eq (.inr (aop_notDefer hop (by simp)))]
        obtain ⟨v', hrun, hv⟩ := hO
        rw [hrun]
        exact ⟨μ, .refl hF.rel, .panic _ _ (.cons _ _ _ _ ⟨hv, rfl, rfl⟩ .nil), hF, .refl _ _, rfl, rfl⟩

end
attribute [irreducible] RO RA RW KR

end Go.Ab
end
section
namespace Go.Ab

section
variable (P : Program) (T : Tab) (ng : Nat) (ops : Array Oper) (B : Array Nat) (base : Nat) (k : DS → Prop)

def OnP (G : Heap) (inc bi : Nat) (objs : List (Nat × AObj)) : List (Nat × Tr Value × Oper × Value) → Prop
  | [] => True
  | r :: rs => (bit bi r.1 = true ∨ aread P T (evalT r.2.1) r.2.2.1 (withA G inc base (B.getD r.1 0) objs) = some r.2.2.2) ∧ OnP G inc bi objs rs

def BackP (ρ : Operand → Value) (o : Oper) (v : Value) (msk effs : Nat) (objs : List (Nat × AObj)) : List (Heap × Nat × Nat) → Prop
  | [] => True
  | s :: r => ((msk &&& effs) &&& s.2.2 ≠ msk &&& effs ∨ aread P T ρ o (withA s.1 s.2.1 base msk objs) = some v) ∧ BackP ρ o v msk effs objs r

def DO : List Oper → DS → Prop
  | [], s => k s
  | o :: rest, s =>
    bif wantedC ops s.tm o then
      match kindOf T o.op with
      | .read => match aread P T (evalT s.tm) o (withA s.G s.inc base (B.getD s.i 0) s.objs) with
        | some v => BackP P T base (evalT s.tm) o v (B.getD s.i 0) s.effs s.objs s.hist ∧ DO rest { s with i := s.i + 1, tm := putT s.tm o.dst v, rds := (s.i, s.tm, o, v) :: s.rds }
        | none => False
      | .alloc => match aalloc T (evalT s.tm) o with
        | some p => DO rest { s with i := s.i + 1, tm := putT s.tm o.dst (p.2 (base + s.i)), objs := (s.i, p.1) :: s.objs }
        | none => False
      | .eff => s.effs &&& B.getD s.i 0 = s.effs ∧ match aeff T (evalT s.tm) o (withA s.G s.inc base (B.getD s.i 0) s.objs) with
        | some (.val v H) => OnP P T B base H (s.inc ||| B.getD s.i 0) (B.getD s.i 0) s.objs s.rds ∧
            DO rest { s with i := s.i + 1, tm := putT s.tm o.dst v, G := H, inc := s.inc ||| B.getD s.i 0, effs := s.effs ||| 2 ^ s.i, hist := (s.G, s.inc, s.effs) :: s.hist }
        | some (.call f args) => SemC P ng f args (withA s.G s.inc base (B.getD s.i 0) s.objs) fun r H => match r with
          | .ret v => OnP P T B base H (s.inc ||| B.getD s.i 0) (B.getD s.i 0) s.objs s.rds ∧
              DO rest { s with i := s.i + 1, tm := putT s.tm o.dst v, G := H, inc := s.inc ||| B.getD s.i 0, effs := s.effs ||| 2 ^ s.i, hist := (s.G, s.inc, s.effs) :: s.hist }
          | .pan _ => False
        | _ => False
    else DO rest { s with i := s.i + 1, tm := putT s.tm o.dst undef }

def KD (o : Oper) (rest : List Oper) (s : DS) (r : Ret) (H : Heap) : Prop := match r with
  | .ret v => OnP P T B base H (s.inc ||| B.getD s.i 0) (B.getD s.i 0) s.objs s.rds ∧
      DO P T ng ops B base k rest { s with i := s.i + 1, tm := putT s.tm o.dst v, G := H, inc := s.inc ||| B.getD s.i 0, effs := s.effs ||| 2 ^ s.i, hist := (s.G, s.inc, s.effs) :: s.hist }
  | .pan _ => False
def DR (o : Oper) (rest : List Oper) (s : DS) (x : Option Value) : Prop := match x with
  | some v => BackP P T base (evalT s.tm) o v (B.getD s.i 0) s.effs s.objs s.hist ∧ DO P T ng ops B base k rest { s with i := s.i + 1, tm := putT s.tm o.dst v, rds := (s.i, s.tm, o, v) :: s.rds }
  | none => False
def DA (o : Oper) (rest : List Oper) (s : DS) (x : Option (AObj × (Nat → Value))) : Prop := match x with
  | some p => DO P T ng ops B base k rest { s with i := s.i + 1, tm := putT s.tm o.dst (p.2 (base + s.i)), objs := (s.i, p.1) :: s.objs }
  | none => False
def DE (o : Oper) (rest : List Oper) (s : DS) (x : Option Out) : Prop := match x with
  | some (.val v H) => OnP P T B base H (s.inc ||| B.getD s.i 0) (B.getD s.i 0) s.objs s.rds ∧
      DO P T ng ops B base k rest { s with i := s.i + 1, tm := putT s.tm o.dst v, G := H, inc := s.inc ||| B.getD s.i 0, effs := s.effs ||| 2 ^ s.i, hist := (s.G, s.inc, s.effs) :: s.hist }
  | some (.call f args) => SemC P ng f args (withA s.G s.inc base (B.getD s.i 0) s.objs) (KD P T ng ops B base k o rest s)
  | _ => False
def DK (o : Oper) (rest : List Oper) (s : DS) (x : Kind) : Prop := match x with
  | .read => DR P T ng ops B base k o rest s (aread P T (evalT s.tm) o (withA s.G s.inc base (B.getD s.i 0) s.objs))
  | .alloc => DA P T ng ops B base k o rest s (aalloc T (evalT s.tm) o)
  | .eff => s.effs &&& B.getD s.i 0 = s.effs ∧ DE P T ng ops B base k o rest s (aeff T (evalT s.tm) o (withA s.G s.inc base (B.getD s.i 0) s.objs))
def DW (o : Oper) (rest : List Oper) (s : DS) (b : Bool) : Prop :=
  bif b then DK P T ng ops B base k o rest s (kindOf T o.op) else DO P T ng ops B base k rest { s with i := s.i + 1, tm := putT s.tm o.dst undef }

theorem DO_nil (s : DS) : DO P T ng ops B base k [] s = k s := (rfl)
theorem DO_cons (o : Oper) (rest : List Oper) (s : DS) : DO P T ng ops B base k (o :: rest) s = DW P T ng ops B base k o rest s (wantedC ops s.tm o) := by
  simp only [DO, DW]
  cases wantedC ops s.tm o with
  | false => rfl
  | true =>
    simp only [cond_true]
    unfold DK
    cases kindOf T o.op with
    | read =>
      simp only [DR]
    | alloc =>
      simp only [DA]
    | eff =>
      simp only [DE]
      cases aeff T (evalT s.tm) o (withA s.G s.inc base (B.getD s.i 0) s.objs) with
      | none => rfl
      | some out => cases out <;> rfl
theorem DW_true (o : Oper) (rest : List Oper) (s : DS) : DW P T ng ops B base k o rest s true = DK P T ng ops B base k o rest s (kindOf T o.op) := (rfl)
theorem DW_false (o : Oper) (rest : List Oper) (s : DS) : DW P T ng ops B base k o rest s false = DO P T ng ops B base k rest { s with i := s.i + 1, tm := putT s.tm o.dst undef } := (rfl)
theorem DK_read (o : Oper) (rest : List Oper) (s : DS) : DK P T ng ops B base k o rest s .read = DR P T ng ops B base k o rest s (aread P T (evalT s.tm) o (withA s.G s.inc base (B.getD s.i 0) s.objs)) := (rfl)
theorem DK_alloc (o : Oper) (rest : List Oper) (s : DS) : DK P T ng ops B base k o rest s .alloc = DA P T ng ops B base k o rest s (aalloc T (evalT s.tm) o) := (rfl)
theorem DK_eff (o : Oper) (rest : List Oper) (s : DS) : DK P T ng ops B base k o rest s .eff = (s.effs &&& B.getD s.i 0 = s.effs ∧ DE P T ng ops B base k o rest s (aeff T (evalT s.tm) o (withA s.G s.inc base (B.getD s.i 0) s.objs))) := (rfl)
theorem DR_some (o : Oper) (rest : List Oper) (s : DS) (v : Value) : DR P T ng ops B base k o rest s (some v) = (BackP P T base (evalT s.tm) o v (B.getD s.i 0) s.effs s.objs s.hist ∧ DO P T ng ops B base k rest { s with i := s.i + 1, tm := putT s.tm o.dst v, rds := (s.i, s.tm, o, v) :: s.rds }) := (rfl)
theorem DA_some (o : Oper) (rest : List Oper) (s : DS) (p : AObj × (Nat → Value)) : DA P T ng ops B base k o rest s (some p) = DO P T ng ops B base k rest { s with i := s.i + 1, tm := putT s.tm o.dst (p.2 (base + s.i)), objs := (s.i, p.1) :: s.objs } := (rfl)
theorem DE_val (o : Oper) (rest : List Oper) (s : DS) (v : Value) (H : Heap) : DE P T ng ops B base k o rest s (some (.val v H)) = (OnP P T B base H (s.inc ||| B.getD s.i 0) (B.getD s.i 0) s.objs s.rds ∧
      DO P T ng ops B base k rest { s with i := s.i + 1, tm := putT s.tm o.dst v, G := H, inc := s.inc ||| B.getD s.i 0, effs := s.effs ||| 2 ^ s.i, hist := (s.G, s.inc, s.effs) :: s.hist }) := (rfl)
theorem DE_call (o : Oper) (rest : List Oper) (s : DS) (f : FuncId) (args : Array Value) : DE P T ng ops B base k o rest s (some (.call f args)) = SemC P ng f args (withA s.G s.inc base (B.getD s.i 0) s.objs) (KD P T ng ops B base k o rest s) := (rfl)
theorem KD_ret (o : Oper) (rest : List Oper) (s : DS) (v : Value) (H : Heap) : KD P T ng ops B base k o rest s (.ret v) H = (OnP P T B base H (s.inc ||| B.getD s.i 0) (B.getD s.i 0) s.objs s.rds ∧
      DO P T ng ops B base k rest { s with i := s.i + 1, tm := putT s.tm o.dst v, G := H, inc := s.inc ||| B.getD s.i 0, effs := s.effs ||| 2 ^ s.i, hist := (s.G, s.inc, s.effs) :: s.hist }) := (rfl)
theorem OnP_nil (G : Heap) (inc bi : Nat) (objs : List (Nat × AObj)) : OnP P T B base G inc bi objs [] = True := (rfl)
theorem OnP_cons (G : Heap) (inc bi : Nat) (objs : List (Nat × AObj)) (i : Nat) (tm : Tr Value) (o : Oper) (v : Value) (rs : List (Nat × Tr Value × Oper × Value)) : OnP P T B base G inc bi objs ((i, tm, o, v) :: rs) =
    ((bit bi i = true ∨ aread P T (evalT tm) o (withA G inc base (B.getD i 0) objs) = some v) ∧ OnP P T B base G inc bi objs rs) := (rfl)
theorem BackP_nil (ρ : Operand → Value) (o : Oper) (v : Value) (msk effs : Nat) (objs : List (Nat × AObj)) : BackP P T base ρ o v msk effs objs [] = True := (rfl)
theorem BackP_cons (ρ : Operand → Value) (o : Oper) (v : Value) (msk effs : Nat) (objs : List (Nat × AObj)) (G : Heap) (inc ef : Nat) (r : List (Heap × Nat × Nat)) : BackP P T base ρ o v msk effs objs ((G, inc, ef) :: r) =
    (((msk &&& effs) &&& ef ≠ msk &&& effs ∨ aread P T ρ o (withA G inc base msk objs) = some v) ∧ BackP P T base ρ o v msk effs objs r) := (rfl)
end

section
variable {P : Program} {T : Tab} {ng : Nat} {ops : Array Oper} {B : Array Nat} {base sz : Nat}

theorem same_true {v : Value} {x : Option Value} (h : x = some v) : same? v x = true := by rw [h]; exact veq_self v

theorem OnP_still {G : Heap} {inc bi : Nat} {objs : List (Nat × AObj)} : ∀ {l : List (Nat × Tr Value × Oper × Value)}, OnP P T B base G inc bi objs l → stillOn P T B G inc base bi objs l = true
  | [], _ => rfl
  | r :: l, h => by
    simp only [stillOn, Bool.and_eq_true, Bool.or_eq_true]
    exact ⟨h.1.imp id same_true, OnP_still h.2⟩

theorem BackP_still {ρ : Operand → Value} {o : Oper} {v : Value} {msk effs : Nat} {objs : List (Nat × AObj)} : ∀ {l : List (Heap × Nat × Nat)}, BackP P T base ρ o v msk effs objs l → stillBack P T ρ o v base msk effs objs l = true
  | [], _ => rfl
  | s :: l, h => by
    simp only [stillBack, Bool.and_eq_true, Bool.or_eq_true, Bool.not_eq_true']
    refine ⟨h.1.imp (fun hn => ?_) same_true, BackP_still h.2⟩
    cases hb : Nat.beq (msk &&& effs &&& s.2.2) (msk &&& effs) with
    | false => rfl
    | true => exact absurd ((beq_iff _ _).1 hb) hn

theorem DO_chain (hT : T.Ok P ng) {k : DS → Prop} : ∀ (rest : List Oper) (s : DS), (∀ o ∈ rest, dstOk sz o.dst = true) → DO P T ng ops B base k rest s →
    ∃ (S : Nat → DS) (val : Nat → Value), S 0 = s ∧ k (S rest.length) ∧ ∀ j o, rest[j]? = some o → DStep P T ng ops B sz base o (S j) (val j) (S (j + 1))
  | [], s, _, h => ⟨fun _ => s, fun _ => undef, rfl, h, fun j o hj => by simp at hj⟩
  | o :: rest, s, hd, h => by
    have hd0 : dstOk sz o.dst = true := hd o (by simp)
    have hd1 : ∀ o ∈ rest, dstOk sz o.dst = true := fun o ho => hd o (by simp [ho])
    have glue : ∀ (v : Value) (s1 : DS), DStep P T ng ops B sz base o s v s1 → DO P T ng ops B base k rest s1 →
        ∃ (S : Nat → DS) (val : Nat → Value), S 0 = s ∧ k (S (o :: rest).length) ∧ ∀ j o', (o :: rest)[j]? = some o' → DStep P T ng ops B sz base o' (S j) (val j) (S (j + 1)) := by
      intro v s1 hst h1
      obtain ⟨S, val, e0, e1, hS⟩ := DO_chain hT rest s1 hd1 h1
      refine ⟨fun j => match j with | 0 => s | j + 1 => S j, fun j => match j with | 0 => v | j + 1 => val j, rfl, e1, fun j o' hj => ?_⟩
      cases j with
      | zero => simp at hj; subst hj; show DStep P T ng ops B sz base o s v (S 0); rw [e0]; exact hst
      | succ j => simp at hj; exact hS j o' hj
    rw [DO_cons, DW] at h
    cases hw : wantedC ops s.tm o with
    | false =>
      rw [hw] at h
      simp only [cond_false] at h
      exact glue _ _ (.skip hd0 hw) h
    | true =>
      rw [hw] at h
      simp only [cond_true] at h
      cases hk : kindOf T o.op with
      | read =>
        rw [hk, DK_read] at h
        cases hv : aread P T (evalT s.tm) o (withA s.G s.inc base (B.getD s.i 0) s.objs) with
        | none => rw [hv] at h; exact h.elim
        | some v =>
          rw [hv, DR_some] at h
          exact glue _ _ (.read hd0 hw hk v hv (BackP_still h.1)) h.2
      | alloc =>
        rw [hk, DK_alloc] at h
        cases hv : aalloc T (evalT s.tm) o with
        | none => rw [hv] at h; exact h.elim
        | some p =>
          rw [hv, DA_some] at h
          exact glue _ _ (.alloc hd0 hw hk p hv) h
      | eff =>
        rw [hk, DK_eff] at h
        obtain ⟨he, h⟩ := h
        cases hv : aeff T (evalT s.tm) o (withA s.G s.inc base (B.getD s.i 0) s.objs) with
        | none => rw [hv] at h; exact h.elim
        | some out =>
          rw [hv] at h
          cases out with
          | val v H =>
            rw [DE_val] at h
            exact glue _ _ (.eff hd0 hw hk he v H (.val hT hk hv) (OnP_still h.1)) h.2
          | call f args =>
            rw [DE_call] at h
            obtain ⟨r, H, hr, hC⟩ := h
            cases r with
            | pan => exact hr.elim
            | ret v =>
              rw [KD_ret] at hr
              exact glue _ _ (.eff hd0 hw hk he v H (.call hT hk hv hC) (OnP_still hr.1)) hr.2
          | round l args => exact h.elim
          | dfr d => exact h.elim
          | pan v => exact h.elim
end

def DRg (P : Program) (T : Tab) (ng : Nat) (ops : Array Oper) (k : Exit → St → Prop) (st : St) : Prop :=
  tmpOK ops (Region.before ops) = true ∧ orderOK ops = true ∧ ∃ S val, Run P T ng ops (Region.before ops) st.sz st S val ∧
    k .normal { st with tm := (S ops.size).tm, heap := withA (S ops.size).G (S ops.size).inc st.heap.next (2 ^ ops.size - 1) (S ops.size).objs }

def KDS (n : Nat) (k : Exit → St → Prop) (st : St) (s : DS) : Prop := k .normal { st with tm := s.tm, heap := withA s.G s.inc st.heap.next (2 ^ n - 1) s.objs }

def drawCheck (ops : Array Oper) (B : Array Nat) : Bool := decide (Region.before ops = B) && tmpOK ops B && orderOK ops

theorem DRg_intro {P : Program} {T : Tab} {ng : Nat} (hT : T.Ok P ng) {ops : Array Oper} {k : Exit → St → Prop} {st : St} (B : Array Nat) (hB : drawCheck ops B = true) (hd : ops.toList.all (fun o => dstOk st.sz o.dst) = true)
    (h : DO P T ng ops B st.heap.next (KDS ops.size k st) ops.toList { i := 0, tm := st.tm, G := st.heap.skip ops.size, inc := 0, effs := 0, hist := [], objs := [], rds := [] }) : DRg P T ng ops k st := by
  simp only [drawCheck, Bool.and_eq_true, decide_eq_true_eq] at hB
  obtain ⟨⟨rfl, h1⟩, h2⟩ := hB
  rw [List.all_eq_true] at hd
  obtain ⟨S, val, k1, k2, k3⟩ := DO_chain (sz := st.sz) hT _ _ hd h
  rw [Array.length_toList] at k2
  exact ⟨h1, h2, S, val, ⟨k1, fun j o ho => k3 j o (by rw [Array.getElem?_toList]; exact ho)⟩, k2⟩

/-! ### code -/
section
variable (P : Program) (T : Tab) (ng : Nat)

def wpc : Code → (Exit → St → Prop) → St → Prop
  | .skip, k, st => k .normal st
  | .label _, k, st => k .normal st
  | .region _ ops draw, k, st => bif draw then DRg P T ng ops k st else RO P T ng ops k ops.toList st
  | .seq a b, k, st => wpc a (fun e st' => match e with | .normal => wpc b k st' | e => k e st') st
  | .cond c x y, k, st => match evalT st.tm c with
    | .bool b => bif b then wpc x k st else wpc y k st
    | _ => False
  | .block id c, k, st => wpc c (fun e st' => match e with | .exit i => bif Nat.beq i id then k .normal st' else k (.exit i) st' | e => k e st') st
  | .loop c, k, st => SW P ng (.loop c) st k
  | .exit id, k, st => k (.exit id) st
  | .ret, k, st => k .ret st
  | _, _, _ => False

def KC (b : Code) (k : Exit → St → Prop) (e : Exit) (st : St) : Prop := match e with | .normal => wpc P T ng b k st | e => k e st
def KB (id : Nat) (k : Exit → St → Prop) (e : Exit) (st : St) : Prop := match e with | .exit i => bif Nat.beq i id then k .normal st else k (.exit i) st | e => k e st
def CN (x y : Code) (k : Exit → St → Prop) (st : St) (v : Value) : Prop := match v with
    | .bool b => bif b then wpc P T ng x k st else wpc P T ng y k st
    | _ => False

theorem wpc_skip (k : Exit → St → Prop) (st : St) : wpc P T ng .skip k st = k .normal st := (rfl)
theorem wpc_label (l : Nat) (k : Exit → St → Prop) (st : St) : wpc P T ng (.label l) k st = k .normal st := (rfl)
theorem wpc_exit (id : Nat) (k : Exit → St → Prop) (st : St) : wpc P T ng (.exit id) k st = k (.exit id) st := (rfl)
theorem wpc_ret (k : Exit → St → Prop) (st : St) : wpc P T ng .ret k st = k .ret st := (rfl)
theorem wpc_region (id : Nat) (ops : Array Oper) (k : Exit → St → Prop) (st : St) : wpc P T ng (.region id ops false) k st = RO P T ng ops k ops.toList st := (rfl)
theorem wpc_draw (id : Nat) (ops : Array Oper) (k : Exit → St → Prop) (st : St) : wpc P T ng (.region id ops true) k st = DRg P T ng ops k st := (rfl)
theorem wpc_seq (a b : Code) (k : Exit → St → Prop) (st : St) : wpc P T ng (.seq a b) k st = wpc P T ng a (KC P T ng b k) st := (rfl)
theorem wpc_block (id : Nat) (c : Code) (k : Exit → St → Prop) (st : St) : wpc P T ng (.block id c) k st = wpc P T ng c (KB id k) st := (rfl)
theorem wpc_cond (c : Operand) (x y : Code) (k : Exit → St → Prop) (st : St) : wpc P T ng (.cond c x y) k st = CN P T ng x y k st (evalT st.tm c) := (rfl)
theorem wpc_loop (c : Code) (k : Exit → St → Prop) (st : St) : wpc P T ng (.loop c) k st = SW P ng (.loop c) st k := (rfl)
theorem KC_normal (b : Code) (k : Exit → St → Prop) (st : St) : KC P T ng b k .normal st = wpc P T ng b k st := (rfl)
theorem KC_exit (b : Code) (k : Exit → St → Prop) (st : St) (i : Nat) : KC P T ng b k (.exit i) st = k (.exit i) st := (rfl)
theorem KC_ret (b : Code) (k : Exit → St → Prop) (st : St) : KC P T ng b k .ret st = k .ret st := (rfl)
theorem KC_panic (b : Code) (k : Exit → St → Prop) (st : St) (ch : List PanicEntry) : KC P T ng b k (.panic ch) st = k (.panic ch) st := (rfl)
theorem KB_normal (id : Nat) (k : Exit → St → Prop) (st : St) : KB id k .normal st = k .normal st := (rfl)
theorem KB_ret (id : Nat) (k : Exit → St → Prop) (st : St) : KB id k .ret st = k .ret st := (rfl)
theorem KB_panic (id : Nat) (k : Exit → St → Prop) (st : St) (ch : List PanicEntry) : KB id k (.panic ch) st = k (.panic ch) st := (rfl)
theorem KB_exit (id i : Nat) (k : Exit → St → Prop) (st : St) : KB id k (.exit i) st = if i = id then k .normal st else k (.exit i) st := by
  simp only [KB, Tr.beq_eq]
  by_cases h : i = id <;> simp [h]
theorem CN_true (x y : Code) (k : Exit → St → Prop) (st : St) : CN P T ng x y k st (.bool true) = wpc P T ng x k st := (rfl)
theorem CN_false (x y : Code) (k : Exit → St → Prop) (st : St) : CN P T ng x y k st (.bool false) = wpc P T ng y k st := (rfl)
theorem CN_split {P : Program} {T : Tab} {ng : Nat} {x y : Code} {k : Exit → St → Prop} {st : St} {p : Prop} [Decidable p] (h1 : p → wpc P T ng x k st) (h2 : ¬ p → wpc P T ng y k st) : CN P T ng x y k st (.bool (decide p)) := by
  by_cases h : p
  · simp only [h, decide_true, CN_true]; exact h1 h
  · simp only [h, decide_false, CN_false]; exact h2 h
end

def codeDst (sz : Nat) : Code → Bool
  | .region _ ops _ => ops.toList.all fun o => dstOk sz o.dst
  | .seq a b => codeDst sz a && codeDst sz b
  | .cond _ x y => codeDst sz x && codeDst sz y
  | .block _ c => codeDst sz c
  | .loop c => codeDst sz c
  | _ => true

section
variable {P : Program} {T : Tab} {ng : Nat}

theorem CodeV.trans_seq {a b : Code} {st st1 st' : St} {e : Exit} (h1 : CodeV P ng a st .normal st1) (h2 : CodeV P ng b st1 e st') : CodeV P ng (.seq a b) st e st' := by
  refine ⟨h1.nr.trans h2.nr, h2.sz.trans h1.sz, h2.rd.trans h1.rd, fun rd μ x w hrd hF => wpIn_seq (wpIn_mono (h1.sim rd μ x w hrd hF) ?_)⟩
  rintro e1 a1 w1 ⟨μ1, p1⟩
  have px := p1.exit
  cases px
  refine wpIn_mono (h2.sim rd μ1 a1 w1 (fun hr => hrd (by rw [← p1.rd]; exact hr)) p1.fr) ?_
  rintro e2 a2 w2 ⟨μ2, p2⟩
  exact ⟨μ2, p1.acc.post p2⟩

theorem CodeV.seq_out {a b : Code} {st st' : St} {e : Exit} (h1 : CodeV P ng a st e st') (he : e ≠ .normal) : CodeV P ng (.seq a b) st e st' := by
  refine ⟨h1.nr, h1.sz, h1.rd, fun rd μ x w hrd hF => wpIn_seq (wpIn_mono (h1.sim rd μ x w hrd hF) ?_)⟩
  rintro e1 a1 w1 ⟨μ1, p1⟩
  have px := p1.exit
  cases px with
  | normal => exact absurd rfl he
  | _ => exact ⟨μ1, p1⟩

theorem wpc_sound (hT : T.Ok P ng) : ∀ (c : Code) (k : Exit → St → Prop) (st : St), codeOk ng c = true → codeDst st.sz c = true → wpc P T ng c k st → SW P ng c st k
  | .skip, k, st, _, _, h => ⟨.normal, st, h, .refl _, rfl, rfl, fun rd μ a w hrd hF => wpIn_skip ⟨μ, .refl hF.rel, .normal, hF, .refl _ _, rfl, rfl⟩⟩
  | .label _, k, st, _, _, h => ⟨.normal, st, h, .refl _, rfl, rfl, fun rd μ a w hrd hF => wpIn_label ⟨μ, .refl hF.rel, .normal, hF, .refl _ _, rfl, rfl⟩⟩
  | .exit id, k, st, _, _, h => ⟨.exit id, st, h, .refl _, rfl, rfl, fun rd μ a w hrd hF => wpIn_exit ⟨μ, .refl hF.rel, .exit _, hF, .refl _ _, rfl, rfl⟩⟩
  | .ret, k, st, _, _, h => ⟨.ret, st, h, .refl _, rfl, rfl, fun rd μ a w hrd hF => wpIn_ret ⟨μ, .refl hF.rel, .ret, hF, .refl _ _, rfl, rfl⟩⟩
  | .loop c, k, st, _, _, h => h
  | .region id ops true, k, st, hok, hd, h => by
    obtain ⟨h1, h2, S, val, hr, hk⟩ := h
    have hok' : ∀ o ∈ ops.toList, operOk ng o = true := by
      simp only [codeOk, List.all_eq_true] at hok; exact hok
    have hn := hr.NR ops.size (Nat.le_refl _)
    refine ⟨_, _, hk, ⟨by rw [withA_next]; exact hn.le, fun b hb hd => ?_⟩, rfl, rfl, fun rd μ a w hrd hF => draws_sim hT hok' h1 h2 hr hF⟩
    rw [withA_get]
    cases ha : actO st.heap.next (S ops.size).inc (bit (2 ^ ops.size - 1)) b (S ops.size).objs with
    | none => exact hn.dead b hb hd
    | some x => obtain ⟨p, _, _, _, q3, _⟩ := actO_some ha; omega
  | .region id ops false, k, st, hok, hd, h => by
    have hok' : ∀ o ∈ ops.toList, operOk ng o = true := by
      simp only [codeOk, List.all_eq_true] at hok; exact hok
    simp only [codeDst, List.all_eq_true] at hd
    obtain ⟨e, st', hk, hV⟩ := RO_sound hT hok' ops.toList 0 st rfl hd h
    refine ⟨e, st', hk, hV.nr, hV.sz, hV.rd, fun rd μ a w hrd hF => wpIn_region ?_⟩
    have := hV.sim rd μ a w hrd hF
    rw [Array.length_toList] at this
    rw [List.range_eq_range']; exact this
  | .seq x y, k, st, hok, hd, h => by
    simp only [codeOk, Bool.and_eq_true] at hok
    simp only [codeDst, Bool.and_eq_true] at hd
    rw [wpc_seq] at h
    obtain ⟨e, st1, hk, hV⟩ := wpc_sound hT x _ st hok.1 hd.1 h
    by_cases he : e = .normal
    · subst he
      rw [KC_normal] at hk
      obtain ⟨e', st', hk', hV'⟩ := wpc_sound hT y k st1 hok.2 (by rw [hV.sz]; exact hd.2) hk
      exact ⟨e', st', hk', hV.trans_seq hV'⟩
    · have hk' : k e st1 := by cases e <;> first | exact absurd rfl he | exact hk
      exact ⟨e, st1, hk', hV.seq_out he⟩
  | .cond c x y, k, st, hok, hd, h => by
    simp only [codeOk, Bool.and_eq_true] at hok
    simp only [codeDst, Bool.and_eq_true] at hd
    rw [wpc_cond] at h
    cases hc : evalT st.tm c with
    | bool b =>
      rw [hc] at h
      have hv : ∀ {μ : Inj} {a : Act} {w : World}, FrRel ng μ st a w → a.eval c = .bool b := fun hF => by
        have hv := eval_rel hF hok.1.1
        rw [hc] at hv
        exact hv.bool_inv
      cases b with
      | true =>
        rw [CN_true] at h
        obtain ⟨e, st', hk, hV⟩ := wpc_sound hT x k st hok.1.2 hd.1 h
        exact ⟨e, st', hk, hV.nr, hV.sz, hV.rd, fun rd μ a w hrd hF => wpIn_cond_true (hv hF) (hV.sim rd μ a w hrd hF)⟩
      | false =>
        rw [CN_false] at h
        obtain ⟨e, st', hk, hV⟩ := wpc_sound hT y k st hok.2 hd.2 h
        exact ⟨e, st', hk, hV.nr, hV.sz, hV.rd, fun rd μ a w hrd hF => wpIn_cond_false (hv hF) (hV.sim rd μ a w hrd hF)⟩
    | _ => rw [hc] at h; exact h.elim
  | .block id c, k, st, hok, hd, h => by
    simp only [codeOk] at hok
    simp only [codeDst] at hd
    rw [wpc_block] at h
    obtain ⟨e, st1, hk, hV⟩ := wpc_sound hT c _ st hok hd h
    have key : ∀ e', (k e' st1) → (∀ μ' a' w' μ w, Post ng μ st w e st1 μ' e a' w' → True) → True := fun _ _ _ => trivial
    by_cases he : e = .exit id
    · subst he
      rw [KB_exit, if_pos rfl] at hk
      refine ⟨.normal, st1, hk, hV.nr, hV.sz, hV.rd, fun rd μ a w hrd hF => wpIn_block (wpIn_mono (hV.sim rd μ a w hrd hF) ?_)⟩
      rintro e1 a1 w1 ⟨μ1, p1⟩
      have px := p1.exit
      cases px
      simp only [Exit.inBlock, if_true]
      exact ⟨μ1, p1.goes, .normal, p1.fr, p1.next, p1.rd, p1.sz⟩
    · have hk' : k e st1 := by
        cases e with
        | exit i =>
          rw [KB_exit, if_neg (fun h => he (by rw [h]))] at hk; exact hk
        | _ => exact hk
      refine ⟨e, st1, hk', hV.nr, hV.sz, hV.rd, fun rd μ a w hrd hF => wpIn_block (wpIn_mono (hV.sim rd μ a w hrd hF) ?_)⟩
      rintro e1 a1 w1 ⟨μ1, p1⟩
      have px := p1.exit
      cases px with
      | exit i =>
        have hne : i ≠ id := fun h => he (by rw [h])
        simp only [Exit.inBlock, hne, if_false]
        exact ⟨μ1, p1⟩
      | normal => exact ⟨μ1, p1⟩
      | ret => exact ⟨μ1, p1⟩
      | panic c c' hp => exact ⟨μ1, p1⟩
  | .rangeFunc .., k, st, _, _, h => h.elim
  | .goto _, k, st, _, _, h => h.elim
  | .scope _, k, st, _, _, h => h.elim

/-! ### a loop -/
structure LoopV (P : Program) (ng : Nat) (c : Code) (n : Nat) (st : St) (e : Exit) (st' : St) : Prop where
  nr : NR st.heap st'.heap
  sz : st'.sz = st.sz
  rd : st'.rd = st.rd
  sim : ∀ (rd : Option Nat) (μ : Inj) (a : Act) (w : World), (st.rd = false → rd = none) → FrRel ng μ st a w → Code.roundsIn (WF rd) 0 P c (fun e' a' w' => ∃ μ', Post ng μ st w e st' μ' e' a' w') n a w

theorem roundsIn_mono {F : Fence} {n : Nat} {c : Code} {Q Q' : Exit → Act → World → Prop} (hQ : ∀ e a w, Q e a w → Q' e a w) : ∀ (m : Nat) (a : Act) (w : World), Code.roundsIn F n P c Q m a w → Code.roundsIn F n P c Q' m a w
  | 0, _, _, h => h.elim
  | m + 1, a, w, h => by
    rw [roundsIn_succ] at h ⊢
    refine wpIn_mono h ?_
    intro e a w h
    cases e with
    | normal => exact roundsIn_mono hQ m a w h
    | _ => exact hQ _ _ _ h

def LQ (I : Nat → St → Prop) (j : Nat) (Q : Exit → St → Prop) (e : Exit) (st : St) : Prop := match e with
  | .normal => ∃ j', j = j' + 1 ∧ I j' st
  | e => Q e st

theorem LQ_normal (I : Nat → St → Prop) (j : Nat) (Q : Exit → St → Prop) (st : St) : LQ I j Q .normal st = ∃ j', j = j' + 1 ∧ I j' st := (rfl)
theorem LQ_exit (I : Nat → St → Prop) (j : Nat) (Q : Exit → St → Prop) (i : Nat) (st : St) : LQ I j Q (.exit i) st = Q (.exit i) st := (rfl)
theorem LQ_ret (I : Nat → St → Prop) (j : Nat) (Q : Exit → St → Prop) (st : St) : LQ I j Q .ret st = Q .ret st := (rfl)

theorem SW_loop {c : Code} {Q : Exit → St → Prop} (I : Nat → St → Prop) (hround : ∀ j st, I j st → SW P ng c st (LQ I j Q)) : ∀ (j : Nat) (st : St), I j st → SW P ng (.loop c) st Q := by
  have key : ∀ (j : Nat) (st : St), I j st → ∃ e st', Q e st' ∧ LoopV P ng c (j + 1) st e st' := by
    intro j
    induction j with
    | zero =>
      intro st hI
      obtain ⟨e, st1, hq, hV⟩ := hround 0 st hI
      have hne : e ≠ .normal := fun he => by rw [he] at hq; obtain ⟨j', h, _⟩ := hq; omega
      have hq' : Q e st1 := by cases e <;> first | exact absurd rfl hne | exact hq
      refine ⟨e, st1, hq', hV.nr, hV.sz, hV.rd, fun rd μ a w hrd hF => ?_⟩
      rw [roundsIn_succ]
      refine wpIn_mono (hV.sim rd μ a w hrd hF) ?_
      rintro e1 a1 w1 ⟨μ1, p1⟩
      have px := p1.exit
      cases px with
      | normal => exact absurd rfl hne
      | _ => exact ⟨μ1, p1⟩
    | succ j ih =>
      intro st hI
      obtain ⟨e, st1, hq, hV⟩ := hround (j + 1) st hI
      by_cases hne : e = .normal
      · subst hne
        obtain ⟨j', h, hI'⟩ := hq
        obtain rfl : j = j' := by omega
        obtain ⟨e2, st2, hq2, hV2⟩ := ih st1 hI'
        refine ⟨e2, st2, hq2, hV.nr.trans hV2.nr, hV2.sz.trans hV.sz, hV2.rd.trans hV.rd, fun rd μ a w hrd hF => ?_⟩
        rw [roundsIn_succ]
        refine wpIn_mono (hV.sim rd μ a w hrd hF) ?_
        rintro e1 a1 w1 ⟨μ1, p1⟩
        have px := p1.exit
        cases px
        refine roundsIn_mono ?_ _ _ _ (hV2.sim rd μ1 a1 w1 (fun hr => hrd (by rw [← p1.rd]; exact hr)) p1.fr)
        rintro e3 a3 w3 ⟨μ3, p3⟩
        exact ⟨μ3, p1.acc.post p3⟩
      · have hq' : Q e st1 := by cases e <;> first | exact absurd rfl hne | exact hq
        refine ⟨e, st1, hq', hV.nr, hV.sz, hV.rd, fun rd μ a w hrd hF => ?_⟩
        rw [roundsIn_succ]
        refine wpIn_mono (hV.sim rd μ a w hrd hF) ?_
        rintro e1 a1 w1 ⟨μ1, p1⟩
        have px := p1.exit
        cases px with
        | normal => exact absurd rfl hne
        | _ => exact ⟨μ1, p1⟩
  intro j st hI
  obtain ⟨e, st', hq, hV⟩ := key j st hI
  exact ⟨e, st', hq, hV.nr, hV.sz, hV.rd, fun rd μ a w hrd hF => wpIn_loop_rounds (j + 1) (hV.sim rd μ a w hrd hF)⟩

/-- a loop, by what holds ahead of each round -/
theorem wp_loop (hT : T.Ok P ng) {c : Code} (hok : codeOk ng c = true) {Q : Exit → St → Prop} {st : St} (hd : codeDst st.sz c = true) (I : Nat → St → Prop) (j : Nat) (h0 : I j st)
    (hround : ∀ j s, s.sz = st.sz → I j s → wpc P T ng c (LQ I j Q) s) : SW P ng (.loop c) st Q := by
  refine (SW_loop (fun j s => s.sz = st.sz ∧ I j s) (fun j s hI => ?_) j st ⟨rfl, h0⟩)
  have hS := wpc_sound hT c _ s hok (by rw [hI.1]; exact hd) (hround j s hI.1 hI.2)
  obtain ⟨e, st', hq, hV⟩ := hS
  refine ⟨e, st', ?_, hV⟩
  cases e with
  | normal => obtain ⟨j', h, hI'⟩ := hq; exact ⟨j', h, hV.sz.trans hI.1, hI'⟩
  | _ => exact hq

end
attribute [irreducible] wpc KC KB CN DO DW DK DR DA DE KD DRg KDS LQ

end Go.Ab
end
section
namespace Go.Ab

structure DefV (P : Program) (ng : Nat) (f : FuncId) (args : Array Value) (H H' : Heap) : Prop where
  body : ∃ fn c, P.funcs[f]? = some fn ∧ (fn.name == "runtime.NumGoroutine") = false ∧ fn.body = some c
  nr : NR H H'
  sim : ∀ (μ : Inj) (w : World) (args' : Array Value) (u : FrameMode), Rel ng μ H.get w → Dom ng μ H → VRels μ args.toList args'.toList →
    CallsDIn (WF none) 0 P f args' u w fun e u' w' => u' = u ∧ ∃ v, e = .returned v ∧ ∃ μ', Goes ng μ H.get w μ' H'.get w' ∧ Dom ng μ' H' ∧ Nxt μ H μ' H'

def SemD (P : Program) (ng : Nat) (f : FuncId) (args : Array Value) (H : Heap) (K : Heap → Prop) : Prop := ∃ H', K H' ∧ DefV P ng f args H H'

section
variable (P : Program) (T : Tab) (ng : Nat)

/-- the end of a function: what was deferred; its results -/
def KL (rs : List ResultVar) (tm : Tr Value) (Q : Ret → Heap → Prop) : List Deferred → Heap → Prop
  | [], H => ∃ l, resultsC T tm H rs = some l ∧ Q (.ret (retOf l)) H
  | d :: ds, H => match d.target with
    | .fn (.func f) cap => SemD P ng f (d.args ++ cap) H (KL rs tm Q ds)
    | _ => False

def KF (rs : List ResultVar) (Q : Ret → Heap → Prop) (e : Exit) (st : St) : Prop := match e with
  | .normal => KL P T ng rs st.tm Q st.defers st.heap
  | .ret => KL P T ng rs st.tm Q st.defers st.heap
  | .panic ch => st.defers = [] ∧ Q (.pan ch) st.heap
  | _ => False
theorem KF_ret (rs : List ResultVar) (Q : Ret → Heap → Prop) (st : St) : KF P T ng rs Q .ret st = KL P T ng rs st.tm Q st.defers st.heap := (rfl)
theorem KF_normal (rs : List ResultVar) (Q : Ret → Heap → Prop) (st : St) : KF P T ng rs Q .normal st = KL P T ng rs st.tm Q st.defers st.heap := (rfl)
theorem KL_nil (rs : List ResultVar) (tm : Tr Value) (Q : Ret → Heap → Prop) (H : Heap) : KL P T ng rs tm Q [] H = ∃ l, resultsC T tm H rs = some l ∧ Q (.ret (retOf l)) H := (rfl)
theorem KL_fn (rs : List ResultVar) (tm : Tr Value) (Q : Ret → Heap → Prop) (f : FuncId) (cap args : Array Value) (ds : List Deferred) (H : Heap) : KL P T ng rs tm Q ({ target := .fn (.func f) cap, args := args } :: ds) H =
    SemD P ng f (args ++ cap) H (KL P T ng rs tm Q ds) := (rfl)
end

section
variable {P : Program} {T : Tab} {ng : Nat}

def start (fn : Func) (args : Array Value) (H : Heap) : St := { tm := initTm 0 args.toList .e, sz := Nat.max args.size fn.ntmps, defers := [], rd := false, heap := H }

theorem KL_sound (hT : T.Ok P ng) {fn : Func} {tm : Tr Value} {Q : Ret → Heap → Prop} : ∀ (ds : List Deferred) (H : Heap), KL P T ng fn.results.toList tm Q ds H →
    ∃ v Hend, Q (.ret v) Hend ∧ NR H Hend ∧ ∀ {tmps : Array Value} {sz : Nat} {μ0 : Inj} {H0 : Heap} {w0 : World} (ds' : List Deferred) (μ : Inj) (w : World), Goes ng μ0 H0.get w0 μ H.get w → Dom ng μ H → Nxt μ0 H0 μ H → TmRel μ tm sz tmps → DRels μ ds ds' →
      LeavesInM (WF none) 0 P fn tmps (fun e w' => ∃ μ', CPost ng μ0 H0 w0 (.ret v) Hend μ' e w') ds' .returning w := by
  intro ds
  induction ds with
  | nil =>
    intro H h
    rw [KL_nil] at h
    obtain ⟨l, hres, hQ⟩ := h
    refine ⟨retOf l, H, hQ, .refl _, fun ds' μ w hG hD hN ht hds => ?_⟩
    cases hds
    obtain ⟨v', k1, k2⟩ := results_sim (P := P) (fn := fn) hT hG.rel ht hres
    exact ⟨v', k1, μ, hG, .ret _ _ k2, hD, hN⟩
  | cons d ds ih =>
    intro H h
    simp only [KL] at h
    split at h
    case h_2 => exact h.elim
    rename_i f cap htg
    obtain ⟨H1, hk, hV⟩ := h
    obtain ⟨v, Hend, hQ, hnr, hrest⟩ := ih H1 hk
    refine ⟨v, Hend, hQ, hV.nr.trans hnr, fun ds' μ w hG hD hN ht hds => ?_⟩
    cases hds with
    | cons _ d' _ ds' hd hds =>
    cases hd with
    | mark r t args args' hm => simp at htg
    | fn f2 cap2 cap' args args' hc ha =>
      cases htg
      refine ⟨by simp, .inr ⟨wf_depth _, .func f, cap', f, args' ++ cap', rfl, ?_, fun _ _ => wf_fn _ _, ?_⟩⟩
      · obtain ⟨fn', c, p1, p2, q2⟩ := hV.body
        simp only [invoke, callFunc, Sem.run_bind, run_program, Result.andThen_ok, p1, p2, q2]
        rfl
      · have := hV.sim μ w (args' ++ cap') .returning hG.rel hD (by simp only [Array.toList_append]; exact ha.append hc)
        refine CallsDIn.mono this ?_
        rintro e u' w' ⟨rfl, v, rfl, μ', g1, g2, g3⟩
        exact hrest ds' μ' w' (hG.trans g1) g2 (hN.trans g3) (ht.mono g1.le) (hds.mono g1.le)

theorem SemC_fn (hT : T.Ok P ng) {f : FuncId} {args : Array Value} {H : Heap} {Q : Ret → Heap → Prop} {fn : Func} {c : Code} (hf : T.fn f = some fn) (hb : fn.body = some c) (hd : codeDst (Nat.max args.size fn.ntmps) c = true)
    (h : wpc P T ng c (KF P T ng fn.results.toList Q) (start fn args H)) : SemC P ng f args H Q := by
  obtain ⟨q1, q2, q3⟩ := hT.fn _ _ hf
  obtain ⟨e, st', hk, hV⟩ := wpc_sound hT c _ (start fn args H) (q3 c hb) hd h
  have body : ∀ {μ : Inj} {w : World} {args' : Array Value}, Rel ng μ H.get w → Dom ng μ H → VRels μ args.toList args'.toList →
      c.wpIn (WF none) 0 P (fun e' a' w' => ∃ μ', Goes ng μ H.get w μ' st'.heap.get w' ∧ XRel μ' e e' ∧ FrRel ng μ' st' a' w' ∧ Nxt μ H μ' st'.heap) { tmps := args' ++ Array.replicate (fn.ntmps - args'.size) undef, defers := [] } w := by
    intro μ w args' hR hD ha
    refine wpIn_mono (hV.sim none μ _ w (fun _ => rfl) ⟨enter_tm ha _, .nil, hR, hD⟩) ?_
    rintro e' a' w' ⟨μ', hp⟩
    exact ⟨μ', hp.goes, hp.exit, hp.fr, hp.next⟩
  have leave : KL P T ng fn.results.toList st'.tm Q st'.defers st'.heap → (e = .normal ∨ e = .ret) → SemC P ng f args H Q := by
    intro hk he
    obtain ⟨v, Hend, hQ, hnr, hL⟩ := KL_sound hT _ _ hk
    refine ⟨.ret v, Hend, hQ, hV.nr.trans hnr, fun μ w args' hR hD ha => callsIn_of_wp_marks q1 hb (wf_fn _ _) (wpIn_mono (body hR hD ha) ?_)⟩
    rintro e' a' w' ⟨μ', g1, g2, g3, g4⟩
    have := hL a'.defers μ' w' g1 g3.dom g4 g3.tm g3.dfr
    rcases he with rfl | rfl <;> cases g2 <;> exact this
  cases e with
  | normal => exact leave hk (.inl rfl)
  | ret => exact leave hk (.inr rfl)
  | panic ch =>
    obtain ⟨hdf, hQ⟩ := hk
    refine ⟨.pan ch, st'.heap, hQ, hV.nr, fun μ w args' hR hD ha => callsIn_of_wp_marks q1 hb (wf_fn _ _) (wpIn_mono (body hR hD ha) ?_)⟩
    rintro e' a' w' ⟨μ', g1, g2, g3, g4⟩
    cases g2 with
    | panic _ c' hp =>
      have hd' : a'.defers = [] := by
        have := g3.dfr
        rw [hdf] at this
        cases hda : a'.defers with
        | nil => rfl
        | cons x y => rw [hda] at this; cases this
      show LeavesInM (WF none) 0 P fn a'.tmps _ a'.defers (.panicking c') w'
      rw [hd']
      exact ⟨μ', g1, .pan _ _ hp, g3.dom, g4⟩
  | _ => exact hk.elim

def KDf (rs : List ResultVar) (T : Tab) (K : Heap → Prop) (e : Exit) (st : St) : Prop := (e = .normal ∨ e = .ret) ∧ st.defers = [] ∧ (∃ l, resultsC T st.tm st.heap rs = some l) ∧ K st.heap

theorem SemD_fn (hT : T.Ok P ng) {f : FuncId} {args : Array Value} {H : Heap} {K : Heap → Prop} {fn : Func} {c : Code} (hf : T.fn f = some fn) (hb : fn.body = some c) (hd : codeDst (Nat.max args.size fn.ntmps) c = true)
    (h : wpc P T ng c (KDf fn.results.toList T K) (start fn args H)) : SemD P ng f args H K := by
  obtain ⟨q1, q2, q3⟩ := hT.fn _ _ hf
  obtain ⟨e, st', ⟨he, hdf, ⟨l, hres⟩, hK⟩, hV⟩ := wpc_sound hT c _ (start fn args H) (q3 c hb) hd h
  refine ⟨st'.heap, hK, ⟨fn, c, q1, q2, hb⟩, hV.nr, fun μ w args' u hR hD ha => ?_⟩
  refine callsDIn_of_wp (R := fun e w' => ∃ v, e = .returned v ∧ ∃ μ', Goes ng μ H.get w μ' st'.heap.get w' ∧ Dom ng μ' st'.heap ∧ Nxt μ H μ' st'.heap) q1 hb (wf_fn _ _) (wpIn_mono (hV.sim none μ _ w (fun _ => rfl) ⟨enter_tm ha _, .nil, hR, hD⟩) ?_)
  rintro e' a' w' ⟨μ', hp⟩
  obtain ⟨v', k1, k2⟩ := results_sim (P := P) (fn := fn) hT hp.fr.rel hp.fr.tm hres
  have hd' : a'.defers = [] := by
    have := hp.fr.dfr
    rw [hdf] at this
    cases hda : a'.defers with
    | nil => rfl
    | cons x y => rw [hda] at this; cases this
  have hx := hp.exit
  rcases he with rfl | rfl <;> cases hx
  · exact ⟨hd', v', k1, v', rfl, μ', hp.goes, hp.fr.dom, hp.next⟩
  · exact ⟨hd', v', k1, v', rfl, μ', hp.goes, hp.fr.dom, hp.next⟩

end

/-! ### a run on the ground, moved -/
mutual
def shiftV (n : Nat) : Value → Value
  | .pointer (some ⟨b, o, s⟩) => .pointer (some ⟨b + n, o, s⟩)
  | .slice (some ⟨b, o, s⟩) len cap => .slice (some ⟨b + n, o, s⟩) len cap
  | .map (some b) => .map (some (b + n))
  | .func (.yield b) a c => .func (.yield (b + n)) a c
  | .func f a c => .func f (shiftA n a) (shiftA n c)
  | .iface t v => .iface t (shiftV n v)
  | .agg a => .agg (shiftA n a)
  | .tuple a => .tuple (shiftA n a)
  | v => v
def shiftA (n : Nat) : Array Value → Array Value
  | ⟨l⟩ => ⟨shiftL n l⟩
def shiftL (n : Nat) : List Value → List Value
  | [] => []
  | v :: l => shiftV n v :: shiftL n l
end

def shiftO (n : Nat) : AObj → AObj
  | .cells own e c => .cells own e (shiftL n c)
  | _ => .dead

theorem shiftL_length (n : Nat) : ∀ l : List Value, (shiftL n l).length = l.length
  | [] => rfl
  | v :: l => by simp [shiftL, shiftL_length n l]
theorem shiftL_get (n : Nat) : ∀ (l : List Value) (i : Nat), (shiftL n l)[i]? = (l[i]?).map (shiftV n)
  | [], i => by simp [shiftL]
  | v :: l, 0 => by simp [shiftL]
  | v :: l, i + 1 => by simp [shiftL, shiftL_get n l i]

mutual
theorem VRel.shift {μ μ' : Inj} {n : Nat} (h : ∀ b t, μ b = some t → μ' (b + n) = some t) : ∀ {v v' : Value}, VRel μ v v' → VRel μ' (shiftV n v) v'
  | _, _, .bool b => .bool b
  | _, _, .int k m => .int k m
  | _, _, .float k m => .float k m
  | _, _, .complex k a b => .complex k a b
  | _, _, .string s => .string s
  | _, _, .ptr0 => .ptr0
  | _, _, .ptr b o t hm => .ptr (b + n) o t (h _ _ hm)
  | _, _, .slice0 => .slice0
  | _, _, .sliceZ ⟨_, _, _⟩ a' => .sliceZ _ a'
  | _, _, .slice b o t len ca cc hm hl hc hr => .slice (b + n) o t len ca cc (h _ _ hm) hl hc hr
  | _, _, .map0 => .map0
  | _, _, .map b t hm => .map (b + n) t (h _ _ hm)
  | _, _, .func f ⟨a⟩ ⟨c⟩ a' c' ha hc => .func f ⟨shiftL n a⟩ ⟨shiftL n c⟩ a' c' (VRels.shift h ha) (VRels.shift h hc)
  | _, _, .yield b t hm => .yield (b + n) t (h _ _ hm)
  | _, _, .nilFunc => .nilFunc
  | _, _, .iface t v v' hv => .iface t _ v' (VRel.shift h hv)
  | _, _, .nilIface => .nilIface
  | _, _, .agg ⟨a⟩ a' ha => .agg ⟨shiftL n a⟩ a' (VRels.shift h ha)
  | _, _, .tuple ⟨a⟩ a' ha => .tuple ⟨shiftL n a⟩ a' (VRels.shift h ha)
theorem VRels.shift {μ μ' : Inj} {n : Nat} (h : ∀ b t, μ b = some t → μ' (b + n) = some t) : ∀ {l l' : List Value}, VRels μ l l' → VRels μ' (shiftL n l) l'
  | _, _, .nil => .nil
  | _, _, .cons _ v' l _ hv ht => .cons _ v' _ _ (VRel.shift h hv) (VRels.shift h ht)
end


theorem foldl_push_spec (n : Nat) : ∀ (l : List AObj) (H : Heap), (l.foldl (fun H o => H.push (shiftO n o)) H).next = H.next + l.length ∧
    ∀ b, (l.foldl (fun H o => H.push (shiftO n o)) H).get b = if H.next ≤ b ∧ b < H.next + l.length then ((l[b - H.next]?).map (shiftO n)).getD .dead else H.get b
  | [], H => ⟨rfl, fun b => by simp; omega⟩
  | o :: l, H => by
    obtain ⟨h1, h2⟩ := foldl_push_spec n l (H.push (shiftO n o))
    simp only [List.foldl_cons, List.length_cons]
    rw [Heap.next_push] at h1
    refine ⟨by rw [h1]; omega, fun b => ?_⟩
    rw [h2 b, Heap.next_push, Heap.get_push]
    by_cases e : b = H.next
    · subst e
      rw [if_neg (by omega), if_pos rfl, if_pos (by omega)]
      simp
    · by_cases hc : H.next + 1 ≤ b ∧ b < H.next + 1 + l.length
      · rw [if_pos hc, if_pos (by omega), show b - H.next = (b - (H.next + 1)) + 1 by omega]
        simp
      · rw [if_neg hc, if_neg e, if_neg (by omega)]

/-- behind a run on the ground: its blocks, moved -/
def groundH (l : List AObj) (H : Heap) : Heap := l.foldl (fun X o => X.push (shiftO H.next o)) H

theorem flatL_eq {μ : Inj} : ∀ {l l' : List Value}, l.all flat = true → VRels μ l l' → l' = l
  | [], _, _, .nil => rfl
  | v :: l, _, hf, .cons _ v' _ l' hv ht => by
    simp only [List.all_cons, Bool.and_eq_true] at hf
    rw [hv.flat_eq hf.1, flatL_eq hf.2 ht]
theorem flatL_refl {μ : Inj} : ∀ {l : List Value}, l.all flat = true → VRels μ l l
  | [], _ => .nil
  | v :: l, hf => by
    simp only [List.all_cons, Bool.and_eq_true] at hf
    exact .cons _ _ _ _ (flat_refl hf.1) (flatL_refl hf.2)


/-- the blocks of a heap, up to a number -/
def blocksOf (H : Heap) : Nat → List AObj
  | 0 => []
  | n + 1 => blocksOf H n ++ [H.get n]
theorem blocksOf_spec (H : Heap) : ∀ n, (blocksOf H n).length = n ∧ ∀ b, b < n → (blocksOf H n)[b]? = some (H.get b)
  | 0 => ⟨rfl, fun b h => by omega⟩
  | n + 1 => by
    obtain ⟨h1, h2⟩ := blocksOf_spec H n
    refine ⟨by simp [blocksOf, h1], fun b hb => ?_⟩
    simp only [blocksOf]
    by_cases e : b = n
    · subst e; rw [List.getElem?_append_right (by omega), h1]; simp
    · rw [List.getElem?_append_left (by omega)]; exact h2 b (by omega)

theorem CallV.ground {P : Program} {f : FuncId} {args : Array Value} {v : Value} {H1 : Heap} (hfl : args.toList.all flat = true) (h : CallV P 0 f args Heap.empty (.ret v) H1) (H : Heap) :
    CallV P 0 f args H (.ret (shiftV H.next v)) (groundH (blocksOf H1 H1.next) H) := by
  obtain ⟨hl, hg⟩ := blocksOf_spec H1 H1.next
  obtain ⟨s1, s2⟩ := foldl_push_spec H.next (blocksOf H1 H1.next) H
  rw [hl] at s1 s2
  have hget : ∀ b, (groundH (blocksOf H1 H1.next) H).get b = if H.next ≤ b ∧ b < H.next + H1.next then shiftO H.next (H1.get (b - H.next)) else H.get b := by
    intro b
    unfold groundH
    rw [s2 b]
    split
    · rename_i hb; rw [hg _ (by omega)]; simp
    · rfl
  have hnext : (groundH (blocksOf H1 H1.next) H).next = H.next + H1.next := s1
  refine ⟨⟨by rw [hnext]; omega, fun b hb hd => by rw [hget, if_neg (by omega)]; exact hd⟩, fun μ w args' hR hD ha => ?_⟩
  have hargs := flatL_eq hfl ha
  have hR0 : Rel 0 (fun _ => none) Heap.empty.get w := ⟨fun b hb => absurd rfl hb, fun b b' t t' _ ho => by simp [Heap.empty, Heap.get, Tr.get, owned] at ho, fun k hk => by omega⟩
  have hD0 : Dom 0 (fun _ => none) Heap.empty := ⟨Nat.le_refl _, fun _ _ => rfl⟩
  refine CallsIn.mono (h.sim (fun _ => none) w args' hR0 hD0 (by rw [hargs]; exact flatL_refl hfl)) ?_
  rintro e w' ⟨μ1, hp⟩
  -- the new injection
  let μ' : Inj := fun b => if b < H.next then μ b else μ1 (b - H.next)
  have hold : ∀ b, b < H.next → μ' b = μ b := fun b hb => by simp [μ', hb]
  have hnew : ∀ b, H.next ≤ b → μ' b = μ1 (b - H.next) := fun b hb => by simp [μ', Nat.not_lt.2 hb]
  have hsh : ∀ b t, μ1 b = some t → μ' (b + H.next) = some t := fun b t ht => by rw [hnew _ (by omega)]; simpa using ht
  have hle : μ.Le μ' := fun b t ht => by
    by_cases hb : b < H.next
    · rw [hold b hb]; exact ht
    · rw [hD.fresh b (by omega)] at ht; cases ht
  have hno : ∀ k, ¬ Own (fun _ => none) Heap.empty.get k := by rintro k ⟨b, t, ho, hm, _⟩; cases hm
  have hkept : ∀ k, k < w.heap.size → w'.heap[k]? = w.heap[k]? := fun k hk => hp.goes.kept k hk (hno k)
  have hnotown : ∀ k, k < w.heap.size → ¬ Own μ1 H1.get k := fun k hk ho => hno k (hp.goes.own k hk ho)
  have hdeadtop : ∀ b, H1.next ≤ b → H1.get b = .dead := by
    intro b hb
    have := hp.dom.fresh b hb
    cases hd : H1.get b with
    | dead => rfl
    | _ => obtain ⟨t, o, k1, _⟩ := hp.goes.rel.obj b (by rw [hd]; simp); rw [this] at k1; cases k1
  have hget' : ∀ b, H.next ≤ b → (groundH (blocksOf H1 H1.next) H).get b = shiftO H.next (H1.get (b - H.next)) := by
    intro b hb
    rw [hget]
    split
    · rfl
    · rename_i hc
      rw [hdeadtop (b - H.next) (by omega)]
      have := hD.fresh b hb
      cases hd : H.get b with
      | dead => rfl
      | _ => obtain ⟨t, o, k1, _⟩ := hR.obj b (by rw [hd]; simp); rw [this] at k1; cases k1
  have hcells : ∀ b, shiftO H.next (H1.get b) ≠ .dead → ∃ own e c, H1.get b = .cells own e c := by
    intro b hb
    cases hd : H1.get b <;> simp [shiftO, hd] at hb ⊢
  have hown : ∀ b, owned (shiftO H.next (H1.get b)) = true → owned (H1.get b) = true := by
    intro b hb
    have hnd : shiftO H.next (H1.get b) ≠ .dead := fun e => by rw [e] at hb; simp [owned] at hb
    obtain ⟨own, e, c, hc⟩ := hcells b hnd
    rw [hc] at hb ⊢
    exact hb
  have hlive : ∀ b, shiftO H.next (H1.get b) ≠ .dead → H1.get b ≠ .dead := by
    intro b hb e; rw [e] at hb; exact hb rfl
  have hrel : Rel 0 μ' (groundH (blocksOf H1 H1.next) H).get w' := by
    refine ⟨fun b hb => ?_, fun b b' t t' hne ho hb' hm hm' => ?_, fun k hk => by omega⟩
    · by_cases hlt : b < H.next
      · rw [hget, if_neg (by omega)] at hb ⊢
        obtain ⟨t, o, k1, k2, k3⟩ := hR.obj b hb
        exact ⟨t, o, by rw [hold b hlt]; exact k1, by rw [hkept _ (hR.lt hb k1)]; exact k2, k3.mono hle⟩
      · rw [hget' b (by omega)] at hb ⊢
        obtain ⟨own, e, c, hc⟩ := hcells _ hb
        obtain ⟨t, o, k1, k2, k3⟩ := hp.goes.rel.obj (b - H.next) (hlive _ hb)
        refine ⟨t, o, by rw [hnew b (by omega)]; exact k1, k2, ?_⟩
        rw [hc] at k3 ⊢
        obtain ⟨arr, e', fr, q1, q2, q3, q4, q5, q6⟩ := k3
        refine ⟨arr, e', fr, q1, q2, q3, by rw [shiftL_length]; exact q4, fun i u hu => ?_, q6⟩
        rw [shiftL_get] at hu
        cases hci : c[i]? with
        | none => rw [hci] at hu; simp at hu
        | some u0 =>
          rw [hci] at hu
          simp only [Option.map_some, Option.some.injEq] at hu
          obtain ⟨v', j1, j2⟩ := q5 i u0 hci
          exact ⟨v', j1, by rw [← hu]; exact j2.shift hsh⟩
    · by_cases hlt : b < H.next
      · rw [hget, if_neg (by omega)] at ho
        rw [hold b hlt] at hm
        have hbnd : H.get b ≠ .dead := fun e => by rw [e] at ho; simp [owned] at ho
        by_cases hlt' : b' < H.next
        · rw [hget, if_neg (by omega)] at hb'
          rw [hold b' hlt'] at hm'
          exact hR.inj b b' t t' hne ho hb' hm hm'
        · rw [hget' b' (by omega)] at hb'
          rw [hnew b' (by omega)] at hm'
          intro hcb
          have hbs := hR.lt hbnd hm
          cases hob : owned (H1.get (b' - H.next)) with
          | true => exact hnotown _ hbs ⟨_, t', hob, hm', hcb.symm⟩
          | false =>
            have := hp.goes.ro _ (hlive _ hb') hob
            rw [← this] at hb'
            exact hb' rfl
      · rw [hget' b (by omega)] at ho
        rw [hnew b (by omega)] at hm
        by_cases hlt' : b' < H.next
        · rw [hget, if_neg (by omega)] at hb'
          rw [hold b' hlt'] at hm'
          intro hcb
          exact hnotown _ (hR.lt hb' hm') ⟨_, t, hown _ ho, hm, hcb⟩
        · rw [hget' b' (by omega)] at hb'
          rw [hnew b' (by omega)] at hm'
          exact hp.goes.rel.inj _ _ t t' (by omega) (hown _ ho) (hlive _ hb') hm hm'
  refine ⟨μ', ⟨hle, hrel, hp.goes.size, fun k hk _ => hkept k hk, fun k hk ⟨b, t, ho, hm, hc⟩ => ?_, fun b hb hob => ?_, hp.goes.same⟩, ?_, ⟨Nat.zero_le _, fun b hb => ?_⟩, ⟨by rw [hnext]; omega, fun b hb hm => by rw [hold b hb]; exact hm⟩⟩
  · by_cases hlt : b < H.next
    · rw [hget, if_neg (by omega)] at ho
      rw [hold b hlt] at hm
      exact ⟨b, t, ho, hm, hc⟩
    · rw [hget' b (by omega)] at ho
      rw [hnew b (by omega)] at hm
      exact absurd ⟨_, t, hown _ ho, hm, hc⟩ (hnotown k hk)
  · by_cases hlt : b < H.next
    · rw [hget, if_neg (by omega)]
    · rw [hget' b (by omega)] at hb hob
      exfalso
      obtain ⟨own, e, c, hc⟩ := hcells _ hb
      have hob' : owned (H1.get (b - H.next)) = false := by
        rw [hc] at hob ⊢
        exact hob
      have := hp.goes.ro _ (hlive _ hb) hob'
      rw [← this] at hb
      exact hb rfl
  · have hr := hp.ret
    cases hr with
    | ret _ v' hv => exact .ret _ _ (hv.shift hsh)
  · rw [hnext] at hb
    rw [hnew b (by omega)]
    exact hp.dom.fresh _ (by omega)

attribute [irreducible] KF KL KDf

end Go.Ab
end
section
namespace Go.Ab

def tabOf (P : Program) : Tab := { ty := fun t => bif Nat.blt t P.types.size then tinfo P t else none, fn := fun f => P.funcs[f]? }

def tyCheck (P : Program) : Bool := (List.range P.types.size).all fun t => match tinfo P t with
  | some i => zeroOk i
  | none => true
def fnCheck (P : Program) : Bool := P.funcs.toList.all fun fn => !(fn.name == "runtime.NumGoroutine") && match fn.body with
  | some c => codeOk 0 c
  | none => true

theorem tabOf_ok {P : Program} (h1 : tyCheck P = true) (h2 : fnCheck P = true) : (tabOf P).Ok P 0 := by
  unfold tyCheck at h1
  unfold fnCheck at h2
  rw [List.all_eq_true] at h1 h2
  have hty : ∀ t i, (tabOf P).ty t = some i → t < P.types.size ∧ tinfo P t = some i := by
    intro t i h
    simp only [tabOf] at h
    cases hb : Nat.blt t P.types.size with
    | false => rw [hb] at h; simp at h
    | true => rw [hb] at h; exact ⟨Nat.le_of_ble_eq_true hb, h⟩
  refine ⟨fun t i h => (hty t i h).2, fun t i h => ?_, fun f fn h => ?_⟩
  · obtain ⟨k1, k2⟩ := hty t i h
    have := h1 t (List.mem_range.2 k1)
    rw [k2] at this
    exact this
  · have hm : fn ∈ P.funcs.toList := by
      have h' : P.funcs[f]? = some fn := h
      exact List.mem_of_getElem? (by rw [Array.getElem?_toList]; exact h')
    have := h2 fn hm
    simp only [Bool.and_eq_true, Bool.not_eq_true'] at this
    refine ⟨h, this.1, fun c hc => ?_⟩
    have h3 := this.2
    rw [hc] at h3
    exact h3

/-- a structure's fields -/
def fsOf (P : Program) (t : Nat) : Array Field := match tinfo P t with
  | some i => match i.desc with
    | .struct fs => fs
    | _ => #[]
  | none => #[]

end Go.Ab
end
