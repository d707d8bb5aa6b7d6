/- Parts of the proof, joined by program: The abstract machine: definitions. A deterministic reading of the kit's code over an abstract heap: no tape, no order, no capacity beyond what is known; The abstract machine: one operation, a region, a call, a piece of code; The abstract machine: equality of values; regions that draw their order; code; The abstract machine and the model: the relation between an abstract heap and a world; The abstract machine and the model: what an operation reads; The abstract machine and the model: reading operations; The abstract machine and the model: slices, lengths, maps, aggregates. -/
import Derived.RangeFuncLeaves
import Derived.OrdersIn
import Derived.Laws.World
import Derived.Laws.Cells
import Derived.Laws.Entries
import Derived.CallsIn
set_option linter.all false
section
namespace Go.Ab

/-! ### Tries -/
inductive Tr (α : Type) where
  | e
  | l (xs : List (Nat × α))
  | n (a b : Tr α)

namespace Tr
variable {α : Type}
def look (k : Nat) : List (Nat × α) → Option α
  | [] => none
  | p :: r => bif Nat.beq p.1 k then some p.2 else look k r
def get : Tr α → Nat → Option α
  | .e, _ => none
  | .l xs, k => look k xs
  | .n a b, k => bif Nat.beq (k % 2) 0 then a.get (k / 2) else b.get (k / 2)
def single : Nat → Nat → α → Tr α
  | 0, k, v => .l [(k, v)]
  | d + 1, k, v => bif Nat.beq (k % 2) 0 then .n (single d (k / 2) v) .e else .n .e (single d (k / 2) v)
def set : Tr α → Nat → Nat → α → Tr α
  | .e, d, k, v => single d k v
  | .l xs, _, k, v => .l ((k, v) :: xs)
  | .n a b, d, k, v => bif Nat.beq (k % 2) 0 then .n (a.set (d - 1) (k / 2) v) b else .n a (b.set (d - 1) (k / 2) v)

theorem beq_eq (a b : Nat) : Nat.beq a b = decide (a = b) := by
  cases h : Nat.beq a b with
  | true => have := Nat.eq_of_beq_eq_true h; simp [this]
  | false => have := Nat.ne_of_beq_eq_false h; simp [this]

theorem get_single (d : Nat) : ∀ (k j : Nat) (v : α), (single d k v).get j = if j = k then some v else none := by
  induction d with
  | zero => intro k j v; simp [single, get, look, beq_eq, eq_comm, Bool.cond_decide]
  | succ d ih =>
    intro k j v
    have hdiv : (j = k) ↔ (j % 2 = k % 2 ∧ j / 2 = k / 2) := by omega
    by_cases hk : k % 2 = 0
    · by_cases hj : j % 2 = 0
      · simp [single, get, beq_eq, hk, hj, ih, hdiv]
      · have : ¬ (j = k) := by omega
        simp [single, get, beq_eq, hk, hj, this]
    · by_cases hj : j % 2 = 0
      · have : ¬ (j = k) := by omega
        simp [single, get, beq_eq, hk, hj, this]
      · have e1 : j % 2 = 1 := by omega
        have e2 : k % 2 = 1 := by omega
        simp [single, get, beq_eq, ih, hdiv, e1, e2]

theorem get_set (t : Tr α) : ∀ (d k j : Nat) (v : α), (t.set d k v).get j = if j = k then some v else t.get j := by
  induction t with
  | e => intro d k j v; simp [set, get, get_single]
  | l xs =>
    intro d k j v
    by_cases h : j = k
    · subst h; simp [set, get, look, beq_eq]
    · have : ¬ k = j := fun e => h e.symm
      simp [set, get, look, beq_eq, h, this]
  | n a b iha ihb =>
    intro d k j v
    have hdiv : (j = k) ↔ (j % 2 = k % 2 ∧ j / 2 = k / 2) := by omega
    by_cases hk : k % 2 = 0
    · by_cases hj : j % 2 = 0
      · simp [set, get, beq_eq, hk, hj, iha, hdiv]
      · have : ¬ (j = k) := by omega
        simp [set, get, beq_eq, hk, hj, this]
    · by_cases hj : j % 2 = 0
      · have : ¬ (j = k) := by omega
        simp [set, get, beq_eq, hk, hj, this]
      · have e1 : j % 2 = 1 := by omega
        have e2 : k % 2 = 1 := by omega
        simp [set, get, beq_eq, ihb, hdiv, e1, e2]
end Tr

/-! ### Heaps -/
inductive AObj where
  | dead
  | cells (own : Bool) (esz : Nat) (c : List Value)
  | map (es : List MapEntry) (clock : Nat)
  | iter (s : ByteArray) (pos : Nat)
  | miter (m : Option Nat) (since : Nat) (seen : List Nat) (stepped : Nat)
  | loop (state : LoopState) (pending : Option Code) (fn : FuncId) (tm : Tr Value) (sz : Nat) (params : Array Tmp) (assign body : Code) (defers : Nat)
  | defr (open_ : Bool)
  deriving Inhabited

structure Heap where
  objs : Tr AObj
  next : Nat

def Heap.get (H : Heap) (b : Nat) : AObj := (H.objs.get b).getD .dead
def Heap.put (H : Heap) (b : Nat) (o : AObj) : Heap := ⟨H.objs.set 16 b o, H.next⟩
/-- a new block -/
def Heap.push (H : Heap) (o : AObj) : Heap := ⟨H.objs.set 16 H.next o, H.next + 1⟩
def Heap.skip (H : Heap) (n : Nat) : Heap := ⟨H.objs, H.next + n⟩
def Heap.empty : Heap := ⟨.e, 0⟩

theorem Heap.get_put (H : Heap) (b j : Nat) (o : AObj) : (H.put b o).get j = if j = b then o else H.get j := by
  by_cases h : j = b <;> simp [Heap.get, Heap.put, Tr.get_set, h]
theorem Heap.get_push (H : Heap) (j : Nat) (o : AObj) : (H.push o).get j = if j = H.next then o else H.get j := by
  by_cases h : j = H.next <;> simp [Heap.get, Heap.push, Tr.get_set, h]
theorem Heap.get_skip (H : Heap) (n j : Nat) : (H.skip n).get j = H.get j := rfl
@[simp] theorem Heap.next_put (H : Heap) (b : Nat) (o : AObj) : (H.put b o).next = H.next := rfl
@[simp] theorem Heap.next_push (H : Heap) (o : AObj) : (H.push o).next = H.next + 1 := rfl
@[simp] theorem Heap.next_skip (H : Heap) (n : Nat) : (H.skip n).next = H.next + n := rfl

/-! ### Types, as the machine asks for them -/
structure TInfo where
  desc : TypeDesc
  size : Nat
  bytes : Nat
  zero : Option Value
  agg : Bool
  fields : List (Nat × Nat)

def isAggDesc : TypeDesc → Bool
  | .struct _ | .array _ _ => true
  | _ => false

def fieldsOk (P : Program) : TypeDesc → Bool
  | .struct fs => fs.toList.all fun f => (P.info? f.type).isSome
  | _ => true

def tinfo (P : Program) (t : TypeId) : Option TInfo :=
  match P.info? t, P.underlying t with
  | some i, some d => bif fieldsOk P d then some {
      desc := d, size := i.size, bytes := i.bytes, zero := i.zero, agg := isAggDesc d,
      fields := match d with
        | .struct fs => fs.toList.map fun f => (f.offset, P.cellsOf f.type)
        | _ => [] }
    else none
  | _, _ => none

/-! ### Values without addresses -/
def flat1 : Value → Bool
  | .bool _ | .int _ _ | .float _ _ | .complex _ _ _ | .string _ | .pointer none | .map none | .nilFunc | .nilIface => true
  | .slice none 0 0 => true
  | .iface _ (.int _ _) | .iface _ (.string _) | .iface _ (.bool _) => true
  | _ => false
def flat2 : Value → Bool
  | .agg cs => cs.toList.all flat1
  | v => flat1 v
def flat : Value → Bool
  | .tuple cs => cs.toList.all flat2
  | .iface _ v => flat2 v
  | v => flat2 v

/-- a type's zero value bears no address -/
def zeroOk (i : TInfo) : Bool := match i.zero with
  | some z => flat z
  | none => true

/-- code whose constants bear no address -/
def opndOk (ng : Nat) : Operand → Bool
  | .const v => flat v
  | .global g => Nat.blt g ng
  | _ => true
def operOk (ng : Nat) (o : Oper) : Bool :=
  o.op.operands.toList.all (opndOk ng)
def codeOk (ng : Nat) : Code → Bool
  | .region _ ops _ => ops.toList.all (operOk ng)
  | .seq a b => codeOk ng a && codeOk ng b
  | .cond c x y => opndOk ng c && codeOk ng x && codeOk ng y
  | .block _ c => codeOk ng c
  | .loop c => codeOk ng c
  | .rangeFunc g _ a b => opndOk ng g && codeOk ng a && codeOk ng b
  | .scope c => codeOk ng c
  | _ => true

structure Tab where
  ty : Nat → Option TInfo
  fn : Nat → Option Func

/-- what a table must be for a program -/
structure Tab.Ok (T : Tab) (P : Program) (ng : Nat) : Prop where
  ty : ∀ t i, T.ty t = some i → tinfo P t = some i
  zero : ∀ t i, T.ty t = some i → zeroOk i = true
  fn : ∀ f fn, T.fn f = some fn → P.funcs[f]? = some fn ∧ (fn.name == "runtime.NumGoroutine") = false ∧ ∀ c, fn.body = some c → codeOk ng c = true

def oneCell : Value → Bool
  | .agg _ | .tuple _ => false
  | _ => true

/-- What a computation comes to that asks for nothing but the program. -/
def pureRun {α : Type} (P : Program) : Sem α → Option α
  | .pure a => some a
  | .program k => pureRun P (k P)
  | _ => none

theorem pureRun_run {α : Type} {P : Program} {s : Sem α} {a : α} (h : pureRun P s = some a) (w : World) : s.run P w = .ok a w := by
  induction s with
  | pure b => simp [pureRun] at h; subst h; rfl
  | program k ih => simp only [pureRun] at h; simpa [Sem.run] using ih P h
  | _ => simp [pureRun] at h

/-! ### A frame -/
structure St where
  tm : Tr Value
  sz : Nat
  defers : List Deferred
  rd : Bool
  heap : Heap

def evalT (tm : Tr Value) : Operand → Value
  | .tmp t => (tm.get t).getD undef
  | .const v => v
  | .global g => .pointer (some ⟨g, 0, none⟩)
  | .func f => .func (.func f) #[] #[]

def putT (tm : Tr Value) (dst : Option Tmp) (v : Value) : Tr Value :=
  match dst with
  | some d => tm.set 9 d v
  | none => tm

/-! ### Cells -/
def setSeg : List Value → Nat → List Value → List Value
  | c, _, [] => c
  | c, o, v :: vs => setSeg (c.set o v) (o + 1) vs

def seg (c : List Value) (o n : Nat) : Option (List Value) :=
  if o + n ≤ c.length then some ((c.drop o).take n) else none

def loadC (H : Heap) (i : TInfo) (b o : Nat) : Option Value :=
  match H.get b with
  | .cells _ _ c => if i.agg then (seg c o i.size).map fun l => .agg l.toArray else c[o]?
  | _ => none

def storeC (H : Heap) (i : TInfo) (b o : Nat) (v : Value) : Option Heap :=
  match H.get b with
  | .cells true e c =>
    if v.cells.toList.length = i.size ∧ v.cells.toList.all oneCell = true ∧ o + i.size ≤ c.length then some (H.put b (.cells true e (setSeg c o v.cells.toList))) else none
  | _ => none

/-- cells behind a slice's head, so many -/
def headCells (H : Heap) (n : Nat) : Value → Option (List Value)
  | .slice (some ⟨b, o, none⟩) _ cap => bif Nat.beq n 0 then some [] else bif Nat.beq cap 0 then none else match H.get b with
    | .cells _ _ c => seg c o n
    | _ => none
  | .slice none 0 0 => bif Nat.beq n 0 then some [] else none
  | _ => none

def rep {α : Type} (l : List α) : Nat → List α
  | 0 => []
  | n + 1 => l ++ rep l n

def fillL (place : Nat → Option (Nat × Nat)) (cells : List Value) : List (Nat × Value) → Option (List Value)
  | [] => some cells
  | p :: rest =>
    match place p.1 with
    | none => none
    | some q => if p.2.cells.toList.length = q.2 ∧ q.1 + q.2 ≤ cells.length then fillL place (setSeg cells q.1 p.2.cells.toList) rest else none

/-! ### Operations -/
inductive Out where
  | val (v : Value) (H : Heap)
  | call (f : FuncId) (args : Array Value)
  | round (l : Nat) (args : Array Value)
  | dfr (d : Deferred)
  | pan (v : Value)

def lit? : Option Value → Option (Option Int)
  | none => some none
  | some (.int _ n) => some (some n)
  | _ => none

/-- bounds of a slice expression -/
def bMax (cap : Nat) : Option Int → Option Nat
  | none => some cap
  | some x => if 0 ≤ x ∧ x ≤ cap then some x.toNat else none
def bHigh (len m : Nat) : Option Int → Option Int → Option Nat
  | some x, _ => if 0 ≤ x ∧ x ≤ m then some x.toNat else none
  | none, none => some len
  | none, some _ => none
def bLow (h : Nat) : Option Int → Option Nat
  | none => some 0
  | some x => if 0 ≤ x ∧ x ≤ h then some x.toNat else none
def bnds (len cap : Nat) (lo hi mx : Option Int) : Option (Nat × Nat × Nat) :=
  match bMax cap mx with
  | none => none
  | some m => match bHigh len m hi mx with
    | none => none
    | some h => match bLow h lo with
      | none => none
      | some l => some (l, h, m)

def appendNews (T : Tab) (H : Heap) (sz : Nat) (x : Value) : Option (Nat × List Value) :=
  match x with
  | .slice _ n _ => (headCells H (n * sz) x).map fun l => (n, l)
  | .string s => if sz = 1 then some (s.size, s.data.toList.map fun b => .int .u8 b.toNat) else none
  | _ => none

def appendZeros (i : TInfo) (x : Value) : Option (Nat × List Value) :=
  match x, i.zero with
  | .int _ n, some z => if 0 ≤ n ∧ n * i.bytes ≤ 281474976710656 ∧ n < 9223372036854775808 ∧ z.cells.toList.length = i.size then some (n.toNat, rep z.cells.toList n.toNat) else none
  | _, _ => none

def newsOf (T : Tab) (H : Heap) (i : TInfo) (x : Value) : TypeDesc → Option (Nat × List Value)
  | .int _ => appendZeros i x
  | .slice _ => appendNews T H i.size x
  | .string => appendNews T H i.size x
  | _ => none

def appendC (T : Tab) (H : Heap) (argTypes : Array TypeId) (s x : Value) : Option Out :=
  match argTypes[0]? with
  | none => none
  | some t0 =>
  match T.ty t0 with
  | some ⟨.slice e, _, _, _, _, _⟩ =>
    match T.ty e, (argTypes[1]?).map (fun t => (T.ty t).map (·.desc)) with
    | some i, some (some d1) =>
      match newsOf T H i x d1, i.zero with
      | some (n, nw), some z =>
        if z.cells.toList.length = i.size ∧ nw.all oneCell = true then
        match s with
        | .slice none 0 0 =>
          if n = 0 then some (.val (.slice none 0 0) H)
          else if n * i.bytes ≤ 140737488355328 ∧ n < 9223372036854775807 then
            some (.val (.slice (some ⟨H.next, 0, none⟩) n n) (H.push (.cells true i.size nw))) else none
        | .slice (some ⟨b, o, none⟩) len cap =>
          match H.get b with
          | .cells true esz c =>
            if esz = i.size ∧ o + len * i.size ≤ c.length then
              if len + n ≤ cap then
                if o + (len + n) * i.size ≤ c.length then
                  some (.val (.slice (some ⟨b, o, none⟩) (len + n) cap) (H.put b (.cells true esz (setSeg c (o + len * i.size) nw)))) else none
              else if (len + n) * i.bytes ≤ 140737488355328 ∧ len + n < 9223372036854775807 then
                some (.val (.slice (some ⟨H.next, 0, none⟩) (len + n) (len + n)) ((H.put b .dead).push (.cells true i.size ((c.drop o).take (len * i.size) ++ nw)))) else none
            else none
          | _ => none
        | _ => none
        else none
      | _, _ => none
    | _, _ => none
  | _ => none

def copyC (T : Tab) (H : Heap) (argTypes : Array TypeId) (d x : Value) : Option Out :=
  match argTypes[0]? with
  | none => none
  | some t0 =>
  match T.ty t0 with
  | some ⟨.slice e, _, _, _, _, _⟩ =>
    match T.ty e with
    | some i =>
      match d with
      | .slice none 0 0 =>
        match x with
        | .slice _ _ _ | .string _ => some (.val (.int .i64 0) H)
        | _ => none
      | .slice (some ⟨b, o, none⟩) dlen _ =>
        let src : Option (Nat × List Value) := match x with
          | .slice _ n _ => (headCells H (Nat.min n dlen * i.size) x).map fun l => (Nat.min n dlen, l)
          | .string s => if i.size = 1 then some (Nat.min s.size dlen, (s.data.toList.take (Nat.min s.size dlen)).map fun b => .int .u8 b.toNat) else none
          | _ => none
        match src with
        | some (n, l) =>
          match H.get b with
          | .cells true esz c => if l.all oneCell = true ∧ o + l.length ≤ c.length then some (.val (.int .i64 n) (H.put b (.cells true esz (setSeg c o l)))) else none
          | _ => none
        | none => none
      | _ => none
    | none => none
  | _ => none

def keyFlat : TypeDesc → Value → Bool
  | .int k, .int k' _ => k = k'
  | .string, .string _ => true
  | .bool, .bool _ => true
  | _, _ => false

def findE (kind : TypeDesc) (k : Value) : List MapEntry → Nat → Option (Option (Nat × Value))
  | [], _ => some none
  | e :: es, i =>
    match Instr.sameNow kind k e.key with
    | some true => some (some (i, e.val))
    | some false => findE kind k es (i + 1)
    | none => none

def lookupC (T : Tab) (H : Heap) (mt : TypeId) (m k : Value) (ok : Bool) : Option Value :=
  match T.ty mt with
  | some ⟨.map kt et, _, _, _, _, _⟩ =>
    match T.ty kt, T.ty et with
    | some ki, some ei =>
      if keyFlat ki.desc k then
        match m with
        | .map none => ei.zero.map fun z => if ok then .tuple #[z, .bool false] else z
        | .map (some r) =>
          match H.get r with
          | .map es _ =>
            match findE ki.desc k es 0 with
            | some (some p) => some (if ok then .tuple #[p.2, .bool true] else p.2)
            | some none => ei.zero.map fun z => if ok then .tuple #[z, .bool false] else z
            | none => none
          | _ => none
        | _ => none
      else none
    | _, _ => none
  | _ => none

def updateC (T : Tab) (H : Heap) (mt : TypeId) (m k v : Value) : Option Heap :=
  match T.ty mt with
  | some ⟨.map kt _, _, _, _, _, _⟩ =>
    match T.ty kt with
    | some ki =>
      if keyFlat ki.desc k then
        match m with
        | .map (some r) =>
          match H.get r with
          | .map es clock =>
            match findE ki.desc k es 0 with
            | some (some p) => some (H.put r (.map (es.modify p.1 fun e => { e with key := k, val := v }) clock))
            | some none => some (H.put r (.map (es ++ [{ key := k, val := v, born := clock }]) (clock + 1)))
            | none => none
          | _ => none
        | _ => none
      else none
    | none => none
  | _ => none

def deleteC (T : Tab) (H : Heap) (mt : TypeId) (m k : Value) : Option Heap :=
  match T.ty mt with
  | some ⟨.map kt _, _, _, _, _, _⟩ =>
    match T.ty kt with
    | some ki =>
      if keyFlat ki.desc k then
        match m with
        | .map none => some H
        | .map (some r) =>
          match H.get r with
          | .map es clock =>
            match findE ki.desc k es 0 with
            | some (some p) => some (H.put r (.map (es.eraseIdx p.1) clock))
            | some none => some H
            | none => none
          | _ => none
        | _ => none
      else none
    | none => none
  | _ => none

end Go.Ab
end
section
namespace Go.Ab

/-! ### Kinds of operations -/
inductive Kind where
  | read | alloc | eff
  deriving DecidableEq

def descOf (T : Tab) (t : TypeId) : Option TypeDesc := (T.ty t).map (·.desc)

/-- a conversion to bytes makes memory of a size that is drawn -/
def kindOf (T : Tab) : Op → Kind
  | .alloc _ | .box _ _ | .buildSlice _ _ _ | .makeSlice _ _ _ | .makeMap _ _ | .range _ _ => .alloc
  | .store _ _ _ | .mapUpdate _ _ _ _ | .insert _ _ _ _ | .next _ _ | .defer _ | .panic _ => .eff
  | .call c => match c.callee with
    | .builtin .len | .builtin .cap | .builtin .min | .builtin .max => .read
    | _ => .eff
  | .convert _ dst _ => match descOf T dst with
    | some (.slice _) => .eff
    | _ => .read
  | _ => .read

/-! ### Reads -/
def addOff (n : Nat) : Value → Option Value
  | .pointer (some ⟨b, o, none⟩) => some (.pointer (some ⟨b, o + n, none⟩))
  | _ => none

def partC (i : TInfo) (cs : List Value) (off : Nat) : Option Value :=
  if i.agg then (seg cs off i.size).map fun l => .agg l.toArray else cs[off]?

/-- '==' where an address may stand -/
def eqC (T : Tab) (t : TypeId) (x y : Value) : Option Bool :=
  match descOf T t with
  | some (.slice _) => match x, y with
    | .slice none 0 0, .slice b _ _ => some b.isNone
    | .slice (some _) _ _, .slice none 0 0 => some false
    | _, _ => none
  | some (.map _ _) => match x, y with
    | .map none, .map b => some b.isNone
    | .map (some _), .map none => some false
    | _, _ => none
  | some (.pointer _) => match x, y with
    | .pointer none, .pointer b => some b.isNone
    | .pointer (some _), .pointer none => some false
    | _, _ => none
  | some (.func _ _ _) => match x, y with
    | .nilFunc, .nilFunc => some true
    | .nilFunc, .func _ _ _ => some false
    | .func _ _ _, .nilFunc => some false
    | _, _ => none
  | some (.interface _) => match x, y with
    | .nilIface, .iface _ _ => some false
    | .iface _ _, .nilIface => some false
    | _, _ => none
  | _ => none

def byteOf? : Value → Option UInt8
  | .int .u8 n => if 0 ≤ n ∧ n < 256 then some (UInt8.ofNat n.toNat) else none
  | _ => none

def bytesOf? : List Value → Option (List UInt8)
  | [] => some []
  | v :: vs => match byteOf? v, bytesOf? vs with
    | some b, some l => some (b :: l)
    | _, _ => none

def sliceC (T : Tab) (H : Heap) (t : TypeId) (x : Value) (lo hi mx : Option Value) : Option Value :=
  match lit? lo, lit? hi, lit? mx with
  | some lo, some hi, some mx =>
    match T.ty t, x with
    | some ⟨.slice e, _, _, _, _, _⟩, .slice a len cap =>
      match T.ty e, a with
      | some i, some ⟨b, o, none⟩ => match H.get b, bnds len cap lo hi mx with
        | .cells _ esz _, some (l, h, m) => bif Nat.beq esz i.size then some (.slice (some ⟨b, o + l * i.size, none⟩) (h - l) (m - l)) else none
        | _, _ => none
      | some _, none => match bnds len cap lo hi mx with
        | some (l, h, m) => some (.slice none (h - l) (m - l))
        | none => none
      | _, _ => none
    | some ⟨.string, _, _, _, _, _⟩, .string s =>
      match mx, bnds s.size s.size lo hi none with
      | none, some (l, h, _) => some (.string (s.extract l h))
      | _, _ => none
    | some ⟨.array n e, _, _, _, _, _⟩, .pointer (some ⟨b, o, none⟩) =>
      match T.ty e, bnds n n lo hi mx with
      | some i, some (l, h, m) => some (.slice (some ⟨b, o + l * i.size, none⟩) (h - l) (m - l))
      | _, _ => none
    | _, _ => none
  | _, _, _ => none

def fillBuild (T : Tab) (t : TypeId) (parts : List (Nat × Value)) : Option Value :=
  match T.ty t with
  | some ⟨.struct _, _, _, some z, _, fields⟩ => (fillL (fun i => fields[i]?) z.cells.toList parts).map fun l => .agg l.toArray
  | some ⟨.array _ e, _, _, some z, _, _⟩ => match T.ty e with
    | some i => (fillL (fun k => some (k * i.size, i.size)) z.cells.toList parts).map fun l => .agg l.toArray
    | none => none
  | _ => none

def lenC (T : Tab) (H : Heap) (t : TypeId) (x : Value) : Option Value :=
  match descOf T t, x with
  | some .string, .string s => some (goInt s.size)
  | some (.array n _), _ => some (goInt n)
  | some (.slice _), .slice _ n _ => some (goInt n)
  | some (.map _ _), .map none => some (goInt 0)
  | some (.map _ _), .map (some r) => match H.get r with
    | .map es _ => some (goInt es.length)
    | _ => none
  | _, _ => none

/-- what an operation comes to that asks for nothing but the program, of operands without addresses -/
def flatRun (P : Program) (ρ : Operand → Value) (o : Oper) : Option Value :=
  if o.op.operands.toList.all (fun x => flat (ρ x)) then
    match pureRun P (execOp ρ o) with
    | some (.value v) => if flat v then some v else none
    | _ => none
  else none

/-- operations on whole numbers -/
def intOp (op : BinOp) (k : IntKind) (a : Int) (k' : IntKind) (b : Int) : Option Value :=
  match op with
  | .shl => if 0 ≤ b then some (.int k (k.wrap (a * 2 ^ (min b.toNat k.bits)))) else none
  | .shr => if 0 ≤ b then some (.int k (a.fdiv (2 ^ (min b.toNat k.bits)))) else none
  | _ => if k = k' then
    match op with
    | .add => some (.int k (k.wrap (a + b)))
    | .sub => some (.int k (k.wrap (a - b)))
    | .mul => some (.int k (k.wrap (a * b)))
    | .quo => if b = 0 then none else some (.int k (k.wrap (a.tdiv b)))
    | .rem => if b = 0 then none else some (.int k (a.tmod b))
    | .eql => some (.bool (a == b))
    | .neq => some (.bool (a != b))
    | .lss => some (.bool (decide (a < b)))
    | .leq => some (.bool (decide (a ≤ b)))
    | .gtr => some (.bool (decide (a > b)))
    | .geq => some (.bool (decide (a ≥ b)))
    | .and => some (.int k (k.wrap ((BitVec.ofInt k.bits a &&& BitVec.ofInt k.bits b).toNat : Nat)))
    | .or => some (.int k (k.wrap ((BitVec.ofInt k.bits a ||| BitVec.ofInt k.bits b).toNat : Nat)))
    | .xor => some (.int k (k.wrap ((BitVec.ofInt k.bits a ^^^ BitVec.ofInt k.bits b).toNat : Nat)))
    | .andNot => some (.int k (k.wrap ((BitVec.ofInt k.bits a &&& ~~~ BitVec.ofInt k.bits b).toNat : Nat)))
    | _ => none
    else none

def isEq : BinOp → Option Bool
  | .eql => some true
  | .neq => some false
  | _ => none

def aread (P : Program) (T : Tab) (ρ : Operand → Value) (o : Oper) (H : Heap) : Option Value :=
  match o.op with
  | .move x => some (ρ x)
  | .assign x => some (ρ x)
  | .pick c a b => match ρ c with
    | .bool t => some (bif t then ρ a else ρ b)
    | _ => none
  | .load t a => match ρ a, T.ty t with
    | .pointer (some ⟨b, o, none⟩), some i => loadC H i b o
    | _, _ => none
  | .nilCheck x => match ρ x with
    | .pointer (some a) => some (.pointer (some a))
    | .func (.func f) fi ca => some (.func (.func f) fi ca)
    | .func (.yield f) fi ca => some (.func (.yield f) fi ca)
    | .iface t v => some (.iface t v)
    | _ => none
  | .fieldAddr s x f => match T.ty s with
    | some ⟨.struct _, _, _, _, _, fields⟩ => match fields[f]? with
      | some (off, sz) => bif Nat.beq sz 0 then none else addOff off (ρ x)
      | none => none
    | _ => none
  | .field t x f => match T.ty t, ρ x with
    | some ⟨.struct fs, _, _, _, _, _⟩, .agg cs => match fs[f]? with
      | some fd => match T.ty fd.type with
        | some i => partC i cs.toList fd.offset
        | none => none
      | none => none
    | _, _ => none
  | .indexAddr t x ix => match T.ty t, ρ x, ρ ix with
    | some ⟨.slice e, _, _, _, _, _⟩, .slice (some ⟨b, o, none⟩) len _, .int _ n => match T.ty e with
      | some i => if 0 ≤ n ∧ n < len then some (.pointer (some ⟨b, o + n.toNat * i.size, none⟩)) else none
      | none => none
    | some ⟨.array len e, _, _, _, _, _⟩, .pointer (some ⟨b, o, none⟩), .int _ n => match T.ty e with
      | some i => if 0 ≤ n ∧ n < len then some (.pointer (some ⟨b, o + n.toNat * i.size, none⟩)) else none
      | none => none
    | _, _, _ => none
  | .index t x ix => match T.ty t, ρ x, ρ ix with
    | some ⟨.array len e, _, _, _, _, _⟩, .agg cs, .int _ n => match T.ty e with
      | some i => if 0 ≤ n ∧ n < len then partC i cs.toList (n.toNat * i.size) else none
      | none => none
    | some ⟨.string, _, _, _, _, _⟩, .string s, .int _ n => if 0 ≤ n then match s.data.toList[n.toNat]? with
        | some b => some (.int .u8 b.toNat)
        | none => none
      else none
    | _, _, _ => none
  | .build t parts => fillBuild T t (parts.toList.map fun p => (p.1, ρ p.2))
  | .binOp op t x y _ => match ρ x, ρ y with
    | .int k a, .int k' b => intOp op k a k' b
    | vx, vy => match isEq op with
      | some s => match eqC T t vx vy with
        | some b => some (.bool (b == s))
        | none => flatRun P ρ o
      | none => flatRun P ρ o
  | .convert src dst x => match descOf T src, descOf T dst, ρ x with
    | some (.slice e), some .string, .slice a n c => match descOf T e with
      | some (.int .u8) => match a with
        | none => if n = 0 ∧ c = 0 then some (.string .empty) else none
        | some _ => match headCells H n (.slice a n c) with
          | some l => (bytesOf? l).map fun bs => .string ⟨bs.toArray⟩
          | none => none
      | _ => none
    | some _, some (.int k), .int _ n => some (.int k (k.wrap n))
    | _, _, _ => flatRun P ρ o
  | .makeInterface t x => match descOf T t with
    | some (.interface _) => none
    | some _ => some (.iface t (ρ x))
    | none => none
  | .makeFunc fn first captured => match fn with
    | .func f => some (.func (.func f) (first.map ρ) (captured.map ρ))
    | _ => none
  | .slice t x lo hi mx => sliceC T H t (ρ x) (lo.map ρ) (hi.map ρ) (mx.map ρ)
  | .lookup t x k ok => lookupC T H t (ρ x) (ρ k) ok
  | .extract t i => match ρ t with
    | .tuple vs => vs.toList[i]?
    | _ => none
  | .typeAssert x _ t ok => match descOf T t, ρ x with
    | some (.interface _), _ => none
    | some _, .iface t' v => if t' = t then some (if ok then .tuple #[v, .bool true] else v) else none
    | _, _ => none
  | .call c => match c.callee, c.argTypes[0]?, c.args[0]? with
    | .builtin .len, some t, some x => lenC T H t (ρ x)
    | .builtin .cap, some t, some x => match descOf T t, ρ x with
      | some (.slice _), .slice none 0 0 => some (goInt 0)
      | some (.array n _), _ => some (goInt n)
      | _, _ => none
    | .builtin .min, _, _ => flatRun P ρ o
    | .builtin .max, _, _ => flatRun P ρ o
    | _, _, _ => none
  | .unOp op _ x => match op, ρ x with
    | .not, .bool b => some (.bool (!b))
    | _, _ => flatRun P ρ o
  | _ => none

/-! ### What makes a block -/
def aalloc (T : Tab) (ρ : Operand → Value) (o : Oper) : Option (AObj × (Nat → Value)) :=
  match o.op with
  | .alloc t => match T.ty t with
    | some ⟨_, sz, _, some z, _, _⟩ => if z.cells.toList.all oneCell = true then some (.cells true sz z.cells.toList, fun b => .pointer (some ⟨b, 0, none⟩)) else none
    | _ => none
  | .box t x => if (ρ x).cells.toList.all oneCell = true then
      match T.ty t with
      | some i => some (.cells true i.size (ρ x).cells.toList, fun b => .pointer (some ⟨b, 0, none⟩))
      | none => none
    else none
  | .buildSlice t len parts => match T.ty t with
    | some ⟨.slice e, _, _, _, _, _⟩ => match T.ty e with
      | some i => if len * i.size ≤ 16777216 then
          match i.zero with
          | some z => if z.cells.toList.length = i.size then
              match fillL (fun k => some (k * i.size, i.size)) (rep z.cells.toList len) (parts.toList.map fun p => (p.1, ρ p.2)) with
              | some cs => if cs.all oneCell = true then some (.cells true i.size cs, fun b => .slice (some ⟨b, 0, none⟩) len len) else none
              | none => none
            else none
          | none => none
        else none
      | none => none
    | _ => none
  | .makeSlice t l c => match T.ty t, ρ l, ρ c with
    | some ⟨.slice e, _, _, _, _, _⟩, .int _ l, .int _ c => match T.ty e with
      | some i => match i.zero with
        | some z => if 0 ≤ l ∧ l ≤ c ∧ c * i.bytes ≤ 140737488355328 ∧ c < 9223372036854775808 ∧ z.cells.toList.length = i.size ∧ z.cells.toList.all oneCell = true then
            some (.cells true i.size (rep z.cells.toList c.toNat), fun b => .slice (some ⟨b, 0, none⟩) l.toNat c.toNat) else none
        | none => none
      | none => none
    | _, _, _ => none
  | .makeMap t r => match descOf T t, r.map ρ with
    | some (.map _ _), none => some (.map [] 0, fun b => .map (some b))
    | some (.map _ _), some (.int _ _) => some (.map [] 0, fun b => .map (some b))
    | _, _ => none
  | .range t x => match descOf T t, ρ x with
    | some .string, .string s => some (.iter s 0, fun b => .pointer (some ⟨b, 0, none⟩))
    | _, _ => none
  | _ => none

/-! ### Effects -/
def fnOf (T : Tab) (f : Value) (args : Array Value) : Option Out :=
  match f with
  | .func (.func g) first captured => match T.fn g with
    | some fn => bif fn.body.isSome then some (.call g (first ++ args ++ captured)) else none
    | none => none
  | .func (.yield l) first _ => some (.round l (first ++ args))
  | _ => none

def dfrOf (f : Value) (args : Array Value) : Option Out :=
  match f with
  | .func (.func g) first captured => some (.dfr { target := .fn (.func g) captured, args := first ++ args })
  | _ => none

def aeff (T : Tab) (ρ : Operand → Value) (o : Oper) (H : Heap) : Option Out :=
  match o.op with
  | .store t a v => match ρ a, T.ty t with
    | .pointer (some ⟨b, o, none⟩), some i => (storeC H i b o (ρ v)).map fun H => .val undef H
    | _, _ => none
  | .mapUpdate t m k v => (updateC T H t (ρ m) (ρ k) (ρ v)).map fun H => .val undef H
  | .insert t m k v => (updateC T H t (ρ m) (ρ k) (ρ v)).map fun H => .val undef H
  | .next it isString => match ρ it, isString with
    | .pointer (some ⟨b, 0, none⟩), true => match H.get b with
      | .iter s pos =>
        if pos < s.size then some (.val (.tuple #[.bool true, goInt pos, .int .i32 (Utf8.decode s pos).1]) (H.put b (.iter s (pos + (Utf8.decode s pos).2))))
        else some (.val (.tuple #[.bool false]) H)
      | _ => none
    | _, _ => none
  | .convert src dst x => match descOf T src, descOf T dst, ρ x with
    | some .string, some (.slice e), .string s => match descOf T e, T.ty e with
      | some (.int .u8), some i => if i.size = 1 ∧ s.size < 9223372036854775807 then some (.val (.slice (some ⟨H.next, 0, none⟩) s.size s.size) (H.push (.cells true 1 (s.data.toList.map fun b => .int .u8 b.toNat)))) else none
      | _, _ => none
    | _, _, _ => none
  | .call c => match c.callee with
    | .value f => fnOf T (ρ f) (c.args.map ρ)
    | .builtin .append => match c.args.toList with
      | [s, x] => appendC T H c.argTypes (ρ s) (ρ x)
      | _ => none
    | .builtin .copy => match c.args.toList with
      | [s, x] => copyC T H c.argTypes (ρ s) (ρ x)
      | _ => none
    | .builtin .delete => match c.args.toList, c.argTypes[0]? with
      | [m, k], some t => (deleteC T H t (ρ m) (ρ k)).map fun H => .val (.tuple #[]) H
      | _, _ => none
    | .builtin .panic => match c.args.toList with
      | [x] => match ρ x with
        | .iface t v => some (.pan (.iface t v))
        | _ => none
      | _ => none
    | _ => none
  | .defer c => match c.callee with
    | .value f => dfrOf (ρ f) (c.args.map ρ)
    | _ => none
  | .panic x => match ρ x with
    | .iface t v => some (.pan (.iface t v))
    | _ => none
  | _ => none

def aop (P : Program) (T : Tab) (ρ : Operand → Value) (o : Oper) (H : Heap) : Option Out :=
  match kindOf T o.op with
  | .read => (aread P T ρ o H).map fun v => .val v H
  | .alloc => (aalloc T ρ o).map fun p => .val (p.2 H.next) (H.push p.1)
  | .eff => aeff T ρ o H

/-! ### Calls -/
inductive Ret where
  | ret (v : Value)
  | pan (ch : List PanicEntry)

abbrev Rec := Code → St → Option (Exit × St)

def initTm : Nat → List Value → Tr Value → Tr Value
  | _, [], t => t
  | k, v :: vs, t => initTm (k + 1) vs (t.set 9 k v)

def resultsC (T : Tab) (tm : Tr Value) (H : Heap) : List ResultVar → Option (List Value)
  | [] => some []
  | .tmp t :: rs => (resultsC T tm H rs).map fun l => evalT tm (.tmp t) :: l
  | .cell a t :: rs => match evalT tm (.tmp a), T.ty t with
    | .pointer (some ⟨b, o, none⟩), some i => match loadC H i b o, resultsC T tm H rs with
      | some v, some l => some (v :: l)
      | _, _ => none
    | _, _ => none

def retOf : List Value → Value
  | [v] => v
  | l => .tuple l.toArray

/-- a function's body, up to its end -/
def bodyF (T : Tab) (rec : Rec) (f : FuncId) (args : Array Value) (H : Heap) : Option (Func × Exit × St) :=
  match T.fn f with
  | none => none
  | some fn => match fn.body with
    | none => none
    | some c => match rec c { tm := initTm 0 args.toList .e, sz := Nat.max args.size fn.ntmps, defers := [], rd := false, heap := H } with
      | some (e, st) => some (fn, e, st)
      | none => none

/-- a deferred call: no deferred calls of its own, no panic -/
def deferF (T : Tab) (rec : Rec) (f : FuncId) (args : Array Value) (H : Heap) : Option Heap :=
  match bodyF T rec f args H with
  | some (fn, e, st) =>
    match e with
    | .normal | .ret => match st.defers with
      | [] => match resultsC T st.tm st.heap fn.results.toList with
        | some _ => some st.heap
        | none => none
      | _ => none
    | _ => none
  | none => none

def leaveF (T : Tab) (rec : Rec) : List Deferred → Heap → Option Heap
  | [], H => some H
  | d :: ds, H => match d.target with
    | .collected r => match H.get r with
      | .defr true => leaveF T rec ds (H.put r (.defr false))
      | _ => none
    | .fn (.func f) cap => match deferF T rec f (d.args ++ cap) H with
      | some H' => leaveF T rec ds H'
      | none => none
    | _ => none

def callF (T : Tab) (rec : Rec) (f : FuncId) (args : Array Value) (H : Heap) : Option (Ret × Heap) :=
  match bodyF T rec f args H with
  | some (fn, e, st) =>
    match e with
    | .normal | .ret => match leaveF T rec st.defers st.heap with
      | some H' => match resultsC T st.tm H' fn.results.toList with
        | some l => some (.ret (retOf l), H')
        | none => none
      | none => none
    | .panic ch => match st.defers with
      | [] => some (.pan ch, st.heap)
      | _ => none
    | _ => none
  | none => none

def setTms (tm : Tr Value) (sz : Nat) : List (Tmp × Value) → Option (Tr Value)
  | [] => some tm
  | p :: r => bif Nat.blt p.1 sz then setTms (tm.set 9 p.1 p.2) sz r else none

def jumpOf : Exit → Option (Option Code)
  | .normal => some none
  | .ret => some (some .ret)
  | .exit id => some (some (.exit id))
  | _ => none

/-- a round of a range over a function -/
def roundF (rec : Rec) (l : Nat) (args : Array Value) (H : Heap) : Option (Value × Heap) :=
  match H.get l with
  | .loop .ready pd fn tm sz ps as body df =>
    if args.size = ps.size then
      match setTms tm sz (ps.toList.zip args.toList) with
      | none => none
      | some tm' =>
      match rec as { tm := tm', sz := sz, defers := [], rd := true, heap := H } with
      | some (.normal, st1) =>
        match st1.defers, st1.heap.get l with
        | [], .loop .ready pd1 fn1 tm1 sz1 ps1 as1 body1 df1 =>
          match rec body { st1 with heap := st1.heap.put l (.loop .busy pd1 fn1 tm1 sz1 ps1 as1 body1 df1) } with
          | some (e, st2) =>
            match jumpOf e, st2.defers, st2.heap.get l with
            | some j, [], .loop _ _ fn2 tm2 sz2 ps2 as2 body2 df2 =>
              some (.bool j.isNone, st2.heap.put l (.loop (if j.isNone then .ready else .done) j fn2 tm2 sz2 ps2 as2 body2 df2))
            | _, _, _ => none
          | none => none
        | _, _ => none
      | _ => none
    else none
  | _ => none

/-! ### Regions -/
def dstOk (sz : Nat) : Option Tmp → Bool
  | none => true
  | some d => Nat.blt d sz

def wantedC (ops : Array Oper) (tm : Tr Value) (o : Oper) : Bool :=
  match o.guard with
  | none => true
  | some g => match (ops[g.1]?).bind (·.dst) with
    | some d => match evalT tm (.tmp d) with
      | .bool b => b == g.2
      | _ => false
    | none => false

def seqOps (P : Program) (T : Tab) (rec : Rec) (ops : Array Oper) : List Oper → St → Option (Exit × St)
  | [], st => some (.normal, st)
  | o :: rest, st =>
    bif dstOk st.sz o.dst then
      bif wantedC ops st.tm o then
        match aop P T (evalT st.tm) o st.heap with
        | some (.val v H) => seqOps P T rec ops rest { st with tm := putT st.tm o.dst v, heap := H }
        | some (.call f args) => match callF T rec f args st.heap with
          | some (.ret v, H) => seqOps P T rec ops rest { st with tm := putT st.tm o.dst v, heap := H }
          | some (.pan ch, H) => some (.panic ch, { st with heap := H })
          | none => none
        | some (.round l args) => match roundF rec l args st.heap with
          | some (v, H) => seqOps P T rec ops rest { st with tm := putT st.tm o.dst v, heap := H }
          | none => none
        | some (.dfr d) => bif st.rd then none else seqOps P T rec ops rest { st with tm := putT st.tm o.dst undef, defers := d :: st.defers }
        | some (.pan v) => some (.panic [{ v, recovered := false }], st)
        | none => none
      else seqOps P T rec ops rest { st with tm := putT st.tm o.dst undef }
    else none

end Go.Ab
end
section
namespace Go.Ab

/-! ### Equality of values -/
mutual
def veq : Value → Value → Bool
  | .bool a, .bool b => a == b
  | .int j a, .int k b => decide (j = k) && decide (a = b)
  | .float j a, .float k b => decide (j = k) && Nat.beq a b
  | .complex j a c, .complex k b d => decide (j = k) && Nat.beq a b && Nat.beq c d
  | .string a, .string b => decide (a.data.toList = b.data.toList)
  | .pointer a, .pointer b => decide (a = b)
  | .slice a n c, .slice b m d => decide (a = b) && Nat.beq n m && Nat.beq c d
  | .map a, .map b => decide (a = b)
  | .chan a, .chan b => decide (a = b)
  | .func f a c, .func g b d => decide (f = g) && veqA a b && veqA c d
  | .nilFunc, .nilFunc => true
  | .iface t v, .iface u w => Nat.beq t u && veq v w
  | .nilIface, .nilIface => true
  | .agg a, .agg b => veqA a b
  | .tuple a, .tuple b => veqA a b
  | _, _ => false
def veqA : Array Value → Array Value → Bool
  | ⟨a⟩, ⟨b⟩ => veqL a b
def veqL : List Value → List Value → Bool
  | [], [] => true
  | a :: l, b :: m => veq a b && veqL l m
  | _, _ => false
end

theorem beq_iff (a b : Nat) : Nat.beq a b = true ↔ a = b := by rw [Tr.beq_eq]; simp

theorem bytes_ext {a b : ByteArray} (h : a.data.toList = b.data.toList) : a = b := by
  cases a; cases b; simp only at h; congr 1; exact Array.ext' h

mutual
theorem veq_eq : ∀ (a b : Value), veq a b = true → a = b
  | .bool a, b, h => by cases b <;> simp_all [veq]
  | .int j a, b, h => by cases b <;> simp_all [veq]
  | .float j a, b, h => by cases b <;> simp_all [veq, beq_iff]
  | .complex j a c, b, h => by cases b <;> simp_all [veq, beq_iff]
  | .string a, b, h => by
    cases b <;> simp only [veq, decide_eq_true_eq, Bool.false_eq_true] at h
    exact congrArg _ (bytes_ext h)
  | .pointer a, b, h => by cases b <;> simp_all [veq]
  | .slice a n c, b, h => by cases b <;> simp_all [veq, beq_iff]
  | .map a, b, h => by cases b <;> simp_all [veq]
  | .chan a, b, h => by cases b <;> simp_all [veq]
  | .func f a c, b, h => by
    cases b <;> simp [veq] at h
    rw [h.1.1, veqA_eq _ _ h.1.2, veqA_eq _ _ h.2]
  | .nilFunc, b, h => by cases b <;> simp_all [veq]
  | .iface t v, b, h => by
    cases b <;> simp [veq, beq_iff] at h
    rw [h.1, veq_eq _ _ h.2]
  | .nilIface, b, h => by cases b <;> simp_all [veq]
  | .agg a, b, h => by
    cases b <;> simp [veq] at h
    rw [veqA_eq _ _ h]
  | .tuple a, b, h => by
    cases b <;> simp [veq] at h
    rw [veqA_eq _ _ h]
theorem veqA_eq : ∀ (a b : Array Value), veqA a b = true → a = b
  | ⟨a⟩, ⟨b⟩, h => by simp only [veqA] at h; rw [veqL_eq _ _ h]
theorem veqL_eq : ∀ (a b : List Value), veqL a b = true → a = b
  | [], [], _ => rfl
  | a :: l, b :: m, h => by
    simp only [veqL, Bool.and_eq_true] at h
    rw [veq_eq _ _ h.1, veqL_eq _ _ h.2]
  | [], _ :: _, h => by simp [veqL] at h
  | _ :: _, [], h => by simp [veqL] at h
end

mutual
theorem veq_self : ∀ (a : Value), veq a a = true
  | .bool a => by simp [veq]
  | .int j a => by simp [veq]
  | .float j a => by simp [veq, beq_iff]
  | .complex j a c => by simp [veq, beq_iff]
  | .string a => by simp [veq]
  | .pointer a => by simp [veq]
  | .slice a n c => by simp [veq, beq_iff]
  | .map a => by simp [veq]
  | .chan a => by simp [veq]
  | .func f a c => by simp [veq, veqA_self]
  | .nilFunc => by simp [veq]
  | .iface t v => by simp [veq, beq_iff, veq_self v]
  | .nilIface => by simp [veq]
  | .agg a => by simp [veq, veqA_self]
  | .tuple a => by simp [veq, veqA_self]
theorem veqA_self : ∀ (a : Array Value), veqA a a = true
  | ⟨a⟩ => by simp only [veqA, veqL_self a]
theorem veqL_self : ∀ (a : List Value), veqL a a = true
  | [] => rfl
  | a :: l => by simp [veqL, veq_self a, veqL_self l]
end

/-! ### Regions that draw their order -/
def tmpOf : Operand → List Tmp
  | .tmp t => [t]
  | _ => []

/-- what an operation reads of the frame: its operands; its guard's test -/
def readsT (ops : Array Oper) (o : Oper) : List Tmp :=
  o.op.operands.toList.flatMap tmpOf ++ match o.guard with
    | none => []
    | some g => ((ops[g.1]?).bind (·.dst)).toList

def bit (m i : Nat) : Bool := Nat.testBit m i

/-- a rank that all edges lower -/
def rankOk (m : Region.Mode) (r : Nat → Nat) (ops : Array Oper) : Bool :=
  (List.range ops.size).all fun i =>
    match ops[i]? with
    | none => false
    | some o => o.after.toList.all fun e => !Region.binds m e || (Nat.blt e.on ops.size && Nat.blt (r e.on) (r i))

def orderOK (ops : Array Oper) : Bool :=
  rankOk .text (fun i => i) ops && (rankOk .gc (fun i => i) ops || rankOk .gc (fun i => (Region.linearise .gc ops 0).idxOf i) ops)

/-- of two operations that touch one temporary, one is ahead of the other; a guard is ahead -/
def tmpOK (ops : Array Oper) (B : Array Nat) : Bool :=
  (List.range ops.size).all fun j =>
    match ops[j]? with
    | none => false
    | some oj =>
      (List.range j).all fun i =>
        match ops[i]? with
        | none => false
        | some oi => bit (B.getD j 0) i ||
          ((match oi.dst with
            | none => true
            | some d => !(readsT ops oj).contains d && !(match oj.dst with | some d' => Nat.beq d d' | none => false)) &&
           (match oj.dst with
            | none => true
            | some d => !(readsT ops oi).contains d))

structure DS where
  i : Nat
  tm : Tr Value
  G : Heap
  inc : Nat
  effs : Nat
  hist : List (Heap × Nat × Nat)
  objs : List (Nat × AObj)
  rds : List (Nat × Tr Value × Oper × Value)

/-- a stage's heap with the new blocks of a set of operations that it has not taken in yet -/
def withA (G : Heap) (inc base msk : Nat) : List (Nat × AObj) → Heap
  | [] => G
  | p :: r => bif bit msk p.1 && !bit inc p.1 then (withA G inc base msk r).put (base + p.1) p.2 else withA G inc base msk r

def same? (v : Value) : Option Value → Bool
  | some u => veq u v
  | none => false

/-- is a read the same in all earlier stages in which it may come up? -/
def stillBack (P : Program) (T : Tab) (ρ : Operand → Value) (o : Oper) (v : Value) (base msk effs : Nat) (objs : List (Nat × AObj)) : List (Heap × Nat × Nat) → Bool
  | [] => true
  | s :: r => (!Nat.beq ((msk &&& effs) &&& s.2.2) (msk &&& effs) || same? v (aread P T ρ o (withA s.1 s.2.1 base msk objs))) && stillBack P T ρ o v base msk effs objs r

def stillOn (P : Program) (T : Tab) (B : Array Nat) (G : Heap) (inc base bi : Nat) (objs : List (Nat × AObj)) : List (Nat × Tr Value × Oper × Value) → Bool
  | [] => true
  | r :: rs => (bit bi r.1 || same? r.2.2.2 (aread P T (evalT r.2.1) r.2.2.1 (withA G inc base (B.getD r.1 0) objs))) && stillOn P T B G inc base bi objs rs

/-- an effect within a region that draws its order -/
def effR (T : Tab) (rec : Rec) (ρ : Operand → Value) (o : Oper) (H : Heap) : Option (Ret × Heap) :=
  match aeff T ρ o H with
  | some (.val v H) => some (.ret v, H)
  | some (.call f args) => callF T rec f args H
  | some (.round l args) => (roundF rec l args H).map fun p => (.ret p.1, p.2)
  | _ => none

def drawOps (P : Program) (T : Tab) (rec : Rec) (ops : Array Oper) (B : Array Nat) (sz base : Nat) : List Oper → DS → Option DS
  | [], s => some s
  | o :: rest, s =>
    let bi := B.getD s.i 0
    bif dstOk sz o.dst then
      bif wantedC ops s.tm o then
        match kindOf T o.op with
        | .read =>
          match aread P T (evalT s.tm) o (withA s.G s.inc base bi s.objs) with
          | none => none
          | some v =>
            bif stillBack P T (evalT s.tm) o v base bi s.effs s.objs s.hist then
              drawOps P T rec ops B sz base rest { s with i := s.i + 1, tm := putT s.tm o.dst v, rds := (s.i, s.tm, o, v) :: s.rds }
            else none
        | .alloc =>
          match aalloc T (evalT s.tm) o with
          | none => none
          | some p => drawOps P T rec ops B sz base rest { s with i := s.i + 1, tm := putT s.tm o.dst (p.2 (base + s.i)), objs := (s.i, p.1) :: s.objs }
        | .eff =>
          bif Nat.beq (s.effs &&& bi) s.effs then
            let G0 := withA s.G s.inc base bi s.objs
            match effR T rec (evalT s.tm) o G0 with
            | some (.ret v, H) =>
              bif stillOn P T B H (s.inc ||| bi) base bi s.objs s.rds then
                drawOps P T rec ops B sz base rest { s with i := s.i + 1, tm := putT s.tm o.dst v, G := H, inc := s.inc ||| bi, effs := s.effs ||| 2 ^ s.i, hist := (s.G, s.inc, s.effs) :: s.hist }
              else none
            | _ => none
          else none
      else drawOps P T rec ops B sz base rest { s with i := s.i + 1, tm := putT s.tm o.dst undef }
    else none

def drawR (P : Program) (T : Tab) (rec : Rec) (ops : Array Oper) (st : St) : Option (Exit × St) :=
  let B := Region.before ops
  bif tmpOK ops B && orderOK ops then
    match drawOps P T rec ops B st.sz st.heap.next ops.toList { i := 0, tm := st.tm, G := st.heap.skip ops.size, inc := 0, effs := 0, hist := [], objs := [], rds := [] } with
    | some s => some (.normal, { st with tm := s.tm, heap := withA s.G s.inc st.heap.next (2 ^ ops.size - 1) s.objs })
    | none => none
  else none

/-! ### Code -/
def notBusy : LoopState → Bool
  | .busy => false
  | _ => true
def afterLoop (rec : Rec) (j : Option Code) (st : St) : Option (Exit × St) :=
  match j with
  | none => some (.normal, st)
  | some c => rec c st

def rangeF (T : Tab) (rec : Rec) (g : Operand) (ps : Array Tmp) (as body : Code) (st : St) : Option (Exit × St) :=
  bif st.rd then none else
  let H1 := st.heap.push (.defr true)
  let l := H1.next
  let H2 := H1.push (.loop .ready none 0 st.tm st.sz ps as body st.heap.next)
  match evalT st.tm g with
  | .func (.func f) first captured =>
    match callF T rec f (first ++ #[.func (.yield l) #[] #[]] ++ captured) H2 with
    | some (.ret _, H3) =>
      match H3.get l with
      | .loop s j fn tm sz ps' as' body' df =>
        bif notBusy s then
          afterLoop rec j { st with defers := { target := .collected st.heap.next, args := #[] } :: st.defers, heap := H3.put l (.loop .exhausted j fn tm sz ps' as' body' df) }
        else none
      | _ => none
    | _ => none
  | _ => none

def stepCode (P : Program) (T : Tab) (rec : Rec) : Code → St → Option (Exit × St)
  | .skip, st => some (.normal, st)
  | .label _, st => some (.normal, st)
  | .region _ ops draw, st => bif draw then drawR P T rec ops st else seqOps P T rec ops ops.toList st
  | .seq a b, st => match rec a st with
    | some (.normal, st') => rec b st'
    | r => r
  | .cond c x y, st => match evalT st.tm c with
    | .bool b => bif b then rec x st else rec y st
    | _ => none
  | .block id c, st => match rec c st with
    | some (.exit i, st') => bif Nat.beq i id then some (.normal, st') else some (.exit i, st')
    | r => r
  | .loop c, st => match rec c st with
    | some (.normal, st') => rec (.loop c) st'
    | r => r
  | .exit id, st => some (.exit id, st)
  | .ret, st => some (.ret, st)
  | .rangeFunc g ps as body, st => rangeF T rec g ps as body st
  | _, _ => none

def run (P : Program) (T : Tab) : Nat → Code → St → Option (Exit × St)
  | 0, _, _ => none
  | n + 1, c, st => stepCode P T (run P T n) c st

/-- a function's call -/
def call (P : Program) (T : Tab) (n : Nat) (f : FuncId) (args : Array Value) (H : Heap) : Option (Ret × Heap) := callF T (run P T n) f args H

end Go.Ab
end
section
namespace Go.Ab

/-- where an abstract block lies: block, offset; cells an element; cells from there on -/
structure Tgt where
  cb : Nat
  off : Nat
  esz : Nat
  room : Nat

abbrev Inj := Nat → Option Tgt

def Inj.Le (μ μ' : Inj) : Prop := ∀ b t, μ b = some t → μ' b = some t
theorem Inj.Le.refl (μ : Inj) : μ.Le μ := fun _ _ h => h
theorem Inj.Le.trans {μ μ' μ'' : Inj} (h : μ.Le μ') (h' : μ'.Le μ'') : μ.Le μ'' := fun b t hb => h' b t (h b t hb)

def Inj.add (μ : Inj) (b : Nat) (t : Tgt) : Inj := fun j => if j = b then some t else μ j
theorem Inj.le_add {μ : Inj} {b : Nat} {t : Tgt} (h : μ b = none) : μ.Le (μ.add b t) := by
  intro j u hj
  unfold Inj.add
  split
  · rename_i e; subst e; rw [h] at hj; cases hj
  · exact hj
@[simp] theorem Inj.add_same (μ : Inj) (b : Nat) (t : Tgt) : μ.add b t b = some t := by simp [Inj.add]
theorem Inj.add_other {μ : Inj} {b j : Nat} {t : Tgt} (h : j ≠ b) : μ.add b t j = μ j := by simp [Inj.add, h]

mutual
inductive VRel (μ : Inj) : Value → Value → Prop where
  | bool (b : Bool) : VRel μ (.bool b) (.bool b)
  | int (k : IntKind) (n : Int) : VRel μ (.int k n) (.int k n)
  | float (k : FloatKind) (n : Nat) : VRel μ (.float k n) (.float k n)
  | complex (k : FloatKind) (a b : Nat) : VRel μ (.complex k a b) (.complex k a b)
  | string (s : ByteArray) : VRel μ (.string s) (.string s)
  | ptr0 : VRel μ (.pointer none) (.pointer none)
  | ptr (b o : Nat) (t : Tgt) (h : μ b = some t) : VRel μ (.pointer (some ⟨b, o, none⟩)) (.pointer (some ⟨t.cb, t.off + o, none⟩))
  | slice0 : VRel μ (.slice none 0 0) (.slice none 0 0)
  | sliceZ (a a' : Addr) : VRel μ (.slice (some a) 0 0) (.slice (some a') 0 0)
  | slice (b o : Nat) (t : Tgt) (len ca cc : Nat) (h : μ b = some t) (hl : len ≤ ca) (hc : ca ≤ cc) (hr : cc = ca ∨ o + cc * t.esz ≤ t.room) :
      VRel μ (.slice (some ⟨b, o, none⟩) len ca) (.slice (some ⟨t.cb, t.off + o, none⟩) len cc)
  | map0 : VRel μ (.map none) (.map none)
  | map (b : Nat) (t : Tgt) (h : μ b = some t) : VRel μ (.map (some b)) (.map (some t.cb))
  | func (f : FuncId) (a c a' c' : Array Value) (ha : VRels μ a.toList a'.toList) (hc : VRels μ c.toList c'.toList) : VRel μ (.func (.func f) a c) (.func (.func f) a' c')
  | yield (b : Nat) (t : Tgt) (h : μ b = some t) : VRel μ (.func (.yield b) #[] #[]) (.func (.yield t.cb) #[] #[])
  | nilFunc : VRel μ .nilFunc .nilFunc
  | iface (t : TypeId) (v v' : Value) (h : VRel μ v v') : VRel μ (.iface t v) (.iface t v')
  | nilIface : VRel μ .nilIface .nilIface
  | agg (a a' : Array Value) (h : VRels μ a.toList a'.toList) : VRel μ (.agg a) (.agg a')
  | tuple (a a' : Array Value) (h : VRels μ a.toList a'.toList) : VRel μ (.tuple a) (.tuple a')
inductive VRels (μ : Inj) : List Value → List Value → Prop where
  | nil : VRels μ [] []
  | cons (v v' : Value) (l l' : List Value) (h : VRel μ v v') (t : VRels μ l l') : VRels μ (v :: l) (v' :: l')
end

mutual
theorem VRel.mono {μ μ' : Inj} (hμ : μ.Le μ') : ∀ {v v' : Value}, VRel μ v v' → VRel μ' v v'
  | _, _, .bool b => .bool b
  | _, _, .int k n => .int k n
  | _, _, .float k n => .float k n
  | _, _, .complex k a b => .complex k a b
  | _, _, .string s => .string s
  | _, _, .ptr0 => .ptr0
  | _, _, .ptr b o t h => .ptr b o t (hμ _ _ h)
  | _, _, .slice0 => .slice0
  | _, _, .sliceZ a a' => .sliceZ a a'
  | _, _, .slice b o t len ca cc h hl hc hr => .slice b o t len ca cc (hμ _ _ h) hl hc hr
  | _, _, .map0 => .map0
  | _, _, .map b t h => .map b t (hμ _ _ h)
  | _, _, .func f a c a' c' ha hc => .func f a c a' c' (ha.mono hμ) (hc.mono hμ)
  | _, _, .yield b t h => .yield b t (hμ _ _ h)
  | _, _, .nilFunc => .nilFunc
  | _, _, .iface t v v' h => .iface t v v' (h.mono hμ)
  | _, _, .nilIface => .nilIface
  | _, _, .agg a a' h => .agg a a' (h.mono hμ)
  | _, _, .tuple a a' h => .tuple a a' (h.mono hμ)
theorem VRels.mono {μ μ' : Inj} (hμ : μ.Le μ') : ∀ {l l' : List Value}, VRels μ l l' → VRels μ' l l'
  | _, _, .nil => .nil
  | _, _, .cons v v' l l' h t => .cons v v' l l' (h.mono hμ) (t.mono hμ)
end

namespace VRels
variable {μ : Inj}
theorem length : ∀ {l l' : List Value}, VRels μ l l' → l.length = l'.length
  | _, _, .nil => rfl
  | _, _, .cons _ _ _ _ _ t => by simp [t.length]
theorem get : ∀ {l l' : List Value}, VRels μ l l' → ∀ (i : Nat) (v : Value), l[i]? = some v → ∃ v', l'[i]? = some v' ∧ VRel μ v v'
  | _, _, .nil, i, v, h => by simp at h
  | _, _, .cons v₀ v₀' l l' h₀ t, 0, v, h => by simp at h; subst h; exact ⟨v₀', by simp, h₀⟩
  | _, _, .cons v₀ v₀' l l' h₀ t, i + 1, v, h => by simp at h; simpa using t.get i v h
theorem of_get : ∀ {l l' : List Value}, l.length = l'.length → (∀ (i : Nat) (v v' : Value), l[i]? = some v → l'[i]? = some v' → VRel μ v v') → VRels μ l l'
  | [], [], _, _ => .nil
  | v :: l, v' :: l', hl, h => .cons v v' l l' (h 0 v v' (by simp) (by simp)) (of_get (by simpa using hl) fun i u u' h1 h2 => h (i + 1) u u' (by simpa using h1) (by simpa using h2))
  | [], _ :: _, hl, _ => by simp at hl
  | _ :: _, [], hl, _ => by simp at hl
theorem append : ∀ {l l' m m' : List Value}, VRels μ l l' → VRels μ m m' → VRels μ (l ++ m) (l' ++ m')
  | _, _, _, _, .nil, h => h
  | _, _, _, _, .cons v v' l l' h₀ t, h => .cons v v' _ _ h₀ (t.append h)
theorem set {l l' : List Value} (h : VRels μ l l') {v v' : Value} (hv : VRel μ v v') (i : Nat) : VRels μ (l.set i v) (l'.set i v') := by
  induction h using VRels.rec (motive_1 := fun _ _ _ => True) generalizing i with
  | nil => exact .nil
  | cons a a' l l' h t _ ih =>
    cases i with
    | zero => exact .cons _ _ _ _ hv t
    | succ i => exact .cons _ _ _ _ h (ih i)
  | _ => trivial
theorem setSeg : ∀ {vs vs' : List Value}, VRels μ vs vs' → ∀ {l l' : List Value}, VRels μ l l' → ∀ (i : Nat), VRels μ (Ab.setSeg l i vs) (Ab.setSeg l' i vs')
  | _, _, .nil, _, _, h, _ => h
  | _, _, .cons v v' vs vs' hv t, _, _, h, i => by simp only [Ab.setSeg]; exact t.setSeg (h.set hv i) (i + 1)
theorem take : ∀ {l l' : List Value}, VRels μ l l' → ∀ (n : Nat), VRels μ (l.take n) (l'.take n)
  | _, _, .nil, n => by simp; exact .nil
  | _, _, .cons v v' l l' h t, 0 => by simp; exact .nil
  | _, _, .cons v v' l l' h t, n + 1 => by simp; exact .cons _ _ _ _ h (t.take n)
theorem drop : ∀ {l l' : List Value}, VRels μ l l' → ∀ (n : Nat), VRels μ (l.drop n) (l'.drop n)
  | _, _, .nil, n => by simp; exact .nil
  | _, _, .cons v v' l l' h t, 0 => by simp; exact .cons _ _ _ _ h t
  | _, _, .cons v v' l l' h t, n + 1 => by simp; exact t.drop n
theorem map_mem {α : Type} {f g : α → Value} : ∀ {l : List α}, (∀ x ∈ l, VRel μ (f x) (g x)) → VRels μ (l.map f) (l.map g)
  | [], _ => .nil
  | x :: l, h => .cons _ _ _ _ (h x (by simp)) (map_mem fun y hy => h y (by simp [hy]))
theorem rep {l l' : List Value} (h : VRels μ l l') : ∀ n, VRels μ (Ab.rep l n) (Ab.rep l' n)
  | 0 => .nil
  | n + 1 => h.append (h.rep n)
end VRels

theorem length_setSeg : ∀ (vs c : List Value) (i : Nat), (setSeg c i vs).length = c.length
  | [], _, _ => rfl
  | _ :: vs, c, i => by simp [setSeg, length_setSeg vs]

theorem get_setSeg : ∀ (vs c : List Value) (i j : Nat), i + vs.length ≤ c.length → (setSeg c i vs)[j]? = if i ≤ j ∧ j < i + vs.length then vs[j - i]? else c[j]?
  | [], c, i, j, _ => by simp [setSeg]; omega
  | v :: vs, c, i, j, h => by
    simp only [setSeg]
    rw [get_setSeg vs (c.set i v) (i + 1) j (by simp at h ⊢; omega)]
    simp only [List.length_cons] at h ⊢
    by_cases h1 : i + 1 ≤ j ∧ j < i + 1 + vs.length
    · have : j - i = (j - (i + 1)) + 1 := by omega
      rw [if_pos h1, if_pos (by omega), this]; simp
    · rw [if_neg h1]
      by_cases h2 : j = i
      · rw [if_pos (by omega)]; subst h2; simp [List.getElem?_set]; omega
      · rw [if_neg (by omega)]; rw [List.getElem?_set_ne (fun e => h2 e.symm)]

theorem length_rep {α : Type} (l : List α) : ∀ n, (rep l n).length = n * l.length
  | 0 => by simp [rep]
  | n + 1 => by simp [rep, length_rep l n, Nat.succ_mul, Nat.add_comm]

/-! ### flat values -/
theorem VRel.flat1_eq {μ : Inj} {v v' : Value} (hf : flat1 v = true) (h : VRel μ v v') : v' = v := by
  cases h <;> first | rfl | (simp [flat1] at hf; done) | skip
  case iface t v v' h =>
    cases h <;> first | rfl | (simp [flat1] at hf; done)
theorem flat1_refl {μ : Inj} {v : Value} (hf : flat1 v = true) : VRel μ v v := by
  cases v <;> first | (simp [flat1] at hf; done) | constructor | skip
  case pointer a => cases a <;> first | constructor | simp [flat1] at hf
  case slice a n c =>
    cases a with
    | some a => simp [flat1] at hf
    | none => cases n <;> cases c <;> first | constructor | simp [flat1] at hf
  case map a => cases a <;> first | constructor | simp [flat1] at hf
  case iface t v => cases v <;> first | (simp [flat1] at hf; done) | exact .bool _ | exact .int _ _ | exact .string _
theorem VRels.flat1_eq {μ : Inj} : ∀ {l l' : List Value}, VRels μ l l' → l.all flat1 = true → l' = l
  | _, _, .nil, _ => rfl
  | _, _, .cons v v' l l' h t, hf => by
    simp only [List.all_cons, Bool.and_eq_true] at hf
    rw [h.flat1_eq hf.1, t.flat1_eq hf.2]
theorem flat1_refls {μ : Inj} : ∀ {l : List Value}, l.all flat1 = true → VRels μ l l
  | [], _ => .nil
  | v :: l, hf => by
    simp at hf
    exact .cons _ _ _ _ (flat1_refl hf.1) (flat1_refls (by simpa using hf.2))
theorem VRel.flat2_eq {μ : Inj} {v v' : Value} (hf : flat2 v = true) (h : VRel μ v v') : v' = v := by
  cases v <;> first | exact h.flat1_eq hf | skip
  case agg a =>
    cases h with
    | agg _ a' h =>
      have := h.flat1_eq hf
      exact congrArg _ (Array.ext' this)
theorem flat2_refl {μ : Inj} {v : Value} (hf : flat2 v = true) : VRel μ v v := by
  cases v <;> first | exact flat1_refl hf | skip
  case agg a => exact .agg _ _ (flat1_refls hf)
theorem VRels.flat2_eq {μ : Inj} : ∀ {l l' : List Value}, VRels μ l l' → l.all flat2 = true → l' = l
  | _, _, .nil, _ => rfl
  | _, _, .cons v v' l l' h t, hf => by
    simp only [List.all_cons, Bool.and_eq_true] at hf
    rw [h.flat2_eq hf.1, t.flat2_eq hf.2]
theorem flat2_refls {μ : Inj} : ∀ {l : List Value}, l.all flat2 = true → VRels μ l l
  | [], _ => .nil
  | v :: l, hf => by
    simp at hf
    exact .cons _ _ _ _ (flat2_refl hf.1) (flat2_refls (by simpa using hf.2))
theorem VRel.flat_eq {μ : Inj} {v v' : Value} (hf : flat v = true) (h : VRel μ v v') : v' = v := by
  cases v <;> first | exact h.flat2_eq hf | skip
  case tuple a =>
    cases h with
    | tuple _ a' h =>
      have := h.flat2_eq hf
      exact congrArg _ (Array.ext' this)
  case iface t v =>
    cases h with
    | iface _ _ v' h => rw [h.flat2_eq hf]
theorem flat_refl {μ : Inj} {v : Value} (hf : flat v = true) : VRel μ v v := by
  cases v <;> first | exact flat2_refl hf | skip
  case tuple a => exact .tuple _ _ (flat2_refls hf)
  case iface t v => exact .iface _ _ _ (flat2_refl hf)

/-! ### heaps and worlds -/
def owned : AObj → Bool
  | .dead => false
  | .cells own _ _ => own
  | _ => true

structure ERel (μ : Inj) (e e' : MapEntry) : Prop where
  key : VRel μ e.key e'.key
  val : VRel μ e.val e'.val
  born : e.born = e'.born

inductive ERels (μ : Inj) : List MapEntry → List MapEntry → Prop where
  | nil : ERels μ [] []
  | cons (e e' : MapEntry) (l l' : List MapEntry) (h : ERel μ e e') (t : ERels μ l l') : ERels μ (e :: l) (e' :: l')

theorem ERel.mono {μ μ' : Inj} (hμ : μ.Le μ') {e e' : MapEntry} (h : ERel μ e e') : ERel μ' e e' := ⟨h.key.mono hμ, h.val.mono hμ, h.born⟩
theorem ERels.mono {μ μ' : Inj} (hμ : μ.Le μ') {l l' : List MapEntry} (h : ERels μ l l') : ERels μ' l l' := by
  induction h with
  | nil => exact .nil
  | cons e e' l l' h t ih => exact .cons _ _ _ _ (h.mono hμ) ih

/-- a frame's temporaries -/
structure TmRel (μ : Inj) (tm : Tr Value) (sz : Nat) (a : Array Value) : Prop where
  size : a.size = sz
  val : ∀ t : Nat, VRel μ (evalT tm (.tmp t)) (a.getD t undef)

theorem TmRel.mono {μ μ' : Inj} (hμ : μ.Le μ') {tm : Tr Value} {sz : Nat} {a : Array Value} (h : TmRel μ tm sz a) : TmRel μ' tm sz a :=
  ⟨h.size, fun t => (h.val t).mono hμ⟩

def frozenIn (fr : Nat × Nat) (i : Nat) : Bool := fr.1 ≤ i && i < fr.2

def jumpOk : Option Code → Bool
  | none => true
  | some .ret => true
  | some (.exit _) => true
  | _ => false

/-- what an abstract object is -/
def ORel (ng : Nat) (μ : Inj) (t : Tgt) : AObj → Obj → Prop
  | .dead, _ => True
  | .cells own esz c, o => ∃ arr e fr, o = .cells arr e fr ∧ t.esz = esz ∧ t.off + t.room ≤ arr.size ∧ c.length ≤ t.room ∧
      (∀ i v, c[i]? = some v → ∃ v', arr[t.off + i]? = some v' ∧ VRel μ v v') ∧
      (own = true → ∀ i, i < arr.size → frozenIn fr i = false)
  | .map es cl, o => ∃ es', o = .map es' cl ∧ t.off = 0 ∧ ERels μ es es'.toList
  | .iter s p, o => o = .stringIter s p ∧ t.off = 0
  | .miter _ _ _ _, _ => False
  | .loop s j _ tm sz ps as body df, o => ∃ l : Loop, o = .loop l ∧ l.state = s ∧ l.pending = j ∧ TmRel μ tm sz l.tmps ∧ l.params = ps ∧ l.assign = as ∧ l.body = body ∧
      codeOk ng as = true ∧ codeOk ng body = true ∧ jumpOk j = true ∧ ∃ t', μ df = some t' ∧ l.defers = t'.cb
  | .defr b, o => o = .deferred (if b then some [] else none)

theorem ORel.mono {ng : Nat} {μ μ' : Inj} (hμ : μ.Le μ') {t : Tgt} {a : AObj} {o : Obj} (h : ORel ng μ t a o) : ORel ng μ' t a o := by
  cases a with
  | dead => trivial
  | cells own esz c =>
    obtain ⟨arr, e, fr, h1, h2, h3, h4, h5, h6⟩ := h
    exact ⟨arr, e, fr, h1, h2, h3, h4, fun i v hv => let ⟨v', a, b⟩ := h5 i v hv; ⟨v', a, b.mono hμ⟩, h6⟩
  | map es cl => obtain ⟨es', h1, h2, h3⟩ := h; exact ⟨es', h1, h2, h3.mono hμ⟩
  | iter s p => exact h
  | miter => exact h
  | loop s j fn tm sz ps as body df =>
    obtain ⟨l, h1, h2, h3, h4, h5, h6, h7, h8, h9, h10, t', h11, h12⟩ := h
    exact ⟨l, h1, h2, h3, h4.mono hμ, h5, h6, h7, h8, h9, h10, t', hμ _ _ h11, h12⟩
  | defr b => exact h

structure Rel (ng : Nat) (μ : Inj) (g : Nat → AObj) (w : World) : Prop where
  obj : ∀ b, g b ≠ .dead → ∃ t o, μ b = some t ∧ w.heap[t.cb]? = some o ∧ ORel ng μ t (g b) o
  inj : ∀ b b' t t', b ≠ b' → owned (g b) = true → g b' ≠ .dead → μ b = some t → μ b' = some t' → t.cb ≠ t'.cb
  glob : ∀ k, k < ng → ∃ t, μ k = some t ∧ t.cb = k ∧ t.off = 0

/-- does a block of the world belong to the abstract heap? -/
def Own (μ : Inj) (g : Nat → AObj) (k : Nat) : Prop := ∃ b t, owned (g b) = true ∧ μ b = some t ∧ t.cb = k

structure Same (w w' : World) : Prop where
  os : w'.os = w.os
  tape : w'.tape = w.tape
  output : w'.output = w.output

theorem Same.refl (w : World) : Same w w := ⟨rfl, rfl, rfl⟩
theorem Same.trans {w w' w'' : World} (h : Same w w') (h' : Same w' w'') : Same w w'' := ⟨h'.os.trans h.os, h'.tape.trans h.tape, h'.output.trans h.output⟩

/-- from one heap and world to later ones -/
structure Goes (ng : Nat) (μ : Inj) (g : Nat → AObj) (w : World) (μ' : Inj) (g' : Nat → AObj) (w' : World) : Prop where
  le : μ.Le μ'
  rel : Rel ng μ' g' w'
  size : w.heap.size ≤ w'.heap.size
  kept : ∀ k, k < w.heap.size → ¬ Own μ g k → w'.heap[k]? = w.heap[k]?
  own : ∀ k, k < w.heap.size → Own μ' g' k → Own μ g k
  ro : ∀ b, g' b ≠ .dead → owned (g' b) = false → g b = g' b
  same : Same w w'

theorem Goes.refl {ng : Nat} {μ : Inj} {g : Nat → AObj} {w : World} (h : Rel ng μ g w) : Goes ng μ g w μ g w :=
  ⟨.refl _, h, Nat.le_refl _, fun _ _ _ => rfl, fun _ _ h => h, fun _ _ _ => rfl, .refl _⟩
theorem Goes.trans {ng : Nat} {μ μ' μ'' : Inj} {g g' g'' : Nat → AObj} {w w' w'' : World} (h : Goes ng μ g w μ' g' w') (h' : Goes ng μ' g' w' μ'' g'' w'') :
    Goes ng μ g w μ'' g'' w'' :=
  ⟨h.le.trans h'.le, h'.rel, Nat.le_trans h.size h'.size,
   fun k hk hn => (h'.kept k (Nat.lt_of_lt_of_le hk h.size) fun ho => hn (h.own k hk ho)).trans (h.kept k hk hn),
   fun k hk ho => h.own k hk (h'.own k (Nat.lt_of_lt_of_le hk h.size) ho),
   fun b h1 h2 => by
     have e := h'.ro b h1 h2
     rw [← e] at h1 h2
     exact (h.ro b h1 h2).trans e, h.same.trans h'.same⟩

/-- a draw moves a count of the world alone -/
theorem Rel.drawn {ng : Nat} {μ : Inj} {g : Nat → AObj} {w w' : World} (h : Rel ng μ g w) (he : w'.heap = w.heap) : Rel ng μ g w' :=
  ⟨fun b hb => let ⟨t, o, a, c, d⟩ := h.obj b hb; ⟨t, o, a, by rw [he]; exact c, d⟩, h.inj, h.glob⟩

theorem Goes.drawn {ng : Nat} {μ : Inj} {g : Nat → AObj} {w w' : World} (h : Rel ng μ g w) (he : w'.heap = w.heap) (hs : Same w w') : Goes ng μ g w μ g w' :=
  ⟨.refl _, h.drawn he, by rw [he]; exact Nat.le_refl _, fun _ _ _ => by rw [he], fun _ _ h => h, fun _ _ _ => rfl, hs⟩

theorem Rel.lt {ng : Nat} {μ : Inj} {g : Nat → AObj} {w : World} (h : Rel ng μ g w) {b : Nat} {t : Tgt} (hb : g b ≠ .dead) (hm : μ b = some t) : t.cb < w.heap.size := by
  obtain ⟨t', o, h1, h2, _⟩ := h.obj b hb
  rw [hm] at h1
  cases h1
  exact (Array.getElem?_eq_some_iff.1 h2).1

/-- fewer blocks are related, too -/
theorem Rel.less {ng : Nat} {μ : Inj} {g g' : Nat → AObj} {w : World} (h : Rel ng μ g w) (hl : ∀ b, g' b = g b ∨ g' b = .dead) : Rel ng μ g' w := by
  have hd : ∀ b, g' b ≠ .dead → g' b = g b := fun b hb => (hl b).resolve_right hb
  refine ⟨fun b hb => ?_, fun b b' t t' hne ho hb' => ?_, h.glob⟩
  · have e := hd b hb
    rw [e] at hb ⊢; exact h.obj b hb
  · have h1 : g' b = g b := hd b fun e => by simp [e, owned] at ho
    rw [h1] at ho
    rw [hd b' hb'] at hb'
    exact h.inj b b' t t' hne ho hb'

/-- A new block. -/
theorem Rel.push {ng : Nat} {μ : Inj} {g : Nat → AObj} {w w' : World} (h : Rel ng μ g w) {n : Nat} {a : AObj} {o : Obj} {t : Tgt} (hng : ng ≤ n) (hn : μ n = none) (hcb : t.cb = w.heap.size)
    (hh : w'.heap = w.heap.push o) (hs : Same w w') (ho : ORel ng (μ.add n t) t a o) (hao : owned a = true) (g' : Nat → AObj) (hg' : ∀ b, g' b = if b = n then a else g b) :
    Goes ng μ g w (μ.add n t) g' w' := by
  have hle := Inj.le_add (t := t) hn
  have hold : ∀ k, k < w.heap.size → w'.heap[k]? = w.heap[k]? := fun k hk => by rw [hh, Array.getElem?_push]; rw [if_neg (by omega)]
  have hoth : ∀ b, b ≠ n → μ.add n t b = μ b := fun b hb => Inj.add_other hb
  refine ⟨hle, ⟨fun b hb => ?_, fun b b' u u' hne hob hb' hu hu' => ?_, fun k hk => ?_⟩, by rw [hh]; simp, fun k hk _ => hold k hk, fun k hk ⟨b, u, hob, hu, hc⟩ => ?_, fun b h1 h2 => ?_, hs⟩
  · rw [hg'] at hb ⊢
    by_cases e : b = n
    · subst e
      simp only [if_true] at hb ⊢
      exact ⟨t, o, by simp, by rw [hcb, hh]; simp, ho⟩
    · simp only [if_neg e] at hb ⊢
      obtain ⟨u, o', h1, h2, h3⟩ := h.obj b hb
      exact ⟨u, o', by rw [hoth b e]; exact h1, by rw [hold _ (h.lt hb h1)]; exact h2, h3.mono hle⟩
  · rw [hg'] at hob hb'
    by_cases e : b = n
    · have e' : b' ≠ n := fun e' => hne (e.trans e'.symm)
      subst e
      simp only [if_neg e'] at hb'
      rw [hoth b' e'] at hu'
      simp at hu
      subst hu
      have := h.lt hb' hu'
      omega
    · rw [hoth b e] at hu
      simp only [if_neg e] at hob
      by_cases e' : b' = n
      · subst e'
        simp at hu'
        subst hu'
        have := h.lt (b := b) (fun hd => by rw [hd] at hob; simp [owned] at hob) hu
        omega
      · rw [hoth b' e'] at hu'
        simp only [if_neg e'] at hb'
        exact h.inj b b' u u' hne hob hb' hu hu'
  · obtain ⟨u, h1, h2⟩ := h.glob k hk
    exact ⟨u, hle _ _ h1, h2⟩
  · by_cases e : b = n
    · subst e; simp at hu; subst hu; omega
    · rw [hoth b e] at hu; rw [hg', if_neg e] at hob; exact ⟨b, u, hob, hu, hc⟩
  · rw [hg'] at h2 ⊢
    by_cases e : b = n
    · rw [if_pos e, hao] at h2; cases h2
    · rw [if_neg e]

def setB (w : World) (k : Nat) (o : Obj) : World := { w with heap := w.heap.setIfInBounds k o }
@[simp] theorem heap_setB (w : World) (k : Nat) (o : Obj) : (setB w k o).heap = w.heap.setIfInBounds k o := rfl

/-- A block of one's own is written. -/
theorem Rel.write {ng : Nat} {μ : Inj} {g : Nat → AObj} {w w' : World} (h : Rel ng μ g w) {b : Nat} {a : AObj} {o : Obj} {t : Tgt} (hown : owned (g b) = true) (hm : μ b = some t)
    (hh : w'.heap = w.heap.setIfInBounds t.cb o) (hs : Same w w') (ho : ORel ng μ t a o) (hao : owned a = true) (g' : Nat → AObj) (hg' : ∀ j, g' j = if j = b then a else g j) :
    Goes ng μ g w μ g' w' := by
  have hbd : g b ≠ .dead := fun hd => by rw [hd] at hown; simp [owned] at hown
  have hlt := h.lt hbd hm
  have hoth : ∀ k, k ≠ t.cb → w'.heap[k]? = w.heap[k]? := fun k hk => by rw [hh]; rw [Array.getElem?_setIfInBounds_ne (fun e => hk e.symm)]
  refine ⟨.refl _, ⟨fun j hj => ?_, fun j j' u u' hne hoj hj' hu hu' => ?_, h.glob⟩, by rw [hh]; simp, fun k hk hn => hoth k fun e => hn ⟨b, t, hown, hm, e.symm⟩, fun k hk ⟨j, u, hoj, hu, hc⟩ => ?_, fun j h1 h2 => ?_, hs⟩
  · rw [hg'] at hj ⊢
    by_cases e : j = b
    · subst e
      simp only [if_true] at hj ⊢
      exact ⟨t, o, hm, by rw [hh]; simp [hlt], ho⟩
    · simp only [if_neg e] at hj ⊢
      obtain ⟨u, o', h1, h2, h3⟩ := h.obj j hj
      exact ⟨u, o', h1, by rw [hoth _ (fun ec => h.inj b j t u (fun x => e x.symm) hown hj hm h1 ec.symm)]; exact h2, h3⟩
  · rw [hg'] at hoj hj'
    have k1 : owned (g j) = true := by
      by_cases e : j = b
      · subst e; exact hown
      · simpa only [if_neg e] using hoj
    have k2 : g j' ≠ .dead := by
      by_cases e : j' = b
      · subst e; exact hbd
      · simpa only [if_neg e] using hj'
    exact h.inj j j' u u' hne k1 k2 hu hu'
  · rw [hg'] at hoj
    by_cases e : j = b
    · subst e; exact ⟨j, u, hown, hu, hc⟩
    · simp only [if_neg e] at hoj; exact ⟨j, u, hoj, hu, hc⟩
  · rw [hg'] at h2 ⊢
    by_cases e : j = b
    · rw [if_pos e, hao] at h2; cases h2
    · rw [if_neg e]

/-- A block takes another one's place. -/
theorem Rel.move {ng : Nat} {μ : Inj} {g : Nat → AObj} {w w' : World} (h : Rel ng μ g w) {b n : Nat} {a : AObj} {o : Obj} {t t' : Tgt} (hng : ng ≤ n) (hown : owned (g b) = true) (hm : μ b = some t) (hn : μ n = none)
    (hcb : t'.cb = t.cb) (hh : w'.heap = w.heap.setIfInBounds t.cb o) (hs : Same w w') (ho : ORel ng (μ.add n t') t' a o) (hgn : g n = .dead) (hao : owned a = true) (g' : Nat → AObj)
    (hg' : ∀ j, g' j = if j = n then a else if j = b then .dead else g j) :
    Goes ng μ g w (μ.add n t') g' w' := by
  have hbd : g b ≠ .dead := fun hd => by rw [hd] at hown; simp [owned] at hown
  have hlt := h.lt hbd hm
  have hle := Inj.le_add (t := t') hn
  have hnb : b ≠ n := fun e => by subst e; rw [hm] at hn; cases hn
  have hoth : ∀ k, k ≠ t.cb → w'.heap[k]? = w.heap[k]? := fun k hk => by rw [hh]; rw [Array.getElem?_setIfInBounds_ne (fun e => hk e.symm)]
  have hadd : ∀ j, j ≠ n → μ.add n t' j = μ j := fun j hj => Inj.add_other hj
  refine ⟨hle, ⟨fun j hj => ?_, fun j j' u u' hne hoj hj' hu hu' => ?_, fun k hk => let ⟨u, h1, h2⟩ := h.glob k hk; ⟨u, hle _ _ h1, h2⟩⟩, by rw [hh]; simp,
    fun k hk hn => hoth k fun e => hn ⟨b, t, hown, hm, e.symm⟩, fun k hk ⟨j, u, hoj, hu, hc⟩ => ?_, fun j h1 h2 => ?_, hs⟩
  · rw [hg'] at hj ⊢
    by_cases e : j = n
    · subst e
      simp only [if_true] at hj ⊢
      exact ⟨t', o, by simp, by rw [hcb, hh]; simp [hlt], ho⟩
    · simp only [if_neg e] at hj ⊢
      by_cases eb : j = b
      · simp only [if_pos eb] at hj; exact absurd rfl hj
      · simp only [if_neg eb] at hj ⊢
        obtain ⟨u, o', h1, h2, h3⟩ := h.obj j hj
        exact ⟨u, o', by rw [hadd j e]; exact h1, by rw [hoth _ (fun ec => h.inj b j t u (fun x => eb x.symm) hown hj hm h1 ec.symm)]; exact h2, h3.mono hle⟩
  · rw [hg'] at hoj hj'
    by_cases e : j = n
    · have e' : j' ≠ n := fun e' => hne (e.trans e'.symm)
      simp only [if_neg e'] at hj'
      by_cases eb : j' = b
      · simp only [if_pos eb] at hj'; exact absurd rfl hj'
      · simp only [if_neg eb] at hj'
        rw [hadd j' e'] at hu'
        subst e
        simp at hu
        subst hu
        rw [hcb]
        exact h.inj b j' t u' (fun x => eb x.symm) hown hj' hm hu'
    · simp only [if_neg e] at hoj
      by_cases eb : j = b
      · simp [if_pos eb, owned] at hoj
      · simp only [if_neg eb] at hoj
        rw [hadd j e] at hu
        by_cases e' : j' = n
        · subst e'
          simp at hu'
          subst hu'
          rw [hcb]
          exact h.inj j b u t eb hoj hbd hu hm
        · simp only [if_neg e'] at hj'
          by_cases eb' : j' = b
          · simp only [if_pos eb'] at hj'; exact absurd rfl hj'
          · simp only [if_neg eb'] at hj'
            rw [hadd j' e'] at hu'
            exact h.inj j j' u u' hne hoj hj' hu hu'
  · rw [hg'] at hoj
    by_cases e : j = n
    · subst e; simp at hu; subst hu; exact ⟨b, t, hown, hm, by rw [← hc, hcb]⟩
    · simp only [if_neg e] at hoj
      by_cases eb : j = b
      · simp [if_pos eb, owned] at hoj
      · simp only [if_neg eb] at hoj
        rw [hadd j e] at hu
        exact ⟨j, u, hoj, hu, hc⟩
  · rw [hg'] at h1 h2 ⊢
    by_cases e : j = n
    · rw [if_pos e, hao] at h2; cases h2
    · rw [if_neg e] at h1 ⊢
      by_cases eb : j = b
      · rw [if_pos eb] at h1; exact absurd rfl h1
      · rw [if_neg eb]

end Go.Ab
end
section
namespace Go.Ab


section types
variable {P : Program} {t : TypeId} {i : TInfo}
theorem tinfo_inv (h : tinfo P t = some i) : ∃ inf, P.info? t = some inf ∧ P.underlying t = some i.desc ∧ fieldsOk P i.desc = true ∧ inf.size = i.size ∧ inf.bytes = i.bytes ∧ inf.zero = i.zero ∧ i.agg = isAggDesc i.desc ∧
    ∀ fs, i.desc = .struct fs → i.fields = fs.toList.map fun f => (f.offset, P.cellsOf f.type) := by
  unfold tinfo at h
  split at h
  · rename_i inf d h1 h2
    cases hf : fieldsOk P d with
    | false => simp [hf] at h
    | true =>
      simp only [hf, cond_true, Option.some.injEq] at h
      subst h
      exact ⟨inf, h1, h2, hf, rfl, rfl, rfl, rfl, fun fs e => by simp only at e; subst e; rfl⟩
  · cases h
theorem tinfo_info (h : tinfo P t = some i) : ∃ inf, P.info? t = some inf ∧ inf.size = i.size ∧ inf.bytes = i.bytes ∧ inf.zero = i.zero := by
  obtain ⟨inf, h1, h2, h3, h4, h5, h6, _⟩ := tinfo_inv h; exact ⟨inf, h1, h4, h5, h6⟩
theorem tinfo_desc (h : tinfo P t = some i) : P.underlying t = some i.desc := by
  obtain ⟨inf, h1, h2, _⟩ := tinfo_inv h; exact h2
theorem tinfo_agg (h : tinfo P t = some i) : i.agg = isAggDesc i.desc := by
  obtain ⟨inf, h1, h2, h3, h4, h5, h6, h7, _⟩ := tinfo_inv h; exact h7
theorem tinfo_fields (h : tinfo P t = some i) {fs : Array Field} (hd : i.desc = .struct fs) : i.fields = fs.toList.map fun f => (f.offset, P.cellsOf f.type) := by
  obtain ⟨inf, h1, h2, h3, h4, h5, h6, h7, h8⟩ := tinfo_inv h; exact h8 fs hd
theorem tinfo_ftypes (h : tinfo P t = some i) {fs : Array Field} (hd : i.desc = .struct fs) (w : World) : ∀ f ∈ fs.toList, (sizeOf f.type).run P w = .ok (P.cellsOf f.type) w := by
  obtain ⟨inf, h1, h2, h3, _⟩ := tinfo_inv h
  rw [hd] at h3
  intro f hf
  simp only [fieldsOk, List.all_eq_true] at h3
  have := h3 f hf
  cases hq : P.info? f.type with
  | none => simp [hq] at this
  | some inf => simp [sizeOf, typeInfo, hq, Program.cellsOf]

variable (w : World)
theorem r_underlying (h : tinfo P t = some i) : (underlying t).run P w = .ok i.desc w := by
  simp [underlying, tinfo_desc h]
theorem r_sizeOf (h : tinfo P t = some i) : (sizeOf t).run P w = .ok i.size w := by
  obtain ⟨inf, h1, h2, _⟩ := tinfo_info h
  simp [sizeOf, typeInfo, h1, h2]
theorem r_zeroValue (h : tinfo P t = some i) {z : Value} (hz : i.zero = some z) : (zeroValue t).run P w = .ok z w := by
  obtain ⟨inf, h1, h2, h3, h4⟩ := tinfo_info h
  rw [hz] at h4
  simp [zeroValue, typeInfo, h1, h4]
theorem r_isAgg (h : tinfo P t = some i) : (isAgg t).run P w = .ok i.agg w := by
  rw [tinfo_agg h]
  simp only [isAgg, Sem.run_bind, r_underlying w h, Result.andThen_ok]
  cases i.desc <;> rfl
theorem r_typeInfo_bytes (h : tinfo P t = some i) : ∃ inf, (typeInfo t).run P w = .ok inf w ∧ inf.bytes = i.bytes ∧ inf.size = i.size := by
  obtain ⟨inf, h1, h2, h3, h4⟩ := tinfo_info h
  exact ⟨inf, by simp [typeInfo, h1], h3, h2⟩
end types

/-! ### cells -/
section cells
variable {P : Program} {ng : Nat} {μ : Inj} {H : Heap} {w : World}

theorem Rel.cells (hR : Rel ng μ H.get w) {b : Nat} {own : Bool} {esz : Nat} {c : List Value} (hb : H.get b = .cells own esz c) :
    ∃ t arr e fr, μ b = some t ∧ w.heap[t.cb]? = some (.cells arr e fr) ∧ t.esz = esz ∧ t.off + t.room ≤ arr.size ∧ c.length ≤ t.room ∧
      VRels μ c ((arr.toList.drop t.off).take c.length) ∧ (own = true → ∀ i, i < arr.size → frozenIn fr i = false) := by
  obtain ⟨t, o, h1, h2, h3⟩ := hR.obj b (by rw [hb]; simp)
  rw [hb] at h3
  obtain ⟨arr, e, fr, rfl, h5, h6, h7, h8, h9⟩ := h3
  refine ⟨t, arr, e, fr, h1, h2, h5, h6, h7, VRels.of_get (by simp; omega) ?_, h9⟩
  intro i v v' hv hv'
  obtain ⟨v'', ha, hr⟩ := h8 i v hv
  have hi : i < c.length := (List.getElem?_eq_some_iff.1 hv).1
  rw [List.getElem?_take, if_pos hi, List.getElem?_drop] at hv'
  rw [← Array.getElem?_toList] at ha
  rw [ha] at hv'
  cases hv'
  exact hr

theorem cell_at {cb k : Nat} {arr : Array Value} {e : TypeId} {fr : Nat × Nat} (h : w.heap[cb]? = some (.cells arr e fr)) : w.cell? ⟨cb, k, none⟩ = arr[k]? := by
  simp [World.cell?, h]

theorem seg_spec {c l : List Value} {o n : Nat} (h : seg c o n = some l) : o + n ≤ c.length ∧ l = (c.drop o).take n ∧ l.length = n := by
  unfold seg at h
  split at h
  · simp at h; subst h; exact ⟨‹_›, rfl, by simp; omega⟩
  · cases h

theorem seg_rel {c l d : List Value} {o n : Nat} (h : seg c o n = some l) (hv : VRels μ c d) : VRels μ l ((d.drop o).take n) := by
  obtain ⟨_, rfl, _⟩ := seg_spec h
  exact (hv.drop o).take n

/-- reading a row of cells -/
theorem run_loadSeg {cb p n : Nat} {arr : Array Value} {e : TypeId} {fr : Nat × Nat} (h : w.heap[cb]? = some (.cells arr e fr)) (hn : p + n ≤ arr.size) :
    (loadCells ⟨cb, p, none⟩ n).run P w = .ok ((arr.toList.drop p).take n).toArray w := by
  have hl : ((arr.toList.drop p).take n).length = n := by simp; omega
  have := run_loadCells_list (P := P) w ⟨cb, p, none⟩ ((arr.toList.drop p).take n) (fun j v hv => by
    rw [Addr.add_lit, cell_at h]
    have hj : j < n := by have := (List.getElem?_eq_some_iff.1 hv).1; omega
    rw [List.getElem?_take, if_pos hj, List.getElem?_drop] at hv
    rw [← Array.getElem?_toList]; exact hv)
  rw [hl] at this
  exact this

theorem loadC_sim (hR : Rel ng μ H.get w) {t : TypeId} {i : TInfo} {b o : Nat} {v : Value} (ht : tinfo P t = some i) (h : loadC H i b o = some v) :
    ∃ tg v', μ b = some tg ∧ (loadVar t ⟨tg.cb, tg.off + o, none⟩).run P w = .ok v' w ∧ VRel μ v v' := by
  unfold loadC at h
  split at h
  · rename_i own esz c hb
    obtain ⟨tg, arr, e, fr, h1, h2, h3, h4, h5, h6, _⟩ := hR.cells hb
    refine ⟨tg, ?_⟩
    cases hagg : i.agg with
    | true =>
      simp only [hagg, if_true] at h
      cases hs : seg c o i.size with
      | none => simp [hs] at h
      | some l =>
        simp only [hs, Option.map_some, Option.some.injEq] at h
        subst h
        obtain ⟨k1, k2, k3⟩ := seg_spec hs
        have hrel := seg_rel hs h6
        refine ⟨.agg ((arr.toList.drop (tg.off + o)).take i.size).toArray, h1, ?_, ?_⟩
        · simp only [loadVar, Sem.run_bind, r_isAgg w ht, r_sizeOf w ht, Result.andThen_ok, hagg, if_true]
          rw [run_loadSeg h2 (by omega)]
          rfl
        · refine .agg _ _ ?_
          have e1 : ((List.take c.length (List.drop tg.off arr.toList)).drop o).take i.size = (arr.toList.drop (tg.off + o)).take i.size := by
            rw [List.drop_take, List.take_take, List.drop_drop]; congr 1; omega
          rw [e1] at hrel
          simpa using hrel
    | false =>
      simp only [hagg, Bool.false_eq_true, if_false] at h
      obtain ⟨v', hv', hr⟩ := h6.get o v h
      have ho : o < c.length := (List.getElem?_eq_some_iff.1 h).1
      rw [List.getElem?_take, if_pos ho, List.getElem?_drop] at hv'
      refine ⟨v', h1, ?_, hr⟩
      simp only [loadVar, Sem.run_bind, r_isAgg w ht, Result.andThen_ok, hagg, Bool.false_eq_true, if_false]
      rw [Array.getElem?_toList] at hv'
      simp [run_load, cell_at h2, hv']
  · cases h

theorem VRel.ptr_inv {b o : Nat} {v' : Value} (h : VRel μ (.pointer (some ⟨b, o, none⟩)) v') : ∃ t, μ b = some t ∧ v' = .pointer (some ⟨t.cb, t.off + o, none⟩) := by
  cases h with
  | ptr _ _ t h => exact ⟨t, h, rfl⟩

theorem headCells_sim (hR : Rel ng μ H.get w) {n : Nat} {x x' : Value} {l : List Value} (hx : VRel μ x x') (h : headCells H n x = some l) :
    ∃ l', l.length = n ∧ VRels μ l l' ∧ ((∃ a len cap, x' = .slice (some a) len cap ∧ ∀ w1 : World, w1.heap = w.heap → (loadCells a n).run P w1 = .ok l'.toArray w1) ∨ (x = .slice none 0 0 ∧ x' = .slice none 0 0 ∧ n = 0 ∧ l' = [])) := by
  unfold headCells at h
  split at h
  · rename_i b o len cap
    by_cases hn : n = 0
    · subst hn
      simp [Tr.beq_eq] at h; subst h
      refine ⟨[], rfl, .nil, .inl ?_⟩
      cases hx with
      | sliceZ _ a' => exact ⟨_, _, _, rfl, fun _ _ => rfl⟩
      | slice _ _ t _ _ cc hm hl hc hr => exact ⟨_, _, _, rfl, fun _ _ => rfl⟩
    · have hn' : Nat.beq n 0 = false := by simp [Tr.beq_eq, hn]
      simp only [hn', cond_false] at h
      cases hcap : Nat.beq cap 0 with
      | true => simp [hcap] at h
      | false =>
        simp only [hcap, cond_false] at h
        split at h
        · rename_i own esz c hb
          obtain ⟨tg, arr, e, fr, h1, h2, h3, h4, h5, h6, _⟩ := hR.cells hb
          obtain ⟨k1, k2, k3⟩ := seg_spec h
          cases hx with
          | sliceZ _ a' => simp [Tr.beq_eq] at hcap
          | slice _ _ t _ _ cc hm hl hc hr =>
            rw [h1] at hm; cases hm
            refine ⟨(arr.toList.drop (tg.off + o)).take n, k3, ?_, .inl ⟨_, _, _, rfl, fun w1 hw1 => run_loadSeg (by rw [hw1]; exact h2) (by omega)⟩⟩
            have hrel := seg_rel h h6
            have e1 : ((List.take c.length (List.drop tg.off arr.toList)).drop o).take n = (arr.toList.drop (tg.off + o)).take n := by
              rw [List.drop_take, List.take_take, List.drop_drop]; congr 1; omega
            rwa [e1] at hrel
        · cases h
  · by_cases hn : n = 0
    · subst hn
      simp [Tr.beq_eq] at h; subst h
      cases hx
      exact ⟨[], rfl, .nil, .inr ⟨rfl, rfl, rfl, rfl⟩⟩
    · simp [Tr.beq_eq, hn] at h
  · cases h
end cells
end Go.Ab
end
section
namespace Go.Ab

section
variable {P : Program} {T : Tab} {ng : Nat} {μ : Inj} {H : Heap} {w : World} {ρ ρ' : Operand → Value} {o : Oper} {v : Value}

theorem execOp_congr (h : ∀ x ∈ o.op.operands.toList, ρ' x = ρ x) (hk : (∃ op t x y u, o.op = .binOp op t x y u) ∨ (∃ op t x, o.op = .unOp op t x) ∨ (∃ a b x, o.op = .convert a b x) ∨ (∃ c b, o.op = .call c ∧ c.callee = .builtin b)) :
    execOp ρ' o = execOp ρ o := by
  rcases hk with ⟨op, t, x, y, u, e⟩ | ⟨op, t, x, e⟩ | ⟨a, b, x, e⟩ | ⟨c, b, e, hc⟩
  · have h1 := h x (by simp [e, Op.operands]); have h2 := h y (by simp [e, Op.operands])
    simp only [execOp, e, h1, h2]
  · have h1 := h x (by simp [e, Op.operands])
    simp only [execOp, e, h1]
  · have h1 := h x (by simp [e, Op.operands])
    simp only [execOp, e, h1]
  · have h1 : c.args.map ρ' = c.args.map ρ := by
      apply Array.ext'
      simp only [Array.toList_map]
      refine List.map_congr_left fun x hx => h x ?_
      simp [e, Op.operands, Call.operands, hc]
      simpa using hx
    simp only [execOp, e, resolve, hc, h1]

theorem flatRun_sim (hρ : ∀ x ∈ o.op.operands.toList, VRel μ (ρ x) (ρ' x)) (h : flatRun P ρ o = some v)
    (hk : (∃ op t x y u, o.op = .binOp op t x y u) ∨ (∃ op t x, o.op = .unOp op t x) ∨ (∃ a b x, o.op = .convert a b x) ∨ (∃ c b, o.op = .call c ∧ c.callee = .builtin b)) :
    ∃ v', (execOp ρ' o).run P w = .ok (.value v') w ∧ VRel μ v v' := by
  unfold flatRun at h
  split at h
  · rename_i hf
    rw [List.all_eq_true] at hf
    have he := execOp_congr (ρ := ρ) (ρ' := ρ') (fun x hx => (hρ x hx).flat_eq (hf x hx)) hk
    split at h
    · rename_i u hu
      split at h
      · rename_i hfu
        simp at h; subst h
        exact ⟨_, by rw [he]; exact pureRun_run hu w, flat_refl hfu⟩
      · cases h
    · cases h
  · cases h

theorem intOp_sim {op : BinOp} {t u : TypeId} {x y : Operand} {k k' : IntKind} {a b : Int} (ho : o.op = .binOp op t x y u) (hx : ρ' x = .int k a) (hy : ρ' y = .int k' b)
    (h : intOp op k a k' b = some v) : (execOp ρ' o).run P w = .ok (.value v) w := by
  have hg : (eqGuard op t x y (.int k a) (.int k' b)).run P w = .ok () w := by
    unfold eqGuard
    cases op <;> rfl
  have hb : (binOp op t (.int k a) (.int k' b)).run P w = .ok v w := by
    unfold intOp at h
    cases op with
    | shl =>
      simp only at h
      split at h
      · rename_i hb0
        simp at h; subst h
        simp [binOp, Op.shift, Int.not_lt.2 hb0]
      · cases h
    | shr =>
      simp only at h
      split at h
      · rename_i hb0
        simp at h; subst h
        simp [binOp, Op.shift, Int.not_lt.2 hb0]
      · cases h
    | quo =>
      simp only at h
      split at h
      · rename_i hk; subst hk
        split at h
        · cases h
        · rename_i hb0; simp at h; subst h; simp [binOp, Op.intDiv, hb0]
      · cases h
    | rem =>
      simp only at h
      split at h
      · rename_i hk; subst hk
        split at h
        · cases h
        · rename_i hb0; simp at h; subst h; simp [binOp, Op.intDiv, hb0]
      · cases h
    | _ =>
      simp only at h
      split at h
      · rename_i hk; subst hk
        simp at h <;> subst h <;> simp [binOp, Op.intArith, Op.intBits, Op.intCmp]
      · cases h
  simp [execOp, ho, hx, hy, hg, hb]

theorem equal_step (t : TypeId) (x y : Value) : Op.equal t x y = Op.equalIn (9999 + 1) t x y := rfl

theorem eqC_sim (hT : ∀ t i, T.ty t = some i → tinfo P t = some i) {op : BinOp} {t u : TypeId} {x y : Operand} {s b : Bool} (ho : o.op = .binOp op t x y u) (hop : isEq op = some s)
    (hx : VRel μ (ρ x) (ρ' x)) (hy : VRel μ (ρ y) (ρ' y)) (h : eqC T t (ρ x) (ρ y) = some b) : (execOp ρ' o).run P w = .ok (.value (.bool (b == s))) w := by
  unfold eqC descOf at h
  cases hd : T.ty t with
  | none => simp [hd] at h
  | some i =>
    have hi := hT t i hd
    have hu := tinfo_desc hi
    simp only [hd, Option.map_some] at h
    have key : (Op.equal t (ρ' x) (ρ' y)).run P w = .ok b w ∧ (eqGuard op t x y (ρ' x) (ρ' y)).run P w = .ok () w ∧
        (binOp .eql t (ρ' x) (ρ' y) = (do pure (.bool (← Op.equal t (ρ' x) (ρ' y))))) ∧ (binOp .neq t (ρ' x) (ρ' y) = (do pure (.bool (!(← Op.equal t (ρ' x) (ρ' y)))))) := by
      generalize ρ x = vx at *
      generalize ρ y = vy at *
      generalize ρ' x = vx' at *
      generalize ρ' y = vy' at *
      cases hdd : i.desc <;> rw [hdd] at h hu <;> simp only at h <;> first
        | (cases h; done)
        | (split at h <;> first
            | (cases h; done)
            | (cases hx <;> cases hy <;> cases h <;> refine ⟨?_, ?_, rfl, rfl⟩ <;> first
                | (rw [equal_step]; unfold Op.equalIn; simp [underlying, hu]; done)
                | (unfold eqGuard; cases op <;> rfl)))
    obtain ⟨k1, k2, k3, k4⟩ := key
    cases op <;> simp [isEq] at hop <;> subst hop
    · simp [execOp, ho, k2, k3, k1]
    · simp [execOp, ho, k2, k4, k1]

end
end Go.Ab
end
section
namespace Go.Ab

section
variable {P : Program} {T : Tab} {ng : Nat} {μ : Inj} {H : Heap} {w : World}

theorem VRel.int_inv {k : IntKind} {n : Int} {v' : Value} (h : VRel μ (.int k n) v') : v' = .int k n := by cases h; rfl
theorem VRel.str_inv {s : ByteArray} {v' : Value} (h : VRel μ (.string s) v') : v' = .string s := by cases h; rfl
theorem VRel.bool_inv {b : Bool} {v' : Value} (h : VRel μ (.bool b) v') : v' = .bool b := by cases h; rfl

theorem lit_inv {v : Option Value} {x : Option Int} (h : lit? v = some x) : (v = none ∧ x = none) ∨ ∃ k n, v = some (.int k n) ∧ x = some n := by
  unfold lit? at h
  split at h
  · simp at h; exact .inl ⟨rfl, h.symm⟩
  · rename_i k n; simp at h; exact .inr ⟨k, n, rfl, h.symm⟩
  · cases h

theorem lit_rel {ρ ρ' : Operand → Value} {x : Option Operand} {n : Option Int} (h : lit? (x.map ρ) = some n) (hx : ∀ y, x = some y → VRel μ (ρ y) (ρ' y)) : x.map ρ' = x.map ρ := by
  cases x with
  | none => rfl
  | some y =>
    have := hx y rfl
    rcases lit_inv h with ⟨h1, _⟩ | ⟨k, m, h1, _⟩
    · simp at h1
    · simp only [Option.map_some, Option.some.injEq] at h1 ⊢
      rw [h1] at this
      rw [this.int_inv, h1]

theorem run_sliceBound {k : IntKind} {n : Int} {y : Nat} {c : BoundsCode} (h : 0 ≤ n ∧ n ≤ y) : (Instr.sliceBound (.int k n) y c).run P w = .ok n.toNat w := by
  simp [Instr.sliceBound, asIntOf, h]

theorem bnds_run {isS : Bool} {len cap cap' : Nat} {lo hi mx : Option Value} {lo' hi' mx' : Option Int} {l h m : Nat} (h1 : lit? lo = some lo') (h2 : lit? hi = some hi') (h3 : lit? mx = some mx')
    (hb : bnds len cap lo' hi' mx' = some (l, h, m)) (hcap : cap ≤ cap') (hlen : len ≤ cap) :
    ∃ m', (Instr.sliceBounds isS len cap' lo hi mx).run P w = .ok (l, h, m') w ∧ ((m' = cap' ∧ m = cap) ∨ m' = m) ∧ l ≤ h ∧ h ≤ m ∧ m ≤ cap := by
  unfold bnds at hb
  split at hb
  · cases hb
  rename_i m0 hm0
  split at hb
  · cases hb
  rename_i h0 hh0
  split at hb
  · cases hb
  rename_i l0 hl0
  simp only [Option.some.injEq, Prod.mk.injEq] at hb
  obtain ⟨rfl, rfl, rfl⟩ := hb
  have hlow : l0 ≤ h0 ∧ ∀ c, (match lo with | some v => Instr.sliceBound v h0 c | none => pure 0 : Sem Nat).run P w = .ok l0 w := by
    rcases lit_inv h1 with ⟨rfl, rfl⟩ | ⟨k1, n1, rfl, rfl⟩
    · simp [bLow] at hl0; subst hl0; exact ⟨Nat.zero_le _, fun _ => rfl⟩
    · simp only [bLow] at hl0
      split at hl0
      · rename_i hc; simp at hl0; subst hl0; exact ⟨by omega, fun _ => run_sliceBound hc⟩
      · cases hl0
  rcases lit_inv h3 with ⟨rfl, rfl⟩ | ⟨k3, n3, rfl, rfl⟩
  · simp [bMax] at hm0; subst hm0
    rcases lit_inv h2 with ⟨rfl, rfl⟩ | ⟨k2, n2, rfl, rfl⟩
    · simp [bHigh] at hh0; subst hh0
      refine ⟨cap', ?_, .inl ⟨rfl, rfl⟩, hlow.1, hlen, Nat.le_refl _⟩
      have hl2 := hlow.2
      cases lo <;> simp at hl2 <;> simp [Instr.sliceBounds, hl2]
    · simp only [bHigh] at hh0
      split at hh0
      · rename_i hc
        simp at hh0; subst hh0
        refine ⟨cap', ?_, .inl ⟨rfl, rfl⟩, hlow.1, by omega, Nat.le_refl _⟩
        have hl2 := hlow.2
        have hb2 := fun c => run_sliceBound (P := P) (w := w) (k := k2) (c := c) (y := cap') ⟨hc.1, by omega⟩
        cases lo <;> simp at hl2 <;> simp [Instr.sliceBounds, hb2, hl2]
      · cases hh0
  · simp only [bMax] at hm0
    split at hm0
    · rename_i hc3
      simp at hm0; subst hm0
      rcases lit_inv h2 with ⟨rfl, rfl⟩ | ⟨k2, n2, rfl, rfl⟩
      · simp [bHigh] at hh0
      · simp only [bHigh] at hh0
        split at hh0
        · rename_i hc
          simp at hh0; subst hh0
          refine ⟨n3.toNat, ?_, .inr rfl, hlow.1, by omega, by omega⟩
          have hl2 := hlow.2
          have hb3 := fun c => run_sliceBound (P := P) (w := w) (k := k3) (c := c) (y := cap') ⟨hc3.1, by omega⟩
          have hb2 := fun c => run_sliceBound (P := P) (w := w) (k := k2) (c := c) hc
          cases lo <;> simp at hl2 <;> simp [Instr.sliceBounds, hb3, hb2, hl2]
        · cases hh0
    · cases hm0

theorem sliceC_sim (hT : ∀ t i, T.ty t = some i → tinfo P t = some i) {ρ ρ' : Operand → Value} {t : TypeId} {x : Operand} {lo hi mx : Option Operand} {v : Value}
    (hx : VRel μ (ρ x) (ρ' x)) (hlo : ∀ y, lo = some y → VRel μ (ρ y) (ρ' y)) (hhi : ∀ y, hi = some y → VRel μ (ρ y) (ρ' y)) (hmx : ∀ y, mx = some y → VRel μ (ρ y) (ρ' y))
    (hR : Rel ng μ H.get w) (h : sliceC T H t (ρ x) (lo.map ρ) (hi.map ρ) (mx.map ρ) = some v) :
    ∃ v', (Instr.sliceAt t (ρ' x) (lo.map ρ') (hi.map ρ') (mx.map ρ')).run P w = .ok v' w ∧ VRel μ v v' := by
  unfold sliceC at h
  split at h
  case h_2 => cases h
  rename_i lo' hi' mx' h1 h2 h3
  rw [lit_rel h1 hlo, lit_rel h2 hhi, lit_rel h3 hmx]
  generalize lo.map ρ = vlo at *
  generalize hi.map ρ = vhi at *
  generalize mx.map ρ = vmx at *
  generalize ρ x = vx at *
  generalize ρ' x = vx' at *
  split at h
  · -- slices
    rename_i e _ _ _ _ _ a len cap hty
    have hu := tinfo_desc (hT _ _ hty)
    simp only at hu
    split at h
    · rename_i i b o hti
      have hi := hT _ _ hti
      split at h
      · rename_i own esz c l hh m hHb hb
        cases hez : Nat.beq esz i.size with
        | false => simp [hez] at h
        | true =>
        simp only [hez, cond_true, Option.some.injEq] at h; subst h
        rw [beq_iff] at hez
        cases hx with
        | sliceZ _ a' =>
          obtain ⟨m', k1, k2, k3, k4, k5⟩ := bnds_run (P := P) (w := w) (isS := true) (cap' := 0) h1 h2 h3 hb (Nat.le_refl _) (Nat.le_refl _)
          have e1 : l = 0 := by omega
          have e2 : hh = 0 := by omega
          have e3 : m = 0 := by omega
          have e4 : m' = 0 := by omega
          subst e1 e2 e3 e4
          refine ⟨.slice (some a') 0 0, ?_, .sliceZ _ _⟩
          simp [Instr.sliceAt, Instr.slice, underlying, hu, k1, r_sizeOf w hi]
        | slice _ _ tg _ _ cc hm hl hc hr =>
          obtain ⟨m', k1, k2, k3, k4, k5⟩ := bnds_run (P := P) (w := w) (isS := true) (cap' := cc) h1 h2 h3 hb hc hl
          by_cases hz : m' = l
          · have e2 : hh - l = 0 := by omega
            have e3 : m - l = 0 := by omega
            refine ⟨.slice (some ⟨tg.cb, tg.off + o, none⟩) (hh - l) (m' - l), ?_, ?_⟩
            · simp [Instr.sliceAt, Instr.slice, underlying, hu, k1, r_sizeOf w hi, hz]
            · rw [e2, e3, hz, Nat.sub_self]; exact .sliceZ _ _
          · refine ⟨.slice (some ⟨tg.cb, tg.off + (o + l * i.size), none⟩) (hh - l) (m' - l), ?_, ?_⟩
            · simp [Instr.sliceAt, Instr.slice, underlying, hu, k1, r_sizeOf w hi, hz, Addr.add_lit, Nat.add_assoc]
            · obtain ⟨t2, arr, e2, fr, q1, q2, q3, _⟩ := hR.cells hHb
              rw [hm] at q1; cases q1
              refine .slice b (o + l * i.size) tg _ _ _ hm (by omega) (by omega) ?_
              rcases k2 with ⟨e1, e2⟩ | e1
              · rcases hr with hr | hr
                · exact .inl (by omega)
                · refine .inr ?_
                  rw [e1, q3, hez]
                  have : l * i.size + (cc - l) * i.size = cc * i.size := by rw [← Nat.add_mul]; congr 1; omega
                  rw [q3, hez] at hr
                  omega
              · exact .inl (by omega)
      · cases h
    · rename_i i hti
      have hi := hT _ _ hti
      split at h
      · rename_i l hh m hb
        simp at h; subst h
        cases hx with
        | slice0 =>
          obtain ⟨m', k1, k2, k3, k4, k5⟩ := bnds_run (P := P) (w := w) (isS := true) (cap' := 0) h1 h2 h3 hb (Nat.le_refl _) (Nat.le_refl _)
          have e1 : l = 0 := by omega
          have e2 : hh = 0 := by omega
          have e3 : m = 0 := by omega
          have e4 : m' = 0 := by omega
          subst e1 e2 e3 e4
          refine ⟨.slice none 0 0, ?_, .slice0⟩
          simp [Instr.sliceAt, Instr.slice, underlying, hu, k1, r_sizeOf w hi]
      · cases h
    · cases h
  · -- strings
    rename_i s hty
    have hu := tinfo_desc (hT _ _ hty)
    simp only at hu
    have := hx.str_inv; subst this
    split at h
    · rename_i l hh m hb
      simp at h; subst h
      have hmx0 : vmx = none := by
        rcases lit_inv h3 with ⟨e, _⟩ | ⟨_, _, _, e⟩
        · exact e
        · cases e
      subst hmx0
      obtain ⟨m', k1, k2, k3, k4, k5⟩ := bnds_run (P := P) (w := w) (isS := false) (cap' := s.size) h1 h2 h3 hb (Nat.le_refl _) (Nat.le_refl _)
      exact ⟨_, by simp [Instr.sliceAt, Instr.slice, underlying, hu, k1], .string _⟩
    · cases h
  · -- arrays
    rename_i n e _ _ _ _ _ b o hty
    have hu := tinfo_desc (hT _ _ hty)
    simp only at hu
    obtain ⟨tg, hm, rfl⟩ := hx.ptr_inv
    split at h
    · rename_i i l hh m hti hb
      have hi := hT _ _ hti
      simp at h; subst h
      obtain ⟨m', k1, k2, k3, k4, k5⟩ := bnds_run (P := P) (w := w) (isS := false) (cap' := n) h1 h2 h3 hb (Nat.le_refl _) (Nat.le_refl _)
      have em : m' = m := by omega
      subst em
      by_cases hz : m' = l
      · refine ⟨.slice (some ⟨tg.cb, tg.off + o, none⟩) (hh - l) (m' - l), ?_, ?_⟩
        · simp [Instr.sliceAt, Instr.sureAddr, underlying, hu, k1, r_sizeOf w hi, hz]
        · have e2 : hh - l = 0 := by omega
          rw [e2, hz, Nat.sub_self]; exact .sliceZ _ _
      · refine ⟨.slice (some ⟨tg.cb, tg.off + (o + l * i.size), none⟩) (hh - l) (m' - l), ?_, ?_⟩
        · simp [Instr.sliceAt, Instr.sureAddr, underlying, hu, k1, r_sizeOf w hi, hz, Addr.add_lit, Nat.add_assoc]
        · exact .slice b (o + l * i.size) tg _ _ _ hm (by omega) (Nat.le_refl _) (.inl rfl)
    · cases h
  · cases h

end
end Go.Ab
end
