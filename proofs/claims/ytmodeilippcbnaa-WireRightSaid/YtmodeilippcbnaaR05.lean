/- Parts of the proof, joined by program: The abstract machine: what each operation comes to, as equations to rewrite by. None of them is one that the kernel would unfold; The abstract machine: slices and what lies in them; The abstract machine: slices of one's own, and what is appended; The abstract machine: a drawn region that only reads; The abstract machine: structures and slices that are built; The abstract machine: drawn regions, where what asks not for the heap is no matter; The abstract machine: the equations, in the set of the walk; The abstract machine: what stays as it was, and slices that are read; The abstract machine: from a world's arguments to an abstract heap; The abstract machine: from a run that answers true to what a row's law asks; Wire: the table; Wire: facts of the table. PRINTED BY wip/tools/ex1.py. -/
import Derived.Test.YtmodeilippcbnaaR04
import Derived.Attr
import Derived.ProofKit
import Derived.Carry
import Derived.Deep.Slices
import Derived.OpenShut
import Derived.Handed
import Derived.Test.YtmodeilippcbnaaProg
import Derived.KernelRfl
set_option linter.all false
section
namespace Go.Ab

section
variable (P : Program) (T : Tab) (ρ : Operand → Value) (H : Heap) (d : Option Tmp) (ty : TypeId) (ps : String) (af : Array Edge) (gd : Option (Nat × Bool))

def outV (H : Heap) (x : Option Value) : Option Out := x.map fun v => .val v H
theorem outV_some (v : Value) : outV H (some v) = some (.val v H) := (rfl)
def outH (v : Value) (x : Option Heap) : Option Out := x.map fun H => .val v H
theorem outH_some (v : Value) : outH v (some H) = some (.val v H) := (rfl)
def outA (H : Heap) (x : Option (AObj × (Nat → Value))) : Option Out := x.map fun p => .val (p.2 H.next) (H.push p.1)
theorem outA_some (a : AObj) (f : Nat → Value) : outA H (some (a, f)) = some (.val (f H.next) (H.push a)) := (rfl)
def aopK (o : Oper) (k : Kind) : Option Out := match k with
  | .read => outV H (aread P T ρ o H)
  | .alloc => outA H (aalloc T ρ o)
  | .eff => aeff T ρ o H
theorem aop_eq (o : Oper) : aop P T ρ o H = aopK P T ρ H o (kindOf T o.op) := by
  unfold aop aopK outV outA
  cases kindOf T o.op <;> rfl
theorem aopK_read (o : Oper) : aopK P T ρ H o .read = outV H (aread P T ρ o H) := (rfl)
theorem aopK_alloc (o : Oper) : aopK P T ρ H o .alloc = outA H (aalloc T ρ o) := (rfl)
theorem aopK_eff (o : Oper) : aopK P T ρ H o .eff = aeff T ρ o H := (rfl)

/-! #### kinds -/
theorem k_move (x : Operand) : kindOf T (.move x) = .read := (rfl)
theorem k_assign (x : Operand) : kindOf T (.assign x) = .read := (rfl)
theorem k_pick (a b c : Operand) : kindOf T (.pick a b c) = .read := (rfl)
theorem k_load (t : TypeId) (x : Operand) : kindOf T (.load t x) = .read := (rfl)
theorem k_nilCheck (x : Operand) : kindOf T (.nilCheck x) = .read := (rfl)
theorem k_fieldAddr (t : TypeId) (x : Operand) (f : Nat) : kindOf T (.fieldAddr t x f) = .read := (rfl)
theorem k_field (t : TypeId) (x : Operand) (f : Nat) : kindOf T (.field t x f) = .read := (rfl)
theorem k_indexAddr (t : TypeId) (x y : Operand) : kindOf T (.indexAddr t x y) = .read := (rfl)
theorem k_index (t : TypeId) (x y : Operand) : kindOf T (.index t x y) = .read := (rfl)
theorem k_build (t : TypeId) (p : Array (Nat × Operand)) : kindOf T (.build t p) = .read := (rfl)
theorem k_binOp (op : BinOp) (t : TypeId) (x y : Operand) (u : TypeId) : kindOf T (.binOp op t x y u) = .read := (rfl)
theorem k_unOp (op : UnOp) (t : TypeId) (x : Operand) : kindOf T (.unOp op t x) = .read := (rfl)
theorem k_makeFunc (f : Fn) (x y : Array Operand) : kindOf T (.makeFunc f x y) = .read := (rfl)
theorem k_slice (t : TypeId) (x : Operand) (l h m : Option Operand) : kindOf T (.slice t x l h m) = .read := (rfl)
theorem k_extract (x : Operand) (i : Nat) : kindOf T (.extract x i) = .read := (rfl)
theorem k_len (x : Array Operand) (t : Array TypeId) : kindOf T (.call ⟨.builtin .len, x, t⟩) = .read := (rfl)
theorem k_append (x : Array Operand) (t : Array TypeId) : kindOf T (.call ⟨.builtin .append, x, t⟩) = .eff := (rfl)
theorem k_copy (x : Array Operand) (t : Array TypeId) : kindOf T (.call ⟨.builtin .copy, x, t⟩) = .eff := (rfl)
theorem k_call (f : Operand) (x : Array Operand) (t : Array TypeId) : kindOf T (.call ⟨.value f, x, t⟩) = .eff := (rfl)
theorem k_alloc (t : TypeId) : kindOf T (.alloc t) = .alloc := (rfl)
theorem k_box (t : TypeId) (x : Operand) : kindOf T (.box t x) = .alloc := (rfl)
theorem k_buildSlice (t : TypeId) (n : Nat) (p : Array (Nat × Operand)) : kindOf T (.buildSlice t n p) = .alloc := (rfl)
theorem k_makeSlice (t : TypeId) (x y : Operand) : kindOf T (.makeSlice t x y) = .alloc := (rfl)
theorem k_store (t : TypeId) (x y : Operand) : kindOf T (.store t x y) = .eff := (rfl)
theorem k_defer (c : Call) : kindOf T (.defer c) = .eff := (rfl)
def kConv (x : Option TInfo) : Kind := match x.map TInfo.desc with
  | some (.slice _) => .eff
  | _ => .read
theorem k_convert (s t : TypeId) (x : Operand) : kindOf T (.convert s t x) = kConv (T.ty t) := (rfl)
theorem kConv_int (k : IntKind) (a b : Nat) (z : Option Value) (c : Bool) (l : List (Nat × Nat)) : kConv (some ⟨.int k, a, b, z, c, l⟩) = .read := (rfl)

/-! #### reads -/
theorem r_move (x : Operand) : aread P T ρ ⟨d, .move x, ty, ps, af, gd⟩ H = some (ρ x) := (rfl)
theorem r_assign (x : Operand) : aread P T ρ ⟨d, .assign x, ty, ps, af, gd⟩ H = some (ρ x) := (rfl)
def pickO (c a b : Value) : Option Value := match c with
  | .bool t => some (bif t then a else b)
  | _ => none
theorem r_pick (c a b : Operand) : aread P T ρ ⟨d, .pick c a b, ty, ps, af, gd⟩ H = pickO (ρ c) (ρ a) (ρ b) := (rfl)
theorem pick_bool (t : Bool) (a b : Value) : pickO (.bool t) a b = some (bif t then a else b) := (rfl)
def loadO (H : Heap) (i : Option TInfo) (v : Value) : Option Value := match v, i with
  | .pointer (some ⟨b, o, none⟩), some i => loadC H i b o
  | _, _ => none
theorem r_load (t : TypeId) (x : Operand) : aread P T ρ ⟨d, .load t x, ty, ps, af, gd⟩ H = loadO H (T.ty t) (ρ x) := (rfl)
def cellO (x : AObj) (o : Nat) : Option Value := match x with
  | .cells _ _ c => c[o]?
  | _ => none
def segO (x : AObj) (o n : Nat) : Option Value := match x with
  | .cells _ _ c => (seg c o n).map fun l => .agg l.toArray
  | _ => none
theorem load_1 (de : TypeDesc) (s by_ : Nat) (z : Option Value) (f : List (Nat × Nat)) (b o : Nat) : loadO H (some ⟨de, s, by_, z, false, f⟩) (.pointer (some ⟨b, o, none⟩)) = cellO (H.get b) o := by
  simp only [loadO, loadC, cellO]
  cases H.get b <;> rfl
theorem load_n (de : TypeDesc) (s by_ : Nat) (z : Option Value) (f : List (Nat × Nat)) (b o : Nat) : loadO H (some ⟨de, s, by_, z, true, f⟩) (.pointer (some ⟨b, o, none⟩)) = segO (H.get b) o s := by
  simp only [loadO, loadC, segO]
  cases H.get b <;> rfl
theorem cellO_cells (own : Bool) (e : Nat) (c : List Value) (o : Nat) : cellO (.cells own e c) o = c[o]? := (rfl)
theorem segO_cells (own : Bool) (e : Nat) (c : List Value) (o n : Nat) : segO (.cells own e c) o n = (seg c o n).map fun l => .agg l.toArray := (rfl)
def nilO (v : Value) : Option Value := match v with
  | .pointer (some a) => some (.pointer (some a))
  | .func (.func f) fi ca => some (.func (.func f) fi ca)
  | .func (.yield f) fi ca => some (.func (.yield f) fi ca)
  | .iface t v => some (.iface t v)
  | _ => none
theorem r_nilCheck (x : Operand) : aread P T ρ ⟨d, .nilCheck x, ty, ps, af, gd⟩ H = nilO (ρ x) := (rfl)
theorem nil_ptr (a : Addr) : nilO (.pointer (some a)) = some (.pointer (some a)) := (rfl)
theorem nil_fun (f : FuncId) (a b : Array Value) : nilO (.func (.func f) a b) = some (.func (.func f) a b) := (rfl)
def faO (i : Option TInfo) (f : Nat) (v : Value) : Option Value := match i with
  | some ⟨.struct _, _, _, _, _, fields⟩ => match fields[f]? with
      | some (off, sz) => bif Nat.beq sz 0 then none else addOff off v
      | none => none
  | _ => none
theorem r_fieldAddr (t : TypeId) (x : Operand) (f : Nat) : aread P T ρ ⟨d, .fieldAddr t x f, ty, ps, af, gd⟩ H = faO (T.ty t) f (ρ x) := (rfl)
def faO2 (x : Option (Nat × Nat)) (v : Value) : Option Value := match x with
  | some (off, sz) => bif Nat.beq sz 0 then none else addOff off v
  | none => none
theorem fa_struct (fs : Array Field) (s by_ : Nat) (z : Option Value) (ag : Bool) (fields : List (Nat × Nat)) (f : Nat) (v : Value) : faO (some ⟨.struct fs, s, by_, z, ag, fields⟩) f v = faO2 fields[f]? v := (rfl)
theorem fa_ptr (off sz b o : Nat) : faO2 (some (off, sz + 1)) (.pointer (some ⟨b, o, none⟩)) = some (.pointer (some ⟨b, o + off, none⟩)) := (rfl)
def iaO (T : Tab) (i : Option TInfo) (v n : Value) : Option Value := match i, v, n with
    | some ⟨.slice e, _, _, _, _, _⟩, .slice (some ⟨b, o, none⟩) len _, .int _ n => match T.ty e with
      | some i => if 0 ≤ n ∧ n < len then some (.pointer (some ⟨b, o + n.toNat * i.size, none⟩)) else none
      | none => none
    | some ⟨.array len e, _, _, _, _, _⟩, .pointer (some ⟨b, o, none⟩), .int _ n => match T.ty e with
      | some i => if 0 ≤ n ∧ n < len then some (.pointer (some ⟨b, o + n.toNat * i.size, none⟩)) else none
      | none => none
    | _, _, _ => none
theorem r_indexAddr (t : TypeId) (x y : Operand) : aread P T ρ ⟨d, .indexAddr t x y, ty, ps, af, gd⟩ H = iaO T (T.ty t) (ρ x) (ρ y) := (rfl)
def iaO2 (i : Option TInfo) (b o len : Nat) (n : Int) : Option Value := match i with
  | some i => if 0 ≤ n ∧ n < len then some (.pointer (some ⟨b, o + n.toNat * i.size, none⟩)) else none
  | none => none
theorem ia_slice (e : TypeId) (s by_ : Nat) (z : Option Value) (ag : Bool) (fl : List (Nat × Nat)) (b o len cap : Nat) (k : IntKind) (n : Int) : iaO T (some ⟨.slice e, s, by_, z, ag, fl⟩) (.slice (some ⟨b, o, none⟩) len cap) (.int k n) = iaO2 (T.ty e) b o len n := (rfl)
theorem ia_array (len : Nat) (e : TypeId) (s by_ : Nat) (z : Option Value) (ag : Bool) (fl : List (Nat × Nat)) (b o : Nat) (k : IntKind) (n : Int) : iaO T (some ⟨.array len e, s, by_, z, ag, fl⟩) (.pointer (some ⟨b, o, none⟩)) (.int k n) = iaO2 (T.ty e) b o len n := (rfl)
theorem ia_in (i : TInfo) (b o len j : Nat) (h : j < len) : iaO2 (some i) b o len (j : Int) = some (.pointer (some ⟨b, o + j * i.size, none⟩)) := by
  have h2 : ((j : Int)) < (len : Int) := by omega
  simp only [iaO2, h2, Int.natCast_nonneg, and_self, if_true, Int.toNat_natCast]
theorem ia_int (i : TInfo) (b o len : Nat) (n : Int) (h0 : 0 ≤ n) (h1 : n < len) : iaO2 (some i) b o len n = some (.pointer (some ⟨b, o + n.toNat * i.size, none⟩)) := by
  simp only [iaO2, h0, h1, and_self, if_true]
def binO (P : Program) (T : Tab) (ρ : Operand → Value) (o : Oper) (op : BinOp) (t : TypeId) (vx vy : Value) : Option Value := match vx, vy with
    | .int k a, .int k' b => intOp op k a k' b
    | vx, vy => match isEq op with
      | some s => match eqC T t vx vy with
        | some b => some (.bool (b == s))
        | none => flatRun P ρ o
      | none => flatRun P ρ o
theorem r_binOp (op : BinOp) (t : TypeId) (x y : Operand) (u : TypeId) : aread P T ρ ⟨d, .binOp op t x y u, ty, ps, af, gd⟩ H = binO P T ρ ⟨d, .binOp op t x y u, ty, ps, af, gd⟩ op t (ρ x) (ρ y) := (rfl)
theorem bin_int (o : Oper) (op : BinOp) (t : TypeId) (k k' : IntKind) (a b : Int) : binO P T ρ o op t (.int k a) (.int k' b) = intOp op k a k' b := (rfl)
theorem i_add (k : IntKind) (a b : Int) : intOp .add k a k b = some (.int k (k.wrap (a + b))) := by simp [intOp]
theorem i_sub (k : IntKind) (a b : Int) : intOp .sub k a k b = some (.int k (k.wrap (a - b))) := by simp [intOp]
theorem i_mul (k : IntKind) (a b : Int) : intOp .mul k a k b = some (.int k (k.wrap (a * b))) := by simp [intOp]
theorem i_quo (k : IntKind) (a b : Int) (h : b ≠ 0) : intOp .quo k a k b = some (.int k (k.wrap (a.tdiv b))) := by simp [intOp, h]
theorem i_eql (k : IntKind) (a b : Int) : intOp .eql k a k b = some (.bool (decide (a = b))) := by
  simp only [intOp, if_true]; congr 2
theorem i_neq (k : IntKind) (a b : Int) : intOp .neq k a k b = some (.bool (decide (a ≠ b))) := by
  simp only [intOp, if_true]; by_cases h : a = b <;> simp [h]
theorem i_lss (k : IntKind) (a b : Int) : intOp .lss k a k b = some (.bool (decide (a < b))) := by simp [intOp]
theorem i_leq (k : IntKind) (a b : Int) : intOp .leq k a k b = some (.bool (decide (a ≤ b))) := by simp [intOp]
theorem i_gtr (k : IntKind) (a b : Int) : intOp .gtr k a k b = some (.bool (decide (b < a))) := by simp [intOp]
theorem i_geq (k : IntKind) (a b : Int) : intOp .geq k a k b = some (.bool (decide (b ≤ a))) := by simp [intOp]
theorem i_and (k : IntKind) (a b : Int) : intOp .and k a k b = some (.int k (k.wrap ((BitVec.ofInt k.bits a &&& BitVec.ofInt k.bits b).toNat : Nat))) := by simp [intOp]
theorem i_xor (k : IntKind) (a b : Int) : intOp .xor k a k b = some (.int k (k.wrap ((BitVec.ofInt k.bits a ^^^ BitVec.ofInt k.bits b).toNat : Nat))) := by simp [intOp]
theorem r_not (t : TypeId) (x : Operand) (b : Bool) (h : ρ x = .bool b) : aread P T ρ ⟨d, .unOp .not t x, ty, ps, af, gd⟩ H = some (.bool (!b)) := by simp only [aread, h]
def exO (v : Value) (i : Nat) : Option Value := match v with
  | .tuple vs => vs.toList[i]?
  | _ => none
theorem r_extract (x : Operand) (i : Nat) : aread P T ρ ⟨d, .extract x i, ty, ps, af, gd⟩ H = exO (ρ x) i := (rfl)
theorem ex_tuple (l : List Value) (i : Nat) : exO (.tuple l.toArray) i = l[i]? := by simp [exO]
theorem r_makeFunc (f : FuncId) (x y : Array Operand) : aread P T ρ ⟨d, .makeFunc (.func f) x y, ty, ps, af, gd⟩ H = some (.func (.func f) (x.map ρ) (y.map ρ)) := (rfl)
theorem r_slice (t : TypeId) (x : Operand) (l h m : Option Operand) : aread P T ρ ⟨d, .slice t x l h m, ty, ps, af, gd⟩ H = sliceC T H t (ρ x) (l.map ρ) (h.map ρ) (m.map ρ) := (rfl)
def lenO (i : Option TInfo) (v : Value) : Option Value := match i.map TInfo.desc, v with
  | some (.slice _), .slice _ n _ => some (.int .i64 n)
  | _, _ => none
theorem r_len (x : Operand) (t e : TypeId) (s by_ : Nat) (z : Option Value) (ag : Bool) (fl : List (Nat × Nat)) (h : T.ty t = some ⟨.slice e, s, by_, z, ag, fl⟩) : aread P T ρ ⟨d, .call ⟨.builtin .len, #[x], #[t]⟩, ty, ps, af, gd⟩ H = lenO (T.ty t) (ρ x) := by
  simp only [aread, lenC, descOf, lenO, h, Option.map_some, List.getElem?_toArray, List.getElem?_cons_zero]
  cases ρ x <;> rfl
theorem len_slice (e : TypeId) (s by_ : Nat) (z : Option Value) (ag : Bool) (fl : List (Nat × Nat)) (a : Option Addr) (n c : Nat) : lenO (some ⟨.slice e, s, by_, z, ag, fl⟩) (.slice a n c) = some (.int .i64 n) := (rfl)
theorem r_convert (s t : TypeId) (x : Operand) (k0 k : IntKind) (n : Int) (k1 : IntKind) (a b a' b' : Nat) (z z' : Option Value) (c c' : Bool) (l l' : List (Nat × Nat)) (hs : T.ty s = some ⟨.int k0, a, b, z, c, l⟩) (ht : T.ty t = some ⟨.int k, a', b', z', c', l'⟩) (hx : ρ x = .int k1 n) :
    aread P T ρ ⟨d, .convert s t x, ty, ps, af, gd⟩ H = some (.int k (k.wrap n)) := by
  simp only [aread, descOf, hs, ht, hx, Option.map_some]
theorem r_build (t : TypeId) (p : List (Nat × Operand)) : aread P T ρ ⟨d, .build t p.toArray, ty, ps, af, gd⟩ H = fillBuild T t (p.map fun q => (q.1, ρ q.2)) := by simp only [aread]

/-! #### new blocks -/
def alO (i : Option TInfo) : Option (AObj × (Nat → Value)) := match i with
  | some ⟨_, sz, _, some z, _, _⟩ => if z.cells.toList.all oneCell = true then some (.cells true sz z.cells.toList, fun b => .pointer (some ⟨b, 0, none⟩)) else none
  | _ => none
theorem a_alloc (t : TypeId) : aalloc T ρ ⟨d, .alloc t, ty, ps, af, gd⟩ = alO (T.ty t) := (rfl)
def bxO (i : Option TInfo) (v : Value) : Option (AObj × (Nat → Value)) := if v.cells.toList.all oneCell = true then
      match i with
      | some i => some (.cells true i.size v.cells.toList, fun b => .pointer (some ⟨b, 0, none⟩))
      | none => none
    else none
theorem a_box (t : TypeId) (x : Operand) : aalloc T ρ ⟨d, .box t x, ty, ps, af, gd⟩ = bxO (T.ty t) (ρ x) := (rfl)

/-! #### effects -/
def stO (H : Heap) (i : Option TInfo) (a v : Value) : Option Out := match a, i with
  | .pointer (some ⟨b, o, none⟩), some i => outH undef (storeC H i b o v)
  | _, _ => none
theorem e_store (t : TypeId) (a v : Operand) : aeff T ρ ⟨d, .store t a v, ty, ps, af, gd⟩ H = stO H (T.ty t) (ρ a) (ρ v) := (rfl)
theorem st_ptr (i : TInfo) (b o : Nat) (v : Value) : stO H (some i) (.pointer (some ⟨b, o, none⟩)) v = outH undef (storeC H i b o v) := (rfl)
def hasFn (T : Tab) (f : FuncId) : Bool := match T.fn f with
  | some fn => fn.body.isSome
  | none => false
theorem e_call (f : Operand) (x : Array Operand) (t : Array TypeId) : aeff T ρ ⟨d, .call ⟨.value f, x, t⟩, ty, ps, af, gd⟩ H = fnOf T (ρ f) (x.map ρ) := by simp only [aeff]
theorem fn_call (g : FuncId) (a b c : Array Value) (h : hasFn T g = true) : fnOf T (.func (.func g) a b) c = some (.call g (a ++ c ++ b)) := by
  unfold hasFn at h
  simp only [fnOf]
  split at h
  · rename_i fn hfn
    rw [hfn]; simp [h]
  · cases h
theorem fn_call0 (g : FuncId) (c : Array Value) (h : hasFn T g = true) : fnOf T (.func (.func g) #[] #[]) c = some (.call g c) := by
  rw [fn_call T g _ _ _ h]; simp
theorem e_append (s x : Operand) (t : Array TypeId) : aeff T ρ ⟨d, .call ⟨.builtin .append, #[s, x], t⟩, ty, ps, af, gd⟩ H = appendC T H t (ρ s) (ρ x) := by simp only [aeff]
theorem e_copy (s x : Operand) (t : Array TypeId) : aeff T ρ ⟨d, .call ⟨.builtin .copy, #[s, x], t⟩, ty, ps, af, gd⟩ H = copyC T H t (ρ s) (ρ x) := by simp only [aeff]
end

/-! #### the frame -/
section
variable (tm : Tr Value)
theorem ev_tmp (t : Nat) : evalT tm (.tmp t) = (tm.get t).getD undef := (rfl)
theorem ev_const (v : Value) : evalT tm (.const v) = v := (rfl)
theorem ev_func (f : FuncId) : evalT tm (.func f) = .func (.func f) #[] #[] := (rfl)
theorem put_some (d : Tmp) (v : Value) : putT tm (some d) v = tm.set 9 d v := (rfl)
theorem put_none (v : Value) : putT tm none v = tm := (rfl)
theorem wanted_none (ops : Array Oper) (d : Option Tmp) (op : Op) (ty : TypeId) (ps : String) (af : Array Edge) : wantedC ops tm ⟨d, op, ty, ps, af, none⟩ = true := (rfl)
def gBool (v : Value) (b : Bool) : Bool := match v with
  | .bool x => x == b
  | _ => false
def gOf (tm : Tr Value) (d : Option Tmp) (b : Bool) : Bool := match d with
  | some d => gBool (evalT tm (.tmp d)) b
  | none => false
theorem wanted_some (ops : Array Oper) (d : Option Tmp) (op : Op) (ty : TypeId) (ps : String) (af : Array Edge) (j : Nat) (b : Bool) : wantedC ops tm ⟨d, op, ty, ps, af, some (j, b)⟩ = gOf tm ((ops[j]?).bind (·.dst)) b := (rfl)
theorem gOf_some (d : Tmp) (b : Bool) : gOf tm (some d) b = gBool (evalT tm (.tmp d)) b := (rfl)
theorem gBool_t (x : Bool) : gBool (.bool x) true = x := by cases x <;> rfl
theorem gBool_f (x : Bool) : gBool (.bool x) false = !x := by cases x <;> rfl
theorem init_nil (k : Nat) (t : Tr Value) : initTm k [] t = t := (rfl)
theorem init_cons (k : Nat) (v : Value) (l : List Value) (t : Tr Value) : initTm k (v :: l) t = initTm (k + 1) l (t.set 9 k v) := (rfl)
theorem res_nil (T : Tab) (H : Heap) : resultsC T tm H [] = some [] := (rfl)
theorem res_tmp (T : Tab) (H : Heap) (t : Nat) (rs : List ResultVar) : resultsC T tm H (.tmp t :: rs) = (resultsC T tm H rs).map fun l => evalT tm (.tmp t) :: l := (rfl)
theorem KL_one (P : Program) (T : Tab) (ng : Nat) (tm : Tr Value) (Q : Ret → Heap → Prop) (t : Nat) (H : Heap) : KL P T ng [.tmp t] tm Q [] H = Q (.ret (evalT tm (.tmp t))) H := by
  simp [KL, resultsC, retOf]
end

theorem CN_b {P : Program} {T : Tab} {ng : Nat} {x y : Code} {k : Exit → St → Prop} {st : St} {b : Bool} (h1 : b = true → wpc P T ng x k st) (h2 : b = false → wpc P T ng y k st) : CN P T ng x y k st (.bool b) := by
  cases b
  · rw [CN_false]; exact h2 rfl
  · rw [CN_true]; exact h1 rfl
def RWn (P : Program) (T : Tab) (ng : Nat) (ops : Array Oper) (k : Exit → St → Prop) (o : Oper) (rest : List Oper) (st : St) (b : Bool) : Prop := RW P T ng ops k o rest st (!b)
theorem RW_not {P : Program} {T : Tab} {ng : Nat} {ops : Array Oper} {k : Exit → St → Prop} {o : Oper} {rest : List Oper} {st : St} {b : Bool} : RW P T ng ops k o rest st (!b) = RWn P T ng ops k o rest st b := (rfl)
theorem RWn_b {P : Program} {T : Tab} {ng : Nat} {ops : Array Oper} {k : Exit → St → Prop} {o : Oper} {rest : List Oper} {st : St} {b : Bool} (h1 : b = true → RW P T ng ops k o rest st false) (h2 : b = false → RW P T ng ops k o rest st true) : RWn P T ng ops k o rest st b := by
  cases b
  · exact h2 rfl
  · exact h1 rfl
theorem RW_b {P : Program} {T : Tab} {ng : Nat} {ops : Array Oper} {k : Exit → St → Prop} {o : Oper} {rest : List Oper} {st : St} {b : Bool} (h1 : b = true → RW P T ng ops k o rest st true) (h2 : b = false → RW P T ng ops k o rest st false) : RW P T ng ops k o rest st b := by
  cases b
  · exact h2 rfl
  · exact h1 rfl

/-! #### heaps -/
theorem H_get_new (H : Heap) (a : AObj) : (H.push a).get H.next = a := by rw [Heap.get_push, if_pos rfl]
theorem H_get_old (H : Heap) (a : AObj) (b : Nat) (h : b < H.next) : (H.push a).get b = H.get b := by rw [Heap.get_push, if_neg (by omega)]
theorem H_put_same (H : Heap) (a : AObj) (b : Nat) : (H.put b a).get b = a := by rw [Heap.get_put, if_pos rfl]
theorem H_put_other (H : Heap) (a : AObj) (b j : Nat) (h : j ≠ b) : (H.put b a).get j = H.get j := by rw [Heap.get_put, if_neg h]

/-- nothing that was there is touched -/
structure Ext (H H' : Heap) : Prop where
  le : H.next ≤ H'.next
  get : ∀ b, b < H.next → H'.get b = H.get b
theorem Ext.refl (H : Heap) : Ext H H := ⟨Nat.le_refl _, fun _ _ => rfl⟩
theorem Ext.trans {H H' H'' : Heap} (h : Ext H H') (h' : Ext H' H'') : Ext H H'' := ⟨Nat.le_trans h.le h'.le, fun b hb => (h'.get b (Nat.lt_of_lt_of_le hb h.le)).trans (h.get b hb)⟩
theorem Ext.push {H0 H : Heap} (h : Ext H0 H) (a : AObj) : Ext H0 (H.push a) := h.trans ⟨Nat.le_succ _, fun b hb => H_get_old H a b hb⟩
theorem Ext.put {H0 H : Heap} (h : Ext H0 H) {b : Nat} (hb : H0.next ≤ b) (a : AObj) : Ext H0 (H.put b a) := ⟨h.le, fun j hj => by rw [H_put_other H a b j (by omega)]; exact h.get j hj⟩

attribute [irreducible] RWn aopK outV outH outA

end Go.Ab
end
section
namespace Go.Ab

/-! ### lists of elements of one size -/
section
variable {α : Type} {f : α → List Value} {m : Nat}

theorem fm_length (hf : ∀ x, (f x).length = m) : ∀ l : List α, (l.flatMap f).length = l.length * m
  | [] => by simp
  | x :: l => by simp only [List.flatMap_cons, List.length_append, hf, fm_length hf l, List.length_cons, Nat.succ_mul]; omega
theorem fm_get (hf : ∀ x, (f x).length = m) : ∀ (l : List α) (i k : Nat) (x : α), l[i]? = some x → k < m → (l.flatMap f)[i * m + k]? = (f x)[k]?
  | [], i, k, x, h, _ => by simp at h
  | y :: l, 0, k, x, h, hk => by
    simp at h; subst h
    simp only [List.flatMap_cons, Nat.zero_mul, Nat.zero_add]
    rw [List.getElem?_append_left (by rw [hf]; exact hk)]
  | y :: l, i + 1, k, x, h, hk => by
    simp at h
    simp only [List.flatMap_cons]
    rw [List.getElem?_append_right (by rw [hf, Nat.succ_mul]; omega), hf, show (i + 1) * m + k - m = i * m + k by rw [Nat.succ_mul]; omega]
    exact fm_get hf l i k x h hk
theorem fm_get0 (hf : ∀ x, (f x).length = m) (l : List α) (i : Nat) (x : α) (h : l[i]? = some x) (hm : 0 < m) : (l.flatMap f)[i * m]? = (f x)[0]? := fm_get hf l i 0 x h hm
theorem fm_seg (hf : ∀ x, (f x).length = m) : ∀ (l : List α) (i : Nat) (x : α), l[i]? = some x → seg (l.flatMap f) (i * m) m = some (f x)
  | [], i, x, h => by simp at h
  | y :: l, 0, x, h => by
    simp at h; subst h
    unfold seg
    rw [fm_length hf, Nat.zero_mul, Nat.zero_add, if_pos (by simp only [List.length_cons, Nat.succ_mul]; omega)]
    simp only [List.drop_zero, List.flatMap_cons]
    rw [List.take_append_of_le_length (by rw [hf]; omega), List.take_of_length_le (by rw [hf]; omega)]
  | y :: l, i + 1, x, h => by
    simp at h
    have ih := fm_seg hf l i x h
    unfold seg at ih ⊢
    rw [fm_length hf] at ih ⊢
    split at ih
    · rename_i hle
      rw [if_pos (by simp only [List.length_cons, Nat.succ_mul]; omega)]
      simp only [List.flatMap_cons]
      rw [show (i + 1) * m = (f y).length + i * m by rw [hf, Nat.succ_mul]; omega, List.drop_append, List.drop_of_length_le (by omega), List.nil_append, Nat.add_sub_cancel_left]
      exact ih
    · cases ih
end



/-! ### wrapping -/
theorem wrap_i64 (n : Int) (h1 : -9223372036854775808 ≤ n) (h2 : n < 9223372036854775808) : IntKind.i64.wrap n = n := by
  have e1 : (2 : Int) ^ 64 = 18446744073709551616 := by decide
  have e2 : (2 : Int) ^ (64 - 1) = 9223372036854775808 := by decide
  simp only [IntKind.wrap, IntKind.bits, IntKind.signed, Bool.true_and, decide_eq_true_eq, e1, e2]
  split <;> omega
theorem wrap_u32 (n : Int) (h1 : 0 ≤ n) (h2 : n < 4294967296) : IntKind.u32.wrap n = n := by
  simp only [IntKind.wrap, IntKind.bits, IntKind.signed, Bool.false_and, Bool.false_eq_true, if_false]
  omega

end Go.Ab
end
section
namespace Go.Ab

/-- all but some blocks are as they were -/
structure Mod (X : Nat → Prop) (H H' : Heap) : Prop where
  le : H.next ≤ H'.next
  get : ∀ b, b < H.next → ¬ X b → H'.get b = H.get b
theorem Mod.refl (X : Nat → Prop) (H : Heap) : Mod X H H := ⟨Nat.le_refl _, fun _ _ _ => rfl⟩

/-- a slice of one's own: its block, which holds it and no more -/
inductive Own1 (H : Heap) (sz : Nat) (c : List Value) : Value → Nat → Option Nat → Prop where
  | nil (h : c = []) : Own1 H sz c (.slice none 0 0) 0 none
  | blk (k n : Nat) (h1 : k < H.next) (h2 : H.get k = .cells true sz c) (h3 : c.length = n * sz) : Own1 H sz c (.slice (some ⟨k, 0, none⟩) n n) n (some k)



theorem Own1.at {H : Heap} {sz n : Nat} {v : Value} {c : List Value} {k : Nat} {b : Option Nat} (h : Own1 H sz c v n b) (hb : b = some k) : k < H.next ∧ H.get k = .cells true sz c ∧ v = .slice (some ⟨k, 0, none⟩) n n ∧ c.length = n * sz := by
  cases h with
  | nil h => cases hb
  | blk k n h1 h2 h3 => cases hb; exact ⟨h1, h2, rfl, h3⟩
theorem Own1.len {H : Heap} {sz n : Nat} {v : Value} {c : List Value} {b : Option Nat} (h : Own1 H sz c v n b) : ∃ a, v = .slice a n n := by
  cases h <;> exact ⟨_, rfl⟩


theorem seg_all (c : List Value) (n : Nat) (h : c.length = n) : seg c 0 n = some c := by
  unfold seg
  rw [if_pos (by omega)]
  simp [← h]


section
variable {T : Tab} {t0 t1 e e1 : TypeId} {de : TypeDesc} {sz by_ : Nat} {z : Value} {ag : Bool} {fl : List (Nat × Nat)} {a1 a2 b1 b2 : Nat} {a3 b3 : Option Value} {a4 b4 : Bool} {a5 b5 : List (Nat × Nat)}

theorem append_ok (h0 : T.ty t0 = some ⟨.slice e, a1, a2, a3, a4, a5⟩) (h1 : T.ty t1 = some ⟨.slice e1, b1, b2, b3, b4, b5⟩) (he : T.ty e = some ⟨de, sz, by_, some z, ag, fl⟩) (hz : z.cells.toList.length = sz)
    {H : Heap} {v x : Value} {n m : Nat} {c nw : List Value} {b : Option Nat} (hv : Own1 H sz c v n b) (hx : ∃ a cap, x = .slice a m cap) (hh : headCells H (m * sz) x = some nw) (hl : nw.length = m * sz) (hone : nw.all oneCell = true) (hb1 : (n + m) * by_ ≤ 140737488355328) (hb2 : n + m < 9223372036854775807) :
    ∃ v' H' b', appendC T H #[t0, t1] v x = some (.val v' H') ∧ Own1 H' sz (c ++ nw) v' (n + m) b' ∧ Mod (fun j => b = some j) H H' ∧ (b' = b ∨ b' = some H.next) ∧ (m ≠ 0 → b' = some H.next) := by
  obtain ⟨a, cap, rfl⟩ := hx
  have hnews : newsOf T H ⟨de, sz, by_, some z, ag, fl⟩ (.slice a m cap) (.slice e1) = some (m, nw) := by simp [newsOf, appendNews, hh]
  have hA : appendC T H #[t0, t1] v (.slice a m cap) = match (generalizing := false) v with
        | .slice none 0 0 =>
          if m = 0 then some (.val (.slice none 0 0) H)
          else if m * by_ ≤ 140737488355328 ∧ m < 9223372036854775807 then
            some (.val (.slice (some ⟨H.next, 0, none⟩) m m) (H.push (.cells true sz nw))) else none
        | .slice (some ⟨b, o, none⟩) len cap =>
          match H.get b with
          | .cells true esz c =>
            if esz = sz ∧ o + len * sz ≤ c.length then
              if len + m ≤ cap then
                if o + (len + m) * sz ≤ c.length then
                  some (.val (.slice (some ⟨b, o, none⟩) (len + m) cap) (H.put b (.cells true esz (setSeg c (o + len * sz) nw)))) else none
              else if (len + m) * by_ ≤ 140737488355328 ∧ len + m < 9223372036854775807 then
                some (.val (.slice (some ⟨H.next, 0, none⟩) (len + m) (len + m)) ((H.put b .dead).push (.cells true sz ((c.drop o).take (len * sz) ++ nw)))) else none
            else none
          | _ => none
        | _ => none := by
    simp only [appendC, List.getElem?_toArray, List.getElem?_cons_zero, List.getElem?_cons_succ, h0, h1, he, Option.map_some, hnews, hz, hone, and_self, if_true]
    rfl
  rw [hA]
  cases hv with
  | nil hc =>
    subst hc
    simp only [Nat.zero_add] at *
    by_cases hm : m = 0
    · subst hm
      have hnw : nw = [] := by simpa using hl
      subst hnw
      exact ⟨_, H, none, by simp, .nil rfl, .refl _ _, .inl rfl, fun h => absurd rfl h⟩
    · refine ⟨_, H.push (.cells true sz nw), some H.next, by rw [if_neg hm, if_pos ⟨hb1, hb2⟩], .blk _ _ (Nat.lt_succ_self _) (H_get_new _ _) (by simpa using hl), ⟨Nat.le_succ _, fun j hj _ => H_get_old _ _ _ hj⟩, .inr rfl, fun _ => rfl⟩
  | blk k n k1 k2 k3 =>
    simp only [k2]
    rw [if_pos ⟨trivial, by omega⟩]
    by_cases hm : m = 0
    · subst hm
      have hnw : nw = [] := by simpa using hl
      subst hnw
      rw [if_pos (by omega), if_pos (by simp [k3])]
      refine ⟨_, _, some k, rfl, .blk _ _ k1 (by rw [H_put_same]; simp [setSeg]) (by simpa using k3), ⟨Nat.le_refl _, fun j hj hn => H_put_other _ _ _ _ (fun e => hn (by rw [e]))⟩, .inl rfl, fun h => absurd rfl h⟩
    · rw [if_neg (by omega), if_pos ⟨hb1, hb2⟩]
      refine ⟨_, _, some H.next, rfl, .blk _ _ (Nat.lt_succ_self _) ?_ ?_, ⟨Nat.le_succ _, fun j hj hn => ?_⟩, .inr rfl, fun _ => rfl⟩
      · have : ((H.put k .dead).push (.cells true sz (List.take (n * sz) (List.drop 0 c) ++ nw))).get H.next = .cells true sz (List.take (n * sz) (List.drop 0 c) ++ nw) := H_get_new _ _
        rw [this, List.drop_zero, List.take_of_length_le (by omega)]
      · simp [k3, hl, Nat.add_mul]
      · rw [H_get_old _ _ _ (show j < (H.put k .dead).next from hj), H_put_other _ _ _ _ (fun e => hn (by rw [e]))]
end

end Go.Ab
end
section
namespace Go.Ab




section
variable {P : Program} {T : Tab} {ng : Nat}


end

theorem Ext.skip {H0 H : Heap} (h : Ext H0 H) (n : Nat) : Ext H0 (H.skip n) := h.trans ⟨Nat.le_add_right _ _, fun _ _ => rfl⟩
end Go.Ab
end
section
namespace Go.Ab

section
variable (P : Program) (T : Tab) (ρ : Operand → Value) (H : Heap) (d : Option Tmp) (ty : TypeId) (ps : String) (af : Array Edge) (gd : Option (Nat × Bool))

def fbO (i : Option TInfo) (parts : List (Nat × Value)) (dflt : Option Value) : Option Value := match i with
  | some ⟨.struct _, _, _, some z, _, fields⟩ => (fillL (fun i => fields[i]?) z.cells.toList parts).map fun l => .agg l.toArray
  | _ => dflt
theorem fb_eq (t : TypeId) (parts : List (Nat × Value)) : fillBuild T t parts = fbO (T.ty t) parts (fillBuild T t parts) := by
  unfold fbO
  split
  · rename_i heq; simp only [fillBuild, heq]
  · rfl
def fillO (fields : List (Nat × Nat)) (cells : List Value) (parts : List (Nat × Value)) : Option Value := (fillL (fun i => fields[i]?) cells parts).map fun l => .agg l.toArray
theorem fb_struct (fs : Array Field) (s b : Nat) (l : List Value) (ag : Bool) (fields : List (Nat × Nat)) (parts : List (Nat × Value)) (dflt : Option Value) :
    fbO (some ⟨.struct fs, s, b, some (.agg l.toArray), ag, fields⟩) parts dflt = fillO fields l parts := (rfl)
theorem r_buildS (t : TypeId) (p : List (Nat × Operand)) : aread P T ρ ⟨d, .build t p.toArray, ty, ps, af, gd⟩ H = fbO (T.ty t) (p.map fun q => (q.1, ρ q.2)) (fillBuild T t (p.map fun q => (q.1, ρ q.2))) := by
  rw [← fb_eq]; exact r_build P T ρ H d ty ps af gd t p
theorem fillO_nil (fields : List (Nat × Nat)) (cells : List Value) : fillO fields cells [] = some (.agg cells.toArray) := (rfl)
def fillP (fields : List (Nat × Nat)) (cells : List Value) (rest : List (Nat × Value)) (v : Value) (q : Option (Nat × Nat)) : Option Value := match q with
  | none => none
  | some q => if v.cells.toList.length = q.2 ∧ q.1 + q.2 ≤ cells.length then fillO fields (setSeg cells q.1 v.cells.toList) rest else none
theorem fillO_cons (fields : List (Nat × Nat)) (cells : List Value) (i : Nat) (v : Value) (rest : List (Nat × Value)) : fillO fields cells ((i, v) :: rest) = fillP fields cells rest v fields[i]? := by
  unfold fillP fillO
  simp only [fillL]
  cases fields[i]? with
  | none => rfl
  | some q => simp only; split <;> rfl
theorem fillP_some (fields : List (Nat × Nat)) (cells : List Value) (rest : List (Nat × Value)) (v : Value) (o n : Nat) (h : v.cells.toList.length = n) (h2 : o + n ≤ cells.length) : fillP fields cells rest v (some (o, n)) = fillO fields (setSeg cells o v.cells.toList) rest := by
  simp only [fillP, h, h2, and_self, if_true]

/-! slices -/
def bsO (T : Tab) (i : Option TInfo) (len : Nat) (parts : List (Nat × Value)) : Option (AObj × (Nat → Value)) := match i with
    | some ⟨.slice e, _, _, _, _, _⟩ => match T.ty e with
      | some i => if len * i.size ≤ 16777216 then
          match i.zero with
          | some z => if z.cells.toList.length = i.size then
              match fillL (fun k => some (k * i.size, i.size)) (rep z.cells.toList len) parts with
              | some cs => if cs.all oneCell = true then some (.cells true i.size cs, fun b => .slice (some ⟨b, 0, none⟩) len len) else none
              | none => none
            else none
          | none => none
        else none
      | none => none
    | _ => none
theorem a_buildSlice (t : TypeId) (n : Nat) (p : List (Nat × Operand)) : aalloc T ρ ⟨d, .buildSlice t n p.toArray, ty, ps, af, gd⟩ = bsO T (T.ty t) n (p.map fun q => (q.1, ρ q.2)) := (rfl)
def bsE (i : Option TInfo) (len : Nat) (parts : List (Nat × Value)) : Option (AObj × (Nat → Value)) := match i with
      | some i => if len * i.size ≤ 16777216 then
          match i.zero with
          | some z => if z.cells.toList.length = i.size then
              match fillL (fun k => some (k * i.size, i.size)) (rep z.cells.toList len) parts with
              | some cs => if cs.all oneCell = true then some (.cells true i.size cs, fun b => .slice (some ⟨b, 0, none⟩) len len) else none
              | none => none
            else none
          | none => none
        else none
      | none => none
theorem bs_slice (e : TypeId) (s by_ : Nat) (z : Option Value) (ag : Bool) (fl : List (Nat × Nat)) (n : Nat) (parts : List (Nat × Value)) : bsO T (some ⟨.slice e, s, by_, z, ag, fl⟩) n parts = bsE (T.ty e) n parts := (rfl)
theorem bsE_0 (de : TypeDesc) (s by_ : Nat) (z : Value) (ag : Bool) (fl : List (Nat × Nat)) (hz : z.cells.toList.length = s) : bsE (some ⟨de, s, by_, some z, ag, fl⟩) 0 [] = some (.cells true s [], fun b => .slice (some ⟨b, 0, none⟩) 0 0) := by
  simp [bsE, hz, fillL, rep]
theorem setSeg_whole : ∀ (c vs : List Value), c.length = vs.length → setSeg c 0 vs = vs := by
  intro c vs h
  apply List.ext_getElem?
  intro j
  rw [get_setSeg vs c 0 j (by omega)]
  split
  · simp
  · rename_i hn
    rw [List.getElem?_eq_none (by omega), List.getElem?_eq_none (by omega)]
theorem bsE_1 (de : TypeDesc) (s by_ : Nat) (z v : Value) (ag : Bool) (fl : List (Nat × Nat)) (hz : z.cells.toList.length = s) (hs : s ≤ 16777216) (hv : v.cells.toList.length = s) (ho : v.cells.toList.all oneCell = true) :
    bsE (some ⟨de, s, by_, some z, ag, fl⟩) 1 [(0, v)] = some (.cells true s v.cells.toList, fun b => .slice (some ⟨b, 0, none⟩) 1 1) := by
  have h1 : rep z.cells.toList 1 = z.cells.toList := by simp [rep]
  have h2 : fillL (fun k => some (k * s, s)) z.cells.toList [(0, v)] = some v.cells.toList := by
    simp only [fillL, Nat.zero_mul, Nat.zero_add, hv, hz, Nat.le_refl, and_self, if_true]
    rw [setSeg_whole _ _ (by omega)]
  simp only [bsE, Nat.one_mul, hs, if_true, hz, h1, h2, ho]
/-! stores -/
def stG (x : AObj) (H : Heap) (s b o : Nat) (v : Value) : Option Heap := match x with
  | .cells true e c => if v.cells.toList.length = s ∧ v.cells.toList.all oneCell = true ∧ o + s ≤ c.length then some (H.put b (.cells true e (setSeg c o v.cells.toList))) else none
  | _ => none
theorem st_ptr2 (i : TInfo) (b o : Nat) (v : Value) : stO H (some i) (.pointer (some ⟨b, o, none⟩)) v = outH undef (stG (H.get b) H i.size b o v) := by
  rw [st_ptr]
  unfold storeC stG
  cases H.get b <;> rfl
theorem stG_cells (s b o e : Nat) (v : Value) (c : List Value) : stG (.cells true e c) H s b o v = if v.cells.toList.length = s ∧ v.cells.toList.all oneCell = true ∧ o + s ≤ c.length then some (H.put b (.cells true e (setSeg c o v.cells.toList))) else none := (rfl)
end

theorem vc_int (k : IntKind) (n : Int) : (Value.int k n).cells = #[.int k n] := (rfl)
theorem vc_bool (b : Bool) : (Value.bool b).cells = #[.bool b] := (rfl)
theorem vc_string (b : ByteArray) : (Value.string b).cells = #[.string b] := (rfl)
theorem vc_slice (a : Option Addr) (n c : Nat) : (Value.slice a n c).cells = #[.slice a n c] := (rfl)
theorem vc_ptr (a : Option Addr) : (Value.pointer a).cells = #[.pointer a] := (rfl)
theorem vc_agg (a : Array Value) : (Value.agg a).cells = a := (rfl)
theorem oc_int (k : IntKind) (n : Int) : oneCell (.int k n) = true := (rfl)
theorem oc_bool (b : Bool) : oneCell (.bool b) = true := (rfl)
theorem oc_string (b : ByteArray) : oneCell (.string b) = true := (rfl)
theorem oc_slice (a : Option Addr) (n c : Nat) : oneCell (.slice a n c) = true := (rfl)
theorem oc_ptr (a : Option Addr) : oneCell (.pointer a) = true := (rfl)
theorem arr_list (l : List Value) : l.toArray.toList = l := (rfl)
end Go.Ab
end
section
namespace Go.Ab

def hfT (i : Option TInfo) : Bool := match i.map TInfo.desc with
  | some (.slice _) => true
  | _ => false
def hfC (i : Option TInfo) : Bool := match i.map TInfo.desc with
  | some (.int _) => true
  | _ => false
/-- reads that ask not for the heap -/
def hf (T : Tab) : Op → Bool
  | .move _ | .assign _ | .pick _ _ _ | .nilCheck _ | .fieldAddr _ _ _ | .field _ _ _ | .indexAddr _ _ _ | .index _ _ _ | .build _ _ | .binOp _ _ _ _ _ | .unOp _ _ _ | .makeFunc _ _ _ | .extract _ _ => true
  | .convert _ t _ => hfC (T.ty t)
  | .call c => match c.callee, c.argTypes[0]? with
    | .builtin .len, some t => hfT (T.ty t)
    | _, _ => false
  | _ => false

theorem hf_free {P : Program} {T : Tab} {ρ : Operand → Value} {o : Oper} (h : hf T o.op = true) (H H' : Heap) : aread P T ρ o H = aread P T ρ o H' := by
  obtain ⟨d, op, ty, ps, af, gd⟩ := o
  cases op with
  | convert s t x =>
    simp only [hf, hfC] at h
    simp only [aread, descOf]
    split at h
    · rename_i k hk
      rw [hk]
      cases Option.map (fun x => x.desc) (T.ty s) with
      | none => rfl
      | some d => cases d <;> cases ρ x <;> rfl
    · cases h
  | call c =>
    simp only [hf] at h
    split at h
    · rename_i t h1 h2
      simp only [aread, h1, h2]
      simp only [hfT] at h
      split at h
      · rename_i e he
        cases c.args[0]? with
        | none => rfl
        | some x => simp only [lenC, descOf, he]; cases ρ x <;> rfl
      · cases h
    · cases h
  | _ => first | rfl | (simp only [hf, Bool.false_eq_true] at h)

section
variable (P : Program) (T : Tab) (ng : Nat) (ops : Array Oper) (B : List Nat) (base : Nat) (k : DS → Prop)

def bOf (i : Nat) : Nat := B.toArray.getD i 0

def DX : List Oper → DS → Prop
  | [], s => k s
  | o :: rest, s =>
    bif wantedC ops s.tm o then
      match kindOf T o.op with
      | .read => bif hf T o.op then
          match aread P T (evalT s.tm) o s.G with
          | some v => DX rest { s with i := s.i + 1, tm := putT s.tm o.dst v }
          | none => False
        else match aread P T (evalT s.tm) o (withA s.G s.inc base (bOf B s.i) s.objs) with
        | some v => BackP P T base (evalT s.tm) o v (bOf B s.i) s.effs s.objs s.hist ∧ DX rest { s with i := s.i + 1, tm := putT s.tm o.dst v, rds := (s.i, s.tm, o, v) :: s.rds }
        | none => False
      | .alloc => match aalloc T (evalT s.tm) o with
        | some p => DX rest { s with i := s.i + 1, tm := putT s.tm o.dst (p.2 (base + s.i)), objs := (s.i, p.1) :: s.objs }
        | none => False
      | .eff => s.effs &&& bOf B s.i = s.effs ∧ match aeff T (evalT s.tm) o (withA s.G s.inc base (bOf B s.i) s.objs) with
        | some (.val v H) => OnP P T B.toArray base H (s.inc ||| bOf B s.i) (bOf B s.i) s.objs s.rds ∧
            DX rest { s with i := s.i + 1, tm := putT s.tm o.dst v, G := H, inc := s.inc ||| bOf B s.i, effs := s.effs ||| 2 ^ s.i, hist := (s.G, s.inc, s.effs) :: s.hist }
        | some (.call f args) => SemC P ng f args (withA s.G s.inc base (bOf B s.i) s.objs) fun r H => match r with
          | .ret v => OnP P T B.toArray base H (s.inc ||| bOf B s.i) (bOf B s.i) s.objs s.rds ∧
              DX rest { s with i := s.i + 1, tm := putT s.tm o.dst v, G := H, inc := s.inc ||| bOf B s.i, effs := s.effs ||| 2 ^ s.i, hist := (s.G, s.inc, s.effs) :: s.hist }
          | .pan _ => False
        | _ => False
    else DX rest { s with i := s.i + 1, tm := putT s.tm o.dst undef }

def XD (o : Oper) (rest : List Oper) (s : DS) (r : Ret) (H : Heap) : Prop := match r with
  | .ret v => OnP P T B.toArray base H (s.inc ||| bOf B s.i) (bOf B s.i) s.objs s.rds ∧
      DX P T ng ops B base k rest { s with i := s.i + 1, tm := putT s.tm o.dst v, G := H, inc := s.inc ||| bOf B s.i, effs := s.effs ||| 2 ^ s.i, hist := (s.G, s.inc, s.effs) :: s.hist }
  | .pan _ => False
def XF (o : Oper) (rest : List Oper) (s : DS) (x : Option Value) : Prop := match x with
  | some v => DX P T ng ops B base k rest { s with i := s.i + 1, tm := putT s.tm o.dst v }
  | none => False
def XR (o : Oper) (rest : List Oper) (s : DS) (x : Option Value) : Prop := match x with
  | some v => BackP P T base (evalT s.tm) o v (bOf B s.i) s.effs s.objs s.hist ∧ DX P T ng ops B base k rest { s with i := s.i + 1, tm := putT s.tm o.dst v, rds := (s.i, s.tm, o, v) :: s.rds }
  | none => False
def XA (o : Oper) (rest : List Oper) (s : DS) (x : Option (AObj × (Nat → Value))) : Prop := match x with
  | some p => DX P T ng ops B base k rest { s with i := s.i + 1, tm := putT s.tm o.dst (p.2 (base + s.i)), objs := (s.i, p.1) :: s.objs }
  | none => False
def XE (o : Oper) (rest : List Oper) (s : DS) (x : Option Out) : Prop := match x with
  | some (.val v H) => OnP P T B.toArray base H (s.inc ||| bOf B s.i) (bOf B s.i) s.objs s.rds ∧
      DX P T ng ops B base k rest { s with i := s.i + 1, tm := putT s.tm o.dst v, G := H, inc := s.inc ||| bOf B s.i, effs := s.effs ||| 2 ^ s.i, hist := (s.G, s.inc, s.effs) :: s.hist }
  | some (.call f args) => SemC P ng f args (withA s.G s.inc base (bOf B s.i) s.objs) (XD P T ng ops B base k o rest s)
  | _ => False
def XH (o : Oper) (rest : List Oper) (s : DS) (b : Bool) : Prop :=
  bif b then XF P T ng ops B base k o rest s (aread P T (evalT s.tm) o s.G) else XR P T ng ops B base k o rest s (aread P T (evalT s.tm) o (withA s.G s.inc base (bOf B s.i) s.objs))
def XK (o : Oper) (rest : List Oper) (s : DS) (x : Kind) : Prop := match x with
  | .read => XH P T ng ops B base k o rest s (hf T o.op)
  | .alloc => XA P T ng ops B base k o rest s (aalloc T (evalT s.tm) o)
  | .eff => s.effs &&& bOf B s.i = s.effs ∧ XE P T ng ops B base k o rest s (aeff T (evalT s.tm) o (withA s.G s.inc base (bOf B s.i) s.objs))
def XW (o : Oper) (rest : List Oper) (s : DS) (b : Bool) : Prop :=
  bif b then XK P T ng ops B base k o rest s (kindOf T o.op) else DX P T ng ops B base k rest { s with i := s.i + 1, tm := putT s.tm o.dst undef }

theorem DX_nil (s : DS) : DX P T ng ops B base k [] s = k s := (rfl)
theorem DX_cons (o : Oper) (rest : List Oper) (s : DS) : DX P T ng ops B base k (o :: rest) s = XW P T ng ops B base k o rest s (wantedC ops s.tm o) := by
  simp only [DX, XW]
  cases wantedC ops s.tm o with
  | false => rfl
  | true =>
    simp only [cond_true]
    unfold XK
    cases kindOf T o.op with
    | read =>
      unfold XH
      cases hf T o.op with
      | true => simp only [XF, cond_true]
      | false => simp only [XR, cond_false]
    | alloc =>
      simp only [XA]
    | eff =>
      simp only [XE]
      cases aeff T (evalT s.tm) o (withA s.G s.inc base (bOf B s.i) s.objs) with
      | none => rfl
      | some out => cases out <;> rfl
theorem XW_true (o : Oper) (rest : List Oper) (s : DS) : XW P T ng ops B base k o rest s true = XK P T ng ops B base k o rest s (kindOf T o.op) := (rfl)
theorem XW_false (o : Oper) (rest : List Oper) (s : DS) : XW P T ng ops B base k o rest s false = DX P T ng ops B base k rest { s with i := s.i + 1, tm := putT s.tm o.dst undef } := (rfl)
theorem XK_read (o : Oper) (rest : List Oper) (s : DS) : XK P T ng ops B base k o rest s .read = XH P T ng ops B base k o rest s (hf T o.op) := (rfl)
theorem XK_alloc (o : Oper) (rest : List Oper) (s : DS) : XK P T ng ops B base k o rest s .alloc = XA P T ng ops B base k o rest s (aalloc T (evalT s.tm) o) := (rfl)
theorem XK_eff (o : Oper) (rest : List Oper) (s : DS) : XK P T ng ops B base k o rest s .eff = (s.effs &&& bOf B s.i = s.effs ∧ XE P T ng ops B base k o rest s (aeff T (evalT s.tm) o (withA s.G s.inc base (bOf B s.i) s.objs))) := (rfl)
theorem XH_true (o : Oper) (rest : List Oper) (s : DS) : XH P T ng ops B base k o rest s true = XF P T ng ops B base k o rest s (aread P T (evalT s.tm) o s.G) := (rfl)
theorem XH_false (o : Oper) (rest : List Oper) (s : DS) : XH P T ng ops B base k o rest s false = XR P T ng ops B base k o rest s (aread P T (evalT s.tm) o (withA s.G s.inc base (bOf B s.i) s.objs)) := (rfl)
theorem XF_some (o : Oper) (rest : List Oper) (s : DS) (v : Value) : XF P T ng ops B base k o rest s (some v) = DX P T ng ops B base k rest { s with i := s.i + 1, tm := putT s.tm o.dst v } := (rfl)
theorem XR_some (o : Oper) (rest : List Oper) (s : DS) (v : Value) : XR P T ng ops B base k o rest s (some v) = (BackP P T base (evalT s.tm) o v (bOf B s.i) s.effs s.objs s.hist ∧ DX P T ng ops B base k rest { s with i := s.i + 1, tm := putT s.tm o.dst v, rds := (s.i, s.tm, o, v) :: s.rds }) := (rfl)
theorem XA_some (o : Oper) (rest : List Oper) (s : DS) (a : AObj) (f : Nat → Value) : XA P T ng ops B base k o rest s (some (a, f)) = DX P T ng ops B base k rest { s with i := s.i + 1, tm := putT s.tm o.dst (f (base + s.i)), objs := (s.i, a) :: s.objs } := (rfl)
theorem XE_val (o : Oper) (rest : List Oper) (s : DS) (v : Value) (H : Heap) : XE P T ng ops B base k o rest s (some (.val v H)) = (OnP P T B.toArray base H (s.inc ||| bOf B s.i) (bOf B s.i) s.objs s.rds ∧
      DX P T ng ops B base k rest { s with i := s.i + 1, tm := putT s.tm o.dst v, G := H, inc := s.inc ||| bOf B s.i, effs := s.effs ||| 2 ^ s.i, hist := (s.G, s.inc, s.effs) :: s.hist }) := (rfl)
theorem XE_call (o : Oper) (rest : List Oper) (s : DS) (f : FuncId) (args : Array Value) : XE P T ng ops B base k o rest s (some (.call f args)) = SemC P ng f args (withA s.G s.inc base (bOf B s.i) s.objs) (XD P T ng ops B base k o rest s) := (rfl)
theorem XD_ret (o : Oper) (rest : List Oper) (s : DS) (v : Value) (H : Heap) : XD P T ng ops B base k o rest s (.ret v) H = (OnP P T B.toArray base H (s.inc ||| bOf B s.i) (bOf B s.i) s.objs s.rds ∧
      DX P T ng ops B base k rest { s with i := s.i + 1, tm := putT s.tm o.dst v, G := H, inc := s.inc ||| bOf B s.i, effs := s.effs ||| 2 ^ s.i, hist := (s.G, s.inc, s.effs) :: s.hist }) := (rfl)
theorem bOf_zero (b : Nat) (l : List Nat) : bOf (b :: l) 0 = b := (rfl)
theorem bOf_succ (b : Nat) (l : List Nat) (i : Nat) : bOf (b :: l) (i + 1) = bOf l i := by simp [bOf]
theorem getD_bOf (i : Nat) : B.toArray.getD i 0 = bOf B i := (rfl)
end

def wA (G : Heap) (inc base msk : Nat) (i : Nat) (a : AObj) (r : List (Nat × AObj)) (b : Bool) : Heap := bif b then (withA G inc base msk r).put (base + i) a else withA G inc base msk r
theorem withA_nil (G : Heap) (inc base msk : Nat) : withA G inc base msk [] = G := (rfl)
theorem withA_cons (G : Heap) (inc base msk : Nat) (i : Nat) (a : AObj) (r : List (Nat × AObj)) : withA G inc base msk ((i, a) :: r) = wA G inc base msk i a r (bit msk i && !bit inc i) := (rfl)
theorem wA_true (G : Heap) (inc base msk : Nat) (i : Nat) (a : AObj) (r : List (Nat × AObj)) : wA G inc base msk i a r true = (withA G inc base msk r).put (base + i) a := (rfl)
theorem wA_false (G : Heap) (inc base msk : Nat) (i : Nat) (a : AObj) (r : List (Nat × AObj)) : wA G inc base msk i a r false = withA G inc base msk r := (rfl)
theorem bit_eq (m i : Nat) : bit m i = (1 &&& (m >>> i) != 0) := (rfl)


section
variable {P : Program} {T : Tab} {ng : Nat} {ops : Array Oper} {B : List Nat} {base : Nat}

inductive RR (P : Program) (T : Tab) : List (Nat × Tr Value × Oper × Value) → List (Nat × Tr Value × Oper × Value) → Prop where
  | nil : RR P T [] []
  | cons (r : Nat × Tr Value × Oper × Value) (l l' : List (Nat × Tr Value × Oper × Value)) (h : RR P T l l') : RR P T (r :: l) (r :: l')
  | free (i : Nat) (tm : Tr Value) (o : Oper) (v : Value) (l l' : List (Nat × Tr Value × Oper × Value)) (hv : ∀ H, aread P T (evalT tm) o H = some v) (h : RR P T l l') : RR P T ((i, tm, o, v) :: l) l'

theorem RR.on {G : Heap} {inc bi : Nat} {objs : List (Nat × AObj)} {A : Array Nat} : ∀ {l l' : List (Nat × Tr Value × Oper × Value)}, RR P T l l' → OnP P T A base G inc bi objs l' → OnP P T A base G inc bi objs l
  | _, _, .nil, h => h
  | _, _, .cons _ _ _ hr, h => ⟨h.1, hr.on h.2⟩
  | _, _, .free _ _ _ _ _ _ hv hr, h => ⟨.inr (hv _), hr.on h⟩

theorem free_back {tm : Tr Value} {o : Oper} {v : Value} {msk effs : Nat} {objs : List (Nat × AObj)} (hv : ∀ H, aread P T (evalT tm) o H = some v) : ∀ l : List (Heap × Nat × Nat), BackP P T base (evalT tm) o v msk effs objs l
  | [] => trivial
  | _ :: l => ⟨.inr (hv _), free_back hv l⟩

theorem DO_of_DX {k : DS → Prop} {k' : DS → Prop} (hk : ∀ (s : DS) r, k' s → k { s with rds := r }) : ∀ (rest : List Oper) (s : DS) (rds : List (Nat × Tr Value × Oper × Value)), RR P T rds s.rds → DX P T ng ops B base k' rest s → DO P T ng ops B.toArray base k rest { s with rds := rds }
  | [], s, rds, hr, h => by
    rw [DX_nil] at h; rw [DO_nil]; exact hk s rds h
  | o :: rest, s, rds, hr, h => by
    rw [DX_cons] at h
    rw [DO_cons]
    show DW P T ng ops B.toArray base k o rest _ (wantedC ops s.tm o)
    cases hw : wantedC ops s.tm o with
    | false =>
      rw [hw, XW_false] at h
      rw [DW_false]
      exact DO_of_DX hk rest _ rds (by exact hr) h
    | true =>
      rw [hw, XW_true] at h
      rw [DW_true]
      cases hkd : kindOf T o.op with
      | read =>
        rw [hkd, XK_read] at h
        rw [DK_read]
        show DR P T ng ops B.toArray base k o rest _ (aread P T (evalT s.tm) o (withA s.G s.inc base (B.toArray.getD s.i 0) s.objs))
        cases hh : hf T o.op with
        | true =>
          rw [hh, XH_true] at h
          cases hv : aread P T (evalT s.tm) o s.G with
          | none => rw [hv] at h; unfold XF at h; exact h.elim
          | some v =>
            rw [hv, XF_some] at h
            have hall : ∀ H, aread P T (evalT s.tm) o H = some v := fun H => by rw [hf_free hh H s.G]; exact hv
            rw [hall, DR_some]
            exact ⟨free_back hall _, DO_of_DX hk rest { s with i := s.i + 1, tm := putT s.tm o.dst v } _ (.free _ _ _ _ _ _ hall hr) h⟩
        | false =>
          rw [hh, XH_false] at h
          rw [getD_bOf]
          cases hv : aread P T (evalT s.tm) o (withA s.G s.inc base (bOf B s.i) s.objs) with
          | none => rw [hv] at h; unfold XR at h; exact h.elim
          | some v =>
            rw [hv, XR_some] at h
            rw [DR_some]
            exact ⟨h.1, DO_of_DX hk rest _ _ (.cons _ _ _ hr) h.2⟩
      | alloc =>
        rw [hkd, XK_alloc] at h
        rw [DK_alloc]
        show DA P T ng ops B.toArray base k o rest _ (aalloc T (evalT s.tm) o)
        cases hv : aalloc T (evalT s.tm) o with
        | none => rw [hv] at h; unfold XA at h; exact h.elim
        | some p =>
          obtain ⟨a, f⟩ := p
          rw [hv, XA_some] at h
          rw [DA_some]
          exact DO_of_DX hk rest _ rds (by exact hr) h
      | eff =>
        rw [hkd, XK_eff] at h
        rw [DK_eff]
        obtain ⟨h1, h⟩ := h
        refine ⟨h1, ?_⟩
        show DE P T ng ops B.toArray base k o rest _ (aeff T (evalT s.tm) o (withA s.G s.inc base (B.toArray.getD s.i 0) s.objs))
        rw [getD_bOf]
        cases hv : aeff T (evalT s.tm) o (withA s.G s.inc base (bOf B s.i) s.objs) with
        | none => rw [hv] at h; unfold XE at h; exact h.elim
        | some out =>
          rw [hv] at h
          cases out with
          | val v H =>
            rw [XE_val] at h
            rw [DE_val]
            exact ⟨hr.on h.1, DO_of_DX hk rest _ rds (by exact hr) h.2⟩
          | call f args =>
            rw [XE_call] at h
            rw [DE_call]
            refine SemC.mono h ?_
            intro r H hr'
            cases r with
            | pan => unfold XD at hr'; exact hr'.elim
            | ret v =>
              rw [XD_ret] at hr'
              rw [KD_ret]
              exact ⟨hr.on hr'.1, DO_of_DX hk rest _ rds (by exact hr) hr'.2⟩
          | round l args => unfold XE at h; exact h.elim
          | dfr d => unfold XE at h; exact h.elim
          | pan v => unfold XE at h; exact h.elim

def XS (n : Nat) (k : Exit → St → Prop) (st : St) (s : DS) : Prop := k .normal { st with tm := s.tm, heap := withA s.G s.inc st.heap.next n s.objs }
theorem XS_eq (n : Nat) (k : Exit → St → Prop) (tm : Tr Value) (sz : Nat) (df : List Deferred) (rd : Bool) (H : Heap) (s : DS) : XS n k ⟨tm, sz, df, rd, H⟩ s = k .normal ⟨s.tm, sz, df, rd, withA s.G s.inc H.next n s.objs⟩ := (rfl)

def xCheck (sz n m : Nat) (ops : Array Oper) (B : List Nat) : Bool := decide (Region.before ops = B.toArray) && tmpOK ops B.toArray && orderOK ops && ops.toList.all (fun o => dstOk sz o.dst) && decide (ops.size = n) && decide (2 ^ n - 1 = m)

theorem DRg_x (hT : T.Ok P ng) {ops : Array Oper} {k : Exit → St → Prop} {st : St} (B : List Nat) (n m sz : Nat) (hs : st.sz = sz) (hc : xCheck sz n m ops B = true)
    (h : DX P T ng ops B st.heap.next (XS m k st) ops.toList ⟨0, st.tm, st.heap.skip n, 0, 0, [], [], []⟩) : DRg P T ng ops k st := by
  subst hs
  simp only [xCheck, Bool.and_eq_true, decide_eq_true_eq] at hc
  obtain ⟨⟨⟨⟨⟨c1, c2⟩, c3⟩, c4⟩, rfl⟩, rfl⟩ := hc
  refine DRg_intro hT B.toArray (by simp only [drawCheck, c1, c2, c3, decide_true, Bool.and_self]) c4 ?_
  refine DO_of_DX (k' := XS (2 ^ ops.size - 1) k st) ?_ _ ⟨0, st.tm, st.heap.skip ops.size, 0, 0, [], [], []⟩ [] .nil h
  intro s r hs
  unfold XS at hs
  unfold KDS
  exact hs
end
attribute [irreducible] DX XW XK XH XF XR XA XE XD XS
theorem hf_move (T : Tab) (x : Operand) : hf T (.move x) = true := (rfl)
theorem hf_assign (T : Tab) (x : Operand) : hf T (.assign x) = true := (rfl)
theorem hf_pick (T : Tab) (x y z : Operand) : hf T (.pick x y z) = true := (rfl)
theorem hf_nilCheck (T : Tab) (x : Operand) : hf T (.nilCheck x) = true := (rfl)
theorem hf_fieldAddr (T : Tab) (t : TypeId) (x : Operand) (f : Nat) : hf T (.fieldAddr t x f) = true := (rfl)
theorem hf_field (T : Tab) (t : TypeId) (x : Operand) (f : Nat) : hf T (.field t x f) = true := (rfl)
theorem hf_indexAddr (T : Tab) (t : TypeId) (x y : Operand) : hf T (.indexAddr t x y) = true := (rfl)
theorem hf_index (T : Tab) (t : TypeId) (x y : Operand) : hf T (.index t x y) = true := (rfl)
theorem hf_build (T : Tab) (t : TypeId) (p : Array (Nat × Operand)) : hf T (.build t p) = true := (rfl)
theorem hf_binOp (T : Tab) (op : BinOp) (t : TypeId) (x y : Operand) (u : TypeId) : hf T (.binOp op t x y u) = true := (rfl)
theorem hf_unOp (T : Tab) (op : UnOp) (t : TypeId) (x : Operand) : hf T (.unOp op t x) = true := (rfl)
theorem hf_makeFunc (T : Tab) (f : Fn) (x y : Array Operand) : hf T (.makeFunc f x y) = true := (rfl)
theorem hf_extract (T : Tab) (x : Operand) (i : Nat) : hf T (.extract x i) = true := (rfl)
theorem hf_load (T : Tab) (t : TypeId) (x : Operand) : hf T (.load t x) = false := (rfl)
theorem hf_slice (T : Tab) (t : TypeId) (x : Operand) (l h m : Option Operand) : hf T (.slice t x l h m) = false := (rfl)
theorem hf_len (T : Tab) (x : Array Operand) (t : TypeId) : hf T (.call ⟨.builtin .len, x, #[t]⟩) = hfT (T.ty t) := (rfl)
theorem hfT_slice (e : TypeId) (s b : Nat) (z : Option Value) (ag : Bool) (f : List (Nat × Nat)) : hfT (some ⟨.slice e, s, b, z, ag, f⟩) = true := (rfl)
theorem hf_convert (T : Tab) (s t : TypeId) (x : Operand) : hf T (.convert s t x) = hfC (T.ty t) := (rfl)
theorem hfC_int (k : IntKind) (s b : Nat) (z : Option Value) (ag : Bool) (f : List (Nat × Nat)) : hfC (some ⟨.int k, s, b, z, ag, f⟩) = true := (rfl)
attribute [irreducible] hf hfT hfC wA bOf
end Go.Ab
end
section
namespace Go.Ab
attribute [go_sem] wpc_skip wpc_label wpc_exit wpc_ret wpc_region wpc_draw wpc_seq wpc_block wpc_cond wpc_loop KC_exit
  KC_ret KC_panic KB_normal KB_ret KB_panic KB_exit CN_true CN_false RO_nil RO_cons RW_true RW_false
  RA_val RA_call RA_dfr KR_ret KF_ret KF_normal KL_one LQ_normal LQ_exit LQ_ret aop_eq aopK_read
  aopK_alloc aopK_eff outV_some outH_some outA_some k_move k_assign k_pick k_load k_nilCheck k_fieldAddr k_field
  k_indexAddr k_index k_build k_binOp k_unOp k_makeFunc k_slice k_extract k_len k_append k_copy k_call
  k_alloc k_box k_buildSlice k_makeSlice k_store k_defer k_convert kConv_int r_move r_assign r_pick pick_bool
  r_load load_1 load_n cellO_cells segO_cells r_nilCheck nil_ptr nil_fun r_fieldAddr fa_struct fa_ptr r_indexAddr
  ia_slice ia_array r_binOp bin_int i_add i_sub i_mul i_eql i_neq i_lss i_leq i_gtr
  i_geq r_extract ex_tuple r_makeFunc r_slice len_slice a_alloc a_box e_store st_ptr2 stG_cells e_call
  e_append e_copy ev_tmp ev_const ev_func put_some put_none Tr.get_set wanted_none wanted_some gOf_some gBool_t
  gBool_f Bool.not_true Bool.not_false init_nil init_cons Option.getD_some Option.bind_some Option.map_some if_true if_false cond_true cond_false
  List.getElem?_toArray List.getElem?_cons_zero List.getElem?_cons_succ Nat.add_zero Nat.zero_add bxO vc_int vc_bool vc_string vc_slice vc_ptr vc_agg
  oc_int oc_bool oc_string oc_slice oc_ptr arr_list List.all_cons List.all_nil Bool.and_true Bool.and_self H_get_new H_put_same
  Heap.next_push Heap.next_put decide_true decide_false fn_call0 List.map_toArray List.map_cons List.map_nil Bool.not_not Bool.and_false Bool.false_and Bool.true_and
  RW_not r_buildS fb_struct fillO_cons fillO_nil fillP_some a_buildSlice bs_slice bsE_0 bsE_1 List.length_cons List.length_nil
  setSeg List.set_cons_zero List.set_cons_succ Nat.le_refl and_self true_and and_true DX_cons DX_nil XW_true XW_false XK_read
  XK_alloc XK_eff XH_true XH_false XF_some XR_some XA_some XE_val XE_call XD_ret XS_eq bOf_zero
  bOf_succ getD_bOf withA_nil withA_cons wA_true wA_false bit_eq OnP_nil OnP_cons BackP_nil BackP_cons hf_move
  hf_assign hf_pick hf_nilCheck hf_fieldAddr hf_field hf_indexAddr hf_index hf_build hf_binOp hf_unOp hf_makeFunc hf_extract
  hf_load hf_slice hf_len hfT_slice hf_convert hfC_int true_or or_true false_or or_false ne_eq not_true_eq_false
  not_false_eq_true Bool.false_eq_true Heap.get_skip Heap.next_skip Nat.zero_or Nat.or_zero
end Go.Ab
end
section
namespace Go.Ab

/-- blocks that may change -/
abbrev Fr := Nat → Prop
def noF : Fr := fun _ => False
def Fr.un (F : Fr) (b : Option Nat) : Fr := fun j => F j ∨ b = some j

structure Bd (F : Fr) (H : Heap) : Prop where
  lt : ∀ j, F j → j < H.next

structure Step (F : Fr) (H : Heap) (F' : Fr) (H' : Heap) : Prop where
  le : H.next ≤ H'.next
  get : ∀ b, b < H.next → ¬ F b → H'.get b = H.get b
  new : ∀ b, F' b → F b ∨ H.next ≤ b

structure Kp (F : Fr) (H : Heap) (b : Nat) (X : AObj) : Prop where
  lt : b < H.next
  out : ¬ F b
  get : H.get b = X

theorem noF_not (j : Nat) : ¬ noF j := fun h => h
theorem noF_Bd (H : Heap) : Bd noF H := ⟨fun _ h => h.elim⟩

section
variable {F F' F'' G : Fr} {H H' H'' : Heap} {b : Nat} {X : AObj}

theorem Step.refl : Step F H F H := ⟨Nat.le_refl _, fun _ _ _ => rfl, fun _ h => .inl h⟩
theorem Step.trans (h : Step F H F' H') (h' : Step F' H' F'' H'') : Step F H F'' H'' :=
  ⟨Nat.le_trans h.le h'.le, fun b hb hn => (h'.get b (Nat.lt_of_lt_of_le hb h.le) (fun hf => by rcases h.new b hf with h1 | h1; exact hn h1; omega)).trans (h.get b hb hn),
   fun b hf => by rcases h'.new b hf with h1 | h1; exact h.new b h1; exact .inr (Nat.le_trans h.le h1)⟩
theorem Ext.step (h : Ext H H') : Step F H F H' := ⟨h.le, fun b hb _ => h.get b hb, fun _ h => .inl h⟩
theorem Step.skip (h : Step F H F' H') (n : Nat) : Step F H F' (H'.skip n) := h.trans (((Ext.refl H').skip n).step)
theorem Step.put (h : Step F H F' H') (hb : F b ∨ H.next ≤ b) (a : AObj) : Step F H F' (H'.put b a) :=
  ⟨h.le, fun j hj hn => by rw [H_put_other H' a b j (fun e => by subst e; rcases hb with h1 | h1; exact hn h1; omega)]; exact h.get j hj hn, h.new⟩
theorem Step.toExt (h : Step F H F' H') (hF : ∀ j, F j → H.next ≤ j) : Ext H H' := ⟨h.le, fun b hb => h.get b hb (fun hf => by have := hF b hf; omega)⟩
theorem Step.noF (h : Step noF H F' H') : Ext H H' := h.toExt fun _ h => h.elim
theorem Step.sub (h : Step F H F' H') (hG : ∀ j, F j → G j ∨ H.next ≤ j) (hG' : ∀ j, F'' j → F' j ∨ G j) : Step G H F'' H' :=
  ⟨h.le, fun b hb hn => h.get b hb (fun hf => by rcases hG b hf with h1 | h1; exact hn h1; omega), fun j hj => by
    rcases hG' j hj with h1 | h1
    · rcases h.new j h1 with h2 | h2
      · exact hG j h2
      · exact .inr h2
    · exact .inl h1⟩
/-- others besides -/
theorem Step.un (h : Step F H F' H') {c : Option Nat} : Step (F.un c) H (F'.un c) H' :=
  h.sub (fun _ hf => .inl (.inl hf)) (fun _ hf => by rcases hf with h1 | h1; exact .inl h1; exact .inr (.inr h1))

theorem Kp.step (h : Kp F H b X) (s : Step F H F' H') : Kp F' H' b X :=
  ⟨Nat.lt_of_lt_of_le h.lt s.le, fun hf => by rcases s.new b hf with h1 | h1; exact h.out h1; have := h.lt; omega, (s.get b h.lt h.out).trans h.get⟩
theorem Kp.sub (h : Kp F H b X) (hF : ∀ j, F' j → F j) : Kp F' H b X := ⟨h.lt, fun hf => h.out (hF b hf), h.get⟩
theorem Bd.le (h : Bd F H) (s : H.next ≤ H'.next) : Bd F H' := ⟨fun j hj => Nat.lt_of_lt_of_le (h.lt j hj) s⟩
end

/-! ### slices that are read -/
inductive SlA (F : Fr) (H : Heap) (sz n cap : Nat) (c : List Value) : Option Addr → Prop where
  | nil (h1 : n = 0) (h2 : cap = 0) (h3 : c = []) : SlA F H sz n cap c none
  | zer (a : Addr) (h1 : n = 0) (h2 : cap = 0) (h3 : c = []) (h4 : a.spot = none) : SlA F H sz n cap c (some a)
  | blk (b o : Nat) (own : Bool) (C : List Value) (hk : Kp F H b (.cells own sz C)) (hs : seg C o (n * sz) = some c) : SlA F H sz n cap c (some ⟨b, o, none⟩)

structure Sl (F : Fr) (H : Heap) (sz : Nat) (v : Value) (n : Nat) (c : List Value) : Prop where
  ex : ∃ a cap, v = .slice a n cap ∧ n ≤ cap ∧ c.length = n * sz ∧ SlA F H sz n cap c a

theorem seg_some {C c : List Value} {o n : Nat} (h : seg C o n = some c) : o + n ≤ C.length ∧ c = (C.drop o).take n := by
  unfold seg at h
  split at h
  · cases h; exact ⟨‹_›, rfl⟩
  · cases h
theorem seg_get {C c : List Value} {o n j : Nat} (h : seg C o n = some c) (hj : j < n) : C[o + j]? = c[j]? := by
  obtain ⟨h1, rfl⟩ := seg_some h
  rw [List.getElem?_take, if_pos hj, List.getElem?_drop]
theorem seg_seg {C c : List Value} {o n p m : Nat} (h : seg C o n = some c) (hj : p + m ≤ n) : seg C (o + p) m = seg c p m := by
  obtain ⟨h1, rfl⟩ := seg_some h
  unfold seg
  rw [if_pos (by omega), if_pos (by rw [List.length_take, List.length_drop]; omega)]
  congr 1
  apply List.ext_getElem?
  intro j
  simp only [List.getElem?_take, List.getElem?_drop]
  by_cases hm : j < m
  · rw [if_pos hm, if_pos hm, if_pos (by omega)]; congr 1; omega
  · rw [if_neg hm, if_neg hm]

section
variable {F F' : Fr} {H H' : Heap} {sz n cap : Nat} {c : List Value} {v : Value} {a : Option Addr}

theorem SlA.step (h : SlA F H sz n cap c a) (s : Step F H F' H') : SlA F' H' sz n cap c a := by
  cases h with
  | nil h1 h2 h3 => exact .nil h1 h2 h3
  | zer a h1 h2 h3 h4 => exact .zer a h1 h2 h3 h4
  | blk b o own C hk hs => exact .blk b o own C (hk.step s) hs
theorem Sl.step (h : Sl F H sz v n c) (s : Step F H F' H') : Sl F' H' sz v n c :=
  let ⟨a, cap, h1, h2, h3, h4⟩ := h.ex; ⟨a, cap, h1, h2, h3, h4.step s⟩
theorem SlA.sub (h : SlA F H sz n cap c a) (hF : ∀ j, F' j → F j) : SlA F' H sz n cap c a := by
  cases h with
  | nil h1 h2 h3 => exact .nil h1 h2 h3
  | zer a h1 h2 h3 h4 => exact .zer a h1 h2 h3 h4
  | blk b o own C hk hs => exact .blk b o own C (hk.sub hF) hs
theorem Sl.sub (h : Sl F H sz v n c) (hF : ∀ j, F' j → F j) : Sl F' H sz v n c :=
  let ⟨a, cap, h1, h2, h3, h4⟩ := h.ex; ⟨a, cap, h1, h2, h3, h4.sub hF⟩
theorem Sl.noF (h : Sl F H sz v n c) : Sl noF H sz v n c := h.sub fun _ h => h.elim
/-- outside more -/
theorem SlA.more (h : SlA F H sz n cap c a) (hF : ∀ j, F' j → F j ∨ H.next ≤ j) : SlA F' H sz n cap c a := by
  cases h with
  | nil h1 h2 h3 => exact .nil h1 h2 h3
  | zer a h1 h2 h3 h4 => exact .zer a h1 h2 h3 h4
  | blk b o own C hk hs => exact .blk b o own C ⟨hk.lt, fun hf => by rcases hF b hf with h1 | h1; exact hk.out h1; have := hk.lt; omega, hk.get⟩ hs
theorem Sl.more (h : Sl F H sz v n c) (hF : ∀ j, F' j → F j ∨ H.next ≤ j) : Sl F' H sz v n c :=
  let ⟨a, cap, h1, h2, h3, h4⟩ := h.ex; ⟨a, cap, h1, h2, h3, h4.more hF⟩
theorem Kp.more {b : Nat} {X : AObj} (hk : Kp F H b X) (hF : ∀ j, F' j → F j ∨ H.next ≤ j) : Kp F' H b X :=
  ⟨hk.lt, fun hf => by rcases hF b hf with h1 | h1; exact hk.out h1; have := hk.lt; omega, hk.get⟩

theorem Sl.len (h : Sl F H sz v n c) : ∃ a cap, v = .slice a n cap := by
  obtain ⟨a, cap, rfl, _⟩ := h.ex; exact ⟨a, cap, rfl⟩

/-- an element -/
theorem SlA.at {α : Type} {f : α → List Value} {l : List α} {cap : Nat} {a : Option Addr} (h : SlA F H sz l.length cap (l.flatMap f) a) (hf : ∀ x, (f x).length = sz) {i : Nat} {x : α} (hx : l[i]? = some x) :
    ∃ b o own C, a = some ⟨b, o, none⟩ ∧ Kp F H b (.cells own sz C) ∧ (∀ k, k < sz → C[o + i * sz + k]? = (f x)[k]?) ∧ seg C (o + i * sz) sz = some (f x) := by
  have hi : i < l.length := by
    rcases Nat.lt_or_ge i l.length with h | h
    · exact h
    · rw [List.getElem?_eq_none h] at hx; cases hx
  cases h with
  | nil h1 h2 h3 => omega
  | zer a h1 h2 h3 h4 => omega
  | blk b o own C hk hs =>
    have hle : i * sz + sz ≤ l.length * sz := by rw [← Nat.succ_mul]; exact Nat.mul_le_mul_right _ hi
    refine ⟨b, o, own, C, rfl, hk, fun k hk' => ?_, ?_⟩
    · rw [Nat.add_assoc, seg_get hs (by omega)]
      exact fm_get hf l i k x hx hk'
    · rw [seg_seg hs hle]
      exact fm_seg hf l i x hx

theorem Sl.head (h : Sl F H sz v n c) : headCells H (n * sz) v = some c := by
  obtain ⟨a, cap, rfl, h1, h2, h3⟩ := h.ex
  cases h3 with
  | nil k1 k2 k3 => subst k1 k2 k3; simp [headCells]
  | zer a k1 k2 k3 k4 =>
    obtain ⟨b, o, st⟩ := a
    subst k1 k2 k3; simp only at k4; subst k4; simp [headCells]
  | blk b o own C hk hs =>
    simp only [headCells]
    by_cases hz : n * sz = 0
    · rw [hz] at h2 ⊢
      rw [List.length_eq_zero_iff.1 h2]; rfl
    · have e1 : Nat.beq (n * sz) 0 = false := by cases hb : Nat.beq (n * sz) 0 with
        | false => rfl
        | true => exact absurd ((beq_iff _ _).1 hb) hz
      have hn : n ≠ 0 := fun e => by subst e; simp at hz
      have e2 : Nat.beq cap 0 = false := by cases hb : Nat.beq cap 0 with
        | false => rfl
        | true => have := (beq_iff _ _).1 hb; omega
      rw [e1, e2, hk.get]
      exact hs

theorem Own1.sl {b : Option Nat} (h : Own1 H sz c v n b) (hF : ∀ j, b = some j → ¬ F j) : Sl F H sz v n c := by
  cases h with
  | nil h => subst h; exact ⟨none, 0, rfl, Nat.le_refl _, by simp, .nil rfl rfl rfl⟩
  | blk k n h1 h2 h3 => exact ⟨_, n, rfl, Nat.le_refl _, h3, .blk k 0 true c ⟨h1, hF k rfl, h2⟩ (seg_all _ _ h3)⟩
theorem Own1.step {b : Option Nat} (h : Own1 H sz c v n b) (s : Step F H F' H') (hF : ∀ j, b = some j → ¬ F j) : Own1 H' sz c v n b := by
  cases h with
  | nil h => exact .nil h
  | blk k n h1 h2 h3 => exact .blk k n (Nat.lt_of_lt_of_le h1 s.le) (by rw [s.get k h1 (hF k rfl)]; exact h2) h3
theorem Own1.lt {b : Option Nat} (h : Own1 H sz c v n b) {j : Nat} (hj : b = some j) : j < H.next := (h.at hj).1
theorem Own1.put {b : Option Nat} (h : Own1 H sz c v n b) {j : Nat} (hj : ∀ k, b = some k → k ≠ j) (x : AObj) : Own1 (H.put j x) sz c v n b := by
  cases h with
  | nil h => exact .nil h
  | blk k n h1 h2 h3 => exact .blk k n h1 (by rw [H_put_other _ _ _ _ (hj k rfl)]; exact h2) h3
theorem Own1.ext {b : Option Nat} (h : Own1 H sz c v n b) (s : Ext H H') : Own1 H' sz c v n b := h.step (F := Go.Ab.noF) (F' := Go.Ab.noF) s.step fun _ _ h => h.elim
theorem Own1.fresh (H : Heap) (sz : Nat) (c : List Value) (n : Nat) (h : c.length = n * sz) : Own1 (H.push (.cells true sz c)) sz c (.slice (some ⟨H.next, 0, none⟩) n n) n (some H.next) :=
  .blk _ _ (Nat.lt_succ_self _) (H_get_new _ _) h
theorem Own1.nil0 (H : Heap) (sz : Nat) : Own1 H sz [] (.slice none 0 0) 0 none := .nil rfl
end

section
variable {T : Tab} {t0 t1 e e1 : TypeId} {de : TypeDesc} {sz by_ : Nat} {z : Value} {ag : Bool} {fl : List (Nat × Nat)} {a1 a2 b1 b2 : Nat} {a3 b3 : Option Value} {a4 b4 : Bool} {a5 b5 : List (Nat × Nat)}

theorem append_s (h0 : T.ty t0 = some ⟨.slice e, a1, a2, a3, a4, a5⟩) (h1 : T.ty t1 = some ⟨.slice e1, b1, b2, b3, b4, b5⟩) (he : T.ty e = some ⟨de, sz, by_, some z, ag, fl⟩) (hz : z.cells.toList.length = sz)
    {F0 : Fr} {H : Heap} {v x : Value} {n m : Nat} {c nw : List Value} {b : Option Nat} (hv : Own1 H sz c v n b) (hx : Sl F0 H sz x m nw) (hone : nw.all oneCell = true) (hb1 : (n + m) * by_ ≤ 140737488355328) (hb2 : n + m < 9223372036854775807) :
    ∃ v' H' b', appendC T H #[t0, t1] v x = some (.val v' H') ∧ Own1 H' sz (c ++ nw) v' (n + m) b' ∧ (∀ F : Fr, Step (F.un b) H (F.un b') H') ∧ (∀ j, b' = some j → b = some j ∨ j = H.next) ∧ (m ≠ 0 → b' = some H.next) ∧ H.next ≤ H'.next := by
  obtain ⟨a, cap, h2, h3, h4, h5⟩ := hx.ex
  obtain ⟨v', H', b', k1, k2, k3, k4, k5⟩ := append_ok h0 h1 he hz hv ⟨a, cap, h2⟩ hx.head h4 hone hb1 hb2
  refine ⟨v', H', b', k1, k2, fun F => ⟨k3.le, fun j hj hn => k3.get j hj (fun h => hn (.inr h)), fun j hf => ?_⟩, fun j hj => ?_, k5, k3.le⟩
  · rcases hf with hf | hf
    · exact .inl (.inl hf)
    · rcases k4 with e | e
      · exact .inl (.inr (by rw [← e]; exact hf))
      · rw [e] at hf; cases hf; exact .inr (Nat.le_refl _)
  · rcases k4 with e | e
    · exact .inl (by rw [← e]; exact hj)
    · rw [e] at hj; cases hj; exact .inr rfl
end

theorem one_all {α : Type} {f : α → List Value} (hf : ∀ x, (f x).all oneCell = true) : ∀ l : List α, (l.flatMap f).all oneCell = true
  | [] => rfl
  | x :: l => by simp only [List.flatMap_cons, List.all_append, hf, one_all hf l, Bool.and_self]

end Go.Ab
end
section
namespace Go.Ab
open Go.ChangeShapes Go.WideShapes Go.Deep Go.RowKit

/-- what a slice of the arguments is: a block that is read alone -/
structure InOk (W : World) (p : AObj × Tgt) : Prop where
  ro : owned p.1 = false
  rel : p.1 ≠ .dead → ∃ o, W.heap[p.2.cb]? = some o ∧ ∀ μ, ORel 0 μ p.2 p.1 o

def hpFrom (H : Heap) : List (AObj × Tgt) → Heap
  | [] => H
  | p :: l => hpFrom (H.push p.1) l
def hp (l : List (AObj × Tgt)) : Heap := hpFrom .empty l
def mu (l : List (AObj × Tgt)) : Inj := fun b => (l[b]?).map (·.2)

theorem hpFrom_next : ∀ (l : List (AObj × Tgt)) (H : Heap), (hpFrom H l).next = H.next + l.length
  | [], H => rfl
  | p :: l, H => by simp only [hpFrom, hpFrom_next l, Heap.next_push, List.length_cons]; omega
theorem hpFrom_get : ∀ (l : List (AObj × Tgt)) (H : Heap) (b : Nat), (hpFrom H l).get b = if b < H.next then H.get b else match l[b - H.next]? with | some p => p.1 | none => H.get b
  | [], H, b => by simp [hpFrom]
  | p :: l, H, b => by
    simp only [hpFrom]
    rw [hpFrom_get l, Heap.get_push, Heap.next_push]
    by_cases h1 : b < H.next
    · rw [if_pos (by omega), if_neg (by omega), if_pos h1]
    · rw [if_neg h1]
      by_cases h2 : b = H.next
      · subst h2; rw [if_pos (by omega), if_pos rfl]; simp
      · rw [if_neg (by omega), if_neg h2]
        have e : b - H.next = (b - (H.next + 1)) + 1 := by omega
        rw [e, List.getElem?_cons_succ]
theorem empty_get (b : Nat) : Heap.empty.get b = .dead := by simp [Heap.get, Heap.empty, Tr.get]
theorem hp_next (l : List (AObj × Tgt)) : (hp l).next = l.length := by unfold hp; rw [hpFrom_next]; simp [Heap.empty]
theorem hp_get (l : List (AObj × Tgt)) (b : Nat) : (hp l).get b = match l[b]? with | some p => p.1 | none => .dead := by
  unfold hp; rw [hpFrom_get, empty_get]; simp [Heap.empty]
theorem hp_some {l : List (AObj × Tgt)} {b : Nat} {p : AObj × Tgt} (h : l[b]? = some p) : (hp l).get b = p.1 := by rw [hp_get, h]

theorem hp_rel {W : World} {l : List (AObj × Tgt)} (h : ∀ p ∈ l, InOk W p) : Rel 0 (mu l) (hp l).get W := by
  have key : ∀ b, (hp l).get b ≠ .dead → ∃ p, l[b]? = some p ∧ p ∈ l ∧ (hp l).get b = p.1 := fun b hb => by
    rw [hp_get] at hb ⊢
    cases hp : l[b]? with
    | none => rw [hp] at hb; exact absurd rfl hb
    | some p => exact ⟨p, rfl, List.mem_of_getElem? hp, rfl⟩
  refine ⟨fun b hb => ?_, fun b b' t t' _ ho _ _ _ => ?_, fun k hk => by omega⟩
  · obtain ⟨p, h1, h2, h3⟩ := key b hb
    rw [h3] at hb
    obtain ⟨o, h4, h5⟩ := (h p h2).rel hb
    exact ⟨p.2, o, by simp [mu, h1], h4, by rw [h3]; exact h5 _⟩
  · by_cases hb : (hp l).get b = .dead
    · rw [hb] at ho; simp [owned] at ho
    · obtain ⟨p, h1, h2, h3⟩ := key b hb
      rw [h3, (h p h2).ro] at ho; cases ho
theorem hp_dom (l : List (AObj × Tgt)) : Dom 0 (mu l) (hp l) := ⟨Nat.zero_le _, fun n hn => by rw [hp_next] at hn; simp [mu, List.getElem?_eq_none hn]⟩
theorem hp_not_own {W : World} {l : List (AObj × Tgt)} (h : ∀ p ∈ l, InOk W p) (k : Nat) : ¬ Own (mu l) (hp l).get k := by
  rintro ⟨b, t, ho, -, -⟩
  rw [hp_get] at ho
  cases hp : l[b]? with
  | none => rw [hp] at ho; simp [owned] at ho
  | some p => rw [hp] at ho; simp only at ho; rw [(h p (List.mem_of_getElem? hp)).ro] at ho; cases ho

theorem inOk_dead (W : World) (t : Tgt) : InOk W (.dead, t) := ⟨rfl, fun h => absurd rfl h⟩

section
variable {H : Type} {enc : TypeId × Value → H} {P : Program} {W : World}

/-- A slice of the arguments. -/
theorem slice_in {α : Type} [Inhabited α] {c : α → List Value} {sz : Nat} (hc : ∀ x, (c x).length = sz) (hf : ∀ x, (c x).all flat1 = true) (hsz : 0 < sz) {t e : TypeId} (ht : P.underlying t = some (.slice e)) (he : P.cellsOf e = sz)
    (hel : ∀ (n : Nat) (cs' : List Value) (y : DataW H × List MemPlace), DataW.trod enc P W 0 (fun _ => true) true n e cs' = some y → ∃ x : α, cs' = c x) {fuel : Nat} {v' : Value} {x : DataW H × List MemPlace} (h : DataW.trod enc P W 0 (fun _ => true) true fuel t [v'] = some x) :
    ∃ (l : List α) (p : AObj × Tgt), InOk W p ∧ ∀ b, ∃ v, (∀ μ, μ b = some p.2 → VRel μ v v') ∧ ∀ (F : Fr) (H : Heap), b < H.next → ¬ F b → H.get b = p.1 → Sl F H sz v l.length (l.flatMap c) := by
  rcases open_slice ht h with ⟨hcs, -⟩ | ⟨a, len, cap, m, n, D, Pl, hcs, -, hl, -, hm, -, hx⟩
  · simp only [List.cons.injEq, and_true] at hcs
    subst hcs
    exact ⟨[], (.dead, ⟨0, 0, 0, 0⟩), inOk_dead _ _, fun b => ⟨.slice none 0 0, fun μ _ => .slice0, fun F H _ _ _ => ⟨none, 0, rfl, Nat.le_refl _, by simp, .nil rfl rfl rfl⟩⟩⟩
  simp only [List.cons.injEq, and_true] at hcs
  subst hcs
  simp only [if_true] at hm
  subst hm
  rcases Nat.eq_zero_or_pos m with h0 | hpos
  · subst h0
    obtain rfl : len = 0 := by omega
    exact ⟨[], (.dead, ⟨0, 0, 0, 0⟩), inOk_dead _ _, fun b => ⟨.slice (some ⟨0, 0, none⟩) 0 0, fun μ _ => .sliceZ _ _, fun F H _ _ _ => ⟨some ⟨0, 0, none⟩, 0, rfl, Nat.le_refl _, by simp, .zer _ rfl rfl rfl rfl⟩⟩⟩
  rw [he] at hx
  have hcell : ∀ i k, i < m → k < sz → ∃ v, W.cell? ((a.add (i * sz)).add k) = some v := fun i k hi hk => by
    obtain ⟨cs', h1, -⟩ := hx i hi
    obtain ⟨-, h2, h3⟩ := World.cells?_some h1
    rw [h3 k hk]
    exact ⟨_, List.getElem?_eq_getElem (by omega)⟩
  have hsp : a.spot = none := by
    obtain ⟨v, hv⟩ := hcell 0 0 hpos hsz
    simpa [Addr.add] using World.cell?_spot hv
  obtain ⟨ab, ao, asp⟩ := a
  simp only at hsp
  subst hsp
  simp only [WideShapes.add_plain] at hx hcell
  obtain ⟨arr, elem, fr, hh⟩ : ∃ arr elem fr, W.heap[ab]? = some (.cells arr elem fr) := by
    obtain ⟨v, hv⟩ := hcell 0 0 hpos hsz
    unfold World.cell? at hv
    split at hv
    · exact ⟨_, _, _, by assumption⟩
    · cases hv
  have hcellA : ∀ j, W.cell? ⟨ab, j, none⟩ = arr[j]? := fun j => by unfold World.cell?; simp [hh]
  obtain ⟨X, hX⟩ := choose_lt (n := len) (p := fun i (x : α) => W.cells? 0 ⟨ab, ao + i * sz, none⟩ sz = some (c x)) fun i hi => by
    obtain ⟨cs', h1, h2⟩ := hx i (by omega)
    obtain ⟨y, rfl⟩ := hel _ _ _ h2
    exact ⟨y, h1⟩
  have hlen : ((List.range len).map X).length = len := by simp
  have hfm : (((List.range len).map X).flatMap c).length = len * sz := by rw [fm_length hc, hlen]
  have hget : ∀ i v, (((List.range len).map X).flatMap c)[i]? = some v → arr[ao + i]? = some v := fun i v hv => by
    have hi : i < len * sz := by
      rw [← hfm]
      exact (List.getElem?_eq_some_iff.1 hv).1
    have hq : i / sz < len := Nat.div_lt_of_lt_mul (by rw [Nat.mul_comm]; exact hi)
    have hr : i % sz < sz := Nat.mod_lt _ hsz
    have hdm : i / sz * sz + i % sz = i := by rw [Nat.mul_comm]; exact Nat.div_add_mod _ _
    have e1 := fm_get hc ((List.range len).map X) (i / sz) (i % sz) (X (i / sz)) (by simp [hq]) hr
    rw [hdm, hv] at e1
    obtain ⟨-, -, h3⟩ := World.cells?_some (hX _ hq)
    have e2 := h3 _ hr
    rw [WideShapes.add_plain, hcellA, ← e1, show ao + i / sz * sz + i % sz = ao + i by omega] at e2
    exact e2
  have hroom : ao + m * sz ≤ arr.size := by
    obtain ⟨v, hv⟩ := hcell (m - 1) (sz - 1) (by omega) (by omega)
    rw [hcellA] at hv
    have := (Array.getElem?_eq_some_iff.1 hv).1
    have e : m * sz = (m - 1) * sz + sz := by
      obtain ⟨k, rfl⟩ : ∃ k, m = k + 1 := ⟨m - 1, by omega⟩
      rw [Nat.succ_mul]; simp
    omega
  have hle : len * sz ≤ m * sz := Nat.mul_le_mul_right _ hl
  have hflat : ∀ i v, (((List.range len).map X).flatMap c)[i]? = some v → flat1 v = true := fun i v hv => by
    have hmem := List.mem_of_getElem? hv
    rw [List.mem_flatMap] at hmem
    obtain ⟨y, -, hy⟩ := hmem
    exact List.all_eq_true.1 (hf y) v hy
  refine ⟨(List.range len).map X, (.cells false sz (((List.range len).map X).flatMap c), ⟨ab, ao, sz, m * sz⟩), ⟨rfl, fun _ => ⟨_, hh, fun μ => ⟨arr, elem, fr, rfl, rfl, hroom, ?_, fun i v hv => ⟨v, hget i v hv, flat1_refl (hflat i v hv)⟩, by simp⟩⟩⟩, fun b => ⟨.slice (some ⟨b, 0, none⟩) len m, fun μ hμ => ?_, fun F H hb hF hg => ?_⟩⟩
  · show (((List.range len).map X).flatMap c).length ≤ m * sz
    rw [hfm]; exact hle
  · exact .slice b 0 _ len m m hμ hl (Nat.le_refl _) (.inl rfl)
  · rw [hlen]
    refine ⟨some ⟨b, 0, none⟩, m, rfl, hl, hfm, .blk b 0 false _ ⟨hb, hF, hg⟩ ?_⟩
    unfold seg
    rw [if_pos (by rw [hfm]; omega), List.drop_zero, List.take_of_length_le (by rw [hfm]; exact Nat.le_refl _)]

theorem field_in {fs : Array Field} {t : TypeId} (ht : P.underlying t = some (.struct fs)) {fuel : Nat} {cs : List Value} {x : DataW H × List MemPlace} (h : DataW.trod enc P W 0 (fun _ => true) true fuel t cs = some x) {i ty off : Nat} {c : Value}
    (hi : (fs[i]?).map (fun f => (f.type, f.offset)) = some (ty, off)) (hc : P.cellsOf ty = 1) (hcs : cs[off]? = some c) : ∃ n y, DataW.trod enc P W 0 (fun _ => true) true n ty [c] = some y := by
  obtain ⟨xs, n, -, -, -, hlen, hf⟩ := DataW.trod_struct ht h
  cases hfi : fs[i]? with
  | none => rw [hfi] at hi; cases hi
  | some f =>
    rw [hfi] at hi
    simp only [Option.map_some, Option.some.injEq, Prod.mk.injEq] at hi
    obtain ⟨rfl, rfl⟩ := hi
    have e := hf i f hfi
    have hil : i < xs.length := by rw [hlen]; exact (Array.getElem?_eq_some_iff.1 hfi).1
    rw [List.getElem?_eq_getElem hil, hc] at e
    have e2 : (cs.drop f.offset).take 1 = [c] := by
      obtain ⟨h1, h2⟩ := List.getElem?_eq_some_iff.1 hcs
      rw [List.drop_eq_getElem_cons h1, h2]; simp
    rw [e2] at e
    exact ⟨n, _, e⟩

theorem int_in {t : TypeId} {k : IntKind} (ht : P.underlying t = some (.int k)) {fuel : Nat} {c : Value} {x : DataW H × List MemPlace} (h : DataW.trod enc P W 0 (fun _ => true) true fuel t [c] = some x) : ∃ n, c = .int k n ∧ (Lit.int k n).wf = true := by
  cases fuel with
  | zero => simp [DataW.trod] at h
  | succ m =>
    unfold DataW.trod at h
    rw [ht] at h
    split at h <;> simp_all
theorem bool_in {t : TypeId} (ht : P.underlying t = some .bool) {fuel : Nat} {c : Value} {x : DataW H × List MemPlace} (h : DataW.trod enc P W 0 (fun _ => true) true fuel t [c] = some x) : ∃ b, c = .bool b := by
  cases fuel with
  | zero => simp [DataW.trod] at h
  | succ m =>
    unfold DataW.trod at h
    rw [ht] at h
    split at h <;> simp_all
theorem string_in {t : TypeId} (ht : P.underlying t = some .string) {fuel : Nat} {c : Value} {x : DataW H × List MemPlace} (h : DataW.trod enc P W 0 (fun _ => true) true fuel t [c] = some x) : ∃ b, c = .string b := by
  cases fuel with
  | zero => simp [DataW.trod] at h
  | succ m =>
    unfold DataW.trod at h
    rw [ht] at h
    split at h <;> simp_all
end
end Go.Ab
end
section
namespace Go.Ab
open Go.ChangeShapes Go.WideShapes Go.RowKit

section
variable {H : Type} {enc : TypeId × Value → H} {P : Program}

theorem calls_law {f : FuncId} {args args' : Array Value} {l : List (AObj × Tgt)} {W : World} (h : SemC P 0 f args (hp l) (fun r _ => r = .ret (.bool true))) (hin : ∀ p ∈ l, InOk W p) (hrel : VRels (mu l) args.toList args'.toList) :
    Calls P f args' W fun e W' => e = .returned (.bool true) ∧ Below W.heap.size W W' := by
  obtain ⟨r, H', rfl, hV⟩ := h
  refine (callsIn_wide (n := 0)).1 (CallsIn.mono (hV.sim (mu l) W args' (hp_rel hin) (hp_dom l) hrel) ?_)
  rintro e W' ⟨μ', hp⟩
  have hret := hp.ret
  cases hret with
  | ret _ v' hv =>
    cases hv
    exact ⟨rfl, hp.goes.same.os, hp.goes.same.tape, hp.goes.same.output, hp.goes.size, fun k hk => hp.goes.kept k hk (hp_not_own hin k)⟩

theorem stays_all (hl : laidOutB P = true) {W W' : World} (hB : Below W.heap.size W W') {sp : Nat → Bool} : ∀ {ts : List TypeId} {vs : List Value} {ds : List (DataW H)} {ps : List MemPlace}, (∀ t ∈ ts, P.readableRec t = true ∧ t < P.types.size) →
    DataW.TrodAll enc P W 0 (fun _ => true) true ts vs ds ps → (∀ x ∈ ps, x.block < W.heap.size) → (∀ x ∈ ps, sp x.block = true) → DataW.TrodAll enc P W' 0 sp true ts vs ds ps
  | [], [], [], _, _, h, _, _ => h
  | t :: ts, v :: vs, d :: ds, _, ht, ⟨p, q, h1, h2, rfl⟩, hlt, hsp =>
    ⟨p, q, WideElems.Trod_stays hl (ht t (by simp)).1 (ht t (by simp)).2 h1 (fun x hx => hB.same (hlt x (by simp [hx]))) (fun x hx => hsp x (by simp [hx])),
      stays_all hl hB (fun u hu => ht u (by simp [hu])) h2 (fun x hx => hlt x (by simp [hx])) (fun x hx => hsp x (by simp [hx])), rfl⟩
  | [], _ :: _, _, _, _, h, _, _ => by simp [DataW.TrodAll] at h
  | [], [], _ :: _, _, _, h, _, _ => by simp [DataW.TrodAll] at h
  | _ :: _, [], _, _, _, h, _, _ => by simp [DataW.TrodAll] at h
  | _ :: _, _ :: _, [], _, _, h, _, _ => by simp [DataW.TrodAll] at h

theorem post_law {fn : Func} {s : ChangeSpec} {fresh handsOn again : Bool} {W W' : World} {args : Array Value} {ds gs : List (DataW H)} {before : List MemPlace} {t : TypeId} (hv : s.vars = []) (hr : fn.resultTypes = #[t]) (ut : P.underlying t = some .bool) (hl : laidOutB P = true)
    (hp : ∀ u ∈ fn.params.toList, P.readableRec u = true ∧ u < P.types.size) (hW : DataW.Whole enc P fn.params.toList s.vars false W args.toList ds gs before)
    (hs1 : (s.fn H (ds ++ gs)).results = [.lit (.bool true)]) (hs2 : (s.fn H (ds ++ gs)).args = ds) (hs3 : (s.fn H (ds ++ gs)).vars = []) (hB : Below W.heap.size W W') :
    s.post enc P fn false fresh handsOn again W args (.bool true) W' := by
  have hlt := hW.lt
  have hW0 := hW
  obtain ⟨p, q, hA, hV, rfl, hz, -⟩ := hW
  rw [hv] at hV
  obtain ⟨rfl, rfl⟩ := trodVars_none hV
  simp only [List.append_nil] at hlt hz hW0 hs1 hs2 hs3
  have hA' : ∀ sp : Nat → Bool, (∀ x ∈ p, sp x.block = true) → DataW.TrodAll enc P W' 0 sp true fn.params.toList args.toList ds p := fun sp hsp => stays_all hl hB hp hA hlt hsp
  have hres : ∀ (b : Nat) (sp : Nat → Bool) (hd : Bool), DataW.TrodAll enc P W' b sp hd fn.resultTypes.toList ((Value.bool true).resultList fn.resultTypes.size) [.lit (.bool true)] [] := fun b sp hd => by
    rw [hr]
    exact trodAll_mk1 (shut_bool ut true)
  refine ⟨ds, [], p, [], p, [], by simpa using hW0, ?_, ?_, ?_, ?_, fun _ => ⟨?_, [.lit (.bool true)] ++ ds, [], [] ++ p, ⟨[] ++ p, [], trodAll_append (hA' _ fun _ _ => rfl) (hres _ _ _), by rw [hv]; rfl, (List.append_nil _).symm, ?_, fun h => by cases h⟩, fun x hx _ => hx⟩⟩
  · rw [List.append_nil, hs1]; exact hres _ _ _
  · rw [List.append_nil, hs2]; exact hA' _ fun x hx => by simpa using hlt x hx
  · rw [List.append_nil, hs3, hv]; rfl
  · refine ⟨hB.os, hB.output, fun i hi => ?_⟩
    rw [hB.block i hi]
    split <;> simp_all
  · intro j u r h1 h2
    rw [hr] at h1 h2
    match j, h1, h2 with
    | 0, h1, h2 =>
      simp [Value.resultList] at h1 h2
      subst h1; subst h2
      exact okWide_bool_mk ut true
  · intro b off hx
    have h1 := hz b off hx
    unfold World.frozen? at h1 ⊢
    rw [hB.block b (hlt _ hx)]
    exact h1
end
end Go.Ab
end
section
namespace Go.Ab.Ex
open Go.Proofs

noncomputable def TT : Tab := tabOf Try.prog

set_option maxRecDepth 100000 in
theorem tyChecked : tyCheck Try.prog = true := by decide +kernel
set_option maxRecDepth 100000 in
theorem fnChecked : fnCheck Try.prog = true := by decide +kernel
theorem TT.ok : TT.Ok Try.prog 0 := tabOf_ok tyChecked fnChecked
theorem TT_fn (f : Nat) : TT.fn f = Try.prog.funcs[f]? := rfl

end Go.Ab.Ex
end
section
namespace Go.Ab.Ex
open Go.Proofs

theorem ty0 : TT.ty 0 = some ⟨.tuple #[], 1, 0, some (.tuple #[]), false, []⟩ := by kernel_rfl
theorem ty3 : TT.ty 3 = some ⟨.int .i64, 1, 8, some (.int .i64 (0)), false, []⟩ := by kernel_rfl
theorem ty4 : TT.ty 4 = some ⟨.bool, 1, 1, some (.bool false), false, []⟩ := by kernel_rfl
theorem ty5 : TT.ty 5 = some ⟨.int .u8, 1, 1, some (.int .u8 (0)), false, []⟩ := by kernel_rfl
theorem ty9 : TT.ty 9 = some ⟨.string, 1, 16, some (.string { data := #[] }), false, []⟩ := by kernel_rfl
theorem ty22 : TT.ty 22 = some ⟨.slice 60, 1, 24, some (.slice none 0 0), false, []⟩ := by kernel_rfl
theorem ty23 : TT.ty 23 = some ⟨.slice 56, 1, 24, some (.slice none 0 0), false, []⟩ := by kernel_rfl
theorem ty25 : TT.ty 25 = some ⟨.struct (fsOf Try.prog 25), 4, 64, some (.agg #[.slice none 0 0, .int .i64 (0), .int .i64 (0), .slice none 0 0]), true, [(0, 1), (1, 1), (2, 1), (3, 1)]⟩ := by kernel_rfl
theorem ty28 : TT.ty 28 = some ⟨.slice 69, 1, 24, some (.slice none 0 0), false, []⟩ := by kernel_rfl
theorem ty29 : TT.ty 29 = some ⟨.slice 3, 1, 24, some (.slice none 0 0), false, []⟩ := by kernel_rfl
theorem ty31 : TT.ty 31 = some ⟨.struct (fsOf Try.prog 31), 3, 56, some (.agg #[.int .i64 (0), .slice none 0 0, .slice none 0 0]), true, [(0, 1), (1, 1), (2, 1)]⟩ := by kernel_rfl
theorem ty32 : TT.ty 32 = some ⟨.int .i64, 1, 8, some (.int .i64 (0)), false, []⟩ := by kernel_rfl
theorem ty43 : TT.ty 43 = some ⟨.slice 54, 1, 24, some (.slice none 0 0), false, []⟩ := by kernel_rfl
theorem ty44 : TT.ty 44 = some ⟨.array 4 43, 4, 96, some (.agg #[.slice none 0 0, .slice none 0 0, .slice none 0 0, .slice none 0 0]), true, []⟩ := by kernel_rfl
theorem ty54 : TT.ty 54 = some ⟨.int .u32, 1, 4, some (.int .u32 (0)), false, []⟩ := by kernel_rfl
theorem ty56 : TT.ty 56 = some ⟨.struct (fsOf Try.prog 56), 2, 24, some (.agg #[.string { data := { toList := [] } }, .int .i64 (0)]), true, [(0, 1), (1, 1)]⟩ := by kernel_rfl
theorem ty60 : TT.ty 60 = some ⟨.struct (fsOf Try.prog 60), 5, 32, some (.agg #[.int .i64 (0), .int .i64 (0), .int .i64 (0), .int .u32 (0), .bool false]), true, [(0, 1), (1, 1), (2, 1), (3, 1), (4, 1)]⟩ := by kernel_rfl
theorem ty61 : TT.ty 61 = some ⟨.pointer 63, 1, 8, some (.pointer none), false, []⟩ := by kernel_rfl
theorem ty63 : TT.ty 63 = some ⟨.struct (fsOf Try.prog 63), 3, 56, some (.agg #[.int .i64 (0), .slice none 0 0, .slice none 0 0]), true, [(0, 3)]⟩ := by kernel_rfl
theorem ty64 : TT.ty 64 = some ⟨.slice 29, 1, 24, some (.slice none 0 0), false, []⟩ := by kernel_rfl
theorem ty69 : TT.ty 69 = some ⟨.struct (fsOf Try.prog 69), 4, 32, some (.agg #[.int .i64 (0), .int .i64 (0), .int .i64 (0), .int .u32 (0)]), true, [(0, 1), (1, 1), (2, 1), (3, 1)]⟩ := by kernel_rfl
theorem ty72 : TT.ty 72 = some ⟨.pointer 43, 1, 8, some (.pointer none), false, []⟩ := by kernel_rfl
theorem ty80 : TT.ty 80 = some ⟨.pointer 82, 1, 8, some (.pointer none), false, []⟩ := by kernel_rfl
theorem ty82 : TT.ty 82 = some ⟨.struct (fsOf Try.prog 82), 13, 216, some (.agg #[.int .i64 (0), .slice none 0 0, .slice none 0 0, .int .i64 (0), .slice none 0 0, .int .i64 (0), .slice none 0 0, .slice none 0 0, .int .i64 (0), .slice none 0 0, .slice none 0 0, .int .i64 (0), .int .i64 (0)]), true, [(0, 3), (3, 1), (4, 1), (5, 3), (8, 3), (11, 1), (12, 1)]⟩ := by kernel_rfl
theorem ty88 : TT.ty 88 = some ⟨.slice 4, 1, 24, some (.slice none 0 0), false, []⟩ := by kernel_rfl
theorem ty93 : TT.ty 93 = some ⟨.pointer 95, 1, 8, some (.pointer none), false, []⟩ := by kernel_rfl
theorem ty95 : TT.ty 95 = some ⟨.struct (fsOf Try.prog 95), 3, 56, some (.agg #[.int .i64 (0), .slice none 0 0, .slice none 0 0]), true, [(0, 3)]⟩ := by kernel_rfl
theorem ty110 : TT.ty 110 = some ⟨.pointer 60, 1, 8, some (.pointer none), false, []⟩ := by kernel_rfl
theorem ty113 : TT.ty 113 = some ⟨.array 2 3, 2, 16, some (.agg #[.int .i64 (0), .int .i64 (0)]), true, []⟩ := by kernel_rfl
theorem r_len22 (ρ : Operand → Value) (H : Heap) (d : Option Tmp) (ty : TypeId) (ps : String) (af : Array Edge) (gd : Option (Nat × Bool)) (x : Operand) : aread Try.prog TT ρ ⟨d, .call ⟨.builtin .len, #[x], #[22]⟩, ty, ps, af, gd⟩ H = lenO (TT.ty 22) (ρ x) := r_len _ _ _ _ _ _ _ _ _ _ _ _ _ _ _ _ _ ty22
theorem r_len23 (ρ : Operand → Value) (H : Heap) (d : Option Tmp) (ty : TypeId) (ps : String) (af : Array Edge) (gd : Option (Nat × Bool)) (x : Operand) : aread Try.prog TT ρ ⟨d, .call ⟨.builtin .len, #[x], #[23]⟩, ty, ps, af, gd⟩ H = lenO (TT.ty 23) (ρ x) := r_len _ _ _ _ _ _ _ _ _ _ _ _ _ _ _ _ _ ty23
theorem r_len28 (ρ : Operand → Value) (H : Heap) (d : Option Tmp) (ty : TypeId) (ps : String) (af : Array Edge) (gd : Option (Nat × Bool)) (x : Operand) : aread Try.prog TT ρ ⟨d, .call ⟨.builtin .len, #[x], #[28]⟩, ty, ps, af, gd⟩ H = lenO (TT.ty 28) (ρ x) := r_len _ _ _ _ _ _ _ _ _ _ _ _ _ _ _ _ _ ty28
theorem r_len29 (ρ : Operand → Value) (H : Heap) (d : Option Tmp) (ty : TypeId) (ps : String) (af : Array Edge) (gd : Option (Nat × Bool)) (x : Operand) : aread Try.prog TT ρ ⟨d, .call ⟨.builtin .len, #[x], #[29]⟩, ty, ps, af, gd⟩ H = lenO (TT.ty 29) (ρ x) := r_len _ _ _ _ _ _ _ _ _ _ _ _ _ _ _ _ _ ty29
theorem r_len43 (ρ : Operand → Value) (H : Heap) (d : Option Tmp) (ty : TypeId) (ps : String) (af : Array Edge) (gd : Option (Nat × Bool)) (x : Operand) : aread Try.prog TT ρ ⟨d, .call ⟨.builtin .len, #[x], #[43]⟩, ty, ps, af, gd⟩ H = lenO (TT.ty 43) (ρ x) := r_len _ _ _ _ _ _ _ _ _ _ _ _ _ _ _ _ _ ty43
theorem r_len64 (ρ : Operand → Value) (H : Heap) (d : Option Tmp) (ty : TypeId) (ps : String) (af : Array Edge) (gd : Option (Nat × Bool)) (x : Operand) : aread Try.prog TT ρ ⟨d, .call ⟨.builtin .len, #[x], #[64]⟩, ty, ps, af, gd⟩ H = lenO (TT.ty 64) (ρ x) := r_len _ _ _ _ _ _ _ _ _ _ _ _ _ _ _ _ _ ty64
theorem r_len88 (ρ : Operand → Value) (H : Heap) (d : Option Tmp) (ty : TypeId) (ps : String) (af : Array Edge) (gd : Option (Nat × Bool)) (x : Operand) : aread Try.prog TT ρ ⟨d, .call ⟨.builtin .len, #[x], #[88]⟩, ty, ps, af, gd⟩ H = lenO (TT.ty 88) (ρ x) := r_len _ _ _ _ _ _ _ _ _ _ _ _ _ _ _ _ _ ty88
theorem fn3 : TT.fn 3 = some Try.f3 := (TT_fn 3).trans Try.func3
theorem fn4 : TT.fn 4 = some Try.f4 := (TT_fn 4).trans Try.func4
theorem fn5 : TT.fn 5 = some Try.f5 := (TT_fn 5).trans Try.func5
theorem fn6 : TT.fn 6 = some Try.f6 := (TT_fn 6).trans Try.func6
theorem fn7 : TT.fn 7 = some Try.f7 := (TT_fn 7).trans Try.func7
theorem fn8 : TT.fn 8 = some Try.f8 := (TT_fn 8).trans Try.func8
theorem fn9 : TT.fn 9 = some Try.f9 := (TT_fn 9).trans Try.func9
theorem fn10 : TT.fn 10 = some Try.f10 := (TT_fn 10).trans Try.func10
theorem fn11 : TT.fn 11 = some Try.f11 := (TT_fn 11).trans Try.func11
theorem fn12 : TT.fn 12 = some Try.f12 := (TT_fn 12).trans Try.func12
theorem fn13 : TT.fn 13 = some Try.f13 := (TT_fn 13).trans Try.func13
theorem fn14 : TT.fn 14 = some Try.f14 := (TT_fn 14).trans Try.func14
theorem fn15 : TT.fn 15 = some Try.f15 := (TT_fn 15).trans Try.func15
theorem fn16 : TT.fn 16 = some Try.f16 := (TT_fn 16).trans Try.func16
theorem fn17 : TT.fn 17 = some Try.f17 := (TT_fn 17).trans Try.func17
theorem fn18 : TT.fn 18 = some Try.f18 := (TT_fn 18).trans Try.func18
theorem fn19 : TT.fn 19 = some Try.f19 := (TT_fn 19).trans Try.func19
theorem fn20 : TT.fn 20 = some Try.f20 := (TT_fn 20).trans Try.func20
theorem fn21 : TT.fn 21 = some Try.f21 := (TT_fn 21).trans Try.func21
theorem fn22 : TT.fn 22 = some Try.f22 := (TT_fn 22).trans Try.func22
theorem fn23 : TT.fn 23 = some Try.f23 := (TT_fn 23).trans Try.func23
theorem fn24 : TT.fn 24 = some Try.f24 := (TT_fn 24).trans Try.func24
theorem fn25 : TT.fn 25 = some Try.f25 := (TT_fn 25).trans Try.func25
theorem fn26 : TT.fn 26 = some Try.f26 := (TT_fn 26).trans Try.func26
theorem fn27 : TT.fn 27 = some Try.f27 := (TT_fn 27).trans Try.func27
theorem fn28 : TT.fn 28 = some Try.f28 := (TT_fn 28).trans Try.func28
theorem fn29 : TT.fn 29 = some Try.f29 := (TT_fn 29).trans Try.func29
theorem fn30 : TT.fn 30 = some Try.f30 := (TT_fn 30).trans Try.func30
theorem fn31 : TT.fn 31 = some Try.f31 := (TT_fn 31).trans Try.func31
theorem fn32 : TT.fn 32 = some Try.f32 := (TT_fn 32).trans Try.func32
theorem fn33 : TT.fn 33 = some Try.f33 := (TT_fn 33).trans Try.func33
theorem fn34 : TT.fn 34 = some Try.f34 := (TT_fn 34).trans Try.func34
theorem fn35 : TT.fn 35 = some Try.f35 := (TT_fn 35).trans Try.func35
theorem fn36 : TT.fn 36 = some Try.f36 := (TT_fn 36).trans Try.func36
theorem fn37 : TT.fn 37 = some Try.f37 := (TT_fn 37).trans Try.func37
theorem fn38 : TT.fn 38 = some Try.f38 := (TT_fn 38).trans Try.func38
theorem fn39 : TT.fn 39 = some Try.f39 := (TT_fn 39).trans Try.func39
theorem fn40 : TT.fn 40 = some Try.f40 := (TT_fn 40).trans Try.func40
theorem fn41 : TT.fn 41 = some Try.f41 := (TT_fn 41).trans Try.func41
theorem fn42 : TT.fn 42 = some Try.f42 := (TT_fn 42).trans Try.func42
theorem fn43 : TT.fn 43 = some Try.f43 := (TT_fn 43).trans Try.func43
theorem fn44 : TT.fn 44 = some Try.f44 := (TT_fn 44).trans Try.func44
theorem fn45 : TT.fn 45 = some Try.f45 := (TT_fn 45).trans Try.func45
theorem fn46 : TT.fn 46 = some Try.f46 := (TT_fn 46).trans Try.func46
theorem fn47 : TT.fn 47 = some Try.f47 := (TT_fn 47).trans Try.func47
theorem fn48 : TT.fn 48 = some Try.f48 := (TT_fn 48).trans Try.func48
theorem fn49 : TT.fn 49 = some Try.f49 := (TT_fn 49).trans Try.func49
theorem fn50 : TT.fn 50 = some Try.f50 := (TT_fn 50).trans Try.func50
theorem fn51 : TT.fn 51 = some Try.f51 := (TT_fn 51).trans Try.func51
theorem fn52 : TT.fn 52 = some Try.f52 := (TT_fn 52).trans Try.func52
theorem fn53 : TT.fn 53 = some Try.f53 := (TT_fn 53).trans Try.func53
theorem fn54 : TT.fn 54 = some Try.f54 := (TT_fn 54).trans Try.func54
theorem fn55 : TT.fn 55 = some Try.f55 := (TT_fn 55).trans Try.func55
theorem fn56 : TT.fn 56 = some Try.f56 := (TT_fn 56).trans Try.func56
theorem fn57 : TT.fn 57 = some Try.f57 := (TT_fn 57).trans Try.func57
theorem fn58 : TT.fn 58 = some Try.f58 := (TT_fn 58).trans Try.func58
theorem fn59 : TT.fn 59 = some Try.f59 := (TT_fn 59).trans Try.func59
theorem fn60 : TT.fn 60 = some Try.f60 := (TT_fn 60).trans Try.func60
theorem fn61 : TT.fn 61 = some Try.f61 := (TT_fn 61).trans Try.func61
theorem fn62 : TT.fn 62 = some Try.f62 := (TT_fn 62).trans Try.func62
theorem fn63 : TT.fn 63 = some Try.f63 := (TT_fn 63).trans Try.func63
theorem fn64 : TT.fn 64 = some Try.f64 := (TT_fn 64).trans Try.func64
theorem fn65 : TT.fn 65 = some Try.f65 := (TT_fn 65).trans Try.func65
theorem fn66 : TT.fn 66 = some Try.f66 := (TT_fn 66).trans Try.func66
theorem fn67 : TT.fn 67 = some Try.f67 := (TT_fn 67).trans Try.func67
theorem fn68 : TT.fn 68 = some Try.f68 := (TT_fn 68).trans Try.func68
theorem fn69 : TT.fn 69 = some Try.f69 := (TT_fn 69).trans Try.func69
theorem fn70 : TT.fn 70 = some Try.f70 := (TT_fn 70).trans Try.func70
theorem fn71 : TT.fn 71 = some Try.f71 := (TT_fn 71).trans Try.func71
theorem fn72 : TT.fn 72 = some Try.f72 := (TT_fn 72).trans Try.func72
theorem fn73 : TT.fn 73 = some Try.f73 := (TT_fn 73).trans Try.func73
theorem fn74 : TT.fn 74 = some Try.f74 := (TT_fn 74).trans Try.func74
theorem fn75 : TT.fn 75 = some Try.f75 := (TT_fn 75).trans Try.func75
theorem fn76 : TT.fn 76 = some Try.f76 := (TT_fn 76).trans Try.func76
theorem fn77 : TT.fn 77 = some Try.f77 := (TT_fn 77).trans Try.func77
theorem fn78 : TT.fn 78 = some Try.f78 := (TT_fn 78).trans Try.func78
theorem fn79 : TT.fn 79 = some Try.f79 := (TT_fn 79).trans Try.func79
theorem fn80 : TT.fn 80 = some Try.f80 := (TT_fn 80).trans Try.func80
theorem fn81 : TT.fn 81 = some Try.f81 := (TT_fn 81).trans Try.func81
theorem fn82 : TT.fn 82 = some Try.f82 := (TT_fn 82).trans Try.func82
theorem fn83 : TT.fn 83 = some Try.f83 := (TT_fn 83).trans Try.func83
theorem fn84 : TT.fn 84 = some Try.f84 := (TT_fn 84).trans Try.func84
theorem fn85 : TT.fn 85 = some Try.f85 := (TT_fn 85).trans Try.func85
theorem fn86 : TT.fn 86 = some Try.f86 := (TT_fn 86).trans Try.func86
theorem fn87 : TT.fn 87 = some Try.f87 := (TT_fn 87).trans Try.func87
theorem has3 : hasFn TT 3 = true := by unfold hasFn; rw [fn3]; rfl
theorem has4 : hasFn TT 4 = true := by unfold hasFn; rw [fn4]; rfl
theorem has5 : hasFn TT 5 = true := by unfold hasFn; rw [fn5]; rfl
theorem has6 : hasFn TT 6 = true := by unfold hasFn; rw [fn6]; rfl
theorem has7 : hasFn TT 7 = true := by unfold hasFn; rw [fn7]; rfl
theorem has8 : hasFn TT 8 = true := by unfold hasFn; rw [fn8]; rfl
theorem has9 : hasFn TT 9 = true := by unfold hasFn; rw [fn9]; rfl
theorem has10 : hasFn TT 10 = true := by unfold hasFn; rw [fn10]; rfl
theorem has11 : hasFn TT 11 = true := by unfold hasFn; rw [fn11]; rfl
theorem has12 : hasFn TT 12 = true := by unfold hasFn; rw [fn12]; rfl
theorem has13 : hasFn TT 13 = true := by unfold hasFn; rw [fn13]; rfl
theorem has14 : hasFn TT 14 = true := by unfold hasFn; rw [fn14]; rfl
theorem has15 : hasFn TT 15 = true := by unfold hasFn; rw [fn15]; rfl
theorem has16 : hasFn TT 16 = true := by unfold hasFn; rw [fn16]; rfl
theorem has17 : hasFn TT 17 = true := by unfold hasFn; rw [fn17]; rfl
theorem has18 : hasFn TT 18 = true := by unfold hasFn; rw [fn18]; rfl
theorem has19 : hasFn TT 19 = true := by unfold hasFn; rw [fn19]; rfl
theorem has20 : hasFn TT 20 = true := by unfold hasFn; rw [fn20]; rfl
theorem has21 : hasFn TT 21 = true := by unfold hasFn; rw [fn21]; rfl
theorem has22 : hasFn TT 22 = true := by unfold hasFn; rw [fn22]; rfl
theorem has23 : hasFn TT 23 = true := by unfold hasFn; rw [fn23]; rfl
theorem has24 : hasFn TT 24 = true := by unfold hasFn; rw [fn24]; rfl
theorem has25 : hasFn TT 25 = true := by unfold hasFn; rw [fn25]; rfl
theorem has26 : hasFn TT 26 = true := by unfold hasFn; rw [fn26]; rfl
theorem has27 : hasFn TT 27 = true := by unfold hasFn; rw [fn27]; rfl
theorem has28 : hasFn TT 28 = true := by unfold hasFn; rw [fn28]; rfl
theorem has29 : hasFn TT 29 = true := by unfold hasFn; rw [fn29]; rfl
theorem has30 : hasFn TT 30 = true := by unfold hasFn; rw [fn30]; rfl
theorem has31 : hasFn TT 31 = true := by unfold hasFn; rw [fn31]; rfl
theorem has32 : hasFn TT 32 = true := by unfold hasFn; rw [fn32]; rfl
theorem has33 : hasFn TT 33 = true := by unfold hasFn; rw [fn33]; rfl
theorem has34 : hasFn TT 34 = true := by unfold hasFn; rw [fn34]; rfl
theorem has35 : hasFn TT 35 = true := by unfold hasFn; rw [fn35]; rfl
theorem has36 : hasFn TT 36 = true := by unfold hasFn; rw [fn36]; rfl
theorem has37 : hasFn TT 37 = true := by unfold hasFn; rw [fn37]; rfl
theorem has38 : hasFn TT 38 = true := by unfold hasFn; rw [fn38]; rfl
theorem has39 : hasFn TT 39 = true := by unfold hasFn; rw [fn39]; rfl
theorem has40 : hasFn TT 40 = true := by unfold hasFn; rw [fn40]; rfl
theorem has41 : hasFn TT 41 = true := by unfold hasFn; rw [fn41]; rfl
theorem has42 : hasFn TT 42 = true := by unfold hasFn; rw [fn42]; rfl
theorem has43 : hasFn TT 43 = true := by unfold hasFn; rw [fn43]; rfl
theorem has44 : hasFn TT 44 = true := by unfold hasFn; rw [fn44]; rfl
theorem has45 : hasFn TT 45 = true := by unfold hasFn; rw [fn45]; rfl
theorem has46 : hasFn TT 46 = true := by unfold hasFn; rw [fn46]; rfl
theorem has47 : hasFn TT 47 = true := by unfold hasFn; rw [fn47]; rfl
theorem has48 : hasFn TT 48 = true := by unfold hasFn; rw [fn48]; rfl
theorem has49 : hasFn TT 49 = true := by unfold hasFn; rw [fn49]; rfl
theorem has50 : hasFn TT 50 = true := by unfold hasFn; rw [fn50]; rfl
theorem has51 : hasFn TT 51 = true := by unfold hasFn; rw [fn51]; rfl
theorem has52 : hasFn TT 52 = true := by unfold hasFn; rw [fn52]; rfl
theorem has53 : hasFn TT 53 = true := by unfold hasFn; rw [fn53]; rfl
theorem has54 : hasFn TT 54 = true := by unfold hasFn; rw [fn54]; rfl
theorem has55 : hasFn TT 55 = true := by unfold hasFn; rw [fn55]; rfl
theorem has56 : hasFn TT 56 = true := by unfold hasFn; rw [fn56]; rfl
theorem has57 : hasFn TT 57 = true := by unfold hasFn; rw [fn57]; rfl
theorem has58 : hasFn TT 58 = true := by unfold hasFn; rw [fn58]; rfl
theorem has59 : hasFn TT 59 = true := by unfold hasFn; rw [fn59]; rfl
theorem has60 : hasFn TT 60 = true := by unfold hasFn; rw [fn60]; rfl
theorem has61 : hasFn TT 61 = true := by unfold hasFn; rw [fn61]; rfl
theorem has62 : hasFn TT 62 = true := by unfold hasFn; rw [fn62]; rfl
theorem has63 : hasFn TT 63 = true := by unfold hasFn; rw [fn63]; rfl
theorem has64 : hasFn TT 64 = true := by unfold hasFn; rw [fn64]; rfl
theorem has65 : hasFn TT 65 = true := by unfold hasFn; rw [fn65]; rfl
theorem has66 : hasFn TT 66 = true := by unfold hasFn; rw [fn66]; rfl
theorem has67 : hasFn TT 67 = true := by unfold hasFn; rw [fn67]; rfl
theorem has68 : hasFn TT 68 = true := by unfold hasFn; rw [fn68]; rfl
theorem has69 : hasFn TT 69 = true := by unfold hasFn; rw [fn69]; rfl
theorem has70 : hasFn TT 70 = true := by unfold hasFn; rw [fn70]; rfl
theorem has71 : hasFn TT 71 = true := by unfold hasFn; rw [fn71]; rfl
theorem has72 : hasFn TT 72 = true := by unfold hasFn; rw [fn72]; rfl
theorem has73 : hasFn TT 73 = true := by unfold hasFn; rw [fn73]; rfl
theorem has74 : hasFn TT 74 = true := by unfold hasFn; rw [fn74]; rfl
theorem has75 : hasFn TT 75 = true := by unfold hasFn; rw [fn75]; rfl
theorem has76 : hasFn TT 76 = true := by unfold hasFn; rw [fn76]; rfl
theorem has77 : hasFn TT 77 = true := by unfold hasFn; rw [fn77]; rfl
theorem has78 : hasFn TT 78 = true := by unfold hasFn; rw [fn78]; rfl
theorem has79 : hasFn TT 79 = true := by unfold hasFn; rw [fn79]; rfl
theorem has80 : hasFn TT 80 = true := by unfold hasFn; rw [fn80]; rfl
theorem has81 : hasFn TT 81 = true := by unfold hasFn; rw [fn81]; rfl
theorem has82 : hasFn TT 82 = true := by unfold hasFn; rw [fn82]; rfl
theorem has83 : hasFn TT 83 = true := by unfold hasFn; rw [fn83]; rfl
theorem has84 : hasFn TT 84 = true := by unfold hasFn; rw [fn84]; rfl
theorem has85 : hasFn TT 85 = true := by unfold hasFn; rw [fn85]; rfl
theorem has86 : hasFn TT 86 = true := by unfold hasFn; rw [fn86]; rfl
theorem has87 : hasFn TT 87 = true := by unfold hasFn; rw [fn87]; rfl
attribute [go_sem] ty0 ty3 ty4 ty5 ty9 ty22 ty23 ty25 ty28 ty29 ty31 ty32 ty43 ty44 ty54 ty56 ty60 ty61 ty63 ty64 ty69 ty72 ty80 ty82 ty88 ty93 ty95 ty110 ty113 r_len22 r_len23 r_len28 r_len29 r_len43 r_len64 r_len88 has3 has4 has5 has6 has7 has8 has9 has10 has11 has12 has13 has14 has15 has16 has17 has18 has19 has20 has21 has22 has23 has24 has25 has26 has27 has28 has29 has30 has31 has32 has33 has34 has35 has36 has37 has38 has39 has40 has41 has42 has43 has44 has45 has46 has47 has48 has49 has50 has51 has52 has53 has54 has55 has56 has57 has58 has59 has60 has61 has62 has63 has64 has65 has66 has67 has68 has69 has70 has71 has72 has73 has74 has75 has76 has77 has78 has79 has80 has81 has82 has83 has84 has85 has86 has87
end Go.Ab.Ex
end
