/- Wire: code that a run on the ground makes. -/
import Derived.Test.YtmodeilippcbnaaR05
set_option linter.all false
namespace Go.Ab.Ex
open Go.Proofs

def readInts : List Value → Option (List Int)
  | [] => some []
  | .int .i64 n :: l => (readInts l).map fun m => n :: m
  | _ => none
def readOps : List Value → Option (List (List Int))
  | [] => some []
  | .int .i64 k :: .int .i64 a :: .int .i64 b :: .int .u32 n :: l => (readOps l).map fun m => [k, a, b, n] :: m
  | _ => none
/-- what comes in, what goes out, the steps -/
def readCode : Option (Ret × Heap) → Option (List (List Int))
  | some (.ret (.tuple vs), H) => match vs.toList with
    | [.agg cs, .int .i64 0] => match cs.toList with
      | [.int .i64 inn, .slice (some ⟨b1, 0, none⟩) n1 cap1, .slice (some ⟨b2, 0, none⟩) n2 cap2] =>
        match H.get b1, H.get b2 with
        | .cells _ 4 c1, .cells _ 1 c2 => match readOps c1, readInts c2 with
          | some l1, some l2 => if l1.length = n1 ∧ l2.length = n2 ∧ b1 < H.next ∧ b2 < H.next ∧ n1 ≤ cap1 ∧ n2 ≤ cap2 then some ([inn] :: l2 :: l1) else none
          | _, _ => none
        | _, _ => none
      | _ => none
    | _ => none
  | _ => none

/-- a gadget's steps and outputs, after so many pairs -/
structure Gad where
  ops : List (List Int)
  outs : List Int

def gIn (and : Bool) (d : Nat) : Int := if and then 2 * d + 2 else d + 1
def gStart (and : Bool) (d : Nat) : Gad := if and then ⟨(List.range (d + 1)).map fun (i : Nat) => [1, (i : Int), (d : Int) + 1 + i, 0], (List.range (d + 1)).map fun (i : Nat) => gIn true d + i⟩ else ⟨[], (List.range (d + 1)).map fun (i : Nat) => (i : Int)⟩
def gStep (and : Bool) (d : Nat) (s : Gad) (p : Nat × Nat) : Gad :=
    let n : Int := gIn and d + s.ops.length
    let i := p.1
    let j := p.2
    let oi := s.outs.getD i 0
    let oj := s.outs.getD j 0
    if and then
      ⟨s.ops ++ [[0, 0, 0, 0], [1, (i : Int), (d : Int) + 1 + j, 0], [2, n, n + 1, 0], [1, (j : Int), (d : Int) + 1 + i, 0], [2, n + 2, n + 3, 0], [2, oi, n, 0], [2, oj, n + 4, 0]], (s.outs.set i (n + 5)).set j (n + 6)⟩
    else
      ⟨s.ops ++ [[0, 0, 0, 0], [2, oi, n, 0], [2, oj, n, 0]], (s.outs.set i (n + 1)).set j (n + 2)⟩
def gPairs (d : Nat) : List (Nat × Nat) := (List.range (d + 1)).flatMap fun i => ((List.range (d + 1)).filter (fun j => decide (i < j))).map fun j => (i, j)
def gad (and : Bool) (d : Nat) : Gad := (gPairs d).foldl (gStep and d) (gStart and d)

noncomputable def gCheck (f : FuncId) (args : Array Value) (and : Bool) (d : Nat) : Bool := decide (readCode (call Try.prog TT 3000 f args Heap.empty) = some ([gIn and d] :: (gad and d).outs :: (gad and d).ops))
end Go.Ab.Ex
