/- Regions that draw among many orders: not all orders, but all sets of operations that can have been done, each with the state behind it. -/
import Derived.Test.YtbohajclnmmkhaaGreatDoorVxInM
namespace Go.VL
open Go.RowKit
set_option linter.unusedSimpArgs false
set_option linter.unusedVariables false
section
variable {P : Program} {C : CEnv} {Q : Exit → VS → Prop} {st : VS}

/-- Which of n are done. -/
def arrOf (n : Nat) (p : List Nat) : Array Bool := ((List.range n).map fun j => p.contains j).toArray
def insN (i : Nat) : List Nat → List Nat
  | [] => [i]
  | j :: p => if i < j then i :: j :: p else j :: insN i p
def bEq (a b : Array Bool) : Bool := a.toList == b.toList
def nEq (a b : List Nat) : Bool := a == b
/-- All sets that can have been done: what can come next leads to one of them. -/
def diaOk (ops : Array Oper) (Ds : List (List Nat)) : Bool :=
  Ds.any (nEq []) && bEq (arrOf ops.size []) (Array.replicate ops.size false) && Ds.all fun p => match Region.ready .any ops (arrOf ops.size p) with
    | [] => nEq p (List.range ops.size)
    | r => r.all fun i => Ds.any (nEq (insN i p)) && bEq ((arrOf ops.size p).setIfInBounds i true) (arrOf ops.size (insN i p))
/-- What can come next. -/
def diaPs (ops : Array Oper) (Ds : List (List Nat)) : List (List Nat × Nat) := Ds.flatMap fun p => (Region.ready .any ops (arrOf ops.size p)).map fun i => (p, i)
def stepAt (P : Program) (C CM : CEnv) (l : List Oper) (i : Nat) (st : VS) : Option VS := match l[i]? with
  | some o => vstepM P C CM st o
  | none => none
end
attribute [simp] insN stepAt
end Go.VL
