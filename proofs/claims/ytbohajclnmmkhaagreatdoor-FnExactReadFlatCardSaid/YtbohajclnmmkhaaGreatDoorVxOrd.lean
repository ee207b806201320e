/- Regions that draw among few orders: all of them, one after the other; operations under guards too. -/
import Derived.Test.YtbohajclnmmkhaaGreatDoorVxShort
namespace Go.VL
open Go.RowKit
set_option linter.unusedSimpArgs false
set_option linter.unusedVariables false
section
variable {P : Program} {C : CEnv} {Q : Exit → VS → Prop} {st : VS} {ops : Array Oper}

/-- One operation, carried out or left out. -/
def vstepG (P : Program) (C : CEnv) (ops : Array Oper) (st : VS) (o : Oper) : Option VS :=
  match vwanted ops st.t o with
  | some true => vstep P C st o
  | some false => some { t := putV st.t o.dst und, m := st.m, g := st.g }
  | none => none
def vseqG (P : Program) (C : CEnv) (ops : Array Oper) : List Oper → VS → Option VS
  | [], st => some st
  | o :: l, st => (vstepG P C ops st o).bind (vseqG P C ops l)
attribute [simp] vseqG vstepG vwanted
end
end Go.VL
