/-
  No cell of these rows narrows 'for every input' (looked for: loops, veiled, ifaces, maps, wideKeys, modest, calm, conditions, laid).
  DERIVED. THE GIVEN ROWS OF THIS SEAT. 5 by the template 'for every input the law returns true; each argument reads behind the call as it read before'; 0 by the template 'total and deterministic' (their statements: YtiiejiobkfakeaaTotals.lean).
  GIVEN WITH THE SEED: the statements are not yours to turn. If you find one false, say at which input.
  Laid BY PROGRAM, IN A SANDBOX (cutbox-rows.mjs): the forced cells as the released guide's own fill.sh prints them over the translation e34f67497ff7d061… (all of the seat's roots in one cut). By AI agents, Wed Nov 11 2026. No macro, syntax, notation, axiom, sorry.
-/
import Derived.Test.YtiiejiobkfakeaaChecked
import GoSem.Claim
import GoSem.ClaimJoined
import GoSem.ClaimMapViews
import Derived.JoinedTies
import Derived.KernelRfl
namespace Go.Proofs.Ytiiejiobkfakeaa
/- THE CELL 'sum', in the pinned program and in every row, IS THE sha256 OF THE DUMP (.gsa) THAT YtiiejiobkfakeaaProg.lean LOADS. Nothing in Lean hashes anything: it is a label: what it is worth is what the hold of that sum in a sandbox is worth. -/
noncomputable def Try.pinned : Pinned := { name := "ytiiejiobkfakeaa", sum := "e34f67497ff7d061c0212d67af6fde7025d03a4f9f750b57a04724a39b5fd7d3", checked := Try.checked }
namespace Rows
def none {H : Type} : Left H := { results := [], args := [] }

/-- 'laws.FnExactFirstFlaw': WHATEVER THE INPUT: true; the input reads as it did. -/
def fnExactFirstFlawSpec : ChangeSpec := { name := "fnExactFirstFlaw", fn := fun _ => fun
  | [d1, d2] => { results := [.lit (.bool true)], args := [d1, d2] }
  | _ => none }
def fnExactFirstFlawRow : OpenClaim := { program := "ytiiejiobkfakeaa", sum := "e34f67497ff7d061c0212d67af6fde7025d03a4f9f750b57a04724a39b5fd7d3", func := "loop.example/g01229/laws.FnExactFirstFlaw", spec := "fnExactFirstFlaw", apart := false }
def FnExactFirstFlawSaid : Prop := fnExactFirstFlawRow.holds Try.pinned (OpenSpec.ofChange fnExactFirstFlawSpec)

/-- ITS FALSE NEIGHBOUR: 'it returns false'. Refute it at one input. -/
def fnExactFirstFlawWrong : ChangeSpec := { name := "fnExactFirstFlaw", fn := fun _ => fun
  | [d1, d2] => { results := [.lit (.bool false)], args := [d1, d2] }
  | _ => none }
def FnExactFirstFlawWrongFalsely : Prop := fnExactFirstFlawRow.holds Try.pinned (OpenSpec.ofChange fnExactFirstFlawWrong)

/-- 'laws.FnExactRegretOf': WHATEVER THE INPUT: true; the input reads as it did. -/
def fnExactRegretOfSpec : ChangeSpec := { name := "fnExactRegretOf", fn := fun _ => fun
  | [d1, d2] => { results := [.lit (.bool true)], args := [d1, d2] }
  | _ => none }
def fnExactRegretOfRow : OpenClaim := { program := "ytiiejiobkfakeaa", sum := "e34f67497ff7d061c0212d67af6fde7025d03a4f9f750b57a04724a39b5fd7d3", func := "loop.example/g01229/laws.FnExactRegretOf", spec := "fnExactRegretOf", apart := false }
def FnExactRegretOfSaid : Prop := fnExactRegretOfRow.holds Try.pinned (OpenSpec.ofChange fnExactRegretOfSpec)

/-- ITS FALSE NEIGHBOUR: 'it returns false'. Refute it at one input. -/
def fnExactRegretOfWrong : ChangeSpec := { name := "fnExactRegretOf", fn := fun _ => fun
  | [d1, d2] => { results := [.lit (.bool false)], args := [d1, d2] }
  | _ => none }
def FnExactRegretOfWrongFalsely : Prop := fnExactRegretOfRow.holds Try.pinned (OpenSpec.ofChange fnExactRegretOfWrong)

/-- 'laws.FnExactIsCertificate': WHATEVER THE INPUT: true; the input reads as it did. -/
def fnExactIsCertificateSpec : ChangeSpec := { name := "fnExactIsCertificate", fn := fun _ => fun
  | [d1, d2, d3] => { results := [.lit (.bool true)], args := [d1, d2, d3] }
  | _ => none }
def fnExactIsCertificateRow : OpenClaim := { program := "ytiiejiobkfakeaa", sum := "e34f67497ff7d061c0212d67af6fde7025d03a4f9f750b57a04724a39b5fd7d3", func := "loop.example/g01229/laws.FnExactIsCertificate", spec := "fnExactIsCertificate", apart := false }
def FnExactIsCertificateSaid : Prop := fnExactIsCertificateRow.holds Try.pinned (OpenSpec.ofChange fnExactIsCertificateSpec)

/-- ITS FALSE NEIGHBOUR: 'it returns false'. Refute it at one input. -/
def fnExactIsCertificateWrong : ChangeSpec := { name := "fnExactIsCertificate", fn := fun _ => fun
  | [d1, d2, d3] => { results := [.lit (.bool false)], args := [d1, d2, d3] }
  | _ => none }
def FnExactIsCertificateWrongFalsely : Prop := fnExactIsCertificateRow.holds Try.pinned (OpenSpec.ofChange fnExactIsCertificateWrong)

/-- 'laws.FnMargins': WHATEVER THE INPUT: true; the input reads as it did. -/
def fnMarginsSpec : ChangeSpec := { name := "fnMargins", fn := fun _ => fun
  | [d1, d2] => { results := [.lit (.bool true)], args := [d1, d2] }
  | _ => none }
def fnMarginsRow : OpenClaim := { program := "ytiiejiobkfakeaa", sum := "e34f67497ff7d061c0212d67af6fde7025d03a4f9f750b57a04724a39b5fd7d3", func := "loop.example/g01229/laws.FnMargins", spec := "fnMargins", apart := false }
def FnMarginsSaid : Prop := fnMarginsRow.holds Try.pinned (OpenSpec.ofChange fnMarginsSpec)

/-- ITS FALSE NEIGHBOUR: 'it returns false'. Refute it at one input. -/
def fnMarginsWrong : ChangeSpec := { name := "fnMargins", fn := fun _ => fun
  | [d1, d2] => { results := [.lit (.bool false)], args := [d1, d2] }
  | _ => none }
def FnMarginsWrongFalsely : Prop := fnMarginsRow.holds Try.pinned (OpenSpec.ofChange fnMarginsWrong)

/-- 'laws.FnCheapest': WHATEVER THE INPUT: true; the input reads as it did. -/
def fnCheapestSpec : ChangeSpec := { name := "fnCheapest", fn := fun _ => fun
  | [d1, d2] => { results := [.lit (.bool true)], args := [d1, d2] }
  | _ => none }
def fnCheapestRow : OpenClaim := { program := "ytiiejiobkfakeaa", sum := "e34f67497ff7d061c0212d67af6fde7025d03a4f9f750b57a04724a39b5fd7d3", func := "loop.example/g01229/laws.FnCheapest", spec := "fnCheapest", apart := false }
def FnCheapestSaid : Prop := fnCheapestRow.holds Try.pinned (OpenSpec.ofChange fnCheapestSpec)

/-- ITS FALSE NEIGHBOUR: 'it returns false'. Refute it at one input. -/
def fnCheapestWrong : ChangeSpec := { name := "fnCheapest", fn := fun _ => fun
  | [d1, d2] => { results := [.lit (.bool false)], args := [d1, d2] }
  | _ => none }
def FnCheapestWrongFalsely : Prop := fnCheapestRow.holds Try.pinned (OpenSpec.ofChange fnCheapestWrong)

/- THE SECOND FORM. 'bulk': how many values and letters a reading holds, each counted each time it is reached (what is shared counts as often as it is met; a slice's spare places count too). A statement '..UptoSaid' is the law's where the arguments, and the package variables that the reading takes, are together of bulk at most 1048576: NARROWER than '..Said'. Prove '..Said' where nothing that the law and all that it calls make is longer than what came in: it says more and counts as full. Else prove '..UptoSaid'. A law counts once. -/
mutual
def uptoBulk {H : Type} : DataW H → Nat
  | .lit (.string bytes) => bytes.length + 1
  | .lit _ => 1
  | .nil => 1
  | .ptr d => uptoBulk d + 1
  | .slice elems spare => uptoBulkAll elems + uptoBulkAll spare + 1
  | .agg parts => uptoBulkAll parts + 1
  | .iface _ d => uptoBulk d + 1
  | .map entries => uptoBulkEntries entries + 1
  | .held _ => 1
def uptoBulkAll {H : Type} : List (DataW H) → Nat
  | [] => 0
  | d :: r => uptoBulk d + uptoBulkAll r
def uptoBulkEntries {H : Type} : List (Lit × DataW H) → Nat
  | [] => 0
  | x :: r => uptoBulkEntry x + uptoBulkEntries r
def uptoBulkEntry {H : Type} : Lit × DataW H → Nat
  | (.string bytes, d) => bytes.length + uptoBulk d + 1
  | (_, d) => uptoBulk d + 1
 end
def uptoSmall : (H : Type) → List (DataW H) → Bool := fun _ ds => decide (uptoBulkAll ds ≤ 1048576)
def OpenSpec.upto (s : _root_.Go.ChangeSpec) : _root_.Go.OpenSpec := { _root_.Go.OpenSpec.ofChange s with cond := some uptoSmall }

/-- 'laws.FnExactFirstFlaw', WHERE WHAT IT READS IS OF BULK AT MOST 1048576: true; the input reads as it did. -/
def fnExactFirstFlawUptoRow : OpenClaim := { program := "ytiiejiobkfakeaa", sum := "e34f67497ff7d061c0212d67af6fde7025d03a4f9f750b57a04724a39b5fd7d3", func := "loop.example/g01229/laws.FnExactFirstFlaw", spec := "fnExactFirstFlaw", apart := false, narrowed := true }
def FnExactFirstFlawUptoSaid : Prop := fnExactFirstFlawUptoRow.holds Try.pinned (OpenSpec.upto fnExactFirstFlawSpec)

/-- 'laws.FnExactRegretOf', WHERE WHAT IT READS IS OF BULK AT MOST 1048576: true; the input reads as it did. -/
def fnExactRegretOfUptoRow : OpenClaim := { program := "ytiiejiobkfakeaa", sum := "e34f67497ff7d061c0212d67af6fde7025d03a4f9f750b57a04724a39b5fd7d3", func := "loop.example/g01229/laws.FnExactRegretOf", spec := "fnExactRegretOf", apart := false, narrowed := true }
def FnExactRegretOfUptoSaid : Prop := fnExactRegretOfUptoRow.holds Try.pinned (OpenSpec.upto fnExactRegretOfSpec)

/-- 'laws.FnExactIsCertificate', WHERE WHAT IT READS IS OF BULK AT MOST 1048576: true; the input reads as it did. -/
def fnExactIsCertificateUptoRow : OpenClaim := { program := "ytiiejiobkfakeaa", sum := "e34f67497ff7d061c0212d67af6fde7025d03a4f9f750b57a04724a39b5fd7d3", func := "loop.example/g01229/laws.FnExactIsCertificate", spec := "fnExactIsCertificate", apart := false, narrowed := true }
def FnExactIsCertificateUptoSaid : Prop := fnExactIsCertificateUptoRow.holds Try.pinned (OpenSpec.upto fnExactIsCertificateSpec)

/-- 'laws.FnMargins', WHERE WHAT IT READS IS OF BULK AT MOST 1048576: true; the input reads as it did. -/
def fnMarginsUptoRow : OpenClaim := { program := "ytiiejiobkfakeaa", sum := "e34f67497ff7d061c0212d67af6fde7025d03a4f9f750b57a04724a39b5fd7d3", func := "loop.example/g01229/laws.FnMargins", spec := "fnMargins", apart := false, narrowed := true }
def FnMarginsUptoSaid : Prop := fnMarginsUptoRow.holds Try.pinned (OpenSpec.upto fnMarginsSpec)

/-- 'laws.FnCheapest', WHERE WHAT IT READS IS OF BULK AT MOST 1048576: true; the input reads as it did. -/
def fnCheapestUptoRow : OpenClaim := { program := "ytiiejiobkfakeaa", sum := "e34f67497ff7d061c0212d67af6fde7025d03a4f9f750b57a04724a39b5fd7d3", func := "loop.example/g01229/laws.FnCheapest", spec := "fnCheapest", apart := false, narrowed := true }
def FnCheapestUptoSaid : Prop := fnCheapestUptoRow.holds Try.pinned (OpenSpec.upto fnCheapestSpec)

end Rows
end Go.Proofs.Ytiiejiobkfakeaa
