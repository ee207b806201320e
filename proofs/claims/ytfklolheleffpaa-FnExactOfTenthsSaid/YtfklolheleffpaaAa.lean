/- Contracts of functions that the law FnExactOfTenths reaches. -/
import Derived.Test.YtfklolheleffpaaVxSimp
import Derived.Test.YtfklolheleffpaaProg
import Derived.KernelRfl
namespace Go.VL
set_option linter.unusedSimpArgs false
open Go.Proofs
theorem tk22 : tk Try.prog 22 = .int .i16 := by kernel_rfl
theorem tk23 : tk Try.prog 23 = .flt .f32 := by kernel_rfl
theorem tk26 : tk Try.prog 26 = .flt .f64 := by kernel_rfl
theorem tk4 : tk Try.prog 4 = .bool := by kernel_rfl

def F7 : List V → Option V
  | [.i .i16 n] => some (.f .f32 (fop .quo .f32 (some (FloatKind.f32.nearest n)) (some 1092616192)))
  | _ => none

set_option maxRecDepth 100000 in
theorem ok7 : Tells Try.prog 7 F7 := by
  refine ⟨by kernel_rfl, fun args r h => ?_⟩
  unfold F7 at h
  split at h <;> cases h
  refine VCalls.of Try.func7 rfl rfl rfl ?_
  repeat' first
    | refine VW.seq ?_
    | (refine VW.evalK (C := []) trivial (by kernel_rfl) ?_; simp [veval, guardV, mrgT, skipT, vstep, vop1, vq, vbin, vbinF, vconv, tk22, tk23, tk26, tk4, isShift])
    | (refine VW.ret (VRet.plain ?_); simp [vres, vres1])
    | (refine VW.condB rfl (fun h => ?_) (fun h => ?_))
    | exact VW.skip trivial
    | (refine VW.skip ?_; simp only [vthen])

set_option maxRecDepth 100000 in
theorem ok8 : Tells Try.prog 8 F7 := by
  refine ⟨by kernel_rfl, fun args r h => ?_⟩
  unfold F7 at h
  split at h <;> cases h
  refine VCalls.of Try.func8 rfl rfl rfl ?_
  repeat' first
    | refine VW.seq ?_
    | (refine VW.evalK (C := []) trivial (by kernel_rfl) ?_; simp [veval, guardV, mrgT, skipT, vstep, vop1, vq, vbin, vbinF, vconv, tk22, tk23, tk26, tk4, isShift])
    | (refine VW.ret (VRet.plain ?_); simp [vres, vres1])

def sameF (x y : Option Nat) : Bool :=
  if (ford .f64 x x != some .eq || ford .f64 y y != some .eq) = true then (ford .f64 x x != some .eq && ford .f64 y y != some .eq) else
  if (ford .f64 x (some 0) == some .eq && ford .f64 y (some 0) == some .eq) = true then ((ford .f64 (fop .quo .f64 (some 4607182418800017408) x) (some 0) == some .gt) == (ford .f64 (fop .quo .f64 (some 4607182418800017408) y) (some 0) == some .gt))
  else ford .f64 x y == some .eq

def F9 : List V → Option V
  | [.f .f64 x, .f .f64 y] => some (.b (sameF x y))
  | _ => none

set_option maxRecDepth 100000 in
theorem ok9 : Tells Try.prog 9 F9 := by
  refine ⟨by kernel_rfl, fun args r h => ?_⟩
  unfold F9 at h
  split at h <;> cases h
  refine VCalls.of Try.func9 rfl rfl rfl ?_
  repeat' first
    | refine VW.seq ?_
    | (refine VW.evalK (C := []) trivial (by kernel_rfl) ?_; simp [veval, guardV, mrgT, skipT, vstep, vop1, vq, vbin, vbinF, vconv, tk22, tk23, tk26, tk4, isShift])
    | (refine VW.ret (VRet.plain ?_); simp [vres, vres1])
    | (refine VW.condB rfl (fun h => ?_) (fun h => ?_))
    | exact VW.skip trivial
    | (refine VW.skip ?_; simp only [vthen])
  all_goals simp_all [sameF]
end Go.VL
