/- Contracts of the functions that the law reaches: what each tells, as a function in Lean. -/
import Derived.Test.YtilkneilafpjiaaK3Ty
import Derived.KernelRfl
namespace Go.Proofs.Ytilkneilafpjiaa
open Go.RowKit Go.VL
set_option linter.unusedSimpArgs false
set_option linter.unusedVariables false
noncomputable def g12 (heat : F32) : Option (Int) :=
  if neF .f32 (mulF .f32 (some 1092616192) heat) (mulF .f32 (some 1092616192) heat) = true then
    some 0
  else
    if gtF .f64 (roundE (wide (mulF .f32 (some 1092616192) heat))) (some 4674736138332667904) = true then
      some 32767
    else
      if ltF .f64 (roundE (wide (mulF .f32 (some 1092616192) heat))) (some 13898108450065350656) = true then
        some (-32768)
      else
        (iOfF .f64 .i16 (roundE (wide (mulF .f32 (some 1092616192) heat)))).bind fun d4 =>
        some d4
def eA12 (a : F32) : List V := [.f .f32 a]
def eB12 (r : Int) : V := .i .i16 r
theorem inj12 (a a' : F32) (h : eA12 a = eA12 a') : a = a' := by
  obtain i1 := a
  obtain i2 := a'
  simp only [eA12, List.cons.injEq, V.i.injEq, V.b.injEq, V.f.injEq, V.str.injEq, V.sl.injEq, V.agg.injEq, V.cptr.injEq, true_and, and_true] at h
  simp_all
noncomputable def F12 : List V → Option V := tells (fun a => g12 a) eA12 eB12
set_option maxRecDepth 100000 in
set_option maxHeartbeats 4000000 in
/- loop.example/g01229/spec.l06Tenths -/
theorem ok12 : Tells Try.prog 12 F12 := by
  refine Tells.of (by kernel_rfl) ?_
  rintro heat r h
  refine VCalls.nl (VCalls.of Try.func12 rfl rfl rfl ?_)
  rw [tm_init]
  simp only [eA12, en, List.length_cons, List.length_nil, Nat.reduceAdd, Nat.reduceSub]
  replace h : (g12 heat).bind some = some r := bindS h
  rw [g12] at h
  refine VW.seq ?_
  refine VW.evalA (C := [(13, FXround)]) (tm 19 [(0, .f .f32 heat)]) [] [] ⟨.inr okx13, trivial⟩ (by kernel_rfl) (by simp -implicitDefEqProofs [roundE_F]) ?_
  refine VW.seq ?_
  refine VW.evalA (C := [(13, FXround)]) (tm 19 [(3, .f .f32 (mulF .f32 (some 1092616192) heat))]) [] [] ⟨.inr okx13, trivial⟩ (by kernel_rfl) (by simp -implicitDefEqProofs [roundE_F]) ?_
  refine VW.seq ?_
  refine VW.seq ?_
  refine VW.evalA (C := [(13, FXround)]) (tm 19 [(3, .f .f32 (mulF .f32 (some 1092616192) heat)), (9, .b (neF .f32 (mulF .f32 (some 1092616192) heat) (mulF .f32 (some 1092616192) heat)))]) [] [] ⟨.inr okx13, trivial⟩ (by kernel_rfl) (by simp -implicitDefEqProofs [roundE_F]) ?_
  refine VW.condB (b := neF .f32 (mulF .f32 (some 1092616192) heat) (mulF .f32 (some 1092616192) heat)) (by simp) (fun g1 => ?_) (fun g1 => ?_)
  · replace h := iteT g1 h
    refine VW.seq ?_
    refine VW.evalA (C := [(13, FXround)]) (tm 19 [(2, .i .i16 0)]) [] [] ⟨.inr okx13, trivial⟩ (by kernel_rfl) (by simp -implicitDefEqProofs) ?_
    obtain rfl := leafS h
    refine VW.ret (VRet.fin ?_)
    simp [eB12]
  · replace h := iteF g1 h
    refine VW.skip ?_
    refine VW.seq ?_
    refine VW.evalA (C := [(13, FXround)]) (tm 19 [(4, .f .f64 (roundE (wide (mulF .f32 (some 1092616192) heat))))]) [] [] ⟨.inr okx13, trivial⟩ (by kernel_rfl) (by simp -implicitDefEqProofs [roundE_F]) ?_
    refine VW.seq ?_
    refine VW.seq ?_
    refine VW.evalA (C := [(13, FXround)]) (tm 19 [(4, .f .f64 (roundE (wide (mulF .f32 (some 1092616192) heat)))), (14, .b (gtF .f64 (roundE (wide (mulF .f32 (some 1092616192) heat))) (some 4674736138332667904)))]) [] [] ⟨.inr okx13, trivial⟩ (by kernel_rfl) (by simp -implicitDefEqProofs [roundE_F]) ?_
    refine VW.condB (b := gtF .f64 (roundE (wide (mulF .f32 (some 1092616192) heat))) (some 4674736138332667904)) (by simp) (fun g2 => ?_) (fun g2 => ?_)
    · replace h := iteT g2 h
      refine VW.seq ?_
      refine VW.evalA (C := [(13, FXround)]) (tm 19 [(2, .i .i16 32767)]) [] [] ⟨.inr okx13, trivial⟩ (by kernel_rfl) (by simp -implicitDefEqProofs [roundE_F]) ?_
      obtain rfl := leafS h
      refine VW.ret (VRet.fin ?_)
      simp [eB12]
    · replace h := iteF g2 h
      refine VW.skip ?_
      refine VW.seq ?_
      refine VW.seq ?_
      refine VW.evalA (C := [(13, FXround)]) (tm 19 [(4, .f .f64 (roundE (wide (mulF .f32 (some 1092616192) heat)))), (16, .b (ltF .f64 (roundE (wide (mulF .f32 (some 1092616192) heat))) (some 13898108450065350656)))]) [] [] ⟨.inr okx13, trivial⟩ (by kernel_rfl) (by simp -implicitDefEqProofs [roundE_F]) ?_
      refine VW.condB (b := ltF .f64 (roundE (wide (mulF .f32 (some 1092616192) heat))) (some 13898108450065350656)) (by simp) (fun g3 => ?_) (fun g3 => ?_)
      · replace h := iteT g3 h
        refine VW.seq ?_
        refine VW.evalA (C := [(13, FXround)]) (tm 19 [(2, .i .i16 (-32768))]) [] [] ⟨.inr okx13, trivial⟩ (by kernel_rfl) (by simp -implicitDefEqProofs [roundE_F]) ?_
        obtain rfl := leafS h
        refine VW.ret (VRet.fin ?_)
        simp [eB12]
      · replace h := iteF g3 h
        refine VW.skip ?_
        refine VW.seq ?_
        obtain ⟨d4, q5, h⟩ := bindE h
        refine VW.evalA (C := [(13, FXround)]) (tm 19 [(2, .i .i16 d4)]) [] [] ⟨.inr okx13, trivial⟩ (by kernel_rfl) (by simp -implicitDefEqProofs [q5, roundE_F]) ?_
        obtain rfl := leafS h
        refine VW.ret (VRet.fin ?_)
        simp [eB12]
noncomputable def g5 (heat : F32) : Option (Int) :=
  (g12 heat).bind fun r1 =>
  some r1
def eA5 (a : F32) : List V := [.f .f32 a]
def eB5 (r : Int) : V := .i .i16 r
theorem inj5 (a a' : F32) (h : eA5 a = eA5 a') : a = a' := by
  obtain i3 := a
  obtain i4 := a'
  simp only [eA5, List.cons.injEq, V.i.injEq, V.b.injEq, V.f.injEq, V.str.injEq, V.sl.injEq, V.agg.injEq, V.cptr.injEq, true_and, and_true] at h
  simp_all
noncomputable def F5 : List V → Option V := tells (fun a => g5 a) eA5 eB5
set_option maxRecDepth 100000 in
set_option maxHeartbeats 4000000 in
/- loop.example/g01229/spec.ToTenths -/
theorem ok5 : Tells Try.prog 5 F5 := by
  refine Tells.of (by kernel_rfl) ?_
  rintro heat r h
  refine VCalls.nl (VCalls.of Try.func5 rfl rfl rfl ?_)
  rw [tm_init]
  simp only [eA5, en, List.length_cons, List.length_nil, Nat.reduceAdd, Nat.reduceSub]
  replace h : (g5 heat).bind some = some r := bindS h
  rw [g5] at h
  refine VW.seq ?_
  refine VW.evalA (C := [(12, F12)]) (tm 5 [(0, .f .f32 heat)]) [] [] ⟨.inl ok12, trivial⟩ (by kernel_rfl) (by simp -implicitDefEqProofs) ?_
  refine VW.seq ?_
  obtain ⟨r1, q2, h⟩ := bindE h
  have c2 : F12 [.f .f32 heat] = some (.i .i16 r1) := tells_eq inj12 (a := heat) q2
  refine VW.evalA (C := [(12, F12)]) (tm 5 [(2, .i .i16 r1)]) [] [] ⟨.inl ok12, trivial⟩ (by kernel_rfl) (by simp -implicitDefEqProofs [c2]) ?_
  obtain rfl := leafS h
  refine VW.ret (VRet.fin ?_)
  simp [eB5]
noncomputable def g6 (heat : F32) : Option (Int) :=
  if neF .f64 (roundE (wide (mulF .f32 (some 1092616192) heat))) (roundE (wide (mulF .f32 (some 1092616192) heat))) = true then
    some 0
  else
    if gtF .f64 (roundE (wide (mulF .f32 (some 1092616192) heat))) (some 4674736138332667904) = true then
      some 32767
    else
      if ltF .f64 (roundE (wide (mulF .f32 (some 1092616192) heat))) (some 13898108450065350656) = true then
        some (-32768)
      else
        (iOfF .f64 .i16 (roundE (wide (mulF .f32 (some 1092616192) heat)))).bind fun d4 =>
        some d4
def eA6 (a : F32) : List V := [.f .f32 a]
def eB6 (r : Int) : V := .i .i16 r
theorem inj6 (a a' : F32) (h : eA6 a = eA6 a') : a = a' := by
  obtain i5 := a
  obtain i6 := a'
  simp only [eA6, List.cons.injEq, V.i.injEq, V.b.injEq, V.f.injEq, V.str.injEq, V.sl.injEq, V.agg.injEq, V.cptr.injEq, true_and, and_true] at h
  simp_all
noncomputable def F6 : List V → Option V := tells (fun a => g6 a) eA6 eB6
set_option maxRecDepth 100000 in
set_option maxHeartbeats 4000000 in
/- loop.example/g01229/impl.ToTenths -/
theorem ok6 : Tells Try.prog 6 F6 := by
  refine Tells.of (by kernel_rfl) ?_
  rintro heat r h
  refine VCalls.nl (VCalls.of Try.func6 rfl rfl rfl ?_)
  rw [tm_init]
  simp only [eA6, en, List.length_cons, List.length_nil, Nat.reduceAdd, Nat.reduceSub]
  replace h : (g6 heat).bind some = some r := bindS h
  rw [g6] at h
  refine VW.seq ?_
  refine VW.evalA (C := [(13, FXround)]) (tm 20 [(0, .f .f32 heat)]) [] [] ⟨.inr okx13, trivial⟩ (by kernel_rfl) (by simp -implicitDefEqProofs [roundE_F]) ?_
  refine VW.seq ?_
  refine VW.evalA (C := [(13, FXround)]) (tm 20 [(3, .f .f64 (roundE (wide (mulF .f32 (some 1092616192) heat))))]) [] [] ⟨.inr okx13, trivial⟩ (by kernel_rfl) (by simp -implicitDefEqProofs [roundE_F]) ?_
  refine VW.seq ?_
  refine VW.block ?_
  refine VW.seq ?_
  refine VW.evalA (C := [(13, FXround)]) (tm 20 [(3, .f .f64 (roundE (wide (mulF .f32 (some 1092616192) heat)))), (8, .b (neF .f64 (roundE (wide (mulF .f32 (some 1092616192) heat))) (roundE (wide (mulF .f32 (some 1092616192) heat)))))]) [] [] ⟨.inr okx13, trivial⟩ (by kernel_rfl) (by simp -implicitDefEqProofs [roundE_F]) ?_
  refine VW.condB (b := neF .f64 (roundE (wide (mulF .f32 (some 1092616192) heat))) (roundE (wide (mulF .f32 (some 1092616192) heat)))) (by simp) (fun g1 => ?_) (fun g1 => ?_)
  · replace h := iteT g1 h
    refine VW.seq ?_
    refine VW.evalA (C := [(13, FXround)]) (tm 20 [(2, .i .i16 0)]) [] [] ⟨.inr okx13, trivial⟩ (by kernel_rfl) (by simp -implicitDefEqProofs [roundE_F]) ?_
    obtain rfl := leafS h
    refine VW.ret (VRet.fin ?_)
    simp [eB6]
  · replace h := iteF g1 h
    refine VW.seq ?_
    refine VW.evalA (C := [(13, FXround)]) (tm 20 [(3, .f .f64 (roundE (wide (mulF .f32 (some 1092616192) heat)))), (12, .b (gtF .f64 (roundE (wide (mulF .f32 (some 1092616192) heat))) (some 4674736138332667904)))]) [] [] ⟨.inr okx13, trivial⟩ (by kernel_rfl) (by simp -implicitDefEqProofs [roundE_F]) ?_
    refine VW.condB (b := gtF .f64 (roundE (wide (mulF .f32 (some 1092616192) heat))) (some 4674736138332667904)) (by simp) (fun g2 => ?_) (fun g2 => ?_)
    · replace h := iteT g2 h
      refine VW.seq ?_
      refine VW.evalA (C := [(13, FXround)]) (tm 20 [(2, .i .i16 32767)]) [] [] ⟨.inr okx13, trivial⟩ (by kernel_rfl) (by simp -implicitDefEqProofs [roundE_F]) ?_
      obtain rfl := leafS h
      refine VW.ret (VRet.fin ?_)
      simp [eB6]
    · replace h := iteF g2 h
      refine VW.seq ?_
      refine VW.evalA (C := [(13, FXround)]) (tm 20 [(3, .f .f64 (roundE (wide (mulF .f32 (some 1092616192) heat)))), (15, .b (ltF .f64 (roundE (wide (mulF .f32 (some 1092616192) heat))) (some 13898108450065350656)))]) [] [] ⟨.inr okx13, trivial⟩ (by kernel_rfl) (by simp -implicitDefEqProofs [roundE_F]) ?_
      refine VW.condB (b := ltF .f64 (roundE (wide (mulF .f32 (some 1092616192) heat))) (some 13898108450065350656)) (by simp) (fun g3 => ?_) (fun g3 => ?_)
      · replace h := iteT g3 h
        refine VW.seq ?_
        refine VW.evalA (C := [(13, FXround)]) (tm 20 [(2, .i .i16 (-32768))]) [] [] ⟨.inr okx13, trivial⟩ (by kernel_rfl) (by simp -implicitDefEqProofs [roundE_F]) ?_
        obtain rfl := leafS h
        refine VW.ret (VRet.fin ?_)
        simp [eB6]
      · replace h := iteF g3 h
        refine VW.skip ?_
        refine VW.seq ?_
        obtain ⟨d4, q5, h⟩ := bindE h
        refine VW.evalA (C := [(13, FXround)]) (tm 20 [(2, .i .i16 d4)]) [] [] ⟨.inr okx13, trivial⟩ (by kernel_rfl) (by simp -implicitDefEqProofs [q5, roundE_F]) ?_
        obtain rfl := leafS h
        refine VW.ret (VRet.fin ?_)
        simp [eB6]
noncomputable def g3 (aHeat : F32) : Option (Bool) :=
  (g5 aHeat).bind fun r1 =>
  (g6 aHeat).bind fun r3 =>
  if (!eqI r3 r1) = true then
    some false
  else
    some true
def eA3 (a : F32) : List V := [.f .f32 a]
def eB3 (r : Bool) : V := .b r
theorem inj3 (a a' : F32) (h : eA3 a = eA3 a') : a = a' := by
  obtain i7 := a
  obtain i8 := a'
  simp only [eA3, List.cons.injEq, V.i.injEq, V.b.injEq, V.f.injEq, V.str.injEq, V.sl.injEq, V.agg.injEq, V.cptr.injEq, true_and, and_true] at h
  simp_all
noncomputable def F3 : List V → Option V := tells (fun a => g3 a) eA3 eB3
set_option maxRecDepth 100000 in
set_option maxHeartbeats 4000000 in
/- loop.example/g01229/laws.FnExactToTenths -/
theorem ok3 : Tells Try.prog 3 F3 := by
  refine Tells.of (by kernel_rfl) ?_
  rintro aHeat r h
  refine VCalls.nl (VCalls.of Try.func3 rfl rfl rfl ?_)
  rw [tm_init]
  simp only [eA3, en, List.length_cons, List.length_nil, Nat.reduceAdd, Nat.reduceSub]
  replace h : (g3 aHeat).bind some = some r := bindS h
  rw [g3] at h
  refine VW.seq ?_
  refine VW.evalA (C := [(5, F5), (6, F6)]) (tm 12 [(0, .f .f32 aHeat)]) [] [] ⟨.inl ok5, .inl ok6, trivial⟩ (by kernel_rfl) (by simp -implicitDefEqProofs) ?_
  refine VW.seq ?_
  obtain ⟨r1, q2, h⟩ := bindE h
  have c2 : F5 [.f .f32 aHeat] = some (.i .i16 r1) := tells_eq inj5 (a := aHeat) q2
  refine VW.evalA (C := [(5, F5), (6, F6)]) (tm 12 [(0, .f .f32 aHeat), (3, .i .i16 r1)]) [] [] ⟨.inl ok5, .inl ok6, trivial⟩ (by kernel_rfl) (by simp -implicitDefEqProofs [c2]) ?_
  refine VW.seq ?_
  obtain ⟨r3, q4, h⟩ := bindE h
  have c4 : F6 [.f .f32 aHeat] = some (.i .i16 r3) := tells_eq inj6 (a := aHeat) q4
  refine VW.evalA (C := [(5, F5), (6, F6)]) (tm 12 [(3, .i .i16 r1), (4, .i .i16 r3)]) [] [] ⟨.inl ok5, .inl ok6, trivial⟩ (by kernel_rfl) (by simp -implicitDefEqProofs [c4]) ?_
  refine VW.seq ?_
  refine VW.seq ?_
  refine VW.evalA (C := [(5, F5), (6, F6)]) (tm 12 [(11, .b (!eqI r3 r1))]) [] [] ⟨.inl ok5, .inl ok6, trivial⟩ (by kernel_rfl) (by simp -implicitDefEqProofs) ?_
  refine VW.condB (b := (!eqI r3 r1)) (by simp) (fun g5 => ?_) (fun g5 => ?_)
  · replace h := iteT g5 h
    refine VW.seq ?_
    refine VW.evalA (C := [(5, F5), (6, F6)]) (tm 12 [(2, .b false)]) [] [] ⟨.inl ok5, .inl ok6, trivial⟩ (by kernel_rfl) (by simp -implicitDefEqProofs) ?_
    obtain rfl := leafS h
    refine VW.ret (VRet.fin ?_)
    simp [eB3]
  · replace h := iteF g5 h
    refine VW.skip ?_
    refine VW.seq ?_
    refine VW.evalA (C := [(5, F5), (6, F6)]) (tm 12 [(2, .b true)]) [] [] ⟨.inl ok5, .inl ok6, trivial⟩ (by kernel_rfl) (by simp -implicitDefEqProofs) ?_
    obtain rfl := leafS h
    refine VW.ret (VRet.fin ?_)
    simp [eB3]
end Go.Proofs.Ytilkneilafpjiaa
