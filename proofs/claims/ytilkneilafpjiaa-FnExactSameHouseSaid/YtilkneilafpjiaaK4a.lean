/- Contracts of the functions that the law reaches: what each tells, as a function in Lean. -/
import Derived.Test.YtilkneilafpjiaaK4Ty
import Derived.KernelRfl
namespace Go.Proofs.Ytilkneilafpjiaa
open Go.RowKit Go.VL
set_option linter.unusedSimpArgs false
set_option linter.unusedVariables false
set_option maxHeartbeats 1000000
noncomputable def g37 (a : List F32) (left : Int) : Option (Int) :=
  if ltI (sI .i64 left (a.length : Int)) 0 = true then
    some (-1)
  else
    some (sI .i64 left (a.length : Int))
def eA37 (a : (List F32) × Int) : List V := [.sl 1 (rows cf_f32 a.1), .i .i64 a.2]
def eB37 (r : Int) : V := .i .i64 r
theorem inj37 (a a' : (List F32) × Int) (h : eA37 a = eA37 a') : a = a' := by
  obtain ⟨i1, i2⟩ := a
  obtain ⟨i3, i4⟩ := a'
  simp only [eA37, List.cons.injEq, V.i.injEq, V.b.injEq, V.f.injEq, V.str.injEq, V.sl.injEq, V.agg.injEq, V.cptr.injEq, true_and, and_true] at h
  simp_all [ri cf_f32_inj]
noncomputable def F37 : List V → Option V := tells (fun a => g37 a.1 a.2) eA37 eB37
set_option maxRecDepth 100000 in
set_option maxHeartbeats 4000000 in
/- loop.example/g01229/laws.szFloat32S -/
theorem ok37 : Tells Try.prog 37 F37 := by
  refine Tells.of (by kernel_rfl) ?_
  rintro ⟨a, left⟩ r h
  refine VCalls.nl (VCalls.of Try.func37 rfl rfl rfl ?_)
  rw [tm_init]
  simp only [eA37, en, List.length_cons, List.length_nil, Nat.reduceAdd, Nat.reduceSub]
  replace h : (g37 a left).bind some = some r := bindS h
  rw [g37] at h
  refine VW.seq ?_
  refine VW.evalA (C := []) (tm 12 [(0, .sl 1 (rows cf_f32 a)), (1, .i .i64 left)]) [] [] trivial (by kernel_rfl) (by simp -implicitDefEqProofs) ?_
  refine VW.seq ?_
  refine VW.evalA (C := []) (tm 12 [(1, .i .i64 (sI .i64 left (a.length : Int)))]) [] [] trivial (by kernel_rfl) (by simp -implicitDefEqProofs) ?_
  refine VW.seq ?_
  refine VW.seq ?_
  refine VW.evalA (C := []) (tm 12 [(1, .i .i64 (sI .i64 left (a.length : Int))), (10, .b (ltI (sI .i64 left (a.length : Int)) 0))]) [] [] trivial (by kernel_rfl) (by simp -implicitDefEqProofs) ?_
  refine VW.condB (b := ltI (sI .i64 left (a.length : Int)) 0) (by simp) (fun g1 => ?_) (fun g1 => ?_)
  · replace h := iteT g1 h
    refine VW.seq ?_
    refine VW.evalA (C := []) (tm 12 [(4, .i .i64 (-1))]) [] [] trivial (by kernel_rfl) (by simp -implicitDefEqProofs) ?_
    obtain rfl := leafS h
    refine VW.ret (VRet.fin ?_)
    simp [eB37]
  · replace h := iteF g1 h
    refine VW.skip ?_
    refine VW.seq ?_
    refine VW.evalA (C := []) (tm 12 [(4, .i .i64 (sI .i64 left (a.length : Int)))]) [] [] trivial (by kernel_rfl) (by simp -implicitDefEqProofs) ?_
    obtain rfl := leafS h
    refine VW.ret (VRet.fin ?_)
    simp [eB37]
noncomputable def g38 (a : List T132) (left : Int) : Option (Int) :=
  if ltI (sI .i64 left (a.length : Int)) 0 = true then
    some (-1)
  else
    some (sI .i64 left (a.length : Int))
def eA38 (a : (List T132) × Int) : List V := [.sl 8 (rows cT132 a.1), .i .i64 a.2]
def eB38 (r : Int) : V := .i .i64 r
theorem inj38 (a a' : (List T132) × Int) (h : eA38 a = eA38 a') : a = a' := by
  obtain ⟨i21, i22⟩ := a
  obtain ⟨i23, i24⟩ := a'
  simp only [eA38, List.cons.injEq, V.i.injEq, V.b.injEq, V.f.injEq, V.str.injEq, V.sl.injEq, V.agg.injEq, V.cptr.injEq, true_and, and_true] at h
  simp_all [ri cT132_inj]
noncomputable def F38 : List V → Option V := tells (fun a => g38 a.1 a.2) eA38 eB38
set_option maxRecDepth 100000 in
set_option maxHeartbeats 4000000 in
/- loop.example/g01229/laws.szWallS -/
theorem ok38 : Tells Try.prog 38 F38 := by
  refine Tells.of (by kernel_rfl) ?_
  rintro ⟨a, left⟩ r h
  refine VCalls.nl (VCalls.of Try.func38 rfl rfl rfl ?_)
  rw [tm_init]
  simp only [eA38, en, List.length_cons, List.length_nil, Nat.reduceAdd, Nat.reduceSub]
  replace h : (g38 a left).bind some = some r := bindS h
  rw [g38] at h
  refine VW.seq ?_
  refine VW.evalA (C := []) (tm 12 [(0, .sl 8 (rows cT132 a)), (1, .i .i64 left)]) [] [] trivial (by kernel_rfl) (by simp -implicitDefEqProofs) ?_
  refine VW.seq ?_
  refine VW.evalA (C := []) (tm 12 [(1, .i .i64 (sI .i64 left (a.length : Int)))]) [] [] trivial (by kernel_rfl) (by simp -implicitDefEqProofs) ?_
  refine VW.seq ?_
  refine VW.seq ?_
  refine VW.evalA (C := []) (tm 12 [(1, .i .i64 (sI .i64 left (a.length : Int))), (10, .b (ltI (sI .i64 left (a.length : Int)) 0))]) [] [] trivial (by kernel_rfl) (by simp -implicitDefEqProofs) ?_
  refine VW.condB (b := ltI (sI .i64 left (a.length : Int)) 0) (by simp) (fun g1 => ?_) (fun g1 => ?_)
  · replace h := iteT g1 h
    refine VW.seq ?_
    refine VW.evalA (C := []) (tm 12 [(4, .i .i64 (-1))]) [] [] trivial (by kernel_rfl) (by simp -implicitDefEqProofs) ?_
    obtain rfl := leafS h
    refine VW.ret (VRet.fin ?_)
    simp [eB38]
  · replace h := iteF g1 h
    refine VW.skip ?_
    refine VW.seq ?_
    refine VW.evalA (C := []) (tm 12 [(4, .i .i64 (sI .i64 left (a.length : Int)))]) [] [] trivial (by kernel_rfl) (by simp -implicitDefEqProofs) ?_
    obtain rfl := leafS h
    refine VW.ret (VRet.fin ?_)
    simp [eB38]
noncomputable def g39 (a : List T134) (left : Int) : Option (Int) :=
  if ltI (sI .i64 left (a.length : Int)) 0 = true then
    some (-1)
  else
    some (sI .i64 left (a.length : Int))
def eA39 (a : (List T134) × Int) : List V := [.sl 4 (rows cT134 a.1), .i .i64 a.2]
def eB39 (r : Int) : V := .i .i64 r
theorem inj39 (a a' : (List T134) × Int) (h : eA39 a = eA39 a') : a = a' := by
  obtain ⟨i33, i34⟩ := a
  obtain ⟨i35, i36⟩ := a'
  simp only [eA39, List.cons.injEq, V.i.injEq, V.b.injEq, V.f.injEq, V.str.injEq, V.sl.injEq, V.agg.injEq, V.cptr.injEq, true_and, and_true] at h
  simp_all [ri cT134_inj]
noncomputable def F39 : List V → Option V := tells (fun a => g39 a.1 a.2) eA39 eB39
set_option maxRecDepth 100000 in
set_option maxHeartbeats 4000000 in
/- loop.example/g01229/laws.szPaneS -/
theorem ok39 : Tells Try.prog 39 F39 := by
  refine Tells.of (by kernel_rfl) ?_
  rintro ⟨a, left⟩ r h
  refine VCalls.nl (VCalls.of Try.func39 rfl rfl rfl ?_)
  rw [tm_init]
  simp only [eA39, en, List.length_cons, List.length_nil, Nat.reduceAdd, Nat.reduceSub]
  replace h : (g39 a left).bind some = some r := bindS h
  rw [g39] at h
  refine VW.seq ?_
  refine VW.evalA (C := []) (tm 12 [(0, .sl 4 (rows cT134 a)), (1, .i .i64 left)]) [] [] trivial (by kernel_rfl) (by simp -implicitDefEqProofs) ?_
  refine VW.seq ?_
  refine VW.evalA (C := []) (tm 12 [(1, .i .i64 (sI .i64 left (a.length : Int)))]) [] [] trivial (by kernel_rfl) (by simp -implicitDefEqProofs) ?_
  refine VW.seq ?_
  refine VW.seq ?_
  refine VW.evalA (C := []) (tm 12 [(1, .i .i64 (sI .i64 left (a.length : Int))), (10, .b (ltI (sI .i64 left (a.length : Int)) 0))]) [] [] trivial (by kernel_rfl) (by simp -implicitDefEqProofs) ?_
  refine VW.condB (b := ltI (sI .i64 left (a.length : Int)) 0) (by simp) (fun g1 => ?_) (fun g1 => ?_)
  · replace h := iteT g1 h
    refine VW.seq ?_
    refine VW.evalA (C := []) (tm 12 [(4, .i .i64 (-1))]) [] [] trivial (by kernel_rfl) (by simp -implicitDefEqProofs) ?_
    obtain rfl := leafS h
    refine VW.ret (VRet.fin ?_)
    simp [eB39]
  · replace h := iteF g1 h
    refine VW.skip ?_
    refine VW.seq ?_
    refine VW.evalA (C := []) (tm 12 [(4, .i .i64 (sI .i64 left (a.length : Int)))]) [] [] trivial (by kernel_rfl) (by simp -implicitDefEqProofs) ?_
    obtain rfl := leafS h
    refine VW.ret (VRet.fin ?_)
    simp [eB39]
noncomputable def g14 (a : T30) (left : Int) : Option (Int) :=
  (g37 a.heat_ left).bind fun r1 =>
  if ltI r1 0 = true then
    some (-1)
  else
    (g37 a.store_ r1).bind fun r4 =>
    if ltI r4 0 = true then
      some (-1)
    else
      (g38 a.walls_ r4).bind fun r7 =>
      if ltI r7 0 = true then
        some (-1)
      else
        (g39 a.panes_ r7).bind fun r10 =>
        if ltI r10 0 = true then
          some (-1)
        else
          some r10
def eA14 (a : T30 × Int) : List V := [.agg (pT30 a.1), .i .i64 a.2]
def eB14 (r : Int) : V := .i .i64 r
theorem inj14 (a a' : T30 × Int) (h : eA14 a = eA14 a') : a = a' := by
  obtain ⟨⟨i45, i46, i47, i48⟩, i49⟩ := a
  obtain ⟨⟨i50, i51, i52, i53⟩, i54⟩ := a'
  simp only [eA14, pT30, List.cons.injEq, V.i.injEq, V.b.injEq, V.f.injEq, V.str.injEq, V.sl.injEq, V.agg.injEq, V.cptr.injEq, true_and, and_true] at h
  simp_all [ri cT132_inj, ri cT134_inj, ri cf_f32_inj]
noncomputable def F14 : List V → Option V := tells (fun a => g14 a.1 a.2) eA14 eB14
set_option maxRecDepth 100000 in
set_option maxHeartbeats 4000000 in
/- loop.example/g01229/laws.szFlat -/
theorem ok14 : Tells Try.prog 14 F14 := by
  refine Tells.of (by kernel_rfl) ?_
  rintro ⟨a, left⟩ r h
  refine VCalls.nl (VCalls.of Try.func14 rfl rfl rfl ?_)
  rw [tm_init]
  simp only [eA14, en, List.length_cons, List.length_nil, Nat.reduceAdd, Nat.reduceSub]
  replace h : (g14 a left).bind some = some r := bindS h
  rw [g14] at h
  refine VW.seq ?_
  refine VW.evalA (C := [(37, F37), (38, F38), (39, F39)]) (tm 30 [(1, .i .i64 left), (2, .ptr 0 0 0)]) [some (4, [(pT30 a)])] [] ⟨.inl ok37, .inl ok38, .inl ok39, trivial⟩ (by kernel_rfl) (by first | (simp -implicitDefEqProofs; done) | simp -implicitDefEqProofs [pT30]) ?_
  refine VW.seq ?_
  obtain ⟨r1, q2, h⟩ := bindE h
  have c2 : F37 [.sl 1 (rows cf_f32 a.heat_), .i .i64 left] = some (.i .i64 r1) := tells_eq inj37 (a := (a.heat_, left)) q2
  refine VW.evalA (C := [(37, F37), (38, F38), (39, F39)]) (tm 30 [(1, .i .i64 r1), (2, .ptr 0 0 0)]) [some (4, [(pT30 a)])] [] ⟨.inl ok37, .inl ok38, .inl ok39, trivial⟩ (by kernel_rfl) (by first | (simp -implicitDefEqProofs [c2]; done) | simp -implicitDefEqProofs [c2, pT30]) ?_
  refine VW.seq ?_
  refine VW.seq ?_
  refine VW.evalA (C := [(37, F37), (38, F38), (39, F39)]) (tm 30 [(1, .i .i64 r1), (2, .ptr 0 0 0), (10, .b (ltI r1 0))]) [some (4, [(pT30 a)])] [] ⟨.inl ok37, .inl ok38, .inl ok39, trivial⟩ (by kernel_rfl) (by first | (simp -implicitDefEqProofs; done) | simp -implicitDefEqProofs [pT30]) ?_
  refine VW.condB (b := ltI r1 0) (by simp) (fun g3 => ?_) (fun g3 => ?_)
  · replace h := iteT g3 h
    refine VW.seq ?_
    refine VW.evalA (C := [(37, F37), (38, F38), (39, F39)]) (tm 30 [(4, .i .i64 (-1))]) [some (4, [(pT30 a)])] [] ⟨.inl ok37, .inl ok38, .inl ok39, trivial⟩ (by kernel_rfl) (by first | (simp -implicitDefEqProofs; done) | simp -implicitDefEqProofs [pT30]) ?_
    obtain rfl := leafS h
    refine VW.ret (VRet.fin ?_)
    first | (simp [eB14]; done) | simp [eB14, pT30]
  · replace h := iteF g3 h
    refine VW.skip ?_
    refine VW.seq ?_
    obtain ⟨r4, q5, h⟩ := bindE h
    have c5 : F37 [.sl 1 (rows cf_f32 a.store_), .i .i64 r1] = some (.i .i64 r4) := tells_eq inj37 (a := (a.store_, r1)) q5
    refine VW.evalA (C := [(37, F37), (38, F38), (39, F39)]) (tm 30 [(1, .i .i64 r4), (2, .ptr 0 0 0)]) [some (4, [(pT30 a)])] [] ⟨.inl ok37, .inl ok38, .inl ok39, trivial⟩ (by kernel_rfl) (by first | (simp -implicitDefEqProofs [c5]; done) | simp -implicitDefEqProofs [c5, pT30]) ?_
    refine VW.seq ?_
    refine VW.seq ?_
    refine VW.evalA (C := [(37, F37), (38, F38), (39, F39)]) (tm 30 [(1, .i .i64 r4), (2, .ptr 0 0 0), (16, .b (ltI r4 0))]) [some (4, [(pT30 a)])] [] ⟨.inl ok37, .inl ok38, .inl ok39, trivial⟩ (by kernel_rfl) (by first | (simp -implicitDefEqProofs; done) | simp -implicitDefEqProofs [pT30]) ?_
    refine VW.condB (b := ltI r4 0) (by simp) (fun g6 => ?_) (fun g6 => ?_)
    · replace h := iteT g6 h
      refine VW.seq ?_
      refine VW.evalA (C := [(37, F37), (38, F38), (39, F39)]) (tm 30 [(4, .i .i64 (-1))]) [some (4, [(pT30 a)])] [] ⟨.inl ok37, .inl ok38, .inl ok39, trivial⟩ (by kernel_rfl) (by first | (simp -implicitDefEqProofs; done) | simp -implicitDefEqProofs [pT30]) ?_
      obtain rfl := leafS h
      refine VW.ret (VRet.fin ?_)
      first | (simp [eB14]; done) | simp [eB14, pT30]
    · replace h := iteF g6 h
      refine VW.skip ?_
      refine VW.seq ?_
      obtain ⟨r7, q8, h⟩ := bindE h
      have c8 : F38 [.sl 8 (rows cT132 a.walls_), .i .i64 r4] = some (.i .i64 r7) := tells_eq inj38 (a := (a.walls_, r4)) q8
      refine VW.evalA (C := [(37, F37), (38, F38), (39, F39)]) (tm 30 [(1, .i .i64 r7), (2, .ptr 0 0 0)]) [some (4, [(pT30 a)])] [] ⟨.inl ok37, .inl ok38, .inl ok39, trivial⟩ (by kernel_rfl) (by first | (simp -implicitDefEqProofs [c8]; done) | simp -implicitDefEqProofs [c8, pT30]) ?_
      refine VW.seq ?_
      refine VW.seq ?_
      refine VW.evalA (C := [(37, F37), (38, F38), (39, F39)]) (tm 30 [(1, .i .i64 r7), (2, .ptr 0 0 0), (22, .b (ltI r7 0))]) [some (4, [(pT30 a)])] [] ⟨.inl ok37, .inl ok38, .inl ok39, trivial⟩ (by kernel_rfl) (by first | (simp -implicitDefEqProofs; done) | simp -implicitDefEqProofs [pT30]) ?_
      refine VW.condB (b := ltI r7 0) (by simp) (fun g9 => ?_) (fun g9 => ?_)
      · replace h := iteT g9 h
        refine VW.seq ?_
        refine VW.evalA (C := [(37, F37), (38, F38), (39, F39)]) (tm 30 [(4, .i .i64 (-1))]) [some (4, [(pT30 a)])] [] ⟨.inl ok37, .inl ok38, .inl ok39, trivial⟩ (by kernel_rfl) (by first | (simp -implicitDefEqProofs; done) | simp -implicitDefEqProofs [pT30]) ?_
        obtain rfl := leafS h
        refine VW.ret (VRet.fin ?_)
        first | (simp [eB14]; done) | simp [eB14, pT30]
      · replace h := iteF g9 h
        refine VW.skip ?_
        refine VW.seq ?_
        obtain ⟨r10, q11, h⟩ := bindE h
        have c11 : F39 [.sl 4 (rows cT134 a.panes_), .i .i64 r7] = some (.i .i64 r10) := tells_eq inj39 (a := (a.panes_, r7)) q11
        refine VW.evalA (C := [(37, F37), (38, F38), (39, F39)]) (tm 30 [(1, .i .i64 r10)]) [some (4, [(pT30 a)])] [] ⟨.inl ok37, .inl ok38, .inl ok39, trivial⟩ (by kernel_rfl) (by first | (simp -implicitDefEqProofs [c11]; done) | simp -implicitDefEqProofs [c11, pT30]) ?_
        refine VW.seq ?_
        refine VW.seq ?_
        refine VW.evalA (C := [(37, F37), (38, F38), (39, F39)]) (tm 30 [(1, .i .i64 r10), (28, .b (ltI r10 0))]) [some (4, [(pT30 a)])] [] ⟨.inl ok37, .inl ok38, .inl ok39, trivial⟩ (by kernel_rfl) (by first | (simp -implicitDefEqProofs; done) | simp -implicitDefEqProofs [pT30]) ?_
        refine VW.condB (b := ltI r10 0) (by simp) (fun g12 => ?_) (fun g12 => ?_)
        · replace h := iteT g12 h
          refine VW.seq ?_
          refine VW.evalA (C := [(37, F37), (38, F38), (39, F39)]) (tm 30 [(4, .i .i64 (-1))]) [some (4, [(pT30 a)])] [] ⟨.inl ok37, .inl ok38, .inl ok39, trivial⟩ (by kernel_rfl) (by first | (simp -implicitDefEqProofs; done) | simp -implicitDefEqProofs [pT30]) ?_
          obtain rfl := leafS h
          refine VW.ret (VRet.fin ?_)
          first | (simp [eB14]; done) | simp [eB14, pT30]
        · replace h := iteF g12 h
          refine VW.skip ?_
          refine VW.seq ?_
          refine VW.evalA (C := [(37, F37), (38, F38), (39, F39)]) (tm 30 [(4, .i .i64 r10)]) [some (4, [(pT30 a)])] [] ⟨.inl ok37, .inl ok38, .inl ok39, trivial⟩ (by kernel_rfl) (by first | (simp -implicitDefEqProofs; done) | simp -implicitDefEqProofs [pT30]) ?_
          obtain rfl := leafS h
          refine VW.ret (VRet.fin ?_)
          first | (simp [eB14]; done) | simp [eB14, pT30]
noncomputable def g15 (a : List T105) (left : Int) : Option (Int) :=
  if ltI (sI .i64 left (a.length : Int)) 0 = true then
    some (-1)
  else
    some (sI .i64 left (a.length : Int))
def eA15 (a : (List T105) × Int) : List V := [.sl 5 (rows cT105 a.1), .i .i64 a.2]
def eB15 (r : Int) : V := .i .i64 r
theorem inj15 (a a' : (List T105) × Int) (h : eA15 a = eA15 a') : a = a' := by
  obtain ⟨i65, i66⟩ := a
  obtain ⟨i67, i68⟩ := a'
  simp only [eA15, List.cons.injEq, V.i.injEq, V.b.injEq, V.f.injEq, V.str.injEq, V.sl.injEq, V.agg.injEq, V.cptr.injEq, true_and, and_true] at h
  simp_all [ri cT105_inj]
noncomputable def F15 : List V → Option V := tells (fun a => g15 a.1 a.2) eA15 eB15
set_option maxRecDepth 100000 in
set_option maxHeartbeats 4000000 in
/- loop.example/g01229/laws.szFlueS -/
theorem ok15 : Tells Try.prog 15 F15 := by
  refine Tells.of (by kernel_rfl) ?_
  rintro ⟨a, left⟩ r h
  refine VCalls.nl (VCalls.of Try.func15 rfl rfl rfl ?_)
  rw [tm_init]
  simp only [eA15, en, List.length_cons, List.length_nil, Nat.reduceAdd, Nat.reduceSub]
  replace h : (g15 a left).bind some = some r := bindS h
  rw [g15] at h
  refine VW.seq ?_
  refine VW.evalA (C := []) (tm 12 [(0, .sl 5 (rows cT105 a)), (1, .i .i64 left)]) [] [] trivial (by kernel_rfl) (by simp -implicitDefEqProofs) ?_
  refine VW.seq ?_
  refine VW.evalA (C := []) (tm 12 [(1, .i .i64 (sI .i64 left (a.length : Int)))]) [] [] trivial (by kernel_rfl) (by simp -implicitDefEqProofs) ?_
  refine VW.seq ?_
  refine VW.seq ?_
  refine VW.evalA (C := []) (tm 12 [(1, .i .i64 (sI .i64 left (a.length : Int))), (10, .b (ltI (sI .i64 left (a.length : Int)) 0))]) [] [] trivial (by kernel_rfl) (by simp -implicitDefEqProofs) ?_
  refine VW.condB (b := ltI (sI .i64 left (a.length : Int)) 0) (by simp) (fun g1 => ?_) (fun g1 => ?_)
  · replace h := iteT g1 h
    refine VW.seq ?_
    refine VW.evalA (C := []) (tm 12 [(4, .i .i64 (-1))]) [] [] trivial (by kernel_rfl) (by simp -implicitDefEqProofs) ?_
    obtain rfl := leafS h
    refine VW.ret (VRet.fin ?_)
    simp [eB15]
  · replace h := iteF g1 h
    refine VW.skip ?_
    refine VW.seq ?_
    refine VW.evalA (C := []) (tm 12 [(4, .i .i64 (sI .i64 left (a.length : Int)))]) [] [] trivial (by kernel_rfl) (by simp -implicitDefEqProofs) ?_
    obtain rfl := leafS h
    refine VW.ret (VRet.fin ?_)
    simp [eB15]
noncomputable def g70 (a : List T147) (left : Int) : Option (Int) :=
  if ltI (sI .i64 left (a.length : Int)) 0 = true then
    some (-1)
  else
    some (sI .i64 left (a.length : Int))
def eA70 (a : (List T147) × Int) : List V := [.sl 18 (rows cT147 a.1), .i .i64 a.2]
def eB70 (r : Int) : V := .i .i64 r
theorem inj70 (a a' : (List T147) × Int) (h : eA70 a = eA70 a') : a = a' := by
  obtain ⟨i105, i106⟩ := a
  obtain ⟨i107, i108⟩ := a'
  simp only [eA70, List.cons.injEq, V.i.injEq, V.b.injEq, V.f.injEq, V.str.injEq, V.sl.injEq, V.agg.injEq, V.cptr.injEq, true_and, and_true] at h
  simp_all [ri cT147_inj]
noncomputable def F70 : List V → Option V := tells (fun a => g70 a.1 a.2) eA70 eB70
set_option maxRecDepth 100000 in
set_option maxHeartbeats 4000000 in
/- loop.example/g01229/laws.szWoodS -/
theorem ok70 : Tells Try.prog 70 F70 := by
  refine Tells.of (by kernel_rfl) ?_
  rintro ⟨a, left⟩ r h
  refine VCalls.nl (VCalls.of Try.func70 rfl rfl rfl ?_)
  rw [tm_init]
  simp only [eA70, en, List.length_cons, List.length_nil, Nat.reduceAdd, Nat.reduceSub]
  replace h : (g70 a left).bind some = some r := bindS h
  rw [g70] at h
  refine VW.seq ?_
  refine VW.evalA (C := []) (tm 12 [(0, .sl 18 (rows cT147 a)), (1, .i .i64 left)]) [] [] trivial (by kernel_rfl) (by simp -implicitDefEqProofs) ?_
  refine VW.seq ?_
  refine VW.evalA (C := []) (tm 12 [(1, .i .i64 (sI .i64 left (a.length : Int)))]) [] [] trivial (by kernel_rfl) (by simp -implicitDefEqProofs) ?_
  refine VW.seq ?_
  refine VW.seq ?_
  refine VW.evalA (C := []) (tm 12 [(1, .i .i64 (sI .i64 left (a.length : Int))), (10, .b (ltI (sI .i64 left (a.length : Int)) 0))]) [] [] trivial (by kernel_rfl) (by simp -implicitDefEqProofs) ?_
  refine VW.condB (b := ltI (sI .i64 left (a.length : Int)) 0) (by simp) (fun g1 => ?_) (fun g1 => ?_)
  · replace h := iteT g1 h
    refine VW.seq ?_
    refine VW.evalA (C := []) (tm 12 [(4, .i .i64 (-1))]) [] [] trivial (by kernel_rfl) (by simp -implicitDefEqProofs) ?_
    obtain rfl := leafS h
    refine VW.ret (VRet.fin ?_)
    simp [eB70]
  · replace h := iteF g1 h
    refine VW.skip ?_
    refine VW.seq ?_
    refine VW.evalA (C := []) (tm 12 [(4, .i .i64 (sI .i64 left (a.length : Int)))]) [] [] trivial (by kernel_rfl) (by simp -implicitDefEqProofs) ?_
    obtain rfl := leafS h
    refine VW.ret (VRet.fin ?_)
    simp [eB70]
noncomputable def g60 (a : T90) (left : Int) : Option (Int) :=
  (g70 a.logs_ left).bind fun r1 =>
  if ltI r1 0 = true then
    some (-1)
  else
    some r1
def eA60 (a : T90 × Int) : List V := [.agg (pT90 a.1), .i .i64 a.2]
def eB60 (r : Int) : V := .i .i64 r
theorem inj60 (a a' : T90 × Int) (h : eA60 a = eA60 a') : a = a' := by
  obtain ⟨⟨i121, i122, i123, i124, i125, i126⟩, i127⟩ := a
  obtain ⟨⟨i128, i129, i130, i131, i132, i133⟩, i134⟩ := a'
  simp only [eA60, pT90, List.cons.injEq, V.i.injEq, V.b.injEq, V.f.injEq, V.str.injEq, V.sl.injEq, V.agg.injEq, V.cptr.injEq, true_and, and_true] at h
  simp_all [ri cT147_inj]
noncomputable def F60 : List V → Option V := tells (fun a => g60 a.1 a.2) eA60 eB60
set_option maxRecDepth 100000 in
set_option maxHeartbeats 4000000 in
/- loop.example/g01229/laws.szStove -/
theorem ok60 : Tells Try.prog 60 F60 := by
  refine Tells.of (by kernel_rfl) ?_
  rintro ⟨a, left⟩ r h
  refine VCalls.nl (VCalls.of Try.func60 rfl rfl rfl ?_)
  rw [tm_init]
  simp only [eA60, en, List.length_cons, List.length_nil, Nat.reduceAdd, Nat.reduceSub]
  replace h : (g60 a left).bind some = some r := bindS h
  rw [g60] at h
  refine VW.seq ?_
  refine VW.evalA (C := [(70, F70)]) (tm 12 [(1, .i .i64 left), (2, .ptr 0 0 0)]) [some (6, [(pT90 a)])] [] ⟨.inl ok70, trivial⟩ (by kernel_rfl) (by first | (simp -implicitDefEqProofs; done) | simp -implicitDefEqProofs [pT90]) ?_
  refine VW.seq ?_
  obtain ⟨r1, q2, h⟩ := bindE h
  have c2 : F70 [.sl 18 (rows cT147 a.logs_), .i .i64 left] = some (.i .i64 r1) := tells_eq inj70 (a := (a.logs_, left)) q2
  refine VW.evalA (C := [(70, F70)]) (tm 12 [(1, .i .i64 r1)]) [some (6, [(pT90 a)])] [] ⟨.inl ok70, trivial⟩ (by kernel_rfl) (by first | (simp -implicitDefEqProofs [c2]; done) | simp -implicitDefEqProofs [c2, pT90]) ?_
  refine VW.seq ?_
  refine VW.seq ?_
  refine VW.evalA (C := [(70, F70)]) (tm 12 [(1, .i .i64 r1), (10, .b (ltI r1 0))]) [some (6, [(pT90 a)])] [] ⟨.inl ok70, trivial⟩ (by kernel_rfl) (by first | (simp -implicitDefEqProofs; done) | simp -implicitDefEqProofs [pT90]) ?_
  refine VW.condB (b := ltI r1 0) (by simp) (fun g3 => ?_) (fun g3 => ?_)
  · replace h := iteT g3 h
    refine VW.seq ?_
    refine VW.evalA (C := [(70, F70)]) (tm 12 [(4, .i .i64 (-1))]) [some (6, [(pT90 a)])] [] ⟨.inl ok70, trivial⟩ (by kernel_rfl) (by first | (simp -implicitDefEqProofs; done) | simp -implicitDefEqProofs [pT90]) ?_
    obtain rfl := leafS h
    refine VW.ret (VRet.fin ?_)
    first | (simp [eB60]; done) | simp [eB60, pT90]
  · replace h := iteF g3 h
    refine VW.skip ?_
    refine VW.seq ?_
    refine VW.evalA (C := [(70, F70)]) (tm 12 [(4, .i .i64 r1)]) [some (6, [(pT90 a)])] [] ⟨.inl ok70, trivial⟩ (by kernel_rfl) (by first | (simp -implicitDefEqProofs; done) | simp -implicitDefEqProofs [pT90]) ?_
    obtain rfl := leafS h
    refine VW.ret (VRet.fin ?_)
    first | (simp [eB60]; done) | simp [eB60, pT90]
noncomputable def g40 (a : T92) (left : Int) : Option (Int) :=
  (g60 a.stove_ left).bind fun r1 =>
  if ltI r1 0 = true then
    some (-1)
  else
    some r1
def eA40 (a : T92 × Int) : List V := [.agg (pT92 a.1), .i .i64 a.2]
def eB40 (r : Int) : V := .i .i64 r
theorem inj40 (a a' : T92 × Int) (h : eA40 a = eA40 a') : a = a' := by
  obtain ⟨⟨i153, i154, i155, ⟨i156, i157, i158, i159, i160, i161⟩⟩, i162⟩ := a
  obtain ⟨⟨i163, i164, i165, ⟨i166, i167, i168, i169, i170, i171⟩⟩, i172⟩ := a'
  simp only [eA40, pT92, List.cons.injEq, V.i.injEq, V.b.injEq, V.f.injEq, V.str.injEq, V.sl.injEq, V.agg.injEq, V.cptr.injEq, true_and, and_true] at h
  simp_all [ri cT147_inj]
noncomputable def F40 : List V → Option V := tells (fun a => g40 a.1 a.2) eA40 eB40
set_option maxRecDepth 100000 in
set_option maxHeartbeats 4000000 in
/- loop.example/g01229/laws.szHearth -/
theorem ok40 : Tells Try.prog 40 F40 := by
  refine Tells.of (by kernel_rfl) ?_
  rintro ⟨a, left⟩ r h
  refine VCalls.nl (VCalls.of Try.func40 rfl rfl rfl ?_)
  rw [tm_init]
  simp only [eA40, en, List.length_cons, List.length_nil, Nat.reduceAdd, Nat.reduceSub]
  replace h : (g40 a left).bind some = some r := bindS h
  rw [g40] at h
  refine VW.seq ?_
  refine VW.evalA (C := [(60, F60)]) (tm 12 [(1, .i .i64 left), (2, .ptr 0 0 0)]) [some (9, [(pT92 a)])] [] ⟨.inl ok60, trivial⟩ (by kernel_rfl) (by first | (simp -implicitDefEqProofs; done) | simp -implicitDefEqProofs [pT92]) ?_
  refine VW.seq ?_
  obtain ⟨r1, q2, h⟩ := bindE h
  have c2 : F60 [.agg [.sl 18 (rows cT147 a.stove_.logs_), .f .f32 a.stove_.box_, .f .f32 a.stove_.damper_, .i .i8 a.stove_.state_, .i .i64 a.stove_.ash_, .f .f32 a.stove_.dust_], .i .i64 left] = some (.i .i64 r1) := tells_eq inj60 (a := (a.stove_, left)) q2
  refine VW.evalA (C := [(60, F60)]) (tm 12 [(1, .i .i64 r1)]) [some (9, [(pT92 a)])] [] ⟨.inl ok60, trivial⟩ (by kernel_rfl) (by first | (simp -implicitDefEqProofs [c2]; done) | simp -implicitDefEqProofs [c2, pT92]) ?_
  refine VW.seq ?_
  refine VW.seq ?_
  refine VW.evalA (C := [(60, F60)]) (tm 12 [(1, .i .i64 r1), (10, .b (ltI r1 0))]) [some (9, [(pT92 a)])] [] ⟨.inl ok60, trivial⟩ (by kernel_rfl) (by first | (simp -implicitDefEqProofs; done) | simp -implicitDefEqProofs [pT92]) ?_
  refine VW.condB (b := ltI r1 0) (by simp) (fun g3 => ?_) (fun g3 => ?_)
  · replace h := iteT g3 h
    refine VW.seq ?_
    refine VW.evalA (C := [(60, F60)]) (tm 12 [(4, .i .i64 (-1))]) [some (9, [(pT92 a)])] [] ⟨.inl ok60, trivial⟩ (by kernel_rfl) (by first | (simp -implicitDefEqProofs; done) | simp -implicitDefEqProofs [pT92]) ?_
    obtain rfl := leafS h
    refine VW.ret (VRet.fin ?_)
    first | (simp [eB40]; done) | simp [eB40, pT92]
  · replace h := iteF g3 h
    refine VW.skip ?_
    refine VW.seq ?_
    refine VW.evalA (C := [(60, F60)]) (tm 12 [(4, .i .i64 r1)]) [some (9, [(pT92 a)])] [] ⟨.inl ok60, trivial⟩ (by kernel_rfl) (by first | (simp -implicitDefEqProofs; done) | simp -implicitDefEqProofs [pT92]) ?_
    obtain rfl := leafS h
    refine VW.ret (VRet.fin ?_)
    first | (simp [eB40]; done) | simp [eB40, pT92]
noncomputable def g16_j1 (left_24 : Int) : Option (Int) :=
  some left_24
noncomputable def g16_L1 (a : List T92) : (Int × Int) → Option ((Int × Int) ⊕ ((Int) ⊕ (Int)))
  | (left_39, i_40) =>
    if ltI i_40 (a.length : Int) = true then
      (idx a i_40).bind fun e42 =>
      (g40 e42 left_39).bind fun r44 =>
      if ltI r44 0 = true then
        some (.inr (.inr (-1)))
      else
        some (.inl (r44, aI .i64 i_40 1))
    else
      some (.inr (.inl left_39))
noncomputable def g16 (a : List T92) (left : Int) : Option (Int) :=
  if ltI (sI .i64 left (a.length : Int)) 0 = true then
    some (-1)
  else
    (loopO (g16_L1 a) (sI .i64 left (a.length : Int), 0)).bind fun w => match w with
      | .inl y => g16_j1 y
      | .inr r => some r
def eA16 (a : (List T92) × Int) : List V := [.sl 9 (rows cT92 a.1), .i .i64 a.2]
def eB16 (r : Int) : V := .i .i64 r
theorem inj16 (a a' : (List T92) × Int) (h : eA16 a = eA16 a') : a = a' := by
  obtain ⟨i173, i174⟩ := a
  obtain ⟨i175, i176⟩ := a'
  simp only [eA16, List.cons.injEq, V.i.injEq, V.b.injEq, V.f.injEq, V.str.injEq, V.sl.injEq, V.agg.injEq, V.cptr.injEq, true_and, and_true] at h
  simp_all [ri cT92_inj]
noncomputable def F16 : List V → Option V := tells (fun a => g16 a.1 a.2) eA16 eB16
set_option maxRecDepth 100000 in
set_option maxHeartbeats 4000000 in
/- loop.example/g01229/laws.szHearthS -/
theorem ok16 : Tells Try.prog 16 F16 := by
  refine Tells.of (by kernel_rfl) ?_
  rintro ⟨a, left⟩ r h
  refine VCalls.nl (VCalls.of Try.func16 rfl rfl rfl ?_)
  rw [tm_init]
  simp only [eA16, en, List.length_cons, List.length_nil, Nat.reduceAdd, Nat.reduceSub]
  replace h : (g16 a left).bind some = some r := bindS h
  rw [g16] at h
  refine VW.seq ?_
  refine VW.evalA (C := [(40, F40)]) (tm 27 [(0, .sl 9 (rows cT92 a)), (1, .i .i64 left)]) [] [] ⟨.inl ok40, trivial⟩ (by kernel_rfl) (by simp -implicitDefEqProofs) ?_
  refine VW.seq ?_
  refine VW.evalA (C := [(40, F40)]) (tm 27 [(0, .sl 9 (rows cT92 a)), (1, .i .i64 (sI .i64 left (a.length : Int)))]) [] [] ⟨.inl ok40, trivial⟩ (by kernel_rfl) (by simp -implicitDefEqProofs) ?_
  refine VW.seq ?_
  refine VW.seq ?_
  refine VW.evalA (C := [(40, F40)]) (tm 27 [(0, .sl 9 (rows cT92 a)), (1, .i .i64 (sI .i64 left (a.length : Int))), (11, .b (ltI (sI .i64 left (a.length : Int)) 0))]) [] [] ⟨.inl ok40, trivial⟩ (by kernel_rfl) (by simp -implicitDefEqProofs) ?_
  refine VW.condB (b := ltI (sI .i64 left (a.length : Int)) 0) (by simp) (fun g1 => ?_) (fun g1 => ?_)
  · replace h := iteT g1 h
    refine VW.seq ?_
    refine VW.evalA (C := [(40, F40)]) (tm 27 [(4, .i .i64 (-1))]) [] [] ⟨.inl ok40, trivial⟩ (by kernel_rfl) (by simp -implicitDefEqProofs) ?_
    obtain rfl := leafS h
    refine VW.ret (VRet.fin ?_)
    simp [eB16]
  · replace h := iteF g1 h
    refine VW.skip ?_
    refine VW.join (fun (v : Int) => (⟨(tm 27 [(1, .i .i64 v)]), [], []⟩ : VS)) (fun v => (g16_j1 (v)).bind some = some r) ?_ ?_
    · refine VW.seq ?_
      refine VW.evalA (C := [(40, F40)]) (tm 27 [(0, .sl 9 (rows cT92 a)), (1, .i .i64 (sI .i64 left (a.length : Int))), (5, .i .i64 0)]) [] [] ⟨.inl ok40, trivial⟩ (by kernel_rfl) (by simp -implicitDefEqProofs) ?_
      refine VW.block ?_
      obtain ⟨w_1, hw_1, h⟩ := bindE h
      refine VW.loopO (fun (x : Int × Int) => (⟨(tm 27 [(0, .sl 9 (rows cT92 a)), (1, .i .i64 x.1), (5, .i .i64 x.2)]), [], []⟩ : VS)) hw_1 (Ent.to 0 (by simp [fgt]) (by simp) (by simp) (by simp [bndT, bndV]) (by simp [bndM, bndV])) ?_
      rintro n_1 ⟨left_39, i_40⟩ h1
      rw [g16_L1] at h1
      refine VW.seq ?_
      refine VW.seq ?_
      refine VW.evalA (C := [(40, F40)]) (tm 27 [(0, .sl 9 (rows cT92 a)), (1, .i .i64 left_39), (5, .i .i64 i_40), (15, .b (ltI i_40 (a.length : Int)))]) [] [] ⟨.inl ok40, trivial⟩ (by kernel_rfl) (by simp -implicitDefEqProofs) ?_
      refine VW.condB (b := ltI i_40 (a.length : Int)) (by simp) (fun g41 => ?_) (fun g41 => ?_)
      · replace h1 := iteT g41 h1
        refine VW.skip ?_
        refine VW.seq ?_
        refine VW.block ?_
        refine VW.seq ?_
        obtain ⟨e42, q43, h1⟩ := bindE h1
        obtain ⟨f43a, f43b, f43c, f43d⟩ := idx_some q43
        obtain ⟨r44, q45, h1⟩ := bindE h1
        have c45 : F40 [.agg [.i .i64 e42.room_, .i .i64 e42.flue_, .i .i64 e42.brain_, .sl 18 (rows cT147 e42.stove_.logs_), .f .f32 e42.stove_.box_, .f .f32 e42.stove_.damper_, .i .i8 e42.stove_.state_, .i .i64 e42.stove_.ash_, .f .f32 e42.stove_.dust_], .i .i64 left_39] = some (.i .i64 r44) := tells_eq inj40 (a := (e42, left_39)) q45
        refine VW.evalA (C := [(40, F40)]) (tm 27 [(0, .sl 9 (rows cT92 a)), (1, .i .i64 r44), (5, .i .i64 i_40)]) [] [] ⟨.inl ok40, trivial⟩ (by kernel_rfl) (by simp -implicitDefEqProofs [f43a, f43b, f43c, f43d, c45]) ?_
        refine VW.seq ?_
        refine VW.evalA (C := [(40, F40)]) (tm 27 [(0, .sl 9 (rows cT92 a)), (1, .i .i64 r44), (5, .i .i64 i_40), (25, .b (ltI r44 0))]) [] [] ⟨.inl ok40, trivial⟩ (by kernel_rfl) (by simp -implicitDefEqProofs) ?_
        refine VW.condB (b := ltI r44 0) (by simp) (fun g46 => ?_) (fun g46 => ?_)
        · replace h1 := iteT g46 h1
          refine VW.seq ?_
          refine VW.evalA (C := [(40, F40)]) (tm 27 [(4, .i .i64 (-1))]) [] [] ⟨.inl ok40, trivial⟩ (by kernel_rfl) (by simp -implicitDefEqProofs) ?_
          have e_ := leafR h1
          subst w_1
          obtain rfl := leafS h
          refine VW.ret (VRet.fin ?_)
          simp [eB16]
        · replace h1 := iteF g46 h1
          refine VW.skip ?_
          refine VW.evalA (C := [(40, F40)]) (tm 27 [(0, .sl 9 (rows cT92 a)), (1, .i .i64 r44), (5, .i .i64 (aI .i64 i_40 1))]) [] [] ⟨.inl ok40, trivial⟩ (by kernel_rfl) (by simp -implicitDefEqProofs) ?_
          exact (show ∃ _, _ from ⟨(r44, aI .i64 i_40 1), leafL h1, (Ent.to 0 (by simp [fgt]) (by simp) (by simp) (by simp [bndT, bndV]) (by simp [bndM, bndV]))⟩)
      · replace h1 := iteF g41 h1
        refine VW.exit ?_
        have e_ := leafR h1
        subst w_1
        exact (show ∃ _, _ from ⟨left_39, h, (Ent.to 0 (by simp [fgt]) (by simp) (by simp) (by simp [bndT, bndV]) (by simp [bndM, bndV]))⟩)
    · rintro left_24 h
      replace h : (g16_j1 left_24).bind _ = _ := h
      rw [g16_j1] at h
      refine VW.seq ?_
      refine VW.evalA (C := [(40, F40)]) (tm 27 [(4, .i .i64 left_24)]) [] [] ⟨.inl ok40, trivial⟩ (by kernel_rfl) (by simp -implicitDefEqProofs) ?_
      obtain rfl := leafS h
      refine VW.ret (VRet.fin ?_)
      simp [eB16]
noncomputable def g17_j1 (left_18 : Int) : Option (Int) :=
  some left_18
noncomputable def g17_L1 (a : List ByteArray) : (Int × Int) → Option ((Int × Int) ⊕ ((Int) ⊕ (Int)))
  | (left_29, i_30) =>
    if ltI i_30 (a.length : Int) = true then
      (idx a i_30).bind fun e32 =>
      if ltI (sI .i64 left_29 (e32.size : Int)) 0 = true then
        some (.inr (.inr (-1)))
      else
        some (.inl (sI .i64 left_29 (e32.size : Int), aI .i64 i_30 1))
    else
      some (.inr (.inl left_29))
noncomputable def g17 (a : List ByteArray) (left : Int) : Option (Int) :=
  if ltI (sI .i64 left (a.length : Int)) 0 = true then
    some (-1)
  else
    (loopO (g17_L1 a) (sI .i64 left (a.length : Int), 0)).bind fun w => match w with
      | .inl y => g17_j1 y
      | .inr r => some r
def eA17 (a : (List ByteArray) × Int) : List V := [.sl 1 (rows cs_ a.1), .i .i64 a.2]
def eB17 (r : Int) : V := .i .i64 r
theorem inj17 (a a' : (List ByteArray) × Int) (h : eA17 a = eA17 a') : a = a' := by
  obtain ⟨i177, i178⟩ := a
  obtain ⟨i179, i180⟩ := a'
  simp only [eA17, List.cons.injEq, V.i.injEq, V.b.injEq, V.f.injEq, V.str.injEq, V.sl.injEq, V.agg.injEq, V.cptr.injEq, true_and, and_true] at h
  simp_all [ri cs__inj]
noncomputable def F17 : List V → Option V := tells (fun a => g17 a.1 a.2) eA17 eB17
set_option maxRecDepth 100000 in
set_option maxHeartbeats 4000000 in
/- loop.example/g01229/laws.szStringS -/
theorem ok17 : Tells Try.prog 17 F17 := by
  refine Tells.of (by kernel_rfl) ?_
  rintro ⟨a, left⟩ r h
  refine VCalls.nl (VCalls.of Try.func17 rfl rfl rfl ?_)
  rw [tm_init]
  simp only [eA17, en, List.length_cons, List.length_nil, Nat.reduceAdd, Nat.reduceSub]
  replace h : (g17 a left).bind some = some r := bindS h
  rw [g17] at h
  refine VW.seq ?_
  refine VW.evalA (C := []) (tm 28 [(0, .sl 1 (rows cs_ a)), (1, .i .i64 left)]) [] [] trivial (by kernel_rfl) (by simp -implicitDefEqProofs) ?_
  refine VW.seq ?_
  refine VW.evalA (C := []) (tm 28 [(0, .sl 1 (rows cs_ a)), (1, .i .i64 (sI .i64 left (a.length : Int)))]) [] [] trivial (by kernel_rfl) (by simp -implicitDefEqProofs) ?_
  refine VW.seq ?_
  refine VW.seq ?_
  refine VW.evalA (C := []) (tm 28 [(0, .sl 1 (rows cs_ a)), (1, .i .i64 (sI .i64 left (a.length : Int))), (11, .b (ltI (sI .i64 left (a.length : Int)) 0))]) [] [] trivial (by kernel_rfl) (by simp -implicitDefEqProofs) ?_
  refine VW.condB (b := ltI (sI .i64 left (a.length : Int)) 0) (by simp) (fun g1 => ?_) (fun g1 => ?_)
  · replace h := iteT g1 h
    refine VW.seq ?_
    refine VW.evalA (C := []) (tm 28 [(4, .i .i64 (-1))]) [] [] trivial (by kernel_rfl) (by simp -implicitDefEqProofs) ?_
    obtain rfl := leafS h
    refine VW.ret (VRet.fin ?_)
    simp [eB17]
  · replace h := iteF g1 h
    refine VW.skip ?_
    refine VW.join (fun (v : Int) => (⟨(tm 28 [(1, .i .i64 v)]), [], []⟩ : VS)) (fun v => (g17_j1 (v)).bind some = some r) ?_ ?_
    · refine VW.seq ?_
      refine VW.evalA (C := []) (tm 28 [(0, .sl 1 (rows cs_ a)), (1, .i .i64 (sI .i64 left (a.length : Int))), (5, .i .i64 0)]) [] [] trivial (by kernel_rfl) (by simp -implicitDefEqProofs) ?_
      refine VW.block ?_
      obtain ⟨w_1, hw_1, h⟩ := bindE h
      refine VW.loopO (fun (x : Int × Int) => (⟨(tm 28 [(0, .sl 1 (rows cs_ a)), (1, .i .i64 x.1), (5, .i .i64 x.2)]), [], []⟩ : VS)) hw_1 (Ent.to 0 (by simp [fgt]) (by simp) (by simp) (by simp [bndT, bndV]) (by simp [bndM, bndV])) ?_
      rintro n_1 ⟨left_29, i_30⟩ h1
      rw [g17_L1] at h1
      refine VW.seq ?_
      refine VW.seq ?_
      refine VW.evalA (C := []) (tm 28 [(0, .sl 1 (rows cs_ a)), (1, .i .i64 left_29), (5, .i .i64 i_30), (15, .b (ltI i_30 (a.length : Int)))]) [] [] trivial (by kernel_rfl) (by simp -implicitDefEqProofs) ?_
      refine VW.condB (b := ltI i_30 (a.length : Int)) (by simp) (fun g31 => ?_) (fun g31 => ?_)
      · replace h1 := iteT g31 h1
        refine VW.skip ?_
        refine VW.seq ?_
        refine VW.block ?_
        refine VW.seq ?_
        obtain ⟨e32, q33, h1⟩ := bindE h1
        obtain ⟨f33a, f33b, f33c, f33d⟩ := idx_some q33
        refine VW.evalA (C := []) (tm 28 [(0, .sl 1 (rows cs_ a)), (1, .i .i64 (sI .i64 left_29 (e32.size : Int))), (5, .i .i64 i_30)]) [] [] trivial (by kernel_rfl) (by simp -implicitDefEqProofs [f33a, f33b, f33c, f33d]) ?_
        refine VW.seq ?_
        refine VW.evalA (C := []) (tm 28 [(0, .sl 1 (rows cs_ a)), (1, .i .i64 (sI .i64 left_29 (e32.size : Int))), (5, .i .i64 i_30), (26, .b (ltI (sI .i64 left_29 (e32.size : Int)) 0))]) [] [] trivial (by kernel_rfl) (by simp -implicitDefEqProofs) ?_
        refine VW.condB (b := ltI (sI .i64 left_29 (e32.size : Int)) 0) (by simp) (fun g34 => ?_) (fun g34 => ?_)
        · replace h1 := iteT g34 h1
          refine VW.seq ?_
          refine VW.evalA (C := []) (tm 28 [(4, .i .i64 (-1))]) [] [] trivial (by kernel_rfl) (by simp -implicitDefEqProofs) ?_
          have e_ := leafR h1
          subst w_1
          obtain rfl := leafS h
          refine VW.ret (VRet.fin ?_)
          simp [eB17]
        · replace h1 := iteF g34 h1
          refine VW.skip ?_
          refine VW.evalA (C := []) (tm 28 [(0, .sl 1 (rows cs_ a)), (1, .i .i64 (sI .i64 left_29 (e32.size : Int))), (5, .i .i64 (aI .i64 i_30 1))]) [] [] trivial (by kernel_rfl) (by simp -implicitDefEqProofs) ?_
          exact (show ∃ _, _ from ⟨(sI .i64 left_29 (e32.size : Int), aI .i64 i_30 1), leafL h1, (Ent.to 0 (by simp [fgt]) (by simp) (by simp) (by simp [bndT, bndV]) (by simp [bndM, bndV]))⟩)
      · replace h1 := iteF g31 h1
        refine VW.exit ?_
        have e_ := leafR h1
        subst w_1
        exact (show ∃ _, _ from ⟨left_29, h, (Ent.to 0 (by simp [fgt]) (by simp) (by simp) (by simp [bndT, bndV]) (by simp [bndM, bndV]))⟩)
    · rintro left_18 h
      replace h : (g17_j1 left_18).bind _ = _ := h
      rw [g17_j1] at h
      refine VW.seq ?_
      refine VW.evalA (C := []) (tm 28 [(4, .i .i64 left_18)]) [] [] trivial (by kernel_rfl) (by simp -implicitDefEqProofs) ?_
      obtain rfl := leafS h
      refine VW.ret (VRet.fin ?_)
      simp [eB17]
noncomputable def g18 (a : List T108) (left : Int) : Option (Int) :=
  if ltI (sI .i64 left (a.length : Int)) 0 = true then
    some (-1)
  else
    some (sI .i64 left (a.length : Int))
def eA18 (a : (List T108) × Int) : List V := [.sl 3 (rows cT108 a.1), .i .i64 a.2]
def eB18 (r : Int) : V := .i .i64 r
theorem inj18 (a a' : (List T108) × Int) (h : eA18 a = eA18 a') : a = a' := by
  obtain ⟨i187, i188⟩ := a
  obtain ⟨i189, i190⟩ := a'
  simp only [eA18, List.cons.injEq, V.i.injEq, V.b.injEq, V.f.injEq, V.str.injEq, V.sl.injEq, V.agg.injEq, V.cptr.injEq, true_and, and_true] at h
  simp_all [ri cT108_inj]
noncomputable def F18 : List V → Option V := tells (fun a => g18 a.1 a.2) eA18 eB18
set_option maxRecDepth 100000 in
set_option maxHeartbeats 4000000 in
/- loop.example/g01229/laws.szHourS -/
theorem ok18 : Tells Try.prog 18 F18 := by
  refine Tells.of (by kernel_rfl) ?_
  rintro ⟨a, left⟩ r h
  refine VCalls.nl (VCalls.of Try.func18 rfl rfl rfl ?_)
  rw [tm_init]
  simp only [eA18, en, List.length_cons, List.length_nil, Nat.reduceAdd, Nat.reduceSub]
  replace h : (g18 a left).bind some = some r := bindS h
  rw [g18] at h
  refine VW.seq ?_
  refine VW.evalA (C := []) (tm 12 [(0, .sl 3 (rows cT108 a)), (1, .i .i64 left)]) [] [] trivial (by kernel_rfl) (by simp -implicitDefEqProofs) ?_
  refine VW.seq ?_
  refine VW.evalA (C := []) (tm 12 [(1, .i .i64 (sI .i64 left (a.length : Int)))]) [] [] trivial (by kernel_rfl) (by simp -implicitDefEqProofs) ?_
  refine VW.seq ?_
  refine VW.seq ?_
  refine VW.evalA (C := []) (tm 12 [(1, .i .i64 (sI .i64 left (a.length : Int))), (10, .b (ltI (sI .i64 left (a.length : Int)) 0))]) [] [] trivial (by kernel_rfl) (by simp -implicitDefEqProofs) ?_
  refine VW.condB (b := ltI (sI .i64 left (a.length : Int)) 0) (by simp) (fun g1 => ?_) (fun g1 => ?_)
  · replace h := iteT g1 h
    refine VW.seq ?_
    refine VW.evalA (C := []) (tm 12 [(4, .i .i64 (-1))]) [] [] trivial (by kernel_rfl) (by simp -implicitDefEqProofs) ?_
    obtain rfl := leafS h
    refine VW.ret (VRet.fin ?_)
    simp [eB18]
  · replace h := iteF g1 h
    refine VW.skip ?_
    refine VW.seq ?_
    refine VW.evalA (C := []) (tm 12 [(4, .i .i64 (sI .i64 left (a.length : Int)))]) [] [] trivial (by kernel_rfl) (by simp -implicitDefEqProofs) ?_
    obtain rfl := leafS h
    refine VW.ret (VRet.fin ?_)
    simp [eB18]
noncomputable def g7 (a : T38) (left : Int) : Option (Int) :=
  (g14 a.flat_ left).bind fun r1 =>
  if ltI r1 0 = true then
    some (-1)
  else
    (g15 a.chimney_ r1).bind fun r4 =>
    if ltI r4 0 = true then
      some (-1)
    else
      (g16 a.hearths_ r4).bind fun r7 =>
      if ltI r7 0 = true then
        some (-1)
      else
        (g17 a.sources_ r7).bind fun r10 =>
        if ltI r10 0 = true then
          some (-1)
        else
          (g18 a.hours_ r10).bind fun r13 =>
          if ltI r13 0 = true then
            some (-1)
          else
            some r13
def eA7 (a : T38 × Int) : List V := [.agg (pT38 a.1), .i .i64 a.2]
def eB7 (r : Int) : V := .i .i64 r
theorem inj7 (a a' : T38 × Int) (h : eA7 a = eA7 a') : a = a' := by
  obtain ⟨⟨⟨i219, i220, i221, i222⟩, i223, i224, i225, i226, i227, ⟨i228, i229, i230, i231, i232⟩⟩, i233⟩ := a
  obtain ⟨⟨⟨i234, i235, i236, i237⟩, i238, i239, i240, i241, i242, ⟨i243, i244, i245, i246, i247⟩⟩, i248⟩ := a'
  simp only [eA7, pT38, List.cons.injEq, V.i.injEq, V.b.injEq, V.f.injEq, V.str.injEq, V.sl.injEq, V.agg.injEq, V.cptr.injEq, true_and, and_true] at h
  simp_all [ri cT105_inj, ri cT108_inj, ri cT132_inj, ri cT134_inj, ri cT92_inj, ri cf_f32_inj, ri cs__inj]
noncomputable def F7 : List V → Option V := tells (fun a => g7 a.1 a.2) eA7 eB7
set_option maxRecDepth 100000 in
set_option maxHeartbeats 4000000 in
/- loop.example/g01229/laws.szHouse -/
theorem ok7 : Tells Try.prog 7 F7 := by
  refine Tells.of (by kernel_rfl) ?_
  rintro ⟨a, left⟩ r h
  refine VCalls.nl (VCalls.of Try.func7 rfl rfl rfl ?_)
  rw [tm_init]
  simp only [eA7, en, List.length_cons, List.length_nil, Nat.reduceAdd, Nat.reduceSub]
  replace h : (g7 a left).bind some = some r := bindS h
  rw [g7] at h
  refine VW.seq ?_
  refine VW.evalA (C := [(14, F14), (15, F15), (16, F16), (17, F17), (18, F18)]) (tm 36 [(1, .i .i64 left), (2, .ptr 0 0 0)]) [some (14, [(pT38 a)])] [] ⟨.inl ok14, .inl ok15, .inl ok16, .inl ok17, .inl ok18, trivial⟩ (by kernel_rfl) (by first | (simp -implicitDefEqProofs; done) | simp -implicitDefEqProofs [pT38]) ?_
  refine VW.seq ?_
  obtain ⟨r1, q2, h⟩ := bindE h
  have c2 : F14 [.agg [.sl 1 (rows cf_f32 a.flat_.heat_), .sl 1 (rows cf_f32 a.flat_.store_), .sl 8 (rows cT132 a.flat_.walls_), .sl 4 (rows cT134 a.flat_.panes_)], .i .i64 left] = some (.i .i64 r1) := tells_eq inj14 (a := (a.flat_, left)) q2
  refine VW.evalA (C := [(14, F14), (15, F15), (16, F16), (17, F17), (18, F18)]) (tm 36 [(1, .i .i64 r1), (2, .ptr 0 0 0)]) [some (14, [(pT38 a)])] [] ⟨.inl ok14, .inl ok15, .inl ok16, .inl ok17, .inl ok18, trivial⟩ (by kernel_rfl) (by first | (simp -implicitDefEqProofs [c2]; done) | simp -implicitDefEqProofs [c2, pT38]) ?_
  refine VW.seq ?_
  refine VW.seq ?_
  refine VW.evalA (C := [(14, F14), (15, F15), (16, F16), (17, F17), (18, F18)]) (tm 36 [(1, .i .i64 r1), (2, .ptr 0 0 0), (10, .b (ltI r1 0))]) [some (14, [(pT38 a)])] [] ⟨.inl ok14, .inl ok15, .inl ok16, .inl ok17, .inl ok18, trivial⟩ (by kernel_rfl) (by first | (simp -implicitDefEqProofs; done) | simp -implicitDefEqProofs [pT38]) ?_
  refine VW.condB (b := ltI r1 0) (by simp) (fun g3 => ?_) (fun g3 => ?_)
  · replace h := iteT g3 h
    refine VW.seq ?_
    refine VW.evalA (C := [(14, F14), (15, F15), (16, F16), (17, F17), (18, F18)]) (tm 36 [(4, .i .i64 (-1))]) [some (14, [(pT38 a)])] [] ⟨.inl ok14, .inl ok15, .inl ok16, .inl ok17, .inl ok18, trivial⟩ (by kernel_rfl) (by first | (simp -implicitDefEqProofs; done) | simp -implicitDefEqProofs [pT38]) ?_
    obtain rfl := leafS h
    refine VW.ret (VRet.fin ?_)
    first | (simp [eB7]; done) | simp [eB7, pT38]
  · replace h := iteF g3 h
    refine VW.skip ?_
    refine VW.seq ?_
    obtain ⟨r4, q5, h⟩ := bindE h
    have c5 : F15 [.sl 5 (rows cT105 a.chimney_), .i .i64 r1] = some (.i .i64 r4) := tells_eq inj15 (a := (a.chimney_, r1)) q5
    refine VW.evalA (C := [(14, F14), (15, F15), (16, F16), (17, F17), (18, F18)]) (tm 36 [(1, .i .i64 r4), (2, .ptr 0 0 0)]) [some (14, [(pT38 a)])] [] ⟨.inl ok14, .inl ok15, .inl ok16, .inl ok17, .inl ok18, trivial⟩ (by kernel_rfl) (by first | (simp -implicitDefEqProofs [c5]; done) | simp -implicitDefEqProofs [c5, pT38]) ?_
    refine VW.seq ?_
    refine VW.seq ?_
    refine VW.evalA (C := [(14, F14), (15, F15), (16, F16), (17, F17), (18, F18)]) (tm 36 [(1, .i .i64 r4), (2, .ptr 0 0 0), (16, .b (ltI r4 0))]) [some (14, [(pT38 a)])] [] ⟨.inl ok14, .inl ok15, .inl ok16, .inl ok17, .inl ok18, trivial⟩ (by kernel_rfl) (by first | (simp -implicitDefEqProofs; done) | simp -implicitDefEqProofs [pT38]) ?_
    refine VW.condB (b := ltI r4 0) (by simp) (fun g6 => ?_) (fun g6 => ?_)
    · replace h := iteT g6 h
      refine VW.seq ?_
      refine VW.evalA (C := [(14, F14), (15, F15), (16, F16), (17, F17), (18, F18)]) (tm 36 [(4, .i .i64 (-1))]) [some (14, [(pT38 a)])] [] ⟨.inl ok14, .inl ok15, .inl ok16, .inl ok17, .inl ok18, trivial⟩ (by kernel_rfl) (by first | (simp -implicitDefEqProofs; done) | simp -implicitDefEqProofs [pT38]) ?_
      obtain rfl := leafS h
      refine VW.ret (VRet.fin ?_)
      first | (simp [eB7]; done) | simp [eB7, pT38]
    · replace h := iteF g6 h
      refine VW.skip ?_
      refine VW.seq ?_
      obtain ⟨r7, q8, h⟩ := bindE h
      have c8 : F16 [.sl 9 (rows cT92 a.hearths_), .i .i64 r4] = some (.i .i64 r7) := tells_eq inj16 (a := (a.hearths_, r4)) q8
      refine VW.evalA (C := [(14, F14), (15, F15), (16, F16), (17, F17), (18, F18)]) (tm 36 [(1, .i .i64 r7), (2, .ptr 0 0 0)]) [some (14, [(pT38 a)])] [] ⟨.inl ok14, .inl ok15, .inl ok16, .inl ok17, .inl ok18, trivial⟩ (by kernel_rfl) (by first | (simp -implicitDefEqProofs [c8]; done) | simp -implicitDefEqProofs [c8, pT38]) ?_
      refine VW.seq ?_
      refine VW.seq ?_
      refine VW.evalA (C := [(14, F14), (15, F15), (16, F16), (17, F17), (18, F18)]) (tm 36 [(1, .i .i64 r7), (2, .ptr 0 0 0), (22, .b (ltI r7 0))]) [some (14, [(pT38 a)])] [] ⟨.inl ok14, .inl ok15, .inl ok16, .inl ok17, .inl ok18, trivial⟩ (by kernel_rfl) (by first | (simp -implicitDefEqProofs; done) | simp -implicitDefEqProofs [pT38]) ?_
      refine VW.condB (b := ltI r7 0) (by simp) (fun g9 => ?_) (fun g9 => ?_)
      · replace h := iteT g9 h
        refine VW.seq ?_
        refine VW.evalA (C := [(14, F14), (15, F15), (16, F16), (17, F17), (18, F18)]) (tm 36 [(4, .i .i64 (-1))]) [some (14, [(pT38 a)])] [] ⟨.inl ok14, .inl ok15, .inl ok16, .inl ok17, .inl ok18, trivial⟩ (by kernel_rfl) (by first | (simp -implicitDefEqProofs; done) | simp -implicitDefEqProofs [pT38]) ?_
        obtain rfl := leafS h
        refine VW.ret (VRet.fin ?_)
        first | (simp [eB7]; done) | simp [eB7, pT38]
      · replace h := iteF g9 h
        refine VW.skip ?_
        refine VW.seq ?_
        obtain ⟨r10, q11, h⟩ := bindE h
        have c11 : F17 [.sl 1 (rows cs_ a.sources_), .i .i64 r7] = some (.i .i64 r10) := tells_eq inj17 (a := (a.sources_, r7)) q11
        refine VW.evalA (C := [(14, F14), (15, F15), (16, F16), (17, F17), (18, F18)]) (tm 36 [(1, .i .i64 r10), (2, .ptr 0 0 0)]) [some (14, [(pT38 a)])] [] ⟨.inl ok14, .inl ok15, .inl ok16, .inl ok17, .inl ok18, trivial⟩ (by kernel_rfl) (by first | (simp -implicitDefEqProofs [c11]; done) | simp -implicitDefEqProofs [c11, pT38]) ?_
        refine VW.seq ?_
        refine VW.seq ?_
        refine VW.evalA (C := [(14, F14), (15, F15), (16, F16), (17, F17), (18, F18)]) (tm 36 [(1, .i .i64 r10), (2, .ptr 0 0 0), (28, .b (ltI r10 0))]) [some (14, [(pT38 a)])] [] ⟨.inl ok14, .inl ok15, .inl ok16, .inl ok17, .inl ok18, trivial⟩ (by kernel_rfl) (by first | (simp -implicitDefEqProofs; done) | simp -implicitDefEqProofs [pT38]) ?_
        refine VW.condB (b := ltI r10 0) (by simp) (fun g12 => ?_) (fun g12 => ?_)
        · replace h := iteT g12 h
          refine VW.seq ?_
          refine VW.evalA (C := [(14, F14), (15, F15), (16, F16), (17, F17), (18, F18)]) (tm 36 [(4, .i .i64 (-1))]) [some (14, [(pT38 a)])] [] ⟨.inl ok14, .inl ok15, .inl ok16, .inl ok17, .inl ok18, trivial⟩ (by kernel_rfl) (by first | (simp -implicitDefEqProofs; done) | simp -implicitDefEqProofs [pT38]) ?_
          obtain rfl := leafS h
          refine VW.ret (VRet.fin ?_)
          first | (simp [eB7]; done) | simp [eB7, pT38]
        · replace h := iteF g12 h
          refine VW.skip ?_
          refine VW.seq ?_
          obtain ⟨r13, q14, h⟩ := bindE h
          have c14 : F18 [.sl 3 (rows cT108 a.hours_), .i .i64 r10] = some (.i .i64 r13) := tells_eq inj18 (a := (a.hours_, r10)) q14
          refine VW.evalA (C := [(14, F14), (15, F15), (16, F16), (17, F17), (18, F18)]) (tm 36 [(1, .i .i64 r13)]) [some (14, [(pT38 a)])] [] ⟨.inl ok14, .inl ok15, .inl ok16, .inl ok17, .inl ok18, trivial⟩ (by kernel_rfl) (by first | (simp -implicitDefEqProofs [c14]; done) | simp -implicitDefEqProofs [c14, pT38]) ?_
          refine VW.seq ?_
          refine VW.seq ?_
          refine VW.evalA (C := [(14, F14), (15, F15), (16, F16), (17, F17), (18, F18)]) (tm 36 [(1, .i .i64 r13), (34, .b (ltI r13 0))]) [some (14, [(pT38 a)])] [] ⟨.inl ok14, .inl ok15, .inl ok16, .inl ok17, .inl ok18, trivial⟩ (by kernel_rfl) (by first | (simp -implicitDefEqProofs; done) | simp -implicitDefEqProofs [pT38]) ?_
          refine VW.condB (b := ltI r13 0) (by simp) (fun g15 => ?_) (fun g15 => ?_)
          · replace h := iteT g15 h
            refine VW.seq ?_
            refine VW.evalA (C := [(14, F14), (15, F15), (16, F16), (17, F17), (18, F18)]) (tm 36 [(4, .i .i64 (-1))]) [some (14, [(pT38 a)])] [] ⟨.inl ok14, .inl ok15, .inl ok16, .inl ok17, .inl ok18, trivial⟩ (by kernel_rfl) (by first | (simp -implicitDefEqProofs; done) | simp -implicitDefEqProofs [pT38]) ?_
            obtain rfl := leafS h
            refine VW.ret (VRet.fin ?_)
            first | (simp [eB7]; done) | simp [eB7, pT38]
          · replace h := iteF g15 h
            refine VW.skip ?_
            refine VW.seq ?_
            refine VW.evalA (C := [(14, F14), (15, F15), (16, F16), (17, F17), (18, F18)]) (tm 36 [(4, .i .i64 r13)]) [some (14, [(pT38 a)])] [] ⟨.inl ok14, .inl ok15, .inl ok16, .inl ok17, .inl ok18, trivial⟩ (by kernel_rfl) (by first | (simp -implicitDefEqProofs; done) | simp -implicitDefEqProofs [pT38]) ?_
            obtain rfl := leafS h
            refine VW.ret (VRet.fin ?_)
            first | (simp [eB7]; done) | simp [eB7, pT38]
noncomputable def g44 (a : F32) (b : F32) : Option (Bool) :=
  if (neF .f32 a a || neF .f32 b b) = true then
    some (neF .f32 a a && neF .f32 b b)
  else
    (f32bits a).bind fun z2 =>
    (f32bits b).bind fun z4 =>
    some (eqI z2 z4)
def eA44 (a : F32 × F32) : List V := [.f .f32 a.1, .f .f32 a.2]
def eB44 (r : Bool) : V := .b r
theorem inj44 (a a' : F32 × F32) (h : eA44 a = eA44 a') : a = a' := by
  obtain ⟨i249, i250⟩ := a
  obtain ⟨i251, i252⟩ := a'
  simp only [eA44, List.cons.injEq, V.i.injEq, V.b.injEq, V.f.injEq, V.str.injEq, V.sl.injEq, V.agg.injEq, V.cptr.injEq, true_and, and_true] at h
  simp_all
noncomputable def F44 : List V → Option V := tells (fun a => g44 a.1 a.2) eA44 eB44
set_option maxRecDepth 100000 in
set_option maxHeartbeats 4000000 in
/- loop.example/g01229/spec.l01Same -/
theorem ok44 : Tells Try.prog 44 F44 := by
  refine Tells.of (by kernel_rfl) ?_
  rintro ⟨a, b⟩ r h
  refine VCalls.nl (VCalls.of Try.func44 rfl rfl rfl ?_)
  rw [tm_init]
  simp only [eA44, en, List.length_cons, List.length_nil, Nat.reduceAdd, Nat.reduceSub]
  replace h : (g44 a b).bind some = some r := bindS h
  rw [g44] at h
  refine VW.seq ?_
  refine VW.evalA (C := [(63, FXbits32)]) (tm 26 [(0, .f .f32 a), (1, .f .f32 b)]) [] [] ⟨.inr okx63, trivial⟩ (by kernel_rfl) (by simp -implicitDefEqProofs) ?_
  refine VW.seq ?_
  refine VW.seq ?_
  refine VW.evalA (C := [(63, FXbits32)]) (tm 26 [(0, .f .f32 a), (1, .f .f32 b), (12, .b (neF .f32 a a || neF .f32 b b))]) [] [] ⟨.inr okx63, trivial⟩ (by kernel_rfl) (by simp -implicitDefEqProofs) ?_
  refine VW.condB (b := (neF .f32 a a || neF .f32 b b)) (by simp) (fun g1 => ?_) (fun g1 => ?_)
  · replace h := iteT g1 h
    refine VW.seq ?_
    refine VW.evalA (C := [(63, FXbits32)]) (tm 26 [(4, .b (neF .f32 a a && neF .f32 b b))]) [] [] ⟨.inr okx63, trivial⟩ (by kernel_rfl) (by simp -implicitDefEqProofs) ?_
    obtain rfl := leafS h
    refine VW.ret (VRet.fin ?_)
    simp [eB44]
  · replace h := iteF g1 h
    refine VW.skip ?_
    refine VW.seq ?_
    obtain ⟨z2, q3, h⟩ := bindE h
    have c3 := f32bits_F q3
    obtain ⟨z4, q5, h⟩ := bindE h
    have c5 := f32bits_F q5
    refine VW.evalA (C := [(63, FXbits32)]) (tm 26 [(4, .b (eqI z2 z4))]) [] [] ⟨.inr okx63, trivial⟩ (by kernel_rfl) (by simp -implicitDefEqProofs [c3, c5]) ?_
    obtain rfl := leafS h
    refine VW.ret (VRet.fin ?_)
    simp [eB44]
noncomputable def g61_j1 : Option (Bool) :=
  some true
noncomputable def g61_L1 (a : List F32) (b : List F32) : (Int) → Option ((Int) ⊕ ((Unit) ⊕ (Bool)))
  | i_45 =>
    if ltI i_45 (a.length : Int) = true then
      (idx a i_45).bind fun e47 =>
      (idx b i_45).bind fun e49 =>
      (g44 e47 e49).bind fun r51 =>
      if (!r51) = true then
        some (.inr (.inr false))
      else
        some (.inl (aI .i64 i_45 1))
    else
      some (.inr (.inl ()))
noncomputable def g61 (a : List F32) (b : List F32) : Option (Bool) :=
  if (!eqI (a.length : Int) (b.length : Int)) = true then
    some false
  else
    (loopO (g61_L1 a b) 0).bind fun w => match w with
      | .inl y => g61_j1
      | .inr r => some r
def eA61 (a : (List F32) × (List F32)) : List V := [.sl 1 (rows cf_f32 a.1), .sl 1 (rows cf_f32 a.2)]
def eB61 (r : Bool) : V := .b r
theorem inj61 (a a' : (List F32) × (List F32)) (h : eA61 a = eA61 a') : a = a' := by
  obtain ⟨i253, i254⟩ := a
  obtain ⟨i255, i256⟩ := a'
  simp only [eA61, List.cons.injEq, V.i.injEq, V.b.injEq, V.f.injEq, V.str.injEq, V.sl.injEq, V.agg.injEq, V.cptr.injEq, true_and, and_true] at h
  simp_all [ri cf_f32_inj]
noncomputable def F61 : List V → Option V := tells (fun a => g61 a.1 a.2) eA61 eB61
set_option maxRecDepth 100000 in
set_option maxHeartbeats 4000000 in
/- loop.example/g01229/spec.SameNumbers -/
theorem ok61 : Tells Try.prog 61 F61 := by
  refine Tells.of (by kernel_rfl) ?_
  rintro ⟨a, b⟩ r h
  refine VCalls.nl (VCalls.of Try.func61 rfl rfl rfl ?_)
  rw [tm_init]
  simp only [eA61, en, List.length_cons, List.length_nil, Nat.reduceAdd, Nat.reduceSub]
  replace h : (g61 a b).bind some = some r := bindS h
  rw [g61] at h
  refine VW.seq ?_
  refine VW.evalA (C := [(44, F44)]) (tm 27 [(0, .sl 1 (rows cf_f32 a)), (1, .sl 1 (rows cf_f32 b))]) [] [] ⟨.inl ok44, trivial⟩ (by kernel_rfl) (by simp -implicitDefEqProofs) ?_
  refine VW.seq ?_
  refine VW.seq ?_
  refine VW.evalA (C := [(44, F44)]) (tm 27 [(0, .sl 1 (rows cf_f32 a)), (1, .sl 1 (rows cf_f32 b)), (10, .b (!eqI (a.length : Int) (b.length : Int)))]) [] [] ⟨.inl ok44, trivial⟩ (by kernel_rfl) (by simp -implicitDefEqProofs) ?_
  refine VW.condB (b := (!eqI (a.length : Int) (b.length : Int))) (by simp) (fun g1 => ?_) (fun g1 => ?_)
  · replace h := iteT g1 h
    refine VW.seq ?_
    refine VW.evalA (C := [(44, F44)]) (tm 27 [(4, .b false)]) [] [] ⟨.inl ok44, trivial⟩ (by kernel_rfl) (by simp -implicitDefEqProofs) ?_
    obtain rfl := leafS h
    refine VW.ret (VRet.fin ?_)
    simp [eB61]
  · replace h := iteF g1 h
    refine VW.skip ?_
    refine VW.join (fun (v : Unit) => (⟨(tm 27 []), [], []⟩ : VS)) (fun v => (g61_j1).bind some = some r) ?_ ?_
    · refine VW.seq ?_
      refine VW.evalA (C := [(44, F44)]) (tm 27 [(0, .sl 1 (rows cf_f32 a)), (1, .sl 1 (rows cf_f32 b)), (5, .i .i64 0)]) [] [] ⟨.inl ok44, trivial⟩ (by kernel_rfl) (by simp -implicitDefEqProofs) ?_
      refine VW.block ?_
      obtain ⟨w_1, hw_1, h⟩ := bindE h
      refine VW.loopO (fun (x : Int) => (⟨(tm 27 [(0, .sl 1 (rows cf_f32 a)), (1, .sl 1 (rows cf_f32 b)), (5, .i .i64 x)]), [], []⟩ : VS)) hw_1 (Ent.to 0 (by simp [fgt]) (by simp) (by simp) (by simp [bndT, bndV]) (by simp [bndM, bndV])) ?_
      rintro n_1 i_45 h1
      rw [g61_L1] at h1
      refine VW.seq ?_
      refine VW.seq ?_
      refine VW.evalA (C := [(44, F44)]) (tm 27 [(0, .sl 1 (rows cf_f32 a)), (1, .sl 1 (rows cf_f32 b)), (5, .i .i64 i_45), (14, .b (ltI i_45 (a.length : Int)))]) [] [] ⟨.inl ok44, trivial⟩ (by kernel_rfl) (by simp -implicitDefEqProofs) ?_
      refine VW.condB (b := ltI i_45 (a.length : Int)) (by simp) (fun g46 => ?_) (fun g46 => ?_)
      · replace h1 := iteT g46 h1
        refine VW.skip ?_
        refine VW.seq ?_
        refine VW.block ?_
        refine VW.seq ?_
        obtain ⟨e47, q48, h1⟩ := bindE h1
        obtain ⟨f48a, f48b, f48c, f48d⟩ := idx_some q48
        obtain ⟨e49, q50, h1⟩ := bindE h1
        obtain ⟨f50a, f50b, f50c, f50d⟩ := idx_some q50
        obtain ⟨r51, q52, h1⟩ := bindE h1
        have c52 : F44 [.f .f32 e47, .f .f32 e49] = some (.b r51) := tells_eq inj44 (a := (e47, e49)) q52
        refine VW.evalDA (C := [(44, F44)]) (tm 27 [(0, .sl 1 (rows cf_f32 a)), (1, .sl 1 (rows cf_f32 b)), (5, .i .i64 i_45), (26, .b (!r51))]) [] [] ⟨.inl ok44, trivial⟩ mixed (by kernel_rfl) (by simp -implicitDefEqProofs [f48a, f48b, f48c, f48d, f50a, f50b, f50c, f50d, c52]) ?_
        refine VW.condB (b := (!r51)) (by simp) (fun g53 => ?_) (fun g53 => ?_)
        · replace h1 := iteT g53 h1
          refine VW.seq ?_
          refine VW.evalA (C := [(44, F44)]) (tm 27 [(4, .b false)]) [] [] ⟨.inl ok44, trivial⟩ (by kernel_rfl) (by simp -implicitDefEqProofs) ?_
          have e_ := leafR h1
          subst w_1
          obtain rfl := leafS h
          refine VW.ret (VRet.fin ?_)
          simp [eB61]
        · replace h1 := iteF g53 h1
          refine VW.skip ?_
          refine VW.evalA (C := [(44, F44)]) (tm 27 [(0, .sl 1 (rows cf_f32 a)), (1, .sl 1 (rows cf_f32 b)), (5, .i .i64 (aI .i64 i_45 1))]) [] [] ⟨.inl ok44, trivial⟩ (by kernel_rfl) (by simp -implicitDefEqProofs) ?_
          exact (show ∃ _, _ from ⟨aI .i64 i_45 1, leafL h1, (Ent.to 0 (by simp [fgt]) (by simp) (by simp) (by simp [bndT, bndV]) (by simp [bndM, bndV]))⟩)
      · replace h1 := iteF g46 h1
        refine VW.exit ?_
        have e_ := leafR h1
        subst w_1
        exact (show ∃ _, _ from ⟨(), h, (Ent.to 0 (by simp [fgt]) (by simp) (by simp) (by simp [bndT, bndV]) (by simp [bndM, bndV]))⟩)
    · rintro _ h
      replace h : (g61_j1).bind _ = _ := h
      rw [g61_j1] at h
      refine VW.seq ?_
      refine VW.evalA (C := [(44, F44)]) (tm 27 [(4, .b true)]) [] [] ⟨.inl ok44, trivial⟩ (by kernel_rfl) (by simp -implicitDefEqProofs) ?_
      obtain rfl := leafS h
      refine VW.ret (VRet.fin ?_)
      simp [eB61]
noncomputable def g41_j2 : Option (Bool) :=
  some true
noncomputable def g41_L1 (f : T30) (g : T30) : (Int) → Option ((Int) ⊕ ((Unit) ⊕ (Bool)))
  | i_244 =>
    if ltI i_244 (f.panes_.length : Int) = true then
      (idx f.panes_ i_244).bind fun e246 =>
      (idx g.panes_ i_244).bind fun e248 =>
      (if ((!eqI e246.a_ e248.a_) || (!eqI e246.b_ e248.b_)) = true then some true else (g44 e246.lead_ e248.lead_).bind fun r250 => some (!r250)).bind fun w252 =>
      (if w252 = true then some true else (g44 e246.sun_ e248.sun_).bind fun r253 => some (!r253)).bind fun w255 =>
      if w255 = true then
        some (.inr (.inr false))
      else
        some (.inl (aI .i64 i_244 1))
    else
      some (.inr (.inl ()))
noncomputable def g41_j1 (f : T30) (g : T30) : Option (Bool) :=
  (loopO (g41_L1 f g) 0).bind fun w => match w with
    | .inl y => g41_j2
    | .inr r => some r
noncomputable def g41_L2 (f : T30) (g : T30) : (Int) → Option ((Int) ⊕ ((Unit) ⊕ (Bool)))
  | i_347 =>
    if ltI i_347 (f.walls_.length : Int) = true then
      (idx f.walls_ i_347).bind fun e349 =>
      (idx g.walls_ i_347).bind fun e351 =>
      (if ((!eqI e349.a_ e351.a_) || (!eqI e349.b_ e351.b_)) = true then some true else (g44 e349.lead_ e351.lead_).bind fun r353 => some (!r353)).bind fun w355 =>
      (if w355 = true then some true else (g44 e349.store_ e351.store_).bind fun r356 => some (!r356)).bind fun w358 =>
      (if w358 = true then some true else (g61 [e349.heat_.a0_, e349.heat_.a1_, e349.heat_.a2_, e349.heat_.a3_] [e351.heat_.a0_, e351.heat_.a1_, e351.heat_.a2_, e351.heat_.a3_]).bind fun r359 => some (!r359)).bind fun w361 =>
      if w361 = true then
        some (.inr (.inr false))
      else
        some (.inl (aI .i64 i_347 1))
    else
      some (.inr (.inl ()))
noncomputable def g41 (f : T30) (g : T30) : Option (Bool) :=
  (g61 f.heat_ g.heat_).bind fun r1 =>
  (if (!r1) = true then some true else (g61 f.store_ g.store_).bind fun r3 => some (!r3)).bind fun w5 =>
  if ((w5 || (!eqI (f.walls_.length : Int) (g.walls_.length : Int))) || (!eqI (f.panes_.length : Int) (g.panes_.length : Int))) = true then
    some false
  else
    (loopO (g41_L2 f g) 0).bind fun w => match w with
      | .inl y => g41_j1 f g
      | .inr r => some r
def eA41 (a : T30 × T30) : List V := [.cptr (pT30 a.1) 0, .cptr (pT30 a.2) 0]
def eB41 (r : Bool) : V := .b r
theorem inj41 (a a' : T30 × T30) (h : eA41 a = eA41 a') : a = a' := by
  obtain ⟨⟨i257, i258, i259, i260⟩, ⟨i261, i262, i263, i264⟩⟩ := a
  obtain ⟨⟨i265, i266, i267, i268⟩, ⟨i269, i270, i271, i272⟩⟩ := a'
  simp only [eA41, pT30, List.cons.injEq, V.i.injEq, V.b.injEq, V.f.injEq, V.str.injEq, V.sl.injEq, V.agg.injEq, V.cptr.injEq, true_and, and_true] at h
  simp_all [ri cT132_inj, ri cT134_inj, ri cf_f32_inj]
noncomputable def F41 : List V → Option V := tells (fun a => g41 a.1 a.2) eA41 eB41
set_option maxRecDepth 100000 in
set_option maxHeartbeats 40000000 in
/- loop.example/g01229/spec.l04Same -/
theorem ok41 : Tells Try.prog 41 F41 := by
  refine Tells.of (by kernel_rfl) ?_
  rintro ⟨f, g⟩ r h
  refine VCalls.nl (VCalls.of Try.func41 rfl rfl rfl ?_)
  rw [tm_init]
  simp only [eA41, en, List.length_cons, List.length_nil, Nat.reduceAdd, Nat.reduceSub]
  replace h : (g41 f g).bind some = some r := bindS h
  rw [g41] at h
  refine VW.seq ?_
  refine VW.evalA (C := [(44, F44), (61, F61)]) (tm 201 [(0, .cptr (pT30 f) 0), (1, .cptr (pT30 g) 0)]) [] [] ⟨.inl ok44, .inl ok61, trivial⟩ (by kernel_rfl) (by first | (simp -implicitDefEqProofs; done) | simp -implicitDefEqProofs [pT30]) ?_
  refine VW.seq ?_
  refine VW.seq ?_
  obtain ⟨r1, q2, h⟩ := bindE h
  have c2 : F61 [.sl 1 (rows cf_f32 f.heat_), .sl 1 (rows cf_f32 g.heat_)] = some (.b r1) := tells_eq inj61 (a := (f.heat_, g.heat_)) q2
  obtain ⟨w5, q387, h⟩ := bindE h
  refine VW.evalDA (C := [(44, F44), (61, F61)]) (tm 201 [(0, .cptr (pT30 f) 0), (1, .cptr (pT30 g) 0), (58, .b ((w5 || (!eqI (f.walls_.length : Int) (g.walls_.length : Int))) || (!eqI (f.panes_.length : Int) (g.panes_.length : Int))))]) [] [] ⟨.inl ok44, .inl ok61, trivial⟩ mixed (by kernel_rfl) (by
      refine Or.elim (Bool.eq_false_or_eq_true (!r1)) (fun q388 => ?_) (fun q388 => ?_)
      · first
        | (simp at q388; done)
        | (rw [if_pos q388] at q387
           have d389 : w5 = _ := (Option.some.inj q387).symm
           first | (simp -implicitDefEqProofs [c2, q388, d389, pT30]; done) | simp -implicitDefEqProofs [c2, q388, d389])
      · first
        | (simp at q388; done)
        | (rw [if_neg (by rw [q388]; exact Bool.false_ne_true)] at q387
           refine Exists.elim (bindQ q387) fun r3 e_ => ?_
           have q4 := e_.1
           replace q387 := e_.2
           have c4 : F61 [.sl 1 (rows cf_f32 f.store_), .sl 1 (rows cf_f32 g.store_)] = some (.b r3) := tells_eq inj61 (a := (f.store_, g.store_)) q4
           have d390 : w5 = _ := (Option.some.inj q387).symm
           first | (simp -implicitDefEqProofs [c2, q388, c4, d390, pT30]; done) | simp -implicitDefEqProofs [c2, q388, c4, d390])) ?_
  refine VW.condB (b := ((w5 || (!eqI (f.walls_.length : Int) (g.walls_.length : Int))) || (!eqI (f.panes_.length : Int) (g.panes_.length : Int)))) (by simp) (fun g6 => ?_) (fun g6 => ?_)
  · replace h := iteT g6 h
    refine VW.seq ?_
    refine VW.evalA (C := [(44, F44), (61, F61)]) (tm 201 [(4, .b false)]) [] [] ⟨.inl ok44, .inl ok61, trivial⟩ (by kernel_rfl) (by first | (simp -implicitDefEqProofs; done) | simp -implicitDefEqProofs [pT30]) ?_
    obtain rfl := leafS h
    refine VW.ret (VRet.fin ?_)
    first | (simp [eB41]; done) | simp [eB41, pT30]
  · replace h := iteF g6 h
    refine VW.skip ?_
    refine VW.join (fun (v : Unit) => (⟨(tm 201 [(0, .cptr (pT30 f) 0), (1, .cptr (pT30 g) 0)]), [], []⟩ : VS)) (fun v => (g41_j1 f g).bind some = some r) ?_ ?_
    · refine VW.seq ?_
      refine VW.evalA (C := [(44, F44), (61, F61)]) (tm 201 [(0, .cptr (pT30 f) 0), (1, .cptr (pT30 g) 0), (5, .i .i64 0)]) [] [] ⟨.inl ok44, .inl ok61, trivial⟩ (by kernel_rfl) (by first | (simp -implicitDefEqProofs; done) | simp -implicitDefEqProofs [pT30]) ?_
      refine VW.block ?_
      obtain ⟨w_2, hw_2, h⟩ := bindE h
      refine VW.loopO (fun (x : Int) => (⟨(tm 201 [(0, .cptr (pT30 f) 0), (1, .cptr (pT30 g) 0), (5, .i .i64 x)]), [], []⟩ : VS)) hw_2 (Ent.to 0 (by simp [fgt]) (by first | (simp; done) | simp [pT30]) (by simp) (by simp [bndT, bndV]) (by simp [bndM, bndV])) ?_
      rintro n_2 i_347 h1
      rw [g41_L2] at h1
      refine VW.seq ?_
      refine VW.seq ?_
      refine VW.evalA (C := [(44, F44), (61, F61)]) (tm 201 [(0, .cptr (pT30 f) 0), (1, .cptr (pT30 g) 0), (5, .i .i64 i_347), (65, .b (ltI i_347 (f.walls_.length : Int)))]) [] [] ⟨.inl ok44, .inl ok61, trivial⟩ (by kernel_rfl) (by first | (simp -implicitDefEqProofs; done) | simp -implicitDefEqProofs [pT30]) ?_
      refine VW.condB (b := ltI i_347 (f.walls_.length : Int)) (by simp) (fun g348 => ?_) (fun g348 => ?_)
      · replace h1 := iteT g348 h1
        refine VW.skip ?_
        refine VW.seq ?_
        refine VW.block ?_
        refine VW.seq ?_
        obtain ⟨e349, q350, h1⟩ := bindE h1
        obtain ⟨f350a, f350b, f350c, f350d⟩ := idx_some q350
        refine VW.evalA (C := [(44, F44), (61, F61)]) (tm 201 [(0, .cptr (pT30 f) 0), (1, .cptr (pT30 g) 0), (5, .i .i64 i_347), (6, .cptr [.i .i64 e349.a_, .i .i64 e349.b_, .f .f32 e349.lead_, .f .f32 e349.store_, .f .f32 e349.heat_.a0_, .f .f32 e349.heat_.a1_, .f .f32 e349.heat_.a2_, .f .f32 e349.heat_.a3_] 0)]) [] [] ⟨.inl ok44, .inl ok61, trivial⟩ (by kernel_rfl) (by first | (simp -implicitDefEqProofs [f350a, f350b, f350c, f350d]; done) | simp -implicitDefEqProofs [f350a, f350b, f350c, f350d, pT30]) ?_
        refine VW.seq ?_
        obtain ⟨e351, q352, h1⟩ := bindE h1
        obtain ⟨f352a, f352b, f352c, f352d⟩ := idx_some q352
        refine VW.evalA (C := [(44, F44), (61, F61)]) (tm 201 [(0, .cptr (pT30 f) 0), (1, .cptr (pT30 g) 0), (5, .i .i64 i_347), (6, .cptr [.i .i64 e349.a_, .i .i64 e349.b_, .f .f32 e349.lead_, .f .f32 e349.store_, .f .f32 e349.heat_.a0_, .f .f32 e349.heat_.a1_, .f .f32 e349.heat_.a2_, .f .f32 e349.heat_.a3_] 0), (7, .cptr [.i .i64 e351.a_, .i .i64 e351.b_, .f .f32 e351.lead_, .f .f32 e351.store_, .f .f32 e351.heat_.a0_, .f .f32 e351.heat_.a1_, .f .f32 e351.heat_.a2_, .f .f32 e351.heat_.a3_] 0)]) [] [] ⟨.inl ok44, .inl ok61, trivial⟩ (by kernel_rfl) (by first | (simp -implicitDefEqProofs [f352a, f352b, f352c, f352d]; done) | simp -implicitDefEqProofs [f352a, f352b, f352c, f352d, pT30]) ?_
        refine VW.seq ?_
        obtain ⟨w355, q363, h1⟩ := bindE h1
        obtain ⟨w358, q364, h1⟩ := bindE h1
        obtain ⟨w361, q365, h1⟩ := bindE h1
        refine VW.evalDA (C := [(44, F44), (61, F61)]) (tm 201 [(0, .cptr (pT30 f) 0), (1, .cptr (pT30 g) 0), (5, .i .i64 i_347), (135, .b w361)]) [] [] ⟨.inl ok44, .inl ok61, trivial⟩ mixed (by kernel_rfl) (by
            refine Or.elim (Bool.eq_false_or_eq_true ((!eqI e349.a_ e351.a_) || (!eqI e349.b_ e351.b_))) (fun q366 => ?_) (fun q366 => ?_)
            · first
              | (simp at q366; done)
              | (rw [if_pos q366] at q363
                 have d367 : w355 = _ := (Option.some.inj q363).symm
                 refine Or.elim (Bool.eq_false_or_eq_true w355) (fun q368 => ?_) (fun q368 => ?_)
                 · first
                   | (simp [d367] at q368; done)
                   | (rw [if_pos q368] at q364
                      try simp only [d367] at q368
                      have d369 : w358 = _ := (Option.some.inj q364).symm
                      refine Or.elim (Bool.eq_false_or_eq_true w358) (fun q370 => ?_) (fun q370 => ?_)
                      · first
                        | (simp [d367, d369] at q370; done)
                        | (rw [if_pos q370] at q365
                           try simp only [d367, d369] at q370
                           have d371 : w361 = _ := (Option.some.inj q365).symm
                           first | (simp -implicitDefEqProofs [q366, d367, q368, d369, q370, d371, pT30]; done) | simp -implicitDefEqProofs [q366, d367, q368, d369, q370, d371])
                      · first
                        | (simp [d367, d369] at q370; done)
                        | (rw [if_neg (by rw [q370]; exact Bool.false_ne_true)] at q365
                           try simp only [d367, d369] at q370
                           refine Exists.elim (bindQ q365) fun r359 e_ => ?_
                           have q360 := e_.1
                           replace q365 := e_.2
                           have c360 : F61 [.sl 1 [[.f .f32 e349.heat_.a0_], [.f .f32 e349.heat_.a1_], [.f .f32 e349.heat_.a2_], [.f .f32 e349.heat_.a3_]], .sl 1 [[.f .f32 e351.heat_.a0_], [.f .f32 e351.heat_.a1_], [.f .f32 e351.heat_.a2_], [.f .f32 e351.heat_.a3_]]] = some (.b r359) := tells_eq inj61 (a := ([e349.heat_.a0_, e349.heat_.a1_, e349.heat_.a2_, e349.heat_.a3_], [e351.heat_.a0_, e351.heat_.a1_, e351.heat_.a2_, e351.heat_.a3_])) q360
                           have d372 : w361 = _ := (Option.some.inj q365).symm
                           first | (simp -implicitDefEqProofs [q366, d367, q368, d369, q370, c360, d372, pT30]; done) | simp -implicitDefEqProofs [q366, d367, q368, d369, q370, c360, d372]))
                 · first
                   | (simp [d367] at q368; done)
                   | (rw [if_neg (by rw [q368]; exact Bool.false_ne_true)] at q364
                      try simp only [d367] at q368
                      refine Exists.elim (bindQ q364) fun r356 e_ => ?_
                      have q357 := e_.1
                      replace q364 := e_.2
                      have c357 : F44 [.f .f32 e349.store_, .f .f32 e351.store_] = some (.b r356) := tells_eq inj44 (a := (e349.store_, e351.store_)) q357
                      have d373 : w358 = _ := (Option.some.inj q364).symm
                      refine Or.elim (Bool.eq_false_or_eq_true w358) (fun q374 => ?_) (fun q374 => ?_)
                      · first
                        | (simp [d367, d373] at q374; done)
                        | (rw [if_pos q374] at q365
                           try simp only [d367, d373] at q374
                           have d375 : w361 = _ := (Option.some.inj q365).symm
                           first | (simp -implicitDefEqProofs [q366, d367, q368, c357, d373, q374, d375, pT30]; done) | simp -implicitDefEqProofs [q366, d367, q368, c357, d373, q374, d375])
                      · first
                        | (simp [d367, d373] at q374; done)
                        | (rw [if_neg (by rw [q374]; exact Bool.false_ne_true)] at q365
                           try simp only [d367, d373] at q374
                           refine Exists.elim (bindQ q365) fun r359 e_ => ?_
                           have q360 := e_.1
                           replace q365 := e_.2
                           have c360 : F61 [.sl 1 [[.f .f32 e349.heat_.a0_], [.f .f32 e349.heat_.a1_], [.f .f32 e349.heat_.a2_], [.f .f32 e349.heat_.a3_]], .sl 1 [[.f .f32 e351.heat_.a0_], [.f .f32 e351.heat_.a1_], [.f .f32 e351.heat_.a2_], [.f .f32 e351.heat_.a3_]]] = some (.b r359) := tells_eq inj61 (a := ([e349.heat_.a0_, e349.heat_.a1_, e349.heat_.a2_, e349.heat_.a3_], [e351.heat_.a0_, e351.heat_.a1_, e351.heat_.a2_, e351.heat_.a3_])) q360
                           have d376 : w361 = _ := (Option.some.inj q365).symm
                           first | (simp -implicitDefEqProofs [q366, d367, q368, c357, d373, q374, c360, d376, pT30]; done) | simp -implicitDefEqProofs [q366, d367, q368, c357, d373, q374, c360, d376])))
            · first
              | (simp at q366; done)
              | (rw [if_neg (by rw [q366]; exact Bool.false_ne_true)] at q363
                 refine Exists.elim (bindQ q363) fun r353 e_ => ?_
                 have q354 := e_.1
                 replace q363 := e_.2
                 have c354 : F44 [.f .f32 e349.lead_, .f .f32 e351.lead_] = some (.b r353) := tells_eq inj44 (a := (e349.lead_, e351.lead_)) q354
                 have d377 : w355 = _ := (Option.some.inj q363).symm
                 refine Or.elim (Bool.eq_false_or_eq_true w355) (fun q378 => ?_) (fun q378 => ?_)
                 · first
                   | (simp [d377] at q378; done)
                   | (rw [if_pos q378] at q364
                      try simp only [d377] at q378
                      have d379 : w358 = _ := (Option.some.inj q364).symm
                      refine Or.elim (Bool.eq_false_or_eq_true w358) (fun q380 => ?_) (fun q380 => ?_)
                      · first
                        | (simp [d377, d379] at q380; done)
                        | (rw [if_pos q380] at q365
                           try simp only [d377, d379] at q380
                           have d381 : w361 = _ := (Option.some.inj q365).symm
                           first | (simp -implicitDefEqProofs [q366, c354, d377, q378, d379, q380, d381, pT30]; done) | simp -implicitDefEqProofs [q366, c354, d377, q378, d379, q380, d381])
                      · first
                        | (simp [d377, d379] at q380; done)
                        | (rw [if_neg (by rw [q380]; exact Bool.false_ne_true)] at q365
                           try simp only [d377, d379] at q380
                           refine Exists.elim (bindQ q365) fun r359 e_ => ?_
                           have q360 := e_.1
                           replace q365 := e_.2
                           have c360 : F61 [.sl 1 [[.f .f32 e349.heat_.a0_], [.f .f32 e349.heat_.a1_], [.f .f32 e349.heat_.a2_], [.f .f32 e349.heat_.a3_]], .sl 1 [[.f .f32 e351.heat_.a0_], [.f .f32 e351.heat_.a1_], [.f .f32 e351.heat_.a2_], [.f .f32 e351.heat_.a3_]]] = some (.b r359) := tells_eq inj61 (a := ([e349.heat_.a0_, e349.heat_.a1_, e349.heat_.a2_, e349.heat_.a3_], [e351.heat_.a0_, e351.heat_.a1_, e351.heat_.a2_, e351.heat_.a3_])) q360
                           have d382 : w361 = _ := (Option.some.inj q365).symm
                           first | (simp -implicitDefEqProofs [q366, c354, d377, q378, d379, q380, c360, d382, pT30]; done) | simp -implicitDefEqProofs [q366, c354, d377, q378, d379, q380, c360, d382]))
                 · first
                   | (simp [d377] at q378; done)
                   | (rw [if_neg (by rw [q378]; exact Bool.false_ne_true)] at q364
                      try simp only [d377] at q378
                      refine Exists.elim (bindQ q364) fun r356 e_ => ?_
                      have q357 := e_.1
                      replace q364 := e_.2
                      have c357 : F44 [.f .f32 e349.store_, .f .f32 e351.store_] = some (.b r356) := tells_eq inj44 (a := (e349.store_, e351.store_)) q357
                      have d383 : w358 = _ := (Option.some.inj q364).symm
                      refine Or.elim (Bool.eq_false_or_eq_true w358) (fun q384 => ?_) (fun q384 => ?_)
                      · first
                        | (simp [d377, d383] at q384; done)
                        | (rw [if_pos q384] at q365
                           try simp only [d377, d383] at q384
                           have d385 : w361 = _ := (Option.some.inj q365).symm
                           first | (simp -implicitDefEqProofs [q366, c354, d377, q378, c357, d383, q384, d385, pT30]; done) | simp -implicitDefEqProofs [q366, c354, d377, q378, c357, d383, q384, d385])
                      · first
                        | (simp [d377, d383] at q384; done)
                        | (rw [if_neg (by rw [q384]; exact Bool.false_ne_true)] at q365
                           try simp only [d377, d383] at q384
                           refine Exists.elim (bindQ q365) fun r359 e_ => ?_
                           have q360 := e_.1
                           replace q365 := e_.2
                           have c360 : F61 [.sl 1 [[.f .f32 e349.heat_.a0_], [.f .f32 e349.heat_.a1_], [.f .f32 e349.heat_.a2_], [.f .f32 e349.heat_.a3_]], .sl 1 [[.f .f32 e351.heat_.a0_], [.f .f32 e351.heat_.a1_], [.f .f32 e351.heat_.a2_], [.f .f32 e351.heat_.a3_]]] = some (.b r359) := tells_eq inj61 (a := ([e349.heat_.a0_, e349.heat_.a1_, e349.heat_.a2_, e349.heat_.a3_], [e351.heat_.a0_, e351.heat_.a1_, e351.heat_.a2_, e351.heat_.a3_])) q360
                           have d386 : w361 = _ := (Option.some.inj q365).symm
                           first | (simp -implicitDefEqProofs [q366, c354, d377, q378, c357, d383, q384, c360, d386, pT30]; done) | simp -implicitDefEqProofs [q366, c354, d377, q378, c357, d383, q384, c360, d386])))) ?_
        refine VW.condB (b := w361) (by simp) (fun g362 => ?_) (fun g362 => ?_)
        · replace h1 := iteT g362 h1
          refine VW.seq ?_
          refine VW.evalA (C := [(44, F44), (61, F61)]) (tm 201 [(4, .b false)]) [] [] ⟨.inl ok44, .inl ok61, trivial⟩ (by kernel_rfl) (by first | (simp -implicitDefEqProofs; done) | simp -implicitDefEqProofs [pT30]) ?_
          have e_ := leafR h1
          subst w_2
          obtain rfl := leafS h
          refine VW.ret (VRet.fin ?_)
          first | (simp [eB41]; done) | simp [eB41, pT30]
        · replace h1 := iteF g362 h1
          refine VW.skip ?_
          refine VW.evalA (C := [(44, F44), (61, F61)]) (tm 201 [(0, .cptr (pT30 f) 0), (1, .cptr (pT30 g) 0), (5, .i .i64 (aI .i64 i_347 1))]) [] [] ⟨.inl ok44, .inl ok61, trivial⟩ (by kernel_rfl) (by first | (simp -implicitDefEqProofs; done) | simp -implicitDefEqProofs [pT30]) ?_
          exact (show ∃ _, _ from ⟨aI .i64 i_347 1, leafL h1, (Ent.to 0 (by simp [fgt]) (by first | (simp; done) | simp [pT30]) (by simp) (by simp [bndT, bndV]) (by simp [bndM, bndV]))⟩)
      · replace h1 := iteF g348 h1
        refine VW.exit ?_
        have e_ := leafR h1
        subst w_2
        exact (show ∃ _, _ from ⟨(), h, (Ent.to 0 (by simp [fgt]) (by first | (simp; done) | simp [pT30]) (by simp) (by simp [bndT, bndV]) (by simp [bndM, bndV]))⟩)
    · rintro _ h
      replace h : (g41_j1 f g).bind _ = _ := h
      rw [g41_j1] at h
      refine VW.join (fun (v : Unit) => (⟨(tm 201 []), [], []⟩ : VS)) (fun v => (g41_j2).bind some = some r) ?_ ?_
      · refine VW.seq ?_
        refine VW.evalA (C := [(44, F44), (61, F61)]) (tm 201 [(0, .cptr (pT30 f) 0), (1, .cptr (pT30 g) 0), (8, .i .i64 0)]) [] [] ⟨.inl ok44, .inl ok61, trivial⟩ (by kernel_rfl) (by first | (simp -implicitDefEqProofs; done) | simp -implicitDefEqProofs [pT30]) ?_
        refine VW.block ?_
        obtain ⟨w_1, hw_1, h⟩ := bindE h
        refine VW.loopO (fun (x : Int) => (⟨(tm 201 [(0, .cptr (pT30 f) 0), (1, .cptr (pT30 g) 0), (8, .i .i64 x)]), [], []⟩ : VS)) hw_1 (Ent.to 0 (by simp [fgt]) (by first | (simp; done) | simp [pT30]) (by simp) (by simp [bndT, bndV]) (by simp [bndM, bndV])) ?_
        rintro n_1 i_244 h1
        rw [g41_L1] at h1
        refine VW.seq ?_
        refine VW.seq ?_
        refine VW.evalA (C := [(44, F44), (61, F61)]) (tm 201 [(0, .cptr (pT30 f) 0), (1, .cptr (pT30 g) 0), (8, .i .i64 i_244), (142, .b (ltI i_244 (f.panes_.length : Int)))]) [] [] ⟨.inl ok44, .inl ok61, trivial⟩ (by kernel_rfl) (by first | (simp -implicitDefEqProofs; done) | simp -implicitDefEqProofs [pT30]) ?_
        refine VW.condB (b := ltI i_244 (f.panes_.length : Int)) (by simp) (fun g245 => ?_) (fun g245 => ?_)
        · replace h1 := iteT g245 h1
          refine VW.skip ?_
          refine VW.seq ?_
          refine VW.block ?_
          refine VW.seq ?_
          obtain ⟨e246, q247, h1⟩ := bindE h1
          obtain ⟨f247a, f247b, f247c, f247d⟩ := idx_some q247
          refine VW.evalA (C := [(44, F44), (61, F61)]) (tm 201 [(0, .cptr (pT30 f) 0), (1, .cptr (pT30 g) 0), (8, .i .i64 i_244), (9, .cptr [.i .i64 e246.a_, .i .i64 e246.b_, .f .f32 e246.lead_, .f .f32 e246.sun_] 0)]) [] [] ⟨.inl ok44, .inl ok61, trivial⟩ (by kernel_rfl) (by first | (simp -implicitDefEqProofs [f247a, f247b, f247c, f247d]; done) | simp -implicitDefEqProofs [f247a, f247b, f247c, f247d, pT30]) ?_
          refine VW.seq ?_
          obtain ⟨e248, q249, h1⟩ := bindE h1
          obtain ⟨f249a, f249b, f249c, f249d⟩ := idx_some q249
          refine VW.evalA (C := [(44, F44), (61, F61)]) (tm 201 [(0, .cptr (pT30 f) 0), (1, .cptr (pT30 g) 0), (8, .i .i64 i_244), (9, .cptr [.i .i64 e246.a_, .i .i64 e246.b_, .f .f32 e246.lead_, .f .f32 e246.sun_] 0), (10, .cptr [.i .i64 e248.a_, .i .i64 e248.b_, .f .f32 e248.lead_, .f .f32 e248.sun_] 0)]) [] [] ⟨.inl ok44, .inl ok61, trivial⟩ (by kernel_rfl) (by first | (simp -implicitDefEqProofs [f249a, f249b, f249c, f249d]; done) | simp -implicitDefEqProofs [f249a, f249b, f249c, f249d, pT30]) ?_
          refine VW.seq ?_
          obtain ⟨w252, q257, h1⟩ := bindE h1
          obtain ⟨w255, q258, h1⟩ := bindE h1
          refine VW.evalDA (C := [(44, F44), (61, F61)]) (tm 201 [(0, .cptr (pT30 f) 0), (1, .cptr (pT30 g) 0), (8, .i .i64 i_244), (200, .b w255)]) [] [] ⟨.inl ok44, .inl ok61, trivial⟩ mixed (by kernel_rfl) (by
              refine Or.elim (Bool.eq_false_or_eq_true ((!eqI e246.a_ e248.a_) || (!eqI e246.b_ e248.b_))) (fun q259 => ?_) (fun q259 => ?_)
              · first
                | (simp at q259; done)
                | (rw [if_pos q259] at q257
                   have d260 : w252 = _ := (Option.some.inj q257).symm
                   refine Or.elim (Bool.eq_false_or_eq_true w252) (fun q261 => ?_) (fun q261 => ?_)
                   · first
                     | (simp [d260] at q261; done)
                     | (rw [if_pos q261] at q258
                        try simp only [d260] at q261
                        have d262 : w255 = _ := (Option.some.inj q258).symm
                        first | (simp -implicitDefEqProofs [q259, d260, q261, d262, pT30]; done) | simp -implicitDefEqProofs [q259, d260, q261, d262])
                   · first
                     | (simp [d260] at q261; done)
                     | (rw [if_neg (by rw [q261]; exact Bool.false_ne_true)] at q258
                        try simp only [d260] at q261
                        refine Exists.elim (bindQ q258) fun r253 e_ => ?_
                        have q254 := e_.1
                        replace q258 := e_.2
                        have c254 : F44 [.f .f32 e246.sun_, .f .f32 e248.sun_] = some (.b r253) := tells_eq inj44 (a := (e246.sun_, e248.sun_)) q254
                        have d263 : w255 = _ := (Option.some.inj q258).symm
                        first | (simp -implicitDefEqProofs [q259, d260, q261, c254, d263, pT30]; done) | simp -implicitDefEqProofs [q259, d260, q261, c254, d263]))
              · first
                | (simp at q259; done)
                | (rw [if_neg (by rw [q259]; exact Bool.false_ne_true)] at q257
                   refine Exists.elim (bindQ q257) fun r250 e_ => ?_
                   have q251 := e_.1
                   replace q257 := e_.2
                   have c251 : F44 [.f .f32 e246.lead_, .f .f32 e248.lead_] = some (.b r250) := tells_eq inj44 (a := (e246.lead_, e248.lead_)) q251
                   have d264 : w252 = _ := (Option.some.inj q257).symm
                   refine Or.elim (Bool.eq_false_or_eq_true w252) (fun q265 => ?_) (fun q265 => ?_)
                   · first
                     | (simp [d264] at q265; done)
                     | (rw [if_pos q265] at q258
                        try simp only [d264] at q265
                        have d266 : w255 = _ := (Option.some.inj q258).symm
                        first | (simp -implicitDefEqProofs [q259, c251, d264, q265, d266, pT30]; done) | simp -implicitDefEqProofs [q259, c251, d264, q265, d266])
                   · first
                     | (simp [d264] at q265; done)
                     | (rw [if_neg (by rw [q265]; exact Bool.false_ne_true)] at q258
                        try simp only [d264] at q265
                        refine Exists.elim (bindQ q258) fun r253 e_ => ?_
                        have q254 := e_.1
                        replace q258 := e_.2
                        have c254 : F44 [.f .f32 e246.sun_, .f .f32 e248.sun_] = some (.b r253) := tells_eq inj44 (a := (e246.sun_, e248.sun_)) q254
                        have d267 : w255 = _ := (Option.some.inj q258).symm
                        first | (simp -implicitDefEqProofs [q259, c251, d264, q265, c254, d267, pT30]; done) | simp -implicitDefEqProofs [q259, c251, d264, q265, c254, d267]))) ?_
          refine VW.condB (b := w255) (by simp) (fun g256 => ?_) (fun g256 => ?_)
          · replace h1 := iteT g256 h1
            refine VW.seq ?_
            refine VW.evalA (C := [(44, F44), (61, F61)]) (tm 201 [(4, .b false)]) [] [] ⟨.inl ok44, .inl ok61, trivial⟩ (by kernel_rfl) (by first | (simp -implicitDefEqProofs; done) | simp -implicitDefEqProofs [pT30]) ?_
            have e_ := leafR h1
            subst w_1
            obtain rfl := leafS h
            refine VW.ret (VRet.fin ?_)
            first | (simp [eB41]; done) | simp [eB41, pT30]
          · replace h1 := iteF g256 h1
            refine VW.skip ?_
            refine VW.evalA (C := [(44, F44), (61, F61)]) (tm 201 [(0, .cptr (pT30 f) 0), (1, .cptr (pT30 g) 0), (8, .i .i64 (aI .i64 i_244 1))]) [] [] ⟨.inl ok44, .inl ok61, trivial⟩ (by kernel_rfl) (by first | (simp -implicitDefEqProofs; done) | simp -implicitDefEqProofs [pT30]) ?_
            exact (show ∃ _, _ from ⟨aI .i64 i_244 1, leafL h1, (Ent.to 0 (by simp [fgt]) (by first | (simp; done) | simp [pT30]) (by simp) (by simp [bndT, bndV]) (by simp [bndM, bndV]))⟩)
        · replace h1 := iteF g245 h1
          refine VW.exit ?_
          have e_ := leafR h1
          subst w_1
          exact (show ∃ _, _ from ⟨(), h, (Ent.to 0 (by simp [fgt]) (by first | (simp; done) | simp [pT30]) (by simp) (by simp [bndT, bndV]) (by simp [bndM, bndV]))⟩)
      · rintro _ h
        replace h : (g41_j2).bind _ = _ := h
        rw [g41_j2] at h
        refine VW.seq ?_
        refine VW.evalA (C := [(44, F44), (61, F61)]) (tm 201 [(4, .b true)]) [] [] ⟨.inl ok44, .inl ok61, trivial⟩ (by kernel_rfl) (by first | (simp -implicitDefEqProofs; done) | simp -implicitDefEqProofs [pT30]) ?_
        obtain rfl := leafS h
        refine VW.ret (VRet.fin ?_)
        first | (simp [eB41]; done) | simp [eB41, pT30]
noncomputable def g42_j1 : Option (Bool) :=
  some true
noncomputable def g42_L1 (c : List T105) (d : List T105) : (Int) → Option ((Int) ⊕ ((Unit) ⊕ (Bool)))
  | i_210 =>
    if ltI i_210 (c.length : Int) = true then
      (idx c i_210).bind fun e212 =>
      (idx d i_210).bind fun e214 =>
      (g44 e212.burnt_ e214.burnt_).bind fun r216 =>
      (if (!r216) = true then some true else (g44 e212.steam_ e214.steam_).bind fun r218 => some (!r218)).bind fun w220 =>
      (if w220 = true then some true else (g44 e212.up_ e214.up_).bind fun r221 => some (!r221)).bind fun w223 =>
      (if w223 = true then some true else (g44 e212.lost_ e214.lost_).bind fun r224 => some (!r224)).bind fun w226 =>
      if (w226 || (!eqI e212.smoky_ e214.smoky_)) = true then
        some (.inr (.inr false))
      else
        some (.inl (aI .i64 i_210 1))
    else
      some (.inr (.inl ()))
noncomputable def g42 (c : List T105) (d : List T105) : Option (Bool) :=
  if (!eqI (c.length : Int) (d.length : Int)) = true then
    some false
  else
    (loopO (g42_L1 c d) 0).bind fun w => match w with
      | .inl y => g42_j1
      | .inr r => some r
def eA42 (a : (List T105) × (List T105)) : List V := [.sl 5 (rows cT105 a.1), .sl 5 (rows cT105 a.2)]
def eB42 (r : Bool) : V := .b r
theorem inj42 (a a' : (List T105) × (List T105)) (h : eA42 a = eA42 a') : a = a' := by
  obtain ⟨i273, i274⟩ := a
  obtain ⟨i275, i276⟩ := a'
  simp only [eA42, List.cons.injEq, V.i.injEq, V.b.injEq, V.f.injEq, V.str.injEq, V.sl.injEq, V.agg.injEq, V.cptr.injEq, true_and, and_true] at h
  simp_all [ri cT105_inj]
noncomputable def F42 : List V → Option V := tells (fun a => g42 a.1 a.2) eA42 eB42
set_option maxRecDepth 100000 in
set_option maxHeartbeats 4000000 in
/- loop.example/g01229/spec.l03Same -/
theorem ok42 : Tells Try.prog 42 F42 := by
  refine Tells.of (by kernel_rfl) ?_
  rintro ⟨c, d⟩ r h
  refine VCalls.nl (VCalls.of Try.func42 rfl rfl rfl ?_)
  rw [tm_init]
  simp only [eA42, en, List.length_cons, List.length_nil, Nat.reduceAdd, Nat.reduceSub]
  replace h : (g42 c d).bind some = some r := bindS h
  rw [g42] at h
  refine VW.seq ?_
  refine VW.evalA (C := [(44, F44)]) (tm 84 [(0, .sl 5 (rows cT105 c)), (1, .sl 5 (rows cT105 d))]) [] [] ⟨.inl ok44, trivial⟩ (by kernel_rfl) (by simp -implicitDefEqProofs) ?_
  refine VW.seq ?_
  refine VW.seq ?_
  refine VW.evalA (C := [(44, F44)]) (tm 84 [(0, .sl 5 (rows cT105 c)), (1, .sl 5 (rows cT105 d)), (10, .b (!eqI (c.length : Int) (d.length : Int)))]) [] [] ⟨.inl ok44, trivial⟩ (by kernel_rfl) (by simp -implicitDefEqProofs) ?_
  refine VW.condB (b := (!eqI (c.length : Int) (d.length : Int))) (by simp) (fun g1 => ?_) (fun g1 => ?_)
  · replace h := iteT g1 h
    refine VW.seq ?_
    refine VW.evalA (C := [(44, F44)]) (tm 84 [(4, .b false)]) [] [] ⟨.inl ok44, trivial⟩ (by kernel_rfl) (by simp -implicitDefEqProofs) ?_
    obtain rfl := leafS h
    refine VW.ret (VRet.fin ?_)
    simp [eB42]
  · replace h := iteF g1 h
    refine VW.skip ?_
    refine VW.join (fun (v : Unit) => (⟨(tm 84 []), [], []⟩ : VS)) (fun v => (g42_j1).bind some = some r) ?_ ?_
    · refine VW.seq ?_
      refine VW.evalA (C := [(44, F44)]) (tm 84 [(0, .sl 5 (rows cT105 c)), (1, .sl 5 (rows cT105 d)), (5, .i .i64 0)]) [] [] ⟨.inl ok44, trivial⟩ (by kernel_rfl) (by simp -implicitDefEqProofs) ?_
      refine VW.block ?_
      obtain ⟨w_1, hw_1, h⟩ := bindE h
      refine VW.loopO (fun (x : Int) => (⟨(tm 84 [(0, .sl 5 (rows cT105 c)), (1, .sl 5 (rows cT105 d)), (5, .i .i64 x)]), [], []⟩ : VS)) hw_1 (Ent.to 0 (by simp [fgt]) (by simp) (by simp) (by simp [bndT, bndV]) (by simp [bndM, bndV])) ?_
      rintro n_1 i_210 h1
      rw [g42_L1] at h1
      refine VW.seq ?_
      refine VW.seq ?_
      refine VW.evalA (C := [(44, F44)]) (tm 84 [(0, .sl 5 (rows cT105 c)), (1, .sl 5 (rows cT105 d)), (5, .i .i64 i_210), (14, .b (ltI i_210 (c.length : Int)))]) [] [] ⟨.inl ok44, trivial⟩ (by kernel_rfl) (by simp -implicitDefEqProofs) ?_
      refine VW.condB (b := ltI i_210 (c.length : Int)) (by simp) (fun g211 => ?_) (fun g211 => ?_)
      · replace h1 := iteT g211 h1
        refine VW.skip ?_
        refine VW.seq ?_
        refine VW.block ?_
        refine VW.seq ?_
        obtain ⟨e212, q213, h1⟩ := bindE h1
        obtain ⟨f213a, f213b, f213c, f213d⟩ := idx_some q213
        obtain ⟨e214, q215, h1⟩ := bindE h1
        obtain ⟨f215a, f215b, f215c, f215d⟩ := idx_some q215
        obtain ⟨r216, q217, h1⟩ := bindE h1
        have c217 : F44 [.f .f32 e212.burnt_, .f .f32 e214.burnt_] = some (.b r216) := tells_eq inj44 (a := (e212.burnt_, e214.burnt_)) q217
        obtain ⟨w220, q228, h1⟩ := bindE h1
        obtain ⟨w223, q229, h1⟩ := bindE h1
        obtain ⟨w226, q230, h1⟩ := bindE h1
        refine VW.evalDA (C := [(44, F44)]) (tm 84 [(0, .sl 5 (rows cT105 c)), (1, .sl 5 (rows cT105 d)), (5, .i .i64 i_210), (83, .b (w226 || (!eqI e212.smoky_ e214.smoky_)))]) [] [] ⟨.inl ok44, trivial⟩ mixed (by kernel_rfl) (by
            refine Or.elim (Bool.eq_false_or_eq_true (!r216)) (fun q231 => ?_) (fun q231 => ?_)
            · first
              | (simp at q231; done)
              | (rw [if_pos q231] at q228
                 have d232 : w220 = _ := (Option.some.inj q228).symm
                 refine Or.elim (Bool.eq_false_or_eq_true w220) (fun q233 => ?_) (fun q233 => ?_)
                 · first
                   | (simp [d232] at q233; done)
                   | (rw [if_pos q233] at q229
                      try simp only [d232] at q233
                      have d234 : w223 = _ := (Option.some.inj q229).symm
                      refine Or.elim (Bool.eq_false_or_eq_true w223) (fun q235 => ?_) (fun q235 => ?_)
                      · first
                        | (simp [d232, d234] at q235; done)
                        | (rw [if_pos q235] at q230
                           try simp only [d232, d234] at q235
                           have d236 : w226 = _ := (Option.some.inj q230).symm
                           simp -implicitDefEqProofs [f213a, f213b, f213c, f213d, f215a, f215b, f215c, f215d, c217, q231, d232, q233, d234, q235, d236])
                      · first
                        | (simp [d232, d234] at q235; done)
                        | (rw [if_neg (by rw [q235]; exact Bool.false_ne_true)] at q230
                           try simp only [d232, d234] at q235
                           refine Exists.elim (bindQ q230) fun r224 e_ => ?_
                           have q225 := e_.1
                           replace q230 := e_.2
                           have c225 : F44 [.f .f32 e212.lost_, .f .f32 e214.lost_] = some (.b r224) := tells_eq inj44 (a := (e212.lost_, e214.lost_)) q225
                           have d237 : w226 = _ := (Option.some.inj q230).symm
                           simp -implicitDefEqProofs [f213a, f213b, f213c, f213d, f215a, f215b, f215c, f215d, c217, q231, d232, q233, d234, q235, c225, d237]))
                 · first
                   | (simp [d232] at q233; done)
                   | (rw [if_neg (by rw [q233]; exact Bool.false_ne_true)] at q229
                      try simp only [d232] at q233
                      refine Exists.elim (bindQ q229) fun r221 e_ => ?_
                      have q222 := e_.1
                      replace q229 := e_.2
                      have c222 : F44 [.f .f32 e212.up_, .f .f32 e214.up_] = some (.b r221) := tells_eq inj44 (a := (e212.up_, e214.up_)) q222
                      have d238 : w223 = _ := (Option.some.inj q229).symm
                      refine Or.elim (Bool.eq_false_or_eq_true w223) (fun q239 => ?_) (fun q239 => ?_)
                      · first
                        | (simp [d232, d238] at q239; done)
                        | (rw [if_pos q239] at q230
                           try simp only [d232, d238] at q239
                           have d240 : w226 = _ := (Option.some.inj q230).symm
                           simp -implicitDefEqProofs [f213a, f213b, f213c, f213d, f215a, f215b, f215c, f215d, c217, q231, d232, q233, c222, d238, q239, d240])
                      · first
                        | (simp [d232, d238] at q239; done)
                        | (rw [if_neg (by rw [q239]; exact Bool.false_ne_true)] at q230
                           try simp only [d232, d238] at q239
                           refine Exists.elim (bindQ q230) fun r224 e_ => ?_
                           have q225 := e_.1
                           replace q230 := e_.2
                           have c225 : F44 [.f .f32 e212.lost_, .f .f32 e214.lost_] = some (.b r224) := tells_eq inj44 (a := (e212.lost_, e214.lost_)) q225
                           have d241 : w226 = _ := (Option.some.inj q230).symm
                           simp -implicitDefEqProofs [f213a, f213b, f213c, f213d, f215a, f215b, f215c, f215d, c217, q231, d232, q233, c222, d238, q239, c225, d241])))
            · first
              | (simp at q231; done)
              | (rw [if_neg (by rw [q231]; exact Bool.false_ne_true)] at q228
                 refine Exists.elim (bindQ q228) fun r218 e_ => ?_
                 have q219 := e_.1
                 replace q228 := e_.2
                 have c219 : F44 [.f .f32 e212.steam_, .f .f32 e214.steam_] = some (.b r218) := tells_eq inj44 (a := (e212.steam_, e214.steam_)) q219
                 have d242 : w220 = _ := (Option.some.inj q228).symm
                 refine Or.elim (Bool.eq_false_or_eq_true w220) (fun q243 => ?_) (fun q243 => ?_)
                 · first
                   | (simp [d242] at q243; done)
                   | (rw [if_pos q243] at q229
                      try simp only [d242] at q243
                      have d244 : w223 = _ := (Option.some.inj q229).symm
                      refine Or.elim (Bool.eq_false_or_eq_true w223) (fun q245 => ?_) (fun q245 => ?_)
                      · first
                        | (simp [d242, d244] at q245; done)
                        | (rw [if_pos q245] at q230
                           try simp only [d242, d244] at q245
                           have d246 : w226 = _ := (Option.some.inj q230).symm
                           simp -implicitDefEqProofs [f213a, f213b, f213c, f213d, f215a, f215b, f215c, f215d, c217, q231, c219, d242, q243, d244, q245, d246])
                      · first
                        | (simp [d242, d244] at q245; done)
                        | (rw [if_neg (by rw [q245]; exact Bool.false_ne_true)] at q230
                           try simp only [d242, d244] at q245
                           refine Exists.elim (bindQ q230) fun r224 e_ => ?_
                           have q225 := e_.1
                           replace q230 := e_.2
                           have c225 : F44 [.f .f32 e212.lost_, .f .f32 e214.lost_] = some (.b r224) := tells_eq inj44 (a := (e212.lost_, e214.lost_)) q225
                           have d247 : w226 = _ := (Option.some.inj q230).symm
                           simp -implicitDefEqProofs [f213a, f213b, f213c, f213d, f215a, f215b, f215c, f215d, c217, q231, c219, d242, q243, d244, q245, c225, d247]))
                 · first
                   | (simp [d242] at q243; done)
                   | (rw [if_neg (by rw [q243]; exact Bool.false_ne_true)] at q229
                      try simp only [d242] at q243
                      refine Exists.elim (bindQ q229) fun r221 e_ => ?_
                      have q222 := e_.1
                      replace q229 := e_.2
                      have c222 : F44 [.f .f32 e212.up_, .f .f32 e214.up_] = some (.b r221) := tells_eq inj44 (a := (e212.up_, e214.up_)) q222
                      have d248 : w223 = _ := (Option.some.inj q229).symm
                      refine Or.elim (Bool.eq_false_or_eq_true w223) (fun q249 => ?_) (fun q249 => ?_)
                      · first
                        | (simp [d242, d248] at q249; done)
                        | (rw [if_pos q249] at q230
                           try simp only [d242, d248] at q249
                           have d250 : w226 = _ := (Option.some.inj q230).symm
                           simp -implicitDefEqProofs [f213a, f213b, f213c, f213d, f215a, f215b, f215c, f215d, c217, q231, c219, d242, q243, c222, d248, q249, d250])
                      · first
                        | (simp [d242, d248] at q249; done)
                        | (rw [if_neg (by rw [q249]; exact Bool.false_ne_true)] at q230
                           try simp only [d242, d248] at q249
                           refine Exists.elim (bindQ q230) fun r224 e_ => ?_
                           have q225 := e_.1
                           replace q230 := e_.2
                           have c225 : F44 [.f .f32 e212.lost_, .f .f32 e214.lost_] = some (.b r224) := tells_eq inj44 (a := (e212.lost_, e214.lost_)) q225
                           have d251 : w226 = _ := (Option.some.inj q230).symm
                           simp -implicitDefEqProofs [f213a, f213b, f213c, f213d, f215a, f215b, f215c, f215d, c217, q231, c219, d242, q243, c222, d248, q249, c225, d251])))) ?_
        refine VW.condB (b := (w226 || (!eqI e212.smoky_ e214.smoky_))) (by simp) (fun g227 => ?_) (fun g227 => ?_)
        · replace h1 := iteT g227 h1
          refine VW.seq ?_
          refine VW.evalA (C := [(44, F44)]) (tm 84 [(4, .b false)]) [] [] ⟨.inl ok44, trivial⟩ (by kernel_rfl) (by simp -implicitDefEqProofs) ?_
          have e_ := leafR h1
          subst w_1
          obtain rfl := leafS h
          refine VW.ret (VRet.fin ?_)
          simp [eB42]
        · replace h1 := iteF g227 h1
          refine VW.skip ?_
          refine VW.evalA (C := [(44, F44)]) (tm 84 [(0, .sl 5 (rows cT105 c)), (1, .sl 5 (rows cT105 d)), (5, .i .i64 (aI .i64 i_210 1))]) [] [] ⟨.inl ok44, trivial⟩ (by kernel_rfl) (by simp -implicitDefEqProofs) ?_
          exact (show ∃ _, _ from ⟨aI .i64 i_210 1, leafL h1, (Ent.to 0 (by simp [fgt]) (by simp) (by simp) (by simp [bndT, bndV]) (by simp [bndM, bndV]))⟩)
      · replace h1 := iteF g211 h1
        refine VW.exit ?_
        have e_ := leafR h1
        subst w_1
        exact (show ∃ _, _ from ⟨(), h, (Ent.to 0 (by simp [fgt]) (by simp) (by simp) (by simp [bndT, bndV]) (by simp [bndM, bndV]))⟩)
    · rintro _ h
      replace h : (g42_j1).bind _ = _ := h
      rw [g42_j1] at h
      refine VW.seq ?_
      refine VW.evalA (C := [(44, F44)]) (tm 84 [(4, .b true)]) [] [] ⟨.inl ok44, trivial⟩ (by kernel_rfl) (by simp -implicitDefEqProofs) ?_
      obtain rfl := leafS h
      refine VW.ret (VRet.fin ?_)
      simp [eB42]
noncomputable def g76_j1 : Option (Bool) :=
  some true
noncomputable def g76 (a : T114) (b : T114) : Option (Bool) :=
  (g44 a.a0_ b.a0_).bind fun r19 =>
  if (!r19) = true then
    some false
  else
    (g44 a.a1_ b.a1_).bind fun r22 =>
    if (!r22) = true then
      some false
    else
      (g44 a.a2_ b.a2_).bind fun r25 =>
      if (!r25) = true then
        some false
      else
        (g44 a.a3_ b.a3_).bind fun r28 =>
        if (!r28) = true then
          some false
        else
          (g44 a.a4_ b.a4_).bind fun r31 =>
          if (!r31) = true then
            some false
          else
            (g44 a.a5_ b.a5_).bind fun r34 =>
            if (!r34) = true then
              some false
            else
              g76_j1
def eA76 (a : T114 × T114) : List V := [.agg (pT114 a.1), .agg (pT114 a.2)]
def eB76 (r : Bool) : V := .b r
theorem inj76 (a a' : T114 × T114) (h : eA76 a = eA76 a') : a = a' := by
  obtain ⟨⟨i289, i290, i291, i292, i293, i294⟩, ⟨i295, i296, i297, i298, i299, i300⟩⟩ := a
  obtain ⟨⟨i301, i302, i303, i304, i305, i306⟩, ⟨i307, i308, i309, i310, i311, i312⟩⟩ := a'
  simp only [eA76, pT114, List.cons.injEq, V.i.injEq, V.b.injEq, V.f.injEq, V.str.injEq, V.sl.injEq, V.agg.injEq, V.cptr.injEq, true_and, and_true] at h
  simp_all
noncomputable def F76 : List V → Option V := tells (fun a => g76 a.1 a.2) eA76 eB76
set_option maxRecDepth 100000 in
set_option maxHeartbeats 4000000 in
/- loop.example/g01229/spec.l01SameRow -/
theorem ok76 : Tells Try.prog 76 F76 := by
  refine Tells.of (by kernel_rfl) ?_
  rintro ⟨a, b⟩ r h
  refine VCalls.nl (VCalls.of Try.func76 rfl rfl rfl ?_)
  rw [tm_init]
  simp only [eA76, en, List.length_cons, List.length_nil, Nat.reduceAdd, Nat.reduceSub]
  replace h : (g76 a b).bind some = some r := bindS h
  rw [g76] at h
  refine VW.seq ?_
  refine VW.evalA (C := [(44, F44)]) (tm 18 [(2, .ptr 0 0 0), (3, .ptr 1 0 0)]) [some (6, [(pT114 a)]), some (6, [(pT114 b)])] [] ⟨.inl ok44, trivial⟩ (by kernel_rfl) (by first | (simp -implicitDefEqProofs; done) | simp -implicitDefEqProofs [pT114]) ?_
  refine VW.join (fun (v : Unit) => (⟨(tm 18 []), [some (6, [(pT114 a)]), some (6, [(pT114 b)])], []⟩ : VS)) (fun v => (g76_j1).bind some = some r) ?_ ?_
  · refine VW.seq ?_
    refine VW.evalA (C := [(44, F44)]) (tm 18 [(2, .ptr 0 0 0), (3, .ptr 1 0 0), (5, .i .i64 0)]) [some (6, [(pT114 a)]), some (6, [(pT114 b)])] [] ⟨.inl ok44, trivial⟩ (by kernel_rfl) (by first | (simp -implicitDefEqProofs; done) | simp -implicitDefEqProofs [pT114]) ?_
    refine VW.block ?_
    refine VW.rounds 8 ?_
    refine VRounds.step ?_
    refine VW.seq ?_
    refine VW.seq ?_
    refine VW.evalA (C := [(44, F44)]) (tm 18 [(2, .ptr 0 0 0), (3, .ptr 1 0 0), (5, .i .i64 0), (7, .b true)]) [some (6, [(pT114 a)]), some (6, [(pT114 b)])] [] ⟨.inl ok44, trivial⟩ (by kernel_rfl) (by first | (simp -implicitDefEqProofs [(by decide : ltI 0 6 = true)]; done) | simp -implicitDefEqProofs [(by decide : ltI 0 6 = true), pT114]) ?_
    refine VW.condT (by simp) ?_
    refine VW.skip ?_
    refine VW.seq ?_
    refine VW.block ?_
    refine VW.seq ?_
    obtain ⟨r19, q20, h⟩ := bindE h
    have c20 : F44 [.f .f32 a.a0_, .f .f32 b.a0_] = some (.b r19) := tells_eq inj44 (a := (a.a0_, b.a0_)) q20
    refine VW.evalDA (C := [(44, F44)]) (tm 18 [(2, .ptr 0 0 0), (3, .ptr 1 0 0), (5, .i .i64 0), (17, .b (!r19))]) [some (6, [(pT114 a)]), some (6, [(pT114 b)])] [] ⟨.inl ok44, trivial⟩ mixed (by kernel_rfl) (by first | (simp -implicitDefEqProofs [c20]; done) | simp -implicitDefEqProofs [c20, pT114]) ?_
    refine VW.condB (b := (!r19)) (by simp) (fun g21 => ?_) (fun g21 => ?_)
    · replace h := iteT g21 h
      refine VW.seq ?_
      refine VW.evalA (C := [(44, F44)]) (tm 18 [(4, .b false)]) [some (6, [(pT114 a)]), some (6, [(pT114 b)])] [] ⟨.inl ok44, trivial⟩ (by kernel_rfl) (by first | (simp -implicitDefEqProofs; done) | simp -implicitDefEqProofs [pT114]) ?_
      obtain rfl := leafS h
      refine VW.ret (VRet.fin ?_)
      first | (simp [eB76]; done) | simp [eB76, pT114]
    · replace h := iteF g21 h
      refine VW.skip ?_
      refine VW.evalA (C := [(44, F44)]) (tm 18 [(2, .ptr 0 0 0), (3, .ptr 1 0 0), (5, .i .i64 1)]) [some (6, [(pT114 a)]), some (6, [(pT114 b)])] [] ⟨.inl ok44, trivial⟩ (by kernel_rfl) (by first | (simp -implicitDefEqProofs [(by decide : aI .i64 0 1 = 1)]; done) | simp -implicitDefEqProofs [(by decide : aI .i64 0 1 = 1), pT114]) ?_
      refine VRounds.step ?_
      refine VW.seq ?_
      refine VW.seq ?_
      refine VW.evalA (C := [(44, F44)]) (tm 18 [(2, .ptr 0 0 0), (3, .ptr 1 0 0), (5, .i .i64 1), (7, .b true)]) [some (6, [(pT114 a)]), some (6, [(pT114 b)])] [] ⟨.inl ok44, trivial⟩ (by kernel_rfl) (by first | (simp -implicitDefEqProofs [(by decide : ltI 1 6 = true)]; done) | simp -implicitDefEqProofs [(by decide : ltI 1 6 = true), pT114]) ?_
      refine VW.condT (by simp) ?_
      refine VW.skip ?_
      refine VW.seq ?_
      refine VW.block ?_
      refine VW.seq ?_
      obtain ⟨r22, q23, h⟩ := bindE h
      have c23 : F44 [.f .f32 a.a1_, .f .f32 b.a1_] = some (.b r22) := tells_eq inj44 (a := (a.a1_, b.a1_)) q23
      refine VW.evalDA (C := [(44, F44)]) (tm 18 [(2, .ptr 0 0 0), (3, .ptr 1 0 0), (5, .i .i64 1), (17, .b (!r22))]) [some (6, [(pT114 a)]), some (6, [(pT114 b)])] [] ⟨.inl ok44, trivial⟩ mixed (by kernel_rfl) (by first | (simp -implicitDefEqProofs [c23]; done) | simp -implicitDefEqProofs [c23, pT114]) ?_
      refine VW.condB (b := (!r22)) (by simp) (fun g24 => ?_) (fun g24 => ?_)
      · replace h := iteT g24 h
        refine VW.seq ?_
        refine VW.evalA (C := [(44, F44)]) (tm 18 [(4, .b false)]) [some (6, [(pT114 a)]), some (6, [(pT114 b)])] [] ⟨.inl ok44, trivial⟩ (by kernel_rfl) (by first | (simp -implicitDefEqProofs; done) | simp -implicitDefEqProofs [pT114]) ?_
        obtain rfl := leafS h
        refine VW.ret (VRet.fin ?_)
        first | (simp [eB76]; done) | simp [eB76, pT114]
      · replace h := iteF g24 h
        refine VW.skip ?_
        refine VW.evalA (C := [(44, F44)]) (tm 18 [(2, .ptr 0 0 0), (3, .ptr 1 0 0), (5, .i .i64 2)]) [some (6, [(pT114 a)]), some (6, [(pT114 b)])] [] ⟨.inl ok44, trivial⟩ (by kernel_rfl) (by first | (simp -implicitDefEqProofs [(by decide : aI .i64 1 1 = 2)]; done) | simp -implicitDefEqProofs [(by decide : aI .i64 1 1 = 2), pT114]) ?_
        refine VRounds.step ?_
        refine VW.seq ?_
        refine VW.seq ?_
        refine VW.evalA (C := [(44, F44)]) (tm 18 [(2, .ptr 0 0 0), (3, .ptr 1 0 0), (5, .i .i64 2), (7, .b true)]) [some (6, [(pT114 a)]), some (6, [(pT114 b)])] [] ⟨.inl ok44, trivial⟩ (by kernel_rfl) (by first | (simp -implicitDefEqProofs [(by decide : ltI 2 6 = true)]; done) | simp -implicitDefEqProofs [(by decide : ltI 2 6 = true), pT114]) ?_
        refine VW.condT (by simp) ?_
        refine VW.skip ?_
        refine VW.seq ?_
        refine VW.block ?_
        refine VW.seq ?_
        obtain ⟨r25, q26, h⟩ := bindE h
        have c26 : F44 [.f .f32 a.a2_, .f .f32 b.a2_] = some (.b r25) := tells_eq inj44 (a := (a.a2_, b.a2_)) q26
        refine VW.evalDA (C := [(44, F44)]) (tm 18 [(2, .ptr 0 0 0), (3, .ptr 1 0 0), (5, .i .i64 2), (17, .b (!r25))]) [some (6, [(pT114 a)]), some (6, [(pT114 b)])] [] ⟨.inl ok44, trivial⟩ mixed (by kernel_rfl) (by first | (simp -implicitDefEqProofs [c26]; done) | simp -implicitDefEqProofs [c26, pT114]) ?_
        refine VW.condB (b := (!r25)) (by simp) (fun g27 => ?_) (fun g27 => ?_)
        · replace h := iteT g27 h
          refine VW.seq ?_
          refine VW.evalA (C := [(44, F44)]) (tm 18 [(4, .b false)]) [some (6, [(pT114 a)]), some (6, [(pT114 b)])] [] ⟨.inl ok44, trivial⟩ (by kernel_rfl) (by first | (simp -implicitDefEqProofs; done) | simp -implicitDefEqProofs [pT114]) ?_
          obtain rfl := leafS h
          refine VW.ret (VRet.fin ?_)
          first | (simp [eB76]; done) | simp [eB76, pT114]
        · replace h := iteF g27 h
          refine VW.skip ?_
          refine VW.evalA (C := [(44, F44)]) (tm 18 [(2, .ptr 0 0 0), (3, .ptr 1 0 0), (5, .i .i64 3)]) [some (6, [(pT114 a)]), some (6, [(pT114 b)])] [] ⟨.inl ok44, trivial⟩ (by kernel_rfl) (by first | (simp -implicitDefEqProofs [(by decide : aI .i64 2 1 = 3)]; done) | simp -implicitDefEqProofs [(by decide : aI .i64 2 1 = 3), pT114]) ?_
          refine VRounds.step ?_
          refine VW.seq ?_
          refine VW.seq ?_
          refine VW.evalA (C := [(44, F44)]) (tm 18 [(2, .ptr 0 0 0), (3, .ptr 1 0 0), (5, .i .i64 3), (7, .b true)]) [some (6, [(pT114 a)]), some (6, [(pT114 b)])] [] ⟨.inl ok44, trivial⟩ (by kernel_rfl) (by first | (simp -implicitDefEqProofs [(by decide : ltI 3 6 = true)]; done) | simp -implicitDefEqProofs [(by decide : ltI 3 6 = true), pT114]) ?_
          refine VW.condT (by simp) ?_
          refine VW.skip ?_
          refine VW.seq ?_
          refine VW.block ?_
          refine VW.seq ?_
          obtain ⟨r28, q29, h⟩ := bindE h
          have c29 : F44 [.f .f32 a.a3_, .f .f32 b.a3_] = some (.b r28) := tells_eq inj44 (a := (a.a3_, b.a3_)) q29
          refine VW.evalDA (C := [(44, F44)]) (tm 18 [(2, .ptr 0 0 0), (3, .ptr 1 0 0), (5, .i .i64 3), (17, .b (!r28))]) [some (6, [(pT114 a)]), some (6, [(pT114 b)])] [] ⟨.inl ok44, trivial⟩ mixed (by kernel_rfl) (by first | (simp -implicitDefEqProofs [c29]; done) | simp -implicitDefEqProofs [c29, pT114]) ?_
          refine VW.condB (b := (!r28)) (by simp) (fun g30 => ?_) (fun g30 => ?_)
          · replace h := iteT g30 h
            refine VW.seq ?_
            refine VW.evalA (C := [(44, F44)]) (tm 18 [(4, .b false)]) [some (6, [(pT114 a)]), some (6, [(pT114 b)])] [] ⟨.inl ok44, trivial⟩ (by kernel_rfl) (by first | (simp -implicitDefEqProofs; done) | simp -implicitDefEqProofs [pT114]) ?_
            obtain rfl := leafS h
            refine VW.ret (VRet.fin ?_)
            first | (simp [eB76]; done) | simp [eB76, pT114]
          · replace h := iteF g30 h
            refine VW.skip ?_
            refine VW.evalA (C := [(44, F44)]) (tm 18 [(2, .ptr 0 0 0), (3, .ptr 1 0 0), (5, .i .i64 4)]) [some (6, [(pT114 a)]), some (6, [(pT114 b)])] [] ⟨.inl ok44, trivial⟩ (by kernel_rfl) (by first | (simp -implicitDefEqProofs [(by decide : aI .i64 3 1 = 4)]; done) | simp -implicitDefEqProofs [(by decide : aI .i64 3 1 = 4), pT114]) ?_
            refine VRounds.step ?_
            refine VW.seq ?_
            refine VW.seq ?_
            refine VW.evalA (C := [(44, F44)]) (tm 18 [(2, .ptr 0 0 0), (3, .ptr 1 0 0), (5, .i .i64 4), (7, .b true)]) [some (6, [(pT114 a)]), some (6, [(pT114 b)])] [] ⟨.inl ok44, trivial⟩ (by kernel_rfl) (by first | (simp -implicitDefEqProofs [(by decide : ltI 4 6 = true)]; done) | simp -implicitDefEqProofs [(by decide : ltI 4 6 = true), pT114]) ?_
            refine VW.condT (by simp) ?_
            refine VW.skip ?_
            refine VW.seq ?_
            refine VW.block ?_
            refine VW.seq ?_
            obtain ⟨r31, q32, h⟩ := bindE h
            have c32 : F44 [.f .f32 a.a4_, .f .f32 b.a4_] = some (.b r31) := tells_eq inj44 (a := (a.a4_, b.a4_)) q32
            refine VW.evalDA (C := [(44, F44)]) (tm 18 [(2, .ptr 0 0 0), (3, .ptr 1 0 0), (5, .i .i64 4), (17, .b (!r31))]) [some (6, [(pT114 a)]), some (6, [(pT114 b)])] [] ⟨.inl ok44, trivial⟩ mixed (by kernel_rfl) (by first | (simp -implicitDefEqProofs [c32]; done) | simp -implicitDefEqProofs [c32, pT114]) ?_
            refine VW.condB (b := (!r31)) (by simp) (fun g33 => ?_) (fun g33 => ?_)
            · replace h := iteT g33 h
              refine VW.seq ?_
              refine VW.evalA (C := [(44, F44)]) (tm 18 [(4, .b false)]) [some (6, [(pT114 a)]), some (6, [(pT114 b)])] [] ⟨.inl ok44, trivial⟩ (by kernel_rfl) (by first | (simp -implicitDefEqProofs; done) | simp -implicitDefEqProofs [pT114]) ?_
              obtain rfl := leafS h
              refine VW.ret (VRet.fin ?_)
              first | (simp [eB76]; done) | simp [eB76, pT114]
            · replace h := iteF g33 h
              refine VW.skip ?_
              refine VW.evalA (C := [(44, F44)]) (tm 18 [(2, .ptr 0 0 0), (3, .ptr 1 0 0), (5, .i .i64 5)]) [some (6, [(pT114 a)]), some (6, [(pT114 b)])] [] ⟨.inl ok44, trivial⟩ (by kernel_rfl) (by first | (simp -implicitDefEqProofs [(by decide : aI .i64 4 1 = 5)]; done) | simp -implicitDefEqProofs [(by decide : aI .i64 4 1 = 5), pT114]) ?_
              refine VRounds.step ?_
              refine VW.seq ?_
              refine VW.seq ?_
              refine VW.evalA (C := [(44, F44)]) (tm 18 [(2, .ptr 0 0 0), (3, .ptr 1 0 0), (5, .i .i64 5), (7, .b true)]) [some (6, [(pT114 a)]), some (6, [(pT114 b)])] [] ⟨.inl ok44, trivial⟩ (by kernel_rfl) (by first | (simp -implicitDefEqProofs [(by decide : ltI 5 6 = true)]; done) | simp -implicitDefEqProofs [(by decide : ltI 5 6 = true), pT114]) ?_
              refine VW.condT (by simp) ?_
              refine VW.skip ?_
              refine VW.seq ?_
              refine VW.block ?_
              refine VW.seq ?_
              obtain ⟨r34, q35, h⟩ := bindE h
              have c35 : F44 [.f .f32 a.a5_, .f .f32 b.a5_] = some (.b r34) := tells_eq inj44 (a := (a.a5_, b.a5_)) q35
              refine VW.evalDA (C := [(44, F44)]) (tm 18 [(2, .ptr 0 0 0), (3, .ptr 1 0 0), (5, .i .i64 5), (17, .b (!r34))]) [some (6, [(pT114 a)]), some (6, [(pT114 b)])] [] ⟨.inl ok44, trivial⟩ mixed (by kernel_rfl) (by first | (simp -implicitDefEqProofs [c35]; done) | simp -implicitDefEqProofs [c35, pT114]) ?_
              refine VW.condB (b := (!r34)) (by simp) (fun g36 => ?_) (fun g36 => ?_)
              · replace h := iteT g36 h
                refine VW.seq ?_
                refine VW.evalA (C := [(44, F44)]) (tm 18 [(4, .b false)]) [some (6, [(pT114 a)]), some (6, [(pT114 b)])] [] ⟨.inl ok44, trivial⟩ (by kernel_rfl) (by first | (simp -implicitDefEqProofs; done) | simp -implicitDefEqProofs [pT114]) ?_
                obtain rfl := leafS h
                refine VW.ret (VRet.fin ?_)
                first | (simp [eB76]; done) | simp [eB76, pT114]
              · replace h := iteF g36 h
                refine VW.skip ?_
                refine VW.evalA (C := [(44, F44)]) (tm 18 [(2, .ptr 0 0 0), (3, .ptr 1 0 0), (5, .i .i64 6)]) [some (6, [(pT114 a)]), some (6, [(pT114 b)])] [] ⟨.inl ok44, trivial⟩ (by kernel_rfl) (by first | (simp -implicitDefEqProofs [(by decide : aI .i64 5 1 = 6)]; done) | simp -implicitDefEqProofs [(by decide : aI .i64 5 1 = 6), pT114]) ?_
                refine VRounds.step ?_
                refine VW.seq ?_
                refine VW.seq ?_
                refine VW.evalA (C := [(44, F44)]) (tm 18 [(2, .ptr 0 0 0), (3, .ptr 1 0 0), (5, .i .i64 6), (7, .b false)]) [some (6, [(pT114 a)]), some (6, [(pT114 b)])] [] ⟨.inl ok44, trivial⟩ (by kernel_rfl) (by first | (simp -implicitDefEqProofs [(by decide : ltI 6 6 = false)]; done) | simp -implicitDefEqProofs [(by decide : ltI 6 6 = false), pT114]) ?_
                refine VW.condF (by simp) ?_
                refine VW.exit ?_
                exact (show ∃ _, _ from ⟨(), h, (Ent.to 2 (by simp [fgt]) (by first | (simp; done) | simp [pT114]) (by simp) (by simp [bndT, bndV]) (by simp [bndM, bndV]))⟩)
  · rintro _ h
    replace h : (g76_j1).bind _ = _ := h
    rw [g76_j1] at h
    refine VW.seq ?_
    refine VW.evalA (C := [(44, F44)]) (tm 18 [(4, .b true)]) [some (6, [(pT114 a)]), some (6, [(pT114 b)])] [] ⟨.inl ok44, trivial⟩ (by kernel_rfl) (by first | (simp -implicitDefEqProofs; done) | simp -implicitDefEqProofs [pT114]) ?_
    obtain rfl := leafS h
    refine VW.ret (VRet.fin ?_)
    first | (simp [eB76]; done) | simp [eB76, pT114]
noncomputable def g71 (w_ : T147) (v_ : T147) : Option (Bool) :=
  (g76 w_.wet_ v_.wet_).bind fun r1 =>
  (if r1 = true then (g76 w_.heat_ v_.heat_).bind fun r3 => some r3 else some false).bind fun w5 =>
  (if w5 = true then (g76 w_.fuel_ v_.fuel_).bind fun r6 => some r6 else some false).bind fun w8 =>
  some w8
def eA71 (a : T147 × T147) : List V := [.cptr (pT147 a.1) 0, .cptr (pT147 a.2) 0]
def eB71 (r : Bool) : V := .b r
theorem inj71 (a a' : T147 × T147) (h : eA71 a = eA71 a') : a = a' := by
  obtain ⟨⟨⟨i313, i314, i315, i316, i317, i318⟩, ⟨i319, i320, i321, i322, i323, i324⟩, ⟨i325, i326, i327, i328, i329, i330⟩⟩, ⟨⟨i331, i332, i333, i334, i335, i336⟩, ⟨i337, i338, i339, i340, i341, i342⟩, ⟨i343, i344, i345, i346, i347, i348⟩⟩⟩ := a
  obtain ⟨⟨⟨i349, i350, i351, i352, i353, i354⟩, ⟨i355, i356, i357, i358, i359, i360⟩, ⟨i361, i362, i363, i364, i365, i366⟩⟩, ⟨⟨i367, i368, i369, i370, i371, i372⟩, ⟨i373, i374, i375, i376, i377, i378⟩, ⟨i379, i380, i381, i382, i383, i384⟩⟩⟩ := a'
  simp only [eA71, pT147, List.cons.injEq, V.i.injEq, V.b.injEq, V.f.injEq, V.str.injEq, V.sl.injEq, V.agg.injEq, V.cptr.injEq, true_and, and_true] at h
  simp_all
noncomputable def F71 : List V → Option V := tells (fun a => g71 a.1 a.2) eA71 eB71
set_option maxRecDepth 100000 in
set_option maxHeartbeats 4000000 in
/- loop.example/g01229/spec.l01SameWood -/
theorem ok71 : Tells Try.prog 71 F71 := by
  refine Tells.of (by kernel_rfl) ?_
  rintro ⟨w_, v_⟩ r h
  refine VCalls.nl (VCalls.of Try.func71 rfl rfl rfl ?_)
  rw [tm_init]
  simp only [eA71, en, List.length_cons, List.length_nil, Nat.reduceAdd, Nat.reduceSub]
  replace h : (g71 w_ v_).bind some = some r := bindS h
  rw [g71] at h
  refine VW.seq ?_
  refine VW.evalA (C := [(76, F76)]) (tm 36 [(0, .cptr (pT147 w_) 0), (1, .cptr (pT147 v_) 0)]) [] [] ⟨.inl ok76, trivial⟩ (by kernel_rfl) (by first | (simp -implicitDefEqProofs; done) | simp -implicitDefEqProofs [pT147]) ?_
  refine VW.seq ?_
  obtain ⟨r1, q2, h⟩ := bindE h
  have c2 : F76 [.agg [.f .f32 w_.wet_.a0_, .f .f32 w_.wet_.a1_, .f .f32 w_.wet_.a2_, .f .f32 w_.wet_.a3_, .f .f32 w_.wet_.a4_, .f .f32 w_.wet_.a5_], .agg [.f .f32 v_.wet_.a0_, .f .f32 v_.wet_.a1_, .f .f32 v_.wet_.a2_, .f .f32 v_.wet_.a3_, .f .f32 v_.wet_.a4_, .f .f32 v_.wet_.a5_]] = some (.b r1) := tells_eq inj76 (a := (w_.wet_, v_.wet_)) q2
  obtain ⟨w5, q9, h⟩ := bindE h
  obtain ⟨w8, q10, h⟩ := bindE h
  refine VW.evalDA (C := [(76, F76)]) (tm 36 [(4, .b w8)]) [] [] ⟨.inl ok76, trivial⟩ mixed (by kernel_rfl) (by
      refine Or.elim (Bool.eq_false_or_eq_true r1) (fun q11 => ?_) (fun q11 => ?_)
      · first
        | (simp at q11; done)
        | (rw [if_pos q11] at q9
           refine Exists.elim (bindQ q9) fun r3 e_ => ?_
           have q4 := e_.1
           replace q9 := e_.2
           have c4 : F76 [.agg [.f .f32 w_.heat_.a0_, .f .f32 w_.heat_.a1_, .f .f32 w_.heat_.a2_, .f .f32 w_.heat_.a3_, .f .f32 w_.heat_.a4_, .f .f32 w_.heat_.a5_], .agg [.f .f32 v_.heat_.a0_, .f .f32 v_.heat_.a1_, .f .f32 v_.heat_.a2_, .f .f32 v_.heat_.a3_, .f .f32 v_.heat_.a4_, .f .f32 v_.heat_.a5_]] = some (.b r3) := tells_eq inj76 (a := (w_.heat_, v_.heat_)) q4
           have d12 : w5 = _ := (Option.some.inj q9).symm
           refine Or.elim (Bool.eq_false_or_eq_true w5) (fun q13 => ?_) (fun q13 => ?_)
           · first
             | (simp [d12] at q13; done)
             | (rw [if_pos q13] at q10
                try simp only [d12] at q13
                refine Exists.elim (bindQ q10) fun r6 e_ => ?_
                have q7 := e_.1
                replace q10 := e_.2
                have c7 : F76 [.agg [.f .f32 w_.fuel_.a0_, .f .f32 w_.fuel_.a1_, .f .f32 w_.fuel_.a2_, .f .f32 w_.fuel_.a3_, .f .f32 w_.fuel_.a4_, .f .f32 w_.fuel_.a5_], .agg [.f .f32 v_.fuel_.a0_, .f .f32 v_.fuel_.a1_, .f .f32 v_.fuel_.a2_, .f .f32 v_.fuel_.a3_, .f .f32 v_.fuel_.a4_, .f .f32 v_.fuel_.a5_]] = some (.b r6) := tells_eq inj76 (a := (w_.fuel_, v_.fuel_)) q7
                have d14 : w8 = _ := (Option.some.inj q10).symm
                first | (simp -implicitDefEqProofs [c2, q11, c4, d12, q13, c7, d14, pT147]; done) | simp -implicitDefEqProofs [c2, q11, c4, d12, q13, c7, d14])
           · first
             | (simp [d12] at q13; done)
             | (rw [if_neg (by rw [q13]; exact Bool.false_ne_true)] at q10
                try simp only [d12] at q13
                have d15 : w8 = _ := (Option.some.inj q10).symm
                first | (simp -implicitDefEqProofs [c2, q11, c4, d12, q13, d15, pT147]; done) | simp -implicitDefEqProofs [c2, q11, c4, d12, q13, d15]))
      · first
        | (simp at q11; done)
        | (rw [if_neg (by rw [q11]; exact Bool.false_ne_true)] at q9
           have d16 : w5 = _ := (Option.some.inj q9).symm
           refine Or.elim (Bool.eq_false_or_eq_true w5) (fun q17 => ?_) (fun q17 => ?_)
           · first
             | (simp [d16] at q17; done)
             | (rw [if_pos q17] at q10
                try simp only [d16] at q17
                refine Exists.elim (bindQ q10) fun r6 e_ => ?_
                have q7 := e_.1
                replace q10 := e_.2
                have c7 : F76 [.agg [.f .f32 w_.fuel_.a0_, .f .f32 w_.fuel_.a1_, .f .f32 w_.fuel_.a2_, .f .f32 w_.fuel_.a3_, .f .f32 w_.fuel_.a4_, .f .f32 w_.fuel_.a5_], .agg [.f .f32 v_.fuel_.a0_, .f .f32 v_.fuel_.a1_, .f .f32 v_.fuel_.a2_, .f .f32 v_.fuel_.a3_, .f .f32 v_.fuel_.a4_, .f .f32 v_.fuel_.a5_]] = some (.b r6) := tells_eq inj76 (a := (w_.fuel_, v_.fuel_)) q7
                have d18 : w8 = _ := (Option.some.inj q10).symm
                first | (simp -implicitDefEqProofs [c2, q11, d16, q17, c7, d18, pT147]; done) | simp -implicitDefEqProofs [c2, q11, d16, q17, c7, d18])
           · first
             | (simp [d16] at q17; done)
             | (rw [if_neg (by rw [q17]; exact Bool.false_ne_true)] at q10
                try simp only [d16] at q17
                have d19 : w8 = _ := (Option.some.inj q10).symm
                first | (simp -implicitDefEqProofs [c2, q11, d16, q17, d19, pT147]; done) | simp -implicitDefEqProofs [c2, q11, d16, q17, d19]))) ?_
  obtain rfl := leafS h
  refine VW.ret (VRet.fin ?_)
  first | (simp [eB71]; done) | simp [eB71, pT147]
noncomputable def g62_j1 (s : T90) (r_ : T90) : Option (Bool) :=
  (g44 s.box_ r_.box_).bind fun r28 =>
  (if r28 = true then (g44 s.damper_ r_.damper_).bind fun r30 => some r30 else some false).bind fun w32 =>
  (if w32 = true then (g44 s.dust_ r_.dust_).bind fun r33 => some r33 else some false).bind fun w35 =>
  some w35
noncomputable def g62_L1 (s : T90) (r_ : T90) : (Int) → Option ((Int) ⊕ ((Unit) ⊕ (Bool)))
  | i_64 =>
    if ltI i_64 (s.logs_.length : Int) = true then
      (idx s.logs_ i_64).bind fun e66 =>
      (idx r_.logs_ i_64).bind fun e68 =>
      (g71 e66 e68).bind fun r70 =>
      if (!r70) = true then
        some (.inr (.inr false))
      else
        some (.inl (aI .i64 i_64 1))
    else
      some (.inr (.inl ()))
noncomputable def g62 (s : T90) (r_ : T90) : Option (Bool) :=
  if (((!eqI (s.logs_.length : Int) (r_.logs_.length : Int)) || (!eqI s.state_ r_.state_)) || (!eqI s.ash_ r_.ash_)) = true then
    some false
  else
    (loopO (g62_L1 s r_) 0).bind fun w => match w with
      | .inl y => g62_j1 s r_
      | .inr r => some r
def eA62 (a : T90 × T90) : List V := [.cptr (pT90 a.1) 0, .cptr (pT90 a.2) 0]
def eB62 (r : Bool) : V := .b r
theorem inj62 (a a' : T90 × T90) (h : eA62 a = eA62 a') : a = a' := by
  obtain ⟨⟨i385, i386, i387, i388, i389, i390⟩, ⟨i391, i392, i393, i394, i395, i396⟩⟩ := a
  obtain ⟨⟨i397, i398, i399, i400, i401, i402⟩, ⟨i403, i404, i405, i406, i407, i408⟩⟩ := a'
  simp only [eA62, pT90, List.cons.injEq, V.i.injEq, V.b.injEq, V.f.injEq, V.str.injEq, V.sl.injEq, V.agg.injEq, V.cptr.injEq, true_and, and_true] at h
  simp_all [ri cT147_inj]
noncomputable def F62 : List V → Option V := tells (fun a => g62 a.1 a.2) eA62 eB62
set_option maxRecDepth 100000 in
set_option maxHeartbeats 4000000 in
/- loop.example/g01229/spec.l02Same -/
theorem ok62 : Tells Try.prog 62 F62 := by
  refine Tells.of (by kernel_rfl) ?_
  rintro ⟨s, r_⟩ r h
  refine VCalls.nl (VCalls.of Try.func62 rfl rfl rfl ?_)
  rw [tm_init]
  simp only [eA62, en, List.length_cons, List.length_nil, Nat.reduceAdd, Nat.reduceSub]
  replace h : (g62 s r_).bind some = some r := bindS h
  rw [g62] at h
  refine VW.seq ?_
  refine VW.evalA (C := [(44, F44), (71, F71)]) (tm 93 [(0, .cptr (pT90 s) 0), (1, .cptr (pT90 r_) 0)]) [] [] ⟨.inl ok44, .inl ok71, trivial⟩ (by kernel_rfl) (by first | (simp -implicitDefEqProofs; done) | simp -implicitDefEqProofs [pT90]) ?_
  refine VW.seq ?_
  refine VW.seq ?_
  refine VW.evalDA (C := [(44, F44), (71, F71)]) (tm 93 [(0, .cptr (pT90 s) 0), (1, .cptr (pT90 r_) 0), (38, .b (((!eqI (s.logs_.length : Int) (r_.logs_.length : Int)) || (!eqI s.state_ r_.state_)) || (!eqI s.ash_ r_.ash_)))]) [] [] ⟨.inl ok44, .inl ok71, trivial⟩ mixed (by kernel_rfl) (by first | (simp -implicitDefEqProofs [pT90]; done) | simp -implicitDefEqProofs) ?_
  refine VW.condB (b := (((!eqI (s.logs_.length : Int) (r_.logs_.length : Int)) || (!eqI s.state_ r_.state_)) || (!eqI s.ash_ r_.ash_))) (by simp) (fun g1 => ?_) (fun g1 => ?_)
  · replace h := iteT g1 h
    refine VW.seq ?_
    refine VW.evalA (C := [(44, F44), (71, F71)]) (tm 93 [(4, .b false)]) [] [] ⟨.inl ok44, .inl ok71, trivial⟩ (by kernel_rfl) (by first | (simp -implicitDefEqProofs; done) | simp -implicitDefEqProofs [pT90]) ?_
    obtain rfl := leafS h
    refine VW.ret (VRet.fin ?_)
    first | (simp [eB62]; done) | simp [eB62, pT90]
  · replace h := iteF g1 h
    refine VW.skip ?_
    refine VW.join (fun (v : Unit) => (⟨(tm 93 [(0, .cptr (pT90 s) 0), (1, .cptr (pT90 r_) 0)]), [], []⟩ : VS)) (fun v => (g62_j1 s r_).bind some = some r) ?_ ?_
    · refine VW.seq ?_
      refine VW.evalA (C := [(44, F44), (71, F71)]) (tm 93 [(0, .cptr (pT90 s) 0), (1, .cptr (pT90 r_) 0), (5, .i .i64 0)]) [] [] ⟨.inl ok44, .inl ok71, trivial⟩ (by kernel_rfl) (by first | (simp -implicitDefEqProofs; done) | simp -implicitDefEqProofs [pT90]) ?_
      refine VW.block ?_
      obtain ⟨w_1, hw_1, h⟩ := bindE h
      refine VW.loopO (fun (x : Int) => (⟨(tm 93 [(0, .cptr (pT90 s) 0), (1, .cptr (pT90 r_) 0), (5, .i .i64 x)]), [], []⟩ : VS)) hw_1 (Ent.to 0 (by simp [fgt]) (by first | (simp; done) | simp [pT90]) (by simp) (by simp [bndT, bndV]) (by simp [bndM, bndV])) ?_
      rintro n_1 i_64 h1
      rw [g62_L1] at h1
      refine VW.seq ?_
      refine VW.seq ?_
      refine VW.evalA (C := [(44, F44), (71, F71)]) (tm 93 [(0, .cptr (pT90 s) 0), (1, .cptr (pT90 r_) 0), (5, .i .i64 i_64), (45, .b (ltI i_64 (s.logs_.length : Int)))]) [] [] ⟨.inl ok44, .inl ok71, trivial⟩ (by kernel_rfl) (by first | (simp -implicitDefEqProofs; done) | simp -implicitDefEqProofs [pT90]) ?_
      refine VW.condB (b := ltI i_64 (s.logs_.length : Int)) (by simp) (fun g65 => ?_) (fun g65 => ?_)
      · replace h1 := iteT g65 h1
        refine VW.skip ?_
        refine VW.seq ?_
        refine VW.block ?_
        refine VW.seq ?_
        obtain ⟨e66, q67, h1⟩ := bindE h1
        obtain ⟨f67a, f67b, f67c, f67d⟩ := idx_some q67
        obtain ⟨e68, q69, h1⟩ := bindE h1
        obtain ⟨f69a, f69b, f69c, f69d⟩ := idx_some q69
        obtain ⟨r70, q71, h1⟩ := bindE h1
        have c71 : F71 [.cptr [.f .f32 e66.wet_.a0_, .f .f32 e66.wet_.a1_, .f .f32 e66.wet_.a2_, .f .f32 e66.wet_.a3_, .f .f32 e66.wet_.a4_, .f .f32 e66.wet_.a5_, .f .f32 e66.heat_.a0_, .f .f32 e66.heat_.a1_, .f .f32 e66.heat_.a2_, .f .f32 e66.heat_.a3_, .f .f32 e66.heat_.a4_, .f .f32 e66.heat_.a5_, .f .f32 e66.fuel_.a0_, .f .f32 e66.fuel_.a1_, .f .f32 e66.fuel_.a2_, .f .f32 e66.fuel_.a3_, .f .f32 e66.fuel_.a4_, .f .f32 e66.fuel_.a5_] 0, .cptr [.f .f32 e68.wet_.a0_, .f .f32 e68.wet_.a1_, .f .f32 e68.wet_.a2_, .f .f32 e68.wet_.a3_, .f .f32 e68.wet_.a4_, .f .f32 e68.wet_.a5_, .f .f32 e68.heat_.a0_, .f .f32 e68.heat_.a1_, .f .f32 e68.heat_.a2_, .f .f32 e68.heat_.a3_, .f .f32 e68.heat_.a4_, .f .f32 e68.heat_.a5_, .f .f32 e68.fuel_.a0_, .f .f32 e68.fuel_.a1_, .f .f32 e68.fuel_.a2_, .f .f32 e68.fuel_.a3_, .f .f32 e68.fuel_.a4_, .f .f32 e68.fuel_.a5_] 0] = some (.b r70) := tells_eq inj71 (a := (e66, e68)) q71
        refine VW.evalDA (C := [(44, F44), (71, F71)]) (tm 93 [(0, .cptr (pT90 s) 0), (1, .cptr (pT90 r_) 0), (5, .i .i64 i_64), (61, .b (!r70))]) [] [] ⟨.inl ok44, .inl ok71, trivial⟩ mixed (by kernel_rfl) (by first | (simp -implicitDefEqProofs [f67a, f67b, f67c, f67d, f69a, f69b, f69c, f69d, c71]; done) | simp -implicitDefEqProofs [f67a, f67b, f67c, f67d, f69a, f69b, f69c, f69d, c71, pT90]) ?_
        refine VW.condB (b := (!r70)) (by simp) (fun g72 => ?_) (fun g72 => ?_)
        · replace h1 := iteT g72 h1
          refine VW.seq ?_
          refine VW.evalA (C := [(44, F44), (71, F71)]) (tm 93 [(4, .b false)]) [] [] ⟨.inl ok44, .inl ok71, trivial⟩ (by kernel_rfl) (by first | (simp -implicitDefEqProofs; done) | simp -implicitDefEqProofs [pT90]) ?_
          have e_ := leafR h1
          subst w_1
          obtain rfl := leafS h
          refine VW.ret (VRet.fin ?_)
          first | (simp [eB62]; done) | simp [eB62, pT90]
        · replace h1 := iteF g72 h1
          refine VW.skip ?_
          refine VW.evalA (C := [(44, F44), (71, F71)]) (tm 93 [(0, .cptr (pT90 s) 0), (1, .cptr (pT90 r_) 0), (5, .i .i64 (aI .i64 i_64 1))]) [] [] ⟨.inl ok44, .inl ok71, trivial⟩ (by kernel_rfl) (by first | (simp -implicitDefEqProofs; done) | simp -implicitDefEqProofs [pT90]) ?_
          exact (show ∃ _, _ from ⟨aI .i64 i_64 1, leafL h1, (Ent.to 0 (by simp [fgt]) (by first | (simp; done) | simp [pT90]) (by simp) (by simp [bndT, bndV]) (by simp [bndM, bndV]))⟩)
      · replace h1 := iteF g65 h1
        refine VW.exit ?_
        have e_ := leafR h1
        subst w_1
        exact (show ∃ _, _ from ⟨(), h, (Ent.to 0 (by simp [fgt]) (by first | (simp; done) | simp [pT90]) (by simp) (by simp [bndT, bndV]) (by simp [bndM, bndV]))⟩)
    · rintro _ h
      replace h : (g62_j1 s r_).bind _ = _ := h
      rw [g62_j1] at h
      refine VW.seq ?_
      obtain ⟨r28, q29, h⟩ := bindE h
      have c29 : F44 [.f .f32 s.box_, .f .f32 r_.box_] = some (.b r28) := tells_eq inj44 (a := (s.box_, r_.box_)) q29
      obtain ⟨w32, q36, h⟩ := bindE h
      obtain ⟨w35, q37, h⟩ := bindE h
      refine VW.evalDA (C := [(44, F44), (71, F71)]) (tm 93 [(4, .b w35)]) [] [] ⟨.inl ok44, .inl ok71, trivial⟩ mixed (by kernel_rfl) (by
          refine Or.elim (Bool.eq_false_or_eq_true r28) (fun q38 => ?_) (fun q38 => ?_)
          · first
            | (simp at q38; done)
            | (rw [if_pos q38] at q36
               refine Exists.elim (bindQ q36) fun r30 e_ => ?_
               have q31 := e_.1
               replace q36 := e_.2
               have c31 : F44 [.f .f32 s.damper_, .f .f32 r_.damper_] = some (.b r30) := tells_eq inj44 (a := (s.damper_, r_.damper_)) q31
               have d39 : w32 = _ := (Option.some.inj q36).symm
               refine Or.elim (Bool.eq_false_or_eq_true w32) (fun q40 => ?_) (fun q40 => ?_)
               · first
                 | (simp [d39] at q40; done)
                 | (rw [if_pos q40] at q37
                    try simp only [d39] at q40
                    refine Exists.elim (bindQ q37) fun r33 e_ => ?_
                    have q34 := e_.1
                    replace q37 := e_.2
                    have c34 : F44 [.f .f32 s.dust_, .f .f32 r_.dust_] = some (.b r33) := tells_eq inj44 (a := (s.dust_, r_.dust_)) q34
                    have d41 : w35 = _ := (Option.some.inj q37).symm
                    first | (simp -implicitDefEqProofs [c29, q38, c31, d39, q40, c34, d41, pT90]; done) | simp -implicitDefEqProofs [c29, q38, c31, d39, q40, c34, d41])
               · first
                 | (simp [d39] at q40; done)
                 | (rw [if_neg (by rw [q40]; exact Bool.false_ne_true)] at q37
                    try simp only [d39] at q40
                    have d42 : w35 = _ := (Option.some.inj q37).symm
                    first | (simp -implicitDefEqProofs [c29, q38, c31, d39, q40, d42, pT90]; done) | simp -implicitDefEqProofs [c29, q38, c31, d39, q40, d42]))
          · first
            | (simp at q38; done)
            | (rw [if_neg (by rw [q38]; exact Bool.false_ne_true)] at q36
               have d43 : w32 = _ := (Option.some.inj q36).symm
               refine Or.elim (Bool.eq_false_or_eq_true w32) (fun q44 => ?_) (fun q44 => ?_)
               · first
                 | (simp [d43] at q44; done)
                 | (rw [if_pos q44] at q37
                    try simp only [d43] at q44
                    refine Exists.elim (bindQ q37) fun r33 e_ => ?_
                    have q34 := e_.1
                    replace q37 := e_.2
                    have c34 : F44 [.f .f32 s.dust_, .f .f32 r_.dust_] = some (.b r33) := tells_eq inj44 (a := (s.dust_, r_.dust_)) q34
                    have d45 : w35 = _ := (Option.some.inj q37).symm
                    first | (simp -implicitDefEqProofs [c29, q38, d43, q44, c34, d45, pT90]; done) | simp -implicitDefEqProofs [c29, q38, d43, q44, c34, d45])
               · first
                 | (simp [d43] at q44; done)
                 | (rw [if_neg (by rw [q44]; exact Bool.false_ne_true)] at q37
                    try simp only [d43] at q44
                    have d46 : w35 = _ := (Option.some.inj q37).symm
                    first | (simp -implicitDefEqProofs [c29, q38, d43, q44, d46, pT90]; done) | simp -implicitDefEqProofs [c29, q38, d43, q44, d46]))) ?_
      obtain rfl := leafS h
      refine VW.ret (VRet.fin ?_)
      first | (simp [eB62]; done) | simp [eB62, pT90]
noncomputable def g43 (s : T90) (r_ : T90) : Option (Bool) :=
  (g62 s r_).bind fun r1 =>
  some r1
def eA43 (a : T90 × T90) : List V := [.agg (pT90 a.1), .agg (pT90 a.2)]
def eB43 (r : Bool) : V := .b r
theorem inj43 (a a' : T90 × T90) (h : eA43 a = eA43 a') : a = a' := by
  obtain ⟨⟨i409, i410, i411, i412, i413, i414⟩, ⟨i415, i416, i417, i418, i419, i420⟩⟩ := a
  obtain ⟨⟨i421, i422, i423, i424, i425, i426⟩, ⟨i427, i428, i429, i430, i431, i432⟩⟩ := a'
  simp only [eA43, pT90, List.cons.injEq, V.i.injEq, V.b.injEq, V.f.injEq, V.str.injEq, V.sl.injEq, V.agg.injEq, V.cptr.injEq, true_and, and_true] at h
  simp_all [ri cT147_inj]
noncomputable def F43 : List V → Option V := tells (fun a => g43 a.1 a.2) eA43 eB43
set_option maxRecDepth 100000 in
set_option maxHeartbeats 4000000 in
/- loop.example/g01229/spec.SameStove -/
theorem ok43 : Tells Try.prog 43 F43 := by
  refine Tells.of (by kernel_rfl) ?_
  rintro ⟨s, r_⟩ r h
  refine VCalls.nl (VCalls.of Try.func43 rfl rfl rfl ?_)
  rw [tm_init]
  simp only [eA43, en, List.length_cons, List.length_nil, Nat.reduceAdd, Nat.reduceSub]
  replace h : (g43 s r_).bind some = some r := bindS h
  rw [g43] at h
  refine VW.seq ?_
  refine VW.evalA (C := [(62, F62)]) (tm 6 [(2, .ptr 0 0 0), (3, .ptr 1 0 0)]) [some (6, [(pT90 s)]), some (6, [(pT90 r_)])] [] ⟨.inl ok62, trivial⟩ (by kernel_rfl) (by first | (simp -implicitDefEqProofs; done) | simp -implicitDefEqProofs [pT90]) ?_
  refine VW.seq ?_
  obtain ⟨r1, q2, h⟩ := bindE h
  have c2 : F62 [.cptr (pT90 s) 0, .cptr (pT90 r_) 0] = some (.b r1) := tells_eq inj62 (a := (s, r_)) q2
  refine VW.evalA (C := [(62, F62)]) (tm 6 [(4, .b r1)]) [some (6, [(pT90 s)]), some (6, [(pT90 r_)])] [] ⟨.inl ok62, trivial⟩ (by kernel_rfl) (by first | (simp -implicitDefEqProofs [c2]; done) | simp -implicitDefEqProofs [c2, pT90]) ?_
  obtain rfl := leafS h
  refine VW.ret (VRet.fin ?_)
  first | (simp [eB43]; done) | simp [eB43, pT90]
noncomputable def g19_j3 (h_ : T38) (g : T38) : Option (Bool) :=
  (g44 h_.sums_.burnt_ g.sums_.burnt_).bind fun r145 =>
  (if r145 = true then (g44 h_.sums_.steam_ g.sums_.steam_).bind fun r147 => some r147 else some false).bind fun w149 =>
  (if w149 = true then (g44 h_.sums_.up_ g.sums_.up_).bind fun r150 => some r150 else some false).bind fun w152 =>
  (if w152 = true then (g44 h_.sums_.lost_ g.sums_.lost_).bind fun r153 => some r153 else some false).bind fun w155 =>
  some (w155 && eqI h_.sums_.smoky_ g.sums_.smoky_)
noncomputable def g19_L1 (h_ : T38) (g : T38) : (Int) → Option ((Int) ⊕ ((Unit) ⊕ (Bool)))
  | i_231 =>
    if ltI i_231 (h_.hours_.length : Int) = true then
      (idx h_.hours_ i_231).bind fun e233 =>
      (idx g.hours_ i_231).bind fun e235 =>
      (g44 e233.outside_ e235.outside_).bind fun r237 =>
      (if (!r237) = true then some true else (g44 e233.sun_ e235.sun_).bind fun r239 => some (!r239)).bind fun w241 =>
      (if w241 = true then some true else (g44 e233.wind_ e235.wind_).bind fun r242 => some (!r242)).bind fun w244 =>
      if w244 = true then
        some (.inr (.inr false))
      else
        some (.inl (aI .i64 i_231 1))
    else
      some (.inr (.inl ()))
noncomputable def g19_j2 (h_ : T38) (g : T38) : Option (Bool) :=
  (loopO (g19_L1 h_ g) 0).bind fun w => match w with
    | .inl y => g19_j3 h_ g
    | .inr r => some r
noncomputable def g19_L2 (h_ : T38) (g : T38) : (Int) → Option ((Int) ⊕ ((Unit) ⊕ (Bool)))
  | i_270 =>
    if ltI i_270 (h_.sources_.length : Int) = true then
      (idx h_.sources_ i_270).bind fun e272 =>
      (idx g.sources_ i_270).bind fun e274 =>
      if (!eqS e272 e274) = true then
        some (.inr (.inr false))
      else
        some (.inl (aI .i64 i_270 1))
    else
      some (.inr (.inl ()))
noncomputable def g19_j1 (h_ : T38) (g : T38) : Option (Bool) :=
  (loopO (g19_L2 h_ g) 0).bind fun w => match w with
    | .inl y => g19_j2 h_ g
    | .inr r => some r
noncomputable def g19_L3 (h_ : T38) (g : T38) : (Int) → Option ((Int) ⊕ ((Unit) ⊕ (Bool)))
  | i_304 =>
    if ltI i_304 (h_.hearths_.length : Int) = true then
      (idx h_.hearths_ i_304).bind fun e306 =>
      (idx g.hearths_ i_304).bind fun e308 =>
      (if (((!eqI e306.room_ e308.room_) || (!eqI e306.flue_ e308.flue_)) || (!eqI e306.brain_ e308.brain_)) = true then some true else (g43 e306.stove_ e308.stove_).bind fun r310 => some (!r310)).bind fun w312 =>
      if w312 = true then
        some (.inr (.inr false))
      else
        some (.inl (aI .i64 i_304 1))
    else
      some (.inr (.inl ()))
noncomputable def g19 (h_ : T38) (g : T38) : Option (Bool) :=
  (g41 h_.flat_ g.flat_).bind fun r1 =>
  (if (!r1) = true then some true else (g42 h_.chimney_ g.chimney_).bind fun r3 => some (!r3)).bind fun w5 =>
  if ((((w5 || (!eqI (h_.hearths_.length : Int) (g.hearths_.length : Int))) || (!eqI (h_.sources_.length : Int) (g.sources_.length : Int))) || (!eqI (h_.hours_.length : Int) (g.hours_.length : Int))) || (!eqI h_.tick_ g.tick_)) = true then
    some false
  else
    (loopO (g19_L3 h_ g) 0).bind fun w => match w with
      | .inl y => g19_j1 h_ g
      | .inr r => some r
def eA19 (a : T38 × T38) : List V := [.cptr (pT38 a.1) 0, .cptr (pT38 a.2) 0]
def eB19 (r : Bool) : V := .b r
theorem inj19 (a a' : T38 × T38) (h : eA19 a = eA19 a') : a = a' := by
  obtain ⟨⟨⟨i433, i434, i435, i436⟩, i437, i438, i439, i440, i441, ⟨i442, i443, i444, i445, i446⟩⟩, ⟨⟨i447, i448, i449, i450⟩, i451, i452, i453, i454, i455, ⟨i456, i457, i458, i459, i460⟩⟩⟩ := a
  obtain ⟨⟨⟨i461, i462, i463, i464⟩, i465, i466, i467, i468, i469, ⟨i470, i471, i472, i473, i474⟩⟩, ⟨⟨i475, i476, i477, i478⟩, i479, i480, i481, i482, i483, ⟨i484, i485, i486, i487, i488⟩⟩⟩ := a'
  simp only [eA19, pT38, List.cons.injEq, V.i.injEq, V.b.injEq, V.f.injEq, V.str.injEq, V.sl.injEq, V.agg.injEq, V.cptr.injEq, true_and, and_true] at h
  simp_all [ri cT105_inj, ri cT108_inj, ri cT132_inj, ri cT134_inj, ri cT92_inj, ri cf_f32_inj, ri cs__inj]
noncomputable def F19 : List V → Option V := tells (fun a => g19 a.1 a.2) eA19 eB19
set_option maxRecDepth 100000 in
set_option maxHeartbeats 40000000 in
/- loop.example/g01229/spec.l06Same -/
theorem ok19 : Tells Try.prog 19 F19 := by
  refine Tells.of (by kernel_rfl) ?_
  rintro ⟨h_, g⟩ r h
  refine VCalls.nl (VCalls.of Try.func19 rfl rfl rfl ?_)
  rw [tm_init]
  simp only [eA19, en, List.length_cons, List.length_nil, Nat.reduceAdd, Nat.reduceSub]
  replace h : (g19 h_ g).bind some = some r := bindS h
  rw [g19] at h
  refine VW.seq ?_
  refine VW.evalA (C := [(41, F41), (42, F42), (43, F43), (44, F44)]) (tm 286 [(0, .cptr (pT38 h_) 0), (1, .cptr (pT38 g) 0)]) [] [] ⟨.inl ok41, .inl ok42, .inl ok43, .inl ok44, trivial⟩ (by kernel_rfl) (by first | (simp -implicitDefEqProofs; done) | simp -implicitDefEqProofs [pT38]) ?_
  refine VW.seq ?_
  refine VW.seq ?_
  obtain ⟨r1, q2, h⟩ := bindE h
  have c2 : F41 [.cptr [.sl 1 (rows cf_f32 h_.flat_.heat_), .sl 1 (rows cf_f32 h_.flat_.store_), .sl 8 (rows cT132 h_.flat_.walls_), .sl 4 (rows cT134 h_.flat_.panes_)] 0, .cptr [.sl 1 (rows cf_f32 g.flat_.heat_), .sl 1 (rows cf_f32 g.flat_.store_), .sl 8 (rows cT132 g.flat_.walls_), .sl 4 (rows cT134 g.flat_.panes_)] 0] = some (.b r1) := tells_eq inj41 (a := (h_.flat_, g.flat_)) q2
  obtain ⟨w5, q318, h⟩ := bindE h
  refine VW.evalDA (C := [(41, F41), (42, F42), (43, F43), (44, F44)]) (tm 286 [(0, .cptr (pT38 h_) 0), (1, .cptr (pT38 g) 0), (83, .b ((((w5 || (!eqI (h_.hearths_.length : Int) (g.hearths_.length : Int))) || (!eqI (h_.sources_.length : Int) (g.sources_.length : Int))) || (!eqI (h_.hours_.length : Int) (g.hours_.length : Int))) || (!eqI h_.tick_ g.tick_)))]) [] [] ⟨.inl ok41, .inl ok42, .inl ok43, .inl ok44, trivial⟩ mixed (by kernel_rfl) (by
      refine Or.elim (Bool.eq_false_or_eq_true (!r1)) (fun q319 => ?_) (fun q319 => ?_)
      · first
        | (simp at q319; done)
        | (rw [if_pos q319] at q318
           have d320 : w5 = _ := (Option.some.inj q318).symm
           first | (simp -implicitDefEqProofs [c2, q319, d320, pT38]; done) | simp -implicitDefEqProofs [c2, q319, d320])
      · first
        | (simp at q319; done)
        | (rw [if_neg (by rw [q319]; exact Bool.false_ne_true)] at q318
           refine Exists.elim (bindQ q318) fun r3 e_ => ?_
           have q4 := e_.1
           replace q318 := e_.2
           have c4 : F42 [.sl 5 (rows cT105 h_.chimney_), .sl 5 (rows cT105 g.chimney_)] = some (.b r3) := tells_eq inj42 (a := (h_.chimney_, g.chimney_)) q4
           have d321 : w5 = _ := (Option.some.inj q318).symm
           first | (simp -implicitDefEqProofs [c2, q319, c4, d321, pT38]; done) | simp -implicitDefEqProofs [c2, q319, c4, d321])) ?_
  refine VW.condB (b := ((((w5 || (!eqI (h_.hearths_.length : Int) (g.hearths_.length : Int))) || (!eqI (h_.sources_.length : Int) (g.sources_.length : Int))) || (!eqI (h_.hours_.length : Int) (g.hours_.length : Int))) || (!eqI h_.tick_ g.tick_))) (by simp) (fun g6 => ?_) (fun g6 => ?_)
  · replace h := iteT g6 h
    refine VW.seq ?_
    refine VW.evalA (C := [(41, F41), (42, F42), (43, F43), (44, F44)]) (tm 286 [(4, .b false)]) [] [] ⟨.inl ok41, .inl ok42, .inl ok43, .inl ok44, trivial⟩ (by kernel_rfl) (by first | (simp -implicitDefEqProofs; done) | simp -implicitDefEqProofs [pT38]) ?_
    obtain rfl := leafS h
    refine VW.ret (VRet.fin ?_)
    first | (simp [eB19]; done) | simp [eB19, pT38]
  · replace h := iteF g6 h
    refine VW.skip ?_
    refine VW.join (fun (v : Unit) => (⟨(tm 286 [(0, .cptr (pT38 h_) 0), (1, .cptr (pT38 g) 0)]), [], []⟩ : VS)) (fun v => (g19_j1 h_ g).bind some = some r) ?_ ?_
    · refine VW.seq ?_
      refine VW.evalA (C := [(41, F41), (42, F42), (43, F43), (44, F44)]) (tm 286 [(0, .cptr (pT38 h_) 0), (1, .cptr (pT38 g) 0), (5, .i .i64 0)]) [] [] ⟨.inl ok41, .inl ok42, .inl ok43, .inl ok44, trivial⟩ (by kernel_rfl) (by first | (simp -implicitDefEqProofs; done) | simp -implicitDefEqProofs [pT38]) ?_
      refine VW.block ?_
      obtain ⟨w_3, hw_3, h⟩ := bindE h
      refine VW.loopO (fun (x : Int) => (⟨(tm 286 [(0, .cptr (pT38 h_) 0), (1, .cptr (pT38 g) 0), (5, .i .i64 x)]), [], []⟩ : VS)) hw_3 (Ent.to 0 (by simp [fgt]) (by first | (simp; done) | simp [pT38]) (by simp) (by simp [bndT, bndV]) (by simp [bndM, bndV])) ?_
      rintro n_3 i_304 h1
      rw [g19_L3] at h1
      refine VW.seq ?_
      refine VW.seq ?_
      refine VW.evalA (C := [(41, F41), (42, F42), (43, F43), (44, F44)]) (tm 286 [(0, .cptr (pT38 h_) 0), (1, .cptr (pT38 g) 0), (5, .i .i64 i_304), (90, .b (ltI i_304 (h_.hearths_.length : Int)))]) [] [] ⟨.inl ok41, .inl ok42, .inl ok43, .inl ok44, trivial⟩ (by kernel_rfl) (by first | (simp -implicitDefEqProofs; done) | simp -implicitDefEqProofs [pT38]) ?_
      refine VW.condB (b := ltI i_304 (h_.hearths_.length : Int)) (by simp) (fun g305 => ?_) (fun g305 => ?_)
      · replace h1 := iteT g305 h1
        refine VW.skip ?_
        refine VW.seq ?_
        refine VW.block ?_
        refine VW.seq ?_
        obtain ⟨e306, q307, h1⟩ := bindE h1
        obtain ⟨f307a, f307b, f307c, f307d⟩ := idx_some q307
        refine VW.evalA (C := [(41, F41), (42, F42), (43, F43), (44, F44)]) (tm 286 [(0, .cptr (pT38 h_) 0), (1, .cptr (pT38 g) 0), (5, .i .i64 i_304), (6, .cptr [.i .i64 e306.room_, .i .i64 e306.flue_, .i .i64 e306.brain_, .sl 18 (rows cT147 e306.stove_.logs_), .f .f32 e306.stove_.box_, .f .f32 e306.stove_.damper_, .i .i8 e306.stove_.state_, .i .i64 e306.stove_.ash_, .f .f32 e306.stove_.dust_] 0)]) [] [] ⟨.inl ok41, .inl ok42, .inl ok43, .inl ok44, trivial⟩ (by kernel_rfl) (by first | (simp -implicitDefEqProofs [f307a, f307b, f307c, f307d]; done) | simp -implicitDefEqProofs [f307a, f307b, f307c, f307d, pT38]) ?_
        refine VW.seq ?_
        obtain ⟨e308, q309, h1⟩ := bindE h1
        obtain ⟨f309a, f309b, f309c, f309d⟩ := idx_some q309
        refine VW.evalA (C := [(41, F41), (42, F42), (43, F43), (44, F44)]) (tm 286 [(0, .cptr (pT38 h_) 0), (1, .cptr (pT38 g) 0), (5, .i .i64 i_304), (6, .cptr [.i .i64 e306.room_, .i .i64 e306.flue_, .i .i64 e306.brain_, .sl 18 (rows cT147 e306.stove_.logs_), .f .f32 e306.stove_.box_, .f .f32 e306.stove_.damper_, .i .i8 e306.stove_.state_, .i .i64 e306.stove_.ash_, .f .f32 e306.stove_.dust_] 0), (7, .cptr [.i .i64 e308.room_, .i .i64 e308.flue_, .i .i64 e308.brain_, .sl 18 (rows cT147 e308.stove_.logs_), .f .f32 e308.stove_.box_, .f .f32 e308.stove_.damper_, .i .i8 e308.stove_.state_, .i .i64 e308.stove_.ash_, .f .f32 e308.stove_.dust_] 0)]) [] [] ⟨.inl ok41, .inl ok42, .inl ok43, .inl ok44, trivial⟩ (by kernel_rfl) (by first | (simp -implicitDefEqProofs [f309a, f309b, f309c, f309d]; done) | simp -implicitDefEqProofs [f309a, f309b, f309c, f309d, pT38]) ?_
        refine VW.seq ?_
        obtain ⟨w312, q314, h1⟩ := bindE h1
        refine VW.evalDA (C := [(41, F41), (42, F42), (43, F43), (44, F44)]) (tm 286 [(0, .cptr (pT38 h_) 0), (1, .cptr (pT38 g) 0), (5, .i .i64 i_304), (147, .b w312)]) [] [] ⟨.inl ok41, .inl ok42, .inl ok43, .inl ok44, trivial⟩ mixed (by kernel_rfl) (by
            refine Or.elim (Bool.eq_false_or_eq_true (((!eqI e306.room_ e308.room_) || (!eqI e306.flue_ e308.flue_)) || (!eqI e306.brain_ e308.brain_))) (fun q315 => ?_) (fun q315 => ?_)
            · first
              | (simp at q315; done)
              | (rw [if_pos q315] at q314
                 have d316 : w312 = _ := (Option.some.inj q314).symm
                 first | (simp -implicitDefEqProofs [q315, d316, pT38]; done) | simp -implicitDefEqProofs [q315, d316])
            · first
              | (simp at q315; done)
              | (rw [if_neg (by rw [q315]; exact Bool.false_ne_true)] at q314
                 refine Exists.elim (bindQ q314) fun r310 e_ => ?_
                 have q311 := e_.1
                 replace q314 := e_.2
                 have c311 : F43 [.agg [.sl 18 (rows cT147 e306.stove_.logs_), .f .f32 e306.stove_.box_, .f .f32 e306.stove_.damper_, .i .i8 e306.stove_.state_, .i .i64 e306.stove_.ash_, .f .f32 e306.stove_.dust_], .agg [.sl 18 (rows cT147 e308.stove_.logs_), .f .f32 e308.stove_.box_, .f .f32 e308.stove_.damper_, .i .i8 e308.stove_.state_, .i .i64 e308.stove_.ash_, .f .f32 e308.stove_.dust_]] = some (.b r310) := tells_eq inj43 (a := (e306.stove_, e308.stove_)) q311
                 have d317 : w312 = _ := (Option.some.inj q314).symm
                 first | (simp -implicitDefEqProofs [q315, c311, d317, pT38]; done) | simp -implicitDefEqProofs [q315, c311, d317])) ?_
        refine VW.condB (b := w312) (by simp) (fun g313 => ?_) (fun g313 => ?_)
        · replace h1 := iteT g313 h1
          refine VW.seq ?_
          refine VW.evalA (C := [(41, F41), (42, F42), (43, F43), (44, F44)]) (tm 286 [(4, .b false)]) [] [] ⟨.inl ok41, .inl ok42, .inl ok43, .inl ok44, trivial⟩ (by kernel_rfl) (by first | (simp -implicitDefEqProofs; done) | simp -implicitDefEqProofs [pT38]) ?_
          have e_ := leafR h1
          subst w_3
          obtain rfl := leafS h
          refine VW.ret (VRet.fin ?_)
          first | (simp [eB19]; done) | simp [eB19, pT38]
        · replace h1 := iteF g313 h1
          refine VW.skip ?_
          refine VW.evalA (C := [(41, F41), (42, F42), (43, F43), (44, F44)]) (tm 286 [(0, .cptr (pT38 h_) 0), (1, .cptr (pT38 g) 0), (5, .i .i64 (aI .i64 i_304 1))]) [] [] ⟨.inl ok41, .inl ok42, .inl ok43, .inl ok44, trivial⟩ (by kernel_rfl) (by first | (simp -implicitDefEqProofs; done) | simp -implicitDefEqProofs [pT38]) ?_
          exact (show ∃ _, _ from ⟨aI .i64 i_304 1, leafL h1, (Ent.to 0 (by simp [fgt]) (by first | (simp; done) | simp [pT38]) (by simp) (by simp [bndT, bndV]) (by simp [bndM, bndV]))⟩)
      · replace h1 := iteF g305 h1
        refine VW.exit ?_
        have e_ := leafR h1
        subst w_3
        exact (show ∃ _, _ from ⟨(), h, (Ent.to 0 (by simp [fgt]) (by first | (simp; done) | simp [pT38]) (by simp) (by simp [bndT, bndV]) (by simp [bndM, bndV]))⟩)
    · rintro _ h
      replace h : (g19_j1 h_ g).bind _ = _ := h
      rw [g19_j1] at h
      refine VW.join (fun (v : Unit) => (⟨(tm 286 [(0, .cptr (pT38 h_) 0), (1, .cptr (pT38 g) 0)]), [], []⟩ : VS)) (fun v => (g19_j2 h_ g).bind some = some r) ?_ ?_
      · refine VW.seq ?_
        refine VW.evalA (C := [(41, F41), (42, F42), (43, F43), (44, F44)]) (tm 286 [(0, .cptr (pT38 h_) 0), (1, .cptr (pT38 g) 0), (8, .i .i64 0)]) [] [] ⟨.inl ok41, .inl ok42, .inl ok43, .inl ok44, trivial⟩ (by kernel_rfl) (by first | (simp -implicitDefEqProofs; done) | simp -implicitDefEqProofs [pT38]) ?_
        refine VW.block ?_
        obtain ⟨w_2, hw_2, h⟩ := bindE h
        refine VW.loopO (fun (x : Int) => (⟨(tm 286 [(0, .cptr (pT38 h_) 0), (1, .cptr (pT38 g) 0), (8, .i .i64 x)]), [], []⟩ : VS)) hw_2 (Ent.to 0 (by simp [fgt]) (by first | (simp; done) | simp [pT38]) (by simp) (by simp [bndT, bndV]) (by simp [bndM, bndV])) ?_
        rintro n_2 i_270 h1
        rw [g19_L2] at h1
        refine VW.seq ?_
        refine VW.seq ?_
        refine VW.evalA (C := [(41, F41), (42, F42), (43, F43), (44, F44)]) (tm 286 [(0, .cptr (pT38 h_) 0), (1, .cptr (pT38 g) 0), (8, .i .i64 i_270), (154, .b (ltI i_270 (h_.sources_.length : Int)))]) [] [] ⟨.inl ok41, .inl ok42, .inl ok43, .inl ok44, trivial⟩ (by kernel_rfl) (by first | (simp -implicitDefEqProofs; done) | simp -implicitDefEqProofs [pT38]) ?_
        refine VW.condB (b := ltI i_270 (h_.sources_.length : Int)) (by simp) (fun g271 => ?_) (fun g271 => ?_)
        · replace h1 := iteT g271 h1
          refine VW.skip ?_
          refine VW.seq ?_
          refine VW.block ?_
          refine VW.seq ?_
          obtain ⟨e272, q273, h1⟩ := bindE h1
          obtain ⟨f273a, f273b, f273c, f273d⟩ := idx_some q273
          obtain ⟨e274, q275, h1⟩ := bindE h1
          obtain ⟨f275a, f275b, f275c, f275d⟩ := idx_some q275
          refine VW.evalDA (C := [(41, F41), (42, F42), (43, F43), (44, F44)]) (tm 286 [(0, .cptr (pT38 h_) 0), (1, .cptr (pT38 g) 0), (8, .i .i64 i_270), (171, .b (!eqS e272 e274))]) [] [] ⟨.inl ok41, .inl ok42, .inl ok43, .inl ok44, trivial⟩ mixed (by kernel_rfl) (by first | (simp -implicitDefEqProofs [f273a, f273b, f273c, f273d, f275a, f275b, f275c, f275d]; done) | simp -implicitDefEqProofs [f273a, f273b, f273c, f273d, f275a, f275b, f275c, f275d, pT38]) ?_
          refine VW.condB (b := (!eqS e272 e274)) (by simp) (fun g276 => ?_) (fun g276 => ?_)
          · replace h1 := iteT g276 h1
            refine VW.seq ?_
            refine VW.evalA (C := [(41, F41), (42, F42), (43, F43), (44, F44)]) (tm 286 [(4, .b false)]) [] [] ⟨.inl ok41, .inl ok42, .inl ok43, .inl ok44, trivial⟩ (by kernel_rfl) (by first | (simp -implicitDefEqProofs; done) | simp -implicitDefEqProofs [pT38]) ?_
            have e_ := leafR h1
            subst w_2
            obtain rfl := leafS h
            refine VW.ret (VRet.fin ?_)
            first | (simp [eB19]; done) | simp [eB19, pT38]
          · replace h1 := iteF g276 h1
            refine VW.skip ?_
            refine VW.evalA (C := [(41, F41), (42, F42), (43, F43), (44, F44)]) (tm 286 [(0, .cptr (pT38 h_) 0), (1, .cptr (pT38 g) 0), (8, .i .i64 (aI .i64 i_270 1))]) [] [] ⟨.inl ok41, .inl ok42, .inl ok43, .inl ok44, trivial⟩ (by kernel_rfl) (by first | (simp -implicitDefEqProofs; done) | simp -implicitDefEqProofs [pT38]) ?_
            exact (show ∃ _, _ from ⟨aI .i64 i_270 1, leafL h1, (Ent.to 0 (by simp [fgt]) (by first | (simp; done) | simp [pT38]) (by simp) (by simp [bndT, bndV]) (by simp [bndM, bndV]))⟩)
        · replace h1 := iteF g271 h1
          refine VW.exit ?_
          have e_ := leafR h1
          subst w_2
          exact (show ∃ _, _ from ⟨(), h, (Ent.to 0 (by simp [fgt]) (by first | (simp; done) | simp [pT38]) (by simp) (by simp [bndT, bndV]) (by simp [bndM, bndV]))⟩)
      · rintro _ h
        replace h : (g19_j2 h_ g).bind _ = _ := h
        rw [g19_j2] at h
        refine VW.join (fun (v : Unit) => (⟨(tm 286 [(0, .cptr (pT38 h_) 0), (1, .cptr (pT38 g) 0)]), [], []⟩ : VS)) (fun v => (g19_j3 h_ g).bind some = some r) ?_ ?_
        · refine VW.seq ?_
          refine VW.evalA (C := [(41, F41), (42, F42), (43, F43), (44, F44)]) (tm 286 [(0, .cptr (pT38 h_) 0), (1, .cptr (pT38 g) 0), (9, .i .i64 0)]) [] [] ⟨.inl ok41, .inl ok42, .inl ok43, .inl ok44, trivial⟩ (by kernel_rfl) (by first | (simp -implicitDefEqProofs; done) | simp -implicitDefEqProofs [pT38]) ?_
          refine VW.block ?_
          obtain ⟨w_1, hw_1, h⟩ := bindE h
          refine VW.loopO (fun (x : Int) => (⟨(tm 286 [(0, .cptr (pT38 h_) 0), (1, .cptr (pT38 g) 0), (9, .i .i64 x)]), [], []⟩ : VS)) hw_1 (Ent.to 0 (by simp [fgt]) (by first | (simp; done) | simp [pT38]) (by simp) (by simp [bndT, bndV]) (by simp [bndM, bndV])) ?_
          rintro n_1 i_231 h1
          rw [g19_L1] at h1
          refine VW.seq ?_
          refine VW.seq ?_
          refine VW.evalA (C := [(41, F41), (42, F42), (43, F43), (44, F44)]) (tm 286 [(0, .cptr (pT38 h_) 0), (1, .cptr (pT38 g) 0), (9, .i .i64 i_231), (178, .b (ltI i_231 (h_.hours_.length : Int)))]) [] [] ⟨.inl ok41, .inl ok42, .inl ok43, .inl ok44, trivial⟩ (by kernel_rfl) (by first | (simp -implicitDefEqProofs; done) | simp -implicitDefEqProofs [pT38]) ?_
          refine VW.condB (b := ltI i_231 (h_.hours_.length : Int)) (by simp) (fun g232 => ?_) (fun g232 => ?_)
          · replace h1 := iteT g232 h1
            refine VW.skip ?_
            refine VW.seq ?_
            refine VW.block ?_
            refine VW.seq ?_
            obtain ⟨e233, q234, h1⟩ := bindE h1
            obtain ⟨f234a, f234b, f234c, f234d⟩ := idx_some q234
            refine VW.evalA (C := [(41, F41), (42, F42), (43, F43), (44, F44)]) (tm 286 [(0, .cptr (pT38 h_) 0), (1, .cptr (pT38 g) 0), (9, .i .i64 i_231), (10, .cptr [.f .f32 e233.outside_, .f .f32 e233.sun_, .f .f32 e233.wind_] 0)]) [] [] ⟨.inl ok41, .inl ok42, .inl ok43, .inl ok44, trivial⟩ (by kernel_rfl) (by first | (simp -implicitDefEqProofs [f234a, f234b, f234c, f234d]; done) | simp -implicitDefEqProofs [f234a, f234b, f234c, f234d, pT38]) ?_
            refine VW.seq ?_
            obtain ⟨e235, q236, h1⟩ := bindE h1
            obtain ⟨f236a, f236b, f236c, f236d⟩ := idx_some q236
            refine VW.evalA (C := [(41, F41), (42, F42), (43, F43), (44, F44)]) (tm 286 [(0, .cptr (pT38 h_) 0), (1, .cptr (pT38 g) 0), (9, .i .i64 i_231), (10, .cptr [.f .f32 e233.outside_, .f .f32 e233.sun_, .f .f32 e233.wind_] 0), (11, .cptr [.f .f32 e235.outside_, .f .f32 e235.sun_, .f .f32 e235.wind_] 0)]) [] [] ⟨.inl ok41, .inl ok42, .inl ok43, .inl ok44, trivial⟩ (by kernel_rfl) (by first | (simp -implicitDefEqProofs [f236a, f236b, f236c, f236d]; done) | simp -implicitDefEqProofs [f236a, f236b, f236c, f236d, pT38]) ?_
            refine VW.seq ?_
            obtain ⟨r237, q238, h1⟩ := bindE h1
            have c238 : F44 [.f .f32 e233.outside_, .f .f32 e235.outside_] = some (.b r237) := tells_eq inj44 (a := (e233.outside_, e235.outside_)) q238
            obtain ⟨w241, q246, h1⟩ := bindE h1
            obtain ⟨w244, q247, h1⟩ := bindE h1
            refine VW.evalDA (C := [(41, F41), (42, F42), (43, F43), (44, F44)]) (tm 286 [(0, .cptr (pT38 h_) 0), (1, .cptr (pT38 g) 0), (9, .i .i64 i_231), (226, .b w244)]) [] [] ⟨.inl ok41, .inl ok42, .inl ok43, .inl ok44, trivial⟩ mixed (by kernel_rfl) (by
                refine Or.elim (Bool.eq_false_or_eq_true (!r237)) (fun q248 => ?_) (fun q248 => ?_)
                · first
                  | (simp at q248; done)
                  | (rw [if_pos q248] at q246
                     have d249 : w241 = _ := (Option.some.inj q246).symm
                     refine Or.elim (Bool.eq_false_or_eq_true w241) (fun q250 => ?_) (fun q250 => ?_)
                     · first
                       | (simp [d249] at q250; done)
                       | (rw [if_pos q250] at q247
                          try simp only [d249] at q250
                          have d251 : w244 = _ := (Option.some.inj q247).symm
                          first | (simp -implicitDefEqProofs [c238, q248, d249, q250, d251, pT38]; done) | simp -implicitDefEqProofs [c238, q248, d249, q250, d251])
                     · first
                       | (simp [d249] at q250; done)
                       | (rw [if_neg (by rw [q250]; exact Bool.false_ne_true)] at q247
                          try simp only [d249] at q250
                          refine Exists.elim (bindQ q247) fun r242 e_ => ?_
                          have q243 := e_.1
                          replace q247 := e_.2
                          have c243 : F44 [.f .f32 e233.wind_, .f .f32 e235.wind_] = some (.b r242) := tells_eq inj44 (a := (e233.wind_, e235.wind_)) q243
                          have d252 : w244 = _ := (Option.some.inj q247).symm
                          first | (simp -implicitDefEqProofs [c238, q248, d249, q250, c243, d252, pT38]; done) | simp -implicitDefEqProofs [c238, q248, d249, q250, c243, d252]))
                · first
                  | (simp at q248; done)
                  | (rw [if_neg (by rw [q248]; exact Bool.false_ne_true)] at q246
                     refine Exists.elim (bindQ q246) fun r239 e_ => ?_
                     have q240 := e_.1
                     replace q246 := e_.2
                     have c240 : F44 [.f .f32 e233.sun_, .f .f32 e235.sun_] = some (.b r239) := tells_eq inj44 (a := (e233.sun_, e235.sun_)) q240
                     have d253 : w241 = _ := (Option.some.inj q246).symm
                     refine Or.elim (Bool.eq_false_or_eq_true w241) (fun q254 => ?_) (fun q254 => ?_)
                     · first
                       | (simp [d253] at q254; done)
                       | (rw [if_pos q254] at q247
                          try simp only [d253] at q254
                          have d255 : w244 = _ := (Option.some.inj q247).symm
                          first | (simp -implicitDefEqProofs [c238, q248, c240, d253, q254, d255, pT38]; done) | simp -implicitDefEqProofs [c238, q248, c240, d253, q254, d255])
                     · first
                       | (simp [d253] at q254; done)
                       | (rw [if_neg (by rw [q254]; exact Bool.false_ne_true)] at q247
                          try simp only [d253] at q254
                          refine Exists.elim (bindQ q247) fun r242 e_ => ?_
                          have q243 := e_.1
                          replace q247 := e_.2
                          have c243 : F44 [.f .f32 e233.wind_, .f .f32 e235.wind_] = some (.b r242) := tells_eq inj44 (a := (e233.wind_, e235.wind_)) q243
                          have d256 : w244 = _ := (Option.some.inj q247).symm
                          first | (simp -implicitDefEqProofs [c238, q248, c240, d253, q254, c243, d256, pT38]; done) | simp -implicitDefEqProofs [c238, q248, c240, d253, q254, c243, d256]))) ?_
            refine VW.condB (b := w244) (by simp) (fun g245 => ?_) (fun g245 => ?_)
            · replace h1 := iteT g245 h1
              refine VW.seq ?_
              refine VW.evalA (C := [(41, F41), (42, F42), (43, F43), (44, F44)]) (tm 286 [(4, .b false)]) [] [] ⟨.inl ok41, .inl ok42, .inl ok43, .inl ok44, trivial⟩ (by kernel_rfl) (by first | (simp -implicitDefEqProofs; done) | simp -implicitDefEqProofs [pT38]) ?_
              have e_ := leafR h1
              subst w_1
              obtain rfl := leafS h
              refine VW.ret (VRet.fin ?_)
              first | (simp [eB19]; done) | simp [eB19, pT38]
            · replace h1 := iteF g245 h1
              refine VW.skip ?_
              refine VW.evalA (C := [(41, F41), (42, F42), (43, F43), (44, F44)]) (tm 286 [(0, .cptr (pT38 h_) 0), (1, .cptr (pT38 g) 0), (9, .i .i64 (aI .i64 i_231 1))]) [] [] ⟨.inl ok41, .inl ok42, .inl ok43, .inl ok44, trivial⟩ (by kernel_rfl) (by first | (simp -implicitDefEqProofs; done) | simp -implicitDefEqProofs [pT38]) ?_
              exact (show ∃ _, _ from ⟨aI .i64 i_231 1, leafL h1, (Ent.to 0 (by simp [fgt]) (by first | (simp; done) | simp [pT38]) (by simp) (by simp [bndT, bndV]) (by simp [bndM, bndV]))⟩)
          · replace h1 := iteF g232 h1
            refine VW.exit ?_
            have e_ := leafR h1
            subst w_1
            exact (show ∃ _, _ from ⟨(), h, (Ent.to 0 (by simp [fgt]) (by first | (simp; done) | simp [pT38]) (by simp) (by simp [bndT, bndV]) (by simp [bndM, bndV]))⟩)
        · rintro _ h
          replace h : (g19_j3 h_ g).bind _ = _ := h
          rw [g19_j3] at h
          refine VW.seq ?_
          refine VW.evalA (C := [(41, F41), (42, F42), (43, F43), (44, F44)]) (tm 286 [(1, .cptr (pT38 g) 0), (12, .cptr (pT38 h_) 9)]) [] [] ⟨.inl ok41, .inl ok42, .inl ok43, .inl ok44, trivial⟩ (by kernel_rfl) (by first | (simp -implicitDefEqProofs; done) | simp -implicitDefEqProofs [pT38]) ?_
          refine VW.seq ?_
          refine VW.evalA (C := [(41, F41), (42, F42), (43, F43), (44, F44)]) (tm 286 [(12, .cptr (pT38 h_) 9), (13, .cptr (pT38 g) 9)]) [] [] ⟨.inl ok41, .inl ok42, .inl ok43, .inl ok44, trivial⟩ (by kernel_rfl) (by first | (simp -implicitDefEqProofs; done) | simp -implicitDefEqProofs [pT38]) ?_
          refine VW.seq ?_
          obtain ⟨r145, q146, h⟩ := bindE h
          have c146 : F44 [.f .f32 h_.sums_.burnt_, .f .f32 g.sums_.burnt_] = some (.b r145) := tells_eq inj44 (a := (h_.sums_.burnt_, g.sums_.burnt_)) q146
          obtain ⟨w149, q156, h⟩ := bindE h
          obtain ⟨w152, q157, h⟩ := bindE h
          obtain ⟨w155, q158, h⟩ := bindE h
          refine VW.evalDA (C := [(41, F41), (42, F42), (43, F43), (44, F44)]) (tm 286 [(4, .b (w155 && eqI h_.sums_.smoky_ g.sums_.smoky_))]) [] [] ⟨.inl ok41, .inl ok42, .inl ok43, .inl ok44, trivial⟩ mixed (by kernel_rfl) (by
              refine Or.elim (Bool.eq_false_or_eq_true r145) (fun q159 => ?_) (fun q159 => ?_)
              · first
                | (simp at q159; done)
                | (rw [if_pos q159] at q156
                   refine Exists.elim (bindQ q156) fun r147 e_ => ?_
                   have q148 := e_.1
                   replace q156 := e_.2
                   have c148 : F44 [.f .f32 h_.sums_.steam_, .f .f32 g.sums_.steam_] = some (.b r147) := tells_eq inj44 (a := (h_.sums_.steam_, g.sums_.steam_)) q148
                   have d160 : w149 = _ := (Option.some.inj q156).symm
                   refine Or.elim (Bool.eq_false_or_eq_true w149) (fun q161 => ?_) (fun q161 => ?_)
                   · first
                     | (simp [d160] at q161; done)
                     | (rw [if_pos q161] at q157
                        try simp only [d160] at q161
                        refine Exists.elim (bindQ q157) fun r150 e_ => ?_
                        have q151 := e_.1
                        replace q157 := e_.2
                        have c151 : F44 [.f .f32 h_.sums_.up_, .f .f32 g.sums_.up_] = some (.b r150) := tells_eq inj44 (a := (h_.sums_.up_, g.sums_.up_)) q151
                        have d162 : w152 = _ := (Option.some.inj q157).symm
                        refine Or.elim (Bool.eq_false_or_eq_true w152) (fun q163 => ?_) (fun q163 => ?_)
                        · first
                          | (simp [d160, d162] at q163; done)
                          | (rw [if_pos q163] at q158
                             try simp only [d160, d162] at q163
                             refine Exists.elim (bindQ q158) fun r153 e_ => ?_
                             have q154 := e_.1
                             replace q158 := e_.2
                             have c154 : F44 [.f .f32 h_.sums_.lost_, .f .f32 g.sums_.lost_] = some (.b r153) := tells_eq inj44 (a := (h_.sums_.lost_, g.sums_.lost_)) q154
                             have d164 : w155 = _ := (Option.some.inj q158).symm
                             first | (simp -implicitDefEqProofs [c146, q159, c148, d160, q161, c151, d162, q163, c154, d164, pT38]; done) | simp -implicitDefEqProofs [c146, q159, c148, d160, q161, c151, d162, q163, c154, d164])
                        · first
                          | (simp [d160, d162] at q163; done)
                          | (rw [if_neg (by rw [q163]; exact Bool.false_ne_true)] at q158
                             try simp only [d160, d162] at q163
                             have d165 : w155 = _ := (Option.some.inj q158).symm
                             first | (simp -implicitDefEqProofs [c146, q159, c148, d160, q161, c151, d162, q163, d165, pT38]; done) | simp -implicitDefEqProofs [c146, q159, c148, d160, q161, c151, d162, q163, d165]))
                   · first
                     | (simp [d160] at q161; done)
                     | (rw [if_neg (by rw [q161]; exact Bool.false_ne_true)] at q157
                        try simp only [d160] at q161
                        have d166 : w152 = _ := (Option.some.inj q157).symm
                        refine Or.elim (Bool.eq_false_or_eq_true w152) (fun q167 => ?_) (fun q167 => ?_)
                        · first
                          | (simp [d160, d166] at q167; done)
                          | (rw [if_pos q167] at q158
                             try simp only [d160, d166] at q167
                             refine Exists.elim (bindQ q158) fun r153 e_ => ?_
                             have q154 := e_.1
                             replace q158 := e_.2
                             have c154 : F44 [.f .f32 h_.sums_.lost_, .f .f32 g.sums_.lost_] = some (.b r153) := tells_eq inj44 (a := (h_.sums_.lost_, g.sums_.lost_)) q154
                             have d168 : w155 = _ := (Option.some.inj q158).symm
                             first | (simp -implicitDefEqProofs [c146, q159, c148, d160, q161, d166, q167, c154, d168, pT38]; done) | simp -implicitDefEqProofs [c146, q159, c148, d160, q161, d166, q167, c154, d168])
                        · first
                          | (simp [d160, d166] at q167; done)
                          | (rw [if_neg (by rw [q167]; exact Bool.false_ne_true)] at q158
                             try simp only [d160, d166] at q167
                             have d169 : w155 = _ := (Option.some.inj q158).symm
                             first | (simp -implicitDefEqProofs [c146, q159, c148, d160, q161, d166, q167, d169, pT38]; done) | simp -implicitDefEqProofs [c146, q159, c148, d160, q161, d166, q167, d169])))
              · first
                | (simp at q159; done)
                | (rw [if_neg (by rw [q159]; exact Bool.false_ne_true)] at q156
                   have d170 : w149 = _ := (Option.some.inj q156).symm
                   refine Or.elim (Bool.eq_false_or_eq_true w149) (fun q171 => ?_) (fun q171 => ?_)
                   · first
                     | (simp [d170] at q171; done)
                     | (rw [if_pos q171] at q157
                        try simp only [d170] at q171
                        refine Exists.elim (bindQ q157) fun r150 e_ => ?_
                        have q151 := e_.1
                        replace q157 := e_.2
                        have c151 : F44 [.f .f32 h_.sums_.up_, .f .f32 g.sums_.up_] = some (.b r150) := tells_eq inj44 (a := (h_.sums_.up_, g.sums_.up_)) q151
                        have d172 : w152 = _ := (Option.some.inj q157).symm
                        refine Or.elim (Bool.eq_false_or_eq_true w152) (fun q173 => ?_) (fun q173 => ?_)
                        · first
                          | (simp [d170, d172] at q173; done)
                          | (rw [if_pos q173] at q158
                             try simp only [d170, d172] at q173
                             refine Exists.elim (bindQ q158) fun r153 e_ => ?_
                             have q154 := e_.1
                             replace q158 := e_.2
                             have c154 : F44 [.f .f32 h_.sums_.lost_, .f .f32 g.sums_.lost_] = some (.b r153) := tells_eq inj44 (a := (h_.sums_.lost_, g.sums_.lost_)) q154
                             have d174 : w155 = _ := (Option.some.inj q158).symm
                             first | (simp -implicitDefEqProofs [c146, q159, d170, q171, c151, d172, q173, c154, d174, pT38]; done) | simp -implicitDefEqProofs [c146, q159, d170, q171, c151, d172, q173, c154, d174])
                        · first
                          | (simp [d170, d172] at q173; done)
                          | (rw [if_neg (by rw [q173]; exact Bool.false_ne_true)] at q158
                             try simp only [d170, d172] at q173
                             have d175 : w155 = _ := (Option.some.inj q158).symm
                             first | (simp -implicitDefEqProofs [c146, q159, d170, q171, c151, d172, q173, d175, pT38]; done) | simp -implicitDefEqProofs [c146, q159, d170, q171, c151, d172, q173, d175]))
                   · first
                     | (simp [d170] at q171; done)
                     | (rw [if_neg (by rw [q171]; exact Bool.false_ne_true)] at q157
                        try simp only [d170] at q171
                        have d176 : w152 = _ := (Option.some.inj q157).symm
                        refine Or.elim (Bool.eq_false_or_eq_true w152) (fun q177 => ?_) (fun q177 => ?_)
                        · first
                          | (simp [d170, d176] at q177; done)
                          | (rw [if_pos q177] at q158
                             try simp only [d170, d176] at q177
                             refine Exists.elim (bindQ q158) fun r153 e_ => ?_
                             have q154 := e_.1
                             replace q158 := e_.2
                             have c154 : F44 [.f .f32 h_.sums_.lost_, .f .f32 g.sums_.lost_] = some (.b r153) := tells_eq inj44 (a := (h_.sums_.lost_, g.sums_.lost_)) q154
                             have d178 : w155 = _ := (Option.some.inj q158).symm
                             first | (simp -implicitDefEqProofs [c146, q159, d170, q171, d176, q177, c154, d178, pT38]; done) | simp -implicitDefEqProofs [c146, q159, d170, q171, d176, q177, c154, d178])
                        · first
                          | (simp [d170, d176] at q177; done)
                          | (rw [if_neg (by rw [q177]; exact Bool.false_ne_true)] at q158
                             try simp only [d170, d176] at q177
                             have d179 : w155 = _ := (Option.some.inj q158).symm
                             first | (simp -implicitDefEqProofs [c146, q159, d170, q171, d176, q177, d179, pT38]; done) | simp -implicitDefEqProofs [c146, q159, d170, q171, d176, q177, d179])))) ?_
          obtain rfl := leafS h
          refine VW.ret (VRet.fin ?_)
          first | (simp [eB19]; done) | simp [eB19, pT38]
noncomputable def g8 (h_ : T38) (g : T38) : Option (Bool) :=
  (g19 h_ g).bind fun r1 =>
  some r1
def eA8 (a : T38 × T38) : List V := [.agg (pT38 a.1), .agg (pT38 a.2)]
def eB8 (r : Bool) : V := .b r
theorem inj8 (a a' : T38 × T38) (h : eA8 a = eA8 a') : a = a' := by
  obtain ⟨⟨⟨i489, i490, i491, i492⟩, i493, i494, i495, i496, i497, ⟨i498, i499, i500, i501, i502⟩⟩, ⟨⟨i503, i504, i505, i506⟩, i507, i508, i509, i510, i511, ⟨i512, i513, i514, i515, i516⟩⟩⟩ := a
  obtain ⟨⟨⟨i517, i518, i519, i520⟩, i521, i522, i523, i524, i525, ⟨i526, i527, i528, i529, i530⟩⟩, ⟨⟨i531, i532, i533, i534⟩, i535, i536, i537, i538, i539, ⟨i540, i541, i542, i543, i544⟩⟩⟩ := a'
  simp only [eA8, pT38, List.cons.injEq, V.i.injEq, V.b.injEq, V.f.injEq, V.str.injEq, V.sl.injEq, V.agg.injEq, V.cptr.injEq, true_and, and_true] at h
  simp_all [ri cT105_inj, ri cT108_inj, ri cT132_inj, ri cT134_inj, ri cT92_inj, ri cf_f32_inj, ri cs__inj]
noncomputable def F8 : List V → Option V := tells (fun a => g8 a.1 a.2) eA8 eB8
set_option maxRecDepth 100000 in
set_option maxHeartbeats 4000000 in
/- loop.example/g01229/spec.SameHouse -/
theorem ok8 : Tells Try.prog 8 F8 := by
  refine Tells.of (by kernel_rfl) ?_
  rintro ⟨h_, g⟩ r h
  refine VCalls.nl (VCalls.of Try.func8 rfl rfl rfl ?_)
  rw [tm_init]
  simp only [eA8, en, List.length_cons, List.length_nil, Nat.reduceAdd, Nat.reduceSub]
  replace h : (g8 h_ g).bind some = some r := bindS h
  rw [g8] at h
  refine VW.seq ?_
  refine VW.evalA (C := [(19, F19)]) (tm 6 [(2, .ptr 0 0 0), (3, .ptr 1 0 0)]) [some (14, [(pT38 h_)]), some (14, [(pT38 g)])] [] ⟨.inl ok19, trivial⟩ (by kernel_rfl) (by first | (simp -implicitDefEqProofs; done) | simp -implicitDefEqProofs [pT38]) ?_
  refine VW.seq ?_
  obtain ⟨r1, q2, h⟩ := bindE h
  have c2 : F19 [.cptr (pT38 h_) 0, .cptr (pT38 g) 0] = some (.b r1) := tells_eq inj19 (a := (h_, g)) q2
  refine VW.evalA (C := [(19, F19)]) (tm 6 [(4, .b r1)]) [some (14, [(pT38 h_)]), some (14, [(pT38 g)])] [] ⟨.inl ok19, trivial⟩ (by kernel_rfl) (by first | (simp -implicitDefEqProofs [c2]; done) | simp -implicitDefEqProofs [c2, pT38]) ?_
  obtain rfl := leafS h
  refine VW.ret (VRet.fin ?_)
  first | (simp [eB8]; done) | simp [eB8, pT38]
noncomputable def g45_j1 (l22 : List F32) : Option (List F32) :=
  some l22
noncomputable def g45_L1 (a : List F32) : (Int × (List F32)) → Option ((Int × (List F32)) ⊕ (List F32))
  | (i_35, l36) =>
    if ltI i_35 (a.length : Int) = true then
      (idx a i_35).bind fun e38 =>
      (idx l36 i_35).bind fun e40 =>
      some (.inl (aI .i64 i_35 1, (l36.set i_35.toNat e38)))
    else
      some (.inr l36)
noncomputable def g45 (a : List F32) : Option (List F32) :=
  (mk 4 (a.length : Int)).bind fun u1 =>
  (loopO (g45_L1 a) (0, (List.replicate (a.length : Int).toNat (some 0)))).bind fun w => g45_j1 w
def eA45 (a : List F32) : List V := [.sl 1 (rows cf_f32 a)]
def eB45 (r : List F32) : V := .own 1 (rows cf_f32 r)
theorem inj45 (a a' : List F32) (h : eA45 a = eA45 a') : a = a' := by
  obtain i545 := a
  obtain i546 := a'
  simp only [eA45, List.cons.injEq, V.i.injEq, V.b.injEq, V.f.injEq, V.str.injEq, V.sl.injEq, V.agg.injEq, V.cptr.injEq, true_and, and_true] at h
  simp_all [ri cf_f32_inj]
noncomputable def F45 : List V → Option V := tells (fun a => g45 a) eA45 eB45
set_option maxRecDepth 100000 in
set_option maxHeartbeats 4000000 in
/- loop.example/g01229/laws.toFloat32S -/
theorem ok45 : Tells Try.prog 45 F45 := by
  refine Tells.of (by kernel_rfl) ?_
  rintro a r h
  refine VCalls.nl (VCalls.of Try.func45 rfl rfl rfl ?_)
  rw [tm_init]
  simp only [eA45, en, List.length_cons, List.length_nil, Nat.reduceAdd, Nat.reduceSub]
  replace h : (g45 a).bind some = some r := bindS h
  rw [g45] at h
  refine VW.seq ?_
  refine VW.evalA (C := []) (tm 22 [(0, .sl 1 (rows cf_f32 a))]) [] [] trivial (by kernel_rfl) (by simp -implicitDefEqProofs) ?_
  refine VW.seq ?_
  obtain ⟨u1, q2, h⟩ := bindE h
  obtain ⟨f2a, f2b, f2c⟩ := mk_some q2
  try simp only [Int.toNat_natCast, Int.reduceToNat, List.length_cons, List.length_nil, Nat.reduceAdd, Nat.zero_add] at f2a f2b f2c
  refine VW.evalA (C := []) (tm 22 [(0, .sl 1 (rows cf_f32 a)), (3, .ref 0 0 (List.replicate (a.length : Int).toNat (some 0)).length)]) [some (1, rows cf_f32 (List.replicate (a.length : Int).toNat (some 0)))] [] trivial (by kernel_rfl) (by simp -implicitDefEqProofs [f2a, f2b, f2c]) ?_
  refine VW.join (fun (v : List F32) => (⟨(tm 22 [(3, .ref 0 0 v.length)]), [some (1, rows cf_f32 v)], []⟩ : VS)) (fun v => (g45_j1 (v)).bind some = some r) ?_ ?_
  · refine VW.seq ?_
    refine VW.evalA (C := []) (tm 22 [(0, .sl 1 (rows cf_f32 a)), (3, .ref 0 0 (List.replicate (a.length : Int).toNat (some 0)).length), (4, .i .i64 0)]) [some (1, rows cf_f32 (List.replicate (a.length : Int).toNat (some 0)))] [] trivial (by kernel_rfl) (by simp -implicitDefEqProofs) ?_
    refine VW.block ?_
    obtain ⟨w_1, hw_1, h⟩ := bindE h
    refine VW.loopO (fun (x : Int × (List F32)) => (⟨(tm 22 [(0, .sl 1 (rows cf_f32 a)), (3, .ref 0 0 x.2.length), (4, .i .i64 x.1)]), [some (1, rows cf_f32 x.2)], []⟩ : VS)) hw_1 (Ent.to 1 (by simp [fgt]) (by simp) (by simp) (by simp [bndT, bndV]) (by simp [bndM, bndV])) ?_
    rintro n_1 ⟨i_35, l36⟩ h1
    rw [g45_L1] at h1
    refine VW.seq ?_
    refine VW.seq ?_
    refine VW.evalA (C := []) (tm 22 [(0, .sl 1 (rows cf_f32 a)), (3, .ref 0 0 l36.length), (4, .i .i64 i_35), (11, .b (ltI i_35 (a.length : Int)))]) [some (1, rows cf_f32 l36)] [] trivial (by kernel_rfl) (by simp -implicitDefEqProofs) ?_
    refine VW.condB (b := ltI i_35 (a.length : Int)) (by simp) (fun g37 => ?_) (fun g37 => ?_)
    · replace h1 := iteT g37 h1
      refine VW.skip ?_
      refine VW.seq ?_
      refine VW.block ?_
      obtain ⟨e38, q39, h1⟩ := bindE h1
      obtain ⟨f39a, f39b, f39c, f39d⟩ := idx_some q39
      obtain ⟨e40, q41, h1⟩ := bindE h1
      obtain ⟨f41a, f41b, f41c, f41d⟩ := idx_some q41
      refine VW.evalA (C := []) (tm 22 [(0, .sl 1 (rows cf_f32 a)), (3, .ref 0 0 (l36.set i_35.toNat e38).length), (4, .i .i64 i_35)]) [some (1, rows cf_f32 (l36.set i_35.toNat e38))] [] trivial (by kernel_rfl) (by simp -implicitDefEqProofs [f39a, f39b, f39c, f39d, f41a, f41b, f41c, f41d]) ?_
      refine VW.evalA (C := []) (tm 22 [(0, .sl 1 (rows cf_f32 a)), (3, .ref 0 0 (l36.set i_35.toNat e38).length), (4, .i .i64 (aI .i64 i_35 1))]) [some (1, rows cf_f32 (l36.set i_35.toNat e38))] [] trivial (by kernel_rfl) (by simp -implicitDefEqProofs) ?_
      exact (show ∃ _, _ from ⟨(aI .i64 i_35 1, (l36.set i_35.toNat e38)), leafL h1, (Ent.to 1 (by simp [fgt]) (by simp) (by simp) (by simp [bndT, bndV]) (by simp [bndM, bndV]))⟩)
    · replace h1 := iteF g37 h1
      refine VW.exit ?_
      have e_ := leafR h1
      subst w_1
      exact (show ∃ _, _ from ⟨l36, h, (Ent.to 1 (by simp [fgt]) (by simp) (by simp) (by simp [bndT, bndV]) (by simp [bndM, bndV]))⟩)
  · rintro l22 h
    replace h : (g45_j1 l22).bind _ = _ := h
    rw [g45_j1] at h
    refine VW.seq ?_
    refine VW.evalA (C := []) (tm 22 [(2, .ref 0 0 l22.length)]) [some (1, rows cf_f32 l22)] [] trivial (by kernel_rfl) (by simp -implicitDefEqProofs) ?_
    obtain rfl := leafS h
    refine VW.ret (VRet.fin ?_)
    simp [eB45]
noncomputable def g72_j1 (a : T109) : Option (T109) :=
  some a
noncomputable def g72 (a : T109) : Option (T109) :=
  g72_j1 a
def eA72 (a : T109) : List V := [.agg (pT109 a)]
def eB72 (r : T109) : V := .agg [.f .f32 r.a0_, .f .f32 r.a1_, .f .f32 r.a2_, .f .f32 r.a3_]
theorem inj72 (a a' : T109) (h : eA72 a = eA72 a') : a = a' := by
  obtain ⟨i555, i556, i557, i558⟩ := a
  obtain ⟨i559, i560, i561, i562⟩ := a'
  simp only [eA72, pT109, List.cons.injEq, V.i.injEq, V.b.injEq, V.f.injEq, V.str.injEq, V.sl.injEq, V.agg.injEq, V.cptr.injEq, true_and, and_true] at h
  simp_all
noncomputable def F72 : List V → Option V := tells (fun a => g72 a) eA72 eB72
set_option maxRecDepth 100000 in
set_option maxHeartbeats 4000000 in
/- loop.example/g01229/laws.toFloat32A4 -/
theorem ok72 : Tells Try.prog 72 F72 := by
  refine Tells.of (by kernel_rfl) ?_
  rintro a r h
  refine VCalls.nl (VCalls.of Try.func72 rfl rfl rfl ?_)
  rw [tm_init]
  simp only [eA72, en, List.length_cons, List.length_nil, Nat.reduceAdd, Nat.reduceSub]
  replace h : (g72 a).bind some = some r := bindS h
  rw [g72] at h
  refine VW.seq ?_
  refine VW.evalA (C := []) (tm 15 [(1, .ptr 0 0 0), (2, .ptr 1 0 0)]) [some (4, [(pT109 a)]), some (4, [[.f .f32 (some 0), .f .f32 (some 0), .f .f32 (some 0), .f .f32 (some 0)]])] [] trivial (by kernel_rfl) (by first | (simp -implicitDefEqProofs; done) | simp -implicitDefEqProofs [pT109]) ?_
  refine VW.seq ?_
  refine VW.evalA (C := []) (tm 15 [(1, .ptr 0 0 0), (2, .ptr 1 0 0), (3, .ptr 2 0 0)]) [some (4, [(pT109 a)]), some (4, [[.f .f32 (some 0), .f .f32 (some 0), .f .f32 (some 0), .f .f32 (some 0)]]), some (4, [[.f .f32 (some 0), .f .f32 (some 0), .f .f32 (some 0), .f .f32 (some 0)]])] [] trivial (by kernel_rfl) (by first | (simp -implicitDefEqProofs; done) | simp -implicitDefEqProofs [pT109]) ?_
  refine VW.join (fun (v : Unit) => (⟨(tm 15 [(2, .ptr 1 0 0), (3, .ptr 2 0 0)]), [some (4, [(pT109 a)]), some (4, [[.f .f32 (some 0), .f .f32 (some 0), .f .f32 (some 0), .f .f32 (some 0)]]), some (4, [(pT109 a)])], []⟩ : VS)) (fun v => (g72_j1 a).bind some = some r) ?_ ?_
  · refine VW.seq ?_
    refine VW.evalA (C := []) (tm 15 [(1, .ptr 0 0 0), (2, .ptr 1 0 0), (3, .ptr 2 0 0), (4, .i .i64 0)]) [some (4, [(pT109 a)]), some (4, [[.f .f32 (some 0), .f .f32 (some 0), .f .f32 (some 0), .f .f32 (some 0)]]), some (4, [[.f .f32 (some 0), .f .f32 (some 0), .f .f32 (some 0), .f .f32 (some 0)]])] [] trivial (by kernel_rfl) (by first | (simp -implicitDefEqProofs; done) | simp -implicitDefEqProofs [pT109]) ?_
    refine VW.block ?_
    refine VW.rounds 6 ?_
    refine VRounds.step ?_
    refine VW.seq ?_
    refine VW.seq ?_
    refine VW.evalA (C := []) (tm 15 [(1, .ptr 0 0 0), (2, .ptr 1 0 0), (3, .ptr 2 0 0), (4, .i .i64 0), (6, .b true)]) [some (4, [(pT109 a)]), some (4, [[.f .f32 (some 0), .f .f32 (some 0), .f .f32 (some 0), .f .f32 (some 0)]]), some (4, [[.f .f32 (some 0), .f .f32 (some 0), .f .f32 (some 0), .f .f32 (some 0)]])] [] trivial (by kernel_rfl) (by first | (simp -implicitDefEqProofs [(by decide : ltI 0 4 = true)]; done) | simp -implicitDefEqProofs [(by decide : ltI 0 4 = true), pT109]) ?_
    refine VW.condT (by simp) ?_
    refine VW.skip ?_
    refine VW.seq ?_
    refine VW.block ?_
    refine VW.evalA (C := []) (tm 15 [(1, .ptr 0 0 0), (2, .ptr 1 0 0), (3, .ptr 2 0 0), (4, .i .i64 0)]) [some (4, [(pT109 a)]), some (4, [[.f .f32 (some 0), .f .f32 (some 0), .f .f32 (some 0), .f .f32 (some 0)]]), some (4, [[.f .f32 a.a0_, .f .f32 (some 0), .f .f32 (some 0), .f .f32 (some 0)]])] [] trivial (by kernel_rfl) (by first | (simp -implicitDefEqProofs; done) | simp -implicitDefEqProofs [pT109]) ?_
    refine VW.evalA (C := []) (tm 15 [(1, .ptr 0 0 0), (2, .ptr 1 0 0), (3, .ptr 2 0 0), (4, .i .i64 1)]) [some (4, [(pT109 a)]), some (4, [[.f .f32 (some 0), .f .f32 (some 0), .f .f32 (some 0), .f .f32 (some 0)]]), some (4, [[.f .f32 a.a0_, .f .f32 (some 0), .f .f32 (some 0), .f .f32 (some 0)]])] [] trivial (by kernel_rfl) (by first | (simp -implicitDefEqProofs [(by decide : aI .i64 0 1 = 1)]; done) | simp -implicitDefEqProofs [(by decide : aI .i64 0 1 = 1), pT109]) ?_
    refine VRounds.step ?_
    refine VW.seq ?_
    refine VW.seq ?_
    refine VW.evalA (C := []) (tm 15 [(1, .ptr 0 0 0), (2, .ptr 1 0 0), (3, .ptr 2 0 0), (4, .i .i64 1), (6, .b true)]) [some (4, [(pT109 a)]), some (4, [[.f .f32 (some 0), .f .f32 (some 0), .f .f32 (some 0), .f .f32 (some 0)]]), some (4, [[.f .f32 a.a0_, .f .f32 (some 0), .f .f32 (some 0), .f .f32 (some 0)]])] [] trivial (by kernel_rfl) (by first | (simp -implicitDefEqProofs [(by decide : ltI 1 4 = true)]; done) | simp -implicitDefEqProofs [(by decide : ltI 1 4 = true), pT109]) ?_
    refine VW.condT (by simp) ?_
    refine VW.skip ?_
    refine VW.seq ?_
    refine VW.block ?_
    refine VW.evalA (C := []) (tm 15 [(1, .ptr 0 0 0), (2, .ptr 1 0 0), (3, .ptr 2 0 0), (4, .i .i64 1)]) [some (4, [(pT109 a)]), some (4, [[.f .f32 (some 0), .f .f32 (some 0), .f .f32 (some 0), .f .f32 (some 0)]]), some (4, [[.f .f32 a.a0_, .f .f32 a.a1_, .f .f32 (some 0), .f .f32 (some 0)]])] [] trivial (by kernel_rfl) (by first | (simp -implicitDefEqProofs; done) | simp -implicitDefEqProofs [pT109]) ?_
    refine VW.evalA (C := []) (tm 15 [(1, .ptr 0 0 0), (2, .ptr 1 0 0), (3, .ptr 2 0 0), (4, .i .i64 2)]) [some (4, [(pT109 a)]), some (4, [[.f .f32 (some 0), .f .f32 (some 0), .f .f32 (some 0), .f .f32 (some 0)]]), some (4, [[.f .f32 a.a0_, .f .f32 a.a1_, .f .f32 (some 0), .f .f32 (some 0)]])] [] trivial (by kernel_rfl) (by first | (simp -implicitDefEqProofs [(by decide : aI .i64 1 1 = 2)]; done) | simp -implicitDefEqProofs [(by decide : aI .i64 1 1 = 2), pT109]) ?_
    refine VRounds.step ?_
    refine VW.seq ?_
    refine VW.seq ?_
    refine VW.evalA (C := []) (tm 15 [(1, .ptr 0 0 0), (2, .ptr 1 0 0), (3, .ptr 2 0 0), (4, .i .i64 2), (6, .b true)]) [some (4, [(pT109 a)]), some (4, [[.f .f32 (some 0), .f .f32 (some 0), .f .f32 (some 0), .f .f32 (some 0)]]), some (4, [[.f .f32 a.a0_, .f .f32 a.a1_, .f .f32 (some 0), .f .f32 (some 0)]])] [] trivial (by kernel_rfl) (by first | (simp -implicitDefEqProofs [(by decide : ltI 2 4 = true)]; done) | simp -implicitDefEqProofs [(by decide : ltI 2 4 = true), pT109]) ?_
    refine VW.condT (by simp) ?_
    refine VW.skip ?_
    refine VW.seq ?_
    refine VW.block ?_
    refine VW.evalA (C := []) (tm 15 [(1, .ptr 0 0 0), (2, .ptr 1 0 0), (3, .ptr 2 0 0), (4, .i .i64 2)]) [some (4, [(pT109 a)]), some (4, [[.f .f32 (some 0), .f .f32 (some 0), .f .f32 (some 0), .f .f32 (some 0)]]), some (4, [[.f .f32 a.a0_, .f .f32 a.a1_, .f .f32 a.a2_, .f .f32 (some 0)]])] [] trivial (by kernel_rfl) (by first | (simp -implicitDefEqProofs; done) | simp -implicitDefEqProofs [pT109]) ?_
    refine VW.evalA (C := []) (tm 15 [(1, .ptr 0 0 0), (2, .ptr 1 0 0), (3, .ptr 2 0 0), (4, .i .i64 3)]) [some (4, [(pT109 a)]), some (4, [[.f .f32 (some 0), .f .f32 (some 0), .f .f32 (some 0), .f .f32 (some 0)]]), some (4, [[.f .f32 a.a0_, .f .f32 a.a1_, .f .f32 a.a2_, .f .f32 (some 0)]])] [] trivial (by kernel_rfl) (by first | (simp -implicitDefEqProofs [(by decide : aI .i64 2 1 = 3)]; done) | simp -implicitDefEqProofs [(by decide : aI .i64 2 1 = 3), pT109]) ?_
    refine VRounds.step ?_
    refine VW.seq ?_
    refine VW.seq ?_
    refine VW.evalA (C := []) (tm 15 [(1, .ptr 0 0 0), (2, .ptr 1 0 0), (3, .ptr 2 0 0), (4, .i .i64 3), (6, .b true)]) [some (4, [(pT109 a)]), some (4, [[.f .f32 (some 0), .f .f32 (some 0), .f .f32 (some 0), .f .f32 (some 0)]]), some (4, [[.f .f32 a.a0_, .f .f32 a.a1_, .f .f32 a.a2_, .f .f32 (some 0)]])] [] trivial (by kernel_rfl) (by first | (simp -implicitDefEqProofs [(by decide : ltI 3 4 = true)]; done) | simp -implicitDefEqProofs [(by decide : ltI 3 4 = true), pT109]) ?_
    refine VW.condT (by simp) ?_
    refine VW.skip ?_
    refine VW.seq ?_
    refine VW.block ?_
    refine VW.evalA (C := []) (tm 15 [(1, .ptr 0 0 0), (2, .ptr 1 0 0), (3, .ptr 2 0 0), (4, .i .i64 3)]) [some (4, [(pT109 a)]), some (4, [[.f .f32 (some 0), .f .f32 (some 0), .f .f32 (some 0), .f .f32 (some 0)]]), some (4, [(pT109 a)])] [] trivial (by kernel_rfl) (by first | (simp -implicitDefEqProofs; done) | simp -implicitDefEqProofs [pT109]) ?_
    refine VW.evalA (C := []) (tm 15 [(1, .ptr 0 0 0), (2, .ptr 1 0 0), (3, .ptr 2 0 0), (4, .i .i64 4)]) [some (4, [(pT109 a)]), some (4, [[.f .f32 (some 0), .f .f32 (some 0), .f .f32 (some 0), .f .f32 (some 0)]]), some (4, [(pT109 a)])] [] trivial (by kernel_rfl) (by first | (simp -implicitDefEqProofs [(by decide : aI .i64 3 1 = 4)]; done) | simp -implicitDefEqProofs [(by decide : aI .i64 3 1 = 4), pT109]) ?_
    refine VRounds.step ?_
    refine VW.seq ?_
    refine VW.seq ?_
    refine VW.evalA (C := []) (tm 15 [(1, .ptr 0 0 0), (2, .ptr 1 0 0), (3, .ptr 2 0 0), (4, .i .i64 4), (6, .b false)]) [some (4, [(pT109 a)]), some (4, [[.f .f32 (some 0), .f .f32 (some 0), .f .f32 (some 0), .f .f32 (some 0)]]), some (4, [(pT109 a)])] [] trivial (by kernel_rfl) (by first | (simp -implicitDefEqProofs [(by decide : ltI 4 4 = false)]; done) | simp -implicitDefEqProofs [(by decide : ltI 4 4 = false), pT109]) ?_
    refine VW.condF (by simp) ?_
    refine VW.exit ?_
    exact (show ∃ _, _ from ⟨(), h, (Ent.to 3 (by simp [fgt]) (by first | (simp; done) | simp [pT109]) (by simp) (by simp [bndT, bndV]) (by simp [bndM, bndV]))⟩)
  · rintro _ h
    replace h : (g72_j1 a).bind _ = _ := h
    rw [g72_j1] at h
    refine VW.seq ?_
    refine VW.evalA (C := []) (tm 15 [(2, .ptr 1 0 0)]) [some (4, [(pT109 a)]), some (4, [(pT109 a)]), some (4, [(pT109 a)])] [] trivial (by kernel_rfl) (by first | (simp -implicitDefEqProofs; done) | simp -implicitDefEqProofs [pT109]) ?_
    obtain rfl := leafS h
    refine VW.ret (VRet.fin ?_)
    first | (simp [eB72]; done) | simp [eB72, pT109]
noncomputable def g64 (a : T132) : Option (T132) :=
  (g72 a.heat_).bind fun r1 =>
  some (⟨a.a_, a.b_, a.lead_, a.store_, r1⟩ : T132)
def eA64 (a : T132) : List V := [.agg (pT132 a)]
def eB64 (r : T132) : V := .agg [.i .i64 r.a_, .i .i64 r.b_, .f .f32 r.lead_, .f .f32 r.store_, .f .f32 r.heat_.a0_, .f .f32 r.heat_.a1_, .f .f32 r.heat_.a2_, .f .f32 r.heat_.a3_]
theorem inj64 (a a' : T132) (h : eA64 a = eA64 a') : a = a' := by
  obtain ⟨i563, i564, i565, i566, ⟨i567, i568, i569, i570⟩⟩ := a
  obtain ⟨i571, i572, i573, i574, ⟨i575, i576, i577, i578⟩⟩ := a'
  simp only [eA64, pT132, List.cons.injEq, V.i.injEq, V.b.injEq, V.f.injEq, V.str.injEq, V.sl.injEq, V.agg.injEq, V.cptr.injEq, true_and, and_true] at h
  simp_all
noncomputable def F64c : List V → Option V := tells (fun a => g64 a) eA64 eB64
set_option maxRecDepth 100000 in
set_option maxHeartbeats 4000000 in
/- loop.example/g01229/laws.toWall -/
theorem ok64 : Tells Try.prog 64 F64c := by
  refine Tells.of (by kernel_rfl) ?_
  rintro a r h
  refine VCalls.nl (VCalls.of Try.func64 rfl rfl rfl ?_)
  rw [tm_init]
  simp only [eA64, en, List.length_cons, List.length_nil, Nat.reduceAdd, Nat.reduceSub]
  replace h : (g64 a).bind some = some r := bindS h
  rw [g64] at h
  refine VW.seq ?_
  refine VW.evalA (C := [(72, F72)]) (tm 21 [(1, .ptr 0 0 0), (2, .ptr 1 0 0)]) [some (8, [(pT132 a)]), some (8, [[.i .i64 0, .i .i64 0, .f .f32 (some 0), .f .f32 (some 0), .f .f32 (some 0), .f .f32 (some 0), .f .f32 (some 0), .f .f32 (some 0)]])] [] ⟨.inl ok72, trivial⟩ (by kernel_rfl) (by first | (simp -implicitDefEqProofs; done) | simp -implicitDefEqProofs [pT132]) ?_
  refine VW.seq ?_
  refine VW.evalA (C := [(72, F72)]) (tm 21 [(1, .ptr 0 0 0), (2, .ptr 1 0 0), (3, .ptr 2 0 0)]) [some (8, [(pT132 a)]), some (8, [[.i .i64 0, .i .i64 0, .f .f32 (some 0), .f .f32 (some 0), .f .f32 (some 0), .f .f32 (some 0), .f .f32 (some 0), .f .f32 (some 0)]]), some (8, [[.i .i64 0, .i .i64 0, .f .f32 (some 0), .f .f32 (some 0), .f .f32 (some 0), .f .f32 (some 0), .f .f32 (some 0), .f .f32 (some 0)]])] [] ⟨.inl ok72, trivial⟩ (by kernel_rfl) (by first | (simp -implicitDefEqProofs; done) | simp -implicitDefEqProofs [pT132]) ?_
  refine VW.seq ?_
  refine VW.evalA (C := [(72, F72)]) (tm 21 [(1, .ptr 0 0 0), (2, .ptr 1 0 0), (3, .ptr 2 0 0)]) [some (8, [(pT132 a)]), some (8, [[.i .i64 0, .i .i64 0, .f .f32 (some 0), .f .f32 (some 0), .f .f32 (some 0), .f .f32 (some 0), .f .f32 (some 0), .f .f32 (some 0)]]), some (8, [[.i .i64 a.a_, .i .i64 0, .f .f32 (some 0), .f .f32 (some 0), .f .f32 (some 0), .f .f32 (some 0), .f .f32 (some 0), .f .f32 (some 0)]])] [] ⟨.inl ok72, trivial⟩ (by kernel_rfl) (by first | (simp -implicitDefEqProofs; done) | simp -implicitDefEqProofs [pT132]) ?_
  refine VW.seq ?_
  refine VW.evalA (C := [(72, F72)]) (tm 21 [(1, .ptr 0 0 0), (2, .ptr 1 0 0), (3, .ptr 2 0 0)]) [some (8, [(pT132 a)]), some (8, [[.i .i64 0, .i .i64 0, .f .f32 (some 0), .f .f32 (some 0), .f .f32 (some 0), .f .f32 (some 0), .f .f32 (some 0), .f .f32 (some 0)]]), some (8, [[.i .i64 a.a_, .i .i64 a.b_, .f .f32 (some 0), .f .f32 (some 0), .f .f32 (some 0), .f .f32 (some 0), .f .f32 (some 0), .f .f32 (some 0)]])] [] ⟨.inl ok72, trivial⟩ (by kernel_rfl) (by first | (simp -implicitDefEqProofs; done) | simp -implicitDefEqProofs [pT132]) ?_
  refine VW.seq ?_
  refine VW.evalA (C := [(72, F72)]) (tm 21 [(1, .ptr 0 0 0), (2, .ptr 1 0 0), (3, .ptr 2 0 0)]) [some (8, [(pT132 a)]), some (8, [[.i .i64 0, .i .i64 0, .f .f32 (some 0), .f .f32 (some 0), .f .f32 (some 0), .f .f32 (some 0), .f .f32 (some 0), .f .f32 (some 0)]]), some (8, [[.i .i64 a.a_, .i .i64 a.b_, .f .f32 a.lead_, .f .f32 (some 0), .f .f32 (some 0), .f .f32 (some 0), .f .f32 (some 0), .f .f32 (some 0)]])] [] ⟨.inl ok72, trivial⟩ (by kernel_rfl) (by first | (simp -implicitDefEqProofs; done) | simp -implicitDefEqProofs [pT132]) ?_
  refine VW.seq ?_
  refine VW.evalA (C := [(72, F72)]) (tm 21 [(1, .ptr 0 0 0), (2, .ptr 1 0 0), (3, .ptr 2 0 0)]) [some (8, [(pT132 a)]), some (8, [[.i .i64 0, .i .i64 0, .f .f32 (some 0), .f .f32 (some 0), .f .f32 (some 0), .f .f32 (some 0), .f .f32 (some 0), .f .f32 (some 0)]]), some (8, [[.i .i64 a.a_, .i .i64 a.b_, .f .f32 a.lead_, .f .f32 a.store_, .f .f32 (some 0), .f .f32 (some 0), .f .f32 (some 0), .f .f32 (some 0)]])] [] ⟨.inl ok72, trivial⟩ (by kernel_rfl) (by first | (simp -implicitDefEqProofs; done) | simp -implicitDefEqProofs [pT132]) ?_
  refine VW.seq ?_
  obtain ⟨r1, q2, h⟩ := bindE h
  have c2 : F72 [.agg [.f .f32 a.heat_.a0_, .f .f32 a.heat_.a1_, .f .f32 a.heat_.a2_, .f .f32 a.heat_.a3_]] = some (.agg [.f .f32 r1.a0_, .f .f32 r1.a1_, .f .f32 r1.a2_, .f .f32 r1.a3_]) := tells_eq inj72 (a := a.heat_) q2
  refine VW.evalA (C := [(72, F72)]) (tm 21 [(2, .ptr 1 0 0), (3, .ptr 2 0 0)]) [some (8, [(pT132 a)]), some (8, [[.i .i64 0, .i .i64 0, .f .f32 (some 0), .f .f32 (some 0), .f .f32 (some 0), .f .f32 (some 0), .f .f32 (some 0), .f .f32 (some 0)]]), some (8, [[.i .i64 a.a_, .i .i64 a.b_, .f .f32 a.lead_, .f .f32 a.store_, .f .f32 r1.a0_, .f .f32 r1.a1_, .f .f32 r1.a2_, .f .f32 r1.a3_]])] [] ⟨.inl ok72, trivial⟩ (by kernel_rfl) (by first | (simp -implicitDefEqProofs [c2]; done) | simp -implicitDefEqProofs [c2, pT132]) ?_
  refine VW.seq ?_
  refine VW.evalA (C := [(72, F72)]) (tm 21 [(2, .ptr 1 0 0)]) [some (8, [(pT132 a)]), some (8, [[.i .i64 a.a_, .i .i64 a.b_, .f .f32 a.lead_, .f .f32 a.store_, .f .f32 r1.a0_, .f .f32 r1.a1_, .f .f32 r1.a2_, .f .f32 r1.a3_]]), some (8, [[.i .i64 a.a_, .i .i64 a.b_, .f .f32 a.lead_, .f .f32 a.store_, .f .f32 r1.a0_, .f .f32 r1.a1_, .f .f32 r1.a2_, .f .f32 r1.a3_]])] [] ⟨.inl ok72, trivial⟩ (by kernel_rfl) (by first | (simp -implicitDefEqProofs; done) | simp -implicitDefEqProofs [pT132]) ?_
  obtain rfl := leafS h
  refine VW.ret (VRet.fin ?_)
  first | (simp [eB64]; done) | simp [eB64, pT132]
noncomputable def g46_j1 (l28 : List T132) : Option (List T132) :=
  some l28
noncomputable def g46_L1 (a : List T132) : (Int × (List T132)) → Option ((Int × (List T132)) ⊕ (List T132))
  | (i_45, l46) =>
    if ltI i_45 (a.length : Int) = true then
      (idx a i_45).bind fun e48 =>
      (g64 e48).bind fun r50 =>
      (idx l46 i_45).bind fun e52 =>
      some (.inl (aI .i64 i_45 1, (l46.set i_45.toNat r50)))
    else
      some (.inr l46)
noncomputable def g46 (a : List T132) : Option (List T132) :=
  (mk 40 (a.length : Int)).bind fun u1 =>
  (loopO (g46_L1 a) (0, (List.replicate (a.length : Int).toNat (⟨0, 0, (some 0), (some 0), (⟨(some 0), (some 0), (some 0), (some 0)⟩ : T109)⟩ : T132)))).bind fun w => g46_j1 w
def eA46 (a : List T132) : List V := [.sl 8 (rows cT132 a)]
def eB46 (r : List T132) : V := .own 8 (rows cT132 r)
theorem inj46 (a a' : List T132) (h : eA46 a = eA46 a') : a = a' := by
  obtain i579 := a
  obtain i580 := a'
  simp only [eA46, List.cons.injEq, V.i.injEq, V.b.injEq, V.f.injEq, V.str.injEq, V.sl.injEq, V.agg.injEq, V.cptr.injEq, true_and, and_true] at h
  simp_all [ri cT132_inj]
noncomputable def F46 : List V → Option V := tells (fun a => g46 a) eA46 eB46
set_option maxRecDepth 100000 in
set_option maxHeartbeats 4000000 in
/- loop.example/g01229/laws.toWallS -/
theorem ok46 : Tells Try.prog 46 F46 := by
  refine Tells.of (by kernel_rfl) ?_
  rintro a r h
  refine VCalls.nl (VCalls.of Try.func46 rfl rfl rfl ?_)
  rw [tm_init]
  simp only [eA46, en, List.length_cons, List.length_nil, Nat.reduceAdd, Nat.reduceSub]
  replace h : (g46 a).bind some = some r := bindS h
  rw [g46] at h
  refine VW.seq ?_
  refine VW.evalA (C := [(64, F64c)]) (tm 23 [(0, .sl 8 (rows cT132 a))]) [] [] ⟨.inl ok64, trivial⟩ (by kernel_rfl) (by simp -implicitDefEqProofs) ?_
  refine VW.seq ?_
  obtain ⟨u1, q2, h⟩ := bindE h
  obtain ⟨f2a, f2b, f2c⟩ := mk_some q2
  try simp only [Int.toNat_natCast, Int.reduceToNat, List.length_cons, List.length_nil, Nat.reduceAdd, Nat.zero_add] at f2a f2b f2c
  refine VW.evalA (C := [(64, F64c)]) (tm 23 [(0, .sl 8 (rows cT132 a)), (3, .ref 0 0 (List.replicate (a.length : Int).toNat (⟨0, 0, (some 0), (some 0), (⟨(some 0), (some 0), (some 0), (some 0)⟩ : T109)⟩ : T132)).length)]) [some (8, rows cT132 (List.replicate (a.length : Int).toNat (⟨0, 0, (some 0), (some 0), (⟨(some 0), (some 0), (some 0), (some 0)⟩ : T109)⟩ : T132)))] [] ⟨.inl ok64, trivial⟩ (by kernel_rfl) (by simp -implicitDefEqProofs [f2a, f2b, f2c]) ?_
  refine VW.join (fun (v : List T132) => (⟨(tm 23 [(3, .ref 0 0 v.length)]), [some (8, rows cT132 v)], []⟩ : VS)) (fun v => (g46_j1 (v)).bind some = some r) ?_ ?_
  · refine VW.seq ?_
    refine VW.evalA (C := [(64, F64c)]) (tm 23 [(0, .sl 8 (rows cT132 a)), (3, .ref 0 0 (List.replicate (a.length : Int).toNat (⟨0, 0, (some 0), (some 0), (⟨(some 0), (some 0), (some 0), (some 0)⟩ : T109)⟩ : T132)).length), (4, .i .i64 0)]) [some (8, rows cT132 (List.replicate (a.length : Int).toNat (⟨0, 0, (some 0), (some 0), (⟨(some 0), (some 0), (some 0), (some 0)⟩ : T109)⟩ : T132)))] [] ⟨.inl ok64, trivial⟩ (by kernel_rfl) (by simp -implicitDefEqProofs) ?_
    refine VW.block ?_
    obtain ⟨w_1, hw_1, h⟩ := bindE h
    refine VW.loopO (fun (x : Int × (List T132)) => (⟨(tm 23 [(0, .sl 8 (rows cT132 a)), (3, .ref 0 0 x.2.length), (4, .i .i64 x.1)]), [some (8, rows cT132 x.2)], []⟩ : VS)) hw_1 (Ent.to 1 (by simp [fgt]) (by simp) (by simp) (by simp [bndT, bndV]) (by simp [bndM, bndV])) ?_
    rintro n_1 ⟨i_45, l46⟩ h1
    rw [g46_L1] at h1
    refine VW.seq ?_
    refine VW.seq ?_
    refine VW.evalA (C := [(64, F64c)]) (tm 23 [(0, .sl 8 (rows cT132 a)), (3, .ref 0 0 l46.length), (4, .i .i64 i_45), (11, .b (ltI i_45 (a.length : Int)))]) [some (8, rows cT132 l46)] [] ⟨.inl ok64, trivial⟩ (by kernel_rfl) (by simp -implicitDefEqProofs) ?_
    refine VW.condB (b := ltI i_45 (a.length : Int)) (by simp) (fun g47 => ?_) (fun g47 => ?_)
    · replace h1 := iteT g47 h1
      refine VW.skip ?_
      refine VW.seq ?_
      refine VW.block ?_
      obtain ⟨e48, q49, h1⟩ := bindE h1
      obtain ⟨f49a, f49b, f49c, f49d⟩ := idx_some q49
      obtain ⟨r50, q51, h1⟩ := bindE h1
      have c51 : F64c [.agg [.i .i64 e48.a_, .i .i64 e48.b_, .f .f32 e48.lead_, .f .f32 e48.store_, .f .f32 e48.heat_.a0_, .f .f32 e48.heat_.a1_, .f .f32 e48.heat_.a2_, .f .f32 e48.heat_.a3_]] = some (.agg [.i .i64 r50.a_, .i .i64 r50.b_, .f .f32 r50.lead_, .f .f32 r50.store_, .f .f32 r50.heat_.a0_, .f .f32 r50.heat_.a1_, .f .f32 r50.heat_.a2_, .f .f32 r50.heat_.a3_]) := tells_eq inj64 (a := e48) q51
      obtain ⟨e52, q53, h1⟩ := bindE h1
      obtain ⟨f53a, f53b, f53c, f53d⟩ := idx_some q53
      refine VW.evalA (C := [(64, F64c)]) (tm 23 [(0, .sl 8 (rows cT132 a)), (3, .ref 0 0 (l46.set i_45.toNat r50).length), (4, .i .i64 i_45)]) [some (8, rows cT132 (l46.set i_45.toNat r50))] [] ⟨.inl ok64, trivial⟩ (by kernel_rfl) (by simp -implicitDefEqProofs [f49a, f49b, f49c, f49d, c51, f53a, f53b, f53c, f53d]) ?_
      refine VW.evalA (C := [(64, F64c)]) (tm 23 [(0, .sl 8 (rows cT132 a)), (3, .ref 0 0 (l46.set i_45.toNat r50).length), (4, .i .i64 (aI .i64 i_45 1))]) [some (8, rows cT132 (l46.set i_45.toNat r50))] [] ⟨.inl ok64, trivial⟩ (by kernel_rfl) (by simp -implicitDefEqProofs) ?_
      exact (show ∃ _, _ from ⟨(aI .i64 i_45 1, (l46.set i_45.toNat r50)), leafL h1, (Ent.to 1 (by simp [fgt]) (by simp) (by simp) (by simp [bndT, bndV]) (by simp [bndM, bndV]))⟩)
    · replace h1 := iteF g47 h1
      refine VW.exit ?_
      have e_ := leafR h1
      subst w_1
      exact (show ∃ _, _ from ⟨l46, h, (Ent.to 1 (by simp [fgt]) (by simp) (by simp) (by simp [bndT, bndV]) (by simp [bndM, bndV]))⟩)
  · rintro l28 h
    replace h : (g46_j1 l28).bind _ = _ := h
    rw [g46_j1] at h
    refine VW.seq ?_
    refine VW.evalA (C := [(64, F64c)]) (tm 23 [(2, .ref 0 0 l28.length)]) [some (8, rows cT132 l28)] [] ⟨.inl ok64, trivial⟩ (by kernel_rfl) (by simp -implicitDefEqProofs) ?_
    obtain rfl := leafS h
    refine VW.ret (VRet.fin ?_)
    simp [eB46]
noncomputable def g65 (a : T134) : Option (T134) :=
  some a
def eA65 (a : T134) : List V := [.agg (pT134 a)]
def eB65 (r : T134) : V := .agg [.i .i64 r.a_, .i .i64 r.b_, .f .f32 r.lead_, .f .f32 r.sun_]
theorem inj65 (a a' : T134) (h : eA65 a = eA65 a') : a = a' := by
  obtain ⟨i581, i582, i583, i584⟩ := a
  obtain ⟨i585, i586, i587, i588⟩ := a'
  simp only [eA65, pT134, List.cons.injEq, V.i.injEq, V.b.injEq, V.f.injEq, V.str.injEq, V.sl.injEq, V.agg.injEq, V.cptr.injEq, true_and, and_true] at h
  simp_all
noncomputable def F65 : List V → Option V := tells (fun a => g65 a) eA65 eB65
set_option maxRecDepth 100000 in
set_option maxHeartbeats 4000000 in
/- loop.example/g01229/laws.toPane -/
theorem ok65 : Tells Try.prog 65 F65 := by
  refine Tells.of (by kernel_rfl) ?_
  rintro a r h
  refine VCalls.nl (VCalls.of Try.func65 rfl rfl rfl ?_)
  rw [tm_init]
  simp only [eA65, en, List.length_cons, List.length_nil, Nat.reduceAdd, Nat.reduceSub]
  replace h : (g65 a).bind some = some r := bindS h
  rw [g65] at h
  refine VW.seq ?_
  refine VW.evalA (C := []) (tm 17 [(1, .ptr 0 0 0), (2, .ptr 1 0 0)]) [some (4, [(pT134 a)]), some (4, [[.i .i64 0, .i .i64 0, .f .f32 (some 0), .f .f32 (some 0)]])] [] trivial (by kernel_rfl) (by first | (simp -implicitDefEqProofs; done) | simp -implicitDefEqProofs [pT134]) ?_
  refine VW.seq ?_
  refine VW.evalA (C := []) (tm 17 [(1, .ptr 0 0 0), (2, .ptr 1 0 0), (3, .ptr 2 0 0)]) [some (4, [(pT134 a)]), some (4, [[.i .i64 0, .i .i64 0, .f .f32 (some 0), .f .f32 (some 0)]]), some (4, [[.i .i64 0, .i .i64 0, .f .f32 (some 0), .f .f32 (some 0)]])] [] trivial (by kernel_rfl) (by first | (simp -implicitDefEqProofs; done) | simp -implicitDefEqProofs [pT134]) ?_
  refine VW.seq ?_
  refine VW.evalA (C := []) (tm 17 [(1, .ptr 0 0 0), (2, .ptr 1 0 0), (3, .ptr 2 0 0)]) [some (4, [(pT134 a)]), some (4, [[.i .i64 0, .i .i64 0, .f .f32 (some 0), .f .f32 (some 0)]]), some (4, [[.i .i64 a.a_, .i .i64 0, .f .f32 (some 0), .f .f32 (some 0)]])] [] trivial (by kernel_rfl) (by first | (simp -implicitDefEqProofs; done) | simp -implicitDefEqProofs [pT134]) ?_
  refine VW.seq ?_
  refine VW.evalA (C := []) (tm 17 [(1, .ptr 0 0 0), (2, .ptr 1 0 0), (3, .ptr 2 0 0)]) [some (4, [(pT134 a)]), some (4, [[.i .i64 0, .i .i64 0, .f .f32 (some 0), .f .f32 (some 0)]]), some (4, [[.i .i64 a.a_, .i .i64 a.b_, .f .f32 (some 0), .f .f32 (some 0)]])] [] trivial (by kernel_rfl) (by first | (simp -implicitDefEqProofs; done) | simp -implicitDefEqProofs [pT134]) ?_
  refine VW.seq ?_
  refine VW.evalA (C := []) (tm 17 [(1, .ptr 0 0 0), (2, .ptr 1 0 0), (3, .ptr 2 0 0)]) [some (4, [(pT134 a)]), some (4, [[.i .i64 0, .i .i64 0, .f .f32 (some 0), .f .f32 (some 0)]]), some (4, [[.i .i64 a.a_, .i .i64 a.b_, .f .f32 a.lead_, .f .f32 (some 0)]])] [] trivial (by kernel_rfl) (by first | (simp -implicitDefEqProofs; done) | simp -implicitDefEqProofs [pT134]) ?_
  refine VW.seq ?_
  refine VW.evalA (C := []) (tm 17 [(2, .ptr 1 0 0), (3, .ptr 2 0 0)]) [some (4, [(pT134 a)]), some (4, [[.i .i64 0, .i .i64 0, .f .f32 (some 0), .f .f32 (some 0)]]), some (4, [(pT134 a)])] [] trivial (by kernel_rfl) (by first | (simp -implicitDefEqProofs; done) | simp -implicitDefEqProofs [pT134]) ?_
  refine VW.seq ?_
  refine VW.evalA (C := []) (tm 17 [(2, .ptr 1 0 0)]) [some (4, [(pT134 a)]), some (4, [(pT134 a)]), some (4, [(pT134 a)])] [] trivial (by kernel_rfl) (by first | (simp -implicitDefEqProofs; done) | simp -implicitDefEqProofs [pT134]) ?_
  obtain rfl := leafS h
  refine VW.ret (VRet.fin ?_)
  first | (simp [eB65]; done) | simp [eB65, pT134]
noncomputable def g47_j1 (l28 : List T134) : Option (List T134) :=
  some l28
noncomputable def g47_L1 (a : List T134) : (Int × (List T134)) → Option ((Int × (List T134)) ⊕ (List T134))
  | (i_45, l46) =>
    if ltI i_45 (a.length : Int) = true then
      (idx a i_45).bind fun e48 =>
      (g65 e48).bind fun r50 =>
      (idx l46 i_45).bind fun e52 =>
      some (.inl (aI .i64 i_45 1, (l46.set i_45.toNat r50)))
    else
      some (.inr l46)
noncomputable def g47 (a : List T134) : Option (List T134) :=
  (mk 24 (a.length : Int)).bind fun u1 =>
  (loopO (g47_L1 a) (0, (List.replicate (a.length : Int).toNat (⟨0, 0, (some 0), (some 0)⟩ : T134)))).bind fun w => g47_j1 w
def eA47 (a : List T134) : List V := [.sl 4 (rows cT134 a)]
def eB47 (r : List T134) : V := .own 4 (rows cT134 r)
theorem inj47 (a a' : List T134) (h : eA47 a = eA47 a') : a = a' := by
  obtain i589 := a
  obtain i590 := a'
  simp only [eA47, List.cons.injEq, V.i.injEq, V.b.injEq, V.f.injEq, V.str.injEq, V.sl.injEq, V.agg.injEq, V.cptr.injEq, true_and, and_true] at h
  simp_all [ri cT134_inj]
noncomputable def F47 : List V → Option V := tells (fun a => g47 a) eA47 eB47
set_option maxRecDepth 100000 in
set_option maxHeartbeats 4000000 in
/- loop.example/g01229/laws.toPaneS -/
theorem ok47 : Tells Try.prog 47 F47 := by
  refine Tells.of (by kernel_rfl) ?_
  rintro a r h
  refine VCalls.nl (VCalls.of Try.func47 rfl rfl rfl ?_)
  rw [tm_init]
  simp only [eA47, en, List.length_cons, List.length_nil, Nat.reduceAdd, Nat.reduceSub]
  replace h : (g47 a).bind some = some r := bindS h
  rw [g47] at h
  refine VW.seq ?_
  refine VW.evalA (C := [(65, F65)]) (tm 23 [(0, .sl 4 (rows cT134 a))]) [] [] ⟨.inl ok65, trivial⟩ (by kernel_rfl) (by simp -implicitDefEqProofs) ?_
  refine VW.seq ?_
  obtain ⟨u1, q2, h⟩ := bindE h
  obtain ⟨f2a, f2b, f2c⟩ := mk_some q2
  try simp only [Int.toNat_natCast, Int.reduceToNat, List.length_cons, List.length_nil, Nat.reduceAdd, Nat.zero_add] at f2a f2b f2c
  refine VW.evalA (C := [(65, F65)]) (tm 23 [(0, .sl 4 (rows cT134 a)), (3, .ref 0 0 (List.replicate (a.length : Int).toNat (⟨0, 0, (some 0), (some 0)⟩ : T134)).length)]) [some (4, rows cT134 (List.replicate (a.length : Int).toNat (⟨0, 0, (some 0), (some 0)⟩ : T134)))] [] ⟨.inl ok65, trivial⟩ (by kernel_rfl) (by simp -implicitDefEqProofs [f2a, f2b, f2c]) ?_
  refine VW.join (fun (v : List T134) => (⟨(tm 23 [(3, .ref 0 0 v.length)]), [some (4, rows cT134 v)], []⟩ : VS)) (fun v => (g47_j1 (v)).bind some = some r) ?_ ?_
  · refine VW.seq ?_
    refine VW.evalA (C := [(65, F65)]) (tm 23 [(0, .sl 4 (rows cT134 a)), (3, .ref 0 0 (List.replicate (a.length : Int).toNat (⟨0, 0, (some 0), (some 0)⟩ : T134)).length), (4, .i .i64 0)]) [some (4, rows cT134 (List.replicate (a.length : Int).toNat (⟨0, 0, (some 0), (some 0)⟩ : T134)))] [] ⟨.inl ok65, trivial⟩ (by kernel_rfl) (by simp -implicitDefEqProofs) ?_
    refine VW.block ?_
    obtain ⟨w_1, hw_1, h⟩ := bindE h
    refine VW.loopO (fun (x : Int × (List T134)) => (⟨(tm 23 [(0, .sl 4 (rows cT134 a)), (3, .ref 0 0 x.2.length), (4, .i .i64 x.1)]), [some (4, rows cT134 x.2)], []⟩ : VS)) hw_1 (Ent.to 1 (by simp [fgt]) (by simp) (by simp) (by simp [bndT, bndV]) (by simp [bndM, bndV])) ?_
    rintro n_1 ⟨i_45, l46⟩ h1
    rw [g47_L1] at h1
    refine VW.seq ?_
    refine VW.seq ?_
    refine VW.evalA (C := [(65, F65)]) (tm 23 [(0, .sl 4 (rows cT134 a)), (3, .ref 0 0 l46.length), (4, .i .i64 i_45), (11, .b (ltI i_45 (a.length : Int)))]) [some (4, rows cT134 l46)] [] ⟨.inl ok65, trivial⟩ (by kernel_rfl) (by simp -implicitDefEqProofs) ?_
    refine VW.condB (b := ltI i_45 (a.length : Int)) (by simp) (fun g47 => ?_) (fun g47 => ?_)
    · replace h1 := iteT g47 h1
      refine VW.skip ?_
      refine VW.seq ?_
      refine VW.block ?_
      obtain ⟨e48, q49, h1⟩ := bindE h1
      obtain ⟨f49a, f49b, f49c, f49d⟩ := idx_some q49
      obtain ⟨r50, q51, h1⟩ := bindE h1
      have c51 : F65 [.agg [.i .i64 e48.a_, .i .i64 e48.b_, .f .f32 e48.lead_, .f .f32 e48.sun_]] = some (.agg [.i .i64 r50.a_, .i .i64 r50.b_, .f .f32 r50.lead_, .f .f32 r50.sun_]) := tells_eq inj65 (a := e48) q51
      obtain ⟨e52, q53, h1⟩ := bindE h1
      obtain ⟨f53a, f53b, f53c, f53d⟩ := idx_some q53
      refine VW.evalA (C := [(65, F65)]) (tm 23 [(0, .sl 4 (rows cT134 a)), (3, .ref 0 0 (l46.set i_45.toNat r50).length), (4, .i .i64 i_45)]) [some (4, rows cT134 (l46.set i_45.toNat r50))] [] ⟨.inl ok65, trivial⟩ (by kernel_rfl) (by simp -implicitDefEqProofs [f49a, f49b, f49c, f49d, c51, f53a, f53b, f53c, f53d]) ?_
      refine VW.evalA (C := [(65, F65)]) (tm 23 [(0, .sl 4 (rows cT134 a)), (3, .ref 0 0 (l46.set i_45.toNat r50).length), (4, .i .i64 (aI .i64 i_45 1))]) [some (4, rows cT134 (l46.set i_45.toNat r50))] [] ⟨.inl ok65, trivial⟩ (by kernel_rfl) (by simp -implicitDefEqProofs) ?_
      exact (show ∃ _, _ from ⟨(aI .i64 i_45 1, (l46.set i_45.toNat r50)), leafL h1, (Ent.to 1 (by simp [fgt]) (by simp) (by simp) (by simp [bndT, bndV]) (by simp [bndM, bndV]))⟩)
    · replace h1 := iteF g47 h1
      refine VW.exit ?_
      have e_ := leafR h1
      subst w_1
      exact (show ∃ _, _ from ⟨l46, h, (Ent.to 1 (by simp [fgt]) (by simp) (by simp) (by simp [bndT, bndV]) (by simp [bndM, bndV]))⟩)
  · rintro l28 h
    replace h : (g47_j1 l28).bind _ = _ := h
    rw [g47_j1] at h
    refine VW.seq ?_
    refine VW.evalA (C := [(65, F65)]) (tm 23 [(2, .ref 0 0 l28.length)]) [some (4, rows cT134 l28)] [] ⟨.inl ok65, trivial⟩ (by kernel_rfl) (by simp -implicitDefEqProofs) ?_
    obtain rfl := leafS h
    refine VW.ret (VRet.fin ?_)
    simp [eB47]
noncomputable def g20 (a : T30) : Option (T30) :=
  (g45 a.heat_).bind fun r1 =>
  (g45 a.store_).bind fun r3 =>
  (g46 a.walls_).bind fun r5 =>
  (g47 a.panes_).bind fun r7 =>
  some (⟨r1, r3, r5, r7⟩ : T30)
def eA20 (a : T30) : List V := [.agg (pT30 a)]
def eB20 (r : T30) : V := .agg [.own 1 (rows cf_f32 r.heat_), .own 1 (rows cf_f32 r.store_), .own 8 (rows cT132 r.walls_), .own 4 (rows cT134 r.panes_)]
theorem inj20 (a a' : T30) (h : eA20 a = eA20 a') : a = a' := by
  obtain ⟨i591, i592, i593, i594⟩ := a
  obtain ⟨i595, i596, i597, i598⟩ := a'
  simp only [eA20, pT30, List.cons.injEq, V.i.injEq, V.b.injEq, V.f.injEq, V.str.injEq, V.sl.injEq, V.agg.injEq, V.cptr.injEq, true_and, and_true] at h
  simp_all [ri cT132_inj, ri cT134_inj, ri cf_f32_inj]
noncomputable def F20 : List V → Option V := tells (fun a => g20 a) eA20 eB20
set_option maxRecDepth 100000 in
set_option maxHeartbeats 4000000 in
/- loop.example/g01229/laws.toFlat -/
theorem ok20 : Tells Try.prog 20 F20 := by
  refine Tells.of (by kernel_rfl) ?_
  rintro a r h
  refine VCalls.nl (VCalls.of Try.func20 rfl rfl rfl ?_)
  rw [tm_init]
  simp only [eA20, en, List.length_cons, List.length_nil, Nat.reduceAdd, Nat.reduceSub]
  replace h : (g20 a).bind some = some r := bindS h
  rw [g20] at h
  refine VW.seq ?_
  refine VW.evalA (C := [(45, F45), (46, F46), (47, F47)]) (tm 21 [(1, .ptr 0 0 0), (2, .ptr 1 0 0)]) [some (4, [(pT30 a)]), some (4, [[.nil, .nil, .nil, .nil]])] [] ⟨.inl ok45, .inl ok46, .inl ok47, trivial⟩ (by kernel_rfl) (by first | (simp -implicitDefEqProofs; done) | simp -implicitDefEqProofs [pT30]) ?_
  refine VW.seq ?_
  refine VW.evalA (C := [(45, F45), (46, F46), (47, F47)]) (tm 21 [(1, .ptr 0 0 0), (2, .ptr 1 0 0), (3, .ptr 2 0 0)]) [some (4, [(pT30 a)]), some (4, [[.nil, .nil, .nil, .nil]]), some (4, [[.nil, .nil, .nil, .nil]])] [] ⟨.inl ok45, .inl ok46, .inl ok47, trivial⟩ (by kernel_rfl) (by first | (simp -implicitDefEqProofs; done) | simp -implicitDefEqProofs [pT30]) ?_
  refine VW.seq ?_
  obtain ⟨r1, q2, h⟩ := bindE h
  have c2 : F45 [.sl 1 (rows cf_f32 a.heat_)] = some (.own 1 (rows cf_f32 r1)) := tells_eq inj45 (a := a.heat_) q2
  refine VW.evalA (C := [(45, F45), (46, F46), (47, F47)]) (tm 21 [(1, .ptr 0 0 0), (2, .ptr 1 0 0), (3, .ptr 2 0 0)]) [some (4, [(pT30 a)]), some (4, [[.nil, .nil, .nil, .nil]]), some (4, [[.ref 3 0 r1.length, .nil, .nil, .nil]]), some (1, rows cf_f32 r1)] [] ⟨.inl ok45, .inl ok46, .inl ok47, trivial⟩ (by kernel_rfl) (by first | (simp -implicitDefEqProofs [c2]; done) | simp -implicitDefEqProofs [c2, pT30]) ?_
  refine VW.seq ?_
  obtain ⟨r3, q4, h⟩ := bindE h
  have c4 : F45 [.sl 1 (rows cf_f32 a.store_)] = some (.own 1 (rows cf_f32 r3)) := tells_eq inj45 (a := a.store_) q4
  refine VW.evalA (C := [(45, F45), (46, F46), (47, F47)]) (tm 21 [(1, .ptr 0 0 0), (2, .ptr 1 0 0), (3, .ptr 2 0 0)]) [some (4, [(pT30 a)]), some (4, [[.nil, .nil, .nil, .nil]]), some (4, [[.ref 3 0 r1.length, .ref 4 0 r3.length, .nil, .nil]]), some (1, rows cf_f32 r1), some (1, rows cf_f32 r3)] [] ⟨.inl ok45, .inl ok46, .inl ok47, trivial⟩ (by kernel_rfl) (by first | (simp -implicitDefEqProofs [c4]; done) | simp -implicitDefEqProofs [c4, pT30]) ?_
  refine VW.seq ?_
  obtain ⟨r5, q6, h⟩ := bindE h
  have c6 : F46 [.sl 8 (rows cT132 a.walls_)] = some (.own 8 (rows cT132 r5)) := tells_eq inj46 (a := a.walls_) q6
  refine VW.evalA (C := [(45, F45), (46, F46), (47, F47)]) (tm 21 [(1, .ptr 0 0 0), (2, .ptr 1 0 0), (3, .ptr 2 0 0)]) [some (4, [(pT30 a)]), some (4, [[.nil, .nil, .nil, .nil]]), some (4, [[.ref 3 0 r1.length, .ref 4 0 r3.length, .ref 5 0 r5.length, .nil]]), some (1, rows cf_f32 r1), some (1, rows cf_f32 r3), some (8, rows cT132 r5)] [] ⟨.inl ok45, .inl ok46, .inl ok47, trivial⟩ (by kernel_rfl) (by first | (simp -implicitDefEqProofs [c6]; done) | simp -implicitDefEqProofs [c6, pT30]) ?_
  refine VW.seq ?_
  obtain ⟨r7, q8, h⟩ := bindE h
  have c8 : F47 [.sl 4 (rows cT134 a.panes_)] = some (.own 4 (rows cT134 r7)) := tells_eq inj47 (a := a.panes_) q8
  refine VW.evalA (C := [(45, F45), (46, F46), (47, F47)]) (tm 21 [(2, .ptr 1 0 0), (3, .ptr 2 0 0)]) [some (4, [(pT30 a)]), some (4, [[.nil, .nil, .nil, .nil]]), some (4, [[.ref 3 0 r1.length, .ref 4 0 r3.length, .ref 5 0 r5.length, .ref 6 0 r7.length]]), some (1, rows cf_f32 r1), some (1, rows cf_f32 r3), some (8, rows cT132 r5), some (4, rows cT134 r7)] [] ⟨.inl ok45, .inl ok46, .inl ok47, trivial⟩ (by kernel_rfl) (by first | (simp -implicitDefEqProofs [c8]; done) | simp -implicitDefEqProofs [c8, pT30]) ?_
  refine VW.seq ?_
  refine VW.evalA (C := [(45, F45), (46, F46), (47, F47)]) (tm 21 [(2, .ptr 1 0 0)]) [some (4, [(pT30 a)]), some (4, [[.ref 3 0 r1.length, .ref 4 0 r3.length, .ref 5 0 r5.length, .ref 6 0 r7.length]]), some (4, [[.ref 3 0 r1.length, .ref 4 0 r3.length, .ref 5 0 r5.length, .ref 6 0 r7.length]]), some (1, rows cf_f32 r1), some (1, rows cf_f32 r3), some (8, rows cT132 r5), some (4, rows cT134 r7)] [] ⟨.inl ok45, .inl ok46, .inl ok47, trivial⟩ (by kernel_rfl) (by first | (simp -implicitDefEqProofs; done) | simp -implicitDefEqProofs [pT30]) ?_
  obtain rfl := leafS h
  refine VW.ret (VRet.fin ?_)
  first | (simp [eB20]; done) | simp [eB20, pT30]
noncomputable def g48 (a : T105) : Option (T105) :=
  some a
def eA48 (a : T105) : List V := [.agg (pT105 a)]
def eB48 (r : T105) : V := .agg [.f .f32 r.burnt_, .f .f32 r.steam_, .f .f32 r.up_, .f .f32 r.lost_, .i .i64 r.smoky_]
theorem inj48 (a a' : T105) (h : eA48 a = eA48 a') : a = a' := by
  obtain ⟨i599, i600, i601, i602, i603⟩ := a
  obtain ⟨i604, i605, i606, i607, i608⟩ := a'
  simp only [eA48, pT105, List.cons.injEq, V.i.injEq, V.b.injEq, V.f.injEq, V.str.injEq, V.sl.injEq, V.agg.injEq, V.cptr.injEq, true_and, and_true] at h
  simp_all
noncomputable def F48 : List V → Option V := tells (fun a => g48 a) eA48 eB48
set_option maxRecDepth 100000 in
set_option maxHeartbeats 4000000 in
/- loop.example/g01229/laws.toFlue -/
theorem ok48 : Tells Try.prog 48 F48 := by
  refine Tells.of (by kernel_rfl) ?_
  rintro a r h
  refine VCalls.nl (VCalls.of Try.func48 rfl rfl rfl ?_)
  rw [tm_init]
  simp only [eA48, en, List.length_cons, List.length_nil, Nat.reduceAdd, Nat.reduceSub]
  replace h : (g48 a).bind some = some r := bindS h
  rw [g48] at h
  refine VW.seq ?_
  refine VW.evalA (C := []) (tm 20 [(1, .ptr 0 0 0), (2, .ptr 1 0 0)]) [some (5, [(pT105 a)]), some (5, [[.f .f32 (some 0), .f .f32 (some 0), .f .f32 (some 0), .f .f32 (some 0), .i .i64 0]])] [] trivial (by kernel_rfl) (by first | (simp -implicitDefEqProofs; done) | simp -implicitDefEqProofs [pT105]) ?_
  refine VW.seq ?_
  refine VW.evalA (C := []) (tm 20 [(1, .ptr 0 0 0), (2, .ptr 1 0 0), (3, .ptr 2 0 0)]) [some (5, [(pT105 a)]), some (5, [[.f .f32 (some 0), .f .f32 (some 0), .f .f32 (some 0), .f .f32 (some 0), .i .i64 0]]), some (5, [[.f .f32 (some 0), .f .f32 (some 0), .f .f32 (some 0), .f .f32 (some 0), .i .i64 0]])] [] trivial (by kernel_rfl) (by first | (simp -implicitDefEqProofs; done) | simp -implicitDefEqProofs [pT105]) ?_
  refine VW.seq ?_
  refine VW.evalA (C := []) (tm 20 [(1, .ptr 0 0 0), (2, .ptr 1 0 0), (3, .ptr 2 0 0)]) [some (5, [(pT105 a)]), some (5, [[.f .f32 (some 0), .f .f32 (some 0), .f .f32 (some 0), .f .f32 (some 0), .i .i64 0]]), some (5, [[.f .f32 a.burnt_, .f .f32 (some 0), .f .f32 (some 0), .f .f32 (some 0), .i .i64 0]])] [] trivial (by kernel_rfl) (by first | (simp -implicitDefEqProofs; done) | simp -implicitDefEqProofs [pT105]) ?_
  refine VW.seq ?_
  refine VW.evalA (C := []) (tm 20 [(1, .ptr 0 0 0), (2, .ptr 1 0 0), (3, .ptr 2 0 0)]) [some (5, [(pT105 a)]), some (5, [[.f .f32 (some 0), .f .f32 (some 0), .f .f32 (some 0), .f .f32 (some 0), .i .i64 0]]), some (5, [[.f .f32 a.burnt_, .f .f32 a.steam_, .f .f32 (some 0), .f .f32 (some 0), .i .i64 0]])] [] trivial (by kernel_rfl) (by first | (simp -implicitDefEqProofs; done) | simp -implicitDefEqProofs [pT105]) ?_
  refine VW.seq ?_
  refine VW.evalA (C := []) (tm 20 [(1, .ptr 0 0 0), (2, .ptr 1 0 0), (3, .ptr 2 0 0)]) [some (5, [(pT105 a)]), some (5, [[.f .f32 (some 0), .f .f32 (some 0), .f .f32 (some 0), .f .f32 (some 0), .i .i64 0]]), some (5, [[.f .f32 a.burnt_, .f .f32 a.steam_, .f .f32 a.up_, .f .f32 (some 0), .i .i64 0]])] [] trivial (by kernel_rfl) (by first | (simp -implicitDefEqProofs; done) | simp -implicitDefEqProofs [pT105]) ?_
  refine VW.seq ?_
  refine VW.evalA (C := []) (tm 20 [(1, .ptr 0 0 0), (2, .ptr 1 0 0), (3, .ptr 2 0 0)]) [some (5, [(pT105 a)]), some (5, [[.f .f32 (some 0), .f .f32 (some 0), .f .f32 (some 0), .f .f32 (some 0), .i .i64 0]]), some (5, [[.f .f32 a.burnt_, .f .f32 a.steam_, .f .f32 a.up_, .f .f32 a.lost_, .i .i64 0]])] [] trivial (by kernel_rfl) (by first | (simp -implicitDefEqProofs; done) | simp -implicitDefEqProofs [pT105]) ?_
  refine VW.seq ?_
  refine VW.evalA (C := []) (tm 20 [(2, .ptr 1 0 0), (3, .ptr 2 0 0)]) [some (5, [(pT105 a)]), some (5, [[.f .f32 (some 0), .f .f32 (some 0), .f .f32 (some 0), .f .f32 (some 0), .i .i64 0]]), some (5, [(pT105 a)])] [] trivial (by kernel_rfl) (by first | (simp -implicitDefEqProofs; done) | simp -implicitDefEqProofs [pT105]) ?_
  refine VW.seq ?_
  refine VW.evalA (C := []) (tm 20 [(2, .ptr 1 0 0)]) [some (5, [(pT105 a)]), some (5, [(pT105 a)]), some (5, [(pT105 a)])] [] trivial (by kernel_rfl) (by first | (simp -implicitDefEqProofs; done) | simp -implicitDefEqProofs [pT105]) ?_
  obtain rfl := leafS h
  refine VW.ret (VRet.fin ?_)
  first | (simp [eB48]; done) | simp [eB48, pT105]
noncomputable def g21_j1 (l28 : List T105) : Option (List T105) :=
  some l28
noncomputable def g21_L1 (a : List T105) : (Int × (List T105)) → Option ((Int × (List T105)) ⊕ (List T105))
  | (i_45, l46) =>
    if ltI i_45 (a.length : Int) = true then
      (idx a i_45).bind fun e48 =>
      (g48 e48).bind fun r50 =>
      (idx l46 i_45).bind fun e52 =>
      some (.inl (aI .i64 i_45 1, (l46.set i_45.toNat r50)))
    else
      some (.inr l46)
noncomputable def g21 (a : List T105) : Option (List T105) :=
  (mk 24 (a.length : Int)).bind fun u1 =>
  (loopO (g21_L1 a) (0, (List.replicate (a.length : Int).toNat (⟨(some 0), (some 0), (some 0), (some 0), 0⟩ : T105)))).bind fun w => g21_j1 w
def eA21 (a : List T105) : List V := [.sl 5 (rows cT105 a)]
def eB21 (r : List T105) : V := .own 5 (rows cT105 r)
theorem inj21 (a a' : List T105) (h : eA21 a = eA21 a') : a = a' := by
  obtain i609 := a
  obtain i610 := a'
  simp only [eA21, List.cons.injEq, V.i.injEq, V.b.injEq, V.f.injEq, V.str.injEq, V.sl.injEq, V.agg.injEq, V.cptr.injEq, true_and, and_true] at h
  simp_all [ri cT105_inj]
noncomputable def F21 : List V → Option V := tells (fun a => g21 a) eA21 eB21
set_option maxRecDepth 100000 in
set_option maxHeartbeats 4000000 in
/- loop.example/g01229/laws.toFlueS -/
theorem ok21 : Tells Try.prog 21 F21 := by
  refine Tells.of (by kernel_rfl) ?_
  rintro a r h
  refine VCalls.nl (VCalls.of Try.func21 rfl rfl rfl ?_)
  rw [tm_init]
  simp only [eA21, en, List.length_cons, List.length_nil, Nat.reduceAdd, Nat.reduceSub]
  replace h : (g21 a).bind some = some r := bindS h
  rw [g21] at h
  refine VW.seq ?_
  refine VW.evalA (C := [(48, F48)]) (tm 23 [(0, .sl 5 (rows cT105 a))]) [] [] ⟨.inl ok48, trivial⟩ (by kernel_rfl) (by simp -implicitDefEqProofs) ?_
  refine VW.seq ?_
  obtain ⟨u1, q2, h⟩ := bindE h
  obtain ⟨f2a, f2b, f2c⟩ := mk_some q2
  try simp only [Int.toNat_natCast, Int.reduceToNat, List.length_cons, List.length_nil, Nat.reduceAdd, Nat.zero_add] at f2a f2b f2c
  refine VW.evalA (C := [(48, F48)]) (tm 23 [(0, .sl 5 (rows cT105 a)), (3, .ref 0 0 (List.replicate (a.length : Int).toNat (⟨(some 0), (some 0), (some 0), (some 0), 0⟩ : T105)).length)]) [some (5, rows cT105 (List.replicate (a.length : Int).toNat (⟨(some 0), (some 0), (some 0), (some 0), 0⟩ : T105)))] [] ⟨.inl ok48, trivial⟩ (by kernel_rfl) (by simp -implicitDefEqProofs [f2a, f2b, f2c]) ?_
  refine VW.join (fun (v : List T105) => (⟨(tm 23 [(3, .ref 0 0 v.length)]), [some (5, rows cT105 v)], []⟩ : VS)) (fun v => (g21_j1 (v)).bind some = some r) ?_ ?_
  · refine VW.seq ?_
    refine VW.evalA (C := [(48, F48)]) (tm 23 [(0, .sl 5 (rows cT105 a)), (3, .ref 0 0 (List.replicate (a.length : Int).toNat (⟨(some 0), (some 0), (some 0), (some 0), 0⟩ : T105)).length), (4, .i .i64 0)]) [some (5, rows cT105 (List.replicate (a.length : Int).toNat (⟨(some 0), (some 0), (some 0), (some 0), 0⟩ : T105)))] [] ⟨.inl ok48, trivial⟩ (by kernel_rfl) (by simp -implicitDefEqProofs) ?_
    refine VW.block ?_
    obtain ⟨w_1, hw_1, h⟩ := bindE h
    refine VW.loopO (fun (x : Int × (List T105)) => (⟨(tm 23 [(0, .sl 5 (rows cT105 a)), (3, .ref 0 0 x.2.length), (4, .i .i64 x.1)]), [some (5, rows cT105 x.2)], []⟩ : VS)) hw_1 (Ent.to 1 (by simp [fgt]) (by simp) (by simp) (by simp [bndT, bndV]) (by simp [bndM, bndV])) ?_
    rintro n_1 ⟨i_45, l46⟩ h1
    rw [g21_L1] at h1
    refine VW.seq ?_
    refine VW.seq ?_
    refine VW.evalA (C := [(48, F48)]) (tm 23 [(0, .sl 5 (rows cT105 a)), (3, .ref 0 0 l46.length), (4, .i .i64 i_45), (11, .b (ltI i_45 (a.length : Int)))]) [some (5, rows cT105 l46)] [] ⟨.inl ok48, trivial⟩ (by kernel_rfl) (by simp -implicitDefEqProofs) ?_
    refine VW.condB (b := ltI i_45 (a.length : Int)) (by simp) (fun g47 => ?_) (fun g47 => ?_)
    · replace h1 := iteT g47 h1
      refine VW.skip ?_
      refine VW.seq ?_
      refine VW.block ?_
      obtain ⟨e48, q49, h1⟩ := bindE h1
      obtain ⟨f49a, f49b, f49c, f49d⟩ := idx_some q49
      obtain ⟨r50, q51, h1⟩ := bindE h1
      have c51 : F48 [.agg [.f .f32 e48.burnt_, .f .f32 e48.steam_, .f .f32 e48.up_, .f .f32 e48.lost_, .i .i64 e48.smoky_]] = some (.agg [.f .f32 r50.burnt_, .f .f32 r50.steam_, .f .f32 r50.up_, .f .f32 r50.lost_, .i .i64 r50.smoky_]) := tells_eq inj48 (a := e48) q51
      obtain ⟨e52, q53, h1⟩ := bindE h1
      obtain ⟨f53a, f53b, f53c, f53d⟩ := idx_some q53
      refine VW.evalA (C := [(48, F48)]) (tm 23 [(0, .sl 5 (rows cT105 a)), (3, .ref 0 0 (l46.set i_45.toNat r50).length), (4, .i .i64 i_45)]) [some (5, rows cT105 (l46.set i_45.toNat r50))] [] ⟨.inl ok48, trivial⟩ (by kernel_rfl) (by simp -implicitDefEqProofs [f49a, f49b, f49c, f49d, c51, f53a, f53b, f53c, f53d]) ?_
      refine VW.evalA (C := [(48, F48)]) (tm 23 [(0, .sl 5 (rows cT105 a)), (3, .ref 0 0 (l46.set i_45.toNat r50).length), (4, .i .i64 (aI .i64 i_45 1))]) [some (5, rows cT105 (l46.set i_45.toNat r50))] [] ⟨.inl ok48, trivial⟩ (by kernel_rfl) (by simp -implicitDefEqProofs) ?_
      exact (show ∃ _, _ from ⟨(aI .i64 i_45 1, (l46.set i_45.toNat r50)), leafL h1, (Ent.to 1 (by simp [fgt]) (by simp) (by simp) (by simp [bndT, bndV]) (by simp [bndM, bndV]))⟩)
    · replace h1 := iteF g47 h1
      refine VW.exit ?_
      have e_ := leafR h1
      subst w_1
      exact (show ∃ _, _ from ⟨l46, h, (Ent.to 1 (by simp [fgt]) (by simp) (by simp) (by simp [bndT, bndV]) (by simp [bndM, bndV]))⟩)
  · rintro l28 h
    replace h : (g21_j1 l28).bind _ = _ := h
    rw [g21_j1] at h
    refine VW.seq ?_
    refine VW.evalA (C := [(48, F48)]) (tm 23 [(2, .ref 0 0 l28.length)]) [some (5, rows cT105 l28)] [] ⟨.inl ok48, trivial⟩ (by kernel_rfl) (by simp -implicitDefEqProofs) ?_
    obtain rfl := leafS h
    refine VW.ret (VRet.fin ?_)
    simp [eB21]
noncomputable def g79_j1 (a : T114) : Option (T114) :=
  some a
noncomputable def g79 (a : T114) : Option (T114) :=
  g79_j1 a
def eA79 (a : T114) : List V := [.agg (pT114 a)]
def eB79 (r : T114) : V := .agg [.f .f32 r.a0_, .f .f32 r.a1_, .f .f32 r.a2_, .f .f32 r.a3_, .f .f32 r.a4_, .f .f32 r.a5_]
theorem inj79 (a a' : T114) (h : eA79 a = eA79 a') : a = a' := by
  obtain ⟨i611, i612, i613, i614, i615, i616⟩ := a
  obtain ⟨i617, i618, i619, i620, i621, i622⟩ := a'
  simp only [eA79, pT114, List.cons.injEq, V.i.injEq, V.b.injEq, V.f.injEq, V.str.injEq, V.sl.injEq, V.agg.injEq, V.cptr.injEq, true_and, and_true] at h
  simp_all
noncomputable def F79 : List V → Option V := tells (fun a => g79 a) eA79 eB79
set_option maxRecDepth 100000 in
set_option maxHeartbeats 4000000 in
/- loop.example/g01229/laws.toFloat32A6 -/
theorem ok79 : Tells Try.prog 79 F79 := by
  refine Tells.of (by kernel_rfl) ?_
  rintro a r h
  refine VCalls.nl (VCalls.of Try.func79 rfl rfl rfl ?_)
  rw [tm_init]
  simp only [eA79, en, List.length_cons, List.length_nil, Nat.reduceAdd, Nat.reduceSub]
  replace h : (g79 a).bind some = some r := bindS h
  rw [g79] at h
  refine VW.seq ?_
  refine VW.evalA (C := []) (tm 15 [(1, .ptr 0 0 0), (2, .ptr 1 0 0)]) [some (6, [(pT114 a)]), some (6, [[.f .f32 (some 0), .f .f32 (some 0), .f .f32 (some 0), .f .f32 (some 0), .f .f32 (some 0), .f .f32 (some 0)]])] [] trivial (by kernel_rfl) (by first | (simp -implicitDefEqProofs; done) | simp -implicitDefEqProofs [pT114]) ?_
  refine VW.seq ?_
  refine VW.evalA (C := []) (tm 15 [(1, .ptr 0 0 0), (2, .ptr 1 0 0), (3, .ptr 2 0 0)]) [some (6, [(pT114 a)]), some (6, [[.f .f32 (some 0), .f .f32 (some 0), .f .f32 (some 0), .f .f32 (some 0), .f .f32 (some 0), .f .f32 (some 0)]]), some (6, [[.f .f32 (some 0), .f .f32 (some 0), .f .f32 (some 0), .f .f32 (some 0), .f .f32 (some 0), .f .f32 (some 0)]])] [] trivial (by kernel_rfl) (by first | (simp -implicitDefEqProofs; done) | simp -implicitDefEqProofs [pT114]) ?_
  refine VW.join (fun (v : Unit) => (⟨(tm 15 [(2, .ptr 1 0 0), (3, .ptr 2 0 0)]), [some (6, [(pT114 a)]), some (6, [[.f .f32 (some 0), .f .f32 (some 0), .f .f32 (some 0), .f .f32 (some 0), .f .f32 (some 0), .f .f32 (some 0)]]), some (6, [(pT114 a)])], []⟩ : VS)) (fun v => (g79_j1 a).bind some = some r) ?_ ?_
  · refine VW.seq ?_
    refine VW.evalA (C := []) (tm 15 [(1, .ptr 0 0 0), (2, .ptr 1 0 0), (3, .ptr 2 0 0), (4, .i .i64 0)]) [some (6, [(pT114 a)]), some (6, [[.f .f32 (some 0), .f .f32 (some 0), .f .f32 (some 0), .f .f32 (some 0), .f .f32 (some 0), .f .f32 (some 0)]]), some (6, [[.f .f32 (some 0), .f .f32 (some 0), .f .f32 (some 0), .f .f32 (some 0), .f .f32 (some 0), .f .f32 (some 0)]])] [] trivial (by kernel_rfl) (by first | (simp -implicitDefEqProofs; done) | simp -implicitDefEqProofs [pT114]) ?_
    refine VW.block ?_
    refine VW.rounds 8 ?_
    refine VRounds.step ?_
    refine VW.seq ?_
    refine VW.seq ?_
    refine VW.evalA (C := []) (tm 15 [(1, .ptr 0 0 0), (2, .ptr 1 0 0), (3, .ptr 2 0 0), (4, .i .i64 0), (6, .b true)]) [some (6, [(pT114 a)]), some (6, [[.f .f32 (some 0), .f .f32 (some 0), .f .f32 (some 0), .f .f32 (some 0), .f .f32 (some 0), .f .f32 (some 0)]]), some (6, [[.f .f32 (some 0), .f .f32 (some 0), .f .f32 (some 0), .f .f32 (some 0), .f .f32 (some 0), .f .f32 (some 0)]])] [] trivial (by kernel_rfl) (by first | (simp -implicitDefEqProofs [(by decide : ltI 0 6 = true)]; done) | simp -implicitDefEqProofs [(by decide : ltI 0 6 = true), pT114]) ?_
    refine VW.condT (by simp) ?_
    refine VW.skip ?_
    refine VW.seq ?_
    refine VW.block ?_
    refine VW.evalA (C := []) (tm 15 [(1, .ptr 0 0 0), (2, .ptr 1 0 0), (3, .ptr 2 0 0), (4, .i .i64 0)]) [some (6, [(pT114 a)]), some (6, [[.f .f32 (some 0), .f .f32 (some 0), .f .f32 (some 0), .f .f32 (some 0), .f .f32 (some 0), .f .f32 (some 0)]]), some (6, [[.f .f32 a.a0_, .f .f32 (some 0), .f .f32 (some 0), .f .f32 (some 0), .f .f32 (some 0), .f .f32 (some 0)]])] [] trivial (by kernel_rfl) (by first | (simp -implicitDefEqProofs; done) | simp -implicitDefEqProofs [pT114]) ?_
    refine VW.evalA (C := []) (tm 15 [(1, .ptr 0 0 0), (2, .ptr 1 0 0), (3, .ptr 2 0 0), (4, .i .i64 1)]) [some (6, [(pT114 a)]), some (6, [[.f .f32 (some 0), .f .f32 (some 0), .f .f32 (some 0), .f .f32 (some 0), .f .f32 (some 0), .f .f32 (some 0)]]), some (6, [[.f .f32 a.a0_, .f .f32 (some 0), .f .f32 (some 0), .f .f32 (some 0), .f .f32 (some 0), .f .f32 (some 0)]])] [] trivial (by kernel_rfl) (by first | (simp -implicitDefEqProofs [(by decide : aI .i64 0 1 = 1)]; done) | simp -implicitDefEqProofs [(by decide : aI .i64 0 1 = 1), pT114]) ?_
    refine VRounds.step ?_
    refine VW.seq ?_
    refine VW.seq ?_
    refine VW.evalA (C := []) (tm 15 [(1, .ptr 0 0 0), (2, .ptr 1 0 0), (3, .ptr 2 0 0), (4, .i .i64 1), (6, .b true)]) [some (6, [(pT114 a)]), some (6, [[.f .f32 (some 0), .f .f32 (some 0), .f .f32 (some 0), .f .f32 (some 0), .f .f32 (some 0), .f .f32 (some 0)]]), some (6, [[.f .f32 a.a0_, .f .f32 (some 0), .f .f32 (some 0), .f .f32 (some 0), .f .f32 (some 0), .f .f32 (some 0)]])] [] trivial (by kernel_rfl) (by first | (simp -implicitDefEqProofs [(by decide : ltI 1 6 = true)]; done) | simp -implicitDefEqProofs [(by decide : ltI 1 6 = true), pT114]) ?_
    refine VW.condT (by simp) ?_
    refine VW.skip ?_
    refine VW.seq ?_
    refine VW.block ?_
    refine VW.evalA (C := []) (tm 15 [(1, .ptr 0 0 0), (2, .ptr 1 0 0), (3, .ptr 2 0 0), (4, .i .i64 1)]) [some (6, [(pT114 a)]), some (6, [[.f .f32 (some 0), .f .f32 (some 0), .f .f32 (some 0), .f .f32 (some 0), .f .f32 (some 0), .f .f32 (some 0)]]), some (6, [[.f .f32 a.a0_, .f .f32 a.a1_, .f .f32 (some 0), .f .f32 (some 0), .f .f32 (some 0), .f .f32 (some 0)]])] [] trivial (by kernel_rfl) (by first | (simp -implicitDefEqProofs; done) | simp -implicitDefEqProofs [pT114]) ?_
    refine VW.evalA (C := []) (tm 15 [(1, .ptr 0 0 0), (2, .ptr 1 0 0), (3, .ptr 2 0 0), (4, .i .i64 2)]) [some (6, [(pT114 a)]), some (6, [[.f .f32 (some 0), .f .f32 (some 0), .f .f32 (some 0), .f .f32 (some 0), .f .f32 (some 0), .f .f32 (some 0)]]), some (6, [[.f .f32 a.a0_, .f .f32 a.a1_, .f .f32 (some 0), .f .f32 (some 0), .f .f32 (some 0), .f .f32 (some 0)]])] [] trivial (by kernel_rfl) (by first | (simp -implicitDefEqProofs [(by decide : aI .i64 1 1 = 2)]; done) | simp -implicitDefEqProofs [(by decide : aI .i64 1 1 = 2), pT114]) ?_
    refine VRounds.step ?_
    refine VW.seq ?_
    refine VW.seq ?_
    refine VW.evalA (C := []) (tm 15 [(1, .ptr 0 0 0), (2, .ptr 1 0 0), (3, .ptr 2 0 0), (4, .i .i64 2), (6, .b true)]) [some (6, [(pT114 a)]), some (6, [[.f .f32 (some 0), .f .f32 (some 0), .f .f32 (some 0), .f .f32 (some 0), .f .f32 (some 0), .f .f32 (some 0)]]), some (6, [[.f .f32 a.a0_, .f .f32 a.a1_, .f .f32 (some 0), .f .f32 (some 0), .f .f32 (some 0), .f .f32 (some 0)]])] [] trivial (by kernel_rfl) (by first | (simp -implicitDefEqProofs [(by decide : ltI 2 6 = true)]; done) | simp -implicitDefEqProofs [(by decide : ltI 2 6 = true), pT114]) ?_
    refine VW.condT (by simp) ?_
    refine VW.skip ?_
    refine VW.seq ?_
    refine VW.block ?_
    refine VW.evalA (C := []) (tm 15 [(1, .ptr 0 0 0), (2, .ptr 1 0 0), (3, .ptr 2 0 0), (4, .i .i64 2)]) [some (6, [(pT114 a)]), some (6, [[.f .f32 (some 0), .f .f32 (some 0), .f .f32 (some 0), .f .f32 (some 0), .f .f32 (some 0), .f .f32 (some 0)]]), some (6, [[.f .f32 a.a0_, .f .f32 a.a1_, .f .f32 a.a2_, .f .f32 (some 0), .f .f32 (some 0), .f .f32 (some 0)]])] [] trivial (by kernel_rfl) (by first | (simp -implicitDefEqProofs; done) | simp -implicitDefEqProofs [pT114]) ?_
    refine VW.evalA (C := []) (tm 15 [(1, .ptr 0 0 0), (2, .ptr 1 0 0), (3, .ptr 2 0 0), (4, .i .i64 3)]) [some (6, [(pT114 a)]), some (6, [[.f .f32 (some 0), .f .f32 (some 0), .f .f32 (some 0), .f .f32 (some 0), .f .f32 (some 0), .f .f32 (some 0)]]), some (6, [[.f .f32 a.a0_, .f .f32 a.a1_, .f .f32 a.a2_, .f .f32 (some 0), .f .f32 (some 0), .f .f32 (some 0)]])] [] trivial (by kernel_rfl) (by first | (simp -implicitDefEqProofs [(by decide : aI .i64 2 1 = 3)]; done) | simp -implicitDefEqProofs [(by decide : aI .i64 2 1 = 3), pT114]) ?_
    refine VRounds.step ?_
    refine VW.seq ?_
    refine VW.seq ?_
    refine VW.evalA (C := []) (tm 15 [(1, .ptr 0 0 0), (2, .ptr 1 0 0), (3, .ptr 2 0 0), (4, .i .i64 3), (6, .b true)]) [some (6, [(pT114 a)]), some (6, [[.f .f32 (some 0), .f .f32 (some 0), .f .f32 (some 0), .f .f32 (some 0), .f .f32 (some 0), .f .f32 (some 0)]]), some (6, [[.f .f32 a.a0_, .f .f32 a.a1_, .f .f32 a.a2_, .f .f32 (some 0), .f .f32 (some 0), .f .f32 (some 0)]])] [] trivial (by kernel_rfl) (by first | (simp -implicitDefEqProofs [(by decide : ltI 3 6 = true)]; done) | simp -implicitDefEqProofs [(by decide : ltI 3 6 = true), pT114]) ?_
    refine VW.condT (by simp) ?_
    refine VW.skip ?_
    refine VW.seq ?_
    refine VW.block ?_
    refine VW.evalA (C := []) (tm 15 [(1, .ptr 0 0 0), (2, .ptr 1 0 0), (3, .ptr 2 0 0), (4, .i .i64 3)]) [some (6, [(pT114 a)]), some (6, [[.f .f32 (some 0), .f .f32 (some 0), .f .f32 (some 0), .f .f32 (some 0), .f .f32 (some 0), .f .f32 (some 0)]]), some (6, [[.f .f32 a.a0_, .f .f32 a.a1_, .f .f32 a.a2_, .f .f32 a.a3_, .f .f32 (some 0), .f .f32 (some 0)]])] [] trivial (by kernel_rfl) (by first | (simp -implicitDefEqProofs; done) | simp -implicitDefEqProofs [pT114]) ?_
    refine VW.evalA (C := []) (tm 15 [(1, .ptr 0 0 0), (2, .ptr 1 0 0), (3, .ptr 2 0 0), (4, .i .i64 4)]) [some (6, [(pT114 a)]), some (6, [[.f .f32 (some 0), .f .f32 (some 0), .f .f32 (some 0), .f .f32 (some 0), .f .f32 (some 0), .f .f32 (some 0)]]), some (6, [[.f .f32 a.a0_, .f .f32 a.a1_, .f .f32 a.a2_, .f .f32 a.a3_, .f .f32 (some 0), .f .f32 (some 0)]])] [] trivial (by kernel_rfl) (by first | (simp -implicitDefEqProofs [(by decide : aI .i64 3 1 = 4)]; done) | simp -implicitDefEqProofs [(by decide : aI .i64 3 1 = 4), pT114]) ?_
    refine VRounds.step ?_
    refine VW.seq ?_
    refine VW.seq ?_
    refine VW.evalA (C := []) (tm 15 [(1, .ptr 0 0 0), (2, .ptr 1 0 0), (3, .ptr 2 0 0), (4, .i .i64 4), (6, .b true)]) [some (6, [(pT114 a)]), some (6, [[.f .f32 (some 0), .f .f32 (some 0), .f .f32 (some 0), .f .f32 (some 0), .f .f32 (some 0), .f .f32 (some 0)]]), some (6, [[.f .f32 a.a0_, .f .f32 a.a1_, .f .f32 a.a2_, .f .f32 a.a3_, .f .f32 (some 0), .f .f32 (some 0)]])] [] trivial (by kernel_rfl) (by first | (simp -implicitDefEqProofs [(by decide : ltI 4 6 = true)]; done) | simp -implicitDefEqProofs [(by decide : ltI 4 6 = true), pT114]) ?_
    refine VW.condT (by simp) ?_
    refine VW.skip ?_
    refine VW.seq ?_
    refine VW.block ?_
    refine VW.evalA (C := []) (tm 15 [(1, .ptr 0 0 0), (2, .ptr 1 0 0), (3, .ptr 2 0 0), (4, .i .i64 4)]) [some (6, [(pT114 a)]), some (6, [[.f .f32 (some 0), .f .f32 (some 0), .f .f32 (some 0), .f .f32 (some 0), .f .f32 (some 0), .f .f32 (some 0)]]), some (6, [[.f .f32 a.a0_, .f .f32 a.a1_, .f .f32 a.a2_, .f .f32 a.a3_, .f .f32 a.a4_, .f .f32 (some 0)]])] [] trivial (by kernel_rfl) (by first | (simp -implicitDefEqProofs; done) | simp -implicitDefEqProofs [pT114]) ?_
    refine VW.evalA (C := []) (tm 15 [(1, .ptr 0 0 0), (2, .ptr 1 0 0), (3, .ptr 2 0 0), (4, .i .i64 5)]) [some (6, [(pT114 a)]), some (6, [[.f .f32 (some 0), .f .f32 (some 0), .f .f32 (some 0), .f .f32 (some 0), .f .f32 (some 0), .f .f32 (some 0)]]), some (6, [[.f .f32 a.a0_, .f .f32 a.a1_, .f .f32 a.a2_, .f .f32 a.a3_, .f .f32 a.a4_, .f .f32 (some 0)]])] [] trivial (by kernel_rfl) (by first | (simp -implicitDefEqProofs [(by decide : aI .i64 4 1 = 5)]; done) | simp -implicitDefEqProofs [(by decide : aI .i64 4 1 = 5), pT114]) ?_
    refine VRounds.step ?_
    refine VW.seq ?_
    refine VW.seq ?_
    refine VW.evalA (C := []) (tm 15 [(1, .ptr 0 0 0), (2, .ptr 1 0 0), (3, .ptr 2 0 0), (4, .i .i64 5), (6, .b true)]) [some (6, [(pT114 a)]), some (6, [[.f .f32 (some 0), .f .f32 (some 0), .f .f32 (some 0), .f .f32 (some 0), .f .f32 (some 0), .f .f32 (some 0)]]), some (6, [[.f .f32 a.a0_, .f .f32 a.a1_, .f .f32 a.a2_, .f .f32 a.a3_, .f .f32 a.a4_, .f .f32 (some 0)]])] [] trivial (by kernel_rfl) (by first | (simp -implicitDefEqProofs [(by decide : ltI 5 6 = true)]; done) | simp -implicitDefEqProofs [(by decide : ltI 5 6 = true), pT114]) ?_
    refine VW.condT (by simp) ?_
    refine VW.skip ?_
    refine VW.seq ?_
    refine VW.block ?_
    refine VW.evalA (C := []) (tm 15 [(1, .ptr 0 0 0), (2, .ptr 1 0 0), (3, .ptr 2 0 0), (4, .i .i64 5)]) [some (6, [(pT114 a)]), some (6, [[.f .f32 (some 0), .f .f32 (some 0), .f .f32 (some 0), .f .f32 (some 0), .f .f32 (some 0), .f .f32 (some 0)]]), some (6, [(pT114 a)])] [] trivial (by kernel_rfl) (by first | (simp -implicitDefEqProofs; done) | simp -implicitDefEqProofs [pT114]) ?_
    refine VW.evalA (C := []) (tm 15 [(1, .ptr 0 0 0), (2, .ptr 1 0 0), (3, .ptr 2 0 0), (4, .i .i64 6)]) [some (6, [(pT114 a)]), some (6, [[.f .f32 (some 0), .f .f32 (some 0), .f .f32 (some 0), .f .f32 (some 0), .f .f32 (some 0), .f .f32 (some 0)]]), some (6, [(pT114 a)])] [] trivial (by kernel_rfl) (by first | (simp -implicitDefEqProofs [(by decide : aI .i64 5 1 = 6)]; done) | simp -implicitDefEqProofs [(by decide : aI .i64 5 1 = 6), pT114]) ?_
    refine VRounds.step ?_
    refine VW.seq ?_
    refine VW.seq ?_
    refine VW.evalA (C := []) (tm 15 [(1, .ptr 0 0 0), (2, .ptr 1 0 0), (3, .ptr 2 0 0), (4, .i .i64 6), (6, .b false)]) [some (6, [(pT114 a)]), some (6, [[.f .f32 (some 0), .f .f32 (some 0), .f .f32 (some 0), .f .f32 (some 0), .f .f32 (some 0), .f .f32 (some 0)]]), some (6, [(pT114 a)])] [] trivial (by kernel_rfl) (by first | (simp -implicitDefEqProofs [(by decide : ltI 6 6 = false)]; done) | simp -implicitDefEqProofs [(by decide : ltI 6 6 = false), pT114]) ?_
    refine VW.condF (by simp) ?_
    refine VW.exit ?_
    exact (show ∃ _, _ from ⟨(), h, (Ent.to 3 (by simp [fgt]) (by first | (simp; done) | simp [pT114]) (by simp) (by simp [bndT, bndV]) (by simp [bndM, bndV]))⟩)
  · rintro _ h
    replace h : (g79_j1 a).bind _ = _ := h
    rw [g79_j1] at h
    refine VW.seq ?_
    refine VW.evalA (C := []) (tm 15 [(2, .ptr 1 0 0)]) [some (6, [(pT114 a)]), some (6, [(pT114 a)]), some (6, [(pT114 a)])] [] trivial (by kernel_rfl) (by first | (simp -implicitDefEqProofs; done) | simp -implicitDefEqProofs [pT114]) ?_
    obtain rfl := leafS h
    refine VW.ret (VRet.fin ?_)
    first | (simp [eB79]; done) | simp [eB79, pT114]
noncomputable def g77 (a : T147) : Option (T147) :=
  (g79 a.wet_).bind fun r1 =>
  (g79 a.heat_).bind fun r3 =>
  (g79 a.fuel_).bind fun r5 =>
  some (⟨r1, r3, r5⟩ : T147)
def eA77 (a : T147) : List V := [.agg (pT147 a)]
def eB77 (r : T147) : V := .agg [.f .f32 r.wet_.a0_, .f .f32 r.wet_.a1_, .f .f32 r.wet_.a2_, .f .f32 r.wet_.a3_, .f .f32 r.wet_.a4_, .f .f32 r.wet_.a5_, .f .f32 r.heat_.a0_, .f .f32 r.heat_.a1_, .f .f32 r.heat_.a2_, .f .f32 r.heat_.a3_, .f .f32 r.heat_.a4_, .f .f32 r.heat_.a5_, .f .f32 r.fuel_.a0_, .f .f32 r.fuel_.a1_, .f .f32 r.fuel_.a2_, .f .f32 r.fuel_.a3_, .f .f32 r.fuel_.a4_, .f .f32 r.fuel_.a5_]
theorem inj77 (a a' : T147) (h : eA77 a = eA77 a') : a = a' := by
  obtain ⟨⟨i623, i624, i625, i626, i627, i628⟩, ⟨i629, i630, i631, i632, i633, i634⟩, ⟨i635, i636, i637, i638, i639, i640⟩⟩ := a
  obtain ⟨⟨i641, i642, i643, i644, i645, i646⟩, ⟨i647, i648, i649, i650, i651, i652⟩, ⟨i653, i654, i655, i656, i657, i658⟩⟩ := a'
  simp only [eA77, pT147, List.cons.injEq, V.i.injEq, V.b.injEq, V.f.injEq, V.str.injEq, V.sl.injEq, V.agg.injEq, V.cptr.injEq, true_and, and_true] at h
  simp_all
noncomputable def F77 : List V → Option V := tells (fun a => g77 a) eA77 eB77
set_option maxRecDepth 100000 in
set_option maxHeartbeats 4000000 in
/- loop.example/g01229/laws.toWood -/
theorem ok77 : Tells Try.prog 77 F77 := by
  refine Tells.of (by kernel_rfl) ?_
  rintro a r h
  refine VCalls.nl (VCalls.of Try.func77 rfl rfl rfl ?_)
  rw [tm_init]
  simp only [eA77, en, List.length_cons, List.length_nil, Nat.reduceAdd, Nat.reduceSub]
  replace h : (g77 a).bind some = some r := bindS h
  rw [g77] at h
  refine VW.seq ?_
  refine VW.evalA (C := [(79, F79)]) (tm 17 [(1, .ptr 0 0 0), (2, .ptr 1 0 0)]) [some (18, [(pT147 a)]), some (18, [[.f .f32 (some 0), .f .f32 (some 0), .f .f32 (some 0), .f .f32 (some 0), .f .f32 (some 0), .f .f32 (some 0), .f .f32 (some 0), .f .f32 (some 0), .f .f32 (some 0), .f .f32 (some 0), .f .f32 (some 0), .f .f32 (some 0), .f .f32 (some 0), .f .f32 (some 0), .f .f32 (some 0), .f .f32 (some 0), .f .f32 (some 0), .f .f32 (some 0)]])] [] ⟨.inl ok79, trivial⟩ (by kernel_rfl) (by first | (simp -implicitDefEqProofs; done) | simp -implicitDefEqProofs [pT147]) ?_
  refine VW.seq ?_
  refine VW.evalA (C := [(79, F79)]) (tm 17 [(1, .ptr 0 0 0), (2, .ptr 1 0 0), (3, .ptr 2 0 0)]) [some (18, [(pT147 a)]), some (18, [[.f .f32 (some 0), .f .f32 (some 0), .f .f32 (some 0), .f .f32 (some 0), .f .f32 (some 0), .f .f32 (some 0), .f .f32 (some 0), .f .f32 (some 0), .f .f32 (some 0), .f .f32 (some 0), .f .f32 (some 0), .f .f32 (some 0), .f .f32 (some 0), .f .f32 (some 0), .f .f32 (some 0), .f .f32 (some 0), .f .f32 (some 0), .f .f32 (some 0)]]), some (18, [[.f .f32 (some 0), .f .f32 (some 0), .f .f32 (some 0), .f .f32 (some 0), .f .f32 (some 0), .f .f32 (some 0), .f .f32 (some 0), .f .f32 (some 0), .f .f32 (some 0), .f .f32 (some 0), .f .f32 (some 0), .f .f32 (some 0), .f .f32 (some 0), .f .f32 (some 0), .f .f32 (some 0), .f .f32 (some 0), .f .f32 (some 0), .f .f32 (some 0)]])] [] ⟨.inl ok79, trivial⟩ (by kernel_rfl) (by first | (simp -implicitDefEqProofs; done) | simp -implicitDefEqProofs [pT147]) ?_
  refine VW.seq ?_
  obtain ⟨r1, q2, h⟩ := bindE h
  have c2 : F79 [.agg [.f .f32 a.wet_.a0_, .f .f32 a.wet_.a1_, .f .f32 a.wet_.a2_, .f .f32 a.wet_.a3_, .f .f32 a.wet_.a4_, .f .f32 a.wet_.a5_]] = some (.agg [.f .f32 r1.a0_, .f .f32 r1.a1_, .f .f32 r1.a2_, .f .f32 r1.a3_, .f .f32 r1.a4_, .f .f32 r1.a5_]) := tells_eq inj79 (a := a.wet_) q2
  refine VW.evalA (C := [(79, F79)]) (tm 17 [(1, .ptr 0 0 0), (2, .ptr 1 0 0), (3, .ptr 2 0 0)]) [some (18, [(pT147 a)]), some (18, [[.f .f32 (some 0), .f .f32 (some 0), .f .f32 (some 0), .f .f32 (some 0), .f .f32 (some 0), .f .f32 (some 0), .f .f32 (some 0), .f .f32 (some 0), .f .f32 (some 0), .f .f32 (some 0), .f .f32 (some 0), .f .f32 (some 0), .f .f32 (some 0), .f .f32 (some 0), .f .f32 (some 0), .f .f32 (some 0), .f .f32 (some 0), .f .f32 (some 0)]]), some (18, [[.f .f32 r1.a0_, .f .f32 r1.a1_, .f .f32 r1.a2_, .f .f32 r1.a3_, .f .f32 r1.a4_, .f .f32 r1.a5_, .f .f32 (some 0), .f .f32 (some 0), .f .f32 (some 0), .f .f32 (some 0), .f .f32 (some 0), .f .f32 (some 0), .f .f32 (some 0), .f .f32 (some 0), .f .f32 (some 0), .f .f32 (some 0), .f .f32 (some 0), .f .f32 (some 0)]])] [] ⟨.inl ok79, trivial⟩ (by kernel_rfl) (by first | (simp -implicitDefEqProofs [c2]; done) | simp -implicitDefEqProofs [c2, pT147]) ?_
  refine VW.seq ?_
  obtain ⟨r3, q4, h⟩ := bindE h
  have c4 : F79 [.agg [.f .f32 a.heat_.a0_, .f .f32 a.heat_.a1_, .f .f32 a.heat_.a2_, .f .f32 a.heat_.a3_, .f .f32 a.heat_.a4_, .f .f32 a.heat_.a5_]] = some (.agg [.f .f32 r3.a0_, .f .f32 r3.a1_, .f .f32 r3.a2_, .f .f32 r3.a3_, .f .f32 r3.a4_, .f .f32 r3.a5_]) := tells_eq inj79 (a := a.heat_) q4
  refine VW.evalA (C := [(79, F79)]) (tm 17 [(1, .ptr 0 0 0), (2, .ptr 1 0 0), (3, .ptr 2 0 0)]) [some (18, [(pT147 a)]), some (18, [[.f .f32 (some 0), .f .f32 (some 0), .f .f32 (some 0), .f .f32 (some 0), .f .f32 (some 0), .f .f32 (some 0), .f .f32 (some 0), .f .f32 (some 0), .f .f32 (some 0), .f .f32 (some 0), .f .f32 (some 0), .f .f32 (some 0), .f .f32 (some 0), .f .f32 (some 0), .f .f32 (some 0), .f .f32 (some 0), .f .f32 (some 0), .f .f32 (some 0)]]), some (18, [[.f .f32 r1.a0_, .f .f32 r1.a1_, .f .f32 r1.a2_, .f .f32 r1.a3_, .f .f32 r1.a4_, .f .f32 r1.a5_, .f .f32 r3.a0_, .f .f32 r3.a1_, .f .f32 r3.a2_, .f .f32 r3.a3_, .f .f32 r3.a4_, .f .f32 r3.a5_, .f .f32 (some 0), .f .f32 (some 0), .f .f32 (some 0), .f .f32 (some 0), .f .f32 (some 0), .f .f32 (some 0)]])] [] ⟨.inl ok79, trivial⟩ (by kernel_rfl) (by first | (simp -implicitDefEqProofs [c4]; done) | simp -implicitDefEqProofs [c4, pT147]) ?_
  refine VW.seq ?_
  obtain ⟨r5, q6, h⟩ := bindE h
  have c6 : F79 [.agg [.f .f32 a.fuel_.a0_, .f .f32 a.fuel_.a1_, .f .f32 a.fuel_.a2_, .f .f32 a.fuel_.a3_, .f .f32 a.fuel_.a4_, .f .f32 a.fuel_.a5_]] = some (.agg [.f .f32 r5.a0_, .f .f32 r5.a1_, .f .f32 r5.a2_, .f .f32 r5.a3_, .f .f32 r5.a4_, .f .f32 r5.a5_]) := tells_eq inj79 (a := a.fuel_) q6
  refine VW.evalA (C := [(79, F79)]) (tm 17 [(2, .ptr 1 0 0), (3, .ptr 2 0 0)]) [some (18, [(pT147 a)]), some (18, [[.f .f32 (some 0), .f .f32 (some 0), .f .f32 (some 0), .f .f32 (some 0), .f .f32 (some 0), .f .f32 (some 0), .f .f32 (some 0), .f .f32 (some 0), .f .f32 (some 0), .f .f32 (some 0), .f .f32 (some 0), .f .f32 (some 0), .f .f32 (some 0), .f .f32 (some 0), .f .f32 (some 0), .f .f32 (some 0), .f .f32 (some 0), .f .f32 (some 0)]]), some (18, [[.f .f32 r1.a0_, .f .f32 r1.a1_, .f .f32 r1.a2_, .f .f32 r1.a3_, .f .f32 r1.a4_, .f .f32 r1.a5_, .f .f32 r3.a0_, .f .f32 r3.a1_, .f .f32 r3.a2_, .f .f32 r3.a3_, .f .f32 r3.a4_, .f .f32 r3.a5_, .f .f32 r5.a0_, .f .f32 r5.a1_, .f .f32 r5.a2_, .f .f32 r5.a3_, .f .f32 r5.a4_, .f .f32 r5.a5_]])] [] ⟨.inl ok79, trivial⟩ (by kernel_rfl) (by first | (simp -implicitDefEqProofs [c6]; done) | simp -implicitDefEqProofs [c6, pT147]) ?_
  refine VW.seq ?_
  refine VW.evalA (C := [(79, F79)]) (tm 17 [(2, .ptr 1 0 0)]) [some (18, [(pT147 a)]), some (18, [[.f .f32 r1.a0_, .f .f32 r1.a1_, .f .f32 r1.a2_, .f .f32 r1.a3_, .f .f32 r1.a4_, .f .f32 r1.a5_, .f .f32 r3.a0_, .f .f32 r3.a1_, .f .f32 r3.a2_, .f .f32 r3.a3_, .f .f32 r3.a4_, .f .f32 r3.a5_, .f .f32 r5.a0_, .f .f32 r5.a1_, .f .f32 r5.a2_, .f .f32 r5.a3_, .f .f32 r5.a4_, .f .f32 r5.a5_]]), some (18, [[.f .f32 r1.a0_, .f .f32 r1.a1_, .f .f32 r1.a2_, .f .f32 r1.a3_, .f .f32 r1.a4_, .f .f32 r1.a5_, .f .f32 r3.a0_, .f .f32 r3.a1_, .f .f32 r3.a2_, .f .f32 r3.a3_, .f .f32 r3.a4_, .f .f32 r3.a5_, .f .f32 r5.a0_, .f .f32 r5.a1_, .f .f32 r5.a2_, .f .f32 r5.a3_, .f .f32 r5.a4_, .f .f32 r5.a5_]])] [] ⟨.inl ok79, trivial⟩ (by kernel_rfl) (by first | (simp -implicitDefEqProofs; done) | simp -implicitDefEqProofs [pT147]) ?_
  obtain rfl := leafS h
  refine VW.ret (VRet.fin ?_)
  first | (simp [eB77]; done) | simp [eB77, pT147]
noncomputable def g73_j1 (l28 : List T147) : Option (List T147) :=
  some l28
noncomputable def g73_L1 (a : List T147) : (Int × (List T147)) → Option ((Int × (List T147)) ⊕ (List T147))
  | (i_45, l46) =>
    if ltI i_45 (a.length : Int) = true then
      (idx a i_45).bind fun e48 =>
      (g77 e48).bind fun r50 =>
      (idx l46 i_45).bind fun e52 =>
      some (.inl (aI .i64 i_45 1, (l46.set i_45.toNat r50)))
    else
      some (.inr l46)
noncomputable def g73 (a : List T147) : Option (List T147) :=
  (mk 72 (a.length : Int)).bind fun u1 =>
  (loopO (g73_L1 a) (0, (List.replicate (a.length : Int).toNat (⟨(⟨(some 0), (some 0), (some 0), (some 0), (some 0), (some 0)⟩ : T114), (⟨(some 0), (some 0), (some 0), (some 0), (some 0), (some 0)⟩ : T114), (⟨(some 0), (some 0), (some 0), (some 0), (some 0), (some 0)⟩ : T114)⟩ : T147)))).bind fun w => g73_j1 w
def eA73 (a : List T147) : List V := [.sl 18 (rows cT147 a)]
def eB73 (r : List T147) : V := .own 18 (rows cT147 r)
theorem inj73 (a a' : List T147) (h : eA73 a = eA73 a') : a = a' := by
  obtain i659 := a
  obtain i660 := a'
  simp only [eA73, List.cons.injEq, V.i.injEq, V.b.injEq, V.f.injEq, V.str.injEq, V.sl.injEq, V.agg.injEq, V.cptr.injEq, true_and, and_true] at h
  simp_all [ri cT147_inj]
noncomputable def F73 : List V → Option V := tells (fun a => g73 a) eA73 eB73
set_option maxRecDepth 100000 in
set_option maxHeartbeats 4000000 in
/- loop.example/g01229/laws.toWoodS -/
theorem ok73 : Tells Try.prog 73 F73 := by
  refine Tells.of (by kernel_rfl) ?_
  rintro a r h
  refine VCalls.nl (VCalls.of Try.func73 rfl rfl rfl ?_)
  rw [tm_init]
  simp only [eA73, en, List.length_cons, List.length_nil, Nat.reduceAdd, Nat.reduceSub]
  replace h : (g73 a).bind some = some r := bindS h
  rw [g73] at h
  refine VW.seq ?_
  refine VW.evalA (C := [(77, F77)]) (tm 23 [(0, .sl 18 (rows cT147 a))]) [] [] ⟨.inl ok77, trivial⟩ (by kernel_rfl) (by simp -implicitDefEqProofs) ?_
  refine VW.seq ?_
  obtain ⟨u1, q2, h⟩ := bindE h
  obtain ⟨f2a, f2b, f2c⟩ := mk_some q2
  try simp only [Int.toNat_natCast, Int.reduceToNat, List.length_cons, List.length_nil, Nat.reduceAdd, Nat.zero_add] at f2a f2b f2c
  refine VW.evalA (C := [(77, F77)]) (tm 23 [(0, .sl 18 (rows cT147 a)), (3, .ref 0 0 (List.replicate (a.length : Int).toNat (⟨(⟨(some 0), (some 0), (some 0), (some 0), (some 0), (some 0)⟩ : T114), (⟨(some 0), (some 0), (some 0), (some 0), (some 0), (some 0)⟩ : T114), (⟨(some 0), (some 0), (some 0), (some 0), (some 0), (some 0)⟩ : T114)⟩ : T147)).length)]) [some (18, rows cT147 (List.replicate (a.length : Int).toNat (⟨(⟨(some 0), (some 0), (some 0), (some 0), (some 0), (some 0)⟩ : T114), (⟨(some 0), (some 0), (some 0), (some 0), (some 0), (some 0)⟩ : T114), (⟨(some 0), (some 0), (some 0), (some 0), (some 0), (some 0)⟩ : T114)⟩ : T147)))] [] ⟨.inl ok77, trivial⟩ (by kernel_rfl) (by simp -implicitDefEqProofs [f2a, f2b, f2c]) ?_
  refine VW.join (fun (v : List T147) => (⟨(tm 23 [(3, .ref 0 0 v.length)]), [some (18, rows cT147 v)], []⟩ : VS)) (fun v => (g73_j1 (v)).bind some = some r) ?_ ?_
  · refine VW.seq ?_
    refine VW.evalA (C := [(77, F77)]) (tm 23 [(0, .sl 18 (rows cT147 a)), (3, .ref 0 0 (List.replicate (a.length : Int).toNat (⟨(⟨(some 0), (some 0), (some 0), (some 0), (some 0), (some 0)⟩ : T114), (⟨(some 0), (some 0), (some 0), (some 0), (some 0), (some 0)⟩ : T114), (⟨(some 0), (some 0), (some 0), (some 0), (some 0), (some 0)⟩ : T114)⟩ : T147)).length), (4, .i .i64 0)]) [some (18, rows cT147 (List.replicate (a.length : Int).toNat (⟨(⟨(some 0), (some 0), (some 0), (some 0), (some 0), (some 0)⟩ : T114), (⟨(some 0), (some 0), (some 0), (some 0), (some 0), (some 0)⟩ : T114), (⟨(some 0), (some 0), (some 0), (some 0), (some 0), (some 0)⟩ : T114)⟩ : T147)))] [] ⟨.inl ok77, trivial⟩ (by kernel_rfl) (by simp -implicitDefEqProofs) ?_
    refine VW.block ?_
    obtain ⟨w_1, hw_1, h⟩ := bindE h
    refine VW.loopO (fun (x : Int × (List T147)) => (⟨(tm 23 [(0, .sl 18 (rows cT147 a)), (3, .ref 0 0 x.2.length), (4, .i .i64 x.1)]), [some (18, rows cT147 x.2)], []⟩ : VS)) hw_1 (Ent.to 1 (by simp [fgt]) (by simp) (by simp) (by simp [bndT, bndV]) (by simp [bndM, bndV])) ?_
    rintro n_1 ⟨i_45, l46⟩ h1
    rw [g73_L1] at h1
    refine VW.seq ?_
    refine VW.seq ?_
    refine VW.evalA (C := [(77, F77)]) (tm 23 [(0, .sl 18 (rows cT147 a)), (3, .ref 0 0 l46.length), (4, .i .i64 i_45), (11, .b (ltI i_45 (a.length : Int)))]) [some (18, rows cT147 l46)] [] ⟨.inl ok77, trivial⟩ (by kernel_rfl) (by simp -implicitDefEqProofs) ?_
    refine VW.condB (b := ltI i_45 (a.length : Int)) (by simp) (fun g47 => ?_) (fun g47 => ?_)
    · replace h1 := iteT g47 h1
      refine VW.skip ?_
      refine VW.seq ?_
      refine VW.block ?_
      obtain ⟨e48, q49, h1⟩ := bindE h1
      obtain ⟨f49a, f49b, f49c, f49d⟩ := idx_some q49
      obtain ⟨r50, q51, h1⟩ := bindE h1
      have c51 : F77 [.agg [.f .f32 e48.wet_.a0_, .f .f32 e48.wet_.a1_, .f .f32 e48.wet_.a2_, .f .f32 e48.wet_.a3_, .f .f32 e48.wet_.a4_, .f .f32 e48.wet_.a5_, .f .f32 e48.heat_.a0_, .f .f32 e48.heat_.a1_, .f .f32 e48.heat_.a2_, .f .f32 e48.heat_.a3_, .f .f32 e48.heat_.a4_, .f .f32 e48.heat_.a5_, .f .f32 e48.fuel_.a0_, .f .f32 e48.fuel_.a1_, .f .f32 e48.fuel_.a2_, .f .f32 e48.fuel_.a3_, .f .f32 e48.fuel_.a4_, .f .f32 e48.fuel_.a5_]] = some (.agg [.f .f32 r50.wet_.a0_, .f .f32 r50.wet_.a1_, .f .f32 r50.wet_.a2_, .f .f32 r50.wet_.a3_, .f .f32 r50.wet_.a4_, .f .f32 r50.wet_.a5_, .f .f32 r50.heat_.a0_, .f .f32 r50.heat_.a1_, .f .f32 r50.heat_.a2_, .f .f32 r50.heat_.a3_, .f .f32 r50.heat_.a4_, .f .f32 r50.heat_.a5_, .f .f32 r50.fuel_.a0_, .f .f32 r50.fuel_.a1_, .f .f32 r50.fuel_.a2_, .f .f32 r50.fuel_.a3_, .f .f32 r50.fuel_.a4_, .f .f32 r50.fuel_.a5_]) := tells_eq inj77 (a := e48) q51
      obtain ⟨e52, q53, h1⟩ := bindE h1
      obtain ⟨f53a, f53b, f53c, f53d⟩ := idx_some q53
      refine VW.evalA (C := [(77, F77)]) (tm 23 [(0, .sl 18 (rows cT147 a)), (3, .ref 0 0 (l46.set i_45.toNat r50).length), (4, .i .i64 i_45)]) [some (18, rows cT147 (l46.set i_45.toNat r50))] [] ⟨.inl ok77, trivial⟩ (by kernel_rfl) (by simp -implicitDefEqProofs [f49a, f49b, f49c, f49d, c51, f53a, f53b, f53c, f53d]) ?_
      refine VW.evalA (C := [(77, F77)]) (tm 23 [(0, .sl 18 (rows cT147 a)), (3, .ref 0 0 (l46.set i_45.toNat r50).length), (4, .i .i64 (aI .i64 i_45 1))]) [some (18, rows cT147 (l46.set i_45.toNat r50))] [] ⟨.inl ok77, trivial⟩ (by kernel_rfl) (by simp -implicitDefEqProofs) ?_
      exact (show ∃ _, _ from ⟨(aI .i64 i_45 1, (l46.set i_45.toNat r50)), leafL h1, (Ent.to 1 (by simp [fgt]) (by simp) (by simp) (by simp [bndT, bndV]) (by simp [bndM, bndV]))⟩)
    · replace h1 := iteF g47 h1
      refine VW.exit ?_
      have e_ := leafR h1
      subst w_1
      exact (show ∃ _, _ from ⟨l46, h, (Ent.to 1 (by simp [fgt]) (by simp) (by simp) (by simp [bndT, bndV]) (by simp [bndM, bndV]))⟩)
  · rintro l28 h
    replace h : (g73_j1 l28).bind _ = _ := h
    rw [g73_j1] at h
    refine VW.seq ?_
    refine VW.evalA (C := [(77, F77)]) (tm 23 [(2, .ref 0 0 l28.length)]) [some (18, rows cT147 l28)] [] ⟨.inl ok77, trivial⟩ (by kernel_rfl) (by simp -implicitDefEqProofs) ?_
    obtain rfl := leafS h
    refine VW.ret (VRet.fin ?_)
    simp [eB73]
noncomputable def g66 (a : T90) : Option (T90) :=
  (g73 a.logs_).bind fun r1 =>
  some (⟨r1, a.box_, a.damper_, a.state_, a.ash_, a.dust_⟩ : T90)
def eA66 (a : T90) : List V := [.agg (pT90 a)]
def eB66 (r : T90) : V := .agg [.own 18 (rows cT147 r.logs_), .f .f32 r.box_, .f .f32 r.damper_, .i .i8 r.state_, .i .i64 r.ash_, .f .f32 r.dust_]
theorem inj66 (a a' : T90) (h : eA66 a = eA66 a') : a = a' := by
  obtain ⟨i661, i662, i663, i664, i665, i666⟩ := a
  obtain ⟨i667, i668, i669, i670, i671, i672⟩ := a'
  simp only [eA66, pT90, List.cons.injEq, V.i.injEq, V.b.injEq, V.f.injEq, V.str.injEq, V.sl.injEq, V.agg.injEq, V.cptr.injEq, true_and, and_true] at h
  simp_all [ri cT147_inj]
noncomputable def F66 : List V → Option V := tells (fun a => g66 a) eA66 eB66
set_option maxRecDepth 100000 in
set_option maxHeartbeats 4000000 in
/- loop.example/g01229/laws.toStove -/
theorem ok66 : Tells Try.prog 66 F66 := by
  refine Tells.of (by kernel_rfl) ?_
  rintro a r h
  refine VCalls.nl (VCalls.of Try.func66 rfl rfl rfl ?_)
  rw [tm_init]
  simp only [eA66, en, List.length_cons, List.length_nil, Nat.reduceAdd, Nat.reduceSub]
  replace h : (g66 a).bind some = some r := bindS h
  rw [g66] at h
  refine VW.seq ?_
  refine VW.evalA (C := [(73, F73)]) (tm 24 [(1, .ptr 0 0 0), (2, .ptr 1 0 0)]) [some (6, [(pT90 a)]), some (6, [[.nil, .f .f32 (some 0), .f .f32 (some 0), .i .i8 0, .i .i64 0, .f .f32 (some 0)]])] [] ⟨.inl ok73, trivial⟩ (by kernel_rfl) (by first | (simp -implicitDefEqProofs; done) | simp -implicitDefEqProofs [pT90]) ?_
  refine VW.seq ?_
  refine VW.evalA (C := [(73, F73)]) (tm 24 [(1, .ptr 0 0 0), (2, .ptr 1 0 0), (3, .ptr 2 0 0)]) [some (6, [(pT90 a)]), some (6, [[.nil, .f .f32 (some 0), .f .f32 (some 0), .i .i8 0, .i .i64 0, .f .f32 (some 0)]]), some (6, [[.nil, .f .f32 (some 0), .f .f32 (some 0), .i .i8 0, .i .i64 0, .f .f32 (some 0)]])] [] ⟨.inl ok73, trivial⟩ (by kernel_rfl) (by first | (simp -implicitDefEqProofs; done) | simp -implicitDefEqProofs [pT90]) ?_
  refine VW.seq ?_
  obtain ⟨r1, q2, h⟩ := bindE h
  have c2 : F73 [.sl 18 (rows cT147 a.logs_)] = some (.own 18 (rows cT147 r1)) := tells_eq inj73 (a := a.logs_) q2
  refine VW.evalA (C := [(73, F73)]) (tm 24 [(1, .ptr 0 0 0), (2, .ptr 1 0 0), (3, .ptr 2 0 0)]) [some (6, [(pT90 a)]), some (6, [[.nil, .f .f32 (some 0), .f .f32 (some 0), .i .i8 0, .i .i64 0, .f .f32 (some 0)]]), some (6, [[.ref 3 0 r1.length, .f .f32 (some 0), .f .f32 (some 0), .i .i8 0, .i .i64 0, .f .f32 (some 0)]]), some (18, rows cT147 r1)] [] ⟨.inl ok73, trivial⟩ (by kernel_rfl) (by first | (simp -implicitDefEqProofs [c2]; done) | simp -implicitDefEqProofs [c2, pT90]) ?_
  refine VW.seq ?_
  refine VW.evalA (C := [(73, F73)]) (tm 24 [(1, .ptr 0 0 0), (2, .ptr 1 0 0), (3, .ptr 2 0 0)]) [some (6, [(pT90 a)]), some (6, [[.nil, .f .f32 (some 0), .f .f32 (some 0), .i .i8 0, .i .i64 0, .f .f32 (some 0)]]), some (6, [[.ref 3 0 r1.length, .f .f32 a.box_, .f .f32 (some 0), .i .i8 0, .i .i64 0, .f .f32 (some 0)]]), some (18, rows cT147 r1)] [] ⟨.inl ok73, trivial⟩ (by kernel_rfl) (by first | (simp -implicitDefEqProofs; done) | simp -implicitDefEqProofs [pT90]) ?_
  refine VW.seq ?_
  refine VW.evalA (C := [(73, F73)]) (tm 24 [(1, .ptr 0 0 0), (2, .ptr 1 0 0), (3, .ptr 2 0 0)]) [some (6, [(pT90 a)]), some (6, [[.nil, .f .f32 (some 0), .f .f32 (some 0), .i .i8 0, .i .i64 0, .f .f32 (some 0)]]), some (6, [[.ref 3 0 r1.length, .f .f32 a.box_, .f .f32 a.damper_, .i .i8 0, .i .i64 0, .f .f32 (some 0)]]), some (18, rows cT147 r1)] [] ⟨.inl ok73, trivial⟩ (by kernel_rfl) (by first | (simp -implicitDefEqProofs; done) | simp -implicitDefEqProofs [pT90]) ?_
  refine VW.seq ?_
  refine VW.evalA (C := [(73, F73)]) (tm 24 [(1, .ptr 0 0 0), (2, .ptr 1 0 0), (3, .ptr 2 0 0)]) [some (6, [(pT90 a)]), some (6, [[.nil, .f .f32 (some 0), .f .f32 (some 0), .i .i8 0, .i .i64 0, .f .f32 (some 0)]]), some (6, [[.ref 3 0 r1.length, .f .f32 a.box_, .f .f32 a.damper_, .i .i8 a.state_, .i .i64 0, .f .f32 (some 0)]]), some (18, rows cT147 r1)] [] ⟨.inl ok73, trivial⟩ (by kernel_rfl) (by first | (simp -implicitDefEqProofs; done) | simp -implicitDefEqProofs [pT90]) ?_
  refine VW.seq ?_
  refine VW.evalA (C := [(73, F73)]) (tm 24 [(1, .ptr 0 0 0), (2, .ptr 1 0 0), (3, .ptr 2 0 0)]) [some (6, [(pT90 a)]), some (6, [[.nil, .f .f32 (some 0), .f .f32 (some 0), .i .i8 0, .i .i64 0, .f .f32 (some 0)]]), some (6, [[.ref 3 0 r1.length, .f .f32 a.box_, .f .f32 a.damper_, .i .i8 a.state_, .i .i64 a.ash_, .f .f32 (some 0)]]), some (18, rows cT147 r1)] [] ⟨.inl ok73, trivial⟩ (by kernel_rfl) (by first | (simp -implicitDefEqProofs; done) | simp -implicitDefEqProofs [pT90]) ?_
  refine VW.seq ?_
  refine VW.evalA (C := [(73, F73)]) (tm 24 [(2, .ptr 1 0 0), (3, .ptr 2 0 0)]) [some (6, [(pT90 a)]), some (6, [[.nil, .f .f32 (some 0), .f .f32 (some 0), .i .i8 0, .i .i64 0, .f .f32 (some 0)]]), some (6, [[.ref 3 0 r1.length, .f .f32 a.box_, .f .f32 a.damper_, .i .i8 a.state_, .i .i64 a.ash_, .f .f32 a.dust_]]), some (18, rows cT147 r1)] [] ⟨.inl ok73, trivial⟩ (by kernel_rfl) (by first | (simp -implicitDefEqProofs; done) | simp -implicitDefEqProofs [pT90]) ?_
  refine VW.seq ?_
  refine VW.evalA (C := [(73, F73)]) (tm 24 [(2, .ptr 1 0 0)]) [some (6, [(pT90 a)]), some (6, [[.ref 3 0 r1.length, .f .f32 a.box_, .f .f32 a.damper_, .i .i8 a.state_, .i .i64 a.ash_, .f .f32 a.dust_]]), some (6, [[.ref 3 0 r1.length, .f .f32 a.box_, .f .f32 a.damper_, .i .i8 a.state_, .i .i64 a.ash_, .f .f32 a.dust_]]), some (18, rows cT147 r1)] [] ⟨.inl ok73, trivial⟩ (by kernel_rfl) (by first | (simp -implicitDefEqProofs; done) | simp -implicitDefEqProofs [pT90]) ?_
  obtain rfl := leafS h
  refine VW.ret (VRet.fin ?_)
  first | (simp [eB66]; done) | simp [eB66, pT90]
noncomputable def g49 (a : T92) : Option (T92) :=
  (g66 a.stove_).bind fun r1 =>
  some (⟨a.room_, a.flue_, a.brain_, r1⟩ : T92)
def eA49 (a : T92) : List V := [.agg (pT92 a)]
def eB49 (r : T92) : V := .agg [.i .i64 r.room_, .i .i64 r.flue_, .i .i64 r.brain_, .own 18 (rows cT147 r.stove_.logs_), .f .f32 r.stove_.box_, .f .f32 r.stove_.damper_, .i .i8 r.stove_.state_, .i .i64 r.stove_.ash_, .f .f32 r.stove_.dust_]
theorem inj49 (a a' : T92) (h : eA49 a = eA49 a') : a = a' := by
  obtain ⟨i673, i674, i675, ⟨i676, i677, i678, i679, i680, i681⟩⟩ := a
  obtain ⟨i682, i683, i684, ⟨i685, i686, i687, i688, i689, i690⟩⟩ := a'
  simp only [eA49, pT92, List.cons.injEq, V.i.injEq, V.b.injEq, V.f.injEq, V.str.injEq, V.sl.injEq, V.agg.injEq, V.cptr.injEq, true_and, and_true] at h
  simp_all [ri cT147_inj]
noncomputable def F49 : List V → Option V := tells (fun a => g49 a) eA49 eB49
set_option maxRecDepth 100000 in
set_option maxHeartbeats 4000000 in
/- loop.example/g01229/laws.toHearth -/
theorem ok49 : Tells Try.prog 49 F49 := by
  refine Tells.of (by kernel_rfl) ?_
  rintro a r h
  refine VCalls.nl (VCalls.of Try.func49 rfl rfl rfl ?_)
  rw [tm_init]
  simp only [eA49, en, List.length_cons, List.length_nil, Nat.reduceAdd, Nat.reduceSub]
  replace h : (g49 a).bind some = some r := bindS h
  rw [g49] at h
  refine VW.seq ?_
  refine VW.evalA (C := [(66, F66)]) (tm 18 [(1, .ptr 0 0 0), (2, .ptr 1 0 0)]) [some (9, [(pT92 a)]), some (9, [[.i .i64 0, .i .i64 0, .i .i64 0, .nil, .f .f32 (some 0), .f .f32 (some 0), .i .i8 0, .i .i64 0, .f .f32 (some 0)]])] [] ⟨.inl ok66, trivial⟩ (by kernel_rfl) (by first | (simp -implicitDefEqProofs; done) | simp -implicitDefEqProofs [pT92]) ?_
  refine VW.seq ?_
  refine VW.evalA (C := [(66, F66)]) (tm 18 [(1, .ptr 0 0 0), (2, .ptr 1 0 0), (3, .ptr 2 0 0)]) [some (9, [(pT92 a)]), some (9, [[.i .i64 0, .i .i64 0, .i .i64 0, .nil, .f .f32 (some 0), .f .f32 (some 0), .i .i8 0, .i .i64 0, .f .f32 (some 0)]]), some (9, [[.i .i64 0, .i .i64 0, .i .i64 0, .nil, .f .f32 (some 0), .f .f32 (some 0), .i .i8 0, .i .i64 0, .f .f32 (some 0)]])] [] ⟨.inl ok66, trivial⟩ (by kernel_rfl) (by first | (simp -implicitDefEqProofs; done) | simp -implicitDefEqProofs [pT92]) ?_
  refine VW.seq ?_
  refine VW.evalA (C := [(66, F66)]) (tm 18 [(1, .ptr 0 0 0), (2, .ptr 1 0 0), (3, .ptr 2 0 0)]) [some (9, [(pT92 a)]), some (9, [[.i .i64 0, .i .i64 0, .i .i64 0, .nil, .f .f32 (some 0), .f .f32 (some 0), .i .i8 0, .i .i64 0, .f .f32 (some 0)]]), some (9, [[.i .i64 a.room_, .i .i64 0, .i .i64 0, .nil, .f .f32 (some 0), .f .f32 (some 0), .i .i8 0, .i .i64 0, .f .f32 (some 0)]])] [] ⟨.inl ok66, trivial⟩ (by kernel_rfl) (by first | (simp -implicitDefEqProofs; done) | simp -implicitDefEqProofs [pT92]) ?_
  refine VW.seq ?_
  refine VW.evalA (C := [(66, F66)]) (tm 18 [(1, .ptr 0 0 0), (2, .ptr 1 0 0), (3, .ptr 2 0 0)]) [some (9, [(pT92 a)]), some (9, [[.i .i64 0, .i .i64 0, .i .i64 0, .nil, .f .f32 (some 0), .f .f32 (some 0), .i .i8 0, .i .i64 0, .f .f32 (some 0)]]), some (9, [[.i .i64 a.room_, .i .i64 a.flue_, .i .i64 0, .nil, .f .f32 (some 0), .f .f32 (some 0), .i .i8 0, .i .i64 0, .f .f32 (some 0)]])] [] ⟨.inl ok66, trivial⟩ (by kernel_rfl) (by first | (simp -implicitDefEqProofs; done) | simp -implicitDefEqProofs [pT92]) ?_
  refine VW.seq ?_
  refine VW.evalA (C := [(66, F66)]) (tm 18 [(1, .ptr 0 0 0), (2, .ptr 1 0 0), (3, .ptr 2 0 0)]) [some (9, [(pT92 a)]), some (9, [[.i .i64 0, .i .i64 0, .i .i64 0, .nil, .f .f32 (some 0), .f .f32 (some 0), .i .i8 0, .i .i64 0, .f .f32 (some 0)]]), some (9, [[.i .i64 a.room_, .i .i64 a.flue_, .i .i64 a.brain_, .nil, .f .f32 (some 0), .f .f32 (some 0), .i .i8 0, .i .i64 0, .f .f32 (some 0)]])] [] ⟨.inl ok66, trivial⟩ (by kernel_rfl) (by first | (simp -implicitDefEqProofs; done) | simp -implicitDefEqProofs [pT92]) ?_
  refine VW.seq ?_
  obtain ⟨r1, q2, h⟩ := bindE h
  have c2 : F66 [.agg [.sl 18 (rows cT147 a.stove_.logs_), .f .f32 a.stove_.box_, .f .f32 a.stove_.damper_, .i .i8 a.stove_.state_, .i .i64 a.stove_.ash_, .f .f32 a.stove_.dust_]] = some (.agg [.own 18 (rows cT147 r1.logs_), .f .f32 r1.box_, .f .f32 r1.damper_, .i .i8 r1.state_, .i .i64 r1.ash_, .f .f32 r1.dust_]) := tells_eq inj66 (a := a.stove_) q2
  refine VW.evalA (C := [(66, F66)]) (tm 18 [(2, .ptr 1 0 0), (3, .ptr 2 0 0)]) [some (9, [(pT92 a)]), some (9, [[.i .i64 0, .i .i64 0, .i .i64 0, .nil, .f .f32 (some 0), .f .f32 (some 0), .i .i8 0, .i .i64 0, .f .f32 (some 0)]]), some (9, [[.i .i64 a.room_, .i .i64 a.flue_, .i .i64 a.brain_, .ref 3 0 r1.logs_.length, .f .f32 r1.box_, .f .f32 r1.damper_, .i .i8 r1.state_, .i .i64 r1.ash_, .f .f32 r1.dust_]]), some (18, rows cT147 r1.logs_)] [] ⟨.inl ok66, trivial⟩ (by kernel_rfl) (by first | (simp -implicitDefEqProofs [c2]; done) | simp -implicitDefEqProofs [c2, pT92]) ?_
  refine VW.seq ?_
  refine VW.evalA (C := [(66, F66)]) (tm 18 [(2, .ptr 1 0 0)]) [some (9, [(pT92 a)]), some (9, [[.i .i64 a.room_, .i .i64 a.flue_, .i .i64 a.brain_, .ref 3 0 r1.logs_.length, .f .f32 r1.box_, .f .f32 r1.damper_, .i .i8 r1.state_, .i .i64 r1.ash_, .f .f32 r1.dust_]]), some (9, [[.i .i64 a.room_, .i .i64 a.flue_, .i .i64 a.brain_, .ref 3 0 r1.logs_.length, .f .f32 r1.box_, .f .f32 r1.damper_, .i .i8 r1.state_, .i .i64 r1.ash_, .f .f32 r1.dust_]]), some (18, rows cT147 r1.logs_)] [] ⟨.inl ok66, trivial⟩ (by kernel_rfl) (by first | (simp -implicitDefEqProofs; done) | simp -implicitDefEqProofs [pT92]) ?_
  obtain rfl := leafS h
  refine VW.ret (VRet.fin ?_)
  first | (simp [eB49]; done) | simp [eB49, pT92]
end Go.Proofs.Ytilkneilafpjiaa
