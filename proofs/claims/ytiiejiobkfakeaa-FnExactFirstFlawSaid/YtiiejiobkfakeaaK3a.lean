/- Contracts of the functions that the law reaches: what each tells, as a function in Lean. -/
import Derived.Test.YtiiejiobkfakeaaK3Ty
import Derived.KernelRfl
namespace Go.Proofs.Ytiiejiobkfakeaa
open Go.RowKit Go.VL
set_option linter.unusedSimpArgs false
set_option linter.unusedVariables false
noncomputable def g38 (a : List Int) (left : Int) : Option (Int) :=
  if ltI (sI .i64 left (a.length : Int)) 0 = true then
    some (-1)
  else
    some (sI .i64 left (a.length : Int))
def eA38 (a : (List Int) × Int) : List V := [.sl 1 (rows ci_i64 a.1), .i .i64 a.2]
def eB38 (r : Int) : V := .i .i64 r
theorem inj38 (a a' : (List Int) × Int) (h : eA38 a = eA38 a') : a = a' := by
  obtain ⟨i1, i2⟩ := a
  obtain ⟨i3, i4⟩ := a'
  simp only [eA38, List.cons.injEq, V.i.injEq, V.b.injEq, V.f.injEq, V.str.injEq, V.sl.injEq, V.agg.injEq, V.cptr.injEq, true_and, and_true] at h
  simp_all [ri ci_i64_inj]
noncomputable def F38 : List V → Option V := tells (fun a => g38 a.1 a.2) eA38 eB38
set_option maxRecDepth 100000 in
set_option maxHeartbeats 4000000 in
/- loop.example/g01229/laws.szInt64S -/
theorem ok38 : Tells Try.prog 38 F38 := by
  refine Tells.of (by kernel_rfl) ?_
  rintro ⟨a, left⟩ r h
  refine VCalls.nl (VCalls.of Try.func38 rfl rfl rfl ?_)
  rw [tm_init]
  simp only [eA38, en, List.length_cons, List.length_nil, Nat.reduceAdd, Nat.reduceSub]
  replace h : (g38 a left).bind some = some r := bindS h
  rw [g38] at h
  refine VW.seq ?_
  refine VW.evalA (C := []) (tm 12 [(0, .sl 1 (rows ci_i64 a)), (1, .i .i64 left)]) [] [] trivial (by kernel_rfl) (by simp -implicitDefEqProofs) ?_
  refine VW.seq ?_
  refine VW.evalA (C := []) (tm 12 [(1, .i .i64 (sI .i64 left (a.length : Int)))]) [] [] trivial (by kernel_rfl) (by simp -implicitDefEqProofs) ?_
  refine VW.seq ?_
  refine VW.seq ?_
  refine VW.evalA (C := []) (tm 12 [(1, .i .i64 (sI .i64 left (a.length : Int))), (10, .b (ltI (sI .i64 left (a.length : Int)) 0))]) [] [] trivial (by kernel_rfl) (by simp -implicitDefEqProofs) ?_
  refine VW.condB (b := ltI (sI .i64 left (a.length : Int)) 0) (by simp) (fun g1 => ?_) (fun g1 => ?_)
  · replace h := iteT g1 h
    refine VW.seq ?_
    refine VW.evalA (C := []) (tm 12 [(4, .i .i64 (-1))]) [] [] trivial (by kernel_rfl) (by simp -implicitDefEqProofs) ?_
    obtain rfl := leafS h
    refine VW.ret (VRet.fin ?_)
    simp [eB38]
  · replace h := iteF g1 h
    refine VW.skip ?_
    refine VW.seq ?_
    refine VW.evalA (C := []) (tm 12 [(4, .i .i64 (sI .i64 left (a.length : Int)))]) [] [] trivial (by kernel_rfl) (by simp -implicitDefEqProofs) ?_
    obtain rfl := leafS h
    refine VW.ret (VRet.fin ?_)
    simp [eB38]
noncomputable def g8 (a : T24) (left : Int) : Option (Int) :=
  (g38 a.need_ left).bind fun r1 =>
  if ltI r1 0 = true then
    some (-1)
  else
    (g38 a.price_ r1).bind fun r4 =>
    if ltI r4 0 = true then
      some (-1)
    else
      some r4
def eA8 (a : T24 × Int) : List V := [.agg (pT24 a.1), .i .i64 a.2]
def eB8 (r : Int) : V := .i .i64 r
theorem inj8 (a a' : T24 × Int) (h : eA8 a = eA8 a') : a = a' := by
  obtain ⟨⟨i5, i6, i7, i8, i9, i10, i11⟩, i12⟩ := a
  obtain ⟨⟨i13, i14, i15, i16, i17, i18, i19⟩, i20⟩ := a'
  simp only [eA8, pT24, List.cons.injEq, V.i.injEq, V.b.injEq, V.f.injEq, V.str.injEq, V.sl.injEq, V.agg.injEq, V.cptr.injEq, true_and, and_true] at h
  simp_all [ri ci_i64_inj]
noncomputable def F8 : List V → Option V := tells (fun a => g8 a.1 a.2) eA8 eB8
set_option maxRecDepth 100000 in
set_option maxHeartbeats 4000000 in
/- loop.example/g01229/laws.szSeason -/
theorem ok8 : Tells Try.prog 8 F8 := by
  refine Tells.of (by kernel_rfl) ?_
  rintro ⟨a, left⟩ r h
  refine VCalls.nl (VCalls.of Try.func8 rfl rfl rfl ?_)
  rw [tm_init]
  simp only [eA8, en, List.length_cons, List.length_nil, Nat.reduceAdd, Nat.reduceSub]
  replace h : (g8 a left).bind some = some r := bindS h
  rw [g8] at h
  refine VW.seq ?_
  refine VW.evalA (C := [(38, F38)]) (tm 18 [(1, .i .i64 left), (2, .ptr 0 0 0)]) [some (7, [(pT24 a)])] [] ⟨.inl ok38, trivial⟩ (by kernel_rfl) (by simp -implicitDefEqProofs) ?_
  refine VW.seq ?_
  obtain ⟨r1, q2, h⟩ := bindE h
  have c2 : F38 [.sl 1 (rows ci_i64 a.need_), .i .i64 left] = some (.i .i64 r1) := tells_eq inj38 (a := (a.need_, left)) q2
  refine VW.evalA (C := [(38, F38)]) (tm 18 [(1, .i .i64 r1), (2, .ptr 0 0 0)]) [some (7, [(pT24 a)])] [] ⟨.inl ok38, trivial⟩ (by kernel_rfl) (by simp -implicitDefEqProofs [c2]) ?_
  refine VW.seq ?_
  refine VW.seq ?_
  refine VW.evalA (C := [(38, F38)]) (tm 18 [(1, .i .i64 r1), (2, .ptr 0 0 0), (10, .b (ltI r1 0))]) [some (7, [(pT24 a)])] [] ⟨.inl ok38, trivial⟩ (by kernel_rfl) (by simp -implicitDefEqProofs) ?_
  refine VW.condB (b := ltI r1 0) (by simp) (fun g3 => ?_) (fun g3 => ?_)
  · replace h := iteT g3 h
    refine VW.seq ?_
    refine VW.evalA (C := [(38, F38)]) (tm 18 [(4, .i .i64 (-1))]) [some (7, [(pT24 a)])] [] ⟨.inl ok38, trivial⟩ (by kernel_rfl) (by simp -implicitDefEqProofs) ?_
    obtain rfl := leafS h
    refine VW.ret (VRet.fin ?_)
    simp [eB8]
  · replace h := iteF g3 h
    refine VW.skip ?_
    refine VW.seq ?_
    obtain ⟨r4, q5, h⟩ := bindE h
    have c5 : F38 [.sl 1 (rows ci_i64 a.price_), .i .i64 r1] = some (.i .i64 r4) := tells_eq inj38 (a := (a.price_, r1)) q5
    refine VW.evalA (C := [(38, F38)]) (tm 18 [(1, .i .i64 r4)]) [some (7, [(pT24 a)])] [] ⟨.inl ok38, trivial⟩ (by kernel_rfl) (by simp -implicitDefEqProofs [c5]) ?_
    refine VW.seq ?_
    refine VW.seq ?_
    refine VW.evalA (C := [(38, F38)]) (tm 18 [(1, .i .i64 r4), (16, .b (ltI r4 0))]) [some (7, [(pT24 a)])] [] ⟨.inl ok38, trivial⟩ (by kernel_rfl) (by simp -implicitDefEqProofs) ?_
    refine VW.condB (b := ltI r4 0) (by simp) (fun g6 => ?_) (fun g6 => ?_)
    · replace h := iteT g6 h
      refine VW.seq ?_
      refine VW.evalA (C := [(38, F38)]) (tm 18 [(4, .i .i64 (-1))]) [some (7, [(pT24 a)])] [] ⟨.inl ok38, trivial⟩ (by kernel_rfl) (by simp -implicitDefEqProofs) ?_
      obtain rfl := leafS h
      refine VW.ret (VRet.fin ?_)
      simp [eB8]
    · replace h := iteF g6 h
      refine VW.skip ?_
      refine VW.seq ?_
      refine VW.evalA (C := [(38, F38)]) (tm 18 [(4, .i .i64 r4)]) [some (7, [(pT24 a)])] [] ⟨.inl ok38, trivial⟩ (by kernel_rfl) (by simp -implicitDefEqProofs) ?_
      obtain rfl := leafS h
      refine VW.ret (VRet.fin ?_)
      simp [eB8]
noncomputable def g9_j1 (left_24 : Int) : Option (Int) :=
  some left_24
noncomputable def g9_L1 (a : List (List Int)) : (Int × Int) → Option ((Int × Int) ⊕ ((Int) ⊕ (Int)))
  | (left_39, i_40) =>
    if ltI i_40 (a.length : Int) = true then
      (idx a i_40).bind fun e42 =>
      (g38 e42 left_39).bind fun r44 =>
      if ltI r44 0 = true then
        some (.inr (.inr (-1)))
      else
        some (.inl (r44, aI .i64 i_40 1))
    else
      some (.inr (.inl left_39))
noncomputable def g9 (a : List (List Int)) (left : Int) : Option (Int) :=
  if ltI (sI .i64 left (a.length : Int)) 0 = true then
    some (-1)
  else
    (loopO (g9_L1 a) (sI .i64 left (a.length : Int), 0)).bind fun w => match w with
      | .inl y => g9_j1 y
      | .inr r => some r
def eA9 (a : (List (List Int)) × Int) : List V := [.sl 1 (rows cl_ci_i64 a.1), .i .i64 a.2]
def eB9 (r : Int) : V := .i .i64 r
theorem inj9 (a a' : (List (List Int)) × Int) (h : eA9 a = eA9 a') : a = a' := by
  obtain ⟨i21, i22⟩ := a
  obtain ⟨i23, i24⟩ := a'
  simp only [eA9, List.cons.injEq, V.i.injEq, V.b.injEq, V.f.injEq, V.str.injEq, V.sl.injEq, V.agg.injEq, V.cptr.injEq, true_and, and_true] at h
  simp_all [ri cl_ci_i64_inj]
noncomputable def F9 : List V → Option V := tells (fun a => g9 a.1 a.2) eA9 eB9
set_option maxRecDepth 100000 in
set_option maxHeartbeats 4000000 in
/- loop.example/g01229/laws.szInt64SS -/
theorem ok9 : Tells Try.prog 9 F9 := by
  refine Tells.of (by kernel_rfl) ?_
  rintro ⟨a, left⟩ r h
  refine VCalls.nl (VCalls.of Try.func9 rfl rfl rfl ?_)
  rw [tm_init]
  simp only [eA9, en, List.length_cons, List.length_nil, Nat.reduceAdd, Nat.reduceSub]
  replace h : (g9 a left).bind some = some r := bindS h
  rw [g9] at h
  refine VW.seq ?_
  refine VW.evalA (C := [(38, F38)]) (tm 27 [(0, .sl 1 (rows cl_ci_i64 a)), (1, .i .i64 left)]) [] [] ⟨.inl ok38, trivial⟩ (by kernel_rfl) (by simp -implicitDefEqProofs) ?_
  refine VW.seq ?_
  refine VW.evalA (C := [(38, F38)]) (tm 27 [(0, .sl 1 (rows cl_ci_i64 a)), (1, .i .i64 (sI .i64 left (a.length : Int)))]) [] [] ⟨.inl ok38, trivial⟩ (by kernel_rfl) (by simp -implicitDefEqProofs) ?_
  refine VW.seq ?_
  refine VW.seq ?_
  refine VW.evalA (C := [(38, F38)]) (tm 27 [(0, .sl 1 (rows cl_ci_i64 a)), (1, .i .i64 (sI .i64 left (a.length : Int))), (11, .b (ltI (sI .i64 left (a.length : Int)) 0))]) [] [] ⟨.inl ok38, trivial⟩ (by kernel_rfl) (by simp -implicitDefEqProofs) ?_
  refine VW.condB (b := ltI (sI .i64 left (a.length : Int)) 0) (by simp) (fun g1 => ?_) (fun g1 => ?_)
  · replace h := iteT g1 h
    refine VW.seq ?_
    refine VW.evalA (C := [(38, F38)]) (tm 27 [(4, .i .i64 (-1))]) [] [] ⟨.inl ok38, trivial⟩ (by kernel_rfl) (by simp -implicitDefEqProofs) ?_
    obtain rfl := leafS h
    refine VW.ret (VRet.fin ?_)
    simp [eB9]
  · replace h := iteF g1 h
    refine VW.skip ?_
    refine VW.join (fun (v : Int) => (⟨(tm 27 [(1, .i .i64 v)]), [], []⟩ : VS)) (fun v => (g9_j1 (v)).bind some = some r) ?_ ?_
    · refine VW.seq ?_
      refine VW.evalA (C := [(38, F38)]) (tm 27 [(0, .sl 1 (rows cl_ci_i64 a)), (1, .i .i64 (sI .i64 left (a.length : Int))), (5, .i .i64 0)]) [] [] ⟨.inl ok38, trivial⟩ (by kernel_rfl) (by simp -implicitDefEqProofs) ?_
      refine VW.block ?_
      obtain ⟨w_1, hw_1, h⟩ := bindE h
      refine VW.loopO (fun (x : Int × Int) => (⟨(tm 27 [(0, .sl 1 (rows cl_ci_i64 a)), (1, .i .i64 x.1), (5, .i .i64 x.2)]), [], []⟩ : VS)) hw_1 (Ent.to 0 (by simp [fgt]) (by simp) (by simp) (by simp [bndT, bndV]) (by simp [bndM, bndV])) ?_
      rintro n_1 ⟨left_39, i_40⟩ h1
      rw [g9_L1] at h1
      refine VW.seq ?_
      refine VW.seq ?_
      refine VW.evalA (C := [(38, F38)]) (tm 27 [(0, .sl 1 (rows cl_ci_i64 a)), (1, .i .i64 left_39), (5, .i .i64 i_40), (15, .b (ltI i_40 (a.length : Int)))]) [] [] ⟨.inl ok38, trivial⟩ (by kernel_rfl) (by simp -implicitDefEqProofs) ?_
      refine VW.condB (b := ltI i_40 (a.length : Int)) (by simp) (fun g41 => ?_) (fun g41 => ?_)
      · replace h1 := iteT g41 h1
        refine VW.skip ?_
        refine VW.seq ?_
        refine VW.block ?_
        refine VW.seq ?_
        obtain ⟨e42, q43, h1⟩ := bindE h1
        obtain ⟨f43a, f43b, f43c, f43d⟩ := idx_some q43
        obtain ⟨r44, q45, h1⟩ := bindE h1
        have c45 : F38 [.sl 1 (rows ci_i64 e42), .i .i64 left_39] = some (.i .i64 r44) := tells_eq inj38 (a := (e42, left_39)) q45
        refine VW.evalA (C := [(38, F38)]) (tm 27 [(0, .sl 1 (rows cl_ci_i64 a)), (1, .i .i64 r44), (5, .i .i64 i_40)]) [] [] ⟨.inl ok38, trivial⟩ (by kernel_rfl) (by simp -implicitDefEqProofs [f43a, f43b, f43c, f43d, c45]) ?_
        refine VW.seq ?_
        refine VW.evalA (C := [(38, F38)]) (tm 27 [(0, .sl 1 (rows cl_ci_i64 a)), (1, .i .i64 r44), (5, .i .i64 i_40), (25, .b (ltI r44 0))]) [] [] ⟨.inl ok38, trivial⟩ (by kernel_rfl) (by simp -implicitDefEqProofs) ?_
        refine VW.condB (b := ltI r44 0) (by simp) (fun g46 => ?_) (fun g46 => ?_)
        · replace h1 := iteT g46 h1
          refine VW.seq ?_
          refine VW.evalA (C := [(38, F38)]) (tm 27 [(4, .i .i64 (-1))]) [] [] ⟨.inl ok38, trivial⟩ (by kernel_rfl) (by simp -implicitDefEqProofs) ?_
          have e_ := leafR h1
          subst w_1
          obtain rfl := leafS h
          refine VW.ret (VRet.fin ?_)
          simp [eB9]
        · replace h1 := iteF g46 h1
          refine VW.skip ?_
          refine VW.evalA (C := [(38, F38)]) (tm 27 [(0, .sl 1 (rows cl_ci_i64 a)), (1, .i .i64 r44), (5, .i .i64 (aI .i64 i_40 1))]) [] [] ⟨.inl ok38, trivial⟩ (by kernel_rfl) (by simp -implicitDefEqProofs) ?_
          exact (show ∃ _, _ from ⟨(r44, aI .i64 i_40 1), leafL h1, (Ent.to 0 (by simp [fgt]) (by simp) (by simp) (by simp [bndT, bndV]) (by simp [bndM, bndV]))⟩)
      · replace h1 := iteF g41 h1
        refine VW.exit ?_
        have e_ := leafR h1
        subst w_1
        exact (show ∃ _, _ from ⟨left_39, h, (Ent.to 0 (by simp [fgt]) (by simp) (by simp) (by simp [bndT, bndV]) (by simp [bndM, bndV]))⟩)
    · rintro left_24 h
      replace h : (g9_j1 left_24).bind _ = _ := h
      rw [g9_j1] at h
      refine VW.seq ?_
      refine VW.evalA (C := [(38, F38)]) (tm 27 [(4, .i .i64 left_24)]) [] [] ⟨.inl ok38, trivial⟩ (by kernel_rfl) (by simp -implicitDefEqProofs) ?_
      obtain rfl := leafS h
      refine VW.ret (VRet.fin ?_)
      simp [eB9]
noncomputable def g51 (n : Int) (low : Int) (high : Int) : Option (Bool) :=
  some (leI low n && leI n high)
def eA51 (a : Int × Int × Int) : List V := [.i .i64 a.1, .i .i64 a.2.1, .i .i64 a.2.2]
def eB51 (r : Bool) : V := .b r
theorem inj51 (a a' : Int × Int × Int) (h : eA51 a = eA51 a') : a = a' := by
  obtain ⟨i25, i26, i27⟩ := a
  obtain ⟨i28, i29, i30⟩ := a'
  simp only [eA51, List.cons.injEq, V.i.injEq, V.b.injEq, V.f.injEq, V.str.injEq, V.sl.injEq, V.agg.injEq, V.cptr.injEq, true_and, and_true] at h
  simp_all
noncomputable def F51 : List V → Option V := tells (fun a => g51 a.1 a.2.1 a.2.2) eA51 eB51
set_option maxRecDepth 100000 in
set_option maxHeartbeats 4000000 in
/- loop.example/g01229/spec.l00In -/
theorem ok51 : Tells Try.prog 51 F51 := by
  refine Tells.of (by kernel_rfl) ?_
  rintro ⟨n, low, high⟩ r h
  refine VCalls.nl (VCalls.of Try.func51 rfl rfl rfl ?_)
  rw [tm_init]
  simp only [eA51, en, List.length_cons, List.length_nil, Nat.reduceAdd, Nat.reduceSub]
  replace h : (g51 n low high).bind some = some r := bindS h
  rw [g51] at h
  refine VW.seq ?_
  refine VW.evalA (C := []) (tm 15 [(0, .i .i64 n), (1, .i .i64 low), (2, .i .i64 high)]) [] [] trivial (by kernel_rfl) (by simp -implicitDefEqProofs) ?_
  refine VW.seq ?_
  refine VW.evalA (C := []) (tm 15 [(6, .b (leI low n && leI n high))]) [] [] trivial (by kernel_rfl) (by simp -implicitDefEqProofs) ?_
  obtain rfl := leafS h
  refine VW.ret (VRet.fin ?_)
  simp [eB51]
noncomputable def g57_j1 : Option (Bool) :=
  some true
noncomputable def g57_L1 (list : List Int) (most : Int) : (Int) → Option ((Int) ⊕ ((Unit) ⊕ (Bool)))
  | i_34 =>
    if ltI i_34 (list.length : Int) = true then
      (idx list i_34).bind fun e36 =>
      (g51 e36 0 most).bind fun r38 =>
      if (!r38) = true then
        some (.inr (.inr false))
      else
        some (.inl (aI .i64 i_34 1))
    else
      some (.inr (.inl ()))
noncomputable def g57 (list : List Int) (most : Int) : Option (Bool) :=
  (loopO (g57_L1 list most) 0).bind fun w => match w with
    | .inl y => g57_j1
    | .inr r => some r
def eA57 (a : (List Int) × Int) : List V := [.sl 1 (rows ci_i64 a.1), .i .i64 a.2]
def eB57 (r : Bool) : V := .b r
theorem inj57 (a a' : (List Int) × Int) (h : eA57 a = eA57 a') : a = a' := by
  obtain ⟨i31, i32⟩ := a
  obtain ⟨i33, i34⟩ := a'
  simp only [eA57, List.cons.injEq, V.i.injEq, V.b.injEq, V.f.injEq, V.str.injEq, V.sl.injEq, V.agg.injEq, V.cptr.injEq, true_and, and_true] at h
  simp_all [ri ci_i64_inj]
noncomputable def F57 : List V → Option V := tells (fun a => g57 a.1 a.2) eA57 eB57
set_option maxRecDepth 100000 in
set_option maxHeartbeats 4000000 in
/- loop.example/g01229/spec.l07Bounded -/
theorem ok57 : Tells Try.prog 57 F57 := by
  refine Tells.of (by kernel_rfl) ?_
  rintro ⟨list, most⟩ r h
  refine VCalls.nl (VCalls.of Try.func57 rfl rfl rfl ?_)
  rw [tm_init]
  simp only [eA57, en, List.length_cons, List.length_nil, Nat.reduceAdd, Nat.reduceSub]
  replace h : (g57 list most).bind some = some r := bindS h
  rw [g57] at h
  refine VW.seq ?_
  refine VW.evalA (C := [(51, F51)]) (tm 19 [(0, .sl 1 (rows ci_i64 list)), (1, .i .i64 most)]) [] [] ⟨.inl ok51, trivial⟩ (by kernel_rfl) (by simp -implicitDefEqProofs) ?_
  refine VW.join (fun (v : Unit) => (⟨(tm 19 []), [], []⟩ : VS)) (fun v => (g57_j1).bind some = some r) ?_ ?_
  · refine VW.seq ?_
    refine VW.evalA (C := [(51, F51)]) (tm 19 [(0, .sl 1 (rows ci_i64 list)), (1, .i .i64 most), (5, .i .i64 0)]) [] [] ⟨.inl ok51, trivial⟩ (by kernel_rfl) (by simp -implicitDefEqProofs) ?_
    refine VW.block ?_
    obtain ⟨w_1, hw_1, h⟩ := bindE h
    refine VW.loopO (fun (x : Int) => (⟨(tm 19 [(0, .sl 1 (rows ci_i64 list)), (1, .i .i64 most), (5, .i .i64 x)]), [], []⟩ : VS)) hw_1 (Ent.to 0 (by simp [fgt]) (by simp) (by simp) (by simp [bndT, bndV]) (by simp [bndM, bndV])) ?_
    rintro n_1 i_34 h1
    rw [g57_L1] at h1
    refine VW.seq ?_
    refine VW.seq ?_
    refine VW.evalA (C := [(51, F51)]) (tm 19 [(0, .sl 1 (rows ci_i64 list)), (1, .i .i64 most), (5, .i .i64 i_34), (9, .b (ltI i_34 (list.length : Int)))]) [] [] ⟨.inl ok51, trivial⟩ (by kernel_rfl) (by simp -implicitDefEqProofs) ?_
    refine VW.condB (b := ltI i_34 (list.length : Int)) (by simp) (fun g35 => ?_) (fun g35 => ?_)
    · replace h1 := iteT g35 h1
      refine VW.skip ?_
      refine VW.seq ?_
      refine VW.block ?_
      refine VW.seq ?_
      obtain ⟨e36, q37, h1⟩ := bindE h1
      obtain ⟨f37a, f37b, f37c, f37d⟩ := idx_some q37
      obtain ⟨r38, q39, h1⟩ := bindE h1
      have c39 : F51 [.i .i64 e36, .i .i64 0, .i .i64 most] = some (.b r38) := tells_eq inj51 (a := (e36, 0, most)) q39
      refine VW.evalA (C := [(51, F51)]) (tm 19 [(0, .sl 1 (rows ci_i64 list)), (1, .i .i64 most), (5, .i .i64 i_34), (18, .b (!r38))]) [] [] ⟨.inl ok51, trivial⟩ (by kernel_rfl) (by simp -implicitDefEqProofs [f37a, f37b, f37c, f37d, c39]) ?_
      refine VW.condB (b := (!r38)) (by simp) (fun g40 => ?_) (fun g40 => ?_)
      · replace h1 := iteT g40 h1
        refine VW.seq ?_
        refine VW.evalA (C := [(51, F51)]) (tm 19 [(4, .b false)]) [] [] ⟨.inl ok51, trivial⟩ (by kernel_rfl) (by simp -implicitDefEqProofs) ?_
        have e_ := leafR h1
        subst w_1
        obtain rfl := leafS h
        refine VW.ret (VRet.fin ?_)
        simp [eB57]
      · replace h1 := iteF g40 h1
        refine VW.skip ?_
        refine VW.evalA (C := [(51, F51)]) (tm 19 [(0, .sl 1 (rows ci_i64 list)), (1, .i .i64 most), (5, .i .i64 (aI .i64 i_34 1))]) [] [] ⟨.inl ok51, trivial⟩ (by kernel_rfl) (by simp -implicitDefEqProofs) ?_
        exact (show ∃ _, _ from ⟨aI .i64 i_34 1, leafL h1, (Ent.to 0 (by simp [fgt]) (by simp) (by simp) (by simp [bndT, bndV]) (by simp [bndM, bndV]))⟩)
    · replace h1 := iteF g35 h1
      refine VW.exit ?_
      have e_ := leafR h1
      subst w_1
      exact (show ∃ _, _ from ⟨(), h, (Ent.to 0 (by simp [fgt]) (by simp) (by simp) (by simp [bndT, bndV]) (by simp [bndM, bndV]))⟩)
  · rintro _ h
    replace h : (g57_j1).bind _ = _ := h
    rw [g57_j1] at h
    refine VW.seq ?_
    refine VW.evalA (C := [(51, F51)]) (tm 19 [(4, .b true)]) [] [] ⟨.inl ok51, trivial⟩ (by kernel_rfl) (by simp -implicitDefEqProofs) ?_
    obtain rfl := leafS h
    refine VW.ret (VRet.fin ?_)
    simp [eB57]
noncomputable def g39 (s : T24) : Option (Bool) :=
  (g51 (s.need_.length : Int) 1 24).bind fun r1 =>
  (if (r1 && eqI (s.price_.length : Int) (s.need_.length : Int)) = true then (g57 s.need_ 200).bind fun r3 => some r3 else some false).bind fun w5 =>
  (if w5 = true then (g57 s.price_ 1000).bind fun r6 => some r6 else some false).bind fun w8 =>
  (if w8 = true then (g51 s.most_ 0 20).bind fun r9 => some r9 else some false).bind fun w11 =>
  (if w11 = true then (g51 s.yield_ 1 40).bind fun r12 => some r12 else some false).bind fun w14 =>
  (if w14 = true then (g51 s.store_ 0 60).bind fun r15 => some r15 else some false).bind fun w17 =>
  (if w17 = true then (g51 s.first_ 0 s.store_).bind fun r18 => some r18 else some false).bind fun w20 =>
  (if w20 = true then (g51 s.loss_ 0 100).bind fun r21 => some r21 else some false).bind fun w23 =>
  some w23
def eA39 (a : T24) : List V := [.cptr (pT24 a) 0]
def eB39 (r : Bool) : V := .b r
theorem inj39 (a a' : T24) (h : eA39 a = eA39 a') : a = a' := by
  obtain ⟨i35, i36, i37, i38, i39, i40, i41⟩ := a
  obtain ⟨i42, i43, i44, i45, i46, i47, i48⟩ := a'
  simp only [eA39, pT24, List.cons.injEq, V.i.injEq, V.b.injEq, V.f.injEq, V.str.injEq, V.sl.injEq, V.agg.injEq, V.cptr.injEq, true_and, and_true] at h
  simp_all [ri ci_i64_inj]
noncomputable def F39 : List V → Option V := tells (fun a => g39 a) eA39 eB39
set_option maxRecDepth 100000 in
set_option maxHeartbeats 4000000 in
/- loop.example/g01229/spec.l07Ok -/
theorem ok39 : Tells Try.prog 39 F39 := by
  refine Tells.of (by kernel_rfl) ?_
  rintro s r h
  refine VCalls.nl (VCalls.of Try.func39 rfl rfl rfl ?_)
  rw [tm_init]
  simp only [eA39, en, List.length_cons, List.length_nil, Nat.reduceAdd, Nat.reduceSub]
  replace h : (g39 s).bind some = some r := bindS h
  rw [g39] at h
  refine VW.seq ?_
  refine VW.evalA (C := [(51, F51), (57, F57)]) (tm 75 [(0, .cptr (pT24 s) 0)]) [] [] ⟨.inl ok51, .inl ok57, trivial⟩ (by kernel_rfl) (by simp -implicitDefEqProofs) ?_
  refine VW.seq ?_
  obtain ⟨r1, q2, h⟩ := bindE h
  have c2 : F51 [.i .i64 (s.need_.length : Int), .i .i64 1, .i .i64 24] = some (.b r1) := tells_eq inj51 (a := ((s.need_.length : Int), 1, 24)) q2
  obtain ⟨w5, q24, h⟩ := bindE h
  obtain ⟨w8, q25, h⟩ := bindE h
  obtain ⟨w11, q26, h⟩ := bindE h
  obtain ⟨w14, q27, h⟩ := bindE h
  obtain ⟨w17, q28, h⟩ := bindE h
  obtain ⟨w20, q29, h⟩ := bindE h
  obtain ⟨w23, q30, h⟩ := bindE h
  refine VW.evalDA (C := [(51, F51), (57, F57)]) (tm 75 [(2, .b w23)]) [] [] ⟨.inl ok51, .inl ok57, trivial⟩ mixed (by kernel_rfl) (by
      rcases Bool.eq_false_or_eq_true (r1 && eqI (s.price_.length : Int) (s.need_.length : Int)) with q31 | q31
      · first
        | (simp at q31; done)
        | (rw [if_pos q31] at q24
           obtain ⟨r3, q4, q24⟩ := bindQ q24
           have c4 : F57 [.sl 1 (rows ci_i64 s.need_), .i .i64 200] = some (.b r3) := tells_eq inj57 (a := (s.need_, 200)) q4
           have d32 : w5 = _ := (Option.some.inj q24).symm
           rcases Bool.eq_false_or_eq_true w5 with q33 | q33
           · first
             | (simp [d32] at q33; done)
             | (rw [if_pos q33] at q25
                try simp only [d32] at q33
                obtain ⟨r6, q7, q25⟩ := bindQ q25
                have c7 : F57 [.sl 1 (rows ci_i64 s.price_), .i .i64 1000] = some (.b r6) := tells_eq inj57 (a := (s.price_, 1000)) q7
                have d34 : w8 = _ := (Option.some.inj q25).symm
                rcases Bool.eq_false_or_eq_true w8 with q35 | q35
                · first
                  | (simp [d32, d34] at q35; done)
                  | (rw [if_pos q35] at q26
                     try simp only [d32, d34] at q35
                     obtain ⟨r9, q10, q26⟩ := bindQ q26
                     have c10 : F51 [.i .i64 s.most_, .i .i64 0, .i .i64 20] = some (.b r9) := tells_eq inj51 (a := (s.most_, 0, 20)) q10
                     have d36 : w11 = _ := (Option.some.inj q26).symm
                     rcases Bool.eq_false_or_eq_true w11 with q37 | q37
                     · first
                       | (simp [d32, d34, d36] at q37; done)
                       | (rw [if_pos q37] at q27
                          try simp only [d32, d34, d36] at q37
                          obtain ⟨r12, q13, q27⟩ := bindQ q27
                          have c13 : F51 [.i .i64 s.yield_, .i .i64 1, .i .i64 40] = some (.b r12) := tells_eq inj51 (a := (s.yield_, 1, 40)) q13
                          have d38 : w14 = _ := (Option.some.inj q27).symm
                          rcases Bool.eq_false_or_eq_true w14 with q39 | q39
                          · first
                            | (simp [d32, d34, d36, d38] at q39; done)
                            | (rw [if_pos q39] at q28
                               try simp only [d32, d34, d36, d38] at q39
                               obtain ⟨r15, q16, q28⟩ := bindQ q28
                               have c16 : F51 [.i .i64 s.store_, .i .i64 0, .i .i64 60] = some (.b r15) := tells_eq inj51 (a := (s.store_, 0, 60)) q16
                               have d40 : w17 = _ := (Option.some.inj q28).symm
                               rcases Bool.eq_false_or_eq_true w17 with q41 | q41
                               · first
                                 | (simp [d32, d34, d36, d38, d40] at q41; done)
                                 | (rw [if_pos q41] at q29
                                    try simp only [d32, d34, d36, d38, d40] at q41
                                    obtain ⟨r18, q19, q29⟩ := bindQ q29
                                    have c19 : F51 [.i .i64 s.first_, .i .i64 0, .i .i64 s.store_] = some (.b r18) := tells_eq inj51 (a := (s.first_, 0, s.store_)) q19
                                    have d42 : w20 = _ := (Option.some.inj q29).symm
                                    rcases Bool.eq_false_or_eq_true w20 with q43 | q43
                                    · first
                                      | (simp [d32, d34, d36, d38, d40, d42] at q43; done)
                                      | (rw [if_pos q43] at q30
                                         try simp only [d32, d34, d36, d38, d40, d42] at q43
                                         obtain ⟨r21, q22, q30⟩ := bindQ q30
                                         have c22 : F51 [.i .i64 s.loss_, .i .i64 0, .i .i64 100] = some (.b r21) := tells_eq inj51 (a := (s.loss_, 0, 100)) q22
                                         have d44 : w23 = _ := (Option.some.inj q30).symm
                                         simp -implicitDefEqProofs [c2, q31, c4, d32, q33, c7, d34, q35, c10, d36, q37, c13, d38, q39, c16, d40, q41, c19, d42, q43, c22, d44])
                                    · first
                                      | (simp [d32, d34, d36, d38, d40, d42] at q43; done)
                                      | (rw [if_neg (by rw [q43]; exact Bool.false_ne_true)] at q30
                                         try simp only [d32, d34, d36, d38, d40, d42] at q43
                                         have d45 : w23 = _ := (Option.some.inj q30).symm
                                         simp -implicitDefEqProofs [c2, q31, c4, d32, q33, c7, d34, q35, c10, d36, q37, c13, d38, q39, c16, d40, q41, c19, d42, q43, d45]))
                               · first
                                 | (simp [d32, d34, d36, d38, d40] at q41; done)
                                 | (rw [if_neg (by rw [q41]; exact Bool.false_ne_true)] at q29
                                    try simp only [d32, d34, d36, d38, d40] at q41
                                    have d46 : w20 = _ := (Option.some.inj q29).symm
                                    rcases Bool.eq_false_or_eq_true w20 with q47 | q47
                                    · first
                                      | (simp [d32, d34, d36, d38, d40, d46] at q47; done)
                                      | (rw [if_pos q47] at q30
                                         try simp only [d32, d34, d36, d38, d40, d46] at q47
                                         obtain ⟨r21, q22, q30⟩ := bindQ q30
                                         have c22 : F51 [.i .i64 s.loss_, .i .i64 0, .i .i64 100] = some (.b r21) := tells_eq inj51 (a := (s.loss_, 0, 100)) q22
                                         have d48 : w23 = _ := (Option.some.inj q30).symm
                                         simp -implicitDefEqProofs [c2, q31, c4, d32, q33, c7, d34, q35, c10, d36, q37, c13, d38, q39, c16, d40, q41, d46, q47, c22, d48])
                                    · first
                                      | (simp [d32, d34, d36, d38, d40, d46] at q47; done)
                                      | (rw [if_neg (by rw [q47]; exact Bool.false_ne_true)] at q30
                                         try simp only [d32, d34, d36, d38, d40, d46] at q47
                                         have d49 : w23 = _ := (Option.some.inj q30).symm
                                         simp -implicitDefEqProofs [c2, q31, c4, d32, q33, c7, d34, q35, c10, d36, q37, c13, d38, q39, c16, d40, q41, d46, q47, d49])))
                          · first
                            | (simp [d32, d34, d36, d38] at q39; done)
                            | (rw [if_neg (by rw [q39]; exact Bool.false_ne_true)] at q28
                               try simp only [d32, d34, d36, d38] at q39
                               have d50 : w17 = _ := (Option.some.inj q28).symm
                               rcases Bool.eq_false_or_eq_true w17 with q51 | q51
                               · first
                                 | (simp [d32, d34, d36, d38, d50] at q51; done)
                                 | (rw [if_pos q51] at q29
                                    try simp only [d32, d34, d36, d38, d50] at q51
                                    obtain ⟨r18, q19, q29⟩ := bindQ q29
                                    have c19 : F51 [.i .i64 s.first_, .i .i64 0, .i .i64 s.store_] = some (.b r18) := tells_eq inj51 (a := (s.first_, 0, s.store_)) q19
                                    have d52 : w20 = _ := (Option.some.inj q29).symm
                                    rcases Bool.eq_false_or_eq_true w20 with q53 | q53
                                    · first
                                      | (simp [d32, d34, d36, d38, d50, d52] at q53; done)
                                      | (rw [if_pos q53] at q30
                                         try simp only [d32, d34, d36, d38, d50, d52] at q53
                                         obtain ⟨r21, q22, q30⟩ := bindQ q30
                                         have c22 : F51 [.i .i64 s.loss_, .i .i64 0, .i .i64 100] = some (.b r21) := tells_eq inj51 (a := (s.loss_, 0, 100)) q22
                                         have d54 : w23 = _ := (Option.some.inj q30).symm
                                         simp -implicitDefEqProofs [c2, q31, c4, d32, q33, c7, d34, q35, c10, d36, q37, c13, d38, q39, d50, q51, c19, d52, q53, c22, d54])
                                    · first
                                      | (simp [d32, d34, d36, d38, d50, d52] at q53; done)
                                      | (rw [if_neg (by rw [q53]; exact Bool.false_ne_true)] at q30
                                         try simp only [d32, d34, d36, d38, d50, d52] at q53
                                         have d55 : w23 = _ := (Option.some.inj q30).symm
                                         simp -implicitDefEqProofs [c2, q31, c4, d32, q33, c7, d34, q35, c10, d36, q37, c13, d38, q39, d50, q51, c19, d52, q53, d55]))
                               · first
                                 | (simp [d32, d34, d36, d38, d50] at q51; done)
                                 | (rw [if_neg (by rw [q51]; exact Bool.false_ne_true)] at q29
                                    try simp only [d32, d34, d36, d38, d50] at q51
                                    have d56 : w20 = _ := (Option.some.inj q29).symm
                                    rcases Bool.eq_false_or_eq_true w20 with q57 | q57
                                    · first
                                      | (simp [d32, d34, d36, d38, d50, d56] at q57; done)
                                      | (rw [if_pos q57] at q30
                                         try simp only [d32, d34, d36, d38, d50, d56] at q57
                                         obtain ⟨r21, q22, q30⟩ := bindQ q30
                                         have c22 : F51 [.i .i64 s.loss_, .i .i64 0, .i .i64 100] = some (.b r21) := tells_eq inj51 (a := (s.loss_, 0, 100)) q22
                                         have d58 : w23 = _ := (Option.some.inj q30).symm
                                         simp -implicitDefEqProofs [c2, q31, c4, d32, q33, c7, d34, q35, c10, d36, q37, c13, d38, q39, d50, q51, d56, q57, c22, d58])
                                    · first
                                      | (simp [d32, d34, d36, d38, d50, d56] at q57; done)
                                      | (rw [if_neg (by rw [q57]; exact Bool.false_ne_true)] at q30
                                         try simp only [d32, d34, d36, d38, d50, d56] at q57
                                         have d59 : w23 = _ := (Option.some.inj q30).symm
                                         simp -implicitDefEqProofs [c2, q31, c4, d32, q33, c7, d34, q35, c10, d36, q37, c13, d38, q39, d50, q51, d56, q57, d59]))))
                     · first
                       | (simp [d32, d34, d36] at q37; done)
                       | (rw [if_neg (by rw [q37]; exact Bool.false_ne_true)] at q27
                          try simp only [d32, d34, d36] at q37
                          have d60 : w14 = _ := (Option.some.inj q27).symm
                          rcases Bool.eq_false_or_eq_true w14 with q61 | q61
                          · first
                            | (simp [d32, d34, d36, d60] at q61; done)
                            | (rw [if_pos q61] at q28
                               try simp only [d32, d34, d36, d60] at q61
                               obtain ⟨r15, q16, q28⟩ := bindQ q28
                               have c16 : F51 [.i .i64 s.store_, .i .i64 0, .i .i64 60] = some (.b r15) := tells_eq inj51 (a := (s.store_, 0, 60)) q16
                               have d62 : w17 = _ := (Option.some.inj q28).symm
                               rcases Bool.eq_false_or_eq_true w17 with q63 | q63
                               · first
                                 | (simp [d32, d34, d36, d60, d62] at q63; done)
                                 | (rw [if_pos q63] at q29
                                    try simp only [d32, d34, d36, d60, d62] at q63
                                    obtain ⟨r18, q19, q29⟩ := bindQ q29
                                    have c19 : F51 [.i .i64 s.first_, .i .i64 0, .i .i64 s.store_] = some (.b r18) := tells_eq inj51 (a := (s.first_, 0, s.store_)) q19
                                    have d64 : w20 = _ := (Option.some.inj q29).symm
                                    rcases Bool.eq_false_or_eq_true w20 with q65 | q65
                                    · first
                                      | (simp [d32, d34, d36, d60, d62, d64] at q65; done)
                                      | (rw [if_pos q65] at q30
                                         try simp only [d32, d34, d36, d60, d62, d64] at q65
                                         obtain ⟨r21, q22, q30⟩ := bindQ q30
                                         have c22 : F51 [.i .i64 s.loss_, .i .i64 0, .i .i64 100] = some (.b r21) := tells_eq inj51 (a := (s.loss_, 0, 100)) q22
                                         have d66 : w23 = _ := (Option.some.inj q30).symm
                                         simp -implicitDefEqProofs [c2, q31, c4, d32, q33, c7, d34, q35, c10, d36, q37, d60, q61, c16, d62, q63, c19, d64, q65, c22, d66])
                                    · first
                                      | (simp [d32, d34, d36, d60, d62, d64] at q65; done)
                                      | (rw [if_neg (by rw [q65]; exact Bool.false_ne_true)] at q30
                                         try simp only [d32, d34, d36, d60, d62, d64] at q65
                                         have d67 : w23 = _ := (Option.some.inj q30).symm
                                         simp -implicitDefEqProofs [c2, q31, c4, d32, q33, c7, d34, q35, c10, d36, q37, d60, q61, c16, d62, q63, c19, d64, q65, d67]))
                               · first
                                 | (simp [d32, d34, d36, d60, d62] at q63; done)
                                 | (rw [if_neg (by rw [q63]; exact Bool.false_ne_true)] at q29
                                    try simp only [d32, d34, d36, d60, d62] at q63
                                    have d68 : w20 = _ := (Option.some.inj q29).symm
                                    rcases Bool.eq_false_or_eq_true w20 with q69 | q69
                                    · first
                                      | (simp [d32, d34, d36, d60, d62, d68] at q69; done)
                                      | (rw [if_pos q69] at q30
                                         try simp only [d32, d34, d36, d60, d62, d68] at q69
                                         obtain ⟨r21, q22, q30⟩ := bindQ q30
                                         have c22 : F51 [.i .i64 s.loss_, .i .i64 0, .i .i64 100] = some (.b r21) := tells_eq inj51 (a := (s.loss_, 0, 100)) q22
                                         have d70 : w23 = _ := (Option.some.inj q30).symm
                                         simp -implicitDefEqProofs [c2, q31, c4, d32, q33, c7, d34, q35, c10, d36, q37, d60, q61, c16, d62, q63, d68, q69, c22, d70])
                                    · first
                                      | (simp [d32, d34, d36, d60, d62, d68] at q69; done)
                                      | (rw [if_neg (by rw [q69]; exact Bool.false_ne_true)] at q30
                                         try simp only [d32, d34, d36, d60, d62, d68] at q69
                                         have d71 : w23 = _ := (Option.some.inj q30).symm
                                         simp -implicitDefEqProofs [c2, q31, c4, d32, q33, c7, d34, q35, c10, d36, q37, d60, q61, c16, d62, q63, d68, q69, d71])))
                          · first
                            | (simp [d32, d34, d36, d60] at q61; done)
                            | (rw [if_neg (by rw [q61]; exact Bool.false_ne_true)] at q28
                               try simp only [d32, d34, d36, d60] at q61
                               have d72 : w17 = _ := (Option.some.inj q28).symm
                               rcases Bool.eq_false_or_eq_true w17 with q73 | q73
                               · first
                                 | (simp [d32, d34, d36, d60, d72] at q73; done)
                                 | (rw [if_pos q73] at q29
                                    try simp only [d32, d34, d36, d60, d72] at q73
                                    obtain ⟨r18, q19, q29⟩ := bindQ q29
                                    have c19 : F51 [.i .i64 s.first_, .i .i64 0, .i .i64 s.store_] = some (.b r18) := tells_eq inj51 (a := (s.first_, 0, s.store_)) q19
                                    have d74 : w20 = _ := (Option.some.inj q29).symm
                                    rcases Bool.eq_false_or_eq_true w20 with q75 | q75
                                    · first
                                      | (simp [d32, d34, d36, d60, d72, d74] at q75; done)
                                      | (rw [if_pos q75] at q30
                                         try simp only [d32, d34, d36, d60, d72, d74] at q75
                                         obtain ⟨r21, q22, q30⟩ := bindQ q30
                                         have c22 : F51 [.i .i64 s.loss_, .i .i64 0, .i .i64 100] = some (.b r21) := tells_eq inj51 (a := (s.loss_, 0, 100)) q22
                                         have d76 : w23 = _ := (Option.some.inj q30).symm
                                         simp -implicitDefEqProofs [c2, q31, c4, d32, q33, c7, d34, q35, c10, d36, q37, d60, q61, d72, q73, c19, d74, q75, c22, d76])
                                    · first
                                      | (simp [d32, d34, d36, d60, d72, d74] at q75; done)
                                      | (rw [if_neg (by rw [q75]; exact Bool.false_ne_true)] at q30
                                         try simp only [d32, d34, d36, d60, d72, d74] at q75
                                         have d77 : w23 = _ := (Option.some.inj q30).symm
                                         simp -implicitDefEqProofs [c2, q31, c4, d32, q33, c7, d34, q35, c10, d36, q37, d60, q61, d72, q73, c19, d74, q75, d77]))
                               · first
                                 | (simp [d32, d34, d36, d60, d72] at q73; done)
                                 | (rw [if_neg (by rw [q73]; exact Bool.false_ne_true)] at q29
                                    try simp only [d32, d34, d36, d60, d72] at q73
                                    have d78 : w20 = _ := (Option.some.inj q29).symm
                                    rcases Bool.eq_false_or_eq_true w20 with q79 | q79
                                    · first
                                      | (simp [d32, d34, d36, d60, d72, d78] at q79; done)
                                      | (rw [if_pos q79] at q30
                                         try simp only [d32, d34, d36, d60, d72, d78] at q79
                                         obtain ⟨r21, q22, q30⟩ := bindQ q30
                                         have c22 : F51 [.i .i64 s.loss_, .i .i64 0, .i .i64 100] = some (.b r21) := tells_eq inj51 (a := (s.loss_, 0, 100)) q22
                                         have d80 : w23 = _ := (Option.some.inj q30).symm
                                         simp -implicitDefEqProofs [c2, q31, c4, d32, q33, c7, d34, q35, c10, d36, q37, d60, q61, d72, q73, d78, q79, c22, d80])
                                    · first
                                      | (simp [d32, d34, d36, d60, d72, d78] at q79; done)
                                      | (rw [if_neg (by rw [q79]; exact Bool.false_ne_true)] at q30
                                         try simp only [d32, d34, d36, d60, d72, d78] at q79
                                         have d81 : w23 = _ := (Option.some.inj q30).symm
                                         simp -implicitDefEqProofs [c2, q31, c4, d32, q33, c7, d34, q35, c10, d36, q37, d60, q61, d72, q73, d78, q79, d81])))))
                · first
                  | (simp [d32, d34] at q35; done)
                  | (rw [if_neg (by rw [q35]; exact Bool.false_ne_true)] at q26
                     try simp only [d32, d34] at q35
                     have d82 : w11 = _ := (Option.some.inj q26).symm
                     rcases Bool.eq_false_or_eq_true w11 with q83 | q83
                     · first
                       | (simp [d32, d34, d82] at q83; done)
                       | (rw [if_pos q83] at q27
                          try simp only [d32, d34, d82] at q83
                          obtain ⟨r12, q13, q27⟩ := bindQ q27
                          have c13 : F51 [.i .i64 s.yield_, .i .i64 1, .i .i64 40] = some (.b r12) := tells_eq inj51 (a := (s.yield_, 1, 40)) q13
                          have d84 : w14 = _ := (Option.some.inj q27).symm
                          rcases Bool.eq_false_or_eq_true w14 with q85 | q85
                          · first
                            | (simp [d32, d34, d82, d84] at q85; done)
                            | (rw [if_pos q85] at q28
                               try simp only [d32, d34, d82, d84] at q85
                               obtain ⟨r15, q16, q28⟩ := bindQ q28
                               have c16 : F51 [.i .i64 s.store_, .i .i64 0, .i .i64 60] = some (.b r15) := tells_eq inj51 (a := (s.store_, 0, 60)) q16
                               have d86 : w17 = _ := (Option.some.inj q28).symm
                               rcases Bool.eq_false_or_eq_true w17 with q87 | q87
                               · first
                                 | (simp [d32, d34, d82, d84, d86] at q87; done)
                                 | (rw [if_pos q87] at q29
                                    try simp only [d32, d34, d82, d84, d86] at q87
                                    obtain ⟨r18, q19, q29⟩ := bindQ q29
                                    have c19 : F51 [.i .i64 s.first_, .i .i64 0, .i .i64 s.store_] = some (.b r18) := tells_eq inj51 (a := (s.first_, 0, s.store_)) q19
                                    have d88 : w20 = _ := (Option.some.inj q29).symm
                                    rcases Bool.eq_false_or_eq_true w20 with q89 | q89
                                    · first
                                      | (simp [d32, d34, d82, d84, d86, d88] at q89; done)
                                      | (rw [if_pos q89] at q30
                                         try simp only [d32, d34, d82, d84, d86, d88] at q89
                                         obtain ⟨r21, q22, q30⟩ := bindQ q30
                                         have c22 : F51 [.i .i64 s.loss_, .i .i64 0, .i .i64 100] = some (.b r21) := tells_eq inj51 (a := (s.loss_, 0, 100)) q22
                                         have d90 : w23 = _ := (Option.some.inj q30).symm
                                         simp -implicitDefEqProofs [c2, q31, c4, d32, q33, c7, d34, q35, d82, q83, c13, d84, q85, c16, d86, q87, c19, d88, q89, c22, d90])
                                    · first
                                      | (simp [d32, d34, d82, d84, d86, d88] at q89; done)
                                      | (rw [if_neg (by rw [q89]; exact Bool.false_ne_true)] at q30
                                         try simp only [d32, d34, d82, d84, d86, d88] at q89
                                         have d91 : w23 = _ := (Option.some.inj q30).symm
                                         simp -implicitDefEqProofs [c2, q31, c4, d32, q33, c7, d34, q35, d82, q83, c13, d84, q85, c16, d86, q87, c19, d88, q89, d91]))
                               · first
                                 | (simp [d32, d34, d82, d84, d86] at q87; done)
                                 | (rw [if_neg (by rw [q87]; exact Bool.false_ne_true)] at q29
                                    try simp only [d32, d34, d82, d84, d86] at q87
                                    have d92 : w20 = _ := (Option.some.inj q29).symm
                                    rcases Bool.eq_false_or_eq_true w20 with q93 | q93
                                    · first
                                      | (simp [d32, d34, d82, d84, d86, d92] at q93; done)
                                      | (rw [if_pos q93] at q30
                                         try simp only [d32, d34, d82, d84, d86, d92] at q93
                                         obtain ⟨r21, q22, q30⟩ := bindQ q30
                                         have c22 : F51 [.i .i64 s.loss_, .i .i64 0, .i .i64 100] = some (.b r21) := tells_eq inj51 (a := (s.loss_, 0, 100)) q22
                                         have d94 : w23 = _ := (Option.some.inj q30).symm
                                         simp -implicitDefEqProofs [c2, q31, c4, d32, q33, c7, d34, q35, d82, q83, c13, d84, q85, c16, d86, q87, d92, q93, c22, d94])
                                    · first
                                      | (simp [d32, d34, d82, d84, d86, d92] at q93; done)
                                      | (rw [if_neg (by rw [q93]; exact Bool.false_ne_true)] at q30
                                         try simp only [d32, d34, d82, d84, d86, d92] at q93
                                         have d95 : w23 = _ := (Option.some.inj q30).symm
                                         simp -implicitDefEqProofs [c2, q31, c4, d32, q33, c7, d34, q35, d82, q83, c13, d84, q85, c16, d86, q87, d92, q93, d95])))
                          · first
                            | (simp [d32, d34, d82, d84] at q85; done)
                            | (rw [if_neg (by rw [q85]; exact Bool.false_ne_true)] at q28
                               try simp only [d32, d34, d82, d84] at q85
                               have d96 : w17 = _ := (Option.some.inj q28).symm
                               rcases Bool.eq_false_or_eq_true w17 with q97 | q97
                               · first
                                 | (simp [d32, d34, d82, d84, d96] at q97; done)
                                 | (rw [if_pos q97] at q29
                                    try simp only [d32, d34, d82, d84, d96] at q97
                                    obtain ⟨r18, q19, q29⟩ := bindQ q29
                                    have c19 : F51 [.i .i64 s.first_, .i .i64 0, .i .i64 s.store_] = some (.b r18) := tells_eq inj51 (a := (s.first_, 0, s.store_)) q19
                                    have d98 : w20 = _ := (Option.some.inj q29).symm
                                    rcases Bool.eq_false_or_eq_true w20 with q99 | q99
                                    · first
                                      | (simp [d32, d34, d82, d84, d96, d98] at q99; done)
                                      | (rw [if_pos q99] at q30
                                         try simp only [d32, d34, d82, d84, d96, d98] at q99
                                         obtain ⟨r21, q22, q30⟩ := bindQ q30
                                         have c22 : F51 [.i .i64 s.loss_, .i .i64 0, .i .i64 100] = some (.b r21) := tells_eq inj51 (a := (s.loss_, 0, 100)) q22
                                         have d100 : w23 = _ := (Option.some.inj q30).symm
                                         simp -implicitDefEqProofs [c2, q31, c4, d32, q33, c7, d34, q35, d82, q83, c13, d84, q85, d96, q97, c19, d98, q99, c22, d100])
                                    · first
                                      | (simp [d32, d34, d82, d84, d96, d98] at q99; done)
                                      | (rw [if_neg (by rw [q99]; exact Bool.false_ne_true)] at q30
                                         try simp only [d32, d34, d82, d84, d96, d98] at q99
                                         have d101 : w23 = _ := (Option.some.inj q30).symm
                                         simp -implicitDefEqProofs [c2, q31, c4, d32, q33, c7, d34, q35, d82, q83, c13, d84, q85, d96, q97, c19, d98, q99, d101]))
                               · first
                                 | (simp [d32, d34, d82, d84, d96] at q97; done)
                                 | (rw [if_neg (by rw [q97]; exact Bool.false_ne_true)] at q29
                                    try simp only [d32, d34, d82, d84, d96] at q97
                                    have d102 : w20 = _ := (Option.some.inj q29).symm
                                    rcases Bool.eq_false_or_eq_true w20 with q103 | q103
                                    · first
                                      | (simp [d32, d34, d82, d84, d96, d102] at q103; done)
                                      | (rw [if_pos q103] at q30
                                         try simp only [d32, d34, d82, d84, d96, d102] at q103
                                         obtain ⟨r21, q22, q30⟩ := bindQ q30
                                         have c22 : F51 [.i .i64 s.loss_, .i .i64 0, .i .i64 100] = some (.b r21) := tells_eq inj51 (a := (s.loss_, 0, 100)) q22
                                         have d104 : w23 = _ := (Option.some.inj q30).symm
                                         simp -implicitDefEqProofs [c2, q31, c4, d32, q33, c7, d34, q35, d82, q83, c13, d84, q85, d96, q97, d102, q103, c22, d104])
                                    · first
                                      | (simp [d32, d34, d82, d84, d96, d102] at q103; done)
                                      | (rw [if_neg (by rw [q103]; exact Bool.false_ne_true)] at q30
                                         try simp only [d32, d34, d82, d84, d96, d102] at q103
                                         have d105 : w23 = _ := (Option.some.inj q30).symm
                                         simp -implicitDefEqProofs [c2, q31, c4, d32, q33, c7, d34, q35, d82, q83, c13, d84, q85, d96, q97, d102, q103, d105]))))
                     · first
                       | (simp [d32, d34, d82] at q83; done)
                       | (rw [if_neg (by rw [q83]; exact Bool.false_ne_true)] at q27
                          try simp only [d32, d34, d82] at q83
                          have d106 : w14 = _ := (Option.some.inj q27).symm
                          rcases Bool.eq_false_or_eq_true w14 with q107 | q107
                          · first
                            | (simp [d32, d34, d82, d106] at q107; done)
                            | (rw [if_pos q107] at q28
                               try simp only [d32, d34, d82, d106] at q107
                               obtain ⟨r15, q16, q28⟩ := bindQ q28
                               have c16 : F51 [.i .i64 s.store_, .i .i64 0, .i .i64 60] = some (.b r15) := tells_eq inj51 (a := (s.store_, 0, 60)) q16
                               have d108 : w17 = _ := (Option.some.inj q28).symm
                               rcases Bool.eq_false_or_eq_true w17 with q109 | q109
                               · first
                                 | (simp [d32, d34, d82, d106, d108] at q109; done)
                                 | (rw [if_pos q109] at q29
                                    try simp only [d32, d34, d82, d106, d108] at q109
                                    obtain ⟨r18, q19, q29⟩ := bindQ q29
                                    have c19 : F51 [.i .i64 s.first_, .i .i64 0, .i .i64 s.store_] = some (.b r18) := tells_eq inj51 (a := (s.first_, 0, s.store_)) q19
                                    have d110 : w20 = _ := (Option.some.inj q29).symm
                                    rcases Bool.eq_false_or_eq_true w20 with q111 | q111
                                    · first
                                      | (simp [d32, d34, d82, d106, d108, d110] at q111; done)
                                      | (rw [if_pos q111] at q30
                                         try simp only [d32, d34, d82, d106, d108, d110] at q111
                                         obtain ⟨r21, q22, q30⟩ := bindQ q30
                                         have c22 : F51 [.i .i64 s.loss_, .i .i64 0, .i .i64 100] = some (.b r21) := tells_eq inj51 (a := (s.loss_, 0, 100)) q22
                                         have d112 : w23 = _ := (Option.some.inj q30).symm
                                         simp -implicitDefEqProofs [c2, q31, c4, d32, q33, c7, d34, q35, d82, q83, d106, q107, c16, d108, q109, c19, d110, q111, c22, d112])
                                    · first
                                      | (simp [d32, d34, d82, d106, d108, d110] at q111; done)
                                      | (rw [if_neg (by rw [q111]; exact Bool.false_ne_true)] at q30
                                         try simp only [d32, d34, d82, d106, d108, d110] at q111
                                         have d113 : w23 = _ := (Option.some.inj q30).symm
                                         simp -implicitDefEqProofs [c2, q31, c4, d32, q33, c7, d34, q35, d82, q83, d106, q107, c16, d108, q109, c19, d110, q111, d113]))
                               · first
                                 | (simp [d32, d34, d82, d106, d108] at q109; done)
                                 | (rw [if_neg (by rw [q109]; exact Bool.false_ne_true)] at q29
                                    try simp only [d32, d34, d82, d106, d108] at q109
                                    have d114 : w20 = _ := (Option.some.inj q29).symm
                                    rcases Bool.eq_false_or_eq_true w20 with q115 | q115
                                    · first
                                      | (simp [d32, d34, d82, d106, d108, d114] at q115; done)
                                      | (rw [if_pos q115] at q30
                                         try simp only [d32, d34, d82, d106, d108, d114] at q115
                                         obtain ⟨r21, q22, q30⟩ := bindQ q30
                                         have c22 : F51 [.i .i64 s.loss_, .i .i64 0, .i .i64 100] = some (.b r21) := tells_eq inj51 (a := (s.loss_, 0, 100)) q22
                                         have d116 : w23 = _ := (Option.some.inj q30).symm
                                         simp -implicitDefEqProofs [c2, q31, c4, d32, q33, c7, d34, q35, d82, q83, d106, q107, c16, d108, q109, d114, q115, c22, d116])
                                    · first
                                      | (simp [d32, d34, d82, d106, d108, d114] at q115; done)
                                      | (rw [if_neg (by rw [q115]; exact Bool.false_ne_true)] at q30
                                         try simp only [d32, d34, d82, d106, d108, d114] at q115
                                         have d117 : w23 = _ := (Option.some.inj q30).symm
                                         simp -implicitDefEqProofs [c2, q31, c4, d32, q33, c7, d34, q35, d82, q83, d106, q107, c16, d108, q109, d114, q115, d117])))
                          · first
                            | (simp [d32, d34, d82, d106] at q107; done)
                            | (rw [if_neg (by rw [q107]; exact Bool.false_ne_true)] at q28
                               try simp only [d32, d34, d82, d106] at q107
                               have d118 : w17 = _ := (Option.some.inj q28).symm
                               rcases Bool.eq_false_or_eq_true w17 with q119 | q119
                               · first
                                 | (simp [d32, d34, d82, d106, d118] at q119; done)
                                 | (rw [if_pos q119] at q29
                                    try simp only [d32, d34, d82, d106, d118] at q119
                                    obtain ⟨r18, q19, q29⟩ := bindQ q29
                                    have c19 : F51 [.i .i64 s.first_, .i .i64 0, .i .i64 s.store_] = some (.b r18) := tells_eq inj51 (a := (s.first_, 0, s.store_)) q19
                                    have d120 : w20 = _ := (Option.some.inj q29).symm
                                    rcases Bool.eq_false_or_eq_true w20 with q121 | q121
                                    · first
                                      | (simp [d32, d34, d82, d106, d118, d120] at q121; done)
                                      | (rw [if_pos q121] at q30
                                         try simp only [d32, d34, d82, d106, d118, d120] at q121
                                         obtain ⟨r21, q22, q30⟩ := bindQ q30
                                         have c22 : F51 [.i .i64 s.loss_, .i .i64 0, .i .i64 100] = some (.b r21) := tells_eq inj51 (a := (s.loss_, 0, 100)) q22
                                         have d122 : w23 = _ := (Option.some.inj q30).symm
                                         simp -implicitDefEqProofs [c2, q31, c4, d32, q33, c7, d34, q35, d82, q83, d106, q107, d118, q119, c19, d120, q121, c22, d122])
                                    · first
                                      | (simp [d32, d34, d82, d106, d118, d120] at q121; done)
                                      | (rw [if_neg (by rw [q121]; exact Bool.false_ne_true)] at q30
                                         try simp only [d32, d34, d82, d106, d118, d120] at q121
                                         have d123 : w23 = _ := (Option.some.inj q30).symm
                                         simp -implicitDefEqProofs [c2, q31, c4, d32, q33, c7, d34, q35, d82, q83, d106, q107, d118, q119, c19, d120, q121, d123]))
                               · first
                                 | (simp [d32, d34, d82, d106, d118] at q119; done)
                                 | (rw [if_neg (by rw [q119]; exact Bool.false_ne_true)] at q29
                                    try simp only [d32, d34, d82, d106, d118] at q119
                                    have d124 : w20 = _ := (Option.some.inj q29).symm
                                    rcases Bool.eq_false_or_eq_true w20 with q125 | q125
                                    · first
                                      | (simp [d32, d34, d82, d106, d118, d124] at q125; done)
                                      | (rw [if_pos q125] at q30
                                         try simp only [d32, d34, d82, d106, d118, d124] at q125
                                         obtain ⟨r21, q22, q30⟩ := bindQ q30
                                         have c22 : F51 [.i .i64 s.loss_, .i .i64 0, .i .i64 100] = some (.b r21) := tells_eq inj51 (a := (s.loss_, 0, 100)) q22
                                         have d126 : w23 = _ := (Option.some.inj q30).symm
                                         simp -implicitDefEqProofs [c2, q31, c4, d32, q33, c7, d34, q35, d82, q83, d106, q107, d118, q119, d124, q125, c22, d126])
                                    · first
                                      | (simp [d32, d34, d82, d106, d118, d124] at q125; done)
                                      | (rw [if_neg (by rw [q125]; exact Bool.false_ne_true)] at q30
                                         try simp only [d32, d34, d82, d106, d118, d124] at q125
                                         have d127 : w23 = _ := (Option.some.inj q30).symm
                                         simp -implicitDefEqProofs [c2, q31, c4, d32, q33, c7, d34, q35, d82, q83, d106, q107, d118, q119, d124, q125, d127]))))))
           · first
             | (simp [d32] at q33; done)
             | (rw [if_neg (by rw [q33]; exact Bool.false_ne_true)] at q25
                try simp only [d32] at q33
                have d128 : w8 = _ := (Option.some.inj q25).symm
                rcases Bool.eq_false_or_eq_true w8 with q129 | q129
                · first
                  | (simp [d32, d128] at q129; done)
                  | (rw [if_pos q129] at q26
                     try simp only [d32, d128] at q129
                     obtain ⟨r9, q10, q26⟩ := bindQ q26
                     have c10 : F51 [.i .i64 s.most_, .i .i64 0, .i .i64 20] = some (.b r9) := tells_eq inj51 (a := (s.most_, 0, 20)) q10
                     have d130 : w11 = _ := (Option.some.inj q26).symm
                     rcases Bool.eq_false_or_eq_true w11 with q131 | q131
                     · first
                       | (simp [d32, d128, d130] at q131; done)
                       | (rw [if_pos q131] at q27
                          try simp only [d32, d128, d130] at q131
                          obtain ⟨r12, q13, q27⟩ := bindQ q27
                          have c13 : F51 [.i .i64 s.yield_, .i .i64 1, .i .i64 40] = some (.b r12) := tells_eq inj51 (a := (s.yield_, 1, 40)) q13
                          have d132 : w14 = _ := (Option.some.inj q27).symm
                          rcases Bool.eq_false_or_eq_true w14 with q133 | q133
                          · first
                            | (simp [d32, d128, d130, d132] at q133; done)
                            | (rw [if_pos q133] at q28
                               try simp only [d32, d128, d130, d132] at q133
                               obtain ⟨r15, q16, q28⟩ := bindQ q28
                               have c16 : F51 [.i .i64 s.store_, .i .i64 0, .i .i64 60] = some (.b r15) := tells_eq inj51 (a := (s.store_, 0, 60)) q16
                               have d134 : w17 = _ := (Option.some.inj q28).symm
                               rcases Bool.eq_false_or_eq_true w17 with q135 | q135
                               · first
                                 | (simp [d32, d128, d130, d132, d134] at q135; done)
                                 | (rw [if_pos q135] at q29
                                    try simp only [d32, d128, d130, d132, d134] at q135
                                    obtain ⟨r18, q19, q29⟩ := bindQ q29
                                    have c19 : F51 [.i .i64 s.first_, .i .i64 0, .i .i64 s.store_] = some (.b r18) := tells_eq inj51 (a := (s.first_, 0, s.store_)) q19
                                    have d136 : w20 = _ := (Option.some.inj q29).symm
                                    rcases Bool.eq_false_or_eq_true w20 with q137 | q137
                                    · first
                                      | (simp [d32, d128, d130, d132, d134, d136] at q137; done)
                                      | (rw [if_pos q137] at q30
                                         try simp only [d32, d128, d130, d132, d134, d136] at q137
                                         obtain ⟨r21, q22, q30⟩ := bindQ q30
                                         have c22 : F51 [.i .i64 s.loss_, .i .i64 0, .i .i64 100] = some (.b r21) := tells_eq inj51 (a := (s.loss_, 0, 100)) q22
                                         have d138 : w23 = _ := (Option.some.inj q30).symm
                                         simp -implicitDefEqProofs [c2, q31, c4, d32, q33, d128, q129, c10, d130, q131, c13, d132, q133, c16, d134, q135, c19, d136, q137, c22, d138])
                                    · first
                                      | (simp [d32, d128, d130, d132, d134, d136] at q137; done)
                                      | (rw [if_neg (by rw [q137]; exact Bool.false_ne_true)] at q30
                                         try simp only [d32, d128, d130, d132, d134, d136] at q137
                                         have d139 : w23 = _ := (Option.some.inj q30).symm
                                         simp -implicitDefEqProofs [c2, q31, c4, d32, q33, d128, q129, c10, d130, q131, c13, d132, q133, c16, d134, q135, c19, d136, q137, d139]))
                               · first
                                 | (simp [d32, d128, d130, d132, d134] at q135; done)
                                 | (rw [if_neg (by rw [q135]; exact Bool.false_ne_true)] at q29
                                    try simp only [d32, d128, d130, d132, d134] at q135
                                    have d140 : w20 = _ := (Option.some.inj q29).symm
                                    rcases Bool.eq_false_or_eq_true w20 with q141 | q141
                                    · first
                                      | (simp [d32, d128, d130, d132, d134, d140] at q141; done)
                                      | (rw [if_pos q141] at q30
                                         try simp only [d32, d128, d130, d132, d134, d140] at q141
                                         obtain ⟨r21, q22, q30⟩ := bindQ q30
                                         have c22 : F51 [.i .i64 s.loss_, .i .i64 0, .i .i64 100] = some (.b r21) := tells_eq inj51 (a := (s.loss_, 0, 100)) q22
                                         have d142 : w23 = _ := (Option.some.inj q30).symm
                                         simp -implicitDefEqProofs [c2, q31, c4, d32, q33, d128, q129, c10, d130, q131, c13, d132, q133, c16, d134, q135, d140, q141, c22, d142])
                                    · first
                                      | (simp [d32, d128, d130, d132, d134, d140] at q141; done)
                                      | (rw [if_neg (by rw [q141]; exact Bool.false_ne_true)] at q30
                                         try simp only [d32, d128, d130, d132, d134, d140] at q141
                                         have d143 : w23 = _ := (Option.some.inj q30).symm
                                         simp -implicitDefEqProofs [c2, q31, c4, d32, q33, d128, q129, c10, d130, q131, c13, d132, q133, c16, d134, q135, d140, q141, d143])))
                          · first
                            | (simp [d32, d128, d130, d132] at q133; done)
                            | (rw [if_neg (by rw [q133]; exact Bool.false_ne_true)] at q28
                               try simp only [d32, d128, d130, d132] at q133
                               have d144 : w17 = _ := (Option.some.inj q28).symm
                               rcases Bool.eq_false_or_eq_true w17 with q145 | q145
                               · first
                                 | (simp [d32, d128, d130, d132, d144] at q145; done)
                                 | (rw [if_pos q145] at q29
                                    try simp only [d32, d128, d130, d132, d144] at q145
                                    obtain ⟨r18, q19, q29⟩ := bindQ q29
                                    have c19 : F51 [.i .i64 s.first_, .i .i64 0, .i .i64 s.store_] = some (.b r18) := tells_eq inj51 (a := (s.first_, 0, s.store_)) q19
                                    have d146 : w20 = _ := (Option.some.inj q29).symm
                                    rcases Bool.eq_false_or_eq_true w20 with q147 | q147
                                    · first
                                      | (simp [d32, d128, d130, d132, d144, d146] at q147; done)
                                      | (rw [if_pos q147] at q30
                                         try simp only [d32, d128, d130, d132, d144, d146] at q147
                                         obtain ⟨r21, q22, q30⟩ := bindQ q30
                                         have c22 : F51 [.i .i64 s.loss_, .i .i64 0, .i .i64 100] = some (.b r21) := tells_eq inj51 (a := (s.loss_, 0, 100)) q22
                                         have d148 : w23 = _ := (Option.some.inj q30).symm
                                         simp -implicitDefEqProofs [c2, q31, c4, d32, q33, d128, q129, c10, d130, q131, c13, d132, q133, d144, q145, c19, d146, q147, c22, d148])
                                    · first
                                      | (simp [d32, d128, d130, d132, d144, d146] at q147; done)
                                      | (rw [if_neg (by rw [q147]; exact Bool.false_ne_true)] at q30
                                         try simp only [d32, d128, d130, d132, d144, d146] at q147
                                         have d149 : w23 = _ := (Option.some.inj q30).symm
                                         simp -implicitDefEqProofs [c2, q31, c4, d32, q33, d128, q129, c10, d130, q131, c13, d132, q133, d144, q145, c19, d146, q147, d149]))
                               · first
                                 | (simp [d32, d128, d130, d132, d144] at q145; done)
                                 | (rw [if_neg (by rw [q145]; exact Bool.false_ne_true)] at q29
                                    try simp only [d32, d128, d130, d132, d144] at q145
                                    have d150 : w20 = _ := (Option.some.inj q29).symm
                                    rcases Bool.eq_false_or_eq_true w20 with q151 | q151
                                    · first
                                      | (simp [d32, d128, d130, d132, d144, d150] at q151; done)
                                      | (rw [if_pos q151] at q30
                                         try simp only [d32, d128, d130, d132, d144, d150] at q151
                                         obtain ⟨r21, q22, q30⟩ := bindQ q30
                                         have c22 : F51 [.i .i64 s.loss_, .i .i64 0, .i .i64 100] = some (.b r21) := tells_eq inj51 (a := (s.loss_, 0, 100)) q22
                                         have d152 : w23 = _ := (Option.some.inj q30).symm
                                         simp -implicitDefEqProofs [c2, q31, c4, d32, q33, d128, q129, c10, d130, q131, c13, d132, q133, d144, q145, d150, q151, c22, d152])
                                    · first
                                      | (simp [d32, d128, d130, d132, d144, d150] at q151; done)
                                      | (rw [if_neg (by rw [q151]; exact Bool.false_ne_true)] at q30
                                         try simp only [d32, d128, d130, d132, d144, d150] at q151
                                         have d153 : w23 = _ := (Option.some.inj q30).symm
                                         simp -implicitDefEqProofs [c2, q31, c4, d32, q33, d128, q129, c10, d130, q131, c13, d132, q133, d144, q145, d150, q151, d153]))))
                     · first
                       | (simp [d32, d128, d130] at q131; done)
                       | (rw [if_neg (by rw [q131]; exact Bool.false_ne_true)] at q27
                          try simp only [d32, d128, d130] at q131
                          have d154 : w14 = _ := (Option.some.inj q27).symm
                          rcases Bool.eq_false_or_eq_true w14 with q155 | q155
                          · first
                            | (simp [d32, d128, d130, d154] at q155; done)
                            | (rw [if_pos q155] at q28
                               try simp only [d32, d128, d130, d154] at q155
                               obtain ⟨r15, q16, q28⟩ := bindQ q28
                               have c16 : F51 [.i .i64 s.store_, .i .i64 0, .i .i64 60] = some (.b r15) := tells_eq inj51 (a := (s.store_, 0, 60)) q16
                               have d156 : w17 = _ := (Option.some.inj q28).symm
                               rcases Bool.eq_false_or_eq_true w17 with q157 | q157
                               · first
                                 | (simp [d32, d128, d130, d154, d156] at q157; done)
                                 | (rw [if_pos q157] at q29
                                    try simp only [d32, d128, d130, d154, d156] at q157
                                    obtain ⟨r18, q19, q29⟩ := bindQ q29
                                    have c19 : F51 [.i .i64 s.first_, .i .i64 0, .i .i64 s.store_] = some (.b r18) := tells_eq inj51 (a := (s.first_, 0, s.store_)) q19
                                    have d158 : w20 = _ := (Option.some.inj q29).symm
                                    rcases Bool.eq_false_or_eq_true w20 with q159 | q159
                                    · first
                                      | (simp [d32, d128, d130, d154, d156, d158] at q159; done)
                                      | (rw [if_pos q159] at q30
                                         try simp only [d32, d128, d130, d154, d156, d158] at q159
                                         obtain ⟨r21, q22, q30⟩ := bindQ q30
                                         have c22 : F51 [.i .i64 s.loss_, .i .i64 0, .i .i64 100] = some (.b r21) := tells_eq inj51 (a := (s.loss_, 0, 100)) q22
                                         have d160 : w23 = _ := (Option.some.inj q30).symm
                                         simp -implicitDefEqProofs [c2, q31, c4, d32, q33, d128, q129, c10, d130, q131, d154, q155, c16, d156, q157, c19, d158, q159, c22, d160])
                                    · first
                                      | (simp [d32, d128, d130, d154, d156, d158] at q159; done)
                                      | (rw [if_neg (by rw [q159]; exact Bool.false_ne_true)] at q30
                                         try simp only [d32, d128, d130, d154, d156, d158] at q159
                                         have d161 : w23 = _ := (Option.some.inj q30).symm
                                         simp -implicitDefEqProofs [c2, q31, c4, d32, q33, d128, q129, c10, d130, q131, d154, q155, c16, d156, q157, c19, d158, q159, d161]))
                               · first
                                 | (simp [d32, d128, d130, d154, d156] at q157; done)
                                 | (rw [if_neg (by rw [q157]; exact Bool.false_ne_true)] at q29
                                    try simp only [d32, d128, d130, d154, d156] at q157
                                    have d162 : w20 = _ := (Option.some.inj q29).symm
                                    rcases Bool.eq_false_or_eq_true w20 with q163 | q163
                                    · first
                                      | (simp [d32, d128, d130, d154, d156, d162] at q163; done)
                                      | (rw [if_pos q163] at q30
                                         try simp only [d32, d128, d130, d154, d156, d162] at q163
                                         obtain ⟨r21, q22, q30⟩ := bindQ q30
                                         have c22 : F51 [.i .i64 s.loss_, .i .i64 0, .i .i64 100] = some (.b r21) := tells_eq inj51 (a := (s.loss_, 0, 100)) q22
                                         have d164 : w23 = _ := (Option.some.inj q30).symm
                                         simp -implicitDefEqProofs [c2, q31, c4, d32, q33, d128, q129, c10, d130, q131, d154, q155, c16, d156, q157, d162, q163, c22, d164])
                                    · first
                                      | (simp [d32, d128, d130, d154, d156, d162] at q163; done)
                                      | (rw [if_neg (by rw [q163]; exact Bool.false_ne_true)] at q30
                                         try simp only [d32, d128, d130, d154, d156, d162] at q163
                                         have d165 : w23 = _ := (Option.some.inj q30).symm
                                         simp -implicitDefEqProofs [c2, q31, c4, d32, q33, d128, q129, c10, d130, q131, d154, q155, c16, d156, q157, d162, q163, d165])))
                          · first
                            | (simp [d32, d128, d130, d154] at q155; done)
                            | (rw [if_neg (by rw [q155]; exact Bool.false_ne_true)] at q28
                               try simp only [d32, d128, d130, d154] at q155
                               have d166 : w17 = _ := (Option.some.inj q28).symm
                               rcases Bool.eq_false_or_eq_true w17 with q167 | q167
                               · first
                                 | (simp [d32, d128, d130, d154, d166] at q167; done)
                                 | (rw [if_pos q167] at q29
                                    try simp only [d32, d128, d130, d154, d166] at q167
                                    obtain ⟨r18, q19, q29⟩ := bindQ q29
                                    have c19 : F51 [.i .i64 s.first_, .i .i64 0, .i .i64 s.store_] = some (.b r18) := tells_eq inj51 (a := (s.first_, 0, s.store_)) q19
                                    have d168 : w20 = _ := (Option.some.inj q29).symm
                                    rcases Bool.eq_false_or_eq_true w20 with q169 | q169
                                    · first
                                      | (simp [d32, d128, d130, d154, d166, d168] at q169; done)
                                      | (rw [if_pos q169] at q30
                                         try simp only [d32, d128, d130, d154, d166, d168] at q169
                                         obtain ⟨r21, q22, q30⟩ := bindQ q30
                                         have c22 : F51 [.i .i64 s.loss_, .i .i64 0, .i .i64 100] = some (.b r21) := tells_eq inj51 (a := (s.loss_, 0, 100)) q22
                                         have d170 : w23 = _ := (Option.some.inj q30).symm
                                         simp -implicitDefEqProofs [c2, q31, c4, d32, q33, d128, q129, c10, d130, q131, d154, q155, d166, q167, c19, d168, q169, c22, d170])
                                    · first
                                      | (simp [d32, d128, d130, d154, d166, d168] at q169; done)
                                      | (rw [if_neg (by rw [q169]; exact Bool.false_ne_true)] at q30
                                         try simp only [d32, d128, d130, d154, d166, d168] at q169
                                         have d171 : w23 = _ := (Option.some.inj q30).symm
                                         simp -implicitDefEqProofs [c2, q31, c4, d32, q33, d128, q129, c10, d130, q131, d154, q155, d166, q167, c19, d168, q169, d171]))
                               · first
                                 | (simp [d32, d128, d130, d154, d166] at q167; done)
                                 | (rw [if_neg (by rw [q167]; exact Bool.false_ne_true)] at q29
                                    try simp only [d32, d128, d130, d154, d166] at q167
                                    have d172 : w20 = _ := (Option.some.inj q29).symm
                                    rcases Bool.eq_false_or_eq_true w20 with q173 | q173
                                    · first
                                      | (simp [d32, d128, d130, d154, d166, d172] at q173; done)
                                      | (rw [if_pos q173] at q30
                                         try simp only [d32, d128, d130, d154, d166, d172] at q173
                                         obtain ⟨r21, q22, q30⟩ := bindQ q30
                                         have c22 : F51 [.i .i64 s.loss_, .i .i64 0, .i .i64 100] = some (.b r21) := tells_eq inj51 (a := (s.loss_, 0, 100)) q22
                                         have d174 : w23 = _ := (Option.some.inj q30).symm
                                         simp -implicitDefEqProofs [c2, q31, c4, d32, q33, d128, q129, c10, d130, q131, d154, q155, d166, q167, d172, q173, c22, d174])
                                    · first
                                      | (simp [d32, d128, d130, d154, d166, d172] at q173; done)
                                      | (rw [if_neg (by rw [q173]; exact Bool.false_ne_true)] at q30
                                         try simp only [d32, d128, d130, d154, d166, d172] at q173
                                         have d175 : w23 = _ := (Option.some.inj q30).symm
                                         simp -implicitDefEqProofs [c2, q31, c4, d32, q33, d128, q129, c10, d130, q131, d154, q155, d166, q167, d172, q173, d175])))))
                · first
                  | (simp [d32, d128] at q129; done)
                  | (rw [if_neg (by rw [q129]; exact Bool.false_ne_true)] at q26
                     try simp only [d32, d128] at q129
                     have d176 : w11 = _ := (Option.some.inj q26).symm
                     rcases Bool.eq_false_or_eq_true w11 with q177 | q177
                     · first
                       | (simp [d32, d128, d176] at q177; done)
                       | (rw [if_pos q177] at q27
                          try simp only [d32, d128, d176] at q177
                          obtain ⟨r12, q13, q27⟩ := bindQ q27
                          have c13 : F51 [.i .i64 s.yield_, .i .i64 1, .i .i64 40] = some (.b r12) := tells_eq inj51 (a := (s.yield_, 1, 40)) q13
                          have d178 : w14 = _ := (Option.some.inj q27).symm
                          rcases Bool.eq_false_or_eq_true w14 with q179 | q179
                          · first
                            | (simp [d32, d128, d176, d178] at q179; done)
                            | (rw [if_pos q179] at q28
                               try simp only [d32, d128, d176, d178] at q179
                               obtain ⟨r15, q16, q28⟩ := bindQ q28
                               have c16 : F51 [.i .i64 s.store_, .i .i64 0, .i .i64 60] = some (.b r15) := tells_eq inj51 (a := (s.store_, 0, 60)) q16
                               have d180 : w17 = _ := (Option.some.inj q28).symm
                               rcases Bool.eq_false_or_eq_true w17 with q181 | q181
                               · first
                                 | (simp [d32, d128, d176, d178, d180] at q181; done)
                                 | (rw [if_pos q181] at q29
                                    try simp only [d32, d128, d176, d178, d180] at q181
                                    obtain ⟨r18, q19, q29⟩ := bindQ q29
                                    have c19 : F51 [.i .i64 s.first_, .i .i64 0, .i .i64 s.store_] = some (.b r18) := tells_eq inj51 (a := (s.first_, 0, s.store_)) q19
                                    have d182 : w20 = _ := (Option.some.inj q29).symm
                                    rcases Bool.eq_false_or_eq_true w20 with q183 | q183
                                    · first
                                      | (simp [d32, d128, d176, d178, d180, d182] at q183; done)
                                      | (rw [if_pos q183] at q30
                                         try simp only [d32, d128, d176, d178, d180, d182] at q183
                                         obtain ⟨r21, q22, q30⟩ := bindQ q30
                                         have c22 : F51 [.i .i64 s.loss_, .i .i64 0, .i .i64 100] = some (.b r21) := tells_eq inj51 (a := (s.loss_, 0, 100)) q22
                                         have d184 : w23 = _ := (Option.some.inj q30).symm
                                         simp -implicitDefEqProofs [c2, q31, c4, d32, q33, d128, q129, d176, q177, c13, d178, q179, c16, d180, q181, c19, d182, q183, c22, d184])
                                    · first
                                      | (simp [d32, d128, d176, d178, d180, d182] at q183; done)
                                      | (rw [if_neg (by rw [q183]; exact Bool.false_ne_true)] at q30
                                         try simp only [d32, d128, d176, d178, d180, d182] at q183
                                         have d185 : w23 = _ := (Option.some.inj q30).symm
                                         simp -implicitDefEqProofs [c2, q31, c4, d32, q33, d128, q129, d176, q177, c13, d178, q179, c16, d180, q181, c19, d182, q183, d185]))
                               · first
                                 | (simp [d32, d128, d176, d178, d180] at q181; done)
                                 | (rw [if_neg (by rw [q181]; exact Bool.false_ne_true)] at q29
                                    try simp only [d32, d128, d176, d178, d180] at q181
                                    have d186 : w20 = _ := (Option.some.inj q29).symm
                                    rcases Bool.eq_false_or_eq_true w20 with q187 | q187
                                    · first
                                      | (simp [d32, d128, d176, d178, d180, d186] at q187; done)
                                      | (rw [if_pos q187] at q30
                                         try simp only [d32, d128, d176, d178, d180, d186] at q187
                                         obtain ⟨r21, q22, q30⟩ := bindQ q30
                                         have c22 : F51 [.i .i64 s.loss_, .i .i64 0, .i .i64 100] = some (.b r21) := tells_eq inj51 (a := (s.loss_, 0, 100)) q22
                                         have d188 : w23 = _ := (Option.some.inj q30).symm
                                         simp -implicitDefEqProofs [c2, q31, c4, d32, q33, d128, q129, d176, q177, c13, d178, q179, c16, d180, q181, d186, q187, c22, d188])
                                    · first
                                      | (simp [d32, d128, d176, d178, d180, d186] at q187; done)
                                      | (rw [if_neg (by rw [q187]; exact Bool.false_ne_true)] at q30
                                         try simp only [d32, d128, d176, d178, d180, d186] at q187
                                         have d189 : w23 = _ := (Option.some.inj q30).symm
                                         simp -implicitDefEqProofs [c2, q31, c4, d32, q33, d128, q129, d176, q177, c13, d178, q179, c16, d180, q181, d186, q187, d189])))
                          · first
                            | (simp [d32, d128, d176, d178] at q179; done)
                            | (rw [if_neg (by rw [q179]; exact Bool.false_ne_true)] at q28
                               try simp only [d32, d128, d176, d178] at q179
                               have d190 : w17 = _ := (Option.some.inj q28).symm
                               rcases Bool.eq_false_or_eq_true w17 with q191 | q191
                               · first
                                 | (simp [d32, d128, d176, d178, d190] at q191; done)
                                 | (rw [if_pos q191] at q29
                                    try simp only [d32, d128, d176, d178, d190] at q191
                                    obtain ⟨r18, q19, q29⟩ := bindQ q29
                                    have c19 : F51 [.i .i64 s.first_, .i .i64 0, .i .i64 s.store_] = some (.b r18) := tells_eq inj51 (a := (s.first_, 0, s.store_)) q19
                                    have d192 : w20 = _ := (Option.some.inj q29).symm
                                    rcases Bool.eq_false_or_eq_true w20 with q193 | q193
                                    · first
                                      | (simp [d32, d128, d176, d178, d190, d192] at q193; done)
                                      | (rw [if_pos q193] at q30
                                         try simp only [d32, d128, d176, d178, d190, d192] at q193
                                         obtain ⟨r21, q22, q30⟩ := bindQ q30
                                         have c22 : F51 [.i .i64 s.loss_, .i .i64 0, .i .i64 100] = some (.b r21) := tells_eq inj51 (a := (s.loss_, 0, 100)) q22
                                         have d194 : w23 = _ := (Option.some.inj q30).symm
                                         simp -implicitDefEqProofs [c2, q31, c4, d32, q33, d128, q129, d176, q177, c13, d178, q179, d190, q191, c19, d192, q193, c22, d194])
                                    · first
                                      | (simp [d32, d128, d176, d178, d190, d192] at q193; done)
                                      | (rw [if_neg (by rw [q193]; exact Bool.false_ne_true)] at q30
                                         try simp only [d32, d128, d176, d178, d190, d192] at q193
                                         have d195 : w23 = _ := (Option.some.inj q30).symm
                                         simp -implicitDefEqProofs [c2, q31, c4, d32, q33, d128, q129, d176, q177, c13, d178, q179, d190, q191, c19, d192, q193, d195]))
                               · first
                                 | (simp [d32, d128, d176, d178, d190] at q191; done)
                                 | (rw [if_neg (by rw [q191]; exact Bool.false_ne_true)] at q29
                                    try simp only [d32, d128, d176, d178, d190] at q191
                                    have d196 : w20 = _ := (Option.some.inj q29).symm
                                    rcases Bool.eq_false_or_eq_true w20 with q197 | q197
                                    · first
                                      | (simp [d32, d128, d176, d178, d190, d196] at q197; done)
                                      | (rw [if_pos q197] at q30
                                         try simp only [d32, d128, d176, d178, d190, d196] at q197
                                         obtain ⟨r21, q22, q30⟩ := bindQ q30
                                         have c22 : F51 [.i .i64 s.loss_, .i .i64 0, .i .i64 100] = some (.b r21) := tells_eq inj51 (a := (s.loss_, 0, 100)) q22
                                         have d198 : w23 = _ := (Option.some.inj q30).symm
                                         simp -implicitDefEqProofs [c2, q31, c4, d32, q33, d128, q129, d176, q177, c13, d178, q179, d190, q191, d196, q197, c22, d198])
                                    · first
                                      | (simp [d32, d128, d176, d178, d190, d196] at q197; done)
                                      | (rw [if_neg (by rw [q197]; exact Bool.false_ne_true)] at q30
                                         try simp only [d32, d128, d176, d178, d190, d196] at q197
                                         have d199 : w23 = _ := (Option.some.inj q30).symm
                                         simp -implicitDefEqProofs [c2, q31, c4, d32, q33, d128, q129, d176, q177, c13, d178, q179, d190, q191, d196, q197, d199]))))
                     · first
                       | (simp [d32, d128, d176] at q177; done)
                       | (rw [if_neg (by rw [q177]; exact Bool.false_ne_true)] at q27
                          try simp only [d32, d128, d176] at q177
                          have d200 : w14 = _ := (Option.some.inj q27).symm
                          rcases Bool.eq_false_or_eq_true w14 with q201 | q201
                          · first
                            | (simp [d32, d128, d176, d200] at q201; done)
                            | (rw [if_pos q201] at q28
                               try simp only [d32, d128, d176, d200] at q201
                               obtain ⟨r15, q16, q28⟩ := bindQ q28
                               have c16 : F51 [.i .i64 s.store_, .i .i64 0, .i .i64 60] = some (.b r15) := tells_eq inj51 (a := (s.store_, 0, 60)) q16
                               have d202 : w17 = _ := (Option.some.inj q28).symm
                               rcases Bool.eq_false_or_eq_true w17 with q203 | q203
                               · first
                                 | (simp [d32, d128, d176, d200, d202] at q203; done)
                                 | (rw [if_pos q203] at q29
                                    try simp only [d32, d128, d176, d200, d202] at q203
                                    obtain ⟨r18, q19, q29⟩ := bindQ q29
                                    have c19 : F51 [.i .i64 s.first_, .i .i64 0, .i .i64 s.store_] = some (.b r18) := tells_eq inj51 (a := (s.first_, 0, s.store_)) q19
                                    have d204 : w20 = _ := (Option.some.inj q29).symm
                                    rcases Bool.eq_false_or_eq_true w20 with q205 | q205
                                    · first
                                      | (simp [d32, d128, d176, d200, d202, d204] at q205; done)
                                      | (rw [if_pos q205] at q30
                                         try simp only [d32, d128, d176, d200, d202, d204] at q205
                                         obtain ⟨r21, q22, q30⟩ := bindQ q30
                                         have c22 : F51 [.i .i64 s.loss_, .i .i64 0, .i .i64 100] = some (.b r21) := tells_eq inj51 (a := (s.loss_, 0, 100)) q22
                                         have d206 : w23 = _ := (Option.some.inj q30).symm
                                         simp -implicitDefEqProofs [c2, q31, c4, d32, q33, d128, q129, d176, q177, d200, q201, c16, d202, q203, c19, d204, q205, c22, d206])
                                    · first
                                      | (simp [d32, d128, d176, d200, d202, d204] at q205; done)
                                      | (rw [if_neg (by rw [q205]; exact Bool.false_ne_true)] at q30
                                         try simp only [d32, d128, d176, d200, d202, d204] at q205
                                         have d207 : w23 = _ := (Option.some.inj q30).symm
                                         simp -implicitDefEqProofs [c2, q31, c4, d32, q33, d128, q129, d176, q177, d200, q201, c16, d202, q203, c19, d204, q205, d207]))
                               · first
                                 | (simp [d32, d128, d176, d200, d202] at q203; done)
                                 | (rw [if_neg (by rw [q203]; exact Bool.false_ne_true)] at q29
                                    try simp only [d32, d128, d176, d200, d202] at q203
                                    have d208 : w20 = _ := (Option.some.inj q29).symm
                                    rcases Bool.eq_false_or_eq_true w20 with q209 | q209
                                    · first
                                      | (simp [d32, d128, d176, d200, d202, d208] at q209; done)
                                      | (rw [if_pos q209] at q30
                                         try simp only [d32, d128, d176, d200, d202, d208] at q209
                                         obtain ⟨r21, q22, q30⟩ := bindQ q30
                                         have c22 : F51 [.i .i64 s.loss_, .i .i64 0, .i .i64 100] = some (.b r21) := tells_eq inj51 (a := (s.loss_, 0, 100)) q22
                                         have d210 : w23 = _ := (Option.some.inj q30).symm
                                         simp -implicitDefEqProofs [c2, q31, c4, d32, q33, d128, q129, d176, q177, d200, q201, c16, d202, q203, d208, q209, c22, d210])
                                    · first
                                      | (simp [d32, d128, d176, d200, d202, d208] at q209; done)
                                      | (rw [if_neg (by rw [q209]; exact Bool.false_ne_true)] at q30
                                         try simp only [d32, d128, d176, d200, d202, d208] at q209
                                         have d211 : w23 = _ := (Option.some.inj q30).symm
                                         simp -implicitDefEqProofs [c2, q31, c4, d32, q33, d128, q129, d176, q177, d200, q201, c16, d202, q203, d208, q209, d211])))
                          · first
                            | (simp [d32, d128, d176, d200] at q201; done)
                            | (rw [if_neg (by rw [q201]; exact Bool.false_ne_true)] at q28
                               try simp only [d32, d128, d176, d200] at q201
                               have d212 : w17 = _ := (Option.some.inj q28).symm
                               rcases Bool.eq_false_or_eq_true w17 with q213 | q213
                               · first
                                 | (simp [d32, d128, d176, d200, d212] at q213; done)
                                 | (rw [if_pos q213] at q29
                                    try simp only [d32, d128, d176, d200, d212] at q213
                                    obtain ⟨r18, q19, q29⟩ := bindQ q29
                                    have c19 : F51 [.i .i64 s.first_, .i .i64 0, .i .i64 s.store_] = some (.b r18) := tells_eq inj51 (a := (s.first_, 0, s.store_)) q19
                                    have d214 : w20 = _ := (Option.some.inj q29).symm
                                    rcases Bool.eq_false_or_eq_true w20 with q215 | q215
                                    · first
                                      | (simp [d32, d128, d176, d200, d212, d214] at q215; done)
                                      | (rw [if_pos q215] at q30
                                         try simp only [d32, d128, d176, d200, d212, d214] at q215
                                         obtain ⟨r21, q22, q30⟩ := bindQ q30
                                         have c22 : F51 [.i .i64 s.loss_, .i .i64 0, .i .i64 100] = some (.b r21) := tells_eq inj51 (a := (s.loss_, 0, 100)) q22
                                         have d216 : w23 = _ := (Option.some.inj q30).symm
                                         simp -implicitDefEqProofs [c2, q31, c4, d32, q33, d128, q129, d176, q177, d200, q201, d212, q213, c19, d214, q215, c22, d216])
                                    · first
                                      | (simp [d32, d128, d176, d200, d212, d214] at q215; done)
                                      | (rw [if_neg (by rw [q215]; exact Bool.false_ne_true)] at q30
                                         try simp only [d32, d128, d176, d200, d212, d214] at q215
                                         have d217 : w23 = _ := (Option.some.inj q30).symm
                                         simp -implicitDefEqProofs [c2, q31, c4, d32, q33, d128, q129, d176, q177, d200, q201, d212, q213, c19, d214, q215, d217]))
                               · first
                                 | (simp [d32, d128, d176, d200, d212] at q213; done)
                                 | (rw [if_neg (by rw [q213]; exact Bool.false_ne_true)] at q29
                                    try simp only [d32, d128, d176, d200, d212] at q213
                                    have d218 : w20 = _ := (Option.some.inj q29).symm
                                    rcases Bool.eq_false_or_eq_true w20 with q219 | q219
                                    · first
                                      | (simp [d32, d128, d176, d200, d212, d218] at q219; done)
                                      | (rw [if_pos q219] at q30
                                         try simp only [d32, d128, d176, d200, d212, d218] at q219
                                         obtain ⟨r21, q22, q30⟩ := bindQ q30
                                         have c22 : F51 [.i .i64 s.loss_, .i .i64 0, .i .i64 100] = some (.b r21) := tells_eq inj51 (a := (s.loss_, 0, 100)) q22
                                         have d220 : w23 = _ := (Option.some.inj q30).symm
                                         simp -implicitDefEqProofs [c2, q31, c4, d32, q33, d128, q129, d176, q177, d200, q201, d212, q213, d218, q219, c22, d220])
                                    · first
                                      | (simp [d32, d128, d176, d200, d212, d218] at q219; done)
                                      | (rw [if_neg (by rw [q219]; exact Bool.false_ne_true)] at q30
                                         try simp only [d32, d128, d176, d200, d212, d218] at q219
                                         have d221 : w23 = _ := (Option.some.inj q30).symm
                                         simp -implicitDefEqProofs [c2, q31, c4, d32, q33, d128, q129, d176, q177, d200, q201, d212, q213, d218, q219, d221])))))))
      · first
        | (simp at q31; done)
        | (rw [if_neg (by rw [q31]; exact Bool.false_ne_true)] at q24
           have d222 : w5 = _ := (Option.some.inj q24).symm
           rcases Bool.eq_false_or_eq_true w5 with q223 | q223
           · first
             | (simp [d222] at q223; done)
             | (rw [if_pos q223] at q25
                try simp only [d222] at q223
                obtain ⟨r6, q7, q25⟩ := bindQ q25
                have c7 : F57 [.sl 1 (rows ci_i64 s.price_), .i .i64 1000] = some (.b r6) := tells_eq inj57 (a := (s.price_, 1000)) q7
                have d224 : w8 = _ := (Option.some.inj q25).symm
                rcases Bool.eq_false_or_eq_true w8 with q225 | q225
                · first
                  | (simp [d222, d224] at q225; done)
                  | (rw [if_pos q225] at q26
                     try simp only [d222, d224] at q225
                     obtain ⟨r9, q10, q26⟩ := bindQ q26
                     have c10 : F51 [.i .i64 s.most_, .i .i64 0, .i .i64 20] = some (.b r9) := tells_eq inj51 (a := (s.most_, 0, 20)) q10
                     have d226 : w11 = _ := (Option.some.inj q26).symm
                     rcases Bool.eq_false_or_eq_true w11 with q227 | q227
                     · first
                       | (simp [d222, d224, d226] at q227; done)
                       | (rw [if_pos q227] at q27
                          try simp only [d222, d224, d226] at q227
                          obtain ⟨r12, q13, q27⟩ := bindQ q27
                          have c13 : F51 [.i .i64 s.yield_, .i .i64 1, .i .i64 40] = some (.b r12) := tells_eq inj51 (a := (s.yield_, 1, 40)) q13
                          have d228 : w14 = _ := (Option.some.inj q27).symm
                          rcases Bool.eq_false_or_eq_true w14 with q229 | q229
                          · first
                            | (simp [d222, d224, d226, d228] at q229; done)
                            | (rw [if_pos q229] at q28
                               try simp only [d222, d224, d226, d228] at q229
                               obtain ⟨r15, q16, q28⟩ := bindQ q28
                               have c16 : F51 [.i .i64 s.store_, .i .i64 0, .i .i64 60] = some (.b r15) := tells_eq inj51 (a := (s.store_, 0, 60)) q16
                               have d230 : w17 = _ := (Option.some.inj q28).symm
                               rcases Bool.eq_false_or_eq_true w17 with q231 | q231
                               · first
                                 | (simp [d222, d224, d226, d228, d230] at q231; done)
                                 | (rw [if_pos q231] at q29
                                    try simp only [d222, d224, d226, d228, d230] at q231
                                    obtain ⟨r18, q19, q29⟩ := bindQ q29
                                    have c19 : F51 [.i .i64 s.first_, .i .i64 0, .i .i64 s.store_] = some (.b r18) := tells_eq inj51 (a := (s.first_, 0, s.store_)) q19
                                    have d232 : w20 = _ := (Option.some.inj q29).symm
                                    rcases Bool.eq_false_or_eq_true w20 with q233 | q233
                                    · first
                                      | (simp [d222, d224, d226, d228, d230, d232] at q233; done)
                                      | (rw [if_pos q233] at q30
                                         try simp only [d222, d224, d226, d228, d230, d232] at q233
                                         obtain ⟨r21, q22, q30⟩ := bindQ q30
                                         have c22 : F51 [.i .i64 s.loss_, .i .i64 0, .i .i64 100] = some (.b r21) := tells_eq inj51 (a := (s.loss_, 0, 100)) q22
                                         have d234 : w23 = _ := (Option.some.inj q30).symm
                                         simp -implicitDefEqProofs [c2, q31, d222, q223, c7, d224, q225, c10, d226, q227, c13, d228, q229, c16, d230, q231, c19, d232, q233, c22, d234])
                                    · first
                                      | (simp [d222, d224, d226, d228, d230, d232] at q233; done)
                                      | (rw [if_neg (by rw [q233]; exact Bool.false_ne_true)] at q30
                                         try simp only [d222, d224, d226, d228, d230, d232] at q233
                                         have d235 : w23 = _ := (Option.some.inj q30).symm
                                         simp -implicitDefEqProofs [c2, q31, d222, q223, c7, d224, q225, c10, d226, q227, c13, d228, q229, c16, d230, q231, c19, d232, q233, d235]))
                               · first
                                 | (simp [d222, d224, d226, d228, d230] at q231; done)
                                 | (rw [if_neg (by rw [q231]; exact Bool.false_ne_true)] at q29
                                    try simp only [d222, d224, d226, d228, d230] at q231
                                    have d236 : w20 = _ := (Option.some.inj q29).symm
                                    rcases Bool.eq_false_or_eq_true w20 with q237 | q237
                                    · first
                                      | (simp [d222, d224, d226, d228, d230, d236] at q237; done)
                                      | (rw [if_pos q237] at q30
                                         try simp only [d222, d224, d226, d228, d230, d236] at q237
                                         obtain ⟨r21, q22, q30⟩ := bindQ q30
                                         have c22 : F51 [.i .i64 s.loss_, .i .i64 0, .i .i64 100] = some (.b r21) := tells_eq inj51 (a := (s.loss_, 0, 100)) q22
                                         have d238 : w23 = _ := (Option.some.inj q30).symm
                                         simp -implicitDefEqProofs [c2, q31, d222, q223, c7, d224, q225, c10, d226, q227, c13, d228, q229, c16, d230, q231, d236, q237, c22, d238])
                                    · first
                                      | (simp [d222, d224, d226, d228, d230, d236] at q237; done)
                                      | (rw [if_neg (by rw [q237]; exact Bool.false_ne_true)] at q30
                                         try simp only [d222, d224, d226, d228, d230, d236] at q237
                                         have d239 : w23 = _ := (Option.some.inj q30).symm
                                         simp -implicitDefEqProofs [c2, q31, d222, q223, c7, d224, q225, c10, d226, q227, c13, d228, q229, c16, d230, q231, d236, q237, d239])))
                          · first
                            | (simp [d222, d224, d226, d228] at q229; done)
                            | (rw [if_neg (by rw [q229]; exact Bool.false_ne_true)] at q28
                               try simp only [d222, d224, d226, d228] at q229
                               have d240 : w17 = _ := (Option.some.inj q28).symm
                               rcases Bool.eq_false_or_eq_true w17 with q241 | q241
                               · first
                                 | (simp [d222, d224, d226, d228, d240] at q241; done)
                                 | (rw [if_pos q241] at q29
                                    try simp only [d222, d224, d226, d228, d240] at q241
                                    obtain ⟨r18, q19, q29⟩ := bindQ q29
                                    have c19 : F51 [.i .i64 s.first_, .i .i64 0, .i .i64 s.store_] = some (.b r18) := tells_eq inj51 (a := (s.first_, 0, s.store_)) q19
                                    have d242 : w20 = _ := (Option.some.inj q29).symm
                                    rcases Bool.eq_false_or_eq_true w20 with q243 | q243
                                    · first
                                      | (simp [d222, d224, d226, d228, d240, d242] at q243; done)
                                      | (rw [if_pos q243] at q30
                                         try simp only [d222, d224, d226, d228, d240, d242] at q243
                                         obtain ⟨r21, q22, q30⟩ := bindQ q30
                                         have c22 : F51 [.i .i64 s.loss_, .i .i64 0, .i .i64 100] = some (.b r21) := tells_eq inj51 (a := (s.loss_, 0, 100)) q22
                                         have d244 : w23 = _ := (Option.some.inj q30).symm
                                         simp -implicitDefEqProofs [c2, q31, d222, q223, c7, d224, q225, c10, d226, q227, c13, d228, q229, d240, q241, c19, d242, q243, c22, d244])
                                    · first
                                      | (simp [d222, d224, d226, d228, d240, d242] at q243; done)
                                      | (rw [if_neg (by rw [q243]; exact Bool.false_ne_true)] at q30
                                         try simp only [d222, d224, d226, d228, d240, d242] at q243
                                         have d245 : w23 = _ := (Option.some.inj q30).symm
                                         simp -implicitDefEqProofs [c2, q31, d222, q223, c7, d224, q225, c10, d226, q227, c13, d228, q229, d240, q241, c19, d242, q243, d245]))
                               · first
                                 | (simp [d222, d224, d226, d228, d240] at q241; done)
                                 | (rw [if_neg (by rw [q241]; exact Bool.false_ne_true)] at q29
                                    try simp only [d222, d224, d226, d228, d240] at q241
                                    have d246 : w20 = _ := (Option.some.inj q29).symm
                                    rcases Bool.eq_false_or_eq_true w20 with q247 | q247
                                    · first
                                      | (simp [d222, d224, d226, d228, d240, d246] at q247; done)
                                      | (rw [if_pos q247] at q30
                                         try simp only [d222, d224, d226, d228, d240, d246] at q247
                                         obtain ⟨r21, q22, q30⟩ := bindQ q30
                                         have c22 : F51 [.i .i64 s.loss_, .i .i64 0, .i .i64 100] = some (.b r21) := tells_eq inj51 (a := (s.loss_, 0, 100)) q22
                                         have d248 : w23 = _ := (Option.some.inj q30).symm
                                         simp -implicitDefEqProofs [c2, q31, d222, q223, c7, d224, q225, c10, d226, q227, c13, d228, q229, d240, q241, d246, q247, c22, d248])
                                    · first
                                      | (simp [d222, d224, d226, d228, d240, d246] at q247; done)
                                      | (rw [if_neg (by rw [q247]; exact Bool.false_ne_true)] at q30
                                         try simp only [d222, d224, d226, d228, d240, d246] at q247
                                         have d249 : w23 = _ := (Option.some.inj q30).symm
                                         simp -implicitDefEqProofs [c2, q31, d222, q223, c7, d224, q225, c10, d226, q227, c13, d228, q229, d240, q241, d246, q247, d249]))))
                     · first
                       | (simp [d222, d224, d226] at q227; done)
                       | (rw [if_neg (by rw [q227]; exact Bool.false_ne_true)] at q27
                          try simp only [d222, d224, d226] at q227
                          have d250 : w14 = _ := (Option.some.inj q27).symm
                          rcases Bool.eq_false_or_eq_true w14 with q251 | q251
                          · first
                            | (simp [d222, d224, d226, d250] at q251; done)
                            | (rw [if_pos q251] at q28
                               try simp only [d222, d224, d226, d250] at q251
                               obtain ⟨r15, q16, q28⟩ := bindQ q28
                               have c16 : F51 [.i .i64 s.store_, .i .i64 0, .i .i64 60] = some (.b r15) := tells_eq inj51 (a := (s.store_, 0, 60)) q16
                               have d252 : w17 = _ := (Option.some.inj q28).symm
                               rcases Bool.eq_false_or_eq_true w17 with q253 | q253
                               · first
                                 | (simp [d222, d224, d226, d250, d252] at q253; done)
                                 | (rw [if_pos q253] at q29
                                    try simp only [d222, d224, d226, d250, d252] at q253
                                    obtain ⟨r18, q19, q29⟩ := bindQ q29
                                    have c19 : F51 [.i .i64 s.first_, .i .i64 0, .i .i64 s.store_] = some (.b r18) := tells_eq inj51 (a := (s.first_, 0, s.store_)) q19
                                    have d254 : w20 = _ := (Option.some.inj q29).symm
                                    rcases Bool.eq_false_or_eq_true w20 with q255 | q255
                                    · first
                                      | (simp [d222, d224, d226, d250, d252, d254] at q255; done)
                                      | (rw [if_pos q255] at q30
                                         try simp only [d222, d224, d226, d250, d252, d254] at q255
                                         obtain ⟨r21, q22, q30⟩ := bindQ q30
                                         have c22 : F51 [.i .i64 s.loss_, .i .i64 0, .i .i64 100] = some (.b r21) := tells_eq inj51 (a := (s.loss_, 0, 100)) q22
                                         have d256 : w23 = _ := (Option.some.inj q30).symm
                                         simp -implicitDefEqProofs [c2, q31, d222, q223, c7, d224, q225, c10, d226, q227, d250, q251, c16, d252, q253, c19, d254, q255, c22, d256])
                                    · first
                                      | (simp [d222, d224, d226, d250, d252, d254] at q255; done)
                                      | (rw [if_neg (by rw [q255]; exact Bool.false_ne_true)] at q30
                                         try simp only [d222, d224, d226, d250, d252, d254] at q255
                                         have d257 : w23 = _ := (Option.some.inj q30).symm
                                         simp -implicitDefEqProofs [c2, q31, d222, q223, c7, d224, q225, c10, d226, q227, d250, q251, c16, d252, q253, c19, d254, q255, d257]))
                               · first
                                 | (simp [d222, d224, d226, d250, d252] at q253; done)
                                 | (rw [if_neg (by rw [q253]; exact Bool.false_ne_true)] at q29
                                    try simp only [d222, d224, d226, d250, d252] at q253
                                    have d258 : w20 = _ := (Option.some.inj q29).symm
                                    rcases Bool.eq_false_or_eq_true w20 with q259 | q259
                                    · first
                                      | (simp [d222, d224, d226, d250, d252, d258] at q259; done)
                                      | (rw [if_pos q259] at q30
                                         try simp only [d222, d224, d226, d250, d252, d258] at q259
                                         obtain ⟨r21, q22, q30⟩ := bindQ q30
                                         have c22 : F51 [.i .i64 s.loss_, .i .i64 0, .i .i64 100] = some (.b r21) := tells_eq inj51 (a := (s.loss_, 0, 100)) q22
                                         have d260 : w23 = _ := (Option.some.inj q30).symm
                                         simp -implicitDefEqProofs [c2, q31, d222, q223, c7, d224, q225, c10, d226, q227, d250, q251, c16, d252, q253, d258, q259, c22, d260])
                                    · first
                                      | (simp [d222, d224, d226, d250, d252, d258] at q259; done)
                                      | (rw [if_neg (by rw [q259]; exact Bool.false_ne_true)] at q30
                                         try simp only [d222, d224, d226, d250, d252, d258] at q259
                                         have d261 : w23 = _ := (Option.some.inj q30).symm
                                         simp -implicitDefEqProofs [c2, q31, d222, q223, c7, d224, q225, c10, d226, q227, d250, q251, c16, d252, q253, d258, q259, d261])))
                          · first
                            | (simp [d222, d224, d226, d250] at q251; done)
                            | (rw [if_neg (by rw [q251]; exact Bool.false_ne_true)] at q28
                               try simp only [d222, d224, d226, d250] at q251
                               have d262 : w17 = _ := (Option.some.inj q28).symm
                               rcases Bool.eq_false_or_eq_true w17 with q263 | q263
                               · first
                                 | (simp [d222, d224, d226, d250, d262] at q263; done)
                                 | (rw [if_pos q263] at q29
                                    try simp only [d222, d224, d226, d250, d262] at q263
                                    obtain ⟨r18, q19, q29⟩ := bindQ q29
                                    have c19 : F51 [.i .i64 s.first_, .i .i64 0, .i .i64 s.store_] = some (.b r18) := tells_eq inj51 (a := (s.first_, 0, s.store_)) q19
                                    have d264 : w20 = _ := (Option.some.inj q29).symm
                                    rcases Bool.eq_false_or_eq_true w20 with q265 | q265
                                    · first
                                      | (simp [d222, d224, d226, d250, d262, d264] at q265; done)
                                      | (rw [if_pos q265] at q30
                                         try simp only [d222, d224, d226, d250, d262, d264] at q265
                                         obtain ⟨r21, q22, q30⟩ := bindQ q30
                                         have c22 : F51 [.i .i64 s.loss_, .i .i64 0, .i .i64 100] = some (.b r21) := tells_eq inj51 (a := (s.loss_, 0, 100)) q22
                                         have d266 : w23 = _ := (Option.some.inj q30).symm
                                         simp -implicitDefEqProofs [c2, q31, d222, q223, c7, d224, q225, c10, d226, q227, d250, q251, d262, q263, c19, d264, q265, c22, d266])
                                    · first
                                      | (simp [d222, d224, d226, d250, d262, d264] at q265; done)
                                      | (rw [if_neg (by rw [q265]; exact Bool.false_ne_true)] at q30
                                         try simp only [d222, d224, d226, d250, d262, d264] at q265
                                         have d267 : w23 = _ := (Option.some.inj q30).symm
                                         simp -implicitDefEqProofs [c2, q31, d222, q223, c7, d224, q225, c10, d226, q227, d250, q251, d262, q263, c19, d264, q265, d267]))
                               · first
                                 | (simp [d222, d224, d226, d250, d262] at q263; done)
                                 | (rw [if_neg (by rw [q263]; exact Bool.false_ne_true)] at q29
                                    try simp only [d222, d224, d226, d250, d262] at q263
                                    have d268 : w20 = _ := (Option.some.inj q29).symm
                                    rcases Bool.eq_false_or_eq_true w20 with q269 | q269
                                    · first
                                      | (simp [d222, d224, d226, d250, d262, d268] at q269; done)
                                      | (rw [if_pos q269] at q30
                                         try simp only [d222, d224, d226, d250, d262, d268] at q269
                                         obtain ⟨r21, q22, q30⟩ := bindQ q30
                                         have c22 : F51 [.i .i64 s.loss_, .i .i64 0, .i .i64 100] = some (.b r21) := tells_eq inj51 (a := (s.loss_, 0, 100)) q22
                                         have d270 : w23 = _ := (Option.some.inj q30).symm
                                         simp -implicitDefEqProofs [c2, q31, d222, q223, c7, d224, q225, c10, d226, q227, d250, q251, d262, q263, d268, q269, c22, d270])
                                    · first
                                      | (simp [d222, d224, d226, d250, d262, d268] at q269; done)
                                      | (rw [if_neg (by rw [q269]; exact Bool.false_ne_true)] at q30
                                         try simp only [d222, d224, d226, d250, d262, d268] at q269
                                         have d271 : w23 = _ := (Option.some.inj q30).symm
                                         simp -implicitDefEqProofs [c2, q31, d222, q223, c7, d224, q225, c10, d226, q227, d250, q251, d262, q263, d268, q269, d271])))))
                · first
                  | (simp [d222, d224] at q225; done)
                  | (rw [if_neg (by rw [q225]; exact Bool.false_ne_true)] at q26
                     try simp only [d222, d224] at q225
                     have d272 : w11 = _ := (Option.some.inj q26).symm
                     rcases Bool.eq_false_or_eq_true w11 with q273 | q273
                     · first
                       | (simp [d222, d224, d272] at q273; done)
                       | (rw [if_pos q273] at q27
                          try simp only [d222, d224, d272] at q273
                          obtain ⟨r12, q13, q27⟩ := bindQ q27
                          have c13 : F51 [.i .i64 s.yield_, .i .i64 1, .i .i64 40] = some (.b r12) := tells_eq inj51 (a := (s.yield_, 1, 40)) q13
                          have d274 : w14 = _ := (Option.some.inj q27).symm
                          rcases Bool.eq_false_or_eq_true w14 with q275 | q275
                          · first
                            | (simp [d222, d224, d272, d274] at q275; done)
                            | (rw [if_pos q275] at q28
                               try simp only [d222, d224, d272, d274] at q275
                               obtain ⟨r15, q16, q28⟩ := bindQ q28
                               have c16 : F51 [.i .i64 s.store_, .i .i64 0, .i .i64 60] = some (.b r15) := tells_eq inj51 (a := (s.store_, 0, 60)) q16
                               have d276 : w17 = _ := (Option.some.inj q28).symm
                               rcases Bool.eq_false_or_eq_true w17 with q277 | q277
                               · first
                                 | (simp [d222, d224, d272, d274, d276] at q277; done)
                                 | (rw [if_pos q277] at q29
                                    try simp only [d222, d224, d272, d274, d276] at q277
                                    obtain ⟨r18, q19, q29⟩ := bindQ q29
                                    have c19 : F51 [.i .i64 s.first_, .i .i64 0, .i .i64 s.store_] = some (.b r18) := tells_eq inj51 (a := (s.first_, 0, s.store_)) q19
                                    have d278 : w20 = _ := (Option.some.inj q29).symm
                                    rcases Bool.eq_false_or_eq_true w20 with q279 | q279
                                    · first
                                      | (simp [d222, d224, d272, d274, d276, d278] at q279; done)
                                      | (rw [if_pos q279] at q30
                                         try simp only [d222, d224, d272, d274, d276, d278] at q279
                                         obtain ⟨r21, q22, q30⟩ := bindQ q30
                                         have c22 : F51 [.i .i64 s.loss_, .i .i64 0, .i .i64 100] = some (.b r21) := tells_eq inj51 (a := (s.loss_, 0, 100)) q22
                                         have d280 : w23 = _ := (Option.some.inj q30).symm
                                         simp -implicitDefEqProofs [c2, q31, d222, q223, c7, d224, q225, d272, q273, c13, d274, q275, c16, d276, q277, c19, d278, q279, c22, d280])
                                    · first
                                      | (simp [d222, d224, d272, d274, d276, d278] at q279; done)
                                      | (rw [if_neg (by rw [q279]; exact Bool.false_ne_true)] at q30
                                         try simp only [d222, d224, d272, d274, d276, d278] at q279
                                         have d281 : w23 = _ := (Option.some.inj q30).symm
                                         simp -implicitDefEqProofs [c2, q31, d222, q223, c7, d224, q225, d272, q273, c13, d274, q275, c16, d276, q277, c19, d278, q279, d281]))
                               · first
                                 | (simp [d222, d224, d272, d274, d276] at q277; done)
                                 | (rw [if_neg (by rw [q277]; exact Bool.false_ne_true)] at q29
                                    try simp only [d222, d224, d272, d274, d276] at q277
                                    have d282 : w20 = _ := (Option.some.inj q29).symm
                                    rcases Bool.eq_false_or_eq_true w20 with q283 | q283
                                    · first
                                      | (simp [d222, d224, d272, d274, d276, d282] at q283; done)
                                      | (rw [if_pos q283] at q30
                                         try simp only [d222, d224, d272, d274, d276, d282] at q283
                                         obtain ⟨r21, q22, q30⟩ := bindQ q30
                                         have c22 : F51 [.i .i64 s.loss_, .i .i64 0, .i .i64 100] = some (.b r21) := tells_eq inj51 (a := (s.loss_, 0, 100)) q22
                                         have d284 : w23 = _ := (Option.some.inj q30).symm
                                         simp -implicitDefEqProofs [c2, q31, d222, q223, c7, d224, q225, d272, q273, c13, d274, q275, c16, d276, q277, d282, q283, c22, d284])
                                    · first
                                      | (simp [d222, d224, d272, d274, d276, d282] at q283; done)
                                      | (rw [if_neg (by rw [q283]; exact Bool.false_ne_true)] at q30
                                         try simp only [d222, d224, d272, d274, d276, d282] at q283
                                         have d285 : w23 = _ := (Option.some.inj q30).symm
                                         simp -implicitDefEqProofs [c2, q31, d222, q223, c7, d224, q225, d272, q273, c13, d274, q275, c16, d276, q277, d282, q283, d285])))
                          · first
                            | (simp [d222, d224, d272, d274] at q275; done)
                            | (rw [if_neg (by rw [q275]; exact Bool.false_ne_true)] at q28
                               try simp only [d222, d224, d272, d274] at q275
                               have d286 : w17 = _ := (Option.some.inj q28).symm
                               rcases Bool.eq_false_or_eq_true w17 with q287 | q287
                               · first
                                 | (simp [d222, d224, d272, d274, d286] at q287; done)
                                 | (rw [if_pos q287] at q29
                                    try simp only [d222, d224, d272, d274, d286] at q287
                                    obtain ⟨r18, q19, q29⟩ := bindQ q29
                                    have c19 : F51 [.i .i64 s.first_, .i .i64 0, .i .i64 s.store_] = some (.b r18) := tells_eq inj51 (a := (s.first_, 0, s.store_)) q19
                                    have d288 : w20 = _ := (Option.some.inj q29).symm
                                    rcases Bool.eq_false_or_eq_true w20 with q289 | q289
                                    · first
                                      | (simp [d222, d224, d272, d274, d286, d288] at q289; done)
                                      | (rw [if_pos q289] at q30
                                         try simp only [d222, d224, d272, d274, d286, d288] at q289
                                         obtain ⟨r21, q22, q30⟩ := bindQ q30
                                         have c22 : F51 [.i .i64 s.loss_, .i .i64 0, .i .i64 100] = some (.b r21) := tells_eq inj51 (a := (s.loss_, 0, 100)) q22
                                         have d290 : w23 = _ := (Option.some.inj q30).symm
                                         simp -implicitDefEqProofs [c2, q31, d222, q223, c7, d224, q225, d272, q273, c13, d274, q275, d286, q287, c19, d288, q289, c22, d290])
                                    · first
                                      | (simp [d222, d224, d272, d274, d286, d288] at q289; done)
                                      | (rw [if_neg (by rw [q289]; exact Bool.false_ne_true)] at q30
                                         try simp only [d222, d224, d272, d274, d286, d288] at q289
                                         have d291 : w23 = _ := (Option.some.inj q30).symm
                                         simp -implicitDefEqProofs [c2, q31, d222, q223, c7, d224, q225, d272, q273, c13, d274, q275, d286, q287, c19, d288, q289, d291]))
                               · first
                                 | (simp [d222, d224, d272, d274, d286] at q287; done)
                                 | (rw [if_neg (by rw [q287]; exact Bool.false_ne_true)] at q29
                                    try simp only [d222, d224, d272, d274, d286] at q287
                                    have d292 : w20 = _ := (Option.some.inj q29).symm
                                    rcases Bool.eq_false_or_eq_true w20 with q293 | q293
                                    · first
                                      | (simp [d222, d224, d272, d274, d286, d292] at q293; done)
                                      | (rw [if_pos q293] at q30
                                         try simp only [d222, d224, d272, d274, d286, d292] at q293
                                         obtain ⟨r21, q22, q30⟩ := bindQ q30
                                         have c22 : F51 [.i .i64 s.loss_, .i .i64 0, .i .i64 100] = some (.b r21) := tells_eq inj51 (a := (s.loss_, 0, 100)) q22
                                         have d294 : w23 = _ := (Option.some.inj q30).symm
                                         simp -implicitDefEqProofs [c2, q31, d222, q223, c7, d224, q225, d272, q273, c13, d274, q275, d286, q287, d292, q293, c22, d294])
                                    · first
                                      | (simp [d222, d224, d272, d274, d286, d292] at q293; done)
                                      | (rw [if_neg (by rw [q293]; exact Bool.false_ne_true)] at q30
                                         try simp only [d222, d224, d272, d274, d286, d292] at q293
                                         have d295 : w23 = _ := (Option.some.inj q30).symm
                                         simp -implicitDefEqProofs [c2, q31, d222, q223, c7, d224, q225, d272, q273, c13, d274, q275, d286, q287, d292, q293, d295]))))
                     · first
                       | (simp [d222, d224, d272] at q273; done)
                       | (rw [if_neg (by rw [q273]; exact Bool.false_ne_true)] at q27
                          try simp only [d222, d224, d272] at q273
                          have d296 : w14 = _ := (Option.some.inj q27).symm
                          rcases Bool.eq_false_or_eq_true w14 with q297 | q297
                          · first
                            | (simp [d222, d224, d272, d296] at q297; done)
                            | (rw [if_pos q297] at q28
                               try simp only [d222, d224, d272, d296] at q297
                               obtain ⟨r15, q16, q28⟩ := bindQ q28
                               have c16 : F51 [.i .i64 s.store_, .i .i64 0, .i .i64 60] = some (.b r15) := tells_eq inj51 (a := (s.store_, 0, 60)) q16
                               have d298 : w17 = _ := (Option.some.inj q28).symm
                               rcases Bool.eq_false_or_eq_true w17 with q299 | q299
                               · first
                                 | (simp [d222, d224, d272, d296, d298] at q299; done)
                                 | (rw [if_pos q299] at q29
                                    try simp only [d222, d224, d272, d296, d298] at q299
                                    obtain ⟨r18, q19, q29⟩ := bindQ q29
                                    have c19 : F51 [.i .i64 s.first_, .i .i64 0, .i .i64 s.store_] = some (.b r18) := tells_eq inj51 (a := (s.first_, 0, s.store_)) q19
                                    have d300 : w20 = _ := (Option.some.inj q29).symm
                                    rcases Bool.eq_false_or_eq_true w20 with q301 | q301
                                    · first
                                      | (simp [d222, d224, d272, d296, d298, d300] at q301; done)
                                      | (rw [if_pos q301] at q30
                                         try simp only [d222, d224, d272, d296, d298, d300] at q301
                                         obtain ⟨r21, q22, q30⟩ := bindQ q30
                                         have c22 : F51 [.i .i64 s.loss_, .i .i64 0, .i .i64 100] = some (.b r21) := tells_eq inj51 (a := (s.loss_, 0, 100)) q22
                                         have d302 : w23 = _ := (Option.some.inj q30).symm
                                         simp -implicitDefEqProofs [c2, q31, d222, q223, c7, d224, q225, d272, q273, d296, q297, c16, d298, q299, c19, d300, q301, c22, d302])
                                    · first
                                      | (simp [d222, d224, d272, d296, d298, d300] at q301; done)
                                      | (rw [if_neg (by rw [q301]; exact Bool.false_ne_true)] at q30
                                         try simp only [d222, d224, d272, d296, d298, d300] at q301
                                         have d303 : w23 = _ := (Option.some.inj q30).symm
                                         simp -implicitDefEqProofs [c2, q31, d222, q223, c7, d224, q225, d272, q273, d296, q297, c16, d298, q299, c19, d300, q301, d303]))
                               · first
                                 | (simp [d222, d224, d272, d296, d298] at q299; done)
                                 | (rw [if_neg (by rw [q299]; exact Bool.false_ne_true)] at q29
                                    try simp only [d222, d224, d272, d296, d298] at q299
                                    have d304 : w20 = _ := (Option.some.inj q29).symm
                                    rcases Bool.eq_false_or_eq_true w20 with q305 | q305
                                    · first
                                      | (simp [d222, d224, d272, d296, d298, d304] at q305; done)
                                      | (rw [if_pos q305] at q30
                                         try simp only [d222, d224, d272, d296, d298, d304] at q305
                                         obtain ⟨r21, q22, q30⟩ := bindQ q30
                                         have c22 : F51 [.i .i64 s.loss_, .i .i64 0, .i .i64 100] = some (.b r21) := tells_eq inj51 (a := (s.loss_, 0, 100)) q22
                                         have d306 : w23 = _ := (Option.some.inj q30).symm
                                         simp -implicitDefEqProofs [c2, q31, d222, q223, c7, d224, q225, d272, q273, d296, q297, c16, d298, q299, d304, q305, c22, d306])
                                    · first
                                      | (simp [d222, d224, d272, d296, d298, d304] at q305; done)
                                      | (rw [if_neg (by rw [q305]; exact Bool.false_ne_true)] at q30
                                         try simp only [d222, d224, d272, d296, d298, d304] at q305
                                         have d307 : w23 = _ := (Option.some.inj q30).symm
                                         simp -implicitDefEqProofs [c2, q31, d222, q223, c7, d224, q225, d272, q273, d296, q297, c16, d298, q299, d304, q305, d307])))
                          · first
                            | (simp [d222, d224, d272, d296] at q297; done)
                            | (rw [if_neg (by rw [q297]; exact Bool.false_ne_true)] at q28
                               try simp only [d222, d224, d272, d296] at q297
                               have d308 : w17 = _ := (Option.some.inj q28).symm
                               rcases Bool.eq_false_or_eq_true w17 with q309 | q309
                               · first
                                 | (simp [d222, d224, d272, d296, d308] at q309; done)
                                 | (rw [if_pos q309] at q29
                                    try simp only [d222, d224, d272, d296, d308] at q309
                                    obtain ⟨r18, q19, q29⟩ := bindQ q29
                                    have c19 : F51 [.i .i64 s.first_, .i .i64 0, .i .i64 s.store_] = some (.b r18) := tells_eq inj51 (a := (s.first_, 0, s.store_)) q19
                                    have d310 : w20 = _ := (Option.some.inj q29).symm
                                    rcases Bool.eq_false_or_eq_true w20 with q311 | q311
                                    · first
                                      | (simp [d222, d224, d272, d296, d308, d310] at q311; done)
                                      | (rw [if_pos q311] at q30
                                         try simp only [d222, d224, d272, d296, d308, d310] at q311
                                         obtain ⟨r21, q22, q30⟩ := bindQ q30
                                         have c22 : F51 [.i .i64 s.loss_, .i .i64 0, .i .i64 100] = some (.b r21) := tells_eq inj51 (a := (s.loss_, 0, 100)) q22
                                         have d312 : w23 = _ := (Option.some.inj q30).symm
                                         simp -implicitDefEqProofs [c2, q31, d222, q223, c7, d224, q225, d272, q273, d296, q297, d308, q309, c19, d310, q311, c22, d312])
                                    · first
                                      | (simp [d222, d224, d272, d296, d308, d310] at q311; done)
                                      | (rw [if_neg (by rw [q311]; exact Bool.false_ne_true)] at q30
                                         try simp only [d222, d224, d272, d296, d308, d310] at q311
                                         have d313 : w23 = _ := (Option.some.inj q30).symm
                                         simp -implicitDefEqProofs [c2, q31, d222, q223, c7, d224, q225, d272, q273, d296, q297, d308, q309, c19, d310, q311, d313]))
                               · first
                                 | (simp [d222, d224, d272, d296, d308] at q309; done)
                                 | (rw [if_neg (by rw [q309]; exact Bool.false_ne_true)] at q29
                                    try simp only [d222, d224, d272, d296, d308] at q309
                                    have d314 : w20 = _ := (Option.some.inj q29).symm
                                    rcases Bool.eq_false_or_eq_true w20 with q315 | q315
                                    · first
                                      | (simp [d222, d224, d272, d296, d308, d314] at q315; done)
                                      | (rw [if_pos q315] at q30
                                         try simp only [d222, d224, d272, d296, d308, d314] at q315
                                         obtain ⟨r21, q22, q30⟩ := bindQ q30
                                         have c22 : F51 [.i .i64 s.loss_, .i .i64 0, .i .i64 100] = some (.b r21) := tells_eq inj51 (a := (s.loss_, 0, 100)) q22
                                         have d316 : w23 = _ := (Option.some.inj q30).symm
                                         simp -implicitDefEqProofs [c2, q31, d222, q223, c7, d224, q225, d272, q273, d296, q297, d308, q309, d314, q315, c22, d316])
                                    · first
                                      | (simp [d222, d224, d272, d296, d308, d314] at q315; done)
                                      | (rw [if_neg (by rw [q315]; exact Bool.false_ne_true)] at q30
                                         try simp only [d222, d224, d272, d296, d308, d314] at q315
                                         have d317 : w23 = _ := (Option.some.inj q30).symm
                                         simp -implicitDefEqProofs [c2, q31, d222, q223, c7, d224, q225, d272, q273, d296, q297, d308, q309, d314, q315, d317]))))))
           · first
             | (simp [d222] at q223; done)
             | (rw [if_neg (by rw [q223]; exact Bool.false_ne_true)] at q25
                try simp only [d222] at q223
                have d318 : w8 = _ := (Option.some.inj q25).symm
                rcases Bool.eq_false_or_eq_true w8 with q319 | q319
                · first
                  | (simp [d222, d318] at q319; done)
                  | (rw [if_pos q319] at q26
                     try simp only [d222, d318] at q319
                     obtain ⟨r9, q10, q26⟩ := bindQ q26
                     have c10 : F51 [.i .i64 s.most_, .i .i64 0, .i .i64 20] = some (.b r9) := tells_eq inj51 (a := (s.most_, 0, 20)) q10
                     have d320 : w11 = _ := (Option.some.inj q26).symm
                     rcases Bool.eq_false_or_eq_true w11 with q321 | q321
                     · first
                       | (simp [d222, d318, d320] at q321; done)
                       | (rw [if_pos q321] at q27
                          try simp only [d222, d318, d320] at q321
                          obtain ⟨r12, q13, q27⟩ := bindQ q27
                          have c13 : F51 [.i .i64 s.yield_, .i .i64 1, .i .i64 40] = some (.b r12) := tells_eq inj51 (a := (s.yield_, 1, 40)) q13
                          have d322 : w14 = _ := (Option.some.inj q27).symm
                          rcases Bool.eq_false_or_eq_true w14 with q323 | q323
                          · first
                            | (simp [d222, d318, d320, d322] at q323; done)
                            | (rw [if_pos q323] at q28
                               try simp only [d222, d318, d320, d322] at q323
                               obtain ⟨r15, q16, q28⟩ := bindQ q28
                               have c16 : F51 [.i .i64 s.store_, .i .i64 0, .i .i64 60] = some (.b r15) := tells_eq inj51 (a := (s.store_, 0, 60)) q16
                               have d324 : w17 = _ := (Option.some.inj q28).symm
                               rcases Bool.eq_false_or_eq_true w17 with q325 | q325
                               · first
                                 | (simp [d222, d318, d320, d322, d324] at q325; done)
                                 | (rw [if_pos q325] at q29
                                    try simp only [d222, d318, d320, d322, d324] at q325
                                    obtain ⟨r18, q19, q29⟩ := bindQ q29
                                    have c19 : F51 [.i .i64 s.first_, .i .i64 0, .i .i64 s.store_] = some (.b r18) := tells_eq inj51 (a := (s.first_, 0, s.store_)) q19
                                    have d326 : w20 = _ := (Option.some.inj q29).symm
                                    rcases Bool.eq_false_or_eq_true w20 with q327 | q327
                                    · first
                                      | (simp [d222, d318, d320, d322, d324, d326] at q327; done)
                                      | (rw [if_pos q327] at q30
                                         try simp only [d222, d318, d320, d322, d324, d326] at q327
                                         obtain ⟨r21, q22, q30⟩ := bindQ q30
                                         have c22 : F51 [.i .i64 s.loss_, .i .i64 0, .i .i64 100] = some (.b r21) := tells_eq inj51 (a := (s.loss_, 0, 100)) q22
                                         have d328 : w23 = _ := (Option.some.inj q30).symm
                                         simp -implicitDefEqProofs [c2, q31, d222, q223, d318, q319, c10, d320, q321, c13, d322, q323, c16, d324, q325, c19, d326, q327, c22, d328])
                                    · first
                                      | (simp [d222, d318, d320, d322, d324, d326] at q327; done)
                                      | (rw [if_neg (by rw [q327]; exact Bool.false_ne_true)] at q30
                                         try simp only [d222, d318, d320, d322, d324, d326] at q327
                                         have d329 : w23 = _ := (Option.some.inj q30).symm
                                         simp -implicitDefEqProofs [c2, q31, d222, q223, d318, q319, c10, d320, q321, c13, d322, q323, c16, d324, q325, c19, d326, q327, d329]))
                               · first
                                 | (simp [d222, d318, d320, d322, d324] at q325; done)
                                 | (rw [if_neg (by rw [q325]; exact Bool.false_ne_true)] at q29
                                    try simp only [d222, d318, d320, d322, d324] at q325
                                    have d330 : w20 = _ := (Option.some.inj q29).symm
                                    rcases Bool.eq_false_or_eq_true w20 with q331 | q331
                                    · first
                                      | (simp [d222, d318, d320, d322, d324, d330] at q331; done)
                                      | (rw [if_pos q331] at q30
                                         try simp only [d222, d318, d320, d322, d324, d330] at q331
                                         obtain ⟨r21, q22, q30⟩ := bindQ q30
                                         have c22 : F51 [.i .i64 s.loss_, .i .i64 0, .i .i64 100] = some (.b r21) := tells_eq inj51 (a := (s.loss_, 0, 100)) q22
                                         have d332 : w23 = _ := (Option.some.inj q30).symm
                                         simp -implicitDefEqProofs [c2, q31, d222, q223, d318, q319, c10, d320, q321, c13, d322, q323, c16, d324, q325, d330, q331, c22, d332])
                                    · first
                                      | (simp [d222, d318, d320, d322, d324, d330] at q331; done)
                                      | (rw [if_neg (by rw [q331]; exact Bool.false_ne_true)] at q30
                                         try simp only [d222, d318, d320, d322, d324, d330] at q331
                                         have d333 : w23 = _ := (Option.some.inj q30).symm
                                         simp -implicitDefEqProofs [c2, q31, d222, q223, d318, q319, c10, d320, q321, c13, d322, q323, c16, d324, q325, d330, q331, d333])))
                          · first
                            | (simp [d222, d318, d320, d322] at q323; done)
                            | (rw [if_neg (by rw [q323]; exact Bool.false_ne_true)] at q28
                               try simp only [d222, d318, d320, d322] at q323
                               have d334 : w17 = _ := (Option.some.inj q28).symm
                               rcases Bool.eq_false_or_eq_true w17 with q335 | q335
                               · first
                                 | (simp [d222, d318, d320, d322, d334] at q335; done)
                                 | (rw [if_pos q335] at q29
                                    try simp only [d222, d318, d320, d322, d334] at q335
                                    obtain ⟨r18, q19, q29⟩ := bindQ q29
                                    have c19 : F51 [.i .i64 s.first_, .i .i64 0, .i .i64 s.store_] = some (.b r18) := tells_eq inj51 (a := (s.first_, 0, s.store_)) q19
                                    have d336 : w20 = _ := (Option.some.inj q29).symm
                                    rcases Bool.eq_false_or_eq_true w20 with q337 | q337
                                    · first
                                      | (simp [d222, d318, d320, d322, d334, d336] at q337; done)
                                      | (rw [if_pos q337] at q30
                                         try simp only [d222, d318, d320, d322, d334, d336] at q337
                                         obtain ⟨r21, q22, q30⟩ := bindQ q30
                                         have c22 : F51 [.i .i64 s.loss_, .i .i64 0, .i .i64 100] = some (.b r21) := tells_eq inj51 (a := (s.loss_, 0, 100)) q22
                                         have d338 : w23 = _ := (Option.some.inj q30).symm
                                         simp -implicitDefEqProofs [c2, q31, d222, q223, d318, q319, c10, d320, q321, c13, d322, q323, d334, q335, c19, d336, q337, c22, d338])
                                    · first
                                      | (simp [d222, d318, d320, d322, d334, d336] at q337; done)
                                      | (rw [if_neg (by rw [q337]; exact Bool.false_ne_true)] at q30
                                         try simp only [d222, d318, d320, d322, d334, d336] at q337
                                         have d339 : w23 = _ := (Option.some.inj q30).symm
                                         simp -implicitDefEqProofs [c2, q31, d222, q223, d318, q319, c10, d320, q321, c13, d322, q323, d334, q335, c19, d336, q337, d339]))
                               · first
                                 | (simp [d222, d318, d320, d322, d334] at q335; done)
                                 | (rw [if_neg (by rw [q335]; exact Bool.false_ne_true)] at q29
                                    try simp only [d222, d318, d320, d322, d334] at q335
                                    have d340 : w20 = _ := (Option.some.inj q29).symm
                                    rcases Bool.eq_false_or_eq_true w20 with q341 | q341
                                    · first
                                      | (simp [d222, d318, d320, d322, d334, d340] at q341; done)
                                      | (rw [if_pos q341] at q30
                                         try simp only [d222, d318, d320, d322, d334, d340] at q341
                                         obtain ⟨r21, q22, q30⟩ := bindQ q30
                                         have c22 : F51 [.i .i64 s.loss_, .i .i64 0, .i .i64 100] = some (.b r21) := tells_eq inj51 (a := (s.loss_, 0, 100)) q22
                                         have d342 : w23 = _ := (Option.some.inj q30).symm
                                         simp -implicitDefEqProofs [c2, q31, d222, q223, d318, q319, c10, d320, q321, c13, d322, q323, d334, q335, d340, q341, c22, d342])
                                    · first
                                      | (simp [d222, d318, d320, d322, d334, d340] at q341; done)
                                      | (rw [if_neg (by rw [q341]; exact Bool.false_ne_true)] at q30
                                         try simp only [d222, d318, d320, d322, d334, d340] at q341
                                         have d343 : w23 = _ := (Option.some.inj q30).symm
                                         simp -implicitDefEqProofs [c2, q31, d222, q223, d318, q319, c10, d320, q321, c13, d322, q323, d334, q335, d340, q341, d343]))))
                     · first
                       | (simp [d222, d318, d320] at q321; done)
                       | (rw [if_neg (by rw [q321]; exact Bool.false_ne_true)] at q27
                          try simp only [d222, d318, d320] at q321
                          have d344 : w14 = _ := (Option.some.inj q27).symm
                          rcases Bool.eq_false_or_eq_true w14 with q345 | q345
                          · first
                            | (simp [d222, d318, d320, d344] at q345; done)
                            | (rw [if_pos q345] at q28
                               try simp only [d222, d318, d320, d344] at q345
                               obtain ⟨r15, q16, q28⟩ := bindQ q28
                               have c16 : F51 [.i .i64 s.store_, .i .i64 0, .i .i64 60] = some (.b r15) := tells_eq inj51 (a := (s.store_, 0, 60)) q16
                               have d346 : w17 = _ := (Option.some.inj q28).symm
                               rcases Bool.eq_false_or_eq_true w17 with q347 | q347
                               · first
                                 | (simp [d222, d318, d320, d344, d346] at q347; done)
                                 | (rw [if_pos q347] at q29
                                    try simp only [d222, d318, d320, d344, d346] at q347
                                    obtain ⟨r18, q19, q29⟩ := bindQ q29
                                    have c19 : F51 [.i .i64 s.first_, .i .i64 0, .i .i64 s.store_] = some (.b r18) := tells_eq inj51 (a := (s.first_, 0, s.store_)) q19
                                    have d348 : w20 = _ := (Option.some.inj q29).symm
                                    rcases Bool.eq_false_or_eq_true w20 with q349 | q349
                                    · first
                                      | (simp [d222, d318, d320, d344, d346, d348] at q349; done)
                                      | (rw [if_pos q349] at q30
                                         try simp only [d222, d318, d320, d344, d346, d348] at q349
                                         obtain ⟨r21, q22, q30⟩ := bindQ q30
                                         have c22 : F51 [.i .i64 s.loss_, .i .i64 0, .i .i64 100] = some (.b r21) := tells_eq inj51 (a := (s.loss_, 0, 100)) q22
                                         have d350 : w23 = _ := (Option.some.inj q30).symm
                                         simp -implicitDefEqProofs [c2, q31, d222, q223, d318, q319, c10, d320, q321, d344, q345, c16, d346, q347, c19, d348, q349, c22, d350])
                                    · first
                                      | (simp [d222, d318, d320, d344, d346, d348] at q349; done)
                                      | (rw [if_neg (by rw [q349]; exact Bool.false_ne_true)] at q30
                                         try simp only [d222, d318, d320, d344, d346, d348] at q349
                                         have d351 : w23 = _ := (Option.some.inj q30).symm
                                         simp -implicitDefEqProofs [c2, q31, d222, q223, d318, q319, c10, d320, q321, d344, q345, c16, d346, q347, c19, d348, q349, d351]))
                               · first
                                 | (simp [d222, d318, d320, d344, d346] at q347; done)
                                 | (rw [if_neg (by rw [q347]; exact Bool.false_ne_true)] at q29
                                    try simp only [d222, d318, d320, d344, d346] at q347
                                    have d352 : w20 = _ := (Option.some.inj q29).symm
                                    rcases Bool.eq_false_or_eq_true w20 with q353 | q353
                                    · first
                                      | (simp [d222, d318, d320, d344, d346, d352] at q353; done)
                                      | (rw [if_pos q353] at q30
                                         try simp only [d222, d318, d320, d344, d346, d352] at q353
                                         obtain ⟨r21, q22, q30⟩ := bindQ q30
                                         have c22 : F51 [.i .i64 s.loss_, .i .i64 0, .i .i64 100] = some (.b r21) := tells_eq inj51 (a := (s.loss_, 0, 100)) q22
                                         have d354 : w23 = _ := (Option.some.inj q30).symm
                                         simp -implicitDefEqProofs [c2, q31, d222, q223, d318, q319, c10, d320, q321, d344, q345, c16, d346, q347, d352, q353, c22, d354])
                                    · first
                                      | (simp [d222, d318, d320, d344, d346, d352] at q353; done)
                                      | (rw [if_neg (by rw [q353]; exact Bool.false_ne_true)] at q30
                                         try simp only [d222, d318, d320, d344, d346, d352] at q353
                                         have d355 : w23 = _ := (Option.some.inj q30).symm
                                         simp -implicitDefEqProofs [c2, q31, d222, q223, d318, q319, c10, d320, q321, d344, q345, c16, d346, q347, d352, q353, d355])))
                          · first
                            | (simp [d222, d318, d320, d344] at q345; done)
                            | (rw [if_neg (by rw [q345]; exact Bool.false_ne_true)] at q28
                               try simp only [d222, d318, d320, d344] at q345
                               have d356 : w17 = _ := (Option.some.inj q28).symm
                               rcases Bool.eq_false_or_eq_true w17 with q357 | q357
                               · first
                                 | (simp [d222, d318, d320, d344, d356] at q357; done)
                                 | (rw [if_pos q357] at q29
                                    try simp only [d222, d318, d320, d344, d356] at q357
                                    obtain ⟨r18, q19, q29⟩ := bindQ q29
                                    have c19 : F51 [.i .i64 s.first_, .i .i64 0, .i .i64 s.store_] = some (.b r18) := tells_eq inj51 (a := (s.first_, 0, s.store_)) q19
                                    have d358 : w20 = _ := (Option.some.inj q29).symm
                                    rcases Bool.eq_false_or_eq_true w20 with q359 | q359
                                    · first
                                      | (simp [d222, d318, d320, d344, d356, d358] at q359; done)
                                      | (rw [if_pos q359] at q30
                                         try simp only [d222, d318, d320, d344, d356, d358] at q359
                                         obtain ⟨r21, q22, q30⟩ := bindQ q30
                                         have c22 : F51 [.i .i64 s.loss_, .i .i64 0, .i .i64 100] = some (.b r21) := tells_eq inj51 (a := (s.loss_, 0, 100)) q22
                                         have d360 : w23 = _ := (Option.some.inj q30).symm
                                         simp -implicitDefEqProofs [c2, q31, d222, q223, d318, q319, c10, d320, q321, d344, q345, d356, q357, c19, d358, q359, c22, d360])
                                    · first
                                      | (simp [d222, d318, d320, d344, d356, d358] at q359; done)
                                      | (rw [if_neg (by rw [q359]; exact Bool.false_ne_true)] at q30
                                         try simp only [d222, d318, d320, d344, d356, d358] at q359
                                         have d361 : w23 = _ := (Option.some.inj q30).symm
                                         simp -implicitDefEqProofs [c2, q31, d222, q223, d318, q319, c10, d320, q321, d344, q345, d356, q357, c19, d358, q359, d361]))
                               · first
                                 | (simp [d222, d318, d320, d344, d356] at q357; done)
                                 | (rw [if_neg (by rw [q357]; exact Bool.false_ne_true)] at q29
                                    try simp only [d222, d318, d320, d344, d356] at q357
                                    have d362 : w20 = _ := (Option.some.inj q29).symm
                                    rcases Bool.eq_false_or_eq_true w20 with q363 | q363
                                    · first
                                      | (simp [d222, d318, d320, d344, d356, d362] at q363; done)
                                      | (rw [if_pos q363] at q30
                                         try simp only [d222, d318, d320, d344, d356, d362] at q363
                                         obtain ⟨r21, q22, q30⟩ := bindQ q30
                                         have c22 : F51 [.i .i64 s.loss_, .i .i64 0, .i .i64 100] = some (.b r21) := tells_eq inj51 (a := (s.loss_, 0, 100)) q22
                                         have d364 : w23 = _ := (Option.some.inj q30).symm
                                         simp -implicitDefEqProofs [c2, q31, d222, q223, d318, q319, c10, d320, q321, d344, q345, d356, q357, d362, q363, c22, d364])
                                    · first
                                      | (simp [d222, d318, d320, d344, d356, d362] at q363; done)
                                      | (rw [if_neg (by rw [q363]; exact Bool.false_ne_true)] at q30
                                         try simp only [d222, d318, d320, d344, d356, d362] at q363
                                         have d365 : w23 = _ := (Option.some.inj q30).symm
                                         simp -implicitDefEqProofs [c2, q31, d222, q223, d318, q319, c10, d320, q321, d344, q345, d356, q357, d362, q363, d365])))))
                · first
                  | (simp [d222, d318] at q319; done)
                  | (rw [if_neg (by rw [q319]; exact Bool.false_ne_true)] at q26
                     try simp only [d222, d318] at q319
                     have d366 : w11 = _ := (Option.some.inj q26).symm
                     rcases Bool.eq_false_or_eq_true w11 with q367 | q367
                     · first
                       | (simp [d222, d318, d366] at q367; done)
                       | (rw [if_pos q367] at q27
                          try simp only [d222, d318, d366] at q367
                          obtain ⟨r12, q13, q27⟩ := bindQ q27
                          have c13 : F51 [.i .i64 s.yield_, .i .i64 1, .i .i64 40] = some (.b r12) := tells_eq inj51 (a := (s.yield_, 1, 40)) q13
                          have d368 : w14 = _ := (Option.some.inj q27).symm
                          rcases Bool.eq_false_or_eq_true w14 with q369 | q369
                          · first
                            | (simp [d222, d318, d366, d368] at q369; done)
                            | (rw [if_pos q369] at q28
                               try simp only [d222, d318, d366, d368] at q369
                               obtain ⟨r15, q16, q28⟩ := bindQ q28
                               have c16 : F51 [.i .i64 s.store_, .i .i64 0, .i .i64 60] = some (.b r15) := tells_eq inj51 (a := (s.store_, 0, 60)) q16
                               have d370 : w17 = _ := (Option.some.inj q28).symm
                               rcases Bool.eq_false_or_eq_true w17 with q371 | q371
                               · first
                                 | (simp [d222, d318, d366, d368, d370] at q371; done)
                                 | (rw [if_pos q371] at q29
                                    try simp only [d222, d318, d366, d368, d370] at q371
                                    obtain ⟨r18, q19, q29⟩ := bindQ q29
                                    have c19 : F51 [.i .i64 s.first_, .i .i64 0, .i .i64 s.store_] = some (.b r18) := tells_eq inj51 (a := (s.first_, 0, s.store_)) q19
                                    have d372 : w20 = _ := (Option.some.inj q29).symm
                                    rcases Bool.eq_false_or_eq_true w20 with q373 | q373
                                    · first
                                      | (simp [d222, d318, d366, d368, d370, d372] at q373; done)
                                      | (rw [if_pos q373] at q30
                                         try simp only [d222, d318, d366, d368, d370, d372] at q373
                                         obtain ⟨r21, q22, q30⟩ := bindQ q30
                                         have c22 : F51 [.i .i64 s.loss_, .i .i64 0, .i .i64 100] = some (.b r21) := tells_eq inj51 (a := (s.loss_, 0, 100)) q22
                                         have d374 : w23 = _ := (Option.some.inj q30).symm
                                         simp -implicitDefEqProofs [c2, q31, d222, q223, d318, q319, d366, q367, c13, d368, q369, c16, d370, q371, c19, d372, q373, c22, d374])
                                    · first
                                      | (simp [d222, d318, d366, d368, d370, d372] at q373; done)
                                      | (rw [if_neg (by rw [q373]; exact Bool.false_ne_true)] at q30
                                         try simp only [d222, d318, d366, d368, d370, d372] at q373
                                         have d375 : w23 = _ := (Option.some.inj q30).symm
                                         simp -implicitDefEqProofs [c2, q31, d222, q223, d318, q319, d366, q367, c13, d368, q369, c16, d370, q371, c19, d372, q373, d375]))
                               · first
                                 | (simp [d222, d318, d366, d368, d370] at q371; done)
                                 | (rw [if_neg (by rw [q371]; exact Bool.false_ne_true)] at q29
                                    try simp only [d222, d318, d366, d368, d370] at q371
                                    have d376 : w20 = _ := (Option.some.inj q29).symm
                                    rcases Bool.eq_false_or_eq_true w20 with q377 | q377
                                    · first
                                      | (simp [d222, d318, d366, d368, d370, d376] at q377; done)
                                      | (rw [if_pos q377] at q30
                                         try simp only [d222, d318, d366, d368, d370, d376] at q377
                                         obtain ⟨r21, q22, q30⟩ := bindQ q30
                                         have c22 : F51 [.i .i64 s.loss_, .i .i64 0, .i .i64 100] = some (.b r21) := tells_eq inj51 (a := (s.loss_, 0, 100)) q22
                                         have d378 : w23 = _ := (Option.some.inj q30).symm
                                         simp -implicitDefEqProofs [c2, q31, d222, q223, d318, q319, d366, q367, c13, d368, q369, c16, d370, q371, d376, q377, c22, d378])
                                    · first
                                      | (simp [d222, d318, d366, d368, d370, d376] at q377; done)
                                      | (rw [if_neg (by rw [q377]; exact Bool.false_ne_true)] at q30
                                         try simp only [d222, d318, d366, d368, d370, d376] at q377
                                         have d379 : w23 = _ := (Option.some.inj q30).symm
                                         simp -implicitDefEqProofs [c2, q31, d222, q223, d318, q319, d366, q367, c13, d368, q369, c16, d370, q371, d376, q377, d379])))
                          · first
                            | (simp [d222, d318, d366, d368] at q369; done)
                            | (rw [if_neg (by rw [q369]; exact Bool.false_ne_true)] at q28
                               try simp only [d222, d318, d366, d368] at q369
                               have d380 : w17 = _ := (Option.some.inj q28).symm
                               rcases Bool.eq_false_or_eq_true w17 with q381 | q381
                               · first
                                 | (simp [d222, d318, d366, d368, d380] at q381; done)
                                 | (rw [if_pos q381] at q29
                                    try simp only [d222, d318, d366, d368, d380] at q381
                                    obtain ⟨r18, q19, q29⟩ := bindQ q29
                                    have c19 : F51 [.i .i64 s.first_, .i .i64 0, .i .i64 s.store_] = some (.b r18) := tells_eq inj51 (a := (s.first_, 0, s.store_)) q19
                                    have d382 : w20 = _ := (Option.some.inj q29).symm
                                    rcases Bool.eq_false_or_eq_true w20 with q383 | q383
                                    · first
                                      | (simp [d222, d318, d366, d368, d380, d382] at q383; done)
                                      | (rw [if_pos q383] at q30
                                         try simp only [d222, d318, d366, d368, d380, d382] at q383
                                         obtain ⟨r21, q22, q30⟩ := bindQ q30
                                         have c22 : F51 [.i .i64 s.loss_, .i .i64 0, .i .i64 100] = some (.b r21) := tells_eq inj51 (a := (s.loss_, 0, 100)) q22
                                         have d384 : w23 = _ := (Option.some.inj q30).symm
                                         simp -implicitDefEqProofs [c2, q31, d222, q223, d318, q319, d366, q367, c13, d368, q369, d380, q381, c19, d382, q383, c22, d384])
                                    · first
                                      | (simp [d222, d318, d366, d368, d380, d382] at q383; done)
                                      | (rw [if_neg (by rw [q383]; exact Bool.false_ne_true)] at q30
                                         try simp only [d222, d318, d366, d368, d380, d382] at q383
                                         have d385 : w23 = _ := (Option.some.inj q30).symm
                                         simp -implicitDefEqProofs [c2, q31, d222, q223, d318, q319, d366, q367, c13, d368, q369, d380, q381, c19, d382, q383, d385]))
                               · first
                                 | (simp [d222, d318, d366, d368, d380] at q381; done)
                                 | (rw [if_neg (by rw [q381]; exact Bool.false_ne_true)] at q29
                                    try simp only [d222, d318, d366, d368, d380] at q381
                                    have d386 : w20 = _ := (Option.some.inj q29).symm
                                    rcases Bool.eq_false_or_eq_true w20 with q387 | q387
                                    · first
                                      | (simp [d222, d318, d366, d368, d380, d386] at q387; done)
                                      | (rw [if_pos q387] at q30
                                         try simp only [d222, d318, d366, d368, d380, d386] at q387
                                         obtain ⟨r21, q22, q30⟩ := bindQ q30
                                         have c22 : F51 [.i .i64 s.loss_, .i .i64 0, .i .i64 100] = some (.b r21) := tells_eq inj51 (a := (s.loss_, 0, 100)) q22
                                         have d388 : w23 = _ := (Option.some.inj q30).symm
                                         simp -implicitDefEqProofs [c2, q31, d222, q223, d318, q319, d366, q367, c13, d368, q369, d380, q381, d386, q387, c22, d388])
                                    · first
                                      | (simp [d222, d318, d366, d368, d380, d386] at q387; done)
                                      | (rw [if_neg (by rw [q387]; exact Bool.false_ne_true)] at q30
                                         try simp only [d222, d318, d366, d368, d380, d386] at q387
                                         have d389 : w23 = _ := (Option.some.inj q30).symm
                                         simp -implicitDefEqProofs [c2, q31, d222, q223, d318, q319, d366, q367, c13, d368, q369, d380, q381, d386, q387, d389]))))
                     · first
                       | (simp [d222, d318, d366] at q367; done)
                       | (rw [if_neg (by rw [q367]; exact Bool.false_ne_true)] at q27
                          try simp only [d222, d318, d366] at q367
                          have d390 : w14 = _ := (Option.some.inj q27).symm
                          rcases Bool.eq_false_or_eq_true w14 with q391 | q391
                          · first
                            | (simp [d222, d318, d366, d390] at q391; done)
                            | (rw [if_pos q391] at q28
                               try simp only [d222, d318, d366, d390] at q391
                               obtain ⟨r15, q16, q28⟩ := bindQ q28
                               have c16 : F51 [.i .i64 s.store_, .i .i64 0, .i .i64 60] = some (.b r15) := tells_eq inj51 (a := (s.store_, 0, 60)) q16
                               have d392 : w17 = _ := (Option.some.inj q28).symm
                               rcases Bool.eq_false_or_eq_true w17 with q393 | q393
                               · first
                                 | (simp [d222, d318, d366, d390, d392] at q393; done)
                                 | (rw [if_pos q393] at q29
                                    try simp only [d222, d318, d366, d390, d392] at q393
                                    obtain ⟨r18, q19, q29⟩ := bindQ q29
                                    have c19 : F51 [.i .i64 s.first_, .i .i64 0, .i .i64 s.store_] = some (.b r18) := tells_eq inj51 (a := (s.first_, 0, s.store_)) q19
                                    have d394 : w20 = _ := (Option.some.inj q29).symm
                                    rcases Bool.eq_false_or_eq_true w20 with q395 | q395
                                    · first
                                      | (simp [d222, d318, d366, d390, d392, d394] at q395; done)
                                      | (rw [if_pos q395] at q30
                                         try simp only [d222, d318, d366, d390, d392, d394] at q395
                                         obtain ⟨r21, q22, q30⟩ := bindQ q30
                                         have c22 : F51 [.i .i64 s.loss_, .i .i64 0, .i .i64 100] = some (.b r21) := tells_eq inj51 (a := (s.loss_, 0, 100)) q22
                                         have d396 : w23 = _ := (Option.some.inj q30).symm
                                         simp -implicitDefEqProofs [c2, q31, d222, q223, d318, q319, d366, q367, d390, q391, c16, d392, q393, c19, d394, q395, c22, d396])
                                    · first
                                      | (simp [d222, d318, d366, d390, d392, d394] at q395; done)
                                      | (rw [if_neg (by rw [q395]; exact Bool.false_ne_true)] at q30
                                         try simp only [d222, d318, d366, d390, d392, d394] at q395
                                         have d397 : w23 = _ := (Option.some.inj q30).symm
                                         simp -implicitDefEqProofs [c2, q31, d222, q223, d318, q319, d366, q367, d390, q391, c16, d392, q393, c19, d394, q395, d397]))
                               · first
                                 | (simp [d222, d318, d366, d390, d392] at q393; done)
                                 | (rw [if_neg (by rw [q393]; exact Bool.false_ne_true)] at q29
                                    try simp only [d222, d318, d366, d390, d392] at q393
                                    have d398 : w20 = _ := (Option.some.inj q29).symm
                                    rcases Bool.eq_false_or_eq_true w20 with q399 | q399
                                    · first
                                      | (simp [d222, d318, d366, d390, d392, d398] at q399; done)
                                      | (rw [if_pos q399] at q30
                                         try simp only [d222, d318, d366, d390, d392, d398] at q399
                                         obtain ⟨r21, q22, q30⟩ := bindQ q30
                                         have c22 : F51 [.i .i64 s.loss_, .i .i64 0, .i .i64 100] = some (.b r21) := tells_eq inj51 (a := (s.loss_, 0, 100)) q22
                                         have d400 : w23 = _ := (Option.some.inj q30).symm
                                         simp -implicitDefEqProofs [c2, q31, d222, q223, d318, q319, d366, q367, d390, q391, c16, d392, q393, d398, q399, c22, d400])
                                    · first
                                      | (simp [d222, d318, d366, d390, d392, d398] at q399; done)
                                      | (rw [if_neg (by rw [q399]; exact Bool.false_ne_true)] at q30
                                         try simp only [d222, d318, d366, d390, d392, d398] at q399
                                         have d401 : w23 = _ := (Option.some.inj q30).symm
                                         simp -implicitDefEqProofs [c2, q31, d222, q223, d318, q319, d366, q367, d390, q391, c16, d392, q393, d398, q399, d401])))
                          · first
                            | (simp [d222, d318, d366, d390] at q391; done)
                            | (rw [if_neg (by rw [q391]; exact Bool.false_ne_true)] at q28
                               try simp only [d222, d318, d366, d390] at q391
                               have d402 : w17 = _ := (Option.some.inj q28).symm
                               rcases Bool.eq_false_or_eq_true w17 with q403 | q403
                               · first
                                 | (simp [d222, d318, d366, d390, d402] at q403; done)
                                 | (rw [if_pos q403] at q29
                                    try simp only [d222, d318, d366, d390, d402] at q403
                                    obtain ⟨r18, q19, q29⟩ := bindQ q29
                                    have c19 : F51 [.i .i64 s.first_, .i .i64 0, .i .i64 s.store_] = some (.b r18) := tells_eq inj51 (a := (s.first_, 0, s.store_)) q19
                                    have d404 : w20 = _ := (Option.some.inj q29).symm
                                    rcases Bool.eq_false_or_eq_true w20 with q405 | q405
                                    · first
                                      | (simp [d222, d318, d366, d390, d402, d404] at q405; done)
                                      | (rw [if_pos q405] at q30
                                         try simp only [d222, d318, d366, d390, d402, d404] at q405
                                         obtain ⟨r21, q22, q30⟩ := bindQ q30
                                         have c22 : F51 [.i .i64 s.loss_, .i .i64 0, .i .i64 100] = some (.b r21) := tells_eq inj51 (a := (s.loss_, 0, 100)) q22
                                         have d406 : w23 = _ := (Option.some.inj q30).symm
                                         simp -implicitDefEqProofs [c2, q31, d222, q223, d318, q319, d366, q367, d390, q391, d402, q403, c19, d404, q405, c22, d406])
                                    · first
                                      | (simp [d222, d318, d366, d390, d402, d404] at q405; done)
                                      | (rw [if_neg (by rw [q405]; exact Bool.false_ne_true)] at q30
                                         try simp only [d222, d318, d366, d390, d402, d404] at q405
                                         have d407 : w23 = _ := (Option.some.inj q30).symm
                                         simp -implicitDefEqProofs [c2, q31, d222, q223, d318, q319, d366, q367, d390, q391, d402, q403, c19, d404, q405, d407]))
                               · first
                                 | (simp [d222, d318, d366, d390, d402] at q403; done)
                                 | (rw [if_neg (by rw [q403]; exact Bool.false_ne_true)] at q29
                                    try simp only [d222, d318, d366, d390, d402] at q403
                                    have d408 : w20 = _ := (Option.some.inj q29).symm
                                    rcases Bool.eq_false_or_eq_true w20 with q409 | q409
                                    · first
                                      | (simp [d222, d318, d366, d390, d402, d408] at q409; done)
                                      | (rw [if_pos q409] at q30
                                         try simp only [d222, d318, d366, d390, d402, d408] at q409
                                         obtain ⟨r21, q22, q30⟩ := bindQ q30
                                         have c22 : F51 [.i .i64 s.loss_, .i .i64 0, .i .i64 100] = some (.b r21) := tells_eq inj51 (a := (s.loss_, 0, 100)) q22
                                         have d410 : w23 = _ := (Option.some.inj q30).symm
                                         simp -implicitDefEqProofs [c2, q31, d222, q223, d318, q319, d366, q367, d390, q391, d402, q403, d408, q409, c22, d410])
                                    · first
                                      | (simp [d222, d318, d366, d390, d402, d408] at q409; done)
                                      | (rw [if_neg (by rw [q409]; exact Bool.false_ne_true)] at q30
                                         try simp only [d222, d318, d366, d390, d402, d408] at q409
                                         have d411 : w23 = _ := (Option.some.inj q30).symm
                                         simp -implicitDefEqProofs [c2, q31, d222, q223, d318, q319, d366, q367, d390, q391, d402, q403, d408, q409, d411])))))))) ?_
  obtain rfl := leafS h
  refine VW.ret (VRet.fin ?_)
  simp [eB39]
noncomputable def g40_j1 : Option (Bool) :=
  some true
noncomputable def g40_j2 (k_300 : Int) : Option ((Int) ⊕ ((Unit) ⊕ (Bool))) :=
  some (.inl (aI .i64 k_300 1))
noncomputable def g40_L2 (table : List (List Int)) (k_300 : Int) (s : T24) : (Int) → Option ((Int) ⊕ ((Unit) ⊕ ((Int) ⊕ ((Unit) ⊕ (Bool)))))
  | i_351 =>
    (idx table k_300).bind fun e352 =>
    if ltI i_351 (e352.length : Int) = true then
      (idx table k_300).bind fun e355 =>
      (idx e355 i_351).bind fun e357 =>
      if (ltI e357 (-1) || (eqI k_300 (s.need_.length : Int) && (!eqI e357 0))) = true then
        some (.inr (.inr (.inr (.inr false))))
      else
        some (.inl (aI .i64 i_351 1))
    else
      some (.inr (.inl ()))
noncomputable def g40_L1 (table : List (List Int)) (s : T24) : (Int) → Option ((Int) ⊕ ((Unit) ⊕ (Bool)))
  | k_300 =>
    if ltI k_300 (table.length : Int) = true then
      (idx table k_300).bind fun e331 =>
      if (!eqI (e331.length : Int) (aI .i64 s.store_ 1)) = true then
        some (.inr (.inr false))
      else
        (loopO (g40_L2 table k_300 s) 0).bind fun w => match w with
          | .inl y => g40_j2 k_300
          | .inr r => some r
    else
      some (.inr (.inl ()))
noncomputable def g40 (s : T24) (table : List (List Int)) : Option (Bool) :=
  if (!eqI (table.length : Int) (aI .i64 (s.need_.length : Int) 1)) = true then
    some false
  else
    (loopO (g40_L1 table s) 0).bind fun w => match w with
      | .inl y => g40_j1
      | .inr r => some r
def eA40 (a : T24 × (List (List Int))) : List V := [.cptr (pT24 a.1) 0, .sl 1 (rows cl_ci_i64 a.2)]
def eB40 (r : Bool) : V := .b r
theorem inj40 (a a' : T24 × (List (List Int))) (h : eA40 a = eA40 a') : a = a' := by
  obtain ⟨⟨i49, i50, i51, i52, i53, i54, i55⟩, i56⟩ := a
  obtain ⟨⟨i57, i58, i59, i60, i61, i62, i63⟩, i64⟩ := a'
  simp only [eA40, pT24, List.cons.injEq, V.i.injEq, V.b.injEq, V.f.injEq, V.str.injEq, V.sl.injEq, V.agg.injEq, V.cptr.injEq, true_and, and_true] at h
  simp_all [ri ci_i64_inj, ri cl_ci_i64_inj]
noncomputable def F40 : List V → Option V := tells (fun a => g40 a.1 a.2) eA40 eB40
set_option maxRecDepth 100000 in
set_option maxHeartbeats 4000000 in
/- loop.example/g01229/spec.l07Form -/
theorem ok40 : Tells Try.prog 40 F40 := by
  refine Tells.of (by kernel_rfl) ?_
  rintro ⟨s, table⟩ r h
  refine VCalls.nl (VCalls.of Try.func40 rfl rfl rfl ?_)
  rw [tm_init]
  simp only [eA40, en, List.length_cons, List.length_nil, Nat.reduceAdd, Nat.reduceSub]
  replace h : (g40 s table).bind some = some r := bindS h
  rw [g40] at h
  refine VW.seq ?_
  refine VW.evalA (C := []) (tm 69 [(0, .cptr (pT24 s) 0), (1, .sl 1 (rows cl_ci_i64 table))]) [] [] trivial (by kernel_rfl) (by simp -implicitDefEqProofs) ?_
  refine VW.seq ?_
  refine VW.seq ?_
  refine VW.evalA (C := []) (tm 69 [(0, .cptr (pT24 s) 0), (1, .sl 1 (rows cl_ci_i64 table)), (15, .b (!eqI (table.length : Int) (aI .i64 (s.need_.length : Int) 1)))]) [] [] trivial (by kernel_rfl) (by simp -implicitDefEqProofs) ?_
  refine VW.condB (b := (!eqI (table.length : Int) (aI .i64 (s.need_.length : Int) 1))) (by simp) (fun g1 => ?_) (fun g1 => ?_)
  · replace h := iteT g1 h
    refine VW.seq ?_
    refine VW.evalA (C := []) (tm 69 [(4, .b false)]) [] [] trivial (by kernel_rfl) (by simp -implicitDefEqProofs) ?_
    obtain rfl := leafS h
    refine VW.ret (VRet.fin ?_)
    simp [eB40]
  · replace h := iteF g1 h
    refine VW.skip ?_
    refine VW.join (fun (v : Unit) => (⟨(tm 69 []), [], []⟩ : VS)) (fun v => (g40_j1).bind some = some r) ?_ ?_
    · refine VW.seq ?_
      refine VW.evalA (C := []) (tm 69 [(0, .cptr (pT24 s) 0), (1, .sl 1 (rows cl_ci_i64 table)), (5, .i .i64 0)]) [] [] trivial (by kernel_rfl) (by simp -implicitDefEqProofs) ?_
      refine VW.block ?_
      obtain ⟨w_1, hw_1, h⟩ := bindE h
      refine VW.loopO (fun (x : Int) => (⟨(tm 69 [(0, .cptr (pT24 s) 0), (1, .sl 1 (rows cl_ci_i64 table)), (5, .i .i64 x)]), [], []⟩ : VS)) hw_1 (Ent.to 0 (by simp [fgt]) (by first | (simp; done) | simp [pT24]) (by simp) (by simp [bndT, bndV]) (by simp [bndM, bndV])) ?_
      rintro n_1 k_300 h1
      rw [g40_L1] at h1
      refine VW.seq ?_
      refine VW.seq ?_
      refine VW.evalA (C := []) (tm 69 [(0, .cptr (pT24 s) 0), (1, .sl 1 (rows cl_ci_i64 table)), (5, .i .i64 k_300), (19, .b (ltI k_300 (table.length : Int)))]) [] [] trivial (by kernel_rfl) (by simp -implicitDefEqProofs) ?_
      refine VW.condB (b := ltI k_300 (table.length : Int)) (by simp) (fun g301 => ?_) (fun g301 => ?_)
      · replace h1 := iteT g301 h1
        refine VW.skip ?_
        refine VW.join (fun (v : Unit) => (⟨(tm 69 [(0, .cptr (pT24 s) 0), (1, .sl 1 (rows cl_ci_i64 table)), (5, .i .i64 k_300)]), [], []⟩ : VS)) (fun v => (g40_j2 k_300).bind (kN (g40_L1 table s) n_1) = some w_1) ?_ ?_
        · refine VW.block ?_
          refine VW.seq ?_
          refine VW.seq ?_
          obtain ⟨e331, q332, h1⟩ := bindE h1
          obtain ⟨f332a, f332b, f332c, f332d⟩ := idx_some q332
          refine VW.evalDA (C := []) (tm 69 [(0, .cptr (pT24 s) 0), (1, .sl 1 (rows cl_ci_i64 table)), (5, .i .i64 k_300), (32, .b (!eqI (e331.length : Int) (aI .i64 s.store_ 1)))]) [] [] trivial mixed (by kernel_rfl) (by simp -implicitDefEqProofs [f332a, f332b, f332c, f332d]) ?_
          refine VW.condB (b := (!eqI (e331.length : Int) (aI .i64 s.store_ 1))) (by simp) (fun g333 => ?_) (fun g333 => ?_)
          · replace h1 := iteT g333 h1
            refine VW.seq ?_
            refine VW.evalA (C := []) (tm 69 [(4, .b false)]) [] [] trivial (by kernel_rfl) (by simp -implicitDefEqProofs) ?_
            have e_ := leafR h1
            subst w_1
            obtain rfl := leafS h
            refine VW.ret (VRet.fin ?_)
            simp [eB40]
          · replace h1 := iteF g333 h1
            refine VW.skip ?_
            refine VW.seq ?_
            refine VW.evalA (C := []) (tm 69 [(0, .cptr (pT24 s) 0), (1, .sl 1 (rows cl_ci_i64 table)), (5, .i .i64 k_300), (6, .i .i64 0)]) [] [] trivial (by kernel_rfl) (by simp -implicitDefEqProofs) ?_
            refine VW.block ?_
            obtain ⟨w_2, hw_2, h1⟩ := bindE h1
            refine VW.loopO (fun (x : Int) => (⟨(tm 69 [(0, .cptr (pT24 s) 0), (1, .sl 1 (rows cl_ci_i64 table)), (5, .i .i64 k_300), (6, .i .i64 x)]), [], []⟩ : VS)) hw_2 (Ent.to 0 (by simp [fgt]) (by first | (simp; done) | simp [pT24]) (by simp) (by simp [bndT, bndV]) (by simp [bndM, bndV])) ?_
            rintro n_2 i_351 h2
            rw [g40_L2] at h2
            refine VW.seq ?_
            refine VW.seq ?_
            obtain ⟨e352, q353, h2⟩ := bindE h2
            obtain ⟨f353a, f353b, f353c, f353d⟩ := idx_some q353
            refine VW.evalA (C := []) (tm 69 [(0, .cptr (pT24 s) 0), (1, .sl 1 (rows cl_ci_i64 table)), (5, .i .i64 k_300), (6, .i .i64 i_351), (39, .b (ltI i_351 (e352.length : Int)))]) [] [] trivial (by kernel_rfl) (by simp -implicitDefEqProofs [f353a, f353b, f353c, f353d]) ?_
            refine VW.condB (b := ltI i_351 (e352.length : Int)) (by simp) (fun g354 => ?_) (fun g354 => ?_)
            · replace h2 := iteT g354 h2
              refine VW.skip ?_
              refine VW.seq ?_
              refine VW.block ?_
              refine VW.seq ?_
              obtain ⟨e355, q356, h2⟩ := bindE h2
              obtain ⟨f356a, f356b, f356c, f356d⟩ := idx_some q356
              obtain ⟨e357, q358, h2⟩ := bindE h2
              obtain ⟨f358a, f358b, f358c, f358d⟩ := idx_some q358
              refine VW.evalA (C := []) (tm 69 [(0, .cptr (pT24 s) 0), (1, .sl 1 (rows cl_ci_i64 table)), (5, .i .i64 k_300), (6, .i .i64 i_351), (68, .b (ltI e357 (-1) || (eqI k_300 (s.need_.length : Int) && (!eqI e357 0))))]) [] [] trivial (by kernel_rfl) (by simp -implicitDefEqProofs [f356a, f356b, f356c, f356d, f358a, f358b, f358c, f358d]) ?_
              refine VW.condB (b := (ltI e357 (-1) || (eqI k_300 (s.need_.length : Int) && (!eqI e357 0)))) (by simp) (fun g359 => ?_) (fun g359 => ?_)
              · replace h2 := iteT g359 h2
                refine VW.seq ?_
                refine VW.evalA (C := []) (tm 69 [(4, .b false)]) [] [] trivial (by kernel_rfl) (by simp -implicitDefEqProofs) ?_
                have e_ := leafR h2
                subst w_2
                have e_ := leafR h1
                subst w_1
                obtain rfl := leafS h
                refine VW.ret (VRet.fin ?_)
                simp [eB40]
              · replace h2 := iteF g359 h2
                refine VW.skip ?_
                refine VW.evalA (C := []) (tm 69 [(0, .cptr (pT24 s) 0), (1, .sl 1 (rows cl_ci_i64 table)), (5, .i .i64 k_300), (6, .i .i64 (aI .i64 i_351 1))]) [] [] trivial (by kernel_rfl) (by simp -implicitDefEqProofs) ?_
                exact (show ∃ _, _ from ⟨aI .i64 i_351 1, leafL h2, (Ent.to 0 (by simp [fgt]) (by first | (simp; done) | simp [pT24]) (by simp) (by simp [bndT, bndV]) (by simp [bndM, bndV]))⟩)
            · replace h2 := iteF g354 h2
              refine VW.exit ?_
              have e_ := leafR h2
              subst w_2
              exact (show ∃ _, _ from ⟨(), h1, (Ent.to 0 (by simp [fgt]) (by first | (simp; done) | simp [pT24]) (by simp) (by simp [bndT, bndV]) (by simp [bndM, bndV]))⟩)
        · rintro _ h1
          replace h1 : (g40_j2 k_300).bind _ = _ := h1
          rw [g40_j2] at h1
          refine VW.evalA (C := []) (tm 69 [(0, .cptr (pT24 s) 0), (1, .sl 1 (rows cl_ci_i64 table)), (5, .i .i64 (aI .i64 k_300 1))]) [] [] trivial (by kernel_rfl) (by simp -implicitDefEqProofs) ?_
          exact (show ∃ _, _ from ⟨aI .i64 k_300 1, leafL h1, (Ent.to 0 (by simp [fgt]) (by first | (simp; done) | simp [pT24]) (by simp) (by simp [bndT, bndV]) (by simp [bndM, bndV]))⟩)
      · replace h1 := iteF g301 h1
        refine VW.exit ?_
        have e_ := leafR h1
        subst w_1
        exact (show ∃ _, _ from ⟨(), h, (Ent.to 0 (by simp [fgt]) (by first | (simp; done) | simp [pT24]) (by simp) (by simp [bndT, bndV]) (by simp [bndM, bndV]))⟩)
    · rintro _ h
      replace h : (g40_j1).bind _ = _ := h
      rw [g40_j1] at h
      refine VW.seq ?_
      refine VW.evalA (C := []) (tm 69 [(4, .b true)]) [] [] trivial (by kernel_rfl) (by simp -implicitDefEqProofs) ?_
      obtain rfl := leafS h
      refine VW.ret (VRet.fin ?_)
      simp [eB40]
noncomputable def g64 (a : Int) (b : Int) : Option (Int) :=
  if ltI b a = true then
    some b
  else
    some a
def eA64 (a : Int × Int) : List V := [.i .i64 a.1, .i .i64 a.2]
def eB64 (r : Int) : V := .i .i64 r
theorem inj64 (a a' : Int × Int) (h : eA64 a = eA64 a') : a = a' := by
  obtain ⟨i65, i66⟩ := a
  obtain ⟨i67, i68⟩ := a'
  simp only [eA64, List.cons.injEq, V.i.injEq, V.b.injEq, V.f.injEq, V.str.injEq, V.sl.injEq, V.agg.injEq, V.cptr.injEq, true_and, and_true] at h
  simp_all
noncomputable def F64 : List V → Option V := tells (fun a => g64 a.1 a.2) eA64 eB64
set_option maxRecDepth 100000 in
set_option maxHeartbeats 4000000 in
/- loop.example/g01229/spec.l07Least -/
theorem ok64 : Tells Try.prog 64 F64 := by
  refine Tells.of (by kernel_rfl) ?_
  rintro ⟨a, b⟩ r h
  refine VCalls.nl (VCalls.of Try.func64 rfl rfl rfl ?_)
  rw [tm_init]
  simp only [eA64, en, List.length_cons, List.length_nil, Nat.reduceAdd, Nat.reduceSub]
  replace h : (g64 a b).bind some = some r := bindS h
  rw [g64] at h
  refine VW.seq ?_
  refine VW.evalA (C := []) (tm 10 [(0, .i .i64 a), (1, .i .i64 b)]) [] [] trivial (by kernel_rfl) (by simp -implicitDefEqProofs) ?_
  refine VW.seq ?_
  refine VW.seq ?_
  refine VW.evalA (C := []) (tm 10 [(0, .i .i64 a), (1, .i .i64 b), (7, .b (ltI b a))]) [] [] trivial (by kernel_rfl) (by simp -implicitDefEqProofs) ?_
  refine VW.condB (b := ltI b a) (by simp) (fun g1 => ?_) (fun g1 => ?_)
  · replace h := iteT g1 h
    refine VW.seq ?_
    refine VW.evalA (C := []) (tm 10 [(4, .i .i64 b)]) [] [] trivial (by kernel_rfl) (by simp -implicitDefEqProofs) ?_
    obtain rfl := leafS h
    refine VW.ret (VRet.fin ?_)
    simp [eB64]
  · replace h := iteF g1 h
    refine VW.skip ?_
    refine VW.seq ?_
    refine VW.evalA (C := []) (tm 10 [(4, .i .i64 a)]) [] [] trivial (by kernel_rfl) (by simp -implicitDefEqProofs) ?_
    obtain rfl := leafS h
    refine VW.ret (VRet.fin ?_)
    simp [eB64]
noncomputable def g58 (s : T24) (slot : Int) (store : Int) (logs : Int) : Option (Int) :=
  (idx s.need_ slot).bind fun e1 =>
  if ltI (sI .i64 (aI .i64 store (mI .i64 logs s.yield_)) e1) 0 = true then
    some (-1)
  else
    (dI .i64 (mI .i64 (sI .i64 (aI .i64 store (mI .i64 logs s.yield_)) e1) s.loss_) 100).bind fun d4 =>
    (g64 (sI .i64 (sI .i64 (aI .i64 store (mI .i64 logs s.yield_)) e1) d4) s.store_).bind fun r6 =>
    some r6
def eA58 (a : T24 × Int × Int × Int) : List V := [.cptr (pT24 a.1) 0, .i .i64 a.2.1, .i .i64 a.2.2.1, .i .i64 a.2.2.2]
def eB58 (r : Int) : V := .i .i64 r
theorem inj58 (a a' : T24 × Int × Int × Int) (h : eA58 a = eA58 a') : a = a' := by
  obtain ⟨⟨i69, i70, i71, i72, i73, i74, i75⟩, i76, i77, i78⟩ := a
  obtain ⟨⟨i79, i80, i81, i82, i83, i84, i85⟩, i86, i87, i88⟩ := a'
  simp only [eA58, pT24, List.cons.injEq, V.i.injEq, V.b.injEq, V.f.injEq, V.str.injEq, V.sl.injEq, V.agg.injEq, V.cptr.injEq, true_and, and_true] at h
  simp_all [ri ci_i64_inj]
noncomputable def F58 : List V → Option V := tells (fun a => g58 a.1 a.2.1 a.2.2.1 a.2.2.2) eA58 eB58
set_option maxRecDepth 100000 in
set_option maxHeartbeats 4000000 in
/- loop.example/g01229/spec.l07After -/
theorem ok58 : Tells Try.prog 58 F58 := by
  refine Tells.of (by kernel_rfl) ?_
  rintro ⟨s, slot, store, logs⟩ r h
  refine VCalls.nl (VCalls.of Try.func58 rfl rfl rfl ?_)
  rw [tm_init]
  simp only [eA58, en, List.length_cons, List.length_nil, Nat.reduceAdd, Nat.reduceSub]
  replace h : (g58 s slot store logs).bind some = some r := bindS h
  rw [g58] at h
  refine VW.seq ?_
  refine VW.evalA (C := [(64, F64)]) (tm 42 [(0, .cptr (pT24 s) 0), (1, .i .i64 slot), (2, .i .i64 store), (3, .i .i64 logs)]) [] [] ⟨.inl ok64, trivial⟩ (by kernel_rfl) (by simp -implicitDefEqProofs) ?_
  refine VW.seq ?_
  obtain ⟨e1, q2, h⟩ := bindE h
  obtain ⟨f2a, f2b, f2c, f2d⟩ := idx_some q2
  refine VW.evalDA (C := [(64, F64)]) (tm 42 [(0, .cptr (pT24 s) 0), (9, .i .i64 (sI .i64 (aI .i64 store (mI .i64 logs s.yield_)) e1))]) [] [] ⟨.inl ok64, trivial⟩ mixed (by kernel_rfl) (by simp -implicitDefEqProofs [f2a, f2b, f2c, f2d]) ?_
  refine VW.seq ?_
  refine VW.seq ?_
  refine VW.evalA (C := [(64, F64)]) (tm 42 [(0, .cptr (pT24 s) 0), (9, .i .i64 (sI .i64 (aI .i64 store (mI .i64 logs s.yield_)) e1)), (27, .b (ltI (sI .i64 (aI .i64 store (mI .i64 logs s.yield_)) e1) 0))]) [] [] ⟨.inl ok64, trivial⟩ (by kernel_rfl) (by simp -implicitDefEqProofs) ?_
  refine VW.condB (b := ltI (sI .i64 (aI .i64 store (mI .i64 logs s.yield_)) e1) 0) (by simp) (fun g3 => ?_) (fun g3 => ?_)
  · replace h := iteT g3 h
    refine VW.seq ?_
    refine VW.evalA (C := [(64, F64)]) (tm 42 [(8, .i .i64 (-1))]) [] [] ⟨.inl ok64, trivial⟩ (by kernel_rfl) (by simp -implicitDefEqProofs) ?_
    obtain rfl := leafS h
    refine VW.ret (VRet.fin ?_)
    simp [eB58]
  · replace h := iteF g3 h
    refine VW.skip ?_
    refine VW.seq ?_
    obtain ⟨d4, q5, h⟩ := bindE h
    obtain ⟨r6, q7, h⟩ := bindE h
    have c7 : F64 [.i .i64 (sI .i64 (sI .i64 (aI .i64 store (mI .i64 logs s.yield_)) e1) d4), .i .i64 s.store_] = some (.i .i64 r6) := tells_eq inj64 (a := (sI .i64 (sI .i64 (aI .i64 store (mI .i64 logs s.yield_)) e1) d4, s.store_)) q7
    refine VW.evalDA (C := [(64, F64)]) (tm 42 [(8, .i .i64 r6)]) [] [] ⟨.inl ok64, trivial⟩ mixed (by kernel_rfl) (by simp -implicitDefEqProofs [q5, c7]) ?_
    obtain rfl := leafS h
    refine VW.ret (VRet.fin ?_)
    simp [eB58]
noncomputable def g41_j1 : Option (Int × Int × Int × Bool) :=
  some (0, 0, 0, false)
noncomputable def g41_j2 (k_5399 : Int) : Option ((Int) ⊕ ((Unit) ⊕ (Int × Int × Int × Bool))) :=
  some (.inl (aI .i64 k_5399 1))
noncomputable def g41_j3 (i_6299 : Int) : Option ((Int) ⊕ ((Unit) ⊕ ((Int) ⊕ ((Unit) ⊕ (Int × Int × Int × Bool))))) :=
  some (.inl (aI .i64 i_6299 1))
noncomputable def g41_L3 (s : T24) (k_5399 : Int) (i_6299 : Int) (table : List (List Int)) : (Int) → Option ((Int) ⊕ ((Unit) ⊕ ((Int) ⊕ ((Unit) ⊕ ((Int) ⊕ ((Unit) ⊕ (Int × Int × Int × Bool)))))))
  | logs_6449 =>
    if leI logs_6449 s.most_ = true then
      (g58 s k_5399 i_6299 logs_6449).bind fun r6451 =>
      (if ltI r6451 0 = true then some true else (idx table (aI .i64 k_5399 1)).bind fun e6453 => (idx e6453 r6451).bind fun e6455 => some (eqI e6455 (-1))).bind fun w6457 =>
      if w6457 = true then
        some (.inl (aI .i64 logs_6449 1))
      else
        (idx table k_5399).bind fun e6459 =>
        (idx e6459 i_6299).bind fun e6461 =>
        (if eqI e6461 (-1) = true then some true else (idx s.price_ k_5399).bind fun e6463 => (idx table (aI .i64 k_5399 1)).bind fun e6465 => (idx e6465 r6451).bind fun e6467 => some (ltI e6467 (sI .i64 e6461 (mI .i64 e6463 logs_6449)))).bind fun w6469 =>
        if w6469 = true then
          some (.inr (.inr (.inr (.inr (.inr (.inr (k_5399, i_6299, logs_6449, true)))))))
        else
          some (.inl (aI .i64 logs_6449 1))
    else
      some (.inr (.inl ()))
noncomputable def g41_L2 (s : T24) (k_5399 : Int) (table : List (List Int)) : (Int) → Option ((Int) ⊕ ((Unit) ⊕ ((Int) ⊕ ((Unit) ⊕ (Int × Int × Int × Bool)))))
  | i_6299 =>
    if leI i_6299 s.store_ = true then
      (loopO (g41_L3 s k_5399 i_6299 table) 0).bind fun w => match w with
        | .inl y => g41_j3 i_6299
        | .inr r => some r
    else
      some (.inr (.inl ()))
noncomputable def g41_L1 (s : T24) (table : List (List Int)) : (Int) → Option ((Int) ⊕ ((Unit) ⊕ (Int × Int × Int × Bool)))
  | k_5399 =>
    if ltI k_5399 (s.need_.length : Int) = true then
      (loopO (g41_L2 s k_5399 table) 0).bind fun w => match w with
        | .inl y => g41_j2 k_5399
        | .inr r => some r
    else
      some (.inr (.inl ()))
noncomputable def g41 (s : T24) (table : List (List Int)) : Option (Int × Int × Int × Bool) :=
  (loopO (g41_L1 s table) 0).bind fun w => match w with
    | .inl y => g41_j1
    | .inr r => some r
def eA41 (a : T24 × (List (List Int))) : List V := [.cptr (pT24 a.1) 0, .sl 1 (rows cl_ci_i64 a.2)]
def eB41 (r : Int × Int × Int × Bool) : V := .tup [.i .i64 r.1, .i .i64 r.2.1, .i .i64 r.2.2.1, .b r.2.2.2]
theorem inj41 (a a' : T24 × (List (List Int))) (h : eA41 a = eA41 a') : a = a' := by
  obtain ⟨⟨i89, i90, i91, i92, i93, i94, i95⟩, i96⟩ := a
  obtain ⟨⟨i97, i98, i99, i100, i101, i102, i103⟩, i104⟩ := a'
  simp only [eA41, pT24, List.cons.injEq, V.i.injEq, V.b.injEq, V.f.injEq, V.str.injEq, V.sl.injEq, V.agg.injEq, V.cptr.injEq, true_and, and_true] at h
  simp_all [ri ci_i64_inj, ri cl_ci_i64_inj]
noncomputable def F41 : List V → Option V := tells (fun a => g41 a.1 a.2) eA41 eB41
set_option maxRecDepth 100000 in
set_option maxHeartbeats 4000000 in
/- loop.example/g01229/spec.l07Flaw -/
theorem ok41 : Tells Try.prog 41 F41 := by
  refine Tells.of (by kernel_rfl) ?_
  rintro ⟨s, table⟩ r h
  refine VCalls.nl (VCalls.of Try.func41 rfl rfl rfl ?_)
  rw [tm_init]
  simp only [eA41, en, List.length_cons, List.length_nil, Nat.reduceAdd, Nat.reduceSub]
  replace h : (g41 s table).bind some = some r := bindS h
  rw [g41] at h
  refine VW.seq ?_
  refine VW.evalA (C := [(58, F58)]) (tm 94 [(0, .cptr (pT24 s) 0), (1, .sl 1 (rows cl_ci_i64 table))]) [] [] ⟨.inl ok58, trivial⟩ (by kernel_rfl) (by simp -implicitDefEqProofs) ?_
  refine VW.join (fun (v : Unit) => (⟨(tm 94 []), [], []⟩ : VS)) (fun v => (g41_j1).bind some = some r) ?_ ?_
  · refine VW.seq ?_
    refine VW.evalA (C := [(58, F58)]) (tm 94 [(0, .cptr (pT24 s) 0), (1, .sl 1 (rows cl_ci_i64 table)), (8, .i .i64 0)]) [] [] ⟨.inl ok58, trivial⟩ (by kernel_rfl) (by simp -implicitDefEqProofs) ?_
    refine VW.block ?_
    obtain ⟨w_1, hw_1, h⟩ := bindE h
    refine VW.loopO (fun (x : Int) => (⟨(tm 94 [(0, .cptr (pT24 s) 0), (1, .sl 1 (rows cl_ci_i64 table)), (8, .i .i64 x)]), [], []⟩ : VS)) hw_1 (Ent.to 0 (by simp [fgt]) (by first | (simp; done) | simp [pT24]) (by simp) (by simp [bndT, bndV]) (by simp [bndM, bndV])) ?_
    rintro n_1 k_5399 h1
    rw [g41_L1] at h1
    refine VW.seq ?_
    refine VW.seq ?_
    refine VW.evalA (C := [(58, F58)]) (tm 94 [(0, .cptr (pT24 s) 0), (1, .sl 1 (rows cl_ci_i64 table)), (8, .i .i64 k_5399), (18, .b (ltI k_5399 (s.need_.length : Int)))]) [] [] ⟨.inl ok58, trivial⟩ (by kernel_rfl) (by simp -implicitDefEqProofs) ?_
    refine VW.condB (b := ltI k_5399 (s.need_.length : Int)) (by simp) (fun g5400 => ?_) (fun g5400 => ?_)
    · replace h1 := iteT g5400 h1
      refine VW.skip ?_
      refine VW.join (fun (v : Unit) => (⟨(tm 94 [(0, .cptr (pT24 s) 0), (1, .sl 1 (rows cl_ci_i64 table)), (8, .i .i64 k_5399)]), [], []⟩ : VS)) (fun v => (g41_j2 k_5399).bind (kN (g41_L1 s table) n_1) = some w_1) ?_ ?_
      · refine VW.block ?_
        refine VW.seq ?_
        refine VW.evalA (C := [(58, F58)]) (tm 94 [(0, .cptr (pT24 s) 0), (1, .sl 1 (rows cl_ci_i64 table)), (8, .i .i64 k_5399), (9, .i .i64 0)]) [] [] ⟨.inl ok58, trivial⟩ (by kernel_rfl) (by simp -implicitDefEqProofs) ?_
        refine VW.block ?_
        obtain ⟨w_2, hw_2, h1⟩ := bindE h1
        refine VW.loopO (fun (x : Int) => (⟨(tm 94 [(0, .cptr (pT24 s) 0), (1, .sl 1 (rows cl_ci_i64 table)), (8, .i .i64 k_5399), (9, .i .i64 x)]), [], []⟩ : VS)) hw_2 (Ent.to 0 (by simp [fgt]) (by first | (simp; done) | simp [pT24]) (by simp) (by simp [bndT, bndV]) (by simp [bndM, bndV])) ?_
        rintro n_2 i_6299 h2
        rw [g41_L2] at h2
        refine VW.seq ?_
        refine VW.seq ?_
        refine VW.evalA (C := [(58, F58)]) (tm 94 [(0, .cptr (pT24 s) 0), (1, .sl 1 (rows cl_ci_i64 table)), (8, .i .i64 k_5399), (9, .i .i64 i_6299), (26, .b (leI i_6299 s.store_))]) [] [] ⟨.inl ok58, trivial⟩ (by kernel_rfl) (by simp -implicitDefEqProofs) ?_
        refine VW.condB (b := leI i_6299 s.store_) (by simp) (fun g6300 => ?_) (fun g6300 => ?_)
        · replace h2 := iteT g6300 h2
          refine VW.skip ?_
          refine VW.join (fun (v : Unit) => (⟨(tm 94 [(0, .cptr (pT24 s) 0), (1, .sl 1 (rows cl_ci_i64 table)), (8, .i .i64 k_5399), (9, .i .i64 i_6299)]), [], []⟩ : VS)) (fun v => (g41_j3 i_6299).bind (kN (g41_L2 s k_5399 table) n_2) = some w_2) ?_ ?_
          · refine VW.block ?_
            refine VW.seq ?_
            refine VW.evalA (C := [(58, F58)]) (tm 94 [(0, .cptr (pT24 s) 0), (1, .sl 1 (rows cl_ci_i64 table)), (8, .i .i64 k_5399), (9, .i .i64 i_6299), (10, .i .i64 0)]) [] [] ⟨.inl ok58, trivial⟩ (by kernel_rfl) (by simp -implicitDefEqProofs) ?_
            refine VW.block ?_
            obtain ⟨w_3, hw_3, h2⟩ := bindE h2
            refine VW.loopO (fun (x : Int) => (⟨(tm 94 [(0, .cptr (pT24 s) 0), (1, .sl 1 (rows cl_ci_i64 table)), (8, .i .i64 k_5399), (9, .i .i64 i_6299), (10, .i .i64 x)]), [], []⟩ : VS)) hw_3 (Ent.to 0 (by simp [fgt]) (by first | (simp; done) | simp [pT24]) (by simp) (by simp [bndT, bndV]) (by simp [bndM, bndV])) ?_
            rintro n_3 logs_6449 h3
            rw [g41_L3] at h3
            refine VW.seq ?_
            refine VW.seq ?_
            refine VW.evalA (C := [(58, F58)]) (tm 94 [(0, .cptr (pT24 s) 0), (1, .sl 1 (rows cl_ci_i64 table)), (8, .i .i64 k_5399), (9, .i .i64 i_6299), (10, .i .i64 logs_6449), (34, .b (leI logs_6449 s.most_))]) [] [] ⟨.inl ok58, trivial⟩ (by kernel_rfl) (by simp -implicitDefEqProofs) ?_
            refine VW.condB (b := leI logs_6449 s.most_) (by simp) (fun g6450 => ?_) (fun g6450 => ?_)
            · replace h3 := iteT g6450 h3
              refine VW.skip ?_
              refine VW.seq ?_
              refine VW.block ?_
              refine VW.seq ?_
              obtain ⟨r6451, q6452, h3⟩ := bindE h3
              have c6452 : F58 [.cptr (pT24 s) 0, .i .i64 k_5399, .i .i64 i_6299, .i .i64 logs_6449] = some (.i .i64 r6451) := tells_eq inj58 (a := (s, k_5399, i_6299, logs_6449)) q6452
              refine VW.evalA (C := [(58, F58)]) (tm 94 [(0, .cptr (pT24 s) 0), (1, .sl 1 (rows cl_ci_i64 table)), (8, .i .i64 k_5399), (9, .i .i64 i_6299), (10, .i .i64 logs_6449), (11, .i .i64 r6451)]) [] [] ⟨.inl ok58, trivial⟩ (by kernel_rfl) (by simp -implicitDefEqProofs [c6452]) ?_
              refine VW.seq ?_
              refine VW.seq ?_
              obtain ⟨w6457, q6475, h3⟩ := bindE h3
              refine VW.evalA (C := [(58, F58)]) (tm 94 [(0, .cptr (pT24 s) 0), (1, .sl 1 (rows cl_ci_i64 table)), (8, .i .i64 k_5399), (9, .i .i64 i_6299), (10, .i .i64 logs_6449), (11, .i .i64 r6451), (54, .b w6457)]) [] [] ⟨.inl ok58, trivial⟩ (by kernel_rfl) (by
                  rcases Bool.eq_false_or_eq_true (ltI r6451 0) with q6476 | q6476
                  · first
                    | (simp at q6476; done)
                    | (rw [if_pos q6476] at q6475
                       have d6477 : w6457 = _ := (Option.some.inj q6475).symm
                       simp -implicitDefEqProofs [q6476, d6477])
                  · first
                    | (simp at q6476; done)
                    | (rw [if_neg (by rw [q6476]; exact Bool.false_ne_true)] at q6475
                       obtain ⟨e6453, q6454, q6475⟩ := bindQ q6475
                       obtain ⟨f6454a, f6454b, f6454c, f6454d⟩ := idx_some q6454
                       obtain ⟨e6455, q6456, q6475⟩ := bindQ q6475
                       obtain ⟨f6456a, f6456b, f6456c, f6456d⟩ := idx_some q6456
                       have d6478 : w6457 = _ := (Option.some.inj q6475).symm
                       simp -implicitDefEqProofs [q6476, f6454a, f6454b, f6454c, f6454d, f6456a, f6456b, f6456c, f6456d, d6478])) ?_
              refine VW.condB (b := w6457) (by simp) (fun g6458 => ?_) (fun g6458 => ?_)
              · replace h3 := iteT g6458 h3
                refine VW.exit ?_
                refine VW.evalA (C := [(58, F58)]) (tm 94 [(0, .cptr (pT24 s) 0), (1, .sl 1 (rows cl_ci_i64 table)), (8, .i .i64 k_5399), (9, .i .i64 i_6299), (10, .i .i64 (aI .i64 logs_6449 1))]) [] [] ⟨.inl ok58, trivial⟩ (by kernel_rfl) (by simp -implicitDefEqProofs) ?_
                exact (show ∃ _, _ from ⟨aI .i64 logs_6449 1, leafL h3, (Ent.to 0 (by simp [fgt]) (by first | (simp; done) | simp [pT24]) (by simp) (by simp [bndT, bndV]) (by simp [bndM, bndV]))⟩)
              · replace h3 := iteF g6458 h3
                refine VW.skip ?_
                refine VW.seq ?_
                obtain ⟨e6459, q6460, h3⟩ := bindE h3
                obtain ⟨f6460a, f6460b, f6460c, f6460d⟩ := idx_some q6460
                obtain ⟨e6461, q6462, h3⟩ := bindE h3
                obtain ⟨f6462a, f6462b, f6462c, f6462d⟩ := idx_some q6462
                obtain ⟨w6469, q6471, h3⟩ := bindE h3
                refine VW.evalDA (C := [(58, F58)]) (tm 94 [(0, .cptr (pT24 s) 0), (1, .sl 1 (rows cl_ci_i64 table)), (8, .i .i64 k_5399), (9, .i .i64 i_6299), (10, .i .i64 logs_6449), (90, .b w6469)]) [] [] ⟨.inl ok58, trivial⟩ mixed (by kernel_rfl) (by
                    rcases Bool.eq_false_or_eq_true (eqI e6461 (-1)) with q6472 | q6472
                    · first
                      | (simp at q6472; done)
                      | (rw [if_pos q6472] at q6471
                         have d6473 : w6469 = _ := (Option.some.inj q6471).symm
                         simp -implicitDefEqProofs [f6460a, f6460b, f6460c, f6460d, f6462a, f6462b, f6462c, f6462d, q6472, d6473])
                    · first
                      | (simp at q6472; done)
                      | (rw [if_neg (by rw [q6472]; exact Bool.false_ne_true)] at q6471
                         obtain ⟨e6463, q6464, q6471⟩ := bindQ q6471
                         obtain ⟨f6464a, f6464b, f6464c, f6464d⟩ := idx_some q6464
                         obtain ⟨e6465, q6466, q6471⟩ := bindQ q6471
                         obtain ⟨f6466a, f6466b, f6466c, f6466d⟩ := idx_some q6466
                         obtain ⟨e6467, q6468, q6471⟩ := bindQ q6471
                         obtain ⟨f6468a, f6468b, f6468c, f6468d⟩ := idx_some q6468
                         have d6474 : w6469 = _ := (Option.some.inj q6471).symm
                         simp -implicitDefEqProofs [f6460a, f6460b, f6460c, f6460d, f6462a, f6462b, f6462c, f6462d, q6472, f6464a, f6464b, f6464c, f6464d, f6466a, f6466b, f6466c, f6466d, f6468a, f6468b, f6468c, f6468d, d6474])) ?_
                refine VW.condB (b := w6469) (by simp) (fun g6470 => ?_) (fun g6470 => ?_)
                · replace h3 := iteT g6470 h3
                  refine VW.seq ?_
                  refine VW.evalA (C := [(58, F58)]) (tm 94 [(4, .i .i64 k_5399), (5, .i .i64 i_6299), (6, .i .i64 logs_6449), (7, .b true)]) [] [] ⟨.inl ok58, trivial⟩ (by kernel_rfl) (by simp -implicitDefEqProofs) ?_
                  have e_ := leafR h3
                  subst w_3
                  have e_ := leafR h2
                  subst w_2
                  have e_ := leafR h1
                  subst w_1
                  obtain rfl := leafS h
                  refine VW.ret (VRet.fin ?_)
                  simp [eB41]
                · replace h3 := iteF g6470 h3
                  refine VW.skip ?_
                  refine VW.evalA (C := [(58, F58)]) (tm 94 [(0, .cptr (pT24 s) 0), (1, .sl 1 (rows cl_ci_i64 table)), (8, .i .i64 k_5399), (9, .i .i64 i_6299), (10, .i .i64 (aI .i64 logs_6449 1))]) [] [] ⟨.inl ok58, trivial⟩ (by kernel_rfl) (by simp -implicitDefEqProofs) ?_
                  exact (show ∃ _, _ from ⟨aI .i64 logs_6449 1, leafL h3, (Ent.to 0 (by simp [fgt]) (by first | (simp; done) | simp [pT24]) (by simp) (by simp [bndT, bndV]) (by simp [bndM, bndV]))⟩)
            · replace h3 := iteF g6450 h3
              refine VW.exit ?_
              have e_ := leafR h3
              subst w_3
              exact (show ∃ _, _ from ⟨(), h2, (Ent.to 0 (by simp [fgt]) (by first | (simp; done) | simp [pT24]) (by simp) (by simp [bndT, bndV]) (by simp [bndM, bndV]))⟩)
          · rintro _ h2
            replace h2 : (g41_j3 i_6299).bind _ = _ := h2
            rw [g41_j3] at h2
            refine VW.evalA (C := [(58, F58)]) (tm 94 [(0, .cptr (pT24 s) 0), (1, .sl 1 (rows cl_ci_i64 table)), (8, .i .i64 k_5399), (9, .i .i64 (aI .i64 i_6299 1))]) [] [] ⟨.inl ok58, trivial⟩ (by kernel_rfl) (by simp -implicitDefEqProofs) ?_
            exact (show ∃ _, _ from ⟨aI .i64 i_6299 1, leafL h2, (Ent.to 0 (by simp [fgt]) (by first | (simp; done) | simp [pT24]) (by simp) (by simp [bndT, bndV]) (by simp [bndM, bndV]))⟩)
        · replace h2 := iteF g6300 h2
          refine VW.exit ?_
          have e_ := leafR h2
          subst w_2
          exact (show ∃ _, _ from ⟨(), h1, (Ent.to 0 (by simp [fgt]) (by first | (simp; done) | simp [pT24]) (by simp) (by simp [bndT, bndV]) (by simp [bndM, bndV]))⟩)
      · rintro _ h1
        replace h1 : (g41_j2 k_5399).bind _ = _ := h1
        rw [g41_j2] at h1
        refine VW.evalA (C := [(58, F58)]) (tm 94 [(0, .cptr (pT24 s) 0), (1, .sl 1 (rows cl_ci_i64 table)), (8, .i .i64 (aI .i64 k_5399 1))]) [] [] ⟨.inl ok58, trivial⟩ (by kernel_rfl) (by simp -implicitDefEqProofs) ?_
        exact (show ∃ _, _ from ⟨aI .i64 k_5399 1, leafL h1, (Ent.to 0 (by simp [fgt]) (by first | (simp; done) | simp [pT24]) (by simp) (by simp [bndT, bndV]) (by simp [bndM, bndV]))⟩)
    · replace h1 := iteF g5400 h1
      refine VW.exit ?_
      have e_ := leafR h1
      subst w_1
      exact (show ∃ _, _ from ⟨(), h, (Ent.to 0 (by simp [fgt]) (by first | (simp; done) | simp [pT24]) (by simp) (by simp [bndT, bndV]) (by simp [bndM, bndV]))⟩)
  · rintro _ h
    replace h : (g41_j1).bind _ = _ := h
    rw [g41_j1] at h
    refine VW.seq ?_
    refine VW.evalA (C := [(58, F58)]) (tm 94 [(4, .i .i64 0), (5, .i .i64 0), (6, .i .i64 0), (7, .b false)]) [] [] ⟨.inl ok58, trivial⟩ (by kernel_rfl) (by simp -implicitDefEqProofs) ?_
    obtain rfl := leafS h
    refine VW.ret (VRet.fin ?_)
    simp [eB41]
noncomputable def g10 (s : T24) (table : List (List Int)) : Option (Int × Int × Int × Int) :=
  (g39 s).bind fun r1 =>
  if (!r1) = true then
    some (0, 0, 0, 1)
  else
    (g40 s table).bind fun r4 =>
    if (!r4) = true then
      some (0, 0, 0, 2)
    else
      (g41 s table).bind fun r7 =>
      if (!r7.2.2.2) = true then
        some (0, 0, 0, 6)
      else
        some (r7.1, r7.2.1, r7.2.2.1, 0)
def eA10 (a : T24 × (List (List Int))) : List V := [.agg (pT24 a.1), .sl 1 (rows cl_ci_i64 a.2)]
def eB10 (r : Int × Int × Int × Int) : V := .tup [.i .i64 r.1, .i .i64 r.2.1, .i .i64 r.2.2.1, .i .i64 r.2.2.2]
theorem inj10 (a a' : T24 × (List (List Int))) (h : eA10 a = eA10 a') : a = a' := by
  obtain ⟨⟨i105, i106, i107, i108, i109, i110, i111⟩, i112⟩ := a
  obtain ⟨⟨i113, i114, i115, i116, i117, i118, i119⟩, i120⟩ := a'
  simp only [eA10, pT24, List.cons.injEq, V.i.injEq, V.b.injEq, V.f.injEq, V.str.injEq, V.sl.injEq, V.agg.injEq, V.cptr.injEq, true_and, and_true] at h
  simp_all [ri ci_i64_inj, ri cl_ci_i64_inj]
noncomputable def F10 : List V → Option V := tells (fun a => g10 a.1 a.2) eA10 eB10
set_option maxRecDepth 100000 in
set_option maxHeartbeats 4000000 in
/- loop.example/g01229/spec.FirstFlaw -/
theorem ok10 : Tells Try.prog 10 F10 := by
  refine Tells.of (by kernel_rfl) ?_
  rintro ⟨s, table⟩ r h
  refine VCalls.nl (VCalls.of Try.func10 rfl rfl rfl ?_)
  rw [tm_init]
  simp only [eA10, en, List.length_cons, List.length_nil, Nat.reduceAdd, Nat.reduceSub]
  replace h : (g10 s table).bind some = some r := bindS h
  rw [g10] at h
  refine VW.seq ?_
  refine VW.evalA (C := [(39, F39), (40, F40), (41, F41)]) (tm 29 [(1, .sl 1 (rows cl_ci_i64 table)), (2, .ptr 0 0 0)]) [some (7, [(pT24 s)])] [] ⟨.inl ok39, .inl ok40, .inl ok41, trivial⟩ (by kernel_rfl) (by simp -implicitDefEqProofs) ?_
  refine VW.seq ?_
  refine VW.seq ?_
  obtain ⟨r1, q2, h⟩ := bindE h
  have c2 : F39 [.cptr (pT24 s) 0] = some (.b r1) := tells_eq inj39 (a := s) q2
  refine VW.evalA (C := [(39, F39), (40, F40), (41, F41)]) (tm 29 [(1, .sl 1 (rows cl_ci_i64 table)), (2, .ptr 0 0 0), (13, .b (!r1))]) [some (7, [(pT24 s)])] [] ⟨.inl ok39, .inl ok40, .inl ok41, trivial⟩ (by kernel_rfl) (by simp -implicitDefEqProofs [c2]) ?_
  refine VW.condB (b := (!r1)) (by simp) (fun g3 => ?_) (fun g3 => ?_)
  · replace h := iteT g3 h
    refine VW.seq ?_
    refine VW.evalA (C := [(39, F39), (40, F40), (41, F41)]) (tm 29 [(4, .i .i64 0), (5, .i .i64 0), (6, .i .i64 0), (7, .i .i64 1)]) [some (7, [(pT24 s)])] [] ⟨.inl ok39, .inl ok40, .inl ok41, trivial⟩ (by kernel_rfl) (by simp -implicitDefEqProofs) ?_
    obtain rfl := leafS h
    refine VW.ret (VRet.fin ?_)
    simp [eB10]
  · replace h := iteF g3 h
    refine VW.skip ?_
    refine VW.seq ?_
    refine VW.seq ?_
    obtain ⟨r4, q5, h⟩ := bindE h
    have c5 : F40 [.cptr (pT24 s) 0, .sl 1 (rows cl_ci_i64 table)] = some (.b r4) := tells_eq inj40 (a := (s, table)) q5
    refine VW.evalA (C := [(39, F39), (40, F40), (41, F41)]) (tm 29 [(1, .sl 1 (rows cl_ci_i64 table)), (2, .ptr 0 0 0), (16, .b (!r4))]) [some (7, [(pT24 s)])] [] ⟨.inl ok39, .inl ok40, .inl ok41, trivial⟩ (by kernel_rfl) (by simp -implicitDefEqProofs [c5]) ?_
    refine VW.condB (b := (!r4)) (by simp) (fun g6 => ?_) (fun g6 => ?_)
    · replace h := iteT g6 h
      refine VW.seq ?_
      refine VW.evalA (C := [(39, F39), (40, F40), (41, F41)]) (tm 29 [(4, .i .i64 0), (5, .i .i64 0), (6, .i .i64 0), (7, .i .i64 2)]) [some (7, [(pT24 s)])] [] ⟨.inl ok39, .inl ok40, .inl ok41, trivial⟩ (by kernel_rfl) (by simp -implicitDefEqProofs) ?_
      obtain rfl := leafS h
      refine VW.ret (VRet.fin ?_)
      simp [eB10]
    · replace h := iteF g6 h
      refine VW.skip ?_
      refine VW.seq ?_
      obtain ⟨r7, q8, h⟩ := bindE h
      have c8 : F41 [.cptr (pT24 s) 0, .sl 1 (rows cl_ci_i64 table)] = some (.tup [.i .i64 r7.1, .i .i64 r7.2.1, .i .i64 r7.2.2.1, .b r7.2.2.2]) := tells_eq inj41 (a := (s, table)) q8
      refine VW.evalA (C := [(39, F39), (40, F40), (41, F41)]) (tm 29 [(8, .i .i64 r7.1), (9, .i .i64 r7.2.1), (10, .i .i64 r7.2.2.1), (11, .b r7.2.2.2)]) [some (7, [(pT24 s)])] [] ⟨.inl ok39, .inl ok40, .inl ok41, trivial⟩ (by kernel_rfl) (by simp -implicitDefEqProofs [c8]) ?_
      refine VW.seq ?_
      refine VW.seq ?_
      refine VW.evalA (C := [(39, F39), (40, F40), (41, F41)]) (tm 29 [(8, .i .i64 r7.1), (9, .i .i64 r7.2.1), (10, .i .i64 r7.2.2.1), (25, .b (!r7.2.2.2))]) [some (7, [(pT24 s)])] [] ⟨.inl ok39, .inl ok40, .inl ok41, trivial⟩ (by kernel_rfl) (by simp -implicitDefEqProofs) ?_
      refine VW.condB (b := (!r7.2.2.2)) (by simp) (fun g9 => ?_) (fun g9 => ?_)
      · replace h := iteT g9 h
        refine VW.seq ?_
        refine VW.evalA (C := [(39, F39), (40, F40), (41, F41)]) (tm 29 [(4, .i .i64 0), (5, .i .i64 0), (6, .i .i64 0), (7, .i .i64 6)]) [some (7, [(pT24 s)])] [] ⟨.inl ok39, .inl ok40, .inl ok41, trivial⟩ (by kernel_rfl) (by simp -implicitDefEqProofs) ?_
        obtain rfl := leafS h
        refine VW.ret (VRet.fin ?_)
        simp [eB10]
      · replace h := iteF g9 h
        refine VW.skip ?_
        refine VW.seq ?_
        refine VW.evalA (C := [(39, F39), (40, F40), (41, F41)]) (tm 29 [(4, .i .i64 r7.1), (5, .i .i64 r7.2.1), (6, .i .i64 r7.2.2.1), (7, .i .i64 0)]) [some (7, [(pT24 s)])] [] ⟨.inl ok39, .inl ok40, .inl ok41, trivial⟩ (by kernel_rfl) (by simp -implicitDefEqProofs) ?_
        obtain rfl := leafS h
        refine VW.ret (VRet.fin ?_)
        simp [eB10]
noncomputable def g17_j1 (l22 : List Int) : Option (List Int) :=
  some l22
noncomputable def g17_L1 (a : List Int) : (Int × (List Int)) → Option ((Int × (List Int)) ⊕ (List Int))
  | (i_35, l36) =>
    if ltI i_35 (a.length : Int) = true then
      (idx a i_35).bind fun e38 =>
      (idx l36 i_35).bind fun e40 =>
      some (.inl (aI .i64 i_35 1, (l36.set i_35.toNat e38)))
    else
      some (.inr l36)
noncomputable def g17 (a : List Int) : Option (List Int) :=
  (mk 8 (a.length : Int)).bind fun u1 =>
  (loopO (g17_L1 a) (0, (List.replicate (a.length : Int).toNat 0))).bind fun w => g17_j1 w
def eA17 (a : List Int) : List V := [.sl 1 (rows ci_i64 a)]
def eB17 (r : List Int) : V := .own 1 (rows ci_i64 r)
theorem inj17 (a a' : List Int) (h : eA17 a = eA17 a') : a = a' := by
  obtain i121 := a
  obtain i122 := a'
  simp only [eA17, List.cons.injEq, V.i.injEq, V.b.injEq, V.f.injEq, V.str.injEq, V.sl.injEq, V.agg.injEq, V.cptr.injEq, true_and, and_true] at h
  simp_all [ri ci_i64_inj]
noncomputable def F17 : List V → Option V := tells (fun a => g17 a) eA17 eB17
set_option maxRecDepth 100000 in
set_option maxHeartbeats 4000000 in
/- loop.example/g01229/laws.toInt64S -/
theorem ok17 : Tells Try.prog 17 F17 := by
  refine Tells.of (by kernel_rfl) ?_
  rintro a r h
  refine VCalls.nl (VCalls.of Try.func17 rfl rfl rfl ?_)
  rw [tm_init]
  simp only [eA17, en, List.length_cons, List.length_nil, Nat.reduceAdd, Nat.reduceSub]
  replace h : (g17 a).bind some = some r := bindS h
  rw [g17] at h
  refine VW.seq ?_
  refine VW.evalA (C := []) (tm 22 [(0, .sl 1 (rows ci_i64 a))]) [] [] trivial (by kernel_rfl) (by simp -implicitDefEqProofs) ?_
  refine VW.seq ?_
  obtain ⟨u1, q2, h⟩ := bindE h
  obtain ⟨f2a, f2b, f2c⟩ := mk_some q2
  try simp only [Int.toNat_natCast, Int.reduceToNat, List.length_cons, List.length_nil, Nat.reduceAdd, Nat.zero_add] at f2a f2b f2c
  refine VW.evalA (C := []) (tm 22 [(0, .sl 1 (rows ci_i64 a)), (3, .ref 0 0 (List.replicate (a.length : Int).toNat 0).length)]) [some (1, rows ci_i64 (List.replicate (a.length : Int).toNat 0))] [] trivial (by kernel_rfl) (by simp -implicitDefEqProofs [f2a, f2b, f2c]) ?_
  refine VW.join (fun (v : List Int) => (⟨(tm 22 [(3, .ref 0 0 v.length)]), [some (1, rows ci_i64 v)], []⟩ : VS)) (fun v => (g17_j1 (v)).bind some = some r) ?_ ?_
  · refine VW.seq ?_
    refine VW.evalA (C := []) (tm 22 [(0, .sl 1 (rows ci_i64 a)), (3, .ref 0 0 (List.replicate (a.length : Int).toNat 0).length), (4, .i .i64 0)]) [some (1, rows ci_i64 (List.replicate (a.length : Int).toNat 0))] [] trivial (by kernel_rfl) (by simp -implicitDefEqProofs) ?_
    refine VW.block ?_
    obtain ⟨w_1, hw_1, h⟩ := bindE h
    refine VW.loopO (fun (x : Int × (List Int)) => (⟨(tm 22 [(0, .sl 1 (rows ci_i64 a)), (3, .ref 0 0 x.2.length), (4, .i .i64 x.1)]), [some (1, rows ci_i64 x.2)], []⟩ : VS)) hw_1 (Ent.to 1 (by simp [fgt]) (by simp) (by simp) (by simp [bndT, bndV]) (by simp [bndM, bndV])) ?_
    rintro n_1 ⟨i_35, l36⟩ h1
    rw [g17_L1] at h1
    refine VW.seq ?_
    refine VW.seq ?_
    refine VW.evalA (C := []) (tm 22 [(0, .sl 1 (rows ci_i64 a)), (3, .ref 0 0 l36.length), (4, .i .i64 i_35), (11, .b (ltI i_35 (a.length : Int)))]) [some (1, rows ci_i64 l36)] [] trivial (by kernel_rfl) (by simp -implicitDefEqProofs) ?_
    refine VW.condB (b := ltI i_35 (a.length : Int)) (by simp) (fun g37 => ?_) (fun g37 => ?_)
    · replace h1 := iteT g37 h1
      refine VW.skip ?_
      refine VW.seq ?_
      refine VW.block ?_
      obtain ⟨e38, q39, h1⟩ := bindE h1
      obtain ⟨f39a, f39b, f39c, f39d⟩ := idx_some q39
      obtain ⟨e40, q41, h1⟩ := bindE h1
      obtain ⟨f41a, f41b, f41c, f41d⟩ := idx_some q41
      refine VW.evalA (C := []) (tm 22 [(0, .sl 1 (rows ci_i64 a)), (3, .ref 0 0 (l36.set i_35.toNat e38).length), (4, .i .i64 i_35)]) [some (1, rows ci_i64 (l36.set i_35.toNat e38))] [] trivial (by kernel_rfl) (by simp -implicitDefEqProofs [f39a, f39b, f39c, f39d, f41a, f41b, f41c, f41d]) ?_
      refine VW.evalA (C := []) (tm 22 [(0, .sl 1 (rows ci_i64 a)), (3, .ref 0 0 (l36.set i_35.toNat e38).length), (4, .i .i64 (aI .i64 i_35 1))]) [some (1, rows ci_i64 (l36.set i_35.toNat e38))] [] trivial (by kernel_rfl) (by simp -implicitDefEqProofs) ?_
      exact (show ∃ _, _ from ⟨(aI .i64 i_35 1, (l36.set i_35.toNat e38)), leafL h1, (Ent.to 1 (by simp [fgt]) (by simp) (by simp) (by simp [bndT, bndV]) (by simp [bndM, bndV]))⟩)
    · replace h1 := iteF g37 h1
      refine VW.exit ?_
      have e_ := leafR h1
      subst w_1
      exact (show ∃ _, _ from ⟨l36, h, (Ent.to 1 (by simp [fgt]) (by simp) (by simp) (by simp [bndT, bndV]) (by simp [bndM, bndV]))⟩)
  · rintro l22 h
    replace h : (g17_j1 l22).bind _ = _ := h
    rw [g17_j1] at h
    refine VW.seq ?_
    refine VW.evalA (C := []) (tm 22 [(2, .ref 0 0 l22.length)]) [some (1, rows ci_i64 l22)] [] trivial (by kernel_rfl) (by simp -implicitDefEqProofs) ?_
    obtain rfl := leafS h
    refine VW.ret (VRet.fin ?_)
    simp [eB17]
noncomputable def g11 (a : T24) : Option (T24) :=
  (g17 a.need_).bind fun r1 =>
  (g17 a.price_).bind fun r3 =>
  some (⟨r1, r3, a.most_, a.yield_, a.store_, a.first_, a.loss_⟩ : T24)
def eA11 (a : T24) : List V := [.agg (pT24 a)]
def eB11 (r : T24) : V := .agg [.own 1 (rows ci_i64 r.need_), .own 1 (rows ci_i64 r.price_), .i .i64 r.most_, .i .i64 r.yield_, .i .i64 r.store_, .i .i64 r.first_, .i .i64 r.loss_]
theorem inj11 (a a' : T24) (h : eA11 a = eA11 a') : a = a' := by
  obtain ⟨i123, i124, i125, i126, i127, i128, i129⟩ := a
  obtain ⟨i130, i131, i132, i133, i134, i135, i136⟩ := a'
  simp only [eA11, pT24, List.cons.injEq, V.i.injEq, V.b.injEq, V.f.injEq, V.str.injEq, V.sl.injEq, V.agg.injEq, V.cptr.injEq, true_and, and_true] at h
  simp_all [ri ci_i64_inj]
noncomputable def F11 : List V → Option V := tells (fun a => g11 a) eA11 eB11
set_option maxRecDepth 100000 in
set_option maxHeartbeats 4000000 in
/- loop.example/g01229/laws.toSeason -/
theorem ok11 : Tells Try.prog 11 F11 := by
  refine Tells.of (by kernel_rfl) ?_
  rintro a r h
  refine VCalls.nl (VCalls.of Try.func11 rfl rfl rfl ?_)
  rw [tm_init]
  simp only [eA11, en, List.length_cons, List.length_nil, Nat.reduceAdd, Nat.reduceSub]
  replace h : (g11 a).bind some = some r := bindS h
  rw [g11] at h
  refine VW.seq ?_
  refine VW.evalA (C := [(17, F17)]) (tm 28 [(1, .ptr 0 0 0), (2, .ptr 1 0 0)]) [some (7, [(pT24 a)]), some (7, [[.nil, .nil, .i .i64 0, .i .i64 0, .i .i64 0, .i .i64 0, .i .i64 0]])] [] ⟨.inl ok17, trivial⟩ (by kernel_rfl) (by simp -implicitDefEqProofs) ?_
  refine VW.seq ?_
  refine VW.evalA (C := [(17, F17)]) (tm 28 [(1, .ptr 0 0 0), (2, .ptr 1 0 0), (3, .ptr 2 0 0)]) [some (7, [(pT24 a)]), some (7, [[.nil, .nil, .i .i64 0, .i .i64 0, .i .i64 0, .i .i64 0, .i .i64 0]]), some (7, [[.nil, .nil, .i .i64 0, .i .i64 0, .i .i64 0, .i .i64 0, .i .i64 0]])] [] ⟨.inl ok17, trivial⟩ (by kernel_rfl) (by simp -implicitDefEqProofs) ?_
  refine VW.seq ?_
  obtain ⟨r1, q2, h⟩ := bindE h
  have c2 : F17 [.sl 1 (rows ci_i64 a.need_)] = some (.own 1 (rows ci_i64 r1)) := tells_eq inj17 (a := a.need_) q2
  refine VW.evalA (C := [(17, F17)]) (tm 28 [(1, .ptr 0 0 0), (2, .ptr 1 0 0), (3, .ptr 2 0 0)]) [some (7, [(pT24 a)]), some (7, [[.nil, .nil, .i .i64 0, .i .i64 0, .i .i64 0, .i .i64 0, .i .i64 0]]), some (7, [[.ref 3 0 r1.length, .nil, .i .i64 0, .i .i64 0, .i .i64 0, .i .i64 0, .i .i64 0]]), some (1, rows ci_i64 r1)] [] ⟨.inl ok17, trivial⟩ (by kernel_rfl) (by simp -implicitDefEqProofs [c2]) ?_
  refine VW.seq ?_
  obtain ⟨r3, q4, h⟩ := bindE h
  have c4 : F17 [.sl 1 (rows ci_i64 a.price_)] = some (.own 1 (rows ci_i64 r3)) := tells_eq inj17 (a := a.price_) q4
  refine VW.evalA (C := [(17, F17)]) (tm 28 [(1, .ptr 0 0 0), (2, .ptr 1 0 0), (3, .ptr 2 0 0)]) [some (7, [(pT24 a)]), some (7, [[.nil, .nil, .i .i64 0, .i .i64 0, .i .i64 0, .i .i64 0, .i .i64 0]]), some (7, [[.ref 3 0 r1.length, .ref 4 0 r3.length, .i .i64 0, .i .i64 0, .i .i64 0, .i .i64 0, .i .i64 0]]), some (1, rows ci_i64 r1), some (1, rows ci_i64 r3)] [] ⟨.inl ok17, trivial⟩ (by kernel_rfl) (by simp -implicitDefEqProofs [c4]) ?_
  refine VW.seq ?_
  refine VW.evalA (C := [(17, F17)]) (tm 28 [(1, .ptr 0 0 0), (2, .ptr 1 0 0), (3, .ptr 2 0 0)]) [some (7, [(pT24 a)]), some (7, [[.nil, .nil, .i .i64 0, .i .i64 0, .i .i64 0, .i .i64 0, .i .i64 0]]), some (7, [[.ref 3 0 r1.length, .ref 4 0 r3.length, .i .i64 a.most_, .i .i64 0, .i .i64 0, .i .i64 0, .i .i64 0]]), some (1, rows ci_i64 r1), some (1, rows ci_i64 r3)] [] ⟨.inl ok17, trivial⟩ (by kernel_rfl) (by simp -implicitDefEqProofs) ?_
  refine VW.seq ?_
  refine VW.evalA (C := [(17, F17)]) (tm 28 [(1, .ptr 0 0 0), (2, .ptr 1 0 0), (3, .ptr 2 0 0)]) [some (7, [(pT24 a)]), some (7, [[.nil, .nil, .i .i64 0, .i .i64 0, .i .i64 0, .i .i64 0, .i .i64 0]]), some (7, [[.ref 3 0 r1.length, .ref 4 0 r3.length, .i .i64 a.most_, .i .i64 a.yield_, .i .i64 0, .i .i64 0, .i .i64 0]]), some (1, rows ci_i64 r1), some (1, rows ci_i64 r3)] [] ⟨.inl ok17, trivial⟩ (by kernel_rfl) (by simp -implicitDefEqProofs) ?_
  refine VW.seq ?_
  refine VW.evalA (C := [(17, F17)]) (tm 28 [(1, .ptr 0 0 0), (2, .ptr 1 0 0), (3, .ptr 2 0 0)]) [some (7, [(pT24 a)]), some (7, [[.nil, .nil, .i .i64 0, .i .i64 0, .i .i64 0, .i .i64 0, .i .i64 0]]), some (7, [[.ref 3 0 r1.length, .ref 4 0 r3.length, .i .i64 a.most_, .i .i64 a.yield_, .i .i64 a.store_, .i .i64 0, .i .i64 0]]), some (1, rows ci_i64 r1), some (1, rows ci_i64 r3)] [] ⟨.inl ok17, trivial⟩ (by kernel_rfl) (by simp -implicitDefEqProofs) ?_
  refine VW.seq ?_
  refine VW.evalA (C := [(17, F17)]) (tm 28 [(1, .ptr 0 0 0), (2, .ptr 1 0 0), (3, .ptr 2 0 0)]) [some (7, [(pT24 a)]), some (7, [[.nil, .nil, .i .i64 0, .i .i64 0, .i .i64 0, .i .i64 0, .i .i64 0]]), some (7, [[.ref 3 0 r1.length, .ref 4 0 r3.length, .i .i64 a.most_, .i .i64 a.yield_, .i .i64 a.store_, .i .i64 a.first_, .i .i64 0]]), some (1, rows ci_i64 r1), some (1, rows ci_i64 r3)] [] ⟨.inl ok17, trivial⟩ (by kernel_rfl) (by simp -implicitDefEqProofs) ?_
  refine VW.seq ?_
  refine VW.evalA (C := [(17, F17)]) (tm 28 [(2, .ptr 1 0 0), (3, .ptr 2 0 0)]) [some (7, [(pT24 a)]), some (7, [[.nil, .nil, .i .i64 0, .i .i64 0, .i .i64 0, .i .i64 0, .i .i64 0]]), some (7, [[.ref 3 0 r1.length, .ref 4 0 r3.length, .i .i64 a.most_, .i .i64 a.yield_, .i .i64 a.store_, .i .i64 a.first_, .i .i64 a.loss_]]), some (1, rows ci_i64 r1), some (1, rows ci_i64 r3)] [] ⟨.inl ok17, trivial⟩ (by kernel_rfl) (by simp -implicitDefEqProofs) ?_
  refine VW.seq ?_
  refine VW.evalA (C := [(17, F17)]) (tm 28 [(2, .ptr 1 0 0)]) [some (7, [(pT24 a)]), some (7, [[.ref 3 0 r1.length, .ref 4 0 r3.length, .i .i64 a.most_, .i .i64 a.yield_, .i .i64 a.store_, .i .i64 a.first_, .i .i64 a.loss_]]), some (7, [[.ref 3 0 r1.length, .ref 4 0 r3.length, .i .i64 a.most_, .i .i64 a.yield_, .i .i64 a.store_, .i .i64 a.first_, .i .i64 a.loss_]]), some (1, rows ci_i64 r1), some (1, rows ci_i64 r3)] [] ⟨.inl ok17, trivial⟩ (by kernel_rfl) (by simp -implicitDefEqProofs) ?_
  obtain rfl := leafS h
  refine VW.ret (VRet.fin ?_)
  simp [eB11]
noncomputable def g12_j1 (l28 : List (List Int)) : Option (List (List Int)) :=
  some l28
noncomputable def g12_L1 (a : List (List Int)) : (Int × (List (List Int))) → Option ((Int × (List (List Int))) ⊕ (List (List Int)))
  | (i_45, l46) =>
    if ltI i_45 (a.length : Int) = true then
      (idx a i_45).bind fun e48 =>
      (g17 e48).bind fun r50 =>
      (idx l46 i_45).bind fun e52 =>
      some (.inl (aI .i64 i_45 1, (l46.set i_45.toNat r50)))
    else
      some (.inr l46)
noncomputable def g12 (a : List (List Int)) : Option (List (List Int)) :=
  (mk 24 (a.length : Int)).bind fun u1 =>
  (loopO (g12_L1 a) (0, (List.replicate (a.length : Int).toNat ([] : List Int)))).bind fun w => g12_j1 w
def eA12 (a : List (List Int)) : List V := [.sl 1 (rows cl_ci_i64 a)]
def eB12 (r : List (List Int)) : V := .own 1 (rows cl_ci_i64o r)
theorem inj12 (a a' : List (List Int)) (h : eA12 a = eA12 a') : a = a' := by
  obtain i137 := a
  obtain i138 := a'
  simp only [eA12, List.cons.injEq, V.i.injEq, V.b.injEq, V.f.injEq, V.str.injEq, V.sl.injEq, V.agg.injEq, V.cptr.injEq, true_and, and_true] at h
  simp_all [ri cl_ci_i64_inj]
noncomputable def F12 : List V → Option V := tells (fun a => g12 a) eA12 eB12
set_option maxRecDepth 100000 in
set_option maxHeartbeats 4000000 in
/- loop.example/g01229/laws.toInt64SS -/
theorem ok12 : Tells Try.prog 12 F12 := by
  refine Tells.of (by kernel_rfl) ?_
  rintro a r h
  refine VCalls.nl (VCalls.of Try.func12 rfl rfl rfl ?_)
  rw [tm_init]
  simp only [eA12, en, List.length_cons, List.length_nil, Nat.reduceAdd, Nat.reduceSub]
  replace h : (g12 a).bind some = some r := bindS h
  rw [g12] at h
  refine VW.seq ?_
  refine VW.evalA (C := [(17, F17)]) (tm 23 [(0, .sl 1 (rows cl_ci_i64 a))]) [] [] ⟨.inl ok17, trivial⟩ (by kernel_rfl) (by simp -implicitDefEqProofs) ?_
  refine VW.seq ?_
  obtain ⟨u1, q2, h⟩ := bindE h
  obtain ⟨f2a, f2b, f2c⟩ := mk_some q2
  try simp only [Int.toNat_natCast, Int.reduceToNat, List.length_cons, List.length_nil, Nat.reduceAdd, Nat.zero_add] at f2a f2b f2c
  refine VW.evalE (C := [(17, F17)]) (tm 23 [(0, .sl 1 (rows cl_ci_i64 a)), (3, .ref 0 0 (List.replicate (a.length : Int).toNat ([] : List Int)).length)]) [some (1, List.replicate (a.length : Int).toNat [.nil])] [] ⟨.inl ok17, trivial⟩ (by kernel_rfl) (by simp -implicitDefEqProofs [f2a, f2b, f2c]) (Ent.nilown (m := [some (1, List.replicate (a.length : Int).toNat [.nil])]) 0 ((a.length : Int).toNat) 1 [some (1, rows cl_ci_i64o (List.replicate (a.length : Int).toNat ([] : List Int)))] (by simp) (by simp)) ?_
  refine VW.join (fun (v : List (List Int)) => (⟨(tm 23 [(3, .ref 0 0 v.length)]), [some (1, rows cl_ci_i64o v)], []⟩ : VS)) (fun v => (g12_j1 (v)).bind some = some r) ?_ ?_
  · refine VW.seq ?_
    refine VW.evalA (C := [(17, F17)]) (tm 23 [(0, .sl 1 (rows cl_ci_i64 a)), (3, .ref 0 0 (List.replicate (a.length : Int).toNat ([] : List Int)).length), (4, .i .i64 0)]) [some (1, rows cl_ci_i64o (List.replicate (a.length : Int).toNat ([] : List Int)))] [] ⟨.inl ok17, trivial⟩ (by kernel_rfl) (by simp -implicitDefEqProofs) ?_
    refine VW.block ?_
    obtain ⟨w_1, hw_1, h⟩ := bindE h
    refine VW.loopO (fun (x : Int × (List (List Int))) => (⟨(tm 23 [(0, .sl 1 (rows cl_ci_i64 a)), (3, .ref 0 0 x.2.length), (4, .i .i64 x.1)]), [some (1, rows cl_ci_i64o x.2)], []⟩ : VS)) hw_1 (Ent.to 1 (by simp [fgt]) (by simp) (by simp) (by simp [bndT, bndV]) (by simp [bndM, bndV])) ?_
    rintro n_1 ⟨i_45, l46⟩ h1
    rw [g12_L1] at h1
    refine VW.seq ?_
    refine VW.seq ?_
    refine VW.evalA (C := [(17, F17)]) (tm 23 [(0, .sl 1 (rows cl_ci_i64 a)), (3, .ref 0 0 l46.length), (4, .i .i64 i_45), (11, .b (ltI i_45 (a.length : Int)))]) [some (1, rows cl_ci_i64o l46)] [] ⟨.inl ok17, trivial⟩ (by kernel_rfl) (by simp -implicitDefEqProofs) ?_
    refine VW.condB (b := ltI i_45 (a.length : Int)) (by simp) (fun g47 => ?_) (fun g47 => ?_)
    · replace h1 := iteT g47 h1
      refine VW.skip ?_
      refine VW.seq ?_
      refine VW.block ?_
      obtain ⟨e48, q49, h1⟩ := bindE h1
      obtain ⟨f49a, f49b, f49c, f49d⟩ := idx_some q49
      obtain ⟨r50, q51, h1⟩ := bindE h1
      have c51 : F17 [.sl 1 (rows ci_i64 e48)] = some (.own 1 (rows ci_i64 r50)) := tells_eq inj17 (a := e48) q51
      obtain ⟨e52, q53, h1⟩ := bindE h1
      obtain ⟨f53a, f53b, f53c, f53d⟩ := idx_some q53
      refine VW.evalE (C := [(17, F17)]) (tm 23 [(0, .sl 1 (rows cl_ci_i64 a)), (3, .ref 0 0 l46.length), (4, .i .i64 i_45)]) [some (1, (rows cl_ci_i64o l46).set i_45.toNat [.ref 1 0 r50.length]), some (1, rows ci_i64 r50)] [] ⟨.inl ok17, trivial⟩ (by kernel_rfl) (by simp -implicitDefEqProofs [f49a, f49b, f49c, f49d, c51, f53a, f53b, f53c, f53d]) (Ent.absorb (m := [some (1, (rows cl_ci_i64o l46).set i_45.toNat [.ref 1 0 r50.length]), some (1, rows ci_i64 r50)]) (n := 1) (n' := 1) (es := (rows cl_ci_i64o l46).set i_45.toNat [.ref 1 0 r50.length]) (es' := rows ci_i64 r50) (cs := [.ref 1 0 r50.length]) 0 i_45.toNat 0 1 r50.length [some (1, rows cl_ci_i64o (l46.set i_45.toNat r50)), none] rfl (by simp [f53a, f53b, f53c, f53d]) rfl rfl (by decide) (by simp) (by simp) (by simp)) ?_
      refine VW.evalA (C := [(17, F17)]) (tm 23 [(0, .sl 1 (rows cl_ci_i64 a)), (3, .ref 0 0 (l46.set i_45.toNat r50).length), (4, .i .i64 (aI .i64 i_45 1))]) [some (1, rows cl_ci_i64o (l46.set i_45.toNat r50)), none] [] ⟨.inl ok17, trivial⟩ (by kernel_rfl) (by simp -implicitDefEqProofs) ?_
      exact (show ∃ _, _ from ⟨(aI .i64 i_45 1, (l46.set i_45.toNat r50)), leafL h1, (Ent.to 1 (by simp [fgt]) (by simp) (by simp) (by simp [bndT, bndV]) (by simp [bndM, bndV]))⟩)
    · replace h1 := iteF g47 h1
      refine VW.exit ?_
      have e_ := leafR h1
      subst w_1
      exact (show ∃ _, _ from ⟨l46, h, (Ent.to 1 (by simp [fgt]) (by simp) (by simp) (by simp [bndT, bndV]) (by simp [bndM, bndV]))⟩)
  · rintro l28 h
    replace h : (g12_j1 l28).bind _ = _ := h
    rw [g12_j1] at h
    refine VW.seq ?_
    refine VW.evalA (C := [(17, F17)]) (tm 23 [(2, .ref 0 0 l28.length)]) [some (1, rows cl_ci_i64o l28)] [] ⟨.inl ok17, trivial⟩ (by kernel_rfl) (by simp -implicitDefEqProofs) ?_
    obtain rfl := leafS h
    refine VW.ret (VRet.fin ?_)
    simp [eB12]
noncomputable def g42_j1 (s : T24) : Option (Bool) :=
  some (((((((((leI 0 s.most_ && leI s.most_ 20) && leI 1 s.yield_) && leI s.yield_ 40) && leI 0 s.store_) && leI s.store_ 60) && leI 0 s.first_) && leI s.first_ s.store_) && leI 0 s.loss_) && leI s.loss_ 100)
noncomputable def g42_L1 (s : T24) : (Int) → Option ((Int) ⊕ ((Unit) ⊕ (Bool)))
  | x_115 =>
    if ltI x_115 (s.need_.length : Int) = true then
      (idx s.need_ x_115).bind fun e117 =>
      (if (ltI e117 0 || ltI 200 e117) = true then some true else (idx s.price_ x_115).bind fun e119 => some (ltI e119 0)).bind fun w121 =>
      (if w121 = true then some true else (idx s.price_ x_115).bind fun e122 => some (ltI 1000 e122)).bind fun w124 =>
      if w124 = true then
        some (.inr (.inr false))
      else
        some (.inl (aI .i64 x_115 1))
    else
      some (.inr (.inl ()))
noncomputable def g42 (s : T24) : Option (Bool) :=
  if ((ltI (s.need_.length : Int) 1 || ltI 24 (s.need_.length : Int)) || (!eqI (s.price_.length : Int) (s.need_.length : Int))) = true then
    some false
  else
    (loopO (g42_L1 s) 0).bind fun w => match w with
      | .inl y => g42_j1 s
      | .inr r => some r
def eA42 (a : T24) : List V := [.agg (pT24 a)]
def eB42 (r : Bool) : V := .b r
theorem inj42 (a a' : T24) (h : eA42 a = eA42 a') : a = a' := by
  obtain ⟨i139, i140, i141, i142, i143, i144, i145⟩ := a
  obtain ⟨i146, i147, i148, i149, i150, i151, i152⟩ := a'
  simp only [eA42, pT24, List.cons.injEq, V.i.injEq, V.b.injEq, V.f.injEq, V.str.injEq, V.sl.injEq, V.agg.injEq, V.cptr.injEq, true_and, and_true] at h
  simp_all [ri ci_i64_inj]
noncomputable def F42 : List V → Option V := tells (fun a => g42 a) eA42 eB42
set_option maxRecDepth 100000 in
set_option maxHeartbeats 4000000 in
/- loop.example/g01229/impl.ValidSeason -/
theorem ok42 : Tells Try.prog 42 F42 := by
  refine Tells.of (by kernel_rfl) ?_
  rintro s r h
  refine VCalls.nl (VCalls.of Try.func42 rfl rfl rfl ?_)
  rw [tm_init]
  simp only [eA42, en, List.length_cons, List.length_nil, Nat.reduceAdd, Nat.reduceSub]
  replace h : (g42 s).bind some = some r := bindS h
  rw [g42] at h
  refine VW.seq ?_
  refine VW.evalA (C := []) (tm 106 [(1, .ptr 0 0 0)]) [some (7, [(pT24 s)])] [] trivial (by kernel_rfl) (by simp -implicitDefEqProofs) ?_
  refine VW.seq ?_
  refine VW.evalA (C := []) (tm 106 [(1, .ptr 0 0 0), (3, .i .i64 (s.need_.length : Int))]) [some (7, [(pT24 s)])] [] trivial (by kernel_rfl) (by simp -implicitDefEqProofs) ?_
  refine VW.seq ?_
  refine VW.seq ?_
  refine VW.evalA (C := []) (tm 106 [(1, .ptr 0 0 0), (3, .i .i64 (s.need_.length : Int)), (20, .b ((ltI (s.need_.length : Int) 1 || ltI 24 (s.need_.length : Int)) || (!eqI (s.price_.length : Int) (s.need_.length : Int))))]) [some (7, [(pT24 s)])] [] trivial (by kernel_rfl) (by simp -implicitDefEqProofs) ?_
  refine VW.condB (b := ((ltI (s.need_.length : Int) 1 || ltI 24 (s.need_.length : Int)) || (!eqI (s.price_.length : Int) (s.need_.length : Int)))) (by simp) (fun g1 => ?_) (fun g1 => ?_)
  · replace h := iteT g1 h
    refine VW.seq ?_
    refine VW.evalA (C := []) (tm 106 [(2, .b false)]) [some (7, [(pT24 s)])] [] trivial (by kernel_rfl) (by simp -implicitDefEqProofs) ?_
    obtain rfl := leafS h
    refine VW.ret (VRet.fin ?_)
    simp [eB42]
  · replace h := iteF g1 h
    refine VW.skip ?_
    refine VW.join (fun (v : Unit) => (⟨(tm 106 [(1, .ptr 0 0 0)]), [some (7, [(pT24 s)])], []⟩ : VS)) (fun v => (g42_j1 s).bind some = some r) ?_ ?_
    · refine VW.seq ?_
      refine VW.evalA (C := []) (tm 106 [(1, .ptr 0 0 0), (21, .i .i64 (s.need_.length : Int)), (22, .i .i64 0)]) [some (7, [(pT24 s)])] [] trivial (by kernel_rfl) (by simp -implicitDefEqProofs) ?_
      refine VW.block ?_
      obtain ⟨w_1, hw_1, h⟩ := bindE h
      refine VW.loopO (fun (x : Int) => (⟨(tm 106 [(1, .ptr 0 0 0), (21, .i .i64 (s.need_.length : Int)), (22, .i .i64 x)]), [some (7, [(pT24 s)])], []⟩ : VS)) hw_1 (Ent.to 1 (by simp [fgt]) (by first | (simp; done) | simp [pT24]) (by simp) (by simp [bndT, bndV]) (by simp [bndM, bndV])) ?_
      rintro n_1 x_115 h1
      rw [g42_L1] at h1
      refine VW.seq ?_
      refine VW.evalA (C := []) (tm 106 [(1, .ptr 0 0 0), (21, .i .i64 (s.need_.length : Int)), (22, .i .i64 x_115), (23, .b (ltI x_115 (s.need_.length : Int)))]) [some (7, [(pT24 s)])] [] trivial (by kernel_rfl) (by simp -implicitDefEqProofs) ?_
      refine VW.seq ?_
      refine VW.condB (b := ltI x_115 (s.need_.length : Int)) (by simp) (fun g116 => ?_) (fun g116 => ?_)
      · replace h1 := iteT g116 h1
        refine VW.skip ?_
        refine VW.seq ?_
        refine VW.block ?_
        refine VW.seq ?_
        refine VW.evalA (C := []) (tm 106 [(1, .ptr 0 0 0), (4, .i .i64 x_115), (21, .i .i64 (s.need_.length : Int)), (22, .i .i64 x_115)]) [some (7, [(pT24 s)])] [] trivial (by kernel_rfl) (by simp -implicitDefEqProofs) ?_
        refine VW.seq ?_
        obtain ⟨e117, q118, h1⟩ := bindE h1
        obtain ⟨f118a, f118b, f118c, f118d⟩ := idx_some q118
        obtain ⟨w121, q126, h1⟩ := bindE h1
        obtain ⟨w124, q127, h1⟩ := bindE h1
        refine VW.evalA (C := []) (tm 106 [(1, .ptr 0 0 0), (21, .i .i64 (s.need_.length : Int)), (22, .i .i64 x_115), (54, .b w124)]) [some (7, [(pT24 s)])] [] trivial (by kernel_rfl) (by
            rcases Bool.eq_false_or_eq_true (ltI e117 0 || ltI 200 e117) with q128 | q128
            · first
              | (simp at q128; done)
              | (rw [if_pos q128] at q126
                 have d129 : w121 = _ := (Option.some.inj q126).symm
                 rcases Bool.eq_false_or_eq_true w121 with q130 | q130
                 · first
                   | (simp [d129] at q130; done)
                   | (rw [if_pos q130] at q127
                      try simp only [d129] at q130
                      have d131 : w124 = _ := (Option.some.inj q127).symm
                      simp -implicitDefEqProofs [f118a, f118b, f118c, f118d, q128, d129, q130, d131])
                 · first
                   | (simp [d129] at q130; done)
                   | (rw [if_neg (by rw [q130]; exact Bool.false_ne_true)] at q127
                      try simp only [d129] at q130
                      obtain ⟨e122, q123, q127⟩ := bindQ q127
                      obtain ⟨f123a, f123b, f123c, f123d⟩ := idx_some q123
                      have d132 : w124 = _ := (Option.some.inj q127).symm
                      simp -implicitDefEqProofs [f118a, f118b, f118c, f118d, q128, d129, q130, f123a, f123b, f123c, f123d, d132]))
            · first
              | (simp at q128; done)
              | (rw [if_neg (by rw [q128]; exact Bool.false_ne_true)] at q126
                 obtain ⟨e119, q120, q126⟩ := bindQ q126
                 obtain ⟨f120a, f120b, f120c, f120d⟩ := idx_some q120
                 have d133 : w121 = _ := (Option.some.inj q126).symm
                 rcases Bool.eq_false_or_eq_true w121 with q134 | q134
                 · first
                   | (simp [d133] at q134; done)
                   | (rw [if_pos q134] at q127
                      try simp only [d133] at q134
                      have d135 : w124 = _ := (Option.some.inj q127).symm
                      simp -implicitDefEqProofs [f118a, f118b, f118c, f118d, q128, f120a, f120b, f120c, f120d, d133, q134, d135])
                 · first
                   | (simp [d133] at q134; done)
                   | (rw [if_neg (by rw [q134]; exact Bool.false_ne_true)] at q127
                      try simp only [d133] at q134
                      obtain ⟨e122, q123, q127⟩ := bindQ q127
                      have d136 : e122 = e119 := Option.some.inj (q123.symm.trans q120)
                      have d137 : w124 = _ := (Option.some.inj q127).symm
                      simp -implicitDefEqProofs [f118a, f118b, f118c, f118d, q128, f120a, f120b, f120c, f120d, d133, q134, d136, d137]))) ?_
        refine VW.condB (b := w124) (by simp) (fun g125 => ?_) (fun g125 => ?_)
        · replace h1 := iteT g125 h1
          refine VW.seq ?_
          refine VW.evalA (C := []) (tm 106 [(2, .b false)]) [some (7, [(pT24 s)])] [] trivial (by kernel_rfl) (by simp -implicitDefEqProofs) ?_
          have e_ := leafR h1
          subst w_1
          obtain rfl := leafS h
          refine VW.ret (VRet.fin ?_)
          simp [eB42]
        · replace h1 := iteF g125 h1
          refine VW.skip ?_
          refine VW.evalA (C := []) (tm 106 [(1, .ptr 0 0 0), (21, .i .i64 (s.need_.length : Int)), (22, .i .i64 (aI .i64 x_115 1))]) [some (7, [(pT24 s)])] [] trivial (by kernel_rfl) (by simp -implicitDefEqProofs) ?_
          exact (show ∃ _, _ from ⟨aI .i64 x_115 1, leafL h1, (Ent.to 1 (by simp [fgt]) (by first | (simp; done) | simp [pT24]) (by simp) (by simp [bndT, bndV]) (by simp [bndM, bndV]))⟩)
      · replace h1 := iteF g116 h1
        refine VW.exit ?_
        have e_ := leafR h1
        subst w_1
        exact (show ∃ _, _ from ⟨(), h, (Ent.to 1 (by simp [fgt]) (by first | (simp; done) | simp [pT24]) (by simp) (by simp [bndT, bndV]) (by simp [bndM, bndV]))⟩)
    · rintro _ h
      replace h : (g42_j1 s).bind _ = _ := h
      rw [g42_j1] at h
      refine VW.seq ?_
      refine VW.evalA (C := []) (tm 106 [(2, .b (((((((((leI 0 s.most_ && leI s.most_ 20) && leI 1 s.yield_) && leI s.yield_ 40) && leI 0 s.store_) && leI s.store_ 60) && leI 0 s.first_) && leI s.first_ s.store_) && leI 0 s.loss_) && leI s.loss_ 100))]) [some (7, [(pT24 s)])] [] trivial (by kernel_rfl) (by simp -implicitDefEqProofs) ?_
      obtain rfl := leafS h
      refine VW.ret (VRet.fin ?_)
      simp [eB42]
noncomputable def g43_j1 : Option (Bool) :=
  some true
noncomputable def g43_j2 (x_180 : Int) : Option ((Int) ⊕ ((Unit) ⊕ (Bool))) :=
  some (.inl (aI .i64 x_180 1))
noncomputable def g43_L2 (e199 : List Int) (x_180 : Int) (s : T24) : (Int) → Option ((Int) ⊕ ((Unit) ⊕ ((Int) ⊕ ((Unit) ⊕ (Bool)))))
  | x_211 =>
    if ltI x_211 (e199.length : Int) = true then
      (idx e199 x_211).bind fun e213 =>
      if (ltI e213 (-1) || (eqI x_180 (s.need_.length : Int) && (!eqI e213 0))) = true then
        some (.inr (.inr (.inr (.inr false))))
      else
        some (.inl (aI .i64 x_211 1))
    else
      some (.inr (.inl ()))
noncomputable def g43_L1 (table : List (List Int)) (s : T24) : (Int) → Option ((Int) ⊕ ((Unit) ⊕ (Bool)))
  | x_180 =>
    if ltI x_180 (table.length : Int) = true then
      (idx table x_180).bind fun e199 =>
      if (!eqI (e199.length : Int) (aI .i64 s.store_ 1)) = true then
        some (.inr (.inr false))
      else
        (loopO (g43_L2 e199 x_180 s) 0).bind fun w => match w with
          | .inl y => g43_j2 x_180
          | .inr r => some r
    else
      some (.inr (.inl ()))
noncomputable def g43 (s : T24) (table : List (List Int)) : Option (Bool) :=
  if (!eqI (table.length : Int) (aI .i64 (s.need_.length : Int) 1)) = true then
    some false
  else
    (loopO (g43_L1 table s) 0).bind fun w => match w with
      | .inl y => g43_j1
      | .inr r => some r
def eA43 (a : T24 × (List (List Int))) : List V := [.agg (pT24 a.1), .sl 1 (rows cl_ci_i64 a.2)]
def eB43 (r : Bool) : V := .b r
theorem inj43 (a a' : T24 × (List (List Int))) (h : eA43 a = eA43 a') : a = a' := by
  obtain ⟨⟨i153, i154, i155, i156, i157, i158, i159⟩, i160⟩ := a
  obtain ⟨⟨i161, i162, i163, i164, i165, i166, i167⟩, i168⟩ := a'
  simp only [eA43, pT24, List.cons.injEq, V.i.injEq, V.b.injEq, V.f.injEq, V.str.injEq, V.sl.injEq, V.agg.injEq, V.cptr.injEq, true_and, and_true] at h
  simp_all [ri ci_i64_inj, ri cl_ci_i64_inj]
noncomputable def F43 : List V → Option V := tells (fun a => g43 a.1 a.2) eA43 eB43
set_option maxRecDepth 100000 in
set_option maxHeartbeats 4000000 in
/- loop.example/g01229/impl.isTable -/
theorem ok43 : Tells Try.prog 43 F43 := by
  refine Tells.of (by kernel_rfl) ?_
  rintro ⟨s, table⟩ r h
  refine VCalls.nl (VCalls.of Try.func43 rfl rfl rfl ?_)
  rw [tm_init]
  simp only [eA43, en, List.length_cons, List.length_nil, Nat.reduceAdd, Nat.reduceSub]
  replace h : (g43 s table).bind some = some r := bindS h
  rw [g43] at h
  refine VW.seq ?_
  refine VW.evalA (C := []) (tm 50 [(1, .sl 1 (rows cl_ci_i64 table)), (2, .ptr 0 0 0)]) [some (7, [(pT24 s)])] [] trivial (by kernel_rfl) (by simp -implicitDefEqProofs) ?_
  refine VW.seq ?_
  refine VW.evalA (C := []) (tm 50 [(1, .sl 1 (rows cl_ci_i64 table)), (2, .ptr 0 0 0), (5, .i .i64 (s.need_.length : Int))]) [some (7, [(pT24 s)])] [] trivial (by kernel_rfl) (by simp -implicitDefEqProofs) ?_
  refine VW.seq ?_
  refine VW.seq ?_
  refine VW.evalA (C := []) (tm 50 [(1, .sl 1 (rows cl_ci_i64 table)), (2, .ptr 0 0 0), (5, .i .i64 (s.need_.length : Int)), (17, .b (!eqI (table.length : Int) (aI .i64 (s.need_.length : Int) 1)))]) [some (7, [(pT24 s)])] [] trivial (by kernel_rfl) (by simp -implicitDefEqProofs) ?_
  refine VW.condB (b := (!eqI (table.length : Int) (aI .i64 (s.need_.length : Int) 1))) (by simp) (fun g1 => ?_) (fun g1 => ?_)
  · replace h := iteT g1 h
    refine VW.seq ?_
    refine VW.evalA (C := []) (tm 50 [(4, .b false)]) [some (7, [(pT24 s)])] [] trivial (by kernel_rfl) (by simp -implicitDefEqProofs) ?_
    obtain rfl := leafS h
    refine VW.ret (VRet.fin ?_)
    simp [eB43]
  · replace h := iteF g1 h
    refine VW.skip ?_
    refine VW.join (fun (v : Unit) => (⟨(tm 50 []), [some (7, [(pT24 s)])], []⟩ : VS)) (fun v => (g43_j1).bind some = some r) ?_ ?_
    · refine VW.seq ?_
      refine VW.evalA (C := []) (tm 50 [(2, .ptr 0 0 0), (5, .i .i64 (s.need_.length : Int)), (18, .sl 1 (rows cl_ci_i64 table)), (19, .i .i64 (table.length : Int)), (20, .i .i64 0)]) [some (7, [(pT24 s)])] [] trivial (by kernel_rfl) (by simp -implicitDefEqProofs) ?_
      refine VW.block ?_
      obtain ⟨w_1, hw_1, h⟩ := bindE h
      refine VW.loopO (fun (x : Int) => (⟨(tm 50 [(2, .ptr 0 0 0), (5, .i .i64 (s.need_.length : Int)), (18, .sl 1 (rows cl_ci_i64 table)), (19, .i .i64 (table.length : Int)), (20, .i .i64 x)]), [some (7, [(pT24 s)])], []⟩ : VS)) hw_1 (Ent.to 1 (by simp [fgt]) (by first | (simp; done) | simp [pT24]) (by simp) (by simp [bndT, bndV]) (by simp [bndM, bndV])) ?_
      rintro n_1 x_180 h1
      rw [g43_L1] at h1
      refine VW.seq ?_
      refine VW.evalA (C := []) (tm 50 [(2, .ptr 0 0 0), (5, .i .i64 (s.need_.length : Int)), (18, .sl 1 (rows cl_ci_i64 table)), (19, .i .i64 (table.length : Int)), (20, .i .i64 x_180), (21, .b (ltI x_180 (table.length : Int)))]) [some (7, [(pT24 s)])] [] trivial (by kernel_rfl) (by simp -implicitDefEqProofs) ?_
      refine VW.seq ?_
      refine VW.condB (b := ltI x_180 (table.length : Int)) (by simp) (fun g181 => ?_) (fun g181 => ?_)
      · replace h1 := iteT g181 h1
        refine VW.skip ?_
        refine VW.join (fun (v : Unit) => (⟨(tm 50 [(2, .ptr 0 0 0), (5, .i .i64 (s.need_.length : Int)), (18, .sl 1 (rows cl_ci_i64 table)), (19, .i .i64 (table.length : Int)), (20, .i .i64 x_180)]), [some (7, [(pT24 s)])], []⟩ : VS)) (fun v => (g43_j2 x_180).bind (kN (g43_L1 table s) n_1) = some w_1) ?_ ?_
        · refine VW.block ?_
          refine VW.seq ?_
          obtain ⟨e199, q200, h1⟩ := bindE h1
          obtain ⟨f200a, f200b, f200c, f200d⟩ := idx_some q200
          refine VW.evalA (C := []) (tm 50 [(2, .ptr 0 0 0), (5, .i .i64 (s.need_.length : Int)), (6, .i .i64 x_180), (7, .sl 1 (rows ci_i64 e199)), (18, .sl 1 (rows cl_ci_i64 table)), (19, .i .i64 (table.length : Int)), (20, .i .i64 x_180)]) [some (7, [(pT24 s)])] [] trivial (by kernel_rfl) (by simp -implicitDefEqProofs [f200a, f200b, f200c, f200d]) ?_
          refine VW.seq ?_
          refine VW.seq ?_
          refine VW.evalA (C := []) (tm 50 [(2, .ptr 0 0 0), (5, .i .i64 (s.need_.length : Int)), (6, .i .i64 x_180), (7, .sl 1 (rows ci_i64 e199)), (18, .sl 1 (rows cl_ci_i64 table)), (19, .i .i64 (table.length : Int)), (20, .i .i64 x_180), (30, .b (!eqI (e199.length : Int) (aI .i64 s.store_ 1)))]) [some (7, [(pT24 s)])] [] trivial (by kernel_rfl) (by simp -implicitDefEqProofs) ?_
          refine VW.condB (b := (!eqI (e199.length : Int) (aI .i64 s.store_ 1))) (by simp) (fun g201 => ?_) (fun g201 => ?_)
          · replace h1 := iteT g201 h1
            refine VW.seq ?_
            refine VW.evalA (C := []) (tm 50 [(4, .b false)]) [some (7, [(pT24 s)])] [] trivial (by kernel_rfl) (by simp -implicitDefEqProofs) ?_
            have e_ := leafR h1
            subst w_1
            obtain rfl := leafS h
            refine VW.ret (VRet.fin ?_)
            simp [eB43]
          · replace h1 := iteF g201 h1
            refine VW.skip ?_
            refine VW.seq ?_
            refine VW.evalA (C := []) (tm 50 [(2, .ptr 0 0 0), (5, .i .i64 (s.need_.length : Int)), (6, .i .i64 x_180), (18, .sl 1 (rows cl_ci_i64 table)), (19, .i .i64 (table.length : Int)), (20, .i .i64 x_180), (31, .sl 1 (rows ci_i64 e199)), (32, .i .i64 (e199.length : Int)), (33, .i .i64 0)]) [some (7, [(pT24 s)])] [] trivial (by kernel_rfl) (by simp -implicitDefEqProofs) ?_
            refine VW.block ?_
            obtain ⟨w_2, hw_2, h1⟩ := bindE h1
            refine VW.loopO (fun (x : Int) => (⟨(tm 50 [(2, .ptr 0 0 0), (5, .i .i64 (s.need_.length : Int)), (6, .i .i64 x_180), (18, .sl 1 (rows cl_ci_i64 table)), (19, .i .i64 (table.length : Int)), (20, .i .i64 x_180), (31, .sl 1 (rows ci_i64 e199)), (32, .i .i64 (e199.length : Int)), (33, .i .i64 x)]), [some (7, [(pT24 s)])], []⟩ : VS)) hw_2 (Ent.to 1 (by simp [fgt]) (by first | (simp; done) | simp [pT24]) (by simp) (by simp [bndT, bndV]) (by simp [bndM, bndV])) ?_
            rintro n_2 x_211 h2
            rw [g43_L2] at h2
            refine VW.seq ?_
            refine VW.evalA (C := []) (tm 50 [(2, .ptr 0 0 0), (5, .i .i64 (s.need_.length : Int)), (6, .i .i64 x_180), (18, .sl 1 (rows cl_ci_i64 table)), (19, .i .i64 (table.length : Int)), (20, .i .i64 x_180), (31, .sl 1 (rows ci_i64 e199)), (32, .i .i64 (e199.length : Int)), (33, .i .i64 x_211), (34, .b (ltI x_211 (e199.length : Int)))]) [some (7, [(pT24 s)])] [] trivial (by kernel_rfl) (by simp -implicitDefEqProofs) ?_
            refine VW.seq ?_
            refine VW.condB (b := ltI x_211 (e199.length : Int)) (by simp) (fun g212 => ?_) (fun g212 => ?_)
            · replace h2 := iteT g212 h2
              refine VW.skip ?_
              refine VW.seq ?_
              refine VW.block ?_
              refine VW.seq ?_
              obtain ⟨e213, q214, h2⟩ := bindE h2
              obtain ⟨f214a, f214b, f214c, f214d⟩ := idx_some q214
              refine VW.evalA (C := []) (tm 50 [(2, .ptr 0 0 0), (5, .i .i64 (s.need_.length : Int)), (6, .i .i64 x_180), (9, .i .i64 e213), (18, .sl 1 (rows cl_ci_i64 table)), (19, .i .i64 (table.length : Int)), (20, .i .i64 x_180), (31, .sl 1 (rows ci_i64 e199)), (32, .i .i64 (e199.length : Int)), (33, .i .i64 x_211)]) [some (7, [(pT24 s)])] [] trivial (by kernel_rfl) (by simp -implicitDefEqProofs [f214a, f214b, f214c, f214d]) ?_
              refine VW.seq ?_
              refine VW.evalA (C := []) (tm 50 [(2, .ptr 0 0 0), (5, .i .i64 (s.need_.length : Int)), (6, .i .i64 x_180), (18, .sl 1 (rows cl_ci_i64 table)), (19, .i .i64 (table.length : Int)), (20, .i .i64 x_180), (31, .sl 1 (rows ci_i64 e199)), (32, .i .i64 (e199.length : Int)), (33, .i .i64 x_211), (47, .b (ltI e213 (-1) || (eqI x_180 (s.need_.length : Int) && (!eqI e213 0))))]) [some (7, [(pT24 s)])] [] trivial (by kernel_rfl) (by simp -implicitDefEqProofs) ?_
              refine VW.condB (b := (ltI e213 (-1) || (eqI x_180 (s.need_.length : Int) && (!eqI e213 0)))) (by simp) (fun g215 => ?_) (fun g215 => ?_)
              · replace h2 := iteT g215 h2
                refine VW.seq ?_
                refine VW.evalA (C := []) (tm 50 [(4, .b false)]) [some (7, [(pT24 s)])] [] trivial (by kernel_rfl) (by simp -implicitDefEqProofs) ?_
                have e_ := leafR h2
                subst w_2
                have e_ := leafR h1
                subst w_1
                obtain rfl := leafS h
                refine VW.ret (VRet.fin ?_)
                simp [eB43]
              · replace h2 := iteF g215 h2
                refine VW.skip ?_
                refine VW.evalA (C := []) (tm 50 [(2, .ptr 0 0 0), (5, .i .i64 (s.need_.length : Int)), (6, .i .i64 x_180), (18, .sl 1 (rows cl_ci_i64 table)), (19, .i .i64 (table.length : Int)), (20, .i .i64 x_180), (31, .sl 1 (rows ci_i64 e199)), (32, .i .i64 (e199.length : Int)), (33, .i .i64 (aI .i64 x_211 1))]) [some (7, [(pT24 s)])] [] trivial (by kernel_rfl) (by simp -implicitDefEqProofs) ?_
                exact (show ∃ _, _ from ⟨aI .i64 x_211 1, leafL h2, (Ent.to 1 (by simp [fgt]) (by first | (simp; done) | simp [pT24]) (by simp) (by simp [bndT, bndV]) (by simp [bndM, bndV]))⟩)
            · replace h2 := iteF g212 h2
              refine VW.exit ?_
              have e_ := leafR h2
              subst w_2
              exact (show ∃ _, _ from ⟨(), h1, (Ent.to 1 (by simp [fgt]) (by first | (simp; done) | simp [pT24]) (by simp) (by simp [bndT, bndV]) (by simp [bndM, bndV]))⟩)
        · rintro _ h1
          replace h1 : (g43_j2 x_180).bind _ = _ := h1
          rw [g43_j2] at h1
          refine VW.evalA (C := []) (tm 50 [(2, .ptr 0 0 0), (5, .i .i64 (s.need_.length : Int)), (18, .sl 1 (rows cl_ci_i64 table)), (19, .i .i64 (table.length : Int)), (20, .i .i64 (aI .i64 x_180 1))]) [some (7, [(pT24 s)])] [] trivial (by kernel_rfl) (by simp -implicitDefEqProofs) ?_
          exact (show ∃ _, _ from ⟨aI .i64 x_180 1, leafL h1, (Ent.to 1 (by simp [fgt]) (by first | (simp; done) | simp [pT24]) (by simp) (by simp [bndT, bndV]) (by simp [bndM, bndV]))⟩)
      · replace h1 := iteF g181 h1
        refine VW.exit ?_
        have e_ := leafR h1
        subst w_1
        exact (show ∃ _, _ from ⟨(), h, (Ent.to 1 (by simp [fgt]) (by first | (simp; done) | simp [pT24]) (by simp) (by simp [bndT, bndV]) (by simp [bndM, bndV]))⟩)
    · rintro _ h
      replace h : (g43_j1).bind _ = _ := h
      rw [g43_j1] at h
      refine VW.seq ?_
      refine VW.evalA (C := []) (tm 50 [(4, .b true)]) [some (7, [(pT24 s)])] [] trivial (by kernel_rfl) (by simp -implicitDefEqProofs) ?_
      obtain rfl := leafS h
      refine VW.ret (VRet.fin ?_)
      simp [eB43]
noncomputable def g53 (s : T24) (slot : Int) (store : Int) (logs : Int) : Option (Int × Bool) :=
  (idx s.need_ slot).bind fun e1 =>
  if ltI (sI .i64 (aI .i64 store (mI .i64 logs s.yield_)) e1) 0 = true then
    some (0, false)
  else
    (dI .i64 (mI .i64 (sI .i64 (aI .i64 store (mI .i64 logs s.yield_)) e1) s.loss_) 100).bind fun d4 =>
    some (minI (sI .i64 (sI .i64 (aI .i64 store (mI .i64 logs s.yield_)) e1) d4) s.store_, true)
def eA53 (a : T24 × Int × Int × Int) : List V := [.agg (pT24 a.1), .i .i64 a.2.1, .i .i64 a.2.2.1, .i .i64 a.2.2.2]
def eB53 (r : Int × Bool) : V := .tup [.i .i64 r.1, .b r.2]
theorem inj53 (a a' : T24 × Int × Int × Int) (h : eA53 a = eA53 a') : a = a' := by
  obtain ⟨⟨i169, i170, i171, i172, i173, i174, i175⟩, i176, i177, i178⟩ := a
  obtain ⟨⟨i179, i180, i181, i182, i183, i184, i185⟩, i186, i187, i188⟩ := a'
  simp only [eA53, pT24, List.cons.injEq, V.i.injEq, V.b.injEq, V.f.injEq, V.str.injEq, V.sl.injEq, V.agg.injEq, V.cptr.injEq, true_and, and_true] at h
  simp_all [ri ci_i64_inj]
noncomputable def F53 : List V → Option V := tells (fun a => g53 a.1 a.2.1 a.2.2.1 a.2.2.2) eA53 eB53
set_option maxRecDepth 100000 in
set_option maxHeartbeats 4000000 in
/- loop.example/g01229/impl.after -/
theorem ok53 : Tells Try.prog 53 F53 := by
  refine Tells.of (by kernel_rfl) ?_
  rintro ⟨s, slot, store, logs⟩ r h
  refine VCalls.nl (VCalls.of Try.func53 rfl rfl rfl ?_)
  rw [tm_init]
  simp only [eA53, en, List.length_cons, List.length_nil, Nat.reduceAdd, Nat.reduceSub]
  replace h : (g53 s slot store logs).bind some = some r := bindS h
  rw [g53] at h
  refine VW.seq ?_
  refine VW.evalA (C := []) (tm 35 [(1, .i .i64 slot), (2, .i .i64 store), (3, .i .i64 logs), (4, .ptr 0 0 0)]) [some (7, [(pT24 s)])] [] trivial (by kernel_rfl) (by simp -implicitDefEqProofs [min_fold]) ?_
  refine VW.seq ?_
  obtain ⟨e1, q2, h⟩ := bindE h
  obtain ⟨f2a, f2b, f2c, f2d⟩ := idx_some q2
  refine VW.evalDA (C := []) (tm 35 [(4, .ptr 0 0 0), (10, .i .i64 (sI .i64 (aI .i64 store (mI .i64 logs s.yield_)) e1))]) [some (7, [(pT24 s)])] [] trivial mixed (by kernel_rfl) (by simp -implicitDefEqProofs [f2a, f2b, f2c, f2d, min_fold]) ?_
  refine VW.seq ?_
  refine VW.seq ?_
  refine VW.evalA (C := []) (tm 35 [(4, .ptr 0 0 0), (10, .i .i64 (sI .i64 (aI .i64 store (mI .i64 logs s.yield_)) e1)), (24, .b (ltI (sI .i64 (aI .i64 store (mI .i64 logs s.yield_)) e1) 0))]) [some (7, [(pT24 s)])] [] trivial (by kernel_rfl) (by simp -implicitDefEqProofs [min_fold]) ?_
  refine VW.condB (b := ltI (sI .i64 (aI .i64 store (mI .i64 logs s.yield_)) e1) 0) (by simp) (fun g3 => ?_) (fun g3 => ?_)
  · replace h := iteT g3 h
    refine VW.seq ?_
    refine VW.evalA (C := []) (tm 35 [(8, .i .i64 0), (9, .b false)]) [some (7, [(pT24 s)])] [] trivial (by kernel_rfl) (by simp -implicitDefEqProofs) ?_
    obtain rfl := leafS h
    refine VW.ret (VRet.fin ?_)
    simp [eB53]
  · replace h := iteF g3 h
    refine VW.skip ?_
    refine VW.seq ?_
    obtain ⟨d4, q5, h⟩ := bindE h
    refine VW.evalA (C := []) (tm 35 [(8, .i .i64 (minI (sI .i64 (sI .i64 (aI .i64 store (mI .i64 logs s.yield_)) e1) d4) s.store_)), (9, .b true)]) [some (7, [(pT24 s)])] [] trivial (by kernel_rfl) (by simp -implicitDefEqProofs [q5, min_fold]) ?_
    obtain rfl := leafS h
    refine VW.ret (VRet.fin ?_)
    simp [eB53]
end Go.Proofs.Ytiiejiobkfakeaa
