/- Contracts of the functions that the law reaches: what each tells, as a function in Lean. -/
import Derived.Test.YteggncgiflgopaaK11a
import Derived.KernelRfl
namespace Go.Proofs.Yteggncgiflgopaa
open Go.RowKit Go.VL
set_option linter.unusedSimpArgs false
set_option linter.unusedVariables false
noncomputable def g59_j1 : Option (Int × Int × Bool) :=
  some (0, 0, false)
noncomputable def g59_L1 (s : T24) (slot : Int) (store : Int) : (Int) → Option ((Int) ⊕ ((Unit) ⊕ (Int × Int × Bool)))
  | x_24 =>
    if ltI x_24 (aI .i64 s.most_ 1) = true then
      (g56 s slot store x_24).bind fun r26 =>
      if r26.2 = true then
        some (.inr (.inr (x_24, r26.1, true)))
      else
        some (.inl (aI .i64 x_24 1))
    else
      some (.inr (.inl ()))
noncomputable def g59 (s : T24) (slot : Int) (store : Int) : Option (Int × Int × Bool) :=
  (loopO (g59_L1 s slot store) 0).bind fun w => match w with
    | .inl y => g59_j1
    | .inr r => some r
def eA59 (a : T24 × Int × Int) : List V := [.agg [.sl 1 (rows ci_i64 a.1.need_), .sl 1 (rows ci_i64 a.1.price_), .i .i64 a.1.most_, .i .i64 a.1.yield_, .i .i64 a.1.store_, .i .i64 a.1.first_, .i .i64 a.1.loss_], .i .i64 a.2.1, .i .i64 a.2.2]
def eB59 (r : Int × Int × Bool) : V := .tup [.i .i64 r.1, .i .i64 r.2.1, .b r.2.2]
theorem inj59 (a a' : T24 × Int × Int) (h : eA59 a = eA59 a') : a = a' := by
  obtain ⟨⟨i475, i476, i477, i478, i479, i480, i481⟩, i482, i483⟩ := a
  obtain ⟨⟨i484, i485, i486, i487, i488, i489, i490⟩, i491, i492⟩ := a'
  simp only [eA59, List.cons.injEq, V.i.injEq, V.b.injEq, V.f.injEq, V.str.injEq, V.sl.injEq, V.agg.injEq, V.cptr.injEq, true_and, and_true] at h
  simp_all [ri ci_i64_inj]
noncomputable def F59 : List V → Option V := tells (fun a => g59 a.1 a.2.1 a.2.2) eA59 eB59
set_option maxRecDepth 100000 in
set_option maxHeartbeats 4000000 in
/- loop.example/g01229/impl.leastLogs -/
theorem ok59 : Tells Try.prog 59 F59 := by
  refine Tells.of (by kernel_rfl) ?_
  rintro ⟨s, slot, store⟩ r h
  refine VCalls.nl (VCalls.of Try.func59 rfl rfl rfl ?_)
  simp only [eA59, List.reduceReplicate, List.cons_append, List.nil_append, List.length_cons, List.length_nil, Nat.reduceAdd, Nat.reduceSub]
  replace h : (g59 s slot store).bind some = some r := bindS h
  rw [g59] at h
  refine VW.seq ?_
  refine VW.evalA (C := [(56, F56)]) (A :: (.i .i64 slot) :: (.i .i64 store) :: (.ptr 0 0 0) :: A :: A :: (A4 (A4 (A16 [])))) [some (7, [[.sl 1 (rows ci_i64 s.need_), .sl 1 (rows ci_i64 s.price_), .i .i64 s.most_, .i .i64 s.yield_, .i .i64 s.store_, .i .i64 s.first_, .i .i64 s.loss_]])] [] ⟨ok56, trivial⟩ (by kernel_rfl) (by simp) ?_
  refine VW.join (fun (v : Unit) => (⟨(A :: A :: (A4 (A4 (A4 (A16 []))))), [some (7, [[.sl 1 (rows ci_i64 s.need_), .sl 1 (rows ci_i64 s.price_), .i .i64 s.most_, .i .i64 s.yield_, .i .i64 s.store_, .i .i64 s.first_, .i .i64 s.loss_]])], []⟩ : VS)) (fun v => (g59_j1).bind some = some r) ?_ ?_
  · refine VW.seq ?_
    refine VW.evalA (C := [(56, F56)]) (A :: (.i .i64 slot) :: (.i .i64 store) :: (.ptr 0 0 0) :: A :: A :: (A4 (A4 ((.i .i64 (aI .i64 s.most_ 1)) :: (.i .i64 0) :: A :: A :: (A4 (A4 (A4 []))))))) [some (7, [[.sl 1 (rows ci_i64 s.need_), .sl 1 (rows ci_i64 s.price_), .i .i64 s.most_, .i .i64 s.yield_, .i .i64 s.store_, .i .i64 s.first_, .i .i64 s.loss_]])] [] ⟨ok56, trivial⟩ (by kernel_rfl) (by simp) ?_
    refine VW.block ?_
    obtain ⟨w_1, hw_1, h⟩ := bindE h
    refine VW.loopO (fun (x : Int) => (⟨(A :: (.i .i64 slot) :: (.i .i64 store) :: (.ptr 0 0 0) :: A :: A :: (A4 (A4 ((.i .i64 (aI .i64 s.most_ 1)) :: (.i .i64 x) :: A :: A :: (A4 (A4 (A4 []))))))), [some (7, [[.sl 1 (rows ci_i64 s.need_), .sl 1 (rows ci_i64 s.price_), .i .i64 s.most_, .i .i64 s.yield_, .i .i64 s.store_, .i .i64 s.first_, .i .i64 s.loss_]])], []⟩ : VS)) hw_1 (Ent.to 1 (by simp [fgt]) (by simp) (by simp) (by simp [bndT, bndV]) (by simp [bndM, bndV])) ?_
    rintro n_1 x_24 h1
    rw [g59_L1] at h1
    refine VW.seq ?_
    refine VW.evalA (C := [(56, F56)]) (A :: (.i .i64 slot) :: (.i .i64 store) :: (.ptr 0 0 0) :: A :: A :: (A4 (A4 ((.i .i64 (aI .i64 s.most_ 1)) :: (.i .i64 x_24) :: (.b (ltI x_24 (aI .i64 s.most_ 1))) :: A :: (A4 (A4 (A4 []))))))) [some (7, [[.sl 1 (rows ci_i64 s.need_), .sl 1 (rows ci_i64 s.price_), .i .i64 s.most_, .i .i64 s.yield_, .i .i64 s.store_, .i .i64 s.first_, .i .i64 s.loss_]])] [] ⟨ok56, trivial⟩ (by kernel_rfl) (by simp) ?_
    refine VW.seq ?_
    refine VW.condB (b := ltI x_24 (aI .i64 s.most_ 1)) rfl (fun g25 => ?_) (fun g25 => ?_)
    · replace h1 := iteT g25 h1
      refine VW.skip ?_
      refine VW.seq ?_
      refine VW.block ?_
      refine VW.seq ?_
      refine VW.evalA (C := [(56, F56)]) (A :: (.i .i64 slot) :: (.i .i64 store) :: (.ptr 0 0 0) :: A :: (A4 ((.i .i64 x_24) :: A4 ((.i .i64 (aI .i64 s.most_ 1)) :: (.i .i64 x_24) :: A :: A :: (A4 (A4 (A4 []))))))) [some (7, [[.sl 1 (rows ci_i64 s.need_), .sl 1 (rows ci_i64 s.price_), .i .i64 s.most_, .i .i64 s.yield_, .i .i64 s.store_, .i .i64 s.first_, .i .i64 s.loss_]])] [] ⟨ok56, trivial⟩ (by kernel_rfl) (by simp) ?_
      refine VW.seq ?_
      obtain ⟨r26, q27, h1⟩ := bindE h1
      have c27 : F56 [.agg [.sl 1 (rows ci_i64 s.need_), .sl 1 (rows ci_i64 s.price_), .i .i64 s.most_, .i .i64 s.yield_, .i .i64 s.store_, .i .i64 s.first_, .i .i64 s.loss_], .i .i64 slot, .i .i64 store, .i .i64 x_24] = some (.tup [.i .i64 r26.1, .b r26.2]) := tells_eq inj56 (a := (s, slot, store, x_24)) q27
      refine VW.evalA (C := [(56, F56)]) (A :: (.i .i64 slot) :: (.i .i64 store) :: (.ptr 0 0 0) :: A :: (A4 ((.i .i64 x_24) :: (.i .i64 r26.1) :: (.b r26.2) :: A :: A :: (.i .i64 (aI .i64 s.most_ 1)) :: (.i .i64 x_24) :: A :: A :: (A4 (A4 (A4 [])))))) [some (7, [[.sl 1 (rows ci_i64 s.need_), .sl 1 (rows ci_i64 s.price_), .i .i64 s.most_, .i .i64 s.yield_, .i .i64 s.store_, .i .i64 s.first_, .i .i64 s.loss_]])] [] ⟨ok56, trivial⟩ (by kernel_rfl) (by simp [c27]) ?_
      refine VW.seq ?_
      refine VW.evalA (C := [(56, F56)]) (A :: (.i .i64 slot) :: (.i .i64 store) :: (.ptr 0 0 0) :: A :: (A4 ((.i .i64 x_24) :: (.i .i64 r26.1) :: A :: A :: A :: (.i .i64 (aI .i64 s.most_ 1)) :: (.i .i64 x_24) :: A :: A :: (A4 (A4 ((.b r26.2) :: A :: A :: A :: [])))))) [some (7, [[.sl 1 (rows ci_i64 s.need_), .sl 1 (rows ci_i64 s.price_), .i .i64 s.most_, .i .i64 s.yield_, .i .i64 s.store_, .i .i64 s.first_, .i .i64 s.loss_]])] [] ⟨ok56, trivial⟩ (by kernel_rfl) (by simp) ?_
      refine VW.condB (b := r26.2) rfl (fun g28 => ?_) (fun g28 => ?_)
      · replace h1 := iteT g28 h1
        refine VW.seq ?_
        refine VW.evalA (C := [(56, F56)]) (A :: A :: (A4 ((.i .i64 x_24) :: (.i .i64 r26.1) :: (.b true) :: A :: (A4 (A16 []))))) [some (7, [[.sl 1 (rows ci_i64 s.need_), .sl 1 (rows ci_i64 s.price_), .i .i64 s.most_, .i .i64 s.yield_, .i .i64 s.store_, .i .i64 s.first_, .i .i64 s.loss_]])] [] ⟨ok56, trivial⟩ (by kernel_rfl) (by simp) ?_
        have e_ := leafR h1
        subst w_1
        obtain rfl := leafS h
        refine VW.ret (VRet.fin ?_)
        simp [eB59]
      · replace h1 := iteF g28 h1
        refine VW.skip ?_
        refine VW.evalA (C := [(56, F56)]) (A :: (.i .i64 slot) :: (.i .i64 store) :: (.ptr 0 0 0) :: A :: A :: (A4 (A4 ((.i .i64 (aI .i64 s.most_ 1)) :: (.i .i64 (aI .i64 x_24 1)) :: A :: A :: (A4 (A4 (A4 []))))))) [some (7, [[.sl 1 (rows ci_i64 s.need_), .sl 1 (rows ci_i64 s.price_), .i .i64 s.most_, .i .i64 s.yield_, .i .i64 s.store_, .i .i64 s.first_, .i .i64 s.loss_]])] [] ⟨ok56, trivial⟩ (by kernel_rfl) (by simp) ?_
        exact (show ∃ _, _ from ⟨aI .i64 x_24 1, leafL h1, (Ent.to 1 (by simp [fgt]) (by simp) (by simp) (by simp [bndT, bndV]) (by simp [bndM, bndV]))⟩)
    · replace h1 := iteF g25 h1
      refine VW.exit ?_
      have e_ := leafR h1
      subst w_1
      exact (show ∃ _, _ from ⟨(), h, (Ent.to 1 (by simp [fgt]) (by simp) (by simp) (by simp [bndT, bndV]) (by simp [bndM, bndV]))⟩)
  · rintro _ h
    replace h : (g59_j1).bind _ = _ := h
    rw [g59_j1] at h
    refine VW.seq ?_
    refine VW.evalA (C := [(56, F56)]) (A :: A :: (A4 ((.i .i64 0) :: (.i .i64 0) :: (.b false) :: A :: (A4 (A16 []))))) [some (7, [[.sl 1 (rows ci_i64 s.need_), .sl 1 (rows ci_i64 s.price_), .i .i64 s.most_, .i .i64 s.yield_, .i .i64 s.store_, .i .i64 s.first_, .i .i64 s.loss_]])] [] ⟨ok56, trivial⟩ (by kernel_rfl) (by simp) ?_
    obtain rfl := leafS h
    refine VW.ret (VRet.fin ?_)
    simp [eB59]
noncomputable def g32_j1 (k_17 : Int) : Option (Int) :=
  some k_17
noncomputable def g32_L1 (a : List Int) : (Int × Int) → Option ((Int × Int) ⊕ ((Int) ⊕ (Int)))
  | (k_28, i_29) =>
    if ltI i_29 (a.length : Int) = true then
      (idx a i_29).bind fun e31 =>
      if (!eqI e31 k_28) = true then
        some (.inr (.inr (-1)))
      else
        some (.inl (aI .i64 k_28 1, aI .i64 i_29 1))
    else
      some (.inr (.inl k_28))
noncomputable def g32 (a : List Int) (k : Int) : Option (Int) :=
  (loopO (g32_L1 a) (k, 0)).bind fun w => match w with
    | .inl y => g32_j1 y
    | .inr r => some r
def eA32 (a : (List Int) × Int) : List V := [.sl 1 (rows ci_i64 a.1), .i .i64 a.2]
def eB32 (r : Int) : V := .i .i64 r
theorem inj32 (a a' : (List Int) × Int) (h : eA32 a = eA32 a') : a = a' := by
  obtain ⟨i507, i508⟩ := a
  obtain ⟨i509, i510⟩ := a'
  simp only [eA32, List.cons.injEq, V.i.injEq, V.b.injEq, V.f.injEq, V.str.injEq, V.sl.injEq, V.agg.injEq, V.cptr.injEq, true_and, and_true] at h
  simp_all [ri ci_i64_inj]
noncomputable def F32 : List V → Option V := tells (fun a => g32 a.1 a.2) eA32 eB32
set_option maxRecDepth 100000 in
set_option maxHeartbeats 4000000 in
/- loop.example/g01229/laws.heldInt64S -/
theorem ok32 : Tells Try.prog 32 F32 := by
  refine Tells.of (by kernel_rfl) ?_
  rintro ⟨a, k⟩ r h
  refine VCalls.nl (VCalls.of Try.func32 rfl rfl rfl ?_)
  simp only [eA32, List.reduceReplicate, List.cons_append, List.nil_append, List.length_cons, List.length_nil, Nat.reduceAdd, Nat.reduceSub]
  replace h : (g32 a k).bind some = some r := bindS h
  rw [g32] at h
  refine VW.seq ?_
  refine VW.evalA (C := []) ((.sl 1 (rows ci_i64 a)) :: (.i .i64 k) :: A :: A :: A :: (A16 [])) [] [] trivial (by kernel_rfl) (by simp) ?_
  refine VW.join (fun (v : Int) => (⟨(A :: (.i .i64 v) :: A :: A :: A :: (A16 [])), [], []⟩ : VS)) (fun v => (g32_j1 (v)).bind some = some r) ?_ ?_
  · refine VW.seq ?_
    refine VW.evalA (C := []) ((.sl 1 (rows ci_i64 a)) :: (.i .i64 k) :: A :: A :: A :: (.i .i64 0) :: A :: A :: A :: (A4 (A4 (A4 [])))) [] [] trivial (by kernel_rfl) (by simp) ?_
    refine VW.block ?_
    obtain ⟨w_1, hw_1, h⟩ := bindE h
    refine VW.loopO (fun (x : Int × Int) => (⟨((.sl 1 (rows ci_i64 a)) :: (.i .i64 x.1) :: A :: A :: A :: (.i .i64 x.2) :: A :: A :: A :: (A4 (A4 (A4 [])))), [], []⟩ : VS)) hw_1 (Ent.to 0 (by simp [fgt]) (by simp) (by simp) (by simp [bndT, bndV]) (by simp [bndM, bndV])) ?_
    rintro n_1 ⟨k_28, i_29⟩ h1
    rw [g32_L1] at h1
    refine VW.seq ?_
    refine VW.seq ?_
    refine VW.evalA (C := []) ((.sl 1 (rows ci_i64 a)) :: (.i .i64 k_28) :: A :: A :: A :: (.i .i64 i_29) :: A :: A :: A :: (.b (ltI i_29 (a.length : Int))) :: A :: A :: A :: (A4 (A4 []))) [] [] trivial (by kernel_rfl) (by simp) ?_
    refine VW.condB (b := ltI i_29 (a.length : Int)) rfl (fun g30 => ?_) (fun g30 => ?_)
    · replace h1 := iteT g30 h1
      refine VW.skip ?_
      refine VW.seq ?_
      refine VW.block ?_
      refine VW.seq ?_
      refine VW.seq ?_
      obtain ⟨e31, q32, h1⟩ := bindE h1
      obtain ⟨f32a, f32b, f32c, f32d⟩ := idx_some q32
      refine VW.evalA (C := []) ((.sl 1 (rows ci_i64 a)) :: (.i .i64 k_28) :: A :: A :: A :: (.i .i64 i_29) :: A :: A :: A :: (A4 (A4 ((.b (!eqI e31 k_28)) :: A :: A :: A :: [])))) [] [] trivial (by kernel_rfl) (by simp [f32a, f32b, f32c, f32d]) ?_
      refine VW.condB (b := (!eqI e31 k_28)) rfl (fun g33 => ?_) (fun g33 => ?_)
      · replace h1 := iteT g33 h1
        refine VW.seq ?_
        refine VW.evalA (C := []) (A4 ((.i .i64 (-1)) :: A16 [])) [] [] trivial (by kernel_rfl) (by simp) ?_
        have e_ := leafR h1
        subst w_1
        obtain rfl := leafS h
        refine VW.ret (VRet.fin ?_)
        simp [eB32]
      · replace h1 := iteF g33 h1
        refine VW.skip ?_
        refine VW.evalA (C := []) ((.sl 1 (rows ci_i64 a)) :: (.i .i64 (aI .i64 k_28 1)) :: A :: A :: A :: (.i .i64 i_29) :: A :: A :: A :: (A4 (A4 (A4 [])))) [] [] trivial (by kernel_rfl) (by simp) ?_
        refine VW.evalA (C := []) ((.sl 1 (rows ci_i64 a)) :: (.i .i64 (aI .i64 k_28 1)) :: A :: A :: A :: (.i .i64 (aI .i64 i_29 1)) :: A :: A :: A :: (A4 (A4 (A4 [])))) [] [] trivial (by kernel_rfl) (by simp) ?_
        exact (show ∃ _, _ from ⟨(aI .i64 k_28 1, aI .i64 i_29 1), leafL h1, (Ent.to 0 (by simp [fgt]) (by simp) (by simp) (by simp [bndT, bndV]) (by simp [bndM, bndV]))⟩)
    · replace h1 := iteF g30 h1
      refine VW.exit ?_
      have e_ := leafR h1
      subst w_1
      exact (show ∃ _, _ from ⟨k_28, h, (Ent.to 0 (by simp [fgt]) (by simp) (by simp) (by simp [bndT, bndV]) (by simp [bndM, bndV]))⟩)
  · rintro k_17 h
    replace h : (g32_j1 k_17).bind _ = _ := h
    rw [g32_j1] at h
    refine VW.seq ?_
    refine VW.evalA (C := []) (A4 ((.i .i64 k_17) :: A16 [])) [] [] trivial (by kernel_rfl) (by simp) ?_
    obtain rfl := leafS h
    refine VW.ret (VRet.fin ?_)
    simp [eB32]
noncomputable def g39_j1 (other_67 : Int) (l68 : List Int) : Option ((List Int) × Int × Int) :=
  some (l68, other_67, 0)
noncomputable def g39_j2 (l110 : List Int) (k_109 : Int) (other_119 : Int) (n_120 : Int) (next_121 : Int) : Option ((Int × Int × Int × (List Int)) ⊕ ((Int × (List Int)) ⊕ ((List Int) × Int × Int))) :=
  if ltI n_120 0 = true then
    some (.inr (.inr ([], 0, 6)))
  else
    (appK 8 l110 [n_120]).bind fun u123 =>
    some (.inl (next_121, other_119, aI .i64 k_109 1, (l110 ++ [n_120])))
noncomputable def g39_L1 (plan : List Int) (s : T24) : (Int × Int × Int × (List Int)) → Option ((Int × Int × Int × (List Int)) ⊕ ((Int × (List Int)) ⊕ ((List Int) × Int × Int)))
  | (at_107, other_108, k_109, l110) =>
    if ltI k_109 (plan.length : Int) = true then
      (idx plan k_109).bind fun e112 =>
      (g55 s k_109 at_107 e112).bind fun r114 =>
      if ltI r114 0 = true then
        (g58 s k_109 at_107).bind fun r126 =>
        g39_j2 l110 k_109 (aI .i64 other_108 1) r126.1 r126.2
      else
        g39_j2 l110 k_109 other_108 e112 r114
    else
      some (.inr (.inl (other_108, l110)))
noncomputable def g39 (s : T24) (plan : List Int) : Option ((List Int) × Int × Int) :=
  (g51 s).bind fun r1 =>
  if (!r1) = true then
    some ([], 0, 1)
  else
    (if (!eqI (plan.length : Int) (s.need_.length : Int)) = true then some true else (g66 plan s.most_).bind fun r4 => some (!r4)).bind fun w6 =>
    if w6 = true then
      some ([], 0, 2)
    else
      (loopO (g39_L1 plan s) (s.first_, 0, 0, [])).bind fun w => match w with
        | .inl y => g39_j1 y.1 y.2
        | .inr r => some r
def eA39 (a : T24 × (List Int)) : List V := [.agg [.sl 1 (rows ci_i64 a.1.need_), .sl 1 (rows ci_i64 a.1.price_), .i .i64 a.1.most_, .i .i64 a.1.yield_, .i .i64 a.1.store_, .i .i64 a.1.first_, .i .i64 a.1.loss_], .sl 1 (rows ci_i64 a.2)]
def eB39 (r : (List Int) × Int × Int) : V := .tup [.own 1 (rows ci_i64 r.1), .i .i64 r.2.1, .i .i64 r.2.2]
theorem inj39 (a a' : T24 × (List Int)) (h : eA39 a = eA39 a') : a = a' := by
  obtain ⟨⟨i599, i600, i601, i602, i603, i604, i605⟩, i606⟩ := a
  obtain ⟨⟨i607, i608, i609, i610, i611, i612, i613⟩, i614⟩ := a'
  simp only [eA39, List.cons.injEq, V.i.injEq, V.b.injEq, V.f.injEq, V.str.injEq, V.sl.injEq, V.agg.injEq, V.cptr.injEq, true_and, and_true] at h
  simp_all [ri ci_i64_inj]
noncomputable def F39 : List V → Option V := tells (fun a => g39 a.1 a.2) eA39 eB39
set_option maxRecDepth 100000 in
set_option maxHeartbeats 4000000 in
/- loop.example/g01229/spec.RepairPlan -/
theorem ok39 : Tells Try.prog 39 F39 := by
  refine Tells.of (by kernel_rfl) ?_
  rintro ⟨s, plan⟩ r h
  refine VCalls.nl (VCalls.of Try.func39 rfl rfl rfl ?_)
  simp only [eA39, List.reduceReplicate, List.cons_append, List.nil_append, List.length_cons, List.length_nil, Nat.reduceAdd, Nat.reduceSub]
  replace h : (g39 s plan).bind some = some r := bindS h
  rw [g39] at h
  refine VW.seq ?_
  refine VW.evalA (C := [(51, F51), (55, F55), (58, F58), (66, F66)]) (A :: (.sl 1 (rows ci_i64 plan)) :: (.ptr 0 0 0) :: A64 []) [some (7, [[.sl 1 (rows ci_i64 s.need_), .sl 1 (rows ci_i64 s.price_), .i .i64 s.most_, .i .i64 s.yield_, .i .i64 s.store_, .i .i64 s.first_, .i .i64 s.loss_]])] [] ⟨ok51, ok55, ok58, ok66, trivial⟩ (by kernel_rfl) (by simp) ?_
  refine VW.seq ?_
  refine VW.seq ?_
  obtain ⟨r1, q2, h⟩ := bindE h
  have c2 : F51 [.cptr [.sl 1 (rows ci_i64 s.need_), .sl 1 (rows ci_i64 s.price_), .i .i64 s.most_, .i .i64 s.yield_, .i .i64 s.store_, .i .i64 s.first_, .i .i64 s.loss_] 0] = some (.b r1) := tells_eq inj51 (a := s) q2
  refine VW.evalA (C := [(51, F51), (55, F55), (58, F58), (66, F66)]) (A :: (.sl 1 (rows ci_i64 plan)) :: (.ptr 0 0 0) :: A :: A :: A :: (A4 (A4 ((.b (!r1)) :: A4 (A16 (A16 (A16 []))))))) [some (7, [[.sl 1 (rows ci_i64 s.need_), .sl 1 (rows ci_i64 s.price_), .i .i64 s.most_, .i .i64 s.yield_, .i .i64 s.store_, .i .i64 s.first_, .i .i64 s.loss_]])] [] ⟨ok51, ok55, ok58, ok66, trivial⟩ (by kernel_rfl) (by simp [c2]) ?_
  refine VW.condB (b := (!r1)) rfl (fun g3 => ?_) (fun g3 => ?_)
  · replace h := iteT g3 h
    refine VW.seq ?_
    refine VW.evalA (C := [(51, F51), (55, F55), (58, F58), (66, F66)]) (A4 ((.ref 1 0 0) :: (.i .i64 0) :: (.i .i64 1) :: A4 (A4 (A4 (A16 (A16 (A16 []))))))) [some (7, [[.sl 1 (rows ci_i64 s.need_), .sl 1 (rows ci_i64 s.price_), .i .i64 s.most_, .i .i64 s.yield_, .i .i64 s.store_, .i .i64 s.first_, .i .i64 s.loss_]]), some (1, rows ci_i64 [])] [] ⟨ok51, ok55, ok58, ok66, trivial⟩ (by kernel_rfl) (by simp) ?_
    obtain rfl := leafS h
    refine VW.ret (VRet.fin ?_)
    simp [eB39]
  · replace h := iteF g3 h
    refine VW.skip ?_
    refine VW.seq ?_
    refine VW.seq ?_
    obtain ⟨w6, q128, h⟩ := bindE h
    refine VW.evalA (C := [(51, F51), (55, F55), (58, F58), (66, F66)]) (A :: (.sl 1 (rows ci_i64 plan)) :: (.ptr 0 0 0) :: A :: (A4 (A4 (A16 ((.b w6) :: A :: A :: (A4 (A16 (A16 [])))))))) [some (7, [[.sl 1 (rows ci_i64 s.need_), .sl 1 (rows ci_i64 s.price_), .i .i64 s.most_, .i .i64 s.yield_, .i .i64 s.store_, .i .i64 s.first_, .i .i64 s.loss_]])] [] ⟨ok51, ok55, ok58, ok66, trivial⟩ (by kernel_rfl) (by
        rcases Bool.eq_false_or_eq_true (!eqI (plan.length : Int) (s.need_.length : Int)) with q129 | q129
        · first
          | (simp at q129; done)
          | (rw [if_pos q129] at q128
             have d130 : w6 = _ := (Option.some.inj q128).symm
             simp [q129, d130])
        · first
          | (simp at q129; done)
          | (rw [if_neg (by rw [q129]; exact Bool.false_ne_true)] at q128
             obtain ⟨r4, q5, q128⟩ := bindQ q128
             have c5 : F66 [.sl 1 (rows ci_i64 plan), .i .i64 s.most_] = some (.b r4) := tells_eq inj66 (a := (plan, s.most_)) q5
             have d131 : w6 = _ := (Option.some.inj q128).symm
             simp [q129, c5, d131])) ?_
    refine VW.condB (b := w6) rfl (fun g7 => ?_) (fun g7 => ?_)
    · replace h := iteT g7 h
      refine VW.seq ?_
      refine VW.evalA (C := [(51, F51), (55, F55), (58, F58), (66, F66)]) (A4 ((.ref 1 0 0) :: (.i .i64 0) :: (.i .i64 2) :: A4 (A4 (A4 (A16 (A16 (A16 []))))))) [some (7, [[.sl 1 (rows ci_i64 s.need_), .sl 1 (rows ci_i64 s.price_), .i .i64 s.most_, .i .i64 s.yield_, .i .i64 s.store_, .i .i64 s.first_, .i .i64 s.loss_]]), some (1, rows ci_i64 [])] [] ⟨ok51, ok55, ok58, ok66, trivial⟩ (by kernel_rfl) (by simp) ?_
      obtain rfl := leafS h
      refine VW.ret (VRet.fin ?_)
      simp [eB39]
    · replace h := iteF g7 h
      refine VW.skip ?_
      refine VW.seq ?_
      refine VW.evalA (C := [(51, F51), (55, F55), (58, F58), (66, F66)]) (A :: (.sl 1 (rows ci_i64 plan)) :: (.ptr 0 0 0) :: A4 ((.ref 1 0 0) :: A :: A :: A :: (A4 (A4 (A16 (A16 (A16 []))))))) [some (7, [[.sl 1 (rows ci_i64 s.need_), .sl 1 (rows ci_i64 s.price_), .i .i64 s.most_, .i .i64 s.yield_, .i .i64 s.store_, .i .i64 s.first_, .i .i64 s.loss_]]), some (1, rows ci_i64 [])] [] ⟨ok51, ok55, ok58, ok66, trivial⟩ (by kernel_rfl) (by simp) ?_
      refine VW.seq ?_
      refine VW.evalA (C := [(51, F51), (55, F55), (58, F58), (66, F66)]) (A :: (.sl 1 (rows ci_i64 plan)) :: (.ptr 0 0 0) :: A4 ((.ref 1 0 0) :: (.i .i64 s.first_) :: A :: A :: (A4 (A4 (A16 (A16 (A16 []))))))) [some (7, [[.sl 1 (rows ci_i64 s.need_), .sl 1 (rows ci_i64 s.price_), .i .i64 s.most_, .i .i64 s.yield_, .i .i64 s.store_, .i .i64 s.first_, .i .i64 s.loss_]]), some (1, rows ci_i64 [])] [] ⟨ok51, ok55, ok58, ok66, trivial⟩ (by kernel_rfl) (by simp) ?_
      refine VW.seq ?_
      refine VW.evalA (C := [(51, F51), (55, F55), (58, F58), (66, F66)]) (A :: (.sl 1 (rows ci_i64 plan)) :: (.ptr 0 0 0) :: A4 ((.ref 1 0 0) :: (.i .i64 s.first_) :: (.i .i64 0) :: A :: (A4 (A4 (A16 (A16 (A16 []))))))) [some (7, [[.sl 1 (rows ci_i64 s.need_), .sl 1 (rows ci_i64 s.price_), .i .i64 s.most_, .i .i64 s.yield_, .i .i64 s.store_, .i .i64 s.first_, .i .i64 s.loss_]]), some (1, rows ci_i64 [])] [] ⟨ok51, ok55, ok58, ok66, trivial⟩ (by kernel_rfl) (by simp) ?_
      refine VW.join (fun (v : Int × (List Int)) => (⟨(A :: A :: A :: (A4 ((.ref 1 0 v.2.length) :: A :: (.i .i64 v.1) :: A :: (A4 (A4 (A16 (A16 (A16 [])))))))), [some (7, [[.sl 1 (rows ci_i64 s.need_), .sl 1 (rows ci_i64 s.price_), .i .i64 s.most_, .i .i64 s.yield_, .i .i64 s.store_, .i .i64 s.first_, .i .i64 s.loss_]]), some (1, rows ci_i64 v.2)], []⟩ : VS)) (fun v => (g39_j1 (v.1) (v.2)).bind some = some r) ?_ ?_
      · refine VW.seq ?_
        refine VW.evalA (C := [(51, F51), (55, F55), (58, F58), (66, F66)]) (A :: (.sl 1 (rows ci_i64 plan)) :: (.ptr 0 0 0) :: A4 ((.ref 1 0 0) :: (.i .i64 s.first_) :: (.i .i64 0) :: (.i .i64 0) :: A4 (A4 (A16 (A16 (A16 [])))))) [some (7, [[.sl 1 (rows ci_i64 s.need_), .sl 1 (rows ci_i64 s.price_), .i .i64 s.most_, .i .i64 s.yield_, .i .i64 s.store_, .i .i64 s.first_, .i .i64 s.loss_]]), some (1, rows ci_i64 [])] [] ⟨ok51, ok55, ok58, ok66, trivial⟩ (by kernel_rfl) (by simp) ?_
        refine VW.block ?_
        obtain ⟨w_1, hw_1, h⟩ := bindE h
        refine VW.loopO (fun (x : Int × Int × Int × (List Int)) => (⟨(A :: (.sl 1 (rows ci_i64 plan)) :: (.ptr 0 0 0) :: A4 ((.ref 1 0 x.2.2.2.length) :: (.i .i64 x.1) :: (.i .i64 x.2.1) :: (.i .i64 x.2.2.1) :: A4 (A4 (A16 (A16 (A16 [])))))), [some (7, [[.sl 1 (rows ci_i64 s.need_), .sl 1 (rows ci_i64 s.price_), .i .i64 s.most_, .i .i64 s.yield_, .i .i64 s.store_, .i .i64 s.first_, .i .i64 s.loss_]]), some (1, rows ci_i64 x.2.2.2)], []⟩ : VS)) hw_1 (Ent.to 2 (by simp [fgt]) (by simp) (by simp) (by simp [bndT, bndV]) (by simp [bndM, bndV])) ?_
        rintro n_1 ⟨at_107, other_108, k_109, l110⟩ h1
        rw [g39_L1] at h1
        refine VW.seq ?_
        refine VW.seq ?_
        refine VW.evalA (C := [(51, F51), (55, F55), (58, F58), (66, F66)]) (A :: (.sl 1 (rows ci_i64 plan)) :: (.ptr 0 0 0) :: A4 ((.ref 1 0 l110.length) :: (.i .i64 at_107) :: (.i .i64 other_108) :: (.i .i64 k_109) :: A :: (A4 (A4 (A16 ((.b (ltI k_109 (plan.length : Int))) :: A :: A :: (A4 (A4 (A4 (A16 [])))))))))) [some (7, [[.sl 1 (rows ci_i64 s.need_), .sl 1 (rows ci_i64 s.price_), .i .i64 s.most_, .i .i64 s.yield_, .i .i64 s.store_, .i .i64 s.first_, .i .i64 s.loss_]]), some (1, rows ci_i64 l110)] [] ⟨ok51, ok55, ok58, ok66, trivial⟩ (by kernel_rfl) (by simp) ?_
        refine VW.condB (b := ltI k_109 (plan.length : Int)) rfl (fun g111 => ?_) (fun g111 => ?_)
        · replace h1 := iteT g111 h1
          refine VW.skip ?_
          refine VW.seq ?_
          refine VW.block ?_
          refine VW.seq ?_
          obtain ⟨e112, q113, h1⟩ := bindE h1
          obtain ⟨f113a, f113b, f113c, f113d⟩ := idx_some q113
          refine VW.evalA (C := [(51, F51), (55, F55), (58, F58), (66, F66)]) (A :: (.sl 1 (rows ci_i64 plan)) :: (.ptr 0 0 0) :: A4 ((.ref 1 0 l110.length) :: (.i .i64 at_107) :: (.i .i64 other_108) :: (.i .i64 k_109) :: (.i .i64 e112) :: A :: A :: A :: (A4 (A16 (A16 (A16 [])))))) [some (7, [[.sl 1 (rows ci_i64 s.need_), .sl 1 (rows ci_i64 s.price_), .i .i64 s.most_, .i .i64 s.yield_, .i .i64 s.store_, .i .i64 s.first_, .i .i64 s.loss_]]), some (1, rows ci_i64 l110)] [] ⟨ok51, ok55, ok58, ok66, trivial⟩ (by kernel_rfl) (by simp [f113a, f113b, f113c, f113d]) ?_
          refine VW.seq ?_
          obtain ⟨r114, q115, h1⟩ := bindE h1
          have c115 : F55 [.cptr [.sl 1 (rows ci_i64 s.need_), .sl 1 (rows ci_i64 s.price_), .i .i64 s.most_, .i .i64 s.yield_, .i .i64 s.store_, .i .i64 s.first_, .i .i64 s.loss_] 0, .i .i64 k_109, .i .i64 at_107, .i .i64 e112] = some (.i .i64 r114) := tells_eq inj55 (a := (s, k_109, at_107, e112)) q115
          refine VW.evalA (C := [(51, F51), (55, F55), (58, F58), (66, F66)]) (A :: (.sl 1 (rows ci_i64 plan)) :: (.ptr 0 0 0) :: A4 ((.ref 1 0 l110.length) :: (.i .i64 at_107) :: (.i .i64 other_108) :: (.i .i64 k_109) :: (.i .i64 e112) :: (.i .i64 r114) :: A :: A :: (A4 (A16 (A16 (A16 [])))))) [some (7, [[.sl 1 (rows ci_i64 s.need_), .sl 1 (rows ci_i64 s.price_), .i .i64 s.most_, .i .i64 s.yield_, .i .i64 s.store_, .i .i64 s.first_, .i .i64 s.loss_]]), some (1, rows ci_i64 l110)] [] ⟨ok51, ok55, ok58, ok66, trivial⟩ (by kernel_rfl) (by simp [c115]) ?_
          refine VW.join (fun (v : Int × Int × Int) => (⟨(A :: (.sl 1 (rows ci_i64 plan)) :: (.ptr 0 0 0) :: A4 ((.ref 1 0 l110.length) :: A :: (.i .i64 v.1) :: (.i .i64 k_109) :: (.i .i64 v.2.1) :: (.i .i64 v.2.2) :: A :: A :: (A4 (A16 (A16 (A16 [])))))), [some (7, [[.sl 1 (rows ci_i64 s.need_), .sl 1 (rows ci_i64 s.price_), .i .i64 s.most_, .i .i64 s.yield_, .i .i64 s.store_, .i .i64 s.first_, .i .i64 s.loss_]]), some (1, rows ci_i64 l110)], []⟩ : VS)) (fun v => (g39_j2 l110 k_109 (v.1) (v.2.1) (v.2.2)).bind (kN (g39_L1 plan s) n_1) = some w_1) ?_ ?_
          · refine VW.seq ?_
            refine VW.evalA (C := [(51, F51), (55, F55), (58, F58), (66, F66)]) (A :: (.sl 1 (rows ci_i64 plan)) :: (.ptr 0 0 0) :: A4 ((.ref 1 0 l110.length) :: (.i .i64 at_107) :: (.i .i64 other_108) :: (.i .i64 k_109) :: (.i .i64 e112) :: (.i .i64 r114) :: A :: A :: A :: (A16 (A16 ((.b (ltI r114 0)) :: A :: A :: (A16 [])))))) [some (7, [[.sl 1 (rows ci_i64 s.need_), .sl 1 (rows ci_i64 s.price_), .i .i64 s.most_, .i .i64 s.yield_, .i .i64 s.store_, .i .i64 s.first_, .i .i64 s.loss_]]), some (1, rows ci_i64 l110)] [] ⟨ok51, ok55, ok58, ok66, trivial⟩ (by kernel_rfl) (by simp) ?_
            refine VW.condB (b := ltI r114 0) rfl (fun g125 => ?_) (fun g125 => ?_)
            · replace h1 := iteT g125 h1
              refine VW.seq ?_
              obtain ⟨r126, q127, h1⟩ := bindE h1
              have c127 : F58 [.cptr [.sl 1 (rows ci_i64 s.need_), .sl 1 (rows ci_i64 s.price_), .i .i64 s.most_, .i .i64 s.yield_, .i .i64 s.store_, .i .i64 s.first_, .i .i64 s.loss_] 0, .i .i64 k_109, .i .i64 at_107] = some (.tup [.i .i64 r126.1, .i .i64 r126.2]) := tells_eq inj58 (a := (s, k_109, at_107)) q127
              refine VW.evalA (C := [(51, F51), (55, F55), (58, F58), (66, F66)]) (A :: (.sl 1 (rows ci_i64 plan)) :: (.ptr 0 0 0) :: A4 ((.ref 1 0 l110.length) :: A :: (.i .i64 other_108) :: (.i .i64 k_109) :: (.i .i64 r126.1) :: (.i .i64 r126.2) :: A :: A :: (A4 (A16 (A16 (A16 [])))))) [some (7, [[.sl 1 (rows ci_i64 s.need_), .sl 1 (rows ci_i64 s.price_), .i .i64 s.most_, .i .i64 s.yield_, .i .i64 s.store_, .i .i64 s.first_, .i .i64 s.loss_]]), some (1, rows ci_i64 l110)] [] ⟨ok51, ok55, ok58, ok66, trivial⟩ (by kernel_rfl) (by simp [c127]) ?_
              refine VW.evalA (C := [(51, F51), (55, F55), (58, F58), (66, F66)]) (A :: (.sl 1 (rows ci_i64 plan)) :: (.ptr 0 0 0) :: A4 ((.ref 1 0 l110.length) :: A :: (.i .i64 (aI .i64 other_108 1)) :: (.i .i64 k_109) :: (.i .i64 r126.1) :: (.i .i64 r126.2) :: A :: A :: (A4 (A16 (A16 (A16 [])))))) [some (7, [[.sl 1 (rows ci_i64 s.need_), .sl 1 (rows ci_i64 s.price_), .i .i64 s.most_, .i .i64 s.yield_, .i .i64 s.store_, .i .i64 s.first_, .i .i64 s.loss_]]), some (1, rows ci_i64 l110)] [] ⟨ok51, ok55, ok58, ok66, trivial⟩ (by kernel_rfl) (by simp) ?_
              exact (show ∃ _, _ from ⟨(aI .i64 other_108 1, r126.1, r126.2), h1, (Ent.to 2 (by simp [fgt]) (by simp) (by simp) (by simp [bndT, bndV]) (by simp [bndM, bndV]))⟩)
            · replace h1 := iteF g125 h1
              refine VW.skip ?_
              exact (show ∃ _, _ from ⟨(other_108, e112, r114), h1, (Ent.to 2 (by simp [fgt]) (by simp) (by simp) (by simp [bndT, bndV]) (by simp [bndM, bndV]))⟩)
          · rintro ⟨other_119, n_120, next_121⟩ h1
            replace h1 : (g39_j2 l110 k_109 other_119 n_120 next_121).bind _ = _ := h1
            rw [g39_j2] at h1
            refine VW.seq ?_
            refine VW.seq ?_
            refine VW.evalA (C := [(51, F51), (55, F55), (58, F58), (66, F66)]) (A :: (.sl 1 (rows ci_i64 plan)) :: (.ptr 0 0 0) :: A4 ((.ref 1 0 l110.length) :: A :: (.i .i64 other_119) :: (.i .i64 k_109) :: (.i .i64 n_120) :: (.i .i64 next_121) :: A :: (A4 (A4 (A4 (A16 (A16 ((.b (ltI n_120 0)) :: A4 (A4 []))))))))) [some (7, [[.sl 1 (rows ci_i64 s.need_), .sl 1 (rows ci_i64 s.price_), .i .i64 s.most_, .i .i64 s.yield_, .i .i64 s.store_, .i .i64 s.first_, .i .i64 s.loss_]]), some (1, rows ci_i64 l110)] [] ⟨ok51, ok55, ok58, ok66, trivial⟩ (by kernel_rfl) (by simp) ?_
            refine VW.condB (b := ltI n_120 0) rfl (fun g122 => ?_) (fun g122 => ?_)
            · replace h1 := iteT g122 h1
              refine VW.seq ?_
              refine VW.evalA (C := [(51, F51), (55, F55), (58, F58), (66, F66)]) (A4 ((.ref 2 0 0) :: (.i .i64 0) :: (.i .i64 6) :: A4 (A4 (A4 (A16 (A16 (A16 []))))))) [some (7, [[.sl 1 (rows ci_i64 s.need_), .sl 1 (rows ci_i64 s.price_), .i .i64 s.most_, .i .i64 s.yield_, .i .i64 s.store_, .i .i64 s.first_, .i .i64 s.loss_]]), some (1, rows ci_i64 l110), some (1, rows ci_i64 [])] [] ⟨ok51, ok55, ok58, ok66, trivial⟩ (by kernel_rfl) (by simp) ?_
              have e_ := leafR h1
              subst w_1
              obtain rfl := leafS h
              refine VW.ret (VRet.fin ?_)
              simp [eB39]
            · replace h1 := iteF g122 h1
              refine VW.skip ?_
              refine VW.seq ?_
              obtain ⟨u123, q124, h1⟩ := bindE h1
              obtain ⟨f124a, f124b⟩ := appK_some q124
              try simp only [Int.toNat_natCast, Int.reduceToNat, List.length_cons, List.length_nil, Nat.reduceAdd, Nat.zero_add] at f124a f124b
              refine VW.evalA (C := [(51, F51), (55, F55), (58, F58), (66, F66)]) (A :: (.sl 1 (rows ci_i64 plan)) :: (.ptr 0 0 0) :: A4 ((.ref 1 0 (l110 ++ [n_120]).length) :: A :: (.i .i64 other_119) :: (.i .i64 k_109) :: A :: (.i .i64 next_121) :: A :: A :: (A4 (A16 (A16 (A16 [])))))) [some (7, [[.sl 1 (rows ci_i64 s.need_), .sl 1 (rows ci_i64 s.price_), .i .i64 s.most_, .i .i64 s.yield_, .i .i64 s.store_, .i .i64 s.first_, .i .i64 s.loss_]]), some (1, rows ci_i64 (l110 ++ [n_120])), some (1, rows ci_i64 [n_120])] [] ⟨ok51, ok55, ok58, ok66, trivial⟩ (by kernel_rfl) (by simp [f124a, f124b]) ?_
              refine VW.evalA (C := [(51, F51), (55, F55), (58, F58), (66, F66)]) (A :: (.sl 1 (rows ci_i64 plan)) :: (.ptr 0 0 0) :: A4 ((.ref 1 0 (l110 ++ [n_120]).length) :: (.i .i64 next_121) :: (.i .i64 other_119) :: (.i .i64 k_109) :: A4 (A4 (A16 (A16 (A16 [])))))) [some (7, [[.sl 1 (rows ci_i64 s.need_), .sl 1 (rows ci_i64 s.price_), .i .i64 s.most_, .i .i64 s.yield_, .i .i64 s.store_, .i .i64 s.first_, .i .i64 s.loss_]]), some (1, rows ci_i64 (l110 ++ [n_120])), some (1, rows ci_i64 [n_120])] [] ⟨ok51, ok55, ok58, ok66, trivial⟩ (by kernel_rfl) (by simp) ?_
              refine VW.evalA (C := [(51, F51), (55, F55), (58, F58), (66, F66)]) (A :: (.sl 1 (rows ci_i64 plan)) :: (.ptr 0 0 0) :: A4 ((.ref 1 0 (l110 ++ [n_120]).length) :: (.i .i64 next_121) :: (.i .i64 other_119) :: (.i .i64 (aI .i64 k_109 1)) :: A4 (A4 (A16 (A16 (A16 [])))))) [some (7, [[.sl 1 (rows ci_i64 s.need_), .sl 1 (rows ci_i64 s.price_), .i .i64 s.most_, .i .i64 s.yield_, .i .i64 s.store_, .i .i64 s.first_, .i .i64 s.loss_]]), some (1, rows ci_i64 (l110 ++ [n_120])), some (1, rows ci_i64 [n_120])] [] ⟨ok51, ok55, ok58, ok66, trivial⟩ (by kernel_rfl) (by simp) ?_
              exact (show ∃ _, _ from ⟨(next_121, other_119, aI .i64 k_109 1, (l110 ++ [n_120])), leafL h1, (Ent.to 2 (by simp [fgt]) (by simp) (by simp) (by simp [bndT, bndV]) (by simp [bndM, bndV]))⟩)
        · replace h1 := iteF g111 h1
          refine VW.exit ?_
          have e_ := leafR h1
          subst w_1
          exact (show ∃ _, _ from ⟨(other_108, l110), h, (Ent.to 2 (by simp [fgt]) (by simp) (by simp) (by simp [bndT, bndV]) (by simp [bndM, bndV]))⟩)
      · rintro ⟨other_67, l68⟩ h
        replace h : (g39_j1 other_67 l68).bind _ = _ := h
        rw [g39_j1] at h
        refine VW.seq ?_
        refine VW.evalA (C := [(51, F51), (55, F55), (58, F58), (66, F66)]) (A4 ((.ref 1 0 l68.length) :: (.i .i64 other_67) :: (.i .i64 0) :: A4 (A4 (A4 (A16 (A16 (A16 []))))))) [some (7, [[.sl 1 (rows ci_i64 s.need_), .sl 1 (rows ci_i64 s.price_), .i .i64 s.most_, .i .i64 s.yield_, .i .i64 s.store_, .i .i64 s.first_, .i .i64 s.loss_]]), some (1, rows ci_i64 l68)] [] ⟨ok51, ok55, ok58, ok66, trivial⟩ (by kernel_rfl) (by simp) ?_
        obtain rfl := leafS h
        refine VW.ret (VRet.fin ?_)
        simp [eB39]
noncomputable def g40_j1 (turned_54 : Int) (l55 : List Int) : Option ((List Int) × Int × Int) :=
  some (l55, turned_54, 0)
noncomputable def g40_L1 (plan : List Int) (s : T24) : (Int × Int × Int × (List Int)) → Option ((Int × Int × Int × (List Int)) ⊕ ((Int × (List Int)) ⊕ ((List Int) × Int × Int)))
  | (store_88, turned_89, x_90, l91) =>
    if ltI x_90 (plan.length : Int) = true then
      (idx plan x_90).bind fun e93 =>
      (g56 s x_90 store_88 e93).bind fun r95 =>
      if (!r95.2) = true then
        (g59 s x_90 store_88).bind fun r98 =>
        if (!r98.2.2) = true then
          some (.inr (.inr ([], 0, 6)))
        else
          (appK 8 l91 [r98.1]).bind fun u101 =>
          some (.inl (r98.2.1, aI .i64 turned_89 1, aI .i64 x_90 1, (l91 ++ [r98.1])))
      else
        if (!r95.2) = true then
          some (.inr (.inr ([], 0, 6)))
        else
          (appK 8 l91 [e93]).bind fun u104 =>
          some (.inl (r95.1, turned_89, aI .i64 x_90 1, (l91 ++ [e93])))
    else
      some (.inr (.inl (turned_89, l91)))
noncomputable def g40 (s : T24) (plan : List Int) : Option ((List Int) × Int × Int) :=
  (g61 s plan).bind fun r1 =>
  if (!eqI r1 0) = true then
    some ([], 0, r1)
  else
    (loopO (g40_L1 plan s) (s.first_, 0, 0, [])).bind fun w => match w with
      | .inl y => g40_j1 y.1 y.2
      | .inr r => some r
def eA40 (a : T24 × (List Int)) : List V := [.agg [.sl 1 (rows ci_i64 a.1.need_), .sl 1 (rows ci_i64 a.1.price_), .i .i64 a.1.most_, .i .i64 a.1.yield_, .i .i64 a.1.store_, .i .i64 a.1.first_, .i .i64 a.1.loss_], .sl 1 (rows ci_i64 a.2)]
def eB40 (r : (List Int) × Int × Int) : V := .tup [.own 1 (rows ci_i64 r.1), .i .i64 r.2.1, .i .i64 r.2.2]
theorem inj40 (a a' : T24 × (List Int)) (h : eA40 a = eA40 a') : a = a' := by
  obtain ⟨⟨i615, i616, i617, i618, i619, i620, i621⟩, i622⟩ := a
  obtain ⟨⟨i623, i624, i625, i626, i627, i628, i629⟩, i630⟩ := a'
  simp only [eA40, List.cons.injEq, V.i.injEq, V.b.injEq, V.f.injEq, V.str.injEq, V.sl.injEq, V.agg.injEq, V.cptr.injEq, true_and, and_true] at h
  simp_all [ri ci_i64_inj]
noncomputable def F40 : List V → Option V := tells (fun a => g40 a.1 a.2) eA40 eB40
set_option maxRecDepth 100000 in
set_option maxHeartbeats 4000000 in
/- loop.example/g01229/impl.RepairPlan -/
theorem ok40 : Tells Try.prog 40 F40 := by
  refine Tells.of (by kernel_rfl) ?_
  rintro ⟨s, plan⟩ r h
  refine VCalls.nl (VCalls.of Try.func40 rfl rfl rfl ?_)
  simp only [eA40, List.reduceReplicate, List.cons_append, List.nil_append, List.length_cons, List.length_nil, Nat.reduceAdd, Nat.reduceSub]
  replace h : (g40 s plan).bind some = some r := bindS h
  rw [g40] at h
  refine VW.seq ?_
  refine VW.evalA (C := [(56, F56), (59, F59), (61, F61)]) (A :: (.sl 1 (rows ci_i64 plan)) :: (.ptr 0 0 0) :: A :: A :: (A4 (A4 (A16 (A16 (A16 [])))))) [some (7, [[.sl 1 (rows ci_i64 s.need_), .sl 1 (rows ci_i64 s.price_), .i .i64 s.most_, .i .i64 s.yield_, .i .i64 s.store_, .i .i64 s.first_, .i .i64 s.loss_]])] [] ⟨ok56, ok59, ok61, trivial⟩ (by kernel_rfl) (by simp) ?_
  refine VW.seq ?_
  refine VW.seq ?_
  obtain ⟨r1, q2, h⟩ := bindE h
  have c2 : F61 [.agg [.sl 1 (rows ci_i64 s.need_), .sl 1 (rows ci_i64 s.price_), .i .i64 s.most_, .i .i64 s.yield_, .i .i64 s.store_, .i .i64 s.first_, .i .i64 s.loss_], .sl 1 (rows ci_i64 plan)] = some (.i .i64 r1) := tells_eq inj61 (a := (s, plan)) q2
  refine VW.evalA (C := [(56, F56), (59, F59), (61, F61)]) (A :: (.sl 1 (rows ci_i64 plan)) :: (.ptr 0 0 0) :: A4 ((.i .i64 r1) :: A :: (A4 (A16 (A16 (A16 [])))))) [some (7, [[.sl 1 (rows ci_i64 s.need_), .sl 1 (rows ci_i64 s.price_), .i .i64 s.most_, .i .i64 s.yield_, .i .i64 s.store_, .i .i64 s.first_, .i .i64 s.loss_]])] [] ⟨ok56, ok59, ok61, trivial⟩ (by kernel_rfl) (by simp [c2]) ?_
  refine VW.seq ?_
  refine VW.evalA (C := [(56, F56), (59, F59), (61, F61)]) (A :: (.sl 1 (rows ci_i64 plan)) :: (.ptr 0 0 0) :: A4 ((.i .i64 r1) :: A :: A :: A :: (A4 (A4 ((.b (!eqI r1 0)) :: A :: (A4 (A4 (A16 (A16 []))))))))) [some (7, [[.sl 1 (rows ci_i64 s.need_), .sl 1 (rows ci_i64 s.price_), .i .i64 s.most_, .i .i64 s.yield_, .i .i64 s.store_, .i .i64 s.first_, .i .i64 s.loss_]])] [] ⟨ok56, ok59, ok61, trivial⟩ (by kernel_rfl) (by simp) ?_
  refine VW.condB (b := (!eqI r1 0)) rfl (fun g3 => ?_) (fun g3 => ?_)
  · replace h := iteT g3 h
    refine VW.seq ?_
    refine VW.evalA (C := [(56, F56), (59, F59), (61, F61)]) (A4 ((.nil) :: (.i .i64 0) :: (.i .i64 r1) :: A :: A :: (A4 (A16 (A16 (A16 [])))))) [some (7, [[.sl 1 (rows ci_i64 s.need_), .sl 1 (rows ci_i64 s.price_), .i .i64 s.most_, .i .i64 s.yield_, .i .i64 s.store_, .i .i64 s.first_, .i .i64 s.loss_]])] [] ⟨ok56, ok59, ok61, trivial⟩ (by kernel_rfl) (by simp) ?_
    obtain rfl := leafS h
    refine VW.ret (VRet.fin ?_)
    simp [eB40]
  · replace h := iteF g3 h
    refine VW.skip ?_
    refine VW.seq ?_
    refine VW.evalDA (C := [(56, F56), (59, F59), (61, F61)]) (A :: (.sl 1 (rows ci_i64 plan)) :: (.ptr 0 0 0) :: A :: (A4 ((.ref 1 0 0) :: (.i .i64 s.first_) :: (.i .i64 0) :: A :: A :: (A16 (A16 (A16 [])))))) [some (7, [[.sl 1 (rows ci_i64 s.need_), .sl 1 (rows ci_i64 s.price_), .i .i64 s.most_, .i .i64 s.yield_, .i .i64 s.store_, .i .i64 s.first_, .i .i64 s.loss_]]), some (1, rows ci_i64 [])] [] ⟨ok56, ok59, ok61, trivial⟩ mixed (by kernel_rfl) (by simp) ?_
    refine VW.join (fun (v : Int × (List Int)) => (⟨(A4 (A4 ((.ref 1 0 v.2.length) :: A :: (.i .i64 v.1) :: A :: A :: (A16 (A16 (A16 [])))))), [some (7, [[.sl 1 (rows ci_i64 s.need_), .sl 1 (rows ci_i64 s.price_), .i .i64 s.most_, .i .i64 s.yield_, .i .i64 s.store_, .i .i64 s.first_, .i .i64 s.loss_]]), some (1, rows ci_i64 v.2)], []⟩ : VS)) (fun v => (g40_j1 (v.1) (v.2)).bind some = some r) ?_ ?_
    · refine VW.seq ?_
      refine VW.evalA (C := [(56, F56), (59, F59), (61, F61)]) (A :: A :: (.ptr 0 0 0) :: A :: (A4 ((.ref 1 0 0) :: (.i .i64 s.first_) :: (.i .i64 0) :: A :: (A4 (A4 (A4 ((.sl 1 (rows ci_i64 plan)) :: (.i .i64 (plan.length : Int)) :: (.i .i64 0) :: A :: A :: (A16 (A16 []))))))))) [some (7, [[.sl 1 (rows ci_i64 s.need_), .sl 1 (rows ci_i64 s.price_), .i .i64 s.most_, .i .i64 s.yield_, .i .i64 s.store_, .i .i64 s.first_, .i .i64 s.loss_]]), some (1, rows ci_i64 [])] [] ⟨ok56, ok59, ok61, trivial⟩ (by kernel_rfl) (by simp) ?_
      refine VW.block ?_
      obtain ⟨w_1, hw_1, h⟩ := bindE h
      refine VW.loopO (fun (x : Int × Int × Int × (List Int)) => (⟨(A :: A :: (.ptr 0 0 0) :: A :: (A4 ((.ref 1 0 x.2.2.2.length) :: (.i .i64 x.1) :: (.i .i64 x.2.1) :: A :: (A4 (A4 (A4 ((.sl 1 (rows ci_i64 plan)) :: (.i .i64 (plan.length : Int)) :: (.i .i64 x.2.2.1) :: A :: A :: (A16 (A16 []))))))))), [some (7, [[.sl 1 (rows ci_i64 s.need_), .sl 1 (rows ci_i64 s.price_), .i .i64 s.most_, .i .i64 s.yield_, .i .i64 s.store_, .i .i64 s.first_, .i .i64 s.loss_]]), some (1, rows ci_i64 x.2.2.2)], []⟩ : VS)) hw_1 (Ent.to 2 (by simp [fgt]) (by simp) (by simp) (by simp [bndT, bndV]) (by simp [bndM, bndV])) ?_
      rintro n_1 ⟨store_88, turned_89, x_90, l91⟩ h1
      rw [g40_L1] at h1
      refine VW.seq ?_
      refine VW.evalA (C := [(56, F56), (59, F59), (61, F61)]) (A :: A :: (.ptr 0 0 0) :: A :: (A4 ((.ref 1 0 l91.length) :: (.i .i64 store_88) :: (.i .i64 turned_89) :: A :: (A4 (A4 (A4 ((.sl 1 (rows ci_i64 plan)) :: (.i .i64 (plan.length : Int)) :: (.i .i64 x_90) :: (.b (ltI x_90 (plan.length : Int))) :: A :: (A16 (A16 []))))))))) [some (7, [[.sl 1 (rows ci_i64 s.need_), .sl 1 (rows ci_i64 s.price_), .i .i64 s.most_, .i .i64 s.yield_, .i .i64 s.store_, .i .i64 s.first_, .i .i64 s.loss_]]), some (1, rows ci_i64 l91)] [] ⟨ok56, ok59, ok61, trivial⟩ (by kernel_rfl) (by simp) ?_
      refine VW.seq ?_
      refine VW.condB (b := ltI x_90 (plan.length : Int)) rfl (fun g92 => ?_) (fun g92 => ?_)
      · replace h1 := iteT g92 h1
        refine VW.skip ?_
        refine VW.seq ?_
        refine VW.block ?_
        refine VW.seq ?_
        obtain ⟨e93, q94, h1⟩ := bindE h1
        obtain ⟨f94a, f94b, f94c, f94d⟩ := idx_some q94
        refine VW.evalA (C := [(56, F56), (59, F59), (61, F61)]) (A :: A :: (.ptr 0 0 0) :: A :: (A4 ((.ref 1 0 l91.length) :: (.i .i64 store_88) :: (.i .i64 turned_89) :: (.i .i64 x_90) :: (.i .i64 e93) :: A :: A :: A :: (A4 (A4 ((.sl 1 (rows ci_i64 plan)) :: (.i .i64 (plan.length : Int)) :: (.i .i64 x_90) :: A :: A :: (A16 (A16 [])))))))) [some (7, [[.sl 1 (rows ci_i64 s.need_), .sl 1 (rows ci_i64 s.price_), .i .i64 s.most_, .i .i64 s.yield_, .i .i64 s.store_, .i .i64 s.first_, .i .i64 s.loss_]]), some (1, rows ci_i64 l91)] [] ⟨ok56, ok59, ok61, trivial⟩ (by kernel_rfl) (by simp [f94a, f94b, f94c, f94d]) ?_
        refine VW.seq ?_
        obtain ⟨r95, q96, h1⟩ := bindE h1
        have c96 : F56 [.agg [.sl 1 (rows ci_i64 s.need_), .sl 1 (rows ci_i64 s.price_), .i .i64 s.most_, .i .i64 s.yield_, .i .i64 s.store_, .i .i64 s.first_, .i .i64 s.loss_], .i .i64 x_90, .i .i64 store_88, .i .i64 e93] = some (.tup [.i .i64 r95.1, .b r95.2]) := tells_eq inj56 (a := (s, x_90, store_88, e93)) q96
        refine VW.evalA (C := [(56, F56), (59, F59), (61, F61)]) (A :: A :: (.ptr 0 0 0) :: A :: (A4 ((.ref 1 0 l91.length) :: (.i .i64 store_88) :: (.i .i64 turned_89) :: (.i .i64 x_90) :: (.i .i64 e93) :: (.i .i64 r95.1) :: (.b r95.2) :: A :: (A4 (A4 ((.sl 1 (rows ci_i64 plan)) :: (.i .i64 (plan.length : Int)) :: (.i .i64 x_90) :: A :: A :: (A16 (A16 [])))))))) [some (7, [[.sl 1 (rows ci_i64 s.need_), .sl 1 (rows ci_i64 s.price_), .i .i64 s.most_, .i .i64 s.yield_, .i .i64 s.store_, .i .i64 s.first_, .i .i64 s.loss_]]), some (1, rows ci_i64 l91)] [] ⟨ok56, ok59, ok61, trivial⟩ (by kernel_rfl) (by simp [c96]) ?_
        refine VW.seq ?_
        refine VW.seq ?_
        refine VW.evalA (C := [(56, F56), (59, F59), (61, F61)]) (A :: A :: (.ptr 0 0 0) :: A :: (A4 ((.ref 1 0 l91.length) :: (.i .i64 store_88) :: (.i .i64 turned_89) :: (.i .i64 x_90) :: (.i .i64 e93) :: (.i .i64 r95.1) :: (.b r95.2) :: A :: (A4 (A4 ((.sl 1 (rows ci_i64 plan)) :: (.i .i64 (plan.length : Int)) :: (.i .i64 x_90) :: A :: (A4 (A4 (A4 ((.b (!r95.2)) :: A4 (A16 []))))))))))) [some (7, [[.sl 1 (rows ci_i64 s.need_), .sl 1 (rows ci_i64 s.price_), .i .i64 s.most_, .i .i64 s.yield_, .i .i64 s.store_, .i .i64 s.first_, .i .i64 s.loss_]]), some (1, rows ci_i64 l91)] [] ⟨ok56, ok59, ok61, trivial⟩ (by kernel_rfl) (by simp) ?_
        refine VW.condB (b := (!r95.2)) rfl (fun g97 => ?_) (fun g97 => ?_)
        · replace h1 := iteT g97 h1
          refine VW.seq ?_
          obtain ⟨r98, q99, h1⟩ := bindE h1
          have c99 : F59 [.agg [.sl 1 (rows ci_i64 s.need_), .sl 1 (rows ci_i64 s.price_), .i .i64 s.most_, .i .i64 s.yield_, .i .i64 s.store_, .i .i64 s.first_, .i .i64 s.loss_], .i .i64 x_90, .i .i64 store_88] = some (.tup [.i .i64 r98.1, .i .i64 r98.2.1, .b r98.2.2]) := tells_eq inj59 (a := (s, x_90, store_88)) q99
          refine VW.evalA (C := [(56, F56), (59, F59), (61, F61)]) (A :: A :: (.ptr 0 0 0) :: A :: (A4 ((.ref 1 0 l91.length) :: A :: (.i .i64 turned_89) :: A :: (.i .i64 r98.1) :: (.i .i64 r98.2.1) :: (.b r98.2.2) :: A :: (A4 (A4 ((.sl 1 (rows ci_i64 plan)) :: (.i .i64 (plan.length : Int)) :: (.i .i64 x_90) :: A :: A :: (A16 (A16 [])))))))) [some (7, [[.sl 1 (rows ci_i64 s.need_), .sl 1 (rows ci_i64 s.price_), .i .i64 s.most_, .i .i64 s.yield_, .i .i64 s.store_, .i .i64 s.first_, .i .i64 s.loss_]]), some (1, rows ci_i64 l91)] [] ⟨ok56, ok59, ok61, trivial⟩ (by kernel_rfl) (by simp [c99]) ?_
          refine VW.evalA (C := [(56, F56), (59, F59), (61, F61)]) (A :: A :: (.ptr 0 0 0) :: A :: (A4 ((.ref 1 0 l91.length) :: A :: (.i .i64 (aI .i64 turned_89 1)) :: A :: (.i .i64 r98.1) :: (.i .i64 r98.2.1) :: (.b r98.2.2) :: A :: (A4 (A4 ((.sl 1 (rows ci_i64 plan)) :: (.i .i64 (plan.length : Int)) :: (.i .i64 x_90) :: A :: A :: (A16 (A16 [])))))))) [some (7, [[.sl 1 (rows ci_i64 s.need_), .sl 1 (rows ci_i64 s.price_), .i .i64 s.most_, .i .i64 s.yield_, .i .i64 s.store_, .i .i64 s.first_, .i .i64 s.loss_]]), some (1, rows ci_i64 l91)] [] ⟨ok56, ok59, ok61, trivial⟩ (by kernel_rfl) (by simp) ?_
          refine VW.seq ?_
          refine VW.seq ?_
          refine VW.evalA (C := [(56, F56), (59, F59), (61, F61)]) (A :: A :: (.ptr 0 0 0) :: A :: (A4 ((.ref 1 0 l91.length) :: A :: (.i .i64 (aI .i64 turned_89 1)) :: A :: (.i .i64 r98.1) :: (.i .i64 r98.2.1) :: A :: A :: (A4 (A4 ((.sl 1 (rows ci_i64 plan)) :: (.i .i64 (plan.length : Int)) :: (.i .i64 x_90) :: A :: (A4 (A4 (A16 ((.b (!r98.2.2)) :: A4 (A4 []))))))))))) [some (7, [[.sl 1 (rows ci_i64 s.need_), .sl 1 (rows ci_i64 s.price_), .i .i64 s.most_, .i .i64 s.yield_, .i .i64 s.store_, .i .i64 s.first_, .i .i64 s.loss_]]), some (1, rows ci_i64 l91)] [] ⟨ok56, ok59, ok61, trivial⟩ (by kernel_rfl) (by simp) ?_
          refine VW.condB (b := (!r98.2.2)) rfl (fun g100 => ?_) (fun g100 => ?_)
          · replace h1 := iteT g100 h1
            refine VW.seq ?_
            refine VW.evalA (C := [(56, F56), (59, F59), (61, F61)]) (A4 ((.nil) :: (.i .i64 0) :: (.i .i64 6) :: A :: A :: (A4 (A16 (A16 (A16 [])))))) [some (7, [[.sl 1 (rows ci_i64 s.need_), .sl 1 (rows ci_i64 s.price_), .i .i64 s.most_, .i .i64 s.yield_, .i .i64 s.store_, .i .i64 s.first_, .i .i64 s.loss_]]), some (1, rows ci_i64 l91)] [] ⟨ok56, ok59, ok61, trivial⟩ (by kernel_rfl) (by simp) ?_
            have e_ := leafR h1
            subst w_1
            obtain rfl := leafS h
            refine VW.ret (VRet.fin ?_)
            simp [eB40]
          · replace h1 := iteF g100 h1
            refine VW.skip ?_
            refine VW.seq ?_
            obtain ⟨u101, q102, h1⟩ := bindE h1
            obtain ⟨f102a, f102b⟩ := appK_some q102
            try simp only [Int.toNat_natCast, Int.reduceToNat, List.length_cons, List.length_nil, Nat.reduceAdd, Nat.zero_add] at f102a f102b
            refine VW.evalA (C := [(56, F56), (59, F59), (61, F61)]) (A :: A :: (.ptr 0 0 0) :: A :: (A4 ((.ref 1 0 (l91 ++ [r98.1]).length) :: A :: (.i .i64 (aI .i64 turned_89 1)) :: A :: A :: (.i .i64 r98.2.1) :: A :: A :: (A4 (A4 ((.sl 1 (rows ci_i64 plan)) :: (.i .i64 (plan.length : Int)) :: (.i .i64 x_90) :: A :: A :: (A16 (A16 [])))))))) [some (7, [[.sl 1 (rows ci_i64 s.need_), .sl 1 (rows ci_i64 s.price_), .i .i64 s.most_, .i .i64 s.yield_, .i .i64 s.store_, .i .i64 s.first_, .i .i64 s.loss_]]), some (1, rows ci_i64 (l91 ++ [r98.1])), some (1, rows ci_i64 [r98.1])] [] ⟨ok56, ok59, ok61, trivial⟩ (by kernel_rfl) (by simp [f102a, f102b]) ?_
            refine VW.evalA (C := [(56, F56), (59, F59), (61, F61)]) (A :: A :: (.ptr 0 0 0) :: A :: (A4 ((.ref 1 0 (l91 ++ [r98.1]).length) :: (.i .i64 r98.2.1) :: (.i .i64 (aI .i64 turned_89 1)) :: A :: (A4 (A4 (A4 ((.sl 1 (rows ci_i64 plan)) :: (.i .i64 (plan.length : Int)) :: (.i .i64 x_90) :: A :: A :: (A16 (A16 []))))))))) [some (7, [[.sl 1 (rows ci_i64 s.need_), .sl 1 (rows ci_i64 s.price_), .i .i64 s.most_, .i .i64 s.yield_, .i .i64 s.store_, .i .i64 s.first_, .i .i64 s.loss_]]), some (1, rows ci_i64 (l91 ++ [r98.1])), some (1, rows ci_i64 [r98.1])] [] ⟨ok56, ok59, ok61, trivial⟩ (by kernel_rfl) (by simp) ?_
            refine VW.evalA (C := [(56, F56), (59, F59), (61, F61)]) (A :: A :: (.ptr 0 0 0) :: A :: (A4 ((.ref 1 0 (l91 ++ [r98.1]).length) :: (.i .i64 r98.2.1) :: (.i .i64 (aI .i64 turned_89 1)) :: A :: (A4 (A4 (A4 ((.sl 1 (rows ci_i64 plan)) :: (.i .i64 (plan.length : Int)) :: (.i .i64 (aI .i64 x_90 1)) :: A :: A :: (A16 (A16 []))))))))) [some (7, [[.sl 1 (rows ci_i64 s.need_), .sl 1 (rows ci_i64 s.price_), .i .i64 s.most_, .i .i64 s.yield_, .i .i64 s.store_, .i .i64 s.first_, .i .i64 s.loss_]]), some (1, rows ci_i64 (l91 ++ [r98.1])), some (1, rows ci_i64 [r98.1])] [] ⟨ok56, ok59, ok61, trivial⟩ (by kernel_rfl) (by simp) ?_
            exact (show ∃ _, _ from ⟨(r98.2.1, aI .i64 turned_89 1, aI .i64 x_90 1, (l91 ++ [r98.1])), leafL h1, (Ent.to 2 (by simp [fgt]) (by simp) (by simp) (by simp [bndT, bndV]) (by simp [bndM, bndV]))⟩)
        · replace h1 := iteF g97 h1
          refine VW.skip ?_
          refine VW.seq ?_
          refine VW.seq ?_
          refine VW.evalA (C := [(56, F56), (59, F59), (61, F61)]) (A :: A :: (.ptr 0 0 0) :: A :: (A4 ((.ref 1 0 l91.length) :: A :: (.i .i64 turned_89) :: A :: (.i .i64 e93) :: (.i .i64 r95.1) :: A :: A :: (A4 (A4 ((.sl 1 (rows ci_i64 plan)) :: (.i .i64 (plan.length : Int)) :: (.i .i64 x_90) :: A :: (A4 (A4 (A16 ((.b (!r95.2)) :: A4 (A4 []))))))))))) [some (7, [[.sl 1 (rows ci_i64 s.need_), .sl 1 (rows ci_i64 s.price_), .i .i64 s.most_, .i .i64 s.yield_, .i .i64 s.store_, .i .i64 s.first_, .i .i64 s.loss_]]), some (1, rows ci_i64 l91)] [] ⟨ok56, ok59, ok61, trivial⟩ (by kernel_rfl) (by simp) ?_
          refine VW.condB (b := (!r95.2)) rfl (fun g103 => ?_) (fun g103 => ?_)
          · replace h1 := iteT g103 h1
            refine VW.seq ?_
            refine VW.evalA (C := [(56, F56), (59, F59), (61, F61)]) (A4 ((.nil) :: (.i .i64 0) :: (.i .i64 6) :: A :: A :: (A4 (A16 (A16 (A16 [])))))) [some (7, [[.sl 1 (rows ci_i64 s.need_), .sl 1 (rows ci_i64 s.price_), .i .i64 s.most_, .i .i64 s.yield_, .i .i64 s.store_, .i .i64 s.first_, .i .i64 s.loss_]]), some (1, rows ci_i64 l91)] [] ⟨ok56, ok59, ok61, trivial⟩ (by kernel_rfl) (by simp) ?_
            have e_ := leafR h1
            subst w_1
            obtain rfl := leafS h
            refine VW.ret (VRet.fin ?_)
            simp [eB40]
          · replace h1 := iteF g103 h1
            refine VW.skip ?_
            refine VW.seq ?_
            obtain ⟨u104, q105, h1⟩ := bindE h1
            obtain ⟨f105a, f105b⟩ := appK_some q105
            try simp only [Int.toNat_natCast, Int.reduceToNat, List.length_cons, List.length_nil, Nat.reduceAdd, Nat.zero_add] at f105a f105b
            refine VW.evalA (C := [(56, F56), (59, F59), (61, F61)]) (A :: A :: (.ptr 0 0 0) :: A :: (A4 ((.ref 1 0 (l91 ++ [e93]).length) :: A :: (.i .i64 turned_89) :: A :: A :: (.i .i64 r95.1) :: A :: A :: (A4 (A4 ((.sl 1 (rows ci_i64 plan)) :: (.i .i64 (plan.length : Int)) :: (.i .i64 x_90) :: A :: A :: (A16 (A16 [])))))))) [some (7, [[.sl 1 (rows ci_i64 s.need_), .sl 1 (rows ci_i64 s.price_), .i .i64 s.most_, .i .i64 s.yield_, .i .i64 s.store_, .i .i64 s.first_, .i .i64 s.loss_]]), some (1, rows ci_i64 (l91 ++ [e93])), some (1, rows ci_i64 [e93])] [] ⟨ok56, ok59, ok61, trivial⟩ (by kernel_rfl) (by simp [f105a, f105b]) ?_
            refine VW.evalA (C := [(56, F56), (59, F59), (61, F61)]) (A :: A :: (.ptr 0 0 0) :: A :: (A4 ((.ref 1 0 (l91 ++ [e93]).length) :: (.i .i64 r95.1) :: (.i .i64 turned_89) :: A :: (A4 (A4 (A4 ((.sl 1 (rows ci_i64 plan)) :: (.i .i64 (plan.length : Int)) :: (.i .i64 x_90) :: A :: A :: (A16 (A16 []))))))))) [some (7, [[.sl 1 (rows ci_i64 s.need_), .sl 1 (rows ci_i64 s.price_), .i .i64 s.most_, .i .i64 s.yield_, .i .i64 s.store_, .i .i64 s.first_, .i .i64 s.loss_]]), some (1, rows ci_i64 (l91 ++ [e93])), some (1, rows ci_i64 [e93])] [] ⟨ok56, ok59, ok61, trivial⟩ (by kernel_rfl) (by simp) ?_
            refine VW.evalA (C := [(56, F56), (59, F59), (61, F61)]) (A :: A :: (.ptr 0 0 0) :: A :: (A4 ((.ref 1 0 (l91 ++ [e93]).length) :: (.i .i64 r95.1) :: (.i .i64 turned_89) :: A :: (A4 (A4 (A4 ((.sl 1 (rows ci_i64 plan)) :: (.i .i64 (plan.length : Int)) :: (.i .i64 (aI .i64 x_90 1)) :: A :: A :: (A16 (A16 []))))))))) [some (7, [[.sl 1 (rows ci_i64 s.need_), .sl 1 (rows ci_i64 s.price_), .i .i64 s.most_, .i .i64 s.yield_, .i .i64 s.store_, .i .i64 s.first_, .i .i64 s.loss_]]), some (1, rows ci_i64 (l91 ++ [e93])), some (1, rows ci_i64 [e93])] [] ⟨ok56, ok59, ok61, trivial⟩ (by kernel_rfl) (by simp) ?_
            exact (show ∃ _, _ from ⟨(r95.1, turned_89, aI .i64 x_90 1, (l91 ++ [e93])), leafL h1, (Ent.to 2 (by simp [fgt]) (by simp) (by simp) (by simp [bndT, bndV]) (by simp [bndM, bndV]))⟩)
      · replace h1 := iteF g92 h1
        refine VW.exit ?_
        have e_ := leafR h1
        subst w_1
        exact (show ∃ _, _ from ⟨(turned_89, l91), h, (Ent.to 2 (by simp [fgt]) (by simp) (by simp) (by simp [bndT, bndV]) (by simp [bndM, bndV]))⟩)
    · rintro ⟨turned_54, l55⟩ h
      replace h : (g40_j1 turned_54 l55).bind _ = _ := h
      rw [g40_j1] at h
      refine VW.seq ?_
      refine VW.evalA (C := [(56, F56), (59, F59), (61, F61)]) (A4 ((.ref 1 0 l55.length) :: (.i .i64 turned_54) :: (.i .i64 0) :: A :: A :: (A4 (A16 (A16 (A16 [])))))) [some (7, [[.sl 1 (rows ci_i64 s.need_), .sl 1 (rows ci_i64 s.price_), .i .i64 s.most_, .i .i64 s.yield_, .i .i64 s.store_, .i .i64 s.first_, .i .i64 s.loss_]]), some (1, rows ci_i64 l55)] [] ⟨ok56, ok59, ok61, trivial⟩ (by kernel_rfl) (by simp) ?_
      obtain rfl := leafS h
      refine VW.ret (VRet.fin ?_)
      simp [eB40]
noncomputable def g11_j4 (aS : T24) (aPlan : List Int) (r9 : (List Int) × Int × Int) (k_100 : Int) (l101 : List Int) : Option (Bool) :=
  (g32 l101 1).bind fun r102 =>
  if ltI r102 0 = true then
    some false
  else
    if (!eqI r102 k_100) = true then
      some false
    else
      (g17 aS).bind fun r106 =>
      (g25 aPlan).bind fun r108 =>
      (g40 r106 r108).bind fun r110 =>
      (g27 r110.1 r9.1).bind fun r112 =>
      if (((!r112) || (!eqI r110.2.1 r9.2.1)) || (!eqI r110.2.2 r9.2.2)) = true then
        some false
      else
        (g32 l101 1).bind fun r115 =>
        if ltI r115 0 = true then
          some false
        else
          if (!eqI r115 k_100) = true then
            some false
          else
            some true
noncomputable def g11_L1 : (Int × Int × (List Int)) → Option ((Int × Int × (List Int)) ⊕ (Int × (List Int)))
  | (k_128, i_129, l130) =>
    if ltI i_129 (l130.length : Int) = true then
      (idx l130 i_129).bind fun e132 =>
      some (.inl (aI .i64 k_128 1, aI .i64 i_129 1, (l130.set i_129.toNat k_128)))
    else
      some (.inr (k_128, l130))
noncomputable def g11_j3 (r15 : (List Int) × Int × Int) (r9 : (List Int) × Int × Int) (aS : T24) (aPlan : List Int) (k_79 : Int) (l80 : List Int) : Option (Bool) :=
  (if ltI k_79 0 = true then some true else (g27 r15.1 r9.1).bind fun r81 => some (!r81)).bind fun w83 =>
  if ((w83 || (!eqI r15.2.1 r9.2.1)) || (!eqI r15.2.2 r9.2.2)) = true then
    some false
  else
    (loopO g11_L1 (1, 0, r15.1)).bind fun w => g11_j4 aS aPlan r9 w.1 w.2
noncomputable def g11_L2 : (Int × Int × (List Int)) → Option ((Int × Int × (List Int)) ⊕ (Int × (List Int)))
  | (k_147, i_148, l149) =>
    if ltI i_148 (l149.length : Int) = true then
      (idx l149 i_148).bind fun e151 =>
      some (.inl (aI .i64 k_147 1, aI .i64 i_148 1, (l149.set i_148.toNat k_147)))
    else
      some (.inr (k_147, l149))
noncomputable def g11_j2 (r13 : List Int) (r15 : (List Int) × Int × Int) (r9 : (List Int) × Int × Int) (aS : T24) (aPlan : List Int) (k_62 : Int) (l63 : List Int) : Option (Bool) :=
  (loopO g11_L2 (k_62, 0, r13)).bind fun w => g11_j3 r15 r9 aS aPlan w.1 w.2
noncomputable def g11_L3 : (Int × Int × (List Int)) → Option ((Int × Int × (List Int)) ⊕ (Int × (List Int)))
  | (k_162, i_163, l164) =>
    if ltI i_163 (l164.length : Int) = true then
      (idx l164 i_163).bind fun e166 =>
      some (.inl (aI .i64 k_162 1, aI .i64 i_163 1, (l164.set i_163.toNat k_162)))
    else
      some (.inr (k_162, l164))
noncomputable def g11_j1 (r11 : T24) (r13 : List Int) (r15 : (List Int) × Int × Int) (r9 : (List Int) × Int × Int) (aS : T24) (aPlan : List Int) (k_45 : Int) (l46 : List Int) : Option (Bool) :=
  (loopO g11_L3 (k_45, 0, r11.price_)).bind fun w => g11_j2 r13 r15 r9 aS aPlan w.1 w.2
noncomputable def g11_L4 : (Int × Int × (List Int)) → Option ((Int × Int × (List Int)) ⊕ (Int × (List Int)))
  | (k_177, i_178, l179) =>
    if ltI i_178 (l179.length : Int) = true then
      (idx l179 i_178).bind fun e181 =>
      some (.inl (aI .i64 k_177 1, aI .i64 i_178 1, (l179.set i_178.toNat k_177)))
    else
      some (.inr (k_177, l179))
noncomputable def g11 (aS : T24) (aPlan : List Int) : Option (Bool) :=
  if ltI 1048576 (aPlan.length : Int) = true then
    some true
  else
    (g15 aS 1048576).bind fun r2 =>
    if ltI r2 0 = true then
      some true
    else
      (g17 aS).bind fun r5 =>
      (g25 aPlan).bind fun r7 =>
      (g39 r5 r7).bind fun r9 =>
      (g17 aS).bind fun r11 =>
      (g25 aPlan).bind fun r13 =>
      (g40 r11 r13).bind fun r15 =>
      (g27 r15.1 r9.1).bind fun r17 =>
      if (((!r17) || (!eqI r15.2.1 r9.2.1)) || (!eqI r15.2.2 r9.2.2)) = true then
        some false
      else
        (g17 aS).bind fun r20 =>
        (g19 r11 r20).bind fun r22 =>
        if (!r22) = true then
          some false
        else
          (g25 aPlan).bind fun r25 =>
          (g27 r13 r25).bind fun r27 =>
          if (!r27) = true then
            some false
          else
            (loopO g11_L4 (1, 0, r11.need_)).bind fun w => g11_j1 r11 r13 r15 r9 aS aPlan w.1 w.2
def eA11 (a : T24 × (List Int)) : List V := [.agg [.sl 1 (rows ci_i64 a.1.need_), .sl 1 (rows ci_i64 a.1.price_), .i .i64 a.1.most_, .i .i64 a.1.yield_, .i .i64 a.1.store_, .i .i64 a.1.first_, .i .i64 a.1.loss_], .sl 1 (rows ci_i64 a.2)]
def eB11 (r : Bool) : V := .b r
theorem inj11 (a a' : T24 × (List Int)) (h : eA11 a = eA11 a') : a = a' := by
  obtain ⟨⟨i631, i632, i633, i634, i635, i636, i637⟩, i638⟩ := a
  obtain ⟨⟨i639, i640, i641, i642, i643, i644, i645⟩, i646⟩ := a'
  simp only [eA11, List.cons.injEq, V.i.injEq, V.b.injEq, V.f.injEq, V.str.injEq, V.sl.injEq, V.agg.injEq, V.cptr.injEq, true_and, and_true] at h
  simp_all [ri ci_i64_inj]
noncomputable def F11 : List V → Option V := tells (fun a => g11 a.1 a.2) eA11 eB11
set_option maxRecDepth 100000 in
set_option maxHeartbeats 4000000 in
/- loop.example/g01229/laws.FnExactRepairPlan -/
theorem ok11 : Tells Try.prog 11 F11 := by
  refine Tells.of (by kernel_rfl) ?_
  rintro ⟨aS, aPlan⟩ r h
  refine VCalls.nl (VCalls.of Try.func11 rfl rfl rfl ?_)
  simp only [eA11, List.reduceReplicate, List.cons_append, List.nil_append, List.length_cons, List.length_nil, Nat.reduceAdd, Nat.reduceSub]
  replace h : (g11 aS aPlan).bind some = some r := bindS h
  rw [g11] at h
  refine VW.seq ?_
  refine VW.evalA (C := [(15, F15), (17, F17), (19, F19), (25, F25), (27, F27), (32, F32), (39, F39), (40, F40)]) (A :: (.sl 1 (rows ci_i64 aPlan)) :: (.ptr 0 0 0) :: A :: A :: A :: (A4 (A64 (A64 [])))) [some (7, [[.sl 1 (rows ci_i64 aS.need_), .sl 1 (rows ci_i64 aS.price_), .i .i64 aS.most_, .i .i64 aS.yield_, .i .i64 aS.store_, .i .i64 aS.first_, .i .i64 aS.loss_]])] [] ⟨ok15, ok17, ok19, ok25, ok27, ok32, ok39, ok40, trivial⟩ (by kernel_rfl) (by simp) ?_
  refine VW.seq ?_
  refine VW.seq ?_
  refine VW.evalA (C := [(15, F15), (17, F17), (19, F19), (25, F25), (27, F27), (32, F32), (39, F39), (40, F40)]) (A :: (.sl 1 (rows ci_i64 aPlan)) :: (.ptr 0 0 0) :: A :: A :: A :: (A16 ((.b (ltI 1048576 (aPlan.length : Int))) :: A :: A :: A :: (A16 (A16 (A16 (A64 []))))))) [some (7, [[.sl 1 (rows ci_i64 aS.need_), .sl 1 (rows ci_i64 aS.price_), .i .i64 aS.most_, .i .i64 aS.yield_, .i .i64 aS.store_, .i .i64 aS.first_, .i .i64 aS.loss_]])] [] ⟨ok15, ok17, ok19, ok25, ok27, ok32, ok39, ok40, trivial⟩ (by kernel_rfl) (by simp) ?_
  refine VW.condB (b := ltI 1048576 (aPlan.length : Int)) rfl (fun g1 => ?_) (fun g1 => ?_)
  · replace h := iteT g1 h
    refine VW.seq ?_
    refine VW.evalA (C := [(15, F15), (17, F17), (19, F19), (25, F25), (27, F27), (32, F32), (39, F39), (40, F40)]) (A4 ((.b true) :: A :: (A4 (A64 (A64 []))))) [some (7, [[.sl 1 (rows ci_i64 aS.need_), .sl 1 (rows ci_i64 aS.price_), .i .i64 aS.most_, .i .i64 aS.yield_, .i .i64 aS.store_, .i .i64 aS.first_, .i .i64 aS.loss_]])] [] ⟨ok15, ok17, ok19, ok25, ok27, ok32, ok39, ok40, trivial⟩ (by kernel_rfl) (by simp) ?_
    obtain rfl := leafS h
    refine VW.ret (VRet.fin ?_)
    simp [eB11]
  · replace h := iteF g1 h
    refine VW.skip ?_
    refine VW.seq ?_
    refine VW.evalA (C := [(15, F15), (17, F17), (19, F19), (25, F25), (27, F27), (32, F32), (39, F39), (40, F40)]) (A :: (.sl 1 (rows ci_i64 aPlan)) :: (.ptr 0 0 0) :: A :: A :: (.i .i64 1048576) :: A4 (A64 (A64 []))) [some (7, [[.sl 1 (rows ci_i64 aS.need_), .sl 1 (rows ci_i64 aS.price_), .i .i64 aS.most_, .i .i64 aS.yield_, .i .i64 aS.store_, .i .i64 aS.first_, .i .i64 aS.loss_]])] [] ⟨ok15, ok17, ok19, ok25, ok27, ok32, ok39, ok40, trivial⟩ (by kernel_rfl) (by simp) ?_
    refine VW.seq ?_
    obtain ⟨r2, q3, h⟩ := bindE h
    have c3 : F15 [.agg [.sl 1 (rows ci_i64 aS.need_), .sl 1 (rows ci_i64 aS.price_), .i .i64 aS.most_, .i .i64 aS.yield_, .i .i64 aS.store_, .i .i64 aS.first_, .i .i64 aS.loss_], .i .i64 1048576] = some (.i .i64 r2) := tells_eq inj15 (a := (aS, 1048576)) q3
    refine VW.evalA (C := [(15, F15), (17, F17), (19, F19), (25, F25), (27, F27), (32, F32), (39, F39), (40, F40)]) (A :: (.sl 1 (rows ci_i64 aPlan)) :: (.ptr 0 0 0) :: A :: A :: (.i .i64 r2) :: A4 (A64 (A64 []))) [some (7, [[.sl 1 (rows ci_i64 aS.need_), .sl 1 (rows ci_i64 aS.price_), .i .i64 aS.most_, .i .i64 aS.yield_, .i .i64 aS.store_, .i .i64 aS.first_, .i .i64 aS.loss_]])] [] ⟨ok15, ok17, ok19, ok25, ok27, ok32, ok39, ok40, trivial⟩ (by kernel_rfl) (by simp [c3]) ?_
    refine VW.seq ?_
    refine VW.seq ?_
    refine VW.evalA (C := [(15, F15), (17, F17), (19, F19), (25, F25), (27, F27), (32, F32), (39, F39), (40, F40)]) (A :: (.sl 1 (rows ci_i64 aPlan)) :: (.ptr 0 0 0) :: A4 (A4 (A16 ((.b (ltI r2 0)) :: A :: A :: (A4 (A4 (A4 (A16 (A16 (A64 [])))))))))) [some (7, [[.sl 1 (rows ci_i64 aS.need_), .sl 1 (rows ci_i64 aS.price_), .i .i64 aS.most_, .i .i64 aS.yield_, .i .i64 aS.store_, .i .i64 aS.first_, .i .i64 aS.loss_]])] [] ⟨ok15, ok17, ok19, ok25, ok27, ok32, ok39, ok40, trivial⟩ (by kernel_rfl) (by simp) ?_
    refine VW.condB (b := ltI r2 0) rfl (fun g4 => ?_) (fun g4 => ?_)
    · replace h := iteT g4 h
      refine VW.seq ?_
      refine VW.evalA (C := [(15, F15), (17, F17), (19, F19), (25, F25), (27, F27), (32, F32), (39, F39), (40, F40)]) (A4 ((.b true) :: A :: (A4 (A64 (A64 []))))) [some (7, [[.sl 1 (rows ci_i64 aS.need_), .sl 1 (rows ci_i64 aS.price_), .i .i64 aS.most_, .i .i64 aS.yield_, .i .i64 aS.store_, .i .i64 aS.first_, .i .i64 aS.loss_]])] [] ⟨ok15, ok17, ok19, ok25, ok27, ok32, ok39, ok40, trivial⟩ (by kernel_rfl) (by simp) ?_
      obtain rfl := leafS h
      refine VW.ret (VRet.fin ?_)
      simp [eB11]
    · replace h := iteF g4 h
      refine VW.skip ?_
      refine VW.seq ?_
      obtain ⟨r5, q6, h⟩ := bindE h
      have c6 : F17 [.agg [.sl 1 (rows ci_i64 aS.need_), .sl 1 (rows ci_i64 aS.price_), .i .i64 aS.most_, .i .i64 aS.yield_, .i .i64 aS.store_, .i .i64 aS.first_, .i .i64 aS.loss_]] = some (.agg [.own 1 (rows ci_i64 r5.need_), .own 1 (rows ci_i64 r5.price_), .i .i64 r5.most_, .i .i64 r5.yield_, .i .i64 r5.store_, .i .i64 r5.first_, .i .i64 r5.loss_]) := tells_eq inj17 (a := aS) q6
      obtain ⟨r7, q8, h⟩ := bindE h
      have c8 : F25 [.sl 1 (rows ci_i64 aPlan)] = some (.own 1 (rows ci_i64 r7)) := tells_eq inj25 (a := aPlan) q8
      obtain ⟨r9, q10, h⟩ := bindE h
      have c10 : F39 [.agg [.sl 1 (rows ci_i64 r5.need_), .sl 1 (rows ci_i64 r5.price_), .i .i64 r5.most_, .i .i64 r5.yield_, .i .i64 r5.store_, .i .i64 r5.first_, .i .i64 r5.loss_], .sl 1 (rows ci_i64 r7)] = some (.tup [.own 1 (rows ci_i64 r9.1), .i .i64 r9.2.1, .i .i64 r9.2.2]) := tells_eq inj39 (a := (r5, r7)) q10
      refine VW.evalA (C := [(15, F15), (17, F17), (19, F19), (25, F25), (27, F27), (32, F32), (39, F39), (40, F40)]) (A :: (.sl 1 (rows ci_i64 aPlan)) :: (.ptr 0 0 0) :: A :: A :: A :: (.ref 4 0 r9.1.length) :: (.i .i64 r9.2.1) :: (.i .i64 r9.2.2) :: A :: (A64 (A64 []))) [some (7, [[.sl 1 (rows ci_i64 aS.need_), .sl 1 (rows ci_i64 aS.price_), .i .i64 aS.most_, .i .i64 aS.yield_, .i .i64 aS.store_, .i .i64 aS.first_, .i .i64 aS.loss_]]), some (1, rows ci_i64 r5.need_), some (1, rows ci_i64 r5.price_), some (1, rows ci_i64 r7), some (1, rows ci_i64 r9.1)] [] ⟨ok15, ok17, ok19, ok25, ok27, ok32, ok39, ok40, trivial⟩ (by kernel_rfl) (by simp [c6, c8, c10]) ?_
      refine VW.seq ?_
      obtain ⟨r11, q12, h⟩ := bindE h
      have c12 : F17 [.agg [.sl 1 (rows ci_i64 aS.need_), .sl 1 (rows ci_i64 aS.price_), .i .i64 aS.most_, .i .i64 aS.yield_, .i .i64 aS.store_, .i .i64 aS.first_, .i .i64 aS.loss_]] = some (.agg [.own 1 (rows ci_i64 r11.need_), .own 1 (rows ci_i64 r11.price_), .i .i64 r11.most_, .i .i64 r11.yield_, .i .i64 r11.store_, .i .i64 r11.first_, .i .i64 r11.loss_]) := tells_eq inj17 (a := aS) q12
      refine VW.evalA (C := [(15, F15), (17, F17), (19, F19), (25, F25), (27, F27), (32, F32), (39, F39), (40, F40)]) (A :: (.sl 1 (rows ci_i64 aPlan)) :: (.ptr 0 0 0) :: A :: A :: A :: (.ref 4 0 r9.1.length) :: (.i .i64 r9.2.1) :: (.i .i64 r9.2.2) :: (.ptr 7 0 0) :: A64 (A64 [])) [some (7, [[.sl 1 (rows ci_i64 aS.need_), .sl 1 (rows ci_i64 aS.price_), .i .i64 aS.most_, .i .i64 aS.yield_, .i .i64 aS.store_, .i .i64 aS.first_, .i .i64 aS.loss_]]), some (1, rows ci_i64 r5.need_), some (1, rows ci_i64 r5.price_), some (1, rows ci_i64 r7), some (1, rows ci_i64 r9.1), some (1, rows ci_i64 r11.need_), some (1, rows ci_i64 r11.price_), some (7, [[.ref 5 0 r11.need_.length, .ref 6 0 r11.price_.length, .i .i64 r11.most_, .i .i64 r11.yield_, .i .i64 r11.store_, .i .i64 r11.first_, .i .i64 r11.loss_]])] [] ⟨ok15, ok17, ok19, ok25, ok27, ok32, ok39, ok40, trivial⟩ (by kernel_rfl) (by simp [c12]) ?_
      refine VW.seq ?_
      obtain ⟨r13, q14, h⟩ := bindE h
      have c14 : F25 [.sl 1 (rows ci_i64 aPlan)] = some (.own 1 (rows ci_i64 r13)) := tells_eq inj25 (a := aPlan) q14
      refine VW.evalA (C := [(15, F15), (17, F17), (19, F19), (25, F25), (27, F27), (32, F32), (39, F39), (40, F40)]) (A :: (.sl 1 (rows ci_i64 aPlan)) :: (.ptr 0 0 0) :: A :: A :: A :: (.ref 4 0 r9.1.length) :: (.i .i64 r9.2.1) :: (.i .i64 r9.2.2) :: (.ptr 7 0 0) :: (.ref 8 0 r13.length) :: A :: A :: A :: (A4 (A4 (A4 (A16 (A16 (A16 (A64 [])))))))) [some (7, [[.sl 1 (rows ci_i64 aS.need_), .sl 1 (rows ci_i64 aS.price_), .i .i64 aS.most_, .i .i64 aS.yield_, .i .i64 aS.store_, .i .i64 aS.first_, .i .i64 aS.loss_]]), some (1, rows ci_i64 r5.need_), some (1, rows ci_i64 r5.price_), some (1, rows ci_i64 r7), some (1, rows ci_i64 r9.1), some (1, rows ci_i64 r11.need_), some (1, rows ci_i64 r11.price_), some (7, [[.ref 5 0 r11.need_.length, .ref 6 0 r11.price_.length, .i .i64 r11.most_, .i .i64 r11.yield_, .i .i64 r11.store_, .i .i64 r11.first_, .i .i64 r11.loss_]]), some (1, rows ci_i64 r13)] [] ⟨ok15, ok17, ok19, ok25, ok27, ok32, ok39, ok40, trivial⟩ (by kernel_rfl) (by simp [c14]) ?_
      refine VW.seq ?_
      obtain ⟨r15, q16, h⟩ := bindE h
      have c16 : F40 [.agg [.sl 1 (rows ci_i64 r11.need_), .sl 1 (rows ci_i64 r11.price_), .i .i64 r11.most_, .i .i64 r11.yield_, .i .i64 r11.store_, .i .i64 r11.first_, .i .i64 r11.loss_], .sl 1 (rows ci_i64 r13)] = some (.tup [.own 1 (rows ci_i64 r15.1), .i .i64 r15.2.1, .i .i64 r15.2.2]) := tells_eq inj40 (a := (r11, r13)) q16
      refine VW.evalA (C := [(15, F15), (17, F17), (19, F19), (25, F25), (27, F27), (32, F32), (39, F39), (40, F40)]) (A :: (.sl 1 (rows ci_i64 aPlan)) :: (.ptr 0 0 0) :: A :: A :: A :: (.ref 4 0 r9.1.length) :: (.i .i64 r9.2.1) :: (.i .i64 r9.2.2) :: (.ptr 7 0 0) :: (.ref 8 0 r13.length) :: (.ref 9 0 r15.1.length) :: (.i .i64 r15.2.1) :: (.i .i64 r15.2.2) :: A4 (A4 (A4 (A16 (A16 (A16 (A64 []))))))) [some (7, [[.sl 1 (rows ci_i64 aS.need_), .sl 1 (rows ci_i64 aS.price_), .i .i64 aS.most_, .i .i64 aS.yield_, .i .i64 aS.store_, .i .i64 aS.first_, .i .i64 aS.loss_]]), some (1, rows ci_i64 r5.need_), some (1, rows ci_i64 r5.price_), some (1, rows ci_i64 r7), some (1, rows ci_i64 r9.1), some (1, rows ci_i64 r11.need_), some (1, rows ci_i64 r11.price_), some (7, [[.ref 5 0 r11.need_.length, .ref 6 0 r11.price_.length, .i .i64 r11.most_, .i .i64 r11.yield_, .i .i64 r11.store_, .i .i64 r11.first_, .i .i64 r11.loss_]]), some (1, rows ci_i64 r13), some (1, rows ci_i64 r15.1)] [] ⟨ok15, ok17, ok19, ok25, ok27, ok32, ok39, ok40, trivial⟩ (by kernel_rfl) (by simp [c16]) ?_
      refine VW.seq ?_
      refine VW.seq ?_
      obtain ⟨r17, q18, h⟩ := bindE h
      have c18 : F27 [.sl 1 (rows ci_i64 r15.1), .sl 1 (rows ci_i64 r9.1)] = some (.b r17) := tells_eq inj27 (a := (r15.1, r9.1)) q18
      refine VW.evalA (C := [(15, F15), (17, F17), (19, F19), (25, F25), (27, F27), (32, F32), (39, F39), (40, F40)]) (A :: (.sl 1 (rows ci_i64 aPlan)) :: (.ptr 0 0 0) :: A :: A :: A :: (.ref 4 0 r9.1.length) :: (.i .i64 r9.2.1) :: (.i .i64 r9.2.2) :: (.ptr 7 0 0) :: (.ref 8 0 r13.length) :: (.ref 9 0 r15.1.length) :: (.i .i64 r15.2.1) :: (.i .i64 r15.2.2) :: A :: A :: A :: (A4 (A4 (A4 (A16 (A16 ((.b (((!r17) || (!eqI r15.2.1 r9.2.1)) || (!eqI r15.2.2 r9.2.2))) :: A4 (A4 (A4 (A64 [])))))))))) [some (7, [[.sl 1 (rows ci_i64 aS.need_), .sl 1 (rows ci_i64 aS.price_), .i .i64 aS.most_, .i .i64 aS.yield_, .i .i64 aS.store_, .i .i64 aS.first_, .i .i64 aS.loss_]]), some (1, rows ci_i64 r5.need_), some (1, rows ci_i64 r5.price_), some (1, rows ci_i64 r7), some (1, rows ci_i64 r9.1), some (1, rows ci_i64 r11.need_), some (1, rows ci_i64 r11.price_), some (7, [[.ref 5 0 r11.need_.length, .ref 6 0 r11.price_.length, .i .i64 r11.most_, .i .i64 r11.yield_, .i .i64 r11.store_, .i .i64 r11.first_, .i .i64 r11.loss_]]), some (1, rows ci_i64 r13), some (1, rows ci_i64 r15.1)] [] ⟨ok15, ok17, ok19, ok25, ok27, ok32, ok39, ok40, trivial⟩ (by kernel_rfl) (by simp [c18]) ?_
      refine VW.condB (b := (((!r17) || (!eqI r15.2.1 r9.2.1)) || (!eqI r15.2.2 r9.2.2))) rfl (fun g19 => ?_) (fun g19 => ?_)
      · replace h := iteT g19 h
        refine VW.seq ?_
        refine VW.evalA (C := [(15, F15), (17, F17), (19, F19), (25, F25), (27, F27), (32, F32), (39, F39), (40, F40)]) (A4 ((.b false) :: A :: (A4 (A64 (A64 []))))) [some (7, [[.sl 1 (rows ci_i64 aS.need_), .sl 1 (rows ci_i64 aS.price_), .i .i64 aS.most_, .i .i64 aS.yield_, .i .i64 aS.store_, .i .i64 aS.first_, .i .i64 aS.loss_]]), some (1, rows ci_i64 r5.need_), some (1, rows ci_i64 r5.price_), some (1, rows ci_i64 r7), some (1, rows ci_i64 r9.1), some (1, rows ci_i64 r11.need_), some (1, rows ci_i64 r11.price_), some (7, [[.ref 5 0 r11.need_.length, .ref 6 0 r11.price_.length, .i .i64 r11.most_, .i .i64 r11.yield_, .i .i64 r11.store_, .i .i64 r11.first_, .i .i64 r11.loss_]]), some (1, rows ci_i64 r13), some (1, rows ci_i64 r15.1)] [] ⟨ok15, ok17, ok19, ok25, ok27, ok32, ok39, ok40, trivial⟩ (by kernel_rfl) (by simp) ?_
        obtain rfl := leafS h
        refine VW.ret (VRet.fin ?_)
        simp [eB11]
      · replace h := iteF g19 h
        refine VW.skip ?_
        refine VW.seq ?_
        refine VW.seq ?_
        obtain ⟨r20, q21, h⟩ := bindE h
        have c21 : F17 [.agg [.sl 1 (rows ci_i64 aS.need_), .sl 1 (rows ci_i64 aS.price_), .i .i64 aS.most_, .i .i64 aS.yield_, .i .i64 aS.store_, .i .i64 aS.first_, .i .i64 aS.loss_]] = some (.agg [.own 1 (rows ci_i64 r20.need_), .own 1 (rows ci_i64 r20.price_), .i .i64 r20.most_, .i .i64 r20.yield_, .i .i64 r20.store_, .i .i64 r20.first_, .i .i64 r20.loss_]) := tells_eq inj17 (a := aS) q21
        obtain ⟨r22, q23, h⟩ := bindE h
        have c23 : F19 [.agg [.sl 1 (rows ci_i64 r11.need_), .sl 1 (rows ci_i64 r11.price_), .i .i64 r11.most_, .i .i64 r11.yield_, .i .i64 r11.store_, .i .i64 r11.first_, .i .i64 r11.loss_], .agg [.sl 1 (rows ci_i64 r20.need_), .sl 1 (rows ci_i64 r20.price_), .i .i64 r20.most_, .i .i64 r20.yield_, .i .i64 r20.store_, .i .i64 r20.first_, .i .i64 r20.loss_]] = some (.b r22) := tells_eq inj19 (a := (r11, r20)) q23
        refine VW.evalDA (C := [(15, F15), (17, F17), (19, F19), (25, F25), (27, F27), (32, F32), (39, F39), (40, F40)]) (A :: (.sl 1 (rows ci_i64 aPlan)) :: (.ptr 0 0 0) :: A :: A :: A :: (.ref 4 0 r9.1.length) :: (.i .i64 r9.2.1) :: (.i .i64 r9.2.2) :: (.ptr 7 0 0) :: (.ref 8 0 r13.length) :: (.ref 9 0 r15.1.length) :: (.i .i64 r15.2.1) :: (.i .i64 r15.2.2) :: A4 (A16 (A16 (A16 ((.b (!r22)) :: A :: A :: A :: (A4 (A64 []))))))) [some (7, [[.sl 1 (rows ci_i64 aS.need_), .sl 1 (rows ci_i64 aS.price_), .i .i64 aS.most_, .i .i64 aS.yield_, .i .i64 aS.store_, .i .i64 aS.first_, .i .i64 aS.loss_]]), some (1, rows ci_i64 r5.need_), some (1, rows ci_i64 r5.price_), some (1, rows ci_i64 r7), some (1, rows ci_i64 r9.1), some (1, rows ci_i64 r11.need_), some (1, rows ci_i64 r11.price_), some (7, [[.ref 5 0 r11.need_.length, .ref 6 0 r11.price_.length, .i .i64 r11.most_, .i .i64 r11.yield_, .i .i64 r11.store_, .i .i64 r11.first_, .i .i64 r11.loss_]]), some (1, rows ci_i64 r13), some (1, rows ci_i64 r15.1), some (1, rows ci_i64 r20.need_), some (1, rows ci_i64 r20.price_)] [] ⟨ok15, ok17, ok19, ok25, ok27, ok32, ok39, ok40, trivial⟩ mixed (by kernel_rfl) (by simp [c21, c23]) ?_
        refine VW.condB (b := (!r22)) rfl (fun g24 => ?_) (fun g24 => ?_)
        · replace h := iteT g24 h
          refine VW.seq ?_
          refine VW.evalA (C := [(15, F15), (17, F17), (19, F19), (25, F25), (27, F27), (32, F32), (39, F39), (40, F40)]) (A4 ((.b false) :: A :: (A4 (A64 (A64 []))))) [some (7, [[.sl 1 (rows ci_i64 aS.need_), .sl 1 (rows ci_i64 aS.price_), .i .i64 aS.most_, .i .i64 aS.yield_, .i .i64 aS.store_, .i .i64 aS.first_, .i .i64 aS.loss_]]), some (1, rows ci_i64 r5.need_), some (1, rows ci_i64 r5.price_), some (1, rows ci_i64 r7), some (1, rows ci_i64 r9.1), some (1, rows ci_i64 r11.need_), some (1, rows ci_i64 r11.price_), some (7, [[.ref 5 0 r11.need_.length, .ref 6 0 r11.price_.length, .i .i64 r11.most_, .i .i64 r11.yield_, .i .i64 r11.store_, .i .i64 r11.first_, .i .i64 r11.loss_]]), some (1, rows ci_i64 r13), some (1, rows ci_i64 r15.1), some (1, rows ci_i64 r20.need_), some (1, rows ci_i64 r20.price_)] [] ⟨ok15, ok17, ok19, ok25, ok27, ok32, ok39, ok40, trivial⟩ (by kernel_rfl) (by simp) ?_
          obtain rfl := leafS h
          refine VW.ret (VRet.fin ?_)
          simp [eB11]
        · replace h := iteF g24 h
          refine VW.skip ?_
          refine VW.seq ?_
          refine VW.seq ?_
          obtain ⟨r25, q26, h⟩ := bindE h
          have c26 : F25 [.sl 1 (rows ci_i64 aPlan)] = some (.own 1 (rows ci_i64 r25)) := tells_eq inj25 (a := aPlan) q26
          obtain ⟨r27, q28, h⟩ := bindE h
          have c28 : F27 [.sl 1 (rows ci_i64 r13), .sl 1 (rows ci_i64 r25)] = some (.b r27) := tells_eq inj27 (a := (r13, r25)) q28
          refine VW.evalA (C := [(15, F15), (17, F17), (19, F19), (25, F25), (27, F27), (32, F32), (39, F39), (40, F40)]) (A :: (.sl 1 (rows ci_i64 aPlan)) :: (.ptr 0 0 0) :: A :: A :: A :: (.ref 4 0 r9.1.length) :: (.i .i64 r9.2.1) :: (.i .i64 r9.2.2) :: (.ptr 7 0 0) :: (.ref 8 0 r13.length) :: (.ref 9 0 r15.1.length) :: (.i .i64 r15.2.1) :: (.i .i64 r15.2.2) :: A :: (A4 (A4 (A16 (A16 (A16 ((.b (!r27)) :: A :: A :: (A64 [])))))))) [some (7, [[.sl 1 (rows ci_i64 aS.need_), .sl 1 (rows ci_i64 aS.price_), .i .i64 aS.most_, .i .i64 aS.yield_, .i .i64 aS.store_, .i .i64 aS.first_, .i .i64 aS.loss_]]), some (1, rows ci_i64 r5.need_), some (1, rows ci_i64 r5.price_), some (1, rows ci_i64 r7), some (1, rows ci_i64 r9.1), some (1, rows ci_i64 r11.need_), some (1, rows ci_i64 r11.price_), some (7, [[.ref 5 0 r11.need_.length, .ref 6 0 r11.price_.length, .i .i64 r11.most_, .i .i64 r11.yield_, .i .i64 r11.store_, .i .i64 r11.first_, .i .i64 r11.loss_]]), some (1, rows ci_i64 r13), some (1, rows ci_i64 r15.1), some (1, rows ci_i64 r20.need_), some (1, rows ci_i64 r20.price_), some (1, rows ci_i64 r25)] [] ⟨ok15, ok17, ok19, ok25, ok27, ok32, ok39, ok40, trivial⟩ (by kernel_rfl) (by simp [c26, c28]) ?_
          refine VW.condB (b := (!r27)) rfl (fun g29 => ?_) (fun g29 => ?_)
          · replace h := iteT g29 h
            refine VW.seq ?_
            refine VW.evalA (C := [(15, F15), (17, F17), (19, F19), (25, F25), (27, F27), (32, F32), (39, F39), (40, F40)]) (A4 ((.b false) :: A :: (A4 (A64 (A64 []))))) [some (7, [[.sl 1 (rows ci_i64 aS.need_), .sl 1 (rows ci_i64 aS.price_), .i .i64 aS.most_, .i .i64 aS.yield_, .i .i64 aS.store_, .i .i64 aS.first_, .i .i64 aS.loss_]]), some (1, rows ci_i64 r5.need_), some (1, rows ci_i64 r5.price_), some (1, rows ci_i64 r7), some (1, rows ci_i64 r9.1), some (1, rows ci_i64 r11.need_), some (1, rows ci_i64 r11.price_), some (7, [[.ref 5 0 r11.need_.length, .ref 6 0 r11.price_.length, .i .i64 r11.most_, .i .i64 r11.yield_, .i .i64 r11.store_, .i .i64 r11.first_, .i .i64 r11.loss_]]), some (1, rows ci_i64 r13), some (1, rows ci_i64 r15.1), some (1, rows ci_i64 r20.need_), some (1, rows ci_i64 r20.price_), some (1, rows ci_i64 r25)] [] ⟨ok15, ok17, ok19, ok25, ok27, ok32, ok39, ok40, trivial⟩ (by kernel_rfl) (by simp) ?_
            obtain rfl := leafS h
            refine VW.ret (VRet.fin ?_)
            simp [eB11]
          · replace h := iteF g29 h
            refine VW.skip ?_
            refine VW.seq ?_
            refine VW.evalA (C := [(15, F15), (17, F17), (19, F19), (25, F25), (27, F27), (32, F32), (39, F39), (40, F40)]) (A :: (.sl 1 (rows ci_i64 aPlan)) :: (.ptr 0 0 0) :: A :: A :: A :: (.ref 4 0 r9.1.length) :: (.i .i64 r9.2.1) :: (.i .i64 r9.2.2) :: (.ptr 7 0 0) :: (.ref 8 0 r13.length) :: (.ref 9 0 r15.1.length) :: (.i .i64 r15.2.1) :: (.i .i64 r15.2.2) :: (.i .i64 1) :: A :: A :: A :: (A4 (A4 (A16 (A16 (A16 (A64 []))))))) [some (7, [[.sl 1 (rows ci_i64 aS.need_), .sl 1 (rows ci_i64 aS.price_), .i .i64 aS.most_, .i .i64 aS.yield_, .i .i64 aS.store_, .i .i64 aS.first_, .i .i64 aS.loss_]]), some (1, rows ci_i64 r5.need_), some (1, rows ci_i64 r5.price_), some (1, rows ci_i64 r7), some (1, rows ci_i64 r9.1), some (1, rows ci_i64 r11.need_), some (1, rows ci_i64 r11.price_), some (7, [[.ref 5 0 r11.need_.length, .ref 6 0 r11.price_.length, .i .i64 r11.most_, .i .i64 r11.yield_, .i .i64 r11.store_, .i .i64 r11.first_, .i .i64 r11.loss_]]), some (1, rows ci_i64 r13), some (1, rows ci_i64 r15.1), some (1, rows ci_i64 r20.need_), some (1, rows ci_i64 r20.price_), some (1, rows ci_i64 r25)] [] ⟨ok15, ok17, ok19, ok25, ok27, ok32, ok39, ok40, trivial⟩ (by kernel_rfl) (by simp) ?_
            refine VW.seq ?_
            refine VW.inline (C := [(15, F15), (17, F17), (19, F19), (25, F25), (27, F27), (32, F32), (39, F39), (40, F40)]) 2 (A :: (.sl 1 (rows ci_i64 aPlan)) :: (.ptr 0 0 0) :: A :: A :: A :: (.ref 4 0 r9.1.length) :: (.i .i64 r9.2.1) :: (.i .i64 r9.2.2) :: A :: (.ref 8 0 r13.length) :: (.ref 9 0 r15.1.length) :: (.i .i64 r15.2.1) :: (.i .i64 r15.2.2) :: A :: A :: (A4 (A4 (A16 (A16 (A16 ((.agg [.ref 5 0 r11.need_.length, .ref 6 0 r11.price_.length, .i .i64 r11.most_, .i .i64 r11.yield_, .i .i64 r11.store_, .i .i64 r11.first_, .i .i64 r11.loss_]) :: (.i .i64 1) :: A64 []))))))) [some (7, [[.sl 1 (rows ci_i64 aS.need_), .sl 1 (rows ci_i64 aS.price_), .i .i64 aS.most_, .i .i64 aS.yield_, .i .i64 aS.store_, .i .i64 aS.first_, .i .i64 aS.loss_]]), some (1, rows ci_i64 r5.need_), some (1, rows ci_i64 r5.price_), some (1, rows ci_i64 r7), some (1, rows ci_i64 r9.1), some (1, rows ci_i64 r11.need_), some (1, rows ci_i64 r11.price_), some (7, [[.ref 5 0 r11.need_.length, .ref 6 0 r11.price_.length, .i .i64 r11.most_, .i .i64 r11.yield_, .i .i64 r11.store_, .i .i64 r11.first_, .i .i64 r11.loss_]]), some (1, rows ci_i64 r13), some (1, rows ci_i64 r15.1), some (1, rows ci_i64 r20.need_), some (1, rows ci_i64 r20.price_), some (1, rows ci_i64 r25)] [] rfl ⟨ok15, ok17, ok19, ok25, ok27, ok32, ok39, ok40, trivial⟩ (by kernel_rfl) (by simp) rfl rfl Try.func30 rfl rfl rfl rfl rfl ?_
            show VW _ _ _ (⟨((.agg [.ref 5 0 r11.need_.length, .ref 6 0 r11.price_.length, .i .i64 r11.most_, .i .i64 r11.yield_, .i .i64 r11.store_, .i .i64 r11.first_, .i .i64 r11.loss_]) :: (.i .i64 1) :: A4 (A4 (A4 []))), [some (7, [[.sl 1 (rows ci_i64 aS.need_), .sl 1 (rows ci_i64 aS.price_), .i .i64 aS.most_, .i .i64 aS.yield_, .i .i64 aS.store_, .i .i64 aS.first_, .i .i64 aS.loss_]]), some (1, rows ci_i64 r5.need_), some (1, rows ci_i64 r5.price_), some (1, rows ci_i64 r7), some (1, rows ci_i64 r9.1), some (1, rows ci_i64 r11.need_), some (1, rows ci_i64 r11.price_), some (7, [[.ref 5 0 r11.need_.length, .ref 6 0 r11.price_.length, .i .i64 r11.most_, .i .i64 r11.yield_, .i .i64 r11.store_, .i .i64 r11.first_, .i .i64 r11.loss_]]), some (1, rows ci_i64 r13), some (1, rows ci_i64 r15.1), some (1, rows ci_i64 r20.need_), some (1, rows ci_i64 r20.price_), some (1, rows ci_i64 r25)], (A :: (.sl 1 (rows ci_i64 aPlan)) :: (.ptr 0 0 0) :: A :: A :: A :: (.ref 4 0 r9.1.length) :: (.i .i64 r9.2.1) :: (.i .i64 r9.2.2) :: A :: (.ref 8 0 r13.length) :: (.ref 9 0 r15.1.length) :: (.i .i64 r15.2.1) :: (.i .i64 r15.2.2) :: A :: A :: (A4 (A4 (A16 (A16 (A16 ((.agg [.ref 5 0 r11.need_.length, .ref 6 0 r11.price_.length, .i .i64 r11.most_, .i .i64 r11.yield_, .i .i64 r11.store_, .i .i64 r11.first_, .i .i64 r11.loss_]) :: (.i .i64 1) :: A64 [])))))))⟩ : VS)
            refine VW.seq ?_
            refine VW.evalA (C := [(15, F15), (17, F17), (19, F19), (25, F25), (27, F27), (32, F32), (39, F39), (40, F40)]) (A :: (.i .i64 1) :: (.ptr 13 0 0) :: A :: A :: A :: (A4 (A4 []))) [some (7, [[.sl 1 (rows ci_i64 aS.need_), .sl 1 (rows ci_i64 aS.price_), .i .i64 aS.most_, .i .i64 aS.yield_, .i .i64 aS.store_, .i .i64 aS.first_, .i .i64 aS.loss_]]), some (1, rows ci_i64 r5.need_), some (1, rows ci_i64 r5.price_), some (1, rows ci_i64 r7), some (1, rows ci_i64 r9.1), some (1, rows ci_i64 r11.need_), some (1, rows ci_i64 r11.price_), some (7, [[.ref 5 0 r11.need_.length, .ref 6 0 r11.price_.length, .i .i64 r11.most_, .i .i64 r11.yield_, .i .i64 r11.store_, .i .i64 r11.first_, .i .i64 r11.loss_]]), some (1, rows ci_i64 r13), some (1, rows ci_i64 r15.1), some (1, rows ci_i64 r20.need_), some (1, rows ci_i64 r20.price_), some (1, rows ci_i64 r25), some (7, [[.ref 5 0 r11.need_.length, .ref 6 0 r11.price_.length, .i .i64 r11.most_, .i .i64 r11.yield_, .i .i64 r11.store_, .i .i64 r11.first_, .i .i64 r11.loss_]])] (A :: (.sl 1 (rows ci_i64 aPlan)) :: (.ptr 0 0 0) :: A :: A :: A :: (.ref 4 0 r9.1.length) :: (.i .i64 r9.2.1) :: (.i .i64 r9.2.2) :: A :: (.ref 8 0 r13.length) :: (.ref 9 0 r15.1.length) :: (.i .i64 r15.2.1) :: (.i .i64 r15.2.2) :: A :: A :: (A4 (A4 (A16 (A16 (A16 ((.agg [.ref 5 0 r11.need_.length, .ref 6 0 r11.price_.length, .i .i64 r11.most_, .i .i64 r11.yield_, .i .i64 r11.store_, .i .i64 r11.first_, .i .i64 r11.loss_]) :: (.i .i64 1) :: A64 []))))))) ⟨ok15, ok17, ok19, ok25, ok27, ok32, ok39, ok40, trivial⟩ (by kernel_rfl) (by simp) ?_
            refine VW.seq ?_
            refine VW.inline (C := [(15, F15), (17, F17), (19, F19), (25, F25), (27, F27), (32, F32), (39, F39), (40, F40)]) 3 (A :: A :: (.ptr 13 0 0) :: A :: A :: A :: (.ref 5 0 r11.need_.length) :: (.i .i64 1) :: A :: A :: (A4 [])) [some (7, [[.sl 1 (rows ci_i64 aS.need_), .sl 1 (rows ci_i64 aS.price_), .i .i64 aS.most_, .i .i64 aS.yield_, .i .i64 aS.store_, .i .i64 aS.first_, .i .i64 aS.loss_]]), some (1, rows ci_i64 r5.need_), some (1, rows ci_i64 r5.price_), some (1, rows ci_i64 r7), some (1, rows ci_i64 r9.1), some (1, rows ci_i64 r11.need_), some (1, rows ci_i64 r11.price_), some (7, [[.ref 5 0 r11.need_.length, .ref 6 0 r11.price_.length, .i .i64 r11.most_, .i .i64 r11.yield_, .i .i64 r11.store_, .i .i64 r11.first_, .i .i64 r11.loss_]]), some (1, rows ci_i64 r13), some (1, rows ci_i64 r15.1), some (1, rows ci_i64 r20.need_), some (1, rows ci_i64 r20.price_), some (1, rows ci_i64 r25), some (7, [[.ref 5 0 r11.need_.length, .ref 6 0 r11.price_.length, .i .i64 r11.most_, .i .i64 r11.yield_, .i .i64 r11.store_, .i .i64 r11.first_, .i .i64 r11.loss_]])] (A :: (.sl 1 (rows ci_i64 aPlan)) :: (.ptr 0 0 0) :: A :: A :: A :: (.ref 4 0 r9.1.length) :: (.i .i64 r9.2.1) :: (.i .i64 r9.2.2) :: A :: (.ref 8 0 r13.length) :: (.ref 9 0 r15.1.length) :: (.i .i64 r15.2.1) :: (.i .i64 r15.2.2) :: A :: A :: (A4 (A4 (A16 (A16 (A16 ((.agg [.ref 5 0 r11.need_.length, .ref 6 0 r11.price_.length, .i .i64 r11.most_, .i .i64 r11.yield_, .i .i64 r11.store_, .i .i64 r11.first_, .i .i64 r11.loss_]) :: (.i .i64 1) :: A64 []))))))) rfl ⟨ok15, ok17, ok19, ok25, ok27, ok32, ok39, ok40, trivial⟩ (by kernel_rfl) (by simp) rfl rfl Try.func31 rfl rfl rfl rfl rfl ?_
            show VW _ _ _ (⟨((.ref 5 0 r11.need_.length) :: (.i .i64 1) :: A :: (A16 [])), [some (7, [[.sl 1 (rows ci_i64 aS.need_), .sl 1 (rows ci_i64 aS.price_), .i .i64 aS.most_, .i .i64 aS.yield_, .i .i64 aS.store_, .i .i64 aS.first_, .i .i64 aS.loss_]]), some (1, rows ci_i64 r5.need_), some (1, rows ci_i64 r5.price_), some (1, rows ci_i64 r7), some (1, rows ci_i64 r9.1), some (1, rows ci_i64 r11.need_), some (1, rows ci_i64 r11.price_), some (7, [[.ref 5 0 r11.need_.length, .ref 6 0 r11.price_.length, .i .i64 r11.most_, .i .i64 r11.yield_, .i .i64 r11.store_, .i .i64 r11.first_, .i .i64 r11.loss_]]), some (1, rows ci_i64 r13), some (1, rows ci_i64 r15.1), some (1, rows ci_i64 r20.need_), some (1, rows ci_i64 r20.price_), some (1, rows ci_i64 r25), some (7, [[.ref 5 0 r11.need_.length, .ref 6 0 r11.price_.length, .i .i64 r11.most_, .i .i64 r11.yield_, .i .i64 r11.store_, .i .i64 r11.first_, .i .i64 r11.loss_]])], (A :: A :: (.ptr 13 0 0) :: A :: A :: A :: (.ref 5 0 r11.need_.length) :: (.i .i64 1) :: A :: A :: A :: (A4 ((.sl 1 (rows ci_i64 aPlan)) :: (.ptr 0 0 0) :: A :: A :: A :: (.ref 4 0 r9.1.length) :: (.i .i64 r9.2.1) :: (.i .i64 r9.2.2) :: A :: (.ref 8 0 r13.length) :: (.ref 9 0 r15.1.length) :: (.i .i64 r15.2.1) :: (.i .i64 r15.2.2) :: A :: A :: (A4 (A4 (A16 (A16 (A16 ((.agg [.ref 5 0 r11.need_.length, .ref 6 0 r11.price_.length, .i .i64 r11.most_, .i .i64 r11.yield_, .i .i64 r11.store_, .i .i64 r11.first_, .i .i64 r11.loss_]) :: (.i .i64 1) :: A64 [])))))))))⟩ : VS)
            refine VW.seq ?_
            refine VW.evalA (C := [(15, F15), (17, F17), (19, F19), (25, F25), (27, F27), (32, F32), (39, F39), (40, F40)]) ((.ref 5 0 r11.need_.length) :: (.i .i64 1) :: A :: (A16 [])) [some (7, [[.sl 1 (rows ci_i64 aS.need_), .sl 1 (rows ci_i64 aS.price_), .i .i64 aS.most_, .i .i64 aS.yield_, .i .i64 aS.store_, .i .i64 aS.first_, .i .i64 aS.loss_]]), some (1, rows ci_i64 r5.need_), some (1, rows ci_i64 r5.price_), some (1, rows ci_i64 r7), some (1, rows ci_i64 r9.1), some (1, rows ci_i64 r11.need_), some (1, rows ci_i64 r11.price_), some (7, [[.ref 5 0 r11.need_.length, .ref 6 0 r11.price_.length, .i .i64 r11.most_, .i .i64 r11.yield_, .i .i64 r11.store_, .i .i64 r11.first_, .i .i64 r11.loss_]]), some (1, rows ci_i64 r13), some (1, rows ci_i64 r15.1), some (1, rows ci_i64 r20.need_), some (1, rows ci_i64 r20.price_), some (1, rows ci_i64 r25), some (7, [[.ref 5 0 r11.need_.length, .ref 6 0 r11.price_.length, .i .i64 r11.most_, .i .i64 r11.yield_, .i .i64 r11.store_, .i .i64 r11.first_, .i .i64 r11.loss_]])] (A :: A :: (.ptr 13 0 0) :: A :: A :: A :: (.ref 5 0 r11.need_.length) :: (.i .i64 1) :: A :: A :: A :: (A4 ((.sl 1 (rows ci_i64 aPlan)) :: (.ptr 0 0 0) :: A :: A :: A :: (.ref 4 0 r9.1.length) :: (.i .i64 r9.2.1) :: (.i .i64 r9.2.2) :: A :: (.ref 8 0 r13.length) :: (.ref 9 0 r15.1.length) :: (.i .i64 r15.2.1) :: (.i .i64 r15.2.2) :: A :: A :: (A4 (A4 (A16 (A16 (A16 ((.agg [.ref 5 0 r11.need_.length, .ref 6 0 r11.price_.length, .i .i64 r11.most_, .i .i64 r11.yield_, .i .i64 r11.store_, .i .i64 r11.first_, .i .i64 r11.loss_]) :: (.i .i64 1) :: A64 []))))))))) ⟨ok15, ok17, ok19, ok25, ok27, ok32, ok39, ok40, trivial⟩ (by kernel_rfl) (by simp) ?_
            refine VW.join (fun (v : Int × (List Int)) => (⟨(A :: (.i .i64 v.1) :: A :: (A16 [])), [some (7, [[.sl 1 (rows ci_i64 aS.need_), .sl 1 (rows ci_i64 aS.price_), .i .i64 aS.most_, .i .i64 aS.yield_, .i .i64 aS.store_, .i .i64 aS.first_, .i .i64 aS.loss_]]), some (1, rows ci_i64 r5.need_), some (1, rows ci_i64 r5.price_), some (1, rows ci_i64 r7), some (1, rows ci_i64 r9.1), some (1, rows ci_i64 v.2), some (1, rows ci_i64 r11.price_), some (7, [[.ref 5 0 v.2.length, .ref 6 0 r11.price_.length, .i .i64 r11.most_, .i .i64 r11.yield_, .i .i64 r11.store_, .i .i64 r11.first_, .i .i64 r11.loss_]]), some (1, rows ci_i64 r13), some (1, rows ci_i64 r15.1), some (1, rows ci_i64 r20.need_), some (1, rows ci_i64 r20.price_), some (1, rows ci_i64 r25), some (7, [[.ref 5 0 v.2.length, .ref 6 0 r11.price_.length, .i .i64 r11.most_, .i .i64 r11.yield_, .i .i64 r11.store_, .i .i64 r11.first_, .i .i64 r11.loss_]])], (A :: A :: (.ptr 13 0 0) :: A :: A :: A :: (.ref 5 0 v.2.length) :: (.i .i64 1) :: A :: A :: A :: (A4 ((.sl 1 (rows ci_i64 aPlan)) :: (.ptr 0 0 0) :: A :: A :: A :: (.ref 4 0 r9.1.length) :: (.i .i64 r9.2.1) :: (.i .i64 r9.2.2) :: A :: (.ref 8 0 r13.length) :: (.ref 9 0 r15.1.length) :: (.i .i64 r15.2.1) :: (.i .i64 r15.2.2) :: A :: A :: (A4 (A4 (A16 (A16 (A16 ((.agg [.ref 5 0 v.2.length, .ref 6 0 r11.price_.length, .i .i64 r11.most_, .i .i64 r11.yield_, .i .i64 r11.store_, .i .i64 r11.first_, .i .i64 r11.loss_]) :: (.i .i64 1) :: A64 [])))))))))⟩ : VS)) (fun v => (g11_j1 r11 r13 r15 r9 aS aPlan (v.1) (v.2)).bind some = some r) ?_ ?_
            · refine VW.seq ?_
              refine VW.evalA (C := [(15, F15), (17, F17), (19, F19), (25, F25), (27, F27), (32, F32), (39, F39), (40, F40)]) ((.ref 5 0 r11.need_.length) :: (.i .i64 1) :: A :: A :: A :: (.i .i64 0) :: A :: (A4 (A4 (A4 [])))) [some (7, [[.sl 1 (rows ci_i64 aS.need_), .sl 1 (rows ci_i64 aS.price_), .i .i64 aS.most_, .i .i64 aS.yield_, .i .i64 aS.store_, .i .i64 aS.first_, .i .i64 aS.loss_]]), some (1, rows ci_i64 r5.need_), some (1, rows ci_i64 r5.price_), some (1, rows ci_i64 r7), some (1, rows ci_i64 r9.1), some (1, rows ci_i64 r11.need_), some (1, rows ci_i64 r11.price_), some (7, [[.ref 5 0 r11.need_.length, .ref 6 0 r11.price_.length, .i .i64 r11.most_, .i .i64 r11.yield_, .i .i64 r11.store_, .i .i64 r11.first_, .i .i64 r11.loss_]]), some (1, rows ci_i64 r13), some (1, rows ci_i64 r15.1), some (1, rows ci_i64 r20.need_), some (1, rows ci_i64 r20.price_), some (1, rows ci_i64 r25), some (7, [[.ref 5 0 r11.need_.length, .ref 6 0 r11.price_.length, .i .i64 r11.most_, .i .i64 r11.yield_, .i .i64 r11.store_, .i .i64 r11.first_, .i .i64 r11.loss_]])] (A :: A :: (.ptr 13 0 0) :: A :: A :: A :: (.ref 5 0 r11.need_.length) :: (.i .i64 1) :: A :: A :: A :: (A4 ((.sl 1 (rows ci_i64 aPlan)) :: (.ptr 0 0 0) :: A :: A :: A :: (.ref 4 0 r9.1.length) :: (.i .i64 r9.2.1) :: (.i .i64 r9.2.2) :: A :: (.ref 8 0 r13.length) :: (.ref 9 0 r15.1.length) :: (.i .i64 r15.2.1) :: (.i .i64 r15.2.2) :: A :: A :: (A4 (A4 (A16 (A16 (A16 ((.agg [.ref 5 0 r11.need_.length, .ref 6 0 r11.price_.length, .i .i64 r11.most_, .i .i64 r11.yield_, .i .i64 r11.store_, .i .i64 r11.first_, .i .i64 r11.loss_]) :: (.i .i64 1) :: A64 []))))))))) ⟨ok15, ok17, ok19, ok25, ok27, ok32, ok39, ok40, trivial⟩ (by kernel_rfl) (by simp) ?_
              refine VW.block ?_
              obtain ⟨w_4, hw_4, h⟩ := bindE h
              refine VW.loopO (fun (x : Int × Int × (List Int)) => (⟨((.ref 5 0 x.2.2.length) :: (.i .i64 x.1) :: A :: A :: A :: (.i .i64 x.2.1) :: A :: (A4 (A4 (A4 [])))), [some (7, [[.sl 1 (rows ci_i64 aS.need_), .sl 1 (rows ci_i64 aS.price_), .i .i64 aS.most_, .i .i64 aS.yield_, .i .i64 aS.store_, .i .i64 aS.first_, .i .i64 aS.loss_]]), some (1, rows ci_i64 r5.need_), some (1, rows ci_i64 r5.price_), some (1, rows ci_i64 r7), some (1, rows ci_i64 r9.1), some (1, rows ci_i64 x.2.2), some (1, rows ci_i64 r11.price_), some (7, [[.ref 5 0 x.2.2.length, .ref 6 0 r11.price_.length, .i .i64 r11.most_, .i .i64 r11.yield_, .i .i64 r11.store_, .i .i64 r11.first_, .i .i64 r11.loss_]]), some (1, rows ci_i64 r13), some (1, rows ci_i64 r15.1), some (1, rows ci_i64 r20.need_), some (1, rows ci_i64 r20.price_), some (1, rows ci_i64 r25), some (7, [[.ref 5 0 x.2.2.length, .ref 6 0 r11.price_.length, .i .i64 r11.most_, .i .i64 r11.yield_, .i .i64 r11.store_, .i .i64 r11.first_, .i .i64 r11.loss_]])], (A :: A :: (.ptr 13 0 0) :: A :: A :: A :: (.ref 5 0 x.2.2.length) :: (.i .i64 1) :: A :: A :: A :: (A4 ((.sl 1 (rows ci_i64 aPlan)) :: (.ptr 0 0 0) :: A :: A :: A :: (.ref 4 0 r9.1.length) :: (.i .i64 r9.2.1) :: (.i .i64 r9.2.2) :: A :: (.ref 8 0 r13.length) :: (.ref 9 0 r15.1.length) :: (.i .i64 r15.2.1) :: (.i .i64 r15.2.2) :: A :: A :: (A4 (A4 (A16 (A16 (A16 ((.agg [.ref 5 0 x.2.2.length, .ref 6 0 r11.price_.length, .i .i64 r11.most_, .i .i64 r11.yield_, .i .i64 r11.store_, .i .i64 r11.first_, .i .i64 r11.loss_]) :: (.i .i64 1) :: A64 [])))))))))⟩ : VS)) hw_4 (Ent.to 14 (by simp [fgt]) (by simp) (by simp) (by simp [bndT, bndV]) (by simp [bndM, bndV]) (hgg := by simp [bndT, bndV])) ?_
              rintro n_4 ⟨k_177, i_178, l179⟩ h1
              rw [g11_L4] at h1
              refine VW.seq ?_
              refine VW.seq ?_
              refine VW.evalA (C := [(15, F15), (17, F17), (19, F19), (25, F25), (27, F27), (32, F32), (39, F39), (40, F40)]) ((.ref 5 0 l179.length) :: (.i .i64 k_177) :: A :: A :: A :: (.i .i64 i_178) :: A :: A :: A :: (.b (ltI i_178 (l179.length : Int))) :: A :: (A4 (A4 []))) [some (7, [[.sl 1 (rows ci_i64 aS.need_), .sl 1 (rows ci_i64 aS.price_), .i .i64 aS.most_, .i .i64 aS.yield_, .i .i64 aS.store_, .i .i64 aS.first_, .i .i64 aS.loss_]]), some (1, rows ci_i64 r5.need_), some (1, rows ci_i64 r5.price_), some (1, rows ci_i64 r7), some (1, rows ci_i64 r9.1), some (1, rows ci_i64 l179), some (1, rows ci_i64 r11.price_), some (7, [[.ref 5 0 l179.length, .ref 6 0 r11.price_.length, .i .i64 r11.most_, .i .i64 r11.yield_, .i .i64 r11.store_, .i .i64 r11.first_, .i .i64 r11.loss_]]), some (1, rows ci_i64 r13), some (1, rows ci_i64 r15.1), some (1, rows ci_i64 r20.need_), some (1, rows ci_i64 r20.price_), some (1, rows ci_i64 r25), some (7, [[.ref 5 0 l179.length, .ref 6 0 r11.price_.length, .i .i64 r11.most_, .i .i64 r11.yield_, .i .i64 r11.store_, .i .i64 r11.first_, .i .i64 r11.loss_]])] (A :: A :: (.ptr 13 0 0) :: A :: A :: A :: (.ref 5 0 l179.length) :: (.i .i64 1) :: A :: A :: A :: (A4 ((.sl 1 (rows ci_i64 aPlan)) :: (.ptr 0 0 0) :: A :: A :: A :: (.ref 4 0 r9.1.length) :: (.i .i64 r9.2.1) :: (.i .i64 r9.2.2) :: A :: (.ref 8 0 r13.length) :: (.ref 9 0 r15.1.length) :: (.i .i64 r15.2.1) :: (.i .i64 r15.2.2) :: A :: A :: (A4 (A4 (A16 (A16 (A16 ((.agg [.ref 5 0 l179.length, .ref 6 0 r11.price_.length, .i .i64 r11.most_, .i .i64 r11.yield_, .i .i64 r11.store_, .i .i64 r11.first_, .i .i64 r11.loss_]) :: (.i .i64 1) :: A64 []))))))))) ⟨ok15, ok17, ok19, ok25, ok27, ok32, ok39, ok40, trivial⟩ (by kernel_rfl) (by simp) ?_
              refine VW.condB (b := ltI i_178 (l179.length : Int)) rfl (fun g180 => ?_) (fun g180 => ?_)
              · replace h1 := iteT g180 h1
                refine VW.skip ?_
                refine VW.seq ?_
                refine VW.block ?_
                refine VW.seq ?_
                obtain ⟨e181, q182, h1⟩ := bindE h1
                obtain ⟨f182a, f182b, f182c, f182d⟩ := idx_some q182
                refine VW.evalA (C := [(15, F15), (17, F17), (19, F19), (25, F25), (27, F27), (32, F32), (39, F39), (40, F40)]) ((.ref 5 0 (l179.set i_178.toNat k_177).length) :: (.i .i64 k_177) :: A :: A :: A :: (.i .i64 i_178) :: A :: (A4 (A4 (A4 [])))) [some (7, [[.sl 1 (rows ci_i64 aS.need_), .sl 1 (rows ci_i64 aS.price_), .i .i64 aS.most_, .i .i64 aS.yield_, .i .i64 aS.store_, .i .i64 aS.first_, .i .i64 aS.loss_]]), some (1, rows ci_i64 r5.need_), some (1, rows ci_i64 r5.price_), some (1, rows ci_i64 r7), some (1, rows ci_i64 r9.1), some (1, rows ci_i64 (l179.set i_178.toNat k_177)), some (1, rows ci_i64 r11.price_), some (7, [[.ref 5 0 (l179.set i_178.toNat k_177).length, .ref 6 0 r11.price_.length, .i .i64 r11.most_, .i .i64 r11.yield_, .i .i64 r11.store_, .i .i64 r11.first_, .i .i64 r11.loss_]]), some (1, rows ci_i64 r13), some (1, rows ci_i64 r15.1), some (1, rows ci_i64 r20.need_), some (1, rows ci_i64 r20.price_), some (1, rows ci_i64 r25), some (7, [[.ref 5 0 (l179.set i_178.toNat k_177).length, .ref 6 0 r11.price_.length, .i .i64 r11.most_, .i .i64 r11.yield_, .i .i64 r11.store_, .i .i64 r11.first_, .i .i64 r11.loss_]])] (A :: A :: (.ptr 13 0 0) :: A :: A :: A :: (.ref 5 0 (l179.set i_178.toNat k_177).length) :: (.i .i64 1) :: A :: A :: A :: (A4 ((.sl 1 (rows ci_i64 aPlan)) :: (.ptr 0 0 0) :: A :: A :: A :: (.ref 4 0 r9.1.length) :: (.i .i64 r9.2.1) :: (.i .i64 r9.2.2) :: A :: (.ref 8 0 r13.length) :: (.ref 9 0 r15.1.length) :: (.i .i64 r15.2.1) :: (.i .i64 r15.2.2) :: A :: A :: (A4 (A4 (A16 (A16 (A16 ((.agg [.ref 5 0 (l179.set i_178.toNat k_177).length, .ref 6 0 r11.price_.length, .i .i64 r11.most_, .i .i64 r11.yield_, .i .i64 r11.store_, .i .i64 r11.first_, .i .i64 r11.loss_]) :: (.i .i64 1) :: A64 []))))))))) ⟨ok15, ok17, ok19, ok25, ok27, ok32, ok39, ok40, trivial⟩ (by kernel_rfl) (by simp [f182a, f182b, f182c, f182d]) ?_
                refine VW.evalA (C := [(15, F15), (17, F17), (19, F19), (25, F25), (27, F27), (32, F32), (39, F39), (40, F40)]) ((.ref 5 0 (l179.set i_178.toNat k_177).length) :: (.i .i64 (aI .i64 k_177 1)) :: A :: A :: A :: (.i .i64 i_178) :: A :: (A4 (A4 (A4 [])))) [some (7, [[.sl 1 (rows ci_i64 aS.need_), .sl 1 (rows ci_i64 aS.price_), .i .i64 aS.most_, .i .i64 aS.yield_, .i .i64 aS.store_, .i .i64 aS.first_, .i .i64 aS.loss_]]), some (1, rows ci_i64 r5.need_), some (1, rows ci_i64 r5.price_), some (1, rows ci_i64 r7), some (1, rows ci_i64 r9.1), some (1, rows ci_i64 (l179.set i_178.toNat k_177)), some (1, rows ci_i64 r11.price_), some (7, [[.ref 5 0 (l179.set i_178.toNat k_177).length, .ref 6 0 r11.price_.length, .i .i64 r11.most_, .i .i64 r11.yield_, .i .i64 r11.store_, .i .i64 r11.first_, .i .i64 r11.loss_]]), some (1, rows ci_i64 r13), some (1, rows ci_i64 r15.1), some (1, rows ci_i64 r20.need_), some (1, rows ci_i64 r20.price_), some (1, rows ci_i64 r25), some (7, [[.ref 5 0 (l179.set i_178.toNat k_177).length, .ref 6 0 r11.price_.length, .i .i64 r11.most_, .i .i64 r11.yield_, .i .i64 r11.store_, .i .i64 r11.first_, .i .i64 r11.loss_]])] (A :: A :: (.ptr 13 0 0) :: A :: A :: A :: (.ref 5 0 (l179.set i_178.toNat k_177).length) :: (.i .i64 1) :: A :: A :: A :: (A4 ((.sl 1 (rows ci_i64 aPlan)) :: (.ptr 0 0 0) :: A :: A :: A :: (.ref 4 0 r9.1.length) :: (.i .i64 r9.2.1) :: (.i .i64 r9.2.2) :: A :: (.ref 8 0 r13.length) :: (.ref 9 0 r15.1.length) :: (.i .i64 r15.2.1) :: (.i .i64 r15.2.2) :: A :: A :: (A4 (A4 (A16 (A16 (A16 ((.agg [.ref 5 0 (l179.set i_178.toNat k_177).length, .ref 6 0 r11.price_.length, .i .i64 r11.most_, .i .i64 r11.yield_, .i .i64 r11.store_, .i .i64 r11.first_, .i .i64 r11.loss_]) :: (.i .i64 1) :: A64 []))))))))) ⟨ok15, ok17, ok19, ok25, ok27, ok32, ok39, ok40, trivial⟩ (by kernel_rfl) (by simp) ?_
                refine VW.evalA (C := [(15, F15), (17, F17), (19, F19), (25, F25), (27, F27), (32, F32), (39, F39), (40, F40)]) ((.ref 5 0 (l179.set i_178.toNat k_177).length) :: (.i .i64 (aI .i64 k_177 1)) :: A :: A :: A :: (.i .i64 (aI .i64 i_178 1)) :: A :: (A4 (A4 (A4 [])))) [some (7, [[.sl 1 (rows ci_i64 aS.need_), .sl 1 (rows ci_i64 aS.price_), .i .i64 aS.most_, .i .i64 aS.yield_, .i .i64 aS.store_, .i .i64 aS.first_, .i .i64 aS.loss_]]), some (1, rows ci_i64 r5.need_), some (1, rows ci_i64 r5.price_), some (1, rows ci_i64 r7), some (1, rows ci_i64 r9.1), some (1, rows ci_i64 (l179.set i_178.toNat k_177)), some (1, rows ci_i64 r11.price_), some (7, [[.ref 5 0 (l179.set i_178.toNat k_177).length, .ref 6 0 r11.price_.length, .i .i64 r11.most_, .i .i64 r11.yield_, .i .i64 r11.store_, .i .i64 r11.first_, .i .i64 r11.loss_]]), some (1, rows ci_i64 r13), some (1, rows ci_i64 r15.1), some (1, rows ci_i64 r20.need_), some (1, rows ci_i64 r20.price_), some (1, rows ci_i64 r25), some (7, [[.ref 5 0 (l179.set i_178.toNat k_177).length, .ref 6 0 r11.price_.length, .i .i64 r11.most_, .i .i64 r11.yield_, .i .i64 r11.store_, .i .i64 r11.first_, .i .i64 r11.loss_]])] (A :: A :: (.ptr 13 0 0) :: A :: A :: A :: (.ref 5 0 (l179.set i_178.toNat k_177).length) :: (.i .i64 1) :: A :: A :: A :: (A4 ((.sl 1 (rows ci_i64 aPlan)) :: (.ptr 0 0 0) :: A :: A :: A :: (.ref 4 0 r9.1.length) :: (.i .i64 r9.2.1) :: (.i .i64 r9.2.2) :: A :: (.ref 8 0 r13.length) :: (.ref 9 0 r15.1.length) :: (.i .i64 r15.2.1) :: (.i .i64 r15.2.2) :: A :: A :: (A4 (A4 (A16 (A16 (A16 ((.agg [.ref 5 0 (l179.set i_178.toNat k_177).length, .ref 6 0 r11.price_.length, .i .i64 r11.most_, .i .i64 r11.yield_, .i .i64 r11.store_, .i .i64 r11.first_, .i .i64 r11.loss_]) :: (.i .i64 1) :: A64 []))))))))) ⟨ok15, ok17, ok19, ok25, ok27, ok32, ok39, ok40, trivial⟩ (by kernel_rfl) (by simp) ?_
                exact (show ∃ _, _ from ⟨(aI .i64 k_177 1, aI .i64 i_178 1, (l179.set i_178.toNat k_177)), leafL h1, (Ent.to 14 (by simp [fgt]) (by simp) (by simp) (by simp [bndT, bndV]) (by simp [bndM, bndV]) (hgg := by simp [bndT, bndV]))⟩)
              · replace h1 := iteF g180 h1
                refine VW.exit ?_
                have e_ := leafR h1
                subst w_4
                exact (show ∃ _, _ from ⟨(k_177, l179), h, (Ent.to 14 (by simp [fgt]) (by simp) (by simp) (by simp [bndT, bndV]) (by simp [bndM, bndV]) (hgg := by simp [bndT, bndV]))⟩)
            · rintro ⟨k_45, l46⟩ h
              replace h : (g11_j1 r11 r13 r15 r9 aS aPlan k_45 l46).bind _ = _ := h
              rw [g11_j1] at h
              refine VW.seq ?_
              refine VW.evalA (C := [(15, F15), (17, F17), (19, F19), (25, F25), (27, F27), (32, F32), (39, F39), (40, F40)]) (A4 ((.i .i64 k_45) :: A :: A :: (A4 (A4 (A4 []))))) [some (7, [[.sl 1 (rows ci_i64 aS.need_), .sl 1 (rows ci_i64 aS.price_), .i .i64 aS.most_, .i .i64 aS.yield_, .i .i64 aS.store_, .i .i64 aS.first_, .i .i64 aS.loss_]]), some (1, rows ci_i64 r5.need_), some (1, rows ci_i64 r5.price_), some (1, rows ci_i64 r7), some (1, rows ci_i64 r9.1), some (1, rows ci_i64 l46), some (1, rows ci_i64 r11.price_), some (7, [[.ref 5 0 l46.length, .ref 6 0 r11.price_.length, .i .i64 r11.most_, .i .i64 r11.yield_, .i .i64 r11.store_, .i .i64 r11.first_, .i .i64 r11.loss_]]), some (1, rows ci_i64 r13), some (1, rows ci_i64 r15.1), some (1, rows ci_i64 r20.need_), some (1, rows ci_i64 r20.price_), some (1, rows ci_i64 r25), some (7, [[.ref 5 0 l46.length, .ref 6 0 r11.price_.length, .i .i64 r11.most_, .i .i64 r11.yield_, .i .i64 r11.store_, .i .i64 r11.first_, .i .i64 r11.loss_]])] (A :: A :: (.ptr 13 0 0) :: A :: A :: A :: (.ref 5 0 l46.length) :: (.i .i64 1) :: A :: A :: A :: (A4 ((.sl 1 (rows ci_i64 aPlan)) :: (.ptr 0 0 0) :: A :: A :: A :: (.ref 4 0 r9.1.length) :: (.i .i64 r9.2.1) :: (.i .i64 r9.2.2) :: A :: (.ref 8 0 r13.length) :: (.ref 9 0 r15.1.length) :: (.i .i64 r15.2.1) :: (.i .i64 r15.2.2) :: A :: A :: (A4 (A4 (A16 (A16 (A16 ((.agg [.ref 5 0 l46.length, .ref 6 0 r11.price_.length, .i .i64 r11.most_, .i .i64 r11.yield_, .i .i64 r11.store_, .i .i64 r11.first_, .i .i64 r11.loss_]) :: (.i .i64 1) :: A64 []))))))))) ⟨ok15, ok17, ok19, ok25, ok27, ok32, ok39, ok40, trivial⟩ (by kernel_rfl) (by simp) ?_
              refine VW.ret (VIn.ret (v := .i .i64 k_45) (by simp) ?_)
              refine VL.evalP (C := [(15, F15), (17, F17), (19, F19), (25, F25), (27, F27), (32, F32), (39, F39), (40, F40)]) (A :: (.i .i64 k_45) :: (.ptr 13 0 0) :: A :: A :: A :: (A4 (A4 []))) [some (7, [[.sl 1 (rows ci_i64 aS.need_), .sl 1 (rows ci_i64 aS.price_), .i .i64 aS.most_, .i .i64 aS.yield_, .i .i64 aS.store_, .i .i64 aS.first_, .i .i64 aS.loss_]]), some (1, rows ci_i64 r5.need_), some (1, rows ci_i64 r5.price_), some (1, rows ci_i64 r7), some (1, rows ci_i64 r9.1), some (1, rows ci_i64 l46), some (1, rows ci_i64 r11.price_), some (7, [[.ref 5 0 l46.length, .ref 6 0 r11.price_.length, .i .i64 r11.most_, .i .i64 r11.yield_, .i .i64 r11.store_, .i .i64 r11.first_, .i .i64 r11.loss_]]), some (1, rows ci_i64 r13), some (1, rows ci_i64 r15.1), some (1, rows ci_i64 r20.need_), some (1, rows ci_i64 r20.price_), some (1, rows ci_i64 r25), some (7, [[.ref 5 0 l46.length, .ref 6 0 r11.price_.length, .i .i64 r11.most_, .i .i64 r11.yield_, .i .i64 r11.store_, .i .i64 r11.first_, .i .i64 r11.loss_]])] (A :: (.sl 1 (rows ci_i64 aPlan)) :: (.ptr 0 0 0) :: A :: A :: A :: (.ref 4 0 r9.1.length) :: (.i .i64 r9.2.1) :: (.i .i64 r9.2.2) :: A :: (.ref 8 0 r13.length) :: (.ref 9 0 r15.1.length) :: (.i .i64 r15.2.1) :: (.i .i64 r15.2.2) :: A :: A :: (A4 (A4 (A16 (A16 (A16 ((.agg [.ref 5 0 l46.length, .ref 6 0 r11.price_.length, .i .i64 r11.most_, .i .i64 r11.yield_, .i .i64 r11.store_, .i .i64 r11.first_, .i .i64 r11.loss_]) :: (.i .i64 1) :: A64 []))))))) ⟨ok15, ok17, ok19, ok25, ok27, ok32, ok39, ok40, trivial⟩ (by kernel_rfl) (by simp) ?_
              refine VW.seq ?_
              refine VW.inline (C := [(15, F15), (17, F17), (19, F19), (25, F25), (27, F27), (32, F32), (39, F39), (40, F40)]) 3 (A :: A :: (A4 (A4 ((.ref 6 0 r11.price_.length) :: (.i .i64 k_45) :: A :: A :: [])))) [some (7, [[.sl 1 (rows ci_i64 aS.need_), .sl 1 (rows ci_i64 aS.price_), .i .i64 aS.most_, .i .i64 aS.yield_, .i .i64 aS.store_, .i .i64 aS.first_, .i .i64 aS.loss_]]), some (1, rows ci_i64 r5.need_), some (1, rows ci_i64 r5.price_), some (1, rows ci_i64 r7), some (1, rows ci_i64 r9.1), some (1, rows ci_i64 l46), some (1, rows ci_i64 r11.price_), some (7, [[.ref 5 0 l46.length, .ref 6 0 r11.price_.length, .i .i64 r11.most_, .i .i64 r11.yield_, .i .i64 r11.store_, .i .i64 r11.first_, .i .i64 r11.loss_]]), some (1, rows ci_i64 r13), some (1, rows ci_i64 r15.1), some (1, rows ci_i64 r20.need_), some (1, rows ci_i64 r20.price_), some (1, rows ci_i64 r25), some (7, [[.ref 5 0 l46.length, .ref 6 0 r11.price_.length, .i .i64 r11.most_, .i .i64 r11.yield_, .i .i64 r11.store_, .i .i64 r11.first_, .i .i64 r11.loss_]])] (A :: (.sl 1 (rows ci_i64 aPlan)) :: (.ptr 0 0 0) :: A :: A :: A :: (.ref 4 0 r9.1.length) :: (.i .i64 r9.2.1) :: (.i .i64 r9.2.2) :: A :: (.ref 8 0 r13.length) :: (.ref 9 0 r15.1.length) :: (.i .i64 r15.2.1) :: (.i .i64 r15.2.2) :: A :: A :: (A4 (A4 (A16 (A16 (A16 ((.agg [.ref 5 0 l46.length, .ref 6 0 r11.price_.length, .i .i64 r11.most_, .i .i64 r11.yield_, .i .i64 r11.store_, .i .i64 r11.first_, .i .i64 r11.loss_]) :: (.i .i64 1) :: A64 []))))))) rfl ⟨ok15, ok17, ok19, ok25, ok27, ok32, ok39, ok40, trivial⟩ (by kernel_rfl) (by simp) rfl rfl Try.func31 rfl rfl rfl rfl rfl ?_
              show VW _ _ _ (⟨((.ref 6 0 r11.price_.length) :: (.i .i64 k_45) :: A :: (A16 [])), [some (7, [[.sl 1 (rows ci_i64 aS.need_), .sl 1 (rows ci_i64 aS.price_), .i .i64 aS.most_, .i .i64 aS.yield_, .i .i64 aS.store_, .i .i64 aS.first_, .i .i64 aS.loss_]]), some (1, rows ci_i64 r5.need_), some (1, rows ci_i64 r5.price_), some (1, rows ci_i64 r7), some (1, rows ci_i64 r9.1), some (1, rows ci_i64 l46), some (1, rows ci_i64 r11.price_), some (7, [[.ref 5 0 l46.length, .ref 6 0 r11.price_.length, .i .i64 r11.most_, .i .i64 r11.yield_, .i .i64 r11.store_, .i .i64 r11.first_, .i .i64 r11.loss_]]), some (1, rows ci_i64 r13), some (1, rows ci_i64 r15.1), some (1, rows ci_i64 r20.need_), some (1, rows ci_i64 r20.price_), some (1, rows ci_i64 r25), some (7, [[.ref 5 0 l46.length, .ref 6 0 r11.price_.length, .i .i64 r11.most_, .i .i64 r11.yield_, .i .i64 r11.store_, .i .i64 r11.first_, .i .i64 r11.loss_]])], (A :: A :: (A4 (A4 ((.ref 6 0 r11.price_.length) :: (.i .i64 k_45) :: A :: A :: A :: (.sl 1 (rows ci_i64 aPlan)) :: (.ptr 0 0 0) :: A :: A :: A :: (.ref 4 0 r9.1.length) :: (.i .i64 r9.2.1) :: (.i .i64 r9.2.2) :: A :: (.ref 8 0 r13.length) :: (.ref 9 0 r15.1.length) :: (.i .i64 r15.2.1) :: (.i .i64 r15.2.2) :: A :: A :: (A4 (A4 (A16 (A16 (A16 ((.agg [.ref 5 0 l46.length, .ref 6 0 r11.price_.length, .i .i64 r11.most_, .i .i64 r11.yield_, .i .i64 r11.store_, .i .i64 r11.first_, .i .i64 r11.loss_]) :: (.i .i64 1) :: A64 []))))))))))⟩ : VS)
              refine VW.seq ?_
              refine VW.evalA (C := [(15, F15), (17, F17), (19, F19), (25, F25), (27, F27), (32, F32), (39, F39), (40, F40)]) ((.ref 6 0 r11.price_.length) :: (.i .i64 k_45) :: A :: (A16 [])) [some (7, [[.sl 1 (rows ci_i64 aS.need_), .sl 1 (rows ci_i64 aS.price_), .i .i64 aS.most_, .i .i64 aS.yield_, .i .i64 aS.store_, .i .i64 aS.first_, .i .i64 aS.loss_]]), some (1, rows ci_i64 r5.need_), some (1, rows ci_i64 r5.price_), some (1, rows ci_i64 r7), some (1, rows ci_i64 r9.1), some (1, rows ci_i64 l46), some (1, rows ci_i64 r11.price_), some (7, [[.ref 5 0 l46.length, .ref 6 0 r11.price_.length, .i .i64 r11.most_, .i .i64 r11.yield_, .i .i64 r11.store_, .i .i64 r11.first_, .i .i64 r11.loss_]]), some (1, rows ci_i64 r13), some (1, rows ci_i64 r15.1), some (1, rows ci_i64 r20.need_), some (1, rows ci_i64 r20.price_), some (1, rows ci_i64 r25), some (7, [[.ref 5 0 l46.length, .ref 6 0 r11.price_.length, .i .i64 r11.most_, .i .i64 r11.yield_, .i .i64 r11.store_, .i .i64 r11.first_, .i .i64 r11.loss_]])] (A :: A :: (A4 (A4 ((.ref 6 0 r11.price_.length) :: (.i .i64 k_45) :: A :: A :: A :: (.sl 1 (rows ci_i64 aPlan)) :: (.ptr 0 0 0) :: A :: A :: A :: (.ref 4 0 r9.1.length) :: (.i .i64 r9.2.1) :: (.i .i64 r9.2.2) :: A :: (.ref 8 0 r13.length) :: (.ref 9 0 r15.1.length) :: (.i .i64 r15.2.1) :: (.i .i64 r15.2.2) :: A :: A :: (A4 (A4 (A16 (A16 (A16 ((.agg [.ref 5 0 l46.length, .ref 6 0 r11.price_.length, .i .i64 r11.most_, .i .i64 r11.yield_, .i .i64 r11.store_, .i .i64 r11.first_, .i .i64 r11.loss_]) :: (.i .i64 1) :: A64 [])))))))))) ⟨ok15, ok17, ok19, ok25, ok27, ok32, ok39, ok40, trivial⟩ (by kernel_rfl) (by simp) ?_
              refine VW.join (fun (v : Int × (List Int)) => (⟨(A :: (.i .i64 v.1) :: A :: (A16 [])), [some (7, [[.sl 1 (rows ci_i64 aS.need_), .sl 1 (rows ci_i64 aS.price_), .i .i64 aS.most_, .i .i64 aS.yield_, .i .i64 aS.store_, .i .i64 aS.first_, .i .i64 aS.loss_]]), some (1, rows ci_i64 r5.need_), some (1, rows ci_i64 r5.price_), some (1, rows ci_i64 r7), some (1, rows ci_i64 r9.1), some (1, rows ci_i64 l46), some (1, rows ci_i64 v.2), some (7, [[.ref 5 0 l46.length, .ref 6 0 v.2.length, .i .i64 r11.most_, .i .i64 r11.yield_, .i .i64 r11.store_, .i .i64 r11.first_, .i .i64 r11.loss_]]), some (1, rows ci_i64 r13), some (1, rows ci_i64 r15.1), some (1, rows ci_i64 r20.need_), some (1, rows ci_i64 r20.price_), some (1, rows ci_i64 r25), some (7, [[.ref 5 0 l46.length, .ref 6 0 v.2.length, .i .i64 r11.most_, .i .i64 r11.yield_, .i .i64 r11.store_, .i .i64 r11.first_, .i .i64 r11.loss_]])], (A :: A :: (A4 (A4 ((.ref 6 0 v.2.length) :: (.i .i64 k_45) :: A :: A :: A :: (.sl 1 (rows ci_i64 aPlan)) :: (.ptr 0 0 0) :: A :: A :: A :: (.ref 4 0 r9.1.length) :: (.i .i64 r9.2.1) :: (.i .i64 r9.2.2) :: A :: (.ref 8 0 r13.length) :: (.ref 9 0 r15.1.length) :: (.i .i64 r15.2.1) :: (.i .i64 r15.2.2) :: A :: A :: (A4 (A4 (A16 (A16 (A16 ((.agg [.ref 5 0 l46.length, .ref 6 0 v.2.length, .i .i64 r11.most_, .i .i64 r11.yield_, .i .i64 r11.store_, .i .i64 r11.first_, .i .i64 r11.loss_]) :: (.i .i64 1) :: A64 []))))))))))⟩ : VS)) (fun v => (g11_j2 r13 r15 r9 aS aPlan (v.1) (v.2)).bind some = some r) ?_ ?_
              · refine VW.seq ?_
                refine VW.evalA (C := [(15, F15), (17, F17), (19, F19), (25, F25), (27, F27), (32, F32), (39, F39), (40, F40)]) ((.ref 6 0 r11.price_.length) :: (.i .i64 k_45) :: A :: A :: A :: (.i .i64 0) :: A :: (A4 (A4 (A4 [])))) [some (7, [[.sl 1 (rows ci_i64 aS.need_), .sl 1 (rows ci_i64 aS.price_), .i .i64 aS.most_, .i .i64 aS.yield_, .i .i64 aS.store_, .i .i64 aS.first_, .i .i64 aS.loss_]]), some (1, rows ci_i64 r5.need_), some (1, rows ci_i64 r5.price_), some (1, rows ci_i64 r7), some (1, rows ci_i64 r9.1), some (1, rows ci_i64 l46), some (1, rows ci_i64 r11.price_), some (7, [[.ref 5 0 l46.length, .ref 6 0 r11.price_.length, .i .i64 r11.most_, .i .i64 r11.yield_, .i .i64 r11.store_, .i .i64 r11.first_, .i .i64 r11.loss_]]), some (1, rows ci_i64 r13), some (1, rows ci_i64 r15.1), some (1, rows ci_i64 r20.need_), some (1, rows ci_i64 r20.price_), some (1, rows ci_i64 r25), some (7, [[.ref 5 0 l46.length, .ref 6 0 r11.price_.length, .i .i64 r11.most_, .i .i64 r11.yield_, .i .i64 r11.store_, .i .i64 r11.first_, .i .i64 r11.loss_]])] (A :: A :: (A4 (A4 ((.ref 6 0 r11.price_.length) :: (.i .i64 k_45) :: A :: A :: A :: (.sl 1 (rows ci_i64 aPlan)) :: (.ptr 0 0 0) :: A :: A :: A :: (.ref 4 0 r9.1.length) :: (.i .i64 r9.2.1) :: (.i .i64 r9.2.2) :: A :: (.ref 8 0 r13.length) :: (.ref 9 0 r15.1.length) :: (.i .i64 r15.2.1) :: (.i .i64 r15.2.2) :: A :: A :: (A4 (A4 (A16 (A16 (A16 ((.agg [.ref 5 0 l46.length, .ref 6 0 r11.price_.length, .i .i64 r11.most_, .i .i64 r11.yield_, .i .i64 r11.store_, .i .i64 r11.first_, .i .i64 r11.loss_]) :: (.i .i64 1) :: A64 [])))))))))) ⟨ok15, ok17, ok19, ok25, ok27, ok32, ok39, ok40, trivial⟩ (by kernel_rfl) (by simp) ?_
                refine VW.block ?_
                obtain ⟨w_3, hw_3, h⟩ := bindE h
                refine VW.loopO (fun (x : Int × Int × (List Int)) => (⟨((.ref 6 0 x.2.2.length) :: (.i .i64 x.1) :: A :: A :: A :: (.i .i64 x.2.1) :: A :: (A4 (A4 (A4 [])))), [some (7, [[.sl 1 (rows ci_i64 aS.need_), .sl 1 (rows ci_i64 aS.price_), .i .i64 aS.most_, .i .i64 aS.yield_, .i .i64 aS.store_, .i .i64 aS.first_, .i .i64 aS.loss_]]), some (1, rows ci_i64 r5.need_), some (1, rows ci_i64 r5.price_), some (1, rows ci_i64 r7), some (1, rows ci_i64 r9.1), some (1, rows ci_i64 l46), some (1, rows ci_i64 x.2.2), some (7, [[.ref 5 0 l46.length, .ref 6 0 x.2.2.length, .i .i64 r11.most_, .i .i64 r11.yield_, .i .i64 r11.store_, .i .i64 r11.first_, .i .i64 r11.loss_]]), some (1, rows ci_i64 r13), some (1, rows ci_i64 r15.1), some (1, rows ci_i64 r20.need_), some (1, rows ci_i64 r20.price_), some (1, rows ci_i64 r25), some (7, [[.ref 5 0 l46.length, .ref 6 0 x.2.2.length, .i .i64 r11.most_, .i .i64 r11.yield_, .i .i64 r11.store_, .i .i64 r11.first_, .i .i64 r11.loss_]])], (A :: A :: (A4 (A4 ((.ref 6 0 x.2.2.length) :: (.i .i64 k_45) :: A :: A :: A :: (.sl 1 (rows ci_i64 aPlan)) :: (.ptr 0 0 0) :: A :: A :: A :: (.ref 4 0 r9.1.length) :: (.i .i64 r9.2.1) :: (.i .i64 r9.2.2) :: A :: (.ref 8 0 r13.length) :: (.ref 9 0 r15.1.length) :: (.i .i64 r15.2.1) :: (.i .i64 r15.2.2) :: A :: A :: (A4 (A4 (A16 (A16 (A16 ((.agg [.ref 5 0 l46.length, .ref 6 0 x.2.2.length, .i .i64 r11.most_, .i .i64 r11.yield_, .i .i64 r11.store_, .i .i64 r11.first_, .i .i64 r11.loss_]) :: (.i .i64 1) :: A64 []))))))))))⟩ : VS)) hw_3 (Ent.to 14 (by simp [fgt]) (by simp) (by simp) (by simp [bndT, bndV]) (by simp [bndM, bndV]) (hgg := by simp [bndT, bndV])) ?_
                rintro n_3 ⟨k_162, i_163, l164⟩ h1
                rw [g11_L3] at h1
                refine VW.seq ?_
                refine VW.seq ?_
                refine VW.evalA (C := [(15, F15), (17, F17), (19, F19), (25, F25), (27, F27), (32, F32), (39, F39), (40, F40)]) ((.ref 6 0 l164.length) :: (.i .i64 k_162) :: A :: A :: A :: (.i .i64 i_163) :: A :: A :: A :: (.b (ltI i_163 (l164.length : Int))) :: A :: (A4 (A4 []))) [some (7, [[.sl 1 (rows ci_i64 aS.need_), .sl 1 (rows ci_i64 aS.price_), .i .i64 aS.most_, .i .i64 aS.yield_, .i .i64 aS.store_, .i .i64 aS.first_, .i .i64 aS.loss_]]), some (1, rows ci_i64 r5.need_), some (1, rows ci_i64 r5.price_), some (1, rows ci_i64 r7), some (1, rows ci_i64 r9.1), some (1, rows ci_i64 l46), some (1, rows ci_i64 l164), some (7, [[.ref 5 0 l46.length, .ref 6 0 l164.length, .i .i64 r11.most_, .i .i64 r11.yield_, .i .i64 r11.store_, .i .i64 r11.first_, .i .i64 r11.loss_]]), some (1, rows ci_i64 r13), some (1, rows ci_i64 r15.1), some (1, rows ci_i64 r20.need_), some (1, rows ci_i64 r20.price_), some (1, rows ci_i64 r25), some (7, [[.ref 5 0 l46.length, .ref 6 0 l164.length, .i .i64 r11.most_, .i .i64 r11.yield_, .i .i64 r11.store_, .i .i64 r11.first_, .i .i64 r11.loss_]])] (A :: A :: (A4 (A4 ((.ref 6 0 l164.length) :: (.i .i64 k_45) :: A :: A :: A :: (.sl 1 (rows ci_i64 aPlan)) :: (.ptr 0 0 0) :: A :: A :: A :: (.ref 4 0 r9.1.length) :: (.i .i64 r9.2.1) :: (.i .i64 r9.2.2) :: A :: (.ref 8 0 r13.length) :: (.ref 9 0 r15.1.length) :: (.i .i64 r15.2.1) :: (.i .i64 r15.2.2) :: A :: A :: (A4 (A4 (A16 (A16 (A16 ((.agg [.ref 5 0 l46.length, .ref 6 0 l164.length, .i .i64 r11.most_, .i .i64 r11.yield_, .i .i64 r11.store_, .i .i64 r11.first_, .i .i64 r11.loss_]) :: (.i .i64 1) :: A64 [])))))))))) ⟨ok15, ok17, ok19, ok25, ok27, ok32, ok39, ok40, trivial⟩ (by kernel_rfl) (by simp) ?_
                refine VW.condB (b := ltI i_163 (l164.length : Int)) rfl (fun g165 => ?_) (fun g165 => ?_)
                · replace h1 := iteT g165 h1
                  refine VW.skip ?_
                  refine VW.seq ?_
                  refine VW.block ?_
                  refine VW.seq ?_
                  obtain ⟨e166, q167, h1⟩ := bindE h1
                  obtain ⟨f167a, f167b, f167c, f167d⟩ := idx_some q167
                  refine VW.evalA (C := [(15, F15), (17, F17), (19, F19), (25, F25), (27, F27), (32, F32), (39, F39), (40, F40)]) ((.ref 6 0 (l164.set i_163.toNat k_162).length) :: (.i .i64 k_162) :: A :: A :: A :: (.i .i64 i_163) :: A :: (A4 (A4 (A4 [])))) [some (7, [[.sl 1 (rows ci_i64 aS.need_), .sl 1 (rows ci_i64 aS.price_), .i .i64 aS.most_, .i .i64 aS.yield_, .i .i64 aS.store_, .i .i64 aS.first_, .i .i64 aS.loss_]]), some (1, rows ci_i64 r5.need_), some (1, rows ci_i64 r5.price_), some (1, rows ci_i64 r7), some (1, rows ci_i64 r9.1), some (1, rows ci_i64 l46), some (1, rows ci_i64 (l164.set i_163.toNat k_162)), some (7, [[.ref 5 0 l46.length, .ref 6 0 (l164.set i_163.toNat k_162).length, .i .i64 r11.most_, .i .i64 r11.yield_, .i .i64 r11.store_, .i .i64 r11.first_, .i .i64 r11.loss_]]), some (1, rows ci_i64 r13), some (1, rows ci_i64 r15.1), some (1, rows ci_i64 r20.need_), some (1, rows ci_i64 r20.price_), some (1, rows ci_i64 r25), some (7, [[.ref 5 0 l46.length, .ref 6 0 (l164.set i_163.toNat k_162).length, .i .i64 r11.most_, .i .i64 r11.yield_, .i .i64 r11.store_, .i .i64 r11.first_, .i .i64 r11.loss_]])] (A :: A :: (A4 (A4 ((.ref 6 0 (l164.set i_163.toNat k_162).length) :: (.i .i64 k_45) :: A :: A :: A :: (.sl 1 (rows ci_i64 aPlan)) :: (.ptr 0 0 0) :: A :: A :: A :: (.ref 4 0 r9.1.length) :: (.i .i64 r9.2.1) :: (.i .i64 r9.2.2) :: A :: (.ref 8 0 r13.length) :: (.ref 9 0 r15.1.length) :: (.i .i64 r15.2.1) :: (.i .i64 r15.2.2) :: A :: A :: (A4 (A4 (A16 (A16 (A16 ((.agg [.ref 5 0 l46.length, .ref 6 0 (l164.set i_163.toNat k_162).length, .i .i64 r11.most_, .i .i64 r11.yield_, .i .i64 r11.store_, .i .i64 r11.first_, .i .i64 r11.loss_]) :: (.i .i64 1) :: A64 [])))))))))) ⟨ok15, ok17, ok19, ok25, ok27, ok32, ok39, ok40, trivial⟩ (by kernel_rfl) (by simp [f167a, f167b, f167c, f167d]) ?_
                  refine VW.evalA (C := [(15, F15), (17, F17), (19, F19), (25, F25), (27, F27), (32, F32), (39, F39), (40, F40)]) ((.ref 6 0 (l164.set i_163.toNat k_162).length) :: (.i .i64 (aI .i64 k_162 1)) :: A :: A :: A :: (.i .i64 i_163) :: A :: (A4 (A4 (A4 [])))) [some (7, [[.sl 1 (rows ci_i64 aS.need_), .sl 1 (rows ci_i64 aS.price_), .i .i64 aS.most_, .i .i64 aS.yield_, .i .i64 aS.store_, .i .i64 aS.first_, .i .i64 aS.loss_]]), some (1, rows ci_i64 r5.need_), some (1, rows ci_i64 r5.price_), some (1, rows ci_i64 r7), some (1, rows ci_i64 r9.1), some (1, rows ci_i64 l46), some (1, rows ci_i64 (l164.set i_163.toNat k_162)), some (7, [[.ref 5 0 l46.length, .ref 6 0 (l164.set i_163.toNat k_162).length, .i .i64 r11.most_, .i .i64 r11.yield_, .i .i64 r11.store_, .i .i64 r11.first_, .i .i64 r11.loss_]]), some (1, rows ci_i64 r13), some (1, rows ci_i64 r15.1), some (1, rows ci_i64 r20.need_), some (1, rows ci_i64 r20.price_), some (1, rows ci_i64 r25), some (7, [[.ref 5 0 l46.length, .ref 6 0 (l164.set i_163.toNat k_162).length, .i .i64 r11.most_, .i .i64 r11.yield_, .i .i64 r11.store_, .i .i64 r11.first_, .i .i64 r11.loss_]])] (A :: A :: (A4 (A4 ((.ref 6 0 (l164.set i_163.toNat k_162).length) :: (.i .i64 k_45) :: A :: A :: A :: (.sl 1 (rows ci_i64 aPlan)) :: (.ptr 0 0 0) :: A :: A :: A :: (.ref 4 0 r9.1.length) :: (.i .i64 r9.2.1) :: (.i .i64 r9.2.2) :: A :: (.ref 8 0 r13.length) :: (.ref 9 0 r15.1.length) :: (.i .i64 r15.2.1) :: (.i .i64 r15.2.2) :: A :: A :: (A4 (A4 (A16 (A16 (A16 ((.agg [.ref 5 0 l46.length, .ref 6 0 (l164.set i_163.toNat k_162).length, .i .i64 r11.most_, .i .i64 r11.yield_, .i .i64 r11.store_, .i .i64 r11.first_, .i .i64 r11.loss_]) :: (.i .i64 1) :: A64 [])))))))))) ⟨ok15, ok17, ok19, ok25, ok27, ok32, ok39, ok40, trivial⟩ (by kernel_rfl) (by simp) ?_
                  refine VW.evalA (C := [(15, F15), (17, F17), (19, F19), (25, F25), (27, F27), (32, F32), (39, F39), (40, F40)]) ((.ref 6 0 (l164.set i_163.toNat k_162).length) :: (.i .i64 (aI .i64 k_162 1)) :: A :: A :: A :: (.i .i64 (aI .i64 i_163 1)) :: A :: (A4 (A4 (A4 [])))) [some (7, [[.sl 1 (rows ci_i64 aS.need_), .sl 1 (rows ci_i64 aS.price_), .i .i64 aS.most_, .i .i64 aS.yield_, .i .i64 aS.store_, .i .i64 aS.first_, .i .i64 aS.loss_]]), some (1, rows ci_i64 r5.need_), some (1, rows ci_i64 r5.price_), some (1, rows ci_i64 r7), some (1, rows ci_i64 r9.1), some (1, rows ci_i64 l46), some (1, rows ci_i64 (l164.set i_163.toNat k_162)), some (7, [[.ref 5 0 l46.length, .ref 6 0 (l164.set i_163.toNat k_162).length, .i .i64 r11.most_, .i .i64 r11.yield_, .i .i64 r11.store_, .i .i64 r11.first_, .i .i64 r11.loss_]]), some (1, rows ci_i64 r13), some (1, rows ci_i64 r15.1), some (1, rows ci_i64 r20.need_), some (1, rows ci_i64 r20.price_), some (1, rows ci_i64 r25), some (7, [[.ref 5 0 l46.length, .ref 6 0 (l164.set i_163.toNat k_162).length, .i .i64 r11.most_, .i .i64 r11.yield_, .i .i64 r11.store_, .i .i64 r11.first_, .i .i64 r11.loss_]])] (A :: A :: (A4 (A4 ((.ref 6 0 (l164.set i_163.toNat k_162).length) :: (.i .i64 k_45) :: A :: A :: A :: (.sl 1 (rows ci_i64 aPlan)) :: (.ptr 0 0 0) :: A :: A :: A :: (.ref 4 0 r9.1.length) :: (.i .i64 r9.2.1) :: (.i .i64 r9.2.2) :: A :: (.ref 8 0 r13.length) :: (.ref 9 0 r15.1.length) :: (.i .i64 r15.2.1) :: (.i .i64 r15.2.2) :: A :: A :: (A4 (A4 (A16 (A16 (A16 ((.agg [.ref 5 0 l46.length, .ref 6 0 (l164.set i_163.toNat k_162).length, .i .i64 r11.most_, .i .i64 r11.yield_, .i .i64 r11.store_, .i .i64 r11.first_, .i .i64 r11.loss_]) :: (.i .i64 1) :: A64 [])))))))))) ⟨ok15, ok17, ok19, ok25, ok27, ok32, ok39, ok40, trivial⟩ (by kernel_rfl) (by simp) ?_
                  exact (show ∃ _, _ from ⟨(aI .i64 k_162 1, aI .i64 i_163 1, (l164.set i_163.toNat k_162)), leafL h1, (Ent.to 14 (by simp [fgt]) (by simp) (by simp) (by simp [bndT, bndV]) (by simp [bndM, bndV]) (hgg := by simp [bndT, bndV]))⟩)
                · replace h1 := iteF g165 h1
                  refine VW.exit ?_
                  have e_ := leafR h1
                  subst w_3
                  exact (show ∃ _, _ from ⟨(k_162, l164), h, (Ent.to 14 (by simp [fgt]) (by simp) (by simp) (by simp [bndT, bndV]) (by simp [bndM, bndV]) (hgg := by simp [bndT, bndV]))⟩)
              · rintro ⟨k_62, l63⟩ h
                replace h : (g11_j2 r13 r15 r9 aS aPlan k_62 l63).bind _ = _ := h
                rw [g11_j2] at h
                refine VW.seq ?_
                refine VW.evalA (C := [(15, F15), (17, F17), (19, F19), (25, F25), (27, F27), (32, F32), (39, F39), (40, F40)]) (A4 ((.i .i64 k_62) :: A :: A :: (A4 (A4 (A4 []))))) [some (7, [[.sl 1 (rows ci_i64 aS.need_), .sl 1 (rows ci_i64 aS.price_), .i .i64 aS.most_, .i .i64 aS.yield_, .i .i64 aS.store_, .i .i64 aS.first_, .i .i64 aS.loss_]]), some (1, rows ci_i64 r5.need_), some (1, rows ci_i64 r5.price_), some (1, rows ci_i64 r7), some (1, rows ci_i64 r9.1), some (1, rows ci_i64 l46), some (1, rows ci_i64 l63), some (7, [[.ref 5 0 l46.length, .ref 6 0 l63.length, .i .i64 r11.most_, .i .i64 r11.yield_, .i .i64 r11.store_, .i .i64 r11.first_, .i .i64 r11.loss_]]), some (1, rows ci_i64 r13), some (1, rows ci_i64 r15.1), some (1, rows ci_i64 r20.need_), some (1, rows ci_i64 r20.price_), some (1, rows ci_i64 r25), some (7, [[.ref 5 0 l46.length, .ref 6 0 l63.length, .i .i64 r11.most_, .i .i64 r11.yield_, .i .i64 r11.store_, .i .i64 r11.first_, .i .i64 r11.loss_]])] (A :: A :: (A4 (A4 ((.ref 6 0 l63.length) :: (.i .i64 k_45) :: A :: A :: A :: (.sl 1 (rows ci_i64 aPlan)) :: (.ptr 0 0 0) :: A :: A :: A :: (.ref 4 0 r9.1.length) :: (.i .i64 r9.2.1) :: (.i .i64 r9.2.2) :: A :: (.ref 8 0 r13.length) :: (.ref 9 0 r15.1.length) :: (.i .i64 r15.2.1) :: (.i .i64 r15.2.2) :: A :: A :: (A4 (A4 (A16 (A16 (A16 ((.agg [.ref 5 0 l46.length, .ref 6 0 l63.length, .i .i64 r11.most_, .i .i64 r11.yield_, .i .i64 r11.store_, .i .i64 r11.first_, .i .i64 r11.loss_]) :: (.i .i64 1) :: A64 [])))))))))) ⟨ok15, ok17, ok19, ok25, ok27, ok32, ok39, ok40, trivial⟩ (by kernel_rfl) (by simp) ?_
                refine VW.ret (VIn.ret (v := .i .i64 k_62) (by simp) ?_)
                refine VL.evalP (C := [(15, F15), (17, F17), (19, F19), (25, F25), (27, F27), (32, F32), (39, F39), (40, F40)]) (A :: (.i .i64 k_62) :: A4 (A4 (A4 []))) [some (7, [[.sl 1 (rows ci_i64 aS.need_), .sl 1 (rows ci_i64 aS.price_), .i .i64 aS.most_, .i .i64 aS.yield_, .i .i64 aS.store_, .i .i64 aS.first_, .i .i64 aS.loss_]]), some (1, rows ci_i64 r5.need_), some (1, rows ci_i64 r5.price_), some (1, rows ci_i64 r7), some (1, rows ci_i64 r9.1), some (1, rows ci_i64 l46), some (1, rows ci_i64 l63), some (7, [[.ref 5 0 l46.length, .ref 6 0 l63.length, .i .i64 r11.most_, .i .i64 r11.yield_, .i .i64 r11.store_, .i .i64 r11.first_, .i .i64 r11.loss_]]), some (1, rows ci_i64 r13), some (1, rows ci_i64 r15.1), some (1, rows ci_i64 r20.need_), some (1, rows ci_i64 r20.price_), some (1, rows ci_i64 r25), some (7, [[.ref 5 0 l46.length, .ref 6 0 l63.length, .i .i64 r11.most_, .i .i64 r11.yield_, .i .i64 r11.store_, .i .i64 r11.first_, .i .i64 r11.loss_]])] (A :: (.sl 1 (rows ci_i64 aPlan)) :: (.ptr 0 0 0) :: A :: A :: A :: (.ref 4 0 r9.1.length) :: (.i .i64 r9.2.1) :: (.i .i64 r9.2.2) :: A :: (.ref 8 0 r13.length) :: (.ref 9 0 r15.1.length) :: (.i .i64 r15.2.1) :: (.i .i64 r15.2.2) :: A :: A :: (A4 (A4 (A16 (A16 (A16 ((.agg [.ref 5 0 l46.length, .ref 6 0 l63.length, .i .i64 r11.most_, .i .i64 r11.yield_, .i .i64 r11.store_, .i .i64 r11.first_, .i .i64 r11.loss_]) :: (.i .i64 1) :: A64 []))))))) ⟨ok15, ok17, ok19, ok25, ok27, ok32, ok39, ok40, trivial⟩ (by kernel_rfl) (by simp) ?_
                refine VW.seq ?_
                refine VW.evalA (C := [(15, F15), (17, F17), (19, F19), (25, F25), (27, F27), (32, F32), (39, F39), (40, F40)]) (A4 ((.i .i64 k_62) :: A :: (A4 (A4 [])))) [some (7, [[.sl 1 (rows ci_i64 aS.need_), .sl 1 (rows ci_i64 aS.price_), .i .i64 aS.most_, .i .i64 aS.yield_, .i .i64 aS.store_, .i .i64 aS.first_, .i .i64 aS.loss_]]), some (1, rows ci_i64 r5.need_), some (1, rows ci_i64 r5.price_), some (1, rows ci_i64 r7), some (1, rows ci_i64 r9.1), some (1, rows ci_i64 l46), some (1, rows ci_i64 l63), some (7, [[.ref 5 0 l46.length, .ref 6 0 l63.length, .i .i64 r11.most_, .i .i64 r11.yield_, .i .i64 r11.store_, .i .i64 r11.first_, .i .i64 r11.loss_]]), some (1, rows ci_i64 r13), some (1, rows ci_i64 r15.1), some (1, rows ci_i64 r20.need_), some (1, rows ci_i64 r20.price_), some (1, rows ci_i64 r25), some (7, [[.ref 5 0 l46.length, .ref 6 0 l63.length, .i .i64 r11.most_, .i .i64 r11.yield_, .i .i64 r11.store_, .i .i64 r11.first_, .i .i64 r11.loss_]])] (A :: (.sl 1 (rows ci_i64 aPlan)) :: (.ptr 0 0 0) :: A :: A :: A :: (.ref 4 0 r9.1.length) :: (.i .i64 r9.2.1) :: (.i .i64 r9.2.2) :: A :: (.ref 8 0 r13.length) :: (.ref 9 0 r15.1.length) :: (.i .i64 r15.2.1) :: (.i .i64 r15.2.2) :: A :: A :: (A4 (A4 (A16 (A16 (A16 ((.agg [.ref 5 0 l46.length, .ref 6 0 l63.length, .i .i64 r11.most_, .i .i64 r11.yield_, .i .i64 r11.store_, .i .i64 r11.first_, .i .i64 r11.loss_]) :: (.i .i64 1) :: A64 []))))))) ⟨ok15, ok17, ok19, ok25, ok27, ok32, ok39, ok40, trivial⟩ (by kernel_rfl) (by simp) ?_
                refine VW.ret (VIn.ret (v := .i .i64 k_62) (by simp) ?_)
                refine VL.evalP (C := [(15, F15), (17, F17), (19, F19), (25, F25), (27, F27), (32, F32), (39, F39), (40, F40)]) (A :: (.sl 1 (rows ci_i64 aPlan)) :: (.ptr 0 0 0) :: A :: A :: A :: (.ref 4 0 r9.1.length) :: (.i .i64 r9.2.1) :: (.i .i64 r9.2.2) :: A :: (.ref 8 0 r13.length) :: (.ref 9 0 r15.1.length) :: (.i .i64 r15.2.1) :: (.i .i64 r15.2.2) :: (.i .i64 k_62) :: A :: A :: A :: (A4 (A4 (A16 (A16 (A16 (A64 []))))))) [some (7, [[.sl 1 (rows ci_i64 aS.need_), .sl 1 (rows ci_i64 aS.price_), .i .i64 aS.most_, .i .i64 aS.yield_, .i .i64 aS.store_, .i .i64 aS.first_, .i .i64 aS.loss_]]), some (1, rows ci_i64 r5.need_), some (1, rows ci_i64 r5.price_), some (1, rows ci_i64 r7), some (1, rows ci_i64 r9.1), some (1, rows ci_i64 l46), some (1, rows ci_i64 l63), some (7, [[.ref 5 0 l46.length, .ref 6 0 l63.length, .i .i64 r11.most_, .i .i64 r11.yield_, .i .i64 r11.store_, .i .i64 r11.first_, .i .i64 r11.loss_]]), some (1, rows ci_i64 r13), some (1, rows ci_i64 r15.1), some (1, rows ci_i64 r20.need_), some (1, rows ci_i64 r20.price_), some (1, rows ci_i64 r25), some (7, [[.ref 5 0 l46.length, .ref 6 0 l63.length, .i .i64 r11.most_, .i .i64 r11.yield_, .i .i64 r11.store_, .i .i64 r11.first_, .i .i64 r11.loss_]])] [] ⟨ok15, ok17, ok19, ok25, ok27, ok32, ok39, ok40, trivial⟩ (by kernel_rfl) (by simp) ?_
                refine VW.seq ?_
                refine VW.inline (C := [(15, F15), (17, F17), (19, F19), (25, F25), (27, F27), (32, F32), (39, F39), (40, F40)]) 2 (A :: (.sl 1 (rows ci_i64 aPlan)) :: (.ptr 0 0 0) :: A :: A :: A :: (.ref 4 0 r9.1.length) :: (.i .i64 r9.2.1) :: (.i .i64 r9.2.2) :: A :: A :: (.ref 9 0 r15.1.length) :: (.i .i64 r15.2.1) :: (.i .i64 r15.2.2) :: A :: (A4 (A4 (A4 (A16 (A16 (A16 ((.ref 8 0 r13.length) :: (.i .i64 k_62) :: A :: (A4 (A4 (A4 (A16 (A16 (A16 [])))))))))))))) [some (7, [[.sl 1 (rows ci_i64 aS.need_), .sl 1 (rows ci_i64 aS.price_), .i .i64 aS.most_, .i .i64 aS.yield_, .i .i64 aS.store_, .i .i64 aS.first_, .i .i64 aS.loss_]]), some (1, rows ci_i64 r5.need_), some (1, rows ci_i64 r5.price_), some (1, rows ci_i64 r7), some (1, rows ci_i64 r9.1), some (1, rows ci_i64 l46), some (1, rows ci_i64 l63), some (7, [[.ref 5 0 l46.length, .ref 6 0 l63.length, .i .i64 r11.most_, .i .i64 r11.yield_, .i .i64 r11.store_, .i .i64 r11.first_, .i .i64 r11.loss_]]), some (1, rows ci_i64 r13), some (1, rows ci_i64 r15.1), some (1, rows ci_i64 r20.need_), some (1, rows ci_i64 r20.price_), some (1, rows ci_i64 r25), some (7, [[.ref 5 0 l46.length, .ref 6 0 l63.length, .i .i64 r11.most_, .i .i64 r11.yield_, .i .i64 r11.store_, .i .i64 r11.first_, .i .i64 r11.loss_]])] [] rfl ⟨ok15, ok17, ok19, ok25, ok27, ok32, ok39, ok40, trivial⟩ (by kernel_rfl) (by simp) rfl rfl Try.func31 rfl rfl rfl rfl rfl ?_
                show VW _ _ _ (⟨((.ref 8 0 r13.length) :: (.i .i64 k_62) :: A :: (A16 [])), [some (7, [[.sl 1 (rows ci_i64 aS.need_), .sl 1 (rows ci_i64 aS.price_), .i .i64 aS.most_, .i .i64 aS.yield_, .i .i64 aS.store_, .i .i64 aS.first_, .i .i64 aS.loss_]]), some (1, rows ci_i64 r5.need_), some (1, rows ci_i64 r5.price_), some (1, rows ci_i64 r7), some (1, rows ci_i64 r9.1), some (1, rows ci_i64 l46), some (1, rows ci_i64 l63), some (7, [[.ref 5 0 l46.length, .ref 6 0 l63.length, .i .i64 r11.most_, .i .i64 r11.yield_, .i .i64 r11.store_, .i .i64 r11.first_, .i .i64 r11.loss_]]), some (1, rows ci_i64 r13), some (1, rows ci_i64 r15.1), some (1, rows ci_i64 r20.need_), some (1, rows ci_i64 r20.price_), some (1, rows ci_i64 r25), some (7, [[.ref 5 0 l46.length, .ref 6 0 l63.length, .i .i64 r11.most_, .i .i64 r11.yield_, .i .i64 r11.store_, .i .i64 r11.first_, .i .i64 r11.loss_]])], (A :: (.sl 1 (rows ci_i64 aPlan)) :: (.ptr 0 0 0) :: A :: A :: A :: (.ref 4 0 r9.1.length) :: (.i .i64 r9.2.1) :: (.i .i64 r9.2.2) :: A :: A :: (.ref 9 0 r15.1.length) :: (.i .i64 r15.2.1) :: (.i .i64 r15.2.2) :: A :: (A4 (A4 (A4 (A16 (A16 (A16 ((.ref 8 0 r13.length) :: (.i .i64 k_62) :: A :: (A4 (A4 (A4 (A16 (A16 (A16 []))))))))))))))⟩ : VS)
                refine VW.seq ?_
                refine VW.evalA (C := [(15, F15), (17, F17), (19, F19), (25, F25), (27, F27), (32, F32), (39, F39), (40, F40)]) ((.ref 8 0 r13.length) :: (.i .i64 k_62) :: A :: (A16 [])) [some (7, [[.sl 1 (rows ci_i64 aS.need_), .sl 1 (rows ci_i64 aS.price_), .i .i64 aS.most_, .i .i64 aS.yield_, .i .i64 aS.store_, .i .i64 aS.first_, .i .i64 aS.loss_]]), some (1, rows ci_i64 r5.need_), some (1, rows ci_i64 r5.price_), some (1, rows ci_i64 r7), some (1, rows ci_i64 r9.1), some (1, rows ci_i64 l46), some (1, rows ci_i64 l63), some (7, [[.ref 5 0 l46.length, .ref 6 0 l63.length, .i .i64 r11.most_, .i .i64 r11.yield_, .i .i64 r11.store_, .i .i64 r11.first_, .i .i64 r11.loss_]]), some (1, rows ci_i64 r13), some (1, rows ci_i64 r15.1), some (1, rows ci_i64 r20.need_), some (1, rows ci_i64 r20.price_), some (1, rows ci_i64 r25), some (7, [[.ref 5 0 l46.length, .ref 6 0 l63.length, .i .i64 r11.most_, .i .i64 r11.yield_, .i .i64 r11.store_, .i .i64 r11.first_, .i .i64 r11.loss_]])] (A :: (.sl 1 (rows ci_i64 aPlan)) :: (.ptr 0 0 0) :: A :: A :: A :: (.ref 4 0 r9.1.length) :: (.i .i64 r9.2.1) :: (.i .i64 r9.2.2) :: A :: A :: (.ref 9 0 r15.1.length) :: (.i .i64 r15.2.1) :: (.i .i64 r15.2.2) :: A :: (A4 (A4 (A4 (A16 (A16 (A16 ((.ref 8 0 r13.length) :: (.i .i64 k_62) :: A :: (A4 (A4 (A4 (A16 (A16 (A16 [])))))))))))))) ⟨ok15, ok17, ok19, ok25, ok27, ok32, ok39, ok40, trivial⟩ (by kernel_rfl) (by simp) ?_
                refine VW.join (fun (v : Int × (List Int)) => (⟨(A :: (.i .i64 v.1) :: A :: (A16 [])), [some (7, [[.sl 1 (rows ci_i64 aS.need_), .sl 1 (rows ci_i64 aS.price_), .i .i64 aS.most_, .i .i64 aS.yield_, .i .i64 aS.store_, .i .i64 aS.first_, .i .i64 aS.loss_]]), some (1, rows ci_i64 r5.need_), some (1, rows ci_i64 r5.price_), some (1, rows ci_i64 r7), some (1, rows ci_i64 r9.1), some (1, rows ci_i64 l46), some (1, rows ci_i64 l63), some (7, [[.ref 5 0 l46.length, .ref 6 0 l63.length, .i .i64 r11.most_, .i .i64 r11.yield_, .i .i64 r11.store_, .i .i64 r11.first_, .i .i64 r11.loss_]]), some (1, rows ci_i64 v.2), some (1, rows ci_i64 r15.1), some (1, rows ci_i64 r20.need_), some (1, rows ci_i64 r20.price_), some (1, rows ci_i64 r25), some (7, [[.ref 5 0 l46.length, .ref 6 0 l63.length, .i .i64 r11.most_, .i .i64 r11.yield_, .i .i64 r11.store_, .i .i64 r11.first_, .i .i64 r11.loss_]])], (A :: (.sl 1 (rows ci_i64 aPlan)) :: (.ptr 0 0 0) :: A :: A :: A :: (.ref 4 0 r9.1.length) :: (.i .i64 r9.2.1) :: (.i .i64 r9.2.2) :: A :: A :: (.ref 9 0 r15.1.length) :: (.i .i64 r15.2.1) :: (.i .i64 r15.2.2) :: A :: (A4 (A4 (A4 (A16 (A16 (A16 ((.ref 8 0 v.2.length) :: (.i .i64 k_62) :: A :: (A4 (A4 (A4 (A16 (A16 (A16 []))))))))))))))⟩ : VS)) (fun v => (g11_j3 r15 r9 aS aPlan (v.1) (v.2)).bind some = some r) ?_ ?_
                · refine VW.seq ?_
                  refine VW.evalA (C := [(15, F15), (17, F17), (19, F19), (25, F25), (27, F27), (32, F32), (39, F39), (40, F40)]) ((.ref 8 0 r13.length) :: (.i .i64 k_62) :: A :: A :: A :: (.i .i64 0) :: A :: (A4 (A4 (A4 [])))) [some (7, [[.sl 1 (rows ci_i64 aS.need_), .sl 1 (rows ci_i64 aS.price_), .i .i64 aS.most_, .i .i64 aS.yield_, .i .i64 aS.store_, .i .i64 aS.first_, .i .i64 aS.loss_]]), some (1, rows ci_i64 r5.need_), some (1, rows ci_i64 r5.price_), some (1, rows ci_i64 r7), some (1, rows ci_i64 r9.1), some (1, rows ci_i64 l46), some (1, rows ci_i64 l63), some (7, [[.ref 5 0 l46.length, .ref 6 0 l63.length, .i .i64 r11.most_, .i .i64 r11.yield_, .i .i64 r11.store_, .i .i64 r11.first_, .i .i64 r11.loss_]]), some (1, rows ci_i64 r13), some (1, rows ci_i64 r15.1), some (1, rows ci_i64 r20.need_), some (1, rows ci_i64 r20.price_), some (1, rows ci_i64 r25), some (7, [[.ref 5 0 l46.length, .ref 6 0 l63.length, .i .i64 r11.most_, .i .i64 r11.yield_, .i .i64 r11.store_, .i .i64 r11.first_, .i .i64 r11.loss_]])] (A :: (.sl 1 (rows ci_i64 aPlan)) :: (.ptr 0 0 0) :: A :: A :: A :: (.ref 4 0 r9.1.length) :: (.i .i64 r9.2.1) :: (.i .i64 r9.2.2) :: A :: A :: (.ref 9 0 r15.1.length) :: (.i .i64 r15.2.1) :: (.i .i64 r15.2.2) :: A :: (A4 (A4 (A4 (A16 (A16 (A16 ((.ref 8 0 r13.length) :: (.i .i64 k_62) :: A :: (A4 (A4 (A4 (A16 (A16 (A16 [])))))))))))))) ⟨ok15, ok17, ok19, ok25, ok27, ok32, ok39, ok40, trivial⟩ (by kernel_rfl) (by simp) ?_
                  refine VW.block ?_
                  obtain ⟨w_2, hw_2, h⟩ := bindE h
                  refine VW.loopO (fun (x : Int × Int × (List Int)) => (⟨((.ref 8 0 x.2.2.length) :: (.i .i64 x.1) :: A :: A :: A :: (.i .i64 x.2.1) :: A :: (A4 (A4 (A4 [])))), [some (7, [[.sl 1 (rows ci_i64 aS.need_), .sl 1 (rows ci_i64 aS.price_), .i .i64 aS.most_, .i .i64 aS.yield_, .i .i64 aS.store_, .i .i64 aS.first_, .i .i64 aS.loss_]]), some (1, rows ci_i64 r5.need_), some (1, rows ci_i64 r5.price_), some (1, rows ci_i64 r7), some (1, rows ci_i64 r9.1), some (1, rows ci_i64 l46), some (1, rows ci_i64 l63), some (7, [[.ref 5 0 l46.length, .ref 6 0 l63.length, .i .i64 r11.most_, .i .i64 r11.yield_, .i .i64 r11.store_, .i .i64 r11.first_, .i .i64 r11.loss_]]), some (1, rows ci_i64 x.2.2), some (1, rows ci_i64 r15.1), some (1, rows ci_i64 r20.need_), some (1, rows ci_i64 r20.price_), some (1, rows ci_i64 r25), some (7, [[.ref 5 0 l46.length, .ref 6 0 l63.length, .i .i64 r11.most_, .i .i64 r11.yield_, .i .i64 r11.store_, .i .i64 r11.first_, .i .i64 r11.loss_]])], (A :: (.sl 1 (rows ci_i64 aPlan)) :: (.ptr 0 0 0) :: A :: A :: A :: (.ref 4 0 r9.1.length) :: (.i .i64 r9.2.1) :: (.i .i64 r9.2.2) :: A :: A :: (.ref 9 0 r15.1.length) :: (.i .i64 r15.2.1) :: (.i .i64 r15.2.2) :: A :: (A4 (A4 (A4 (A16 (A16 (A16 ((.ref 8 0 x.2.2.length) :: (.i .i64 k_62) :: A :: (A4 (A4 (A4 (A16 (A16 (A16 []))))))))))))))⟩ : VS)) hw_2 (Ent.to 14 (by simp [fgt]) (by simp) (by simp) (by simp [bndT, bndV]) (by simp [bndM, bndV]) (hgg := by simp [bndT, bndV])) ?_
                  rintro n_2 ⟨k_147, i_148, l149⟩ h1
                  rw [g11_L2] at h1
                  refine VW.seq ?_
                  refine VW.seq ?_
                  refine VW.evalA (C := [(15, F15), (17, F17), (19, F19), (25, F25), (27, F27), (32, F32), (39, F39), (40, F40)]) ((.ref 8 0 l149.length) :: (.i .i64 k_147) :: A :: A :: A :: (.i .i64 i_148) :: A :: A :: A :: (.b (ltI i_148 (l149.length : Int))) :: A :: (A4 (A4 []))) [some (7, [[.sl 1 (rows ci_i64 aS.need_), .sl 1 (rows ci_i64 aS.price_), .i .i64 aS.most_, .i .i64 aS.yield_, .i .i64 aS.store_, .i .i64 aS.first_, .i .i64 aS.loss_]]), some (1, rows ci_i64 r5.need_), some (1, rows ci_i64 r5.price_), some (1, rows ci_i64 r7), some (1, rows ci_i64 r9.1), some (1, rows ci_i64 l46), some (1, rows ci_i64 l63), some (7, [[.ref 5 0 l46.length, .ref 6 0 l63.length, .i .i64 r11.most_, .i .i64 r11.yield_, .i .i64 r11.store_, .i .i64 r11.first_, .i .i64 r11.loss_]]), some (1, rows ci_i64 l149), some (1, rows ci_i64 r15.1), some (1, rows ci_i64 r20.need_), some (1, rows ci_i64 r20.price_), some (1, rows ci_i64 r25), some (7, [[.ref 5 0 l46.length, .ref 6 0 l63.length, .i .i64 r11.most_, .i .i64 r11.yield_, .i .i64 r11.store_, .i .i64 r11.first_, .i .i64 r11.loss_]])] (A :: (.sl 1 (rows ci_i64 aPlan)) :: (.ptr 0 0 0) :: A :: A :: A :: (.ref 4 0 r9.1.length) :: (.i .i64 r9.2.1) :: (.i .i64 r9.2.2) :: A :: A :: (.ref 9 0 r15.1.length) :: (.i .i64 r15.2.1) :: (.i .i64 r15.2.2) :: A :: (A4 (A4 (A4 (A16 (A16 (A16 ((.ref 8 0 l149.length) :: (.i .i64 k_62) :: A :: (A4 (A4 (A4 (A16 (A16 (A16 [])))))))))))))) ⟨ok15, ok17, ok19, ok25, ok27, ok32, ok39, ok40, trivial⟩ (by kernel_rfl) (by simp) ?_
                  refine VW.condB (b := ltI i_148 (l149.length : Int)) rfl (fun g150 => ?_) (fun g150 => ?_)
                  · replace h1 := iteT g150 h1
                    refine VW.skip ?_
                    refine VW.seq ?_
                    refine VW.block ?_
                    refine VW.seq ?_
                    obtain ⟨e151, q152, h1⟩ := bindE h1
                    obtain ⟨f152a, f152b, f152c, f152d⟩ := idx_some q152
                    refine VW.evalA (C := [(15, F15), (17, F17), (19, F19), (25, F25), (27, F27), (32, F32), (39, F39), (40, F40)]) ((.ref 8 0 (l149.set i_148.toNat k_147).length) :: (.i .i64 k_147) :: A :: A :: A :: (.i .i64 i_148) :: A :: (A4 (A4 (A4 [])))) [some (7, [[.sl 1 (rows ci_i64 aS.need_), .sl 1 (rows ci_i64 aS.price_), .i .i64 aS.most_, .i .i64 aS.yield_, .i .i64 aS.store_, .i .i64 aS.first_, .i .i64 aS.loss_]]), some (1, rows ci_i64 r5.need_), some (1, rows ci_i64 r5.price_), some (1, rows ci_i64 r7), some (1, rows ci_i64 r9.1), some (1, rows ci_i64 l46), some (1, rows ci_i64 l63), some (7, [[.ref 5 0 l46.length, .ref 6 0 l63.length, .i .i64 r11.most_, .i .i64 r11.yield_, .i .i64 r11.store_, .i .i64 r11.first_, .i .i64 r11.loss_]]), some (1, rows ci_i64 (l149.set i_148.toNat k_147)), some (1, rows ci_i64 r15.1), some (1, rows ci_i64 r20.need_), some (1, rows ci_i64 r20.price_), some (1, rows ci_i64 r25), some (7, [[.ref 5 0 l46.length, .ref 6 0 l63.length, .i .i64 r11.most_, .i .i64 r11.yield_, .i .i64 r11.store_, .i .i64 r11.first_, .i .i64 r11.loss_]])] (A :: (.sl 1 (rows ci_i64 aPlan)) :: (.ptr 0 0 0) :: A :: A :: A :: (.ref 4 0 r9.1.length) :: (.i .i64 r9.2.1) :: (.i .i64 r9.2.2) :: A :: A :: (.ref 9 0 r15.1.length) :: (.i .i64 r15.2.1) :: (.i .i64 r15.2.2) :: A :: (A4 (A4 (A4 (A16 (A16 (A16 ((.ref 8 0 (l149.set i_148.toNat k_147).length) :: (.i .i64 k_62) :: A :: (A4 (A4 (A4 (A16 (A16 (A16 [])))))))))))))) ⟨ok15, ok17, ok19, ok25, ok27, ok32, ok39, ok40, trivial⟩ (by kernel_rfl) (by simp [f152a, f152b, f152c, f152d]) ?_
                    refine VW.evalA (C := [(15, F15), (17, F17), (19, F19), (25, F25), (27, F27), (32, F32), (39, F39), (40, F40)]) ((.ref 8 0 (l149.set i_148.toNat k_147).length) :: (.i .i64 (aI .i64 k_147 1)) :: A :: A :: A :: (.i .i64 i_148) :: A :: (A4 (A4 (A4 [])))) [some (7, [[.sl 1 (rows ci_i64 aS.need_), .sl 1 (rows ci_i64 aS.price_), .i .i64 aS.most_, .i .i64 aS.yield_, .i .i64 aS.store_, .i .i64 aS.first_, .i .i64 aS.loss_]]), some (1, rows ci_i64 r5.need_), some (1, rows ci_i64 r5.price_), some (1, rows ci_i64 r7), some (1, rows ci_i64 r9.1), some (1, rows ci_i64 l46), some (1, rows ci_i64 l63), some (7, [[.ref 5 0 l46.length, .ref 6 0 l63.length, .i .i64 r11.most_, .i .i64 r11.yield_, .i .i64 r11.store_, .i .i64 r11.first_, .i .i64 r11.loss_]]), some (1, rows ci_i64 (l149.set i_148.toNat k_147)), some (1, rows ci_i64 r15.1), some (1, rows ci_i64 r20.need_), some (1, rows ci_i64 r20.price_), some (1, rows ci_i64 r25), some (7, [[.ref 5 0 l46.length, .ref 6 0 l63.length, .i .i64 r11.most_, .i .i64 r11.yield_, .i .i64 r11.store_, .i .i64 r11.first_, .i .i64 r11.loss_]])] (A :: (.sl 1 (rows ci_i64 aPlan)) :: (.ptr 0 0 0) :: A :: A :: A :: (.ref 4 0 r9.1.length) :: (.i .i64 r9.2.1) :: (.i .i64 r9.2.2) :: A :: A :: (.ref 9 0 r15.1.length) :: (.i .i64 r15.2.1) :: (.i .i64 r15.2.2) :: A :: (A4 (A4 (A4 (A16 (A16 (A16 ((.ref 8 0 (l149.set i_148.toNat k_147).length) :: (.i .i64 k_62) :: A :: (A4 (A4 (A4 (A16 (A16 (A16 [])))))))))))))) ⟨ok15, ok17, ok19, ok25, ok27, ok32, ok39, ok40, trivial⟩ (by kernel_rfl) (by simp) ?_
                    refine VW.evalA (C := [(15, F15), (17, F17), (19, F19), (25, F25), (27, F27), (32, F32), (39, F39), (40, F40)]) ((.ref 8 0 (l149.set i_148.toNat k_147).length) :: (.i .i64 (aI .i64 k_147 1)) :: A :: A :: A :: (.i .i64 (aI .i64 i_148 1)) :: A :: (A4 (A4 (A4 [])))) [some (7, [[.sl 1 (rows ci_i64 aS.need_), .sl 1 (rows ci_i64 aS.price_), .i .i64 aS.most_, .i .i64 aS.yield_, .i .i64 aS.store_, .i .i64 aS.first_, .i .i64 aS.loss_]]), some (1, rows ci_i64 r5.need_), some (1, rows ci_i64 r5.price_), some (1, rows ci_i64 r7), some (1, rows ci_i64 r9.1), some (1, rows ci_i64 l46), some (1, rows ci_i64 l63), some (7, [[.ref 5 0 l46.length, .ref 6 0 l63.length, .i .i64 r11.most_, .i .i64 r11.yield_, .i .i64 r11.store_, .i .i64 r11.first_, .i .i64 r11.loss_]]), some (1, rows ci_i64 (l149.set i_148.toNat k_147)), some (1, rows ci_i64 r15.1), some (1, rows ci_i64 r20.need_), some (1, rows ci_i64 r20.price_), some (1, rows ci_i64 r25), some (7, [[.ref 5 0 l46.length, .ref 6 0 l63.length, .i .i64 r11.most_, .i .i64 r11.yield_, .i .i64 r11.store_, .i .i64 r11.first_, .i .i64 r11.loss_]])] (A :: (.sl 1 (rows ci_i64 aPlan)) :: (.ptr 0 0 0) :: A :: A :: A :: (.ref 4 0 r9.1.length) :: (.i .i64 r9.2.1) :: (.i .i64 r9.2.2) :: A :: A :: (.ref 9 0 r15.1.length) :: (.i .i64 r15.2.1) :: (.i .i64 r15.2.2) :: A :: (A4 (A4 (A4 (A16 (A16 (A16 ((.ref 8 0 (l149.set i_148.toNat k_147).length) :: (.i .i64 k_62) :: A :: (A4 (A4 (A4 (A16 (A16 (A16 [])))))))))))))) ⟨ok15, ok17, ok19, ok25, ok27, ok32, ok39, ok40, trivial⟩ (by kernel_rfl) (by simp) ?_
                    exact (show ∃ _, _ from ⟨(aI .i64 k_147 1, aI .i64 i_148 1, (l149.set i_148.toNat k_147)), leafL h1, (Ent.to 14 (by simp [fgt]) (by simp) (by simp) (by simp [bndT, bndV]) (by simp [bndM, bndV]) (hgg := by simp [bndT, bndV]))⟩)
                  · replace h1 := iteF g150 h1
                    refine VW.exit ?_
                    have e_ := leafR h1
                    subst w_2
                    exact (show ∃ _, _ from ⟨(k_147, l149), h, (Ent.to 14 (by simp [fgt]) (by simp) (by simp) (by simp [bndT, bndV]) (by simp [bndM, bndV]) (hgg := by simp [bndT, bndV]))⟩)
                · rintro ⟨k_79, l80⟩ h
                  replace h : (g11_j3 r15 r9 aS aPlan k_79 l80).bind _ = _ := h
                  rw [g11_j3] at h
                  refine VW.seq ?_
                  refine VW.evalA (C := [(15, F15), (17, F17), (19, F19), (25, F25), (27, F27), (32, F32), (39, F39), (40, F40)]) (A4 ((.i .i64 k_79) :: A :: A :: (A4 (A4 (A4 []))))) [some (7, [[.sl 1 (rows ci_i64 aS.need_), .sl 1 (rows ci_i64 aS.price_), .i .i64 aS.most_, .i .i64 aS.yield_, .i .i64 aS.store_, .i .i64 aS.first_, .i .i64 aS.loss_]]), some (1, rows ci_i64 r5.need_), some (1, rows ci_i64 r5.price_), some (1, rows ci_i64 r7), some (1, rows ci_i64 r9.1), some (1, rows ci_i64 l46), some (1, rows ci_i64 l63), some (7, [[.ref 5 0 l46.length, .ref 6 0 l63.length, .i .i64 r11.most_, .i .i64 r11.yield_, .i .i64 r11.store_, .i .i64 r11.first_, .i .i64 r11.loss_]]), some (1, rows ci_i64 l80), some (1, rows ci_i64 r15.1), some (1, rows ci_i64 r20.need_), some (1, rows ci_i64 r20.price_), some (1, rows ci_i64 r25), some (7, [[.ref 5 0 l46.length, .ref 6 0 l63.length, .i .i64 r11.most_, .i .i64 r11.yield_, .i .i64 r11.store_, .i .i64 r11.first_, .i .i64 r11.loss_]])] (A :: (.sl 1 (rows ci_i64 aPlan)) :: (.ptr 0 0 0) :: A :: A :: A :: (.ref 4 0 r9.1.length) :: (.i .i64 r9.2.1) :: (.i .i64 r9.2.2) :: A :: A :: (.ref 9 0 r15.1.length) :: (.i .i64 r15.2.1) :: (.i .i64 r15.2.2) :: A :: (A4 (A4 (A4 (A16 (A16 (A16 ((.ref 8 0 l80.length) :: (.i .i64 k_62) :: A :: (A4 (A4 (A4 (A16 (A16 (A16 [])))))))))))))) ⟨ok15, ok17, ok19, ok25, ok27, ok32, ok39, ok40, trivial⟩ (by kernel_rfl) (by simp) ?_
                  refine VW.ret (VIn.ret (v := .i .i64 k_79) (by simp) ?_)
                  refine VL.evalP (C := [(15, F15), (17, F17), (19, F19), (25, F25), (27, F27), (32, F32), (39, F39), (40, F40)]) (A :: (.sl 1 (rows ci_i64 aPlan)) :: (.ptr 0 0 0) :: A :: A :: A :: (.ref 4 0 r9.1.length) :: (.i .i64 r9.2.1) :: (.i .i64 r9.2.2) :: A :: A :: (.ref 9 0 r15.1.length) :: (.i .i64 r15.2.1) :: (.i .i64 r15.2.2) :: (.i .i64 k_79) :: A :: A :: A :: (A4 (A4 (A16 (A16 (A16 (A64 []))))))) [some (7, [[.sl 1 (rows ci_i64 aS.need_), .sl 1 (rows ci_i64 aS.price_), .i .i64 aS.most_, .i .i64 aS.yield_, .i .i64 aS.store_, .i .i64 aS.first_, .i .i64 aS.loss_]]), some (1, rows ci_i64 r5.need_), some (1, rows ci_i64 r5.price_), some (1, rows ci_i64 r7), some (1, rows ci_i64 r9.1), some (1, rows ci_i64 l46), some (1, rows ci_i64 l63), some (7, [[.ref 5 0 l46.length, .ref 6 0 l63.length, .i .i64 r11.most_, .i .i64 r11.yield_, .i .i64 r11.store_, .i .i64 r11.first_, .i .i64 r11.loss_]]), some (1, rows ci_i64 l80), some (1, rows ci_i64 r15.1), some (1, rows ci_i64 r20.need_), some (1, rows ci_i64 r20.price_), some (1, rows ci_i64 r25), some (7, [[.ref 5 0 l46.length, .ref 6 0 l63.length, .i .i64 r11.most_, .i .i64 r11.yield_, .i .i64 r11.store_, .i .i64 r11.first_, .i .i64 r11.loss_]])] [] ⟨ok15, ok17, ok19, ok25, ok27, ok32, ok39, ok40, trivial⟩ (by kernel_rfl) (by simp) ?_
                  refine VW.seq ?_
                  refine VW.seq ?_
                  obtain ⟨w83, q134, h⟩ := bindE h
                  refine VW.evalA (C := [(15, F15), (17, F17), (19, F19), (25, F25), (27, F27), (32, F32), (39, F39), (40, F40)]) (A :: (.sl 1 (rows ci_i64 aPlan)) :: (.ptr 0 0 0) :: A :: A :: A :: (.ref 4 0 r9.1.length) :: (.i .i64 r9.2.1) :: (.i .i64 r9.2.2) :: A :: A :: (.ref 9 0 r15.1.length) :: A :: A :: A :: (A16 (A64 ((.b ((w83 || (!eqI r15.2.1 r9.2.1)) || (!eqI r15.2.2 r9.2.2))) :: A :: A :: (A4 (A4 (A16 (A16 [])))))))) [some (7, [[.sl 1 (rows ci_i64 aS.need_), .sl 1 (rows ci_i64 aS.price_), .i .i64 aS.most_, .i .i64 aS.yield_, .i .i64 aS.store_, .i .i64 aS.first_, .i .i64 aS.loss_]]), some (1, rows ci_i64 r5.need_), some (1, rows ci_i64 r5.price_), some (1, rows ci_i64 r7), some (1, rows ci_i64 r9.1), some (1, rows ci_i64 l46), some (1, rows ci_i64 l63), some (7, [[.ref 5 0 l46.length, .ref 6 0 l63.length, .i .i64 r11.most_, .i .i64 r11.yield_, .i .i64 r11.store_, .i .i64 r11.first_, .i .i64 r11.loss_]]), some (1, rows ci_i64 l80), some (1, rows ci_i64 r15.1), some (1, rows ci_i64 r20.need_), some (1, rows ci_i64 r20.price_), some (1, rows ci_i64 r25), some (7, [[.ref 5 0 l46.length, .ref 6 0 l63.length, .i .i64 r11.most_, .i .i64 r11.yield_, .i .i64 r11.store_, .i .i64 r11.first_, .i .i64 r11.loss_]])] [] ⟨ok15, ok17, ok19, ok25, ok27, ok32, ok39, ok40, trivial⟩ (by kernel_rfl) (by
                      rcases Bool.eq_false_or_eq_true (ltI k_79 0) with q135 | q135
                      · first
                        | (simp at q135; done)
                        | (rw [if_pos q135] at q134
                           have d136 : w83 = _ := (Option.some.inj q134).symm
                           simp [q135, d136])
                      · first
                        | (simp at q135; done)
                        | (rw [if_neg (by rw [q135]; exact Bool.false_ne_true)] at q134
                           obtain ⟨r81, q82, q134⟩ := bindQ q134
                           have c82 : F27 [.sl 1 (rows ci_i64 r15.1), .sl 1 (rows ci_i64 r9.1)] = some (.b r81) := tells_eq inj27 (a := (r15.1, r9.1)) q82
                           have d137 : w83 = _ := (Option.some.inj q134).symm
                           simp [q135, c82, d137])) ?_
                  refine VW.condB (b := ((w83 || (!eqI r15.2.1 r9.2.1)) || (!eqI r15.2.2 r9.2.2))) rfl (fun g84 => ?_) (fun g84 => ?_)
                  · replace h := iteT g84 h
                    refine VW.seq ?_
                    refine VW.evalA (C := [(15, F15), (17, F17), (19, F19), (25, F25), (27, F27), (32, F32), (39, F39), (40, F40)]) (A4 ((.b false) :: A :: (A4 (A64 (A64 []))))) [some (7, [[.sl 1 (rows ci_i64 aS.need_), .sl 1 (rows ci_i64 aS.price_), .i .i64 aS.most_, .i .i64 aS.yield_, .i .i64 aS.store_, .i .i64 aS.first_, .i .i64 aS.loss_]]), some (1, rows ci_i64 r5.need_), some (1, rows ci_i64 r5.price_), some (1, rows ci_i64 r7), some (1, rows ci_i64 r9.1), some (1, rows ci_i64 l46), some (1, rows ci_i64 l63), some (7, [[.ref 5 0 l46.length, .ref 6 0 l63.length, .i .i64 r11.most_, .i .i64 r11.yield_, .i .i64 r11.store_, .i .i64 r11.first_, .i .i64 r11.loss_]]), some (1, rows ci_i64 l80), some (1, rows ci_i64 r15.1), some (1, rows ci_i64 r20.need_), some (1, rows ci_i64 r20.price_), some (1, rows ci_i64 r25), some (7, [[.ref 5 0 l46.length, .ref 6 0 l63.length, .i .i64 r11.most_, .i .i64 r11.yield_, .i .i64 r11.store_, .i .i64 r11.first_, .i .i64 r11.loss_]])] [] ⟨ok15, ok17, ok19, ok25, ok27, ok32, ok39, ok40, trivial⟩ (by kernel_rfl) (by simp) ?_
                    obtain rfl := leafS h
                    refine VW.ret (VRet.fin ?_)
                    simp [eB11]
                  · replace h := iteF g84 h
                    refine VW.skip ?_
                    refine VW.seq ?_
                    refine VW.evalA (C := [(15, F15), (17, F17), (19, F19), (25, F25), (27, F27), (32, F32), (39, F39), (40, F40)]) (A :: (.sl 1 (rows ci_i64 aPlan)) :: (.ptr 0 0 0) :: A :: A :: A :: (.ref 4 0 r9.1.length) :: (.i .i64 r9.2.1) :: (.i .i64 r9.2.2) :: A :: A :: (.ref 9 0 r15.1.length) :: A :: A :: A :: (.i .i64 1) :: A :: A :: (A4 (A4 (A16 (A16 (A16 (A64 []))))))) [some (7, [[.sl 1 (rows ci_i64 aS.need_), .sl 1 (rows ci_i64 aS.price_), .i .i64 aS.most_, .i .i64 aS.yield_, .i .i64 aS.store_, .i .i64 aS.first_, .i .i64 aS.loss_]]), some (1, rows ci_i64 r5.need_), some (1, rows ci_i64 r5.price_), some (1, rows ci_i64 r7), some (1, rows ci_i64 r9.1), some (1, rows ci_i64 l46), some (1, rows ci_i64 l63), some (7, [[.ref 5 0 l46.length, .ref 6 0 l63.length, .i .i64 r11.most_, .i .i64 r11.yield_, .i .i64 r11.store_, .i .i64 r11.first_, .i .i64 r11.loss_]]), some (1, rows ci_i64 l80), some (1, rows ci_i64 r15.1), some (1, rows ci_i64 r20.need_), some (1, rows ci_i64 r20.price_), some (1, rows ci_i64 r25), some (7, [[.ref 5 0 l46.length, .ref 6 0 l63.length, .i .i64 r11.most_, .i .i64 r11.yield_, .i .i64 r11.store_, .i .i64 r11.first_, .i .i64 r11.loss_]])] [] ⟨ok15, ok17, ok19, ok25, ok27, ok32, ok39, ok40, trivial⟩ (by kernel_rfl) (by simp) ?_
                    refine VW.seq ?_
                    refine VW.inline (C := [(15, F15), (17, F17), (19, F19), (25, F25), (27, F27), (32, F32), (39, F39), (40, F40)]) 2 (A :: (.sl 1 (rows ci_i64 aPlan)) :: (.ptr 0 0 0) :: A :: A :: A :: (.ref 4 0 r9.1.length) :: (.i .i64 r9.2.1) :: (.i .i64 r9.2.2) :: A :: A :: (.ref 9 0 r15.1.length) :: A4 (A16 (A64 ((.ref 9 0 r15.1.length) :: (.i .i64 1) :: A4 (A4 (A16 (A16 []))))))) [some (7, [[.sl 1 (rows ci_i64 aS.need_), .sl 1 (rows ci_i64 aS.price_), .i .i64 aS.most_, .i .i64 aS.yield_, .i .i64 aS.store_, .i .i64 aS.first_, .i .i64 aS.loss_]]), some (1, rows ci_i64 r5.need_), some (1, rows ci_i64 r5.price_), some (1, rows ci_i64 r7), some (1, rows ci_i64 r9.1), some (1, rows ci_i64 l46), some (1, rows ci_i64 l63), some (7, [[.ref 5 0 l46.length, .ref 6 0 l63.length, .i .i64 r11.most_, .i .i64 r11.yield_, .i .i64 r11.store_, .i .i64 r11.first_, .i .i64 r11.loss_]]), some (1, rows ci_i64 l80), some (1, rows ci_i64 r15.1), some (1, rows ci_i64 r20.need_), some (1, rows ci_i64 r20.price_), some (1, rows ci_i64 r25), some (7, [[.ref 5 0 l46.length, .ref 6 0 l63.length, .i .i64 r11.most_, .i .i64 r11.yield_, .i .i64 r11.store_, .i .i64 r11.first_, .i .i64 r11.loss_]])] [] rfl ⟨ok15, ok17, ok19, ok25, ok27, ok32, ok39, ok40, trivial⟩ (by kernel_rfl) (by simp) rfl rfl Try.func31 rfl rfl rfl rfl rfl ?_
                    show VW _ _ _ (⟨((.ref 9 0 r15.1.length) :: (.i .i64 1) :: A :: (A16 [])), [some (7, [[.sl 1 (rows ci_i64 aS.need_), .sl 1 (rows ci_i64 aS.price_), .i .i64 aS.most_, .i .i64 aS.yield_, .i .i64 aS.store_, .i .i64 aS.first_, .i .i64 aS.loss_]]), some (1, rows ci_i64 r5.need_), some (1, rows ci_i64 r5.price_), some (1, rows ci_i64 r7), some (1, rows ci_i64 r9.1), some (1, rows ci_i64 l46), some (1, rows ci_i64 l63), some (7, [[.ref 5 0 l46.length, .ref 6 0 l63.length, .i .i64 r11.most_, .i .i64 r11.yield_, .i .i64 r11.store_, .i .i64 r11.first_, .i .i64 r11.loss_]]), some (1, rows ci_i64 l80), some (1, rows ci_i64 r15.1), some (1, rows ci_i64 r20.need_), some (1, rows ci_i64 r20.price_), some (1, rows ci_i64 r25), some (7, [[.ref 5 0 l46.length, .ref 6 0 l63.length, .i .i64 r11.most_, .i .i64 r11.yield_, .i .i64 r11.store_, .i .i64 r11.first_, .i .i64 r11.loss_]])], (A :: (.sl 1 (rows ci_i64 aPlan)) :: (.ptr 0 0 0) :: A :: A :: A :: (.ref 4 0 r9.1.length) :: (.i .i64 r9.2.1) :: (.i .i64 r9.2.2) :: A :: A :: (.ref 9 0 r15.1.length) :: A4 (A16 (A64 ((.ref 9 0 r15.1.length) :: (.i .i64 1) :: A4 (A4 (A16 (A16 [])))))))⟩ : VS)
                    refine VW.seq ?_
                    refine VW.evalA (C := [(15, F15), (17, F17), (19, F19), (25, F25), (27, F27), (32, F32), (39, F39), (40, F40)]) ((.ref 9 0 r15.1.length) :: (.i .i64 1) :: A :: (A16 [])) [some (7, [[.sl 1 (rows ci_i64 aS.need_), .sl 1 (rows ci_i64 aS.price_), .i .i64 aS.most_, .i .i64 aS.yield_, .i .i64 aS.store_, .i .i64 aS.first_, .i .i64 aS.loss_]]), some (1, rows ci_i64 r5.need_), some (1, rows ci_i64 r5.price_), some (1, rows ci_i64 r7), some (1, rows ci_i64 r9.1), some (1, rows ci_i64 l46), some (1, rows ci_i64 l63), some (7, [[.ref 5 0 l46.length, .ref 6 0 l63.length, .i .i64 r11.most_, .i .i64 r11.yield_, .i .i64 r11.store_, .i .i64 r11.first_, .i .i64 r11.loss_]]), some (1, rows ci_i64 l80), some (1, rows ci_i64 r15.1), some (1, rows ci_i64 r20.need_), some (1, rows ci_i64 r20.price_), some (1, rows ci_i64 r25), some (7, [[.ref 5 0 l46.length, .ref 6 0 l63.length, .i .i64 r11.most_, .i .i64 r11.yield_, .i .i64 r11.store_, .i .i64 r11.first_, .i .i64 r11.loss_]])] (A :: (.sl 1 (rows ci_i64 aPlan)) :: (.ptr 0 0 0) :: A :: A :: A :: (.ref 4 0 r9.1.length) :: (.i .i64 r9.2.1) :: (.i .i64 r9.2.2) :: A :: A :: (.ref 9 0 r15.1.length) :: A4 (A16 (A64 ((.ref 9 0 r15.1.length) :: (.i .i64 1) :: A4 (A4 (A16 (A16 []))))))) ⟨ok15, ok17, ok19, ok25, ok27, ok32, ok39, ok40, trivial⟩ (by kernel_rfl) (by simp) ?_
                    refine VW.join (fun (v : Int × (List Int)) => (⟨(A :: (.i .i64 v.1) :: A :: (A16 [])), [some (7, [[.sl 1 (rows ci_i64 aS.need_), .sl 1 (rows ci_i64 aS.price_), .i .i64 aS.most_, .i .i64 aS.yield_, .i .i64 aS.store_, .i .i64 aS.first_, .i .i64 aS.loss_]]), some (1, rows ci_i64 r5.need_), some (1, rows ci_i64 r5.price_), some (1, rows ci_i64 r7), some (1, rows ci_i64 r9.1), some (1, rows ci_i64 l46), some (1, rows ci_i64 l63), some (7, [[.ref 5 0 l46.length, .ref 6 0 l63.length, .i .i64 r11.most_, .i .i64 r11.yield_, .i .i64 r11.store_, .i .i64 r11.first_, .i .i64 r11.loss_]]), some (1, rows ci_i64 l80), some (1, rows ci_i64 v.2), some (1, rows ci_i64 r20.need_), some (1, rows ci_i64 r20.price_), some (1, rows ci_i64 r25), some (7, [[.ref 5 0 l46.length, .ref 6 0 l63.length, .i .i64 r11.most_, .i .i64 r11.yield_, .i .i64 r11.store_, .i .i64 r11.first_, .i .i64 r11.loss_]])], (A :: (.sl 1 (rows ci_i64 aPlan)) :: (.ptr 0 0 0) :: A :: A :: A :: (.ref 4 0 r9.1.length) :: (.i .i64 r9.2.1) :: (.i .i64 r9.2.2) :: A :: A :: (.ref 9 0 v.2.length) :: A4 (A16 (A64 ((.ref 9 0 v.2.length) :: (.i .i64 1) :: A4 (A4 (A16 (A16 [])))))))⟩ : VS)) (fun v => (g11_j4 aS aPlan r9 (v.1) (v.2)).bind some = some r) ?_ ?_
                    · refine VW.seq ?_
                      refine VW.evalA (C := [(15, F15), (17, F17), (19, F19), (25, F25), (27, F27), (32, F32), (39, F39), (40, F40)]) ((.ref 9 0 r15.1.length) :: (.i .i64 1) :: A :: A :: A :: (.i .i64 0) :: A :: (A4 (A4 (A4 [])))) [some (7, [[.sl 1 (rows ci_i64 aS.need_), .sl 1 (rows ci_i64 aS.price_), .i .i64 aS.most_, .i .i64 aS.yield_, .i .i64 aS.store_, .i .i64 aS.first_, .i .i64 aS.loss_]]), some (1, rows ci_i64 r5.need_), some (1, rows ci_i64 r5.price_), some (1, rows ci_i64 r7), some (1, rows ci_i64 r9.1), some (1, rows ci_i64 l46), some (1, rows ci_i64 l63), some (7, [[.ref 5 0 l46.length, .ref 6 0 l63.length, .i .i64 r11.most_, .i .i64 r11.yield_, .i .i64 r11.store_, .i .i64 r11.first_, .i .i64 r11.loss_]]), some (1, rows ci_i64 l80), some (1, rows ci_i64 r15.1), some (1, rows ci_i64 r20.need_), some (1, rows ci_i64 r20.price_), some (1, rows ci_i64 r25), some (7, [[.ref 5 0 l46.length, .ref 6 0 l63.length, .i .i64 r11.most_, .i .i64 r11.yield_, .i .i64 r11.store_, .i .i64 r11.first_, .i .i64 r11.loss_]])] (A :: (.sl 1 (rows ci_i64 aPlan)) :: (.ptr 0 0 0) :: A :: A :: A :: (.ref 4 0 r9.1.length) :: (.i .i64 r9.2.1) :: (.i .i64 r9.2.2) :: A :: A :: (.ref 9 0 r15.1.length) :: A4 (A16 (A64 ((.ref 9 0 r15.1.length) :: (.i .i64 1) :: A4 (A4 (A16 (A16 []))))))) ⟨ok15, ok17, ok19, ok25, ok27, ok32, ok39, ok40, trivial⟩ (by kernel_rfl) (by simp) ?_
                      refine VW.block ?_
                      obtain ⟨w_1, hw_1, h⟩ := bindE h
                      refine VW.loopO (fun (x : Int × Int × (List Int)) => (⟨((.ref 9 0 x.2.2.length) :: (.i .i64 x.1) :: A :: A :: A :: (.i .i64 x.2.1) :: A :: (A4 (A4 (A4 [])))), [some (7, [[.sl 1 (rows ci_i64 aS.need_), .sl 1 (rows ci_i64 aS.price_), .i .i64 aS.most_, .i .i64 aS.yield_, .i .i64 aS.store_, .i .i64 aS.first_, .i .i64 aS.loss_]]), some (1, rows ci_i64 r5.need_), some (1, rows ci_i64 r5.price_), some (1, rows ci_i64 r7), some (1, rows ci_i64 r9.1), some (1, rows ci_i64 l46), some (1, rows ci_i64 l63), some (7, [[.ref 5 0 l46.length, .ref 6 0 l63.length, .i .i64 r11.most_, .i .i64 r11.yield_, .i .i64 r11.store_, .i .i64 r11.first_, .i .i64 r11.loss_]]), some (1, rows ci_i64 l80), some (1, rows ci_i64 x.2.2), some (1, rows ci_i64 r20.need_), some (1, rows ci_i64 r20.price_), some (1, rows ci_i64 r25), some (7, [[.ref 5 0 l46.length, .ref 6 0 l63.length, .i .i64 r11.most_, .i .i64 r11.yield_, .i .i64 r11.store_, .i .i64 r11.first_, .i .i64 r11.loss_]])], (A :: (.sl 1 (rows ci_i64 aPlan)) :: (.ptr 0 0 0) :: A :: A :: A :: (.ref 4 0 r9.1.length) :: (.i .i64 r9.2.1) :: (.i .i64 r9.2.2) :: A :: A :: (.ref 9 0 x.2.2.length) :: A4 (A16 (A64 ((.ref 9 0 x.2.2.length) :: (.i .i64 1) :: A4 (A4 (A16 (A16 [])))))))⟩ : VS)) hw_1 (Ent.to 14 (by simp [fgt]) (by simp) (by simp) (by simp [bndT, bndV]) (by simp [bndM, bndV]) (hgg := by simp [bndT, bndV])) ?_
                      rintro n_1 ⟨k_128, i_129, l130⟩ h1
                      rw [g11_L1] at h1
                      refine VW.seq ?_
                      refine VW.seq ?_
                      refine VW.evalA (C := [(15, F15), (17, F17), (19, F19), (25, F25), (27, F27), (32, F32), (39, F39), (40, F40)]) ((.ref 9 0 l130.length) :: (.i .i64 k_128) :: A :: A :: A :: (.i .i64 i_129) :: A :: A :: A :: (.b (ltI i_129 (l130.length : Int))) :: A :: (A4 (A4 []))) [some (7, [[.sl 1 (rows ci_i64 aS.need_), .sl 1 (rows ci_i64 aS.price_), .i .i64 aS.most_, .i .i64 aS.yield_, .i .i64 aS.store_, .i .i64 aS.first_, .i .i64 aS.loss_]]), some (1, rows ci_i64 r5.need_), some (1, rows ci_i64 r5.price_), some (1, rows ci_i64 r7), some (1, rows ci_i64 r9.1), some (1, rows ci_i64 l46), some (1, rows ci_i64 l63), some (7, [[.ref 5 0 l46.length, .ref 6 0 l63.length, .i .i64 r11.most_, .i .i64 r11.yield_, .i .i64 r11.store_, .i .i64 r11.first_, .i .i64 r11.loss_]]), some (1, rows ci_i64 l80), some (1, rows ci_i64 l130), some (1, rows ci_i64 r20.need_), some (1, rows ci_i64 r20.price_), some (1, rows ci_i64 r25), some (7, [[.ref 5 0 l46.length, .ref 6 0 l63.length, .i .i64 r11.most_, .i .i64 r11.yield_, .i .i64 r11.store_, .i .i64 r11.first_, .i .i64 r11.loss_]])] (A :: (.sl 1 (rows ci_i64 aPlan)) :: (.ptr 0 0 0) :: A :: A :: A :: (.ref 4 0 r9.1.length) :: (.i .i64 r9.2.1) :: (.i .i64 r9.2.2) :: A :: A :: (.ref 9 0 l130.length) :: A4 (A16 (A64 ((.ref 9 0 l130.length) :: (.i .i64 1) :: A4 (A4 (A16 (A16 []))))))) ⟨ok15, ok17, ok19, ok25, ok27, ok32, ok39, ok40, trivial⟩ (by kernel_rfl) (by simp) ?_
                      refine VW.condB (b := ltI i_129 (l130.length : Int)) rfl (fun g131 => ?_) (fun g131 => ?_)
                      · replace h1 := iteT g131 h1
                        refine VW.skip ?_
                        refine VW.seq ?_
                        refine VW.block ?_
                        refine VW.seq ?_
                        obtain ⟨e132, q133, h1⟩ := bindE h1
                        obtain ⟨f133a, f133b, f133c, f133d⟩ := idx_some q133
                        refine VW.evalA (C := [(15, F15), (17, F17), (19, F19), (25, F25), (27, F27), (32, F32), (39, F39), (40, F40)]) ((.ref 9 0 (l130.set i_129.toNat k_128).length) :: (.i .i64 k_128) :: A :: A :: A :: (.i .i64 i_129) :: A :: (A4 (A4 (A4 [])))) [some (7, [[.sl 1 (rows ci_i64 aS.need_), .sl 1 (rows ci_i64 aS.price_), .i .i64 aS.most_, .i .i64 aS.yield_, .i .i64 aS.store_, .i .i64 aS.first_, .i .i64 aS.loss_]]), some (1, rows ci_i64 r5.need_), some (1, rows ci_i64 r5.price_), some (1, rows ci_i64 r7), some (1, rows ci_i64 r9.1), some (1, rows ci_i64 l46), some (1, rows ci_i64 l63), some (7, [[.ref 5 0 l46.length, .ref 6 0 l63.length, .i .i64 r11.most_, .i .i64 r11.yield_, .i .i64 r11.store_, .i .i64 r11.first_, .i .i64 r11.loss_]]), some (1, rows ci_i64 l80), some (1, rows ci_i64 (l130.set i_129.toNat k_128)), some (1, rows ci_i64 r20.need_), some (1, rows ci_i64 r20.price_), some (1, rows ci_i64 r25), some (7, [[.ref 5 0 l46.length, .ref 6 0 l63.length, .i .i64 r11.most_, .i .i64 r11.yield_, .i .i64 r11.store_, .i .i64 r11.first_, .i .i64 r11.loss_]])] (A :: (.sl 1 (rows ci_i64 aPlan)) :: (.ptr 0 0 0) :: A :: A :: A :: (.ref 4 0 r9.1.length) :: (.i .i64 r9.2.1) :: (.i .i64 r9.2.2) :: A :: A :: (.ref 9 0 (l130.set i_129.toNat k_128).length) :: A4 (A16 (A64 ((.ref 9 0 (l130.set i_129.toNat k_128).length) :: (.i .i64 1) :: A4 (A4 (A16 (A16 []))))))) ⟨ok15, ok17, ok19, ok25, ok27, ok32, ok39, ok40, trivial⟩ (by kernel_rfl) (by simp [f133a, f133b, f133c, f133d]) ?_
                        refine VW.evalA (C := [(15, F15), (17, F17), (19, F19), (25, F25), (27, F27), (32, F32), (39, F39), (40, F40)]) ((.ref 9 0 (l130.set i_129.toNat k_128).length) :: (.i .i64 (aI .i64 k_128 1)) :: A :: A :: A :: (.i .i64 i_129) :: A :: (A4 (A4 (A4 [])))) [some (7, [[.sl 1 (rows ci_i64 aS.need_), .sl 1 (rows ci_i64 aS.price_), .i .i64 aS.most_, .i .i64 aS.yield_, .i .i64 aS.store_, .i .i64 aS.first_, .i .i64 aS.loss_]]), some (1, rows ci_i64 r5.need_), some (1, rows ci_i64 r5.price_), some (1, rows ci_i64 r7), some (1, rows ci_i64 r9.1), some (1, rows ci_i64 l46), some (1, rows ci_i64 l63), some (7, [[.ref 5 0 l46.length, .ref 6 0 l63.length, .i .i64 r11.most_, .i .i64 r11.yield_, .i .i64 r11.store_, .i .i64 r11.first_, .i .i64 r11.loss_]]), some (1, rows ci_i64 l80), some (1, rows ci_i64 (l130.set i_129.toNat k_128)), some (1, rows ci_i64 r20.need_), some (1, rows ci_i64 r20.price_), some (1, rows ci_i64 r25), some (7, [[.ref 5 0 l46.length, .ref 6 0 l63.length, .i .i64 r11.most_, .i .i64 r11.yield_, .i .i64 r11.store_, .i .i64 r11.first_, .i .i64 r11.loss_]])] (A :: (.sl 1 (rows ci_i64 aPlan)) :: (.ptr 0 0 0) :: A :: A :: A :: (.ref 4 0 r9.1.length) :: (.i .i64 r9.2.1) :: (.i .i64 r9.2.2) :: A :: A :: (.ref 9 0 (l130.set i_129.toNat k_128).length) :: A4 (A16 (A64 ((.ref 9 0 (l130.set i_129.toNat k_128).length) :: (.i .i64 1) :: A4 (A4 (A16 (A16 []))))))) ⟨ok15, ok17, ok19, ok25, ok27, ok32, ok39, ok40, trivial⟩ (by kernel_rfl) (by simp) ?_
                        refine VW.evalA (C := [(15, F15), (17, F17), (19, F19), (25, F25), (27, F27), (32, F32), (39, F39), (40, F40)]) ((.ref 9 0 (l130.set i_129.toNat k_128).length) :: (.i .i64 (aI .i64 k_128 1)) :: A :: A :: A :: (.i .i64 (aI .i64 i_129 1)) :: A :: (A4 (A4 (A4 [])))) [some (7, [[.sl 1 (rows ci_i64 aS.need_), .sl 1 (rows ci_i64 aS.price_), .i .i64 aS.most_, .i .i64 aS.yield_, .i .i64 aS.store_, .i .i64 aS.first_, .i .i64 aS.loss_]]), some (1, rows ci_i64 r5.need_), some (1, rows ci_i64 r5.price_), some (1, rows ci_i64 r7), some (1, rows ci_i64 r9.1), some (1, rows ci_i64 l46), some (1, rows ci_i64 l63), some (7, [[.ref 5 0 l46.length, .ref 6 0 l63.length, .i .i64 r11.most_, .i .i64 r11.yield_, .i .i64 r11.store_, .i .i64 r11.first_, .i .i64 r11.loss_]]), some (1, rows ci_i64 l80), some (1, rows ci_i64 (l130.set i_129.toNat k_128)), some (1, rows ci_i64 r20.need_), some (1, rows ci_i64 r20.price_), some (1, rows ci_i64 r25), some (7, [[.ref 5 0 l46.length, .ref 6 0 l63.length, .i .i64 r11.most_, .i .i64 r11.yield_, .i .i64 r11.store_, .i .i64 r11.first_, .i .i64 r11.loss_]])] (A :: (.sl 1 (rows ci_i64 aPlan)) :: (.ptr 0 0 0) :: A :: A :: A :: (.ref 4 0 r9.1.length) :: (.i .i64 r9.2.1) :: (.i .i64 r9.2.2) :: A :: A :: (.ref 9 0 (l130.set i_129.toNat k_128).length) :: A4 (A16 (A64 ((.ref 9 0 (l130.set i_129.toNat k_128).length) :: (.i .i64 1) :: A4 (A4 (A16 (A16 []))))))) ⟨ok15, ok17, ok19, ok25, ok27, ok32, ok39, ok40, trivial⟩ (by kernel_rfl) (by simp) ?_
                        exact (show ∃ _, _ from ⟨(aI .i64 k_128 1, aI .i64 i_129 1, (l130.set i_129.toNat k_128)), leafL h1, (Ent.to 14 (by simp [fgt]) (by simp) (by simp) (by simp [bndT, bndV]) (by simp [bndM, bndV]) (hgg := by simp [bndT, bndV]))⟩)
                      · replace h1 := iteF g131 h1
                        refine VW.exit ?_
                        have e_ := leafR h1
                        subst w_1
                        exact (show ∃ _, _ from ⟨(k_128, l130), h, (Ent.to 14 (by simp [fgt]) (by simp) (by simp) (by simp [bndT, bndV]) (by simp [bndM, bndV]) (hgg := by simp [bndT, bndV]))⟩)
                    · rintro ⟨k_100, l101⟩ h
                      replace h : (g11_j4 aS aPlan r9 k_100 l101).bind _ = _ := h
                      rw [g11_j4] at h
                      refine VW.seq ?_
                      refine VW.evalA (C := [(15, F15), (17, F17), (19, F19), (25, F25), (27, F27), (32, F32), (39, F39), (40, F40)]) (A4 ((.i .i64 k_100) :: A :: A :: (A4 (A4 (A4 []))))) [some (7, [[.sl 1 (rows ci_i64 aS.need_), .sl 1 (rows ci_i64 aS.price_), .i .i64 aS.most_, .i .i64 aS.yield_, .i .i64 aS.store_, .i .i64 aS.first_, .i .i64 aS.loss_]]), some (1, rows ci_i64 r5.need_), some (1, rows ci_i64 r5.price_), some (1, rows ci_i64 r7), some (1, rows ci_i64 r9.1), some (1, rows ci_i64 l46), some (1, rows ci_i64 l63), some (7, [[.ref 5 0 l46.length, .ref 6 0 l63.length, .i .i64 r11.most_, .i .i64 r11.yield_, .i .i64 r11.store_, .i .i64 r11.first_, .i .i64 r11.loss_]]), some (1, rows ci_i64 l80), some (1, rows ci_i64 l101), some (1, rows ci_i64 r20.need_), some (1, rows ci_i64 r20.price_), some (1, rows ci_i64 r25), some (7, [[.ref 5 0 l46.length, .ref 6 0 l63.length, .i .i64 r11.most_, .i .i64 r11.yield_, .i .i64 r11.store_, .i .i64 r11.first_, .i .i64 r11.loss_]])] (A :: (.sl 1 (rows ci_i64 aPlan)) :: (.ptr 0 0 0) :: A :: A :: A :: (.ref 4 0 r9.1.length) :: (.i .i64 r9.2.1) :: (.i .i64 r9.2.2) :: A :: A :: (.ref 9 0 l101.length) :: A4 (A16 (A64 ((.ref 9 0 l101.length) :: (.i .i64 1) :: A4 (A4 (A16 (A16 []))))))) ⟨ok15, ok17, ok19, ok25, ok27, ok32, ok39, ok40, trivial⟩ (by kernel_rfl) (by simp) ?_
                      refine VW.ret (VIn.ret (v := .i .i64 k_100) (by simp) ?_)
                      refine VL.evalP (C := [(15, F15), (17, F17), (19, F19), (25, F25), (27, F27), (32, F32), (39, F39), (40, F40)]) (A :: (.sl 1 (rows ci_i64 aPlan)) :: (.ptr 0 0 0) :: A :: A :: A :: (.ref 4 0 r9.1.length) :: (.i .i64 r9.2.1) :: (.i .i64 r9.2.2) :: A :: A :: (.ref 9 0 l101.length) :: A :: A :: A :: (.i .i64 k_100) :: A :: A :: (A4 (A4 (A16 (A16 (A16 (A64 []))))))) [some (7, [[.sl 1 (rows ci_i64 aS.need_), .sl 1 (rows ci_i64 aS.price_), .i .i64 aS.most_, .i .i64 aS.yield_, .i .i64 aS.store_, .i .i64 aS.first_, .i .i64 aS.loss_]]), some (1, rows ci_i64 r5.need_), some (1, rows ci_i64 r5.price_), some (1, rows ci_i64 r7), some (1, rows ci_i64 r9.1), some (1, rows ci_i64 l46), some (1, rows ci_i64 l63), some (7, [[.ref 5 0 l46.length, .ref 6 0 l63.length, .i .i64 r11.most_, .i .i64 r11.yield_, .i .i64 r11.store_, .i .i64 r11.first_, .i .i64 r11.loss_]]), some (1, rows ci_i64 l80), some (1, rows ci_i64 l101), some (1, rows ci_i64 r20.need_), some (1, rows ci_i64 r20.price_), some (1, rows ci_i64 r25), some (7, [[.ref 5 0 l46.length, .ref 6 0 l63.length, .i .i64 r11.most_, .i .i64 r11.yield_, .i .i64 r11.store_, .i .i64 r11.first_, .i .i64 r11.loss_]])] [] ⟨ok15, ok17, ok19, ok25, ok27, ok32, ok39, ok40, trivial⟩ (by kernel_rfl) (by simp) ?_
                      refine VW.seq ?_
                      refine VW.evalA (C := [(15, F15), (17, F17), (19, F19), (25, F25), (27, F27), (32, F32), (39, F39), (40, F40)]) (A :: (.sl 1 (rows ci_i64 aPlan)) :: (.ptr 0 0 0) :: A :: A :: A :: (.ref 4 0 r9.1.length) :: (.i .i64 r9.2.1) :: (.i .i64 r9.2.2) :: A :: A :: (.ref 9 0 l101.length) :: A :: A :: A :: (.i .i64 k_100) :: (.i .i64 1) :: A :: (A4 (A4 (A16 (A16 (A16 (A64 []))))))) [some (7, [[.sl 1 (rows ci_i64 aS.need_), .sl 1 (rows ci_i64 aS.price_), .i .i64 aS.most_, .i .i64 aS.yield_, .i .i64 aS.store_, .i .i64 aS.first_, .i .i64 aS.loss_]]), some (1, rows ci_i64 r5.need_), some (1, rows ci_i64 r5.price_), some (1, rows ci_i64 r7), some (1, rows ci_i64 r9.1), some (1, rows ci_i64 l46), some (1, rows ci_i64 l63), some (7, [[.ref 5 0 l46.length, .ref 6 0 l63.length, .i .i64 r11.most_, .i .i64 r11.yield_, .i .i64 r11.store_, .i .i64 r11.first_, .i .i64 r11.loss_]]), some (1, rows ci_i64 l80), some (1, rows ci_i64 l101), some (1, rows ci_i64 r20.need_), some (1, rows ci_i64 r20.price_), some (1, rows ci_i64 r25), some (7, [[.ref 5 0 l46.length, .ref 6 0 l63.length, .i .i64 r11.most_, .i .i64 r11.yield_, .i .i64 r11.store_, .i .i64 r11.first_, .i .i64 r11.loss_]])] [] ⟨ok15, ok17, ok19, ok25, ok27, ok32, ok39, ok40, trivial⟩ (by kernel_rfl) (by simp) ?_
                      refine VW.seq ?_
                      obtain ⟨r102, q103, h⟩ := bindE h
                      have c103 : F32 [.sl 1 (rows ci_i64 l101), .i .i64 1] = some (.i .i64 r102) := tells_eq inj32 (a := (l101, 1)) q103
                      refine VW.evalA (C := [(15, F15), (17, F17), (19, F19), (25, F25), (27, F27), (32, F32), (39, F39), (40, F40)]) (A :: (.sl 1 (rows ci_i64 aPlan)) :: (.ptr 0 0 0) :: A :: A :: A :: (.ref 4 0 r9.1.length) :: (.i .i64 r9.2.1) :: (.i .i64 r9.2.2) :: A :: A :: (.ref 9 0 l101.length) :: A :: A :: A :: (.i .i64 k_100) :: (.i .i64 r102) :: A :: (A4 (A4 (A16 (A16 (A16 (A64 []))))))) [some (7, [[.sl 1 (rows ci_i64 aS.need_), .sl 1 (rows ci_i64 aS.price_), .i .i64 aS.most_, .i .i64 aS.yield_, .i .i64 aS.store_, .i .i64 aS.first_, .i .i64 aS.loss_]]), some (1, rows ci_i64 r5.need_), some (1, rows ci_i64 r5.price_), some (1, rows ci_i64 r7), some (1, rows ci_i64 r9.1), some (1, rows ci_i64 l46), some (1, rows ci_i64 l63), some (7, [[.ref 5 0 l46.length, .ref 6 0 l63.length, .i .i64 r11.most_, .i .i64 r11.yield_, .i .i64 r11.store_, .i .i64 r11.first_, .i .i64 r11.loss_]]), some (1, rows ci_i64 l80), some (1, rows ci_i64 l101), some (1, rows ci_i64 r20.need_), some (1, rows ci_i64 r20.price_), some (1, rows ci_i64 r25), some (7, [[.ref 5 0 l46.length, .ref 6 0 l63.length, .i .i64 r11.most_, .i .i64 r11.yield_, .i .i64 r11.store_, .i .i64 r11.first_, .i .i64 r11.loss_]])] [] ⟨ok15, ok17, ok19, ok25, ok27, ok32, ok39, ok40, trivial⟩ (by kernel_rfl) (by simp [c103]) ?_
                      refine VW.seq ?_
                      refine VW.seq ?_
                      refine VW.evalA (C := [(15, F15), (17, F17), (19, F19), (25, F25), (27, F27), (32, F32), (39, F39), (40, F40)]) (A :: (.sl 1 (rows ci_i64 aPlan)) :: (.ptr 0 0 0) :: A :: A :: A :: (.ref 4 0 r9.1.length) :: (.i .i64 r9.2.1) :: (.i .i64 r9.2.2) :: A :: A :: (.ref 9 0 l101.length) :: A :: A :: A :: (.i .i64 k_100) :: (.i .i64 r102) :: A :: A :: (A4 (A16 (A64 ((.b (ltI r102 0)) :: A :: A :: (A16 (A16 []))))))) [some (7, [[.sl 1 (rows ci_i64 aS.need_), .sl 1 (rows ci_i64 aS.price_), .i .i64 aS.most_, .i .i64 aS.yield_, .i .i64 aS.store_, .i .i64 aS.first_, .i .i64 aS.loss_]]), some (1, rows ci_i64 r5.need_), some (1, rows ci_i64 r5.price_), some (1, rows ci_i64 r7), some (1, rows ci_i64 r9.1), some (1, rows ci_i64 l46), some (1, rows ci_i64 l63), some (7, [[.ref 5 0 l46.length, .ref 6 0 l63.length, .i .i64 r11.most_, .i .i64 r11.yield_, .i .i64 r11.store_, .i .i64 r11.first_, .i .i64 r11.loss_]]), some (1, rows ci_i64 l80), some (1, rows ci_i64 l101), some (1, rows ci_i64 r20.need_), some (1, rows ci_i64 r20.price_), some (1, rows ci_i64 r25), some (7, [[.ref 5 0 l46.length, .ref 6 0 l63.length, .i .i64 r11.most_, .i .i64 r11.yield_, .i .i64 r11.store_, .i .i64 r11.first_, .i .i64 r11.loss_]])] [] ⟨ok15, ok17, ok19, ok25, ok27, ok32, ok39, ok40, trivial⟩ (by kernel_rfl) (by simp) ?_
                      refine VW.condB (b := ltI r102 0) rfl (fun g104 => ?_) (fun g104 => ?_)
                      · replace h := iteT g104 h
                        refine VW.seq ?_
                        refine VW.evalA (C := [(15, F15), (17, F17), (19, F19), (25, F25), (27, F27), (32, F32), (39, F39), (40, F40)]) (A4 ((.b false) :: A :: (A4 (A64 (A64 []))))) [some (7, [[.sl 1 (rows ci_i64 aS.need_), .sl 1 (rows ci_i64 aS.price_), .i .i64 aS.most_, .i .i64 aS.yield_, .i .i64 aS.store_, .i .i64 aS.first_, .i .i64 aS.loss_]]), some (1, rows ci_i64 r5.need_), some (1, rows ci_i64 r5.price_), some (1, rows ci_i64 r7), some (1, rows ci_i64 r9.1), some (1, rows ci_i64 l46), some (1, rows ci_i64 l63), some (7, [[.ref 5 0 l46.length, .ref 6 0 l63.length, .i .i64 r11.most_, .i .i64 r11.yield_, .i .i64 r11.store_, .i .i64 r11.first_, .i .i64 r11.loss_]]), some (1, rows ci_i64 l80), some (1, rows ci_i64 l101), some (1, rows ci_i64 r20.need_), some (1, rows ci_i64 r20.price_), some (1, rows ci_i64 r25), some (7, [[.ref 5 0 l46.length, .ref 6 0 l63.length, .i .i64 r11.most_, .i .i64 r11.yield_, .i .i64 r11.store_, .i .i64 r11.first_, .i .i64 r11.loss_]])] [] ⟨ok15, ok17, ok19, ok25, ok27, ok32, ok39, ok40, trivial⟩ (by kernel_rfl) (by simp) ?_
                        obtain rfl := leafS h
                        refine VW.ret (VRet.fin ?_)
                        simp [eB11]
                      · replace h := iteF g104 h
                        refine VW.skip ?_
                        refine VW.seq ?_
                        refine VW.seq ?_
                        refine VW.evalA (C := [(15, F15), (17, F17), (19, F19), (25, F25), (27, F27), (32, F32), (39, F39), (40, F40)]) (A :: (.sl 1 (rows ci_i64 aPlan)) :: (.ptr 0 0 0) :: A :: A :: A :: (.ref 4 0 r9.1.length) :: (.i .i64 r9.2.1) :: (.i .i64 r9.2.2) :: A :: A :: (.ref 9 0 l101.length) :: A :: A :: A :: (.i .i64 k_100) :: A :: A :: (A4 (A4 (A16 (A64 ((.b (!eqI r102 k_100)) :: A :: A :: A :: (A4 (A4 (A4 (A16 [])))))))))) [some (7, [[.sl 1 (rows ci_i64 aS.need_), .sl 1 (rows ci_i64 aS.price_), .i .i64 aS.most_, .i .i64 aS.yield_, .i .i64 aS.store_, .i .i64 aS.first_, .i .i64 aS.loss_]]), some (1, rows ci_i64 r5.need_), some (1, rows ci_i64 r5.price_), some (1, rows ci_i64 r7), some (1, rows ci_i64 r9.1), some (1, rows ci_i64 l46), some (1, rows ci_i64 l63), some (7, [[.ref 5 0 l46.length, .ref 6 0 l63.length, .i .i64 r11.most_, .i .i64 r11.yield_, .i .i64 r11.store_, .i .i64 r11.first_, .i .i64 r11.loss_]]), some (1, rows ci_i64 l80), some (1, rows ci_i64 l101), some (1, rows ci_i64 r20.need_), some (1, rows ci_i64 r20.price_), some (1, rows ci_i64 r25), some (7, [[.ref 5 0 l46.length, .ref 6 0 l63.length, .i .i64 r11.most_, .i .i64 r11.yield_, .i .i64 r11.store_, .i .i64 r11.first_, .i .i64 r11.loss_]])] [] ⟨ok15, ok17, ok19, ok25, ok27, ok32, ok39, ok40, trivial⟩ (by kernel_rfl) (by simp) ?_
                        refine VW.condB (b := (!eqI r102 k_100)) rfl (fun g105 => ?_) (fun g105 => ?_)
                        · replace h := iteT g105 h
                          refine VW.seq ?_
                          refine VW.evalA (C := [(15, F15), (17, F17), (19, F19), (25, F25), (27, F27), (32, F32), (39, F39), (40, F40)]) (A4 ((.b false) :: A :: (A4 (A64 (A64 []))))) [some (7, [[.sl 1 (rows ci_i64 aS.need_), .sl 1 (rows ci_i64 aS.price_), .i .i64 aS.most_, .i .i64 aS.yield_, .i .i64 aS.store_, .i .i64 aS.first_, .i .i64 aS.loss_]]), some (1, rows ci_i64 r5.need_), some (1, rows ci_i64 r5.price_), some (1, rows ci_i64 r7), some (1, rows ci_i64 r9.1), some (1, rows ci_i64 l46), some (1, rows ci_i64 l63), some (7, [[.ref 5 0 l46.length, .ref 6 0 l63.length, .i .i64 r11.most_, .i .i64 r11.yield_, .i .i64 r11.store_, .i .i64 r11.first_, .i .i64 r11.loss_]]), some (1, rows ci_i64 l80), some (1, rows ci_i64 l101), some (1, rows ci_i64 r20.need_), some (1, rows ci_i64 r20.price_), some (1, rows ci_i64 r25), some (7, [[.ref 5 0 l46.length, .ref 6 0 l63.length, .i .i64 r11.most_, .i .i64 r11.yield_, .i .i64 r11.store_, .i .i64 r11.first_, .i .i64 r11.loss_]])] [] ⟨ok15, ok17, ok19, ok25, ok27, ok32, ok39, ok40, trivial⟩ (by kernel_rfl) (by simp) ?_
                          obtain rfl := leafS h
                          refine VW.ret (VRet.fin ?_)
                          simp [eB11]
                        · replace h := iteF g105 h
                          refine VW.skip ?_
                          refine VW.seq ?_
                          obtain ⟨r106, q107, h⟩ := bindE h
                          have c107 : F17 [.agg [.sl 1 (rows ci_i64 aS.need_), .sl 1 (rows ci_i64 aS.price_), .i .i64 aS.most_, .i .i64 aS.yield_, .i .i64 aS.store_, .i .i64 aS.first_, .i .i64 aS.loss_]] = some (.agg [.own 1 (rows ci_i64 r106.need_), .own 1 (rows ci_i64 r106.price_), .i .i64 r106.most_, .i .i64 r106.yield_, .i .i64 r106.store_, .i .i64 r106.first_, .i .i64 r106.loss_]) := tells_eq inj17 (a := aS) q107
                          obtain ⟨r108, q109, h⟩ := bindE h
                          have c109 : F25 [.sl 1 (rows ci_i64 aPlan)] = some (.own 1 (rows ci_i64 r108)) := tells_eq inj25 (a := aPlan) q109
                          obtain ⟨r110, q111, h⟩ := bindE h
                          have c111 : F40 [.agg [.sl 1 (rows ci_i64 r106.need_), .sl 1 (rows ci_i64 r106.price_), .i .i64 r106.most_, .i .i64 r106.yield_, .i .i64 r106.store_, .i .i64 r106.first_, .i .i64 r106.loss_], .sl 1 (rows ci_i64 r108)] = some (.tup [.own 1 (rows ci_i64 r110.1), .i .i64 r110.2.1, .i .i64 r110.2.2]) := tells_eq inj40 (a := (r106, r108)) q111
                          refine VW.evalA (C := [(15, F15), (17, F17), (19, F19), (25, F25), (27, F27), (32, F32), (39, F39), (40, F40)]) (A :: A :: (A4 ((.ref 4 0 r9.1.length) :: (.i .i64 r9.2.1) :: (.i .i64 r9.2.2) :: A :: A :: (.ref 9 0 l101.length) :: A :: A :: A :: (.i .i64 k_100) :: A :: (.ref 17 0 r110.1.length) :: (.i .i64 r110.2.1) :: (.i .i64 r110.2.2) :: A :: A :: (A4 (A16 (A16 (A16 (A64 [])))))))) [some (7, [[.sl 1 (rows ci_i64 aS.need_), .sl 1 (rows ci_i64 aS.price_), .i .i64 aS.most_, .i .i64 aS.yield_, .i .i64 aS.store_, .i .i64 aS.first_, .i .i64 aS.loss_]]), some (1, rows ci_i64 r5.need_), some (1, rows ci_i64 r5.price_), some (1, rows ci_i64 r7), some (1, rows ci_i64 r9.1), some (1, rows ci_i64 l46), some (1, rows ci_i64 l63), some (7, [[.ref 5 0 l46.length, .ref 6 0 l63.length, .i .i64 r11.most_, .i .i64 r11.yield_, .i .i64 r11.store_, .i .i64 r11.first_, .i .i64 r11.loss_]]), some (1, rows ci_i64 l80), some (1, rows ci_i64 l101), some (1, rows ci_i64 r20.need_), some (1, rows ci_i64 r20.price_), some (1, rows ci_i64 r25), some (7, [[.ref 5 0 l46.length, .ref 6 0 l63.length, .i .i64 r11.most_, .i .i64 r11.yield_, .i .i64 r11.store_, .i .i64 r11.first_, .i .i64 r11.loss_]]), some (1, rows ci_i64 r106.need_), some (1, rows ci_i64 r106.price_), some (1, rows ci_i64 r108), some (1, rows ci_i64 r110.1)] [] ⟨ok15, ok17, ok19, ok25, ok27, ok32, ok39, ok40, trivial⟩ (by kernel_rfl) (by simp [c107, c109, c111]) ?_
                          refine VW.seq ?_
                          refine VW.seq ?_
                          obtain ⟨r112, q113, h⟩ := bindE h
                          have c113 : F27 [.sl 1 (rows ci_i64 r110.1), .sl 1 (rows ci_i64 r9.1)] = some (.b r112) := tells_eq inj27 (a := (r110.1, r9.1)) q113
                          refine VW.evalA (C := [(15, F15), (17, F17), (19, F19), (25, F25), (27, F27), (32, F32), (39, F39), (40, F40)]) (A :: A :: A :: (A4 (A4 ((.ref 9 0 l101.length) :: A :: A :: A :: (.i .i64 k_100) :: A :: (A16 (A16 (A16 (A64 ((.b (((!r112) || (!eqI r110.2.1 r9.2.1)) || (!eqI r110.2.2 r9.2.2))) :: A4 (A4 [])))))))))) [some (7, [[.sl 1 (rows ci_i64 aS.need_), .sl 1 (rows ci_i64 aS.price_), .i .i64 aS.most_, .i .i64 aS.yield_, .i .i64 aS.store_, .i .i64 aS.first_, .i .i64 aS.loss_]]), some (1, rows ci_i64 r5.need_), some (1, rows ci_i64 r5.price_), some (1, rows ci_i64 r7), some (1, rows ci_i64 r9.1), some (1, rows ci_i64 l46), some (1, rows ci_i64 l63), some (7, [[.ref 5 0 l46.length, .ref 6 0 l63.length, .i .i64 r11.most_, .i .i64 r11.yield_, .i .i64 r11.store_, .i .i64 r11.first_, .i .i64 r11.loss_]]), some (1, rows ci_i64 l80), some (1, rows ci_i64 l101), some (1, rows ci_i64 r20.need_), some (1, rows ci_i64 r20.price_), some (1, rows ci_i64 r25), some (7, [[.ref 5 0 l46.length, .ref 6 0 l63.length, .i .i64 r11.most_, .i .i64 r11.yield_, .i .i64 r11.store_, .i .i64 r11.first_, .i .i64 r11.loss_]]), some (1, rows ci_i64 r106.need_), some (1, rows ci_i64 r106.price_), some (1, rows ci_i64 r108), some (1, rows ci_i64 r110.1)] [] ⟨ok15, ok17, ok19, ok25, ok27, ok32, ok39, ok40, trivial⟩ (by kernel_rfl) (by simp [c113]) ?_
                          refine VW.condB (b := (((!r112) || (!eqI r110.2.1 r9.2.1)) || (!eqI r110.2.2 r9.2.2))) rfl (fun g114 => ?_) (fun g114 => ?_)
                          · replace h := iteT g114 h
                            refine VW.seq ?_
                            refine VW.evalA (C := [(15, F15), (17, F17), (19, F19), (25, F25), (27, F27), (32, F32), (39, F39), (40, F40)]) (A4 ((.b false) :: A :: (A4 (A64 (A64 []))))) [some (7, [[.sl 1 (rows ci_i64 aS.need_), .sl 1 (rows ci_i64 aS.price_), .i .i64 aS.most_, .i .i64 aS.yield_, .i .i64 aS.store_, .i .i64 aS.first_, .i .i64 aS.loss_]]), some (1, rows ci_i64 r5.need_), some (1, rows ci_i64 r5.price_), some (1, rows ci_i64 r7), some (1, rows ci_i64 r9.1), some (1, rows ci_i64 l46), some (1, rows ci_i64 l63), some (7, [[.ref 5 0 l46.length, .ref 6 0 l63.length, .i .i64 r11.most_, .i .i64 r11.yield_, .i .i64 r11.store_, .i .i64 r11.first_, .i .i64 r11.loss_]]), some (1, rows ci_i64 l80), some (1, rows ci_i64 l101), some (1, rows ci_i64 r20.need_), some (1, rows ci_i64 r20.price_), some (1, rows ci_i64 r25), some (7, [[.ref 5 0 l46.length, .ref 6 0 l63.length, .i .i64 r11.most_, .i .i64 r11.yield_, .i .i64 r11.store_, .i .i64 r11.first_, .i .i64 r11.loss_]]), some (1, rows ci_i64 r106.need_), some (1, rows ci_i64 r106.price_), some (1, rows ci_i64 r108), some (1, rows ci_i64 r110.1)] [] ⟨ok15, ok17, ok19, ok25, ok27, ok32, ok39, ok40, trivial⟩ (by kernel_rfl) (by simp) ?_
                            obtain rfl := leafS h
                            refine VW.ret (VRet.fin ?_)
                            simp [eB11]
                          · replace h := iteF g114 h
                            refine VW.skip ?_
                            refine VW.seq ?_
                            refine VW.evalA (C := [(15, F15), (17, F17), (19, F19), (25, F25), (27, F27), (32, F32), (39, F39), (40, F40)]) (A :: A :: A :: (A4 (A4 ((.ref 9 0 l101.length) :: A :: A :: A :: (.i .i64 k_100) :: (.i .i64 1) :: A :: (A4 (A4 (A16 (A16 (A16 (A64 [])))))))))) [some (7, [[.sl 1 (rows ci_i64 aS.need_), .sl 1 (rows ci_i64 aS.price_), .i .i64 aS.most_, .i .i64 aS.yield_, .i .i64 aS.store_, .i .i64 aS.first_, .i .i64 aS.loss_]]), some (1, rows ci_i64 r5.need_), some (1, rows ci_i64 r5.price_), some (1, rows ci_i64 r7), some (1, rows ci_i64 r9.1), some (1, rows ci_i64 l46), some (1, rows ci_i64 l63), some (7, [[.ref 5 0 l46.length, .ref 6 0 l63.length, .i .i64 r11.most_, .i .i64 r11.yield_, .i .i64 r11.store_, .i .i64 r11.first_, .i .i64 r11.loss_]]), some (1, rows ci_i64 l80), some (1, rows ci_i64 l101), some (1, rows ci_i64 r20.need_), some (1, rows ci_i64 r20.price_), some (1, rows ci_i64 r25), some (7, [[.ref 5 0 l46.length, .ref 6 0 l63.length, .i .i64 r11.most_, .i .i64 r11.yield_, .i .i64 r11.store_, .i .i64 r11.first_, .i .i64 r11.loss_]]), some (1, rows ci_i64 r106.need_), some (1, rows ci_i64 r106.price_), some (1, rows ci_i64 r108), some (1, rows ci_i64 r110.1)] [] ⟨ok15, ok17, ok19, ok25, ok27, ok32, ok39, ok40, trivial⟩ (by kernel_rfl) (by simp) ?_
                            refine VW.seq ?_
                            obtain ⟨r115, q116, h⟩ := bindE h
                            have c116 : F32 [.sl 1 (rows ci_i64 l101), .i .i64 1] = some (.i .i64 r115) := tells_eq inj32 (a := (l101, 1)) q116
                            refine VW.evalA (C := [(15, F15), (17, F17), (19, F19), (25, F25), (27, F27), (32, F32), (39, F39), (40, F40)]) (A :: A :: A :: (A4 (A4 (A4 ((.i .i64 k_100) :: (.i .i64 r115) :: A :: (A4 (A4 (A16 (A16 (A16 (A64 []))))))))))) [some (7, [[.sl 1 (rows ci_i64 aS.need_), .sl 1 (rows ci_i64 aS.price_), .i .i64 aS.most_, .i .i64 aS.yield_, .i .i64 aS.store_, .i .i64 aS.first_, .i .i64 aS.loss_]]), some (1, rows ci_i64 r5.need_), some (1, rows ci_i64 r5.price_), some (1, rows ci_i64 r7), some (1, rows ci_i64 r9.1), some (1, rows ci_i64 l46), some (1, rows ci_i64 l63), some (7, [[.ref 5 0 l46.length, .ref 6 0 l63.length, .i .i64 r11.most_, .i .i64 r11.yield_, .i .i64 r11.store_, .i .i64 r11.first_, .i .i64 r11.loss_]]), some (1, rows ci_i64 l80), some (1, rows ci_i64 l101), some (1, rows ci_i64 r20.need_), some (1, rows ci_i64 r20.price_), some (1, rows ci_i64 r25), some (7, [[.ref 5 0 l46.length, .ref 6 0 l63.length, .i .i64 r11.most_, .i .i64 r11.yield_, .i .i64 r11.store_, .i .i64 r11.first_, .i .i64 r11.loss_]]), some (1, rows ci_i64 r106.need_), some (1, rows ci_i64 r106.price_), some (1, rows ci_i64 r108), some (1, rows ci_i64 r110.1)] [] ⟨ok15, ok17, ok19, ok25, ok27, ok32, ok39, ok40, trivial⟩ (by kernel_rfl) (by simp [c116]) ?_
                            refine VW.seq ?_
                            refine VW.seq ?_
                            refine VW.evalA (C := [(15, F15), (17, F17), (19, F19), (25, F25), (27, F27), (32, F32), (39, F39), (40, F40)]) (A :: A :: A :: (A4 (A4 (A4 ((.i .i64 k_100) :: (.i .i64 r115) :: A :: (A4 (A16 (A16 (A16 (A64 ((.b (ltI r115 0)) :: A :: A :: A :: []))))))))))) [some (7, [[.sl 1 (rows ci_i64 aS.need_), .sl 1 (rows ci_i64 aS.price_), .i .i64 aS.most_, .i .i64 aS.yield_, .i .i64 aS.store_, .i .i64 aS.first_, .i .i64 aS.loss_]]), some (1, rows ci_i64 r5.need_), some (1, rows ci_i64 r5.price_), some (1, rows ci_i64 r7), some (1, rows ci_i64 r9.1), some (1, rows ci_i64 l46), some (1, rows ci_i64 l63), some (7, [[.ref 5 0 l46.length, .ref 6 0 l63.length, .i .i64 r11.most_, .i .i64 r11.yield_, .i .i64 r11.store_, .i .i64 r11.first_, .i .i64 r11.loss_]]), some (1, rows ci_i64 l80), some (1, rows ci_i64 l101), some (1, rows ci_i64 r20.need_), some (1, rows ci_i64 r20.price_), some (1, rows ci_i64 r25), some (7, [[.ref 5 0 l46.length, .ref 6 0 l63.length, .i .i64 r11.most_, .i .i64 r11.yield_, .i .i64 r11.store_, .i .i64 r11.first_, .i .i64 r11.loss_]]), some (1, rows ci_i64 r106.need_), some (1, rows ci_i64 r106.price_), some (1, rows ci_i64 r108), some (1, rows ci_i64 r110.1)] [] ⟨ok15, ok17, ok19, ok25, ok27, ok32, ok39, ok40, trivial⟩ (by kernel_rfl) (by simp) ?_
                            refine VW.condB (b := ltI r115 0) rfl (fun g117 => ?_) (fun g117 => ?_)
                            · replace h := iteT g117 h
                              refine VW.seq ?_
                              refine VW.evalA (C := [(15, F15), (17, F17), (19, F19), (25, F25), (27, F27), (32, F32), (39, F39), (40, F40)]) (A4 ((.b false) :: A :: (A4 (A64 (A64 []))))) [some (7, [[.sl 1 (rows ci_i64 aS.need_), .sl 1 (rows ci_i64 aS.price_), .i .i64 aS.most_, .i .i64 aS.yield_, .i .i64 aS.store_, .i .i64 aS.first_, .i .i64 aS.loss_]]), some (1, rows ci_i64 r5.need_), some (1, rows ci_i64 r5.price_), some (1, rows ci_i64 r7), some (1, rows ci_i64 r9.1), some (1, rows ci_i64 l46), some (1, rows ci_i64 l63), some (7, [[.ref 5 0 l46.length, .ref 6 0 l63.length, .i .i64 r11.most_, .i .i64 r11.yield_, .i .i64 r11.store_, .i .i64 r11.first_, .i .i64 r11.loss_]]), some (1, rows ci_i64 l80), some (1, rows ci_i64 l101), some (1, rows ci_i64 r20.need_), some (1, rows ci_i64 r20.price_), some (1, rows ci_i64 r25), some (7, [[.ref 5 0 l46.length, .ref 6 0 l63.length, .i .i64 r11.most_, .i .i64 r11.yield_, .i .i64 r11.store_, .i .i64 r11.first_, .i .i64 r11.loss_]]), some (1, rows ci_i64 r106.need_), some (1, rows ci_i64 r106.price_), some (1, rows ci_i64 r108), some (1, rows ci_i64 r110.1)] [] ⟨ok15, ok17, ok19, ok25, ok27, ok32, ok39, ok40, trivial⟩ (by kernel_rfl) (by simp) ?_
                              obtain rfl := leafS h
                              refine VW.ret (VRet.fin ?_)
                              simp [eB11]
                            · replace h := iteF g117 h
                              refine VW.skip ?_
                              refine VW.seq ?_
                              refine VW.seq ?_
                              refine VW.evalA (C := [(15, F15), (17, F17), (19, F19), (25, F25), (27, F27), (32, F32), (39, F39), (40, F40)]) (A :: (A4 (A4 (A64 (A64 ((.b (!eqI r115 k_100)) :: [])))))) [some (7, [[.sl 1 (rows ci_i64 aS.need_), .sl 1 (rows ci_i64 aS.price_), .i .i64 aS.most_, .i .i64 aS.yield_, .i .i64 aS.store_, .i .i64 aS.first_, .i .i64 aS.loss_]]), some (1, rows ci_i64 r5.need_), some (1, rows ci_i64 r5.price_), some (1, rows ci_i64 r7), some (1, rows ci_i64 r9.1), some (1, rows ci_i64 l46), some (1, rows ci_i64 l63), some (7, [[.ref 5 0 l46.length, .ref 6 0 l63.length, .i .i64 r11.most_, .i .i64 r11.yield_, .i .i64 r11.store_, .i .i64 r11.first_, .i .i64 r11.loss_]]), some (1, rows ci_i64 l80), some (1, rows ci_i64 l101), some (1, rows ci_i64 r20.need_), some (1, rows ci_i64 r20.price_), some (1, rows ci_i64 r25), some (7, [[.ref 5 0 l46.length, .ref 6 0 l63.length, .i .i64 r11.most_, .i .i64 r11.yield_, .i .i64 r11.store_, .i .i64 r11.first_, .i .i64 r11.loss_]]), some (1, rows ci_i64 r106.need_), some (1, rows ci_i64 r106.price_), some (1, rows ci_i64 r108), some (1, rows ci_i64 r110.1)] [] ⟨ok15, ok17, ok19, ok25, ok27, ok32, ok39, ok40, trivial⟩ (by kernel_rfl) (by simp) ?_
                              refine VW.condB (b := (!eqI r115 k_100)) rfl (fun g118 => ?_) (fun g118 => ?_)
                              · replace h := iteT g118 h
                                refine VW.seq ?_
                                refine VW.evalA (C := [(15, F15), (17, F17), (19, F19), (25, F25), (27, F27), (32, F32), (39, F39), (40, F40)]) (A4 ((.b false) :: A :: (A4 (A64 (A64 []))))) [some (7, [[.sl 1 (rows ci_i64 aS.need_), .sl 1 (rows ci_i64 aS.price_), .i .i64 aS.most_, .i .i64 aS.yield_, .i .i64 aS.store_, .i .i64 aS.first_, .i .i64 aS.loss_]]), some (1, rows ci_i64 r5.need_), some (1, rows ci_i64 r5.price_), some (1, rows ci_i64 r7), some (1, rows ci_i64 r9.1), some (1, rows ci_i64 l46), some (1, rows ci_i64 l63), some (7, [[.ref 5 0 l46.length, .ref 6 0 l63.length, .i .i64 r11.most_, .i .i64 r11.yield_, .i .i64 r11.store_, .i .i64 r11.first_, .i .i64 r11.loss_]]), some (1, rows ci_i64 l80), some (1, rows ci_i64 l101), some (1, rows ci_i64 r20.need_), some (1, rows ci_i64 r20.price_), some (1, rows ci_i64 r25), some (7, [[.ref 5 0 l46.length, .ref 6 0 l63.length, .i .i64 r11.most_, .i .i64 r11.yield_, .i .i64 r11.store_, .i .i64 r11.first_, .i .i64 r11.loss_]]), some (1, rows ci_i64 r106.need_), some (1, rows ci_i64 r106.price_), some (1, rows ci_i64 r108), some (1, rows ci_i64 r110.1)] [] ⟨ok15, ok17, ok19, ok25, ok27, ok32, ok39, ok40, trivial⟩ (by kernel_rfl) (by simp) ?_
                                obtain rfl := leafS h
                                refine VW.ret (VRet.fin ?_)
                                simp [eB11]
                              · replace h := iteF g118 h
                                refine VW.skip ?_
                                refine VW.seq ?_
                                refine VW.evalA (C := [(15, F15), (17, F17), (19, F19), (25, F25), (27, F27), (32, F32), (39, F39), (40, F40)]) (A4 ((.b true) :: A :: (A4 (A64 (A64 []))))) [some (7, [[.sl 1 (rows ci_i64 aS.need_), .sl 1 (rows ci_i64 aS.price_), .i .i64 aS.most_, .i .i64 aS.yield_, .i .i64 aS.store_, .i .i64 aS.first_, .i .i64 aS.loss_]]), some (1, rows ci_i64 r5.need_), some (1, rows ci_i64 r5.price_), some (1, rows ci_i64 r7), some (1, rows ci_i64 r9.1), some (1, rows ci_i64 l46), some (1, rows ci_i64 l63), some (7, [[.ref 5 0 l46.length, .ref 6 0 l63.length, .i .i64 r11.most_, .i .i64 r11.yield_, .i .i64 r11.store_, .i .i64 r11.first_, .i .i64 r11.loss_]]), some (1, rows ci_i64 l80), some (1, rows ci_i64 l101), some (1, rows ci_i64 r20.need_), some (1, rows ci_i64 r20.price_), some (1, rows ci_i64 r25), some (7, [[.ref 5 0 l46.length, .ref 6 0 l63.length, .i .i64 r11.most_, .i .i64 r11.yield_, .i .i64 r11.store_, .i .i64 r11.first_, .i .i64 r11.loss_]]), some (1, rows ci_i64 r106.need_), some (1, rows ci_i64 r106.price_), some (1, rows ci_i64 r108), some (1, rows ci_i64 r110.1)] [] ⟨ok15, ok17, ok19, ok25, ok27, ok32, ok39, ok40, trivial⟩ (by kernel_rfl) (by simp) ?_
                                obtain rfl := leafS h
                                refine VW.ret (VRet.fin ?_)
                                simp [eB11]
end Go.Proofs.Yteggncgiflgopaa
