/- Contracts of the functions that the law reaches: what each tells, as a function in Lean. -/
import Derived.Test.YtilkneilafpjiaaK4b
import Derived.KernelRfl
namespace Go.Proofs.Ytilkneilafpjiaa
open Go.RowKit Go.VL
set_option linter.unusedSimpArgs false
set_option linter.unusedVariables false
set_option maxHeartbeats 1000000
noncomputable def g58 (a : T108) (b : T108) : Option (Bool) :=
  (g59 (wide a.outside_) (wide b.outside_)).bind fun r1 =>
  if (!r1) = true then
    some false
  else
    (g59 (wide a.sun_) (wide b.sun_)).bind fun r4 =>
    if (!r4) = true then
      some false
    else
      (g59 (wide a.wind_) (wide b.wind_)).bind fun r7 =>
      if (!r7) = true then
        some false
      else
        some true
def eA58 (a : T108 × T108) : List V := [.agg (pT108 a.1), .agg (pT108 a.2)]
def eB58 (r : Bool) : V := .b r
theorem inj58 (a a' : T108 × T108) (h : eA58 a = eA58 a') : a = a' := by
  obtain ⟨⟨i1231, i1232, i1233⟩, ⟨i1234, i1235, i1236⟩⟩ := a
  obtain ⟨⟨i1237, i1238, i1239⟩, ⟨i1240, i1241, i1242⟩⟩ := a'
  simp only [eA58, pT108, List.cons.injEq, V.i.injEq, V.b.injEq, V.f.injEq, V.str.injEq, V.sl.injEq, V.agg.injEq, V.cptr.injEq, true_and, and_true] at h
  simp_all
noncomputable def F58 : List V → Option V := tells (fun a => g58 a.1 a.2) eA58 eB58
set_option maxRecDepth 100000 in
set_option maxHeartbeats 4000000 in
/- loop.example/g01229/laws.eqHour -/
theorem ok58 : Tells Try.prog 58 F58 := by
  refine Tells.of (by kernel_rfl) ?_
  rintro ⟨a, b⟩ r h
  refine VCalls.nl (VCalls.of Try.func58 rfl rfl rfl ?_)
  rw [tm_init]
  simp only [eA58, en, List.length_cons, List.length_nil, Nat.reduceAdd, Nat.reduceSub]
  replace h : (g58 a b).bind some = some r := bindS h
  rw [g58] at h
  refine VW.seq ?_
  refine VW.evalA (C := [(59, F59)]) (tm 29 [(2, .ptr 0 0 0), (3, .ptr 1 0 0)]) [some (3, [(pT108 a)]), some (3, [(pT108 b)])] [] ⟨.inl ok59, trivial⟩ (by kernel_rfl) (by first | (simp -implicitDefEqProofs; done) | simp -implicitDefEqProofs [pT108]) ?_
  refine VW.seq ?_
  refine VW.seq ?_
  obtain ⟨r1, q2, h⟩ := bindE h
  have c2 : F59 [.f .f64 (wide a.outside_), .f .f64 (wide b.outside_)] = some (.b r1) := tells_eq inj59 (a := (wide a.outside_, wide b.outside_)) q2
  refine VW.evalA (C := [(59, F59)]) (tm 29 [(2, .ptr 0 0 0), (3, .ptr 1 0 0), (12, .b (!r1))]) [some (3, [(pT108 a)]), some (3, [(pT108 b)])] [] ⟨.inl ok59, trivial⟩ (by kernel_rfl) (by first | (simp -implicitDefEqProofs [c2]; done) | simp -implicitDefEqProofs [c2, pT108]) ?_
  refine VW.condB (b := (!r1)) (by simp) (fun g3 => ?_) (fun g3 => ?_)
  · replace h := iteT g3 h
    refine VW.seq ?_
    refine VW.evalA (C := [(59, F59)]) (tm 29 [(4, .b false)]) [some (3, [(pT108 a)]), some (3, [(pT108 b)])] [] ⟨.inl ok59, trivial⟩ (by kernel_rfl) (by first | (simp -implicitDefEqProofs; done) | simp -implicitDefEqProofs [pT108]) ?_
    obtain rfl := leafS h
    refine VW.ret (VRet.fin ?_)
    first | (simp [eB58]; done) | simp [eB58, pT108]
  · replace h := iteF g3 h
    refine VW.skip ?_
    refine VW.seq ?_
    refine VW.seq ?_
    obtain ⟨r4, q5, h⟩ := bindE h
    have c5 : F59 [.f .f64 (wide a.sun_), .f .f64 (wide b.sun_)] = some (.b r4) := tells_eq inj59 (a := (wide a.sun_, wide b.sun_)) q5
    refine VW.evalA (C := [(59, F59)]) (tm 29 [(2, .ptr 0 0 0), (3, .ptr 1 0 0), (20, .b (!r4))]) [some (3, [(pT108 a)]), some (3, [(pT108 b)])] [] ⟨.inl ok59, trivial⟩ (by kernel_rfl) (by first | (simp -implicitDefEqProofs [c5]; done) | simp -implicitDefEqProofs [c5, pT108]) ?_
    refine VW.condB (b := (!r4)) (by simp) (fun g6 => ?_) (fun g6 => ?_)
    · replace h := iteT g6 h
      refine VW.seq ?_
      refine VW.evalA (C := [(59, F59)]) (tm 29 [(4, .b false)]) [some (3, [(pT108 a)]), some (3, [(pT108 b)])] [] ⟨.inl ok59, trivial⟩ (by kernel_rfl) (by first | (simp -implicitDefEqProofs; done) | simp -implicitDefEqProofs [pT108]) ?_
      obtain rfl := leafS h
      refine VW.ret (VRet.fin ?_)
      first | (simp [eB58]; done) | simp [eB58, pT108]
    · replace h := iteF g6 h
      refine VW.skip ?_
      refine VW.seq ?_
      refine VW.seq ?_
      obtain ⟨r7, q8, h⟩ := bindE h
      have c8 : F59 [.f .f64 (wide a.wind_), .f .f64 (wide b.wind_)] = some (.b r7) := tells_eq inj59 (a := (wide a.wind_, wide b.wind_)) q8
      refine VW.evalA (C := [(59, F59)]) (tm 29 [(28, .b (!r7))]) [some (3, [(pT108 a)]), some (3, [(pT108 b)])] [] ⟨.inl ok59, trivial⟩ (by kernel_rfl) (by first | (simp -implicitDefEqProofs [c8]; done) | simp -implicitDefEqProofs [c8, pT108]) ?_
      refine VW.condB (b := (!r7)) (by simp) (fun g9 => ?_) (fun g9 => ?_)
      · replace h := iteT g9 h
        refine VW.seq ?_
        refine VW.evalA (C := [(59, F59)]) (tm 29 [(4, .b false)]) [some (3, [(pT108 a)]), some (3, [(pT108 b)])] [] ⟨.inl ok59, trivial⟩ (by kernel_rfl) (by first | (simp -implicitDefEqProofs; done) | simp -implicitDefEqProofs [pT108]) ?_
        obtain rfl := leafS h
        refine VW.ret (VRet.fin ?_)
        first | (simp [eB58]; done) | simp [eB58, pT108]
      · replace h := iteF g9 h
        refine VW.skip ?_
        refine VW.seq ?_
        refine VW.evalA (C := [(59, F59)]) (tm 29 [(4, .b true)]) [some (3, [(pT108 a)]), some (3, [(pT108 b)])] [] ⟨.inl ok59, trivial⟩ (by kernel_rfl) (by first | (simp -implicitDefEqProofs; done) | simp -implicitDefEqProofs [pT108]) ?_
        obtain rfl := leafS h
        refine VW.ret (VRet.fin ?_)
        first | (simp [eB58]; done) | simp [eB58, pT108]
noncomputable def g35_j1 : Option (Bool) :=
  some true
noncomputable def g35_L1 (a : List T108) (b : List T108) : (Int) → Option ((Int) ⊕ ((Unit) ⊕ (Bool)))
  | i_45 =>
    if ltI i_45 (a.length : Int) = true then
      (idx a i_45).bind fun e47 =>
      (idx b i_45).bind fun e49 =>
      (g58 e47 e49).bind fun r51 =>
      if (!r51) = true then
        some (.inr (.inr false))
      else
        some (.inl (aI .i64 i_45 1))
    else
      some (.inr (.inl ()))
noncomputable def g35 (a : List T108) (b : List T108) : Option (Bool) :=
  if (!eqI (a.length : Int) (b.length : Int)) = true then
    some false
  else
    (loopO (g35_L1 a b) 0).bind fun w => match w with
      | .inl y => g35_j1
      | .inr r => some r
def eA35 (a : (List T108) × (List T108)) : List V := [.sl 3 (rows cT108 a.1), .sl 3 (rows cT108 a.2)]
def eB35 (r : Bool) : V := .b r
theorem inj35 (a a' : (List T108) × (List T108)) (h : eA35 a = eA35 a') : a = a' := by
  obtain ⟨i1243, i1244⟩ := a
  obtain ⟨i1245, i1246⟩ := a'
  simp only [eA35, List.cons.injEq, V.i.injEq, V.b.injEq, V.f.injEq, V.str.injEq, V.sl.injEq, V.agg.injEq, V.cptr.injEq, true_and, and_true] at h
  simp_all [ri cT108_inj]
noncomputable def F35 : List V → Option V := tells (fun a => g35 a.1 a.2) eA35 eB35
set_option maxRecDepth 100000 in
set_option maxHeartbeats 4000000 in
/- loop.example/g01229/laws.eqHourS -/
theorem ok35 : Tells Try.prog 35 F35 := by
  refine Tells.of (by kernel_rfl) ?_
  rintro ⟨a, b⟩ r h
  refine VCalls.nl (VCalls.of Try.func35 rfl rfl rfl ?_)
  rw [tm_init]
  simp only [eA35, en, List.length_cons, List.length_nil, Nat.reduceAdd, Nat.reduceSub]
  replace h : (g35 a b).bind some = some r := bindS h
  rw [g35] at h
  refine VW.seq ?_
  refine VW.evalA (C := [(58, F58)]) (tm 27 [(0, .sl 3 (rows cT108 a)), (1, .sl 3 (rows cT108 b))]) [] [] ⟨.inl ok58, trivial⟩ (by kernel_rfl) (by simp -implicitDefEqProofs) ?_
  refine VW.seq ?_
  refine VW.seq ?_
  refine VW.evalA (C := [(58, F58)]) (tm 27 [(0, .sl 3 (rows cT108 a)), (1, .sl 3 (rows cT108 b)), (10, .b (!eqI (a.length : Int) (b.length : Int)))]) [] [] ⟨.inl ok58, trivial⟩ (by kernel_rfl) (by simp -implicitDefEqProofs) ?_
  refine VW.condB (b := (!eqI (a.length : Int) (b.length : Int))) (by simp) (fun g1 => ?_) (fun g1 => ?_)
  · replace h := iteT g1 h
    refine VW.seq ?_
    refine VW.evalA (C := [(58, F58)]) (tm 27 [(4, .b false)]) [] [] ⟨.inl ok58, trivial⟩ (by kernel_rfl) (by simp -implicitDefEqProofs) ?_
    obtain rfl := leafS h
    refine VW.ret (VRet.fin ?_)
    simp [eB35]
  · replace h := iteF g1 h
    refine VW.skip ?_
    refine VW.join (fun (v : Unit) => (⟨(tm 27 []), [], []⟩ : VS)) (fun v => (g35_j1).bind some = some r) ?_ ?_
    · refine VW.seq ?_
      refine VW.evalA (C := [(58, F58)]) (tm 27 [(0, .sl 3 (rows cT108 a)), (1, .sl 3 (rows cT108 b)), (5, .i .i64 0)]) [] [] ⟨.inl ok58, trivial⟩ (by kernel_rfl) (by simp -implicitDefEqProofs) ?_
      refine VW.block ?_
      obtain ⟨w_1, hw_1, h⟩ := bindE h
      refine VW.loopO (fun (x : Int) => (⟨(tm 27 [(0, .sl 3 (rows cT108 a)), (1, .sl 3 (rows cT108 b)), (5, .i .i64 x)]), [], []⟩ : VS)) hw_1 (Ent.to 0 (by simp [fgt]) (by simp) (by simp) (by simp [bndT, bndV]) (by simp [bndM, bndV])) ?_
      rintro n_1 i_45 h1
      rw [g35_L1] at h1
      refine VW.seq ?_
      refine VW.seq ?_
      refine VW.evalA (C := [(58, F58)]) (tm 27 [(0, .sl 3 (rows cT108 a)), (1, .sl 3 (rows cT108 b)), (5, .i .i64 i_45), (14, .b (ltI i_45 (a.length : Int)))]) [] [] ⟨.inl ok58, trivial⟩ (by kernel_rfl) (by simp -implicitDefEqProofs) ?_
      refine VW.condB (b := ltI i_45 (a.length : Int)) (by simp) (fun g46 => ?_) (fun g46 => ?_)
      · replace h1 := iteT g46 h1
        refine VW.skip ?_
        refine VW.seq ?_
        refine VW.block ?_
        refine VW.seq ?_
        obtain ⟨e47, q48, h1⟩ := bindE h1
        obtain ⟨f48a, f48b, f48c, f48d⟩ := idx_some q48
        obtain ⟨e49, q50, h1⟩ := bindE h1
        obtain ⟨f50a, f50b, f50c, f50d⟩ := idx_some q50
        obtain ⟨r51, q52, h1⟩ := bindE h1
        have c52 : F58 [.agg [.f .f32 e47.outside_, .f .f32 e47.sun_, .f .f32 e47.wind_], .agg [.f .f32 e49.outside_, .f .f32 e49.sun_, .f .f32 e49.wind_]] = some (.b r51) := tells_eq inj58 (a := (e47, e49)) q52
        refine VW.evalDA (C := [(58, F58)]) (tm 27 [(0, .sl 3 (rows cT108 a)), (1, .sl 3 (rows cT108 b)), (5, .i .i64 i_45), (26, .b (!r51))]) [] [] ⟨.inl ok58, trivial⟩ mixed (by kernel_rfl) (by simp -implicitDefEqProofs [f48a, f48b, f48c, f48d, f50a, f50b, f50c, f50d, c52]) ?_
        refine VW.condB (b := (!r51)) (by simp) (fun g53 => ?_) (fun g53 => ?_)
        · replace h1 := iteT g53 h1
          refine VW.seq ?_
          refine VW.evalA (C := [(58, F58)]) (tm 27 [(4, .b false)]) [] [] ⟨.inl ok58, trivial⟩ (by kernel_rfl) (by simp -implicitDefEqProofs) ?_
          have e_ := leafR h1
          subst w_1
          obtain rfl := leafS h
          refine VW.ret (VRet.fin ?_)
          simp [eB35]
        · replace h1 := iteF g53 h1
          refine VW.skip ?_
          refine VW.evalA (C := [(58, F58)]) (tm 27 [(0, .sl 3 (rows cT108 a)), (1, .sl 3 (rows cT108 b)), (5, .i .i64 (aI .i64 i_45 1))]) [] [] ⟨.inl ok58, trivial⟩ (by kernel_rfl) (by simp -implicitDefEqProofs) ?_
          exact (show ∃ _, _ from ⟨aI .i64 i_45 1, leafL h1, (Ent.to 0 (by simp [fgt]) (by simp) (by simp) (by simp [bndT, bndV]) (by simp [bndM, bndV]))⟩)
      · replace h1 := iteF g46 h1
        refine VW.exit ?_
        have e_ := leafR h1
        subst w_1
        exact (show ∃ _, _ from ⟨(), h, (Ent.to 0 (by simp [fgt]) (by simp) (by simp) (by simp [bndT, bndV]) (by simp [bndM, bndV]))⟩)
    · rintro _ h
      replace h : (g35_j1).bind _ = _ := h
      rw [g35_j1] at h
      refine VW.seq ?_
      refine VW.evalA (C := [(58, F58)]) (tm 27 [(4, .b true)]) [] [] ⟨.inl ok58, trivial⟩ (by kernel_rfl) (by simp -implicitDefEqProofs) ?_
      obtain rfl := leafS h
      refine VW.ret (VRet.fin ?_)
      simp [eB35]
noncomputable def g36 (a : T105) (b : T105) : Option (Bool) :=
  (g59 (wide a.burnt_) (wide b.burnt_)).bind fun r1 =>
  if (!r1) = true then
    some false
  else
    (g59 (wide a.steam_) (wide b.steam_)).bind fun r4 =>
    if (!r4) = true then
      some false
    else
      (g59 (wide a.up_) (wide b.up_)).bind fun r7 =>
      if (!r7) = true then
        some false
      else
        (g59 (wide a.lost_) (wide b.lost_)).bind fun r10 =>
        if (!r10) = true then
          some false
        else
          if (!eqI a.smoky_ b.smoky_) = true then
            some false
          else
            some true
def eA36 (a : T105 × T105) : List V := [.agg (pT105 a.1), .agg (pT105 a.2)]
def eB36 (r : Bool) : V := .b r
theorem inj36 (a a' : T105 × T105) (h : eA36 a = eA36 a') : a = a' := by
  obtain ⟨⟨i1247, i1248, i1249, i1250, i1251⟩, ⟨i1252, i1253, i1254, i1255, i1256⟩⟩ := a
  obtain ⟨⟨i1257, i1258, i1259, i1260, i1261⟩, ⟨i1262, i1263, i1264, i1265, i1266⟩⟩ := a'
  simp only [eA36, pT105, List.cons.injEq, V.i.injEq, V.b.injEq, V.f.injEq, V.str.injEq, V.sl.injEq, V.agg.injEq, V.cptr.injEq, true_and, and_true] at h
  simp_all
noncomputable def F36 : List V → Option V := tells (fun a => g36 a.1 a.2) eA36 eB36
set_option maxRecDepth 100000 in
set_option maxHeartbeats 4000000 in
/- loop.example/g01229/laws.eqSums -/
theorem ok36 : Tells Try.prog 36 F36 := by
  refine Tells.of (by kernel_rfl) ?_
  rintro ⟨a, b⟩ r h
  refine VCalls.nl (VCalls.of Try.func36 rfl rfl rfl ?_)
  rw [tm_init]
  simp only [eA36, en, List.length_cons, List.length_nil, Nat.reduceAdd, Nat.reduceSub]
  replace h : (g36 a b).bind some = some r := bindS h
  rw [g36] at h
  refine VW.seq ?_
  refine VW.evalA (C := [(59, F59)]) (tm 42 [(2, .ptr 0 0 0), (3, .ptr 1 0 0)]) [some (5, [(pT105 a)]), some (5, [(pT105 b)])] [] ⟨.inl ok59, trivial⟩ (by kernel_rfl) (by first | (simp -implicitDefEqProofs; done) | simp -implicitDefEqProofs [pT105]) ?_
  refine VW.seq ?_
  refine VW.seq ?_
  obtain ⟨r1, q2, h⟩ := bindE h
  have c2 : F59 [.f .f64 (wide a.burnt_), .f .f64 (wide b.burnt_)] = some (.b r1) := tells_eq inj59 (a := (wide a.burnt_, wide b.burnt_)) q2
  refine VW.evalA (C := [(59, F59)]) (tm 42 [(2, .ptr 0 0 0), (3, .ptr 1 0 0), (12, .b (!r1))]) [some (5, [(pT105 a)]), some (5, [(pT105 b)])] [] ⟨.inl ok59, trivial⟩ (by kernel_rfl) (by first | (simp -implicitDefEqProofs [c2]; done) | simp -implicitDefEqProofs [c2, pT105]) ?_
  refine VW.condB (b := (!r1)) (by simp) (fun g3 => ?_) (fun g3 => ?_)
  · replace h := iteT g3 h
    refine VW.seq ?_
    refine VW.evalA (C := [(59, F59)]) (tm 42 [(4, .b false)]) [some (5, [(pT105 a)]), some (5, [(pT105 b)])] [] ⟨.inl ok59, trivial⟩ (by kernel_rfl) (by first | (simp -implicitDefEqProofs; done) | simp -implicitDefEqProofs [pT105]) ?_
    obtain rfl := leafS h
    refine VW.ret (VRet.fin ?_)
    first | (simp [eB36]; done) | simp [eB36, pT105]
  · replace h := iteF g3 h
    refine VW.skip ?_
    refine VW.seq ?_
    refine VW.seq ?_
    obtain ⟨r4, q5, h⟩ := bindE h
    have c5 : F59 [.f .f64 (wide a.steam_), .f .f64 (wide b.steam_)] = some (.b r4) := tells_eq inj59 (a := (wide a.steam_, wide b.steam_)) q5
    refine VW.evalA (C := [(59, F59)]) (tm 42 [(2, .ptr 0 0 0), (3, .ptr 1 0 0), (20, .b (!r4))]) [some (5, [(pT105 a)]), some (5, [(pT105 b)])] [] ⟨.inl ok59, trivial⟩ (by kernel_rfl) (by first | (simp -implicitDefEqProofs [c5]; done) | simp -implicitDefEqProofs [c5, pT105]) ?_
    refine VW.condB (b := (!r4)) (by simp) (fun g6 => ?_) (fun g6 => ?_)
    · replace h := iteT g6 h
      refine VW.seq ?_
      refine VW.evalA (C := [(59, F59)]) (tm 42 [(4, .b false)]) [some (5, [(pT105 a)]), some (5, [(pT105 b)])] [] ⟨.inl ok59, trivial⟩ (by kernel_rfl) (by first | (simp -implicitDefEqProofs; done) | simp -implicitDefEqProofs [pT105]) ?_
      obtain rfl := leafS h
      refine VW.ret (VRet.fin ?_)
      first | (simp [eB36]; done) | simp [eB36, pT105]
    · replace h := iteF g6 h
      refine VW.skip ?_
      refine VW.seq ?_
      refine VW.seq ?_
      obtain ⟨r7, q8, h⟩ := bindE h
      have c8 : F59 [.f .f64 (wide a.up_), .f .f64 (wide b.up_)] = some (.b r7) := tells_eq inj59 (a := (wide a.up_, wide b.up_)) q8
      refine VW.evalA (C := [(59, F59)]) (tm 42 [(2, .ptr 0 0 0), (3, .ptr 1 0 0), (28, .b (!r7))]) [some (5, [(pT105 a)]), some (5, [(pT105 b)])] [] ⟨.inl ok59, trivial⟩ (by kernel_rfl) (by first | (simp -implicitDefEqProofs [c8]; done) | simp -implicitDefEqProofs [c8, pT105]) ?_
      refine VW.condB (b := (!r7)) (by simp) (fun g9 => ?_) (fun g9 => ?_)
      · replace h := iteT g9 h
        refine VW.seq ?_
        refine VW.evalA (C := [(59, F59)]) (tm 42 [(4, .b false)]) [some (5, [(pT105 a)]), some (5, [(pT105 b)])] [] ⟨.inl ok59, trivial⟩ (by kernel_rfl) (by first | (simp -implicitDefEqProofs; done) | simp -implicitDefEqProofs [pT105]) ?_
        obtain rfl := leafS h
        refine VW.ret (VRet.fin ?_)
        first | (simp [eB36]; done) | simp [eB36, pT105]
      · replace h := iteF g9 h
        refine VW.skip ?_
        refine VW.seq ?_
        refine VW.seq ?_
        obtain ⟨r10, q11, h⟩ := bindE h
        have c11 : F59 [.f .f64 (wide a.lost_), .f .f64 (wide b.lost_)] = some (.b r10) := tells_eq inj59 (a := (wide a.lost_, wide b.lost_)) q11
        refine VW.evalA (C := [(59, F59)]) (tm 42 [(2, .ptr 0 0 0), (3, .ptr 1 0 0), (36, .b (!r10))]) [some (5, [(pT105 a)]), some (5, [(pT105 b)])] [] ⟨.inl ok59, trivial⟩ (by kernel_rfl) (by first | (simp -implicitDefEqProofs [c11]; done) | simp -implicitDefEqProofs [c11, pT105]) ?_
        refine VW.condB (b := (!r10)) (by simp) (fun g12 => ?_) (fun g12 => ?_)
        · replace h := iteT g12 h
          refine VW.seq ?_
          refine VW.evalA (C := [(59, F59)]) (tm 42 [(4, .b false)]) [some (5, [(pT105 a)]), some (5, [(pT105 b)])] [] ⟨.inl ok59, trivial⟩ (by kernel_rfl) (by first | (simp -implicitDefEqProofs; done) | simp -implicitDefEqProofs [pT105]) ?_
          obtain rfl := leafS h
          refine VW.ret (VRet.fin ?_)
          first | (simp [eB36]; done) | simp [eB36, pT105]
        · replace h := iteF g12 h
          refine VW.skip ?_
          refine VW.seq ?_
          refine VW.seq ?_
          refine VW.evalA (C := [(59, F59)]) (tm 42 [(41, .b (!eqI a.smoky_ b.smoky_))]) [some (5, [(pT105 a)]), some (5, [(pT105 b)])] [] ⟨.inl ok59, trivial⟩ (by kernel_rfl) (by first | (simp -implicitDefEqProofs; done) | simp -implicitDefEqProofs [pT105]) ?_
          refine VW.condB (b := (!eqI a.smoky_ b.smoky_)) (by simp) (fun g13 => ?_) (fun g13 => ?_)
          · replace h := iteT g13 h
            refine VW.seq ?_
            refine VW.evalA (C := [(59, F59)]) (tm 42 [(4, .b false)]) [some (5, [(pT105 a)]), some (5, [(pT105 b)])] [] ⟨.inl ok59, trivial⟩ (by kernel_rfl) (by first | (simp -implicitDefEqProofs; done) | simp -implicitDefEqProofs [pT105]) ?_
            obtain rfl := leafS h
            refine VW.ret (VRet.fin ?_)
            first | (simp [eB36]; done) | simp [eB36, pT105]
          · replace h := iteF g13 h
            refine VW.skip ?_
            refine VW.seq ?_
            refine VW.evalA (C := [(59, F59)]) (tm 42 [(4, .b true)]) [some (5, [(pT105 a)]), some (5, [(pT105 b)])] [] ⟨.inl ok59, trivial⟩ (by kernel_rfl) (by first | (simp -implicitDefEqProofs; done) | simp -implicitDefEqProofs [pT105]) ?_
            obtain rfl := leafS h
            refine VW.ret (VRet.fin ?_)
            first | (simp [eB36]; done) | simp [eB36, pT105]
noncomputable def g11 (a : T38) (b : T38) : Option (Bool) :=
  (g31 a.flat_ b.flat_).bind fun r1 =>
  if (!r1) = true then
    some false
  else
    (g32 a.chimney_ b.chimney_).bind fun r4 =>
    if (!r4) = true then
      some false
    else
      (g33 a.hearths_ b.hearths_).bind fun r7 =>
      if (!r7) = true then
        some false
      else
        (g34 a.sources_ b.sources_).bind fun r10 =>
        if (!r10) = true then
          some false
        else
          (g35 a.hours_ b.hours_).bind fun r13 =>
          if (!r13) = true then
            some false
          else
            if (!eqI a.tick_ b.tick_) = true then
              some false
            else
              (g36 a.sums_ b.sums_).bind fun r17 =>
              if (!r17) = true then
                some false
              else
                some true
def eA11 (a : T38 × T38) : List V := [.agg (pT38 a.1), .agg (pT38 a.2)]
def eB11 (r : Bool) : V := .b r
theorem inj11 (a a' : T38 × T38) (h : eA11 a = eA11 a') : a = a' := by
  obtain ⟨⟨⟨i1267, i1268, i1269, i1270⟩, i1271, i1272, i1273, i1274, i1275, ⟨i1276, i1277, i1278, i1279, i1280⟩⟩, ⟨⟨i1281, i1282, i1283, i1284⟩, i1285, i1286, i1287, i1288, i1289, ⟨i1290, i1291, i1292, i1293, i1294⟩⟩⟩ := a
  obtain ⟨⟨⟨i1295, i1296, i1297, i1298⟩, i1299, i1300, i1301, i1302, i1303, ⟨i1304, i1305, i1306, i1307, i1308⟩⟩, ⟨⟨i1309, i1310, i1311, i1312⟩, i1313, i1314, i1315, i1316, i1317, ⟨i1318, i1319, i1320, i1321, i1322⟩⟩⟩ := a'
  simp only [eA11, pT38, List.cons.injEq, V.i.injEq, V.b.injEq, V.f.injEq, V.str.injEq, V.sl.injEq, V.agg.injEq, V.cptr.injEq, true_and, and_true] at h
  simp_all [ri cT105_inj, ri cT108_inj, ri cT132_inj, ri cT134_inj, ri cT92_inj, ri cf_f32_inj, ri cs__inj]
noncomputable def F11 : List V → Option V := tells (fun a => g11 a.1 a.2) eA11 eB11
set_option maxRecDepth 100000 in
set_option maxHeartbeats 4000000 in
/- loop.example/g01229/laws.eqHouse -/
theorem ok11 : Tells Try.prog 11 F11 := by
  refine Tells.of (by kernel_rfl) ?_
  rintro ⟨a, b⟩ r h
  refine VCalls.nl (VCalls.of Try.func11 rfl rfl rfl ?_)
  rw [tm_init]
  simp only [eA11, en, List.length_cons, List.length_nil, Nat.reduceAdd, Nat.reduceSub]
  replace h : (g11 a b).bind some = some r := bindS h
  rw [g11] at h
  refine VW.seq ?_
  refine VW.evalA (C := [(31, F31), (32, F32c), (33, F33), (34, F34), (35, F35), (36, F36)]) (tm 46 [(2, .ptr 0 0 0), (3, .ptr 1 0 0)]) [some (14, [(pT38 a)]), some (14, [(pT38 b)])] [] ⟨.inl ok31, .inl ok32, .inl ok33, .inl ok34, .inl ok35, .inl ok36, trivial⟩ (by kernel_rfl) (by first | (simp -implicitDefEqProofs; done) | simp -implicitDefEqProofs [pT38]) ?_
  refine VW.seq ?_
  refine VW.seq ?_
  obtain ⟨r1, q2, h⟩ := bindE h
  have c2 : F31 [.agg [.sl 1 (rows cf_f32 a.flat_.heat_), .sl 1 (rows cf_f32 a.flat_.store_), .sl 8 (rows cT132 a.flat_.walls_), .sl 4 (rows cT134 a.flat_.panes_)], .agg [.sl 1 (rows cf_f32 b.flat_.heat_), .sl 1 (rows cf_f32 b.flat_.store_), .sl 8 (rows cT132 b.flat_.walls_), .sl 4 (rows cT134 b.flat_.panes_)]] = some (.b r1) := tells_eq inj31 (a := (a.flat_, b.flat_)) q2
  refine VW.evalA (C := [(31, F31), (32, F32c), (33, F33), (34, F34), (35, F35), (36, F36)]) (tm 46 [(2, .ptr 0 0 0), (3, .ptr 1 0 0), (10, .b (!r1))]) [some (14, [(pT38 a)]), some (14, [(pT38 b)])] [] ⟨.inl ok31, .inl ok32, .inl ok33, .inl ok34, .inl ok35, .inl ok36, trivial⟩ (by kernel_rfl) (by first | (simp -implicitDefEqProofs [c2]; done) | simp -implicitDefEqProofs [c2, pT38]) ?_
  refine VW.condB (b := (!r1)) (by simp) (fun g3 => ?_) (fun g3 => ?_)
  · replace h := iteT g3 h
    refine VW.seq ?_
    refine VW.evalA (C := [(31, F31), (32, F32c), (33, F33), (34, F34), (35, F35), (36, F36)]) (tm 46 [(4, .b false)]) [some (14, [(pT38 a)]), some (14, [(pT38 b)])] [] ⟨.inl ok31, .inl ok32, .inl ok33, .inl ok34, .inl ok35, .inl ok36, trivial⟩ (by kernel_rfl) (by first | (simp -implicitDefEqProofs; done) | simp -implicitDefEqProofs [pT38]) ?_
    obtain rfl := leafS h
    refine VW.ret (VRet.fin ?_)
    first | (simp [eB11]; done) | simp [eB11, pT38]
  · replace h := iteF g3 h
    refine VW.skip ?_
    refine VW.seq ?_
    refine VW.seq ?_
    obtain ⟨r4, q5, h⟩ := bindE h
    have c5 : F32c [.sl 5 (rows cT105 a.chimney_), .sl 5 (rows cT105 b.chimney_)] = some (.b r4) := tells_eq inj32 (a := (a.chimney_, b.chimney_)) q5
    refine VW.evalA (C := [(31, F31), (32, F32c), (33, F33), (34, F34), (35, F35), (36, F36)]) (tm 46 [(2, .ptr 0 0 0), (3, .ptr 1 0 0), (16, .b (!r4))]) [some (14, [(pT38 a)]), some (14, [(pT38 b)])] [] ⟨.inl ok31, .inl ok32, .inl ok33, .inl ok34, .inl ok35, .inl ok36, trivial⟩ (by kernel_rfl) (by first | (simp -implicitDefEqProofs [c5]; done) | simp -implicitDefEqProofs [c5, pT38]) ?_
    refine VW.condB (b := (!r4)) (by simp) (fun g6 => ?_) (fun g6 => ?_)
    · replace h := iteT g6 h
      refine VW.seq ?_
      refine VW.evalA (C := [(31, F31), (32, F32c), (33, F33), (34, F34), (35, F35), (36, F36)]) (tm 46 [(4, .b false)]) [some (14, [(pT38 a)]), some (14, [(pT38 b)])] [] ⟨.inl ok31, .inl ok32, .inl ok33, .inl ok34, .inl ok35, .inl ok36, trivial⟩ (by kernel_rfl) (by first | (simp -implicitDefEqProofs; done) | simp -implicitDefEqProofs [pT38]) ?_
      obtain rfl := leafS h
      refine VW.ret (VRet.fin ?_)
      first | (simp [eB11]; done) | simp [eB11, pT38]
    · replace h := iteF g6 h
      refine VW.skip ?_
      refine VW.seq ?_
      refine VW.seq ?_
      obtain ⟨r7, q8, h⟩ := bindE h
      have c8 : F33 [.sl 9 (rows cT92 a.hearths_), .sl 9 (rows cT92 b.hearths_)] = some (.b r7) := tells_eq inj33 (a := (a.hearths_, b.hearths_)) q8
      refine VW.evalA (C := [(31, F31), (32, F32c), (33, F33), (34, F34), (35, F35), (36, F36)]) (tm 46 [(2, .ptr 0 0 0), (3, .ptr 1 0 0), (22, .b (!r7))]) [some (14, [(pT38 a)]), some (14, [(pT38 b)])] [] ⟨.inl ok31, .inl ok32, .inl ok33, .inl ok34, .inl ok35, .inl ok36, trivial⟩ (by kernel_rfl) (by first | (simp -implicitDefEqProofs [c8]; done) | simp -implicitDefEqProofs [c8, pT38]) ?_
      refine VW.condB (b := (!r7)) (by simp) (fun g9 => ?_) (fun g9 => ?_)
      · replace h := iteT g9 h
        refine VW.seq ?_
        refine VW.evalA (C := [(31, F31), (32, F32c), (33, F33), (34, F34), (35, F35), (36, F36)]) (tm 46 [(4, .b false)]) [some (14, [(pT38 a)]), some (14, [(pT38 b)])] [] ⟨.inl ok31, .inl ok32, .inl ok33, .inl ok34, .inl ok35, .inl ok36, trivial⟩ (by kernel_rfl) (by first | (simp -implicitDefEqProofs; done) | simp -implicitDefEqProofs [pT38]) ?_
        obtain rfl := leafS h
        refine VW.ret (VRet.fin ?_)
        first | (simp [eB11]; done) | simp [eB11, pT38]
      · replace h := iteF g9 h
        refine VW.skip ?_
        refine VW.seq ?_
        refine VW.seq ?_
        obtain ⟨r10, q11, h⟩ := bindE h
        have c11 : F34 [.sl 1 (rows cs_ a.sources_), .sl 1 (rows cs_ b.sources_)] = some (.b r10) := tells_eq inj34 (a := (a.sources_, b.sources_)) q11
        refine VW.evalA (C := [(31, F31), (32, F32c), (33, F33), (34, F34), (35, F35), (36, F36)]) (tm 46 [(2, .ptr 0 0 0), (3, .ptr 1 0 0), (28, .b (!r10))]) [some (14, [(pT38 a)]), some (14, [(pT38 b)])] [] ⟨.inl ok31, .inl ok32, .inl ok33, .inl ok34, .inl ok35, .inl ok36, trivial⟩ (by kernel_rfl) (by first | (simp -implicitDefEqProofs [c11]; done) | simp -implicitDefEqProofs [c11, pT38]) ?_
        refine VW.condB (b := (!r10)) (by simp) (fun g12 => ?_) (fun g12 => ?_)
        · replace h := iteT g12 h
          refine VW.seq ?_
          refine VW.evalA (C := [(31, F31), (32, F32c), (33, F33), (34, F34), (35, F35), (36, F36)]) (tm 46 [(4, .b false)]) [some (14, [(pT38 a)]), some (14, [(pT38 b)])] [] ⟨.inl ok31, .inl ok32, .inl ok33, .inl ok34, .inl ok35, .inl ok36, trivial⟩ (by kernel_rfl) (by first | (simp -implicitDefEqProofs; done) | simp -implicitDefEqProofs [pT38]) ?_
          obtain rfl := leafS h
          refine VW.ret (VRet.fin ?_)
          first | (simp [eB11]; done) | simp [eB11, pT38]
        · replace h := iteF g12 h
          refine VW.skip ?_
          refine VW.seq ?_
          refine VW.seq ?_
          obtain ⟨r13, q14, h⟩ := bindE h
          have c14 : F35 [.sl 3 (rows cT108 a.hours_), .sl 3 (rows cT108 b.hours_)] = some (.b r13) := tells_eq inj35 (a := (a.hours_, b.hours_)) q14
          refine VW.evalA (C := [(31, F31), (32, F32c), (33, F33), (34, F34), (35, F35), (36, F36)]) (tm 46 [(2, .ptr 0 0 0), (3, .ptr 1 0 0), (34, .b (!r13))]) [some (14, [(pT38 a)]), some (14, [(pT38 b)])] [] ⟨.inl ok31, .inl ok32, .inl ok33, .inl ok34, .inl ok35, .inl ok36, trivial⟩ (by kernel_rfl) (by first | (simp -implicitDefEqProofs [c14]; done) | simp -implicitDefEqProofs [c14, pT38]) ?_
          refine VW.condB (b := (!r13)) (by simp) (fun g15 => ?_) (fun g15 => ?_)
          · replace h := iteT g15 h
            refine VW.seq ?_
            refine VW.evalA (C := [(31, F31), (32, F32c), (33, F33), (34, F34), (35, F35), (36, F36)]) (tm 46 [(4, .b false)]) [some (14, [(pT38 a)]), some (14, [(pT38 b)])] [] ⟨.inl ok31, .inl ok32, .inl ok33, .inl ok34, .inl ok35, .inl ok36, trivial⟩ (by kernel_rfl) (by first | (simp -implicitDefEqProofs; done) | simp -implicitDefEqProofs [pT38]) ?_
            obtain rfl := leafS h
            refine VW.ret (VRet.fin ?_)
            first | (simp [eB11]; done) | simp [eB11, pT38]
          · replace h := iteF g15 h
            refine VW.skip ?_
            refine VW.seq ?_
            refine VW.seq ?_
            refine VW.evalA (C := [(31, F31), (32, F32c), (33, F33), (34, F34), (35, F35), (36, F36)]) (tm 46 [(2, .ptr 0 0 0), (3, .ptr 1 0 0), (39, .b (!eqI a.tick_ b.tick_))]) [some (14, [(pT38 a)]), some (14, [(pT38 b)])] [] ⟨.inl ok31, .inl ok32, .inl ok33, .inl ok34, .inl ok35, .inl ok36, trivial⟩ (by kernel_rfl) (by first | (simp -implicitDefEqProofs; done) | simp -implicitDefEqProofs [pT38]) ?_
            refine VW.condB (b := (!eqI a.tick_ b.tick_)) (by simp) (fun g16 => ?_) (fun g16 => ?_)
            · replace h := iteT g16 h
              refine VW.seq ?_
              refine VW.evalA (C := [(31, F31), (32, F32c), (33, F33), (34, F34), (35, F35), (36, F36)]) (tm 46 [(4, .b false)]) [some (14, [(pT38 a)]), some (14, [(pT38 b)])] [] ⟨.inl ok31, .inl ok32, .inl ok33, .inl ok34, .inl ok35, .inl ok36, trivial⟩ (by kernel_rfl) (by first | (simp -implicitDefEqProofs; done) | simp -implicitDefEqProofs [pT38]) ?_
              obtain rfl := leafS h
              refine VW.ret (VRet.fin ?_)
              first | (simp [eB11]; done) | simp [eB11, pT38]
            · replace h := iteF g16 h
              refine VW.skip ?_
              refine VW.seq ?_
              refine VW.seq ?_
              obtain ⟨r17, q18, h⟩ := bindE h
              have c18 : F36 [.agg [.f .f32 a.sums_.burnt_, .f .f32 a.sums_.steam_, .f .f32 a.sums_.up_, .f .f32 a.sums_.lost_, .i .i64 a.sums_.smoky_], .agg [.f .f32 b.sums_.burnt_, .f .f32 b.sums_.steam_, .f .f32 b.sums_.up_, .f .f32 b.sums_.lost_, .i .i64 b.sums_.smoky_]] = some (.b r17) := tells_eq inj36 (a := (a.sums_, b.sums_)) q18
              refine VW.evalA (C := [(31, F31), (32, F32c), (33, F33), (34, F34), (35, F35), (36, F36)]) (tm 46 [(45, .b (!r17))]) [some (14, [(pT38 a)]), some (14, [(pT38 b)])] [] ⟨.inl ok31, .inl ok32, .inl ok33, .inl ok34, .inl ok35, .inl ok36, trivial⟩ (by kernel_rfl) (by first | (simp -implicitDefEqProofs [c18]; done) | simp -implicitDefEqProofs [c18, pT38]) ?_
              refine VW.condB (b := (!r17)) (by simp) (fun g19 => ?_) (fun g19 => ?_)
              · replace h := iteT g19 h
                refine VW.seq ?_
                refine VW.evalA (C := [(31, F31), (32, F32c), (33, F33), (34, F34), (35, F35), (36, F36)]) (tm 46 [(4, .b false)]) [some (14, [(pT38 a)]), some (14, [(pT38 b)])] [] ⟨.inl ok31, .inl ok32, .inl ok33, .inl ok34, .inl ok35, .inl ok36, trivial⟩ (by kernel_rfl) (by first | (simp -implicitDefEqProofs; done) | simp -implicitDefEqProofs [pT38]) ?_
                obtain rfl := leafS h
                refine VW.ret (VRet.fin ?_)
                first | (simp [eB11]; done) | simp [eB11, pT38]
              · replace h := iteF g19 h
                refine VW.skip ?_
                refine VW.seq ?_
                refine VW.evalA (C := [(31, F31), (32, F32c), (33, F33), (34, F34), (35, F35), (36, F36)]) (tm 46 [(4, .b true)]) [some (14, [(pT38 a)]), some (14, [(pT38 b)])] [] ⟨.inl ok31, .inl ok32, .inl ok33, .inl ok34, .inl ok35, .inl ok36, trivial⟩ (by kernel_rfl) (by first | (simp -implicitDefEqProofs; done) | simp -implicitDefEqProofs [pT38]) ?_
                obtain rfl := leafS h
                refine VW.ret (VRet.fin ?_)
                first | (simp [eB11]; done) | simp [eB11, pT38]
noncomputable def g4 (aH : T38) (aG : T38) : Option (Bool) :=
  (g7 aH 1048576).bind fun r1 =>
  if ltI r1 0 = true then
    some true
  else
    (g7 aG r1).bind fun r4 =>
    if ltI r4 0 = true then
      some true
    else
      (g9 aH).bind fun r7 =>
      (g9 aG).bind fun r9 =>
      (g8 r7 r9).bind fun r11 =>
      (g9 aH).bind fun r13 =>
      (g9 aG).bind fun r15 =>
      (g10 r13 r15).bind fun r17 =>
      if (!(r17 == r11)) = true then
        some false
      else
        (g9 aH).bind fun r20 =>
        (g11 r13 r20).bind fun r22 =>
        if (!r22) = true then
          some false
        else
          (g9 aG).bind fun r25 =>
          (g11 r15 r25).bind fun r27 =>
          if (!r27) = true then
            some false
          else
            some true
def eA4 (a : T38 × T38) : List V := [.agg (pT38 a.1), .agg (pT38 a.2)]
def eB4 (r : Bool) : V := .b r
theorem inj4 (a a' : T38 × T38) (h : eA4 a = eA4 a') : a = a' := by
  obtain ⟨⟨⟨i1323, i1324, i1325, i1326⟩, i1327, i1328, i1329, i1330, i1331, ⟨i1332, i1333, i1334, i1335, i1336⟩⟩, ⟨⟨i1337, i1338, i1339, i1340⟩, i1341, i1342, i1343, i1344, i1345, ⟨i1346, i1347, i1348, i1349, i1350⟩⟩⟩ := a
  obtain ⟨⟨⟨i1351, i1352, i1353, i1354⟩, i1355, i1356, i1357, i1358, i1359, ⟨i1360, i1361, i1362, i1363, i1364⟩⟩, ⟨⟨i1365, i1366, i1367, i1368⟩, i1369, i1370, i1371, i1372, i1373, ⟨i1374, i1375, i1376, i1377, i1378⟩⟩⟩ := a'
  simp only [eA4, pT38, List.cons.injEq, V.i.injEq, V.b.injEq, V.f.injEq, V.str.injEq, V.sl.injEq, V.agg.injEq, V.cptr.injEq, true_and, and_true] at h
  simp_all [ri cT105_inj, ri cT108_inj, ri cT132_inj, ri cT134_inj, ri cT92_inj, ri cf_f32_inj, ri cs__inj]
noncomputable def F4 : List V → Option V := tells (fun a => g4 a.1 a.2) eA4 eB4
set_option maxRecDepth 100000 in
set_option maxHeartbeats 40000000 in
/- loop.example/g01229/laws.FnExactSameHouse -/
theorem ok4 : Tells Try.prog 4 F4 := by
  refine Tells.of (by kernel_rfl) ?_
  rintro ⟨aH, aG⟩ r h
  refine VCalls.nl (VCalls.of Try.func4 rfl rfl rfl ?_)
  rw [tm_init]
  simp only [eA4, en, List.length_cons, List.length_nil, Nat.reduceAdd, Nat.reduceSub]
  replace h : (g4 aH aG).bind some = some r := bindS h
  rw [g4] at h
  refine VW.seq ?_
  refine VW.evalA (C := [(7, F7), (8, F8), (9, F9), (10, F10), (11, F11)]) (tm 45 [(2, .ptr 0 0 0), (3, .ptr 1 0 0)]) [some (14, [(pT38 aH)]), some (14, [(pT38 aG)])] [] ⟨.inl ok7, .inl ok8, .inl ok9, .inl ok10, .inl ok11, trivial⟩ (by kernel_rfl) (by first | (simp -implicitDefEqProofs; done) | simp -implicitDefEqProofs [pT38]) ?_
  refine VW.seq ?_
  refine VW.evalA (C := [(7, F7), (8, F8), (9, F9), (10, F10), (11, F11)]) (tm 45 [(2, .ptr 0 0 0), (3, .ptr 1 0 0), (5, .i .i64 1048576)]) [some (14, [(pT38 aH)]), some (14, [(pT38 aG)])] [] ⟨.inl ok7, .inl ok8, .inl ok9, .inl ok10, .inl ok11, trivial⟩ (by kernel_rfl) (by first | (simp -implicitDefEqProofs; done) | simp -implicitDefEqProofs [pT38]) ?_
  refine VW.seq ?_
  obtain ⟨r1, q2, h⟩ := bindE h
  have c2 : F7 [.agg (pT38 aH), .i .i64 1048576] = some (.i .i64 r1) := tells_eq inj7 (a := (aH, 1048576)) q2
  refine VW.evalA (C := [(7, F7), (8, F8), (9, F9), (10, F10), (11, F11)]) (tm 45 [(2, .ptr 0 0 0), (3, .ptr 1 0 0), (5, .i .i64 r1)]) [some (14, [(pT38 aH)]), some (14, [(pT38 aG)])] [] ⟨.inl ok7, .inl ok8, .inl ok9, .inl ok10, .inl ok11, trivial⟩ (by kernel_rfl) (by first | (simp -implicitDefEqProofs [c2]; done) | simp -implicitDefEqProofs [c2, pT38]) ?_
  refine VW.seq ?_
  refine VW.seq ?_
  refine VW.evalA (C := [(7, F7), (8, F8), (9, F9), (10, F10), (11, F11)]) (tm 45 [(2, .ptr 0 0 0), (3, .ptr 1 0 0), (5, .i .i64 r1), (14, .b (ltI r1 0))]) [some (14, [(pT38 aH)]), some (14, [(pT38 aG)])] [] ⟨.inl ok7, .inl ok8, .inl ok9, .inl ok10, .inl ok11, trivial⟩ (by kernel_rfl) (by first | (simp -implicitDefEqProofs; done) | simp -implicitDefEqProofs [pT38]) ?_
  refine VW.condB (b := ltI r1 0) (by simp) (fun g3 => ?_) (fun g3 => ?_)
  · replace h := iteT g3 h
    refine VW.seq ?_
    refine VW.evalA (C := [(7, F7), (8, F8), (9, F9), (10, F10), (11, F11)]) (tm 45 [(4, .b true)]) [some (14, [(pT38 aH)]), some (14, [(pT38 aG)])] [] ⟨.inl ok7, .inl ok8, .inl ok9, .inl ok10, .inl ok11, trivial⟩ (by kernel_rfl) (by first | (simp -implicitDefEqProofs; done) | simp -implicitDefEqProofs [pT38]) ?_
    obtain rfl := leafS h
    refine VW.ret (VRet.fin ?_)
    first | (simp [eB4]; done) | simp [eB4, pT38]
  · replace h := iteF g3 h
    refine VW.skip ?_
    refine VW.seq ?_
    obtain ⟨r4, q5, h⟩ := bindE h
    have c5 : F7 [.agg (pT38 aG), .i .i64 r1] = some (.i .i64 r4) := tells_eq inj7 (a := (aG, r1)) q5
    refine VW.evalA (C := [(7, F7), (8, F8), (9, F9), (10, F10), (11, F11)]) (tm 45 [(2, .ptr 0 0 0), (3, .ptr 1 0 0), (5, .i .i64 r4)]) [some (14, [(pT38 aH)]), some (14, [(pT38 aG)])] [] ⟨.inl ok7, .inl ok8, .inl ok9, .inl ok10, .inl ok11, trivial⟩ (by kernel_rfl) (by first | (simp -implicitDefEqProofs [c5]; done) | simp -implicitDefEqProofs [c5, pT38]) ?_
    refine VW.seq ?_
    refine VW.seq ?_
    refine VW.evalA (C := [(7, F7), (8, F8), (9, F9), (10, F10), (11, F11)]) (tm 45 [(2, .ptr 0 0 0), (3, .ptr 1 0 0), (19, .b (ltI r4 0))]) [some (14, [(pT38 aH)]), some (14, [(pT38 aG)])] [] ⟨.inl ok7, .inl ok8, .inl ok9, .inl ok10, .inl ok11, trivial⟩ (by kernel_rfl) (by first | (simp -implicitDefEqProofs; done) | simp -implicitDefEqProofs [pT38]) ?_
    refine VW.condB (b := ltI r4 0) (by simp) (fun g6 => ?_) (fun g6 => ?_)
    · replace h := iteT g6 h
      refine VW.seq ?_
      refine VW.evalA (C := [(7, F7), (8, F8), (9, F9), (10, F10), (11, F11)]) (tm 45 [(4, .b true)]) [some (14, [(pT38 aH)]), some (14, [(pT38 aG)])] [] ⟨.inl ok7, .inl ok8, .inl ok9, .inl ok10, .inl ok11, trivial⟩ (by kernel_rfl) (by first | (simp -implicitDefEqProofs; done) | simp -implicitDefEqProofs [pT38]) ?_
      obtain rfl := leafS h
      refine VW.ret (VRet.fin ?_)
      first | (simp [eB4]; done) | simp [eB4, pT38]
    · replace h := iteF g6 h
      refine VW.skip ?_
      refine VW.seq ?_
      obtain ⟨r7, q8, h⟩ := bindE h
      have c8 : F9 [.agg (pT38 aH)] = some (.agg [.own 1 (rows cf_f32 r7.flat_.heat_), .own 1 (rows cf_f32 r7.flat_.store_), .own 8 (rows cT132 r7.flat_.walls_), .own 4 (rows cT134 r7.flat_.panes_), .own 5 (rows cT105 r7.chimney_), .own 9 (rows cT92o r7.hearths_), .own 1 (rows cs_ r7.sources_), .own 3 (rows cT108 r7.hours_), .i .i64 r7.tick_, .f .f32 r7.sums_.burnt_, .f .f32 r7.sums_.steam_, .f .f32 r7.sums_.up_, .f .f32 r7.sums_.lost_, .i .i64 r7.sums_.smoky_]) := tells_eq inj9 (a := aH) q8
      obtain ⟨r9, q10, h⟩ := bindE h
      have c10 : F9 [.agg (pT38 aG)] = some (.agg [.own 1 (rows cf_f32 r9.flat_.heat_), .own 1 (rows cf_f32 r9.flat_.store_), .own 8 (rows cT132 r9.flat_.walls_), .own 4 (rows cT134 r9.flat_.panes_), .own 5 (rows cT105 r9.chimney_), .own 9 (rows cT92o r9.hearths_), .own 1 (rows cs_ r9.sources_), .own 3 (rows cT108 r9.hours_), .i .i64 r9.tick_, .f .f32 r9.sums_.burnt_, .f .f32 r9.sums_.steam_, .f .f32 r9.sums_.up_, .f .f32 r9.sums_.lost_, .i .i64 r9.sums_.smoky_]) := tells_eq inj9 (a := aG) q10
      obtain ⟨r11, q12, h⟩ := bindE h
      have c12 : F8 [.agg [.sl 1 (rows cf_f32 r7.flat_.heat_), .sl 1 (rows cf_f32 r7.flat_.store_), .sl 8 (rows cT132 r7.flat_.walls_), .sl 4 (rows cT134 r7.flat_.panes_), .sl 5 (rows cT105 r7.chimney_), .sl 9 (rows cT92 r7.hearths_), .sl 1 (rows cs_ r7.sources_), .sl 3 (rows cT108 r7.hours_), .i .i64 r7.tick_, .f .f32 r7.sums_.burnt_, .f .f32 r7.sums_.steam_, .f .f32 r7.sums_.up_, .f .f32 r7.sums_.lost_, .i .i64 r7.sums_.smoky_], .agg [.sl 1 (rows cf_f32 r9.flat_.heat_), .sl 1 (rows cf_f32 r9.flat_.store_), .sl 8 (rows cT132 r9.flat_.walls_), .sl 4 (rows cT134 r9.flat_.panes_), .sl 5 (rows cT105 r9.chimney_), .sl 9 (rows cT92 r9.hearths_), .sl 1 (rows cs_ r9.sources_), .sl 3 (rows cT108 r9.hours_), .i .i64 r9.tick_, .f .f32 r9.sums_.burnt_, .f .f32 r9.sums_.steam_, .f .f32 r9.sums_.up_, .f .f32 r9.sums_.lost_, .i .i64 r9.sums_.smoky_]] = some (.b r11) := tells_eq inj8 (a := (r7, r9)) q12
      refine VW.evalDA (C := [(7, F7), (8, F8), (9, F9), (10, F10), (11, F11)]) (tm 45 [(2, .ptr 0 0 0), (3, .ptr 1 0 0), (6, .b r11)]) [some (14, [(pT38 aH)]), some (14, [(pT38 aG)]), some (1, rows cf_f32 r7.flat_.heat_), some (1, rows cf_f32 r7.flat_.store_), some (8, rows cT132 r7.flat_.walls_), some (4, rows cT134 r7.flat_.panes_), some (5, rows cT105 r7.chimney_), some (9, rows cT92o r7.hearths_), some (1, rows cs_ r7.sources_), some (3, rows cT108 r7.hours_), some (1, rows cf_f32 r9.flat_.heat_), some (1, rows cf_f32 r9.flat_.store_), some (8, rows cT132 r9.flat_.walls_), some (4, rows cT134 r9.flat_.panes_), some (5, rows cT105 r9.chimney_), some (9, rows cT92o r9.hearths_), some (1, rows cs_ r9.sources_), some (3, rows cT108 r9.hours_)] [] ⟨.inl ok7, .inl ok8, .inl ok9, .inl ok10, .inl ok11, trivial⟩ mixed (by kernel_rfl) (by first | (simp -implicitDefEqProofs [c8, c10, c12]; done) | simp -implicitDefEqProofs [c8, c10, c12, pT38]) ?_
      refine VW.seq ?_
      obtain ⟨r13, q14, h⟩ := bindE h
      have c14 : F9 [.agg (pT38 aH)] = some (.agg [.own 1 (rows cf_f32 r13.flat_.heat_), .own 1 (rows cf_f32 r13.flat_.store_), .own 8 (rows cT132 r13.flat_.walls_), .own 4 (rows cT134 r13.flat_.panes_), .own 5 (rows cT105 r13.chimney_), .own 9 (rows cT92o r13.hearths_), .own 1 (rows cs_ r13.sources_), .own 3 (rows cT108 r13.hours_), .i .i64 r13.tick_, .f .f32 r13.sums_.burnt_, .f .f32 r13.sums_.steam_, .f .f32 r13.sums_.up_, .f .f32 r13.sums_.lost_, .i .i64 r13.sums_.smoky_]) := tells_eq inj9 (a := aH) q14
      refine VW.evalA (C := [(7, F7), (8, F8), (9, F9), (10, F10), (11, F11)]) (tm 45 [(2, .ptr 0 0 0), (3, .ptr 1 0 0), (6, .b r11), (7, .ptr 26 0 0)]) [some (14, [(pT38 aH)]), some (14, [(pT38 aG)]), some (1, rows cf_f32 r7.flat_.heat_), some (1, rows cf_f32 r7.flat_.store_), some (8, rows cT132 r7.flat_.walls_), some (4, rows cT134 r7.flat_.panes_), some (5, rows cT105 r7.chimney_), some (9, rows cT92o r7.hearths_), some (1, rows cs_ r7.sources_), some (3, rows cT108 r7.hours_), some (1, rows cf_f32 r9.flat_.heat_), some (1, rows cf_f32 r9.flat_.store_), some (8, rows cT132 r9.flat_.walls_), some (4, rows cT134 r9.flat_.panes_), some (5, rows cT105 r9.chimney_), some (9, rows cT92o r9.hearths_), some (1, rows cs_ r9.sources_), some (3, rows cT108 r9.hours_), some (1, rows cf_f32 r13.flat_.heat_), some (1, rows cf_f32 r13.flat_.store_), some (8, rows cT132 r13.flat_.walls_), some (4, rows cT134 r13.flat_.panes_), some (5, rows cT105 r13.chimney_), some (9, rows cT92o r13.hearths_), some (1, rows cs_ r13.sources_), some (3, rows cT108 r13.hours_), some (14, [[.ref 18 0 r13.flat_.heat_.length, .ref 19 0 r13.flat_.store_.length, .ref 20 0 r13.flat_.walls_.length, .ref 21 0 r13.flat_.panes_.length, .ref 22 0 r13.chimney_.length, .ref 23 0 r13.hearths_.length, .ref 24 0 r13.sources_.length, .ref 25 0 r13.hours_.length, .i .i64 r13.tick_, .f .f32 r13.sums_.burnt_, .f .f32 r13.sums_.steam_, .f .f32 r13.sums_.up_, .f .f32 r13.sums_.lost_, .i .i64 r13.sums_.smoky_]])] [] ⟨.inl ok7, .inl ok8, .inl ok9, .inl ok10, .inl ok11, trivial⟩ (by kernel_rfl) (by first | (simp -implicitDefEqProofs [c14]; done) | simp -implicitDefEqProofs [c14, pT38]) ?_
      refine VW.seq ?_
      obtain ⟨r15, q16, h⟩ := bindE h
      have c16 : F9 [.agg (pT38 aG)] = some (.agg [.own 1 (rows cf_f32 r15.flat_.heat_), .own 1 (rows cf_f32 r15.flat_.store_), .own 8 (rows cT132 r15.flat_.walls_), .own 4 (rows cT134 r15.flat_.panes_), .own 5 (rows cT105 r15.chimney_), .own 9 (rows cT92o r15.hearths_), .own 1 (rows cs_ r15.sources_), .own 3 (rows cT108 r15.hours_), .i .i64 r15.tick_, .f .f32 r15.sums_.burnt_, .f .f32 r15.sums_.steam_, .f .f32 r15.sums_.up_, .f .f32 r15.sums_.lost_, .i .i64 r15.sums_.smoky_]) := tells_eq inj9 (a := aG) q16
      refine VW.evalA (C := [(7, F7), (8, F8), (9, F9), (10, F10), (11, F11)]) (tm 45 [(2, .ptr 0 0 0), (3, .ptr 1 0 0), (6, .b r11), (7, .ptr 26 0 0), (8, .ptr 35 0 0)]) [some (14, [(pT38 aH)]), some (14, [(pT38 aG)]), some (1, rows cf_f32 r7.flat_.heat_), some (1, rows cf_f32 r7.flat_.store_), some (8, rows cT132 r7.flat_.walls_), some (4, rows cT134 r7.flat_.panes_), some (5, rows cT105 r7.chimney_), some (9, rows cT92o r7.hearths_), some (1, rows cs_ r7.sources_), some (3, rows cT108 r7.hours_), some (1, rows cf_f32 r9.flat_.heat_), some (1, rows cf_f32 r9.flat_.store_), some (8, rows cT132 r9.flat_.walls_), some (4, rows cT134 r9.flat_.panes_), some (5, rows cT105 r9.chimney_), some (9, rows cT92o r9.hearths_), some (1, rows cs_ r9.sources_), some (3, rows cT108 r9.hours_), some (1, rows cf_f32 r13.flat_.heat_), some (1, rows cf_f32 r13.flat_.store_), some (8, rows cT132 r13.flat_.walls_), some (4, rows cT134 r13.flat_.panes_), some (5, rows cT105 r13.chimney_), some (9, rows cT92o r13.hearths_), some (1, rows cs_ r13.sources_), some (3, rows cT108 r13.hours_), some (14, [[.ref 18 0 r13.flat_.heat_.length, .ref 19 0 r13.flat_.store_.length, .ref 20 0 r13.flat_.walls_.length, .ref 21 0 r13.flat_.panes_.length, .ref 22 0 r13.chimney_.length, .ref 23 0 r13.hearths_.length, .ref 24 0 r13.sources_.length, .ref 25 0 r13.hours_.length, .i .i64 r13.tick_, .f .f32 r13.sums_.burnt_, .f .f32 r13.sums_.steam_, .f .f32 r13.sums_.up_, .f .f32 r13.sums_.lost_, .i .i64 r13.sums_.smoky_]]), some (1, rows cf_f32 r15.flat_.heat_), some (1, rows cf_f32 r15.flat_.store_), some (8, rows cT132 r15.flat_.walls_), some (4, rows cT134 r15.flat_.panes_), some (5, rows cT105 r15.chimney_), some (9, rows cT92o r15.hearths_), some (1, rows cs_ r15.sources_), some (3, rows cT108 r15.hours_), some (14, [[.ref 27 0 r15.flat_.heat_.length, .ref 28 0 r15.flat_.store_.length, .ref 29 0 r15.flat_.walls_.length, .ref 30 0 r15.flat_.panes_.length, .ref 31 0 r15.chimney_.length, .ref 32 0 r15.hearths_.length, .ref 33 0 r15.sources_.length, .ref 34 0 r15.hours_.length, .i .i64 r15.tick_, .f .f32 r15.sums_.burnt_, .f .f32 r15.sums_.steam_, .f .f32 r15.sums_.up_, .f .f32 r15.sums_.lost_, .i .i64 r15.sums_.smoky_]])] [] ⟨.inl ok7, .inl ok8, .inl ok9, .inl ok10, .inl ok11, trivial⟩ (by kernel_rfl) (by first | (simp -implicitDefEqProofs [c16]; done) | simp -implicitDefEqProofs [c16, pT38]) ?_
      refine VW.seq ?_
      obtain ⟨r17, q18, h⟩ := bindE h
      have c18 : F10 [.agg [.sl 1 (rows cf_f32 r13.flat_.heat_), .sl 1 (rows cf_f32 r13.flat_.store_), .sl 8 (rows cT132 r13.flat_.walls_), .sl 4 (rows cT134 r13.flat_.panes_), .sl 5 (rows cT105 r13.chimney_), .sl 9 (rows cT92 r13.hearths_), .sl 1 (rows cs_ r13.sources_), .sl 3 (rows cT108 r13.hours_), .i .i64 r13.tick_, .f .f32 r13.sums_.burnt_, .f .f32 r13.sums_.steam_, .f .f32 r13.sums_.up_, .f .f32 r13.sums_.lost_, .i .i64 r13.sums_.smoky_], .agg [.sl 1 (rows cf_f32 r15.flat_.heat_), .sl 1 (rows cf_f32 r15.flat_.store_), .sl 8 (rows cT132 r15.flat_.walls_), .sl 4 (rows cT134 r15.flat_.panes_), .sl 5 (rows cT105 r15.chimney_), .sl 9 (rows cT92 r15.hearths_), .sl 1 (rows cs_ r15.sources_), .sl 3 (rows cT108 r15.hours_), .i .i64 r15.tick_, .f .f32 r15.sums_.burnt_, .f .f32 r15.sums_.steam_, .f .f32 r15.sums_.up_, .f .f32 r15.sums_.lost_, .i .i64 r15.sums_.smoky_]] = some (.b r17) := tells_eq inj10 (a := (r13, r15)) q18
      refine VW.evalA (C := [(7, F7), (8, F8), (9, F9), (10, F10), (11, F11)]) (tm 45 [(2, .ptr 0 0 0), (3, .ptr 1 0 0), (6, .b r11), (7, .ptr 26 0 0), (8, .ptr 35 0 0), (9, .b r17)]) [some (14, [(pT38 aH)]), some (14, [(pT38 aG)]), some (1, rows cf_f32 r7.flat_.heat_), some (1, rows cf_f32 r7.flat_.store_), some (8, rows cT132 r7.flat_.walls_), some (4, rows cT134 r7.flat_.panes_), some (5, rows cT105 r7.chimney_), some (9, rows cT92o r7.hearths_), some (1, rows cs_ r7.sources_), some (3, rows cT108 r7.hours_), some (1, rows cf_f32 r9.flat_.heat_), some (1, rows cf_f32 r9.flat_.store_), some (8, rows cT132 r9.flat_.walls_), some (4, rows cT134 r9.flat_.panes_), some (5, rows cT105 r9.chimney_), some (9, rows cT92o r9.hearths_), some (1, rows cs_ r9.sources_), some (3, rows cT108 r9.hours_), some (1, rows cf_f32 r13.flat_.heat_), some (1, rows cf_f32 r13.flat_.store_), some (8, rows cT132 r13.flat_.walls_), some (4, rows cT134 r13.flat_.panes_), some (5, rows cT105 r13.chimney_), some (9, rows cT92o r13.hearths_), some (1, rows cs_ r13.sources_), some (3, rows cT108 r13.hours_), some (14, [[.ref 18 0 r13.flat_.heat_.length, .ref 19 0 r13.flat_.store_.length, .ref 20 0 r13.flat_.walls_.length, .ref 21 0 r13.flat_.panes_.length, .ref 22 0 r13.chimney_.length, .ref 23 0 r13.hearths_.length, .ref 24 0 r13.sources_.length, .ref 25 0 r13.hours_.length, .i .i64 r13.tick_, .f .f32 r13.sums_.burnt_, .f .f32 r13.sums_.steam_, .f .f32 r13.sums_.up_, .f .f32 r13.sums_.lost_, .i .i64 r13.sums_.smoky_]]), some (1, rows cf_f32 r15.flat_.heat_), some (1, rows cf_f32 r15.flat_.store_), some (8, rows cT132 r15.flat_.walls_), some (4, rows cT134 r15.flat_.panes_), some (5, rows cT105 r15.chimney_), some (9, rows cT92o r15.hearths_), some (1, rows cs_ r15.sources_), some (3, rows cT108 r15.hours_), some (14, [[.ref 27 0 r15.flat_.heat_.length, .ref 28 0 r15.flat_.store_.length, .ref 29 0 r15.flat_.walls_.length, .ref 30 0 r15.flat_.panes_.length, .ref 31 0 r15.chimney_.length, .ref 32 0 r15.hearths_.length, .ref 33 0 r15.sources_.length, .ref 34 0 r15.hours_.length, .i .i64 r15.tick_, .f .f32 r15.sums_.burnt_, .f .f32 r15.sums_.steam_, .f .f32 r15.sums_.up_, .f .f32 r15.sums_.lost_, .i .i64 r15.sums_.smoky_]])] [] ⟨.inl ok7, .inl ok8, .inl ok9, .inl ok10, .inl ok11, trivial⟩ (by kernel_rfl) (by first | (simp -implicitDefEqProofs [c18]; done) | simp -implicitDefEqProofs [c18, pT38]) ?_
      refine VW.seq ?_
      refine VW.seq ?_
      refine VW.evalA (C := [(7, F7), (8, F8), (9, F9), (10, F10), (11, F11)]) (tm 45 [(2, .ptr 0 0 0), (3, .ptr 1 0 0), (7, .ptr 26 0 0), (8, .ptr 35 0 0), (34, .b (!(r17 == r11)))]) [some (14, [(pT38 aH)]), some (14, [(pT38 aG)]), some (1, rows cf_f32 r7.flat_.heat_), some (1, rows cf_f32 r7.flat_.store_), some (8, rows cT132 r7.flat_.walls_), some (4, rows cT134 r7.flat_.panes_), some (5, rows cT105 r7.chimney_), some (9, rows cT92o r7.hearths_), some (1, rows cs_ r7.sources_), some (3, rows cT108 r7.hours_), some (1, rows cf_f32 r9.flat_.heat_), some (1, rows cf_f32 r9.flat_.store_), some (8, rows cT132 r9.flat_.walls_), some (4, rows cT134 r9.flat_.panes_), some (5, rows cT105 r9.chimney_), some (9, rows cT92o r9.hearths_), some (1, rows cs_ r9.sources_), some (3, rows cT108 r9.hours_), some (1, rows cf_f32 r13.flat_.heat_), some (1, rows cf_f32 r13.flat_.store_), some (8, rows cT132 r13.flat_.walls_), some (4, rows cT134 r13.flat_.panes_), some (5, rows cT105 r13.chimney_), some (9, rows cT92o r13.hearths_), some (1, rows cs_ r13.sources_), some (3, rows cT108 r13.hours_), some (14, [[.ref 18 0 r13.flat_.heat_.length, .ref 19 0 r13.flat_.store_.length, .ref 20 0 r13.flat_.walls_.length, .ref 21 0 r13.flat_.panes_.length, .ref 22 0 r13.chimney_.length, .ref 23 0 r13.hearths_.length, .ref 24 0 r13.sources_.length, .ref 25 0 r13.hours_.length, .i .i64 r13.tick_, .f .f32 r13.sums_.burnt_, .f .f32 r13.sums_.steam_, .f .f32 r13.sums_.up_, .f .f32 r13.sums_.lost_, .i .i64 r13.sums_.smoky_]]), some (1, rows cf_f32 r15.flat_.heat_), some (1, rows cf_f32 r15.flat_.store_), some (8, rows cT132 r15.flat_.walls_), some (4, rows cT134 r15.flat_.panes_), some (5, rows cT105 r15.chimney_), some (9, rows cT92o r15.hearths_), some (1, rows cs_ r15.sources_), some (3, rows cT108 r15.hours_), some (14, [[.ref 27 0 r15.flat_.heat_.length, .ref 28 0 r15.flat_.store_.length, .ref 29 0 r15.flat_.walls_.length, .ref 30 0 r15.flat_.panes_.length, .ref 31 0 r15.chimney_.length, .ref 32 0 r15.hearths_.length, .ref 33 0 r15.sources_.length, .ref 34 0 r15.hours_.length, .i .i64 r15.tick_, .f .f32 r15.sums_.burnt_, .f .f32 r15.sums_.steam_, .f .f32 r15.sums_.up_, .f .f32 r15.sums_.lost_, .i .i64 r15.sums_.smoky_]])] [] ⟨.inl ok7, .inl ok8, .inl ok9, .inl ok10, .inl ok11, trivial⟩ (by kernel_rfl) (by first | (simp -implicitDefEqProofs; done) | simp -implicitDefEqProofs [pT38]) ?_
      refine VW.condB (b := (!(r17 == r11))) (by simp) (fun g19 => ?_) (fun g19 => ?_)
      · replace h := iteT g19 h
        refine VW.seq ?_
        refine VW.evalA (C := [(7, F7), (8, F8), (9, F9), (10, F10), (11, F11)]) (tm 45 [(4, .b false)]) [some (14, [(pT38 aH)]), some (14, [(pT38 aG)]), some (1, rows cf_f32 r7.flat_.heat_), some (1, rows cf_f32 r7.flat_.store_), some (8, rows cT132 r7.flat_.walls_), some (4, rows cT134 r7.flat_.panes_), some (5, rows cT105 r7.chimney_), some (9, rows cT92o r7.hearths_), some (1, rows cs_ r7.sources_), some (3, rows cT108 r7.hours_), some (1, rows cf_f32 r9.flat_.heat_), some (1, rows cf_f32 r9.flat_.store_), some (8, rows cT132 r9.flat_.walls_), some (4, rows cT134 r9.flat_.panes_), some (5, rows cT105 r9.chimney_), some (9, rows cT92o r9.hearths_), some (1, rows cs_ r9.sources_), some (3, rows cT108 r9.hours_), some (1, rows cf_f32 r13.flat_.heat_), some (1, rows cf_f32 r13.flat_.store_), some (8, rows cT132 r13.flat_.walls_), some (4, rows cT134 r13.flat_.panes_), some (5, rows cT105 r13.chimney_), some (9, rows cT92o r13.hearths_), some (1, rows cs_ r13.sources_), some (3, rows cT108 r13.hours_), some (14, [[.ref 18 0 r13.flat_.heat_.length, .ref 19 0 r13.flat_.store_.length, .ref 20 0 r13.flat_.walls_.length, .ref 21 0 r13.flat_.panes_.length, .ref 22 0 r13.chimney_.length, .ref 23 0 r13.hearths_.length, .ref 24 0 r13.sources_.length, .ref 25 0 r13.hours_.length, .i .i64 r13.tick_, .f .f32 r13.sums_.burnt_, .f .f32 r13.sums_.steam_, .f .f32 r13.sums_.up_, .f .f32 r13.sums_.lost_, .i .i64 r13.sums_.smoky_]]), some (1, rows cf_f32 r15.flat_.heat_), some (1, rows cf_f32 r15.flat_.store_), some (8, rows cT132 r15.flat_.walls_), some (4, rows cT134 r15.flat_.panes_), some (5, rows cT105 r15.chimney_), some (9, rows cT92o r15.hearths_), some (1, rows cs_ r15.sources_), some (3, rows cT108 r15.hours_), some (14, [[.ref 27 0 r15.flat_.heat_.length, .ref 28 0 r15.flat_.store_.length, .ref 29 0 r15.flat_.walls_.length, .ref 30 0 r15.flat_.panes_.length, .ref 31 0 r15.chimney_.length, .ref 32 0 r15.hearths_.length, .ref 33 0 r15.sources_.length, .ref 34 0 r15.hours_.length, .i .i64 r15.tick_, .f .f32 r15.sums_.burnt_, .f .f32 r15.sums_.steam_, .f .f32 r15.sums_.up_, .f .f32 r15.sums_.lost_, .i .i64 r15.sums_.smoky_]])] [] ⟨.inl ok7, .inl ok8, .inl ok9, .inl ok10, .inl ok11, trivial⟩ (by kernel_rfl) (by first | (simp -implicitDefEqProofs; done) | simp -implicitDefEqProofs [pT38]) ?_
        obtain rfl := leafS h
        refine VW.ret (VRet.fin ?_)
        first | (simp [eB4]; done) | simp [eB4, pT38]
      · replace h := iteF g19 h
        refine VW.skip ?_
        refine VW.seq ?_
        refine VW.seq ?_
        obtain ⟨r20, q21, h⟩ := bindE h
        have c21 : F9 [.agg (pT38 aH)] = some (.agg [.own 1 (rows cf_f32 r20.flat_.heat_), .own 1 (rows cf_f32 r20.flat_.store_), .own 8 (rows cT132 r20.flat_.walls_), .own 4 (rows cT134 r20.flat_.panes_), .own 5 (rows cT105 r20.chimney_), .own 9 (rows cT92o r20.hearths_), .own 1 (rows cs_ r20.sources_), .own 3 (rows cT108 r20.hours_), .i .i64 r20.tick_, .f .f32 r20.sums_.burnt_, .f .f32 r20.sums_.steam_, .f .f32 r20.sums_.up_, .f .f32 r20.sums_.lost_, .i .i64 r20.sums_.smoky_]) := tells_eq inj9 (a := aH) q21
        obtain ⟨r22, q23, h⟩ := bindE h
        have c23 : F11 [.agg [.sl 1 (rows cf_f32 r13.flat_.heat_), .sl 1 (rows cf_f32 r13.flat_.store_), .sl 8 (rows cT132 r13.flat_.walls_), .sl 4 (rows cT134 r13.flat_.panes_), .sl 5 (rows cT105 r13.chimney_), .sl 9 (rows cT92 r13.hearths_), .sl 1 (rows cs_ r13.sources_), .sl 3 (rows cT108 r13.hours_), .i .i64 r13.tick_, .f .f32 r13.sums_.burnt_, .f .f32 r13.sums_.steam_, .f .f32 r13.sums_.up_, .f .f32 r13.sums_.lost_, .i .i64 r13.sums_.smoky_], .agg [.sl 1 (rows cf_f32 r20.flat_.heat_), .sl 1 (rows cf_f32 r20.flat_.store_), .sl 8 (rows cT132 r20.flat_.walls_), .sl 4 (rows cT134 r20.flat_.panes_), .sl 5 (rows cT105 r20.chimney_), .sl 9 (rows cT92 r20.hearths_), .sl 1 (rows cs_ r20.sources_), .sl 3 (rows cT108 r20.hours_), .i .i64 r20.tick_, .f .f32 r20.sums_.burnt_, .f .f32 r20.sums_.steam_, .f .f32 r20.sums_.up_, .f .f32 r20.sums_.lost_, .i .i64 r20.sums_.smoky_]] = some (.b r22) := tells_eq inj11 (a := (r13, r20)) q23
        refine VW.evalDA (C := [(7, F7), (8, F8), (9, F9), (10, F10), (11, F11)]) (tm 45 [(3, .ptr 1 0 0), (8, .ptr 35 0 0), (39, .b (!r22))]) [some (14, [(pT38 aH)]), some (14, [(pT38 aG)]), some (1, rows cf_f32 r7.flat_.heat_), some (1, rows cf_f32 r7.flat_.store_), some (8, rows cT132 r7.flat_.walls_), some (4, rows cT134 r7.flat_.panes_), some (5, rows cT105 r7.chimney_), some (9, rows cT92o r7.hearths_), some (1, rows cs_ r7.sources_), some (3, rows cT108 r7.hours_), some (1, rows cf_f32 r9.flat_.heat_), some (1, rows cf_f32 r9.flat_.store_), some (8, rows cT132 r9.flat_.walls_), some (4, rows cT134 r9.flat_.panes_), some (5, rows cT105 r9.chimney_), some (9, rows cT92o r9.hearths_), some (1, rows cs_ r9.sources_), some (3, rows cT108 r9.hours_), some (1, rows cf_f32 r13.flat_.heat_), some (1, rows cf_f32 r13.flat_.store_), some (8, rows cT132 r13.flat_.walls_), some (4, rows cT134 r13.flat_.panes_), some (5, rows cT105 r13.chimney_), some (9, rows cT92o r13.hearths_), some (1, rows cs_ r13.sources_), some (3, rows cT108 r13.hours_), some (14, [[.ref 18 0 r13.flat_.heat_.length, .ref 19 0 r13.flat_.store_.length, .ref 20 0 r13.flat_.walls_.length, .ref 21 0 r13.flat_.panes_.length, .ref 22 0 r13.chimney_.length, .ref 23 0 r13.hearths_.length, .ref 24 0 r13.sources_.length, .ref 25 0 r13.hours_.length, .i .i64 r13.tick_, .f .f32 r13.sums_.burnt_, .f .f32 r13.sums_.steam_, .f .f32 r13.sums_.up_, .f .f32 r13.sums_.lost_, .i .i64 r13.sums_.smoky_]]), some (1, rows cf_f32 r15.flat_.heat_), some (1, rows cf_f32 r15.flat_.store_), some (8, rows cT132 r15.flat_.walls_), some (4, rows cT134 r15.flat_.panes_), some (5, rows cT105 r15.chimney_), some (9, rows cT92o r15.hearths_), some (1, rows cs_ r15.sources_), some (3, rows cT108 r15.hours_), some (14, [[.ref 27 0 r15.flat_.heat_.length, .ref 28 0 r15.flat_.store_.length, .ref 29 0 r15.flat_.walls_.length, .ref 30 0 r15.flat_.panes_.length, .ref 31 0 r15.chimney_.length, .ref 32 0 r15.hearths_.length, .ref 33 0 r15.sources_.length, .ref 34 0 r15.hours_.length, .i .i64 r15.tick_, .f .f32 r15.sums_.burnt_, .f .f32 r15.sums_.steam_, .f .f32 r15.sums_.up_, .f .f32 r15.sums_.lost_, .i .i64 r15.sums_.smoky_]]), some (1, rows cf_f32 r20.flat_.heat_), some (1, rows cf_f32 r20.flat_.store_), some (8, rows cT132 r20.flat_.walls_), some (4, rows cT134 r20.flat_.panes_), some (5, rows cT105 r20.chimney_), some (9, rows cT92o r20.hearths_), some (1, rows cs_ r20.sources_), some (3, rows cT108 r20.hours_)] [] ⟨.inl ok7, .inl ok8, .inl ok9, .inl ok10, .inl ok11, trivial⟩ mixed (by kernel_rfl) (by first | (simp -implicitDefEqProofs [c21, c23]; done) | simp -implicitDefEqProofs [c21, c23, pT38]) ?_
        refine VW.condB (b := (!r22)) (by simp) (fun g24 => ?_) (fun g24 => ?_)
        · replace h := iteT g24 h
          refine VW.seq ?_
          refine VW.evalA (C := [(7, F7), (8, F8), (9, F9), (10, F10), (11, F11)]) (tm 45 [(4, .b false)]) [some (14, [(pT38 aH)]), some (14, [(pT38 aG)]), some (1, rows cf_f32 r7.flat_.heat_), some (1, rows cf_f32 r7.flat_.store_), some (8, rows cT132 r7.flat_.walls_), some (4, rows cT134 r7.flat_.panes_), some (5, rows cT105 r7.chimney_), some (9, rows cT92o r7.hearths_), some (1, rows cs_ r7.sources_), some (3, rows cT108 r7.hours_), some (1, rows cf_f32 r9.flat_.heat_), some (1, rows cf_f32 r9.flat_.store_), some (8, rows cT132 r9.flat_.walls_), some (4, rows cT134 r9.flat_.panes_), some (5, rows cT105 r9.chimney_), some (9, rows cT92o r9.hearths_), some (1, rows cs_ r9.sources_), some (3, rows cT108 r9.hours_), some (1, rows cf_f32 r13.flat_.heat_), some (1, rows cf_f32 r13.flat_.store_), some (8, rows cT132 r13.flat_.walls_), some (4, rows cT134 r13.flat_.panes_), some (5, rows cT105 r13.chimney_), some (9, rows cT92o r13.hearths_), some (1, rows cs_ r13.sources_), some (3, rows cT108 r13.hours_), some (14, [[.ref 18 0 r13.flat_.heat_.length, .ref 19 0 r13.flat_.store_.length, .ref 20 0 r13.flat_.walls_.length, .ref 21 0 r13.flat_.panes_.length, .ref 22 0 r13.chimney_.length, .ref 23 0 r13.hearths_.length, .ref 24 0 r13.sources_.length, .ref 25 0 r13.hours_.length, .i .i64 r13.tick_, .f .f32 r13.sums_.burnt_, .f .f32 r13.sums_.steam_, .f .f32 r13.sums_.up_, .f .f32 r13.sums_.lost_, .i .i64 r13.sums_.smoky_]]), some (1, rows cf_f32 r15.flat_.heat_), some (1, rows cf_f32 r15.flat_.store_), some (8, rows cT132 r15.flat_.walls_), some (4, rows cT134 r15.flat_.panes_), some (5, rows cT105 r15.chimney_), some (9, rows cT92o r15.hearths_), some (1, rows cs_ r15.sources_), some (3, rows cT108 r15.hours_), some (14, [[.ref 27 0 r15.flat_.heat_.length, .ref 28 0 r15.flat_.store_.length, .ref 29 0 r15.flat_.walls_.length, .ref 30 0 r15.flat_.panes_.length, .ref 31 0 r15.chimney_.length, .ref 32 0 r15.hearths_.length, .ref 33 0 r15.sources_.length, .ref 34 0 r15.hours_.length, .i .i64 r15.tick_, .f .f32 r15.sums_.burnt_, .f .f32 r15.sums_.steam_, .f .f32 r15.sums_.up_, .f .f32 r15.sums_.lost_, .i .i64 r15.sums_.smoky_]]), some (1, rows cf_f32 r20.flat_.heat_), some (1, rows cf_f32 r20.flat_.store_), some (8, rows cT132 r20.flat_.walls_), some (4, rows cT134 r20.flat_.panes_), some (5, rows cT105 r20.chimney_), some (9, rows cT92o r20.hearths_), some (1, rows cs_ r20.sources_), some (3, rows cT108 r20.hours_)] [] ⟨.inl ok7, .inl ok8, .inl ok9, .inl ok10, .inl ok11, trivial⟩ (by kernel_rfl) (by first | (simp -implicitDefEqProofs; done) | simp -implicitDefEqProofs [pT38]) ?_
          obtain rfl := leafS h
          refine VW.ret (VRet.fin ?_)
          first | (simp [eB4]; done) | simp [eB4, pT38]
        · replace h := iteF g24 h
          refine VW.skip ?_
          refine VW.seq ?_
          refine VW.seq ?_
          obtain ⟨r25, q26, h⟩ := bindE h
          have c26 : F9 [.agg (pT38 aG)] = some (.agg [.own 1 (rows cf_f32 r25.flat_.heat_), .own 1 (rows cf_f32 r25.flat_.store_), .own 8 (rows cT132 r25.flat_.walls_), .own 4 (rows cT134 r25.flat_.panes_), .own 5 (rows cT105 r25.chimney_), .own 9 (rows cT92o r25.hearths_), .own 1 (rows cs_ r25.sources_), .own 3 (rows cT108 r25.hours_), .i .i64 r25.tick_, .f .f32 r25.sums_.burnt_, .f .f32 r25.sums_.steam_, .f .f32 r25.sums_.up_, .f .f32 r25.sums_.lost_, .i .i64 r25.sums_.smoky_]) := tells_eq inj9 (a := aG) q26
          obtain ⟨r27, q28, h⟩ := bindE h
          have c28 : F11 [.agg [.sl 1 (rows cf_f32 r15.flat_.heat_), .sl 1 (rows cf_f32 r15.flat_.store_), .sl 8 (rows cT132 r15.flat_.walls_), .sl 4 (rows cT134 r15.flat_.panes_), .sl 5 (rows cT105 r15.chimney_), .sl 9 (rows cT92 r15.hearths_), .sl 1 (rows cs_ r15.sources_), .sl 3 (rows cT108 r15.hours_), .i .i64 r15.tick_, .f .f32 r15.sums_.burnt_, .f .f32 r15.sums_.steam_, .f .f32 r15.sums_.up_, .f .f32 r15.sums_.lost_, .i .i64 r15.sums_.smoky_], .agg [.sl 1 (rows cf_f32 r25.flat_.heat_), .sl 1 (rows cf_f32 r25.flat_.store_), .sl 8 (rows cT132 r25.flat_.walls_), .sl 4 (rows cT134 r25.flat_.panes_), .sl 5 (rows cT105 r25.chimney_), .sl 9 (rows cT92 r25.hearths_), .sl 1 (rows cs_ r25.sources_), .sl 3 (rows cT108 r25.hours_), .i .i64 r25.tick_, .f .f32 r25.sums_.burnt_, .f .f32 r25.sums_.steam_, .f .f32 r25.sums_.up_, .f .f32 r25.sums_.lost_, .i .i64 r25.sums_.smoky_]] = some (.b r27) := tells_eq inj11 (a := (r15, r25)) q28
          refine VW.evalDA (C := [(7, F7), (8, F8), (9, F9), (10, F10), (11, F11)]) (tm 45 [(44, .b (!r27))]) [some (14, [(pT38 aH)]), some (14, [(pT38 aG)]), some (1, rows cf_f32 r7.flat_.heat_), some (1, rows cf_f32 r7.flat_.store_), some (8, rows cT132 r7.flat_.walls_), some (4, rows cT134 r7.flat_.panes_), some (5, rows cT105 r7.chimney_), some (9, rows cT92o r7.hearths_), some (1, rows cs_ r7.sources_), some (3, rows cT108 r7.hours_), some (1, rows cf_f32 r9.flat_.heat_), some (1, rows cf_f32 r9.flat_.store_), some (8, rows cT132 r9.flat_.walls_), some (4, rows cT134 r9.flat_.panes_), some (5, rows cT105 r9.chimney_), some (9, rows cT92o r9.hearths_), some (1, rows cs_ r9.sources_), some (3, rows cT108 r9.hours_), some (1, rows cf_f32 r13.flat_.heat_), some (1, rows cf_f32 r13.flat_.store_), some (8, rows cT132 r13.flat_.walls_), some (4, rows cT134 r13.flat_.panes_), some (5, rows cT105 r13.chimney_), some (9, rows cT92o r13.hearths_), some (1, rows cs_ r13.sources_), some (3, rows cT108 r13.hours_), some (14, [[.ref 18 0 r13.flat_.heat_.length, .ref 19 0 r13.flat_.store_.length, .ref 20 0 r13.flat_.walls_.length, .ref 21 0 r13.flat_.panes_.length, .ref 22 0 r13.chimney_.length, .ref 23 0 r13.hearths_.length, .ref 24 0 r13.sources_.length, .ref 25 0 r13.hours_.length, .i .i64 r13.tick_, .f .f32 r13.sums_.burnt_, .f .f32 r13.sums_.steam_, .f .f32 r13.sums_.up_, .f .f32 r13.sums_.lost_, .i .i64 r13.sums_.smoky_]]), some (1, rows cf_f32 r15.flat_.heat_), some (1, rows cf_f32 r15.flat_.store_), some (8, rows cT132 r15.flat_.walls_), some (4, rows cT134 r15.flat_.panes_), some (5, rows cT105 r15.chimney_), some (9, rows cT92o r15.hearths_), some (1, rows cs_ r15.sources_), some (3, rows cT108 r15.hours_), some (14, [[.ref 27 0 r15.flat_.heat_.length, .ref 28 0 r15.flat_.store_.length, .ref 29 0 r15.flat_.walls_.length, .ref 30 0 r15.flat_.panes_.length, .ref 31 0 r15.chimney_.length, .ref 32 0 r15.hearths_.length, .ref 33 0 r15.sources_.length, .ref 34 0 r15.hours_.length, .i .i64 r15.tick_, .f .f32 r15.sums_.burnt_, .f .f32 r15.sums_.steam_, .f .f32 r15.sums_.up_, .f .f32 r15.sums_.lost_, .i .i64 r15.sums_.smoky_]]), some (1, rows cf_f32 r20.flat_.heat_), some (1, rows cf_f32 r20.flat_.store_), some (8, rows cT132 r20.flat_.walls_), some (4, rows cT134 r20.flat_.panes_), some (5, rows cT105 r20.chimney_), some (9, rows cT92o r20.hearths_), some (1, rows cs_ r20.sources_), some (3, rows cT108 r20.hours_), some (1, rows cf_f32 r25.flat_.heat_), some (1, rows cf_f32 r25.flat_.store_), some (8, rows cT132 r25.flat_.walls_), some (4, rows cT134 r25.flat_.panes_), some (5, rows cT105 r25.chimney_), some (9, rows cT92o r25.hearths_), some (1, rows cs_ r25.sources_), some (3, rows cT108 r25.hours_)] [] ⟨.inl ok7, .inl ok8, .inl ok9, .inl ok10, .inl ok11, trivial⟩ mixed (by kernel_rfl) (by first | (simp -implicitDefEqProofs [c26, c28]; done) | simp -implicitDefEqProofs [c26, c28, pT38]) ?_
          refine VW.condB (b := (!r27)) (by simp) (fun g29 => ?_) (fun g29 => ?_)
          · replace h := iteT g29 h
            refine VW.seq ?_
            refine VW.evalA (C := [(7, F7), (8, F8), (9, F9), (10, F10), (11, F11)]) (tm 45 [(4, .b false)]) [some (14, [(pT38 aH)]), some (14, [(pT38 aG)]), some (1, rows cf_f32 r7.flat_.heat_), some (1, rows cf_f32 r7.flat_.store_), some (8, rows cT132 r7.flat_.walls_), some (4, rows cT134 r7.flat_.panes_), some (5, rows cT105 r7.chimney_), some (9, rows cT92o r7.hearths_), some (1, rows cs_ r7.sources_), some (3, rows cT108 r7.hours_), some (1, rows cf_f32 r9.flat_.heat_), some (1, rows cf_f32 r9.flat_.store_), some (8, rows cT132 r9.flat_.walls_), some (4, rows cT134 r9.flat_.panes_), some (5, rows cT105 r9.chimney_), some (9, rows cT92o r9.hearths_), some (1, rows cs_ r9.sources_), some (3, rows cT108 r9.hours_), some (1, rows cf_f32 r13.flat_.heat_), some (1, rows cf_f32 r13.flat_.store_), some (8, rows cT132 r13.flat_.walls_), some (4, rows cT134 r13.flat_.panes_), some (5, rows cT105 r13.chimney_), some (9, rows cT92o r13.hearths_), some (1, rows cs_ r13.sources_), some (3, rows cT108 r13.hours_), some (14, [[.ref 18 0 r13.flat_.heat_.length, .ref 19 0 r13.flat_.store_.length, .ref 20 0 r13.flat_.walls_.length, .ref 21 0 r13.flat_.panes_.length, .ref 22 0 r13.chimney_.length, .ref 23 0 r13.hearths_.length, .ref 24 0 r13.sources_.length, .ref 25 0 r13.hours_.length, .i .i64 r13.tick_, .f .f32 r13.sums_.burnt_, .f .f32 r13.sums_.steam_, .f .f32 r13.sums_.up_, .f .f32 r13.sums_.lost_, .i .i64 r13.sums_.smoky_]]), some (1, rows cf_f32 r15.flat_.heat_), some (1, rows cf_f32 r15.flat_.store_), some (8, rows cT132 r15.flat_.walls_), some (4, rows cT134 r15.flat_.panes_), some (5, rows cT105 r15.chimney_), some (9, rows cT92o r15.hearths_), some (1, rows cs_ r15.sources_), some (3, rows cT108 r15.hours_), some (14, [[.ref 27 0 r15.flat_.heat_.length, .ref 28 0 r15.flat_.store_.length, .ref 29 0 r15.flat_.walls_.length, .ref 30 0 r15.flat_.panes_.length, .ref 31 0 r15.chimney_.length, .ref 32 0 r15.hearths_.length, .ref 33 0 r15.sources_.length, .ref 34 0 r15.hours_.length, .i .i64 r15.tick_, .f .f32 r15.sums_.burnt_, .f .f32 r15.sums_.steam_, .f .f32 r15.sums_.up_, .f .f32 r15.sums_.lost_, .i .i64 r15.sums_.smoky_]]), some (1, rows cf_f32 r20.flat_.heat_), some (1, rows cf_f32 r20.flat_.store_), some (8, rows cT132 r20.flat_.walls_), some (4, rows cT134 r20.flat_.panes_), some (5, rows cT105 r20.chimney_), some (9, rows cT92o r20.hearths_), some (1, rows cs_ r20.sources_), some (3, rows cT108 r20.hours_), some (1, rows cf_f32 r25.flat_.heat_), some (1, rows cf_f32 r25.flat_.store_), some (8, rows cT132 r25.flat_.walls_), some (4, rows cT134 r25.flat_.panes_), some (5, rows cT105 r25.chimney_), some (9, rows cT92o r25.hearths_), some (1, rows cs_ r25.sources_), some (3, rows cT108 r25.hours_)] [] ⟨.inl ok7, .inl ok8, .inl ok9, .inl ok10, .inl ok11, trivial⟩ (by kernel_rfl) (by first | (simp -implicitDefEqProofs; done) | simp -implicitDefEqProofs [pT38]) ?_
            obtain rfl := leafS h
            refine VW.ret (VRet.fin ?_)
            first | (simp [eB4]; done) | simp [eB4, pT38]
          · replace h := iteF g29 h
            refine VW.skip ?_
            refine VW.seq ?_
            refine VW.evalA (C := [(7, F7), (8, F8), (9, F9), (10, F10), (11, F11)]) (tm 45 [(4, .b true)]) [some (14, [(pT38 aH)]), some (14, [(pT38 aG)]), some (1, rows cf_f32 r7.flat_.heat_), some (1, rows cf_f32 r7.flat_.store_), some (8, rows cT132 r7.flat_.walls_), some (4, rows cT134 r7.flat_.panes_), some (5, rows cT105 r7.chimney_), some (9, rows cT92o r7.hearths_), some (1, rows cs_ r7.sources_), some (3, rows cT108 r7.hours_), some (1, rows cf_f32 r9.flat_.heat_), some (1, rows cf_f32 r9.flat_.store_), some (8, rows cT132 r9.flat_.walls_), some (4, rows cT134 r9.flat_.panes_), some (5, rows cT105 r9.chimney_), some (9, rows cT92o r9.hearths_), some (1, rows cs_ r9.sources_), some (3, rows cT108 r9.hours_), some (1, rows cf_f32 r13.flat_.heat_), some (1, rows cf_f32 r13.flat_.store_), some (8, rows cT132 r13.flat_.walls_), some (4, rows cT134 r13.flat_.panes_), some (5, rows cT105 r13.chimney_), some (9, rows cT92o r13.hearths_), some (1, rows cs_ r13.sources_), some (3, rows cT108 r13.hours_), some (14, [[.ref 18 0 r13.flat_.heat_.length, .ref 19 0 r13.flat_.store_.length, .ref 20 0 r13.flat_.walls_.length, .ref 21 0 r13.flat_.panes_.length, .ref 22 0 r13.chimney_.length, .ref 23 0 r13.hearths_.length, .ref 24 0 r13.sources_.length, .ref 25 0 r13.hours_.length, .i .i64 r13.tick_, .f .f32 r13.sums_.burnt_, .f .f32 r13.sums_.steam_, .f .f32 r13.sums_.up_, .f .f32 r13.sums_.lost_, .i .i64 r13.sums_.smoky_]]), some (1, rows cf_f32 r15.flat_.heat_), some (1, rows cf_f32 r15.flat_.store_), some (8, rows cT132 r15.flat_.walls_), some (4, rows cT134 r15.flat_.panes_), some (5, rows cT105 r15.chimney_), some (9, rows cT92o r15.hearths_), some (1, rows cs_ r15.sources_), some (3, rows cT108 r15.hours_), some (14, [[.ref 27 0 r15.flat_.heat_.length, .ref 28 0 r15.flat_.store_.length, .ref 29 0 r15.flat_.walls_.length, .ref 30 0 r15.flat_.panes_.length, .ref 31 0 r15.chimney_.length, .ref 32 0 r15.hearths_.length, .ref 33 0 r15.sources_.length, .ref 34 0 r15.hours_.length, .i .i64 r15.tick_, .f .f32 r15.sums_.burnt_, .f .f32 r15.sums_.steam_, .f .f32 r15.sums_.up_, .f .f32 r15.sums_.lost_, .i .i64 r15.sums_.smoky_]]), some (1, rows cf_f32 r20.flat_.heat_), some (1, rows cf_f32 r20.flat_.store_), some (8, rows cT132 r20.flat_.walls_), some (4, rows cT134 r20.flat_.panes_), some (5, rows cT105 r20.chimney_), some (9, rows cT92o r20.hearths_), some (1, rows cs_ r20.sources_), some (3, rows cT108 r20.hours_), some (1, rows cf_f32 r25.flat_.heat_), some (1, rows cf_f32 r25.flat_.store_), some (8, rows cT132 r25.flat_.walls_), some (4, rows cT134 r25.flat_.panes_), some (5, rows cT105 r25.chimney_), some (9, rows cT92o r25.hearths_), some (1, rows cs_ r25.sources_), some (3, rows cT108 r25.hours_)] [] ⟨.inl ok7, .inl ok8, .inl ok9, .inl ok10, .inl ok11, trivial⟩ (by kernel_rfl) (by first | (simp -implicitDefEqProofs; done) | simp -implicitDefEqProofs [pT38]) ?_
            obtain rfl := leafS h
            refine VW.ret (VRet.fin ?_)
            first | (simp [eB4]; done) | simp [eB4, pT38]
end Go.Proofs.Ytilkneilafpjiaa
