/- Contracts of the functions that the law reaches: what each tells, as a function in Lean. -/
import Derived.Test.YtilkneilafpjiaaK4a
import Derived.KernelRfl
namespace Go.Proofs.Ytilkneilafpjiaa
open Go.RowKit Go.VL
set_option linter.unusedSimpArgs false
set_option linter.unusedVariables false
set_option maxHeartbeats 1000000
noncomputable def g22_j1 (l28 : List T92) : Option (List T92) :=
  some l28
noncomputable def g22_L1 (a : List T92) : (Int × (List T92)) → Option ((Int × (List T92)) ⊕ (List T92))
  | (i_45, l46) =>
    if ltI i_45 (a.length : Int) = true then
      (idx a i_45).bind fun e48 =>
      (g49 e48).bind fun r50 =>
      (idx l46 i_45).bind fun e52 =>
      some (.inl (aI .i64 i_45 1, (l46.set i_45.toNat r50)))
    else
      some (.inr l46)
noncomputable def g22 (a : List T92) : Option (List T92) :=
  (mk 80 (a.length : Int)).bind fun u1 =>
  (loopO (g22_L1 a) (0, (List.replicate (a.length : Int).toNat (⟨0, 0, 0, (⟨[], (some 0), (some 0), 0, 0, (some 0)⟩ : T90)⟩ : T92)))).bind fun w => g22_j1 w
def eA22 (a : List T92) : List V := [.sl 9 (rows cT92 a)]
def eB22 (r : List T92) : V := .own 9 (rows cT92o r)
theorem inj22 (a a' : List T92) (h : eA22 a = eA22 a') : a = a' := by
  obtain i709 := a
  obtain i710 := a'
  simp only [eA22, List.cons.injEq, V.i.injEq, V.b.injEq, V.f.injEq, V.str.injEq, V.sl.injEq, V.agg.injEq, V.cptr.injEq, true_and, and_true] at h
  simp_all [ri cT92_inj]
noncomputable def F22 : List V → Option V := tells (fun a => g22 a) eA22 eB22
set_option maxRecDepth 100000 in
set_option maxHeartbeats 4000000 in
/- loop.example/g01229/laws.toHearthS -/
theorem ok22 : Tells Try.prog 22 F22 := by
  refine Tells.of (by kernel_rfl) ?_
  rintro a r h
  refine VCalls.nl (VCalls.of Try.func22 rfl rfl rfl ?_)
  rw [tm_init]
  simp only [eA22, en, List.length_cons, List.length_nil, Nat.reduceAdd, Nat.reduceSub]
  replace h : (g22 a).bind some = some r := bindS h
  rw [g22] at h
  refine VW.seq ?_
  refine VW.evalA (C := [(49, F49)]) (tm 23 [(0, .sl 9 (rows cT92 a))]) [] [] ⟨.inl ok49, trivial⟩ (by kernel_rfl) (by simp -implicitDefEqProofs) ?_
  refine VW.seq ?_
  obtain ⟨u1, q2, h⟩ := bindE h
  obtain ⟨f2a, f2b, f2c⟩ := mk_some q2
  try simp only [Int.toNat_natCast, Int.reduceToNat, List.length_cons, List.length_nil, Nat.reduceAdd, Nat.zero_add] at f2a f2b f2c
  refine VW.evalE (C := [(49, F49)]) (tm 23 [(0, .sl 9 (rows cT92 a)), (3, .ref 0 0 (List.replicate (a.length : Int).toNat (⟨0, 0, 0, (⟨[], (some 0), (some 0), 0, 0, (some 0)⟩ : T90)⟩ : T92)).length)]) [some (9, List.replicate (a.length : Int).toNat [.i .i64 0, .i .i64 0, .i .i64 0, .nil, .f .f32 (some 0), .f .f32 (some 0), .i .i8 0, .i .i64 0, .f .f32 (some 0)])] [] ⟨.inl ok49, trivial⟩ (by kernel_rfl) (by simp -implicitDefEqProofs [f2a, f2b, f2c]) (Ent.nils (m := [some (9, List.replicate (a.length : Int).toNat [.i .i64 0, .i .i64 0, .i .i64 0, .nil, .f .f32 (some 0), .f .f32 (some 0), .i .i8 0, .i .i64 0, .f .f32 (some 0)])]) (es' := List.replicate ((a.length : Int).toNat) [.i .i64 0, .i .i64 0, .i .i64 0, .own 18 [], .f .f32 (some 0), .f .f32 (some 0), .i .i8 0, .i .i64 0, .f .f32 (some 0)]) 0 [some (9, rows cT92o (List.replicate (a.length : Int).toNat (⟨0, 0, 0, (⟨[], (some 0), (some 0), 0, 0, (some 0)⟩ : T90)⟩ : T92)))] rfl (nlE_rep (by simp [nlL])) (by simp)) ?_
  refine VW.join (fun (v : List T92) => (⟨(tm 23 [(3, .ref 0 0 v.length)]), [some (9, rows cT92o v)], []⟩ : VS)) (fun v => (g22_j1 (v)).bind some = some r) ?_ ?_
  · refine VW.seq ?_
    refine VW.evalA (C := [(49, F49)]) (tm 23 [(0, .sl 9 (rows cT92 a)), (3, .ref 0 0 (List.replicate (a.length : Int).toNat (⟨0, 0, 0, (⟨[], (some 0), (some 0), 0, 0, (some 0)⟩ : T90)⟩ : T92)).length), (4, .i .i64 0)]) [some (9, rows cT92o (List.replicate (a.length : Int).toNat (⟨0, 0, 0, (⟨[], (some 0), (some 0), 0, 0, (some 0)⟩ : T90)⟩ : T92)))] [] ⟨.inl ok49, trivial⟩ (by kernel_rfl) (by simp -implicitDefEqProofs) ?_
    refine VW.block ?_
    obtain ⟨w_1, hw_1, h⟩ := bindE h
    refine VW.loopO (fun (x : Int × (List T92)) => (⟨(tm 23 [(0, .sl 9 (rows cT92 a)), (3, .ref 0 0 x.2.length), (4, .i .i64 x.1)]), [some (9, rows cT92o x.2)], []⟩ : VS)) hw_1 (Ent.to 1 (by simp [fgt]) (by simp) (by simp) (by simp [bndT, bndV]) (by simp [bndM, bndV])) ?_
    rintro n_1 ⟨i_45, l46⟩ h1
    rw [g22_L1] at h1
    refine VW.seq ?_
    refine VW.seq ?_
    refine VW.evalA (C := [(49, F49)]) (tm 23 [(0, .sl 9 (rows cT92 a)), (3, .ref 0 0 l46.length), (4, .i .i64 i_45), (11, .b (ltI i_45 (a.length : Int)))]) [some (9, rows cT92o l46)] [] ⟨.inl ok49, trivial⟩ (by kernel_rfl) (by simp -implicitDefEqProofs) ?_
    refine VW.condB (b := ltI i_45 (a.length : Int)) (by simp) (fun g47 => ?_) (fun g47 => ?_)
    · replace h1 := iteT g47 h1
      refine VW.skip ?_
      refine VW.seq ?_
      refine VW.block ?_
      obtain ⟨e48, q49, h1⟩ := bindE h1
      obtain ⟨f49a, f49b, f49c, f49d⟩ := idx_some q49
      obtain ⟨r50, q51, h1⟩ := bindE h1
      have c51 : F49 [.agg [.i .i64 e48.room_, .i .i64 e48.flue_, .i .i64 e48.brain_, .sl 18 (rows cT147 e48.stove_.logs_), .f .f32 e48.stove_.box_, .f .f32 e48.stove_.damper_, .i .i8 e48.stove_.state_, .i .i64 e48.stove_.ash_, .f .f32 e48.stove_.dust_]] = some (.agg [.i .i64 r50.room_, .i .i64 r50.flue_, .i .i64 r50.brain_, .own 18 (rows cT147 r50.stove_.logs_), .f .f32 r50.stove_.box_, .f .f32 r50.stove_.damper_, .i .i8 r50.stove_.state_, .i .i64 r50.stove_.ash_, .f .f32 r50.stove_.dust_]) := tells_eq inj49 (a := e48) q51
      obtain ⟨e52, q53, h1⟩ := bindE h1
      obtain ⟨f53a, f53b, f53c, f53d⟩ := idx_some q53
      refine VW.evalE (C := [(49, F49)]) (tm 23 [(0, .sl 9 (rows cT92 a)), (3, .ref 0 0 l46.length), (4, .i .i64 i_45)]) [some (9, (rows cT92o l46).set i_45.toNat [.i .i64 r50.room_, .i .i64 r50.flue_, .i .i64 r50.brain_, .ref 1 0 r50.stove_.logs_.length, .f .f32 r50.stove_.box_, .f .f32 r50.stove_.damper_, .i .i8 r50.stove_.state_, .i .i64 r50.stove_.ash_, .f .f32 r50.stove_.dust_]), some (18, rows cT147 r50.stove_.logs_)] [] ⟨.inl ok49, trivial⟩ (by kernel_rfl) (by simp -implicitDefEqProofs [f49a, f49b, f49c, f49d, c51, f53a, f53b, f53c, f53d]) (Ent.absorb (m := [some (9, (rows cT92o l46).set i_45.toNat [.i .i64 r50.room_, .i .i64 r50.flue_, .i .i64 r50.brain_, .ref 1 0 r50.stove_.logs_.length, .f .f32 r50.stove_.box_, .f .f32 r50.stove_.damper_, .i .i8 r50.stove_.state_, .i .i64 r50.stove_.ash_, .f .f32 r50.stove_.dust_]), some (18, rows cT147 r50.stove_.logs_)]) (n := 9) (n' := 18) (es := (rows cT92o l46).set i_45.toNat [.i .i64 r50.room_, .i .i64 r50.flue_, .i .i64 r50.brain_, .ref 1 0 r50.stove_.logs_.length, .f .f32 r50.stove_.box_, .f .f32 r50.stove_.damper_, .i .i8 r50.stove_.state_, .i .i64 r50.stove_.ash_, .f .f32 r50.stove_.dust_]) (es' := rows cT147 r50.stove_.logs_) (cs := [.i .i64 r50.room_, .i .i64 r50.flue_, .i .i64 r50.brain_, .ref 1 0 r50.stove_.logs_.length, .f .f32 r50.stove_.box_, .f .f32 r50.stove_.damper_, .i .i8 r50.stove_.state_, .i .i64 r50.stove_.ash_, .f .f32 r50.stove_.dust_]) 0 i_45.toNat 3 1 r50.stove_.logs_.length [some (9, rows cT92o (l46.set i_45.toNat r50)), none] rfl (by simp [f53a, f53b, f53c, f53d]) rfl rfl (by decide) (by simp) (by simp) (by simp)) ?_
      refine VW.evalA (C := [(49, F49)]) (tm 23 [(0, .sl 9 (rows cT92 a)), (3, .ref 0 0 (l46.set i_45.toNat r50).length), (4, .i .i64 (aI .i64 i_45 1))]) [some (9, rows cT92o (l46.set i_45.toNat r50)), none] [] ⟨.inl ok49, trivial⟩ (by kernel_rfl) (by simp -implicitDefEqProofs) ?_
      exact (show ∃ _, _ from ⟨(aI .i64 i_45 1, (l46.set i_45.toNat r50)), leafL h1, (Ent.to 1 (by simp [fgt]) (by simp) (by simp) (by simp [bndT, bndV]) (by simp [bndM, bndV]))⟩)
    · replace h1 := iteF g47 h1
      refine VW.exit ?_
      have e_ := leafR h1
      subst w_1
      exact (show ∃ _, _ from ⟨l46, h, (Ent.to 1 (by simp [fgt]) (by simp) (by simp) (by simp [bndT, bndV]) (by simp [bndM, bndV]))⟩)
  · rintro l28 h
    replace h : (g22_j1 l28).bind _ = _ := h
    rw [g22_j1] at h
    refine VW.seq ?_
    refine VW.evalA (C := [(49, F49)]) (tm 23 [(2, .ref 0 0 l28.length)]) [some (9, rows cT92o l28)] [] ⟨.inl ok49, trivial⟩ (by kernel_rfl) (by simp -implicitDefEqProofs) ?_
    obtain rfl := leafS h
    refine VW.ret (VRet.fin ?_)
    simp [eB22]
noncomputable def g23_j1 (l22 : List ByteArray) : Option (List ByteArray) :=
  some l22
noncomputable def g23_L1 (a : List ByteArray) : (Int × (List ByteArray)) → Option ((Int × (List ByteArray)) ⊕ (List ByteArray))
  | (i_35, l36) =>
    if ltI i_35 (a.length : Int) = true then
      (idx a i_35).bind fun e38 =>
      (idx l36 i_35).bind fun e40 =>
      some (.inl (aI .i64 i_35 1, (l36.set i_35.toNat e38)))
    else
      some (.inr l36)
noncomputable def g23 (a : List ByteArray) : Option (List ByteArray) :=
  (mk 16 (a.length : Int)).bind fun u1 =>
  (loopO (g23_L1 a) (0, (List.replicate (a.length : Int).toNat ByteArray.empty))).bind fun w => g23_j1 w
def eA23 (a : List ByteArray) : List V := [.sl 1 (rows cs_ a)]
def eB23 (r : List ByteArray) : V := .own 1 (rows cs_ r)
theorem inj23 (a a' : List ByteArray) (h : eA23 a = eA23 a') : a = a' := by
  obtain i711 := a
  obtain i712 := a'
  simp only [eA23, List.cons.injEq, V.i.injEq, V.b.injEq, V.f.injEq, V.str.injEq, V.sl.injEq, V.agg.injEq, V.cptr.injEq, true_and, and_true] at h
  simp_all [ri cs__inj]
noncomputable def F23 : List V → Option V := tells (fun a => g23 a) eA23 eB23
set_option maxRecDepth 100000 in
set_option maxHeartbeats 4000000 in
/- loop.example/g01229/laws.toStringS -/
theorem ok23 : Tells Try.prog 23 F23 := by
  refine Tells.of (by kernel_rfl) ?_
  rintro a r h
  refine VCalls.nl (VCalls.of Try.func23 rfl rfl rfl ?_)
  rw [tm_init]
  simp only [eA23, en, List.length_cons, List.length_nil, Nat.reduceAdd, Nat.reduceSub]
  replace h : (g23 a).bind some = some r := bindS h
  rw [g23] at h
  refine VW.seq ?_
  refine VW.evalA (C := []) (tm 22 [(0, .sl 1 (rows cs_ a))]) [] [] trivial (by kernel_rfl) (by simp -implicitDefEqProofs) ?_
  refine VW.seq ?_
  obtain ⟨u1, q2, h⟩ := bindE h
  obtain ⟨f2a, f2b, f2c⟩ := mk_some q2
  try simp only [Int.toNat_natCast, Int.reduceToNat, List.length_cons, List.length_nil, Nat.reduceAdd, Nat.zero_add] at f2a f2b f2c
  refine VW.evalA (C := []) (tm 22 [(0, .sl 1 (rows cs_ a)), (3, .ref 0 0 (List.replicate (a.length : Int).toNat ByteArray.empty).length)]) [some (1, rows cs_ (List.replicate (a.length : Int).toNat ByteArray.empty))] [] trivial (by kernel_rfl) (by simp -implicitDefEqProofs [f2a, f2b, f2c]) ?_
  refine VW.join (fun (v : List ByteArray) => (⟨(tm 22 [(3, .ref 0 0 v.length)]), [some (1, rows cs_ v)], []⟩ : VS)) (fun v => (g23_j1 (v)).bind some = some r) ?_ ?_
  · refine VW.seq ?_
    refine VW.evalA (C := []) (tm 22 [(0, .sl 1 (rows cs_ a)), (3, .ref 0 0 (List.replicate (a.length : Int).toNat ByteArray.empty).length), (4, .i .i64 0)]) [some (1, rows cs_ (List.replicate (a.length : Int).toNat ByteArray.empty))] [] trivial (by kernel_rfl) (by simp -implicitDefEqProofs) ?_
    refine VW.block ?_
    obtain ⟨w_1, hw_1, h⟩ := bindE h
    refine VW.loopO (fun (x : Int × (List ByteArray)) => (⟨(tm 22 [(0, .sl 1 (rows cs_ a)), (3, .ref 0 0 x.2.length), (4, .i .i64 x.1)]), [some (1, rows cs_ x.2)], []⟩ : VS)) hw_1 (Ent.to 1 (by simp [fgt]) (by simp) (by simp) (by simp [bndT, bndV]) (by simp [bndM, bndV])) ?_
    rintro n_1 ⟨i_35, l36⟩ h1
    rw [g23_L1] at h1
    refine VW.seq ?_
    refine VW.seq ?_
    refine VW.evalA (C := []) (tm 22 [(0, .sl 1 (rows cs_ a)), (3, .ref 0 0 l36.length), (4, .i .i64 i_35), (11, .b (ltI i_35 (a.length : Int)))]) [some (1, rows cs_ l36)] [] trivial (by kernel_rfl) (by simp -implicitDefEqProofs) ?_
    refine VW.condB (b := ltI i_35 (a.length : Int)) (by simp) (fun g37 => ?_) (fun g37 => ?_)
    · replace h1 := iteT g37 h1
      refine VW.skip ?_
      refine VW.seq ?_
      refine VW.block ?_
      obtain ⟨e38, q39, h1⟩ := bindE h1
      obtain ⟨f39a, f39b, f39c, f39d⟩ := idx_some q39
      obtain ⟨e40, q41, h1⟩ := bindE h1
      obtain ⟨f41a, f41b, f41c, f41d⟩ := idx_some q41
      refine VW.evalA (C := []) (tm 22 [(0, .sl 1 (rows cs_ a)), (3, .ref 0 0 (l36.set i_35.toNat e38).length), (4, .i .i64 i_35)]) [some (1, rows cs_ (l36.set i_35.toNat e38))] [] trivial (by kernel_rfl) (by simp -implicitDefEqProofs [f39a, f39b, f39c, f39d, f41a, f41b, f41c, f41d]) ?_
      refine VW.evalA (C := []) (tm 22 [(0, .sl 1 (rows cs_ a)), (3, .ref 0 0 (l36.set i_35.toNat e38).length), (4, .i .i64 (aI .i64 i_35 1))]) [some (1, rows cs_ (l36.set i_35.toNat e38))] [] trivial (by kernel_rfl) (by simp -implicitDefEqProofs) ?_
      exact (show ∃ _, _ from ⟨(aI .i64 i_35 1, (l36.set i_35.toNat e38)), leafL h1, (Ent.to 1 (by simp [fgt]) (by simp) (by simp) (by simp [bndT, bndV]) (by simp [bndM, bndV]))⟩)
    · replace h1 := iteF g37 h1
      refine VW.exit ?_
      have e_ := leafR h1
      subst w_1
      exact (show ∃ _, _ from ⟨l36, h, (Ent.to 1 (by simp [fgt]) (by simp) (by simp) (by simp [bndT, bndV]) (by simp [bndM, bndV]))⟩)
  · rintro l22 h
    replace h : (g23_j1 l22).bind _ = _ := h
    rw [g23_j1] at h
    refine VW.seq ?_
    refine VW.evalA (C := []) (tm 22 [(2, .ref 0 0 l22.length)]) [some (1, rows cs_ l22)] [] trivial (by kernel_rfl) (by simp -implicitDefEqProofs) ?_
    obtain rfl := leafS h
    refine VW.ret (VRet.fin ?_)
    simp [eB23]
noncomputable def g50 (a : T108) : Option (T108) :=
  some a
def eA50 (a : T108) : List V := [.agg (pT108 a)]
def eB50 (r : T108) : V := .agg [.f .f32 r.outside_, .f .f32 r.sun_, .f .f32 r.wind_]
theorem inj50 (a a' : T108) (h : eA50 a = eA50 a') : a = a' := by
  obtain ⟨i713, i714, i715⟩ := a
  obtain ⟨i716, i717, i718⟩ := a'
  simp only [eA50, pT108, List.cons.injEq, V.i.injEq, V.b.injEq, V.f.injEq, V.str.injEq, V.sl.injEq, V.agg.injEq, V.cptr.injEq, true_and, and_true] at h
  simp_all
noncomputable def F50 : List V → Option V := tells (fun a => g50 a) eA50 eB50
set_option maxRecDepth 100000 in
set_option maxHeartbeats 4000000 in
/- loop.example/g01229/laws.toHour -/
theorem ok50 : Tells Try.prog 50 F50 := by
  refine Tells.of (by kernel_rfl) ?_
  rintro a r h
  refine VCalls.nl (VCalls.of Try.func50 rfl rfl rfl ?_)
  rw [tm_init]
  simp only [eA50, en, List.length_cons, List.length_nil, Nat.reduceAdd, Nat.reduceSub]
  replace h : (g50 a).bind some = some r := bindS h
  rw [g50] at h
  refine VW.seq ?_
  refine VW.evalA (C := []) (tm 14 [(1, .ptr 0 0 0), (2, .ptr 1 0 0)]) [some (3, [(pT108 a)]), some (3, [[.f .f32 (some 0), .f .f32 (some 0), .f .f32 (some 0)]])] [] trivial (by kernel_rfl) (by first | (simp -implicitDefEqProofs; done) | simp -implicitDefEqProofs [pT108]) ?_
  refine VW.seq ?_
  refine VW.evalA (C := []) (tm 14 [(1, .ptr 0 0 0), (2, .ptr 1 0 0), (3, .ptr 2 0 0)]) [some (3, [(pT108 a)]), some (3, [[.f .f32 (some 0), .f .f32 (some 0), .f .f32 (some 0)]]), some (3, [[.f .f32 (some 0), .f .f32 (some 0), .f .f32 (some 0)]])] [] trivial (by kernel_rfl) (by first | (simp -implicitDefEqProofs; done) | simp -implicitDefEqProofs [pT108]) ?_
  refine VW.seq ?_
  refine VW.evalA (C := []) (tm 14 [(1, .ptr 0 0 0), (2, .ptr 1 0 0), (3, .ptr 2 0 0)]) [some (3, [(pT108 a)]), some (3, [[.f .f32 (some 0), .f .f32 (some 0), .f .f32 (some 0)]]), some (3, [[.f .f32 a.outside_, .f .f32 (some 0), .f .f32 (some 0)]])] [] trivial (by kernel_rfl) (by first | (simp -implicitDefEqProofs; done) | simp -implicitDefEqProofs [pT108]) ?_
  refine VW.seq ?_
  refine VW.evalA (C := []) (tm 14 [(1, .ptr 0 0 0), (2, .ptr 1 0 0), (3, .ptr 2 0 0)]) [some (3, [(pT108 a)]), some (3, [[.f .f32 (some 0), .f .f32 (some 0), .f .f32 (some 0)]]), some (3, [[.f .f32 a.outside_, .f .f32 a.sun_, .f .f32 (some 0)]])] [] trivial (by kernel_rfl) (by first | (simp -implicitDefEqProofs; done) | simp -implicitDefEqProofs [pT108]) ?_
  refine VW.seq ?_
  refine VW.evalA (C := []) (tm 14 [(2, .ptr 1 0 0), (3, .ptr 2 0 0)]) [some (3, [(pT108 a)]), some (3, [[.f .f32 (some 0), .f .f32 (some 0), .f .f32 (some 0)]]), some (3, [(pT108 a)])] [] trivial (by kernel_rfl) (by first | (simp -implicitDefEqProofs; done) | simp -implicitDefEqProofs [pT108]) ?_
  refine VW.seq ?_
  refine VW.evalA (C := []) (tm 14 [(2, .ptr 1 0 0)]) [some (3, [(pT108 a)]), some (3, [(pT108 a)]), some (3, [(pT108 a)])] [] trivial (by kernel_rfl) (by first | (simp -implicitDefEqProofs; done) | simp -implicitDefEqProofs [pT108]) ?_
  obtain rfl := leafS h
  refine VW.ret (VRet.fin ?_)
  first | (simp [eB50]; done) | simp [eB50, pT108]
noncomputable def g24_j1 (l28 : List T108) : Option (List T108) :=
  some l28
noncomputable def g24_L1 (a : List T108) : (Int × (List T108)) → Option ((Int × (List T108)) ⊕ (List T108))
  | (i_45, l46) =>
    if ltI i_45 (a.length : Int) = true then
      (idx a i_45).bind fun e48 =>
      (g50 e48).bind fun r50 =>
      (idx l46 i_45).bind fun e52 =>
      some (.inl (aI .i64 i_45 1, (l46.set i_45.toNat r50)))
    else
      some (.inr l46)
noncomputable def g24 (a : List T108) : Option (List T108) :=
  (mk 12 (a.length : Int)).bind fun u1 =>
  (loopO (g24_L1 a) (0, (List.replicate (a.length : Int).toNat (⟨(some 0), (some 0), (some 0)⟩ : T108)))).bind fun w => g24_j1 w
def eA24 (a : List T108) : List V := [.sl 3 (rows cT108 a)]
def eB24 (r : List T108) : V := .own 3 (rows cT108 r)
theorem inj24 (a a' : List T108) (h : eA24 a = eA24 a') : a = a' := by
  obtain i719 := a
  obtain i720 := a'
  simp only [eA24, List.cons.injEq, V.i.injEq, V.b.injEq, V.f.injEq, V.str.injEq, V.sl.injEq, V.agg.injEq, V.cptr.injEq, true_and, and_true] at h
  simp_all [ri cT108_inj]
noncomputable def F24 : List V → Option V := tells (fun a => g24 a) eA24 eB24
set_option maxRecDepth 100000 in
set_option maxHeartbeats 4000000 in
/- loop.example/g01229/laws.toHourS -/
theorem ok24 : Tells Try.prog 24 F24 := by
  refine Tells.of (by kernel_rfl) ?_
  rintro a r h
  refine VCalls.nl (VCalls.of Try.func24 rfl rfl rfl ?_)
  rw [tm_init]
  simp only [eA24, en, List.length_cons, List.length_nil, Nat.reduceAdd, Nat.reduceSub]
  replace h : (g24 a).bind some = some r := bindS h
  rw [g24] at h
  refine VW.seq ?_
  refine VW.evalA (C := [(50, F50)]) (tm 23 [(0, .sl 3 (rows cT108 a))]) [] [] ⟨.inl ok50, trivial⟩ (by kernel_rfl) (by simp -implicitDefEqProofs) ?_
  refine VW.seq ?_
  obtain ⟨u1, q2, h⟩ := bindE h
  obtain ⟨f2a, f2b, f2c⟩ := mk_some q2
  try simp only [Int.toNat_natCast, Int.reduceToNat, List.length_cons, List.length_nil, Nat.reduceAdd, Nat.zero_add] at f2a f2b f2c
  refine VW.evalA (C := [(50, F50)]) (tm 23 [(0, .sl 3 (rows cT108 a)), (3, .ref 0 0 (List.replicate (a.length : Int).toNat (⟨(some 0), (some 0), (some 0)⟩ : T108)).length)]) [some (3, rows cT108 (List.replicate (a.length : Int).toNat (⟨(some 0), (some 0), (some 0)⟩ : T108)))] [] ⟨.inl ok50, trivial⟩ (by kernel_rfl) (by simp -implicitDefEqProofs [f2a, f2b, f2c]) ?_
  refine VW.join (fun (v : List T108) => (⟨(tm 23 [(3, .ref 0 0 v.length)]), [some (3, rows cT108 v)], []⟩ : VS)) (fun v => (g24_j1 (v)).bind some = some r) ?_ ?_
  · refine VW.seq ?_
    refine VW.evalA (C := [(50, F50)]) (tm 23 [(0, .sl 3 (rows cT108 a)), (3, .ref 0 0 (List.replicate (a.length : Int).toNat (⟨(some 0), (some 0), (some 0)⟩ : T108)).length), (4, .i .i64 0)]) [some (3, rows cT108 (List.replicate (a.length : Int).toNat (⟨(some 0), (some 0), (some 0)⟩ : T108)))] [] ⟨.inl ok50, trivial⟩ (by kernel_rfl) (by simp -implicitDefEqProofs) ?_
    refine VW.block ?_
    obtain ⟨w_1, hw_1, h⟩ := bindE h
    refine VW.loopO (fun (x : Int × (List T108)) => (⟨(tm 23 [(0, .sl 3 (rows cT108 a)), (3, .ref 0 0 x.2.length), (4, .i .i64 x.1)]), [some (3, rows cT108 x.2)], []⟩ : VS)) hw_1 (Ent.to 1 (by simp [fgt]) (by simp) (by simp) (by simp [bndT, bndV]) (by simp [bndM, bndV])) ?_
    rintro n_1 ⟨i_45, l46⟩ h1
    rw [g24_L1] at h1
    refine VW.seq ?_
    refine VW.seq ?_
    refine VW.evalA (C := [(50, F50)]) (tm 23 [(0, .sl 3 (rows cT108 a)), (3, .ref 0 0 l46.length), (4, .i .i64 i_45), (11, .b (ltI i_45 (a.length : Int)))]) [some (3, rows cT108 l46)] [] ⟨.inl ok50, trivial⟩ (by kernel_rfl) (by simp -implicitDefEqProofs) ?_
    refine VW.condB (b := ltI i_45 (a.length : Int)) (by simp) (fun g47 => ?_) (fun g47 => ?_)
    · replace h1 := iteT g47 h1
      refine VW.skip ?_
      refine VW.seq ?_
      refine VW.block ?_
      obtain ⟨e48, q49, h1⟩ := bindE h1
      obtain ⟨f49a, f49b, f49c, f49d⟩ := idx_some q49
      obtain ⟨r50, q51, h1⟩ := bindE h1
      have c51 : F50 [.agg [.f .f32 e48.outside_, .f .f32 e48.sun_, .f .f32 e48.wind_]] = some (.agg [.f .f32 r50.outside_, .f .f32 r50.sun_, .f .f32 r50.wind_]) := tells_eq inj50 (a := e48) q51
      obtain ⟨e52, q53, h1⟩ := bindE h1
      obtain ⟨f53a, f53b, f53c, f53d⟩ := idx_some q53
      refine VW.evalA (C := [(50, F50)]) (tm 23 [(0, .sl 3 (rows cT108 a)), (3, .ref 0 0 (l46.set i_45.toNat r50).length), (4, .i .i64 i_45)]) [some (3, rows cT108 (l46.set i_45.toNat r50))] [] ⟨.inl ok50, trivial⟩ (by kernel_rfl) (by simp -implicitDefEqProofs [f49a, f49b, f49c, f49d, c51, f53a, f53b, f53c, f53d]) ?_
      refine VW.evalA (C := [(50, F50)]) (tm 23 [(0, .sl 3 (rows cT108 a)), (3, .ref 0 0 (l46.set i_45.toNat r50).length), (4, .i .i64 (aI .i64 i_45 1))]) [some (3, rows cT108 (l46.set i_45.toNat r50))] [] ⟨.inl ok50, trivial⟩ (by kernel_rfl) (by simp -implicitDefEqProofs) ?_
      exact (show ∃ _, _ from ⟨(aI .i64 i_45 1, (l46.set i_45.toNat r50)), leafL h1, (Ent.to 1 (by simp [fgt]) (by simp) (by simp) (by simp [bndT, bndV]) (by simp [bndM, bndV]))⟩)
    · replace h1 := iteF g47 h1
      refine VW.exit ?_
      have e_ := leafR h1
      subst w_1
      exact (show ∃ _, _ from ⟨l46, h, (Ent.to 1 (by simp [fgt]) (by simp) (by simp) (by simp [bndT, bndV]) (by simp [bndM, bndV]))⟩)
  · rintro l28 h
    replace h : (g24_j1 l28).bind _ = _ := h
    rw [g24_j1] at h
    refine VW.seq ?_
    refine VW.evalA (C := [(50, F50)]) (tm 23 [(2, .ref 0 0 l28.length)]) [some (3, rows cT108 l28)] [] ⟨.inl ok50, trivial⟩ (by kernel_rfl) (by simp -implicitDefEqProofs) ?_
    obtain rfl := leafS h
    refine VW.ret (VRet.fin ?_)
    simp [eB24]
noncomputable def g25 (a : T105) : Option (T105) :=
  some a
def eA25 (a : T105) : List V := [.agg (pT105 a)]
def eB25 (r : T105) : V := .agg [.f .f32 r.burnt_, .f .f32 r.steam_, .f .f32 r.up_, .f .f32 r.lost_, .i .i64 r.smoky_]
theorem inj25 (a a' : T105) (h : eA25 a = eA25 a') : a = a' := by
  obtain ⟨i721, i722, i723, i724, i725⟩ := a
  obtain ⟨i726, i727, i728, i729, i730⟩ := a'
  simp only [eA25, pT105, List.cons.injEq, V.i.injEq, V.b.injEq, V.f.injEq, V.str.injEq, V.sl.injEq, V.agg.injEq, V.cptr.injEq, true_and, and_true] at h
  simp_all
noncomputable def F25 : List V → Option V := tells (fun a => g25 a) eA25 eB25
set_option maxRecDepth 100000 in
set_option maxHeartbeats 4000000 in
/- loop.example/g01229/laws.toSums -/
theorem ok25 : Tells Try.prog 25 F25 := by
  refine Tells.of (by kernel_rfl) ?_
  rintro a r h
  refine VCalls.nl (VCalls.of Try.func25 rfl rfl rfl ?_)
  rw [tm_init]
  simp only [eA25, en, List.length_cons, List.length_nil, Nat.reduceAdd, Nat.reduceSub]
  replace h : (g25 a).bind some = some r := bindS h
  rw [g25] at h
  refine VW.seq ?_
  refine VW.evalA (C := []) (tm 20 [(1, .ptr 0 0 0), (2, .ptr 1 0 0)]) [some (5, [(pT105 a)]), some (5, [[.f .f32 (some 0), .f .f32 (some 0), .f .f32 (some 0), .f .f32 (some 0), .i .i64 0]])] [] trivial (by kernel_rfl) (by first | (simp -implicitDefEqProofs; done) | simp -implicitDefEqProofs [pT105]) ?_
  refine VW.seq ?_
  refine VW.evalA (C := []) (tm 20 [(1, .ptr 0 0 0), (2, .ptr 1 0 0), (3, .ptr 2 0 0)]) [some (5, [(pT105 a)]), some (5, [[.f .f32 (some 0), .f .f32 (some 0), .f .f32 (some 0), .f .f32 (some 0), .i .i64 0]]), some (5, [[.f .f32 (some 0), .f .f32 (some 0), .f .f32 (some 0), .f .f32 (some 0), .i .i64 0]])] [] trivial (by kernel_rfl) (by first | (simp -implicitDefEqProofs; done) | simp -implicitDefEqProofs [pT105]) ?_
  refine VW.seq ?_
  refine VW.evalA (C := []) (tm 20 [(1, .ptr 0 0 0), (2, .ptr 1 0 0), (3, .ptr 2 0 0)]) [some (5, [(pT105 a)]), some (5, [[.f .f32 (some 0), .f .f32 (some 0), .f .f32 (some 0), .f .f32 (some 0), .i .i64 0]]), some (5, [[.f .f32 a.burnt_, .f .f32 (some 0), .f .f32 (some 0), .f .f32 (some 0), .i .i64 0]])] [] trivial (by kernel_rfl) (by first | (simp -implicitDefEqProofs; done) | simp -implicitDefEqProofs [pT105]) ?_
  refine VW.seq ?_
  refine VW.evalA (C := []) (tm 20 [(1, .ptr 0 0 0), (2, .ptr 1 0 0), (3, .ptr 2 0 0)]) [some (5, [(pT105 a)]), some (5, [[.f .f32 (some 0), .f .f32 (some 0), .f .f32 (some 0), .f .f32 (some 0), .i .i64 0]]), some (5, [[.f .f32 a.burnt_, .f .f32 a.steam_, .f .f32 (some 0), .f .f32 (some 0), .i .i64 0]])] [] trivial (by kernel_rfl) (by first | (simp -implicitDefEqProofs; done) | simp -implicitDefEqProofs [pT105]) ?_
  refine VW.seq ?_
  refine VW.evalA (C := []) (tm 20 [(1, .ptr 0 0 0), (2, .ptr 1 0 0), (3, .ptr 2 0 0)]) [some (5, [(pT105 a)]), some (5, [[.f .f32 (some 0), .f .f32 (some 0), .f .f32 (some 0), .f .f32 (some 0), .i .i64 0]]), some (5, [[.f .f32 a.burnt_, .f .f32 a.steam_, .f .f32 a.up_, .f .f32 (some 0), .i .i64 0]])] [] trivial (by kernel_rfl) (by first | (simp -implicitDefEqProofs; done) | simp -implicitDefEqProofs [pT105]) ?_
  refine VW.seq ?_
  refine VW.evalA (C := []) (tm 20 [(1, .ptr 0 0 0), (2, .ptr 1 0 0), (3, .ptr 2 0 0)]) [some (5, [(pT105 a)]), some (5, [[.f .f32 (some 0), .f .f32 (some 0), .f .f32 (some 0), .f .f32 (some 0), .i .i64 0]]), some (5, [[.f .f32 a.burnt_, .f .f32 a.steam_, .f .f32 a.up_, .f .f32 a.lost_, .i .i64 0]])] [] trivial (by kernel_rfl) (by first | (simp -implicitDefEqProofs; done) | simp -implicitDefEqProofs [pT105]) ?_
  refine VW.seq ?_
  refine VW.evalA (C := []) (tm 20 [(2, .ptr 1 0 0), (3, .ptr 2 0 0)]) [some (5, [(pT105 a)]), some (5, [[.f .f32 (some 0), .f .f32 (some 0), .f .f32 (some 0), .f .f32 (some 0), .i .i64 0]]), some (5, [(pT105 a)])] [] trivial (by kernel_rfl) (by first | (simp -implicitDefEqProofs; done) | simp -implicitDefEqProofs [pT105]) ?_
  refine VW.seq ?_
  refine VW.evalA (C := []) (tm 20 [(2, .ptr 1 0 0)]) [some (5, [(pT105 a)]), some (5, [(pT105 a)]), some (5, [(pT105 a)])] [] trivial (by kernel_rfl) (by first | (simp -implicitDefEqProofs; done) | simp -implicitDefEqProofs [pT105]) ?_
  obtain rfl := leafS h
  refine VW.ret (VRet.fin ?_)
  first | (simp [eB25]; done) | simp [eB25, pT105]
noncomputable def g9 (a : T38) : Option (T38) :=
  (g20 a.flat_).bind fun r1 =>
  (g21 a.chimney_).bind fun r3 =>
  (g22 a.hearths_).bind fun r5 =>
  (g23 a.sources_).bind fun r7 =>
  (g24 a.hours_).bind fun r9 =>
  (g25 a.sums_).bind fun r11 =>
  some (⟨r1, r3, r5, r7, r9, a.tick_, r11⟩ : T38)
def eA9 (a : T38) : List V := [.agg (pT38 a)]
def eB9 (r : T38) : V := .agg [.own 1 (rows cf_f32 r.flat_.heat_), .own 1 (rows cf_f32 r.flat_.store_), .own 8 (rows cT132 r.flat_.walls_), .own 4 (rows cT134 r.flat_.panes_), .own 5 (rows cT105 r.chimney_), .own 9 (rows cT92o r.hearths_), .own 1 (rows cs_ r.sources_), .own 3 (rows cT108 r.hours_), .i .i64 r.tick_, .f .f32 r.sums_.burnt_, .f .f32 r.sums_.steam_, .f .f32 r.sums_.up_, .f .f32 r.sums_.lost_, .i .i64 r.sums_.smoky_]
theorem inj9 (a a' : T38) (h : eA9 a = eA9 a') : a = a' := by
  obtain ⟨⟨i731, i732, i733, i734⟩, i735, i736, i737, i738, i739, ⟨i740, i741, i742, i743, i744⟩⟩ := a
  obtain ⟨⟨i745, i746, i747, i748⟩, i749, i750, i751, i752, i753, ⟨i754, i755, i756, i757, i758⟩⟩ := a'
  simp only [eA9, pT38, List.cons.injEq, V.i.injEq, V.b.injEq, V.f.injEq, V.str.injEq, V.sl.injEq, V.agg.injEq, V.cptr.injEq, true_and, and_true] at h
  simp_all [ri cT105_inj, ri cT108_inj, ri cT132_inj, ri cT134_inj, ri cT92_inj, ri cf_f32_inj, ri cs__inj]
noncomputable def F9 : List V → Option V := tells (fun a => g9 a) eA9 eB9
set_option maxRecDepth 100000 in
set_option maxHeartbeats 4000000 in
/- loop.example/g01229/laws.toHouse -/
theorem ok9 : Tells Try.prog 9 F9 := by
  refine Tells.of (by kernel_rfl) ?_
  rintro a r h
  refine VCalls.nl (VCalls.of Try.func9 rfl rfl rfl ?_)
  rw [tm_init]
  simp only [eA9, en, List.length_cons, List.length_nil, Nat.reduceAdd, Nat.reduceSub]
  replace h : (g9 a).bind some = some r := bindS h
  rw [g9] at h
  refine VW.seq ?_
  refine VW.evalA (C := [(20, F20), (21, F21), (22, F22), (23, F23), (24, F24), (25, F25)]) (tm 32 [(1, .ptr 0 0 0), (2, .ptr 1 0 0)]) [some (14, [(pT38 a)]), some (14, [[.nil, .nil, .nil, .nil, .nil, .nil, .nil, .nil, .i .i64 0, .f .f32 (some 0), .f .f32 (some 0), .f .f32 (some 0), .f .f32 (some 0), .i .i64 0]])] [] ⟨.inl ok20, .inl ok21, .inl ok22, .inl ok23, .inl ok24, .inl ok25, trivial⟩ (by kernel_rfl) (by first | (simp -implicitDefEqProofs; done) | simp -implicitDefEqProofs [pT38]) ?_
  refine VW.seq ?_
  refine VW.evalA (C := [(20, F20), (21, F21), (22, F22), (23, F23), (24, F24), (25, F25)]) (tm 32 [(1, .ptr 0 0 0), (2, .ptr 1 0 0), (3, .ptr 2 0 0)]) [some (14, [(pT38 a)]), some (14, [[.nil, .nil, .nil, .nil, .nil, .nil, .nil, .nil, .i .i64 0, .f .f32 (some 0), .f .f32 (some 0), .f .f32 (some 0), .f .f32 (some 0), .i .i64 0]]), some (14, [[.nil, .nil, .nil, .nil, .nil, .nil, .nil, .nil, .i .i64 0, .f .f32 (some 0), .f .f32 (some 0), .f .f32 (some 0), .f .f32 (some 0), .i .i64 0]])] [] ⟨.inl ok20, .inl ok21, .inl ok22, .inl ok23, .inl ok24, .inl ok25, trivial⟩ (by kernel_rfl) (by first | (simp -implicitDefEqProofs; done) | simp -implicitDefEqProofs [pT38]) ?_
  refine VW.seq ?_
  obtain ⟨r1, q2, h⟩ := bindE h
  have c2 : F20 [.agg [.sl 1 (rows cf_f32 a.flat_.heat_), .sl 1 (rows cf_f32 a.flat_.store_), .sl 8 (rows cT132 a.flat_.walls_), .sl 4 (rows cT134 a.flat_.panes_)]] = some (.agg [.own 1 (rows cf_f32 r1.heat_), .own 1 (rows cf_f32 r1.store_), .own 8 (rows cT132 r1.walls_), .own 4 (rows cT134 r1.panes_)]) := tells_eq inj20 (a := a.flat_) q2
  refine VW.evalA (C := [(20, F20), (21, F21), (22, F22), (23, F23), (24, F24), (25, F25)]) (tm 32 [(1, .ptr 0 0 0), (2, .ptr 1 0 0), (3, .ptr 2 0 0)]) [some (14, [(pT38 a)]), some (14, [[.nil, .nil, .nil, .nil, .nil, .nil, .nil, .nil, .i .i64 0, .f .f32 (some 0), .f .f32 (some 0), .f .f32 (some 0), .f .f32 (some 0), .i .i64 0]]), some (14, [[.ref 3 0 r1.heat_.length, .ref 4 0 r1.store_.length, .ref 5 0 r1.walls_.length, .ref 6 0 r1.panes_.length, .nil, .nil, .nil, .nil, .i .i64 0, .f .f32 (some 0), .f .f32 (some 0), .f .f32 (some 0), .f .f32 (some 0), .i .i64 0]]), some (1, rows cf_f32 r1.heat_), some (1, rows cf_f32 r1.store_), some (8, rows cT132 r1.walls_), some (4, rows cT134 r1.panes_)] [] ⟨.inl ok20, .inl ok21, .inl ok22, .inl ok23, .inl ok24, .inl ok25, trivial⟩ (by kernel_rfl) (by first | (simp -implicitDefEqProofs [c2]; done) | simp -implicitDefEqProofs [c2, pT38]) ?_
  refine VW.seq ?_
  obtain ⟨r3, q4, h⟩ := bindE h
  have c4 : F21 [.sl 5 (rows cT105 a.chimney_)] = some (.own 5 (rows cT105 r3)) := tells_eq inj21 (a := a.chimney_) q4
  refine VW.evalA (C := [(20, F20), (21, F21), (22, F22), (23, F23), (24, F24), (25, F25)]) (tm 32 [(1, .ptr 0 0 0), (2, .ptr 1 0 0), (3, .ptr 2 0 0)]) [some (14, [(pT38 a)]), some (14, [[.nil, .nil, .nil, .nil, .nil, .nil, .nil, .nil, .i .i64 0, .f .f32 (some 0), .f .f32 (some 0), .f .f32 (some 0), .f .f32 (some 0), .i .i64 0]]), some (14, [[.ref 3 0 r1.heat_.length, .ref 4 0 r1.store_.length, .ref 5 0 r1.walls_.length, .ref 6 0 r1.panes_.length, .ref 7 0 r3.length, .nil, .nil, .nil, .i .i64 0, .f .f32 (some 0), .f .f32 (some 0), .f .f32 (some 0), .f .f32 (some 0), .i .i64 0]]), some (1, rows cf_f32 r1.heat_), some (1, rows cf_f32 r1.store_), some (8, rows cT132 r1.walls_), some (4, rows cT134 r1.panes_), some (5, rows cT105 r3)] [] ⟨.inl ok20, .inl ok21, .inl ok22, .inl ok23, .inl ok24, .inl ok25, trivial⟩ (by kernel_rfl) (by first | (simp -implicitDefEqProofs [c4]; done) | simp -implicitDefEqProofs [c4, pT38]) ?_
  refine VW.seq ?_
  obtain ⟨r5, q6, h⟩ := bindE h
  have c6 : F22 [.sl 9 (rows cT92 a.hearths_)] = some (.own 9 (rows cT92o r5)) := tells_eq inj22 (a := a.hearths_) q6
  refine VW.evalA (C := [(20, F20), (21, F21), (22, F22), (23, F23), (24, F24), (25, F25)]) (tm 32 [(1, .ptr 0 0 0), (2, .ptr 1 0 0), (3, .ptr 2 0 0)]) [some (14, [(pT38 a)]), some (14, [[.nil, .nil, .nil, .nil, .nil, .nil, .nil, .nil, .i .i64 0, .f .f32 (some 0), .f .f32 (some 0), .f .f32 (some 0), .f .f32 (some 0), .i .i64 0]]), some (14, [[.ref 3 0 r1.heat_.length, .ref 4 0 r1.store_.length, .ref 5 0 r1.walls_.length, .ref 6 0 r1.panes_.length, .ref 7 0 r3.length, .ref 8 0 r5.length, .nil, .nil, .i .i64 0, .f .f32 (some 0), .f .f32 (some 0), .f .f32 (some 0), .f .f32 (some 0), .i .i64 0]]), some (1, rows cf_f32 r1.heat_), some (1, rows cf_f32 r1.store_), some (8, rows cT132 r1.walls_), some (4, rows cT134 r1.panes_), some (5, rows cT105 r3), some (9, rows cT92o r5)] [] ⟨.inl ok20, .inl ok21, .inl ok22, .inl ok23, .inl ok24, .inl ok25, trivial⟩ (by kernel_rfl) (by first | (simp -implicitDefEqProofs [c6]; done) | simp -implicitDefEqProofs [c6, pT38]) ?_
  refine VW.seq ?_
  obtain ⟨r7, q8, h⟩ := bindE h
  have c8 : F23 [.sl 1 (rows cs_ a.sources_)] = some (.own 1 (rows cs_ r7)) := tells_eq inj23 (a := a.sources_) q8
  refine VW.evalA (C := [(20, F20), (21, F21), (22, F22), (23, F23), (24, F24), (25, F25)]) (tm 32 [(1, .ptr 0 0 0), (2, .ptr 1 0 0), (3, .ptr 2 0 0)]) [some (14, [(pT38 a)]), some (14, [[.nil, .nil, .nil, .nil, .nil, .nil, .nil, .nil, .i .i64 0, .f .f32 (some 0), .f .f32 (some 0), .f .f32 (some 0), .f .f32 (some 0), .i .i64 0]]), some (14, [[.ref 3 0 r1.heat_.length, .ref 4 0 r1.store_.length, .ref 5 0 r1.walls_.length, .ref 6 0 r1.panes_.length, .ref 7 0 r3.length, .ref 8 0 r5.length, .ref 9 0 r7.length, .nil, .i .i64 0, .f .f32 (some 0), .f .f32 (some 0), .f .f32 (some 0), .f .f32 (some 0), .i .i64 0]]), some (1, rows cf_f32 r1.heat_), some (1, rows cf_f32 r1.store_), some (8, rows cT132 r1.walls_), some (4, rows cT134 r1.panes_), some (5, rows cT105 r3), some (9, rows cT92o r5), some (1, rows cs_ r7)] [] ⟨.inl ok20, .inl ok21, .inl ok22, .inl ok23, .inl ok24, .inl ok25, trivial⟩ (by kernel_rfl) (by first | (simp -implicitDefEqProofs [c8]; done) | simp -implicitDefEqProofs [c8, pT38]) ?_
  refine VW.seq ?_
  obtain ⟨r9, q10, h⟩ := bindE h
  have c10 : F24 [.sl 3 (rows cT108 a.hours_)] = some (.own 3 (rows cT108 r9)) := tells_eq inj24 (a := a.hours_) q10
  refine VW.evalA (C := [(20, F20), (21, F21), (22, F22), (23, F23), (24, F24), (25, F25)]) (tm 32 [(1, .ptr 0 0 0), (2, .ptr 1 0 0), (3, .ptr 2 0 0)]) [some (14, [(pT38 a)]), some (14, [[.nil, .nil, .nil, .nil, .nil, .nil, .nil, .nil, .i .i64 0, .f .f32 (some 0), .f .f32 (some 0), .f .f32 (some 0), .f .f32 (some 0), .i .i64 0]]), some (14, [[.ref 3 0 r1.heat_.length, .ref 4 0 r1.store_.length, .ref 5 0 r1.walls_.length, .ref 6 0 r1.panes_.length, .ref 7 0 r3.length, .ref 8 0 r5.length, .ref 9 0 r7.length, .ref 10 0 r9.length, .i .i64 0, .f .f32 (some 0), .f .f32 (some 0), .f .f32 (some 0), .f .f32 (some 0), .i .i64 0]]), some (1, rows cf_f32 r1.heat_), some (1, rows cf_f32 r1.store_), some (8, rows cT132 r1.walls_), some (4, rows cT134 r1.panes_), some (5, rows cT105 r3), some (9, rows cT92o r5), some (1, rows cs_ r7), some (3, rows cT108 r9)] [] ⟨.inl ok20, .inl ok21, .inl ok22, .inl ok23, .inl ok24, .inl ok25, trivial⟩ (by kernel_rfl) (by first | (simp -implicitDefEqProofs [c10]; done) | simp -implicitDefEqProofs [c10, pT38]) ?_
  refine VW.seq ?_
  refine VW.evalA (C := [(20, F20), (21, F21), (22, F22), (23, F23), (24, F24), (25, F25)]) (tm 32 [(1, .ptr 0 0 0), (2, .ptr 1 0 0), (3, .ptr 2 0 0)]) [some (14, [(pT38 a)]), some (14, [[.nil, .nil, .nil, .nil, .nil, .nil, .nil, .nil, .i .i64 0, .f .f32 (some 0), .f .f32 (some 0), .f .f32 (some 0), .f .f32 (some 0), .i .i64 0]]), some (14, [[.ref 3 0 r1.heat_.length, .ref 4 0 r1.store_.length, .ref 5 0 r1.walls_.length, .ref 6 0 r1.panes_.length, .ref 7 0 r3.length, .ref 8 0 r5.length, .ref 9 0 r7.length, .ref 10 0 r9.length, .i .i64 a.tick_, .f .f32 (some 0), .f .f32 (some 0), .f .f32 (some 0), .f .f32 (some 0), .i .i64 0]]), some (1, rows cf_f32 r1.heat_), some (1, rows cf_f32 r1.store_), some (8, rows cT132 r1.walls_), some (4, rows cT134 r1.panes_), some (5, rows cT105 r3), some (9, rows cT92o r5), some (1, rows cs_ r7), some (3, rows cT108 r9)] [] ⟨.inl ok20, .inl ok21, .inl ok22, .inl ok23, .inl ok24, .inl ok25, trivial⟩ (by kernel_rfl) (by first | (simp -implicitDefEqProofs; done) | simp -implicitDefEqProofs [pT38]) ?_
  refine VW.seq ?_
  obtain ⟨r11, q12, h⟩ := bindE h
  have c12 : F25 [.agg [.f .f32 a.sums_.burnt_, .f .f32 a.sums_.steam_, .f .f32 a.sums_.up_, .f .f32 a.sums_.lost_, .i .i64 a.sums_.smoky_]] = some (.agg [.f .f32 r11.burnt_, .f .f32 r11.steam_, .f .f32 r11.up_, .f .f32 r11.lost_, .i .i64 r11.smoky_]) := tells_eq inj25 (a := a.sums_) q12
  refine VW.evalA (C := [(20, F20), (21, F21), (22, F22), (23, F23), (24, F24), (25, F25)]) (tm 32 [(2, .ptr 1 0 0), (3, .ptr 2 0 0)]) [some (14, [(pT38 a)]), some (14, [[.nil, .nil, .nil, .nil, .nil, .nil, .nil, .nil, .i .i64 0, .f .f32 (some 0), .f .f32 (some 0), .f .f32 (some 0), .f .f32 (some 0), .i .i64 0]]), some (14, [[.ref 3 0 r1.heat_.length, .ref 4 0 r1.store_.length, .ref 5 0 r1.walls_.length, .ref 6 0 r1.panes_.length, .ref 7 0 r3.length, .ref 8 0 r5.length, .ref 9 0 r7.length, .ref 10 0 r9.length, .i .i64 a.tick_, .f .f32 r11.burnt_, .f .f32 r11.steam_, .f .f32 r11.up_, .f .f32 r11.lost_, .i .i64 r11.smoky_]]), some (1, rows cf_f32 r1.heat_), some (1, rows cf_f32 r1.store_), some (8, rows cT132 r1.walls_), some (4, rows cT134 r1.panes_), some (5, rows cT105 r3), some (9, rows cT92o r5), some (1, rows cs_ r7), some (3, rows cT108 r9)] [] ⟨.inl ok20, .inl ok21, .inl ok22, .inl ok23, .inl ok24, .inl ok25, trivial⟩ (by kernel_rfl) (by first | (simp -implicitDefEqProofs [c12]; done) | simp -implicitDefEqProofs [c12, pT38]) ?_
  refine VW.seq ?_
  refine VW.evalA (C := [(20, F20), (21, F21), (22, F22), (23, F23), (24, F24), (25, F25)]) (tm 32 [(2, .ptr 1 0 0)]) [some (14, [(pT38 a)]), some (14, [[.ref 3 0 r1.heat_.length, .ref 4 0 r1.store_.length, .ref 5 0 r1.walls_.length, .ref 6 0 r1.panes_.length, .ref 7 0 r3.length, .ref 8 0 r5.length, .ref 9 0 r7.length, .ref 10 0 r9.length, .i .i64 a.tick_, .f .f32 r11.burnt_, .f .f32 r11.steam_, .f .f32 r11.up_, .f .f32 r11.lost_, .i .i64 r11.smoky_]]), some (14, [[.ref 3 0 r1.heat_.length, .ref 4 0 r1.store_.length, .ref 5 0 r1.walls_.length, .ref 6 0 r1.panes_.length, .ref 7 0 r3.length, .ref 8 0 r5.length, .ref 9 0 r7.length, .ref 10 0 r9.length, .i .i64 a.tick_, .f .f32 r11.burnt_, .f .f32 r11.steam_, .f .f32 r11.up_, .f .f32 r11.lost_, .i .i64 r11.smoky_]]), some (1, rows cf_f32 r1.heat_), some (1, rows cf_f32 r1.store_), some (8, rows cT132 r1.walls_), some (4, rows cT134 r1.panes_), some (5, rows cT105 r3), some (9, rows cT92o r5), some (1, rows cs_ r7), some (3, rows cT108 r9)] [] ⟨.inl ok20, .inl ok21, .inl ok22, .inl ok23, .inl ok24, .inl ok25, trivial⟩ (by kernel_rfl) (by first | (simp -implicitDefEqProofs; done) | simp -implicitDefEqProofs [pT38]) ?_
  obtain rfl := leafS h
  refine VW.ret (VRet.fin ?_)
  first | (simp [eB9]; done) | simp [eB9, pT38]
noncomputable def g51 (a : F32) (b : F32) : Option (Bool) :=
  if (neF .f32 a a || neF .f32 b b) = true then
    some (neF .f32 a a && neF .f32 b b)
  else
    (f32bits a).bind fun z2 =>
    (f32bits b).bind fun z4 =>
    some (eqI z2 z4)
def eA51 (a : F32 × F32) : List V := [.f .f32 a.1, .f .f32 a.2]
def eB51 (r : Bool) : V := .b r
theorem inj51 (a a' : F32 × F32) (h : eA51 a = eA51 a') : a = a' := by
  obtain ⟨i759, i760⟩ := a
  obtain ⟨i761, i762⟩ := a'
  simp only [eA51, List.cons.injEq, V.i.injEq, V.b.injEq, V.f.injEq, V.str.injEq, V.sl.injEq, V.agg.injEq, V.cptr.injEq, true_and, and_true] at h
  simp_all
noncomputable def F51 : List V → Option V := tells (fun a => g51 a.1 a.2) eA51 eB51
set_option maxRecDepth 100000 in
set_option maxHeartbeats 4000000 in
/- loop.example/g01229/impl.SameNumber -/
theorem ok51 : Tells Try.prog 51 F51 := by
  refine Tells.of (by kernel_rfl) ?_
  rintro ⟨a, b⟩ r h
  refine VCalls.nl (VCalls.of Try.func51 rfl rfl rfl ?_)
  rw [tm_init]
  simp only [eA51, en, List.length_cons, List.length_nil, Nat.reduceAdd, Nat.reduceSub]
  replace h : (g51 a b).bind some = some r := bindS h
  rw [g51] at h
  refine VW.seq ?_
  refine VW.evalA (C := [(63, FXbits32)]) (tm 26 [(0, .f .f32 a), (1, .f .f32 b)]) [] [] ⟨.inr okx63, trivial⟩ (by kernel_rfl) (by simp -implicitDefEqProofs) ?_
  refine VW.seq ?_
  refine VW.seq ?_
  refine VW.evalA (C := [(63, FXbits32)]) (tm 26 [(0, .f .f32 a), (1, .f .f32 b), (12, .b (neF .f32 a a || neF .f32 b b))]) [] [] ⟨.inr okx63, trivial⟩ (by kernel_rfl) (by simp -implicitDefEqProofs) ?_
  refine VW.condB (b := (neF .f32 a a || neF .f32 b b)) (by simp) (fun g1 => ?_) (fun g1 => ?_)
  · replace h := iteT g1 h
    refine VW.seq ?_
    refine VW.evalA (C := [(63, FXbits32)]) (tm 26 [(4, .b (neF .f32 a a && neF .f32 b b))]) [] [] ⟨.inr okx63, trivial⟩ (by kernel_rfl) (by simp -implicitDefEqProofs) ?_
    obtain rfl := leafS h
    refine VW.ret (VRet.fin ?_)
    simp [eB51]
  · replace h := iteF g1 h
    refine VW.skip ?_
    refine VW.seq ?_
    obtain ⟨z2, q3, h⟩ := bindE h
    have c3 := f32bits_F q3
    obtain ⟨z4, q5, h⟩ := bindE h
    have c5 := f32bits_F q5
    refine VW.evalA (C := [(63, FXbits32)]) (tm 26 [(4, .b (eqI z2 z4))]) [] [] ⟨.inr okx63, trivial⟩ (by kernel_rfl) (by simp -implicitDefEqProofs [c3, c5]) ?_
    obtain rfl := leafS h
    refine VW.ret (VRet.fin ?_)
    simp [eB51]
noncomputable def g30_j1 : Option (Bool) :=
  some true
noncomputable def g30_L1 (a : List F32) (b : List F32) : (Int) → Option ((Int) ⊕ ((Unit) ⊕ (Bool)))
  | x_45 =>
    if ltI x_45 (a.length : Int) = true then
      (idx a x_45).bind fun e47 =>
      (idx b x_45).bind fun e49 =>
      (g51 e47 e49).bind fun r51 =>
      if (!r51) = true then
        some (.inr (.inr false))
      else
        some (.inl (aI .i64 x_45 1))
    else
      some (.inr (.inl ()))
noncomputable def g30 (a : List F32) (b : List F32) : Option (Bool) :=
  if (!eqI (a.length : Int) (b.length : Int)) = true then
    some false
  else
    (loopO (g30_L1 a b) 0).bind fun w => match w with
      | .inl y => g30_j1
      | .inr r => some r
def eA30 (a : (List F32) × (List F32)) : List V := [.sl 1 (rows cf_f32 a.1), .sl 1 (rows cf_f32 a.2)]
def eB30 (r : Bool) : V := .b r
theorem inj30 (a a' : (List F32) × (List F32)) (h : eA30 a = eA30 a') : a = a' := by
  obtain ⟨i763, i764⟩ := a
  obtain ⟨i765, i766⟩ := a'
  simp only [eA30, List.cons.injEq, V.i.injEq, V.b.injEq, V.f.injEq, V.str.injEq, V.sl.injEq, V.agg.injEq, V.cptr.injEq, true_and, and_true] at h
  simp_all [ri cf_f32_inj]
noncomputable def F30 : List V → Option V := tells (fun a => g30 a.1 a.2) eA30 eB30
set_option maxRecDepth 100000 in
set_option maxHeartbeats 4000000 in
/- loop.example/g01229/impl.sameAll -/
theorem ok30 : Tells Try.prog 30 F30 := by
  refine Tells.of (by kernel_rfl) ?_
  rintro ⟨a, b⟩ r h
  refine VCalls.nl (VCalls.of Try.func30 rfl rfl rfl ?_)
  rw [tm_init]
  simp only [eA30, en, List.length_cons, List.length_nil, Nat.reduceAdd, Nat.reduceSub]
  replace h : (g30 a b).bind some = some r := bindS h
  rw [g30] at h
  refine VW.seq ?_
  refine VW.evalA (C := [(51, F51)]) (tm 27 [(0, .sl 1 (rows cf_f32 a)), (1, .sl 1 (rows cf_f32 b))]) [] [] ⟨.inl ok51, trivial⟩ (by kernel_rfl) (by simp -implicitDefEqProofs) ?_
  refine VW.seq ?_
  refine VW.seq ?_
  refine VW.evalA (C := [(51, F51)]) (tm 27 [(0, .sl 1 (rows cf_f32 a)), (1, .sl 1 (rows cf_f32 b)), (11, .b (!eqI (a.length : Int) (b.length : Int)))]) [] [] ⟨.inl ok51, trivial⟩ (by kernel_rfl) (by simp -implicitDefEqProofs) ?_
  refine VW.condB (b := (!eqI (a.length : Int) (b.length : Int))) (by simp) (fun g1 => ?_) (fun g1 => ?_)
  · replace h := iteT g1 h
    refine VW.seq ?_
    refine VW.evalA (C := [(51, F51)]) (tm 27 [(4, .b false)]) [] [] ⟨.inl ok51, trivial⟩ (by kernel_rfl) (by simp -implicitDefEqProofs) ?_
    obtain rfl := leafS h
    refine VW.ret (VRet.fin ?_)
    simp [eB30]
  · replace h := iteF g1 h
    refine VW.skip ?_
    refine VW.join (fun (v : Unit) => (⟨(tm 27 []), [], []⟩ : VS)) (fun v => (g30_j1).bind some = some r) ?_ ?_
    · refine VW.seq ?_
      refine VW.evalA (C := [(51, F51)]) (tm 27 [(1, .sl 1 (rows cf_f32 b)), (12, .sl 1 (rows cf_f32 a)), (13, .i .i64 (a.length : Int)), (14, .i .i64 0)]) [] [] ⟨.inl ok51, trivial⟩ (by kernel_rfl) (by simp -implicitDefEqProofs) ?_
      refine VW.block ?_
      obtain ⟨w_1, hw_1, h⟩ := bindE h
      refine VW.loopO (fun (x : Int) => (⟨(tm 27 [(1, .sl 1 (rows cf_f32 b)), (12, .sl 1 (rows cf_f32 a)), (13, .i .i64 (a.length : Int)), (14, .i .i64 x)]), [], []⟩ : VS)) hw_1 (Ent.to 0 (by simp [fgt]) (by simp) (by simp) (by simp [bndT, bndV]) (by simp [bndM, bndV])) ?_
      rintro n_1 x_45 h1
      rw [g30_L1] at h1
      refine VW.seq ?_
      refine VW.evalA (C := [(51, F51)]) (tm 27 [(1, .sl 1 (rows cf_f32 b)), (12, .sl 1 (rows cf_f32 a)), (13, .i .i64 (a.length : Int)), (14, .i .i64 x_45), (15, .b (ltI x_45 (a.length : Int)))]) [] [] ⟨.inl ok51, trivial⟩ (by kernel_rfl) (by simp -implicitDefEqProofs) ?_
      refine VW.seq ?_
      refine VW.condB (b := ltI x_45 (a.length : Int)) (by simp) (fun g46 => ?_) (fun g46 => ?_)
      · replace h1 := iteT g46 h1
        refine VW.skip ?_
        refine VW.seq ?_
        refine VW.block ?_
        refine VW.seq ?_
        obtain ⟨e47, q48, h1⟩ := bindE h1
        obtain ⟨f48a, f48b, f48c, f48d⟩ := idx_some q48
        refine VW.evalA (C := [(51, F51)]) (tm 27 [(1, .sl 1 (rows cf_f32 b)), (5, .i .i64 x_45), (6, .f .f32 e47), (12, .sl 1 (rows cf_f32 a)), (13, .i .i64 (a.length : Int)), (14, .i .i64 x_45)]) [] [] ⟨.inl ok51, trivial⟩ (by kernel_rfl) (by simp -implicitDefEqProofs [f48a, f48b, f48c, f48d]) ?_
        refine VW.seq ?_
        obtain ⟨e49, q50, h1⟩ := bindE h1
        obtain ⟨f50a, f50b, f50c, f50d⟩ := idx_some q50
        obtain ⟨r51, q52, h1⟩ := bindE h1
        have c52 : F51 [.f .f32 e47, .f .f32 e49] = some (.b r51) := tells_eq inj51 (a := (e47, e49)) q52
        refine VW.evalA (C := [(51, F51)]) (tm 27 [(1, .sl 1 (rows cf_f32 b)), (12, .sl 1 (rows cf_f32 a)), (13, .i .i64 (a.length : Int)), (14, .i .i64 x_45), (25, .b (!r51))]) [] [] ⟨.inl ok51, trivial⟩ (by kernel_rfl) (by simp -implicitDefEqProofs [f50a, f50b, f50c, f50d, c52]) ?_
        refine VW.condB (b := (!r51)) (by simp) (fun g53 => ?_) (fun g53 => ?_)
        · replace h1 := iteT g53 h1
          refine VW.seq ?_
          refine VW.evalA (C := [(51, F51)]) (tm 27 [(4, .b false)]) [] [] ⟨.inl ok51, trivial⟩ (by kernel_rfl) (by simp -implicitDefEqProofs) ?_
          have e_ := leafR h1
          subst w_1
          obtain rfl := leafS h
          refine VW.ret (VRet.fin ?_)
          simp [eB30]
        · replace h1 := iteF g53 h1
          refine VW.skip ?_
          refine VW.evalA (C := [(51, F51)]) (tm 27 [(1, .sl 1 (rows cf_f32 b)), (12, .sl 1 (rows cf_f32 a)), (13, .i .i64 (a.length : Int)), (14, .i .i64 (aI .i64 x_45 1))]) [] [] ⟨.inl ok51, trivial⟩ (by kernel_rfl) (by simp -implicitDefEqProofs) ?_
          exact (show ∃ _, _ from ⟨aI .i64 x_45 1, leafL h1, (Ent.to 0 (by simp [fgt]) (by simp) (by simp) (by simp [bndT, bndV]) (by simp [bndM, bndV]))⟩)
      · replace h1 := iteF g46 h1
        refine VW.exit ?_
        have e_ := leafR h1
        subst w_1
        exact (show ∃ _, _ from ⟨(), h, (Ent.to 0 (by simp [fgt]) (by simp) (by simp) (by simp [bndT, bndV]) (by simp [bndM, bndV]))⟩)
    · rintro _ h
      replace h : (g30_j1).bind _ = _ := h
      rw [g30_j1] at h
      refine VW.seq ?_
      refine VW.evalA (C := [(51, F51)]) (tm 27 [(4, .b true)]) [] [] ⟨.inl ok51, trivial⟩ (by kernel_rfl) (by simp -implicitDefEqProofs) ?_
      obtain rfl := leafS h
      refine VW.ret (VRet.fin ?_)
      simp [eB30]
noncomputable def g26_j2 : Option (Bool) :=
  some true
noncomputable def g26_L1 (f : T30) (g : T30) : (Int) → Option ((Int) ⊕ ((Unit) ⊕ (Bool)))
  | x_244 =>
    if ltI x_244 (f.panes_.length : Int) = true then
      (idx f.panes_ x_244).bind fun e246 =>
      (idx g.panes_ x_244).bind fun e248 =>
      (if ((!eqI e246.a_ e248.a_) || (!eqI e246.b_ e248.b_)) = true then some true else (g51 e246.lead_ e248.lead_).bind fun r250 => some (!r250)).bind fun w252 =>
      (if w252 = true then some true else (g51 e246.sun_ e248.sun_).bind fun r253 => some (!r253)).bind fun w255 =>
      if w255 = true then
        some (.inr (.inr false))
      else
        some (.inl (aI .i64 x_244 1))
    else
      some (.inr (.inl ()))
noncomputable def g26_j1 (f : T30) (g : T30) : Option (Bool) :=
  (loopO (g26_L1 f g) 0).bind fun w => match w with
    | .inl y => g26_j2
    | .inr r => some r
noncomputable def g26_L2 (f : T30) (g : T30) : (Int) → Option ((Int) ⊕ ((Unit) ⊕ (Bool)))
  | x_347 =>
    if ltI x_347 (f.walls_.length : Int) = true then
      (idx f.walls_ x_347).bind fun e349 =>
      (idx g.walls_ x_347).bind fun e351 =>
      (if ((!eqI e349.a_ e351.a_) || (!eqI e349.b_ e351.b_)) = true then some true else (g51 e349.lead_ e351.lead_).bind fun r353 => some (!r353)).bind fun w355 =>
      (if w355 = true then some true else (g51 e349.store_ e351.store_).bind fun r356 => some (!r356)).bind fun w358 =>
      (if w358 = true then some true else (g30 [e349.heat_.a0_, e349.heat_.a1_, e349.heat_.a2_, e349.heat_.a3_] [e351.heat_.a0_, e351.heat_.a1_, e351.heat_.a2_, e351.heat_.a3_]).bind fun r359 => some (!r359)).bind fun w361 =>
      if w361 = true then
        some (.inr (.inr false))
      else
        some (.inl (aI .i64 x_347 1))
    else
      some (.inr (.inl ()))
noncomputable def g26 (f : T30) (g : T30) : Option (Bool) :=
  (g30 f.heat_ g.heat_).bind fun r1 =>
  (if (!r1) = true then some true else (g30 f.store_ g.store_).bind fun r3 => some (!r3)).bind fun w5 =>
  if ((w5 || (!eqI (f.walls_.length : Int) (g.walls_.length : Int))) || (!eqI (f.panes_.length : Int) (g.panes_.length : Int))) = true then
    some false
  else
    (loopO (g26_L2 f g) 0).bind fun w => match w with
      | .inl y => g26_j1 f g
      | .inr r => some r
def eA26 (a : T30 × T30) : List V := [.agg (pT30 a.1), .agg (pT30 a.2)]
def eB26 (r : Bool) : V := .b r
theorem inj26 (a a' : T30 × T30) (h : eA26 a = eA26 a') : a = a' := by
  obtain ⟨⟨i767, i768, i769, i770⟩, ⟨i771, i772, i773, i774⟩⟩ := a
  obtain ⟨⟨i775, i776, i777, i778⟩, ⟨i779, i780, i781, i782⟩⟩ := a'
  simp only [eA26, pT30, List.cons.injEq, V.i.injEq, V.b.injEq, V.f.injEq, V.str.injEq, V.sl.injEq, V.agg.injEq, V.cptr.injEq, true_and, and_true] at h
  simp_all [ri cT132_inj, ri cT134_inj, ri cf_f32_inj]
noncomputable def F26 : List V → Option V := tells (fun a => g26 a.1 a.2) eA26 eB26
set_option maxRecDepth 100000 in
set_option maxHeartbeats 40000000 in
/- loop.example/g01229/impl.SameFlat -/
theorem ok26 : Tells Try.prog 26 F26 := by
  refine Tells.of (by kernel_rfl) ?_
  rintro ⟨f, g⟩ r h
  refine VCalls.nl (VCalls.of Try.func26 rfl rfl rfl ?_)
  rw [tm_init]
  simp only [eA26, en, List.length_cons, List.length_nil, Nat.reduceAdd, Nat.reduceSub]
  replace h : (g26 f g).bind some = some r := bindS h
  rw [g26] at h
  refine VW.seq ?_
  refine VW.evalA (C := [(30, F30), (51, F51)]) (tm 135 [(2, .ptr 0 0 0), (3, .ptr 1 0 0)]) [some (4, [(pT30 f)]), some (4, [(pT30 g)])] [] ⟨.inl ok30, .inl ok51, trivial⟩ (by kernel_rfl) (by first | (simp -implicitDefEqProofs; done) | simp -implicitDefEqProofs [pT30]) ?_
  refine VW.seq ?_
  refine VW.seq ?_
  obtain ⟨r1, q2, h⟩ := bindE h
  have c2 : F30 [.sl 1 (rows cf_f32 f.heat_), .sl 1 (rows cf_f32 g.heat_)] = some (.b r1) := tells_eq inj30 (a := (f.heat_, g.heat_)) q2
  obtain ⟨w5, q387, h⟩ := bindE h
  refine VW.evalA (C := [(30, F30), (51, F51)]) (tm 135 [(2, .ptr 0 0 0), (3, .ptr 1 0 0), (42, .b ((w5 || (!eqI (f.walls_.length : Int) (g.walls_.length : Int))) || (!eqI (f.panes_.length : Int) (g.panes_.length : Int))))]) [some (4, [(pT30 f)]), some (4, [(pT30 g)])] [] ⟨.inl ok30, .inl ok51, trivial⟩ (by kernel_rfl) (by
      refine Or.elim (Bool.eq_false_or_eq_true (!r1)) (fun q388 => ?_) (fun q388 => ?_)
      · first
        | (simp at q388; done)
        | (rw [if_pos q388] at q387
           have d389 : w5 = _ := (Option.some.inj q387).symm
           first | (simp -implicitDefEqProofs [c2, q388, d389, pT30]; done) | simp -implicitDefEqProofs [c2, q388, d389])
      · first
        | (simp at q388; done)
        | (rw [if_neg (by rw [q388]; exact Bool.false_ne_true)] at q387
           refine Exists.elim (bindQ q387) fun r3 e_ => ?_
           have q4 := e_.1
           replace q387 := e_.2
           have c4 : F30 [.sl 1 (rows cf_f32 f.store_), .sl 1 (rows cf_f32 g.store_)] = some (.b r3) := tells_eq inj30 (a := (f.store_, g.store_)) q4
           have d390 : w5 = _ := (Option.some.inj q387).symm
           first | (simp -implicitDefEqProofs [c2, q388, c4, d390, pT30]; done) | simp -implicitDefEqProofs [c2, q388, c4, d390])) ?_
  refine VW.condB (b := ((w5 || (!eqI (f.walls_.length : Int) (g.walls_.length : Int))) || (!eqI (f.panes_.length : Int) (g.panes_.length : Int)))) (by simp) (fun g6 => ?_) (fun g6 => ?_)
  · replace h := iteT g6 h
    refine VW.seq ?_
    refine VW.evalA (C := [(30, F30), (51, F51)]) (tm 135 [(4, .b false)]) [some (4, [(pT30 f)]), some (4, [(pT30 g)])] [] ⟨.inl ok30, .inl ok51, trivial⟩ (by kernel_rfl) (by first | (simp -implicitDefEqProofs; done) | simp -implicitDefEqProofs [pT30]) ?_
    obtain rfl := leafS h
    refine VW.ret (VRet.fin ?_)
    first | (simp [eB26]; done) | simp [eB26, pT30]
  · replace h := iteF g6 h
    refine VW.skip ?_
    refine VW.join (fun (v : Unit) => (⟨(tm 135 [(2, .ptr 0 0 0), (3, .ptr 1 0 0)]), [some (4, [(pT30 f)]), some (4, [(pT30 g)])], []⟩ : VS)) (fun v => (g26_j1 f g).bind some = some r) ?_ ?_
    · refine VW.seq ?_
      refine VW.evalA (C := [(30, F30), (51, F51)]) (tm 135 [(2, .ptr 0 0 0), (3, .ptr 1 0 0), (44, .sl 8 (rows cT132 f.walls_)), (45, .i .i64 (f.walls_.length : Int)), (46, .i .i64 0)]) [some (4, [(pT30 f)]), some (4, [(pT30 g)])] [] ⟨.inl ok30, .inl ok51, trivial⟩ (by kernel_rfl) (by first | (simp -implicitDefEqProofs; done) | simp -implicitDefEqProofs [pT30]) ?_
      refine VW.block ?_
      obtain ⟨w_2, hw_2, h⟩ := bindE h
      refine VW.loopO (fun (x : Int) => (⟨(tm 135 [(2, .ptr 0 0 0), (3, .ptr 1 0 0), (44, .sl 8 (rows cT132 f.walls_)), (45, .i .i64 (f.walls_.length : Int)), (46, .i .i64 x)]), [some (4, [(pT30 f)]), some (4, [(pT30 g)])], []⟩ : VS)) hw_2 (Ent.to 2 (by simp [fgt]) (by first | (simp; done) | simp [pT30]) (by simp) (by simp [bndT, bndV]) (by simp [bndM, bndV])) ?_
      rintro n_2 x_347 h1
      rw [g26_L2] at h1
      refine VW.seq ?_
      refine VW.evalA (C := [(30, F30), (51, F51)]) (tm 135 [(2, .ptr 0 0 0), (3, .ptr 1 0 0), (44, .sl 8 (rows cT132 f.walls_)), (45, .i .i64 (f.walls_.length : Int)), (46, .i .i64 x_347), (47, .b (ltI x_347 (f.walls_.length : Int)))]) [some (4, [(pT30 f)]), some (4, [(pT30 g)])] [] ⟨.inl ok30, .inl ok51, trivial⟩ (by kernel_rfl) (by first | (simp -implicitDefEqProofs; done) | simp -implicitDefEqProofs [pT30]) ?_
      refine VW.seq ?_
      refine VW.condB (b := ltI x_347 (f.walls_.length : Int)) (by simp) (fun g348 => ?_) (fun g348 => ?_)
      · replace h1 := iteT g348 h1
        refine VW.skip ?_
        refine VW.seq ?_
        refine VW.block ?_
        refine VW.seq ?_
        obtain ⟨e349, q350, h1⟩ := bindE h1
        obtain ⟨f350a, f350b, f350c, f350d⟩ := idx_some q350
        refine VW.evalA (C := [(30, F30), (51, F51)]) (tm 135 [(2, .ptr 0 0 0), (3, .ptr 1 0 0), (5, .i .i64 x_347), (6, .ptr 2 0 0), (44, .sl 8 (rows cT132 f.walls_)), (45, .i .i64 (f.walls_.length : Int)), (46, .i .i64 x_347)]) [some (4, [(pT30 f)]), some (4, [(pT30 g)]), some (8, [[.i .i64 e349.a_, .i .i64 e349.b_, .f .f32 e349.lead_, .f .f32 e349.store_, .f .f32 e349.heat_.a0_, .f .f32 e349.heat_.a1_, .f .f32 e349.heat_.a2_, .f .f32 e349.heat_.a3_]])] [] ⟨.inl ok30, .inl ok51, trivial⟩ (by kernel_rfl) (by first | (simp -implicitDefEqProofs [f350a, f350b, f350c, f350d]; done) | simp -implicitDefEqProofs [f350a, f350b, f350c, f350d, pT30]) ?_
        refine VW.seq ?_
        obtain ⟨e351, q352, h1⟩ := bindE h1
        obtain ⟨f352a, f352b, f352c, f352d⟩ := idx_some q352
        refine VW.evalA (C := [(30, F30), (51, F51)]) (tm 135 [(2, .ptr 0 0 0), (3, .ptr 1 0 0), (6, .ptr 2 0 0), (7, .ptr 3 0 0), (44, .sl 8 (rows cT132 f.walls_)), (45, .i .i64 (f.walls_.length : Int)), (46, .i .i64 x_347)]) [some (4, [(pT30 f)]), some (4, [(pT30 g)]), some (8, [[.i .i64 e349.a_, .i .i64 e349.b_, .f .f32 e349.lead_, .f .f32 e349.store_, .f .f32 e349.heat_.a0_, .f .f32 e349.heat_.a1_, .f .f32 e349.heat_.a2_, .f .f32 e349.heat_.a3_]]), some (8, [[.i .i64 e351.a_, .i .i64 e351.b_, .f .f32 e351.lead_, .f .f32 e351.store_, .f .f32 e351.heat_.a0_, .f .f32 e351.heat_.a1_, .f .f32 e351.heat_.a2_, .f .f32 e351.heat_.a3_]])] [] ⟨.inl ok30, .inl ok51, trivial⟩ (by kernel_rfl) (by first | (simp -implicitDefEqProofs [f352a, f352b, f352c, f352d]; done) | simp -implicitDefEqProofs [f352a, f352b, f352c, f352d, pT30]) ?_
        refine VW.seq ?_
        obtain ⟨w355, q363, h1⟩ := bindE h1
        obtain ⟨w358, q364, h1⟩ := bindE h1
        obtain ⟨w361, q365, h1⟩ := bindE h1
        refine VW.evalDA (C := [(30, F30), (51, F51)]) (tm 135 [(2, .ptr 0 0 0), (3, .ptr 1 0 0), (44, .sl 8 (rows cT132 f.walls_)), (45, .i .i64 (f.walls_.length : Int)), (46, .i .i64 x_347), (91, .b w361)]) [some (4, [(pT30 f)]), some (4, [(pT30 g)]), some (8, [[.i .i64 e349.a_, .i .i64 e349.b_, .f .f32 e349.lead_, .f .f32 e349.store_, .f .f32 e349.heat_.a0_, .f .f32 e349.heat_.a1_, .f .f32 e349.heat_.a2_, .f .f32 e349.heat_.a3_]]), some (8, [[.i .i64 e351.a_, .i .i64 e351.b_, .f .f32 e351.lead_, .f .f32 e351.store_, .f .f32 e351.heat_.a0_, .f .f32 e351.heat_.a1_, .f .f32 e351.heat_.a2_, .f .f32 e351.heat_.a3_]])] [] ⟨.inl ok30, .inl ok51, trivial⟩ mixed (by kernel_rfl) (by
            refine Or.elim (Bool.eq_false_or_eq_true ((!eqI e349.a_ e351.a_) || (!eqI e349.b_ e351.b_))) (fun q366 => ?_) (fun q366 => ?_)
            · first
              | (simp at q366; done)
              | (rw [if_pos q366] at q363
                 have d367 : w355 = _ := (Option.some.inj q363).symm
                 refine Or.elim (Bool.eq_false_or_eq_true w355) (fun q368 => ?_) (fun q368 => ?_)
                 · first
                   | (simp [d367] at q368; done)
                   | (rw [if_pos q368] at q364
                      try simp only [d367] at q368
                      have d369 : w358 = _ := (Option.some.inj q364).symm
                      refine Or.elim (Bool.eq_false_or_eq_true w358) (fun q370 => ?_) (fun q370 => ?_)
                      · first
                        | (simp [d367, d369] at q370; done)
                        | (rw [if_pos q370] at q365
                           try simp only [d367, d369] at q370
                           have d371 : w361 = _ := (Option.some.inj q365).symm
                           first | (simp -implicitDefEqProofs [q366, d367, q368, d369, q370, d371, pT30]; done) | simp -implicitDefEqProofs [q366, d367, q368, d369, q370, d371])
                      · first
                        | (simp [d367, d369] at q370; done)
                        | (rw [if_neg (by rw [q370]; exact Bool.false_ne_true)] at q365
                           try simp only [d367, d369] at q370
                           refine Exists.elim (bindQ q365) fun r359 e_ => ?_
                           have q360 := e_.1
                           replace q365 := e_.2
                           have c360 : F30 [.sl 1 [[.f .f32 e349.heat_.a0_], [.f .f32 e349.heat_.a1_], [.f .f32 e349.heat_.a2_], [.f .f32 e349.heat_.a3_]], .sl 1 [[.f .f32 e351.heat_.a0_], [.f .f32 e351.heat_.a1_], [.f .f32 e351.heat_.a2_], [.f .f32 e351.heat_.a3_]]] = some (.b r359) := tells_eq inj30 (a := ([e349.heat_.a0_, e349.heat_.a1_, e349.heat_.a2_, e349.heat_.a3_], [e351.heat_.a0_, e351.heat_.a1_, e351.heat_.a2_, e351.heat_.a3_])) q360
                           have d372 : w361 = _ := (Option.some.inj q365).symm
                           first | (simp -implicitDefEqProofs [q366, d367, q368, d369, q370, c360, d372, pT30]; done) | simp -implicitDefEqProofs [q366, d367, q368, d369, q370, c360, d372]))
                 · first
                   | (simp [d367] at q368; done)
                   | (rw [if_neg (by rw [q368]; exact Bool.false_ne_true)] at q364
                      try simp only [d367] at q368
                      refine Exists.elim (bindQ q364) fun r356 e_ => ?_
                      have q357 := e_.1
                      replace q364 := e_.2
                      have c357 : F51 [.f .f32 e349.store_, .f .f32 e351.store_] = some (.b r356) := tells_eq inj51 (a := (e349.store_, e351.store_)) q357
                      have d373 : w358 = _ := (Option.some.inj q364).symm
                      refine Or.elim (Bool.eq_false_or_eq_true w358) (fun q374 => ?_) (fun q374 => ?_)
                      · first
                        | (simp [d367, d373] at q374; done)
                        | (rw [if_pos q374] at q365
                           try simp only [d367, d373] at q374
                           have d375 : w361 = _ := (Option.some.inj q365).symm
                           first | (simp -implicitDefEqProofs [q366, d367, q368, c357, d373, q374, d375, pT30]; done) | simp -implicitDefEqProofs [q366, d367, q368, c357, d373, q374, d375])
                      · first
                        | (simp [d367, d373] at q374; done)
                        | (rw [if_neg (by rw [q374]; exact Bool.false_ne_true)] at q365
                           try simp only [d367, d373] at q374
                           refine Exists.elim (bindQ q365) fun r359 e_ => ?_
                           have q360 := e_.1
                           replace q365 := e_.2
                           have c360 : F30 [.sl 1 [[.f .f32 e349.heat_.a0_], [.f .f32 e349.heat_.a1_], [.f .f32 e349.heat_.a2_], [.f .f32 e349.heat_.a3_]], .sl 1 [[.f .f32 e351.heat_.a0_], [.f .f32 e351.heat_.a1_], [.f .f32 e351.heat_.a2_], [.f .f32 e351.heat_.a3_]]] = some (.b r359) := tells_eq inj30 (a := ([e349.heat_.a0_, e349.heat_.a1_, e349.heat_.a2_, e349.heat_.a3_], [e351.heat_.a0_, e351.heat_.a1_, e351.heat_.a2_, e351.heat_.a3_])) q360
                           have d376 : w361 = _ := (Option.some.inj q365).symm
                           first | (simp -implicitDefEqProofs [q366, d367, q368, c357, d373, q374, c360, d376, pT30]; done) | simp -implicitDefEqProofs [q366, d367, q368, c357, d373, q374, c360, d376])))
            · first
              | (simp at q366; done)
              | (rw [if_neg (by rw [q366]; exact Bool.false_ne_true)] at q363
                 refine Exists.elim (bindQ q363) fun r353 e_ => ?_
                 have q354 := e_.1
                 replace q363 := e_.2
                 have c354 : F51 [.f .f32 e349.lead_, .f .f32 e351.lead_] = some (.b r353) := tells_eq inj51 (a := (e349.lead_, e351.lead_)) q354
                 have d377 : w355 = _ := (Option.some.inj q363).symm
                 refine Or.elim (Bool.eq_false_or_eq_true w355) (fun q378 => ?_) (fun q378 => ?_)
                 · first
                   | (simp [d377] at q378; done)
                   | (rw [if_pos q378] at q364
                      try simp only [d377] at q378
                      have d379 : w358 = _ := (Option.some.inj q364).symm
                      refine Or.elim (Bool.eq_false_or_eq_true w358) (fun q380 => ?_) (fun q380 => ?_)
                      · first
                        | (simp [d377, d379] at q380; done)
                        | (rw [if_pos q380] at q365
                           try simp only [d377, d379] at q380
                           have d381 : w361 = _ := (Option.some.inj q365).symm
                           first | (simp -implicitDefEqProofs [q366, c354, d377, q378, d379, q380, d381, pT30]; done) | simp -implicitDefEqProofs [q366, c354, d377, q378, d379, q380, d381])
                      · first
                        | (simp [d377, d379] at q380; done)
                        | (rw [if_neg (by rw [q380]; exact Bool.false_ne_true)] at q365
                           try simp only [d377, d379] at q380
                           refine Exists.elim (bindQ q365) fun r359 e_ => ?_
                           have q360 := e_.1
                           replace q365 := e_.2
                           have c360 : F30 [.sl 1 [[.f .f32 e349.heat_.a0_], [.f .f32 e349.heat_.a1_], [.f .f32 e349.heat_.a2_], [.f .f32 e349.heat_.a3_]], .sl 1 [[.f .f32 e351.heat_.a0_], [.f .f32 e351.heat_.a1_], [.f .f32 e351.heat_.a2_], [.f .f32 e351.heat_.a3_]]] = some (.b r359) := tells_eq inj30 (a := ([e349.heat_.a0_, e349.heat_.a1_, e349.heat_.a2_, e349.heat_.a3_], [e351.heat_.a0_, e351.heat_.a1_, e351.heat_.a2_, e351.heat_.a3_])) q360
                           have d382 : w361 = _ := (Option.some.inj q365).symm
                           first | (simp -implicitDefEqProofs [q366, c354, d377, q378, d379, q380, c360, d382, pT30]; done) | simp -implicitDefEqProofs [q366, c354, d377, q378, d379, q380, c360, d382]))
                 · first
                   | (simp [d377] at q378; done)
                   | (rw [if_neg (by rw [q378]; exact Bool.false_ne_true)] at q364
                      try simp only [d377] at q378
                      refine Exists.elim (bindQ q364) fun r356 e_ => ?_
                      have q357 := e_.1
                      replace q364 := e_.2
                      have c357 : F51 [.f .f32 e349.store_, .f .f32 e351.store_] = some (.b r356) := tells_eq inj51 (a := (e349.store_, e351.store_)) q357
                      have d383 : w358 = _ := (Option.some.inj q364).symm
                      refine Or.elim (Bool.eq_false_or_eq_true w358) (fun q384 => ?_) (fun q384 => ?_)
                      · first
                        | (simp [d377, d383] at q384; done)
                        | (rw [if_pos q384] at q365
                           try simp only [d377, d383] at q384
                           have d385 : w361 = _ := (Option.some.inj q365).symm
                           first | (simp -implicitDefEqProofs [q366, c354, d377, q378, c357, d383, q384, d385, pT30]; done) | simp -implicitDefEqProofs [q366, c354, d377, q378, c357, d383, q384, d385])
                      · first
                        | (simp [d377, d383] at q384; done)
                        | (rw [if_neg (by rw [q384]; exact Bool.false_ne_true)] at q365
                           try simp only [d377, d383] at q384
                           refine Exists.elim (bindQ q365) fun r359 e_ => ?_
                           have q360 := e_.1
                           replace q365 := e_.2
                           have c360 : F30 [.sl 1 [[.f .f32 e349.heat_.a0_], [.f .f32 e349.heat_.a1_], [.f .f32 e349.heat_.a2_], [.f .f32 e349.heat_.a3_]], .sl 1 [[.f .f32 e351.heat_.a0_], [.f .f32 e351.heat_.a1_], [.f .f32 e351.heat_.a2_], [.f .f32 e351.heat_.a3_]]] = some (.b r359) := tells_eq inj30 (a := ([e349.heat_.a0_, e349.heat_.a1_, e349.heat_.a2_, e349.heat_.a3_], [e351.heat_.a0_, e351.heat_.a1_, e351.heat_.a2_, e351.heat_.a3_])) q360
                           have d386 : w361 = _ := (Option.some.inj q365).symm
                           first | (simp -implicitDefEqProofs [q366, c354, d377, q378, c357, d383, q384, c360, d386, pT30]; done) | simp -implicitDefEqProofs [q366, c354, d377, q378, c357, d383, q384, c360, d386])))) ?_
        refine VW.condB (b := w361) (by simp) (fun g362 => ?_) (fun g362 => ?_)
        · replace h1 := iteT g362 h1
          refine VW.seq ?_
          refine VW.evalA (C := [(30, F30), (51, F51)]) (tm 135 [(4, .b false)]) [some (4, [(pT30 f)]), some (4, [(pT30 g)]), some (8, [[.i .i64 e349.a_, .i .i64 e349.b_, .f .f32 e349.lead_, .f .f32 e349.store_, .f .f32 e349.heat_.a0_, .f .f32 e349.heat_.a1_, .f .f32 e349.heat_.a2_, .f .f32 e349.heat_.a3_]]), some (8, [[.i .i64 e351.a_, .i .i64 e351.b_, .f .f32 e351.lead_, .f .f32 e351.store_, .f .f32 e351.heat_.a0_, .f .f32 e351.heat_.a1_, .f .f32 e351.heat_.a2_, .f .f32 e351.heat_.a3_]])] [] ⟨.inl ok30, .inl ok51, trivial⟩ (by kernel_rfl) (by first | (simp -implicitDefEqProofs; done) | simp -implicitDefEqProofs [pT30]) ?_
          have e_ := leafR h1
          subst w_2
          obtain rfl := leafS h
          refine VW.ret (VRet.fin ?_)
          first | (simp [eB26]; done) | simp [eB26, pT30]
        · replace h1 := iteF g362 h1
          refine VW.skip ?_
          refine VW.evalA (C := [(30, F30), (51, F51)]) (tm 135 [(2, .ptr 0 0 0), (3, .ptr 1 0 0), (44, .sl 8 (rows cT132 f.walls_)), (45, .i .i64 (f.walls_.length : Int)), (46, .i .i64 (aI .i64 x_347 1))]) [some (4, [(pT30 f)]), some (4, [(pT30 g)]), some (8, [[.i .i64 e349.a_, .i .i64 e349.b_, .f .f32 e349.lead_, .f .f32 e349.store_, .f .f32 e349.heat_.a0_, .f .f32 e349.heat_.a1_, .f .f32 e349.heat_.a2_, .f .f32 e349.heat_.a3_]]), some (8, [[.i .i64 e351.a_, .i .i64 e351.b_, .f .f32 e351.lead_, .f .f32 e351.store_, .f .f32 e351.heat_.a0_, .f .f32 e351.heat_.a1_, .f .f32 e351.heat_.a2_, .f .f32 e351.heat_.a3_]])] [] ⟨.inl ok30, .inl ok51, trivial⟩ (by kernel_rfl) (by first | (simp -implicitDefEqProofs; done) | simp -implicitDefEqProofs [pT30]) ?_
          exact (show ∃ _, _ from ⟨aI .i64 x_347 1, leafL h1, (Ent.to 2 (by simp [fgt]) (by first | (simp; done) | simp [pT30]) (by simp) (by simp [bndT, bndV]) (by simp [bndM, bndV]))⟩)
      · replace h1 := iteF g348 h1
        refine VW.exit ?_
        have e_ := leafR h1
        subst w_2
        exact (show ∃ _, _ from ⟨(), h, (Ent.to 2 (by simp [fgt]) (by first | (simp; done) | simp [pT30]) (by simp) (by simp [bndT, bndV]) (by simp [bndM, bndV]))⟩)
    · rintro _ h
      replace h : (g26_j1 f g).bind _ = _ := h
      rw [g26_j1] at h
      refine VW.join (fun (v : Unit) => (⟨(tm 135 []), [some (4, [(pT30 f)]), some (4, [(pT30 g)])], []⟩ : VS)) (fun v => (g26_j2).bind some = some r) ?_ ?_
      · refine VW.seq ?_
        refine VW.evalA (C := [(30, F30), (51, F51)]) (tm 135 [(3, .ptr 1 0 0), (94, .sl 4 (rows cT134 f.panes_)), (95, .i .i64 (f.panes_.length : Int)), (96, .i .i64 0)]) [some (4, [(pT30 f)]), some (4, [(pT30 g)])] [] ⟨.inl ok30, .inl ok51, trivial⟩ (by kernel_rfl) (by first | (simp -implicitDefEqProofs; done) | simp -implicitDefEqProofs [pT30]) ?_
        refine VW.block ?_
        obtain ⟨w_1, hw_1, h⟩ := bindE h
        refine VW.loopO (fun (x : Int) => (⟨(tm 135 [(3, .ptr 1 0 0), (94, .sl 4 (rows cT134 f.panes_)), (95, .i .i64 (f.panes_.length : Int)), (96, .i .i64 x)]), [some (4, [(pT30 f)]), some (4, [(pT30 g)])], []⟩ : VS)) hw_1 (Ent.to 2 (by simp [fgt]) (by first | (simp; done) | simp [pT30]) (by simp) (by simp [bndT, bndV]) (by simp [bndM, bndV])) ?_
        rintro n_1 x_244 h1
        rw [g26_L1] at h1
        refine VW.seq ?_
        refine VW.evalA (C := [(30, F30), (51, F51)]) (tm 135 [(3, .ptr 1 0 0), (94, .sl 4 (rows cT134 f.panes_)), (95, .i .i64 (f.panes_.length : Int)), (96, .i .i64 x_244), (97, .b (ltI x_244 (f.panes_.length : Int)))]) [some (4, [(pT30 f)]), some (4, [(pT30 g)])] [] ⟨.inl ok30, .inl ok51, trivial⟩ (by kernel_rfl) (by first | (simp -implicitDefEqProofs; done) | simp -implicitDefEqProofs [pT30]) ?_
        refine VW.seq ?_
        refine VW.condB (b := ltI x_244 (f.panes_.length : Int)) (by simp) (fun g245 => ?_) (fun g245 => ?_)
        · replace h1 := iteT g245 h1
          refine VW.skip ?_
          refine VW.seq ?_
          refine VW.block ?_
          refine VW.seq ?_
          obtain ⟨e246, q247, h1⟩ := bindE h1
          obtain ⟨f247a, f247b, f247c, f247d⟩ := idx_some q247
          refine VW.evalA (C := [(30, F30), (51, F51)]) (tm 135 [(3, .ptr 1 0 0), (8, .i .i64 x_244), (9, .ptr 2 0 0), (94, .sl 4 (rows cT134 f.panes_)), (95, .i .i64 (f.panes_.length : Int)), (96, .i .i64 x_244)]) [some (4, [(pT30 f)]), some (4, [(pT30 g)]), some (4, [[.i .i64 e246.a_, .i .i64 e246.b_, .f .f32 e246.lead_, .f .f32 e246.sun_]])] [] ⟨.inl ok30, .inl ok51, trivial⟩ (by kernel_rfl) (by first | (simp -implicitDefEqProofs [f247a, f247b, f247c, f247d]; done) | simp -implicitDefEqProofs [f247a, f247b, f247c, f247d, pT30]) ?_
          refine VW.seq ?_
          obtain ⟨e248, q249, h1⟩ := bindE h1
          obtain ⟨f249a, f249b, f249c, f249d⟩ := idx_some q249
          refine VW.evalA (C := [(30, F30), (51, F51)]) (tm 135 [(3, .ptr 1 0 0), (9, .ptr 2 0 0), (10, .ptr 3 0 0), (94, .sl 4 (rows cT134 f.panes_)), (95, .i .i64 (f.panes_.length : Int)), (96, .i .i64 x_244)]) [some (4, [(pT30 f)]), some (4, [(pT30 g)]), some (4, [[.i .i64 e246.a_, .i .i64 e246.b_, .f .f32 e246.lead_, .f .f32 e246.sun_]]), some (4, [[.i .i64 e248.a_, .i .i64 e248.b_, .f .f32 e248.lead_, .f .f32 e248.sun_]])] [] ⟨.inl ok30, .inl ok51, trivial⟩ (by kernel_rfl) (by first | (simp -implicitDefEqProofs [f249a, f249b, f249c, f249d]; done) | simp -implicitDefEqProofs [f249a, f249b, f249c, f249d, pT30]) ?_
          refine VW.seq ?_
          obtain ⟨w252, q257, h1⟩ := bindE h1
          obtain ⟨w255, q258, h1⟩ := bindE h1
          refine VW.evalA (C := [(30, F30), (51, F51)]) (tm 135 [(3, .ptr 1 0 0), (94, .sl 4 (rows cT134 f.panes_)), (95, .i .i64 (f.panes_.length : Int)), (96, .i .i64 x_244), (133, .b w255)]) [some (4, [(pT30 f)]), some (4, [(pT30 g)]), some (4, [[.i .i64 e246.a_, .i .i64 e246.b_, .f .f32 e246.lead_, .f .f32 e246.sun_]]), some (4, [[.i .i64 e248.a_, .i .i64 e248.b_, .f .f32 e248.lead_, .f .f32 e248.sun_]])] [] ⟨.inl ok30, .inl ok51, trivial⟩ (by kernel_rfl) (by
              refine Or.elim (Bool.eq_false_or_eq_true ((!eqI e246.a_ e248.a_) || (!eqI e246.b_ e248.b_))) (fun q259 => ?_) (fun q259 => ?_)
              · first
                | (simp at q259; done)
                | (rw [if_pos q259] at q257
                   have d260 : w252 = _ := (Option.some.inj q257).symm
                   refine Or.elim (Bool.eq_false_or_eq_true w252) (fun q261 => ?_) (fun q261 => ?_)
                   · first
                     | (simp [d260] at q261; done)
                     | (rw [if_pos q261] at q258
                        try simp only [d260] at q261
                        have d262 : w255 = _ := (Option.some.inj q258).symm
                        first | (simp -implicitDefEqProofs [q259, d260, q261, d262, pT30]; done) | simp -implicitDefEqProofs [q259, d260, q261, d262])
                   · first
                     | (simp [d260] at q261; done)
                     | (rw [if_neg (by rw [q261]; exact Bool.false_ne_true)] at q258
                        try simp only [d260] at q261
                        refine Exists.elim (bindQ q258) fun r253 e_ => ?_
                        have q254 := e_.1
                        replace q258 := e_.2
                        have c254 : F51 [.f .f32 e246.sun_, .f .f32 e248.sun_] = some (.b r253) := tells_eq inj51 (a := (e246.sun_, e248.sun_)) q254
                        have d263 : w255 = _ := (Option.some.inj q258).symm
                        first | (simp -implicitDefEqProofs [q259, d260, q261, c254, d263, pT30]; done) | simp -implicitDefEqProofs [q259, d260, q261, c254, d263]))
              · first
                | (simp at q259; done)
                | (rw [if_neg (by rw [q259]; exact Bool.false_ne_true)] at q257
                   refine Exists.elim (bindQ q257) fun r250 e_ => ?_
                   have q251 := e_.1
                   replace q257 := e_.2
                   have c251 : F51 [.f .f32 e246.lead_, .f .f32 e248.lead_] = some (.b r250) := tells_eq inj51 (a := (e246.lead_, e248.lead_)) q251
                   have d264 : w252 = _ := (Option.some.inj q257).symm
                   refine Or.elim (Bool.eq_false_or_eq_true w252) (fun q265 => ?_) (fun q265 => ?_)
                   · first
                     | (simp [d264] at q265; done)
                     | (rw [if_pos q265] at q258
                        try simp only [d264] at q265
                        have d266 : w255 = _ := (Option.some.inj q258).symm
                        first | (simp -implicitDefEqProofs [q259, c251, d264, q265, d266, pT30]; done) | simp -implicitDefEqProofs [q259, c251, d264, q265, d266])
                   · first
                     | (simp [d264] at q265; done)
                     | (rw [if_neg (by rw [q265]; exact Bool.false_ne_true)] at q258
                        try simp only [d264] at q265
                        refine Exists.elim (bindQ q258) fun r253 e_ => ?_
                        have q254 := e_.1
                        replace q258 := e_.2
                        have c254 : F51 [.f .f32 e246.sun_, .f .f32 e248.sun_] = some (.b r253) := tells_eq inj51 (a := (e246.sun_, e248.sun_)) q254
                        have d267 : w255 = _ := (Option.some.inj q258).symm
                        first | (simp -implicitDefEqProofs [q259, c251, d264, q265, c254, d267, pT30]; done) | simp -implicitDefEqProofs [q259, c251, d264, q265, c254, d267]))) ?_
          refine VW.condB (b := w255) (by simp) (fun g256 => ?_) (fun g256 => ?_)
          · replace h1 := iteT g256 h1
            refine VW.seq ?_
            refine VW.evalA (C := [(30, F30), (51, F51)]) (tm 135 [(4, .b false)]) [some (4, [(pT30 f)]), some (4, [(pT30 g)]), some (4, [[.i .i64 e246.a_, .i .i64 e246.b_, .f .f32 e246.lead_, .f .f32 e246.sun_]]), some (4, [[.i .i64 e248.a_, .i .i64 e248.b_, .f .f32 e248.lead_, .f .f32 e248.sun_]])] [] ⟨.inl ok30, .inl ok51, trivial⟩ (by kernel_rfl) (by first | (simp -implicitDefEqProofs; done) | simp -implicitDefEqProofs [pT30]) ?_
            have e_ := leafR h1
            subst w_1
            obtain rfl := leafS h
            refine VW.ret (VRet.fin ?_)
            first | (simp [eB26]; done) | simp [eB26, pT30]
          · replace h1 := iteF g256 h1
            refine VW.skip ?_
            refine VW.evalA (C := [(30, F30), (51, F51)]) (tm 135 [(3, .ptr 1 0 0), (94, .sl 4 (rows cT134 f.panes_)), (95, .i .i64 (f.panes_.length : Int)), (96, .i .i64 (aI .i64 x_244 1))]) [some (4, [(pT30 f)]), some (4, [(pT30 g)]), some (4, [[.i .i64 e246.a_, .i .i64 e246.b_, .f .f32 e246.lead_, .f .f32 e246.sun_]]), some (4, [[.i .i64 e248.a_, .i .i64 e248.b_, .f .f32 e248.lead_, .f .f32 e248.sun_]])] [] ⟨.inl ok30, .inl ok51, trivial⟩ (by kernel_rfl) (by first | (simp -implicitDefEqProofs; done) | simp -implicitDefEqProofs [pT30]) ?_
            exact (show ∃ _, _ from ⟨aI .i64 x_244 1, leafL h1, (Ent.to 2 (by simp [fgt]) (by first | (simp; done) | simp [pT30]) (by simp) (by simp [bndT, bndV]) (by simp [bndM, bndV]))⟩)
        · replace h1 := iteF g245 h1
          refine VW.exit ?_
          have e_ := leafR h1
          subst w_1
          exact (show ∃ _, _ from ⟨(), h, (Ent.to 2 (by simp [fgt]) (by first | (simp; done) | simp [pT30]) (by simp) (by simp [bndT, bndV]) (by simp [bndM, bndV]))⟩)
      · rintro _ h
        replace h : (g26_j2).bind _ = _ := h
        rw [g26_j2] at h
        refine VW.seq ?_
        refine VW.evalA (C := [(30, F30), (51, F51)]) (tm 135 [(4, .b true)]) [some (4, [(pT30 f)]), some (4, [(pT30 g)])] [] ⟨.inl ok30, .inl ok51, trivial⟩ (by kernel_rfl) (by first | (simp -implicitDefEqProofs; done) | simp -implicitDefEqProofs [pT30]) ?_
        obtain rfl := leafS h
        refine VW.ret (VRet.fin ?_)
        first | (simp [eB26]; done) | simp [eB26, pT30]
noncomputable def g27_j1 : Option (Bool) :=
  some true
noncomputable def g27_L1 (c : List T105) (d : List T105) : (Int) → Option ((Int) ⊕ ((Unit) ⊕ (Bool)))
  | x_70 =>
    if ltI x_70 (c.length : Int) = true then
      (idx c x_70).bind fun e72 =>
      (idx d x_70).bind fun e74 =>
      (if (!eqI e72.smoky_ e74.smoky_) = true then some true else (g30 [e72.burnt_, e72.steam_, e72.up_, e72.lost_] [e74.burnt_, e74.steam_, e74.up_, e74.lost_]).bind fun r76 => some (!r76)).bind fun w78 =>
      if w78 = true then
        some (.inr (.inr false))
      else
        some (.inl (aI .i64 x_70 1))
    else
      some (.inr (.inl ()))
noncomputable def g27 (c : List T105) (d : List T105) : Option (Bool) :=
  if (!eqI (c.length : Int) (d.length : Int)) = true then
    some false
  else
    (loopO (g27_L1 c d) 0).bind fun w => match w with
      | .inl y => g27_j1
      | .inr r => some r
def eA27 (a : (List T105) × (List T105)) : List V := [.sl 5 (rows cT105 a.1), .sl 5 (rows cT105 a.2)]
def eB27 (r : Bool) : V := .b r
theorem inj27 (a a' : (List T105) × (List T105)) (h : eA27 a = eA27 a') : a = a' := by
  obtain ⟨i783, i784⟩ := a
  obtain ⟨i785, i786⟩ := a'
  simp only [eA27, List.cons.injEq, V.i.injEq, V.b.injEq, V.f.injEq, V.str.injEq, V.sl.injEq, V.agg.injEq, V.cptr.injEq, true_and, and_true] at h
  simp_all [ri cT105_inj]
noncomputable def F27 : List V → Option V := tells (fun a => g27 a.1 a.2) eA27 eB27
set_option maxRecDepth 100000 in
set_option maxHeartbeats 4000000 in
/- loop.example/g01229/impl.SameChimney -/
theorem ok27 : Tells Try.prog 27 F27 := by
  refine Tells.of (by kernel_rfl) ?_
  rintro ⟨c, d⟩ r h
  refine VCalls.nl (VCalls.of Try.func27 rfl rfl rfl ?_)
  rw [tm_init]
  simp only [eA27, en, List.length_cons, List.length_nil, Nat.reduceAdd, Nat.reduceSub]
  replace h : (g27 c d).bind some = some r := bindS h
  rw [g27] at h
  refine VW.seq ?_
  refine VW.evalA (C := [(30, F30)]) (tm 52 [(0, .sl 5 (rows cT105 c)), (1, .sl 5 (rows cT105 d))]) [] [] ⟨.inl ok30, trivial⟩ (by kernel_rfl) (by simp -implicitDefEqProofs) ?_
  refine VW.seq ?_
  refine VW.seq ?_
  refine VW.evalA (C := [(30, F30)]) (tm 52 [(0, .sl 5 (rows cT105 c)), (1, .sl 5 (rows cT105 d)), (12, .b (!eqI (c.length : Int) (d.length : Int)))]) [] [] ⟨.inl ok30, trivial⟩ (by kernel_rfl) (by simp -implicitDefEqProofs) ?_
  refine VW.condB (b := (!eqI (c.length : Int) (d.length : Int))) (by simp) (fun g1 => ?_) (fun g1 => ?_)
  · replace h := iteT g1 h
    refine VW.seq ?_
    refine VW.evalA (C := [(30, F30)]) (tm 52 [(4, .b false)]) [] [] ⟨.inl ok30, trivial⟩ (by kernel_rfl) (by simp -implicitDefEqProofs) ?_
    obtain rfl := leafS h
    refine VW.ret (VRet.fin ?_)
    simp [eB27]
  · replace h := iteF g1 h
    refine VW.skip ?_
    refine VW.join (fun (v : Unit) => (⟨(tm 52 []), [], []⟩ : VS)) (fun v => (g27_j1).bind some = some r) ?_ ?_
    · refine VW.seq ?_
      refine VW.evalA (C := [(30, F30)]) (tm 52 [(1, .sl 5 (rows cT105 d)), (13, .sl 5 (rows cT105 c)), (14, .i .i64 (c.length : Int)), (15, .i .i64 0)]) [] [] ⟨.inl ok30, trivial⟩ (by kernel_rfl) (by simp -implicitDefEqProofs) ?_
      refine VW.block ?_
      obtain ⟨w_1, hw_1, h⟩ := bindE h
      refine VW.loopO (fun (x : Int) => (⟨(tm 52 [(1, .sl 5 (rows cT105 d)), (13, .sl 5 (rows cT105 c)), (14, .i .i64 (c.length : Int)), (15, .i .i64 x)]), [], []⟩ : VS)) hw_1 (Ent.to 0 (by simp [fgt]) (by simp) (by simp) (by simp [bndT, bndV]) (by simp [bndM, bndV])) ?_
      rintro n_1 x_70 h1
      rw [g27_L1] at h1
      refine VW.seq ?_
      refine VW.evalA (C := [(30, F30)]) (tm 52 [(1, .sl 5 (rows cT105 d)), (13, .sl 5 (rows cT105 c)), (14, .i .i64 (c.length : Int)), (15, .i .i64 x_70), (16, .b (ltI x_70 (c.length : Int)))]) [] [] ⟨.inl ok30, trivial⟩ (by kernel_rfl) (by simp -implicitDefEqProofs) ?_
      refine VW.seq ?_
      refine VW.condB (b := ltI x_70 (c.length : Int)) (by simp) (fun g71 => ?_) (fun g71 => ?_)
      · replace h1 := iteT g71 h1
        refine VW.skip ?_
        refine VW.seq ?_
        refine VW.block ?_
        refine VW.seq ?_
        obtain ⟨e72, q73, h1⟩ := bindE h1
        obtain ⟨f73a, f73b, f73c, f73d⟩ := idx_some q73
        refine VW.evalA (C := [(30, F30)]) (tm 52 [(1, .sl 5 (rows cT105 d)), (5, .i .i64 x_70), (6, .ptr 0 0 0), (13, .sl 5 (rows cT105 c)), (14, .i .i64 (c.length : Int)), (15, .i .i64 x_70)]) [some (5, [[.f .f32 e72.burnt_, .f .f32 e72.steam_, .f .f32 e72.up_, .f .f32 e72.lost_, .i .i64 e72.smoky_]])] [] ⟨.inl ok30, trivial⟩ (by kernel_rfl) (by simp -implicitDefEqProofs [f73a, f73b, f73c, f73d]) ?_
        refine VW.seq ?_
        obtain ⟨e74, q75, h1⟩ := bindE h1
        obtain ⟨f75a, f75b, f75c, f75d⟩ := idx_some q75
        refine VW.evalA (C := [(30, F30)]) (tm 52 [(1, .sl 5 (rows cT105 d)), (6, .ptr 0 0 0), (7, .ptr 1 0 0), (13, .sl 5 (rows cT105 c)), (14, .i .i64 (c.length : Int)), (15, .i .i64 x_70)]) [some (5, [[.f .f32 e72.burnt_, .f .f32 e72.steam_, .f .f32 e72.up_, .f .f32 e72.lost_, .i .i64 e72.smoky_]]), some (5, [[.f .f32 e74.burnt_, .f .f32 e74.steam_, .f .f32 e74.up_, .f .f32 e74.lost_, .i .i64 e74.smoky_]])] [] ⟨.inl ok30, trivial⟩ (by kernel_rfl) (by simp -implicitDefEqProofs [f75a, f75b, f75c, f75d]) ?_
        refine VW.seq ?_
        obtain ⟨w78, q80, h1⟩ := bindE h1
        refine VW.evalK1 (C := [(30, F30)]) (tm 52 [(1, .sl 5 (rows cT105 d)), (13, .sl 5 (rows cT105 c)), (14, .i .i64 (c.length : Int)), (15, .i .i64 x_70), (50, .b w78)]) [some (5, [[.f .f32 e72.burnt_, .f .f32 e72.steam_, .f .f32 e72.up_, .f .f32 e72.lost_, .i .i64 e72.smoky_]]), some (5, [[.f .f32 e74.burnt_, .f .f32 e74.steam_, .f .f32 e74.up_, .f .f32 e74.lost_, .i .i64 e74.smoky_]])] [] ⟨.inl ok30, trivial⟩ (by kernel_rfl) (by
            refine Or.elim (Bool.eq_false_or_eq_true (!eqI e72.smoky_ e74.smoky_)) (fun q81 => ?_) (fun q81 => ?_)
            · first
              | (simp at q81; done)
              | (rw [if_pos q81] at q80
                 have d82 : w78 = _ := (Option.some.inj q80).symm
                 simp -implicitDefEqProofs [q81, d82])
            · first
              | (simp at q81; done)
              | (rw [if_neg (by rw [q81]; exact Bool.false_ne_true)] at q80
                 refine Exists.elim (bindQ q80) fun r76 e_ => ?_
                 have q77 := e_.1
                 replace q80 := e_.2
                 have c77 : F30 [.sl 1 [[.f .f32 e72.burnt_], [.f .f32 e72.steam_], [.f .f32 e72.up_], [.f .f32 e72.lost_]], .sl 1 [[.f .f32 e74.burnt_], [.f .f32 e74.steam_], [.f .f32 e74.up_], [.f .f32 e74.lost_]]] = some (.b r76) := tells_eq inj30 (a := ([e72.burnt_, e72.steam_, e72.up_, e72.lost_], [e74.burnt_, e74.steam_, e74.up_, e74.lost_])) q77
                 have d83 : w78 = _ := (Option.some.inj q80).symm
                 simp -implicitDefEqProofs [q81, c77, d83])) (by simp [bndT, bndV]) (by simp [bndM, bndV]) (by simp [bndT, bndV]) ?_
        refine VW.condB (b := w78) (by simp) (fun g79 => ?_) (fun g79 => ?_)
        · replace h1 := iteT g79 h1
          refine VW.seq ?_
          refine VW.evalA (C := [(30, F30)]) (tm 52 [(4, .b false)]) [some (5, [[.f .f32 e72.burnt_, .f .f32 e72.steam_, .f .f32 e72.up_, .f .f32 e72.lost_, .i .i64 e72.smoky_]]), some (5, [[.f .f32 e74.burnt_, .f .f32 e74.steam_, .f .f32 e74.up_, .f .f32 e74.lost_, .i .i64 e74.smoky_]])] [] ⟨.inl ok30, trivial⟩ (by kernel_rfl) (by simp -implicitDefEqProofs) ?_
          have e_ := leafR h1
          subst w_1
          obtain rfl := leafS h
          refine VW.ret (VRet.fin ?_)
          simp [eB27]
        · replace h1 := iteF g79 h1
          refine VW.skip ?_
          refine VW.evalA (C := [(30, F30)]) (tm 52 [(1, .sl 5 (rows cT105 d)), (13, .sl 5 (rows cT105 c)), (14, .i .i64 (c.length : Int)), (15, .i .i64 (aI .i64 x_70 1))]) [some (5, [[.f .f32 e72.burnt_, .f .f32 e72.steam_, .f .f32 e72.up_, .f .f32 e72.lost_, .i .i64 e72.smoky_]]), some (5, [[.f .f32 e74.burnt_, .f .f32 e74.steam_, .f .f32 e74.up_, .f .f32 e74.lost_, .i .i64 e74.smoky_]])] [] ⟨.inl ok30, trivial⟩ (by kernel_rfl) (by simp -implicitDefEqProofs) ?_
          exact (show ∃ _, _ from ⟨aI .i64 x_70 1, leafL h1, (Ent.to 0 (by simp [fgt]) (by simp) (by simp) (by simp [bndT, bndV]) (by simp [bndM, bndV]))⟩)
      · replace h1 := iteF g71 h1
        refine VW.exit ?_
        have e_ := leafR h1
        subst w_1
        exact (show ∃ _, _ from ⟨(), h, (Ent.to 0 (by simp [fgt]) (by simp) (by simp) (by simp [bndT, bndV]) (by simp [bndM, bndV]))⟩)
    · rintro _ h
      replace h : (g27_j1).bind _ = _ := h
      rw [g27_j1] at h
      refine VW.seq ?_
      refine VW.evalA (C := [(30, F30)]) (tm 52 [(4, .b true)]) [] [] ⟨.inl ok30, trivial⟩ (by kernel_rfl) (by simp -implicitDefEqProofs) ?_
      obtain rfl := leafS h
      refine VW.ret (VRet.fin ?_)
      simp [eB27]
noncomputable def g28_j1 : Option (Bool) :=
  some true
noncomputable def g28_L1 (s1 : List ByteArray) (s2 : List ByteArray) : (Int) → Option ((Int) ⊕ ((Unit) ⊕ (Bool)))
  | x_35 =>
    if ltI x_35 (s1.length : Int) = true then
      (idx s1 x_35).bind fun e37 =>
      (idx s2 x_35).bind fun e39 =>
      if (!eqS e37 e39) = true then
        some (.inr (.inr false))
      else
        some (.inl (aI .i64 x_35 1))
    else
      some (.inr (.inl ()))
noncomputable def g28 (s1 : List ByteArray) (s2 : List ByteArray) : Option (Bool) :=
  if (!eqI (s1.length : Int) (s2.length : Int)) = true then
    some false
  else
    (loopO (g28_L1 s1 s2) 0).bind fun w => match w with
      | .inl y => g28_j1
      | .inr r => some r
def eA28 (a : (List ByteArray) × (List ByteArray)) : List V := [.sl 1 (rows cs_ a.1), .sl 1 (rows cs_ a.2)]
def eB28 (r : Bool) : V := .b r
theorem inj28 (a a' : (List ByteArray) × (List ByteArray)) (h : eA28 a = eA28 a') : a = a' := by
  obtain ⟨i787, i788⟩ := a
  obtain ⟨i789, i790⟩ := a'
  simp only [eA28, List.cons.injEq, V.i.injEq, V.b.injEq, V.f.injEq, V.str.injEq, V.sl.injEq, V.agg.injEq, V.cptr.injEq, true_and, and_true] at h
  simp_all [ri cs__inj]
noncomputable def F28 : List V → Option V := tells (fun a => g28 a.1 a.2) eA28 eB28
set_option maxRecDepth 100000 in
set_option maxHeartbeats 4000000 in
/- slices.Equal[[]string,string] -/
theorem ok28 : Tells Try.prog 28 F28 := by
  refine Tells.of (by kernel_rfl) ?_
  rintro ⟨s1, s2⟩ r h
  refine VCalls.nl (VCalls.of Try.func28 rfl rfl rfl ?_)
  rw [tm_init]
  simp only [eA28, en, List.length_cons, List.length_nil, Nat.reduceAdd, Nat.reduceSub]
  replace h : (g28 s1 s2).bind some = some r := bindS h
  rw [g28] at h
  refine VW.seq ?_
  refine VW.evalA (C := []) (tm 26 [(0, .sl 1 (rows cs_ s1)), (1, .sl 1 (rows cs_ s2))]) [] [] trivial (by kernel_rfl) (by simp -implicitDefEqProofs) ?_
  refine VW.seq ?_
  refine VW.seq ?_
  refine VW.evalA (C := []) (tm 26 [(0, .sl 1 (rows cs_ s1)), (1, .sl 1 (rows cs_ s2)), (10, .b (!eqI (s1.length : Int) (s2.length : Int)))]) [] [] trivial (by kernel_rfl) (by simp -implicitDefEqProofs) ?_
  refine VW.condB (b := (!eqI (s1.length : Int) (s2.length : Int))) (by simp) (fun g1 => ?_) (fun g1 => ?_)
  · replace h := iteT g1 h
    refine VW.seq ?_
    refine VW.evalA (C := []) (tm 26 [(4, .b false)]) [] [] trivial (by kernel_rfl) (by simp -implicitDefEqProofs) ?_
    obtain rfl := leafS h
    refine VW.ret (VRet.fin ?_)
    simp [eB28]
  · replace h := iteF g1 h
    refine VW.skip ?_
    refine VW.join (fun (v : Unit) => (⟨(tm 26 []), [], []⟩ : VS)) (fun v => (g28_j1).bind some = some r) ?_ ?_
    · refine VW.seq ?_
      refine VW.evalA (C := []) (tm 26 [(0, .sl 1 (rows cs_ s1)), (1, .sl 1 (rows cs_ s2)), (12, .i .i64 (s1.length : Int)), (13, .i .i64 0)]) [] [] trivial (by kernel_rfl) (by simp -implicitDefEqProofs) ?_
      refine VW.block ?_
      obtain ⟨w_1, hw_1, h⟩ := bindE h
      refine VW.loopO (fun (x : Int) => (⟨(tm 26 [(0, .sl 1 (rows cs_ s1)), (1, .sl 1 (rows cs_ s2)), (12, .i .i64 (s1.length : Int)), (13, .i .i64 x)]), [], []⟩ : VS)) hw_1 (Ent.to 0 (by simp [fgt]) (by simp) (by simp) (by simp [bndT, bndV]) (by simp [bndM, bndV])) ?_
      rintro n_1 x_35 h1
      rw [g28_L1] at h1
      refine VW.seq ?_
      refine VW.evalA (C := []) (tm 26 [(0, .sl 1 (rows cs_ s1)), (1, .sl 1 (rows cs_ s2)), (12, .i .i64 (s1.length : Int)), (13, .i .i64 x_35), (14, .b (ltI x_35 (s1.length : Int)))]) [] [] trivial (by kernel_rfl) (by simp -implicitDefEqProofs) ?_
      refine VW.seq ?_
      refine VW.condB (b := ltI x_35 (s1.length : Int)) (by simp) (fun g36 => ?_) (fun g36 => ?_)
      · replace h1 := iteT g36 h1
        refine VW.skip ?_
        refine VW.seq ?_
        refine VW.block ?_
        refine VW.seq ?_
        refine VW.evalA (C := []) (tm 26 [(0, .sl 1 (rows cs_ s1)), (1, .sl 1 (rows cs_ s2)), (5, .i .i64 x_35), (12, .i .i64 (s1.length : Int)), (13, .i .i64 x_35)]) [] [] trivial (by kernel_rfl) (by simp -implicitDefEqProofs) ?_
        refine VW.seq ?_
        obtain ⟨e37, q38, h1⟩ := bindE h1
        obtain ⟨f38a, f38b, f38c, f38d⟩ := idx_some q38
        obtain ⟨e39, q40, h1⟩ := bindE h1
        obtain ⟨f40a, f40b, f40c, f40d⟩ := idx_some q40
        refine VW.evalDA (C := []) (tm 26 [(0, .sl 1 (rows cs_ s1)), (1, .sl 1 (rows cs_ s2)), (12, .i .i64 (s1.length : Int)), (13, .i .i64 x_35), (24, .b (!eqS e37 e39))]) [] [] trivial mixed (by kernel_rfl) (by simp -implicitDefEqProofs [f38a, f38b, f38c, f38d, f40a, f40b, f40c, f40d]) ?_
        refine VW.condB (b := (!eqS e37 e39)) (by simp) (fun g41 => ?_) (fun g41 => ?_)
        · replace h1 := iteT g41 h1
          refine VW.seq ?_
          refine VW.evalA (C := []) (tm 26 [(4, .b false)]) [] [] trivial (by kernel_rfl) (by simp -implicitDefEqProofs) ?_
          have e_ := leafR h1
          subst w_1
          obtain rfl := leafS h
          refine VW.ret (VRet.fin ?_)
          simp [eB28]
        · replace h1 := iteF g41 h1
          refine VW.skip ?_
          refine VW.evalA (C := []) (tm 26 [(0, .sl 1 (rows cs_ s1)), (1, .sl 1 (rows cs_ s2)), (12, .i .i64 (s1.length : Int)), (13, .i .i64 (aI .i64 x_35 1))]) [] [] trivial (by kernel_rfl) (by simp -implicitDefEqProofs) ?_
          exact (show ∃ _, _ from ⟨aI .i64 x_35 1, leafL h1, (Ent.to 0 (by simp [fgt]) (by simp) (by simp) (by simp [bndT, bndV]) (by simp [bndM, bndV]))⟩)
      · replace h1 := iteF g36 h1
        refine VW.exit ?_
        have e_ := leafR h1
        subst w_1
        exact (show ∃ _, _ from ⟨(), h, (Ent.to 0 (by simp [fgt]) (by simp) (by simp) (by simp [bndT, bndV]) (by simp [bndM, bndV]))⟩)
    · rintro _ h
      replace h : (g28_j1).bind _ = _ := h
      rw [g28_j1] at h
      refine VW.seq ?_
      refine VW.evalA (C := []) (tm 26 [(4, .b true)]) [] [] trivial (by kernel_rfl) (by simp -implicitDefEqProofs) ?_
      obtain rfl := leafS h
      refine VW.ret (VRet.fin ?_)
      simp [eB28]
noncomputable def g52 (w_ : T147) (v_ : T147) : Option (Bool) :=
  (g30 [w_.wet_.a0_, w_.wet_.a1_, w_.wet_.a2_, w_.wet_.a3_, w_.wet_.a4_, w_.wet_.a5_] [v_.wet_.a0_, v_.wet_.a1_, v_.wet_.a2_, v_.wet_.a3_, v_.wet_.a4_, v_.wet_.a5_]).bind fun r1 =>
  (if r1 = true then (g30 [w_.heat_.a0_, w_.heat_.a1_, w_.heat_.a2_, w_.heat_.a3_, w_.heat_.a4_, w_.heat_.a5_] [v_.heat_.a0_, v_.heat_.a1_, v_.heat_.a2_, v_.heat_.a3_, v_.heat_.a4_, v_.heat_.a5_]).bind fun r3 => some r3 else some false).bind fun w5 =>
  (if w5 = true then (g30 [w_.fuel_.a0_, w_.fuel_.a1_, w_.fuel_.a2_, w_.fuel_.a3_, w_.fuel_.a4_, w_.fuel_.a5_] [v_.fuel_.a0_, v_.fuel_.a1_, v_.fuel_.a2_, v_.fuel_.a3_, v_.fuel_.a4_, v_.fuel_.a5_]).bind fun r6 => some r6 else some false).bind fun w8 =>
  some w8
def eA52 (a : T147 × T147) : List V := [.agg (pT147 a.1), .agg (pT147 a.2)]
def eB52 (r : Bool) : V := .b r
theorem inj52 (a a' : T147 × T147) (h : eA52 a = eA52 a') : a = a' := by
  obtain ⟨⟨⟨i791, i792, i793, i794, i795, i796⟩, ⟨i797, i798, i799, i800, i801, i802⟩, ⟨i803, i804, i805, i806, i807, i808⟩⟩, ⟨⟨i809, i810, i811, i812, i813, i814⟩, ⟨i815, i816, i817, i818, i819, i820⟩, ⟨i821, i822, i823, i824, i825, i826⟩⟩⟩ := a
  obtain ⟨⟨⟨i827, i828, i829, i830, i831, i832⟩, ⟨i833, i834, i835, i836, i837, i838⟩, ⟨i839, i840, i841, i842, i843, i844⟩⟩, ⟨⟨i845, i846, i847, i848, i849, i850⟩, ⟨i851, i852, i853, i854, i855, i856⟩, ⟨i857, i858, i859, i860, i861, i862⟩⟩⟩ := a'
  simp only [eA52, pT147, List.cons.injEq, V.i.injEq, V.b.injEq, V.f.injEq, V.str.injEq, V.sl.injEq, V.agg.injEq, V.cptr.injEq, true_and, and_true] at h
  simp_all
noncomputable def F52 : List V → Option V := tells (fun a => g52 a.1 a.2) eA52 eB52
set_option maxRecDepth 100000 in
set_option maxHeartbeats 4000000 in
/- loop.example/g01229/impl.SameWood -/
theorem ok52 : Tells Try.prog 52 F52 := by
  refine Tells.of (by kernel_rfl) ?_
  rintro ⟨w_, v_⟩ r h
  refine VCalls.nl (VCalls.of Try.func52 rfl rfl rfl ?_)
  rw [tm_init]
  simp only [eA52, en, List.length_cons, List.length_nil, Nat.reduceAdd, Nat.reduceSub]
  replace h : (g52 w_ v_).bind some = some r := bindS h
  rw [g52] at h
  refine VW.seq ?_
  refine VW.evalA (C := [(30, F30)]) (tm 24 [(2, .ptr 0 0 0), (3, .ptr 1 0 0)]) [some (18, [(pT147 w_)]), some (18, [(pT147 v_)])] [] ⟨.inl ok30, trivial⟩ (by kernel_rfl) (by first | (simp -implicitDefEqProofs; done) | simp -implicitDefEqProofs [pT147]) ?_
  refine VW.seq ?_
  obtain ⟨r1, q2, h⟩ := bindE h
  have c2 : F30 [.sl 1 [[.f .f32 w_.wet_.a0_], [.f .f32 w_.wet_.a1_], [.f .f32 w_.wet_.a2_], [.f .f32 w_.wet_.a3_], [.f .f32 w_.wet_.a4_], [.f .f32 w_.wet_.a5_]], .sl 1 [[.f .f32 v_.wet_.a0_], [.f .f32 v_.wet_.a1_], [.f .f32 v_.wet_.a2_], [.f .f32 v_.wet_.a3_], [.f .f32 v_.wet_.a4_], [.f .f32 v_.wet_.a5_]]] = some (.b r1) := tells_eq inj30 (a := ([w_.wet_.a0_, w_.wet_.a1_, w_.wet_.a2_, w_.wet_.a3_, w_.wet_.a4_, w_.wet_.a5_], [v_.wet_.a0_, v_.wet_.a1_, v_.wet_.a2_, v_.wet_.a3_, v_.wet_.a4_, v_.wet_.a5_])) q2
  obtain ⟨w5, q9, h⟩ := bindE h
  obtain ⟨w8, q10, h⟩ := bindE h
  refine VW.evalDA (C := [(30, F30)]) (tm 24 [(4, .b w8)]) [some (18, [(pT147 w_)]), some (18, [(pT147 v_)])] [] ⟨.inl ok30, trivial⟩ mixed (by kernel_rfl) (by
      refine Or.elim (Bool.eq_false_or_eq_true r1) (fun q11 => ?_) (fun q11 => ?_)
      · first
        | (simp at q11; done)
        | (rw [if_pos q11] at q9
           refine Exists.elim (bindQ q9) fun r3 e_ => ?_
           have q4 := e_.1
           replace q9 := e_.2
           have c4 : F30 [.sl 1 [[.f .f32 w_.heat_.a0_], [.f .f32 w_.heat_.a1_], [.f .f32 w_.heat_.a2_], [.f .f32 w_.heat_.a3_], [.f .f32 w_.heat_.a4_], [.f .f32 w_.heat_.a5_]], .sl 1 [[.f .f32 v_.heat_.a0_], [.f .f32 v_.heat_.a1_], [.f .f32 v_.heat_.a2_], [.f .f32 v_.heat_.a3_], [.f .f32 v_.heat_.a4_], [.f .f32 v_.heat_.a5_]]] = some (.b r3) := tells_eq inj30 (a := ([w_.heat_.a0_, w_.heat_.a1_, w_.heat_.a2_, w_.heat_.a3_, w_.heat_.a4_, w_.heat_.a5_], [v_.heat_.a0_, v_.heat_.a1_, v_.heat_.a2_, v_.heat_.a3_, v_.heat_.a4_, v_.heat_.a5_])) q4
           have d12 : w5 = _ := (Option.some.inj q9).symm
           refine Or.elim (Bool.eq_false_or_eq_true w5) (fun q13 => ?_) (fun q13 => ?_)
           · first
             | (simp [d12] at q13; done)
             | (rw [if_pos q13] at q10
                try simp only [d12] at q13
                refine Exists.elim (bindQ q10) fun r6 e_ => ?_
                have q7 := e_.1
                replace q10 := e_.2
                have c7 : F30 [.sl 1 [[.f .f32 w_.fuel_.a0_], [.f .f32 w_.fuel_.a1_], [.f .f32 w_.fuel_.a2_], [.f .f32 w_.fuel_.a3_], [.f .f32 w_.fuel_.a4_], [.f .f32 w_.fuel_.a5_]], .sl 1 [[.f .f32 v_.fuel_.a0_], [.f .f32 v_.fuel_.a1_], [.f .f32 v_.fuel_.a2_], [.f .f32 v_.fuel_.a3_], [.f .f32 v_.fuel_.a4_], [.f .f32 v_.fuel_.a5_]]] = some (.b r6) := tells_eq inj30 (a := ([w_.fuel_.a0_, w_.fuel_.a1_, w_.fuel_.a2_, w_.fuel_.a3_, w_.fuel_.a4_, w_.fuel_.a5_], [v_.fuel_.a0_, v_.fuel_.a1_, v_.fuel_.a2_, v_.fuel_.a3_, v_.fuel_.a4_, v_.fuel_.a5_])) q7
                have d14 : w8 = _ := (Option.some.inj q10).symm
                first | (simp -implicitDefEqProofs [c2, q11, c4, d12, q13, c7, d14]; done) | simp -implicitDefEqProofs [c2, q11, c4, d12, q13, c7, d14, pT147])
           · first
             | (simp [d12] at q13; done)
             | (rw [if_neg (by rw [q13]; exact Bool.false_ne_true)] at q10
                try simp only [d12] at q13
                have d15 : w8 = _ := (Option.some.inj q10).symm
                first | (simp -implicitDefEqProofs [c2, q11, c4, d12, q13, d15]; done) | simp -implicitDefEqProofs [c2, q11, c4, d12, q13, d15, pT147]))
      · first
        | (simp at q11; done)
        | (rw [if_neg (by rw [q11]; exact Bool.false_ne_true)] at q9
           have d16 : w5 = _ := (Option.some.inj q9).symm
           refine Or.elim (Bool.eq_false_or_eq_true w5) (fun q17 => ?_) (fun q17 => ?_)
           · first
             | (simp [d16] at q17; done)
             | (rw [if_pos q17] at q10
                try simp only [d16] at q17
                refine Exists.elim (bindQ q10) fun r6 e_ => ?_
                have q7 := e_.1
                replace q10 := e_.2
                have c7 : F30 [.sl 1 [[.f .f32 w_.fuel_.a0_], [.f .f32 w_.fuel_.a1_], [.f .f32 w_.fuel_.a2_], [.f .f32 w_.fuel_.a3_], [.f .f32 w_.fuel_.a4_], [.f .f32 w_.fuel_.a5_]], .sl 1 [[.f .f32 v_.fuel_.a0_], [.f .f32 v_.fuel_.a1_], [.f .f32 v_.fuel_.a2_], [.f .f32 v_.fuel_.a3_], [.f .f32 v_.fuel_.a4_], [.f .f32 v_.fuel_.a5_]]] = some (.b r6) := tells_eq inj30 (a := ([w_.fuel_.a0_, w_.fuel_.a1_, w_.fuel_.a2_, w_.fuel_.a3_, w_.fuel_.a4_, w_.fuel_.a5_], [v_.fuel_.a0_, v_.fuel_.a1_, v_.fuel_.a2_, v_.fuel_.a3_, v_.fuel_.a4_, v_.fuel_.a5_])) q7
                have d18 : w8 = _ := (Option.some.inj q10).symm
                first | (simp -implicitDefEqProofs [c2, q11, d16, q17, c7, d18]; done) | simp -implicitDefEqProofs [c2, q11, d16, q17, c7, d18, pT147])
           · first
             | (simp [d16] at q17; done)
             | (rw [if_neg (by rw [q17]; exact Bool.false_ne_true)] at q10
                try simp only [d16] at q17
                have d19 : w8 = _ := (Option.some.inj q10).symm
                first | (simp -implicitDefEqProofs [c2, q11, d16, q17, d19]; done) | simp -implicitDefEqProofs [c2, q11, d16, q17, d19, pT147]))) ?_
  obtain rfl := leafS h
  refine VW.ret (VRet.fin ?_)
  first | (simp [eB52]; done) | simp [eB52, pT147]
noncomputable def g29_j1 (s : T90) (r_ : T90) : Option (Bool) :=
  (g51 s.box_ r_.box_).bind fun r28 =>
  (if r28 = true then (g51 s.damper_ r_.damper_).bind fun r30 => some r30 else some false).bind fun w32 =>
  (if w32 = true then (g51 s.dust_ r_.dust_).bind fun r33 => some r33 else some false).bind fun w35 =>
  some w35
noncomputable def g29_L1 (s : T90) (r_ : T90) : (Int) → Option ((Int) ⊕ ((Unit) ⊕ (Bool)))
  | x_64 =>
    if ltI x_64 (s.logs_.length : Int) = true then
      (idx s.logs_ x_64).bind fun e66 =>
      (idx r_.logs_ x_64).bind fun e68 =>
      (g52 e66 e68).bind fun r70 =>
      if (!r70) = true then
        some (.inr (.inr false))
      else
        some (.inl (aI .i64 x_64 1))
    else
      some (.inr (.inl ()))
noncomputable def g29 (s : T90) (r_ : T90) : Option (Bool) :=
  if (((!eqI (s.logs_.length : Int) (r_.logs_.length : Int)) || (!eqI s.state_ r_.state_)) || (!eqI s.ash_ r_.ash_)) = true then
    some false
  else
    (loopO (g29_L1 s r_) 0).bind fun w => match w with
      | .inl y => g29_j1 s r_
      | .inr r => some r
def eA29 (a : T90 × T90) : List V := [.agg (pT90 a.1), .agg (pT90 a.2)]
def eB29 (r : Bool) : V := .b r
theorem inj29 (a a' : T90 × T90) (h : eA29 a = eA29 a') : a = a' := by
  obtain ⟨⟨i863, i864, i865, i866, i867, i868⟩, ⟨i869, i870, i871, i872, i873, i874⟩⟩ := a
  obtain ⟨⟨i875, i876, i877, i878, i879, i880⟩, ⟨i881, i882, i883, i884, i885, i886⟩⟩ := a'
  simp only [eA29, pT90, List.cons.injEq, V.i.injEq, V.b.injEq, V.f.injEq, V.str.injEq, V.sl.injEq, V.agg.injEq, V.cptr.injEq, true_and, and_true] at h
  simp_all [ri cT147_inj]
noncomputable def F29 : List V → Option V := tells (fun a => g29 a.1 a.2) eA29 eB29
set_option maxRecDepth 100000 in
set_option maxHeartbeats 4000000 in
/- loop.example/g01229/impl.SameStove -/
theorem ok29 : Tells Try.prog 29 F29 := by
  refine Tells.of (by kernel_rfl) ?_
  rintro ⟨s, r_⟩ r h
  refine VCalls.nl (VCalls.of Try.func29 rfl rfl rfl ?_)
  rw [tm_init]
  simp only [eA29, en, List.length_cons, List.length_nil, Nat.reduceAdd, Nat.reduceSub]
  replace h : (g29 s r_).bind some = some r := bindS h
  rw [g29] at h
  refine VW.seq ?_
  refine VW.evalA (C := [(51, F51), (52, F52)]) (tm 64 [(2, .ptr 0 0 0), (3, .ptr 1 0 0)]) [some (6, [(pT90 s)]), some (6, [(pT90 r_)])] [] ⟨.inl ok51, .inl ok52, trivial⟩ (by kernel_rfl) (by first | (simp -implicitDefEqProofs; done) | simp -implicitDefEqProofs [pT90]) ?_
  refine VW.seq ?_
  refine VW.seq ?_
  refine VW.evalA (C := [(51, F51), (52, F52)]) (tm 64 [(2, .ptr 0 0 0), (3, .ptr 1 0 0), (27, .b (((!eqI (s.logs_.length : Int) (r_.logs_.length : Int)) || (!eqI s.state_ r_.state_)) || (!eqI s.ash_ r_.ash_)))]) [some (6, [(pT90 s)]), some (6, [(pT90 r_)])] [] ⟨.inl ok51, .inl ok52, trivial⟩ (by kernel_rfl) (by first | (simp -implicitDefEqProofs [pT90]; done) | simp -implicitDefEqProofs) ?_
  refine VW.condB (b := (((!eqI (s.logs_.length : Int) (r_.logs_.length : Int)) || (!eqI s.state_ r_.state_)) || (!eqI s.ash_ r_.ash_))) (by simp) (fun g1 => ?_) (fun g1 => ?_)
  · replace h := iteT g1 h
    refine VW.seq ?_
    refine VW.evalA (C := [(51, F51), (52, F52)]) (tm 64 [(4, .b false)]) [some (6, [(pT90 s)]), some (6, [(pT90 r_)])] [] ⟨.inl ok51, .inl ok52, trivial⟩ (by kernel_rfl) (by first | (simp -implicitDefEqProofs; done) | simp -implicitDefEqProofs [pT90]) ?_
    obtain rfl := leafS h
    refine VW.ret (VRet.fin ?_)
    first | (simp [eB29]; done) | simp [eB29, pT90]
  · replace h := iteF g1 h
    refine VW.skip ?_
    refine VW.join (fun (v : Unit) => (⟨(tm 64 [(2, .ptr 0 0 0), (3, .ptr 1 0 0)]), [some (6, [(pT90 s)]), some (6, [(pT90 r_)])], []⟩ : VS)) (fun v => (g29_j1 s r_).bind some = some r) ?_ ?_
    · refine VW.seq ?_
      refine VW.evalA (C := [(51, F51), (52, F52)]) (tm 64 [(2, .ptr 0 0 0), (3, .ptr 1 0 0), (29, .sl 18 (rows cT147 s.logs_)), (30, .i .i64 (s.logs_.length : Int)), (31, .i .i64 0)]) [some (6, [(pT90 s)]), some (6, [(pT90 r_)])] [] ⟨.inl ok51, .inl ok52, trivial⟩ (by kernel_rfl) (by first | (simp -implicitDefEqProofs; done) | simp -implicitDefEqProofs [pT90]) ?_
      refine VW.block ?_
      obtain ⟨w_1, hw_1, h⟩ := bindE h
      refine VW.loopO (fun (x : Int) => (⟨(tm 64 [(2, .ptr 0 0 0), (3, .ptr 1 0 0), (29, .sl 18 (rows cT147 s.logs_)), (30, .i .i64 (s.logs_.length : Int)), (31, .i .i64 x)]), [some (6, [(pT90 s)]), some (6, [(pT90 r_)])], []⟩ : VS)) hw_1 (Ent.to 2 (by simp [fgt]) (by first | (simp; done) | simp [pT90]) (by simp) (by simp [bndT, bndV]) (by simp [bndM, bndV])) ?_
      rintro n_1 x_64 h1
      rw [g29_L1] at h1
      refine VW.seq ?_
      refine VW.evalA (C := [(51, F51), (52, F52)]) (tm 64 [(2, .ptr 0 0 0), (3, .ptr 1 0 0), (29, .sl 18 (rows cT147 s.logs_)), (30, .i .i64 (s.logs_.length : Int)), (31, .i .i64 x_64), (32, .b (ltI x_64 (s.logs_.length : Int)))]) [some (6, [(pT90 s)]), some (6, [(pT90 r_)])] [] ⟨.inl ok51, .inl ok52, trivial⟩ (by kernel_rfl) (by first | (simp -implicitDefEqProofs; done) | simp -implicitDefEqProofs [pT90]) ?_
      refine VW.seq ?_
      refine VW.condB (b := ltI x_64 (s.logs_.length : Int)) (by simp) (fun g65 => ?_) (fun g65 => ?_)
      · replace h1 := iteT g65 h1
        refine VW.skip ?_
        refine VW.seq ?_
        refine VW.block ?_
        refine VW.seq ?_
        obtain ⟨e66, q67, h1⟩ := bindE h1
        obtain ⟨f67a, f67b, f67c, f67d⟩ := idx_some q67
        refine VW.evalA (C := [(51, F51), (52, F52)]) (tm 64 [(2, .ptr 0 0 0), (3, .ptr 1 0 0), (5, .i .i64 x_64), (6, .ptr 2 0 0), (29, .sl 18 (rows cT147 s.logs_)), (30, .i .i64 (s.logs_.length : Int)), (31, .i .i64 x_64)]) [some (6, [(pT90 s)]), some (6, [(pT90 r_)]), some (18, [[.f .f32 e66.wet_.a0_, .f .f32 e66.wet_.a1_, .f .f32 e66.wet_.a2_, .f .f32 e66.wet_.a3_, .f .f32 e66.wet_.a4_, .f .f32 e66.wet_.a5_, .f .f32 e66.heat_.a0_, .f .f32 e66.heat_.a1_, .f .f32 e66.heat_.a2_, .f .f32 e66.heat_.a3_, .f .f32 e66.heat_.a4_, .f .f32 e66.heat_.a5_, .f .f32 e66.fuel_.a0_, .f .f32 e66.fuel_.a1_, .f .f32 e66.fuel_.a2_, .f .f32 e66.fuel_.a3_, .f .f32 e66.fuel_.a4_, .f .f32 e66.fuel_.a5_]])] [] ⟨.inl ok51, .inl ok52, trivial⟩ (by kernel_rfl) (by first | (simp -implicitDefEqProofs [f67a, f67b, f67c, f67d]; done) | simp -implicitDefEqProofs [f67a, f67b, f67c, f67d, pT90]) ?_
        refine VW.seq ?_
        obtain ⟨e68, q69, h1⟩ := bindE h1
        obtain ⟨f69a, f69b, f69c, f69d⟩ := idx_some q69
        obtain ⟨r70, q71, h1⟩ := bindE h1
        have c71 : F52 [.agg [.f .f32 e66.wet_.a0_, .f .f32 e66.wet_.a1_, .f .f32 e66.wet_.a2_, .f .f32 e66.wet_.a3_, .f .f32 e66.wet_.a4_, .f .f32 e66.wet_.a5_, .f .f32 e66.heat_.a0_, .f .f32 e66.heat_.a1_, .f .f32 e66.heat_.a2_, .f .f32 e66.heat_.a3_, .f .f32 e66.heat_.a4_, .f .f32 e66.heat_.a5_, .f .f32 e66.fuel_.a0_, .f .f32 e66.fuel_.a1_, .f .f32 e66.fuel_.a2_, .f .f32 e66.fuel_.a3_, .f .f32 e66.fuel_.a4_, .f .f32 e66.fuel_.a5_], .agg [.f .f32 e68.wet_.a0_, .f .f32 e68.wet_.a1_, .f .f32 e68.wet_.a2_, .f .f32 e68.wet_.a3_, .f .f32 e68.wet_.a4_, .f .f32 e68.wet_.a5_, .f .f32 e68.heat_.a0_, .f .f32 e68.heat_.a1_, .f .f32 e68.heat_.a2_, .f .f32 e68.heat_.a3_, .f .f32 e68.heat_.a4_, .f .f32 e68.heat_.a5_, .f .f32 e68.fuel_.a0_, .f .f32 e68.fuel_.a1_, .f .f32 e68.fuel_.a2_, .f .f32 e68.fuel_.a3_, .f .f32 e68.fuel_.a4_, .f .f32 e68.fuel_.a5_]] = some (.b r70) := tells_eq inj52 (a := (e66, e68)) q71
        refine VW.evalDA (C := [(51, F51), (52, F52)]) (tm 64 [(2, .ptr 0 0 0), (3, .ptr 1 0 0), (29, .sl 18 (rows cT147 s.logs_)), (30, .i .i64 (s.logs_.length : Int)), (31, .i .i64 x_64), (43, .b (!r70))]) [some (6, [(pT90 s)]), some (6, [(pT90 r_)]), some (18, [[.f .f32 e66.wet_.a0_, .f .f32 e66.wet_.a1_, .f .f32 e66.wet_.a2_, .f .f32 e66.wet_.a3_, .f .f32 e66.wet_.a4_, .f .f32 e66.wet_.a5_, .f .f32 e66.heat_.a0_, .f .f32 e66.heat_.a1_, .f .f32 e66.heat_.a2_, .f .f32 e66.heat_.a3_, .f .f32 e66.heat_.a4_, .f .f32 e66.heat_.a5_, .f .f32 e66.fuel_.a0_, .f .f32 e66.fuel_.a1_, .f .f32 e66.fuel_.a2_, .f .f32 e66.fuel_.a3_, .f .f32 e66.fuel_.a4_, .f .f32 e66.fuel_.a5_]])] [] ⟨.inl ok51, .inl ok52, trivial⟩ mixed (by kernel_rfl) (by first | (simp -implicitDefEqProofs [f69a, f69b, f69c, f69d, c71]; done) | simp -implicitDefEqProofs [f69a, f69b, f69c, f69d, c71, pT90]) ?_
        refine VW.condB (b := (!r70)) (by simp) (fun g72 => ?_) (fun g72 => ?_)
        · replace h1 := iteT g72 h1
          refine VW.seq ?_
          refine VW.evalA (C := [(51, F51), (52, F52)]) (tm 64 [(4, .b false)]) [some (6, [(pT90 s)]), some (6, [(pT90 r_)]), some (18, [[.f .f32 e66.wet_.a0_, .f .f32 e66.wet_.a1_, .f .f32 e66.wet_.a2_, .f .f32 e66.wet_.a3_, .f .f32 e66.wet_.a4_, .f .f32 e66.wet_.a5_, .f .f32 e66.heat_.a0_, .f .f32 e66.heat_.a1_, .f .f32 e66.heat_.a2_, .f .f32 e66.heat_.a3_, .f .f32 e66.heat_.a4_, .f .f32 e66.heat_.a5_, .f .f32 e66.fuel_.a0_, .f .f32 e66.fuel_.a1_, .f .f32 e66.fuel_.a2_, .f .f32 e66.fuel_.a3_, .f .f32 e66.fuel_.a4_, .f .f32 e66.fuel_.a5_]])] [] ⟨.inl ok51, .inl ok52, trivial⟩ (by kernel_rfl) (by first | (simp -implicitDefEqProofs; done) | simp -implicitDefEqProofs [pT90]) ?_
          have e_ := leafR h1
          subst w_1
          obtain rfl := leafS h
          refine VW.ret (VRet.fin ?_)
          first | (simp [eB29]; done) | simp [eB29, pT90]
        · replace h1 := iteF g72 h1
          refine VW.skip ?_
          refine VW.evalA (C := [(51, F51), (52, F52)]) (tm 64 [(2, .ptr 0 0 0), (3, .ptr 1 0 0), (29, .sl 18 (rows cT147 s.logs_)), (30, .i .i64 (s.logs_.length : Int)), (31, .i .i64 (aI .i64 x_64 1))]) [some (6, [(pT90 s)]), some (6, [(pT90 r_)]), some (18, [[.f .f32 e66.wet_.a0_, .f .f32 e66.wet_.a1_, .f .f32 e66.wet_.a2_, .f .f32 e66.wet_.a3_, .f .f32 e66.wet_.a4_, .f .f32 e66.wet_.a5_, .f .f32 e66.heat_.a0_, .f .f32 e66.heat_.a1_, .f .f32 e66.heat_.a2_, .f .f32 e66.heat_.a3_, .f .f32 e66.heat_.a4_, .f .f32 e66.heat_.a5_, .f .f32 e66.fuel_.a0_, .f .f32 e66.fuel_.a1_, .f .f32 e66.fuel_.a2_, .f .f32 e66.fuel_.a3_, .f .f32 e66.fuel_.a4_, .f .f32 e66.fuel_.a5_]])] [] ⟨.inl ok51, .inl ok52, trivial⟩ (by kernel_rfl) (by first | (simp -implicitDefEqProofs; done) | simp -implicitDefEqProofs [pT90]) ?_
          exact (show ∃ _, _ from ⟨aI .i64 x_64 1, leafL h1, (Ent.to 2 (by simp [fgt]) (by first | (simp; done) | simp [pT90]) (by simp) (by simp [bndT, bndV]) (by simp [bndM, bndV]))⟩)
      · replace h1 := iteF g65 h1
        refine VW.exit ?_
        have e_ := leafR h1
        subst w_1
        exact (show ∃ _, _ from ⟨(), h, (Ent.to 2 (by simp [fgt]) (by first | (simp; done) | simp [pT90]) (by simp) (by simp [bndT, bndV]) (by simp [bndM, bndV]))⟩)
    · rintro _ h
      replace h : (g29_j1 s r_).bind _ = _ := h
      rw [g29_j1] at h
      refine VW.seq ?_
      obtain ⟨r28, q29, h⟩ := bindE h
      have c29 : F51 [.f .f32 s.box_, .f .f32 r_.box_] = some (.b r28) := tells_eq inj51 (a := (s.box_, r_.box_)) q29
      obtain ⟨w32, q36, h⟩ := bindE h
      obtain ⟨w35, q37, h⟩ := bindE h
      refine VW.evalA (C := [(51, F51), (52, F52)]) (tm 64 [(4, .b w35)]) [some (6, [(pT90 s)]), some (6, [(pT90 r_)])] [] ⟨.inl ok51, .inl ok52, trivial⟩ (by kernel_rfl) (by
          refine Or.elim (Bool.eq_false_or_eq_true r28) (fun q38 => ?_) (fun q38 => ?_)
          · first
            | (simp at q38; done)
            | (rw [if_pos q38] at q36
               refine Exists.elim (bindQ q36) fun r30 e_ => ?_
               have q31 := e_.1
               replace q36 := e_.2
               have c31 : F51 [.f .f32 s.damper_, .f .f32 r_.damper_] = some (.b r30) := tells_eq inj51 (a := (s.damper_, r_.damper_)) q31
               have d39 : w32 = _ := (Option.some.inj q36).symm
               refine Or.elim (Bool.eq_false_or_eq_true w32) (fun q40 => ?_) (fun q40 => ?_)
               · first
                 | (simp [d39] at q40; done)
                 | (rw [if_pos q40] at q37
                    try simp only [d39] at q40
                    refine Exists.elim (bindQ q37) fun r33 e_ => ?_
                    have q34 := e_.1
                    replace q37 := e_.2
                    have c34 : F51 [.f .f32 s.dust_, .f .f32 r_.dust_] = some (.b r33) := tells_eq inj51 (a := (s.dust_, r_.dust_)) q34
                    have d41 : w35 = _ := (Option.some.inj q37).symm
                    first | (simp -implicitDefEqProofs [c29, q38, c31, d39, q40, c34, d41]; done) | simp -implicitDefEqProofs [c29, q38, c31, d39, q40, c34, d41, pT90])
               · first
                 | (simp [d39] at q40; done)
                 | (rw [if_neg (by rw [q40]; exact Bool.false_ne_true)] at q37
                    try simp only [d39] at q40
                    have d42 : w35 = _ := (Option.some.inj q37).symm
                    first | (simp -implicitDefEqProofs [c29, q38, c31, d39, q40, d42]; done) | simp -implicitDefEqProofs [c29, q38, c31, d39, q40, d42, pT90]))
          · first
            | (simp at q38; done)
            | (rw [if_neg (by rw [q38]; exact Bool.false_ne_true)] at q36
               have d43 : w32 = _ := (Option.some.inj q36).symm
               refine Or.elim (Bool.eq_false_or_eq_true w32) (fun q44 => ?_) (fun q44 => ?_)
               · first
                 | (simp [d43] at q44; done)
                 | (rw [if_pos q44] at q37
                    try simp only [d43] at q44
                    refine Exists.elim (bindQ q37) fun r33 e_ => ?_
                    have q34 := e_.1
                    replace q37 := e_.2
                    have c34 : F51 [.f .f32 s.dust_, .f .f32 r_.dust_] = some (.b r33) := tells_eq inj51 (a := (s.dust_, r_.dust_)) q34
                    have d45 : w35 = _ := (Option.some.inj q37).symm
                    first | (simp -implicitDefEqProofs [c29, q38, d43, q44, c34, d45]; done) | simp -implicitDefEqProofs [c29, q38, d43, q44, c34, d45, pT90])
               · first
                 | (simp [d43] at q44; done)
                 | (rw [if_neg (by rw [q44]; exact Bool.false_ne_true)] at q37
                    try simp only [d43] at q44
                    have d46 : w35 = _ := (Option.some.inj q37).symm
                    first | (simp -implicitDefEqProofs [c29, q38, d43, q44, d46]; done) | simp -implicitDefEqProofs [c29, q38, d43, q44, d46, pT90]))) ?_
      obtain rfl := leafS h
      refine VW.ret (VRet.fin ?_)
      first | (simp [eB29]; done) | simp [eB29, pT90]
noncomputable def g10_j2 (h_ : T38) (g : T38) : Option (Bool) :=
  (if (eqI h_.tick_ g.tick_ && eqI h_.sums_.smoky_ g.sums_.smoky_) = true then (g30 [h_.sums_.burnt_, h_.sums_.steam_, h_.sums_.up_, h_.sums_.lost_] [g.sums_.burnt_, g.sums_.steam_, g.sums_.up_, g.sums_.lost_]).bind fun r77 => some r77 else some false).bind fun w79 =>
  some w79
noncomputable def g10_L1 (h_ : T38) (g : T38) : (Int) → Option ((Int) ⊕ ((Unit) ⊕ (Bool)))
  | x_101 =>
    if ltI x_101 (h_.hours_.length : Int) = true then
      (idx h_.hours_ x_101).bind fun e103 =>
      (idx g.hours_ x_101).bind fun e105 =>
      (g30 [e103.outside_, e103.sun_, e103.wind_] [e105.outside_, e105.sun_, e105.wind_]).bind fun r107 =>
      if (!r107) = true then
        some (.inr (.inr false))
      else
        some (.inl (aI .i64 x_101 1))
    else
      some (.inr (.inl ()))
noncomputable def g10_j1 (h_ : T38) (g : T38) : Option (Bool) :=
  (loopO (g10_L1 h_ g) 0).bind fun w => match w with
    | .inl y => g10_j2 h_ g
    | .inr r => some r
noncomputable def g10_L2 (h_ : T38) (g : T38) : (Int) → Option ((Int) ⊕ ((Unit) ⊕ (Bool)))
  | x_137 =>
    if ltI x_137 (h_.hearths_.length : Int) = true then
      (idx h_.hearths_ x_137).bind fun e139 =>
      (idx g.hearths_ x_137).bind fun e141 =>
      (if (((!eqI e139.room_ e141.room_) || (!eqI e139.flue_ e141.flue_)) || (!eqI e139.brain_ e141.brain_)) = true then some true else (g29 e139.stove_ e141.stove_).bind fun r143 => some (!r143)).bind fun w145 =>
      if w145 = true then
        some (.inr (.inr false))
      else
        some (.inl (aI .i64 x_137 1))
    else
      some (.inr (.inl ()))
noncomputable def g10 (h_ : T38) (g : T38) : Option (Bool) :=
  (g26 h_.flat_ g.flat_).bind fun r1 =>
  (if (!r1) = true then some true else (g27 h_.chimney_ g.chimney_).bind fun r3 => some (!r3)).bind fun w5 =>
  (if w5 = true then some true else (g28 h_.sources_ g.sources_).bind fun r6 => some (!r6)).bind fun w8 =>
  if ((w8 || (!eqI (h_.hearths_.length : Int) (g.hearths_.length : Int))) || (!eqI (h_.hours_.length : Int) (g.hours_.length : Int))) = true then
    some false
  else
    (loopO (g10_L2 h_ g) 0).bind fun w => match w with
      | .inl y => g10_j1 h_ g
      | .inr r => some r
def eA10 (a : T38 × T38) : List V := [.agg (pT38 a.1), .agg (pT38 a.2)]
def eB10 (r : Bool) : V := .b r
theorem inj10 (a a' : T38 × T38) (h : eA10 a = eA10 a') : a = a' := by
  obtain ⟨⟨⟨i887, i888, i889, i890⟩, i891, i892, i893, i894, i895, ⟨i896, i897, i898, i899, i900⟩⟩, ⟨⟨i901, i902, i903, i904⟩, i905, i906, i907, i908, i909, ⟨i910, i911, i912, i913, i914⟩⟩⟩ := a
  obtain ⟨⟨⟨i915, i916, i917, i918⟩, i919, i920, i921, i922, i923, ⟨i924, i925, i926, i927, i928⟩⟩, ⟨⟨i929, i930, i931, i932⟩, i933, i934, i935, i936, i937, ⟨i938, i939, i940, i941, i942⟩⟩⟩ := a'
  simp only [eA10, pT38, List.cons.injEq, V.i.injEq, V.b.injEq, V.f.injEq, V.str.injEq, V.sl.injEq, V.agg.injEq, V.cptr.injEq, true_and, and_true] at h
  simp_all [ri cT105_inj, ri cT108_inj, ri cT132_inj, ri cT134_inj, ri cT92_inj, ri cf_f32_inj, ri cs__inj]
noncomputable def F10 : List V → Option V := tells (fun a => g10 a.1 a.2) eA10 eB10
set_option maxRecDepth 100000 in
set_option maxHeartbeats 40000000 in
/- loop.example/g01229/impl.SameHouse -/
theorem ok10 : Tells Try.prog 10 F10 := by
  refine Tells.of (by kernel_rfl) ?_
  rintro ⟨h_, g⟩ r h
  refine VCalls.nl (VCalls.of Try.func10 rfl rfl rfl ?_)
  rw [tm_init]
  simp only [eA10, en, List.length_cons, List.length_nil, Nat.reduceAdd, Nat.reduceSub]
  replace h : (g10 h_ g).bind some = some r := bindS h
  rw [g10] at h
  refine VW.seq ?_
  refine VW.evalA (C := [(26, F26), (27, F27), (28, F28), (29, F29), (30, F30)]) (tm 161 [(2, .ptr 0 0 0), (3, .ptr 1 0 0)]) [some (14, [(pT38 h_)]), some (14, [(pT38 g)])] [] ⟨.inl ok26, .inl ok27, .inl ok28, .inl ok29, .inl ok30, trivial⟩ (by kernel_rfl) (by first | (simp -implicitDefEqProofs; done) | simp -implicitDefEqProofs [pT38]) ?_
  refine VW.seq ?_
  refine VW.seq ?_
  obtain ⟨r1, q2, h⟩ := bindE h
  have c2 : F26 [.agg [.sl 1 (rows cf_f32 h_.flat_.heat_), .sl 1 (rows cf_f32 h_.flat_.store_), .sl 8 (rows cT132 h_.flat_.walls_), .sl 4 (rows cT134 h_.flat_.panes_)], .agg [.sl 1 (rows cf_f32 g.flat_.heat_), .sl 1 (rows cf_f32 g.flat_.store_), .sl 8 (rows cT132 g.flat_.walls_), .sl 4 (rows cT134 g.flat_.panes_)]] = some (.b r1) := tells_eq inj26 (a := (h_.flat_, g.flat_)) q2
  obtain ⟨w5, q151, h⟩ := bindE h
  obtain ⟨w8, q152, h⟩ := bindE h
  refine VW.evalA (C := [(26, F26), (27, F27), (28, F28), (29, F29), (30, F30)]) (tm 161 [(2, .ptr 0 0 0), (3, .ptr 1 0 0), (52, .b ((w8 || (!eqI (h_.hearths_.length : Int) (g.hearths_.length : Int))) || (!eqI (h_.hours_.length : Int) (g.hours_.length : Int))))]) [some (14, [(pT38 h_)]), some (14, [(pT38 g)])] [] ⟨.inl ok26, .inl ok27, .inl ok28, .inl ok29, .inl ok30, trivial⟩ (by kernel_rfl) (by
      refine Or.elim (Bool.eq_false_or_eq_true (!r1)) (fun q153 => ?_) (fun q153 => ?_)
      · first
        | (simp at q153; done)
        | (rw [if_pos q153] at q151
           have d154 : w5 = _ := (Option.some.inj q151).symm
           refine Or.elim (Bool.eq_false_or_eq_true w5) (fun q155 => ?_) (fun q155 => ?_)
           · first
             | (simp [d154] at q155; done)
             | (rw [if_pos q155] at q152
                try simp only [d154] at q155
                have d156 : w8 = _ := (Option.some.inj q152).symm
                first | (simp -implicitDefEqProofs [c2, q153, d154, q155, d156, pT38]; done) | simp -implicitDefEqProofs [c2, q153, d154, q155, d156])
           · first
             | (simp [d154] at q155; done)
             | (rw [if_neg (by rw [q155]; exact Bool.false_ne_true)] at q152
                try simp only [d154] at q155
                refine Exists.elim (bindQ q152) fun r6 e_ => ?_
                have q7 := e_.1
                replace q152 := e_.2
                have c7 : F28 [.sl 1 (rows cs_ h_.sources_), .sl 1 (rows cs_ g.sources_)] = some (.b r6) := tells_eq inj28 (a := (h_.sources_, g.sources_)) q7
                have d157 : w8 = _ := (Option.some.inj q152).symm
                first | (simp -implicitDefEqProofs [c2, q153, d154, q155, c7, d157, pT38]; done) | simp -implicitDefEqProofs [c2, q153, d154, q155, c7, d157]))
      · first
        | (simp at q153; done)
        | (rw [if_neg (by rw [q153]; exact Bool.false_ne_true)] at q151
           refine Exists.elim (bindQ q151) fun r3 e_ => ?_
           have q4 := e_.1
           replace q151 := e_.2
           have c4 : F27 [.sl 5 (rows cT105 h_.chimney_), .sl 5 (rows cT105 g.chimney_)] = some (.b r3) := tells_eq inj27 (a := (h_.chimney_, g.chimney_)) q4
           have d158 : w5 = _ := (Option.some.inj q151).symm
           refine Or.elim (Bool.eq_false_or_eq_true w5) (fun q159 => ?_) (fun q159 => ?_)
           · first
             | (simp [d158] at q159; done)
             | (rw [if_pos q159] at q152
                try simp only [d158] at q159
                have d160 : w8 = _ := (Option.some.inj q152).symm
                first | (simp -implicitDefEqProofs [c2, q153, c4, d158, q159, d160, pT38]; done) | simp -implicitDefEqProofs [c2, q153, c4, d158, q159, d160])
           · first
             | (simp [d158] at q159; done)
             | (rw [if_neg (by rw [q159]; exact Bool.false_ne_true)] at q152
                try simp only [d158] at q159
                refine Exists.elim (bindQ q152) fun r6 e_ => ?_
                have q7 := e_.1
                replace q152 := e_.2
                have c7 : F28 [.sl 1 (rows cs_ h_.sources_), .sl 1 (rows cs_ g.sources_)] = some (.b r6) := tells_eq inj28 (a := (h_.sources_, g.sources_)) q7
                have d161 : w8 = _ := (Option.some.inj q152).symm
                first | (simp -implicitDefEqProofs [c2, q153, c4, d158, q159, c7, d161, pT38]; done) | simp -implicitDefEqProofs [c2, q153, c4, d158, q159, c7, d161]))) ?_
  refine VW.condB (b := ((w8 || (!eqI (h_.hearths_.length : Int) (g.hearths_.length : Int))) || (!eqI (h_.hours_.length : Int) (g.hours_.length : Int)))) (by simp) (fun g9 => ?_) (fun g9 => ?_)
  · replace h := iteT g9 h
    refine VW.seq ?_
    refine VW.evalA (C := [(26, F26), (27, F27), (28, F28), (29, F29), (30, F30)]) (tm 161 [(4, .b false)]) [some (14, [(pT38 h_)]), some (14, [(pT38 g)])] [] ⟨.inl ok26, .inl ok27, .inl ok28, .inl ok29, .inl ok30, trivial⟩ (by kernel_rfl) (by first | (simp -implicitDefEqProofs; done) | simp -implicitDefEqProofs [pT38]) ?_
    obtain rfl := leafS h
    refine VW.ret (VRet.fin ?_)
    first | (simp [eB10]; done) | simp [eB10, pT38]
  · replace h := iteF g9 h
    refine VW.skip ?_
    refine VW.join (fun (v : Unit) => (⟨(tm 161 [(2, .ptr 0 0 0), (3, .ptr 1 0 0)]), [some (14, [(pT38 h_)]), some (14, [(pT38 g)])], []⟩ : VS)) (fun v => (g10_j1 h_ g).bind some = some r) ?_ ?_
    · refine VW.seq ?_
      refine VW.evalA (C := [(26, F26), (27, F27), (28, F28), (29, F29), (30, F30)]) (tm 161 [(2, .ptr 0 0 0), (3, .ptr 1 0 0), (54, .sl 9 (rows cT92 h_.hearths_)), (55, .i .i64 (h_.hearths_.length : Int)), (56, .i .i64 0)]) [some (14, [(pT38 h_)]), some (14, [(pT38 g)])] [] ⟨.inl ok26, .inl ok27, .inl ok28, .inl ok29, .inl ok30, trivial⟩ (by kernel_rfl) (by first | (simp -implicitDefEqProofs; done) | simp -implicitDefEqProofs [pT38]) ?_
      refine VW.block ?_
      obtain ⟨w_2, hw_2, h⟩ := bindE h
      refine VW.loopO (fun (x : Int) => (⟨(tm 161 [(2, .ptr 0 0 0), (3, .ptr 1 0 0), (54, .sl 9 (rows cT92 h_.hearths_)), (55, .i .i64 (h_.hearths_.length : Int)), (56, .i .i64 x)]), [some (14, [(pT38 h_)]), some (14, [(pT38 g)])], []⟩ : VS)) hw_2 (Ent.to 2 (by simp [fgt]) (by first | (simp; done) | simp [pT38]) (by simp) (by simp [bndT, bndV]) (by simp [bndM, bndV])) ?_
      rintro n_2 x_137 h1
      rw [g10_L2] at h1
      refine VW.seq ?_
      refine VW.evalA (C := [(26, F26), (27, F27), (28, F28), (29, F29), (30, F30)]) (tm 161 [(2, .ptr 0 0 0), (3, .ptr 1 0 0), (54, .sl 9 (rows cT92 h_.hearths_)), (55, .i .i64 (h_.hearths_.length : Int)), (56, .i .i64 x_137), (57, .b (ltI x_137 (h_.hearths_.length : Int)))]) [some (14, [(pT38 h_)]), some (14, [(pT38 g)])] [] ⟨.inl ok26, .inl ok27, .inl ok28, .inl ok29, .inl ok30, trivial⟩ (by kernel_rfl) (by first | (simp -implicitDefEqProofs; done) | simp -implicitDefEqProofs [pT38]) ?_
      refine VW.seq ?_
      refine VW.condB (b := ltI x_137 (h_.hearths_.length : Int)) (by simp) (fun g138 => ?_) (fun g138 => ?_)
      · replace h1 := iteT g138 h1
        refine VW.skip ?_
        refine VW.seq ?_
        refine VW.block ?_
        refine VW.seq ?_
        obtain ⟨e139, q140, h1⟩ := bindE h1
        obtain ⟨f140a, f140b, f140c, f140d⟩ := idx_some q140
        refine VW.evalA (C := [(26, F26), (27, F27), (28, F28), (29, F29), (30, F30)]) (tm 161 [(2, .ptr 0 0 0), (3, .ptr 1 0 0), (5, .i .i64 x_137), (6, .ptr 2 0 0), (54, .sl 9 (rows cT92 h_.hearths_)), (55, .i .i64 (h_.hearths_.length : Int)), (56, .i .i64 x_137)]) [some (14, [(pT38 h_)]), some (14, [(pT38 g)]), some (9, [[.i .i64 e139.room_, .i .i64 e139.flue_, .i .i64 e139.brain_, .sl 18 (rows cT147 e139.stove_.logs_), .f .f32 e139.stove_.box_, .f .f32 e139.stove_.damper_, .i .i8 e139.stove_.state_, .i .i64 e139.stove_.ash_, .f .f32 e139.stove_.dust_]])] [] ⟨.inl ok26, .inl ok27, .inl ok28, .inl ok29, .inl ok30, trivial⟩ (by kernel_rfl) (by first | (simp -implicitDefEqProofs [f140a, f140b, f140c, f140d]; done) | simp -implicitDefEqProofs [f140a, f140b, f140c, f140d, pT38]) ?_
        refine VW.seq ?_
        obtain ⟨e141, q142, h1⟩ := bindE h1
        obtain ⟨f142a, f142b, f142c, f142d⟩ := idx_some q142
        refine VW.evalA (C := [(26, F26), (27, F27), (28, F28), (29, F29), (30, F30)]) (tm 161 [(2, .ptr 0 0 0), (3, .ptr 1 0 0), (6, .ptr 2 0 0), (7, .ptr 3 0 0), (54, .sl 9 (rows cT92 h_.hearths_)), (55, .i .i64 (h_.hearths_.length : Int)), (56, .i .i64 x_137)]) [some (14, [(pT38 h_)]), some (14, [(pT38 g)]), some (9, [[.i .i64 e139.room_, .i .i64 e139.flue_, .i .i64 e139.brain_, .sl 18 (rows cT147 e139.stove_.logs_), .f .f32 e139.stove_.box_, .f .f32 e139.stove_.damper_, .i .i8 e139.stove_.state_, .i .i64 e139.stove_.ash_, .f .f32 e139.stove_.dust_]]), some (9, [[.i .i64 e141.room_, .i .i64 e141.flue_, .i .i64 e141.brain_, .sl 18 (rows cT147 e141.stove_.logs_), .f .f32 e141.stove_.box_, .f .f32 e141.stove_.damper_, .i .i8 e141.stove_.state_, .i .i64 e141.stove_.ash_, .f .f32 e141.stove_.dust_]])] [] ⟨.inl ok26, .inl ok27, .inl ok28, .inl ok29, .inl ok30, trivial⟩ (by kernel_rfl) (by first | (simp -implicitDefEqProofs [f142a, f142b, f142c, f142d]; done) | simp -implicitDefEqProofs [f142a, f142b, f142c, f142d, pT38]) ?_
        refine VW.seq ?_
        obtain ⟨w145, q147, h1⟩ := bindE h1
        refine VW.evalA (C := [(26, F26), (27, F27), (28, F28), (29, F29), (30, F30)]) (tm 161 [(2, .ptr 0 0 0), (3, .ptr 1 0 0), (54, .sl 9 (rows cT92 h_.hearths_)), (55, .i .i64 (h_.hearths_.length : Int)), (56, .i .i64 x_137), (92, .b w145)]) [some (14, [(pT38 h_)]), some (14, [(pT38 g)]), some (9, [[.i .i64 e139.room_, .i .i64 e139.flue_, .i .i64 e139.brain_, .sl 18 (rows cT147 e139.stove_.logs_), .f .f32 e139.stove_.box_, .f .f32 e139.stove_.damper_, .i .i8 e139.stove_.state_, .i .i64 e139.stove_.ash_, .f .f32 e139.stove_.dust_]]), some (9, [[.i .i64 e141.room_, .i .i64 e141.flue_, .i .i64 e141.brain_, .sl 18 (rows cT147 e141.stove_.logs_), .f .f32 e141.stove_.box_, .f .f32 e141.stove_.damper_, .i .i8 e141.stove_.state_, .i .i64 e141.stove_.ash_, .f .f32 e141.stove_.dust_]])] [] ⟨.inl ok26, .inl ok27, .inl ok28, .inl ok29, .inl ok30, trivial⟩ (by kernel_rfl) (by
            refine Or.elim (Bool.eq_false_or_eq_true (((!eqI e139.room_ e141.room_) || (!eqI e139.flue_ e141.flue_)) || (!eqI e139.brain_ e141.brain_))) (fun q148 => ?_) (fun q148 => ?_)
            · first
              | (simp at q148; done)
              | (rw [if_pos q148] at q147
                 have d149 : w145 = _ := (Option.some.inj q147).symm
                 first | (simp -implicitDefEqProofs [q148, d149, pT38]; done) | simp -implicitDefEqProofs [q148, d149])
            · first
              | (simp at q148; done)
              | (rw [if_neg (by rw [q148]; exact Bool.false_ne_true)] at q147
                 refine Exists.elim (bindQ q147) fun r143 e_ => ?_
                 have q144 := e_.1
                 replace q147 := e_.2
                 have c144 : F29 [.agg [.sl 18 (rows cT147 e139.stove_.logs_), .f .f32 e139.stove_.box_, .f .f32 e139.stove_.damper_, .i .i8 e139.stove_.state_, .i .i64 e139.stove_.ash_, .f .f32 e139.stove_.dust_], .agg [.sl 18 (rows cT147 e141.stove_.logs_), .f .f32 e141.stove_.box_, .f .f32 e141.stove_.damper_, .i .i8 e141.stove_.state_, .i .i64 e141.stove_.ash_, .f .f32 e141.stove_.dust_]] = some (.b r143) := tells_eq inj29 (a := (e139.stove_, e141.stove_)) q144
                 have d150 : w145 = _ := (Option.some.inj q147).symm
                 first | (simp -implicitDefEqProofs [q148, c144, d150, pT38]; done) | simp -implicitDefEqProofs [q148, c144, d150])) ?_
        refine VW.condB (b := w145) (by simp) (fun g146 => ?_) (fun g146 => ?_)
        · replace h1 := iteT g146 h1
          refine VW.seq ?_
          refine VW.evalA (C := [(26, F26), (27, F27), (28, F28), (29, F29), (30, F30)]) (tm 161 [(4, .b false)]) [some (14, [(pT38 h_)]), some (14, [(pT38 g)]), some (9, [[.i .i64 e139.room_, .i .i64 e139.flue_, .i .i64 e139.brain_, .sl 18 (rows cT147 e139.stove_.logs_), .f .f32 e139.stove_.box_, .f .f32 e139.stove_.damper_, .i .i8 e139.stove_.state_, .i .i64 e139.stove_.ash_, .f .f32 e139.stove_.dust_]]), some (9, [[.i .i64 e141.room_, .i .i64 e141.flue_, .i .i64 e141.brain_, .sl 18 (rows cT147 e141.stove_.logs_), .f .f32 e141.stove_.box_, .f .f32 e141.stove_.damper_, .i .i8 e141.stove_.state_, .i .i64 e141.stove_.ash_, .f .f32 e141.stove_.dust_]])] [] ⟨.inl ok26, .inl ok27, .inl ok28, .inl ok29, .inl ok30, trivial⟩ (by kernel_rfl) (by first | (simp -implicitDefEqProofs; done) | simp -implicitDefEqProofs [pT38]) ?_
          have e_ := leafR h1
          subst w_2
          obtain rfl := leafS h
          refine VW.ret (VRet.fin ?_)
          first | (simp [eB10]; done) | simp [eB10, pT38]
        · replace h1 := iteF g146 h1
          refine VW.skip ?_
          refine VW.evalA (C := [(26, F26), (27, F27), (28, F28), (29, F29), (30, F30)]) (tm 161 [(2, .ptr 0 0 0), (3, .ptr 1 0 0), (54, .sl 9 (rows cT92 h_.hearths_)), (55, .i .i64 (h_.hearths_.length : Int)), (56, .i .i64 (aI .i64 x_137 1))]) [some (14, [(pT38 h_)]), some (14, [(pT38 g)]), some (9, [[.i .i64 e139.room_, .i .i64 e139.flue_, .i .i64 e139.brain_, .sl 18 (rows cT147 e139.stove_.logs_), .f .f32 e139.stove_.box_, .f .f32 e139.stove_.damper_, .i .i8 e139.stove_.state_, .i .i64 e139.stove_.ash_, .f .f32 e139.stove_.dust_]]), some (9, [[.i .i64 e141.room_, .i .i64 e141.flue_, .i .i64 e141.brain_, .sl 18 (rows cT147 e141.stove_.logs_), .f .f32 e141.stove_.box_, .f .f32 e141.stove_.damper_, .i .i8 e141.stove_.state_, .i .i64 e141.stove_.ash_, .f .f32 e141.stove_.dust_]])] [] ⟨.inl ok26, .inl ok27, .inl ok28, .inl ok29, .inl ok30, trivial⟩ (by kernel_rfl) (by first | (simp -implicitDefEqProofs; done) | simp -implicitDefEqProofs [pT38]) ?_
          exact (show ∃ _, _ from ⟨aI .i64 x_137 1, leafL h1, (Ent.to 2 (by simp [fgt]) (by first | (simp; done) | simp [pT38]) (by simp) (by simp [bndT, bndV]) (by simp [bndM, bndV]))⟩)
      · replace h1 := iteF g138 h1
        refine VW.exit ?_
        have e_ := leafR h1
        subst w_2
        exact (show ∃ _, _ from ⟨(), h, (Ent.to 2 (by simp [fgt]) (by first | (simp; done) | simp [pT38]) (by simp) (by simp [bndT, bndV]) (by simp [bndM, bndV]))⟩)
    · rintro _ h
      replace h : (g10_j1 h_ g).bind _ = _ := h
      rw [g10_j1] at h
      refine VW.join (fun (v : Unit) => (⟨(tm 161 [(2, .ptr 0 0 0), (3, .ptr 1 0 0)]), [some (14, [(pT38 h_)]), some (14, [(pT38 g)])], []⟩ : VS)) (fun v => (g10_j2 h_ g).bind some = some r) ?_ ?_
      · refine VW.seq ?_
        refine VW.evalA (C := [(26, F26), (27, F27), (28, F28), (29, F29), (30, F30)]) (tm 161 [(2, .ptr 0 0 0), (3, .ptr 1 0 0), (95, .sl 3 (rows cT108 h_.hours_)), (96, .i .i64 (h_.hours_.length : Int)), (97, .i .i64 0)]) [some (14, [(pT38 h_)]), some (14, [(pT38 g)])] [] ⟨.inl ok26, .inl ok27, .inl ok28, .inl ok29, .inl ok30, trivial⟩ (by kernel_rfl) (by first | (simp -implicitDefEqProofs; done) | simp -implicitDefEqProofs [pT38]) ?_
        refine VW.block ?_
        obtain ⟨w_1, hw_1, h⟩ := bindE h
        refine VW.loopO (fun (x : Int) => (⟨(tm 161 [(2, .ptr 0 0 0), (3, .ptr 1 0 0), (95, .sl 3 (rows cT108 h_.hours_)), (96, .i .i64 (h_.hours_.length : Int)), (97, .i .i64 x)]), [some (14, [(pT38 h_)]), some (14, [(pT38 g)])], []⟩ : VS)) hw_1 (Ent.to 2 (by simp [fgt]) (by first | (simp; done) | simp [pT38]) (by simp) (by simp [bndT, bndV]) (by simp [bndM, bndV])) ?_
        rintro n_1 x_101 h1
        rw [g10_L1] at h1
        refine VW.seq ?_
        refine VW.evalA (C := [(26, F26), (27, F27), (28, F28), (29, F29), (30, F30)]) (tm 161 [(2, .ptr 0 0 0), (3, .ptr 1 0 0), (95, .sl 3 (rows cT108 h_.hours_)), (96, .i .i64 (h_.hours_.length : Int)), (97, .i .i64 x_101), (98, .b (ltI x_101 (h_.hours_.length : Int)))]) [some (14, [(pT38 h_)]), some (14, [(pT38 g)])] [] ⟨.inl ok26, .inl ok27, .inl ok28, .inl ok29, .inl ok30, trivial⟩ (by kernel_rfl) (by first | (simp -implicitDefEqProofs; done) | simp -implicitDefEqProofs [pT38]) ?_
        refine VW.seq ?_
        refine VW.condB (b := ltI x_101 (h_.hours_.length : Int)) (by simp) (fun g102 => ?_) (fun g102 => ?_)
        · replace h1 := iteT g102 h1
          refine VW.skip ?_
          refine VW.seq ?_
          refine VW.block ?_
          refine VW.seq ?_
          obtain ⟨e103, q104, h1⟩ := bindE h1
          obtain ⟨f104a, f104b, f104c, f104d⟩ := idx_some q104
          refine VW.evalA (C := [(26, F26), (27, F27), (28, F28), (29, F29), (30, F30)]) (tm 161 [(2, .ptr 0 0 0), (3, .ptr 1 0 0), (8, .i .i64 x_101), (9, .ptr 2 0 0), (95, .sl 3 (rows cT108 h_.hours_)), (96, .i .i64 (h_.hours_.length : Int)), (97, .i .i64 x_101)]) [some (14, [(pT38 h_)]), some (14, [(pT38 g)]), some (3, [[.f .f32 e103.outside_, .f .f32 e103.sun_, .f .f32 e103.wind_]])] [] ⟨.inl ok26, .inl ok27, .inl ok28, .inl ok29, .inl ok30, trivial⟩ (by kernel_rfl) (by first | (simp -implicitDefEqProofs [f104a, f104b, f104c, f104d]; done) | simp -implicitDefEqProofs [f104a, f104b, f104c, f104d, pT38]) ?_
          refine VW.seq ?_
          obtain ⟨e105, q106, h1⟩ := bindE h1
          obtain ⟨f106a, f106b, f106c, f106d⟩ := idx_some q106
          refine VW.evalA (C := [(26, F26), (27, F27), (28, F28), (29, F29), (30, F30)]) (tm 161 [(2, .ptr 0 0 0), (3, .ptr 1 0 0), (9, .ptr 2 0 0), (10, .ptr 3 0 0), (95, .sl 3 (rows cT108 h_.hours_)), (96, .i .i64 (h_.hours_.length : Int)), (97, .i .i64 x_101)]) [some (14, [(pT38 h_)]), some (14, [(pT38 g)]), some (3, [[.f .f32 e103.outside_, .f .f32 e103.sun_, .f .f32 e103.wind_]]), some (3, [[.f .f32 e105.outside_, .f .f32 e105.sun_, .f .f32 e105.wind_]])] [] ⟨.inl ok26, .inl ok27, .inl ok28, .inl ok29, .inl ok30, trivial⟩ (by kernel_rfl) (by first | (simp -implicitDefEqProofs [f106a, f106b, f106c, f106d]; done) | simp -implicitDefEqProofs [f106a, f106b, f106c, f106d, pT38]) ?_
          refine VW.seq ?_
          obtain ⟨r107, q108, h1⟩ := bindE h1
          have c108 : F30 [.sl 1 [[.f .f32 e103.outside_], [.f .f32 e103.sun_], [.f .f32 e103.wind_]], .sl 1 [[.f .f32 e105.outside_], [.f .f32 e105.sun_], [.f .f32 e105.wind_]]] = some (.b r107) := tells_eq inj30 (a := ([e103.outside_, e103.sun_, e103.wind_], [e105.outside_, e105.sun_, e105.wind_])) q108
          refine VW.evalA (C := [(26, F26), (27, F27), (28, F28), (29, F29), (30, F30)]) (tm 161 [(2, .ptr 0 0 0), (3, .ptr 1 0 0), (95, .sl 3 (rows cT108 h_.hours_)), (96, .i .i64 (h_.hours_.length : Int)), (97, .i .i64 x_101), (122, .b (!r107))]) [some (14, [(pT38 h_)]), some (14, [(pT38 g)]), some (3, [[.f .f32 e103.outside_, .f .f32 e103.sun_, .f .f32 e103.wind_]]), some (3, [[.f .f32 e105.outside_, .f .f32 e105.sun_, .f .f32 e105.wind_]]), some (1, rows cf_f32 [e103.outside_, e103.sun_, e103.wind_]), some (1, rows cf_f32 [e105.outside_, e105.sun_, e105.wind_])] [] ⟨.inl ok26, .inl ok27, .inl ok28, .inl ok29, .inl ok30, trivial⟩ (by kernel_rfl) (by first | (simp -implicitDefEqProofs [c108]; done) | simp -implicitDefEqProofs [c108, pT38]) ?_
          refine VW.condB (b := (!r107)) (by simp) (fun g109 => ?_) (fun g109 => ?_)
          · replace h1 := iteT g109 h1
            refine VW.seq ?_
            refine VW.evalA (C := [(26, F26), (27, F27), (28, F28), (29, F29), (30, F30)]) (tm 161 [(4, .b false)]) [some (14, [(pT38 h_)]), some (14, [(pT38 g)]), some (3, [[.f .f32 e103.outside_, .f .f32 e103.sun_, .f .f32 e103.wind_]]), some (3, [[.f .f32 e105.outside_, .f .f32 e105.sun_, .f .f32 e105.wind_]]), some (1, rows cf_f32 [e103.outside_, e103.sun_, e103.wind_]), some (1, rows cf_f32 [e105.outside_, e105.sun_, e105.wind_])] [] ⟨.inl ok26, .inl ok27, .inl ok28, .inl ok29, .inl ok30, trivial⟩ (by kernel_rfl) (by first | (simp -implicitDefEqProofs; done) | simp -implicitDefEqProofs [pT38]) ?_
            have e_ := leafR h1
            subst w_1
            obtain rfl := leafS h
            refine VW.ret (VRet.fin ?_)
            first | (simp [eB10]; done) | simp [eB10, pT38]
          · replace h1 := iteF g109 h1
            refine VW.skip ?_
            refine VW.evalA (C := [(26, F26), (27, F27), (28, F28), (29, F29), (30, F30)]) (tm 161 [(2, .ptr 0 0 0), (3, .ptr 1 0 0), (95, .sl 3 (rows cT108 h_.hours_)), (96, .i .i64 (h_.hours_.length : Int)), (97, .i .i64 (aI .i64 x_101 1))]) [some (14, [(pT38 h_)]), some (14, [(pT38 g)]), some (3, [[.f .f32 e103.outside_, .f .f32 e103.sun_, .f .f32 e103.wind_]]), some (3, [[.f .f32 e105.outside_, .f .f32 e105.sun_, .f .f32 e105.wind_]]), some (1, rows cf_f32 [e103.outside_, e103.sun_, e103.wind_]), some (1, rows cf_f32 [e105.outside_, e105.sun_, e105.wind_])] [] ⟨.inl ok26, .inl ok27, .inl ok28, .inl ok29, .inl ok30, trivial⟩ (by kernel_rfl) (by first | (simp -implicitDefEqProofs; done) | simp -implicitDefEqProofs [pT38]) ?_
            exact (show ∃ _, _ from ⟨aI .i64 x_101 1, leafL h1, (Ent.to 2 (by simp [fgt]) (by first | (simp; done) | simp [pT38]) (by simp) (by simp [bndT, bndV]) (by simp [bndM, bndV]))⟩)
        · replace h1 := iteF g102 h1
          refine VW.exit ?_
          have e_ := leafR h1
          subst w_1
          exact (show ∃ _, _ from ⟨(), h, (Ent.to 2 (by simp [fgt]) (by first | (simp; done) | simp [pT38]) (by simp) (by simp [bndT, bndV]) (by simp [bndM, bndV]))⟩)
      · rintro _ h
        replace h : (g10_j2 h_ g).bind _ = _ := h
        rw [g10_j2] at h
        refine VW.seq ?_
        refine VW.evalD2k [2, 3] 6 (tm 161 [(2, .ptr 0 0 0), (3, .ptr 1 0 0), (11, .ptr 2 0 0), (12, .ptr 3 0 0)]) [some (14, [(pT38 h_)]), some (14, [(pT38 g)]), some (5, [[.f .f32 h_.sums_.burnt_, .f .f32 h_.sums_.steam_, .f .f32 h_.sums_.up_, .f .f32 h_.sums_.lost_, .i .i64 h_.sums_.smoky_]]), some (5, [[.f .f32 g.sums_.burnt_, .f .f32 g.sums_.steam_, .f .f32 g.sums_.up_, .f .f32 g.sums_.lost_, .i .i64 g.sums_.smoky_]])] [] rfl rfl rfl mixed (by kernel_rfl) (by first | (simp -implicitDefEqProofs; done) | simp -implicitDefEqProofs [pT38]) ?_
        refine VW.seq ?_
        obtain ⟨w79, q80, h⟩ := bindE h
        refine VW.evalK1 (C := [(26, F26), (27, F27), (28, F28), (29, F29), (30, F30)]) (tm 161 [(4, .b w79)]) [some (14, [(pT38 h_)]), some (14, [(pT38 g)]), some (5, [[.f .f32 h_.sums_.burnt_, .f .f32 h_.sums_.steam_, .f .f32 h_.sums_.up_, .f .f32 h_.sums_.lost_, .i .i64 h_.sums_.smoky_]]), some (5, [[.f .f32 g.sums_.burnt_, .f .f32 g.sums_.steam_, .f .f32 g.sums_.up_, .f .f32 g.sums_.lost_, .i .i64 g.sums_.smoky_]])] [] ⟨.inl ok26, .inl ok27, .inl ok28, .inl ok29, .inl ok30, trivial⟩ (by kernel_rfl) (by
            refine Or.elim (Bool.eq_false_or_eq_true (eqI h_.tick_ g.tick_ && eqI h_.sums_.smoky_ g.sums_.smoky_)) (fun q81 => ?_) (fun q81 => ?_)
            · first
              | (simp at q81; done)
              | (rw [if_pos q81] at q80
                 refine Exists.elim (bindQ q80) fun r77 e_ => ?_
                 have q78 := e_.1
                 replace q80 := e_.2
                 have c78 : F30 [.sl 1 [[.f .f32 h_.sums_.burnt_], [.f .f32 h_.sums_.steam_], [.f .f32 h_.sums_.up_], [.f .f32 h_.sums_.lost_]], .sl 1 [[.f .f32 g.sums_.burnt_], [.f .f32 g.sums_.steam_], [.f .f32 g.sums_.up_], [.f .f32 g.sums_.lost_]]] = some (.b r77) := tells_eq inj30 (a := ([h_.sums_.burnt_, h_.sums_.steam_, h_.sums_.up_, h_.sums_.lost_], [g.sums_.burnt_, g.sums_.steam_, g.sums_.up_, g.sums_.lost_])) q78
                 have d82 : w79 = _ := (Option.some.inj q80).symm
                 first | (simp -implicitDefEqProofs [q81, c78, d82, pT38]; done) | simp -implicitDefEqProofs [q81, c78, d82])
            · first
              | (simp at q81; done)
              | (rw [if_neg (by rw [q81]; exact Bool.false_ne_true)] at q80
                 have d83 : w79 = _ := (Option.some.inj q80).symm
                 first | (simp -implicitDefEqProofs [q81, d83, pT38]; done) | simp -implicitDefEqProofs [q81, d83])) (by simp [bndT, bndV]) (by simp [bndM, bndV]) (by simp [bndT, bndV]) ?_
        obtain rfl := leafS h
        refine VW.ret (VRet.fin ?_)
        first | (simp [eB10]; done) | simp [eB10, pT38]
noncomputable def g59 (a : F32) (b : F32) : Option (Bool) :=
  if (neF .f64 a a || neF .f64 b b) = true then
    some (neF .f64 a a && neF .f64 b b)
  else
    if (eqF .f64 a (some 0) && eqF .f64 b (some 0)) = true then
      some ((gtF .f64 (quoF .f64 (some 4607182418800017408) a) (some 0)) == (gtF .f64 (quoF .f64 (some 4607182418800017408) b) (some 0)))
    else
      some (eqF .f64 a b)
def eA59 (a : F32 × F32) : List V := [.f .f64 a.1, .f .f64 a.2]
def eB59 (r : Bool) : V := .b r
theorem inj59 (a a' : F32 × F32) (h : eA59 a = eA59 a') : a = a' := by
  obtain ⟨i943, i944⟩ := a
  obtain ⟨i945, i946⟩ := a'
  simp only [eA59, List.cons.injEq, V.i.injEq, V.b.injEq, V.f.injEq, V.str.injEq, V.sl.injEq, V.agg.injEq, V.cptr.injEq, true_and, and_true] at h
  simp_all
noncomputable def F59 : List V → Option V := tells (fun a => g59 a.1 a.2) eA59 eB59
set_option maxRecDepth 100000 in
set_option maxHeartbeats 4000000 in
/- loop.example/g01229/laws.sameFloat -/
theorem ok59 : Tells Try.prog 59 F59 := by
  refine Tells.of (by kernel_rfl) ?_
  rintro ⟨a, b⟩ r h
  refine VCalls.nl (VCalls.of Try.func59 rfl rfl rfl ?_)
  rw [tm_init]
  simp only [eA59, en, List.length_cons, List.length_nil, Nat.reduceAdd, Nat.reduceSub]
  replace h : (g59 a b).bind some = some r := bindS h
  rw [g59] at h
  refine VW.seq ?_
  refine VW.evalA (C := []) (tm 37 [(0, .f .f64 a), (1, .f .f64 b)]) [] [] trivial (by kernel_rfl) (by simp -implicitDefEqProofs) ?_
  refine VW.seq ?_
  refine VW.seq ?_
  refine VW.evalA (C := []) (tm 37 [(0, .f .f64 a), (1, .f .f64 b), (12, .b (neF .f64 a a || neF .f64 b b))]) [] [] trivial (by kernel_rfl) (by simp -implicitDefEqProofs) ?_
  refine VW.condB (b := (neF .f64 a a || neF .f64 b b)) (by simp) (fun g1 => ?_) (fun g1 => ?_)
  · replace h := iteT g1 h
    refine VW.seq ?_
    refine VW.evalA (C := []) (tm 37 [(4, .b (neF .f64 a a && neF .f64 b b))]) [] [] trivial (by kernel_rfl) (by simp -implicitDefEqProofs) ?_
    obtain rfl := leafS h
    refine VW.ret (VRet.fin ?_)
    simp [eB59]
  · replace h := iteF g1 h
    refine VW.skip ?_
    refine VW.seq ?_
    refine VW.seq ?_
    refine VW.evalA (C := []) (tm 37 [(0, .f .f64 a), (1, .f .f64 b), (26, .b (eqF .f64 a (some 0) && eqF .f64 b (some 0)))]) [] [] trivial (by kernel_rfl) (by simp -implicitDefEqProofs) ?_
    refine VW.condB (b := (eqF .f64 a (some 0) && eqF .f64 b (some 0))) (by simp) (fun g2 => ?_) (fun g2 => ?_)
    · replace h := iteT g2 h
      refine VW.seq ?_
      refine VW.evalA (C := []) (tm 37 [(4, .b ((gtF .f64 (quoF .f64 (some 4607182418800017408) a) (some 0)) == (gtF .f64 (quoF .f64 (some 4607182418800017408) b) (some 0))))]) [] [] trivial (by kernel_rfl) (by simp -implicitDefEqProofs) ?_
      obtain rfl := leafS h
      refine VW.ret (VRet.fin ?_)
      simp [eB59]
    · replace h := iteF g2 h
      refine VW.skip ?_
      refine VW.seq ?_
      refine VW.evalA (C := []) (tm 37 [(4, .b (eqF .f64 a b))]) [] [] trivial (by kernel_rfl) (by simp -implicitDefEqProofs) ?_
      obtain rfl := leafS h
      refine VW.ret (VRet.fin ?_)
      simp [eB59]
noncomputable def g53_j1 : Option (Bool) :=
  some true
noncomputable def g53_L1 (a : List F32) (b : List F32) : (Int) → Option ((Int) ⊕ ((Unit) ⊕ (Bool)))
  | i_45 =>
    if ltI i_45 (a.length : Int) = true then
      (idx a i_45).bind fun e47 =>
      (idx b i_45).bind fun e49 =>
      (g59 (wide e47) (wide e49)).bind fun r51 =>
      if (!r51) = true then
        some (.inr (.inr false))
      else
        some (.inl (aI .i64 i_45 1))
    else
      some (.inr (.inl ()))
noncomputable def g53 (a : List F32) (b : List F32) : Option (Bool) :=
  if (!eqI (a.length : Int) (b.length : Int)) = true then
    some false
  else
    (loopO (g53_L1 a b) 0).bind fun w => match w with
      | .inl y => g53_j1
      | .inr r => some r
def eA53 (a : (List F32) × (List F32)) : List V := [.sl 1 (rows cf_f32 a.1), .sl 1 (rows cf_f32 a.2)]
def eB53 (r : Bool) : V := .b r
theorem inj53 (a a' : (List F32) × (List F32)) (h : eA53 a = eA53 a') : a = a' := by
  obtain ⟨i947, i948⟩ := a
  obtain ⟨i949, i950⟩ := a'
  simp only [eA53, List.cons.injEq, V.i.injEq, V.b.injEq, V.f.injEq, V.str.injEq, V.sl.injEq, V.agg.injEq, V.cptr.injEq, true_and, and_true] at h
  simp_all [ri cf_f32_inj]
noncomputable def F53 : List V → Option V := tells (fun a => g53 a.1 a.2) eA53 eB53
set_option maxRecDepth 100000 in
set_option maxHeartbeats 4000000 in
/- loop.example/g01229/laws.eqFloat32S -/
theorem ok53 : Tells Try.prog 53 F53 := by
  refine Tells.of (by kernel_rfl) ?_
  rintro ⟨a, b⟩ r h
  refine VCalls.nl (VCalls.of Try.func53 rfl rfl rfl ?_)
  rw [tm_init]
  simp only [eA53, en, List.length_cons, List.length_nil, Nat.reduceAdd, Nat.reduceSub]
  replace h : (g53 a b).bind some = some r := bindS h
  rw [g53] at h
  refine VW.seq ?_
  refine VW.evalA (C := [(59, F59)]) (tm 29 [(0, .sl 1 (rows cf_f32 a)), (1, .sl 1 (rows cf_f32 b))]) [] [] ⟨.inl ok59, trivial⟩ (by kernel_rfl) (by simp -implicitDefEqProofs) ?_
  refine VW.seq ?_
  refine VW.seq ?_
  refine VW.evalA (C := [(59, F59)]) (tm 29 [(0, .sl 1 (rows cf_f32 a)), (1, .sl 1 (rows cf_f32 b)), (10, .b (!eqI (a.length : Int) (b.length : Int)))]) [] [] ⟨.inl ok59, trivial⟩ (by kernel_rfl) (by simp -implicitDefEqProofs) ?_
  refine VW.condB (b := (!eqI (a.length : Int) (b.length : Int))) (by simp) (fun g1 => ?_) (fun g1 => ?_)
  · replace h := iteT g1 h
    refine VW.seq ?_
    refine VW.evalA (C := [(59, F59)]) (tm 29 [(4, .b false)]) [] [] ⟨.inl ok59, trivial⟩ (by kernel_rfl) (by simp -implicitDefEqProofs) ?_
    obtain rfl := leafS h
    refine VW.ret (VRet.fin ?_)
    simp [eB53]
  · replace h := iteF g1 h
    refine VW.skip ?_
    refine VW.join (fun (v : Unit) => (⟨(tm 29 []), [], []⟩ : VS)) (fun v => (g53_j1).bind some = some r) ?_ ?_
    · refine VW.seq ?_
      refine VW.evalA (C := [(59, F59)]) (tm 29 [(0, .sl 1 (rows cf_f32 a)), (1, .sl 1 (rows cf_f32 b)), (5, .i .i64 0)]) [] [] ⟨.inl ok59, trivial⟩ (by kernel_rfl) (by simp -implicitDefEqProofs) ?_
      refine VW.block ?_
      obtain ⟨w_1, hw_1, h⟩ := bindE h
      refine VW.loopO (fun (x : Int) => (⟨(tm 29 [(0, .sl 1 (rows cf_f32 a)), (1, .sl 1 (rows cf_f32 b)), (5, .i .i64 x)]), [], []⟩ : VS)) hw_1 (Ent.to 0 (by simp [fgt]) (by simp) (by simp) (by simp [bndT, bndV]) (by simp [bndM, bndV])) ?_
      rintro n_1 i_45 h1
      rw [g53_L1] at h1
      refine VW.seq ?_
      refine VW.seq ?_
      refine VW.evalA (C := [(59, F59)]) (tm 29 [(0, .sl 1 (rows cf_f32 a)), (1, .sl 1 (rows cf_f32 b)), (5, .i .i64 i_45), (14, .b (ltI i_45 (a.length : Int)))]) [] [] ⟨.inl ok59, trivial⟩ (by kernel_rfl) (by simp -implicitDefEqProofs) ?_
      refine VW.condB (b := ltI i_45 (a.length : Int)) (by simp) (fun g46 => ?_) (fun g46 => ?_)
      · replace h1 := iteT g46 h1
        refine VW.skip ?_
        refine VW.seq ?_
        refine VW.block ?_
        refine VW.seq ?_
        obtain ⟨e47, q48, h1⟩ := bindE h1
        obtain ⟨f48a, f48b, f48c, f48d⟩ := idx_some q48
        obtain ⟨e49, q50, h1⟩ := bindE h1
        obtain ⟨f50a, f50b, f50c, f50d⟩ := idx_some q50
        obtain ⟨r51, q52, h1⟩ := bindE h1
        have c52 : F59 [.f .f64 (wide e47), .f .f64 (wide e49)] = some (.b r51) := tells_eq inj59 (a := (wide e47, wide e49)) q52
        refine VW.evalDA (C := [(59, F59)]) (tm 29 [(0, .sl 1 (rows cf_f32 a)), (1, .sl 1 (rows cf_f32 b)), (5, .i .i64 i_45), (28, .b (!r51))]) [] [] ⟨.inl ok59, trivial⟩ mixed (by kernel_rfl) (by simp -implicitDefEqProofs [f48a, f48b, f48c, f48d, f50a, f50b, f50c, f50d, c52]) ?_
        refine VW.condB (b := (!r51)) (by simp) (fun g53 => ?_) (fun g53 => ?_)
        · replace h1 := iteT g53 h1
          refine VW.seq ?_
          refine VW.evalA (C := [(59, F59)]) (tm 29 [(4, .b false)]) [] [] ⟨.inl ok59, trivial⟩ (by kernel_rfl) (by simp -implicitDefEqProofs) ?_
          have e_ := leafR h1
          subst w_1
          obtain rfl := leafS h
          refine VW.ret (VRet.fin ?_)
          simp [eB53]
        · replace h1 := iteF g53 h1
          refine VW.skip ?_
          refine VW.evalA (C := [(59, F59)]) (tm 29 [(0, .sl 1 (rows cf_f32 a)), (1, .sl 1 (rows cf_f32 b)), (5, .i .i64 (aI .i64 i_45 1))]) [] [] ⟨.inl ok59, trivial⟩ (by kernel_rfl) (by simp -implicitDefEqProofs) ?_
          exact (show ∃ _, _ from ⟨aI .i64 i_45 1, leafL h1, (Ent.to 0 (by simp [fgt]) (by simp) (by simp) (by simp [bndT, bndV]) (by simp [bndM, bndV]))⟩)
      · replace h1 := iteF g46 h1
        refine VW.exit ?_
        have e_ := leafR h1
        subst w_1
        exact (show ∃ _, _ from ⟨(), h, (Ent.to 0 (by simp [fgt]) (by simp) (by simp) (by simp [bndT, bndV]) (by simp [bndM, bndV]))⟩)
    · rintro _ h
      replace h : (g53_j1).bind _ = _ := h
      rw [g53_j1] at h
      refine VW.seq ?_
      refine VW.evalA (C := [(59, F59)]) (tm 29 [(4, .b true)]) [] [] ⟨.inl ok59, trivial⟩ (by kernel_rfl) (by simp -implicitDefEqProofs) ?_
      obtain rfl := leafS h
      refine VW.ret (VRet.fin ?_)
      simp [eB53]
noncomputable def g74_j1 : Option (Bool) :=
  some true
noncomputable def g74 (a : T109) (b : T109) : Option (Bool) :=
  (g59 (wide a.a0_) (wide b.a0_)).bind fun r13 =>
  if (!r13) = true then
    some false
  else
    (g59 (wide a.a1_) (wide b.a1_)).bind fun r16 =>
    if (!r16) = true then
      some false
    else
      (g59 (wide a.a2_) (wide b.a2_)).bind fun r19 =>
      if (!r19) = true then
        some false
      else
        (g59 (wide a.a3_) (wide b.a3_)).bind fun r22 =>
        if (!r22) = true then
          some false
        else
          g74_j1
def eA74 (a : T109 × T109) : List V := [.agg (pT109 a.1), .agg (pT109 a.2)]
def eB74 (r : Bool) : V := .b r
theorem inj74 (a a' : T109 × T109) (h : eA74 a = eA74 a') : a = a' := by
  obtain ⟨⟨i951, i952, i953, i954⟩, ⟨i955, i956, i957, i958⟩⟩ := a
  obtain ⟨⟨i959, i960, i961, i962⟩, ⟨i963, i964, i965, i966⟩⟩ := a'
  simp only [eA74, pT109, List.cons.injEq, V.i.injEq, V.b.injEq, V.f.injEq, V.str.injEq, V.sl.injEq, V.agg.injEq, V.cptr.injEq, true_and, and_true] at h
  simp_all
noncomputable def F74 : List V → Option V := tells (fun a => g74 a.1 a.2) eA74 eB74
set_option maxRecDepth 100000 in
set_option maxHeartbeats 4000000 in
/- loop.example/g01229/laws.eqFloat32A4 -/
theorem ok74 : Tells Try.prog 74 F74 := by
  refine Tells.of (by kernel_rfl) ?_
  rintro ⟨a, b⟩ r h
  refine VCalls.nl (VCalls.of Try.func74 rfl rfl rfl ?_)
  rw [tm_init]
  simp only [eA74, en, List.length_cons, List.length_nil, Nat.reduceAdd, Nat.reduceSub]
  replace h : (g74 a b).bind some = some r := bindS h
  rw [g74] at h
  refine VW.seq ?_
  refine VW.evalA (C := [(59, F59)]) (tm 20 [(2, .ptr 0 0 0), (3, .ptr 1 0 0)]) [some (4, [(pT109 a)]), some (4, [(pT109 b)])] [] ⟨.inl ok59, trivial⟩ (by kernel_rfl) (by first | (simp -implicitDefEqProofs; done) | simp -implicitDefEqProofs [pT109]) ?_
  refine VW.join (fun (v : Unit) => (⟨(tm 20 []), [some (4, [(pT109 a)]), some (4, [(pT109 b)])], []⟩ : VS)) (fun v => (g74_j1).bind some = some r) ?_ ?_
  · refine VW.seq ?_
    refine VW.evalA (C := [(59, F59)]) (tm 20 [(2, .ptr 0 0 0), (3, .ptr 1 0 0), (5, .i .i64 0)]) [some (4, [(pT109 a)]), some (4, [(pT109 b)])] [] ⟨.inl ok59, trivial⟩ (by kernel_rfl) (by first | (simp -implicitDefEqProofs; done) | simp -implicitDefEqProofs [pT109]) ?_
    refine VW.block ?_
    refine VW.rounds 6 ?_
    refine VRounds.step ?_
    refine VW.seq ?_
    refine VW.seq ?_
    refine VW.evalA (C := [(59, F59)]) (tm 20 [(2, .ptr 0 0 0), (3, .ptr 1 0 0), (5, .i .i64 0), (7, .b true)]) [some (4, [(pT109 a)]), some (4, [(pT109 b)])] [] ⟨.inl ok59, trivial⟩ (by kernel_rfl) (by first | (simp -implicitDefEqProofs [(by decide : ltI 0 4 = true)]; done) | simp -implicitDefEqProofs [(by decide : ltI 0 4 = true), pT109]) ?_
    refine VW.condT (by simp) ?_
    refine VW.skip ?_
    refine VW.seq ?_
    refine VW.block ?_
    refine VW.seq ?_
    obtain ⟨r13, q14, h⟩ := bindE h
    have c14 : F59 [.f .f64 (wide a.a0_), .f .f64 (wide b.a0_)] = some (.b r13) := tells_eq inj59 (a := (wide a.a0_, wide b.a0_)) q14
    refine VW.evalDA (C := [(59, F59)]) (tm 20 [(2, .ptr 0 0 0), (3, .ptr 1 0 0), (5, .i .i64 0), (19, .b (!r13))]) [some (4, [(pT109 a)]), some (4, [(pT109 b)])] [] ⟨.inl ok59, trivial⟩ mixed (by kernel_rfl) (by first | (simp -implicitDefEqProofs [c14]; done) | simp -implicitDefEqProofs [c14, pT109]) ?_
    refine VW.condB (b := (!r13)) (by simp) (fun g15 => ?_) (fun g15 => ?_)
    · replace h := iteT g15 h
      refine VW.seq ?_
      refine VW.evalA (C := [(59, F59)]) (tm 20 [(4, .b false)]) [some (4, [(pT109 a)]), some (4, [(pT109 b)])] [] ⟨.inl ok59, trivial⟩ (by kernel_rfl) (by first | (simp -implicitDefEqProofs; done) | simp -implicitDefEqProofs [pT109]) ?_
      obtain rfl := leafS h
      refine VW.ret (VRet.fin ?_)
      first | (simp [eB74]; done) | simp [eB74, pT109]
    · replace h := iteF g15 h
      refine VW.skip ?_
      refine VW.evalA (C := [(59, F59)]) (tm 20 [(2, .ptr 0 0 0), (3, .ptr 1 0 0), (5, .i .i64 1)]) [some (4, [(pT109 a)]), some (4, [(pT109 b)])] [] ⟨.inl ok59, trivial⟩ (by kernel_rfl) (by first | (simp -implicitDefEqProofs [(by decide : aI .i64 0 1 = 1)]; done) | simp -implicitDefEqProofs [(by decide : aI .i64 0 1 = 1), pT109]) ?_
      refine VRounds.step ?_
      refine VW.seq ?_
      refine VW.seq ?_
      refine VW.evalA (C := [(59, F59)]) (tm 20 [(2, .ptr 0 0 0), (3, .ptr 1 0 0), (5, .i .i64 1), (7, .b true)]) [some (4, [(pT109 a)]), some (4, [(pT109 b)])] [] ⟨.inl ok59, trivial⟩ (by kernel_rfl) (by first | (simp -implicitDefEqProofs [(by decide : ltI 1 4 = true)]; done) | simp -implicitDefEqProofs [(by decide : ltI 1 4 = true), pT109]) ?_
      refine VW.condT (by simp) ?_
      refine VW.skip ?_
      refine VW.seq ?_
      refine VW.block ?_
      refine VW.seq ?_
      obtain ⟨r16, q17, h⟩ := bindE h
      have c17 : F59 [.f .f64 (wide a.a1_), .f .f64 (wide b.a1_)] = some (.b r16) := tells_eq inj59 (a := (wide a.a1_, wide b.a1_)) q17
      refine VW.evalDA (C := [(59, F59)]) (tm 20 [(2, .ptr 0 0 0), (3, .ptr 1 0 0), (5, .i .i64 1), (19, .b (!r16))]) [some (4, [(pT109 a)]), some (4, [(pT109 b)])] [] ⟨.inl ok59, trivial⟩ mixed (by kernel_rfl) (by first | (simp -implicitDefEqProofs [c17]; done) | simp -implicitDefEqProofs [c17, pT109]) ?_
      refine VW.condB (b := (!r16)) (by simp) (fun g18 => ?_) (fun g18 => ?_)
      · replace h := iteT g18 h
        refine VW.seq ?_
        refine VW.evalA (C := [(59, F59)]) (tm 20 [(4, .b false)]) [some (4, [(pT109 a)]), some (4, [(pT109 b)])] [] ⟨.inl ok59, trivial⟩ (by kernel_rfl) (by first | (simp -implicitDefEqProofs; done) | simp -implicitDefEqProofs [pT109]) ?_
        obtain rfl := leafS h
        refine VW.ret (VRet.fin ?_)
        first | (simp [eB74]; done) | simp [eB74, pT109]
      · replace h := iteF g18 h
        refine VW.skip ?_
        refine VW.evalA (C := [(59, F59)]) (tm 20 [(2, .ptr 0 0 0), (3, .ptr 1 0 0), (5, .i .i64 2)]) [some (4, [(pT109 a)]), some (4, [(pT109 b)])] [] ⟨.inl ok59, trivial⟩ (by kernel_rfl) (by first | (simp -implicitDefEqProofs [(by decide : aI .i64 1 1 = 2)]; done) | simp -implicitDefEqProofs [(by decide : aI .i64 1 1 = 2), pT109]) ?_
        refine VRounds.step ?_
        refine VW.seq ?_
        refine VW.seq ?_
        refine VW.evalA (C := [(59, F59)]) (tm 20 [(2, .ptr 0 0 0), (3, .ptr 1 0 0), (5, .i .i64 2), (7, .b true)]) [some (4, [(pT109 a)]), some (4, [(pT109 b)])] [] ⟨.inl ok59, trivial⟩ (by kernel_rfl) (by first | (simp -implicitDefEqProofs [(by decide : ltI 2 4 = true)]; done) | simp -implicitDefEqProofs [(by decide : ltI 2 4 = true), pT109]) ?_
        refine VW.condT (by simp) ?_
        refine VW.skip ?_
        refine VW.seq ?_
        refine VW.block ?_
        refine VW.seq ?_
        obtain ⟨r19, q20, h⟩ := bindE h
        have c20 : F59 [.f .f64 (wide a.a2_), .f .f64 (wide b.a2_)] = some (.b r19) := tells_eq inj59 (a := (wide a.a2_, wide b.a2_)) q20
        refine VW.evalDA (C := [(59, F59)]) (tm 20 [(2, .ptr 0 0 0), (3, .ptr 1 0 0), (5, .i .i64 2), (19, .b (!r19))]) [some (4, [(pT109 a)]), some (4, [(pT109 b)])] [] ⟨.inl ok59, trivial⟩ mixed (by kernel_rfl) (by first | (simp -implicitDefEqProofs [c20]; done) | simp -implicitDefEqProofs [c20, pT109]) ?_
        refine VW.condB (b := (!r19)) (by simp) (fun g21 => ?_) (fun g21 => ?_)
        · replace h := iteT g21 h
          refine VW.seq ?_
          refine VW.evalA (C := [(59, F59)]) (tm 20 [(4, .b false)]) [some (4, [(pT109 a)]), some (4, [(pT109 b)])] [] ⟨.inl ok59, trivial⟩ (by kernel_rfl) (by first | (simp -implicitDefEqProofs; done) | simp -implicitDefEqProofs [pT109]) ?_
          obtain rfl := leafS h
          refine VW.ret (VRet.fin ?_)
          first | (simp [eB74]; done) | simp [eB74, pT109]
        · replace h := iteF g21 h
          refine VW.skip ?_
          refine VW.evalA (C := [(59, F59)]) (tm 20 [(2, .ptr 0 0 0), (3, .ptr 1 0 0), (5, .i .i64 3)]) [some (4, [(pT109 a)]), some (4, [(pT109 b)])] [] ⟨.inl ok59, trivial⟩ (by kernel_rfl) (by first | (simp -implicitDefEqProofs [(by decide : aI .i64 2 1 = 3)]; done) | simp -implicitDefEqProofs [(by decide : aI .i64 2 1 = 3), pT109]) ?_
          refine VRounds.step ?_
          refine VW.seq ?_
          refine VW.seq ?_
          refine VW.evalA (C := [(59, F59)]) (tm 20 [(2, .ptr 0 0 0), (3, .ptr 1 0 0), (5, .i .i64 3), (7, .b true)]) [some (4, [(pT109 a)]), some (4, [(pT109 b)])] [] ⟨.inl ok59, trivial⟩ (by kernel_rfl) (by first | (simp -implicitDefEqProofs [(by decide : ltI 3 4 = true)]; done) | simp -implicitDefEqProofs [(by decide : ltI 3 4 = true), pT109]) ?_
          refine VW.condT (by simp) ?_
          refine VW.skip ?_
          refine VW.seq ?_
          refine VW.block ?_
          refine VW.seq ?_
          obtain ⟨r22, q23, h⟩ := bindE h
          have c23 : F59 [.f .f64 (wide a.a3_), .f .f64 (wide b.a3_)] = some (.b r22) := tells_eq inj59 (a := (wide a.a3_, wide b.a3_)) q23
          refine VW.evalDA (C := [(59, F59)]) (tm 20 [(2, .ptr 0 0 0), (3, .ptr 1 0 0), (5, .i .i64 3), (19, .b (!r22))]) [some (4, [(pT109 a)]), some (4, [(pT109 b)])] [] ⟨.inl ok59, trivial⟩ mixed (by kernel_rfl) (by first | (simp -implicitDefEqProofs [c23]; done) | simp -implicitDefEqProofs [c23, pT109]) ?_
          refine VW.condB (b := (!r22)) (by simp) (fun g24 => ?_) (fun g24 => ?_)
          · replace h := iteT g24 h
            refine VW.seq ?_
            refine VW.evalA (C := [(59, F59)]) (tm 20 [(4, .b false)]) [some (4, [(pT109 a)]), some (4, [(pT109 b)])] [] ⟨.inl ok59, trivial⟩ (by kernel_rfl) (by first | (simp -implicitDefEqProofs; done) | simp -implicitDefEqProofs [pT109]) ?_
            obtain rfl := leafS h
            refine VW.ret (VRet.fin ?_)
            first | (simp [eB74]; done) | simp [eB74, pT109]
          · replace h := iteF g24 h
            refine VW.skip ?_
            refine VW.evalA (C := [(59, F59)]) (tm 20 [(2, .ptr 0 0 0), (3, .ptr 1 0 0), (5, .i .i64 4)]) [some (4, [(pT109 a)]), some (4, [(pT109 b)])] [] ⟨.inl ok59, trivial⟩ (by kernel_rfl) (by first | (simp -implicitDefEqProofs [(by decide : aI .i64 3 1 = 4)]; done) | simp -implicitDefEqProofs [(by decide : aI .i64 3 1 = 4), pT109]) ?_
            refine VRounds.step ?_
            refine VW.seq ?_
            refine VW.seq ?_
            refine VW.evalA (C := [(59, F59)]) (tm 20 [(2, .ptr 0 0 0), (3, .ptr 1 0 0), (5, .i .i64 4), (7, .b false)]) [some (4, [(pT109 a)]), some (4, [(pT109 b)])] [] ⟨.inl ok59, trivial⟩ (by kernel_rfl) (by first | (simp -implicitDefEqProofs [(by decide : ltI 4 4 = false)]; done) | simp -implicitDefEqProofs [(by decide : ltI 4 4 = false), pT109]) ?_
            refine VW.condF (by simp) ?_
            refine VW.exit ?_
            exact (show ∃ _, _ from ⟨(), h, (Ent.to 2 (by simp [fgt]) (by first | (simp; done) | simp [pT109]) (by simp) (by simp [bndT, bndV]) (by simp [bndM, bndV]))⟩)
  · rintro _ h
    replace h : (g74_j1).bind _ = _ := h
    rw [g74_j1] at h
    refine VW.seq ?_
    refine VW.evalA (C := [(59, F59)]) (tm 20 [(4, .b true)]) [some (4, [(pT109 a)]), some (4, [(pT109 b)])] [] ⟨.inl ok59, trivial⟩ (by kernel_rfl) (by first | (simp -implicitDefEqProofs; done) | simp -implicitDefEqProofs [pT109]) ?_
    obtain rfl := leafS h
    refine VW.ret (VRet.fin ?_)
    first | (simp [eB74]; done) | simp [eB74, pT109]
noncomputable def g67 (a : T132) (b : T132) : Option (Bool) :=
  if (!eqI a.a_ b.a_) = true then
    some false
  else
    if (!eqI a.b_ b.b_) = true then
      some false
    else
      (g59 (wide a.lead_) (wide b.lead_)).bind fun r3 =>
      if (!r3) = true then
        some false
      else
        (g59 (wide a.store_) (wide b.store_)).bind fun r6 =>
        if (!r6) = true then
          some false
        else
          (g74 a.heat_ b.heat_).bind fun r9 =>
          if (!r9) = true then
            some false
          else
            some true
def eA67 (a : T132 × T132) : List V := [.agg (pT132 a.1), .agg (pT132 a.2)]
def eB67 (r : Bool) : V := .b r
theorem inj67 (a a' : T132 × T132) (h : eA67 a = eA67 a') : a = a' := by
  obtain ⟨⟨i967, i968, i969, i970, ⟨i971, i972, i973, i974⟩⟩, ⟨i975, i976, i977, i978, ⟨i979, i980, i981, i982⟩⟩⟩ := a
  obtain ⟨⟨i983, i984, i985, i986, ⟨i987, i988, i989, i990⟩⟩, ⟨i991, i992, i993, i994, ⟨i995, i996, i997, i998⟩⟩⟩ := a'
  simp only [eA67, pT132, List.cons.injEq, V.i.injEq, V.b.injEq, V.f.injEq, V.str.injEq, V.sl.injEq, V.agg.injEq, V.cptr.injEq, true_and, and_true] at h
  simp_all
noncomputable def F67 : List V → Option V := tells (fun a => g67 a.1 a.2) eA67 eB67
set_option maxRecDepth 100000 in
set_option maxHeartbeats 4000000 in
/- loop.example/g01229/laws.eqWall -/
theorem ok67 : Tells Try.prog 67 F67 := by
  refine Tells.of (by kernel_rfl) ?_
  rintro ⟨a, b⟩ r h
  refine VCalls.nl (VCalls.of Try.func67 rfl rfl rfl ?_)
  rw [tm_init]
  simp only [eA67, en, List.length_cons, List.length_nil, Nat.reduceAdd, Nat.reduceSub]
  replace h : (g67 a b).bind some = some r := bindS h
  rw [g67] at h
  refine VW.seq ?_
  refine VW.evalA (C := [(59, F59), (74, F74)]) (tm 37 [(2, .ptr 0 0 0), (3, .ptr 1 0 0)]) [some (8, [(pT132 a)]), some (8, [(pT132 b)])] [] ⟨.inl ok59, .inl ok74, trivial⟩ (by kernel_rfl) (by first | (simp -implicitDefEqProofs; done) | simp -implicitDefEqProofs [pT132]) ?_
  refine VW.seq ?_
  refine VW.seq ?_
  refine VW.evalA (C := [(59, F59), (74, F74)]) (tm 37 [(2, .ptr 0 0 0), (3, .ptr 1 0 0), (9, .b (!eqI a.a_ b.a_))]) [some (8, [(pT132 a)]), some (8, [(pT132 b)])] [] ⟨.inl ok59, .inl ok74, trivial⟩ (by kernel_rfl) (by first | (simp -implicitDefEqProofs; done) | simp -implicitDefEqProofs [pT132]) ?_
  refine VW.condB (b := (!eqI a.a_ b.a_)) (by simp) (fun g1 => ?_) (fun g1 => ?_)
  · replace h := iteT g1 h
    refine VW.seq ?_
    refine VW.evalA (C := [(59, F59), (74, F74)]) (tm 37 [(4, .b false)]) [some (8, [(pT132 a)]), some (8, [(pT132 b)])] [] ⟨.inl ok59, .inl ok74, trivial⟩ (by kernel_rfl) (by first | (simp -implicitDefEqProofs; done) | simp -implicitDefEqProofs [pT132]) ?_
    obtain rfl := leafS h
    refine VW.ret (VRet.fin ?_)
    first | (simp [eB67]; done) | simp [eB67, pT132]
  · replace h := iteF g1 h
    refine VW.skip ?_
    refine VW.seq ?_
    refine VW.seq ?_
    refine VW.evalA (C := [(59, F59), (74, F74)]) (tm 37 [(2, .ptr 0 0 0), (3, .ptr 1 0 0), (14, .b (!eqI a.b_ b.b_))]) [some (8, [(pT132 a)]), some (8, [(pT132 b)])] [] ⟨.inl ok59, .inl ok74, trivial⟩ (by kernel_rfl) (by first | (simp -implicitDefEqProofs; done) | simp -implicitDefEqProofs [pT132]) ?_
    refine VW.condB (b := (!eqI a.b_ b.b_)) (by simp) (fun g2 => ?_) (fun g2 => ?_)
    · replace h := iteT g2 h
      refine VW.seq ?_
      refine VW.evalA (C := [(59, F59), (74, F74)]) (tm 37 [(4, .b false)]) [some (8, [(pT132 a)]), some (8, [(pT132 b)])] [] ⟨.inl ok59, .inl ok74, trivial⟩ (by kernel_rfl) (by first | (simp -implicitDefEqProofs; done) | simp -implicitDefEqProofs [pT132]) ?_
      obtain rfl := leafS h
      refine VW.ret (VRet.fin ?_)
      first | (simp [eB67]; done) | simp [eB67, pT132]
    · replace h := iteF g2 h
      refine VW.skip ?_
      refine VW.seq ?_
      refine VW.seq ?_
      obtain ⟨r3, q4, h⟩ := bindE h
      have c4 : F59 [.f .f64 (wide a.lead_), .f .f64 (wide b.lead_)] = some (.b r3) := tells_eq inj59 (a := (wide a.lead_, wide b.lead_)) q4
      refine VW.evalA (C := [(59, F59), (74, F74)]) (tm 37 [(2, .ptr 0 0 0), (3, .ptr 1 0 0), (22, .b (!r3))]) [some (8, [(pT132 a)]), some (8, [(pT132 b)])] [] ⟨.inl ok59, .inl ok74, trivial⟩ (by kernel_rfl) (by first | (simp -implicitDefEqProofs [c4]; done) | simp -implicitDefEqProofs [c4, pT132]) ?_
      refine VW.condB (b := (!r3)) (by simp) (fun g5 => ?_) (fun g5 => ?_)
      · replace h := iteT g5 h
        refine VW.seq ?_
        refine VW.evalA (C := [(59, F59), (74, F74)]) (tm 37 [(4, .b false)]) [some (8, [(pT132 a)]), some (8, [(pT132 b)])] [] ⟨.inl ok59, .inl ok74, trivial⟩ (by kernel_rfl) (by first | (simp -implicitDefEqProofs; done) | simp -implicitDefEqProofs [pT132]) ?_
        obtain rfl := leafS h
        refine VW.ret (VRet.fin ?_)
        first | (simp [eB67]; done) | simp [eB67, pT132]
      · replace h := iteF g5 h
        refine VW.skip ?_
        refine VW.seq ?_
        refine VW.seq ?_
        obtain ⟨r6, q7, h⟩ := bindE h
        have c7 : F59 [.f .f64 (wide a.store_), .f .f64 (wide b.store_)] = some (.b r6) := tells_eq inj59 (a := (wide a.store_, wide b.store_)) q7
        refine VW.evalA (C := [(59, F59), (74, F74)]) (tm 37 [(2, .ptr 0 0 0), (3, .ptr 1 0 0), (30, .b (!r6))]) [some (8, [(pT132 a)]), some (8, [(pT132 b)])] [] ⟨.inl ok59, .inl ok74, trivial⟩ (by kernel_rfl) (by first | (simp -implicitDefEqProofs [c7]; done) | simp -implicitDefEqProofs [c7, pT132]) ?_
        refine VW.condB (b := (!r6)) (by simp) (fun g8 => ?_) (fun g8 => ?_)
        · replace h := iteT g8 h
          refine VW.seq ?_
          refine VW.evalA (C := [(59, F59), (74, F74)]) (tm 37 [(4, .b false)]) [some (8, [(pT132 a)]), some (8, [(pT132 b)])] [] ⟨.inl ok59, .inl ok74, trivial⟩ (by kernel_rfl) (by first | (simp -implicitDefEqProofs; done) | simp -implicitDefEqProofs [pT132]) ?_
          obtain rfl := leafS h
          refine VW.ret (VRet.fin ?_)
          first | (simp [eB67]; done) | simp [eB67, pT132]
        · replace h := iteF g8 h
          refine VW.skip ?_
          refine VW.seq ?_
          refine VW.seq ?_
          obtain ⟨r9, q10, h⟩ := bindE h
          have c10 : F74 [.agg [.f .f32 a.heat_.a0_, .f .f32 a.heat_.a1_, .f .f32 a.heat_.a2_, .f .f32 a.heat_.a3_], .agg [.f .f32 b.heat_.a0_, .f .f32 b.heat_.a1_, .f .f32 b.heat_.a2_, .f .f32 b.heat_.a3_]] = some (.b r9) := tells_eq inj74 (a := (a.heat_, b.heat_)) q10
          refine VW.evalA (C := [(59, F59), (74, F74)]) (tm 37 [(36, .b (!r9))]) [some (8, [(pT132 a)]), some (8, [(pT132 b)])] [] ⟨.inl ok59, .inl ok74, trivial⟩ (by kernel_rfl) (by first | (simp -implicitDefEqProofs [c10]; done) | simp -implicitDefEqProofs [c10, pT132]) ?_
          refine VW.condB (b := (!r9)) (by simp) (fun g11 => ?_) (fun g11 => ?_)
          · replace h := iteT g11 h
            refine VW.seq ?_
            refine VW.evalA (C := [(59, F59), (74, F74)]) (tm 37 [(4, .b false)]) [some (8, [(pT132 a)]), some (8, [(pT132 b)])] [] ⟨.inl ok59, .inl ok74, trivial⟩ (by kernel_rfl) (by first | (simp -implicitDefEqProofs; done) | simp -implicitDefEqProofs [pT132]) ?_
            obtain rfl := leafS h
            refine VW.ret (VRet.fin ?_)
            first | (simp [eB67]; done) | simp [eB67, pT132]
          · replace h := iteF g11 h
            refine VW.skip ?_
            refine VW.seq ?_
            refine VW.evalA (C := [(59, F59), (74, F74)]) (tm 37 [(4, .b true)]) [some (8, [(pT132 a)]), some (8, [(pT132 b)])] [] ⟨.inl ok59, .inl ok74, trivial⟩ (by kernel_rfl) (by first | (simp -implicitDefEqProofs; done) | simp -implicitDefEqProofs [pT132]) ?_
            obtain rfl := leafS h
            refine VW.ret (VRet.fin ?_)
            first | (simp [eB67]; done) | simp [eB67, pT132]
noncomputable def g54_j1 : Option (Bool) :=
  some true
noncomputable def g54_L1 (a : List T132) (b : List T132) : (Int) → Option ((Int) ⊕ ((Unit) ⊕ (Bool)))
  | i_45 =>
    if ltI i_45 (a.length : Int) = true then
      (idx a i_45).bind fun e47 =>
      (idx b i_45).bind fun e49 =>
      (g67 e47 e49).bind fun r51 =>
      if (!r51) = true then
        some (.inr (.inr false))
      else
        some (.inl (aI .i64 i_45 1))
    else
      some (.inr (.inl ()))
noncomputable def g54 (a : List T132) (b : List T132) : Option (Bool) :=
  if (!eqI (a.length : Int) (b.length : Int)) = true then
    some false
  else
    (loopO (g54_L1 a b) 0).bind fun w => match w with
      | .inl y => g54_j1
      | .inr r => some r
def eA54 (a : (List T132) × (List T132)) : List V := [.sl 8 (rows cT132 a.1), .sl 8 (rows cT132 a.2)]
def eB54 (r : Bool) : V := .b r
theorem inj54 (a a' : (List T132) × (List T132)) (h : eA54 a = eA54 a') : a = a' := by
  obtain ⟨i999, i1000⟩ := a
  obtain ⟨i1001, i1002⟩ := a'
  simp only [eA54, List.cons.injEq, V.i.injEq, V.b.injEq, V.f.injEq, V.str.injEq, V.sl.injEq, V.agg.injEq, V.cptr.injEq, true_and, and_true] at h
  simp_all [ri cT132_inj]
noncomputable def F54 : List V → Option V := tells (fun a => g54 a.1 a.2) eA54 eB54
set_option maxRecDepth 100000 in
set_option maxHeartbeats 4000000 in
/- loop.example/g01229/laws.eqWallS -/
theorem ok54 : Tells Try.prog 54 F54 := by
  refine Tells.of (by kernel_rfl) ?_
  rintro ⟨a, b⟩ r h
  refine VCalls.nl (VCalls.of Try.func54 rfl rfl rfl ?_)
  rw [tm_init]
  simp only [eA54, en, List.length_cons, List.length_nil, Nat.reduceAdd, Nat.reduceSub]
  replace h : (g54 a b).bind some = some r := bindS h
  rw [g54] at h
  refine VW.seq ?_
  refine VW.evalA (C := [(67, F67)]) (tm 27 [(0, .sl 8 (rows cT132 a)), (1, .sl 8 (rows cT132 b))]) [] [] ⟨.inl ok67, trivial⟩ (by kernel_rfl) (by simp -implicitDefEqProofs) ?_
  refine VW.seq ?_
  refine VW.seq ?_
  refine VW.evalA (C := [(67, F67)]) (tm 27 [(0, .sl 8 (rows cT132 a)), (1, .sl 8 (rows cT132 b)), (10, .b (!eqI (a.length : Int) (b.length : Int)))]) [] [] ⟨.inl ok67, trivial⟩ (by kernel_rfl) (by simp -implicitDefEqProofs) ?_
  refine VW.condB (b := (!eqI (a.length : Int) (b.length : Int))) (by simp) (fun g1 => ?_) (fun g1 => ?_)
  · replace h := iteT g1 h
    refine VW.seq ?_
    refine VW.evalA (C := [(67, F67)]) (tm 27 [(4, .b false)]) [] [] ⟨.inl ok67, trivial⟩ (by kernel_rfl) (by simp -implicitDefEqProofs) ?_
    obtain rfl := leafS h
    refine VW.ret (VRet.fin ?_)
    simp [eB54]
  · replace h := iteF g1 h
    refine VW.skip ?_
    refine VW.join (fun (v : Unit) => (⟨(tm 27 []), [], []⟩ : VS)) (fun v => (g54_j1).bind some = some r) ?_ ?_
    · refine VW.seq ?_
      refine VW.evalA (C := [(67, F67)]) (tm 27 [(0, .sl 8 (rows cT132 a)), (1, .sl 8 (rows cT132 b)), (5, .i .i64 0)]) [] [] ⟨.inl ok67, trivial⟩ (by kernel_rfl) (by simp -implicitDefEqProofs) ?_
      refine VW.block ?_
      obtain ⟨w_1, hw_1, h⟩ := bindE h
      refine VW.loopO (fun (x : Int) => (⟨(tm 27 [(0, .sl 8 (rows cT132 a)), (1, .sl 8 (rows cT132 b)), (5, .i .i64 x)]), [], []⟩ : VS)) hw_1 (Ent.to 0 (by simp [fgt]) (by simp) (by simp) (by simp [bndT, bndV]) (by simp [bndM, bndV])) ?_
      rintro n_1 i_45 h1
      rw [g54_L1] at h1
      refine VW.seq ?_
      refine VW.seq ?_
      refine VW.evalA (C := [(67, F67)]) (tm 27 [(0, .sl 8 (rows cT132 a)), (1, .sl 8 (rows cT132 b)), (5, .i .i64 i_45), (14, .b (ltI i_45 (a.length : Int)))]) [] [] ⟨.inl ok67, trivial⟩ (by kernel_rfl) (by simp -implicitDefEqProofs) ?_
      refine VW.condB (b := ltI i_45 (a.length : Int)) (by simp) (fun g46 => ?_) (fun g46 => ?_)
      · replace h1 := iteT g46 h1
        refine VW.skip ?_
        refine VW.seq ?_
        refine VW.block ?_
        refine VW.seq ?_
        obtain ⟨e47, q48, h1⟩ := bindE h1
        obtain ⟨f48a, f48b, f48c, f48d⟩ := idx_some q48
        obtain ⟨e49, q50, h1⟩ := bindE h1
        obtain ⟨f50a, f50b, f50c, f50d⟩ := idx_some q50
        obtain ⟨r51, q52, h1⟩ := bindE h1
        have c52 : F67 [.agg [.i .i64 e47.a_, .i .i64 e47.b_, .f .f32 e47.lead_, .f .f32 e47.store_, .f .f32 e47.heat_.a0_, .f .f32 e47.heat_.a1_, .f .f32 e47.heat_.a2_, .f .f32 e47.heat_.a3_], .agg [.i .i64 e49.a_, .i .i64 e49.b_, .f .f32 e49.lead_, .f .f32 e49.store_, .f .f32 e49.heat_.a0_, .f .f32 e49.heat_.a1_, .f .f32 e49.heat_.a2_, .f .f32 e49.heat_.a3_]] = some (.b r51) := tells_eq inj67 (a := (e47, e49)) q52
        refine VW.evalDA (C := [(67, F67)]) (tm 27 [(0, .sl 8 (rows cT132 a)), (1, .sl 8 (rows cT132 b)), (5, .i .i64 i_45), (26, .b (!r51))]) [] [] ⟨.inl ok67, trivial⟩ mixed (by kernel_rfl) (by simp -implicitDefEqProofs [f48a, f48b, f48c, f48d, f50a, f50b, f50c, f50d, c52]) ?_
        refine VW.condB (b := (!r51)) (by simp) (fun g53 => ?_) (fun g53 => ?_)
        · replace h1 := iteT g53 h1
          refine VW.seq ?_
          refine VW.evalA (C := [(67, F67)]) (tm 27 [(4, .b false)]) [] [] ⟨.inl ok67, trivial⟩ (by kernel_rfl) (by simp -implicitDefEqProofs) ?_
          have e_ := leafR h1
          subst w_1
          obtain rfl := leafS h
          refine VW.ret (VRet.fin ?_)
          simp [eB54]
        · replace h1 := iteF g53 h1
          refine VW.skip ?_
          refine VW.evalA (C := [(67, F67)]) (tm 27 [(0, .sl 8 (rows cT132 a)), (1, .sl 8 (rows cT132 b)), (5, .i .i64 (aI .i64 i_45 1))]) [] [] ⟨.inl ok67, trivial⟩ (by kernel_rfl) (by simp -implicitDefEqProofs) ?_
          exact (show ∃ _, _ from ⟨aI .i64 i_45 1, leafL h1, (Ent.to 0 (by simp [fgt]) (by simp) (by simp) (by simp [bndT, bndV]) (by simp [bndM, bndV]))⟩)
      · replace h1 := iteF g46 h1
        refine VW.exit ?_
        have e_ := leafR h1
        subst w_1
        exact (show ∃ _, _ from ⟨(), h, (Ent.to 0 (by simp [fgt]) (by simp) (by simp) (by simp [bndT, bndV]) (by simp [bndM, bndV]))⟩)
    · rintro _ h
      replace h : (g54_j1).bind _ = _ := h
      rw [g54_j1] at h
      refine VW.seq ?_
      refine VW.evalA (C := [(67, F67)]) (tm 27 [(4, .b true)]) [] [] ⟨.inl ok67, trivial⟩ (by kernel_rfl) (by simp -implicitDefEqProofs) ?_
      obtain rfl := leafS h
      refine VW.ret (VRet.fin ?_)
      simp [eB54]
noncomputable def g68 (a : T134) (b : T134) : Option (Bool) :=
  if (!eqI a.a_ b.a_) = true then
    some false
  else
    if (!eqI a.b_ b.b_) = true then
      some false
    else
      (g59 (wide a.lead_) (wide b.lead_)).bind fun r3 =>
      if (!r3) = true then
        some false
      else
        (g59 (wide a.sun_) (wide b.sun_)).bind fun r6 =>
        if (!r6) = true then
          some false
        else
          some true
def eA68 (a : T134 × T134) : List V := [.agg (pT134 a.1), .agg (pT134 a.2)]
def eB68 (r : Bool) : V := .b r
theorem inj68 (a a' : T134 × T134) (h : eA68 a = eA68 a') : a = a' := by
  obtain ⟨⟨i1003, i1004, i1005, i1006⟩, ⟨i1007, i1008, i1009, i1010⟩⟩ := a
  obtain ⟨⟨i1011, i1012, i1013, i1014⟩, ⟨i1015, i1016, i1017, i1018⟩⟩ := a'
  simp only [eA68, pT134, List.cons.injEq, V.i.injEq, V.b.injEq, V.f.injEq, V.str.injEq, V.sl.injEq, V.agg.injEq, V.cptr.injEq, true_and, and_true] at h
  simp_all
noncomputable def F68 : List V → Option V := tells (fun a => g68 a.1 a.2) eA68 eB68
set_option maxRecDepth 100000 in
set_option maxHeartbeats 4000000 in
/- loop.example/g01229/laws.eqPane -/
theorem ok68 : Tells Try.prog 68 F68 := by
  refine Tells.of (by kernel_rfl) ?_
  rintro ⟨a, b⟩ r h
  refine VCalls.nl (VCalls.of Try.func68 rfl rfl rfl ?_)
  rw [tm_init]
  simp only [eA68, en, List.length_cons, List.length_nil, Nat.reduceAdd, Nat.reduceSub]
  replace h : (g68 a b).bind some = some r := bindS h
  rw [g68] at h
  refine VW.seq ?_
  refine VW.evalA (C := [(59, F59)]) (tm 31 [(2, .ptr 0 0 0), (3, .ptr 1 0 0)]) [some (4, [(pT134 a)]), some (4, [(pT134 b)])] [] ⟨.inl ok59, trivial⟩ (by kernel_rfl) (by first | (simp -implicitDefEqProofs; done) | simp -implicitDefEqProofs [pT134]) ?_
  refine VW.seq ?_
  refine VW.seq ?_
  refine VW.evalA (C := [(59, F59)]) (tm 31 [(2, .ptr 0 0 0), (3, .ptr 1 0 0), (9, .b (!eqI a.a_ b.a_))]) [some (4, [(pT134 a)]), some (4, [(pT134 b)])] [] ⟨.inl ok59, trivial⟩ (by kernel_rfl) (by first | (simp -implicitDefEqProofs; done) | simp -implicitDefEqProofs [pT134]) ?_
  refine VW.condB (b := (!eqI a.a_ b.a_)) (by simp) (fun g1 => ?_) (fun g1 => ?_)
  · replace h := iteT g1 h
    refine VW.seq ?_
    refine VW.evalA (C := [(59, F59)]) (tm 31 [(4, .b false)]) [some (4, [(pT134 a)]), some (4, [(pT134 b)])] [] ⟨.inl ok59, trivial⟩ (by kernel_rfl) (by first | (simp -implicitDefEqProofs; done) | simp -implicitDefEqProofs [pT134]) ?_
    obtain rfl := leafS h
    refine VW.ret (VRet.fin ?_)
    first | (simp [eB68]; done) | simp [eB68, pT134]
  · replace h := iteF g1 h
    refine VW.skip ?_
    refine VW.seq ?_
    refine VW.seq ?_
    refine VW.evalA (C := [(59, F59)]) (tm 31 [(2, .ptr 0 0 0), (3, .ptr 1 0 0), (14, .b (!eqI a.b_ b.b_))]) [some (4, [(pT134 a)]), some (4, [(pT134 b)])] [] ⟨.inl ok59, trivial⟩ (by kernel_rfl) (by first | (simp -implicitDefEqProofs; done) | simp -implicitDefEqProofs [pT134]) ?_
    refine VW.condB (b := (!eqI a.b_ b.b_)) (by simp) (fun g2 => ?_) (fun g2 => ?_)
    · replace h := iteT g2 h
      refine VW.seq ?_
      refine VW.evalA (C := [(59, F59)]) (tm 31 [(4, .b false)]) [some (4, [(pT134 a)]), some (4, [(pT134 b)])] [] ⟨.inl ok59, trivial⟩ (by kernel_rfl) (by first | (simp -implicitDefEqProofs; done) | simp -implicitDefEqProofs [pT134]) ?_
      obtain rfl := leafS h
      refine VW.ret (VRet.fin ?_)
      first | (simp [eB68]; done) | simp [eB68, pT134]
    · replace h := iteF g2 h
      refine VW.skip ?_
      refine VW.seq ?_
      refine VW.seq ?_
      obtain ⟨r3, q4, h⟩ := bindE h
      have c4 : F59 [.f .f64 (wide a.lead_), .f .f64 (wide b.lead_)] = some (.b r3) := tells_eq inj59 (a := (wide a.lead_, wide b.lead_)) q4
      refine VW.evalA (C := [(59, F59)]) (tm 31 [(2, .ptr 0 0 0), (3, .ptr 1 0 0), (22, .b (!r3))]) [some (4, [(pT134 a)]), some (4, [(pT134 b)])] [] ⟨.inl ok59, trivial⟩ (by kernel_rfl) (by first | (simp -implicitDefEqProofs [c4]; done) | simp -implicitDefEqProofs [c4, pT134]) ?_
      refine VW.condB (b := (!r3)) (by simp) (fun g5 => ?_) (fun g5 => ?_)
      · replace h := iteT g5 h
        refine VW.seq ?_
        refine VW.evalA (C := [(59, F59)]) (tm 31 [(4, .b false)]) [some (4, [(pT134 a)]), some (4, [(pT134 b)])] [] ⟨.inl ok59, trivial⟩ (by kernel_rfl) (by first | (simp -implicitDefEqProofs; done) | simp -implicitDefEqProofs [pT134]) ?_
        obtain rfl := leafS h
        refine VW.ret (VRet.fin ?_)
        first | (simp [eB68]; done) | simp [eB68, pT134]
      · replace h := iteF g5 h
        refine VW.skip ?_
        refine VW.seq ?_
        refine VW.seq ?_
        obtain ⟨r6, q7, h⟩ := bindE h
        have c7 : F59 [.f .f64 (wide a.sun_), .f .f64 (wide b.sun_)] = some (.b r6) := tells_eq inj59 (a := (wide a.sun_, wide b.sun_)) q7
        refine VW.evalA (C := [(59, F59)]) (tm 31 [(30, .b (!r6))]) [some (4, [(pT134 a)]), some (4, [(pT134 b)])] [] ⟨.inl ok59, trivial⟩ (by kernel_rfl) (by first | (simp -implicitDefEqProofs [c7]; done) | simp -implicitDefEqProofs [c7, pT134]) ?_
        refine VW.condB (b := (!r6)) (by simp) (fun g8 => ?_) (fun g8 => ?_)
        · replace h := iteT g8 h
          refine VW.seq ?_
          refine VW.evalA (C := [(59, F59)]) (tm 31 [(4, .b false)]) [some (4, [(pT134 a)]), some (4, [(pT134 b)])] [] ⟨.inl ok59, trivial⟩ (by kernel_rfl) (by first | (simp -implicitDefEqProofs; done) | simp -implicitDefEqProofs [pT134]) ?_
          obtain rfl := leafS h
          refine VW.ret (VRet.fin ?_)
          first | (simp [eB68]; done) | simp [eB68, pT134]
        · replace h := iteF g8 h
          refine VW.skip ?_
          refine VW.seq ?_
          refine VW.evalA (C := [(59, F59)]) (tm 31 [(4, .b true)]) [some (4, [(pT134 a)]), some (4, [(pT134 b)])] [] ⟨.inl ok59, trivial⟩ (by kernel_rfl) (by first | (simp -implicitDefEqProofs; done) | simp -implicitDefEqProofs [pT134]) ?_
          obtain rfl := leafS h
          refine VW.ret (VRet.fin ?_)
          first | (simp [eB68]; done) | simp [eB68, pT134]
noncomputable def g55_j1 : Option (Bool) :=
  some true
noncomputable def g55_L1 (a : List T134) (b : List T134) : (Int) → Option ((Int) ⊕ ((Unit) ⊕ (Bool)))
  | i_45 =>
    if ltI i_45 (a.length : Int) = true then
      (idx a i_45).bind fun e47 =>
      (idx b i_45).bind fun e49 =>
      (g68 e47 e49).bind fun r51 =>
      if (!r51) = true then
        some (.inr (.inr false))
      else
        some (.inl (aI .i64 i_45 1))
    else
      some (.inr (.inl ()))
noncomputable def g55 (a : List T134) (b : List T134) : Option (Bool) :=
  if (!eqI (a.length : Int) (b.length : Int)) = true then
    some false
  else
    (loopO (g55_L1 a b) 0).bind fun w => match w with
      | .inl y => g55_j1
      | .inr r => some r
def eA55 (a : (List T134) × (List T134)) : List V := [.sl 4 (rows cT134 a.1), .sl 4 (rows cT134 a.2)]
def eB55 (r : Bool) : V := .b r
theorem inj55 (a a' : (List T134) × (List T134)) (h : eA55 a = eA55 a') : a = a' := by
  obtain ⟨i1019, i1020⟩ := a
  obtain ⟨i1021, i1022⟩ := a'
  simp only [eA55, List.cons.injEq, V.i.injEq, V.b.injEq, V.f.injEq, V.str.injEq, V.sl.injEq, V.agg.injEq, V.cptr.injEq, true_and, and_true] at h
  simp_all [ri cT134_inj]
noncomputable def F55 : List V → Option V := tells (fun a => g55 a.1 a.2) eA55 eB55
set_option maxRecDepth 100000 in
set_option maxHeartbeats 4000000 in
/- loop.example/g01229/laws.eqPaneS -/
theorem ok55 : Tells Try.prog 55 F55 := by
  refine Tells.of (by kernel_rfl) ?_
  rintro ⟨a, b⟩ r h
  refine VCalls.nl (VCalls.of Try.func55 rfl rfl rfl ?_)
  rw [tm_init]
  simp only [eA55, en, List.length_cons, List.length_nil, Nat.reduceAdd, Nat.reduceSub]
  replace h : (g55 a b).bind some = some r := bindS h
  rw [g55] at h
  refine VW.seq ?_
  refine VW.evalA (C := [(68, F68)]) (tm 27 [(0, .sl 4 (rows cT134 a)), (1, .sl 4 (rows cT134 b))]) [] [] ⟨.inl ok68, trivial⟩ (by kernel_rfl) (by simp -implicitDefEqProofs) ?_
  refine VW.seq ?_
  refine VW.seq ?_
  refine VW.evalA (C := [(68, F68)]) (tm 27 [(0, .sl 4 (rows cT134 a)), (1, .sl 4 (rows cT134 b)), (10, .b (!eqI (a.length : Int) (b.length : Int)))]) [] [] ⟨.inl ok68, trivial⟩ (by kernel_rfl) (by simp -implicitDefEqProofs) ?_
  refine VW.condB (b := (!eqI (a.length : Int) (b.length : Int))) (by simp) (fun g1 => ?_) (fun g1 => ?_)
  · replace h := iteT g1 h
    refine VW.seq ?_
    refine VW.evalA (C := [(68, F68)]) (tm 27 [(4, .b false)]) [] [] ⟨.inl ok68, trivial⟩ (by kernel_rfl) (by simp -implicitDefEqProofs) ?_
    obtain rfl := leafS h
    refine VW.ret (VRet.fin ?_)
    simp [eB55]
  · replace h := iteF g1 h
    refine VW.skip ?_
    refine VW.join (fun (v : Unit) => (⟨(tm 27 []), [], []⟩ : VS)) (fun v => (g55_j1).bind some = some r) ?_ ?_
    · refine VW.seq ?_
      refine VW.evalA (C := [(68, F68)]) (tm 27 [(0, .sl 4 (rows cT134 a)), (1, .sl 4 (rows cT134 b)), (5, .i .i64 0)]) [] [] ⟨.inl ok68, trivial⟩ (by kernel_rfl) (by simp -implicitDefEqProofs) ?_
      refine VW.block ?_
      obtain ⟨w_1, hw_1, h⟩ := bindE h
      refine VW.loopO (fun (x : Int) => (⟨(tm 27 [(0, .sl 4 (rows cT134 a)), (1, .sl 4 (rows cT134 b)), (5, .i .i64 x)]), [], []⟩ : VS)) hw_1 (Ent.to 0 (by simp [fgt]) (by simp) (by simp) (by simp [bndT, bndV]) (by simp [bndM, bndV])) ?_
      rintro n_1 i_45 h1
      rw [g55_L1] at h1
      refine VW.seq ?_
      refine VW.seq ?_
      refine VW.evalA (C := [(68, F68)]) (tm 27 [(0, .sl 4 (rows cT134 a)), (1, .sl 4 (rows cT134 b)), (5, .i .i64 i_45), (14, .b (ltI i_45 (a.length : Int)))]) [] [] ⟨.inl ok68, trivial⟩ (by kernel_rfl) (by simp -implicitDefEqProofs) ?_
      refine VW.condB (b := ltI i_45 (a.length : Int)) (by simp) (fun g46 => ?_) (fun g46 => ?_)
      · replace h1 := iteT g46 h1
        refine VW.skip ?_
        refine VW.seq ?_
        refine VW.block ?_
        refine VW.seq ?_
        obtain ⟨e47, q48, h1⟩ := bindE h1
        obtain ⟨f48a, f48b, f48c, f48d⟩ := idx_some q48
        obtain ⟨e49, q50, h1⟩ := bindE h1
        obtain ⟨f50a, f50b, f50c, f50d⟩ := idx_some q50
        obtain ⟨r51, q52, h1⟩ := bindE h1
        have c52 : F68 [.agg [.i .i64 e47.a_, .i .i64 e47.b_, .f .f32 e47.lead_, .f .f32 e47.sun_], .agg [.i .i64 e49.a_, .i .i64 e49.b_, .f .f32 e49.lead_, .f .f32 e49.sun_]] = some (.b r51) := tells_eq inj68 (a := (e47, e49)) q52
        refine VW.evalDA (C := [(68, F68)]) (tm 27 [(0, .sl 4 (rows cT134 a)), (1, .sl 4 (rows cT134 b)), (5, .i .i64 i_45), (26, .b (!r51))]) [] [] ⟨.inl ok68, trivial⟩ mixed (by kernel_rfl) (by simp -implicitDefEqProofs [f48a, f48b, f48c, f48d, f50a, f50b, f50c, f50d, c52]) ?_
        refine VW.condB (b := (!r51)) (by simp) (fun g53 => ?_) (fun g53 => ?_)
        · replace h1 := iteT g53 h1
          refine VW.seq ?_
          refine VW.evalA (C := [(68, F68)]) (tm 27 [(4, .b false)]) [] [] ⟨.inl ok68, trivial⟩ (by kernel_rfl) (by simp -implicitDefEqProofs) ?_
          have e_ := leafR h1
          subst w_1
          obtain rfl := leafS h
          refine VW.ret (VRet.fin ?_)
          simp [eB55]
        · replace h1 := iteF g53 h1
          refine VW.skip ?_
          refine VW.evalA (C := [(68, F68)]) (tm 27 [(0, .sl 4 (rows cT134 a)), (1, .sl 4 (rows cT134 b)), (5, .i .i64 (aI .i64 i_45 1))]) [] [] ⟨.inl ok68, trivial⟩ (by kernel_rfl) (by simp -implicitDefEqProofs) ?_
          exact (show ∃ _, _ from ⟨aI .i64 i_45 1, leafL h1, (Ent.to 0 (by simp [fgt]) (by simp) (by simp) (by simp [bndT, bndV]) (by simp [bndM, bndV]))⟩)
      · replace h1 := iteF g46 h1
        refine VW.exit ?_
        have e_ := leafR h1
        subst w_1
        exact (show ∃ _, _ from ⟨(), h, (Ent.to 0 (by simp [fgt]) (by simp) (by simp) (by simp [bndT, bndV]) (by simp [bndM, bndV]))⟩)
    · rintro _ h
      replace h : (g55_j1).bind _ = _ := h
      rw [g55_j1] at h
      refine VW.seq ?_
      refine VW.evalA (C := [(68, F68)]) (tm 27 [(4, .b true)]) [] [] ⟨.inl ok68, trivial⟩ (by kernel_rfl) (by simp -implicitDefEqProofs) ?_
      obtain rfl := leafS h
      refine VW.ret (VRet.fin ?_)
      simp [eB55]
noncomputable def g31 (a : T30) (b : T30) : Option (Bool) :=
  (g53 a.heat_ b.heat_).bind fun r1 =>
  if (!r1) = true then
    some false
  else
    (g53 a.store_ b.store_).bind fun r4 =>
    if (!r4) = true then
      some false
    else
      (g54 a.walls_ b.walls_).bind fun r7 =>
      if (!r7) = true then
        some false
      else
        (g55 a.panes_ b.panes_).bind fun r10 =>
        if (!r10) = true then
          some false
        else
          some true
def eA31 (a : T30 × T30) : List V := [.agg (pT30 a.1), .agg (pT30 a.2)]
def eB31 (r : Bool) : V := .b r
theorem inj31 (a a' : T30 × T30) (h : eA31 a = eA31 a') : a = a' := by
  obtain ⟨⟨i1023, i1024, i1025, i1026⟩, ⟨i1027, i1028, i1029, i1030⟩⟩ := a
  obtain ⟨⟨i1031, i1032, i1033, i1034⟩, ⟨i1035, i1036, i1037, i1038⟩⟩ := a'
  simp only [eA31, pT30, List.cons.injEq, V.i.injEq, V.b.injEq, V.f.injEq, V.str.injEq, V.sl.injEq, V.agg.injEq, V.cptr.injEq, true_and, and_true] at h
  simp_all [ri cT132_inj, ri cT134_inj, ri cf_f32_inj]
noncomputable def F31 : List V → Option V := tells (fun a => g31 a.1 a.2) eA31 eB31
set_option maxRecDepth 100000 in
set_option maxHeartbeats 4000000 in
/- loop.example/g01229/laws.eqFlat -/
theorem ok31 : Tells Try.prog 31 F31 := by
  refine Tells.of (by kernel_rfl) ?_
  rintro ⟨a, b⟩ r h
  refine VCalls.nl (VCalls.of Try.func31 rfl rfl rfl ?_)
  rw [tm_init]
  simp only [eA31, en, List.length_cons, List.length_nil, Nat.reduceAdd, Nat.reduceSub]
  replace h : (g31 a b).bind some = some r := bindS h
  rw [g31] at h
  refine VW.seq ?_
  refine VW.evalA (C := [(53, F53), (54, F54), (55, F55)]) (tm 29 [(2, .ptr 0 0 0), (3, .ptr 1 0 0)]) [some (4, [(pT30 a)]), some (4, [(pT30 b)])] [] ⟨.inl ok53, .inl ok54, .inl ok55, trivial⟩ (by kernel_rfl) (by first | (simp -implicitDefEqProofs; done) | simp -implicitDefEqProofs [pT30]) ?_
  refine VW.seq ?_
  refine VW.seq ?_
  obtain ⟨r1, q2, h⟩ := bindE h
  have c2 : F53 [.sl 1 (rows cf_f32 a.heat_), .sl 1 (rows cf_f32 b.heat_)] = some (.b r1) := tells_eq inj53 (a := (a.heat_, b.heat_)) q2
  refine VW.evalA (C := [(53, F53), (54, F54), (55, F55)]) (tm 29 [(2, .ptr 0 0 0), (3, .ptr 1 0 0), (10, .b (!r1))]) [some (4, [(pT30 a)]), some (4, [(pT30 b)])] [] ⟨.inl ok53, .inl ok54, .inl ok55, trivial⟩ (by kernel_rfl) (by first | (simp -implicitDefEqProofs [c2]; done) | simp -implicitDefEqProofs [c2, pT30]) ?_
  refine VW.condB (b := (!r1)) (by simp) (fun g3 => ?_) (fun g3 => ?_)
  · replace h := iteT g3 h
    refine VW.seq ?_
    refine VW.evalA (C := [(53, F53), (54, F54), (55, F55)]) (tm 29 [(4, .b false)]) [some (4, [(pT30 a)]), some (4, [(pT30 b)])] [] ⟨.inl ok53, .inl ok54, .inl ok55, trivial⟩ (by kernel_rfl) (by first | (simp -implicitDefEqProofs; done) | simp -implicitDefEqProofs [pT30]) ?_
    obtain rfl := leafS h
    refine VW.ret (VRet.fin ?_)
    first | (simp [eB31]; done) | simp [eB31, pT30]
  · replace h := iteF g3 h
    refine VW.skip ?_
    refine VW.seq ?_
    refine VW.seq ?_
    obtain ⟨r4, q5, h⟩ := bindE h
    have c5 : F53 [.sl 1 (rows cf_f32 a.store_), .sl 1 (rows cf_f32 b.store_)] = some (.b r4) := tells_eq inj53 (a := (a.store_, b.store_)) q5
    refine VW.evalA (C := [(53, F53), (54, F54), (55, F55)]) (tm 29 [(2, .ptr 0 0 0), (3, .ptr 1 0 0), (16, .b (!r4))]) [some (4, [(pT30 a)]), some (4, [(pT30 b)])] [] ⟨.inl ok53, .inl ok54, .inl ok55, trivial⟩ (by kernel_rfl) (by first | (simp -implicitDefEqProofs [c5]; done) | simp -implicitDefEqProofs [c5, pT30]) ?_
    refine VW.condB (b := (!r4)) (by simp) (fun g6 => ?_) (fun g6 => ?_)
    · replace h := iteT g6 h
      refine VW.seq ?_
      refine VW.evalA (C := [(53, F53), (54, F54), (55, F55)]) (tm 29 [(4, .b false)]) [some (4, [(pT30 a)]), some (4, [(pT30 b)])] [] ⟨.inl ok53, .inl ok54, .inl ok55, trivial⟩ (by kernel_rfl) (by first | (simp -implicitDefEqProofs; done) | simp -implicitDefEqProofs [pT30]) ?_
      obtain rfl := leafS h
      refine VW.ret (VRet.fin ?_)
      first | (simp [eB31]; done) | simp [eB31, pT30]
    · replace h := iteF g6 h
      refine VW.skip ?_
      refine VW.seq ?_
      refine VW.seq ?_
      obtain ⟨r7, q8, h⟩ := bindE h
      have c8 : F54 [.sl 8 (rows cT132 a.walls_), .sl 8 (rows cT132 b.walls_)] = some (.b r7) := tells_eq inj54 (a := (a.walls_, b.walls_)) q8
      refine VW.evalA (C := [(53, F53), (54, F54), (55, F55)]) (tm 29 [(2, .ptr 0 0 0), (3, .ptr 1 0 0), (22, .b (!r7))]) [some (4, [(pT30 a)]), some (4, [(pT30 b)])] [] ⟨.inl ok53, .inl ok54, .inl ok55, trivial⟩ (by kernel_rfl) (by first | (simp -implicitDefEqProofs [c8]; done) | simp -implicitDefEqProofs [c8, pT30]) ?_
      refine VW.condB (b := (!r7)) (by simp) (fun g9 => ?_) (fun g9 => ?_)
      · replace h := iteT g9 h
        refine VW.seq ?_
        refine VW.evalA (C := [(53, F53), (54, F54), (55, F55)]) (tm 29 [(4, .b false)]) [some (4, [(pT30 a)]), some (4, [(pT30 b)])] [] ⟨.inl ok53, .inl ok54, .inl ok55, trivial⟩ (by kernel_rfl) (by first | (simp -implicitDefEqProofs; done) | simp -implicitDefEqProofs [pT30]) ?_
        obtain rfl := leafS h
        refine VW.ret (VRet.fin ?_)
        first | (simp [eB31]; done) | simp [eB31, pT30]
      · replace h := iteF g9 h
        refine VW.skip ?_
        refine VW.seq ?_
        refine VW.seq ?_
        obtain ⟨r10, q11, h⟩ := bindE h
        have c11 : F55 [.sl 4 (rows cT134 a.panes_), .sl 4 (rows cT134 b.panes_)] = some (.b r10) := tells_eq inj55 (a := (a.panes_, b.panes_)) q11
        refine VW.evalA (C := [(53, F53), (54, F54), (55, F55)]) (tm 29 [(28, .b (!r10))]) [some (4, [(pT30 a)]), some (4, [(pT30 b)])] [] ⟨.inl ok53, .inl ok54, .inl ok55, trivial⟩ (by kernel_rfl) (by first | (simp -implicitDefEqProofs [c11]; done) | simp -implicitDefEqProofs [c11, pT30]) ?_
        refine VW.condB (b := (!r10)) (by simp) (fun g12 => ?_) (fun g12 => ?_)
        · replace h := iteT g12 h
          refine VW.seq ?_
          refine VW.evalA (C := [(53, F53), (54, F54), (55, F55)]) (tm 29 [(4, .b false)]) [some (4, [(pT30 a)]), some (4, [(pT30 b)])] [] ⟨.inl ok53, .inl ok54, .inl ok55, trivial⟩ (by kernel_rfl) (by first | (simp -implicitDefEqProofs; done) | simp -implicitDefEqProofs [pT30]) ?_
          obtain rfl := leafS h
          refine VW.ret (VRet.fin ?_)
          first | (simp [eB31]; done) | simp [eB31, pT30]
        · replace h := iteF g12 h
          refine VW.skip ?_
          refine VW.seq ?_
          refine VW.evalA (C := [(53, F53), (54, F54), (55, F55)]) (tm 29 [(4, .b true)]) [some (4, [(pT30 a)]), some (4, [(pT30 b)])] [] ⟨.inl ok53, .inl ok54, .inl ok55, trivial⟩ (by kernel_rfl) (by first | (simp -implicitDefEqProofs; done) | simp -implicitDefEqProofs [pT30]) ?_
          obtain rfl := leafS h
          refine VW.ret (VRet.fin ?_)
          first | (simp [eB31]; done) | simp [eB31, pT30]
noncomputable def g56 (a : T105) (b : T105) : Option (Bool) :=
  (g59 (wide a.burnt_) (wide b.burnt_)).bind fun r1 =>
  if (!r1) = true then
    some false
  else
    (g59 (wide a.steam_) (wide b.steam_)).bind fun r4 =>
    if (!r4) = true then
      some false
    else
      (g59 (wide a.up_) (wide b.up_)).bind fun r7 =>
      if (!r7) = true then
        some false
      else
        (g59 (wide a.lost_) (wide b.lost_)).bind fun r10 =>
        if (!r10) = true then
          some false
        else
          if (!eqI a.smoky_ b.smoky_) = true then
            some false
          else
            some true
def eA56 (a : T105 × T105) : List V := [.agg (pT105 a.1), .agg (pT105 a.2)]
def eB56 (r : Bool) : V := .b r
theorem inj56 (a a' : T105 × T105) (h : eA56 a = eA56 a') : a = a' := by
  obtain ⟨⟨i1039, i1040, i1041, i1042, i1043⟩, ⟨i1044, i1045, i1046, i1047, i1048⟩⟩ := a
  obtain ⟨⟨i1049, i1050, i1051, i1052, i1053⟩, ⟨i1054, i1055, i1056, i1057, i1058⟩⟩ := a'
  simp only [eA56, pT105, List.cons.injEq, V.i.injEq, V.b.injEq, V.f.injEq, V.str.injEq, V.sl.injEq, V.agg.injEq, V.cptr.injEq, true_and, and_true] at h
  simp_all
noncomputable def F56 : List V → Option V := tells (fun a => g56 a.1 a.2) eA56 eB56
set_option maxRecDepth 100000 in
set_option maxHeartbeats 4000000 in
/- loop.example/g01229/laws.eqFlue -/
theorem ok56 : Tells Try.prog 56 F56 := by
  refine Tells.of (by kernel_rfl) ?_
  rintro ⟨a, b⟩ r h
  refine VCalls.nl (VCalls.of Try.func56 rfl rfl rfl ?_)
  rw [tm_init]
  simp only [eA56, en, List.length_cons, List.length_nil, Nat.reduceAdd, Nat.reduceSub]
  replace h : (g56 a b).bind some = some r := bindS h
  rw [g56] at h
  refine VW.seq ?_
  refine VW.evalA (C := [(59, F59)]) (tm 42 [(2, .ptr 0 0 0), (3, .ptr 1 0 0)]) [some (5, [(pT105 a)]), some (5, [(pT105 b)])] [] ⟨.inl ok59, trivial⟩ (by kernel_rfl) (by first | (simp -implicitDefEqProofs; done) | simp -implicitDefEqProofs [pT105]) ?_
  refine VW.seq ?_
  refine VW.seq ?_
  obtain ⟨r1, q2, h⟩ := bindE h
  have c2 : F59 [.f .f64 (wide a.burnt_), .f .f64 (wide b.burnt_)] = some (.b r1) := tells_eq inj59 (a := (wide a.burnt_, wide b.burnt_)) q2
  refine VW.evalA (C := [(59, F59)]) (tm 42 [(2, .ptr 0 0 0), (3, .ptr 1 0 0), (12, .b (!r1))]) [some (5, [(pT105 a)]), some (5, [(pT105 b)])] [] ⟨.inl ok59, trivial⟩ (by kernel_rfl) (by first | (simp -implicitDefEqProofs [c2]; done) | simp -implicitDefEqProofs [c2, pT105]) ?_
  refine VW.condB (b := (!r1)) (by simp) (fun g3 => ?_) (fun g3 => ?_)
  · replace h := iteT g3 h
    refine VW.seq ?_
    refine VW.evalA (C := [(59, F59)]) (tm 42 [(4, .b false)]) [some (5, [(pT105 a)]), some (5, [(pT105 b)])] [] ⟨.inl ok59, trivial⟩ (by kernel_rfl) (by first | (simp -implicitDefEqProofs; done) | simp -implicitDefEqProofs [pT105]) ?_
    obtain rfl := leafS h
    refine VW.ret (VRet.fin ?_)
    first | (simp [eB56]; done) | simp [eB56, pT105]
  · replace h := iteF g3 h
    refine VW.skip ?_
    refine VW.seq ?_
    refine VW.seq ?_
    obtain ⟨r4, q5, h⟩ := bindE h
    have c5 : F59 [.f .f64 (wide a.steam_), .f .f64 (wide b.steam_)] = some (.b r4) := tells_eq inj59 (a := (wide a.steam_, wide b.steam_)) q5
    refine VW.evalA (C := [(59, F59)]) (tm 42 [(2, .ptr 0 0 0), (3, .ptr 1 0 0), (20, .b (!r4))]) [some (5, [(pT105 a)]), some (5, [(pT105 b)])] [] ⟨.inl ok59, trivial⟩ (by kernel_rfl) (by first | (simp -implicitDefEqProofs [c5]; done) | simp -implicitDefEqProofs [c5, pT105]) ?_
    refine VW.condB (b := (!r4)) (by simp) (fun g6 => ?_) (fun g6 => ?_)
    · replace h := iteT g6 h
      refine VW.seq ?_
      refine VW.evalA (C := [(59, F59)]) (tm 42 [(4, .b false)]) [some (5, [(pT105 a)]), some (5, [(pT105 b)])] [] ⟨.inl ok59, trivial⟩ (by kernel_rfl) (by first | (simp -implicitDefEqProofs; done) | simp -implicitDefEqProofs [pT105]) ?_
      obtain rfl := leafS h
      refine VW.ret (VRet.fin ?_)
      first | (simp [eB56]; done) | simp [eB56, pT105]
    · replace h := iteF g6 h
      refine VW.skip ?_
      refine VW.seq ?_
      refine VW.seq ?_
      obtain ⟨r7, q8, h⟩ := bindE h
      have c8 : F59 [.f .f64 (wide a.up_), .f .f64 (wide b.up_)] = some (.b r7) := tells_eq inj59 (a := (wide a.up_, wide b.up_)) q8
      refine VW.evalA (C := [(59, F59)]) (tm 42 [(2, .ptr 0 0 0), (3, .ptr 1 0 0), (28, .b (!r7))]) [some (5, [(pT105 a)]), some (5, [(pT105 b)])] [] ⟨.inl ok59, trivial⟩ (by kernel_rfl) (by first | (simp -implicitDefEqProofs [c8]; done) | simp -implicitDefEqProofs [c8, pT105]) ?_
      refine VW.condB (b := (!r7)) (by simp) (fun g9 => ?_) (fun g9 => ?_)
      · replace h := iteT g9 h
        refine VW.seq ?_
        refine VW.evalA (C := [(59, F59)]) (tm 42 [(4, .b false)]) [some (5, [(pT105 a)]), some (5, [(pT105 b)])] [] ⟨.inl ok59, trivial⟩ (by kernel_rfl) (by first | (simp -implicitDefEqProofs; done) | simp -implicitDefEqProofs [pT105]) ?_
        obtain rfl := leafS h
        refine VW.ret (VRet.fin ?_)
        first | (simp [eB56]; done) | simp [eB56, pT105]
      · replace h := iteF g9 h
        refine VW.skip ?_
        refine VW.seq ?_
        refine VW.seq ?_
        obtain ⟨r10, q11, h⟩ := bindE h
        have c11 : F59 [.f .f64 (wide a.lost_), .f .f64 (wide b.lost_)] = some (.b r10) := tells_eq inj59 (a := (wide a.lost_, wide b.lost_)) q11
        refine VW.evalA (C := [(59, F59)]) (tm 42 [(2, .ptr 0 0 0), (3, .ptr 1 0 0), (36, .b (!r10))]) [some (5, [(pT105 a)]), some (5, [(pT105 b)])] [] ⟨.inl ok59, trivial⟩ (by kernel_rfl) (by first | (simp -implicitDefEqProofs [c11]; done) | simp -implicitDefEqProofs [c11, pT105]) ?_
        refine VW.condB (b := (!r10)) (by simp) (fun g12 => ?_) (fun g12 => ?_)
        · replace h := iteT g12 h
          refine VW.seq ?_
          refine VW.evalA (C := [(59, F59)]) (tm 42 [(4, .b false)]) [some (5, [(pT105 a)]), some (5, [(pT105 b)])] [] ⟨.inl ok59, trivial⟩ (by kernel_rfl) (by first | (simp -implicitDefEqProofs; done) | simp -implicitDefEqProofs [pT105]) ?_
          obtain rfl := leafS h
          refine VW.ret (VRet.fin ?_)
          first | (simp [eB56]; done) | simp [eB56, pT105]
        · replace h := iteF g12 h
          refine VW.skip ?_
          refine VW.seq ?_
          refine VW.seq ?_
          refine VW.evalA (C := [(59, F59)]) (tm 42 [(41, .b (!eqI a.smoky_ b.smoky_))]) [some (5, [(pT105 a)]), some (5, [(pT105 b)])] [] ⟨.inl ok59, trivial⟩ (by kernel_rfl) (by first | (simp -implicitDefEqProofs; done) | simp -implicitDefEqProofs [pT105]) ?_
          refine VW.condB (b := (!eqI a.smoky_ b.smoky_)) (by simp) (fun g13 => ?_) (fun g13 => ?_)
          · replace h := iteT g13 h
            refine VW.seq ?_
            refine VW.evalA (C := [(59, F59)]) (tm 42 [(4, .b false)]) [some (5, [(pT105 a)]), some (5, [(pT105 b)])] [] ⟨.inl ok59, trivial⟩ (by kernel_rfl) (by first | (simp -implicitDefEqProofs; done) | simp -implicitDefEqProofs [pT105]) ?_
            obtain rfl := leafS h
            refine VW.ret (VRet.fin ?_)
            first | (simp [eB56]; done) | simp [eB56, pT105]
          · replace h := iteF g13 h
            refine VW.skip ?_
            refine VW.seq ?_
            refine VW.evalA (C := [(59, F59)]) (tm 42 [(4, .b true)]) [some (5, [(pT105 a)]), some (5, [(pT105 b)])] [] ⟨.inl ok59, trivial⟩ (by kernel_rfl) (by first | (simp -implicitDefEqProofs; done) | simp -implicitDefEqProofs [pT105]) ?_
            obtain rfl := leafS h
            refine VW.ret (VRet.fin ?_)
            first | (simp [eB56]; done) | simp [eB56, pT105]
noncomputable def g32_j1 : Option (Bool) :=
  some true
noncomputable def g32_L1 (a : List T105) (b : List T105) : (Int) → Option ((Int) ⊕ ((Unit) ⊕ (Bool)))
  | i_45 =>
    if ltI i_45 (a.length : Int) = true then
      (idx a i_45).bind fun e47 =>
      (idx b i_45).bind fun e49 =>
      (g56 e47 e49).bind fun r51 =>
      if (!r51) = true then
        some (.inr (.inr false))
      else
        some (.inl (aI .i64 i_45 1))
    else
      some (.inr (.inl ()))
noncomputable def g32 (a : List T105) (b : List T105) : Option (Bool) :=
  if (!eqI (a.length : Int) (b.length : Int)) = true then
    some false
  else
    (loopO (g32_L1 a b) 0).bind fun w => match w with
      | .inl y => g32_j1
      | .inr r => some r
def eA32 (a : (List T105) × (List T105)) : List V := [.sl 5 (rows cT105 a.1), .sl 5 (rows cT105 a.2)]
def eB32 (r : Bool) : V := .b r
theorem inj32 (a a' : (List T105) × (List T105)) (h : eA32 a = eA32 a') : a = a' := by
  obtain ⟨i1059, i1060⟩ := a
  obtain ⟨i1061, i1062⟩ := a'
  simp only [eA32, List.cons.injEq, V.i.injEq, V.b.injEq, V.f.injEq, V.str.injEq, V.sl.injEq, V.agg.injEq, V.cptr.injEq, true_and, and_true] at h
  simp_all [ri cT105_inj]
noncomputable def F32c : List V → Option V := tells (fun a => g32 a.1 a.2) eA32 eB32
set_option maxRecDepth 100000 in
set_option maxHeartbeats 4000000 in
/- loop.example/g01229/laws.eqFlueS -/
theorem ok32 : Tells Try.prog 32 F32c := by
  refine Tells.of (by kernel_rfl) ?_
  rintro ⟨a, b⟩ r h
  refine VCalls.nl (VCalls.of Try.func32 rfl rfl rfl ?_)
  rw [tm_init]
  simp only [eA32, en, List.length_cons, List.length_nil, Nat.reduceAdd, Nat.reduceSub]
  replace h : (g32 a b).bind some = some r := bindS h
  rw [g32] at h
  refine VW.seq ?_
  refine VW.evalA (C := [(56, F56)]) (tm 27 [(0, .sl 5 (rows cT105 a)), (1, .sl 5 (rows cT105 b))]) [] [] ⟨.inl ok56, trivial⟩ (by kernel_rfl) (by simp -implicitDefEqProofs) ?_
  refine VW.seq ?_
  refine VW.seq ?_
  refine VW.evalA (C := [(56, F56)]) (tm 27 [(0, .sl 5 (rows cT105 a)), (1, .sl 5 (rows cT105 b)), (10, .b (!eqI (a.length : Int) (b.length : Int)))]) [] [] ⟨.inl ok56, trivial⟩ (by kernel_rfl) (by simp -implicitDefEqProofs) ?_
  refine VW.condB (b := (!eqI (a.length : Int) (b.length : Int))) (by simp) (fun g1 => ?_) (fun g1 => ?_)
  · replace h := iteT g1 h
    refine VW.seq ?_
    refine VW.evalA (C := [(56, F56)]) (tm 27 [(4, .b false)]) [] [] ⟨.inl ok56, trivial⟩ (by kernel_rfl) (by simp -implicitDefEqProofs) ?_
    obtain rfl := leafS h
    refine VW.ret (VRet.fin ?_)
    simp [eB32]
  · replace h := iteF g1 h
    refine VW.skip ?_
    refine VW.join (fun (v : Unit) => (⟨(tm 27 []), [], []⟩ : VS)) (fun v => (g32_j1).bind some = some r) ?_ ?_
    · refine VW.seq ?_
      refine VW.evalA (C := [(56, F56)]) (tm 27 [(0, .sl 5 (rows cT105 a)), (1, .sl 5 (rows cT105 b)), (5, .i .i64 0)]) [] [] ⟨.inl ok56, trivial⟩ (by kernel_rfl) (by simp -implicitDefEqProofs) ?_
      refine VW.block ?_
      obtain ⟨w_1, hw_1, h⟩ := bindE h
      refine VW.loopO (fun (x : Int) => (⟨(tm 27 [(0, .sl 5 (rows cT105 a)), (1, .sl 5 (rows cT105 b)), (5, .i .i64 x)]), [], []⟩ : VS)) hw_1 (Ent.to 0 (by simp [fgt]) (by simp) (by simp) (by simp [bndT, bndV]) (by simp [bndM, bndV])) ?_
      rintro n_1 i_45 h1
      rw [g32_L1] at h1
      refine VW.seq ?_
      refine VW.seq ?_
      refine VW.evalA (C := [(56, F56)]) (tm 27 [(0, .sl 5 (rows cT105 a)), (1, .sl 5 (rows cT105 b)), (5, .i .i64 i_45), (14, .b (ltI i_45 (a.length : Int)))]) [] [] ⟨.inl ok56, trivial⟩ (by kernel_rfl) (by simp -implicitDefEqProofs) ?_
      refine VW.condB (b := ltI i_45 (a.length : Int)) (by simp) (fun g46 => ?_) (fun g46 => ?_)
      · replace h1 := iteT g46 h1
        refine VW.skip ?_
        refine VW.seq ?_
        refine VW.block ?_
        refine VW.seq ?_
        obtain ⟨e47, q48, h1⟩ := bindE h1
        obtain ⟨f48a, f48b, f48c, f48d⟩ := idx_some q48
        obtain ⟨e49, q50, h1⟩ := bindE h1
        obtain ⟨f50a, f50b, f50c, f50d⟩ := idx_some q50
        obtain ⟨r51, q52, h1⟩ := bindE h1
        have c52 : F56 [.agg [.f .f32 e47.burnt_, .f .f32 e47.steam_, .f .f32 e47.up_, .f .f32 e47.lost_, .i .i64 e47.smoky_], .agg [.f .f32 e49.burnt_, .f .f32 e49.steam_, .f .f32 e49.up_, .f .f32 e49.lost_, .i .i64 e49.smoky_]] = some (.b r51) := tells_eq inj56 (a := (e47, e49)) q52
        refine VW.evalDA (C := [(56, F56)]) (tm 27 [(0, .sl 5 (rows cT105 a)), (1, .sl 5 (rows cT105 b)), (5, .i .i64 i_45), (26, .b (!r51))]) [] [] ⟨.inl ok56, trivial⟩ mixed (by kernel_rfl) (by simp -implicitDefEqProofs [f48a, f48b, f48c, f48d, f50a, f50b, f50c, f50d, c52]) ?_
        refine VW.condB (b := (!r51)) (by simp) (fun g53 => ?_) (fun g53 => ?_)
        · replace h1 := iteT g53 h1
          refine VW.seq ?_
          refine VW.evalA (C := [(56, F56)]) (tm 27 [(4, .b false)]) [] [] ⟨.inl ok56, trivial⟩ (by kernel_rfl) (by simp -implicitDefEqProofs) ?_
          have e_ := leafR h1
          subst w_1
          obtain rfl := leafS h
          refine VW.ret (VRet.fin ?_)
          simp [eB32]
        · replace h1 := iteF g53 h1
          refine VW.skip ?_
          refine VW.evalA (C := [(56, F56)]) (tm 27 [(0, .sl 5 (rows cT105 a)), (1, .sl 5 (rows cT105 b)), (5, .i .i64 (aI .i64 i_45 1))]) [] [] ⟨.inl ok56, trivial⟩ (by kernel_rfl) (by simp -implicitDefEqProofs) ?_
          exact (show ∃ _, _ from ⟨aI .i64 i_45 1, leafL h1, (Ent.to 0 (by simp [fgt]) (by simp) (by simp) (by simp [bndT, bndV]) (by simp [bndM, bndV]))⟩)
      · replace h1 := iteF g46 h1
        refine VW.exit ?_
        have e_ := leafR h1
        subst w_1
        exact (show ∃ _, _ from ⟨(), h, (Ent.to 0 (by simp [fgt]) (by simp) (by simp) (by simp [bndT, bndV]) (by simp [bndM, bndV]))⟩)
    · rintro _ h
      replace h : (g32_j1).bind _ = _ := h
      rw [g32_j1] at h
      refine VW.seq ?_
      refine VW.evalA (C := [(56, F56)]) (tm 27 [(4, .b true)]) [] [] ⟨.inl ok56, trivial⟩ (by kernel_rfl) (by simp -implicitDefEqProofs) ?_
      obtain rfl := leafS h
      refine VW.ret (VRet.fin ?_)
      simp [eB32]
noncomputable def g80_j1 : Option (Bool) :=
  some true
noncomputable def g80 (a : T114) (b : T114) : Option (Bool) :=
  (g59 (wide a.a0_) (wide b.a0_)).bind fun r19 =>
  if (!r19) = true then
    some false
  else
    (g59 (wide a.a1_) (wide b.a1_)).bind fun r22 =>
    if (!r22) = true then
      some false
    else
      (g59 (wide a.a2_) (wide b.a2_)).bind fun r25 =>
      if (!r25) = true then
        some false
      else
        (g59 (wide a.a3_) (wide b.a3_)).bind fun r28 =>
        if (!r28) = true then
          some false
        else
          (g59 (wide a.a4_) (wide b.a4_)).bind fun r31 =>
          if (!r31) = true then
            some false
          else
            (g59 (wide a.a5_) (wide b.a5_)).bind fun r34 =>
            if (!r34) = true then
              some false
            else
              g80_j1
def eA80 (a : T114 × T114) : List V := [.agg (pT114 a.1), .agg (pT114 a.2)]
def eB80 (r : Bool) : V := .b r
theorem inj80 (a a' : T114 × T114) (h : eA80 a = eA80 a') : a = a' := by
  obtain ⟨⟨i1063, i1064, i1065, i1066, i1067, i1068⟩, ⟨i1069, i1070, i1071, i1072, i1073, i1074⟩⟩ := a
  obtain ⟨⟨i1075, i1076, i1077, i1078, i1079, i1080⟩, ⟨i1081, i1082, i1083, i1084, i1085, i1086⟩⟩ := a'
  simp only [eA80, pT114, List.cons.injEq, V.i.injEq, V.b.injEq, V.f.injEq, V.str.injEq, V.sl.injEq, V.agg.injEq, V.cptr.injEq, true_and, and_true] at h
  simp_all
noncomputable def F80 : List V → Option V := tells (fun a => g80 a.1 a.2) eA80 eB80
set_option maxRecDepth 100000 in
set_option maxHeartbeats 4000000 in
/- loop.example/g01229/laws.eqFloat32A6 -/
theorem ok80 : Tells Try.prog 80 F80 := by
  refine Tells.of (by kernel_rfl) ?_
  rintro ⟨a, b⟩ r h
  refine VCalls.nl (VCalls.of Try.func80 rfl rfl rfl ?_)
  rw [tm_init]
  simp only [eA80, en, List.length_cons, List.length_nil, Nat.reduceAdd, Nat.reduceSub]
  replace h : (g80 a b).bind some = some r := bindS h
  rw [g80] at h
  refine VW.seq ?_
  refine VW.evalA (C := [(59, F59)]) (tm 20 [(2, .ptr 0 0 0), (3, .ptr 1 0 0)]) [some (6, [(pT114 a)]), some (6, [(pT114 b)])] [] ⟨.inl ok59, trivial⟩ (by kernel_rfl) (by first | (simp -implicitDefEqProofs; done) | simp -implicitDefEqProofs [pT114]) ?_
  refine VW.join (fun (v : Unit) => (⟨(tm 20 []), [some (6, [(pT114 a)]), some (6, [(pT114 b)])], []⟩ : VS)) (fun v => (g80_j1).bind some = some r) ?_ ?_
  · refine VW.seq ?_
    refine VW.evalA (C := [(59, F59)]) (tm 20 [(2, .ptr 0 0 0), (3, .ptr 1 0 0), (5, .i .i64 0)]) [some (6, [(pT114 a)]), some (6, [(pT114 b)])] [] ⟨.inl ok59, trivial⟩ (by kernel_rfl) (by first | (simp -implicitDefEqProofs; done) | simp -implicitDefEqProofs [pT114]) ?_
    refine VW.block ?_
    refine VW.rounds 8 ?_
    refine VRounds.step ?_
    refine VW.seq ?_
    refine VW.seq ?_
    refine VW.evalA (C := [(59, F59)]) (tm 20 [(2, .ptr 0 0 0), (3, .ptr 1 0 0), (5, .i .i64 0), (7, .b true)]) [some (6, [(pT114 a)]), some (6, [(pT114 b)])] [] ⟨.inl ok59, trivial⟩ (by kernel_rfl) (by first | (simp -implicitDefEqProofs [(by decide : ltI 0 6 = true)]; done) | simp -implicitDefEqProofs [(by decide : ltI 0 6 = true), pT114]) ?_
    refine VW.condT (by simp) ?_
    refine VW.skip ?_
    refine VW.seq ?_
    refine VW.block ?_
    refine VW.seq ?_
    obtain ⟨r19, q20, h⟩ := bindE h
    have c20 : F59 [.f .f64 (wide a.a0_), .f .f64 (wide b.a0_)] = some (.b r19) := tells_eq inj59 (a := (wide a.a0_, wide b.a0_)) q20
    refine VW.evalDA (C := [(59, F59)]) (tm 20 [(2, .ptr 0 0 0), (3, .ptr 1 0 0), (5, .i .i64 0), (19, .b (!r19))]) [some (6, [(pT114 a)]), some (6, [(pT114 b)])] [] ⟨.inl ok59, trivial⟩ mixed (by kernel_rfl) (by first | (simp -implicitDefEqProofs [c20]; done) | simp -implicitDefEqProofs [c20, pT114]) ?_
    refine VW.condB (b := (!r19)) (by simp) (fun g21 => ?_) (fun g21 => ?_)
    · replace h := iteT g21 h
      refine VW.seq ?_
      refine VW.evalA (C := [(59, F59)]) (tm 20 [(4, .b false)]) [some (6, [(pT114 a)]), some (6, [(pT114 b)])] [] ⟨.inl ok59, trivial⟩ (by kernel_rfl) (by first | (simp -implicitDefEqProofs; done) | simp -implicitDefEqProofs [pT114]) ?_
      obtain rfl := leafS h
      refine VW.ret (VRet.fin ?_)
      first | (simp [eB80]; done) | simp [eB80, pT114]
    · replace h := iteF g21 h
      refine VW.skip ?_
      refine VW.evalA (C := [(59, F59)]) (tm 20 [(2, .ptr 0 0 0), (3, .ptr 1 0 0), (5, .i .i64 1)]) [some (6, [(pT114 a)]), some (6, [(pT114 b)])] [] ⟨.inl ok59, trivial⟩ (by kernel_rfl) (by first | (simp -implicitDefEqProofs [(by decide : aI .i64 0 1 = 1)]; done) | simp -implicitDefEqProofs [(by decide : aI .i64 0 1 = 1), pT114]) ?_
      refine VRounds.step ?_
      refine VW.seq ?_
      refine VW.seq ?_
      refine VW.evalA (C := [(59, F59)]) (tm 20 [(2, .ptr 0 0 0), (3, .ptr 1 0 0), (5, .i .i64 1), (7, .b true)]) [some (6, [(pT114 a)]), some (6, [(pT114 b)])] [] ⟨.inl ok59, trivial⟩ (by kernel_rfl) (by first | (simp -implicitDefEqProofs [(by decide : ltI 1 6 = true)]; done) | simp -implicitDefEqProofs [(by decide : ltI 1 6 = true), pT114]) ?_
      refine VW.condT (by simp) ?_
      refine VW.skip ?_
      refine VW.seq ?_
      refine VW.block ?_
      refine VW.seq ?_
      obtain ⟨r22, q23, h⟩ := bindE h
      have c23 : F59 [.f .f64 (wide a.a1_), .f .f64 (wide b.a1_)] = some (.b r22) := tells_eq inj59 (a := (wide a.a1_, wide b.a1_)) q23
      refine VW.evalDA (C := [(59, F59)]) (tm 20 [(2, .ptr 0 0 0), (3, .ptr 1 0 0), (5, .i .i64 1), (19, .b (!r22))]) [some (6, [(pT114 a)]), some (6, [(pT114 b)])] [] ⟨.inl ok59, trivial⟩ mixed (by kernel_rfl) (by first | (simp -implicitDefEqProofs [c23]; done) | simp -implicitDefEqProofs [c23, pT114]) ?_
      refine VW.condB (b := (!r22)) (by simp) (fun g24 => ?_) (fun g24 => ?_)
      · replace h := iteT g24 h
        refine VW.seq ?_
        refine VW.evalA (C := [(59, F59)]) (tm 20 [(4, .b false)]) [some (6, [(pT114 a)]), some (6, [(pT114 b)])] [] ⟨.inl ok59, trivial⟩ (by kernel_rfl) (by first | (simp -implicitDefEqProofs; done) | simp -implicitDefEqProofs [pT114]) ?_
        obtain rfl := leafS h
        refine VW.ret (VRet.fin ?_)
        first | (simp [eB80]; done) | simp [eB80, pT114]
      · replace h := iteF g24 h
        refine VW.skip ?_
        refine VW.evalA (C := [(59, F59)]) (tm 20 [(2, .ptr 0 0 0), (3, .ptr 1 0 0), (5, .i .i64 2)]) [some (6, [(pT114 a)]), some (6, [(pT114 b)])] [] ⟨.inl ok59, trivial⟩ (by kernel_rfl) (by first | (simp -implicitDefEqProofs [(by decide : aI .i64 1 1 = 2)]; done) | simp -implicitDefEqProofs [(by decide : aI .i64 1 1 = 2), pT114]) ?_
        refine VRounds.step ?_
        refine VW.seq ?_
        refine VW.seq ?_
        refine VW.evalA (C := [(59, F59)]) (tm 20 [(2, .ptr 0 0 0), (3, .ptr 1 0 0), (5, .i .i64 2), (7, .b true)]) [some (6, [(pT114 a)]), some (6, [(pT114 b)])] [] ⟨.inl ok59, trivial⟩ (by kernel_rfl) (by first | (simp -implicitDefEqProofs [(by decide : ltI 2 6 = true)]; done) | simp -implicitDefEqProofs [(by decide : ltI 2 6 = true), pT114]) ?_
        refine VW.condT (by simp) ?_
        refine VW.skip ?_
        refine VW.seq ?_
        refine VW.block ?_
        refine VW.seq ?_
        obtain ⟨r25, q26, h⟩ := bindE h
        have c26 : F59 [.f .f64 (wide a.a2_), .f .f64 (wide b.a2_)] = some (.b r25) := tells_eq inj59 (a := (wide a.a2_, wide b.a2_)) q26
        refine VW.evalDA (C := [(59, F59)]) (tm 20 [(2, .ptr 0 0 0), (3, .ptr 1 0 0), (5, .i .i64 2), (19, .b (!r25))]) [some (6, [(pT114 a)]), some (6, [(pT114 b)])] [] ⟨.inl ok59, trivial⟩ mixed (by kernel_rfl) (by first | (simp -implicitDefEqProofs [c26]; done) | simp -implicitDefEqProofs [c26, pT114]) ?_
        refine VW.condB (b := (!r25)) (by simp) (fun g27 => ?_) (fun g27 => ?_)
        · replace h := iteT g27 h
          refine VW.seq ?_
          refine VW.evalA (C := [(59, F59)]) (tm 20 [(4, .b false)]) [some (6, [(pT114 a)]), some (6, [(pT114 b)])] [] ⟨.inl ok59, trivial⟩ (by kernel_rfl) (by first | (simp -implicitDefEqProofs; done) | simp -implicitDefEqProofs [pT114]) ?_
          obtain rfl := leafS h
          refine VW.ret (VRet.fin ?_)
          first | (simp [eB80]; done) | simp [eB80, pT114]
        · replace h := iteF g27 h
          refine VW.skip ?_
          refine VW.evalA (C := [(59, F59)]) (tm 20 [(2, .ptr 0 0 0), (3, .ptr 1 0 0), (5, .i .i64 3)]) [some (6, [(pT114 a)]), some (6, [(pT114 b)])] [] ⟨.inl ok59, trivial⟩ (by kernel_rfl) (by first | (simp -implicitDefEqProofs [(by decide : aI .i64 2 1 = 3)]; done) | simp -implicitDefEqProofs [(by decide : aI .i64 2 1 = 3), pT114]) ?_
          refine VRounds.step ?_
          refine VW.seq ?_
          refine VW.seq ?_
          refine VW.evalA (C := [(59, F59)]) (tm 20 [(2, .ptr 0 0 0), (3, .ptr 1 0 0), (5, .i .i64 3), (7, .b true)]) [some (6, [(pT114 a)]), some (6, [(pT114 b)])] [] ⟨.inl ok59, trivial⟩ (by kernel_rfl) (by first | (simp -implicitDefEqProofs [(by decide : ltI 3 6 = true)]; done) | simp -implicitDefEqProofs [(by decide : ltI 3 6 = true), pT114]) ?_
          refine VW.condT (by simp) ?_
          refine VW.skip ?_
          refine VW.seq ?_
          refine VW.block ?_
          refine VW.seq ?_
          obtain ⟨r28, q29, h⟩ := bindE h
          have c29 : F59 [.f .f64 (wide a.a3_), .f .f64 (wide b.a3_)] = some (.b r28) := tells_eq inj59 (a := (wide a.a3_, wide b.a3_)) q29
          refine VW.evalDA (C := [(59, F59)]) (tm 20 [(2, .ptr 0 0 0), (3, .ptr 1 0 0), (5, .i .i64 3), (19, .b (!r28))]) [some (6, [(pT114 a)]), some (6, [(pT114 b)])] [] ⟨.inl ok59, trivial⟩ mixed (by kernel_rfl) (by first | (simp -implicitDefEqProofs [c29]; done) | simp -implicitDefEqProofs [c29, pT114]) ?_
          refine VW.condB (b := (!r28)) (by simp) (fun g30 => ?_) (fun g30 => ?_)
          · replace h := iteT g30 h
            refine VW.seq ?_
            refine VW.evalA (C := [(59, F59)]) (tm 20 [(4, .b false)]) [some (6, [(pT114 a)]), some (6, [(pT114 b)])] [] ⟨.inl ok59, trivial⟩ (by kernel_rfl) (by first | (simp -implicitDefEqProofs; done) | simp -implicitDefEqProofs [pT114]) ?_
            obtain rfl := leafS h
            refine VW.ret (VRet.fin ?_)
            first | (simp [eB80]; done) | simp [eB80, pT114]
          · replace h := iteF g30 h
            refine VW.skip ?_
            refine VW.evalA (C := [(59, F59)]) (tm 20 [(2, .ptr 0 0 0), (3, .ptr 1 0 0), (5, .i .i64 4)]) [some (6, [(pT114 a)]), some (6, [(pT114 b)])] [] ⟨.inl ok59, trivial⟩ (by kernel_rfl) (by first | (simp -implicitDefEqProofs [(by decide : aI .i64 3 1 = 4)]; done) | simp -implicitDefEqProofs [(by decide : aI .i64 3 1 = 4), pT114]) ?_
            refine VRounds.step ?_
            refine VW.seq ?_
            refine VW.seq ?_
            refine VW.evalA (C := [(59, F59)]) (tm 20 [(2, .ptr 0 0 0), (3, .ptr 1 0 0), (5, .i .i64 4), (7, .b true)]) [some (6, [(pT114 a)]), some (6, [(pT114 b)])] [] ⟨.inl ok59, trivial⟩ (by kernel_rfl) (by first | (simp -implicitDefEqProofs [(by decide : ltI 4 6 = true)]; done) | simp -implicitDefEqProofs [(by decide : ltI 4 6 = true), pT114]) ?_
            refine VW.condT (by simp) ?_
            refine VW.skip ?_
            refine VW.seq ?_
            refine VW.block ?_
            refine VW.seq ?_
            obtain ⟨r31, q32, h⟩ := bindE h
            have c32 : F59 [.f .f64 (wide a.a4_), .f .f64 (wide b.a4_)] = some (.b r31) := tells_eq inj59 (a := (wide a.a4_, wide b.a4_)) q32
            refine VW.evalDA (C := [(59, F59)]) (tm 20 [(2, .ptr 0 0 0), (3, .ptr 1 0 0), (5, .i .i64 4), (19, .b (!r31))]) [some (6, [(pT114 a)]), some (6, [(pT114 b)])] [] ⟨.inl ok59, trivial⟩ mixed (by kernel_rfl) (by first | (simp -implicitDefEqProofs [c32]; done) | simp -implicitDefEqProofs [c32, pT114]) ?_
            refine VW.condB (b := (!r31)) (by simp) (fun g33 => ?_) (fun g33 => ?_)
            · replace h := iteT g33 h
              refine VW.seq ?_
              refine VW.evalA (C := [(59, F59)]) (tm 20 [(4, .b false)]) [some (6, [(pT114 a)]), some (6, [(pT114 b)])] [] ⟨.inl ok59, trivial⟩ (by kernel_rfl) (by first | (simp -implicitDefEqProofs; done) | simp -implicitDefEqProofs [pT114]) ?_
              obtain rfl := leafS h
              refine VW.ret (VRet.fin ?_)
              first | (simp [eB80]; done) | simp [eB80, pT114]
            · replace h := iteF g33 h
              refine VW.skip ?_
              refine VW.evalA (C := [(59, F59)]) (tm 20 [(2, .ptr 0 0 0), (3, .ptr 1 0 0), (5, .i .i64 5)]) [some (6, [(pT114 a)]), some (6, [(pT114 b)])] [] ⟨.inl ok59, trivial⟩ (by kernel_rfl) (by first | (simp -implicitDefEqProofs [(by decide : aI .i64 4 1 = 5)]; done) | simp -implicitDefEqProofs [(by decide : aI .i64 4 1 = 5), pT114]) ?_
              refine VRounds.step ?_
              refine VW.seq ?_
              refine VW.seq ?_
              refine VW.evalA (C := [(59, F59)]) (tm 20 [(2, .ptr 0 0 0), (3, .ptr 1 0 0), (5, .i .i64 5), (7, .b true)]) [some (6, [(pT114 a)]), some (6, [(pT114 b)])] [] ⟨.inl ok59, trivial⟩ (by kernel_rfl) (by first | (simp -implicitDefEqProofs [(by decide : ltI 5 6 = true)]; done) | simp -implicitDefEqProofs [(by decide : ltI 5 6 = true), pT114]) ?_
              refine VW.condT (by simp) ?_
              refine VW.skip ?_
              refine VW.seq ?_
              refine VW.block ?_
              refine VW.seq ?_
              obtain ⟨r34, q35, h⟩ := bindE h
              have c35 : F59 [.f .f64 (wide a.a5_), .f .f64 (wide b.a5_)] = some (.b r34) := tells_eq inj59 (a := (wide a.a5_, wide b.a5_)) q35
              refine VW.evalDA (C := [(59, F59)]) (tm 20 [(2, .ptr 0 0 0), (3, .ptr 1 0 0), (5, .i .i64 5), (19, .b (!r34))]) [some (6, [(pT114 a)]), some (6, [(pT114 b)])] [] ⟨.inl ok59, trivial⟩ mixed (by kernel_rfl) (by first | (simp -implicitDefEqProofs [c35]; done) | simp -implicitDefEqProofs [c35, pT114]) ?_
              refine VW.condB (b := (!r34)) (by simp) (fun g36 => ?_) (fun g36 => ?_)
              · replace h := iteT g36 h
                refine VW.seq ?_
                refine VW.evalA (C := [(59, F59)]) (tm 20 [(4, .b false)]) [some (6, [(pT114 a)]), some (6, [(pT114 b)])] [] ⟨.inl ok59, trivial⟩ (by kernel_rfl) (by first | (simp -implicitDefEqProofs; done) | simp -implicitDefEqProofs [pT114]) ?_
                obtain rfl := leafS h
                refine VW.ret (VRet.fin ?_)
                first | (simp [eB80]; done) | simp [eB80, pT114]
              · replace h := iteF g36 h
                refine VW.skip ?_
                refine VW.evalA (C := [(59, F59)]) (tm 20 [(2, .ptr 0 0 0), (3, .ptr 1 0 0), (5, .i .i64 6)]) [some (6, [(pT114 a)]), some (6, [(pT114 b)])] [] ⟨.inl ok59, trivial⟩ (by kernel_rfl) (by first | (simp -implicitDefEqProofs [(by decide : aI .i64 5 1 = 6)]; done) | simp -implicitDefEqProofs [(by decide : aI .i64 5 1 = 6), pT114]) ?_
                refine VRounds.step ?_
                refine VW.seq ?_
                refine VW.seq ?_
                refine VW.evalA (C := [(59, F59)]) (tm 20 [(2, .ptr 0 0 0), (3, .ptr 1 0 0), (5, .i .i64 6), (7, .b false)]) [some (6, [(pT114 a)]), some (6, [(pT114 b)])] [] ⟨.inl ok59, trivial⟩ (by kernel_rfl) (by first | (simp -implicitDefEqProofs [(by decide : ltI 6 6 = false)]; done) | simp -implicitDefEqProofs [(by decide : ltI 6 6 = false), pT114]) ?_
                refine VW.condF (by simp) ?_
                refine VW.exit ?_
                exact (show ∃ _, _ from ⟨(), h, (Ent.to 2 (by simp [fgt]) (by first | (simp; done) | simp [pT114]) (by simp) (by simp [bndT, bndV]) (by simp [bndM, bndV]))⟩)
  · rintro _ h
    replace h : (g80_j1).bind _ = _ := h
    rw [g80_j1] at h
    refine VW.seq ?_
    refine VW.evalA (C := [(59, F59)]) (tm 20 [(4, .b true)]) [some (6, [(pT114 a)]), some (6, [(pT114 b)])] [] ⟨.inl ok59, trivial⟩ (by kernel_rfl) (by first | (simp -implicitDefEqProofs; done) | simp -implicitDefEqProofs [pT114]) ?_
    obtain rfl := leafS h
    refine VW.ret (VRet.fin ?_)
    first | (simp [eB80]; done) | simp [eB80, pT114]
noncomputable def g78 (a : T147) (b : T147) : Option (Bool) :=
  (g80 a.wet_ b.wet_).bind fun r1 =>
  if (!r1) = true then
    some false
  else
    (g80 a.heat_ b.heat_).bind fun r4 =>
    if (!r4) = true then
      some false
    else
      (g80 a.fuel_ b.fuel_).bind fun r7 =>
      if (!r7) = true then
        some false
      else
        some true
def eA78 (a : T147 × T147) : List V := [.agg (pT147 a.1), .agg (pT147 a.2)]
def eB78 (r : Bool) : V := .b r
theorem inj78 (a a' : T147 × T147) (h : eA78 a = eA78 a') : a = a' := by
  obtain ⟨⟨⟨i1087, i1088, i1089, i1090, i1091, i1092⟩, ⟨i1093, i1094, i1095, i1096, i1097, i1098⟩, ⟨i1099, i1100, i1101, i1102, i1103, i1104⟩⟩, ⟨⟨i1105, i1106, i1107, i1108, i1109, i1110⟩, ⟨i1111, i1112, i1113, i1114, i1115, i1116⟩, ⟨i1117, i1118, i1119, i1120, i1121, i1122⟩⟩⟩ := a
  obtain ⟨⟨⟨i1123, i1124, i1125, i1126, i1127, i1128⟩, ⟨i1129, i1130, i1131, i1132, i1133, i1134⟩, ⟨i1135, i1136, i1137, i1138, i1139, i1140⟩⟩, ⟨⟨i1141, i1142, i1143, i1144, i1145, i1146⟩, ⟨i1147, i1148, i1149, i1150, i1151, i1152⟩, ⟨i1153, i1154, i1155, i1156, i1157, i1158⟩⟩⟩ := a'
  simp only [eA78, pT147, List.cons.injEq, V.i.injEq, V.b.injEq, V.f.injEq, V.str.injEq, V.sl.injEq, V.agg.injEq, V.cptr.injEq, true_and, and_true] at h
  simp_all
noncomputable def F78 : List V → Option V := tells (fun a => g78 a.1 a.2) eA78 eB78
set_option maxRecDepth 100000 in
set_option maxHeartbeats 4000000 in
/- loop.example/g01229/laws.eqWood -/
theorem ok78 : Tells Try.prog 78 F78 := by
  refine Tells.of (by kernel_rfl) ?_
  rintro ⟨a, b⟩ r h
  refine VCalls.nl (VCalls.of Try.func78 rfl rfl rfl ?_)
  rw [tm_init]
  simp only [eA78, en, List.length_cons, List.length_nil, Nat.reduceAdd, Nat.reduceSub]
  replace h : (g78 a b).bind some = some r := bindS h
  rw [g78] at h
  refine VW.seq ?_
  refine VW.evalA (C := [(80, F80)]) (tm 23 [(2, .ptr 0 0 0), (3, .ptr 1 0 0)]) [some (18, [(pT147 a)]), some (18, [(pT147 b)])] [] ⟨.inl ok80, trivial⟩ (by kernel_rfl) (by first | (simp -implicitDefEqProofs; done) | simp -implicitDefEqProofs [pT147]) ?_
  refine VW.seq ?_
  refine VW.seq ?_
  obtain ⟨r1, q2, h⟩ := bindE h
  have c2 : F80 [.agg [.f .f32 a.wet_.a0_, .f .f32 a.wet_.a1_, .f .f32 a.wet_.a2_, .f .f32 a.wet_.a3_, .f .f32 a.wet_.a4_, .f .f32 a.wet_.a5_], .agg [.f .f32 b.wet_.a0_, .f .f32 b.wet_.a1_, .f .f32 b.wet_.a2_, .f .f32 b.wet_.a3_, .f .f32 b.wet_.a4_, .f .f32 b.wet_.a5_]] = some (.b r1) := tells_eq inj80 (a := (a.wet_, b.wet_)) q2
  refine VW.evalA (C := [(80, F80)]) (tm 23 [(2, .ptr 0 0 0), (3, .ptr 1 0 0), (10, .b (!r1))]) [some (18, [(pT147 a)]), some (18, [(pT147 b)])] [] ⟨.inl ok80, trivial⟩ (by kernel_rfl) (by first | (simp -implicitDefEqProofs [c2]; done) | simp -implicitDefEqProofs [c2, pT147]) ?_
  refine VW.condB (b := (!r1)) (by simp) (fun g3 => ?_) (fun g3 => ?_)
  · replace h := iteT g3 h
    refine VW.seq ?_
    refine VW.evalA (C := [(80, F80)]) (tm 23 [(4, .b false)]) [some (18, [(pT147 a)]), some (18, [(pT147 b)])] [] ⟨.inl ok80, trivial⟩ (by kernel_rfl) (by first | (simp -implicitDefEqProofs; done) | simp -implicitDefEqProofs [pT147]) ?_
    obtain rfl := leafS h
    refine VW.ret (VRet.fin ?_)
    first | (simp [eB78]; done) | simp [eB78, pT147]
  · replace h := iteF g3 h
    refine VW.skip ?_
    refine VW.seq ?_
    refine VW.seq ?_
    obtain ⟨r4, q5, h⟩ := bindE h
    have c5 : F80 [.agg [.f .f32 a.heat_.a0_, .f .f32 a.heat_.a1_, .f .f32 a.heat_.a2_, .f .f32 a.heat_.a3_, .f .f32 a.heat_.a4_, .f .f32 a.heat_.a5_], .agg [.f .f32 b.heat_.a0_, .f .f32 b.heat_.a1_, .f .f32 b.heat_.a2_, .f .f32 b.heat_.a3_, .f .f32 b.heat_.a4_, .f .f32 b.heat_.a5_]] = some (.b r4) := tells_eq inj80 (a := (a.heat_, b.heat_)) q5
    refine VW.evalA (C := [(80, F80)]) (tm 23 [(2, .ptr 0 0 0), (3, .ptr 1 0 0), (16, .b (!r4))]) [some (18, [(pT147 a)]), some (18, [(pT147 b)])] [] ⟨.inl ok80, trivial⟩ (by kernel_rfl) (by first | (simp -implicitDefEqProofs [c5]; done) | simp -implicitDefEqProofs [c5, pT147]) ?_
    refine VW.condB (b := (!r4)) (by simp) (fun g6 => ?_) (fun g6 => ?_)
    · replace h := iteT g6 h
      refine VW.seq ?_
      refine VW.evalA (C := [(80, F80)]) (tm 23 [(4, .b false)]) [some (18, [(pT147 a)]), some (18, [(pT147 b)])] [] ⟨.inl ok80, trivial⟩ (by kernel_rfl) (by first | (simp -implicitDefEqProofs; done) | simp -implicitDefEqProofs [pT147]) ?_
      obtain rfl := leafS h
      refine VW.ret (VRet.fin ?_)
      first | (simp [eB78]; done) | simp [eB78, pT147]
    · replace h := iteF g6 h
      refine VW.skip ?_
      refine VW.seq ?_
      refine VW.seq ?_
      obtain ⟨r7, q8, h⟩ := bindE h
      have c8 : F80 [.agg [.f .f32 a.fuel_.a0_, .f .f32 a.fuel_.a1_, .f .f32 a.fuel_.a2_, .f .f32 a.fuel_.a3_, .f .f32 a.fuel_.a4_, .f .f32 a.fuel_.a5_], .agg [.f .f32 b.fuel_.a0_, .f .f32 b.fuel_.a1_, .f .f32 b.fuel_.a2_, .f .f32 b.fuel_.a3_, .f .f32 b.fuel_.a4_, .f .f32 b.fuel_.a5_]] = some (.b r7) := tells_eq inj80 (a := (a.fuel_, b.fuel_)) q8
      refine VW.evalA (C := [(80, F80)]) (tm 23 [(22, .b (!r7))]) [some (18, [(pT147 a)]), some (18, [(pT147 b)])] [] ⟨.inl ok80, trivial⟩ (by kernel_rfl) (by first | (simp -implicitDefEqProofs [c8]; done) | simp -implicitDefEqProofs [c8, pT147]) ?_
      refine VW.condB (b := (!r7)) (by simp) (fun g9 => ?_) (fun g9 => ?_)
      · replace h := iteT g9 h
        refine VW.seq ?_
        refine VW.evalA (C := [(80, F80)]) (tm 23 [(4, .b false)]) [some (18, [(pT147 a)]), some (18, [(pT147 b)])] [] ⟨.inl ok80, trivial⟩ (by kernel_rfl) (by first | (simp -implicitDefEqProofs; done) | simp -implicitDefEqProofs [pT147]) ?_
        obtain rfl := leafS h
        refine VW.ret (VRet.fin ?_)
        first | (simp [eB78]; done) | simp [eB78, pT147]
      · replace h := iteF g9 h
        refine VW.skip ?_
        refine VW.seq ?_
        refine VW.evalA (C := [(80, F80)]) (tm 23 [(4, .b true)]) [some (18, [(pT147 a)]), some (18, [(pT147 b)])] [] ⟨.inl ok80, trivial⟩ (by kernel_rfl) (by first | (simp -implicitDefEqProofs; done) | simp -implicitDefEqProofs [pT147]) ?_
        obtain rfl := leafS h
        refine VW.ret (VRet.fin ?_)
        first | (simp [eB78]; done) | simp [eB78, pT147]
noncomputable def g75_j1 : Option (Bool) :=
  some true
noncomputable def g75_L1 (a : List T147) (b : List T147) : (Int) → Option ((Int) ⊕ ((Unit) ⊕ (Bool)))
  | i_45 =>
    if ltI i_45 (a.length : Int) = true then
      (idx a i_45).bind fun e47 =>
      (idx b i_45).bind fun e49 =>
      (g78 e47 e49).bind fun r51 =>
      if (!r51) = true then
        some (.inr (.inr false))
      else
        some (.inl (aI .i64 i_45 1))
    else
      some (.inr (.inl ()))
noncomputable def g75 (a : List T147) (b : List T147) : Option (Bool) :=
  if (!eqI (a.length : Int) (b.length : Int)) = true then
    some false
  else
    (loopO (g75_L1 a b) 0).bind fun w => match w with
      | .inl y => g75_j1
      | .inr r => some r
def eA75 (a : (List T147) × (List T147)) : List V := [.sl 18 (rows cT147 a.1), .sl 18 (rows cT147 a.2)]
def eB75 (r : Bool) : V := .b r
theorem inj75 (a a' : (List T147) × (List T147)) (h : eA75 a = eA75 a') : a = a' := by
  obtain ⟨i1159, i1160⟩ := a
  obtain ⟨i1161, i1162⟩ := a'
  simp only [eA75, List.cons.injEq, V.i.injEq, V.b.injEq, V.f.injEq, V.str.injEq, V.sl.injEq, V.agg.injEq, V.cptr.injEq, true_and, and_true] at h
  simp_all [ri cT147_inj]
noncomputable def F75 : List V → Option V := tells (fun a => g75 a.1 a.2) eA75 eB75
set_option maxRecDepth 100000 in
set_option maxHeartbeats 4000000 in
/- loop.example/g01229/laws.eqWoodS -/
theorem ok75 : Tells Try.prog 75 F75 := by
  refine Tells.of (by kernel_rfl) ?_
  rintro ⟨a, b⟩ r h
  refine VCalls.nl (VCalls.of Try.func75 rfl rfl rfl ?_)
  rw [tm_init]
  simp only [eA75, en, List.length_cons, List.length_nil, Nat.reduceAdd, Nat.reduceSub]
  replace h : (g75 a b).bind some = some r := bindS h
  rw [g75] at h
  refine VW.seq ?_
  refine VW.evalA (C := [(78, F78)]) (tm 27 [(0, .sl 18 (rows cT147 a)), (1, .sl 18 (rows cT147 b))]) [] [] ⟨.inl ok78, trivial⟩ (by kernel_rfl) (by simp -implicitDefEqProofs) ?_
  refine VW.seq ?_
  refine VW.seq ?_
  refine VW.evalA (C := [(78, F78)]) (tm 27 [(0, .sl 18 (rows cT147 a)), (1, .sl 18 (rows cT147 b)), (10, .b (!eqI (a.length : Int) (b.length : Int)))]) [] [] ⟨.inl ok78, trivial⟩ (by kernel_rfl) (by simp -implicitDefEqProofs) ?_
  refine VW.condB (b := (!eqI (a.length : Int) (b.length : Int))) (by simp) (fun g1 => ?_) (fun g1 => ?_)
  · replace h := iteT g1 h
    refine VW.seq ?_
    refine VW.evalA (C := [(78, F78)]) (tm 27 [(4, .b false)]) [] [] ⟨.inl ok78, trivial⟩ (by kernel_rfl) (by simp -implicitDefEqProofs) ?_
    obtain rfl := leafS h
    refine VW.ret (VRet.fin ?_)
    simp [eB75]
  · replace h := iteF g1 h
    refine VW.skip ?_
    refine VW.join (fun (v : Unit) => (⟨(tm 27 []), [], []⟩ : VS)) (fun v => (g75_j1).bind some = some r) ?_ ?_
    · refine VW.seq ?_
      refine VW.evalA (C := [(78, F78)]) (tm 27 [(0, .sl 18 (rows cT147 a)), (1, .sl 18 (rows cT147 b)), (5, .i .i64 0)]) [] [] ⟨.inl ok78, trivial⟩ (by kernel_rfl) (by simp -implicitDefEqProofs) ?_
      refine VW.block ?_
      obtain ⟨w_1, hw_1, h⟩ := bindE h
      refine VW.loopO (fun (x : Int) => (⟨(tm 27 [(0, .sl 18 (rows cT147 a)), (1, .sl 18 (rows cT147 b)), (5, .i .i64 x)]), [], []⟩ : VS)) hw_1 (Ent.to 0 (by simp [fgt]) (by simp) (by simp) (by simp [bndT, bndV]) (by simp [bndM, bndV])) ?_
      rintro n_1 i_45 h1
      rw [g75_L1] at h1
      refine VW.seq ?_
      refine VW.seq ?_
      refine VW.evalA (C := [(78, F78)]) (tm 27 [(0, .sl 18 (rows cT147 a)), (1, .sl 18 (rows cT147 b)), (5, .i .i64 i_45), (14, .b (ltI i_45 (a.length : Int)))]) [] [] ⟨.inl ok78, trivial⟩ (by kernel_rfl) (by simp -implicitDefEqProofs) ?_
      refine VW.condB (b := ltI i_45 (a.length : Int)) (by simp) (fun g46 => ?_) (fun g46 => ?_)
      · replace h1 := iteT g46 h1
        refine VW.skip ?_
        refine VW.seq ?_
        refine VW.block ?_
        refine VW.seq ?_
        obtain ⟨e47, q48, h1⟩ := bindE h1
        obtain ⟨f48a, f48b, f48c, f48d⟩ := idx_some q48
        obtain ⟨e49, q50, h1⟩ := bindE h1
        obtain ⟨f50a, f50b, f50c, f50d⟩ := idx_some q50
        obtain ⟨r51, q52, h1⟩ := bindE h1
        have c52 : F78 [.agg [.f .f32 e47.wet_.a0_, .f .f32 e47.wet_.a1_, .f .f32 e47.wet_.a2_, .f .f32 e47.wet_.a3_, .f .f32 e47.wet_.a4_, .f .f32 e47.wet_.a5_, .f .f32 e47.heat_.a0_, .f .f32 e47.heat_.a1_, .f .f32 e47.heat_.a2_, .f .f32 e47.heat_.a3_, .f .f32 e47.heat_.a4_, .f .f32 e47.heat_.a5_, .f .f32 e47.fuel_.a0_, .f .f32 e47.fuel_.a1_, .f .f32 e47.fuel_.a2_, .f .f32 e47.fuel_.a3_, .f .f32 e47.fuel_.a4_, .f .f32 e47.fuel_.a5_], .agg [.f .f32 e49.wet_.a0_, .f .f32 e49.wet_.a1_, .f .f32 e49.wet_.a2_, .f .f32 e49.wet_.a3_, .f .f32 e49.wet_.a4_, .f .f32 e49.wet_.a5_, .f .f32 e49.heat_.a0_, .f .f32 e49.heat_.a1_, .f .f32 e49.heat_.a2_, .f .f32 e49.heat_.a3_, .f .f32 e49.heat_.a4_, .f .f32 e49.heat_.a5_, .f .f32 e49.fuel_.a0_, .f .f32 e49.fuel_.a1_, .f .f32 e49.fuel_.a2_, .f .f32 e49.fuel_.a3_, .f .f32 e49.fuel_.a4_, .f .f32 e49.fuel_.a5_]] = some (.b r51) := tells_eq inj78 (a := (e47, e49)) q52
        refine VW.evalDA (C := [(78, F78)]) (tm 27 [(0, .sl 18 (rows cT147 a)), (1, .sl 18 (rows cT147 b)), (5, .i .i64 i_45), (26, .b (!r51))]) [] [] ⟨.inl ok78, trivial⟩ mixed (by kernel_rfl) (by simp -implicitDefEqProofs [f48a, f48b, f48c, f48d, f50a, f50b, f50c, f50d, c52]) ?_
        refine VW.condB (b := (!r51)) (by simp) (fun g53 => ?_) (fun g53 => ?_)
        · replace h1 := iteT g53 h1
          refine VW.seq ?_
          refine VW.evalA (C := [(78, F78)]) (tm 27 [(4, .b false)]) [] [] ⟨.inl ok78, trivial⟩ (by kernel_rfl) (by simp -implicitDefEqProofs) ?_
          have e_ := leafR h1
          subst w_1
          obtain rfl := leafS h
          refine VW.ret (VRet.fin ?_)
          simp [eB75]
        · replace h1 := iteF g53 h1
          refine VW.skip ?_
          refine VW.evalA (C := [(78, F78)]) (tm 27 [(0, .sl 18 (rows cT147 a)), (1, .sl 18 (rows cT147 b)), (5, .i .i64 (aI .i64 i_45 1))]) [] [] ⟨.inl ok78, trivial⟩ (by kernel_rfl) (by simp -implicitDefEqProofs) ?_
          exact (show ∃ _, _ from ⟨aI .i64 i_45 1, leafL h1, (Ent.to 0 (by simp [fgt]) (by simp) (by simp) (by simp [bndT, bndV]) (by simp [bndM, bndV]))⟩)
      · replace h1 := iteF g46 h1
        refine VW.exit ?_
        have e_ := leafR h1
        subst w_1
        exact (show ∃ _, _ from ⟨(), h, (Ent.to 0 (by simp [fgt]) (by simp) (by simp) (by simp [bndT, bndV]) (by simp [bndM, bndV]))⟩)
    · rintro _ h
      replace h : (g75_j1).bind _ = _ := h
      rw [g75_j1] at h
      refine VW.seq ?_
      refine VW.evalA (C := [(78, F78)]) (tm 27 [(4, .b true)]) [] [] ⟨.inl ok78, trivial⟩ (by kernel_rfl) (by simp -implicitDefEqProofs) ?_
      obtain rfl := leafS h
      refine VW.ret (VRet.fin ?_)
      simp [eB75]
noncomputable def g69 (a : T90) (b : T90) : Option (Bool) :=
  (g75 a.logs_ b.logs_).bind fun r1 =>
  if (!r1) = true then
    some false
  else
    (g59 (wide a.box_) (wide b.box_)).bind fun r4 =>
    if (!r4) = true then
      some false
    else
      (g59 (wide a.damper_) (wide b.damper_)).bind fun r7 =>
      if (!r7) = true then
        some false
      else
        if (!eqI a.state_ b.state_) = true then
          some false
        else
          if (!eqI a.ash_ b.ash_) = true then
            some false
          else
            (g59 (wide a.dust_) (wide b.dust_)).bind fun r12 =>
            if (!r12) = true then
              some false
            else
              some true
def eA69 (a : T90 × T90) : List V := [.agg (pT90 a.1), .agg (pT90 a.2)]
def eB69 (r : Bool) : V := .b r
theorem inj69 (a a' : T90 × T90) (h : eA69 a = eA69 a') : a = a' := by
  obtain ⟨⟨i1163, i1164, i1165, i1166, i1167, i1168⟩, ⟨i1169, i1170, i1171, i1172, i1173, i1174⟩⟩ := a
  obtain ⟨⟨i1175, i1176, i1177, i1178, i1179, i1180⟩, ⟨i1181, i1182, i1183, i1184, i1185, i1186⟩⟩ := a'
  simp only [eA69, pT90, List.cons.injEq, V.i.injEq, V.b.injEq, V.f.injEq, V.str.injEq, V.sl.injEq, V.agg.injEq, V.cptr.injEq, true_and, and_true] at h
  simp_all [ri cT147_inj]
noncomputable def F69 : List V → Option V := tells (fun a => g69 a.1 a.2) eA69 eB69
set_option maxRecDepth 100000 in
set_option maxHeartbeats 4000000 in
/- loop.example/g01229/laws.eqStove -/
theorem ok69 : Tells Try.prog 69 F69 := by
  refine Tells.of (by kernel_rfl) ?_
  rintro ⟨a, b⟩ r h
  refine VCalls.nl (VCalls.of Try.func69 rfl rfl rfl ?_)
  rw [tm_init]
  simp only [eA69, en, List.length_cons, List.length_nil, Nat.reduceAdd, Nat.reduceSub]
  replace h : (g69 a b).bind some = some r := bindS h
  rw [g69] at h
  refine VW.seq ?_
  refine VW.evalA (C := [(59, F59), (75, F75)]) (tm 45 [(2, .ptr 0 0 0), (3, .ptr 1 0 0)]) [some (6, [(pT90 a)]), some (6, [(pT90 b)])] [] ⟨.inl ok59, .inl ok75, trivial⟩ (by kernel_rfl) (by first | (simp -implicitDefEqProofs; done) | simp -implicitDefEqProofs [pT90]) ?_
  refine VW.seq ?_
  refine VW.seq ?_
  obtain ⟨r1, q2, h⟩ := bindE h
  have c2 : F75 [.sl 18 (rows cT147 a.logs_), .sl 18 (rows cT147 b.logs_)] = some (.b r1) := tells_eq inj75 (a := (a.logs_, b.logs_)) q2
  refine VW.evalA (C := [(59, F59), (75, F75)]) (tm 45 [(2, .ptr 0 0 0), (3, .ptr 1 0 0), (10, .b (!r1))]) [some (6, [(pT90 a)]), some (6, [(pT90 b)])] [] ⟨.inl ok59, .inl ok75, trivial⟩ (by kernel_rfl) (by first | (simp -implicitDefEqProofs [c2]; done) | simp -implicitDefEqProofs [c2, pT90]) ?_
  refine VW.condB (b := (!r1)) (by simp) (fun g3 => ?_) (fun g3 => ?_)
  · replace h := iteT g3 h
    refine VW.seq ?_
    refine VW.evalA (C := [(59, F59), (75, F75)]) (tm 45 [(4, .b false)]) [some (6, [(pT90 a)]), some (6, [(pT90 b)])] [] ⟨.inl ok59, .inl ok75, trivial⟩ (by kernel_rfl) (by first | (simp -implicitDefEqProofs; done) | simp -implicitDefEqProofs [pT90]) ?_
    obtain rfl := leafS h
    refine VW.ret (VRet.fin ?_)
    first | (simp [eB69]; done) | simp [eB69, pT90]
  · replace h := iteF g3 h
    refine VW.skip ?_
    refine VW.seq ?_
    refine VW.seq ?_
    obtain ⟨r4, q5, h⟩ := bindE h
    have c5 : F59 [.f .f64 (wide a.box_), .f .f64 (wide b.box_)] = some (.b r4) := tells_eq inj59 (a := (wide a.box_, wide b.box_)) q5
    refine VW.evalA (C := [(59, F59), (75, F75)]) (tm 45 [(2, .ptr 0 0 0), (3, .ptr 1 0 0), (18, .b (!r4))]) [some (6, [(pT90 a)]), some (6, [(pT90 b)])] [] ⟨.inl ok59, .inl ok75, trivial⟩ (by kernel_rfl) (by first | (simp -implicitDefEqProofs [c5]; done) | simp -implicitDefEqProofs [c5, pT90]) ?_
    refine VW.condB (b := (!r4)) (by simp) (fun g6 => ?_) (fun g6 => ?_)
    · replace h := iteT g6 h
      refine VW.seq ?_
      refine VW.evalA (C := [(59, F59), (75, F75)]) (tm 45 [(4, .b false)]) [some (6, [(pT90 a)]), some (6, [(pT90 b)])] [] ⟨.inl ok59, .inl ok75, trivial⟩ (by kernel_rfl) (by first | (simp -implicitDefEqProofs; done) | simp -implicitDefEqProofs [pT90]) ?_
      obtain rfl := leafS h
      refine VW.ret (VRet.fin ?_)
      first | (simp [eB69]; done) | simp [eB69, pT90]
    · replace h := iteF g6 h
      refine VW.skip ?_
      refine VW.seq ?_
      refine VW.seq ?_
      obtain ⟨r7, q8, h⟩ := bindE h
      have c8 : F59 [.f .f64 (wide a.damper_), .f .f64 (wide b.damper_)] = some (.b r7) := tells_eq inj59 (a := (wide a.damper_, wide b.damper_)) q8
      refine VW.evalA (C := [(59, F59), (75, F75)]) (tm 45 [(2, .ptr 0 0 0), (3, .ptr 1 0 0), (26, .b (!r7))]) [some (6, [(pT90 a)]), some (6, [(pT90 b)])] [] ⟨.inl ok59, .inl ok75, trivial⟩ (by kernel_rfl) (by first | (simp -implicitDefEqProofs [c8]; done) | simp -implicitDefEqProofs [c8, pT90]) ?_
      refine VW.condB (b := (!r7)) (by simp) (fun g9 => ?_) (fun g9 => ?_)
      · replace h := iteT g9 h
        refine VW.seq ?_
        refine VW.evalA (C := [(59, F59), (75, F75)]) (tm 45 [(4, .b false)]) [some (6, [(pT90 a)]), some (6, [(pT90 b)])] [] ⟨.inl ok59, .inl ok75, trivial⟩ (by kernel_rfl) (by first | (simp -implicitDefEqProofs; done) | simp -implicitDefEqProofs [pT90]) ?_
        obtain rfl := leafS h
        refine VW.ret (VRet.fin ?_)
        first | (simp [eB69]; done) | simp [eB69, pT90]
      · replace h := iteF g9 h
        refine VW.skip ?_
        refine VW.seq ?_
        refine VW.seq ?_
        refine VW.evalA (C := [(59, F59), (75, F75)]) (tm 45 [(2, .ptr 0 0 0), (3, .ptr 1 0 0), (31, .b (!eqI a.state_ b.state_))]) [some (6, [(pT90 a)]), some (6, [(pT90 b)])] [] ⟨.inl ok59, .inl ok75, trivial⟩ (by kernel_rfl) (by first | (simp -implicitDefEqProofs; done) | simp -implicitDefEqProofs [pT90]) ?_
        refine VW.condB (b := (!eqI a.state_ b.state_)) (by simp) (fun g10 => ?_) (fun g10 => ?_)
        · replace h := iteT g10 h
          refine VW.seq ?_
          refine VW.evalA (C := [(59, F59), (75, F75)]) (tm 45 [(4, .b false)]) [some (6, [(pT90 a)]), some (6, [(pT90 b)])] [] ⟨.inl ok59, .inl ok75, trivial⟩ (by kernel_rfl) (by first | (simp -implicitDefEqProofs; done) | simp -implicitDefEqProofs [pT90]) ?_
          obtain rfl := leafS h
          refine VW.ret (VRet.fin ?_)
          first | (simp [eB69]; done) | simp [eB69, pT90]
        · replace h := iteF g10 h
          refine VW.skip ?_
          refine VW.seq ?_
          refine VW.seq ?_
          refine VW.evalA (C := [(59, F59), (75, F75)]) (tm 45 [(2, .ptr 0 0 0), (3, .ptr 1 0 0), (36, .b (!eqI a.ash_ b.ash_))]) [some (6, [(pT90 a)]), some (6, [(pT90 b)])] [] ⟨.inl ok59, .inl ok75, trivial⟩ (by kernel_rfl) (by first | (simp -implicitDefEqProofs; done) | simp -implicitDefEqProofs [pT90]) ?_
          refine VW.condB (b := (!eqI a.ash_ b.ash_)) (by simp) (fun g11 => ?_) (fun g11 => ?_)
          · replace h := iteT g11 h
            refine VW.seq ?_
            refine VW.evalA (C := [(59, F59), (75, F75)]) (tm 45 [(4, .b false)]) [some (6, [(pT90 a)]), some (6, [(pT90 b)])] [] ⟨.inl ok59, .inl ok75, trivial⟩ (by kernel_rfl) (by first | (simp -implicitDefEqProofs; done) | simp -implicitDefEqProofs [pT90]) ?_
            obtain rfl := leafS h
            refine VW.ret (VRet.fin ?_)
            first | (simp [eB69]; done) | simp [eB69, pT90]
          · replace h := iteF g11 h
            refine VW.skip ?_
            refine VW.seq ?_
            refine VW.seq ?_
            obtain ⟨r12, q13, h⟩ := bindE h
            have c13 : F59 [.f .f64 (wide a.dust_), .f .f64 (wide b.dust_)] = some (.b r12) := tells_eq inj59 (a := (wide a.dust_, wide b.dust_)) q13
            refine VW.evalA (C := [(59, F59), (75, F75)]) (tm 45 [(44, .b (!r12))]) [some (6, [(pT90 a)]), some (6, [(pT90 b)])] [] ⟨.inl ok59, .inl ok75, trivial⟩ (by kernel_rfl) (by first | (simp -implicitDefEqProofs [c13]; done) | simp -implicitDefEqProofs [c13, pT90]) ?_
            refine VW.condB (b := (!r12)) (by simp) (fun g14 => ?_) (fun g14 => ?_)
            · replace h := iteT g14 h
              refine VW.seq ?_
              refine VW.evalA (C := [(59, F59), (75, F75)]) (tm 45 [(4, .b false)]) [some (6, [(pT90 a)]), some (6, [(pT90 b)])] [] ⟨.inl ok59, .inl ok75, trivial⟩ (by kernel_rfl) (by first | (simp -implicitDefEqProofs; done) | simp -implicitDefEqProofs [pT90]) ?_
              obtain rfl := leafS h
              refine VW.ret (VRet.fin ?_)
              first | (simp [eB69]; done) | simp [eB69, pT90]
            · replace h := iteF g14 h
              refine VW.skip ?_
              refine VW.seq ?_
              refine VW.evalA (C := [(59, F59), (75, F75)]) (tm 45 [(4, .b true)]) [some (6, [(pT90 a)]), some (6, [(pT90 b)])] [] ⟨.inl ok59, .inl ok75, trivial⟩ (by kernel_rfl) (by first | (simp -implicitDefEqProofs; done) | simp -implicitDefEqProofs [pT90]) ?_
              obtain rfl := leafS h
              refine VW.ret (VRet.fin ?_)
              first | (simp [eB69]; done) | simp [eB69, pT90]
noncomputable def g57 (a : T92) (b : T92) : Option (Bool) :=
  if (!eqI a.room_ b.room_) = true then
    some false
  else
    if (!eqI a.flue_ b.flue_) = true then
      some false
    else
      if (!eqI a.brain_ b.brain_) = true then
        some false
      else
        (g69 a.stove_ b.stove_).bind fun r4 =>
        if (!r4) = true then
          some false
        else
          some true
def eA57 (a : T92 × T92) : List V := [.agg (pT92 a.1), .agg (pT92 a.2)]
def eB57 (r : Bool) : V := .b r
theorem inj57 (a a' : T92 × T92) (h : eA57 a = eA57 a') : a = a' := by
  obtain ⟨⟨i1187, i1188, i1189, ⟨i1190, i1191, i1192, i1193, i1194, i1195⟩⟩, ⟨i1196, i1197, i1198, ⟨i1199, i1200, i1201, i1202, i1203, i1204⟩⟩⟩ := a
  obtain ⟨⟨i1205, i1206, i1207, ⟨i1208, i1209, i1210, i1211, i1212, i1213⟩⟩, ⟨i1214, i1215, i1216, ⟨i1217, i1218, i1219, i1220, i1221, i1222⟩⟩⟩ := a'
  simp only [eA57, pT92, List.cons.injEq, V.i.injEq, V.b.injEq, V.f.injEq, V.str.injEq, V.sl.injEq, V.agg.injEq, V.cptr.injEq, true_and, and_true] at h
  simp_all [ri cT147_inj]
noncomputable def F57 : List V → Option V := tells (fun a => g57 a.1 a.2) eA57 eB57
set_option maxRecDepth 100000 in
set_option maxHeartbeats 4000000 in
/- loop.example/g01229/laws.eqHearth -/
theorem ok57 : Tells Try.prog 57 F57 := by
  refine Tells.of (by kernel_rfl) ?_
  rintro ⟨a, b⟩ r h
  refine VCalls.nl (VCalls.of Try.func57 rfl rfl rfl ?_)
  rw [tm_init]
  simp only [eA57, en, List.length_cons, List.length_nil, Nat.reduceAdd, Nat.reduceSub]
  replace h : (g57 a b).bind some = some r := bindS h
  rw [g57] at h
  refine VW.seq ?_
  refine VW.evalA (C := [(69, F69)]) (tm 26 [(2, .ptr 0 0 0), (3, .ptr 1 0 0)]) [some (9, [(pT92 a)]), some (9, [(pT92 b)])] [] ⟨.inl ok69, trivial⟩ (by kernel_rfl) (by first | (simp -implicitDefEqProofs; done) | simp -implicitDefEqProofs [pT92]) ?_
  refine VW.seq ?_
  refine VW.seq ?_
  refine VW.evalA (C := [(69, F69)]) (tm 26 [(2, .ptr 0 0 0), (3, .ptr 1 0 0), (9, .b (!eqI a.room_ b.room_))]) [some (9, [(pT92 a)]), some (9, [(pT92 b)])] [] ⟨.inl ok69, trivial⟩ (by kernel_rfl) (by first | (simp -implicitDefEqProofs; done) | simp -implicitDefEqProofs [pT92]) ?_
  refine VW.condB (b := (!eqI a.room_ b.room_)) (by simp) (fun g1 => ?_) (fun g1 => ?_)
  · replace h := iteT g1 h
    refine VW.seq ?_
    refine VW.evalA (C := [(69, F69)]) (tm 26 [(4, .b false)]) [some (9, [(pT92 a)]), some (9, [(pT92 b)])] [] ⟨.inl ok69, trivial⟩ (by kernel_rfl) (by first | (simp -implicitDefEqProofs; done) | simp -implicitDefEqProofs [pT92]) ?_
    obtain rfl := leafS h
    refine VW.ret (VRet.fin ?_)
    first | (simp [eB57]; done) | simp [eB57, pT92]
  · replace h := iteF g1 h
    refine VW.skip ?_
    refine VW.seq ?_
    refine VW.seq ?_
    refine VW.evalA (C := [(69, F69)]) (tm 26 [(2, .ptr 0 0 0), (3, .ptr 1 0 0), (14, .b (!eqI a.flue_ b.flue_))]) [some (9, [(pT92 a)]), some (9, [(pT92 b)])] [] ⟨.inl ok69, trivial⟩ (by kernel_rfl) (by first | (simp -implicitDefEqProofs; done) | simp -implicitDefEqProofs [pT92]) ?_
    refine VW.condB (b := (!eqI a.flue_ b.flue_)) (by simp) (fun g2 => ?_) (fun g2 => ?_)
    · replace h := iteT g2 h
      refine VW.seq ?_
      refine VW.evalA (C := [(69, F69)]) (tm 26 [(4, .b false)]) [some (9, [(pT92 a)]), some (9, [(pT92 b)])] [] ⟨.inl ok69, trivial⟩ (by kernel_rfl) (by first | (simp -implicitDefEqProofs; done) | simp -implicitDefEqProofs [pT92]) ?_
      obtain rfl := leafS h
      refine VW.ret (VRet.fin ?_)
      first | (simp [eB57]; done) | simp [eB57, pT92]
    · replace h := iteF g2 h
      refine VW.skip ?_
      refine VW.seq ?_
      refine VW.seq ?_
      refine VW.evalA (C := [(69, F69)]) (tm 26 [(2, .ptr 0 0 0), (3, .ptr 1 0 0), (19, .b (!eqI a.brain_ b.brain_))]) [some (9, [(pT92 a)]), some (9, [(pT92 b)])] [] ⟨.inl ok69, trivial⟩ (by kernel_rfl) (by first | (simp -implicitDefEqProofs; done) | simp -implicitDefEqProofs [pT92]) ?_
      refine VW.condB (b := (!eqI a.brain_ b.brain_)) (by simp) (fun g3 => ?_) (fun g3 => ?_)
      · replace h := iteT g3 h
        refine VW.seq ?_
        refine VW.evalA (C := [(69, F69)]) (tm 26 [(4, .b false)]) [some (9, [(pT92 a)]), some (9, [(pT92 b)])] [] ⟨.inl ok69, trivial⟩ (by kernel_rfl) (by first | (simp -implicitDefEqProofs; done) | simp -implicitDefEqProofs [pT92]) ?_
        obtain rfl := leafS h
        refine VW.ret (VRet.fin ?_)
        first | (simp [eB57]; done) | simp [eB57, pT92]
      · replace h := iteF g3 h
        refine VW.skip ?_
        refine VW.seq ?_
        refine VW.seq ?_
        obtain ⟨r4, q5, h⟩ := bindE h
        have c5 : F69 [.agg [.sl 18 (rows cT147 a.stove_.logs_), .f .f32 a.stove_.box_, .f .f32 a.stove_.damper_, .i .i8 a.stove_.state_, .i .i64 a.stove_.ash_, .f .f32 a.stove_.dust_], .agg [.sl 18 (rows cT147 b.stove_.logs_), .f .f32 b.stove_.box_, .f .f32 b.stove_.damper_, .i .i8 b.stove_.state_, .i .i64 b.stove_.ash_, .f .f32 b.stove_.dust_]] = some (.b r4) := tells_eq inj69 (a := (a.stove_, b.stove_)) q5
        refine VW.evalA (C := [(69, F69)]) (tm 26 [(25, .b (!r4))]) [some (9, [(pT92 a)]), some (9, [(pT92 b)])] [] ⟨.inl ok69, trivial⟩ (by kernel_rfl) (by first | (simp -implicitDefEqProofs [c5]; done) | simp -implicitDefEqProofs [c5, pT92]) ?_
        refine VW.condB (b := (!r4)) (by simp) (fun g6 => ?_) (fun g6 => ?_)
        · replace h := iteT g6 h
          refine VW.seq ?_
          refine VW.evalA (C := [(69, F69)]) (tm 26 [(4, .b false)]) [some (9, [(pT92 a)]), some (9, [(pT92 b)])] [] ⟨.inl ok69, trivial⟩ (by kernel_rfl) (by first | (simp -implicitDefEqProofs; done) | simp -implicitDefEqProofs [pT92]) ?_
          obtain rfl := leafS h
          refine VW.ret (VRet.fin ?_)
          first | (simp [eB57]; done) | simp [eB57, pT92]
        · replace h := iteF g6 h
          refine VW.skip ?_
          refine VW.seq ?_
          refine VW.evalA (C := [(69, F69)]) (tm 26 [(4, .b true)]) [some (9, [(pT92 a)]), some (9, [(pT92 b)])] [] ⟨.inl ok69, trivial⟩ (by kernel_rfl) (by first | (simp -implicitDefEqProofs; done) | simp -implicitDefEqProofs [pT92]) ?_
          obtain rfl := leafS h
          refine VW.ret (VRet.fin ?_)
          first | (simp [eB57]; done) | simp [eB57, pT92]
noncomputable def g33_j1 : Option (Bool) :=
  some true
noncomputable def g33_L1 (a : List T92) (b : List T92) : (Int) → Option ((Int) ⊕ ((Unit) ⊕ (Bool)))
  | i_45 =>
    if ltI i_45 (a.length : Int) = true then
      (idx a i_45).bind fun e47 =>
      (idx b i_45).bind fun e49 =>
      (g57 e47 e49).bind fun r51 =>
      if (!r51) = true then
        some (.inr (.inr false))
      else
        some (.inl (aI .i64 i_45 1))
    else
      some (.inr (.inl ()))
noncomputable def g33 (a : List T92) (b : List T92) : Option (Bool) :=
  if (!eqI (a.length : Int) (b.length : Int)) = true then
    some false
  else
    (loopO (g33_L1 a b) 0).bind fun w => match w with
      | .inl y => g33_j1
      | .inr r => some r
def eA33 (a : (List T92) × (List T92)) : List V := [.sl 9 (rows cT92 a.1), .sl 9 (rows cT92 a.2)]
def eB33 (r : Bool) : V := .b r
theorem inj33 (a a' : (List T92) × (List T92)) (h : eA33 a = eA33 a') : a = a' := by
  obtain ⟨i1223, i1224⟩ := a
  obtain ⟨i1225, i1226⟩ := a'
  simp only [eA33, List.cons.injEq, V.i.injEq, V.b.injEq, V.f.injEq, V.str.injEq, V.sl.injEq, V.agg.injEq, V.cptr.injEq, true_and, and_true] at h
  simp_all [ri cT92_inj]
noncomputable def F33 : List V → Option V := tells (fun a => g33 a.1 a.2) eA33 eB33
set_option maxRecDepth 100000 in
set_option maxHeartbeats 4000000 in
/- loop.example/g01229/laws.eqHearthS -/
theorem ok33 : Tells Try.prog 33 F33 := by
  refine Tells.of (by kernel_rfl) ?_
  rintro ⟨a, b⟩ r h
  refine VCalls.nl (VCalls.of Try.func33 rfl rfl rfl ?_)
  rw [tm_init]
  simp only [eA33, en, List.length_cons, List.length_nil, Nat.reduceAdd, Nat.reduceSub]
  replace h : (g33 a b).bind some = some r := bindS h
  rw [g33] at h
  refine VW.seq ?_
  refine VW.evalA (C := [(57, F57)]) (tm 27 [(0, .sl 9 (rows cT92 a)), (1, .sl 9 (rows cT92 b))]) [] [] ⟨.inl ok57, trivial⟩ (by kernel_rfl) (by simp -implicitDefEqProofs) ?_
  refine VW.seq ?_
  refine VW.seq ?_
  refine VW.evalA (C := [(57, F57)]) (tm 27 [(0, .sl 9 (rows cT92 a)), (1, .sl 9 (rows cT92 b)), (10, .b (!eqI (a.length : Int) (b.length : Int)))]) [] [] ⟨.inl ok57, trivial⟩ (by kernel_rfl) (by simp -implicitDefEqProofs) ?_
  refine VW.condB (b := (!eqI (a.length : Int) (b.length : Int))) (by simp) (fun g1 => ?_) (fun g1 => ?_)
  · replace h := iteT g1 h
    refine VW.seq ?_
    refine VW.evalA (C := [(57, F57)]) (tm 27 [(4, .b false)]) [] [] ⟨.inl ok57, trivial⟩ (by kernel_rfl) (by simp -implicitDefEqProofs) ?_
    obtain rfl := leafS h
    refine VW.ret (VRet.fin ?_)
    simp [eB33]
  · replace h := iteF g1 h
    refine VW.skip ?_
    refine VW.join (fun (v : Unit) => (⟨(tm 27 []), [], []⟩ : VS)) (fun v => (g33_j1).bind some = some r) ?_ ?_
    · refine VW.seq ?_
      refine VW.evalA (C := [(57, F57)]) (tm 27 [(0, .sl 9 (rows cT92 a)), (1, .sl 9 (rows cT92 b)), (5, .i .i64 0)]) [] [] ⟨.inl ok57, trivial⟩ (by kernel_rfl) (by simp -implicitDefEqProofs) ?_
      refine VW.block ?_
      obtain ⟨w_1, hw_1, h⟩ := bindE h
      refine VW.loopO (fun (x : Int) => (⟨(tm 27 [(0, .sl 9 (rows cT92 a)), (1, .sl 9 (rows cT92 b)), (5, .i .i64 x)]), [], []⟩ : VS)) hw_1 (Ent.to 0 (by simp [fgt]) (by simp) (by simp) (by simp [bndT, bndV]) (by simp [bndM, bndV])) ?_
      rintro n_1 i_45 h1
      rw [g33_L1] at h1
      refine VW.seq ?_
      refine VW.seq ?_
      refine VW.evalA (C := [(57, F57)]) (tm 27 [(0, .sl 9 (rows cT92 a)), (1, .sl 9 (rows cT92 b)), (5, .i .i64 i_45), (14, .b (ltI i_45 (a.length : Int)))]) [] [] ⟨.inl ok57, trivial⟩ (by kernel_rfl) (by simp -implicitDefEqProofs) ?_
      refine VW.condB (b := ltI i_45 (a.length : Int)) (by simp) (fun g46 => ?_) (fun g46 => ?_)
      · replace h1 := iteT g46 h1
        refine VW.skip ?_
        refine VW.seq ?_
        refine VW.block ?_
        refine VW.seq ?_
        obtain ⟨e47, q48, h1⟩ := bindE h1
        obtain ⟨f48a, f48b, f48c, f48d⟩ := idx_some q48
        obtain ⟨e49, q50, h1⟩ := bindE h1
        obtain ⟨f50a, f50b, f50c, f50d⟩ := idx_some q50
        obtain ⟨r51, q52, h1⟩ := bindE h1
        have c52 : F57 [.agg [.i .i64 e47.room_, .i .i64 e47.flue_, .i .i64 e47.brain_, .sl 18 (rows cT147 e47.stove_.logs_), .f .f32 e47.stove_.box_, .f .f32 e47.stove_.damper_, .i .i8 e47.stove_.state_, .i .i64 e47.stove_.ash_, .f .f32 e47.stove_.dust_], .agg [.i .i64 e49.room_, .i .i64 e49.flue_, .i .i64 e49.brain_, .sl 18 (rows cT147 e49.stove_.logs_), .f .f32 e49.stove_.box_, .f .f32 e49.stove_.damper_, .i .i8 e49.stove_.state_, .i .i64 e49.stove_.ash_, .f .f32 e49.stove_.dust_]] = some (.b r51) := tells_eq inj57 (a := (e47, e49)) q52
        refine VW.evalDA (C := [(57, F57)]) (tm 27 [(0, .sl 9 (rows cT92 a)), (1, .sl 9 (rows cT92 b)), (5, .i .i64 i_45), (26, .b (!r51))]) [] [] ⟨.inl ok57, trivial⟩ mixed (by kernel_rfl) (by simp -implicitDefEqProofs [f48a, f48b, f48c, f48d, f50a, f50b, f50c, f50d, c52]) ?_
        refine VW.condB (b := (!r51)) (by simp) (fun g53 => ?_) (fun g53 => ?_)
        · replace h1 := iteT g53 h1
          refine VW.seq ?_
          refine VW.evalA (C := [(57, F57)]) (tm 27 [(4, .b false)]) [] [] ⟨.inl ok57, trivial⟩ (by kernel_rfl) (by simp -implicitDefEqProofs) ?_
          have e_ := leafR h1
          subst w_1
          obtain rfl := leafS h
          refine VW.ret (VRet.fin ?_)
          simp [eB33]
        · replace h1 := iteF g53 h1
          refine VW.skip ?_
          refine VW.evalA (C := [(57, F57)]) (tm 27 [(0, .sl 9 (rows cT92 a)), (1, .sl 9 (rows cT92 b)), (5, .i .i64 (aI .i64 i_45 1))]) [] [] ⟨.inl ok57, trivial⟩ (by kernel_rfl) (by simp -implicitDefEqProofs) ?_
          exact (show ∃ _, _ from ⟨aI .i64 i_45 1, leafL h1, (Ent.to 0 (by simp [fgt]) (by simp) (by simp) (by simp [bndT, bndV]) (by simp [bndM, bndV]))⟩)
      · replace h1 := iteF g46 h1
        refine VW.exit ?_
        have e_ := leafR h1
        subst w_1
        exact (show ∃ _, _ from ⟨(), h, (Ent.to 0 (by simp [fgt]) (by simp) (by simp) (by simp [bndT, bndV]) (by simp [bndM, bndV]))⟩)
    · rintro _ h
      replace h : (g33_j1).bind _ = _ := h
      rw [g33_j1] at h
      refine VW.seq ?_
      refine VW.evalA (C := [(57, F57)]) (tm 27 [(4, .b true)]) [] [] ⟨.inl ok57, trivial⟩ (by kernel_rfl) (by simp -implicitDefEqProofs) ?_
      obtain rfl := leafS h
      refine VW.ret (VRet.fin ?_)
      simp [eB33]
noncomputable def g34_j1 : Option (Bool) :=
  some true
noncomputable def g34_L1 (a : List ByteArray) (b : List ByteArray) : (Int) → Option ((Int) ⊕ ((Unit) ⊕ (Bool)))
  | i_35 =>
    if ltI i_35 (a.length : Int) = true then
      (idx a i_35).bind fun e37 =>
      (idx b i_35).bind fun e39 =>
      if (!eqS e37 e39) = true then
        some (.inr (.inr false))
      else
        some (.inl (aI .i64 i_35 1))
    else
      some (.inr (.inl ()))
noncomputable def g34 (a : List ByteArray) (b : List ByteArray) : Option (Bool) :=
  if (!eqI (a.length : Int) (b.length : Int)) = true then
    some false
  else
    (loopO (g34_L1 a b) 0).bind fun w => match w with
      | .inl y => g34_j1
      | .inr r => some r
def eA34 (a : (List ByteArray) × (List ByteArray)) : List V := [.sl 1 (rows cs_ a.1), .sl 1 (rows cs_ a.2)]
def eB34 (r : Bool) : V := .b r
theorem inj34 (a a' : (List ByteArray) × (List ByteArray)) (h : eA34 a = eA34 a') : a = a' := by
  obtain ⟨i1227, i1228⟩ := a
  obtain ⟨i1229, i1230⟩ := a'
  simp only [eA34, List.cons.injEq, V.i.injEq, V.b.injEq, V.f.injEq, V.str.injEq, V.sl.injEq, V.agg.injEq, V.cptr.injEq, true_and, and_true] at h
  simp_all [ri cs__inj]
noncomputable def F34 : List V → Option V := tells (fun a => g34 a.1 a.2) eA34 eB34
set_option maxRecDepth 100000 in
set_option maxHeartbeats 4000000 in
/- loop.example/g01229/laws.eqStringS -/
theorem ok34 : Tells Try.prog 34 F34 := by
  refine Tells.of (by kernel_rfl) ?_
  rintro ⟨a, b⟩ r h
  refine VCalls.nl (VCalls.of Try.func34 rfl rfl rfl ?_)
  rw [tm_init]
  simp only [eA34, en, List.length_cons, List.length_nil, Nat.reduceAdd, Nat.reduceSub]
  replace h : (g34 a b).bind some = some r := bindS h
  rw [g34] at h
  refine VW.seq ?_
  refine VW.evalA (C := []) (tm 26 [(0, .sl 1 (rows cs_ a)), (1, .sl 1 (rows cs_ b))]) [] [] trivial (by kernel_rfl) (by simp -implicitDefEqProofs) ?_
  refine VW.seq ?_
  refine VW.seq ?_
  refine VW.evalA (C := []) (tm 26 [(0, .sl 1 (rows cs_ a)), (1, .sl 1 (rows cs_ b)), (10, .b (!eqI (a.length : Int) (b.length : Int)))]) [] [] trivial (by kernel_rfl) (by simp -implicitDefEqProofs) ?_
  refine VW.condB (b := (!eqI (a.length : Int) (b.length : Int))) (by simp) (fun g1 => ?_) (fun g1 => ?_)
  · replace h := iteT g1 h
    refine VW.seq ?_
    refine VW.evalA (C := []) (tm 26 [(4, .b false)]) [] [] trivial (by kernel_rfl) (by simp -implicitDefEqProofs) ?_
    obtain rfl := leafS h
    refine VW.ret (VRet.fin ?_)
    simp [eB34]
  · replace h := iteF g1 h
    refine VW.skip ?_
    refine VW.join (fun (v : Unit) => (⟨(tm 26 []), [], []⟩ : VS)) (fun v => (g34_j1).bind some = some r) ?_ ?_
    · refine VW.seq ?_
      refine VW.evalA (C := []) (tm 26 [(0, .sl 1 (rows cs_ a)), (1, .sl 1 (rows cs_ b)), (5, .i .i64 0)]) [] [] trivial (by kernel_rfl) (by simp -implicitDefEqProofs) ?_
      refine VW.block ?_
      obtain ⟨w_1, hw_1, h⟩ := bindE h
      refine VW.loopO (fun (x : Int) => (⟨(tm 26 [(0, .sl 1 (rows cs_ a)), (1, .sl 1 (rows cs_ b)), (5, .i .i64 x)]), [], []⟩ : VS)) hw_1 (Ent.to 0 (by simp [fgt]) (by simp) (by simp) (by simp [bndT, bndV]) (by simp [bndM, bndV])) ?_
      rintro n_1 i_35 h1
      rw [g34_L1] at h1
      refine VW.seq ?_
      refine VW.seq ?_
      refine VW.evalA (C := []) (tm 26 [(0, .sl 1 (rows cs_ a)), (1, .sl 1 (rows cs_ b)), (5, .i .i64 i_35), (14, .b (ltI i_35 (a.length : Int)))]) [] [] trivial (by kernel_rfl) (by simp -implicitDefEqProofs) ?_
      refine VW.condB (b := ltI i_35 (a.length : Int)) (by simp) (fun g36 => ?_) (fun g36 => ?_)
      · replace h1 := iteT g36 h1
        refine VW.skip ?_
        refine VW.seq ?_
        refine VW.block ?_
        refine VW.seq ?_
        obtain ⟨e37, q38, h1⟩ := bindE h1
        obtain ⟨f38a, f38b, f38c, f38d⟩ := idx_some q38
        obtain ⟨e39, q40, h1⟩ := bindE h1
        obtain ⟨f40a, f40b, f40c, f40d⟩ := idx_some q40
        refine VW.evalDA (C := []) (tm 26 [(0, .sl 1 (rows cs_ a)), (1, .sl 1 (rows cs_ b)), (5, .i .i64 i_35), (25, .b (!eqS e37 e39))]) [] [] trivial mixed (by kernel_rfl) (by simp -implicitDefEqProofs [f38a, f38b, f38c, f38d, f40a, f40b, f40c, f40d]) ?_
        refine VW.condB (b := (!eqS e37 e39)) (by simp) (fun g41 => ?_) (fun g41 => ?_)
        · replace h1 := iteT g41 h1
          refine VW.seq ?_
          refine VW.evalA (C := []) (tm 26 [(4, .b false)]) [] [] trivial (by kernel_rfl) (by simp -implicitDefEqProofs) ?_
          have e_ := leafR h1
          subst w_1
          obtain rfl := leafS h
          refine VW.ret (VRet.fin ?_)
          simp [eB34]
        · replace h1 := iteF g41 h1
          refine VW.skip ?_
          refine VW.evalA (C := []) (tm 26 [(0, .sl 1 (rows cs_ a)), (1, .sl 1 (rows cs_ b)), (5, .i .i64 (aI .i64 i_35 1))]) [] [] trivial (by kernel_rfl) (by simp -implicitDefEqProofs) ?_
          exact (show ∃ _, _ from ⟨aI .i64 i_35 1, leafL h1, (Ent.to 0 (by simp [fgt]) (by simp) (by simp) (by simp [bndT, bndV]) (by simp [bndM, bndV]))⟩)
      · replace h1 := iteF g36 h1
        refine VW.exit ?_
        have e_ := leafR h1
        subst w_1
        exact (show ∃ _, _ from ⟨(), h, (Ent.to 0 (by simp [fgt]) (by simp) (by simp) (by simp [bndT, bndV]) (by simp [bndM, bndV]))⟩)
    · rintro _ h
      replace h : (g34_j1).bind _ = _ := h
      rw [g34_j1] at h
      refine VW.seq ?_
      refine VW.evalA (C := []) (tm 26 [(4, .b true)]) [] [] trivial (by kernel_rfl) (by simp -implicitDefEqProofs) ?_
      obtain rfl := leafS h
      refine VW.ret (VRet.fin ?_)
      simp [eB34]
end Go.Proofs.Ytilkneilafpjiaa
