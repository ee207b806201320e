/- Contracts of the functions that the law reaches: what each tells, as a function in Lean. -/
import Derived.Test.YtiiejiobkfakeaaK6Ty
import Derived.KernelRfl
namespace Go.Proofs.Ytiiejiobkfakeaa
open Go.RowKit Go.VL
set_option linter.unusedSimpArgs false
set_option linter.unusedVariables false
set_option maxHeartbeats 1000000
noncomputable def g22 (code : List Int) (more_ : List Int) : Option (Bool) :=
  some (ltI 3000 (code.length : Int) || ltI 3000 (more_.length : Int))
def eA22 (a : (List Int) × (List Int)) : List V := [.sl 1 (rows ci_u8 a.1), .sl 1 (rows ci_u8 a.2)]
def eB22 (r : Bool) : V := .b r
theorem inj22 (a a' : (List Int) × (List Int)) (h : eA22 a = eA22 a') : a = a' := by
  obtain ⟨i1, i2⟩ := a
  obtain ⟨i3, i4⟩ := a'
  simp only [eA22, List.cons.injEq, V.i.injEq, V.b.injEq, V.f.injEq, V.str.injEq, V.sl.injEq, V.agg.injEq, V.cptr.injEq, true_and, and_true] at h
  simp_all [ri ci_u8_inj]
noncomputable def F22 : List V → Option V := tells (fun a => g22 a.1 a.2) eA22 eB22
set_option maxRecDepth 100000 in
set_option maxHeartbeats 4000000 in
/- loop.example/g01229/laws.a2Long -/
theorem ok22 : Tells Try.prog 22 F22 := by
  refine Tells.of (by kernel_rfl) ?_
  rintro ⟨code, more_⟩ r h
  refine VCalls.nl (VCalls.of Try.func22 rfl rfl rfl ?_)
  rw [tm_init]
  simp only [eA22, en, List.length_cons, List.length_nil, Nat.reduceAdd, Nat.reduceSub]
  replace h : (g22 code more_).bind some = some r := bindS h
  rw [g22] at h
  refine VW.seq ?_
  refine VW.evalA (C := []) (tm 13 [(0, .sl 1 (rows ci_u8 code)), (1, .sl 1 (rows ci_u8 more_))]) [] [] trivial (by kernel_rfl) (by simp -implicitDefEqProofs) ?_
  refine VW.seq ?_
  refine VW.evalA (C := []) (tm 13 [(4, .b (ltI 3000 (code.length : Int) || ltI 3000 (more_.length : Int)))]) [] [] trivial (by kernel_rfl) (by simp -implicitDefEqProofs) ?_
  obtain rfl := leafS h
  refine VW.ret (VRet.fin ?_)
  simp [eB22]
noncomputable def g63 (s : T85) : Option (Int × T85) :=
  if ltI s.at_ (s.code_.length : Int) = true then
    (idx s.code_ s.at_).bind fun e2 =>
    if leI (aI .i64 s.at_ 1) (s.code_.length : Int) = true then
      some (cI .i64 e2, (⟨s.code_, aI .i64 s.at_ 1, aI .u64 (aI .u64 (mI .u64 s.seed_ 6364136223846793005) (cI .u64 (cI .i64 e2))) 1442695040888963407⟩ : T85))
    else
      (shrI .u64 (aI .u64 (aI .u64 (mI .u64 s.seed_ 6364136223846793005) (cI .u64 (cI .i64 e2))) 1442695040888963407) 40).bind fun d5 =>
      some (cI .i64 (andI .u64 d5 255), (⟨s.code_, aI .i64 s.at_ 1, aI .u64 (aI .u64 (mI .u64 s.seed_ 6364136223846793005) (cI .u64 (cI .i64 e2))) 1442695040888963407⟩ : T85))
  else
    if leI (aI .i64 s.at_ 1) (s.code_.length : Int) = true then
      some (0, (⟨s.code_, aI .i64 s.at_ 1, aI .u64 (aI .u64 (mI .u64 s.seed_ 6364136223846793005) 0) 1442695040888963407⟩ : T85))
    else
      (shrI .u64 (aI .u64 (aI .u64 (mI .u64 s.seed_ 6364136223846793005) 0) 1442695040888963407) 40).bind fun d8 =>
      some (cI .i64 (andI .u64 d8 255), (⟨s.code_, aI .i64 s.at_ 1, aI .u64 (aI .u64 (mI .u64 s.seed_ 6364136223846793005) 0) 1442695040888963407⟩ : T85))
def eA63 (a : T85) : List V := [.agg (pT85 a)]
def eB63 (r : Int × T85) : V := .tup [.i .i64 r.1, .agg [.sl 1 (rows ci_u8 r.2.code_), .i .i64 r.2.at_, .i .u64 r.2.seed_]]
theorem inj63 (a a' : T85) (h : eA63 a = eA63 a') : a = a' := by
  obtain ⟨i5, i6, i7⟩ := a
  obtain ⟨i8, i9, i10⟩ := a'
  simp only [eA63, pT85, List.cons.injEq, V.i.injEq, V.b.injEq, V.f.injEq, V.str.injEq, V.sl.injEq, V.agg.injEq, V.cptr.injEq, true_and, and_true] at h
  simp_all [ri ci_u8_inj]
noncomputable def F63 : List V → Option V := tells (fun a => g63 a) eA63 eB63
set_option maxRecDepth 100000 in
set_option maxHeartbeats 4000000 in
/- (*loop.example/g01229/spec.l00Src).next -/
theorem ok63 : TellsM Try.prog 63 F63 := by
  refine TellsM.of Try.func63 (by kernel_rfl) rfl rfl rfl ?_
  rintro s r h cs vs v_ cs' hE1 hE2 gg mm bb nn hb
  simp only [eA63, List.cons.injEq, V.agg.injEq] at hE1
  obtain ⟨rfl, rfl⟩ := hE1
  have hS : ∀ x, (mm.set bb x)[bb]? = some x := at_set (List.getElem?_eq_some_iff.1 hb).1
  replace h : (g63 s).bind some = some r := bindS h
  rw [g63] at h
  refine VW.ent (s := (⟨(tm 62 [(0, .ptr bb 0 0)]), (mm.set bb (some (nn, [[.sl 1 (rows ci_u8 s.code_), .i .i64 s.at_, .i .u64 s.seed_]]))), gg⟩ : VS)) (Ent.eqs (by simp only [List.length_cons, List.length_nil, Nat.reduceAdd, Nat.reduceSub]; rw [tm_init]; simp) (set_self hb) rfl) ?_
  refine VW.seq ?_
  refine VW.evalA (C := []) (tm 62 [(0, .ptr bb 0 0)]) (mm.set bb (some (nn, [[.sl 1 (rows ci_u8 s.code_), .i .i64 s.at_, .i .u64 s.seed_]]))) gg trivial (by kernel_rfl) (by simp -implicitDefEqProofs [hS]) ?_
  refine VW.seq ?_
  refine VW.evalA (C := []) (tm 62 [(0, .ptr bb 0 0), (3, .i .i64 0)]) (mm.set bb (some (nn, [[.sl 1 (rows ci_u8 s.code_), .i .i64 s.at_, .i .u64 s.seed_]]))) gg trivial (by kernel_rfl) (by simp -implicitDefEqProofs [hS]) ?_
  refine VW.seq ?_
  refine VW.seq ?_
  refine VW.evalDA (C := []) (tm 62 [(0, .ptr bb 0 0), (3, .i .i64 0), (13, .b (ltI s.at_ (s.code_.length : Int)))]) (mm.set bb (some (nn, [[.sl 1 (rows ci_u8 s.code_), .i .i64 s.at_, .i .u64 s.seed_]]))) gg trivial mixed (by kernel_rfl) (by simp -implicitDefEqProofs [hS]) ?_
  refine VW.condB (b := ltI s.at_ (s.code_.length : Int)) (by simp) (fun g1 => ?_) (fun g1 => ?_)
  · replace h := iteT g1 h
    obtain ⟨e2, q3, h⟩ := bindE h
    obtain ⟨f3a, f3b, f3c, f3d⟩ := idx_some q3
    refine VW.evalDA (C := []) (tm 62 [(0, .ptr bb 0 0), (3, .i .i64 (cI .i64 e2))]) (mm.set bb (some (nn, [[.sl 1 (rows ci_u8 s.code_), .i .i64 s.at_, .i .u64 s.seed_]]))) gg trivial mixed (by kernel_rfl) (by simp -implicitDefEqProofs [f3a, f3b, f3c, f3d, hS]) ?_
    refine VW.seq ?_
    refine VW.evalA (C := []) (tm 62 [(0, .ptr bb 0 0), (3, .i .i64 (cI .i64 e2))]) (mm.set bb (some (nn, [[.sl 1 (rows ci_u8 s.code_), .i .i64 (aI .i64 s.at_ 1), .i .u64 s.seed_]]))) gg trivial (by kernel_rfl) (by simp -implicitDefEqProofs [hS]) ?_
    refine VW.seq ?_
    refine VW.evalA (C := []) (tm 62 [(0, .ptr bb 0 0), (3, .i .i64 (cI .i64 e2))]) (mm.set bb (some (nn, [[.sl 1 (rows ci_u8 s.code_), .i .i64 (aI .i64 s.at_ 1), .i .u64 (aI .u64 (aI .u64 (mI .u64 s.seed_ 6364136223846793005) (cI .u64 (cI .i64 e2))) 1442695040888963407)]]))) gg trivial (by kernel_rfl) (by simp -implicitDefEqProofs [hS]) ?_
    refine VW.seq ?_
    refine VW.seq ?_
    refine VW.evalDA (C := []) (tm 62 [(0, .ptr bb 0 0), (3, .i .i64 (cI .i64 e2)), (53, .b (leI (aI .i64 s.at_ 1) (s.code_.length : Int)))]) (mm.set bb (some (nn, [[.sl 1 (rows ci_u8 s.code_), .i .i64 (aI .i64 s.at_ 1), .i .u64 (aI .u64 (aI .u64 (mI .u64 s.seed_ 6364136223846793005) (cI .u64 (cI .i64 e2))) 1442695040888963407)]]))) gg trivial mixed (by kernel_rfl) (by simp -implicitDefEqProofs [hS]) ?_
    refine VW.condB (b := leI (aI .i64 s.at_ 1) (s.code_.length : Int)) (by simp) (fun g4 => ?_) (fun g4 => ?_)
    · replace h := iteT g4 h
      refine VW.seq ?_
      refine VW.evalA (C := []) (tm 62 [(2, .i .i64 (cI .i64 e2))]) (mm.set bb (some (nn, [[.sl 1 (rows ci_u8 s.code_), .i .i64 (aI .i64 s.at_ 1), .i .u64 (aI .u64 (aI .u64 (mI .u64 s.seed_ 6364136223846793005) (cI .u64 (cI .i64 e2))) 1442695040888963407)]]))) gg trivial (by kernel_rfl) (by simp -implicitDefEqProofs [hS]) ?_
      obtain rfl := leafS h
      simp only [eB63, V.tup.injEq, V.agg.injEq, List.cons.injEq, and_true] at hE2
      obtain ⟨rfl, rfl⟩ := hE2
      exact VW.ret (VInE.fin (by simp) (by simp) rfl)
    · replace h := iteF g4 h
      refine VW.skip ?_
      refine VW.seq ?_
      obtain ⟨d5, q6, h⟩ := bindE h
      refine VW.evalA (C := []) (tm 62 [(2, .i .i64 (cI .i64 (andI .u64 d5 255)))]) (mm.set bb (some (nn, [[.sl 1 (rows ci_u8 s.code_), .i .i64 (aI .i64 s.at_ 1), .i .u64 (aI .u64 (aI .u64 (mI .u64 s.seed_ 6364136223846793005) (cI .u64 (cI .i64 e2))) 1442695040888963407)]]))) gg trivial (by kernel_rfl) (by simp -implicitDefEqProofs [q6, hS]) ?_
      obtain rfl := leafS h
      simp only [eB63, V.tup.injEq, V.agg.injEq, List.cons.injEq, and_true] at hE2
      obtain ⟨rfl, rfl⟩ := hE2
      exact VW.ret (VInE.fin (by simp) (by simp) rfl)
  · replace h := iteF g1 h
    refine VW.skip ?_
    refine VW.seq ?_
    refine VW.evalA (C := []) (tm 62 [(0, .ptr bb 0 0), (3, .i .i64 0)]) (mm.set bb (some (nn, [[.sl 1 (rows ci_u8 s.code_), .i .i64 (aI .i64 s.at_ 1), .i .u64 s.seed_]]))) gg trivial (by kernel_rfl) (by simp -implicitDefEqProofs [hS]) ?_
    refine VW.seq ?_
    refine VW.evalA (C := []) (tm 62 [(0, .ptr bb 0 0), (3, .i .i64 0)]) (mm.set bb (some (nn, [[.sl 1 (rows ci_u8 s.code_), .i .i64 (aI .i64 s.at_ 1), .i .u64 (aI .u64 (aI .u64 (mI .u64 s.seed_ 6364136223846793005) 0) 1442695040888963407)]]))) gg trivial (by kernel_rfl) (by simp -implicitDefEqProofs [(by decide : cI .u64 0 = 0), hS]) ?_
    refine VW.seq ?_
    refine VW.seq ?_
    refine VW.evalDA (C := []) (tm 62 [(0, .ptr bb 0 0), (3, .i .i64 0), (53, .b (leI (aI .i64 s.at_ 1) (s.code_.length : Int)))]) (mm.set bb (some (nn, [[.sl 1 (rows ci_u8 s.code_), .i .i64 (aI .i64 s.at_ 1), .i .u64 (aI .u64 (aI .u64 (mI .u64 s.seed_ 6364136223846793005) 0) 1442695040888963407)]]))) gg trivial mixed (by kernel_rfl) (by simp -implicitDefEqProofs [hS]) ?_
    refine VW.condB (b := leI (aI .i64 s.at_ 1) (s.code_.length : Int)) (by simp) (fun g7 => ?_) (fun g7 => ?_)
    · replace h := iteT g7 h
      refine VW.seq ?_
      refine VW.evalA (C := []) (tm 62 [(2, .i .i64 0)]) (mm.set bb (some (nn, [[.sl 1 (rows ci_u8 s.code_), .i .i64 (aI .i64 s.at_ 1), .i .u64 (aI .u64 (aI .u64 (mI .u64 s.seed_ 6364136223846793005) 0) 1442695040888963407)]]))) gg trivial (by kernel_rfl) (by simp -implicitDefEqProofs [hS]) ?_
      obtain rfl := leafS h
      simp only [eB63, V.tup.injEq, V.agg.injEq, List.cons.injEq, and_true] at hE2
      obtain ⟨rfl, rfl⟩ := hE2
      exact VW.ret (VInE.fin (by simp) (by simp) rfl)
    · replace h := iteF g7 h
      refine VW.skip ?_
      refine VW.seq ?_
      obtain ⟨d8, q9, h⟩ := bindE h
      refine VW.evalA (C := []) (tm 62 [(2, .i .i64 (cI .i64 (andI .u64 d8 255)))]) (mm.set bb (some (nn, [[.sl 1 (rows ci_u8 s.code_), .i .i64 (aI .i64 s.at_ 1), .i .u64 (aI .u64 (aI .u64 (mI .u64 s.seed_ 6364136223846793005) 0) 1442695040888963407)]]))) gg trivial (by kernel_rfl) (by simp -implicitDefEqProofs [q9, hS]) ?_
      obtain rfl := leafS h
      simp only [eB63, V.tup.injEq, V.agg.injEq, List.cons.injEq, and_true] at hE2
      obtain ⟨rfl, rfl⟩ := hE2
      exact VW.ret (VInE.fin (by simp) (by simp) rfl)
noncomputable def g56 (s : T85) (n : Int) : Option (Int × T85) :=
  if leI n 1 = true then
    some (0, s)
  else
    (g63 s).bind fun r2 =>
    if ltI 200 n = true then
      (g63 r2.2).bind fun r5 =>
      (rI .i64 (aI .i64 (mI .i64 r2.1 256) r5.1) n).bind fun d7 =>
      some (d7, r5.2)
    else
      (rI .i64 r2.1 n).bind fun d9 =>
      some (d9, r2.2)
def eA56 (a : T85 × Int) : List V := [.agg (pT85 a.1), .i .i64 a.2]
def eB56 (r : Int × T85) : V := .tup [.i .i64 r.1, .agg [.sl 1 (rows ci_u8 r.2.code_), .i .i64 r.2.at_, .i .u64 r.2.seed_]]
theorem inj56 (a a' : T85 × Int) (h : eA56 a = eA56 a') : a = a' := by
  obtain ⟨⟨i11, i12, i13⟩, i14⟩ := a
  obtain ⟨⟨i15, i16, i17⟩, i18⟩ := a'
  simp only [eA56, pT85, List.cons.injEq, V.i.injEq, V.b.injEq, V.f.injEq, V.str.injEq, V.sl.injEq, V.agg.injEq, V.cptr.injEq, true_and, and_true] at h
  simp_all [ri ci_u8_inj]
noncomputable def F56 : List V → Option V := tells (fun a => g56 a.1 a.2) eA56 eB56
set_option maxRecDepth 100000 in
set_option maxHeartbeats 4000000 in
/- (*loop.example/g01229/spec.l00Src).pick -/
theorem ok56 : TellsM Try.prog 56 F56 := by
  refine TellsM.of Try.func56 (by kernel_rfl) rfl rfl rfl ?_
  rintro ⟨s, n⟩ r h cs vs v_ cs' hE1 hE2 gg mm bb nn hb
  simp only [eA56, List.cons.injEq, V.agg.injEq] at hE1
  obtain ⟨rfl, rfl⟩ := hE1
  have hS : ∀ x, (mm.set bb x)[bb]? = some x := at_set (List.getElem?_eq_some_iff.1 hb).1
  replace h : (g56 s n).bind some = some r := bindS h
  rw [g56] at h
  refine VW.ent (s := (⟨(tm 20 [(0, .ptr bb 0 0), (1, .i .i64 n)]), (mm.set bb (some (nn, [[.sl 1 (rows ci_u8 s.code_), .i .i64 s.at_, .i .u64 s.seed_]]))), gg⟩ : VS)) (Ent.eqs (by simp only [List.length_cons, List.length_nil, Nat.reduceAdd, Nat.reduceSub]; rw [tm_init]; simp) (set_self hb) rfl) ?_
  refine VW.seq ?_
  refine VW.evalA (C := []) (tm 20 [(0, .ptr bb 0 0), (1, .i .i64 n)]) (mm.set bb (some (nn, [[.sl 1 (rows ci_u8 s.code_), .i .i64 s.at_, .i .u64 s.seed_]]))) gg trivial (by kernel_rfl) (by simp -implicitDefEqProofs [hS]) ?_
  refine VW.seq ?_
  refine VW.seq ?_
  refine VW.evalA (C := []) (tm 20 [(0, .ptr bb 0 0), (1, .i .i64 n), (7, .b (leI n 1))]) (mm.set bb (some (nn, [[.sl 1 (rows ci_u8 s.code_), .i .i64 s.at_, .i .u64 s.seed_]]))) gg trivial (by kernel_rfl) (by simp -implicitDefEqProofs [hS]) ?_
  refine VW.condB (b := leI n 1) (by simp) (fun g1 => ?_) (fun g1 => ?_)
  · replace h := iteT g1 h
    refine VW.seq ?_
    refine VW.evalA (C := []) (tm 20 [(4, .i .i64 0)]) (mm.set bb (some (nn, [[.sl 1 (rows ci_u8 s.code_), .i .i64 s.at_, .i .u64 s.seed_]]))) gg trivial (by kernel_rfl) (by simp -implicitDefEqProofs [hS]) ?_
    obtain rfl := leafS h
    simp only [eB56, V.tup.injEq, V.agg.injEq, List.cons.injEq, and_true] at hE2
    obtain ⟨rfl, rfl⟩ := hE2
    exact VW.ret (VInE.fin (by simp) (by simp) rfl)
  · replace h := iteF g1 h
    refine VW.skip ?_
    refine VW.seq ?_
    obtain ⟨r2, q3, h⟩ := bindE h
    have c3 : F63 [.agg [.sl 1 (rows ci_u8 s.code_), .i .i64 s.at_, .i .u64 s.seed_]] = some (.tup [.i .i64 r2.1, .agg [.sl 1 (rows ci_u8 r2.2.code_), .i .i64 r2.2.at_, .i .u64 r2.2.seed_]]) := tells_eq inj63 (a := s) q3
    refine VW.evalM (C := []) (CM := [(63, F63)]) (tm 20 [(0, .ptr bb 0 0), (1, .i .i64 n), (5, .i .i64 r2.1)]) (mm.set bb (some (nn, [[.sl 1 (rows ci_u8 r2.2.code_), .i .i64 r2.2.at_, .i .u64 r2.2.seed_]]))) gg trivial ⟨ok63, trivial⟩ (by simp -implicitDefEqProofs [c3, hS]) ?_
    refine VW.seq ?_
    refine VW.seq ?_
    refine VW.evalA (C := []) (tm 20 [(0, .ptr bb 0 0), (1, .i .i64 n), (5, .i .i64 r2.1), (11, .b (ltI 200 n))]) (mm.set bb (some (nn, [[.sl 1 (rows ci_u8 r2.2.code_), .i .i64 r2.2.at_, .i .u64 r2.2.seed_]]))) gg trivial (by kernel_rfl) (by simp -implicitDefEqProofs [hS]) ?_
    refine VW.condB (b := ltI 200 n) (by simp) (fun g4 => ?_) (fun g4 => ?_)
    · replace h := iteT g4 h
      obtain ⟨r5, q6, h⟩ := bindE h
      have c6 : F63 [.agg [.sl 1 (rows ci_u8 r2.2.code_), .i .i64 r2.2.at_, .i .u64 r2.2.seed_]] = some (.tup [.i .i64 r5.1, .agg [.sl 1 (rows ci_u8 r5.2.code_), .i .i64 r5.2.at_, .i .u64 r5.2.seed_]]) := tells_eq inj63 (a := r2.2) q6
      refine VW.evalM (C := []) (CM := [(63, F63)]) (tm 20 [(1, .i .i64 n), (5, .i .i64 (aI .i64 (mI .i64 r2.1 256) r5.1))]) (mm.set bb (some (nn, [[.sl 1 (rows ci_u8 r5.2.code_), .i .i64 r5.2.at_, .i .u64 r5.2.seed_]]))) gg trivial ⟨ok63, trivial⟩ (by simp -implicitDefEqProofs [c6, hS]) ?_
      refine VW.seq ?_
      obtain ⟨d7, q8, h⟩ := bindE h
      refine VW.evalA (C := []) (tm 20 [(4, .i .i64 d7)]) (mm.set bb (some (nn, [[.sl 1 (rows ci_u8 r5.2.code_), .i .i64 r5.2.at_, .i .u64 r5.2.seed_]]))) gg trivial (by kernel_rfl) (by simp -implicitDefEqProofs [q8, hS]) ?_
      obtain rfl := leafS h
      simp only [eB56, V.tup.injEq, V.agg.injEq, List.cons.injEq, and_true] at hE2
      obtain ⟨rfl, rfl⟩ := hE2
      exact VW.ret (VInE.fin (by simp) (by simp) rfl)
    · replace h := iteF g4 h
      refine VW.skip ?_
      refine VW.seq ?_
      obtain ⟨d9, q10, h⟩ := bindE h
      refine VW.evalA (C := []) (tm 20 [(4, .i .i64 d9)]) (mm.set bb (some (nn, [[.sl 1 (rows ci_u8 r2.2.code_), .i .i64 r2.2.at_, .i .u64 r2.2.seed_]]))) gg trivial (by kernel_rfl) (by simp -implicitDefEqProofs [q10, hS]) ?_
      obtain rfl := leafS h
      simp only [eB56, V.tup.injEq, V.agg.injEq, List.cons.injEq, and_true] at hE2
      obtain ⟨rfl, rfl⟩ := hE2
      exact VW.ret (VInE.fin (by simp) (by simp) rfl)
noncomputable def g23_j1 (r104 : Int × T85) (r106 : Int × T85) (r108 : Int × T85) (r118 : Int × T85) (e116 : Int) (y161 : List Int) (y162 : Int) (y163 : Int) (l164 : List Int) (l165 : List Int) : Option (T30) :=
  some (⟨l164, l165, aI .i64 1 r104.1, aI .i64 5 r106.1, r108.1, r118.1, e116⟩ : T30)
noncomputable def g23_L1 : (Int × (List Int) × Int × Int × (List Int) × (List Int)) → Option ((Int × (List Int) × Int × Int × (List Int) × (List Int)) ⊕ ((List Int) × Int × Int × (List Int) × (List Int)))
  | (k_192, y193, y194, y195, l196, l197) =>
    if ltI 0 k_192 = true then
      (g56 (⟨y193, y194, y195⟩ : T85) 30).bind fun r199 =>
      (appK 8 l196 [r199.1]).bind fun u201 =>
      (g56 r199.2 7).bind fun r203 =>
      (appK 8 l197 [r203.1]).bind fun u205 =>
      some (.inl (sI .i64 k_192 1, r203.2.code_, r203.2.at_, r203.2.seed_, (l196 ++ [r199.1]), (l197 ++ [r203.1])))
    else
      some (.inr (y193, y194, y195, l196, l197))
noncomputable def g23 (code : List Int) : Option (T30) :=
  (g56 (⟨code, 0, 0⟩ : T85) 5).bind fun r104 =>
  (g56 r104.2 8).bind fun r106 =>
  (g56 r106.2 25).bind fun r108 =>
  (g56 r108.2 ([0, 0, 10, 25, 50, 100].length : Int)).bind fun r114 =>
  (idx [0, 0, 10, 25, 50, 100] r114.1).bind fun e116 =>
  (g56 r114.2 (aI .i64 r108.1 1)).bind fun r118 =>
  (g56 r118.2 5).bind fun r166 =>
  (loopO g23_L1 (aI .i64 1 r166.1, r166.2.code_, r166.2.at_, r166.2.seed_, [], [])).bind fun w => g23_j1 r104 r106 r108 r118 e116 w.1 w.2.1 w.2.2.1 w.2.2.2.1 w.2.2.2.2
def eA23 (a : List Int) : List V := [.sl 1 (rows ci_u8 a)]
def eB23 (r : T30) : V := .agg [.own 1 (rows ci_i64 r.need_), .own 1 (rows ci_i64 r.price_), .i .i64 r.most_, .i .i64 r.yield_, .i .i64 r.store_, .i .i64 r.first_, .i .i64 r.loss_]
theorem inj23 (a a' : List Int) (h : eA23 a = eA23 a') : a = a' := by
  obtain i19 := a
  obtain i20 := a'
  simp only [eA23, List.cons.injEq, V.i.injEq, V.b.injEq, V.f.injEq, V.str.injEq, V.sl.injEq, V.agg.injEq, V.cptr.injEq, true_and, and_true] at h
  simp_all [ri ci_u8_inj]
noncomputable def F23 : List V → Option V := tells (fun a => g23 a) eA23 eB23
set_option maxRecDepth 100000 in
set_option maxHeartbeats 4000000 in
/- loop.example/g01229/spec.A2Season -/
theorem ok23 : Tells Try.prog 23 F23 := by
  refine Tells.of (by kernel_rfl) ?_
  rintro code r h
  refine VCalls.nl (VCalls.of Try.func23 rfl rfl rfl ?_)
  rw [tm_init]
  simp only [eA23, en, List.length_cons, List.length_nil, Nat.reduceAdd, Nat.reduceSub]
  replace h : (g23 code).bind some = some r := bindS h
  rw [g23] at h
  refine VW.seq ?_
  refine VW.evalE (C := []) (tm 6 [(0, .sl 1 (rows ci_u8 code)), (2, .ptr 0 0 0)]) [some (7, [[.nil, .nil, .i .i64 0, .i .i64 0, .i .i64 0, .i .i64 0, .i .i64 0]])] [] trivial (by kernel_rfl) (by simp -implicitDefEqProofs) (Ent.trans (Ent.nilref (m := [some (7, [[.nil, .nil, .i .i64 0, .i .i64 0, .i .i64 0, .i .i64 0, .i .i64 0]])]) 0 1 [some (7, [[.ref 1 0 0, .nil, .i .i64 0, .i .i64 0, .i .i64 0, .i .i64 0, .i .i64 0]]), some (1, rows ci_i64 [])] rfl (by simp) rfl) (Ent.nilref (m := [some (7, [[.ref 1 0 0, .nil, .i .i64 0, .i .i64 0, .i .i64 0, .i .i64 0, .i .i64 0]]), some (1, rows ci_i64 [])]) 0 1 [some (7, [[.ref 1 0 0, .ref 2 0 0, .i .i64 0, .i .i64 0, .i .i64 0, .i .i64 0, .i .i64 0]]), some (1, rows ci_i64 []), some (1, rows ci_i64 [])] rfl (by simp) rfl) ) ?_
  refine VW.seq ?_
  refine VW.inlS ?_
  refine VL.inlP (C := []) 1 (tm 6 [(2, .ptr 0 0 0), (3, .sl 1 (rows ci_u8 code))]) [some (7, [[.ref 1 0 0, .ref 2 0 0, .i .i64 0, .i .i64 0, .i .i64 0, .i .i64 0, .i .i64 0]]), some (1, rows ci_i64 []), some (1, rows ci_i64 [])] [] rfl trivial (by kernel_rfl) (by simp -implicitDefEqProofs) rfl rfl Try.func50 rfl rfl rfl rfl (tm_length) ?_
  refine VW.ent (s := (⟨(tm 6 [(0, .sl 1 (rows ci_u8 code))]), [some (7, [[.ref 1 0 0, .ref 2 0 0, .i .i64 0, .i .i64 0, .i .i64 0, .i .i64 0, .i .i64 0]]), some (1, rows ci_i64 []), some (1, rows ci_i64 [])], ((tm 6 [(2, .ptr 0 0 0), (3, .sl 1 (rows ci_u8 code))]) ++ [])⟩ : VS)) (Ent.eqs (by rw [tm_init]; simp) rfl (by simp)) ?_
  refine VW.seq ?_
  refine VW.evalA (C := []) (tm 6 [(0, .sl 1 (rows ci_u8 code))]) [some (7, [[.ref 1 0 0, .ref 2 0 0, .i .i64 0, .i .i64 0, .i .i64 0, .i .i64 0, .i .i64 0]]), some (1, rows ci_i64 []), some (1, rows ci_i64 [])] ((tm 6 [(2, .ptr 0 0 0), (3, .sl 1 (rows ci_u8 code))]) ++ []) trivial (by kernel_rfl) (by simp -implicitDefEqProofs) ?_
  refine VW.seq ?_
  refine VW.evalA (C := []) (tm 6 [(2, .ptr 3 0 0)]) [some (7, [[.ref 1 0 0, .ref 2 0 0, .i .i64 0, .i .i64 0, .i .i64 0, .i .i64 0, .i .i64 0]]), some (1, rows ci_i64 []), some (1, rows ci_i64 []), some (3, [[.sl 1 (rows ci_u8 code), .i .i64 0, .i .u64 0]])] ((tm 6 [(2, .ptr 0 0 0), (3, .sl 1 (rows ci_u8 code))]) ++ []) trivial (by kernel_rfl) (by simp -implicitDefEqProofs) ?_
  refine VW.ret (VIn.ret (v := .ptr 3 0 0) (by simp) ?_)
  refine VL.inlP (C := []) 0 (tm 6 [(2, .ptr 0 0 0), (4, .ptr 3 0 0)]) [some (7, [[.ref 1 0 0, .ref 2 0 0, .i .i64 0, .i .i64 0, .i .i64 0, .i .i64 0, .i .i64 0]]), some (1, rows ci_i64 []), some (1, rows ci_i64 []), some (3, [[.sl 1 (rows ci_u8 code), .i .i64 0, .i .u64 0]])] [] rfl trivial (by kernel_rfl) (by simp -implicitDefEqProofs) rfl rfl Try.func49 rfl rfl rfl rfl (tm_length) ?_
  refine VW.ent (s := (⟨(tm 45 [(0, .ptr 3 0 0)]), [some (7, [[.ref 1 0 0, .ref 2 0 0, .i .i64 0, .i .i64 0, .i .i64 0, .i .i64 0, .i .i64 0]]), some (1, rows ci_i64 []), some (1, rows ci_i64 []), some (3, [[.sl 1 (rows ci_u8 code), .i .i64 0, .i .u64 0]])], ((tm 6 [(2, .ptr 0 0 0), (4, .ptr 3 0 0)]) ++ [])⟩ : VS)) (Ent.eqs (by rw [tm_init]; simp) rfl (by simp)) ?_
  refine VW.seq ?_
  refine VW.evalE (C := []) (tm 45 [(0, .ptr 3 0 0), (2, .ptr 4 0 0)]) [some (7, [[.ref 1 0 0, .ref 2 0 0, .i .i64 0, .i .i64 0, .i .i64 0, .i .i64 0, .i .i64 0]]), some (1, rows ci_i64 []), some (1, rows ci_i64 []), some (3, [[.sl 1 (rows ci_u8 code), .i .i64 0, .i .u64 0]]), some (7, [[.nil, .nil, .i .i64 0, .i .i64 0, .i .i64 0, .i .i64 0, .i .i64 0]])] ((tm 6 [(2, .ptr 0 0 0), (4, .ptr 3 0 0)]) ++ []) trivial (by kernel_rfl) (by simp -implicitDefEqProofs) (Ent.trans (Ent.nilref (m := [some (7, [[.ref 1 0 0, .ref 2 0 0, .i .i64 0, .i .i64 0, .i .i64 0, .i .i64 0, .i .i64 0]]), some (1, rows ci_i64 []), some (1, rows ci_i64 []), some (3, [[.sl 1 (rows ci_u8 code), .i .i64 0, .i .u64 0]]), some (7, [[.nil, .nil, .i .i64 0, .i .i64 0, .i .i64 0, .i .i64 0, .i .i64 0]])]) 4 1 [some (7, [[.ref 1 0 0, .ref 2 0 0, .i .i64 0, .i .i64 0, .i .i64 0, .i .i64 0, .i .i64 0]]), some (1, rows ci_i64 []), some (1, rows ci_i64 []), some (3, [[.sl 1 (rows ci_u8 code), .i .i64 0, .i .u64 0]]), some (7, [[.ref 5 0 0, .nil, .i .i64 0, .i .i64 0, .i .i64 0, .i .i64 0, .i .i64 0]]), some (1, rows ci_i64 [])] rfl (by simp) rfl) (Ent.nilref (m := [some (7, [[.ref 1 0 0, .ref 2 0 0, .i .i64 0, .i .i64 0, .i .i64 0, .i .i64 0, .i .i64 0]]), some (1, rows ci_i64 []), some (1, rows ci_i64 []), some (3, [[.sl 1 (rows ci_u8 code), .i .i64 0, .i .u64 0]]), some (7, [[.ref 5 0 0, .nil, .i .i64 0, .i .i64 0, .i .i64 0, .i .i64 0, .i .i64 0]]), some (1, rows ci_i64 [])]) 4 1 [some (7, [[.ref 1 0 0, .ref 2 0 0, .i .i64 0, .i .i64 0, .i .i64 0, .i .i64 0, .i .i64 0]]), some (1, rows ci_i64 []), some (1, rows ci_i64 []), some (3, [[.sl 1 (rows ci_u8 code), .i .i64 0, .i .u64 0]]), some (7, [[.ref 5 0 0, .ref 6 0 0, .i .i64 0, .i .i64 0, .i .i64 0, .i .i64 0, .i .i64 0]]), some (1, rows ci_i64 []), some (1, rows ci_i64 [])] rfl (by simp) rfl) ) ?_
  refine VW.seq ?_
  refine VW.inlS ?_
  obtain ⟨r104, q105, h⟩ := bindE h
  have c105 : F56 [.agg [.sl 1 (rows ci_u8 code), .i .i64 0, .i .u64 0], .i .i64 5] = some (.tup [.i .i64 r104.1, .agg [.sl 1 (rows ci_u8 r104.2.code_), .i .i64 r104.2.at_, .i .u64 r104.2.seed_]]) := tells_eq inj56 (a := ((⟨code, 0, 0⟩ : T85), 5)) q105
  obtain ⟨r106, q107, h⟩ := bindE h
  have c107 : F56 [.agg [.sl 1 (rows ci_u8 r104.2.code_), .i .i64 r104.2.at_, .i .u64 r104.2.seed_], .i .i64 8] = some (.tup [.i .i64 r106.1, .agg [.sl 1 (rows ci_u8 r106.2.code_), .i .i64 r106.2.at_, .i .u64 r106.2.seed_]]) := tells_eq inj56 (a := (r104.2, 8)) q107
  obtain ⟨r108, q109, h⟩ := bindE h
  have c109 : F56 [.agg [.sl 1 (rows ci_u8 r106.2.code_), .i .i64 r106.2.at_, .i .u64 r106.2.seed_], .i .i64 25] = some (.tup [.i .i64 r108.1, .agg [.sl 1 (rows ci_u8 r108.2.code_), .i .i64 r108.2.at_, .i .u64 r108.2.seed_]]) := tells_eq inj56 (a := (r106.2, 25)) q109
  refine VL.evalM (C := []) (CM := [(56, F56)]) 10 (tm 45 [(0, .ptr 3 0 0), (2, .ptr 4 0 0), (7, .i .i64 (aI .i64 1 r104.1)), (10, .i .i64 (aI .i64 5 r106.1)), (12, .i .i64 r108.1), (13, .ptr 3 0 0), (14, .ref 7 0 [0, 0, 10, 25, 50, 100].length)]) [some (7, [[.ref 1 0 0, .ref 2 0 0, .i .i64 0, .i .i64 0, .i .i64 0, .i .i64 0, .i .i64 0]]), some (1, rows ci_i64 []), some (1, rows ci_i64 []), some (3, [[.sl 1 (rows ci_u8 r108.2.code_), .i .i64 r108.2.at_, .i .u64 r108.2.seed_]]), some (7, [[.ref 5 0 0, .ref 6 0 0, .i .i64 0, .i .i64 0, .i .i64 0, .i .i64 0, .i .i64 0]]), some (1, rows ci_i64 []), some (1, rows ci_i64 []), some (1, rows ci_i64 [0, 0, 10, 25, 50, 100])] ((tm 6 [(2, .ptr 0 0 0), (4, .ptr 3 0 0)]) ++ []) trivial ⟨ok56, trivial⟩ (by simp -implicitDefEqProofs [c105, c107, c109]) ?_
  refine VL.inlP (C := []) 0 (tm 45 [(0, .ptr 3 0 0), (2, .ptr 4 0 0), (7, .i .i64 (aI .i64 1 r104.1)), (10, .i .i64 (aI .i64 5 r106.1)), (12, .i .i64 r108.1), (13, .ptr 3 0 0), (14, .ref 7 0 [0, 0, 10, 25, 50, 100].length)]) [some (7, [[.ref 1 0 0, .ref 2 0 0, .i .i64 0, .i .i64 0, .i .i64 0, .i .i64 0, .i .i64 0]]), some (1, rows ci_i64 []), some (1, rows ci_i64 []), some (3, [[.sl 1 (rows ci_u8 r108.2.code_), .i .i64 r108.2.at_, .i .u64 r108.2.seed_]]), some (7, [[.ref 5 0 0, .ref 6 0 0, .i .i64 0, .i .i64 0, .i .i64 0, .i .i64 0, .i .i64 0]]), some (1, rows ci_i64 []), some (1, rows ci_i64 []), some (1, rows ci_i64 [0, 0, 10, 25, 50, 100])] ((tm 6 [(2, .ptr 0 0 0), (4, .ptr 3 0 0)]) ++ []) rfl trivial (by kernel_rfl) (by simp -implicitDefEqProofs) rfl rfl Try.func62 rfl rfl rfl rfl (tm_length) ?_
  refine VW.ent (s := (⟨(tm 12 [(0, .ptr 3 0 0), (1, .ref 7 0 [0, 0, 10, 25, 50, 100].length)]), [some (7, [[.ref 1 0 0, .ref 2 0 0, .i .i64 0, .i .i64 0, .i .i64 0, .i .i64 0, .i .i64 0]]), some (1, rows ci_i64 []), some (1, rows ci_i64 []), some (3, [[.sl 1 (rows ci_u8 r108.2.code_), .i .i64 r108.2.at_, .i .u64 r108.2.seed_]]), some (7, [[.ref 5 0 0, .ref 6 0 0, .i .i64 0, .i .i64 0, .i .i64 0, .i .i64 0, .i .i64 0]]), some (1, rows ci_i64 []), some (1, rows ci_i64 []), some (1, rows ci_i64 [0, 0, 10, 25, 50, 100])], ((tm 45 [(0, .ptr 3 0 0), (2, .ptr 4 0 0), (7, .i .i64 (aI .i64 1 r104.1)), (10, .i .i64 (aI .i64 5 r106.1)), (12, .i .i64 r108.1), (13, .ptr 3 0 0), (14, .ref 7 0 [0, 0, 10, 25, 50, 100].length)]) ++ ((tm 6 [(2, .ptr 0 0 0), (4, .ptr 3 0 0)]) ++ []))⟩ : VS)) (Ent.eqs (by rw [tm_init]; simp) rfl (by simp)) ?_
  refine VW.seq ?_
  refine VW.evalA (C := []) (tm 12 [(0, .ptr 3 0 0), (1, .ref 7 0 [0, 0, 10, 25, 50, 100].length)]) [some (7, [[.ref 1 0 0, .ref 2 0 0, .i .i64 0, .i .i64 0, .i .i64 0, .i .i64 0, .i .i64 0]]), some (1, rows ci_i64 []), some (1, rows ci_i64 []), some (3, [[.sl 1 (rows ci_u8 r108.2.code_), .i .i64 r108.2.at_, .i .u64 r108.2.seed_]]), some (7, [[.ref 5 0 0, .ref 6 0 0, .i .i64 0, .i .i64 0, .i .i64 0, .i .i64 0, .i .i64 0]]), some (1, rows ci_i64 []), some (1, rows ci_i64 []), some (1, rows ci_i64 [0, 0, 10, 25, 50, 100])] ((tm 45 [(0, .ptr 3 0 0), (2, .ptr 4 0 0), (7, .i .i64 (aI .i64 1 r104.1)), (10, .i .i64 (aI .i64 5 r106.1)), (12, .i .i64 r108.1), (13, .ptr 3 0 0), (14, .ref 7 0 [0, 0, 10, 25, 50, 100].length)]) ++ ((tm 6 [(2, .ptr 0 0 0), (4, .ptr 3 0 0)]) ++ [])) trivial (by kernel_rfl) (by simp -implicitDefEqProofs) ?_
  refine VW.seq ?_
  obtain ⟨r114, q115, h⟩ := bindE h
  have c115 : F56 [.agg [.sl 1 (rows ci_u8 r108.2.code_), .i .i64 r108.2.at_, .i .u64 r108.2.seed_], .i .i64 ([0, 0, 10, 25, 50, 100].length : Int)] = some (.tup [.i .i64 r114.1, .agg [.sl 1 (rows ci_u8 r114.2.code_), .i .i64 r114.2.at_, .i .u64 r114.2.seed_]]) := tells_eq inj56 (a := (r108.2, ([0, 0, 10, 25, 50, 100].length : Int))) q115
  simp only [List.length_cons, List.length_nil, Nat.reduceAdd, Nat.zero_add, Int.cast_ofNat_Int] at c115
  obtain ⟨e116, q117, h⟩ := bindE h
  obtain ⟨f117a, f117b, f117c, f117d⟩ := idx_some q117
  have f117e := row_at (c := ci_i64) f117d
  simp only [rows_cons, rows_nil, ci_i64] at f117e
  try simp only [List.length_cons, List.length_nil, Nat.reduceAdd, Nat.zero_add, Int.cast_ofNat_Int] at f117a f117b f117c f117d
  refine VW.evalM (C := []) (CM := [(56, F56)]) (tm 12 [(4, .i .i64 e116)]) [some (7, [[.ref 1 0 0, .ref 2 0 0, .i .i64 0, .i .i64 0, .i .i64 0, .i .i64 0, .i .i64 0]]), some (1, rows ci_i64 []), some (1, rows ci_i64 []), some (3, [[.sl 1 (rows ci_u8 r114.2.code_), .i .i64 r114.2.at_, .i .u64 r114.2.seed_]]), some (7, [[.ref 5 0 0, .ref 6 0 0, .i .i64 0, .i .i64 0, .i .i64 0, .i .i64 0, .i .i64 0]]), some (1, rows ci_i64 []), some (1, rows ci_i64 []), some (1, rows ci_i64 [0, 0, 10, 25, 50, 100])] ((tm 45 [(0, .ptr 3 0 0), (2, .ptr 4 0 0), (7, .i .i64 (aI .i64 1 r104.1)), (10, .i .i64 (aI .i64 5 r106.1)), (12, .i .i64 r108.1), (13, .ptr 3 0 0), (14, .ref 7 0 [0, 0, 10, 25, 50, 100].length)]) ++ ((tm 6 [(2, .ptr 0 0 0), (4, .ptr 3 0 0)]) ++ [])) trivial ⟨ok56, trivial⟩ (by simp -implicitDefEqProofs [c115, f117a, f117b, f117c, f117d, f117e]) ?_
  refine VW.ret (VIn.ret (v := .i .i64 e116) (by simp) ?_)
  refine VL.evalP (C := []) (tm 45 [(0, .ptr 3 0 0), (2, .ptr 4 0 0), (3, .ptr 8 0 0)]) [some (7, [[.ref 1 0 0, .ref 2 0 0, .i .i64 0, .i .i64 0, .i .i64 0, .i .i64 0, .i .i64 0]]), some (1, rows ci_i64 []), some (1, rows ci_i64 []), some (3, [[.sl 1 (rows ci_u8 r114.2.code_), .i .i64 r114.2.at_, .i .u64 r114.2.seed_]]), some (7, [[.ref 5 0 0, .ref 6 0 0, .i .i64 0, .i .i64 0, .i .i64 0, .i .i64 0, .i .i64 0]]), some (1, rows ci_i64 []), some (1, rows ci_i64 []), some (1, rows ci_i64 [0, 0, 10, 25, 50, 100]), some (7, [[.nil, .nil, .i .i64 (aI .i64 1 r104.1), .i .i64 (aI .i64 5 r106.1), .i .i64 r108.1, .i .i64 0, .i .i64 e116]])] ((tm 6 [(2, .ptr 0 0 0), (4, .ptr 3 0 0)]) ++ []) trivial (by kernel_rfl) (by simp -implicitDefEqProofs) ?_
  refine VW.seq ?_
  obtain ⟨r118, q119, h⟩ := bindE h
  have c119 : F56 [.agg [.sl 1 (rows ci_u8 r114.2.code_), .i .i64 r114.2.at_, .i .u64 r114.2.seed_], .i .i64 (aI .i64 r108.1 1)] = some (.tup [.i .i64 r118.1, .agg [.sl 1 (rows ci_u8 r118.2.code_), .i .i64 r118.2.at_, .i .u64 r118.2.seed_]]) := tells_eq inj56 (a := (r114.2, aI .i64 r108.1 1)) q119
  refine VW.evalM (C := []) (CM := [(56, F56)]) (tm 45 [(0, .ptr 3 0 0), (2, .ptr 4 0 0), (3, .ptr 8 0 0)]) [some (7, [[.ref 1 0 0, .ref 2 0 0, .i .i64 0, .i .i64 0, .i .i64 0, .i .i64 0, .i .i64 0]]), some (1, rows ci_i64 []), some (1, rows ci_i64 []), some (3, [[.sl 1 (rows ci_u8 r118.2.code_), .i .i64 r118.2.at_, .i .u64 r118.2.seed_]]), some (7, [[.ref 5 0 0, .ref 6 0 0, .i .i64 0, .i .i64 0, .i .i64 0, .i .i64 0, .i .i64 0]]), some (1, rows ci_i64 []), some (1, rows ci_i64 []), some (1, rows ci_i64 [0, 0, 10, 25, 50, 100]), some (7, [[.nil, .nil, .i .i64 (aI .i64 1 r104.1), .i .i64 (aI .i64 5 r106.1), .i .i64 r108.1, .i .i64 r118.1, .i .i64 e116]])] ((tm 6 [(2, .ptr 0 0 0), (4, .ptr 3 0 0)]) ++ []) trivial ⟨ok56, trivial⟩ (by simp -implicitDefEqProofs [c119]) ?_
  refine VW.ent (Ent.nilref (m := [some (7, [[.ref 1 0 0, .ref 2 0 0, .i .i64 0, .i .i64 0, .i .i64 0, .i .i64 0, .i .i64 0]]), some (1, rows ci_i64 []), some (1, rows ci_i64 []), some (3, [[.sl 1 (rows ci_u8 r118.2.code_), .i .i64 r118.2.at_, .i .u64 r118.2.seed_]]), some (7, [[.ref 5 0 0, .ref 6 0 0, .i .i64 0, .i .i64 0, .i .i64 0, .i .i64 0, .i .i64 0]]), some (1, rows ci_i64 []), some (1, rows ci_i64 []), some (1, rows ci_i64 [0, 0, 10, 25, 50, 100]), some (7, [[.nil, .nil, .i .i64 (aI .i64 1 r104.1), .i .i64 (aI .i64 5 r106.1), .i .i64 r108.1, .i .i64 r118.1, .i .i64 e116]])]) 8 1 [some (7, [[.ref 1 0 0, .ref 2 0 0, .i .i64 0, .i .i64 0, .i .i64 0, .i .i64 0, .i .i64 0]]), some (1, rows ci_i64 []), some (1, rows ci_i64 []), some (3, [[.sl 1 (rows ci_u8 r118.2.code_), .i .i64 r118.2.at_, .i .u64 r118.2.seed_]]), some (7, [[.ref 5 0 0, .ref 6 0 0, .i .i64 0, .i .i64 0, .i .i64 0, .i .i64 0, .i .i64 0]]), some (1, rows ci_i64 []), some (1, rows ci_i64 []), some (1, rows ci_i64 [0, 0, 10, 25, 50, 100]), some (7, [[.ref 9 0 0, .nil, .i .i64 (aI .i64 1 r104.1), .i .i64 (aI .i64 5 r106.1), .i .i64 r108.1, .i .i64 r118.1, .i .i64 e116]]), some (1, rows ci_i64 [])] rfl (by simp) rfl) ?_
  refine VW.ent (Ent.nilref (m := [some (7, [[.ref 1 0 0, .ref 2 0 0, .i .i64 0, .i .i64 0, .i .i64 0, .i .i64 0, .i .i64 0]]), some (1, rows ci_i64 []), some (1, rows ci_i64 []), some (3, [[.sl 1 (rows ci_u8 r118.2.code_), .i .i64 r118.2.at_, .i .u64 r118.2.seed_]]), some (7, [[.ref 5 0 0, .ref 6 0 0, .i .i64 0, .i .i64 0, .i .i64 0, .i .i64 0, .i .i64 0]]), some (1, rows ci_i64 []), some (1, rows ci_i64 []), some (1, rows ci_i64 [0, 0, 10, 25, 50, 100]), some (7, [[.ref 9 0 0, .nil, .i .i64 (aI .i64 1 r104.1), .i .i64 (aI .i64 5 r106.1), .i .i64 r108.1, .i .i64 r118.1, .i .i64 e116]]), some (1, rows ci_i64 [])]) 8 1 [some (7, [[.ref 1 0 0, .ref 2 0 0, .i .i64 0, .i .i64 0, .i .i64 0, .i .i64 0, .i .i64 0]]), some (1, rows ci_i64 []), some (1, rows ci_i64 []), some (3, [[.sl 1 (rows ci_u8 r118.2.code_), .i .i64 r118.2.at_, .i .u64 r118.2.seed_]]), some (7, [[.ref 5 0 0, .ref 6 0 0, .i .i64 0, .i .i64 0, .i .i64 0, .i .i64 0, .i .i64 0]]), some (1, rows ci_i64 []), some (1, rows ci_i64 []), some (1, rows ci_i64 [0, 0, 10, 25, 50, 100]), some (7, [[.ref 9 0 0, .ref 10 0 0, .i .i64 (aI .i64 1 r104.1), .i .i64 (aI .i64 5 r106.1), .i .i64 r108.1, .i .i64 r118.1, .i .i64 e116]]), some (1, rows ci_i64 []), some (1, rows ci_i64 [])] rfl (by simp) rfl) ?_
  refine VW.join (fun (v : (List Int) × Int × Int × (List Int) × (List Int)) => (⟨(tm 45 [(2, .ptr 4 0 0), (3, .ptr 8 0 0)]), [some (7, [[.ref 1 0 0, .ref 2 0 0, .i .i64 0, .i .i64 0, .i .i64 0, .i .i64 0, .i .i64 0]]), some (1, rows ci_i64 []), some (1, rows ci_i64 []), some (3, [[.sl 1 (rows ci_u8 v.1), .i .i64 v.2.1, .i .u64 v.2.2.1]]), some (7, [[.ref 5 0 0, .ref 6 0 0, .i .i64 0, .i .i64 0, .i .i64 0, .i .i64 0, .i .i64 0]]), some (1, rows ci_i64 []), some (1, rows ci_i64 []), some (1, rows ci_i64 [0, 0, 10, 25, 50, 100]), some (7, [[.ref 9 0 v.2.2.2.1.length, .ref 10 0 v.2.2.2.2.length, .i .i64 (aI .i64 1 r104.1), .i .i64 (aI .i64 5 r106.1), .i .i64 r108.1, .i .i64 r118.1, .i .i64 e116]]), some (1, rows ci_i64 v.2.2.2.1), some (1, rows ci_i64 v.2.2.2.2)], ((tm 6 [(2, .ptr 0 0 0), (4, .ptr 3 0 0)]) ++ [])⟩ : VS)) (fun v => (g23_j1 r104 r106 r108 r118 e116 (v.1) (v.2.1) (v.2.2.1) (v.2.2.2.1) (v.2.2.2.2)).bind some = some r) ?_ ?_
  · refine VW.seq ?_
    obtain ⟨r166, q167, h⟩ := bindE h
    have c167 : F56 [.agg [.sl 1 (rows ci_u8 r118.2.code_), .i .i64 r118.2.at_, .i .u64 r118.2.seed_], .i .i64 5] = some (.tup [.i .i64 r166.1, .agg [.sl 1 (rows ci_u8 r166.2.code_), .i .i64 r166.2.at_, .i .u64 r166.2.seed_]]) := tells_eq inj56 (a := (r118.2, 5)) q167
    refine VW.evalM (C := []) (CM := [(56, F56)]) (tm 45 [(0, .ptr 3 0 0), (2, .ptr 4 0 0), (3, .ptr 8 0 0), (4, .i .i64 (aI .i64 1 r166.1))]) [some (7, [[.ref 1 0 0, .ref 2 0 0, .i .i64 0, .i .i64 0, .i .i64 0, .i .i64 0, .i .i64 0]]), some (1, rows ci_i64 []), some (1, rows ci_i64 []), some (3, [[.sl 1 (rows ci_u8 r166.2.code_), .i .i64 r166.2.at_, .i .u64 r166.2.seed_]]), some (7, [[.ref 5 0 0, .ref 6 0 0, .i .i64 0, .i .i64 0, .i .i64 0, .i .i64 0, .i .i64 0]]), some (1, rows ci_i64 []), some (1, rows ci_i64 []), some (1, rows ci_i64 [0, 0, 10, 25, 50, 100]), some (7, [[.ref 9 0 0, .ref 10 0 0, .i .i64 (aI .i64 1 r104.1), .i .i64 (aI .i64 5 r106.1), .i .i64 r108.1, .i .i64 r118.1, .i .i64 e116]]), some (1, rows ci_i64 []), some (1, rows ci_i64 [])] ((tm 6 [(2, .ptr 0 0 0), (4, .ptr 3 0 0)]) ++ []) trivial ⟨ok56, trivial⟩ (by simp -implicitDefEqProofs [c167]) ?_
    refine VW.block ?_
    obtain ⟨w_1, hw_1, h⟩ := bindE h
    refine VW.loopO (fun (x : Int × (List Int) × Int × Int × (List Int) × (List Int)) => (⟨(tm 45 [(0, .ptr 3 0 0), (2, .ptr 4 0 0), (3, .ptr 8 0 0), (4, .i .i64 x.1)]), [some (7, [[.ref 1 0 0, .ref 2 0 0, .i .i64 0, .i .i64 0, .i .i64 0, .i .i64 0, .i .i64 0]]), some (1, rows ci_i64 []), some (1, rows ci_i64 []), some (3, [[.sl 1 (rows ci_u8 x.2.1), .i .i64 x.2.2.1, .i .u64 x.2.2.2.1]]), some (7, [[.ref 5 0 0, .ref 6 0 0, .i .i64 0, .i .i64 0, .i .i64 0, .i .i64 0, .i .i64 0]]), some (1, rows ci_i64 []), some (1, rows ci_i64 []), some (1, rows ci_i64 [0, 0, 10, 25, 50, 100]), some (7, [[.ref 9 0 x.2.2.2.2.1.length, .ref 10 0 x.2.2.2.2.2.length, .i .i64 (aI .i64 1 r104.1), .i .i64 (aI .i64 5 r106.1), .i .i64 r108.1, .i .i64 r118.1, .i .i64 e116]]), some (1, rows ci_i64 x.2.2.2.2.1), some (1, rows ci_i64 x.2.2.2.2.2)], ((tm 6 [(2, .ptr 0 0 0), (4, .ptr 3 0 0)]) ++ [])⟩ : VS)) hw_1 (Ent.to 11 (by simp [fgt]) (by simp) (by simp) (by simp [bndT, bndV]) (by simp [bndM, bndV]) (hgg := by simp [bndT, bndV])) ?_
    rintro n_1 ⟨k_192, y193, y194, y195, l196, l197⟩ h1
    rw [g23_L1] at h1
    refine VW.seq ?_
    refine VW.seq ?_
    refine VW.evalA (C := []) (tm 45 [(0, .ptr 3 0 0), (2, .ptr 4 0 0), (3, .ptr 8 0 0), (4, .i .i64 k_192), (27, .b (ltI 0 k_192))]) [some (7, [[.ref 1 0 0, .ref 2 0 0, .i .i64 0, .i .i64 0, .i .i64 0, .i .i64 0, .i .i64 0]]), some (1, rows ci_i64 []), some (1, rows ci_i64 []), some (3, [[.sl 1 (rows ci_u8 y193), .i .i64 y194, .i .u64 y195]]), some (7, [[.ref 5 0 0, .ref 6 0 0, .i .i64 0, .i .i64 0, .i .i64 0, .i .i64 0, .i .i64 0]]), some (1, rows ci_i64 []), some (1, rows ci_i64 []), some (1, rows ci_i64 [0, 0, 10, 25, 50, 100]), some (7, [[.ref 9 0 l196.length, .ref 10 0 l197.length, .i .i64 (aI .i64 1 r104.1), .i .i64 (aI .i64 5 r106.1), .i .i64 r108.1, .i .i64 r118.1, .i .i64 e116]]), some (1, rows ci_i64 l196), some (1, rows ci_i64 l197)] ((tm 6 [(2, .ptr 0 0 0), (4, .ptr 3 0 0)]) ++ []) trivial (by kernel_rfl) (by simp -implicitDefEqProofs) ?_
    refine VW.condB (b := ltI 0 k_192) (by simp) (fun g198 => ?_) (fun g198 => ?_)
    · replace h1 := iteT g198 h1
      refine VW.skip ?_
      refine VW.seq ?_
      refine VW.block ?_
      refine VW.seq ?_
      obtain ⟨r199, q200, h1⟩ := bindE h1
      have c200 : F56 [.agg [.sl 1 (rows ci_u8 y193), .i .i64 y194, .i .u64 y195], .i .i64 30] = some (.tup [.i .i64 r199.1, .agg [.sl 1 (rows ci_u8 r199.2.code_), .i .i64 r199.2.at_, .i .u64 r199.2.seed_]]) := tells_eq inj56 (a := ((⟨y193, y194, y195⟩ : T85), 30)) q200
      obtain ⟨u201, q202, h1⟩ := bindE h1
      obtain ⟨f202a, f202b⟩ := appK_some q202
      try simp only [Int.toNat_natCast, Int.reduceToNat, List.length_cons, List.length_nil, Nat.reduceAdd, Nat.zero_add] at f202a f202b
      refine VW.evalMA (C := []) (CM := [(56, F56)]) [[0, 1, 2, 3, 4, 5, 6, 7], [0, 2, 1, 3, 4, 5, 6, 7], [0, 2, 3, 1, 4, 5, 6, 7], [0, 2, 3, 4, 1, 5, 6, 7], [2, 0, 1, 3, 4, 5, 6, 7], [2, 0, 3, 1, 4, 5, 6, 7], [2, 0, 3, 4, 1, 5, 6, 7], [2, 3, 0, 1, 4, 5, 6, 7], [2, 3, 0, 4, 1, 5, 6, 7], [2, 3, 4, 0, 1, 5, 6, 7]] (tm 45 [(0, .ptr 3 0 0), (2, .ptr 4 0 0), (3, .ptr 8 0 0), (4, .i .i64 k_192)]) [some (7, [[.ref 1 0 0, .ref 2 0 0, .i .i64 0, .i .i64 0, .i .i64 0, .i .i64 0, .i .i64 0]]), some (1, rows ci_i64 []), some (1, rows ci_i64 []), some (3, [[.sl 1 (rows ci_u8 r199.2.code_), .i .i64 r199.2.at_, .i .u64 r199.2.seed_]]), some (7, [[.ref 5 0 0, .ref 6 0 0, .i .i64 0, .i .i64 0, .i .i64 0, .i .i64 0, .i .i64 0]]), some (1, rows ci_i64 []), some (1, rows ci_i64 []), some (1, rows ci_i64 [0, 0, 10, 25, 50, 100]), some (7, [[.ref 9 0 (l196 ++ [r199.1]).length, .ref 10 0 l197.length, .i .i64 (aI .i64 1 r104.1), .i .i64 (aI .i64 5 r106.1), .i .i64 r108.1, .i .i64 r118.1, .i .i64 e116]]), some (1, rows ci_i64 (l196 ++ [r199.1])), some (1, rows ci_i64 l197), some (1, rows ci_i64 [r199.1])] ((tm 6 [(2, .ptr 0 0 0), (4, .ptr 3 0 0)]) ++ []) trivial ⟨ok56, trivial⟩ mixed (by kernel_rfl) (by simp -implicitDefEqProofs [c200, f202a, f202b]) ?_
      obtain ⟨r203, q204, h1⟩ := bindE h1
      have c204 : F56 [.agg [.sl 1 (rows ci_u8 r199.2.code_), .i .i64 r199.2.at_, .i .u64 r199.2.seed_], .i .i64 7] = some (.tup [.i .i64 r203.1, .agg [.sl 1 (rows ci_u8 r203.2.code_), .i .i64 r203.2.at_, .i .u64 r203.2.seed_]]) := tells_eq inj56 (a := (r199.2, 7)) q204
      obtain ⟨u205, q206, h1⟩ := bindE h1
      obtain ⟨f206a, f206b⟩ := appK_some q206
      try simp only [Int.toNat_natCast, Int.reduceToNat, List.length_cons, List.length_nil, Nat.reduceAdd, Nat.zero_add] at f206a f206b
      refine VW.evalMA (C := []) (CM := [(56, F56)]) [[0, 1, 2, 3, 4, 5, 6, 7], [0, 2, 1, 3, 4, 5, 6, 7], [0, 2, 3, 1, 4, 5, 6, 7], [0, 2, 3, 4, 1, 5, 6, 7], [2, 0, 1, 3, 4, 5, 6, 7], [2, 0, 3, 1, 4, 5, 6, 7], [2, 0, 3, 4, 1, 5, 6, 7], [2, 3, 0, 1, 4, 5, 6, 7], [2, 3, 0, 4, 1, 5, 6, 7], [2, 3, 4, 0, 1, 5, 6, 7]] (tm 45 [(0, .ptr 3 0 0), (2, .ptr 4 0 0), (3, .ptr 8 0 0), (4, .i .i64 k_192)]) [some (7, [[.ref 1 0 0, .ref 2 0 0, .i .i64 0, .i .i64 0, .i .i64 0, .i .i64 0, .i .i64 0]]), some (1, rows ci_i64 []), some (1, rows ci_i64 []), some (3, [[.sl 1 (rows ci_u8 r203.2.code_), .i .i64 r203.2.at_, .i .u64 r203.2.seed_]]), some (7, [[.ref 5 0 0, .ref 6 0 0, .i .i64 0, .i .i64 0, .i .i64 0, .i .i64 0, .i .i64 0]]), some (1, rows ci_i64 []), some (1, rows ci_i64 []), some (1, rows ci_i64 [0, 0, 10, 25, 50, 100]), some (7, [[.ref 9 0 (l196 ++ [r199.1]).length, .ref 10 0 (l197 ++ [r203.1]).length, .i .i64 (aI .i64 1 r104.1), .i .i64 (aI .i64 5 r106.1), .i .i64 r108.1, .i .i64 r118.1, .i .i64 e116]]), some (1, rows ci_i64 (l196 ++ [r199.1])), some (1, rows ci_i64 (l197 ++ [r203.1])), some (1, rows ci_i64 [r199.1]), some (1, rows ci_i64 [r203.1])] ((tm 6 [(2, .ptr 0 0 0), (4, .ptr 3 0 0)]) ++ []) trivial ⟨ok56, trivial⟩ mixed (by kernel_rfl) (by simp -implicitDefEqProofs [c204, f206a, f206b]) ?_
      refine VW.evalA (C := []) (tm 45 [(0, .ptr 3 0 0), (2, .ptr 4 0 0), (3, .ptr 8 0 0), (4, .i .i64 (sI .i64 k_192 1))]) [some (7, [[.ref 1 0 0, .ref 2 0 0, .i .i64 0, .i .i64 0, .i .i64 0, .i .i64 0, .i .i64 0]]), some (1, rows ci_i64 []), some (1, rows ci_i64 []), some (3, [[.sl 1 (rows ci_u8 r203.2.code_), .i .i64 r203.2.at_, .i .u64 r203.2.seed_]]), some (7, [[.ref 5 0 0, .ref 6 0 0, .i .i64 0, .i .i64 0, .i .i64 0, .i .i64 0, .i .i64 0]]), some (1, rows ci_i64 []), some (1, rows ci_i64 []), some (1, rows ci_i64 [0, 0, 10, 25, 50, 100]), some (7, [[.ref 9 0 (l196 ++ [r199.1]).length, .ref 10 0 (l197 ++ [r203.1]).length, .i .i64 (aI .i64 1 r104.1), .i .i64 (aI .i64 5 r106.1), .i .i64 r108.1, .i .i64 r118.1, .i .i64 e116]]), some (1, rows ci_i64 (l196 ++ [r199.1])), some (1, rows ci_i64 (l197 ++ [r203.1])), some (1, rows ci_i64 [r199.1]), some (1, rows ci_i64 [r203.1])] ((tm 6 [(2, .ptr 0 0 0), (4, .ptr 3 0 0)]) ++ []) trivial (by kernel_rfl) (by simp -implicitDefEqProofs) ?_
      exact (show ∃ _, _ from ⟨(sI .i64 k_192 1, r203.2.code_, r203.2.at_, r203.2.seed_, (l196 ++ [r199.1]), (l197 ++ [r203.1])), leafL h1, (Ent.to 11 (by simp [fgt]) (by simp) (by simp) (by simp [bndT, bndV]) (by simp [bndM, bndV]) (hgg := by simp [bndT, bndV]))⟩)
    · replace h1 := iteF g198 h1
      refine VW.exit ?_
      have e_ := leafR h1
      subst w_1
      exact (show ∃ _, _ from ⟨(y193, y194, y195, l196, l197), h, (Ent.to 11 (by simp [fgt]) (by simp) (by simp) (by simp [bndT, bndV]) (by simp [bndM, bndV]) (hgg := by simp [bndT, bndV]))⟩)
  · rintro ⟨y161, y162, y163, l164, l165⟩ h
    replace h : (g23_j1 r104 r106 r108 r118 e116 y161 y162 y163 l164 l165).bind _ = _ := h
    rw [g23_j1] at h
    refine VW.seq ?_
    refine VW.evalA (C := []) (tm 45 [(2, .ptr 4 0 0)]) [some (7, [[.ref 1 0 0, .ref 2 0 0, .i .i64 0, .i .i64 0, .i .i64 0, .i .i64 0, .i .i64 0]]), some (1, rows ci_i64 []), some (1, rows ci_i64 []), some (3, [[.sl 1 (rows ci_u8 y161), .i .i64 y162, .i .u64 y163]]), some (7, [[.ref 9 0 l164.length, .ref 10 0 l165.length, .i .i64 (aI .i64 1 r104.1), .i .i64 (aI .i64 5 r106.1), .i .i64 r108.1, .i .i64 r118.1, .i .i64 e116]]), some (1, rows ci_i64 []), some (1, rows ci_i64 []), some (1, rows ci_i64 [0, 0, 10, 25, 50, 100]), some (7, [[.ref 9 0 l164.length, .ref 10 0 l165.length, .i .i64 (aI .i64 1 r104.1), .i .i64 (aI .i64 5 r106.1), .i .i64 r108.1, .i .i64 r118.1, .i .i64 e116]]), some (1, rows ci_i64 l164), some (1, rows ci_i64 l165)] ((tm 6 [(2, .ptr 0 0 0), (4, .ptr 3 0 0)]) ++ []) trivial (by kernel_rfl) (by simp -implicitDefEqProofs) ?_
    refine VW.ret (VIn.ret (v := .agg [.ref 9 0 l164.length, .ref 10 0 l165.length, .i .i64 (aI .i64 1 r104.1), .i .i64 (aI .i64 5 r106.1), .i .i64 r108.1, .i .i64 r118.1, .i .i64 e116]) (by simp) ?_)
    refine VL.evalP (C := []) (tm 6 [(2, .ptr 0 0 0)]) [some (7, [[.ref 9 0 l164.length, .ref 10 0 l165.length, .i .i64 (aI .i64 1 r104.1), .i .i64 (aI .i64 5 r106.1), .i .i64 r108.1, .i .i64 r118.1, .i .i64 e116]]), some (1, rows ci_i64 []), some (1, rows ci_i64 []), some (3, [[.sl 1 (rows ci_u8 y161), .i .i64 y162, .i .u64 y163]]), some (7, [[.ref 9 0 l164.length, .ref 10 0 l165.length, .i .i64 (aI .i64 1 r104.1), .i .i64 (aI .i64 5 r106.1), .i .i64 r108.1, .i .i64 r118.1, .i .i64 e116]]), some (1, rows ci_i64 []), some (1, rows ci_i64 []), some (1, rows ci_i64 [0, 0, 10, 25, 50, 100]), some (7, [[.ref 9 0 l164.length, .ref 10 0 l165.length, .i .i64 (aI .i64 1 r104.1), .i .i64 (aI .i64 5 r106.1), .i .i64 r108.1, .i .i64 r118.1, .i .i64 e116]]), some (1, rows ci_i64 l164), some (1, rows ci_i64 l165)] [] trivial (by kernel_rfl) (by simp -implicitDefEqProofs) ?_
    obtain rfl := leafS h
    refine VW.ret (VRet.fin ?_)
    simp [eB23]
noncomputable def g24 (code : List Int) (at_ : Int) (n : Int) : Option (Int) :=
  if (leI (code.length : Int) at_ || ltI n 1) = true then
    some 0
  else
    (idx code at_).bind fun e2 =>
    (rI .i64 (cI .i64 e2) n).bind fun d4 =>
    some d4
def eA24 (a : (List Int) × Int × Int) : List V := [.sl 1 (rows ci_u8 a.1), .i .i64 a.2.1, .i .i64 a.2.2]
def eB24 (r : Int) : V := .i .i64 r
theorem inj24 (a a' : (List Int) × Int × Int) (h : eA24 a = eA24 a') : a = a' := by
  obtain ⟨i21, i22, i23⟩ := a
  obtain ⟨i24, i25, i26⟩ := a'
  simp only [eA24, List.cons.injEq, V.i.injEq, V.b.injEq, V.f.injEq, V.str.injEq, V.sl.injEq, V.agg.injEq, V.cptr.injEq, true_and, and_true] at h
  simp_all [ri ci_u8_inj]
noncomputable def F24 : List V → Option V := tells (fun a => g24 a.1 a.2.1 a.2.2) eA24 eB24
set_option maxRecDepth 100000 in
set_option maxHeartbeats 4000000 in
/- loop.example/g01229/laws.a2At -/
theorem ok24 : Tells Try.prog 24 F24 := by
  refine Tells.of (by kernel_rfl) ?_
  rintro ⟨code, at_, n⟩ r h
  refine VCalls.nl (VCalls.of Try.func24 rfl rfl rfl ?_)
  rw [tm_init]
  simp only [eA24, en, List.length_cons, List.length_nil, Nat.reduceAdd, Nat.reduceSub]
  replace h : (g24 code at_ n).bind some = some r := bindS h
  rw [g24] at h
  refine VW.seq ?_
  refine VW.evalA (C := []) (tm 22 [(0, .sl 1 (rows ci_u8 code)), (1, .i .i64 at_), (2, .i .i64 n)]) [] [] trivial (by kernel_rfl) (by simp -implicitDefEqProofs) ?_
  refine VW.seq ?_
  refine VW.seq ?_
  refine VW.evalA (C := []) (tm 22 [(0, .sl 1 (rows ci_u8 code)), (1, .i .i64 at_), (2, .i .i64 n), (14, .b (leI (code.length : Int) at_ || ltI n 1))]) [] [] trivial (by kernel_rfl) (by simp -implicitDefEqProofs) ?_
  refine VW.condB (b := (leI (code.length : Int) at_ || ltI n 1)) (by simp) (fun g1 => ?_) (fun g1 => ?_)
  · replace h := iteT g1 h
    refine VW.seq ?_
    refine VW.evalA (C := []) (tm 22 [(6, .i .i64 0)]) [] [] trivial (by kernel_rfl) (by simp -implicitDefEqProofs) ?_
    obtain rfl := leafS h
    refine VW.ret (VRet.fin ?_)
    simp [eB24]
  · replace h := iteF g1 h
    refine VW.skip ?_
    refine VW.seq ?_
    obtain ⟨e2, q3, h⟩ := bindE h
    obtain ⟨f3a, f3b, f3c, f3d⟩ := idx_some q3
    obtain ⟨d4, q5, h⟩ := bindE h
    refine VW.evalA (C := []) (tm 22 [(6, .i .i64 d4)]) [] [] trivial (by kernel_rfl) (by simp -implicitDefEqProofs [f3a, f3b, f3c, f3d, q5]) ?_
    obtain rfl := leafS h
    refine VW.ret (VRet.fin ?_)
    simp [eB24]
noncomputable def g42_j1 (s : T30) : Option (Bool) :=
  some (((((((((leI 0 s.most_ && leI s.most_ 20) && leI 1 s.yield_) && leI s.yield_ 40) && leI 0 s.store_) && leI s.store_ 60) && leI 0 s.first_) && leI s.first_ s.store_) && leI 0 s.loss_) && leI s.loss_ 100)
noncomputable def g42_L1 (s : T30) : (Int) → Option ((Int) ⊕ ((Unit) ⊕ (Bool)))
  | x_115 =>
    if ltI x_115 (s.need_.length : Int) = true then
      (idx s.need_ x_115).bind fun e117 =>
      (if (ltI e117 0 || ltI 200 e117) = true then some true else (idx s.price_ x_115).bind fun e119 => some (ltI e119 0)).bind fun w121 =>
      (if w121 = true then some true else (idx s.price_ x_115).bind fun e122 => some (ltI 1000 e122)).bind fun w124 =>
      if w124 = true then
        some (.inr (.inr false))
      else
        some (.inl (aI .i64 x_115 1))
    else
      some (.inr (.inl ()))
noncomputable def g42 (s : T30) : Option (Bool) :=
  if ((ltI (s.need_.length : Int) 1 || ltI 24 (s.need_.length : Int)) || (!eqI (s.price_.length : Int) (s.need_.length : Int))) = true then
    some false
  else
    (loopO (g42_L1 s) 0).bind fun w => match w with
      | .inl y => g42_j1 s
      | .inr r => some r
def eA42 (a : T30) : List V := [.agg (pT30 a)]
def eB42 (r : Bool) : V := .b r
theorem inj42 (a a' : T30) (h : eA42 a = eA42 a') : a = a' := by
  obtain ⟨i41, i42, i43, i44, i45, i46, i47⟩ := a
  obtain ⟨i48, i49, i50, i51, i52, i53, i54⟩ := a'
  simp only [eA42, pT30, List.cons.injEq, V.i.injEq, V.b.injEq, V.f.injEq, V.str.injEq, V.sl.injEq, V.agg.injEq, V.cptr.injEq, true_and, and_true] at h
  simp_all [ri ci_i64_inj]
noncomputable def F42 : List V → Option V := tells (fun a => g42 a) eA42 eB42
set_option maxRecDepth 100000 in
set_option maxHeartbeats 4000000 in
/- loop.example/g01229/impl.ValidSeason -/
theorem ok42 : Tells Try.prog 42 F42 := by
  refine Tells.of (by kernel_rfl) ?_
  rintro s r h
  refine VCalls.nl (VCalls.of Try.func42 rfl rfl rfl ?_)
  rw [tm_init]
  simp only [eA42, en, List.length_cons, List.length_nil, Nat.reduceAdd, Nat.reduceSub]
  replace h : (g42 s).bind some = some r := bindS h
  rw [g42] at h
  refine VW.seq ?_
  refine VW.evalA (C := []) (tm 106 [(1, .ptr 0 0 0)]) [some (7, [(pT30 s)])] [] trivial (by kernel_rfl) (by first | (simp -implicitDefEqProofs; done) | simp -implicitDefEqProofs [pT30]) ?_
  refine VW.seq ?_
  refine VW.evalA (C := []) (tm 106 [(1, .ptr 0 0 0), (3, .i .i64 (s.need_.length : Int))]) [some (7, [(pT30 s)])] [] trivial (by kernel_rfl) (by first | (simp -implicitDefEqProofs; done) | simp -implicitDefEqProofs [pT30]) ?_
  refine VW.seq ?_
  refine VW.seq ?_
  refine VW.evalA (C := []) (tm 106 [(1, .ptr 0 0 0), (3, .i .i64 (s.need_.length : Int)), (20, .b ((ltI (s.need_.length : Int) 1 || ltI 24 (s.need_.length : Int)) || (!eqI (s.price_.length : Int) (s.need_.length : Int))))]) [some (7, [(pT30 s)])] [] trivial (by kernel_rfl) (by first | (simp -implicitDefEqProofs; done) | simp -implicitDefEqProofs [pT30]) ?_
  refine VW.condB (b := ((ltI (s.need_.length : Int) 1 || ltI 24 (s.need_.length : Int)) || (!eqI (s.price_.length : Int) (s.need_.length : Int)))) (by simp) (fun g1 => ?_) (fun g1 => ?_)
  · replace h := iteT g1 h
    refine VW.seq ?_
    refine VW.evalA (C := []) (tm 106 [(2, .b false)]) [some (7, [(pT30 s)])] [] trivial (by kernel_rfl) (by first | (simp -implicitDefEqProofs; done) | simp -implicitDefEqProofs [pT30]) ?_
    obtain rfl := leafS h
    refine VW.ret (VRet.fin ?_)
    first | (simp [eB42]; done) | simp [eB42, pT30]
  · replace h := iteF g1 h
    refine VW.skip ?_
    refine VW.join (fun (v : Unit) => (⟨(tm 106 [(1, .ptr 0 0 0)]), [some (7, [(pT30 s)])], []⟩ : VS)) (fun v => (g42_j1 s).bind some = some r) ?_ ?_
    · refine VW.seq ?_
      refine VW.evalA (C := []) (tm 106 [(1, .ptr 0 0 0), (21, .i .i64 (s.need_.length : Int)), (22, .i .i64 0)]) [some (7, [(pT30 s)])] [] trivial (by kernel_rfl) (by first | (simp -implicitDefEqProofs; done) | simp -implicitDefEqProofs [pT30]) ?_
      refine VW.block ?_
      obtain ⟨w_1, hw_1, h⟩ := bindE h
      refine VW.loopO (fun (x : Int) => (⟨(tm 106 [(1, .ptr 0 0 0), (21, .i .i64 (s.need_.length : Int)), (22, .i .i64 x)]), [some (7, [(pT30 s)])], []⟩ : VS)) hw_1 (Ent.to 1 (by simp [fgt]) (by first | (simp; done) | simp [pT30]) (by simp) (by simp [bndT, bndV]) (by simp [bndM, bndV])) ?_
      rintro n_1 x_115 h1
      rw [g42_L1] at h1
      refine VW.seq ?_
      refine VW.evalA (C := []) (tm 106 [(1, .ptr 0 0 0), (21, .i .i64 (s.need_.length : Int)), (22, .i .i64 x_115), (23, .b (ltI x_115 (s.need_.length : Int)))]) [some (7, [(pT30 s)])] [] trivial (by kernel_rfl) (by first | (simp -implicitDefEqProofs; done) | simp -implicitDefEqProofs [pT30]) ?_
      refine VW.seq ?_
      refine VW.condB (b := ltI x_115 (s.need_.length : Int)) (by simp) (fun g116 => ?_) (fun g116 => ?_)
      · replace h1 := iteT g116 h1
        refine VW.skip ?_
        refine VW.seq ?_
        refine VW.block ?_
        refine VW.seq ?_
        refine VW.evalA (C := []) (tm 106 [(1, .ptr 0 0 0), (4, .i .i64 x_115), (21, .i .i64 (s.need_.length : Int)), (22, .i .i64 x_115)]) [some (7, [(pT30 s)])] [] trivial (by kernel_rfl) (by first | (simp -implicitDefEqProofs; done) | simp -implicitDefEqProofs [pT30]) ?_
        refine VW.seq ?_
        obtain ⟨e117, q118, h1⟩ := bindE h1
        obtain ⟨f118a, f118b, f118c, f118d⟩ := idx_some q118
        obtain ⟨w121, q126, h1⟩ := bindE h1
        obtain ⟨w124, q127, h1⟩ := bindE h1
        refine VW.evalA (C := []) (tm 106 [(1, .ptr 0 0 0), (21, .i .i64 (s.need_.length : Int)), (22, .i .i64 x_115), (54, .b w124)]) [some (7, [(pT30 s)])] [] trivial (by kernel_rfl) (by
            rcases Bool.eq_false_or_eq_true (ltI e117 0 || ltI 200 e117) with q128 | q128
            · first
              | (simp at q128; done)
              | (rw [if_pos q128] at q126
                 have d129 : w121 = _ := (Option.some.inj q126).symm
                 rcases Bool.eq_false_or_eq_true w121 with q130 | q130
                 · first
                   | (simp [d129] at q130; done)
                   | (rw [if_pos q130] at q127
                      try simp only [d129] at q130
                      have d131 : w124 = _ := (Option.some.inj q127).symm
                      first | (simp -implicitDefEqProofs [f118a, f118b, f118c, f118d, q128, d129, q130, d131]; done) | simp -implicitDefEqProofs [f118a, f118b, f118c, f118d, q128, d129, q130, d131, pT30])
                 · first
                   | (simp [d129] at q130; done)
                   | (rw [if_neg (by rw [q130]; exact Bool.false_ne_true)] at q127
                      try simp only [d129] at q130
                      obtain ⟨e122, q123, q127⟩ := bindQ q127
                      obtain ⟨f123a, f123b, f123c, f123d⟩ := idx_some q123
                      have d132 : w124 = _ := (Option.some.inj q127).symm
                      first | (simp -implicitDefEqProofs [f118a, f118b, f118c, f118d, q128, d129, q130, f123a, f123b, f123c, f123d, d132]; done) | simp -implicitDefEqProofs [f118a, f118b, f118c, f118d, q128, d129, q130, f123a, f123b, f123c, f123d, d132, pT30]))
            · first
              | (simp at q128; done)
              | (rw [if_neg (by rw [q128]; exact Bool.false_ne_true)] at q126
                 obtain ⟨e119, q120, q126⟩ := bindQ q126
                 obtain ⟨f120a, f120b, f120c, f120d⟩ := idx_some q120
                 have d133 : w121 = _ := (Option.some.inj q126).symm
                 rcases Bool.eq_false_or_eq_true w121 with q134 | q134
                 · first
                   | (simp [d133] at q134; done)
                   | (rw [if_pos q134] at q127
                      try simp only [d133] at q134
                      have d135 : w124 = _ := (Option.some.inj q127).symm
                      first | (simp -implicitDefEqProofs [f118a, f118b, f118c, f118d, q128, f120a, f120b, f120c, f120d, d133, q134, d135]; done) | simp -implicitDefEqProofs [f118a, f118b, f118c, f118d, q128, f120a, f120b, f120c, f120d, d133, q134, d135, pT30])
                 · first
                   | (simp [d133] at q134; done)
                   | (rw [if_neg (by rw [q134]; exact Bool.false_ne_true)] at q127
                      try simp only [d133] at q134
                      obtain ⟨e122, q123, q127⟩ := bindQ q127
                      have d136 : e122 = e119 := Option.some.inj (q123.symm.trans q120)
                      have d137 : w124 = _ := (Option.some.inj q127).symm
                      first | (simp -implicitDefEqProofs [f118a, f118b, f118c, f118d, q128, f120a, f120b, f120c, f120d, d133, q134, d136, d137]; done) | simp -implicitDefEqProofs [f118a, f118b, f118c, f118d, q128, f120a, f120b, f120c, f120d, d133, q134, d136, d137, pT30]))) ?_
        refine VW.condB (b := w124) (by simp) (fun g125 => ?_) (fun g125 => ?_)
        · replace h1 := iteT g125 h1
          refine VW.seq ?_
          refine VW.evalA (C := []) (tm 106 [(2, .b false)]) [some (7, [(pT30 s)])] [] trivial (by kernel_rfl) (by first | (simp -implicitDefEqProofs; done) | simp -implicitDefEqProofs [pT30]) ?_
          have e_ := leafR h1
          subst w_1
          obtain rfl := leafS h
          refine VW.ret (VRet.fin ?_)
          first | (simp [eB42]; done) | simp [eB42, pT30]
        · replace h1 := iteF g125 h1
          refine VW.skip ?_
          refine VW.evalA (C := []) (tm 106 [(1, .ptr 0 0 0), (21, .i .i64 (s.need_.length : Int)), (22, .i .i64 (aI .i64 x_115 1))]) [some (7, [(pT30 s)])] [] trivial (by kernel_rfl) (by first | (simp -implicitDefEqProofs; done) | simp -implicitDefEqProofs [pT30]) ?_
          exact (show ∃ _, _ from ⟨aI .i64 x_115 1, leafL h1, (Ent.to 1 (by simp [fgt]) (by first | (simp; done) | simp [pT30]) (by simp) (by simp [bndT, bndV]) (by simp [bndM, bndV]))⟩)
      · replace h1 := iteF g116 h1
        refine VW.exit ?_
        have e_ := leafR h1
        subst w_1
        exact (show ∃ _, _ from ⟨(), h, (Ent.to 1 (by simp [fgt]) (by first | (simp; done) | simp [pT30]) (by simp) (by simp [bndT, bndV]) (by simp [bndM, bndV]))⟩)
    · rintro _ h
      replace h : (g42_j1 s).bind _ = _ := h
      rw [g42_j1] at h
      refine VW.seq ?_
      refine VW.evalA (C := []) (tm 106 [(2, .b (((((((((leI 0 s.most_ && leI s.most_ 20) && leI 1 s.yield_) && leI s.yield_ 40) && leI 0 s.store_) && leI s.store_ 60) && leI 0 s.first_) && leI s.first_ s.store_) && leI 0 s.loss_) && leI s.loss_ 100))]) [some (7, [(pT30 s)])] [] trivial (by kernel_rfl) (by first | (simp (maxSteps := 4000000) -implicitDefEqProofs; done) | simp (maxSteps := 4000000) -implicitDefEqProofs [pT30]) ?_
      obtain rfl := leafS h
      refine VW.ret (VRet.fin ?_)
      first | (simp [eB42]; done) | simp [eB42, pT30]
noncomputable def g53 (s : T30) (slot : Int) (store : Int) (logs : Int) : Option (Int × Bool) :=
  (idx s.need_ slot).bind fun e1 =>
  if ltI (sI .i64 (aI .i64 store (mI .i64 logs s.yield_)) e1) 0 = true then
    some (0, false)
  else
    (dI .i64 (mI .i64 (sI .i64 (aI .i64 store (mI .i64 logs s.yield_)) e1) s.loss_) 100).bind fun d4 =>
    some (minI (sI .i64 (sI .i64 (aI .i64 store (mI .i64 logs s.yield_)) e1) d4) s.store_, true)
def eA53 (a : T30 × Int × Int × Int) : List V := [.agg (pT30 a.1), .i .i64 a.2.1, .i .i64 a.2.2.1, .i .i64 a.2.2.2]
def eB53 (r : Int × Bool) : V := .tup [.i .i64 r.1, .b r.2]
theorem inj53 (a a' : T30 × Int × Int × Int) (h : eA53 a = eA53 a') : a = a' := by
  obtain ⟨⟨i55, i56, i57, i58, i59, i60, i61⟩, i62, i63, i64⟩ := a
  obtain ⟨⟨i65, i66, i67, i68, i69, i70, i71⟩, i72, i73, i74⟩ := a'
  simp only [eA53, pT30, List.cons.injEq, V.i.injEq, V.b.injEq, V.f.injEq, V.str.injEq, V.sl.injEq, V.agg.injEq, V.cptr.injEq, true_and, and_true] at h
  simp_all [ri ci_i64_inj]
noncomputable def F53 : List V → Option V := tells (fun a => g53 a.1 a.2.1 a.2.2.1 a.2.2.2) eA53 eB53
set_option maxRecDepth 100000 in
set_option maxHeartbeats 4000000 in
/- loop.example/g01229/impl.after -/
theorem ok53 : Tells Try.prog 53 F53 := by
  refine Tells.of (by kernel_rfl) ?_
  rintro ⟨s, slot, store, logs⟩ r h
  refine VCalls.nl (VCalls.of Try.func53 rfl rfl rfl ?_)
  rw [tm_init]
  simp only [eA53, en, List.length_cons, List.length_nil, Nat.reduceAdd, Nat.reduceSub]
  replace h : (g53 s slot store logs).bind some = some r := bindS h
  rw [g53] at h
  refine VW.seq ?_
  refine VW.evalA (C := []) (tm 35 [(1, .i .i64 slot), (2, .i .i64 store), (3, .i .i64 logs), (4, .ptr 0 0 0)]) [some (7, [(pT30 s)])] [] trivial (by kernel_rfl) (by first | (simp -implicitDefEqProofs [min_fold]; done) | simp -implicitDefEqProofs [min_fold, pT30]) ?_
  refine VW.seq ?_
  obtain ⟨e1, q2, h⟩ := bindE h
  obtain ⟨f2a, f2b, f2c, f2d⟩ := idx_some q2
  refine VW.evalDA (C := []) (tm 35 [(4, .ptr 0 0 0), (10, .i .i64 (sI .i64 (aI .i64 store (mI .i64 logs s.yield_)) e1))]) [some (7, [(pT30 s)])] [] trivial mixed (by kernel_rfl) (by first | (simp -implicitDefEqProofs [f2a, f2b, f2c, f2d, min_fold]; done) | simp -implicitDefEqProofs [f2a, f2b, f2c, f2d, min_fold, pT30]) ?_
  refine VW.seq ?_
  refine VW.seq ?_
  refine VW.evalA (C := []) (tm 35 [(4, .ptr 0 0 0), (10, .i .i64 (sI .i64 (aI .i64 store (mI .i64 logs s.yield_)) e1)), (24, .b (ltI (sI .i64 (aI .i64 store (mI .i64 logs s.yield_)) e1) 0))]) [some (7, [(pT30 s)])] [] trivial (by kernel_rfl) (by first | (simp -implicitDefEqProofs [min_fold]; done) | simp -implicitDefEqProofs [min_fold, pT30]) ?_
  refine VW.condB (b := ltI (sI .i64 (aI .i64 store (mI .i64 logs s.yield_)) e1) 0) (by simp) (fun g3 => ?_) (fun g3 => ?_)
  · replace h := iteT g3 h
    refine VW.seq ?_
    refine VW.evalA (C := []) (tm 35 [(8, .i .i64 0), (9, .b false)]) [some (7, [(pT30 s)])] [] trivial (by kernel_rfl) (by first | (simp -implicitDefEqProofs; done) | simp -implicitDefEqProofs [pT30]) ?_
    obtain rfl := leafS h
    refine VW.ret (VRet.fin ?_)
    first | (simp [eB53]; done) | simp [eB53, pT30]
  · replace h := iteF g3 h
    refine VW.skip ?_
    refine VW.seq ?_
    obtain ⟨d4, q5, h⟩ := bindE h
    refine VW.evalA (C := []) (tm 35 [(8, .i .i64 (minI (sI .i64 (sI .i64 (aI .i64 store (mI .i64 logs s.yield_)) e1) d4) s.store_)), (9, .b true)]) [some (7, [(pT30 s)])] [] trivial (by kernel_rfl) (by first | (simp -implicitDefEqProofs [q5, min_fold]; done) | simp -implicitDefEqProofs [q5, min_fold, pT30]) ?_
    obtain rfl := leafS h
    refine VW.ret (VRet.fin ?_)
    first | (simp [eB53]; done) | simp [eB53, pT30]
noncomputable def g48_j1 (l5177 : List (List Int)) : Option (List (List Int)) :=
  some l5177
noncomputable def g48_j2 (k_8624 : Int) (l9487 : List (List Int)) : Option ((Int × (List (List Int))) ⊕ (List (List Int))) :=
  some (.inl (sI .i64 k_8624 1, l9487))
noncomputable def g48_j3 (x_10062 : Int) (l10206 : List Int) : Option ((Int × (List Int)) ⊕ (List (List Int))) :=
  some (.inl (aI .i64 x_10062 1, l10206))
noncomputable def g48_j4 (l10063 : List Int) (x_10062 : Int) (best_10276 : Int) : Option ((Int × (List Int)) ⊕ (List (List Int))) :=
  (idx l10063 x_10062).bind fun e10277 =>
  g48_j3 x_10062 (l10063.set x_10062.toNat best_10276)
noncomputable def g48_L3 (s : T30) (k_8624 : Int) (x_10062 : Int) (l8625 : List (List Int)) : (Int × Int) → Option ((Int × Int) ⊕ (Int))
  | (best_10324, x_10325) =>
    if ltI x_10325 (aI .i64 s.most_ 1) = true then
      (g53 s k_8624 x_10062 x_10325).bind fun r10327 =>
      (if (!r10327.2) = true then some true else (idx l8625 (aI .i64 k_8624 1)).bind fun e10329 => (idx e10329 r10327.1).bind fun e10332 => some (eqI e10332 (-1))).bind fun w10334 =>
      if w10334 = true then
        some (.inl (best_10324, aI .i64 x_10325 1))
      else
        (idx s.price_ k_8624).bind fun e10336 =>
        (idx l8625 (aI .i64 k_8624 1)).bind fun e10338 =>
        (idx e10338 r10327.1).bind fun e10341 =>
        if (eqI best_10324 (-1) || ltI (aI .i64 (mI .i64 e10336 x_10325) e10341) best_10324) = true then
          some (.inl (aI .i64 (mI .i64 e10336 x_10325) e10341, aI .i64 x_10325 1))
        else
          some (.inl (best_10324, aI .i64 x_10325 1))
    else
      some (.inr best_10324)
noncomputable def g48_L2 (s : T30) (k_8624 : Int) (l8625 : List (List Int)) : (Int × (List Int)) → Option ((Int × (List Int)) ⊕ (List (List Int)))
  | (x_10062, l10063) =>
    if ltI x_10062 ((List.replicate (aI .i64 s.store_ 1).toNat 0).length : Int) = true then
      (loopO (g48_L3 s k_8624 x_10062 l8625) ((-1), 0)).bind fun w => g48_j4 l10063 x_10062 w
    else
      some (.inr (l8625.set k_8624.toNat l10063))
noncomputable def g48_L1 (s : T30) : (Int × (List (List Int))) → Option ((Int × (List (List Int))) ⊕ (List (List Int)))
  | (k_8624, l8625) =>
    if leI 0 k_8624 = true then
      (mk 8 (aI .i64 s.store_ 1)).bind fun u9488 =>
      (idx l8625 k_8624).bind fun e9490 =>
      (loopO (g48_L2 s k_8624 l8625) (0, (List.replicate (aI .i64 s.store_ 1).toNat 0))).bind fun w => g48_j2 k_8624 w
    else
      some (.inr l8625)
noncomputable def g48 (s : T30) : Option (List (List Int)) :=
  (mk 24 (aI .i64 (s.need_.length : Int) 1)).bind fun u1 =>
  (mk 8 (aI .i64 s.store_ 1)).bind fun u3 =>
  (idx (List.replicate (aI .i64 (s.need_.length : Int) 1).toNat ([] : List Int)) (s.need_.length : Int)).bind fun e5 =>
  (loopO (g48_L1 s) (sI .i64 (s.need_.length : Int) 1, ((List.replicate (aI .i64 (s.need_.length : Int) 1).toNat ([] : List Int)).set ((s.need_.length : Int).toNat) (List.replicate (aI .i64 s.store_ 1).toNat 0)))).bind fun w => g48_j1 w
def eA48 (a : T30) : List V := [.agg (pT30 a)]
def eB48 (r : List (List Int)) : V := .own 1 (rows cl_ci_i64o r)
theorem inj48 (a a' : T30) (h : eA48 a = eA48 a') : a = a' := by
  obtain ⟨i75, i76, i77, i78, i79, i80, i81⟩ := a
  obtain ⟨i82, i83, i84, i85, i86, i87, i88⟩ := a'
  simp only [eA48, pT30, List.cons.injEq, V.i.injEq, V.b.injEq, V.f.injEq, V.str.injEq, V.sl.injEq, V.agg.injEq, V.cptr.injEq, true_and, and_true] at h
  simp_all [ri ci_i64_inj]
noncomputable def F48 : List V → Option V := tells (fun a => g48 a) eA48 eB48
set_option maxRecDepth 100000 in
set_option maxHeartbeats 4000000 in
/- loop.example/g01229/impl.values -/
theorem ok48 : Tells Try.prog 48 F48 := by
  refine Tells.of (by kernel_rfl) ?_
  rintro s r h
  refine VCalls.nl (VCalls.of Try.func48 rfl rfl rfl ?_)
  rw [tm_init]
  simp only [eA48, en, List.length_cons, List.length_nil, Nat.reduceAdd, Nat.reduceSub]
  replace h : (g48 s).bind some = some r := bindS h
  rw [g48] at h
  refine VW.seq ?_
  refine VW.evalA (C := [(53, F53)]) (tm 107 [(1, .ptr 0 0 0)]) [some (7, [(pT30 s)])] [] ⟨.inl ok53, trivial⟩ (by kernel_rfl) (by first | (simp -implicitDefEqProofs; done) | simp -implicitDefEqProofs [pT30]) ?_
  refine VW.seq ?_
  refine VW.evalA (C := [(53, F53)]) (tm 107 [(1, .ptr 0 0 0), (3, .i .i64 (s.need_.length : Int))]) [some (7, [(pT30 s)])] [] ⟨.inl ok53, trivial⟩ (by kernel_rfl) (by first | (simp -implicitDefEqProofs; done) | simp -implicitDefEqProofs [pT30]) ?_
  refine VW.seq ?_
  obtain ⟨u1, q2, h⟩ := bindE h
  obtain ⟨f2a, f2b, f2c⟩ := mk_some q2
  try simp only [Int.toNat_natCast, Int.reduceToNat, List.length_cons, List.length_nil, Nat.reduceAdd, Nat.zero_add] at f2a f2b f2c
  refine VW.evalE (C := [(53, F53)]) (tm 107 [(1, .ptr 0 0 0), (3, .i .i64 (s.need_.length : Int)), (4, .ref 1 0 (List.replicate (aI .i64 (s.need_.length : Int) 1).toNat ([] : List Int)).length)]) [some (7, [(pT30 s)]), some (1, List.replicate (aI .i64 (s.need_.length : Int) 1).toNat [.nil])] [] ⟨.inl ok53, trivial⟩ (by kernel_rfl) (by first | (simp -implicitDefEqProofs [f2a, f2b, f2c]; done) | simp -implicitDefEqProofs [f2a, f2b, f2c, pT30]) (Ent.nilown (m := [some (7, [(pT30 s)]), some (1, List.replicate (aI .i64 (s.need_.length : Int) 1).toNat [.nil])]) 1 ((aI .i64 (s.need_.length : Int) 1).toNat) 1 [some (7, [(pT30 s)]), some (1, rows cl_ci_i64o (List.replicate (aI .i64 (s.need_.length : Int) 1).toNat ([] : List Int)))] (by simp) (by simp)) ?_
  refine VW.seq ?_
  obtain ⟨u3, q4, h⟩ := bindE h
  obtain ⟨f4a, f4b, f4c⟩ := mk_some q4
  try simp only [Int.toNat_natCast, Int.reduceToNat, List.length_cons, List.length_nil, Nat.reduceAdd, Nat.zero_add] at f4a f4b f4c
  obtain ⟨e5, q6, h⟩ := bindE h
  obtain ⟨f6a, f6b, f6c, f6d⟩ := idx_some q6
  have f6s := f6c
  simp at f6s
  try simp only [Int.toNat_natCast, Int.reduceToNat] at f6a f6b f6c f6d
  refine VW.evalE (C := [(53, F53)]) (tm 107 [(1, .ptr 0 0 0), (3, .i .i64 (s.need_.length : Int)), (4, .ref 1 0 (List.replicate (aI .i64 (s.need_.length : Int) 1).toNat ([] : List Int)).length)]) [some (7, [(pT30 s)]), some (1, (rows cl_ci_i64o (List.replicate (aI .i64 (s.need_.length : Int) 1).toNat ([] : List Int))).set ((s.need_.length : Int).toNat) [.ref 2 0 (List.replicate (aI .i64 s.store_ 1).toNat 0).length]), some (1, rows ci_i64 (List.replicate (aI .i64 s.store_ 1).toNat 0))] [] ⟨.inl ok53, trivial⟩ (by kernel_rfl) (by first | (simp -implicitDefEqProofs [f4a, f4b, f4c, f6a, f6b, f6c, f6d, f6s]; done) | simp -implicitDefEqProofs [f4a, f4b, f4c, f6a, f6b, f6c, f6d, f6s, pT30]) (Ent.absorb (m := [some (7, [(pT30 s)]), some (1, (rows cl_ci_i64o (List.replicate (aI .i64 (s.need_.length : Int) 1).toNat ([] : List Int))).set ((s.need_.length : Int).toNat) [.ref 2 0 (List.replicate (aI .i64 s.store_ 1).toNat 0).length]), some (1, rows ci_i64 (List.replicate (aI .i64 s.store_ 1).toNat 0))]) (n := 1) (n' := 1) (es := (rows cl_ci_i64o (List.replicate (aI .i64 (s.need_.length : Int) 1).toNat ([] : List Int))).set ((s.need_.length : Int).toNat) [.ref 2 0 (List.replicate (aI .i64 s.store_ 1).toNat 0).length]) (es' := rows ci_i64 (List.replicate (aI .i64 s.store_ 1).toNat 0)) (cs := [.ref 2 0 (List.replicate (aI .i64 s.store_ 1).toNat 0).length]) 1 ((s.need_.length : Int).toNat) 0 2 (List.replicate (aI .i64 s.store_ 1).toNat 0).length [some (7, [(pT30 s)]), some (1, rows cl_ci_i64o ((List.replicate (aI .i64 (s.need_.length : Int) 1).toNat ([] : List Int)).set ((s.need_.length : Int).toNat) (List.replicate (aI .i64 s.store_ 1).toNat 0))), none] rfl (by simp [f6a, f6b, f6c, f6d, f6s]) rfl rfl (by decide) (by simp) (by simp) (by simp)) ?_
  refine VW.join (fun (v : List (List Int)) => (⟨(tm 107 [(4, .ref 1 0 v.length)]), [some (7, [(pT30 s)]), some (1, rows cl_ci_i64o v), none], []⟩ : VS)) (fun v => (g48_j1 (v)).bind some = some r) ?_ ?_
  · refine VW.seq ?_
    refine VW.evalA (C := [(53, F53)]) (tm 107 [(1, .ptr 0 0 0), (4, .ref 1 0 ((List.replicate (aI .i64 (s.need_.length : Int) 1).toNat ([] : List Int)).set ((s.need_.length : Int).toNat) (List.replicate (aI .i64 s.store_ 1).toNat 0)).length), (5, .i .i64 (sI .i64 (s.need_.length : Int) 1))]) [some (7, [(pT30 s)]), some (1, rows cl_ci_i64o ((List.replicate (aI .i64 (s.need_.length : Int) 1).toNat ([] : List Int)).set ((s.need_.length : Int).toNat) (List.replicate (aI .i64 s.store_ 1).toNat 0))), none] [] ⟨.inl ok53, trivial⟩ (by kernel_rfl) (by first | (simp -implicitDefEqProofs; done) | simp -implicitDefEqProofs [pT30]) ?_
    refine VW.block ?_
    obtain ⟨w_1, hw_1, h⟩ := bindE h
    refine VW.loopO (fun (x : Int × (List (List Int))) => (⟨(tm 107 [(1, .ptr 0 0 0), (4, .ref 1 0 x.2.length), (5, .i .i64 x.1)]), [some (7, [(pT30 s)]), some (1, rows cl_ci_i64o x.2), none], []⟩ : VS)) hw_1 (Ent.to 3 (by simp [fgt]) (by first | (simp; done) | simp [pT30]) (by simp) (by simp [bndT, bndV]) (by simp [bndM, bndV])) ?_
    rintro n_1 ⟨k_8624, l8625⟩ h1
    rw [g48_L1] at h1
    refine VW.seq ?_
    refine VW.seq ?_
    refine VW.evalA (C := [(53, F53)]) (tm 107 [(1, .ptr 0 0 0), (4, .ref 1 0 l8625.length), (5, .i .i64 k_8624), (28, .b (leI 0 k_8624))]) [some (7, [(pT30 s)]), some (1, rows cl_ci_i64o l8625), none] [] ⟨.inl ok53, trivial⟩ (by kernel_rfl) (by first | (simp -implicitDefEqProofs; done) | simp -implicitDefEqProofs [pT30]) ?_
    refine VW.condB (b := leI 0 k_8624) (by simp) (fun g8626 => ?_) (fun g8626 => ?_)
    · replace h1 := iteT g8626 h1
      refine VW.skip ?_
      refine VW.join (fun (v : List (List Int)) => (⟨(tm 107 [(1, .ptr 0 0 0), (4, .ref 1 0 v.length), (5, .i .i64 k_8624)]), [some (7, [(pT30 s)]), some (1, rows cl_ci_i64o v), none], []⟩ : VS)) (fun v => (g48_j2 k_8624 (v)).bind (kN (g48_L1 s) n_1) = some w_1) ?_ ?_
      · refine VW.block ?_
        refine VW.seq ?_
        obtain ⟨u9488, q9489, h1⟩ := bindE h1
        obtain ⟨f9489a, f9489b, f9489c⟩ := mk_some q9489
        try simp only [Int.toNat_natCast, Int.reduceToNat, List.length_cons, List.length_nil, Nat.reduceAdd, Nat.zero_add] at f9489a f9489b f9489c
        obtain ⟨e9490, q9491, h1⟩ := bindE h1
        obtain ⟨f9491a, f9491b, f9491c, f9491d⟩ := idx_some q9491
        refine VW.evalA (C := [(53, F53)]) (tm 107 [(1, .ptr 0 0 0), (4, .ref 1 0 l8625.length), (5, .i .i64 k_8624)]) [some (7, [(pT30 s)]), some (1, (rows cl_ci_i64o l8625).set k_8624.toNat [.ref 3 0 (List.replicate (aI .i64 s.store_ 1).toNat 0).length]), none, some (1, rows ci_i64 (List.replicate (aI .i64 s.store_ 1).toNat 0))] [] ⟨.inl ok53, trivial⟩ (by kernel_rfl) (by first | (simp -implicitDefEqProofs [f9489a, f9489b, f9489c, f9491a, f9491b, f9491c, f9491d]; done) | simp -implicitDefEqProofs [f9489a, f9489b, f9489c, f9491a, f9491b, f9491c, f9491d, pT30]) ?_
        refine VW.seq ?_
        refine VW.evalA (C := [(53, F53)]) (tm 107 [(1, .ptr 0 0 0), (4, .ref 1 0 l8625.length), (5, .i .i64 k_8624), (42, .i .i64 ((List.replicate (aI .i64 s.store_ 1).toNat 0).length : Int)), (43, .i .i64 0)]) [some (7, [(pT30 s)]), some (1, (rows cl_ci_i64o l8625).set k_8624.toNat [.ref 3 0 (List.replicate (aI .i64 s.store_ 1).toNat 0).length]), none, some (1, rows ci_i64 (List.replicate (aI .i64 s.store_ 1).toNat 0))] [] ⟨.inl ok53, trivial⟩ (by kernel_rfl) (by first | (simp -implicitDefEqProofs [f9491a, f9491b, f9491c, f9491d]; done) | simp -implicitDefEqProofs [f9491a, f9491b, f9491c, f9491d, pT30]) ?_
        refine VW.block ?_
        obtain ⟨w_2, hw_2, h1⟩ := bindE h1
        refine VW.loopO (fun (x : Int × (List Int)) => (⟨(tm 107 [(1, .ptr 0 0 0), (4, .ref 1 0 l8625.length), (5, .i .i64 k_8624), (42, .i .i64 ((List.replicate (aI .i64 s.store_ 1).toNat 0).length : Int)), (43, .i .i64 x.1)]), [some (7, [(pT30 s)]), some (1, (rows cl_ci_i64o l8625).set k_8624.toNat [.ref 3 0 x.2.length]), none, some (1, rows ci_i64 x.2)], []⟩ : VS)) hw_2 (Ent.to 4 (by simp [fgt]) (by first | (simp; done) | simp [pT30]) (by simp) (by simp [bndT, bndV]) (by simp [bndM, bndV])) ?_
        rintro n_2 ⟨x_10062, l10063⟩ h2
        rw [g48_L2] at h2
        refine VW.seq ?_
        refine VW.evalA (C := [(53, F53)]) (tm 107 [(1, .ptr 0 0 0), (4, .ref 1 0 l8625.length), (5, .i .i64 k_8624), (42, .i .i64 ((List.replicate (aI .i64 s.store_ 1).toNat 0).length : Int)), (43, .i .i64 x_10062), (44, .b (ltI x_10062 ((List.replicate (aI .i64 s.store_ 1).toNat 0).length : Int)))]) [some (7, [(pT30 s)]), some (1, (rows cl_ci_i64o l8625).set k_8624.toNat [.ref 3 0 l10063.length]), none, some (1, rows ci_i64 l10063)] [] ⟨.inl ok53, trivial⟩ (by kernel_rfl) (by first | (simp -implicitDefEqProofs; done) | simp -implicitDefEqProofs [pT30]) ?_
        refine VW.seq ?_
        refine VW.condB (b := ltI x_10062 ((List.replicate (aI .i64 s.store_ 1).toNat 0).length : Int)) (by simp) (fun g10064 => ?_) (fun g10064 => ?_)
        · replace h2 := iteT g10064 h2
          refine VW.skip ?_
          refine VW.join (fun (v : List Int) => (⟨(tm 107 [(1, .ptr 0 0 0), (4, .ref 1 0 l8625.length), (5, .i .i64 k_8624), (42, .i .i64 ((List.replicate (aI .i64 s.store_ 1).toNat 0).length : Int)), (43, .i .i64 x_10062)]), [some (7, [(pT30 s)]), some (1, (rows cl_ci_i64o l8625).set k_8624.toNat [.ref 3 0 v.length]), none, some (1, rows ci_i64 v)], []⟩ : VS)) (fun v => (g48_j3 x_10062 (v)).bind (kN (g48_L2 s k_8624 l8625) n_2) = some w_2) ?_ ?_
          · refine VW.block ?_
            refine VW.seq ?_
            refine VW.evalA (C := [(53, F53)]) (tm 107 [(1, .ptr 0 0 0), (4, .ref 1 0 l8625.length), (5, .i .i64 k_8624), (6, .i .i64 x_10062), (42, .i .i64 ((List.replicate (aI .i64 s.store_ 1).toNat 0).length : Int)), (43, .i .i64 x_10062)]) [some (7, [(pT30 s)]), some (1, (rows cl_ci_i64o l8625).set k_8624.toNat [.ref 3 0 l10063.length]), none, some (1, rows ci_i64 l10063)] [] ⟨.inl ok53, trivial⟩ (by kernel_rfl) (by first | (simp -implicitDefEqProofs; done) | simp -implicitDefEqProofs [pT30]) ?_
            refine VW.seq ?_
            refine VW.evalA (C := [(53, F53)]) (tm 107 [(1, .ptr 0 0 0), (4, .ref 1 0 l8625.length), (5, .i .i64 k_8624), (6, .i .i64 x_10062), (7, .i .i64 (-1)), (42, .i .i64 ((List.replicate (aI .i64 s.store_ 1).toNat 0).length : Int)), (43, .i .i64 x_10062)]) [some (7, [(pT30 s)]), some (1, (rows cl_ci_i64o l8625).set k_8624.toNat [.ref 3 0 l10063.length]), none, some (1, rows ci_i64 l10063)] [] ⟨.inl ok53, trivial⟩ (by kernel_rfl) (by first | (simp -implicitDefEqProofs; done) | simp -implicitDefEqProofs [pT30]) ?_
            refine VW.join (fun (v : Int) => (⟨(tm 107 [(1, .ptr 0 0 0), (4, .ref 1 0 l8625.length), (5, .i .i64 k_8624), (6, .i .i64 x_10062), (7, .i .i64 v), (42, .i .i64 ((List.replicate (aI .i64 s.store_ 1).toNat 0).length : Int)), (43, .i .i64 x_10062)]), [some (7, [(pT30 s)]), some (1, (rows cl_ci_i64o l8625).set k_8624.toNat [.ref 3 0 l10063.length]), none, some (1, rows ci_i64 l10063)], []⟩ : VS)) (fun v => (g48_j4 l10063 x_10062 (v)).bind (kN (g48_L2 s k_8624 l8625) n_2) = some w_2) ?_ ?_
            · refine VW.seq ?_
              refine VW.evalA (C := [(53, F53)]) (tm 107 [(1, .ptr 0 0 0), (4, .ref 1 0 l8625.length), (5, .i .i64 k_8624), (6, .i .i64 x_10062), (7, .i .i64 (-1)), (42, .i .i64 ((List.replicate (aI .i64 s.store_ 1).toNat 0).length : Int)), (43, .i .i64 x_10062), (48, .i .i64 (aI .i64 s.most_ 1)), (49, .i .i64 0)]) [some (7, [(pT30 s)]), some (1, (rows cl_ci_i64o l8625).set k_8624.toNat [.ref 3 0 l10063.length]), none, some (1, rows ci_i64 l10063)] [] ⟨.inl ok53, trivial⟩ (by kernel_rfl) (by first | (simp -implicitDefEqProofs; done) | simp -implicitDefEqProofs [pT30]) ?_
              refine VW.block ?_
              obtain ⟨w_3, hw_3, h2⟩ := bindE h2
              refine VW.loopO (fun (x : Int × Int) => (⟨(tm 107 [(1, .ptr 0 0 0), (4, .ref 1 0 l8625.length), (5, .i .i64 k_8624), (6, .i .i64 x_10062), (7, .i .i64 x.1), (42, .i .i64 ((List.replicate (aI .i64 s.store_ 1).toNat 0).length : Int)), (43, .i .i64 x_10062), (48, .i .i64 (aI .i64 s.most_ 1)), (49, .i .i64 x.2)]), [some (7, [(pT30 s)]), some (1, (rows cl_ci_i64o l8625).set k_8624.toNat [.ref 3 0 l10063.length]), none, some (1, rows ci_i64 l10063)], []⟩ : VS)) hw_3 (Ent.to 4 (by simp [fgt]) (by first | (simp; done) | simp [pT30]) (by simp) (by simp [bndT, bndV]) (by simp [bndM, bndV])) ?_
              rintro n_3 ⟨best_10324, x_10325⟩ h3
              rw [g48_L3] at h3
              refine VW.seq ?_
              refine VW.evalA (C := [(53, F53)]) (tm 107 [(1, .ptr 0 0 0), (4, .ref 1 0 l8625.length), (5, .i .i64 k_8624), (6, .i .i64 x_10062), (7, .i .i64 best_10324), (42, .i .i64 ((List.replicate (aI .i64 s.store_ 1).toNat 0).length : Int)), (43, .i .i64 x_10062), (48, .i .i64 (aI .i64 s.most_ 1)), (49, .i .i64 x_10325), (50, .b (ltI x_10325 (aI .i64 s.most_ 1)))]) [some (7, [(pT30 s)]), some (1, (rows cl_ci_i64o l8625).set k_8624.toNat [.ref 3 0 l10063.length]), none, some (1, rows ci_i64 l10063)] [] ⟨.inl ok53, trivial⟩ (by kernel_rfl) (by first | (simp -implicitDefEqProofs; done) | simp -implicitDefEqProofs [pT30]) ?_
              refine VW.seq ?_
              refine VW.condB (b := ltI x_10325 (aI .i64 s.most_ 1)) (by simp) (fun g10326 => ?_) (fun g10326 => ?_)
              · replace h3 := iteT g10326 h3
                refine VW.skip ?_
                refine VW.seq ?_
                refine VW.block ?_
                refine VW.seq ?_
                refine VW.evalA (C := [(53, F53)]) (tm 107 [(1, .ptr 0 0 0), (4, .ref 1 0 l8625.length), (5, .i .i64 k_8624), (6, .i .i64 x_10062), (7, .i .i64 best_10324), (8, .i .i64 x_10325), (42, .i .i64 ((List.replicate (aI .i64 s.store_ 1).toNat 0).length : Int)), (43, .i .i64 x_10062), (48, .i .i64 (aI .i64 s.most_ 1)), (49, .i .i64 x_10325)]) [some (7, [(pT30 s)]), some (1, (rows cl_ci_i64o l8625).set k_8624.toNat [.ref 3 0 l10063.length]), none, some (1, rows ci_i64 l10063)] [] ⟨.inl ok53, trivial⟩ (by kernel_rfl) (by first | (simp -implicitDefEqProofs; done) | simp -implicitDefEqProofs [pT30]) ?_
                refine VW.seq ?_
                obtain ⟨r10327, q10328, h3⟩ := bindE h3
                have c10328 : F53 [.agg (pT30 s), .i .i64 k_8624, .i .i64 x_10062, .i .i64 x_10325] = some (.tup [.i .i64 r10327.1, .b r10327.2]) := tells_eq inj53 (a := (s, k_8624, x_10062, x_10325)) q10328
                refine VW.evalA (C := [(53, F53)]) (tm 107 [(1, .ptr 0 0 0), (4, .ref 1 0 l8625.length), (5, .i .i64 k_8624), (6, .i .i64 x_10062), (7, .i .i64 best_10324), (8, .i .i64 x_10325), (9, .i .i64 r10327.1), (10, .b r10327.2), (42, .i .i64 ((List.replicate (aI .i64 s.store_ 1).toNat 0).length : Int)), (43, .i .i64 x_10062), (48, .i .i64 (aI .i64 s.most_ 1)), (49, .i .i64 x_10325)]) [some (7, [(pT30 s)]), some (1, (rows cl_ci_i64o l8625).set k_8624.toNat [.ref 3 0 l10063.length]), none, some (1, rows ci_i64 l10063)] [] ⟨.inl ok53, trivial⟩ (by kernel_rfl) (by first | (simp -implicitDefEqProofs [c10328]; done) | simp -implicitDefEqProofs [c10328, pT30]) ?_
                refine VW.seq ?_
                refine VW.seq ?_
                obtain ⟨w10334, q10344, h3⟩ := bindE h3
                refine VW.evalA (C := [(53, F53)]) (tm 107 [(1, .ptr 0 0 0), (4, .ref 1 0 l8625.length), (5, .i .i64 k_8624), (6, .i .i64 x_10062), (7, .i .i64 best_10324), (8, .i .i64 x_10325), (9, .i .i64 r10327.1), (42, .i .i64 ((List.replicate (aI .i64 s.store_ 1).toNat 0).length : Int)), (43, .i .i64 x_10062), (48, .i .i64 (aI .i64 s.most_ 1)), (49, .i .i64 x_10325), (72, .b w10334)]) [some (7, [(pT30 s)]), some (1, (rows cl_ci_i64o l8625).set k_8624.toNat [.ref 3 0 l10063.length]), none, some (1, rows ci_i64 l10063)] [] ⟨.inl ok53, trivial⟩ (by kernel_rfl) (by
                    rcases Bool.eq_false_or_eq_true (!r10327.2) with q10345 | q10345
                    · first
                      | (simp at q10345; done)
                      | (rw [if_pos q10345] at q10344
                         have d10346 : w10334 = _ := (Option.some.inj q10344).symm
                         first | (simp -implicitDefEqProofs [q10345, d10346]; done) | simp -implicitDefEqProofs [q10345, d10346, pT30])
                    · first
                      | (simp at q10345; done)
                      | (rw [if_neg (by rw [q10345]; exact Bool.false_ne_true)] at q10344
                         obtain ⟨e10329, q10330, q10344⟩ := bindQ q10344
                         obtain ⟨f10330a, f10330b, f10330c, f10330d⟩ := idx_some q10330
                         have f10331n := succ_ne f9491a f10330a
                         obtain ⟨e10332, q10333, q10344⟩ := bindQ q10344
                         obtain ⟨f10333a, f10333b, f10333c, f10333d⟩ := idx_some q10333
                         have d10347 : w10334 = _ := (Option.some.inj q10344).symm
                         first | (simp -implicitDefEqProofs [q10345, f10330a, f10330b, f10330c, f10330d, f10331n, f10333a, f10333b, f10333c, f10333d, d10347]; done) | simp -implicitDefEqProofs [q10345, f10330a, f10330b, f10330c, f10330d, f10331n, f10333a, f10333b, f10333c, f10333d, d10347, pT30])) ?_
                refine VW.condB (b := w10334) (by simp) (fun g10335 => ?_) (fun g10335 => ?_)
                · replace h3 := iteT g10335 h3
                  refine VW.exit ?_
                  refine VW.evalA (C := [(53, F53)]) (tm 107 [(1, .ptr 0 0 0), (4, .ref 1 0 l8625.length), (5, .i .i64 k_8624), (6, .i .i64 x_10062), (7, .i .i64 best_10324), (42, .i .i64 ((List.replicate (aI .i64 s.store_ 1).toNat 0).length : Int)), (43, .i .i64 x_10062), (48, .i .i64 (aI .i64 s.most_ 1)), (49, .i .i64 (aI .i64 x_10325 1))]) [some (7, [(pT30 s)]), some (1, (rows cl_ci_i64o l8625).set k_8624.toNat [.ref 3 0 l10063.length]), none, some (1, rows ci_i64 l10063)] [] ⟨.inl ok53, trivial⟩ (by kernel_rfl) (by first | (simp -implicitDefEqProofs; done) | simp -implicitDefEqProofs [pT30]) ?_
                  exact (show ∃ _, _ from ⟨(best_10324, aI .i64 x_10325 1), leafL h3, (Ent.to 4 (by simp [fgt]) (by first | (simp; done) | simp [pT30]) (by simp) (by simp [bndT, bndV]) (by simp [bndM, bndV]))⟩)
                · replace h3 := iteF g10335 h3
                  refine VW.skip ?_
                  refine VW.seq ?_
                  obtain ⟨e10336, q10337, h3⟩ := bindE h3
                  obtain ⟨f10337a, f10337b, f10337c, f10337d⟩ := idx_some q10337
                  obtain ⟨e10338, q10339, h3⟩ := bindE h3
                  obtain ⟨f10339a, f10339b, f10339c, f10339d⟩ := idx_some q10339
                  have f10340n := succ_ne f9491a f10339a
                  obtain ⟨e10341, q10342, h3⟩ := bindE h3
                  obtain ⟨f10342a, f10342b, f10342c, f10342d⟩ := idx_some q10342
                  refine VW.evalDA (C := [(53, F53)]) (tm 107 [(1, .ptr 0 0 0), (4, .ref 1 0 l8625.length), (5, .i .i64 k_8624), (6, .i .i64 x_10062), (7, .i .i64 best_10324), (11, .i .i64 (aI .i64 (mI .i64 e10336 x_10325) e10341)), (42, .i .i64 ((List.replicate (aI .i64 s.store_ 1).toNat 0).length : Int)), (43, .i .i64 x_10062), (48, .i .i64 (aI .i64 s.most_ 1)), (49, .i .i64 x_10325)]) [some (7, [(pT30 s)]), some (1, (rows cl_ci_i64o l8625).set k_8624.toNat [.ref 3 0 l10063.length]), none, some (1, rows ci_i64 l10063)] [] ⟨.inl ok53, trivial⟩ mixed (by kernel_rfl) (by first | (simp -implicitDefEqProofs [f10337a, f10337b, f10337c, f10337d, f10339a, f10339b, f10339c, f10339d, f10340n, f10342a, f10342b, f10342c, f10342d]; done) | simp -implicitDefEqProofs [f10337a, f10337b, f10337c, f10337d, f10339a, f10339b, f10339c, f10339d, f10340n, f10342a, f10342b, f10342c, f10342d, pT30]) ?_
                  refine VW.seq ?_
                  refine VW.evalA (C := [(53, F53)]) (tm 107 [(1, .ptr 0 0 0), (4, .ref 1 0 l8625.length), (5, .i .i64 k_8624), (6, .i .i64 x_10062), (7, .i .i64 best_10324), (11, .i .i64 (aI .i64 (mI .i64 e10336 x_10325) e10341)), (42, .i .i64 ((List.replicate (aI .i64 s.store_ 1).toNat 0).length : Int)), (43, .i .i64 x_10062), (48, .i .i64 (aI .i64 s.most_ 1)), (49, .i .i64 x_10325), (95, .b (eqI best_10324 (-1) || ltI (aI .i64 (mI .i64 e10336 x_10325) e10341) best_10324))]) [some (7, [(pT30 s)]), some (1, (rows cl_ci_i64o l8625).set k_8624.toNat [.ref 3 0 l10063.length]), none, some (1, rows ci_i64 l10063)] [] ⟨.inl ok53, trivial⟩ (by kernel_rfl) (by first | (simp -implicitDefEqProofs; done) | simp -implicitDefEqProofs [pT30]) ?_
                  refine VW.condB (b := (eqI best_10324 (-1) || ltI (aI .i64 (mI .i64 e10336 x_10325) e10341) best_10324)) (by simp) (fun g10343 => ?_) (fun g10343 => ?_)
                  · replace h3 := iteT g10343 h3
                    refine VW.evalA (C := [(53, F53)]) (tm 107 [(1, .ptr 0 0 0), (4, .ref 1 0 l8625.length), (5, .i .i64 k_8624), (6, .i .i64 x_10062), (7, .i .i64 (aI .i64 (mI .i64 e10336 x_10325) e10341)), (42, .i .i64 ((List.replicate (aI .i64 s.store_ 1).toNat 0).length : Int)), (43, .i .i64 x_10062), (48, .i .i64 (aI .i64 s.most_ 1)), (49, .i .i64 x_10325)]) [some (7, [(pT30 s)]), some (1, (rows cl_ci_i64o l8625).set k_8624.toNat [.ref 3 0 l10063.length]), none, some (1, rows ci_i64 l10063)] [] ⟨.inl ok53, trivial⟩ (by kernel_rfl) (by first | (simp -implicitDefEqProofs; done) | simp -implicitDefEqProofs [pT30]) ?_
                    refine VW.evalA (C := [(53, F53)]) (tm 107 [(1, .ptr 0 0 0), (4, .ref 1 0 l8625.length), (5, .i .i64 k_8624), (6, .i .i64 x_10062), (7, .i .i64 (aI .i64 (mI .i64 e10336 x_10325) e10341)), (42, .i .i64 ((List.replicate (aI .i64 s.store_ 1).toNat 0).length : Int)), (43, .i .i64 x_10062), (48, .i .i64 (aI .i64 s.most_ 1)), (49, .i .i64 (aI .i64 x_10325 1))]) [some (7, [(pT30 s)]), some (1, (rows cl_ci_i64o l8625).set k_8624.toNat [.ref 3 0 l10063.length]), none, some (1, rows ci_i64 l10063)] [] ⟨.inl ok53, trivial⟩ (by kernel_rfl) (by first | (simp -implicitDefEqProofs; done) | simp -implicitDefEqProofs [pT30]) ?_
                    exact (show ∃ _, _ from ⟨(aI .i64 (mI .i64 e10336 x_10325) e10341, aI .i64 x_10325 1), leafL h3, (Ent.to 4 (by simp [fgt]) (by first | (simp; done) | simp [pT30]) (by simp) (by simp [bndT, bndV]) (by simp [bndM, bndV]))⟩)
                  · replace h3 := iteF g10343 h3
                    refine VW.skip ?_
                    refine VW.evalA (C := [(53, F53)]) (tm 107 [(1, .ptr 0 0 0), (4, .ref 1 0 l8625.length), (5, .i .i64 k_8624), (6, .i .i64 x_10062), (7, .i .i64 best_10324), (42, .i .i64 ((List.replicate (aI .i64 s.store_ 1).toNat 0).length : Int)), (43, .i .i64 x_10062), (48, .i .i64 (aI .i64 s.most_ 1)), (49, .i .i64 (aI .i64 x_10325 1))]) [some (7, [(pT30 s)]), some (1, (rows cl_ci_i64o l8625).set k_8624.toNat [.ref 3 0 l10063.length]), none, some (1, rows ci_i64 l10063)] [] ⟨.inl ok53, trivial⟩ (by kernel_rfl) (by first | (simp -implicitDefEqProofs; done) | simp -implicitDefEqProofs [pT30]) ?_
                    exact (show ∃ _, _ from ⟨(best_10324, aI .i64 x_10325 1), leafL h3, (Ent.to 4 (by simp [fgt]) (by first | (simp; done) | simp [pT30]) (by simp) (by simp [bndT, bndV]) (by simp [bndM, bndV]))⟩)
              · replace h3 := iteF g10326 h3
                refine VW.exit ?_
                have e_ := leafR h3
                subst w_3
                exact (show ∃ _, _ from ⟨best_10324, h2, (Ent.to 4 (by simp [fgt]) (by first | (simp; done) | simp [pT30]) (by simp) (by simp [bndT, bndV]) (by simp [bndM, bndV]))⟩)
            · rintro best_10276 h2
              replace h2 : (g48_j4 l10063 x_10062 best_10276).bind _ = _ := h2
              rw [g48_j4] at h2
              obtain ⟨e10277, q10278, h2⟩ := bindE h2
              obtain ⟨f10278a, f10278b, f10278c, f10278d⟩ := idx_some q10278
              refine VW.evalA (C := [(53, F53)]) (tm 107 [(1, .ptr 0 0 0), (4, .ref 1 0 l8625.length), (5, .i .i64 k_8624), (42, .i .i64 ((List.replicate (aI .i64 s.store_ 1).toNat 0).length : Int)), (43, .i .i64 x_10062)]) [some (7, [(pT30 s)]), some (1, (rows cl_ci_i64o l8625).set k_8624.toNat [.ref 3 0 (l10063.set x_10062.toNat best_10276).length]), none, some (1, rows ci_i64 (l10063.set x_10062.toNat best_10276))] [] ⟨.inl ok53, trivial⟩ (by kernel_rfl) (by first | (simp -implicitDefEqProofs [f10278a, f10278b, f10278c, f10278d, f9491a, f9491b, f9491c, f9491d]; done) | simp -implicitDefEqProofs [f10278a, f10278b, f10278c, f10278d, f9491a, f9491b, f9491c, f9491d, pT30]) ?_
              exact (show ∃ _, _ from ⟨(l10063.set x_10062.toNat best_10276), h2, (Ent.to 4 (by simp [fgt]) (by first | (simp; done) | simp [pT30]) (by simp) (by simp [bndT, bndV]) (by simp [bndM, bndV]))⟩)
          · rintro l10206 h2
            replace h2 : (g48_j3 x_10062 l10206).bind _ = _ := h2
            rw [g48_j3] at h2
            refine VW.evalA (C := [(53, F53)]) (tm 107 [(1, .ptr 0 0 0), (4, .ref 1 0 l8625.length), (5, .i .i64 k_8624), (42, .i .i64 ((List.replicate (aI .i64 s.store_ 1).toNat 0).length : Int)), (43, .i .i64 (aI .i64 x_10062 1))]) [some (7, [(pT30 s)]), some (1, (rows cl_ci_i64o l8625).set k_8624.toNat [.ref 3 0 l10206.length]), none, some (1, rows ci_i64 l10206)] [] ⟨.inl ok53, trivial⟩ (by kernel_rfl) (by first | (simp -implicitDefEqProofs; done) | simp -implicitDefEqProofs [pT30]) ?_
            exact (show ∃ _, _ from ⟨(aI .i64 x_10062 1, l10206), leafL h2, (Ent.to 4 (by simp [fgt]) (by first | (simp; done) | simp [pT30]) (by simp) (by simp [bndT, bndV]) (by simp [bndM, bndV]))⟩)
        · replace h2 := iteF g10064 h2
          refine VW.exit ?_
          have e_ := leafR h2
          subst w_2
          exact (show ∃ _, _ from ⟨(l8625.set k_8624.toNat l10063), h1, (Ent.trans (Ent.absorb (m := [some (7, [(pT30 s)]), some (1, (rows cl_ci_i64o l8625).set k_8624.toNat [.ref 3 0 l10063.length]), none, some (1, rows ci_i64 l10063)]) (n := 1) (n' := 1) (es := (rows cl_ci_i64o l8625).set k_8624.toNat [.ref 3 0 l10063.length]) (es' := rows ci_i64 l10063) (cs := [.ref 3 0 l10063.length]) 1 k_8624.toNat 0 3 l10063.length [some (7, [(pT30 s)]), some (1, rows cl_ci_i64o (l8625.set k_8624.toNat l10063)), none, none] rfl (by simp [f9491a, f9491b, f9491c, f9491d]) rfl rfl (by decide) (by simp) (by simp) (by simp)) (Ent.to 3 (by simp [fgt]) (by first | (simp; done) | simp [pT30]) (by simp) (by simp [bndT, bndV]) (by simp [bndM, bndV])))⟩)
      · rintro l9487 h1
        replace h1 : (g48_j2 k_8624 l9487).bind _ = _ := h1
        rw [g48_j2] at h1
        refine VW.evalA (C := [(53, F53)]) (tm 107 [(1, .ptr 0 0 0), (4, .ref 1 0 l9487.length), (5, .i .i64 (sI .i64 k_8624 1))]) [some (7, [(pT30 s)]), some (1, rows cl_ci_i64o l9487), none] [] ⟨.inl ok53, trivial⟩ (by kernel_rfl) (by first | (simp -implicitDefEqProofs; done) | simp -implicitDefEqProofs [pT30]) ?_
        exact (show ∃ _, _ from ⟨(sI .i64 k_8624 1, l9487), leafL h1, (Ent.to 3 (by simp [fgt]) (by first | (simp; done) | simp [pT30]) (by simp) (by simp [bndT, bndV]) (by simp [bndM, bndV]))⟩)
    · replace h1 := iteF g8626 h1
      refine VW.exit ?_
      have e_ := leafR h1
      subst w_1
      exact (show ∃ _, _ from ⟨l8625, h, (Ent.to 3 (by simp [fgt]) (by first | (simp; done) | simp [pT30]) (by simp) (by simp [bndT, bndV]) (by simp [bndM, bndV]))⟩)
  · rintro l5177 h
    replace h : (g48_j1 l5177).bind _ = _ := h
    rw [g48_j1] at h
    refine VW.seq ?_
    refine VW.evalA (C := [(53, F53)]) (tm 107 [(2, .ref 1 0 l5177.length)]) [some (7, [(pT30 s)]), some (1, rows cl_ci_i64o l5177), none] [] ⟨.inl ok53, trivial⟩ (by kernel_rfl) (by first | (simp -implicitDefEqProofs; done) | simp -implicitDefEqProofs [pT30]) ?_
    obtain rfl := leafS h
    refine VW.ret (VRet.fin ?_)
    first | (simp [eB48]; done) | simp [eB48, pT30]
noncomputable def g25 (s : T30) (slot : Int) : Option (Int × Int) :=
  (g42 s).bind fun r1 =>
  if (!r1) = true then
    some (0, 1)
  else
    (if (ltI slot 0 || leI (s.need_.length : Int) slot) = true then some true else (idx s.need_ slot).bind fun e4 => some (eqI e4 200)).bind fun w6 =>
    if w6 = true then
      some (0, 2)
    else
      (g48 s).bind fun r8 =>
      (idx r8 0).bind fun e10 =>
      (idx e10 s.first_).bind fun e12 =>
      if eqI e12 (-1) = true then
        some (0, 6)
      else
        (appK 8 [] s.need_).bind fun u15 =>
        (idx s.need_ slot).bind fun e17 =>
        (g48 (⟨(s.need_.set slot.toNat (aI .i64 e17 1)), s.price_, s.most_, s.yield_, s.store_, s.first_, s.loss_⟩ : T30)).bind fun r19 =>
        (idx r19 0).bind fun e21 =>
        (idx e21 s.first_).bind fun e23 =>
        if eqI e23 (-1) = true then
          some (0, 4)
        else
          some (sI .i64 e23 e12, 0)
def eA25 (a : T30 × Int) : List V := [.agg (pT30 a.1), .i .i64 a.2]
def eB25 (r : Int × Int) : V := .tup [.i .i64 r.1, .i .i64 r.2]
theorem inj25 (a a' : T30 × Int) (h : eA25 a = eA25 a') : a = a' := by
  obtain ⟨⟨i89, i90, i91, i92, i93, i94, i95⟩, i96⟩ := a
  obtain ⟨⟨i97, i98, i99, i100, i101, i102, i103⟩, i104⟩ := a'
  simp only [eA25, pT30, List.cons.injEq, V.i.injEq, V.b.injEq, V.f.injEq, V.str.injEq, V.sl.injEq, V.agg.injEq, V.cptr.injEq, true_and, and_true] at h
  simp_all [ri ci_i64_inj]
noncomputable def F25 : List V → Option V := tells (fun a => g25 a.1 a.2) eA25 eB25
set_option maxRecDepth 100000 in
set_option maxHeartbeats 4000000 in
/- loop.example/g01229/impl.MarginOf -/
theorem ok25 : Tells Try.prog 25 F25 := by
  refine Tells.of (by kernel_rfl) ?_
  rintro ⟨s, slot⟩ r h
  refine VCalls.nl (VCalls.of Try.func25 rfl rfl rfl ?_)
  rw [tm_init]
  simp only [eA25, en, List.length_cons, List.length_nil, Nat.reduceAdd, Nat.reduceSub]
  replace h : (g25 s slot).bind some = some r := bindS h
  rw [g25] at h
  refine VW.seq ?_
  refine VW.evalA (C := [(42, F42), (48, F48)]) (tm 65 [(1, .i .i64 slot), (2, .ptr 0 0 0)]) [some (7, [(pT30 s)])] [] ⟨.inl ok42, .inl ok48, trivial⟩ (by kernel_rfl) (by first | (simp -implicitDefEqProofs; done) | simp -implicitDefEqProofs [pT30]) ?_
  refine VW.seq ?_
  refine VW.block ?_
  refine VW.seq ?_
  obtain ⟨r1, q2, h⟩ := bindE h
  have c2 : F42 [.agg (pT30 s)] = some (.b r1) := tells_eq inj42 (a := s) q2
  refine VW.evalA (C := [(42, F42), (48, F48)]) (tm 65 [(1, .i .i64 slot), (2, .ptr 0 0 0), (8, .b (!r1))]) [some (7, [(pT30 s)])] [] ⟨.inl ok42, .inl ok48, trivial⟩ (by kernel_rfl) (by first | (simp -implicitDefEqProofs [c2]; done) | simp -implicitDefEqProofs [c2, pT30]) ?_
  refine VW.condB (b := (!r1)) (by simp) (fun g3 => ?_) (fun g3 => ?_)
  · replace h := iteT g3 h
    refine VW.seq ?_
    refine VW.evalA (C := [(42, F42), (48, F48)]) (tm 65 [(4, .i .i64 0), (5, .i .i64 1)]) [some (7, [(pT30 s)])] [] ⟨.inl ok42, .inl ok48, trivial⟩ (by kernel_rfl) (by first | (simp -implicitDefEqProofs; done) | simp -implicitDefEqProofs [pT30]) ?_
    obtain rfl := leafS h
    refine VW.ret (VRet.fin ?_)
    first | (simp [eB25]; done) | simp [eB25, pT30]
  · replace h := iteF g3 h
    refine VW.seq ?_
    obtain ⟨w6, q26, h⟩ := bindE h
    refine VW.evalA (C := [(42, F42), (48, F48)]) (tm 65 [(1, .i .i64 slot), (2, .ptr 0 0 0), (12, .b w6)]) [some (7, [(pT30 s)])] [] ⟨.inl ok42, .inl ok48, trivial⟩ (by kernel_rfl) (by
        rcases Bool.eq_false_or_eq_true (ltI slot 0 || leI (s.need_.length : Int) slot) with q27 | q27
        · first
          | (simp at q27; done)
          | (rw [if_pos q27] at q26
             have d28 : w6 = _ := (Option.some.inj q26).symm
             first | (simp -implicitDefEqProofs [q27, d28]; done) | simp -implicitDefEqProofs [q27, d28, pT30])
        · first
          | (simp at q27; done)
          | (rw [if_neg (by rw [q27]; exact Bool.false_ne_true)] at q26
             obtain ⟨e4, q5, q26⟩ := bindQ q26
             obtain ⟨f5a, f5b, f5c, f5d⟩ := idx_some q5
             have d29 : w6 = _ := (Option.some.inj q26).symm
             first | (simp -implicitDefEqProofs [q27, f5a, f5b, f5c, f5d, d29]; done) | simp -implicitDefEqProofs [q27, f5a, f5b, f5c, f5d, d29, pT30])) ?_
    refine VW.condB (b := w6) (by simp) (fun g7 => ?_) (fun g7 => ?_)
    · replace h := iteT g7 h
      refine VW.seq ?_
      refine VW.evalA (C := [(42, F42), (48, F48)]) (tm 65 [(4, .i .i64 0), (5, .i .i64 2)]) [some (7, [(pT30 s)])] [] ⟨.inl ok42, .inl ok48, trivial⟩ (by kernel_rfl) (by first | (simp -implicitDefEqProofs; done) | simp -implicitDefEqProofs [pT30]) ?_
      obtain rfl := leafS h
      refine VW.ret (VRet.fin ?_)
      first | (simp [eB25]; done) | simp [eB25, pT30]
    · replace h := iteF g7 h
      refine VW.skip ?_
      refine VW.seq ?_
      obtain ⟨r8, q9, h⟩ := bindE h
      have c9 : F48 [.agg (pT30 s)] = some (.own 1 (rows cl_ci_i64o r8)) := tells_eq inj48 (a := s) q9
      obtain ⟨e10, q11, h⟩ := bindE h
      obtain ⟨f11a, f11b, f11c, f11d⟩ := idx_some q11
      try simp only [Int.toNat_natCast, Int.reduceToNat] at f11a f11b f11c f11d
      obtain ⟨e12, q13, h⟩ := bindE h
      obtain ⟨f13a, f13b, f13c, f13d⟩ := idx_some q13
      refine VW.evalDA (C := [(42, F42), (48, F48)]) (tm 65 [(1, .i .i64 slot), (2, .ptr 0 0 0), (6, .i .i64 e12)]) [some (7, [(pT30 s)]), some (1, rows cl_ci_i64o r8)] [] ⟨.inl ok42, .inl ok48, trivial⟩ mixed (by kernel_rfl) (by first | (simp -implicitDefEqProofs [c9, f11a, f11b, f11c, f11d, f13a, f13b, f13c, f13d]; done) | simp -implicitDefEqProofs [c9, f11a, f11b, f11c, f11d, f13a, f13b, f13c, f13d, pT30]) ?_
      refine VW.seq ?_
      refine VW.seq ?_
      refine VW.evalA (C := [(42, F42), (48, F48)]) (tm 65 [(1, .i .i64 slot), (2, .ptr 0 0 0), (6, .i .i64 e12), (39, .b (eqI e12 (-1)))]) [some (7, [(pT30 s)]), some (1, rows cl_ci_i64o r8)] [] ⟨.inl ok42, .inl ok48, trivial⟩ (by kernel_rfl) (by first | (simp -implicitDefEqProofs; done) | simp -implicitDefEqProofs [pT30]) ?_
      refine VW.condB (b := eqI e12 (-1)) (by simp) (fun g14 => ?_) (fun g14 => ?_)
      · replace h := iteT g14 h
        refine VW.seq ?_
        refine VW.evalA (C := [(42, F42), (48, F48)]) (tm 65 [(4, .i .i64 0), (5, .i .i64 6)]) [some (7, [(pT30 s)]), some (1, rows cl_ci_i64o r8)] [] ⟨.inl ok42, .inl ok48, trivial⟩ (by kernel_rfl) (by first | (simp -implicitDefEqProofs; done) | simp -implicitDefEqProofs [pT30]) ?_
        obtain rfl := leafS h
        refine VW.ret (VRet.fin ?_)
        first | (simp [eB25]; done) | simp [eB25, pT30]
      · replace h := iteF g14 h
        refine VW.skip ?_
        refine VW.seq ?_
        obtain ⟨u15, q16, h⟩ := bindE h
        obtain ⟨f16a, f16b⟩ := appK_some q16
        try simp only [Int.toNat_natCast, Int.reduceToNat, List.length_cons, List.length_nil, Nat.reduceAdd, Nat.zero_add] at f16a f16b
        refine VW.evalA (C := [(42, F42), (48, F48)]) (tm 65 [(1, .i .i64 slot), (2, .ptr 0 0 0), (6, .i .i64 e12)]) [some (7, [[.ref 2 0 s.need_.length, .sl 1 (rows ci_i64 s.price_), .i .i64 s.most_, .i .i64 s.yield_, .i .i64 s.store_, .i .i64 s.first_, .i .i64 s.loss_]]), some (1, rows cl_ci_i64o r8), some (1, rows ci_i64 s.need_)] [] ⟨.inl ok42, .inl ok48, trivial⟩ (by kernel_rfl) (by simp -implicitDefEqProofs [f16a, f16b, pT30]) ?_
        refine VW.seq ?_
        obtain ⟨e17, q18, h⟩ := bindE h
        obtain ⟨f18a, f18b, f18c, f18d⟩ := idx_some q18
        refine VW.evalA (C := [(42, F42), (48, F48)]) (tm 65 [(2, .ptr 0 0 0), (6, .i .i64 e12)]) [some (7, [[.ref 2 0 (s.need_.set slot.toNat (aI .i64 e17 1)).length, .sl 1 (rows ci_i64 s.price_), .i .i64 s.most_, .i .i64 s.yield_, .i .i64 s.store_, .i .i64 s.first_, .i .i64 s.loss_]]), some (1, rows cl_ci_i64o r8), some (1, rows ci_i64 (s.need_.set slot.toNat (aI .i64 e17 1)))] [] ⟨.inl ok42, .inl ok48, trivial⟩ (by kernel_rfl) (by first | (simp -implicitDefEqProofs [f18a, f18b, f18c, f18d]; done) | simp -implicitDefEqProofs [f18a, f18b, f18c, f18d, pT30]) ?_
        refine VW.seq ?_
        obtain ⟨r19, q20, h⟩ := bindE h
        have c20 : F48 [.agg [.sl 1 (rows ci_i64 ((⟨(s.need_.set slot.toNat (aI .i64 e17 1)), s.price_, s.most_, s.yield_, s.store_, s.first_, s.loss_⟩ : T30).need_)), .sl 1 (rows ci_i64 ((⟨(s.need_.set slot.toNat (aI .i64 e17 1)), s.price_, s.most_, s.yield_, s.store_, s.first_, s.loss_⟩ : T30).price_)), .i .i64 ((⟨(s.need_.set slot.toNat (aI .i64 e17 1)), s.price_, s.most_, s.yield_, s.store_, s.first_, s.loss_⟩ : T30).most_), .i .i64 ((⟨(s.need_.set slot.toNat (aI .i64 e17 1)), s.price_, s.most_, s.yield_, s.store_, s.first_, s.loss_⟩ : T30).yield_), .i .i64 ((⟨(s.need_.set slot.toNat (aI .i64 e17 1)), s.price_, s.most_, s.yield_, s.store_, s.first_, s.loss_⟩ : T30).store_), .i .i64 ((⟨(s.need_.set slot.toNat (aI .i64 e17 1)), s.price_, s.most_, s.yield_, s.store_, s.first_, s.loss_⟩ : T30).first_), .i .i64 ((⟨(s.need_.set slot.toNat (aI .i64 e17 1)), s.price_, s.most_, s.yield_, s.store_, s.first_, s.loss_⟩ : T30).loss_)]] = some (.own 1 (rows cl_ci_i64o r19)) := tells_eq inj48 (a := (⟨(s.need_.set slot.toNat (aI .i64 e17 1)), s.price_, s.most_, s.yield_, s.store_, s.first_, s.loss_⟩ : T30)) q20
        obtain ⟨e21, q22, h⟩ := bindE h
        obtain ⟨f22a, f22b, f22c, f22d⟩ := idx_some q22
        try simp only [Int.toNat_natCast, Int.reduceToNat] at f22a f22b f22c f22d
        obtain ⟨e23, q24, h⟩ := bindE h
        obtain ⟨f24a, f24b, f24c, f24d⟩ := idx_some q24
        refine VW.evalDA (C := [(42, F42), (48, F48)]) (tm 65 [(6, .i .i64 e12), (7, .i .i64 e23)]) [some (7, [[.ref 2 0 (s.need_.set slot.toNat (aI .i64 e17 1)).length, .sl 1 (rows ci_i64 s.price_), .i .i64 s.most_, .i .i64 s.yield_, .i .i64 s.store_, .i .i64 s.first_, .i .i64 s.loss_]]), some (1, rows cl_ci_i64o r8), some (1, rows ci_i64 (s.need_.set slot.toNat (aI .i64 e17 1))), some (1, rows cl_ci_i64o r19)] [] ⟨.inl ok42, .inl ok48, trivial⟩ mixed (by kernel_rfl) (by first | (simp -implicitDefEqProofs [c20, f22a, f22b, f22c, f22d, f24a, f24b, f24c, f24d]; done) | simp -implicitDefEqProofs [c20, f22a, f22b, f22c, f22d, f24a, f24b, f24c, f24d, pT30]) ?_
        refine VW.seq ?_
        refine VW.seq ?_
        refine VW.evalA (C := [(42, F42), (48, F48)]) (tm 65 [(6, .i .i64 e12), (7, .i .i64 e23), (61, .b (eqI e23 (-1)))]) [some (7, [[.ref 2 0 (s.need_.set slot.toNat (aI .i64 e17 1)).length, .sl 1 (rows ci_i64 s.price_), .i .i64 s.most_, .i .i64 s.yield_, .i .i64 s.store_, .i .i64 s.first_, .i .i64 s.loss_]]), some (1, rows cl_ci_i64o r8), some (1, rows ci_i64 (s.need_.set slot.toNat (aI .i64 e17 1))), some (1, rows cl_ci_i64o r19)] [] ⟨.inl ok42, .inl ok48, trivial⟩ (by kernel_rfl) (by first | (simp -implicitDefEqProofs; done) | simp -implicitDefEqProofs [pT30]) ?_
        refine VW.condB (b := eqI e23 (-1)) (by simp) (fun g25 => ?_) (fun g25 => ?_)
        · replace h := iteT g25 h
          refine VW.seq ?_
          refine VW.evalA (C := [(42, F42), (48, F48)]) (tm 65 [(4, .i .i64 0), (5, .i .i64 4)]) [some (7, [[.ref 2 0 (s.need_.set slot.toNat (aI .i64 e17 1)).length, .sl 1 (rows ci_i64 s.price_), .i .i64 s.most_, .i .i64 s.yield_, .i .i64 s.store_, .i .i64 s.first_, .i .i64 s.loss_]]), some (1, rows cl_ci_i64o r8), some (1, rows ci_i64 (s.need_.set slot.toNat (aI .i64 e17 1))), some (1, rows cl_ci_i64o r19)] [] ⟨.inl ok42, .inl ok48, trivial⟩ (by kernel_rfl) (by first | (simp -implicitDefEqProofs; done) | simp -implicitDefEqProofs [pT30]) ?_
          obtain rfl := leafS h
          refine VW.ret (VRet.fin ?_)
          first | (simp [eB25]; done) | simp [eB25, pT30]
        · replace h := iteF g25 h
          refine VW.skip ?_
          refine VW.seq ?_
          refine VW.evalA (C := [(42, F42), (48, F48)]) (tm 65 [(4, .i .i64 (sI .i64 e23 e12)), (5, .i .i64 0)]) [some (7, [[.ref 2 0 (s.need_.set slot.toNat (aI .i64 e17 1)).length, .sl 1 (rows ci_i64 s.price_), .i .i64 s.most_, .i .i64 s.yield_, .i .i64 s.store_, .i .i64 s.first_, .i .i64 s.loss_]]), some (1, rows cl_ci_i64o r8), some (1, rows ci_i64 (s.need_.set slot.toNat (aI .i64 e17 1))), some (1, rows cl_ci_i64o r19)] [] ⟨.inl ok42, .inl ok48, trivial⟩ (by kernel_rfl) (by first | (simp -implicitDefEqProofs; done) | simp -implicitDefEqProofs [pT30]) ?_
          obtain rfl := leafS h
          refine VW.ret (VRet.fin ?_)
          first | (simp [eB25]; done) | simp [eB25, pT30]
noncomputable def g51 (n : Int) (low : Int) (high : Int) : Option (Bool) :=
  some (leI low n && leI n high)
def eA51 (a : Int × Int × Int) : List V := [.i .i64 a.1, .i .i64 a.2.1, .i .i64 a.2.2]
def eB51 (r : Bool) : V := .b r
theorem inj51 (a a' : Int × Int × Int) (h : eA51 a = eA51 a') : a = a' := by
  obtain ⟨i105, i106, i107⟩ := a
  obtain ⟨i108, i109, i110⟩ := a'
  simp only [eA51, List.cons.injEq, V.i.injEq, V.b.injEq, V.f.injEq, V.str.injEq, V.sl.injEq, V.agg.injEq, V.cptr.injEq, true_and, and_true] at h
  simp_all
noncomputable def F51 : List V → Option V := tells (fun a => g51 a.1 a.2.1 a.2.2) eA51 eB51
set_option maxRecDepth 100000 in
set_option maxHeartbeats 4000000 in
/- loop.example/g01229/spec.l00In -/
theorem ok51 : Tells Try.prog 51 F51 := by
  refine Tells.of (by kernel_rfl) ?_
  rintro ⟨n, low, high⟩ r h
  refine VCalls.nl (VCalls.of Try.func51 rfl rfl rfl ?_)
  rw [tm_init]
  simp only [eA51, en, List.length_cons, List.length_nil, Nat.reduceAdd, Nat.reduceSub]
  replace h : (g51 n low high).bind some = some r := bindS h
  rw [g51] at h
  refine VW.seq ?_
  refine VW.evalA (C := []) (tm 15 [(0, .i .i64 n), (1, .i .i64 low), (2, .i .i64 high)]) [] [] trivial (by kernel_rfl) (by simp -implicitDefEqProofs) ?_
  refine VW.seq ?_
  refine VW.evalA (C := []) (tm 15 [(6, .b (leI low n && leI n high))]) [] [] trivial (by kernel_rfl) (by simp -implicitDefEqProofs) ?_
  obtain rfl := leafS h
  refine VW.ret (VRet.fin ?_)
  simp [eB51]
noncomputable def g57_j1 : Option (Bool) :=
  some true
noncomputable def g57_L1 (list : List Int) (most : Int) : (Int) → Option ((Int) ⊕ ((Unit) ⊕ (Bool)))
  | i_34 =>
    if ltI i_34 (list.length : Int) = true then
      (idx list i_34).bind fun e36 =>
      (g51 e36 0 most).bind fun r38 =>
      if (!r38) = true then
        some (.inr (.inr false))
      else
        some (.inl (aI .i64 i_34 1))
    else
      some (.inr (.inl ()))
noncomputable def g57 (list : List Int) (most : Int) : Option (Bool) :=
  (loopO (g57_L1 list most) 0).bind fun w => match w with
    | .inl y => g57_j1
    | .inr r => some r
def eA57 (a : (List Int) × Int) : List V := [.sl 1 (rows ci_i64 a.1), .i .i64 a.2]
def eB57 (r : Bool) : V := .b r
theorem inj57 (a a' : (List Int) × Int) (h : eA57 a = eA57 a') : a = a' := by
  obtain ⟨i111, i112⟩ := a
  obtain ⟨i113, i114⟩ := a'
  simp only [eA57, List.cons.injEq, V.i.injEq, V.b.injEq, V.f.injEq, V.str.injEq, V.sl.injEq, V.agg.injEq, V.cptr.injEq, true_and, and_true] at h
  simp_all [ri ci_i64_inj]
noncomputable def F57 : List V → Option V := tells (fun a => g57 a.1 a.2) eA57 eB57
set_option maxRecDepth 100000 in
set_option maxHeartbeats 4000000 in
/- loop.example/g01229/spec.l07Bounded -/
theorem ok57 : Tells Try.prog 57 F57 := by
  refine Tells.of (by kernel_rfl) ?_
  rintro ⟨list, most⟩ r h
  refine VCalls.nl (VCalls.of Try.func57 rfl rfl rfl ?_)
  rw [tm_init]
  simp only [eA57, en, List.length_cons, List.length_nil, Nat.reduceAdd, Nat.reduceSub]
  replace h : (g57 list most).bind some = some r := bindS h
  rw [g57] at h
  refine VW.seq ?_
  refine VW.evalA (C := [(51, F51)]) (tm 19 [(0, .sl 1 (rows ci_i64 list)), (1, .i .i64 most)]) [] [] ⟨.inl ok51, trivial⟩ (by kernel_rfl) (by simp -implicitDefEqProofs) ?_
  refine VW.join (fun (v : Unit) => (⟨(tm 19 []), [], []⟩ : VS)) (fun v => (g57_j1).bind some = some r) ?_ ?_
  · refine VW.seq ?_
    refine VW.evalA (C := [(51, F51)]) (tm 19 [(0, .sl 1 (rows ci_i64 list)), (1, .i .i64 most), (5, .i .i64 0)]) [] [] ⟨.inl ok51, trivial⟩ (by kernel_rfl) (by simp -implicitDefEqProofs) ?_
    refine VW.block ?_
    obtain ⟨w_1, hw_1, h⟩ := bindE h
    refine VW.loopO (fun (x : Int) => (⟨(tm 19 [(0, .sl 1 (rows ci_i64 list)), (1, .i .i64 most), (5, .i .i64 x)]), [], []⟩ : VS)) hw_1 (Ent.to 0 (by simp [fgt]) (by simp) (by simp) (by simp [bndT, bndV]) (by simp [bndM, bndV])) ?_
    rintro n_1 i_34 h1
    rw [g57_L1] at h1
    refine VW.seq ?_
    refine VW.seq ?_
    refine VW.evalA (C := [(51, F51)]) (tm 19 [(0, .sl 1 (rows ci_i64 list)), (1, .i .i64 most), (5, .i .i64 i_34), (9, .b (ltI i_34 (list.length : Int)))]) [] [] ⟨.inl ok51, trivial⟩ (by kernel_rfl) (by simp -implicitDefEqProofs) ?_
    refine VW.condB (b := ltI i_34 (list.length : Int)) (by simp) (fun g35 => ?_) (fun g35 => ?_)
    · replace h1 := iteT g35 h1
      refine VW.skip ?_
      refine VW.seq ?_
      refine VW.block ?_
      refine VW.seq ?_
      obtain ⟨e36, q37, h1⟩ := bindE h1
      obtain ⟨f37a, f37b, f37c, f37d⟩ := idx_some q37
      obtain ⟨r38, q39, h1⟩ := bindE h1
      have c39 : F51 [.i .i64 e36, .i .i64 0, .i .i64 most] = some (.b r38) := tells_eq inj51 (a := (e36, 0, most)) q39
      refine VW.evalA (C := [(51, F51)]) (tm 19 [(0, .sl 1 (rows ci_i64 list)), (1, .i .i64 most), (5, .i .i64 i_34), (18, .b (!r38))]) [] [] ⟨.inl ok51, trivial⟩ (by kernel_rfl) (by simp -implicitDefEqProofs [f37a, f37b, f37c, f37d, c39]) ?_
      refine VW.condB (b := (!r38)) (by simp) (fun g40 => ?_) (fun g40 => ?_)
      · replace h1 := iteT g40 h1
        refine VW.seq ?_
        refine VW.evalA (C := [(51, F51)]) (tm 19 [(4, .b false)]) [] [] ⟨.inl ok51, trivial⟩ (by kernel_rfl) (by simp -implicitDefEqProofs) ?_
        have e_ := leafR h1
        subst w_1
        obtain rfl := leafS h
        refine VW.ret (VRet.fin ?_)
        simp [eB57]
      · replace h1 := iteF g40 h1
        refine VW.skip ?_
        refine VW.evalA (C := [(51, F51)]) (tm 19 [(0, .sl 1 (rows ci_i64 list)), (1, .i .i64 most), (5, .i .i64 (aI .i64 i_34 1))]) [] [] ⟨.inl ok51, trivial⟩ (by kernel_rfl) (by simp -implicitDefEqProofs) ?_
        exact (show ∃ _, _ from ⟨aI .i64 i_34 1, leafL h1, (Ent.to 0 (by simp [fgt]) (by simp) (by simp) (by simp [bndT, bndV]) (by simp [bndM, bndV]))⟩)
    · replace h1 := iteF g35 h1
      refine VW.exit ?_
      have e_ := leafR h1
      subst w_1
      exact (show ∃ _, _ from ⟨(), h, (Ent.to 0 (by simp [fgt]) (by simp) (by simp) (by simp [bndT, bndV]) (by simp [bndM, bndV]))⟩)
  · rintro _ h
    replace h : (g57_j1).bind _ = _ := h
    rw [g57_j1] at h
    refine VW.seq ?_
    refine VW.evalA (C := [(51, F51)]) (tm 19 [(4, .b true)]) [] [] ⟨.inl ok51, trivial⟩ (by kernel_rfl) (by simp -implicitDefEqProofs) ?_
    obtain rfl := leafS h
    refine VW.ret (VRet.fin ?_)
    simp [eB57]
end Go.Proofs.Ytiiejiobkfakeaa
