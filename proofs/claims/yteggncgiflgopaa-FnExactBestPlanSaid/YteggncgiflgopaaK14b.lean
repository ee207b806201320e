/- Contracts of the functions that the law reaches: what each tells, as a function in Lean. -/
import Derived.Test.YteggncgiflgopaaK14a
import Derived.KernelRfl
namespace Go.Proofs.Yteggncgiflgopaa
open Go.RowKit Go.VL
set_option linter.unusedSimpArgs false
set_option linter.unusedVariables false
noncomputable def g56 (s : T24) (slot : Int) (store : Int) (logs : Int) : Option (Int × Bool) :=
  (idx s.need_ slot).bind fun e1 =>
  if ltI (sI .i64 (aI .i64 store (mI .i64 logs s.yield_)) e1) 0 = true then
    some (0, false)
  else
    (dI .i64 (mI .i64 (sI .i64 (aI .i64 store (mI .i64 logs s.yield_)) e1) s.loss_) 100).bind fun d4 =>
    some (minI (sI .i64 (sI .i64 (aI .i64 store (mI .i64 logs s.yield_)) e1) d4) s.store_, true)
def eA56 (a : T24 × Int × Int × Int) : List V := [.agg (pT24 a.1), .i .i64 a.2.1, .i .i64 a.2.2.1, .i .i64 a.2.2.2]
def eB56 (r : Int × Bool) : V := .tup [.i .i64 r.1, .b r.2]
theorem inj56 (a a' : T24 × Int × Int × Int) (h : eA56 a = eA56 a') : a = a' := by
  obtain ⟨⟨i177, i178, i179, i180, i181, i182, i183⟩, i184, i185, i186⟩ := a
  obtain ⟨⟨i187, i188, i189, i190, i191, i192, i193⟩, i194, i195, i196⟩ := a'
  simp only [eA56, pT24, List.cons.injEq, V.i.injEq, V.b.injEq, V.f.injEq, V.str.injEq, V.sl.injEq, V.agg.injEq, V.cptr.injEq, true_and, and_true] at h
  simp_all [ri ci_i64_inj]
noncomputable def F56 : List V → Option V := tells (fun a => g56 a.1 a.2.1 a.2.2.1 a.2.2.2) eA56 eB56
set_option maxRecDepth 100000 in
set_option maxHeartbeats 4000000 in
/- loop.example/g01229/impl.after -/
theorem ok56 : Tells Try.prog 56 F56 := by
  refine Tells.of (by kernel_rfl) ?_
  rintro ⟨s, slot, store, logs⟩ r h
  refine VCalls.nl (VCalls.of Try.func56 rfl rfl rfl ?_)
  rw [tm_init]
  simp only [eA56, en, List.length_cons, List.length_nil, Nat.reduceAdd, Nat.reduceSub]
  replace h : (g56 s slot store logs).bind some = some r := bindS h
  rw [g56] at h
  refine VW.seq ?_
  refine VW.evalA (C := []) (tm 35 [(1, .i .i64 slot), (2, .i .i64 store), (3, .i .i64 logs), (4, .ptr 0 0 0)]) [some (7, [(pT24 s)])] [] trivial (by kernel_rfl) (by simp -implicitDefEqProofs [min_fold]) ?_
  refine VW.seq ?_
  obtain ⟨e1, q2, h⟩ := bindE h
  obtain ⟨f2a, f2b, f2c, f2d⟩ := idx_some q2
  refine VW.evalDA (C := []) (tm 35 [(4, .ptr 0 0 0), (10, .i .i64 (sI .i64 (aI .i64 store (mI .i64 logs s.yield_)) e1))]) [some (7, [(pT24 s)])] [] trivial mixed (by kernel_rfl) (by simp -implicitDefEqProofs [f2a, f2b, f2c, f2d, min_fold]) ?_
  refine VW.seq ?_
  refine VW.seq ?_
  refine VW.evalA (C := []) (tm 35 [(4, .ptr 0 0 0), (10, .i .i64 (sI .i64 (aI .i64 store (mI .i64 logs s.yield_)) e1)), (24, .b (ltI (sI .i64 (aI .i64 store (mI .i64 logs s.yield_)) e1) 0))]) [some (7, [(pT24 s)])] [] trivial (by kernel_rfl) (by simp -implicitDefEqProofs [min_fold]) ?_
  refine VW.condB (b := ltI (sI .i64 (aI .i64 store (mI .i64 logs s.yield_)) e1) 0) (by simp) (fun g3 => ?_) (fun g3 => ?_)
  · replace h := iteT g3 h
    refine VW.seq ?_
    refine VW.evalA (C := []) (tm 35 [(8, .i .i64 0), (9, .b false)]) [some (7, [(pT24 s)])] [] trivial (by kernel_rfl) (by simp -implicitDefEqProofs) ?_
    obtain rfl := leafS h
    refine VW.ret (VRet.fin ?_)
    simp [eB56]
  · replace h := iteF g3 h
    refine VW.skip ?_
    refine VW.seq ?_
    obtain ⟨d4, q5, h⟩ := bindE h
    refine VW.evalA (C := []) (tm 35 [(8, .i .i64 (minI (sI .i64 (sI .i64 (aI .i64 store (mI .i64 logs s.yield_)) e1) d4) s.store_)), (9, .b true)]) [some (7, [(pT24 s)])] [] trivial (by kernel_rfl) (by simp -implicitDefEqProofs [q5, min_fold]) ?_
    obtain rfl := leafS h
    refine VW.ret (VRet.fin ?_)
    simp [eB56]
noncomputable def g63_j1 (l5249 : List (List Int)) : Option (List (List Int)) :=
  some l5249
noncomputable def g63_j2 (k_8744 : Int) (l9619 : List (List Int)) : Option ((Int × (List (List Int))) ⊕ (List (List Int))) :=
  some (.inl (sI .i64 k_8744 1, l9619))
noncomputable def g63_j3 (x_10202 : Int) (l10348 : List Int) : Option ((Int × (List Int)) ⊕ (List (List Int))) :=
  some (.inl (aI .i64 x_10202 1, l10348))
noncomputable def g63_j4 (l10203 : List Int) (x_10202 : Int) (best_10419 : Int) : Option ((Int × (List Int)) ⊕ (List (List Int))) :=
  (idx l10203 x_10202).bind fun e10420 =>
  g63_j3 x_10202 (l10203.set x_10202.toNat best_10419)
noncomputable def g63_L3 (s : T24) (k_8744 : Int) (x_10202 : Int) (l8745 : List (List Int)) : (Int × Int) → Option ((Int × Int) ⊕ (Int))
  | (best_10468, x_10469) =>
    if ltI x_10469 (aI .i64 s.most_ 1) = true then
      (g56 s k_8744 x_10202 x_10469).bind fun r10471 =>
      (if (!r10471.2) = true then some true else (idx l8745 (aI .i64 k_8744 1)).bind fun e10473 => (idx e10473 r10471.1).bind fun e10476 => some (eqI e10476 (-1))).bind fun w10478 =>
      if w10478 = true then
        some (.inl (best_10468, aI .i64 x_10469 1))
      else
        (idx s.price_ k_8744).bind fun e10480 =>
        (idx l8745 (aI .i64 k_8744 1)).bind fun e10482 =>
        (idx e10482 r10471.1).bind fun e10485 =>
        if (eqI best_10468 (-1) || ltI (aI .i64 (mI .i64 e10480 x_10469) e10485) best_10468) = true then
          some (.inl (aI .i64 (mI .i64 e10480 x_10469) e10485, aI .i64 x_10469 1))
        else
          some (.inl (best_10468, aI .i64 x_10469 1))
    else
      some (.inr best_10468)
noncomputable def g63_L2 (s : T24) (k_8744 : Int) (l8745 : List (List Int)) : (Int × (List Int)) → Option ((Int × (List Int)) ⊕ (List (List Int)))
  | (x_10202, l10203) =>
    if ltI x_10202 ((List.replicate (aI .i64 s.store_ 1).toNat 0).length : Int) = true then
      (loopO (g63_L3 s k_8744 x_10202 l8745) ((-1), 0)).bind fun w => g63_j4 l10203 x_10202 w
    else
      some (.inr (l8745.set k_8744.toNat l10203))
noncomputable def g63_L1 (s : T24) : (Int × (List (List Int))) → Option ((Int × (List (List Int))) ⊕ (List (List Int)))
  | (k_8744, l8745) =>
    if leI 0 k_8744 = true then
      (mk 8 (aI .i64 s.store_ 1)).bind fun u9620 =>
      (idx l8745 k_8744).bind fun e9622 =>
      (loopO (g63_L2 s k_8744 l8745) (0, (List.replicate (aI .i64 s.store_ 1).toNat 0))).bind fun w => g63_j2 k_8744 w
    else
      some (.inr l8745)
noncomputable def g63 (s : T24) : Option (List (List Int)) :=
  (mk 24 (aI .i64 (s.need_.length : Int) 1)).bind fun u1 =>
  (mk 8 (aI .i64 s.store_ 1)).bind fun u3 =>
  (idx (List.replicate (aI .i64 (s.need_.length : Int) 1).toNat ([] : List Int)) (s.need_.length : Int)).bind fun e5 =>
  (loopO (g63_L1 s) (sI .i64 (s.need_.length : Int) 1, ((List.replicate (aI .i64 (s.need_.length : Int) 1).toNat ([] : List Int)).set ((s.need_.length : Int).toNat) (List.replicate (aI .i64 s.store_ 1).toNat 0)))).bind fun w => g63_j1 w
def eA63 (a : T24) : List V := [.agg (pT24 a)]
def eB63 (r : List (List Int)) : V := .own 1 (rows cl_ci_i64o r)
theorem inj63 (a a' : T24) (h : eA63 a = eA63 a') : a = a' := by
  obtain ⟨i197, i198, i199, i200, i201, i202, i203⟩ := a
  obtain ⟨i204, i205, i206, i207, i208, i209, i210⟩ := a'
  simp only [eA63, pT24, List.cons.injEq, V.i.injEq, V.b.injEq, V.f.injEq, V.str.injEq, V.sl.injEq, V.agg.injEq, V.cptr.injEq, true_and, and_true] at h
  simp_all [ri ci_i64_inj]
noncomputable def F63 : List V → Option V := tells (fun a => g63 a) eA63 eB63
set_option maxRecDepth 100000 in
set_option maxHeartbeats 4000000 in
/- loop.example/g01229/impl.values -/
theorem ok63 : Tells Try.prog 63 F63 := by
  refine Tells.of (by kernel_rfl) ?_
  rintro s r h
  refine VCalls.nl (VCalls.of Try.func63 rfl rfl rfl ?_)
  rw [tm_init]
  simp only [eA63, en, List.length_cons, List.length_nil, Nat.reduceAdd, Nat.reduceSub]
  replace h : (g63 s).bind some = some r := bindS h
  rw [g63] at h
  refine VW.seq ?_
  refine VW.evalA (C := [(56, F56)]) (tm 107 [(1, .ptr 0 0 0)]) [some (7, [(pT24 s)])] [] ⟨ok56, trivial⟩ (by kernel_rfl) (by simp -implicitDefEqProofs) ?_
  refine VW.seq ?_
  refine VW.evalA (C := [(56, F56)]) (tm 107 [(1, .ptr 0 0 0), (3, .i .i64 (s.need_.length : Int))]) [some (7, [(pT24 s)])] [] ⟨ok56, trivial⟩ (by kernel_rfl) (by simp -implicitDefEqProofs) ?_
  refine VW.seq ?_
  obtain ⟨u1, q2, h⟩ := bindE h
  obtain ⟨f2a, f2b, f2c⟩ := mk_some q2
  try simp only [Int.toNat_natCast, Int.reduceToNat, List.length_cons, List.length_nil, Nat.reduceAdd, Nat.zero_add] at f2a f2b f2c
  refine VW.evalE (C := [(56, F56)]) (tm 107 [(1, .ptr 0 0 0), (3, .i .i64 (s.need_.length : Int)), (4, .ref 1 0 (List.replicate (aI .i64 (s.need_.length : Int) 1).toNat ([] : List Int)).length)]) [some (7, [(pT24 s)]), some (1, List.replicate (aI .i64 (s.need_.length : Int) 1).toNat [.nil])] [] ⟨ok56, trivial⟩ (by kernel_rfl) (by simp -implicitDefEqProofs [f2a, f2b, f2c]) (Ent.nilown (m := [some (7, [(pT24 s)]), some (1, List.replicate (aI .i64 (s.need_.length : Int) 1).toNat [.nil])]) 1 ((aI .i64 (s.need_.length : Int) 1).toNat) 1 [some (7, [(pT24 s)]), some (1, rows cl_ci_i64o (List.replicate (aI .i64 (s.need_.length : Int) 1).toNat ([] : List Int)))] (by simp) (by simp)) ?_
  refine VW.seq ?_
  obtain ⟨u3, q4, h⟩ := bindE h
  obtain ⟨f4a, f4b, f4c⟩ := mk_some q4
  try simp only [Int.toNat_natCast, Int.reduceToNat, List.length_cons, List.length_nil, Nat.reduceAdd, Nat.zero_add] at f4a f4b f4c
  obtain ⟨e5, q6, h⟩ := bindE h
  obtain ⟨f6a, f6b, f6c, f6d⟩ := idx_some q6
  have f6s := f6c
  simp at f6s
  try simp only [Int.toNat_natCast, Int.reduceToNat] at f6a f6b f6c f6d
  refine VW.evalE (C := [(56, F56)]) (tm 107 [(1, .ptr 0 0 0), (3, .i .i64 (s.need_.length : Int)), (4, .ref 1 0 (List.replicate (aI .i64 (s.need_.length : Int) 1).toNat ([] : List Int)).length)]) [some (7, [(pT24 s)]), some (1, (rows cl_ci_i64o (List.replicate (aI .i64 (s.need_.length : Int) 1).toNat ([] : List Int))).set ((s.need_.length : Int).toNat) [.ref 2 0 (List.replicate (aI .i64 s.store_ 1).toNat 0).length]), some (1, rows ci_i64 (List.replicate (aI .i64 s.store_ 1).toNat 0))] [] ⟨ok56, trivial⟩ (by kernel_rfl) (by simp -implicitDefEqProofs [f4a, f4b, f4c, f6a, f6b, f6c, f6d, f6s]) (Ent.absorb (m := [some (7, [(pT24 s)]), some (1, (rows cl_ci_i64o (List.replicate (aI .i64 (s.need_.length : Int) 1).toNat ([] : List Int))).set ((s.need_.length : Int).toNat) [.ref 2 0 (List.replicate (aI .i64 s.store_ 1).toNat 0).length]), some (1, rows ci_i64 (List.replicate (aI .i64 s.store_ 1).toNat 0))]) (n := 1) (n' := 1) (es := (rows cl_ci_i64o (List.replicate (aI .i64 (s.need_.length : Int) 1).toNat ([] : List Int))).set ((s.need_.length : Int).toNat) [.ref 2 0 (List.replicate (aI .i64 s.store_ 1).toNat 0).length]) (es' := rows ci_i64 (List.replicate (aI .i64 s.store_ 1).toNat 0)) (cs := [.ref 2 0 (List.replicate (aI .i64 s.store_ 1).toNat 0).length]) 1 ((s.need_.length : Int).toNat) 0 2 (List.replicate (aI .i64 s.store_ 1).toNat 0).length [some (7, [(pT24 s)]), some (1, rows cl_ci_i64o ((List.replicate (aI .i64 (s.need_.length : Int) 1).toNat ([] : List Int)).set ((s.need_.length : Int).toNat) (List.replicate (aI .i64 s.store_ 1).toNat 0))), none] rfl (by simp [f6a, f6b, f6c, f6d, f6s]) rfl rfl (by decide) (by simp) (by simp) (by simp)) ?_
  refine VW.join (fun (v : List (List Int)) => (⟨(tm 107 [(4, .ref 1 0 v.length)]), [some (7, [(pT24 s)]), some (1, rows cl_ci_i64o v), none], []⟩ : VS)) (fun v => (g63_j1 (v)).bind some = some r) ?_ ?_
  · refine VW.seq ?_
    refine VW.evalA (C := [(56, F56)]) (tm 107 [(1, .ptr 0 0 0), (4, .ref 1 0 ((List.replicate (aI .i64 (s.need_.length : Int) 1).toNat ([] : List Int)).set ((s.need_.length : Int).toNat) (List.replicate (aI .i64 s.store_ 1).toNat 0)).length), (5, .i .i64 (sI .i64 (s.need_.length : Int) 1))]) [some (7, [(pT24 s)]), some (1, rows cl_ci_i64o ((List.replicate (aI .i64 (s.need_.length : Int) 1).toNat ([] : List Int)).set ((s.need_.length : Int).toNat) (List.replicate (aI .i64 s.store_ 1).toNat 0))), none] [] ⟨ok56, trivial⟩ (by kernel_rfl) (by simp -implicitDefEqProofs) ?_
    refine VW.block ?_
    obtain ⟨w_1, hw_1, h⟩ := bindE h
    refine VW.loopO (fun (x : Int × (List (List Int))) => (⟨(tm 107 [(1, .ptr 0 0 0), (4, .ref 1 0 x.2.length), (5, .i .i64 x.1)]), [some (7, [(pT24 s)]), some (1, rows cl_ci_i64o x.2), none], []⟩ : VS)) hw_1 (Ent.to 3 (by simp [fgt]) (by first | (simp; done) | simp [pT24]) (by simp) (by simp [bndT, bndV]) (by simp [bndM, bndV])) ?_
    rintro n_1 ⟨k_8744, l8745⟩ h1
    rw [g63_L1] at h1
    refine VW.seq ?_
    refine VW.seq ?_
    refine VW.evalA (C := [(56, F56)]) (tm 107 [(1, .ptr 0 0 0), (4, .ref 1 0 l8745.length), (5, .i .i64 k_8744), (28, .b (leI 0 k_8744))]) [some (7, [(pT24 s)]), some (1, rows cl_ci_i64o l8745), none] [] ⟨ok56, trivial⟩ (by kernel_rfl) (by simp -implicitDefEqProofs) ?_
    refine VW.condB (b := leI 0 k_8744) (by simp) (fun g8746 => ?_) (fun g8746 => ?_)
    · replace h1 := iteT g8746 h1
      refine VW.skip ?_
      refine VW.join (fun (v : List (List Int)) => (⟨(tm 107 [(1, .ptr 0 0 0), (4, .ref 1 0 v.length), (5, .i .i64 k_8744)]), [some (7, [(pT24 s)]), some (1, rows cl_ci_i64o v), none], []⟩ : VS)) (fun v => (g63_j2 k_8744 (v)).bind (kN (g63_L1 s) n_1) = some w_1) ?_ ?_
      · refine VW.block ?_
        refine VW.seq ?_
        obtain ⟨u9620, q9621, h1⟩ := bindE h1
        obtain ⟨f9621a, f9621b, f9621c⟩ := mk_some q9621
        try simp only [Int.toNat_natCast, Int.reduceToNat, List.length_cons, List.length_nil, Nat.reduceAdd, Nat.zero_add] at f9621a f9621b f9621c
        obtain ⟨e9622, q9623, h1⟩ := bindE h1
        obtain ⟨f9623a, f9623b, f9623c, f9623d⟩ := idx_some q9623
        refine VW.evalA (C := [(56, F56)]) (tm 107 [(1, .ptr 0 0 0), (4, .ref 1 0 l8745.length), (5, .i .i64 k_8744)]) [some (7, [(pT24 s)]), some (1, (rows cl_ci_i64o l8745).set k_8744.toNat [.ref 3 0 (List.replicate (aI .i64 s.store_ 1).toNat 0).length]), none, some (1, rows ci_i64 (List.replicate (aI .i64 s.store_ 1).toNat 0))] [] ⟨ok56, trivial⟩ (by kernel_rfl) (by simp -implicitDefEqProofs [f9621a, f9621b, f9621c, f9623a, f9623b, f9623c, f9623d]) ?_
        refine VW.seq ?_
        refine VW.evalA (C := [(56, F56)]) (tm 107 [(1, .ptr 0 0 0), (4, .ref 1 0 l8745.length), (5, .i .i64 k_8744), (42, .i .i64 ((List.replicate (aI .i64 s.store_ 1).toNat 0).length : Int)), (43, .i .i64 0)]) [some (7, [(pT24 s)]), some (1, (rows cl_ci_i64o l8745).set k_8744.toNat [.ref 3 0 (List.replicate (aI .i64 s.store_ 1).toNat 0).length]), none, some (1, rows ci_i64 (List.replicate (aI .i64 s.store_ 1).toNat 0))] [] ⟨ok56, trivial⟩ (by kernel_rfl) (by simp -implicitDefEqProofs [f9623a, f9623b, f9623c, f9623d]) ?_
        refine VW.block ?_
        obtain ⟨w_2, hw_2, h1⟩ := bindE h1
        refine VW.loopO (fun (x : Int × (List Int)) => (⟨(tm 107 [(1, .ptr 0 0 0), (4, .ref 1 0 l8745.length), (5, .i .i64 k_8744), (42, .i .i64 ((List.replicate (aI .i64 s.store_ 1).toNat 0).length : Int)), (43, .i .i64 x.1)]), [some (7, [(pT24 s)]), some (1, (rows cl_ci_i64o l8745).set k_8744.toNat [.ref 3 0 x.2.length]), none, some (1, rows ci_i64 x.2)], []⟩ : VS)) hw_2 (Ent.to 4 (by simp [fgt]) (by first | (simp; done) | simp [pT24]) (by simp) (by simp [bndT, bndV]) (by simp [bndM, bndV])) ?_
        rintro n_2 ⟨x_10202, l10203⟩ h2
        rw [g63_L2] at h2
        refine VW.seq ?_
        refine VW.evalA (C := [(56, F56)]) (tm 107 [(1, .ptr 0 0 0), (4, .ref 1 0 l8745.length), (5, .i .i64 k_8744), (42, .i .i64 ((List.replicate (aI .i64 s.store_ 1).toNat 0).length : Int)), (43, .i .i64 x_10202), (44, .b (ltI x_10202 ((List.replicate (aI .i64 s.store_ 1).toNat 0).length : Int)))]) [some (7, [(pT24 s)]), some (1, (rows cl_ci_i64o l8745).set k_8744.toNat [.ref 3 0 l10203.length]), none, some (1, rows ci_i64 l10203)] [] ⟨ok56, trivial⟩ (by kernel_rfl) (by simp -implicitDefEqProofs) ?_
        refine VW.seq ?_
        refine VW.condB (b := ltI x_10202 ((List.replicate (aI .i64 s.store_ 1).toNat 0).length : Int)) (by simp) (fun g10204 => ?_) (fun g10204 => ?_)
        · replace h2 := iteT g10204 h2
          refine VW.skip ?_
          refine VW.join (fun (v : List Int) => (⟨(tm 107 [(1, .ptr 0 0 0), (4, .ref 1 0 l8745.length), (5, .i .i64 k_8744), (42, .i .i64 ((List.replicate (aI .i64 s.store_ 1).toNat 0).length : Int)), (43, .i .i64 x_10202)]), [some (7, [(pT24 s)]), some (1, (rows cl_ci_i64o l8745).set k_8744.toNat [.ref 3 0 v.length]), none, some (1, rows ci_i64 v)], []⟩ : VS)) (fun v => (g63_j3 x_10202 (v)).bind (kN (g63_L2 s k_8744 l8745) n_2) = some w_2) ?_ ?_
          · refine VW.block ?_
            refine VW.seq ?_
            refine VW.evalA (C := [(56, F56)]) (tm 107 [(1, .ptr 0 0 0), (4, .ref 1 0 l8745.length), (5, .i .i64 k_8744), (6, .i .i64 x_10202), (42, .i .i64 ((List.replicate (aI .i64 s.store_ 1).toNat 0).length : Int)), (43, .i .i64 x_10202)]) [some (7, [(pT24 s)]), some (1, (rows cl_ci_i64o l8745).set k_8744.toNat [.ref 3 0 l10203.length]), none, some (1, rows ci_i64 l10203)] [] ⟨ok56, trivial⟩ (by kernel_rfl) (by simp -implicitDefEqProofs) ?_
            refine VW.seq ?_
            refine VW.evalA (C := [(56, F56)]) (tm 107 [(1, .ptr 0 0 0), (4, .ref 1 0 l8745.length), (5, .i .i64 k_8744), (6, .i .i64 x_10202), (7, .i .i64 (-1)), (42, .i .i64 ((List.replicate (aI .i64 s.store_ 1).toNat 0).length : Int)), (43, .i .i64 x_10202)]) [some (7, [(pT24 s)]), some (1, (rows cl_ci_i64o l8745).set k_8744.toNat [.ref 3 0 l10203.length]), none, some (1, rows ci_i64 l10203)] [] ⟨ok56, trivial⟩ (by kernel_rfl) (by simp -implicitDefEqProofs) ?_
            refine VW.join (fun (v : Int) => (⟨(tm 107 [(1, .ptr 0 0 0), (4, .ref 1 0 l8745.length), (5, .i .i64 k_8744), (6, .i .i64 x_10202), (7, .i .i64 v), (42, .i .i64 ((List.replicate (aI .i64 s.store_ 1).toNat 0).length : Int)), (43, .i .i64 x_10202)]), [some (7, [(pT24 s)]), some (1, (rows cl_ci_i64o l8745).set k_8744.toNat [.ref 3 0 l10203.length]), none, some (1, rows ci_i64 l10203)], []⟩ : VS)) (fun v => (g63_j4 l10203 x_10202 (v)).bind (kN (g63_L2 s k_8744 l8745) n_2) = some w_2) ?_ ?_
            · refine VW.seq ?_
              refine VW.evalA (C := [(56, F56)]) (tm 107 [(1, .ptr 0 0 0), (4, .ref 1 0 l8745.length), (5, .i .i64 k_8744), (6, .i .i64 x_10202), (7, .i .i64 (-1)), (42, .i .i64 ((List.replicate (aI .i64 s.store_ 1).toNat 0).length : Int)), (43, .i .i64 x_10202), (48, .i .i64 (aI .i64 s.most_ 1)), (49, .i .i64 0)]) [some (7, [(pT24 s)]), some (1, (rows cl_ci_i64o l8745).set k_8744.toNat [.ref 3 0 l10203.length]), none, some (1, rows ci_i64 l10203)] [] ⟨ok56, trivial⟩ (by kernel_rfl) (by simp -implicitDefEqProofs) ?_
              refine VW.block ?_
              obtain ⟨w_3, hw_3, h2⟩ := bindE h2
              refine VW.loopO (fun (x : Int × Int) => (⟨(tm 107 [(1, .ptr 0 0 0), (4, .ref 1 0 l8745.length), (5, .i .i64 k_8744), (6, .i .i64 x_10202), (7, .i .i64 x.1), (42, .i .i64 ((List.replicate (aI .i64 s.store_ 1).toNat 0).length : Int)), (43, .i .i64 x_10202), (48, .i .i64 (aI .i64 s.most_ 1)), (49, .i .i64 x.2)]), [some (7, [(pT24 s)]), some (1, (rows cl_ci_i64o l8745).set k_8744.toNat [.ref 3 0 l10203.length]), none, some (1, rows ci_i64 l10203)], []⟩ : VS)) hw_3 (Ent.to 4 (by simp [fgt]) (by first | (simp; done) | simp [pT24]) (by simp) (by simp [bndT, bndV]) (by simp [bndM, bndV])) ?_
              rintro n_3 ⟨best_10468, x_10469⟩ h3
              rw [g63_L3] at h3
              refine VW.seq ?_
              refine VW.evalA (C := [(56, F56)]) (tm 107 [(1, .ptr 0 0 0), (4, .ref 1 0 l8745.length), (5, .i .i64 k_8744), (6, .i .i64 x_10202), (7, .i .i64 best_10468), (42, .i .i64 ((List.replicate (aI .i64 s.store_ 1).toNat 0).length : Int)), (43, .i .i64 x_10202), (48, .i .i64 (aI .i64 s.most_ 1)), (49, .i .i64 x_10469), (50, .b (ltI x_10469 (aI .i64 s.most_ 1)))]) [some (7, [(pT24 s)]), some (1, (rows cl_ci_i64o l8745).set k_8744.toNat [.ref 3 0 l10203.length]), none, some (1, rows ci_i64 l10203)] [] ⟨ok56, trivial⟩ (by kernel_rfl) (by simp -implicitDefEqProofs) ?_
              refine VW.seq ?_
              refine VW.condB (b := ltI x_10469 (aI .i64 s.most_ 1)) (by simp) (fun g10470 => ?_) (fun g10470 => ?_)
              · replace h3 := iteT g10470 h3
                refine VW.skip ?_
                refine VW.seq ?_
                refine VW.block ?_
                refine VW.seq ?_
                refine VW.evalA (C := [(56, F56)]) (tm 107 [(1, .ptr 0 0 0), (4, .ref 1 0 l8745.length), (5, .i .i64 k_8744), (6, .i .i64 x_10202), (7, .i .i64 best_10468), (8, .i .i64 x_10469), (42, .i .i64 ((List.replicate (aI .i64 s.store_ 1).toNat 0).length : Int)), (43, .i .i64 x_10202), (48, .i .i64 (aI .i64 s.most_ 1)), (49, .i .i64 x_10469)]) [some (7, [(pT24 s)]), some (1, (rows cl_ci_i64o l8745).set k_8744.toNat [.ref 3 0 l10203.length]), none, some (1, rows ci_i64 l10203)] [] ⟨ok56, trivial⟩ (by kernel_rfl) (by simp -implicitDefEqProofs) ?_
                refine VW.seq ?_
                obtain ⟨r10471, q10472, h3⟩ := bindE h3
                have c10472 : F56 [.agg (pT24 s), .i .i64 k_8744, .i .i64 x_10202, .i .i64 x_10469] = some (.tup [.i .i64 r10471.1, .b r10471.2]) := tells_eq inj56 (a := (s, k_8744, x_10202, x_10469)) q10472
                refine VW.evalA (C := [(56, F56)]) (tm 107 [(1, .ptr 0 0 0), (4, .ref 1 0 l8745.length), (5, .i .i64 k_8744), (6, .i .i64 x_10202), (7, .i .i64 best_10468), (8, .i .i64 x_10469), (9, .i .i64 r10471.1), (10, .b r10471.2), (42, .i .i64 ((List.replicate (aI .i64 s.store_ 1).toNat 0).length : Int)), (43, .i .i64 x_10202), (48, .i .i64 (aI .i64 s.most_ 1)), (49, .i .i64 x_10469)]) [some (7, [(pT24 s)]), some (1, (rows cl_ci_i64o l8745).set k_8744.toNat [.ref 3 0 l10203.length]), none, some (1, rows ci_i64 l10203)] [] ⟨ok56, trivial⟩ (by kernel_rfl) (by simp -implicitDefEqProofs [c10472]) ?_
                refine VW.seq ?_
                refine VW.seq ?_
                obtain ⟨w10478, q10488, h3⟩ := bindE h3
                refine VW.evalA (C := [(56, F56)]) (tm 107 [(1, .ptr 0 0 0), (4, .ref 1 0 l8745.length), (5, .i .i64 k_8744), (6, .i .i64 x_10202), (7, .i .i64 best_10468), (8, .i .i64 x_10469), (9, .i .i64 r10471.1), (42, .i .i64 ((List.replicate (aI .i64 s.store_ 1).toNat 0).length : Int)), (43, .i .i64 x_10202), (48, .i .i64 (aI .i64 s.most_ 1)), (49, .i .i64 x_10469), (72, .b w10478)]) [some (7, [(pT24 s)]), some (1, (rows cl_ci_i64o l8745).set k_8744.toNat [.ref 3 0 l10203.length]), none, some (1, rows ci_i64 l10203)] [] ⟨ok56, trivial⟩ (by kernel_rfl) (by
                    rcases Bool.eq_false_or_eq_true (!r10471.2) with q10489 | q10489
                    · first
                      | (simp at q10489; done)
                      | (rw [if_pos q10489] at q10488
                         have d10490 : w10478 = _ := (Option.some.inj q10488).symm
                         simp -implicitDefEqProofs [q10489, d10490])
                    · first
                      | (simp at q10489; done)
                      | (rw [if_neg (by rw [q10489]; exact Bool.false_ne_true)] at q10488
                         obtain ⟨e10473, q10474, q10488⟩ := bindQ q10488
                         obtain ⟨f10474a, f10474b, f10474c, f10474d⟩ := idx_some q10474
                         have f10475n := succ_ne f9623a f10474a
                         obtain ⟨e10476, q10477, q10488⟩ := bindQ q10488
                         obtain ⟨f10477a, f10477b, f10477c, f10477d⟩ := idx_some q10477
                         have d10491 : w10478 = _ := (Option.some.inj q10488).symm
                         simp -implicitDefEqProofs [q10489, f10474a, f10474b, f10474c, f10474d, f10475n, f10477a, f10477b, f10477c, f10477d, d10491])) ?_
                refine VW.condB (b := w10478) (by simp) (fun g10479 => ?_) (fun g10479 => ?_)
                · replace h3 := iteT g10479 h3
                  refine VW.exit ?_
                  refine VW.evalA (C := [(56, F56)]) (tm 107 [(1, .ptr 0 0 0), (4, .ref 1 0 l8745.length), (5, .i .i64 k_8744), (6, .i .i64 x_10202), (7, .i .i64 best_10468), (42, .i .i64 ((List.replicate (aI .i64 s.store_ 1).toNat 0).length : Int)), (43, .i .i64 x_10202), (48, .i .i64 (aI .i64 s.most_ 1)), (49, .i .i64 (aI .i64 x_10469 1))]) [some (7, [(pT24 s)]), some (1, (rows cl_ci_i64o l8745).set k_8744.toNat [.ref 3 0 l10203.length]), none, some (1, rows ci_i64 l10203)] [] ⟨ok56, trivial⟩ (by kernel_rfl) (by simp -implicitDefEqProofs) ?_
                  exact (show ∃ _, _ from ⟨(best_10468, aI .i64 x_10469 1), leafL h3, (Ent.to 4 (by simp [fgt]) (by first | (simp; done) | simp [pT24]) (by simp) (by simp [bndT, bndV]) (by simp [bndM, bndV]))⟩)
                · replace h3 := iteF g10479 h3
                  refine VW.skip ?_
                  refine VW.seq ?_
                  obtain ⟨e10480, q10481, h3⟩ := bindE h3
                  obtain ⟨f10481a, f10481b, f10481c, f10481d⟩ := idx_some q10481
                  obtain ⟨e10482, q10483, h3⟩ := bindE h3
                  obtain ⟨f10483a, f10483b, f10483c, f10483d⟩ := idx_some q10483
                  have f10484n := succ_ne f9623a f10483a
                  obtain ⟨e10485, q10486, h3⟩ := bindE h3
                  obtain ⟨f10486a, f10486b, f10486c, f10486d⟩ := idx_some q10486
                  refine VW.evalDA (C := [(56, F56)]) (tm 107 [(1, .ptr 0 0 0), (4, .ref 1 0 l8745.length), (5, .i .i64 k_8744), (6, .i .i64 x_10202), (7, .i .i64 best_10468), (11, .i .i64 (aI .i64 (mI .i64 e10480 x_10469) e10485)), (42, .i .i64 ((List.replicate (aI .i64 s.store_ 1).toNat 0).length : Int)), (43, .i .i64 x_10202), (48, .i .i64 (aI .i64 s.most_ 1)), (49, .i .i64 x_10469)]) [some (7, [(pT24 s)]), some (1, (rows cl_ci_i64o l8745).set k_8744.toNat [.ref 3 0 l10203.length]), none, some (1, rows ci_i64 l10203)] [] ⟨ok56, trivial⟩ mixed (by kernel_rfl) (by simp -implicitDefEqProofs [f10481a, f10481b, f10481c, f10481d, f10483a, f10483b, f10483c, f10483d, f10484n, f10486a, f10486b, f10486c, f10486d]) ?_
                  refine VW.seq ?_
                  refine VW.evalA (C := [(56, F56)]) (tm 107 [(1, .ptr 0 0 0), (4, .ref 1 0 l8745.length), (5, .i .i64 k_8744), (6, .i .i64 x_10202), (7, .i .i64 best_10468), (11, .i .i64 (aI .i64 (mI .i64 e10480 x_10469) e10485)), (42, .i .i64 ((List.replicate (aI .i64 s.store_ 1).toNat 0).length : Int)), (43, .i .i64 x_10202), (48, .i .i64 (aI .i64 s.most_ 1)), (49, .i .i64 x_10469), (95, .b (eqI best_10468 (-1) || ltI (aI .i64 (mI .i64 e10480 x_10469) e10485) best_10468))]) [some (7, [(pT24 s)]), some (1, (rows cl_ci_i64o l8745).set k_8744.toNat [.ref 3 0 l10203.length]), none, some (1, rows ci_i64 l10203)] [] ⟨ok56, trivial⟩ (by kernel_rfl) (by simp -implicitDefEqProofs) ?_
                  refine VW.condB (b := (eqI best_10468 (-1) || ltI (aI .i64 (mI .i64 e10480 x_10469) e10485) best_10468)) (by simp) (fun g10487 => ?_) (fun g10487 => ?_)
                  · replace h3 := iteT g10487 h3
                    refine VW.evalA (C := [(56, F56)]) (tm 107 [(1, .ptr 0 0 0), (4, .ref 1 0 l8745.length), (5, .i .i64 k_8744), (6, .i .i64 x_10202), (7, .i .i64 (aI .i64 (mI .i64 e10480 x_10469) e10485)), (42, .i .i64 ((List.replicate (aI .i64 s.store_ 1).toNat 0).length : Int)), (43, .i .i64 x_10202), (48, .i .i64 (aI .i64 s.most_ 1)), (49, .i .i64 x_10469)]) [some (7, [(pT24 s)]), some (1, (rows cl_ci_i64o l8745).set k_8744.toNat [.ref 3 0 l10203.length]), none, some (1, rows ci_i64 l10203)] [] ⟨ok56, trivial⟩ (by kernel_rfl) (by simp -implicitDefEqProofs) ?_
                    refine VW.evalA (C := [(56, F56)]) (tm 107 [(1, .ptr 0 0 0), (4, .ref 1 0 l8745.length), (5, .i .i64 k_8744), (6, .i .i64 x_10202), (7, .i .i64 (aI .i64 (mI .i64 e10480 x_10469) e10485)), (42, .i .i64 ((List.replicate (aI .i64 s.store_ 1).toNat 0).length : Int)), (43, .i .i64 x_10202), (48, .i .i64 (aI .i64 s.most_ 1)), (49, .i .i64 (aI .i64 x_10469 1))]) [some (7, [(pT24 s)]), some (1, (rows cl_ci_i64o l8745).set k_8744.toNat [.ref 3 0 l10203.length]), none, some (1, rows ci_i64 l10203)] [] ⟨ok56, trivial⟩ (by kernel_rfl) (by simp -implicitDefEqProofs) ?_
                    exact (show ∃ _, _ from ⟨(aI .i64 (mI .i64 e10480 x_10469) e10485, aI .i64 x_10469 1), leafL h3, (Ent.to 4 (by simp [fgt]) (by first | (simp; done) | simp [pT24]) (by simp) (by simp [bndT, bndV]) (by simp [bndM, bndV]))⟩)
                  · replace h3 := iteF g10487 h3
                    refine VW.skip ?_
                    refine VW.evalA (C := [(56, F56)]) (tm 107 [(1, .ptr 0 0 0), (4, .ref 1 0 l8745.length), (5, .i .i64 k_8744), (6, .i .i64 x_10202), (7, .i .i64 best_10468), (42, .i .i64 ((List.replicate (aI .i64 s.store_ 1).toNat 0).length : Int)), (43, .i .i64 x_10202), (48, .i .i64 (aI .i64 s.most_ 1)), (49, .i .i64 (aI .i64 x_10469 1))]) [some (7, [(pT24 s)]), some (1, (rows cl_ci_i64o l8745).set k_8744.toNat [.ref 3 0 l10203.length]), none, some (1, rows ci_i64 l10203)] [] ⟨ok56, trivial⟩ (by kernel_rfl) (by simp -implicitDefEqProofs) ?_
                    exact (show ∃ _, _ from ⟨(best_10468, aI .i64 x_10469 1), leafL h3, (Ent.to 4 (by simp [fgt]) (by first | (simp; done) | simp [pT24]) (by simp) (by simp [bndT, bndV]) (by simp [bndM, bndV]))⟩)
              · replace h3 := iteF g10470 h3
                refine VW.exit ?_
                have e_ := leafR h3
                subst w_3
                exact (show ∃ _, _ from ⟨best_10468, h2, (Ent.to 4 (by simp [fgt]) (by first | (simp; done) | simp [pT24]) (by simp) (by simp [bndT, bndV]) (by simp [bndM, bndV]))⟩)
            · rintro best_10419 h2
              replace h2 : (g63_j4 l10203 x_10202 best_10419).bind _ = _ := h2
              rw [g63_j4] at h2
              obtain ⟨e10420, q10421, h2⟩ := bindE h2
              obtain ⟨f10421a, f10421b, f10421c, f10421d⟩ := idx_some q10421
              refine VW.evalA (C := [(56, F56)]) (tm 107 [(1, .ptr 0 0 0), (4, .ref 1 0 l8745.length), (5, .i .i64 k_8744), (42, .i .i64 ((List.replicate (aI .i64 s.store_ 1).toNat 0).length : Int)), (43, .i .i64 x_10202)]) [some (7, [(pT24 s)]), some (1, (rows cl_ci_i64o l8745).set k_8744.toNat [.ref 3 0 (l10203.set x_10202.toNat best_10419).length]), none, some (1, rows ci_i64 (l10203.set x_10202.toNat best_10419))] [] ⟨ok56, trivial⟩ (by kernel_rfl) (by simp -implicitDefEqProofs [f10421a, f10421b, f10421c, f10421d, f9623a, f9623b, f9623c, f9623d]) ?_
              exact (show ∃ _, _ from ⟨(l10203.set x_10202.toNat best_10419), h2, (Ent.to 4 (by simp [fgt]) (by first | (simp; done) | simp [pT24]) (by simp) (by simp [bndT, bndV]) (by simp [bndM, bndV]))⟩)
          · rintro l10348 h2
            replace h2 : (g63_j3 x_10202 l10348).bind _ = _ := h2
            rw [g63_j3] at h2
            refine VW.evalA (C := [(56, F56)]) (tm 107 [(1, .ptr 0 0 0), (4, .ref 1 0 l8745.length), (5, .i .i64 k_8744), (42, .i .i64 ((List.replicate (aI .i64 s.store_ 1).toNat 0).length : Int)), (43, .i .i64 (aI .i64 x_10202 1))]) [some (7, [(pT24 s)]), some (1, (rows cl_ci_i64o l8745).set k_8744.toNat [.ref 3 0 l10348.length]), none, some (1, rows ci_i64 l10348)] [] ⟨ok56, trivial⟩ (by kernel_rfl) (by simp -implicitDefEqProofs) ?_
            exact (show ∃ _, _ from ⟨(aI .i64 x_10202 1, l10348), leafL h2, (Ent.to 4 (by simp [fgt]) (by first | (simp; done) | simp [pT24]) (by simp) (by simp [bndT, bndV]) (by simp [bndM, bndV]))⟩)
        · replace h2 := iteF g10204 h2
          refine VW.exit ?_
          have e_ := leafR h2
          subst w_2
          exact (show ∃ _, _ from ⟨(l8745.set k_8744.toNat l10203), h1, (Ent.trans (Ent.absorb (m := [some (7, [(pT24 s)]), some (1, (rows cl_ci_i64o l8745).set k_8744.toNat [.ref 3 0 l10203.length]), none, some (1, rows ci_i64 l10203)]) (n := 1) (n' := 1) (es := (rows cl_ci_i64o l8745).set k_8744.toNat [.ref 3 0 l10203.length]) (es' := rows ci_i64 l10203) (cs := [.ref 3 0 l10203.length]) 1 k_8744.toNat 0 3 l10203.length [some (7, [(pT24 s)]), some (1, rows cl_ci_i64o (l8745.set k_8744.toNat l10203)), none, none] rfl (by simp [f9623a, f9623b, f9623c, f9623d]) rfl rfl (by decide) (by simp) (by simp) (by simp)) (Ent.to 3 (by simp [fgt]) (by first | (simp; done) | simp [pT24]) (by simp) (by simp [bndT, bndV]) (by simp [bndM, bndV])))⟩)
      · rintro l9619 h1
        replace h1 : (g63_j2 k_8744 l9619).bind _ = _ := h1
        rw [g63_j2] at h1
        refine VW.evalA (C := [(56, F56)]) (tm 107 [(1, .ptr 0 0 0), (4, .ref 1 0 l9619.length), (5, .i .i64 (sI .i64 k_8744 1))]) [some (7, [(pT24 s)]), some (1, rows cl_ci_i64o l9619), none] [] ⟨ok56, trivial⟩ (by kernel_rfl) (by simp -implicitDefEqProofs) ?_
        exact (show ∃ _, _ from ⟨(sI .i64 k_8744 1, l9619), leafL h1, (Ent.to 3 (by simp [fgt]) (by first | (simp; done) | simp [pT24]) (by simp) (by simp [bndT, bndV]) (by simp [bndM, bndV]))⟩)
    · replace h1 := iteF g8746 h1
      refine VW.exit ?_
      have e_ := leafR h1
      subst w_1
      exact (show ∃ _, _ from ⟨l8745, h, (Ent.to 3 (by simp [fgt]) (by first | (simp; done) | simp [pT24]) (by simp) (by simp [bndT, bndV]) (by simp [bndM, bndV]))⟩)
  · rintro l5249 h
    replace h : (g63_j1 l5249).bind _ = _ := h
    rw [g63_j1] at h
    refine VW.seq ?_
    refine VW.evalA (C := [(56, F56)]) (tm 107 [(2, .ref 1 0 l5249.length)]) [some (7, [(pT24 s)]), some (1, rows cl_ci_i64o l5249), none] [] ⟨ok56, trivial⟩ (by kernel_rfl) (by simp -implicitDefEqProofs) ?_
    obtain rfl := leafS h
    refine VW.ret (VRet.fin ?_)
    simp [eB63]
noncomputable def g49_j1 (r4 : List (List Int)) (s : T24) (l668 : List Int) : Option ((List Int) × Int × Int) :=
  (idx r4 0).bind fun e669 =>
  (idx e669 s.first_).bind fun e671 =>
  some (l668, e671, 0)
noncomputable def g49_j2 (x_1111 : Int) (store_1221 : Int) (l1222 : List Int) : Option ((Int × Int × (List Int)) ⊕ (List Int)) :=
  some (.inl (store_1221, aI .i64 x_1111 1, l1222))
noncomputable def g49_L2 (s : T24) (x_1111 : Int) (store_1110 : Int) (r4 : List (List Int)) (l1112 : List Int) : (Int) → Option ((Int) ⊕ (Int × (List Int)))
  | x_1294 =>
    if ltI x_1294 (aI .i64 s.most_ 1) = true then
      (g56 s x_1111 store_1110 x_1294).bind fun r1296 =>
      (if r1296.2 = true then (idx r4 (aI .i64 x_1111 1)).bind fun e1298 => (idx e1298 r1296.1).bind fun e1300 => some (!eqI e1300 (-1)) else some false).bind fun w1302 =>
      (if w1302 = true then (idx s.price_ x_1111).bind fun e1303 => (idx r4 (aI .i64 x_1111 1)).bind fun e1305 => (idx e1305 r1296.1).bind fun e1307 => (idx r4 x_1111).bind fun e1309 => (idx e1309 store_1110).bind fun e1311 => some (eqI (aI .i64 (mI .i64 e1303 x_1294) e1307) e1311) else some false).bind fun w1313 =>
      if w1313 = true then
        (appK 8 l1112 [x_1294]).bind fun u1315 =>
        some (.inr (r1296.1, (l1112 ++ [x_1294])))
      else
        some (.inl (aI .i64 x_1294 1))
    else
      some (.inr (store_1110, l1112))
noncomputable def g49_L1 (s : T24) (r4 : List (List Int)) : (Int × Int × (List Int)) → Option ((Int × Int × (List Int)) ⊕ (List Int))
  | (store_1110, x_1111, l1112) =>
    if ltI x_1111 (s.need_.length : Int) = true then
      (loopO (g49_L2 s x_1111 store_1110 r4 l1112) 0).bind fun w => g49_j2 x_1111 w.1 w.2
    else
      some (.inr l1112)
noncomputable def g49 (s : T24) : Option ((List Int) × Int × Int) :=
  (g18 s).bind fun r1 =>
  if (!r1) = true then
    some ([], 0, 1)
  else
    (g63 s).bind fun r4 =>
    (idx r4 0).bind fun e6 =>
    (idx e6 s.first_).bind fun e8 =>
    if eqI e8 (-1) = true then
      some ([], 0, 6)
    else
      (loopO (g49_L1 s r4) (s.first_, 0, [])).bind fun w => g49_j1 r4 s w
def eA49 (a : T24) : List V := [.agg (pT24 a)]
def eB49 (r : (List Int) × Int × Int) : V := .tup [.own 1 (rows ci_i64 r.1), .i .i64 r.2.1, .i .i64 r.2.2]
theorem inj49 (a a' : T24) (h : eA49 a = eA49 a') : a = a' := by
  obtain ⟨i211, i212, i213, i214, i215, i216, i217⟩ := a
  obtain ⟨i218, i219, i220, i221, i222, i223, i224⟩ := a'
  simp only [eA49, pT24, List.cons.injEq, V.i.injEq, V.b.injEq, V.f.injEq, V.str.injEq, V.sl.injEq, V.agg.injEq, V.cptr.injEq, true_and, and_true] at h
  simp_all [ri ci_i64_inj]
noncomputable def F49 : List V → Option V := tells (fun a => g49 a) eA49 eB49
set_option maxRecDepth 100000 in
set_option maxHeartbeats 4000000 in
/- loop.example/g01229/impl.BestPlan -/
theorem ok49 : Tells Try.prog 49 F49 := by
  refine Tells.of (by kernel_rfl) ?_
  rintro s r h
  refine VCalls.nl (VCalls.of Try.func49 rfl rfl rfl ?_)
  rw [tm_init]
  simp only [eA49, en, List.length_cons, List.length_nil, Nat.reduceAdd, Nat.reduceSub]
  replace h : (g49 s).bind some = some r := bindS h
  rw [g49] at h
  refine VW.seq ?_
  refine VW.evalA (C := [(18, F18), (56, F56), (63, F63)]) (tm 101 [(1, .ptr 0 0 0)]) [some (7, [(pT24 s)])] [] ⟨ok18, ok56, ok63, trivial⟩ (by kernel_rfl) (by simp -implicitDefEqProofs) ?_
  refine VW.seq ?_
  refine VW.seq ?_
  obtain ⟨r1, q2, h⟩ := bindE h
  have c2 : F18 [.agg (pT24 s)] = some (.b r1) := tells_eq inj18 (a := s) q2
  refine VW.evalA (C := [(18, F18), (56, F56), (63, F63)]) (tm 101 [(1, .ptr 0 0 0), (14, .b (!r1))]) [some (7, [(pT24 s)])] [] ⟨ok18, ok56, ok63, trivial⟩ (by kernel_rfl) (by simp -implicitDefEqProofs [c2]) ?_
  refine VW.condB (b := (!r1)) (by simp) (fun g3 => ?_) (fun g3 => ?_)
  · replace h := iteT g3 h
    refine VW.seq ?_
    refine VW.evalA (C := [(18, F18), (56, F56), (63, F63)]) (tm 101 [(2, .nil), (3, .i .i64 0), (4, .i .i64 1)]) [some (7, [(pT24 s)])] [] ⟨ok18, ok56, ok63, trivial⟩ (by kernel_rfl) (by simp -implicitDefEqProofs) ?_
    obtain rfl := leafS h
    refine VW.ret (VRet.fin ?_)
    simp [eB49]
  · replace h := iteF g3 h
    refine VW.skip ?_
    refine VW.seq ?_
    obtain ⟨r4, q5, h⟩ := bindE h
    have c5 : F63 [.agg (pT24 s)] = some (.own 1 (rows cl_ci_i64o r4)) := tells_eq inj63 (a := s) q5
    refine VW.evalA (C := [(18, F18), (56, F56), (63, F63)]) (tm 101 [(1, .ptr 0 0 0), (5, .ref 1 0 r4.length)]) [some (7, [(pT24 s)]), some (1, rows cl_ci_i64 r4)] [] ⟨ok18, ok56, ok63, trivial⟩ (by kernel_rfl) (by simp -implicitDefEqProofs [c5]) ?_
    refine VW.seq ?_
    refine VW.seq ?_
    obtain ⟨e6, q7, h⟩ := bindE h
    obtain ⟨f7a, f7b, f7c, f7d⟩ := idx_some q7
    try simp only [Int.toNat_natCast, Int.reduceToNat] at f7a f7b f7c f7d
    obtain ⟨e8, q9, h⟩ := bindE h
    obtain ⟨f9a, f9b, f9c, f9d⟩ := idx_some q9
    refine VW.evalDA (C := [(18, F18), (56, F56), (63, F63)]) (tm 101 [(1, .ptr 0 0 0), (5, .ref 1 0 r4.length), (24, .b (eqI e8 (-1)))]) [some (7, [(pT24 s)]), some (1, rows cl_ci_i64 r4)] [] ⟨ok18, ok56, ok63, trivial⟩ mixed (by kernel_rfl) (by simp -implicitDefEqProofs [f7a, f7b, f7c, f7d, f9a, f9b, f9c, f9d]) ?_
    refine VW.condB (b := eqI e8 (-1)) (by simp) (fun g10 => ?_) (fun g10 => ?_)
    · replace h := iteT g10 h
      refine VW.seq ?_
      refine VW.evalA (C := [(18, F18), (56, F56), (63, F63)]) (tm 101 [(2, .nil), (3, .i .i64 0), (4, .i .i64 6)]) [some (7, [(pT24 s)]), some (1, rows cl_ci_i64 r4)] [] ⟨ok18, ok56, ok63, trivial⟩ (by kernel_rfl) (by simp -implicitDefEqProofs) ?_
      obtain rfl := leafS h
      refine VW.ret (VRet.fin ?_)
      simp [eB49]
    · replace h := iteF g10 h
      refine VW.skip ?_
      refine VW.seq ?_
      refine VW.evalDA (C := [(18, F18), (56, F56), (63, F63)]) (tm 101 [(1, .ptr 0 0 0), (5, .ref 1 0 r4.length), (6, .ref 2 0 0), (7, .i .i64 s.first_)]) [some (7, [(pT24 s)]), some (1, rows cl_ci_i64 r4), some (1, rows ci_i64 [])] [] ⟨ok18, ok56, ok63, trivial⟩ mixed (by kernel_rfl) (by simp -implicitDefEqProofs) ?_
      refine VW.join (fun (v : List Int) => (⟨(tm 101 [(1, .ptr 0 0 0), (5, .ref 1 0 r4.length), (6, .ref 2 0 v.length)]), [some (7, [(pT24 s)]), some (1, rows cl_ci_i64 r4), some (1, rows ci_i64 v)], []⟩ : VS)) (fun v => (g49_j1 r4 s (v)).bind some = some r) ?_ ?_
      · refine VW.seq ?_
        refine VW.evalA (C := [(18, F18), (56, F56), (63, F63)]) (tm 101 [(1, .ptr 0 0 0), (5, .ref 1 0 r4.length), (6, .ref 2 0 0), (7, .i .i64 s.first_), (30, .i .i64 (s.need_.length : Int)), (31, .i .i64 0)]) [some (7, [(pT24 s)]), some (1, rows cl_ci_i64 r4), some (1, rows ci_i64 [])] [] ⟨ok18, ok56, ok63, trivial⟩ (by kernel_rfl) (by simp -implicitDefEqProofs) ?_
        refine VW.block ?_
        obtain ⟨w_1, hw_1, h⟩ := bindE h
        refine VW.loopO (fun (x : Int × Int × (List Int)) => (⟨(tm 101 [(1, .ptr 0 0 0), (5, .ref 1 0 r4.length), (6, .ref 2 0 x.2.2.length), (7, .i .i64 x.1), (30, .i .i64 (s.need_.length : Int)), (31, .i .i64 x.2.1)]), [some (7, [(pT24 s)]), some (1, rows cl_ci_i64 r4), some (1, rows ci_i64 x.2.2)], []⟩ : VS)) hw_1 (Ent.to 3 (by simp [fgt]) (by first | (simp; done) | simp [pT24]) (by simp) (by simp [bndT, bndV]) (by simp [bndM, bndV])) ?_
        rintro n_1 ⟨store_1110, x_1111, l1112⟩ h1
        rw [g49_L1] at h1
        refine VW.seq ?_
        refine VW.evalA (C := [(18, F18), (56, F56), (63, F63)]) (tm 101 [(1, .ptr 0 0 0), (5, .ref 1 0 r4.length), (6, .ref 2 0 l1112.length), (7, .i .i64 store_1110), (30, .i .i64 (s.need_.length : Int)), (31, .i .i64 x_1111), (32, .b (ltI x_1111 (s.need_.length : Int)))]) [some (7, [(pT24 s)]), some (1, rows cl_ci_i64 r4), some (1, rows ci_i64 l1112)] [] ⟨ok18, ok56, ok63, trivial⟩ (by kernel_rfl) (by simp -implicitDefEqProofs) ?_
        refine VW.seq ?_
        refine VW.condB (b := ltI x_1111 (s.need_.length : Int)) (by simp) (fun g1113 => ?_) (fun g1113 => ?_)
        · replace h1 := iteT g1113 h1
          refine VW.skip ?_
          refine VW.join (fun (v : Int × (List Int)) => (⟨(tm 101 [(1, .ptr 0 0 0), (5, .ref 1 0 r4.length), (6, .ref 2 0 v.2.length), (7, .i .i64 v.1), (30, .i .i64 (s.need_.length : Int)), (31, .i .i64 x_1111)]), [some (7, [(pT24 s)]), some (1, rows cl_ci_i64 r4), some (1, rows ci_i64 v.2)], []⟩ : VS)) (fun v => (g49_j2 x_1111 (v.1) (v.2)).bind (kN (g49_L1 s r4) n_1) = some w_1) ?_ ?_
          · refine VW.block ?_
            refine VW.seq ?_
            refine VW.evalA (C := [(18, F18), (56, F56), (63, F63)]) (tm 101 [(1, .ptr 0 0 0), (5, .ref 1 0 r4.length), (6, .ref 2 0 l1112.length), (7, .i .i64 store_1110), (8, .i .i64 x_1111), (30, .i .i64 (s.need_.length : Int)), (31, .i .i64 x_1111)]) [some (7, [(pT24 s)]), some (1, rows cl_ci_i64 r4), some (1, rows ci_i64 l1112)] [] ⟨ok18, ok56, ok63, trivial⟩ (by kernel_rfl) (by simp -implicitDefEqProofs) ?_
            refine VW.seq ?_
            refine VW.evalA (C := [(18, F18), (56, F56), (63, F63)]) (tm 101 [(1, .ptr 0 0 0), (5, .ref 1 0 r4.length), (6, .ref 2 0 l1112.length), (7, .i .i64 store_1110), (8, .i .i64 x_1111), (30, .i .i64 (s.need_.length : Int)), (31, .i .i64 x_1111), (36, .i .i64 (aI .i64 s.most_ 1)), (37, .i .i64 0)]) [some (7, [(pT24 s)]), some (1, rows cl_ci_i64 r4), some (1, rows ci_i64 l1112)] [] ⟨ok18, ok56, ok63, trivial⟩ (by kernel_rfl) (by simp -implicitDefEqProofs) ?_
            refine VW.block ?_
            obtain ⟨w_2, hw_2, h1⟩ := bindE h1
            refine VW.loopO (fun (x : Int) => (⟨(tm 101 [(1, .ptr 0 0 0), (5, .ref 1 0 r4.length), (6, .ref 2 0 l1112.length), (7, .i .i64 store_1110), (8, .i .i64 x_1111), (30, .i .i64 (s.need_.length : Int)), (31, .i .i64 x_1111), (36, .i .i64 (aI .i64 s.most_ 1)), (37, .i .i64 x)]), [some (7, [(pT24 s)]), some (1, rows cl_ci_i64 r4), some (1, rows ci_i64 l1112)], []⟩ : VS)) hw_2 (Ent.to 3 (by simp [fgt]) (by first | (simp; done) | simp [pT24]) (by simp) (by simp [bndT, bndV]) (by simp [bndM, bndV])) ?_
            rintro n_2 x_1294 h2
            rw [g49_L2] at h2
            refine VW.seq ?_
            refine VW.evalA (C := [(18, F18), (56, F56), (63, F63)]) (tm 101 [(1, .ptr 0 0 0), (5, .ref 1 0 r4.length), (6, .ref 2 0 l1112.length), (7, .i .i64 store_1110), (8, .i .i64 x_1111), (30, .i .i64 (s.need_.length : Int)), (31, .i .i64 x_1111), (36, .i .i64 (aI .i64 s.most_ 1)), (37, .i .i64 x_1294), (38, .b (ltI x_1294 (aI .i64 s.most_ 1)))]) [some (7, [(pT24 s)]), some (1, rows cl_ci_i64 r4), some (1, rows ci_i64 l1112)] [] ⟨ok18, ok56, ok63, trivial⟩ (by kernel_rfl) (by simp -implicitDefEqProofs) ?_
            refine VW.seq ?_
            refine VW.condB (b := ltI x_1294 (aI .i64 s.most_ 1)) (by simp) (fun g1295 => ?_) (fun g1295 => ?_)
            · replace h2 := iteT g1295 h2
              refine VW.skip ?_
              refine VW.seq ?_
              refine VW.block ?_
              refine VW.seq ?_
              refine VW.evalA (C := [(18, F18), (56, F56), (63, F63)]) (tm 101 [(1, .ptr 0 0 0), (5, .ref 1 0 r4.length), (6, .ref 2 0 l1112.length), (7, .i .i64 store_1110), (8, .i .i64 x_1111), (9, .i .i64 x_1294), (30, .i .i64 (s.need_.length : Int)), (31, .i .i64 x_1111), (36, .i .i64 (aI .i64 s.most_ 1)), (37, .i .i64 x_1294)]) [some (7, [(pT24 s)]), some (1, rows cl_ci_i64 r4), some (1, rows ci_i64 l1112)] [] ⟨ok18, ok56, ok63, trivial⟩ (by kernel_rfl) (by simp -implicitDefEqProofs) ?_
              refine VW.seq ?_
              obtain ⟨r1296, q1297, h2⟩ := bindE h2
              have c1297 : F56 [.agg (pT24 s), .i .i64 x_1111, .i .i64 store_1110, .i .i64 x_1294] = some (.tup [.i .i64 r1296.1, .b r1296.2]) := tells_eq inj56 (a := (s, x_1111, store_1110, x_1294)) q1297
              refine VW.evalA (C := [(18, F18), (56, F56), (63, F63)]) (tm 101 [(1, .ptr 0 0 0), (5, .ref 1 0 r4.length), (6, .ref 2 0 l1112.length), (7, .i .i64 store_1110), (8, .i .i64 x_1111), (9, .i .i64 x_1294), (10, .i .i64 r1296.1), (11, .b r1296.2), (30, .i .i64 (s.need_.length : Int)), (31, .i .i64 x_1111), (36, .i .i64 (aI .i64 s.most_ 1)), (37, .i .i64 x_1294)]) [some (7, [(pT24 s)]), some (1, rows cl_ci_i64 r4), some (1, rows ci_i64 l1112)] [] ⟨ok18, ok56, ok63, trivial⟩ (by kernel_rfl) (by simp -implicitDefEqProofs [c1297]) ?_
              refine VW.seq ?_
              obtain ⟨w1302, q1317, h2⟩ := bindE h2
              obtain ⟨w1313, q1318, h2⟩ := bindE h2
              refine VW.evalDA (C := [(18, F18), (56, F56), (63, F63)]) (tm 101 [(1, .ptr 0 0 0), (5, .ref 1 0 r4.length), (6, .ref 2 0 l1112.length), (7, .i .i64 store_1110), (8, .i .i64 x_1111), (9, .i .i64 x_1294), (10, .i .i64 r1296.1), (30, .i .i64 (s.need_.length : Int)), (31, .i .i64 x_1111), (36, .i .i64 (aI .i64 s.most_ 1)), (37, .i .i64 x_1294), (85, .b w1313)]) [some (7, [(pT24 s)]), some (1, rows cl_ci_i64 r4), some (1, rows ci_i64 l1112)] [] ⟨ok18, ok56, ok63, trivial⟩ mixed (by kernel_rfl) (by
                  rcases Bool.eq_false_or_eq_true r1296.2 with q1319 | q1319
                  · first
                    | (simp at q1319; done)
                    | (rw [if_pos q1319] at q1317
                       obtain ⟨e1298, q1299, q1317⟩ := bindQ q1317
                       obtain ⟨f1299a, f1299b, f1299c, f1299d⟩ := idx_some q1299
                       obtain ⟨e1300, q1301, q1317⟩ := bindQ q1317
                       obtain ⟨f1301a, f1301b, f1301c, f1301d⟩ := idx_some q1301
                       have d1320 : w1302 = _ := (Option.some.inj q1317).symm
                       rcases Bool.eq_false_or_eq_true w1302 with q1321 | q1321
                       · first
                         | (simp [d1320] at q1321; done)
                         | (rw [if_pos q1321] at q1318
                            try simp only [d1320] at q1321
                            obtain ⟨e1303, q1304, q1318⟩ := bindQ q1318
                            obtain ⟨f1304a, f1304b, f1304c, f1304d⟩ := idx_some q1304
                            obtain ⟨e1305, q1306, q1318⟩ := bindQ q1318
                            have d1322 : e1305 = e1298 := Option.some.inj (q1306.symm.trans q1299)
                            obtain ⟨e1307, q1308, q1318⟩ := bindQ q1318
                            have d1323 : e1307 = e1300 := by have t_ := q1308; simp only [d1322] at t_; exact Option.some.inj (t_.symm.trans q1301)
                            obtain ⟨e1309, q1310, q1318⟩ := bindQ q1318
                            obtain ⟨f1310a, f1310b, f1310c, f1310d⟩ := idx_some q1310
                            obtain ⟨e1311, q1312, q1318⟩ := bindQ q1318
                            obtain ⟨f1312a, f1312b, f1312c, f1312d⟩ := idx_some q1312
                            have d1324 : w1313 = _ := (Option.some.inj q1318).symm
                            simp -implicitDefEqProofs [q1319, f1299a, f1299b, f1299c, f1299d, f1301a, f1301b, f1301c, f1301d, d1320, q1321, f1304a, f1304b, f1304c, f1304d, d1322, d1323, f1310a, f1310b, f1310c, f1310d, f1312a, f1312b, f1312c, f1312d, d1324])
                       · first
                         | (simp [d1320] at q1321; done)
                         | (rw [if_neg (by rw [q1321]; exact Bool.false_ne_true)] at q1318
                            try simp only [d1320] at q1321
                            have d1325 : w1313 = _ := (Option.some.inj q1318).symm
                            simp -implicitDefEqProofs [q1319, f1299a, f1299b, f1299c, f1299d, f1301a, f1301b, f1301c, f1301d, d1320, q1321, d1325]))
                  · first
                    | (simp at q1319; done)
                    | (rw [if_neg (by rw [q1319]; exact Bool.false_ne_true)] at q1317
                       have d1326 : w1302 = _ := (Option.some.inj q1317).symm
                       rcases Bool.eq_false_or_eq_true w1302 with q1327 | q1327
                       · first
                         | (simp [d1326] at q1327; done)
                         | (rw [if_pos q1327] at q1318
                            try simp only [d1326] at q1327
                            obtain ⟨e1303, q1304, q1318⟩ := bindQ q1318
                            obtain ⟨f1304a, f1304b, f1304c, f1304d⟩ := idx_some q1304
                            obtain ⟨e1305, q1306, q1318⟩ := bindQ q1318
                            obtain ⟨f1306a, f1306b, f1306c, f1306d⟩ := idx_some q1306
                            obtain ⟨e1307, q1308, q1318⟩ := bindQ q1318
                            obtain ⟨f1308a, f1308b, f1308c, f1308d⟩ := idx_some q1308
                            obtain ⟨e1309, q1310, q1318⟩ := bindQ q1318
                            obtain ⟨f1310a, f1310b, f1310c, f1310d⟩ := idx_some q1310
                            obtain ⟨e1311, q1312, q1318⟩ := bindQ q1318
                            obtain ⟨f1312a, f1312b, f1312c, f1312d⟩ := idx_some q1312
                            have d1328 : w1313 = _ := (Option.some.inj q1318).symm
                            simp -implicitDefEqProofs [q1319, d1326, q1327, f1304a, f1304b, f1304c, f1304d, f1306a, f1306b, f1306c, f1306d, f1308a, f1308b, f1308c, f1308d, f1310a, f1310b, f1310c, f1310d, f1312a, f1312b, f1312c, f1312d, d1328])
                       · first
                         | (simp [d1326] at q1327; done)
                         | (rw [if_neg (by rw [q1327]; exact Bool.false_ne_true)] at q1318
                            try simp only [d1326] at q1327
                            have d1329 : w1313 = _ := (Option.some.inj q1318).symm
                            simp -implicitDefEqProofs [q1319, d1326, q1327, d1329]))) ?_
              refine VW.condB (b := w1313) (by simp) (fun g1314 => ?_) (fun g1314 => ?_)
              · replace h2 := iteT g1314 h2
                refine VW.seq ?_
                obtain ⟨u1315, q1316, h2⟩ := bindE h2
                obtain ⟨f1316a, f1316b⟩ := appK_some q1316
                try simp only [Int.toNat_natCast, Int.reduceToNat, List.length_cons, List.length_nil, Nat.reduceAdd, Nat.zero_add] at f1316a f1316b
                refine VW.evalA (C := [(18, F18), (56, F56), (63, F63)]) (tm 101 [(1, .ptr 0 0 0), (5, .ref 1 0 r4.length), (6, .ref 2 0 (l1112 ++ [x_1294]).length), (10, .i .i64 r1296.1), (30, .i .i64 (s.need_.length : Int)), (31, .i .i64 x_1111)]) [some (7, [(pT24 s)]), some (1, rows cl_ci_i64 r4), some (1, rows ci_i64 (l1112 ++ [x_1294])), some (1, rows ci_i64 [x_1294])] [] ⟨ok18, ok56, ok63, trivial⟩ (by kernel_rfl) (by simp -implicitDefEqProofs [f1316a, f1316b]) ?_
                refine VW.seq ?_
                refine VW.evalA (C := [(18, F18), (56, F56), (63, F63)]) (tm 101 [(1, .ptr 0 0 0), (5, .ref 1 0 r4.length), (6, .ref 2 0 (l1112 ++ [x_1294]).length), (7, .i .i64 r1296.1), (30, .i .i64 (s.need_.length : Int)), (31, .i .i64 x_1111)]) [some (7, [(pT24 s)]), some (1, rows cl_ci_i64 r4), some (1, rows ci_i64 (l1112 ++ [x_1294])), some (1, rows ci_i64 [x_1294])] [] ⟨ok18, ok56, ok63, trivial⟩ (by kernel_rfl) (by simp -implicitDefEqProofs) ?_
                refine VW.exit ?_
                have e_ := leafR h2
                subst w_2
                exact (show ∃ _, _ from ⟨(r1296.1, (l1112 ++ [x_1294])), h1, (Ent.to 3 (by simp [fgt]) (by first | (simp; done) | simp [pT24]) (by simp) (by simp [bndT, bndV]) (by simp [bndM, bndV]))⟩)
              · replace h2 := iteF g1314 h2
                refine VW.skip ?_
                refine VW.evalA (C := [(18, F18), (56, F56), (63, F63)]) (tm 101 [(1, .ptr 0 0 0), (5, .ref 1 0 r4.length), (6, .ref 2 0 l1112.length), (7, .i .i64 store_1110), (8, .i .i64 x_1111), (30, .i .i64 (s.need_.length : Int)), (31, .i .i64 x_1111), (36, .i .i64 (aI .i64 s.most_ 1)), (37, .i .i64 (aI .i64 x_1294 1))]) [some (7, [(pT24 s)]), some (1, rows cl_ci_i64 r4), some (1, rows ci_i64 l1112)] [] ⟨ok18, ok56, ok63, trivial⟩ (by kernel_rfl) (by simp -implicitDefEqProofs) ?_
                exact (show ∃ _, _ from ⟨aI .i64 x_1294 1, leafL h2, (Ent.to 3 (by simp [fgt]) (by first | (simp; done) | simp [pT24]) (by simp) (by simp [bndT, bndV]) (by simp [bndM, bndV]))⟩)
            · replace h2 := iteF g1295 h2
              refine VW.exit ?_
              have e_ := leafR h2
              subst w_2
              exact (show ∃ _, _ from ⟨(store_1110, l1112), h1, (Ent.to 3 (by simp [fgt]) (by first | (simp; done) | simp [pT24]) (by simp) (by simp [bndT, bndV]) (by simp [bndM, bndV]))⟩)
          · rintro ⟨store_1221, l1222⟩ h1
            replace h1 : (g49_j2 x_1111 store_1221 l1222).bind _ = _ := h1
            rw [g49_j2] at h1
            refine VW.evalA (C := [(18, F18), (56, F56), (63, F63)]) (tm 101 [(1, .ptr 0 0 0), (5, .ref 1 0 r4.length), (6, .ref 2 0 l1222.length), (7, .i .i64 store_1221), (30, .i .i64 (s.need_.length : Int)), (31, .i .i64 (aI .i64 x_1111 1))]) [some (7, [(pT24 s)]), some (1, rows cl_ci_i64 r4), some (1, rows ci_i64 l1222)] [] ⟨ok18, ok56, ok63, trivial⟩ (by kernel_rfl) (by simp -implicitDefEqProofs) ?_
            exact (show ∃ _, _ from ⟨(store_1221, aI .i64 x_1111 1, l1222), leafL h1, (Ent.to 3 (by simp [fgt]) (by first | (simp; done) | simp [pT24]) (by simp) (by simp [bndT, bndV]) (by simp [bndM, bndV]))⟩)
        · replace h1 := iteF g1113 h1
          refine VW.exit ?_
          have e_ := leafR h1
          subst w_1
          exact (show ∃ _, _ from ⟨l1112, h, (Ent.to 3 (by simp [fgt]) (by first | (simp; done) | simp [pT24]) (by simp) (by simp [bndT, bndV]) (by simp [bndM, bndV]))⟩)
      · rintro l668 h
        replace h : (g49_j1 r4 s l668).bind _ = _ := h
        rw [g49_j1] at h
        refine VW.seq ?_
        obtain ⟨e669, q670, h⟩ := bindE h
        obtain ⟨f670a, f670b, f670c, f670d⟩ := idx_some q670
        try simp only [Int.toNat_natCast, Int.reduceToNat] at f670a f670b f670c f670d
        obtain ⟨e671, q672, h⟩ := bindE h
        obtain ⟨f672a, f672b, f672c, f672d⟩ := idx_some q672
        refine VW.evalDA (C := [(18, F18), (56, F56), (63, F63)]) (tm 101 [(2, .ref 2 0 l668.length), (3, .i .i64 e671), (4, .i .i64 0)]) [some (7, [(pT24 s)]), some (1, rows cl_ci_i64 r4), some (1, rows ci_i64 l668)] [] ⟨ok18, ok56, ok63, trivial⟩ mixed (by kernel_rfl) (by simp -implicitDefEqProofs [f670a, f670b, f670c, f670d, f672a, f672b, f672c, f672d]) ?_
        obtain rfl := leafS h
        refine VW.ret (VRet.fin ?_)
        simp [eB49]
noncomputable def g14_j3 (aS : T24) (r6 : (List Int) × Int × Int) (k_73 : Int) (l74 : List Int) : Option (Bool) :=
  (g32 l74 1).bind fun r75 =>
  if ltI r75 0 = true then
    some false
  else
    if (!eqI r75 k_73) = true then
      some false
    else
      (g17 aS).bind fun r79 =>
      (g49 r79).bind fun r81 =>
      (g27 r81.1 r6.1).bind fun r83 =>
      if (((!r83) || (!eqI r81.2.1 r6.2.1)) || (!eqI r81.2.2 r6.2.2)) = true then
        some false
      else
        (g32 l74 1).bind fun r86 =>
        if ltI r86 0 = true then
          some false
        else
          if (!eqI r86 k_73) = true then
            some false
          else
            some true
noncomputable def g14_L1 : (Int × Int × (List Int)) → Option ((Int × Int × (List Int)) ⊕ (Int × (List Int)))
  | (k_99, i_100, l101) =>
    if ltI i_100 (l101.length : Int) = true then
      (idx l101 i_100).bind fun e103 =>
      some (.inl (aI .i64 k_99 1, aI .i64 i_100 1, (l101.set i_100.toNat k_99)))
    else
      some (.inr (k_99, l101))
noncomputable def g14_j2 (r10 : (List Int) × Int × Int) (r6 : (List Int) × Int × Int) (aS : T24) (k_52 : Int) (l53 : List Int) : Option (Bool) :=
  (if ltI k_52 0 = true then some true else (g27 r10.1 r6.1).bind fun r54 => some (!r54)).bind fun w56 =>
  if ((w56 || (!eqI r10.2.1 r6.2.1)) || (!eqI r10.2.2 r6.2.2)) = true then
    some false
  else
    (loopO g14_L1 (1, 0, r10.1)).bind fun w => g14_j3 aS r6 w.1 w.2
noncomputable def g14_L2 : (Int × Int × (List Int)) → Option ((Int × Int × (List Int)) ⊕ (Int × (List Int)))
  | (k_118, i_119, l120) =>
    if ltI i_119 (l120.length : Int) = true then
      (idx l120 i_119).bind fun e122 =>
      some (.inl (aI .i64 k_118 1, aI .i64 i_119 1, (l120.set i_119.toNat k_118)))
    else
      some (.inr (k_118, l120))
noncomputable def g14_j1 (r8 : T24) (r10 : (List Int) × Int × Int) (r6 : (List Int) × Int × Int) (aS : T24) (k_35 : Int) (l36 : List Int) : Option (Bool) :=
  (loopO g14_L2 (k_35, 0, r8.price_)).bind fun w => g14_j2 r10 r6 aS w.1 w.2
noncomputable def g14_L3 : (Int × Int × (List Int)) → Option ((Int × Int × (List Int)) ⊕ (Int × (List Int)))
  | (k_133, i_134, l135) =>
    if ltI i_134 (l135.length : Int) = true then
      (idx l135 i_134).bind fun e137 =>
      some (.inl (aI .i64 k_133 1, aI .i64 i_134 1, (l135.set i_134.toNat k_133)))
    else
      some (.inr (k_133, l135))
noncomputable def g14 (aS : T24) : Option (Bool) :=
  (g15 aS 1048576).bind fun r1 =>
  if ltI r1 0 = true then
    some true
  else
    (g17 aS).bind fun r4 =>
    (g48 r4).bind fun r6 =>
    (g17 aS).bind fun r8 =>
    (g49 r8).bind fun r10 =>
    (g27 r10.1 r6.1).bind fun r12 =>
    if (((!r12) || (!eqI r10.2.1 r6.2.1)) || (!eqI r10.2.2 r6.2.2)) = true then
      some false
    else
      (g17 aS).bind fun r15 =>
      (g19 r8 r15).bind fun r17 =>
      if (!r17) = true then
        some false
      else
        (loopO g14_L3 (1, 0, r8.need_)).bind fun w => g14_j1 r8 r10 r6 aS w.1 w.2
def eA14 (a : T24) : List V := [.agg (pT24 a)]
def eB14 (r : Bool) : V := .b r
theorem inj14 (a a' : T24) (h : eA14 a = eA14 a') : a = a' := by
  obtain ⟨i225, i226, i227, i228, i229, i230, i231⟩ := a
  obtain ⟨i232, i233, i234, i235, i236, i237, i238⟩ := a'
  simp only [eA14, pT24, List.cons.injEq, V.i.injEq, V.b.injEq, V.f.injEq, V.str.injEq, V.sl.injEq, V.agg.injEq, V.cptr.injEq, true_and, and_true] at h
  simp_all [ri ci_i64_inj]
noncomputable def F14 : List V → Option V := tells (fun a => g14 a) eA14 eB14
set_option maxRecDepth 100000 in
set_option maxHeartbeats 4000000 in
/- loop.example/g01229/laws.FnExactBestPlan -/
theorem ok14 : Tells Try.prog 14 F14 := by
  refine Tells.of (by kernel_rfl) ?_
  rintro aS r h
  refine VCalls.nl (VCalls.of Try.func14 rfl rfl rfl ?_)
  rw [tm_init]
  simp only [eA14, en, List.length_cons, List.length_nil, Nat.reduceAdd, Nat.reduceSub]
  replace h : (g14 aS).bind some = some r := bindS h
  rw [g14] at h
  refine VW.seq ?_
  refine VW.evalA (C := [(15, F15), (17, F17), (19, F19), (27, F27), (32, F32), (48, F48), (49, F49)]) (tm 117 [(1, .ptr 0 0 0)]) [some (7, [(pT24 aS)])] [] ⟨ok15, ok17, ok19, ok27, ok32, ok48, ok49, trivial⟩ (by kernel_rfl) (by simp -implicitDefEqProofs) ?_
  refine VW.seq ?_
  refine VW.evalA (C := [(15, F15), (17, F17), (19, F19), (27, F27), (32, F32), (48, F48), (49, F49)]) (tm 117 [(1, .ptr 0 0 0), (3, .i .i64 1048576)]) [some (7, [(pT24 aS)])] [] ⟨ok15, ok17, ok19, ok27, ok32, ok48, ok49, trivial⟩ (by kernel_rfl) (by simp -implicitDefEqProofs) ?_
  refine VW.seq ?_
  obtain ⟨r1, q2, h⟩ := bindE h
  have c2 : F15 [.agg (pT24 aS), .i .i64 1048576] = some (.i .i64 r1) := tells_eq inj15 (a := (aS, 1048576)) q2
  refine VW.evalA (C := [(15, F15), (17, F17), (19, F19), (27, F27), (32, F32), (48, F48), (49, F49)]) (tm 117 [(1, .ptr 0 0 0), (3, .i .i64 r1)]) [some (7, [(pT24 aS)])] [] ⟨ok15, ok17, ok19, ok27, ok32, ok48, ok49, trivial⟩ (by kernel_rfl) (by simp -implicitDefEqProofs [c2]) ?_
  refine VW.seq ?_
  refine VW.seq ?_
  refine VW.evalA (C := [(15, F15), (17, F17), (19, F19), (27, F27), (32, F32), (48, F48), (49, F49)]) (tm 117 [(1, .ptr 0 0 0), (21, .b (ltI r1 0))]) [some (7, [(pT24 aS)])] [] ⟨ok15, ok17, ok19, ok27, ok32, ok48, ok49, trivial⟩ (by kernel_rfl) (by simp -implicitDefEqProofs) ?_
  refine VW.condB (b := ltI r1 0) (by simp) (fun g3 => ?_) (fun g3 => ?_)
  · replace h := iteT g3 h
    refine VW.seq ?_
    refine VW.evalA (C := [(15, F15), (17, F17), (19, F19), (27, F27), (32, F32), (48, F48), (49, F49)]) (tm 117 [(2, .b true)]) [some (7, [(pT24 aS)])] [] ⟨ok15, ok17, ok19, ok27, ok32, ok48, ok49, trivial⟩ (by kernel_rfl) (by simp -implicitDefEqProofs) ?_
    obtain rfl := leafS h
    refine VW.ret (VRet.fin ?_)
    simp [eB14]
  · replace h := iteF g3 h
    refine VW.skip ?_
    refine VW.seq ?_
    obtain ⟨r4, q5, h⟩ := bindE h
    have c5 : F17 [.agg (pT24 aS)] = some (.agg [.own 1 (rows ci_i64 r4.need_), .own 1 (rows ci_i64 r4.price_), .i .i64 r4.most_, .i .i64 r4.yield_, .i .i64 r4.store_, .i .i64 r4.first_, .i .i64 r4.loss_]) := tells_eq inj17 (a := aS) q5
    obtain ⟨r6, q7, h⟩ := bindE h
    have c7 : F48 [.agg [.sl 1 (rows ci_i64 r4.need_), .sl 1 (rows ci_i64 r4.price_), .i .i64 r4.most_, .i .i64 r4.yield_, .i .i64 r4.store_, .i .i64 r4.first_, .i .i64 r4.loss_]] = some (.tup [.own 1 (rows ci_i64 r6.1), .i .i64 r6.2.1, .i .i64 r6.2.2]) := tells_eq inj48 (a := r4) q7
    refine VW.evalA (C := [(15, F15), (17, F17), (19, F19), (27, F27), (32, F32), (48, F48), (49, F49)]) (tm 117 [(1, .ptr 0 0 0), (4, .ref 3 0 r6.1.length), (5, .i .i64 r6.2.1), (6, .i .i64 r6.2.2)]) [some (7, [(pT24 aS)]), some (1, rows ci_i64 r4.need_), some (1, rows ci_i64 r4.price_), some (1, rows ci_i64 r6.1)] [] ⟨ok15, ok17, ok19, ok27, ok32, ok48, ok49, trivial⟩ (by kernel_rfl) (by simp -implicitDefEqProofs [c5, c7]) ?_
    refine VW.seq ?_
    obtain ⟨r8, q9, h⟩ := bindE h
    have c9 : F17 [.agg (pT24 aS)] = some (.agg [.own 1 (rows ci_i64 r8.need_), .own 1 (rows ci_i64 r8.price_), .i .i64 r8.most_, .i .i64 r8.yield_, .i .i64 r8.store_, .i .i64 r8.first_, .i .i64 r8.loss_]) := tells_eq inj17 (a := aS) q9
    refine VW.evalA (C := [(15, F15), (17, F17), (19, F19), (27, F27), (32, F32), (48, F48), (49, F49)]) (tm 117 [(1, .ptr 0 0 0), (4, .ref 3 0 r6.1.length), (5, .i .i64 r6.2.1), (6, .i .i64 r6.2.2), (7, .ptr 6 0 0)]) [some (7, [(pT24 aS)]), some (1, rows ci_i64 r4.need_), some (1, rows ci_i64 r4.price_), some (1, rows ci_i64 r6.1), some (1, rows ci_i64 r8.need_), some (1, rows ci_i64 r8.price_), some (7, [[.ref 4 0 r8.need_.length, .ref 5 0 r8.price_.length, .i .i64 r8.most_, .i .i64 r8.yield_, .i .i64 r8.store_, .i .i64 r8.first_, .i .i64 r8.loss_]])] [] ⟨ok15, ok17, ok19, ok27, ok32, ok48, ok49, trivial⟩ (by kernel_rfl) (by simp -implicitDefEqProofs [c9]) ?_
    refine VW.seq ?_
    obtain ⟨r10, q11, h⟩ := bindE h
    have c11 : F49 [.agg [.sl 1 (rows ci_i64 r8.need_), .sl 1 (rows ci_i64 r8.price_), .i .i64 r8.most_, .i .i64 r8.yield_, .i .i64 r8.store_, .i .i64 r8.first_, .i .i64 r8.loss_]] = some (.tup [.own 1 (rows ci_i64 r10.1), .i .i64 r10.2.1, .i .i64 r10.2.2]) := tells_eq inj49 (a := r8) q11
    refine VW.evalA (C := [(15, F15), (17, F17), (19, F19), (27, F27), (32, F32), (48, F48), (49, F49)]) (tm 117 [(1, .ptr 0 0 0), (4, .ref 3 0 r6.1.length), (5, .i .i64 r6.2.1), (6, .i .i64 r6.2.2), (7, .ptr 6 0 0), (8, .ref 7 0 r10.1.length), (9, .i .i64 r10.2.1), (10, .i .i64 r10.2.2)]) [some (7, [(pT24 aS)]), some (1, rows ci_i64 r4.need_), some (1, rows ci_i64 r4.price_), some (1, rows ci_i64 r6.1), some (1, rows ci_i64 r8.need_), some (1, rows ci_i64 r8.price_), some (7, [[.ref 4 0 r8.need_.length, .ref 5 0 r8.price_.length, .i .i64 r8.most_, .i .i64 r8.yield_, .i .i64 r8.store_, .i .i64 r8.first_, .i .i64 r8.loss_]]), some (1, rows ci_i64 r10.1)] [] ⟨ok15, ok17, ok19, ok27, ok32, ok48, ok49, trivial⟩ (by kernel_rfl) (by simp -implicitDefEqProofs [c11]) ?_
    refine VW.seq ?_
    refine VW.seq ?_
    obtain ⟨r12, q13, h⟩ := bindE h
    have c13 : F27 [.sl 1 (rows ci_i64 r10.1), .sl 1 (rows ci_i64 r6.1)] = some (.b r12) := tells_eq inj27 (a := (r10.1, r6.1)) q13
    refine VW.evalA (C := [(15, F15), (17, F17), (19, F19), (27, F27), (32, F32), (48, F48), (49, F49)]) (tm 117 [(1, .ptr 0 0 0), (4, .ref 3 0 r6.1.length), (5, .i .i64 r6.2.1), (6, .i .i64 r6.2.2), (7, .ptr 6 0 0), (8, .ref 7 0 r10.1.length), (9, .i .i64 r10.2.1), (10, .i .i64 r10.2.2), (50, .b (((!r12) || (!eqI r10.2.1 r6.2.1)) || (!eqI r10.2.2 r6.2.2)))]) [some (7, [(pT24 aS)]), some (1, rows ci_i64 r4.need_), some (1, rows ci_i64 r4.price_), some (1, rows ci_i64 r6.1), some (1, rows ci_i64 r8.need_), some (1, rows ci_i64 r8.price_), some (7, [[.ref 4 0 r8.need_.length, .ref 5 0 r8.price_.length, .i .i64 r8.most_, .i .i64 r8.yield_, .i .i64 r8.store_, .i .i64 r8.first_, .i .i64 r8.loss_]]), some (1, rows ci_i64 r10.1)] [] ⟨ok15, ok17, ok19, ok27, ok32, ok48, ok49, trivial⟩ (by kernel_rfl) (by simp -implicitDefEqProofs [c13]) ?_
    refine VW.condB (b := (((!r12) || (!eqI r10.2.1 r6.2.1)) || (!eqI r10.2.2 r6.2.2))) (by simp) (fun g14 => ?_) (fun g14 => ?_)
    · replace h := iteT g14 h
      refine VW.seq ?_
      refine VW.evalA (C := [(15, F15), (17, F17), (19, F19), (27, F27), (32, F32), (48, F48), (49, F49)]) (tm 117 [(2, .b false)]) [some (7, [(pT24 aS)]), some (1, rows ci_i64 r4.need_), some (1, rows ci_i64 r4.price_), some (1, rows ci_i64 r6.1), some (1, rows ci_i64 r8.need_), some (1, rows ci_i64 r8.price_), some (7, [[.ref 4 0 r8.need_.length, .ref 5 0 r8.price_.length, .i .i64 r8.most_, .i .i64 r8.yield_, .i .i64 r8.store_, .i .i64 r8.first_, .i .i64 r8.loss_]]), some (1, rows ci_i64 r10.1)] [] ⟨ok15, ok17, ok19, ok27, ok32, ok48, ok49, trivial⟩ (by kernel_rfl) (by simp -implicitDefEqProofs) ?_
      obtain rfl := leafS h
      refine VW.ret (VRet.fin ?_)
      simp [eB14]
    · replace h := iteF g14 h
      refine VW.skip ?_
      refine VW.seq ?_
      refine VW.seq ?_
      obtain ⟨r15, q16, h⟩ := bindE h
      have c16 : F17 [.agg (pT24 aS)] = some (.agg [.own 1 (rows ci_i64 r15.need_), .own 1 (rows ci_i64 r15.price_), .i .i64 r15.most_, .i .i64 r15.yield_, .i .i64 r15.store_, .i .i64 r15.first_, .i .i64 r15.loss_]) := tells_eq inj17 (a := aS) q16
      obtain ⟨r17, q18, h⟩ := bindE h
      have c18 : F19 [.agg [.sl 1 (rows ci_i64 r8.need_), .sl 1 (rows ci_i64 r8.price_), .i .i64 r8.most_, .i .i64 r8.yield_, .i .i64 r8.store_, .i .i64 r8.first_, .i .i64 r8.loss_], .agg [.sl 1 (rows ci_i64 r15.need_), .sl 1 (rows ci_i64 r15.price_), .i .i64 r15.most_, .i .i64 r15.yield_, .i .i64 r15.store_, .i .i64 r15.first_, .i .i64 r15.loss_]] = some (.b r17) := tells_eq inj19 (a := (r8, r15)) q18
      refine VW.evalDA (C := [(15, F15), (17, F17), (19, F19), (27, F27), (32, F32), (48, F48), (49, F49)]) (tm 117 [(1, .ptr 0 0 0), (4, .ref 3 0 r6.1.length), (5, .i .i64 r6.2.1), (6, .i .i64 r6.2.2), (7, .ptr 6 0 0), (8, .ref 7 0 r10.1.length), (9, .i .i64 r10.2.1), (10, .i .i64 r10.2.2), (55, .b (!r17))]) [some (7, [(pT24 aS)]), some (1, rows ci_i64 r4.need_), some (1, rows ci_i64 r4.price_), some (1, rows ci_i64 r6.1), some (1, rows ci_i64 r8.need_), some (1, rows ci_i64 r8.price_), some (7, [[.ref 4 0 r8.need_.length, .ref 5 0 r8.price_.length, .i .i64 r8.most_, .i .i64 r8.yield_, .i .i64 r8.store_, .i .i64 r8.first_, .i .i64 r8.loss_]]), some (1, rows ci_i64 r10.1), some (1, rows ci_i64 r15.need_), some (1, rows ci_i64 r15.price_)] [] ⟨ok15, ok17, ok19, ok27, ok32, ok48, ok49, trivial⟩ mixed (by kernel_rfl) (by simp -implicitDefEqProofs [c16, c18]) ?_
      refine VW.condB (b := (!r17)) (by simp) (fun g19 => ?_) (fun g19 => ?_)
      · replace h := iteT g19 h
        refine VW.seq ?_
        refine VW.evalA (C := [(15, F15), (17, F17), (19, F19), (27, F27), (32, F32), (48, F48), (49, F49)]) (tm 117 [(2, .b false)]) [some (7, [(pT24 aS)]), some (1, rows ci_i64 r4.need_), some (1, rows ci_i64 r4.price_), some (1, rows ci_i64 r6.1), some (1, rows ci_i64 r8.need_), some (1, rows ci_i64 r8.price_), some (7, [[.ref 4 0 r8.need_.length, .ref 5 0 r8.price_.length, .i .i64 r8.most_, .i .i64 r8.yield_, .i .i64 r8.store_, .i .i64 r8.first_, .i .i64 r8.loss_]]), some (1, rows ci_i64 r10.1), some (1, rows ci_i64 r15.need_), some (1, rows ci_i64 r15.price_)] [] ⟨ok15, ok17, ok19, ok27, ok32, ok48, ok49, trivial⟩ (by kernel_rfl) (by simp -implicitDefEqProofs) ?_
        obtain rfl := leafS h
        refine VW.ret (VRet.fin ?_)
        simp [eB14]
      · replace h := iteF g19 h
        refine VW.skip ?_
        refine VW.seq ?_
        refine VW.evalA (C := [(15, F15), (17, F17), (19, F19), (27, F27), (32, F32), (48, F48), (49, F49)]) (tm 117 [(1, .ptr 0 0 0), (4, .ref 3 0 r6.1.length), (5, .i .i64 r6.2.1), (6, .i .i64 r6.2.2), (7, .ptr 6 0 0), (8, .ref 7 0 r10.1.length), (9, .i .i64 r10.2.1), (10, .i .i64 r10.2.2), (11, .i .i64 1)]) [some (7, [(pT24 aS)]), some (1, rows ci_i64 r4.need_), some (1, rows ci_i64 r4.price_), some (1, rows ci_i64 r6.1), some (1, rows ci_i64 r8.need_), some (1, rows ci_i64 r8.price_), some (7, [[.ref 4 0 r8.need_.length, .ref 5 0 r8.price_.length, .i .i64 r8.most_, .i .i64 r8.yield_, .i .i64 r8.store_, .i .i64 r8.first_, .i .i64 r8.loss_]]), some (1, rows ci_i64 r10.1), some (1, rows ci_i64 r15.need_), some (1, rows ci_i64 r15.price_)] [] ⟨ok15, ok17, ok19, ok27, ok32, ok48, ok49, trivial⟩ (by kernel_rfl) (by simp -implicitDefEqProofs) ?_
        refine VW.seq ?_
        refine VW.inline (C := [(15, F15), (17, F17), (19, F19), (27, F27), (32, F32), (48, F48), (49, F49)]) 2 (tm 117 [(1, .ptr 0 0 0), (4, .ref 3 0 r6.1.length), (5, .i .i64 r6.2.1), (6, .i .i64 r6.2.2), (8, .ref 7 0 r10.1.length), (9, .i .i64 r10.2.1), (10, .i .i64 r10.2.2), (56, .agg [.ref 4 0 r8.need_.length, .ref 5 0 r8.price_.length, .i .i64 r8.most_, .i .i64 r8.yield_, .i .i64 r8.store_, .i .i64 r8.first_, .i .i64 r8.loss_]), (57, .i .i64 1)]) [some (7, [(pT24 aS)]), some (1, rows ci_i64 r4.need_), some (1, rows ci_i64 r4.price_), some (1, rows ci_i64 r6.1), some (1, rows ci_i64 r8.need_), some (1, rows ci_i64 r8.price_), some (7, [[.ref 4 0 r8.need_.length, .ref 5 0 r8.price_.length, .i .i64 r8.most_, .i .i64 r8.yield_, .i .i64 r8.store_, .i .i64 r8.first_, .i .i64 r8.loss_]]), some (1, rows ci_i64 r10.1), some (1, rows ci_i64 r15.need_), some (1, rows ci_i64 r15.price_)] [] rfl ⟨ok15, ok17, ok19, ok27, ok32, ok48, ok49, trivial⟩ (by kernel_rfl) (by simp -implicitDefEqProofs) rfl rfl Try.func30 rfl rfl rfl rfl (tm_length) ?_
        refine VW.ent (s := (⟨(tm 14 [(0, .agg [.ref 4 0 r8.need_.length, .ref 5 0 r8.price_.length, .i .i64 r8.most_, .i .i64 r8.yield_, .i .i64 r8.store_, .i .i64 r8.first_, .i .i64 r8.loss_]), (1, .i .i64 1)]), [some (7, [(pT24 aS)]), some (1, rows ci_i64 r4.need_), some (1, rows ci_i64 r4.price_), some (1, rows ci_i64 r6.1), some (1, rows ci_i64 r8.need_), some (1, rows ci_i64 r8.price_), some (7, [[.ref 4 0 r8.need_.length, .ref 5 0 r8.price_.length, .i .i64 r8.most_, .i .i64 r8.yield_, .i .i64 r8.store_, .i .i64 r8.first_, .i .i64 r8.loss_]]), some (1, rows ci_i64 r10.1), some (1, rows ci_i64 r15.need_), some (1, rows ci_i64 r15.price_)], ((tm 117 [(1, .ptr 0 0 0), (4, .ref 3 0 r6.1.length), (5, .i .i64 r6.2.1), (6, .i .i64 r6.2.2), (8, .ref 7 0 r10.1.length), (9, .i .i64 r10.2.1), (10, .i .i64 r10.2.2), (56, .agg [.ref 4 0 r8.need_.length, .ref 5 0 r8.price_.length, .i .i64 r8.most_, .i .i64 r8.yield_, .i .i64 r8.store_, .i .i64 r8.first_, .i .i64 r8.loss_]), (57, .i .i64 1)]) ++ [])⟩ : VS)) (Ent.eqs (by rw [tm_init]; simp) rfl (by simp)) ?_
        refine VW.seq ?_
        refine VW.evalA (C := [(15, F15), (17, F17), (19, F19), (27, F27), (32, F32), (48, F48), (49, F49)]) (tm 14 [(1, .i .i64 1), (2, .ptr 10 0 0)]) [some (7, [(pT24 aS)]), some (1, rows ci_i64 r4.need_), some (1, rows ci_i64 r4.price_), some (1, rows ci_i64 r6.1), some (1, rows ci_i64 r8.need_), some (1, rows ci_i64 r8.price_), some (7, [[.ref 4 0 r8.need_.length, .ref 5 0 r8.price_.length, .i .i64 r8.most_, .i .i64 r8.yield_, .i .i64 r8.store_, .i .i64 r8.first_, .i .i64 r8.loss_]]), some (1, rows ci_i64 r10.1), some (1, rows ci_i64 r15.need_), some (1, rows ci_i64 r15.price_), some (7, [[.ref 4 0 r8.need_.length, .ref 5 0 r8.price_.length, .i .i64 r8.most_, .i .i64 r8.yield_, .i .i64 r8.store_, .i .i64 r8.first_, .i .i64 r8.loss_]])] ((tm 117 [(1, .ptr 0 0 0), (4, .ref 3 0 r6.1.length), (5, .i .i64 r6.2.1), (6, .i .i64 r6.2.2), (8, .ref 7 0 r10.1.length), (9, .i .i64 r10.2.1), (10, .i .i64 r10.2.2), (56, .agg [.ref 4 0 r8.need_.length, .ref 5 0 r8.price_.length, .i .i64 r8.most_, .i .i64 r8.yield_, .i .i64 r8.store_, .i .i64 r8.first_, .i .i64 r8.loss_]), (57, .i .i64 1)]) ++ []) ⟨ok15, ok17, ok19, ok27, ok32, ok48, ok49, trivial⟩ (by kernel_rfl) (by simp -implicitDefEqProofs) ?_
        refine VW.seq ?_
        refine VW.inline (C := [(15, F15), (17, F17), (19, F19), (27, F27), (32, F32), (48, F48), (49, F49)]) 3 (tm 14 [(2, .ptr 10 0 0), (6, .ref 4 0 r8.need_.length), (7, .i .i64 1)]) [some (7, [(pT24 aS)]), some (1, rows ci_i64 r4.need_), some (1, rows ci_i64 r4.price_), some (1, rows ci_i64 r6.1), some (1, rows ci_i64 r8.need_), some (1, rows ci_i64 r8.price_), some (7, [[.ref 4 0 r8.need_.length, .ref 5 0 r8.price_.length, .i .i64 r8.most_, .i .i64 r8.yield_, .i .i64 r8.store_, .i .i64 r8.first_, .i .i64 r8.loss_]]), some (1, rows ci_i64 r10.1), some (1, rows ci_i64 r15.need_), some (1, rows ci_i64 r15.price_), some (7, [[.ref 4 0 r8.need_.length, .ref 5 0 r8.price_.length, .i .i64 r8.most_, .i .i64 r8.yield_, .i .i64 r8.store_, .i .i64 r8.first_, .i .i64 r8.loss_]])] ((tm 117 [(1, .ptr 0 0 0), (4, .ref 3 0 r6.1.length), (5, .i .i64 r6.2.1), (6, .i .i64 r6.2.2), (8, .ref 7 0 r10.1.length), (9, .i .i64 r10.2.1), (10, .i .i64 r10.2.2), (56, .agg [.ref 4 0 r8.need_.length, .ref 5 0 r8.price_.length, .i .i64 r8.most_, .i .i64 r8.yield_, .i .i64 r8.store_, .i .i64 r8.first_, .i .i64 r8.loss_]), (57, .i .i64 1)]) ++ []) rfl ⟨ok15, ok17, ok19, ok27, ok32, ok48, ok49, trivial⟩ (by kernel_rfl) (by simp -implicitDefEqProofs) rfl rfl Try.func31 rfl rfl rfl rfl (tm_length) ?_
        refine VW.ent (s := (⟨(tm 19 [(0, .ref 4 0 r8.need_.length), (1, .i .i64 1)]), [some (7, [(pT24 aS)]), some (1, rows ci_i64 r4.need_), some (1, rows ci_i64 r4.price_), some (1, rows ci_i64 r6.1), some (1, rows ci_i64 r8.need_), some (1, rows ci_i64 r8.price_), some (7, [[.ref 4 0 r8.need_.length, .ref 5 0 r8.price_.length, .i .i64 r8.most_, .i .i64 r8.yield_, .i .i64 r8.store_, .i .i64 r8.first_, .i .i64 r8.loss_]]), some (1, rows ci_i64 r10.1), some (1, rows ci_i64 r15.need_), some (1, rows ci_i64 r15.price_), some (7, [[.ref 4 0 r8.need_.length, .ref 5 0 r8.price_.length, .i .i64 r8.most_, .i .i64 r8.yield_, .i .i64 r8.store_, .i .i64 r8.first_, .i .i64 r8.loss_]])], ((tm 14 [(2, .ptr 10 0 0), (6, .ref 4 0 r8.need_.length), (7, .i .i64 1)]) ++ ((tm 117 [(1, .ptr 0 0 0), (4, .ref 3 0 r6.1.length), (5, .i .i64 r6.2.1), (6, .i .i64 r6.2.2), (8, .ref 7 0 r10.1.length), (9, .i .i64 r10.2.1), (10, .i .i64 r10.2.2), (56, .agg [.ref 4 0 r8.need_.length, .ref 5 0 r8.price_.length, .i .i64 r8.most_, .i .i64 r8.yield_, .i .i64 r8.store_, .i .i64 r8.first_, .i .i64 r8.loss_]), (57, .i .i64 1)]) ++ []))⟩ : VS)) (Ent.eqs (by rw [tm_init]; simp) rfl (by simp)) ?_
        refine VW.seq ?_
        refine VW.evalA (C := [(15, F15), (17, F17), (19, F19), (27, F27), (32, F32), (48, F48), (49, F49)]) (tm 19 [(0, .ref 4 0 r8.need_.length), (1, .i .i64 1)]) [some (7, [(pT24 aS)]), some (1, rows ci_i64 r4.need_), some (1, rows ci_i64 r4.price_), some (1, rows ci_i64 r6.1), some (1, rows ci_i64 r8.need_), some (1, rows ci_i64 r8.price_), some (7, [[.ref 4 0 r8.need_.length, .ref 5 0 r8.price_.length, .i .i64 r8.most_, .i .i64 r8.yield_, .i .i64 r8.store_, .i .i64 r8.first_, .i .i64 r8.loss_]]), some (1, rows ci_i64 r10.1), some (1, rows ci_i64 r15.need_), some (1, rows ci_i64 r15.price_), some (7, [[.ref 4 0 r8.need_.length, .ref 5 0 r8.price_.length, .i .i64 r8.most_, .i .i64 r8.yield_, .i .i64 r8.store_, .i .i64 r8.first_, .i .i64 r8.loss_]])] ((tm 14 [(2, .ptr 10 0 0), (6, .ref 4 0 r8.need_.length), (7, .i .i64 1)]) ++ ((tm 117 [(1, .ptr 0 0 0), (4, .ref 3 0 r6.1.length), (5, .i .i64 r6.2.1), (6, .i .i64 r6.2.2), (8, .ref 7 0 r10.1.length), (9, .i .i64 r10.2.1), (10, .i .i64 r10.2.2), (56, .agg [.ref 4 0 r8.need_.length, .ref 5 0 r8.price_.length, .i .i64 r8.most_, .i .i64 r8.yield_, .i .i64 r8.store_, .i .i64 r8.first_, .i .i64 r8.loss_]), (57, .i .i64 1)]) ++ [])) ⟨ok15, ok17, ok19, ok27, ok32, ok48, ok49, trivial⟩ (by kernel_rfl) (by simp -implicitDefEqProofs) ?_
        refine VW.join (fun (v : Int × (List Int)) => (⟨(tm 19 [(1, .i .i64 v.1)]), [some (7, [(pT24 aS)]), some (1, rows ci_i64 r4.need_), some (1, rows ci_i64 r4.price_), some (1, rows ci_i64 r6.1), some (1, rows ci_i64 v.2), some (1, rows ci_i64 r8.price_), some (7, [[.ref 4 0 v.2.length, .ref 5 0 r8.price_.length, .i .i64 r8.most_, .i .i64 r8.yield_, .i .i64 r8.store_, .i .i64 r8.first_, .i .i64 r8.loss_]]), some (1, rows ci_i64 r10.1), some (1, rows ci_i64 r15.need_), some (1, rows ci_i64 r15.price_), some (7, [[.ref 4 0 v.2.length, .ref 5 0 r8.price_.length, .i .i64 r8.most_, .i .i64 r8.yield_, .i .i64 r8.store_, .i .i64 r8.first_, .i .i64 r8.loss_]])], ((tm 14 [(2, .ptr 10 0 0), (6, .ref 4 0 v.2.length), (7, .i .i64 1)]) ++ ((tm 117 [(1, .ptr 0 0 0), (4, .ref 3 0 r6.1.length), (5, .i .i64 r6.2.1), (6, .i .i64 r6.2.2), (8, .ref 7 0 r10.1.length), (9, .i .i64 r10.2.1), (10, .i .i64 r10.2.2), (56, .agg [.ref 4 0 v.2.length, .ref 5 0 r8.price_.length, .i .i64 r8.most_, .i .i64 r8.yield_, .i .i64 r8.store_, .i .i64 r8.first_, .i .i64 r8.loss_]), (57, .i .i64 1)]) ++ []))⟩ : VS)) (fun v => (g14_j1 r8 r10 r6 aS (v.1) (v.2)).bind some = some r) ?_ ?_
        · refine VW.seq ?_
          refine VW.evalA (C := [(15, F15), (17, F17), (19, F19), (27, F27), (32, F32), (48, F48), (49, F49)]) (tm 19 [(0, .ref 4 0 r8.need_.length), (1, .i .i64 1), (5, .i .i64 0)]) [some (7, [(pT24 aS)]), some (1, rows ci_i64 r4.need_), some (1, rows ci_i64 r4.price_), some (1, rows ci_i64 r6.1), some (1, rows ci_i64 r8.need_), some (1, rows ci_i64 r8.price_), some (7, [[.ref 4 0 r8.need_.length, .ref 5 0 r8.price_.length, .i .i64 r8.most_, .i .i64 r8.yield_, .i .i64 r8.store_, .i .i64 r8.first_, .i .i64 r8.loss_]]), some (1, rows ci_i64 r10.1), some (1, rows ci_i64 r15.need_), some (1, rows ci_i64 r15.price_), some (7, [[.ref 4 0 r8.need_.length, .ref 5 0 r8.price_.length, .i .i64 r8.most_, .i .i64 r8.yield_, .i .i64 r8.store_, .i .i64 r8.first_, .i .i64 r8.loss_]])] ((tm 14 [(2, .ptr 10 0 0), (6, .ref 4 0 r8.need_.length), (7, .i .i64 1)]) ++ ((tm 117 [(1, .ptr 0 0 0), (4, .ref 3 0 r6.1.length), (5, .i .i64 r6.2.1), (6, .i .i64 r6.2.2), (8, .ref 7 0 r10.1.length), (9, .i .i64 r10.2.1), (10, .i .i64 r10.2.2), (56, .agg [.ref 4 0 r8.need_.length, .ref 5 0 r8.price_.length, .i .i64 r8.most_, .i .i64 r8.yield_, .i .i64 r8.store_, .i .i64 r8.first_, .i .i64 r8.loss_]), (57, .i .i64 1)]) ++ [])) ⟨ok15, ok17, ok19, ok27, ok32, ok48, ok49, trivial⟩ (by kernel_rfl) (by simp -implicitDefEqProofs) ?_
          refine VW.block ?_
          obtain ⟨w_3, hw_3, h⟩ := bindE h
          refine VW.loopO (fun (x : Int × Int × (List Int)) => (⟨(tm 19 [(0, .ref 4 0 x.2.2.length), (1, .i .i64 x.1), (5, .i .i64 x.2.1)]), [some (7, [(pT24 aS)]), some (1, rows ci_i64 r4.need_), some (1, rows ci_i64 r4.price_), some (1, rows ci_i64 r6.1), some (1, rows ci_i64 x.2.2), some (1, rows ci_i64 r8.price_), some (7, [[.ref 4 0 x.2.2.length, .ref 5 0 r8.price_.length, .i .i64 r8.most_, .i .i64 r8.yield_, .i .i64 r8.store_, .i .i64 r8.first_, .i .i64 r8.loss_]]), some (1, rows ci_i64 r10.1), some (1, rows ci_i64 r15.need_), some (1, rows ci_i64 r15.price_), some (7, [[.ref 4 0 x.2.2.length, .ref 5 0 r8.price_.length, .i .i64 r8.most_, .i .i64 r8.yield_, .i .i64 r8.store_, .i .i64 r8.first_, .i .i64 r8.loss_]])], ((tm 14 [(2, .ptr 10 0 0), (6, .ref 4 0 x.2.2.length), (7, .i .i64 1)]) ++ ((tm 117 [(1, .ptr 0 0 0), (4, .ref 3 0 r6.1.length), (5, .i .i64 r6.2.1), (6, .i .i64 r6.2.2), (8, .ref 7 0 r10.1.length), (9, .i .i64 r10.2.1), (10, .i .i64 r10.2.2), (56, .agg [.ref 4 0 x.2.2.length, .ref 5 0 r8.price_.length, .i .i64 r8.most_, .i .i64 r8.yield_, .i .i64 r8.store_, .i .i64 r8.first_, .i .i64 r8.loss_]), (57, .i .i64 1)]) ++ []))⟩ : VS)) hw_3 (Ent.to 11 (by simp [fgt]) (by first | (simp; done) | simp [pT24]) (by simp) (by simp [bndT, bndV]) (by simp [bndM, bndV]) (hgg := by simp [bndT, bndV])) ?_
          rintro n_3 ⟨k_133, i_134, l135⟩ h1
          rw [g14_L3] at h1
          refine VW.seq ?_
          refine VW.seq ?_
          refine VW.evalA (C := [(15, F15), (17, F17), (19, F19), (27, F27), (32, F32), (48, F48), (49, F49)]) (tm 19 [(0, .ref 4 0 l135.length), (1, .i .i64 k_133), (5, .i .i64 i_134), (9, .b (ltI i_134 (l135.length : Int)))]) [some (7, [(pT24 aS)]), some (1, rows ci_i64 r4.need_), some (1, rows ci_i64 r4.price_), some (1, rows ci_i64 r6.1), some (1, rows ci_i64 l135), some (1, rows ci_i64 r8.price_), some (7, [[.ref 4 0 l135.length, .ref 5 0 r8.price_.length, .i .i64 r8.most_, .i .i64 r8.yield_, .i .i64 r8.store_, .i .i64 r8.first_, .i .i64 r8.loss_]]), some (1, rows ci_i64 r10.1), some (1, rows ci_i64 r15.need_), some (1, rows ci_i64 r15.price_), some (7, [[.ref 4 0 l135.length, .ref 5 0 r8.price_.length, .i .i64 r8.most_, .i .i64 r8.yield_, .i .i64 r8.store_, .i .i64 r8.first_, .i .i64 r8.loss_]])] ((tm 14 [(2, .ptr 10 0 0), (6, .ref 4 0 l135.length), (7, .i .i64 1)]) ++ ((tm 117 [(1, .ptr 0 0 0), (4, .ref 3 0 r6.1.length), (5, .i .i64 r6.2.1), (6, .i .i64 r6.2.2), (8, .ref 7 0 r10.1.length), (9, .i .i64 r10.2.1), (10, .i .i64 r10.2.2), (56, .agg [.ref 4 0 l135.length, .ref 5 0 r8.price_.length, .i .i64 r8.most_, .i .i64 r8.yield_, .i .i64 r8.store_, .i .i64 r8.first_, .i .i64 r8.loss_]), (57, .i .i64 1)]) ++ [])) ⟨ok15, ok17, ok19, ok27, ok32, ok48, ok49, trivial⟩ (by kernel_rfl) (by simp -implicitDefEqProofs) ?_
          refine VW.condB (b := ltI i_134 (l135.length : Int)) (by simp) (fun g136 => ?_) (fun g136 => ?_)
          · replace h1 := iteT g136 h1
            refine VW.skip ?_
            refine VW.seq ?_
            refine VW.block ?_
            refine VW.seq ?_
            obtain ⟨e137, q138, h1⟩ := bindE h1
            obtain ⟨f138a, f138b, f138c, f138d⟩ := idx_some q138
            refine VW.evalA (C := [(15, F15), (17, F17), (19, F19), (27, F27), (32, F32), (48, F48), (49, F49)]) (tm 19 [(0, .ref 4 0 (l135.set i_134.toNat k_133).length), (1, .i .i64 k_133), (5, .i .i64 i_134)]) [some (7, [(pT24 aS)]), some (1, rows ci_i64 r4.need_), some (1, rows ci_i64 r4.price_), some (1, rows ci_i64 r6.1), some (1, rows ci_i64 (l135.set i_134.toNat k_133)), some (1, rows ci_i64 r8.price_), some (7, [[.ref 4 0 (l135.set i_134.toNat k_133).length, .ref 5 0 r8.price_.length, .i .i64 r8.most_, .i .i64 r8.yield_, .i .i64 r8.store_, .i .i64 r8.first_, .i .i64 r8.loss_]]), some (1, rows ci_i64 r10.1), some (1, rows ci_i64 r15.need_), some (1, rows ci_i64 r15.price_), some (7, [[.ref 4 0 (l135.set i_134.toNat k_133).length, .ref 5 0 r8.price_.length, .i .i64 r8.most_, .i .i64 r8.yield_, .i .i64 r8.store_, .i .i64 r8.first_, .i .i64 r8.loss_]])] ((tm 14 [(2, .ptr 10 0 0), (6, .ref 4 0 (l135.set i_134.toNat k_133).length), (7, .i .i64 1)]) ++ ((tm 117 [(1, .ptr 0 0 0), (4, .ref 3 0 r6.1.length), (5, .i .i64 r6.2.1), (6, .i .i64 r6.2.2), (8, .ref 7 0 r10.1.length), (9, .i .i64 r10.2.1), (10, .i .i64 r10.2.2), (56, .agg [.ref 4 0 (l135.set i_134.toNat k_133).length, .ref 5 0 r8.price_.length, .i .i64 r8.most_, .i .i64 r8.yield_, .i .i64 r8.store_, .i .i64 r8.first_, .i .i64 r8.loss_]), (57, .i .i64 1)]) ++ [])) ⟨ok15, ok17, ok19, ok27, ok32, ok48, ok49, trivial⟩ (by kernel_rfl) (by simp -implicitDefEqProofs [f138a, f138b, f138c, f138d]) ?_
            refine VW.evalA (C := [(15, F15), (17, F17), (19, F19), (27, F27), (32, F32), (48, F48), (49, F49)]) (tm 19 [(0, .ref 4 0 (l135.set i_134.toNat k_133).length), (1, .i .i64 (aI .i64 k_133 1)), (5, .i .i64 i_134)]) [some (7, [(pT24 aS)]), some (1, rows ci_i64 r4.need_), some (1, rows ci_i64 r4.price_), some (1, rows ci_i64 r6.1), some (1, rows ci_i64 (l135.set i_134.toNat k_133)), some (1, rows ci_i64 r8.price_), some (7, [[.ref 4 0 (l135.set i_134.toNat k_133).length, .ref 5 0 r8.price_.length, .i .i64 r8.most_, .i .i64 r8.yield_, .i .i64 r8.store_, .i .i64 r8.first_, .i .i64 r8.loss_]]), some (1, rows ci_i64 r10.1), some (1, rows ci_i64 r15.need_), some (1, rows ci_i64 r15.price_), some (7, [[.ref 4 0 (l135.set i_134.toNat k_133).length, .ref 5 0 r8.price_.length, .i .i64 r8.most_, .i .i64 r8.yield_, .i .i64 r8.store_, .i .i64 r8.first_, .i .i64 r8.loss_]])] ((tm 14 [(2, .ptr 10 0 0), (6, .ref 4 0 (l135.set i_134.toNat k_133).length), (7, .i .i64 1)]) ++ ((tm 117 [(1, .ptr 0 0 0), (4, .ref 3 0 r6.1.length), (5, .i .i64 r6.2.1), (6, .i .i64 r6.2.2), (8, .ref 7 0 r10.1.length), (9, .i .i64 r10.2.1), (10, .i .i64 r10.2.2), (56, .agg [.ref 4 0 (l135.set i_134.toNat k_133).length, .ref 5 0 r8.price_.length, .i .i64 r8.most_, .i .i64 r8.yield_, .i .i64 r8.store_, .i .i64 r8.first_, .i .i64 r8.loss_]), (57, .i .i64 1)]) ++ [])) ⟨ok15, ok17, ok19, ok27, ok32, ok48, ok49, trivial⟩ (by kernel_rfl) (by simp -implicitDefEqProofs) ?_
            refine VW.evalA (C := [(15, F15), (17, F17), (19, F19), (27, F27), (32, F32), (48, F48), (49, F49)]) (tm 19 [(0, .ref 4 0 (l135.set i_134.toNat k_133).length), (1, .i .i64 (aI .i64 k_133 1)), (5, .i .i64 (aI .i64 i_134 1))]) [some (7, [(pT24 aS)]), some (1, rows ci_i64 r4.need_), some (1, rows ci_i64 r4.price_), some (1, rows ci_i64 r6.1), some (1, rows ci_i64 (l135.set i_134.toNat k_133)), some (1, rows ci_i64 r8.price_), some (7, [[.ref 4 0 (l135.set i_134.toNat k_133).length, .ref 5 0 r8.price_.length, .i .i64 r8.most_, .i .i64 r8.yield_, .i .i64 r8.store_, .i .i64 r8.first_, .i .i64 r8.loss_]]), some (1, rows ci_i64 r10.1), some (1, rows ci_i64 r15.need_), some (1, rows ci_i64 r15.price_), some (7, [[.ref 4 0 (l135.set i_134.toNat k_133).length, .ref 5 0 r8.price_.length, .i .i64 r8.most_, .i .i64 r8.yield_, .i .i64 r8.store_, .i .i64 r8.first_, .i .i64 r8.loss_]])] ((tm 14 [(2, .ptr 10 0 0), (6, .ref 4 0 (l135.set i_134.toNat k_133).length), (7, .i .i64 1)]) ++ ((tm 117 [(1, .ptr 0 0 0), (4, .ref 3 0 r6.1.length), (5, .i .i64 r6.2.1), (6, .i .i64 r6.2.2), (8, .ref 7 0 r10.1.length), (9, .i .i64 r10.2.1), (10, .i .i64 r10.2.2), (56, .agg [.ref 4 0 (l135.set i_134.toNat k_133).length, .ref 5 0 r8.price_.length, .i .i64 r8.most_, .i .i64 r8.yield_, .i .i64 r8.store_, .i .i64 r8.first_, .i .i64 r8.loss_]), (57, .i .i64 1)]) ++ [])) ⟨ok15, ok17, ok19, ok27, ok32, ok48, ok49, trivial⟩ (by kernel_rfl) (by simp -implicitDefEqProofs) ?_
            exact (show ∃ _, _ from ⟨(aI .i64 k_133 1, aI .i64 i_134 1, (l135.set i_134.toNat k_133)), leafL h1, (Ent.to 11 (by simp [fgt]) (by first | (simp; done) | simp [pT24]) (by simp) (by simp [bndT, bndV]) (by simp [bndM, bndV]) (hgg := by simp [bndT, bndV]))⟩)
          · replace h1 := iteF g136 h1
            refine VW.exit ?_
            have e_ := leafR h1
            subst w_3
            exact (show ∃ _, _ from ⟨(k_133, l135), h, (Ent.to 11 (by simp [fgt]) (by first | (simp; done) | simp [pT24]) (by simp) (by simp [bndT, bndV]) (by simp [bndM, bndV]) (hgg := by simp [bndT, bndV]))⟩)
        · rintro ⟨k_35, l36⟩ h
          replace h : (g14_j1 r8 r10 r6 aS k_35 l36).bind _ = _ := h
          rw [g14_j1] at h
          refine VW.seq ?_
          refine VW.evalA (C := [(15, F15), (17, F17), (19, F19), (27, F27), (32, F32), (48, F48), (49, F49)]) (tm 19 [(4, .i .i64 k_35)]) [some (7, [(pT24 aS)]), some (1, rows ci_i64 r4.need_), some (1, rows ci_i64 r4.price_), some (1, rows ci_i64 r6.1), some (1, rows ci_i64 l36), some (1, rows ci_i64 r8.price_), some (7, [[.ref 4 0 l36.length, .ref 5 0 r8.price_.length, .i .i64 r8.most_, .i .i64 r8.yield_, .i .i64 r8.store_, .i .i64 r8.first_, .i .i64 r8.loss_]]), some (1, rows ci_i64 r10.1), some (1, rows ci_i64 r15.need_), some (1, rows ci_i64 r15.price_), some (7, [[.ref 4 0 l36.length, .ref 5 0 r8.price_.length, .i .i64 r8.most_, .i .i64 r8.yield_, .i .i64 r8.store_, .i .i64 r8.first_, .i .i64 r8.loss_]])] ((tm 14 [(2, .ptr 10 0 0), (6, .ref 4 0 l36.length), (7, .i .i64 1)]) ++ ((tm 117 [(1, .ptr 0 0 0), (4, .ref 3 0 r6.1.length), (5, .i .i64 r6.2.1), (6, .i .i64 r6.2.2), (8, .ref 7 0 r10.1.length), (9, .i .i64 r10.2.1), (10, .i .i64 r10.2.2), (56, .agg [.ref 4 0 l36.length, .ref 5 0 r8.price_.length, .i .i64 r8.most_, .i .i64 r8.yield_, .i .i64 r8.store_, .i .i64 r8.first_, .i .i64 r8.loss_]), (57, .i .i64 1)]) ++ [])) ⟨ok15, ok17, ok19, ok27, ok32, ok48, ok49, trivial⟩ (by kernel_rfl) (by simp -implicitDefEqProofs) ?_
          refine VW.ret (VIn.ret (v := .i .i64 k_35) (by simp) ?_)
          refine VL.evalP (C := [(15, F15), (17, F17), (19, F19), (27, F27), (32, F32), (48, F48), (49, F49)]) (tm 14 [(1, .i .i64 k_35), (2, .ptr 10 0 0)]) [some (7, [(pT24 aS)]), some (1, rows ci_i64 r4.need_), some (1, rows ci_i64 r4.price_), some (1, rows ci_i64 r6.1), some (1, rows ci_i64 l36), some (1, rows ci_i64 r8.price_), some (7, [[.ref 4 0 l36.length, .ref 5 0 r8.price_.length, .i .i64 r8.most_, .i .i64 r8.yield_, .i .i64 r8.store_, .i .i64 r8.first_, .i .i64 r8.loss_]]), some (1, rows ci_i64 r10.1), some (1, rows ci_i64 r15.need_), some (1, rows ci_i64 r15.price_), some (7, [[.ref 4 0 l36.length, .ref 5 0 r8.price_.length, .i .i64 r8.most_, .i .i64 r8.yield_, .i .i64 r8.store_, .i .i64 r8.first_, .i .i64 r8.loss_]])] ((tm 117 [(1, .ptr 0 0 0), (4, .ref 3 0 r6.1.length), (5, .i .i64 r6.2.1), (6, .i .i64 r6.2.2), (8, .ref 7 0 r10.1.length), (9, .i .i64 r10.2.1), (10, .i .i64 r10.2.2), (56, .agg [.ref 4 0 l36.length, .ref 5 0 r8.price_.length, .i .i64 r8.most_, .i .i64 r8.yield_, .i .i64 r8.store_, .i .i64 r8.first_, .i .i64 r8.loss_]), (57, .i .i64 1)]) ++ []) ⟨ok15, ok17, ok19, ok27, ok32, ok48, ok49, trivial⟩ (by kernel_rfl) (by simp -implicitDefEqProofs) ?_
          refine VW.seq ?_
          refine VW.inline (C := [(15, F15), (17, F17), (19, F19), (27, F27), (32, F32), (48, F48), (49, F49)]) 3 (tm 14 [(10, .ref 5 0 r8.price_.length), (11, .i .i64 k_35)]) [some (7, [(pT24 aS)]), some (1, rows ci_i64 r4.need_), some (1, rows ci_i64 r4.price_), some (1, rows ci_i64 r6.1), some (1, rows ci_i64 l36), some (1, rows ci_i64 r8.price_), some (7, [[.ref 4 0 l36.length, .ref 5 0 r8.price_.length, .i .i64 r8.most_, .i .i64 r8.yield_, .i .i64 r8.store_, .i .i64 r8.first_, .i .i64 r8.loss_]]), some (1, rows ci_i64 r10.1), some (1, rows ci_i64 r15.need_), some (1, rows ci_i64 r15.price_), some (7, [[.ref 4 0 l36.length, .ref 5 0 r8.price_.length, .i .i64 r8.most_, .i .i64 r8.yield_, .i .i64 r8.store_, .i .i64 r8.first_, .i .i64 r8.loss_]])] ((tm 117 [(1, .ptr 0 0 0), (4, .ref 3 0 r6.1.length), (5, .i .i64 r6.2.1), (6, .i .i64 r6.2.2), (8, .ref 7 0 r10.1.length), (9, .i .i64 r10.2.1), (10, .i .i64 r10.2.2), (56, .agg [.ref 4 0 l36.length, .ref 5 0 r8.price_.length, .i .i64 r8.most_, .i .i64 r8.yield_, .i .i64 r8.store_, .i .i64 r8.first_, .i .i64 r8.loss_]), (57, .i .i64 1)]) ++ []) rfl ⟨ok15, ok17, ok19, ok27, ok32, ok48, ok49, trivial⟩ (by kernel_rfl) (by simp -implicitDefEqProofs) rfl rfl Try.func31 rfl rfl rfl rfl (tm_length) ?_
          refine VW.ent (s := (⟨(tm 19 [(0, .ref 5 0 r8.price_.length), (1, .i .i64 k_35)]), [some (7, [(pT24 aS)]), some (1, rows ci_i64 r4.need_), some (1, rows ci_i64 r4.price_), some (1, rows ci_i64 r6.1), some (1, rows ci_i64 l36), some (1, rows ci_i64 r8.price_), some (7, [[.ref 4 0 l36.length, .ref 5 0 r8.price_.length, .i .i64 r8.most_, .i .i64 r8.yield_, .i .i64 r8.store_, .i .i64 r8.first_, .i .i64 r8.loss_]]), some (1, rows ci_i64 r10.1), some (1, rows ci_i64 r15.need_), some (1, rows ci_i64 r15.price_), some (7, [[.ref 4 0 l36.length, .ref 5 0 r8.price_.length, .i .i64 r8.most_, .i .i64 r8.yield_, .i .i64 r8.store_, .i .i64 r8.first_, .i .i64 r8.loss_]])], ((tm 14 [(10, .ref 5 0 r8.price_.length), (11, .i .i64 k_35)]) ++ ((tm 117 [(1, .ptr 0 0 0), (4, .ref 3 0 r6.1.length), (5, .i .i64 r6.2.1), (6, .i .i64 r6.2.2), (8, .ref 7 0 r10.1.length), (9, .i .i64 r10.2.1), (10, .i .i64 r10.2.2), (56, .agg [.ref 4 0 l36.length, .ref 5 0 r8.price_.length, .i .i64 r8.most_, .i .i64 r8.yield_, .i .i64 r8.store_, .i .i64 r8.first_, .i .i64 r8.loss_]), (57, .i .i64 1)]) ++ []))⟩ : VS)) (Ent.eqs (by rw [tm_init]; simp) rfl (by simp)) ?_
          refine VW.seq ?_
          refine VW.evalA (C := [(15, F15), (17, F17), (19, F19), (27, F27), (32, F32), (48, F48), (49, F49)]) (tm 19 [(0, .ref 5 0 r8.price_.length), (1, .i .i64 k_35)]) [some (7, [(pT24 aS)]), some (1, rows ci_i64 r4.need_), some (1, rows ci_i64 r4.price_), some (1, rows ci_i64 r6.1), some (1, rows ci_i64 l36), some (1, rows ci_i64 r8.price_), some (7, [[.ref 4 0 l36.length, .ref 5 0 r8.price_.length, .i .i64 r8.most_, .i .i64 r8.yield_, .i .i64 r8.store_, .i .i64 r8.first_, .i .i64 r8.loss_]]), some (1, rows ci_i64 r10.1), some (1, rows ci_i64 r15.need_), some (1, rows ci_i64 r15.price_), some (7, [[.ref 4 0 l36.length, .ref 5 0 r8.price_.length, .i .i64 r8.most_, .i .i64 r8.yield_, .i .i64 r8.store_, .i .i64 r8.first_, .i .i64 r8.loss_]])] ((tm 14 [(10, .ref 5 0 r8.price_.length), (11, .i .i64 k_35)]) ++ ((tm 117 [(1, .ptr 0 0 0), (4, .ref 3 0 r6.1.length), (5, .i .i64 r6.2.1), (6, .i .i64 r6.2.2), (8, .ref 7 0 r10.1.length), (9, .i .i64 r10.2.1), (10, .i .i64 r10.2.2), (56, .agg [.ref 4 0 l36.length, .ref 5 0 r8.price_.length, .i .i64 r8.most_, .i .i64 r8.yield_, .i .i64 r8.store_, .i .i64 r8.first_, .i .i64 r8.loss_]), (57, .i .i64 1)]) ++ [])) ⟨ok15, ok17, ok19, ok27, ok32, ok48, ok49, trivial⟩ (by kernel_rfl) (by simp -implicitDefEqProofs) ?_
          refine VW.join (fun (v : Int × (List Int)) => (⟨(tm 19 [(1, .i .i64 v.1)]), [some (7, [(pT24 aS)]), some (1, rows ci_i64 r4.need_), some (1, rows ci_i64 r4.price_), some (1, rows ci_i64 r6.1), some (1, rows ci_i64 l36), some (1, rows ci_i64 v.2), some (7, [[.ref 4 0 l36.length, .ref 5 0 v.2.length, .i .i64 r8.most_, .i .i64 r8.yield_, .i .i64 r8.store_, .i .i64 r8.first_, .i .i64 r8.loss_]]), some (1, rows ci_i64 r10.1), some (1, rows ci_i64 r15.need_), some (1, rows ci_i64 r15.price_), some (7, [[.ref 4 0 l36.length, .ref 5 0 v.2.length, .i .i64 r8.most_, .i .i64 r8.yield_, .i .i64 r8.store_, .i .i64 r8.first_, .i .i64 r8.loss_]])], ((tm 14 [(10, .ref 5 0 v.2.length), (11, .i .i64 k_35)]) ++ ((tm 117 [(1, .ptr 0 0 0), (4, .ref 3 0 r6.1.length), (5, .i .i64 r6.2.1), (6, .i .i64 r6.2.2), (8, .ref 7 0 r10.1.length), (9, .i .i64 r10.2.1), (10, .i .i64 r10.2.2), (56, .agg [.ref 4 0 l36.length, .ref 5 0 v.2.length, .i .i64 r8.most_, .i .i64 r8.yield_, .i .i64 r8.store_, .i .i64 r8.first_, .i .i64 r8.loss_]), (57, .i .i64 1)]) ++ []))⟩ : VS)) (fun v => (g14_j2 r10 r6 aS (v.1) (v.2)).bind some = some r) ?_ ?_
          · refine VW.seq ?_
            refine VW.evalA (C := [(15, F15), (17, F17), (19, F19), (27, F27), (32, F32), (48, F48), (49, F49)]) (tm 19 [(0, .ref 5 0 r8.price_.length), (1, .i .i64 k_35), (5, .i .i64 0)]) [some (7, [(pT24 aS)]), some (1, rows ci_i64 r4.need_), some (1, rows ci_i64 r4.price_), some (1, rows ci_i64 r6.1), some (1, rows ci_i64 l36), some (1, rows ci_i64 r8.price_), some (7, [[.ref 4 0 l36.length, .ref 5 0 r8.price_.length, .i .i64 r8.most_, .i .i64 r8.yield_, .i .i64 r8.store_, .i .i64 r8.first_, .i .i64 r8.loss_]]), some (1, rows ci_i64 r10.1), some (1, rows ci_i64 r15.need_), some (1, rows ci_i64 r15.price_), some (7, [[.ref 4 0 l36.length, .ref 5 0 r8.price_.length, .i .i64 r8.most_, .i .i64 r8.yield_, .i .i64 r8.store_, .i .i64 r8.first_, .i .i64 r8.loss_]])] ((tm 14 [(10, .ref 5 0 r8.price_.length), (11, .i .i64 k_35)]) ++ ((tm 117 [(1, .ptr 0 0 0), (4, .ref 3 0 r6.1.length), (5, .i .i64 r6.2.1), (6, .i .i64 r6.2.2), (8, .ref 7 0 r10.1.length), (9, .i .i64 r10.2.1), (10, .i .i64 r10.2.2), (56, .agg [.ref 4 0 l36.length, .ref 5 0 r8.price_.length, .i .i64 r8.most_, .i .i64 r8.yield_, .i .i64 r8.store_, .i .i64 r8.first_, .i .i64 r8.loss_]), (57, .i .i64 1)]) ++ [])) ⟨ok15, ok17, ok19, ok27, ok32, ok48, ok49, trivial⟩ (by kernel_rfl) (by simp -implicitDefEqProofs) ?_
            refine VW.block ?_
            obtain ⟨w_2, hw_2, h⟩ := bindE h
            refine VW.loopO (fun (x : Int × Int × (List Int)) => (⟨(tm 19 [(0, .ref 5 0 x.2.2.length), (1, .i .i64 x.1), (5, .i .i64 x.2.1)]), [some (7, [(pT24 aS)]), some (1, rows ci_i64 r4.need_), some (1, rows ci_i64 r4.price_), some (1, rows ci_i64 r6.1), some (1, rows ci_i64 l36), some (1, rows ci_i64 x.2.2), some (7, [[.ref 4 0 l36.length, .ref 5 0 x.2.2.length, .i .i64 r8.most_, .i .i64 r8.yield_, .i .i64 r8.store_, .i .i64 r8.first_, .i .i64 r8.loss_]]), some (1, rows ci_i64 r10.1), some (1, rows ci_i64 r15.need_), some (1, rows ci_i64 r15.price_), some (7, [[.ref 4 0 l36.length, .ref 5 0 x.2.2.length, .i .i64 r8.most_, .i .i64 r8.yield_, .i .i64 r8.store_, .i .i64 r8.first_, .i .i64 r8.loss_]])], ((tm 14 [(10, .ref 5 0 x.2.2.length), (11, .i .i64 k_35)]) ++ ((tm 117 [(1, .ptr 0 0 0), (4, .ref 3 0 r6.1.length), (5, .i .i64 r6.2.1), (6, .i .i64 r6.2.2), (8, .ref 7 0 r10.1.length), (9, .i .i64 r10.2.1), (10, .i .i64 r10.2.2), (56, .agg [.ref 4 0 l36.length, .ref 5 0 x.2.2.length, .i .i64 r8.most_, .i .i64 r8.yield_, .i .i64 r8.store_, .i .i64 r8.first_, .i .i64 r8.loss_]), (57, .i .i64 1)]) ++ []))⟩ : VS)) hw_2 (Ent.to 11 (by simp [fgt]) (by first | (simp; done) | simp [pT24]) (by simp) (by simp [bndT, bndV]) (by simp [bndM, bndV]) (hgg := by simp [bndT, bndV])) ?_
            rintro n_2 ⟨k_118, i_119, l120⟩ h1
            rw [g14_L2] at h1
            refine VW.seq ?_
            refine VW.seq ?_
            refine VW.evalA (C := [(15, F15), (17, F17), (19, F19), (27, F27), (32, F32), (48, F48), (49, F49)]) (tm 19 [(0, .ref 5 0 l120.length), (1, .i .i64 k_118), (5, .i .i64 i_119), (9, .b (ltI i_119 (l120.length : Int)))]) [some (7, [(pT24 aS)]), some (1, rows ci_i64 r4.need_), some (1, rows ci_i64 r4.price_), some (1, rows ci_i64 r6.1), some (1, rows ci_i64 l36), some (1, rows ci_i64 l120), some (7, [[.ref 4 0 l36.length, .ref 5 0 l120.length, .i .i64 r8.most_, .i .i64 r8.yield_, .i .i64 r8.store_, .i .i64 r8.first_, .i .i64 r8.loss_]]), some (1, rows ci_i64 r10.1), some (1, rows ci_i64 r15.need_), some (1, rows ci_i64 r15.price_), some (7, [[.ref 4 0 l36.length, .ref 5 0 l120.length, .i .i64 r8.most_, .i .i64 r8.yield_, .i .i64 r8.store_, .i .i64 r8.first_, .i .i64 r8.loss_]])] ((tm 14 [(10, .ref 5 0 l120.length), (11, .i .i64 k_35)]) ++ ((tm 117 [(1, .ptr 0 0 0), (4, .ref 3 0 r6.1.length), (5, .i .i64 r6.2.1), (6, .i .i64 r6.2.2), (8, .ref 7 0 r10.1.length), (9, .i .i64 r10.2.1), (10, .i .i64 r10.2.2), (56, .agg [.ref 4 0 l36.length, .ref 5 0 l120.length, .i .i64 r8.most_, .i .i64 r8.yield_, .i .i64 r8.store_, .i .i64 r8.first_, .i .i64 r8.loss_]), (57, .i .i64 1)]) ++ [])) ⟨ok15, ok17, ok19, ok27, ok32, ok48, ok49, trivial⟩ (by kernel_rfl) (by simp -implicitDefEqProofs) ?_
            refine VW.condB (b := ltI i_119 (l120.length : Int)) (by simp) (fun g121 => ?_) (fun g121 => ?_)
            · replace h1 := iteT g121 h1
              refine VW.skip ?_
              refine VW.seq ?_
              refine VW.block ?_
              refine VW.seq ?_
              obtain ⟨e122, q123, h1⟩ := bindE h1
              obtain ⟨f123a, f123b, f123c, f123d⟩ := idx_some q123
              refine VW.evalA (C := [(15, F15), (17, F17), (19, F19), (27, F27), (32, F32), (48, F48), (49, F49)]) (tm 19 [(0, .ref 5 0 (l120.set i_119.toNat k_118).length), (1, .i .i64 k_118), (5, .i .i64 i_119)]) [some (7, [(pT24 aS)]), some (1, rows ci_i64 r4.need_), some (1, rows ci_i64 r4.price_), some (1, rows ci_i64 r6.1), some (1, rows ci_i64 l36), some (1, rows ci_i64 (l120.set i_119.toNat k_118)), some (7, [[.ref 4 0 l36.length, .ref 5 0 (l120.set i_119.toNat k_118).length, .i .i64 r8.most_, .i .i64 r8.yield_, .i .i64 r8.store_, .i .i64 r8.first_, .i .i64 r8.loss_]]), some (1, rows ci_i64 r10.1), some (1, rows ci_i64 r15.need_), some (1, rows ci_i64 r15.price_), some (7, [[.ref 4 0 l36.length, .ref 5 0 (l120.set i_119.toNat k_118).length, .i .i64 r8.most_, .i .i64 r8.yield_, .i .i64 r8.store_, .i .i64 r8.first_, .i .i64 r8.loss_]])] ((tm 14 [(10, .ref 5 0 (l120.set i_119.toNat k_118).length), (11, .i .i64 k_35)]) ++ ((tm 117 [(1, .ptr 0 0 0), (4, .ref 3 0 r6.1.length), (5, .i .i64 r6.2.1), (6, .i .i64 r6.2.2), (8, .ref 7 0 r10.1.length), (9, .i .i64 r10.2.1), (10, .i .i64 r10.2.2), (56, .agg [.ref 4 0 l36.length, .ref 5 0 (l120.set i_119.toNat k_118).length, .i .i64 r8.most_, .i .i64 r8.yield_, .i .i64 r8.store_, .i .i64 r8.first_, .i .i64 r8.loss_]), (57, .i .i64 1)]) ++ [])) ⟨ok15, ok17, ok19, ok27, ok32, ok48, ok49, trivial⟩ (by kernel_rfl) (by simp -implicitDefEqProofs [f123a, f123b, f123c, f123d]) ?_
              refine VW.evalA (C := [(15, F15), (17, F17), (19, F19), (27, F27), (32, F32), (48, F48), (49, F49)]) (tm 19 [(0, .ref 5 0 (l120.set i_119.toNat k_118).length), (1, .i .i64 (aI .i64 k_118 1)), (5, .i .i64 i_119)]) [some (7, [(pT24 aS)]), some (1, rows ci_i64 r4.need_), some (1, rows ci_i64 r4.price_), some (1, rows ci_i64 r6.1), some (1, rows ci_i64 l36), some (1, rows ci_i64 (l120.set i_119.toNat k_118)), some (7, [[.ref 4 0 l36.length, .ref 5 0 (l120.set i_119.toNat k_118).length, .i .i64 r8.most_, .i .i64 r8.yield_, .i .i64 r8.store_, .i .i64 r8.first_, .i .i64 r8.loss_]]), some (1, rows ci_i64 r10.1), some (1, rows ci_i64 r15.need_), some (1, rows ci_i64 r15.price_), some (7, [[.ref 4 0 l36.length, .ref 5 0 (l120.set i_119.toNat k_118).length, .i .i64 r8.most_, .i .i64 r8.yield_, .i .i64 r8.store_, .i .i64 r8.first_, .i .i64 r8.loss_]])] ((tm 14 [(10, .ref 5 0 (l120.set i_119.toNat k_118).length), (11, .i .i64 k_35)]) ++ ((tm 117 [(1, .ptr 0 0 0), (4, .ref 3 0 r6.1.length), (5, .i .i64 r6.2.1), (6, .i .i64 r6.2.2), (8, .ref 7 0 r10.1.length), (9, .i .i64 r10.2.1), (10, .i .i64 r10.2.2), (56, .agg [.ref 4 0 l36.length, .ref 5 0 (l120.set i_119.toNat k_118).length, .i .i64 r8.most_, .i .i64 r8.yield_, .i .i64 r8.store_, .i .i64 r8.first_, .i .i64 r8.loss_]), (57, .i .i64 1)]) ++ [])) ⟨ok15, ok17, ok19, ok27, ok32, ok48, ok49, trivial⟩ (by kernel_rfl) (by simp -implicitDefEqProofs) ?_
              refine VW.evalA (C := [(15, F15), (17, F17), (19, F19), (27, F27), (32, F32), (48, F48), (49, F49)]) (tm 19 [(0, .ref 5 0 (l120.set i_119.toNat k_118).length), (1, .i .i64 (aI .i64 k_118 1)), (5, .i .i64 (aI .i64 i_119 1))]) [some (7, [(pT24 aS)]), some (1, rows ci_i64 r4.need_), some (1, rows ci_i64 r4.price_), some (1, rows ci_i64 r6.1), some (1, rows ci_i64 l36), some (1, rows ci_i64 (l120.set i_119.toNat k_118)), some (7, [[.ref 4 0 l36.length, .ref 5 0 (l120.set i_119.toNat k_118).length, .i .i64 r8.most_, .i .i64 r8.yield_, .i .i64 r8.store_, .i .i64 r8.first_, .i .i64 r8.loss_]]), some (1, rows ci_i64 r10.1), some (1, rows ci_i64 r15.need_), some (1, rows ci_i64 r15.price_), some (7, [[.ref 4 0 l36.length, .ref 5 0 (l120.set i_119.toNat k_118).length, .i .i64 r8.most_, .i .i64 r8.yield_, .i .i64 r8.store_, .i .i64 r8.first_, .i .i64 r8.loss_]])] ((tm 14 [(10, .ref 5 0 (l120.set i_119.toNat k_118).length), (11, .i .i64 k_35)]) ++ ((tm 117 [(1, .ptr 0 0 0), (4, .ref 3 0 r6.1.length), (5, .i .i64 r6.2.1), (6, .i .i64 r6.2.2), (8, .ref 7 0 r10.1.length), (9, .i .i64 r10.2.1), (10, .i .i64 r10.2.2), (56, .agg [.ref 4 0 l36.length, .ref 5 0 (l120.set i_119.toNat k_118).length, .i .i64 r8.most_, .i .i64 r8.yield_, .i .i64 r8.store_, .i .i64 r8.first_, .i .i64 r8.loss_]), (57, .i .i64 1)]) ++ [])) ⟨ok15, ok17, ok19, ok27, ok32, ok48, ok49, trivial⟩ (by kernel_rfl) (by simp -implicitDefEqProofs) ?_
              exact (show ∃ _, _ from ⟨(aI .i64 k_118 1, aI .i64 i_119 1, (l120.set i_119.toNat k_118)), leafL h1, (Ent.to 11 (by simp [fgt]) (by first | (simp; done) | simp [pT24]) (by simp) (by simp [bndT, bndV]) (by simp [bndM, bndV]) (hgg := by simp [bndT, bndV]))⟩)
            · replace h1 := iteF g121 h1
              refine VW.exit ?_
              have e_ := leafR h1
              subst w_2
              exact (show ∃ _, _ from ⟨(k_118, l120), h, (Ent.to 11 (by simp [fgt]) (by first | (simp; done) | simp [pT24]) (by simp) (by simp [bndT, bndV]) (by simp [bndM, bndV]) (hgg := by simp [bndT, bndV]))⟩)
          · rintro ⟨k_52, l53⟩ h
            replace h : (g14_j2 r10 r6 aS k_52 l53).bind _ = _ := h
            rw [g14_j2] at h
            refine VW.seq ?_
            refine VW.evalA (C := [(15, F15), (17, F17), (19, F19), (27, F27), (32, F32), (48, F48), (49, F49)]) (tm 19 [(4, .i .i64 k_52)]) [some (7, [(pT24 aS)]), some (1, rows ci_i64 r4.need_), some (1, rows ci_i64 r4.price_), some (1, rows ci_i64 r6.1), some (1, rows ci_i64 l36), some (1, rows ci_i64 l53), some (7, [[.ref 4 0 l36.length, .ref 5 0 l53.length, .i .i64 r8.most_, .i .i64 r8.yield_, .i .i64 r8.store_, .i .i64 r8.first_, .i .i64 r8.loss_]]), some (1, rows ci_i64 r10.1), some (1, rows ci_i64 r15.need_), some (1, rows ci_i64 r15.price_), some (7, [[.ref 4 0 l36.length, .ref 5 0 l53.length, .i .i64 r8.most_, .i .i64 r8.yield_, .i .i64 r8.store_, .i .i64 r8.first_, .i .i64 r8.loss_]])] ((tm 14 [(10, .ref 5 0 l53.length), (11, .i .i64 k_35)]) ++ ((tm 117 [(1, .ptr 0 0 0), (4, .ref 3 0 r6.1.length), (5, .i .i64 r6.2.1), (6, .i .i64 r6.2.2), (8, .ref 7 0 r10.1.length), (9, .i .i64 r10.2.1), (10, .i .i64 r10.2.2), (56, .agg [.ref 4 0 l36.length, .ref 5 0 l53.length, .i .i64 r8.most_, .i .i64 r8.yield_, .i .i64 r8.store_, .i .i64 r8.first_, .i .i64 r8.loss_]), (57, .i .i64 1)]) ++ [])) ⟨ok15, ok17, ok19, ok27, ok32, ok48, ok49, trivial⟩ (by kernel_rfl) (by simp -implicitDefEqProofs) ?_
            refine VW.ret (VIn.ret (v := .i .i64 k_52) (by simp) ?_)
            refine VL.evalP (C := [(15, F15), (17, F17), (19, F19), (27, F27), (32, F32), (48, F48), (49, F49)]) (tm 14 [(1, .i .i64 k_52)]) [some (7, [(pT24 aS)]), some (1, rows ci_i64 r4.need_), some (1, rows ci_i64 r4.price_), some (1, rows ci_i64 r6.1), some (1, rows ci_i64 l36), some (1, rows ci_i64 l53), some (7, [[.ref 4 0 l36.length, .ref 5 0 l53.length, .i .i64 r8.most_, .i .i64 r8.yield_, .i .i64 r8.store_, .i .i64 r8.first_, .i .i64 r8.loss_]]), some (1, rows ci_i64 r10.1), some (1, rows ci_i64 r15.need_), some (1, rows ci_i64 r15.price_), some (7, [[.ref 4 0 l36.length, .ref 5 0 l53.length, .i .i64 r8.most_, .i .i64 r8.yield_, .i .i64 r8.store_, .i .i64 r8.first_, .i .i64 r8.loss_]])] ((tm 117 [(1, .ptr 0 0 0), (4, .ref 3 0 r6.1.length), (5, .i .i64 r6.2.1), (6, .i .i64 r6.2.2), (8, .ref 7 0 r10.1.length), (9, .i .i64 r10.2.1), (10, .i .i64 r10.2.2), (56, .agg [.ref 4 0 l36.length, .ref 5 0 l53.length, .i .i64 r8.most_, .i .i64 r8.yield_, .i .i64 r8.store_, .i .i64 r8.first_, .i .i64 r8.loss_]), (57, .i .i64 1)]) ++ []) ⟨ok15, ok17, ok19, ok27, ok32, ok48, ok49, trivial⟩ (by kernel_rfl) (by simp -implicitDefEqProofs) ?_
            refine VW.seq ?_
            refine VW.evalA (C := [(15, F15), (17, F17), (19, F19), (27, F27), (32, F32), (48, F48), (49, F49)]) (tm 14 [(4, .i .i64 k_52)]) [some (7, [(pT24 aS)]), some (1, rows ci_i64 r4.need_), some (1, rows ci_i64 r4.price_), some (1, rows ci_i64 r6.1), some (1, rows ci_i64 l36), some (1, rows ci_i64 l53), some (7, [[.ref 4 0 l36.length, .ref 5 0 l53.length, .i .i64 r8.most_, .i .i64 r8.yield_, .i .i64 r8.store_, .i .i64 r8.first_, .i .i64 r8.loss_]]), some (1, rows ci_i64 r10.1), some (1, rows ci_i64 r15.need_), some (1, rows ci_i64 r15.price_), some (7, [[.ref 4 0 l36.length, .ref 5 0 l53.length, .i .i64 r8.most_, .i .i64 r8.yield_, .i .i64 r8.store_, .i .i64 r8.first_, .i .i64 r8.loss_]])] ((tm 117 [(1, .ptr 0 0 0), (4, .ref 3 0 r6.1.length), (5, .i .i64 r6.2.1), (6, .i .i64 r6.2.2), (8, .ref 7 0 r10.1.length), (9, .i .i64 r10.2.1), (10, .i .i64 r10.2.2), (56, .agg [.ref 4 0 l36.length, .ref 5 0 l53.length, .i .i64 r8.most_, .i .i64 r8.yield_, .i .i64 r8.store_, .i .i64 r8.first_, .i .i64 r8.loss_]), (57, .i .i64 1)]) ++ []) ⟨ok15, ok17, ok19, ok27, ok32, ok48, ok49, trivial⟩ (by kernel_rfl) (by simp -implicitDefEqProofs) ?_
            refine VW.ret (VIn.ret (v := .i .i64 k_52) (by simp) ?_)
            refine VL.evalP (C := [(15, F15), (17, F17), (19, F19), (27, F27), (32, F32), (48, F48), (49, F49)]) (tm 117 [(1, .ptr 0 0 0), (4, .ref 3 0 r6.1.length), (5, .i .i64 r6.2.1), (6, .i .i64 r6.2.2), (8, .ref 7 0 r10.1.length), (9, .i .i64 r10.2.1), (10, .i .i64 r10.2.2), (11, .i .i64 k_52)]) [some (7, [(pT24 aS)]), some (1, rows ci_i64 r4.need_), some (1, rows ci_i64 r4.price_), some (1, rows ci_i64 r6.1), some (1, rows ci_i64 l36), some (1, rows ci_i64 l53), some (7, [[.ref 4 0 l36.length, .ref 5 0 l53.length, .i .i64 r8.most_, .i .i64 r8.yield_, .i .i64 r8.store_, .i .i64 r8.first_, .i .i64 r8.loss_]]), some (1, rows ci_i64 r10.1), some (1, rows ci_i64 r15.need_), some (1, rows ci_i64 r15.price_), some (7, [[.ref 4 0 l36.length, .ref 5 0 l53.length, .i .i64 r8.most_, .i .i64 r8.yield_, .i .i64 r8.store_, .i .i64 r8.first_, .i .i64 r8.loss_]])] [] ⟨ok15, ok17, ok19, ok27, ok32, ok48, ok49, trivial⟩ (by kernel_rfl) (by simp -implicitDefEqProofs) ?_
            refine VW.seq ?_
            refine VW.seq ?_
            obtain ⟨w56, q105, h⟩ := bindE h
            refine VW.evalA (C := [(15, F15), (17, F17), (19, F19), (27, F27), (32, F32), (48, F48), (49, F49)]) (tm 117 [(1, .ptr 0 0 0), (4, .ref 3 0 r6.1.length), (5, .i .i64 r6.2.1), (6, .i .i64 r6.2.2), (8, .ref 7 0 r10.1.length), (76, .b ((w56 || (!eqI r10.2.1 r6.2.1)) || (!eqI r10.2.2 r6.2.2)))]) [some (7, [(pT24 aS)]), some (1, rows ci_i64 r4.need_), some (1, rows ci_i64 r4.price_), some (1, rows ci_i64 r6.1), some (1, rows ci_i64 l36), some (1, rows ci_i64 l53), some (7, [[.ref 4 0 l36.length, .ref 5 0 l53.length, .i .i64 r8.most_, .i .i64 r8.yield_, .i .i64 r8.store_, .i .i64 r8.first_, .i .i64 r8.loss_]]), some (1, rows ci_i64 r10.1), some (1, rows ci_i64 r15.need_), some (1, rows ci_i64 r15.price_), some (7, [[.ref 4 0 l36.length, .ref 5 0 l53.length, .i .i64 r8.most_, .i .i64 r8.yield_, .i .i64 r8.store_, .i .i64 r8.first_, .i .i64 r8.loss_]])] [] ⟨ok15, ok17, ok19, ok27, ok32, ok48, ok49, trivial⟩ (by kernel_rfl) (by
                rcases Bool.eq_false_or_eq_true (ltI k_52 0) with q106 | q106
                · first
                  | (simp at q106; done)
                  | (rw [if_pos q106] at q105
                     have d107 : w56 = _ := (Option.some.inj q105).symm
                     simp -implicitDefEqProofs [q106, d107])
                · first
                  | (simp at q106; done)
                  | (rw [if_neg (by rw [q106]; exact Bool.false_ne_true)] at q105
                     obtain ⟨r54, q55, q105⟩ := bindQ q105
                     have c55 : F27 [.sl 1 (rows ci_i64 r10.1), .sl 1 (rows ci_i64 r6.1)] = some (.b r54) := tells_eq inj27 (a := (r10.1, r6.1)) q55
                     have d108 : w56 = _ := (Option.some.inj q105).symm
                     simp -implicitDefEqProofs [q106, c55, d108])) ?_
            refine VW.condB (b := ((w56 || (!eqI r10.2.1 r6.2.1)) || (!eqI r10.2.2 r6.2.2))) (by simp) (fun g57 => ?_) (fun g57 => ?_)
            · replace h := iteT g57 h
              refine VW.seq ?_
              refine VW.evalA (C := [(15, F15), (17, F17), (19, F19), (27, F27), (32, F32), (48, F48), (49, F49)]) (tm 117 [(2, .b false)]) [some (7, [(pT24 aS)]), some (1, rows ci_i64 r4.need_), some (1, rows ci_i64 r4.price_), some (1, rows ci_i64 r6.1), some (1, rows ci_i64 l36), some (1, rows ci_i64 l53), some (7, [[.ref 4 0 l36.length, .ref 5 0 l53.length, .i .i64 r8.most_, .i .i64 r8.yield_, .i .i64 r8.store_, .i .i64 r8.first_, .i .i64 r8.loss_]]), some (1, rows ci_i64 r10.1), some (1, rows ci_i64 r15.need_), some (1, rows ci_i64 r15.price_), some (7, [[.ref 4 0 l36.length, .ref 5 0 l53.length, .i .i64 r8.most_, .i .i64 r8.yield_, .i .i64 r8.store_, .i .i64 r8.first_, .i .i64 r8.loss_]])] [] ⟨ok15, ok17, ok19, ok27, ok32, ok48, ok49, trivial⟩ (by kernel_rfl) (by simp -implicitDefEqProofs) ?_
              obtain rfl := leafS h
              refine VW.ret (VRet.fin ?_)
              simp [eB14]
            · replace h := iteF g57 h
              refine VW.skip ?_
              refine VW.seq ?_
              refine VW.evalA (C := [(15, F15), (17, F17), (19, F19), (27, F27), (32, F32), (48, F48), (49, F49)]) (tm 117 [(1, .ptr 0 0 0), (4, .ref 3 0 r6.1.length), (5, .i .i64 r6.2.1), (6, .i .i64 r6.2.2), (8, .ref 7 0 r10.1.length), (12, .i .i64 1)]) [some (7, [(pT24 aS)]), some (1, rows ci_i64 r4.need_), some (1, rows ci_i64 r4.price_), some (1, rows ci_i64 r6.1), some (1, rows ci_i64 l36), some (1, rows ci_i64 l53), some (7, [[.ref 4 0 l36.length, .ref 5 0 l53.length, .i .i64 r8.most_, .i .i64 r8.yield_, .i .i64 r8.store_, .i .i64 r8.first_, .i .i64 r8.loss_]]), some (1, rows ci_i64 r10.1), some (1, rows ci_i64 r15.need_), some (1, rows ci_i64 r15.price_), some (7, [[.ref 4 0 l36.length, .ref 5 0 l53.length, .i .i64 r8.most_, .i .i64 r8.yield_, .i .i64 r8.store_, .i .i64 r8.first_, .i .i64 r8.loss_]])] [] ⟨ok15, ok17, ok19, ok27, ok32, ok48, ok49, trivial⟩ (by kernel_rfl) (by simp -implicitDefEqProofs) ?_
              refine VW.seq ?_
              refine VW.inline (C := [(15, F15), (17, F17), (19, F19), (27, F27), (32, F32), (48, F48), (49, F49)]) 2 (tm 117 [(1, .ptr 0 0 0), (4, .ref 3 0 r6.1.length), (5, .i .i64 r6.2.1), (6, .i .i64 r6.2.2), (8, .ref 7 0 r10.1.length), (77, .ref 7 0 r10.1.length), (78, .i .i64 1)]) [some (7, [(pT24 aS)]), some (1, rows ci_i64 r4.need_), some (1, rows ci_i64 r4.price_), some (1, rows ci_i64 r6.1), some (1, rows ci_i64 l36), some (1, rows ci_i64 l53), some (7, [[.ref 4 0 l36.length, .ref 5 0 l53.length, .i .i64 r8.most_, .i .i64 r8.yield_, .i .i64 r8.store_, .i .i64 r8.first_, .i .i64 r8.loss_]]), some (1, rows ci_i64 r10.1), some (1, rows ci_i64 r15.need_), some (1, rows ci_i64 r15.price_), some (7, [[.ref 4 0 l36.length, .ref 5 0 l53.length, .i .i64 r8.most_, .i .i64 r8.yield_, .i .i64 r8.store_, .i .i64 r8.first_, .i .i64 r8.loss_]])] [] rfl ⟨ok15, ok17, ok19, ok27, ok32, ok48, ok49, trivial⟩ (by kernel_rfl) (by simp -implicitDefEqProofs) rfl rfl Try.func31 rfl rfl rfl rfl (tm_length) ?_
              refine VW.ent (s := (⟨(tm 19 [(0, .ref 7 0 r10.1.length), (1, .i .i64 1)]), [some (7, [(pT24 aS)]), some (1, rows ci_i64 r4.need_), some (1, rows ci_i64 r4.price_), some (1, rows ci_i64 r6.1), some (1, rows ci_i64 l36), some (1, rows ci_i64 l53), some (7, [[.ref 4 0 l36.length, .ref 5 0 l53.length, .i .i64 r8.most_, .i .i64 r8.yield_, .i .i64 r8.store_, .i .i64 r8.first_, .i .i64 r8.loss_]]), some (1, rows ci_i64 r10.1), some (1, rows ci_i64 r15.need_), some (1, rows ci_i64 r15.price_), some (7, [[.ref 4 0 l36.length, .ref 5 0 l53.length, .i .i64 r8.most_, .i .i64 r8.yield_, .i .i64 r8.store_, .i .i64 r8.first_, .i .i64 r8.loss_]])], ((tm 117 [(1, .ptr 0 0 0), (4, .ref 3 0 r6.1.length), (5, .i .i64 r6.2.1), (6, .i .i64 r6.2.2), (8, .ref 7 0 r10.1.length), (77, .ref 7 0 r10.1.length), (78, .i .i64 1)]) ++ [])⟩ : VS)) (Ent.eqs (by rw [tm_init]; simp) rfl (by simp)) ?_
              refine VW.seq ?_
              refine VW.evalA (C := [(15, F15), (17, F17), (19, F19), (27, F27), (32, F32), (48, F48), (49, F49)]) (tm 19 [(0, .ref 7 0 r10.1.length), (1, .i .i64 1)]) [some (7, [(pT24 aS)]), some (1, rows ci_i64 r4.need_), some (1, rows ci_i64 r4.price_), some (1, rows ci_i64 r6.1), some (1, rows ci_i64 l36), some (1, rows ci_i64 l53), some (7, [[.ref 4 0 l36.length, .ref 5 0 l53.length, .i .i64 r8.most_, .i .i64 r8.yield_, .i .i64 r8.store_, .i .i64 r8.first_, .i .i64 r8.loss_]]), some (1, rows ci_i64 r10.1), some (1, rows ci_i64 r15.need_), some (1, rows ci_i64 r15.price_), some (7, [[.ref 4 0 l36.length, .ref 5 0 l53.length, .i .i64 r8.most_, .i .i64 r8.yield_, .i .i64 r8.store_, .i .i64 r8.first_, .i .i64 r8.loss_]])] ((tm 117 [(1, .ptr 0 0 0), (4, .ref 3 0 r6.1.length), (5, .i .i64 r6.2.1), (6, .i .i64 r6.2.2), (8, .ref 7 0 r10.1.length), (77, .ref 7 0 r10.1.length), (78, .i .i64 1)]) ++ []) ⟨ok15, ok17, ok19, ok27, ok32, ok48, ok49, trivial⟩ (by kernel_rfl) (by simp -implicitDefEqProofs) ?_
              refine VW.join (fun (v : Int × (List Int)) => (⟨(tm 19 [(1, .i .i64 v.1)]), [some (7, [(pT24 aS)]), some (1, rows ci_i64 r4.need_), some (1, rows ci_i64 r4.price_), some (1, rows ci_i64 r6.1), some (1, rows ci_i64 l36), some (1, rows ci_i64 l53), some (7, [[.ref 4 0 l36.length, .ref 5 0 l53.length, .i .i64 r8.most_, .i .i64 r8.yield_, .i .i64 r8.store_, .i .i64 r8.first_, .i .i64 r8.loss_]]), some (1, rows ci_i64 v.2), some (1, rows ci_i64 r15.need_), some (1, rows ci_i64 r15.price_), some (7, [[.ref 4 0 l36.length, .ref 5 0 l53.length, .i .i64 r8.most_, .i .i64 r8.yield_, .i .i64 r8.store_, .i .i64 r8.first_, .i .i64 r8.loss_]])], ((tm 117 [(1, .ptr 0 0 0), (4, .ref 3 0 r6.1.length), (5, .i .i64 r6.2.1), (6, .i .i64 r6.2.2), (8, .ref 7 0 v.2.length), (77, .ref 7 0 v.2.length), (78, .i .i64 1)]) ++ [])⟩ : VS)) (fun v => (g14_j3 aS r6 (v.1) (v.2)).bind some = some r) ?_ ?_
              · refine VW.seq ?_
                refine VW.evalA (C := [(15, F15), (17, F17), (19, F19), (27, F27), (32, F32), (48, F48), (49, F49)]) (tm 19 [(0, .ref 7 0 r10.1.length), (1, .i .i64 1), (5, .i .i64 0)]) [some (7, [(pT24 aS)]), some (1, rows ci_i64 r4.need_), some (1, rows ci_i64 r4.price_), some (1, rows ci_i64 r6.1), some (1, rows ci_i64 l36), some (1, rows ci_i64 l53), some (7, [[.ref 4 0 l36.length, .ref 5 0 l53.length, .i .i64 r8.most_, .i .i64 r8.yield_, .i .i64 r8.store_, .i .i64 r8.first_, .i .i64 r8.loss_]]), some (1, rows ci_i64 r10.1), some (1, rows ci_i64 r15.need_), some (1, rows ci_i64 r15.price_), some (7, [[.ref 4 0 l36.length, .ref 5 0 l53.length, .i .i64 r8.most_, .i .i64 r8.yield_, .i .i64 r8.store_, .i .i64 r8.first_, .i .i64 r8.loss_]])] ((tm 117 [(1, .ptr 0 0 0), (4, .ref 3 0 r6.1.length), (5, .i .i64 r6.2.1), (6, .i .i64 r6.2.2), (8, .ref 7 0 r10.1.length), (77, .ref 7 0 r10.1.length), (78, .i .i64 1)]) ++ []) ⟨ok15, ok17, ok19, ok27, ok32, ok48, ok49, trivial⟩ (by kernel_rfl) (by simp -implicitDefEqProofs) ?_
                refine VW.block ?_
                obtain ⟨w_1, hw_1, h⟩ := bindE h
                refine VW.loopO (fun (x : Int × Int × (List Int)) => (⟨(tm 19 [(0, .ref 7 0 x.2.2.length), (1, .i .i64 x.1), (5, .i .i64 x.2.1)]), [some (7, [(pT24 aS)]), some (1, rows ci_i64 r4.need_), some (1, rows ci_i64 r4.price_), some (1, rows ci_i64 r6.1), some (1, rows ci_i64 l36), some (1, rows ci_i64 l53), some (7, [[.ref 4 0 l36.length, .ref 5 0 l53.length, .i .i64 r8.most_, .i .i64 r8.yield_, .i .i64 r8.store_, .i .i64 r8.first_, .i .i64 r8.loss_]]), some (1, rows ci_i64 x.2.2), some (1, rows ci_i64 r15.need_), some (1, rows ci_i64 r15.price_), some (7, [[.ref 4 0 l36.length, .ref 5 0 l53.length, .i .i64 r8.most_, .i .i64 r8.yield_, .i .i64 r8.store_, .i .i64 r8.first_, .i .i64 r8.loss_]])], ((tm 117 [(1, .ptr 0 0 0), (4, .ref 3 0 r6.1.length), (5, .i .i64 r6.2.1), (6, .i .i64 r6.2.2), (8, .ref 7 0 x.2.2.length), (77, .ref 7 0 x.2.2.length), (78, .i .i64 1)]) ++ [])⟩ : VS)) hw_1 (Ent.to 11 (by simp [fgt]) (by first | (simp; done) | simp [pT24]) (by simp) (by simp [bndT, bndV]) (by simp [bndM, bndV]) (hgg := by simp [bndT, bndV])) ?_
                rintro n_1 ⟨k_99, i_100, l101⟩ h1
                rw [g14_L1] at h1
                refine VW.seq ?_
                refine VW.seq ?_
                refine VW.evalA (C := [(15, F15), (17, F17), (19, F19), (27, F27), (32, F32), (48, F48), (49, F49)]) (tm 19 [(0, .ref 7 0 l101.length), (1, .i .i64 k_99), (5, .i .i64 i_100), (9, .b (ltI i_100 (l101.length : Int)))]) [some (7, [(pT24 aS)]), some (1, rows ci_i64 r4.need_), some (1, rows ci_i64 r4.price_), some (1, rows ci_i64 r6.1), some (1, rows ci_i64 l36), some (1, rows ci_i64 l53), some (7, [[.ref 4 0 l36.length, .ref 5 0 l53.length, .i .i64 r8.most_, .i .i64 r8.yield_, .i .i64 r8.store_, .i .i64 r8.first_, .i .i64 r8.loss_]]), some (1, rows ci_i64 l101), some (1, rows ci_i64 r15.need_), some (1, rows ci_i64 r15.price_), some (7, [[.ref 4 0 l36.length, .ref 5 0 l53.length, .i .i64 r8.most_, .i .i64 r8.yield_, .i .i64 r8.store_, .i .i64 r8.first_, .i .i64 r8.loss_]])] ((tm 117 [(1, .ptr 0 0 0), (4, .ref 3 0 r6.1.length), (5, .i .i64 r6.2.1), (6, .i .i64 r6.2.2), (8, .ref 7 0 l101.length), (77, .ref 7 0 l101.length), (78, .i .i64 1)]) ++ []) ⟨ok15, ok17, ok19, ok27, ok32, ok48, ok49, trivial⟩ (by kernel_rfl) (by simp -implicitDefEqProofs) ?_
                refine VW.condB (b := ltI i_100 (l101.length : Int)) (by simp) (fun g102 => ?_) (fun g102 => ?_)
                · replace h1 := iteT g102 h1
                  refine VW.skip ?_
                  refine VW.seq ?_
                  refine VW.block ?_
                  refine VW.seq ?_
                  obtain ⟨e103, q104, h1⟩ := bindE h1
                  obtain ⟨f104a, f104b, f104c, f104d⟩ := idx_some q104
                  refine VW.evalA (C := [(15, F15), (17, F17), (19, F19), (27, F27), (32, F32), (48, F48), (49, F49)]) (tm 19 [(0, .ref 7 0 (l101.set i_100.toNat k_99).length), (1, .i .i64 k_99), (5, .i .i64 i_100)]) [some (7, [(pT24 aS)]), some (1, rows ci_i64 r4.need_), some (1, rows ci_i64 r4.price_), some (1, rows ci_i64 r6.1), some (1, rows ci_i64 l36), some (1, rows ci_i64 l53), some (7, [[.ref 4 0 l36.length, .ref 5 0 l53.length, .i .i64 r8.most_, .i .i64 r8.yield_, .i .i64 r8.store_, .i .i64 r8.first_, .i .i64 r8.loss_]]), some (1, rows ci_i64 (l101.set i_100.toNat k_99)), some (1, rows ci_i64 r15.need_), some (1, rows ci_i64 r15.price_), some (7, [[.ref 4 0 l36.length, .ref 5 0 l53.length, .i .i64 r8.most_, .i .i64 r8.yield_, .i .i64 r8.store_, .i .i64 r8.first_, .i .i64 r8.loss_]])] ((tm 117 [(1, .ptr 0 0 0), (4, .ref 3 0 r6.1.length), (5, .i .i64 r6.2.1), (6, .i .i64 r6.2.2), (8, .ref 7 0 (l101.set i_100.toNat k_99).length), (77, .ref 7 0 (l101.set i_100.toNat k_99).length), (78, .i .i64 1)]) ++ []) ⟨ok15, ok17, ok19, ok27, ok32, ok48, ok49, trivial⟩ (by kernel_rfl) (by simp -implicitDefEqProofs [f104a, f104b, f104c, f104d]) ?_
                  refine VW.evalA (C := [(15, F15), (17, F17), (19, F19), (27, F27), (32, F32), (48, F48), (49, F49)]) (tm 19 [(0, .ref 7 0 (l101.set i_100.toNat k_99).length), (1, .i .i64 (aI .i64 k_99 1)), (5, .i .i64 i_100)]) [some (7, [(pT24 aS)]), some (1, rows ci_i64 r4.need_), some (1, rows ci_i64 r4.price_), some (1, rows ci_i64 r6.1), some (1, rows ci_i64 l36), some (1, rows ci_i64 l53), some (7, [[.ref 4 0 l36.length, .ref 5 0 l53.length, .i .i64 r8.most_, .i .i64 r8.yield_, .i .i64 r8.store_, .i .i64 r8.first_, .i .i64 r8.loss_]]), some (1, rows ci_i64 (l101.set i_100.toNat k_99)), some (1, rows ci_i64 r15.need_), some (1, rows ci_i64 r15.price_), some (7, [[.ref 4 0 l36.length, .ref 5 0 l53.length, .i .i64 r8.most_, .i .i64 r8.yield_, .i .i64 r8.store_, .i .i64 r8.first_, .i .i64 r8.loss_]])] ((tm 117 [(1, .ptr 0 0 0), (4, .ref 3 0 r6.1.length), (5, .i .i64 r6.2.1), (6, .i .i64 r6.2.2), (8, .ref 7 0 (l101.set i_100.toNat k_99).length), (77, .ref 7 0 (l101.set i_100.toNat k_99).length), (78, .i .i64 1)]) ++ []) ⟨ok15, ok17, ok19, ok27, ok32, ok48, ok49, trivial⟩ (by kernel_rfl) (by simp -implicitDefEqProofs) ?_
                  refine VW.evalA (C := [(15, F15), (17, F17), (19, F19), (27, F27), (32, F32), (48, F48), (49, F49)]) (tm 19 [(0, .ref 7 0 (l101.set i_100.toNat k_99).length), (1, .i .i64 (aI .i64 k_99 1)), (5, .i .i64 (aI .i64 i_100 1))]) [some (7, [(pT24 aS)]), some (1, rows ci_i64 r4.need_), some (1, rows ci_i64 r4.price_), some (1, rows ci_i64 r6.1), some (1, rows ci_i64 l36), some (1, rows ci_i64 l53), some (7, [[.ref 4 0 l36.length, .ref 5 0 l53.length, .i .i64 r8.most_, .i .i64 r8.yield_, .i .i64 r8.store_, .i .i64 r8.first_, .i .i64 r8.loss_]]), some (1, rows ci_i64 (l101.set i_100.toNat k_99)), some (1, rows ci_i64 r15.need_), some (1, rows ci_i64 r15.price_), some (7, [[.ref 4 0 l36.length, .ref 5 0 l53.length, .i .i64 r8.most_, .i .i64 r8.yield_, .i .i64 r8.store_, .i .i64 r8.first_, .i .i64 r8.loss_]])] ((tm 117 [(1, .ptr 0 0 0), (4, .ref 3 0 r6.1.length), (5, .i .i64 r6.2.1), (6, .i .i64 r6.2.2), (8, .ref 7 0 (l101.set i_100.toNat k_99).length), (77, .ref 7 0 (l101.set i_100.toNat k_99).length), (78, .i .i64 1)]) ++ []) ⟨ok15, ok17, ok19, ok27, ok32, ok48, ok49, trivial⟩ (by kernel_rfl) (by simp -implicitDefEqProofs) ?_
                  exact (show ∃ _, _ from ⟨(aI .i64 k_99 1, aI .i64 i_100 1, (l101.set i_100.toNat k_99)), leafL h1, (Ent.to 11 (by simp [fgt]) (by first | (simp; done) | simp [pT24]) (by simp) (by simp [bndT, bndV]) (by simp [bndM, bndV]) (hgg := by simp [bndT, bndV]))⟩)
                · replace h1 := iteF g102 h1
                  refine VW.exit ?_
                  have e_ := leafR h1
                  subst w_1
                  exact (show ∃ _, _ from ⟨(k_99, l101), h, (Ent.to 11 (by simp [fgt]) (by first | (simp; done) | simp [pT24]) (by simp) (by simp [bndT, bndV]) (by simp [bndM, bndV]) (hgg := by simp [bndT, bndV]))⟩)
              · rintro ⟨k_73, l74⟩ h
                replace h : (g14_j3 aS r6 k_73 l74).bind _ = _ := h
                rw [g14_j3] at h
                refine VW.seq ?_
                refine VW.evalA (C := [(15, F15), (17, F17), (19, F19), (27, F27), (32, F32), (48, F48), (49, F49)]) (tm 19 [(4, .i .i64 k_73)]) [some (7, [(pT24 aS)]), some (1, rows ci_i64 r4.need_), some (1, rows ci_i64 r4.price_), some (1, rows ci_i64 r6.1), some (1, rows ci_i64 l36), some (1, rows ci_i64 l53), some (7, [[.ref 4 0 l36.length, .ref 5 0 l53.length, .i .i64 r8.most_, .i .i64 r8.yield_, .i .i64 r8.store_, .i .i64 r8.first_, .i .i64 r8.loss_]]), some (1, rows ci_i64 l74), some (1, rows ci_i64 r15.need_), some (1, rows ci_i64 r15.price_), some (7, [[.ref 4 0 l36.length, .ref 5 0 l53.length, .i .i64 r8.most_, .i .i64 r8.yield_, .i .i64 r8.store_, .i .i64 r8.first_, .i .i64 r8.loss_]])] ((tm 117 [(1, .ptr 0 0 0), (4, .ref 3 0 r6.1.length), (5, .i .i64 r6.2.1), (6, .i .i64 r6.2.2), (8, .ref 7 0 l74.length), (77, .ref 7 0 l74.length), (78, .i .i64 1)]) ++ []) ⟨ok15, ok17, ok19, ok27, ok32, ok48, ok49, trivial⟩ (by kernel_rfl) (by simp -implicitDefEqProofs) ?_
                refine VW.ret (VIn.ret (v := .i .i64 k_73) (by simp) ?_)
                refine VL.evalP (C := [(15, F15), (17, F17), (19, F19), (27, F27), (32, F32), (48, F48), (49, F49)]) (tm 117 [(1, .ptr 0 0 0), (4, .ref 3 0 r6.1.length), (5, .i .i64 r6.2.1), (6, .i .i64 r6.2.2), (8, .ref 7 0 l74.length), (12, .i .i64 k_73)]) [some (7, [(pT24 aS)]), some (1, rows ci_i64 r4.need_), some (1, rows ci_i64 r4.price_), some (1, rows ci_i64 r6.1), some (1, rows ci_i64 l36), some (1, rows ci_i64 l53), some (7, [[.ref 4 0 l36.length, .ref 5 0 l53.length, .i .i64 r8.most_, .i .i64 r8.yield_, .i .i64 r8.store_, .i .i64 r8.first_, .i .i64 r8.loss_]]), some (1, rows ci_i64 l74), some (1, rows ci_i64 r15.need_), some (1, rows ci_i64 r15.price_), some (7, [[.ref 4 0 l36.length, .ref 5 0 l53.length, .i .i64 r8.most_, .i .i64 r8.yield_, .i .i64 r8.store_, .i .i64 r8.first_, .i .i64 r8.loss_]])] [] ⟨ok15, ok17, ok19, ok27, ok32, ok48, ok49, trivial⟩ (by kernel_rfl) (by simp -implicitDefEqProofs) ?_
                refine VW.seq ?_
                refine VW.evalA (C := [(15, F15), (17, F17), (19, F19), (27, F27), (32, F32), (48, F48), (49, F49)]) (tm 117 [(1, .ptr 0 0 0), (4, .ref 3 0 r6.1.length), (5, .i .i64 r6.2.1), (6, .i .i64 r6.2.2), (8, .ref 7 0 l74.length), (12, .i .i64 k_73), (13, .i .i64 1)]) [some (7, [(pT24 aS)]), some (1, rows ci_i64 r4.need_), some (1, rows ci_i64 r4.price_), some (1, rows ci_i64 r6.1), some (1, rows ci_i64 l36), some (1, rows ci_i64 l53), some (7, [[.ref 4 0 l36.length, .ref 5 0 l53.length, .i .i64 r8.most_, .i .i64 r8.yield_, .i .i64 r8.store_, .i .i64 r8.first_, .i .i64 r8.loss_]]), some (1, rows ci_i64 l74), some (1, rows ci_i64 r15.need_), some (1, rows ci_i64 r15.price_), some (7, [[.ref 4 0 l36.length, .ref 5 0 l53.length, .i .i64 r8.most_, .i .i64 r8.yield_, .i .i64 r8.store_, .i .i64 r8.first_, .i .i64 r8.loss_]])] [] ⟨ok15, ok17, ok19, ok27, ok32, ok48, ok49, trivial⟩ (by kernel_rfl) (by simp -implicitDefEqProofs) ?_
                refine VW.seq ?_
                obtain ⟨r75, q76, h⟩ := bindE h
                have c76 : F32 [.sl 1 (rows ci_i64 l74), .i .i64 1] = some (.i .i64 r75) := tells_eq inj32 (a := (l74, 1)) q76
                refine VW.evalA (C := [(15, F15), (17, F17), (19, F19), (27, F27), (32, F32), (48, F48), (49, F49)]) (tm 117 [(1, .ptr 0 0 0), (4, .ref 3 0 r6.1.length), (5, .i .i64 r6.2.1), (6, .i .i64 r6.2.2), (8, .ref 7 0 l74.length), (12, .i .i64 k_73), (13, .i .i64 r75)]) [some (7, [(pT24 aS)]), some (1, rows ci_i64 r4.need_), some (1, rows ci_i64 r4.price_), some (1, rows ci_i64 r6.1), some (1, rows ci_i64 l36), some (1, rows ci_i64 l53), some (7, [[.ref 4 0 l36.length, .ref 5 0 l53.length, .i .i64 r8.most_, .i .i64 r8.yield_, .i .i64 r8.store_, .i .i64 r8.first_, .i .i64 r8.loss_]]), some (1, rows ci_i64 l74), some (1, rows ci_i64 r15.need_), some (1, rows ci_i64 r15.price_), some (7, [[.ref 4 0 l36.length, .ref 5 0 l53.length, .i .i64 r8.most_, .i .i64 r8.yield_, .i .i64 r8.store_, .i .i64 r8.first_, .i .i64 r8.loss_]])] [] ⟨ok15, ok17, ok19, ok27, ok32, ok48, ok49, trivial⟩ (by kernel_rfl) (by simp -implicitDefEqProofs [c76]) ?_
                refine VW.seq ?_
                refine VW.seq ?_
                refine VW.evalA (C := [(15, F15), (17, F17), (19, F19), (27, F27), (32, F32), (48, F48), (49, F49)]) (tm 117 [(1, .ptr 0 0 0), (4, .ref 3 0 r6.1.length), (5, .i .i64 r6.2.1), (6, .i .i64 r6.2.2), (8, .ref 7 0 l74.length), (12, .i .i64 k_73), (13, .i .i64 r75), (84, .b (ltI r75 0))]) [some (7, [(pT24 aS)]), some (1, rows ci_i64 r4.need_), some (1, rows ci_i64 r4.price_), some (1, rows ci_i64 r6.1), some (1, rows ci_i64 l36), some (1, rows ci_i64 l53), some (7, [[.ref 4 0 l36.length, .ref 5 0 l53.length, .i .i64 r8.most_, .i .i64 r8.yield_, .i .i64 r8.store_, .i .i64 r8.first_, .i .i64 r8.loss_]]), some (1, rows ci_i64 l74), some (1, rows ci_i64 r15.need_), some (1, rows ci_i64 r15.price_), some (7, [[.ref 4 0 l36.length, .ref 5 0 l53.length, .i .i64 r8.most_, .i .i64 r8.yield_, .i .i64 r8.store_, .i .i64 r8.first_, .i .i64 r8.loss_]])] [] ⟨ok15, ok17, ok19, ok27, ok32, ok48, ok49, trivial⟩ (by kernel_rfl) (by simp -implicitDefEqProofs) ?_
                refine VW.condB (b := ltI r75 0) (by simp) (fun g77 => ?_) (fun g77 => ?_)
                · replace h := iteT g77 h
                  refine VW.seq ?_
                  refine VW.evalA (C := [(15, F15), (17, F17), (19, F19), (27, F27), (32, F32), (48, F48), (49, F49)]) (tm 117 [(2, .b false)]) [some (7, [(pT24 aS)]), some (1, rows ci_i64 r4.need_), some (1, rows ci_i64 r4.price_), some (1, rows ci_i64 r6.1), some (1, rows ci_i64 l36), some (1, rows ci_i64 l53), some (7, [[.ref 4 0 l36.length, .ref 5 0 l53.length, .i .i64 r8.most_, .i .i64 r8.yield_, .i .i64 r8.store_, .i .i64 r8.first_, .i .i64 r8.loss_]]), some (1, rows ci_i64 l74), some (1, rows ci_i64 r15.need_), some (1, rows ci_i64 r15.price_), some (7, [[.ref 4 0 l36.length, .ref 5 0 l53.length, .i .i64 r8.most_, .i .i64 r8.yield_, .i .i64 r8.store_, .i .i64 r8.first_, .i .i64 r8.loss_]])] [] ⟨ok15, ok17, ok19, ok27, ok32, ok48, ok49, trivial⟩ (by kernel_rfl) (by simp -implicitDefEqProofs) ?_
                  obtain rfl := leafS h
                  refine VW.ret (VRet.fin ?_)
                  simp [eB14]
                · replace h := iteF g77 h
                  refine VW.skip ?_
                  refine VW.seq ?_
                  refine VW.seq ?_
                  refine VW.evalA (C := [(15, F15), (17, F17), (19, F19), (27, F27), (32, F32), (48, F48), (49, F49)]) (tm 117 [(1, .ptr 0 0 0), (4, .ref 3 0 r6.1.length), (5, .i .i64 r6.2.1), (6, .i .i64 r6.2.2), (8, .ref 7 0 l74.length), (12, .i .i64 k_73), (87, .b (!eqI r75 k_73))]) [some (7, [(pT24 aS)]), some (1, rows ci_i64 r4.need_), some (1, rows ci_i64 r4.price_), some (1, rows ci_i64 r6.1), some (1, rows ci_i64 l36), some (1, rows ci_i64 l53), some (7, [[.ref 4 0 l36.length, .ref 5 0 l53.length, .i .i64 r8.most_, .i .i64 r8.yield_, .i .i64 r8.store_, .i .i64 r8.first_, .i .i64 r8.loss_]]), some (1, rows ci_i64 l74), some (1, rows ci_i64 r15.need_), some (1, rows ci_i64 r15.price_), some (7, [[.ref 4 0 l36.length, .ref 5 0 l53.length, .i .i64 r8.most_, .i .i64 r8.yield_, .i .i64 r8.store_, .i .i64 r8.first_, .i .i64 r8.loss_]])] [] ⟨ok15, ok17, ok19, ok27, ok32, ok48, ok49, trivial⟩ (by kernel_rfl) (by simp -implicitDefEqProofs) ?_
                  refine VW.condB (b := (!eqI r75 k_73)) (by simp) (fun g78 => ?_) (fun g78 => ?_)
                  · replace h := iteT g78 h
                    refine VW.seq ?_
                    refine VW.evalA (C := [(15, F15), (17, F17), (19, F19), (27, F27), (32, F32), (48, F48), (49, F49)]) (tm 117 [(2, .b false)]) [some (7, [(pT24 aS)]), some (1, rows ci_i64 r4.need_), some (1, rows ci_i64 r4.price_), some (1, rows ci_i64 r6.1), some (1, rows ci_i64 l36), some (1, rows ci_i64 l53), some (7, [[.ref 4 0 l36.length, .ref 5 0 l53.length, .i .i64 r8.most_, .i .i64 r8.yield_, .i .i64 r8.store_, .i .i64 r8.first_, .i .i64 r8.loss_]]), some (1, rows ci_i64 l74), some (1, rows ci_i64 r15.need_), some (1, rows ci_i64 r15.price_), some (7, [[.ref 4 0 l36.length, .ref 5 0 l53.length, .i .i64 r8.most_, .i .i64 r8.yield_, .i .i64 r8.store_, .i .i64 r8.first_, .i .i64 r8.loss_]])] [] ⟨ok15, ok17, ok19, ok27, ok32, ok48, ok49, trivial⟩ (by kernel_rfl) (by simp -implicitDefEqProofs) ?_
                    obtain rfl := leafS h
                    refine VW.ret (VRet.fin ?_)
                    simp [eB14]
                  · replace h := iteF g78 h
                    refine VW.skip ?_
                    refine VW.seq ?_
                    obtain ⟨r79, q80, h⟩ := bindE h
                    have c80 : F17 [.agg (pT24 aS)] = some (.agg [.own 1 (rows ci_i64 r79.need_), .own 1 (rows ci_i64 r79.price_), .i .i64 r79.most_, .i .i64 r79.yield_, .i .i64 r79.store_, .i .i64 r79.first_, .i .i64 r79.loss_]) := tells_eq inj17 (a := aS) q80
                    obtain ⟨r81, q82, h⟩ := bindE h
                    have c82 : F49 [.agg [.sl 1 (rows ci_i64 r79.need_), .sl 1 (rows ci_i64 r79.price_), .i .i64 r79.most_, .i .i64 r79.yield_, .i .i64 r79.store_, .i .i64 r79.first_, .i .i64 r79.loss_]] = some (.tup [.own 1 (rows ci_i64 r81.1), .i .i64 r81.2.1, .i .i64 r81.2.2]) := tells_eq inj49 (a := r79) q82
                    refine VW.evalA (C := [(15, F15), (17, F17), (19, F19), (27, F27), (32, F32), (48, F48), (49, F49)]) (tm 117 [(4, .ref 3 0 r6.1.length), (5, .i .i64 r6.2.1), (6, .i .i64 r6.2.2), (8, .ref 7 0 l74.length), (12, .i .i64 k_73), (14, .ref 13 0 r81.1.length), (15, .i .i64 r81.2.1), (16, .i .i64 r81.2.2)]) [some (7, [(pT24 aS)]), some (1, rows ci_i64 r4.need_), some (1, rows ci_i64 r4.price_), some (1, rows ci_i64 r6.1), some (1, rows ci_i64 l36), some (1, rows ci_i64 l53), some (7, [[.ref 4 0 l36.length, .ref 5 0 l53.length, .i .i64 r8.most_, .i .i64 r8.yield_, .i .i64 r8.store_, .i .i64 r8.first_, .i .i64 r8.loss_]]), some (1, rows ci_i64 l74), some (1, rows ci_i64 r15.need_), some (1, rows ci_i64 r15.price_), some (7, [[.ref 4 0 l36.length, .ref 5 0 l53.length, .i .i64 r8.most_, .i .i64 r8.yield_, .i .i64 r8.store_, .i .i64 r8.first_, .i .i64 r8.loss_]]), some (1, rows ci_i64 r79.need_), some (1, rows ci_i64 r79.price_), some (1, rows ci_i64 r81.1)] [] ⟨ok15, ok17, ok19, ok27, ok32, ok48, ok49, trivial⟩ (by kernel_rfl) (by simp -implicitDefEqProofs [c80, c82]) ?_
                    refine VW.seq ?_
                    refine VW.seq ?_
                    obtain ⟨r83, q84, h⟩ := bindE h
                    have c84 : F27 [.sl 1 (rows ci_i64 r81.1), .sl 1 (rows ci_i64 r6.1)] = some (.b r83) := tells_eq inj27 (a := (r81.1, r6.1)) q84
                    refine VW.evalA (C := [(15, F15), (17, F17), (19, F19), (27, F27), (32, F32), (48, F48), (49, F49)]) (tm 117 [(8, .ref 7 0 l74.length), (12, .i .i64 k_73), (108, .b (((!r83) || (!eqI r81.2.1 r6.2.1)) || (!eqI r81.2.2 r6.2.2)))]) [some (7, [(pT24 aS)]), some (1, rows ci_i64 r4.need_), some (1, rows ci_i64 r4.price_), some (1, rows ci_i64 r6.1), some (1, rows ci_i64 l36), some (1, rows ci_i64 l53), some (7, [[.ref 4 0 l36.length, .ref 5 0 l53.length, .i .i64 r8.most_, .i .i64 r8.yield_, .i .i64 r8.store_, .i .i64 r8.first_, .i .i64 r8.loss_]]), some (1, rows ci_i64 l74), some (1, rows ci_i64 r15.need_), some (1, rows ci_i64 r15.price_), some (7, [[.ref 4 0 l36.length, .ref 5 0 l53.length, .i .i64 r8.most_, .i .i64 r8.yield_, .i .i64 r8.store_, .i .i64 r8.first_, .i .i64 r8.loss_]]), some (1, rows ci_i64 r79.need_), some (1, rows ci_i64 r79.price_), some (1, rows ci_i64 r81.1)] [] ⟨ok15, ok17, ok19, ok27, ok32, ok48, ok49, trivial⟩ (by kernel_rfl) (by simp -implicitDefEqProofs [c84]) ?_
                    refine VW.condB (b := (((!r83) || (!eqI r81.2.1 r6.2.1)) || (!eqI r81.2.2 r6.2.2))) (by simp) (fun g85 => ?_) (fun g85 => ?_)
                    · replace h := iteT g85 h
                      refine VW.seq ?_
                      refine VW.evalA (C := [(15, F15), (17, F17), (19, F19), (27, F27), (32, F32), (48, F48), (49, F49)]) (tm 117 [(2, .b false)]) [some (7, [(pT24 aS)]), some (1, rows ci_i64 r4.need_), some (1, rows ci_i64 r4.price_), some (1, rows ci_i64 r6.1), some (1, rows ci_i64 l36), some (1, rows ci_i64 l53), some (7, [[.ref 4 0 l36.length, .ref 5 0 l53.length, .i .i64 r8.most_, .i .i64 r8.yield_, .i .i64 r8.store_, .i .i64 r8.first_, .i .i64 r8.loss_]]), some (1, rows ci_i64 l74), some (1, rows ci_i64 r15.need_), some (1, rows ci_i64 r15.price_), some (7, [[.ref 4 0 l36.length, .ref 5 0 l53.length, .i .i64 r8.most_, .i .i64 r8.yield_, .i .i64 r8.store_, .i .i64 r8.first_, .i .i64 r8.loss_]]), some (1, rows ci_i64 r79.need_), some (1, rows ci_i64 r79.price_), some (1, rows ci_i64 r81.1)] [] ⟨ok15, ok17, ok19, ok27, ok32, ok48, ok49, trivial⟩ (by kernel_rfl) (by simp -implicitDefEqProofs) ?_
                      obtain rfl := leafS h
                      refine VW.ret (VRet.fin ?_)
                      simp [eB14]
                    · replace h := iteF g85 h
                      refine VW.skip ?_
                      refine VW.seq ?_
                      refine VW.evalA (C := [(15, F15), (17, F17), (19, F19), (27, F27), (32, F32), (48, F48), (49, F49)]) (tm 117 [(8, .ref 7 0 l74.length), (12, .i .i64 k_73), (13, .i .i64 1)]) [some (7, [(pT24 aS)]), some (1, rows ci_i64 r4.need_), some (1, rows ci_i64 r4.price_), some (1, rows ci_i64 r6.1), some (1, rows ci_i64 l36), some (1, rows ci_i64 l53), some (7, [[.ref 4 0 l36.length, .ref 5 0 l53.length, .i .i64 r8.most_, .i .i64 r8.yield_, .i .i64 r8.store_, .i .i64 r8.first_, .i .i64 r8.loss_]]), some (1, rows ci_i64 l74), some (1, rows ci_i64 r15.need_), some (1, rows ci_i64 r15.price_), some (7, [[.ref 4 0 l36.length, .ref 5 0 l53.length, .i .i64 r8.most_, .i .i64 r8.yield_, .i .i64 r8.store_, .i .i64 r8.first_, .i .i64 r8.loss_]]), some (1, rows ci_i64 r79.need_), some (1, rows ci_i64 r79.price_), some (1, rows ci_i64 r81.1)] [] ⟨ok15, ok17, ok19, ok27, ok32, ok48, ok49, trivial⟩ (by kernel_rfl) (by simp -implicitDefEqProofs) ?_
                      refine VW.seq ?_
                      obtain ⟨r86, q87, h⟩ := bindE h
                      have c87 : F32 [.sl 1 (rows ci_i64 l74), .i .i64 1] = some (.i .i64 r86) := tells_eq inj32 (a := (l74, 1)) q87
                      refine VW.evalA (C := [(15, F15), (17, F17), (19, F19), (27, F27), (32, F32), (48, F48), (49, F49)]) (tm 117 [(12, .i .i64 k_73), (13, .i .i64 r86)]) [some (7, [(pT24 aS)]), some (1, rows ci_i64 r4.need_), some (1, rows ci_i64 r4.price_), some (1, rows ci_i64 r6.1), some (1, rows ci_i64 l36), some (1, rows ci_i64 l53), some (7, [[.ref 4 0 l36.length, .ref 5 0 l53.length, .i .i64 r8.most_, .i .i64 r8.yield_, .i .i64 r8.store_, .i .i64 r8.first_, .i .i64 r8.loss_]]), some (1, rows ci_i64 l74), some (1, rows ci_i64 r15.need_), some (1, rows ci_i64 r15.price_), some (7, [[.ref 4 0 l36.length, .ref 5 0 l53.length, .i .i64 r8.most_, .i .i64 r8.yield_, .i .i64 r8.store_, .i .i64 r8.first_, .i .i64 r8.loss_]]), some (1, rows ci_i64 r79.need_), some (1, rows ci_i64 r79.price_), some (1, rows ci_i64 r81.1)] [] ⟨ok15, ok17, ok19, ok27, ok32, ok48, ok49, trivial⟩ (by kernel_rfl) (by simp -implicitDefEqProofs [c87]) ?_
                      refine VW.seq ?_
                      refine VW.seq ?_
                      refine VW.evalA (C := [(15, F15), (17, F17), (19, F19), (27, F27), (32, F32), (48, F48), (49, F49)]) (tm 117 [(12, .i .i64 k_73), (13, .i .i64 r86), (113, .b (ltI r86 0))]) [some (7, [(pT24 aS)]), some (1, rows ci_i64 r4.need_), some (1, rows ci_i64 r4.price_), some (1, rows ci_i64 r6.1), some (1, rows ci_i64 l36), some (1, rows ci_i64 l53), some (7, [[.ref 4 0 l36.length, .ref 5 0 l53.length, .i .i64 r8.most_, .i .i64 r8.yield_, .i .i64 r8.store_, .i .i64 r8.first_, .i .i64 r8.loss_]]), some (1, rows ci_i64 l74), some (1, rows ci_i64 r15.need_), some (1, rows ci_i64 r15.price_), some (7, [[.ref 4 0 l36.length, .ref 5 0 l53.length, .i .i64 r8.most_, .i .i64 r8.yield_, .i .i64 r8.store_, .i .i64 r8.first_, .i .i64 r8.loss_]]), some (1, rows ci_i64 r79.need_), some (1, rows ci_i64 r79.price_), some (1, rows ci_i64 r81.1)] [] ⟨ok15, ok17, ok19, ok27, ok32, ok48, ok49, trivial⟩ (by kernel_rfl) (by simp -implicitDefEqProofs) ?_
                      refine VW.condB (b := ltI r86 0) (by simp) (fun g88 => ?_) (fun g88 => ?_)
                      · replace h := iteT g88 h
                        refine VW.seq ?_
                        refine VW.evalA (C := [(15, F15), (17, F17), (19, F19), (27, F27), (32, F32), (48, F48), (49, F49)]) (tm 117 [(2, .b false)]) [some (7, [(pT24 aS)]), some (1, rows ci_i64 r4.need_), some (1, rows ci_i64 r4.price_), some (1, rows ci_i64 r6.1), some (1, rows ci_i64 l36), some (1, rows ci_i64 l53), some (7, [[.ref 4 0 l36.length, .ref 5 0 l53.length, .i .i64 r8.most_, .i .i64 r8.yield_, .i .i64 r8.store_, .i .i64 r8.first_, .i .i64 r8.loss_]]), some (1, rows ci_i64 l74), some (1, rows ci_i64 r15.need_), some (1, rows ci_i64 r15.price_), some (7, [[.ref 4 0 l36.length, .ref 5 0 l53.length, .i .i64 r8.most_, .i .i64 r8.yield_, .i .i64 r8.store_, .i .i64 r8.first_, .i .i64 r8.loss_]]), some (1, rows ci_i64 r79.need_), some (1, rows ci_i64 r79.price_), some (1, rows ci_i64 r81.1)] [] ⟨ok15, ok17, ok19, ok27, ok32, ok48, ok49, trivial⟩ (by kernel_rfl) (by simp -implicitDefEqProofs) ?_
                        obtain rfl := leafS h
                        refine VW.ret (VRet.fin ?_)
                        simp [eB14]
                      · replace h := iteF g88 h
                        refine VW.skip ?_
                        refine VW.seq ?_
                        refine VW.seq ?_
                        refine VW.evalA (C := [(15, F15), (17, F17), (19, F19), (27, F27), (32, F32), (48, F48), (49, F49)]) (tm 117 [(116, .b (!eqI r86 k_73))]) [some (7, [(pT24 aS)]), some (1, rows ci_i64 r4.need_), some (1, rows ci_i64 r4.price_), some (1, rows ci_i64 r6.1), some (1, rows ci_i64 l36), some (1, rows ci_i64 l53), some (7, [[.ref 4 0 l36.length, .ref 5 0 l53.length, .i .i64 r8.most_, .i .i64 r8.yield_, .i .i64 r8.store_, .i .i64 r8.first_, .i .i64 r8.loss_]]), some (1, rows ci_i64 l74), some (1, rows ci_i64 r15.need_), some (1, rows ci_i64 r15.price_), some (7, [[.ref 4 0 l36.length, .ref 5 0 l53.length, .i .i64 r8.most_, .i .i64 r8.yield_, .i .i64 r8.store_, .i .i64 r8.first_, .i .i64 r8.loss_]]), some (1, rows ci_i64 r79.need_), some (1, rows ci_i64 r79.price_), some (1, rows ci_i64 r81.1)] [] ⟨ok15, ok17, ok19, ok27, ok32, ok48, ok49, trivial⟩ (by kernel_rfl) (by simp -implicitDefEqProofs) ?_
                        refine VW.condB (b := (!eqI r86 k_73)) (by simp) (fun g89 => ?_) (fun g89 => ?_)
                        · replace h := iteT g89 h
                          refine VW.seq ?_
                          refine VW.evalA (C := [(15, F15), (17, F17), (19, F19), (27, F27), (32, F32), (48, F48), (49, F49)]) (tm 117 [(2, .b false)]) [some (7, [(pT24 aS)]), some (1, rows ci_i64 r4.need_), some (1, rows ci_i64 r4.price_), some (1, rows ci_i64 r6.1), some (1, rows ci_i64 l36), some (1, rows ci_i64 l53), some (7, [[.ref 4 0 l36.length, .ref 5 0 l53.length, .i .i64 r8.most_, .i .i64 r8.yield_, .i .i64 r8.store_, .i .i64 r8.first_, .i .i64 r8.loss_]]), some (1, rows ci_i64 l74), some (1, rows ci_i64 r15.need_), some (1, rows ci_i64 r15.price_), some (7, [[.ref 4 0 l36.length, .ref 5 0 l53.length, .i .i64 r8.most_, .i .i64 r8.yield_, .i .i64 r8.store_, .i .i64 r8.first_, .i .i64 r8.loss_]]), some (1, rows ci_i64 r79.need_), some (1, rows ci_i64 r79.price_), some (1, rows ci_i64 r81.1)] [] ⟨ok15, ok17, ok19, ok27, ok32, ok48, ok49, trivial⟩ (by kernel_rfl) (by simp -implicitDefEqProofs) ?_
                          obtain rfl := leafS h
                          refine VW.ret (VRet.fin ?_)
                          simp [eB14]
                        · replace h := iteF g89 h
                          refine VW.skip ?_
                          refine VW.seq ?_
                          refine VW.evalA (C := [(15, F15), (17, F17), (19, F19), (27, F27), (32, F32), (48, F48), (49, F49)]) (tm 117 [(2, .b true)]) [some (7, [(pT24 aS)]), some (1, rows ci_i64 r4.need_), some (1, rows ci_i64 r4.price_), some (1, rows ci_i64 r6.1), some (1, rows ci_i64 l36), some (1, rows ci_i64 l53), some (7, [[.ref 4 0 l36.length, .ref 5 0 l53.length, .i .i64 r8.most_, .i .i64 r8.yield_, .i .i64 r8.store_, .i .i64 r8.first_, .i .i64 r8.loss_]]), some (1, rows ci_i64 l74), some (1, rows ci_i64 r15.need_), some (1, rows ci_i64 r15.price_), some (7, [[.ref 4 0 l36.length, .ref 5 0 l53.length, .i .i64 r8.most_, .i .i64 r8.yield_, .i .i64 r8.store_, .i .i64 r8.first_, .i .i64 r8.loss_]]), some (1, rows ci_i64 r79.need_), some (1, rows ci_i64 r79.price_), some (1, rows ci_i64 r81.1)] [] ⟨ok15, ok17, ok19, ok27, ok32, ok48, ok49, trivial⟩ (by kernel_rfl) (by simp -implicitDefEqProofs) ?_
                          obtain rfl := leafS h
                          refine VW.ret (VRet.fin ?_)
                          simp [eB14]
noncomputable def g58_j1 : Option (Int × Int) :=
  some ((-1), (-1))
noncomputable def g58_L1 (s : T24) (slot : Int) (store : Int) : (Int) → Option ((Int) ⊕ ((Unit) ⊕ (Int × Int)))
  | n_24 =>
    if leI n_24 s.most_ = true then
      (g55 s slot store n_24).bind fun r26 =>
      if leI 0 r26 = true then
        some (.inr (.inr (n_24, r26)))
      else
        some (.inl (aI .i64 n_24 1))
    else
      some (.inr (.inl ()))
noncomputable def g58 (s : T24) (slot : Int) (store : Int) : Option (Int × Int) :=
  (loopO (g58_L1 s slot store) 0).bind fun w => match w with
    | .inl y => g58_j1
    | .inr r => some r
def eA58 (a : T24 × Int × Int) : List V := [.cptr (pT24 a.1) 0, .i .i64 a.2.1, .i .i64 a.2.2]
def eB58 (r : Int × Int) : V := .tup [.i .i64 r.1, .i .i64 r.2]
theorem inj58 (a a' : T24 × Int × Int) (h : eA58 a = eA58 a') : a = a' := by
  obtain ⟨⟨i281, i282, i283, i284, i285, i286, i287⟩, i288, i289⟩ := a
  obtain ⟨⟨i290, i291, i292, i293, i294, i295, i296⟩, i297, i298⟩ := a'
  simp only [eA58, pT24, List.cons.injEq, V.i.injEq, V.b.injEq, V.f.injEq, V.str.injEq, V.sl.injEq, V.agg.injEq, V.cptr.injEq, true_and, and_true] at h
  simp_all [ri ci_i64_inj]
noncomputable def F58 : List V → Option V := tells (fun a => g58 a.1 a.2.1 a.2.2) eA58 eB58
set_option maxRecDepth 100000 in
set_option maxHeartbeats 4000000 in
/- loop.example/g01229/spec.l07Few -/
theorem ok58 : Tells Try.prog 58 F58 := by
  refine Tells.of (by kernel_rfl) ?_
  rintro ⟨s, slot, store⟩ r h
  refine VCalls.nl (VCalls.of Try.func58 rfl rfl rfl ?_)
  rw [tm_init]
  simp only [eA58, en, List.length_cons, List.length_nil, Nat.reduceAdd, Nat.reduceSub]
  replace h : (g58 s slot store).bind some = some r := bindS h
  rw [g58] at h
  refine VW.seq ?_
  refine VW.evalA (C := [(55, F55)]) (tm 27 [(0, .cptr (pT24 s) 0), (1, .i .i64 slot), (2, .i .i64 store)]) [] [] ⟨ok55, trivial⟩ (by kernel_rfl) (by simp -implicitDefEqProofs) ?_
  refine VW.join (fun (v : Unit) => (⟨(tm 27 []), [], []⟩ : VS)) (fun v => (g58_j1).bind some = some r) ?_ ?_
  · refine VW.seq ?_
    refine VW.evalA (C := [(55, F55)]) (tm 27 [(0, .cptr (pT24 s) 0), (1, .i .i64 slot), (2, .i .i64 store), (8, .i .i64 0)]) [] [] ⟨ok55, trivial⟩ (by kernel_rfl) (by simp -implicitDefEqProofs) ?_
    refine VW.block ?_
    obtain ⟨w_1, hw_1, h⟩ := bindE h
    refine VW.loopO (fun (x : Int) => (⟨(tm 27 [(0, .cptr (pT24 s) 0), (1, .i .i64 slot), (2, .i .i64 store), (8, .i .i64 x)]), [], []⟩ : VS)) hw_1 (Ent.to 0 (by simp [fgt]) (by first | (simp; done) | simp [pT24]) (by simp) (by simp [bndT, bndV]) (by simp [bndM, bndV])) ?_
    rintro n_1 n_24 h1
    rw [g58_L1] at h1
    refine VW.seq ?_
    refine VW.seq ?_
    refine VW.evalA (C := [(55, F55)]) (tm 27 [(0, .cptr (pT24 s) 0), (1, .i .i64 slot), (2, .i .i64 store), (8, .i .i64 n_24), (15, .b (leI n_24 s.most_))]) [] [] ⟨ok55, trivial⟩ (by kernel_rfl) (by simp -implicitDefEqProofs) ?_
    refine VW.condB (b := leI n_24 s.most_) (by simp) (fun g25 => ?_) (fun g25 => ?_)
    · replace h1 := iteT g25 h1
      refine VW.skip ?_
      refine VW.seq ?_
      refine VW.block ?_
      refine VW.seq ?_
      obtain ⟨r26, q27, h1⟩ := bindE h1
      have c27 : F55 [.cptr (pT24 s) 0, .i .i64 slot, .i .i64 store, .i .i64 n_24] = some (.i .i64 r26) := tells_eq inj55 (a := (s, slot, store, n_24)) q27
      refine VW.evalA (C := [(55, F55)]) (tm 27 [(0, .cptr (pT24 s) 0), (1, .i .i64 slot), (2, .i .i64 store), (8, .i .i64 n_24), (9, .i .i64 r26)]) [] [] ⟨ok55, trivial⟩ (by kernel_rfl) (by simp -implicitDefEqProofs [c27]) ?_
      refine VW.seq ?_
      refine VW.evalA (C := [(55, F55)]) (tm 27 [(0, .cptr (pT24 s) 0), (1, .i .i64 slot), (2, .i .i64 store), (8, .i .i64 n_24), (9, .i .i64 r26), (24, .b (leI 0 r26))]) [] [] ⟨ok55, trivial⟩ (by kernel_rfl) (by simp -implicitDefEqProofs) ?_
      refine VW.condB (b := leI 0 r26) (by simp) (fun g28 => ?_) (fun g28 => ?_)
      · replace h1 := iteT g28 h1
        refine VW.seq ?_
        refine VW.evalA (C := [(55, F55)]) (tm 27 [(6, .i .i64 n_24), (7, .i .i64 r26)]) [] [] ⟨ok55, trivial⟩ (by kernel_rfl) (by simp -implicitDefEqProofs) ?_
        have e_ := leafR h1
        subst w_1
        obtain rfl := leafS h
        refine VW.ret (VRet.fin ?_)
        simp [eB58]
      · replace h1 := iteF g28 h1
        refine VW.skip ?_
        refine VW.evalA (C := [(55, F55)]) (tm 27 [(0, .cptr (pT24 s) 0), (1, .i .i64 slot), (2, .i .i64 store), (8, .i .i64 (aI .i64 n_24 1))]) [] [] ⟨ok55, trivial⟩ (by kernel_rfl) (by simp -implicitDefEqProofs) ?_
        exact (show ∃ _, _ from ⟨aI .i64 n_24 1, leafL h1, (Ent.to 0 (by simp [fgt]) (by first | (simp; done) | simp [pT24]) (by simp) (by simp [bndT, bndV]) (by simp [bndM, bndV]))⟩)
    · replace h1 := iteF g25 h1
      refine VW.exit ?_
      have e_ := leafR h1
      subst w_1
      exact (show ∃ _, _ from ⟨(), h, (Ent.to 0 (by simp [fgt]) (by first | (simp; done) | simp [pT24]) (by simp) (by simp [bndT, bndV]) (by simp [bndM, bndV]))⟩)
  · rintro _ h
    replace h : (g58_j1).bind _ = _ := h
    rw [g58_j1] at h
    refine VW.seq ?_
    refine VW.evalA (C := [(55, F55)]) (tm 27 [(6, .i .i64 (-1)), (7, .i .i64 (-1))]) [] [] ⟨ok55, trivial⟩ (by kernel_rfl) (by simp -implicitDefEqProofs) ?_
    obtain rfl := leafS h
    refine VW.ret (VRet.fin ?_)
    simp [eB58]
noncomputable def g59_j1 : Option (Int × Int × Bool) :=
  some (0, 0, false)
noncomputable def g59_L1 (s : T24) (slot : Int) (store : Int) : (Int) → Option ((Int) ⊕ ((Unit) ⊕ (Int × Int × Bool)))
  | x_24 =>
    if ltI x_24 (aI .i64 s.most_ 1) = true then
      (g56 s slot store x_24).bind fun r26 =>
      if r26.2 = true then
        some (.inr (.inr (x_24, r26.1, true)))
      else
        some (.inl (aI .i64 x_24 1))
    else
      some (.inr (.inl ()))
noncomputable def g59 (s : T24) (slot : Int) (store : Int) : Option (Int × Int × Bool) :=
  (loopO (g59_L1 s slot store) 0).bind fun w => match w with
    | .inl y => g59_j1
    | .inr r => some r
def eA59 (a : T24 × Int × Int) : List V := [.agg (pT24 a.1), .i .i64 a.2.1, .i .i64 a.2.2]
def eB59 (r : Int × Int × Bool) : V := .tup [.i .i64 r.1, .i .i64 r.2.1, .b r.2.2]
theorem inj59 (a a' : T24 × Int × Int) (h : eA59 a = eA59 a') : a = a' := by
  obtain ⟨⟨i315, i316, i317, i318, i319, i320, i321⟩, i322, i323⟩ := a
  obtain ⟨⟨i324, i325, i326, i327, i328, i329, i330⟩, i331, i332⟩ := a'
  simp only [eA59, pT24, List.cons.injEq, V.i.injEq, V.b.injEq, V.f.injEq, V.str.injEq, V.sl.injEq, V.agg.injEq, V.cptr.injEq, true_and, and_true] at h
  simp_all [ri ci_i64_inj]
noncomputable def F59 : List V → Option V := tells (fun a => g59 a.1 a.2.1 a.2.2) eA59 eB59
set_option maxRecDepth 100000 in
set_option maxHeartbeats 4000000 in
/- loop.example/g01229/impl.leastLogs -/
theorem ok59 : Tells Try.prog 59 F59 := by
  refine Tells.of (by kernel_rfl) ?_
  rintro ⟨s, slot, store⟩ r h
  refine VCalls.nl (VCalls.of Try.func59 rfl rfl rfl ?_)
  rw [tm_init]
  simp only [eA59, en, List.length_cons, List.length_nil, Nat.reduceAdd, Nat.reduceSub]
  replace h : (g59 s slot store).bind some = some r := bindS h
  rw [g59] at h
  refine VW.seq ?_
  refine VW.evalA (C := [(56, F56)]) (tm 30 [(1, .i .i64 slot), (2, .i .i64 store), (3, .ptr 0 0 0)]) [some (7, [(pT24 s)])] [] ⟨ok56, trivial⟩ (by kernel_rfl) (by simp -implicitDefEqProofs) ?_
  refine VW.join (fun (v : Unit) => (⟨(tm 30 []), [some (7, [(pT24 s)])], []⟩ : VS)) (fun v => (g59_j1).bind some = some r) ?_ ?_
  · refine VW.seq ?_
    refine VW.evalA (C := [(56, F56)]) (tm 30 [(1, .i .i64 slot), (2, .i .i64 store), (3, .ptr 0 0 0), (14, .i .i64 (aI .i64 s.most_ 1)), (15, .i .i64 0)]) [some (7, [(pT24 s)])] [] ⟨ok56, trivial⟩ (by kernel_rfl) (by simp -implicitDefEqProofs) ?_
    refine VW.block ?_
    obtain ⟨w_1, hw_1, h⟩ := bindE h
    refine VW.loopO (fun (x : Int) => (⟨(tm 30 [(1, .i .i64 slot), (2, .i .i64 store), (3, .ptr 0 0 0), (14, .i .i64 (aI .i64 s.most_ 1)), (15, .i .i64 x)]), [some (7, [(pT24 s)])], []⟩ : VS)) hw_1 (Ent.to 1 (by simp [fgt]) (by first | (simp; done) | simp [pT24]) (by simp) (by simp [bndT, bndV]) (by simp [bndM, bndV])) ?_
    rintro n_1 x_24 h1
    rw [g59_L1] at h1
    refine VW.seq ?_
    refine VW.evalA (C := [(56, F56)]) (tm 30 [(1, .i .i64 slot), (2, .i .i64 store), (3, .ptr 0 0 0), (14, .i .i64 (aI .i64 s.most_ 1)), (15, .i .i64 x_24), (16, .b (ltI x_24 (aI .i64 s.most_ 1)))]) [some (7, [(pT24 s)])] [] ⟨ok56, trivial⟩ (by kernel_rfl) (by simp -implicitDefEqProofs) ?_
    refine VW.seq ?_
    refine VW.condB (b := ltI x_24 (aI .i64 s.most_ 1)) (by simp) (fun g25 => ?_) (fun g25 => ?_)
    · replace h1 := iteT g25 h1
      refine VW.skip ?_
      refine VW.seq ?_
      refine VW.block ?_
      refine VW.seq ?_
      refine VW.evalA (C := [(56, F56)]) (tm 30 [(1, .i .i64 slot), (2, .i .i64 store), (3, .ptr 0 0 0), (9, .i .i64 x_24), (14, .i .i64 (aI .i64 s.most_ 1)), (15, .i .i64 x_24)]) [some (7, [(pT24 s)])] [] ⟨ok56, trivial⟩ (by kernel_rfl) (by simp -implicitDefEqProofs) ?_
      refine VW.seq ?_
      obtain ⟨r26, q27, h1⟩ := bindE h1
      have c27 : F56 [.agg (pT24 s), .i .i64 slot, .i .i64 store, .i .i64 x_24] = some (.tup [.i .i64 r26.1, .b r26.2]) := tells_eq inj56 (a := (s, slot, store, x_24)) q27
      refine VW.evalA (C := [(56, F56)]) (tm 30 [(1, .i .i64 slot), (2, .i .i64 store), (3, .ptr 0 0 0), (9, .i .i64 x_24), (10, .i .i64 r26.1), (11, .b r26.2), (14, .i .i64 (aI .i64 s.most_ 1)), (15, .i .i64 x_24)]) [some (7, [(pT24 s)])] [] ⟨ok56, trivial⟩ (by kernel_rfl) (by simp -implicitDefEqProofs [c27]) ?_
      refine VW.seq ?_
      refine VW.evalA (C := [(56, F56)]) (tm 30 [(1, .i .i64 slot), (2, .i .i64 store), (3, .ptr 0 0 0), (9, .i .i64 x_24), (10, .i .i64 r26.1), (14, .i .i64 (aI .i64 s.most_ 1)), (15, .i .i64 x_24), (26, .b r26.2)]) [some (7, [(pT24 s)])] [] ⟨ok56, trivial⟩ (by kernel_rfl) (by simp -implicitDefEqProofs) ?_
      refine VW.condB (b := r26.2) (by simp) (fun g28 => ?_) (fun g28 => ?_)
      · replace h1 := iteT g28 h1
        refine VW.seq ?_
        refine VW.evalA (C := [(56, F56)]) (tm 30 [(6, .i .i64 x_24), (7, .i .i64 r26.1), (8, .b true)]) [some (7, [(pT24 s)])] [] ⟨ok56, trivial⟩ (by kernel_rfl) (by simp -implicitDefEqProofs) ?_
        have e_ := leafR h1
        subst w_1
        obtain rfl := leafS h
        refine VW.ret (VRet.fin ?_)
        simp [eB59]
      · replace h1 := iteF g28 h1
        refine VW.skip ?_
        refine VW.evalA (C := [(56, F56)]) (tm 30 [(1, .i .i64 slot), (2, .i .i64 store), (3, .ptr 0 0 0), (14, .i .i64 (aI .i64 s.most_ 1)), (15, .i .i64 (aI .i64 x_24 1))]) [some (7, [(pT24 s)])] [] ⟨ok56, trivial⟩ (by kernel_rfl) (by simp -implicitDefEqProofs) ?_
        exact (show ∃ _, _ from ⟨aI .i64 x_24 1, leafL h1, (Ent.to 1 (by simp [fgt]) (by first | (simp; done) | simp [pT24]) (by simp) (by simp [bndT, bndV]) (by simp [bndM, bndV]))⟩)
    · replace h1 := iteF g25 h1
      refine VW.exit ?_
      have e_ := leafR h1
      subst w_1
      exact (show ∃ _, _ from ⟨(), h, (Ent.to 1 (by simp [fgt]) (by first | (simp; done) | simp [pT24]) (by simp) (by simp [bndT, bndV]) (by simp [bndM, bndV]))⟩)
  · rintro _ h
    replace h : (g59_j1).bind _ = _ := h
    rw [g59_j1] at h
    refine VW.seq ?_
    refine VW.evalA (C := [(56, F56)]) (tm 30 [(6, .i .i64 0), (7, .i .i64 0), (8, .b false)]) [some (7, [(pT24 s)])] [] ⟨ok56, trivial⟩ (by kernel_rfl) (by simp -implicitDefEqProofs) ?_
    obtain rfl := leafS h
    refine VW.ret (VRet.fin ?_)
    simp [eB59]
end Go.Proofs.Yteggncgiflgopaa
