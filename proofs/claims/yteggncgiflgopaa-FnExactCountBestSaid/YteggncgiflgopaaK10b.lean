/- Contracts of the functions that the law reaches: what each tells, as a function in Lean. -/
import Derived.Test.YteggncgiflgopaaK10a
import Derived.KernelRfl
namespace Go.Proofs.Yteggncgiflgopaa
open Go.RowKit Go.VL
set_option linter.unusedSimpArgs false
set_option linter.unusedVariables false
noncomputable def g63_j1 (l5249 : List (List Int)) : Option (List (List Int)) :=
  some l5249
noncomputable def g63_j2 (k_8744 : Int) (l9619 : List (List Int)) : Option ((Int × (List (List Int))) ⊕ (List (List Int))) :=
  some (.inl (sI .i64 k_8744 1, l9619))
noncomputable def g63_j3 (x_10202 : Int) (l10348 : List Int) : Option ((Int × (List Int)) ⊕ (List (List Int))) :=
  some (.inl (aI .i64 x_10202 1, l10348))
noncomputable def g63_j4 (l10203 : List Int) (x_10202 : Int) (best_10419 : Int) : Option ((Int × (List Int)) ⊕ (List (List Int))) :=
  (idx l10203 x_10202).bind fun e10420 =>
  g63_j3 x_10202 (l10203.set x_10202.toNat best_10419)
noncomputable def g63_L3 (s : T24) (k_8744 : Int) (x_10202 : Int) (l8745 : List (List Int)) : (Int × Int) → Option ((Int × Int) ⊕ (Int))
  | (best_10468, x_10469) =>
    if ltI x_10469 (aI .i64 s.most_ 1) = true then
      (g56 s k_8744 x_10202 x_10469).bind fun r10471 =>
      (if (!r10471.2) = true then some true else (idx l8745 (aI .i64 k_8744 1)).bind fun e10473 => (idx e10473 r10471.1).bind fun e10476 => some (eqI e10476 (-1))).bind fun w10478 =>
      if w10478 = true then
        some (.inl (best_10468, aI .i64 x_10469 1))
      else
        (idx s.price_ k_8744).bind fun e10480 =>
        (idx l8745 (aI .i64 k_8744 1)).bind fun e10482 =>
        (idx e10482 r10471.1).bind fun e10485 =>
        if (eqI best_10468 (-1) || ltI (aI .i64 (mI .i64 e10480 x_10469) e10485) best_10468) = true then
          some (.inl (aI .i64 (mI .i64 e10480 x_10469) e10485, aI .i64 x_10469 1))
        else
          some (.inl (best_10468, aI .i64 x_10469 1))
    else
      some (.inr best_10468)
noncomputable def g63_L2 (s : T24) (k_8744 : Int) (l8745 : List (List Int)) : (Int × (List Int)) → Option ((Int × (List Int)) ⊕ (List (List Int)))
  | (x_10202, l10203) =>
    if ltI x_10202 ((List.replicate (aI .i64 s.store_ 1).toNat 0).length : Int) = true then
      (loopO (g63_L3 s k_8744 x_10202 l8745) ((-1), 0)).bind fun w => g63_j4 l10203 x_10202 w
    else
      some (.inr (l8745.set k_8744.toNat l10203))
noncomputable def g63_L1 (s : T24) : (Int × (List (List Int))) → Option ((Int × (List (List Int))) ⊕ (List (List Int)))
  | (k_8744, l8745) =>
    if leI 0 k_8744 = true then
      (mk 8 (aI .i64 s.store_ 1)).bind fun u9620 =>
      (idx l8745 k_8744).bind fun e9622 =>
      (loopO (g63_L2 s k_8744 l8745) (0, (List.replicate (aI .i64 s.store_ 1).toNat 0))).bind fun w => g63_j2 k_8744 w
    else
      some (.inr l8745)
noncomputable def g63 (s : T24) : Option (List (List Int)) :=
  (mk 24 (aI .i64 (s.need_.length : Int) 1)).bind fun u1 =>
  (mk 8 (aI .i64 s.store_ 1)).bind fun u3 =>
  (idx (List.replicate (aI .i64 (s.need_.length : Int) 1).toNat ([] : List Int)) (s.need_.length : Int)).bind fun e5 =>
  (loopO (g63_L1 s) (sI .i64 (s.need_.length : Int) 1, ((List.replicate (aI .i64 (s.need_.length : Int) 1).toNat ([] : List Int)).set ((s.need_.length : Int).toNat) (List.replicate (aI .i64 s.store_ 1).toNat 0)))).bind fun w => g63_j1 w
def eA63 (a : T24) : List V := [.agg (pT24 a)]
def eB63 (r : List (List Int)) : V := .own 1 (rows cl_ci_i64o r)
theorem inj63 (a a' : T24) (h : eA63 a = eA63 a') : a = a' := by
  obtain ⟨i197, i198, i199, i200, i201, i202, i203⟩ := a
  obtain ⟨i204, i205, i206, i207, i208, i209, i210⟩ := a'
  simp only [eA63, pT24, List.cons.injEq, V.i.injEq, V.b.injEq, V.f.injEq, V.str.injEq, V.sl.injEq, V.agg.injEq, V.cptr.injEq, true_and, and_true] at h
  simp_all [ri ci_i64_inj]
noncomputable def F63 : List V → Option V := tells (fun a => g63 a) eA63 eB63
set_option maxRecDepth 100000 in
set_option maxHeartbeats 4000000 in
/- loop.example/g01229/impl.values -/
theorem ok63 : Tells Try.prog 63 F63 := by
  refine Tells.of (by kernel_rfl) ?_
  rintro s r h
  refine VCalls.nl (VCalls.of Try.func63 rfl rfl rfl ?_)
  rw [tm_init]
  simp only [eA63, en, List.length_cons, List.length_nil, Nat.reduceAdd, Nat.reduceSub]
  replace h : (g63 s).bind some = some r := bindS h
  rw [g63] at h
  refine VW.seq ?_
  refine VW.evalA (C := [(56, F56)]) (tm 107 [(1, .ptr 0 0 0)]) [some (7, [(pT24 s)])] [] ⟨ok56, trivial⟩ (by kernel_rfl) (by simp -implicitDefEqProofs) ?_
  refine VW.seq ?_
  refine VW.evalA (C := [(56, F56)]) (tm 107 [(1, .ptr 0 0 0), (3, .i .i64 (s.need_.length : Int))]) [some (7, [(pT24 s)])] [] ⟨ok56, trivial⟩ (by kernel_rfl) (by simp -implicitDefEqProofs) ?_
  refine VW.seq ?_
  obtain ⟨u1, q2, h⟩ := bindE h
  obtain ⟨f2a, f2b, f2c⟩ := mk_some q2
  try simp only [Int.toNat_natCast, Int.reduceToNat, List.length_cons, List.length_nil, Nat.reduceAdd, Nat.zero_add] at f2a f2b f2c
  refine VW.evalE (C := [(56, F56)]) (tm 107 [(1, .ptr 0 0 0), (3, .i .i64 (s.need_.length : Int)), (4, .ref 1 0 (List.replicate (aI .i64 (s.need_.length : Int) 1).toNat ([] : List Int)).length)]) [some (7, [(pT24 s)]), some (1, List.replicate (aI .i64 (s.need_.length : Int) 1).toNat [.nil])] [] ⟨ok56, trivial⟩ (by kernel_rfl) (by simp -implicitDefEqProofs [f2a, f2b, f2c]) (Ent.nilown (m := [some (7, [(pT24 s)]), some (1, List.replicate (aI .i64 (s.need_.length : Int) 1).toNat [.nil])]) 1 ((aI .i64 (s.need_.length : Int) 1).toNat) 1 [some (7, [(pT24 s)]), some (1, rows cl_ci_i64o (List.replicate (aI .i64 (s.need_.length : Int) 1).toNat ([] : List Int)))] (by simp) (by simp)) ?_
  refine VW.seq ?_
  obtain ⟨u3, q4, h⟩ := bindE h
  obtain ⟨f4a, f4b, f4c⟩ := mk_some q4
  try simp only [Int.toNat_natCast, Int.reduceToNat, List.length_cons, List.length_nil, Nat.reduceAdd, Nat.zero_add] at f4a f4b f4c
  obtain ⟨e5, q6, h⟩ := bindE h
  obtain ⟨f6a, f6b, f6c, f6d⟩ := idx_some q6
  have f6s := f6c
  simp at f6s
  try simp only [Int.toNat_natCast, Int.reduceToNat] at f6a f6b f6c f6d
  refine VW.evalE (C := [(56, F56)]) (tm 107 [(1, .ptr 0 0 0), (3, .i .i64 (s.need_.length : Int)), (4, .ref 1 0 (List.replicate (aI .i64 (s.need_.length : Int) 1).toNat ([] : List Int)).length)]) [some (7, [(pT24 s)]), some (1, (rows cl_ci_i64o (List.replicate (aI .i64 (s.need_.length : Int) 1).toNat ([] : List Int))).set ((s.need_.length : Int).toNat) [.ref 2 0 (List.replicate (aI .i64 s.store_ 1).toNat 0).length]), some (1, rows ci_i64 (List.replicate (aI .i64 s.store_ 1).toNat 0))] [] ⟨ok56, trivial⟩ (by kernel_rfl) (by simp -implicitDefEqProofs [f4a, f4b, f4c, f6a, f6b, f6c, f6d, f6s]) (Ent.absorb (m := [some (7, [(pT24 s)]), some (1, (rows cl_ci_i64o (List.replicate (aI .i64 (s.need_.length : Int) 1).toNat ([] : List Int))).set ((s.need_.length : Int).toNat) [.ref 2 0 (List.replicate (aI .i64 s.store_ 1).toNat 0).length]), some (1, rows ci_i64 (List.replicate (aI .i64 s.store_ 1).toNat 0))]) (n := 1) (n' := 1) (es := (rows cl_ci_i64o (List.replicate (aI .i64 (s.need_.length : Int) 1).toNat ([] : List Int))).set ((s.need_.length : Int).toNat) [.ref 2 0 (List.replicate (aI .i64 s.store_ 1).toNat 0).length]) (es' := rows ci_i64 (List.replicate (aI .i64 s.store_ 1).toNat 0)) (cs := [.ref 2 0 (List.replicate (aI .i64 s.store_ 1).toNat 0).length]) 1 ((s.need_.length : Int).toNat) 0 2 (List.replicate (aI .i64 s.store_ 1).toNat 0).length [some (7, [(pT24 s)]), some (1, rows cl_ci_i64o ((List.replicate (aI .i64 (s.need_.length : Int) 1).toNat ([] : List Int)).set ((s.need_.length : Int).toNat) (List.replicate (aI .i64 s.store_ 1).toNat 0))), none] rfl (by simp [f6a, f6b, f6c, f6d, f6s]) rfl rfl (by decide) (by simp) (by simp) (by simp)) ?_
  refine VW.join (fun (v : List (List Int)) => (⟨(tm 107 [(4, .ref 1 0 v.length)]), [some (7, [(pT24 s)]), some (1, rows cl_ci_i64o v), none], []⟩ : VS)) (fun v => (g63_j1 (v)).bind some = some r) ?_ ?_
  · refine VW.seq ?_
    refine VW.evalA (C := [(56, F56)]) (tm 107 [(1, .ptr 0 0 0), (4, .ref 1 0 ((List.replicate (aI .i64 (s.need_.length : Int) 1).toNat ([] : List Int)).set ((s.need_.length : Int).toNat) (List.replicate (aI .i64 s.store_ 1).toNat 0)).length), (5, .i .i64 (sI .i64 (s.need_.length : Int) 1))]) [some (7, [(pT24 s)]), some (1, rows cl_ci_i64o ((List.replicate (aI .i64 (s.need_.length : Int) 1).toNat ([] : List Int)).set ((s.need_.length : Int).toNat) (List.replicate (aI .i64 s.store_ 1).toNat 0))), none] [] ⟨ok56, trivial⟩ (by kernel_rfl) (by simp -implicitDefEqProofs) ?_
    refine VW.block ?_
    obtain ⟨w_1, hw_1, h⟩ := bindE h
    refine VW.loopO (fun (x : Int × (List (List Int))) => (⟨(tm 107 [(1, .ptr 0 0 0), (4, .ref 1 0 x.2.length), (5, .i .i64 x.1)]), [some (7, [(pT24 s)]), some (1, rows cl_ci_i64o x.2), none], []⟩ : VS)) hw_1 (Ent.to 3 (by simp [fgt]) (by first | (simp; done) | simp [pT24]) (by simp) (by simp [bndT, bndV]) (by simp [bndM, bndV])) ?_
    rintro n_1 ⟨k_8744, l8745⟩ h1
    rw [g63_L1] at h1
    refine VW.seq ?_
    refine VW.seq ?_
    refine VW.evalA (C := [(56, F56)]) (tm 107 [(1, .ptr 0 0 0), (4, .ref 1 0 l8745.length), (5, .i .i64 k_8744), (28, .b (leI 0 k_8744))]) [some (7, [(pT24 s)]), some (1, rows cl_ci_i64o l8745), none] [] ⟨ok56, trivial⟩ (by kernel_rfl) (by simp -implicitDefEqProofs) ?_
    refine VW.condB (b := leI 0 k_8744) (by simp) (fun g8746 => ?_) (fun g8746 => ?_)
    · replace h1 := iteT g8746 h1
      refine VW.skip ?_
      refine VW.join (fun (v : List (List Int)) => (⟨(tm 107 [(1, .ptr 0 0 0), (4, .ref 1 0 v.length), (5, .i .i64 k_8744)]), [some (7, [(pT24 s)]), some (1, rows cl_ci_i64o v), none], []⟩ : VS)) (fun v => (g63_j2 k_8744 (v)).bind (kN (g63_L1 s) n_1) = some w_1) ?_ ?_
      · refine VW.block ?_
        refine VW.seq ?_
        obtain ⟨u9620, q9621, h1⟩ := bindE h1
        obtain ⟨f9621a, f9621b, f9621c⟩ := mk_some q9621
        try simp only [Int.toNat_natCast, Int.reduceToNat, List.length_cons, List.length_nil, Nat.reduceAdd, Nat.zero_add] at f9621a f9621b f9621c
        obtain ⟨e9622, q9623, h1⟩ := bindE h1
        obtain ⟨f9623a, f9623b, f9623c, f9623d⟩ := idx_some q9623
        refine VW.evalA (C := [(56, F56)]) (tm 107 [(1, .ptr 0 0 0), (4, .ref 1 0 l8745.length), (5, .i .i64 k_8744)]) [some (7, [(pT24 s)]), some (1, (rows cl_ci_i64o l8745).set k_8744.toNat [.ref 3 0 (List.replicate (aI .i64 s.store_ 1).toNat 0).length]), none, some (1, rows ci_i64 (List.replicate (aI .i64 s.store_ 1).toNat 0))] [] ⟨ok56, trivial⟩ (by kernel_rfl) (by simp -implicitDefEqProofs [f9621a, f9621b, f9621c, f9623a, f9623b, f9623c, f9623d]) ?_
        refine VW.seq ?_
        refine VW.evalA (C := [(56, F56)]) (tm 107 [(1, .ptr 0 0 0), (4, .ref 1 0 l8745.length), (5, .i .i64 k_8744), (42, .i .i64 ((List.replicate (aI .i64 s.store_ 1).toNat 0).length : Int)), (43, .i .i64 0)]) [some (7, [(pT24 s)]), some (1, (rows cl_ci_i64o l8745).set k_8744.toNat [.ref 3 0 (List.replicate (aI .i64 s.store_ 1).toNat 0).length]), none, some (1, rows ci_i64 (List.replicate (aI .i64 s.store_ 1).toNat 0))] [] ⟨ok56, trivial⟩ (by kernel_rfl) (by simp -implicitDefEqProofs [f9623a, f9623b, f9623c, f9623d]) ?_
        refine VW.block ?_
        obtain ⟨w_2, hw_2, h1⟩ := bindE h1
        refine VW.loopO (fun (x : Int × (List Int)) => (⟨(tm 107 [(1, .ptr 0 0 0), (4, .ref 1 0 l8745.length), (5, .i .i64 k_8744), (42, .i .i64 ((List.replicate (aI .i64 s.store_ 1).toNat 0).length : Int)), (43, .i .i64 x.1)]), [some (7, [(pT24 s)]), some (1, (rows cl_ci_i64o l8745).set k_8744.toNat [.ref 3 0 x.2.length]), none, some (1, rows ci_i64 x.2)], []⟩ : VS)) hw_2 (Ent.to 4 (by simp [fgt]) (by first | (simp; done) | simp [pT24]) (by simp) (by simp [bndT, bndV]) (by simp [bndM, bndV])) ?_
        rintro n_2 ⟨x_10202, l10203⟩ h2
        rw [g63_L2] at h2
        refine VW.seq ?_
        refine VW.evalA (C := [(56, F56)]) (tm 107 [(1, .ptr 0 0 0), (4, .ref 1 0 l8745.length), (5, .i .i64 k_8744), (42, .i .i64 ((List.replicate (aI .i64 s.store_ 1).toNat 0).length : Int)), (43, .i .i64 x_10202), (44, .b (ltI x_10202 ((List.replicate (aI .i64 s.store_ 1).toNat 0).length : Int)))]) [some (7, [(pT24 s)]), some (1, (rows cl_ci_i64o l8745).set k_8744.toNat [.ref 3 0 l10203.length]), none, some (1, rows ci_i64 l10203)] [] ⟨ok56, trivial⟩ (by kernel_rfl) (by simp -implicitDefEqProofs) ?_
        refine VW.seq ?_
        refine VW.condB (b := ltI x_10202 ((List.replicate (aI .i64 s.store_ 1).toNat 0).length : Int)) (by simp) (fun g10204 => ?_) (fun g10204 => ?_)
        · replace h2 := iteT g10204 h2
          refine VW.skip ?_
          refine VW.join (fun (v : List Int) => (⟨(tm 107 [(1, .ptr 0 0 0), (4, .ref 1 0 l8745.length), (5, .i .i64 k_8744), (42, .i .i64 ((List.replicate (aI .i64 s.store_ 1).toNat 0).length : Int)), (43, .i .i64 x_10202)]), [some (7, [(pT24 s)]), some (1, (rows cl_ci_i64o l8745).set k_8744.toNat [.ref 3 0 v.length]), none, some (1, rows ci_i64 v)], []⟩ : VS)) (fun v => (g63_j3 x_10202 (v)).bind (kN (g63_L2 s k_8744 l8745) n_2) = some w_2) ?_ ?_
          · refine VW.block ?_
            refine VW.seq ?_
            refine VW.evalA (C := [(56, F56)]) (tm 107 [(1, .ptr 0 0 0), (4, .ref 1 0 l8745.length), (5, .i .i64 k_8744), (6, .i .i64 x_10202), (42, .i .i64 ((List.replicate (aI .i64 s.store_ 1).toNat 0).length : Int)), (43, .i .i64 x_10202)]) [some (7, [(pT24 s)]), some (1, (rows cl_ci_i64o l8745).set k_8744.toNat [.ref 3 0 l10203.length]), none, some (1, rows ci_i64 l10203)] [] ⟨ok56, trivial⟩ (by kernel_rfl) (by simp -implicitDefEqProofs) ?_
            refine VW.seq ?_
            refine VW.evalA (C := [(56, F56)]) (tm 107 [(1, .ptr 0 0 0), (4, .ref 1 0 l8745.length), (5, .i .i64 k_8744), (6, .i .i64 x_10202), (7, .i .i64 (-1)), (42, .i .i64 ((List.replicate (aI .i64 s.store_ 1).toNat 0).length : Int)), (43, .i .i64 x_10202)]) [some (7, [(pT24 s)]), some (1, (rows cl_ci_i64o l8745).set k_8744.toNat [.ref 3 0 l10203.length]), none, some (1, rows ci_i64 l10203)] [] ⟨ok56, trivial⟩ (by kernel_rfl) (by simp -implicitDefEqProofs) ?_
            refine VW.join (fun (v : Int) => (⟨(tm 107 [(1, .ptr 0 0 0), (4, .ref 1 0 l8745.length), (5, .i .i64 k_8744), (6, .i .i64 x_10202), (7, .i .i64 v), (42, .i .i64 ((List.replicate (aI .i64 s.store_ 1).toNat 0).length : Int)), (43, .i .i64 x_10202)]), [some (7, [(pT24 s)]), some (1, (rows cl_ci_i64o l8745).set k_8744.toNat [.ref 3 0 l10203.length]), none, some (1, rows ci_i64 l10203)], []⟩ : VS)) (fun v => (g63_j4 l10203 x_10202 (v)).bind (kN (g63_L2 s k_8744 l8745) n_2) = some w_2) ?_ ?_
            · refine VW.seq ?_
              refine VW.evalA (C := [(56, F56)]) (tm 107 [(1, .ptr 0 0 0), (4, .ref 1 0 l8745.length), (5, .i .i64 k_8744), (6, .i .i64 x_10202), (7, .i .i64 (-1)), (42, .i .i64 ((List.replicate (aI .i64 s.store_ 1).toNat 0).length : Int)), (43, .i .i64 x_10202), (48, .i .i64 (aI .i64 s.most_ 1)), (49, .i .i64 0)]) [some (7, [(pT24 s)]), some (1, (rows cl_ci_i64o l8745).set k_8744.toNat [.ref 3 0 l10203.length]), none, some (1, rows ci_i64 l10203)] [] ⟨ok56, trivial⟩ (by kernel_rfl) (by simp -implicitDefEqProofs) ?_
              refine VW.block ?_
              obtain ⟨w_3, hw_3, h2⟩ := bindE h2
              refine VW.loopO (fun (x : Int × Int) => (⟨(tm 107 [(1, .ptr 0 0 0), (4, .ref 1 0 l8745.length), (5, .i .i64 k_8744), (6, .i .i64 x_10202), (7, .i .i64 x.1), (42, .i .i64 ((List.replicate (aI .i64 s.store_ 1).toNat 0).length : Int)), (43, .i .i64 x_10202), (48, .i .i64 (aI .i64 s.most_ 1)), (49, .i .i64 x.2)]), [some (7, [(pT24 s)]), some (1, (rows cl_ci_i64o l8745).set k_8744.toNat [.ref 3 0 l10203.length]), none, some (1, rows ci_i64 l10203)], []⟩ : VS)) hw_3 (Ent.to 4 (by simp [fgt]) (by first | (simp; done) | simp [pT24]) (by simp) (by simp [bndT, bndV]) (by simp [bndM, bndV])) ?_
              rintro n_3 ⟨best_10468, x_10469⟩ h3
              rw [g63_L3] at h3
              refine VW.seq ?_
              refine VW.evalA (C := [(56, F56)]) (tm 107 [(1, .ptr 0 0 0), (4, .ref 1 0 l8745.length), (5, .i .i64 k_8744), (6, .i .i64 x_10202), (7, .i .i64 best_10468), (42, .i .i64 ((List.replicate (aI .i64 s.store_ 1).toNat 0).length : Int)), (43, .i .i64 x_10202), (48, .i .i64 (aI .i64 s.most_ 1)), (49, .i .i64 x_10469), (50, .b (ltI x_10469 (aI .i64 s.most_ 1)))]) [some (7, [(pT24 s)]), some (1, (rows cl_ci_i64o l8745).set k_8744.toNat [.ref 3 0 l10203.length]), none, some (1, rows ci_i64 l10203)] [] ⟨ok56, trivial⟩ (by kernel_rfl) (by simp -implicitDefEqProofs) ?_
              refine VW.seq ?_
              refine VW.condB (b := ltI x_10469 (aI .i64 s.most_ 1)) (by simp) (fun g10470 => ?_) (fun g10470 => ?_)
              · replace h3 := iteT g10470 h3
                refine VW.skip ?_
                refine VW.seq ?_
                refine VW.block ?_
                refine VW.seq ?_
                refine VW.evalA (C := [(56, F56)]) (tm 107 [(1, .ptr 0 0 0), (4, .ref 1 0 l8745.length), (5, .i .i64 k_8744), (6, .i .i64 x_10202), (7, .i .i64 best_10468), (8, .i .i64 x_10469), (42, .i .i64 ((List.replicate (aI .i64 s.store_ 1).toNat 0).length : Int)), (43, .i .i64 x_10202), (48, .i .i64 (aI .i64 s.most_ 1)), (49, .i .i64 x_10469)]) [some (7, [(pT24 s)]), some (1, (rows cl_ci_i64o l8745).set k_8744.toNat [.ref 3 0 l10203.length]), none, some (1, rows ci_i64 l10203)] [] ⟨ok56, trivial⟩ (by kernel_rfl) (by simp -implicitDefEqProofs) ?_
                refine VW.seq ?_
                obtain ⟨r10471, q10472, h3⟩ := bindE h3
                have c10472 : F56 [.agg (pT24 s), .i .i64 k_8744, .i .i64 x_10202, .i .i64 x_10469] = some (.tup [.i .i64 r10471.1, .b r10471.2]) := tells_eq inj56 (a := (s, k_8744, x_10202, x_10469)) q10472
                refine VW.evalA (C := [(56, F56)]) (tm 107 [(1, .ptr 0 0 0), (4, .ref 1 0 l8745.length), (5, .i .i64 k_8744), (6, .i .i64 x_10202), (7, .i .i64 best_10468), (8, .i .i64 x_10469), (9, .i .i64 r10471.1), (10, .b r10471.2), (42, .i .i64 ((List.replicate (aI .i64 s.store_ 1).toNat 0).length : Int)), (43, .i .i64 x_10202), (48, .i .i64 (aI .i64 s.most_ 1)), (49, .i .i64 x_10469)]) [some (7, [(pT24 s)]), some (1, (rows cl_ci_i64o l8745).set k_8744.toNat [.ref 3 0 l10203.length]), none, some (1, rows ci_i64 l10203)] [] ⟨ok56, trivial⟩ (by kernel_rfl) (by simp -implicitDefEqProofs [c10472]) ?_
                refine VW.seq ?_
                refine VW.seq ?_
                obtain ⟨w10478, q10488, h3⟩ := bindE h3
                refine VW.evalA (C := [(56, F56)]) (tm 107 [(1, .ptr 0 0 0), (4, .ref 1 0 l8745.length), (5, .i .i64 k_8744), (6, .i .i64 x_10202), (7, .i .i64 best_10468), (8, .i .i64 x_10469), (9, .i .i64 r10471.1), (42, .i .i64 ((List.replicate (aI .i64 s.store_ 1).toNat 0).length : Int)), (43, .i .i64 x_10202), (48, .i .i64 (aI .i64 s.most_ 1)), (49, .i .i64 x_10469), (72, .b w10478)]) [some (7, [(pT24 s)]), some (1, (rows cl_ci_i64o l8745).set k_8744.toNat [.ref 3 0 l10203.length]), none, some (1, rows ci_i64 l10203)] [] ⟨ok56, trivial⟩ (by kernel_rfl) (by
                    rcases Bool.eq_false_or_eq_true (!r10471.2) with q10489 | q10489
                    · first
                      | (simp at q10489; done)
                      | (rw [if_pos q10489] at q10488
                         have d10490 : w10478 = _ := (Option.some.inj q10488).symm
                         simp -implicitDefEqProofs [q10489, d10490])
                    · first
                      | (simp at q10489; done)
                      | (rw [if_neg (by rw [q10489]; exact Bool.false_ne_true)] at q10488
                         obtain ⟨e10473, q10474, q10488⟩ := bindQ q10488
                         obtain ⟨f10474a, f10474b, f10474c, f10474d⟩ := idx_some q10474
                         have f10475n := succ_ne f9623a f10474a
                         obtain ⟨e10476, q10477, q10488⟩ := bindQ q10488
                         obtain ⟨f10477a, f10477b, f10477c, f10477d⟩ := idx_some q10477
                         have d10491 : w10478 = _ := (Option.some.inj q10488).symm
                         simp -implicitDefEqProofs [q10489, f10474a, f10474b, f10474c, f10474d, f10475n, f10477a, f10477b, f10477c, f10477d, d10491])) ?_
                refine VW.condB (b := w10478) (by simp) (fun g10479 => ?_) (fun g10479 => ?_)
                · replace h3 := iteT g10479 h3
                  refine VW.exit ?_
                  refine VW.evalA (C := [(56, F56)]) (tm 107 [(1, .ptr 0 0 0), (4, .ref 1 0 l8745.length), (5, .i .i64 k_8744), (6, .i .i64 x_10202), (7, .i .i64 best_10468), (42, .i .i64 ((List.replicate (aI .i64 s.store_ 1).toNat 0).length : Int)), (43, .i .i64 x_10202), (48, .i .i64 (aI .i64 s.most_ 1)), (49, .i .i64 (aI .i64 x_10469 1))]) [some (7, [(pT24 s)]), some (1, (rows cl_ci_i64o l8745).set k_8744.toNat [.ref 3 0 l10203.length]), none, some (1, rows ci_i64 l10203)] [] ⟨ok56, trivial⟩ (by kernel_rfl) (by simp -implicitDefEqProofs) ?_
                  exact (show ∃ _, _ from ⟨(best_10468, aI .i64 x_10469 1), leafL h3, (Ent.to 4 (by simp [fgt]) (by first | (simp; done) | simp [pT24]) (by simp) (by simp [bndT, bndV]) (by simp [bndM, bndV]))⟩)
                · replace h3 := iteF g10479 h3
                  refine VW.skip ?_
                  refine VW.seq ?_
                  obtain ⟨e10480, q10481, h3⟩ := bindE h3
                  obtain ⟨f10481a, f10481b, f10481c, f10481d⟩ := idx_some q10481
                  obtain ⟨e10482, q10483, h3⟩ := bindE h3
                  obtain ⟨f10483a, f10483b, f10483c, f10483d⟩ := idx_some q10483
                  have f10484n := succ_ne f9623a f10483a
                  obtain ⟨e10485, q10486, h3⟩ := bindE h3
                  obtain ⟨f10486a, f10486b, f10486c, f10486d⟩ := idx_some q10486
                  refine VW.evalDA (C := [(56, F56)]) (tm 107 [(1, .ptr 0 0 0), (4, .ref 1 0 l8745.length), (5, .i .i64 k_8744), (6, .i .i64 x_10202), (7, .i .i64 best_10468), (11, .i .i64 (aI .i64 (mI .i64 e10480 x_10469) e10485)), (42, .i .i64 ((List.replicate (aI .i64 s.store_ 1).toNat 0).length : Int)), (43, .i .i64 x_10202), (48, .i .i64 (aI .i64 s.most_ 1)), (49, .i .i64 x_10469)]) [some (7, [(pT24 s)]), some (1, (rows cl_ci_i64o l8745).set k_8744.toNat [.ref 3 0 l10203.length]), none, some (1, rows ci_i64 l10203)] [] ⟨ok56, trivial⟩ mixed (by kernel_rfl) (by simp -implicitDefEqProofs [f10481a, f10481b, f10481c, f10481d, f10483a, f10483b, f10483c, f10483d, f10484n, f10486a, f10486b, f10486c, f10486d]) ?_
                  refine VW.seq ?_
                  refine VW.evalA (C := [(56, F56)]) (tm 107 [(1, .ptr 0 0 0), (4, .ref 1 0 l8745.length), (5, .i .i64 k_8744), (6, .i .i64 x_10202), (7, .i .i64 best_10468), (11, .i .i64 (aI .i64 (mI .i64 e10480 x_10469) e10485)), (42, .i .i64 ((List.replicate (aI .i64 s.store_ 1).toNat 0).length : Int)), (43, .i .i64 x_10202), (48, .i .i64 (aI .i64 s.most_ 1)), (49, .i .i64 x_10469), (95, .b (eqI best_10468 (-1) || ltI (aI .i64 (mI .i64 e10480 x_10469) e10485) best_10468))]) [some (7, [(pT24 s)]), some (1, (rows cl_ci_i64o l8745).set k_8744.toNat [.ref 3 0 l10203.length]), none, some (1, rows ci_i64 l10203)] [] ⟨ok56, trivial⟩ (by kernel_rfl) (by simp -implicitDefEqProofs) ?_
                  refine VW.condB (b := (eqI best_10468 (-1) || ltI (aI .i64 (mI .i64 e10480 x_10469) e10485) best_10468)) (by simp) (fun g10487 => ?_) (fun g10487 => ?_)
                  · replace h3 := iteT g10487 h3
                    refine VW.evalA (C := [(56, F56)]) (tm 107 [(1, .ptr 0 0 0), (4, .ref 1 0 l8745.length), (5, .i .i64 k_8744), (6, .i .i64 x_10202), (7, .i .i64 (aI .i64 (mI .i64 e10480 x_10469) e10485)), (42, .i .i64 ((List.replicate (aI .i64 s.store_ 1).toNat 0).length : Int)), (43, .i .i64 x_10202), (48, .i .i64 (aI .i64 s.most_ 1)), (49, .i .i64 x_10469)]) [some (7, [(pT24 s)]), some (1, (rows cl_ci_i64o l8745).set k_8744.toNat [.ref 3 0 l10203.length]), none, some (1, rows ci_i64 l10203)] [] ⟨ok56, trivial⟩ (by kernel_rfl) (by simp -implicitDefEqProofs) ?_
                    refine VW.evalA (C := [(56, F56)]) (tm 107 [(1, .ptr 0 0 0), (4, .ref 1 0 l8745.length), (5, .i .i64 k_8744), (6, .i .i64 x_10202), (7, .i .i64 (aI .i64 (mI .i64 e10480 x_10469) e10485)), (42, .i .i64 ((List.replicate (aI .i64 s.store_ 1).toNat 0).length : Int)), (43, .i .i64 x_10202), (48, .i .i64 (aI .i64 s.most_ 1)), (49, .i .i64 (aI .i64 x_10469 1))]) [some (7, [(pT24 s)]), some (1, (rows cl_ci_i64o l8745).set k_8744.toNat [.ref 3 0 l10203.length]), none, some (1, rows ci_i64 l10203)] [] ⟨ok56, trivial⟩ (by kernel_rfl) (by simp -implicitDefEqProofs) ?_
                    exact (show ∃ _, _ from ⟨(aI .i64 (mI .i64 e10480 x_10469) e10485, aI .i64 x_10469 1), leafL h3, (Ent.to 4 (by simp [fgt]) (by first | (simp; done) | simp [pT24]) (by simp) (by simp [bndT, bndV]) (by simp [bndM, bndV]))⟩)
                  · replace h3 := iteF g10487 h3
                    refine VW.skip ?_
                    refine VW.evalA (C := [(56, F56)]) (tm 107 [(1, .ptr 0 0 0), (4, .ref 1 0 l8745.length), (5, .i .i64 k_8744), (6, .i .i64 x_10202), (7, .i .i64 best_10468), (42, .i .i64 ((List.replicate (aI .i64 s.store_ 1).toNat 0).length : Int)), (43, .i .i64 x_10202), (48, .i .i64 (aI .i64 s.most_ 1)), (49, .i .i64 (aI .i64 x_10469 1))]) [some (7, [(pT24 s)]), some (1, (rows cl_ci_i64o l8745).set k_8744.toNat [.ref 3 0 l10203.length]), none, some (1, rows ci_i64 l10203)] [] ⟨ok56, trivial⟩ (by kernel_rfl) (by simp -implicitDefEqProofs) ?_
                    exact (show ∃ _, _ from ⟨(best_10468, aI .i64 x_10469 1), leafL h3, (Ent.to 4 (by simp [fgt]) (by first | (simp; done) | simp [pT24]) (by simp) (by simp [bndT, bndV]) (by simp [bndM, bndV]))⟩)
              · replace h3 := iteF g10470 h3
                refine VW.exit ?_
                have e_ := leafR h3
                subst w_3
                exact (show ∃ _, _ from ⟨best_10468, h2, (Ent.to 4 (by simp [fgt]) (by first | (simp; done) | simp [pT24]) (by simp) (by simp [bndT, bndV]) (by simp [bndM, bndV]))⟩)
            · rintro best_10419 h2
              replace h2 : (g63_j4 l10203 x_10202 best_10419).bind _ = _ := h2
              rw [g63_j4] at h2
              obtain ⟨e10420, q10421, h2⟩ := bindE h2
              obtain ⟨f10421a, f10421b, f10421c, f10421d⟩ := idx_some q10421
              refine VW.evalA (C := [(56, F56)]) (tm 107 [(1, .ptr 0 0 0), (4, .ref 1 0 l8745.length), (5, .i .i64 k_8744), (42, .i .i64 ((List.replicate (aI .i64 s.store_ 1).toNat 0).length : Int)), (43, .i .i64 x_10202)]) [some (7, [(pT24 s)]), some (1, (rows cl_ci_i64o l8745).set k_8744.toNat [.ref 3 0 (l10203.set x_10202.toNat best_10419).length]), none, some (1, rows ci_i64 (l10203.set x_10202.toNat best_10419))] [] ⟨ok56, trivial⟩ (by kernel_rfl) (by simp -implicitDefEqProofs [f10421a, f10421b, f10421c, f10421d, f9623a, f9623b, f9623c, f9623d]) ?_
              exact (show ∃ _, _ from ⟨(l10203.set x_10202.toNat best_10419), h2, (Ent.to 4 (by simp [fgt]) (by first | (simp; done) | simp [pT24]) (by simp) (by simp [bndT, bndV]) (by simp [bndM, bndV]))⟩)
          · rintro l10348 h2
            replace h2 : (g63_j3 x_10202 l10348).bind _ = _ := h2
            rw [g63_j3] at h2
            refine VW.evalA (C := [(56, F56)]) (tm 107 [(1, .ptr 0 0 0), (4, .ref 1 0 l8745.length), (5, .i .i64 k_8744), (42, .i .i64 ((List.replicate (aI .i64 s.store_ 1).toNat 0).length : Int)), (43, .i .i64 (aI .i64 x_10202 1))]) [some (7, [(pT24 s)]), some (1, (rows cl_ci_i64o l8745).set k_8744.toNat [.ref 3 0 l10348.length]), none, some (1, rows ci_i64 l10348)] [] ⟨ok56, trivial⟩ (by kernel_rfl) (by simp -implicitDefEqProofs) ?_
            exact (show ∃ _, _ from ⟨(aI .i64 x_10202 1, l10348), leafL h2, (Ent.to 4 (by simp [fgt]) (by first | (simp; done) | simp [pT24]) (by simp) (by simp [bndT, bndV]) (by simp [bndM, bndV]))⟩)
        · replace h2 := iteF g10204 h2
          refine VW.exit ?_
          have e_ := leafR h2
          subst w_2
          exact (show ∃ _, _ from ⟨(l8745.set k_8744.toNat l10203), h1, (Ent.trans (Ent.absorb (m := [some (7, [(pT24 s)]), some (1, (rows cl_ci_i64o l8745).set k_8744.toNat [.ref 3 0 l10203.length]), none, some (1, rows ci_i64 l10203)]) (n := 1) (n' := 1) (es := (rows cl_ci_i64o l8745).set k_8744.toNat [.ref 3 0 l10203.length]) (es' := rows ci_i64 l10203) (cs := [.ref 3 0 l10203.length]) 1 k_8744.toNat 0 3 l10203.length [some (7, [(pT24 s)]), some (1, rows cl_ci_i64o (l8745.set k_8744.toNat l10203)), none, none] rfl (by simp [f9623a, f9623b, f9623c, f9623d]) rfl rfl (by decide) (by simp) (by simp) (by simp)) (Ent.to 3 (by simp [fgt]) (by first | (simp; done) | simp [pT24]) (by simp) (by simp [bndT, bndV]) (by simp [bndM, bndV])))⟩)
      · rintro l9619 h1
        replace h1 : (g63_j2 k_8744 l9619).bind _ = _ := h1
        rw [g63_j2] at h1
        refine VW.evalA (C := [(56, F56)]) (tm 107 [(1, .ptr 0 0 0), (4, .ref 1 0 l9619.length), (5, .i .i64 (sI .i64 k_8744 1))]) [some (7, [(pT24 s)]), some (1, rows cl_ci_i64o l9619), none] [] ⟨ok56, trivial⟩ (by kernel_rfl) (by simp -implicitDefEqProofs) ?_
        exact (show ∃ _, _ from ⟨(sI .i64 k_8744 1, l9619), leafL h1, (Ent.to 3 (by simp [fgt]) (by first | (simp; done) | simp [pT24]) (by simp) (by simp [bndT, bndV]) (by simp [bndM, bndV]))⟩)
    · replace h1 := iteF g8746 h1
      refine VW.exit ?_
      have e_ := leafR h1
      subst w_1
      exact (show ∃ _, _ from ⟨l8745, h, (Ent.to 3 (by simp [fgt]) (by first | (simp; done) | simp [pT24]) (by simp) (by simp [bndT, bndV]) (by simp [bndM, bndV]))⟩)
  · rintro l5249 h
    replace h : (g63_j1 l5249).bind _ = _ := h
    rw [g63_j1] at h
    refine VW.seq ?_
    refine VW.evalA (C := [(56, F56)]) (tm 107 [(2, .ref 1 0 l5249.length)]) [some (7, [(pT24 s)]), some (1, rows cl_ci_i64o l5249), none] [] ⟨ok56, trivial⟩ (by kernel_rfl) (by simp -implicitDefEqProofs) ?_
    obtain rfl := leafS h
    refine VW.ret (VRet.fin ?_)
    simp [eB63]
noncomputable def g37_j2 (s : T24) (l10826 : List Int) : Option (Int × Int) :=
  (idx l10826 s.first_).bind fun e10827 =>
  some (e10827, 0)
noncomputable def g37_j3 (k_18031 : Int) (l19833 : List Int) : Option ((Int × (List Int)) ⊕ (List Int)) :=
  some (.inl (sI .i64 k_18031 1, l19833))
noncomputable def g37_j4 (k_18031 : Int) (l20734 : List Int) : Option ((Int × (List Int)) ⊕ (List Int)) :=
  g37_j3 k_18031 l20734
noncomputable def g37_j5 (i_21333 : Int) (l21484 : List Int) : Option ((Int × (List Int)) ⊕ (List Int)) :=
  some (.inl (aI .i64 i_21333 1, l21484))
noncomputable def g37_L3 (s : T24) (r4 : List (List Int)) (k_18031 : Int) (i_21333 : Int) (l18032 : List Int) : (Int × (List Int)) → Option ((Int × (List Int)) ⊕ (List Int))
  | (logs_21583, l21584) =>
    (if leI logs_21583 s.most_ = true then (idx r4 k_18031).bind fun e21585 => (idx e21585 i_21333).bind fun e21587 => some (!eqI e21587 (-1)) else some false).bind fun w21589 =>
    if w21589 = true then
      (g55 s k_18031 i_21333 logs_21583).bind fun r21591 =>
      (if leI 0 r21591 = true then (idx r4 (aI .i64 k_18031 1)).bind fun e21593 => (idx e21593 r21591).bind fun e21595 => some (!eqI e21595 (-1)) else some false).bind fun w21597 =>
      (if w21597 = true then (idx s.price_ k_18031).bind fun e21598 => (idx r4 (aI .i64 k_18031 1)).bind fun e21600 => (idx e21600 r21591).bind fun e21602 => (idx r4 k_18031).bind fun e21604 => (idx e21604 i_21333).bind fun e21606 => some (eqI (aI .i64 (mI .i64 e21598 logs_21583) e21602) e21606) else some false).bind fun w21608 =>
      if w21608 = true then
        (idx l21584 i_21333).bind fun e21610 =>
        (idx l18032 r21591).bind fun e21612 =>
        (g65 (aI .i64 e21610 e21612) 1000000000).bind fun r21614 =>
        some (.inl (aI .i64 logs_21583 1, (l21584.set i_21333.toNat r21614)))
      else
        some (.inl (aI .i64 logs_21583 1, l21584))
    else
      some (.inr l21584)
noncomputable def g37_L2 (s : T24) (r4 : List (List Int)) (k_18031 : Int) (l18032 : List Int) : (Int × (List Int)) → Option ((Int × (List Int)) ⊕ (List Int))
  | (i_21333, l21334) =>
    if leI i_21333 s.store_ = true then
      (loopO (g37_L3 s r4 k_18031 i_21333 l18032) (0, l21334)).bind fun w => g37_j5 i_21333 w
    else
      some (.inr l21334)
noncomputable def g37_L1 (s : T24) (r4 : List (List Int)) : (Int × (List Int)) → Option ((Int × (List Int)) ⊕ (List Int))
  | (k_18031, l18032) =>
    if leI 0 k_18031 = true then
      (mk 8 (aI .i64 s.store_ 1)).bind fun u19834 =>
      (loopO (g37_L2 s r4 k_18031 l18032) (0, (List.replicate (aI .i64 s.store_ 1).toNat 0))).bind fun w => g37_j4 k_18031 w
    else
      some (.inr l18032)
noncomputable def g37_j1 (s : T24) (r4 : List (List Int)) (l21 : List Int) : Option (Int × Int) :=
  (loopO (g37_L1 s r4) (sI .i64 (s.need_.length : Int) 1, l21)).bind fun w => g37_j2 s w
noncomputable def g37_L4 : (Int × (List Int)) → Option ((Int × (List Int)) ⊕ (List Int))
  | (i_21641, l21642) =>
    if ltI i_21641 (l21642.length : Int) = true then
      (idx l21642 i_21641).bind fun e21644 =>
      some (.inl (aI .i64 i_21641 1, (l21642.set i_21641.toNat 1)))
    else
      some (.inr l21642)
noncomputable def g37 (s : T24) : Option (Int × Int) :=
  (g51 s).bind fun r1 =>
  if (!r1) = true then
    some (0, 1)
  else
    (g64 s).bind fun r4 =>
    (mk 8 (aI .i64 s.store_ 1)).bind fun u6 =>
    (loopO g37_L4 (0, (List.replicate (aI .i64 s.store_ 1).toNat 0))).bind fun w => g37_j1 s r4 w
def eA37 (a : T24) : List V := [.agg (pT24 a)]
def eB37 (r : Int × Int) : V := .tup [.i .i64 r.1, .i .i64 r.2]
theorem inj37 (a a' : T24) (h : eA37 a = eA37 a') : a = a' := by
  obtain ⟨i239, i240, i241, i242, i243, i244, i245⟩ := a
  obtain ⟨i246, i247, i248, i249, i250, i251, i252⟩ := a'
  simp only [eA37, pT24, List.cons.injEq, V.i.injEq, V.b.injEq, V.f.injEq, V.str.injEq, V.sl.injEq, V.agg.injEq, V.cptr.injEq, true_and, and_true] at h
  simp_all [ri ci_i64_inj]
noncomputable def F37 : List V → Option V := tells (fun a => g37 a) eA37 eB37
set_option maxRecDepth 100000 in
set_option maxHeartbeats 4000000 in
/- loop.example/g01229/spec.CountBest -/
theorem ok37 : Tells Try.prog 37 F37 := by
  refine Tells.of (by kernel_rfl) ?_
  rintro s r h
  refine VCalls.nl (VCalls.of Try.func37 rfl rfl rfl ?_)
  rw [tm_init]
  simp only [eA37, en, List.length_cons, List.length_nil, Nat.reduceAdd, Nat.reduceSub]
  replace h : (g37 s).bind some = some r := bindS h
  rw [g37] at h
  refine VW.seq ?_
  refine VW.evalA (C := [(51, F51), (55, F55), (64, F64), (65, F65)]) (tm 126 [(1, .ptr 0 0 0)]) [some (7, [(pT24 s)])] [] ⟨ok51, ok55, ok64, ok65, trivial⟩ (by kernel_rfl) (by simp -implicitDefEqProofs) ?_
  refine VW.seq ?_
  refine VW.seq ?_
  obtain ⟨r1, q2, h⟩ := bindE h
  have c2 : F51 [.cptr (pT24 s) 0] = some (.b r1) := tells_eq inj51 (a := s) q2
  refine VW.evalA (C := [(51, F51), (55, F55), (64, F64), (65, F65)]) (tm 126 [(1, .ptr 0 0 0), (14, .b (!r1))]) [some (7, [(pT24 s)])] [] ⟨ok51, ok55, ok64, ok65, trivial⟩ (by kernel_rfl) (by simp -implicitDefEqProofs [c2]) ?_
  refine VW.condB (b := (!r1)) (by simp) (fun g3 => ?_) (fun g3 => ?_)
  · replace h := iteT g3 h
    refine VW.seq ?_
    refine VW.evalA (C := [(51, F51), (55, F55), (64, F64), (65, F65)]) (tm 126 [(2, .i .i64 0), (3, .i .i64 1)]) [some (7, [(pT24 s)])] [] ⟨ok51, ok55, ok64, ok65, trivial⟩ (by kernel_rfl) (by simp -implicitDefEqProofs) ?_
    obtain rfl := leafS h
    refine VW.ret (VRet.fin ?_)
    simp [eB37]
  · replace h := iteF g3 h
    refine VW.skip ?_
    refine VW.seq ?_
    obtain ⟨r4, q5, h⟩ := bindE h
    have c5 : F64 [.cptr (pT24 s) 0] = some (.own 1 (rows cl_ci_i64o r4)) := tells_eq inj64 (a := s) q5
    refine VW.evalA (C := [(51, F51), (55, F55), (64, F64), (65, F65)]) (tm 126 [(1, .ptr 0 0 0), (4, .ref 1 0 r4.length)]) [some (7, [(pT24 s)]), some (1, rows cl_ci_i64 r4)] [] ⟨ok51, ok55, ok64, ok65, trivial⟩ (by kernel_rfl) (by simp -implicitDefEqProofs [c5]) ?_
    refine VW.seq ?_
    refine VW.evalA (C := [(51, F51), (55, F55), (64, F64), (65, F65)]) (tm 126 [(1, .ptr 0 0 0), (4, .ref 1 0 r4.length), (5, .i .i64 (s.need_.length : Int))]) [some (7, [(pT24 s)]), some (1, rows cl_ci_i64 r4)] [] ⟨ok51, ok55, ok64, ok65, trivial⟩ (by kernel_rfl) (by simp -implicitDefEqProofs) ?_
    refine VW.seq ?_
    obtain ⟨u6, q7, h⟩ := bindE h
    obtain ⟨f7a, f7b, f7c⟩ := mk_some q7
    try simp only [Int.toNat_natCast, Int.reduceToNat, List.length_cons, List.length_nil, Nat.reduceAdd, Nat.zero_add] at f7a f7b f7c
    refine VW.evalA (C := [(51, F51), (55, F55), (64, F64), (65, F65)]) (tm 126 [(1, .ptr 0 0 0), (4, .ref 1 0 r4.length), (5, .i .i64 (s.need_.length : Int)), (6, .ref 2 0 (List.replicate (aI .i64 s.store_ 1).toNat 0).length)]) [some (7, [(pT24 s)]), some (1, rows cl_ci_i64 r4), some (1, rows ci_i64 (List.replicate (aI .i64 s.store_ 1).toNat 0))] [] ⟨ok51, ok55, ok64, ok65, trivial⟩ (by kernel_rfl) (by simp -implicitDefEqProofs [f7a, f7b, f7c]) ?_
    refine VW.join (fun (v : List Int) => (⟨(tm 126 [(1, .ptr 0 0 0), (4, .ref 1 0 r4.length), (5, .i .i64 (s.need_.length : Int)), (6, .ref 2 0 v.length)]), [some (7, [(pT24 s)]), some (1, rows cl_ci_i64 r4), some (1, rows ci_i64 v)], []⟩ : VS)) (fun v => (g37_j1 s r4 (v)).bind some = some r) ?_ ?_
    · refine VW.seq ?_
      refine VW.evalA (C := [(51, F51), (55, F55), (64, F64), (65, F65)]) (tm 126 [(1, .ptr 0 0 0), (4, .ref 1 0 r4.length), (5, .i .i64 (s.need_.length : Int)), (6, .ref 2 0 (List.replicate (aI .i64 s.store_ 1).toNat 0).length), (7, .i .i64 0)]) [some (7, [(pT24 s)]), some (1, rows cl_ci_i64 r4), some (1, rows ci_i64 (List.replicate (aI .i64 s.store_ 1).toNat 0))] [] ⟨ok51, ok55, ok64, ok65, trivial⟩ (by kernel_rfl) (by simp -implicitDefEqProofs) ?_
      refine VW.block ?_
      obtain ⟨w_4, hw_4, h⟩ := bindE h
      refine VW.loopO (fun (x : Int × (List Int)) => (⟨(tm 126 [(1, .ptr 0 0 0), (4, .ref 1 0 r4.length), (5, .i .i64 (s.need_.length : Int)), (6, .ref 2 0 x.2.length), (7, .i .i64 x.1)]), [some (7, [(pT24 s)]), some (1, rows cl_ci_i64 r4), some (1, rows ci_i64 x.2)], []⟩ : VS)) hw_4 (Ent.to 3 (by simp [fgt]) (by first | (simp; done) | simp [pT24]) (by simp) (by simp [bndT, bndV]) (by simp [bndM, bndV])) ?_
      rintro n_4 ⟨i_21641, l21642⟩ h1
      rw [g37_L4] at h1
      refine VW.seq ?_
      refine VW.seq ?_
      refine VW.evalA (C := [(51, F51), (55, F55), (64, F64), (65, F65)]) (tm 126 [(1, .ptr 0 0 0), (4, .ref 1 0 r4.length), (5, .i .i64 (s.need_.length : Int)), (6, .ref 2 0 l21642.length), (7, .i .i64 i_21641), (26, .b (ltI i_21641 (l21642.length : Int)))]) [some (7, [(pT24 s)]), some (1, rows cl_ci_i64 r4), some (1, rows ci_i64 l21642)] [] ⟨ok51, ok55, ok64, ok65, trivial⟩ (by kernel_rfl) (by simp -implicitDefEqProofs) ?_
      refine VW.condB (b := ltI i_21641 (l21642.length : Int)) (by simp) (fun g21643 => ?_) (fun g21643 => ?_)
      · replace h1 := iteT g21643 h1
        refine VW.skip ?_
        refine VW.seq ?_
        refine VW.block ?_
        obtain ⟨e21644, q21645, h1⟩ := bindE h1
        obtain ⟨f21645a, f21645b, f21645c, f21645d⟩ := idx_some q21645
        refine VW.evalA (C := [(51, F51), (55, F55), (64, F64), (65, F65)]) (tm 126 [(1, .ptr 0 0 0), (4, .ref 1 0 r4.length), (5, .i .i64 (s.need_.length : Int)), (6, .ref 2 0 (l21642.set i_21641.toNat 1).length), (7, .i .i64 i_21641)]) [some (7, [(pT24 s)]), some (1, rows cl_ci_i64 r4), some (1, rows ci_i64 (l21642.set i_21641.toNat 1))] [] ⟨ok51, ok55, ok64, ok65, trivial⟩ (by kernel_rfl) (by simp -implicitDefEqProofs [f21645a, f21645b, f21645c, f21645d]) ?_
        refine VW.evalA (C := [(51, F51), (55, F55), (64, F64), (65, F65)]) (tm 126 [(1, .ptr 0 0 0), (4, .ref 1 0 r4.length), (5, .i .i64 (s.need_.length : Int)), (6, .ref 2 0 (l21642.set i_21641.toNat 1).length), (7, .i .i64 (aI .i64 i_21641 1))]) [some (7, [(pT24 s)]), some (1, rows cl_ci_i64 r4), some (1, rows ci_i64 (l21642.set i_21641.toNat 1))] [] ⟨ok51, ok55, ok64, ok65, trivial⟩ (by kernel_rfl) (by simp -implicitDefEqProofs) ?_
        exact (show ∃ _, _ from ⟨(aI .i64 i_21641 1, (l21642.set i_21641.toNat 1)), leafL h1, (Ent.to 3 (by simp [fgt]) (by first | (simp; done) | simp [pT24]) (by simp) (by simp [bndT, bndV]) (by simp [bndM, bndV]))⟩)
      · replace h1 := iteF g21643 h1
        refine VW.exit ?_
        have e_ := leafR h1
        subst w_4
        exact (show ∃ _, _ from ⟨l21642, h, (Ent.to 3 (by simp [fgt]) (by first | (simp; done) | simp [pT24]) (by simp) (by simp [bndT, bndV]) (by simp [bndM, bndV]))⟩)
    · rintro l21 h
      replace h : (g37_j1 s r4 l21).bind _ = _ := h
      rw [g37_j1] at h
      refine VW.join (fun (v : List Int) => (⟨(tm 126 [(1, .ptr 0 0 0), (6, .ref 2 0 v.length)]), [some (7, [(pT24 s)]), some (1, rows cl_ci_i64 r4), some (1, rows ci_i64 v)], []⟩ : VS)) (fun v => (g37_j2 s (v)).bind some = some r) ?_ ?_
      · refine VW.seq ?_
        refine VW.evalA (C := [(51, F51), (55, F55), (64, F64), (65, F65)]) (tm 126 [(1, .ptr 0 0 0), (4, .ref 1 0 r4.length), (6, .ref 2 0 l21.length), (8, .i .i64 (sI .i64 (s.need_.length : Int) 1))]) [some (7, [(pT24 s)]), some (1, rows cl_ci_i64 r4), some (1, rows ci_i64 l21)] [] ⟨ok51, ok55, ok64, ok65, trivial⟩ (by kernel_rfl) (by simp -implicitDefEqProofs) ?_
        refine VW.block ?_
        obtain ⟨w_1, hw_1, h⟩ := bindE h
        refine VW.loopO (fun (x : Int × (List Int)) => (⟨(tm 126 [(1, .ptr 0 0 0), (4, .ref 1 0 r4.length), (6, .ref 2 0 x.2.length), (8, .i .i64 x.1)]), [some (7, [(pT24 s)]), some (1, rows cl_ci_i64 r4), some (1, rows ci_i64 x.2)], []⟩ : VS)) hw_1 (Ent.to 3 (by simp [fgt]) (by first | (simp; done) | simp [pT24]) (by simp) (by simp [bndT, bndV]) (by simp [bndM, bndV])) ?_
        rintro n_1 ⟨k_18031, l18032⟩ h1
        rw [g37_L1] at h1
        refine VW.seq ?_
        refine VW.seq ?_
        refine VW.evalA (C := [(51, F51), (55, F55), (64, F64), (65, F65)]) (tm 126 [(1, .ptr 0 0 0), (4, .ref 1 0 r4.length), (6, .ref 2 0 l18032.length), (8, .i .i64 k_18031), (35, .b (leI 0 k_18031))]) [some (7, [(pT24 s)]), some (1, rows cl_ci_i64 r4), some (1, rows ci_i64 l18032)] [] ⟨ok51, ok55, ok64, ok65, trivial⟩ (by kernel_rfl) (by simp -implicitDefEqProofs) ?_
        refine VW.condB (b := leI 0 k_18031) (by simp) (fun g18033 => ?_) (fun g18033 => ?_)
        · replace h1 := iteT g18033 h1
          refine VW.skip ?_
          refine VW.join (fun (v : List Int) => (⟨(tm 126 [(1, .ptr 0 0 0), (4, .ref 1 0 r4.length), (6, .ref 3 0 v.length), (8, .i .i64 k_18031)]), [some (7, [(pT24 s)]), some (1, rows cl_ci_i64 r4), some (1, rows ci_i64 l18032), some (1, rows ci_i64 v)], []⟩ : VS)) (fun v => (g37_j3 k_18031 (v)).bind (kN (g37_L1 s r4) n_1) = some w_1) ?_ ?_
          · refine VW.block ?_
            refine VW.seq ?_
            obtain ⟨u19834, q19835, h1⟩ := bindE h1
            obtain ⟨f19835a, f19835b, f19835c⟩ := mk_some q19835
            try simp only [Int.toNat_natCast, Int.reduceToNat, List.length_cons, List.length_nil, Nat.reduceAdd, Nat.zero_add] at f19835a f19835b f19835c
            refine VW.evalA (C := [(51, F51), (55, F55), (64, F64), (65, F65)]) (tm 126 [(1, .ptr 0 0 0), (4, .ref 1 0 r4.length), (6, .ref 2 0 l18032.length), (8, .i .i64 k_18031), (9, .ref 3 0 (List.replicate (aI .i64 s.store_ 1).toNat 0).length)]) [some (7, [(pT24 s)]), some (1, rows cl_ci_i64 r4), some (1, rows ci_i64 l18032), some (1, rows ci_i64 (List.replicate (aI .i64 s.store_ 1).toNat 0))] [] ⟨ok51, ok55, ok64, ok65, trivial⟩ (by kernel_rfl) (by simp -implicitDefEqProofs [f19835a, f19835b, f19835c]) ?_
            refine VW.join (fun (v : List Int) => (⟨(tm 126 [(1, .ptr 0 0 0), (4, .ref 1 0 r4.length), (8, .i .i64 k_18031), (9, .ref 3 0 v.length)]), [some (7, [(pT24 s)]), some (1, rows cl_ci_i64 r4), some (1, rows ci_i64 l18032), some (1, rows ci_i64 v)], []⟩ : VS)) (fun v => (g37_j4 k_18031 (v)).bind (kN (g37_L1 s r4) n_1) = some w_1) ?_ ?_
            · refine VW.seq ?_
              refine VW.evalA (C := [(51, F51), (55, F55), (64, F64), (65, F65)]) (tm 126 [(1, .ptr 0 0 0), (4, .ref 1 0 r4.length), (6, .ref 2 0 l18032.length), (8, .i .i64 k_18031), (9, .ref 3 0 (List.replicate (aI .i64 s.store_ 1).toNat 0).length), (10, .i .i64 0)]) [some (7, [(pT24 s)]), some (1, rows cl_ci_i64 r4), some (1, rows ci_i64 l18032), some (1, rows ci_i64 (List.replicate (aI .i64 s.store_ 1).toNat 0))] [] ⟨ok51, ok55, ok64, ok65, trivial⟩ (by kernel_rfl) (by simp -implicitDefEqProofs) ?_
              refine VW.block ?_
              obtain ⟨w_2, hw_2, h1⟩ := bindE h1
              refine VW.loopO (fun (x : Int × (List Int)) => (⟨(tm 126 [(1, .ptr 0 0 0), (4, .ref 1 0 r4.length), (6, .ref 2 0 l18032.length), (8, .i .i64 k_18031), (9, .ref 3 0 x.2.length), (10, .i .i64 x.1)]), [some (7, [(pT24 s)]), some (1, rows cl_ci_i64 r4), some (1, rows ci_i64 l18032), some (1, rows ci_i64 x.2)], []⟩ : VS)) hw_2 (Ent.to 4 (by simp [fgt]) (by first | (simp; done) | simp [pT24]) (by simp) (by simp [bndT, bndV]) (by simp [bndM, bndV])) ?_
              rintro n_2 ⟨i_21333, l21334⟩ h2
              rw [g37_L2] at h2
              refine VW.seq ?_
              refine VW.seq ?_
              refine VW.evalA (C := [(51, F51), (55, F55), (64, F64), (65, F65)]) (tm 126 [(1, .ptr 0 0 0), (4, .ref 1 0 r4.length), (6, .ref 2 0 l18032.length), (8, .i .i64 k_18031), (9, .ref 3 0 l21334.length), (10, .i .i64 i_21333), (45, .b (leI i_21333 s.store_))]) [some (7, [(pT24 s)]), some (1, rows cl_ci_i64 r4), some (1, rows ci_i64 l18032), some (1, rows ci_i64 l21334)] [] ⟨ok51, ok55, ok64, ok65, trivial⟩ (by kernel_rfl) (by simp -implicitDefEqProofs) ?_
              refine VW.condB (b := leI i_21333 s.store_) (by simp) (fun g21335 => ?_) (fun g21335 => ?_)
              · replace h2 := iteT g21335 h2
                refine VW.skip ?_
                refine VW.join (fun (v : List Int) => (⟨(tm 126 [(1, .ptr 0 0 0), (4, .ref 1 0 r4.length), (6, .ref 2 0 l18032.length), (8, .i .i64 k_18031), (9, .ref 3 0 v.length), (10, .i .i64 i_21333)]), [some (7, [(pT24 s)]), some (1, rows cl_ci_i64 r4), some (1, rows ci_i64 l18032), some (1, rows ci_i64 v)], []⟩ : VS)) (fun v => (g37_j5 i_21333 (v)).bind (kN (g37_L2 s r4 k_18031 l18032) n_2) = some w_2) ?_ ?_
                · refine VW.block ?_
                  refine VW.seq ?_
                  refine VW.evalA (C := [(51, F51), (55, F55), (64, F64), (65, F65)]) (tm 126 [(1, .ptr 0 0 0), (4, .ref 1 0 r4.length), (6, .ref 2 0 l18032.length), (8, .i .i64 k_18031), (9, .ref 3 0 l21334.length), (10, .i .i64 i_21333), (11, .i .i64 0)]) [some (7, [(pT24 s)]), some (1, rows cl_ci_i64 r4), some (1, rows ci_i64 l18032), some (1, rows ci_i64 l21334)] [] ⟨ok51, ok55, ok64, ok65, trivial⟩ (by kernel_rfl) (by simp -implicitDefEqProofs) ?_
                  refine VW.block ?_
                  obtain ⟨w_3, hw_3, h2⟩ := bindE h2
                  refine VW.loopO (fun (x : Int × (List Int)) => (⟨(tm 126 [(1, .ptr 0 0 0), (4, .ref 1 0 r4.length), (6, .ref 2 0 l18032.length), (8, .i .i64 k_18031), (9, .ref 3 0 x.2.length), (10, .i .i64 i_21333), (11, .i .i64 x.1)]), [some (7, [(pT24 s)]), some (1, rows cl_ci_i64 r4), some (1, rows ci_i64 l18032), some (1, rows ci_i64 x.2)], []⟩ : VS)) hw_3 (Ent.to 4 (by simp [fgt]) (by first | (simp; done) | simp [pT24]) (by simp) (by simp [bndT, bndV]) (by simp [bndM, bndV])) ?_
                  rintro n_3 ⟨logs_21583, l21584⟩ h3
                  rw [g37_L3] at h3
                  refine VW.seq ?_
                  refine VW.seq ?_
                  obtain ⟨w21589, q21629, h3⟩ := bindE h3
                  refine VW.evalA (C := [(51, F51), (55, F55), (64, F64), (65, F65)]) (tm 126 [(1, .ptr 0 0 0), (4, .ref 1 0 r4.length), (6, .ref 2 0 l18032.length), (8, .i .i64 k_18031), (9, .ref 3 0 l21584.length), (10, .i .i64 i_21333), (11, .i .i64 logs_21583), (61, .b w21589)]) [some (7, [(pT24 s)]), some (1, rows cl_ci_i64 r4), some (1, rows ci_i64 l18032), some (1, rows ci_i64 l21584)] [] ⟨ok51, ok55, ok64, ok65, trivial⟩ (by kernel_rfl) (by
                      rcases Bool.eq_false_or_eq_true (leI logs_21583 s.most_) with q21630 | q21630
                      · first
                        | (simp at q21630; done)
                        | (rw [if_pos q21630] at q21629
                           obtain ⟨e21585, q21586, q21629⟩ := bindQ q21629
                           obtain ⟨f21586a, f21586b, f21586c, f21586d⟩ := idx_some q21586
                           obtain ⟨e21587, q21588, q21629⟩ := bindQ q21629
                           obtain ⟨f21588a, f21588b, f21588c, f21588d⟩ := idx_some q21588
                           have d21631 : w21589 = _ := (Option.some.inj q21629).symm
                           simp -implicitDefEqProofs [q21630, f21586a, f21586b, f21586c, f21586d, f21588a, f21588b, f21588c, f21588d, d21631])
                      · first
                        | (simp at q21630; done)
                        | (rw [if_neg (by rw [q21630]; exact Bool.false_ne_true)] at q21629
                           have d21632 : w21589 = _ := (Option.some.inj q21629).symm
                           simp -implicitDefEqProofs [q21630, d21632])) ?_
                  refine VW.condB (b := w21589) (by simp) (fun g21590 => ?_) (fun g21590 => ?_)
                  · replace h3 := iteT g21590 h3
                    refine VW.skip ?_
                    refine VW.seq ?_
                    refine VW.block ?_
                    refine VW.seq ?_
                    obtain ⟨r21591, q21592, h3⟩ := bindE h3
                    have c21592 : F55 [.cptr (pT24 s) 0, .i .i64 k_18031, .i .i64 i_21333, .i .i64 logs_21583] = some (.i .i64 r21591) := tells_eq inj55 (a := (s, k_18031, i_21333, logs_21583)) q21592
                    refine VW.evalA (C := [(51, F51), (55, F55), (64, F64), (65, F65)]) (tm 126 [(1, .ptr 0 0 0), (4, .ref 1 0 r4.length), (6, .ref 2 0 l18032.length), (8, .i .i64 k_18031), (9, .ref 3 0 l21584.length), (10, .i .i64 i_21333), (11, .i .i64 logs_21583), (12, .i .i64 r21591)]) [some (7, [(pT24 s)]), some (1, rows cl_ci_i64 r4), some (1, rows ci_i64 l18032), some (1, rows ci_i64 l21584)] [] ⟨ok51, ok55, ok64, ok65, trivial⟩ (by kernel_rfl) (by simp -implicitDefEqProofs [c21592]) ?_
                    refine VW.seq ?_
                    obtain ⟨w21597, q21616, h3⟩ := bindE h3
                    obtain ⟨w21608, q21617, h3⟩ := bindE h3
                    refine VW.evalDA (C := [(51, F51), (55, F55), (64, F64), (65, F65)]) (tm 126 [(1, .ptr 0 0 0), (4, .ref 1 0 r4.length), (6, .ref 2 0 l18032.length), (8, .i .i64 k_18031), (9, .ref 3 0 l21584.length), (10, .i .i64 i_21333), (11, .i .i64 logs_21583), (12, .i .i64 r21591), (106, .b w21608)]) [some (7, [(pT24 s)]), some (1, rows cl_ci_i64 r4), some (1, rows ci_i64 l18032), some (1, rows ci_i64 l21584)] [] ⟨ok51, ok55, ok64, ok65, trivial⟩ mixed (by kernel_rfl) (by
                        rcases Bool.eq_false_or_eq_true (leI 0 r21591) with q21618 | q21618
                        · first
                          | (simp at q21618; done)
                          | (rw [if_pos q21618] at q21616
                             obtain ⟨e21593, q21594, q21616⟩ := bindQ q21616
                             obtain ⟨f21594a, f21594b, f21594c, f21594d⟩ := idx_some q21594
                             obtain ⟨e21595, q21596, q21616⟩ := bindQ q21616
                             obtain ⟨f21596a, f21596b, f21596c, f21596d⟩ := idx_some q21596
                             have d21619 : w21597 = _ := (Option.some.inj q21616).symm
                             rcases Bool.eq_false_or_eq_true w21597 with q21620 | q21620
                             · first
                               | (simp [d21619] at q21620; done)
                               | (rw [if_pos q21620] at q21617
                                  try simp only [d21619] at q21620
                                  obtain ⟨e21598, q21599, q21617⟩ := bindQ q21617
                                  obtain ⟨f21599a, f21599b, f21599c, f21599d⟩ := idx_some q21599
                                  obtain ⟨e21600, q21601, q21617⟩ := bindQ q21617
                                  have d21621 : e21600 = e21593 := Option.some.inj (q21601.symm.trans q21594)
                                  obtain ⟨e21602, q21603, q21617⟩ := bindQ q21617
                                  have d21622 : e21602 = e21595 := by have t_ := q21603; simp only [d21621] at t_; exact Option.some.inj (t_.symm.trans q21596)
                                  obtain ⟨e21604, q21605, q21617⟩ := bindQ q21617
                                  obtain ⟨f21605a, f21605b, f21605c, f21605d⟩ := idx_some q21605
                                  obtain ⟨e21606, q21607, q21617⟩ := bindQ q21617
                                  obtain ⟨f21607a, f21607b, f21607c, f21607d⟩ := idx_some q21607
                                  have d21623 : w21608 = _ := (Option.some.inj q21617).symm
                                  simp -implicitDefEqProofs [q21618, f21594a, f21594b, f21594c, f21594d, f21596a, f21596b, f21596c, f21596d, d21619, q21620, f21599a, f21599b, f21599c, f21599d, d21621, d21622, f21605a, f21605b, f21605c, f21605d, f21607a, f21607b, f21607c, f21607d, d21623])
                             · first
                               | (simp [d21619] at q21620; done)
                               | (rw [if_neg (by rw [q21620]; exact Bool.false_ne_true)] at q21617
                                  try simp only [d21619] at q21620
                                  have d21624 : w21608 = _ := (Option.some.inj q21617).symm
                                  simp -implicitDefEqProofs [q21618, f21594a, f21594b, f21594c, f21594d, f21596a, f21596b, f21596c, f21596d, d21619, q21620, d21624]))
                        · first
                          | (simp at q21618; done)
                          | (rw [if_neg (by rw [q21618]; exact Bool.false_ne_true)] at q21616
                             have d21625 : w21597 = _ := (Option.some.inj q21616).symm
                             rcases Bool.eq_false_or_eq_true w21597 with q21626 | q21626
                             · first
                               | (simp [d21625] at q21626; done)
                               | (rw [if_pos q21626] at q21617
                                  try simp only [d21625] at q21626
                                  obtain ⟨e21598, q21599, q21617⟩ := bindQ q21617
                                  obtain ⟨f21599a, f21599b, f21599c, f21599d⟩ := idx_some q21599
                                  obtain ⟨e21600, q21601, q21617⟩ := bindQ q21617
                                  obtain ⟨f21601a, f21601b, f21601c, f21601d⟩ := idx_some q21601
                                  obtain ⟨e21602, q21603, q21617⟩ := bindQ q21617
                                  obtain ⟨f21603a, f21603b, f21603c, f21603d⟩ := idx_some q21603
                                  obtain ⟨e21604, q21605, q21617⟩ := bindQ q21617
                                  obtain ⟨f21605a, f21605b, f21605c, f21605d⟩ := idx_some q21605
                                  obtain ⟨e21606, q21607, q21617⟩ := bindQ q21617
                                  obtain ⟨f21607a, f21607b, f21607c, f21607d⟩ := idx_some q21607
                                  have d21627 : w21608 = _ := (Option.some.inj q21617).symm
                                  simp -implicitDefEqProofs [q21618, d21625, q21626, f21599a, f21599b, f21599c, f21599d, f21601a, f21601b, f21601c, f21601d, f21603a, f21603b, f21603c, f21603d, f21605a, f21605b, f21605c, f21605d, f21607a, f21607b, f21607c, f21607d, d21627])
                             · first
                               | (simp [d21625] at q21626; done)
                               | (rw [if_neg (by rw [q21626]; exact Bool.false_ne_true)] at q21617
                                  try simp only [d21625] at q21626
                                  have d21628 : w21608 = _ := (Option.some.inj q21617).symm
                                  simp -implicitDefEqProofs [q21618, d21625, q21626, d21628]))) ?_
                    refine VW.condB (b := w21608) (by simp) (fun g21609 => ?_) (fun g21609 => ?_)
                    · replace h3 := iteT g21609 h3
                      obtain ⟨e21610, q21611, h3⟩ := bindE h3
                      obtain ⟨f21611a, f21611b, f21611c, f21611d⟩ := idx_some q21611
                      obtain ⟨e21612, q21613, h3⟩ := bindE h3
                      obtain ⟨f21613a, f21613b, f21613c, f21613d⟩ := idx_some q21613
                      obtain ⟨r21614, q21615, h3⟩ := bindE h3
                      have c21615 : F65 [.i .i64 (aI .i64 e21610 e21612), .i .i64 1000000000] = some (.i .i64 r21614) := tells_eq inj65 (a := (aI .i64 e21610 e21612, 1000000000)) q21615
                      refine VW.evalDLA (C := [(51, F51), (55, F55), (64, F64), (65, F65)]) (tm 126 [(1, .ptr 0 0 0), (4, .ref 1 0 r4.length), (6, .ref 2 0 l18032.length), (8, .i .i64 k_18031), (9, .ref 3 0 (l21584.set i_21333.toNat r21614).length), (10, .i .i64 i_21333), (11, .i .i64 logs_21583)]) [some (7, [(pT24 s)]), some (1, rows cl_ci_i64 r4), some (1, rows ci_i64 l18032), some (1, rows ci_i64 (l21584.set i_21333.toNat r21614))] [] ⟨ok51, ok55, ok64, ok65, trivial⟩ mixed (by kernel_rfl) (by simp -implicitDefEqProofs [f21611a, f21611b, f21611c, f21611d, f21613a, f21613b, f21613c, f21613d, c21615]) ?_
                      refine VW.evalA (C := [(51, F51), (55, F55), (64, F64), (65, F65)]) (tm 126 [(1, .ptr 0 0 0), (4, .ref 1 0 r4.length), (6, .ref 2 0 l18032.length), (8, .i .i64 k_18031), (9, .ref 3 0 (l21584.set i_21333.toNat r21614).length), (10, .i .i64 i_21333), (11, .i .i64 (aI .i64 logs_21583 1))]) [some (7, [(pT24 s)]), some (1, rows cl_ci_i64 r4), some (1, rows ci_i64 l18032), some (1, rows ci_i64 (l21584.set i_21333.toNat r21614))] [] ⟨ok51, ok55, ok64, ok65, trivial⟩ (by kernel_rfl) (by simp -implicitDefEqProofs) ?_
                      exact (show ∃ _, _ from ⟨(aI .i64 logs_21583 1, (l21584.set i_21333.toNat r21614)), leafL h3, (Ent.to 4 (by simp [fgt]) (by first | (simp; done) | simp [pT24]) (by simp) (by simp [bndT, bndV]) (by simp [bndM, bndV]))⟩)
                    · replace h3 := iteF g21609 h3
                      refine VW.skip ?_
                      refine VW.evalA (C := [(51, F51), (55, F55), (64, F64), (65, F65)]) (tm 126 [(1, .ptr 0 0 0), (4, .ref 1 0 r4.length), (6, .ref 2 0 l18032.length), (8, .i .i64 k_18031), (9, .ref 3 0 l21584.length), (10, .i .i64 i_21333), (11, .i .i64 (aI .i64 logs_21583 1))]) [some (7, [(pT24 s)]), some (1, rows cl_ci_i64 r4), some (1, rows ci_i64 l18032), some (1, rows ci_i64 l21584)] [] ⟨ok51, ok55, ok64, ok65, trivial⟩ (by kernel_rfl) (by simp -implicitDefEqProofs) ?_
                      exact (show ∃ _, _ from ⟨(aI .i64 logs_21583 1, l21584), leafL h3, (Ent.to 4 (by simp [fgt]) (by first | (simp; done) | simp [pT24]) (by simp) (by simp [bndT, bndV]) (by simp [bndM, bndV]))⟩)
                  · replace h3 := iteF g21590 h3
                    refine VW.exit ?_
                    have e_ := leafR h3
                    subst w_3
                    exact (show ∃ _, _ from ⟨l21584, h2, (Ent.to 4 (by simp [fgt]) (by first | (simp; done) | simp [pT24]) (by simp) (by simp [bndT, bndV]) (by simp [bndM, bndV]))⟩)
                · rintro l21484 h2
                  replace h2 : (g37_j5 i_21333 l21484).bind _ = _ := h2
                  rw [g37_j5] at h2
                  refine VW.evalA (C := [(51, F51), (55, F55), (64, F64), (65, F65)]) (tm 126 [(1, .ptr 0 0 0), (4, .ref 1 0 r4.length), (6, .ref 2 0 l18032.length), (8, .i .i64 k_18031), (9, .ref 3 0 l21484.length), (10, .i .i64 (aI .i64 i_21333 1))]) [some (7, [(pT24 s)]), some (1, rows cl_ci_i64 r4), some (1, rows ci_i64 l18032), some (1, rows ci_i64 l21484)] [] ⟨ok51, ok55, ok64, ok65, trivial⟩ (by kernel_rfl) (by simp -implicitDefEqProofs) ?_
                  exact (show ∃ _, _ from ⟨(aI .i64 i_21333 1, l21484), leafL h2, (Ent.to 4 (by simp [fgt]) (by first | (simp; done) | simp [pT24]) (by simp) (by simp [bndT, bndV]) (by simp [bndM, bndV]))⟩)
              · replace h2 := iteF g21335 h2
                refine VW.exit ?_
                have e_ := leafR h2
                subst w_2
                exact (show ∃ _, _ from ⟨l21334, h1, (Ent.to 4 (by simp [fgt]) (by first | (simp; done) | simp [pT24]) (by simp) (by simp [bndT, bndV]) (by simp [bndM, bndV]))⟩)
            · rintro l20734 h1
              replace h1 : (g37_j4 k_18031 l20734).bind _ = _ := h1
              rw [g37_j4] at h1
              refine VW.evalA (C := [(51, F51), (55, F55), (64, F64), (65, F65)]) (tm 126 [(1, .ptr 0 0 0), (4, .ref 1 0 r4.length), (6, .ref 3 0 l20734.length), (8, .i .i64 k_18031)]) [some (7, [(pT24 s)]), some (1, rows cl_ci_i64 r4), some (1, rows ci_i64 l18032), some (1, rows ci_i64 l20734)] [] ⟨ok51, ok55, ok64, ok65, trivial⟩ (by kernel_rfl) (by simp -implicitDefEqProofs) ?_
              exact (show ∃ _, _ from ⟨l20734, h1, (Ent.to 4 (by simp [fgt]) (by first | (simp; done) | simp [pT24]) (by simp) (by simp [bndT, bndV]) (by simp [bndM, bndV]))⟩)
          · rintro l19833 h1
            replace h1 : (g37_j3 k_18031 l19833).bind _ = _ := h1
            rw [g37_j3] at h1
            refine VW.evalA (C := [(51, F51), (55, F55), (64, F64), (65, F65)]) (tm 126 [(1, .ptr 0 0 0), (4, .ref 1 0 r4.length), (6, .ref 3 0 l19833.length), (8, .i .i64 (sI .i64 k_18031 1))]) [some (7, [(pT24 s)]), some (1, rows cl_ci_i64 r4), some (1, rows ci_i64 l18032), some (1, rows ci_i64 l19833)] [] ⟨ok51, ok55, ok64, ok65, trivial⟩ (by kernel_rfl) (by simp -implicitDefEqProofs) ?_
            exact (show ∃ _, _ from ⟨(sI .i64 k_18031 1, l19833), leafL h1, (Ent.trans (Ent.le (t' := (tm 126 [(1, .ptr 0 0 0), (4, .ref 1 0 r4.length), (6, .ref 3 0 l19833.length), (8, .i .i64 (sI .i64 k_18031 1))])) (by simp)) (Ent.trans (Ent.mv (m := [some (7, [(pT24 s)]), some (1, rows cl_ci_i64 r4), some (1, rows ci_i64 l18032), some (1, rows ci_i64 l19833)]) (t' := (tm 126 [(1, .ptr 0 0 0), (4, .ref 1 0 r4.length), (6, .ref 2 0 l19833.length), (8, .i .i64 (sI .i64 k_18031 1))])) 2 3 1 (rows ci_i64 l19833) [some (7, [(pT24 s)]), some (1, rows cl_ci_i64 r4), some (1, rows ci_i64 l19833), none] (by decide) (by simp) rfl (by simp) (by simp [mv1]) (by simp) (by simp) (by simp) (by simp) (by simp)) (Ent.to 3 (by simp [fgt]) (by first | (simp; done) | simp [pT24]) (by simp) (by simp [bndT, bndV]) (by simp [bndM, bndV]))))⟩)
        · replace h1 := iteF g18033 h1
          refine VW.exit ?_
          have e_ := leafR h1
          subst w_1
          exact (show ∃ _, _ from ⟨l18032, h, (Ent.to 3 (by simp [fgt]) (by first | (simp; done) | simp [pT24]) (by simp) (by simp [bndT, bndV]) (by simp [bndM, bndV]))⟩)
      · rintro l10826 h
        replace h : (g37_j2 s l10826).bind _ = _ := h
        rw [g37_j2] at h
        refine VW.seq ?_
        obtain ⟨e10827, q10828, h⟩ := bindE h
        obtain ⟨f10828a, f10828b, f10828c, f10828d⟩ := idx_some q10828
        refine VW.evalA (C := [(51, F51), (55, F55), (64, F64), (65, F65)]) (tm 126 [(2, .i .i64 e10827), (3, .i .i64 0)]) [some (7, [(pT24 s)]), some (1, rows cl_ci_i64 r4), some (1, rows ci_i64 l10826)] [] ⟨ok51, ok55, ok64, ok65, trivial⟩ (by kernel_rfl) (by simp -implicitDefEqProofs [f10828a, f10828b, f10828c, f10828d]) ?_
        obtain rfl := leafS h
        refine VW.ret (VRet.fin ?_)
        simp [eB37]
noncomputable def g38_j2 (s : T24) (l8810 : List Int) : Option (Int × Int) :=
  (idx l8810 s.first_).bind fun e8811 =>
  some (e8811, 0)
noncomputable def g38_j3 (k_14671 : Int) (l16137 : List Int) : Option ((Int × (List Int)) ⊕ (List Int)) :=
  some (.inl (sI .i64 k_14671 1, l16137))
noncomputable def g38_j4 (k_14671 : Int) (l16870 : List Int) : Option ((Int × (List Int)) ⊕ (List Int)) :=
  g38_j3 k_14671 l16870
noncomputable def g38_j5 (x_17357 : Int) (l17480 : List Int) : Option ((Int × (List Int)) ⊕ (List Int)) :=
  some (.inl (aI .i64 x_17357 1, l17480))
noncomputable def g38_L3 (s : T24) (k_14671 : Int) (x_17357 : Int) (r4 : List (List Int)) (l14672 : List Int) : (Int × (List Int)) → Option ((Int × (List Int)) ⊕ (List Int))
  | (x_17562, l17563) =>
    if ltI x_17562 (aI .i64 s.most_ 1) = true then
      (g56 s k_14671 x_17357 x_17562).bind fun r17565 =>
      (if r17565.2 = true then (idx r4 (aI .i64 k_14671 1)).bind fun e17567 => (idx e17567 r17565.1).bind fun e17569 => some (!eqI e17569 (-1)) else some false).bind fun w17571 =>
      (if w17571 = true then (idx s.price_ k_14671).bind fun e17572 => (idx r4 (aI .i64 k_14671 1)).bind fun e17574 => (idx e17574 r17565.1).bind fun e17576 => (idx r4 k_14671).bind fun e17578 => (idx e17578 x_17357).bind fun e17580 => some (eqI (aI .i64 (mI .i64 e17572 x_17562) e17576) e17580) else some false).bind fun w17582 =>
      if w17582 = true then
        (idx l17563 x_17357).bind fun e17584 =>
        (idx l14672 r17565.1).bind fun e17586 =>
        some (.inl (aI .i64 x_17562 1, (l17563.set x_17357.toNat (minI (aI .i64 e17584 e17586) 1000000000))))
      else
        some (.inl (aI .i64 x_17562 1, l17563))
    else
      some (.inr l17563)
noncomputable def g38_L2 (s : T24) (r4 : List (List Int)) (k_14671 : Int) (l14672 : List Int) : (Int × (List Int)) → Option ((Int × (List Int)) ⊕ (List Int))
  | (x_17357, l17358) =>
    if ltI x_17357 ((List.replicate (aI .i64 s.store_ 1).toNat 0).length : Int) = true then
      (idx r4 k_14671).bind fun e17481 =>
      (idx e17481 x_17357).bind fun e17483 =>
      if eqI e17483 (-1) = true then
        g38_j5 x_17357 l17358
      else
        (loopO (g38_L3 s k_14671 x_17357 r4 l14672) (0, l17358)).bind fun w => g38_j5 x_17357 w
    else
      some (.inr l17358)
noncomputable def g38_L1 (s : T24) (r4 : List (List Int)) : (Int × (List Int)) → Option ((Int × (List Int)) ⊕ (List Int))
  | (k_14671, l14672) =>
    if leI 0 k_14671 = true then
      (mk 8 (aI .i64 s.store_ 1)).bind fun u16138 =>
      (loopO (g38_L2 s r4 k_14671 l14672) (0, (List.replicate (aI .i64 s.store_ 1).toNat 0))).bind fun w => g38_j4 k_14671 w
    else
      some (.inr l14672)
noncomputable def g38_j1 (s : T24) (r4 : List (List Int)) (l21 : List Int) : Option (Int × Int) :=
  (loopO (g38_L1 s r4) (sI .i64 (s.need_.length : Int) 1, l21)).bind fun w => g38_j2 s w
noncomputable def g38_L4 (s : T24) : (Int × (List Int)) → Option ((Int × (List Int)) ⊕ (List Int))
  | (x_17609, l17610) =>
    if ltI x_17609 ((List.replicate (aI .i64 s.store_ 1).toNat 0).length : Int) = true then
      (idx l17610 x_17609).bind fun e17612 =>
      some (.inl (aI .i64 x_17609 1, (l17610.set x_17609.toNat 1)))
    else
      some (.inr l17610)
noncomputable def g38 (s : T24) : Option (Int × Int) :=
  (g18 s).bind fun r1 =>
  if (!r1) = true then
    some (0, 1)
  else
    (g63 s).bind fun r4 =>
    (mk 8 (aI .i64 s.store_ 1)).bind fun u6 =>
    (loopO (g38_L4 s) (0, (List.replicate (aI .i64 s.store_ 1).toNat 0))).bind fun w => g38_j1 s r4 w
def eA38 (a : T24) : List V := [.agg (pT24 a)]
def eB38 (r : Int × Int) : V := .tup [.i .i64 r.1, .i .i64 r.2]
theorem inj38 (a a' : T24) (h : eA38 a = eA38 a') : a = a' := by
  obtain ⟨i253, i254, i255, i256, i257, i258, i259⟩ := a
  obtain ⟨i260, i261, i262, i263, i264, i265, i266⟩ := a'
  simp only [eA38, pT24, List.cons.injEq, V.i.injEq, V.b.injEq, V.f.injEq, V.str.injEq, V.sl.injEq, V.agg.injEq, V.cptr.injEq, true_and, and_true] at h
  simp_all [ri ci_i64_inj]
noncomputable def F38 : List V → Option V := tells (fun a => g38 a) eA38 eB38
set_option maxRecDepth 100000 in
set_option maxHeartbeats 4000000 in
/- loop.example/g01229/impl.CountBest -/
theorem ok38 : Tells Try.prog 38 F38 := by
  refine Tells.of (by kernel_rfl) ?_
  rintro s r h
  refine VCalls.nl (VCalls.of Try.func38 rfl rfl rfl ?_)
  rw [tm_init]
  simp only [eA38, en, List.length_cons, List.length_nil, Nat.reduceAdd, Nat.reduceSub]
  replace h : (g38 s).bind some = some r := bindS h
  rw [g38] at h
  refine VW.seq ?_
  refine VW.evalA (C := [(18, F18), (56, F56), (63, F63)]) (tm 129 [(1, .ptr 0 0 0)]) [some (7, [(pT24 s)])] [] ⟨ok18, ok56, ok63, trivial⟩ (by kernel_rfl) (by simp -implicitDefEqProofs [min_fold]) ?_
  refine VW.seq ?_
  refine VW.seq ?_
  obtain ⟨r1, q2, h⟩ := bindE h
  have c2 : F18 [.agg (pT24 s)] = some (.b r1) := tells_eq inj18 (a := s) q2
  refine VW.evalA (C := [(18, F18), (56, F56), (63, F63)]) (tm 129 [(1, .ptr 0 0 0), (15, .b (!r1))]) [some (7, [(pT24 s)])] [] ⟨ok18, ok56, ok63, trivial⟩ (by kernel_rfl) (by simp -implicitDefEqProofs [c2, min_fold]) ?_
  refine VW.condB (b := (!r1)) (by simp) (fun g3 => ?_) (fun g3 => ?_)
  · replace h := iteT g3 h
    refine VW.seq ?_
    refine VW.evalA (C := [(18, F18), (56, F56), (63, F63)]) (tm 129 [(2, .i .i64 0), (3, .i .i64 1)]) [some (7, [(pT24 s)])] [] ⟨ok18, ok56, ok63, trivial⟩ (by kernel_rfl) (by simp -implicitDefEqProofs) ?_
    obtain rfl := leafS h
    refine VW.ret (VRet.fin ?_)
    simp [eB38]
  · replace h := iteF g3 h
    refine VW.skip ?_
    refine VW.seq ?_
    obtain ⟨r4, q5, h⟩ := bindE h
    have c5 : F63 [.agg (pT24 s)] = some (.own 1 (rows cl_ci_i64o r4)) := tells_eq inj63 (a := s) q5
    refine VW.evalA (C := [(18, F18), (56, F56), (63, F63)]) (tm 129 [(1, .ptr 0 0 0), (4, .ref 1 0 r4.length)]) [some (7, [(pT24 s)]), some (1, rows cl_ci_i64 r4)] [] ⟨ok18, ok56, ok63, trivial⟩ (by kernel_rfl) (by simp -implicitDefEqProofs [c5, min_fold]) ?_
    refine VW.seq ?_
    obtain ⟨u6, q7, h⟩ := bindE h
    obtain ⟨f7a, f7b, f7c⟩ := mk_some q7
    try simp only [Int.toNat_natCast, Int.reduceToNat, List.length_cons, List.length_nil, Nat.reduceAdd, Nat.zero_add] at f7a f7b f7c
    refine VW.evalA (C := [(18, F18), (56, F56), (63, F63)]) (tm 129 [(1, .ptr 0 0 0), (4, .ref 1 0 r4.length), (5, .ref 2 0 (List.replicate (aI .i64 s.store_ 1).toNat 0).length)]) [some (7, [(pT24 s)]), some (1, rows cl_ci_i64 r4), some (1, rows ci_i64 (List.replicate (aI .i64 s.store_ 1).toNat 0))] [] ⟨ok18, ok56, ok63, trivial⟩ (by kernel_rfl) (by simp -implicitDefEqProofs [f7a, f7b, f7c, min_fold]) ?_
    refine VW.join (fun (v : List Int) => (⟨(tm 129 [(1, .ptr 0 0 0), (4, .ref 1 0 r4.length), (5, .ref 2 0 v.length)]), [some (7, [(pT24 s)]), some (1, rows cl_ci_i64 r4), some (1, rows ci_i64 v)], []⟩ : VS)) (fun v => (g38_j1 s r4 (v)).bind some = some r) ?_ ?_
    · refine VW.seq ?_
      refine VW.evalA (C := [(18, F18), (56, F56), (63, F63)]) (tm 129 [(1, .ptr 0 0 0), (4, .ref 1 0 r4.length), (5, .ref 2 0 (List.replicate (aI .i64 s.store_ 1).toNat 0).length), (23, .i .i64 ((List.replicate (aI .i64 s.store_ 1).toNat 0).length : Int)), (24, .i .i64 0)]) [some (7, [(pT24 s)]), some (1, rows cl_ci_i64 r4), some (1, rows ci_i64 (List.replicate (aI .i64 s.store_ 1).toNat 0))] [] ⟨ok18, ok56, ok63, trivial⟩ (by kernel_rfl) (by simp -implicitDefEqProofs [min_fold]) ?_
      refine VW.block ?_
      obtain ⟨w_4, hw_4, h⟩ := bindE h
      refine VW.loopO (fun (x : Int × (List Int)) => (⟨(tm 129 [(1, .ptr 0 0 0), (4, .ref 1 0 r4.length), (5, .ref 2 0 x.2.length), (23, .i .i64 ((List.replicate (aI .i64 s.store_ 1).toNat 0).length : Int)), (24, .i .i64 x.1)]), [some (7, [(pT24 s)]), some (1, rows cl_ci_i64 r4), some (1, rows ci_i64 x.2)], []⟩ : VS)) hw_4 (Ent.to 3 (by simp [fgt]) (by first | (simp; done) | simp [pT24]) (by simp) (by simp [bndT, bndV]) (by simp [bndM, bndV])) ?_
      rintro n_4 ⟨x_17609, l17610⟩ h1
      rw [g38_L4] at h1
      refine VW.seq ?_
      refine VW.evalA (C := [(18, F18), (56, F56), (63, F63)]) (tm 129 [(1, .ptr 0 0 0), (4, .ref 1 0 r4.length), (5, .ref 2 0 l17610.length), (23, .i .i64 ((List.replicate (aI .i64 s.store_ 1).toNat 0).length : Int)), (24, .i .i64 x_17609), (25, .b (ltI x_17609 ((List.replicate (aI .i64 s.store_ 1).toNat 0).length : Int)))]) [some (7, [(pT24 s)]), some (1, rows cl_ci_i64 r4), some (1, rows ci_i64 l17610)] [] ⟨ok18, ok56, ok63, trivial⟩ (by kernel_rfl) (by simp -implicitDefEqProofs [min_fold]) ?_
      refine VW.seq ?_
      refine VW.condB (b := ltI x_17609 ((List.replicate (aI .i64 s.store_ 1).toNat 0).length : Int)) (by simp) (fun g17611 => ?_) (fun g17611 => ?_)
      · replace h1 := iteT g17611 h1
        refine VW.skip ?_
        refine VW.seq ?_
        refine VW.block ?_
        refine VW.seq ?_
        refine VW.evalA (C := [(18, F18), (56, F56), (63, F63)]) (tm 129 [(1, .ptr 0 0 0), (4, .ref 1 0 r4.length), (5, .ref 2 0 l17610.length), (6, .i .i64 x_17609), (23, .i .i64 ((List.replicate (aI .i64 s.store_ 1).toNat 0).length : Int)), (24, .i .i64 x_17609)]) [some (7, [(pT24 s)]), some (1, rows cl_ci_i64 r4), some (1, rows ci_i64 l17610)] [] ⟨ok18, ok56, ok63, trivial⟩ (by kernel_rfl) (by simp -implicitDefEqProofs [min_fold]) ?_
        obtain ⟨e17612, q17613, h1⟩ := bindE h1
        obtain ⟨f17613a, f17613b, f17613c, f17613d⟩ := idx_some q17613
        refine VW.evalA (C := [(18, F18), (56, F56), (63, F63)]) (tm 129 [(1, .ptr 0 0 0), (4, .ref 1 0 r4.length), (5, .ref 2 0 (l17610.set x_17609.toNat 1).length), (23, .i .i64 ((List.replicate (aI .i64 s.store_ 1).toNat 0).length : Int)), (24, .i .i64 x_17609)]) [some (7, [(pT24 s)]), some (1, rows cl_ci_i64 r4), some (1, rows ci_i64 (l17610.set x_17609.toNat 1))] [] ⟨ok18, ok56, ok63, trivial⟩ (by kernel_rfl) (by simp -implicitDefEqProofs [f17613a, f17613b, f17613c, f17613d, min_fold]) ?_
        refine VW.evalA (C := [(18, F18), (56, F56), (63, F63)]) (tm 129 [(1, .ptr 0 0 0), (4, .ref 1 0 r4.length), (5, .ref 2 0 (l17610.set x_17609.toNat 1).length), (23, .i .i64 ((List.replicate (aI .i64 s.store_ 1).toNat 0).length : Int)), (24, .i .i64 (aI .i64 x_17609 1))]) [some (7, [(pT24 s)]), some (1, rows cl_ci_i64 r4), some (1, rows ci_i64 (l17610.set x_17609.toNat 1))] [] ⟨ok18, ok56, ok63, trivial⟩ (by kernel_rfl) (by simp -implicitDefEqProofs [min_fold]) ?_
        exact (show ∃ _, _ from ⟨(aI .i64 x_17609 1, (l17610.set x_17609.toNat 1)), leafL h1, (Ent.to 3 (by simp [fgt]) (by first | (simp; done) | simp [pT24]) (by simp) (by simp [bndT, bndV]) (by simp [bndM, bndV]))⟩)
      · replace h1 := iteF g17611 h1
        refine VW.exit ?_
        have e_ := leafR h1
        subst w_4
        exact (show ∃ _, _ from ⟨l17610, h, (Ent.to 3 (by simp [fgt]) (by first | (simp; done) | simp [pT24]) (by simp) (by simp [bndT, bndV]) (by simp [bndM, bndV]))⟩)
    · rintro l21 h
      replace h : (g38_j1 s r4 l21).bind _ = _ := h
      rw [g38_j1] at h
      refine VW.join (fun (v : List Int) => (⟨(tm 129 [(1, .ptr 0 0 0), (5, .ref 2 0 v.length)]), [some (7, [(pT24 s)]), some (1, rows cl_ci_i64 r4), some (1, rows ci_i64 v)], []⟩ : VS)) (fun v => (g38_j2 s (v)).bind some = some r) ?_ ?_
      · refine VW.seq ?_
        refine VW.evalA (C := [(18, F18), (56, F56), (63, F63)]) (tm 129 [(1, .ptr 0 0 0), (4, .ref 1 0 r4.length), (5, .ref 2 0 l21.length), (7, .i .i64 (sI .i64 (s.need_.length : Int) 1))]) [some (7, [(pT24 s)]), some (1, rows cl_ci_i64 r4), some (1, rows ci_i64 l21)] [] ⟨ok18, ok56, ok63, trivial⟩ (by kernel_rfl) (by simp -implicitDefEqProofs [min_fold]) ?_
        refine VW.block ?_
        obtain ⟨w_1, hw_1, h⟩ := bindE h
        refine VW.loopO (fun (x : Int × (List Int)) => (⟨(tm 129 [(1, .ptr 0 0 0), (4, .ref 1 0 r4.length), (5, .ref 2 0 x.2.length), (7, .i .i64 x.1)]), [some (7, [(pT24 s)]), some (1, rows cl_ci_i64 r4), some (1, rows ci_i64 x.2)], []⟩ : VS)) hw_1 (Ent.to 3 (by simp [fgt]) (by first | (simp; done) | simp [pT24]) (by simp) (by simp [bndT, bndV]) (by simp [bndM, bndV])) ?_
        rintro n_1 ⟨k_14671, l14672⟩ h1
        rw [g38_L1] at h1
        refine VW.seq ?_
        refine VW.seq ?_
        refine VW.evalA (C := [(18, F18), (56, F56), (63, F63)]) (tm 129 [(1, .ptr 0 0 0), (4, .ref 1 0 r4.length), (5, .ref 2 0 l14672.length), (7, .i .i64 k_14671), (36, .b (leI 0 k_14671))]) [some (7, [(pT24 s)]), some (1, rows cl_ci_i64 r4), some (1, rows ci_i64 l14672)] [] ⟨ok18, ok56, ok63, trivial⟩ (by kernel_rfl) (by simp -implicitDefEqProofs [min_fold]) ?_
        refine VW.condB (b := leI 0 k_14671) (by simp) (fun g14673 => ?_) (fun g14673 => ?_)
        · replace h1 := iteT g14673 h1
          refine VW.skip ?_
          refine VW.join (fun (v : List Int) => (⟨(tm 129 [(1, .ptr 0 0 0), (4, .ref 1 0 r4.length), (5, .ref 3 0 v.length), (7, .i .i64 k_14671)]), [some (7, [(pT24 s)]), some (1, rows cl_ci_i64 r4), some (1, rows ci_i64 l14672), some (1, rows ci_i64 v)], []⟩ : VS)) (fun v => (g38_j3 k_14671 (v)).bind (kN (g38_L1 s r4) n_1) = some w_1) ?_ ?_
          · refine VW.block ?_
            refine VW.seq ?_
            obtain ⟨u16138, q16139, h1⟩ := bindE h1
            obtain ⟨f16139a, f16139b, f16139c⟩ := mk_some q16139
            try simp only [Int.toNat_natCast, Int.reduceToNat, List.length_cons, List.length_nil, Nat.reduceAdd, Nat.zero_add] at f16139a f16139b f16139c
            refine VW.evalA (C := [(18, F18), (56, F56), (63, F63)]) (tm 129 [(1, .ptr 0 0 0), (4, .ref 1 0 r4.length), (5, .ref 2 0 l14672.length), (7, .i .i64 k_14671), (8, .ref 3 0 (List.replicate (aI .i64 s.store_ 1).toNat 0).length)]) [some (7, [(pT24 s)]), some (1, rows cl_ci_i64 r4), some (1, rows ci_i64 l14672), some (1, rows ci_i64 (List.replicate (aI .i64 s.store_ 1).toNat 0))] [] ⟨ok18, ok56, ok63, trivial⟩ (by kernel_rfl) (by simp -implicitDefEqProofs [f16139a, f16139b, f16139c, min_fold]) ?_
            refine VW.join (fun (v : List Int) => (⟨(tm 129 [(1, .ptr 0 0 0), (4, .ref 1 0 r4.length), (7, .i .i64 k_14671), (8, .ref 3 0 v.length)]), [some (7, [(pT24 s)]), some (1, rows cl_ci_i64 r4), some (1, rows ci_i64 l14672), some (1, rows ci_i64 v)], []⟩ : VS)) (fun v => (g38_j4 k_14671 (v)).bind (kN (g38_L1 s r4) n_1) = some w_1) ?_ ?_
            · refine VW.seq ?_
              refine VW.evalA (C := [(18, F18), (56, F56), (63, F63)]) (tm 129 [(1, .ptr 0 0 0), (4, .ref 1 0 r4.length), (5, .ref 2 0 l14672.length), (7, .i .i64 k_14671), (8, .ref 3 0 (List.replicate (aI .i64 s.store_ 1).toNat 0).length), (44, .i .i64 ((List.replicate (aI .i64 s.store_ 1).toNat 0).length : Int)), (45, .i .i64 0)]) [some (7, [(pT24 s)]), some (1, rows cl_ci_i64 r4), some (1, rows ci_i64 l14672), some (1, rows ci_i64 (List.replicate (aI .i64 s.store_ 1).toNat 0))] [] ⟨ok18, ok56, ok63, trivial⟩ (by kernel_rfl) (by simp -implicitDefEqProofs [min_fold]) ?_
              refine VW.block ?_
              obtain ⟨w_2, hw_2, h1⟩ := bindE h1
              refine VW.loopO (fun (x : Int × (List Int)) => (⟨(tm 129 [(1, .ptr 0 0 0), (4, .ref 1 0 r4.length), (5, .ref 2 0 l14672.length), (7, .i .i64 k_14671), (8, .ref 3 0 x.2.length), (44, .i .i64 ((List.replicate (aI .i64 s.store_ 1).toNat 0).length : Int)), (45, .i .i64 x.1)]), [some (7, [(pT24 s)]), some (1, rows cl_ci_i64 r4), some (1, rows ci_i64 l14672), some (1, rows ci_i64 x.2)], []⟩ : VS)) hw_2 (Ent.to 4 (by simp [fgt]) (by first | (simp; done) | simp [pT24]) (by simp) (by simp [bndT, bndV]) (by simp [bndM, bndV])) ?_
              rintro n_2 ⟨x_17357, l17358⟩ h2
              rw [g38_L2] at h2
              refine VW.seq ?_
              refine VW.evalA (C := [(18, F18), (56, F56), (63, F63)]) (tm 129 [(1, .ptr 0 0 0), (4, .ref 1 0 r4.length), (5, .ref 2 0 l14672.length), (7, .i .i64 k_14671), (8, .ref 3 0 l17358.length), (44, .i .i64 ((List.replicate (aI .i64 s.store_ 1).toNat 0).length : Int)), (45, .i .i64 x_17357), (46, .b (ltI x_17357 ((List.replicate (aI .i64 s.store_ 1).toNat 0).length : Int)))]) [some (7, [(pT24 s)]), some (1, rows cl_ci_i64 r4), some (1, rows ci_i64 l14672), some (1, rows ci_i64 l17358)] [] ⟨ok18, ok56, ok63, trivial⟩ (by kernel_rfl) (by simp -implicitDefEqProofs [min_fold]) ?_
              refine VW.seq ?_
              refine VW.condB (b := ltI x_17357 ((List.replicate (aI .i64 s.store_ 1).toNat 0).length : Int)) (by simp) (fun g17359 => ?_) (fun g17359 => ?_)
              · replace h2 := iteT g17359 h2
                refine VW.skip ?_
                refine VW.join (fun (v : List Int) => (⟨(tm 129 [(1, .ptr 0 0 0), (4, .ref 1 0 r4.length), (5, .ref 2 0 l14672.length), (7, .i .i64 k_14671), (8, .ref 3 0 v.length), (44, .i .i64 ((List.replicate (aI .i64 s.store_ 1).toNat 0).length : Int)), (45, .i .i64 x_17357)]), [some (7, [(pT24 s)]), some (1, rows cl_ci_i64 r4), some (1, rows ci_i64 l14672), some (1, rows ci_i64 v)], []⟩ : VS)) (fun v => (g38_j5 x_17357 (v)).bind (kN (g38_L2 s r4 k_14671 l14672) n_2) = some w_2) ?_ ?_
                · refine VW.block ?_
                  refine VW.seq ?_
                  refine VW.evalA (C := [(18, F18), (56, F56), (63, F63)]) (tm 129 [(1, .ptr 0 0 0), (4, .ref 1 0 r4.length), (5, .ref 2 0 l14672.length), (7, .i .i64 k_14671), (8, .ref 3 0 l17358.length), (9, .i .i64 x_17357), (44, .i .i64 ((List.replicate (aI .i64 s.store_ 1).toNat 0).length : Int)), (45, .i .i64 x_17357)]) [some (7, [(pT24 s)]), some (1, rows cl_ci_i64 r4), some (1, rows ci_i64 l14672), some (1, rows ci_i64 l17358)] [] ⟨ok18, ok56, ok63, trivial⟩ (by kernel_rfl) (by simp -implicitDefEqProofs [min_fold]) ?_
                  refine VW.seq ?_
                  refine VW.seq ?_
                  obtain ⟨e17481, q17482, h2⟩ := bindE h2
                  obtain ⟨f17482a, f17482b, f17482c, f17482d⟩ := idx_some q17482
                  obtain ⟨e17483, q17484, h2⟩ := bindE h2
                  obtain ⟨f17484a, f17484b, f17484c, f17484d⟩ := idx_some q17484
                  refine VW.evalA (C := [(18, F18), (56, F56), (63, F63)]) (tm 129 [(1, .ptr 0 0 0), (4, .ref 1 0 r4.length), (5, .ref 2 0 l14672.length), (7, .i .i64 k_14671), (8, .ref 3 0 l17358.length), (9, .i .i64 x_17357), (44, .i .i64 ((List.replicate (aI .i64 s.store_ 1).toNat 0).length : Int)), (45, .i .i64 x_17357), (55, .b (eqI e17483 (-1)))]) [some (7, [(pT24 s)]), some (1, rows cl_ci_i64 r4), some (1, rows ci_i64 l14672), some (1, rows ci_i64 l17358)] [] ⟨ok18, ok56, ok63, trivial⟩ (by kernel_rfl) (by simp -implicitDefEqProofs [f17482a, f17482b, f17482c, f17482d, f17484a, f17484b, f17484c, f17484d, min_fold]) ?_
                  refine VW.condB (b := eqI e17483 (-1)) (by simp) (fun g17485 => ?_) (fun g17485 => ?_)
                  · replace h2 := iteT g17485 h2
                    refine VW.exit ?_
                    exact (show ∃ _, _ from ⟨l17358, h2, (Ent.to 4 (by simp [fgt]) (by first | (simp; done) | simp [pT24]) (by simp) (by simp [bndT, bndV]) (by simp [bndM, bndV]))⟩)
                  · replace h2 := iteF g17485 h2
                    refine VW.skip ?_
                    refine VW.seq ?_
                    refine VW.evalA (C := [(18, F18), (56, F56), (63, F63)]) (tm 129 [(1, .ptr 0 0 0), (4, .ref 1 0 r4.length), (5, .ref 2 0 l14672.length), (7, .i .i64 k_14671), (8, .ref 3 0 l17358.length), (9, .i .i64 x_17357), (44, .i .i64 ((List.replicate (aI .i64 s.store_ 1).toNat 0).length : Int)), (45, .i .i64 x_17357), (58, .i .i64 (aI .i64 s.most_ 1)), (59, .i .i64 0)]) [some (7, [(pT24 s)]), some (1, rows cl_ci_i64 r4), some (1, rows ci_i64 l14672), some (1, rows ci_i64 l17358)] [] ⟨ok18, ok56, ok63, trivial⟩ (by kernel_rfl) (by simp -implicitDefEqProofs [min_fold]) ?_
                    refine VW.block ?_
                    obtain ⟨w_3, hw_3, h2⟩ := bindE h2
                    refine VW.loopO (fun (x : Int × (List Int)) => (⟨(tm 129 [(1, .ptr 0 0 0), (4, .ref 1 0 r4.length), (5, .ref 2 0 l14672.length), (7, .i .i64 k_14671), (8, .ref 3 0 x.2.length), (9, .i .i64 x_17357), (44, .i .i64 ((List.replicate (aI .i64 s.store_ 1).toNat 0).length : Int)), (45, .i .i64 x_17357), (58, .i .i64 (aI .i64 s.most_ 1)), (59, .i .i64 x.1)]), [some (7, [(pT24 s)]), some (1, rows cl_ci_i64 r4), some (1, rows ci_i64 l14672), some (1, rows ci_i64 x.2)], []⟩ : VS)) hw_3 (Ent.to 4 (by simp [fgt]) (by first | (simp; done) | simp [pT24]) (by simp) (by simp [bndT, bndV]) (by simp [bndM, bndV])) ?_
                    rintro n_3 ⟨x_17562, l17563⟩ h3
                    rw [g38_L3] at h3
                    refine VW.seq ?_
                    refine VW.evalA (C := [(18, F18), (56, F56), (63, F63)]) (tm 129 [(1, .ptr 0 0 0), (4, .ref 1 0 r4.length), (5, .ref 2 0 l14672.length), (7, .i .i64 k_14671), (8, .ref 3 0 l17563.length), (9, .i .i64 x_17357), (44, .i .i64 ((List.replicate (aI .i64 s.store_ 1).toNat 0).length : Int)), (45, .i .i64 x_17357), (58, .i .i64 (aI .i64 s.most_ 1)), (59, .i .i64 x_17562), (60, .b (ltI x_17562 (aI .i64 s.most_ 1)))]) [some (7, [(pT24 s)]), some (1, rows cl_ci_i64 r4), some (1, rows ci_i64 l14672), some (1, rows ci_i64 l17563)] [] ⟨ok18, ok56, ok63, trivial⟩ (by kernel_rfl) (by simp -implicitDefEqProofs [min_fold]) ?_
                    refine VW.seq ?_
                    refine VW.condB (b := ltI x_17562 (aI .i64 s.most_ 1)) (by simp) (fun g17564 => ?_) (fun g17564 => ?_)
                    · replace h3 := iteT g17564 h3
                      refine VW.skip ?_
                      refine VW.seq ?_
                      refine VW.block ?_
                      refine VW.seq ?_
                      refine VW.evalA (C := [(18, F18), (56, F56), (63, F63)]) (tm 129 [(1, .ptr 0 0 0), (4, .ref 1 0 r4.length), (5, .ref 2 0 l14672.length), (7, .i .i64 k_14671), (8, .ref 3 0 l17563.length), (9, .i .i64 x_17357), (10, .i .i64 x_17562), (44, .i .i64 ((List.replicate (aI .i64 s.store_ 1).toNat 0).length : Int)), (45, .i .i64 x_17357), (58, .i .i64 (aI .i64 s.most_ 1)), (59, .i .i64 x_17562)]) [some (7, [(pT24 s)]), some (1, rows cl_ci_i64 r4), some (1, rows ci_i64 l14672), some (1, rows ci_i64 l17563)] [] ⟨ok18, ok56, ok63, trivial⟩ (by kernel_rfl) (by simp -implicitDefEqProofs [min_fold]) ?_
                      refine VW.seq ?_
                      obtain ⟨r17565, q17566, h3⟩ := bindE h3
                      have c17566 : F56 [.agg (pT24 s), .i .i64 k_14671, .i .i64 x_17357, .i .i64 x_17562] = some (.tup [.i .i64 r17565.1, .b r17565.2]) := tells_eq inj56 (a := (s, k_14671, x_17357, x_17562)) q17566
                      refine VW.evalA (C := [(18, F18), (56, F56), (63, F63)]) (tm 129 [(1, .ptr 0 0 0), (4, .ref 1 0 r4.length), (5, .ref 2 0 l14672.length), (7, .i .i64 k_14671), (8, .ref 3 0 l17563.length), (9, .i .i64 x_17357), (10, .i .i64 x_17562), (11, .i .i64 r17565.1), (12, .b r17565.2), (44, .i .i64 ((List.replicate (aI .i64 s.store_ 1).toNat 0).length : Int)), (45, .i .i64 x_17357), (58, .i .i64 (aI .i64 s.most_ 1)), (59, .i .i64 x_17562)]) [some (7, [(pT24 s)]), some (1, rows cl_ci_i64 r4), some (1, rows ci_i64 l14672), some (1, rows ci_i64 l17563)] [] ⟨ok18, ok56, ok63, trivial⟩ (by kernel_rfl) (by simp -implicitDefEqProofs [c17566, min_fold]) ?_
                      refine VW.seq ?_
                      obtain ⟨w17571, q17588, h3⟩ := bindE h3
                      obtain ⟨w17582, q17589, h3⟩ := bindE h3
                      refine VW.evalDA (C := [(18, F18), (56, F56), (63, F63)]) (tm 129 [(1, .ptr 0 0 0), (4, .ref 1 0 r4.length), (5, .ref 2 0 l14672.length), (7, .i .i64 k_14671), (8, .ref 3 0 l17563.length), (9, .i .i64 x_17357), (11, .i .i64 r17565.1), (44, .i .i64 ((List.replicate (aI .i64 s.store_ 1).toNat 0).length : Int)), (45, .i .i64 x_17357), (58, .i .i64 (aI .i64 s.most_ 1)), (59, .i .i64 x_17562), (107, .b w17582)]) [some (7, [(pT24 s)]), some (1, rows cl_ci_i64 r4), some (1, rows ci_i64 l14672), some (1, rows ci_i64 l17563)] [] ⟨ok18, ok56, ok63, trivial⟩ mixed (by kernel_rfl) (by
                          rcases Bool.eq_false_or_eq_true r17565.2 with q17590 | q17590
                          · first
                            | (simp at q17590; done)
                            | (rw [if_pos q17590] at q17588
                               obtain ⟨e17567, q17568, q17588⟩ := bindQ q17588
                               obtain ⟨f17568a, f17568b, f17568c, f17568d⟩ := idx_some q17568
                               obtain ⟨e17569, q17570, q17588⟩ := bindQ q17588
                               obtain ⟨f17570a, f17570b, f17570c, f17570d⟩ := idx_some q17570
                               have d17591 : w17571 = _ := (Option.some.inj q17588).symm
                               rcases Bool.eq_false_or_eq_true w17571 with q17592 | q17592
                               · first
                                 | (simp [d17591] at q17592; done)
                                 | (rw [if_pos q17592] at q17589
                                    try simp only [d17591] at q17592
                                    obtain ⟨e17572, q17573, q17589⟩ := bindQ q17589
                                    obtain ⟨f17573a, f17573b, f17573c, f17573d⟩ := idx_some q17573
                                    obtain ⟨e17574, q17575, q17589⟩ := bindQ q17589
                                    have d17593 : e17574 = e17567 := Option.some.inj (q17575.symm.trans q17568)
                                    obtain ⟨e17576, q17577, q17589⟩ := bindQ q17589
                                    have d17594 : e17576 = e17569 := by have t_ := q17577; simp only [d17593] at t_; exact Option.some.inj (t_.symm.trans q17570)
                                    obtain ⟨e17578, q17579, q17589⟩ := bindQ q17589
                                    obtain ⟨f17579a, f17579b, f17579c, f17579d⟩ := idx_some q17579
                                    obtain ⟨e17580, q17581, q17589⟩ := bindQ q17589
                                    obtain ⟨f17581a, f17581b, f17581c, f17581d⟩ := idx_some q17581
                                    have d17595 : w17582 = _ := (Option.some.inj q17589).symm
                                    simp -implicitDefEqProofs [q17590, f17568a, f17568b, f17568c, f17568d, f17570a, f17570b, f17570c, f17570d, d17591, q17592, f17573a, f17573b, f17573c, f17573d, d17593, d17594, f17579a, f17579b, f17579c, f17579d, f17581a, f17581b, f17581c, f17581d, d17595, min_fold])
                               · first
                                 | (simp [d17591] at q17592; done)
                                 | (rw [if_neg (by rw [q17592]; exact Bool.false_ne_true)] at q17589
                                    try simp only [d17591] at q17592
                                    have d17596 : w17582 = _ := (Option.some.inj q17589).symm
                                    simp -implicitDefEqProofs [q17590, f17568a, f17568b, f17568c, f17568d, f17570a, f17570b, f17570c, f17570d, d17591, q17592, d17596, min_fold]))
                          · first
                            | (simp at q17590; done)
                            | (rw [if_neg (by rw [q17590]; exact Bool.false_ne_true)] at q17588
                               have d17597 : w17571 = _ := (Option.some.inj q17588).symm
                               rcases Bool.eq_false_or_eq_true w17571 with q17598 | q17598
                               · first
                                 | (simp [d17597] at q17598; done)
                                 | (rw [if_pos q17598] at q17589
                                    try simp only [d17597] at q17598
                                    obtain ⟨e17572, q17573, q17589⟩ := bindQ q17589
                                    obtain ⟨f17573a, f17573b, f17573c, f17573d⟩ := idx_some q17573
                                    obtain ⟨e17574, q17575, q17589⟩ := bindQ q17589
                                    obtain ⟨f17575a, f17575b, f17575c, f17575d⟩ := idx_some q17575
                                    obtain ⟨e17576, q17577, q17589⟩ := bindQ q17589
                                    obtain ⟨f17577a, f17577b, f17577c, f17577d⟩ := idx_some q17577
                                    obtain ⟨e17578, q17579, q17589⟩ := bindQ q17589
                                    obtain ⟨f17579a, f17579b, f17579c, f17579d⟩ := idx_some q17579
                                    obtain ⟨e17580, q17581, q17589⟩ := bindQ q17589
                                    obtain ⟨f17581a, f17581b, f17581c, f17581d⟩ := idx_some q17581
                                    have d17599 : w17582 = _ := (Option.some.inj q17589).symm
                                    simp -implicitDefEqProofs [q17590, d17597, q17598, f17573a, f17573b, f17573c, f17573d, f17575a, f17575b, f17575c, f17575d, f17577a, f17577b, f17577c, f17577d, f17579a, f17579b, f17579c, f17579d, f17581a, f17581b, f17581c, f17581d, d17599, min_fold])
                               · first
                                 | (simp [d17597] at q17598; done)
                                 | (rw [if_neg (by rw [q17598]; exact Bool.false_ne_true)] at q17589
                                    try simp only [d17597] at q17598
                                    have d17600 : w17582 = _ := (Option.some.inj q17589).symm
                                    simp -implicitDefEqProofs [q17590, d17597, q17598, d17600, min_fold]))) ?_
                      refine VW.condB (b := w17582) (by simp) (fun g17583 => ?_) (fun g17583 => ?_)
                      · replace h3 := iteT g17583 h3
                        obtain ⟨e17584, q17585, h3⟩ := bindE h3
                        obtain ⟨f17585a, f17585b, f17585c, f17585d⟩ := idx_some q17585
                        obtain ⟨e17586, q17587, h3⟩ := bindE h3
                        obtain ⟨f17587a, f17587b, f17587c, f17587d⟩ := idx_some q17587
                        refine VW.evalDLA (C := [(18, F18), (56, F56), (63, F63)]) (tm 129 [(1, .ptr 0 0 0), (4, .ref 1 0 r4.length), (5, .ref 2 0 l14672.length), (7, .i .i64 k_14671), (8, .ref 3 0 (l17563.set x_17357.toNat (minI (aI .i64 e17584 e17586) 1000000000)).length), (9, .i .i64 x_17357), (44, .i .i64 ((List.replicate (aI .i64 s.store_ 1).toNat 0).length : Int)), (45, .i .i64 x_17357), (58, .i .i64 (aI .i64 s.most_ 1)), (59, .i .i64 x_17562)]) [some (7, [(pT24 s)]), some (1, rows cl_ci_i64 r4), some (1, rows ci_i64 l14672), some (1, rows ci_i64 (l17563.set x_17357.toNat (minI (aI .i64 e17584 e17586) 1000000000)))] [] ⟨ok18, ok56, ok63, trivial⟩ mixed (by kernel_rfl) (by simp -implicitDefEqProofs [f17585a, f17585b, f17585c, f17585d, f17587a, f17587b, f17587c, f17587d, min_fold]) ?_
                        refine VW.evalA (C := [(18, F18), (56, F56), (63, F63)]) (tm 129 [(1, .ptr 0 0 0), (4, .ref 1 0 r4.length), (5, .ref 2 0 l14672.length), (7, .i .i64 k_14671), (8, .ref 3 0 (l17563.set x_17357.toNat (minI (aI .i64 e17584 e17586) 1000000000)).length), (9, .i .i64 x_17357), (44, .i .i64 ((List.replicate (aI .i64 s.store_ 1).toNat 0).length : Int)), (45, .i .i64 x_17357), (58, .i .i64 (aI .i64 s.most_ 1)), (59, .i .i64 (aI .i64 x_17562 1))]) [some (7, [(pT24 s)]), some (1, rows cl_ci_i64 r4), some (1, rows ci_i64 l14672), some (1, rows ci_i64 (l17563.set x_17357.toNat (minI (aI .i64 e17584 e17586) 1000000000)))] [] ⟨ok18, ok56, ok63, trivial⟩ (by kernel_rfl) (by simp -implicitDefEqProofs [min_fold]) ?_
                        exact (show ∃ _, _ from ⟨(aI .i64 x_17562 1, (l17563.set x_17357.toNat (minI (aI .i64 e17584 e17586) 1000000000))), leafL h3, (Ent.to 4 (by simp [fgt]) (by first | (simp; done) | simp [pT24]) (by simp) (by simp [bndT, bndV]) (by simp [bndM, bndV]))⟩)
                      · replace h3 := iteF g17583 h3
                        refine VW.skip ?_
                        refine VW.evalA (C := [(18, F18), (56, F56), (63, F63)]) (tm 129 [(1, .ptr 0 0 0), (4, .ref 1 0 r4.length), (5, .ref 2 0 l14672.length), (7, .i .i64 k_14671), (8, .ref 3 0 l17563.length), (9, .i .i64 x_17357), (44, .i .i64 ((List.replicate (aI .i64 s.store_ 1).toNat 0).length : Int)), (45, .i .i64 x_17357), (58, .i .i64 (aI .i64 s.most_ 1)), (59, .i .i64 (aI .i64 x_17562 1))]) [some (7, [(pT24 s)]), some (1, rows cl_ci_i64 r4), some (1, rows ci_i64 l14672), some (1, rows ci_i64 l17563)] [] ⟨ok18, ok56, ok63, trivial⟩ (by kernel_rfl) (by simp -implicitDefEqProofs [min_fold]) ?_
                        exact (show ∃ _, _ from ⟨(aI .i64 x_17562 1, l17563), leafL h3, (Ent.to 4 (by simp [fgt]) (by first | (simp; done) | simp [pT24]) (by simp) (by simp [bndT, bndV]) (by simp [bndM, bndV]))⟩)
                    · replace h3 := iteF g17564 h3
                      refine VW.exit ?_
                      have e_ := leafR h3
                      subst w_3
                      exact (show ∃ _, _ from ⟨l17563, h2, (Ent.to 4 (by simp [fgt]) (by first | (simp; done) | simp [pT24]) (by simp) (by simp [bndT, bndV]) (by simp [bndM, bndV]))⟩)
                · rintro l17480 h2
                  replace h2 : (g38_j5 x_17357 l17480).bind _ = _ := h2
                  rw [g38_j5] at h2
                  refine VW.evalA (C := [(18, F18), (56, F56), (63, F63)]) (tm 129 [(1, .ptr 0 0 0), (4, .ref 1 0 r4.length), (5, .ref 2 0 l14672.length), (7, .i .i64 k_14671), (8, .ref 3 0 l17480.length), (44, .i .i64 ((List.replicate (aI .i64 s.store_ 1).toNat 0).length : Int)), (45, .i .i64 (aI .i64 x_17357 1))]) [some (7, [(pT24 s)]), some (1, rows cl_ci_i64 r4), some (1, rows ci_i64 l14672), some (1, rows ci_i64 l17480)] [] ⟨ok18, ok56, ok63, trivial⟩ (by kernel_rfl) (by simp -implicitDefEqProofs) ?_
                  exact (show ∃ _, _ from ⟨(aI .i64 x_17357 1, l17480), leafL h2, (Ent.to 4 (by simp [fgt]) (by first | (simp; done) | simp [pT24]) (by simp) (by simp [bndT, bndV]) (by simp [bndM, bndV]))⟩)
              · replace h2 := iteF g17359 h2
                refine VW.exit ?_
                have e_ := leafR h2
                subst w_2
                exact (show ∃ _, _ from ⟨l17358, h1, (Ent.to 4 (by simp [fgt]) (by first | (simp; done) | simp [pT24]) (by simp) (by simp [bndT, bndV]) (by simp [bndM, bndV]))⟩)
            · rintro l16870 h1
              replace h1 : (g38_j4 k_14671 l16870).bind _ = _ := h1
              rw [g38_j4] at h1
              refine VW.evalA (C := [(18, F18), (56, F56), (63, F63)]) (tm 129 [(1, .ptr 0 0 0), (4, .ref 1 0 r4.length), (5, .ref 3 0 l16870.length), (7, .i .i64 k_14671)]) [some (7, [(pT24 s)]), some (1, rows cl_ci_i64 r4), some (1, rows ci_i64 l14672), some (1, rows ci_i64 l16870)] [] ⟨ok18, ok56, ok63, trivial⟩ (by kernel_rfl) (by simp -implicitDefEqProofs) ?_
              exact (show ∃ _, _ from ⟨l16870, h1, (Ent.to 4 (by simp [fgt]) (by first | (simp; done) | simp [pT24]) (by simp) (by simp [bndT, bndV]) (by simp [bndM, bndV]))⟩)
          · rintro l16137 h1
            replace h1 : (g38_j3 k_14671 l16137).bind _ = _ := h1
            rw [g38_j3] at h1
            refine VW.evalA (C := [(18, F18), (56, F56), (63, F63)]) (tm 129 [(1, .ptr 0 0 0), (4, .ref 1 0 r4.length), (5, .ref 3 0 l16137.length), (7, .i .i64 (sI .i64 k_14671 1))]) [some (7, [(pT24 s)]), some (1, rows cl_ci_i64 r4), some (1, rows ci_i64 l14672), some (1, rows ci_i64 l16137)] [] ⟨ok18, ok56, ok63, trivial⟩ (by kernel_rfl) (by simp -implicitDefEqProofs) ?_
            exact (show ∃ _, _ from ⟨(sI .i64 k_14671 1, l16137), leafL h1, (Ent.trans (Ent.le (t' := (tm 129 [(1, .ptr 0 0 0), (4, .ref 1 0 r4.length), (5, .ref 3 0 l16137.length), (7, .i .i64 (sI .i64 k_14671 1))])) (by simp)) (Ent.trans (Ent.mv (m := [some (7, [(pT24 s)]), some (1, rows cl_ci_i64 r4), some (1, rows ci_i64 l14672), some (1, rows ci_i64 l16137)]) (t' := (tm 129 [(1, .ptr 0 0 0), (4, .ref 1 0 r4.length), (5, .ref 2 0 l16137.length), (7, .i .i64 (sI .i64 k_14671 1))])) 2 3 1 (rows ci_i64 l16137) [some (7, [(pT24 s)]), some (1, rows cl_ci_i64 r4), some (1, rows ci_i64 l16137), none] (by decide) (by simp) rfl (by simp) (by simp [mv1]) (by simp) (by simp) (by simp) (by simp) (by simp)) (Ent.to 3 (by simp [fgt]) (by first | (simp; done) | simp [pT24]) (by simp) (by simp [bndT, bndV]) (by simp [bndM, bndV]))))⟩)
        · replace h1 := iteF g14673 h1
          refine VW.exit ?_
          have e_ := leafR h1
          subst w_1
          exact (show ∃ _, _ from ⟨l14672, h, (Ent.to 3 (by simp [fgt]) (by first | (simp; done) | simp [pT24]) (by simp) (by simp [bndT, bndV]) (by simp [bndM, bndV]))⟩)
      · rintro l8810 h
        replace h : (g38_j2 s l8810).bind _ = _ := h
        rw [g38_j2] at h
        refine VW.seq ?_
        obtain ⟨e8811, q8812, h⟩ := bindE h
        obtain ⟨f8812a, f8812b, f8812c, f8812d⟩ := idx_some q8812
        refine VW.evalA (C := [(18, F18), (56, F56), (63, F63)]) (tm 129 [(2, .i .i64 e8811), (3, .i .i64 0)]) [some (7, [(pT24 s)]), some (1, rows cl_ci_i64 r4), some (1, rows ci_i64 l8810)] [] ⟨ok18, ok56, ok63, trivial⟩ (by kernel_rfl) (by simp -implicitDefEqProofs [f8812a, f8812b, f8812c, f8812d]) ?_
        obtain rfl := leafS h
        refine VW.ret (VRet.fin ?_)
        simp [eB38]
noncomputable def g10 (aS : T24) : Option (Bool) :=
  (g15 aS 1048576).bind fun r1 =>
  if ltI r1 0 = true then
    some true
  else
    (g17 aS).bind fun r4 =>
    (g37 r4).bind fun r6 =>
    (g17 aS).bind fun r8 =>
    (g38 r8).bind fun r10 =>
    if ((!eqI r10.1 r6.1) || (!eqI r10.2 r6.2)) = true then
      some false
    else
      (g17 aS).bind fun r13 =>
      (g19 r8 r13).bind fun r15 =>
      if (!r15) = true then
        some false
      else
        some true
def eA10 (a : T24) : List V := [.agg (pT24 a)]
def eB10 (r : Bool) : V := .b r
theorem inj10 (a a' : T24) (h : eA10 a = eA10 a') : a = a' := by
  obtain ⟨i267, i268, i269, i270, i271, i272, i273⟩ := a
  obtain ⟨i274, i275, i276, i277, i278, i279, i280⟩ := a'
  simp only [eA10, pT24, List.cons.injEq, V.i.injEq, V.b.injEq, V.f.injEq, V.str.injEq, V.sl.injEq, V.agg.injEq, V.cptr.injEq, true_and, and_true] at h
  simp_all [ri ci_i64_inj]
noncomputable def F10 : List V → Option V := tells (fun a => g10 a) eA10 eB10
set_option maxRecDepth 100000 in
set_option maxHeartbeats 4000000 in
/- loop.example/g01229/laws.FnExactCountBest -/
theorem ok10 : Tells Try.prog 10 F10 := by
  refine Tells.of (by kernel_rfl) ?_
  rintro aS r h
  refine VCalls.nl (VCalls.of Try.func10 rfl rfl rfl ?_)
  rw [tm_init]
  simp only [eA10, en, List.length_cons, List.length_nil, Nat.reduceAdd, Nat.reduceSub]
  replace h : (g10 aS).bind some = some r := bindS h
  rw [g10] at h
  refine VW.seq ?_
  refine VW.evalA (C := [(15, F15), (17, F17), (19, F19), (37, F37), (38, F38)]) (tm 40 [(1, .ptr 0 0 0)]) [some (7, [(pT24 aS)])] [] ⟨ok15, ok17, ok19, ok37, ok38, trivial⟩ (by kernel_rfl) (by simp -implicitDefEqProofs) ?_
  refine VW.seq ?_
  refine VW.evalA (C := [(15, F15), (17, F17), (19, F19), (37, F37), (38, F38)]) (tm 40 [(1, .ptr 0 0 0), (3, .i .i64 1048576)]) [some (7, [(pT24 aS)])] [] ⟨ok15, ok17, ok19, ok37, ok38, trivial⟩ (by kernel_rfl) (by simp -implicitDefEqProofs) ?_
  refine VW.seq ?_
  obtain ⟨r1, q2, h⟩ := bindE h
  have c2 : F15 [.agg (pT24 aS), .i .i64 1048576] = some (.i .i64 r1) := tells_eq inj15 (a := (aS, 1048576)) q2
  refine VW.evalA (C := [(15, F15), (17, F17), (19, F19), (37, F37), (38, F38)]) (tm 40 [(1, .ptr 0 0 0), (3, .i .i64 r1)]) [some (7, [(pT24 aS)])] [] ⟨ok15, ok17, ok19, ok37, ok38, trivial⟩ (by kernel_rfl) (by simp -implicitDefEqProofs [c2]) ?_
  refine VW.seq ?_
  refine VW.seq ?_
  refine VW.evalA (C := [(15, F15), (17, F17), (19, F19), (37, F37), (38, F38)]) (tm 40 [(1, .ptr 0 0 0), (13, .b (ltI r1 0))]) [some (7, [(pT24 aS)])] [] ⟨ok15, ok17, ok19, ok37, ok38, trivial⟩ (by kernel_rfl) (by simp -implicitDefEqProofs) ?_
  refine VW.condB (b := ltI r1 0) (by simp) (fun g3 => ?_) (fun g3 => ?_)
  · replace h := iteT g3 h
    refine VW.seq ?_
    refine VW.evalA (C := [(15, F15), (17, F17), (19, F19), (37, F37), (38, F38)]) (tm 40 [(2, .b true)]) [some (7, [(pT24 aS)])] [] ⟨ok15, ok17, ok19, ok37, ok38, trivial⟩ (by kernel_rfl) (by simp -implicitDefEqProofs) ?_
    obtain rfl := leafS h
    refine VW.ret (VRet.fin ?_)
    simp [eB10]
  · replace h := iteF g3 h
    refine VW.skip ?_
    refine VW.seq ?_
    obtain ⟨r4, q5, h⟩ := bindE h
    have c5 : F17 [.agg (pT24 aS)] = some (.agg [.own 1 (rows ci_i64 r4.need_), .own 1 (rows ci_i64 r4.price_), .i .i64 r4.most_, .i .i64 r4.yield_, .i .i64 r4.store_, .i .i64 r4.first_, .i .i64 r4.loss_]) := tells_eq inj17 (a := aS) q5
    obtain ⟨r6, q7, h⟩ := bindE h
    have c7 : F37 [.agg [.sl 1 (rows ci_i64 r4.need_), .sl 1 (rows ci_i64 r4.price_), .i .i64 r4.most_, .i .i64 r4.yield_, .i .i64 r4.store_, .i .i64 r4.first_, .i .i64 r4.loss_]] = some (.tup [.i .i64 r6.1, .i .i64 r6.2]) := tells_eq inj37 (a := r4) q7
    refine VW.evalA (C := [(15, F15), (17, F17), (19, F19), (37, F37), (38, F38)]) (tm 40 [(1, .ptr 0 0 0), (4, .i .i64 r6.1), (5, .i .i64 r6.2)]) [some (7, [(pT24 aS)]), some (1, rows ci_i64 r4.need_), some (1, rows ci_i64 r4.price_)] [] ⟨ok15, ok17, ok19, ok37, ok38, trivial⟩ (by kernel_rfl) (by simp -implicitDefEqProofs [c5, c7]) ?_
    refine VW.seq ?_
    obtain ⟨r8, q9, h⟩ := bindE h
    have c9 : F17 [.agg (pT24 aS)] = some (.agg [.own 1 (rows ci_i64 r8.need_), .own 1 (rows ci_i64 r8.price_), .i .i64 r8.most_, .i .i64 r8.yield_, .i .i64 r8.store_, .i .i64 r8.first_, .i .i64 r8.loss_]) := tells_eq inj17 (a := aS) q9
    refine VW.evalA (C := [(15, F15), (17, F17), (19, F19), (37, F37), (38, F38)]) (tm 40 [(1, .ptr 0 0 0), (4, .i .i64 r6.1), (5, .i .i64 r6.2), (6, .ptr 5 0 0)]) [some (7, [(pT24 aS)]), some (1, rows ci_i64 r4.need_), some (1, rows ci_i64 r4.price_), some (1, rows ci_i64 r8.need_), some (1, rows ci_i64 r8.price_), some (7, [[.ref 3 0 r8.need_.length, .ref 4 0 r8.price_.length, .i .i64 r8.most_, .i .i64 r8.yield_, .i .i64 r8.store_, .i .i64 r8.first_, .i .i64 r8.loss_]])] [] ⟨ok15, ok17, ok19, ok37, ok38, trivial⟩ (by kernel_rfl) (by simp -implicitDefEqProofs [c9]) ?_
    refine VW.seq ?_
    obtain ⟨r10, q11, h⟩ := bindE h
    have c11 : F38 [.agg [.sl 1 (rows ci_i64 r8.need_), .sl 1 (rows ci_i64 r8.price_), .i .i64 r8.most_, .i .i64 r8.yield_, .i .i64 r8.store_, .i .i64 r8.first_, .i .i64 r8.loss_]] = some (.tup [.i .i64 r10.1, .i .i64 r10.2]) := tells_eq inj38 (a := r8) q11
    refine VW.evalA (C := [(15, F15), (17, F17), (19, F19), (37, F37), (38, F38)]) (tm 40 [(1, .ptr 0 0 0), (4, .i .i64 r6.1), (5, .i .i64 r6.2), (6, .ptr 5 0 0), (7, .i .i64 r10.1), (8, .i .i64 r10.2)]) [some (7, [(pT24 aS)]), some (1, rows ci_i64 r4.need_), some (1, rows ci_i64 r4.price_), some (1, rows ci_i64 r8.need_), some (1, rows ci_i64 r8.price_), some (7, [[.ref 3 0 r8.need_.length, .ref 4 0 r8.price_.length, .i .i64 r8.most_, .i .i64 r8.yield_, .i .i64 r8.store_, .i .i64 r8.first_, .i .i64 r8.loss_]])] [] ⟨ok15, ok17, ok19, ok37, ok38, trivial⟩ (by kernel_rfl) (by simp -implicitDefEqProofs [c11]) ?_
    refine VW.seq ?_
    refine VW.seq ?_
    refine VW.evalA (C := [(15, F15), (17, F17), (19, F19), (37, F37), (38, F38)]) (tm 40 [(1, .ptr 0 0 0), (6, .ptr 5 0 0), (34, .b ((!eqI r10.1 r6.1) || (!eqI r10.2 r6.2)))]) [some (7, [(pT24 aS)]), some (1, rows ci_i64 r4.need_), some (1, rows ci_i64 r4.price_), some (1, rows ci_i64 r8.need_), some (1, rows ci_i64 r8.price_), some (7, [[.ref 3 0 r8.need_.length, .ref 4 0 r8.price_.length, .i .i64 r8.most_, .i .i64 r8.yield_, .i .i64 r8.store_, .i .i64 r8.first_, .i .i64 r8.loss_]])] [] ⟨ok15, ok17, ok19, ok37, ok38, trivial⟩ (by kernel_rfl) (by simp -implicitDefEqProofs) ?_
    refine VW.condB (b := ((!eqI r10.1 r6.1) || (!eqI r10.2 r6.2))) (by simp) (fun g12 => ?_) (fun g12 => ?_)
    · replace h := iteT g12 h
      refine VW.seq ?_
      refine VW.evalA (C := [(15, F15), (17, F17), (19, F19), (37, F37), (38, F38)]) (tm 40 [(2, .b false)]) [some (7, [(pT24 aS)]), some (1, rows ci_i64 r4.need_), some (1, rows ci_i64 r4.price_), some (1, rows ci_i64 r8.need_), some (1, rows ci_i64 r8.price_), some (7, [[.ref 3 0 r8.need_.length, .ref 4 0 r8.price_.length, .i .i64 r8.most_, .i .i64 r8.yield_, .i .i64 r8.store_, .i .i64 r8.first_, .i .i64 r8.loss_]])] [] ⟨ok15, ok17, ok19, ok37, ok38, trivial⟩ (by kernel_rfl) (by simp -implicitDefEqProofs) ?_
      obtain rfl := leafS h
      refine VW.ret (VRet.fin ?_)
      simp [eB10]
    · replace h := iteF g12 h
      refine VW.skip ?_
      refine VW.seq ?_
      refine VW.seq ?_
      obtain ⟨r13, q14, h⟩ := bindE h
      have c14 : F17 [.agg (pT24 aS)] = some (.agg [.own 1 (rows ci_i64 r13.need_), .own 1 (rows ci_i64 r13.price_), .i .i64 r13.most_, .i .i64 r13.yield_, .i .i64 r13.store_, .i .i64 r13.first_, .i .i64 r13.loss_]) := tells_eq inj17 (a := aS) q14
      obtain ⟨r15, q16, h⟩ := bindE h
      have c16 : F19 [.agg [.sl 1 (rows ci_i64 r8.need_), .sl 1 (rows ci_i64 r8.price_), .i .i64 r8.most_, .i .i64 r8.yield_, .i .i64 r8.store_, .i .i64 r8.first_, .i .i64 r8.loss_], .agg [.sl 1 (rows ci_i64 r13.need_), .sl 1 (rows ci_i64 r13.price_), .i .i64 r13.most_, .i .i64 r13.yield_, .i .i64 r13.store_, .i .i64 r13.first_, .i .i64 r13.loss_]] = some (.b r15) := tells_eq inj19 (a := (r8, r13)) q16
      refine VW.evalDA (C := [(15, F15), (17, F17), (19, F19), (37, F37), (38, F38)]) (tm 40 [(39, .b (!r15))]) [some (7, [(pT24 aS)]), some (1, rows ci_i64 r4.need_), some (1, rows ci_i64 r4.price_), some (1, rows ci_i64 r8.need_), some (1, rows ci_i64 r8.price_), some (7, [[.ref 3 0 r8.need_.length, .ref 4 0 r8.price_.length, .i .i64 r8.most_, .i .i64 r8.yield_, .i .i64 r8.store_, .i .i64 r8.first_, .i .i64 r8.loss_]]), some (1, rows ci_i64 r13.need_), some (1, rows ci_i64 r13.price_)] [] ⟨ok15, ok17, ok19, ok37, ok38, trivial⟩ mixed (by kernel_rfl) (by simp -implicitDefEqProofs [c14, c16]) ?_
      refine VW.condB (b := (!r15)) (by simp) (fun g17 => ?_) (fun g17 => ?_)
      · replace h := iteT g17 h
        refine VW.seq ?_
        refine VW.evalA (C := [(15, F15), (17, F17), (19, F19), (37, F37), (38, F38)]) (tm 40 [(2, .b false)]) [some (7, [(pT24 aS)]), some (1, rows ci_i64 r4.need_), some (1, rows ci_i64 r4.price_), some (1, rows ci_i64 r8.need_), some (1, rows ci_i64 r8.price_), some (7, [[.ref 3 0 r8.need_.length, .ref 4 0 r8.price_.length, .i .i64 r8.most_, .i .i64 r8.yield_, .i .i64 r8.store_, .i .i64 r8.first_, .i .i64 r8.loss_]]), some (1, rows ci_i64 r13.need_), some (1, rows ci_i64 r13.price_)] [] ⟨ok15, ok17, ok19, ok37, ok38, trivial⟩ (by kernel_rfl) (by simp -implicitDefEqProofs) ?_
        obtain rfl := leafS h
        refine VW.ret (VRet.fin ?_)
        simp [eB10]
      · replace h := iteF g17 h
        refine VW.skip ?_
        refine VW.seq ?_
        refine VW.evalA (C := [(15, F15), (17, F17), (19, F19), (37, F37), (38, F38)]) (tm 40 [(2, .b true)]) [some (7, [(pT24 aS)]), some (1, rows ci_i64 r4.need_), some (1, rows ci_i64 r4.price_), some (1, rows ci_i64 r8.need_), some (1, rows ci_i64 r8.price_), some (7, [[.ref 3 0 r8.need_.length, .ref 4 0 r8.price_.length, .i .i64 r8.most_, .i .i64 r8.yield_, .i .i64 r8.store_, .i .i64 r8.first_, .i .i64 r8.loss_]]), some (1, rows ci_i64 r13.need_), some (1, rows ci_i64 r13.price_)] [] ⟨ok15, ok17, ok19, ok37, ok38, trivial⟩ (by kernel_rfl) (by simp -implicitDefEqProofs) ?_
        obtain rfl := leafS h
        refine VW.ret (VRet.fin ?_)
        simp [eB10]
noncomputable def g58_j1 : Option (Int × Int) :=
  some ((-1), (-1))
noncomputable def g58_L1 (s : T24) (slot : Int) (store : Int) : (Int) → Option ((Int) ⊕ ((Unit) ⊕ (Int × Int)))
  | n_24 =>
    if leI n_24 s.most_ = true then
      (g55 s slot store n_24).bind fun r26 =>
      if leI 0 r26 = true then
        some (.inr (.inr (n_24, r26)))
      else
        some (.inl (aI .i64 n_24 1))
    else
      some (.inr (.inl ()))
noncomputable def g58 (s : T24) (slot : Int) (store : Int) : Option (Int × Int) :=
  (loopO (g58_L1 s slot store) 0).bind fun w => match w with
    | .inl y => g58_j1
    | .inr r => some r
def eA58 (a : T24 × Int × Int) : List V := [.cptr (pT24 a.1) 0, .i .i64 a.2.1, .i .i64 a.2.2]
def eB58 (r : Int × Int) : V := .tup [.i .i64 r.1, .i .i64 r.2]
theorem inj58 (a a' : T24 × Int × Int) (h : eA58 a = eA58 a') : a = a' := by
  obtain ⟨⟨i281, i282, i283, i284, i285, i286, i287⟩, i288, i289⟩ := a
  obtain ⟨⟨i290, i291, i292, i293, i294, i295, i296⟩, i297, i298⟩ := a'
  simp only [eA58, pT24, List.cons.injEq, V.i.injEq, V.b.injEq, V.f.injEq, V.str.injEq, V.sl.injEq, V.agg.injEq, V.cptr.injEq, true_and, and_true] at h
  simp_all [ri ci_i64_inj]
noncomputable def F58 : List V → Option V := tells (fun a => g58 a.1 a.2.1 a.2.2) eA58 eB58
set_option maxRecDepth 100000 in
set_option maxHeartbeats 4000000 in
/- loop.example/g01229/spec.l07Few -/
theorem ok58 : Tells Try.prog 58 F58 := by
  refine Tells.of (by kernel_rfl) ?_
  rintro ⟨s, slot, store⟩ r h
  refine VCalls.nl (VCalls.of Try.func58 rfl rfl rfl ?_)
  rw [tm_init]
  simp only [eA58, en, List.length_cons, List.length_nil, Nat.reduceAdd, Nat.reduceSub]
  replace h : (g58 s slot store).bind some = some r := bindS h
  rw [g58] at h
  refine VW.seq ?_
  refine VW.evalA (C := [(55, F55)]) (tm 27 [(0, .cptr (pT24 s) 0), (1, .i .i64 slot), (2, .i .i64 store)]) [] [] ⟨ok55, trivial⟩ (by kernel_rfl) (by simp -implicitDefEqProofs) ?_
  refine VW.join (fun (v : Unit) => (⟨(tm 27 []), [], []⟩ : VS)) (fun v => (g58_j1).bind some = some r) ?_ ?_
  · refine VW.seq ?_
    refine VW.evalA (C := [(55, F55)]) (tm 27 [(0, .cptr (pT24 s) 0), (1, .i .i64 slot), (2, .i .i64 store), (8, .i .i64 0)]) [] [] ⟨ok55, trivial⟩ (by kernel_rfl) (by simp -implicitDefEqProofs) ?_
    refine VW.block ?_
    obtain ⟨w_1, hw_1, h⟩ := bindE h
    refine VW.loopO (fun (x : Int) => (⟨(tm 27 [(0, .cptr (pT24 s) 0), (1, .i .i64 slot), (2, .i .i64 store), (8, .i .i64 x)]), [], []⟩ : VS)) hw_1 (Ent.to 0 (by simp [fgt]) (by first | (simp; done) | simp [pT24]) (by simp) (by simp [bndT, bndV]) (by simp [bndM, bndV])) ?_
    rintro n_1 n_24 h1
    rw [g58_L1] at h1
    refine VW.seq ?_
    refine VW.seq ?_
    refine VW.evalA (C := [(55, F55)]) (tm 27 [(0, .cptr (pT24 s) 0), (1, .i .i64 slot), (2, .i .i64 store), (8, .i .i64 n_24), (15, .b (leI n_24 s.most_))]) [] [] ⟨ok55, trivial⟩ (by kernel_rfl) (by simp -implicitDefEqProofs) ?_
    refine VW.condB (b := leI n_24 s.most_) (by simp) (fun g25 => ?_) (fun g25 => ?_)
    · replace h1 := iteT g25 h1
      refine VW.skip ?_
      refine VW.seq ?_
      refine VW.block ?_
      refine VW.seq ?_
      obtain ⟨r26, q27, h1⟩ := bindE h1
      have c27 : F55 [.cptr (pT24 s) 0, .i .i64 slot, .i .i64 store, .i .i64 n_24] = some (.i .i64 r26) := tells_eq inj55 (a := (s, slot, store, n_24)) q27
      refine VW.evalA (C := [(55, F55)]) (tm 27 [(0, .cptr (pT24 s) 0), (1, .i .i64 slot), (2, .i .i64 store), (8, .i .i64 n_24), (9, .i .i64 r26)]) [] [] ⟨ok55, trivial⟩ (by kernel_rfl) (by simp -implicitDefEqProofs [c27]) ?_
      refine VW.seq ?_
      refine VW.evalA (C := [(55, F55)]) (tm 27 [(0, .cptr (pT24 s) 0), (1, .i .i64 slot), (2, .i .i64 store), (8, .i .i64 n_24), (9, .i .i64 r26), (24, .b (leI 0 r26))]) [] [] ⟨ok55, trivial⟩ (by kernel_rfl) (by simp -implicitDefEqProofs) ?_
      refine VW.condB (b := leI 0 r26) (by simp) (fun g28 => ?_) (fun g28 => ?_)
      · replace h1 := iteT g28 h1
        refine VW.seq ?_
        refine VW.evalA (C := [(55, F55)]) (tm 27 [(6, .i .i64 n_24), (7, .i .i64 r26)]) [] [] ⟨ok55, trivial⟩ (by kernel_rfl) (by simp -implicitDefEqProofs) ?_
        have e_ := leafR h1
        subst w_1
        obtain rfl := leafS h
        refine VW.ret (VRet.fin ?_)
        simp [eB58]
      · replace h1 := iteF g28 h1
        refine VW.skip ?_
        refine VW.evalA (C := [(55, F55)]) (tm 27 [(0, .cptr (pT24 s) 0), (1, .i .i64 slot), (2, .i .i64 store), (8, .i .i64 (aI .i64 n_24 1))]) [] [] ⟨ok55, trivial⟩ (by kernel_rfl) (by simp -implicitDefEqProofs) ?_
        exact (show ∃ _, _ from ⟨aI .i64 n_24 1, leafL h1, (Ent.to 0 (by simp [fgt]) (by first | (simp; done) | simp [pT24]) (by simp) (by simp [bndT, bndV]) (by simp [bndM, bndV]))⟩)
    · replace h1 := iteF g25 h1
      refine VW.exit ?_
      have e_ := leafR h1
      subst w_1
      exact (show ∃ _, _ from ⟨(), h, (Ent.to 0 (by simp [fgt]) (by first | (simp; done) | simp [pT24]) (by simp) (by simp [bndT, bndV]) (by simp [bndM, bndV]))⟩)
  · rintro _ h
    replace h : (g58_j1).bind _ = _ := h
    rw [g58_j1] at h
    refine VW.seq ?_
    refine VW.evalA (C := [(55, F55)]) (tm 27 [(6, .i .i64 (-1)), (7, .i .i64 (-1))]) [] [] ⟨ok55, trivial⟩ (by kernel_rfl) (by simp -implicitDefEqProofs) ?_
    obtain rfl := leafS h
    refine VW.ret (VRet.fin ?_)
    simp [eB58]
noncomputable def g59_j1 : Option (Int × Int × Bool) :=
  some (0, 0, false)
noncomputable def g59_L1 (s : T24) (slot : Int) (store : Int) : (Int) → Option ((Int) ⊕ ((Unit) ⊕ (Int × Int × Bool)))
  | x_24 =>
    if ltI x_24 (aI .i64 s.most_ 1) = true then
      (g56 s slot store x_24).bind fun r26 =>
      if r26.2 = true then
        some (.inr (.inr (x_24, r26.1, true)))
      else
        some (.inl (aI .i64 x_24 1))
    else
      some (.inr (.inl ()))
noncomputable def g59 (s : T24) (slot : Int) (store : Int) : Option (Int × Int × Bool) :=
  (loopO (g59_L1 s slot store) 0).bind fun w => match w with
    | .inl y => g59_j1
    | .inr r => some r
def eA59 (a : T24 × Int × Int) : List V := [.agg (pT24 a.1), .i .i64 a.2.1, .i .i64 a.2.2]
def eB59 (r : Int × Int × Bool) : V := .tup [.i .i64 r.1, .i .i64 r.2.1, .b r.2.2]
theorem inj59 (a a' : T24 × Int × Int) (h : eA59 a = eA59 a') : a = a' := by
  obtain ⟨⟨i315, i316, i317, i318, i319, i320, i321⟩, i322, i323⟩ := a
  obtain ⟨⟨i324, i325, i326, i327, i328, i329, i330⟩, i331, i332⟩ := a'
  simp only [eA59, pT24, List.cons.injEq, V.i.injEq, V.b.injEq, V.f.injEq, V.str.injEq, V.sl.injEq, V.agg.injEq, V.cptr.injEq, true_and, and_true] at h
  simp_all [ri ci_i64_inj]
noncomputable def F59 : List V → Option V := tells (fun a => g59 a.1 a.2.1 a.2.2) eA59 eB59
set_option maxRecDepth 100000 in
set_option maxHeartbeats 4000000 in
/- loop.example/g01229/impl.leastLogs -/
theorem ok59 : Tells Try.prog 59 F59 := by
  refine Tells.of (by kernel_rfl) ?_
  rintro ⟨s, slot, store⟩ r h
  refine VCalls.nl (VCalls.of Try.func59 rfl rfl rfl ?_)
  rw [tm_init]
  simp only [eA59, en, List.length_cons, List.length_nil, Nat.reduceAdd, Nat.reduceSub]
  replace h : (g59 s slot store).bind some = some r := bindS h
  rw [g59] at h
  refine VW.seq ?_
  refine VW.evalA (C := [(56, F56)]) (tm 30 [(1, .i .i64 slot), (2, .i .i64 store), (3, .ptr 0 0 0)]) [some (7, [(pT24 s)])] [] ⟨ok56, trivial⟩ (by kernel_rfl) (by simp -implicitDefEqProofs) ?_
  refine VW.join (fun (v : Unit) => (⟨(tm 30 []), [some (7, [(pT24 s)])], []⟩ : VS)) (fun v => (g59_j1).bind some = some r) ?_ ?_
  · refine VW.seq ?_
    refine VW.evalA (C := [(56, F56)]) (tm 30 [(1, .i .i64 slot), (2, .i .i64 store), (3, .ptr 0 0 0), (14, .i .i64 (aI .i64 s.most_ 1)), (15, .i .i64 0)]) [some (7, [(pT24 s)])] [] ⟨ok56, trivial⟩ (by kernel_rfl) (by simp -implicitDefEqProofs) ?_
    refine VW.block ?_
    obtain ⟨w_1, hw_1, h⟩ := bindE h
    refine VW.loopO (fun (x : Int) => (⟨(tm 30 [(1, .i .i64 slot), (2, .i .i64 store), (3, .ptr 0 0 0), (14, .i .i64 (aI .i64 s.most_ 1)), (15, .i .i64 x)]), [some (7, [(pT24 s)])], []⟩ : VS)) hw_1 (Ent.to 1 (by simp [fgt]) (by first | (simp; done) | simp [pT24]) (by simp) (by simp [bndT, bndV]) (by simp [bndM, bndV])) ?_
    rintro n_1 x_24 h1
    rw [g59_L1] at h1
    refine VW.seq ?_
    refine VW.evalA (C := [(56, F56)]) (tm 30 [(1, .i .i64 slot), (2, .i .i64 store), (3, .ptr 0 0 0), (14, .i .i64 (aI .i64 s.most_ 1)), (15, .i .i64 x_24), (16, .b (ltI x_24 (aI .i64 s.most_ 1)))]) [some (7, [(pT24 s)])] [] ⟨ok56, trivial⟩ (by kernel_rfl) (by simp -implicitDefEqProofs) ?_
    refine VW.seq ?_
    refine VW.condB (b := ltI x_24 (aI .i64 s.most_ 1)) (by simp) (fun g25 => ?_) (fun g25 => ?_)
    · replace h1 := iteT g25 h1
      refine VW.skip ?_
      refine VW.seq ?_
      refine VW.block ?_
      refine VW.seq ?_
      refine VW.evalA (C := [(56, F56)]) (tm 30 [(1, .i .i64 slot), (2, .i .i64 store), (3, .ptr 0 0 0), (9, .i .i64 x_24), (14, .i .i64 (aI .i64 s.most_ 1)), (15, .i .i64 x_24)]) [some (7, [(pT24 s)])] [] ⟨ok56, trivial⟩ (by kernel_rfl) (by simp -implicitDefEqProofs) ?_
      refine VW.seq ?_
      obtain ⟨r26, q27, h1⟩ := bindE h1
      have c27 : F56 [.agg (pT24 s), .i .i64 slot, .i .i64 store, .i .i64 x_24] = some (.tup [.i .i64 r26.1, .b r26.2]) := tells_eq inj56 (a := (s, slot, store, x_24)) q27
      refine VW.evalA (C := [(56, F56)]) (tm 30 [(1, .i .i64 slot), (2, .i .i64 store), (3, .ptr 0 0 0), (9, .i .i64 x_24), (10, .i .i64 r26.1), (11, .b r26.2), (14, .i .i64 (aI .i64 s.most_ 1)), (15, .i .i64 x_24)]) [some (7, [(pT24 s)])] [] ⟨ok56, trivial⟩ (by kernel_rfl) (by simp -implicitDefEqProofs [c27]) ?_
      refine VW.seq ?_
      refine VW.evalA (C := [(56, F56)]) (tm 30 [(1, .i .i64 slot), (2, .i .i64 store), (3, .ptr 0 0 0), (9, .i .i64 x_24), (10, .i .i64 r26.1), (14, .i .i64 (aI .i64 s.most_ 1)), (15, .i .i64 x_24), (26, .b r26.2)]) [some (7, [(pT24 s)])] [] ⟨ok56, trivial⟩ (by kernel_rfl) (by simp -implicitDefEqProofs) ?_
      refine VW.condB (b := r26.2) (by simp) (fun g28 => ?_) (fun g28 => ?_)
      · replace h1 := iteT g28 h1
        refine VW.seq ?_
        refine VW.evalA (C := [(56, F56)]) (tm 30 [(6, .i .i64 x_24), (7, .i .i64 r26.1), (8, .b true)]) [some (7, [(pT24 s)])] [] ⟨ok56, trivial⟩ (by kernel_rfl) (by simp -implicitDefEqProofs) ?_
        have e_ := leafR h1
        subst w_1
        obtain rfl := leafS h
        refine VW.ret (VRet.fin ?_)
        simp [eB59]
      · replace h1 := iteF g28 h1
        refine VW.skip ?_
        refine VW.evalA (C := [(56, F56)]) (tm 30 [(1, .i .i64 slot), (2, .i .i64 store), (3, .ptr 0 0 0), (14, .i .i64 (aI .i64 s.most_ 1)), (15, .i .i64 (aI .i64 x_24 1))]) [some (7, [(pT24 s)])] [] ⟨ok56, trivial⟩ (by kernel_rfl) (by simp -implicitDefEqProofs) ?_
        exact (show ∃ _, _ from ⟨aI .i64 x_24 1, leafL h1, (Ent.to 1 (by simp [fgt]) (by first | (simp; done) | simp [pT24]) (by simp) (by simp [bndT, bndV]) (by simp [bndM, bndV]))⟩)
    · replace h1 := iteF g25 h1
      refine VW.exit ?_
      have e_ := leafR h1
      subst w_1
      exact (show ∃ _, _ from ⟨(), h, (Ent.to 1 (by simp [fgt]) (by first | (simp; done) | simp [pT24]) (by simp) (by simp [bndT, bndV]) (by simp [bndM, bndV]))⟩)
  · rintro _ h
    replace h : (g59_j1).bind _ = _ := h
    rw [g59_j1] at h
    refine VW.seq ?_
    refine VW.evalA (C := [(56, F56)]) (tm 30 [(6, .i .i64 0), (7, .i .i64 0), (8, .b false)]) [some (7, [(pT24 s)])] [] ⟨ok56, trivial⟩ (by kernel_rfl) (by simp -implicitDefEqProofs) ?_
    obtain rfl := leafS h
    refine VW.ret (VRet.fin ?_)
    simp [eB59]
end Go.Proofs.Yteggncgiflgopaa
