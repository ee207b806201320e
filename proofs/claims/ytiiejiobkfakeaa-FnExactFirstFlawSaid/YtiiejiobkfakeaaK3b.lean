/- Contracts of the functions that the law reaches: what each tells, as a function in Lean. -/
import Derived.Test.YtiiejiobkfakeaaK3a
import Derived.KernelRfl
namespace Go.Proofs.Ytiiejiobkfakeaa
open Go.RowKit Go.VL
set_option linter.unusedSimpArgs false
set_option linter.unusedVariables false
noncomputable def g44_j1 : Option (Int × Int × Int × Bool) :=
  some (0, 0, 0, false)
noncomputable def g44_j2 (x_4099 : Int) : Option ((Int) ⊕ ((Unit) ⊕ (Int × Int × Int × Bool))) :=
  some (.inl (aI .i64 x_4099 1))
noncomputable def g44_j3 (x_4783 : Int) : Option ((Int) ⊕ ((Unit) ⊕ ((Int) ⊕ ((Unit) ⊕ (Int × Int × Int × Bool))))) :=
  some (.inl (aI .i64 x_4783 1))
noncomputable def g44_L3 (s : T24) (x_4099 : Int) (x_4783 : Int) (table : List (List Int)) (e4852 : Int) : (Int) → Option ((Int) ⊕ ((Unit) ⊕ ((Int) ⊕ ((Unit) ⊕ ((Int) ⊕ ((Unit) ⊕ (Int × Int × Int × Bool)))))))
  | x_4897 =>
    if ltI x_4897 (aI .i64 s.most_ 1) = true then
      (g53 s x_4099 x_4783 x_4897).bind fun r4899 =>
      if (!r4899.2) = true then
        some (.inl (aI .i64 x_4897 1))
      else
        (idx table (aI .i64 x_4099 1)).bind fun e4902 =>
        (idx e4902 r4899.1).bind fun e4904 =>
        (if (eqI e4852 (-1) && (!eqI e4904 (-1))) = true then some true else (if (((!eqI e4852 (-1)) && (!eqI e4904 (-1))) && ltI e4904 e4852) = true then (idx s.price_ x_4099).bind fun e4906 => some (ltI (mI .i64 e4906 x_4897) (sI .i64 e4852 e4904)) else some false).bind fun w4908 => some w4908).bind fun w4909 =>
        if w4909 = true then
          some (.inr (.inr (.inr (.inr (.inr (.inr (x_4099, x_4783, x_4897, true)))))))
        else
          some (.inl (aI .i64 x_4897 1))
    else
      some (.inr (.inl ()))
noncomputable def g44_L2 (e4510 : List Int) (s : T24) (x_4099 : Int) (table : List (List Int)) : (Int) → Option ((Int) ⊕ ((Unit) ⊕ ((Int) ⊕ ((Unit) ⊕ (Int × Int × Int × Bool)))))
  | x_4783 =>
    if ltI x_4783 (e4510.length : Int) = true then
      (idx e4510 x_4783).bind fun e4852 =>
      (loopO (g44_L3 s x_4099 x_4783 table e4852) 0).bind fun w => match w with
        | .inl y => g44_j3 x_4783
        | .inr r => some r
    else
      some (.inr (.inl ()))
noncomputable def g44_L1 (s : T24) (table : List (List Int)) : (Int) → Option ((Int) ⊕ ((Unit) ⊕ (Int × Int × Int × Bool)))
  | x_4099 =>
    if ltI x_4099 (s.need_.length : Int) = true then
      (idx table x_4099).bind fun e4510 =>
      (loopO (g44_L2 e4510 s x_4099 table) 0).bind fun w => match w with
        | .inl y => g44_j2 x_4099
        | .inr r => some r
    else
      some (.inr (.inl ()))
noncomputable def g44 (s : T24) (table : List (List Int)) : Option (Int × Int × Int × Bool) :=
  (loopO (g44_L1 s table) 0).bind fun w => match w with
    | .inl y => g44_j1
    | .inr r => some r
def eA44 (a : T24 × (List (List Int))) : List V := [.agg (pT24 a.1), .sl 1 (rows cl_ci_i64 a.2)]
def eB44 (r : Int × Int × Int × Bool) : V := .tup [.i .i64 r.1, .i .i64 r.2.1, .i .i64 r.2.2.1, .b r.2.2.2]
theorem inj44 (a a' : T24 × (List (List Int))) (h : eA44 a = eA44 a') : a = a' := by
  obtain ⟨⟨i189, i190, i191, i192, i193, i194, i195⟩, i196⟩ := a
  obtain ⟨⟨i197, i198, i199, i200, i201, i202, i203⟩, i204⟩ := a'
  simp only [eA44, pT24, List.cons.injEq, V.i.injEq, V.b.injEq, V.f.injEq, V.str.injEq, V.sl.injEq, V.agg.injEq, V.cptr.injEq, true_and, and_true] at h
  simp_all [ri ci_i64_inj, ri cl_ci_i64_inj]
noncomputable def F44 : List V → Option V := tells (fun a => g44 a.1 a.2) eA44 eB44
set_option maxRecDepth 100000 in
set_option maxHeartbeats 4000000 in
/- loop.example/g01229/impl.flaw -/
theorem ok44 : Tells Try.prog 44 F44 := by
  refine Tells.of (by kernel_rfl) ?_
  rintro ⟨s, table⟩ r h
  refine VCalls.nl (VCalls.of Try.func44 rfl rfl rfl ?_)
  rw [tm_init]
  simp only [eA44, en, List.length_cons, List.length_nil, Nat.reduceAdd, Nat.reduceSub]
  replace h : (g44 s table).bind some = some r := bindS h
  rw [g44] at h
  refine VW.seq ?_
  refine VW.evalA (C := [(53, F53)]) (tm 93 [(1, .sl 1 (rows cl_ci_i64 table)), (2, .ptr 0 0 0)]) [some (7, [(pT24 s)])] [] ⟨.inl ok53, trivial⟩ (by kernel_rfl) (by simp -implicitDefEqProofs) ?_
  refine VW.join (fun (v : Unit) => (⟨(tm 93 []), [some (7, [(pT24 s)])], []⟩ : VS)) (fun v => (g44_j1).bind some = some r) ?_ ?_
  · refine VW.seq ?_
    refine VW.evalA (C := [(53, F53)]) (tm 93 [(1, .sl 1 (rows cl_ci_i64 table)), (2, .ptr 0 0 0), (17, .i .i64 (s.need_.length : Int)), (18, .i .i64 0)]) [some (7, [(pT24 s)])] [] ⟨.inl ok53, trivial⟩ (by kernel_rfl) (by simp -implicitDefEqProofs) ?_
    refine VW.block ?_
    obtain ⟨w_1, hw_1, h⟩ := bindE h
    refine VW.loopO (fun (x : Int) => (⟨(tm 93 [(1, .sl 1 (rows cl_ci_i64 table)), (2, .ptr 0 0 0), (17, .i .i64 (s.need_.length : Int)), (18, .i .i64 x)]), [some (7, [(pT24 s)])], []⟩ : VS)) hw_1 (Ent.to 1 (by simp [fgt]) (by first | (simp; done) | simp [pT24]) (by simp) (by simp [bndT, bndV]) (by simp [bndM, bndV])) ?_
    rintro n_1 x_4099 h1
    rw [g44_L1] at h1
    refine VW.seq ?_
    refine VW.evalA (C := [(53, F53)]) (tm 93 [(1, .sl 1 (rows cl_ci_i64 table)), (2, .ptr 0 0 0), (17, .i .i64 (s.need_.length : Int)), (18, .i .i64 x_4099), (19, .b (ltI x_4099 (s.need_.length : Int)))]) [some (7, [(pT24 s)])] [] ⟨.inl ok53, trivial⟩ (by kernel_rfl) (by simp -implicitDefEqProofs) ?_
    refine VW.seq ?_
    refine VW.condB (b := ltI x_4099 (s.need_.length : Int)) (by simp) (fun g4100 => ?_) (fun g4100 => ?_)
    · replace h1 := iteT g4100 h1
      refine VW.skip ?_
      refine VW.join (fun (v : Unit) => (⟨(tm 93 [(1, .sl 1 (rows cl_ci_i64 table)), (2, .ptr 0 0 0), (17, .i .i64 (s.need_.length : Int)), (18, .i .i64 x_4099)]), [some (7, [(pT24 s)])], []⟩ : VS)) (fun v => (g44_j2 x_4099).bind (kN (g44_L1 s table) n_1) = some w_1) ?_ ?_
      · refine VW.block ?_
        refine VW.seq ?_
        refine VW.evalA (C := [(53, F53)]) (tm 93 [(1, .sl 1 (rows cl_ci_i64 table)), (2, .ptr 0 0 0), (8, .i .i64 x_4099), (17, .i .i64 (s.need_.length : Int)), (18, .i .i64 x_4099)]) [some (7, [(pT24 s)])] [] ⟨.inl ok53, trivial⟩ (by kernel_rfl) (by simp -implicitDefEqProofs) ?_
        refine VW.seq ?_
        obtain ⟨e4510, q4511, h1⟩ := bindE h1
        obtain ⟨f4511a, f4511b, f4511c, f4511d⟩ := idx_some q4511
        refine VW.evalA (C := [(53, F53)]) (tm 93 [(1, .sl 1 (rows cl_ci_i64 table)), (2, .ptr 0 0 0), (8, .i .i64 x_4099), (17, .i .i64 (s.need_.length : Int)), (18, .i .i64 x_4099), (24, .sl 1 (rows ci_i64 e4510)), (25, .i .i64 (e4510.length : Int)), (26, .i .i64 0)]) [some (7, [(pT24 s)])] [] ⟨.inl ok53, trivial⟩ (by kernel_rfl) (by simp -implicitDefEqProofs [f4511a, f4511b, f4511c, f4511d]) ?_
        refine VW.block ?_
        obtain ⟨w_2, hw_2, h1⟩ := bindE h1
        refine VW.loopO (fun (x : Int) => (⟨(tm 93 [(1, .sl 1 (rows cl_ci_i64 table)), (2, .ptr 0 0 0), (8, .i .i64 x_4099), (17, .i .i64 (s.need_.length : Int)), (18, .i .i64 x_4099), (24, .sl 1 (rows ci_i64 e4510)), (25, .i .i64 (e4510.length : Int)), (26, .i .i64 x)]), [some (7, [(pT24 s)])], []⟩ : VS)) hw_2 (Ent.to 1 (by simp [fgt]) (by first | (simp; done) | simp [pT24]) (by simp) (by simp [bndT, bndV]) (by simp [bndM, bndV])) ?_
        rintro n_2 x_4783 h2
        rw [g44_L2] at h2
        refine VW.seq ?_
        refine VW.evalA (C := [(53, F53)]) (tm 93 [(1, .sl 1 (rows cl_ci_i64 table)), (2, .ptr 0 0 0), (8, .i .i64 x_4099), (17, .i .i64 (s.need_.length : Int)), (18, .i .i64 x_4099), (24, .sl 1 (rows ci_i64 e4510)), (25, .i .i64 (e4510.length : Int)), (26, .i .i64 x_4783), (27, .b (ltI x_4783 (e4510.length : Int)))]) [some (7, [(pT24 s)])] [] ⟨.inl ok53, trivial⟩ (by kernel_rfl) (by simp -implicitDefEqProofs) ?_
        refine VW.seq ?_
        refine VW.condB (b := ltI x_4783 (e4510.length : Int)) (by simp) (fun g4784 => ?_) (fun g4784 => ?_)
        · replace h2 := iteT g4784 h2
          refine VW.skip ?_
          refine VW.join (fun (v : Unit) => (⟨(tm 93 [(1, .sl 1 (rows cl_ci_i64 table)), (2, .ptr 0 0 0), (8, .i .i64 x_4099), (17, .i .i64 (s.need_.length : Int)), (18, .i .i64 x_4099), (24, .sl 1 (rows ci_i64 e4510)), (25, .i .i64 (e4510.length : Int)), (26, .i .i64 x_4783)]), [some (7, [(pT24 s)])], []⟩ : VS)) (fun v => (g44_j3 x_4783).bind (kN (g44_L2 e4510 s x_4099 table) n_2) = some w_2) ?_ ?_
          · refine VW.block ?_
            refine VW.seq ?_
            obtain ⟨e4852, q4853, h2⟩ := bindE h2
            obtain ⟨f4853a, f4853b, f4853c, f4853d⟩ := idx_some q4853
            refine VW.evalA (C := [(53, F53)]) (tm 93 [(1, .sl 1 (rows cl_ci_i64 table)), (2, .ptr 0 0 0), (8, .i .i64 x_4099), (9, .i .i64 x_4783), (10, .i .i64 e4852), (17, .i .i64 (s.need_.length : Int)), (18, .i .i64 x_4099), (24, .sl 1 (rows ci_i64 e4510)), (25, .i .i64 (e4510.length : Int)), (26, .i .i64 x_4783)]) [some (7, [(pT24 s)])] [] ⟨.inl ok53, trivial⟩ (by kernel_rfl) (by simp -implicitDefEqProofs [f4853a, f4853b, f4853c, f4853d]) ?_
            refine VW.seq ?_
            refine VW.evalA (C := [(53, F53)]) (tm 93 [(1, .sl 1 (rows cl_ci_i64 table)), (2, .ptr 0 0 0), (8, .i .i64 x_4099), (9, .i .i64 x_4783), (10, .i .i64 e4852), (17, .i .i64 (s.need_.length : Int)), (18, .i .i64 x_4099), (24, .sl 1 (rows ci_i64 e4510)), (25, .i .i64 (e4510.length : Int)), (26, .i .i64 x_4783), (33, .i .i64 (aI .i64 s.most_ 1)), (34, .i .i64 0)]) [some (7, [(pT24 s)])] [] ⟨.inl ok53, trivial⟩ (by kernel_rfl) (by simp -implicitDefEqProofs) ?_
            refine VW.block ?_
            obtain ⟨w_3, hw_3, h2⟩ := bindE h2
            refine VW.loopO (fun (x : Int) => (⟨(tm 93 [(1, .sl 1 (rows cl_ci_i64 table)), (2, .ptr 0 0 0), (8, .i .i64 x_4099), (9, .i .i64 x_4783), (10, .i .i64 e4852), (17, .i .i64 (s.need_.length : Int)), (18, .i .i64 x_4099), (24, .sl 1 (rows ci_i64 e4510)), (25, .i .i64 (e4510.length : Int)), (26, .i .i64 x_4783), (33, .i .i64 (aI .i64 s.most_ 1)), (34, .i .i64 x)]), [some (7, [(pT24 s)])], []⟩ : VS)) hw_3 (Ent.to 1 (by simp [fgt]) (by first | (simp; done) | simp [pT24]) (by simp) (by simp [bndT, bndV]) (by simp [bndM, bndV])) ?_
            rintro n_3 x_4897 h3
            rw [g44_L3] at h3
            refine VW.seq ?_
            refine VW.evalA (C := [(53, F53)]) (tm 93 [(1, .sl 1 (rows cl_ci_i64 table)), (2, .ptr 0 0 0), (8, .i .i64 x_4099), (9, .i .i64 x_4783), (10, .i .i64 e4852), (17, .i .i64 (s.need_.length : Int)), (18, .i .i64 x_4099), (24, .sl 1 (rows ci_i64 e4510)), (25, .i .i64 (e4510.length : Int)), (26, .i .i64 x_4783), (33, .i .i64 (aI .i64 s.most_ 1)), (34, .i .i64 x_4897), (35, .b (ltI x_4897 (aI .i64 s.most_ 1)))]) [some (7, [(pT24 s)])] [] ⟨.inl ok53, trivial⟩ (by kernel_rfl) (by simp -implicitDefEqProofs) ?_
            refine VW.seq ?_
            refine VW.condB (b := ltI x_4897 (aI .i64 s.most_ 1)) (by simp) (fun g4898 => ?_) (fun g4898 => ?_)
            · replace h3 := iteT g4898 h3
              refine VW.skip ?_
              refine VW.seq ?_
              refine VW.block ?_
              refine VW.seq ?_
              refine VW.evalA (C := [(53, F53)]) (tm 93 [(1, .sl 1 (rows cl_ci_i64 table)), (2, .ptr 0 0 0), (8, .i .i64 x_4099), (9, .i .i64 x_4783), (10, .i .i64 e4852), (11, .i .i64 x_4897), (17, .i .i64 (s.need_.length : Int)), (18, .i .i64 x_4099), (24, .sl 1 (rows ci_i64 e4510)), (25, .i .i64 (e4510.length : Int)), (26, .i .i64 x_4783), (33, .i .i64 (aI .i64 s.most_ 1)), (34, .i .i64 x_4897)]) [some (7, [(pT24 s)])] [] ⟨.inl ok53, trivial⟩ (by kernel_rfl) (by simp -implicitDefEqProofs) ?_
              refine VW.seq ?_
              obtain ⟨r4899, q4900, h3⟩ := bindE h3
              have c4900 : F53 [.agg (pT24 s), .i .i64 x_4099, .i .i64 x_4783, .i .i64 x_4897] = some (.tup [.i .i64 r4899.1, .b r4899.2]) := tells_eq inj53 (a := (s, x_4099, x_4783, x_4897)) q4900
              refine VW.evalA (C := [(53, F53)]) (tm 93 [(1, .sl 1 (rows cl_ci_i64 table)), (2, .ptr 0 0 0), (8, .i .i64 x_4099), (9, .i .i64 x_4783), (10, .i .i64 e4852), (11, .i .i64 x_4897), (12, .i .i64 r4899.1), (13, .b r4899.2), (17, .i .i64 (s.need_.length : Int)), (18, .i .i64 x_4099), (24, .sl 1 (rows ci_i64 e4510)), (25, .i .i64 (e4510.length : Int)), (26, .i .i64 x_4783), (33, .i .i64 (aI .i64 s.most_ 1)), (34, .i .i64 x_4897)]) [some (7, [(pT24 s)])] [] ⟨.inl ok53, trivial⟩ (by kernel_rfl) (by simp -implicitDefEqProofs [c4900]) ?_
              refine VW.seq ?_
              refine VW.seq ?_
              refine VW.evalA (C := [(53, F53)]) (tm 93 [(1, .sl 1 (rows cl_ci_i64 table)), (2, .ptr 0 0 0), (8, .i .i64 x_4099), (9, .i .i64 x_4783), (10, .i .i64 e4852), (11, .i .i64 x_4897), (12, .i .i64 r4899.1), (17, .i .i64 (s.need_.length : Int)), (18, .i .i64 x_4099), (24, .sl 1 (rows ci_i64 e4510)), (25, .i .i64 (e4510.length : Int)), (26, .i .i64 x_4783), (33, .i .i64 (aI .i64 s.most_ 1)), (34, .i .i64 x_4897), (46, .b (!r4899.2))]) [some (7, [(pT24 s)])] [] ⟨.inl ok53, trivial⟩ (by kernel_rfl) (by simp -implicitDefEqProofs) ?_
              refine VW.condB (b := (!r4899.2)) (by simp) (fun g4901 => ?_) (fun g4901 => ?_)
              · replace h3 := iteT g4901 h3
                refine VW.exit ?_
                refine VW.evalA (C := [(53, F53)]) (tm 93 [(1, .sl 1 (rows cl_ci_i64 table)), (2, .ptr 0 0 0), (8, .i .i64 x_4099), (9, .i .i64 x_4783), (10, .i .i64 e4852), (17, .i .i64 (s.need_.length : Int)), (18, .i .i64 x_4099), (24, .sl 1 (rows ci_i64 e4510)), (25, .i .i64 (e4510.length : Int)), (26, .i .i64 x_4783), (33, .i .i64 (aI .i64 s.most_ 1)), (34, .i .i64 (aI .i64 x_4897 1))]) [some (7, [(pT24 s)])] [] ⟨.inl ok53, trivial⟩ (by kernel_rfl) (by simp -implicitDefEqProofs) ?_
                exact (show ∃ _, _ from ⟨aI .i64 x_4897 1, leafL h3, (Ent.to 1 (by simp [fgt]) (by first | (simp; done) | simp [pT24]) (by simp) (by simp [bndT, bndV]) (by simp [bndM, bndV]))⟩)
              · replace h3 := iteF g4901 h3
                refine VW.skip ?_
                refine VW.seq ?_
                obtain ⟨e4902, q4903, h3⟩ := bindE h3
                obtain ⟨f4903a, f4903b, f4903c, f4903d⟩ := idx_some q4903
                obtain ⟨e4904, q4905, h3⟩ := bindE h3
                obtain ⟨f4905a, f4905b, f4905c, f4905d⟩ := idx_some q4905
                refine VW.evalA (C := [(53, F53)]) (tm 93 [(1, .sl 1 (rows cl_ci_i64 table)), (2, .ptr 0 0 0), (8, .i .i64 x_4099), (9, .i .i64 x_4783), (10, .i .i64 e4852), (11, .i .i64 x_4897), (14, .i .i64 e4904), (17, .i .i64 (s.need_.length : Int)), (18, .i .i64 x_4099), (24, .sl 1 (rows ci_i64 e4510)), (25, .i .i64 (e4510.length : Int)), (26, .i .i64 x_4783), (33, .i .i64 (aI .i64 s.most_ 1)), (34, .i .i64 x_4897)]) [some (7, [(pT24 s)])] [] ⟨.inl ok53, trivial⟩ (by kernel_rfl) (by simp -implicitDefEqProofs [f4903a, f4903b, f4903c, f4903d, f4905a, f4905b, f4905c, f4905d]) ?_
                refine VW.seq ?_
                obtain ⟨w4909, q4911, h3⟩ := bindE h3
                refine VW.evalA (C := [(53, F53)]) (tm 93 [(1, .sl 1 (rows cl_ci_i64 table)), (2, .ptr 0 0 0), (8, .i .i64 x_4099), (9, .i .i64 x_4783), (10, .i .i64 e4852), (11, .i .i64 x_4897), (17, .i .i64 (s.need_.length : Int)), (18, .i .i64 x_4099), (24, .sl 1 (rows ci_i64 e4510)), (25, .i .i64 (e4510.length : Int)), (26, .i .i64 x_4783), (33, .i .i64 (aI .i64 s.most_ 1)), (34, .i .i64 x_4897), (86, .b w4909)]) [some (7, [(pT24 s)])] [] ⟨.inl ok53, trivial⟩ (by kernel_rfl) (by
                    rcases Bool.eq_false_or_eq_true (eqI e4852 (-1) && (!eqI e4904 (-1))) with q4912 | q4912
                    · first
                      | (simp at q4912; done)
                      | (rw [if_pos q4912] at q4911
                         have d4913 : w4909 = _ := (Option.some.inj q4911).symm
                         simp -implicitDefEqProofs [q4912, d4913])
                    · first
                      | (simp at q4912; done)
                      | (rw [if_neg (by rw [q4912]; exact Bool.false_ne_true)] at q4911
                         obtain ⟨w4908, q4914, q4911⟩ := bindQ q4911
                         have d4915 : w4909 = _ := (Option.some.inj q4911).symm
                         rcases Bool.eq_false_or_eq_true (((!eqI e4852 (-1)) && (!eqI e4904 (-1))) && ltI e4904 e4852) with q4916 | q4916
                         · first
                           | (simp [d4915] at q4916; done)
                           | (rw [if_pos q4916] at q4914
                              try simp only [d4915] at q4916
                              obtain ⟨e4906, q4907, q4914⟩ := bindQ q4914
                              obtain ⟨f4907a, f4907b, f4907c, f4907d⟩ := idx_some q4907
                              have d4917 : w4908 = _ := (Option.some.inj q4914).symm
                              simp -implicitDefEqProofs [q4912, d4915, q4916, f4907a, f4907b, f4907c, f4907d, d4917])
                         · first
                           | (simp [d4915] at q4916; done)
                           | (rw [if_neg (by rw [q4916]; exact Bool.false_ne_true)] at q4914
                              try simp only [d4915] at q4916
                              have d4918 : w4908 = _ := (Option.some.inj q4914).symm
                              simp -implicitDefEqProofs [q4912, d4915, q4916, d4918]))) ?_
                refine VW.condB (b := w4909) (by simp) (fun g4910 => ?_) (fun g4910 => ?_)
                · replace h3 := iteT g4910 h3
                  refine VW.seq ?_
                  refine VW.evalA (C := [(53, F53)]) (tm 93 [(4, .i .i64 x_4099), (5, .i .i64 x_4783), (6, .i .i64 x_4897), (7, .b true)]) [some (7, [(pT24 s)])] [] ⟨.inl ok53, trivial⟩ (by kernel_rfl) (by simp -implicitDefEqProofs) ?_
                  have e_ := leafR h3
                  subst w_3
                  have e_ := leafR h2
                  subst w_2
                  have e_ := leafR h1
                  subst w_1
                  obtain rfl := leafS h
                  refine VW.ret (VRet.fin ?_)
                  simp [eB44]
                · replace h3 := iteF g4910 h3
                  refine VW.skip ?_
                  refine VW.evalA (C := [(53, F53)]) (tm 93 [(1, .sl 1 (rows cl_ci_i64 table)), (2, .ptr 0 0 0), (8, .i .i64 x_4099), (9, .i .i64 x_4783), (10, .i .i64 e4852), (17, .i .i64 (s.need_.length : Int)), (18, .i .i64 x_4099), (24, .sl 1 (rows ci_i64 e4510)), (25, .i .i64 (e4510.length : Int)), (26, .i .i64 x_4783), (33, .i .i64 (aI .i64 s.most_ 1)), (34, .i .i64 (aI .i64 x_4897 1))]) [some (7, [(pT24 s)])] [] ⟨.inl ok53, trivial⟩ (by kernel_rfl) (by simp -implicitDefEqProofs) ?_
                  exact (show ∃ _, _ from ⟨aI .i64 x_4897 1, leafL h3, (Ent.to 1 (by simp [fgt]) (by first | (simp; done) | simp [pT24]) (by simp) (by simp [bndT, bndV]) (by simp [bndM, bndV]))⟩)
            · replace h3 := iteF g4898 h3
              refine VW.exit ?_
              have e_ := leafR h3
              subst w_3
              exact (show ∃ _, _ from ⟨(), h2, (Ent.to 1 (by simp [fgt]) (by first | (simp; done) | simp [pT24]) (by simp) (by simp [bndT, bndV]) (by simp [bndM, bndV]))⟩)
          · rintro _ h2
            replace h2 : (g44_j3 x_4783).bind _ = _ := h2
            rw [g44_j3] at h2
            refine VW.evalA (C := [(53, F53)]) (tm 93 [(1, .sl 1 (rows cl_ci_i64 table)), (2, .ptr 0 0 0), (8, .i .i64 x_4099), (17, .i .i64 (s.need_.length : Int)), (18, .i .i64 x_4099), (24, .sl 1 (rows ci_i64 e4510)), (25, .i .i64 (e4510.length : Int)), (26, .i .i64 (aI .i64 x_4783 1))]) [some (7, [(pT24 s)])] [] ⟨.inl ok53, trivial⟩ (by kernel_rfl) (by simp -implicitDefEqProofs) ?_
            exact (show ∃ _, _ from ⟨aI .i64 x_4783 1, leafL h2, (Ent.to 1 (by simp [fgt]) (by first | (simp; done) | simp [pT24]) (by simp) (by simp [bndT, bndV]) (by simp [bndM, bndV]))⟩)
        · replace h2 := iteF g4784 h2
          refine VW.exit ?_
          have e_ := leafR h2
          subst w_2
          exact (show ∃ _, _ from ⟨(), h1, (Ent.to 1 (by simp [fgt]) (by first | (simp; done) | simp [pT24]) (by simp) (by simp [bndT, bndV]) (by simp [bndM, bndV]))⟩)
      · rintro _ h1
        replace h1 : (g44_j2 x_4099).bind _ = _ := h1
        rw [g44_j2] at h1
        refine VW.evalA (C := [(53, F53)]) (tm 93 [(1, .sl 1 (rows cl_ci_i64 table)), (2, .ptr 0 0 0), (17, .i .i64 (s.need_.length : Int)), (18, .i .i64 (aI .i64 x_4099 1))]) [some (7, [(pT24 s)])] [] ⟨.inl ok53, trivial⟩ (by kernel_rfl) (by simp -implicitDefEqProofs) ?_
        exact (show ∃ _, _ from ⟨aI .i64 x_4099 1, leafL h1, (Ent.to 1 (by simp [fgt]) (by first | (simp; done) | simp [pT24]) (by simp) (by simp [bndT, bndV]) (by simp [bndM, bndV]))⟩)
    · replace h1 := iteF g4100 h1
      refine VW.exit ?_
      have e_ := leafR h1
      subst w_1
      exact (show ∃ _, _ from ⟨(), h, (Ent.to 1 (by simp [fgt]) (by first | (simp; done) | simp [pT24]) (by simp) (by simp [bndT, bndV]) (by simp [bndM, bndV]))⟩)
  · rintro _ h
    replace h : (g44_j1).bind _ = _ := h
    rw [g44_j1] at h
    refine VW.seq ?_
    refine VW.evalA (C := [(53, F53)]) (tm 93 [(4, .i .i64 0), (5, .i .i64 0), (6, .i .i64 0), (7, .b false)]) [some (7, [(pT24 s)])] [] ⟨.inl ok53, trivial⟩ (by kernel_rfl) (by simp -implicitDefEqProofs) ?_
    obtain rfl := leafS h
    refine VW.ret (VRet.fin ?_)
    simp [eB44]
noncomputable def g13 (s : T24) (table : List (List Int)) : Option (Int × Int × Int × Int) :=
  (g42 s).bind fun r1 =>
  if (!r1) = true then
    some (0, 0, 0, 1)
  else
    (g43 s table).bind fun r4 =>
    if (!r4) = true then
      some (0, 0, 0, 2)
    else
      (g44 s table).bind fun r7 =>
      if (!r7.2.2.2) = true then
        some (0, 0, 0, 6)
      else
        some (r7.1, r7.2.1, r7.2.2.1, 0)
def eA13 (a : T24 × (List (List Int))) : List V := [.agg (pT24 a.1), .sl 1 (rows cl_ci_i64 a.2)]
def eB13 (r : Int × Int × Int × Int) : V := .tup [.i .i64 r.1, .i .i64 r.2.1, .i .i64 r.2.2.1, .i .i64 r.2.2.2]
theorem inj13 (a a' : T24 × (List (List Int))) (h : eA13 a = eA13 a') : a = a' := by
  obtain ⟨⟨i205, i206, i207, i208, i209, i210, i211⟩, i212⟩ := a
  obtain ⟨⟨i213, i214, i215, i216, i217, i218, i219⟩, i220⟩ := a'
  simp only [eA13, pT24, List.cons.injEq, V.i.injEq, V.b.injEq, V.f.injEq, V.str.injEq, V.sl.injEq, V.agg.injEq, V.cptr.injEq, true_and, and_true] at h
  simp_all [ri ci_i64_inj, ri cl_ci_i64_inj]
noncomputable def F13 : List V → Option V := tells (fun a => g13 a.1 a.2) eA13 eB13
set_option maxRecDepth 100000 in
set_option maxHeartbeats 4000000 in
/- loop.example/g01229/impl.FirstFlaw -/
theorem ok13 : Tells Try.prog 13 F13 := by
  refine Tells.of (by kernel_rfl) ?_
  rintro ⟨s, table⟩ r h
  refine VCalls.nl (VCalls.of Try.func13 rfl rfl rfl ?_)
  rw [tm_init]
  simp only [eA13, en, List.length_cons, List.length_nil, Nat.reduceAdd, Nat.reduceSub]
  replace h : (g13 s table).bind some = some r := bindS h
  rw [g13] at h
  refine VW.seq ?_
  refine VW.evalA (C := [(42, F42), (43, F43), (44, F44)]) (tm 34 [(1, .sl 1 (rows cl_ci_i64 table)), (2, .ptr 0 0 0)]) [some (7, [(pT24 s)])] [] ⟨.inl ok42, .inl ok43, .inl ok44, trivial⟩ (by kernel_rfl) (by simp -implicitDefEqProofs) ?_
  refine VW.seq ?_
  refine VW.block ?_
  refine VW.seq ?_
  obtain ⟨r1, q2, h⟩ := bindE h
  have c2 : F42 [.agg (pT24 s)] = some (.b r1) := tells_eq inj42 (a := s) q2
  refine VW.evalA (C := [(42, F42), (43, F43), (44, F44)]) (tm 34 [(1, .sl 1 (rows cl_ci_i64 table)), (2, .ptr 0 0 0), (12, .b (!r1))]) [some (7, [(pT24 s)])] [] ⟨.inl ok42, .inl ok43, .inl ok44, trivial⟩ (by kernel_rfl) (by simp -implicitDefEqProofs [c2]) ?_
  refine VW.condB (b := (!r1)) (by simp) (fun g3 => ?_) (fun g3 => ?_)
  · replace h := iteT g3 h
    refine VW.seq ?_
    refine VW.evalA (C := [(42, F42), (43, F43), (44, F44)]) (tm 34 [(4, .i .i64 0), (5, .i .i64 0), (6, .i .i64 0), (7, .i .i64 1)]) [some (7, [(pT24 s)])] [] ⟨.inl ok42, .inl ok43, .inl ok44, trivial⟩ (by kernel_rfl) (by simp -implicitDefEqProofs) ?_
    obtain rfl := leafS h
    refine VW.ret (VRet.fin ?_)
    simp [eB13]
  · replace h := iteF g3 h
    refine VW.seq ?_
    obtain ⟨r4, q5, h⟩ := bindE h
    have c5 : F43 [.agg (pT24 s), .sl 1 (rows cl_ci_i64 table)] = some (.b r4) := tells_eq inj43 (a := (s, table)) q5
    refine VW.evalA (C := [(42, F42), (43, F43), (44, F44)]) (tm 34 [(1, .sl 1 (rows cl_ci_i64 table)), (2, .ptr 0 0 0), (16, .b (!r4))]) [some (7, [(pT24 s)])] [] ⟨.inl ok42, .inl ok43, .inl ok44, trivial⟩ (by kernel_rfl) (by simp -implicitDefEqProofs [c5]) ?_
    refine VW.condB (b := (!r4)) (by simp) (fun g6 => ?_) (fun g6 => ?_)
    · replace h := iteT g6 h
      refine VW.seq ?_
      refine VW.evalA (C := [(42, F42), (43, F43), (44, F44)]) (tm 34 [(4, .i .i64 0), (5, .i .i64 0), (6, .i .i64 0), (7, .i .i64 2)]) [some (7, [(pT24 s)])] [] ⟨.inl ok42, .inl ok43, .inl ok44, trivial⟩ (by kernel_rfl) (by simp -implicitDefEqProofs) ?_
      obtain rfl := leafS h
      refine VW.ret (VRet.fin ?_)
      simp [eB13]
    · replace h := iteF g6 h
      refine VW.skip ?_
      refine VW.seq ?_
      obtain ⟨r7, q8, h⟩ := bindE h
      have c8 : F44 [.agg (pT24 s), .sl 1 (rows cl_ci_i64 table)] = some (.tup [.i .i64 r7.1, .i .i64 r7.2.1, .i .i64 r7.2.2.1, .b r7.2.2.2]) := tells_eq inj44 (a := (s, table)) q8
      refine VW.evalA (C := [(42, F42), (43, F43), (44, F44)]) (tm 34 [(8, .i .i64 r7.1), (9, .i .i64 r7.2.1), (10, .i .i64 r7.2.2.1), (11, .b r7.2.2.2)]) [some (7, [(pT24 s)])] [] ⟨.inl ok42, .inl ok43, .inl ok44, trivial⟩ (by kernel_rfl) (by simp -implicitDefEqProofs [c8]) ?_
      refine VW.seq ?_
      refine VW.seq ?_
      refine VW.evalA (C := [(42, F42), (43, F43), (44, F44)]) (tm 34 [(8, .i .i64 r7.1), (9, .i .i64 r7.2.1), (10, .i .i64 r7.2.2.1), (30, .b (!r7.2.2.2))]) [some (7, [(pT24 s)])] [] ⟨.inl ok42, .inl ok43, .inl ok44, trivial⟩ (by kernel_rfl) (by simp -implicitDefEqProofs) ?_
      refine VW.condB (b := (!r7.2.2.2)) (by simp) (fun g9 => ?_) (fun g9 => ?_)
      · replace h := iteT g9 h
        refine VW.seq ?_
        refine VW.evalA (C := [(42, F42), (43, F43), (44, F44)]) (tm 34 [(4, .i .i64 0), (5, .i .i64 0), (6, .i .i64 0), (7, .i .i64 6)]) [some (7, [(pT24 s)])] [] ⟨.inl ok42, .inl ok43, .inl ok44, trivial⟩ (by kernel_rfl) (by simp -implicitDefEqProofs) ?_
        obtain rfl := leafS h
        refine VW.ret (VRet.fin ?_)
        simp [eB13]
      · replace h := iteF g9 h
        refine VW.skip ?_
        refine VW.seq ?_
        refine VW.evalA (C := [(42, F42), (43, F43), (44, F44)]) (tm 34 [(4, .i .i64 r7.1), (5, .i .i64 r7.2.1), (6, .i .i64 r7.2.2.1), (7, .i .i64 0)]) [some (7, [(pT24 s)])] [] ⟨.inl ok42, .inl ok43, .inl ok44, trivial⟩ (by kernel_rfl) (by simp -implicitDefEqProofs) ?_
        obtain rfl := leafS h
        refine VW.ret (VRet.fin ?_)
        simp [eB13]
noncomputable def g19_j1 : Option (Bool) :=
  some true
noncomputable def g19_L1 (a : List Int) (b : List Int) : (Int) → Option ((Int) ⊕ ((Unit) ⊕ (Bool)))
  | i_35 =>
    if ltI i_35 (a.length : Int) = true then
      (idx a i_35).bind fun e37 =>
      (idx b i_35).bind fun e39 =>
      if (!eqI e37 e39) = true then
        some (.inr (.inr false))
      else
        some (.inl (aI .i64 i_35 1))
    else
      some (.inr (.inl ()))
noncomputable def g19 (a : List Int) (b : List Int) : Option (Bool) :=
  if (!eqI (a.length : Int) (b.length : Int)) = true then
    some false
  else
    (loopO (g19_L1 a b) 0).bind fun w => match w with
      | .inl y => g19_j1
      | .inr r => some r
def eA19 (a : (List Int) × (List Int)) : List V := [.sl 1 (rows ci_i64 a.1), .sl 1 (rows ci_i64 a.2)]
def eB19 (r : Bool) : V := .b r
theorem inj19 (a a' : (List Int) × (List Int)) (h : eA19 a = eA19 a') : a = a' := by
  obtain ⟨i221, i222⟩ := a
  obtain ⟨i223, i224⟩ := a'
  simp only [eA19, List.cons.injEq, V.i.injEq, V.b.injEq, V.f.injEq, V.str.injEq, V.sl.injEq, V.agg.injEq, V.cptr.injEq, true_and, and_true] at h
  simp_all [ri ci_i64_inj]
noncomputable def F19 : List V → Option V := tells (fun a => g19 a.1 a.2) eA19 eB19
set_option maxRecDepth 100000 in
set_option maxHeartbeats 4000000 in
/- loop.example/g01229/laws.eqInt64S -/
theorem ok19 : Tells Try.prog 19 F19 := by
  refine Tells.of (by kernel_rfl) ?_
  rintro ⟨a, b⟩ r h
  refine VCalls.nl (VCalls.of Try.func19 rfl rfl rfl ?_)
  rw [tm_init]
  simp only [eA19, en, List.length_cons, List.length_nil, Nat.reduceAdd, Nat.reduceSub]
  replace h : (g19 a b).bind some = some r := bindS h
  rw [g19] at h
  refine VW.seq ?_
  refine VW.evalA (C := []) (tm 26 [(0, .sl 1 (rows ci_i64 a)), (1, .sl 1 (rows ci_i64 b))]) [] [] trivial (by kernel_rfl) (by simp -implicitDefEqProofs) ?_
  refine VW.seq ?_
  refine VW.seq ?_
  refine VW.evalA (C := []) (tm 26 [(0, .sl 1 (rows ci_i64 a)), (1, .sl 1 (rows ci_i64 b)), (10, .b (!eqI (a.length : Int) (b.length : Int)))]) [] [] trivial (by kernel_rfl) (by simp -implicitDefEqProofs) ?_
  refine VW.condB (b := (!eqI (a.length : Int) (b.length : Int))) (by simp) (fun g1 => ?_) (fun g1 => ?_)
  · replace h := iteT g1 h
    refine VW.seq ?_
    refine VW.evalA (C := []) (tm 26 [(4, .b false)]) [] [] trivial (by kernel_rfl) (by simp -implicitDefEqProofs) ?_
    obtain rfl := leafS h
    refine VW.ret (VRet.fin ?_)
    simp [eB19]
  · replace h := iteF g1 h
    refine VW.skip ?_
    refine VW.join (fun (v : Unit) => (⟨(tm 26 []), [], []⟩ : VS)) (fun v => (g19_j1).bind some = some r) ?_ ?_
    · refine VW.seq ?_
      refine VW.evalA (C := []) (tm 26 [(0, .sl 1 (rows ci_i64 a)), (1, .sl 1 (rows ci_i64 b)), (5, .i .i64 0)]) [] [] trivial (by kernel_rfl) (by simp -implicitDefEqProofs) ?_
      refine VW.block ?_
      obtain ⟨w_1, hw_1, h⟩ := bindE h
      refine VW.loopO (fun (x : Int) => (⟨(tm 26 [(0, .sl 1 (rows ci_i64 a)), (1, .sl 1 (rows ci_i64 b)), (5, .i .i64 x)]), [], []⟩ : VS)) hw_1 (Ent.to 0 (by simp [fgt]) (by simp) (by simp) (by simp [bndT, bndV]) (by simp [bndM, bndV])) ?_
      rintro n_1 i_35 h1
      rw [g19_L1] at h1
      refine VW.seq ?_
      refine VW.seq ?_
      refine VW.evalA (C := []) (tm 26 [(0, .sl 1 (rows ci_i64 a)), (1, .sl 1 (rows ci_i64 b)), (5, .i .i64 i_35), (14, .b (ltI i_35 (a.length : Int)))]) [] [] trivial (by kernel_rfl) (by simp -implicitDefEqProofs) ?_
      refine VW.condB (b := ltI i_35 (a.length : Int)) (by simp) (fun g36 => ?_) (fun g36 => ?_)
      · replace h1 := iteT g36 h1
        refine VW.skip ?_
        refine VW.seq ?_
        refine VW.block ?_
        refine VW.seq ?_
        obtain ⟨e37, q38, h1⟩ := bindE h1
        obtain ⟨f38a, f38b, f38c, f38d⟩ := idx_some q38
        obtain ⟨e39, q40, h1⟩ := bindE h1
        obtain ⟨f40a, f40b, f40c, f40d⟩ := idx_some q40
        refine VW.evalDA (C := []) (tm 26 [(0, .sl 1 (rows ci_i64 a)), (1, .sl 1 (rows ci_i64 b)), (5, .i .i64 i_35), (25, .b (!eqI e37 e39))]) [] [] trivial mixed (by kernel_rfl) (by simp -implicitDefEqProofs [f38a, f38b, f38c, f38d, f40a, f40b, f40c, f40d]) ?_
        refine VW.condB (b := (!eqI e37 e39)) (by simp) (fun g41 => ?_) (fun g41 => ?_)
        · replace h1 := iteT g41 h1
          refine VW.seq ?_
          refine VW.evalA (C := []) (tm 26 [(4, .b false)]) [] [] trivial (by kernel_rfl) (by simp -implicitDefEqProofs) ?_
          have e_ := leafR h1
          subst w_1
          obtain rfl := leafS h
          refine VW.ret (VRet.fin ?_)
          simp [eB19]
        · replace h1 := iteF g41 h1
          refine VW.skip ?_
          refine VW.evalA (C := []) (tm 26 [(0, .sl 1 (rows ci_i64 a)), (1, .sl 1 (rows ci_i64 b)), (5, .i .i64 (aI .i64 i_35 1))]) [] [] trivial (by kernel_rfl) (by simp -implicitDefEqProofs) ?_
          exact (show ∃ _, _ from ⟨aI .i64 i_35 1, leafL h1, (Ent.to 0 (by simp [fgt]) (by simp) (by simp) (by simp [bndT, bndV]) (by simp [bndM, bndV]))⟩)
      · replace h1 := iteF g36 h1
        refine VW.exit ?_
        have e_ := leafR h1
        subst w_1
        exact (show ∃ _, _ from ⟨(), h, (Ent.to 0 (by simp [fgt]) (by simp) (by simp) (by simp [bndT, bndV]) (by simp [bndM, bndV]))⟩)
    · rintro _ h
      replace h : (g19_j1).bind _ = _ := h
      rw [g19_j1] at h
      refine VW.seq ?_
      refine VW.evalA (C := []) (tm 26 [(4, .b true)]) [] [] trivial (by kernel_rfl) (by simp -implicitDefEqProofs) ?_
      obtain rfl := leafS h
      refine VW.ret (VRet.fin ?_)
      simp [eB19]
noncomputable def g14 (a : T24) (b : T24) : Option (Bool) :=
  (g19 a.need_ b.need_).bind fun r1 =>
  if (!r1) = true then
    some false
  else
    (g19 a.price_ b.price_).bind fun r4 =>
    if (!r4) = true then
      some false
    else
      if (!eqI a.most_ b.most_) = true then
        some false
      else
        if (!eqI a.yield_ b.yield_) = true then
          some false
        else
          if (!eqI a.store_ b.store_) = true then
            some false
          else
            if (!eqI a.first_ b.first_) = true then
              some false
            else
              if (!eqI a.loss_ b.loss_) = true then
                some false
              else
                some true
def eA14 (a : T24 × T24) : List V := [.agg (pT24 a.1), .agg (pT24 a.2)]
def eB14 (r : Bool) : V := .b r
theorem inj14 (a a' : T24 × T24) (h : eA14 a = eA14 a') : a = a' := by
  obtain ⟨⟨i225, i226, i227, i228, i229, i230, i231⟩, ⟨i232, i233, i234, i235, i236, i237, i238⟩⟩ := a
  obtain ⟨⟨i239, i240, i241, i242, i243, i244, i245⟩, ⟨i246, i247, i248, i249, i250, i251, i252⟩⟩ := a'
  simp only [eA14, pT24, List.cons.injEq, V.i.injEq, V.b.injEq, V.f.injEq, V.str.injEq, V.sl.injEq, V.agg.injEq, V.cptr.injEq, true_and, and_true] at h
  simp_all [ri ci_i64_inj]
noncomputable def F14 : List V → Option V := tells (fun a => g14 a.1 a.2) eA14 eB14
set_option maxRecDepth 100000 in
set_option maxHeartbeats 4000000 in
/- loop.example/g01229/laws.eqSeason -/
theorem ok14 : Tells Try.prog 14 F14 := by
  refine Tells.of (by kernel_rfl) ?_
  rintro ⟨a, b⟩ r h
  refine VCalls.nl (VCalls.of Try.func14 rfl rfl rfl ?_)
  rw [tm_init]
  simp only [eA14, en, List.length_cons, List.length_nil, Nat.reduceAdd, Nat.reduceSub]
  replace h : (g14 a b).bind some = some r := bindS h
  rw [g14] at h
  refine VW.seq ?_
  refine VW.evalA (C := [(19, F19)]) (tm 42 [(2, .ptr 0 0 0), (3, .ptr 1 0 0)]) [some (7, [(pT24 a)]), some (7, [(pT24 b)])] [] ⟨.inl ok19, trivial⟩ (by kernel_rfl) (by simp -implicitDefEqProofs) ?_
  refine VW.seq ?_
  refine VW.seq ?_
  obtain ⟨r1, q2, h⟩ := bindE h
  have c2 : F19 [.sl 1 (rows ci_i64 a.need_), .sl 1 (rows ci_i64 b.need_)] = some (.b r1) := tells_eq inj19 (a := (a.need_, b.need_)) q2
  refine VW.evalA (C := [(19, F19)]) (tm 42 [(2, .ptr 0 0 0), (3, .ptr 1 0 0), (10, .b (!r1))]) [some (7, [(pT24 a)]), some (7, [(pT24 b)])] [] ⟨.inl ok19, trivial⟩ (by kernel_rfl) (by simp -implicitDefEqProofs [c2]) ?_
  refine VW.condB (b := (!r1)) (by simp) (fun g3 => ?_) (fun g3 => ?_)
  · replace h := iteT g3 h
    refine VW.seq ?_
    refine VW.evalA (C := [(19, F19)]) (tm 42 [(4, .b false)]) [some (7, [(pT24 a)]), some (7, [(pT24 b)])] [] ⟨.inl ok19, trivial⟩ (by kernel_rfl) (by simp -implicitDefEqProofs) ?_
    obtain rfl := leafS h
    refine VW.ret (VRet.fin ?_)
    simp [eB14]
  · replace h := iteF g3 h
    refine VW.skip ?_
    refine VW.seq ?_
    refine VW.seq ?_
    obtain ⟨r4, q5, h⟩ := bindE h
    have c5 : F19 [.sl 1 (rows ci_i64 a.price_), .sl 1 (rows ci_i64 b.price_)] = some (.b r4) := tells_eq inj19 (a := (a.price_, b.price_)) q5
    refine VW.evalA (C := [(19, F19)]) (tm 42 [(2, .ptr 0 0 0), (3, .ptr 1 0 0), (16, .b (!r4))]) [some (7, [(pT24 a)]), some (7, [(pT24 b)])] [] ⟨.inl ok19, trivial⟩ (by kernel_rfl) (by simp -implicitDefEqProofs [c5]) ?_
    refine VW.condB (b := (!r4)) (by simp) (fun g6 => ?_) (fun g6 => ?_)
    · replace h := iteT g6 h
      refine VW.seq ?_
      refine VW.evalA (C := [(19, F19)]) (tm 42 [(4, .b false)]) [some (7, [(pT24 a)]), some (7, [(pT24 b)])] [] ⟨.inl ok19, trivial⟩ (by kernel_rfl) (by simp -implicitDefEqProofs) ?_
      obtain rfl := leafS h
      refine VW.ret (VRet.fin ?_)
      simp [eB14]
    · replace h := iteF g6 h
      refine VW.skip ?_
      refine VW.seq ?_
      refine VW.seq ?_
      refine VW.evalA (C := [(19, F19)]) (tm 42 [(2, .ptr 0 0 0), (3, .ptr 1 0 0), (21, .b (!eqI a.most_ b.most_))]) [some (7, [(pT24 a)]), some (7, [(pT24 b)])] [] ⟨.inl ok19, trivial⟩ (by kernel_rfl) (by simp -implicitDefEqProofs) ?_
      refine VW.condB (b := (!eqI a.most_ b.most_)) (by simp) (fun g7 => ?_) (fun g7 => ?_)
      · replace h := iteT g7 h
        refine VW.seq ?_
        refine VW.evalA (C := [(19, F19)]) (tm 42 [(4, .b false)]) [some (7, [(pT24 a)]), some (7, [(pT24 b)])] [] ⟨.inl ok19, trivial⟩ (by kernel_rfl) (by simp -implicitDefEqProofs) ?_
        obtain rfl := leafS h
        refine VW.ret (VRet.fin ?_)
        simp [eB14]
      · replace h := iteF g7 h
        refine VW.skip ?_
        refine VW.seq ?_
        refine VW.seq ?_
        refine VW.evalA (C := [(19, F19)]) (tm 42 [(2, .ptr 0 0 0), (3, .ptr 1 0 0), (26, .b (!eqI a.yield_ b.yield_))]) [some (7, [(pT24 a)]), some (7, [(pT24 b)])] [] ⟨.inl ok19, trivial⟩ (by kernel_rfl) (by simp -implicitDefEqProofs) ?_
        refine VW.condB (b := (!eqI a.yield_ b.yield_)) (by simp) (fun g8 => ?_) (fun g8 => ?_)
        · replace h := iteT g8 h
          refine VW.seq ?_
          refine VW.evalA (C := [(19, F19)]) (tm 42 [(4, .b false)]) [some (7, [(pT24 a)]), some (7, [(pT24 b)])] [] ⟨.inl ok19, trivial⟩ (by kernel_rfl) (by simp -implicitDefEqProofs) ?_
          obtain rfl := leafS h
          refine VW.ret (VRet.fin ?_)
          simp [eB14]
        · replace h := iteF g8 h
          refine VW.skip ?_
          refine VW.seq ?_
          refine VW.seq ?_
          refine VW.evalA (C := [(19, F19)]) (tm 42 [(2, .ptr 0 0 0), (3, .ptr 1 0 0), (31, .b (!eqI a.store_ b.store_))]) [some (7, [(pT24 a)]), some (7, [(pT24 b)])] [] ⟨.inl ok19, trivial⟩ (by kernel_rfl) (by simp -implicitDefEqProofs) ?_
          refine VW.condB (b := (!eqI a.store_ b.store_)) (by simp) (fun g9 => ?_) (fun g9 => ?_)
          · replace h := iteT g9 h
            refine VW.seq ?_
            refine VW.evalA (C := [(19, F19)]) (tm 42 [(4, .b false)]) [some (7, [(pT24 a)]), some (7, [(pT24 b)])] [] ⟨.inl ok19, trivial⟩ (by kernel_rfl) (by simp -implicitDefEqProofs) ?_
            obtain rfl := leafS h
            refine VW.ret (VRet.fin ?_)
            simp [eB14]
          · replace h := iteF g9 h
            refine VW.skip ?_
            refine VW.seq ?_
            refine VW.seq ?_
            refine VW.evalA (C := [(19, F19)]) (tm 42 [(2, .ptr 0 0 0), (3, .ptr 1 0 0), (36, .b (!eqI a.first_ b.first_))]) [some (7, [(pT24 a)]), some (7, [(pT24 b)])] [] ⟨.inl ok19, trivial⟩ (by kernel_rfl) (by simp -implicitDefEqProofs) ?_
            refine VW.condB (b := (!eqI a.first_ b.first_)) (by simp) (fun g10 => ?_) (fun g10 => ?_)
            · replace h := iteT g10 h
              refine VW.seq ?_
              refine VW.evalA (C := [(19, F19)]) (tm 42 [(4, .b false)]) [some (7, [(pT24 a)]), some (7, [(pT24 b)])] [] ⟨.inl ok19, trivial⟩ (by kernel_rfl) (by simp -implicitDefEqProofs) ?_
              obtain rfl := leafS h
              refine VW.ret (VRet.fin ?_)
              simp [eB14]
            · replace h := iteF g10 h
              refine VW.skip ?_
              refine VW.seq ?_
              refine VW.seq ?_
              refine VW.evalA (C := [(19, F19)]) (tm 42 [(41, .b (!eqI a.loss_ b.loss_))]) [some (7, [(pT24 a)]), some (7, [(pT24 b)])] [] ⟨.inl ok19, trivial⟩ (by kernel_rfl) (by simp -implicitDefEqProofs) ?_
              refine VW.condB (b := (!eqI a.loss_ b.loss_)) (by simp) (fun g11 => ?_) (fun g11 => ?_)
              · replace h := iteT g11 h
                refine VW.seq ?_
                refine VW.evalA (C := [(19, F19)]) (tm 42 [(4, .b false)]) [some (7, [(pT24 a)]), some (7, [(pT24 b)])] [] ⟨.inl ok19, trivial⟩ (by kernel_rfl) (by simp -implicitDefEqProofs) ?_
                obtain rfl := leafS h
                refine VW.ret (VRet.fin ?_)
                simp [eB14]
              · replace h := iteF g11 h
                refine VW.skip ?_
                refine VW.seq ?_
                refine VW.evalA (C := [(19, F19)]) (tm 42 [(4, .b true)]) [some (7, [(pT24 a)]), some (7, [(pT24 b)])] [] ⟨.inl ok19, trivial⟩ (by kernel_rfl) (by simp -implicitDefEqProofs) ?_
                obtain rfl := leafS h
                refine VW.ret (VRet.fin ?_)
                simp [eB14]
noncomputable def g15_j1 : Option (Bool) :=
  some true
noncomputable def g15_L1 (a : List (List Int)) (b : List (List Int)) : (Int) → Option ((Int) ⊕ ((Unit) ⊕ (Bool)))
  | i_45 =>
    if ltI i_45 (a.length : Int) = true then
      (idx a i_45).bind fun e47 =>
      (idx b i_45).bind fun e49 =>
      (g19 e47 e49).bind fun r51 =>
      if (!r51) = true then
        some (.inr (.inr false))
      else
        some (.inl (aI .i64 i_45 1))
    else
      some (.inr (.inl ()))
noncomputable def g15 (a : List (List Int)) (b : List (List Int)) : Option (Bool) :=
  if (!eqI (a.length : Int) (b.length : Int)) = true then
    some false
  else
    (loopO (g15_L1 a b) 0).bind fun w => match w with
      | .inl y => g15_j1
      | .inr r => some r
def eA15 (a : (List (List Int)) × (List (List Int))) : List V := [.sl 1 (rows cl_ci_i64 a.1), .sl 1 (rows cl_ci_i64 a.2)]
def eB15 (r : Bool) : V := .b r
theorem inj15 (a a' : (List (List Int)) × (List (List Int))) (h : eA15 a = eA15 a') : a = a' := by
  obtain ⟨i253, i254⟩ := a
  obtain ⟨i255, i256⟩ := a'
  simp only [eA15, List.cons.injEq, V.i.injEq, V.b.injEq, V.f.injEq, V.str.injEq, V.sl.injEq, V.agg.injEq, V.cptr.injEq, true_and, and_true] at h
  simp_all [ri cl_ci_i64_inj]
noncomputable def F15 : List V → Option V := tells (fun a => g15 a.1 a.2) eA15 eB15
set_option maxRecDepth 100000 in
set_option maxHeartbeats 4000000 in
/- loop.example/g01229/laws.eqInt64SS -/
theorem ok15 : Tells Try.prog 15 F15 := by
  refine Tells.of (by kernel_rfl) ?_
  rintro ⟨a, b⟩ r h
  refine VCalls.nl (VCalls.of Try.func15 rfl rfl rfl ?_)
  rw [tm_init]
  simp only [eA15, en, List.length_cons, List.length_nil, Nat.reduceAdd, Nat.reduceSub]
  replace h : (g15 a b).bind some = some r := bindS h
  rw [g15] at h
  refine VW.seq ?_
  refine VW.evalA (C := [(19, F19)]) (tm 27 [(0, .sl 1 (rows cl_ci_i64 a)), (1, .sl 1 (rows cl_ci_i64 b))]) [] [] ⟨.inl ok19, trivial⟩ (by kernel_rfl) (by simp -implicitDefEqProofs) ?_
  refine VW.seq ?_
  refine VW.seq ?_
  refine VW.evalA (C := [(19, F19)]) (tm 27 [(0, .sl 1 (rows cl_ci_i64 a)), (1, .sl 1 (rows cl_ci_i64 b)), (10, .b (!eqI (a.length : Int) (b.length : Int)))]) [] [] ⟨.inl ok19, trivial⟩ (by kernel_rfl) (by simp -implicitDefEqProofs) ?_
  refine VW.condB (b := (!eqI (a.length : Int) (b.length : Int))) (by simp) (fun g1 => ?_) (fun g1 => ?_)
  · replace h := iteT g1 h
    refine VW.seq ?_
    refine VW.evalA (C := [(19, F19)]) (tm 27 [(4, .b false)]) [] [] ⟨.inl ok19, trivial⟩ (by kernel_rfl) (by simp -implicitDefEqProofs) ?_
    obtain rfl := leafS h
    refine VW.ret (VRet.fin ?_)
    simp [eB15]
  · replace h := iteF g1 h
    refine VW.skip ?_
    refine VW.join (fun (v : Unit) => (⟨(tm 27 []), [], []⟩ : VS)) (fun v => (g15_j1).bind some = some r) ?_ ?_
    · refine VW.seq ?_
      refine VW.evalA (C := [(19, F19)]) (tm 27 [(0, .sl 1 (rows cl_ci_i64 a)), (1, .sl 1 (rows cl_ci_i64 b)), (5, .i .i64 0)]) [] [] ⟨.inl ok19, trivial⟩ (by kernel_rfl) (by simp -implicitDefEqProofs) ?_
      refine VW.block ?_
      obtain ⟨w_1, hw_1, h⟩ := bindE h
      refine VW.loopO (fun (x : Int) => (⟨(tm 27 [(0, .sl 1 (rows cl_ci_i64 a)), (1, .sl 1 (rows cl_ci_i64 b)), (5, .i .i64 x)]), [], []⟩ : VS)) hw_1 (Ent.to 0 (by simp [fgt]) (by simp) (by simp) (by simp [bndT, bndV]) (by simp [bndM, bndV])) ?_
      rintro n_1 i_45 h1
      rw [g15_L1] at h1
      refine VW.seq ?_
      refine VW.seq ?_
      refine VW.evalA (C := [(19, F19)]) (tm 27 [(0, .sl 1 (rows cl_ci_i64 a)), (1, .sl 1 (rows cl_ci_i64 b)), (5, .i .i64 i_45), (14, .b (ltI i_45 (a.length : Int)))]) [] [] ⟨.inl ok19, trivial⟩ (by kernel_rfl) (by simp -implicitDefEqProofs) ?_
      refine VW.condB (b := ltI i_45 (a.length : Int)) (by simp) (fun g46 => ?_) (fun g46 => ?_)
      · replace h1 := iteT g46 h1
        refine VW.skip ?_
        refine VW.seq ?_
        refine VW.block ?_
        refine VW.seq ?_
        obtain ⟨e47, q48, h1⟩ := bindE h1
        obtain ⟨f48a, f48b, f48c, f48d⟩ := idx_some q48
        obtain ⟨e49, q50, h1⟩ := bindE h1
        obtain ⟨f50a, f50b, f50c, f50d⟩ := idx_some q50
        obtain ⟨r51, q52, h1⟩ := bindE h1
        have c52 : F19 [.sl 1 (rows ci_i64 e47), .sl 1 (rows ci_i64 e49)] = some (.b r51) := tells_eq inj19 (a := (e47, e49)) q52
        refine VW.evalDA (C := [(19, F19)]) (tm 27 [(0, .sl 1 (rows cl_ci_i64 a)), (1, .sl 1 (rows cl_ci_i64 b)), (5, .i .i64 i_45), (26, .b (!r51))]) [] [] ⟨.inl ok19, trivial⟩ mixed (by kernel_rfl) (by simp -implicitDefEqProofs [f48a, f48b, f48c, f48d, f50a, f50b, f50c, f50d, c52]) ?_
        refine VW.condB (b := (!r51)) (by simp) (fun g53 => ?_) (fun g53 => ?_)
        · replace h1 := iteT g53 h1
          refine VW.seq ?_
          refine VW.evalA (C := [(19, F19)]) (tm 27 [(4, .b false)]) [] [] ⟨.inl ok19, trivial⟩ (by kernel_rfl) (by simp -implicitDefEqProofs) ?_
          have e_ := leafR h1
          subst w_1
          obtain rfl := leafS h
          refine VW.ret (VRet.fin ?_)
          simp [eB15]
        · replace h1 := iteF g53 h1
          refine VW.skip ?_
          refine VW.evalA (C := [(19, F19)]) (tm 27 [(0, .sl 1 (rows cl_ci_i64 a)), (1, .sl 1 (rows cl_ci_i64 b)), (5, .i .i64 (aI .i64 i_45 1))]) [] [] ⟨.inl ok19, trivial⟩ (by kernel_rfl) (by simp -implicitDefEqProofs) ?_
          exact (show ∃ _, _ from ⟨aI .i64 i_45 1, leafL h1, (Ent.to 0 (by simp [fgt]) (by simp) (by simp) (by simp [bndT, bndV]) (by simp [bndM, bndV]))⟩)
      · replace h1 := iteF g46 h1
        refine VW.exit ?_
        have e_ := leafR h1
        subst w_1
        exact (show ∃ _, _ from ⟨(), h, (Ent.to 0 (by simp [fgt]) (by simp) (by simp) (by simp [bndT, bndV]) (by simp [bndM, bndV]))⟩)
    · rintro _ h
      replace h : (g15_j1).bind _ = _ := h
      rw [g15_j1] at h
      refine VW.seq ?_
      refine VW.evalA (C := [(19, F19)]) (tm 27 [(4, .b true)]) [] [] ⟨.inl ok19, trivial⟩ (by kernel_rfl) (by simp -implicitDefEqProofs) ?_
      obtain rfl := leafS h
      refine VW.ret (VRet.fin ?_)
      simp [eB15]
noncomputable def g3 (aS : T24) (aTable : List (List Int)) : Option (Bool) :=
  (g8 aS 1048576).bind fun r1 =>
  if ltI r1 0 = true then
    some true
  else
    (g9 aTable r1).bind fun r4 =>
    if ltI r4 0 = true then
      some true
    else
      (g11 aS).bind fun r7 =>
      (g12 aTable).bind fun r9 =>
      (g10 r7 r9).bind fun r11 =>
      (g11 aS).bind fun r13 =>
      (g12 aTable).bind fun r15 =>
      (g13 r13 r15).bind fun r17 =>
      if ((((!eqI r17.1 r11.1) || (!eqI r17.2.1 r11.2.1)) || (!eqI r17.2.2.1 r11.2.2.1)) || (!eqI r17.2.2.2 r11.2.2.2)) = true then
        some false
      else
        (g11 aS).bind fun r20 =>
        (g14 r13 r20).bind fun r22 =>
        if (!r22) = true then
          some false
        else
          (g12 aTable).bind fun r25 =>
          (g15 r15 r25).bind fun r27 =>
          if (!r27) = true then
            some false
          else
            some true
def eA3 (a : T24 × (List (List Int))) : List V := [.agg (pT24 a.1), .sl 1 (rows cl_ci_i64 a.2)]
def eB3 (r : Bool) : V := .b r
theorem inj3 (a a' : T24 × (List (List Int))) (h : eA3 a = eA3 a') : a = a' := by
  obtain ⟨⟨i257, i258, i259, i260, i261, i262, i263⟩, i264⟩ := a
  obtain ⟨⟨i265, i266, i267, i268, i269, i270, i271⟩, i272⟩ := a'
  simp only [eA3, pT24, List.cons.injEq, V.i.injEq, V.b.injEq, V.f.injEq, V.str.injEq, V.sl.injEq, V.agg.injEq, V.cptr.injEq, true_and, and_true] at h
  simp_all [ri ci_i64_inj, ri cl_ci_i64_inj]
noncomputable def F3 : List V → Option V := tells (fun a => g3 a.1 a.2) eA3 eB3
set_option maxRecDepth 100000 in
set_option maxHeartbeats 4000000 in
/- loop.example/g01229/laws.FnExactFirstFlaw -/
theorem ok3 : Tells Try.prog 3 F3 := by
  refine Tells.of (by kernel_rfl) ?_
  rintro ⟨aS, aTable⟩ r h
  refine VCalls.nl (VCalls.of Try.func3 rfl rfl rfl ?_)
  rw [tm_init]
  simp only [eA3, en, List.length_cons, List.length_nil, Nat.reduceAdd, Nat.reduceSub]
  replace h : (g3 aS aTable).bind some = some r := bindS h
  rw [g3] at h
  refine VW.seq ?_
  refine VW.evalA (C := [(8, F8), (9, F9), (10, F10), (11, F11), (12, F12), (13, F13), (14, F14), (15, F15)]) (tm 76 [(1, .sl 1 (rows cl_ci_i64 aTable)), (2, .ptr 0 0 0)]) [some (7, [(pT24 aS)])] [] ⟨.inl ok8, .inl ok9, .inl ok10, .inl ok11, .inl ok12, .inl ok13, .inl ok14, .inl ok15, trivial⟩ (by kernel_rfl) (by simp -implicitDefEqProofs) ?_
  refine VW.seq ?_
  refine VW.evalA (C := [(8, F8), (9, F9), (10, F10), (11, F11), (12, F12), (13, F13), (14, F14), (15, F15)]) (tm 76 [(1, .sl 1 (rows cl_ci_i64 aTable)), (2, .ptr 0 0 0), (5, .i .i64 1048576)]) [some (7, [(pT24 aS)])] [] ⟨.inl ok8, .inl ok9, .inl ok10, .inl ok11, .inl ok12, .inl ok13, .inl ok14, .inl ok15, trivial⟩ (by kernel_rfl) (by simp -implicitDefEqProofs) ?_
  refine VW.seq ?_
  obtain ⟨r1, q2, h⟩ := bindE h
  have c2 : F8 [.agg (pT24 aS), .i .i64 1048576] = some (.i .i64 r1) := tells_eq inj8 (a := (aS, 1048576)) q2
  refine VW.evalA (C := [(8, F8), (9, F9), (10, F10), (11, F11), (12, F12), (13, F13), (14, F14), (15, F15)]) (tm 76 [(1, .sl 1 (rows cl_ci_i64 aTable)), (2, .ptr 0 0 0), (5, .i .i64 r1)]) [some (7, [(pT24 aS)])] [] ⟨.inl ok8, .inl ok9, .inl ok10, .inl ok11, .inl ok12, .inl ok13, .inl ok14, .inl ok15, trivial⟩ (by kernel_rfl) (by simp -implicitDefEqProofs [c2]) ?_
  refine VW.seq ?_
  refine VW.seq ?_
  refine VW.evalA (C := [(8, F8), (9, F9), (10, F10), (11, F11), (12, F12), (13, F13), (14, F14), (15, F15)]) (tm 76 [(1, .sl 1 (rows cl_ci_i64 aTable)), (2, .ptr 0 0 0), (5, .i .i64 r1), (20, .b (ltI r1 0))]) [some (7, [(pT24 aS)])] [] ⟨.inl ok8, .inl ok9, .inl ok10, .inl ok11, .inl ok12, .inl ok13, .inl ok14, .inl ok15, trivial⟩ (by kernel_rfl) (by simp -implicitDefEqProofs) ?_
  refine VW.condB (b := ltI r1 0) (by simp) (fun g3 => ?_) (fun g3 => ?_)
  · replace h := iteT g3 h
    refine VW.seq ?_
    refine VW.evalA (C := [(8, F8), (9, F9), (10, F10), (11, F11), (12, F12), (13, F13), (14, F14), (15, F15)]) (tm 76 [(4, .b true)]) [some (7, [(pT24 aS)])] [] ⟨.inl ok8, .inl ok9, .inl ok10, .inl ok11, .inl ok12, .inl ok13, .inl ok14, .inl ok15, trivial⟩ (by kernel_rfl) (by simp -implicitDefEqProofs) ?_
    obtain rfl := leafS h
    refine VW.ret (VRet.fin ?_)
    simp [eB3]
  · replace h := iteF g3 h
    refine VW.skip ?_
    refine VW.seq ?_
    obtain ⟨r4, q5, h⟩ := bindE h
    have c5 : F9 [.sl 1 (rows cl_ci_i64 aTable), .i .i64 r1] = some (.i .i64 r4) := tells_eq inj9 (a := (aTable, r1)) q5
    refine VW.evalA (C := [(8, F8), (9, F9), (10, F10), (11, F11), (12, F12), (13, F13), (14, F14), (15, F15)]) (tm 76 [(1, .sl 1 (rows cl_ci_i64 aTable)), (2, .ptr 0 0 0), (5, .i .i64 r4)]) [some (7, [(pT24 aS)])] [] ⟨.inl ok8, .inl ok9, .inl ok10, .inl ok11, .inl ok12, .inl ok13, .inl ok14, .inl ok15, trivial⟩ (by kernel_rfl) (by simp -implicitDefEqProofs [c5]) ?_
    refine VW.seq ?_
    refine VW.seq ?_
    refine VW.evalA (C := [(8, F8), (9, F9), (10, F10), (11, F11), (12, F12), (13, F13), (14, F14), (15, F15)]) (tm 76 [(1, .sl 1 (rows cl_ci_i64 aTable)), (2, .ptr 0 0 0), (25, .b (ltI r4 0))]) [some (7, [(pT24 aS)])] [] ⟨.inl ok8, .inl ok9, .inl ok10, .inl ok11, .inl ok12, .inl ok13, .inl ok14, .inl ok15, trivial⟩ (by kernel_rfl) (by simp -implicitDefEqProofs) ?_
    refine VW.condB (b := ltI r4 0) (by simp) (fun g6 => ?_) (fun g6 => ?_)
    · replace h := iteT g6 h
      refine VW.seq ?_
      refine VW.evalA (C := [(8, F8), (9, F9), (10, F10), (11, F11), (12, F12), (13, F13), (14, F14), (15, F15)]) (tm 76 [(4, .b true)]) [some (7, [(pT24 aS)])] [] ⟨.inl ok8, .inl ok9, .inl ok10, .inl ok11, .inl ok12, .inl ok13, .inl ok14, .inl ok15, trivial⟩ (by kernel_rfl) (by simp -implicitDefEqProofs) ?_
      obtain rfl := leafS h
      refine VW.ret (VRet.fin ?_)
      simp [eB3]
    · replace h := iteF g6 h
      refine VW.skip ?_
      refine VW.seq ?_
      obtain ⟨r7, q8, h⟩ := bindE h
      have c8 : F11 [.agg (pT24 aS)] = some (.agg [.own 1 (rows ci_i64 r7.need_), .own 1 (rows ci_i64 r7.price_), .i .i64 r7.most_, .i .i64 r7.yield_, .i .i64 r7.store_, .i .i64 r7.first_, .i .i64 r7.loss_]) := tells_eq inj11 (a := aS) q8
      obtain ⟨r9, q10, h⟩ := bindE h
      have c10 : F12 [.sl 1 (rows cl_ci_i64 aTable)] = some (.own 1 (rows cl_ci_i64o r9)) := tells_eq inj12 (a := aTable) q10
      obtain ⟨r11, q12, h⟩ := bindE h
      have c12 : F10 [.agg [.sl 1 (rows ci_i64 r7.need_), .sl 1 (rows ci_i64 r7.price_), .i .i64 r7.most_, .i .i64 r7.yield_, .i .i64 r7.store_, .i .i64 r7.first_, .i .i64 r7.loss_], .sl 1 (rows cl_ci_i64 r9)] = some (.tup [.i .i64 r11.1, .i .i64 r11.2.1, .i .i64 r11.2.2.1, .i .i64 r11.2.2.2]) := tells_eq inj10 (a := (r7, r9)) q12
      refine VW.evalA (C := [(8, F8), (9, F9), (10, F10), (11, F11), (12, F12), (13, F13), (14, F14), (15, F15)]) (tm 76 [(1, .sl 1 (rows cl_ci_i64 aTable)), (2, .ptr 0 0 0), (6, .i .i64 r11.1), (7, .i .i64 r11.2.1), (8, .i .i64 r11.2.2.1), (9, .i .i64 r11.2.2.2)]) [some (7, [(pT24 aS)]), some (1, rows ci_i64 r7.need_), some (1, rows ci_i64 r7.price_), some (1, rows cl_ci_i64 r9)] [] ⟨.inl ok8, .inl ok9, .inl ok10, .inl ok11, .inl ok12, .inl ok13, .inl ok14, .inl ok15, trivial⟩ (by kernel_rfl) (by simp -implicitDefEqProofs [c8, c10, c12]) ?_
      refine VW.seq ?_
      obtain ⟨r13, q14, h⟩ := bindE h
      have c14 : F11 [.agg (pT24 aS)] = some (.agg [.own 1 (rows ci_i64 r13.need_), .own 1 (rows ci_i64 r13.price_), .i .i64 r13.most_, .i .i64 r13.yield_, .i .i64 r13.store_, .i .i64 r13.first_, .i .i64 r13.loss_]) := tells_eq inj11 (a := aS) q14
      refine VW.evalA (C := [(8, F8), (9, F9), (10, F10), (11, F11), (12, F12), (13, F13), (14, F14), (15, F15)]) (tm 76 [(1, .sl 1 (rows cl_ci_i64 aTable)), (2, .ptr 0 0 0), (6, .i .i64 r11.1), (7, .i .i64 r11.2.1), (8, .i .i64 r11.2.2.1), (9, .i .i64 r11.2.2.2), (10, .ptr 6 0 0)]) [some (7, [(pT24 aS)]), some (1, rows ci_i64 r7.need_), some (1, rows ci_i64 r7.price_), some (1, rows cl_ci_i64 r9), some (1, rows ci_i64 r13.need_), some (1, rows ci_i64 r13.price_), some (7, [[.ref 4 0 r13.need_.length, .ref 5 0 r13.price_.length, .i .i64 r13.most_, .i .i64 r13.yield_, .i .i64 r13.store_, .i .i64 r13.first_, .i .i64 r13.loss_]])] [] ⟨.inl ok8, .inl ok9, .inl ok10, .inl ok11, .inl ok12, .inl ok13, .inl ok14, .inl ok15, trivial⟩ (by kernel_rfl) (by simp -implicitDefEqProofs [c14]) ?_
      refine VW.seq ?_
      obtain ⟨r15, q16, h⟩ := bindE h
      have c16 : F12 [.sl 1 (rows cl_ci_i64 aTable)] = some (.own 1 (rows cl_ci_i64o r15)) := tells_eq inj12 (a := aTable) q16
      refine VW.evalA (C := [(8, F8), (9, F9), (10, F10), (11, F11), (12, F12), (13, F13), (14, F14), (15, F15)]) (tm 76 [(1, .sl 1 (rows cl_ci_i64 aTable)), (2, .ptr 0 0 0), (6, .i .i64 r11.1), (7, .i .i64 r11.2.1), (8, .i .i64 r11.2.2.1), (9, .i .i64 r11.2.2.2), (10, .ptr 6 0 0), (11, .ref 7 0 r15.length)]) [some (7, [(pT24 aS)]), some (1, rows ci_i64 r7.need_), some (1, rows ci_i64 r7.price_), some (1, rows cl_ci_i64 r9), some (1, rows ci_i64 r13.need_), some (1, rows ci_i64 r13.price_), some (7, [[.ref 4 0 r13.need_.length, .ref 5 0 r13.price_.length, .i .i64 r13.most_, .i .i64 r13.yield_, .i .i64 r13.store_, .i .i64 r13.first_, .i .i64 r13.loss_]]), some (1, rows cl_ci_i64 r15)] [] ⟨.inl ok8, .inl ok9, .inl ok10, .inl ok11, .inl ok12, .inl ok13, .inl ok14, .inl ok15, trivial⟩ (by kernel_rfl) (by simp -implicitDefEqProofs [c16]) ?_
      refine VW.seq ?_
      obtain ⟨r17, q18, h⟩ := bindE h
      have c18 : F13 [.agg [.sl 1 (rows ci_i64 r13.need_), .sl 1 (rows ci_i64 r13.price_), .i .i64 r13.most_, .i .i64 r13.yield_, .i .i64 r13.store_, .i .i64 r13.first_, .i .i64 r13.loss_], .sl 1 (rows cl_ci_i64 r15)] = some (.tup [.i .i64 r17.1, .i .i64 r17.2.1, .i .i64 r17.2.2.1, .i .i64 r17.2.2.2]) := tells_eq inj13 (a := (r13, r15)) q18
      refine VW.evalA (C := [(8, F8), (9, F9), (10, F10), (11, F11), (12, F12), (13, F13), (14, F14), (15, F15)]) (tm 76 [(1, .sl 1 (rows cl_ci_i64 aTable)), (2, .ptr 0 0 0), (6, .i .i64 r11.1), (7, .i .i64 r11.2.1), (8, .i .i64 r11.2.2.1), (9, .i .i64 r11.2.2.2), (10, .ptr 6 0 0), (11, .ref 7 0 r15.length), (12, .i .i64 r17.1), (13, .i .i64 r17.2.1), (14, .i .i64 r17.2.2.1), (15, .i .i64 r17.2.2.2)]) [some (7, [(pT24 aS)]), some (1, rows ci_i64 r7.need_), some (1, rows ci_i64 r7.price_), some (1, rows cl_ci_i64 r9), some (1, rows ci_i64 r13.need_), some (1, rows ci_i64 r13.price_), some (7, [[.ref 4 0 r13.need_.length, .ref 5 0 r13.price_.length, .i .i64 r13.most_, .i .i64 r13.yield_, .i .i64 r13.store_, .i .i64 r13.first_, .i .i64 r13.loss_]]), some (1, rows cl_ci_i64 r15)] [] ⟨.inl ok8, .inl ok9, .inl ok10, .inl ok11, .inl ok12, .inl ok13, .inl ok14, .inl ok15, trivial⟩ (by kernel_rfl) (by simp -implicitDefEqProofs [c18]) ?_
      refine VW.seq ?_
      refine VW.seq ?_
      refine VW.evalA (C := [(8, F8), (9, F9), (10, F10), (11, F11), (12, F12), (13, F13), (14, F14), (15, F15)]) (tm 76 [(1, .sl 1 (rows cl_ci_i64 aTable)), (2, .ptr 0 0 0), (10, .ptr 6 0 0), (11, .ref 7 0 r15.length), (65, .b ((((!eqI r17.1 r11.1) || (!eqI r17.2.1 r11.2.1)) || (!eqI r17.2.2.1 r11.2.2.1)) || (!eqI r17.2.2.2 r11.2.2.2)))]) [some (7, [(pT24 aS)]), some (1, rows ci_i64 r7.need_), some (1, rows ci_i64 r7.price_), some (1, rows cl_ci_i64 r9), some (1, rows ci_i64 r13.need_), some (1, rows ci_i64 r13.price_), some (7, [[.ref 4 0 r13.need_.length, .ref 5 0 r13.price_.length, .i .i64 r13.most_, .i .i64 r13.yield_, .i .i64 r13.store_, .i .i64 r13.first_, .i .i64 r13.loss_]]), some (1, rows cl_ci_i64 r15)] [] ⟨.inl ok8, .inl ok9, .inl ok10, .inl ok11, .inl ok12, .inl ok13, .inl ok14, .inl ok15, trivial⟩ (by kernel_rfl) (by simp -implicitDefEqProofs) ?_
      refine VW.condB (b := ((((!eqI r17.1 r11.1) || (!eqI r17.2.1 r11.2.1)) || (!eqI r17.2.2.1 r11.2.2.1)) || (!eqI r17.2.2.2 r11.2.2.2))) (by simp) (fun g19 => ?_) (fun g19 => ?_)
      · replace h := iteT g19 h
        refine VW.seq ?_
        refine VW.evalA (C := [(8, F8), (9, F9), (10, F10), (11, F11), (12, F12), (13, F13), (14, F14), (15, F15)]) (tm 76 [(4, .b false)]) [some (7, [(pT24 aS)]), some (1, rows ci_i64 r7.need_), some (1, rows ci_i64 r7.price_), some (1, rows cl_ci_i64 r9), some (1, rows ci_i64 r13.need_), some (1, rows ci_i64 r13.price_), some (7, [[.ref 4 0 r13.need_.length, .ref 5 0 r13.price_.length, .i .i64 r13.most_, .i .i64 r13.yield_, .i .i64 r13.store_, .i .i64 r13.first_, .i .i64 r13.loss_]]), some (1, rows cl_ci_i64 r15)] [] ⟨.inl ok8, .inl ok9, .inl ok10, .inl ok11, .inl ok12, .inl ok13, .inl ok14, .inl ok15, trivial⟩ (by kernel_rfl) (by simp -implicitDefEqProofs) ?_
        obtain rfl := leafS h
        refine VW.ret (VRet.fin ?_)
        simp [eB3]
      · replace h := iteF g19 h
        refine VW.skip ?_
        refine VW.seq ?_
        refine VW.seq ?_
        obtain ⟨r20, q21, h⟩ := bindE h
        have c21 : F11 [.agg (pT24 aS)] = some (.agg [.own 1 (rows ci_i64 r20.need_), .own 1 (rows ci_i64 r20.price_), .i .i64 r20.most_, .i .i64 r20.yield_, .i .i64 r20.store_, .i .i64 r20.first_, .i .i64 r20.loss_]) := tells_eq inj11 (a := aS) q21
        obtain ⟨r22, q23, h⟩ := bindE h
        have c23 : F14 [.agg [.sl 1 (rows ci_i64 r13.need_), .sl 1 (rows ci_i64 r13.price_), .i .i64 r13.most_, .i .i64 r13.yield_, .i .i64 r13.store_, .i .i64 r13.first_, .i .i64 r13.loss_], .agg [.sl 1 (rows ci_i64 r20.need_), .sl 1 (rows ci_i64 r20.price_), .i .i64 r20.most_, .i .i64 r20.yield_, .i .i64 r20.store_, .i .i64 r20.first_, .i .i64 r20.loss_]] = some (.b r22) := tells_eq inj14 (a := (r13, r20)) q23
        refine VW.evalDA (C := [(8, F8), (9, F9), (10, F10), (11, F11), (12, F12), (13, F13), (14, F14), (15, F15)]) (tm 76 [(1, .sl 1 (rows cl_ci_i64 aTable)), (11, .ref 7 0 r15.length), (70, .b (!r22))]) [some (7, [(pT24 aS)]), some (1, rows ci_i64 r7.need_), some (1, rows ci_i64 r7.price_), some (1, rows cl_ci_i64 r9), some (1, rows ci_i64 r13.need_), some (1, rows ci_i64 r13.price_), some (7, [[.ref 4 0 r13.need_.length, .ref 5 0 r13.price_.length, .i .i64 r13.most_, .i .i64 r13.yield_, .i .i64 r13.store_, .i .i64 r13.first_, .i .i64 r13.loss_]]), some (1, rows cl_ci_i64 r15), some (1, rows ci_i64 r20.need_), some (1, rows ci_i64 r20.price_)] [] ⟨.inl ok8, .inl ok9, .inl ok10, .inl ok11, .inl ok12, .inl ok13, .inl ok14, .inl ok15, trivial⟩ mixed (by kernel_rfl) (by simp -implicitDefEqProofs [c21, c23]) ?_
        refine VW.condB (b := (!r22)) (by simp) (fun g24 => ?_) (fun g24 => ?_)
        · replace h := iteT g24 h
          refine VW.seq ?_
          refine VW.evalA (C := [(8, F8), (9, F9), (10, F10), (11, F11), (12, F12), (13, F13), (14, F14), (15, F15)]) (tm 76 [(4, .b false)]) [some (7, [(pT24 aS)]), some (1, rows ci_i64 r7.need_), some (1, rows ci_i64 r7.price_), some (1, rows cl_ci_i64 r9), some (1, rows ci_i64 r13.need_), some (1, rows ci_i64 r13.price_), some (7, [[.ref 4 0 r13.need_.length, .ref 5 0 r13.price_.length, .i .i64 r13.most_, .i .i64 r13.yield_, .i .i64 r13.store_, .i .i64 r13.first_, .i .i64 r13.loss_]]), some (1, rows cl_ci_i64 r15), some (1, rows ci_i64 r20.need_), some (1, rows ci_i64 r20.price_)] [] ⟨.inl ok8, .inl ok9, .inl ok10, .inl ok11, .inl ok12, .inl ok13, .inl ok14, .inl ok15, trivial⟩ (by kernel_rfl) (by simp -implicitDefEqProofs) ?_
          obtain rfl := leafS h
          refine VW.ret (VRet.fin ?_)
          simp [eB3]
        · replace h := iteF g24 h
          refine VW.skip ?_
          refine VW.seq ?_
          refine VW.seq ?_
          obtain ⟨r25, q26, h⟩ := bindE h
          have c26 : F12 [.sl 1 (rows cl_ci_i64 aTable)] = some (.own 1 (rows cl_ci_i64o r25)) := tells_eq inj12 (a := aTable) q26
          obtain ⟨r27, q28, h⟩ := bindE h
          have c28 : F15 [.sl 1 (rows cl_ci_i64 r15), .sl 1 (rows cl_ci_i64 r25)] = some (.b r27) := tells_eq inj15 (a := (r15, r25)) q28
          refine VW.evalA (C := [(8, F8), (9, F9), (10, F10), (11, F11), (12, F12), (13, F13), (14, F14), (15, F15)]) (tm 76 [(75, .b (!r27))]) [some (7, [(pT24 aS)]), some (1, rows ci_i64 r7.need_), some (1, rows ci_i64 r7.price_), some (1, rows cl_ci_i64 r9), some (1, rows ci_i64 r13.need_), some (1, rows ci_i64 r13.price_), some (7, [[.ref 4 0 r13.need_.length, .ref 5 0 r13.price_.length, .i .i64 r13.most_, .i .i64 r13.yield_, .i .i64 r13.store_, .i .i64 r13.first_, .i .i64 r13.loss_]]), some (1, rows cl_ci_i64 r15), some (1, rows ci_i64 r20.need_), some (1, rows ci_i64 r20.price_), some (1, rows cl_ci_i64 r25)] [] ⟨.inl ok8, .inl ok9, .inl ok10, .inl ok11, .inl ok12, .inl ok13, .inl ok14, .inl ok15, trivial⟩ (by kernel_rfl) (by simp -implicitDefEqProofs [c26, c28]) ?_
          refine VW.condB (b := (!r27)) (by simp) (fun g29 => ?_) (fun g29 => ?_)
          · replace h := iteT g29 h
            refine VW.seq ?_
            refine VW.evalA (C := [(8, F8), (9, F9), (10, F10), (11, F11), (12, F12), (13, F13), (14, F14), (15, F15)]) (tm 76 [(4, .b false)]) [some (7, [(pT24 aS)]), some (1, rows ci_i64 r7.need_), some (1, rows ci_i64 r7.price_), some (1, rows cl_ci_i64 r9), some (1, rows ci_i64 r13.need_), some (1, rows ci_i64 r13.price_), some (7, [[.ref 4 0 r13.need_.length, .ref 5 0 r13.price_.length, .i .i64 r13.most_, .i .i64 r13.yield_, .i .i64 r13.store_, .i .i64 r13.first_, .i .i64 r13.loss_]]), some (1, rows cl_ci_i64 r15), some (1, rows ci_i64 r20.need_), some (1, rows ci_i64 r20.price_), some (1, rows cl_ci_i64 r25)] [] ⟨.inl ok8, .inl ok9, .inl ok10, .inl ok11, .inl ok12, .inl ok13, .inl ok14, .inl ok15, trivial⟩ (by kernel_rfl) (by simp -implicitDefEqProofs) ?_
            obtain rfl := leafS h
            refine VW.ret (VRet.fin ?_)
            simp [eB3]
          · replace h := iteF g29 h
            refine VW.skip ?_
            refine VW.seq ?_
            refine VW.evalA (C := [(8, F8), (9, F9), (10, F10), (11, F11), (12, F12), (13, F13), (14, F14), (15, F15)]) (tm 76 [(4, .b true)]) [some (7, [(pT24 aS)]), some (1, rows ci_i64 r7.need_), some (1, rows ci_i64 r7.price_), some (1, rows cl_ci_i64 r9), some (1, rows ci_i64 r13.need_), some (1, rows ci_i64 r13.price_), some (7, [[.ref 4 0 r13.need_.length, .ref 5 0 r13.price_.length, .i .i64 r13.most_, .i .i64 r13.yield_, .i .i64 r13.store_, .i .i64 r13.first_, .i .i64 r13.loss_]]), some (1, rows cl_ci_i64 r15), some (1, rows ci_i64 r20.need_), some (1, rows ci_i64 r20.price_), some (1, rows cl_ci_i64 r25)] [] ⟨.inl ok8, .inl ok9, .inl ok10, .inl ok11, .inl ok12, .inl ok13, .inl ok14, .inl ok15, trivial⟩ (by kernel_rfl) (by simp -implicitDefEqProofs) ?_
            obtain rfl := leafS h
            refine VW.ret (VRet.fin ?_)
            simp [eB3]
noncomputable def g60_j1 (l38 : List Int) : Option ((List Int) × Int) :=
  some (l38, 0)
noncomputable def g60_L1 (plan : List Int) (s : T24) : (Int × Int × (List Int)) → Option ((Int × Int × (List Int)) ⊕ ((List Int) ⊕ ((List Int) × Int)))
  | (at_58, k_59, l60) =>
    if ltI k_59 (plan.length : Int) = true then
      (idx plan k_59).bind fun e62 =>
      (g58 s k_59 at_58 e62).bind fun r64 =>
      if ltI r64 0 = true then
        some (.inr (.inr ([], 4)))
      else
        (appK 8 l60 [r64]).bind fun u67 =>
        some (.inl (r64, aI .i64 k_59 1, (l60 ++ [r64])))
    else
      some (.inr (.inl l60))
noncomputable def g60 (s : T24) (plan : List Int) : Option ((List Int) × Int) :=
  (g39 s).bind fun r1 =>
  if (!r1) = true then
    some ([], 1)
  else
    (if (!eqI (plan.length : Int) (s.need_.length : Int)) = true then some true else (g57 plan s.most_).bind fun r4 => some (!r4)).bind fun w6 =>
    if w6 = true then
      some ([], 2)
    else
      (loopO (g60_L1 plan s) (s.first_, 0, [])).bind fun w => match w with
        | .inl y => g60_j1 y
        | .inr r => some r
def eA60 (a : T24 × (List Int)) : List V := [.cptr (pT24 a.1) 0, .sl 1 (rows ci_i64 a.2)]
def eB60 (r : (List Int) × Int) : V := .tup [.own 1 (rows ci_i64 r.1), .i .i64 r.2]
theorem inj60 (a a' : T24 × (List Int)) (h : eA60 a = eA60 a') : a = a' := by
  obtain ⟨⟨i273, i274, i275, i276, i277, i278, i279⟩, i280⟩ := a
  obtain ⟨⟨i281, i282, i283, i284, i285, i286, i287⟩, i288⟩ := a'
  simp only [eA60, pT24, List.cons.injEq, V.i.injEq, V.b.injEq, V.f.injEq, V.str.injEq, V.sl.injEq, V.agg.injEq, V.cptr.injEq, true_and, and_true] at h
  simp_all [ri ci_i64_inj]
noncomputable def F60 : List V → Option V := tells (fun a => g60 a.1 a.2) eA60 eB60
set_option maxRecDepth 100000 in
set_option maxHeartbeats 4000000 in
/- loop.example/g01229/spec.l07Stores -/
theorem ok60 : Tells Try.prog 60 F60 := by
  refine Tells.of (by kernel_rfl) ?_
  rintro ⟨s, plan⟩ r h
  refine VCalls.nl (VCalls.of Try.func60 rfl rfl rfl ?_)
  rw [tm_init]
  simp only [eA60, en, List.length_cons, List.length_nil, Nat.reduceAdd, Nat.reduceSub]
  replace h : (g60 s plan).bind some = some r := bindS h
  rw [g60] at h
  refine VW.seq ?_
  refine VW.evalA (C := [(39, F39), (57, F57), (58, F58)]) (tm 58 [(0, .cptr (pT24 s) 0), (1, .sl 1 (rows ci_i64 plan))]) [] [] ⟨.inl ok39, .inl ok57, .inl ok58, trivial⟩ (by kernel_rfl) (by simp -implicitDefEqProofs) ?_
  refine VW.seq ?_
  refine VW.seq ?_
  obtain ⟨r1, q2, h⟩ := bindE h
  have c2 : F39 [.cptr (pT24 s) 0] = some (.b r1) := tells_eq inj39 (a := s) q2
  refine VW.evalA (C := [(39, F39), (57, F57), (58, F58)]) (tm 58 [(0, .cptr (pT24 s) 0), (1, .sl 1 (rows ci_i64 plan)), (11, .b (!r1))]) [] [] ⟨.inl ok39, .inl ok57, .inl ok58, trivial⟩ (by kernel_rfl) (by simp -implicitDefEqProofs [c2]) ?_
  refine VW.condB (b := (!r1)) (by simp) (fun g3 => ?_) (fun g3 => ?_)
  · replace h := iteT g3 h
    refine VW.seq ?_
    refine VW.evalA (C := [(39, F39), (57, F57), (58, F58)]) (tm 58 [(4, .ref 0 0 0), (5, .i .i64 1)]) [some (1, rows ci_i64 [])] [] ⟨.inl ok39, .inl ok57, .inl ok58, trivial⟩ (by kernel_rfl) (by simp -implicitDefEqProofs) ?_
    obtain rfl := leafS h
    refine VW.ret (VRet.fin ?_)
    simp [eB60]
  · replace h := iteF g3 h
    refine VW.skip ?_
    refine VW.seq ?_
    refine VW.seq ?_
    obtain ⟨w6, q69, h⟩ := bindE h
    refine VW.evalA (C := [(39, F39), (57, F57), (58, F58)]) (tm 58 [(0, .cptr (pT24 s) 0), (1, .sl 1 (rows ci_i64 plan)), (29, .b w6)]) [] [] ⟨.inl ok39, .inl ok57, .inl ok58, trivial⟩ (by kernel_rfl) (by
        rcases Bool.eq_false_or_eq_true (!eqI (plan.length : Int) (s.need_.length : Int)) with q70 | q70
        · first
          | (simp at q70; done)
          | (rw [if_pos q70] at q69
             have d71 : w6 = _ := (Option.some.inj q69).symm
             simp -implicitDefEqProofs [q70, d71])
        · first
          | (simp at q70; done)
          | (rw [if_neg (by rw [q70]; exact Bool.false_ne_true)] at q69
             obtain ⟨r4, q5, q69⟩ := bindQ q69
             have c5 : F57 [.sl 1 (rows ci_i64 plan), .i .i64 s.most_] = some (.b r4) := tells_eq inj57 (a := (plan, s.most_)) q5
             have d72 : w6 = _ := (Option.some.inj q69).symm
             simp -implicitDefEqProofs [q70, c5, d72])) ?_
    refine VW.condB (b := w6) (by simp) (fun g7 => ?_) (fun g7 => ?_)
    · replace h := iteT g7 h
      refine VW.seq ?_
      refine VW.evalA (C := [(39, F39), (57, F57), (58, F58)]) (tm 58 [(4, .ref 0 0 0), (5, .i .i64 2)]) [some (1, rows ci_i64 [])] [] ⟨.inl ok39, .inl ok57, .inl ok58, trivial⟩ (by kernel_rfl) (by simp -implicitDefEqProofs) ?_
      obtain rfl := leafS h
      refine VW.ret (VRet.fin ?_)
      simp [eB60]
    · replace h := iteF g7 h
      refine VW.skip ?_
      refine VW.seq ?_
      refine VW.evalA (C := [(39, F39), (57, F57), (58, F58)]) (tm 58 [(0, .cptr (pT24 s) 0), (1, .sl 1 (rows ci_i64 plan)), (6, .ref 0 0 0)]) [some (1, rows ci_i64 [])] [] ⟨.inl ok39, .inl ok57, .inl ok58, trivial⟩ (by kernel_rfl) (by simp -implicitDefEqProofs) ?_
      refine VW.seq ?_
      refine VW.evalA (C := [(39, F39), (57, F57), (58, F58)]) (tm 58 [(0, .cptr (pT24 s) 0), (1, .sl 1 (rows ci_i64 plan)), (6, .ref 0 0 0), (7, .i .i64 s.first_)]) [some (1, rows ci_i64 [])] [] ⟨.inl ok39, .inl ok57, .inl ok58, trivial⟩ (by kernel_rfl) (by simp -implicitDefEqProofs) ?_
      refine VW.join (fun (v : List Int) => (⟨(tm 58 [(6, .ref 0 0 v.length)]), [some (1, rows ci_i64 v)], []⟩ : VS)) (fun v => (g60_j1 (v)).bind some = some r) ?_ ?_
      · refine VW.seq ?_
        refine VW.evalA (C := [(39, F39), (57, F57), (58, F58)]) (tm 58 [(0, .cptr (pT24 s) 0), (1, .sl 1 (rows ci_i64 plan)), (6, .ref 0 0 0), (7, .i .i64 s.first_), (8, .i .i64 0)]) [some (1, rows ci_i64 [])] [] ⟨.inl ok39, .inl ok57, .inl ok58, trivial⟩ (by kernel_rfl) (by simp -implicitDefEqProofs) ?_
        refine VW.block ?_
        obtain ⟨w_1, hw_1, h⟩ := bindE h
        refine VW.loopO (fun (x : Int × Int × (List Int)) => (⟨(tm 58 [(0, .cptr (pT24 s) 0), (1, .sl 1 (rows ci_i64 plan)), (6, .ref 0 0 x.2.2.length), (7, .i .i64 x.1), (8, .i .i64 x.2.1)]), [some (1, rows ci_i64 x.2.2)], []⟩ : VS)) hw_1 (Ent.to 1 (by simp [fgt]) (by first | (simp; done) | simp [pT24]) (by simp) (by simp [bndT, bndV]) (by simp [bndM, bndV])) ?_
        rintro n_1 ⟨at_58, k_59, l60⟩ h1
        rw [g60_L1] at h1
        refine VW.seq ?_
        refine VW.seq ?_
        refine VW.evalA (C := [(39, F39), (57, F57), (58, F58)]) (tm 58 [(0, .cptr (pT24 s) 0), (1, .sl 1 (rows ci_i64 plan)), (6, .ref 0 0 l60.length), (7, .i .i64 at_58), (8, .i .i64 k_59), (39, .b (ltI k_59 (plan.length : Int)))]) [some (1, rows ci_i64 l60)] [] ⟨.inl ok39, .inl ok57, .inl ok58, trivial⟩ (by kernel_rfl) (by simp -implicitDefEqProofs) ?_
        refine VW.condB (b := ltI k_59 (plan.length : Int)) (by simp) (fun g61 => ?_) (fun g61 => ?_)
        · replace h1 := iteT g61 h1
          refine VW.skip ?_
          refine VW.seq ?_
          refine VW.block ?_
          refine VW.seq ?_
          obtain ⟨e62, q63, h1⟩ := bindE h1
          obtain ⟨f63a, f63b, f63c, f63d⟩ := idx_some q63
          obtain ⟨r64, q65, h1⟩ := bindE h1
          have c65 : F58 [.cptr (pT24 s) 0, .i .i64 k_59, .i .i64 at_58, .i .i64 e62] = some (.i .i64 r64) := tells_eq inj58 (a := (s, k_59, at_58, e62)) q65
          refine VW.evalA (C := [(39, F39), (57, F57), (58, F58)]) (tm 58 [(0, .cptr (pT24 s) 0), (1, .sl 1 (rows ci_i64 plan)), (6, .ref 0 0 l60.length), (7, .i .i64 r64), (8, .i .i64 k_59)]) [some (1, rows ci_i64 l60)] [] ⟨.inl ok39, .inl ok57, .inl ok58, trivial⟩ (by kernel_rfl) (by simp -implicitDefEqProofs [f63a, f63b, f63c, f63d, c65]) ?_
          refine VW.seq ?_
          refine VW.seq ?_
          refine VW.evalA (C := [(39, F39), (57, F57), (58, F58)]) (tm 58 [(0, .cptr (pT24 s) 0), (1, .sl 1 (rows ci_i64 plan)), (6, .ref 0 0 l60.length), (7, .i .i64 r64), (8, .i .i64 k_59), (51, .b (ltI r64 0))]) [some (1, rows ci_i64 l60)] [] ⟨.inl ok39, .inl ok57, .inl ok58, trivial⟩ (by kernel_rfl) (by simp -implicitDefEqProofs) ?_
          refine VW.condB (b := ltI r64 0) (by simp) (fun g66 => ?_) (fun g66 => ?_)
          · replace h1 := iteT g66 h1
            refine VW.seq ?_
            refine VW.evalA (C := [(39, F39), (57, F57), (58, F58)]) (tm 58 [(4, .ref 1 0 0), (5, .i .i64 4)]) [some (1, rows ci_i64 l60), some (1, rows ci_i64 [])] [] ⟨.inl ok39, .inl ok57, .inl ok58, trivial⟩ (by kernel_rfl) (by simp -implicitDefEqProofs) ?_
            have e_ := leafR h1
            subst w_1
            obtain rfl := leafS h
            refine VW.ret (VRet.fin ?_)
            simp [eB60]
          · replace h1 := iteF g66 h1
            refine VW.skip ?_
            obtain ⟨u67, q68, h1⟩ := bindE h1
            obtain ⟨f68a, f68b⟩ := appK_some q68
            try simp only [Int.toNat_natCast, Int.reduceToNat, List.length_cons, List.length_nil, Nat.reduceAdd, Nat.zero_add] at f68a f68b
            refine VW.evalA (C := [(39, F39), (57, F57), (58, F58)]) (tm 58 [(0, .cptr (pT24 s) 0), (1, .sl 1 (rows ci_i64 plan)), (6, .ref 0 0 (l60 ++ [r64]).length), (7, .i .i64 r64), (8, .i .i64 k_59)]) [some (1, rows ci_i64 (l60 ++ [r64])), some (1, rows ci_i64 [r64])] [] ⟨.inl ok39, .inl ok57, .inl ok58, trivial⟩ (by kernel_rfl) (by simp -implicitDefEqProofs [f68a, f68b]) ?_
            refine VW.evalA (C := [(39, F39), (57, F57), (58, F58)]) (tm 58 [(0, .cptr (pT24 s) 0), (1, .sl 1 (rows ci_i64 plan)), (6, .ref 0 0 (l60 ++ [r64]).length), (7, .i .i64 r64), (8, .i .i64 (aI .i64 k_59 1))]) [some (1, rows ci_i64 (l60 ++ [r64])), some (1, rows ci_i64 [r64])] [] ⟨.inl ok39, .inl ok57, .inl ok58, trivial⟩ (by kernel_rfl) (by simp -implicitDefEqProofs) ?_
            exact (show ∃ _, _ from ⟨(r64, aI .i64 k_59 1, (l60 ++ [r64])), leafL h1, (Ent.to 1 (by simp [fgt]) (by first | (simp; done) | simp [pT24]) (by simp) (by simp [bndT, bndV]) (by simp [bndM, bndV]))⟩)
        · replace h1 := iteF g61 h1
          refine VW.exit ?_
          have e_ := leafR h1
          subst w_1
          exact (show ∃ _, _ from ⟨l60, h, (Ent.to 1 (by simp [fgt]) (by first | (simp; done) | simp [pT24]) (by simp) (by simp [bndT, bndV]) (by simp [bndM, bndV]))⟩)
      · rintro l38 h
        replace h : (g60_j1 l38).bind _ = _ := h
        rw [g60_j1] at h
        refine VW.seq ?_
        refine VW.evalA (C := [(39, F39), (57, F57), (58, F58)]) (tm 58 [(4, .ref 0 0 l38.length), (5, .i .i64 0)]) [some (1, rows ci_i64 l38)] [] ⟨.inl ok39, .inl ok57, .inl ok58, trivial⟩ (by kernel_rfl) (by simp -implicitDefEqProofs) ?_
        obtain rfl := leafS h
        refine VW.ret (VRet.fin ?_)
        simp [eB60]
noncomputable def g45_j1 (sum_23 : Int) : Option (Int × Int) :=
  some (sum_23, 0)
noncomputable def g45_L1 (plan : List Int) (s : T24) : (Int × Int) → Option ((Int × Int) ⊕ (Int))
  | (sum_36, k_37) =>
    if ltI k_37 (plan.length : Int) = true then
      (idx s.price_ k_37).bind fun e39 =>
      (idx plan k_37).bind fun e41 =>
      some (.inl (aI .i64 sum_36 (mI .i64 e39 e41), aI .i64 k_37 1))
    else
      some (.inr sum_36)
noncomputable def g45 (s : T24) (plan : List Int) : Option (Int × Int) :=
  (g60 s plan).bind fun r1 =>
  if (!eqI r1.2 0) = true then
    some (0, r1.2)
  else
    (loopO (g45_L1 plan s) (0, 0)).bind fun w => g45_j1 w
def eA45 (a : T24 × (List Int)) : List V := [.cptr (pT24 a.1) 0, .sl 1 (rows ci_i64 a.2)]
def eB45 (r : Int × Int) : V := .tup [.i .i64 r.1, .i .i64 r.2]
theorem inj45 (a a' : T24 × (List Int)) (h : eA45 a = eA45 a') : a = a' := by
  obtain ⟨⟨i289, i290, i291, i292, i293, i294, i295⟩, i296⟩ := a
  obtain ⟨⟨i297, i298, i299, i300, i301, i302, i303⟩, i304⟩ := a'
  simp only [eA45, pT24, List.cons.injEq, V.i.injEq, V.b.injEq, V.f.injEq, V.str.injEq, V.sl.injEq, V.agg.injEq, V.cptr.injEq, true_and, and_true] at h
  simp_all [ri ci_i64_inj]
noncomputable def F45 : List V → Option V := tells (fun a => g45 a.1 a.2) eA45 eB45
set_option maxRecDepth 100000 in
set_option maxHeartbeats 4000000 in
/- loop.example/g01229/spec.l07Cost -/
theorem ok45 : Tells Try.prog 45 F45 := by
  refine Tells.of (by kernel_rfl) ?_
  rintro ⟨s, plan⟩ r h
  refine VCalls.nl (VCalls.of Try.func45 rfl rfl rfl ?_)
  rw [tm_init]
  simp only [eA45, en, List.length_cons, List.length_nil, Nat.reduceAdd, Nat.reduceSub]
  replace h : (g45 s plan).bind some = some r := bindS h
  rw [g45] at h
  refine VW.seq ?_
  refine VW.evalA (C := [(60, F60)]) (tm 40 [(0, .cptr (pT24 s) 0), (1, .sl 1 (rows ci_i64 plan))]) [] [] ⟨.inl ok60, trivial⟩ (by kernel_rfl) (by simp -implicitDefEqProofs) ?_
  refine VW.seq ?_
  refine VW.seq ?_
  obtain ⟨r1, q2, h⟩ := bindE h
  have c2 : F60 [.cptr (pT24 s) 0, .sl 1 (rows ci_i64 plan)] = some (.tup [.own 1 (rows ci_i64 r1.1), .i .i64 r1.2]) := tells_eq inj60 (a := (s, plan)) q2
  refine VW.evalA (C := [(60, F60)]) (tm 40 [(0, .cptr (pT24 s) 0), (1, .sl 1 (rows ci_i64 plan)), (7, .i .i64 r1.2)]) [some (1, rows ci_i64 r1.1)] [] ⟨.inl ok60, trivial⟩ (by kernel_rfl) (by simp -implicitDefEqProofs [c2]) ?_
  refine VW.seq ?_
  refine VW.evalA (C := [(60, F60)]) (tm 40 [(0, .cptr (pT24 s) 0), (1, .sl 1 (rows ci_i64 plan)), (7, .i .i64 r1.2), (17, .b (!eqI r1.2 0))]) [some (1, rows ci_i64 r1.1)] [] ⟨.inl ok60, trivial⟩ (by kernel_rfl) (by simp -implicitDefEqProofs) ?_
  refine VW.condB (b := (!eqI r1.2 0)) (by simp) (fun g3 => ?_) (fun g3 => ?_)
  · replace h := iteT g3 h
    refine VW.seq ?_
    refine VW.evalA (C := [(60, F60)]) (tm 40 [(4, .i .i64 0), (5, .i .i64 r1.2)]) [some (1, rows ci_i64 r1.1)] [] ⟨.inl ok60, trivial⟩ (by kernel_rfl) (by simp -implicitDefEqProofs) ?_
    obtain rfl := leafS h
    refine VW.ret (VRet.fin ?_)
    simp [eB45]
  · replace h := iteF g3 h
    refine VW.skip ?_
    refine VW.seq ?_
    refine VW.evalA (C := [(60, F60)]) (tm 40 [(0, .cptr (pT24 s) 0), (1, .sl 1 (rows ci_i64 plan)), (8, .i .i64 0)]) [some (1, rows ci_i64 r1.1)] [] ⟨.inl ok60, trivial⟩ (by kernel_rfl) (by simp -implicitDefEqProofs) ?_
    refine VW.join (fun (v : Int) => (⟨(tm 40 [(8, .i .i64 v)]), [some (1, rows ci_i64 r1.1)], []⟩ : VS)) (fun v => (g45_j1 (v)).bind some = some r) ?_ ?_
    · refine VW.seq ?_
      refine VW.evalA (C := [(60, F60)]) (tm 40 [(0, .cptr (pT24 s) 0), (1, .sl 1 (rows ci_i64 plan)), (8, .i .i64 0), (9, .i .i64 0)]) [some (1, rows ci_i64 r1.1)] [] ⟨.inl ok60, trivial⟩ (by kernel_rfl) (by simp -implicitDefEqProofs) ?_
      refine VW.block ?_
      obtain ⟨w_1, hw_1, h⟩ := bindE h
      refine VW.loopO (fun (x : Int × Int) => (⟨(tm 40 [(0, .cptr (pT24 s) 0), (1, .sl 1 (rows ci_i64 plan)), (8, .i .i64 x.1), (9, .i .i64 x.2)]), [some (1, rows ci_i64 r1.1)], []⟩ : VS)) hw_1 (Ent.to 1 (by simp [fgt]) (by first | (simp; done) | simp [pT24]) (by simp) (by simp [bndT, bndV]) (by simp [bndM, bndV])) ?_
      rintro n_1 ⟨sum_36, k_37⟩ h1
      rw [g45_L1] at h1
      refine VW.seq ?_
      refine VW.seq ?_
      refine VW.evalA (C := [(60, F60)]) (tm 40 [(0, .cptr (pT24 s) 0), (1, .sl 1 (rows ci_i64 plan)), (8, .i .i64 sum_36), (9, .i .i64 k_37), (22, .b (ltI k_37 (plan.length : Int)))]) [some (1, rows ci_i64 r1.1)] [] ⟨.inl ok60, trivial⟩ (by kernel_rfl) (by simp -implicitDefEqProofs) ?_
      refine VW.condB (b := ltI k_37 (plan.length : Int)) (by simp) (fun g38 => ?_) (fun g38 => ?_)
      · replace h1 := iteT g38 h1
        refine VW.skip ?_
        refine VW.seq ?_
        refine VW.block ?_
        obtain ⟨e39, q40, h1⟩ := bindE h1
        obtain ⟨f40a, f40b, f40c, f40d⟩ := idx_some q40
        obtain ⟨e41, q42, h1⟩ := bindE h1
        obtain ⟨f42a, f42b, f42c, f42d⟩ := idx_some q42
        refine VW.evalDA (C := [(60, F60)]) (tm 40 [(0, .cptr (pT24 s) 0), (1, .sl 1 (rows ci_i64 plan)), (8, .i .i64 (aI .i64 sum_36 (mI .i64 e39 e41))), (9, .i .i64 k_37)]) [some (1, rows ci_i64 r1.1)] [] ⟨.inl ok60, trivial⟩ mixed (by kernel_rfl) (by simp -implicitDefEqProofs [f40a, f40b, f40c, f40d, f42a, f42b, f42c, f42d]) ?_
        refine VW.evalA (C := [(60, F60)]) (tm 40 [(0, .cptr (pT24 s) 0), (1, .sl 1 (rows ci_i64 plan)), (8, .i .i64 (aI .i64 sum_36 (mI .i64 e39 e41))), (9, .i .i64 (aI .i64 k_37 1))]) [some (1, rows ci_i64 r1.1)] [] ⟨.inl ok60, trivial⟩ (by kernel_rfl) (by simp -implicitDefEqProofs) ?_
        exact (show ∃ _, _ from ⟨(aI .i64 sum_36 (mI .i64 e39 e41), aI .i64 k_37 1), leafL h1, (Ent.to 1 (by simp [fgt]) (by first | (simp; done) | simp [pT24]) (by simp) (by simp [bndT, bndV]) (by simp [bndM, bndV]))⟩)
      · replace h1 := iteF g38 h1
        refine VW.exit ?_
        have e_ := leafR h1
        subst w_1
        exact (show ∃ _, _ from ⟨sum_36, h, (Ent.to 1 (by simp [fgt]) (by first | (simp; done) | simp [pT24]) (by simp) (by simp [bndT, bndV]) (by simp [bndM, bndV]))⟩)
    · rintro sum_23 h
      replace h : (g45_j1 sum_23).bind _ = _ := h
      rw [g45_j1] at h
      refine VW.seq ?_
      refine VW.evalA (C := [(60, F60)]) (tm 40 [(4, .i .i64 sum_23), (5, .i .i64 0)]) [some (1, rows ci_i64 r1.1)] [] ⟨.inl ok60, trivial⟩ (by kernel_rfl) (by simp -implicitDefEqProofs) ?_
      obtain rfl := leafS h
      refine VW.ret (VRet.fin ?_)
      simp [eB45]
noncomputable def g54_j1 (l9587 : List (List Int)) : Option (List (List Int)) :=
  some l9587
noncomputable def g54_j2 (k_15974 : Int) (l17572 : List (List Int)) : Option ((Int × (List (List Int))) ⊕ (List (List Int))) :=
  some (.inl (sI .i64 k_15974 1, l17572))
noncomputable def g54_j3 (l15975 : List (List Int)) (k_15974 : Int) (l18369 : List Int) : Option ((Int × (List (List Int))) ⊕ (List (List Int))) :=
  (idx l15975 k_15974).bind fun e18370 =>
  g54_j2 k_15974 (l15975.set k_15974.toNat l18369)
noncomputable def g54_j4 (i_18902 : Int) (l19036 : List Int) : Option ((Int × (List Int)) ⊕ (List Int)) :=
  some (.inl (aI .i64 i_18902 1, l19036))
noncomputable def g54_j5 (l18903 : List Int) (i_18902 : Int) (least_19101 : Int) : Option ((Int × (List Int)) ⊕ (List Int)) :=
  (appK 8 l18903 [least_19101]).bind fun u19102 =>
  g54_j4 i_18902 (l18903 ++ [least_19101])
noncomputable def g54_L3 (s : T24) (k_15974 : Int) (i_18902 : Int) (l15975 : List (List Int)) : (Int × Int) → Option ((Int × Int) ⊕ (Int))
  | (least_19146, logs_19147) =>
    if leI logs_19147 s.most_ = true then
      (g58 s k_15974 i_18902 logs_19147).bind fun r19149 =>
      (if ltI r19149 0 = true then some true else (idx l15975 (aI .i64 k_15974 1)).bind fun e19151 => (idx e19151 r19149).bind fun e19153 => some (eqI e19153 (-1))).bind fun w19155 =>
      if w19155 = true then
        some (.inl (least_19146, aI .i64 logs_19147 1))
      else
        (idx s.price_ k_15974).bind fun e19157 =>
        (idx l15975 (aI .i64 k_15974 1)).bind fun e19159 =>
        (idx e19159 r19149).bind fun e19161 =>
        if (eqI least_19146 (-1) || ltI (aI .i64 (mI .i64 e19157 logs_19147) e19161) least_19146) = true then
          some (.inl (aI .i64 (mI .i64 e19157 logs_19147) e19161, aI .i64 logs_19147 1))
        else
          some (.inl (least_19146, aI .i64 logs_19147 1))
    else
      some (.inr least_19146)
noncomputable def g54_L2 (s : T24) (k_15974 : Int) (l15975 : List (List Int)) : (Int × (List Int)) → Option ((Int × (List Int)) ⊕ (List Int))
  | (i_18902, l18903) =>
    if leI i_18902 s.store_ = true then
      (loopO (g54_L3 s k_15974 i_18902 l15975) ((-1), 0)).bind fun w => g54_j5 l18903 i_18902 w
    else
      some (.inr l18903)
noncomputable def g54_L1 (s : T24) : (Int × (List (List Int))) → Option ((Int × (List (List Int))) ⊕ (List (List Int)))
  | (k_15974, l15975) =>
    if leI 0 k_15974 = true then
      (loopO (g54_L2 s k_15974 l15975) (0, [])).bind fun w => g54_j3 l15975 k_15974 w
    else
      some (.inr l15975)
noncomputable def g54 (s : T24) : Option (List (List Int)) :=
  (mk 24 (aI .i64 (s.need_.length : Int) 1)).bind fun u1 =>
  (mk 8 (aI .i64 s.store_ 1)).bind fun u3 =>
  (idx (List.replicate (aI .i64 (s.need_.length : Int) 1).toNat ([] : List Int)) (s.need_.length : Int)).bind fun e5 =>
  (loopO (g54_L1 s) (sI .i64 (s.need_.length : Int) 1, ((List.replicate (aI .i64 (s.need_.length : Int) 1).toNat ([] : List Int)).set ((s.need_.length : Int).toNat) (List.replicate (aI .i64 s.store_ 1).toNat 0)))).bind fun w => g54_j1 w
def eA54 (a : T24) : List V := [.cptr (pT24 a) 0]
def eB54 (r : List (List Int)) : V := .own 1 (rows cl_ci_i64o r)
theorem inj54 (a a' : T24) (h : eA54 a = eA54 a') : a = a' := by
  obtain ⟨i305, i306, i307, i308, i309, i310, i311⟩ := a
  obtain ⟨i312, i313, i314, i315, i316, i317, i318⟩ := a'
  simp only [eA54, pT24, List.cons.injEq, V.i.injEq, V.b.injEq, V.f.injEq, V.str.injEq, V.sl.injEq, V.agg.injEq, V.cptr.injEq, true_and, and_true] at h
  simp_all [ri ci_i64_inj]
noncomputable def F54 : List V → Option V := tells (fun a => g54 a) eA54 eB54
set_option maxRecDepth 100000 in
set_option maxHeartbeats 4000000 in
/- loop.example/g01229/spec.l07Values -/
theorem ok54 : Tells Try.prog 54 F54 := by
  refine Tells.of (by kernel_rfl) ?_
  rintro s r h
  refine VCalls.nl (VCalls.of Try.func54 rfl rfl rfl ?_)
  rw [tm_init]
  simp only [eA54, en, List.length_cons, List.length_nil, Nat.reduceAdd, Nat.reduceSub]
  replace h : (g54 s).bind some = some r := bindS h
  rw [g54] at h
  refine VW.seq ?_
  refine VW.evalA (C := [(58, F58)]) (tm 105 [(0, .cptr (pT24 s) 0)]) [] [] ⟨.inl ok58, trivial⟩ (by kernel_rfl) (by simp -implicitDefEqProofs) ?_
  refine VW.seq ?_
  refine VW.evalA (C := [(58, F58)]) (tm 105 [(0, .cptr (pT24 s) 0), (3, .i .i64 (s.need_.length : Int))]) [] [] ⟨.inl ok58, trivial⟩ (by kernel_rfl) (by simp -implicitDefEqProofs) ?_
  refine VW.seq ?_
  obtain ⟨u1, q2, h⟩ := bindE h
  obtain ⟨f2a, f2b, f2c⟩ := mk_some q2
  try simp only [Int.toNat_natCast, Int.reduceToNat, List.length_cons, List.length_nil, Nat.reduceAdd, Nat.zero_add] at f2a f2b f2c
  refine VW.evalE (C := [(58, F58)]) (tm 105 [(0, .cptr (pT24 s) 0), (3, .i .i64 (s.need_.length : Int)), (4, .ref 0 0 (List.replicate (aI .i64 (s.need_.length : Int) 1).toNat ([] : List Int)).length)]) [some (1, List.replicate (aI .i64 (s.need_.length : Int) 1).toNat [.nil])] [] ⟨.inl ok58, trivial⟩ (by kernel_rfl) (by simp -implicitDefEqProofs [f2a, f2b, f2c]) (Ent.nilown (m := [some (1, List.replicate (aI .i64 (s.need_.length : Int) 1).toNat [.nil])]) 0 ((aI .i64 (s.need_.length : Int) 1).toNat) 1 [some (1, rows cl_ci_i64o (List.replicate (aI .i64 (s.need_.length : Int) 1).toNat ([] : List Int)))] (by simp) (by simp)) ?_
  refine VW.seq ?_
  obtain ⟨u3, q4, h⟩ := bindE h
  obtain ⟨f4a, f4b, f4c⟩ := mk_some q4
  try simp only [Int.toNat_natCast, Int.reduceToNat, List.length_cons, List.length_nil, Nat.reduceAdd, Nat.zero_add] at f4a f4b f4c
  obtain ⟨e5, q6, h⟩ := bindE h
  obtain ⟨f6a, f6b, f6c, f6d⟩ := idx_some q6
  have f6s := f6c
  simp at f6s
  try simp only [Int.toNat_natCast, Int.reduceToNat] at f6a f6b f6c f6d
  refine VW.evalE (C := [(58, F58)]) (tm 105 [(0, .cptr (pT24 s) 0), (3, .i .i64 (s.need_.length : Int)), (4, .ref 0 0 (List.replicate (aI .i64 (s.need_.length : Int) 1).toNat ([] : List Int)).length)]) [some (1, (rows cl_ci_i64o (List.replicate (aI .i64 (s.need_.length : Int) 1).toNat ([] : List Int))).set ((s.need_.length : Int).toNat) [.ref 1 0 (List.replicate (aI .i64 s.store_ 1).toNat 0).length]), some (1, rows ci_i64 (List.replicate (aI .i64 s.store_ 1).toNat 0))] [] ⟨.inl ok58, trivial⟩ (by kernel_rfl) (by simp -implicitDefEqProofs [f4a, f4b, f4c, f6a, f6b, f6c, f6d, f6s]) (Ent.absorb (m := [some (1, (rows cl_ci_i64o (List.replicate (aI .i64 (s.need_.length : Int) 1).toNat ([] : List Int))).set ((s.need_.length : Int).toNat) [.ref 1 0 (List.replicate (aI .i64 s.store_ 1).toNat 0).length]), some (1, rows ci_i64 (List.replicate (aI .i64 s.store_ 1).toNat 0))]) (n := 1) (n' := 1) (es := (rows cl_ci_i64o (List.replicate (aI .i64 (s.need_.length : Int) 1).toNat ([] : List Int))).set ((s.need_.length : Int).toNat) [.ref 1 0 (List.replicate (aI .i64 s.store_ 1).toNat 0).length]) (es' := rows ci_i64 (List.replicate (aI .i64 s.store_ 1).toNat 0)) (cs := [.ref 1 0 (List.replicate (aI .i64 s.store_ 1).toNat 0).length]) 0 ((s.need_.length : Int).toNat) 0 1 (List.replicate (aI .i64 s.store_ 1).toNat 0).length [some (1, rows cl_ci_i64o ((List.replicate (aI .i64 (s.need_.length : Int) 1).toNat ([] : List Int)).set ((s.need_.length : Int).toNat) (List.replicate (aI .i64 s.store_ 1).toNat 0))), none] rfl (by simp [f6a, f6b, f6c, f6d, f6s]) rfl rfl (by decide) (by simp) (by simp) (by simp)) ?_
  refine VW.join (fun (v : List (List Int)) => (⟨(tm 105 [(4, .ref 0 0 v.length)]), [some (1, rows cl_ci_i64o v), none], []⟩ : VS)) (fun v => (g54_j1 (v)).bind some = some r) ?_ ?_
  · refine VW.seq ?_
    refine VW.evalA (C := [(58, F58)]) (tm 105 [(0, .cptr (pT24 s) 0), (4, .ref 0 0 ((List.replicate (aI .i64 (s.need_.length : Int) 1).toNat ([] : List Int)).set ((s.need_.length : Int).toNat) (List.replicate (aI .i64 s.store_ 1).toNat 0)).length), (5, .i .i64 (sI .i64 (s.need_.length : Int) 1))]) [some (1, rows cl_ci_i64o ((List.replicate (aI .i64 (s.need_.length : Int) 1).toNat ([] : List Int)).set ((s.need_.length : Int).toNat) (List.replicate (aI .i64 s.store_ 1).toNat 0))), none] [] ⟨.inl ok58, trivial⟩ (by kernel_rfl) (by simp -implicitDefEqProofs) ?_
    refine VW.block ?_
    obtain ⟨w_1, hw_1, h⟩ := bindE h
    refine VW.loopO (fun (x : Int × (List (List Int))) => (⟨(tm 105 [(0, .cptr (pT24 s) 0), (4, .ref 0 0 x.2.length), (5, .i .i64 x.1)]), [some (1, rows cl_ci_i64o x.2), none], []⟩ : VS)) hw_1 (Ent.to 2 (by simp [fgt]) (by first | (simp; done) | simp [pT24]) (by simp) (by simp [bndT, bndV]) (by simp [bndM, bndV])) ?_
    rintro n_1 ⟨k_15974, l15975⟩ h1
    rw [g54_L1] at h1
    refine VW.seq ?_
    refine VW.seq ?_
    refine VW.evalA (C := [(58, F58)]) (tm 105 [(0, .cptr (pT24 s) 0), (4, .ref 0 0 l15975.length), (5, .i .i64 k_15974), (32, .b (leI 0 k_15974))]) [some (1, rows cl_ci_i64o l15975), none] [] ⟨.inl ok58, trivial⟩ (by kernel_rfl) (by simp -implicitDefEqProofs) ?_
    refine VW.condB (b := leI 0 k_15974) (by simp) (fun g15976 => ?_) (fun g15976 => ?_)
    · replace h1 := iteT g15976 h1
      refine VW.skip ?_
      refine VW.join (fun (v : List (List Int)) => (⟨(tm 105 [(0, .cptr (pT24 s) 0), (4, .ref 0 0 v.length), (5, .i .i64 k_15974)]), [some (1, rows cl_ci_i64o v), none], []⟩ : VS)) (fun v => (g54_j2 k_15974 (v)).bind (kN (g54_L1 s) n_1) = some w_1) ?_ ?_
      · refine VW.block ?_
        refine VW.seq ?_
        refine VW.evalA (C := [(58, F58)]) (tm 105 [(0, .cptr (pT24 s) 0), (4, .ref 0 0 l15975.length), (5, .i .i64 k_15974), (6, .ref 2 0 0)]) [some (1, rows cl_ci_i64o l15975), none, some (1, rows ci_i64 [])] [] ⟨.inl ok58, trivial⟩ (by kernel_rfl) (by simp -implicitDefEqProofs) ?_
        refine VW.join (fun (v : List Int) => (⟨(tm 105 [(0, .cptr (pT24 s) 0), (4, .ref 0 0 l15975.length), (5, .i .i64 k_15974), (6, .ref 2 0 v.length)]), [some (1, rows cl_ci_i64o l15975), none, some (1, rows ci_i64 v)], []⟩ : VS)) (fun v => (g54_j3 l15975 k_15974 (v)).bind (kN (g54_L1 s) n_1) = some w_1) ?_ ?_
        · refine VW.seq ?_
          refine VW.evalA (C := [(58, F58)]) (tm 105 [(0, .cptr (pT24 s) 0), (4, .ref 0 0 l15975.length), (5, .i .i64 k_15974), (6, .ref 2 0 0), (7, .i .i64 0)]) [some (1, rows cl_ci_i64o l15975), none, some (1, rows ci_i64 [])] [] ⟨.inl ok58, trivial⟩ (by kernel_rfl) (by simp -implicitDefEqProofs) ?_
          refine VW.block ?_
          obtain ⟨w_2, hw_2, h1⟩ := bindE h1
          refine VW.loopO (fun (x : Int × (List Int)) => (⟨(tm 105 [(0, .cptr (pT24 s) 0), (4, .ref 0 0 l15975.length), (5, .i .i64 k_15974), (6, .ref 2 0 x.2.length), (7, .i .i64 x.1)]), [some (1, rows cl_ci_i64o l15975), none, some (1, rows ci_i64 x.2)], []⟩ : VS)) hw_2 (Ent.to 3 (by simp [fgt]) (by first | (simp; done) | simp [pT24]) (by simp) (by simp [bndT, bndV]) (by simp [bndM, bndV])) ?_
          rintro n_2 ⟨i_18902, l18903⟩ h2
          rw [g54_L2] at h2
          refine VW.seq ?_
          refine VW.seq ?_
          refine VW.evalA (C := [(58, F58)]) (tm 105 [(0, .cptr (pT24 s) 0), (4, .ref 0 0 l15975.length), (5, .i .i64 k_15974), (6, .ref 2 0 l18903.length), (7, .i .i64 i_18902), (41, .b (leI i_18902 s.store_))]) [some (1, rows cl_ci_i64o l15975), none, some (1, rows ci_i64 l18903)] [] ⟨.inl ok58, trivial⟩ (by kernel_rfl) (by simp -implicitDefEqProofs) ?_
          refine VW.condB (b := leI i_18902 s.store_) (by simp) (fun g18904 => ?_) (fun g18904 => ?_)
          · replace h2 := iteT g18904 h2
            refine VW.skip ?_
            refine VW.join (fun (v : List Int) => (⟨(tm 105 [(0, .cptr (pT24 s) 0), (4, .ref 0 0 l15975.length), (5, .i .i64 k_15974), (6, .ref 2 0 v.length), (7, .i .i64 i_18902)]), [some (1, rows cl_ci_i64o l15975), none, some (1, rows ci_i64 v)], []⟩ : VS)) (fun v => (g54_j4 i_18902 (v)).bind (kN (g54_L2 s k_15974 l15975) n_2) = some w_2) ?_ ?_
            · refine VW.block ?_
              refine VW.seq ?_
              refine VW.evalA (C := [(58, F58)]) (tm 105 [(0, .cptr (pT24 s) 0), (4, .ref 0 0 l15975.length), (5, .i .i64 k_15974), (6, .ref 2 0 l18903.length), (7, .i .i64 i_18902), (8, .i .i64 (-1))]) [some (1, rows cl_ci_i64o l15975), none, some (1, rows ci_i64 l18903)] [] ⟨.inl ok58, trivial⟩ (by kernel_rfl) (by simp -implicitDefEqProofs) ?_
              refine VW.join (fun (v : Int) => (⟨(tm 105 [(0, .cptr (pT24 s) 0), (4, .ref 0 0 l15975.length), (5, .i .i64 k_15974), (6, .ref 2 0 l18903.length), (7, .i .i64 i_18902), (8, .i .i64 v)]), [some (1, rows cl_ci_i64o l15975), none, some (1, rows ci_i64 l18903)], []⟩ : VS)) (fun v => (g54_j5 l18903 i_18902 (v)).bind (kN (g54_L2 s k_15974 l15975) n_2) = some w_2) ?_ ?_
              · refine VW.seq ?_
                refine VW.evalA (C := [(58, F58)]) (tm 105 [(0, .cptr (pT24 s) 0), (4, .ref 0 0 l15975.length), (5, .i .i64 k_15974), (6, .ref 2 0 l18903.length), (7, .i .i64 i_18902), (8, .i .i64 (-1)), (9, .i .i64 0)]) [some (1, rows cl_ci_i64o l15975), none, some (1, rows ci_i64 l18903)] [] ⟨.inl ok58, trivial⟩ (by kernel_rfl) (by simp -implicitDefEqProofs) ?_
                refine VW.block ?_
                obtain ⟨w_3, hw_3, h2⟩ := bindE h2
                refine VW.loopO (fun (x : Int × Int) => (⟨(tm 105 [(0, .cptr (pT24 s) 0), (4, .ref 0 0 l15975.length), (5, .i .i64 k_15974), (6, .ref 2 0 l18903.length), (7, .i .i64 i_18902), (8, .i .i64 x.1), (9, .i .i64 x.2)]), [some (1, rows cl_ci_i64o l15975), none, some (1, rows ci_i64 l18903)], []⟩ : VS)) hw_3 (Ent.to 3 (by simp [fgt]) (by first | (simp; done) | simp [pT24]) (by simp) (by simp [bndT, bndV]) (by simp [bndM, bndV])) ?_
                rintro n_3 ⟨least_19146, logs_19147⟩ h3
                rw [g54_L3] at h3
                refine VW.seq ?_
                refine VW.seq ?_
                refine VW.evalA (C := [(58, F58)]) (tm 105 [(0, .cptr (pT24 s) 0), (4, .ref 0 0 l15975.length), (5, .i .i64 k_15974), (6, .ref 2 0 l18903.length), (7, .i .i64 i_18902), (8, .i .i64 least_19146), (9, .i .i64 logs_19147), (49, .b (leI logs_19147 s.most_))]) [some (1, rows cl_ci_i64o l15975), none, some (1, rows ci_i64 l18903)] [] ⟨.inl ok58, trivial⟩ (by kernel_rfl) (by simp -implicitDefEqProofs) ?_
                refine VW.condB (b := leI logs_19147 s.most_) (by simp) (fun g19148 => ?_) (fun g19148 => ?_)
                · replace h3 := iteT g19148 h3
                  refine VW.skip ?_
                  refine VW.seq ?_
                  refine VW.block ?_
                  refine VW.seq ?_
                  obtain ⟨r19149, q19150, h3⟩ := bindE h3
                  have c19150 : F58 [.cptr (pT24 s) 0, .i .i64 k_15974, .i .i64 i_18902, .i .i64 logs_19147] = some (.i .i64 r19149) := tells_eq inj58 (a := (s, k_15974, i_18902, logs_19147)) q19150
                  refine VW.evalA (C := [(58, F58)]) (tm 105 [(0, .cptr (pT24 s) 0), (4, .ref 0 0 l15975.length), (5, .i .i64 k_15974), (6, .ref 2 0 l18903.length), (7, .i .i64 i_18902), (8, .i .i64 least_19146), (9, .i .i64 logs_19147), (10, .i .i64 r19149)]) [some (1, rows cl_ci_i64o l15975), none, some (1, rows ci_i64 l18903)] [] ⟨.inl ok58, trivial⟩ (by kernel_rfl) (by simp -implicitDefEqProofs [c19150]) ?_
                  refine VW.seq ?_
                  refine VW.seq ?_
                  obtain ⟨w19155, q19164, h3⟩ := bindE h3
                  refine VW.evalA (C := [(58, F58)]) (tm 105 [(0, .cptr (pT24 s) 0), (4, .ref 0 0 l15975.length), (5, .i .i64 k_15974), (6, .ref 2 0 l18903.length), (7, .i .i64 i_18902), (8, .i .i64 least_19146), (9, .i .i64 logs_19147), (10, .i .i64 r19149), (69, .b w19155)]) [some (1, rows cl_ci_i64o l15975), none, some (1, rows ci_i64 l18903)] [] ⟨.inl ok58, trivial⟩ (by kernel_rfl) (by
                      rcases Bool.eq_false_or_eq_true (ltI r19149 0) with q19165 | q19165
                      · first
                        | (simp at q19165; done)
                        | (rw [if_pos q19165] at q19164
                           have d19166 : w19155 = _ := (Option.some.inj q19164).symm
                           simp -implicitDefEqProofs [q19165, d19166])
                      · first
                        | (simp at q19165; done)
                        | (rw [if_neg (by rw [q19165]; exact Bool.false_ne_true)] at q19164
                           obtain ⟨e19151, q19152, q19164⟩ := bindQ q19164
                           obtain ⟨f19152a, f19152b, f19152c, f19152d⟩ := idx_some q19152
                           obtain ⟨e19153, q19154, q19164⟩ := bindQ q19164
                           obtain ⟨f19154a, f19154b, f19154c, f19154d⟩ := idx_some q19154
                           have d19167 : w19155 = _ := (Option.some.inj q19164).symm
                           simp -implicitDefEqProofs [q19165, f19152a, f19152b, f19152c, f19152d, f19154a, f19154b, f19154c, f19154d, d19167])) ?_
                  refine VW.condB (b := w19155) (by simp) (fun g19156 => ?_) (fun g19156 => ?_)
                  · replace h3 := iteT g19156 h3
                    refine VW.exit ?_
                    refine VW.evalA (C := [(58, F58)]) (tm 105 [(0, .cptr (pT24 s) 0), (4, .ref 0 0 l15975.length), (5, .i .i64 k_15974), (6, .ref 2 0 l18903.length), (7, .i .i64 i_18902), (8, .i .i64 least_19146), (9, .i .i64 (aI .i64 logs_19147 1))]) [some (1, rows cl_ci_i64o l15975), none, some (1, rows ci_i64 l18903)] [] ⟨.inl ok58, trivial⟩ (by kernel_rfl) (by simp -implicitDefEqProofs) ?_
                    exact (show ∃ _, _ from ⟨(least_19146, aI .i64 logs_19147 1), leafL h3, (Ent.to 3 (by simp [fgt]) (by first | (simp; done) | simp [pT24]) (by simp) (by simp [bndT, bndV]) (by simp [bndM, bndV]))⟩)
                  · replace h3 := iteF g19156 h3
                    refine VW.skip ?_
                    refine VW.seq ?_
                    obtain ⟨e19157, q19158, h3⟩ := bindE h3
                    obtain ⟨f19158a, f19158b, f19158c, f19158d⟩ := idx_some q19158
                    obtain ⟨e19159, q19160, h3⟩ := bindE h3
                    obtain ⟨f19160a, f19160b, f19160c, f19160d⟩ := idx_some q19160
                    obtain ⟨e19161, q19162, h3⟩ := bindE h3
                    obtain ⟨f19162a, f19162b, f19162c, f19162d⟩ := idx_some q19162
                    refine VW.evalDA (C := [(58, F58)]) (tm 105 [(0, .cptr (pT24 s) 0), (4, .ref 0 0 l15975.length), (5, .i .i64 k_15974), (6, .ref 2 0 l18903.length), (7, .i .i64 i_18902), (8, .i .i64 least_19146), (9, .i .i64 logs_19147), (11, .i .i64 (aI .i64 (mI .i64 e19157 logs_19147) e19161))]) [some (1, rows cl_ci_i64o l15975), none, some (1, rows ci_i64 l18903)] [] ⟨.inl ok58, trivial⟩ mixed (by kernel_rfl) (by simp -implicitDefEqProofs [f19158a, f19158b, f19158c, f19158d, f19160a, f19160b, f19160c, f19160d, f19162a, f19162b, f19162c, f19162d]) ?_
                    refine VW.seq ?_
                    refine VW.evalA (C := [(58, F58)]) (tm 105 [(0, .cptr (pT24 s) 0), (4, .ref 0 0 l15975.length), (5, .i .i64 k_15974), (6, .ref 2 0 l18903.length), (7, .i .i64 i_18902), (8, .i .i64 least_19146), (9, .i .i64 logs_19147), (11, .i .i64 (aI .i64 (mI .i64 e19157 logs_19147) e19161)), (94, .b (eqI least_19146 (-1) || ltI (aI .i64 (mI .i64 e19157 logs_19147) e19161) least_19146))]) [some (1, rows cl_ci_i64o l15975), none, some (1, rows ci_i64 l18903)] [] ⟨.inl ok58, trivial⟩ (by kernel_rfl) (by simp -implicitDefEqProofs) ?_
                    refine VW.condB (b := (eqI least_19146 (-1) || ltI (aI .i64 (mI .i64 e19157 logs_19147) e19161) least_19146)) (by simp) (fun g19163 => ?_) (fun g19163 => ?_)
                    · replace h3 := iteT g19163 h3
                      refine VW.evalA (C := [(58, F58)]) (tm 105 [(0, .cptr (pT24 s) 0), (4, .ref 0 0 l15975.length), (5, .i .i64 k_15974), (6, .ref 2 0 l18903.length), (7, .i .i64 i_18902), (8, .i .i64 (aI .i64 (mI .i64 e19157 logs_19147) e19161)), (9, .i .i64 logs_19147)]) [some (1, rows cl_ci_i64o l15975), none, some (1, rows ci_i64 l18903)] [] ⟨.inl ok58, trivial⟩ (by kernel_rfl) (by simp -implicitDefEqProofs) ?_
                      refine VW.evalA (C := [(58, F58)]) (tm 105 [(0, .cptr (pT24 s) 0), (4, .ref 0 0 l15975.length), (5, .i .i64 k_15974), (6, .ref 2 0 l18903.length), (7, .i .i64 i_18902), (8, .i .i64 (aI .i64 (mI .i64 e19157 logs_19147) e19161)), (9, .i .i64 (aI .i64 logs_19147 1))]) [some (1, rows cl_ci_i64o l15975), none, some (1, rows ci_i64 l18903)] [] ⟨.inl ok58, trivial⟩ (by kernel_rfl) (by simp -implicitDefEqProofs) ?_
                      exact (show ∃ _, _ from ⟨(aI .i64 (mI .i64 e19157 logs_19147) e19161, aI .i64 logs_19147 1), leafL h3, (Ent.to 3 (by simp [fgt]) (by first | (simp; done) | simp [pT24]) (by simp) (by simp [bndT, bndV]) (by simp [bndM, bndV]))⟩)
                    · replace h3 := iteF g19163 h3
                      refine VW.skip ?_
                      refine VW.evalA (C := [(58, F58)]) (tm 105 [(0, .cptr (pT24 s) 0), (4, .ref 0 0 l15975.length), (5, .i .i64 k_15974), (6, .ref 2 0 l18903.length), (7, .i .i64 i_18902), (8, .i .i64 least_19146), (9, .i .i64 (aI .i64 logs_19147 1))]) [some (1, rows cl_ci_i64o l15975), none, some (1, rows ci_i64 l18903)] [] ⟨.inl ok58, trivial⟩ (by kernel_rfl) (by simp -implicitDefEqProofs) ?_
                      exact (show ∃ _, _ from ⟨(least_19146, aI .i64 logs_19147 1), leafL h3, (Ent.to 3 (by simp [fgt]) (by first | (simp; done) | simp [pT24]) (by simp) (by simp [bndT, bndV]) (by simp [bndM, bndV]))⟩)
                · replace h3 := iteF g19148 h3
                  refine VW.exit ?_
                  have e_ := leafR h3
                  subst w_3
                  exact (show ∃ _, _ from ⟨least_19146, h2, (Ent.to 3 (by simp [fgt]) (by first | (simp; done) | simp [pT24]) (by simp) (by simp [bndT, bndV]) (by simp [bndM, bndV]))⟩)
              · rintro least_19101 h2
                replace h2 : (g54_j5 l18903 i_18902 least_19101).bind _ = _ := h2
                rw [g54_j5] at h2
                obtain ⟨u19102, q19103, h2⟩ := bindE h2
                obtain ⟨f19103a, f19103b⟩ := appK_some q19103
                try simp only [Int.toNat_natCast, Int.reduceToNat, List.length_cons, List.length_nil, Nat.reduceAdd, Nat.zero_add] at f19103a f19103b
                refine VW.evalA (C := [(58, F58)]) (tm 105 [(0, .cptr (pT24 s) 0), (4, .ref 0 0 l15975.length), (5, .i .i64 k_15974), (6, .ref 2 0 (l18903 ++ [least_19101]).length), (7, .i .i64 i_18902)]) [some (1, rows cl_ci_i64o l15975), none, some (1, rows ci_i64 (l18903 ++ [least_19101])), some (1, rows ci_i64 [least_19101])] [] ⟨.inl ok58, trivial⟩ (by kernel_rfl) (by simp -implicitDefEqProofs [f19103a, f19103b]) ?_
                exact (show ∃ _, _ from ⟨(l18903 ++ [least_19101]), h2, (Ent.to 3 (by simp [fgt]) (by first | (simp; done) | simp [pT24]) (by simp) (by simp [bndT, bndV]) (by simp [bndM, bndV]))⟩)
            · rintro l19036 h2
              replace h2 : (g54_j4 i_18902 l19036).bind _ = _ := h2
              rw [g54_j4] at h2
              refine VW.evalA (C := [(58, F58)]) (tm 105 [(0, .cptr (pT24 s) 0), (4, .ref 0 0 l15975.length), (5, .i .i64 k_15974), (6, .ref 2 0 l19036.length), (7, .i .i64 (aI .i64 i_18902 1))]) [some (1, rows cl_ci_i64o l15975), none, some (1, rows ci_i64 l19036)] [] ⟨.inl ok58, trivial⟩ (by kernel_rfl) (by simp -implicitDefEqProofs) ?_
              exact (show ∃ _, _ from ⟨(aI .i64 i_18902 1, l19036), leafL h2, (Ent.to 3 (by simp [fgt]) (by first | (simp; done) | simp [pT24]) (by simp) (by simp [bndT, bndV]) (by simp [bndM, bndV]))⟩)
          · replace h2 := iteF g18904 h2
            refine VW.exit ?_
            have e_ := leafR h2
            subst w_2
            exact (show ∃ _, _ from ⟨l18903, h1, (Ent.to 3 (by simp [fgt]) (by first | (simp; done) | simp [pT24]) (by simp) (by simp [bndT, bndV]) (by simp [bndM, bndV]))⟩)
        · rintro l18369 h1
          replace h1 : (g54_j3 l15975 k_15974 l18369).bind _ = _ := h1
          rw [g54_j3] at h1
          obtain ⟨e18370, q18371, h1⟩ := bindE h1
          obtain ⟨f18371a, f18371b, f18371c, f18371d⟩ := idx_some q18371
          refine VW.evalE (C := [(58, F58)]) (tm 105 [(0, .cptr (pT24 s) 0), (4, .ref 0 0 l15975.length), (5, .i .i64 k_15974)]) [some (1, (rows cl_ci_i64o l15975).set k_15974.toNat [.ref 2 0 l18369.length]), none, some (1, rows ci_i64 l18369)] [] ⟨.inl ok58, trivial⟩ (by kernel_rfl) (by simp -implicitDefEqProofs [f18371a, f18371b, f18371c, f18371d]) (Ent.absorb (m := [some (1, (rows cl_ci_i64o l15975).set k_15974.toNat [.ref 2 0 l18369.length]), none, some (1, rows ci_i64 l18369)]) (n := 1) (n' := 1) (es := (rows cl_ci_i64o l15975).set k_15974.toNat [.ref 2 0 l18369.length]) (es' := rows ci_i64 l18369) (cs := [.ref 2 0 l18369.length]) 0 k_15974.toNat 0 2 l18369.length [some (1, rows cl_ci_i64o (l15975.set k_15974.toNat l18369)), none, none] rfl (by simp [f18371a, f18371b, f18371c, f18371d]) rfl rfl (by decide) (by simp) (by simp) (by simp)) ?_
          exact (show ∃ _, _ from ⟨(l15975.set k_15974.toNat l18369), h1, (Ent.to 2 (by simp [fgt]) (by first | (simp; done) | simp [pT24]) (by simp) (by simp [bndT, bndV]) (by simp [bndM, bndV]))⟩)
      · rintro l17572 h1
        replace h1 : (g54_j2 k_15974 l17572).bind _ = _ := h1
        rw [g54_j2] at h1
        refine VW.evalA (C := [(58, F58)]) (tm 105 [(0, .cptr (pT24 s) 0), (4, .ref 0 0 l17572.length), (5, .i .i64 (sI .i64 k_15974 1))]) [some (1, rows cl_ci_i64o l17572), none] [] ⟨.inl ok58, trivial⟩ (by kernel_rfl) (by simp -implicitDefEqProofs) ?_
        exact (show ∃ _, _ from ⟨(sI .i64 k_15974 1, l17572), leafL h1, (Ent.to 2 (by simp [fgt]) (by first | (simp; done) | simp [pT24]) (by simp) (by simp [bndT, bndV]) (by simp [bndM, bndV]))⟩)
    · replace h1 := iteF g15976 h1
      refine VW.exit ?_
      have e_ := leafR h1
      subst w_1
      exact (show ∃ _, _ from ⟨l15975, h, (Ent.to 2 (by simp [fgt]) (by first | (simp; done) | simp [pT24]) (by simp) (by simp [bndT, bndV]) (by simp [bndM, bndV]))⟩)
  · rintro l9587 h
    replace h : (g54_j1 l9587).bind _ = _ := h
    rw [g54_j1] at h
    refine VW.seq ?_
    refine VW.evalA (C := [(58, F58)]) (tm 105 [(2, .ref 0 0 l9587.length)]) [some (1, rows cl_ci_i64o l9587), none] [] ⟨.inl ok58, trivial⟩ (by kernel_rfl) (by simp -implicitDefEqProofs) ?_
    obtain rfl := leafS h
    refine VW.ret (VRet.fin ?_)
    simp [eB54]
noncomputable def g46_j1 (e5 : Int) (l665 : List Int) : Option ((List Int) × Int) :=
  some (l665, e5)
noncomputable def g46_j2 (k_1104 : Int) (at_1214 : Int) (l1215 : List Int) : Option ((Int × Int × (List Int)) ⊕ (List Int)) :=
  some (.inl (at_1214, aI .i64 k_1104 1, l1215))
noncomputable def g46_L2 (s : T24) (k_1104 : Int) (at_1103 : Int) (r1 : List (List Int)) (l1105 : List Int) : (Int) → Option ((Int) ⊕ (Int × (List Int)))
  | logs_1287 =>
    if leI logs_1287 s.most_ = true then
      (g58 s k_1104 at_1103 logs_1287).bind fun r1289 =>
      (if leI 0 r1289 = true then (idx r1 (aI .i64 k_1104 1)).bind fun e1291 => (idx e1291 r1289).bind fun e1293 => some (!eqI e1293 (-1)) else some false).bind fun w1295 =>
      (if w1295 = true then (idx s.price_ k_1104).bind fun e1296 => (idx r1 (aI .i64 k_1104 1)).bind fun e1298 => (idx e1298 r1289).bind fun e1300 => (idx r1 k_1104).bind fun e1302 => (idx e1302 at_1103).bind fun e1304 => some (eqI (aI .i64 (mI .i64 e1296 logs_1287) e1300) e1304) else some false).bind fun w1306 =>
      if w1306 = true then
        (appK 8 l1105 [logs_1287]).bind fun u1308 =>
        some (.inr (r1289, (l1105 ++ [logs_1287])))
      else
        some (.inl (aI .i64 logs_1287 1))
    else
      some (.inr (at_1103, l1105))
noncomputable def g46_L1 (s : T24) (r1 : List (List Int)) : (Int × Int × (List Int)) → Option ((Int × Int × (List Int)) ⊕ (List Int))
  | (at_1103, k_1104, l1105) =>
    if ltI k_1104 (s.need_.length : Int) = true then
      (loopO (g46_L2 s k_1104 at_1103 r1 l1105) 0).bind fun w => g46_j2 k_1104 w.1 w.2
    else
      some (.inr l1105)
noncomputable def g46 (s : T24) : Option ((List Int) × Int) :=
  (g54 s).bind fun r1 =>
  (idx r1 0).bind fun e3 =>
  (idx e3 s.first_).bind fun e5 =>
  if eqI e5 (-1) = true then
    some ([], e5)
  else
    (loopO (g46_L1 s r1) (s.first_, 0, [])).bind fun w => g46_j1 e5 w
def eA46 (a : T24) : List V := [.cptr (pT24 a) 0]
def eB46 (r : (List Int) × Int) : V := .tup [.own 1 (rows ci_i64 r.1), .i .i64 r.2]
theorem inj46 (a a' : T24) (h : eA46 a = eA46 a') : a = a' := by
  obtain ⟨i319, i320, i321, i322, i323, i324, i325⟩ := a
  obtain ⟨i326, i327, i328, i329, i330, i331, i332⟩ := a'
  simp only [eA46, pT24, List.cons.injEq, V.i.injEq, V.b.injEq, V.f.injEq, V.str.injEq, V.sl.injEq, V.agg.injEq, V.cptr.injEq, true_and, and_true] at h
  simp_all [ri ci_i64_inj]
noncomputable def F46 : List V → Option V := tells (fun a => g46 a) eA46 eB46
set_option maxRecDepth 100000 in
set_option maxHeartbeats 4000000 in
/- loop.example/g01229/spec.l07Best -/
theorem ok46 : Tells Try.prog 46 F46 := by
  refine Tells.of (by kernel_rfl) ?_
  rintro s r h
  refine VCalls.nl (VCalls.of Try.func46 rfl rfl rfl ?_)
  rw [tm_init]
  simp only [eA46, en, List.length_cons, List.length_nil, Nat.reduceAdd, Nat.reduceSub]
  replace h : (g46 s).bind some = some r := bindS h
  rw [g46] at h
  refine VW.seq ?_
  refine VW.evalA (C := [(54, F54), (58, F58)]) (tm 101 [(0, .cptr (pT24 s) 0)]) [] [] ⟨.inl ok54, .inl ok58, trivial⟩ (by kernel_rfl) (by simp -implicitDefEqProofs) ?_
  refine VW.seq ?_
  obtain ⟨r1, q2, h⟩ := bindE h
  have c2 : F54 [.cptr (pT24 s) 0] = some (.own 1 (rows cl_ci_i64o r1)) := tells_eq inj54 (a := s) q2
  refine VW.evalA (C := [(54, F54), (58, F58)]) (tm 101 [(0, .cptr (pT24 s) 0), (4, .ref 0 0 r1.length)]) [some (1, rows cl_ci_i64 r1)] [] ⟨.inl ok54, .inl ok58, trivial⟩ (by kernel_rfl) (by simp -implicitDefEqProofs [c2]) ?_
  refine VW.seq ?_
  obtain ⟨e3, q4, h⟩ := bindE h
  obtain ⟨f4a, f4b, f4c, f4d⟩ := idx_some q4
  try simp only [Int.toNat_natCast, Int.reduceToNat] at f4a f4b f4c f4d
  obtain ⟨e5, q6, h⟩ := bindE h
  obtain ⟨f6a, f6b, f6c, f6d⟩ := idx_some q6
  refine VW.evalDA (C := [(54, F54), (58, F58)]) (tm 101 [(0, .cptr (pT24 s) 0), (4, .ref 0 0 r1.length), (5, .i .i64 e5)]) [some (1, rows cl_ci_i64 r1)] [] ⟨.inl ok54, .inl ok58, trivial⟩ mixed (by kernel_rfl) (by simp -implicitDefEqProofs [f4a, f4b, f4c, f4d, f6a, f6b, f6c, f6d]) ?_
  refine VW.seq ?_
  refine VW.evalA (C := [(54, F54), (58, F58)]) (tm 101 [(0, .cptr (pT24 s) 0), (4, .ref 0 0 r1.length), (5, .i .i64 e5), (6, .ref 1 0 0)]) [some (1, rows cl_ci_i64 r1), some (1, rows ci_i64 [])] [] ⟨.inl ok54, .inl ok58, trivial⟩ (by kernel_rfl) (by simp -implicitDefEqProofs) ?_
  refine VW.seq ?_
  refine VW.seq ?_
  refine VW.evalA (C := [(54, F54), (58, F58)]) (tm 101 [(0, .cptr (pT24 s) 0), (4, .ref 0 0 r1.length), (5, .i .i64 e5), (6, .ref 1 0 0), (24, .b (eqI e5 (-1)))]) [some (1, rows cl_ci_i64 r1), some (1, rows ci_i64 [])] [] ⟨.inl ok54, .inl ok58, trivial⟩ (by kernel_rfl) (by simp -implicitDefEqProofs) ?_
  refine VW.condB (b := eqI e5 (-1)) (by simp) (fun g7 => ?_) (fun g7 => ?_)
  · replace h := iteT g7 h
    refine VW.seq ?_
    refine VW.evalA (C := [(54, F54), (58, F58)]) (tm 101 [(2, .ref 1 0 0), (3, .i .i64 e5)]) [some (1, rows cl_ci_i64 r1), some (1, rows ci_i64 [])] [] ⟨.inl ok54, .inl ok58, trivial⟩ (by kernel_rfl) (by simp -implicitDefEqProofs) ?_
    obtain rfl := leafS h
    refine VW.ret (VRet.fin ?_)
    simp [eB46]
  · replace h := iteF g7 h
    refine VW.skip ?_
    refine VW.seq ?_
    refine VW.evalA (C := [(54, F54), (58, F58)]) (tm 101 [(0, .cptr (pT24 s) 0), (4, .ref 0 0 r1.length), (5, .i .i64 e5), (6, .ref 1 0 0), (7, .i .i64 s.first_)]) [some (1, rows cl_ci_i64 r1), some (1, rows ci_i64 [])] [] ⟨.inl ok54, .inl ok58, trivial⟩ (by kernel_rfl) (by simp -implicitDefEqProofs) ?_
    refine VW.join (fun (v : List Int) => (⟨(tm 101 [(5, .i .i64 e5), (6, .ref 1 0 v.length)]), [some (1, rows cl_ci_i64 r1), some (1, rows ci_i64 v)], []⟩ : VS)) (fun v => (g46_j1 e5 (v)).bind some = some r) ?_ ?_
    · refine VW.seq ?_
      refine VW.evalA (C := [(54, F54), (58, F58)]) (tm 101 [(0, .cptr (pT24 s) 0), (4, .ref 0 0 r1.length), (5, .i .i64 e5), (6, .ref 1 0 0), (7, .i .i64 s.first_), (8, .i .i64 0)]) [some (1, rows cl_ci_i64 r1), some (1, rows ci_i64 [])] [] ⟨.inl ok54, .inl ok58, trivial⟩ (by kernel_rfl) (by simp -implicitDefEqProofs) ?_
      refine VW.block ?_
      obtain ⟨w_1, hw_1, h⟩ := bindE h
      refine VW.loopO (fun (x : Int × Int × (List Int)) => (⟨(tm 101 [(0, .cptr (pT24 s) 0), (4, .ref 0 0 r1.length), (5, .i .i64 e5), (6, .ref 1 0 x.2.2.length), (7, .i .i64 x.1), (8, .i .i64 x.2.1)]), [some (1, rows cl_ci_i64 r1), some (1, rows ci_i64 x.2.2)], []⟩ : VS)) hw_1 (Ent.to 2 (by simp [fgt]) (by first | (simp; done) | simp [pT24]) (by simp) (by simp [bndT, bndV]) (by simp [bndM, bndV])) ?_
      rintro n_1 ⟨at_1103, k_1104, l1105⟩ h1
      rw [g46_L1] at h1
      refine VW.seq ?_
      refine VW.seq ?_
      refine VW.evalA (C := [(54, F54), (58, F58)]) (tm 101 [(0, .cptr (pT24 s) 0), (4, .ref 0 0 r1.length), (5, .i .i64 e5), (6, .ref 1 0 l1105.length), (7, .i .i64 at_1103), (8, .i .i64 k_1104), (37, .b (ltI k_1104 (s.need_.length : Int)))]) [some (1, rows cl_ci_i64 r1), some (1, rows ci_i64 l1105)] [] ⟨.inl ok54, .inl ok58, trivial⟩ (by kernel_rfl) (by simp -implicitDefEqProofs) ?_
      refine VW.condB (b := ltI k_1104 (s.need_.length : Int)) (by simp) (fun g1106 => ?_) (fun g1106 => ?_)
      · replace h1 := iteT g1106 h1
        refine VW.skip ?_
        refine VW.join (fun (v : Int × (List Int)) => (⟨(tm 101 [(0, .cptr (pT24 s) 0), (4, .ref 0 0 r1.length), (5, .i .i64 e5), (6, .ref 1 0 v.2.length), (7, .i .i64 v.1), (8, .i .i64 k_1104)]), [some (1, rows cl_ci_i64 r1), some (1, rows ci_i64 v.2)], []⟩ : VS)) (fun v => (g46_j2 k_1104 (v.1) (v.2)).bind (kN (g46_L1 s r1) n_1) = some w_1) ?_ ?_
        · refine VW.block ?_
          refine VW.seq ?_
          refine VW.evalA (C := [(54, F54), (58, F58)]) (tm 101 [(0, .cptr (pT24 s) 0), (4, .ref 0 0 r1.length), (5, .i .i64 e5), (6, .ref 1 0 l1105.length), (7, .i .i64 at_1103), (8, .i .i64 k_1104), (9, .i .i64 0)]) [some (1, rows cl_ci_i64 r1), some (1, rows ci_i64 l1105)] [] ⟨.inl ok54, .inl ok58, trivial⟩ (by kernel_rfl) (by simp -implicitDefEqProofs) ?_
          refine VW.block ?_
          obtain ⟨w_2, hw_2, h1⟩ := bindE h1
          refine VW.loopO (fun (x : Int) => (⟨(tm 101 [(0, .cptr (pT24 s) 0), (4, .ref 0 0 r1.length), (5, .i .i64 e5), (6, .ref 1 0 l1105.length), (7, .i .i64 at_1103), (8, .i .i64 k_1104), (9, .i .i64 x)]), [some (1, rows cl_ci_i64 r1), some (1, rows ci_i64 l1105)], []⟩ : VS)) hw_2 (Ent.to 2 (by simp [fgt]) (by first | (simp; done) | simp [pT24]) (by simp) (by simp [bndT, bndV]) (by simp [bndM, bndV])) ?_
          rintro n_2 logs_1287 h2
          rw [g46_L2] at h2
          refine VW.seq ?_
          refine VW.seq ?_
          refine VW.evalA (C := [(54, F54), (58, F58)]) (tm 101 [(0, .cptr (pT24 s) 0), (4, .ref 0 0 r1.length), (5, .i .i64 e5), (6, .ref 1 0 l1105.length), (7, .i .i64 at_1103), (8, .i .i64 k_1104), (9, .i .i64 logs_1287), (45, .b (leI logs_1287 s.most_))]) [some (1, rows cl_ci_i64 r1), some (1, rows ci_i64 l1105)] [] ⟨.inl ok54, .inl ok58, trivial⟩ (by kernel_rfl) (by simp -implicitDefEqProofs) ?_
          refine VW.condB (b := leI logs_1287 s.most_) (by simp) (fun g1288 => ?_) (fun g1288 => ?_)
          · replace h2 := iteT g1288 h2
            refine VW.skip ?_
            refine VW.seq ?_
            refine VW.block ?_
            refine VW.seq ?_
            obtain ⟨r1289, q1290, h2⟩ := bindE h2
            have c1290 : F58 [.cptr (pT24 s) 0, .i .i64 k_1104, .i .i64 at_1103, .i .i64 logs_1287] = some (.i .i64 r1289) := tells_eq inj58 (a := (s, k_1104, at_1103, logs_1287)) q1290
            refine VW.evalA (C := [(54, F54), (58, F58)]) (tm 101 [(0, .cptr (pT24 s) 0), (4, .ref 0 0 r1.length), (5, .i .i64 e5), (6, .ref 1 0 l1105.length), (7, .i .i64 at_1103), (8, .i .i64 k_1104), (9, .i .i64 logs_1287), (10, .i .i64 r1289)]) [some (1, rows cl_ci_i64 r1), some (1, rows ci_i64 l1105)] [] ⟨.inl ok54, .inl ok58, trivial⟩ (by kernel_rfl) (by simp -implicitDefEqProofs [c1290]) ?_
            refine VW.seq ?_
            obtain ⟨w1295, q1310, h2⟩ := bindE h2
            obtain ⟨w1306, q1311, h2⟩ := bindE h2
            refine VW.evalDA (C := [(54, F54), (58, F58)]) (tm 101 [(0, .cptr (pT24 s) 0), (4, .ref 0 0 r1.length), (5, .i .i64 e5), (6, .ref 1 0 l1105.length), (7, .i .i64 at_1103), (8, .i .i64 k_1104), (9, .i .i64 logs_1287), (10, .i .i64 r1289), (93, .b w1306)]) [some (1, rows cl_ci_i64 r1), some (1, rows ci_i64 l1105)] [] ⟨.inl ok54, .inl ok58, trivial⟩ mixed (by kernel_rfl) (by
                rcases Bool.eq_false_or_eq_true (leI 0 r1289) with q1312 | q1312
                · first
                  | (simp at q1312; done)
                  | (rw [if_pos q1312] at q1310
                     obtain ⟨e1291, q1292, q1310⟩ := bindQ q1310
                     obtain ⟨f1292a, f1292b, f1292c, f1292d⟩ := idx_some q1292
                     obtain ⟨e1293, q1294, q1310⟩ := bindQ q1310
                     obtain ⟨f1294a, f1294b, f1294c, f1294d⟩ := idx_some q1294
                     have d1313 : w1295 = _ := (Option.some.inj q1310).symm
                     rcases Bool.eq_false_or_eq_true w1295 with q1314 | q1314
                     · first
                       | (simp [d1313] at q1314; done)
                       | (rw [if_pos q1314] at q1311
                          try simp only [d1313] at q1314
                          obtain ⟨e1296, q1297, q1311⟩ := bindQ q1311
                          obtain ⟨f1297a, f1297b, f1297c, f1297d⟩ := idx_some q1297
                          obtain ⟨e1298, q1299, q1311⟩ := bindQ q1311
                          have d1315 : e1298 = e1291 := Option.some.inj (q1299.symm.trans q1292)
                          obtain ⟨e1300, q1301, q1311⟩ := bindQ q1311
                          have d1316 : e1300 = e1293 := by have t_ := q1301; simp only [d1315] at t_; exact Option.some.inj (t_.symm.trans q1294)
                          obtain ⟨e1302, q1303, q1311⟩ := bindQ q1311
                          obtain ⟨f1303a, f1303b, f1303c, f1303d⟩ := idx_some q1303
                          obtain ⟨e1304, q1305, q1311⟩ := bindQ q1311
                          obtain ⟨f1305a, f1305b, f1305c, f1305d⟩ := idx_some q1305
                          have d1317 : w1306 = _ := (Option.some.inj q1311).symm
                          simp -implicitDefEqProofs [q1312, f1292a, f1292b, f1292c, f1292d, f1294a, f1294b, f1294c, f1294d, d1313, q1314, f1297a, f1297b, f1297c, f1297d, d1315, d1316, f1303a, f1303b, f1303c, f1303d, f1305a, f1305b, f1305c, f1305d, d1317])
                     · first
                       | (simp [d1313] at q1314; done)
                       | (rw [if_neg (by rw [q1314]; exact Bool.false_ne_true)] at q1311
                          try simp only [d1313] at q1314
                          have d1318 : w1306 = _ := (Option.some.inj q1311).symm
                          simp -implicitDefEqProofs [q1312, f1292a, f1292b, f1292c, f1292d, f1294a, f1294b, f1294c, f1294d, d1313, q1314, d1318]))
                · first
                  | (simp at q1312; done)
                  | (rw [if_neg (by rw [q1312]; exact Bool.false_ne_true)] at q1310
                     have d1319 : w1295 = _ := (Option.some.inj q1310).symm
                     rcases Bool.eq_false_or_eq_true w1295 with q1320 | q1320
                     · first
                       | (simp [d1319] at q1320; done)
                       | (rw [if_pos q1320] at q1311
                          try simp only [d1319] at q1320
                          obtain ⟨e1296, q1297, q1311⟩ := bindQ q1311
                          obtain ⟨f1297a, f1297b, f1297c, f1297d⟩ := idx_some q1297
                          obtain ⟨e1298, q1299, q1311⟩ := bindQ q1311
                          obtain ⟨f1299a, f1299b, f1299c, f1299d⟩ := idx_some q1299
                          obtain ⟨e1300, q1301, q1311⟩ := bindQ q1311
                          obtain ⟨f1301a, f1301b, f1301c, f1301d⟩ := idx_some q1301
                          obtain ⟨e1302, q1303, q1311⟩ := bindQ q1311
                          obtain ⟨f1303a, f1303b, f1303c, f1303d⟩ := idx_some q1303
                          obtain ⟨e1304, q1305, q1311⟩ := bindQ q1311
                          obtain ⟨f1305a, f1305b, f1305c, f1305d⟩ := idx_some q1305
                          have d1321 : w1306 = _ := (Option.some.inj q1311).symm
                          simp -implicitDefEqProofs [q1312, d1319, q1320, f1297a, f1297b, f1297c, f1297d, f1299a, f1299b, f1299c, f1299d, f1301a, f1301b, f1301c, f1301d, f1303a, f1303b, f1303c, f1303d, f1305a, f1305b, f1305c, f1305d, d1321])
                     · first
                       | (simp [d1319] at q1320; done)
                       | (rw [if_neg (by rw [q1320]; exact Bool.false_ne_true)] at q1311
                          try simp only [d1319] at q1320
                          have d1322 : w1306 = _ := (Option.some.inj q1311).symm
                          simp -implicitDefEqProofs [q1312, d1319, q1320, d1322]))) ?_
            refine VW.condB (b := w1306) (by simp) (fun g1307 => ?_) (fun g1307 => ?_)
            · replace h2 := iteT g1307 h2
              refine VW.seq ?_
              obtain ⟨u1308, q1309, h2⟩ := bindE h2
              obtain ⟨f1309a, f1309b⟩ := appK_some q1309
              try simp only [Int.toNat_natCast, Int.reduceToNat, List.length_cons, List.length_nil, Nat.reduceAdd, Nat.zero_add] at f1309a f1309b
              refine VW.evalA (C := [(54, F54), (58, F58)]) (tm 101 [(0, .cptr (pT24 s) 0), (4, .ref 0 0 r1.length), (5, .i .i64 e5), (6, .ref 1 0 (l1105 ++ [logs_1287]).length), (8, .i .i64 k_1104), (10, .i .i64 r1289)]) [some (1, rows cl_ci_i64 r1), some (1, rows ci_i64 (l1105 ++ [logs_1287])), some (1, rows ci_i64 [logs_1287])] [] ⟨.inl ok54, .inl ok58, trivial⟩ (by kernel_rfl) (by simp -implicitDefEqProofs [f1309a, f1309b]) ?_
              refine VW.seq ?_
              refine VW.evalA (C := [(54, F54), (58, F58)]) (tm 101 [(0, .cptr (pT24 s) 0), (4, .ref 0 0 r1.length), (5, .i .i64 e5), (6, .ref 1 0 (l1105 ++ [logs_1287]).length), (7, .i .i64 r1289), (8, .i .i64 k_1104)]) [some (1, rows cl_ci_i64 r1), some (1, rows ci_i64 (l1105 ++ [logs_1287])), some (1, rows ci_i64 [logs_1287])] [] ⟨.inl ok54, .inl ok58, trivial⟩ (by kernel_rfl) (by simp -implicitDefEqProofs) ?_
              refine VW.exit ?_
              have e_ := leafR h2
              subst w_2
              exact (show ∃ _, _ from ⟨(r1289, (l1105 ++ [logs_1287])), h1, (Ent.to 2 (by simp [fgt]) (by first | (simp; done) | simp [pT24]) (by simp) (by simp [bndT, bndV]) (by simp [bndM, bndV]))⟩)
            · replace h2 := iteF g1307 h2
              refine VW.skip ?_
              refine VW.evalA (C := [(54, F54), (58, F58)]) (tm 101 [(0, .cptr (pT24 s) 0), (4, .ref 0 0 r1.length), (5, .i .i64 e5), (6, .ref 1 0 l1105.length), (7, .i .i64 at_1103), (8, .i .i64 k_1104), (9, .i .i64 (aI .i64 logs_1287 1))]) [some (1, rows cl_ci_i64 r1), some (1, rows ci_i64 l1105)] [] ⟨.inl ok54, .inl ok58, trivial⟩ (by kernel_rfl) (by simp -implicitDefEqProofs) ?_
              exact (show ∃ _, _ from ⟨aI .i64 logs_1287 1, leafL h2, (Ent.to 2 (by simp [fgt]) (by first | (simp; done) | simp [pT24]) (by simp) (by simp [bndT, bndV]) (by simp [bndM, bndV]))⟩)
          · replace h2 := iteF g1288 h2
            refine VW.exit ?_
            have e_ := leafR h2
            subst w_2
            exact (show ∃ _, _ from ⟨(at_1103, l1105), h1, (Ent.to 2 (by simp [fgt]) (by first | (simp; done) | simp [pT24]) (by simp) (by simp [bndT, bndV]) (by simp [bndM, bndV]))⟩)
        · rintro ⟨at_1214, l1215⟩ h1
          replace h1 : (g46_j2 k_1104 at_1214 l1215).bind _ = _ := h1
          rw [g46_j2] at h1
          refine VW.evalA (C := [(54, F54), (58, F58)]) (tm 101 [(0, .cptr (pT24 s) 0), (4, .ref 0 0 r1.length), (5, .i .i64 e5), (6, .ref 1 0 l1215.length), (7, .i .i64 at_1214), (8, .i .i64 (aI .i64 k_1104 1))]) [some (1, rows cl_ci_i64 r1), some (1, rows ci_i64 l1215)] [] ⟨.inl ok54, .inl ok58, trivial⟩ (by kernel_rfl) (by simp -implicitDefEqProofs) ?_
          exact (show ∃ _, _ from ⟨(at_1214, aI .i64 k_1104 1, l1215), leafL h1, (Ent.to 2 (by simp [fgt]) (by first | (simp; done) | simp [pT24]) (by simp) (by simp [bndT, bndV]) (by simp [bndM, bndV]))⟩)
      · replace h1 := iteF g1106 h1
        refine VW.exit ?_
        have e_ := leafR h1
        subst w_1
        exact (show ∃ _, _ from ⟨l1105, h, (Ent.to 2 (by simp [fgt]) (by first | (simp; done) | simp [pT24]) (by simp) (by simp [bndT, bndV]) (by simp [bndM, bndV]))⟩)
    · rintro l665 h
      replace h : (g46_j1 e5 l665).bind _ = _ := h
      rw [g46_j1] at h
      refine VW.seq ?_
      refine VW.evalA (C := [(54, F54), (58, F58)]) (tm 101 [(2, .ref 1 0 l665.length), (3, .i .i64 e5)]) [some (1, rows cl_ci_i64 r1), some (1, rows ci_i64 l665)] [] ⟨.inl ok54, .inl ok58, trivial⟩ (by kernel_rfl) (by simp -implicitDefEqProofs) ?_
      obtain rfl := leafS h
      refine VW.ret (VRet.fin ?_)
      simp [eB46]
noncomputable def g16 (s : T24) (plan : List Int) : Option (Int × Int) :=
  (g45 s plan).bind fun r1 =>
  if (!eqI r1.2 0) = true then
    some (0, r1.2)
  else
    (g46 s).bind fun r4 =>
    some (sI .i64 r1.1 r4.2, 0)
def eA16 (a : T24 × (List Int)) : List V := [.agg (pT24 a.1), .sl 1 (rows ci_i64 a.2)]
def eB16 (r : Int × Int) : V := .tup [.i .i64 r.1, .i .i64 r.2]
theorem inj16 (a a' : T24 × (List Int)) (h : eA16 a = eA16 a') : a = a' := by
  obtain ⟨⟨i333, i334, i335, i336, i337, i338, i339⟩, i340⟩ := a
  obtain ⟨⟨i341, i342, i343, i344, i345, i346, i347⟩, i348⟩ := a'
  simp only [eA16, pT24, List.cons.injEq, V.i.injEq, V.b.injEq, V.f.injEq, V.str.injEq, V.sl.injEq, V.agg.injEq, V.cptr.injEq, true_and, and_true] at h
  simp_all [ri ci_i64_inj]
noncomputable def F16 : List V → Option V := tells (fun a => g16 a.1 a.2) eA16 eB16
set_option maxRecDepth 100000 in
set_option maxHeartbeats 4000000 in
/- loop.example/g01229/spec.RegretOf -/
theorem ok16 : Tells Try.prog 16 F16 := by
  refine Tells.of (by kernel_rfl) ?_
  rintro ⟨s, plan⟩ r h
  refine VCalls.nl (VCalls.of Try.func16 rfl rfl rfl ?_)
  rw [tm_init]
  simp only [eA16, en, List.length_cons, List.length_nil, Nat.reduceAdd, Nat.reduceSub]
  replace h : (g16 s plan).bind some = some r := bindS h
  rw [g16] at h
  refine VW.seq ?_
  refine VW.evalA (C := [(45, F45), (46, F46)]) (tm 25 [(1, .sl 1 (rows ci_i64 plan)), (2, .ptr 0 0 0)]) [some (7, [(pT24 s)])] [] ⟨.inl ok45, .inl ok46, trivial⟩ (by kernel_rfl) (by simp -implicitDefEqProofs) ?_
  refine VW.seq ?_
  obtain ⟨r1, q2, h⟩ := bindE h
  have c2 : F45 [.cptr (pT24 s) 0, .sl 1 (rows ci_i64 plan)] = some (.tup [.i .i64 r1.1, .i .i64 r1.2]) := tells_eq inj45 (a := (s, plan)) q2
  refine VW.evalA (C := [(45, F45), (46, F46)]) (tm 25 [(2, .ptr 0 0 0), (6, .i .i64 r1.1), (7, .i .i64 r1.2)]) [some (7, [(pT24 s)])] [] ⟨.inl ok45, .inl ok46, trivial⟩ (by kernel_rfl) (by simp -implicitDefEqProofs [c2]) ?_
  refine VW.seq ?_
  refine VW.seq ?_
  refine VW.evalA (C := [(45, F45), (46, F46)]) (tm 25 [(2, .ptr 0 0 0), (6, .i .i64 r1.1), (7, .i .i64 r1.2), (16, .b (!eqI r1.2 0))]) [some (7, [(pT24 s)])] [] ⟨.inl ok45, .inl ok46, trivial⟩ (by kernel_rfl) (by simp -implicitDefEqProofs) ?_
  refine VW.condB (b := (!eqI r1.2 0)) (by simp) (fun g3 => ?_) (fun g3 => ?_)
  · replace h := iteT g3 h
    refine VW.seq ?_
    refine VW.evalA (C := [(45, F45), (46, F46)]) (tm 25 [(4, .i .i64 0), (5, .i .i64 r1.2)]) [some (7, [(pT24 s)])] [] ⟨.inl ok45, .inl ok46, trivial⟩ (by kernel_rfl) (by simp -implicitDefEqProofs) ?_
    obtain rfl := leafS h
    refine VW.ret (VRet.fin ?_)
    simp [eB16]
  · replace h := iteF g3 h
    refine VW.skip ?_
    refine VW.seq ?_
    obtain ⟨r4, q5, h⟩ := bindE h
    have c5 : F46 [.cptr (pT24 s) 0] = some (.tup [.own 1 (rows ci_i64 r4.1), .i .i64 r4.2]) := tells_eq inj46 (a := s) q5
    refine VW.evalA (C := [(45, F45), (46, F46)]) (tm 25 [(6, .i .i64 r1.1), (9, .i .i64 r4.2)]) [some (7, [(pT24 s)]), some (1, rows ci_i64 r4.1)] [] ⟨.inl ok45, .inl ok46, trivial⟩ (by kernel_rfl) (by simp -implicitDefEqProofs [c5]) ?_
    refine VW.seq ?_
    refine VW.evalA (C := [(45, F45), (46, F46)]) (tm 25 [(4, .i .i64 (sI .i64 r1.1 r4.2)), (5, .i .i64 0)]) [some (7, [(pT24 s)]), some (1, rows ci_i64 r4.1)] [] ⟨.inl ok45, .inl ok46, trivial⟩ (by kernel_rfl) (by simp -implicitDefEqProofs) ?_
    obtain rfl := leafS h
    refine VW.ret (VRet.fin ?_)
    simp [eB16]
noncomputable def g65_j1 : Option (Int) :=
  some 0
noncomputable def g65_L1 (plan : List Int) (s : T24) : (Int) → Option ((Int) ⊕ ((Unit) ⊕ (Int)))
  | x_28 =>
    if ltI x_28 (plan.length : Int) = true then
      (idx plan x_28).bind fun e30 =>
      if (ltI e30 0 || ltI s.most_ e30) = true then
        some (.inr (.inr 2))
      else
        some (.inl (aI .i64 x_28 1))
    else
      some (.inr (.inl ()))
noncomputable def g65 (s : T24) (plan : List Int) : Option (Int) :=
  (g42 s).bind fun r1 =>
  if (!r1) = true then
    some 1
  else
    if (!eqI (plan.length : Int) (s.need_.length : Int)) = true then
      some 2
    else
      (loopO (g65_L1 plan s) 0).bind fun w => match w with
        | .inl y => g65_j1
        | .inr r => some r
def eA65 (a : T24 × (List Int)) : List V := [.agg (pT24 a.1), .sl 1 (rows ci_i64 a.2)]
def eB65 (r : Int) : V := .i .i64 r
theorem inj65 (a a' : T24 × (List Int)) (h : eA65 a = eA65 a') : a = a' := by
  obtain ⟨⟨i349, i350, i351, i352, i353, i354, i355⟩, i356⟩ := a
  obtain ⟨⟨i357, i358, i359, i360, i361, i362, i363⟩, i364⟩ := a'
  simp only [eA65, pT24, List.cons.injEq, V.i.injEq, V.b.injEq, V.f.injEq, V.str.injEq, V.sl.injEq, V.agg.injEq, V.cptr.injEq, true_and, and_true] at h
  simp_all [ri ci_i64_inj]
noncomputable def F65 : List V → Option V := tells (fun a => g65 a.1 a.2) eA65 eB65
set_option maxRecDepth 100000 in
set_option maxHeartbeats 4000000 in
/- loop.example/g01229/impl.planCode -/
theorem ok65 : Tells Try.prog 65 F65 := by
  refine Tells.of (by kernel_rfl) ?_
  rintro ⟨s, plan⟩ r h
  refine VCalls.nl (VCalls.of Try.func65 rfl rfl rfl ?_)
  rw [tm_init]
  simp only [eA65, en, List.length_cons, List.length_nil, Nat.reduceAdd, Nat.reduceSub]
  replace h : (g65 s plan).bind some = some r := bindS h
  rw [g65] at h
  refine VW.seq ?_
  refine VW.evalA (C := [(42, F42)]) (tm 31 [(1, .sl 1 (rows ci_i64 plan)), (2, .ptr 0 0 0)]) [some (7, [(pT24 s)])] [] ⟨.inl ok42, trivial⟩ (by kernel_rfl) (by simp -implicitDefEqProofs) ?_
  refine VW.seq ?_
  refine VW.seq ?_
  obtain ⟨r1, q2, h⟩ := bindE h
  have c2 : F42 [.agg (pT24 s)] = some (.b r1) := tells_eq inj42 (a := s) q2
  refine VW.evalA (C := [(42, F42)]) (tm 31 [(1, .sl 1 (rows ci_i64 plan)), (2, .ptr 0 0 0), (9, .b (!r1))]) [some (7, [(pT24 s)])] [] ⟨.inl ok42, trivial⟩ (by kernel_rfl) (by simp -implicitDefEqProofs [c2]) ?_
  refine VW.condB (b := (!r1)) (by simp) (fun g3 => ?_) (fun g3 => ?_)
  · replace h := iteT g3 h
    refine VW.seq ?_
    refine VW.evalA (C := [(42, F42)]) (tm 31 [(4, .i .i64 1)]) [some (7, [(pT24 s)])] [] ⟨.inl ok42, trivial⟩ (by kernel_rfl) (by simp -implicitDefEqProofs) ?_
    obtain rfl := leafS h
    refine VW.ret (VRet.fin ?_)
    simp [eB65]
  · replace h := iteF g3 h
    refine VW.skip ?_
    refine VW.seq ?_
    refine VW.seq ?_
    refine VW.evalA (C := [(42, F42)]) (tm 31 [(1, .sl 1 (rows ci_i64 plan)), (2, .ptr 0 0 0), (15, .b (!eqI (plan.length : Int) (s.need_.length : Int)))]) [some (7, [(pT24 s)])] [] ⟨.inl ok42, trivial⟩ (by kernel_rfl) (by simp -implicitDefEqProofs) ?_
    refine VW.condB (b := (!eqI (plan.length : Int) (s.need_.length : Int))) (by simp) (fun g4 => ?_) (fun g4 => ?_)
    · replace h := iteT g4 h
      refine VW.seq ?_
      refine VW.evalA (C := [(42, F42)]) (tm 31 [(4, .i .i64 2)]) [some (7, [(pT24 s)])] [] ⟨.inl ok42, trivial⟩ (by kernel_rfl) (by simp -implicitDefEqProofs) ?_
      obtain rfl := leafS h
      refine VW.ret (VRet.fin ?_)
      simp [eB65]
    · replace h := iteF g4 h
      refine VW.skip ?_
      refine VW.join (fun (v : Unit) => (⟨(tm 31 []), [some (7, [(pT24 s)])], []⟩ : VS)) (fun v => (g65_j1).bind some = some r) ?_ ?_
      · refine VW.seq ?_
        refine VW.evalA (C := [(42, F42)]) (tm 31 [(2, .ptr 0 0 0), (16, .sl 1 (rows ci_i64 plan)), (17, .i .i64 (plan.length : Int)), (18, .i .i64 0)]) [some (7, [(pT24 s)])] [] ⟨.inl ok42, trivial⟩ (by kernel_rfl) (by simp -implicitDefEqProofs) ?_
        refine VW.block ?_
        obtain ⟨w_1, hw_1, h⟩ := bindE h
        refine VW.loopO (fun (x : Int) => (⟨(tm 31 [(2, .ptr 0 0 0), (16, .sl 1 (rows ci_i64 plan)), (17, .i .i64 (plan.length : Int)), (18, .i .i64 x)]), [some (7, [(pT24 s)])], []⟩ : VS)) hw_1 (Ent.to 1 (by simp [fgt]) (by first | (simp; done) | simp [pT24]) (by simp) (by simp [bndT, bndV]) (by simp [bndM, bndV])) ?_
        rintro n_1 x_28 h1
        rw [g65_L1] at h1
        refine VW.seq ?_
        refine VW.evalA (C := [(42, F42)]) (tm 31 [(2, .ptr 0 0 0), (16, .sl 1 (rows ci_i64 plan)), (17, .i .i64 (plan.length : Int)), (18, .i .i64 x_28), (19, .b (ltI x_28 (plan.length : Int)))]) [some (7, [(pT24 s)])] [] ⟨.inl ok42, trivial⟩ (by kernel_rfl) (by simp -implicitDefEqProofs) ?_
        refine VW.seq ?_
        refine VW.condB (b := ltI x_28 (plan.length : Int)) (by simp) (fun g29 => ?_) (fun g29 => ?_)
        · replace h1 := iteT g29 h1
          refine VW.skip ?_
          refine VW.seq ?_
          refine VW.block ?_
          refine VW.seq ?_
          obtain ⟨e30, q31, h1⟩ := bindE h1
          obtain ⟨f31a, f31b, f31c, f31d⟩ := idx_some q31
          refine VW.evalA (C := [(42, F42)]) (tm 31 [(2, .ptr 0 0 0), (6, .i .i64 e30), (16, .sl 1 (rows ci_i64 plan)), (17, .i .i64 (plan.length : Int)), (18, .i .i64 x_28)]) [some (7, [(pT24 s)])] [] ⟨.inl ok42, trivial⟩ (by kernel_rfl) (by simp -implicitDefEqProofs [f31a, f31b, f31c, f31d]) ?_
          refine VW.seq ?_
          refine VW.evalA (C := [(42, F42)]) (tm 31 [(2, .ptr 0 0 0), (16, .sl 1 (rows ci_i64 plan)), (17, .i .i64 (plan.length : Int)), (18, .i .i64 x_28), (29, .b (ltI e30 0 || ltI s.most_ e30))]) [some (7, [(pT24 s)])] [] ⟨.inl ok42, trivial⟩ (by kernel_rfl) (by simp -implicitDefEqProofs) ?_
          refine VW.condB (b := (ltI e30 0 || ltI s.most_ e30)) (by simp) (fun g32 => ?_) (fun g32 => ?_)
          · replace h1 := iteT g32 h1
            refine VW.seq ?_
            refine VW.evalA (C := [(42, F42)]) (tm 31 [(4, .i .i64 2)]) [some (7, [(pT24 s)])] [] ⟨.inl ok42, trivial⟩ (by kernel_rfl) (by simp -implicitDefEqProofs) ?_
            have e_ := leafR h1
            subst w_1
            obtain rfl := leafS h
            refine VW.ret (VRet.fin ?_)
            simp [eB65]
          · replace h1 := iteF g32 h1
            refine VW.skip ?_
            refine VW.evalA (C := [(42, F42)]) (tm 31 [(2, .ptr 0 0 0), (16, .sl 1 (rows ci_i64 plan)), (17, .i .i64 (plan.length : Int)), (18, .i .i64 (aI .i64 x_28 1))]) [some (7, [(pT24 s)])] [] ⟨.inl ok42, trivial⟩ (by kernel_rfl) (by simp -implicitDefEqProofs) ?_
            exact (show ∃ _, _ from ⟨aI .i64 x_28 1, leafL h1, (Ent.to 1 (by simp [fgt]) (by first | (simp; done) | simp [pT24]) (by simp) (by simp [bndT, bndV]) (by simp [bndM, bndV]))⟩)
        · replace h1 := iteF g29 h1
          refine VW.exit ?_
          have e_ := leafR h1
          subst w_1
          exact (show ∃ _, _ from ⟨(), h, (Ent.to 1 (by simp [fgt]) (by first | (simp; done) | simp [pT24]) (by simp) (by simp [bndT, bndV]) (by simp [bndM, bndV]))⟩)
      · rintro _ h
        replace h : (g65_j1).bind _ = _ := h
        rw [g65_j1] at h
        refine VW.seq ?_
        refine VW.evalA (C := [(42, F42)]) (tm 31 [(4, .i .i64 0)]) [some (7, [(pT24 s)])] [] ⟨.inl ok42, trivial⟩ (by kernel_rfl) (by simp -implicitDefEqProofs) ?_
        obtain rfl := leafS h
        refine VW.ret (VRet.fin ?_)
        simp [eB65]
noncomputable def g61_j1 (l34 : List Int) : Option ((List Int) × Int) :=
  some (l34, 0)
noncomputable def g61_L1 (plan : List Int) (s : T24) : (Int × Int × (List Int)) → Option ((Int × Int × (List Int)) ⊕ ((List Int) ⊕ ((List Int) × Int)))
  | (store_54, x_55, l56) =>
    if ltI x_55 (plan.length : Int) = true then
      (idx plan x_55).bind fun e58 =>
      (g53 s x_55 store_54 e58).bind fun r60 =>
      if (!r60.2) = true then
        some (.inr (.inr ([], 4)))
      else
        (appK 8 l56 [r60.1]).bind fun u63 =>
        some (.inl (r60.1, aI .i64 x_55 1, (l56 ++ [r60.1])))
    else
      some (.inr (.inl l56))
noncomputable def g61 (s : T24) (plan : List Int) : Option ((List Int) × Int) :=
  (g65 s plan).bind fun r1 =>
  if (!eqI r1 0) = true then
    some ([], r1)
  else
    (loopO (g61_L1 plan s) (s.first_, 0, [])).bind fun w => match w with
      | .inl y => g61_j1 y
      | .inr r => some r
def eA61 (a : T24 × (List Int)) : List V := [.agg (pT24 a.1), .sl 1 (rows ci_i64 a.2)]
def eB61 (r : (List Int) × Int) : V := .tup [.own 1 (rows ci_i64 r.1), .i .i64 r.2]
theorem inj61 (a a' : T24 × (List Int)) (h : eA61 a = eA61 a') : a = a' := by
  obtain ⟨⟨i365, i366, i367, i368, i369, i370, i371⟩, i372⟩ := a
  obtain ⟨⟨i373, i374, i375, i376, i377, i378, i379⟩, i380⟩ := a'
  simp only [eA61, pT24, List.cons.injEq, V.i.injEq, V.b.injEq, V.f.injEq, V.str.injEq, V.sl.injEq, V.agg.injEq, V.cptr.injEq, true_and, and_true] at h
  simp_all [ri ci_i64_inj]
noncomputable def F61 : List V → Option V := tells (fun a => g61 a.1 a.2) eA61 eB61
set_option maxRecDepth 100000 in
set_option maxHeartbeats 4000000 in
/- loop.example/g01229/impl.StoresOf -/
theorem ok61 : Tells Try.prog 61 F61 := by
  refine Tells.of (by kernel_rfl) ?_
  rintro ⟨s, plan⟩ r h
  refine VCalls.nl (VCalls.of Try.func61 rfl rfl rfl ?_)
  rw [tm_init]
  simp only [eA61, en, List.length_cons, List.length_nil, Nat.reduceAdd, Nat.reduceSub]
  replace h : (g61 s plan).bind some = some r := bindS h
  rw [g61] at h
  refine VW.seq ?_
  refine VW.evalA (C := [(53, F53), (65, F65)]) (tm 46 [(1, .sl 1 (rows ci_i64 plan)), (2, .ptr 0 0 0)]) [some (7, [(pT24 s)])] [] ⟨.inl ok53, .inl ok65, trivial⟩ (by kernel_rfl) (by simp -implicitDefEqProofs) ?_
  refine VW.seq ?_
  refine VW.seq ?_
  obtain ⟨r1, q2, h⟩ := bindE h
  have c2 : F65 [.agg (pT24 s), .sl 1 (rows ci_i64 plan)] = some (.i .i64 r1) := tells_eq inj65 (a := (s, plan)) q2
  refine VW.evalA (C := [(53, F53), (65, F65)]) (tm 46 [(1, .sl 1 (rows ci_i64 plan)), (2, .ptr 0 0 0), (6, .i .i64 r1)]) [some (7, [(pT24 s)])] [] ⟨.inl ok53, .inl ok65, trivial⟩ (by kernel_rfl) (by simp -implicitDefEqProofs [c2]) ?_
  refine VW.seq ?_
  refine VW.evalA (C := [(53, F53), (65, F65)]) (tm 46 [(1, .sl 1 (rows ci_i64 plan)), (2, .ptr 0 0 0), (6, .i .i64 r1), (17, .b (!eqI r1 0))]) [some (7, [(pT24 s)])] [] ⟨.inl ok53, .inl ok65, trivial⟩ (by kernel_rfl) (by simp -implicitDefEqProofs) ?_
  refine VW.condB (b := (!eqI r1 0)) (by simp) (fun g3 => ?_) (fun g3 => ?_)
  · replace h := iteT g3 h
    refine VW.seq ?_
    refine VW.evalA (C := [(53, F53), (65, F65)]) (tm 46 [(4, .nil), (5, .i .i64 r1)]) [some (7, [(pT24 s)])] [] ⟨.inl ok53, .inl ok65, trivial⟩ (by kernel_rfl) (by simp -implicitDefEqProofs) ?_
    obtain rfl := leafS h
    refine VW.ret (VRet.fin ?_)
    simp [eB61]
  · replace h := iteF g3 h
    refine VW.skip ?_
    refine VW.seq ?_
    refine VW.evalDA (C := [(53, F53), (65, F65)]) (tm 46 [(1, .sl 1 (rows ci_i64 plan)), (2, .ptr 0 0 0), (7, .ref 1 0 0), (8, .i .i64 s.first_)]) [some (7, [(pT24 s)]), some (1, rows ci_i64 [])] [] ⟨.inl ok53, .inl ok65, trivial⟩ mixed (by kernel_rfl) (by simp -implicitDefEqProofs) ?_
    refine VW.join (fun (v : List Int) => (⟨(tm 46 [(7, .ref 1 0 v.length)]), [some (7, [(pT24 s)]), some (1, rows ci_i64 v)], []⟩ : VS)) (fun v => (g61_j1 (v)).bind some = some r) ?_ ?_
    · refine VW.seq ?_
      refine VW.evalA (C := [(53, F53), (65, F65)]) (tm 46 [(2, .ptr 0 0 0), (7, .ref 1 0 0), (8, .i .i64 s.first_), (22, .sl 1 (rows ci_i64 plan)), (23, .i .i64 (plan.length : Int)), (24, .i .i64 0)]) [some (7, [(pT24 s)]), some (1, rows ci_i64 [])] [] ⟨.inl ok53, .inl ok65, trivial⟩ (by kernel_rfl) (by simp -implicitDefEqProofs) ?_
      refine VW.block ?_
      obtain ⟨w_1, hw_1, h⟩ := bindE h
      refine VW.loopO (fun (x : Int × Int × (List Int)) => (⟨(tm 46 [(2, .ptr 0 0 0), (7, .ref 1 0 x.2.2.length), (8, .i .i64 x.1), (22, .sl 1 (rows ci_i64 plan)), (23, .i .i64 (plan.length : Int)), (24, .i .i64 x.2.1)]), [some (7, [(pT24 s)]), some (1, rows ci_i64 x.2.2)], []⟩ : VS)) hw_1 (Ent.to 2 (by simp [fgt]) (by first | (simp; done) | simp [pT24]) (by simp) (by simp [bndT, bndV]) (by simp [bndM, bndV])) ?_
      rintro n_1 ⟨store_54, x_55, l56⟩ h1
      rw [g61_L1] at h1
      refine VW.seq ?_
      refine VW.evalA (C := [(53, F53), (65, F65)]) (tm 46 [(2, .ptr 0 0 0), (7, .ref 1 0 l56.length), (8, .i .i64 store_54), (22, .sl 1 (rows ci_i64 plan)), (23, .i .i64 (plan.length : Int)), (24, .i .i64 x_55), (25, .b (ltI x_55 (plan.length : Int)))]) [some (7, [(pT24 s)]), some (1, rows ci_i64 l56)] [] ⟨.inl ok53, .inl ok65, trivial⟩ (by kernel_rfl) (by simp -implicitDefEqProofs) ?_
      refine VW.seq ?_
      refine VW.condB (b := ltI x_55 (plan.length : Int)) (by simp) (fun g57 => ?_) (fun g57 => ?_)
      · replace h1 := iteT g57 h1
        refine VW.skip ?_
        refine VW.seq ?_
        refine VW.block ?_
        refine VW.seq ?_
        obtain ⟨e58, q59, h1⟩ := bindE h1
        obtain ⟨f59a, f59b, f59c, f59d⟩ := idx_some q59
        refine VW.evalA (C := [(53, F53), (65, F65)]) (tm 46 [(2, .ptr 0 0 0), (7, .ref 1 0 l56.length), (8, .i .i64 store_54), (9, .i .i64 x_55), (10, .i .i64 e58), (22, .sl 1 (rows ci_i64 plan)), (23, .i .i64 (plan.length : Int)), (24, .i .i64 x_55)]) [some (7, [(pT24 s)]), some (1, rows ci_i64 l56)] [] ⟨.inl ok53, .inl ok65, trivial⟩ (by kernel_rfl) (by simp -implicitDefEqProofs [f59a, f59b, f59c, f59d]) ?_
        refine VW.seq ?_
        obtain ⟨r60, q61, h1⟩ := bindE h1
        have c61 : F53 [.agg (pT24 s), .i .i64 x_55, .i .i64 store_54, .i .i64 e58] = some (.tup [.i .i64 r60.1, .b r60.2]) := tells_eq inj53 (a := (s, x_55, store_54, e58)) q61
        refine VW.evalA (C := [(53, F53), (65, F65)]) (tm 46 [(2, .ptr 0 0 0), (7, .ref 1 0 l56.length), (11, .i .i64 r60.1), (12, .b r60.2), (22, .sl 1 (rows ci_i64 plan)), (23, .i .i64 (plan.length : Int)), (24, .i .i64 x_55)]) [some (7, [(pT24 s)]), some (1, rows ci_i64 l56)] [] ⟨.inl ok53, .inl ok65, trivial⟩ (by kernel_rfl) (by simp -implicitDefEqProofs [c61]) ?_
        refine VW.seq ?_
        refine VW.seq ?_
        refine VW.evalA (C := [(53, F53), (65, F65)]) (tm 46 [(2, .ptr 0 0 0), (7, .ref 1 0 l56.length), (11, .i .i64 r60.1), (22, .sl 1 (rows ci_i64 plan)), (23, .i .i64 (plan.length : Int)), (24, .i .i64 x_55), (38, .b (!r60.2))]) [some (7, [(pT24 s)]), some (1, rows ci_i64 l56)] [] ⟨.inl ok53, .inl ok65, trivial⟩ (by kernel_rfl) (by simp -implicitDefEqProofs) ?_
        refine VW.condB (b := (!r60.2)) (by simp) (fun g62 => ?_) (fun g62 => ?_)
        · replace h1 := iteT g62 h1
          refine VW.seq ?_
          refine VW.evalA (C := [(53, F53), (65, F65)]) (tm 46 [(4, .nil), (5, .i .i64 4)]) [some (7, [(pT24 s)]), some (1, rows ci_i64 l56)] [] ⟨.inl ok53, .inl ok65, trivial⟩ (by kernel_rfl) (by simp -implicitDefEqProofs) ?_
          have e_ := leafR h1
          subst w_1
          obtain rfl := leafS h
          refine VW.ret (VRet.fin ?_)
          simp [eB61]
        · replace h1 := iteF g62 h1
          refine VW.skip ?_
          refine VW.seq ?_
          refine VW.evalA (C := [(53, F53), (65, F65)]) (tm 46 [(2, .ptr 0 0 0), (7, .ref 1 0 l56.length), (8, .i .i64 r60.1), (22, .sl 1 (rows ci_i64 plan)), (23, .i .i64 (plan.length : Int)), (24, .i .i64 x_55)]) [some (7, [(pT24 s)]), some (1, rows ci_i64 l56)] [] ⟨.inl ok53, .inl ok65, trivial⟩ (by kernel_rfl) (by simp -implicitDefEqProofs) ?_
          obtain ⟨u63, q64, h1⟩ := bindE h1
          obtain ⟨f64a, f64b⟩ := appK_some q64
          try simp only [Int.toNat_natCast, Int.reduceToNat, List.length_cons, List.length_nil, Nat.reduceAdd, Nat.zero_add] at f64a f64b
          refine VW.evalA (C := [(53, F53), (65, F65)]) (tm 46 [(2, .ptr 0 0 0), (7, .ref 1 0 (l56 ++ [r60.1]).length), (8, .i .i64 r60.1), (22, .sl 1 (rows ci_i64 plan)), (23, .i .i64 (plan.length : Int)), (24, .i .i64 x_55)]) [some (7, [(pT24 s)]), some (1, rows ci_i64 (l56 ++ [r60.1])), some (1, rows ci_i64 [r60.1])] [] ⟨.inl ok53, .inl ok65, trivial⟩ (by kernel_rfl) (by simp -implicitDefEqProofs [f64a, f64b]) ?_
          refine VW.evalA (C := [(53, F53), (65, F65)]) (tm 46 [(2, .ptr 0 0 0), (7, .ref 1 0 (l56 ++ [r60.1]).length), (8, .i .i64 r60.1), (22, .sl 1 (rows ci_i64 plan)), (23, .i .i64 (plan.length : Int)), (24, .i .i64 (aI .i64 x_55 1))]) [some (7, [(pT24 s)]), some (1, rows ci_i64 (l56 ++ [r60.1])), some (1, rows ci_i64 [r60.1])] [] ⟨.inl ok53, .inl ok65, trivial⟩ (by kernel_rfl) (by simp -implicitDefEqProofs) ?_
          exact (show ∃ _, _ from ⟨(r60.1, aI .i64 x_55 1, (l56 ++ [r60.1])), leafL h1, (Ent.to 2 (by simp [fgt]) (by first | (simp; done) | simp [pT24]) (by simp) (by simp [bndT, bndV]) (by simp [bndM, bndV]))⟩)
      · replace h1 := iteF g57 h1
        refine VW.exit ?_
        have e_ := leafR h1
        subst w_1
        exact (show ∃ _, _ from ⟨l56, h, (Ent.to 2 (by simp [fgt]) (by first | (simp; done) | simp [pT24]) (by simp) (by simp [bndT, bndV]) (by simp [bndM, bndV]))⟩)
    · rintro l34 h
      replace h : (g61_j1 l34).bind _ = _ := h
      rw [g61_j1] at h
      refine VW.seq ?_
      refine VW.evalA (C := [(53, F53), (65, F65)]) (tm 46 [(4, .ref 1 0 l34.length), (5, .i .i64 0)]) [some (7, [(pT24 s)]), some (1, rows ci_i64 l34)] [] ⟨.inl ok53, .inl ok65, trivial⟩ (by kernel_rfl) (by simp -implicitDefEqProofs) ?_
      obtain rfl := leafS h
      refine VW.ret (VRet.fin ?_)
      simp [eB61]
noncomputable def g47_j1 (cost_23 : Int) : Option (Int × Int) :=
  some (cost_23, 0)
noncomputable def g47_L1 (plan : List Int) (s : T24) : (Int × Int) → Option ((Int × Int) ⊕ (Int))
  | (cost_36, x_37) =>
    if ltI x_37 (plan.length : Int) = true then
      (idx plan x_37).bind fun e39 =>
      (idx s.price_ x_37).bind fun e41 =>
      some (.inl (aI .i64 cost_36 (mI .i64 e41 e39), aI .i64 x_37 1))
    else
      some (.inr cost_36)
noncomputable def g47 (s : T24) (plan : List Int) : Option (Int × Int) :=
  (g61 s plan).bind fun r1 =>
  if (!eqI r1.2 0) = true then
    some (0, r1.2)
  else
    (loopO (g47_L1 plan s) (0, 0)).bind fun w => g47_j1 w
def eA47 (a : T24 × (List Int)) : List V := [.agg (pT24 a.1), .sl 1 (rows ci_i64 a.2)]
def eB47 (r : Int × Int) : V := .tup [.i .i64 r.1, .i .i64 r.2]
theorem inj47 (a a' : T24 × (List Int)) (h : eA47 a = eA47 a') : a = a' := by
  obtain ⟨⟨i381, i382, i383, i384, i385, i386, i387⟩, i388⟩ := a
  obtain ⟨⟨i389, i390, i391, i392, i393, i394, i395⟩, i396⟩ := a'
  simp only [eA47, pT24, List.cons.injEq, V.i.injEq, V.b.injEq, V.f.injEq, V.str.injEq, V.sl.injEq, V.agg.injEq, V.cptr.injEq, true_and, and_true] at h
  simp_all [ri ci_i64_inj]
noncomputable def F47 : List V → Option V := tells (fun a => g47 a.1 a.2) eA47 eB47
set_option maxRecDepth 100000 in
set_option maxHeartbeats 4000000 in
/- loop.example/g01229/impl.CostOf -/
theorem ok47 : Tells Try.prog 47 F47 := by
  refine Tells.of (by kernel_rfl) ?_
  rintro ⟨s, plan⟩ r h
  refine VCalls.nl (VCalls.of Try.func47 rfl rfl rfl ?_)
  rw [tm_init]
  simp only [eA47, en, List.length_cons, List.length_nil, Nat.reduceAdd, Nat.reduceSub]
  replace h : (g47 s plan).bind some = some r := bindS h
  rw [g47] at h
  refine VW.seq ?_
  refine VW.evalA (C := [(61, F61)]) (tm 38 [(1, .sl 1 (rows ci_i64 plan)), (2, .ptr 0 0 0)]) [some (7, [(pT24 s)])] [] ⟨.inl ok61, trivial⟩ (by kernel_rfl) (by simp -implicitDefEqProofs) ?_
  refine VW.seq ?_
  refine VW.seq ?_
  obtain ⟨r1, q2, h⟩ := bindE h
  have c2 : F61 [.agg (pT24 s), .sl 1 (rows ci_i64 plan)] = some (.tup [.own 1 (rows ci_i64 r1.1), .i .i64 r1.2]) := tells_eq inj61 (a := (s, plan)) q2
  refine VW.evalA (C := [(61, F61)]) (tm 38 [(1, .sl 1 (rows ci_i64 plan)), (2, .ptr 0 0 0), (7, .i .i64 r1.2)]) [some (7, [(pT24 s)]), some (1, rows ci_i64 r1.1)] [] ⟨.inl ok61, trivial⟩ (by kernel_rfl) (by simp -implicitDefEqProofs [c2]) ?_
  refine VW.seq ?_
  refine VW.evalA (C := [(61, F61)]) (tm 38 [(1, .sl 1 (rows ci_i64 plan)), (2, .ptr 0 0 0), (7, .i .i64 r1.2), (18, .b (!eqI r1.2 0))]) [some (7, [(pT24 s)]), some (1, rows ci_i64 r1.1)] [] ⟨.inl ok61, trivial⟩ (by kernel_rfl) (by simp -implicitDefEqProofs) ?_
  refine VW.condB (b := (!eqI r1.2 0)) (by simp) (fun g3 => ?_) (fun g3 => ?_)
  · replace h := iteT g3 h
    refine VW.seq ?_
    refine VW.evalA (C := [(61, F61)]) (tm 38 [(4, .i .i64 0), (5, .i .i64 r1.2)]) [some (7, [(pT24 s)]), some (1, rows ci_i64 r1.1)] [] ⟨.inl ok61, trivial⟩ (by kernel_rfl) (by simp -implicitDefEqProofs) ?_
    obtain rfl := leafS h
    refine VW.ret (VRet.fin ?_)
    simp [eB47]
  · replace h := iteF g3 h
    refine VW.skip ?_
    refine VW.seq ?_
    refine VW.evalA (C := [(61, F61)]) (tm 38 [(1, .sl 1 (rows ci_i64 plan)), (2, .ptr 0 0 0), (8, .i .i64 0)]) [some (7, [(pT24 s)]), some (1, rows ci_i64 r1.1)] [] ⟨.inl ok61, trivial⟩ (by kernel_rfl) (by simp -implicitDefEqProofs) ?_
    refine VW.join (fun (v : Int) => (⟨(tm 38 [(8, .i .i64 v)]), [some (7, [(pT24 s)]), some (1, rows ci_i64 r1.1)], []⟩ : VS)) (fun v => (g47_j1 (v)).bind some = some r) ?_ ?_
    · refine VW.seq ?_
      refine VW.evalA (C := [(61, F61)]) (tm 38 [(2, .ptr 0 0 0), (8, .i .i64 0), (20, .sl 1 (rows ci_i64 plan)), (21, .i .i64 (plan.length : Int)), (22, .i .i64 0)]) [some (7, [(pT24 s)]), some (1, rows ci_i64 r1.1)] [] ⟨.inl ok61, trivial⟩ (by kernel_rfl) (by simp -implicitDefEqProofs) ?_
      refine VW.block ?_
      obtain ⟨w_1, hw_1, h⟩ := bindE h
      refine VW.loopO (fun (x : Int × Int) => (⟨(tm 38 [(2, .ptr 0 0 0), (8, .i .i64 x.1), (20, .sl 1 (rows ci_i64 plan)), (21, .i .i64 (plan.length : Int)), (22, .i .i64 x.2)]), [some (7, [(pT24 s)]), some (1, rows ci_i64 r1.1)], []⟩ : VS)) hw_1 (Ent.to 2 (by simp [fgt]) (by first | (simp; done) | simp [pT24]) (by simp) (by simp [bndT, bndV]) (by simp [bndM, bndV])) ?_
      rintro n_1 ⟨cost_36, x_37⟩ h1
      rw [g47_L1] at h1
      refine VW.seq ?_
      refine VW.evalA (C := [(61, F61)]) (tm 38 [(2, .ptr 0 0 0), (8, .i .i64 cost_36), (20, .sl 1 (rows ci_i64 plan)), (21, .i .i64 (plan.length : Int)), (22, .i .i64 x_37), (23, .b (ltI x_37 (plan.length : Int)))]) [some (7, [(pT24 s)]), some (1, rows ci_i64 r1.1)] [] ⟨.inl ok61, trivial⟩ (by kernel_rfl) (by simp -implicitDefEqProofs) ?_
      refine VW.seq ?_
      refine VW.condB (b := ltI x_37 (plan.length : Int)) (by simp) (fun g38 => ?_) (fun g38 => ?_)
      · replace h1 := iteT g38 h1
        refine VW.skip ?_
        refine VW.seq ?_
        refine VW.block ?_
        refine VW.seq ?_
        obtain ⟨e39, q40, h1⟩ := bindE h1
        obtain ⟨f40a, f40b, f40c, f40d⟩ := idx_some q40
        refine VW.evalA (C := [(61, F61)]) (tm 38 [(2, .ptr 0 0 0), (8, .i .i64 cost_36), (9, .i .i64 x_37), (10, .i .i64 e39), (20, .sl 1 (rows ci_i64 plan)), (21, .i .i64 (plan.length : Int)), (22, .i .i64 x_37)]) [some (7, [(pT24 s)]), some (1, rows ci_i64 r1.1)] [] ⟨.inl ok61, trivial⟩ (by kernel_rfl) (by simp -implicitDefEqProofs [f40a, f40b, f40c, f40d]) ?_
        obtain ⟨e41, q42, h1⟩ := bindE h1
        obtain ⟨f42a, f42b, f42c, f42d⟩ := idx_some q42
        refine VW.evalA (C := [(61, F61)]) (tm 38 [(2, .ptr 0 0 0), (8, .i .i64 (aI .i64 cost_36 (mI .i64 e41 e39))), (20, .sl 1 (rows ci_i64 plan)), (21, .i .i64 (plan.length : Int)), (22, .i .i64 x_37)]) [some (7, [(pT24 s)]), some (1, rows ci_i64 r1.1)] [] ⟨.inl ok61, trivial⟩ (by kernel_rfl) (by simp -implicitDefEqProofs [f42a, f42b, f42c, f42d]) ?_
        refine VW.evalA (C := [(61, F61)]) (tm 38 [(2, .ptr 0 0 0), (8, .i .i64 (aI .i64 cost_36 (mI .i64 e41 e39))), (20, .sl 1 (rows ci_i64 plan)), (21, .i .i64 (plan.length : Int)), (22, .i .i64 (aI .i64 x_37 1))]) [some (7, [(pT24 s)]), some (1, rows ci_i64 r1.1)] [] ⟨.inl ok61, trivial⟩ (by kernel_rfl) (by simp -implicitDefEqProofs) ?_
        exact (show ∃ _, _ from ⟨(aI .i64 cost_36 (mI .i64 e41 e39), aI .i64 x_37 1), leafL h1, (Ent.to 2 (by simp [fgt]) (by first | (simp; done) | simp [pT24]) (by simp) (by simp [bndT, bndV]) (by simp [bndM, bndV]))⟩)
      · replace h1 := iteF g38 h1
        refine VW.exit ?_
        have e_ := leafR h1
        subst w_1
        exact (show ∃ _, _ from ⟨cost_36, h, (Ent.to 2 (by simp [fgt]) (by first | (simp; done) | simp [pT24]) (by simp) (by simp [bndT, bndV]) (by simp [bndM, bndV]))⟩)
    · rintro cost_23 h
      replace h : (g47_j1 cost_23).bind _ = _ := h
      rw [g47_j1] at h
      refine VW.seq ?_
      refine VW.evalA (C := [(61, F61)]) (tm 38 [(4, .i .i64 cost_23), (5, .i .i64 0)]) [some (7, [(pT24 s)]), some (1, rows ci_i64 r1.1)] [] ⟨.inl ok61, trivial⟩ (by kernel_rfl) (by simp -implicitDefEqProofs) ?_
      obtain rfl := leafS h
      refine VW.ret (VRet.fin ?_)
      simp [eB47]
noncomputable def g48_j1 (l5249 : List (List Int)) : Option (List (List Int)) :=
  some l5249
noncomputable def g48_j2 (k_8744 : Int) (l9619 : List (List Int)) : Option ((Int × (List (List Int))) ⊕ (List (List Int))) :=
  some (.inl (sI .i64 k_8744 1, l9619))
noncomputable def g48_j3 (x_10202 : Int) (l10348 : List Int) : Option ((Int × (List Int)) ⊕ (List (List Int))) :=
  some (.inl (aI .i64 x_10202 1, l10348))
noncomputable def g48_j4 (l10203 : List Int) (x_10202 : Int) (best_10419 : Int) : Option ((Int × (List Int)) ⊕ (List (List Int))) :=
  (idx l10203 x_10202).bind fun e10420 =>
  g48_j3 x_10202 (l10203.set x_10202.toNat best_10419)
noncomputable def g48_L3 (s : T24) (k_8744 : Int) (x_10202 : Int) (l8745 : List (List Int)) : (Int × Int) → Option ((Int × Int) ⊕ (Int))
  | (best_10468, x_10469) =>
    if ltI x_10469 (aI .i64 s.most_ 1) = true then
      (g53 s k_8744 x_10202 x_10469).bind fun r10471 =>
      (if (!r10471.2) = true then some true else (idx l8745 (aI .i64 k_8744 1)).bind fun e10473 => (idx e10473 r10471.1).bind fun e10476 => some (eqI e10476 (-1))).bind fun w10478 =>
      if w10478 = true then
        some (.inl (best_10468, aI .i64 x_10469 1))
      else
        (idx s.price_ k_8744).bind fun e10480 =>
        (idx l8745 (aI .i64 k_8744 1)).bind fun e10482 =>
        (idx e10482 r10471.1).bind fun e10485 =>
        if (eqI best_10468 (-1) || ltI (aI .i64 (mI .i64 e10480 x_10469) e10485) best_10468) = true then
          some (.inl (aI .i64 (mI .i64 e10480 x_10469) e10485, aI .i64 x_10469 1))
        else
          some (.inl (best_10468, aI .i64 x_10469 1))
    else
      some (.inr best_10468)
noncomputable def g48_L2 (s : T24) (k_8744 : Int) (l8745 : List (List Int)) : (Int × (List Int)) → Option ((Int × (List Int)) ⊕ (List (List Int)))
  | (x_10202, l10203) =>
    if ltI x_10202 ((List.replicate (aI .i64 s.store_ 1).toNat 0).length : Int) = true then
      (loopO (g48_L3 s k_8744 x_10202 l8745) ((-1), 0)).bind fun w => g48_j4 l10203 x_10202 w
    else
      some (.inr (l8745.set k_8744.toNat l10203))
noncomputable def g48_L1 (s : T24) : (Int × (List (List Int))) → Option ((Int × (List (List Int))) ⊕ (List (List Int)))
  | (k_8744, l8745) =>
    if leI 0 k_8744 = true then
      (mk 8 (aI .i64 s.store_ 1)).bind fun u9620 =>
      (idx l8745 k_8744).bind fun e9622 =>
      (loopO (g48_L2 s k_8744 l8745) (0, (List.replicate (aI .i64 s.store_ 1).toNat 0))).bind fun w => g48_j2 k_8744 w
    else
      some (.inr l8745)
noncomputable def g48 (s : T24) : Option (List (List Int)) :=
  (mk 24 (aI .i64 (s.need_.length : Int) 1)).bind fun u1 =>
  (mk 8 (aI .i64 s.store_ 1)).bind fun u3 =>
  (idx (List.replicate (aI .i64 (s.need_.length : Int) 1).toNat ([] : List Int)) (s.need_.length : Int)).bind fun e5 =>
  (loopO (g48_L1 s) (sI .i64 (s.need_.length : Int) 1, ((List.replicate (aI .i64 (s.need_.length : Int) 1).toNat ([] : List Int)).set ((s.need_.length : Int).toNat) (List.replicate (aI .i64 s.store_ 1).toNat 0)))).bind fun w => g48_j1 w
def eA48 (a : T24) : List V := [.agg (pT24 a)]
def eB48 (r : List (List Int)) : V := .own 1 (rows cl_ci_i64o r)
theorem inj48 (a a' : T24) (h : eA48 a = eA48 a') : a = a' := by
  obtain ⟨i397, i398, i399, i400, i401, i402, i403⟩ := a
  obtain ⟨i404, i405, i406, i407, i408, i409, i410⟩ := a'
  simp only [eA48, pT24, List.cons.injEq, V.i.injEq, V.b.injEq, V.f.injEq, V.str.injEq, V.sl.injEq, V.agg.injEq, V.cptr.injEq, true_and, and_true] at h
  simp_all [ri ci_i64_inj]
noncomputable def F48 : List V → Option V := tells (fun a => g48 a) eA48 eB48
set_option maxRecDepth 100000 in
set_option maxHeartbeats 4000000 in
/- loop.example/g01229/impl.values -/
theorem ok48 : Tells Try.prog 48 F48 := by
  refine Tells.of (by kernel_rfl) ?_
  rintro s r h
  refine VCalls.nl (VCalls.of Try.func48 rfl rfl rfl ?_)
  rw [tm_init]
  simp only [eA48, en, List.length_cons, List.length_nil, Nat.reduceAdd, Nat.reduceSub]
  replace h : (g48 s).bind some = some r := bindS h
  rw [g48] at h
  refine VW.seq ?_
  refine VW.evalA (C := [(53, F53)]) (tm 107 [(1, .ptr 0 0 0)]) [some (7, [(pT24 s)])] [] ⟨.inl ok53, trivial⟩ (by kernel_rfl) (by simp -implicitDefEqProofs) ?_
  refine VW.seq ?_
  refine VW.evalA (C := [(53, F53)]) (tm 107 [(1, .ptr 0 0 0), (3, .i .i64 (s.need_.length : Int))]) [some (7, [(pT24 s)])] [] ⟨.inl ok53, trivial⟩ (by kernel_rfl) (by simp -implicitDefEqProofs) ?_
  refine VW.seq ?_
  obtain ⟨u1, q2, h⟩ := bindE h
  obtain ⟨f2a, f2b, f2c⟩ := mk_some q2
  try simp only [Int.toNat_natCast, Int.reduceToNat, List.length_cons, List.length_nil, Nat.reduceAdd, Nat.zero_add] at f2a f2b f2c
  refine VW.evalE (C := [(53, F53)]) (tm 107 [(1, .ptr 0 0 0), (3, .i .i64 (s.need_.length : Int)), (4, .ref 1 0 (List.replicate (aI .i64 (s.need_.length : Int) 1).toNat ([] : List Int)).length)]) [some (7, [(pT24 s)]), some (1, List.replicate (aI .i64 (s.need_.length : Int) 1).toNat [.nil])] [] ⟨.inl ok53, trivial⟩ (by kernel_rfl) (by simp -implicitDefEqProofs [f2a, f2b, f2c]) (Ent.nilown (m := [some (7, [(pT24 s)]), some (1, List.replicate (aI .i64 (s.need_.length : Int) 1).toNat [.nil])]) 1 ((aI .i64 (s.need_.length : Int) 1).toNat) 1 [some (7, [(pT24 s)]), some (1, rows cl_ci_i64o (List.replicate (aI .i64 (s.need_.length : Int) 1).toNat ([] : List Int)))] (by simp) (by simp)) ?_
  refine VW.seq ?_
  obtain ⟨u3, q4, h⟩ := bindE h
  obtain ⟨f4a, f4b, f4c⟩ := mk_some q4
  try simp only [Int.toNat_natCast, Int.reduceToNat, List.length_cons, List.length_nil, Nat.reduceAdd, Nat.zero_add] at f4a f4b f4c
  obtain ⟨e5, q6, h⟩ := bindE h
  obtain ⟨f6a, f6b, f6c, f6d⟩ := idx_some q6
  have f6s := f6c
  simp at f6s
  try simp only [Int.toNat_natCast, Int.reduceToNat] at f6a f6b f6c f6d
  refine VW.evalE (C := [(53, F53)]) (tm 107 [(1, .ptr 0 0 0), (3, .i .i64 (s.need_.length : Int)), (4, .ref 1 0 (List.replicate (aI .i64 (s.need_.length : Int) 1).toNat ([] : List Int)).length)]) [some (7, [(pT24 s)]), some (1, (rows cl_ci_i64o (List.replicate (aI .i64 (s.need_.length : Int) 1).toNat ([] : List Int))).set ((s.need_.length : Int).toNat) [.ref 2 0 (List.replicate (aI .i64 s.store_ 1).toNat 0).length]), some (1, rows ci_i64 (List.replicate (aI .i64 s.store_ 1).toNat 0))] [] ⟨.inl ok53, trivial⟩ (by kernel_rfl) (by simp -implicitDefEqProofs [f4a, f4b, f4c, f6a, f6b, f6c, f6d, f6s]) (Ent.absorb (m := [some (7, [(pT24 s)]), some (1, (rows cl_ci_i64o (List.replicate (aI .i64 (s.need_.length : Int) 1).toNat ([] : List Int))).set ((s.need_.length : Int).toNat) [.ref 2 0 (List.replicate (aI .i64 s.store_ 1).toNat 0).length]), some (1, rows ci_i64 (List.replicate (aI .i64 s.store_ 1).toNat 0))]) (n := 1) (n' := 1) (es := (rows cl_ci_i64o (List.replicate (aI .i64 (s.need_.length : Int) 1).toNat ([] : List Int))).set ((s.need_.length : Int).toNat) [.ref 2 0 (List.replicate (aI .i64 s.store_ 1).toNat 0).length]) (es' := rows ci_i64 (List.replicate (aI .i64 s.store_ 1).toNat 0)) (cs := [.ref 2 0 (List.replicate (aI .i64 s.store_ 1).toNat 0).length]) 1 ((s.need_.length : Int).toNat) 0 2 (List.replicate (aI .i64 s.store_ 1).toNat 0).length [some (7, [(pT24 s)]), some (1, rows cl_ci_i64o ((List.replicate (aI .i64 (s.need_.length : Int) 1).toNat ([] : List Int)).set ((s.need_.length : Int).toNat) (List.replicate (aI .i64 s.store_ 1).toNat 0))), none] rfl (by simp [f6a, f6b, f6c, f6d, f6s]) rfl rfl (by decide) (by simp) (by simp) (by simp)) ?_
  refine VW.join (fun (v : List (List Int)) => (⟨(tm 107 [(4, .ref 1 0 v.length)]), [some (7, [(pT24 s)]), some (1, rows cl_ci_i64o v), none], []⟩ : VS)) (fun v => (g48_j1 (v)).bind some = some r) ?_ ?_
  · refine VW.seq ?_
    refine VW.evalA (C := [(53, F53)]) (tm 107 [(1, .ptr 0 0 0), (4, .ref 1 0 ((List.replicate (aI .i64 (s.need_.length : Int) 1).toNat ([] : List Int)).set ((s.need_.length : Int).toNat) (List.replicate (aI .i64 s.store_ 1).toNat 0)).length), (5, .i .i64 (sI .i64 (s.need_.length : Int) 1))]) [some (7, [(pT24 s)]), some (1, rows cl_ci_i64o ((List.replicate (aI .i64 (s.need_.length : Int) 1).toNat ([] : List Int)).set ((s.need_.length : Int).toNat) (List.replicate (aI .i64 s.store_ 1).toNat 0))), none] [] ⟨.inl ok53, trivial⟩ (by kernel_rfl) (by simp -implicitDefEqProofs) ?_
    refine VW.block ?_
    obtain ⟨w_1, hw_1, h⟩ := bindE h
    refine VW.loopO (fun (x : Int × (List (List Int))) => (⟨(tm 107 [(1, .ptr 0 0 0), (4, .ref 1 0 x.2.length), (5, .i .i64 x.1)]), [some (7, [(pT24 s)]), some (1, rows cl_ci_i64o x.2), none], []⟩ : VS)) hw_1 (Ent.to 3 (by simp [fgt]) (by first | (simp; done) | simp [pT24]) (by simp) (by simp [bndT, bndV]) (by simp [bndM, bndV])) ?_
    rintro n_1 ⟨k_8744, l8745⟩ h1
    rw [g48_L1] at h1
    refine VW.seq ?_
    refine VW.seq ?_
    refine VW.evalA (C := [(53, F53)]) (tm 107 [(1, .ptr 0 0 0), (4, .ref 1 0 l8745.length), (5, .i .i64 k_8744), (28, .b (leI 0 k_8744))]) [some (7, [(pT24 s)]), some (1, rows cl_ci_i64o l8745), none] [] ⟨.inl ok53, trivial⟩ (by kernel_rfl) (by simp -implicitDefEqProofs) ?_
    refine VW.condB (b := leI 0 k_8744) (by simp) (fun g8746 => ?_) (fun g8746 => ?_)
    · replace h1 := iteT g8746 h1
      refine VW.skip ?_
      refine VW.join (fun (v : List (List Int)) => (⟨(tm 107 [(1, .ptr 0 0 0), (4, .ref 1 0 v.length), (5, .i .i64 k_8744)]), [some (7, [(pT24 s)]), some (1, rows cl_ci_i64o v), none], []⟩ : VS)) (fun v => (g48_j2 k_8744 (v)).bind (kN (g48_L1 s) n_1) = some w_1) ?_ ?_
      · refine VW.block ?_
        refine VW.seq ?_
        obtain ⟨u9620, q9621, h1⟩ := bindE h1
        obtain ⟨f9621a, f9621b, f9621c⟩ := mk_some q9621
        try simp only [Int.toNat_natCast, Int.reduceToNat, List.length_cons, List.length_nil, Nat.reduceAdd, Nat.zero_add] at f9621a f9621b f9621c
        obtain ⟨e9622, q9623, h1⟩ := bindE h1
        obtain ⟨f9623a, f9623b, f9623c, f9623d⟩ := idx_some q9623
        refine VW.evalA (C := [(53, F53)]) (tm 107 [(1, .ptr 0 0 0), (4, .ref 1 0 l8745.length), (5, .i .i64 k_8744)]) [some (7, [(pT24 s)]), some (1, (rows cl_ci_i64o l8745).set k_8744.toNat [.ref 3 0 (List.replicate (aI .i64 s.store_ 1).toNat 0).length]), none, some (1, rows ci_i64 (List.replicate (aI .i64 s.store_ 1).toNat 0))] [] ⟨.inl ok53, trivial⟩ (by kernel_rfl) (by simp -implicitDefEqProofs [f9621a, f9621b, f9621c, f9623a, f9623b, f9623c, f9623d]) ?_
        refine VW.seq ?_
        refine VW.evalA (C := [(53, F53)]) (tm 107 [(1, .ptr 0 0 0), (4, .ref 1 0 l8745.length), (5, .i .i64 k_8744), (42, .i .i64 ((List.replicate (aI .i64 s.store_ 1).toNat 0).length : Int)), (43, .i .i64 0)]) [some (7, [(pT24 s)]), some (1, (rows cl_ci_i64o l8745).set k_8744.toNat [.ref 3 0 (List.replicate (aI .i64 s.store_ 1).toNat 0).length]), none, some (1, rows ci_i64 (List.replicate (aI .i64 s.store_ 1).toNat 0))] [] ⟨.inl ok53, trivial⟩ (by kernel_rfl) (by simp -implicitDefEqProofs [f9623a, f9623b, f9623c, f9623d]) ?_
        refine VW.block ?_
        obtain ⟨w_2, hw_2, h1⟩ := bindE h1
        refine VW.loopO (fun (x : Int × (List Int)) => (⟨(tm 107 [(1, .ptr 0 0 0), (4, .ref 1 0 l8745.length), (5, .i .i64 k_8744), (42, .i .i64 ((List.replicate (aI .i64 s.store_ 1).toNat 0).length : Int)), (43, .i .i64 x.1)]), [some (7, [(pT24 s)]), some (1, (rows cl_ci_i64o l8745).set k_8744.toNat [.ref 3 0 x.2.length]), none, some (1, rows ci_i64 x.2)], []⟩ : VS)) hw_2 (Ent.to 4 (by simp [fgt]) (by first | (simp; done) | simp [pT24]) (by simp) (by simp [bndT, bndV]) (by simp [bndM, bndV])) ?_
        rintro n_2 ⟨x_10202, l10203⟩ h2
        rw [g48_L2] at h2
        refine VW.seq ?_
        refine VW.evalA (C := [(53, F53)]) (tm 107 [(1, .ptr 0 0 0), (4, .ref 1 0 l8745.length), (5, .i .i64 k_8744), (42, .i .i64 ((List.replicate (aI .i64 s.store_ 1).toNat 0).length : Int)), (43, .i .i64 x_10202), (44, .b (ltI x_10202 ((List.replicate (aI .i64 s.store_ 1).toNat 0).length : Int)))]) [some (7, [(pT24 s)]), some (1, (rows cl_ci_i64o l8745).set k_8744.toNat [.ref 3 0 l10203.length]), none, some (1, rows ci_i64 l10203)] [] ⟨.inl ok53, trivial⟩ (by kernel_rfl) (by simp -implicitDefEqProofs) ?_
        refine VW.seq ?_
        refine VW.condB (b := ltI x_10202 ((List.replicate (aI .i64 s.store_ 1).toNat 0).length : Int)) (by simp) (fun g10204 => ?_) (fun g10204 => ?_)
        · replace h2 := iteT g10204 h2
          refine VW.skip ?_
          refine VW.join (fun (v : List Int) => (⟨(tm 107 [(1, .ptr 0 0 0), (4, .ref 1 0 l8745.length), (5, .i .i64 k_8744), (42, .i .i64 ((List.replicate (aI .i64 s.store_ 1).toNat 0).length : Int)), (43, .i .i64 x_10202)]), [some (7, [(pT24 s)]), some (1, (rows cl_ci_i64o l8745).set k_8744.toNat [.ref 3 0 v.length]), none, some (1, rows ci_i64 v)], []⟩ : VS)) (fun v => (g48_j3 x_10202 (v)).bind (kN (g48_L2 s k_8744 l8745) n_2) = some w_2) ?_ ?_
          · refine VW.block ?_
            refine VW.seq ?_
            refine VW.evalA (C := [(53, F53)]) (tm 107 [(1, .ptr 0 0 0), (4, .ref 1 0 l8745.length), (5, .i .i64 k_8744), (6, .i .i64 x_10202), (42, .i .i64 ((List.replicate (aI .i64 s.store_ 1).toNat 0).length : Int)), (43, .i .i64 x_10202)]) [some (7, [(pT24 s)]), some (1, (rows cl_ci_i64o l8745).set k_8744.toNat [.ref 3 0 l10203.length]), none, some (1, rows ci_i64 l10203)] [] ⟨.inl ok53, trivial⟩ (by kernel_rfl) (by simp -implicitDefEqProofs) ?_
            refine VW.seq ?_
            refine VW.evalA (C := [(53, F53)]) (tm 107 [(1, .ptr 0 0 0), (4, .ref 1 0 l8745.length), (5, .i .i64 k_8744), (6, .i .i64 x_10202), (7, .i .i64 (-1)), (42, .i .i64 ((List.replicate (aI .i64 s.store_ 1).toNat 0).length : Int)), (43, .i .i64 x_10202)]) [some (7, [(pT24 s)]), some (1, (rows cl_ci_i64o l8745).set k_8744.toNat [.ref 3 0 l10203.length]), none, some (1, rows ci_i64 l10203)] [] ⟨.inl ok53, trivial⟩ (by kernel_rfl) (by simp -implicitDefEqProofs) ?_
            refine VW.join (fun (v : Int) => (⟨(tm 107 [(1, .ptr 0 0 0), (4, .ref 1 0 l8745.length), (5, .i .i64 k_8744), (6, .i .i64 x_10202), (7, .i .i64 v), (42, .i .i64 ((List.replicate (aI .i64 s.store_ 1).toNat 0).length : Int)), (43, .i .i64 x_10202)]), [some (7, [(pT24 s)]), some (1, (rows cl_ci_i64o l8745).set k_8744.toNat [.ref 3 0 l10203.length]), none, some (1, rows ci_i64 l10203)], []⟩ : VS)) (fun v => (g48_j4 l10203 x_10202 (v)).bind (kN (g48_L2 s k_8744 l8745) n_2) = some w_2) ?_ ?_
            · refine VW.seq ?_
              refine VW.evalA (C := [(53, F53)]) (tm 107 [(1, .ptr 0 0 0), (4, .ref 1 0 l8745.length), (5, .i .i64 k_8744), (6, .i .i64 x_10202), (7, .i .i64 (-1)), (42, .i .i64 ((List.replicate (aI .i64 s.store_ 1).toNat 0).length : Int)), (43, .i .i64 x_10202), (48, .i .i64 (aI .i64 s.most_ 1)), (49, .i .i64 0)]) [some (7, [(pT24 s)]), some (1, (rows cl_ci_i64o l8745).set k_8744.toNat [.ref 3 0 l10203.length]), none, some (1, rows ci_i64 l10203)] [] ⟨.inl ok53, trivial⟩ (by kernel_rfl) (by simp -implicitDefEqProofs) ?_
              refine VW.block ?_
              obtain ⟨w_3, hw_3, h2⟩ := bindE h2
              refine VW.loopO (fun (x : Int × Int) => (⟨(tm 107 [(1, .ptr 0 0 0), (4, .ref 1 0 l8745.length), (5, .i .i64 k_8744), (6, .i .i64 x_10202), (7, .i .i64 x.1), (42, .i .i64 ((List.replicate (aI .i64 s.store_ 1).toNat 0).length : Int)), (43, .i .i64 x_10202), (48, .i .i64 (aI .i64 s.most_ 1)), (49, .i .i64 x.2)]), [some (7, [(pT24 s)]), some (1, (rows cl_ci_i64o l8745).set k_8744.toNat [.ref 3 0 l10203.length]), none, some (1, rows ci_i64 l10203)], []⟩ : VS)) hw_3 (Ent.to 4 (by simp [fgt]) (by first | (simp; done) | simp [pT24]) (by simp) (by simp [bndT, bndV]) (by simp [bndM, bndV])) ?_
              rintro n_3 ⟨best_10468, x_10469⟩ h3
              rw [g48_L3] at h3
              refine VW.seq ?_
              refine VW.evalA (C := [(53, F53)]) (tm 107 [(1, .ptr 0 0 0), (4, .ref 1 0 l8745.length), (5, .i .i64 k_8744), (6, .i .i64 x_10202), (7, .i .i64 best_10468), (42, .i .i64 ((List.replicate (aI .i64 s.store_ 1).toNat 0).length : Int)), (43, .i .i64 x_10202), (48, .i .i64 (aI .i64 s.most_ 1)), (49, .i .i64 x_10469), (50, .b (ltI x_10469 (aI .i64 s.most_ 1)))]) [some (7, [(pT24 s)]), some (1, (rows cl_ci_i64o l8745).set k_8744.toNat [.ref 3 0 l10203.length]), none, some (1, rows ci_i64 l10203)] [] ⟨.inl ok53, trivial⟩ (by kernel_rfl) (by simp -implicitDefEqProofs) ?_
              refine VW.seq ?_
              refine VW.condB (b := ltI x_10469 (aI .i64 s.most_ 1)) (by simp) (fun g10470 => ?_) (fun g10470 => ?_)
              · replace h3 := iteT g10470 h3
                refine VW.skip ?_
                refine VW.seq ?_
                refine VW.block ?_
                refine VW.seq ?_
                refine VW.evalA (C := [(53, F53)]) (tm 107 [(1, .ptr 0 0 0), (4, .ref 1 0 l8745.length), (5, .i .i64 k_8744), (6, .i .i64 x_10202), (7, .i .i64 best_10468), (8, .i .i64 x_10469), (42, .i .i64 ((List.replicate (aI .i64 s.store_ 1).toNat 0).length : Int)), (43, .i .i64 x_10202), (48, .i .i64 (aI .i64 s.most_ 1)), (49, .i .i64 x_10469)]) [some (7, [(pT24 s)]), some (1, (rows cl_ci_i64o l8745).set k_8744.toNat [.ref 3 0 l10203.length]), none, some (1, rows ci_i64 l10203)] [] ⟨.inl ok53, trivial⟩ (by kernel_rfl) (by simp -implicitDefEqProofs) ?_
                refine VW.seq ?_
                obtain ⟨r10471, q10472, h3⟩ := bindE h3
                have c10472 : F53 [.agg (pT24 s), .i .i64 k_8744, .i .i64 x_10202, .i .i64 x_10469] = some (.tup [.i .i64 r10471.1, .b r10471.2]) := tells_eq inj53 (a := (s, k_8744, x_10202, x_10469)) q10472
                refine VW.evalA (C := [(53, F53)]) (tm 107 [(1, .ptr 0 0 0), (4, .ref 1 0 l8745.length), (5, .i .i64 k_8744), (6, .i .i64 x_10202), (7, .i .i64 best_10468), (8, .i .i64 x_10469), (9, .i .i64 r10471.1), (10, .b r10471.2), (42, .i .i64 ((List.replicate (aI .i64 s.store_ 1).toNat 0).length : Int)), (43, .i .i64 x_10202), (48, .i .i64 (aI .i64 s.most_ 1)), (49, .i .i64 x_10469)]) [some (7, [(pT24 s)]), some (1, (rows cl_ci_i64o l8745).set k_8744.toNat [.ref 3 0 l10203.length]), none, some (1, rows ci_i64 l10203)] [] ⟨.inl ok53, trivial⟩ (by kernel_rfl) (by simp -implicitDefEqProofs [c10472]) ?_
                refine VW.seq ?_
                refine VW.seq ?_
                obtain ⟨w10478, q10488, h3⟩ := bindE h3
                refine VW.evalA (C := [(53, F53)]) (tm 107 [(1, .ptr 0 0 0), (4, .ref 1 0 l8745.length), (5, .i .i64 k_8744), (6, .i .i64 x_10202), (7, .i .i64 best_10468), (8, .i .i64 x_10469), (9, .i .i64 r10471.1), (42, .i .i64 ((List.replicate (aI .i64 s.store_ 1).toNat 0).length : Int)), (43, .i .i64 x_10202), (48, .i .i64 (aI .i64 s.most_ 1)), (49, .i .i64 x_10469), (72, .b w10478)]) [some (7, [(pT24 s)]), some (1, (rows cl_ci_i64o l8745).set k_8744.toNat [.ref 3 0 l10203.length]), none, some (1, rows ci_i64 l10203)] [] ⟨.inl ok53, trivial⟩ (by kernel_rfl) (by
                    rcases Bool.eq_false_or_eq_true (!r10471.2) with q10489 | q10489
                    · first
                      | (simp at q10489; done)
                      | (rw [if_pos q10489] at q10488
                         have d10490 : w10478 = _ := (Option.some.inj q10488).symm
                         simp -implicitDefEqProofs [q10489, d10490])
                    · first
                      | (simp at q10489; done)
                      | (rw [if_neg (by rw [q10489]; exact Bool.false_ne_true)] at q10488
                         obtain ⟨e10473, q10474, q10488⟩ := bindQ q10488
                         obtain ⟨f10474a, f10474b, f10474c, f10474d⟩ := idx_some q10474
                         have f10475n := succ_ne f9623a f10474a
                         obtain ⟨e10476, q10477, q10488⟩ := bindQ q10488
                         obtain ⟨f10477a, f10477b, f10477c, f10477d⟩ := idx_some q10477
                         have d10491 : w10478 = _ := (Option.some.inj q10488).symm
                         simp -implicitDefEqProofs [q10489, f10474a, f10474b, f10474c, f10474d, f10475n, f10477a, f10477b, f10477c, f10477d, d10491])) ?_
                refine VW.condB (b := w10478) (by simp) (fun g10479 => ?_) (fun g10479 => ?_)
                · replace h3 := iteT g10479 h3
                  refine VW.exit ?_
                  refine VW.evalA (C := [(53, F53)]) (tm 107 [(1, .ptr 0 0 0), (4, .ref 1 0 l8745.length), (5, .i .i64 k_8744), (6, .i .i64 x_10202), (7, .i .i64 best_10468), (42, .i .i64 ((List.replicate (aI .i64 s.store_ 1).toNat 0).length : Int)), (43, .i .i64 x_10202), (48, .i .i64 (aI .i64 s.most_ 1)), (49, .i .i64 (aI .i64 x_10469 1))]) [some (7, [(pT24 s)]), some (1, (rows cl_ci_i64o l8745).set k_8744.toNat [.ref 3 0 l10203.length]), none, some (1, rows ci_i64 l10203)] [] ⟨.inl ok53, trivial⟩ (by kernel_rfl) (by simp -implicitDefEqProofs) ?_
                  exact (show ∃ _, _ from ⟨(best_10468, aI .i64 x_10469 1), leafL h3, (Ent.to 4 (by simp [fgt]) (by first | (simp; done) | simp [pT24]) (by simp) (by simp [bndT, bndV]) (by simp [bndM, bndV]))⟩)
                · replace h3 := iteF g10479 h3
                  refine VW.skip ?_
                  refine VW.seq ?_
                  obtain ⟨e10480, q10481, h3⟩ := bindE h3
                  obtain ⟨f10481a, f10481b, f10481c, f10481d⟩ := idx_some q10481
                  obtain ⟨e10482, q10483, h3⟩ := bindE h3
                  obtain ⟨f10483a, f10483b, f10483c, f10483d⟩ := idx_some q10483
                  have f10484n := succ_ne f9623a f10483a
                  obtain ⟨e10485, q10486, h3⟩ := bindE h3
                  obtain ⟨f10486a, f10486b, f10486c, f10486d⟩ := idx_some q10486
                  refine VW.evalDA (C := [(53, F53)]) (tm 107 [(1, .ptr 0 0 0), (4, .ref 1 0 l8745.length), (5, .i .i64 k_8744), (6, .i .i64 x_10202), (7, .i .i64 best_10468), (11, .i .i64 (aI .i64 (mI .i64 e10480 x_10469) e10485)), (42, .i .i64 ((List.replicate (aI .i64 s.store_ 1).toNat 0).length : Int)), (43, .i .i64 x_10202), (48, .i .i64 (aI .i64 s.most_ 1)), (49, .i .i64 x_10469)]) [some (7, [(pT24 s)]), some (1, (rows cl_ci_i64o l8745).set k_8744.toNat [.ref 3 0 l10203.length]), none, some (1, rows ci_i64 l10203)] [] ⟨.inl ok53, trivial⟩ mixed (by kernel_rfl) (by simp -implicitDefEqProofs [f10481a, f10481b, f10481c, f10481d, f10483a, f10483b, f10483c, f10483d, f10484n, f10486a, f10486b, f10486c, f10486d]) ?_
                  refine VW.seq ?_
                  refine VW.evalA (C := [(53, F53)]) (tm 107 [(1, .ptr 0 0 0), (4, .ref 1 0 l8745.length), (5, .i .i64 k_8744), (6, .i .i64 x_10202), (7, .i .i64 best_10468), (11, .i .i64 (aI .i64 (mI .i64 e10480 x_10469) e10485)), (42, .i .i64 ((List.replicate (aI .i64 s.store_ 1).toNat 0).length : Int)), (43, .i .i64 x_10202), (48, .i .i64 (aI .i64 s.most_ 1)), (49, .i .i64 x_10469), (95, .b (eqI best_10468 (-1) || ltI (aI .i64 (mI .i64 e10480 x_10469) e10485) best_10468))]) [some (7, [(pT24 s)]), some (1, (rows cl_ci_i64o l8745).set k_8744.toNat [.ref 3 0 l10203.length]), none, some (1, rows ci_i64 l10203)] [] ⟨.inl ok53, trivial⟩ (by kernel_rfl) (by simp -implicitDefEqProofs) ?_
                  refine VW.condB (b := (eqI best_10468 (-1) || ltI (aI .i64 (mI .i64 e10480 x_10469) e10485) best_10468)) (by simp) (fun g10487 => ?_) (fun g10487 => ?_)
                  · replace h3 := iteT g10487 h3
                    refine VW.evalA (C := [(53, F53)]) (tm 107 [(1, .ptr 0 0 0), (4, .ref 1 0 l8745.length), (5, .i .i64 k_8744), (6, .i .i64 x_10202), (7, .i .i64 (aI .i64 (mI .i64 e10480 x_10469) e10485)), (42, .i .i64 ((List.replicate (aI .i64 s.store_ 1).toNat 0).length : Int)), (43, .i .i64 x_10202), (48, .i .i64 (aI .i64 s.most_ 1)), (49, .i .i64 x_10469)]) [some (7, [(pT24 s)]), some (1, (rows cl_ci_i64o l8745).set k_8744.toNat [.ref 3 0 l10203.length]), none, some (1, rows ci_i64 l10203)] [] ⟨.inl ok53, trivial⟩ (by kernel_rfl) (by simp -implicitDefEqProofs) ?_
                    refine VW.evalA (C := [(53, F53)]) (tm 107 [(1, .ptr 0 0 0), (4, .ref 1 0 l8745.length), (5, .i .i64 k_8744), (6, .i .i64 x_10202), (7, .i .i64 (aI .i64 (mI .i64 e10480 x_10469) e10485)), (42, .i .i64 ((List.replicate (aI .i64 s.store_ 1).toNat 0).length : Int)), (43, .i .i64 x_10202), (48, .i .i64 (aI .i64 s.most_ 1)), (49, .i .i64 (aI .i64 x_10469 1))]) [some (7, [(pT24 s)]), some (1, (rows cl_ci_i64o l8745).set k_8744.toNat [.ref 3 0 l10203.length]), none, some (1, rows ci_i64 l10203)] [] ⟨.inl ok53, trivial⟩ (by kernel_rfl) (by simp -implicitDefEqProofs) ?_
                    exact (show ∃ _, _ from ⟨(aI .i64 (mI .i64 e10480 x_10469) e10485, aI .i64 x_10469 1), leafL h3, (Ent.to 4 (by simp [fgt]) (by first | (simp; done) | simp [pT24]) (by simp) (by simp [bndT, bndV]) (by simp [bndM, bndV]))⟩)
                  · replace h3 := iteF g10487 h3
                    refine VW.skip ?_
                    refine VW.evalA (C := [(53, F53)]) (tm 107 [(1, .ptr 0 0 0), (4, .ref 1 0 l8745.length), (5, .i .i64 k_8744), (6, .i .i64 x_10202), (7, .i .i64 best_10468), (42, .i .i64 ((List.replicate (aI .i64 s.store_ 1).toNat 0).length : Int)), (43, .i .i64 x_10202), (48, .i .i64 (aI .i64 s.most_ 1)), (49, .i .i64 (aI .i64 x_10469 1))]) [some (7, [(pT24 s)]), some (1, (rows cl_ci_i64o l8745).set k_8744.toNat [.ref 3 0 l10203.length]), none, some (1, rows ci_i64 l10203)] [] ⟨.inl ok53, trivial⟩ (by kernel_rfl) (by simp -implicitDefEqProofs) ?_
                    exact (show ∃ _, _ from ⟨(best_10468, aI .i64 x_10469 1), leafL h3, (Ent.to 4 (by simp [fgt]) (by first | (simp; done) | simp [pT24]) (by simp) (by simp [bndT, bndV]) (by simp [bndM, bndV]))⟩)
              · replace h3 := iteF g10470 h3
                refine VW.exit ?_
                have e_ := leafR h3
                subst w_3
                exact (show ∃ _, _ from ⟨best_10468, h2, (Ent.to 4 (by simp [fgt]) (by first | (simp; done) | simp [pT24]) (by simp) (by simp [bndT, bndV]) (by simp [bndM, bndV]))⟩)
            · rintro best_10419 h2
              replace h2 : (g48_j4 l10203 x_10202 best_10419).bind _ = _ := h2
              rw [g48_j4] at h2
              obtain ⟨e10420, q10421, h2⟩ := bindE h2
              obtain ⟨f10421a, f10421b, f10421c, f10421d⟩ := idx_some q10421
              refine VW.evalA (C := [(53, F53)]) (tm 107 [(1, .ptr 0 0 0), (4, .ref 1 0 l8745.length), (5, .i .i64 k_8744), (42, .i .i64 ((List.replicate (aI .i64 s.store_ 1).toNat 0).length : Int)), (43, .i .i64 x_10202)]) [some (7, [(pT24 s)]), some (1, (rows cl_ci_i64o l8745).set k_8744.toNat [.ref 3 0 (l10203.set x_10202.toNat best_10419).length]), none, some (1, rows ci_i64 (l10203.set x_10202.toNat best_10419))] [] ⟨.inl ok53, trivial⟩ (by kernel_rfl) (by simp -implicitDefEqProofs [f10421a, f10421b, f10421c, f10421d, f9623a, f9623b, f9623c, f9623d]) ?_
              exact (show ∃ _, _ from ⟨(l10203.set x_10202.toNat best_10419), h2, (Ent.to 4 (by simp [fgt]) (by first | (simp; done) | simp [pT24]) (by simp) (by simp [bndT, bndV]) (by simp [bndM, bndV]))⟩)
          · rintro l10348 h2
            replace h2 : (g48_j3 x_10202 l10348).bind _ = _ := h2
            rw [g48_j3] at h2
            refine VW.evalA (C := [(53, F53)]) (tm 107 [(1, .ptr 0 0 0), (4, .ref 1 0 l8745.length), (5, .i .i64 k_8744), (42, .i .i64 ((List.replicate (aI .i64 s.store_ 1).toNat 0).length : Int)), (43, .i .i64 (aI .i64 x_10202 1))]) [some (7, [(pT24 s)]), some (1, (rows cl_ci_i64o l8745).set k_8744.toNat [.ref 3 0 l10348.length]), none, some (1, rows ci_i64 l10348)] [] ⟨.inl ok53, trivial⟩ (by kernel_rfl) (by simp -implicitDefEqProofs) ?_
            exact (show ∃ _, _ from ⟨(aI .i64 x_10202 1, l10348), leafL h2, (Ent.to 4 (by simp [fgt]) (by first | (simp; done) | simp [pT24]) (by simp) (by simp [bndT, bndV]) (by simp [bndM, bndV]))⟩)
        · replace h2 := iteF g10204 h2
          refine VW.exit ?_
          have e_ := leafR h2
          subst w_2
          exact (show ∃ _, _ from ⟨(l8745.set k_8744.toNat l10203), h1, (Ent.trans (Ent.absorb (m := [some (7, [(pT24 s)]), some (1, (rows cl_ci_i64o l8745).set k_8744.toNat [.ref 3 0 l10203.length]), none, some (1, rows ci_i64 l10203)]) (n := 1) (n' := 1) (es := (rows cl_ci_i64o l8745).set k_8744.toNat [.ref 3 0 l10203.length]) (es' := rows ci_i64 l10203) (cs := [.ref 3 0 l10203.length]) 1 k_8744.toNat 0 3 l10203.length [some (7, [(pT24 s)]), some (1, rows cl_ci_i64o (l8745.set k_8744.toNat l10203)), none, none] rfl (by simp [f9623a, f9623b, f9623c, f9623d]) rfl rfl (by decide) (by simp) (by simp) (by simp)) (Ent.to 3 (by simp [fgt]) (by first | (simp; done) | simp [pT24]) (by simp) (by simp [bndT, bndV]) (by simp [bndM, bndV])))⟩)
      · rintro l9619 h1
        replace h1 : (g48_j2 k_8744 l9619).bind _ = _ := h1
        rw [g48_j2] at h1
        refine VW.evalA (C := [(53, F53)]) (tm 107 [(1, .ptr 0 0 0), (4, .ref 1 0 l9619.length), (5, .i .i64 (sI .i64 k_8744 1))]) [some (7, [(pT24 s)]), some (1, rows cl_ci_i64o l9619), none] [] ⟨.inl ok53, trivial⟩ (by kernel_rfl) (by simp -implicitDefEqProofs) ?_
        exact (show ∃ _, _ from ⟨(sI .i64 k_8744 1, l9619), leafL h1, (Ent.to 3 (by simp [fgt]) (by first | (simp; done) | simp [pT24]) (by simp) (by simp [bndT, bndV]) (by simp [bndM, bndV]))⟩)
    · replace h1 := iteF g8746 h1
      refine VW.exit ?_
      have e_ := leafR h1
      subst w_1
      exact (show ∃ _, _ from ⟨l8745, h, (Ent.to 3 (by simp [fgt]) (by first | (simp; done) | simp [pT24]) (by simp) (by simp [bndT, bndV]) (by simp [bndM, bndV]))⟩)
  · rintro l5249 h
    replace h : (g48_j1 l5249).bind _ = _ := h
    rw [g48_j1] at h
    refine VW.seq ?_
    refine VW.evalA (C := [(53, F53)]) (tm 107 [(2, .ref 1 0 l5249.length)]) [some (7, [(pT24 s)]), some (1, rows cl_ci_i64o l5249), none] [] ⟨.inl ok53, trivial⟩ (by kernel_rfl) (by simp -implicitDefEqProofs) ?_
    obtain rfl := leafS h
    refine VW.ret (VRet.fin ?_)
    simp [eB48]
noncomputable def g18 (s : T24) (plan : List Int) : Option (Int × Int) :=
  (g47 s plan).bind fun r1 =>
  if (!eqI r1.2 0) = true then
    some (0, r1.2)
  else
    (g48 s).bind fun r4 =>
    (idx r4 0).bind fun e6 =>
    (idx e6 s.first_).bind fun e8 =>
    some (sI .i64 r1.1 e8, 0)
def eA18 (a : T24 × (List Int)) : List V := [.agg (pT24 a.1), .sl 1 (rows ci_i64 a.2)]
def eB18 (r : Int × Int) : V := .tup [.i .i64 r.1, .i .i64 r.2]
theorem inj18 (a a' : T24 × (List Int)) (h : eA18 a = eA18 a') : a = a' := by
  obtain ⟨⟨i411, i412, i413, i414, i415, i416, i417⟩, i418⟩ := a
  obtain ⟨⟨i419, i420, i421, i422, i423, i424, i425⟩, i426⟩ := a'
  simp only [eA18, pT24, List.cons.injEq, V.i.injEq, V.b.injEq, V.f.injEq, V.str.injEq, V.sl.injEq, V.agg.injEq, V.cptr.injEq, true_and, and_true] at h
  simp_all [ri ci_i64_inj]
noncomputable def F18 : List V → Option V := tells (fun a => g18 a.1 a.2) eA18 eB18
set_option maxRecDepth 100000 in
set_option maxHeartbeats 4000000 in
/- loop.example/g01229/impl.RegretOf -/
theorem ok18 : Tells Try.prog 18 F18 := by
  refine Tells.of (by kernel_rfl) ?_
  rintro ⟨s, plan⟩ r h
  refine VCalls.nl (VCalls.of Try.func18 rfl rfl rfl ?_)
  rw [tm_init]
  simp only [eA18, en, List.length_cons, List.length_nil, Nat.reduceAdd, Nat.reduceSub]
  replace h : (g18 s plan).bind some = some r := bindS h
  rw [g18] at h
  refine VW.seq ?_
  refine VW.evalA (C := [(47, F47), (48, F48)]) (tm 27 [(1, .sl 1 (rows ci_i64 plan)), (2, .ptr 0 0 0)]) [some (7, [(pT24 s)])] [] ⟨.inl ok47, .inl ok48, trivial⟩ (by kernel_rfl) (by simp -implicitDefEqProofs) ?_
  refine VW.seq ?_
  obtain ⟨r1, q2, h⟩ := bindE h
  have c2 : F47 [.agg (pT24 s), .sl 1 (rows ci_i64 plan)] = some (.tup [.i .i64 r1.1, .i .i64 r1.2]) := tells_eq inj47 (a := (s, plan)) q2
  refine VW.evalA (C := [(47, F47), (48, F48)]) (tm 27 [(2, .ptr 0 0 0), (6, .i .i64 r1.1), (7, .i .i64 r1.2)]) [some (7, [(pT24 s)])] [] ⟨.inl ok47, .inl ok48, trivial⟩ (by kernel_rfl) (by simp -implicitDefEqProofs [c2]) ?_
  refine VW.seq ?_
  refine VW.seq ?_
  refine VW.evalA (C := [(47, F47), (48, F48)]) (tm 27 [(2, .ptr 0 0 0), (6, .i .i64 r1.1), (7, .i .i64 r1.2), (15, .b (!eqI r1.2 0))]) [some (7, [(pT24 s)])] [] ⟨.inl ok47, .inl ok48, trivial⟩ (by kernel_rfl) (by simp -implicitDefEqProofs) ?_
  refine VW.condB (b := (!eqI r1.2 0)) (by simp) (fun g3 => ?_) (fun g3 => ?_)
  · replace h := iteT g3 h
    refine VW.seq ?_
    refine VW.evalA (C := [(47, F47), (48, F48)]) (tm 27 [(4, .i .i64 0), (5, .i .i64 r1.2)]) [some (7, [(pT24 s)])] [] ⟨.inl ok47, .inl ok48, trivial⟩ (by kernel_rfl) (by simp -implicitDefEqProofs) ?_
    obtain rfl := leafS h
    refine VW.ret (VRet.fin ?_)
    simp [eB18]
  · replace h := iteF g3 h
    refine VW.skip ?_
    refine VW.seq ?_
    obtain ⟨r4, q5, h⟩ := bindE h
    have c5 : F48 [.agg (pT24 s)] = some (.own 1 (rows cl_ci_i64o r4)) := tells_eq inj48 (a := s) q5
    obtain ⟨e6, q7, h⟩ := bindE h
    obtain ⟨f7a, f7b, f7c, f7d⟩ := idx_some q7
    try simp only [Int.toNat_natCast, Int.reduceToNat] at f7a f7b f7c f7d
    obtain ⟨e8, q9, h⟩ := bindE h
    obtain ⟨f9a, f9b, f9c, f9d⟩ := idx_some q9
    refine VW.evalDA (C := [(47, F47), (48, F48)]) (tm 27 [(4, .i .i64 (sI .i64 r1.1 e8)), (5, .i .i64 0)]) [some (7, [(pT24 s)]), some (1, rows cl_ci_i64 r4)] [] ⟨.inl ok47, .inl ok48, trivial⟩ mixed (by kernel_rfl) (by simp -implicitDefEqProofs [c5, f7a, f7b, f7c, f7d, f9a, f9b, f9c, f9d]) ?_
    obtain rfl := leafS h
    refine VW.ret (VRet.fin ?_)
    simp [eB18]
noncomputable def g4 (aS : T24) (aPlan : List Int) : Option (Bool) :=
  if ltI 1048576 (aPlan.length : Int) = true then
    some true
  else
    (g8 aS 1048576).bind fun r2 =>
    if ltI r2 0 = true then
      some true
    else
      (g11 aS).bind fun r5 =>
      (g17 aPlan).bind fun r7 =>
      (g16 r5 r7).bind fun r9 =>
      (g11 aS).bind fun r11 =>
      (g17 aPlan).bind fun r13 =>
      (g18 r11 r13).bind fun r15 =>
      if ((!eqI r15.1 r9.1) || (!eqI r15.2 r9.2)) = true then
        some false
      else
        (g11 aS).bind fun r18 =>
        (g14 r11 r18).bind fun r20 =>
        if (!r20) = true then
          some false
        else
          (g17 aPlan).bind fun r23 =>
          (g19 r13 r23).bind fun r25 =>
          if (!r25) = true then
            some false
          else
            some true
def eA4 (a : T24 × (List Int)) : List V := [.agg (pT24 a.1), .sl 1 (rows ci_i64 a.2)]
def eB4 (r : Bool) : V := .b r
theorem inj4 (a a' : T24 × (List Int)) (h : eA4 a = eA4 a') : a = a' := by
  obtain ⟨⟨i427, i428, i429, i430, i431, i432, i433⟩, i434⟩ := a
  obtain ⟨⟨i435, i436, i437, i438, i439, i440, i441⟩, i442⟩ := a'
  simp only [eA4, pT24, List.cons.injEq, V.i.injEq, V.b.injEq, V.f.injEq, V.str.injEq, V.sl.injEq, V.agg.injEq, V.cptr.injEq, true_and, and_true] at h
  simp_all [ri ci_i64_inj]
noncomputable def F4 : List V → Option V := tells (fun a => g4 a.1 a.2) eA4 eB4
set_option maxRecDepth 100000 in
set_option maxHeartbeats 4000000 in
/- loop.example/g01229/laws.FnExactRegretOf -/
theorem ok4 : Tells Try.prog 4 F4 := by
  refine Tells.of (by kernel_rfl) ?_
  rintro ⟨aS, aPlan⟩ r h
  refine VCalls.nl (VCalls.of Try.func4 rfl rfl rfl ?_)
  rw [tm_init]
  simp only [eA4, en, List.length_cons, List.length_nil, Nat.reduceAdd, Nat.reduceSub]
  replace h : (g4 aS aPlan).bind some = some r := bindS h
  rw [g4] at h
  refine VW.seq ?_
  refine VW.evalA (C := [(8, F8), (11, F11), (14, F14), (16, F16), (17, F17), (18, F18), (19, F19)]) (tm 56 [(1, .sl 1 (rows ci_i64 aPlan)), (2, .ptr 0 0 0)]) [some (7, [(pT24 aS)])] [] ⟨.inl ok8, .inl ok11, .inl ok14, .inl ok16, .inl ok17, .inl ok18, .inl ok19, trivial⟩ (by kernel_rfl) (by simp -implicitDefEqProofs) ?_
  refine VW.seq ?_
  refine VW.seq ?_
  refine VW.evalA (C := [(8, F8), (11, F11), (14, F14), (16, F16), (17, F17), (18, F18), (19, F19)]) (tm 56 [(1, .sl 1 (rows ci_i64 aPlan)), (2, .ptr 0 0 0), (14, .b (ltI 1048576 (aPlan.length : Int)))]) [some (7, [(pT24 aS)])] [] ⟨.inl ok8, .inl ok11, .inl ok14, .inl ok16, .inl ok17, .inl ok18, .inl ok19, trivial⟩ (by kernel_rfl) (by simp -implicitDefEqProofs) ?_
  refine VW.condB (b := ltI 1048576 (aPlan.length : Int)) (by simp) (fun g1 => ?_) (fun g1 => ?_)
  · replace h := iteT g1 h
    refine VW.seq ?_
    refine VW.evalA (C := [(8, F8), (11, F11), (14, F14), (16, F16), (17, F17), (18, F18), (19, F19)]) (tm 56 [(4, .b true)]) [some (7, [(pT24 aS)])] [] ⟨.inl ok8, .inl ok11, .inl ok14, .inl ok16, .inl ok17, .inl ok18, .inl ok19, trivial⟩ (by kernel_rfl) (by simp -implicitDefEqProofs) ?_
    obtain rfl := leafS h
    refine VW.ret (VRet.fin ?_)
    simp [eB4]
  · replace h := iteF g1 h
    refine VW.skip ?_
    refine VW.seq ?_
    refine VW.evalA (C := [(8, F8), (11, F11), (14, F14), (16, F16), (17, F17), (18, F18), (19, F19)]) (tm 56 [(1, .sl 1 (rows ci_i64 aPlan)), (2, .ptr 0 0 0), (5, .i .i64 1048576)]) [some (7, [(pT24 aS)])] [] ⟨.inl ok8, .inl ok11, .inl ok14, .inl ok16, .inl ok17, .inl ok18, .inl ok19, trivial⟩ (by kernel_rfl) (by simp -implicitDefEqProofs) ?_
    refine VW.seq ?_
    obtain ⟨r2, q3, h⟩ := bindE h
    have c3 : F8 [.agg (pT24 aS), .i .i64 1048576] = some (.i .i64 r2) := tells_eq inj8 (a := (aS, 1048576)) q3
    refine VW.evalA (C := [(8, F8), (11, F11), (14, F14), (16, F16), (17, F17), (18, F18), (19, F19)]) (tm 56 [(1, .sl 1 (rows ci_i64 aPlan)), (2, .ptr 0 0 0), (5, .i .i64 r2)]) [some (7, [(pT24 aS)])] [] ⟨.inl ok8, .inl ok11, .inl ok14, .inl ok16, .inl ok17, .inl ok18, .inl ok19, trivial⟩ (by kernel_rfl) (by simp -implicitDefEqProofs [c3]) ?_
    refine VW.seq ?_
    refine VW.seq ?_
    refine VW.evalA (C := [(8, F8), (11, F11), (14, F14), (16, F16), (17, F17), (18, F18), (19, F19)]) (tm 56 [(1, .sl 1 (rows ci_i64 aPlan)), (2, .ptr 0 0 0), (19, .b (ltI r2 0))]) [some (7, [(pT24 aS)])] [] ⟨.inl ok8, .inl ok11, .inl ok14, .inl ok16, .inl ok17, .inl ok18, .inl ok19, trivial⟩ (by kernel_rfl) (by simp -implicitDefEqProofs) ?_
    refine VW.condB (b := ltI r2 0) (by simp) (fun g4 => ?_) (fun g4 => ?_)
    · replace h := iteT g4 h
      refine VW.seq ?_
      refine VW.evalA (C := [(8, F8), (11, F11), (14, F14), (16, F16), (17, F17), (18, F18), (19, F19)]) (tm 56 [(4, .b true)]) [some (7, [(pT24 aS)])] [] ⟨.inl ok8, .inl ok11, .inl ok14, .inl ok16, .inl ok17, .inl ok18, .inl ok19, trivial⟩ (by kernel_rfl) (by simp -implicitDefEqProofs) ?_
      obtain rfl := leafS h
      refine VW.ret (VRet.fin ?_)
      simp [eB4]
    · replace h := iteF g4 h
      refine VW.skip ?_
      refine VW.seq ?_
      obtain ⟨r5, q6, h⟩ := bindE h
      have c6 : F11 [.agg (pT24 aS)] = some (.agg [.own 1 (rows ci_i64 r5.need_), .own 1 (rows ci_i64 r5.price_), .i .i64 r5.most_, .i .i64 r5.yield_, .i .i64 r5.store_, .i .i64 r5.first_, .i .i64 r5.loss_]) := tells_eq inj11 (a := aS) q6
      obtain ⟨r7, q8, h⟩ := bindE h
      have c8 : F17 [.sl 1 (rows ci_i64 aPlan)] = some (.own 1 (rows ci_i64 r7)) := tells_eq inj17 (a := aPlan) q8
      obtain ⟨r9, q10, h⟩ := bindE h
      have c10 : F16 [.agg [.sl 1 (rows ci_i64 r5.need_), .sl 1 (rows ci_i64 r5.price_), .i .i64 r5.most_, .i .i64 r5.yield_, .i .i64 r5.store_, .i .i64 r5.first_, .i .i64 r5.loss_], .sl 1 (rows ci_i64 r7)] = some (.tup [.i .i64 r9.1, .i .i64 r9.2]) := tells_eq inj16 (a := (r5, r7)) q10
      refine VW.evalA (C := [(8, F8), (11, F11), (14, F14), (16, F16), (17, F17), (18, F18), (19, F19)]) (tm 56 [(1, .sl 1 (rows ci_i64 aPlan)), (2, .ptr 0 0 0), (6, .i .i64 r9.1), (7, .i .i64 r9.2)]) [some (7, [(pT24 aS)]), some (1, rows ci_i64 r5.need_), some (1, rows ci_i64 r5.price_), some (1, rows ci_i64 r7)] [] ⟨.inl ok8, .inl ok11, .inl ok14, .inl ok16, .inl ok17, .inl ok18, .inl ok19, trivial⟩ (by kernel_rfl) (by simp -implicitDefEqProofs [c6, c8, c10]) ?_
      refine VW.seq ?_
      obtain ⟨r11, q12, h⟩ := bindE h
      have c12 : F11 [.agg (pT24 aS)] = some (.agg [.own 1 (rows ci_i64 r11.need_), .own 1 (rows ci_i64 r11.price_), .i .i64 r11.most_, .i .i64 r11.yield_, .i .i64 r11.store_, .i .i64 r11.first_, .i .i64 r11.loss_]) := tells_eq inj11 (a := aS) q12
      refine VW.evalA (C := [(8, F8), (11, F11), (14, F14), (16, F16), (17, F17), (18, F18), (19, F19)]) (tm 56 [(1, .sl 1 (rows ci_i64 aPlan)), (2, .ptr 0 0 0), (6, .i .i64 r9.1), (7, .i .i64 r9.2), (8, .ptr 6 0 0)]) [some (7, [(pT24 aS)]), some (1, rows ci_i64 r5.need_), some (1, rows ci_i64 r5.price_), some (1, rows ci_i64 r7), some (1, rows ci_i64 r11.need_), some (1, rows ci_i64 r11.price_), some (7, [[.ref 4 0 r11.need_.length, .ref 5 0 r11.price_.length, .i .i64 r11.most_, .i .i64 r11.yield_, .i .i64 r11.store_, .i .i64 r11.first_, .i .i64 r11.loss_]])] [] ⟨.inl ok8, .inl ok11, .inl ok14, .inl ok16, .inl ok17, .inl ok18, .inl ok19, trivial⟩ (by kernel_rfl) (by simp -implicitDefEqProofs [c12]) ?_
      refine VW.seq ?_
      obtain ⟨r13, q14, h⟩ := bindE h
      have c14 : F17 [.sl 1 (rows ci_i64 aPlan)] = some (.own 1 (rows ci_i64 r13)) := tells_eq inj17 (a := aPlan) q14
      refine VW.evalA (C := [(8, F8), (11, F11), (14, F14), (16, F16), (17, F17), (18, F18), (19, F19)]) (tm 56 [(1, .sl 1 (rows ci_i64 aPlan)), (2, .ptr 0 0 0), (6, .i .i64 r9.1), (7, .i .i64 r9.2), (8, .ptr 6 0 0), (9, .ref 7 0 r13.length)]) [some (7, [(pT24 aS)]), some (1, rows ci_i64 r5.need_), some (1, rows ci_i64 r5.price_), some (1, rows ci_i64 r7), some (1, rows ci_i64 r11.need_), some (1, rows ci_i64 r11.price_), some (7, [[.ref 4 0 r11.need_.length, .ref 5 0 r11.price_.length, .i .i64 r11.most_, .i .i64 r11.yield_, .i .i64 r11.store_, .i .i64 r11.first_, .i .i64 r11.loss_]]), some (1, rows ci_i64 r13)] [] ⟨.inl ok8, .inl ok11, .inl ok14, .inl ok16, .inl ok17, .inl ok18, .inl ok19, trivial⟩ (by kernel_rfl) (by simp -implicitDefEqProofs [c14]) ?_
      refine VW.seq ?_
      obtain ⟨r15, q16, h⟩ := bindE h
      have c16 : F18 [.agg [.sl 1 (rows ci_i64 r11.need_), .sl 1 (rows ci_i64 r11.price_), .i .i64 r11.most_, .i .i64 r11.yield_, .i .i64 r11.store_, .i .i64 r11.first_, .i .i64 r11.loss_], .sl 1 (rows ci_i64 r13)] = some (.tup [.i .i64 r15.1, .i .i64 r15.2]) := tells_eq inj18 (a := (r11, r13)) q16
      refine VW.evalA (C := [(8, F8), (11, F11), (14, F14), (16, F16), (17, F17), (18, F18), (19, F19)]) (tm 56 [(1, .sl 1 (rows ci_i64 aPlan)), (2, .ptr 0 0 0), (6, .i .i64 r9.1), (7, .i .i64 r9.2), (8, .ptr 6 0 0), (9, .ref 7 0 r13.length), (10, .i .i64 r15.1), (11, .i .i64 r15.2)]) [some (7, [(pT24 aS)]), some (1, rows ci_i64 r5.need_), some (1, rows ci_i64 r5.price_), some (1, rows ci_i64 r7), some (1, rows ci_i64 r11.need_), some (1, rows ci_i64 r11.price_), some (7, [[.ref 4 0 r11.need_.length, .ref 5 0 r11.price_.length, .i .i64 r11.most_, .i .i64 r11.yield_, .i .i64 r11.store_, .i .i64 r11.first_, .i .i64 r11.loss_]]), some (1, rows ci_i64 r13)] [] ⟨.inl ok8, .inl ok11, .inl ok14, .inl ok16, .inl ok17, .inl ok18, .inl ok19, trivial⟩ (by kernel_rfl) (by simp -implicitDefEqProofs [c16]) ?_
      refine VW.seq ?_
      refine VW.seq ?_
      refine VW.evalA (C := [(8, F8), (11, F11), (14, F14), (16, F16), (17, F17), (18, F18), (19, F19)]) (tm 56 [(1, .sl 1 (rows ci_i64 aPlan)), (2, .ptr 0 0 0), (8, .ptr 6 0 0), (9, .ref 7 0 r13.length), (45, .b ((!eqI r15.1 r9.1) || (!eqI r15.2 r9.2)))]) [some (7, [(pT24 aS)]), some (1, rows ci_i64 r5.need_), some (1, rows ci_i64 r5.price_), some (1, rows ci_i64 r7), some (1, rows ci_i64 r11.need_), some (1, rows ci_i64 r11.price_), some (7, [[.ref 4 0 r11.need_.length, .ref 5 0 r11.price_.length, .i .i64 r11.most_, .i .i64 r11.yield_, .i .i64 r11.store_, .i .i64 r11.first_, .i .i64 r11.loss_]]), some (1, rows ci_i64 r13)] [] ⟨.inl ok8, .inl ok11, .inl ok14, .inl ok16, .inl ok17, .inl ok18, .inl ok19, trivial⟩ (by kernel_rfl) (by simp -implicitDefEqProofs) ?_
      refine VW.condB (b := ((!eqI r15.1 r9.1) || (!eqI r15.2 r9.2))) (by simp) (fun g17 => ?_) (fun g17 => ?_)
      · replace h := iteT g17 h
        refine VW.seq ?_
        refine VW.evalA (C := [(8, F8), (11, F11), (14, F14), (16, F16), (17, F17), (18, F18), (19, F19)]) (tm 56 [(4, .b false)]) [some (7, [(pT24 aS)]), some (1, rows ci_i64 r5.need_), some (1, rows ci_i64 r5.price_), some (1, rows ci_i64 r7), some (1, rows ci_i64 r11.need_), some (1, rows ci_i64 r11.price_), some (7, [[.ref 4 0 r11.need_.length, .ref 5 0 r11.price_.length, .i .i64 r11.most_, .i .i64 r11.yield_, .i .i64 r11.store_, .i .i64 r11.first_, .i .i64 r11.loss_]]), some (1, rows ci_i64 r13)] [] ⟨.inl ok8, .inl ok11, .inl ok14, .inl ok16, .inl ok17, .inl ok18, .inl ok19, trivial⟩ (by kernel_rfl) (by simp -implicitDefEqProofs) ?_
        obtain rfl := leafS h
        refine VW.ret (VRet.fin ?_)
        simp [eB4]
      · replace h := iteF g17 h
        refine VW.skip ?_
        refine VW.seq ?_
        refine VW.seq ?_
        obtain ⟨r18, q19, h⟩ := bindE h
        have c19 : F11 [.agg (pT24 aS)] = some (.agg [.own 1 (rows ci_i64 r18.need_), .own 1 (rows ci_i64 r18.price_), .i .i64 r18.most_, .i .i64 r18.yield_, .i .i64 r18.store_, .i .i64 r18.first_, .i .i64 r18.loss_]) := tells_eq inj11 (a := aS) q19
        obtain ⟨r20, q21, h⟩ := bindE h
        have c21 : F14 [.agg [.sl 1 (rows ci_i64 r11.need_), .sl 1 (rows ci_i64 r11.price_), .i .i64 r11.most_, .i .i64 r11.yield_, .i .i64 r11.store_, .i .i64 r11.first_, .i .i64 r11.loss_], .agg [.sl 1 (rows ci_i64 r18.need_), .sl 1 (rows ci_i64 r18.price_), .i .i64 r18.most_, .i .i64 r18.yield_, .i .i64 r18.store_, .i .i64 r18.first_, .i .i64 r18.loss_]] = some (.b r20) := tells_eq inj14 (a := (r11, r18)) q21
        refine VW.evalDA (C := [(8, F8), (11, F11), (14, F14), (16, F16), (17, F17), (18, F18), (19, F19)]) (tm 56 [(1, .sl 1 (rows ci_i64 aPlan)), (9, .ref 7 0 r13.length), (50, .b (!r20))]) [some (7, [(pT24 aS)]), some (1, rows ci_i64 r5.need_), some (1, rows ci_i64 r5.price_), some (1, rows ci_i64 r7), some (1, rows ci_i64 r11.need_), some (1, rows ci_i64 r11.price_), some (7, [[.ref 4 0 r11.need_.length, .ref 5 0 r11.price_.length, .i .i64 r11.most_, .i .i64 r11.yield_, .i .i64 r11.store_, .i .i64 r11.first_, .i .i64 r11.loss_]]), some (1, rows ci_i64 r13), some (1, rows ci_i64 r18.need_), some (1, rows ci_i64 r18.price_)] [] ⟨.inl ok8, .inl ok11, .inl ok14, .inl ok16, .inl ok17, .inl ok18, .inl ok19, trivial⟩ mixed (by kernel_rfl) (by simp -implicitDefEqProofs [c19, c21]) ?_
        refine VW.condB (b := (!r20)) (by simp) (fun g22 => ?_) (fun g22 => ?_)
        · replace h := iteT g22 h
          refine VW.seq ?_
          refine VW.evalA (C := [(8, F8), (11, F11), (14, F14), (16, F16), (17, F17), (18, F18), (19, F19)]) (tm 56 [(4, .b false)]) [some (7, [(pT24 aS)]), some (1, rows ci_i64 r5.need_), some (1, rows ci_i64 r5.price_), some (1, rows ci_i64 r7), some (1, rows ci_i64 r11.need_), some (1, rows ci_i64 r11.price_), some (7, [[.ref 4 0 r11.need_.length, .ref 5 0 r11.price_.length, .i .i64 r11.most_, .i .i64 r11.yield_, .i .i64 r11.store_, .i .i64 r11.first_, .i .i64 r11.loss_]]), some (1, rows ci_i64 r13), some (1, rows ci_i64 r18.need_), some (1, rows ci_i64 r18.price_)] [] ⟨.inl ok8, .inl ok11, .inl ok14, .inl ok16, .inl ok17, .inl ok18, .inl ok19, trivial⟩ (by kernel_rfl) (by simp -implicitDefEqProofs) ?_
          obtain rfl := leafS h
          refine VW.ret (VRet.fin ?_)
          simp [eB4]
        · replace h := iteF g22 h
          refine VW.skip ?_
          refine VW.seq ?_
          refine VW.seq ?_
          obtain ⟨r23, q24, h⟩ := bindE h
          have c24 : F17 [.sl 1 (rows ci_i64 aPlan)] = some (.own 1 (rows ci_i64 r23)) := tells_eq inj17 (a := aPlan) q24
          obtain ⟨r25, q26, h⟩ := bindE h
          have c26 : F19 [.sl 1 (rows ci_i64 r13), .sl 1 (rows ci_i64 r23)] = some (.b r25) := tells_eq inj19 (a := (r13, r23)) q26
          refine VW.evalA (C := [(8, F8), (11, F11), (14, F14), (16, F16), (17, F17), (18, F18), (19, F19)]) (tm 56 [(55, .b (!r25))]) [some (7, [(pT24 aS)]), some (1, rows ci_i64 r5.need_), some (1, rows ci_i64 r5.price_), some (1, rows ci_i64 r7), some (1, rows ci_i64 r11.need_), some (1, rows ci_i64 r11.price_), some (7, [[.ref 4 0 r11.need_.length, .ref 5 0 r11.price_.length, .i .i64 r11.most_, .i .i64 r11.yield_, .i .i64 r11.store_, .i .i64 r11.first_, .i .i64 r11.loss_]]), some (1, rows ci_i64 r13), some (1, rows ci_i64 r18.need_), some (1, rows ci_i64 r18.price_), some (1, rows ci_i64 r23)] [] ⟨.inl ok8, .inl ok11, .inl ok14, .inl ok16, .inl ok17, .inl ok18, .inl ok19, trivial⟩ (by kernel_rfl) (by simp -implicitDefEqProofs [c24, c26]) ?_
          refine VW.condB (b := (!r25)) (by simp) (fun g27 => ?_) (fun g27 => ?_)
          · replace h := iteT g27 h
            refine VW.seq ?_
            refine VW.evalA (C := [(8, F8), (11, F11), (14, F14), (16, F16), (17, F17), (18, F18), (19, F19)]) (tm 56 [(4, .b false)]) [some (7, [(pT24 aS)]), some (1, rows ci_i64 r5.need_), some (1, rows ci_i64 r5.price_), some (1, rows ci_i64 r7), some (1, rows ci_i64 r11.need_), some (1, rows ci_i64 r11.price_), some (7, [[.ref 4 0 r11.need_.length, .ref 5 0 r11.price_.length, .i .i64 r11.most_, .i .i64 r11.yield_, .i .i64 r11.store_, .i .i64 r11.first_, .i .i64 r11.loss_]]), some (1, rows ci_i64 r13), some (1, rows ci_i64 r18.need_), some (1, rows ci_i64 r18.price_), some (1, rows ci_i64 r23)] [] ⟨.inl ok8, .inl ok11, .inl ok14, .inl ok16, .inl ok17, .inl ok18, .inl ok19, trivial⟩ (by kernel_rfl) (by simp -implicitDefEqProofs) ?_
            obtain rfl := leafS h
            refine VW.ret (VRet.fin ?_)
            simp [eB4]
          · replace h := iteF g27 h
            refine VW.skip ?_
            refine VW.seq ?_
            refine VW.evalA (C := [(8, F8), (11, F11), (14, F14), (16, F16), (17, F17), (18, F18), (19, F19)]) (tm 56 [(4, .b true)]) [some (7, [(pT24 aS)]), some (1, rows ci_i64 r5.need_), some (1, rows ci_i64 r5.price_), some (1, rows ci_i64 r7), some (1, rows ci_i64 r11.need_), some (1, rows ci_i64 r11.price_), some (7, [[.ref 4 0 r11.need_.length, .ref 5 0 r11.price_.length, .i .i64 r11.most_, .i .i64 r11.yield_, .i .i64 r11.store_, .i .i64 r11.first_, .i .i64 r11.loss_]]), some (1, rows ci_i64 r13), some (1, rows ci_i64 r18.need_), some (1, rows ci_i64 r18.price_), some (1, rows ci_i64 r23)] [] ⟨.inl ok8, .inl ok11, .inl ok14, .inl ok16, .inl ok17, .inl ok18, .inl ok19, trivial⟩ (by kernel_rfl) (by simp -implicitDefEqProofs) ?_
            obtain rfl := leafS h
            refine VW.ret (VRet.fin ?_)
            simp [eB4]
noncomputable def g20 (s : T24) (plan : List Int) (table : List (List Int)) : Option (Bool × Int) :=
  (g45 s plan).bind fun r1 =>
  if (!eqI r1.2 0) = true then
    some (false, r1.2)
  else
    (g40 s table).bind fun r4 =>
    if (!r4) = true then
      some (false, 0)
    else
      (g41 s table).bind fun r7 =>
      (if (!r7.2.2.2) = true then (idx table 0).bind fun e9 => (idx e9 s.first_).bind fun e11 => some (eqI e11 r1.1) else some false).bind fun w13 =>
      some (w13, 0)
def eA20 (a : T24 × (List Int) × (List (List Int))) : List V := [.agg (pT24 a.1), .sl 1 (rows ci_i64 a.2.1), .sl 1 (rows cl_ci_i64 a.2.2)]
def eB20 (r : Bool × Int) : V := .tup [.b r.1, .i .i64 r.2]
theorem inj20 (a a' : T24 × (List Int) × (List (List Int))) (h : eA20 a = eA20 a') : a = a' := by
  obtain ⟨⟨i443, i444, i445, i446, i447, i448, i449⟩, i450, i451⟩ := a
  obtain ⟨⟨i452, i453, i454, i455, i456, i457, i458⟩, i459, i460⟩ := a'
  simp only [eA20, pT24, List.cons.injEq, V.i.injEq, V.b.injEq, V.f.injEq, V.str.injEq, V.sl.injEq, V.agg.injEq, V.cptr.injEq, true_and, and_true] at h
  simp_all [ri ci_i64_inj, ri cl_ci_i64_inj]
noncomputable def F20 : List V → Option V := tells (fun a => g20 a.1 a.2.1 a.2.2) eA20 eB20
set_option maxRecDepth 100000 in
set_option maxHeartbeats 4000000 in
/- loop.example/g01229/spec.IsCertificate -/
theorem ok20 : Tells Try.prog 20 F20 := by
  refine Tells.of (by kernel_rfl) ?_
  rintro ⟨s, plan, table⟩ r h
  refine VCalls.nl (VCalls.of Try.func20 rfl rfl rfl ?_)
  rw [tm_init]
  simp only [eA20, en, List.length_cons, List.length_nil, Nat.reduceAdd, Nat.reduceSub]
  replace h : (g20 s plan table).bind some = some r := bindS h
  rw [g20] at h
  refine VW.seq ?_
  refine VW.evalA (C := [(40, F40), (41, F41), (45, F45)]) (tm 45 [(1, .sl 1 (rows ci_i64 plan)), (2, .sl 1 (rows cl_ci_i64 table)), (3, .ptr 0 0 0)]) [some (7, [(pT24 s)])] [] ⟨.inl ok40, .inl ok41, .inl ok45, trivial⟩ (by kernel_rfl) (by simp -implicitDefEqProofs) ?_
  refine VW.seq ?_
  obtain ⟨r1, q2, h⟩ := bindE h
  have c2 : F45 [.cptr (pT24 s) 0, .sl 1 (rows ci_i64 plan)] = some (.tup [.i .i64 r1.1, .i .i64 r1.2]) := tells_eq inj45 (a := (s, plan)) q2
  refine VW.evalA (C := [(40, F40), (41, F41), (45, F45)]) (tm 45 [(2, .sl 1 (rows cl_ci_i64 table)), (3, .ptr 0 0 0), (8, .i .i64 r1.1), (9, .i .i64 r1.2)]) [some (7, [(pT24 s)])] [] ⟨.inl ok40, .inl ok41, .inl ok45, trivial⟩ (by kernel_rfl) (by simp -implicitDefEqProofs [c2]) ?_
  refine VW.seq ?_
  refine VW.seq ?_
  refine VW.evalA (C := [(40, F40), (41, F41), (45, F45)]) (tm 45 [(2, .sl 1 (rows cl_ci_i64 table)), (3, .ptr 0 0 0), (8, .i .i64 r1.1), (9, .i .i64 r1.2), (20, .b (!eqI r1.2 0))]) [some (7, [(pT24 s)])] [] ⟨.inl ok40, .inl ok41, .inl ok45, trivial⟩ (by kernel_rfl) (by simp -implicitDefEqProofs) ?_
  refine VW.condB (b := (!eqI r1.2 0)) (by simp) (fun g3 => ?_) (fun g3 => ?_)
  · replace h := iteT g3 h
    refine VW.seq ?_
    refine VW.evalA (C := [(40, F40), (41, F41), (45, F45)]) (tm 45 [(6, .b false), (7, .i .i64 r1.2)]) [some (7, [(pT24 s)])] [] ⟨.inl ok40, .inl ok41, .inl ok45, trivial⟩ (by kernel_rfl) (by simp -implicitDefEqProofs) ?_
    obtain rfl := leafS h
    refine VW.ret (VRet.fin ?_)
    simp [eB20]
  · replace h := iteF g3 h
    refine VW.skip ?_
    refine VW.seq ?_
    refine VW.seq ?_
    obtain ⟨r4, q5, h⟩ := bindE h
    have c5 : F40 [.cptr (pT24 s) 0, .sl 1 (rows cl_ci_i64 table)] = some (.b r4) := tells_eq inj40 (a := (s, table)) q5
    refine VW.evalA (C := [(40, F40), (41, F41), (45, F45)]) (tm 45 [(2, .sl 1 (rows cl_ci_i64 table)), (3, .ptr 0 0 0), (8, .i .i64 r1.1), (24, .b (!r4))]) [some (7, [(pT24 s)])] [] ⟨.inl ok40, .inl ok41, .inl ok45, trivial⟩ (by kernel_rfl) (by simp -implicitDefEqProofs [c5]) ?_
    refine VW.condB (b := (!r4)) (by simp) (fun g6 => ?_) (fun g6 => ?_)
    · replace h := iteT g6 h
      refine VW.seq ?_
      refine VW.evalA (C := [(40, F40), (41, F41), (45, F45)]) (tm 45 [(6, .b false), (7, .i .i64 0)]) [some (7, [(pT24 s)])] [] ⟨.inl ok40, .inl ok41, .inl ok45, trivial⟩ (by kernel_rfl) (by simp -implicitDefEqProofs) ?_
      obtain rfl := leafS h
      refine VW.ret (VRet.fin ?_)
      simp [eB20]
    · replace h := iteF g6 h
      refine VW.skip ?_
      refine VW.seq ?_
      obtain ⟨r7, q8, h⟩ := bindE h
      have c8 : F41 [.cptr (pT24 s) 0, .sl 1 (rows cl_ci_i64 table)] = some (.tup [.i .i64 r7.1, .i .i64 r7.2.1, .i .i64 r7.2.2.1, .b r7.2.2.2]) := tells_eq inj41 (a := (s, table)) q8
      refine VW.evalA (C := [(40, F40), (41, F41), (45, F45)]) (tm 45 [(2, .sl 1 (rows cl_ci_i64 table)), (3, .ptr 0 0 0), (8, .i .i64 r1.1), (13, .b r7.2.2.2)]) [some (7, [(pT24 s)])] [] ⟨.inl ok40, .inl ok41, .inl ok45, trivial⟩ (by kernel_rfl) (by simp -implicitDefEqProofs [c8]) ?_
      refine VW.seq ?_
      obtain ⟨w13, q14, h⟩ := bindE h
      refine VW.evalDA (C := [(40, F40), (41, F41), (45, F45)]) (tm 45 [(6, .b w13), (7, .i .i64 0)]) [some (7, [(pT24 s)])] [] ⟨.inl ok40, .inl ok41, .inl ok45, trivial⟩ mixed (by kernel_rfl) (by
          rcases Bool.eq_false_or_eq_true (!r7.2.2.2) with q15 | q15
          · first
            | (simp at q15; done)
            | (rw [if_pos q15] at q14
               obtain ⟨e9, q10, q14⟩ := bindQ q14
               obtain ⟨f10a, f10b, f10c, f10d⟩ := idx_some q10
               try simp only [Int.toNat_natCast, Int.reduceToNat] at f10a f10b f10c f10d
               obtain ⟨e11, q12, q14⟩ := bindQ q14
               obtain ⟨f12a, f12b, f12c, f12d⟩ := idx_some q12
               have d16 : w13 = _ := (Option.some.inj q14).symm
               simp -implicitDefEqProofs [q15, f10a, f10b, f10c, f10d, f12a, f12b, f12c, f12d, d16])
          · first
            | (simp at q15; done)
            | (rw [if_neg (by rw [q15]; exact Bool.false_ne_true)] at q14
               have d17 : w13 = _ := (Option.some.inj q14).symm
               simp -implicitDefEqProofs [q15, d17])) ?_
      obtain rfl := leafS h
      refine VW.ret (VRet.fin ?_)
      simp [eB20]
noncomputable def g21 (s : T24) (plan : List Int) (table : List (List Int)) : Option (Bool × Int) :=
  (g47 s plan).bind fun r1 =>
  if (!eqI r1.2 0) = true then
    some (false, r1.2)
  else
    (g43 s table).bind fun r4 =>
    if (!r4) = true then
      some (false, 0)
    else
      (g44 s table).bind fun r7 =>
      (if (!r7.2.2.2) = true then (idx table 0).bind fun e9 => (idx e9 s.first_).bind fun e11 => some (eqI r1.1 e11) else some false).bind fun w13 =>
      some (w13, 0)
def eA21 (a : T24 × (List Int) × (List (List Int))) : List V := [.agg (pT24 a.1), .sl 1 (rows ci_i64 a.2.1), .sl 1 (rows cl_ci_i64 a.2.2)]
def eB21 (r : Bool × Int) : V := .tup [.b r.1, .i .i64 r.2]
theorem inj21 (a a' : T24 × (List Int) × (List (List Int))) (h : eA21 a = eA21 a') : a = a' := by
  obtain ⟨⟨i461, i462, i463, i464, i465, i466, i467⟩, i468, i469⟩ := a
  obtain ⟨⟨i470, i471, i472, i473, i474, i475, i476⟩, i477, i478⟩ := a'
  simp only [eA21, pT24, List.cons.injEq, V.i.injEq, V.b.injEq, V.f.injEq, V.str.injEq, V.sl.injEq, V.agg.injEq, V.cptr.injEq, true_and, and_true] at h
  simp_all [ri ci_i64_inj, ri cl_ci_i64_inj]
noncomputable def F21 : List V → Option V := tells (fun a => g21 a.1 a.2.1 a.2.2) eA21 eB21
set_option maxRecDepth 100000 in
set_option maxHeartbeats 4000000 in
/- loop.example/g01229/impl.IsCertificate -/
theorem ok21 : Tells Try.prog 21 F21 := by
  refine Tells.of (by kernel_rfl) ?_
  rintro ⟨s, plan, table⟩ r h
  refine VCalls.nl (VCalls.of Try.func21 rfl rfl rfl ?_)
  rw [tm_init]
  simp only [eA21, en, List.length_cons, List.length_nil, Nat.reduceAdd, Nat.reduceSub]
  replace h : (g21 s plan table).bind some = some r := bindS h
  rw [g21] at h
  refine VW.seq ?_
  refine VW.evalA (C := [(43, F43), (44, F44), (47, F47)]) (tm 48 [(1, .sl 1 (rows ci_i64 plan)), (2, .sl 1 (rows cl_ci_i64 table)), (3, .ptr 0 0 0)]) [some (7, [(pT24 s)])] [] ⟨.inl ok43, .inl ok44, .inl ok47, trivial⟩ (by kernel_rfl) (by simp -implicitDefEqProofs) ?_
  refine VW.seq ?_
  obtain ⟨r1, q2, h⟩ := bindE h
  have c2 : F47 [.agg (pT24 s), .sl 1 (rows ci_i64 plan)] = some (.tup [.i .i64 r1.1, .i .i64 r1.2]) := tells_eq inj47 (a := (s, plan)) q2
  refine VW.evalA (C := [(43, F43), (44, F44), (47, F47)]) (tm 48 [(2, .sl 1 (rows cl_ci_i64 table)), (3, .ptr 0 0 0), (8, .i .i64 r1.1), (9, .i .i64 r1.2)]) [some (7, [(pT24 s)])] [] ⟨.inl ok43, .inl ok44, .inl ok47, trivial⟩ (by kernel_rfl) (by simp -implicitDefEqProofs [c2]) ?_
  refine VW.seq ?_
  refine VW.seq ?_
  refine VW.evalA (C := [(43, F43), (44, F44), (47, F47)]) (tm 48 [(2, .sl 1 (rows cl_ci_i64 table)), (3, .ptr 0 0 0), (8, .i .i64 r1.1), (9, .i .i64 r1.2), (21, .b (!eqI r1.2 0))]) [some (7, [(pT24 s)])] [] ⟨.inl ok43, .inl ok44, .inl ok47, trivial⟩ (by kernel_rfl) (by simp -implicitDefEqProofs) ?_
  refine VW.condB (b := (!eqI r1.2 0)) (by simp) (fun g3 => ?_) (fun g3 => ?_)
  · replace h := iteT g3 h
    refine VW.seq ?_
    refine VW.evalA (C := [(43, F43), (44, F44), (47, F47)]) (tm 48 [(6, .b false), (7, .i .i64 r1.2)]) [some (7, [(pT24 s)])] [] ⟨.inl ok43, .inl ok44, .inl ok47, trivial⟩ (by kernel_rfl) (by simp -implicitDefEqProofs) ?_
    obtain rfl := leafS h
    refine VW.ret (VRet.fin ?_)
    simp [eB21]
  · replace h := iteF g3 h
    refine VW.skip ?_
    refine VW.seq ?_
    refine VW.seq ?_
    obtain ⟨r4, q5, h⟩ := bindE h
    have c5 : F43 [.agg (pT24 s), .sl 1 (rows cl_ci_i64 table)] = some (.b r4) := tells_eq inj43 (a := (s, table)) q5
    refine VW.evalA (C := [(43, F43), (44, F44), (47, F47)]) (tm 48 [(2, .sl 1 (rows cl_ci_i64 table)), (3, .ptr 0 0 0), (8, .i .i64 r1.1), (26, .b (!r4))]) [some (7, [(pT24 s)])] [] ⟨.inl ok43, .inl ok44, .inl ok47, trivial⟩ (by kernel_rfl) (by simp -implicitDefEqProofs [c5]) ?_
    refine VW.condB (b := (!r4)) (by simp) (fun g6 => ?_) (fun g6 => ?_)
    · replace h := iteT g6 h
      refine VW.seq ?_
      refine VW.evalA (C := [(43, F43), (44, F44), (47, F47)]) (tm 48 [(6, .b false), (7, .i .i64 0)]) [some (7, [(pT24 s)])] [] ⟨.inl ok43, .inl ok44, .inl ok47, trivial⟩ (by kernel_rfl) (by simp -implicitDefEqProofs) ?_
      obtain rfl := leafS h
      refine VW.ret (VRet.fin ?_)
      simp [eB21]
    · replace h := iteF g6 h
      refine VW.skip ?_
      refine VW.seq ?_
      obtain ⟨r7, q8, h⟩ := bindE h
      have c8 : F44 [.agg (pT24 s), .sl 1 (rows cl_ci_i64 table)] = some (.tup [.i .i64 r7.1, .i .i64 r7.2.1, .i .i64 r7.2.2.1, .b r7.2.2.2]) := tells_eq inj44 (a := (s, table)) q8
      refine VW.evalA (C := [(43, F43), (44, F44), (47, F47)]) (tm 48 [(2, .sl 1 (rows cl_ci_i64 table)), (3, .ptr 0 0 0), (8, .i .i64 r1.1), (13, .b r7.2.2.2)]) [some (7, [(pT24 s)])] [] ⟨.inl ok43, .inl ok44, .inl ok47, trivial⟩ (by kernel_rfl) (by simp -implicitDefEqProofs [c8]) ?_
      refine VW.seq ?_
      obtain ⟨w13, q14, h⟩ := bindE h
      refine VW.evalDA (C := [(43, F43), (44, F44), (47, F47)]) (tm 48 [(6, .b w13), (7, .i .i64 0)]) [some (7, [(pT24 s)])] [] ⟨.inl ok43, .inl ok44, .inl ok47, trivial⟩ mixed (by kernel_rfl) (by
          rcases Bool.eq_false_or_eq_true (!r7.2.2.2) with q15 | q15
          · first
            | (simp at q15; done)
            | (rw [if_pos q15] at q14
               obtain ⟨e9, q10, q14⟩ := bindQ q14
               obtain ⟨f10a, f10b, f10c, f10d⟩ := idx_some q10
               try simp only [Int.toNat_natCast, Int.reduceToNat] at f10a f10b f10c f10d
               obtain ⟨e11, q12, q14⟩ := bindQ q14
               obtain ⟨f12a, f12b, f12c, f12d⟩ := idx_some q12
               have d16 : w13 = _ := (Option.some.inj q14).symm
               simp -implicitDefEqProofs [q15, f10a, f10b, f10c, f10d, f12a, f12b, f12c, f12d, d16])
          · first
            | (simp at q15; done)
            | (rw [if_neg (by rw [q15]; exact Bool.false_ne_true)] at q14
               have d17 : w13 = _ := (Option.some.inj q14).symm
               simp -implicitDefEqProofs [q15, d17])) ?_
      obtain rfl := leafS h
      refine VW.ret (VRet.fin ?_)
      simp [eB21]
noncomputable def g5 (aS : T24) (aPlan : List Int) (aTable : List (List Int)) : Option (Bool) :=
  if ltI 1048576 (aPlan.length : Int) = true then
    some true
  else
    (g8 aS 1048576).bind fun r2 =>
    if ltI r2 0 = true then
      some true
    else
      (g9 aTable r2).bind fun r5 =>
      if ltI r5 0 = true then
        some true
      else
        (g11 aS).bind fun r8 =>
        (g17 aPlan).bind fun r10 =>
        (g12 aTable).bind fun r12 =>
        (g20 r8 r10 r12).bind fun r14 =>
        (g11 aS).bind fun r16 =>
        (g17 aPlan).bind fun r18 =>
        (g12 aTable).bind fun r20 =>
        (g21 r16 r18 r20).bind fun r22 =>
        if ((!(r22.1 == r14.1)) || (!eqI r22.2 r14.2)) = true then
          some false
        else
          (g11 aS).bind fun r25 =>
          (g14 r16 r25).bind fun r27 =>
          if (!r27) = true then
            some false
          else
            (g17 aPlan).bind fun r30 =>
            (g19 r18 r30).bind fun r32 =>
            if (!r32) = true then
              some false
            else
              (g12 aTable).bind fun r35 =>
              (g15 r20 r35).bind fun r37 =>
              if (!r37) = true then
                some false
              else
                some true
def eA5 (a : T24 × (List Int) × (List (List Int))) : List V := [.agg (pT24 a.1), .sl 1 (rows ci_i64 a.2.1), .sl 1 (rows cl_ci_i64 a.2.2)]
def eB5 (r : Bool) : V := .b r
theorem inj5 (a a' : T24 × (List Int) × (List (List Int))) (h : eA5 a = eA5 a') : a = a' := by
  obtain ⟨⟨i479, i480, i481, i482, i483, i484, i485⟩, i486, i487⟩ := a
  obtain ⟨⟨i488, i489, i490, i491, i492, i493, i494⟩, i495, i496⟩ := a'
  simp only [eA5, pT24, List.cons.injEq, V.i.injEq, V.b.injEq, V.f.injEq, V.str.injEq, V.sl.injEq, V.agg.injEq, V.cptr.injEq, true_and, and_true] at h
  simp_all [ri ci_i64_inj, ri cl_ci_i64_inj]
noncomputable def F5 : List V → Option V := tells (fun a => g5 a.1 a.2.1 a.2.2) eA5 eB5
set_option maxRecDepth 100000 in
set_option maxHeartbeats 4000000 in
/- loop.example/g01229/laws.FnExactIsCertificate -/
theorem ok5 : Tells Try.prog 5 F5 := by
  refine Tells.of (by kernel_rfl) ?_
  rintro ⟨aS, aPlan, aTable⟩ r h
  refine VCalls.nl (VCalls.of Try.func5 rfl rfl rfl ?_)
  rw [tm_init]
  simp only [eA5, en, List.length_cons, List.length_nil, Nat.reduceAdd, Nat.reduceSub]
  replace h : (g5 aS aPlan aTable).bind some = some r := bindS h
  rw [g5] at h
  refine VW.seq ?_
  refine VW.evalA (C := [(8, F8), (9, F9), (11, F11), (12, F12), (14, F14), (15, F15), (17, F17), (19, F19), (20, F20), (21, F21)]) (tm 74 [(1, .sl 1 (rows ci_i64 aPlan)), (2, .sl 1 (rows cl_ci_i64 aTable)), (3, .ptr 0 0 0)]) [some (7, [(pT24 aS)])] [] ⟨.inl ok8, .inl ok9, .inl ok11, .inl ok12, .inl ok14, .inl ok15, .inl ok17, .inl ok19, .inl ok20, .inl ok21, trivial⟩ (by kernel_rfl) (by simp -implicitDefEqProofs) ?_
  refine VW.seq ?_
  refine VW.seq ?_
  refine VW.evalA (C := [(8, F8), (9, F9), (11, F11), (12, F12), (14, F14), (15, F15), (17, F17), (19, F19), (20, F20), (21, F21)]) (tm 74 [(1, .sl 1 (rows ci_i64 aPlan)), (2, .sl 1 (rows cl_ci_i64 aTable)), (3, .ptr 0 0 0), (17, .b (ltI 1048576 (aPlan.length : Int)))]) [some (7, [(pT24 aS)])] [] ⟨.inl ok8, .inl ok9, .inl ok11, .inl ok12, .inl ok14, .inl ok15, .inl ok17, .inl ok19, .inl ok20, .inl ok21, trivial⟩ (by kernel_rfl) (by simp -implicitDefEqProofs) ?_
  refine VW.condB (b := ltI 1048576 (aPlan.length : Int)) (by simp) (fun g1 => ?_) (fun g1 => ?_)
  · replace h := iteT g1 h
    refine VW.seq ?_
    refine VW.evalA (C := [(8, F8), (9, F9), (11, F11), (12, F12), (14, F14), (15, F15), (17, F17), (19, F19), (20, F20), (21, F21)]) (tm 74 [(6, .b true)]) [some (7, [(pT24 aS)])] [] ⟨.inl ok8, .inl ok9, .inl ok11, .inl ok12, .inl ok14, .inl ok15, .inl ok17, .inl ok19, .inl ok20, .inl ok21, trivial⟩ (by kernel_rfl) (by simp -implicitDefEqProofs) ?_
    obtain rfl := leafS h
    refine VW.ret (VRet.fin ?_)
    simp [eB5]
  · replace h := iteF g1 h
    refine VW.skip ?_
    refine VW.seq ?_
    refine VW.evalA (C := [(8, F8), (9, F9), (11, F11), (12, F12), (14, F14), (15, F15), (17, F17), (19, F19), (20, F20), (21, F21)]) (tm 74 [(1, .sl 1 (rows ci_i64 aPlan)), (2, .sl 1 (rows cl_ci_i64 aTable)), (3, .ptr 0 0 0), (7, .i .i64 1048576)]) [some (7, [(pT24 aS)])] [] ⟨.inl ok8, .inl ok9, .inl ok11, .inl ok12, .inl ok14, .inl ok15, .inl ok17, .inl ok19, .inl ok20, .inl ok21, trivial⟩ (by kernel_rfl) (by simp -implicitDefEqProofs) ?_
    refine VW.seq ?_
    obtain ⟨r2, q3, h⟩ := bindE h
    have c3 : F8 [.agg (pT24 aS), .i .i64 1048576] = some (.i .i64 r2) := tells_eq inj8 (a := (aS, 1048576)) q3
    refine VW.evalA (C := [(8, F8), (9, F9), (11, F11), (12, F12), (14, F14), (15, F15), (17, F17), (19, F19), (20, F20), (21, F21)]) (tm 74 [(1, .sl 1 (rows ci_i64 aPlan)), (2, .sl 1 (rows cl_ci_i64 aTable)), (3, .ptr 0 0 0), (7, .i .i64 r2)]) [some (7, [(pT24 aS)])] [] ⟨.inl ok8, .inl ok9, .inl ok11, .inl ok12, .inl ok14, .inl ok15, .inl ok17, .inl ok19, .inl ok20, .inl ok21, trivial⟩ (by kernel_rfl) (by simp -implicitDefEqProofs [c3]) ?_
    refine VW.seq ?_
    refine VW.seq ?_
    refine VW.evalA (C := [(8, F8), (9, F9), (11, F11), (12, F12), (14, F14), (15, F15), (17, F17), (19, F19), (20, F20), (21, F21)]) (tm 74 [(1, .sl 1 (rows ci_i64 aPlan)), (2, .sl 1 (rows cl_ci_i64 aTable)), (3, .ptr 0 0 0), (7, .i .i64 r2), (22, .b (ltI r2 0))]) [some (7, [(pT24 aS)])] [] ⟨.inl ok8, .inl ok9, .inl ok11, .inl ok12, .inl ok14, .inl ok15, .inl ok17, .inl ok19, .inl ok20, .inl ok21, trivial⟩ (by kernel_rfl) (by simp -implicitDefEqProofs) ?_
    refine VW.condB (b := ltI r2 0) (by simp) (fun g4 => ?_) (fun g4 => ?_)
    · replace h := iteT g4 h
      refine VW.seq ?_
      refine VW.evalA (C := [(8, F8), (9, F9), (11, F11), (12, F12), (14, F14), (15, F15), (17, F17), (19, F19), (20, F20), (21, F21)]) (tm 74 [(6, .b true)]) [some (7, [(pT24 aS)])] [] ⟨.inl ok8, .inl ok9, .inl ok11, .inl ok12, .inl ok14, .inl ok15, .inl ok17, .inl ok19, .inl ok20, .inl ok21, trivial⟩ (by kernel_rfl) (by simp -implicitDefEqProofs) ?_
      obtain rfl := leafS h
      refine VW.ret (VRet.fin ?_)
      simp [eB5]
    · replace h := iteF g4 h
      refine VW.skip ?_
      refine VW.seq ?_
      obtain ⟨r5, q6, h⟩ := bindE h
      have c6 : F9 [.sl 1 (rows cl_ci_i64 aTable), .i .i64 r2] = some (.i .i64 r5) := tells_eq inj9 (a := (aTable, r2)) q6
      refine VW.evalA (C := [(8, F8), (9, F9), (11, F11), (12, F12), (14, F14), (15, F15), (17, F17), (19, F19), (20, F20), (21, F21)]) (tm 74 [(1, .sl 1 (rows ci_i64 aPlan)), (2, .sl 1 (rows cl_ci_i64 aTable)), (3, .ptr 0 0 0), (7, .i .i64 r5)]) [some (7, [(pT24 aS)])] [] ⟨.inl ok8, .inl ok9, .inl ok11, .inl ok12, .inl ok14, .inl ok15, .inl ok17, .inl ok19, .inl ok20, .inl ok21, trivial⟩ (by kernel_rfl) (by simp -implicitDefEqProofs [c6]) ?_
      refine VW.seq ?_
      refine VW.seq ?_
      refine VW.evalA (C := [(8, F8), (9, F9), (11, F11), (12, F12), (14, F14), (15, F15), (17, F17), (19, F19), (20, F20), (21, F21)]) (tm 74 [(1, .sl 1 (rows ci_i64 aPlan)), (2, .sl 1 (rows cl_ci_i64 aTable)), (3, .ptr 0 0 0), (27, .b (ltI r5 0))]) [some (7, [(pT24 aS)])] [] ⟨.inl ok8, .inl ok9, .inl ok11, .inl ok12, .inl ok14, .inl ok15, .inl ok17, .inl ok19, .inl ok20, .inl ok21, trivial⟩ (by kernel_rfl) (by simp -implicitDefEqProofs) ?_
      refine VW.condB (b := ltI r5 0) (by simp) (fun g7 => ?_) (fun g7 => ?_)
      · replace h := iteT g7 h
        refine VW.seq ?_
        refine VW.evalA (C := [(8, F8), (9, F9), (11, F11), (12, F12), (14, F14), (15, F15), (17, F17), (19, F19), (20, F20), (21, F21)]) (tm 74 [(6, .b true)]) [some (7, [(pT24 aS)])] [] ⟨.inl ok8, .inl ok9, .inl ok11, .inl ok12, .inl ok14, .inl ok15, .inl ok17, .inl ok19, .inl ok20, .inl ok21, trivial⟩ (by kernel_rfl) (by simp -implicitDefEqProofs) ?_
        obtain rfl := leafS h
        refine VW.ret (VRet.fin ?_)
        simp [eB5]
      · replace h := iteF g7 h
        refine VW.skip ?_
        refine VW.seq ?_
        obtain ⟨r8, q9, h⟩ := bindE h
        have c9 : F11 [.agg (pT24 aS)] = some (.agg [.own 1 (rows ci_i64 r8.need_), .own 1 (rows ci_i64 r8.price_), .i .i64 r8.most_, .i .i64 r8.yield_, .i .i64 r8.store_, .i .i64 r8.first_, .i .i64 r8.loss_]) := tells_eq inj11 (a := aS) q9
        obtain ⟨r10, q11, h⟩ := bindE h
        have c11 : F17 [.sl 1 (rows ci_i64 aPlan)] = some (.own 1 (rows ci_i64 r10)) := tells_eq inj17 (a := aPlan) q11
        obtain ⟨r12, q13, h⟩ := bindE h
        have c13 : F12 [.sl 1 (rows cl_ci_i64 aTable)] = some (.own 1 (rows cl_ci_i64o r12)) := tells_eq inj12 (a := aTable) q13
        obtain ⟨r14, q15, h⟩ := bindE h
        have c15 : F20 [.agg [.sl 1 (rows ci_i64 r8.need_), .sl 1 (rows ci_i64 r8.price_), .i .i64 r8.most_, .i .i64 r8.yield_, .i .i64 r8.store_, .i .i64 r8.first_, .i .i64 r8.loss_], .sl 1 (rows ci_i64 r10), .sl 1 (rows cl_ci_i64 r12)] = some (.tup [.b r14.1, .i .i64 r14.2]) := tells_eq inj20 (a := (r8, r10, r12)) q15
        refine VW.evalA (C := [(8, F8), (9, F9), (11, F11), (12, F12), (14, F14), (15, F15), (17, F17), (19, F19), (20, F20), (21, F21)]) (tm 74 [(1, .sl 1 (rows ci_i64 aPlan)), (2, .sl 1 (rows cl_ci_i64 aTable)), (3, .ptr 0 0 0), (8, .b r14.1), (9, .i .i64 r14.2)]) [some (7, [(pT24 aS)]), some (1, rows ci_i64 r8.need_), some (1, rows ci_i64 r8.price_), some (1, rows ci_i64 r10), some (1, rows cl_ci_i64 r12)] [] ⟨.inl ok8, .inl ok9, .inl ok11, .inl ok12, .inl ok14, .inl ok15, .inl ok17, .inl ok19, .inl ok20, .inl ok21, trivial⟩ (by kernel_rfl) (by simp -implicitDefEqProofs [c9, c11, c13, c15]) ?_
        refine VW.seq ?_
        obtain ⟨r16, q17, h⟩ := bindE h
        have c17 : F11 [.agg (pT24 aS)] = some (.agg [.own 1 (rows ci_i64 r16.need_), .own 1 (rows ci_i64 r16.price_), .i .i64 r16.most_, .i .i64 r16.yield_, .i .i64 r16.store_, .i .i64 r16.first_, .i .i64 r16.loss_]) := tells_eq inj11 (a := aS) q17
        refine VW.evalA (C := [(8, F8), (9, F9), (11, F11), (12, F12), (14, F14), (15, F15), (17, F17), (19, F19), (20, F20), (21, F21)]) (tm 74 [(1, .sl 1 (rows ci_i64 aPlan)), (2, .sl 1 (rows cl_ci_i64 aTable)), (3, .ptr 0 0 0), (8, .b r14.1), (9, .i .i64 r14.2), (10, .ptr 7 0 0)]) [some (7, [(pT24 aS)]), some (1, rows ci_i64 r8.need_), some (1, rows ci_i64 r8.price_), some (1, rows ci_i64 r10), some (1, rows cl_ci_i64 r12), some (1, rows ci_i64 r16.need_), some (1, rows ci_i64 r16.price_), some (7, [[.ref 5 0 r16.need_.length, .ref 6 0 r16.price_.length, .i .i64 r16.most_, .i .i64 r16.yield_, .i .i64 r16.store_, .i .i64 r16.first_, .i .i64 r16.loss_]])] [] ⟨.inl ok8, .inl ok9, .inl ok11, .inl ok12, .inl ok14, .inl ok15, .inl ok17, .inl ok19, .inl ok20, .inl ok21, trivial⟩ (by kernel_rfl) (by simp -implicitDefEqProofs [c17]) ?_
        refine VW.seq ?_
        obtain ⟨r18, q19, h⟩ := bindE h
        have c19 : F17 [.sl 1 (rows ci_i64 aPlan)] = some (.own 1 (rows ci_i64 r18)) := tells_eq inj17 (a := aPlan) q19
        refine VW.evalA (C := [(8, F8), (9, F9), (11, F11), (12, F12), (14, F14), (15, F15), (17, F17), (19, F19), (20, F20), (21, F21)]) (tm 74 [(1, .sl 1 (rows ci_i64 aPlan)), (2, .sl 1 (rows cl_ci_i64 aTable)), (3, .ptr 0 0 0), (8, .b r14.1), (9, .i .i64 r14.2), (10, .ptr 7 0 0), (11, .ref 8 0 r18.length)]) [some (7, [(pT24 aS)]), some (1, rows ci_i64 r8.need_), some (1, rows ci_i64 r8.price_), some (1, rows ci_i64 r10), some (1, rows cl_ci_i64 r12), some (1, rows ci_i64 r16.need_), some (1, rows ci_i64 r16.price_), some (7, [[.ref 5 0 r16.need_.length, .ref 6 0 r16.price_.length, .i .i64 r16.most_, .i .i64 r16.yield_, .i .i64 r16.store_, .i .i64 r16.first_, .i .i64 r16.loss_]]), some (1, rows ci_i64 r18)] [] ⟨.inl ok8, .inl ok9, .inl ok11, .inl ok12, .inl ok14, .inl ok15, .inl ok17, .inl ok19, .inl ok20, .inl ok21, trivial⟩ (by kernel_rfl) (by simp -implicitDefEqProofs [c19]) ?_
        refine VW.seq ?_
        obtain ⟨r20, q21, h⟩ := bindE h
        have c21 : F12 [.sl 1 (rows cl_ci_i64 aTable)] = some (.own 1 (rows cl_ci_i64o r20)) := tells_eq inj12 (a := aTable) q21
        refine VW.evalA (C := [(8, F8), (9, F9), (11, F11), (12, F12), (14, F14), (15, F15), (17, F17), (19, F19), (20, F20), (21, F21)]) (tm 74 [(1, .sl 1 (rows ci_i64 aPlan)), (2, .sl 1 (rows cl_ci_i64 aTable)), (3, .ptr 0 0 0), (8, .b r14.1), (9, .i .i64 r14.2), (10, .ptr 7 0 0), (11, .ref 8 0 r18.length), (12, .ref 9 0 r20.length)]) [some (7, [(pT24 aS)]), some (1, rows ci_i64 r8.need_), some (1, rows ci_i64 r8.price_), some (1, rows ci_i64 r10), some (1, rows cl_ci_i64 r12), some (1, rows ci_i64 r16.need_), some (1, rows ci_i64 r16.price_), some (7, [[.ref 5 0 r16.need_.length, .ref 6 0 r16.price_.length, .i .i64 r16.most_, .i .i64 r16.yield_, .i .i64 r16.store_, .i .i64 r16.first_, .i .i64 r16.loss_]]), some (1, rows ci_i64 r18), some (1, rows cl_ci_i64 r20)] [] ⟨.inl ok8, .inl ok9, .inl ok11, .inl ok12, .inl ok14, .inl ok15, .inl ok17, .inl ok19, .inl ok20, .inl ok21, trivial⟩ (by kernel_rfl) (by simp -implicitDefEqProofs [c21]) ?_
        refine VW.seq ?_
        obtain ⟨r22, q23, h⟩ := bindE h
        have c23 : F21 [.agg [.sl 1 (rows ci_i64 r16.need_), .sl 1 (rows ci_i64 r16.price_), .i .i64 r16.most_, .i .i64 r16.yield_, .i .i64 r16.store_, .i .i64 r16.first_, .i .i64 r16.loss_], .sl 1 (rows ci_i64 r18), .sl 1 (rows cl_ci_i64 r20)] = some (.tup [.b r22.1, .i .i64 r22.2]) := tells_eq inj21 (a := (r16, r18, r20)) q23
        refine VW.evalA (C := [(8, F8), (9, F9), (11, F11), (12, F12), (14, F14), (15, F15), (17, F17), (19, F19), (20, F20), (21, F21)]) (tm 74 [(1, .sl 1 (rows ci_i64 aPlan)), (2, .sl 1 (rows cl_ci_i64 aTable)), (3, .ptr 0 0 0), (8, .b r14.1), (9, .i .i64 r14.2), (10, .ptr 7 0 0), (11, .ref 8 0 r18.length), (12, .ref 9 0 r20.length), (13, .b r22.1), (14, .i .i64 r22.2)]) [some (7, [(pT24 aS)]), some (1, rows ci_i64 r8.need_), some (1, rows ci_i64 r8.price_), some (1, rows ci_i64 r10), some (1, rows cl_ci_i64 r12), some (1, rows ci_i64 r16.need_), some (1, rows ci_i64 r16.price_), some (7, [[.ref 5 0 r16.need_.length, .ref 6 0 r16.price_.length, .i .i64 r16.most_, .i .i64 r16.yield_, .i .i64 r16.store_, .i .i64 r16.first_, .i .i64 r16.loss_]]), some (1, rows ci_i64 r18), some (1, rows cl_ci_i64 r20)] [] ⟨.inl ok8, .inl ok9, .inl ok11, .inl ok12, .inl ok14, .inl ok15, .inl ok17, .inl ok19, .inl ok20, .inl ok21, trivial⟩ (by kernel_rfl) (by simp -implicitDefEqProofs [c23]) ?_
        refine VW.seq ?_
        refine VW.seq ?_
        refine VW.evalA (C := [(8, F8), (9, F9), (11, F11), (12, F12), (14, F14), (15, F15), (17, F17), (19, F19), (20, F20), (21, F21)]) (tm 74 [(1, .sl 1 (rows ci_i64 aPlan)), (2, .sl 1 (rows cl_ci_i64 aTable)), (3, .ptr 0 0 0), (10, .ptr 7 0 0), (11, .ref 8 0 r18.length), (12, .ref 9 0 r20.length), (58, .b ((!(r22.1 == r14.1)) || (!eqI r22.2 r14.2)))]) [some (7, [(pT24 aS)]), some (1, rows ci_i64 r8.need_), some (1, rows ci_i64 r8.price_), some (1, rows ci_i64 r10), some (1, rows cl_ci_i64 r12), some (1, rows ci_i64 r16.need_), some (1, rows ci_i64 r16.price_), some (7, [[.ref 5 0 r16.need_.length, .ref 6 0 r16.price_.length, .i .i64 r16.most_, .i .i64 r16.yield_, .i .i64 r16.store_, .i .i64 r16.first_, .i .i64 r16.loss_]]), some (1, rows ci_i64 r18), some (1, rows cl_ci_i64 r20)] [] ⟨.inl ok8, .inl ok9, .inl ok11, .inl ok12, .inl ok14, .inl ok15, .inl ok17, .inl ok19, .inl ok20, .inl ok21, trivial⟩ (by kernel_rfl) (by simp -implicitDefEqProofs) ?_
        refine VW.condB (b := ((!(r22.1 == r14.1)) || (!eqI r22.2 r14.2))) (by simp) (fun g24 => ?_) (fun g24 => ?_)
        · replace h := iteT g24 h
          refine VW.seq ?_
          refine VW.evalA (C := [(8, F8), (9, F9), (11, F11), (12, F12), (14, F14), (15, F15), (17, F17), (19, F19), (20, F20), (21, F21)]) (tm 74 [(6, .b false)]) [some (7, [(pT24 aS)]), some (1, rows ci_i64 r8.need_), some (1, rows ci_i64 r8.price_), some (1, rows ci_i64 r10), some (1, rows cl_ci_i64 r12), some (1, rows ci_i64 r16.need_), some (1, rows ci_i64 r16.price_), some (7, [[.ref 5 0 r16.need_.length, .ref 6 0 r16.price_.length, .i .i64 r16.most_, .i .i64 r16.yield_, .i .i64 r16.store_, .i .i64 r16.first_, .i .i64 r16.loss_]]), some (1, rows ci_i64 r18), some (1, rows cl_ci_i64 r20)] [] ⟨.inl ok8, .inl ok9, .inl ok11, .inl ok12, .inl ok14, .inl ok15, .inl ok17, .inl ok19, .inl ok20, .inl ok21, trivial⟩ (by kernel_rfl) (by simp -implicitDefEqProofs) ?_
          obtain rfl := leafS h
          refine VW.ret (VRet.fin ?_)
          simp [eB5]
        · replace h := iteF g24 h
          refine VW.skip ?_
          refine VW.seq ?_
          refine VW.seq ?_
          obtain ⟨r25, q26, h⟩ := bindE h
          have c26 : F11 [.agg (pT24 aS)] = some (.agg [.own 1 (rows ci_i64 r25.need_), .own 1 (rows ci_i64 r25.price_), .i .i64 r25.most_, .i .i64 r25.yield_, .i .i64 r25.store_, .i .i64 r25.first_, .i .i64 r25.loss_]) := tells_eq inj11 (a := aS) q26
          obtain ⟨r27, q28, h⟩ := bindE h
          have c28 : F14 [.agg [.sl 1 (rows ci_i64 r16.need_), .sl 1 (rows ci_i64 r16.price_), .i .i64 r16.most_, .i .i64 r16.yield_, .i .i64 r16.store_, .i .i64 r16.first_, .i .i64 r16.loss_], .agg [.sl 1 (rows ci_i64 r25.need_), .sl 1 (rows ci_i64 r25.price_), .i .i64 r25.most_, .i .i64 r25.yield_, .i .i64 r25.store_, .i .i64 r25.first_, .i .i64 r25.loss_]] = some (.b r27) := tells_eq inj14 (a := (r16, r25)) q28
          refine VW.evalDA (C := [(8, F8), (9, F9), (11, F11), (12, F12), (14, F14), (15, F15), (17, F17), (19, F19), (20, F20), (21, F21)]) (tm 74 [(1, .sl 1 (rows ci_i64 aPlan)), (2, .sl 1 (rows cl_ci_i64 aTable)), (11, .ref 8 0 r18.length), (12, .ref 9 0 r20.length), (63, .b (!r27))]) [some (7, [(pT24 aS)]), some (1, rows ci_i64 r8.need_), some (1, rows ci_i64 r8.price_), some (1, rows ci_i64 r10), some (1, rows cl_ci_i64 r12), some (1, rows ci_i64 r16.need_), some (1, rows ci_i64 r16.price_), some (7, [[.ref 5 0 r16.need_.length, .ref 6 0 r16.price_.length, .i .i64 r16.most_, .i .i64 r16.yield_, .i .i64 r16.store_, .i .i64 r16.first_, .i .i64 r16.loss_]]), some (1, rows ci_i64 r18), some (1, rows cl_ci_i64 r20), some (1, rows ci_i64 r25.need_), some (1, rows ci_i64 r25.price_)] [] ⟨.inl ok8, .inl ok9, .inl ok11, .inl ok12, .inl ok14, .inl ok15, .inl ok17, .inl ok19, .inl ok20, .inl ok21, trivial⟩ mixed (by kernel_rfl) (by simp -implicitDefEqProofs [c26, c28]) ?_
          refine VW.condB (b := (!r27)) (by simp) (fun g29 => ?_) (fun g29 => ?_)
          · replace h := iteT g29 h
            refine VW.seq ?_
            refine VW.evalA (C := [(8, F8), (9, F9), (11, F11), (12, F12), (14, F14), (15, F15), (17, F17), (19, F19), (20, F20), (21, F21)]) (tm 74 [(6, .b false)]) [some (7, [(pT24 aS)]), some (1, rows ci_i64 r8.need_), some (1, rows ci_i64 r8.price_), some (1, rows ci_i64 r10), some (1, rows cl_ci_i64 r12), some (1, rows ci_i64 r16.need_), some (1, rows ci_i64 r16.price_), some (7, [[.ref 5 0 r16.need_.length, .ref 6 0 r16.price_.length, .i .i64 r16.most_, .i .i64 r16.yield_, .i .i64 r16.store_, .i .i64 r16.first_, .i .i64 r16.loss_]]), some (1, rows ci_i64 r18), some (1, rows cl_ci_i64 r20), some (1, rows ci_i64 r25.need_), some (1, rows ci_i64 r25.price_)] [] ⟨.inl ok8, .inl ok9, .inl ok11, .inl ok12, .inl ok14, .inl ok15, .inl ok17, .inl ok19, .inl ok20, .inl ok21, trivial⟩ (by kernel_rfl) (by simp -implicitDefEqProofs) ?_
            obtain rfl := leafS h
            refine VW.ret (VRet.fin ?_)
            simp [eB5]
          · replace h := iteF g29 h
            refine VW.skip ?_
            refine VW.seq ?_
            refine VW.seq ?_
            obtain ⟨r30, q31, h⟩ := bindE h
            have c31 : F17 [.sl 1 (rows ci_i64 aPlan)] = some (.own 1 (rows ci_i64 r30)) := tells_eq inj17 (a := aPlan) q31
            obtain ⟨r32, q33, h⟩ := bindE h
            have c33 : F19 [.sl 1 (rows ci_i64 r18), .sl 1 (rows ci_i64 r30)] = some (.b r32) := tells_eq inj19 (a := (r18, r30)) q33
            refine VW.evalA (C := [(8, F8), (9, F9), (11, F11), (12, F12), (14, F14), (15, F15), (17, F17), (19, F19), (20, F20), (21, F21)]) (tm 74 [(2, .sl 1 (rows cl_ci_i64 aTable)), (12, .ref 9 0 r20.length), (68, .b (!r32))]) [some (7, [(pT24 aS)]), some (1, rows ci_i64 r8.need_), some (1, rows ci_i64 r8.price_), some (1, rows ci_i64 r10), some (1, rows cl_ci_i64 r12), some (1, rows ci_i64 r16.need_), some (1, rows ci_i64 r16.price_), some (7, [[.ref 5 0 r16.need_.length, .ref 6 0 r16.price_.length, .i .i64 r16.most_, .i .i64 r16.yield_, .i .i64 r16.store_, .i .i64 r16.first_, .i .i64 r16.loss_]]), some (1, rows ci_i64 r18), some (1, rows cl_ci_i64 r20), some (1, rows ci_i64 r25.need_), some (1, rows ci_i64 r25.price_), some (1, rows ci_i64 r30)] [] ⟨.inl ok8, .inl ok9, .inl ok11, .inl ok12, .inl ok14, .inl ok15, .inl ok17, .inl ok19, .inl ok20, .inl ok21, trivial⟩ (by kernel_rfl) (by simp -implicitDefEqProofs [c31, c33]) ?_
            refine VW.condB (b := (!r32)) (by simp) (fun g34 => ?_) (fun g34 => ?_)
            · replace h := iteT g34 h
              refine VW.seq ?_
              refine VW.evalA (C := [(8, F8), (9, F9), (11, F11), (12, F12), (14, F14), (15, F15), (17, F17), (19, F19), (20, F20), (21, F21)]) (tm 74 [(6, .b false)]) [some (7, [(pT24 aS)]), some (1, rows ci_i64 r8.need_), some (1, rows ci_i64 r8.price_), some (1, rows ci_i64 r10), some (1, rows cl_ci_i64 r12), some (1, rows ci_i64 r16.need_), some (1, rows ci_i64 r16.price_), some (7, [[.ref 5 0 r16.need_.length, .ref 6 0 r16.price_.length, .i .i64 r16.most_, .i .i64 r16.yield_, .i .i64 r16.store_, .i .i64 r16.first_, .i .i64 r16.loss_]]), some (1, rows ci_i64 r18), some (1, rows cl_ci_i64 r20), some (1, rows ci_i64 r25.need_), some (1, rows ci_i64 r25.price_), some (1, rows ci_i64 r30)] [] ⟨.inl ok8, .inl ok9, .inl ok11, .inl ok12, .inl ok14, .inl ok15, .inl ok17, .inl ok19, .inl ok20, .inl ok21, trivial⟩ (by kernel_rfl) (by simp -implicitDefEqProofs) ?_
              obtain rfl := leafS h
              refine VW.ret (VRet.fin ?_)
              simp [eB5]
            · replace h := iteF g34 h
              refine VW.skip ?_
              refine VW.seq ?_
              refine VW.seq ?_
              obtain ⟨r35, q36, h⟩ := bindE h
              have c36 : F12 [.sl 1 (rows cl_ci_i64 aTable)] = some (.own 1 (rows cl_ci_i64o r35)) := tells_eq inj12 (a := aTable) q36
              obtain ⟨r37, q38, h⟩ := bindE h
              have c38 : F15 [.sl 1 (rows cl_ci_i64 r20), .sl 1 (rows cl_ci_i64 r35)] = some (.b r37) := tells_eq inj15 (a := (r20, r35)) q38
              refine VW.evalA (C := [(8, F8), (9, F9), (11, F11), (12, F12), (14, F14), (15, F15), (17, F17), (19, F19), (20, F20), (21, F21)]) (tm 74 [(73, .b (!r37))]) [some (7, [(pT24 aS)]), some (1, rows ci_i64 r8.need_), some (1, rows ci_i64 r8.price_), some (1, rows ci_i64 r10), some (1, rows cl_ci_i64 r12), some (1, rows ci_i64 r16.need_), some (1, rows ci_i64 r16.price_), some (7, [[.ref 5 0 r16.need_.length, .ref 6 0 r16.price_.length, .i .i64 r16.most_, .i .i64 r16.yield_, .i .i64 r16.store_, .i .i64 r16.first_, .i .i64 r16.loss_]]), some (1, rows ci_i64 r18), some (1, rows cl_ci_i64 r20), some (1, rows ci_i64 r25.need_), some (1, rows ci_i64 r25.price_), some (1, rows ci_i64 r30), some (1, rows cl_ci_i64 r35)] [] ⟨.inl ok8, .inl ok9, .inl ok11, .inl ok12, .inl ok14, .inl ok15, .inl ok17, .inl ok19, .inl ok20, .inl ok21, trivial⟩ (by kernel_rfl) (by simp -implicitDefEqProofs [c36, c38]) ?_
              refine VW.condB (b := (!r37)) (by simp) (fun g39 => ?_) (fun g39 => ?_)
              · replace h := iteT g39 h
                refine VW.seq ?_
                refine VW.evalA (C := [(8, F8), (9, F9), (11, F11), (12, F12), (14, F14), (15, F15), (17, F17), (19, F19), (20, F20), (21, F21)]) (tm 74 [(6, .b false)]) [some (7, [(pT24 aS)]), some (1, rows ci_i64 r8.need_), some (1, rows ci_i64 r8.price_), some (1, rows ci_i64 r10), some (1, rows cl_ci_i64 r12), some (1, rows ci_i64 r16.need_), some (1, rows ci_i64 r16.price_), some (7, [[.ref 5 0 r16.need_.length, .ref 6 0 r16.price_.length, .i .i64 r16.most_, .i .i64 r16.yield_, .i .i64 r16.store_, .i .i64 r16.first_, .i .i64 r16.loss_]]), some (1, rows ci_i64 r18), some (1, rows cl_ci_i64 r20), some (1, rows ci_i64 r25.need_), some (1, rows ci_i64 r25.price_), some (1, rows ci_i64 r30), some (1, rows cl_ci_i64 r35)] [] ⟨.inl ok8, .inl ok9, .inl ok11, .inl ok12, .inl ok14, .inl ok15, .inl ok17, .inl ok19, .inl ok20, .inl ok21, trivial⟩ (by kernel_rfl) (by simp -implicitDefEqProofs) ?_
                obtain rfl := leafS h
                refine VW.ret (VRet.fin ?_)
                simp [eB5]
              · replace h := iteF g39 h
                refine VW.skip ?_
                refine VW.seq ?_
                refine VW.evalA (C := [(8, F8), (9, F9), (11, F11), (12, F12), (14, F14), (15, F15), (17, F17), (19, F19), (20, F20), (21, F21)]) (tm 74 [(6, .b true)]) [some (7, [(pT24 aS)]), some (1, rows ci_i64 r8.need_), some (1, rows ci_i64 r8.price_), some (1, rows ci_i64 r10), some (1, rows cl_ci_i64 r12), some (1, rows ci_i64 r16.need_), some (1, rows ci_i64 r16.price_), some (7, [[.ref 5 0 r16.need_.length, .ref 6 0 r16.price_.length, .i .i64 r16.most_, .i .i64 r16.yield_, .i .i64 r16.store_, .i .i64 r16.first_, .i .i64 r16.loss_]]), some (1, rows ci_i64 r18), some (1, rows cl_ci_i64 r20), some (1, rows ci_i64 r25.need_), some (1, rows ci_i64 r25.price_), some (1, rows ci_i64 r30), some (1, rows cl_ci_i64 r35)] [] ⟨.inl ok8, .inl ok9, .inl ok11, .inl ok12, .inl ok14, .inl ok15, .inl ok17, .inl ok19, .inl ok20, .inl ok21, trivial⟩ (by kernel_rfl) (by simp -implicitDefEqProofs) ?_
                obtain rfl := leafS h
                refine VW.ret (VRet.fin ?_)
                simp [eB5]
noncomputable def g59_j1 : Option (Int × Int) :=
  some ((-1), (-1))
noncomputable def g59_L1 (s : T24) (slot : Int) (store : Int) : (Int) → Option ((Int) ⊕ ((Unit) ⊕ (Int × Int)))
  | n_24 =>
    if leI n_24 s.most_ = true then
      (g58 s slot store n_24).bind fun r26 =>
      if leI 0 r26 = true then
        some (.inr (.inr (n_24, r26)))
      else
        some (.inl (aI .i64 n_24 1))
    else
      some (.inr (.inl ()))
noncomputable def g59 (s : T24) (slot : Int) (store : Int) : Option (Int × Int) :=
  (loopO (g59_L1 s slot store) 0).bind fun w => match w with
    | .inl y => g59_j1
    | .inr r => some r
def eA59 (a : T24 × Int × Int) : List V := [.cptr (pT24 a.1) 0, .i .i64 a.2.1, .i .i64 a.2.2]
def eB59 (r : Int × Int) : V := .tup [.i .i64 r.1, .i .i64 r.2]
theorem inj59 (a a' : T24 × Int × Int) (h : eA59 a = eA59 a') : a = a' := by
  obtain ⟨⟨i651, i652, i653, i654, i655, i656, i657⟩, i658, i659⟩ := a
  obtain ⟨⟨i660, i661, i662, i663, i664, i665, i666⟩, i667, i668⟩ := a'
  simp only [eA59, pT24, List.cons.injEq, V.i.injEq, V.b.injEq, V.f.injEq, V.str.injEq, V.sl.injEq, V.agg.injEq, V.cptr.injEq, true_and, and_true] at h
  simp_all [ri ci_i64_inj]
noncomputable def F59 : List V → Option V := tells (fun a => g59 a.1 a.2.1 a.2.2) eA59 eB59
set_option maxRecDepth 100000 in
set_option maxHeartbeats 4000000 in
/- loop.example/g01229/spec.l07Few -/
theorem ok59 : Tells Try.prog 59 F59 := by
  refine Tells.of (by kernel_rfl) ?_
  rintro ⟨s, slot, store⟩ r h
  refine VCalls.nl (VCalls.of Try.func59 rfl rfl rfl ?_)
  rw [tm_init]
  simp only [eA59, en, List.length_cons, List.length_nil, Nat.reduceAdd, Nat.reduceSub]
  replace h : (g59 s slot store).bind some = some r := bindS h
  rw [g59] at h
  refine VW.seq ?_
  refine VW.evalA (C := [(58, F58)]) (tm 27 [(0, .cptr (pT24 s) 0), (1, .i .i64 slot), (2, .i .i64 store)]) [] [] ⟨.inl ok58, trivial⟩ (by kernel_rfl) (by simp -implicitDefEqProofs) ?_
  refine VW.join (fun (v : Unit) => (⟨(tm 27 []), [], []⟩ : VS)) (fun v => (g59_j1).bind some = some r) ?_ ?_
  · refine VW.seq ?_
    refine VW.evalA (C := [(58, F58)]) (tm 27 [(0, .cptr (pT24 s) 0), (1, .i .i64 slot), (2, .i .i64 store), (8, .i .i64 0)]) [] [] ⟨.inl ok58, trivial⟩ (by kernel_rfl) (by simp -implicitDefEqProofs) ?_
    refine VW.block ?_
    obtain ⟨w_1, hw_1, h⟩ := bindE h
    refine VW.loopO (fun (x : Int) => (⟨(tm 27 [(0, .cptr (pT24 s) 0), (1, .i .i64 slot), (2, .i .i64 store), (8, .i .i64 x)]), [], []⟩ : VS)) hw_1 (Ent.to 0 (by simp [fgt]) (by first | (simp; done) | simp [pT24]) (by simp) (by simp [bndT, bndV]) (by simp [bndM, bndV])) ?_
    rintro n_1 n_24 h1
    rw [g59_L1] at h1
    refine VW.seq ?_
    refine VW.seq ?_
    refine VW.evalA (C := [(58, F58)]) (tm 27 [(0, .cptr (pT24 s) 0), (1, .i .i64 slot), (2, .i .i64 store), (8, .i .i64 n_24), (15, .b (leI n_24 s.most_))]) [] [] ⟨.inl ok58, trivial⟩ (by kernel_rfl) (by simp -implicitDefEqProofs) ?_
    refine VW.condB (b := leI n_24 s.most_) (by simp) (fun g25 => ?_) (fun g25 => ?_)
    · replace h1 := iteT g25 h1
      refine VW.skip ?_
      refine VW.seq ?_
      refine VW.block ?_
      refine VW.seq ?_
      obtain ⟨r26, q27, h1⟩ := bindE h1
      have c27 : F58 [.cptr (pT24 s) 0, .i .i64 slot, .i .i64 store, .i .i64 n_24] = some (.i .i64 r26) := tells_eq inj58 (a := (s, slot, store, n_24)) q27
      refine VW.evalA (C := [(58, F58)]) (tm 27 [(0, .cptr (pT24 s) 0), (1, .i .i64 slot), (2, .i .i64 store), (8, .i .i64 n_24), (9, .i .i64 r26)]) [] [] ⟨.inl ok58, trivial⟩ (by kernel_rfl) (by simp -implicitDefEqProofs [c27]) ?_
      refine VW.seq ?_
      refine VW.evalA (C := [(58, F58)]) (tm 27 [(0, .cptr (pT24 s) 0), (1, .i .i64 slot), (2, .i .i64 store), (8, .i .i64 n_24), (9, .i .i64 r26), (24, .b (leI 0 r26))]) [] [] ⟨.inl ok58, trivial⟩ (by kernel_rfl) (by simp -implicitDefEqProofs) ?_
      refine VW.condB (b := leI 0 r26) (by simp) (fun g28 => ?_) (fun g28 => ?_)
      · replace h1 := iteT g28 h1
        refine VW.seq ?_
        refine VW.evalA (C := [(58, F58)]) (tm 27 [(6, .i .i64 n_24), (7, .i .i64 r26)]) [] [] ⟨.inl ok58, trivial⟩ (by kernel_rfl) (by simp -implicitDefEqProofs) ?_
        have e_ := leafR h1
        subst w_1
        obtain rfl := leafS h
        refine VW.ret (VRet.fin ?_)
        simp [eB59]
      · replace h1 := iteF g28 h1
        refine VW.skip ?_
        refine VW.evalA (C := [(58, F58)]) (tm 27 [(0, .cptr (pT24 s) 0), (1, .i .i64 slot), (2, .i .i64 store), (8, .i .i64 (aI .i64 n_24 1))]) [] [] ⟨.inl ok58, trivial⟩ (by kernel_rfl) (by simp -implicitDefEqProofs) ?_
        exact (show ∃ _, _ from ⟨aI .i64 n_24 1, leafL h1, (Ent.to 0 (by simp [fgt]) (by first | (simp; done) | simp [pT24]) (by simp) (by simp [bndT, bndV]) (by simp [bndM, bndV]))⟩)
    · replace h1 := iteF g25 h1
      refine VW.exit ?_
      have e_ := leafR h1
      subst w_1
      exact (show ∃ _, _ from ⟨(), h, (Ent.to 0 (by simp [fgt]) (by first | (simp; done) | simp [pT24]) (by simp) (by simp [bndT, bndV]) (by simp [bndM, bndV]))⟩)
  · rintro _ h
    replace h : (g59_j1).bind _ = _ := h
    rw [g59_j1] at h
    refine VW.seq ?_
    refine VW.evalA (C := [(58, F58)]) (tm 27 [(6, .i .i64 (-1)), (7, .i .i64 (-1))]) [] [] ⟨.inl ok58, trivial⟩ (by kernel_rfl) (by simp -implicitDefEqProofs) ?_
    obtain rfl := leafS h
    refine VW.ret (VRet.fin ?_)
    simp [eB59]
end Go.Proofs.Ytiiejiobkfakeaa
