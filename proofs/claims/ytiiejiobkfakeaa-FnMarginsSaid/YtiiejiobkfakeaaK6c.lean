/- Contracts of the functions that the law reaches: what each tells, as a function in Lean. -/
import Derived.Test.YtiiejiobkfakeaaK6b
import Derived.KernelRfl
namespace Go.Proofs.Ytiiejiobkfakeaa
open Go.RowKit Go.VL
set_option linter.unusedSimpArgs false
set_option linter.unusedVariables false
set_option maxHeartbeats 1000000
noncomputable def g27_j1 (r4 : List (List Int)) (s : T30) (l668 : List Int) : Option ((List Int) × Int × Int) :=
  (idx r4 0).bind fun e669 =>
  (idx e669 s.first_).bind fun e671 =>
  some (l668, e671, 0)
noncomputable def g27_j2 (x_1111 : Int) (store_1221 : Int) (l1222 : List Int) : Option ((Int × Int × (List Int)) ⊕ (List Int)) :=
  some (.inl (store_1221, aI .i64 x_1111 1, l1222))
noncomputable def g27_L2 (s : T30) (x_1111 : Int) (store_1110 : Int) (r4 : List (List Int)) (l1112 : List Int) : (Int) → Option ((Int) ⊕ (Int × (List Int)))
  | x_1294 =>
    if ltI x_1294 (aI .i64 s.most_ 1) = true then
      (g53 s x_1111 store_1110 x_1294).bind fun r1296 =>
      (if r1296.2 = true then (idx r4 (aI .i64 x_1111 1)).bind fun e1298 => (idx e1298 r1296.1).bind fun e1300 => some (!eqI e1300 (-1)) else some false).bind fun w1302 =>
      (if w1302 = true then (idx s.price_ x_1111).bind fun e1303 => (idx r4 (aI .i64 x_1111 1)).bind fun e1305 => (idx e1305 r1296.1).bind fun e1307 => (idx r4 x_1111).bind fun e1309 => (idx e1309 store_1110).bind fun e1311 => some (eqI (aI .i64 (mI .i64 e1303 x_1294) e1307) e1311) else some false).bind fun w1313 =>
      if w1313 = true then
        (appK 8 l1112 [x_1294]).bind fun u1315 =>
        some (.inr (r1296.1, (l1112 ++ [x_1294])))
      else
        some (.inl (aI .i64 x_1294 1))
    else
      some (.inr (store_1110, l1112))
noncomputable def g27_L1 (s : T30) (r4 : List (List Int)) : (Int × Int × (List Int)) → Option ((Int × Int × (List Int)) ⊕ (List Int))
  | (store_1110, x_1111, l1112) =>
    if ltI x_1111 (s.need_.length : Int) = true then
      (loopO (g27_L2 s x_1111 store_1110 r4 l1112) 0).bind fun w => g27_j2 x_1111 w.1 w.2
    else
      some (.inr l1112)
noncomputable def g27 (s : T30) : Option ((List Int) × Int × Int) :=
  (g42 s).bind fun r1 =>
  if (!r1) = true then
    some ([], 0, 1)
  else
    (g48 s).bind fun r4 =>
    (idx r4 0).bind fun e6 =>
    (idx e6 s.first_).bind fun e8 =>
    if eqI e8 (-1) = true then
      some ([], 0, 6)
    else
      (loopO (g27_L1 s r4) (s.first_, 0, [])).bind fun w => g27_j1 r4 s w
def eA27 (a : T30) : List V := [.agg (pT30 a)]
def eB27 (r : (List Int) × Int × Int) : V := .tup [.own 1 (rows ci_i64 r.1), .i .i64 r.2.1, .i .i64 r.2.2]
theorem inj27 (a a' : T30) (h : eA27 a = eA27 a') : a = a' := by
  obtain ⟨i199, i200, i201, i202, i203, i204, i205⟩ := a
  obtain ⟨i206, i207, i208, i209, i210, i211, i212⟩ := a'
  simp only [eA27, pT30, List.cons.injEq, V.i.injEq, V.b.injEq, V.f.injEq, V.str.injEq, V.sl.injEq, V.agg.injEq, V.cptr.injEq, true_and, and_true] at h
  simp_all [ri ci_i64_inj]
noncomputable def F27 : List V → Option V := tells (fun a => g27 a) eA27 eB27
set_option maxRecDepth 100000 in
set_option maxHeartbeats 4000000 in
/- loop.example/g01229/impl.BestPlan -/
theorem ok27 : Tells Try.prog 27 F27 := by
  refine Tells.of (by kernel_rfl) ?_
  rintro s r h
  refine VCalls.nl (VCalls.of Try.func27 rfl rfl rfl ?_)
  rw [tm_init]
  simp only [eA27, en, List.length_cons, List.length_nil, Nat.reduceAdd, Nat.reduceSub]
  replace h : (g27 s).bind some = some r := bindS h
  rw [g27] at h
  refine VW.seq ?_
  refine VW.evalA (C := [(42, F42), (48, F48), (53, F53)]) (tm 101 [(1, .ptr 0 0 0)]) [some (7, [(pT30 s)])] [] ⟨.inl ok42, .inl ok48, .inl ok53, trivial⟩ (by kernel_rfl) (by first | (simp -implicitDefEqProofs; done) | simp -implicitDefEqProofs [pT30]) ?_
  refine VW.seq ?_
  refine VW.seq ?_
  obtain ⟨r1, q2, h⟩ := bindE h
  have c2 : F42 [.agg (pT30 s)] = some (.b r1) := tells_eq inj42 (a := s) q2
  refine VW.evalA (C := [(42, F42), (48, F48), (53, F53)]) (tm 101 [(1, .ptr 0 0 0), (14, .b (!r1))]) [some (7, [(pT30 s)])] [] ⟨.inl ok42, .inl ok48, .inl ok53, trivial⟩ (by kernel_rfl) (by first | (simp -implicitDefEqProofs [c2]; done) | simp -implicitDefEqProofs [c2, pT30]) ?_
  refine VW.condB (b := (!r1)) (by simp) (fun g3 => ?_) (fun g3 => ?_)
  · replace h := iteT g3 h
    refine VW.seq ?_
    refine VW.evalA (C := [(42, F42), (48, F48), (53, F53)]) (tm 101 [(2, .nil), (3, .i .i64 0), (4, .i .i64 1)]) [some (7, [(pT30 s)])] [] ⟨.inl ok42, .inl ok48, .inl ok53, trivial⟩ (by kernel_rfl) (by first | (simp -implicitDefEqProofs; done) | simp -implicitDefEqProofs [pT30]) ?_
    obtain rfl := leafS h
    refine VW.ret (VRet.fin ?_)
    first | (simp [eB27]; done) | simp [eB27, pT30]
  · replace h := iteF g3 h
    refine VW.skip ?_
    refine VW.seq ?_
    obtain ⟨r4, q5, h⟩ := bindE h
    have c5 : F48 [.agg (pT30 s)] = some (.own 1 (rows cl_ci_i64o r4)) := tells_eq inj48 (a := s) q5
    refine VW.evalA (C := [(42, F42), (48, F48), (53, F53)]) (tm 101 [(1, .ptr 0 0 0), (5, .ref 1 0 r4.length)]) [some (7, [(pT30 s)]), some (1, rows cl_ci_i64o r4)] [] ⟨.inl ok42, .inl ok48, .inl ok53, trivial⟩ (by kernel_rfl) (by first | (simp -implicitDefEqProofs [c5]; done) | simp -implicitDefEqProofs [c5, pT30]) ?_
    refine VW.seq ?_
    refine VW.seq ?_
    obtain ⟨e6, q7, h⟩ := bindE h
    obtain ⟨f7a, f7b, f7c, f7d⟩ := idx_some q7
    try simp only [Int.toNat_natCast, Int.reduceToNat] at f7a f7b f7c f7d
    obtain ⟨e8, q9, h⟩ := bindE h
    obtain ⟨f9a, f9b, f9c, f9d⟩ := idx_some q9
    refine VW.evalDA (C := [(42, F42), (48, F48), (53, F53)]) (tm 101 [(1, .ptr 0 0 0), (5, .ref 1 0 r4.length), (24, .b (eqI e8 (-1)))]) [some (7, [(pT30 s)]), some (1, rows cl_ci_i64o r4)] [] ⟨.inl ok42, .inl ok48, .inl ok53, trivial⟩ mixed (by kernel_rfl) (by first | (simp -implicitDefEqProofs [f7a, f7b, f7c, f7d, f9a, f9b, f9c, f9d]; done) | simp -implicitDefEqProofs [f7a, f7b, f7c, f7d, f9a, f9b, f9c, f9d, pT30]) ?_
    refine VW.condB (b := eqI e8 (-1)) (by simp) (fun g10 => ?_) (fun g10 => ?_)
    · replace h := iteT g10 h
      refine VW.seq ?_
      refine VW.evalA (C := [(42, F42), (48, F48), (53, F53)]) (tm 101 [(2, .nil), (3, .i .i64 0), (4, .i .i64 6)]) [some (7, [(pT30 s)]), some (1, rows cl_ci_i64o r4)] [] ⟨.inl ok42, .inl ok48, .inl ok53, trivial⟩ (by kernel_rfl) (by first | (simp -implicitDefEqProofs; done) | simp -implicitDefEqProofs [pT30]) ?_
      obtain rfl := leafS h
      refine VW.ret (VRet.fin ?_)
      first | (simp [eB27]; done) | simp [eB27, pT30]
    · replace h := iteF g10 h
      refine VW.skip ?_
      refine VW.seq ?_
      refine VW.evalDA (C := [(42, F42), (48, F48), (53, F53)]) (tm 101 [(1, .ptr 0 0 0), (5, .ref 1 0 r4.length), (6, .ref 2 0 0), (7, .i .i64 s.first_)]) [some (7, [(pT30 s)]), some (1, rows cl_ci_i64o r4), some (1, rows ci_i64 [])] [] ⟨.inl ok42, .inl ok48, .inl ok53, trivial⟩ mixed (by kernel_rfl) (by first | (simp -implicitDefEqProofs; done) | simp -implicitDefEqProofs [pT30]) ?_
      refine VW.join (fun (v : List Int) => (⟨(tm 101 [(1, .ptr 0 0 0), (5, .ref 1 0 r4.length), (6, .ref 2 0 v.length)]), [some (7, [(pT30 s)]), some (1, rows cl_ci_i64o r4), some (1, rows ci_i64 v)], []⟩ : VS)) (fun v => (g27_j1 r4 s (v)).bind some = some r) ?_ ?_
      · refine VW.seq ?_
        refine VW.evalA (C := [(42, F42), (48, F48), (53, F53)]) (tm 101 [(1, .ptr 0 0 0), (5, .ref 1 0 r4.length), (6, .ref 2 0 0), (7, .i .i64 s.first_), (30, .i .i64 (s.need_.length : Int)), (31, .i .i64 0)]) [some (7, [(pT30 s)]), some (1, rows cl_ci_i64o r4), some (1, rows ci_i64 [])] [] ⟨.inl ok42, .inl ok48, .inl ok53, trivial⟩ (by kernel_rfl) (by first | (simp -implicitDefEqProofs; done) | simp -implicitDefEqProofs [pT30]) ?_
        refine VW.block ?_
        obtain ⟨w_1, hw_1, h⟩ := bindE h
        refine VW.loopO (fun (x : Int × Int × (List Int)) => (⟨(tm 101 [(1, .ptr 0 0 0), (5, .ref 1 0 r4.length), (6, .ref 2 0 x.2.2.length), (7, .i .i64 x.1), (30, .i .i64 (s.need_.length : Int)), (31, .i .i64 x.2.1)]), [some (7, [(pT30 s)]), some (1, rows cl_ci_i64o r4), some (1, rows ci_i64 x.2.2)], []⟩ : VS)) hw_1 (Ent.to 3 (by simp [fgt]) (by first | (simp; done) | simp [pT30]) (by simp) (by simp [bndT, bndV]) (by simp [bndM, bndV])) ?_
        rintro n_1 ⟨store_1110, x_1111, l1112⟩ h1
        rw [g27_L1] at h1
        refine VW.seq ?_
        refine VW.evalA (C := [(42, F42), (48, F48), (53, F53)]) (tm 101 [(1, .ptr 0 0 0), (5, .ref 1 0 r4.length), (6, .ref 2 0 l1112.length), (7, .i .i64 store_1110), (30, .i .i64 (s.need_.length : Int)), (31, .i .i64 x_1111), (32, .b (ltI x_1111 (s.need_.length : Int)))]) [some (7, [(pT30 s)]), some (1, rows cl_ci_i64o r4), some (1, rows ci_i64 l1112)] [] ⟨.inl ok42, .inl ok48, .inl ok53, trivial⟩ (by kernel_rfl) (by first | (simp -implicitDefEqProofs; done) | simp -implicitDefEqProofs [pT30]) ?_
        refine VW.seq ?_
        refine VW.condB (b := ltI x_1111 (s.need_.length : Int)) (by simp) (fun g1113 => ?_) (fun g1113 => ?_)
        · replace h1 := iteT g1113 h1
          refine VW.skip ?_
          refine VW.join (fun (v : Int × (List Int)) => (⟨(tm 101 [(1, .ptr 0 0 0), (5, .ref 1 0 r4.length), (6, .ref 2 0 v.2.length), (7, .i .i64 v.1), (30, .i .i64 (s.need_.length : Int)), (31, .i .i64 x_1111)]), [some (7, [(pT30 s)]), some (1, rows cl_ci_i64o r4), some (1, rows ci_i64 v.2)], []⟩ : VS)) (fun v => (g27_j2 x_1111 (v.1) (v.2)).bind (kN (g27_L1 s r4) n_1) = some w_1) ?_ ?_
          · refine VW.block ?_
            refine VW.seq ?_
            refine VW.evalA (C := [(42, F42), (48, F48), (53, F53)]) (tm 101 [(1, .ptr 0 0 0), (5, .ref 1 0 r4.length), (6, .ref 2 0 l1112.length), (7, .i .i64 store_1110), (8, .i .i64 x_1111), (30, .i .i64 (s.need_.length : Int)), (31, .i .i64 x_1111)]) [some (7, [(pT30 s)]), some (1, rows cl_ci_i64o r4), some (1, rows ci_i64 l1112)] [] ⟨.inl ok42, .inl ok48, .inl ok53, trivial⟩ (by kernel_rfl) (by first | (simp -implicitDefEqProofs; done) | simp -implicitDefEqProofs [pT30]) ?_
            refine VW.seq ?_
            refine VW.evalA (C := [(42, F42), (48, F48), (53, F53)]) (tm 101 [(1, .ptr 0 0 0), (5, .ref 1 0 r4.length), (6, .ref 2 0 l1112.length), (7, .i .i64 store_1110), (8, .i .i64 x_1111), (30, .i .i64 (s.need_.length : Int)), (31, .i .i64 x_1111), (36, .i .i64 (aI .i64 s.most_ 1)), (37, .i .i64 0)]) [some (7, [(pT30 s)]), some (1, rows cl_ci_i64o r4), some (1, rows ci_i64 l1112)] [] ⟨.inl ok42, .inl ok48, .inl ok53, trivial⟩ (by kernel_rfl) (by first | (simp -implicitDefEqProofs; done) | simp -implicitDefEqProofs [pT30]) ?_
            refine VW.block ?_
            obtain ⟨w_2, hw_2, h1⟩ := bindE h1
            refine VW.loopO (fun (x : Int) => (⟨(tm 101 [(1, .ptr 0 0 0), (5, .ref 1 0 r4.length), (6, .ref 2 0 l1112.length), (7, .i .i64 store_1110), (8, .i .i64 x_1111), (30, .i .i64 (s.need_.length : Int)), (31, .i .i64 x_1111), (36, .i .i64 (aI .i64 s.most_ 1)), (37, .i .i64 x)]), [some (7, [(pT30 s)]), some (1, rows cl_ci_i64o r4), some (1, rows ci_i64 l1112)], []⟩ : VS)) hw_2 (Ent.to 3 (by simp [fgt]) (by first | (simp; done) | simp [pT30]) (by simp) (by simp [bndT, bndV]) (by simp [bndM, bndV])) ?_
            rintro n_2 x_1294 h2
            rw [g27_L2] at h2
            refine VW.seq ?_
            refine VW.evalA (C := [(42, F42), (48, F48), (53, F53)]) (tm 101 [(1, .ptr 0 0 0), (5, .ref 1 0 r4.length), (6, .ref 2 0 l1112.length), (7, .i .i64 store_1110), (8, .i .i64 x_1111), (30, .i .i64 (s.need_.length : Int)), (31, .i .i64 x_1111), (36, .i .i64 (aI .i64 s.most_ 1)), (37, .i .i64 x_1294), (38, .b (ltI x_1294 (aI .i64 s.most_ 1)))]) [some (7, [(pT30 s)]), some (1, rows cl_ci_i64o r4), some (1, rows ci_i64 l1112)] [] ⟨.inl ok42, .inl ok48, .inl ok53, trivial⟩ (by kernel_rfl) (by first | (simp -implicitDefEqProofs; done) | simp -implicitDefEqProofs [pT30]) ?_
            refine VW.seq ?_
            refine VW.condB (b := ltI x_1294 (aI .i64 s.most_ 1)) (by simp) (fun g1295 => ?_) (fun g1295 => ?_)
            · replace h2 := iteT g1295 h2
              refine VW.skip ?_
              refine VW.seq ?_
              refine VW.block ?_
              refine VW.seq ?_
              refine VW.evalA (C := [(42, F42), (48, F48), (53, F53)]) (tm 101 [(1, .ptr 0 0 0), (5, .ref 1 0 r4.length), (6, .ref 2 0 l1112.length), (7, .i .i64 store_1110), (8, .i .i64 x_1111), (9, .i .i64 x_1294), (30, .i .i64 (s.need_.length : Int)), (31, .i .i64 x_1111), (36, .i .i64 (aI .i64 s.most_ 1)), (37, .i .i64 x_1294)]) [some (7, [(pT30 s)]), some (1, rows cl_ci_i64o r4), some (1, rows ci_i64 l1112)] [] ⟨.inl ok42, .inl ok48, .inl ok53, trivial⟩ (by kernel_rfl) (by first | (simp -implicitDefEqProofs; done) | simp -implicitDefEqProofs [pT30]) ?_
              refine VW.seq ?_
              obtain ⟨r1296, q1297, h2⟩ := bindE h2
              have c1297 : F53 [.agg (pT30 s), .i .i64 x_1111, .i .i64 store_1110, .i .i64 x_1294] = some (.tup [.i .i64 r1296.1, .b r1296.2]) := tells_eq inj53 (a := (s, x_1111, store_1110, x_1294)) q1297
              refine VW.evalA (C := [(42, F42), (48, F48), (53, F53)]) (tm 101 [(1, .ptr 0 0 0), (5, .ref 1 0 r4.length), (6, .ref 2 0 l1112.length), (7, .i .i64 store_1110), (8, .i .i64 x_1111), (9, .i .i64 x_1294), (10, .i .i64 r1296.1), (11, .b r1296.2), (30, .i .i64 (s.need_.length : Int)), (31, .i .i64 x_1111), (36, .i .i64 (aI .i64 s.most_ 1)), (37, .i .i64 x_1294)]) [some (7, [(pT30 s)]), some (1, rows cl_ci_i64o r4), some (1, rows ci_i64 l1112)] [] ⟨.inl ok42, .inl ok48, .inl ok53, trivial⟩ (by kernel_rfl) (by first | (simp -implicitDefEqProofs [c1297]; done) | simp -implicitDefEqProofs [c1297, pT30]) ?_
              refine VW.seq ?_
              obtain ⟨w1302, q1317, h2⟩ := bindE h2
              obtain ⟨w1313, q1318, h2⟩ := bindE h2
              refine VW.evalDA (C := [(42, F42), (48, F48), (53, F53)]) (tm 101 [(1, .ptr 0 0 0), (5, .ref 1 0 r4.length), (6, .ref 2 0 l1112.length), (7, .i .i64 store_1110), (8, .i .i64 x_1111), (9, .i .i64 x_1294), (10, .i .i64 r1296.1), (30, .i .i64 (s.need_.length : Int)), (31, .i .i64 x_1111), (36, .i .i64 (aI .i64 s.most_ 1)), (37, .i .i64 x_1294), (85, .b w1313)]) [some (7, [(pT30 s)]), some (1, rows cl_ci_i64o r4), some (1, rows ci_i64 l1112)] [] ⟨.inl ok42, .inl ok48, .inl ok53, trivial⟩ mixed (by kernel_rfl) (by
                  rcases Bool.eq_false_or_eq_true r1296.2 with q1319 | q1319
                  · first
                    | (simp at q1319; done)
                    | (rw [if_pos q1319] at q1317
                       obtain ⟨e1298, q1299, q1317⟩ := bindQ q1317
                       obtain ⟨f1299a, f1299b, f1299c, f1299d⟩ := idx_some q1299
                       obtain ⟨e1300, q1301, q1317⟩ := bindQ q1317
                       obtain ⟨f1301a, f1301b, f1301c, f1301d⟩ := idx_some q1301
                       have d1320 : w1302 = _ := (Option.some.inj q1317).symm
                       rcases Bool.eq_false_or_eq_true w1302 with q1321 | q1321
                       · first
                         | (simp [d1320] at q1321; done)
                         | (rw [if_pos q1321] at q1318
                            try simp only [d1320] at q1321
                            obtain ⟨e1303, q1304, q1318⟩ := bindQ q1318
                            obtain ⟨f1304a, f1304b, f1304c, f1304d⟩ := idx_some q1304
                            obtain ⟨e1305, q1306, q1318⟩ := bindQ q1318
                            have d1322 : e1305 = e1298 := Option.some.inj (q1306.symm.trans q1299)
                            obtain ⟨e1307, q1308, q1318⟩ := bindQ q1318
                            have d1323 : e1307 = e1300 := by have t_ := q1308; simp only [d1322] at t_; exact Option.some.inj (t_.symm.trans q1301)
                            obtain ⟨e1309, q1310, q1318⟩ := bindQ q1318
                            obtain ⟨f1310a, f1310b, f1310c, f1310d⟩ := idx_some q1310
                            obtain ⟨e1311, q1312, q1318⟩ := bindQ q1318
                            obtain ⟨f1312a, f1312b, f1312c, f1312d⟩ := idx_some q1312
                            have d1324 : w1313 = _ := (Option.some.inj q1318).symm
                            first | (simp -implicitDefEqProofs [q1319, f1299a, f1299b, f1299c, f1299d, f1301a, f1301b, f1301c, f1301d, d1320, q1321, f1304a, f1304b, f1304c, f1304d, d1322, d1323, f1310a, f1310b, f1310c, f1310d, f1312a, f1312b, f1312c, f1312d, d1324]; done) | simp -implicitDefEqProofs [q1319, f1299a, f1299b, f1299c, f1299d, f1301a, f1301b, f1301c, f1301d, d1320, q1321, f1304a, f1304b, f1304c, f1304d, d1322, d1323, f1310a, f1310b, f1310c, f1310d, f1312a, f1312b, f1312c, f1312d, d1324, pT30])
                       · first
                         | (simp [d1320] at q1321; done)
                         | (rw [if_neg (by rw [q1321]; exact Bool.false_ne_true)] at q1318
                            try simp only [d1320] at q1321
                            have d1325 : w1313 = _ := (Option.some.inj q1318).symm
                            first | (simp -implicitDefEqProofs [q1319, f1299a, f1299b, f1299c, f1299d, f1301a, f1301b, f1301c, f1301d, d1320, q1321, d1325]; done) | simp -implicitDefEqProofs [q1319, f1299a, f1299b, f1299c, f1299d, f1301a, f1301b, f1301c, f1301d, d1320, q1321, d1325, pT30]))
                  · first
                    | (simp at q1319; done)
                    | (rw [if_neg (by rw [q1319]; exact Bool.false_ne_true)] at q1317
                       have d1326 : w1302 = _ := (Option.some.inj q1317).symm
                       rcases Bool.eq_false_or_eq_true w1302 with q1327 | q1327
                       · first
                         | (simp [d1326] at q1327; done)
                         | (rw [if_pos q1327] at q1318
                            try simp only [d1326] at q1327
                            obtain ⟨e1303, q1304, q1318⟩ := bindQ q1318
                            obtain ⟨f1304a, f1304b, f1304c, f1304d⟩ := idx_some q1304
                            obtain ⟨e1305, q1306, q1318⟩ := bindQ q1318
                            obtain ⟨f1306a, f1306b, f1306c, f1306d⟩ := idx_some q1306
                            obtain ⟨e1307, q1308, q1318⟩ := bindQ q1318
                            obtain ⟨f1308a, f1308b, f1308c, f1308d⟩ := idx_some q1308
                            obtain ⟨e1309, q1310, q1318⟩ := bindQ q1318
                            obtain ⟨f1310a, f1310b, f1310c, f1310d⟩ := idx_some q1310
                            obtain ⟨e1311, q1312, q1318⟩ := bindQ q1318
                            obtain ⟨f1312a, f1312b, f1312c, f1312d⟩ := idx_some q1312
                            have d1328 : w1313 = _ := (Option.some.inj q1318).symm
                            first | (simp -implicitDefEqProofs [q1319, d1326, q1327, f1304a, f1304b, f1304c, f1304d, f1306a, f1306b, f1306c, f1306d, f1308a, f1308b, f1308c, f1308d, f1310a, f1310b, f1310c, f1310d, f1312a, f1312b, f1312c, f1312d, d1328]; done) | simp -implicitDefEqProofs [q1319, d1326, q1327, f1304a, f1304b, f1304c, f1304d, f1306a, f1306b, f1306c, f1306d, f1308a, f1308b, f1308c, f1308d, f1310a, f1310b, f1310c, f1310d, f1312a, f1312b, f1312c, f1312d, d1328, pT30])
                       · first
                         | (simp [d1326] at q1327; done)
                         | (rw [if_neg (by rw [q1327]; exact Bool.false_ne_true)] at q1318
                            try simp only [d1326] at q1327
                            have d1329 : w1313 = _ := (Option.some.inj q1318).symm
                            first | (simp -implicitDefEqProofs [q1319, d1326, q1327, d1329]; done) | simp -implicitDefEqProofs [q1319, d1326, q1327, d1329, pT30]))) ?_
              refine VW.condB (b := w1313) (by simp) (fun g1314 => ?_) (fun g1314 => ?_)
              · replace h2 := iteT g1314 h2
                refine VW.seq ?_
                obtain ⟨u1315, q1316, h2⟩ := bindE h2
                obtain ⟨f1316a, f1316b⟩ := appK_some q1316
                try simp only [Int.toNat_natCast, Int.reduceToNat, List.length_cons, List.length_nil, Nat.reduceAdd, Nat.zero_add] at f1316a f1316b
                refine VW.evalA (C := [(42, F42), (48, F48), (53, F53)]) (tm 101 [(1, .ptr 0 0 0), (5, .ref 1 0 r4.length), (6, .ref 2 0 (l1112 ++ [x_1294]).length), (10, .i .i64 r1296.1), (30, .i .i64 (s.need_.length : Int)), (31, .i .i64 x_1111)]) [some (7, [(pT30 s)]), some (1, rows cl_ci_i64o r4), some (1, rows ci_i64 (l1112 ++ [x_1294])), some (1, rows ci_i64 [x_1294])] [] ⟨.inl ok42, .inl ok48, .inl ok53, trivial⟩ (by kernel_rfl) (by first | (simp -implicitDefEqProofs [f1316a, f1316b]; done) | simp -implicitDefEqProofs [f1316a, f1316b, pT30]) ?_
                refine VW.seq ?_
                refine VW.evalA (C := [(42, F42), (48, F48), (53, F53)]) (tm 101 [(1, .ptr 0 0 0), (5, .ref 1 0 r4.length), (6, .ref 2 0 (l1112 ++ [x_1294]).length), (7, .i .i64 r1296.1), (30, .i .i64 (s.need_.length : Int)), (31, .i .i64 x_1111)]) [some (7, [(pT30 s)]), some (1, rows cl_ci_i64o r4), some (1, rows ci_i64 (l1112 ++ [x_1294])), some (1, rows ci_i64 [x_1294])] [] ⟨.inl ok42, .inl ok48, .inl ok53, trivial⟩ (by kernel_rfl) (by first | (simp -implicitDefEqProofs; done) | simp -implicitDefEqProofs [pT30]) ?_
                refine VW.exit ?_
                have e_ := leafR h2
                subst w_2
                exact (show ∃ _, _ from ⟨(r1296.1, (l1112 ++ [x_1294])), h1, (Ent.to 3 (by simp [fgt]) (by first | (simp; done) | simp [pT30]) (by simp) (by simp [bndT, bndV]) (by simp [bndM, bndV]))⟩)
              · replace h2 := iteF g1314 h2
                refine VW.skip ?_
                refine VW.evalA (C := [(42, F42), (48, F48), (53, F53)]) (tm 101 [(1, .ptr 0 0 0), (5, .ref 1 0 r4.length), (6, .ref 2 0 l1112.length), (7, .i .i64 store_1110), (8, .i .i64 x_1111), (30, .i .i64 (s.need_.length : Int)), (31, .i .i64 x_1111), (36, .i .i64 (aI .i64 s.most_ 1)), (37, .i .i64 (aI .i64 x_1294 1))]) [some (7, [(pT30 s)]), some (1, rows cl_ci_i64o r4), some (1, rows ci_i64 l1112)] [] ⟨.inl ok42, .inl ok48, .inl ok53, trivial⟩ (by kernel_rfl) (by first | (simp -implicitDefEqProofs; done) | simp -implicitDefEqProofs [pT30]) ?_
                exact (show ∃ _, _ from ⟨aI .i64 x_1294 1, leafL h2, (Ent.to 3 (by simp [fgt]) (by first | (simp; done) | simp [pT30]) (by simp) (by simp [bndT, bndV]) (by simp [bndM, bndV]))⟩)
            · replace h2 := iteF g1295 h2
              refine VW.exit ?_
              have e_ := leafR h2
              subst w_2
              exact (show ∃ _, _ from ⟨(store_1110, l1112), h1, (Ent.to 3 (by simp [fgt]) (by first | (simp; done) | simp [pT30]) (by simp) (by simp [bndT, bndV]) (by simp [bndM, bndV]))⟩)
          · rintro ⟨store_1221, l1222⟩ h1
            replace h1 : (g27_j2 x_1111 store_1221 l1222).bind _ = _ := h1
            rw [g27_j2] at h1
            refine VW.evalA (C := [(42, F42), (48, F48), (53, F53)]) (tm 101 [(1, .ptr 0 0 0), (5, .ref 1 0 r4.length), (6, .ref 2 0 l1222.length), (7, .i .i64 store_1221), (30, .i .i64 (s.need_.length : Int)), (31, .i .i64 (aI .i64 x_1111 1))]) [some (7, [(pT30 s)]), some (1, rows cl_ci_i64o r4), some (1, rows ci_i64 l1222)] [] ⟨.inl ok42, .inl ok48, .inl ok53, trivial⟩ (by kernel_rfl) (by first | (simp -implicitDefEqProofs; done) | simp -implicitDefEqProofs [pT30]) ?_
            exact (show ∃ _, _ from ⟨(store_1221, aI .i64 x_1111 1, l1222), leafL h1, (Ent.to 3 (by simp [fgt]) (by first | (simp; done) | simp [pT30]) (by simp) (by simp [bndT, bndV]) (by simp [bndM, bndV]))⟩)
        · replace h1 := iteF g1113 h1
          refine VW.exit ?_
          have e_ := leafR h1
          subst w_1
          exact (show ∃ _, _ from ⟨l1112, h, (Ent.to 3 (by simp [fgt]) (by first | (simp; done) | simp [pT30]) (by simp) (by simp [bndT, bndV]) (by simp [bndM, bndV]))⟩)
      · rintro l668 h
        replace h : (g27_j1 r4 s l668).bind _ = _ := h
        rw [g27_j1] at h
        refine VW.seq ?_
        obtain ⟨e669, q670, h⟩ := bindE h
        obtain ⟨f670a, f670b, f670c, f670d⟩ := idx_some q670
        try simp only [Int.toNat_natCast, Int.reduceToNat] at f670a f670b f670c f670d
        obtain ⟨e671, q672, h⟩ := bindE h
        obtain ⟨f672a, f672b, f672c, f672d⟩ := idx_some q672
        refine VW.evalDA (C := [(42, F42), (48, F48), (53, F53)]) (tm 101 [(2, .ref 2 0 l668.length), (3, .i .i64 e671), (4, .i .i64 0)]) [some (7, [(pT30 s)]), some (1, rows cl_ci_i64o r4), some (1, rows ci_i64 l668)] [] ⟨.inl ok42, .inl ok48, .inl ok53, trivial⟩ mixed (by kernel_rfl) (by first | (simp -implicitDefEqProofs [f670a, f670b, f670c, f670d, f672a, f672b, f672c, f672d]; done) | simp -implicitDefEqProofs [f670a, f670b, f670c, f670d, f672a, f672b, f672c, f672d, pT30]) ?_
        obtain rfl := leafS h
        refine VW.ret (VRet.fin ?_)
        first | (simp [eB27]; done) | simp [eB27, pT30]
noncomputable def g28_j1 (y30 : Int) : Option (Int × Int) :=
  some (0, 6)
noncomputable def g28_L1 (s : T30) : (Int) → Option ((Int) ⊕ ((Int) ⊕ (Int × Int)))
  | y48 =>
    if leI y48 60 = true then
      (g48 (⟨s.need_, s.price_, s.most_, s.yield_, y48, s.first_, s.loss_⟩ : T30)).bind fun r50 =>
      (idx r50 0).bind fun e52 =>
      (idx e52 s.first_).bind fun e54 =>
      if (!eqI e54 (-1)) = true then
        some (.inr (.inr (y48, 0)))
      else
        some (.inl (aI .i64 y48 1))
    else
      some (.inr (.inl y48))
noncomputable def g28 (s : T30) : Option (Int × Int) :=
  (g42 s).bind fun r1 =>
  if (!r1) = true then
    some (0, 1)
  else
    (loopO (g28_L1 s) s.first_).bind fun w => match w with
      | .inl y => g28_j1 y
      | .inr r => some r
def eA28 (a : T30) : List V := [.agg (pT30 a)]
def eB28 (r : Int × Int) : V := .tup [.i .i64 r.1, .i .i64 r.2]
theorem inj28 (a a' : T30) (h : eA28 a = eA28 a') : a = a' := by
  obtain ⟨i213, i214, i215, i216, i217, i218, i219⟩ := a
  obtain ⟨i220, i221, i222, i223, i224, i225, i226⟩ := a'
  simp only [eA28, pT30, List.cons.injEq, V.i.injEq, V.b.injEq, V.f.injEq, V.str.injEq, V.sl.injEq, V.agg.injEq, V.cptr.injEq, true_and, and_true] at h
  simp_all [ri ci_i64_inj]
noncomputable def F28 : List V → Option V := tells (fun a => g28 a) eA28 eB28
set_option maxRecDepth 100000 in
set_option maxHeartbeats 4000000 in
/- loop.example/g01229/impl.LeastStore -/
theorem ok28 : Tells Try.prog 28 F28 := by
  refine Tells.of (by kernel_rfl) ?_
  rintro s r h
  refine VCalls.nl (VCalls.of Try.func28 rfl rfl rfl ?_)
  rw [tm_init]
  simp only [eA28, en, List.length_cons, List.length_nil, Nat.reduceAdd, Nat.reduceSub]
  replace h : (g28 s).bind some = some r := bindS h
  rw [g28] at h
  refine VW.seq ?_
  refine VW.evalA (C := [(42, F42), (48, F48)]) (tm 28 [(1, .ptr 0 0 0)]) [some (7, [(pT30 s)])] [] ⟨.inl ok42, .inl ok48, trivial⟩ (by kernel_rfl) (by first | (simp -implicitDefEqProofs; done) | simp -implicitDefEqProofs [pT30]) ?_
  refine VW.seq ?_
  refine VW.seq ?_
  obtain ⟨r1, q2, h⟩ := bindE h
  have c2 : F42 [.agg (pT30 s)] = some (.b r1) := tells_eq inj42 (a := s) q2
  refine VW.evalA (C := [(42, F42), (48, F48)]) (tm 28 [(1, .ptr 0 0 0), (6, .b (!r1))]) [some (7, [(pT30 s)])] [] ⟨.inl ok42, .inl ok48, trivial⟩ (by kernel_rfl) (by first | (simp -implicitDefEqProofs [c2]; done) | simp -implicitDefEqProofs [c2, pT30]) ?_
  refine VW.condB (b := (!r1)) (by simp) (fun g3 => ?_) (fun g3 => ?_)
  · replace h := iteT g3 h
    refine VW.seq ?_
    refine VW.evalA (C := [(42, F42), (48, F48)]) (tm 28 [(2, .i .i64 0), (3, .i .i64 1)]) [some (7, [(pT30 s)])] [] ⟨.inl ok42, .inl ok48, trivial⟩ (by kernel_rfl) (by first | (simp -implicitDefEqProofs; done) | simp -implicitDefEqProofs [pT30]) ?_
    obtain rfl := leafS h
    refine VW.ret (VRet.fin ?_)
    first | (simp [eB28]; done) | simp [eB28, pT30]
  · replace h := iteF g3 h
    refine VW.skip ?_
    refine VW.join (fun (v : Int) => (⟨(tm 28 []), [some (7, [[.sl 1 (rows ci_i64 s.need_), .sl 1 (rows ci_i64 s.price_), .i .i64 s.most_, .i .i64 s.yield_, .i .i64 v, .i .i64 s.first_, .i .i64 s.loss_]])], []⟩ : VS)) (fun v => (g28_j1 (v)).bind some = some r) ?_ ?_
    · refine VW.seq ?_
      refine VW.evalA (C := [(42, F42), (48, F48)]) (tm 28 [(1, .ptr 0 0 0)]) [some (7, [[.sl 1 (rows ci_i64 s.need_), .sl 1 (rows ci_i64 s.price_), .i .i64 s.most_, .i .i64 s.yield_, .i .i64 s.first_, .i .i64 s.first_, .i .i64 s.loss_]])] [] ⟨.inl ok42, .inl ok48, trivial⟩ (by kernel_rfl) (by simp -implicitDefEqProofs [pT30]) ?_
      refine VW.block ?_
      obtain ⟨w_1, hw_1, h⟩ := bindE h
      refine VW.loopO (fun (x : Int) => (⟨(tm 28 [(1, .ptr 0 0 0)]), [some (7, [[.sl 1 (rows ci_i64 s.need_), .sl 1 (rows ci_i64 s.price_), .i .i64 s.most_, .i .i64 s.yield_, .i .i64 x, .i .i64 s.first_, .i .i64 s.loss_]])], []⟩ : VS)) hw_1 (Ent.to 1 (by simp [fgt]) (by first | (simp; done) | simp [pT30]) (by simp) (by simp [bndT, bndV]) (by simp [bndM, bndV])) ?_
      rintro n_1 y48 h1
      rw [g28_L1] at h1
      refine VW.seq ?_
      refine VW.seq ?_
      refine VW.evalA (C := [(42, F42), (48, F48)]) (tm 28 [(1, .ptr 0 0 0), (12, .b (leI y48 60))]) [some (7, [[.sl 1 (rows ci_i64 s.need_), .sl 1 (rows ci_i64 s.price_), .i .i64 s.most_, .i .i64 s.yield_, .i .i64 y48, .i .i64 s.first_, .i .i64 s.loss_]])] [] ⟨.inl ok42, .inl ok48, trivial⟩ (by kernel_rfl) (by first | (simp -implicitDefEqProofs; done) | simp -implicitDefEqProofs [pT30]) ?_
      refine VW.condB (b := leI y48 60) (by simp) (fun g49 => ?_) (fun g49 => ?_)
      · replace h1 := iteT g49 h1
        refine VW.skip ?_
        refine VW.seq ?_
        refine VW.block ?_
        refine VW.seq ?_
        obtain ⟨r50, q51, h1⟩ := bindE h1
        have c51 : F48 [.agg [.sl 1 (rows ci_i64 ((⟨s.need_, s.price_, s.most_, s.yield_, y48, s.first_, s.loss_⟩ : T30).need_)), .sl 1 (rows ci_i64 ((⟨s.need_, s.price_, s.most_, s.yield_, y48, s.first_, s.loss_⟩ : T30).price_)), .i .i64 ((⟨s.need_, s.price_, s.most_, s.yield_, y48, s.first_, s.loss_⟩ : T30).most_), .i .i64 ((⟨s.need_, s.price_, s.most_, s.yield_, y48, s.first_, s.loss_⟩ : T30).yield_), .i .i64 ((⟨s.need_, s.price_, s.most_, s.yield_, y48, s.first_, s.loss_⟩ : T30).store_), .i .i64 ((⟨s.need_, s.price_, s.most_, s.yield_, y48, s.first_, s.loss_⟩ : T30).first_), .i .i64 ((⟨s.need_, s.price_, s.most_, s.yield_, y48, s.first_, s.loss_⟩ : T30).loss_)]] = some (.own 1 (rows cl_ci_i64o r50)) := tells_eq inj48 (a := (⟨s.need_, s.price_, s.most_, s.yield_, y48, s.first_, s.loss_⟩ : T30)) q51
        obtain ⟨e52, q53, h1⟩ := bindE h1
        obtain ⟨f53a, f53b, f53c, f53d⟩ := idx_some q53
        try simp only [Int.toNat_natCast, Int.reduceToNat] at f53a f53b f53c f53d
        obtain ⟨e54, q55, h1⟩ := bindE h1
        obtain ⟨f55a, f55b, f55c, f55d⟩ := idx_some q55
        refine VW.evalDA (C := [(42, F42), (48, F48)]) (tm 28 [(1, .ptr 0 0 0), (25, .b (!eqI e54 (-1)))]) [some (7, [[.sl 1 (rows ci_i64 s.need_), .sl 1 (rows ci_i64 s.price_), .i .i64 s.most_, .i .i64 s.yield_, .i .i64 y48, .i .i64 s.first_, .i .i64 s.loss_]]), some (1, rows cl_ci_i64o r50)] [] ⟨.inl ok42, .inl ok48, trivial⟩ mixed (by kernel_rfl) (by first | (simp -implicitDefEqProofs [c51, f53a, f53b, f53c, f53d, f55a, f55b, f55c, f55d]; done) | simp -implicitDefEqProofs [c51, f53a, f53b, f53c, f53d, f55a, f55b, f55c, f55d, pT30]) ?_
        refine VW.condB (b := (!eqI e54 (-1))) (by simp) (fun g56 => ?_) (fun g56 => ?_)
        · replace h1 := iteT g56 h1
          refine VW.seq ?_
          refine VW.evalA (C := [(42, F42), (48, F48)]) (tm 28 [(2, .i .i64 y48), (3, .i .i64 0)]) [some (7, [[.sl 1 (rows ci_i64 s.need_), .sl 1 (rows ci_i64 s.price_), .i .i64 s.most_, .i .i64 s.yield_, .i .i64 y48, .i .i64 s.first_, .i .i64 s.loss_]]), some (1, rows cl_ci_i64o r50)] [] ⟨.inl ok42, .inl ok48, trivial⟩ (by kernel_rfl) (by first | (simp -implicitDefEqProofs; done) | simp -implicitDefEqProofs [pT30]) ?_
          have e_ := leafR h1
          subst w_1
          obtain rfl := leafS h
          refine VW.ret (VRet.fin ?_)
          first | (simp [eB28]; done) | simp [eB28, pT30]
        · replace h1 := iteF g56 h1
          refine VW.skip ?_
          refine VW.evalA (C := [(42, F42), (48, F48)]) (tm 28 [(1, .ptr 0 0 0)]) [some (7, [[.sl 1 (rows ci_i64 s.need_), .sl 1 (rows ci_i64 s.price_), .i .i64 s.most_, .i .i64 s.yield_, .i .i64 (aI .i64 y48 1), .i .i64 s.first_, .i .i64 s.loss_]]), some (1, rows cl_ci_i64o r50)] [] ⟨.inl ok42, .inl ok48, trivial⟩ (by kernel_rfl) (by first | (simp -implicitDefEqProofs; done) | simp -implicitDefEqProofs [pT30]) ?_
          exact (show ∃ _, _ from ⟨aI .i64 y48 1, leafL h1, (Ent.to 1 (by simp [fgt]) (by first | (simp; done) | simp [pT30]) (by simp) (by simp [bndT, bndV]) (by simp [bndM, bndV]))⟩)
      · replace h1 := iteF g49 h1
        refine VW.exit ?_
        have e_ := leafR h1
        subst w_1
        exact (show ∃ _, _ from ⟨y48, h, (Ent.to 1 (by simp [fgt]) (by first | (simp; done) | simp [pT30]) (by simp) (by simp [bndT, bndV]) (by simp [bndM, bndV]))⟩)
    · rintro y30 h
      replace h : (g28_j1 y30).bind _ = _ := h
      rw [g28_j1] at h
      refine VW.seq ?_
      refine VW.evalA (C := [(42, F42), (48, F48)]) (tm 28 [(2, .i .i64 0), (3, .i .i64 6)]) [some (7, [[.sl 1 (rows ci_i64 s.need_), .sl 1 (rows ci_i64 s.price_), .i .i64 s.most_, .i .i64 s.yield_, .i .i64 y30, .i .i64 s.first_, .i .i64 s.loss_]])] [] ⟨.inl ok42, .inl ok48, trivial⟩ (by kernel_rfl) (by first | (simp -implicitDefEqProofs; done) | simp -implicitDefEqProofs [pT30]) ?_
      obtain rfl := leafS h
      refine VW.ret (VRet.fin ?_)
      first | (simp [eB28]; done) | simp [eB28, pT30]
noncomputable def g29_j1 (y20 : Int) : Option (Int × Int) :=
  some (0, 6)
noncomputable def g29_L1 (s : T30) : (Int × Int) → Option ((Int × Int) ⊕ ((Int) ⊕ (Int × Int)))
  | (k_31, y32) =>
    if leI k_31 60 = true then
      (g46 (⟨s.need_, s.price_, s.most_, s.yield_, k_31, s.first_, s.loss_⟩ : T30)).bind fun r34 =>
      if (!eqI r34.2 (-1)) = true then
        some (.inr (.inr (k_31, 0)))
      else
        some (.inl (aI .i64 k_31 1, k_31))
    else
      some (.inr (.inl y32))
noncomputable def g29 (s : T30) : Option (Int × Int) :=
  (g39 s).bind fun r1 =>
  if (!r1) = true then
    some (0, 1)
  else
    (loopO (g29_L1 s) (s.first_, s.store_)).bind fun w => match w with
      | .inl y => g29_j1 y
      | .inr r => some r
def eA29 (a : T30) : List V := [.agg (pT30 a)]
def eB29 (r : Int × Int) : V := .tup [.i .i64 r.1, .i .i64 r.2]
theorem inj29 (a a' : T30) (h : eA29 a = eA29 a') : a = a' := by
  obtain ⟨i227, i228, i229, i230, i231, i232, i233⟩ := a
  obtain ⟨i234, i235, i236, i237, i238, i239, i240⟩ := a'
  simp only [eA29, pT30, List.cons.injEq, V.i.injEq, V.b.injEq, V.f.injEq, V.str.injEq, V.sl.injEq, V.agg.injEq, V.cptr.injEq, true_and, and_true] at h
  simp_all [ri ci_i64_inj]
noncomputable def F29 : List V → Option V := tells (fun a => g29 a) eA29 eB29
set_option maxRecDepth 100000 in
set_option maxHeartbeats 4000000 in
/- loop.example/g01229/spec.LeastStore -/
theorem ok29 : Tells Try.prog 29 F29 := by
  refine Tells.of (by kernel_rfl) ?_
  rintro s r h
  refine VCalls.nl (VCalls.of Try.func29 rfl rfl rfl ?_)
  rw [tm_init]
  simp only [eA29, en, List.length_cons, List.length_nil, Nat.reduceAdd, Nat.reduceSub]
  replace h : (g29 s).bind some = some r := bindS h
  rw [g29] at h
  refine VW.seq ?_
  refine VW.evalA (C := [(39, F39), (46, F46)]) (tm 24 [(1, .ptr 0 0 0)]) [some (7, [(pT30 s)])] [] ⟨.inl ok39, .inl ok46, trivial⟩ (by kernel_rfl) (by first | (simp -implicitDefEqProofs; done) | simp -implicitDefEqProofs [pT30]) ?_
  refine VW.seq ?_
  refine VW.seq ?_
  obtain ⟨r1, q2, h⟩ := bindE h
  have c2 : F39 [.cptr (pT30 s) 0] = some (.b r1) := tells_eq inj39 (a := s) q2
  refine VW.evalA (C := [(39, F39), (46, F46)]) (tm 24 [(1, .ptr 0 0 0), (8, .b (!r1))]) [some (7, [(pT30 s)])] [] ⟨.inl ok39, .inl ok46, trivial⟩ (by kernel_rfl) (by first | (simp -implicitDefEqProofs [c2]; done) | simp -implicitDefEqProofs [c2, pT30]) ?_
  refine VW.condB (b := (!r1)) (by simp) (fun g3 => ?_) (fun g3 => ?_)
  · replace h := iteT g3 h
    refine VW.seq ?_
    refine VW.evalA (C := [(39, F39), (46, F46)]) (tm 24 [(2, .i .i64 0), (3, .i .i64 1)]) [some (7, [(pT30 s)])] [] ⟨.inl ok39, .inl ok46, trivial⟩ (by kernel_rfl) (by first | (simp -implicitDefEqProofs; done) | simp -implicitDefEqProofs [pT30]) ?_
    obtain rfl := leafS h
    refine VW.ret (VRet.fin ?_)
    first | (simp [eB29]; done) | simp [eB29, pT30]
  · replace h := iteF g3 h
    refine VW.skip ?_
    refine VW.join (fun (v : Int) => (⟨(tm 24 []), [some (7, [[.sl 1 (rows ci_i64 s.need_), .sl 1 (rows ci_i64 s.price_), .i .i64 s.most_, .i .i64 s.yield_, .i .i64 v, .i .i64 s.first_, .i .i64 s.loss_]])], []⟩ : VS)) (fun v => (g29_j1 (v)).bind some = some r) ?_ ?_
    · refine VW.seq ?_
      refine VW.evalA (C := [(39, F39), (46, F46)]) (tm 24 [(1, .ptr 0 0 0), (4, .i .i64 s.first_)]) [some (7, [(pT30 s)])] [] ⟨.inl ok39, .inl ok46, trivial⟩ (by kernel_rfl) (by first | (simp -implicitDefEqProofs; done) | simp -implicitDefEqProofs [pT30]) ?_
      refine VW.block ?_
      obtain ⟨w_1, hw_1, h⟩ := bindE h
      refine VW.loopO (fun (x : Int × Int) => (⟨(tm 24 [(1, .ptr 0 0 0), (4, .i .i64 x.1)]), [some (7, [[.sl 1 (rows ci_i64 s.need_), .sl 1 (rows ci_i64 s.price_), .i .i64 s.most_, .i .i64 s.yield_, .i .i64 x.2, .i .i64 s.first_, .i .i64 s.loss_]])], []⟩ : VS)) hw_1 (Ent.to 1 (by simp [fgt]) (by first | (simp; done) | simp [pT30]) (by simp) (by simp [bndT, bndV]) (by simp [bndM, bndV])) ?_
      rintro n_1 ⟨k_31, y32⟩ h1
      rw [g29_L1] at h1
      refine VW.seq ?_
      refine VW.seq ?_
      refine VW.evalA (C := [(39, F39), (46, F46)]) (tm 24 [(1, .ptr 0 0 0), (4, .i .i64 k_31), (12, .b (leI k_31 60))]) [some (7, [[.sl 1 (rows ci_i64 s.need_), .sl 1 (rows ci_i64 s.price_), .i .i64 s.most_, .i .i64 s.yield_, .i .i64 y32, .i .i64 s.first_, .i .i64 s.loss_]])] [] ⟨.inl ok39, .inl ok46, trivial⟩ (by kernel_rfl) (by first | (simp -implicitDefEqProofs; done) | simp -implicitDefEqProofs [pT30]) ?_
      refine VW.condB (b := leI k_31 60) (by simp) (fun g33 => ?_) (fun g33 => ?_)
      · replace h1 := iteT g33 h1
        refine VW.skip ?_
        refine VW.seq ?_
        refine VW.block ?_
        refine VW.seq ?_
        refine VW.evalA (C := [(39, F39), (46, F46)]) (tm 24 [(1, .ptr 0 0 0), (4, .i .i64 k_31)]) [some (7, [[.sl 1 (rows ci_i64 s.need_), .sl 1 (rows ci_i64 s.price_), .i .i64 s.most_, .i .i64 s.yield_, .i .i64 k_31, .i .i64 s.first_, .i .i64 s.loss_]])] [] ⟨.inl ok39, .inl ok46, trivial⟩ (by kernel_rfl) (by first | (simp -implicitDefEqProofs; done) | simp -implicitDefEqProofs [pT30]) ?_
        refine VW.seq ?_
        obtain ⟨r34, q35, h1⟩ := bindE h1
        have c35 : F46 [.cptr [.sl 1 (rows ci_i64 ((⟨s.need_, s.price_, s.most_, s.yield_, k_31, s.first_, s.loss_⟩ : T30).need_)), .sl 1 (rows ci_i64 ((⟨s.need_, s.price_, s.most_, s.yield_, k_31, s.first_, s.loss_⟩ : T30).price_)), .i .i64 ((⟨s.need_, s.price_, s.most_, s.yield_, k_31, s.first_, s.loss_⟩ : T30).most_), .i .i64 ((⟨s.need_, s.price_, s.most_, s.yield_, k_31, s.first_, s.loss_⟩ : T30).yield_), .i .i64 ((⟨s.need_, s.price_, s.most_, s.yield_, k_31, s.first_, s.loss_⟩ : T30).store_), .i .i64 ((⟨s.need_, s.price_, s.most_, s.yield_, k_31, s.first_, s.loss_⟩ : T30).first_), .i .i64 ((⟨s.need_, s.price_, s.most_, s.yield_, k_31, s.first_, s.loss_⟩ : T30).loss_)] 0] = some (.tup [.own 1 (rows ci_i64 r34.1), .i .i64 r34.2]) := tells_eq inj46 (a := (⟨s.need_, s.price_, s.most_, s.yield_, k_31, s.first_, s.loss_⟩ : T30)) q35
        refine VW.evalA (C := [(39, F39), (46, F46)]) (tm 24 [(1, .ptr 0 0 0), (4, .i .i64 k_31), (6, .i .i64 r34.2)]) [some (7, [[.sl 1 (rows ci_i64 s.need_), .sl 1 (rows ci_i64 s.price_), .i .i64 s.most_, .i .i64 s.yield_, .i .i64 k_31, .i .i64 s.first_, .i .i64 s.loss_]]), some (1, rows ci_i64 r34.1)] [] ⟨.inl ok39, .inl ok46, trivial⟩ (by kernel_rfl) (by first | (simp -implicitDefEqProofs [c35]; done) | simp -implicitDefEqProofs [c35, pT30]) ?_
        refine VW.seq ?_
        refine VW.evalA (C := [(39, F39), (46, F46)]) (tm 24 [(1, .ptr 0 0 0), (4, .i .i64 k_31), (22, .b (!eqI r34.2 (-1)))]) [some (7, [[.sl 1 (rows ci_i64 s.need_), .sl 1 (rows ci_i64 s.price_), .i .i64 s.most_, .i .i64 s.yield_, .i .i64 k_31, .i .i64 s.first_, .i .i64 s.loss_]]), some (1, rows ci_i64 r34.1)] [] ⟨.inl ok39, .inl ok46, trivial⟩ (by kernel_rfl) (by first | (simp -implicitDefEqProofs; done) | simp -implicitDefEqProofs [pT30]) ?_
        refine VW.condB (b := (!eqI r34.2 (-1))) (by simp) (fun g36 => ?_) (fun g36 => ?_)
        · replace h1 := iteT g36 h1
          refine VW.seq ?_
          refine VW.evalA (C := [(39, F39), (46, F46)]) (tm 24 [(2, .i .i64 k_31), (3, .i .i64 0)]) [some (7, [[.sl 1 (rows ci_i64 s.need_), .sl 1 (rows ci_i64 s.price_), .i .i64 s.most_, .i .i64 s.yield_, .i .i64 k_31, .i .i64 s.first_, .i .i64 s.loss_]]), some (1, rows ci_i64 r34.1)] [] ⟨.inl ok39, .inl ok46, trivial⟩ (by kernel_rfl) (by first | (simp -implicitDefEqProofs; done) | simp -implicitDefEqProofs [pT30]) ?_
          have e_ := leafR h1
          subst w_1
          obtain rfl := leafS h
          refine VW.ret (VRet.fin ?_)
          first | (simp [eB29]; done) | simp [eB29, pT30]
        · replace h1 := iteF g36 h1
          refine VW.skip ?_
          refine VW.evalA (C := [(39, F39), (46, F46)]) (tm 24 [(1, .ptr 0 0 0), (4, .i .i64 (aI .i64 k_31 1))]) [some (7, [[.sl 1 (rows ci_i64 s.need_), .sl 1 (rows ci_i64 s.price_), .i .i64 s.most_, .i .i64 s.yield_, .i .i64 k_31, .i .i64 s.first_, .i .i64 s.loss_]]), some (1, rows ci_i64 r34.1)] [] ⟨.inl ok39, .inl ok46, trivial⟩ (by kernel_rfl) (by first | (simp -implicitDefEqProofs; done) | simp -implicitDefEqProofs [pT30]) ?_
          exact (show ∃ _, _ from ⟨(aI .i64 k_31 1, k_31), leafL h1, (Ent.to 1 (by simp [fgt]) (by first | (simp; done) | simp [pT30]) (by simp) (by simp [bndT, bndV]) (by simp [bndM, bndV]))⟩)
      · replace h1 := iteF g33 h1
        refine VW.exit ?_
        have e_ := leafR h1
        subst w_1
        exact (show ∃ _, _ from ⟨y32, h, (Ent.to 1 (by simp [fgt]) (by first | (simp; done) | simp [pT30]) (by simp) (by simp [bndT, bndV]) (by simp [bndM, bndV]))⟩)
    · rintro y20 h
      replace h : (g29_j1 y20).bind _ = _ := h
      rw [g29_j1] at h
      refine VW.seq ?_
      refine VW.evalA (C := [(39, F39), (46, F46)]) (tm 24 [(2, .i .i64 0), (3, .i .i64 6)]) [some (7, [[.sl 1 (rows ci_i64 s.need_), .sl 1 (rows ci_i64 s.price_), .i .i64 s.most_, .i .i64 s.yield_, .i .i64 y20, .i .i64 s.first_, .i .i64 s.loss_]])] [] ⟨.inl ok39, .inl ok46, trivial⟩ (by kernel_rfl) (by first | (simp -implicitDefEqProofs; done) | simp -implicitDefEqProofs [pT30]) ?_
      obtain rfl := leafS h
      refine VW.ret (VRet.fin ?_)
      first | (simp [eB29]; done) | simp [eB29, pT30]
noncomputable def g6 (code : List Int) (more_ : List Int) : Option (Bool) :=
  (g22 code more_).bind fun r1 =>
  if r1 = true then
    some true
  else
    (g23 code).bind fun r4 =>
    (g24 more_ 0 (r4.need_.length : Int)).bind fun r6 =>
    (g25 r4 r6).bind fun r8 =>
    (g26 r4 r6).bind fun r10 =>
    (g27 r4).bind fun r12 =>
    (appK 8 [] r4.need_).bind fun u14 =>
    (idx r4.need_ r6).bind fun e16 =>
    (g27 (⟨(r4.need_.set r6.toNat (aI .i64 e16 1)), r4.price_, r4.most_, r4.yield_, r4.store_, r4.first_, r4.loss_⟩ : T30)).bind fun r18 =>
    if ((!eqI r8.2 r10.2) || (!eqI r8.1 r10.1)) = true then
      some false
    else
      if (((eqI r8.2 0 && ((((!eqI r12.2.2 0) || (!eqI r18.2.2 0)) || (!eqI (sI .i64 r18.2.1 r12.2.1) r10.1)) || ltI r10.1 0)) || (eqI r8.2 6 && (!eqI r12.2.2 6))) || (eqI r8.2 4 && ((!eqI r12.2.2 0) || (!eqI r18.2.2 6)))) = true then
        some false
      else
        (g28 r4).bind fun r22 =>
        (g29 r4).bind fun r24 =>
        if ((!eqI r22.2 r24.2) || (!eqI r22.1 r24.1)) = true then
          some false
        else
          if (!eqI r22.2 0) = true then
            some (eqI r22.2 6 && eqI r12.2.2 6)
          else
            (g27 (⟨r4.need_, r4.price_, r4.most_, r4.yield_, r24.1, r4.first_, r4.loss_⟩ : T30)).bind fun r28 =>
            if (!eqI r28.2.2 0) = true then
              some false
            else
              if ltI r4.first_ r24.1 = true then
                (g27 (⟨r4.need_, r4.price_, r4.most_, r4.yield_, sI .i64 r24.1 1, r4.first_, r4.loss_⟩ : T30)).bind fun r32 =>
                some (eqI r32.2.2 6)
              else
                some true
def eA6 (a : (List Int) × (List Int)) : List V := [.sl 1 (rows ci_u8 a.1), .sl 1 (rows ci_u8 a.2)]
def eB6 (r : Bool) : V := .b r
theorem inj6 (a a' : (List Int) × (List Int)) (h : eA6 a = eA6 a') : a = a' := by
  obtain ⟨i241, i242⟩ := a
  obtain ⟨i243, i244⟩ := a'
  simp only [eA6, List.cons.injEq, V.i.injEq, V.b.injEq, V.f.injEq, V.str.injEq, V.sl.injEq, V.agg.injEq, V.cptr.injEq, true_and, and_true] at h
  simp_all [ri ci_u8_inj]
noncomputable def F6 : List V → Option V := tells (fun a => g6 a.1 a.2) eA6 eB6
set_option maxRecDepth 100000 in
set_option maxHeartbeats 4000000 in
/- loop.example/g01229/laws.FnMargins -/
theorem ok6 : Tells Try.prog 6 F6 := by
  refine Tells.of (by kernel_rfl) ?_
  rintro ⟨code, more_⟩ r h
  refine VCalls.nl (VCalls.of Try.func6 rfl rfl rfl ?_)
  rw [tm_init]
  simp only [eA6, en, List.length_cons, List.length_nil, Nat.reduceAdd, Nat.reduceSub]
  replace h : (g6 code more_).bind some = some r := bindS h
  rw [g6] at h
  refine VW.seq ?_
  refine VW.evalA (C := [(22, F22), (23, F23), (24, F24), (25, F25), (26, F26), (27, F27), (28, F28), (29, F29)]) (tm 177 [(0, .sl 1 (rows ci_u8 code)), (1, .sl 1 (rows ci_u8 more_))]) [] [] ⟨.inl ok22, .inl ok23, .inl ok24, .inl ok25, .inl ok26, .inl ok27, .inl ok28, .inl ok29, trivial⟩ (by kernel_rfl) (by simp -implicitDefEqProofs) ?_
  refine VW.seq ?_
  refine VW.seq ?_
  obtain ⟨r1, q2, h⟩ := bindE h
  have c2 : F22 [.sl 1 (rows ci_u8 code), .sl 1 (rows ci_u8 more_)] = some (.b r1) := tells_eq inj22 (a := (code, more_)) q2
  refine VW.evalA (C := [(22, F22), (23, F23), (24, F24), (25, F25), (26, F26), (27, F27), (28, F28), (29, F29)]) (tm 177 [(0, .sl 1 (rows ci_u8 code)), (1, .sl 1 (rows ci_u8 more_)), (31, .b r1)]) [] [] ⟨.inl ok22, .inl ok23, .inl ok24, .inl ok25, .inl ok26, .inl ok27, .inl ok28, .inl ok29, trivial⟩ (by kernel_rfl) (by simp -implicitDefEqProofs [c2]) ?_
  refine VW.condB (b := r1) (by simp) (fun g3 => ?_) (fun g3 => ?_)
  · replace h := iteT g3 h
    refine VW.seq ?_
    refine VW.evalA (C := [(22, F22), (23, F23), (24, F24), (25, F25), (26, F26), (27, F27), (28, F28), (29, F29)]) (tm 177 [(4, .b true)]) [] [] ⟨.inl ok22, .inl ok23, .inl ok24, .inl ok25, .inl ok26, .inl ok27, .inl ok28, .inl ok29, trivial⟩ (by kernel_rfl) (by simp -implicitDefEqProofs) ?_
    obtain rfl := leafS h
    refine VW.ret (VRet.fin ?_)
    simp [eB6]
  · replace h := iteF g3 h
    refine VW.skip ?_
    refine VW.seq ?_
    obtain ⟨r4, q5, h⟩ := bindE h
    have c5 : F23 [.sl 1 (rows ci_u8 code)] = some (.agg [.own 1 (rows ci_i64 r4.need_), .own 1 (rows ci_i64 r4.price_), .i .i64 r4.most_, .i .i64 r4.yield_, .i .i64 r4.store_, .i .i64 r4.first_, .i .i64 r4.loss_]) := tells_eq inj23 (a := code) q5
    refine VW.evalA (C := [(22, F22), (23, F23), (24, F24), (25, F25), (26, F26), (27, F27), (28, F28), (29, F29)]) (tm 177 [(1, .sl 1 (rows ci_u8 more_)), (5, .ptr 2 0 0)]) [some (1, rows ci_i64 r4.need_), some (1, rows ci_i64 r4.price_), some (7, [[.ref 0 0 r4.need_.length, .ref 1 0 r4.price_.length, .i .i64 r4.most_, .i .i64 r4.yield_, .i .i64 r4.store_, .i .i64 r4.first_, .i .i64 r4.loss_]])] [] ⟨.inl ok22, .inl ok23, .inl ok24, .inl ok25, .inl ok26, .inl ok27, .inl ok28, .inl ok29, trivial⟩ (by kernel_rfl) (by simp -implicitDefEqProofs [c5]) ?_
    refine VW.seq ?_
    obtain ⟨r6, q7, h⟩ := bindE h
    have c7 : F24 [.sl 1 (rows ci_u8 more_), .i .i64 0, .i .i64 (r4.need_.length : Int)] = some (.i .i64 r6) := tells_eq inj24 (a := (more_, 0, (r4.need_.length : Int))) q7
    refine VW.evalA (C := [(22, F22), (23, F23), (24, F24), (25, F25), (26, F26), (27, F27), (28, F28), (29, F29)]) (tm 177 [(5, .ptr 2 0 0), (6, .i .i64 r6)]) [some (1, rows ci_i64 r4.need_), some (1, rows ci_i64 r4.price_), some (7, [[.ref 0 0 r4.need_.length, .ref 1 0 r4.price_.length, .i .i64 r4.most_, .i .i64 r4.yield_, .i .i64 r4.store_, .i .i64 r4.first_, .i .i64 r4.loss_]])] [] ⟨.inl ok22, .inl ok23, .inl ok24, .inl ok25, .inl ok26, .inl ok27, .inl ok28, .inl ok29, trivial⟩ (by kernel_rfl) (by simp -implicitDefEqProofs [c7]) ?_
    refine VW.seq ?_
    obtain ⟨r8, q9, h⟩ := bindE h
    have c9 : F25 [.agg [.sl 1 (rows ci_i64 r4.need_), .sl 1 (rows ci_i64 r4.price_), .i .i64 r4.most_, .i .i64 r4.yield_, .i .i64 r4.store_, .i .i64 r4.first_, .i .i64 r4.loss_], .i .i64 r6] = some (.tup [.i .i64 r8.1, .i .i64 r8.2]) := tells_eq inj25 (a := (r4, r6)) q9
    refine VW.evalA (C := [(22, F22), (23, F23), (24, F24), (25, F25), (26, F26), (27, F27), (28, F28), (29, F29)]) (tm 177 [(5, .ptr 2 0 0), (6, .i .i64 r6), (7, .i .i64 r8.1), (8, .i .i64 r8.2)]) [some (1, rows ci_i64 r4.need_), some (1, rows ci_i64 r4.price_), some (7, [[.ref 0 0 r4.need_.length, .ref 1 0 r4.price_.length, .i .i64 r4.most_, .i .i64 r4.yield_, .i .i64 r4.store_, .i .i64 r4.first_, .i .i64 r4.loss_]])] [] ⟨.inl ok22, .inl ok23, .inl ok24, .inl ok25, .inl ok26, .inl ok27, .inl ok28, .inl ok29, trivial⟩ (by kernel_rfl) (by simp -implicitDefEqProofs [c9]) ?_
    refine VW.seq ?_
    obtain ⟨r10, q11, h⟩ := bindE h
    have c11 : F26 [.agg [.sl 1 (rows ci_i64 r4.need_), .sl 1 (rows ci_i64 r4.price_), .i .i64 r4.most_, .i .i64 r4.yield_, .i .i64 r4.store_, .i .i64 r4.first_, .i .i64 r4.loss_], .i .i64 r6] = some (.tup [.i .i64 r10.1, .i .i64 r10.2]) := tells_eq inj26 (a := (r4, r6)) q11
    refine VW.evalA (C := [(22, F22), (23, F23), (24, F24), (25, F25), (26, F26), (27, F27), (28, F28), (29, F29)]) (tm 177 [(5, .ptr 2 0 0), (6, .i .i64 r6), (7, .i .i64 r8.1), (8, .i .i64 r8.2), (9, .i .i64 r10.1), (10, .i .i64 r10.2)]) [some (1, rows ci_i64 r4.need_), some (1, rows ci_i64 r4.price_), some (7, [[.ref 0 0 r4.need_.length, .ref 1 0 r4.price_.length, .i .i64 r4.most_, .i .i64 r4.yield_, .i .i64 r4.store_, .i .i64 r4.first_, .i .i64 r4.loss_]])] [] ⟨.inl ok22, .inl ok23, .inl ok24, .inl ok25, .inl ok26, .inl ok27, .inl ok28, .inl ok29, trivial⟩ (by kernel_rfl) (by simp -implicitDefEqProofs [c11]) ?_
    refine VW.seq ?_
    obtain ⟨r12, q13, h⟩ := bindE h
    have c13 : F27 [.agg [.sl 1 (rows ci_i64 r4.need_), .sl 1 (rows ci_i64 r4.price_), .i .i64 r4.most_, .i .i64 r4.yield_, .i .i64 r4.store_, .i .i64 r4.first_, .i .i64 r4.loss_]] = some (.tup [.own 1 (rows ci_i64 r12.1), .i .i64 r12.2.1, .i .i64 r12.2.2]) := tells_eq inj27 (a := r4) q13
    refine VW.evalA (C := [(22, F22), (23, F23), (24, F24), (25, F25), (26, F26), (27, F27), (28, F28), (29, F29)]) (tm 177 [(5, .ptr 2 0 0), (6, .i .i64 r6), (7, .i .i64 r8.1), (8, .i .i64 r8.2), (9, .i .i64 r10.1), (10, .i .i64 r10.2), (12, .i .i64 r12.2.1), (13, .i .i64 r12.2.2)]) [some (1, rows ci_i64 r4.need_), some (1, rows ci_i64 r4.price_), some (7, [[.ref 0 0 r4.need_.length, .ref 1 0 r4.price_.length, .i .i64 r4.most_, .i .i64 r4.yield_, .i .i64 r4.store_, .i .i64 r4.first_, .i .i64 r4.loss_]]), some (1, rows ci_i64 r12.1)] [] ⟨.inl ok22, .inl ok23, .inl ok24, .inl ok25, .inl ok26, .inl ok27, .inl ok28, .inl ok29, trivial⟩ (by kernel_rfl) (by simp -implicitDefEqProofs [c13]) ?_
    refine VW.seq ?_
    refine VW.evalA (C := [(22, F22), (23, F23), (24, F24), (25, F25), (26, F26), (27, F27), (28, F28), (29, F29)]) (tm 177 [(5, .ptr 2 0 0), (6, .i .i64 r6), (7, .i .i64 r8.1), (8, .i .i64 r8.2), (9, .i .i64 r10.1), (10, .i .i64 r10.2), (12, .i .i64 r12.2.1), (13, .i .i64 r12.2.2), (14, .ptr 4 0 0)]) [some (1, rows ci_i64 r4.need_), some (1, rows ci_i64 r4.price_), some (7, [[.ref 0 0 r4.need_.length, .ref 1 0 r4.price_.length, .i .i64 r4.most_, .i .i64 r4.yield_, .i .i64 r4.store_, .i .i64 r4.first_, .i .i64 r4.loss_]]), some (1, rows ci_i64 r12.1), some (7, [[.ref 0 0 r4.need_.length, .ref 1 0 r4.price_.length, .i .i64 r4.most_, .i .i64 r4.yield_, .i .i64 r4.store_, .i .i64 r4.first_, .i .i64 r4.loss_]])] [] ⟨.inl ok22, .inl ok23, .inl ok24, .inl ok25, .inl ok26, .inl ok27, .inl ok28, .inl ok29, trivial⟩ (by kernel_rfl) (by simp -implicitDefEqProofs) ?_
    refine VW.seq ?_
    obtain ⟨u14, q15, h⟩ := bindE h
    obtain ⟨f15a, f15b⟩ := appK_some q15
    try simp only [Int.toNat_natCast, Int.reduceToNat, List.length_cons, List.length_nil, Nat.reduceAdd, Nat.zero_add] at f15a f15b
    refine VW.evalA (C := [(22, F22), (23, F23), (24, F24), (25, F25), (26, F26), (27, F27), (28, F28), (29, F29)]) (tm 177 [(5, .ptr 2 0 0), (6, .i .i64 r6), (7, .i .i64 r8.1), (8, .i .i64 r8.2), (9, .i .i64 r10.1), (10, .i .i64 r10.2), (12, .i .i64 r12.2.1), (13, .i .i64 r12.2.2), (14, .ptr 4 0 0)]) [some (1, rows ci_i64 r4.need_), some (1, rows ci_i64 r4.price_), some (7, [[.ref 0 0 r4.need_.length, .ref 1 0 r4.price_.length, .i .i64 r4.most_, .i .i64 r4.yield_, .i .i64 r4.store_, .i .i64 r4.first_, .i .i64 r4.loss_]]), some (1, rows ci_i64 r12.1), some (7, [[.ref 5 0 r4.need_.length, .ref 1 0 r4.price_.length, .i .i64 r4.most_, .i .i64 r4.yield_, .i .i64 r4.store_, .i .i64 r4.first_, .i .i64 r4.loss_]]), some (1, rows ci_i64 r4.need_)] [] ⟨.inl ok22, .inl ok23, .inl ok24, .inl ok25, .inl ok26, .inl ok27, .inl ok28, .inl ok29, trivial⟩ (by kernel_rfl) (by simp -implicitDefEqProofs [f15a, f15b]) ?_
    refine VW.seq ?_
    obtain ⟨e16, q17, h⟩ := bindE h
    obtain ⟨f17a, f17b, f17c, f17d⟩ := idx_some q17
    refine VW.evalA (C := [(22, F22), (23, F23), (24, F24), (25, F25), (26, F26), (27, F27), (28, F28), (29, F29)]) (tm 177 [(5, .ptr 2 0 0), (7, .i .i64 r8.1), (8, .i .i64 r8.2), (9, .i .i64 r10.1), (10, .i .i64 r10.2), (12, .i .i64 r12.2.1), (13, .i .i64 r12.2.2), (14, .ptr 4 0 0)]) [some (1, rows ci_i64 r4.need_), some (1, rows ci_i64 r4.price_), some (7, [[.ref 0 0 r4.need_.length, .ref 1 0 r4.price_.length, .i .i64 r4.most_, .i .i64 r4.yield_, .i .i64 r4.store_, .i .i64 r4.first_, .i .i64 r4.loss_]]), some (1, rows ci_i64 r12.1), some (7, [[.ref 5 0 (r4.need_.set r6.toNat (aI .i64 e16 1)).length, .ref 1 0 r4.price_.length, .i .i64 r4.most_, .i .i64 r4.yield_, .i .i64 r4.store_, .i .i64 r4.first_, .i .i64 r4.loss_]]), some (1, rows ci_i64 (r4.need_.set r6.toNat (aI .i64 e16 1)))] [] ⟨.inl ok22, .inl ok23, .inl ok24, .inl ok25, .inl ok26, .inl ok27, .inl ok28, .inl ok29, trivial⟩ (by kernel_rfl) (by simp -implicitDefEqProofs [f17a, f17b, f17c, f17d]) ?_
    refine VW.seq ?_
    obtain ⟨r18, q19, h⟩ := bindE h
    have c19 : F27 [.agg [.sl 1 (rows ci_i64 ((⟨(r4.need_.set r6.toNat (aI .i64 e16 1)), r4.price_, r4.most_, r4.yield_, r4.store_, r4.first_, r4.loss_⟩ : T30).need_)), .sl 1 (rows ci_i64 ((⟨(r4.need_.set r6.toNat (aI .i64 e16 1)), r4.price_, r4.most_, r4.yield_, r4.store_, r4.first_, r4.loss_⟩ : T30).price_)), .i .i64 ((⟨(r4.need_.set r6.toNat (aI .i64 e16 1)), r4.price_, r4.most_, r4.yield_, r4.store_, r4.first_, r4.loss_⟩ : T30).most_), .i .i64 ((⟨(r4.need_.set r6.toNat (aI .i64 e16 1)), r4.price_, r4.most_, r4.yield_, r4.store_, r4.first_, r4.loss_⟩ : T30).yield_), .i .i64 ((⟨(r4.need_.set r6.toNat (aI .i64 e16 1)), r4.price_, r4.most_, r4.yield_, r4.store_, r4.first_, r4.loss_⟩ : T30).store_), .i .i64 ((⟨(r4.need_.set r6.toNat (aI .i64 e16 1)), r4.price_, r4.most_, r4.yield_, r4.store_, r4.first_, r4.loss_⟩ : T30).first_), .i .i64 ((⟨(r4.need_.set r6.toNat (aI .i64 e16 1)), r4.price_, r4.most_, r4.yield_, r4.store_, r4.first_, r4.loss_⟩ : T30).loss_)]] = some (.tup [.own 1 (rows ci_i64 r18.1), .i .i64 r18.2.1, .i .i64 r18.2.2]) := tells_eq inj27 (a := (⟨(r4.need_.set r6.toNat (aI .i64 e16 1)), r4.price_, r4.most_, r4.yield_, r4.store_, r4.first_, r4.loss_⟩ : T30)) q19
    refine VW.evalA (C := [(22, F22), (23, F23), (24, F24), (25, F25), (26, F26), (27, F27), (28, F28), (29, F29)]) (tm 177 [(5, .ptr 2 0 0), (7, .i .i64 r8.1), (8, .i .i64 r8.2), (9, .i .i64 r10.1), (10, .i .i64 r10.2), (12, .i .i64 r12.2.1), (13, .i .i64 r12.2.2), (16, .i .i64 r18.2.1), (17, .i .i64 r18.2.2)]) [some (1, rows ci_i64 r4.need_), some (1, rows ci_i64 r4.price_), some (7, [[.ref 0 0 r4.need_.length, .ref 1 0 r4.price_.length, .i .i64 r4.most_, .i .i64 r4.yield_, .i .i64 r4.store_, .i .i64 r4.first_, .i .i64 r4.loss_]]), some (1, rows ci_i64 r12.1), some (7, [[.ref 5 0 (r4.need_.set r6.toNat (aI .i64 e16 1)).length, .ref 1 0 r4.price_.length, .i .i64 r4.most_, .i .i64 r4.yield_, .i .i64 r4.store_, .i .i64 r4.first_, .i .i64 r4.loss_]]), some (1, rows ci_i64 (r4.need_.set r6.toNat (aI .i64 e16 1))), some (1, rows ci_i64 r18.1)] [] ⟨.inl ok22, .inl ok23, .inl ok24, .inl ok25, .inl ok26, .inl ok27, .inl ok28, .inl ok29, trivial⟩ (by kernel_rfl) (by simp -implicitDefEqProofs [c19]) ?_
    refine VW.seq ?_
    refine VW.seq ?_
    refine VW.evalA (C := [(22, F22), (23, F23), (24, F24), (25, F25), (26, F26), (27, F27), (28, F28), (29, F29)]) (tm 177 [(5, .ptr 2 0 0), (8, .i .i64 r8.2), (9, .i .i64 r10.1), (12, .i .i64 r12.2.1), (13, .i .i64 r12.2.2), (16, .i .i64 r18.2.1), (17, .i .i64 r18.2.2), (83, .b ((!eqI r8.2 r10.2) || (!eqI r8.1 r10.1)))]) [some (1, rows ci_i64 r4.need_), some (1, rows ci_i64 r4.price_), some (7, [[.ref 0 0 r4.need_.length, .ref 1 0 r4.price_.length, .i .i64 r4.most_, .i .i64 r4.yield_, .i .i64 r4.store_, .i .i64 r4.first_, .i .i64 r4.loss_]]), some (1, rows ci_i64 r12.1), some (7, [[.ref 5 0 (r4.need_.set r6.toNat (aI .i64 e16 1)).length, .ref 1 0 r4.price_.length, .i .i64 r4.most_, .i .i64 r4.yield_, .i .i64 r4.store_, .i .i64 r4.first_, .i .i64 r4.loss_]]), some (1, rows ci_i64 (r4.need_.set r6.toNat (aI .i64 e16 1))), some (1, rows ci_i64 r18.1)] [] ⟨.inl ok22, .inl ok23, .inl ok24, .inl ok25, .inl ok26, .inl ok27, .inl ok28, .inl ok29, trivial⟩ (by kernel_rfl) (by simp -implicitDefEqProofs) ?_
    refine VW.condB (b := ((!eqI r8.2 r10.2) || (!eqI r8.1 r10.1))) (by simp) (fun g20 => ?_) (fun g20 => ?_)
    · replace h := iteT g20 h
      refine VW.seq ?_
      refine VW.evalA (C := [(22, F22), (23, F23), (24, F24), (25, F25), (26, F26), (27, F27), (28, F28), (29, F29)]) (tm 177 [(4, .b false)]) [some (1, rows ci_i64 r4.need_), some (1, rows ci_i64 r4.price_), some (7, [[.ref 0 0 r4.need_.length, .ref 1 0 r4.price_.length, .i .i64 r4.most_, .i .i64 r4.yield_, .i .i64 r4.store_, .i .i64 r4.first_, .i .i64 r4.loss_]]), some (1, rows ci_i64 r12.1), some (7, [[.ref 5 0 (r4.need_.set r6.toNat (aI .i64 e16 1)).length, .ref 1 0 r4.price_.length, .i .i64 r4.most_, .i .i64 r4.yield_, .i .i64 r4.store_, .i .i64 r4.first_, .i .i64 r4.loss_]]), some (1, rows ci_i64 (r4.need_.set r6.toNat (aI .i64 e16 1))), some (1, rows ci_i64 r18.1)] [] ⟨.inl ok22, .inl ok23, .inl ok24, .inl ok25, .inl ok26, .inl ok27, .inl ok28, .inl ok29, trivial⟩ (by kernel_rfl) (by simp -implicitDefEqProofs) ?_
      obtain rfl := leafS h
      refine VW.ret (VRet.fin ?_)
      simp [eB6]
    · replace h := iteF g20 h
      refine VW.skip ?_
      refine VW.seq ?_
      refine VW.seq ?_
      refine VW.evalA (C := [(22, F22), (23, F23), (24, F24), (25, F25), (26, F26), (27, F27), (28, F28), (29, F29)]) (tm 177 [(5, .ptr 2 0 0), (13, .i .i64 r12.2.2), (124, .b (((eqI r8.2 0 && ((((!eqI r12.2.2 0) || (!eqI r18.2.2 0)) || (!eqI (sI .i64 r18.2.1 r12.2.1) r10.1)) || ltI r10.1 0)) || (eqI r8.2 6 && (!eqI r12.2.2 6))) || (eqI r8.2 4 && ((!eqI r12.2.2 0) || (!eqI r18.2.2 6)))))]) [some (1, rows ci_i64 r4.need_), some (1, rows ci_i64 r4.price_), some (7, [[.ref 0 0 r4.need_.length, .ref 1 0 r4.price_.length, .i .i64 r4.most_, .i .i64 r4.yield_, .i .i64 r4.store_, .i .i64 r4.first_, .i .i64 r4.loss_]]), some (1, rows ci_i64 r12.1), some (7, [[.ref 5 0 (r4.need_.set r6.toNat (aI .i64 e16 1)).length, .ref 1 0 r4.price_.length, .i .i64 r4.most_, .i .i64 r4.yield_, .i .i64 r4.store_, .i .i64 r4.first_, .i .i64 r4.loss_]]), some (1, rows ci_i64 (r4.need_.set r6.toNat (aI .i64 e16 1))), some (1, rows ci_i64 r18.1)] [] ⟨.inl ok22, .inl ok23, .inl ok24, .inl ok25, .inl ok26, .inl ok27, .inl ok28, .inl ok29, trivial⟩ (by kernel_rfl) (by simp (maxSteps := 4000000) -implicitDefEqProofs) ?_
      refine VW.condB (b := (((eqI r8.2 0 && ((((!eqI r12.2.2 0) || (!eqI r18.2.2 0)) || (!eqI (sI .i64 r18.2.1 r12.2.1) r10.1)) || ltI r10.1 0)) || (eqI r8.2 6 && (!eqI r12.2.2 6))) || (eqI r8.2 4 && ((!eqI r12.2.2 0) || (!eqI r18.2.2 6))))) (by simp) (fun g21 => ?_) (fun g21 => ?_)
      · replace h := iteT g21 h
        refine VW.seq ?_
        refine VW.evalA (C := [(22, F22), (23, F23), (24, F24), (25, F25), (26, F26), (27, F27), (28, F28), (29, F29)]) (tm 177 [(4, .b false)]) [some (1, rows ci_i64 r4.need_), some (1, rows ci_i64 r4.price_), some (7, [[.ref 0 0 r4.need_.length, .ref 1 0 r4.price_.length, .i .i64 r4.most_, .i .i64 r4.yield_, .i .i64 r4.store_, .i .i64 r4.first_, .i .i64 r4.loss_]]), some (1, rows ci_i64 r12.1), some (7, [[.ref 5 0 (r4.need_.set r6.toNat (aI .i64 e16 1)).length, .ref 1 0 r4.price_.length, .i .i64 r4.most_, .i .i64 r4.yield_, .i .i64 r4.store_, .i .i64 r4.first_, .i .i64 r4.loss_]]), some (1, rows ci_i64 (r4.need_.set r6.toNat (aI .i64 e16 1))), some (1, rows ci_i64 r18.1)] [] ⟨.inl ok22, .inl ok23, .inl ok24, .inl ok25, .inl ok26, .inl ok27, .inl ok28, .inl ok29, trivial⟩ (by kernel_rfl) (by simp -implicitDefEqProofs) ?_
        obtain rfl := leafS h
        refine VW.ret (VRet.fin ?_)
        simp [eB6]
      · replace h := iteF g21 h
        refine VW.skip ?_
        refine VW.seq ?_
        obtain ⟨r22, q23, h⟩ := bindE h
        have c23 : F28 [.agg [.sl 1 (rows ci_i64 r4.need_), .sl 1 (rows ci_i64 r4.price_), .i .i64 r4.most_, .i .i64 r4.yield_, .i .i64 r4.store_, .i .i64 r4.first_, .i .i64 r4.loss_]] = some (.tup [.i .i64 r22.1, .i .i64 r22.2]) := tells_eq inj28 (a := r4) q23
        refine VW.evalA (C := [(22, F22), (23, F23), (24, F24), (25, F25), (26, F26), (27, F27), (28, F28), (29, F29)]) (tm 177 [(5, .ptr 2 0 0), (13, .i .i64 r12.2.2), (18, .i .i64 r22.1), (19, .i .i64 r22.2)]) [some (1, rows ci_i64 r4.need_), some (1, rows ci_i64 r4.price_), some (7, [[.ref 0 0 r4.need_.length, .ref 1 0 r4.price_.length, .i .i64 r4.most_, .i .i64 r4.yield_, .i .i64 r4.store_, .i .i64 r4.first_, .i .i64 r4.loss_]]), some (1, rows ci_i64 r12.1), some (7, [[.ref 5 0 (r4.need_.set r6.toNat (aI .i64 e16 1)).length, .ref 1 0 r4.price_.length, .i .i64 r4.most_, .i .i64 r4.yield_, .i .i64 r4.store_, .i .i64 r4.first_, .i .i64 r4.loss_]]), some (1, rows ci_i64 (r4.need_.set r6.toNat (aI .i64 e16 1))), some (1, rows ci_i64 r18.1)] [] ⟨.inl ok22, .inl ok23, .inl ok24, .inl ok25, .inl ok26, .inl ok27, .inl ok28, .inl ok29, trivial⟩ (by kernel_rfl) (by simp -implicitDefEqProofs [c23]) ?_
        refine VW.seq ?_
        obtain ⟨r24, q25, h⟩ := bindE h
        have c25 : F29 [.agg [.sl 1 (rows ci_i64 r4.need_), .sl 1 (rows ci_i64 r4.price_), .i .i64 r4.most_, .i .i64 r4.yield_, .i .i64 r4.store_, .i .i64 r4.first_, .i .i64 r4.loss_]] = some (.tup [.i .i64 r24.1, .i .i64 r24.2]) := tells_eq inj29 (a := r4) q25
        refine VW.evalA (C := [(22, F22), (23, F23), (24, F24), (25, F25), (26, F26), (27, F27), (28, F28), (29, F29)]) (tm 177 [(5, .ptr 2 0 0), (13, .i .i64 r12.2.2), (18, .i .i64 r22.1), (19, .i .i64 r22.2), (20, .i .i64 r24.1), (21, .i .i64 r24.2)]) [some (1, rows ci_i64 r4.need_), some (1, rows ci_i64 r4.price_), some (7, [[.ref 0 0 r4.need_.length, .ref 1 0 r4.price_.length, .i .i64 r4.most_, .i .i64 r4.yield_, .i .i64 r4.store_, .i .i64 r4.first_, .i .i64 r4.loss_]]), some (1, rows ci_i64 r12.1), some (7, [[.ref 5 0 (r4.need_.set r6.toNat (aI .i64 e16 1)).length, .ref 1 0 r4.price_.length, .i .i64 r4.most_, .i .i64 r4.yield_, .i .i64 r4.store_, .i .i64 r4.first_, .i .i64 r4.loss_]]), some (1, rows ci_i64 (r4.need_.set r6.toNat (aI .i64 e16 1))), some (1, rows ci_i64 r18.1)] [] ⟨.inl ok22, .inl ok23, .inl ok24, .inl ok25, .inl ok26, .inl ok27, .inl ok28, .inl ok29, trivial⟩ (by kernel_rfl) (by simp -implicitDefEqProofs [c25]) ?_
        refine VW.seq ?_
        refine VW.seq ?_
        refine VW.evalA (C := [(22, F22), (23, F23), (24, F24), (25, F25), (26, F26), (27, F27), (28, F28), (29, F29)]) (tm 177 [(5, .ptr 2 0 0), (13, .i .i64 r12.2.2), (19, .i .i64 r22.2), (20, .i .i64 r24.1), (142, .b ((!eqI r22.2 r24.2) || (!eqI r22.1 r24.1)))]) [some (1, rows ci_i64 r4.need_), some (1, rows ci_i64 r4.price_), some (7, [[.ref 0 0 r4.need_.length, .ref 1 0 r4.price_.length, .i .i64 r4.most_, .i .i64 r4.yield_, .i .i64 r4.store_, .i .i64 r4.first_, .i .i64 r4.loss_]]), some (1, rows ci_i64 r12.1), some (7, [[.ref 5 0 (r4.need_.set r6.toNat (aI .i64 e16 1)).length, .ref 1 0 r4.price_.length, .i .i64 r4.most_, .i .i64 r4.yield_, .i .i64 r4.store_, .i .i64 r4.first_, .i .i64 r4.loss_]]), some (1, rows ci_i64 (r4.need_.set r6.toNat (aI .i64 e16 1))), some (1, rows ci_i64 r18.1)] [] ⟨.inl ok22, .inl ok23, .inl ok24, .inl ok25, .inl ok26, .inl ok27, .inl ok28, .inl ok29, trivial⟩ (by kernel_rfl) (by simp -implicitDefEqProofs) ?_
        refine VW.condB (b := ((!eqI r22.2 r24.2) || (!eqI r22.1 r24.1))) (by simp) (fun g26 => ?_) (fun g26 => ?_)
        · replace h := iteT g26 h
          refine VW.seq ?_
          refine VW.evalA (C := [(22, F22), (23, F23), (24, F24), (25, F25), (26, F26), (27, F27), (28, F28), (29, F29)]) (tm 177 [(4, .b false)]) [some (1, rows ci_i64 r4.need_), some (1, rows ci_i64 r4.price_), some (7, [[.ref 0 0 r4.need_.length, .ref 1 0 r4.price_.length, .i .i64 r4.most_, .i .i64 r4.yield_, .i .i64 r4.store_, .i .i64 r4.first_, .i .i64 r4.loss_]]), some (1, rows ci_i64 r12.1), some (7, [[.ref 5 0 (r4.need_.set r6.toNat (aI .i64 e16 1)).length, .ref 1 0 r4.price_.length, .i .i64 r4.most_, .i .i64 r4.yield_, .i .i64 r4.store_, .i .i64 r4.first_, .i .i64 r4.loss_]]), some (1, rows ci_i64 (r4.need_.set r6.toNat (aI .i64 e16 1))), some (1, rows ci_i64 r18.1)] [] ⟨.inl ok22, .inl ok23, .inl ok24, .inl ok25, .inl ok26, .inl ok27, .inl ok28, .inl ok29, trivial⟩ (by kernel_rfl) (by simp -implicitDefEqProofs) ?_
          obtain rfl := leafS h
          refine VW.ret (VRet.fin ?_)
          simp [eB6]
        · replace h := iteF g26 h
          refine VW.skip ?_
          refine VW.seq ?_
          refine VW.seq ?_
          refine VW.evalA (C := [(22, F22), (23, F23), (24, F24), (25, F25), (26, F26), (27, F27), (28, F28), (29, F29)]) (tm 177 [(5, .ptr 2 0 0), (13, .i .i64 r12.2.2), (19, .i .i64 r22.2), (20, .i .i64 r24.1), (144, .b (!eqI r22.2 0))]) [some (1, rows ci_i64 r4.need_), some (1, rows ci_i64 r4.price_), some (7, [[.ref 0 0 r4.need_.length, .ref 1 0 r4.price_.length, .i .i64 r4.most_, .i .i64 r4.yield_, .i .i64 r4.store_, .i .i64 r4.first_, .i .i64 r4.loss_]]), some (1, rows ci_i64 r12.1), some (7, [[.ref 5 0 (r4.need_.set r6.toNat (aI .i64 e16 1)).length, .ref 1 0 r4.price_.length, .i .i64 r4.most_, .i .i64 r4.yield_, .i .i64 r4.store_, .i .i64 r4.first_, .i .i64 r4.loss_]]), some (1, rows ci_i64 (r4.need_.set r6.toNat (aI .i64 e16 1))), some (1, rows ci_i64 r18.1)] [] ⟨.inl ok22, .inl ok23, .inl ok24, .inl ok25, .inl ok26, .inl ok27, .inl ok28, .inl ok29, trivial⟩ (by kernel_rfl) (by simp -implicitDefEqProofs) ?_
          refine VW.condB (b := (!eqI r22.2 0)) (by simp) (fun g27 => ?_) (fun g27 => ?_)
          · replace h := iteT g27 h
            refine VW.seq ?_
            refine VW.evalA (C := [(22, F22), (23, F23), (24, F24), (25, F25), (26, F26), (27, F27), (28, F28), (29, F29)]) (tm 177 [(4, .b (eqI r22.2 6 && eqI r12.2.2 6))]) [some (1, rows ci_i64 r4.need_), some (1, rows ci_i64 r4.price_), some (7, [[.ref 0 0 r4.need_.length, .ref 1 0 r4.price_.length, .i .i64 r4.most_, .i .i64 r4.yield_, .i .i64 r4.store_, .i .i64 r4.first_, .i .i64 r4.loss_]]), some (1, rows ci_i64 r12.1), some (7, [[.ref 5 0 (r4.need_.set r6.toNat (aI .i64 e16 1)).length, .ref 1 0 r4.price_.length, .i .i64 r4.most_, .i .i64 r4.yield_, .i .i64 r4.store_, .i .i64 r4.first_, .i .i64 r4.loss_]]), some (1, rows ci_i64 (r4.need_.set r6.toNat (aI .i64 e16 1))), some (1, rows ci_i64 r18.1)] [] ⟨.inl ok22, .inl ok23, .inl ok24, .inl ok25, .inl ok26, .inl ok27, .inl ok28, .inl ok29, trivial⟩ (by kernel_rfl) (by simp -implicitDefEqProofs) ?_
            obtain rfl := leafS h
            refine VW.ret (VRet.fin ?_)
            simp [eB6]
          · replace h := iteF g27 h
            refine VW.skip ?_
            refine VW.seq ?_
            refine VW.evalA (C := [(22, F22), (23, F23), (24, F24), (25, F25), (26, F26), (27, F27), (28, F28), (29, F29)]) (tm 177 [(5, .ptr 2 0 0), (20, .i .i64 r24.1), (22, .ptr 7 0 0)]) [some (1, rows ci_i64 r4.need_), some (1, rows ci_i64 r4.price_), some (7, [[.ref 0 0 r4.need_.length, .ref 1 0 r4.price_.length, .i .i64 r4.most_, .i .i64 r4.yield_, .i .i64 r4.store_, .i .i64 r4.first_, .i .i64 r4.loss_]]), some (1, rows ci_i64 r12.1), some (7, [[.ref 5 0 (r4.need_.set r6.toNat (aI .i64 e16 1)).length, .ref 1 0 r4.price_.length, .i .i64 r4.most_, .i .i64 r4.yield_, .i .i64 r4.store_, .i .i64 r4.first_, .i .i64 r4.loss_]]), some (1, rows ci_i64 (r4.need_.set r6.toNat (aI .i64 e16 1))), some (1, rows ci_i64 r18.1), some (7, [[.ref 0 0 r4.need_.length, .ref 1 0 r4.price_.length, .i .i64 r4.most_, .i .i64 r4.yield_, .i .i64 r4.store_, .i .i64 r4.first_, .i .i64 r4.loss_]])] [] ⟨.inl ok22, .inl ok23, .inl ok24, .inl ok25, .inl ok26, .inl ok27, .inl ok28, .inl ok29, trivial⟩ (by kernel_rfl) (by simp -implicitDefEqProofs) ?_
            refine VW.seq ?_
            refine VW.evalA (C := [(22, F22), (23, F23), (24, F24), (25, F25), (26, F26), (27, F27), (28, F28), (29, F29)]) (tm 177 [(5, .ptr 2 0 0), (20, .i .i64 r24.1), (22, .ptr 7 0 0)]) [some (1, rows ci_i64 r4.need_), some (1, rows ci_i64 r4.price_), some (7, [[.ref 0 0 r4.need_.length, .ref 1 0 r4.price_.length, .i .i64 r4.most_, .i .i64 r4.yield_, .i .i64 r4.store_, .i .i64 r4.first_, .i .i64 r4.loss_]]), some (1, rows ci_i64 r12.1), some (7, [[.ref 5 0 (r4.need_.set r6.toNat (aI .i64 e16 1)).length, .ref 1 0 r4.price_.length, .i .i64 r4.most_, .i .i64 r4.yield_, .i .i64 r4.store_, .i .i64 r4.first_, .i .i64 r4.loss_]]), some (1, rows ci_i64 (r4.need_.set r6.toNat (aI .i64 e16 1))), some (1, rows ci_i64 r18.1), some (7, [[.ref 0 0 r4.need_.length, .ref 1 0 r4.price_.length, .i .i64 r4.most_, .i .i64 r4.yield_, .i .i64 r24.1, .i .i64 r4.first_, .i .i64 r4.loss_]])] [] ⟨.inl ok22, .inl ok23, .inl ok24, .inl ok25, .inl ok26, .inl ok27, .inl ok28, .inl ok29, trivial⟩ (by kernel_rfl) (by simp -implicitDefEqProofs) ?_
            refine VW.seq ?_
            obtain ⟨r28, q29, h⟩ := bindE h
            have c29 : F27 [.agg [.sl 1 (rows ci_i64 ((⟨r4.need_, r4.price_, r4.most_, r4.yield_, r24.1, r4.first_, r4.loss_⟩ : T30).need_)), .sl 1 (rows ci_i64 ((⟨r4.need_, r4.price_, r4.most_, r4.yield_, r24.1, r4.first_, r4.loss_⟩ : T30).price_)), .i .i64 ((⟨r4.need_, r4.price_, r4.most_, r4.yield_, r24.1, r4.first_, r4.loss_⟩ : T30).most_), .i .i64 ((⟨r4.need_, r4.price_, r4.most_, r4.yield_, r24.1, r4.first_, r4.loss_⟩ : T30).yield_), .i .i64 ((⟨r4.need_, r4.price_, r4.most_, r4.yield_, r24.1, r4.first_, r4.loss_⟩ : T30).store_), .i .i64 ((⟨r4.need_, r4.price_, r4.most_, r4.yield_, r24.1, r4.first_, r4.loss_⟩ : T30).first_), .i .i64 ((⟨r4.need_, r4.price_, r4.most_, r4.yield_, r24.1, r4.first_, r4.loss_⟩ : T30).loss_)]] = some (.tup [.own 1 (rows ci_i64 r28.1), .i .i64 r28.2.1, .i .i64 r28.2.2]) := tells_eq inj27 (a := (⟨r4.need_, r4.price_, r4.most_, r4.yield_, r24.1, r4.first_, r4.loss_⟩ : T30)) q29
            refine VW.evalA (C := [(22, F22), (23, F23), (24, F24), (25, F25), (26, F26), (27, F27), (28, F28), (29, F29)]) (tm 177 [(5, .ptr 2 0 0), (20, .i .i64 r24.1), (22, .ptr 7 0 0), (25, .i .i64 r28.2.2)]) [some (1, rows ci_i64 r4.need_), some (1, rows ci_i64 r4.price_), some (7, [[.ref 0 0 r4.need_.length, .ref 1 0 r4.price_.length, .i .i64 r4.most_, .i .i64 r4.yield_, .i .i64 r4.store_, .i .i64 r4.first_, .i .i64 r4.loss_]]), some (1, rows ci_i64 r12.1), some (7, [[.ref 5 0 (r4.need_.set r6.toNat (aI .i64 e16 1)).length, .ref 1 0 r4.price_.length, .i .i64 r4.most_, .i .i64 r4.yield_, .i .i64 r4.store_, .i .i64 r4.first_, .i .i64 r4.loss_]]), some (1, rows ci_i64 (r4.need_.set r6.toNat (aI .i64 e16 1))), some (1, rows ci_i64 r18.1), some (7, [[.ref 0 0 r4.need_.length, .ref 1 0 r4.price_.length, .i .i64 r4.most_, .i .i64 r4.yield_, .i .i64 r24.1, .i .i64 r4.first_, .i .i64 r4.loss_]]), some (1, rows ci_i64 r28.1)] [] ⟨.inl ok22, .inl ok23, .inl ok24, .inl ok25, .inl ok26, .inl ok27, .inl ok28, .inl ok29, trivial⟩ (by kernel_rfl) (by simp -implicitDefEqProofs [c29]) ?_
            refine VW.seq ?_
            refine VW.seq ?_
            refine VW.evalA (C := [(22, F22), (23, F23), (24, F24), (25, F25), (26, F26), (27, F27), (28, F28), (29, F29)]) (tm 177 [(5, .ptr 2 0 0), (20, .i .i64 r24.1), (22, .ptr 7 0 0), (161, .b (!eqI r28.2.2 0))]) [some (1, rows ci_i64 r4.need_), some (1, rows ci_i64 r4.price_), some (7, [[.ref 0 0 r4.need_.length, .ref 1 0 r4.price_.length, .i .i64 r4.most_, .i .i64 r4.yield_, .i .i64 r4.store_, .i .i64 r4.first_, .i .i64 r4.loss_]]), some (1, rows ci_i64 r12.1), some (7, [[.ref 5 0 (r4.need_.set r6.toNat (aI .i64 e16 1)).length, .ref 1 0 r4.price_.length, .i .i64 r4.most_, .i .i64 r4.yield_, .i .i64 r4.store_, .i .i64 r4.first_, .i .i64 r4.loss_]]), some (1, rows ci_i64 (r4.need_.set r6.toNat (aI .i64 e16 1))), some (1, rows ci_i64 r18.1), some (7, [[.ref 0 0 r4.need_.length, .ref 1 0 r4.price_.length, .i .i64 r4.most_, .i .i64 r4.yield_, .i .i64 r24.1, .i .i64 r4.first_, .i .i64 r4.loss_]]), some (1, rows ci_i64 r28.1)] [] ⟨.inl ok22, .inl ok23, .inl ok24, .inl ok25, .inl ok26, .inl ok27, .inl ok28, .inl ok29, trivial⟩ (by kernel_rfl) (by simp -implicitDefEqProofs) ?_
            refine VW.condB (b := (!eqI r28.2.2 0)) (by simp) (fun g30 => ?_) (fun g30 => ?_)
            · replace h := iteT g30 h
              refine VW.seq ?_
              refine VW.evalA (C := [(22, F22), (23, F23), (24, F24), (25, F25), (26, F26), (27, F27), (28, F28), (29, F29)]) (tm 177 [(4, .b false)]) [some (1, rows ci_i64 r4.need_), some (1, rows ci_i64 r4.price_), some (7, [[.ref 0 0 r4.need_.length, .ref 1 0 r4.price_.length, .i .i64 r4.most_, .i .i64 r4.yield_, .i .i64 r4.store_, .i .i64 r4.first_, .i .i64 r4.loss_]]), some (1, rows ci_i64 r12.1), some (7, [[.ref 5 0 (r4.need_.set r6.toNat (aI .i64 e16 1)).length, .ref 1 0 r4.price_.length, .i .i64 r4.most_, .i .i64 r4.yield_, .i .i64 r4.store_, .i .i64 r4.first_, .i .i64 r4.loss_]]), some (1, rows ci_i64 (r4.need_.set r6.toNat (aI .i64 e16 1))), some (1, rows ci_i64 r18.1), some (7, [[.ref 0 0 r4.need_.length, .ref 1 0 r4.price_.length, .i .i64 r4.most_, .i .i64 r4.yield_, .i .i64 r24.1, .i .i64 r4.first_, .i .i64 r4.loss_]]), some (1, rows ci_i64 r28.1)] [] ⟨.inl ok22, .inl ok23, .inl ok24, .inl ok25, .inl ok26, .inl ok27, .inl ok28, .inl ok29, trivial⟩ (by kernel_rfl) (by simp -implicitDefEqProofs) ?_
              obtain rfl := leafS h
              refine VW.ret (VRet.fin ?_)
              simp [eB6]
            · replace h := iteF g30 h
              refine VW.skip ?_
              refine VW.seq ?_
              refine VW.seq ?_
              refine VW.evalA (C := [(22, F22), (23, F23), (24, F24), (25, F25), (26, F26), (27, F27), (28, F28), (29, F29)]) (tm 177 [(20, .i .i64 r24.1), (22, .ptr 7 0 0), (165, .b (ltI r4.first_ r24.1))]) [some (1, rows ci_i64 r4.need_), some (1, rows ci_i64 r4.price_), some (7, [[.ref 0 0 r4.need_.length, .ref 1 0 r4.price_.length, .i .i64 r4.most_, .i .i64 r4.yield_, .i .i64 r4.store_, .i .i64 r4.first_, .i .i64 r4.loss_]]), some (1, rows ci_i64 r12.1), some (7, [[.ref 5 0 (r4.need_.set r6.toNat (aI .i64 e16 1)).length, .ref 1 0 r4.price_.length, .i .i64 r4.most_, .i .i64 r4.yield_, .i .i64 r4.store_, .i .i64 r4.first_, .i .i64 r4.loss_]]), some (1, rows ci_i64 (r4.need_.set r6.toNat (aI .i64 e16 1))), some (1, rows ci_i64 r18.1), some (7, [[.ref 0 0 r4.need_.length, .ref 1 0 r4.price_.length, .i .i64 r4.most_, .i .i64 r4.yield_, .i .i64 r24.1, .i .i64 r4.first_, .i .i64 r4.loss_]]), some (1, rows ci_i64 r28.1)] [] ⟨.inl ok22, .inl ok23, .inl ok24, .inl ok25, .inl ok26, .inl ok27, .inl ok28, .inl ok29, trivial⟩ (by kernel_rfl) (by simp -implicitDefEqProofs) ?_
              refine VW.condB (b := ltI r4.first_ r24.1) (by simp) (fun g31 => ?_) (fun g31 => ?_)
              · replace h := iteT g31 h
                refine VW.seq ?_
                refine VW.evalA (C := [(22, F22), (23, F23), (24, F24), (25, F25), (26, F26), (27, F27), (28, F28), (29, F29)]) (tm 177 [(22, .ptr 7 0 0)]) [some (1, rows ci_i64 r4.need_), some (1, rows ci_i64 r4.price_), some (7, [[.ref 0 0 r4.need_.length, .ref 1 0 r4.price_.length, .i .i64 r4.most_, .i .i64 r4.yield_, .i .i64 r4.store_, .i .i64 r4.first_, .i .i64 r4.loss_]]), some (1, rows ci_i64 r12.1), some (7, [[.ref 5 0 (r4.need_.set r6.toNat (aI .i64 e16 1)).length, .ref 1 0 r4.price_.length, .i .i64 r4.most_, .i .i64 r4.yield_, .i .i64 r4.store_, .i .i64 r4.first_, .i .i64 r4.loss_]]), some (1, rows ci_i64 (r4.need_.set r6.toNat (aI .i64 e16 1))), some (1, rows ci_i64 r18.1), some (7, [[.ref 0 0 r4.need_.length, .ref 1 0 r4.price_.length, .i .i64 r4.most_, .i .i64 r4.yield_, .i .i64 (sI .i64 r24.1 1), .i .i64 r4.first_, .i .i64 r4.loss_]]), some (1, rows ci_i64 r28.1)] [] ⟨.inl ok22, .inl ok23, .inl ok24, .inl ok25, .inl ok26, .inl ok27, .inl ok28, .inl ok29, trivial⟩ (by kernel_rfl) (by simp -implicitDefEqProofs) ?_
                refine VW.seq ?_
                obtain ⟨r32, q33, h⟩ := bindE h
                have c33 : F27 [.agg [.sl 1 (rows ci_i64 ((⟨r4.need_, r4.price_, r4.most_, r4.yield_, sI .i64 r24.1 1, r4.first_, r4.loss_⟩ : T30).need_)), .sl 1 (rows ci_i64 ((⟨r4.need_, r4.price_, r4.most_, r4.yield_, sI .i64 r24.1 1, r4.first_, r4.loss_⟩ : T30).price_)), .i .i64 ((⟨r4.need_, r4.price_, r4.most_, r4.yield_, sI .i64 r24.1 1, r4.first_, r4.loss_⟩ : T30).most_), .i .i64 ((⟨r4.need_, r4.price_, r4.most_, r4.yield_, sI .i64 r24.1 1, r4.first_, r4.loss_⟩ : T30).yield_), .i .i64 ((⟨r4.need_, r4.price_, r4.most_, r4.yield_, sI .i64 r24.1 1, r4.first_, r4.loss_⟩ : T30).store_), .i .i64 ((⟨r4.need_, r4.price_, r4.most_, r4.yield_, sI .i64 r24.1 1, r4.first_, r4.loss_⟩ : T30).first_), .i .i64 ((⟨r4.need_, r4.price_, r4.most_, r4.yield_, sI .i64 r24.1 1, r4.first_, r4.loss_⟩ : T30).loss_)]] = some (.tup [.own 1 (rows ci_i64 r32.1), .i .i64 r32.2.1, .i .i64 r32.2.2]) := tells_eq inj27 (a := (⟨r4.need_, r4.price_, r4.most_, r4.yield_, sI .i64 r24.1 1, r4.first_, r4.loss_⟩ : T30)) q33
                refine VW.evalA (C := [(22, F22), (23, F23), (24, F24), (25, F25), (26, F26), (27, F27), (28, F28), (29, F29)]) (tm 177 [(28, .i .i64 r32.2.2)]) [some (1, rows ci_i64 r4.need_), some (1, rows ci_i64 r4.price_), some (7, [[.ref 0 0 r4.need_.length, .ref 1 0 r4.price_.length, .i .i64 r4.most_, .i .i64 r4.yield_, .i .i64 r4.store_, .i .i64 r4.first_, .i .i64 r4.loss_]]), some (1, rows ci_i64 r12.1), some (7, [[.ref 5 0 (r4.need_.set r6.toNat (aI .i64 e16 1)).length, .ref 1 0 r4.price_.length, .i .i64 r4.most_, .i .i64 r4.yield_, .i .i64 r4.store_, .i .i64 r4.first_, .i .i64 r4.loss_]]), some (1, rows ci_i64 (r4.need_.set r6.toNat (aI .i64 e16 1))), some (1, rows ci_i64 r18.1), some (7, [[.ref 0 0 r4.need_.length, .ref 1 0 r4.price_.length, .i .i64 r4.most_, .i .i64 r4.yield_, .i .i64 (sI .i64 r24.1 1), .i .i64 r4.first_, .i .i64 r4.loss_]]), some (1, rows ci_i64 r28.1), some (1, rows ci_i64 r32.1)] [] ⟨.inl ok22, .inl ok23, .inl ok24, .inl ok25, .inl ok26, .inl ok27, .inl ok28, .inl ok29, trivial⟩ (by kernel_rfl) (by simp -implicitDefEqProofs [c33]) ?_
                refine VW.seq ?_
                refine VW.evalA (C := [(22, F22), (23, F23), (24, F24), (25, F25), (26, F26), (27, F27), (28, F28), (29, F29)]) (tm 177 [(4, .b (eqI r32.2.2 6))]) [some (1, rows ci_i64 r4.need_), some (1, rows ci_i64 r4.price_), some (7, [[.ref 0 0 r4.need_.length, .ref 1 0 r4.price_.length, .i .i64 r4.most_, .i .i64 r4.yield_, .i .i64 r4.store_, .i .i64 r4.first_, .i .i64 r4.loss_]]), some (1, rows ci_i64 r12.1), some (7, [[.ref 5 0 (r4.need_.set r6.toNat (aI .i64 e16 1)).length, .ref 1 0 r4.price_.length, .i .i64 r4.most_, .i .i64 r4.yield_, .i .i64 r4.store_, .i .i64 r4.first_, .i .i64 r4.loss_]]), some (1, rows ci_i64 (r4.need_.set r6.toNat (aI .i64 e16 1))), some (1, rows ci_i64 r18.1), some (7, [[.ref 0 0 r4.need_.length, .ref 1 0 r4.price_.length, .i .i64 r4.most_, .i .i64 r4.yield_, .i .i64 (sI .i64 r24.1 1), .i .i64 r4.first_, .i .i64 r4.loss_]]), some (1, rows ci_i64 r28.1), some (1, rows ci_i64 r32.1)] [] ⟨.inl ok22, .inl ok23, .inl ok24, .inl ok25, .inl ok26, .inl ok27, .inl ok28, .inl ok29, trivial⟩ (by kernel_rfl) (by simp -implicitDefEqProofs) ?_
                obtain rfl := leafS h
                refine VW.ret (VRet.fin ?_)
                simp [eB6]
              · replace h := iteF g31 h
                refine VW.skip ?_
                refine VW.seq ?_
                refine VW.evalA (C := [(22, F22), (23, F23), (24, F24), (25, F25), (26, F26), (27, F27), (28, F28), (29, F29)]) (tm 177 [(4, .b true)]) [some (1, rows ci_i64 r4.need_), some (1, rows ci_i64 r4.price_), some (7, [[.ref 0 0 r4.need_.length, .ref 1 0 r4.price_.length, .i .i64 r4.most_, .i .i64 r4.yield_, .i .i64 r4.store_, .i .i64 r4.first_, .i .i64 r4.loss_]]), some (1, rows ci_i64 r12.1), some (7, [[.ref 5 0 (r4.need_.set r6.toNat (aI .i64 e16 1)).length, .ref 1 0 r4.price_.length, .i .i64 r4.most_, .i .i64 r4.yield_, .i .i64 r4.store_, .i .i64 r4.first_, .i .i64 r4.loss_]]), some (1, rows ci_i64 (r4.need_.set r6.toNat (aI .i64 e16 1))), some (1, rows ci_i64 r18.1), some (7, [[.ref 0 0 r4.need_.length, .ref 1 0 r4.price_.length, .i .i64 r4.most_, .i .i64 r4.yield_, .i .i64 r24.1, .i .i64 r4.first_, .i .i64 r4.loss_]]), some (1, rows ci_i64 r28.1)] [] ⟨.inl ok22, .inl ok23, .inl ok24, .inl ok25, .inl ok26, .inl ok27, .inl ok28, .inl ok29, trivial⟩ (by kernel_rfl) (by simp -implicitDefEqProofs) ?_
                obtain rfl := leafS h
                refine VW.ret (VRet.fin ?_)
                simp [eB6]
end Go.Proofs.Ytiiejiobkfakeaa
