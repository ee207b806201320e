/- Contracts of the functions that the law reaches: what each tells, as a function in Lean. -/
import Derived.Test.YteggncgiflgopaaK12a
import Derived.KernelRfl
namespace Go.Proofs.Yteggncgiflgopaa
open Go.RowKit Go.VL
set_option linter.unusedSimpArgs false
set_option linter.unusedVariables false
noncomputable def g62_j1 (e5 : Int) (l665 : List Int) : Option ((List Int) × Int) :=
  some (l665, e5)
noncomputable def g62_j2 (k_1104 : Int) (at_1214 : Int) (l1215 : List Int) : Option ((Int × Int × (List Int)) ⊕ (List Int)) :=
  some (.inl (at_1214, aI .i64 k_1104 1, l1215))
noncomputable def g62_L2 (s : T24) (k_1104 : Int) (at_1103 : Int) (r1 : List (List Int)) (l1105 : List Int) : (Int) → Option ((Int) ⊕ (Int × (List Int)))
  | logs_1287 =>
    if leI logs_1287 s.most_ = true then
      (g55 s k_1104 at_1103 logs_1287).bind fun r1289 =>
      (if leI 0 r1289 = true then (idx r1 (aI .i64 k_1104 1)).bind fun e1291 => (idx e1291 r1289).bind fun e1293 => some (!eqI e1293 (-1)) else some false).bind fun w1295 =>
      (if w1295 = true then (idx s.price_ k_1104).bind fun e1296 => (idx r1 (aI .i64 k_1104 1)).bind fun e1298 => (idx e1298 r1289).bind fun e1300 => (idx r1 k_1104).bind fun e1302 => (idx e1302 at_1103).bind fun e1304 => some (eqI (aI .i64 (mI .i64 e1296 logs_1287) e1300) e1304) else some false).bind fun w1306 =>
      if w1306 = true then
        (appK 8 l1105 [logs_1287]).bind fun u1308 =>
        some (.inr (r1289, (l1105 ++ [logs_1287])))
      else
        some (.inl (aI .i64 logs_1287 1))
    else
      some (.inr (at_1103, l1105))
noncomputable def g62_L1 (s : T24) (r1 : List (List Int)) : (Int × Int × (List Int)) → Option ((Int × Int × (List Int)) ⊕ (List Int))
  | (at_1103, k_1104, l1105) =>
    if ltI k_1104 (s.need_.length : Int) = true then
      (loopO (g62_L2 s k_1104 at_1103 r1 l1105) 0).bind fun w => g62_j2 k_1104 w.1 w.2
    else
      some (.inr l1105)
noncomputable def g62 (s : T24) : Option ((List Int) × Int) :=
  (g64 s).bind fun r1 =>
  (idx r1 0).bind fun e3 =>
  (idx e3 s.first_).bind fun e5 =>
  if eqI e5 (-1) = true then
    some ([], e5)
  else
    (loopO (g62_L1 s r1) (s.first_, 0, [])).bind fun w => g62_j1 e5 w
def eA62 (a : T24) : List V := [.cptr (pT24 a) 0]
def eB62 (r : (List Int) × Int) : V := .tup [.own 1 (rows ci_i64 r.1), .i .i64 r.2]
theorem inj62 (a a' : T24) (h : eA62 a = eA62 a') : a = a' := by
  obtain ⟨i571, i572, i573, i574, i575, i576, i577⟩ := a
  obtain ⟨i578, i579, i580, i581, i582, i583, i584⟩ := a'
  simp only [eA62, pT24, List.cons.injEq, V.i.injEq, V.b.injEq, V.f.injEq, V.str.injEq, V.sl.injEq, V.agg.injEq, V.cptr.injEq, true_and, and_true] at h
  simp_all [ri ci_i64_inj]
noncomputable def F62 : List V → Option V := tells (fun a => g62 a) eA62 eB62
set_option maxRecDepth 100000 in
set_option maxHeartbeats 4000000 in
/- loop.example/g01229/spec.l07Best -/
theorem ok62 : Tells Try.prog 62 F62 := by
  refine Tells.of (by kernel_rfl) ?_
  rintro s r h
  refine VCalls.nl (VCalls.of Try.func62 rfl rfl rfl ?_)
  rw [tm_init]
  simp only [eA62, en, List.length_cons, List.length_nil, Nat.reduceAdd, Nat.reduceSub]
  replace h : (g62 s).bind some = some r := bindS h
  rw [g62] at h
  refine VW.seq ?_
  refine VW.evalA (C := [(55, F55), (64, F64)]) (tm 101 [(0, .cptr (pT24 s) 0)]) [] [] ⟨ok55, ok64, trivial⟩ (by kernel_rfl) (by simp -implicitDefEqProofs) ?_
  refine VW.seq ?_
  obtain ⟨r1, q2, h⟩ := bindE h
  have c2 : F64 [.cptr (pT24 s) 0] = some (.own 1 (rows cl_ci_i64o r1)) := tells_eq inj64 (a := s) q2
  refine VW.evalA (C := [(55, F55), (64, F64)]) (tm 101 [(0, .cptr (pT24 s) 0), (4, .ref 0 0 r1.length)]) [some (1, rows cl_ci_i64 r1)] [] ⟨ok55, ok64, trivial⟩ (by kernel_rfl) (by simp -implicitDefEqProofs [c2]) ?_
  refine VW.seq ?_
  obtain ⟨e3, q4, h⟩ := bindE h
  obtain ⟨f4a, f4b, f4c, f4d⟩ := idx_some q4
  try simp only [Int.toNat_natCast, Int.reduceToNat] at f4a f4b f4c f4d
  obtain ⟨e5, q6, h⟩ := bindE h
  obtain ⟨f6a, f6b, f6c, f6d⟩ := idx_some q6
  refine VW.evalDA (C := [(55, F55), (64, F64)]) (tm 101 [(0, .cptr (pT24 s) 0), (4, .ref 0 0 r1.length), (5, .i .i64 e5)]) [some (1, rows cl_ci_i64 r1)] [] ⟨ok55, ok64, trivial⟩ mixed (by kernel_rfl) (by simp -implicitDefEqProofs [f4a, f4b, f4c, f4d, f6a, f6b, f6c, f6d]) ?_
  refine VW.seq ?_
  refine VW.evalA (C := [(55, F55), (64, F64)]) (tm 101 [(0, .cptr (pT24 s) 0), (4, .ref 0 0 r1.length), (5, .i .i64 e5), (6, .ref 1 0 0)]) [some (1, rows cl_ci_i64 r1), some (1, rows ci_i64 [])] [] ⟨ok55, ok64, trivial⟩ (by kernel_rfl) (by simp -implicitDefEqProofs) ?_
  refine VW.seq ?_
  refine VW.seq ?_
  refine VW.evalA (C := [(55, F55), (64, F64)]) (tm 101 [(0, .cptr (pT24 s) 0), (4, .ref 0 0 r1.length), (5, .i .i64 e5), (6, .ref 1 0 0), (24, .b (eqI e5 (-1)))]) [some (1, rows cl_ci_i64 r1), some (1, rows ci_i64 [])] [] ⟨ok55, ok64, trivial⟩ (by kernel_rfl) (by simp -implicitDefEqProofs) ?_
  refine VW.condB (b := eqI e5 (-1)) (by simp) (fun g7 => ?_) (fun g7 => ?_)
  · replace h := iteT g7 h
    refine VW.seq ?_
    refine VW.evalA (C := [(55, F55), (64, F64)]) (tm 101 [(2, .ref 1 0 0), (3, .i .i64 e5)]) [some (1, rows cl_ci_i64 r1), some (1, rows ci_i64 [])] [] ⟨ok55, ok64, trivial⟩ (by kernel_rfl) (by simp -implicitDefEqProofs) ?_
    obtain rfl := leafS h
    refine VW.ret (VRet.fin ?_)
    simp [eB62]
  · replace h := iteF g7 h
    refine VW.skip ?_
    refine VW.seq ?_
    refine VW.evalA (C := [(55, F55), (64, F64)]) (tm 101 [(0, .cptr (pT24 s) 0), (4, .ref 0 0 r1.length), (5, .i .i64 e5), (6, .ref 1 0 0), (7, .i .i64 s.first_)]) [some (1, rows cl_ci_i64 r1), some (1, rows ci_i64 [])] [] ⟨ok55, ok64, trivial⟩ (by kernel_rfl) (by simp -implicitDefEqProofs) ?_
    refine VW.join (fun (v : List Int) => (⟨(tm 101 [(5, .i .i64 e5), (6, .ref 1 0 v.length)]), [some (1, rows cl_ci_i64 r1), some (1, rows ci_i64 v)], []⟩ : VS)) (fun v => (g62_j1 e5 (v)).bind some = some r) ?_ ?_
    · refine VW.seq ?_
      refine VW.evalA (C := [(55, F55), (64, F64)]) (tm 101 [(0, .cptr (pT24 s) 0), (4, .ref 0 0 r1.length), (5, .i .i64 e5), (6, .ref 1 0 0), (7, .i .i64 s.first_), (8, .i .i64 0)]) [some (1, rows cl_ci_i64 r1), some (1, rows ci_i64 [])] [] ⟨ok55, ok64, trivial⟩ (by kernel_rfl) (by simp -implicitDefEqProofs) ?_
      refine VW.block ?_
      obtain ⟨w_1, hw_1, h⟩ := bindE h
      refine VW.loopO (fun (x : Int × Int × (List Int)) => (⟨(tm 101 [(0, .cptr (pT24 s) 0), (4, .ref 0 0 r1.length), (5, .i .i64 e5), (6, .ref 1 0 x.2.2.length), (7, .i .i64 x.1), (8, .i .i64 x.2.1)]), [some (1, rows cl_ci_i64 r1), some (1, rows ci_i64 x.2.2)], []⟩ : VS)) hw_1 (Ent.to 2 (by simp [fgt]) (by first | (simp; done) | simp [pT24]) (by simp) (by simp [bndT, bndV]) (by simp [bndM, bndV])) ?_
      rintro n_1 ⟨at_1103, k_1104, l1105⟩ h1
      rw [g62_L1] at h1
      refine VW.seq ?_
      refine VW.seq ?_
      refine VW.evalA (C := [(55, F55), (64, F64)]) (tm 101 [(0, .cptr (pT24 s) 0), (4, .ref 0 0 r1.length), (5, .i .i64 e5), (6, .ref 1 0 l1105.length), (7, .i .i64 at_1103), (8, .i .i64 k_1104), (37, .b (ltI k_1104 (s.need_.length : Int)))]) [some (1, rows cl_ci_i64 r1), some (1, rows ci_i64 l1105)] [] ⟨ok55, ok64, trivial⟩ (by kernel_rfl) (by simp -implicitDefEqProofs) ?_
      refine VW.condB (b := ltI k_1104 (s.need_.length : Int)) (by simp) (fun g1106 => ?_) (fun g1106 => ?_)
      · replace h1 := iteT g1106 h1
        refine VW.skip ?_
        refine VW.join (fun (v : Int × (List Int)) => (⟨(tm 101 [(0, .cptr (pT24 s) 0), (4, .ref 0 0 r1.length), (5, .i .i64 e5), (6, .ref 1 0 v.2.length), (7, .i .i64 v.1), (8, .i .i64 k_1104)]), [some (1, rows cl_ci_i64 r1), some (1, rows ci_i64 v.2)], []⟩ : VS)) (fun v => (g62_j2 k_1104 (v.1) (v.2)).bind (kN (g62_L1 s r1) n_1) = some w_1) ?_ ?_
        · refine VW.block ?_
          refine VW.seq ?_
          refine VW.evalA (C := [(55, F55), (64, F64)]) (tm 101 [(0, .cptr (pT24 s) 0), (4, .ref 0 0 r1.length), (5, .i .i64 e5), (6, .ref 1 0 l1105.length), (7, .i .i64 at_1103), (8, .i .i64 k_1104), (9, .i .i64 0)]) [some (1, rows cl_ci_i64 r1), some (1, rows ci_i64 l1105)] [] ⟨ok55, ok64, trivial⟩ (by kernel_rfl) (by simp -implicitDefEqProofs) ?_
          refine VW.block ?_
          obtain ⟨w_2, hw_2, h1⟩ := bindE h1
          refine VW.loopO (fun (x : Int) => (⟨(tm 101 [(0, .cptr (pT24 s) 0), (4, .ref 0 0 r1.length), (5, .i .i64 e5), (6, .ref 1 0 l1105.length), (7, .i .i64 at_1103), (8, .i .i64 k_1104), (9, .i .i64 x)]), [some (1, rows cl_ci_i64 r1), some (1, rows ci_i64 l1105)], []⟩ : VS)) hw_2 (Ent.to 2 (by simp [fgt]) (by first | (simp; done) | simp [pT24]) (by simp) (by simp [bndT, bndV]) (by simp [bndM, bndV])) ?_
          rintro n_2 logs_1287 h2
          rw [g62_L2] at h2
          refine VW.seq ?_
          refine VW.seq ?_
          refine VW.evalA (C := [(55, F55), (64, F64)]) (tm 101 [(0, .cptr (pT24 s) 0), (4, .ref 0 0 r1.length), (5, .i .i64 e5), (6, .ref 1 0 l1105.length), (7, .i .i64 at_1103), (8, .i .i64 k_1104), (9, .i .i64 logs_1287), (45, .b (leI logs_1287 s.most_))]) [some (1, rows cl_ci_i64 r1), some (1, rows ci_i64 l1105)] [] ⟨ok55, ok64, trivial⟩ (by kernel_rfl) (by simp -implicitDefEqProofs) ?_
          refine VW.condB (b := leI logs_1287 s.most_) (by simp) (fun g1288 => ?_) (fun g1288 => ?_)
          · replace h2 := iteT g1288 h2
            refine VW.skip ?_
            refine VW.seq ?_
            refine VW.block ?_
            refine VW.seq ?_
            obtain ⟨r1289, q1290, h2⟩ := bindE h2
            have c1290 : F55 [.cptr (pT24 s) 0, .i .i64 k_1104, .i .i64 at_1103, .i .i64 logs_1287] = some (.i .i64 r1289) := tells_eq inj55 (a := (s, k_1104, at_1103, logs_1287)) q1290
            refine VW.evalA (C := [(55, F55), (64, F64)]) (tm 101 [(0, .cptr (pT24 s) 0), (4, .ref 0 0 r1.length), (5, .i .i64 e5), (6, .ref 1 0 l1105.length), (7, .i .i64 at_1103), (8, .i .i64 k_1104), (9, .i .i64 logs_1287), (10, .i .i64 r1289)]) [some (1, rows cl_ci_i64 r1), some (1, rows ci_i64 l1105)] [] ⟨ok55, ok64, trivial⟩ (by kernel_rfl) (by simp -implicitDefEqProofs [c1290]) ?_
            refine VW.seq ?_
            obtain ⟨w1295, q1310, h2⟩ := bindE h2
            obtain ⟨w1306, q1311, h2⟩ := bindE h2
            refine VW.evalDA (C := [(55, F55), (64, F64)]) (tm 101 [(0, .cptr (pT24 s) 0), (4, .ref 0 0 r1.length), (5, .i .i64 e5), (6, .ref 1 0 l1105.length), (7, .i .i64 at_1103), (8, .i .i64 k_1104), (9, .i .i64 logs_1287), (10, .i .i64 r1289), (93, .b w1306)]) [some (1, rows cl_ci_i64 r1), some (1, rows ci_i64 l1105)] [] ⟨ok55, ok64, trivial⟩ mixed (by kernel_rfl) (by
                rcases Bool.eq_false_or_eq_true (leI 0 r1289) with q1312 | q1312
                · first
                  | (simp at q1312; done)
                  | (rw [if_pos q1312] at q1310
                     obtain ⟨e1291, q1292, q1310⟩ := bindQ q1310
                     obtain ⟨f1292a, f1292b, f1292c, f1292d⟩ := idx_some q1292
                     obtain ⟨e1293, q1294, q1310⟩ := bindQ q1310
                     obtain ⟨f1294a, f1294b, f1294c, f1294d⟩ := idx_some q1294
                     have d1313 : w1295 = _ := (Option.some.inj q1310).symm
                     rcases Bool.eq_false_or_eq_true w1295 with q1314 | q1314
                     · first
                       | (simp [d1313] at q1314; done)
                       | (rw [if_pos q1314] at q1311
                          try simp only [d1313] at q1314
                          obtain ⟨e1296, q1297, q1311⟩ := bindQ q1311
                          obtain ⟨f1297a, f1297b, f1297c, f1297d⟩ := idx_some q1297
                          obtain ⟨e1298, q1299, q1311⟩ := bindQ q1311
                          have d1315 : e1298 = e1291 := Option.some.inj (q1299.symm.trans q1292)
                          obtain ⟨e1300, q1301, q1311⟩ := bindQ q1311
                          have d1316 : e1300 = e1293 := by have t_ := q1301; simp only [d1315] at t_; exact Option.some.inj (t_.symm.trans q1294)
                          obtain ⟨e1302, q1303, q1311⟩ := bindQ q1311
                          obtain ⟨f1303a, f1303b, f1303c, f1303d⟩ := idx_some q1303
                          obtain ⟨e1304, q1305, q1311⟩ := bindQ q1311
                          obtain ⟨f1305a, f1305b, f1305c, f1305d⟩ := idx_some q1305
                          have d1317 : w1306 = _ := (Option.some.inj q1311).symm
                          simp -implicitDefEqProofs [q1312, f1292a, f1292b, f1292c, f1292d, f1294a, f1294b, f1294c, f1294d, d1313, q1314, f1297a, f1297b, f1297c, f1297d, d1315, d1316, f1303a, f1303b, f1303c, f1303d, f1305a, f1305b, f1305c, f1305d, d1317])
                     · first
                       | (simp [d1313] at q1314; done)
                       | (rw [if_neg (by rw [q1314]; exact Bool.false_ne_true)] at q1311
                          try simp only [d1313] at q1314
                          have d1318 : w1306 = _ := (Option.some.inj q1311).symm
                          simp -implicitDefEqProofs [q1312, f1292a, f1292b, f1292c, f1292d, f1294a, f1294b, f1294c, f1294d, d1313, q1314, d1318]))
                · first
                  | (simp at q1312; done)
                  | (rw [if_neg (by rw [q1312]; exact Bool.false_ne_true)] at q1310
                     have d1319 : w1295 = _ := (Option.some.inj q1310).symm
                     rcases Bool.eq_false_or_eq_true w1295 with q1320 | q1320
                     · first
                       | (simp [d1319] at q1320; done)
                       | (rw [if_pos q1320] at q1311
                          try simp only [d1319] at q1320
                          obtain ⟨e1296, q1297, q1311⟩ := bindQ q1311
                          obtain ⟨f1297a, f1297b, f1297c, f1297d⟩ := idx_some q1297
                          obtain ⟨e1298, q1299, q1311⟩ := bindQ q1311
                          obtain ⟨f1299a, f1299b, f1299c, f1299d⟩ := idx_some q1299
                          obtain ⟨e1300, q1301, q1311⟩ := bindQ q1311
                          obtain ⟨f1301a, f1301b, f1301c, f1301d⟩ := idx_some q1301
                          obtain ⟨e1302, q1303, q1311⟩ := bindQ q1311
                          obtain ⟨f1303a, f1303b, f1303c, f1303d⟩ := idx_some q1303
                          obtain ⟨e1304, q1305, q1311⟩ := bindQ q1311
                          obtain ⟨f1305a, f1305b, f1305c, f1305d⟩ := idx_some q1305
                          have d1321 : w1306 = _ := (Option.some.inj q1311).symm
                          simp -implicitDefEqProofs [q1312, d1319, q1320, f1297a, f1297b, f1297c, f1297d, f1299a, f1299b, f1299c, f1299d, f1301a, f1301b, f1301c, f1301d, f1303a, f1303b, f1303c, f1303d, f1305a, f1305b, f1305c, f1305d, d1321])
                     · first
                       | (simp [d1319] at q1320; done)
                       | (rw [if_neg (by rw [q1320]; exact Bool.false_ne_true)] at q1311
                          try simp only [d1319] at q1320
                          have d1322 : w1306 = _ := (Option.some.inj q1311).symm
                          simp -implicitDefEqProofs [q1312, d1319, q1320, d1322]))) ?_
            refine VW.condB (b := w1306) (by simp) (fun g1307 => ?_) (fun g1307 => ?_)
            · replace h2 := iteT g1307 h2
              refine VW.seq ?_
              obtain ⟨u1308, q1309, h2⟩ := bindE h2
              obtain ⟨f1309a, f1309b⟩ := appK_some q1309
              try simp only [Int.toNat_natCast, Int.reduceToNat, List.length_cons, List.length_nil, Nat.reduceAdd, Nat.zero_add] at f1309a f1309b
              refine VW.evalA (C := [(55, F55), (64, F64)]) (tm 101 [(0, .cptr (pT24 s) 0), (4, .ref 0 0 r1.length), (5, .i .i64 e5), (6, .ref 1 0 (l1105 ++ [logs_1287]).length), (8, .i .i64 k_1104), (10, .i .i64 r1289)]) [some (1, rows cl_ci_i64 r1), some (1, rows ci_i64 (l1105 ++ [logs_1287])), some (1, rows ci_i64 [logs_1287])] [] ⟨ok55, ok64, trivial⟩ (by kernel_rfl) (by simp -implicitDefEqProofs [f1309a, f1309b]) ?_
              refine VW.seq ?_
              refine VW.evalA (C := [(55, F55), (64, F64)]) (tm 101 [(0, .cptr (pT24 s) 0), (4, .ref 0 0 r1.length), (5, .i .i64 e5), (6, .ref 1 0 (l1105 ++ [logs_1287]).length), (7, .i .i64 r1289), (8, .i .i64 k_1104)]) [some (1, rows cl_ci_i64 r1), some (1, rows ci_i64 (l1105 ++ [logs_1287])), some (1, rows ci_i64 [logs_1287])] [] ⟨ok55, ok64, trivial⟩ (by kernel_rfl) (by simp -implicitDefEqProofs) ?_
              refine VW.exit ?_
              have e_ := leafR h2
              subst w_2
              exact (show ∃ _, _ from ⟨(r1289, (l1105 ++ [logs_1287])), h1, (Ent.to 2 (by simp [fgt]) (by first | (simp; done) | simp [pT24]) (by simp) (by simp [bndT, bndV]) (by simp [bndM, bndV]))⟩)
            · replace h2 := iteF g1307 h2
              refine VW.skip ?_
              refine VW.evalA (C := [(55, F55), (64, F64)]) (tm 101 [(0, .cptr (pT24 s) 0), (4, .ref 0 0 r1.length), (5, .i .i64 e5), (6, .ref 1 0 l1105.length), (7, .i .i64 at_1103), (8, .i .i64 k_1104), (9, .i .i64 (aI .i64 logs_1287 1))]) [some (1, rows cl_ci_i64 r1), some (1, rows ci_i64 l1105)] [] ⟨ok55, ok64, trivial⟩ (by kernel_rfl) (by simp -implicitDefEqProofs) ?_
              exact (show ∃ _, _ from ⟨aI .i64 logs_1287 1, leafL h2, (Ent.to 2 (by simp [fgt]) (by first | (simp; done) | simp [pT24]) (by simp) (by simp [bndT, bndV]) (by simp [bndM, bndV]))⟩)
          · replace h2 := iteF g1288 h2
            refine VW.exit ?_
            have e_ := leafR h2
            subst w_2
            exact (show ∃ _, _ from ⟨(at_1103, l1105), h1, (Ent.to 2 (by simp [fgt]) (by first | (simp; done) | simp [pT24]) (by simp) (by simp [bndT, bndV]) (by simp [bndM, bndV]))⟩)
        · rintro ⟨at_1214, l1215⟩ h1
          replace h1 : (g62_j2 k_1104 at_1214 l1215).bind _ = _ := h1
          rw [g62_j2] at h1
          refine VW.evalA (C := [(55, F55), (64, F64)]) (tm 101 [(0, .cptr (pT24 s) 0), (4, .ref 0 0 r1.length), (5, .i .i64 e5), (6, .ref 1 0 l1215.length), (7, .i .i64 at_1214), (8, .i .i64 (aI .i64 k_1104 1))]) [some (1, rows cl_ci_i64 r1), some (1, rows ci_i64 l1215)] [] ⟨ok55, ok64, trivial⟩ (by kernel_rfl) (by simp -implicitDefEqProofs) ?_
          exact (show ∃ _, _ from ⟨(at_1214, aI .i64 k_1104 1, l1215), leafL h1, (Ent.to 2 (by simp [fgt]) (by first | (simp; done) | simp [pT24]) (by simp) (by simp [bndT, bndV]) (by simp [bndM, bndV]))⟩)
      · replace h1 := iteF g1106 h1
        refine VW.exit ?_
        have e_ := leafR h1
        subst w_1
        exact (show ∃ _, _ from ⟨l1105, h, (Ent.to 2 (by simp [fgt]) (by first | (simp; done) | simp [pT24]) (by simp) (by simp [bndT, bndV]) (by simp [bndM, bndV]))⟩)
    · rintro l665 h
      replace h : (g62_j1 e5 l665).bind _ = _ := h
      rw [g62_j1] at h
      refine VW.seq ?_
      refine VW.evalA (C := [(55, F55), (64, F64)]) (tm 101 [(2, .ref 1 0 l665.length), (3, .i .i64 e5)]) [some (1, rows cl_ci_i64 r1), some (1, rows ci_i64 l665)] [] ⟨ok55, ok64, trivial⟩ (by kernel_rfl) (by simp -implicitDefEqProofs) ?_
      obtain rfl := leafS h
      refine VW.ret (VRet.fin ?_)
      simp [eB62]
noncomputable def g63_j1 (l5249 : List (List Int)) : Option (List (List Int)) :=
  some l5249
noncomputable def g63_j2 (k_8744 : Int) (l9619 : List (List Int)) : Option ((Int × (List (List Int))) ⊕ (List (List Int))) :=
  some (.inl (sI .i64 k_8744 1, l9619))
noncomputable def g63_j3 (x_10202 : Int) (l10348 : List Int) : Option ((Int × (List Int)) ⊕ (List (List Int))) :=
  some (.inl (aI .i64 x_10202 1, l10348))
noncomputable def g63_j4 (l10203 : List Int) (x_10202 : Int) (best_10419 : Int) : Option ((Int × (List Int)) ⊕ (List (List Int))) :=
  (idx l10203 x_10202).bind fun e10420 =>
  g63_j3 x_10202 (l10203.set x_10202.toNat best_10419)
noncomputable def g63_L3 (s : T24) (k_8744 : Int) (x_10202 : Int) (l8745 : List (List Int)) : (Int × Int) → Option ((Int × Int) ⊕ (Int))
  | (best_10468, x_10469) =>
    if ltI x_10469 (aI .i64 s.most_ 1) = true then
      (g56 s k_8744 x_10202 x_10469).bind fun r10471 =>
      (if (!r10471.2) = true then some true else (idx l8745 (aI .i64 k_8744 1)).bind fun e10473 => (idx e10473 r10471.1).bind fun e10476 => some (eqI e10476 (-1))).bind fun w10478 =>
      if w10478 = true then
        some (.inl (best_10468, aI .i64 x_10469 1))
      else
        (idx s.price_ k_8744).bind fun e10480 =>
        (idx l8745 (aI .i64 k_8744 1)).bind fun e10482 =>
        (idx e10482 r10471.1).bind fun e10485 =>
        if (eqI best_10468 (-1) || ltI (aI .i64 (mI .i64 e10480 x_10469) e10485) best_10468) = true then
          some (.inl (aI .i64 (mI .i64 e10480 x_10469) e10485, aI .i64 x_10469 1))
        else
          some (.inl (best_10468, aI .i64 x_10469 1))
    else
      some (.inr best_10468)
noncomputable def g63_L2 (s : T24) (k_8744 : Int) (l8745 : List (List Int)) : (Int × (List Int)) → Option ((Int × (List Int)) ⊕ (List (List Int)))
  | (x_10202, l10203) =>
    if ltI x_10202 ((List.replicate (aI .i64 s.store_ 1).toNat 0).length : Int) = true then
      (loopO (g63_L3 s k_8744 x_10202 l8745) ((-1), 0)).bind fun w => g63_j4 l10203 x_10202 w
    else
      some (.inr (l8745.set k_8744.toNat l10203))
noncomputable def g63_L1 (s : T24) : (Int × (List (List Int))) → Option ((Int × (List (List Int))) ⊕ (List (List Int)))
  | (k_8744, l8745) =>
    if leI 0 k_8744 = true then
      (mk 8 (aI .i64 s.store_ 1)).bind fun u9620 =>
      (idx l8745 k_8744).bind fun e9622 =>
      (loopO (g63_L2 s k_8744 l8745) (0, (List.replicate (aI .i64 s.store_ 1).toNat 0))).bind fun w => g63_j2 k_8744 w
    else
      some (.inr l8745)
noncomputable def g63 (s : T24) : Option (List (List Int)) :=
  (mk 24 (aI .i64 (s.need_.length : Int) 1)).bind fun u1 =>
  (mk 8 (aI .i64 s.store_ 1)).bind fun u3 =>
  (idx (List.replicate (aI .i64 (s.need_.length : Int) 1).toNat ([] : List Int)) (s.need_.length : Int)).bind fun e5 =>
  (loopO (g63_L1 s) (sI .i64 (s.need_.length : Int) 1, ((List.replicate (aI .i64 (s.need_.length : Int) 1).toNat ([] : List Int)).set ((s.need_.length : Int).toNat) (List.replicate (aI .i64 s.store_ 1).toNat 0)))).bind fun w => g63_j1 w
def eA63 (a : T24) : List V := [.agg (pT24 a)]
def eB63 (r : List (List Int)) : V := .own 1 (rows cl_ci_i64o r)
theorem inj63 (a a' : T24) (h : eA63 a = eA63 a') : a = a' := by
  obtain ⟨i599, i600, i601, i602, i603, i604, i605⟩ := a
  obtain ⟨i606, i607, i608, i609, i610, i611, i612⟩ := a'
  simp only [eA63, pT24, List.cons.injEq, V.i.injEq, V.b.injEq, V.f.injEq, V.str.injEq, V.sl.injEq, V.agg.injEq, V.cptr.injEq, true_and, and_true] at h
  simp_all [ri ci_i64_inj]
noncomputable def F63 : List V → Option V := tells (fun a => g63 a) eA63 eB63
set_option maxRecDepth 100000 in
set_option maxHeartbeats 4000000 in
/- loop.example/g01229/impl.values -/
theorem ok63 : Tells Try.prog 63 F63 := by
  refine Tells.of (by kernel_rfl) ?_
  rintro s r h
  refine VCalls.nl (VCalls.of Try.func63 rfl rfl rfl ?_)
  rw [tm_init]
  simp only [eA63, en, List.length_cons, List.length_nil, Nat.reduceAdd, Nat.reduceSub]
  replace h : (g63 s).bind some = some r := bindS h
  rw [g63] at h
  refine VW.seq ?_
  refine VW.evalA (C := [(56, F56)]) (tm 107 [(1, .ptr 0 0 0)]) [some (7, [(pT24 s)])] [] ⟨ok56, trivial⟩ (by kernel_rfl) (by simp -implicitDefEqProofs) ?_
  refine VW.seq ?_
  refine VW.evalA (C := [(56, F56)]) (tm 107 [(1, .ptr 0 0 0), (3, .i .i64 (s.need_.length : Int))]) [some (7, [(pT24 s)])] [] ⟨ok56, trivial⟩ (by kernel_rfl) (by simp -implicitDefEqProofs) ?_
  refine VW.seq ?_
  obtain ⟨u1, q2, h⟩ := bindE h
  obtain ⟨f2a, f2b, f2c⟩ := mk_some q2
  try simp only [Int.toNat_natCast, Int.reduceToNat, List.length_cons, List.length_nil, Nat.reduceAdd, Nat.zero_add] at f2a f2b f2c
  refine VW.evalE (C := [(56, F56)]) (tm 107 [(1, .ptr 0 0 0), (3, .i .i64 (s.need_.length : Int)), (4, .ref 1 0 (List.replicate (aI .i64 (s.need_.length : Int) 1).toNat ([] : List Int)).length)]) [some (7, [(pT24 s)]), some (1, List.replicate (aI .i64 (s.need_.length : Int) 1).toNat [.nil])] [] ⟨ok56, trivial⟩ (by kernel_rfl) (by simp -implicitDefEqProofs [f2a, f2b, f2c]) (Ent.nilown (m := [some (7, [(pT24 s)]), some (1, List.replicate (aI .i64 (s.need_.length : Int) 1).toNat [.nil])]) 1 ((aI .i64 (s.need_.length : Int) 1).toNat) 1 [some (7, [(pT24 s)]), some (1, rows cl_ci_i64o (List.replicate (aI .i64 (s.need_.length : Int) 1).toNat ([] : List Int)))] (by simp) (by simp)) ?_
  refine VW.seq ?_
  obtain ⟨u3, q4, h⟩ := bindE h
  obtain ⟨f4a, f4b, f4c⟩ := mk_some q4
  try simp only [Int.toNat_natCast, Int.reduceToNat, List.length_cons, List.length_nil, Nat.reduceAdd, Nat.zero_add] at f4a f4b f4c
  obtain ⟨e5, q6, h⟩ := bindE h
  obtain ⟨f6a, f6b, f6c, f6d⟩ := idx_some q6
  have f6s := f6c
  simp at f6s
  try simp only [Int.toNat_natCast, Int.reduceToNat] at f6a f6b f6c f6d
  refine VW.evalE (C := [(56, F56)]) (tm 107 [(1, .ptr 0 0 0), (3, .i .i64 (s.need_.length : Int)), (4, .ref 1 0 (List.replicate (aI .i64 (s.need_.length : Int) 1).toNat ([] : List Int)).length)]) [some (7, [(pT24 s)]), some (1, (rows cl_ci_i64o (List.replicate (aI .i64 (s.need_.length : Int) 1).toNat ([] : List Int))).set ((s.need_.length : Int).toNat) [.ref 2 0 (List.replicate (aI .i64 s.store_ 1).toNat 0).length]), some (1, rows ci_i64 (List.replicate (aI .i64 s.store_ 1).toNat 0))] [] ⟨ok56, trivial⟩ (by kernel_rfl) (by simp -implicitDefEqProofs [f4a, f4b, f4c, f6a, f6b, f6c, f6d, f6s]) (Ent.absorb (m := [some (7, [(pT24 s)]), some (1, (rows cl_ci_i64o (List.replicate (aI .i64 (s.need_.length : Int) 1).toNat ([] : List Int))).set ((s.need_.length : Int).toNat) [.ref 2 0 (List.replicate (aI .i64 s.store_ 1).toNat 0).length]), some (1, rows ci_i64 (List.replicate (aI .i64 s.store_ 1).toNat 0))]) (n := 1) (n' := 1) (es := (rows cl_ci_i64o (List.replicate (aI .i64 (s.need_.length : Int) 1).toNat ([] : List Int))).set ((s.need_.length : Int).toNat) [.ref 2 0 (List.replicate (aI .i64 s.store_ 1).toNat 0).length]) (es' := rows ci_i64 (List.replicate (aI .i64 s.store_ 1).toNat 0)) (cs := [.ref 2 0 (List.replicate (aI .i64 s.store_ 1).toNat 0).length]) 1 ((s.need_.length : Int).toNat) 0 2 (List.replicate (aI .i64 s.store_ 1).toNat 0).length [some (7, [(pT24 s)]), some (1, rows cl_ci_i64o ((List.replicate (aI .i64 (s.need_.length : Int) 1).toNat ([] : List Int)).set ((s.need_.length : Int).toNat) (List.replicate (aI .i64 s.store_ 1).toNat 0))), none] rfl (by simp [f6a, f6b, f6c, f6d, f6s]) rfl rfl (by decide) (by simp) (by simp) (by simp)) ?_
  refine VW.join (fun (v : List (List Int)) => (⟨(tm 107 [(4, .ref 1 0 v.length)]), [some (7, [(pT24 s)]), some (1, rows cl_ci_i64o v), none], []⟩ : VS)) (fun v => (g63_j1 (v)).bind some = some r) ?_ ?_
  · refine VW.seq ?_
    refine VW.evalA (C := [(56, F56)]) (tm 107 [(1, .ptr 0 0 0), (4, .ref 1 0 ((List.replicate (aI .i64 (s.need_.length : Int) 1).toNat ([] : List Int)).set ((s.need_.length : Int).toNat) (List.replicate (aI .i64 s.store_ 1).toNat 0)).length), (5, .i .i64 (sI .i64 (s.need_.length : Int) 1))]) [some (7, [(pT24 s)]), some (1, rows cl_ci_i64o ((List.replicate (aI .i64 (s.need_.length : Int) 1).toNat ([] : List Int)).set ((s.need_.length : Int).toNat) (List.replicate (aI .i64 s.store_ 1).toNat 0))), none] [] ⟨ok56, trivial⟩ (by kernel_rfl) (by simp -implicitDefEqProofs) ?_
    refine VW.block ?_
    obtain ⟨w_1, hw_1, h⟩ := bindE h
    refine VW.loopO (fun (x : Int × (List (List Int))) => (⟨(tm 107 [(1, .ptr 0 0 0), (4, .ref 1 0 x.2.length), (5, .i .i64 x.1)]), [some (7, [(pT24 s)]), some (1, rows cl_ci_i64o x.2), none], []⟩ : VS)) hw_1 (Ent.to 3 (by simp [fgt]) (by first | (simp; done) | simp [pT24]) (by simp) (by simp [bndT, bndV]) (by simp [bndM, bndV])) ?_
    rintro n_1 ⟨k_8744, l8745⟩ h1
    rw [g63_L1] at h1
    refine VW.seq ?_
    refine VW.seq ?_
    refine VW.evalA (C := [(56, F56)]) (tm 107 [(1, .ptr 0 0 0), (4, .ref 1 0 l8745.length), (5, .i .i64 k_8744), (28, .b (leI 0 k_8744))]) [some (7, [(pT24 s)]), some (1, rows cl_ci_i64o l8745), none] [] ⟨ok56, trivial⟩ (by kernel_rfl) (by simp -implicitDefEqProofs) ?_
    refine VW.condB (b := leI 0 k_8744) (by simp) (fun g8746 => ?_) (fun g8746 => ?_)
    · replace h1 := iteT g8746 h1
      refine VW.skip ?_
      refine VW.join (fun (v : List (List Int)) => (⟨(tm 107 [(1, .ptr 0 0 0), (4, .ref 1 0 v.length), (5, .i .i64 k_8744)]), [some (7, [(pT24 s)]), some (1, rows cl_ci_i64o v), none], []⟩ : VS)) (fun v => (g63_j2 k_8744 (v)).bind (kN (g63_L1 s) n_1) = some w_1) ?_ ?_
      · refine VW.block ?_
        refine VW.seq ?_
        obtain ⟨u9620, q9621, h1⟩ := bindE h1
        obtain ⟨f9621a, f9621b, f9621c⟩ := mk_some q9621
        try simp only [Int.toNat_natCast, Int.reduceToNat, List.length_cons, List.length_nil, Nat.reduceAdd, Nat.zero_add] at f9621a f9621b f9621c
        obtain ⟨e9622, q9623, h1⟩ := bindE h1
        obtain ⟨f9623a, f9623b, f9623c, f9623d⟩ := idx_some q9623
        refine VW.evalA (C := [(56, F56)]) (tm 107 [(1, .ptr 0 0 0), (4, .ref 1 0 l8745.length), (5, .i .i64 k_8744)]) [some (7, [(pT24 s)]), some (1, (rows cl_ci_i64o l8745).set k_8744.toNat [.ref 3 0 (List.replicate (aI .i64 s.store_ 1).toNat 0).length]), none, some (1, rows ci_i64 (List.replicate (aI .i64 s.store_ 1).toNat 0))] [] ⟨ok56, trivial⟩ (by kernel_rfl) (by simp -implicitDefEqProofs [f9621a, f9621b, f9621c, f9623a, f9623b, f9623c, f9623d]) ?_
        refine VW.seq ?_
        refine VW.evalA (C := [(56, F56)]) (tm 107 [(1, .ptr 0 0 0), (4, .ref 1 0 l8745.length), (5, .i .i64 k_8744), (42, .i .i64 ((List.replicate (aI .i64 s.store_ 1).toNat 0).length : Int)), (43, .i .i64 0)]) [some (7, [(pT24 s)]), some (1, (rows cl_ci_i64o l8745).set k_8744.toNat [.ref 3 0 (List.replicate (aI .i64 s.store_ 1).toNat 0).length]), none, some (1, rows ci_i64 (List.replicate (aI .i64 s.store_ 1).toNat 0))] [] ⟨ok56, trivial⟩ (by kernel_rfl) (by simp -implicitDefEqProofs [f9623a, f9623b, f9623c, f9623d]) ?_
        refine VW.block ?_
        obtain ⟨w_2, hw_2, h1⟩ := bindE h1
        refine VW.loopO (fun (x : Int × (List Int)) => (⟨(tm 107 [(1, .ptr 0 0 0), (4, .ref 1 0 l8745.length), (5, .i .i64 k_8744), (42, .i .i64 ((List.replicate (aI .i64 s.store_ 1).toNat 0).length : Int)), (43, .i .i64 x.1)]), [some (7, [(pT24 s)]), some (1, (rows cl_ci_i64o l8745).set k_8744.toNat [.ref 3 0 x.2.length]), none, some (1, rows ci_i64 x.2)], []⟩ : VS)) hw_2 (Ent.to 4 (by simp [fgt]) (by first | (simp; done) | simp [pT24]) (by simp) (by simp [bndT, bndV]) (by simp [bndM, bndV])) ?_
        rintro n_2 ⟨x_10202, l10203⟩ h2
        rw [g63_L2] at h2
        refine VW.seq ?_
        refine VW.evalA (C := [(56, F56)]) (tm 107 [(1, .ptr 0 0 0), (4, .ref 1 0 l8745.length), (5, .i .i64 k_8744), (42, .i .i64 ((List.replicate (aI .i64 s.store_ 1).toNat 0).length : Int)), (43, .i .i64 x_10202), (44, .b (ltI x_10202 ((List.replicate (aI .i64 s.store_ 1).toNat 0).length : Int)))]) [some (7, [(pT24 s)]), some (1, (rows cl_ci_i64o l8745).set k_8744.toNat [.ref 3 0 l10203.length]), none, some (1, rows ci_i64 l10203)] [] ⟨ok56, trivial⟩ (by kernel_rfl) (by simp -implicitDefEqProofs) ?_
        refine VW.seq ?_
        refine VW.condB (b := ltI x_10202 ((List.replicate (aI .i64 s.store_ 1).toNat 0).length : Int)) (by simp) (fun g10204 => ?_) (fun g10204 => ?_)
        · replace h2 := iteT g10204 h2
          refine VW.skip ?_
          refine VW.join (fun (v : List Int) => (⟨(tm 107 [(1, .ptr 0 0 0), (4, .ref 1 0 l8745.length), (5, .i .i64 k_8744), (42, .i .i64 ((List.replicate (aI .i64 s.store_ 1).toNat 0).length : Int)), (43, .i .i64 x_10202)]), [some (7, [(pT24 s)]), some (1, (rows cl_ci_i64o l8745).set k_8744.toNat [.ref 3 0 v.length]), none, some (1, rows ci_i64 v)], []⟩ : VS)) (fun v => (g63_j3 x_10202 (v)).bind (kN (g63_L2 s k_8744 l8745) n_2) = some w_2) ?_ ?_
          · refine VW.block ?_
            refine VW.seq ?_
            refine VW.evalA (C := [(56, F56)]) (tm 107 [(1, .ptr 0 0 0), (4, .ref 1 0 l8745.length), (5, .i .i64 k_8744), (6, .i .i64 x_10202), (42, .i .i64 ((List.replicate (aI .i64 s.store_ 1).toNat 0).length : Int)), (43, .i .i64 x_10202)]) [some (7, [(pT24 s)]), some (1, (rows cl_ci_i64o l8745).set k_8744.toNat [.ref 3 0 l10203.length]), none, some (1, rows ci_i64 l10203)] [] ⟨ok56, trivial⟩ (by kernel_rfl) (by simp -implicitDefEqProofs) ?_
            refine VW.seq ?_
            refine VW.evalA (C := [(56, F56)]) (tm 107 [(1, .ptr 0 0 0), (4, .ref 1 0 l8745.length), (5, .i .i64 k_8744), (6, .i .i64 x_10202), (7, .i .i64 (-1)), (42, .i .i64 ((List.replicate (aI .i64 s.store_ 1).toNat 0).length : Int)), (43, .i .i64 x_10202)]) [some (7, [(pT24 s)]), some (1, (rows cl_ci_i64o l8745).set k_8744.toNat [.ref 3 0 l10203.length]), none, some (1, rows ci_i64 l10203)] [] ⟨ok56, trivial⟩ (by kernel_rfl) (by simp -implicitDefEqProofs) ?_
            refine VW.join (fun (v : Int) => (⟨(tm 107 [(1, .ptr 0 0 0), (4, .ref 1 0 l8745.length), (5, .i .i64 k_8744), (6, .i .i64 x_10202), (7, .i .i64 v), (42, .i .i64 ((List.replicate (aI .i64 s.store_ 1).toNat 0).length : Int)), (43, .i .i64 x_10202)]), [some (7, [(pT24 s)]), some (1, (rows cl_ci_i64o l8745).set k_8744.toNat [.ref 3 0 l10203.length]), none, some (1, rows ci_i64 l10203)], []⟩ : VS)) (fun v => (g63_j4 l10203 x_10202 (v)).bind (kN (g63_L2 s k_8744 l8745) n_2) = some w_2) ?_ ?_
            · refine VW.seq ?_
              refine VW.evalA (C := [(56, F56)]) (tm 107 [(1, .ptr 0 0 0), (4, .ref 1 0 l8745.length), (5, .i .i64 k_8744), (6, .i .i64 x_10202), (7, .i .i64 (-1)), (42, .i .i64 ((List.replicate (aI .i64 s.store_ 1).toNat 0).length : Int)), (43, .i .i64 x_10202), (48, .i .i64 (aI .i64 s.most_ 1)), (49, .i .i64 0)]) [some (7, [(pT24 s)]), some (1, (rows cl_ci_i64o l8745).set k_8744.toNat [.ref 3 0 l10203.length]), none, some (1, rows ci_i64 l10203)] [] ⟨ok56, trivial⟩ (by kernel_rfl) (by simp -implicitDefEqProofs) ?_
              refine VW.block ?_
              obtain ⟨w_3, hw_3, h2⟩ := bindE h2
              refine VW.loopO (fun (x : Int × Int) => (⟨(tm 107 [(1, .ptr 0 0 0), (4, .ref 1 0 l8745.length), (5, .i .i64 k_8744), (6, .i .i64 x_10202), (7, .i .i64 x.1), (42, .i .i64 ((List.replicate (aI .i64 s.store_ 1).toNat 0).length : Int)), (43, .i .i64 x_10202), (48, .i .i64 (aI .i64 s.most_ 1)), (49, .i .i64 x.2)]), [some (7, [(pT24 s)]), some (1, (rows cl_ci_i64o l8745).set k_8744.toNat [.ref 3 0 l10203.length]), none, some (1, rows ci_i64 l10203)], []⟩ : VS)) hw_3 (Ent.to 4 (by simp [fgt]) (by first | (simp; done) | simp [pT24]) (by simp) (by simp [bndT, bndV]) (by simp [bndM, bndV])) ?_
              rintro n_3 ⟨best_10468, x_10469⟩ h3
              rw [g63_L3] at h3
              refine VW.seq ?_
              refine VW.evalA (C := [(56, F56)]) (tm 107 [(1, .ptr 0 0 0), (4, .ref 1 0 l8745.length), (5, .i .i64 k_8744), (6, .i .i64 x_10202), (7, .i .i64 best_10468), (42, .i .i64 ((List.replicate (aI .i64 s.store_ 1).toNat 0).length : Int)), (43, .i .i64 x_10202), (48, .i .i64 (aI .i64 s.most_ 1)), (49, .i .i64 x_10469), (50, .b (ltI x_10469 (aI .i64 s.most_ 1)))]) [some (7, [(pT24 s)]), some (1, (rows cl_ci_i64o l8745).set k_8744.toNat [.ref 3 0 l10203.length]), none, some (1, rows ci_i64 l10203)] [] ⟨ok56, trivial⟩ (by kernel_rfl) (by simp -implicitDefEqProofs) ?_
              refine VW.seq ?_
              refine VW.condB (b := ltI x_10469 (aI .i64 s.most_ 1)) (by simp) (fun g10470 => ?_) (fun g10470 => ?_)
              · replace h3 := iteT g10470 h3
                refine VW.skip ?_
                refine VW.seq ?_
                refine VW.block ?_
                refine VW.seq ?_
                refine VW.evalA (C := [(56, F56)]) (tm 107 [(1, .ptr 0 0 0), (4, .ref 1 0 l8745.length), (5, .i .i64 k_8744), (6, .i .i64 x_10202), (7, .i .i64 best_10468), (8, .i .i64 x_10469), (42, .i .i64 ((List.replicate (aI .i64 s.store_ 1).toNat 0).length : Int)), (43, .i .i64 x_10202), (48, .i .i64 (aI .i64 s.most_ 1)), (49, .i .i64 x_10469)]) [some (7, [(pT24 s)]), some (1, (rows cl_ci_i64o l8745).set k_8744.toNat [.ref 3 0 l10203.length]), none, some (1, rows ci_i64 l10203)] [] ⟨ok56, trivial⟩ (by kernel_rfl) (by simp -implicitDefEqProofs) ?_
                refine VW.seq ?_
                obtain ⟨r10471, q10472, h3⟩ := bindE h3
                have c10472 : F56 [.agg (pT24 s), .i .i64 k_8744, .i .i64 x_10202, .i .i64 x_10469] = some (.tup [.i .i64 r10471.1, .b r10471.2]) := tells_eq inj56 (a := (s, k_8744, x_10202, x_10469)) q10472
                refine VW.evalA (C := [(56, F56)]) (tm 107 [(1, .ptr 0 0 0), (4, .ref 1 0 l8745.length), (5, .i .i64 k_8744), (6, .i .i64 x_10202), (7, .i .i64 best_10468), (8, .i .i64 x_10469), (9, .i .i64 r10471.1), (10, .b r10471.2), (42, .i .i64 ((List.replicate (aI .i64 s.store_ 1).toNat 0).length : Int)), (43, .i .i64 x_10202), (48, .i .i64 (aI .i64 s.most_ 1)), (49, .i .i64 x_10469)]) [some (7, [(pT24 s)]), some (1, (rows cl_ci_i64o l8745).set k_8744.toNat [.ref 3 0 l10203.length]), none, some (1, rows ci_i64 l10203)] [] ⟨ok56, trivial⟩ (by kernel_rfl) (by simp -implicitDefEqProofs [c10472]) ?_
                refine VW.seq ?_
                refine VW.seq ?_
                obtain ⟨w10478, q10488, h3⟩ := bindE h3
                refine VW.evalA (C := [(56, F56)]) (tm 107 [(1, .ptr 0 0 0), (4, .ref 1 0 l8745.length), (5, .i .i64 k_8744), (6, .i .i64 x_10202), (7, .i .i64 best_10468), (8, .i .i64 x_10469), (9, .i .i64 r10471.1), (42, .i .i64 ((List.replicate (aI .i64 s.store_ 1).toNat 0).length : Int)), (43, .i .i64 x_10202), (48, .i .i64 (aI .i64 s.most_ 1)), (49, .i .i64 x_10469), (72, .b w10478)]) [some (7, [(pT24 s)]), some (1, (rows cl_ci_i64o l8745).set k_8744.toNat [.ref 3 0 l10203.length]), none, some (1, rows ci_i64 l10203)] [] ⟨ok56, trivial⟩ (by kernel_rfl) (by
                    rcases Bool.eq_false_or_eq_true (!r10471.2) with q10489 | q10489
                    · first
                      | (simp at q10489; done)
                      | (rw [if_pos q10489] at q10488
                         have d10490 : w10478 = _ := (Option.some.inj q10488).symm
                         simp -implicitDefEqProofs [q10489, d10490])
                    · first
                      | (simp at q10489; done)
                      | (rw [if_neg (by rw [q10489]; exact Bool.false_ne_true)] at q10488
                         obtain ⟨e10473, q10474, q10488⟩ := bindQ q10488
                         obtain ⟨f10474a, f10474b, f10474c, f10474d⟩ := idx_some q10474
                         have f10475n := succ_ne f9623a f10474a
                         obtain ⟨e10476, q10477, q10488⟩ := bindQ q10488
                         obtain ⟨f10477a, f10477b, f10477c, f10477d⟩ := idx_some q10477
                         have d10491 : w10478 = _ := (Option.some.inj q10488).symm
                         simp -implicitDefEqProofs [q10489, f10474a, f10474b, f10474c, f10474d, f10475n, f10477a, f10477b, f10477c, f10477d, d10491])) ?_
                refine VW.condB (b := w10478) (by simp) (fun g10479 => ?_) (fun g10479 => ?_)
                · replace h3 := iteT g10479 h3
                  refine VW.exit ?_
                  refine VW.evalA (C := [(56, F56)]) (tm 107 [(1, .ptr 0 0 0), (4, .ref 1 0 l8745.length), (5, .i .i64 k_8744), (6, .i .i64 x_10202), (7, .i .i64 best_10468), (42, .i .i64 ((List.replicate (aI .i64 s.store_ 1).toNat 0).length : Int)), (43, .i .i64 x_10202), (48, .i .i64 (aI .i64 s.most_ 1)), (49, .i .i64 (aI .i64 x_10469 1))]) [some (7, [(pT24 s)]), some (1, (rows cl_ci_i64o l8745).set k_8744.toNat [.ref 3 0 l10203.length]), none, some (1, rows ci_i64 l10203)] [] ⟨ok56, trivial⟩ (by kernel_rfl) (by simp -implicitDefEqProofs) ?_
                  exact (show ∃ _, _ from ⟨(best_10468, aI .i64 x_10469 1), leafL h3, (Ent.to 4 (by simp [fgt]) (by first | (simp; done) | simp [pT24]) (by simp) (by simp [bndT, bndV]) (by simp [bndM, bndV]))⟩)
                · replace h3 := iteF g10479 h3
                  refine VW.skip ?_
                  refine VW.seq ?_
                  obtain ⟨e10480, q10481, h3⟩ := bindE h3
                  obtain ⟨f10481a, f10481b, f10481c, f10481d⟩ := idx_some q10481
                  obtain ⟨e10482, q10483, h3⟩ := bindE h3
                  obtain ⟨f10483a, f10483b, f10483c, f10483d⟩ := idx_some q10483
                  have f10484n := succ_ne f9623a f10483a
                  obtain ⟨e10485, q10486, h3⟩ := bindE h3
                  obtain ⟨f10486a, f10486b, f10486c, f10486d⟩ := idx_some q10486
                  refine VW.evalDA (C := [(56, F56)]) (tm 107 [(1, .ptr 0 0 0), (4, .ref 1 0 l8745.length), (5, .i .i64 k_8744), (6, .i .i64 x_10202), (7, .i .i64 best_10468), (11, .i .i64 (aI .i64 (mI .i64 e10480 x_10469) e10485)), (42, .i .i64 ((List.replicate (aI .i64 s.store_ 1).toNat 0).length : Int)), (43, .i .i64 x_10202), (48, .i .i64 (aI .i64 s.most_ 1)), (49, .i .i64 x_10469)]) [some (7, [(pT24 s)]), some (1, (rows cl_ci_i64o l8745).set k_8744.toNat [.ref 3 0 l10203.length]), none, some (1, rows ci_i64 l10203)] [] ⟨ok56, trivial⟩ mixed (by kernel_rfl) (by simp -implicitDefEqProofs [f10481a, f10481b, f10481c, f10481d, f10483a, f10483b, f10483c, f10483d, f10484n, f10486a, f10486b, f10486c, f10486d]) ?_
                  refine VW.seq ?_
                  refine VW.evalA (C := [(56, F56)]) (tm 107 [(1, .ptr 0 0 0), (4, .ref 1 0 l8745.length), (5, .i .i64 k_8744), (6, .i .i64 x_10202), (7, .i .i64 best_10468), (11, .i .i64 (aI .i64 (mI .i64 e10480 x_10469) e10485)), (42, .i .i64 ((List.replicate (aI .i64 s.store_ 1).toNat 0).length : Int)), (43, .i .i64 x_10202), (48, .i .i64 (aI .i64 s.most_ 1)), (49, .i .i64 x_10469), (95, .b (eqI best_10468 (-1) || ltI (aI .i64 (mI .i64 e10480 x_10469) e10485) best_10468))]) [some (7, [(pT24 s)]), some (1, (rows cl_ci_i64o l8745).set k_8744.toNat [.ref 3 0 l10203.length]), none, some (1, rows ci_i64 l10203)] [] ⟨ok56, trivial⟩ (by kernel_rfl) (by simp -implicitDefEqProofs) ?_
                  refine VW.condB (b := (eqI best_10468 (-1) || ltI (aI .i64 (mI .i64 e10480 x_10469) e10485) best_10468)) (by simp) (fun g10487 => ?_) (fun g10487 => ?_)
                  · replace h3 := iteT g10487 h3
                    refine VW.evalA (C := [(56, F56)]) (tm 107 [(1, .ptr 0 0 0), (4, .ref 1 0 l8745.length), (5, .i .i64 k_8744), (6, .i .i64 x_10202), (7, .i .i64 (aI .i64 (mI .i64 e10480 x_10469) e10485)), (42, .i .i64 ((List.replicate (aI .i64 s.store_ 1).toNat 0).length : Int)), (43, .i .i64 x_10202), (48, .i .i64 (aI .i64 s.most_ 1)), (49, .i .i64 x_10469)]) [some (7, [(pT24 s)]), some (1, (rows cl_ci_i64o l8745).set k_8744.toNat [.ref 3 0 l10203.length]), none, some (1, rows ci_i64 l10203)] [] ⟨ok56, trivial⟩ (by kernel_rfl) (by simp -implicitDefEqProofs) ?_
                    refine VW.evalA (C := [(56, F56)]) (tm 107 [(1, .ptr 0 0 0), (4, .ref 1 0 l8745.length), (5, .i .i64 k_8744), (6, .i .i64 x_10202), (7, .i .i64 (aI .i64 (mI .i64 e10480 x_10469) e10485)), (42, .i .i64 ((List.replicate (aI .i64 s.store_ 1).toNat 0).length : Int)), (43, .i .i64 x_10202), (48, .i .i64 (aI .i64 s.most_ 1)), (49, .i .i64 (aI .i64 x_10469 1))]) [some (7, [(pT24 s)]), some (1, (rows cl_ci_i64o l8745).set k_8744.toNat [.ref 3 0 l10203.length]), none, some (1, rows ci_i64 l10203)] [] ⟨ok56, trivial⟩ (by kernel_rfl) (by simp -implicitDefEqProofs) ?_
                    exact (show ∃ _, _ from ⟨(aI .i64 (mI .i64 e10480 x_10469) e10485, aI .i64 x_10469 1), leafL h3, (Ent.to 4 (by simp [fgt]) (by first | (simp; done) | simp [pT24]) (by simp) (by simp [bndT, bndV]) (by simp [bndM, bndV]))⟩)
                  · replace h3 := iteF g10487 h3
                    refine VW.skip ?_
                    refine VW.evalA (C := [(56, F56)]) (tm 107 [(1, .ptr 0 0 0), (4, .ref 1 0 l8745.length), (5, .i .i64 k_8744), (6, .i .i64 x_10202), (7, .i .i64 best_10468), (42, .i .i64 ((List.replicate (aI .i64 s.store_ 1).toNat 0).length : Int)), (43, .i .i64 x_10202), (48, .i .i64 (aI .i64 s.most_ 1)), (49, .i .i64 (aI .i64 x_10469 1))]) [some (7, [(pT24 s)]), some (1, (rows cl_ci_i64o l8745).set k_8744.toNat [.ref 3 0 l10203.length]), none, some (1, rows ci_i64 l10203)] [] ⟨ok56, trivial⟩ (by kernel_rfl) (by simp -implicitDefEqProofs) ?_
                    exact (show ∃ _, _ from ⟨(best_10468, aI .i64 x_10469 1), leafL h3, (Ent.to 4 (by simp [fgt]) (by first | (simp; done) | simp [pT24]) (by simp) (by simp [bndT, bndV]) (by simp [bndM, bndV]))⟩)
              · replace h3 := iteF g10470 h3
                refine VW.exit ?_
                have e_ := leafR h3
                subst w_3
                exact (show ∃ _, _ from ⟨best_10468, h2, (Ent.to 4 (by simp [fgt]) (by first | (simp; done) | simp [pT24]) (by simp) (by simp [bndT, bndV]) (by simp [bndM, bndV]))⟩)
            · rintro best_10419 h2
              replace h2 : (g63_j4 l10203 x_10202 best_10419).bind _ = _ := h2
              rw [g63_j4] at h2
              obtain ⟨e10420, q10421, h2⟩ := bindE h2
              obtain ⟨f10421a, f10421b, f10421c, f10421d⟩ := idx_some q10421
              refine VW.evalA (C := [(56, F56)]) (tm 107 [(1, .ptr 0 0 0), (4, .ref 1 0 l8745.length), (5, .i .i64 k_8744), (42, .i .i64 ((List.replicate (aI .i64 s.store_ 1).toNat 0).length : Int)), (43, .i .i64 x_10202)]) [some (7, [(pT24 s)]), some (1, (rows cl_ci_i64o l8745).set k_8744.toNat [.ref 3 0 (l10203.set x_10202.toNat best_10419).length]), none, some (1, rows ci_i64 (l10203.set x_10202.toNat best_10419))] [] ⟨ok56, trivial⟩ (by kernel_rfl) (by simp -implicitDefEqProofs [f10421a, f10421b, f10421c, f10421d, f9623a, f9623b, f9623c, f9623d]) ?_
              exact (show ∃ _, _ from ⟨(l10203.set x_10202.toNat best_10419), h2, (Ent.to 4 (by simp [fgt]) (by first | (simp; done) | simp [pT24]) (by simp) (by simp [bndT, bndV]) (by simp [bndM, bndV]))⟩)
          · rintro l10348 h2
            replace h2 : (g63_j3 x_10202 l10348).bind _ = _ := h2
            rw [g63_j3] at h2
            refine VW.evalA (C := [(56, F56)]) (tm 107 [(1, .ptr 0 0 0), (4, .ref 1 0 l8745.length), (5, .i .i64 k_8744), (42, .i .i64 ((List.replicate (aI .i64 s.store_ 1).toNat 0).length : Int)), (43, .i .i64 (aI .i64 x_10202 1))]) [some (7, [(pT24 s)]), some (1, (rows cl_ci_i64o l8745).set k_8744.toNat [.ref 3 0 l10348.length]), none, some (1, rows ci_i64 l10348)] [] ⟨ok56, trivial⟩ (by kernel_rfl) (by simp -implicitDefEqProofs) ?_
            exact (show ∃ _, _ from ⟨(aI .i64 x_10202 1, l10348), leafL h2, (Ent.to 4 (by simp [fgt]) (by first | (simp; done) | simp [pT24]) (by simp) (by simp [bndT, bndV]) (by simp [bndM, bndV]))⟩)
        · replace h2 := iteF g10204 h2
          refine VW.exit ?_
          have e_ := leafR h2
          subst w_2
          exact (show ∃ _, _ from ⟨(l8745.set k_8744.toNat l10203), h1, (Ent.trans (Ent.absorb (m := [some (7, [(pT24 s)]), some (1, (rows cl_ci_i64o l8745).set k_8744.toNat [.ref 3 0 l10203.length]), none, some (1, rows ci_i64 l10203)]) (n := 1) (n' := 1) (es := (rows cl_ci_i64o l8745).set k_8744.toNat [.ref 3 0 l10203.length]) (es' := rows ci_i64 l10203) (cs := [.ref 3 0 l10203.length]) 1 k_8744.toNat 0 3 l10203.length [some (7, [(pT24 s)]), some (1, rows cl_ci_i64o (l8745.set k_8744.toNat l10203)), none, none] rfl (by simp [f9623a, f9623b, f9623c, f9623d]) rfl rfl (by decide) (by simp) (by simp) (by simp)) (Ent.to 3 (by simp [fgt]) (by first | (simp; done) | simp [pT24]) (by simp) (by simp [bndT, bndV]) (by simp [bndM, bndV])))⟩)
      · rintro l9619 h1
        replace h1 : (g63_j2 k_8744 l9619).bind _ = _ := h1
        rw [g63_j2] at h1
        refine VW.evalA (C := [(56, F56)]) (tm 107 [(1, .ptr 0 0 0), (4, .ref 1 0 l9619.length), (5, .i .i64 (sI .i64 k_8744 1))]) [some (7, [(pT24 s)]), some (1, rows cl_ci_i64o l9619), none] [] ⟨ok56, trivial⟩ (by kernel_rfl) (by simp -implicitDefEqProofs) ?_
        exact (show ∃ _, _ from ⟨(sI .i64 k_8744 1, l9619), leafL h1, (Ent.to 3 (by simp [fgt]) (by first | (simp; done) | simp [pT24]) (by simp) (by simp [bndT, bndV]) (by simp [bndM, bndV]))⟩)
    · replace h1 := iteF g8746 h1
      refine VW.exit ?_
      have e_ := leafR h1
      subst w_1
      exact (show ∃ _, _ from ⟨l8745, h, (Ent.to 3 (by simp [fgt]) (by first | (simp; done) | simp [pT24]) (by simp) (by simp [bndT, bndV]) (by simp [bndM, bndV]))⟩)
  · rintro l5249 h
    replace h : (g63_j1 l5249).bind _ = _ := h
    rw [g63_j1] at h
    refine VW.seq ?_
    refine VW.evalA (C := [(56, F56)]) (tm 107 [(2, .ref 1 0 l5249.length)]) [some (7, [(pT24 s)]), some (1, rows cl_ci_i64o l5249), none] [] ⟨ok56, trivial⟩ (by kernel_rfl) (by simp -implicitDefEqProofs) ?_
    obtain rfl := leafS h
    refine VW.ret (VRet.fin ?_)
    simp [eB63]
noncomputable def g67 (list : List Int) : Option (List Int) :=
  (appK 8 [] list).bind fun u1 =>
  some list
def eA67 (a : List Int) : List V := [.sl 1 (rows ci_i64 a)]
def eB67 (r : List Int) : V := .own 1 (rows ci_i64 r)
theorem inj67 (a a' : List Int) (h : eA67 a = eA67 a') : a = a' := by
  obtain i731 := a
  obtain i732 := a'
  simp only [eA67, List.cons.injEq, V.i.injEq, V.b.injEq, V.f.injEq, V.str.injEq, V.sl.injEq, V.agg.injEq, V.cptr.injEq, true_and, and_true] at h
  simp_all [ri ci_i64_inj]
noncomputable def F67 : List V → Option V := tells (fun a => g67 a) eA67 eB67
set_option maxRecDepth 100000 in
set_option maxHeartbeats 4000000 in
/- loop.example/g01229/spec.l00Own -/
theorem ok67 : Tells Try.prog 67 F67 := by
  refine Tells.of (by kernel_rfl) ?_
  rintro list r h
  refine VCalls.nl (VCalls.of Try.func67 rfl rfl rfl ?_)
  rw [tm_init]
  simp only [eA67, en, List.length_cons, List.length_nil, Nat.reduceAdd, Nat.reduceSub]
  replace h : (g67 list).bind some = some r := bindS h
  rw [g67] at h
  refine VW.seq ?_
  refine VW.evalA (C := []) (tm 6 [(0, .sl 1 (rows ci_i64 list))]) [] [] trivial (by kernel_rfl) (by simp -implicitDefEqProofs) ?_
  refine VW.seq ?_
  obtain ⟨u1, q2, h⟩ := bindE h
  obtain ⟨f2a, f2b⟩ := appK_some q2
  try simp only [Int.toNat_natCast, Int.reduceToNat, List.length_cons, List.length_nil, Nat.reduceAdd, Nat.zero_add] at f2a f2b
  refine VW.evalA (C := []) (tm 6 [(2, .ref 0 0 list.length)]) [some (1, rows ci_i64 list)] [] trivial (by kernel_rfl) (by simp -implicitDefEqProofs [f2a, f2b]) ?_
  obtain rfl := leafS h
  refine VW.ret (VRet.fin ?_)
  simp [eB67]
noncomputable def g41 (s : T24) (slot : Int) : Option (Int × Int) :=
  (g51 s).bind fun r1 =>
  if (!r1) = true then
    some (0, 1)
  else
    (g54 slot 0 (sI .i64 (s.need_.length : Int) 1)).bind fun r4 =>
    (if (!r4) = true then some true else (idx s.need_ slot).bind fun e6 => some (eqI e6 200)).bind fun w8 =>
    if w8 = true then
      some (0, 2)
    else
      (g62 s).bind fun r10 =>
      if eqI r10.2 (-1) = true then
        some (0, 6)
      else
        (g67 s.need_).bind fun r13 =>
        (idx r13 slot).bind fun e15 =>
        (g62 (⟨(r13.set slot.toNat (aI .i64 e15 1)), s.price_, s.most_, s.yield_, s.store_, s.first_, s.loss_⟩ : T24)).bind fun r17 =>
        if eqI r17.2 (-1) = true then
          some (0, 4)
        else
          some (sI .i64 r17.2 r10.2, 0)
def eA41 (a : T24 × Int) : List V := [.agg (pT24 a.1), .i .i64 a.2]
def eB41 (r : Int × Int) : V := .tup [.i .i64 r.1, .i .i64 r.2]
theorem inj41 (a a' : T24 × Int) (h : eA41 a = eA41 a') : a = a' := by
  obtain ⟨⟨i733, i734, i735, i736, i737, i738, i739⟩, i740⟩ := a
  obtain ⟨⟨i741, i742, i743, i744, i745, i746, i747⟩, i748⟩ := a'
  simp only [eA41, pT24, List.cons.injEq, V.i.injEq, V.b.injEq, V.f.injEq, V.str.injEq, V.sl.injEq, V.agg.injEq, V.cptr.injEq, true_and, and_true] at h
  simp_all [ri ci_i64_inj]
noncomputable def F41 : List V → Option V := tells (fun a => g41 a.1 a.2) eA41 eB41
set_option maxRecDepth 100000 in
set_option maxHeartbeats 4000000 in
/- loop.example/g01229/spec.MarginOf -/
theorem ok41 : Tells Try.prog 41 F41 := by
  refine Tells.of (by kernel_rfl) ?_
  rintro ⟨s, slot⟩ r h
  refine VCalls.nl (VCalls.of Try.func41 rfl rfl rfl ?_)
  rw [tm_init]
  simp only [eA41, en, List.length_cons, List.length_nil, Nat.reduceAdd, Nat.reduceSub]
  replace h : (g41 s slot).bind some = some r := bindS h
  rw [g41] at h
  refine VW.seq ?_
  refine VW.evalA (C := [(51, F51), (54, F54), (62, F62), (67, F67)]) (tm 53 [(1, .i .i64 slot), (2, .ptr 0 0 0)]) [some (7, [(pT24 s)])] [] ⟨ok51, ok54, ok62, ok67, trivial⟩ (by kernel_rfl) (by simp -implicitDefEqProofs) ?_
  refine VW.seq ?_
  refine VW.seq ?_
  obtain ⟨r1, q2, h⟩ := bindE h
  have c2 : F51 [.cptr (pT24 s) 0] = some (.b r1) := tells_eq inj51 (a := s) q2
  refine VW.evalA (C := [(51, F51), (54, F54), (62, F62), (67, F67)]) (tm 53 [(1, .i .i64 slot), (2, .ptr 0 0 0), (11, .b (!r1))]) [some (7, [(pT24 s)])] [] ⟨ok51, ok54, ok62, ok67, trivial⟩ (by kernel_rfl) (by simp -implicitDefEqProofs [c2]) ?_
  refine VW.condB (b := (!r1)) (by simp) (fun g3 => ?_) (fun g3 => ?_)
  · replace h := iteT g3 h
    refine VW.seq ?_
    refine VW.evalA (C := [(51, F51), (54, F54), (62, F62), (67, F67)]) (tm 53 [(4, .i .i64 0), (5, .i .i64 1)]) [some (7, [(pT24 s)])] [] ⟨ok51, ok54, ok62, ok67, trivial⟩ (by kernel_rfl) (by simp -implicitDefEqProofs) ?_
    obtain rfl := leafS h
    refine VW.ret (VRet.fin ?_)
    simp [eB41]
  · replace h := iteF g3 h
    refine VW.skip ?_
    refine VW.seq ?_
    refine VW.seq ?_
    obtain ⟨r4, q5, h⟩ := bindE h
    have c5 : F54 [.i .i64 slot, .i .i64 0, .i .i64 (sI .i64 (s.need_.length : Int) 1)] = some (.b r4) := tells_eq inj54 (a := (slot, 0, sI .i64 (s.need_.length : Int) 1)) q5
    obtain ⟨w8, q20, h⟩ := bindE h
    refine VW.evalA (C := [(51, F51), (54, F54), (62, F62), (67, F67)]) (tm 53 [(1, .i .i64 slot), (2, .ptr 0 0 0), (26, .b w8)]) [some (7, [(pT24 s)])] [] ⟨ok51, ok54, ok62, ok67, trivial⟩ (by kernel_rfl) (by
        rcases Bool.eq_false_or_eq_true (!r4) with q21 | q21
        · first
          | (simp at q21; done)
          | (rw [if_pos q21] at q20
             have d22 : w8 = _ := (Option.some.inj q20).symm
             simp -implicitDefEqProofs [c5, q21, d22])
        · first
          | (simp at q21; done)
          | (rw [if_neg (by rw [q21]; exact Bool.false_ne_true)] at q20
             obtain ⟨e6, q7, q20⟩ := bindQ q20
             obtain ⟨f7a, f7b, f7c, f7d⟩ := idx_some q7
             have d23 : w8 = _ := (Option.some.inj q20).symm
             simp -implicitDefEqProofs [c5, q21, f7a, f7b, f7c, f7d, d23])) ?_
    refine VW.condB (b := w8) (by simp) (fun g9 => ?_) (fun g9 => ?_)
    · replace h := iteT g9 h
      refine VW.seq ?_
      refine VW.evalA (C := [(51, F51), (54, F54), (62, F62), (67, F67)]) (tm 53 [(4, .i .i64 0), (5, .i .i64 2)]) [some (7, [(pT24 s)])] [] ⟨ok51, ok54, ok62, ok67, trivial⟩ (by kernel_rfl) (by simp -implicitDefEqProofs) ?_
      obtain rfl := leafS h
      refine VW.ret (VRet.fin ?_)
      simp [eB41]
    · replace h := iteF g9 h
      refine VW.skip ?_
      refine VW.seq ?_
      obtain ⟨r10, q11, h⟩ := bindE h
      have c11 : F62 [.cptr (pT24 s) 0] = some (.tup [.own 1 (rows ci_i64 r10.1), .i .i64 r10.2]) := tells_eq inj62 (a := s) q11
      refine VW.evalA (C := [(51, F51), (54, F54), (62, F62), (67, F67)]) (tm 53 [(1, .i .i64 slot), (2, .ptr 0 0 0), (7, .i .i64 r10.2)]) [some (7, [(pT24 s)]), some (1, rows ci_i64 r10.1)] [] ⟨ok51, ok54, ok62, ok67, trivial⟩ (by kernel_rfl) (by simp -implicitDefEqProofs [c11]) ?_
      refine VW.seq ?_
      refine VW.seq ?_
      refine VW.evalA (C := [(51, F51), (54, F54), (62, F62), (67, F67)]) (tm 53 [(1, .i .i64 slot), (2, .ptr 0 0 0), (7, .i .i64 r10.2), (32, .b (eqI r10.2 (-1)))]) [some (7, [(pT24 s)]), some (1, rows ci_i64 r10.1)] [] ⟨ok51, ok54, ok62, ok67, trivial⟩ (by kernel_rfl) (by simp -implicitDefEqProofs) ?_
      refine VW.condB (b := eqI r10.2 (-1)) (by simp) (fun g12 => ?_) (fun g12 => ?_)
      · replace h := iteT g12 h
        refine VW.seq ?_
        refine VW.evalA (C := [(51, F51), (54, F54), (62, F62), (67, F67)]) (tm 53 [(4, .i .i64 0), (5, .i .i64 6)]) [some (7, [(pT24 s)]), some (1, rows ci_i64 r10.1)] [] ⟨ok51, ok54, ok62, ok67, trivial⟩ (by kernel_rfl) (by simp -implicitDefEqProofs) ?_
        obtain rfl := leafS h
        refine VW.ret (VRet.fin ?_)
        simp [eB41]
      · replace h := iteF g12 h
        refine VW.skip ?_
        refine VW.seq ?_
        obtain ⟨r13, q14, h⟩ := bindE h
        have c14 : F67 [.sl 1 (rows ci_i64 s.need_)] = some (.own 1 (rows ci_i64 r13)) := tells_eq inj67 (a := s.need_) q14
        refine VW.evalA (C := [(51, F51), (54, F54), (62, F62), (67, F67)]) (tm 53 [(1, .i .i64 slot), (2, .ptr 0 0 0), (7, .i .i64 r10.2)]) [some (7, [[.ref 2 0 r13.length, .sl 1 (rows ci_i64 s.price_), .i .i64 s.most_, .i .i64 s.yield_, .i .i64 s.store_, .i .i64 s.first_, .i .i64 s.loss_]]), some (1, rows ci_i64 r10.1), some (1, rows ci_i64 r13)] [] ⟨ok51, ok54, ok62, ok67, trivial⟩ (by kernel_rfl) (by simp -implicitDefEqProofs [c14, pT24]) ?_
        refine VW.seq ?_
        obtain ⟨e15, q16, h⟩ := bindE h
        obtain ⟨f16a, f16b, f16c, f16d⟩ := idx_some q16
        refine VW.evalA (C := [(51, F51), (54, F54), (62, F62), (67, F67)]) (tm 53 [(2, .ptr 0 0 0), (7, .i .i64 r10.2)]) [some (7, [[.ref 2 0 (r13.set slot.toNat (aI .i64 e15 1)).length, .sl 1 (rows ci_i64 s.price_), .i .i64 s.most_, .i .i64 s.yield_, .i .i64 s.store_, .i .i64 s.first_, .i .i64 s.loss_]]), some (1, rows ci_i64 r10.1), some (1, rows ci_i64 (r13.set slot.toNat (aI .i64 e15 1)))] [] ⟨ok51, ok54, ok62, ok67, trivial⟩ (by kernel_rfl) (by simp -implicitDefEqProofs [f16a, f16b, f16c, f16d]) ?_
        refine VW.seq ?_
        obtain ⟨r17, q18, h⟩ := bindE h
        have c18 : F62 [.cptr [.sl 1 (rows ci_i64 ((⟨(r13.set slot.toNat (aI .i64 e15 1)), s.price_, s.most_, s.yield_, s.store_, s.first_, s.loss_⟩ : T24).need_)), .sl 1 (rows ci_i64 ((⟨(r13.set slot.toNat (aI .i64 e15 1)), s.price_, s.most_, s.yield_, s.store_, s.first_, s.loss_⟩ : T24).price_)), .i .i64 ((⟨(r13.set slot.toNat (aI .i64 e15 1)), s.price_, s.most_, s.yield_, s.store_, s.first_, s.loss_⟩ : T24).most_), .i .i64 ((⟨(r13.set slot.toNat (aI .i64 e15 1)), s.price_, s.most_, s.yield_, s.store_, s.first_, s.loss_⟩ : T24).yield_), .i .i64 ((⟨(r13.set slot.toNat (aI .i64 e15 1)), s.price_, s.most_, s.yield_, s.store_, s.first_, s.loss_⟩ : T24).store_), .i .i64 ((⟨(r13.set slot.toNat (aI .i64 e15 1)), s.price_, s.most_, s.yield_, s.store_, s.first_, s.loss_⟩ : T24).first_), .i .i64 ((⟨(r13.set slot.toNat (aI .i64 e15 1)), s.price_, s.most_, s.yield_, s.store_, s.first_, s.loss_⟩ : T24).loss_)] 0] = some (.tup [.own 1 (rows ci_i64 r17.1), .i .i64 r17.2]) := tells_eq inj62 (a := (⟨(r13.set slot.toNat (aI .i64 e15 1)), s.price_, s.most_, s.yield_, s.store_, s.first_, s.loss_⟩ : T24)) q18
        refine VW.evalA (C := [(51, F51), (54, F54), (62, F62), (67, F67)]) (tm 53 [(7, .i .i64 r10.2), (9, .i .i64 r17.2)]) [some (7, [[.ref 2 0 (r13.set slot.toNat (aI .i64 e15 1)).length, .sl 1 (rows ci_i64 s.price_), .i .i64 s.most_, .i .i64 s.yield_, .i .i64 s.store_, .i .i64 s.first_, .i .i64 s.loss_]]), some (1, rows ci_i64 r10.1), some (1, rows ci_i64 (r13.set slot.toNat (aI .i64 e15 1))), some (1, rows ci_i64 r17.1)] [] ⟨ok51, ok54, ok62, ok67, trivial⟩ (by kernel_rfl) (by simp -implicitDefEqProofs [c18]) ?_
        refine VW.seq ?_
        refine VW.seq ?_
        refine VW.evalA (C := [(51, F51), (54, F54), (62, F62), (67, F67)]) (tm 53 [(7, .i .i64 r10.2), (9, .i .i64 r17.2), (49, .b (eqI r17.2 (-1)))]) [some (7, [[.ref 2 0 (r13.set slot.toNat (aI .i64 e15 1)).length, .sl 1 (rows ci_i64 s.price_), .i .i64 s.most_, .i .i64 s.yield_, .i .i64 s.store_, .i .i64 s.first_, .i .i64 s.loss_]]), some (1, rows ci_i64 r10.1), some (1, rows ci_i64 (r13.set slot.toNat (aI .i64 e15 1))), some (1, rows ci_i64 r17.1)] [] ⟨ok51, ok54, ok62, ok67, trivial⟩ (by kernel_rfl) (by simp -implicitDefEqProofs) ?_
        refine VW.condB (b := eqI r17.2 (-1)) (by simp) (fun g19 => ?_) (fun g19 => ?_)
        · replace h := iteT g19 h
          refine VW.seq ?_
          refine VW.evalA (C := [(51, F51), (54, F54), (62, F62), (67, F67)]) (tm 53 [(4, .i .i64 0), (5, .i .i64 4)]) [some (7, [[.ref 2 0 (r13.set slot.toNat (aI .i64 e15 1)).length, .sl 1 (rows ci_i64 s.price_), .i .i64 s.most_, .i .i64 s.yield_, .i .i64 s.store_, .i .i64 s.first_, .i .i64 s.loss_]]), some (1, rows ci_i64 r10.1), some (1, rows ci_i64 (r13.set slot.toNat (aI .i64 e15 1))), some (1, rows ci_i64 r17.1)] [] ⟨ok51, ok54, ok62, ok67, trivial⟩ (by kernel_rfl) (by simp -implicitDefEqProofs) ?_
          obtain rfl := leafS h
          refine VW.ret (VRet.fin ?_)
          simp [eB41]
        · replace h := iteF g19 h
          refine VW.skip ?_
          refine VW.seq ?_
          refine VW.evalA (C := [(51, F51), (54, F54), (62, F62), (67, F67)]) (tm 53 [(4, .i .i64 (sI .i64 r17.2 r10.2)), (5, .i .i64 0)]) [some (7, [[.ref 2 0 (r13.set slot.toNat (aI .i64 e15 1)).length, .sl 1 (rows ci_i64 s.price_), .i .i64 s.most_, .i .i64 s.yield_, .i .i64 s.store_, .i .i64 s.first_, .i .i64 s.loss_]]), some (1, rows ci_i64 r10.1), some (1, rows ci_i64 (r13.set slot.toNat (aI .i64 e15 1))), some (1, rows ci_i64 r17.1)] [] ⟨ok51, ok54, ok62, ok67, trivial⟩ (by kernel_rfl) (by simp -implicitDefEqProofs) ?_
          obtain rfl := leafS h
          refine VW.ret (VRet.fin ?_)
          simp [eB41]
noncomputable def g42 (s : T24) (slot : Int) : Option (Int × Int) :=
  (g18 s).bind fun r1 =>
  if (!r1) = true then
    some (0, 1)
  else
    (if (ltI slot 0 || leI (s.need_.length : Int) slot) = true then some true else (idx s.need_ slot).bind fun e4 => some (eqI e4 200)).bind fun w6 =>
    if w6 = true then
      some (0, 2)
    else
      (g63 s).bind fun r8 =>
      (idx r8 0).bind fun e10 =>
      (idx e10 s.first_).bind fun e12 =>
      if eqI e12 (-1) = true then
        some (0, 6)
      else
        (appK 8 [] s.need_).bind fun u15 =>
        (idx s.need_ slot).bind fun e17 =>
        (g63 (⟨(s.need_.set slot.toNat (aI .i64 e17 1)), s.price_, s.most_, s.yield_, s.store_, s.first_, s.loss_⟩ : T24)).bind fun r19 =>
        (idx r19 0).bind fun e21 =>
        (idx e21 s.first_).bind fun e23 =>
        if eqI e23 (-1) = true then
          some (0, 4)
        else
          some (sI .i64 e23 e12, 0)
def eA42 (a : T24 × Int) : List V := [.agg (pT24 a.1), .i .i64 a.2]
def eB42 (r : Int × Int) : V := .tup [.i .i64 r.1, .i .i64 r.2]
theorem inj42 (a a' : T24 × Int) (h : eA42 a = eA42 a') : a = a' := by
  obtain ⟨⟨i749, i750, i751, i752, i753, i754, i755⟩, i756⟩ := a
  obtain ⟨⟨i757, i758, i759, i760, i761, i762, i763⟩, i764⟩ := a'
  simp only [eA42, pT24, List.cons.injEq, V.i.injEq, V.b.injEq, V.f.injEq, V.str.injEq, V.sl.injEq, V.agg.injEq, V.cptr.injEq, true_and, and_true] at h
  simp_all [ri ci_i64_inj]
noncomputable def F42 : List V → Option V := tells (fun a => g42 a.1 a.2) eA42 eB42
set_option maxRecDepth 100000 in
set_option maxHeartbeats 4000000 in
/- loop.example/g01229/impl.MarginOf -/
theorem ok42 : Tells Try.prog 42 F42 := by
  refine Tells.of (by kernel_rfl) ?_
  rintro ⟨s, slot⟩ r h
  refine VCalls.nl (VCalls.of Try.func42 rfl rfl rfl ?_)
  rw [tm_init]
  simp only [eA42, en, List.length_cons, List.length_nil, Nat.reduceAdd, Nat.reduceSub]
  replace h : (g42 s slot).bind some = some r := bindS h
  rw [g42] at h
  refine VW.seq ?_
  refine VW.evalA (C := [(18, F18), (63, F63)]) (tm 65 [(1, .i .i64 slot), (2, .ptr 0 0 0)]) [some (7, [(pT24 s)])] [] ⟨ok18, ok63, trivial⟩ (by kernel_rfl) (by simp -implicitDefEqProofs) ?_
  refine VW.seq ?_
  refine VW.block ?_
  refine VW.seq ?_
  obtain ⟨r1, q2, h⟩ := bindE h
  have c2 : F18 [.agg (pT24 s)] = some (.b r1) := tells_eq inj18 (a := s) q2
  refine VW.evalA (C := [(18, F18), (63, F63)]) (tm 65 [(1, .i .i64 slot), (2, .ptr 0 0 0), (8, .b (!r1))]) [some (7, [(pT24 s)])] [] ⟨ok18, ok63, trivial⟩ (by kernel_rfl) (by simp -implicitDefEqProofs [c2]) ?_
  refine VW.condB (b := (!r1)) (by simp) (fun g3 => ?_) (fun g3 => ?_)
  · replace h := iteT g3 h
    refine VW.seq ?_
    refine VW.evalA (C := [(18, F18), (63, F63)]) (tm 65 [(4, .i .i64 0), (5, .i .i64 1)]) [some (7, [(pT24 s)])] [] ⟨ok18, ok63, trivial⟩ (by kernel_rfl) (by simp -implicitDefEqProofs) ?_
    obtain rfl := leafS h
    refine VW.ret (VRet.fin ?_)
    simp [eB42]
  · replace h := iteF g3 h
    refine VW.seq ?_
    obtain ⟨w6, q26, h⟩ := bindE h
    refine VW.evalA (C := [(18, F18), (63, F63)]) (tm 65 [(1, .i .i64 slot), (2, .ptr 0 0 0), (12, .b w6)]) [some (7, [(pT24 s)])] [] ⟨ok18, ok63, trivial⟩ (by kernel_rfl) (by
        rcases Bool.eq_false_or_eq_true (ltI slot 0 || leI (s.need_.length : Int) slot) with q27 | q27
        · first
          | (simp at q27; done)
          | (rw [if_pos q27] at q26
             have d28 : w6 = _ := (Option.some.inj q26).symm
             simp -implicitDefEqProofs [q27, d28])
        · first
          | (simp at q27; done)
          | (rw [if_neg (by rw [q27]; exact Bool.false_ne_true)] at q26
             obtain ⟨e4, q5, q26⟩ := bindQ q26
             obtain ⟨f5a, f5b, f5c, f5d⟩ := idx_some q5
             have d29 : w6 = _ := (Option.some.inj q26).symm
             simp -implicitDefEqProofs [q27, f5a, f5b, f5c, f5d, d29])) ?_
    refine VW.condB (b := w6) (by simp) (fun g7 => ?_) (fun g7 => ?_)
    · replace h := iteT g7 h
      refine VW.seq ?_
      refine VW.evalA (C := [(18, F18), (63, F63)]) (tm 65 [(4, .i .i64 0), (5, .i .i64 2)]) [some (7, [(pT24 s)])] [] ⟨ok18, ok63, trivial⟩ (by kernel_rfl) (by simp -implicitDefEqProofs) ?_
      obtain rfl := leafS h
      refine VW.ret (VRet.fin ?_)
      simp [eB42]
    · replace h := iteF g7 h
      refine VW.skip ?_
      refine VW.seq ?_
      obtain ⟨r8, q9, h⟩ := bindE h
      have c9 : F63 [.agg (pT24 s)] = some (.own 1 (rows cl_ci_i64o r8)) := tells_eq inj63 (a := s) q9
      obtain ⟨e10, q11, h⟩ := bindE h
      obtain ⟨f11a, f11b, f11c, f11d⟩ := idx_some q11
      try simp only [Int.toNat_natCast, Int.reduceToNat] at f11a f11b f11c f11d
      obtain ⟨e12, q13, h⟩ := bindE h
      obtain ⟨f13a, f13b, f13c, f13d⟩ := idx_some q13
      refine VW.evalDA (C := [(18, F18), (63, F63)]) (tm 65 [(1, .i .i64 slot), (2, .ptr 0 0 0), (6, .i .i64 e12)]) [some (7, [(pT24 s)]), some (1, rows cl_ci_i64 r8)] [] ⟨ok18, ok63, trivial⟩ mixed (by kernel_rfl) (by simp -implicitDefEqProofs [c9, f11a, f11b, f11c, f11d, f13a, f13b, f13c, f13d]) ?_
      refine VW.seq ?_
      refine VW.seq ?_
      refine VW.evalA (C := [(18, F18), (63, F63)]) (tm 65 [(1, .i .i64 slot), (2, .ptr 0 0 0), (6, .i .i64 e12), (39, .b (eqI e12 (-1)))]) [some (7, [(pT24 s)]), some (1, rows cl_ci_i64 r8)] [] ⟨ok18, ok63, trivial⟩ (by kernel_rfl) (by simp -implicitDefEqProofs) ?_
      refine VW.condB (b := eqI e12 (-1)) (by simp) (fun g14 => ?_) (fun g14 => ?_)
      · replace h := iteT g14 h
        refine VW.seq ?_
        refine VW.evalA (C := [(18, F18), (63, F63)]) (tm 65 [(4, .i .i64 0), (5, .i .i64 6)]) [some (7, [(pT24 s)]), some (1, rows cl_ci_i64 r8)] [] ⟨ok18, ok63, trivial⟩ (by kernel_rfl) (by simp -implicitDefEqProofs) ?_
        obtain rfl := leafS h
        refine VW.ret (VRet.fin ?_)
        simp [eB42]
      · replace h := iteF g14 h
        refine VW.skip ?_
        refine VW.seq ?_
        obtain ⟨u15, q16, h⟩ := bindE h
        obtain ⟨f16a, f16b⟩ := appK_some q16
        try simp only [Int.toNat_natCast, Int.reduceToNat, List.length_cons, List.length_nil, Nat.reduceAdd, Nat.zero_add] at f16a f16b
        refine VW.evalA (C := [(18, F18), (63, F63)]) (tm 65 [(1, .i .i64 slot), (2, .ptr 0 0 0), (6, .i .i64 e12)]) [some (7, [[.ref 2 0 s.need_.length, .sl 1 (rows ci_i64 s.price_), .i .i64 s.most_, .i .i64 s.yield_, .i .i64 s.store_, .i .i64 s.first_, .i .i64 s.loss_]]), some (1, rows cl_ci_i64 r8), some (1, rows ci_i64 s.need_)] [] ⟨ok18, ok63, trivial⟩ (by kernel_rfl) (by simp -implicitDefEqProofs [f16a, f16b, pT24]) ?_
        refine VW.seq ?_
        obtain ⟨e17, q18, h⟩ := bindE h
        obtain ⟨f18a, f18b, f18c, f18d⟩ := idx_some q18
        refine VW.evalA (C := [(18, F18), (63, F63)]) (tm 65 [(2, .ptr 0 0 0), (6, .i .i64 e12)]) [some (7, [[.ref 2 0 (s.need_.set slot.toNat (aI .i64 e17 1)).length, .sl 1 (rows ci_i64 s.price_), .i .i64 s.most_, .i .i64 s.yield_, .i .i64 s.store_, .i .i64 s.first_, .i .i64 s.loss_]]), some (1, rows cl_ci_i64 r8), some (1, rows ci_i64 (s.need_.set slot.toNat (aI .i64 e17 1)))] [] ⟨ok18, ok63, trivial⟩ (by kernel_rfl) (by simp -implicitDefEqProofs [f18a, f18b, f18c, f18d]) ?_
        refine VW.seq ?_
        obtain ⟨r19, q20, h⟩ := bindE h
        have c20 : F63 [.agg [.sl 1 (rows ci_i64 ((⟨(s.need_.set slot.toNat (aI .i64 e17 1)), s.price_, s.most_, s.yield_, s.store_, s.first_, s.loss_⟩ : T24).need_)), .sl 1 (rows ci_i64 ((⟨(s.need_.set slot.toNat (aI .i64 e17 1)), s.price_, s.most_, s.yield_, s.store_, s.first_, s.loss_⟩ : T24).price_)), .i .i64 ((⟨(s.need_.set slot.toNat (aI .i64 e17 1)), s.price_, s.most_, s.yield_, s.store_, s.first_, s.loss_⟩ : T24).most_), .i .i64 ((⟨(s.need_.set slot.toNat (aI .i64 e17 1)), s.price_, s.most_, s.yield_, s.store_, s.first_, s.loss_⟩ : T24).yield_), .i .i64 ((⟨(s.need_.set slot.toNat (aI .i64 e17 1)), s.price_, s.most_, s.yield_, s.store_, s.first_, s.loss_⟩ : T24).store_), .i .i64 ((⟨(s.need_.set slot.toNat (aI .i64 e17 1)), s.price_, s.most_, s.yield_, s.store_, s.first_, s.loss_⟩ : T24).first_), .i .i64 ((⟨(s.need_.set slot.toNat (aI .i64 e17 1)), s.price_, s.most_, s.yield_, s.store_, s.first_, s.loss_⟩ : T24).loss_)]] = some (.own 1 (rows cl_ci_i64o r19)) := tells_eq inj63 (a := (⟨(s.need_.set slot.toNat (aI .i64 e17 1)), s.price_, s.most_, s.yield_, s.store_, s.first_, s.loss_⟩ : T24)) q20
        obtain ⟨e21, q22, h⟩ := bindE h
        obtain ⟨f22a, f22b, f22c, f22d⟩ := idx_some q22
        try simp only [Int.toNat_natCast, Int.reduceToNat] at f22a f22b f22c f22d
        obtain ⟨e23, q24, h⟩ := bindE h
        obtain ⟨f24a, f24b, f24c, f24d⟩ := idx_some q24
        refine VW.evalDA (C := [(18, F18), (63, F63)]) (tm 65 [(6, .i .i64 e12), (7, .i .i64 e23)]) [some (7, [[.ref 2 0 (s.need_.set slot.toNat (aI .i64 e17 1)).length, .sl 1 (rows ci_i64 s.price_), .i .i64 s.most_, .i .i64 s.yield_, .i .i64 s.store_, .i .i64 s.first_, .i .i64 s.loss_]]), some (1, rows cl_ci_i64 r8), some (1, rows ci_i64 (s.need_.set slot.toNat (aI .i64 e17 1))), some (1, rows cl_ci_i64 r19)] [] ⟨ok18, ok63, trivial⟩ mixed (by kernel_rfl) (by simp -implicitDefEqProofs [c20, f22a, f22b, f22c, f22d, f24a, f24b, f24c, f24d]) ?_
        refine VW.seq ?_
        refine VW.seq ?_
        refine VW.evalA (C := [(18, F18), (63, F63)]) (tm 65 [(6, .i .i64 e12), (7, .i .i64 e23), (61, .b (eqI e23 (-1)))]) [some (7, [[.ref 2 0 (s.need_.set slot.toNat (aI .i64 e17 1)).length, .sl 1 (rows ci_i64 s.price_), .i .i64 s.most_, .i .i64 s.yield_, .i .i64 s.store_, .i .i64 s.first_, .i .i64 s.loss_]]), some (1, rows cl_ci_i64 r8), some (1, rows ci_i64 (s.need_.set slot.toNat (aI .i64 e17 1))), some (1, rows cl_ci_i64 r19)] [] ⟨ok18, ok63, trivial⟩ (by kernel_rfl) (by simp -implicitDefEqProofs) ?_
        refine VW.condB (b := eqI e23 (-1)) (by simp) (fun g25 => ?_) (fun g25 => ?_)
        · replace h := iteT g25 h
          refine VW.seq ?_
          refine VW.evalA (C := [(18, F18), (63, F63)]) (tm 65 [(4, .i .i64 0), (5, .i .i64 4)]) [some (7, [[.ref 2 0 (s.need_.set slot.toNat (aI .i64 e17 1)).length, .sl 1 (rows ci_i64 s.price_), .i .i64 s.most_, .i .i64 s.yield_, .i .i64 s.store_, .i .i64 s.first_, .i .i64 s.loss_]]), some (1, rows cl_ci_i64 r8), some (1, rows ci_i64 (s.need_.set slot.toNat (aI .i64 e17 1))), some (1, rows cl_ci_i64 r19)] [] ⟨ok18, ok63, trivial⟩ (by kernel_rfl) (by simp -implicitDefEqProofs) ?_
          obtain rfl := leafS h
          refine VW.ret (VRet.fin ?_)
          simp [eB42]
        · replace h := iteF g25 h
          refine VW.skip ?_
          refine VW.seq ?_
          refine VW.evalA (C := [(18, F18), (63, F63)]) (tm 65 [(4, .i .i64 (sI .i64 e23 e12)), (5, .i .i64 0)]) [some (7, [[.ref 2 0 (s.need_.set slot.toNat (aI .i64 e17 1)).length, .sl 1 (rows ci_i64 s.price_), .i .i64 s.most_, .i .i64 s.yield_, .i .i64 s.store_, .i .i64 s.first_, .i .i64 s.loss_]]), some (1, rows cl_ci_i64 r8), some (1, rows ci_i64 (s.need_.set slot.toNat (aI .i64 e17 1))), some (1, rows cl_ci_i64 r19)] [] ⟨ok18, ok63, trivial⟩ (by kernel_rfl) (by simp -implicitDefEqProofs) ?_
          obtain rfl := leafS h
          refine VW.ret (VRet.fin ?_)
          simp [eB42]
noncomputable def g12 (aS : T24) (aSlot : Int) : Option (Bool) :=
  (g15 aS 1048576).bind fun r1 =>
  if ltI r1 0 = true then
    some true
  else
    (g17 aS).bind fun r4 =>
    (g41 r4 aSlot).bind fun r6 =>
    (g17 aS).bind fun r8 =>
    (g42 r8 aSlot).bind fun r10 =>
    if ((!eqI r10.1 r6.1) || (!eqI r10.2 r6.2)) = true then
      some false
    else
      (g17 aS).bind fun r13 =>
      (g19 r8 r13).bind fun r15 =>
      if (!r15) = true then
        some false
      else
        some true
def eA12 (a : T24 × Int) : List V := [.agg (pT24 a.1), .i .i64 a.2]
def eB12 (r : Bool) : V := .b r
theorem inj12 (a a' : T24 × Int) (h : eA12 a = eA12 a') : a = a' := by
  obtain ⟨⟨i765, i766, i767, i768, i769, i770, i771⟩, i772⟩ := a
  obtain ⟨⟨i773, i774, i775, i776, i777, i778, i779⟩, i780⟩ := a'
  simp only [eA12, pT24, List.cons.injEq, V.i.injEq, V.b.injEq, V.f.injEq, V.str.injEq, V.sl.injEq, V.agg.injEq, V.cptr.injEq, true_and, and_true] at h
  simp_all [ri ci_i64_inj]
noncomputable def F12 : List V → Option V := tells (fun a => g12 a.1 a.2) eA12 eB12
set_option maxRecDepth 100000 in
set_option maxHeartbeats 4000000 in
/- loop.example/g01229/laws.FnExactMarginOf -/
theorem ok12 : Tells Try.prog 12 F12 := by
  refine Tells.of (by kernel_rfl) ?_
  rintro ⟨aS, aSlot⟩ r h
  refine VCalls.nl (VCalls.of Try.func12 rfl rfl rfl ?_)
  rw [tm_init]
  simp only [eA12, en, List.length_cons, List.length_nil, Nat.reduceAdd, Nat.reduceSub]
  replace h : (g12 aS aSlot).bind some = some r := bindS h
  rw [g12] at h
  refine VW.seq ?_
  refine VW.evalA (C := [(15, F15), (17, F17), (19, F19), (41, F41), (42, F42)]) (tm 44 [(1, .i .i64 aSlot), (2, .ptr 0 0 0)]) [some (7, [(pT24 aS)])] [] ⟨ok15, ok17, ok19, ok41, ok42, trivial⟩ (by kernel_rfl) (by simp -implicitDefEqProofs) ?_
  refine VW.seq ?_
  refine VW.evalA (C := [(15, F15), (17, F17), (19, F19), (41, F41), (42, F42)]) (tm 44 [(1, .i .i64 aSlot), (2, .ptr 0 0 0), (5, .i .i64 1048576)]) [some (7, [(pT24 aS)])] [] ⟨ok15, ok17, ok19, ok41, ok42, trivial⟩ (by kernel_rfl) (by simp -implicitDefEqProofs) ?_
  refine VW.seq ?_
  obtain ⟨r1, q2, h⟩ := bindE h
  have c2 : F15 [.agg (pT24 aS), .i .i64 1048576] = some (.i .i64 r1) := tells_eq inj15 (a := (aS, 1048576)) q2
  refine VW.evalA (C := [(15, F15), (17, F17), (19, F19), (41, F41), (42, F42)]) (tm 44 [(1, .i .i64 aSlot), (2, .ptr 0 0 0), (5, .i .i64 r1)]) [some (7, [(pT24 aS)])] [] ⟨ok15, ok17, ok19, ok41, ok42, trivial⟩ (by kernel_rfl) (by simp -implicitDefEqProofs [c2]) ?_
  refine VW.seq ?_
  refine VW.seq ?_
  refine VW.evalA (C := [(15, F15), (17, F17), (19, F19), (41, F41), (42, F42)]) (tm 44 [(1, .i .i64 aSlot), (2, .ptr 0 0 0), (15, .b (ltI r1 0))]) [some (7, [(pT24 aS)])] [] ⟨ok15, ok17, ok19, ok41, ok42, trivial⟩ (by kernel_rfl) (by simp -implicitDefEqProofs) ?_
  refine VW.condB (b := ltI r1 0) (by simp) (fun g3 => ?_) (fun g3 => ?_)
  · replace h := iteT g3 h
    refine VW.seq ?_
    refine VW.evalA (C := [(15, F15), (17, F17), (19, F19), (41, F41), (42, F42)]) (tm 44 [(4, .b true)]) [some (7, [(pT24 aS)])] [] ⟨ok15, ok17, ok19, ok41, ok42, trivial⟩ (by kernel_rfl) (by simp -implicitDefEqProofs) ?_
    obtain rfl := leafS h
    refine VW.ret (VRet.fin ?_)
    simp [eB12]
  · replace h := iteF g3 h
    refine VW.skip ?_
    refine VW.seq ?_
    obtain ⟨r4, q5, h⟩ := bindE h
    have c5 : F17 [.agg (pT24 aS)] = some (.agg [.own 1 (rows ci_i64 r4.need_), .own 1 (rows ci_i64 r4.price_), .i .i64 r4.most_, .i .i64 r4.yield_, .i .i64 r4.store_, .i .i64 r4.first_, .i .i64 r4.loss_]) := tells_eq inj17 (a := aS) q5
    obtain ⟨r6, q7, h⟩ := bindE h
    have c7 : F41 [.agg [.sl 1 (rows ci_i64 r4.need_), .sl 1 (rows ci_i64 r4.price_), .i .i64 r4.most_, .i .i64 r4.yield_, .i .i64 r4.store_, .i .i64 r4.first_, .i .i64 r4.loss_], .i .i64 aSlot] = some (.tup [.i .i64 r6.1, .i .i64 r6.2]) := tells_eq inj41 (a := (r4, aSlot)) q7
    refine VW.evalA (C := [(15, F15), (17, F17), (19, F19), (41, F41), (42, F42)]) (tm 44 [(1, .i .i64 aSlot), (2, .ptr 0 0 0), (6, .i .i64 r6.1), (7, .i .i64 r6.2)]) [some (7, [(pT24 aS)]), some (1, rows ci_i64 r4.need_), some (1, rows ci_i64 r4.price_)] [] ⟨ok15, ok17, ok19, ok41, ok42, trivial⟩ (by kernel_rfl) (by simp -implicitDefEqProofs [c5, c7]) ?_
    refine VW.seq ?_
    obtain ⟨r8, q9, h⟩ := bindE h
    have c9 : F17 [.agg (pT24 aS)] = some (.agg [.own 1 (rows ci_i64 r8.need_), .own 1 (rows ci_i64 r8.price_), .i .i64 r8.most_, .i .i64 r8.yield_, .i .i64 r8.store_, .i .i64 r8.first_, .i .i64 r8.loss_]) := tells_eq inj17 (a := aS) q9
    refine VW.evalA (C := [(15, F15), (17, F17), (19, F19), (41, F41), (42, F42)]) (tm 44 [(1, .i .i64 aSlot), (2, .ptr 0 0 0), (6, .i .i64 r6.1), (7, .i .i64 r6.2), (8, .ptr 5 0 0)]) [some (7, [(pT24 aS)]), some (1, rows ci_i64 r4.need_), some (1, rows ci_i64 r4.price_), some (1, rows ci_i64 r8.need_), some (1, rows ci_i64 r8.price_), some (7, [[.ref 3 0 r8.need_.length, .ref 4 0 r8.price_.length, .i .i64 r8.most_, .i .i64 r8.yield_, .i .i64 r8.store_, .i .i64 r8.first_, .i .i64 r8.loss_]])] [] ⟨ok15, ok17, ok19, ok41, ok42, trivial⟩ (by kernel_rfl) (by simp -implicitDefEqProofs [c9]) ?_
    refine VW.seq ?_
    obtain ⟨r10, q11, h⟩ := bindE h
    have c11 : F42 [.agg [.sl 1 (rows ci_i64 r8.need_), .sl 1 (rows ci_i64 r8.price_), .i .i64 r8.most_, .i .i64 r8.yield_, .i .i64 r8.store_, .i .i64 r8.first_, .i .i64 r8.loss_], .i .i64 aSlot] = some (.tup [.i .i64 r10.1, .i .i64 r10.2]) := tells_eq inj42 (a := (r8, aSlot)) q11
    refine VW.evalA (C := [(15, F15), (17, F17), (19, F19), (41, F41), (42, F42)]) (tm 44 [(2, .ptr 0 0 0), (6, .i .i64 r6.1), (7, .i .i64 r6.2), (8, .ptr 5 0 0), (9, .i .i64 r10.1), (10, .i .i64 r10.2)]) [some (7, [(pT24 aS)]), some (1, rows ci_i64 r4.need_), some (1, rows ci_i64 r4.price_), some (1, rows ci_i64 r8.need_), some (1, rows ci_i64 r8.price_), some (7, [[.ref 3 0 r8.need_.length, .ref 4 0 r8.price_.length, .i .i64 r8.most_, .i .i64 r8.yield_, .i .i64 r8.store_, .i .i64 r8.first_, .i .i64 r8.loss_]])] [] ⟨ok15, ok17, ok19, ok41, ok42, trivial⟩ (by kernel_rfl) (by simp -implicitDefEqProofs [c11]) ?_
    refine VW.seq ?_
    refine VW.seq ?_
    refine VW.evalA (C := [(15, F15), (17, F17), (19, F19), (41, F41), (42, F42)]) (tm 44 [(2, .ptr 0 0 0), (8, .ptr 5 0 0), (38, .b ((!eqI r10.1 r6.1) || (!eqI r10.2 r6.2)))]) [some (7, [(pT24 aS)]), some (1, rows ci_i64 r4.need_), some (1, rows ci_i64 r4.price_), some (1, rows ci_i64 r8.need_), some (1, rows ci_i64 r8.price_), some (7, [[.ref 3 0 r8.need_.length, .ref 4 0 r8.price_.length, .i .i64 r8.most_, .i .i64 r8.yield_, .i .i64 r8.store_, .i .i64 r8.first_, .i .i64 r8.loss_]])] [] ⟨ok15, ok17, ok19, ok41, ok42, trivial⟩ (by kernel_rfl) (by simp -implicitDefEqProofs) ?_
    refine VW.condB (b := ((!eqI r10.1 r6.1) || (!eqI r10.2 r6.2))) (by simp) (fun g12 => ?_) (fun g12 => ?_)
    · replace h := iteT g12 h
      refine VW.seq ?_
      refine VW.evalA (C := [(15, F15), (17, F17), (19, F19), (41, F41), (42, F42)]) (tm 44 [(4, .b false)]) [some (7, [(pT24 aS)]), some (1, rows ci_i64 r4.need_), some (1, rows ci_i64 r4.price_), some (1, rows ci_i64 r8.need_), some (1, rows ci_i64 r8.price_), some (7, [[.ref 3 0 r8.need_.length, .ref 4 0 r8.price_.length, .i .i64 r8.most_, .i .i64 r8.yield_, .i .i64 r8.store_, .i .i64 r8.first_, .i .i64 r8.loss_]])] [] ⟨ok15, ok17, ok19, ok41, ok42, trivial⟩ (by kernel_rfl) (by simp -implicitDefEqProofs) ?_
      obtain rfl := leafS h
      refine VW.ret (VRet.fin ?_)
      simp [eB12]
    · replace h := iteF g12 h
      refine VW.skip ?_
      refine VW.seq ?_
      refine VW.seq ?_
      obtain ⟨r13, q14, h⟩ := bindE h
      have c14 : F17 [.agg (pT24 aS)] = some (.agg [.own 1 (rows ci_i64 r13.need_), .own 1 (rows ci_i64 r13.price_), .i .i64 r13.most_, .i .i64 r13.yield_, .i .i64 r13.store_, .i .i64 r13.first_, .i .i64 r13.loss_]) := tells_eq inj17 (a := aS) q14
      obtain ⟨r15, q16, h⟩ := bindE h
      have c16 : F19 [.agg [.sl 1 (rows ci_i64 r8.need_), .sl 1 (rows ci_i64 r8.price_), .i .i64 r8.most_, .i .i64 r8.yield_, .i .i64 r8.store_, .i .i64 r8.first_, .i .i64 r8.loss_], .agg [.sl 1 (rows ci_i64 r13.need_), .sl 1 (rows ci_i64 r13.price_), .i .i64 r13.most_, .i .i64 r13.yield_, .i .i64 r13.store_, .i .i64 r13.first_, .i .i64 r13.loss_]] = some (.b r15) := tells_eq inj19 (a := (r8, r13)) q16
      refine VW.evalDA (C := [(15, F15), (17, F17), (19, F19), (41, F41), (42, F42)]) (tm 44 [(43, .b (!r15))]) [some (7, [(pT24 aS)]), some (1, rows ci_i64 r4.need_), some (1, rows ci_i64 r4.price_), some (1, rows ci_i64 r8.need_), some (1, rows ci_i64 r8.price_), some (7, [[.ref 3 0 r8.need_.length, .ref 4 0 r8.price_.length, .i .i64 r8.most_, .i .i64 r8.yield_, .i .i64 r8.store_, .i .i64 r8.first_, .i .i64 r8.loss_]]), some (1, rows ci_i64 r13.need_), some (1, rows ci_i64 r13.price_)] [] ⟨ok15, ok17, ok19, ok41, ok42, trivial⟩ mixed (by kernel_rfl) (by simp -implicitDefEqProofs [c14, c16]) ?_
      refine VW.condB (b := (!r15)) (by simp) (fun g17 => ?_) (fun g17 => ?_)
      · replace h := iteT g17 h
        refine VW.seq ?_
        refine VW.evalA (C := [(15, F15), (17, F17), (19, F19), (41, F41), (42, F42)]) (tm 44 [(4, .b false)]) [some (7, [(pT24 aS)]), some (1, rows ci_i64 r4.need_), some (1, rows ci_i64 r4.price_), some (1, rows ci_i64 r8.need_), some (1, rows ci_i64 r8.price_), some (7, [[.ref 3 0 r8.need_.length, .ref 4 0 r8.price_.length, .i .i64 r8.most_, .i .i64 r8.yield_, .i .i64 r8.store_, .i .i64 r8.first_, .i .i64 r8.loss_]]), some (1, rows ci_i64 r13.need_), some (1, rows ci_i64 r13.price_)] [] ⟨ok15, ok17, ok19, ok41, ok42, trivial⟩ (by kernel_rfl) (by simp -implicitDefEqProofs) ?_
        obtain rfl := leafS h
        refine VW.ret (VRet.fin ?_)
        simp [eB12]
      · replace h := iteF g17 h
        refine VW.skip ?_
        refine VW.seq ?_
        refine VW.evalA (C := [(15, F15), (17, F17), (19, F19), (41, F41), (42, F42)]) (tm 44 [(4, .b true)]) [some (7, [(pT24 aS)]), some (1, rows ci_i64 r4.need_), some (1, rows ci_i64 r4.price_), some (1, rows ci_i64 r8.need_), some (1, rows ci_i64 r8.price_), some (7, [[.ref 3 0 r8.need_.length, .ref 4 0 r8.price_.length, .i .i64 r8.most_, .i .i64 r8.yield_, .i .i64 r8.store_, .i .i64 r8.first_, .i .i64 r8.loss_]]), some (1, rows ci_i64 r13.need_), some (1, rows ci_i64 r13.price_)] [] ⟨ok15, ok17, ok19, ok41, ok42, trivial⟩ (by kernel_rfl) (by simp -implicitDefEqProofs) ?_
        obtain rfl := leafS h
        refine VW.ret (VRet.fin ?_)
        simp [eB12]
end Go.Proofs.Yteggncgiflgopaa
