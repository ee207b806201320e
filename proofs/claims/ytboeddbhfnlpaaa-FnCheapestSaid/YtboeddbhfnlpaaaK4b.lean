/- Contracts of the functions that the law reaches: what each tells, as a function in Lean. -/
import Derived.Test.YtboeddbhfnlpaaaK4a
import Derived.KernelRfl
namespace Go.Proofs.Ytboeddbhfnlpaaa
open Go.RowKit Go.VL
set_option linter.unusedSimpArgs false
set_option linter.unusedVariables false
set_option maxHeartbeats 40000000
set_option maxRecDepth 100000
noncomputable def g4_j2 (r4 : T23) (r12 : (List Int) × Int × Int) (l82 : List (List Int)) : Option (Bool) :=
(idx l82 0).bind fun e83 =>
(idx e83 r4.first_).bind fun e85 =>
(g21 r4 (l82.set 0 (e83.set r4.first_.toNat (aI .i64 e85 1)))).bind fun r87 =>
(g22 r4 r12.1 (l82.set 0 (e83.set r4.first_.toNat (aI .i64 e85 1)))).bind fun r89 =>
some ((((eqI r87.2.2.2 0 && eqI r87.1 0) && eqI r87.2.1 r4.first_) && eqI r89.2 0) && (!r89.1))
noncomputable def g4_L1 (r8 : (List (List Int)) × Int) : (Int × (List (List Int))) → Option ((Int × (List (List Int))) ⊕ (List (List Int)))
| (k_107, l108) =>
if ltI k_107 (r8.1.length : Int) = true then
(idx r8.1 k_107).bind fun e110 =>
(appK 8 [] e110).bind fun u112 =>
(appK 24 l108 [e110]).bind fun u114 =>
some (.inl (aI .i64 k_107 1, (l108 ++ [e110])))
else
some (.inr l108)
noncomputable def g4_j1 (r8 : (List (List Int)) × Int) (r4 : T23) (r12 : (List Int) × Int × Int) : Option (Bool) :=
(loopO (g4_L1 r8) (0, [])).bind fun w => g4_j2 r4 r12 w
noncomputable def g4 (code : List Int) (more_ : List Int) : Option (Bool) :=
(g14 code more_).bind fun r1 =>
if r1 = true then
some true
else
(g15 code).bind fun r4 =>
(g8 r4).bind fun r6 =>
(g6 r4).bind fun r8 =>
(g16 r4).bind fun r10 =>
(g17 r4).bind fun r12 =>
(g18 r4).bind fun r14 =>
(if ((!eqI r6.2 r8.2) || (!eqI r6.2 0)) = true then some true else (g19 r6.1 r8.1).bind fun r16 => some (!r16)).bind fun w18 =>
(if (w18 || (!eqI r10.2.2 r12.2.2)) = true then some true else (g20 r10.1 r12.1).bind fun r19 => some (!r19)).bind fun w21 =>
if ((w21 || (!eqI r10.2.1 r12.2.1)) || (!eqI r14.2 0)) = true then
some false
else
(g21 r4 r8.1).bind fun r23 =>
if (!eqI r23.2.2.2 6) = true then
some false
else
if (!eqI r10.2.2 0) = true then
(if (eqI r10.2.2 6 && eqI r14.1 0) = true then (idx r8.1 0).bind fun e27 => (idx e27 r4.first_).bind fun e29 => some (eqI e29 (-1)) else some false).bind fun w31 =>
some w31
else
(g22 r4 r12.1 r8.1).bind fun r34 =>
(g23 r4 r12.1).bind fun r36 =>
if ((((ltI r14.1 1 || (!eqI r34.2 0)) || (!r34.1)) || (!eqI r36.2 0)) || (!eqI r36.1 0)) = true then
some false
else
(g24 more_ r4).bind fun r39 =>
(g25 r4 r39).bind fun r41 =>
if eqI r41.2.2 0 = true then
(g23 r4 r41.1).bind fun r117 =>
(g22 r4 r41.1 r8.1).bind fun r119 =>
(if ((((!eqI r117.2 0) || ltI r117.1 0) || (!eqI r119.2 0)) || (!(r119.1 == (eqI r117.1 0)))) = true then some true else (if eqI r117.1 0 = true then (g20 r41.1 r12.1).bind fun r121 => some (!r121) else some false).bind fun w123 => some (w123 && ltI r14.1 2)).bind fun w124 =>
if w124 = true then
some false
else
g4_j1 r8 r4 r12
else
g4_j1 r8 r4 r12
def eA4 (a : (List Int) × (List Int)) : List V := [.sl 1 (rows ci_u8 a.1), .sl 1 (rows ci_u8 a.2)]
def eB4 (r : Bool) : V := .b r
theorem inj4 (a a' : (List Int) × (List Int)) (h : eA4 a = eA4 a') : a = a' := by
  obtain ⟨i421, i422⟩ := a
  obtain ⟨i423, i424⟩ := a'
  simp only [eA4, List.cons.injEq, V.i.injEq, V.b.injEq, V.f.injEq, V.str.injEq, V.sl.injEq, V.agg.injEq, V.cptr.injEq, true_and, and_true] at h
  simp_all [ri ci_u8_inj]
noncomputable def F4 : List V → Option V := tells (fun a => g4 a.1 a.2) eA4 eB4
/- loop.example/g01229/laws.FnCheapest -/
theorem ok4 : Tells Try.prog 4 F4 := by
 refine Tells.go 281 Try.func4 rfl rfl rfl (by kernel_rfl) (fun _ => rfl) ?_
 rintro ⟨code, more_⟩ r h
 simp only [eA4, en, Nat.reduceAdd]
 replace h : (g4 code more_).bind some = some r := bindS h
 rw [g4] at h
 have hC : CEnv.Ok Try.prog [(6, F6), (8, F8), (14, F14), (15, F15), (16, F16), (17, F17), (18, F18), (19, F19), (20, F20), (21, F21), (22, F22), (23, F23), (24, F24), (25, F25)] := ⟨.inl ok6, .inl ok8, .inl ok14, .inl ok15, .inl ok16, .inl ok17, .inl ok18, .inl ok19, .inl ok20, .inl ok21, .inl ok22, .inl ok23, .inl ok24, .inl ok25, trivial⟩
 refine VW.seq (VW.rA (tm 281 [(0, .sl 1 (rows ci_u8 code)), (1, .sl 1 (rows ci_u8 more_))]) [] [] hC (VW.seq (VW.seq ?_)))
 obtain ⟨r1, q2, h⟩ := bindE h
 have c2 := tl14 q2
 refine VW.rA (tm 281 [(0, .sl 1 (rows ci_u8 code)), (1, .sl 1 (rows ci_u8 more_)), (44, .b r1)]) [] [] hC (VW.condI h (fun h => ?_) (fun h => ?_)) (h := by simp -implicitDefEqProofs [c2])
 · refine VW.seq (VW.rA (tm 281 [(4, .b true)]) [] [] hC ?_)
   obtain rfl := leafS h
   exact VW.ret (VRet.fin (by simp [eB4]))
 refine VW.skip (VW.seq ?_)
 obtain ⟨r4, q5, h⟩ := bindE h
 have c5 := tl15 q5
 refine VW.rA (tm 281 [(1, .sl 1 (rows ci_u8 more_)), (5, .ptr 2 0 0)]) [some (1, rows ci_i64 r4.need_), some (1, rows ci_i64 r4.price_), some (7, [[.ref 0 0 r4.need_.length, .ref 1 0 r4.price_.length, .i .i64 r4.most_, .i .i64 r4.yield_, .i .i64 r4.store_, .i .i64 r4.first_, .i .i64 r4.loss_]])] [] hC (VW.seq ?_) (h := by simp -implicitDefEqProofs [c5])
 obtain ⟨r6, q7, h⟩ := bindE h
 have c7 := tl8 q7
 refine VW.rA (tm 281 [(1, .sl 1 (rows ci_u8 more_)), (5, .ptr 2 0 0), (6, .ref 3 0 r6.1.length), (7, .i .i64 r6.2)]) [some (1, rows ci_i64 r4.need_), some (1, rows ci_i64 r4.price_), some (7, [[.ref 0 0 r4.need_.length, .ref 1 0 r4.price_.length, .i .i64 r4.most_, .i .i64 r4.yield_, .i .i64 r4.store_, .i .i64 r4.first_, .i .i64 r4.loss_]]), some (1, rows cl_ci_i64o r6.1)] [] hC (VW.seq ?_) (h := by simp -implicitDefEqProofs [c7])
 obtain ⟨r8, q9, h⟩ := bindE h
 have c9 := tl6 q9
 refine VW.rA (tm 281 [(1, .sl 1 (rows ci_u8 more_)), (5, .ptr 2 0 0), (6, .ref 3 0 r6.1.length), (7, .i .i64 r6.2), (8, .ref 4 0 r8.1.length), (9, .i .i64 r8.2)]) [some (1, rows ci_i64 r4.need_), some (1, rows ci_i64 r4.price_), some (7, [[.ref 0 0 r4.need_.length, .ref 1 0 r4.price_.length, .i .i64 r4.most_, .i .i64 r4.yield_, .i .i64 r4.store_, .i .i64 r4.first_, .i .i64 r4.loss_]]), some (1, rows cl_ci_i64o r6.1), some (1, rows cl_ci_i64o r8.1)] [] hC (VW.seq ?_) (h := by simp -implicitDefEqProofs [c9])
 obtain ⟨r10, q11, h⟩ := bindE h
 have c11 := tl16 q11
 refine VW.rA (tm 281 [(1, .sl 1 (rows ci_u8 more_)), (5, .ptr 2 0 0), (6, .ref 3 0 r6.1.length), (7, .i .i64 r6.2), (8, .ref 4 0 r8.1.length), (9, .i .i64 r8.2), (10, .ref 5 0 r10.1.length), (11, .i .i64 r10.2.1), (12, .i .i64 r10.2.2)]) [some (1, rows ci_i64 r4.need_), some (1, rows ci_i64 r4.price_), some (7, [[.ref 0 0 r4.need_.length, .ref 1 0 r4.price_.length, .i .i64 r4.most_, .i .i64 r4.yield_, .i .i64 r4.store_, .i .i64 r4.first_, .i .i64 r4.loss_]]), some (1, rows cl_ci_i64o r6.1), some (1, rows cl_ci_i64o r8.1), some (1, rows ci_i64 r10.1)] [] hC (VW.seq ?_) (h := by simp -implicitDefEqProofs [c11])
 obtain ⟨r12, q13, h⟩ := bindE h
 have c13 := tl17 q13
 refine VW.rA (tm 281 [(1, .sl 1 (rows ci_u8 more_)), (5, .ptr 2 0 0), (6, .ref 3 0 r6.1.length), (7, .i .i64 r6.2), (8, .ref 4 0 r8.1.length), (9, .i .i64 r8.2), (10, .ref 5 0 r10.1.length), (11, .i .i64 r10.2.1), (12, .i .i64 r10.2.2), (13, .ref 6 0 r12.1.length), (14, .i .i64 r12.2.1), (15, .i .i64 r12.2.2)]) [some (1, rows ci_i64 r4.need_), some (1, rows ci_i64 r4.price_), some (7, [[.ref 0 0 r4.need_.length, .ref 1 0 r4.price_.length, .i .i64 r4.most_, .i .i64 r4.yield_, .i .i64 r4.store_, .i .i64 r4.first_, .i .i64 r4.loss_]]), some (1, rows cl_ci_i64o r6.1), some (1, rows cl_ci_i64o r8.1), some (1, rows ci_i64 r10.1), some (1, rows ci_i64 r12.1)] [] hC (VW.seq ?_) (h := by simp -implicitDefEqProofs [c13])
 obtain ⟨r14, q15, h⟩ := bindE h
 have c15 := tl18 q15
 refine VW.rA (tm 281 [(1, .sl 1 (rows ci_u8 more_)), (5, .ptr 2 0 0), (6, .ref 3 0 r6.1.length), (7, .i .i64 r6.2), (8, .ref 4 0 r8.1.length), (9, .i .i64 r8.2), (10, .ref 5 0 r10.1.length), (11, .i .i64 r10.2.1), (12, .i .i64 r10.2.2), (13, .ref 6 0 r12.1.length), (14, .i .i64 r12.2.1), (15, .i .i64 r12.2.2), (16, .i .i64 r14.1), (17, .i .i64 r14.2)]) [some (1, rows ci_i64 r4.need_), some (1, rows ci_i64 r4.price_), some (7, [[.ref 0 0 r4.need_.length, .ref 1 0 r4.price_.length, .i .i64 r4.most_, .i .i64 r4.yield_, .i .i64 r4.store_, .i .i64 r4.first_, .i .i64 r4.loss_]]), some (1, rows cl_ci_i64o r6.1), some (1, rows cl_ci_i64o r8.1), some (1, rows ci_i64 r10.1), some (1, rows ci_i64 r12.1)] [] hC (VW.seq (VW.seq ?_)) (h := by simp -implicitDefEqProofs [c15])
 obtain ⟨w18, q130, h⟩ := bindE h
 obtain ⟨w21, q131, h⟩ := bindE h
 refine VW.evalA (tm 281 [(1, .sl 1 (rows ci_u8 more_)), (5, .ptr 2 0 0), (8, .ref 4 0 r8.1.length), (12, .i .i64 r10.2.2), (13, .ref 6 0 r12.1.length), (16, .i .i64 r14.1), (106, .b ((w21 || (!eqI r10.2.1 r12.2.1)) || (!eqI r14.2 0)))]) [some (1, rows ci_i64 r4.need_), some (1, rows ci_i64 r4.price_), some (7, [[.ref 0 0 r4.need_.length, .ref 1 0 r4.price_.length, .i .i64 r4.most_, .i .i64 r4.yield_, .i .i64 r4.store_, .i .i64 r4.first_, .i .i64 r4.loss_]]), some (1, rows cl_ci_i64o r6.1), some (1, rows cl_ci_i64o r8.1), some (1, rows ci_i64 r10.1), some (1, rows ci_i64 r12.1)] [] hC (by kernel_rfl) (by
     obtain ⟨q132, q130⟩ | ⟨q132, rfl⟩ := gdF q130
     · obtain ⟨r16, q17, q130⟩ := bindQ q130
       have c17 := tl19 q17
       obtain rfl := Option.some.inj q130
       obtain ⟨q133, q131⟩ | ⟨q133, rfl⟩ := gdF q131
       · obtain ⟨r19, q20, q131⟩ := bindQ q131
         have c20 := tl20 q20
         obtain rfl := Option.some.inj q131
         simp -implicitDefEqProofs [q132, c17, q133, c20]
       simp -implicitDefEqProofs [q132, c17, q133]
     obtain ⟨q134, q131⟩ | ⟨q134, rfl⟩ := gdF q131
     · first
         | (simp at q134; done)
         | (obtain ⟨r19, q20, q131⟩ := bindQ q131
            have c20 := tl20 q20
            obtain rfl := Option.some.inj q131
            simp -implicitDefEqProofs [q132, q134, c20])
     first
       | (simp at q134; done)
       | (simp -implicitDefEqProofs [q132, q134])) ?_
 refine VW.condI h (fun h => ?_) (fun h => ?_)
 · refine VW.seq (VW.rA (tm 281 [(4, .b false)]) [some (1, rows ci_i64 r4.need_), some (1, rows ci_i64 r4.price_), some (7, [[.ref 0 0 r4.need_.length, .ref 1 0 r4.price_.length, .i .i64 r4.most_, .i .i64 r4.yield_, .i .i64 r4.store_, .i .i64 r4.first_, .i .i64 r4.loss_]]), some (1, rows cl_ci_i64o r6.1), some (1, rows cl_ci_i64o r8.1), some (1, rows ci_i64 r10.1), some (1, rows ci_i64 r12.1)] [] hC ?_)
   obtain rfl := leafS h
   exact VW.ret (VRet.fin (by simp [eB4]))
 refine VW.skip (VW.seq ?_)
 obtain ⟨r23, q24, h⟩ := bindE h
 have c24 := tl21 q24
 refine VW.rA (tm 281 [(1, .sl 1 (rows ci_u8 more_)), (5, .ptr 2 0 0), (8, .ref 4 0 r8.1.length), (12, .i .i64 r10.2.2), (13, .ref 6 0 r12.1.length), (16, .i .i64 r14.1), (21, .i .i64 r23.2.2.2)]) [some (1, rows ci_i64 r4.need_), some (1, rows ci_i64 r4.price_), some (7, [[.ref 0 0 r4.need_.length, .ref 1 0 r4.price_.length, .i .i64 r4.most_, .i .i64 r4.yield_, .i .i64 r4.store_, .i .i64 r4.first_, .i .i64 r4.loss_]]), some (1, rows cl_ci_i64o r6.1), some (1, rows cl_ci_i64o r8.1), some (1, rows ci_i64 r10.1), some (1, rows ci_i64 r12.1)] [] hC (VW.seq (VW.seq (VW.rA (tm 281 [(1, .sl 1 (rows ci_u8 more_)), (5, .ptr 2 0 0), (8, .ref 4 0 r8.1.length), (12, .i .i64 r10.2.2), (13, .ref 6 0 r12.1.length), (16, .i .i64 r14.1), (116, .b (!eqI r23.2.2.2 6))]) [some (1, rows ci_i64 r4.need_), some (1, rows ci_i64 r4.price_), some (7, [[.ref 0 0 r4.need_.length, .ref 1 0 r4.price_.length, .i .i64 r4.most_, .i .i64 r4.yield_, .i .i64 r4.store_, .i .i64 r4.first_, .i .i64 r4.loss_]]), some (1, rows cl_ci_i64o r6.1), some (1, rows cl_ci_i64o r8.1), some (1, rows ci_i64 r10.1), some (1, rows ci_i64 r12.1)] [] hC (VW.condI h (fun h => ?_) (fun h => ?_))))) (h := by simp -implicitDefEqProofs [c24])
 · refine VW.seq (VW.rA (tm 281 [(4, .b false)]) [some (1, rows ci_i64 r4.need_), some (1, rows ci_i64 r4.price_), some (7, [[.ref 0 0 r4.need_.length, .ref 1 0 r4.price_.length, .i .i64 r4.most_, .i .i64 r4.yield_, .i .i64 r4.store_, .i .i64 r4.first_, .i .i64 r4.loss_]]), some (1, rows cl_ci_i64o r6.1), some (1, rows cl_ci_i64o r8.1), some (1, rows ci_i64 r10.1), some (1, rows ci_i64 r12.1)] [] hC ?_)
   obtain rfl := leafS h
   exact VW.ret (VRet.fin (by simp [eB4]))
 refine VW.skip (VW.seq (VW.seq (VW.rA (tm 281 [(1, .sl 1 (rows ci_u8 more_)), (5, .ptr 2 0 0), (8, .ref 4 0 r8.1.length), (12, .i .i64 r10.2.2), (13, .ref 6 0 r12.1.length), (16, .i .i64 r14.1), (118, .b (!eqI r10.2.2 0))]) [some (1, rows ci_i64 r4.need_), some (1, rows ci_i64 r4.price_), some (7, [[.ref 0 0 r4.need_.length, .ref 1 0 r4.price_.length, .i .i64 r4.most_, .i .i64 r4.yield_, .i .i64 r4.store_, .i .i64 r4.first_, .i .i64 r4.loss_]]), some (1, rows cl_ci_i64o r6.1), some (1, rows cl_ci_i64o r8.1), some (1, rows ci_i64 r10.1), some (1, rows ci_i64 r12.1)] [] hC (VW.condI h (fun h => ?_) (fun h => ?_)))))
 · refine VW.seq ?_
   obtain ⟨w31, q32, h⟩ := bindE h
   refine VW.evalDA (tm 281 [(4, .b w31)]) [some (1, rows ci_i64 r4.need_), some (1, rows ci_i64 r4.price_), some (7, [[.ref 0 0 r4.need_.length, .ref 1 0 r4.price_.length, .i .i64 r4.most_, .i .i64 r4.yield_, .i .i64 r4.store_, .i .i64 r4.first_, .i .i64 r4.loss_]]), some (1, rows cl_ci_i64o r6.1), some (1, rows cl_ci_i64o r8.1), some (1, rows ci_i64 r10.1), some (1, rows ci_i64 r12.1)] [] hC mixed (by kernel_rfl) (by
       obtain ⟨q33, q32⟩ | ⟨q33, rfl⟩ := gdT q32
       · obtain ⟨e27, q28, q32⟩ := bindQ q32
         obtain ⟨f28a, f28b, f28c, f28d⟩ := idx_some q28
         try simp only [Int.toNat_natCast, Int.reduceToNat] at f28a f28b f28c f28d
         obtain ⟨e29, q30, q32⟩ := bindQ q32
         obtain ⟨f30a, f30b, f30c, f30d⟩ := idx_some q30
         obtain rfl := Option.some.inj q32
         simp -implicitDefEqProofs [q33, f28a, f28b, f28c, f28d, f30a, f30b, f30c, f30d]
       simp -implicitDefEqProofs [q33]) ?_
   obtain rfl := leafS h
   exact VW.ret (VRet.fin (by simp [eB4]))
 refine VW.skip (VW.seq ?_)
 obtain ⟨r34, q35, h⟩ := bindE h
 have c35 := tl22 q35
 refine VW.rA (tm 281 [(1, .sl 1 (rows ci_u8 more_)), (5, .ptr 2 0 0), (8, .ref 4 0 r8.1.length), (13, .ref 6 0 r12.1.length), (16, .i .i64 r14.1), (22, .b r34.1), (23, .i .i64 r34.2)]) [some (1, rows ci_i64 r4.need_), some (1, rows ci_i64 r4.price_), some (7, [[.ref 0 0 r4.need_.length, .ref 1 0 r4.price_.length, .i .i64 r4.most_, .i .i64 r4.yield_, .i .i64 r4.store_, .i .i64 r4.first_, .i .i64 r4.loss_]]), some (1, rows cl_ci_i64o r6.1), some (1, rows cl_ci_i64o r8.1), some (1, rows ci_i64 r10.1), some (1, rows ci_i64 r12.1)] [] hC (VW.seq ?_) (h := by simp -implicitDefEqProofs [c35])
 obtain ⟨r36, q37, h⟩ := bindE h
 have c37 := tl23 q37
 refine VW.rA (tm 281 [(1, .sl 1 (rows ci_u8 more_)), (5, .ptr 2 0 0), (8, .ref 4 0 r8.1.length), (13, .ref 6 0 r12.1.length), (16, .i .i64 r14.1), (22, .b r34.1), (23, .i .i64 r34.2), (24, .i .i64 r36.1), (25, .i .i64 r36.2)]) [some (1, rows ci_i64 r4.need_), some (1, rows ci_i64 r4.price_), some (7, [[.ref 0 0 r4.need_.length, .ref 1 0 r4.price_.length, .i .i64 r4.most_, .i .i64 r4.yield_, .i .i64 r4.store_, .i .i64 r4.first_, .i .i64 r4.loss_]]), some (1, rows cl_ci_i64o r6.1), some (1, rows cl_ci_i64o r8.1), some (1, rows ci_i64 r10.1), some (1, rows ci_i64 r12.1)] [] hC (VW.seq (VW.seq (VW.rA (tm 281 [(1, .sl 1 (rows ci_u8 more_)), (5, .ptr 2 0 0), (8, .ref 4 0 r8.1.length), (13, .ref 6 0 r12.1.length), (16, .i .i64 r14.1), (165, .b ((((ltI r14.1 1 || (!eqI r34.2 0)) || (!r34.1)) || (!eqI r36.2 0)) || (!eqI r36.1 0)))]) [some (1, rows ci_i64 r4.need_), some (1, rows ci_i64 r4.price_), some (7, [[.ref 0 0 r4.need_.length, .ref 1 0 r4.price_.length, .i .i64 r4.most_, .i .i64 r4.yield_, .i .i64 r4.store_, .i .i64 r4.first_, .i .i64 r4.loss_]]), some (1, rows cl_ci_i64o r6.1), some (1, rows cl_ci_i64o r8.1), some (1, rows ci_i64 r10.1), some (1, rows ci_i64 r12.1)] [] hC (VW.condI h (fun h => ?_) (fun h => ?_))))) (h := by simp -implicitDefEqProofs [c37])
 · refine VW.seq (VW.rA (tm 281 [(4, .b false)]) [some (1, rows ci_i64 r4.need_), some (1, rows ci_i64 r4.price_), some (7, [[.ref 0 0 r4.need_.length, .ref 1 0 r4.price_.length, .i .i64 r4.most_, .i .i64 r4.yield_, .i .i64 r4.store_, .i .i64 r4.first_, .i .i64 r4.loss_]]), some (1, rows cl_ci_i64o r6.1), some (1, rows cl_ci_i64o r8.1), some (1, rows ci_i64 r10.1), some (1, rows ci_i64 r12.1)] [] hC ?_)
   obtain rfl := leafS h
   exact VW.ret (VRet.fin (by simp [eB4]))
 refine VW.skip (VW.seq ?_)
 obtain ⟨r39, q40, h⟩ := bindE h
 have c40 := tl24 q40
 refine VW.rA (tm 281 [(5, .ptr 2 0 0), (8, .ref 4 0 r8.1.length), (13, .ref 6 0 r12.1.length), (16, .i .i64 r14.1), (26, .ref 7 0 r39.length)]) [some (1, rows ci_i64 r4.need_), some (1, rows ci_i64 r4.price_), some (7, [[.ref 0 0 r4.need_.length, .ref 1 0 r4.price_.length, .i .i64 r4.most_, .i .i64 r4.yield_, .i .i64 r4.store_, .i .i64 r4.first_, .i .i64 r4.loss_]]), some (1, rows cl_ci_i64o r6.1), some (1, rows cl_ci_i64o r8.1), some (1, rows ci_i64 r10.1), some (1, rows ci_i64 r12.1), some (1, rows ci_i64 r39)] [] hC (VW.seq ?_) (h := by simp -implicitDefEqProofs [c40])
 obtain ⟨r41, q42, h⟩ := bindE h
 have c42 := tl25 q42
 refine VW.rA (tm 281 [(5, .ptr 2 0 0), (8, .ref 4 0 r8.1.length), (13, .ref 6 0 r12.1.length), (16, .i .i64 r14.1), (27, .ref 8 0 r41.1.length), (29, .i .i64 r41.2.2)]) [some (1, rows ci_i64 r4.need_), some (1, rows ci_i64 r4.price_), some (7, [[.ref 0 0 r4.need_.length, .ref 1 0 r4.price_.length, .i .i64 r4.most_, .i .i64 r4.yield_, .i .i64 r4.store_, .i .i64 r4.first_, .i .i64 r4.loss_]]), some (1, rows cl_ci_i64o r6.1), some (1, rows cl_ci_i64o r8.1), some (1, rows ci_i64 r10.1), some (1, rows ci_i64 r12.1), some (1, rows ci_i64 r39), some (1, rows ci_i64 r41.1)] [] hC (VW.join (fun (v : Unit) => (⟨(tm 281 [(5, .ptr 2 0 0), (8, .ref 4 0 r8.1.length), (13, .ref 6 0 r12.1.length)]), [some (1, rows ci_i64 r4.need_), some (1, rows ci_i64 r4.price_), some (7, [[.ref 0 0 r4.need_.length, .ref 1 0 r4.price_.length, .i .i64 r4.most_, .i .i64 r4.yield_, .i .i64 r4.store_, .i .i64 r4.first_, .i .i64 r4.loss_]]), some (1, rows cl_ci_i64o r6.1), some (1, rows cl_ci_i64o r8.1), some (1, rows ci_i64 r10.1), some (1, rows ci_i64 r12.1), some (1, rows ci_i64 r39), some (1, rows ci_i64 r41.1)], []⟩ : VS)) (fun v => (g4_j1 r8 r4 r12).bind some = some r) ?_ ?_) (h := by simp -implicitDefEqProofs [c42])
 · refine VW.seq (VW.rA (tm 281 [(5, .ptr 2 0 0), (8, .ref 4 0 r8.1.length), (13, .ref 6 0 r12.1.length), (16, .i .i64 r14.1), (27, .ref 8 0 r41.1.length), (177, .b (eqI r41.2.2 0))]) [some (1, rows ci_i64 r4.need_), some (1, rows ci_i64 r4.price_), some (7, [[.ref 0 0 r4.need_.length, .ref 1 0 r4.price_.length, .i .i64 r4.most_, .i .i64 r4.yield_, .i .i64 r4.store_, .i .i64 r4.first_, .i .i64 r4.loss_]]), some (1, rows cl_ci_i64o r6.1), some (1, rows cl_ci_i64o r8.1), some (1, rows ci_i64 r10.1), some (1, rows ci_i64 r12.1), some (1, rows ci_i64 r39), some (1, rows ci_i64 r41.1)] [] hC (VW.condJ h (fun h => ?_) (fun h => ?_)))
   · exact VW.skip (vnext () h (Ent.tu 9))
   refine VW.seq ?_
   obtain ⟨r117, q118, h⟩ := bindE h
   have c118 := tl23 q118
   refine VW.rA (tm 281 [(5, .ptr 2 0 0), (8, .ref 4 0 r8.1.length), (13, .ref 6 0 r12.1.length), (16, .i .i64 r14.1), (27, .ref 8 0 r41.1.length), (30, .i .i64 r117.1), (31, .i .i64 r117.2)]) [some (1, rows ci_i64 r4.need_), some (1, rows ci_i64 r4.price_), some (7, [[.ref 0 0 r4.need_.length, .ref 1 0 r4.price_.length, .i .i64 r4.most_, .i .i64 r4.yield_, .i .i64 r4.store_, .i .i64 r4.first_, .i .i64 r4.loss_]]), some (1, rows cl_ci_i64o r6.1), some (1, rows cl_ci_i64o r8.1), some (1, rows ci_i64 r10.1), some (1, rows ci_i64 r12.1), some (1, rows ci_i64 r39), some (1, rows ci_i64 r41.1)] [] hC (VW.seq ?_) (h := by simp -implicitDefEqProofs [c118])
   obtain ⟨r119, q120, h⟩ := bindE h
   have c120 := tl22 q120
   refine VW.rA (tm 281 [(5, .ptr 2 0 0), (8, .ref 4 0 r8.1.length), (13, .ref 6 0 r12.1.length), (16, .i .i64 r14.1), (27, .ref 8 0 r41.1.length), (30, .i .i64 r117.1), (31, .i .i64 r117.2), (32, .b r119.1), (33, .i .i64 r119.2)]) [some (1, rows ci_i64 r4.need_), some (1, rows ci_i64 r4.price_), some (7, [[.ref 0 0 r4.need_.length, .ref 1 0 r4.price_.length, .i .i64 r4.most_, .i .i64 r4.yield_, .i .i64 r4.store_, .i .i64 r4.first_, .i .i64 r4.loss_]]), some (1, rows cl_ci_i64o r6.1), some (1, rows cl_ci_i64o r8.1), some (1, rows ci_i64 r10.1), some (1, rows ci_i64 r12.1), some (1, rows ci_i64 r39), some (1, rows ci_i64 r41.1)] [] hC (VW.seq ?_) (h := by simp -implicitDefEqProofs [c120])
   obtain ⟨w124, q126, h⟩ := bindE h
   refine VW.evalA (tm 281 [(5, .ptr 2 0 0), (8, .ref 4 0 r8.1.length), (13, .ref 6 0 r12.1.length), (220, .b w124)]) [some (1, rows ci_i64 r4.need_), some (1, rows ci_i64 r4.price_), some (7, [[.ref 0 0 r4.need_.length, .ref 1 0 r4.price_.length, .i .i64 r4.most_, .i .i64 r4.yield_, .i .i64 r4.store_, .i .i64 r4.first_, .i .i64 r4.loss_]]), some (1, rows cl_ci_i64o r6.1), some (1, rows cl_ci_i64o r8.1), some (1, rows ci_i64 r10.1), some (1, rows ci_i64 r12.1), some (1, rows ci_i64 r39), some (1, rows ci_i64 r41.1)] [] hC (by kernel_rfl) (by
       obtain ⟨q127, q126⟩ | ⟨q127, rfl⟩ := gdF q126
       · obtain ⟨w123, q128, q126⟩ := bindQ q126
         obtain rfl := Option.some.inj q126
         obtain ⟨q129, q128⟩ | ⟨q129, rfl⟩ := gdT q128
         · have q127xq129 := q127
           simp [q129] at q127xq129
           obtain ⟨r121, q122, q128⟩ := bindQ q128
           have c122 := tl20 q122
           obtain rfl := Option.some.inj q128
           simp -implicitDefEqProofs [q127, q129, q127xq129, c122]
         have q127xq129 := q127
         simp [q129] at q127xq129
         simp -implicitDefEqProofs [q127, q129, q127xq129]
       simp -implicitDefEqProofs [q127]) ?_
   refine VW.condJ h (fun h => ?_) (fun h => ?_)
   · exact VW.skip (vnext () h (Ent.tu 9))
   refine VW.seq (VW.rA (tm 281 [(4, .b false)]) [some (1, rows ci_i64 r4.need_), some (1, rows ci_i64 r4.price_), some (7, [[.ref 0 0 r4.need_.length, .ref 1 0 r4.price_.length, .i .i64 r4.most_, .i .i64 r4.yield_, .i .i64 r4.store_, .i .i64 r4.first_, .i .i64 r4.loss_]]), some (1, rows cl_ci_i64o r6.1), some (1, rows cl_ci_i64o r8.1), some (1, rows ci_i64 r10.1), some (1, rows ci_i64 r12.1), some (1, rows ci_i64 r39), some (1, rows ci_i64 r41.1)] [] hC ?_)
   obtain rfl := leafS h
   exact VW.ret (VRet.fin (by simp [eB4]))
 rintro _ h
 replace h : (g4_j1 r8 r4 r12).bind _ = _ := h
 rw [g4_j1] at h
 refine VW.seq (VW.rA (tm 281 [(5, .ptr 2 0 0), (8, .ref 4 0 r8.1.length), (13, .ref 6 0 r12.1.length), (34, .ref 9 0 0)]) [some (1, rows ci_i64 r4.need_), some (1, rows ci_i64 r4.price_), some (7, [[.ref 0 0 r4.need_.length, .ref 1 0 r4.price_.length, .i .i64 r4.most_, .i .i64 r4.yield_, .i .i64 r4.store_, .i .i64 r4.first_, .i .i64 r4.loss_]]), some (1, rows cl_ci_i64o r6.1), some (1, rows cl_ci_i64o r8.1), some (1, rows ci_i64 r10.1), some (1, rows ci_i64 r12.1), some (1, rows ci_i64 r39), some (1, rows ci_i64 r41.1), some (1, rows cl_ci_i64o [])] [] hC (VW.join (fun (v : List (List Int)) => (⟨(tm 281 [(5, .ptr 2 0 0), (13, .ref 6 0 r12.1.length), (34, .ref 9 0 v.length)]), [some (1, rows ci_i64 r4.need_), some (1, rows ci_i64 r4.price_), some (7, [[.ref 0 0 r4.need_.length, .ref 1 0 r4.price_.length, .i .i64 r4.most_, .i .i64 r4.yield_, .i .i64 r4.store_, .i .i64 r4.first_, .i .i64 r4.loss_]]), some (1, rows cl_ci_i64o r6.1), some (1, rows cl_ci_i64o r8.1), some (1, rows ci_i64 r10.1), some (1, rows ci_i64 r12.1), some (1, rows ci_i64 r39), some (1, rows ci_i64 r41.1), some (1, rows cl_ci_i64o v)], []⟩ : VS)) (fun v => (g4_j2 r4 r12 (v)).bind some = some r) ?_ ?_))
 · refine VW.seq (VW.rA (tm 281 [(5, .ptr 2 0 0), (8, .ref 4 0 r8.1.length), (13, .ref 6 0 r12.1.length), (34, .ref 9 0 0), (35, .i .i64 0)]) [some (1, rows ci_i64 r4.need_), some (1, rows ci_i64 r4.price_), some (7, [[.ref 0 0 r4.need_.length, .ref 1 0 r4.price_.length, .i .i64 r4.most_, .i .i64 r4.yield_, .i .i64 r4.store_, .i .i64 r4.first_, .i .i64 r4.loss_]]), some (1, rows cl_ci_i64o r6.1), some (1, rows cl_ci_i64o r8.1), some (1, rows ci_i64 r10.1), some (1, rows ci_i64 r12.1), some (1, rows ci_i64 r39), some (1, rows ci_i64 r41.1), some (1, rows cl_ci_i64o [])] [] hC (VW.block ?_))
   obtain ⟨w_1, hw_1, h⟩ := bindE h
   refine VW.loopO (fun (x : Int × (List (List Int))) => (⟨(tm 281 [(5, .ptr 2 0 0), (8, .ref 4 0 r8.1.length), (13, .ref 6 0 r12.1.length), (34, .ref 9 0 x.2.length), (35, .i .i64 x.1)]), [some (1, rows ci_i64 r4.need_), some (1, rows ci_i64 r4.price_), some (7, [[.ref 0 0 r4.need_.length, .ref 1 0 r4.price_.length, .i .i64 r4.most_, .i .i64 r4.yield_, .i .i64 r4.store_, .i .i64 r4.first_, .i .i64 r4.loss_]]), some (1, rows cl_ci_i64o r6.1), some (1, rows cl_ci_i64o r8.1), some (1, rows ci_i64 r10.1), some (1, rows ci_i64 r12.1), some (1, rows ci_i64 r39), some (1, rows ci_i64 r41.1), some (1, rows cl_ci_i64o x.2)], []⟩ : VS)) hw_1 (Ent.tu 10) ?_
   rintro n_1 ⟨k_107, l108⟩ h1
   rw [g4_L1] at h1
   refine VW.seq (VW.seq (VW.rA (tm 281 [(5, .ptr 2 0 0), (8, .ref 4 0 r8.1.length), (13, .ref 6 0 r12.1.length), (34, .ref 9 0 l108.length), (35, .i .i64 k_107), (225, .b (ltI k_107 (r8.1.length : Int)))]) [some (1, rows ci_i64 r4.need_), some (1, rows ci_i64 r4.price_), some (7, [[.ref 0 0 r4.need_.length, .ref 1 0 r4.price_.length, .i .i64 r4.most_, .i .i64 r4.yield_, .i .i64 r4.store_, .i .i64 r4.first_, .i .i64 r4.loss_]]), some (1, rows cl_ci_i64o r6.1), some (1, rows cl_ci_i64o r8.1), some (1, rows ci_i64 r10.1), some (1, rows ci_i64 r12.1), some (1, rows ci_i64 r39), some (1, rows ci_i64 r41.1), some (1, rows cl_ci_i64o l108)] [] hC (VW.condJ h1 (fun h1 => ?_) (fun h1 => ?_))))
   · refine VW.exit ?_
     have e_ := leafR h1
     subst w_1
     exact vnext l108 h (Ent.tu 10)
   refine VW.skip (VW.seq (VW.block ?_))
   obtain ⟨e110, ⟨f111a, f111b, f111c, f111d⟩, h1⟩ := bindI h1
   obtain ⟨u112, ⟨f113a, f113b⟩, h1⟩ := bindP h1
   try simp only [Int.toNat_natCast, Int.reduceToNat, List.length_cons, List.length_nil, Nat.reduceAdd, Nat.zero_add] at f113a f113b
   obtain ⟨u114, ⟨f115a, f115b⟩, h1⟩ := bindP h1
   try simp only [Int.toNat_natCast, Int.reduceToNat, List.length_cons, List.length_nil, Nat.reduceAdd, Nat.zero_add] at f115a f115b
   exact VW.rE (tm 281 [(5, .ptr 2 0 0), (8, .ref 4 0 r8.1.length), (13, .ref 6 0 r12.1.length), (34, .ref 9 0 (l108 ++ [e110]).length), (35, .i .i64 k_107)]) [some (1, rows ci_i64 r4.need_), some (1, rows ci_i64 r4.price_), some (7, [[.ref 0 0 r4.need_.length, .ref 1 0 r4.price_.length, .i .i64 r4.most_, .i .i64 r4.yield_, .i .i64 r4.store_, .i .i64 r4.first_, .i .i64 r4.loss_]]), some (1, rows cl_ci_i64o r6.1), some (1, rows cl_ci_i64o r8.1), some (1, rows ci_i64 r10.1), some (1, rows ci_i64 r12.1), some (1, rows ci_i64 r39), some (1, rows ci_i64 r41.1), some (1, rows cl_ci_i64o l108 ++ [[.ref 10 0 e110.length]]), some (1, rows ci_i64 e110), some (1, [[.ref 10 0 e110.length]])] [] hC (Ent.absorb (m := [some (1, rows ci_i64 r4.need_), some (1, rows ci_i64 r4.price_), some (7, [[.ref 0 0 r4.need_.length, .ref 1 0 r4.price_.length, .i .i64 r4.most_, .i .i64 r4.yield_, .i .i64 r4.store_, .i .i64 r4.first_, .i .i64 r4.loss_]]), some (1, rows cl_ci_i64o r6.1), some (1, rows cl_ci_i64o r8.1), some (1, rows ci_i64 r10.1), some (1, rows ci_i64 r12.1), some (1, rows ci_i64 r39), some (1, rows ci_i64 r41.1), some (1, rows cl_ci_i64o l108 ++ [[.ref 10 0 e110.length]]), some (1, rows ci_i64 e110), some (1, [[.ref 10 0 e110.length]])]) (n := 1) (n' := 1) (es := rows cl_ci_i64o l108 ++ [[.ref 10 0 e110.length]]) (es' := rows ci_i64 e110) (cs := [.ref 10 0 e110.length]) 9 l108.length 0 10 e110.length [some (1, rows ci_i64 r4.need_), some (1, rows ci_i64 r4.price_), some (7, [[.ref 0 0 r4.need_.length, .ref 1 0 r4.price_.length, .i .i64 r4.most_, .i .i64 r4.yield_, .i .i64 r4.store_, .i .i64 r4.first_, .i .i64 r4.loss_]]), some (1, rows cl_ci_i64o r6.1), some (1, rows cl_ci_i64o r8.1), some (1, rows ci_i64 r10.1), some (1, rows ci_i64 r12.1), some (1, rows ci_i64 r39), some (1, rows ci_i64 r41.1), some (1, rows cl_ci_i64o (l108 ++ [e110])), none, some (1, [[.ref 10 0 e110.length]])] rfl (by simp) rfl rfl (by decide) (by simp) (by simp) (by simp)) (VW.rA (tm 281 [(5, .ptr 2 0 0), (8, .ref 4 0 r8.1.length), (13, .ref 6 0 r12.1.length), (34, .ref 9 0 (l108 ++ [e110]).length), (35, .i .i64 (aI .i64 k_107 1))]) [some (1, rows ci_i64 r4.need_), some (1, rows ci_i64 r4.price_), some (7, [[.ref 0 0 r4.need_.length, .ref 1 0 r4.price_.length, .i .i64 r4.most_, .i .i64 r4.yield_, .i .i64 r4.store_, .i .i64 r4.first_, .i .i64 r4.loss_]]), some (1, rows cl_ci_i64o r6.1), some (1, rows cl_ci_i64o r8.1), some (1, rows ci_i64 r10.1), some (1, rows ci_i64 r12.1), some (1, rows ci_i64 r39), some (1, rows ci_i64 r41.1), some (1, rows cl_ci_i64o (l108 ++ [e110])), none, some (1, [[.ref 10 0 e110.length]])] [] hC (vnext (aI .i64 k_107 1, (l108 ++ [e110])) (leafL h1) (Ent.tu 10))) (h := by simp -implicitDefEqProofs [f111a, f111b, f111c, f111d, f113a, f113b, f115a, f115b])
 rintro l82 h
 replace h : (g4_j2 r4 r12 l82).bind _ = _ := h
 rw [g4_j2] at h
 refine VW.seq ?_
 obtain ⟨e83, ⟨f84a, f84b, f84c, f84d⟩, h⟩ := bindI h
 try simp only [Int.toNat_natCast, Int.reduceToNat] at f84a f84b f84c f84d
 refine VW.ent (Ent.trans (Ent.grow (m := [some (1, rows ci_i64 r4.need_), some (1, rows ci_i64 r4.price_), some (7, [[.ref 0 0 r4.need_.length, .ref 1 0 r4.price_.length, .i .i64 r4.most_, .i .i64 r4.yield_, .i .i64 r4.store_, .i .i64 r4.first_, .i .i64 r4.loss_]]), some (1, rows cl_ci_i64o r6.1), some (1, rows cl_ci_i64o r8.1), some (1, rows ci_i64 r10.1), some (1, rows ci_i64 r12.1), some (1, rows ci_i64 r39), some (1, rows ci_i64 r41.1), some (1, rows cl_ci_i64o l82)]) [some (1, rows ci_i64 r4.need_), some (1, rows ci_i64 r4.price_), some (7, [[.ref 0 0 r4.need_.length, .ref 1 0 r4.price_.length, .i .i64 r4.most_, .i .i64 r4.yield_, .i .i64 r4.store_, .i .i64 r4.first_, .i .i64 r4.loss_]]), some (1, rows cl_ci_i64o r6.1), some (1, rows cl_ci_i64o r8.1), some (1, rows ci_i64 r10.1), some (1, rows ci_i64 r12.1), some (1, rows ci_i64 r39), some (1, rows ci_i64 r41.1), some (1, rows cl_ci_i64o l82), none] rfl) (Ent.release (t := (tm 281 [(5, .ptr 2 0 0), (13, .ref 6 0 r12.1.length), (34, .ref 9 0 l82.length)])) (t' := (tm 281 [(5, .ptr 2 0 0), (13, .ref 6 0 r12.1.length), (34, .ref 9 0 l82.length)])) (g := []) (g' := []) (m := [some (1, rows ci_i64 r4.need_), some (1, rows ci_i64 r4.price_), some (7, [[.ref 0 0 r4.need_.length, .ref 1 0 r4.price_.length, .i .i64 r4.most_, .i .i64 r4.yield_, .i .i64 r4.store_, .i .i64 r4.first_, .i .i64 r4.loss_]]), some (1, rows cl_ci_i64o r6.1), some (1, rows cl_ci_i64o r8.1), some (1, rows ci_i64 r10.1), some (1, rows ci_i64 r12.1), some (1, rows ci_i64 r39), some (1, rows ci_i64 r41.1), some (1, rows cl_ci_i64o l82), none]) (n := 1) (n' := 1) (es := rows cl_ci_i64o l82) (es' := rows ci_i64 e83) (cs := [.own 1 (rows ci_i64 e83)]) 9 0 0 10 [some (1, rows ci_i64 r4.need_), some (1, rows ci_i64 r4.price_), some (7, [[.ref 0 0 r4.need_.length, .ref 1 0 r4.price_.length, .i .i64 r4.most_, .i .i64 r4.yield_, .i .i64 r4.store_, .i .i64 r4.first_, .i .i64 r4.loss_]]), some (1, rows cl_ci_i64o r6.1), some (1, rows cl_ci_i64o r8.1), some (1, rows ci_i64 r10.1), some (1, rows ci_i64 r12.1), some (1, rows ci_i64 r39), some (1, rows ci_i64 r41.1), some (1, (rows cl_ci_i64o l82).set 0 [.ref 10 0 e83.length]), some (1, rows ci_i64 e83)] rfl (by simp [f84a, f84b, f84c, f84d]) rfl rfl (by simp) (by simp) (tm_rel (by simp)) trivial (by simp))) ?_
 obtain ⟨e85, ⟨f86a, f86b, f86c, f86d⟩, h⟩ := bindI h
 refine VW.evalDLE (tm 281 [(5, .ptr 2 0 0), (13, .ref 6 0 r12.1.length), (34, .ref 9 0 l82.length)]) [some (1, rows ci_i64 r4.need_), some (1, rows ci_i64 r4.price_), some (7, [[.ref 0 0 r4.need_.length, .ref 1 0 r4.price_.length, .i .i64 r4.most_, .i .i64 r4.yield_, .i .i64 r4.store_, .i .i64 r4.first_, .i .i64 r4.loss_]]), some (1, rows cl_ci_i64o r6.1), some (1, rows cl_ci_i64o r8.1), some (1, rows ci_i64 r10.1), some (1, rows ci_i64 r12.1), some (1, rows ci_i64 r39), some (1, rows ci_i64 r41.1), some (1, (rows cl_ci_i64o l82).set 0 [.ref 10 0 (e83.set r4.first_.toNat (aI .i64 e85 1)).length]), some (1, rows ci_i64 (e83.set r4.first_.toNat (aI .i64 e85 1)))] [] hC mixed (by kernel_rfl) (by simp -implicitDefEqProofs [f86a, f86b, f86c, f86d, f84a, f84b, f84c, f84d]) (Ent.absorb (m := [some (1, rows ci_i64 r4.need_), some (1, rows ci_i64 r4.price_), some (7, [[.ref 0 0 r4.need_.length, .ref 1 0 r4.price_.length, .i .i64 r4.most_, .i .i64 r4.yield_, .i .i64 r4.store_, .i .i64 r4.first_, .i .i64 r4.loss_]]), some (1, rows cl_ci_i64o r6.1), some (1, rows cl_ci_i64o r8.1), some (1, rows ci_i64 r10.1), some (1, rows ci_i64 r12.1), some (1, rows ci_i64 r39), some (1, rows ci_i64 r41.1), some (1, (rows cl_ci_i64o l82).set 0 [.ref 10 0 (e83.set r4.first_.toNat (aI .i64 e85 1)).length]), some (1, rows ci_i64 (e83.set r4.first_.toNat (aI .i64 e85 1)))]) (n := 1) (n' := 1) (es := (rows cl_ci_i64o l82).set 0 [.ref 10 0 (e83.set r4.first_.toNat (aI .i64 e85 1)).length]) (es' := rows ci_i64 (e83.set r4.first_.toNat (aI .i64 e85 1))) (cs := [.ref 10 0 (e83.set r4.first_.toNat (aI .i64 e85 1)).length]) 9 0 0 10 (e83.set r4.first_.toNat (aI .i64 e85 1)).length [some (1, rows ci_i64 r4.need_), some (1, rows ci_i64 r4.price_), some (7, [[.ref 0 0 r4.need_.length, .ref 1 0 r4.price_.length, .i .i64 r4.most_, .i .i64 r4.yield_, .i .i64 r4.store_, .i .i64 r4.first_, .i .i64 r4.loss_]]), some (1, rows cl_ci_i64o r6.1), some (1, rows cl_ci_i64o r8.1), some (1, rows ci_i64 r10.1), some (1, rows ci_i64 r12.1), some (1, rows ci_i64 r39), some (1, rows ci_i64 r41.1), some (1, rows cl_ci_i64o (l82.set 0 (e83.set r4.first_.toNat (aI .i64 e85 1)))), none] rfl (by simp [f84a, f84b, f84c, f84d]) rfl rfl (by decide) (by simp) (by simp) (by simp)) (VW.seq ?_)
 obtain ⟨r87, q88, h⟩ := bindE h
 have c88 := tl21 q88
 refine VW.rA (tm 281 [(5, .ptr 2 0 0), (13, .ref 6 0 r12.1.length), (34, .ref 9 0 (l82.set 0 (e83.set r4.first_.toNat (aI .i64 e85 1))).length), (36, .i .i64 r87.1), (37, .i .i64 r87.2.1), (39, .i .i64 r87.2.2.2)]) [some (1, rows ci_i64 r4.need_), some (1, rows ci_i64 r4.price_), some (7, [[.ref 0 0 r4.need_.length, .ref 1 0 r4.price_.length, .i .i64 r4.most_, .i .i64 r4.yield_, .i .i64 r4.store_, .i .i64 r4.first_, .i .i64 r4.loss_]]), some (1, rows cl_ci_i64o r6.1), some (1, rows cl_ci_i64o r8.1), some (1, rows ci_i64 r10.1), some (1, rows ci_i64 r12.1), some (1, rows ci_i64 r39), some (1, rows ci_i64 r41.1), some (1, rows cl_ci_i64o (l82.set 0 (e83.set r4.first_.toNat (aI .i64 e85 1)))), none] [] hC (VW.seq ?_) (h := by simp -implicitDefEqProofs [c88])
 obtain ⟨r89, q90, h⟩ := bindE h
 have c90 := tl22 q90
 refine VW.rA (tm 281 [(5, .ptr 2 0 0), (36, .i .i64 r87.1), (37, .i .i64 r87.2.1), (39, .i .i64 r87.2.2.2), (40, .b r89.1), (41, .i .i64 r89.2)]) [some (1, rows ci_i64 r4.need_), some (1, rows ci_i64 r4.price_), some (7, [[.ref 0 0 r4.need_.length, .ref 1 0 r4.price_.length, .i .i64 r4.most_, .i .i64 r4.yield_, .i .i64 r4.store_, .i .i64 r4.first_, .i .i64 r4.loss_]]), some (1, rows cl_ci_i64o r6.1), some (1, rows cl_ci_i64o r8.1), some (1, rows ci_i64 r10.1), some (1, rows ci_i64 r12.1), some (1, rows ci_i64 r39), some (1, rows ci_i64 r41.1), some (1, rows cl_ci_i64o (l82.set 0 (e83.set r4.first_.toNat (aI .i64 e85 1)))), none] [] hC (VW.seq (VW.rA (tm 281 [(4, .b ((((eqI r87.2.2.2 0 && eqI r87.1 0) && eqI r87.2.1 r4.first_) && eqI r89.2 0) && (!r89.1)))]) [some (1, rows ci_i64 r4.need_), some (1, rows ci_i64 r4.price_), some (7, [[.ref 0 0 r4.need_.length, .ref 1 0 r4.price_.length, .i .i64 r4.most_, .i .i64 r4.yield_, .i .i64 r4.store_, .i .i64 r4.first_, .i .i64 r4.loss_]]), some (1, rows cl_ci_i64o r6.1), some (1, rows cl_ci_i64o r8.1), some (1, rows ci_i64 r10.1), some (1, rows ci_i64 r12.1), some (1, rows ci_i64 r39), some (1, rows ci_i64 r41.1), some (1, rows cl_ci_i64o (l82.set 0 (e83.set r4.first_.toNat (aI .i64 e85 1)))), none] [] hC ?_)) (h := by simp -implicitDefEqProofs [c90])
 obtain rfl := leafS h
 exact VW.ret (VRet.fin (by simp [eB4]))
theorem tl4 {code : List Int} {more_ : List Int} {r : Bool} (h : g4 code more_ = some r) : F4 [.sl 1 (rows ci_u8 code), .sl 1 (rows ci_u8 more_)] = some (.b r) := tells_eq inj4 (a := (code, more_)) h
end Go.Proofs.Ytboeddbhfnlpaaa
