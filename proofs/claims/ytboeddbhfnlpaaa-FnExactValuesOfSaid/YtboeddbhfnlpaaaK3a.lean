/- Contracts of the functions that the law reaches: what each tells, as a function in Lean. -/
import Derived.Test.YtboeddbhfnlpaaaK3Ty
import Derived.Test.YtboeddbhfnlpaaaVxKeep
import Derived.KernelRfl
namespace Go.Proofs.Ytboeddbhfnlpaaa
open Go.RowKit Go.VL
set_option linter.unusedSimpArgs false
set_option linter.unusedVariables false
set_option maxHeartbeats 40000000
set_option maxRecDepth 100000
noncomputable def g26 (a : List Int) (left : Int) : Option (Int) :=
if ltI (sI .i64 left (a.length : Int)) 0 = true then
some (-1)
else
some (sI .i64 left (a.length : Int))
def eA26 (a : (List Int) × Int) : List V := [.sl 1 (rows ci_i64 a.1), .i .i64 a.2]
def eB26 (r : Int) : V := .i .i64 r
theorem inj26 (a a' : (List Int) × Int) (h : eA26 a = eA26 a') : a = a' := by
  obtain ⟨i1, i2⟩ := a
  obtain ⟨i3, i4⟩ := a'
  simp only [eA26, List.cons.injEq, V.i.injEq, V.b.injEq, V.f.injEq, V.str.injEq, V.sl.injEq, V.agg.injEq, V.cptr.injEq, true_and, and_true] at h
  simp_all [ri ci_i64_inj]
noncomputable def F26 : List V → Option V := tells (fun a => g26 a.1 a.2) eA26 eB26
/- loop.example/g01229/laws.szInt64S -/
theorem ok26 : Tells Try.prog 26 F26 := by
 refine Tells.go 12 Try.func26 rfl rfl rfl (by kernel_rfl) (fun _ => rfl) ?_
 rintro ⟨a, left⟩ r h
 simp only [eA26, en, Nat.reduceAdd]
 replace h : (g26 a left).bind some = some r := bindS h
 rw [g26] at h
 have hC : CEnv.Ok Try.prog [] := trivial
 refine VW.seq (VW.rA (tm 12 [(0, .sl 1 (rows ci_i64 a)), (1, .i .i64 left)]) [] [] hC (VW.seq (VW.rA (tm 12 [(1, .i .i64 (sI .i64 left (a.length : Int)))]) [] [] hC (VW.seq (VW.seq (VW.rA (tm 12 [(1, .i .i64 (sI .i64 left (a.length : Int))), (10, .b (ltI (sI .i64 left (a.length : Int)) 0))]) [] [] hC (VW.condI h (fun h => ?_) (fun h => ?_))))))))
 · refine VW.seq (VW.rA (tm 12 [(4, .i .i64 (-1))]) [] [] hC ?_)
   obtain rfl := leafS h
   exact VW.ret (VRet.fin (by simp [eB26]))
 refine VW.skip (VW.seq (VW.rA (tm 12 [(4, .i .i64 (sI .i64 left (a.length : Int)))]) [] [] hC ?_))
 obtain rfl := leafS h
 exact VW.ret (VRet.fin (by simp [eB26]))
theorem tl26 {a : List Int} {left : Int} {r : Int} (h : g26 a left = some r) : F26 [.sl 1 (rows ci_i64 a), .i .i64 left] = some (.i .i64 r) := tells_eq inj26 (a := (a, left)) h
noncomputable def g5 (a : T23) (left : Int) : Option (Int) :=
(g26 a.need_ left).bind fun r1 =>
if ltI r1 0 = true then
some (-1)
else
(g26 a.price_ r1).bind fun r4 =>
if ltI r4 0 = true then
some (-1)
else
some r4
def eA5 (a : T23 × Int) : List V := [.agg (pT23 a.1), .i .i64 a.2]
def eB5 (r : Int) : V := .i .i64 r
theorem inj5 (a a' : T23 × Int) (h : eA5 a = eA5 a') : a = a' := by
  obtain ⟨⟨i19, i20, i21, i22, i23, i24, i25⟩, i26⟩ := a
  obtain ⟨⟨i27, i28, i29, i30, i31, i32, i33⟩, i34⟩ := a'
  simp only [eA5, pT23, List.cons.injEq, V.i.injEq, V.b.injEq, V.f.injEq, V.str.injEq, V.sl.injEq, V.agg.injEq, V.cptr.injEq, true_and, and_true] at h
  simp_all [ri ci_i64_inj]
noncomputable def F5 : List V → Option V := tells (fun a => g5 a.1 a.2) eA5 eB5
/- loop.example/g01229/laws.szSeason -/
theorem ok5 : Tells Try.prog 5 F5 := by
 refine Tells.go 18 Try.func5 rfl rfl rfl (by kernel_rfl) (fun _ => rfl) ?_
 rintro ⟨a, left⟩ r h
 simp only [eA5, en, Nat.reduceAdd]
 replace h : (g5 a left).bind some = some r := bindS h
 rw [g5] at h
 have hC : CEnv.Ok Try.prog [(26, F26)] := ⟨.inl ok26, trivial⟩
 refine VW.seq (VW.rA (tm 18 [(1, .i .i64 left), (2, .ptr 0 0 0)]) [some (7, [(pT23 a)])] [] hC (VW.seq ?_))
 obtain ⟨r1, q2, h⟩ := bindE h
 have c2 := tl26 q2
 refine VW.rA (tm 18 [(1, .i .i64 r1), (2, .ptr 0 0 0)]) [some (7, [(pT23 a)])] [] hC (VW.seq (VW.seq (VW.rA (tm 18 [(1, .i .i64 r1), (2, .ptr 0 0 0), (10, .b (ltI r1 0))]) [some (7, [(pT23 a)])] [] hC (VW.condI h (fun h => ?_) (fun h => ?_))))) (h := by simp -implicitDefEqProofs [c2])
 · refine VW.seq (VW.rA (tm 18 [(4, .i .i64 (-1))]) [some (7, [(pT23 a)])] [] hC ?_)
   obtain rfl := leafS h
   exact VW.ret (VRet.fin (by simp [eB5]))
 refine VW.skip (VW.seq ?_)
 obtain ⟨r4, q5, h⟩ := bindE h
 have c5 := tl26 q5
 refine VW.rA (tm 18 [(1, .i .i64 r4)]) [some (7, [(pT23 a)])] [] hC (VW.seq (VW.seq (VW.rA (tm 18 [(1, .i .i64 r4), (16, .b (ltI r4 0))]) [some (7, [(pT23 a)])] [] hC (VW.condI h (fun h => ?_) (fun h => ?_))))) (h := by simp -implicitDefEqProofs [c5])
 · refine VW.seq (VW.rA (tm 18 [(4, .i .i64 (-1))]) [some (7, [(pT23 a)])] [] hC ?_)
   obtain rfl := leafS h
   exact VW.ret (VRet.fin (by simp [eB5]))
 refine VW.skip (VW.seq (VW.rA (tm 18 [(4, .i .i64 r4)]) [some (7, [(pT23 a)])] [] hC ?_))
 obtain rfl := leafS h
 exact VW.ret (VRet.fin (by simp [eB5]))
theorem tl5 {a : T23} {left : Int} {r : Int} (h : g5 a left = some r) : F5 [.agg [.sl 1 (rows ci_i64 a.need_), .sl 1 (rows ci_i64 a.price_), .i .i64 a.most_, .i .i64 a.yield_, .i .i64 a.store_, .i .i64 a.first_, .i .i64 a.loss_], .i .i64 left] = some (.i .i64 r) := tells_eq inj5 (a := (a, left)) h
noncomputable def g47 (n : Int) (low : Int) (high : Int) : Option (Bool) :=
some (leI low n && leI n high)
def eA47 (a : Int × Int × Int) : List V := [.i .i64 a.1, .i .i64 a.2.1, .i .i64 a.2.2]
def eB47 (r : Bool) : V := .b r
theorem inj47 (a a' : Int × Int × Int) (h : eA47 a = eA47 a') : a = a' := by
  obtain ⟨i35, i36, i37⟩ := a
  obtain ⟨i38, i39, i40⟩ := a'
  simp only [eA47, List.cons.injEq, V.i.injEq, V.b.injEq, V.f.injEq, V.str.injEq, V.sl.injEq, V.agg.injEq, V.cptr.injEq, true_and, and_true] at h
  simp_all
noncomputable def F47 : List V → Option V := tells (fun a => g47 a.1 a.2.1 a.2.2) eA47 eB47
/- loop.example/g01229/spec.l00In -/
theorem ok47 : Tells Try.prog 47 F47 := by
 refine Tells.go 15 Try.func47 rfl rfl rfl (by kernel_rfl) (fun _ => rfl) ?_
 rintro ⟨n, low, high⟩ r h
 simp only [eA47, en, Nat.reduceAdd]
 replace h : (g47 n low high).bind some = some r := bindS h
 rw [g47] at h
 have hC : CEnv.Ok Try.prog [] := trivial
 refine VW.seq (VW.rA (tm 15 [(0, .i .i64 n), (1, .i .i64 low), (2, .i .i64 high)]) [] [] hC (VW.seq (VW.rA (tm 15 [(6, .b (leI low n && leI n high))]) [] [] hC ?_)))
 obtain rfl := leafS h
 exact VW.ret (VRet.fin (by simp [eB47]))
theorem tl47 {n : Int} {low : Int} {high : Int} {r : Bool} (h : g47 n low high = some r) : F47 [.i .i64 n, .i .i64 low, .i .i64 high] = some (.b r) := tells_eq inj47 (a := (n, low, high)) h
noncomputable def g44_j1 : Option (Bool) :=
some true
noncomputable def g44_L1 (list : List Int) (most : Int) : (Int) → Option ((Int) ⊕ ((Unit) ⊕ (Bool)))
| i_34 =>
if ltI i_34 (list.length : Int) = true then
(idx list i_34).bind fun e36 =>
(g47 e36 0 most).bind fun r38 =>
if (!r38) = true then
some (.inr (.inr false))
else
some (.inl (aI .i64 i_34 1))
else
some (.inr (.inl ()))
noncomputable def g44 (list : List Int) (most : Int) : Option (Bool) :=
(loopO (g44_L1 list most) 0).bind fun w => match w with
| .inl y => g44_j1
| .inr r => some r
def eA44 (a : (List Int) × Int) : List V := [.sl 1 (rows ci_i64 a.1), .i .i64 a.2]
def eB44 (r : Bool) : V := .b r
theorem inj44 (a a' : (List Int) × Int) (h : eA44 a = eA44 a') : a = a' := by
  obtain ⟨i41, i42⟩ := a
  obtain ⟨i43, i44⟩ := a'
  simp only [eA44, List.cons.injEq, V.i.injEq, V.b.injEq, V.f.injEq, V.str.injEq, V.sl.injEq, V.agg.injEq, V.cptr.injEq, true_and, and_true] at h
  simp_all [ri ci_i64_inj]
noncomputable def F44 : List V → Option V := tells (fun a => g44 a.1 a.2) eA44 eB44
/- loop.example/g01229/spec.l07Bounded -/
theorem ok44 : Tells Try.prog 44 F44 := by
 refine Tells.go 19 Try.func44 rfl rfl rfl (by kernel_rfl) (fun _ => rfl) ?_
 rintro ⟨list, most⟩ r h
 simp only [eA44, en, Nat.reduceAdd]
 replace h : (g44 list most).bind some = some r := bindS h
 rw [g44] at h
 have hC : CEnv.Ok Try.prog [(47, F47)] := ⟨.inl ok47, trivial⟩
 refine VW.seq (VW.rA (tm 19 [(0, .sl 1 (rows ci_i64 list)), (1, .i .i64 most)]) [] [] hC (VW.join (fun (v : Unit) => (⟨(tm 19 []), [], []⟩ : VS)) (fun v => (g44_j1).bind some = some r) ?_ ?_))
 · refine VW.seq (VW.rA (tm 19 [(0, .sl 1 (rows ci_i64 list)), (1, .i .i64 most), (5, .i .i64 0)]) [] [] hC (VW.block ?_))
   obtain ⟨w_1, hw_1, h⟩ := bindE h
   refine VW.loopO (fun (x : Int) => (⟨(tm 19 [(0, .sl 1 (rows ci_i64 list)), (1, .i .i64 most), (5, .i .i64 x)]), [], []⟩ : VS)) hw_1 (Ent.tu 0) ?_
   rintro n_1 i_34 h1
   rw [g44_L1] at h1
   refine VW.seq (VW.seq (VW.rA (tm 19 [(0, .sl 1 (rows ci_i64 list)), (1, .i .i64 most), (5, .i .i64 i_34), (9, .b (ltI i_34 (list.length : Int)))]) [] [] hC (VW.condJ h1 (fun h1 => ?_) (fun h1 => ?_))))
   · refine VW.exit ?_
     have e_ := leafR h1
     subst w_1
     exact vnext () h (Ent.tu 0)
   refine VW.skip (VW.seq (VW.block (VW.seq ?_)))
   obtain ⟨e36, ⟨f37a, f37b, f37c, f37d⟩, h1⟩ := bindI h1
   obtain ⟨r38, q39, h1⟩ := bindE h1
   have c39 := tl47 q39
   refine VW.rA (tm 19 [(0, .sl 1 (rows ci_i64 list)), (1, .i .i64 most), (5, .i .i64 i_34), (18, .b (!r38))]) [] [] hC (VW.condI h1 (fun h1 => ?_) (fun h1 => ?_)) (h := by simp -implicitDefEqProofs [f37a, f37b, f37c, f37d, c39])
   · refine VW.seq (VW.rA (tm 19 [(4, .b false)]) [] [] hC ?_)
     have e_ := leafR h1
     subst w_1
     obtain rfl := leafS h
     exact VW.ret (VRet.fin (by simp [eB44]))
   exact VW.skip (VW.rA (tm 19 [(0, .sl 1 (rows ci_i64 list)), (1, .i .i64 most), (5, .i .i64 (aI .i64 i_34 1))]) [] [] hC (vnext (aI .i64 i_34 1) (leafL h1) (Ent.tu 0)))
 rintro _ h
 replace h : (g44_j1).bind _ = _ := h
 rw [g44_j1] at h
 refine VW.seq (VW.rA (tm 19 [(4, .b true)]) [] [] hC ?_)
 obtain rfl := leafS h
 exact VW.ret (VRet.fin (by simp [eB44]))
theorem tl44 {list : List Int} {most : Int} {r : Bool} (h : g44 list most = some r) : F44 [.sl 1 (rows ci_i64 list), .i .i64 most] = some (.b r) := tells_eq inj44 (a := (list, most)) h
noncomputable def g27 (s : T23) : Option (Bool) :=
(g47 (s.need_.length : Int) 1 24).bind fun r1 =>
(if (r1 && eqI (s.price_.length : Int) (s.need_.length : Int)) = true then (g44 s.need_ 200).bind fun r3 => some r3 else some false).bind fun w5 =>
(if w5 = true then (g44 s.price_ 1000).bind fun r6 => some r6 else some false).bind fun w8 =>
(if w8 = true then (g47 s.most_ 0 20).bind fun r9 => some r9 else some false).bind fun w11 =>
(if w11 = true then (g47 s.yield_ 1 40).bind fun r12 => some r12 else some false).bind fun w14 =>
(if w14 = true then (g47 s.store_ 0 60).bind fun r15 => some r15 else some false).bind fun w17 =>
(if w17 = true then (g47 s.first_ 0 s.store_).bind fun r18 => some r18 else some false).bind fun w20 =>
(if w20 = true then (g47 s.loss_ 0 100).bind fun r21 => some r21 else some false).bind fun w23 =>
some w23
def eA27 (a : T23) : List V := [.cptr (pT23 a) 0]
def eB27 (r : Bool) : V := .b r
theorem inj27 (a a' : T23) (h : eA27 a = eA27 a') : a = a' := by
  obtain ⟨i45, i46, i47, i48, i49, i50, i51⟩ := a
  obtain ⟨i52, i53, i54, i55, i56, i57, i58⟩ := a'
  simp only [eA27, pT23, List.cons.injEq, V.i.injEq, V.b.injEq, V.f.injEq, V.str.injEq, V.sl.injEq, V.agg.injEq, V.cptr.injEq, true_and, and_true] at h
  simp_all [ri ci_i64_inj]
noncomputable def F27 : List V → Option V := tells (fun a => g27 a) eA27 eB27
/- loop.example/g01229/spec.l07Ok -/
theorem ok27 : Tells Try.prog 27 F27 := by
 refine Tells.go 75 Try.func27 rfl rfl rfl (by kernel_rfl) (fun _ => rfl) ?_
 rintro s r h
 simp only [eA27, en, Nat.reduceAdd]
 replace h : (g27 s).bind some = some r := bindS h
 rw [g27] at h
 have hC : CEnv.Ok Try.prog [(44, F44), (47, F47)] := ⟨.inl ok44, .inl ok47, trivial⟩
 refine VW.seq (VW.rA (tm 75 [(0, .cptr (pT23 s) 0)]) [] [] hC (VW.seq ?_))
 obtain ⟨r1, q2, h⟩ := bindE h
 have c2 := tl47 q2
 obtain ⟨w5, q24, h⟩ := bindE h
 obtain ⟨w8, q25, h⟩ := bindE h
 obtain ⟨w11, q26, h⟩ := bindE h
 obtain ⟨w14, q27, h⟩ := bindE h
 obtain ⟨w17, q28, h⟩ := bindE h
 obtain ⟨w20, q29, h⟩ := bindE h
 obtain ⟨w23, q30, h⟩ := bindE h
 refine VW.evalDA (tm 75 [(2, .b w23)]) [] [] hC mixed (by kernel_rfl) (by
     obtain ⟨q31, q24⟩ | ⟨q31, rfl⟩ := gdT q24
     · obtain ⟨r3, q4, q24⟩ := bindQ q24
       have c4 := tl44 q4
       obtain rfl := Option.some.inj q24
       obtain ⟨q32, q25⟩ | ⟨q32, rfl⟩ := gdT q25
       · obtain ⟨r6, q7, q25⟩ := bindQ q25
         have c7 := tl44 q7
         obtain rfl := Option.some.inj q25
         obtain ⟨q33, q26⟩ | ⟨q33, rfl⟩ := gdT q26
         · obtain ⟨r9, q10, q26⟩ := bindQ q26
           have c10 := tl47 q10
           obtain rfl := Option.some.inj q26
           obtain ⟨q34, q27⟩ | ⟨q34, rfl⟩ := gdT q27
           · obtain ⟨r12, q13, q27⟩ := bindQ q27
             have c13 := tl47 q13
             obtain rfl := Option.some.inj q27
             obtain ⟨q35, q28⟩ | ⟨q35, rfl⟩ := gdT q28
             · obtain ⟨r15, q16, q28⟩ := bindQ q28
               have c16 := tl47 q16
               obtain rfl := Option.some.inj q28
               obtain ⟨q36, q29⟩ | ⟨q36, rfl⟩ := gdT q29
               · obtain ⟨r18, q19, q29⟩ := bindQ q29
                 have c19 := tl47 q19
                 obtain rfl := Option.some.inj q29
                 obtain ⟨q37, q30⟩ | ⟨q37, rfl⟩ := gdT q30
                 · obtain ⟨r21, q22, q30⟩ := bindQ q30
                   have c22 := tl47 q22
                   obtain rfl := Option.some.inj q30
                   simp -implicitDefEqProofs [c2, q31, c4, q32, c7, q33, c10, q34, c13, q35, c16, q36, c19, q37, c22, pT23]
                 simp -implicitDefEqProofs [c2, q31, c4, q32, c7, q33, c10, q34, c13, q35, c16, q36, c19, q37, pT23]
               obtain ⟨q38, q30⟩ | ⟨q38, rfl⟩ := gdT q30
               · exact absurd q38 (by simp)
               simp -implicitDefEqProofs [c2, q31, c4, q32, c7, q33, c10, q34, c13, q35, c16, q36, q38, pT23]
             obtain ⟨q39, q29⟩ | ⟨q39, rfl⟩ := gdT q29
             · exact absurd q39 (by simp)
             obtain ⟨q40, q30⟩ | ⟨q40, rfl⟩ := gdT q30
             · exact absurd q40 (by simp)
             simp -implicitDefEqProofs [c2, q31, c4, q32, c7, q33, c10, q34, c13, q35, q39, q40, pT23]
           obtain ⟨q41, q28⟩ | ⟨q41, rfl⟩ := gdT q28
           · exact absurd q41 (by simp)
           obtain ⟨q42, q29⟩ | ⟨q42, rfl⟩ := gdT q29
           · exact absurd q42 (by simp)
           obtain ⟨q43, q30⟩ | ⟨q43, rfl⟩ := gdT q30
           · exact absurd q43 (by simp)
           simp -implicitDefEqProofs [c2, q31, c4, q32, c7, q33, c10, q34, q41, q42, q43, pT23]
         obtain ⟨q44, q27⟩ | ⟨q44, rfl⟩ := gdT q27
         · exact absurd q44 (by simp)
         obtain ⟨q45, q28⟩ | ⟨q45, rfl⟩ := gdT q28
         · exact absurd q45 (by simp)
         obtain ⟨q46, q29⟩ | ⟨q46, rfl⟩ := gdT q29
         · exact absurd q46 (by simp)
         obtain ⟨q47, q30⟩ | ⟨q47, rfl⟩ := gdT q30
         · exact absurd q47 (by simp)
         simp -implicitDefEqProofs [c2, q31, c4, q32, c7, q33, q44, q45, q46, q47, pT23]
       obtain ⟨q48, q26⟩ | ⟨q48, rfl⟩ := gdT q26
       · exact absurd q48 (by simp)
       obtain ⟨q49, q27⟩ | ⟨q49, rfl⟩ := gdT q27
       · exact absurd q49 (by simp)
       obtain ⟨q50, q28⟩ | ⟨q50, rfl⟩ := gdT q28
       · exact absurd q50 (by simp)
       obtain ⟨q51, q29⟩ | ⟨q51, rfl⟩ := gdT q29
       · exact absurd q51 (by simp)
       obtain ⟨q52, q30⟩ | ⟨q52, rfl⟩ := gdT q30
       · exact absurd q52 (by simp)
       simp -implicitDefEqProofs [c2, q31, c4, q32, q48, q49, q50, q51, q52, pT23]
     obtain ⟨q53, q25⟩ | ⟨q53, rfl⟩ := gdT q25
     · exact absurd q53 (by simp)
     obtain ⟨q54, q26⟩ | ⟨q54, rfl⟩ := gdT q26
     · exact absurd q54 (by simp)
     obtain ⟨q55, q27⟩ | ⟨q55, rfl⟩ := gdT q27
     · exact absurd q55 (by simp)
     obtain ⟨q56, q28⟩ | ⟨q56, rfl⟩ := gdT q28
     · exact absurd q56 (by simp)
     obtain ⟨q57, q29⟩ | ⟨q57, rfl⟩ := gdT q29
     · exact absurd q57 (by simp)
     obtain ⟨q58, q30⟩ | ⟨q58, rfl⟩ := gdT q30
     · exact absurd q58 (by simp)
     simp -implicitDefEqProofs [c2, q31, q53, q54, q55, q56, q57, q58, pT23]) ?_
 obtain rfl := leafS h
 exact VW.ret (VRet.fin (by simp [eB27]))
theorem tl27 {s : T23} {r : Bool} (h : g27 s = some r) : F27 [.cptr [.sl 1 (rows ci_i64 s.need_), .sl 1 (rows ci_i64 s.price_), .i .i64 s.most_, .i .i64 s.yield_, .i .i64 s.store_, .i .i64 s.first_, .i .i64 s.loss_] 0] = some (.b r) := tells_eq inj27 (a := s) h
noncomputable def g51 (a : Int) (b : Int) : Option (Int) :=
if ltI b a = true then
some b
else
some a
def eA51 (a : Int × Int) : List V := [.i .i64 a.1, .i .i64 a.2]
def eB51 (r : Int) : V := .i .i64 r
theorem inj51 (a a' : Int × Int) (h : eA51 a = eA51 a') : a = a' := by
  obtain ⟨i59, i60⟩ := a
  obtain ⟨i61, i62⟩ := a'
  simp only [eA51, List.cons.injEq, V.i.injEq, V.b.injEq, V.f.injEq, V.str.injEq, V.sl.injEq, V.agg.injEq, V.cptr.injEq, true_and, and_true] at h
  simp_all
noncomputable def F51 : List V → Option V := tells (fun a => g51 a.1 a.2) eA51 eB51
/- loop.example/g01229/spec.l07Least -/
theorem ok51 : Tells Try.prog 51 F51 := by
 refine Tells.go 10 Try.func51 rfl rfl rfl (by kernel_rfl) (fun _ => rfl) ?_
 rintro ⟨a, b⟩ r h
 simp only [eA51, en, Nat.reduceAdd]
 replace h : (g51 a b).bind some = some r := bindS h
 rw [g51] at h
 have hC : CEnv.Ok Try.prog [] := trivial
 refine VW.seq (VW.rA (tm 10 [(0, .i .i64 a), (1, .i .i64 b)]) [] [] hC (VW.seq (VW.seq (VW.rA (tm 10 [(0, .i .i64 a), (1, .i .i64 b), (7, .b (ltI b a))]) [] [] hC (VW.condI h (fun h => ?_) (fun h => ?_))))))
 · refine VW.seq (VW.rA (tm 10 [(4, .i .i64 b)]) [] [] hC ?_)
   obtain rfl := leafS h
   exact VW.ret (VRet.fin (by simp [eB51]))
 refine VW.skip (VW.seq (VW.rA (tm 10 [(4, .i .i64 a)]) [] [] hC ?_))
 obtain rfl := leafS h
 exact VW.ret (VRet.fin (by simp [eB51]))
theorem tl51 {a : Int} {b : Int} {r : Int} (h : g51 a b = some r) : F51 [.i .i64 a, .i .i64 b] = some (.i .i64 r) := tells_eq inj51 (a := (a, b)) h
noncomputable def g45 (s : T23) (slot : Int) (store : Int) (logs : Int) : Option (Int) :=
(idx s.need_ slot).bind fun e1 =>
if ltI (sI .i64 (aI .i64 store (mI .i64 logs s.yield_)) e1) 0 = true then
some (-1)
else
(dI .i64 (mI .i64 (sI .i64 (aI .i64 store (mI .i64 logs s.yield_)) e1) s.loss_) 100).bind fun d4 =>
(g51 (sI .i64 (sI .i64 (aI .i64 store (mI .i64 logs s.yield_)) e1) d4) s.store_).bind fun r6 =>
some r6
def eA45 (a : T23 × Int × Int × Int) : List V := [.cptr (pT23 a.1) 0, .i .i64 a.2.1, .i .i64 a.2.2.1, .i .i64 a.2.2.2]
def eB45 (r : Int) : V := .i .i64 r
theorem inj45 (a a' : T23 × Int × Int × Int) (h : eA45 a = eA45 a') : a = a' := by
  obtain ⟨⟨i63, i64, i65, i66, i67, i68, i69⟩, i70, i71, i72⟩ := a
  obtain ⟨⟨i73, i74, i75, i76, i77, i78, i79⟩, i80, i81, i82⟩ := a'
  simp only [eA45, pT23, List.cons.injEq, V.i.injEq, V.b.injEq, V.f.injEq, V.str.injEq, V.sl.injEq, V.agg.injEq, V.cptr.injEq, true_and, and_true] at h
  simp_all [ri ci_i64_inj]
noncomputable def F45 : List V → Option V := tells (fun a => g45 a.1 a.2.1 a.2.2.1 a.2.2.2) eA45 eB45
/- loop.example/g01229/spec.l07After -/
theorem ok45 : Tells Try.prog 45 F45 := by
 refine Tells.go 42 Try.func45 rfl rfl rfl (by kernel_rfl) (fun _ => rfl) ?_
 rintro ⟨s, slot, store, logs⟩ r h
 simp only [eA45, en, Nat.reduceAdd]
 replace h : (g45 s slot store logs).bind some = some r := bindS h
 rw [g45] at h
 have hC : CEnv.Ok Try.prog [(51, F51)] := ⟨.inl ok51, trivial⟩
 refine VW.seq (VW.rA (tm 42 [(0, .cptr (pT23 s) 0), (1, .i .i64 slot), (2, .i .i64 store), (3, .i .i64 logs)]) [] [] hC (VW.seq ?_))
 obtain ⟨e1, ⟨f2a, f2b, f2c, f2d⟩, h⟩ := bindI h
 refine VW.rD (tm 42 [(0, .cptr (pT23 s) 0), (9, .i .i64 (sI .i64 (aI .i64 store (mI .i64 logs s.yield_)) e1))]) [] [] hC mixed (VW.seq (VW.seq (VW.rA (tm 42 [(0, .cptr (pT23 s) 0), (9, .i .i64 (sI .i64 (aI .i64 store (mI .i64 logs s.yield_)) e1)), (27, .b (ltI (sI .i64 (aI .i64 store (mI .i64 logs s.yield_)) e1) 0))]) [] [] hC (VW.condI h (fun h => ?_) (fun h => ?_))))) (h := by simp -implicitDefEqProofs [f2a, f2b, f2c, f2d])
 · refine VW.seq (VW.rA (tm 42 [(8, .i .i64 (-1))]) [] [] hC ?_)
   obtain rfl := leafS h
   exact VW.ret (VRet.fin (by simp [eB45]))
 refine VW.skip (VW.seq ?_)
 obtain ⟨d4, q5, h⟩ := bindE h
 obtain ⟨r6, q7, h⟩ := bindE h
 have c7 := tl51 q7
 refine VW.rD (tm 42 [(8, .i .i64 r6)]) [] [] hC mixed ?_ (h := by simp -implicitDefEqProofs [q5, c7])
 obtain rfl := leafS h
 exact VW.ret (VRet.fin (by simp [eB45]))
theorem tl45 {s : T23} {slot : Int} {store : Int} {logs : Int} {r : Int} (h : g45 s slot store logs = some r) : F45 [.cptr [.sl 1 (rows ci_i64 s.need_), .sl 1 (rows ci_i64 s.price_), .i .i64 s.most_, .i .i64 s.yield_, .i .i64 s.store_, .i .i64 s.first_, .i .i64 s.loss_] 0, .i .i64 slot, .i .i64 store, .i .i64 logs] = some (.i .i64 r) := tells_eq inj45 (a := (s, slot, store, logs)) h
noncomputable def g28_j1 (l8579 : List (List Int)) : Option (List (List Int)) :=
some l8579
noncomputable def g28_j2 (k_14294 : Int) (l15724 : List (List Int)) : Option ((Int × (List (List Int))) ⊕ (List (List Int))) :=
some (.inl (sI .i64 k_14294 1, l15724))
noncomputable def g28_j3 (l14295 : List (List Int)) (k_14294 : Int) (l16437 : List Int) : Option ((Int × (List (List Int))) ⊕ (List (List Int))) :=
(idx l14295 k_14294).bind fun e16438 =>
g28_j2 k_14294 (l14295.set k_14294.toNat l16437)
noncomputable def g28_j4 (i_16914 : Int) (l17034 : List Int) : Option ((Int × (List Int)) ⊕ (List Int)) :=
some (.inl (aI .i64 i_16914 1, l17034))
noncomputable def g28_j5 (l16915 : List Int) (i_16914 : Int) (least_17092 : Int) : Option ((Int × (List Int)) ⊕ (List Int)) :=
(appK 8 l16915 [least_17092]).bind fun u17093 =>
g28_j4 i_16914 (l16915 ++ [least_17092])
noncomputable def g28_L3 (s : T23) (k_14294 : Int) (i_16914 : Int) (l14295 : List (List Int)) : (Int × Int) → Option ((Int × Int) ⊕ (Int))
| (least_17132, logs_17133) =>
if leI logs_17133 s.most_ = true then
(g45 s k_14294 i_16914 logs_17133).bind fun r17135 =>
(if ltI r17135 0 = true then some true else (idx l14295 (aI .i64 k_14294 1)).bind fun e17137 => (idx e17137 r17135).bind fun e17139 => some (eqI e17139 (-1))).bind fun w17141 =>
if w17141 = true then
some (.inl (least_17132, aI .i64 logs_17133 1))
else
(idx s.price_ k_14294).bind fun e17143 =>
(idx l14295 (aI .i64 k_14294 1)).bind fun e17145 =>
(idx e17145 r17135).bind fun e17147 =>
if (eqI least_17132 (-1) || ltI (aI .i64 (mI .i64 e17143 logs_17133) e17147) least_17132) = true then
some (.inl (aI .i64 (mI .i64 e17143 logs_17133) e17147, aI .i64 logs_17133 1))
else
some (.inl (least_17132, aI .i64 logs_17133 1))
else
some (.inr least_17132)
noncomputable def g28_L2 (s : T23) (k_14294 : Int) (l14295 : List (List Int)) : (Int × (List Int)) → Option ((Int × (List Int)) ⊕ (List Int))
| (i_16914, l16915) =>
if leI i_16914 s.store_ = true then
(loopO (g28_L3 s k_14294 i_16914 l14295) ((-1), 0)).bind fun w => g28_j5 l16915 i_16914 w
else
some (.inr l16915)
noncomputable def g28_L1 (s : T23) : (Int × (List (List Int))) → Option ((Int × (List (List Int))) ⊕ (List (List Int)))
| (k_14294, l14295) =>
if leI 0 k_14294 = true then
(loopO (g28_L2 s k_14294 l14295) (0, [])).bind fun w => g28_j3 l14295 k_14294 w
else
some (.inr l14295)
noncomputable def g28 (s : T23) : Option (List (List Int)) :=
(mk 24 (aI .i64 (s.need_.length : Int) 1)).bind fun u1 =>
(mk 8 (aI .i64 s.store_ 1)).bind fun u3 =>
(idx (List.replicate (aI .i64 (s.need_.length : Int) 1).toNat ([] : List Int)) (s.need_.length : Int)).bind fun e5 =>
(loopO (g28_L1 s) (sI .i64 (s.need_.length : Int) 1, ((List.replicate (aI .i64 (s.need_.length : Int) 1).toNat ([] : List Int)).set ((s.need_.length : Int).toNat) (List.replicate (aI .i64 s.store_ 1).toNat 0)))).bind fun w => g28_j1 w
def eA28 (a : T23) : List V := [.cptr (pT23 a) 0]
def eB28 (r : List (List Int)) : V := .own 1 (rows cl_ci_i64o r)
theorem inj28 (a a' : T23) (h : eA28 a = eA28 a') : a = a' := by
  obtain ⟨i83, i84, i85, i86, i87, i88, i89⟩ := a
  obtain ⟨i90, i91, i92, i93, i94, i95, i96⟩ := a'
  simp only [eA28, pT23, List.cons.injEq, V.i.injEq, V.b.injEq, V.f.injEq, V.str.injEq, V.sl.injEq, V.agg.injEq, V.cptr.injEq, true_and, and_true] at h
  simp_all [ri ci_i64_inj]
noncomputable def F28 : List V → Option V := tells (fun a => g28 a) eA28 eB28
/- loop.example/g01229/spec.l07Values -/
theorem ok28 : Tells Try.prog 28 F28 := by
 refine Tells.go 105 Try.func28 rfl rfl rfl (by kernel_rfl) (fun _ => rfl) ?_
 rintro s r h
 simp only [eA28, en, Nat.reduceAdd]
 replace h : (g28 s).bind some = some r := bindS h
 rw [g28] at h
 have hC : CEnv.Ok Try.prog [(45, F45)] := ⟨.inl ok45, trivial⟩
 refine VW.seq (VW.rA (tm 105 [(0, .cptr (pT23 s) 0)]) [] [] hC (VW.seq (VW.rA (tm 105 [(0, .cptr (pT23 s) 0), (3, .i .i64 (s.need_.length : Int))]) [] [] hC (VW.seq ?_))))
 obtain ⟨u1, ⟨f2a, f2b, f2c⟩, h⟩ := bindM h
 try simp only [Int.toNat_natCast, Int.reduceToNat, List.length_cons, List.length_nil, Nat.reduceAdd, Nat.zero_add] at f2a f2b f2c
 refine VW.rE (tm 105 [(0, .cptr (pT23 s) 0), (3, .i .i64 (s.need_.length : Int)), (4, .ref 0 0 (List.replicate (aI .i64 (s.need_.length : Int) 1).toNat ([] : List Int)).length)]) [some (1, List.replicate (aI .i64 (s.need_.length : Int) 1).toNat [.nil])] [] hC (Ent.nilown (m := [some (1, List.replicate (aI .i64 (s.need_.length : Int) 1).toNat [.nil])]) 0 ((aI .i64 (s.need_.length : Int) 1).toNat) 1 [some (1, rows cl_ci_i64o (List.replicate (aI .i64 (s.need_.length : Int) 1).toNat ([] : List Int)))] (by simp) (by simp)) (VW.seq ?_) (h := by simp -implicitDefEqProofs [f2a, f2b, f2c])
 obtain ⟨u3, ⟨f4a, f4b, f4c⟩, h⟩ := bindM h
 try simp only [Int.toNat_natCast, Int.reduceToNat, List.length_cons, List.length_nil, Nat.reduceAdd, Nat.zero_add] at f4a f4b f4c
 obtain ⟨e5, ⟨f6a, f6b, f6c, f6d⟩, h⟩ := bindI h
 have f6s := f6c
 simp at f6s
 try simp only [Int.toNat_natCast, Int.reduceToNat] at f6a f6b f6c f6d
 refine VW.rE (tm 105 [(0, .cptr (pT23 s) 0), (3, .i .i64 (s.need_.length : Int)), (4, .ref 0 0 (List.replicate (aI .i64 (s.need_.length : Int) 1).toNat ([] : List Int)).length)]) [some (1, (rows cl_ci_i64o (List.replicate (aI .i64 (s.need_.length : Int) 1).toNat ([] : List Int))).set ((s.need_.length : Int).toNat) [.ref 1 0 (List.replicate (aI .i64 s.store_ 1).toNat 0).length]), some (1, rows ci_i64 (List.replicate (aI .i64 s.store_ 1).toNat 0))] [] hC (Ent.absorb (m := [some (1, (rows cl_ci_i64o (List.replicate (aI .i64 (s.need_.length : Int) 1).toNat ([] : List Int))).set ((s.need_.length : Int).toNat) [.ref 1 0 (List.replicate (aI .i64 s.store_ 1).toNat 0).length]), some (1, rows ci_i64 (List.replicate (aI .i64 s.store_ 1).toNat 0))]) (n := 1) (n' := 1) (es := (rows cl_ci_i64o (List.replicate (aI .i64 (s.need_.length : Int) 1).toNat ([] : List Int))).set ((s.need_.length : Int).toNat) [.ref 1 0 (List.replicate (aI .i64 s.store_ 1).toNat 0).length]) (es' := rows ci_i64 (List.replicate (aI .i64 s.store_ 1).toNat 0)) (cs := [.ref 1 0 (List.replicate (aI .i64 s.store_ 1).toNat 0).length]) 0 ((s.need_.length : Int).toNat) 0 1 (List.replicate (aI .i64 s.store_ 1).toNat 0).length [some (1, rows cl_ci_i64o ((List.replicate (aI .i64 (s.need_.length : Int) 1).toNat ([] : List Int)).set ((s.need_.length : Int).toNat) (List.replicate (aI .i64 s.store_ 1).toNat 0))), none] rfl (by simp [f6a, f6b, f6c, f6d, f6s]) rfl rfl (by decide) (by simp) (by simp) (by simp)) (VW.join (fun (v : List (List Int)) => (⟨(tm 105 [(4, .ref 0 0 v.length)]), [some (1, rows cl_ci_i64o v), none], []⟩ : VS)) (fun v => (g28_j1 (v)).bind some = some r) ?_ ?_) (h := by simp -implicitDefEqProofs [f4a, f4b, f4c, f6a, f6b, f6c, f6d, f6s])
 · refine VW.seq (VW.rA (tm 105 [(0, .cptr (pT23 s) 0), (4, .ref 0 0 ((List.replicate (aI .i64 (s.need_.length : Int) 1).toNat ([] : List Int)).set ((s.need_.length : Int).toNat) (List.replicate (aI .i64 s.store_ 1).toNat 0)).length), (5, .i .i64 (sI .i64 (s.need_.length : Int) 1))]) [some (1, rows cl_ci_i64o ((List.replicate (aI .i64 (s.need_.length : Int) 1).toNat ([] : List Int)).set ((s.need_.length : Int).toNat) (List.replicate (aI .i64 s.store_ 1).toNat 0))), none] [] hC (VW.block ?_))
   obtain ⟨w_1, hw_1, h⟩ := bindE h
   refine VW.loopO (fun (x : Int × (List (List Int))) => (⟨(tm 105 [(0, .cptr (pT23 s) 0), (4, .ref 0 0 x.2.length), (5, .i .i64 x.1)]), [some (1, rows cl_ci_i64o x.2), none], []⟩ : VS)) hw_1 (Ent.tu 2) ?_
   rintro n_1 ⟨k_14294, l14295⟩ h1
   rw [g28_L1] at h1
   refine VW.seq (VW.seq (VW.rA (tm 105 [(0, .cptr (pT23 s) 0), (4, .ref 0 0 l14295.length), (5, .i .i64 k_14294), (32, .b (leI 0 k_14294))]) [some (1, rows cl_ci_i64o l14295), none] [] hC (VW.condJ h1 (fun h1 => ?_) (fun h1 => ?_))))
   · refine VW.exit ?_
     have e_ := leafR h1
     subst w_1
     exact vnext l14295 h (Ent.tu 2)
   refine VW.skip (VW.join (fun (v : List (List Int)) => (⟨(tm 105 [(0, .cptr (pT23 s) 0), (4, .ref 0 0 v.length), (5, .i .i64 k_14294)]), [some (1, rows cl_ci_i64o v), none], []⟩ : VS)) (fun v => (g28_j2 k_14294 (v)).bind (kN (g28_L1 s) n_1) = some w_1) ?_ ?_)
   · refine VW.block (VW.seq (VW.rA (tm 105 [(0, .cptr (pT23 s) 0), (4, .ref 0 0 l14295.length), (5, .i .i64 k_14294), (6, .ref 2 0 0)]) [some (1, rows cl_ci_i64o l14295), none, some (1, rows ci_i64 [])] [] hC (VW.join (fun (v : List Int) => (⟨(tm 105 [(0, .cptr (pT23 s) 0), (4, .ref 0 0 l14295.length), (5, .i .i64 k_14294), (6, .ref 2 0 v.length)]), [some (1, rows cl_ci_i64o l14295), none, some (1, rows ci_i64 v)], []⟩ : VS)) (fun v => (g28_j3 l14295 k_14294 (v)).bind (kN (g28_L1 s) n_1) = some w_1) ?_ ?_)))
     · refine VW.seq (VW.rA (tm 105 [(0, .cptr (pT23 s) 0), (4, .ref 0 0 l14295.length), (5, .i .i64 k_14294), (6, .ref 2 0 0), (7, .i .i64 0)]) [some (1, rows cl_ci_i64o l14295), none, some (1, rows ci_i64 [])] [] hC (VW.block ?_))
       obtain ⟨w_2, hw_2, h1⟩ := bindE h1
       refine VW.loopO (fun (x : Int × (List Int)) => (⟨(tm 105 [(0, .cptr (pT23 s) 0), (4, .ref 0 0 l14295.length), (5, .i .i64 k_14294), (6, .ref 2 0 x.2.length), (7, .i .i64 x.1)]), [some (1, rows cl_ci_i64o l14295), none, some (1, rows ci_i64 x.2)], []⟩ : VS)) hw_2 (Ent.tu 3) ?_
       rintro n_2 ⟨i_16914, l16915⟩ h2
       rw [g28_L2] at h2
       refine VW.seq (VW.seq (VW.rA (tm 105 [(0, .cptr (pT23 s) 0), (4, .ref 0 0 l14295.length), (5, .i .i64 k_14294), (6, .ref 2 0 l16915.length), (7, .i .i64 i_16914), (41, .b (leI i_16914 s.store_))]) [some (1, rows cl_ci_i64o l14295), none, some (1, rows ci_i64 l16915)] [] hC (VW.condJ h2 (fun h2 => ?_) (fun h2 => ?_))))
       · refine VW.exit ?_
         have e_ := leafR h2
         subst w_2
         exact vnext l16915 h1 (Ent.tu 3)
       refine VW.skip (VW.join (fun (v : List Int) => (⟨(tm 105 [(0, .cptr (pT23 s) 0), (4, .ref 0 0 l14295.length), (5, .i .i64 k_14294), (6, .ref 2 0 v.length), (7, .i .i64 i_16914)]), [some (1, rows cl_ci_i64o l14295), none, some (1, rows ci_i64 v)], []⟩ : VS)) (fun v => (g28_j4 i_16914 (v)).bind (kN (g28_L2 s k_14294 l14295) n_2) = some w_2) ?_ ?_)
       · refine VW.block (VW.seq (VW.rA (tm 105 [(0, .cptr (pT23 s) 0), (4, .ref 0 0 l14295.length), (5, .i .i64 k_14294), (6, .ref 2 0 l16915.length), (7, .i .i64 i_16914), (8, .i .i64 (-1))]) [some (1, rows cl_ci_i64o l14295), none, some (1, rows ci_i64 l16915)] [] hC (VW.join (fun (v : Int) => (⟨(tm 105 [(0, .cptr (pT23 s) 0), (4, .ref 0 0 l14295.length), (5, .i .i64 k_14294), (6, .ref 2 0 l16915.length), (7, .i .i64 i_16914), (8, .i .i64 v)]), [some (1, rows cl_ci_i64o l14295), none, some (1, rows ci_i64 l16915)], []⟩ : VS)) (fun v => (g28_j5 l16915 i_16914 (v)).bind (kN (g28_L2 s k_14294 l14295) n_2) = some w_2) ?_ ?_)))
         · refine VW.seq (VW.rA (tm 105 [(0, .cptr (pT23 s) 0), (4, .ref 0 0 l14295.length), (5, .i .i64 k_14294), (6, .ref 2 0 l16915.length), (7, .i .i64 i_16914), (8, .i .i64 (-1)), (9, .i .i64 0)]) [some (1, rows cl_ci_i64o l14295), none, some (1, rows ci_i64 l16915)] [] hC (VW.block ?_))
           obtain ⟨w_3, hw_3, h2⟩ := bindE h2
           refine VW.loopO (fun (x : Int × Int) => (⟨(tm 105 [(0, .cptr (pT23 s) 0), (4, .ref 0 0 l14295.length), (5, .i .i64 k_14294), (6, .ref 2 0 l16915.length), (7, .i .i64 i_16914), (8, .i .i64 x.1), (9, .i .i64 x.2)]), [some (1, rows cl_ci_i64o l14295), none, some (1, rows ci_i64 l16915)], []⟩ : VS)) hw_3 (Ent.tu 3) ?_
           rintro n_3 ⟨least_17132, logs_17133⟩ h3
           rw [g28_L3] at h3
           refine VW.seq (VW.seq (VW.rA (tm 105 [(0, .cptr (pT23 s) 0), (4, .ref 0 0 l14295.length), (5, .i .i64 k_14294), (6, .ref 2 0 l16915.length), (7, .i .i64 i_16914), (8, .i .i64 least_17132), (9, .i .i64 logs_17133), (49, .b (leI logs_17133 s.most_))]) [some (1, rows cl_ci_i64o l14295), none, some (1, rows ci_i64 l16915)] [] hC (VW.condJ h3 (fun h3 => ?_) (fun h3 => ?_))))
           · refine VW.exit ?_
             have e_ := leafR h3
             subst w_3
             exact vnext least_17132 h2 (Ent.tu 3)
           refine VW.skip (VW.seq (VW.block (VW.seq ?_)))
           obtain ⟨r17135, q17136, h3⟩ := bindE h3
           have c17136 : F45 [.cptr (pT23 s) 0, .i .i64 k_14294, .i .i64 i_16914, .i .i64 logs_17133] = some (.i .i64 r17135) := tells_eq inj45 (a := (s, k_14294, i_16914, logs_17133)) q17136
           refine VW.rA (tm 105 [(0, .cptr (pT23 s) 0), (4, .ref 0 0 l14295.length), (5, .i .i64 k_14294), (6, .ref 2 0 l16915.length), (7, .i .i64 i_16914), (8, .i .i64 least_17132), (9, .i .i64 logs_17133), (10, .i .i64 r17135)]) [some (1, rows cl_ci_i64o l14295), none, some (1, rows ci_i64 l16915)] [] hC (VW.seq (VW.seq ?_)) (h := by simp -implicitDefEqProofs [c17136])
           obtain ⟨w17141, q17150, h3⟩ := bindE h3
           refine VW.evalA (tm 105 [(0, .cptr (pT23 s) 0), (4, .ref 0 0 l14295.length), (5, .i .i64 k_14294), (6, .ref 2 0 l16915.length), (7, .i .i64 i_16914), (8, .i .i64 least_17132), (9, .i .i64 logs_17133), (10, .i .i64 r17135), (69, .b w17141)]) [some (1, rows cl_ci_i64o l14295), none, some (1, rows ci_i64 l16915)] [] hC (by kernel_rfl) (by
               obtain ⟨q17151, q17150⟩ | ⟨q17151, rfl⟩ := gdF q17150
               · obtain ⟨e17137, q17138, q17150⟩ := bindQ q17150
                 obtain ⟨f17138a, f17138b, f17138c, f17138d⟩ := idx_some q17138
                 obtain ⟨e17139, q17140, q17150⟩ := bindQ q17150
                 obtain ⟨f17140a, f17140b, f17140c, f17140d⟩ := idx_some q17140
                 obtain rfl := Option.some.inj q17150
                 simp -implicitDefEqProofs [q17151, f17138a, f17138b, f17138c, f17138d, f17140a, f17140b, f17140c, f17140d]
               simp -implicitDefEqProofs [q17151]) ?_
           refine VW.condI h3 (fun h3 => ?_) (fun h3 => ?_)
           · exact VW.exit (VW.rA (tm 105 [(0, .cptr (pT23 s) 0), (4, .ref 0 0 l14295.length), (5, .i .i64 k_14294), (6, .ref 2 0 l16915.length), (7, .i .i64 i_16914), (8, .i .i64 least_17132), (9, .i .i64 (aI .i64 logs_17133 1))]) [some (1, rows cl_ci_i64o l14295), none, some (1, rows ci_i64 l16915)] [] hC (vnext (least_17132, aI .i64 logs_17133 1) (leafL h3) (Ent.tu 3)))
           refine VW.skip (VW.seq ?_)
           obtain ⟨e17143, ⟨f17144a, f17144b, f17144c, f17144d⟩, h3⟩ := bindI h3
           obtain ⟨e17145, ⟨f17146a, f17146b, f17146c, f17146d⟩, h3⟩ := bindI h3
           obtain ⟨e17147, ⟨f17148a, f17148b, f17148c, f17148d⟩, h3⟩ := bindI h3
           refine VW.rD (tm 105 [(0, .cptr (pT23 s) 0), (4, .ref 0 0 l14295.length), (5, .i .i64 k_14294), (6, .ref 2 0 l16915.length), (7, .i .i64 i_16914), (8, .i .i64 least_17132), (9, .i .i64 logs_17133), (11, .i .i64 (aI .i64 (mI .i64 e17143 logs_17133) e17147))]) [some (1, rows cl_ci_i64o l14295), none, some (1, rows ci_i64 l16915)] [] hC mixed (VW.seq (VW.rA (tm 105 [(0, .cptr (pT23 s) 0), (4, .ref 0 0 l14295.length), (5, .i .i64 k_14294), (6, .ref 2 0 l16915.length), (7, .i .i64 i_16914), (8, .i .i64 least_17132), (9, .i .i64 logs_17133), (11, .i .i64 (aI .i64 (mI .i64 e17143 logs_17133) e17147)), (94, .b (eqI least_17132 (-1) || ltI (aI .i64 (mI .i64 e17143 logs_17133) e17147) least_17132))]) [some (1, rows cl_ci_i64o l14295), none, some (1, rows ci_i64 l16915)] [] hC (VW.condJ h3 (fun h3 => ?_) (fun h3 => ?_)))) (h := by simp -implicitDefEqProofs [f17144a, f17144b, f17144c, f17144d, f17146a, f17146b, f17146c, f17146d, f17148a, f17148b, f17148c, f17148d])
           · exact VW.skip (VW.rA (tm 105 [(0, .cptr (pT23 s) 0), (4, .ref 0 0 l14295.length), (5, .i .i64 k_14294), (6, .ref 2 0 l16915.length), (7, .i .i64 i_16914), (8, .i .i64 least_17132), (9, .i .i64 (aI .i64 logs_17133 1))]) [some (1, rows cl_ci_i64o l14295), none, some (1, rows ci_i64 l16915)] [] hC (vnext (least_17132, aI .i64 logs_17133 1) (leafL h3) (Ent.tu 3)))
           exact VW.rA (tm 105 [(0, .cptr (pT23 s) 0), (4, .ref 0 0 l14295.length), (5, .i .i64 k_14294), (6, .ref 2 0 l16915.length), (7, .i .i64 i_16914), (8, .i .i64 (aI .i64 (mI .i64 e17143 logs_17133) e17147)), (9, .i .i64 logs_17133)]) [some (1, rows cl_ci_i64o l14295), none, some (1, rows ci_i64 l16915)] [] hC (VW.rA (tm 105 [(0, .cptr (pT23 s) 0), (4, .ref 0 0 l14295.length), (5, .i .i64 k_14294), (6, .ref 2 0 l16915.length), (7, .i .i64 i_16914), (8, .i .i64 (aI .i64 (mI .i64 e17143 logs_17133) e17147)), (9, .i .i64 (aI .i64 logs_17133 1))]) [some (1, rows cl_ci_i64o l14295), none, some (1, rows ci_i64 l16915)] [] hC (vnext (aI .i64 (mI .i64 e17143 logs_17133) e17147, aI .i64 logs_17133 1) (leafL h3) (Ent.tu 3)))
         rintro least_17092 h2
         replace h2 : (g28_j5 l16915 i_16914 least_17092).bind _ = _ := h2
         rw [g28_j5] at h2
         obtain ⟨u17093, ⟨f17094a, f17094b⟩, h2⟩ := bindP h2
         try simp only [Int.toNat_natCast, Int.reduceToNat, List.length_cons, List.length_nil, Nat.reduceAdd, Nat.zero_add] at f17094a f17094b
         exact VW.rA (tm 105 [(0, .cptr (pT23 s) 0), (4, .ref 0 0 l14295.length), (5, .i .i64 k_14294), (6, .ref 2 0 (l16915 ++ [least_17092]).length), (7, .i .i64 i_16914)]) [some (1, rows cl_ci_i64o l14295), none, some (1, rows ci_i64 (l16915 ++ [least_17092])), some (1, rows ci_i64 [least_17092])] [] hC (vnext (l16915 ++ [least_17092]) h2 (Ent.tu 3)) (h := by simp -implicitDefEqProofs [f17094a, f17094b])
       rintro l17034 h2
       replace h2 : (g28_j4 i_16914 l17034).bind _ = _ := h2
       rw [g28_j4] at h2
       exact VW.rA (tm 105 [(0, .cptr (pT23 s) 0), (4, .ref 0 0 l14295.length), (5, .i .i64 k_14294), (6, .ref 2 0 l17034.length), (7, .i .i64 (aI .i64 i_16914 1))]) [some (1, rows cl_ci_i64o l14295), none, some (1, rows ci_i64 l17034)] [] hC (vnext (aI .i64 i_16914 1, l17034) (leafL h2) (Ent.tu 3))
     rintro l16437 h1
     replace h1 : (g28_j3 l14295 k_14294 l16437).bind _ = _ := h1
     rw [g28_j3] at h1
     obtain ⟨e16438, ⟨f16439a, f16439b, f16439c, f16439d⟩, h1⟩ := bindI h1
     exact VW.rE (tm 105 [(0, .cptr (pT23 s) 0), (4, .ref 0 0 l14295.length), (5, .i .i64 k_14294)]) [some (1, (rows cl_ci_i64o l14295).set k_14294.toNat [.ref 2 0 l16437.length]), none, some (1, rows ci_i64 l16437)] [] hC (Ent.absorb (m := [some (1, (rows cl_ci_i64o l14295).set k_14294.toNat [.ref 2 0 l16437.length]), none, some (1, rows ci_i64 l16437)]) (n := 1) (n' := 1) (es := (rows cl_ci_i64o l14295).set k_14294.toNat [.ref 2 0 l16437.length]) (es' := rows ci_i64 l16437) (cs := [.ref 2 0 l16437.length]) 0 k_14294.toNat 0 2 l16437.length [some (1, rows cl_ci_i64o (l14295.set k_14294.toNat l16437)), none, none] rfl (by simp [f16439a, f16439b, f16439c, f16439d]) rfl rfl (by decide) (by simp) (by simp) (by simp)) (vnext (l14295.set k_14294.toNat l16437) h1 (Ent.tu 2)) (h := by simp -implicitDefEqProofs [f16439a, f16439b, f16439c, f16439d])
   rintro l15724 h1
   replace h1 : (g28_j2 k_14294 l15724).bind _ = _ := h1
   rw [g28_j2] at h1
   exact VW.rA (tm 105 [(0, .cptr (pT23 s) 0), (4, .ref 0 0 l15724.length), (5, .i .i64 (sI .i64 k_14294 1))]) [some (1, rows cl_ci_i64o l15724), none] [] hC (vnext (sI .i64 k_14294 1, l15724) (leafL h1) (Ent.tu 2))
 rintro l8579 h
 replace h : (g28_j1 l8579).bind _ = _ := h
 rw [g28_j1] at h
 refine VW.seq (VW.rA (tm 105 [(2, .ref 0 0 l8579.length)]) [some (1, rows cl_ci_i64o l8579), none] [] hC ?_)
 obtain rfl := leafS h
 exact VW.ret (VRet.fin (by simp [eB28]))
theorem tl28 {s : T23} {r : List (List Int)} (h : g28 s = some r) : F28 [.cptr [.sl 1 (rows ci_i64 s.need_), .sl 1 (rows ci_i64 s.price_), .i .i64 s.most_, .i .i64 s.yield_, .i .i64 s.store_, .i .i64 s.first_, .i .i64 s.loss_] 0] = some (.own 1 (rows cl_ci_i64o r)) := tells_eq inj28 (a := s) h
noncomputable def g6 (s : T23) : Option ((List (List Int)) × Int) :=
(g27 s).bind fun r1 =>
if (!r1) = true then
some ([], 1)
else
(g28 s).bind fun r4 =>
some (r4, 0)
def eA6 (a : T23) : List V := [.agg (pT23 a)]
def eB6 (r : (List (List Int)) × Int) : V := .tup [.own 1 (rows cl_ci_i64o r.1), .i .i64 r.2]
theorem inj6 (a a' : T23) (h : eA6 a = eA6 a') : a = a' := by
  obtain ⟨i97, i98, i99, i100, i101, i102, i103⟩ := a
  obtain ⟨i104, i105, i106, i107, i108, i109, i110⟩ := a'
  simp only [eA6, pT23, List.cons.injEq, V.i.injEq, V.b.injEq, V.f.injEq, V.str.injEq, V.sl.injEq, V.agg.injEq, V.cptr.injEq, true_and, and_true] at h
  simp_all [ri ci_i64_inj]
noncomputable def F6 : List V → Option V := tells (fun a => g6 a) eA6 eB6
/- loop.example/g01229/spec.ValuesOf -/
theorem ok6 : Tells Try.prog 6 F6 := by
 refine Tells.go 8 Try.func6 rfl rfl rfl (by kernel_rfl) (fun _ => rfl) ?_
 rintro s r h
 simp only [eA6, en, Nat.reduceAdd]
 replace h : (g6 s).bind some = some r := bindS h
 rw [g6] at h
 have hC : CEnv.Ok Try.prog [(27, F27), (28, F28)] := ⟨.inl ok27, .inl ok28, trivial⟩
 refine VW.seq (VW.rA (tm 8 [(1, .ptr 0 0 0)]) [some (7, [(pT23 s)])] [] hC (VW.seq (VW.seq ?_)))
 obtain ⟨r1, q2, h⟩ := bindE h
 have c2 : F27 [.cptr (pT23 s) 0] = some (.b r1) := tells_eq inj27 (a := s) q2
 refine VW.rA (tm 8 [(1, .ptr 0 0 0), (5, .b (!r1))]) [some (7, [(pT23 s)])] [] hC (VW.condI h (fun h => ?_) (fun h => ?_)) (h := by simp -implicitDefEqProofs [c2])
 · refine VW.seq (VW.rA (tm 8 [(2, .ref 1 0 0), (3, .i .i64 1)]) [some (7, [(pT23 s)]), some (1, rows cl_ci_i64o [])] [] hC ?_)
   obtain rfl := leafS h
   exact VW.ret (VRet.fin (by simp [eB6]))
 refine VW.skip (VW.seq ?_)
 obtain ⟨r4, q5, h⟩ := bindE h
 have c5 : F28 [.cptr (pT23 s) 0] = some (.own 1 (rows cl_ci_i64o r4)) := tells_eq inj28 (a := s) q5
 refine VW.rA (tm 8 [(2, .ref 1 0 r4.length), (3, .i .i64 0)]) [some (7, [(pT23 s)]), some (1, rows cl_ci_i64o r4)] [] hC ?_ (h := by simp -implicitDefEqProofs [c5])
 obtain rfl := leafS h
 exact VW.ret (VRet.fin (by simp [eB6]))
theorem tl6 {s : T23} {r : (List (List Int)) × Int} (h : g6 s = some r) : F6 [.agg [.sl 1 (rows ci_i64 s.need_), .sl 1 (rows ci_i64 s.price_), .i .i64 s.most_, .i .i64 s.yield_, .i .i64 s.store_, .i .i64 s.first_, .i .i64 s.loss_]] = some (.tup [.own 1 (rows cl_ci_i64o r.1), .i .i64 r.2]) := tells_eq inj6 (a := s) h
noncomputable def g29_j1 (l22 : List Int) : Option (List Int) :=
some l22
noncomputable def g29_L1 (a : List Int) : (Int × (List Int)) → Option ((Int × (List Int)) ⊕ (List Int))
| (i_35, l36) =>
if ltI i_35 (a.length : Int) = true then
(idx a i_35).bind fun e38 =>
(idx l36 i_35).bind fun e40 =>
some (.inl (aI .i64 i_35 1, (l36.set i_35.toNat e38)))
else
some (.inr l36)
noncomputable def g29 (a : List Int) : Option (List Int) :=
(mk 8 (a.length : Int)).bind fun u1 =>
(loopO (g29_L1 a) (0, (List.replicate (a.length : Int).toNat 0))).bind fun w => g29_j1 w
def eA29 (a : List Int) : List V := [.sl 1 (rows ci_i64 a)]
def eB29 (r : List Int) : V := .own 1 (rows ci_i64 r)
theorem inj29 (a a' : List Int) (h : eA29 a = eA29 a') : a = a' := by
  obtain i111 := a
  obtain i112 := a'
  simp only [eA29, List.cons.injEq, V.i.injEq, V.b.injEq, V.f.injEq, V.str.injEq, V.sl.injEq, V.agg.injEq, V.cptr.injEq, true_and, and_true] at h
  simp_all [ri ci_i64_inj]
noncomputable def F29 : List V → Option V := tells (fun a => g29 a) eA29 eB29
/- loop.example/g01229/laws.toInt64S -/
theorem ok29 : Tells Try.prog 29 F29 := by
 refine Tells.go 22 Try.func29 rfl rfl rfl (by kernel_rfl) (fun _ => rfl) ?_
 rintro a r h
 simp only [eA29, en, Nat.reduceAdd]
 replace h : (g29 a).bind some = some r := bindS h
 rw [g29] at h
 have hC : CEnv.Ok Try.prog [] := trivial
 refine VW.seq (VW.rA (tm 22 [(0, .sl 1 (rows ci_i64 a))]) [] [] hC (VW.seq ?_))
 obtain ⟨u1, ⟨f2a, f2b, f2c⟩, h⟩ := bindM h
 try simp only [Int.toNat_natCast, Int.reduceToNat, List.length_cons, List.length_nil, Nat.reduceAdd, Nat.zero_add] at f2a f2b f2c
 refine VW.rA (tm 22 [(0, .sl 1 (rows ci_i64 a)), (3, .ref 0 0 (List.replicate (a.length : Int).toNat 0).length)]) [some (1, rows ci_i64 (List.replicate (a.length : Int).toNat 0))] [] hC (VW.join (fun (v : List Int) => (⟨(tm 22 [(3, .ref 0 0 v.length)]), [some (1, rows ci_i64 v)], []⟩ : VS)) (fun v => (g29_j1 (v)).bind some = some r) ?_ ?_) (h := by simp -implicitDefEqProofs [f2a, f2b, f2c])
 · refine VW.seq (VW.rA (tm 22 [(0, .sl 1 (rows ci_i64 a)), (3, .ref 0 0 (List.replicate (a.length : Int).toNat 0).length), (4, .i .i64 0)]) [some (1, rows ci_i64 (List.replicate (a.length : Int).toNat 0))] [] hC (VW.block ?_))
   obtain ⟨w_1, hw_1, h⟩ := bindE h
   refine VW.loopO (fun (x : Int × (List Int)) => (⟨(tm 22 [(0, .sl 1 (rows ci_i64 a)), (3, .ref 0 0 x.2.length), (4, .i .i64 x.1)]), [some (1, rows ci_i64 x.2)], []⟩ : VS)) hw_1 (Ent.tu 1) ?_
   rintro n_1 ⟨i_35, l36⟩ h1
   rw [g29_L1] at h1
   refine VW.seq (VW.seq (VW.rA (tm 22 [(0, .sl 1 (rows ci_i64 a)), (3, .ref 0 0 l36.length), (4, .i .i64 i_35), (11, .b (ltI i_35 (a.length : Int)))]) [some (1, rows ci_i64 l36)] [] hC (VW.condJ h1 (fun h1 => ?_) (fun h1 => ?_))))
   · refine VW.exit ?_
     have e_ := leafR h1
     subst w_1
     exact vnext l36 h (Ent.tu 1)
   refine VW.skip (VW.seq (VW.block ?_))
   obtain ⟨e38, ⟨f39a, f39b, f39c, f39d⟩, h1⟩ := bindI h1
   obtain ⟨e40, ⟨f41a, f41b, f41c, f41d⟩, h1⟩ := bindI h1
   exact VW.rA (tm 22 [(0, .sl 1 (rows ci_i64 a)), (3, .ref 0 0 (l36.set i_35.toNat e38).length), (4, .i .i64 i_35)]) [some (1, rows ci_i64 (l36.set i_35.toNat e38))] [] hC (VW.rA (tm 22 [(0, .sl 1 (rows ci_i64 a)), (3, .ref 0 0 (l36.set i_35.toNat e38).length), (4, .i .i64 (aI .i64 i_35 1))]) [some (1, rows ci_i64 (l36.set i_35.toNat e38))] [] hC (vnext (aI .i64 i_35 1, (l36.set i_35.toNat e38)) (leafL h1) (Ent.tu 1))) (h := by simp -implicitDefEqProofs [f39a, f39b, f39c, f39d, f41a, f41b, f41c, f41d])
 rintro l22 h
 replace h : (g29_j1 l22).bind _ = _ := h
 rw [g29_j1] at h
 refine VW.seq (VW.rA (tm 22 [(2, .ref 0 0 l22.length)]) [some (1, rows ci_i64 l22)] [] hC ?_)
 obtain rfl := leafS h
 exact VW.ret (VRet.fin (by simp [eB29]))
theorem tl29 {a : List Int} {r : List Int} (h : g29 a = some r) : F29 [.sl 1 (rows ci_i64 a)] = some (.own 1 (rows ci_i64 r)) := tells_eq inj29 (a := a) h
noncomputable def g7 (a : T23) : Option (T23) :=
(g29 a.need_).bind fun r1 =>
(g29 a.price_).bind fun r3 =>
some (⟨r1, r3, a.most_, a.yield_, a.store_, a.first_, a.loss_⟩ : T23)
def eA7 (a : T23) : List V := [.agg (pT23 a)]
def eB7 (r : T23) : V := .agg [.own 1 (rows ci_i64 r.need_), .own 1 (rows ci_i64 r.price_), .i .i64 r.most_, .i .i64 r.yield_, .i .i64 r.store_, .i .i64 r.first_, .i .i64 r.loss_]
theorem inj7 (a a' : T23) (h : eA7 a = eA7 a') : a = a' := by
  obtain ⟨i113, i114, i115, i116, i117, i118, i119⟩ := a
  obtain ⟨i120, i121, i122, i123, i124, i125, i126⟩ := a'
  simp only [eA7, pT23, List.cons.injEq, V.i.injEq, V.b.injEq, V.f.injEq, V.str.injEq, V.sl.injEq, V.agg.injEq, V.cptr.injEq, true_and, and_true] at h
  simp_all [ri ci_i64_inj]
noncomputable def F7 : List V → Option V := tells (fun a => g7 a) eA7 eB7
/- loop.example/g01229/laws.toSeason -/
theorem ok7 : Tells Try.prog 7 F7 := by
 refine Tells.go 28 Try.func7 rfl rfl rfl (by kernel_rfl) (fun _ => rfl) ?_
 rintro a r h
 simp only [eA7, en, Nat.reduceAdd]
 replace h : (g7 a).bind some = some r := bindS h
 rw [g7] at h
 have hC : CEnv.Ok Try.prog [(29, F29)] := ⟨.inl ok29, trivial⟩
 refine VW.seq (VW.rA (tm 28 [(1, .ptr 0 0 0), (2, .ptr 1 0 0)]) [some (7, [(pT23 a)]), some (7, [[.nil, .nil, .i .i64 0, .i .i64 0, .i .i64 0, .i .i64 0, .i .i64 0]])] [] hC (VW.seq (VW.rA (tm 28 [(1, .ptr 0 0 0), (2, .ptr 1 0 0), (3, .ptr 2 0 0)]) [some (7, [(pT23 a)]), some (7, [[.nil, .nil, .i .i64 0, .i .i64 0, .i .i64 0, .i .i64 0, .i .i64 0]]), some (7, [[.nil, .nil, .i .i64 0, .i .i64 0, .i .i64 0, .i .i64 0, .i .i64 0]])] [] hC (VW.seq ?_))))
 obtain ⟨r1, q2, h⟩ := bindE h
 have c2 := tl29 q2
 refine VW.rA (tm 28 [(1, .ptr 0 0 0), (2, .ptr 1 0 0), (3, .ptr 2 0 0)]) [some (7, [(pT23 a)]), some (7, [[.nil, .nil, .i .i64 0, .i .i64 0, .i .i64 0, .i .i64 0, .i .i64 0]]), some (7, [[.ref 3 0 r1.length, .nil, .i .i64 0, .i .i64 0, .i .i64 0, .i .i64 0, .i .i64 0]]), some (1, rows ci_i64 r1)] [] hC (VW.seq ?_) (h := by simp -implicitDefEqProofs [c2])
 obtain ⟨r3, q4, h⟩ := bindE h
 have c4 := tl29 q4
 refine VW.rA (tm 28 [(1, .ptr 0 0 0), (2, .ptr 1 0 0), (3, .ptr 2 0 0)]) [some (7, [(pT23 a)]), some (7, [[.nil, .nil, .i .i64 0, .i .i64 0, .i .i64 0, .i .i64 0, .i .i64 0]]), some (7, [[.ref 3 0 r1.length, .ref 4 0 r3.length, .i .i64 0, .i .i64 0, .i .i64 0, .i .i64 0, .i .i64 0]]), some (1, rows ci_i64 r1), some (1, rows ci_i64 r3)] [] hC (VW.seq (VW.rA (tm 28 [(1, .ptr 0 0 0), (2, .ptr 1 0 0), (3, .ptr 2 0 0)]) [some (7, [(pT23 a)]), some (7, [[.nil, .nil, .i .i64 0, .i .i64 0, .i .i64 0, .i .i64 0, .i .i64 0]]), some (7, [[.ref 3 0 r1.length, .ref 4 0 r3.length, .i .i64 a.most_, .i .i64 0, .i .i64 0, .i .i64 0, .i .i64 0]]), some (1, rows ci_i64 r1), some (1, rows ci_i64 r3)] [] hC (VW.seq (VW.rA (tm 28 [(1, .ptr 0 0 0), (2, .ptr 1 0 0), (3, .ptr 2 0 0)]) [some (7, [(pT23 a)]), some (7, [[.nil, .nil, .i .i64 0, .i .i64 0, .i .i64 0, .i .i64 0, .i .i64 0]]), some (7, [[.ref 3 0 r1.length, .ref 4 0 r3.length, .i .i64 a.most_, .i .i64 a.yield_, .i .i64 0, .i .i64 0, .i .i64 0]]), some (1, rows ci_i64 r1), some (1, rows ci_i64 r3)] [] hC (VW.seq (VW.rA (tm 28 [(1, .ptr 0 0 0), (2, .ptr 1 0 0), (3, .ptr 2 0 0)]) [some (7, [(pT23 a)]), some (7, [[.nil, .nil, .i .i64 0, .i .i64 0, .i .i64 0, .i .i64 0, .i .i64 0]]), some (7, [[.ref 3 0 r1.length, .ref 4 0 r3.length, .i .i64 a.most_, .i .i64 a.yield_, .i .i64 a.store_, .i .i64 0, .i .i64 0]]), some (1, rows ci_i64 r1), some (1, rows ci_i64 r3)] [] hC (VW.seq (VW.rA (tm 28 [(1, .ptr 0 0 0), (2, .ptr 1 0 0), (3, .ptr 2 0 0)]) [some (7, [(pT23 a)]), some (7, [[.nil, .nil, .i .i64 0, .i .i64 0, .i .i64 0, .i .i64 0, .i .i64 0]]), some (7, [[.ref 3 0 r1.length, .ref 4 0 r3.length, .i .i64 a.most_, .i .i64 a.yield_, .i .i64 a.store_, .i .i64 a.first_, .i .i64 0]]), some (1, rows ci_i64 r1), some (1, rows ci_i64 r3)] [] hC (VW.seq (VW.rA (tm 28 [(2, .ptr 1 0 0), (3, .ptr 2 0 0)]) [some (7, [(pT23 a)]), some (7, [[.nil, .nil, .i .i64 0, .i .i64 0, .i .i64 0, .i .i64 0, .i .i64 0]]), some (7, [[.ref 3 0 r1.length, .ref 4 0 r3.length, .i .i64 a.most_, .i .i64 a.yield_, .i .i64 a.store_, .i .i64 a.first_, .i .i64 a.loss_]]), some (1, rows ci_i64 r1), some (1, rows ci_i64 r3)] [] hC (VW.seq (VW.rA (tm 28 [(2, .ptr 1 0 0)]) [some (7, [(pT23 a)]), some (7, [[.ref 3 0 r1.length, .ref 4 0 r3.length, .i .i64 a.most_, .i .i64 a.yield_, .i .i64 a.store_, .i .i64 a.first_, .i .i64 a.loss_]]), some (7, [[.ref 3 0 r1.length, .ref 4 0 r3.length, .i .i64 a.most_, .i .i64 a.yield_, .i .i64 a.store_, .i .i64 a.first_, .i .i64 a.loss_]]), some (1, rows ci_i64 r1), some (1, rows ci_i64 r3)] [] hC ?_)))))))))))) (h := by simp -implicitDefEqProofs [c4])
 obtain rfl := leafS h
 exact VW.ret (VRet.fin (by simp [eB7]))
theorem tl7 {a : T23} {r : T23} (h : g7 a = some r) : F7 [.agg [.sl 1 (rows ci_i64 a.need_), .sl 1 (rows ci_i64 a.price_), .i .i64 a.most_, .i .i64 a.yield_, .i .i64 a.store_, .i .i64 a.first_, .i .i64 a.loss_]] = some (.agg [.own 1 (rows ci_i64 r.need_), .own 1 (rows ci_i64 r.price_), .i .i64 r.most_, .i .i64 r.yield_, .i .i64 r.store_, .i .i64 r.first_, .i .i64 r.loss_]) := tells_eq inj7 (a := a) h
noncomputable def g30_j1 (s : T23) : Option (Bool) :=
some (((((((((leI 0 s.most_ && leI s.most_ 20) && leI 1 s.yield_) && leI s.yield_ 40) && leI 0 s.store_) && leI s.store_ 60) && leI 0 s.first_) && leI s.first_ s.store_) && leI 0 s.loss_) && leI s.loss_ 100)
noncomputable def g30_L1 (s : T23) : (Int) → Option ((Int) ⊕ ((Unit) ⊕ (Bool)))
| x_85 =>
if ltI x_85 (s.need_.length : Int) = true then
(idx s.need_ x_85).bind fun e87 =>
(if (ltI e87 0 || ltI 200 e87) = true then some true else (idx s.price_ x_85).bind fun e89 => some (ltI e89 0)).bind fun w91 =>
(if w91 = true then some true else (idx s.price_ x_85).bind fun e92 => some (ltI 1000 e92)).bind fun w94 =>
if w94 = true then
some (.inr (.inr false))
else
some (.inl (aI .i64 x_85 1))
else
some (.inr (.inl ()))
noncomputable def g30 (s : T23) : Option (Bool) :=
if ((ltI (s.need_.length : Int) 1 || ltI 24 (s.need_.length : Int)) || (!eqI (s.price_.length : Int) (s.need_.length : Int))) = true then
some false
else
(loopO (g30_L1 s) 0).bind fun w => match w with
| .inl y => g30_j1 s
| .inr r => some r
def eA30 (a : T23) : List V := [.agg (pT23 a)]
def eB30 (r : Bool) : V := .b r
theorem inj30 (a a' : T23) (h : eA30 a = eA30 a') : a = a' := by
  obtain ⟨i127, i128, i129, i130, i131, i132, i133⟩ := a
  obtain ⟨i134, i135, i136, i137, i138, i139, i140⟩ := a'
  simp only [eA30, pT23, List.cons.injEq, V.i.injEq, V.b.injEq, V.f.injEq, V.str.injEq, V.sl.injEq, V.agg.injEq, V.cptr.injEq, true_and, and_true] at h
  simp_all [ri ci_i64_inj]
noncomputable def F30 : List V → Option V := tells (fun a => g30 a) eA30 eB30
/- loop.example/g01229/impl.ValidSeason -/
theorem ok30 : Tells Try.prog 30 F30 := by
 refine Tells.go 106 Try.func30 rfl rfl rfl (by kernel_rfl) (fun _ => rfl) ?_
 rintro s r h
 simp only [eA30, en, Nat.reduceAdd]
 replace h : (g30 s).bind some = some r := bindS h
 rw [g30] at h
 have hC : CEnv.Ok Try.prog [] := trivial
 refine VW.seq (VW.rA (tm 106 [(1, .ptr 0 0 0)]) [some (7, [(pT23 s)])] [] hC (VW.seq (VW.rA (tm 106 [(1, .ptr 0 0 0), (3, .i .i64 (s.need_.length : Int))]) [some (7, [(pT23 s)])] [] hC (VW.seq (VW.seq (VW.rA (tm 106 [(1, .ptr 0 0 0), (3, .i .i64 (s.need_.length : Int)), (20, .b ((ltI (s.need_.length : Int) 1 || ltI 24 (s.need_.length : Int)) || (!eqI (s.price_.length : Int) (s.need_.length : Int))))]) [some (7, [(pT23 s)])] [] hC (VW.condI h (fun h => ?_) (fun h => ?_))))))))
 · refine VW.seq (VW.rA (tm 106 [(2, .b false)]) [some (7, [(pT23 s)])] [] hC ?_)
   obtain rfl := leafS h
   exact VW.ret (VRet.fin (by simp [eB30]))
 refine VW.skip (VW.join (fun (v : Unit) => (⟨(tm 106 [(1, .ptr 0 0 0)]), [some (7, [(pT23 s)])], []⟩ : VS)) (fun v => (g30_j1 s).bind some = some r) ?_ ?_)
 · refine VW.seq (VW.rA (tm 106 [(1, .ptr 0 0 0), (21, .i .i64 (s.need_.length : Int)), (22, .i .i64 0)]) [some (7, [(pT23 s)])] [] hC (VW.block ?_))
   obtain ⟨w_1, hw_1, h⟩ := bindE h
   refine VW.loopO (fun (x : Int) => (⟨(tm 106 [(1, .ptr 0 0 0), (21, .i .i64 (s.need_.length : Int)), (22, .i .i64 x)]), [some (7, [(pT23 s)])], []⟩ : VS)) hw_1 (Ent.tu 1) ?_
   rintro n_1 x_85 h1
   rw [g30_L1] at h1
   refine VW.seq (VW.rA (tm 106 [(1, .ptr 0 0 0), (21, .i .i64 (s.need_.length : Int)), (22, .i .i64 x_85), (23, .b (ltI x_85 (s.need_.length : Int)))]) [some (7, [(pT23 s)])] [] hC (VW.seq (VW.condJ h1 (fun h1 => ?_) (fun h1 => ?_))))
   · refine VW.exit ?_
     have e_ := leafR h1
     subst w_1
     exact vnext () h (Ent.tu 1)
   refine VW.skip (VW.seq (VW.block (VW.seq (VW.rA (tm 106 [(1, .ptr 0 0 0), (4, .i .i64 x_85), (21, .i .i64 (s.need_.length : Int)), (22, .i .i64 x_85)]) [some (7, [(pT23 s)])] [] hC (VW.seq ?_)))))
   obtain ⟨e87, ⟨f88a, f88b, f88c, f88d⟩, h1⟩ := bindI h1
   obtain ⟨w91, q96, h1⟩ := bindE h1
   obtain ⟨w94, q97, h1⟩ := bindE h1
   refine VW.evalA (tm 106 [(1, .ptr 0 0 0), (21, .i .i64 (s.need_.length : Int)), (22, .i .i64 x_85), (54, .b w94)]) [some (7, [(pT23 s)])] [] hC (by kernel_rfl) (by
       obtain ⟨q98, q96⟩ | ⟨q98, rfl⟩ := gdF q96
       · obtain ⟨e89, q90, q96⟩ := bindQ q96
         obtain ⟨f90a, f90b, f90c, f90d⟩ := idx_some q90
         obtain rfl := Option.some.inj q96
         obtain ⟨q99, q97⟩ | ⟨q99, rfl⟩ := gdF q97
         · obtain ⟨e92, q93, q97⟩ := bindQ q97
           have d100 : e92 = e89 := Option.some.inj (q93.symm.trans q90)
           obtain rfl := Option.some.inj q97
           simp -implicitDefEqProofs [f88a, f88b, f88c, f88d, q98, f90a, f90b, f90c, f90d, q99, d100, pT23]
         simp -implicitDefEqProofs [f88a, f88b, f88c, f88d, q98, f90a, f90b, f90c, f90d, q99, pT23]
       obtain ⟨q101, q97⟩ | ⟨q101, rfl⟩ := gdF q97
       · exact absurd q101 (by simp)
       simp -implicitDefEqProofs [f88a, f88b, f88c, f88d, q98, q101, pT23]) ?_
   refine VW.condI h1 (fun h1 => ?_) (fun h1 => ?_)
   · refine VW.seq (VW.rA (tm 106 [(2, .b false)]) [some (7, [(pT23 s)])] [] hC ?_)
     have e_ := leafR h1
     subst w_1
     obtain rfl := leafS h
     exact VW.ret (VRet.fin (by simp [eB30]))
   exact VW.skip (VW.rA (tm 106 [(1, .ptr 0 0 0), (21, .i .i64 (s.need_.length : Int)), (22, .i .i64 (aI .i64 x_85 1))]) [some (7, [(pT23 s)])] [] hC (vnext (aI .i64 x_85 1) (leafL h1) (Ent.tu 1)))
 rintro _ h
 replace h : (g30_j1 s).bind _ = _ := h
 rw [g30_j1] at h
 refine VW.seq (VW.rA (tm 106 [(2, .b (((((((((leI 0 s.most_ && leI s.most_ 20) && leI 1 s.yield_) && leI s.yield_ 40) && leI 0 s.store_) && leI s.store_ 60) && leI 0 s.first_) && leI s.first_ s.store_) && leI 0 s.loss_) && leI s.loss_ 100))]) [some (7, [(pT23 s)])] [] hC ?_ (h := by simp (maxSteps := 4000000) -implicitDefEqProofs [pT23]))
 obtain rfl := leafS h
 exact VW.ret (VRet.fin (by simp [eB30]))
theorem tl30 {s : T23} {r : Bool} (h : g30 s = some r) : F30 [.agg [.sl 1 (rows ci_i64 s.need_), .sl 1 (rows ci_i64 s.price_), .i .i64 s.most_, .i .i64 s.yield_, .i .i64 s.store_, .i .i64 s.first_, .i .i64 s.loss_]] = some (.b r) := tells_eq inj30 (a := s) h
noncomputable def g37 (s : T23) (slot : Int) (store : Int) (logs : Int) : Option (Int × Bool) :=
(idx s.need_ slot).bind fun e1 =>
if ltI (sI .i64 (aI .i64 store (mI .i64 logs s.yield_)) e1) 0 = true then
some (0, false)
else
(dI .i64 (mI .i64 (sI .i64 (aI .i64 store (mI .i64 logs s.yield_)) e1) s.loss_) 100).bind fun d4 =>
some (minI (sI .i64 (sI .i64 (aI .i64 store (mI .i64 logs s.yield_)) e1) d4) s.store_, true)
def eA37 (a : T23 × Int × Int × Int) : List V := [.agg (pT23 a.1), .i .i64 a.2.1, .i .i64 a.2.2.1, .i .i64 a.2.2.2]
def eB37 (r : Int × Bool) : V := .tup [.i .i64 r.1, .b r.2]
theorem inj37 (a a' : T23 × Int × Int × Int) (h : eA37 a = eA37 a') : a = a' := by
  obtain ⟨⟨i141, i142, i143, i144, i145, i146, i147⟩, i148, i149, i150⟩ := a
  obtain ⟨⟨i151, i152, i153, i154, i155, i156, i157⟩, i158, i159, i160⟩ := a'
  simp only [eA37, pT23, List.cons.injEq, V.i.injEq, V.b.injEq, V.f.injEq, V.str.injEq, V.sl.injEq, V.agg.injEq, V.cptr.injEq, true_and, and_true] at h
  simp_all [ri ci_i64_inj]
noncomputable def F37 : List V → Option V := tells (fun a => g37 a.1 a.2.1 a.2.2.1 a.2.2.2) eA37 eB37
/- loop.example/g01229/impl.after -/
theorem ok37 : Tells Try.prog 37 F37 := by
 refine Tells.go 35 Try.func37 rfl rfl rfl (by kernel_rfl) (fun _ => rfl) ?_
 rintro ⟨s, slot, store, logs⟩ r h
 simp only [eA37, en, Nat.reduceAdd]
 replace h : (g37 s slot store logs).bind some = some r := bindS h
 rw [g37] at h
 have hC : CEnv.Ok Try.prog [] := trivial
 refine VW.seq (VW.rA (tm 35 [(1, .i .i64 slot), (2, .i .i64 store), (3, .i .i64 logs), (4, .ptr 0 0 0)]) [some (7, [(pT23 s)])] [] hC (VW.seq ?_) (h := by simp -implicitDefEqProofs [min_fold]))
 obtain ⟨e1, ⟨f2a, f2b, f2c, f2d⟩, h⟩ := bindI h
 refine VW.rD (tm 35 [(4, .ptr 0 0 0), (10, .i .i64 (sI .i64 (aI .i64 store (mI .i64 logs s.yield_)) e1))]) [some (7, [(pT23 s)])] [] hC mixed (VW.seq (VW.seq (VW.rA (tm 35 [(4, .ptr 0 0 0), (10, .i .i64 (sI .i64 (aI .i64 store (mI .i64 logs s.yield_)) e1)), (24, .b (ltI (sI .i64 (aI .i64 store (mI .i64 logs s.yield_)) e1) 0))]) [some (7, [(pT23 s)])] [] hC (VW.condI h (fun h => ?_) (fun h => ?_)) (h := by simp -implicitDefEqProofs [min_fold])))) (h := by simp -implicitDefEqProofs [f2a, f2b, f2c, f2d, min_fold])
 · refine VW.seq (VW.rA (tm 35 [(8, .i .i64 0), (9, .b false)]) [some (7, [(pT23 s)])] [] hC ?_)
   obtain rfl := leafS h
   exact VW.ret (VRet.fin (by simp [eB37]))
 refine VW.skip (VW.seq ?_)
 obtain ⟨d4, q5, h⟩ := bindE h
 refine VW.rA (tm 35 [(8, .i .i64 (minI (sI .i64 (sI .i64 (aI .i64 store (mI .i64 logs s.yield_)) e1) d4) s.store_)), (9, .b true)]) [some (7, [(pT23 s)])] [] hC ?_ (h := by simp -implicitDefEqProofs [q5, min_fold])
 obtain rfl := leafS h
 exact VW.ret (VRet.fin (by simp [eB37]))
theorem tl37 {s : T23} {slot : Int} {store : Int} {logs : Int} {r : Int × Bool} (h : g37 s slot store logs = some r) : F37 [.agg [.sl 1 (rows ci_i64 s.need_), .sl 1 (rows ci_i64 s.price_), .i .i64 s.most_, .i .i64 s.yield_, .i .i64 s.store_, .i .i64 s.first_, .i .i64 s.loss_], .i .i64 slot, .i .i64 store, .i .i64 logs] = some (.tup [.i .i64 r.1, .b r.2]) := tells_eq inj37 (a := (s, slot, store, logs)) h
noncomputable def g31_j1 (l4745 : List (List Int)) : Option (List (List Int)) :=
some l4745
noncomputable def g31_j2 (k_7904 : Int) (l8695 : List (List Int)) : Option ((Int × (List (List Int))) ⊕ (List (List Int))) :=
some (.inl (sI .i64 k_7904 1, l8695))
noncomputable def g31_j3 (x_9222 : Int) (l9354 : List Int) : Option ((Int × (List Int)) ⊕ (List (List Int))) :=
some (.inl (aI .i64 x_9222 1, l9354))
noncomputable def g31_j4 (l9223 : List Int) (x_9222 : Int) (best_9418 : Int) : Option ((Int × (List Int)) ⊕ (List (List Int))) :=
(idx l9223 x_9222).bind fun e9419 =>
g31_j3 x_9222 (l9223.set x_9222.toNat best_9418)
noncomputable def g31_L3 (s : T23) (k_7904 : Int) (x_9222 : Int) (l7905 : List (List Int)) : (Int × Int) → Option ((Int × Int) ⊕ (Int))
| (best_9462, x_9463) =>
if ltI x_9463 (aI .i64 s.most_ 1) = true then
(g37 s k_7904 x_9222 x_9463).bind fun r9465 =>
(if (!r9465.2) = true then some true else (idx l7905 (aI .i64 k_7904 1)).bind fun e9467 => (idx e9467 r9465.1).bind fun e9470 => some (eqI e9470 (-1))).bind fun w9472 =>
if w9472 = true then
some (.inl (best_9462, aI .i64 x_9463 1))
else
(idx s.price_ k_7904).bind fun e9474 =>
(idx l7905 (aI .i64 k_7904 1)).bind fun e9476 =>
(idx e9476 r9465.1).bind fun e9479 =>
if (eqI best_9462 (-1) || ltI (aI .i64 (mI .i64 e9474 x_9463) e9479) best_9462) = true then
some (.inl (aI .i64 (mI .i64 e9474 x_9463) e9479, aI .i64 x_9463 1))
else
some (.inl (best_9462, aI .i64 x_9463 1))
else
some (.inr best_9462)
noncomputable def g31_L2 (s : T23) (k_7904 : Int) (l7905 : List (List Int)) : (Int × (List Int)) → Option ((Int × (List Int)) ⊕ (List (List Int)))
| (x_9222, l9223) =>
if ltI x_9222 ((List.replicate (aI .i64 s.store_ 1).toNat 0).length : Int) = true then
(loopO (g31_L3 s k_7904 x_9222 l7905) ((-1), 0)).bind fun w => g31_j4 l9223 x_9222 w
else
some (.inr (l7905.set k_7904.toNat l9223))
noncomputable def g31_L1 (s : T23) : (Int × (List (List Int))) → Option ((Int × (List (List Int))) ⊕ (List (List Int)))
| (k_7904, l7905) =>
if leI 0 k_7904 = true then
(mk 8 (aI .i64 s.store_ 1)).bind fun u8696 =>
(idx l7905 k_7904).bind fun e8698 =>
(loopO (g31_L2 s k_7904 l7905) (0, (List.replicate (aI .i64 s.store_ 1).toNat 0))).bind fun w => g31_j2 k_7904 w
else
some (.inr l7905)
noncomputable def g31 (s : T23) : Option (List (List Int)) :=
(mk 24 (aI .i64 (s.need_.length : Int) 1)).bind fun u1 =>
(mk 8 (aI .i64 s.store_ 1)).bind fun u3 =>
(idx (List.replicate (aI .i64 (s.need_.length : Int) 1).toNat ([] : List Int)) (s.need_.length : Int)).bind fun e5 =>
(loopO (g31_L1 s) (sI .i64 (s.need_.length : Int) 1, ((List.replicate (aI .i64 (s.need_.length : Int) 1).toNat ([] : List Int)).set ((s.need_.length : Int).toNat) (List.replicate (aI .i64 s.store_ 1).toNat 0)))).bind fun w => g31_j1 w
def eA31 (a : T23) : List V := [.agg (pT23 a)]
def eB31 (r : List (List Int)) : V := .own 1 (rows cl_ci_i64o r)
theorem inj31 (a a' : T23) (h : eA31 a = eA31 a') : a = a' := by
  obtain ⟨i161, i162, i163, i164, i165, i166, i167⟩ := a
  obtain ⟨i168, i169, i170, i171, i172, i173, i174⟩ := a'
  simp only [eA31, pT23, List.cons.injEq, V.i.injEq, V.b.injEq, V.f.injEq, V.str.injEq, V.sl.injEq, V.agg.injEq, V.cptr.injEq, true_and, and_true] at h
  simp_all [ri ci_i64_inj]
noncomputable def F31 : List V → Option V := tells (fun a => g31 a) eA31 eB31
/- loop.example/g01229/impl.values -/
theorem ok31 : Tells Try.prog 31 F31 := by
 refine Tells.go 107 Try.func31 rfl rfl rfl (by kernel_rfl) (fun _ => rfl) ?_
 rintro s r h
 simp only [eA31, en, Nat.reduceAdd]
 replace h : (g31 s).bind some = some r := bindS h
 rw [g31] at h
 have hC : CEnv.Ok Try.prog [(37, F37)] := ⟨.inl ok37, trivial⟩
 refine VW.seq (VW.rA (tm 107 [(1, .ptr 0 0 0)]) [some (7, [(pT23 s)])] [] hC (VW.seq (VW.rA (tm 107 [(1, .ptr 0 0 0), (3, .i .i64 (s.need_.length : Int))]) [some (7, [(pT23 s)])] [] hC (VW.seq ?_))))
 obtain ⟨u1, ⟨f2a, f2b, f2c⟩, h⟩ := bindM h
 try simp only [Int.toNat_natCast, Int.reduceToNat, List.length_cons, List.length_nil, Nat.reduceAdd, Nat.zero_add] at f2a f2b f2c
 refine VW.rE (tm 107 [(1, .ptr 0 0 0), (3, .i .i64 (s.need_.length : Int)), (4, .ref 1 0 (List.replicate (aI .i64 (s.need_.length : Int) 1).toNat ([] : List Int)).length)]) [some (7, [(pT23 s)]), some (1, List.replicate (aI .i64 (s.need_.length : Int) 1).toNat [.nil])] [] hC (Ent.nilown (m := [some (7, [(pT23 s)]), some (1, List.replicate (aI .i64 (s.need_.length : Int) 1).toNat [.nil])]) 1 ((aI .i64 (s.need_.length : Int) 1).toNat) 1 [some (7, [(pT23 s)]), some (1, rows cl_ci_i64o (List.replicate (aI .i64 (s.need_.length : Int) 1).toNat ([] : List Int)))] (by simp) (by simp)) (VW.seq ?_) (h := by simp -implicitDefEqProofs [f2a, f2b, f2c])
 obtain ⟨u3, ⟨f4a, f4b, f4c⟩, h⟩ := bindM h
 try simp only [Int.toNat_natCast, Int.reduceToNat, List.length_cons, List.length_nil, Nat.reduceAdd, Nat.zero_add] at f4a f4b f4c
 obtain ⟨e5, ⟨f6a, f6b, f6c, f6d⟩, h⟩ := bindI h
 have f6s := f6c
 simp at f6s
 try simp only [Int.toNat_natCast, Int.reduceToNat] at f6a f6b f6c f6d
 refine VW.rE (tm 107 [(1, .ptr 0 0 0), (3, .i .i64 (s.need_.length : Int)), (4, .ref 1 0 (List.replicate (aI .i64 (s.need_.length : Int) 1).toNat ([] : List Int)).length)]) [some (7, [(pT23 s)]), some (1, (rows cl_ci_i64o (List.replicate (aI .i64 (s.need_.length : Int) 1).toNat ([] : List Int))).set ((s.need_.length : Int).toNat) [.ref 2 0 (List.replicate (aI .i64 s.store_ 1).toNat 0).length]), some (1, rows ci_i64 (List.replicate (aI .i64 s.store_ 1).toNat 0))] [] hC (Ent.absorb (m := [some (7, [(pT23 s)]), some (1, (rows cl_ci_i64o (List.replicate (aI .i64 (s.need_.length : Int) 1).toNat ([] : List Int))).set ((s.need_.length : Int).toNat) [.ref 2 0 (List.replicate (aI .i64 s.store_ 1).toNat 0).length]), some (1, rows ci_i64 (List.replicate (aI .i64 s.store_ 1).toNat 0))]) (n := 1) (n' := 1) (es := (rows cl_ci_i64o (List.replicate (aI .i64 (s.need_.length : Int) 1).toNat ([] : List Int))).set ((s.need_.length : Int).toNat) [.ref 2 0 (List.replicate (aI .i64 s.store_ 1).toNat 0).length]) (es' := rows ci_i64 (List.replicate (aI .i64 s.store_ 1).toNat 0)) (cs := [.ref 2 0 (List.replicate (aI .i64 s.store_ 1).toNat 0).length]) 1 ((s.need_.length : Int).toNat) 0 2 (List.replicate (aI .i64 s.store_ 1).toNat 0).length [some (7, [(pT23 s)]), some (1, rows cl_ci_i64o ((List.replicate (aI .i64 (s.need_.length : Int) 1).toNat ([] : List Int)).set ((s.need_.length : Int).toNat) (List.replicate (aI .i64 s.store_ 1).toNat 0))), none] rfl (by simp [f6a, f6b, f6c, f6d, f6s]) rfl rfl (by decide) (by simp) (by simp) (by simp)) (VW.join (fun (v : List (List Int)) => (⟨(tm 107 [(4, .ref 1 0 v.length)]), [some (7, [(pT23 s)]), some (1, rows cl_ci_i64o v), none], []⟩ : VS)) (fun v => (g31_j1 (v)).bind some = some r) ?_ ?_) (h := by simp -implicitDefEqProofs [f4a, f4b, f4c, f6a, f6b, f6c, f6d, f6s])
 · refine VW.seq (VW.rA (tm 107 [(1, .ptr 0 0 0), (4, .ref 1 0 ((List.replicate (aI .i64 (s.need_.length : Int) 1).toNat ([] : List Int)).set ((s.need_.length : Int).toNat) (List.replicate (aI .i64 s.store_ 1).toNat 0)).length), (5, .i .i64 (sI .i64 (s.need_.length : Int) 1))]) [some (7, [(pT23 s)]), some (1, rows cl_ci_i64o ((List.replicate (aI .i64 (s.need_.length : Int) 1).toNat ([] : List Int)).set ((s.need_.length : Int).toNat) (List.replicate (aI .i64 s.store_ 1).toNat 0))), none] [] hC (VW.block ?_))
   obtain ⟨w_1, hw_1, h⟩ := bindE h
   refine VW.loopO (fun (x : Int × (List (List Int))) => (⟨(tm 107 [(1, .ptr 0 0 0), (4, .ref 1 0 x.2.length), (5, .i .i64 x.1)]), [some (7, [(pT23 s)]), some (1, rows cl_ci_i64o x.2), none], []⟩ : VS)) hw_1 (Ent.tu 3) ?_
   rintro n_1 ⟨k_7904, l7905⟩ h1
   rw [g31_L1] at h1
   refine VW.seq (VW.seq (VW.rA (tm 107 [(1, .ptr 0 0 0), (4, .ref 1 0 l7905.length), (5, .i .i64 k_7904), (28, .b (leI 0 k_7904))]) [some (7, [(pT23 s)]), some (1, rows cl_ci_i64o l7905), none] [] hC (VW.condJ h1 (fun h1 => ?_) (fun h1 => ?_))))
   · refine VW.exit ?_
     have e_ := leafR h1
     subst w_1
     exact vnext l7905 h (Ent.tu 3)
   refine VW.skip (VW.join (fun (v : List (List Int)) => (⟨(tm 107 [(1, .ptr 0 0 0), (4, .ref 1 0 v.length), (5, .i .i64 k_7904)]), [some (7, [(pT23 s)]), some (1, rows cl_ci_i64o v), none], []⟩ : VS)) (fun v => (g31_j2 k_7904 (v)).bind (kN (g31_L1 s) n_1) = some w_1) ?_ ?_)
   · refine VW.block (VW.seq ?_)
     obtain ⟨u8696, ⟨f8697a, f8697b, f8697c⟩, h1⟩ := bindM h1
     try simp only [Int.toNat_natCast, Int.reduceToNat, List.length_cons, List.length_nil, Nat.reduceAdd, Nat.zero_add] at f8697a f8697b f8697c
     obtain ⟨e8698, ⟨f8699a, f8699b, f8699c, f8699d⟩, h1⟩ := bindI h1
     refine VW.rA (tm 107 [(1, .ptr 0 0 0), (4, .ref 1 0 l7905.length), (5, .i .i64 k_7904)]) [some (7, [(pT23 s)]), some (1, (rows cl_ci_i64o l7905).set k_7904.toNat [.ref 3 0 (List.replicate (aI .i64 s.store_ 1).toNat 0).length]), none, some (1, rows ci_i64 (List.replicate (aI .i64 s.store_ 1).toNat 0))] [] hC (VW.seq (VW.rA (tm 107 [(1, .ptr 0 0 0), (4, .ref 1 0 l7905.length), (5, .i .i64 k_7904), (42, .i .i64 ((List.replicate (aI .i64 s.store_ 1).toNat 0).length : Int)), (43, .i .i64 0)]) [some (7, [(pT23 s)]), some (1, (rows cl_ci_i64o l7905).set k_7904.toNat [.ref 3 0 (List.replicate (aI .i64 s.store_ 1).toNat 0).length]), none, some (1, rows ci_i64 (List.replicate (aI .i64 s.store_ 1).toNat 0))] [] hC (VW.block ?_) (h := by simp -implicitDefEqProofs [f8699a, f8699b, f8699c, f8699d]))) (h := by simp -implicitDefEqProofs [f8697a, f8697b, f8697c, f8699a, f8699b, f8699c, f8699d])
     obtain ⟨w_2, hw_2, h1⟩ := bindE h1
     refine VW.loopO (fun (x : Int × (List Int)) => (⟨(tm 107 [(1, .ptr 0 0 0), (4, .ref 1 0 l7905.length), (5, .i .i64 k_7904), (42, .i .i64 ((List.replicate (aI .i64 s.store_ 1).toNat 0).length : Int)), (43, .i .i64 x.1)]), [some (7, [(pT23 s)]), some (1, (rows cl_ci_i64o l7905).set k_7904.toNat [.ref 3 0 x.2.length]), none, some (1, rows ci_i64 x.2)], []⟩ : VS)) hw_2 (Ent.tu 4) ?_
     rintro n_2 ⟨x_9222, l9223⟩ h2
     rw [g31_L2] at h2
     refine VW.seq (VW.rA (tm 107 [(1, .ptr 0 0 0), (4, .ref 1 0 l7905.length), (5, .i .i64 k_7904), (42, .i .i64 ((List.replicate (aI .i64 s.store_ 1).toNat 0).length : Int)), (43, .i .i64 x_9222), (44, .b (ltI x_9222 ((List.replicate (aI .i64 s.store_ 1).toNat 0).length : Int)))]) [some (7, [(pT23 s)]), some (1, (rows cl_ci_i64o l7905).set k_7904.toNat [.ref 3 0 l9223.length]), none, some (1, rows ci_i64 l9223)] [] hC (VW.seq (VW.condJ h2 (fun h2 => ?_) (fun h2 => ?_))))
     · refine VW.exit ?_
       have e_ := leafR h2
       subst w_2
       exact vnext (l7905.set k_7904.toNat l9223) h1 (Ent.trans (Ent.absorb (m := [some (7, [(pT23 s)]), some (1, (rows cl_ci_i64o l7905).set k_7904.toNat [.ref 3 0 l9223.length]), none, some (1, rows ci_i64 l9223)]) (n := 1) (n' := 1) (es := (rows cl_ci_i64o l7905).set k_7904.toNat [.ref 3 0 l9223.length]) (es' := rows ci_i64 l9223) (cs := [.ref 3 0 l9223.length]) 1 k_7904.toNat 0 3 l9223.length [some (7, [(pT23 s)]), some (1, rows cl_ci_i64o (l7905.set k_7904.toNat l9223)), none, none] rfl (by simp [f8699a, f8699b, f8699c, f8699d]) rfl rfl (by decide) (by simp) (by simp) (by simp)) (Ent.tu 3))
     refine VW.skip (VW.join (fun (v : List Int) => (⟨(tm 107 [(1, .ptr 0 0 0), (4, .ref 1 0 l7905.length), (5, .i .i64 k_7904), (42, .i .i64 ((List.replicate (aI .i64 s.store_ 1).toNat 0).length : Int)), (43, .i .i64 x_9222)]), [some (7, [(pT23 s)]), some (1, (rows cl_ci_i64o l7905).set k_7904.toNat [.ref 3 0 v.length]), none, some (1, rows ci_i64 v)], []⟩ : VS)) (fun v => (g31_j3 x_9222 (v)).bind (kN (g31_L2 s k_7904 l7905) n_2) = some w_2) ?_ ?_)
     · refine VW.block (VW.seq (VW.rA (tm 107 [(1, .ptr 0 0 0), (4, .ref 1 0 l7905.length), (5, .i .i64 k_7904), (6, .i .i64 x_9222), (42, .i .i64 ((List.replicate (aI .i64 s.store_ 1).toNat 0).length : Int)), (43, .i .i64 x_9222)]) [some (7, [(pT23 s)]), some (1, (rows cl_ci_i64o l7905).set k_7904.toNat [.ref 3 0 l9223.length]), none, some (1, rows ci_i64 l9223)] [] hC (VW.seq (VW.rA (tm 107 [(1, .ptr 0 0 0), (4, .ref 1 0 l7905.length), (5, .i .i64 k_7904), (6, .i .i64 x_9222), (7, .i .i64 (-1)), (42, .i .i64 ((List.replicate (aI .i64 s.store_ 1).toNat 0).length : Int)), (43, .i .i64 x_9222)]) [some (7, [(pT23 s)]), some (1, (rows cl_ci_i64o l7905).set k_7904.toNat [.ref 3 0 l9223.length]), none, some (1, rows ci_i64 l9223)] [] hC (VW.join (fun (v : Int) => (⟨(tm 107 [(1, .ptr 0 0 0), (4, .ref 1 0 l7905.length), (5, .i .i64 k_7904), (6, .i .i64 x_9222), (7, .i .i64 v), (42, .i .i64 ((List.replicate (aI .i64 s.store_ 1).toNat 0).length : Int)), (43, .i .i64 x_9222)]), [some (7, [(pT23 s)]), some (1, (rows cl_ci_i64o l7905).set k_7904.toNat [.ref 3 0 l9223.length]), none, some (1, rows ci_i64 l9223)], []⟩ : VS)) (fun v => (g31_j4 l9223 x_9222 (v)).bind (kN (g31_L2 s k_7904 l7905) n_2) = some w_2) ?_ ?_)))))
       · refine VW.seq (VW.rA (tm 107 [(1, .ptr 0 0 0), (4, .ref 1 0 l7905.length), (5, .i .i64 k_7904), (6, .i .i64 x_9222), (7, .i .i64 (-1)), (42, .i .i64 ((List.replicate (aI .i64 s.store_ 1).toNat 0).length : Int)), (43, .i .i64 x_9222), (48, .i .i64 (aI .i64 s.most_ 1)), (49, .i .i64 0)]) [some (7, [(pT23 s)]), some (1, (rows cl_ci_i64o l7905).set k_7904.toNat [.ref 3 0 l9223.length]), none, some (1, rows ci_i64 l9223)] [] hC (VW.block ?_))
         obtain ⟨w_3, hw_3, h2⟩ := bindE h2
         refine VW.loopO (fun (x : Int × Int) => (⟨(tm 107 [(1, .ptr 0 0 0), (4, .ref 1 0 l7905.length), (5, .i .i64 k_7904), (6, .i .i64 x_9222), (7, .i .i64 x.1), (42, .i .i64 ((List.replicate (aI .i64 s.store_ 1).toNat 0).length : Int)), (43, .i .i64 x_9222), (48, .i .i64 (aI .i64 s.most_ 1)), (49, .i .i64 x.2)]), [some (7, [(pT23 s)]), some (1, (rows cl_ci_i64o l7905).set k_7904.toNat [.ref 3 0 l9223.length]), none, some (1, rows ci_i64 l9223)], []⟩ : VS)) hw_3 (Ent.tu 4) ?_
         rintro n_3 ⟨best_9462, x_9463⟩ h3
         rw [g31_L3] at h3
         refine VW.seq (VW.rA (tm 107 [(1, .ptr 0 0 0), (4, .ref 1 0 l7905.length), (5, .i .i64 k_7904), (6, .i .i64 x_9222), (7, .i .i64 best_9462), (42, .i .i64 ((List.replicate (aI .i64 s.store_ 1).toNat 0).length : Int)), (43, .i .i64 x_9222), (48, .i .i64 (aI .i64 s.most_ 1)), (49, .i .i64 x_9463), (50, .b (ltI x_9463 (aI .i64 s.most_ 1)))]) [some (7, [(pT23 s)]), some (1, (rows cl_ci_i64o l7905).set k_7904.toNat [.ref 3 0 l9223.length]), none, some (1, rows ci_i64 l9223)] [] hC (VW.seq (VW.condJ h3 (fun h3 => ?_) (fun h3 => ?_))))
         · refine VW.exit ?_
           have e_ := leafR h3
           subst w_3
           exact vnext best_9462 h2 (Ent.tu 4)
         refine VW.skip (VW.seq (VW.block (VW.seq (VW.rA (tm 107 [(1, .ptr 0 0 0), (4, .ref 1 0 l7905.length), (5, .i .i64 k_7904), (6, .i .i64 x_9222), (7, .i .i64 best_9462), (8, .i .i64 x_9463), (42, .i .i64 ((List.replicate (aI .i64 s.store_ 1).toNat 0).length : Int)), (43, .i .i64 x_9222), (48, .i .i64 (aI .i64 s.most_ 1)), (49, .i .i64 x_9463)]) [some (7, [(pT23 s)]), some (1, (rows cl_ci_i64o l7905).set k_7904.toNat [.ref 3 0 l9223.length]), none, some (1, rows ci_i64 l9223)] [] hC (VW.seq ?_)))))
         obtain ⟨r9465, q9466, h3⟩ := bindE h3
         have c9466 : F37 [.agg (pT23 s), .i .i64 k_7904, .i .i64 x_9222, .i .i64 x_9463] = some (.tup [.i .i64 r9465.1, .b r9465.2]) := tells_eq inj37 (a := (s, k_7904, x_9222, x_9463)) q9466
         refine VW.rA (tm 107 [(1, .ptr 0 0 0), (4, .ref 1 0 l7905.length), (5, .i .i64 k_7904), (6, .i .i64 x_9222), (7, .i .i64 best_9462), (8, .i .i64 x_9463), (9, .i .i64 r9465.1), (10, .b r9465.2), (42, .i .i64 ((List.replicate (aI .i64 s.store_ 1).toNat 0).length : Int)), (43, .i .i64 x_9222), (48, .i .i64 (aI .i64 s.most_ 1)), (49, .i .i64 x_9463)]) [some (7, [(pT23 s)]), some (1, (rows cl_ci_i64o l7905).set k_7904.toNat [.ref 3 0 l9223.length]), none, some (1, rows ci_i64 l9223)] [] hC (VW.seq (VW.seq ?_)) (h := by simp -implicitDefEqProofs [c9466])
         obtain ⟨w9472, q9482, h3⟩ := bindE h3
         refine VW.evalA (tm 107 [(1, .ptr 0 0 0), (4, .ref 1 0 l7905.length), (5, .i .i64 k_7904), (6, .i .i64 x_9222), (7, .i .i64 best_9462), (8, .i .i64 x_9463), (9, .i .i64 r9465.1), (42, .i .i64 ((List.replicate (aI .i64 s.store_ 1).toNat 0).length : Int)), (43, .i .i64 x_9222), (48, .i .i64 (aI .i64 s.most_ 1)), (49, .i .i64 x_9463), (72, .b w9472)]) [some (7, [(pT23 s)]), some (1, (rows cl_ci_i64o l7905).set k_7904.toNat [.ref 3 0 l9223.length]), none, some (1, rows ci_i64 l9223)] [] hC (by kernel_rfl) (by
             obtain ⟨q9483, q9482⟩ | ⟨q9483, rfl⟩ := gdF q9482
             · obtain ⟨e9467, q9468, q9482⟩ := bindQ q9482
               obtain ⟨f9468a, f9468b, f9468c, f9468d⟩ := idx_some q9468
               have f9469n := succ_ne f8699a f9468a
               obtain ⟨e9470, q9471, q9482⟩ := bindQ q9482
               obtain ⟨f9471a, f9471b, f9471c, f9471d⟩ := idx_some q9471
               obtain rfl := Option.some.inj q9482
               simp -implicitDefEqProofs [q9483, f9468a, f9468b, f9468c, f9468d, f9469n, f9471a, f9471b, f9471c, f9471d]
             simp -implicitDefEqProofs [q9483]) ?_
         refine VW.condI h3 (fun h3 => ?_) (fun h3 => ?_)
         · exact VW.exit (VW.rA (tm 107 [(1, .ptr 0 0 0), (4, .ref 1 0 l7905.length), (5, .i .i64 k_7904), (6, .i .i64 x_9222), (7, .i .i64 best_9462), (42, .i .i64 ((List.replicate (aI .i64 s.store_ 1).toNat 0).length : Int)), (43, .i .i64 x_9222), (48, .i .i64 (aI .i64 s.most_ 1)), (49, .i .i64 (aI .i64 x_9463 1))]) [some (7, [(pT23 s)]), some (1, (rows cl_ci_i64o l7905).set k_7904.toNat [.ref 3 0 l9223.length]), none, some (1, rows ci_i64 l9223)] [] hC (vnext (best_9462, aI .i64 x_9463 1) (leafL h3) (Ent.tu 4)))
         refine VW.skip (VW.seq ?_)
         obtain ⟨e9474, ⟨f9475a, f9475b, f9475c, f9475d⟩, h3⟩ := bindI h3
         obtain ⟨e9476, ⟨f9477a, f9477b, f9477c, f9477d⟩, h3⟩ := bindI h3
         have f9478n := succ_ne f8699a f9477a
         obtain ⟨e9479, ⟨f9480a, f9480b, f9480c, f9480d⟩, h3⟩ := bindI h3
         refine VW.rD (tm 107 [(1, .ptr 0 0 0), (4, .ref 1 0 l7905.length), (5, .i .i64 k_7904), (6, .i .i64 x_9222), (7, .i .i64 best_9462), (11, .i .i64 (aI .i64 (mI .i64 e9474 x_9463) e9479)), (42, .i .i64 ((List.replicate (aI .i64 s.store_ 1).toNat 0).length : Int)), (43, .i .i64 x_9222), (48, .i .i64 (aI .i64 s.most_ 1)), (49, .i .i64 x_9463)]) [some (7, [(pT23 s)]), some (1, (rows cl_ci_i64o l7905).set k_7904.toNat [.ref 3 0 l9223.length]), none, some (1, rows ci_i64 l9223)] [] hC mixed (VW.seq (VW.rA (tm 107 [(1, .ptr 0 0 0), (4, .ref 1 0 l7905.length), (5, .i .i64 k_7904), (6, .i .i64 x_9222), (7, .i .i64 best_9462), (11, .i .i64 (aI .i64 (mI .i64 e9474 x_9463) e9479)), (42, .i .i64 ((List.replicate (aI .i64 s.store_ 1).toNat 0).length : Int)), (43, .i .i64 x_9222), (48, .i .i64 (aI .i64 s.most_ 1)), (49, .i .i64 x_9463), (95, .b (eqI best_9462 (-1) || ltI (aI .i64 (mI .i64 e9474 x_9463) e9479) best_9462))]) [some (7, [(pT23 s)]), some (1, (rows cl_ci_i64o l7905).set k_7904.toNat [.ref 3 0 l9223.length]), none, some (1, rows ci_i64 l9223)] [] hC (VW.condJ h3 (fun h3 => ?_) (fun h3 => ?_)))) (h := by simp -implicitDefEqProofs [f9475a, f9475b, f9475c, f9475d, f9477a, f9477b, f9477c, f9477d, f9478n, f9480a, f9480b, f9480c, f9480d])
         · exact VW.skip (VW.rA (tm 107 [(1, .ptr 0 0 0), (4, .ref 1 0 l7905.length), (5, .i .i64 k_7904), (6, .i .i64 x_9222), (7, .i .i64 best_9462), (42, .i .i64 ((List.replicate (aI .i64 s.store_ 1).toNat 0).length : Int)), (43, .i .i64 x_9222), (48, .i .i64 (aI .i64 s.most_ 1)), (49, .i .i64 (aI .i64 x_9463 1))]) [some (7, [(pT23 s)]), some (1, (rows cl_ci_i64o l7905).set k_7904.toNat [.ref 3 0 l9223.length]), none, some (1, rows ci_i64 l9223)] [] hC (vnext (best_9462, aI .i64 x_9463 1) (leafL h3) (Ent.tu 4)))
         exact VW.rA (tm 107 [(1, .ptr 0 0 0), (4, .ref 1 0 l7905.length), (5, .i .i64 k_7904), (6, .i .i64 x_9222), (7, .i .i64 (aI .i64 (mI .i64 e9474 x_9463) e9479)), (42, .i .i64 ((List.replicate (aI .i64 s.store_ 1).toNat 0).length : Int)), (43, .i .i64 x_9222), (48, .i .i64 (aI .i64 s.most_ 1)), (49, .i .i64 x_9463)]) [some (7, [(pT23 s)]), some (1, (rows cl_ci_i64o l7905).set k_7904.toNat [.ref 3 0 l9223.length]), none, some (1, rows ci_i64 l9223)] [] hC (VW.rA (tm 107 [(1, .ptr 0 0 0), (4, .ref 1 0 l7905.length), (5, .i .i64 k_7904), (6, .i .i64 x_9222), (7, .i .i64 (aI .i64 (mI .i64 e9474 x_9463) e9479)), (42, .i .i64 ((List.replicate (aI .i64 s.store_ 1).toNat 0).length : Int)), (43, .i .i64 x_9222), (48, .i .i64 (aI .i64 s.most_ 1)), (49, .i .i64 (aI .i64 x_9463 1))]) [some (7, [(pT23 s)]), some (1, (rows cl_ci_i64o l7905).set k_7904.toNat [.ref 3 0 l9223.length]), none, some (1, rows ci_i64 l9223)] [] hC (vnext (aI .i64 (mI .i64 e9474 x_9463) e9479, aI .i64 x_9463 1) (leafL h3) (Ent.tu 4)))
       rintro best_9418 h2
       replace h2 : (g31_j4 l9223 x_9222 best_9418).bind _ = _ := h2
       rw [g31_j4] at h2
       obtain ⟨e9419, ⟨f9420a, f9420b, f9420c, f9420d⟩, h2⟩ := bindI h2
       exact VW.rA (tm 107 [(1, .ptr 0 0 0), (4, .ref 1 0 l7905.length), (5, .i .i64 k_7904), (42, .i .i64 ((List.replicate (aI .i64 s.store_ 1).toNat 0).length : Int)), (43, .i .i64 x_9222)]) [some (7, [(pT23 s)]), some (1, (rows cl_ci_i64o l7905).set k_7904.toNat [.ref 3 0 (l9223.set x_9222.toNat best_9418).length]), none, some (1, rows ci_i64 (l9223.set x_9222.toNat best_9418))] [] hC (vnext (l9223.set x_9222.toNat best_9418) h2 (Ent.tu 4)) (h := by simp -implicitDefEqProofs [f9420a, f9420b, f9420c, f9420d, f8699a, f8699b, f8699c, f8699d])
     rintro l9354 h2
     replace h2 : (g31_j3 x_9222 l9354).bind _ = _ := h2
     rw [g31_j3] at h2
     exact VW.rA (tm 107 [(1, .ptr 0 0 0), (4, .ref 1 0 l7905.length), (5, .i .i64 k_7904), (42, .i .i64 ((List.replicate (aI .i64 s.store_ 1).toNat 0).length : Int)), (43, .i .i64 (aI .i64 x_9222 1))]) [some (7, [(pT23 s)]), some (1, (rows cl_ci_i64o l7905).set k_7904.toNat [.ref 3 0 l9354.length]), none, some (1, rows ci_i64 l9354)] [] hC (vnext (aI .i64 x_9222 1, l9354) (leafL h2) (Ent.tu 4))
   rintro l8695 h1
   replace h1 : (g31_j2 k_7904 l8695).bind _ = _ := h1
   rw [g31_j2] at h1
   exact VW.rA (tm 107 [(1, .ptr 0 0 0), (4, .ref 1 0 l8695.length), (5, .i .i64 (sI .i64 k_7904 1))]) [some (7, [(pT23 s)]), some (1, rows cl_ci_i64o l8695), none] [] hC (vnext (sI .i64 k_7904 1, l8695) (leafL h1) (Ent.tu 3))
 rintro l4745 h
 replace h : (g31_j1 l4745).bind _ = _ := h
 rw [g31_j1] at h
 refine VW.seq (VW.rA (tm 107 [(2, .ref 1 0 l4745.length)]) [some (7, [(pT23 s)]), some (1, rows cl_ci_i64o l4745), none] [] hC ?_)
 obtain rfl := leafS h
 exact VW.ret (VRet.fin (by simp [eB31]))
theorem tl31 {s : T23} {r : List (List Int)} (h : g31 s = some r) : F31 [.agg [.sl 1 (rows ci_i64 s.need_), .sl 1 (rows ci_i64 s.price_), .i .i64 s.most_, .i .i64 s.yield_, .i .i64 s.store_, .i .i64 s.first_, .i .i64 s.loss_]] = some (.own 1 (rows cl_ci_i64o r)) := tells_eq inj31 (a := s) h
noncomputable def g8 (s : T23) : Option ((List (List Int)) × Int) :=
(g30 s).bind fun r1 =>
if (!r1) = true then
some ([], 1)
else
(g31 s).bind fun r4 =>
some (r4, 0)
def eA8 (a : T23) : List V := [.agg (pT23 a)]
def eB8 (r : (List (List Int)) × Int) : V := .tup [.own 1 (rows cl_ci_i64o r.1), .i .i64 r.2]
theorem inj8 (a a' : T23) (h : eA8 a = eA8 a') : a = a' := by
  obtain ⟨i175, i176, i177, i178, i179, i180, i181⟩ := a
  obtain ⟨i182, i183, i184, i185, i186, i187, i188⟩ := a'
  simp only [eA8, pT23, List.cons.injEq, V.i.injEq, V.b.injEq, V.f.injEq, V.str.injEq, V.sl.injEq, V.agg.injEq, V.cptr.injEq, true_and, and_true] at h
  simp_all [ri ci_i64_inj]
noncomputable def F8 : List V → Option V := tells (fun a => g8 a) eA8 eB8
/- loop.example/g01229/impl.ValuesOf -/
theorem ok8 : Tells Try.prog 8 F8 := by
 refine Tells.go 9 Try.func8 rfl rfl rfl (by kernel_rfl) (fun _ => rfl) ?_
 rintro s r h
 simp only [eA8, en, Nat.reduceAdd]
 replace h : (g8 s).bind some = some r := bindS h
 rw [g8] at h
 have hC : CEnv.Ok Try.prog [(30, F30), (31, F31)] := ⟨.inl ok30, .inl ok31, trivial⟩
 refine VW.seq (VW.rA (tm 9 [(1, .ptr 0 0 0)]) [some (7, [(pT23 s)])] [] hC (VW.seq (VW.seq ?_)))
 obtain ⟨r1, q2, h⟩ := bindE h
 have c2 : F30 [.agg (pT23 s)] = some (.b r1) := tells_eq inj30 (a := s) q2
 refine VW.rA (tm 9 [(1, .ptr 0 0 0), (6, .b (!r1))]) [some (7, [(pT23 s)])] [] hC (VW.condI h (fun h => ?_) (fun h => ?_)) (h := by simp -implicitDefEqProofs [c2])
 · refine VW.seq (VW.rA (tm 9 [(2, .nil), (3, .i .i64 1)]) [some (7, [(pT23 s)])] [] hC ?_)
   obtain rfl := leafS h
   exact VW.ret (VRet.fin (by simp [eB8]))
 refine VW.skip (VW.seq ?_)
 obtain ⟨r4, q5, h⟩ := bindE h
 have c5 : F31 [.agg (pT23 s)] = some (.own 1 (rows cl_ci_i64o r4)) := tells_eq inj31 (a := s) q5
 refine VW.rA (tm 9 [(2, .ref 1 0 r4.length), (3, .i .i64 0)]) [some (7, [(pT23 s)]), some (1, rows cl_ci_i64o r4)] [] hC ?_ (h := by simp -implicitDefEqProofs [c5])
 obtain rfl := leafS h
 exact VW.ret (VRet.fin (by simp [eB8]))
theorem tl8 {s : T23} {r : (List (List Int)) × Int} (h : g8 s = some r) : F8 [.agg [.sl 1 (rows ci_i64 s.need_), .sl 1 (rows ci_i64 s.price_), .i .i64 s.most_, .i .i64 s.yield_, .i .i64 s.store_, .i .i64 s.first_, .i .i64 s.loss_]] = some (.tup [.own 1 (rows cl_ci_i64o r.1), .i .i64 r.2]) := tells_eq inj8 (a := s) h
noncomputable def g32_j1 : Option (Bool) :=
some true
noncomputable def g32_L1 (a : List Int) (b : List Int) : (Int) → Option ((Int) ⊕ ((Unit) ⊕ (Bool)))
| i_35 =>
if ltI i_35 (a.length : Int) = true then
(idx a i_35).bind fun e37 =>
(idx b i_35).bind fun e39 =>
if (!eqI e37 e39) = true then
some (.inr (.inr false))
else
some (.inl (aI .i64 i_35 1))
else
some (.inr (.inl ()))
noncomputable def g32 (a : List Int) (b : List Int) : Option (Bool) :=
if (!eqI (a.length : Int) (b.length : Int)) = true then
some false
else
(loopO (g32_L1 a b) 0).bind fun w => match w with
| .inl y => g32_j1
| .inr r => some r
def eA32 (a : (List Int) × (List Int)) : List V := [.sl 1 (rows ci_i64 a.1), .sl 1 (rows ci_i64 a.2)]
def eB32 (r : Bool) : V := .b r
theorem inj32 (a a' : (List Int) × (List Int)) (h : eA32 a = eA32 a') : a = a' := by
  obtain ⟨i189, i190⟩ := a
  obtain ⟨i191, i192⟩ := a'
  simp only [eA32, List.cons.injEq, V.i.injEq, V.b.injEq, V.f.injEq, V.str.injEq, V.sl.injEq, V.agg.injEq, V.cptr.injEq, true_and, and_true] at h
  simp_all [ri ci_i64_inj]
noncomputable def F32c : List V → Option V := tells (fun a => g32 a.1 a.2) eA32 eB32
/- loop.example/g01229/laws.eqInt64S -/
theorem ok32 : Tells Try.prog 32 F32c := by
 refine Tells.go 26 Try.func32 rfl rfl rfl (by kernel_rfl) (fun _ => rfl) ?_
 rintro ⟨a, b⟩ r h
 simp only [eA32, en, Nat.reduceAdd]
 replace h : (g32 a b).bind some = some r := bindS h
 rw [g32] at h
 have hC : CEnv.Ok Try.prog [] := trivial
 refine VW.seq (VW.rA (tm 26 [(0, .sl 1 (rows ci_i64 a)), (1, .sl 1 (rows ci_i64 b))]) [] [] hC (VW.seq (VW.seq (VW.rA (tm 26 [(0, .sl 1 (rows ci_i64 a)), (1, .sl 1 (rows ci_i64 b)), (10, .b (!eqI (a.length : Int) (b.length : Int)))]) [] [] hC (VW.condI h (fun h => ?_) (fun h => ?_))))))
 · refine VW.seq (VW.rA (tm 26 [(4, .b false)]) [] [] hC ?_)
   obtain rfl := leafS h
   exact VW.ret (VRet.fin (by simp [eB32]))
 refine VW.skip (VW.join (fun (v : Unit) => (⟨(tm 26 []), [], []⟩ : VS)) (fun v => (g32_j1).bind some = some r) ?_ ?_)
 · refine VW.seq (VW.rA (tm 26 [(0, .sl 1 (rows ci_i64 a)), (1, .sl 1 (rows ci_i64 b)), (5, .i .i64 0)]) [] [] hC (VW.block ?_))
   obtain ⟨w_1, hw_1, h⟩ := bindE h
   refine VW.loopO (fun (x : Int) => (⟨(tm 26 [(0, .sl 1 (rows ci_i64 a)), (1, .sl 1 (rows ci_i64 b)), (5, .i .i64 x)]), [], []⟩ : VS)) hw_1 (Ent.tu 0) ?_
   rintro n_1 i_35 h1
   rw [g32_L1] at h1
   refine VW.seq (VW.seq (VW.rA (tm 26 [(0, .sl 1 (rows ci_i64 a)), (1, .sl 1 (rows ci_i64 b)), (5, .i .i64 i_35), (14, .b (ltI i_35 (a.length : Int)))]) [] [] hC (VW.condJ h1 (fun h1 => ?_) (fun h1 => ?_))))
   · refine VW.exit ?_
     have e_ := leafR h1
     subst w_1
     exact vnext () h (Ent.tu 0)
   refine VW.skip (VW.seq (VW.block (VW.seq ?_)))
   obtain ⟨e37, ⟨f38a, f38b, f38c, f38d⟩, h1⟩ := bindI h1
   obtain ⟨e39, ⟨f40a, f40b, f40c, f40d⟩, h1⟩ := bindI h1
   refine VW.rD (tm 26 [(0, .sl 1 (rows ci_i64 a)), (1, .sl 1 (rows ci_i64 b)), (5, .i .i64 i_35), (25, .b (!eqI e37 e39))]) [] [] hC mixed (VW.condI h1 (fun h1 => ?_) (fun h1 => ?_)) (h := by simp -implicitDefEqProofs [f38a, f38b, f38c, f38d, f40a, f40b, f40c, f40d])
   · refine VW.seq (VW.rA (tm 26 [(4, .b false)]) [] [] hC ?_)
     have e_ := leafR h1
     subst w_1
     obtain rfl := leafS h
     exact VW.ret (VRet.fin (by simp [eB32]))
   exact VW.skip (VW.rA (tm 26 [(0, .sl 1 (rows ci_i64 a)), (1, .sl 1 (rows ci_i64 b)), (5, .i .i64 (aI .i64 i_35 1))]) [] [] hC (vnext (aI .i64 i_35 1) (leafL h1) (Ent.tu 0)))
 rintro _ h
 replace h : (g32_j1).bind _ = _ := h
 rw [g32_j1] at h
 refine VW.seq (VW.rA (tm 26 [(4, .b true)]) [] [] hC ?_)
 obtain rfl := leafS h
 exact VW.ret (VRet.fin (by simp [eB32]))
theorem tl32 {a : List Int} {b : List Int} {r : Bool} (h : g32 a b = some r) : F32c [.sl 1 (rows ci_i64 a), .sl 1 (rows ci_i64 b)] = some (.b r) := tells_eq inj32 (a := (a, b)) h
noncomputable def g9_j1 : Option (Bool) :=
some true
noncomputable def g9_L1 (a : List (List Int)) (b : List (List Int)) : (Int) → Option ((Int) ⊕ ((Unit) ⊕ (Bool)))
| i_45 =>
if ltI i_45 (a.length : Int) = true then
(idx a i_45).bind fun e47 =>
(idx b i_45).bind fun e49 =>
(g32 e47 e49).bind fun r51 =>
if (!r51) = true then
some (.inr (.inr false))
else
some (.inl (aI .i64 i_45 1))
else
some (.inr (.inl ()))
noncomputable def g9 (a : List (List Int)) (b : List (List Int)) : Option (Bool) :=
if (!eqI (a.length : Int) (b.length : Int)) = true then
some false
else
(loopO (g9_L1 a b) 0).bind fun w => match w with
| .inl y => g9_j1
| .inr r => some r
def eA9 (a : (List (List Int)) × (List (List Int))) : List V := [.sl 1 (rows cl_ci_i64 a.1), .sl 1 (rows cl_ci_i64 a.2)]
def eB9 (r : Bool) : V := .b r
theorem inj9 (a a' : (List (List Int)) × (List (List Int))) (h : eA9 a = eA9 a') : a = a' := by
  obtain ⟨i193, i194⟩ := a
  obtain ⟨i195, i196⟩ := a'
  simp only [eA9, List.cons.injEq, V.i.injEq, V.b.injEq, V.f.injEq, V.str.injEq, V.sl.injEq, V.agg.injEq, V.cptr.injEq, true_and, and_true] at h
  simp_all [ri cl_ci_i64_inj]
noncomputable def F9 : List V → Option V := tells (fun a => g9 a.1 a.2) eA9 eB9
/- loop.example/g01229/laws.eqInt64SS -/
theorem ok9 : Tells Try.prog 9 F9 := by
 refine Tells.go 27 Try.func9 rfl rfl rfl (by kernel_rfl) (fun _ => rfl) ?_
 rintro ⟨a, b⟩ r h
 simp only [eA9, en, Nat.reduceAdd]
 replace h : (g9 a b).bind some = some r := bindS h
 rw [g9] at h
 have hC : CEnv.Ok Try.prog [(32, F32c)] := ⟨.inl ok32, trivial⟩
 refine VW.seq (VW.rA (tm 27 [(0, .sl 1 (rows cl_ci_i64 a)), (1, .sl 1 (rows cl_ci_i64 b))]) [] [] hC (VW.seq (VW.seq (VW.rA (tm 27 [(0, .sl 1 (rows cl_ci_i64 a)), (1, .sl 1 (rows cl_ci_i64 b)), (10, .b (!eqI (a.length : Int) (b.length : Int)))]) [] [] hC (VW.condI h (fun h => ?_) (fun h => ?_))))))
 · refine VW.seq (VW.rA (tm 27 [(4, .b false)]) [] [] hC ?_)
   obtain rfl := leafS h
   exact VW.ret (VRet.fin (by simp [eB9]))
 refine VW.skip (VW.join (fun (v : Unit) => (⟨(tm 27 []), [], []⟩ : VS)) (fun v => (g9_j1).bind some = some r) ?_ ?_)
 · refine VW.seq (VW.rA (tm 27 [(0, .sl 1 (rows cl_ci_i64 a)), (1, .sl 1 (rows cl_ci_i64 b)), (5, .i .i64 0)]) [] [] hC (VW.block ?_))
   obtain ⟨w_1, hw_1, h⟩ := bindE h
   refine VW.loopO (fun (x : Int) => (⟨(tm 27 [(0, .sl 1 (rows cl_ci_i64 a)), (1, .sl 1 (rows cl_ci_i64 b)), (5, .i .i64 x)]), [], []⟩ : VS)) hw_1 (Ent.tu 0) ?_
   rintro n_1 i_45 h1
   rw [g9_L1] at h1
   refine VW.seq (VW.seq (VW.rA (tm 27 [(0, .sl 1 (rows cl_ci_i64 a)), (1, .sl 1 (rows cl_ci_i64 b)), (5, .i .i64 i_45), (14, .b (ltI i_45 (a.length : Int)))]) [] [] hC (VW.condJ h1 (fun h1 => ?_) (fun h1 => ?_))))
   · refine VW.exit ?_
     have e_ := leafR h1
     subst w_1
     exact vnext () h (Ent.tu 0)
   refine VW.skip (VW.seq (VW.block (VW.seq ?_)))
   obtain ⟨e47, ⟨f48a, f48b, f48c, f48d⟩, h1⟩ := bindI h1
   obtain ⟨e49, ⟨f50a, f50b, f50c, f50d⟩, h1⟩ := bindI h1
   obtain ⟨r51, q52, h1⟩ := bindE h1
   have c52 := tl32 q52
   refine VW.rD (tm 27 [(0, .sl 1 (rows cl_ci_i64 a)), (1, .sl 1 (rows cl_ci_i64 b)), (5, .i .i64 i_45), (26, .b (!r51))]) [] [] hC mixed (VW.condI h1 (fun h1 => ?_) (fun h1 => ?_)) (h := by simp -implicitDefEqProofs [f48a, f48b, f48c, f48d, f50a, f50b, f50c, f50d, c52])
   · refine VW.seq (VW.rA (tm 27 [(4, .b false)]) [] [] hC ?_)
     have e_ := leafR h1
     subst w_1
     obtain rfl := leafS h
     exact VW.ret (VRet.fin (by simp [eB9]))
   exact VW.skip (VW.rA (tm 27 [(0, .sl 1 (rows cl_ci_i64 a)), (1, .sl 1 (rows cl_ci_i64 b)), (5, .i .i64 (aI .i64 i_45 1))]) [] [] hC (vnext (aI .i64 i_45 1) (leafL h1) (Ent.tu 0)))
 rintro _ h
 replace h : (g9_j1).bind _ = _ := h
 rw [g9_j1] at h
 refine VW.seq (VW.rA (tm 27 [(4, .b true)]) [] [] hC ?_)
 obtain rfl := leafS h
 exact VW.ret (VRet.fin (by simp [eB9]))
theorem tl9 {a : List (List Int)} {b : List (List Int)} {r : Bool} (h : g9 a b = some r) : F9 [.sl 1 (rows cl_ci_i64 a), .sl 1 (rows cl_ci_i64 b)] = some (.b r) := tells_eq inj9 (a := (a, b)) h
noncomputable def g10 (a : T23) (b : T23) : Option (Bool) :=
(g32 a.need_ b.need_).bind fun r1 =>
if (!r1) = true then
some false
else
(g32 a.price_ b.price_).bind fun r4 =>
if (!r4) = true then
some false
else
if (!eqI a.most_ b.most_) = true then
some false
else
if (!eqI a.yield_ b.yield_) = true then
some false
else
if (!eqI a.store_ b.store_) = true then
some false
else
if (!eqI a.first_ b.first_) = true then
some false
else
if (!eqI a.loss_ b.loss_) = true then
some false
else
some true
def eA10 (a : T23 × T23) : List V := [.agg (pT23 a.1), .agg (pT23 a.2)]
def eB10 (r : Bool) : V := .b r
theorem inj10 (a a' : T23 × T23) (h : eA10 a = eA10 a') : a = a' := by
  obtain ⟨⟨i197, i198, i199, i200, i201, i202, i203⟩, ⟨i204, i205, i206, i207, i208, i209, i210⟩⟩ := a
  obtain ⟨⟨i211, i212, i213, i214, i215, i216, i217⟩, ⟨i218, i219, i220, i221, i222, i223, i224⟩⟩ := a'
  simp only [eA10, pT23, List.cons.injEq, V.i.injEq, V.b.injEq, V.f.injEq, V.str.injEq, V.sl.injEq, V.agg.injEq, V.cptr.injEq, true_and, and_true] at h
  simp_all [ri ci_i64_inj]
noncomputable def F10 : List V → Option V := tells (fun a => g10 a.1 a.2) eA10 eB10
/- loop.example/g01229/laws.eqSeason -/
theorem ok10 : Tells Try.prog 10 F10 := by
 refine Tells.go 42 Try.func10 rfl rfl rfl (by kernel_rfl) (fun _ => rfl) ?_
 rintro ⟨a, b⟩ r h
 simp only [eA10, en, Nat.reduceAdd]
 replace h : (g10 a b).bind some = some r := bindS h
 rw [g10] at h
 have hC : CEnv.Ok Try.prog [(32, F32c)] := ⟨.inl ok32, trivial⟩
 refine VW.seq (VW.rA (tm 42 [(2, .ptr 0 0 0), (3, .ptr 1 0 0)]) [some (7, [(pT23 a)]), some (7, [(pT23 b)])] [] hC (VW.seq (VW.seq ?_)))
 obtain ⟨r1, q2, h⟩ := bindE h
 have c2 := tl32 q2
 refine VW.rA (tm 42 [(2, .ptr 0 0 0), (3, .ptr 1 0 0), (10, .b (!r1))]) [some (7, [(pT23 a)]), some (7, [(pT23 b)])] [] hC (VW.condI h (fun h => ?_) (fun h => ?_)) (h := by simp -implicitDefEqProofs [c2])
 · refine VW.seq (VW.rA (tm 42 [(4, .b false)]) [some (7, [(pT23 a)]), some (7, [(pT23 b)])] [] hC ?_)
   obtain rfl := leafS h
   exact VW.ret (VRet.fin (by simp [eB10]))
 refine VW.skip (VW.seq (VW.seq ?_))
 obtain ⟨r4, q5, h⟩ := bindE h
 have c5 := tl32 q5
 refine VW.rA (tm 42 [(2, .ptr 0 0 0), (3, .ptr 1 0 0), (16, .b (!r4))]) [some (7, [(pT23 a)]), some (7, [(pT23 b)])] [] hC (VW.condI h (fun h => ?_) (fun h => ?_)) (h := by simp -implicitDefEqProofs [c5])
 · refine VW.seq (VW.rA (tm 42 [(4, .b false)]) [some (7, [(pT23 a)]), some (7, [(pT23 b)])] [] hC ?_)
   obtain rfl := leafS h
   exact VW.ret (VRet.fin (by simp [eB10]))
 refine VW.skip (VW.seq (VW.seq (VW.rA (tm 42 [(2, .ptr 0 0 0), (3, .ptr 1 0 0), (21, .b (!eqI a.most_ b.most_))]) [some (7, [(pT23 a)]), some (7, [(pT23 b)])] [] hC (VW.condI h (fun h => ?_) (fun h => ?_)))))
 · refine VW.seq (VW.rA (tm 42 [(4, .b false)]) [some (7, [(pT23 a)]), some (7, [(pT23 b)])] [] hC ?_)
   obtain rfl := leafS h
   exact VW.ret (VRet.fin (by simp [eB10]))
 refine VW.skip (VW.seq (VW.seq (VW.rA (tm 42 [(2, .ptr 0 0 0), (3, .ptr 1 0 0), (26, .b (!eqI a.yield_ b.yield_))]) [some (7, [(pT23 a)]), some (7, [(pT23 b)])] [] hC (VW.condI h (fun h => ?_) (fun h => ?_)))))
 · refine VW.seq (VW.rA (tm 42 [(4, .b false)]) [some (7, [(pT23 a)]), some (7, [(pT23 b)])] [] hC ?_)
   obtain rfl := leafS h
   exact VW.ret (VRet.fin (by simp [eB10]))
 refine VW.skip (VW.seq (VW.seq (VW.rA (tm 42 [(2, .ptr 0 0 0), (3, .ptr 1 0 0), (31, .b (!eqI a.store_ b.store_))]) [some (7, [(pT23 a)]), some (7, [(pT23 b)])] [] hC (VW.condI h (fun h => ?_) (fun h => ?_)))))
 · refine VW.seq (VW.rA (tm 42 [(4, .b false)]) [some (7, [(pT23 a)]), some (7, [(pT23 b)])] [] hC ?_)
   obtain rfl := leafS h
   exact VW.ret (VRet.fin (by simp [eB10]))
 refine VW.skip (VW.seq (VW.seq (VW.rA (tm 42 [(2, .ptr 0 0 0), (3, .ptr 1 0 0), (36, .b (!eqI a.first_ b.first_))]) [some (7, [(pT23 a)]), some (7, [(pT23 b)])] [] hC (VW.condI h (fun h => ?_) (fun h => ?_)))))
 · refine VW.seq (VW.rA (tm 42 [(4, .b false)]) [some (7, [(pT23 a)]), some (7, [(pT23 b)])] [] hC ?_)
   obtain rfl := leafS h
   exact VW.ret (VRet.fin (by simp [eB10]))
 refine VW.skip (VW.seq (VW.seq (VW.rA (tm 42 [(41, .b (!eqI a.loss_ b.loss_))]) [some (7, [(pT23 a)]), some (7, [(pT23 b)])] [] hC (VW.condI h (fun h => ?_) (fun h => ?_)))))
 · refine VW.seq (VW.rA (tm 42 [(4, .b false)]) [some (7, [(pT23 a)]), some (7, [(pT23 b)])] [] hC ?_)
   obtain rfl := leafS h
   exact VW.ret (VRet.fin (by simp [eB10]))
 refine VW.skip (VW.seq (VW.rA (tm 42 [(4, .b true)]) [some (7, [(pT23 a)]), some (7, [(pT23 b)])] [] hC ?_))
 obtain rfl := leafS h
 exact VW.ret (VRet.fin (by simp [eB10]))
theorem tl10 {a : T23} {b : T23} {r : Bool} (h : g10 a b = some r) : F10 [.agg [.sl 1 (rows ci_i64 a.need_), .sl 1 (rows ci_i64 a.price_), .i .i64 a.most_, .i .i64 a.yield_, .i .i64 a.store_, .i .i64 a.first_, .i .i64 a.loss_], .agg [.sl 1 (rows ci_i64 b.need_), .sl 1 (rows ci_i64 b.price_), .i .i64 b.most_, .i .i64 b.yield_, .i .i64 b.store_, .i .i64 b.first_, .i .i64 b.loss_]] = some (.b r) := tells_eq inj10 (a := (a, b)) h
noncomputable def g34_j1 (k_17 : Int) : Option (Int) :=
some k_17
noncomputable def g34_L1 (a : List Int) : (Int × Int) → Option ((Int × Int) ⊕ ((Int) ⊕ (Int)))
| (k_28, i_29) =>
if ltI i_29 (a.length : Int) = true then
(idx a i_29).bind fun e31 =>
if (!eqI e31 k_28) = true then
some (.inr (.inr (-1)))
else
some (.inl (aI .i64 k_28 1, aI .i64 i_29 1))
else
some (.inr (.inl k_28))
noncomputable def g34 (a : List Int) (k : Int) : Option (Int) :=
(loopO (g34_L1 a) (k, 0)).bind fun w => match w with
| .inl y => g34_j1 y
| .inr r => some r
def eA34 (a : (List Int) × Int) : List V := [.sl 1 (rows ci_i64 a.1), .i .i64 a.2]
def eB34 (r : Int) : V := .i .i64 r
theorem inj34 (a a' : (List Int) × Int) (h : eA34 a = eA34 a') : a = a' := by
  obtain ⟨i225, i226⟩ := a
  obtain ⟨i227, i228⟩ := a'
  simp only [eA34, List.cons.injEq, V.i.injEq, V.b.injEq, V.f.injEq, V.str.injEq, V.sl.injEq, V.agg.injEq, V.cptr.injEq, true_and, and_true] at h
  simp_all [ri ci_i64_inj]
noncomputable def F34 : List V → Option V := tells (fun a => g34 a.1 a.2) eA34 eB34
/- loop.example/g01229/laws.heldInt64S -/
theorem ok34 : Tells Try.prog 34 F34 := by
 refine Tells.go 21 Try.func34 rfl rfl rfl (by kernel_rfl) (fun _ => rfl) ?_
 rintro ⟨a, k⟩ r h
 simp only [eA34, en, Nat.reduceAdd]
 replace h : (g34 a k).bind some = some r := bindS h
 rw [g34] at h
 have hC : CEnv.Ok Try.prog [] := trivial
 refine VW.seq (VW.rA (tm 21 [(0, .sl 1 (rows ci_i64 a)), (1, .i .i64 k)]) [] [] hC (VW.join (fun (v : Int) => (⟨(tm 21 [(1, .i .i64 v)]), [], []⟩ : VS)) (fun v => (g34_j1 (v)).bind some = some r) ?_ ?_))
 · refine VW.seq (VW.rA (tm 21 [(0, .sl 1 (rows ci_i64 a)), (1, .i .i64 k), (5, .i .i64 0)]) [] [] hC (VW.block ?_))
   obtain ⟨w_1, hw_1, h⟩ := bindE h
   refine VW.loopO (fun (x : Int × Int) => (⟨(tm 21 [(0, .sl 1 (rows ci_i64 a)), (1, .i .i64 x.1), (5, .i .i64 x.2)]), [], []⟩ : VS)) hw_1 (Ent.tu 0) ?_
   rintro n_1 ⟨k_28, i_29⟩ h1
   rw [g34_L1] at h1
   refine VW.seq (VW.seq (VW.rA (tm 21 [(0, .sl 1 (rows ci_i64 a)), (1, .i .i64 k_28), (5, .i .i64 i_29), (9, .b (ltI i_29 (a.length : Int)))]) [] [] hC (VW.condJ h1 (fun h1 => ?_) (fun h1 => ?_))))
   · refine VW.exit ?_
     have e_ := leafR h1
     subst w_1
     exact vnext k_28 h (Ent.tu 0)
   refine VW.skip (VW.seq (VW.block (VW.seq (VW.seq ?_))))
   obtain ⟨e31, ⟨f32a, f32b, f32c, f32d⟩, h1⟩ := bindI h1
   refine VW.rA (tm 21 [(0, .sl 1 (rows ci_i64 a)), (1, .i .i64 k_28), (5, .i .i64 i_29), (17, .b (!eqI e31 k_28))]) [] [] hC (VW.condI h1 (fun h1 => ?_) (fun h1 => ?_)) (h := by simp -implicitDefEqProofs [f32a, f32b, f32c, f32d])
   · refine VW.seq (VW.rA (tm 21 [(4, .i .i64 (-1))]) [] [] hC ?_)
     have e_ := leafR h1
     subst w_1
     obtain rfl := leafS h
     exact VW.ret (VRet.fin (by simp [eB34]))
   exact VW.skip (VW.rA (tm 21 [(0, .sl 1 (rows ci_i64 a)), (1, .i .i64 (aI .i64 k_28 1)), (5, .i .i64 i_29)]) [] [] hC (VW.rA (tm 21 [(0, .sl 1 (rows ci_i64 a)), (1, .i .i64 (aI .i64 k_28 1)), (5, .i .i64 (aI .i64 i_29 1))]) [] [] hC (vnext (aI .i64 k_28 1, aI .i64 i_29 1) (leafL h1) (Ent.tu 0))))
 rintro k_17 h
 replace h : (g34_j1 k_17).bind _ = _ := h
 rw [g34_j1] at h
 refine VW.seq (VW.rA (tm 21 [(4, .i .i64 k_17)]) [] [] hC ?_)
 obtain rfl := leafS h
 exact VW.ret (VRet.fin (by simp [eB34]))
theorem tl34 {a : List Int} {k : Int} {r : Int} (h : g34 a k = some r) : F34 [.sl 1 (rows ci_i64 a), .i .i64 k] = some (.i .i64 r) := tells_eq inj34 (a := (a, k)) h
noncomputable def g13_j1 (k_23 : Int) : Option (Int) :=
some k_23
noncomputable def g13_L1 (a : List (List Int)) : (Int × Int) → Option ((Int × Int) ⊕ ((Int) ⊕ (Int)))
| (k_38, i_39) =>
if ltI i_39 (a.length : Int) = true then
(idx a i_39).bind fun e41 =>
(g34 e41 k_38).bind fun r43 =>
if ltI r43 0 = true then
some (.inr (.inr (-1)))
else
some (.inl (r43, aI .i64 i_39 1))
else
some (.inr (.inl k_38))
noncomputable def g13 (a : List (List Int)) (k : Int) : Option (Int) :=
(loopO (g13_L1 a) (k, 0)).bind fun w => match w with
| .inl y => g13_j1 y
| .inr r => some r
def eA13 (a : (List (List Int)) × Int) : List V := [.sl 1 (rows cl_ci_i64 a.1), .i .i64 a.2]
def eB13 (r : Int) : V := .i .i64 r
theorem inj13 (a a' : (List (List Int)) × Int) (h : eA13 a = eA13 a') : a = a' := by
  obtain ⟨i229, i230⟩ := a
  obtain ⟨i231, i232⟩ := a'
  simp only [eA13, List.cons.injEq, V.i.injEq, V.b.injEq, V.f.injEq, V.str.injEq, V.sl.injEq, V.agg.injEq, V.cptr.injEq, true_and, and_true] at h
  simp_all [ri cl_ci_i64_inj]
noncomputable def F13 : List V → Option V := tells (fun a => g13 a.1 a.2) eA13 eB13
/- loop.example/g01229/laws.heldInt64SS -/
theorem ok13 : Tells Try.prog 13 F13 := by
 refine Tells.go 21 Try.func13 rfl rfl rfl (by kernel_rfl) (fun _ => rfl) ?_
 rintro ⟨a, k⟩ r h
 simp only [eA13, en, Nat.reduceAdd]
 replace h : (g13 a k).bind some = some r := bindS h
 rw [g13] at h
 have hC : CEnv.Ok Try.prog [(34, F34)] := ⟨.inl ok34, trivial⟩
 refine VW.seq (VW.rA (tm 21 [(0, .sl 1 (rows cl_ci_i64 a)), (1, .i .i64 k)]) [] [] hC (VW.join (fun (v : Int) => (⟨(tm 21 [(1, .i .i64 v)]), [], []⟩ : VS)) (fun v => (g13_j1 (v)).bind some = some r) ?_ ?_))
 · refine VW.seq (VW.rA (tm 21 [(0, .sl 1 (rows cl_ci_i64 a)), (1, .i .i64 k), (5, .i .i64 0)]) [] [] hC (VW.block ?_))
   obtain ⟨w_1, hw_1, h⟩ := bindE h
   refine VW.loopO (fun (x : Int × Int) => (⟨(tm 21 [(0, .sl 1 (rows cl_ci_i64 a)), (1, .i .i64 x.1), (5, .i .i64 x.2)]), [], []⟩ : VS)) hw_1 (Ent.tu 0) ?_
   rintro n_1 ⟨k_38, i_39⟩ h1
   rw [g13_L1] at h1
   refine VW.seq (VW.seq (VW.rA (tm 21 [(0, .sl 1 (rows cl_ci_i64 a)), (1, .i .i64 k_38), (5, .i .i64 i_39), (9, .b (ltI i_39 (a.length : Int)))]) [] [] hC (VW.condJ h1 (fun h1 => ?_) (fun h1 => ?_))))
   · refine VW.exit ?_
     have e_ := leafR h1
     subst w_1
     exact vnext k_38 h (Ent.tu 0)
   refine VW.skip (VW.seq (VW.block (VW.seq ?_)))
   obtain ⟨e41, ⟨f42a, f42b, f42c, f42d⟩, h1⟩ := bindI h1
   obtain ⟨r43, q44, h1⟩ := bindE h1
   have c44 := tl34 q44
   refine VW.rA (tm 21 [(0, .sl 1 (rows cl_ci_i64 a)), (1, .i .i64 r43), (5, .i .i64 i_39)]) [] [] hC (VW.seq (VW.rA (tm 21 [(0, .sl 1 (rows cl_ci_i64 a)), (1, .i .i64 r43), (5, .i .i64 i_39), (19, .b (ltI r43 0))]) [] [] hC (VW.condI h1 (fun h1 => ?_) (fun h1 => ?_)))) (h := by simp -implicitDefEqProofs [f42a, f42b, f42c, f42d, c44])
   · refine VW.seq (VW.rA (tm 21 [(4, .i .i64 (-1))]) [] [] hC ?_)
     have e_ := leafR h1
     subst w_1
     obtain rfl := leafS h
     exact VW.ret (VRet.fin (by simp [eB13]))
   exact VW.skip (VW.rA (tm 21 [(0, .sl 1 (rows cl_ci_i64 a)), (1, .i .i64 r43), (5, .i .i64 (aI .i64 i_39 1))]) [] [] hC (vnext (r43, aI .i64 i_39 1) (leafL h1) (Ent.tu 0)))
 rintro k_23 h
 replace h : (g13_j1 k_23).bind _ = _ := h
 rw [g13_j1] at h
 refine VW.seq (VW.rA (tm 21 [(4, .i .i64 k_23)]) [] [] hC ?_)
 obtain rfl := leafS h
 exact VW.ret (VRet.fin (by simp [eB13]))
theorem tl13 {a : List (List Int)} {k : Int} {r : Int} (h : g13 a k = some r) : F13 [.sl 1 (rows cl_ci_i64 a), .i .i64 k] = some (.i .i64 r) := tells_eq inj13 (a := (a, k)) h
noncomputable def g3_j3 (aS : T23) (r6 : (List (List Int)) × Int) (k_873 : Int) (l874 : List (List Int)) : Option (Bool) :=
(g13 l874 1).bind fun r875 =>
if ltI r875 0 = true then
some false
else
if (!eqI r875 k_873) = true then
some false
else
(g7 aS).bind fun r879 =>
(g8 r879).bind fun r881 =>
(g9 r881.1 r6.1).bind fun r883 =>
if ((!r883) || (!eqI r881.2 r6.2)) = true then
some false
else
(g13 l874 1).bind fun r886 =>
if ltI r886 0 = true then
some false
else
if (!eqI r886 k_873) = true then
some false
else
some true
noncomputable def g3_j4 (i_1028 : Int) (l1029 : List (List Int)) (k_1080 : Int) (l1081 : List Int) : Option ((Int × Int × (List (List Int))) ⊕ (Int × (List (List Int)))) :=
some (.inl (k_1080, aI .i64 i_1028 1, (l1029.set i_1028.toNat l1081)))
noncomputable def g3_L2 : (Int × Int × (List Int)) → Option ((Int × Int × (List Int)) ⊕ (Int × (List Int)))
| (k_1091, i_1092, l1093) =>
if ltI i_1092 (l1093.length : Int) = true then
(idx l1093 i_1092).bind fun e1095 =>
some (.inl (aI .i64 k_1091 1, aI .i64 i_1092 1, (l1093.set i_1092.toNat k_1091)))
else
some (.inr (k_1091, l1093))
noncomputable def g3_L1 : (Int × Int × (List (List Int))) → Option ((Int × Int × (List (List Int))) ⊕ (Int × (List (List Int))))
| (k_1027, i_1028, l1029) =>
if ltI i_1028 (l1029.length : Int) = true then
(idx l1029 i_1028).bind fun e1031 =>
(loopO g3_L2 (k_1027, 0, e1031)).bind fun w => g3_j4 i_1028 l1029 w.1 w.2
else
some (.inr (k_1027, l1029))
noncomputable def g3_j2 (r10 : (List (List Int)) × Int) (r6 : (List (List Int)) × Int) (aS : T23) (k_244 : Int) (l245 : List Int) : Option (Bool) :=
(if ltI k_244 0 = true then some true else (g9 r10.1 r6.1).bind fun r246 => some (!r246)).bind fun w248 =>
if (w248 || (!eqI r10.2 r6.2)) = true then
some false
else
(loopO g3_L1 (1, 0, r10.1)).bind fun w => g3_j3 aS r6 w.1 w.2
noncomputable def g3_L3 : (Int × Int × (List Int)) → Option ((Int × Int × (List Int)) ⊕ (Int × (List Int)))
| (k_1108, i_1109, l1110) =>
if ltI i_1109 (l1110.length : Int) = true then
(idx l1110 i_1109).bind fun e1112 =>
some (.inl (aI .i64 k_1108 1, aI .i64 i_1109 1, (l1110.set i_1109.toNat k_1108)))
else
some (.inr (k_1108, l1110))
noncomputable def g3_j1 (r8 : T23) (r10 : (List (List Int)) × Int) (r6 : (List (List Int)) × Int) (aS : T23) (k_195 : Int) (l196 : List Int) : Option (Bool) :=
(loopO g3_L3 (k_195, 0, r8.price_)).bind fun w => g3_j2 r10 r6 aS w.1 w.2
noncomputable def g3_L4 : (Int × Int × (List Int)) → Option ((Int × Int × (List Int)) ⊕ (Int × (List Int)))
| (k_1123, i_1124, l1125) =>
if ltI i_1124 (l1125.length : Int) = true then
(idx l1125 i_1124).bind fun e1127 =>
some (.inl (aI .i64 k_1123 1, aI .i64 i_1124 1, (l1125.set i_1124.toNat k_1123)))
else
some (.inr (k_1123, l1125))
noncomputable def g3 (aS : T23) : Option (Bool) :=
(g5 aS 1048576).bind fun r1 =>
if ltI r1 0 = true then
some true
else
(g7 aS).bind fun r4 =>
(g6 r4).bind fun r6 =>
(g7 aS).bind fun r8 =>
(g8 r8).bind fun r10 =>
(g9 r10.1 r6.1).bind fun r12 =>
if ((!r12) || (!eqI r10.2 r6.2)) = true then
some false
else
(g7 aS).bind fun r15 =>
(g10 r8 r15).bind fun r17 =>
if (!r17) = true then
some false
else
(loopO g3_L4 (1, 0, r8.need_)).bind fun w => g3_j1 r8 r10 r6 aS w.1 w.2
def eA3 (a : T23) : List V := [.agg (pT23 a)]
def eB3 (r : Bool) : V := .b r
theorem inj3 (a a' : T23) (h : eA3 a = eA3 a') : a = a' := by
  obtain ⟨i233, i234, i235, i236, i237, i238, i239⟩ := a
  obtain ⟨i240, i241, i242, i243, i244, i245, i246⟩ := a'
  simp only [eA3, pT23, List.cons.injEq, V.i.injEq, V.b.injEq, V.f.injEq, V.str.injEq, V.sl.injEq, V.agg.injEq, V.cptr.injEq, true_and, and_true] at h
  simp_all [ri ci_i64_inj]
noncomputable def F3 : List V → Option V := tells (fun a => g3 a) eA3 eB3
/- loop.example/g01229/laws.FnExactValuesOf -/
theorem ok3 : Tells Try.prog 3 F3 := by
 refine Tells.go 96 Try.func3 rfl rfl rfl (by kernel_rfl) (fun _ => rfl) ?_
 rintro aS r h
 simp only [eA3, en, Nat.reduceAdd]
 replace h : (g3 aS).bind some = some r := bindS h
 rw [g3] at h
 have hC : CEnv.Ok Try.prog [(5, F5), (6, F6), (7, F7), (8, F8), (9, F9), (10, F10), (13, F13)] := ⟨.inl ok5, .inl ok6, .inl ok7, .inl ok8, .inl ok9, .inl ok10, .inl ok13, trivial⟩
 refine VW.seq (VW.rA (tm 96 [(1, .ptr 0 0 0)]) [some (7, [(pT23 aS)])] [] hC (VW.retire (n := 7) (d := 1) (cs := [.sl 1 (rows ci_i64 aS.need_), .sl 1 (rows ci_i64 aS.price_), .i .i64 aS.most_, .i .i64 aS.yield_, .i .i64 aS.store_, .i .i64 aS.first_, .i .i64 aS.loss_]) (fun u0 => (tm 96 [])) (fun u0 => (tm 96 [(1, .s u0)])) (by simp) (by simp [frzV]) (fun u0 => by simp [fgt]) (fun u0 => tm_all rfl (by simp [anyV])) (fun u0 => by simp) (fun N w0 u0 hK => (VWf.sq (VWf.of (VW.rA (tm 96 [(1, .s u0), (3, .i .i64 1048576)]) [none] [] hC (VWf.sq ?_)))))))
 obtain ⟨r1, q2, h⟩ := bindE h
 have c2 : F5 [.agg (pT23 aS), .i .i64 1048576] = some (.i .i64 r1) := tells_eq inj5 (a := (aS, 1048576)) q2
 try simp only [pT23] at c2
 refine VWf.rK (d := 1) (tm 96 [(3, .i .i64 r1)]) [none] [] (tm 96 [(1, .s u0), (3, .i .i64 r1)]) hC hK (VWf.sq (VWf.sq (VWf.of (VW.rA (tm 96 [(1, .s u0), (18, .b (ltI r1 0))]) [none] [] hC (VWf.of (VW.condI h (fun h => ?_) (fun h => ?_))))))) (by simp) (by kernel_rfl) (by simp) (by simp -implicitDefEqProofs [c2]) (by kernel_rfl)
 · refine VW.seq (VW.rA (tm 96 [(2, .b true)]) [none] [] hC ?_)
   obtain rfl := leafS h
   exact VW.ret (VRet.fin (by simp [eB3]))
 refine VW.skip (VWf.sq ?_)
 obtain ⟨r4, q5, h⟩ := bindE h
 have c5 : F7 [.agg (pT23 aS)] = some (.agg [.own 1 (rows ci_i64 r4.need_), .own 1 (rows ci_i64 r4.price_), .i .i64 r4.most_, .i .i64 r4.yield_, .i .i64 r4.store_, .i .i64 r4.first_, .i .i64 r4.loss_]) := tells_eq inj7 (a := aS) q5
 try simp only [pT23] at c5
 obtain ⟨r6, q7, h⟩ := bindE h
 have c7 := tl6 q7
 try simp only [pT23] at c7
 refine VWf.rK (d := 1) (tm 96 [(4, .ref 3 0 r6.1.length), (5, .i .i64 r6.2)]) [none, some (1, rows ci_i64 r4.need_), some (1, rows ci_i64 r4.price_), some (1, rows cl_ci_i64o r6.1)] [] (tm 96 [(1, .s u0), (4, .ref 3 0 r6.1.length), (5, .i .i64 r6.2)]) hC hK (VWf.sq ?_) (by simp) (by kernel_rfl) (by simp) (by simp -implicitDefEqProofs [c5, c7]) (by kernel_rfl)
 obtain ⟨r8, q9, h⟩ := bindE h
 have c9 : F7 [.agg (pT23 aS)] = some (.agg [.own 1 (rows ci_i64 r8.need_), .own 1 (rows ci_i64 r8.price_), .i .i64 r8.most_, .i .i64 r8.yield_, .i .i64 r8.store_, .i .i64 r8.first_, .i .i64 r8.loss_]) := tells_eq inj7 (a := aS) q9
 try simp only [pT23] at c9
 refine VWf.rK (d := 1) (tm 96 [(4, .ref 3 0 r6.1.length), (5, .i .i64 r6.2), (6, .ptr 6 0 0)]) [none, some (1, rows ci_i64 r4.need_), some (1, rows ci_i64 r4.price_), some (1, rows cl_ci_i64o r6.1), some (1, rows ci_i64 r8.need_), some (1, rows ci_i64 r8.price_), some (7, [[.ref 4 0 r8.need_.length, .ref 5 0 r8.price_.length, .i .i64 r8.most_, .i .i64 r8.yield_, .i .i64 r8.store_, .i .i64 r8.first_, .i .i64 r8.loss_]])] [] (tm 96 [(1, .s u0), (4, .ref 3 0 r6.1.length), (5, .i .i64 r6.2), (6, .ptr 6 0 0)]) hC hK (VWf.sq (VWf.of ?_)) (by simp) (by kernel_rfl) (by simp) (by simp -implicitDefEqProofs [c9]) (by kernel_rfl)
 obtain ⟨r10, q11, h⟩ := bindE h
 have c11 := tl8 q11
 refine VW.rA (tm 96 [(1, .s u0), (4, .ref 3 0 r6.1.length), (5, .i .i64 r6.2), (6, .ptr 6 0 0), (7, .ref 7 0 r10.1.length), (8, .i .i64 r10.2)]) [none, some (1, rows ci_i64 r4.need_), some (1, rows ci_i64 r4.price_), some (1, rows cl_ci_i64o r6.1), some (1, rows ci_i64 r8.need_), some (1, rows ci_i64 r8.price_), some (7, [[.ref 4 0 r8.need_.length, .ref 5 0 r8.price_.length, .i .i64 r8.most_, .i .i64 r8.yield_, .i .i64 r8.store_, .i .i64 r8.first_, .i .i64 r8.loss_]]), some (1, rows cl_ci_i64o r10.1)] [] hC (VWf.sq (VWf.sq (VWf.of ?_))) (h := by simp -implicitDefEqProofs [c11])
 obtain ⟨r12, q13, h⟩ := bindE h
 have c13 := tl9 q13
 refine VW.rA (tm 96 [(1, .s u0), (4, .ref 3 0 r6.1.length), (5, .i .i64 r6.2), (6, .ptr 6 0 0), (7, .ref 7 0 r10.1.length), (8, .i .i64 r10.2), (40, .b ((!r12) || (!eqI r10.2 r6.2)))]) [none, some (1, rows ci_i64 r4.need_), some (1, rows ci_i64 r4.price_), some (1, rows cl_ci_i64o r6.1), some (1, rows ci_i64 r8.need_), some (1, rows ci_i64 r8.price_), some (7, [[.ref 4 0 r8.need_.length, .ref 5 0 r8.price_.length, .i .i64 r8.most_, .i .i64 r8.yield_, .i .i64 r8.store_, .i .i64 r8.first_, .i .i64 r8.loss_]]), some (1, rows cl_ci_i64o r10.1)] [] hC (VWf.of (VW.condI h (fun h => ?_) (fun h => ?_))) (h := by simp -implicitDefEqProofs [c13])
 · refine VW.seq (VW.rA (tm 96 [(2, .b false)]) [none, some (1, rows ci_i64 r4.need_), some (1, rows ci_i64 r4.price_), some (1, rows cl_ci_i64o r6.1), some (1, rows ci_i64 r8.need_), some (1, rows ci_i64 r8.price_), some (7, [[.ref 4 0 r8.need_.length, .ref 5 0 r8.price_.length, .i .i64 r8.most_, .i .i64 r8.yield_, .i .i64 r8.store_, .i .i64 r8.first_, .i .i64 r8.loss_]]), some (1, rows cl_ci_i64o r10.1)] [] hC ?_)
   obtain rfl := leafS h
   exact VW.ret (VRet.fin (by simp [eB3]))
 refine VW.skip (VWf.sq (VWf.sq ?_))
 obtain ⟨r15, q16, h⟩ := bindE h
 have c16 : F7 [.agg (pT23 aS)] = some (.agg [.own 1 (rows ci_i64 r15.need_), .own 1 (rows ci_i64 r15.price_), .i .i64 r15.most_, .i .i64 r15.yield_, .i .i64 r15.store_, .i .i64 r15.first_, .i .i64 r15.loss_]) := tells_eq inj7 (a := aS) q16
 try simp only [pT23] at c16
 obtain ⟨r17, q18, h⟩ := bindE h
 have c18 := tl10 q18
 try simp only [pT23] at c18
 refine VWf.rKD (d := 1) [[0, 1, 2, 3, 4], [1, 0, 2, 3, 4], [1, 2, 0, 3, 4]] (tm 96 [(4, .ref 3 0 r6.1.length), (5, .i .i64 r6.2), (6, .ptr 6 0 0), (7, .ref 7 0 r10.1.length), (8, .i .i64 r10.2), (45, .b (!r17))]) [none, some (1, rows ci_i64 r4.need_), some (1, rows ci_i64 r4.price_), some (1, rows cl_ci_i64o r6.1), some (1, rows ci_i64 r8.need_), some (1, rows ci_i64 r8.price_), some (7, [[.ref 4 0 r8.need_.length, .ref 5 0 r8.price_.length, .i .i64 r8.most_, .i .i64 r8.yield_, .i .i64 r8.store_, .i .i64 r8.first_, .i .i64 r8.loss_]]), some (1, rows cl_ci_i64o r10.1), some (1, rows ci_i64 r15.need_), some (1, rows ci_i64 r15.price_)] [] (tm 96 [(1, .s u0), (4, .ref 3 0 r6.1.length), (5, .i .i64 r6.2), (6, .ptr 6 0 0), (7, .ref 7 0 r10.1.length), (8, .i .i64 r10.2), (45, .b (!r17))]) hC mixed hK (VWf.of (VW.condI h (fun h => ?_) (fun h => ?_))) (by simp) (by kernel_rfl) (by simp) (by kernel_rfl) (by simp -implicitDefEqProofs [c16, c18])
 · refine VW.seq (VW.rA (tm 96 [(2, .b false)]) [none, some (1, rows ci_i64 r4.need_), some (1, rows ci_i64 r4.price_), some (1, rows cl_ci_i64o r6.1), some (1, rows ci_i64 r8.need_), some (1, rows ci_i64 r8.price_), some (7, [[.ref 4 0 r8.need_.length, .ref 5 0 r8.price_.length, .i .i64 r8.most_, .i .i64 r8.yield_, .i .i64 r8.store_, .i .i64 r8.first_, .i .i64 r8.loss_]]), some (1, rows cl_ci_i64o r10.1), some (1, rows ci_i64 r15.need_), some (1, rows ci_i64 r15.price_)] [] hC ?_)
   obtain rfl := leafS h
   exact VW.ret (VRet.fin (by simp [eB3]))
 refine VW.skip (VWf.sq (VWf.of (VW.rA (tm 96 [(1, .s u0), (4, .ref 3 0 r6.1.length), (5, .i .i64 r6.2), (6, .ptr 6 0 0), (7, .ref 7 0 r10.1.length), (8, .i .i64 r10.2), (9, .i .i64 1)]) [none, some (1, rows ci_i64 r4.need_), some (1, rows ci_i64 r4.price_), some (1, rows cl_ci_i64o r6.1), some (1, rows ci_i64 r8.need_), some (1, rows ci_i64 r8.price_), some (7, [[.ref 4 0 r8.need_.length, .ref 5 0 r8.price_.length, .i .i64 r8.most_, .i .i64 r8.yield_, .i .i64 r8.store_, .i .i64 r8.first_, .i .i64 r8.loss_]]), some (1, rows cl_ci_i64o r10.1), some (1, rows ci_i64 r15.need_), some (1, rows ci_i64 r15.price_)] [] hC (VWf.sq (VWf.of (VW.inlS (VL.inlP 2 (tm 96 [(1, .s u0), (4, .ref 3 0 r6.1.length), (5, .i .i64 r6.2), (7, .ref 7 0 r10.1.length), (8, .i .i64 r10.2), (46, .agg [.ref 4 0 r8.need_.length, .ref 5 0 r8.price_.length, .i .i64 r8.most_, .i .i64 r8.yield_, .i .i64 r8.store_, .i .i64 r8.first_, .i .i64 r8.loss_]), (47, .i .i64 1)]) [none, some (1, rows ci_i64 r4.need_), some (1, rows ci_i64 r4.price_), some (1, rows cl_ci_i64o r6.1), some (1, rows ci_i64 r8.need_), some (1, rows ci_i64 r8.price_), some (7, [[.ref 4 0 r8.need_.length, .ref 5 0 r8.price_.length, .i .i64 r8.most_, .i .i64 r8.yield_, .i .i64 r8.store_, .i .i64 r8.first_, .i .i64 r8.loss_]]), some (1, rows cl_ci_i64o r10.1), some (1, rows ci_i64 r15.need_), some (1, rows ci_i64 r15.price_)] [] rfl hC (by kernel_rfl) (by simp -implicitDefEqProofs) rfl rfl Try.func11 rfl rfl rfl rfl (tm_length) (VW.ent (s := (⟨(tm 14 [(0, .agg [.ref 4 0 r8.need_.length, .ref 5 0 r8.price_.length, .i .i64 r8.most_, .i .i64 r8.yield_, .i .i64 r8.store_, .i .i64 r8.first_, .i .i64 r8.loss_]), (1, .i .i64 1)]), [none, some (1, rows ci_i64 r4.need_), some (1, rows ci_i64 r4.price_), some (1, rows cl_ci_i64o r6.1), some (1, rows ci_i64 r8.need_), some (1, rows ci_i64 r8.price_), some (7, [[.ref 4 0 r8.need_.length, .ref 5 0 r8.price_.length, .i .i64 r8.most_, .i .i64 r8.yield_, .i .i64 r8.store_, .i .i64 r8.first_, .i .i64 r8.loss_]]), some (1, rows cl_ci_i64o r10.1), some (1, rows ci_i64 r15.need_), some (1, rows ci_i64 r15.price_)], ((tm 96 [(1, .s u0), (4, .ref 3 0 r6.1.length), (5, .i .i64 r6.2), (7, .ref 7 0 r10.1.length), (8, .i .i64 r10.2), (46, .agg [.ref 4 0 r8.need_.length, .ref 5 0 r8.price_.length, .i .i64 r8.most_, .i .i64 r8.yield_, .i .i64 r8.store_, .i .i64 r8.first_, .i .i64 r8.loss_]), (47, .i .i64 1)]) ++ [])⟩ : VS)) (Ent.eqs (by rw [tm_init]; simp) rfl (by simp)) (VW.seq (VW.rA (tm 14 [(1, .i .i64 1), (2, .ptr 10 0 0)]) [none, some (1, rows ci_i64 r4.need_), some (1, rows ci_i64 r4.price_), some (1, rows cl_ci_i64o r6.1), some (1, rows ci_i64 r8.need_), some (1, rows ci_i64 r8.price_), some (7, [[.ref 4 0 r8.need_.length, .ref 5 0 r8.price_.length, .i .i64 r8.most_, .i .i64 r8.yield_, .i .i64 r8.store_, .i .i64 r8.first_, .i .i64 r8.loss_]]), some (1, rows cl_ci_i64o r10.1), some (1, rows ci_i64 r15.need_), some (1, rows ci_i64 r15.price_), some (7, [[.ref 4 0 r8.need_.length, .ref 5 0 r8.price_.length, .i .i64 r8.most_, .i .i64 r8.yield_, .i .i64 r8.store_, .i .i64 r8.first_, .i .i64 r8.loss_]])] ((tm 96 [(1, .s u0), (4, .ref 3 0 r6.1.length), (5, .i .i64 r6.2), (7, .ref 7 0 r10.1.length), (8, .i .i64 r10.2), (46, .agg [.ref 4 0 r8.need_.length, .ref 5 0 r8.price_.length, .i .i64 r8.most_, .i .i64 r8.yield_, .i .i64 r8.store_, .i .i64 r8.first_, .i .i64 r8.loss_]), (47, .i .i64 1)]) ++ []) hC (VW.seq (VW.inlS (VL.inlP 3 (tm 14 [(2, .ptr 10 0 0), (6, .ref 4 0 r8.need_.length), (7, .i .i64 1)]) [none, some (1, rows ci_i64 r4.need_), some (1, rows ci_i64 r4.price_), some (1, rows cl_ci_i64o r6.1), some (1, rows ci_i64 r8.need_), some (1, rows ci_i64 r8.price_), some (7, [[.ref 4 0 r8.need_.length, .ref 5 0 r8.price_.length, .i .i64 r8.most_, .i .i64 r8.yield_, .i .i64 r8.store_, .i .i64 r8.first_, .i .i64 r8.loss_]]), some (1, rows cl_ci_i64o r10.1), some (1, rows ci_i64 r15.need_), some (1, rows ci_i64 r15.price_), some (7, [[.ref 4 0 r8.need_.length, .ref 5 0 r8.price_.length, .i .i64 r8.most_, .i .i64 r8.yield_, .i .i64 r8.store_, .i .i64 r8.first_, .i .i64 r8.loss_]])] ((tm 96 [(1, .s u0), (4, .ref 3 0 r6.1.length), (5, .i .i64 r6.2), (7, .ref 7 0 r10.1.length), (8, .i .i64 r10.2), (46, .agg [.ref 4 0 r8.need_.length, .ref 5 0 r8.price_.length, .i .i64 r8.most_, .i .i64 r8.yield_, .i .i64 r8.store_, .i .i64 r8.first_, .i .i64 r8.loss_]), (47, .i .i64 1)]) ++ []) rfl hC (by kernel_rfl) (by simp -implicitDefEqProofs) rfl rfl Try.func33 rfl rfl rfl rfl (tm_length) (VW.ent (s := (⟨(tm 19 [(0, .ref 4 0 r8.need_.length), (1, .i .i64 1)]), [none, some (1, rows ci_i64 r4.need_), some (1, rows ci_i64 r4.price_), some (1, rows cl_ci_i64o r6.1), some (1, rows ci_i64 r8.need_), some (1, rows ci_i64 r8.price_), some (7, [[.ref 4 0 r8.need_.length, .ref 5 0 r8.price_.length, .i .i64 r8.most_, .i .i64 r8.yield_, .i .i64 r8.store_, .i .i64 r8.first_, .i .i64 r8.loss_]]), some (1, rows cl_ci_i64o r10.1), some (1, rows ci_i64 r15.need_), some (1, rows ci_i64 r15.price_), some (7, [[.ref 4 0 r8.need_.length, .ref 5 0 r8.price_.length, .i .i64 r8.most_, .i .i64 r8.yield_, .i .i64 r8.store_, .i .i64 r8.first_, .i .i64 r8.loss_]])], ((tm 14 [(2, .ptr 10 0 0), (6, .ref 4 0 r8.need_.length), (7, .i .i64 1)]) ++ ((tm 96 [(1, .s u0), (4, .ref 3 0 r6.1.length), (5, .i .i64 r6.2), (7, .ref 7 0 r10.1.length), (8, .i .i64 r10.2), (46, .agg [.ref 4 0 r8.need_.length, .ref 5 0 r8.price_.length, .i .i64 r8.most_, .i .i64 r8.yield_, .i .i64 r8.store_, .i .i64 r8.first_, .i .i64 r8.loss_]), (47, .i .i64 1)]) ++ []))⟩ : VS)) (Ent.eqs (by rw [tm_init]; simp) rfl (by simp)) (VW.seq (VW.rA (tm 19 [(0, .ref 4 0 r8.need_.length), (1, .i .i64 1)]) [none, some (1, rows ci_i64 r4.need_), some (1, rows ci_i64 r4.price_), some (1, rows cl_ci_i64o r6.1), some (1, rows ci_i64 r8.need_), some (1, rows ci_i64 r8.price_), some (7, [[.ref 4 0 r8.need_.length, .ref 5 0 r8.price_.length, .i .i64 r8.most_, .i .i64 r8.yield_, .i .i64 r8.store_, .i .i64 r8.first_, .i .i64 r8.loss_]]), some (1, rows cl_ci_i64o r10.1), some (1, rows ci_i64 r15.need_), some (1, rows ci_i64 r15.price_), some (7, [[.ref 4 0 r8.need_.length, .ref 5 0 r8.price_.length, .i .i64 r8.most_, .i .i64 r8.yield_, .i .i64 r8.store_, .i .i64 r8.first_, .i .i64 r8.loss_]])] ((tm 14 [(2, .ptr 10 0 0), (6, .ref 4 0 r8.need_.length), (7, .i .i64 1)]) ++ ((tm 96 [(1, .s u0), (4, .ref 3 0 r6.1.length), (5, .i .i64 r6.2), (7, .ref 7 0 r10.1.length), (8, .i .i64 r10.2), (46, .agg [.ref 4 0 r8.need_.length, .ref 5 0 r8.price_.length, .i .i64 r8.most_, .i .i64 r8.yield_, .i .i64 r8.store_, .i .i64 r8.first_, .i .i64 r8.loss_]), (47, .i .i64 1)]) ++ [])) hC (VW.join (fun (v : Int × (List Int)) => (⟨(tm 19 [(1, .i .i64 v.1)]), [none, some (1, rows ci_i64 r4.need_), some (1, rows ci_i64 r4.price_), some (1, rows cl_ci_i64o r6.1), some (1, rows ci_i64 v.2), some (1, rows ci_i64 r8.price_), some (7, [[.ref 4 0 v.2.length, .ref 5 0 r8.price_.length, .i .i64 r8.most_, .i .i64 r8.yield_, .i .i64 r8.store_, .i .i64 r8.first_, .i .i64 r8.loss_]]), some (1, rows cl_ci_i64o r10.1), some (1, rows ci_i64 r15.need_), some (1, rows ci_i64 r15.price_), some (7, [[.ref 4 0 v.2.length, .ref 5 0 r8.price_.length, .i .i64 r8.most_, .i .i64 r8.yield_, .i .i64 r8.store_, .i .i64 r8.first_, .i .i64 r8.loss_]])], ((tm 14 [(2, .ptr 10 0 0), (6, .ref 4 0 v.2.length), (7, .i .i64 1)]) ++ ((tm 96 [(1, .s u0), (4, .ref 3 0 r6.1.length), (5, .i .i64 r6.2), (7, .ref 7 0 r10.1.length), (8, .i .i64 r10.2), (46, .agg [.ref 4 0 v.2.length, .ref 5 0 r8.price_.length, .i .i64 r8.most_, .i .i64 r8.yield_, .i .i64 r8.store_, .i .i64 r8.first_, .i .i64 r8.loss_]), (47, .i .i64 1)]) ++ []))⟩ : VS)) (fun v => (g3_j1 r8 r10 r6 aS (v.1) (v.2)).bind some = some r) ?_ ?_)))))))))))))))))
 · refine VW.seq (VW.rA (tm 19 [(0, .ref 4 0 r8.need_.length), (1, .i .i64 1), (5, .i .i64 0)]) [none, some (1, rows ci_i64 r4.need_), some (1, rows ci_i64 r4.price_), some (1, rows cl_ci_i64o r6.1), some (1, rows ci_i64 r8.need_), some (1, rows ci_i64 r8.price_), some (7, [[.ref 4 0 r8.need_.length, .ref 5 0 r8.price_.length, .i .i64 r8.most_, .i .i64 r8.yield_, .i .i64 r8.store_, .i .i64 r8.first_, .i .i64 r8.loss_]]), some (1, rows cl_ci_i64o r10.1), some (1, rows ci_i64 r15.need_), some (1, rows ci_i64 r15.price_), some (7, [[.ref 4 0 r8.need_.length, .ref 5 0 r8.price_.length, .i .i64 r8.most_, .i .i64 r8.yield_, .i .i64 r8.store_, .i .i64 r8.first_, .i .i64 r8.loss_]])] ((tm 14 [(2, .ptr 10 0 0), (6, .ref 4 0 r8.need_.length), (7, .i .i64 1)]) ++ ((tm 96 [(1, .s u0), (4, .ref 3 0 r6.1.length), (5, .i .i64 r6.2), (7, .ref 7 0 r10.1.length), (8, .i .i64 r10.2), (46, .agg [.ref 4 0 r8.need_.length, .ref 5 0 r8.price_.length, .i .i64 r8.most_, .i .i64 r8.yield_, .i .i64 r8.store_, .i .i64 r8.first_, .i .i64 r8.loss_]), (47, .i .i64 1)]) ++ [])) hC (VW.block ?_))
   obtain ⟨w_4, hw_4, h⟩ := bindE h
   refine VW.loopO (fun (x : Int × Int × (List Int)) => (⟨(tm 19 [(0, .ref 4 0 x.2.2.length), (1, .i .i64 x.1), (5, .i .i64 x.2.1)]), [none, some (1, rows ci_i64 r4.need_), some (1, rows ci_i64 r4.price_), some (1, rows cl_ci_i64o r6.1), some (1, rows ci_i64 x.2.2), some (1, rows ci_i64 r8.price_), some (7, [[.ref 4 0 x.2.2.length, .ref 5 0 r8.price_.length, .i .i64 r8.most_, .i .i64 r8.yield_, .i .i64 r8.store_, .i .i64 r8.first_, .i .i64 r8.loss_]]), some (1, rows cl_ci_i64o r10.1), some (1, rows ci_i64 r15.need_), some (1, rows ci_i64 r15.price_), some (7, [[.ref 4 0 x.2.2.length, .ref 5 0 r8.price_.length, .i .i64 r8.most_, .i .i64 r8.yield_, .i .i64 r8.store_, .i .i64 r8.first_, .i .i64 r8.loss_]])], ((tm 14 [(2, .ptr 10 0 0), (6, .ref 4 0 x.2.2.length), (7, .i .i64 1)]) ++ ((tm 96 [(1, .s u0), (4, .ref 3 0 r6.1.length), (5, .i .i64 r6.2), (7, .ref 7 0 r10.1.length), (8, .i .i64 r10.2), (46, .agg [.ref 4 0 x.2.2.length, .ref 5 0 r8.price_.length, .i .i64 r8.most_, .i .i64 r8.yield_, .i .i64 r8.store_, .i .i64 r8.first_, .i .i64 r8.loss_]), (47, .i .i64 1)]) ++ []))⟩ : VS)) hw_4 (Ent.tu 11) ?_
   rintro n_4 ⟨k_1123, i_1124, l1125⟩ h1
   rw [g3_L4] at h1
   refine VW.seq (VW.seq (VW.rA (tm 19 [(0, .ref 4 0 l1125.length), (1, .i .i64 k_1123), (5, .i .i64 i_1124), (9, .b (ltI i_1124 (l1125.length : Int)))]) [none, some (1, rows ci_i64 r4.need_), some (1, rows ci_i64 r4.price_), some (1, rows cl_ci_i64o r6.1), some (1, rows ci_i64 l1125), some (1, rows ci_i64 r8.price_), some (7, [[.ref 4 0 l1125.length, .ref 5 0 r8.price_.length, .i .i64 r8.most_, .i .i64 r8.yield_, .i .i64 r8.store_, .i .i64 r8.first_, .i .i64 r8.loss_]]), some (1, rows cl_ci_i64o r10.1), some (1, rows ci_i64 r15.need_), some (1, rows ci_i64 r15.price_), some (7, [[.ref 4 0 l1125.length, .ref 5 0 r8.price_.length, .i .i64 r8.most_, .i .i64 r8.yield_, .i .i64 r8.store_, .i .i64 r8.first_, .i .i64 r8.loss_]])] ((tm 14 [(2, .ptr 10 0 0), (6, .ref 4 0 l1125.length), (7, .i .i64 1)]) ++ ((tm 96 [(1, .s u0), (4, .ref 3 0 r6.1.length), (5, .i .i64 r6.2), (7, .ref 7 0 r10.1.length), (8, .i .i64 r10.2), (46, .agg [.ref 4 0 l1125.length, .ref 5 0 r8.price_.length, .i .i64 r8.most_, .i .i64 r8.yield_, .i .i64 r8.store_, .i .i64 r8.first_, .i .i64 r8.loss_]), (47, .i .i64 1)]) ++ [])) hC (VW.condJ h1 (fun h1 => ?_) (fun h1 => ?_))))
   · refine VW.exit ?_
     have e_ := leafR h1
     subst w_4
     exact vnext (k_1123, l1125) h (Ent.tu 11)
   refine VW.skip (VW.seq (VW.block (VW.seq ?_)))
   obtain ⟨e1127, ⟨f1128a, f1128b, f1128c, f1128d⟩, h1⟩ := bindI h1
   exact VW.rA (tm 19 [(0, .ref 4 0 (l1125.set i_1124.toNat k_1123).length), (1, .i .i64 k_1123), (5, .i .i64 i_1124)]) [none, some (1, rows ci_i64 r4.need_), some (1, rows ci_i64 r4.price_), some (1, rows cl_ci_i64o r6.1), some (1, rows ci_i64 (l1125.set i_1124.toNat k_1123)), some (1, rows ci_i64 r8.price_), some (7, [[.ref 4 0 (l1125.set i_1124.toNat k_1123).length, .ref 5 0 r8.price_.length, .i .i64 r8.most_, .i .i64 r8.yield_, .i .i64 r8.store_, .i .i64 r8.first_, .i .i64 r8.loss_]]), some (1, rows cl_ci_i64o r10.1), some (1, rows ci_i64 r15.need_), some (1, rows ci_i64 r15.price_), some (7, [[.ref 4 0 (l1125.set i_1124.toNat k_1123).length, .ref 5 0 r8.price_.length, .i .i64 r8.most_, .i .i64 r8.yield_, .i .i64 r8.store_, .i .i64 r8.first_, .i .i64 r8.loss_]])] ((tm 14 [(2, .ptr 10 0 0), (6, .ref 4 0 (l1125.set i_1124.toNat k_1123).length), (7, .i .i64 1)]) ++ ((tm 96 [(1, .s u0), (4, .ref 3 0 r6.1.length), (5, .i .i64 r6.2), (7, .ref 7 0 r10.1.length), (8, .i .i64 r10.2), (46, .agg [.ref 4 0 (l1125.set i_1124.toNat k_1123).length, .ref 5 0 r8.price_.length, .i .i64 r8.most_, .i .i64 r8.yield_, .i .i64 r8.store_, .i .i64 r8.first_, .i .i64 r8.loss_]), (47, .i .i64 1)]) ++ [])) hC (VW.rA (tm 19 [(0, .ref 4 0 (l1125.set i_1124.toNat k_1123).length), (1, .i .i64 (aI .i64 k_1123 1)), (5, .i .i64 i_1124)]) [none, some (1, rows ci_i64 r4.need_), some (1, rows ci_i64 r4.price_), some (1, rows cl_ci_i64o r6.1), some (1, rows ci_i64 (l1125.set i_1124.toNat k_1123)), some (1, rows ci_i64 r8.price_), some (7, [[.ref 4 0 (l1125.set i_1124.toNat k_1123).length, .ref 5 0 r8.price_.length, .i .i64 r8.most_, .i .i64 r8.yield_, .i .i64 r8.store_, .i .i64 r8.first_, .i .i64 r8.loss_]]), some (1, rows cl_ci_i64o r10.1), some (1, rows ci_i64 r15.need_), some (1, rows ci_i64 r15.price_), some (7, [[.ref 4 0 (l1125.set i_1124.toNat k_1123).length, .ref 5 0 r8.price_.length, .i .i64 r8.most_, .i .i64 r8.yield_, .i .i64 r8.store_, .i .i64 r8.first_, .i .i64 r8.loss_]])] ((tm 14 [(2, .ptr 10 0 0), (6, .ref 4 0 (l1125.set i_1124.toNat k_1123).length), (7, .i .i64 1)]) ++ ((tm 96 [(1, .s u0), (4, .ref 3 0 r6.1.length), (5, .i .i64 r6.2), (7, .ref 7 0 r10.1.length), (8, .i .i64 r10.2), (46, .agg [.ref 4 0 (l1125.set i_1124.toNat k_1123).length, .ref 5 0 r8.price_.length, .i .i64 r8.most_, .i .i64 r8.yield_, .i .i64 r8.store_, .i .i64 r8.first_, .i .i64 r8.loss_]), (47, .i .i64 1)]) ++ [])) hC (VW.rA (tm 19 [(0, .ref 4 0 (l1125.set i_1124.toNat k_1123).length), (1, .i .i64 (aI .i64 k_1123 1)), (5, .i .i64 (aI .i64 i_1124 1))]) [none, some (1, rows ci_i64 r4.need_), some (1, rows ci_i64 r4.price_), some (1, rows cl_ci_i64o r6.1), some (1, rows ci_i64 (l1125.set i_1124.toNat k_1123)), some (1, rows ci_i64 r8.price_), some (7, [[.ref 4 0 (l1125.set i_1124.toNat k_1123).length, .ref 5 0 r8.price_.length, .i .i64 r8.most_, .i .i64 r8.yield_, .i .i64 r8.store_, .i .i64 r8.first_, .i .i64 r8.loss_]]), some (1, rows cl_ci_i64o r10.1), some (1, rows ci_i64 r15.need_), some (1, rows ci_i64 r15.price_), some (7, [[.ref 4 0 (l1125.set i_1124.toNat k_1123).length, .ref 5 0 r8.price_.length, .i .i64 r8.most_, .i .i64 r8.yield_, .i .i64 r8.store_, .i .i64 r8.first_, .i .i64 r8.loss_]])] ((tm 14 [(2, .ptr 10 0 0), (6, .ref 4 0 (l1125.set i_1124.toNat k_1123).length), (7, .i .i64 1)]) ++ ((tm 96 [(1, .s u0), (4, .ref 3 0 r6.1.length), (5, .i .i64 r6.2), (7, .ref 7 0 r10.1.length), (8, .i .i64 r10.2), (46, .agg [.ref 4 0 (l1125.set i_1124.toNat k_1123).length, .ref 5 0 r8.price_.length, .i .i64 r8.most_, .i .i64 r8.yield_, .i .i64 r8.store_, .i .i64 r8.first_, .i .i64 r8.loss_]), (47, .i .i64 1)]) ++ [])) hC (vnext (aI .i64 k_1123 1, aI .i64 i_1124 1, (l1125.set i_1124.toNat k_1123)) (leafL h1) (Ent.tu 11)))) (h := by simp -implicitDefEqProofs [f1128a, f1128b, f1128c, f1128d])
 rintro ⟨k_195, l196⟩ h
 replace h : (g3_j1 r8 r10 r6 aS k_195 l196).bind _ = _ := h
 rw [g3_j1] at h
 refine VW.seq (VW.rA (tm 19 [(4, .i .i64 k_195)]) [none, some (1, rows ci_i64 r4.need_), some (1, rows ci_i64 r4.price_), some (1, rows cl_ci_i64o r6.1), some (1, rows ci_i64 l196), some (1, rows ci_i64 r8.price_), some (7, [[.ref 4 0 l196.length, .ref 5 0 r8.price_.length, .i .i64 r8.most_, .i .i64 r8.yield_, .i .i64 r8.store_, .i .i64 r8.first_, .i .i64 r8.loss_]]), some (1, rows cl_ci_i64o r10.1), some (1, rows ci_i64 r15.need_), some (1, rows ci_i64 r15.price_), some (7, [[.ref 4 0 l196.length, .ref 5 0 r8.price_.length, .i .i64 r8.most_, .i .i64 r8.yield_, .i .i64 r8.store_, .i .i64 r8.first_, .i .i64 r8.loss_]])] ((tm 14 [(2, .ptr 10 0 0), (6, .ref 4 0 l196.length), (7, .i .i64 1)]) ++ ((tm 96 [(1, .s u0), (4, .ref 3 0 r6.1.length), (5, .i .i64 r6.2), (7, .ref 7 0 r10.1.length), (8, .i .i64 r10.2), (46, .agg [.ref 4 0 l196.length, .ref 5 0 r8.price_.length, .i .i64 r8.most_, .i .i64 r8.yield_, .i .i64 r8.store_, .i .i64 r8.first_, .i .i64 r8.loss_]), (47, .i .i64 1)]) ++ [])) hC (VW.ret (VIn.ret (v := .i .i64 k_195) (by simp) (VL.evalP (tm 14 [(1, .i .i64 k_195), (2, .ptr 10 0 0)]) [none, some (1, rows ci_i64 r4.need_), some (1, rows ci_i64 r4.price_), some (1, rows cl_ci_i64o r6.1), some (1, rows ci_i64 l196), some (1, rows ci_i64 r8.price_), some (7, [[.ref 4 0 l196.length, .ref 5 0 r8.price_.length, .i .i64 r8.most_, .i .i64 r8.yield_, .i .i64 r8.store_, .i .i64 r8.first_, .i .i64 r8.loss_]]), some (1, rows cl_ci_i64o r10.1), some (1, rows ci_i64 r15.need_), some (1, rows ci_i64 r15.price_), some (7, [[.ref 4 0 l196.length, .ref 5 0 r8.price_.length, .i .i64 r8.most_, .i .i64 r8.yield_, .i .i64 r8.store_, .i .i64 r8.first_, .i .i64 r8.loss_]])] ((tm 96 [(1, .s u0), (4, .ref 3 0 r6.1.length), (5, .i .i64 r6.2), (7, .ref 7 0 r10.1.length), (8, .i .i64 r10.2), (46, .agg [.ref 4 0 l196.length, .ref 5 0 r8.price_.length, .i .i64 r8.most_, .i .i64 r8.yield_, .i .i64 r8.store_, .i .i64 r8.first_, .i .i64 r8.loss_]), (47, .i .i64 1)]) ++ []) hC (by kernel_rfl) (by simp -implicitDefEqProofs) (VW.seq (VW.inlS (VL.inlP 3 (tm 14 [(10, .ref 5 0 r8.price_.length), (11, .i .i64 k_195)]) [none, some (1, rows ci_i64 r4.need_), some (1, rows ci_i64 r4.price_), some (1, rows cl_ci_i64o r6.1), some (1, rows ci_i64 l196), some (1, rows ci_i64 r8.price_), some (7, [[.ref 4 0 l196.length, .ref 5 0 r8.price_.length, .i .i64 r8.most_, .i .i64 r8.yield_, .i .i64 r8.store_, .i .i64 r8.first_, .i .i64 r8.loss_]]), some (1, rows cl_ci_i64o r10.1), some (1, rows ci_i64 r15.need_), some (1, rows ci_i64 r15.price_), some (7, [[.ref 4 0 l196.length, .ref 5 0 r8.price_.length, .i .i64 r8.most_, .i .i64 r8.yield_, .i .i64 r8.store_, .i .i64 r8.first_, .i .i64 r8.loss_]])] ((tm 96 [(1, .s u0), (4, .ref 3 0 r6.1.length), (5, .i .i64 r6.2), (7, .ref 7 0 r10.1.length), (8, .i .i64 r10.2), (46, .agg [.ref 4 0 l196.length, .ref 5 0 r8.price_.length, .i .i64 r8.most_, .i .i64 r8.yield_, .i .i64 r8.store_, .i .i64 r8.first_, .i .i64 r8.loss_]), (47, .i .i64 1)]) ++ []) rfl hC (by kernel_rfl) (by simp -implicitDefEqProofs) rfl rfl Try.func33 rfl rfl rfl rfl (tm_length) (VW.ent (s := (⟨(tm 19 [(0, .ref 5 0 r8.price_.length), (1, .i .i64 k_195)]), [none, some (1, rows ci_i64 r4.need_), some (1, rows ci_i64 r4.price_), some (1, rows cl_ci_i64o r6.1), some (1, rows ci_i64 l196), some (1, rows ci_i64 r8.price_), some (7, [[.ref 4 0 l196.length, .ref 5 0 r8.price_.length, .i .i64 r8.most_, .i .i64 r8.yield_, .i .i64 r8.store_, .i .i64 r8.first_, .i .i64 r8.loss_]]), some (1, rows cl_ci_i64o r10.1), some (1, rows ci_i64 r15.need_), some (1, rows ci_i64 r15.price_), some (7, [[.ref 4 0 l196.length, .ref 5 0 r8.price_.length, .i .i64 r8.most_, .i .i64 r8.yield_, .i .i64 r8.store_, .i .i64 r8.first_, .i .i64 r8.loss_]])], ((tm 14 [(10, .ref 5 0 r8.price_.length), (11, .i .i64 k_195)]) ++ ((tm 96 [(1, .s u0), (4, .ref 3 0 r6.1.length), (5, .i .i64 r6.2), (7, .ref 7 0 r10.1.length), (8, .i .i64 r10.2), (46, .agg [.ref 4 0 l196.length, .ref 5 0 r8.price_.length, .i .i64 r8.most_, .i .i64 r8.yield_, .i .i64 r8.store_, .i .i64 r8.first_, .i .i64 r8.loss_]), (47, .i .i64 1)]) ++ []))⟩ : VS)) (Ent.eqs (by rw [tm_init]; simp) rfl (by simp)) (VW.seq (VW.rA (tm 19 [(0, .ref 5 0 r8.price_.length), (1, .i .i64 k_195)]) [none, some (1, rows ci_i64 r4.need_), some (1, rows ci_i64 r4.price_), some (1, rows cl_ci_i64o r6.1), some (1, rows ci_i64 l196), some (1, rows ci_i64 r8.price_), some (7, [[.ref 4 0 l196.length, .ref 5 0 r8.price_.length, .i .i64 r8.most_, .i .i64 r8.yield_, .i .i64 r8.store_, .i .i64 r8.first_, .i .i64 r8.loss_]]), some (1, rows cl_ci_i64o r10.1), some (1, rows ci_i64 r15.need_), some (1, rows ci_i64 r15.price_), some (7, [[.ref 4 0 l196.length, .ref 5 0 r8.price_.length, .i .i64 r8.most_, .i .i64 r8.yield_, .i .i64 r8.store_, .i .i64 r8.first_, .i .i64 r8.loss_]])] ((tm 14 [(10, .ref 5 0 r8.price_.length), (11, .i .i64 k_195)]) ++ ((tm 96 [(1, .s u0), (4, .ref 3 0 r6.1.length), (5, .i .i64 r6.2), (7, .ref 7 0 r10.1.length), (8, .i .i64 r10.2), (46, .agg [.ref 4 0 l196.length, .ref 5 0 r8.price_.length, .i .i64 r8.most_, .i .i64 r8.yield_, .i .i64 r8.store_, .i .i64 r8.first_, .i .i64 r8.loss_]), (47, .i .i64 1)]) ++ [])) hC (VW.join (fun (v : Int × (List Int)) => (⟨(tm 19 [(1, .i .i64 v.1)]), [none, some (1, rows ci_i64 r4.need_), some (1, rows ci_i64 r4.price_), some (1, rows cl_ci_i64o r6.1), some (1, rows ci_i64 l196), some (1, rows ci_i64 v.2), some (7, [[.ref 4 0 l196.length, .ref 5 0 v.2.length, .i .i64 r8.most_, .i .i64 r8.yield_, .i .i64 r8.store_, .i .i64 r8.first_, .i .i64 r8.loss_]]), some (1, rows cl_ci_i64o r10.1), some (1, rows ci_i64 r15.need_), some (1, rows ci_i64 r15.price_), some (7, [[.ref 4 0 l196.length, .ref 5 0 v.2.length, .i .i64 r8.most_, .i .i64 r8.yield_, .i .i64 r8.store_, .i .i64 r8.first_, .i .i64 r8.loss_]])], ((tm 14 [(10, .ref 5 0 v.2.length), (11, .i .i64 k_195)]) ++ ((tm 96 [(1, .s u0), (4, .ref 3 0 r6.1.length), (5, .i .i64 r6.2), (7, .ref 7 0 r10.1.length), (8, .i .i64 r10.2), (46, .agg [.ref 4 0 l196.length, .ref 5 0 v.2.length, .i .i64 r8.most_, .i .i64 r8.yield_, .i .i64 r8.store_, .i .i64 r8.first_, .i .i64 r8.loss_]), (47, .i .i64 1)]) ++ []))⟩ : VS)) (fun v => (g3_j2 r10 r6 aS (v.1) (v.2)).bind some = some r) ?_ ?_)))))))))))
 · refine VW.seq (VW.rA (tm 19 [(0, .ref 5 0 r8.price_.length), (1, .i .i64 k_195), (5, .i .i64 0)]) [none, some (1, rows ci_i64 r4.need_), some (1, rows ci_i64 r4.price_), some (1, rows cl_ci_i64o r6.1), some (1, rows ci_i64 l196), some (1, rows ci_i64 r8.price_), some (7, [[.ref 4 0 l196.length, .ref 5 0 r8.price_.length, .i .i64 r8.most_, .i .i64 r8.yield_, .i .i64 r8.store_, .i .i64 r8.first_, .i .i64 r8.loss_]]), some (1, rows cl_ci_i64o r10.1), some (1, rows ci_i64 r15.need_), some (1, rows ci_i64 r15.price_), some (7, [[.ref 4 0 l196.length, .ref 5 0 r8.price_.length, .i .i64 r8.most_, .i .i64 r8.yield_, .i .i64 r8.store_, .i .i64 r8.first_, .i .i64 r8.loss_]])] ((tm 14 [(10, .ref 5 0 r8.price_.length), (11, .i .i64 k_195)]) ++ ((tm 96 [(1, .s u0), (4, .ref 3 0 r6.1.length), (5, .i .i64 r6.2), (7, .ref 7 0 r10.1.length), (8, .i .i64 r10.2), (46, .agg [.ref 4 0 l196.length, .ref 5 0 r8.price_.length, .i .i64 r8.most_, .i .i64 r8.yield_, .i .i64 r8.store_, .i .i64 r8.first_, .i .i64 r8.loss_]), (47, .i .i64 1)]) ++ [])) hC (VW.block ?_))
   obtain ⟨w_3, hw_3, h⟩ := bindE h
   refine VW.loopO (fun (x : Int × Int × (List Int)) => (⟨(tm 19 [(0, .ref 5 0 x.2.2.length), (1, .i .i64 x.1), (5, .i .i64 x.2.1)]), [none, some (1, rows ci_i64 r4.need_), some (1, rows ci_i64 r4.price_), some (1, rows cl_ci_i64o r6.1), some (1, rows ci_i64 l196), some (1, rows ci_i64 x.2.2), some (7, [[.ref 4 0 l196.length, .ref 5 0 x.2.2.length, .i .i64 r8.most_, .i .i64 r8.yield_, .i .i64 r8.store_, .i .i64 r8.first_, .i .i64 r8.loss_]]), some (1, rows cl_ci_i64o r10.1), some (1, rows ci_i64 r15.need_), some (1, rows ci_i64 r15.price_), some (7, [[.ref 4 0 l196.length, .ref 5 0 x.2.2.length, .i .i64 r8.most_, .i .i64 r8.yield_, .i .i64 r8.store_, .i .i64 r8.first_, .i .i64 r8.loss_]])], ((tm 14 [(10, .ref 5 0 x.2.2.length), (11, .i .i64 k_195)]) ++ ((tm 96 [(1, .s u0), (4, .ref 3 0 r6.1.length), (5, .i .i64 r6.2), (7, .ref 7 0 r10.1.length), (8, .i .i64 r10.2), (46, .agg [.ref 4 0 l196.length, .ref 5 0 x.2.2.length, .i .i64 r8.most_, .i .i64 r8.yield_, .i .i64 r8.store_, .i .i64 r8.first_, .i .i64 r8.loss_]), (47, .i .i64 1)]) ++ []))⟩ : VS)) hw_3 (Ent.tu 11) ?_
   rintro n_3 ⟨k_1108, i_1109, l1110⟩ h1
   rw [g3_L3] at h1
   refine VW.seq (VW.seq (VW.rA (tm 19 [(0, .ref 5 0 l1110.length), (1, .i .i64 k_1108), (5, .i .i64 i_1109), (9, .b (ltI i_1109 (l1110.length : Int)))]) [none, some (1, rows ci_i64 r4.need_), some (1, rows ci_i64 r4.price_), some (1, rows cl_ci_i64o r6.1), some (1, rows ci_i64 l196), some (1, rows ci_i64 l1110), some (7, [[.ref 4 0 l196.length, .ref 5 0 l1110.length, .i .i64 r8.most_, .i .i64 r8.yield_, .i .i64 r8.store_, .i .i64 r8.first_, .i .i64 r8.loss_]]), some (1, rows cl_ci_i64o r10.1), some (1, rows ci_i64 r15.need_), some (1, rows ci_i64 r15.price_), some (7, [[.ref 4 0 l196.length, .ref 5 0 l1110.length, .i .i64 r8.most_, .i .i64 r8.yield_, .i .i64 r8.store_, .i .i64 r8.first_, .i .i64 r8.loss_]])] ((tm 14 [(10, .ref 5 0 l1110.length), (11, .i .i64 k_195)]) ++ ((tm 96 [(1, .s u0), (4, .ref 3 0 r6.1.length), (5, .i .i64 r6.2), (7, .ref 7 0 r10.1.length), (8, .i .i64 r10.2), (46, .agg [.ref 4 0 l196.length, .ref 5 0 l1110.length, .i .i64 r8.most_, .i .i64 r8.yield_, .i .i64 r8.store_, .i .i64 r8.first_, .i .i64 r8.loss_]), (47, .i .i64 1)]) ++ [])) hC (VW.condJ h1 (fun h1 => ?_) (fun h1 => ?_))))
   · refine VW.exit ?_
     have e_ := leafR h1
     subst w_3
     exact vnext (k_1108, l1110) h (Ent.tu 11)
   refine VW.skip (VW.seq (VW.block (VW.seq ?_)))
   obtain ⟨e1112, ⟨f1113a, f1113b, f1113c, f1113d⟩, h1⟩ := bindI h1
   exact VW.rA (tm 19 [(0, .ref 5 0 (l1110.set i_1109.toNat k_1108).length), (1, .i .i64 k_1108), (5, .i .i64 i_1109)]) [none, some (1, rows ci_i64 r4.need_), some (1, rows ci_i64 r4.price_), some (1, rows cl_ci_i64o r6.1), some (1, rows ci_i64 l196), some (1, rows ci_i64 (l1110.set i_1109.toNat k_1108)), some (7, [[.ref 4 0 l196.length, .ref 5 0 (l1110.set i_1109.toNat k_1108).length, .i .i64 r8.most_, .i .i64 r8.yield_, .i .i64 r8.store_, .i .i64 r8.first_, .i .i64 r8.loss_]]), some (1, rows cl_ci_i64o r10.1), some (1, rows ci_i64 r15.need_), some (1, rows ci_i64 r15.price_), some (7, [[.ref 4 0 l196.length, .ref 5 0 (l1110.set i_1109.toNat k_1108).length, .i .i64 r8.most_, .i .i64 r8.yield_, .i .i64 r8.store_, .i .i64 r8.first_, .i .i64 r8.loss_]])] ((tm 14 [(10, .ref 5 0 (l1110.set i_1109.toNat k_1108).length), (11, .i .i64 k_195)]) ++ ((tm 96 [(1, .s u0), (4, .ref 3 0 r6.1.length), (5, .i .i64 r6.2), (7, .ref 7 0 r10.1.length), (8, .i .i64 r10.2), (46, .agg [.ref 4 0 l196.length, .ref 5 0 (l1110.set i_1109.toNat k_1108).length, .i .i64 r8.most_, .i .i64 r8.yield_, .i .i64 r8.store_, .i .i64 r8.first_, .i .i64 r8.loss_]), (47, .i .i64 1)]) ++ [])) hC (VW.rA (tm 19 [(0, .ref 5 0 (l1110.set i_1109.toNat k_1108).length), (1, .i .i64 (aI .i64 k_1108 1)), (5, .i .i64 i_1109)]) [none, some (1, rows ci_i64 r4.need_), some (1, rows ci_i64 r4.price_), some (1, rows cl_ci_i64o r6.1), some (1, rows ci_i64 l196), some (1, rows ci_i64 (l1110.set i_1109.toNat k_1108)), some (7, [[.ref 4 0 l196.length, .ref 5 0 (l1110.set i_1109.toNat k_1108).length, .i .i64 r8.most_, .i .i64 r8.yield_, .i .i64 r8.store_, .i .i64 r8.first_, .i .i64 r8.loss_]]), some (1, rows cl_ci_i64o r10.1), some (1, rows ci_i64 r15.need_), some (1, rows ci_i64 r15.price_), some (7, [[.ref 4 0 l196.length, .ref 5 0 (l1110.set i_1109.toNat k_1108).length, .i .i64 r8.most_, .i .i64 r8.yield_, .i .i64 r8.store_, .i .i64 r8.first_, .i .i64 r8.loss_]])] ((tm 14 [(10, .ref 5 0 (l1110.set i_1109.toNat k_1108).length), (11, .i .i64 k_195)]) ++ ((tm 96 [(1, .s u0), (4, .ref 3 0 r6.1.length), (5, .i .i64 r6.2), (7, .ref 7 0 r10.1.length), (8, .i .i64 r10.2), (46, .agg [.ref 4 0 l196.length, .ref 5 0 (l1110.set i_1109.toNat k_1108).length, .i .i64 r8.most_, .i .i64 r8.yield_, .i .i64 r8.store_, .i .i64 r8.first_, .i .i64 r8.loss_]), (47, .i .i64 1)]) ++ [])) hC (VW.rA (tm 19 [(0, .ref 5 0 (l1110.set i_1109.toNat k_1108).length), (1, .i .i64 (aI .i64 k_1108 1)), (5, .i .i64 (aI .i64 i_1109 1))]) [none, some (1, rows ci_i64 r4.need_), some (1, rows ci_i64 r4.price_), some (1, rows cl_ci_i64o r6.1), some (1, rows ci_i64 l196), some (1, rows ci_i64 (l1110.set i_1109.toNat k_1108)), some (7, [[.ref 4 0 l196.length, .ref 5 0 (l1110.set i_1109.toNat k_1108).length, .i .i64 r8.most_, .i .i64 r8.yield_, .i .i64 r8.store_, .i .i64 r8.first_, .i .i64 r8.loss_]]), some (1, rows cl_ci_i64o r10.1), some (1, rows ci_i64 r15.need_), some (1, rows ci_i64 r15.price_), some (7, [[.ref 4 0 l196.length, .ref 5 0 (l1110.set i_1109.toNat k_1108).length, .i .i64 r8.most_, .i .i64 r8.yield_, .i .i64 r8.store_, .i .i64 r8.first_, .i .i64 r8.loss_]])] ((tm 14 [(10, .ref 5 0 (l1110.set i_1109.toNat k_1108).length), (11, .i .i64 k_195)]) ++ ((tm 96 [(1, .s u0), (4, .ref 3 0 r6.1.length), (5, .i .i64 r6.2), (7, .ref 7 0 r10.1.length), (8, .i .i64 r10.2), (46, .agg [.ref 4 0 l196.length, .ref 5 0 (l1110.set i_1109.toNat k_1108).length, .i .i64 r8.most_, .i .i64 r8.yield_, .i .i64 r8.store_, .i .i64 r8.first_, .i .i64 r8.loss_]), (47, .i .i64 1)]) ++ [])) hC (vnext (aI .i64 k_1108 1, aI .i64 i_1109 1, (l1110.set i_1109.toNat k_1108)) (leafL h1) (Ent.tu 11)))) (h := by simp -implicitDefEqProofs [f1113a, f1113b, f1113c, f1113d])
 rintro ⟨k_244, l245⟩ h
 replace h : (g3_j2 r10 r6 aS k_244 l245).bind _ = _ := h
 rw [g3_j2] at h
 refine VW.seq (VW.rA (tm 19 [(4, .i .i64 k_244)]) [none, some (1, rows ci_i64 r4.need_), some (1, rows ci_i64 r4.price_), some (1, rows cl_ci_i64o r6.1), some (1, rows ci_i64 l196), some (1, rows ci_i64 l245), some (7, [[.ref 4 0 l196.length, .ref 5 0 l245.length, .i .i64 r8.most_, .i .i64 r8.yield_, .i .i64 r8.store_, .i .i64 r8.first_, .i .i64 r8.loss_]]), some (1, rows cl_ci_i64o r10.1), some (1, rows ci_i64 r15.need_), some (1, rows ci_i64 r15.price_), some (7, [[.ref 4 0 l196.length, .ref 5 0 l245.length, .i .i64 r8.most_, .i .i64 r8.yield_, .i .i64 r8.store_, .i .i64 r8.first_, .i .i64 r8.loss_]])] ((tm 14 [(10, .ref 5 0 l245.length), (11, .i .i64 k_195)]) ++ ((tm 96 [(1, .s u0), (4, .ref 3 0 r6.1.length), (5, .i .i64 r6.2), (7, .ref 7 0 r10.1.length), (8, .i .i64 r10.2), (46, .agg [.ref 4 0 l196.length, .ref 5 0 l245.length, .i .i64 r8.most_, .i .i64 r8.yield_, .i .i64 r8.store_, .i .i64 r8.first_, .i .i64 r8.loss_]), (47, .i .i64 1)]) ++ [])) hC (VW.ret (VIn.ret (v := .i .i64 k_244) (by simp) (VL.evalP (tm 14 [(1, .i .i64 k_244)]) [none, some (1, rows ci_i64 r4.need_), some (1, rows ci_i64 r4.price_), some (1, rows cl_ci_i64o r6.1), some (1, rows ci_i64 l196), some (1, rows ci_i64 l245), some (7, [[.ref 4 0 l196.length, .ref 5 0 l245.length, .i .i64 r8.most_, .i .i64 r8.yield_, .i .i64 r8.store_, .i .i64 r8.first_, .i .i64 r8.loss_]]), some (1, rows cl_ci_i64o r10.1), some (1, rows ci_i64 r15.need_), some (1, rows ci_i64 r15.price_), some (7, [[.ref 4 0 l196.length, .ref 5 0 l245.length, .i .i64 r8.most_, .i .i64 r8.yield_, .i .i64 r8.store_, .i .i64 r8.first_, .i .i64 r8.loss_]])] ((tm 96 [(1, .s u0), (4, .ref 3 0 r6.1.length), (5, .i .i64 r6.2), (7, .ref 7 0 r10.1.length), (8, .i .i64 r10.2), (46, .agg [.ref 4 0 l196.length, .ref 5 0 l245.length, .i .i64 r8.most_, .i .i64 r8.yield_, .i .i64 r8.store_, .i .i64 r8.first_, .i .i64 r8.loss_]), (47, .i .i64 1)]) ++ []) hC (by kernel_rfl) (by simp -implicitDefEqProofs) (VW.seq (VW.rA (tm 14 [(4, .i .i64 k_244)]) [none, some (1, rows ci_i64 r4.need_), some (1, rows ci_i64 r4.price_), some (1, rows cl_ci_i64o r6.1), some (1, rows ci_i64 l196), some (1, rows ci_i64 l245), some (7, [[.ref 4 0 l196.length, .ref 5 0 l245.length, .i .i64 r8.most_, .i .i64 r8.yield_, .i .i64 r8.store_, .i .i64 r8.first_, .i .i64 r8.loss_]]), some (1, rows cl_ci_i64o r10.1), some (1, rows ci_i64 r15.need_), some (1, rows ci_i64 r15.price_), some (7, [[.ref 4 0 l196.length, .ref 5 0 l245.length, .i .i64 r8.most_, .i .i64 r8.yield_, .i .i64 r8.store_, .i .i64 r8.first_, .i .i64 r8.loss_]])] ((tm 96 [(1, .s u0), (4, .ref 3 0 r6.1.length), (5, .i .i64 r6.2), (7, .ref 7 0 r10.1.length), (8, .i .i64 r10.2), (46, .agg [.ref 4 0 l196.length, .ref 5 0 l245.length, .i .i64 r8.most_, .i .i64 r8.yield_, .i .i64 r8.store_, .i .i64 r8.first_, .i .i64 r8.loss_]), (47, .i .i64 1)]) ++ []) hC (VW.ret (VIn.ret (v := .i .i64 k_244) (by simp) (VL.evalP (tm 96 [(1, .s u0), (4, .ref 3 0 r6.1.length), (5, .i .i64 r6.2), (7, .ref 7 0 r10.1.length), (8, .i .i64 r10.2), (9, .i .i64 k_244)]) [none, some (1, rows ci_i64 r4.need_), some (1, rows ci_i64 r4.price_), some (1, rows cl_ci_i64o r6.1), some (1, rows ci_i64 l196), some (1, rows ci_i64 l245), some (7, [[.ref 4 0 l196.length, .ref 5 0 l245.length, .i .i64 r8.most_, .i .i64 r8.yield_, .i .i64 r8.store_, .i .i64 r8.first_, .i .i64 r8.loss_]]), some (1, rows cl_ci_i64o r10.1), some (1, rows ci_i64 r15.need_), some (1, rows ci_i64 r15.price_), some (7, [[.ref 4 0 l196.length, .ref 5 0 l245.length, .i .i64 r8.most_, .i .i64 r8.yield_, .i .i64 r8.store_, .i .i64 r8.first_, .i .i64 r8.loss_]])] [] hC (by kernel_rfl) (by simp -implicitDefEqProofs) (VWf.sq (VWf.sq (VWf.of ?_))))))))))))
 obtain ⟨w248, q1097, h⟩ := bindE h
 refine VW.evalA (tm 96 [(1, .s u0), (4, .ref 3 0 r6.1.length), (5, .i .i64 r6.2), (7, .ref 7 0 r10.1.length), (61, .b (w248 || (!eqI r10.2 r6.2)))]) [none, some (1, rows ci_i64 r4.need_), some (1, rows ci_i64 r4.price_), some (1, rows cl_ci_i64o r6.1), some (1, rows ci_i64 l196), some (1, rows ci_i64 l245), some (7, [[.ref 4 0 l196.length, .ref 5 0 l245.length, .i .i64 r8.most_, .i .i64 r8.yield_, .i .i64 r8.store_, .i .i64 r8.first_, .i .i64 r8.loss_]]), some (1, rows cl_ci_i64o r10.1), some (1, rows ci_i64 r15.need_), some (1, rows ci_i64 r15.price_), some (7, [[.ref 4 0 l196.length, .ref 5 0 l245.length, .i .i64 r8.most_, .i .i64 r8.yield_, .i .i64 r8.store_, .i .i64 r8.first_, .i .i64 r8.loss_]])] [] hC (by kernel_rfl) (by
     obtain ⟨q1098, q1097⟩ | ⟨q1098, rfl⟩ := gdF q1097
     · obtain ⟨r246, q247, q1097⟩ := bindQ q1097
       have c247 := tl9 q247
       obtain rfl := Option.some.inj q1097
       simp -implicitDefEqProofs [q1098, c247]
     simp -implicitDefEqProofs [q1098]) ?_
 refine VWf.of (VW.condI h (fun h => ?_) (fun h => ?_))
 · refine VW.seq (VW.rA (tm 96 [(2, .b false)]) [none, some (1, rows ci_i64 r4.need_), some (1, rows ci_i64 r4.price_), some (1, rows cl_ci_i64o r6.1), some (1, rows ci_i64 l196), some (1, rows ci_i64 l245), some (7, [[.ref 4 0 l196.length, .ref 5 0 l245.length, .i .i64 r8.most_, .i .i64 r8.yield_, .i .i64 r8.store_, .i .i64 r8.first_, .i .i64 r8.loss_]]), some (1, rows cl_ci_i64o r10.1), some (1, rows ci_i64 r15.need_), some (1, rows ci_i64 r15.price_), some (7, [[.ref 4 0 l196.length, .ref 5 0 l245.length, .i .i64 r8.most_, .i .i64 r8.yield_, .i .i64 r8.store_, .i .i64 r8.first_, .i .i64 r8.loss_]])] [] hC ?_)
   obtain rfl := leafS h
   exact VW.ret (VRet.fin (by simp [eB3]))
 refine VW.skip (VWf.sq (VWf.of (VW.rA (tm 96 [(1, .s u0), (4, .ref 3 0 r6.1.length), (5, .i .i64 r6.2), (7, .ref 7 0 r10.1.length), (10, .i .i64 1)]) [none, some (1, rows ci_i64 r4.need_), some (1, rows ci_i64 r4.price_), some (1, rows cl_ci_i64o r6.1), some (1, rows ci_i64 l196), some (1, rows ci_i64 l245), some (7, [[.ref 4 0 l196.length, .ref 5 0 l245.length, .i .i64 r8.most_, .i .i64 r8.yield_, .i .i64 r8.store_, .i .i64 r8.first_, .i .i64 r8.loss_]]), some (1, rows cl_ci_i64o r10.1), some (1, rows ci_i64 r15.need_), some (1, rows ci_i64 r15.price_), some (7, [[.ref 4 0 l196.length, .ref 5 0 l245.length, .i .i64 r8.most_, .i .i64 r8.yield_, .i .i64 r8.store_, .i .i64 r8.first_, .i .i64 r8.loss_]])] [] hC (VWf.sq (VWf.of (VW.inlS (VL.inlP 2 (tm 96 [(1, .s u0), (4, .ref 3 0 r6.1.length), (5, .i .i64 r6.2), (7, .ref 7 0 r10.1.length), (62, .ref 7 0 r10.1.length), (63, .i .i64 1)]) [none, some (1, rows ci_i64 r4.need_), some (1, rows ci_i64 r4.price_), some (1, rows cl_ci_i64o r6.1), some (1, rows ci_i64 l196), some (1, rows ci_i64 l245), some (7, [[.ref 4 0 l196.length, .ref 5 0 l245.length, .i .i64 r8.most_, .i .i64 r8.yield_, .i .i64 r8.store_, .i .i64 r8.first_, .i .i64 r8.loss_]]), some (1, rows cl_ci_i64o r10.1), some (1, rows ci_i64 r15.need_), some (1, rows ci_i64 r15.price_), some (7, [[.ref 4 0 l196.length, .ref 5 0 l245.length, .i .i64 r8.most_, .i .i64 r8.yield_, .i .i64 r8.store_, .i .i64 r8.first_, .i .i64 r8.loss_]])] [] rfl hC (by kernel_rfl) (by simp -implicitDefEqProofs) rfl rfl Try.func12 rfl rfl rfl rfl (tm_length) (VW.ent (s := (⟨(tm 19 [(0, .ref 7 0 r10.1.length), (1, .i .i64 1)]), [none, some (1, rows ci_i64 r4.need_), some (1, rows ci_i64 r4.price_), some (1, rows cl_ci_i64o r6.1), some (1, rows ci_i64 l196), some (1, rows ci_i64 l245), some (7, [[.ref 4 0 l196.length, .ref 5 0 l245.length, .i .i64 r8.most_, .i .i64 r8.yield_, .i .i64 r8.store_, .i .i64 r8.first_, .i .i64 r8.loss_]]), some (1, rows cl_ci_i64o r10.1), some (1, rows ci_i64 r15.need_), some (1, rows ci_i64 r15.price_), some (7, [[.ref 4 0 l196.length, .ref 5 0 l245.length, .i .i64 r8.most_, .i .i64 r8.yield_, .i .i64 r8.store_, .i .i64 r8.first_, .i .i64 r8.loss_]])], ((tm 96 [(1, .s u0), (4, .ref 3 0 r6.1.length), (5, .i .i64 r6.2), (7, .ref 7 0 r10.1.length), (62, .ref 7 0 r10.1.length), (63, .i .i64 1)]) ++ [])⟩ : VS)) (Ent.eqs (by rw [tm_init]; simp) rfl (by simp)) (VW.seq (VW.rA (tm 19 [(0, .ref 7 0 r10.1.length), (1, .i .i64 1)]) [none, some (1, rows ci_i64 r4.need_), some (1, rows ci_i64 r4.price_), some (1, rows cl_ci_i64o r6.1), some (1, rows ci_i64 l196), some (1, rows ci_i64 l245), some (7, [[.ref 4 0 l196.length, .ref 5 0 l245.length, .i .i64 r8.most_, .i .i64 r8.yield_, .i .i64 r8.store_, .i .i64 r8.first_, .i .i64 r8.loss_]]), some (1, rows cl_ci_i64o r10.1), some (1, rows ci_i64 r15.need_), some (1, rows ci_i64 r15.price_), some (7, [[.ref 4 0 l196.length, .ref 5 0 l245.length, .i .i64 r8.most_, .i .i64 r8.yield_, .i .i64 r8.store_, .i .i64 r8.first_, .i .i64 r8.loss_]])] ((tm 96 [(1, .s u0), (4, .ref 3 0 r6.1.length), (5, .i .i64 r6.2), (7, .ref 7 0 r10.1.length), (62, .ref 7 0 r10.1.length), (63, .i .i64 1)]) ++ []) hC (VW.join (fun (v : Int × (List (List Int))) => (⟨(tm 19 [(1, .i .i64 v.1)]), [none, some (1, rows ci_i64 r4.need_), some (1, rows ci_i64 r4.price_), some (1, rows cl_ci_i64o r6.1), some (1, rows ci_i64 l196), some (1, rows ci_i64 l245), some (7, [[.ref 4 0 l196.length, .ref 5 0 l245.length, .i .i64 r8.most_, .i .i64 r8.yield_, .i .i64 r8.store_, .i .i64 r8.first_, .i .i64 r8.loss_]]), some (1, rows cl_ci_i64o v.2), some (1, rows ci_i64 r15.need_), some (1, rows ci_i64 r15.price_), some (7, [[.ref 4 0 l196.length, .ref 5 0 l245.length, .i .i64 r8.most_, .i .i64 r8.yield_, .i .i64 r8.store_, .i .i64 r8.first_, .i .i64 r8.loss_]])], ((tm 96 [(1, .s u0), (4, .ref 3 0 r6.1.length), (5, .i .i64 r6.2), (7, .ref 7 0 v.2.length), (62, .ref 7 0 v.2.length), (63, .i .i64 1)]) ++ [])⟩ : VS)) (fun v => (g3_j3 aS r6 (v.1) (v.2)).bind some = some r) ?_ ?_)))))))))))
 · refine VW.seq (VW.rA (tm 19 [(0, .ref 7 0 r10.1.length), (1, .i .i64 1), (5, .i .i64 0)]) [none, some (1, rows ci_i64 r4.need_), some (1, rows ci_i64 r4.price_), some (1, rows cl_ci_i64o r6.1), some (1, rows ci_i64 l196), some (1, rows ci_i64 l245), some (7, [[.ref 4 0 l196.length, .ref 5 0 l245.length, .i .i64 r8.most_, .i .i64 r8.yield_, .i .i64 r8.store_, .i .i64 r8.first_, .i .i64 r8.loss_]]), some (1, rows cl_ci_i64o r10.1), some (1, rows ci_i64 r15.need_), some (1, rows ci_i64 r15.price_), some (7, [[.ref 4 0 l196.length, .ref 5 0 l245.length, .i .i64 r8.most_, .i .i64 r8.yield_, .i .i64 r8.store_, .i .i64 r8.first_, .i .i64 r8.loss_]])] ((tm 96 [(1, .s u0), (4, .ref 3 0 r6.1.length), (5, .i .i64 r6.2), (7, .ref 7 0 r10.1.length), (62, .ref 7 0 r10.1.length), (63, .i .i64 1)]) ++ []) hC (VW.block ?_))
   obtain ⟨w_1, hw_1, h⟩ := bindE h
   refine VW.loopO (fun (x : Int × Int × (List (List Int))) => (⟨(tm 19 [(0, .ref 7 0 x.2.2.length), (1, .i .i64 x.1), (5, .i .i64 x.2.1)]), [none, some (1, rows ci_i64 r4.need_), some (1, rows ci_i64 r4.price_), some (1, rows cl_ci_i64o r6.1), some (1, rows ci_i64 l196), some (1, rows ci_i64 l245), some (7, [[.ref 4 0 l196.length, .ref 5 0 l245.length, .i .i64 r8.most_, .i .i64 r8.yield_, .i .i64 r8.store_, .i .i64 r8.first_, .i .i64 r8.loss_]]), some (1, rows cl_ci_i64o x.2.2), some (1, rows ci_i64 r15.need_), some (1, rows ci_i64 r15.price_), some (7, [[.ref 4 0 l196.length, .ref 5 0 l245.length, .i .i64 r8.most_, .i .i64 r8.yield_, .i .i64 r8.store_, .i .i64 r8.first_, .i .i64 r8.loss_]])], ((tm 96 [(1, .s u0), (4, .ref 3 0 r6.1.length), (5, .i .i64 r6.2), (7, .ref 7 0 x.2.2.length), (62, .ref 7 0 x.2.2.length), (63, .i .i64 1)]) ++ [])⟩ : VS)) hw_1 (Ent.tu 11) ?_
   rintro n_1 ⟨k_1027, i_1028, l1029⟩ h1
   rw [g3_L1] at h1
   refine VW.seq (VW.seq (VW.rA (tm 19 [(0, .ref 7 0 l1029.length), (1, .i .i64 k_1027), (5, .i .i64 i_1028), (9, .b (ltI i_1028 (l1029.length : Int)))]) [none, some (1, rows ci_i64 r4.need_), some (1, rows ci_i64 r4.price_), some (1, rows cl_ci_i64o r6.1), some (1, rows ci_i64 l196), some (1, rows ci_i64 l245), some (7, [[.ref 4 0 l196.length, .ref 5 0 l245.length, .i .i64 r8.most_, .i .i64 r8.yield_, .i .i64 r8.store_, .i .i64 r8.first_, .i .i64 r8.loss_]]), some (1, rows cl_ci_i64o l1029), some (1, rows ci_i64 r15.need_), some (1, rows ci_i64 r15.price_), some (7, [[.ref 4 0 l196.length, .ref 5 0 l245.length, .i .i64 r8.most_, .i .i64 r8.yield_, .i .i64 r8.store_, .i .i64 r8.first_, .i .i64 r8.loss_]])] ((tm 96 [(1, .s u0), (4, .ref 3 0 r6.1.length), (5, .i .i64 r6.2), (7, .ref 7 0 l1029.length), (62, .ref 7 0 l1029.length), (63, .i .i64 1)]) ++ []) hC (VW.condJ h1 (fun h1 => ?_) (fun h1 => ?_))))
   · refine VW.exit ?_
     have e_ := leafR h1
     subst w_1
     exact vnext (k_1027, l1029) h (Ent.tu 11)
   refine VW.skip (VW.seq (VW.block ?_))
   obtain ⟨e1031, ⟨f1032a, f1032b, f1032c, f1032d⟩, h1⟩ := bindI h1
   refine VW.ent (Ent.trans (Ent.grow (m := [none, some (1, rows ci_i64 r4.need_), some (1, rows ci_i64 r4.price_), some (1, rows cl_ci_i64o r6.1), some (1, rows ci_i64 l196), some (1, rows ci_i64 l245), some (7, [[.ref 4 0 l196.length, .ref 5 0 l245.length, .i .i64 r8.most_, .i .i64 r8.yield_, .i .i64 r8.store_, .i .i64 r8.first_, .i .i64 r8.loss_]]), some (1, rows cl_ci_i64o l1029), some (1, rows ci_i64 r15.need_), some (1, rows ci_i64 r15.price_), some (7, [[.ref 4 0 l196.length, .ref 5 0 l245.length, .i .i64 r8.most_, .i .i64 r8.yield_, .i .i64 r8.store_, .i .i64 r8.first_, .i .i64 r8.loss_]])]) [none, some (1, rows ci_i64 r4.need_), some (1, rows ci_i64 r4.price_), some (1, rows cl_ci_i64o r6.1), some (1, rows ci_i64 l196), some (1, rows ci_i64 l245), some (7, [[.ref 4 0 l196.length, .ref 5 0 l245.length, .i .i64 r8.most_, .i .i64 r8.yield_, .i .i64 r8.store_, .i .i64 r8.first_, .i .i64 r8.loss_]]), some (1, rows cl_ci_i64o l1029), some (1, rows ci_i64 r15.need_), some (1, rows ci_i64 r15.price_), some (7, [[.ref 4 0 l196.length, .ref 5 0 l245.length, .i .i64 r8.most_, .i .i64 r8.yield_, .i .i64 r8.store_, .i .i64 r8.first_, .i .i64 r8.loss_]]), none] rfl) (Ent.release (t := (tm 19 [(0, .ref 7 0 l1029.length), (1, .i .i64 k_1027), (5, .i .i64 i_1028), (9, .b (ltI i_1028 (l1029.length : Int)))])) (t' := (tm 19 [(0, .ref 7 0 l1029.length), (1, .i .i64 k_1027), (5, .i .i64 i_1028), (9, .b (ltI i_1028 (l1029.length : Int)))])) (g := ((tm 96 [(1, .s u0), (4, .ref 3 0 r6.1.length), (5, .i .i64 r6.2), (7, .ref 7 0 l1029.length), (62, .ref 7 0 l1029.length), (63, .i .i64 1)]) ++ [])) (g' := ((tm 96 [(1, .s u0), (4, .ref 3 0 r6.1.length), (5, .i .i64 r6.2), (7, .ref 7 0 l1029.length), (62, .ref 7 0 l1029.length), (63, .i .i64 1)]) ++ [])) (m := [none, some (1, rows ci_i64 r4.need_), some (1, rows ci_i64 r4.price_), some (1, rows cl_ci_i64o r6.1), some (1, rows ci_i64 l196), some (1, rows ci_i64 l245), some (7, [[.ref 4 0 l196.length, .ref 5 0 l245.length, .i .i64 r8.most_, .i .i64 r8.yield_, .i .i64 r8.store_, .i .i64 r8.first_, .i .i64 r8.loss_]]), some (1, rows cl_ci_i64o l1029), some (1, rows ci_i64 r15.need_), some (1, rows ci_i64 r15.price_), some (7, [[.ref 4 0 l196.length, .ref 5 0 l245.length, .i .i64 r8.most_, .i .i64 r8.yield_, .i .i64 r8.store_, .i .i64 r8.first_, .i .i64 r8.loss_]]), none]) (n := 1) (n' := 1) (es := rows cl_ci_i64o l1029) (es' := rows ci_i64 e1031) (cs := [.own 1 (rows ci_i64 e1031)]) 7 i_1028.toNat 0 11 [none, some (1, rows ci_i64 r4.need_), some (1, rows ci_i64 r4.price_), some (1, rows cl_ci_i64o r6.1), some (1, rows ci_i64 l196), some (1, rows ci_i64 l245), some (7, [[.ref 4 0 l196.length, .ref 5 0 l245.length, .i .i64 r8.most_, .i .i64 r8.yield_, .i .i64 r8.store_, .i .i64 r8.first_, .i .i64 r8.loss_]]), some (1, (rows cl_ci_i64o l1029).set i_1028.toNat [.ref 11 0 e1031.length]), some (1, rows ci_i64 r15.need_), some (1, rows ci_i64 r15.price_), some (7, [[.ref 4 0 l196.length, .ref 5 0 l245.length, .i .i64 r8.most_, .i .i64 r8.yield_, .i .i64 r8.store_, .i .i64 r8.first_, .i .i64 r8.loss_]]), some (1, rows ci_i64 e1031)] rfl (by simp [f1032a, f1032b, f1032c, f1032d]) rfl rfl (by simp) (by simp) (tm_rel (by simp)) (relL.app (tm_rel (by simp)) trivial) (by simp))) (VW.inlS (VL.inlP 5 (tm 19 [(0, .ref 7 0 l1029.length), (5, .i .i64 i_1028), (15, .ref 11 0 e1031.length), (16, .i .i64 k_1027)]) [none, some (1, rows ci_i64 r4.need_), some (1, rows ci_i64 r4.price_), some (1, rows cl_ci_i64o r6.1), some (1, rows ci_i64 l196), some (1, rows ci_i64 l245), some (7, [[.ref 4 0 l196.length, .ref 5 0 l245.length, .i .i64 r8.most_, .i .i64 r8.yield_, .i .i64 r8.store_, .i .i64 r8.first_, .i .i64 r8.loss_]]), some (1, (rows cl_ci_i64o l1029).set i_1028.toNat [.ref 11 0 e1031.length]), some (1, rows ci_i64 r15.need_), some (1, rows ci_i64 r15.price_), some (7, [[.ref 4 0 l196.length, .ref 5 0 l245.length, .i .i64 r8.most_, .i .i64 r8.yield_, .i .i64 r8.store_, .i .i64 r8.first_, .i .i64 r8.loss_]]), some (1, rows ci_i64 e1031)] ((tm 96 [(1, .s u0), (4, .ref 3 0 r6.1.length), (5, .i .i64 r6.2), (7, .ref 7 0 l1029.length), (62, .ref 7 0 l1029.length), (63, .i .i64 1)]) ++ []) rfl hC (by kernel_rfl) (by simp -implicitDefEqProofs [f1032a, f1032b, f1032c, f1032d]) rfl rfl Try.func33 rfl rfl rfl rfl (tm_length) (VW.ent (s := (⟨(tm 19 [(0, .ref 11 0 e1031.length), (1, .i .i64 k_1027)]), [none, some (1, rows ci_i64 r4.need_), some (1, rows ci_i64 r4.price_), some (1, rows cl_ci_i64o r6.1), some (1, rows ci_i64 l196), some (1, rows ci_i64 l245), some (7, [[.ref 4 0 l196.length, .ref 5 0 l245.length, .i .i64 r8.most_, .i .i64 r8.yield_, .i .i64 r8.store_, .i .i64 r8.first_, .i .i64 r8.loss_]]), some (1, (rows cl_ci_i64o l1029).set i_1028.toNat [.ref 11 0 e1031.length]), some (1, rows ci_i64 r15.need_), some (1, rows ci_i64 r15.price_), some (7, [[.ref 4 0 l196.length, .ref 5 0 l245.length, .i .i64 r8.most_, .i .i64 r8.yield_, .i .i64 r8.store_, .i .i64 r8.first_, .i .i64 r8.loss_]]), some (1, rows ci_i64 e1031)], ((tm 19 [(0, .ref 7 0 l1029.length), (5, .i .i64 i_1028), (15, .ref 11 0 e1031.length), (16, .i .i64 k_1027)]) ++ ((tm 96 [(1, .s u0), (4, .ref 3 0 r6.1.length), (5, .i .i64 r6.2), (7, .ref 7 0 l1029.length), (62, .ref 7 0 l1029.length), (63, .i .i64 1)]) ++ []))⟩ : VS)) (Ent.eqs (by rw [tm_init]; simp) rfl (by simp)) (VW.seq (VW.rA (tm 19 [(0, .ref 11 0 e1031.length), (1, .i .i64 k_1027)]) [none, some (1, rows ci_i64 r4.need_), some (1, rows ci_i64 r4.price_), some (1, rows cl_ci_i64o r6.1), some (1, rows ci_i64 l196), some (1, rows ci_i64 l245), some (7, [[.ref 4 0 l196.length, .ref 5 0 l245.length, .i .i64 r8.most_, .i .i64 r8.yield_, .i .i64 r8.store_, .i .i64 r8.first_, .i .i64 r8.loss_]]), some (1, (rows cl_ci_i64o l1029).set i_1028.toNat [.ref 11 0 e1031.length]), some (1, rows ci_i64 r15.need_), some (1, rows ci_i64 r15.price_), some (7, [[.ref 4 0 l196.length, .ref 5 0 l245.length, .i .i64 r8.most_, .i .i64 r8.yield_, .i .i64 r8.store_, .i .i64 r8.first_, .i .i64 r8.loss_]]), some (1, rows ci_i64 e1031)] ((tm 19 [(0, .ref 7 0 l1029.length), (5, .i .i64 i_1028), (15, .ref 11 0 e1031.length), (16, .i .i64 k_1027)]) ++ ((tm 96 [(1, .s u0), (4, .ref 3 0 r6.1.length), (5, .i .i64 r6.2), (7, .ref 7 0 l1029.length), (62, .ref 7 0 l1029.length), (63, .i .i64 1)]) ++ [])) hC (VW.join (fun (v : Int × (List Int)) => (⟨(tm 19 [(1, .i .i64 v.1)]), [none, some (1, rows ci_i64 r4.need_), some (1, rows ci_i64 r4.price_), some (1, rows cl_ci_i64o r6.1), some (1, rows ci_i64 l196), some (1, rows ci_i64 l245), some (7, [[.ref 4 0 l196.length, .ref 5 0 l245.length, .i .i64 r8.most_, .i .i64 r8.yield_, .i .i64 r8.store_, .i .i64 r8.first_, .i .i64 r8.loss_]]), some (1, (rows cl_ci_i64o l1029).set i_1028.toNat [.ref 11 0 v.2.length]), some (1, rows ci_i64 r15.need_), some (1, rows ci_i64 r15.price_), some (7, [[.ref 4 0 l196.length, .ref 5 0 l245.length, .i .i64 r8.most_, .i .i64 r8.yield_, .i .i64 r8.store_, .i .i64 r8.first_, .i .i64 r8.loss_]]), some (1, rows ci_i64 v.2)], ((tm 19 [(0, .ref 7 0 l1029.length), (5, .i .i64 i_1028), (15, .ref 11 0 v.2.length), (16, .i .i64 k_1027)]) ++ ((tm 96 [(1, .s u0), (4, .ref 3 0 r6.1.length), (5, .i .i64 r6.2), (7, .ref 7 0 l1029.length), (62, .ref 7 0 l1029.length), (63, .i .i64 1)]) ++ []))⟩ : VS)) (fun v => (g3_j4 i_1028 l1029 (v.1) (v.2)).bind (kN (g3_L1) n_1) = some w_1) ?_ ?_))))))
   · refine VW.seq (VW.rA (tm 19 [(0, .ref 11 0 e1031.length), (1, .i .i64 k_1027), (5, .i .i64 0)]) [none, some (1, rows ci_i64 r4.need_), some (1, rows ci_i64 r4.price_), some (1, rows cl_ci_i64o r6.1), some (1, rows ci_i64 l196), some (1, rows ci_i64 l245), some (7, [[.ref 4 0 l196.length, .ref 5 0 l245.length, .i .i64 r8.most_, .i .i64 r8.yield_, .i .i64 r8.store_, .i .i64 r8.first_, .i .i64 r8.loss_]]), some (1, (rows cl_ci_i64o l1029).set i_1028.toNat [.ref 11 0 e1031.length]), some (1, rows ci_i64 r15.need_), some (1, rows ci_i64 r15.price_), some (7, [[.ref 4 0 l196.length, .ref 5 0 l245.length, .i .i64 r8.most_, .i .i64 r8.yield_, .i .i64 r8.store_, .i .i64 r8.first_, .i .i64 r8.loss_]]), some (1, rows ci_i64 e1031)] ((tm 19 [(0, .ref 7 0 l1029.length), (5, .i .i64 i_1028), (15, .ref 11 0 e1031.length), (16, .i .i64 k_1027)]) ++ ((tm 96 [(1, .s u0), (4, .ref 3 0 r6.1.length), (5, .i .i64 r6.2), (7, .ref 7 0 l1029.length), (62, .ref 7 0 l1029.length), (63, .i .i64 1)]) ++ [])) hC (VW.block ?_))
     obtain ⟨w_2, hw_2, h1⟩ := bindE h1
     refine VW.loopO (fun (x : Int × Int × (List Int)) => (⟨(tm 19 [(0, .ref 11 0 x.2.2.length), (1, .i .i64 x.1), (5, .i .i64 x.2.1)]), [none, some (1, rows ci_i64 r4.need_), some (1, rows ci_i64 r4.price_), some (1, rows cl_ci_i64o r6.1), some (1, rows ci_i64 l196), some (1, rows ci_i64 l245), some (7, [[.ref 4 0 l196.length, .ref 5 0 l245.length, .i .i64 r8.most_, .i .i64 r8.yield_, .i .i64 r8.store_, .i .i64 r8.first_, .i .i64 r8.loss_]]), some (1, (rows cl_ci_i64o l1029).set i_1028.toNat [.ref 11 0 x.2.2.length]), some (1, rows ci_i64 r15.need_), some (1, rows ci_i64 r15.price_), some (7, [[.ref 4 0 l196.length, .ref 5 0 l245.length, .i .i64 r8.most_, .i .i64 r8.yield_, .i .i64 r8.store_, .i .i64 r8.first_, .i .i64 r8.loss_]]), some (1, rows ci_i64 x.2.2)], ((tm 19 [(0, .ref 7 0 l1029.length), (5, .i .i64 i_1028), (15, .ref 11 0 x.2.2.length), (16, .i .i64 k_1027)]) ++ ((tm 96 [(1, .s u0), (4, .ref 3 0 r6.1.length), (5, .i .i64 r6.2), (7, .ref 7 0 l1029.length), (62, .ref 7 0 l1029.length), (63, .i .i64 1)]) ++ []))⟩ : VS)) hw_2 (Ent.tu 12) ?_
     rintro n_2 ⟨k_1091, i_1092, l1093⟩ h2
     rw [g3_L2] at h2
     refine VW.seq (VW.seq (VW.rA (tm 19 [(0, .ref 11 0 l1093.length), (1, .i .i64 k_1091), (5, .i .i64 i_1092), (9, .b (ltI i_1092 (l1093.length : Int)))]) [none, some (1, rows ci_i64 r4.need_), some (1, rows ci_i64 r4.price_), some (1, rows cl_ci_i64o r6.1), some (1, rows ci_i64 l196), some (1, rows ci_i64 l245), some (7, [[.ref 4 0 l196.length, .ref 5 0 l245.length, .i .i64 r8.most_, .i .i64 r8.yield_, .i .i64 r8.store_, .i .i64 r8.first_, .i .i64 r8.loss_]]), some (1, (rows cl_ci_i64o l1029).set i_1028.toNat [.ref 11 0 l1093.length]), some (1, rows ci_i64 r15.need_), some (1, rows ci_i64 r15.price_), some (7, [[.ref 4 0 l196.length, .ref 5 0 l245.length, .i .i64 r8.most_, .i .i64 r8.yield_, .i .i64 r8.store_, .i .i64 r8.first_, .i .i64 r8.loss_]]), some (1, rows ci_i64 l1093)] ((tm 19 [(0, .ref 7 0 l1029.length), (5, .i .i64 i_1028), (15, .ref 11 0 l1093.length), (16, .i .i64 k_1027)]) ++ ((tm 96 [(1, .s u0), (4, .ref 3 0 r6.1.length), (5, .i .i64 r6.2), (7, .ref 7 0 l1029.length), (62, .ref 7 0 l1029.length), (63, .i .i64 1)]) ++ [])) hC (VW.condJ h2 (fun h2 => ?_) (fun h2 => ?_))))
     · refine VW.exit ?_
       have e_ := leafR h2
       subst w_2
       exact vnext (k_1091, l1093) h1 (Ent.tu 12)
     refine VW.skip (VW.seq (VW.block (VW.seq ?_)))
     obtain ⟨e1095, ⟨f1096a, f1096b, f1096c, f1096d⟩, h2⟩ := bindI h2
     exact VW.rA (tm 19 [(0, .ref 11 0 (l1093.set i_1092.toNat k_1091).length), (1, .i .i64 k_1091), (5, .i .i64 i_1092)]) [none, some (1, rows ci_i64 r4.need_), some (1, rows ci_i64 r4.price_), some (1, rows cl_ci_i64o r6.1), some (1, rows ci_i64 l196), some (1, rows ci_i64 l245), some (7, [[.ref 4 0 l196.length, .ref 5 0 l245.length, .i .i64 r8.most_, .i .i64 r8.yield_, .i .i64 r8.store_, .i .i64 r8.first_, .i .i64 r8.loss_]]), some (1, (rows cl_ci_i64o l1029).set i_1028.toNat [.ref 11 0 (l1093.set i_1092.toNat k_1091).length]), some (1, rows ci_i64 r15.need_), some (1, rows ci_i64 r15.price_), some (7, [[.ref 4 0 l196.length, .ref 5 0 l245.length, .i .i64 r8.most_, .i .i64 r8.yield_, .i .i64 r8.store_, .i .i64 r8.first_, .i .i64 r8.loss_]]), some (1, rows ci_i64 (l1093.set i_1092.toNat k_1091))] ((tm 19 [(0, .ref 7 0 l1029.length), (5, .i .i64 i_1028), (15, .ref 11 0 (l1093.set i_1092.toNat k_1091).length), (16, .i .i64 k_1027)]) ++ ((tm 96 [(1, .s u0), (4, .ref 3 0 r6.1.length), (5, .i .i64 r6.2), (7, .ref 7 0 l1029.length), (62, .ref 7 0 l1029.length), (63, .i .i64 1)]) ++ [])) hC (VW.rA (tm 19 [(0, .ref 11 0 (l1093.set i_1092.toNat k_1091).length), (1, .i .i64 (aI .i64 k_1091 1)), (5, .i .i64 i_1092)]) [none, some (1, rows ci_i64 r4.need_), some (1, rows ci_i64 r4.price_), some (1, rows cl_ci_i64o r6.1), some (1, rows ci_i64 l196), some (1, rows ci_i64 l245), some (7, [[.ref 4 0 l196.length, .ref 5 0 l245.length, .i .i64 r8.most_, .i .i64 r8.yield_, .i .i64 r8.store_, .i .i64 r8.first_, .i .i64 r8.loss_]]), some (1, (rows cl_ci_i64o l1029).set i_1028.toNat [.ref 11 0 (l1093.set i_1092.toNat k_1091).length]), some (1, rows ci_i64 r15.need_), some (1, rows ci_i64 r15.price_), some (7, [[.ref 4 0 l196.length, .ref 5 0 l245.length, .i .i64 r8.most_, .i .i64 r8.yield_, .i .i64 r8.store_, .i .i64 r8.first_, .i .i64 r8.loss_]]), some (1, rows ci_i64 (l1093.set i_1092.toNat k_1091))] ((tm 19 [(0, .ref 7 0 l1029.length), (5, .i .i64 i_1028), (15, .ref 11 0 (l1093.set i_1092.toNat k_1091).length), (16, .i .i64 k_1027)]) ++ ((tm 96 [(1, .s u0), (4, .ref 3 0 r6.1.length), (5, .i .i64 r6.2), (7, .ref 7 0 l1029.length), (62, .ref 7 0 l1029.length), (63, .i .i64 1)]) ++ [])) hC (VW.rA (tm 19 [(0, .ref 11 0 (l1093.set i_1092.toNat k_1091).length), (1, .i .i64 (aI .i64 k_1091 1)), (5, .i .i64 (aI .i64 i_1092 1))]) [none, some (1, rows ci_i64 r4.need_), some (1, rows ci_i64 r4.price_), some (1, rows cl_ci_i64o r6.1), some (1, rows ci_i64 l196), some (1, rows ci_i64 l245), some (7, [[.ref 4 0 l196.length, .ref 5 0 l245.length, .i .i64 r8.most_, .i .i64 r8.yield_, .i .i64 r8.store_, .i .i64 r8.first_, .i .i64 r8.loss_]]), some (1, (rows cl_ci_i64o l1029).set i_1028.toNat [.ref 11 0 (l1093.set i_1092.toNat k_1091).length]), some (1, rows ci_i64 r15.need_), some (1, rows ci_i64 r15.price_), some (7, [[.ref 4 0 l196.length, .ref 5 0 l245.length, .i .i64 r8.most_, .i .i64 r8.yield_, .i .i64 r8.store_, .i .i64 r8.first_, .i .i64 r8.loss_]]), some (1, rows ci_i64 (l1093.set i_1092.toNat k_1091))] ((tm 19 [(0, .ref 7 0 l1029.length), (5, .i .i64 i_1028), (15, .ref 11 0 (l1093.set i_1092.toNat k_1091).length), (16, .i .i64 k_1027)]) ++ ((tm 96 [(1, .s u0), (4, .ref 3 0 r6.1.length), (5, .i .i64 r6.2), (7, .ref 7 0 l1029.length), (62, .ref 7 0 l1029.length), (63, .i .i64 1)]) ++ [])) hC (vnext (aI .i64 k_1091 1, aI .i64 i_1092 1, (l1093.set i_1092.toNat k_1091)) (leafL h2) (Ent.tu 12)))) (h := by simp -implicitDefEqProofs [f1096a, f1096b, f1096c, f1096d])
   rintro ⟨k_1080, l1081⟩ h1
   replace h1 : (g3_j4 i_1028 l1029 k_1080 l1081).bind _ = _ := h1
   rw [g3_j4] at h1
   exact VW.seq (VW.rE (tm 19 [(4, .i .i64 k_1080)]) [none, some (1, rows ci_i64 r4.need_), some (1, rows ci_i64 r4.price_), some (1, rows cl_ci_i64o r6.1), some (1, rows ci_i64 l196), some (1, rows ci_i64 l245), some (7, [[.ref 4 0 l196.length, .ref 5 0 l245.length, .i .i64 r8.most_, .i .i64 r8.yield_, .i .i64 r8.store_, .i .i64 r8.first_, .i .i64 r8.loss_]]), some (1, (rows cl_ci_i64o l1029).set i_1028.toNat [.ref 11 0 l1081.length]), some (1, rows ci_i64 r15.need_), some (1, rows ci_i64 r15.price_), some (7, [[.ref 4 0 l196.length, .ref 5 0 l245.length, .i .i64 r8.most_, .i .i64 r8.yield_, .i .i64 r8.store_, .i .i64 r8.first_, .i .i64 r8.loss_]]), some (1, rows ci_i64 l1081)] ((tm 19 [(0, .ref 7 0 l1029.length), (5, .i .i64 i_1028), (15, .ref 11 0 l1081.length), (16, .i .i64 k_1027)]) ++ ((tm 96 [(1, .s u0), (4, .ref 3 0 r6.1.length), (5, .i .i64 r6.2), (7, .ref 7 0 l1029.length), (62, .ref 7 0 l1029.length), (63, .i .i64 1)]) ++ [])) hC (Ent.absorb (m := [none, some (1, rows ci_i64 r4.need_), some (1, rows ci_i64 r4.price_), some (1, rows cl_ci_i64o r6.1), some (1, rows ci_i64 l196), some (1, rows ci_i64 l245), some (7, [[.ref 4 0 l196.length, .ref 5 0 l245.length, .i .i64 r8.most_, .i .i64 r8.yield_, .i .i64 r8.store_, .i .i64 r8.first_, .i .i64 r8.loss_]]), some (1, (rows cl_ci_i64o l1029).set i_1028.toNat [.ref 11 0 l1081.length]), some (1, rows ci_i64 r15.need_), some (1, rows ci_i64 r15.price_), some (7, [[.ref 4 0 l196.length, .ref 5 0 l245.length, .i .i64 r8.most_, .i .i64 r8.yield_, .i .i64 r8.store_, .i .i64 r8.first_, .i .i64 r8.loss_]]), some (1, rows ci_i64 l1081)]) (n := 1) (n' := 1) (es := (rows cl_ci_i64o l1029).set i_1028.toNat [.ref 11 0 l1081.length]) (es' := rows ci_i64 l1081) (cs := [.ref 11 0 l1081.length]) 7 i_1028.toNat 0 11 l1081.length [none, some (1, rows ci_i64 r4.need_), some (1, rows ci_i64 r4.price_), some (1, rows cl_ci_i64o r6.1), some (1, rows ci_i64 l196), some (1, rows ci_i64 l245), some (7, [[.ref 4 0 l196.length, .ref 5 0 l245.length, .i .i64 r8.most_, .i .i64 r8.yield_, .i .i64 r8.store_, .i .i64 r8.first_, .i .i64 r8.loss_]]), some (1, rows cl_ci_i64o (l1029.set i_1028.toNat l1081)), some (1, rows ci_i64 r15.need_), some (1, rows ci_i64 r15.price_), some (7, [[.ref 4 0 l196.length, .ref 5 0 l245.length, .i .i64 r8.most_, .i .i64 r8.yield_, .i .i64 r8.store_, .i .i64 r8.first_, .i .i64 r8.loss_]]), none] rfl (by simp [f1032a, f1032b, f1032c, f1032d]) rfl rfl (by decide) (by simp) (by simp) (by simp)) (VW.ret (VIn.ret (v := .i .i64 k_1080) (by simp) (VL.evalP (tm 19 [(0, .ref 7 0 (l1029.set i_1028.toNat l1081).length), (1, .i .i64 k_1080), (5, .i .i64 i_1028)]) [none, some (1, rows ci_i64 r4.need_), some (1, rows ci_i64 r4.price_), some (1, rows cl_ci_i64o r6.1), some (1, rows ci_i64 l196), some (1, rows ci_i64 l245), some (7, [[.ref 4 0 l196.length, .ref 5 0 l245.length, .i .i64 r8.most_, .i .i64 r8.yield_, .i .i64 r8.store_, .i .i64 r8.first_, .i .i64 r8.loss_]]), some (1, rows cl_ci_i64o (l1029.set i_1028.toNat l1081)), some (1, rows ci_i64 r15.need_), some (1, rows ci_i64 r15.price_), some (7, [[.ref 4 0 l196.length, .ref 5 0 l245.length, .i .i64 r8.most_, .i .i64 r8.yield_, .i .i64 r8.store_, .i .i64 r8.first_, .i .i64 r8.loss_]]), none] ((tm 96 [(1, .s u0), (4, .ref 3 0 r6.1.length), (5, .i .i64 r6.2), (7, .ref 7 0 (l1029.set i_1028.toNat l1081).length), (62, .ref 7 0 (l1029.set i_1028.toNat l1081).length), (63, .i .i64 1)]) ++ []) hC (by kernel_rfl) (by simp -implicitDefEqProofs) (VW.rA (tm 19 [(0, .ref 7 0 (l1029.set i_1028.toNat l1081).length), (1, .i .i64 k_1080), (5, .i .i64 (aI .i64 i_1028 1))]) [none, some (1, rows ci_i64 r4.need_), some (1, rows ci_i64 r4.price_), some (1, rows cl_ci_i64o r6.1), some (1, rows ci_i64 l196), some (1, rows ci_i64 l245), some (7, [[.ref 4 0 l196.length, .ref 5 0 l245.length, .i .i64 r8.most_, .i .i64 r8.yield_, .i .i64 r8.store_, .i .i64 r8.first_, .i .i64 r8.loss_]]), some (1, rows cl_ci_i64o (l1029.set i_1028.toNat l1081)), some (1, rows ci_i64 r15.need_), some (1, rows ci_i64 r15.price_), some (7, [[.ref 4 0 l196.length, .ref 5 0 l245.length, .i .i64 r8.most_, .i .i64 r8.yield_, .i .i64 r8.store_, .i .i64 r8.first_, .i .i64 r8.loss_]]), none] ((tm 96 [(1, .s u0), (4, .ref 3 0 r6.1.length), (5, .i .i64 r6.2), (7, .ref 7 0 (l1029.set i_1028.toNat l1081).length), (62, .ref 7 0 (l1029.set i_1028.toNat l1081).length), (63, .i .i64 1)]) ++ []) hC (vnext (k_1080, aI .i64 i_1028 1, (l1029.set i_1028.toNat l1081)) (leafL h1) (Ent.tu 11)))))))
 rintro ⟨k_873, l874⟩ h
 replace h : (g3_j3 aS r6 k_873 l874).bind _ = _ := h
 rw [g3_j3] at h
 refine VW.seq (VW.rA (tm 19 [(4, .i .i64 k_873)]) [none, some (1, rows ci_i64 r4.need_), some (1, rows ci_i64 r4.price_), some (1, rows cl_ci_i64o r6.1), some (1, rows ci_i64 l196), some (1, rows ci_i64 l245), some (7, [[.ref 4 0 l196.length, .ref 5 0 l245.length, .i .i64 r8.most_, .i .i64 r8.yield_, .i .i64 r8.store_, .i .i64 r8.first_, .i .i64 r8.loss_]]), some (1, rows cl_ci_i64o l874), some (1, rows ci_i64 r15.need_), some (1, rows ci_i64 r15.price_), some (7, [[.ref 4 0 l196.length, .ref 5 0 l245.length, .i .i64 r8.most_, .i .i64 r8.yield_, .i .i64 r8.store_, .i .i64 r8.first_, .i .i64 r8.loss_]])] ((tm 96 [(1, .s u0), (4, .ref 3 0 r6.1.length), (5, .i .i64 r6.2), (7, .ref 7 0 l874.length), (62, .ref 7 0 l874.length), (63, .i .i64 1)]) ++ []) hC (VW.ret (VIn.ret (v := .i .i64 k_873) (by simp) (VL.evalP (tm 96 [(1, .s u0), (4, .ref 3 0 r6.1.length), (5, .i .i64 r6.2), (7, .ref 7 0 l874.length), (10, .i .i64 k_873)]) [none, some (1, rows ci_i64 r4.need_), some (1, rows ci_i64 r4.price_), some (1, rows cl_ci_i64o r6.1), some (1, rows ci_i64 l196), some (1, rows ci_i64 l245), some (7, [[.ref 4 0 l196.length, .ref 5 0 l245.length, .i .i64 r8.most_, .i .i64 r8.yield_, .i .i64 r8.store_, .i .i64 r8.first_, .i .i64 r8.loss_]]), some (1, rows cl_ci_i64o l874), some (1, rows ci_i64 r15.need_), some (1, rows ci_i64 r15.price_), some (7, [[.ref 4 0 l196.length, .ref 5 0 l245.length, .i .i64 r8.most_, .i .i64 r8.yield_, .i .i64 r8.store_, .i .i64 r8.first_, .i .i64 r8.loss_]])] [] hC (by kernel_rfl) (by simp -implicitDefEqProofs) (VWf.sq (VWf.of (VW.rA (tm 96 [(1, .s u0), (4, .ref 3 0 r6.1.length), (5, .i .i64 r6.2), (7, .ref 7 0 l874.length), (10, .i .i64 k_873), (11, .i .i64 1)]) [none, some (1, rows ci_i64 r4.need_), some (1, rows ci_i64 r4.price_), some (1, rows cl_ci_i64o r6.1), some (1, rows ci_i64 l196), some (1, rows ci_i64 l245), some (7, [[.ref 4 0 l196.length, .ref 5 0 l245.length, .i .i64 r8.most_, .i .i64 r8.yield_, .i .i64 r8.store_, .i .i64 r8.first_, .i .i64 r8.loss_]]), some (1, rows cl_ci_i64o l874), some (1, rows ci_i64 r15.need_), some (1, rows ci_i64 r15.price_), some (7, [[.ref 4 0 l196.length, .ref 5 0 l245.length, .i .i64 r8.most_, .i .i64 r8.yield_, .i .i64 r8.store_, .i .i64 r8.first_, .i .i64 r8.loss_]])] [] hC (VWf.sq (VWf.of ?_)))))))))
 obtain ⟨r875, q876, h⟩ := bindE h
 have c876 := tl13 q876
 refine VW.rA (tm 96 [(1, .s u0), (4, .ref 3 0 r6.1.length), (5, .i .i64 r6.2), (7, .ref 7 0 l874.length), (10, .i .i64 k_873), (11, .i .i64 r875)]) [none, some (1, rows ci_i64 r4.need_), some (1, rows ci_i64 r4.price_), some (1, rows cl_ci_i64o r6.1), some (1, rows ci_i64 l196), some (1, rows ci_i64 l245), some (7, [[.ref 4 0 l196.length, .ref 5 0 l245.length, .i .i64 r8.most_, .i .i64 r8.yield_, .i .i64 r8.store_, .i .i64 r8.first_, .i .i64 r8.loss_]]), some (1, rows cl_ci_i64o l874), some (1, rows ci_i64 r15.need_), some (1, rows ci_i64 r15.price_), some (7, [[.ref 4 0 l196.length, .ref 5 0 l245.length, .i .i64 r8.most_, .i .i64 r8.yield_, .i .i64 r8.store_, .i .i64 r8.first_, .i .i64 r8.loss_]])] [] hC (VWf.sq (VWf.sq (VWf.of (VW.rA (tm 96 [(1, .s u0), (4, .ref 3 0 r6.1.length), (5, .i .i64 r6.2), (7, .ref 7 0 l874.length), (10, .i .i64 k_873), (11, .i .i64 r875), (69, .b (ltI r875 0))]) [none, some (1, rows ci_i64 r4.need_), some (1, rows ci_i64 r4.price_), some (1, rows cl_ci_i64o r6.1), some (1, rows ci_i64 l196), some (1, rows ci_i64 l245), some (7, [[.ref 4 0 l196.length, .ref 5 0 l245.length, .i .i64 r8.most_, .i .i64 r8.yield_, .i .i64 r8.store_, .i .i64 r8.first_, .i .i64 r8.loss_]]), some (1, rows cl_ci_i64o l874), some (1, rows ci_i64 r15.need_), some (1, rows ci_i64 r15.price_), some (7, [[.ref 4 0 l196.length, .ref 5 0 l245.length, .i .i64 r8.most_, .i .i64 r8.yield_, .i .i64 r8.store_, .i .i64 r8.first_, .i .i64 r8.loss_]])] [] hC (VWf.of (VW.condI h (fun h => ?_) (fun h => ?_))))))) (h := by simp -implicitDefEqProofs [c876])
 · refine VW.seq (VW.rA (tm 96 [(2, .b false)]) [none, some (1, rows ci_i64 r4.need_), some (1, rows ci_i64 r4.price_), some (1, rows cl_ci_i64o r6.1), some (1, rows ci_i64 l196), some (1, rows ci_i64 l245), some (7, [[.ref 4 0 l196.length, .ref 5 0 l245.length, .i .i64 r8.most_, .i .i64 r8.yield_, .i .i64 r8.store_, .i .i64 r8.first_, .i .i64 r8.loss_]]), some (1, rows cl_ci_i64o l874), some (1, rows ci_i64 r15.need_), some (1, rows ci_i64 r15.price_), some (7, [[.ref 4 0 l196.length, .ref 5 0 l245.length, .i .i64 r8.most_, .i .i64 r8.yield_, .i .i64 r8.store_, .i .i64 r8.first_, .i .i64 r8.loss_]])] [] hC ?_)
   obtain rfl := leafS h
   exact VW.ret (VRet.fin (by simp [eB3]))
 refine VW.skip (VWf.sq (VWf.sq (VWf.of (VW.rA (tm 96 [(1, .s u0), (4, .ref 3 0 r6.1.length), (5, .i .i64 r6.2), (7, .ref 7 0 l874.length), (10, .i .i64 k_873), (72, .b (!eqI r875 k_873))]) [none, some (1, rows ci_i64 r4.need_), some (1, rows ci_i64 r4.price_), some (1, rows cl_ci_i64o r6.1), some (1, rows ci_i64 l196), some (1, rows ci_i64 l245), some (7, [[.ref 4 0 l196.length, .ref 5 0 l245.length, .i .i64 r8.most_, .i .i64 r8.yield_, .i .i64 r8.store_, .i .i64 r8.first_, .i .i64 r8.loss_]]), some (1, rows cl_ci_i64o l874), some (1, rows ci_i64 r15.need_), some (1, rows ci_i64 r15.price_), some (7, [[.ref 4 0 l196.length, .ref 5 0 l245.length, .i .i64 r8.most_, .i .i64 r8.yield_, .i .i64 r8.store_, .i .i64 r8.first_, .i .i64 r8.loss_]])] [] hC (VWf.of (VW.condI h (fun h => ?_) (fun h => ?_)))))))
 · refine VW.seq (VW.rA (tm 96 [(2, .b false)]) [none, some (1, rows ci_i64 r4.need_), some (1, rows ci_i64 r4.price_), some (1, rows cl_ci_i64o r6.1), some (1, rows ci_i64 l196), some (1, rows ci_i64 l245), some (7, [[.ref 4 0 l196.length, .ref 5 0 l245.length, .i .i64 r8.most_, .i .i64 r8.yield_, .i .i64 r8.store_, .i .i64 r8.first_, .i .i64 r8.loss_]]), some (1, rows cl_ci_i64o l874), some (1, rows ci_i64 r15.need_), some (1, rows ci_i64 r15.price_), some (7, [[.ref 4 0 l196.length, .ref 5 0 l245.length, .i .i64 r8.most_, .i .i64 r8.yield_, .i .i64 r8.store_, .i .i64 r8.first_, .i .i64 r8.loss_]])] [] hC ?_)
   obtain rfl := leafS h
   exact VW.ret (VRet.fin (by simp [eB3]))
 refine VW.skip (VWf.sq ?_)
 obtain ⟨r879, q880, h⟩ := bindE h
 have c880 : F7 [.agg (pT23 aS)] = some (.agg [.own 1 (rows ci_i64 r879.need_), .own 1 (rows ci_i64 r879.price_), .i .i64 r879.most_, .i .i64 r879.yield_, .i .i64 r879.store_, .i .i64 r879.first_, .i .i64 r879.loss_]) := tells_eq inj7 (a := aS) q880
 try simp only [pT23] at c880
 obtain ⟨r881, q882, h⟩ := bindE h
 have c882 := tl8 q882
 try simp only [pT23] at c882
 refine VWf.rK (d := 1) (tm 96 [(4, .ref 3 0 r6.1.length), (5, .i .i64 r6.2), (7, .ref 7 0 l874.length), (10, .i .i64 k_873), (12, .ref 13 0 r881.1.length), (13, .i .i64 r881.2)]) [none, some (1, rows ci_i64 r4.need_), some (1, rows ci_i64 r4.price_), some (1, rows cl_ci_i64o r6.1), some (1, rows ci_i64 l196), some (1, rows ci_i64 l245), some (7, [[.ref 4 0 l196.length, .ref 5 0 l245.length, .i .i64 r8.most_, .i .i64 r8.yield_, .i .i64 r8.store_, .i .i64 r8.first_, .i .i64 r8.loss_]]), some (1, rows cl_ci_i64o l874), some (1, rows ci_i64 r15.need_), some (1, rows ci_i64 r15.price_), some (7, [[.ref 4 0 l196.length, .ref 5 0 l245.length, .i .i64 r8.most_, .i .i64 r8.yield_, .i .i64 r8.store_, .i .i64 r8.first_, .i .i64 r8.loss_]]), some (1, rows ci_i64 r879.need_), some (1, rows ci_i64 r879.price_), some (1, rows cl_ci_i64o r881.1)] [] (tm 96 [(1, .s u0), (4, .ref 3 0 r6.1.length), (5, .i .i64 r6.2), (7, .ref 7 0 l874.length), (10, .i .i64 k_873), (12, .ref 13 0 r881.1.length), (13, .i .i64 r881.2)]) hC hK (VWf.sq (VWf.sq (VWf.of ?_))) (by simp) (by kernel_rfl) (by simp) (by simp -implicitDefEqProofs [c880, c882]) (by kernel_rfl)
 obtain ⟨r883, q884, h⟩ := bindE h
 have c884 := tl9 q884
 refine VW.rA (tm 96 [(7, .ref 7 0 l874.length), (10, .i .i64 k_873), (87, .b ((!r883) || (!eqI r881.2 r6.2)))]) [none, some (1, rows ci_i64 r4.need_), some (1, rows ci_i64 r4.price_), some (1, rows cl_ci_i64o r6.1), some (1, rows ci_i64 l196), some (1, rows ci_i64 l245), some (7, [[.ref 4 0 l196.length, .ref 5 0 l245.length, .i .i64 r8.most_, .i .i64 r8.yield_, .i .i64 r8.store_, .i .i64 r8.first_, .i .i64 r8.loss_]]), some (1, rows cl_ci_i64o l874), some (1, rows ci_i64 r15.need_), some (1, rows ci_i64 r15.price_), some (7, [[.ref 4 0 l196.length, .ref 5 0 l245.length, .i .i64 r8.most_, .i .i64 r8.yield_, .i .i64 r8.store_, .i .i64 r8.first_, .i .i64 r8.loss_]]), some (1, rows ci_i64 r879.need_), some (1, rows ci_i64 r879.price_), some (1, rows cl_ci_i64o r881.1)] [] hC (VWf.of (VW.condI h (fun h => ?_) (fun h => ?_))) (h := by simp -implicitDefEqProofs [c884])
 · refine VW.seq (VW.rA (tm 96 [(2, .b false)]) [none, some (1, rows ci_i64 r4.need_), some (1, rows ci_i64 r4.price_), some (1, rows cl_ci_i64o r6.1), some (1, rows ci_i64 l196), some (1, rows ci_i64 l245), some (7, [[.ref 4 0 l196.length, .ref 5 0 l245.length, .i .i64 r8.most_, .i .i64 r8.yield_, .i .i64 r8.store_, .i .i64 r8.first_, .i .i64 r8.loss_]]), some (1, rows cl_ci_i64o l874), some (1, rows ci_i64 r15.need_), some (1, rows ci_i64 r15.price_), some (7, [[.ref 4 0 l196.length, .ref 5 0 l245.length, .i .i64 r8.most_, .i .i64 r8.yield_, .i .i64 r8.store_, .i .i64 r8.first_, .i .i64 r8.loss_]]), some (1, rows ci_i64 r879.need_), some (1, rows ci_i64 r879.price_), some (1, rows cl_ci_i64o r881.1)] [] hC ?_)
   obtain rfl := leafS h
   exact VW.ret (VRet.fin (by simp [eB3]))
 refine VW.skip (VWf.sq (VWf.of (VW.rA (tm 96 [(7, .ref 7 0 l874.length), (10, .i .i64 k_873), (11, .i .i64 1)]) [none, some (1, rows ci_i64 r4.need_), some (1, rows ci_i64 r4.price_), some (1, rows cl_ci_i64o r6.1), some (1, rows ci_i64 l196), some (1, rows ci_i64 l245), some (7, [[.ref 4 0 l196.length, .ref 5 0 l245.length, .i .i64 r8.most_, .i .i64 r8.yield_, .i .i64 r8.store_, .i .i64 r8.first_, .i .i64 r8.loss_]]), some (1, rows cl_ci_i64o l874), some (1, rows ci_i64 r15.need_), some (1, rows ci_i64 r15.price_), some (7, [[.ref 4 0 l196.length, .ref 5 0 l245.length, .i .i64 r8.most_, .i .i64 r8.yield_, .i .i64 r8.store_, .i .i64 r8.first_, .i .i64 r8.loss_]]), some (1, rows ci_i64 r879.need_), some (1, rows ci_i64 r879.price_), some (1, rows cl_ci_i64o r881.1)] [] hC (VWf.sq (VWf.of ?_)))))
 obtain ⟨r886, q887, h⟩ := bindE h
 have c887 := tl13 q887
 refine VW.rA (tm 96 [(10, .i .i64 k_873), (11, .i .i64 r886)]) [none, some (1, rows ci_i64 r4.need_), some (1, rows ci_i64 r4.price_), some (1, rows cl_ci_i64o r6.1), some (1, rows ci_i64 l196), some (1, rows ci_i64 l245), some (7, [[.ref 4 0 l196.length, .ref 5 0 l245.length, .i .i64 r8.most_, .i .i64 r8.yield_, .i .i64 r8.store_, .i .i64 r8.first_, .i .i64 r8.loss_]]), some (1, rows cl_ci_i64o l874), some (1, rows ci_i64 r15.need_), some (1, rows ci_i64 r15.price_), some (7, [[.ref 4 0 l196.length, .ref 5 0 l245.length, .i .i64 r8.most_, .i .i64 r8.yield_, .i .i64 r8.store_, .i .i64 r8.first_, .i .i64 r8.loss_]]), some (1, rows ci_i64 r879.need_), some (1, rows ci_i64 r879.price_), some (1, rows cl_ci_i64o r881.1)] [] hC (VWf.sq (VWf.sq (VWf.of (VW.rA (tm 96 [(10, .i .i64 k_873), (11, .i .i64 r886), (92, .b (ltI r886 0))]) [none, some (1, rows ci_i64 r4.need_), some (1, rows ci_i64 r4.price_), some (1, rows cl_ci_i64o r6.1), some (1, rows ci_i64 l196), some (1, rows ci_i64 l245), some (7, [[.ref 4 0 l196.length, .ref 5 0 l245.length, .i .i64 r8.most_, .i .i64 r8.yield_, .i .i64 r8.store_, .i .i64 r8.first_, .i .i64 r8.loss_]]), some (1, rows cl_ci_i64o l874), some (1, rows ci_i64 r15.need_), some (1, rows ci_i64 r15.price_), some (7, [[.ref 4 0 l196.length, .ref 5 0 l245.length, .i .i64 r8.most_, .i .i64 r8.yield_, .i .i64 r8.store_, .i .i64 r8.first_, .i .i64 r8.loss_]]), some (1, rows ci_i64 r879.need_), some (1, rows ci_i64 r879.price_), some (1, rows cl_ci_i64o r881.1)] [] hC (VWf.of (VW.condI h (fun h => ?_) (fun h => ?_))))))) (h := by simp -implicitDefEqProofs [c887])
 · refine VW.seq (VW.rA (tm 96 [(2, .b false)]) [none, some (1, rows ci_i64 r4.need_), some (1, rows ci_i64 r4.price_), some (1, rows cl_ci_i64o r6.1), some (1, rows ci_i64 l196), some (1, rows ci_i64 l245), some (7, [[.ref 4 0 l196.length, .ref 5 0 l245.length, .i .i64 r8.most_, .i .i64 r8.yield_, .i .i64 r8.store_, .i .i64 r8.first_, .i .i64 r8.loss_]]), some (1, rows cl_ci_i64o l874), some (1, rows ci_i64 r15.need_), some (1, rows ci_i64 r15.price_), some (7, [[.ref 4 0 l196.length, .ref 5 0 l245.length, .i .i64 r8.most_, .i .i64 r8.yield_, .i .i64 r8.store_, .i .i64 r8.first_, .i .i64 r8.loss_]]), some (1, rows ci_i64 r879.need_), some (1, rows ci_i64 r879.price_), some (1, rows cl_ci_i64o r881.1)] [] hC ?_)
   obtain rfl := leafS h
   exact VW.ret (VRet.fin (by simp [eB3]))
 refine VW.skip (VWf.sq (VWf.sq (VWf.of (VW.rA (tm 96 [(95, .b (!eqI r886 k_873))]) [none, some (1, rows ci_i64 r4.need_), some (1, rows ci_i64 r4.price_), some (1, rows cl_ci_i64o r6.1), some (1, rows ci_i64 l196), some (1, rows ci_i64 l245), some (7, [[.ref 4 0 l196.length, .ref 5 0 l245.length, .i .i64 r8.most_, .i .i64 r8.yield_, .i .i64 r8.store_, .i .i64 r8.first_, .i .i64 r8.loss_]]), some (1, rows cl_ci_i64o l874), some (1, rows ci_i64 r15.need_), some (1, rows ci_i64 r15.price_), some (7, [[.ref 4 0 l196.length, .ref 5 0 l245.length, .i .i64 r8.most_, .i .i64 r8.yield_, .i .i64 r8.store_, .i .i64 r8.first_, .i .i64 r8.loss_]]), some (1, rows ci_i64 r879.need_), some (1, rows ci_i64 r879.price_), some (1, rows cl_ci_i64o r881.1)] [] hC (VWf.of (VW.condI h (fun h => ?_) (fun h => ?_)))))))
 · refine VW.seq (VW.rA (tm 96 [(2, .b false)]) [none, some (1, rows ci_i64 r4.need_), some (1, rows ci_i64 r4.price_), some (1, rows cl_ci_i64o r6.1), some (1, rows ci_i64 l196), some (1, rows ci_i64 l245), some (7, [[.ref 4 0 l196.length, .ref 5 0 l245.length, .i .i64 r8.most_, .i .i64 r8.yield_, .i .i64 r8.store_, .i .i64 r8.first_, .i .i64 r8.loss_]]), some (1, rows cl_ci_i64o l874), some (1, rows ci_i64 r15.need_), some (1, rows ci_i64 r15.price_), some (7, [[.ref 4 0 l196.length, .ref 5 0 l245.length, .i .i64 r8.most_, .i .i64 r8.yield_, .i .i64 r8.store_, .i .i64 r8.first_, .i .i64 r8.loss_]]), some (1, rows ci_i64 r879.need_), some (1, rows ci_i64 r879.price_), some (1, rows cl_ci_i64o r881.1)] [] hC ?_)
   obtain rfl := leafS h
   exact VW.ret (VRet.fin (by simp [eB3]))
 refine VW.skip (VWf.sq (VWf.of (VW.rA (tm 96 [(2, .b true)]) [none, some (1, rows ci_i64 r4.need_), some (1, rows ci_i64 r4.price_), some (1, rows cl_ci_i64o r6.1), some (1, rows ci_i64 l196), some (1, rows ci_i64 l245), some (7, [[.ref 4 0 l196.length, .ref 5 0 l245.length, .i .i64 r8.most_, .i .i64 r8.yield_, .i .i64 r8.store_, .i .i64 r8.first_, .i .i64 r8.loss_]]), some (1, rows cl_ci_i64o l874), some (1, rows ci_i64 r15.need_), some (1, rows ci_i64 r15.price_), some (7, [[.ref 4 0 l196.length, .ref 5 0 l245.length, .i .i64 r8.most_, .i .i64 r8.yield_, .i .i64 r8.store_, .i .i64 r8.first_, .i .i64 r8.loss_]]), some (1, rows ci_i64 r879.need_), some (1, rows ci_i64 r879.price_), some (1, rows cl_ci_i64o r881.1)] [] hC (VWf.of ?_))))
 obtain rfl := leafS h
 exact VW.ret (VRet.fin (by simp [eB3]))
theorem tl3 {aS : T23} {r : Bool} (h : g3 aS = some r) : F3 [.agg [.sl 1 (rows ci_i64 aS.need_), .sl 1 (rows ci_i64 aS.price_), .i .i64 aS.most_, .i .i64 aS.yield_, .i .i64 aS.store_, .i .i64 aS.first_, .i .i64 aS.loss_]] = some (.b r) := tells_eq inj3 (a := aS) h
end Go.Proofs.Ytboeddbhfnlpaaa
