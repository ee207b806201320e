/- Contracts of the functions that the law reaches: what each tells, as a function in Lean. -/
import Derived.Test.YtboeddbhfnlpaaaK4Ty
import Derived.KernelRfl
namespace Go.Proofs.Ytboeddbhfnlpaaa
open Go.RowKit Go.VL
set_option linter.unusedSimpArgs false
set_option linter.unusedVariables false
set_option maxHeartbeats 40000000
set_option maxRecDepth 100000
noncomputable def g47 (n : Int) (low : Int) (high : Int) : Option (Bool) :=
some (leI low n && leI n high)
def eA47 (a : Int × Int × Int) : List V := [.i .i64 a.1, .i .i64 a.2.1, .i .i64 a.2.2]
def eB47 (r : Bool) : V := .b r
theorem inj47 (a a' : Int × Int × Int) (h : eA47 a = eA47 a') : a = a' := by
  obtain ⟨i1, i2, i3⟩ := a
  obtain ⟨i4, i5, i6⟩ := a'
  simp only [eA47, List.cons.injEq, V.i.injEq, V.b.injEq, V.f.injEq, V.str.injEq, V.sl.injEq, V.agg.injEq, V.cptr.injEq, true_and, and_true] at h
  simp_all
noncomputable def F47 : List V → Option V := tells (fun a => g47 a.1 a.2.1 a.2.2) eA47 eB47
/- loop.example/g01229/spec.l00In -/
theorem ok47 : Tells Try.prog 47 F47 := by
 refine Tells.go 15 Try.func47 rfl rfl rfl (by kernel_rfl) (fun _ => rfl) ?_
 rintro ⟨n, low, high⟩ r h
 simp only [eA47, en, Nat.reduceAdd]
 replace h : (g47 n low high).bind some = some r := bindS h
 rw [g47] at h
 have hC : CEnv.Ok Try.prog [] := trivial
 refine VW.seq (VW.rA (tm 15 [(0, .i .i64 n), (1, .i .i64 low), (2, .i .i64 high)]) [] [] hC (VW.seq (VW.rA (tm 15 [(6, .b (leI low n && leI n high))]) [] [] hC ?_)))
 obtain rfl := leafS h
 exact VW.ret (VRet.fin (by simp [eB47]))
theorem tl47 {n : Int} {low : Int} {high : Int} {r : Bool} (h : g47 n low high = some r) : F47 [.i .i64 n, .i .i64 low, .i .i64 high] = some (.b r) := tells_eq inj47 (a := (n, low, high)) h
noncomputable def g44_j1 : Option (Bool) :=
some true
noncomputable def g44_L1 (list : List Int) (most : Int) : (Int) → Option ((Int) ⊕ ((Unit) ⊕ (Bool)))
| i_34 =>
if ltI i_34 (list.length : Int) = true then
(idx list i_34).bind fun e36 =>
(g47 e36 0 most).bind fun r38 =>
if (!r38) = true then
some (.inr (.inr false))
else
some (.inl (aI .i64 i_34 1))
else
some (.inr (.inl ()))
noncomputable def g44 (list : List Int) (most : Int) : Option (Bool) :=
(loopO (g44_L1 list most) 0).bind fun w => match w with
| .inl y => g44_j1
| .inr r => some r
def eA44 (a : (List Int) × Int) : List V := [.sl 1 (rows ci_i64 a.1), .i .i64 a.2]
def eB44 (r : Bool) : V := .b r
theorem inj44 (a a' : (List Int) × Int) (h : eA44 a = eA44 a') : a = a' := by
  obtain ⟨i7, i8⟩ := a
  obtain ⟨i9, i10⟩ := a'
  simp only [eA44, List.cons.injEq, V.i.injEq, V.b.injEq, V.f.injEq, V.str.injEq, V.sl.injEq, V.agg.injEq, V.cptr.injEq, true_and, and_true] at h
  simp_all [ri ci_i64_inj]
noncomputable def F44 : List V → Option V := tells (fun a => g44 a.1 a.2) eA44 eB44
/- loop.example/g01229/spec.l07Bounded -/
theorem ok44 : Tells Try.prog 44 F44 := by
 refine Tells.go 19 Try.func44 rfl rfl rfl (by kernel_rfl) (fun _ => rfl) ?_
 rintro ⟨list, most⟩ r h
 simp only [eA44, en, Nat.reduceAdd]
 replace h : (g44 list most).bind some = some r := bindS h
 rw [g44] at h
 have hC : CEnv.Ok Try.prog [(47, F47)] := ⟨.inl ok47, trivial⟩
 refine VW.seq (VW.rA (tm 19 [(0, .sl 1 (rows ci_i64 list)), (1, .i .i64 most)]) [] [] hC (VW.join (fun (v : Unit) => (⟨(tm 19 []), [], []⟩ : VS)) (fun v => (g44_j1).bind some = some r) ?_ ?_))
 · refine VW.seq (VW.rA (tm 19 [(0, .sl 1 (rows ci_i64 list)), (1, .i .i64 most), (5, .i .i64 0)]) [] [] hC (VW.block ?_))
   obtain ⟨w_1, hw_1, h⟩ := bindE h
   refine VW.loopO (fun (x : Int) => (⟨(tm 19 [(0, .sl 1 (rows ci_i64 list)), (1, .i .i64 most), (5, .i .i64 x)]), [], []⟩ : VS)) hw_1 (Ent.tu 0) ?_
   rintro n_1 i_34 h1
   rw [g44_L1] at h1
   refine VW.seq (VW.seq (VW.rA (tm 19 [(0, .sl 1 (rows ci_i64 list)), (1, .i .i64 most), (5, .i .i64 i_34), (9, .b (ltI i_34 (list.length : Int)))]) [] [] hC (VW.condJ h1 (fun h1 => ?_) (fun h1 => ?_))))
   · refine VW.exit ?_
     have e_ := leafR h1
     subst w_1
     exact vnext () h (Ent.tu 0)
   refine VW.skip (VW.seq (VW.block (VW.seq ?_)))
   obtain ⟨e36, ⟨f37a, f37b, f37c, f37d⟩, h1⟩ := bindI h1
   obtain ⟨r38, q39, h1⟩ := bindE h1
   have c39 := tl47 q39
   refine VW.rA (tm 19 [(0, .sl 1 (rows ci_i64 list)), (1, .i .i64 most), (5, .i .i64 i_34), (18, .b (!r38))]) [] [] hC (VW.condI h1 (fun h1 => ?_) (fun h1 => ?_)) (h := by simp -implicitDefEqProofs [f37a, f37b, f37c, f37d, c39])
   · refine VW.seq (VW.rA (tm 19 [(4, .b false)]) [] [] hC ?_)
     have e_ := leafR h1
     subst w_1
     obtain rfl := leafS h
     exact VW.ret (VRet.fin (by simp [eB44]))
   exact VW.skip (VW.rA (tm 19 [(0, .sl 1 (rows ci_i64 list)), (1, .i .i64 most), (5, .i .i64 (aI .i64 i_34 1))]) [] [] hC (vnext (aI .i64 i_34 1) (leafL h1) (Ent.tu 0)))
 rintro _ h
 replace h : (g44_j1).bind _ = _ := h
 rw [g44_j1] at h
 refine VW.seq (VW.rA (tm 19 [(4, .b true)]) [] [] hC ?_)
 obtain rfl := leafS h
 exact VW.ret (VRet.fin (by simp [eB44]))
theorem tl44 {list : List Int} {most : Int} {r : Bool} (h : g44 list most = some r) : F44 [.sl 1 (rows ci_i64 list), .i .i64 most] = some (.b r) := tells_eq inj44 (a := (list, most)) h
noncomputable def g27 (s : T23) : Option (Bool) :=
(g47 (s.need_.length : Int) 1 24).bind fun r1 =>
(if (r1 && eqI (s.price_.length : Int) (s.need_.length : Int)) = true then (g44 s.need_ 200).bind fun r3 => some r3 else some false).bind fun w5 =>
(if w5 = true then (g44 s.price_ 1000).bind fun r6 => some r6 else some false).bind fun w8 =>
(if w8 = true then (g47 s.most_ 0 20).bind fun r9 => some r9 else some false).bind fun w11 =>
(if w11 = true then (g47 s.yield_ 1 40).bind fun r12 => some r12 else some false).bind fun w14 =>
(if w14 = true then (g47 s.store_ 0 60).bind fun r15 => some r15 else some false).bind fun w17 =>
(if w17 = true then (g47 s.first_ 0 s.store_).bind fun r18 => some r18 else some false).bind fun w20 =>
(if w20 = true then (g47 s.loss_ 0 100).bind fun r21 => some r21 else some false).bind fun w23 =>
some w23
def eA27 (a : T23) : List V := [.cptr (pT23 a) 0]
def eB27 (r : Bool) : V := .b r
theorem inj27 (a a' : T23) (h : eA27 a = eA27 a') : a = a' := by
  obtain ⟨i11, i12, i13, i14, i15, i16, i17⟩ := a
  obtain ⟨i18, i19, i20, i21, i22, i23, i24⟩ := a'
  simp only [eA27, pT23, List.cons.injEq, V.i.injEq, V.b.injEq, V.f.injEq, V.str.injEq, V.sl.injEq, V.agg.injEq, V.cptr.injEq, true_and, and_true] at h
  simp_all [ri ci_i64_inj]
noncomputable def F27 : List V → Option V := tells (fun a => g27 a) eA27 eB27
/- loop.example/g01229/spec.l07Ok -/
theorem ok27 : Tells Try.prog 27 F27 := by
 refine Tells.go 75 Try.func27 rfl rfl rfl (by kernel_rfl) (fun _ => rfl) ?_
 rintro s r h
 simp only [eA27, en, Nat.reduceAdd]
 replace h : (g27 s).bind some = some r := bindS h
 rw [g27] at h
 have hC : CEnv.Ok Try.prog [(44, F44), (47, F47)] := ⟨.inl ok44, .inl ok47, trivial⟩
 refine VW.seq (VW.rA (tm 75 [(0, .cptr (pT23 s) 0)]) [] [] hC (VW.seq ?_))
 obtain ⟨r1, q2, h⟩ := bindE h
 have c2 := tl47 q2
 obtain ⟨w5, q24, h⟩ := bindE h
 obtain ⟨w8, q25, h⟩ := bindE h
 obtain ⟨w11, q26, h⟩ := bindE h
 obtain ⟨w14, q27, h⟩ := bindE h
 obtain ⟨w17, q28, h⟩ := bindE h
 obtain ⟨w20, q29, h⟩ := bindE h
 obtain ⟨w23, q30, h⟩ := bindE h
 refine VW.evalDA (tm 75 [(2, .b w23)]) [] [] hC mixed (by kernel_rfl) (by
     obtain ⟨q31, q24⟩ | ⟨q31, rfl⟩ := gdT q24
     · obtain ⟨r3, q4, q24⟩ := bindQ q24
       have c4 := tl44 q4
       obtain rfl := Option.some.inj q24
       obtain ⟨q32, q25⟩ | ⟨q32, rfl⟩ := gdT q25
       · obtain ⟨r6, q7, q25⟩ := bindQ q25
         have c7 := tl44 q7
         obtain rfl := Option.some.inj q25
         obtain ⟨q33, q26⟩ | ⟨q33, rfl⟩ := gdT q26
         · obtain ⟨r9, q10, q26⟩ := bindQ q26
           have c10 := tl47 q10
           obtain rfl := Option.some.inj q26
           obtain ⟨q34, q27⟩ | ⟨q34, rfl⟩ := gdT q27
           · obtain ⟨r12, q13, q27⟩ := bindQ q27
             have c13 := tl47 q13
             obtain rfl := Option.some.inj q27
             obtain ⟨q35, q28⟩ | ⟨q35, rfl⟩ := gdT q28
             · obtain ⟨r15, q16, q28⟩ := bindQ q28
               have c16 := tl47 q16
               obtain rfl := Option.some.inj q28
               obtain ⟨q36, q29⟩ | ⟨q36, rfl⟩ := gdT q29
               · obtain ⟨r18, q19, q29⟩ := bindQ q29
                 have c19 := tl47 q19
                 obtain rfl := Option.some.inj q29
                 obtain ⟨q37, q30⟩ | ⟨q37, rfl⟩ := gdT q30
                 · obtain ⟨r21, q22, q30⟩ := bindQ q30
                   have c22 := tl47 q22
                   obtain rfl := Option.some.inj q30
                   simp -implicitDefEqProofs [c2, q31, c4, q32, c7, q33, c10, q34, c13, q35, c16, q36, c19, q37, c22, pT23]
                 simp -implicitDefEqProofs [c2, q31, c4, q32, c7, q33, c10, q34, c13, q35, c16, q36, c19, q37, pT23]
               obtain ⟨q38, q30⟩ | ⟨q38, rfl⟩ := gdT q30
               · exact absurd q38 (by simp)
               simp -implicitDefEqProofs [c2, q31, c4, q32, c7, q33, c10, q34, c13, q35, c16, q36, q38, pT23]
             obtain ⟨q39, q29⟩ | ⟨q39, rfl⟩ := gdT q29
             · exact absurd q39 (by simp)
             obtain ⟨q40, q30⟩ | ⟨q40, rfl⟩ := gdT q30
             · exact absurd q40 (by simp)
             simp -implicitDefEqProofs [c2, q31, c4, q32, c7, q33, c10, q34, c13, q35, q39, q40, pT23]
           obtain ⟨q41, q28⟩ | ⟨q41, rfl⟩ := gdT q28
           · exact absurd q41 (by simp)
           obtain ⟨q42, q29⟩ | ⟨q42, rfl⟩ := gdT q29
           · exact absurd q42 (by simp)
           obtain ⟨q43, q30⟩ | ⟨q43, rfl⟩ := gdT q30
           · exact absurd q43 (by simp)
           simp -implicitDefEqProofs [c2, q31, c4, q32, c7, q33, c10, q34, q41, q42, q43, pT23]
         obtain ⟨q44, q27⟩ | ⟨q44, rfl⟩ := gdT q27
         · exact absurd q44 (by simp)
         obtain ⟨q45, q28⟩ | ⟨q45, rfl⟩ := gdT q28
         · exact absurd q45 (by simp)
         obtain ⟨q46, q29⟩ | ⟨q46, rfl⟩ := gdT q29
         · exact absurd q46 (by simp)
         obtain ⟨q47, q30⟩ | ⟨q47, rfl⟩ := gdT q30
         · exact absurd q47 (by simp)
         simp -implicitDefEqProofs [c2, q31, c4, q32, c7, q33, q44, q45, q46, q47, pT23]
       obtain ⟨q48, q26⟩ | ⟨q48, rfl⟩ := gdT q26
       · exact absurd q48 (by simp)
       obtain ⟨q49, q27⟩ | ⟨q49, rfl⟩ := gdT q27
       · exact absurd q49 (by simp)
       obtain ⟨q50, q28⟩ | ⟨q50, rfl⟩ := gdT q28
       · exact absurd q50 (by simp)
       obtain ⟨q51, q29⟩ | ⟨q51, rfl⟩ := gdT q29
       · exact absurd q51 (by simp)
       obtain ⟨q52, q30⟩ | ⟨q52, rfl⟩ := gdT q30
       · exact absurd q52 (by simp)
       simp -implicitDefEqProofs [c2, q31, c4, q32, q48, q49, q50, q51, q52, pT23]
     obtain ⟨q53, q25⟩ | ⟨q53, rfl⟩ := gdT q25
     · exact absurd q53 (by simp)
     obtain ⟨q54, q26⟩ | ⟨q54, rfl⟩ := gdT q26
     · exact absurd q54 (by simp)
     obtain ⟨q55, q27⟩ | ⟨q55, rfl⟩ := gdT q27
     · exact absurd q55 (by simp)
     obtain ⟨q56, q28⟩ | ⟨q56, rfl⟩ := gdT q28
     · exact absurd q56 (by simp)
     obtain ⟨q57, q29⟩ | ⟨q57, rfl⟩ := gdT q29
     · exact absurd q57 (by simp)
     obtain ⟨q58, q30⟩ | ⟨q58, rfl⟩ := gdT q30
     · exact absurd q58 (by simp)
     simp -implicitDefEqProofs [c2, q31, q53, q54, q55, q56, q57, q58, pT23]) ?_
 obtain rfl := leafS h
 exact VW.ret (VRet.fin (by simp [eB27]))
theorem tl27 {s : T23} {r : Bool} (h : g27 s = some r) : F27 [.cptr [.sl 1 (rows ci_i64 s.need_), .sl 1 (rows ci_i64 s.price_), .i .i64 s.most_, .i .i64 s.yield_, .i .i64 s.store_, .i .i64 s.first_, .i .i64 s.loss_] 0] = some (.b r) := tells_eq inj27 (a := s) h
noncomputable def g51 (a : Int) (b : Int) : Option (Int) :=
if ltI b a = true then
some b
else
some a
def eA51 (a : Int × Int) : List V := [.i .i64 a.1, .i .i64 a.2]
def eB51 (r : Int) : V := .i .i64 r
theorem inj51 (a a' : Int × Int) (h : eA51 a = eA51 a') : a = a' := by
  obtain ⟨i25, i26⟩ := a
  obtain ⟨i27, i28⟩ := a'
  simp only [eA51, List.cons.injEq, V.i.injEq, V.b.injEq, V.f.injEq, V.str.injEq, V.sl.injEq, V.agg.injEq, V.cptr.injEq, true_and, and_true] at h
  simp_all
noncomputable def F51 : List V → Option V := tells (fun a => g51 a.1 a.2) eA51 eB51
/- loop.example/g01229/spec.l07Least -/
theorem ok51 : Tells Try.prog 51 F51 := by
 refine Tells.go 10 Try.func51 rfl rfl rfl (by kernel_rfl) (fun _ => rfl) ?_
 rintro ⟨a, b⟩ r h
 simp only [eA51, en, Nat.reduceAdd]
 replace h : (g51 a b).bind some = some r := bindS h
 rw [g51] at h
 have hC : CEnv.Ok Try.prog [] := trivial
 refine VW.seq (VW.rA (tm 10 [(0, .i .i64 a), (1, .i .i64 b)]) [] [] hC (VW.seq (VW.seq (VW.rA (tm 10 [(0, .i .i64 a), (1, .i .i64 b), (7, .b (ltI b a))]) [] [] hC (VW.condI h (fun h => ?_) (fun h => ?_))))))
 · refine VW.seq (VW.rA (tm 10 [(4, .i .i64 b)]) [] [] hC ?_)
   obtain rfl := leafS h
   exact VW.ret (VRet.fin (by simp [eB51]))
 refine VW.skip (VW.seq (VW.rA (tm 10 [(4, .i .i64 a)]) [] [] hC ?_))
 obtain rfl := leafS h
 exact VW.ret (VRet.fin (by simp [eB51]))
theorem tl51 {a : Int} {b : Int} {r : Int} (h : g51 a b = some r) : F51 [.i .i64 a, .i .i64 b] = some (.i .i64 r) := tells_eq inj51 (a := (a, b)) h
noncomputable def g45 (s : T23) (slot : Int) (store : Int) (logs : Int) : Option (Int) :=
(idx s.need_ slot).bind fun e1 =>
if ltI (sI .i64 (aI .i64 store (mI .i64 logs s.yield_)) e1) 0 = true then
some (-1)
else
(dI .i64 (mI .i64 (sI .i64 (aI .i64 store (mI .i64 logs s.yield_)) e1) s.loss_) 100).bind fun d4 =>
(g51 (sI .i64 (sI .i64 (aI .i64 store (mI .i64 logs s.yield_)) e1) d4) s.store_).bind fun r6 =>
some r6
def eA45 (a : T23 × Int × Int × Int) : List V := [.cptr (pT23 a.1) 0, .i .i64 a.2.1, .i .i64 a.2.2.1, .i .i64 a.2.2.2]
def eB45 (r : Int) : V := .i .i64 r
theorem inj45 (a a' : T23 × Int × Int × Int) (h : eA45 a = eA45 a') : a = a' := by
  obtain ⟨⟨i29, i30, i31, i32, i33, i34, i35⟩, i36, i37, i38⟩ := a
  obtain ⟨⟨i39, i40, i41, i42, i43, i44, i45⟩, i46, i47, i48⟩ := a'
  simp only [eA45, pT23, List.cons.injEq, V.i.injEq, V.b.injEq, V.f.injEq, V.str.injEq, V.sl.injEq, V.agg.injEq, V.cptr.injEq, true_and, and_true] at h
  simp_all [ri ci_i64_inj]
noncomputable def F45 : List V → Option V := tells (fun a => g45 a.1 a.2.1 a.2.2.1 a.2.2.2) eA45 eB45
/- loop.example/g01229/spec.l07After -/
theorem ok45 : Tells Try.prog 45 F45 := by
 refine Tells.go 42 Try.func45 rfl rfl rfl (by kernel_rfl) (fun _ => rfl) ?_
 rintro ⟨s, slot, store, logs⟩ r h
 simp only [eA45, en, Nat.reduceAdd]
 replace h : (g45 s slot store logs).bind some = some r := bindS h
 rw [g45] at h
 have hC : CEnv.Ok Try.prog [(51, F51)] := ⟨.inl ok51, trivial⟩
 refine VW.seq (VW.rA (tm 42 [(0, .cptr (pT23 s) 0), (1, .i .i64 slot), (2, .i .i64 store), (3, .i .i64 logs)]) [] [] hC (VW.seq ?_))
 obtain ⟨e1, ⟨f2a, f2b, f2c, f2d⟩, h⟩ := bindI h
 refine VW.rD (tm 42 [(0, .cptr (pT23 s) 0), (9, .i .i64 (sI .i64 (aI .i64 store (mI .i64 logs s.yield_)) e1))]) [] [] hC mixed (VW.seq (VW.seq (VW.rA (tm 42 [(0, .cptr (pT23 s) 0), (9, .i .i64 (sI .i64 (aI .i64 store (mI .i64 logs s.yield_)) e1)), (27, .b (ltI (sI .i64 (aI .i64 store (mI .i64 logs s.yield_)) e1) 0))]) [] [] hC (VW.condI h (fun h => ?_) (fun h => ?_))))) (h := by simp -implicitDefEqProofs [f2a, f2b, f2c, f2d])
 · refine VW.seq (VW.rA (tm 42 [(8, .i .i64 (-1))]) [] [] hC ?_)
   obtain rfl := leafS h
   exact VW.ret (VRet.fin (by simp [eB45]))
 refine VW.skip (VW.seq ?_)
 obtain ⟨d4, q5, h⟩ := bindE h
 obtain ⟨r6, q7, h⟩ := bindE h
 have c7 := tl51 q7
 refine VW.rD (tm 42 [(8, .i .i64 r6)]) [] [] hC mixed ?_ (h := by simp -implicitDefEqProofs [q5, c7])
 obtain rfl := leafS h
 exact VW.ret (VRet.fin (by simp [eB45]))
theorem tl45 {s : T23} {slot : Int} {store : Int} {logs : Int} {r : Int} (h : g45 s slot store logs = some r) : F45 [.cptr [.sl 1 (rows ci_i64 s.need_), .sl 1 (rows ci_i64 s.price_), .i .i64 s.most_, .i .i64 s.yield_, .i .i64 s.store_, .i .i64 s.first_, .i .i64 s.loss_] 0, .i .i64 slot, .i .i64 store, .i .i64 logs] = some (.i .i64 r) := tells_eq inj45 (a := (s, slot, store, logs)) h
noncomputable def g28_j1 (l8579 : List (List Int)) : Option (List (List Int)) :=
some l8579
noncomputable def g28_j2 (k_14294 : Int) (l15724 : List (List Int)) : Option ((Int × (List (List Int))) ⊕ (List (List Int))) :=
some (.inl (sI .i64 k_14294 1, l15724))
noncomputable def g28_j3 (l14295 : List (List Int)) (k_14294 : Int) (l16437 : List Int) : Option ((Int × (List (List Int))) ⊕ (List (List Int))) :=
(idx l14295 k_14294).bind fun e16438 =>
g28_j2 k_14294 (l14295.set k_14294.toNat l16437)
noncomputable def g28_j4 (i_16914 : Int) (l17034 : List Int) : Option ((Int × (List Int)) ⊕ (List Int)) :=
some (.inl (aI .i64 i_16914 1, l17034))
noncomputable def g28_j5 (l16915 : List Int) (i_16914 : Int) (least_17092 : Int) : Option ((Int × (List Int)) ⊕ (List Int)) :=
(appK 8 l16915 [least_17092]).bind fun u17093 =>
g28_j4 i_16914 (l16915 ++ [least_17092])
noncomputable def g28_L3 (s : T23) (k_14294 : Int) (i_16914 : Int) (l14295 : List (List Int)) : (Int × Int) → Option ((Int × Int) ⊕ (Int))
| (least_17132, logs_17133) =>
if leI logs_17133 s.most_ = true then
(g45 s k_14294 i_16914 logs_17133).bind fun r17135 =>
(if ltI r17135 0 = true then some true else (idx l14295 (aI .i64 k_14294 1)).bind fun e17137 => (idx e17137 r17135).bind fun e17139 => some (eqI e17139 (-1))).bind fun w17141 =>
if w17141 = true then
some (.inl (least_17132, aI .i64 logs_17133 1))
else
(idx s.price_ k_14294).bind fun e17143 =>
(idx l14295 (aI .i64 k_14294 1)).bind fun e17145 =>
(idx e17145 r17135).bind fun e17147 =>
if (eqI least_17132 (-1) || ltI (aI .i64 (mI .i64 e17143 logs_17133) e17147) least_17132) = true then
some (.inl (aI .i64 (mI .i64 e17143 logs_17133) e17147, aI .i64 logs_17133 1))
else
some (.inl (least_17132, aI .i64 logs_17133 1))
else
some (.inr least_17132)
noncomputable def g28_L2 (s : T23) (k_14294 : Int) (l14295 : List (List Int)) : (Int × (List Int)) → Option ((Int × (List Int)) ⊕ (List Int))
| (i_16914, l16915) =>
if leI i_16914 s.store_ = true then
(loopO (g28_L3 s k_14294 i_16914 l14295) ((-1), 0)).bind fun w => g28_j5 l16915 i_16914 w
else
some (.inr l16915)
noncomputable def g28_L1 (s : T23) : (Int × (List (List Int))) → Option ((Int × (List (List Int))) ⊕ (List (List Int)))
| (k_14294, l14295) =>
if leI 0 k_14294 = true then
(loopO (g28_L2 s k_14294 l14295) (0, [])).bind fun w => g28_j3 l14295 k_14294 w
else
some (.inr l14295)
noncomputable def g28 (s : T23) : Option (List (List Int)) :=
(mk 24 (aI .i64 (s.need_.length : Int) 1)).bind fun u1 =>
(mk 8 (aI .i64 s.store_ 1)).bind fun u3 =>
(idx (List.replicate (aI .i64 (s.need_.length : Int) 1).toNat ([] : List Int)) (s.need_.length : Int)).bind fun e5 =>
(loopO (g28_L1 s) (sI .i64 (s.need_.length : Int) 1, ((List.replicate (aI .i64 (s.need_.length : Int) 1).toNat ([] : List Int)).set ((s.need_.length : Int).toNat) (List.replicate (aI .i64 s.store_ 1).toNat 0)))).bind fun w => g28_j1 w
def eA28 (a : T23) : List V := [.cptr (pT23 a) 0]
def eB28 (r : List (List Int)) : V := .own 1 (rows cl_ci_i64o r)
theorem inj28 (a a' : T23) (h : eA28 a = eA28 a') : a = a' := by
  obtain ⟨i49, i50, i51, i52, i53, i54, i55⟩ := a
  obtain ⟨i56, i57, i58, i59, i60, i61, i62⟩ := a'
  simp only [eA28, pT23, List.cons.injEq, V.i.injEq, V.b.injEq, V.f.injEq, V.str.injEq, V.sl.injEq, V.agg.injEq, V.cptr.injEq, true_and, and_true] at h
  simp_all [ri ci_i64_inj]
noncomputable def F28 : List V → Option V := tells (fun a => g28 a) eA28 eB28
/- loop.example/g01229/spec.l07Values -/
theorem ok28 : Tells Try.prog 28 F28 := by
 refine Tells.go 105 Try.func28 rfl rfl rfl (by kernel_rfl) (fun _ => rfl) ?_
 rintro s r h
 simp only [eA28, en, Nat.reduceAdd]
 replace h : (g28 s).bind some = some r := bindS h
 rw [g28] at h
 have hC : CEnv.Ok Try.prog [(45, F45)] := ⟨.inl ok45, trivial⟩
 refine VW.seq (VW.rA (tm 105 [(0, .cptr (pT23 s) 0)]) [] [] hC (VW.seq (VW.rA (tm 105 [(0, .cptr (pT23 s) 0), (3, .i .i64 (s.need_.length : Int))]) [] [] hC (VW.seq ?_))))
 obtain ⟨u1, ⟨f2a, f2b, f2c⟩, h⟩ := bindM h
 try simp only [Int.toNat_natCast, Int.reduceToNat, List.length_cons, List.length_nil, Nat.reduceAdd, Nat.zero_add] at f2a f2b f2c
 refine VW.rE (tm 105 [(0, .cptr (pT23 s) 0), (3, .i .i64 (s.need_.length : Int)), (4, .ref 0 0 (List.replicate (aI .i64 (s.need_.length : Int) 1).toNat ([] : List Int)).length)]) [some (1, List.replicate (aI .i64 (s.need_.length : Int) 1).toNat [.nil])] [] hC (Ent.nilown (m := [some (1, List.replicate (aI .i64 (s.need_.length : Int) 1).toNat [.nil])]) 0 ((aI .i64 (s.need_.length : Int) 1).toNat) 1 [some (1, rows cl_ci_i64o (List.replicate (aI .i64 (s.need_.length : Int) 1).toNat ([] : List Int)))] (by simp) (by simp)) (VW.seq ?_) (h := by simp -implicitDefEqProofs [f2a, f2b, f2c])
 obtain ⟨u3, ⟨f4a, f4b, f4c⟩, h⟩ := bindM h
 try simp only [Int.toNat_natCast, Int.reduceToNat, List.length_cons, List.length_nil, Nat.reduceAdd, Nat.zero_add] at f4a f4b f4c
 obtain ⟨e5, ⟨f6a, f6b, f6c, f6d⟩, h⟩ := bindI h
 have f6s := f6c
 simp at f6s
 try simp only [Int.toNat_natCast, Int.reduceToNat] at f6a f6b f6c f6d
 refine VW.rE (tm 105 [(0, .cptr (pT23 s) 0), (3, .i .i64 (s.need_.length : Int)), (4, .ref 0 0 (List.replicate (aI .i64 (s.need_.length : Int) 1).toNat ([] : List Int)).length)]) [some (1, (rows cl_ci_i64o (List.replicate (aI .i64 (s.need_.length : Int) 1).toNat ([] : List Int))).set ((s.need_.length : Int).toNat) [.ref 1 0 (List.replicate (aI .i64 s.store_ 1).toNat 0).length]), some (1, rows ci_i64 (List.replicate (aI .i64 s.store_ 1).toNat 0))] [] hC (Ent.absorb (m := [some (1, (rows cl_ci_i64o (List.replicate (aI .i64 (s.need_.length : Int) 1).toNat ([] : List Int))).set ((s.need_.length : Int).toNat) [.ref 1 0 (List.replicate (aI .i64 s.store_ 1).toNat 0).length]), some (1, rows ci_i64 (List.replicate (aI .i64 s.store_ 1).toNat 0))]) (n := 1) (n' := 1) (es := (rows cl_ci_i64o (List.replicate (aI .i64 (s.need_.length : Int) 1).toNat ([] : List Int))).set ((s.need_.length : Int).toNat) [.ref 1 0 (List.replicate (aI .i64 s.store_ 1).toNat 0).length]) (es' := rows ci_i64 (List.replicate (aI .i64 s.store_ 1).toNat 0)) (cs := [.ref 1 0 (List.replicate (aI .i64 s.store_ 1).toNat 0).length]) 0 ((s.need_.length : Int).toNat) 0 1 (List.replicate (aI .i64 s.store_ 1).toNat 0).length [some (1, rows cl_ci_i64o ((List.replicate (aI .i64 (s.need_.length : Int) 1).toNat ([] : List Int)).set ((s.need_.length : Int).toNat) (List.replicate (aI .i64 s.store_ 1).toNat 0))), none] rfl (by simp [f6a, f6b, f6c, f6d, f6s]) rfl rfl (by decide) (by simp) (by simp) (by simp)) (VW.join (fun (v : List (List Int)) => (⟨(tm 105 [(4, .ref 0 0 v.length)]), [some (1, rows cl_ci_i64o v), none], []⟩ : VS)) (fun v => (g28_j1 (v)).bind some = some r) ?_ ?_) (h := by simp -implicitDefEqProofs [f4a, f4b, f4c, f6a, f6b, f6c, f6d, f6s])
 · refine VW.seq (VW.rA (tm 105 [(0, .cptr (pT23 s) 0), (4, .ref 0 0 ((List.replicate (aI .i64 (s.need_.length : Int) 1).toNat ([] : List Int)).set ((s.need_.length : Int).toNat) (List.replicate (aI .i64 s.store_ 1).toNat 0)).length), (5, .i .i64 (sI .i64 (s.need_.length : Int) 1))]) [some (1, rows cl_ci_i64o ((List.replicate (aI .i64 (s.need_.length : Int) 1).toNat ([] : List Int)).set ((s.need_.length : Int).toNat) (List.replicate (aI .i64 s.store_ 1).toNat 0))), none] [] hC (VW.block ?_))
   obtain ⟨w_1, hw_1, h⟩ := bindE h
   refine VW.loopO (fun (x : Int × (List (List Int))) => (⟨(tm 105 [(0, .cptr (pT23 s) 0), (4, .ref 0 0 x.2.length), (5, .i .i64 x.1)]), [some (1, rows cl_ci_i64o x.2), none], []⟩ : VS)) hw_1 (Ent.tu 2) ?_
   rintro n_1 ⟨k_14294, l14295⟩ h1
   rw [g28_L1] at h1
   refine VW.seq (VW.seq (VW.rA (tm 105 [(0, .cptr (pT23 s) 0), (4, .ref 0 0 l14295.length), (5, .i .i64 k_14294), (32, .b (leI 0 k_14294))]) [some (1, rows cl_ci_i64o l14295), none] [] hC (VW.condJ h1 (fun h1 => ?_) (fun h1 => ?_))))
   · refine VW.exit ?_
     have e_ := leafR h1
     subst w_1
     exact vnext l14295 h (Ent.tu 2)
   refine VW.skip (VW.join (fun (v : List (List Int)) => (⟨(tm 105 [(0, .cptr (pT23 s) 0), (4, .ref 0 0 v.length), (5, .i .i64 k_14294)]), [some (1, rows cl_ci_i64o v), none], []⟩ : VS)) (fun v => (g28_j2 k_14294 (v)).bind (kN (g28_L1 s) n_1) = some w_1) ?_ ?_)
   · refine VW.block (VW.seq (VW.rA (tm 105 [(0, .cptr (pT23 s) 0), (4, .ref 0 0 l14295.length), (5, .i .i64 k_14294), (6, .ref 2 0 0)]) [some (1, rows cl_ci_i64o l14295), none, some (1, rows ci_i64 [])] [] hC (VW.join (fun (v : List Int) => (⟨(tm 105 [(0, .cptr (pT23 s) 0), (4, .ref 0 0 l14295.length), (5, .i .i64 k_14294), (6, .ref 2 0 v.length)]), [some (1, rows cl_ci_i64o l14295), none, some (1, rows ci_i64 v)], []⟩ : VS)) (fun v => (g28_j3 l14295 k_14294 (v)).bind (kN (g28_L1 s) n_1) = some w_1) ?_ ?_)))
     · refine VW.seq (VW.rA (tm 105 [(0, .cptr (pT23 s) 0), (4, .ref 0 0 l14295.length), (5, .i .i64 k_14294), (6, .ref 2 0 0), (7, .i .i64 0)]) [some (1, rows cl_ci_i64o l14295), none, some (1, rows ci_i64 [])] [] hC (VW.block ?_))
       obtain ⟨w_2, hw_2, h1⟩ := bindE h1
       refine VW.loopO (fun (x : Int × (List Int)) => (⟨(tm 105 [(0, .cptr (pT23 s) 0), (4, .ref 0 0 l14295.length), (5, .i .i64 k_14294), (6, .ref 2 0 x.2.length), (7, .i .i64 x.1)]), [some (1, rows cl_ci_i64o l14295), none, some (1, rows ci_i64 x.2)], []⟩ : VS)) hw_2 (Ent.tu 3) ?_
       rintro n_2 ⟨i_16914, l16915⟩ h2
       rw [g28_L2] at h2
       refine VW.seq (VW.seq (VW.rA (tm 105 [(0, .cptr (pT23 s) 0), (4, .ref 0 0 l14295.length), (5, .i .i64 k_14294), (6, .ref 2 0 l16915.length), (7, .i .i64 i_16914), (41, .b (leI i_16914 s.store_))]) [some (1, rows cl_ci_i64o l14295), none, some (1, rows ci_i64 l16915)] [] hC (VW.condJ h2 (fun h2 => ?_) (fun h2 => ?_))))
       · refine VW.exit ?_
         have e_ := leafR h2
         subst w_2
         exact vnext l16915 h1 (Ent.tu 3)
       refine VW.skip (VW.join (fun (v : List Int) => (⟨(tm 105 [(0, .cptr (pT23 s) 0), (4, .ref 0 0 l14295.length), (5, .i .i64 k_14294), (6, .ref 2 0 v.length), (7, .i .i64 i_16914)]), [some (1, rows cl_ci_i64o l14295), none, some (1, rows ci_i64 v)], []⟩ : VS)) (fun v => (g28_j4 i_16914 (v)).bind (kN (g28_L2 s k_14294 l14295) n_2) = some w_2) ?_ ?_)
       · refine VW.block (VW.seq (VW.rA (tm 105 [(0, .cptr (pT23 s) 0), (4, .ref 0 0 l14295.length), (5, .i .i64 k_14294), (6, .ref 2 0 l16915.length), (7, .i .i64 i_16914), (8, .i .i64 (-1))]) [some (1, rows cl_ci_i64o l14295), none, some (1, rows ci_i64 l16915)] [] hC (VW.join (fun (v : Int) => (⟨(tm 105 [(0, .cptr (pT23 s) 0), (4, .ref 0 0 l14295.length), (5, .i .i64 k_14294), (6, .ref 2 0 l16915.length), (7, .i .i64 i_16914), (8, .i .i64 v)]), [some (1, rows cl_ci_i64o l14295), none, some (1, rows ci_i64 l16915)], []⟩ : VS)) (fun v => (g28_j5 l16915 i_16914 (v)).bind (kN (g28_L2 s k_14294 l14295) n_2) = some w_2) ?_ ?_)))
         · refine VW.seq (VW.rA (tm 105 [(0, .cptr (pT23 s) 0), (4, .ref 0 0 l14295.length), (5, .i .i64 k_14294), (6, .ref 2 0 l16915.length), (7, .i .i64 i_16914), (8, .i .i64 (-1)), (9, .i .i64 0)]) [some (1, rows cl_ci_i64o l14295), none, some (1, rows ci_i64 l16915)] [] hC (VW.block ?_))
           obtain ⟨w_3, hw_3, h2⟩ := bindE h2
           refine VW.loopO (fun (x : Int × Int) => (⟨(tm 105 [(0, .cptr (pT23 s) 0), (4, .ref 0 0 l14295.length), (5, .i .i64 k_14294), (6, .ref 2 0 l16915.length), (7, .i .i64 i_16914), (8, .i .i64 x.1), (9, .i .i64 x.2)]), [some (1, rows cl_ci_i64o l14295), none, some (1, rows ci_i64 l16915)], []⟩ : VS)) hw_3 (Ent.tu 3) ?_
           rintro n_3 ⟨least_17132, logs_17133⟩ h3
           rw [g28_L3] at h3
           refine VW.seq (VW.seq (VW.rA (tm 105 [(0, .cptr (pT23 s) 0), (4, .ref 0 0 l14295.length), (5, .i .i64 k_14294), (6, .ref 2 0 l16915.length), (7, .i .i64 i_16914), (8, .i .i64 least_17132), (9, .i .i64 logs_17133), (49, .b (leI logs_17133 s.most_))]) [some (1, rows cl_ci_i64o l14295), none, some (1, rows ci_i64 l16915)] [] hC (VW.condJ h3 (fun h3 => ?_) (fun h3 => ?_))))
           · refine VW.exit ?_
             have e_ := leafR h3
             subst w_3
             exact vnext least_17132 h2 (Ent.tu 3)
           refine VW.skip (VW.seq (VW.block (VW.seq ?_)))
           obtain ⟨r17135, q17136, h3⟩ := bindE h3
           have c17136 : F45 [.cptr (pT23 s) 0, .i .i64 k_14294, .i .i64 i_16914, .i .i64 logs_17133] = some (.i .i64 r17135) := tells_eq inj45 (a := (s, k_14294, i_16914, logs_17133)) q17136
           refine VW.rA (tm 105 [(0, .cptr (pT23 s) 0), (4, .ref 0 0 l14295.length), (5, .i .i64 k_14294), (6, .ref 2 0 l16915.length), (7, .i .i64 i_16914), (8, .i .i64 least_17132), (9, .i .i64 logs_17133), (10, .i .i64 r17135)]) [some (1, rows cl_ci_i64o l14295), none, some (1, rows ci_i64 l16915)] [] hC (VW.seq (VW.seq ?_)) (h := by simp -implicitDefEqProofs [c17136])
           obtain ⟨w17141, q17150, h3⟩ := bindE h3
           refine VW.evalA (tm 105 [(0, .cptr (pT23 s) 0), (4, .ref 0 0 l14295.length), (5, .i .i64 k_14294), (6, .ref 2 0 l16915.length), (7, .i .i64 i_16914), (8, .i .i64 least_17132), (9, .i .i64 logs_17133), (10, .i .i64 r17135), (69, .b w17141)]) [some (1, rows cl_ci_i64o l14295), none, some (1, rows ci_i64 l16915)] [] hC (by kernel_rfl) (by
               obtain ⟨q17151, q17150⟩ | ⟨q17151, rfl⟩ := gdF q17150
               · obtain ⟨e17137, q17138, q17150⟩ := bindQ q17150
                 obtain ⟨f17138a, f17138b, f17138c, f17138d⟩ := idx_some q17138
                 obtain ⟨e17139, q17140, q17150⟩ := bindQ q17150
                 obtain ⟨f17140a, f17140b, f17140c, f17140d⟩ := idx_some q17140
                 obtain rfl := Option.some.inj q17150
                 simp -implicitDefEqProofs [q17151, f17138a, f17138b, f17138c, f17138d, f17140a, f17140b, f17140c, f17140d]
               simp -implicitDefEqProofs [q17151]) ?_
           refine VW.condI h3 (fun h3 => ?_) (fun h3 => ?_)
           · exact VW.exit (VW.rA (tm 105 [(0, .cptr (pT23 s) 0), (4, .ref 0 0 l14295.length), (5, .i .i64 k_14294), (6, .ref 2 0 l16915.length), (7, .i .i64 i_16914), (8, .i .i64 least_17132), (9, .i .i64 (aI .i64 logs_17133 1))]) [some (1, rows cl_ci_i64o l14295), none, some (1, rows ci_i64 l16915)] [] hC (vnext (least_17132, aI .i64 logs_17133 1) (leafL h3) (Ent.tu 3)))
           refine VW.skip (VW.seq ?_)
           obtain ⟨e17143, ⟨f17144a, f17144b, f17144c, f17144d⟩, h3⟩ := bindI h3
           obtain ⟨e17145, ⟨f17146a, f17146b, f17146c, f17146d⟩, h3⟩ := bindI h3
           obtain ⟨e17147, ⟨f17148a, f17148b, f17148c, f17148d⟩, h3⟩ := bindI h3
           refine VW.rD (tm 105 [(0, .cptr (pT23 s) 0), (4, .ref 0 0 l14295.length), (5, .i .i64 k_14294), (6, .ref 2 0 l16915.length), (7, .i .i64 i_16914), (8, .i .i64 least_17132), (9, .i .i64 logs_17133), (11, .i .i64 (aI .i64 (mI .i64 e17143 logs_17133) e17147))]) [some (1, rows cl_ci_i64o l14295), none, some (1, rows ci_i64 l16915)] [] hC mixed (VW.seq (VW.rA (tm 105 [(0, .cptr (pT23 s) 0), (4, .ref 0 0 l14295.length), (5, .i .i64 k_14294), (6, .ref 2 0 l16915.length), (7, .i .i64 i_16914), (8, .i .i64 least_17132), (9, .i .i64 logs_17133), (11, .i .i64 (aI .i64 (mI .i64 e17143 logs_17133) e17147)), (94, .b (eqI least_17132 (-1) || ltI (aI .i64 (mI .i64 e17143 logs_17133) e17147) least_17132))]) [some (1, rows cl_ci_i64o l14295), none, some (1, rows ci_i64 l16915)] [] hC (VW.condJ h3 (fun h3 => ?_) (fun h3 => ?_)))) (h := by simp -implicitDefEqProofs [f17144a, f17144b, f17144c, f17144d, f17146a, f17146b, f17146c, f17146d, f17148a, f17148b, f17148c, f17148d])
           · exact VW.skip (VW.rA (tm 105 [(0, .cptr (pT23 s) 0), (4, .ref 0 0 l14295.length), (5, .i .i64 k_14294), (6, .ref 2 0 l16915.length), (7, .i .i64 i_16914), (8, .i .i64 least_17132), (9, .i .i64 (aI .i64 logs_17133 1))]) [some (1, rows cl_ci_i64o l14295), none, some (1, rows ci_i64 l16915)] [] hC (vnext (least_17132, aI .i64 logs_17133 1) (leafL h3) (Ent.tu 3)))
           exact VW.rA (tm 105 [(0, .cptr (pT23 s) 0), (4, .ref 0 0 l14295.length), (5, .i .i64 k_14294), (6, .ref 2 0 l16915.length), (7, .i .i64 i_16914), (8, .i .i64 (aI .i64 (mI .i64 e17143 logs_17133) e17147)), (9, .i .i64 logs_17133)]) [some (1, rows cl_ci_i64o l14295), none, some (1, rows ci_i64 l16915)] [] hC (VW.rA (tm 105 [(0, .cptr (pT23 s) 0), (4, .ref 0 0 l14295.length), (5, .i .i64 k_14294), (6, .ref 2 0 l16915.length), (7, .i .i64 i_16914), (8, .i .i64 (aI .i64 (mI .i64 e17143 logs_17133) e17147)), (9, .i .i64 (aI .i64 logs_17133 1))]) [some (1, rows cl_ci_i64o l14295), none, some (1, rows ci_i64 l16915)] [] hC (vnext (aI .i64 (mI .i64 e17143 logs_17133) e17147, aI .i64 logs_17133 1) (leafL h3) (Ent.tu 3)))
         rintro least_17092 h2
         replace h2 : (g28_j5 l16915 i_16914 least_17092).bind _ = _ := h2
         rw [g28_j5] at h2
         obtain ⟨u17093, ⟨f17094a, f17094b⟩, h2⟩ := bindP h2
         try simp only [Int.toNat_natCast, Int.reduceToNat, List.length_cons, List.length_nil, Nat.reduceAdd, Nat.zero_add] at f17094a f17094b
         exact VW.rA (tm 105 [(0, .cptr (pT23 s) 0), (4, .ref 0 0 l14295.length), (5, .i .i64 k_14294), (6, .ref 2 0 (l16915 ++ [least_17092]).length), (7, .i .i64 i_16914)]) [some (1, rows cl_ci_i64o l14295), none, some (1, rows ci_i64 (l16915 ++ [least_17092])), some (1, rows ci_i64 [least_17092])] [] hC (vnext (l16915 ++ [least_17092]) h2 (Ent.tu 3)) (h := by simp -implicitDefEqProofs [f17094a, f17094b])
       rintro l17034 h2
       replace h2 : (g28_j4 i_16914 l17034).bind _ = _ := h2
       rw [g28_j4] at h2
       exact VW.rA (tm 105 [(0, .cptr (pT23 s) 0), (4, .ref 0 0 l14295.length), (5, .i .i64 k_14294), (6, .ref 2 0 l17034.length), (7, .i .i64 (aI .i64 i_16914 1))]) [some (1, rows cl_ci_i64o l14295), none, some (1, rows ci_i64 l17034)] [] hC (vnext (aI .i64 i_16914 1, l17034) (leafL h2) (Ent.tu 3))
     rintro l16437 h1
     replace h1 : (g28_j3 l14295 k_14294 l16437).bind _ = _ := h1
     rw [g28_j3] at h1
     obtain ⟨e16438, ⟨f16439a, f16439b, f16439c, f16439d⟩, h1⟩ := bindI h1
     exact VW.rE (tm 105 [(0, .cptr (pT23 s) 0), (4, .ref 0 0 l14295.length), (5, .i .i64 k_14294)]) [some (1, (rows cl_ci_i64o l14295).set k_14294.toNat [.ref 2 0 l16437.length]), none, some (1, rows ci_i64 l16437)] [] hC (Ent.absorb (m := [some (1, (rows cl_ci_i64o l14295).set k_14294.toNat [.ref 2 0 l16437.length]), none, some (1, rows ci_i64 l16437)]) (n := 1) (n' := 1) (es := (rows cl_ci_i64o l14295).set k_14294.toNat [.ref 2 0 l16437.length]) (es' := rows ci_i64 l16437) (cs := [.ref 2 0 l16437.length]) 0 k_14294.toNat 0 2 l16437.length [some (1, rows cl_ci_i64o (l14295.set k_14294.toNat l16437)), none, none] rfl (by simp [f16439a, f16439b, f16439c, f16439d]) rfl rfl (by decide) (by simp) (by simp) (by simp)) (vnext (l14295.set k_14294.toNat l16437) h1 (Ent.tu 2)) (h := by simp -implicitDefEqProofs [f16439a, f16439b, f16439c, f16439d])
   rintro l15724 h1
   replace h1 : (g28_j2 k_14294 l15724).bind _ = _ := h1
   rw [g28_j2] at h1
   exact VW.rA (tm 105 [(0, .cptr (pT23 s) 0), (4, .ref 0 0 l15724.length), (5, .i .i64 (sI .i64 k_14294 1))]) [some (1, rows cl_ci_i64o l15724), none] [] hC (vnext (sI .i64 k_14294 1, l15724) (leafL h1) (Ent.tu 2))
 rintro l8579 h
 replace h : (g28_j1 l8579).bind _ = _ := h
 rw [g28_j1] at h
 refine VW.seq (VW.rA (tm 105 [(2, .ref 0 0 l8579.length)]) [some (1, rows cl_ci_i64o l8579), none] [] hC ?_)
 obtain rfl := leafS h
 exact VW.ret (VRet.fin (by simp [eB28]))
theorem tl28 {s : T23} {r : List (List Int)} (h : g28 s = some r) : F28 [.cptr [.sl 1 (rows ci_i64 s.need_), .sl 1 (rows ci_i64 s.price_), .i .i64 s.most_, .i .i64 s.yield_, .i .i64 s.store_, .i .i64 s.first_, .i .i64 s.loss_] 0] = some (.own 1 (rows cl_ci_i64o r)) := tells_eq inj28 (a := s) h
noncomputable def g6 (s : T23) : Option ((List (List Int)) × Int) :=
(g27 s).bind fun r1 =>
if (!r1) = true then
some ([], 1)
else
(g28 s).bind fun r4 =>
some (r4, 0)
def eA6 (a : T23) : List V := [.agg (pT23 a)]
def eB6 (r : (List (List Int)) × Int) : V := .tup [.own 1 (rows cl_ci_i64o r.1), .i .i64 r.2]
theorem inj6 (a a' : T23) (h : eA6 a = eA6 a') : a = a' := by
  obtain ⟨i77, i78, i79, i80, i81, i82, i83⟩ := a
  obtain ⟨i84, i85, i86, i87, i88, i89, i90⟩ := a'
  simp only [eA6, pT23, List.cons.injEq, V.i.injEq, V.b.injEq, V.f.injEq, V.str.injEq, V.sl.injEq, V.agg.injEq, V.cptr.injEq, true_and, and_true] at h
  simp_all [ri ci_i64_inj]
noncomputable def F6 : List V → Option V := tells (fun a => g6 a) eA6 eB6
/- loop.example/g01229/spec.ValuesOf -/
theorem ok6 : Tells Try.prog 6 F6 := by
 refine Tells.go 8 Try.func6 rfl rfl rfl (by kernel_rfl) (fun _ => rfl) ?_
 rintro s r h
 simp only [eA6, en, Nat.reduceAdd]
 replace h : (g6 s).bind some = some r := bindS h
 rw [g6] at h
 have hC : CEnv.Ok Try.prog [(27, F27), (28, F28)] := ⟨.inl ok27, .inl ok28, trivial⟩
 refine VW.seq (VW.rA (tm 8 [(1, .ptr 0 0 0)]) [some (7, [(pT23 s)])] [] hC (VW.seq (VW.seq ?_)))
 obtain ⟨r1, q2, h⟩ := bindE h
 have c2 : F27 [.cptr (pT23 s) 0] = some (.b r1) := tells_eq inj27 (a := s) q2
 refine VW.rA (tm 8 [(1, .ptr 0 0 0), (5, .b (!r1))]) [some (7, [(pT23 s)])] [] hC (VW.condI h (fun h => ?_) (fun h => ?_)) (h := by simp -implicitDefEqProofs [c2])
 · refine VW.seq (VW.rA (tm 8 [(2, .ref 1 0 0), (3, .i .i64 1)]) [some (7, [(pT23 s)]), some (1, rows cl_ci_i64o [])] [] hC ?_)
   obtain rfl := leafS h
   exact VW.ret (VRet.fin (by simp [eB6]))
 refine VW.skip (VW.seq ?_)
 obtain ⟨r4, q5, h⟩ := bindE h
 have c5 : F28 [.cptr (pT23 s) 0] = some (.own 1 (rows cl_ci_i64o r4)) := tells_eq inj28 (a := s) q5
 refine VW.rA (tm 8 [(2, .ref 1 0 r4.length), (3, .i .i64 0)]) [some (7, [(pT23 s)]), some (1, rows cl_ci_i64o r4)] [] hC ?_ (h := by simp -implicitDefEqProofs [c5])
 obtain rfl := leafS h
 exact VW.ret (VRet.fin (by simp [eB6]))
theorem tl6 {s : T23} {r : (List (List Int)) × Int} (h : g6 s = some r) : F6 [.agg [.sl 1 (rows ci_i64 s.need_), .sl 1 (rows ci_i64 s.price_), .i .i64 s.most_, .i .i64 s.yield_, .i .i64 s.store_, .i .i64 s.first_, .i .i64 s.loss_]] = some (.tup [.own 1 (rows cl_ci_i64o r.1), .i .i64 r.2]) := tells_eq inj6 (a := s) h
noncomputable def g30_j1 (s : T23) : Option (Bool) :=
some (((((((((leI 0 s.most_ && leI s.most_ 20) && leI 1 s.yield_) && leI s.yield_ 40) && leI 0 s.store_) && leI s.store_ 60) && leI 0 s.first_) && leI s.first_ s.store_) && leI 0 s.loss_) && leI s.loss_ 100)
noncomputable def g30_L1 (s : T23) : (Int) → Option ((Int) ⊕ ((Unit) ⊕ (Bool)))
| x_85 =>
if ltI x_85 (s.need_.length : Int) = true then
(idx s.need_ x_85).bind fun e87 =>
(if (ltI e87 0 || ltI 200 e87) = true then some true else (idx s.price_ x_85).bind fun e89 => some (ltI e89 0)).bind fun w91 =>
(if w91 = true then some true else (idx s.price_ x_85).bind fun e92 => some (ltI 1000 e92)).bind fun w94 =>
if w94 = true then
some (.inr (.inr false))
else
some (.inl (aI .i64 x_85 1))
else
some (.inr (.inl ()))
noncomputable def g30 (s : T23) : Option (Bool) :=
if ((ltI (s.need_.length : Int) 1 || ltI 24 (s.need_.length : Int)) || (!eqI (s.price_.length : Int) (s.need_.length : Int))) = true then
some false
else
(loopO (g30_L1 s) 0).bind fun w => match w with
| .inl y => g30_j1 s
| .inr r => some r
def eA30 (a : T23) : List V := [.agg (pT23 a)]
def eB30 (r : Bool) : V := .b r
theorem inj30 (a a' : T23) (h : eA30 a = eA30 a') : a = a' := by
  obtain ⟨i91, i92, i93, i94, i95, i96, i97⟩ := a
  obtain ⟨i98, i99, i100, i101, i102, i103, i104⟩ := a'
  simp only [eA30, pT23, List.cons.injEq, V.i.injEq, V.b.injEq, V.f.injEq, V.str.injEq, V.sl.injEq, V.agg.injEq, V.cptr.injEq, true_and, and_true] at h
  simp_all [ri ci_i64_inj]
noncomputable def F30 : List V → Option V := tells (fun a => g30 a) eA30 eB30
/- loop.example/g01229/impl.ValidSeason -/
theorem ok30 : Tells Try.prog 30 F30 := by
 refine Tells.go 106 Try.func30 rfl rfl rfl (by kernel_rfl) (fun _ => rfl) ?_
 rintro s r h
 simp only [eA30, en, Nat.reduceAdd]
 replace h : (g30 s).bind some = some r := bindS h
 rw [g30] at h
 have hC : CEnv.Ok Try.prog [] := trivial
 refine VW.seq (VW.rA (tm 106 [(1, .ptr 0 0 0)]) [some (7, [(pT23 s)])] [] hC (VW.seq (VW.rA (tm 106 [(1, .ptr 0 0 0), (3, .i .i64 (s.need_.length : Int))]) [some (7, [(pT23 s)])] [] hC (VW.seq (VW.seq (VW.rA (tm 106 [(1, .ptr 0 0 0), (3, .i .i64 (s.need_.length : Int)), (20, .b ((ltI (s.need_.length : Int) 1 || ltI 24 (s.need_.length : Int)) || (!eqI (s.price_.length : Int) (s.need_.length : Int))))]) [some (7, [(pT23 s)])] [] hC (VW.condI h (fun h => ?_) (fun h => ?_))))))))
 · refine VW.seq (VW.rA (tm 106 [(2, .b false)]) [some (7, [(pT23 s)])] [] hC ?_)
   obtain rfl := leafS h
   exact VW.ret (VRet.fin (by simp [eB30]))
 refine VW.skip (VW.join (fun (v : Unit) => (⟨(tm 106 [(1, .ptr 0 0 0)]), [some (7, [(pT23 s)])], []⟩ : VS)) (fun v => (g30_j1 s).bind some = some r) ?_ ?_)
 · refine VW.seq (VW.rA (tm 106 [(1, .ptr 0 0 0), (21, .i .i64 (s.need_.length : Int)), (22, .i .i64 0)]) [some (7, [(pT23 s)])] [] hC (VW.block ?_))
   obtain ⟨w_1, hw_1, h⟩ := bindE h
   refine VW.loopO (fun (x : Int) => (⟨(tm 106 [(1, .ptr 0 0 0), (21, .i .i64 (s.need_.length : Int)), (22, .i .i64 x)]), [some (7, [(pT23 s)])], []⟩ : VS)) hw_1 (Ent.tu 1) ?_
   rintro n_1 x_85 h1
   rw [g30_L1] at h1
   refine VW.seq (VW.rA (tm 106 [(1, .ptr 0 0 0), (21, .i .i64 (s.need_.length : Int)), (22, .i .i64 x_85), (23, .b (ltI x_85 (s.need_.length : Int)))]) [some (7, [(pT23 s)])] [] hC (VW.seq (VW.condJ h1 (fun h1 => ?_) (fun h1 => ?_))))
   · refine VW.exit ?_
     have e_ := leafR h1
     subst w_1
     exact vnext () h (Ent.tu 1)
   refine VW.skip (VW.seq (VW.block (VW.seq (VW.rA (tm 106 [(1, .ptr 0 0 0), (4, .i .i64 x_85), (21, .i .i64 (s.need_.length : Int)), (22, .i .i64 x_85)]) [some (7, [(pT23 s)])] [] hC (VW.seq ?_)))))
   obtain ⟨e87, ⟨f88a, f88b, f88c, f88d⟩, h1⟩ := bindI h1
   obtain ⟨w91, q96, h1⟩ := bindE h1
   obtain ⟨w94, q97, h1⟩ := bindE h1
   refine VW.evalA (tm 106 [(1, .ptr 0 0 0), (21, .i .i64 (s.need_.length : Int)), (22, .i .i64 x_85), (54, .b w94)]) [some (7, [(pT23 s)])] [] hC (by kernel_rfl) (by
       obtain ⟨q98, q96⟩ | ⟨q98, rfl⟩ := gdF q96
       · obtain ⟨e89, q90, q96⟩ := bindQ q96
         obtain ⟨f90a, f90b, f90c, f90d⟩ := idx_some q90
         obtain rfl := Option.some.inj q96
         obtain ⟨q99, q97⟩ | ⟨q99, rfl⟩ := gdF q97
         · obtain ⟨e92, q93, q97⟩ := bindQ q97
           have d100 : e92 = e89 := Option.some.inj (q93.symm.trans q90)
           obtain rfl := Option.some.inj q97
           simp -implicitDefEqProofs [f88a, f88b, f88c, f88d, q98, f90a, f90b, f90c, f90d, q99, d100, pT23]
         simp -implicitDefEqProofs [f88a, f88b, f88c, f88d, q98, f90a, f90b, f90c, f90d, q99, pT23]
       obtain ⟨q101, q97⟩ | ⟨q101, rfl⟩ := gdF q97
       · exact absurd q101 (by simp)
       simp -implicitDefEqProofs [f88a, f88b, f88c, f88d, q98, q101, pT23]) ?_
   refine VW.condI h1 (fun h1 => ?_) (fun h1 => ?_)
   · refine VW.seq (VW.rA (tm 106 [(2, .b false)]) [some (7, [(pT23 s)])] [] hC ?_)
     have e_ := leafR h1
     subst w_1
     obtain rfl := leafS h
     exact VW.ret (VRet.fin (by simp [eB30]))
   exact VW.skip (VW.rA (tm 106 [(1, .ptr 0 0 0), (21, .i .i64 (s.need_.length : Int)), (22, .i .i64 (aI .i64 x_85 1))]) [some (7, [(pT23 s)])] [] hC (vnext (aI .i64 x_85 1) (leafL h1) (Ent.tu 1)))
 rintro _ h
 replace h : (g30_j1 s).bind _ = _ := h
 rw [g30_j1] at h
 refine VW.seq (VW.rA (tm 106 [(2, .b (((((((((leI 0 s.most_ && leI s.most_ 20) && leI 1 s.yield_) && leI s.yield_ 40) && leI 0 s.store_) && leI s.store_ 60) && leI 0 s.first_) && leI s.first_ s.store_) && leI 0 s.loss_) && leI s.loss_ 100))]) [some (7, [(pT23 s)])] [] hC ?_ (h := by simp (maxSteps := 4000000) -implicitDefEqProofs [pT23]))
 obtain rfl := leafS h
 exact VW.ret (VRet.fin (by simp [eB30]))
theorem tl30 {s : T23} {r : Bool} (h : g30 s = some r) : F30 [.agg [.sl 1 (rows ci_i64 s.need_), .sl 1 (rows ci_i64 s.price_), .i .i64 s.most_, .i .i64 s.yield_, .i .i64 s.store_, .i .i64 s.first_, .i .i64 s.loss_]] = some (.b r) := tells_eq inj30 (a := s) h
noncomputable def g37 (s : T23) (slot : Int) (store : Int) (logs : Int) : Option (Int × Bool) :=
(idx s.need_ slot).bind fun e1 =>
if ltI (sI .i64 (aI .i64 store (mI .i64 logs s.yield_)) e1) 0 = true then
some (0, false)
else
(dI .i64 (mI .i64 (sI .i64 (aI .i64 store (mI .i64 logs s.yield_)) e1) s.loss_) 100).bind fun d4 =>
some (minI (sI .i64 (sI .i64 (aI .i64 store (mI .i64 logs s.yield_)) e1) d4) s.store_, true)
def eA37 (a : T23 × Int × Int × Int) : List V := [.agg (pT23 a.1), .i .i64 a.2.1, .i .i64 a.2.2.1, .i .i64 a.2.2.2]
def eB37 (r : Int × Bool) : V := .tup [.i .i64 r.1, .b r.2]
theorem inj37 (a a' : T23 × Int × Int × Int) (h : eA37 a = eA37 a') : a = a' := by
  obtain ⟨⟨i105, i106, i107, i108, i109, i110, i111⟩, i112, i113, i114⟩ := a
  obtain ⟨⟨i115, i116, i117, i118, i119, i120, i121⟩, i122, i123, i124⟩ := a'
  simp only [eA37, pT23, List.cons.injEq, V.i.injEq, V.b.injEq, V.f.injEq, V.str.injEq, V.sl.injEq, V.agg.injEq, V.cptr.injEq, true_and, and_true] at h
  simp_all [ri ci_i64_inj]
noncomputable def F37 : List V → Option V := tells (fun a => g37 a.1 a.2.1 a.2.2.1 a.2.2.2) eA37 eB37
/- loop.example/g01229/impl.after -/
theorem ok37 : Tells Try.prog 37 F37 := by
 refine Tells.go 35 Try.func37 rfl rfl rfl (by kernel_rfl) (fun _ => rfl) ?_
 rintro ⟨s, slot, store, logs⟩ r h
 simp only [eA37, en, Nat.reduceAdd]
 replace h : (g37 s slot store logs).bind some = some r := bindS h
 rw [g37] at h
 have hC : CEnv.Ok Try.prog [] := trivial
 refine VW.seq (VW.rA (tm 35 [(1, .i .i64 slot), (2, .i .i64 store), (3, .i .i64 logs), (4, .ptr 0 0 0)]) [some (7, [(pT23 s)])] [] hC (VW.seq ?_) (h := by simp -implicitDefEqProofs [min_fold]))
 obtain ⟨e1, ⟨f2a, f2b, f2c, f2d⟩, h⟩ := bindI h
 refine VW.rD (tm 35 [(4, .ptr 0 0 0), (10, .i .i64 (sI .i64 (aI .i64 store (mI .i64 logs s.yield_)) e1))]) [some (7, [(pT23 s)])] [] hC mixed (VW.seq (VW.seq (VW.rA (tm 35 [(4, .ptr 0 0 0), (10, .i .i64 (sI .i64 (aI .i64 store (mI .i64 logs s.yield_)) e1)), (24, .b (ltI (sI .i64 (aI .i64 store (mI .i64 logs s.yield_)) e1) 0))]) [some (7, [(pT23 s)])] [] hC (VW.condI h (fun h => ?_) (fun h => ?_)) (h := by simp -implicitDefEqProofs [min_fold])))) (h := by simp -implicitDefEqProofs [f2a, f2b, f2c, f2d, min_fold])
 · refine VW.seq (VW.rA (tm 35 [(8, .i .i64 0), (9, .b false)]) [some (7, [(pT23 s)])] [] hC ?_)
   obtain rfl := leafS h
   exact VW.ret (VRet.fin (by simp [eB37]))
 refine VW.skip (VW.seq ?_)
 obtain ⟨d4, q5, h⟩ := bindE h
 refine VW.rA (tm 35 [(8, .i .i64 (minI (sI .i64 (sI .i64 (aI .i64 store (mI .i64 logs s.yield_)) e1) d4) s.store_)), (9, .b true)]) [some (7, [(pT23 s)])] [] hC ?_ (h := by simp -implicitDefEqProofs [q5, min_fold])
 obtain rfl := leafS h
 exact VW.ret (VRet.fin (by simp [eB37]))
theorem tl37 {s : T23} {slot : Int} {store : Int} {logs : Int} {r : Int × Bool} (h : g37 s slot store logs = some r) : F37 [.agg [.sl 1 (rows ci_i64 s.need_), .sl 1 (rows ci_i64 s.price_), .i .i64 s.most_, .i .i64 s.yield_, .i .i64 s.store_, .i .i64 s.first_, .i .i64 s.loss_], .i .i64 slot, .i .i64 store, .i .i64 logs] = some (.tup [.i .i64 r.1, .b r.2]) := tells_eq inj37 (a := (s, slot, store, logs)) h
noncomputable def g31_j1 (l4745 : List (List Int)) : Option (List (List Int)) :=
some l4745
noncomputable def g31_j2 (k_7904 : Int) (l8695 : List (List Int)) : Option ((Int × (List (List Int))) ⊕ (List (List Int))) :=
some (.inl (sI .i64 k_7904 1, l8695))
noncomputable def g31_j3 (x_9222 : Int) (l9354 : List Int) : Option ((Int × (List Int)) ⊕ (List (List Int))) :=
some (.inl (aI .i64 x_9222 1, l9354))
noncomputable def g31_j4 (l9223 : List Int) (x_9222 : Int) (best_9418 : Int) : Option ((Int × (List Int)) ⊕ (List (List Int))) :=
(idx l9223 x_9222).bind fun e9419 =>
g31_j3 x_9222 (l9223.set x_9222.toNat best_9418)
noncomputable def g31_L3 (s : T23) (k_7904 : Int) (x_9222 : Int) (l7905 : List (List Int)) : (Int × Int) → Option ((Int × Int) ⊕ (Int))
| (best_9462, x_9463) =>
if ltI x_9463 (aI .i64 s.most_ 1) = true then
(g37 s k_7904 x_9222 x_9463).bind fun r9465 =>
(if (!r9465.2) = true then some true else (idx l7905 (aI .i64 k_7904 1)).bind fun e9467 => (idx e9467 r9465.1).bind fun e9470 => some (eqI e9470 (-1))).bind fun w9472 =>
if w9472 = true then
some (.inl (best_9462, aI .i64 x_9463 1))
else
(idx s.price_ k_7904).bind fun e9474 =>
(idx l7905 (aI .i64 k_7904 1)).bind fun e9476 =>
(idx e9476 r9465.1).bind fun e9479 =>
if (eqI best_9462 (-1) || ltI (aI .i64 (mI .i64 e9474 x_9463) e9479) best_9462) = true then
some (.inl (aI .i64 (mI .i64 e9474 x_9463) e9479, aI .i64 x_9463 1))
else
some (.inl (best_9462, aI .i64 x_9463 1))
else
some (.inr best_9462)
noncomputable def g31_L2 (s : T23) (k_7904 : Int) (l7905 : List (List Int)) : (Int × (List Int)) → Option ((Int × (List Int)) ⊕ (List (List Int)))
| (x_9222, l9223) =>
if ltI x_9222 ((List.replicate (aI .i64 s.store_ 1).toNat 0).length : Int) = true then
(loopO (g31_L3 s k_7904 x_9222 l7905) ((-1), 0)).bind fun w => g31_j4 l9223 x_9222 w
else
some (.inr (l7905.set k_7904.toNat l9223))
noncomputable def g31_L1 (s : T23) : (Int × (List (List Int))) → Option ((Int × (List (List Int))) ⊕ (List (List Int)))
| (k_7904, l7905) =>
if leI 0 k_7904 = true then
(mk 8 (aI .i64 s.store_ 1)).bind fun u8696 =>
(idx l7905 k_7904).bind fun e8698 =>
(loopO (g31_L2 s k_7904 l7905) (0, (List.replicate (aI .i64 s.store_ 1).toNat 0))).bind fun w => g31_j2 k_7904 w
else
some (.inr l7905)
noncomputable def g31 (s : T23) : Option (List (List Int)) :=
(mk 24 (aI .i64 (s.need_.length : Int) 1)).bind fun u1 =>
(mk 8 (aI .i64 s.store_ 1)).bind fun u3 =>
(idx (List.replicate (aI .i64 (s.need_.length : Int) 1).toNat ([] : List Int)) (s.need_.length : Int)).bind fun e5 =>
(loopO (g31_L1 s) (sI .i64 (s.need_.length : Int) 1, ((List.replicate (aI .i64 (s.need_.length : Int) 1).toNat ([] : List Int)).set ((s.need_.length : Int).toNat) (List.replicate (aI .i64 s.store_ 1).toNat 0)))).bind fun w => g31_j1 w
def eA31 (a : T23) : List V := [.agg (pT23 a)]
def eB31 (r : List (List Int)) : V := .own 1 (rows cl_ci_i64o r)
theorem inj31 (a a' : T23) (h : eA31 a = eA31 a') : a = a' := by
  obtain ⟨i125, i126, i127, i128, i129, i130, i131⟩ := a
  obtain ⟨i132, i133, i134, i135, i136, i137, i138⟩ := a'
  simp only [eA31, pT23, List.cons.injEq, V.i.injEq, V.b.injEq, V.f.injEq, V.str.injEq, V.sl.injEq, V.agg.injEq, V.cptr.injEq, true_and, and_true] at h
  simp_all [ri ci_i64_inj]
noncomputable def F31 : List V → Option V := tells (fun a => g31 a) eA31 eB31
/- loop.example/g01229/impl.values -/
theorem ok31 : Tells Try.prog 31 F31 := by
 refine Tells.go 107 Try.func31 rfl rfl rfl (by kernel_rfl) (fun _ => rfl) ?_
 rintro s r h
 simp only [eA31, en, Nat.reduceAdd]
 replace h : (g31 s).bind some = some r := bindS h
 rw [g31] at h
 have hC : CEnv.Ok Try.prog [(37, F37)] := ⟨.inl ok37, trivial⟩
 refine VW.seq (VW.rA (tm 107 [(1, .ptr 0 0 0)]) [some (7, [(pT23 s)])] [] hC (VW.seq (VW.rA (tm 107 [(1, .ptr 0 0 0), (3, .i .i64 (s.need_.length : Int))]) [some (7, [(pT23 s)])] [] hC (VW.seq ?_))))
 obtain ⟨u1, ⟨f2a, f2b, f2c⟩, h⟩ := bindM h
 try simp only [Int.toNat_natCast, Int.reduceToNat, List.length_cons, List.length_nil, Nat.reduceAdd, Nat.zero_add] at f2a f2b f2c
 refine VW.rE (tm 107 [(1, .ptr 0 0 0), (3, .i .i64 (s.need_.length : Int)), (4, .ref 1 0 (List.replicate (aI .i64 (s.need_.length : Int) 1).toNat ([] : List Int)).length)]) [some (7, [(pT23 s)]), some (1, List.replicate (aI .i64 (s.need_.length : Int) 1).toNat [.nil])] [] hC (Ent.nilown (m := [some (7, [(pT23 s)]), some (1, List.replicate (aI .i64 (s.need_.length : Int) 1).toNat [.nil])]) 1 ((aI .i64 (s.need_.length : Int) 1).toNat) 1 [some (7, [(pT23 s)]), some (1, rows cl_ci_i64o (List.replicate (aI .i64 (s.need_.length : Int) 1).toNat ([] : List Int)))] (by simp) (by simp)) (VW.seq ?_) (h := by simp -implicitDefEqProofs [f2a, f2b, f2c])
 obtain ⟨u3, ⟨f4a, f4b, f4c⟩, h⟩ := bindM h
 try simp only [Int.toNat_natCast, Int.reduceToNat, List.length_cons, List.length_nil, Nat.reduceAdd, Nat.zero_add] at f4a f4b f4c
 obtain ⟨e5, ⟨f6a, f6b, f6c, f6d⟩, h⟩ := bindI h
 have f6s := f6c
 simp at f6s
 try simp only [Int.toNat_natCast, Int.reduceToNat] at f6a f6b f6c f6d
 refine VW.rE (tm 107 [(1, .ptr 0 0 0), (3, .i .i64 (s.need_.length : Int)), (4, .ref 1 0 (List.replicate (aI .i64 (s.need_.length : Int) 1).toNat ([] : List Int)).length)]) [some (7, [(pT23 s)]), some (1, (rows cl_ci_i64o (List.replicate (aI .i64 (s.need_.length : Int) 1).toNat ([] : List Int))).set ((s.need_.length : Int).toNat) [.ref 2 0 (List.replicate (aI .i64 s.store_ 1).toNat 0).length]), some (1, rows ci_i64 (List.replicate (aI .i64 s.store_ 1).toNat 0))] [] hC (Ent.absorb (m := [some (7, [(pT23 s)]), some (1, (rows cl_ci_i64o (List.replicate (aI .i64 (s.need_.length : Int) 1).toNat ([] : List Int))).set ((s.need_.length : Int).toNat) [.ref 2 0 (List.replicate (aI .i64 s.store_ 1).toNat 0).length]), some (1, rows ci_i64 (List.replicate (aI .i64 s.store_ 1).toNat 0))]) (n := 1) (n' := 1) (es := (rows cl_ci_i64o (List.replicate (aI .i64 (s.need_.length : Int) 1).toNat ([] : List Int))).set ((s.need_.length : Int).toNat) [.ref 2 0 (List.replicate (aI .i64 s.store_ 1).toNat 0).length]) (es' := rows ci_i64 (List.replicate (aI .i64 s.store_ 1).toNat 0)) (cs := [.ref 2 0 (List.replicate (aI .i64 s.store_ 1).toNat 0).length]) 1 ((s.need_.length : Int).toNat) 0 2 (List.replicate (aI .i64 s.store_ 1).toNat 0).length [some (7, [(pT23 s)]), some (1, rows cl_ci_i64o ((List.replicate (aI .i64 (s.need_.length : Int) 1).toNat ([] : List Int)).set ((s.need_.length : Int).toNat) (List.replicate (aI .i64 s.store_ 1).toNat 0))), none] rfl (by simp [f6a, f6b, f6c, f6d, f6s]) rfl rfl (by decide) (by simp) (by simp) (by simp)) (VW.join (fun (v : List (List Int)) => (⟨(tm 107 [(4, .ref 1 0 v.length)]), [some (7, [(pT23 s)]), some (1, rows cl_ci_i64o v), none], []⟩ : VS)) (fun v => (g31_j1 (v)).bind some = some r) ?_ ?_) (h := by simp -implicitDefEqProofs [f4a, f4b, f4c, f6a, f6b, f6c, f6d, f6s])
 · refine VW.seq (VW.rA (tm 107 [(1, .ptr 0 0 0), (4, .ref 1 0 ((List.replicate (aI .i64 (s.need_.length : Int) 1).toNat ([] : List Int)).set ((s.need_.length : Int).toNat) (List.replicate (aI .i64 s.store_ 1).toNat 0)).length), (5, .i .i64 (sI .i64 (s.need_.length : Int) 1))]) [some (7, [(pT23 s)]), some (1, rows cl_ci_i64o ((List.replicate (aI .i64 (s.need_.length : Int) 1).toNat ([] : List Int)).set ((s.need_.length : Int).toNat) (List.replicate (aI .i64 s.store_ 1).toNat 0))), none] [] hC (VW.block ?_))
   obtain ⟨w_1, hw_1, h⟩ := bindE h
   refine VW.loopO (fun (x : Int × (List (List Int))) => (⟨(tm 107 [(1, .ptr 0 0 0), (4, .ref 1 0 x.2.length), (5, .i .i64 x.1)]), [some (7, [(pT23 s)]), some (1, rows cl_ci_i64o x.2), none], []⟩ : VS)) hw_1 (Ent.tu 3) ?_
   rintro n_1 ⟨k_7904, l7905⟩ h1
   rw [g31_L1] at h1
   refine VW.seq (VW.seq (VW.rA (tm 107 [(1, .ptr 0 0 0), (4, .ref 1 0 l7905.length), (5, .i .i64 k_7904), (28, .b (leI 0 k_7904))]) [some (7, [(pT23 s)]), some (1, rows cl_ci_i64o l7905), none] [] hC (VW.condJ h1 (fun h1 => ?_) (fun h1 => ?_))))
   · refine VW.exit ?_
     have e_ := leafR h1
     subst w_1
     exact vnext l7905 h (Ent.tu 3)
   refine VW.skip (VW.join (fun (v : List (List Int)) => (⟨(tm 107 [(1, .ptr 0 0 0), (4, .ref 1 0 v.length), (5, .i .i64 k_7904)]), [some (7, [(pT23 s)]), some (1, rows cl_ci_i64o v), none], []⟩ : VS)) (fun v => (g31_j2 k_7904 (v)).bind (kN (g31_L1 s) n_1) = some w_1) ?_ ?_)
   · refine VW.block (VW.seq ?_)
     obtain ⟨u8696, ⟨f8697a, f8697b, f8697c⟩, h1⟩ := bindM h1
     try simp only [Int.toNat_natCast, Int.reduceToNat, List.length_cons, List.length_nil, Nat.reduceAdd, Nat.zero_add] at f8697a f8697b f8697c
     obtain ⟨e8698, ⟨f8699a, f8699b, f8699c, f8699d⟩, h1⟩ := bindI h1
     refine VW.rA (tm 107 [(1, .ptr 0 0 0), (4, .ref 1 0 l7905.length), (5, .i .i64 k_7904)]) [some (7, [(pT23 s)]), some (1, (rows cl_ci_i64o l7905).set k_7904.toNat [.ref 3 0 (List.replicate (aI .i64 s.store_ 1).toNat 0).length]), none, some (1, rows ci_i64 (List.replicate (aI .i64 s.store_ 1).toNat 0))] [] hC (VW.seq (VW.rA (tm 107 [(1, .ptr 0 0 0), (4, .ref 1 0 l7905.length), (5, .i .i64 k_7904), (42, .i .i64 ((List.replicate (aI .i64 s.store_ 1).toNat 0).length : Int)), (43, .i .i64 0)]) [some (7, [(pT23 s)]), some (1, (rows cl_ci_i64o l7905).set k_7904.toNat [.ref 3 0 (List.replicate (aI .i64 s.store_ 1).toNat 0).length]), none, some (1, rows ci_i64 (List.replicate (aI .i64 s.store_ 1).toNat 0))] [] hC (VW.block ?_) (h := by simp -implicitDefEqProofs [f8699a, f8699b, f8699c, f8699d]))) (h := by simp -implicitDefEqProofs [f8697a, f8697b, f8697c, f8699a, f8699b, f8699c, f8699d])
     obtain ⟨w_2, hw_2, h1⟩ := bindE h1
     refine VW.loopO (fun (x : Int × (List Int)) => (⟨(tm 107 [(1, .ptr 0 0 0), (4, .ref 1 0 l7905.length), (5, .i .i64 k_7904), (42, .i .i64 ((List.replicate (aI .i64 s.store_ 1).toNat 0).length : Int)), (43, .i .i64 x.1)]), [some (7, [(pT23 s)]), some (1, (rows cl_ci_i64o l7905).set k_7904.toNat [.ref 3 0 x.2.length]), none, some (1, rows ci_i64 x.2)], []⟩ : VS)) hw_2 (Ent.tu 4) ?_
     rintro n_2 ⟨x_9222, l9223⟩ h2
     rw [g31_L2] at h2
     refine VW.seq (VW.rA (tm 107 [(1, .ptr 0 0 0), (4, .ref 1 0 l7905.length), (5, .i .i64 k_7904), (42, .i .i64 ((List.replicate (aI .i64 s.store_ 1).toNat 0).length : Int)), (43, .i .i64 x_9222), (44, .b (ltI x_9222 ((List.replicate (aI .i64 s.store_ 1).toNat 0).length : Int)))]) [some (7, [(pT23 s)]), some (1, (rows cl_ci_i64o l7905).set k_7904.toNat [.ref 3 0 l9223.length]), none, some (1, rows ci_i64 l9223)] [] hC (VW.seq (VW.condJ h2 (fun h2 => ?_) (fun h2 => ?_))))
     · refine VW.exit ?_
       have e_ := leafR h2
       subst w_2
       exact vnext (l7905.set k_7904.toNat l9223) h1 (Ent.trans (Ent.absorb (m := [some (7, [(pT23 s)]), some (1, (rows cl_ci_i64o l7905).set k_7904.toNat [.ref 3 0 l9223.length]), none, some (1, rows ci_i64 l9223)]) (n := 1) (n' := 1) (es := (rows cl_ci_i64o l7905).set k_7904.toNat [.ref 3 0 l9223.length]) (es' := rows ci_i64 l9223) (cs := [.ref 3 0 l9223.length]) 1 k_7904.toNat 0 3 l9223.length [some (7, [(pT23 s)]), some (1, rows cl_ci_i64o (l7905.set k_7904.toNat l9223)), none, none] rfl (by simp [f8699a, f8699b, f8699c, f8699d]) rfl rfl (by decide) (by simp) (by simp) (by simp)) (Ent.tu 3))
     refine VW.skip (VW.join (fun (v : List Int) => (⟨(tm 107 [(1, .ptr 0 0 0), (4, .ref 1 0 l7905.length), (5, .i .i64 k_7904), (42, .i .i64 ((List.replicate (aI .i64 s.store_ 1).toNat 0).length : Int)), (43, .i .i64 x_9222)]), [some (7, [(pT23 s)]), some (1, (rows cl_ci_i64o l7905).set k_7904.toNat [.ref 3 0 v.length]), none, some (1, rows ci_i64 v)], []⟩ : VS)) (fun v => (g31_j3 x_9222 (v)).bind (kN (g31_L2 s k_7904 l7905) n_2) = some w_2) ?_ ?_)
     · refine VW.block (VW.seq (VW.rA (tm 107 [(1, .ptr 0 0 0), (4, .ref 1 0 l7905.length), (5, .i .i64 k_7904), (6, .i .i64 x_9222), (42, .i .i64 ((List.replicate (aI .i64 s.store_ 1).toNat 0).length : Int)), (43, .i .i64 x_9222)]) [some (7, [(pT23 s)]), some (1, (rows cl_ci_i64o l7905).set k_7904.toNat [.ref 3 0 l9223.length]), none, some (1, rows ci_i64 l9223)] [] hC (VW.seq (VW.rA (tm 107 [(1, .ptr 0 0 0), (4, .ref 1 0 l7905.length), (5, .i .i64 k_7904), (6, .i .i64 x_9222), (7, .i .i64 (-1)), (42, .i .i64 ((List.replicate (aI .i64 s.store_ 1).toNat 0).length : Int)), (43, .i .i64 x_9222)]) [some (7, [(pT23 s)]), some (1, (rows cl_ci_i64o l7905).set k_7904.toNat [.ref 3 0 l9223.length]), none, some (1, rows ci_i64 l9223)] [] hC (VW.join (fun (v : Int) => (⟨(tm 107 [(1, .ptr 0 0 0), (4, .ref 1 0 l7905.length), (5, .i .i64 k_7904), (6, .i .i64 x_9222), (7, .i .i64 v), (42, .i .i64 ((List.replicate (aI .i64 s.store_ 1).toNat 0).length : Int)), (43, .i .i64 x_9222)]), [some (7, [(pT23 s)]), some (1, (rows cl_ci_i64o l7905).set k_7904.toNat [.ref 3 0 l9223.length]), none, some (1, rows ci_i64 l9223)], []⟩ : VS)) (fun v => (g31_j4 l9223 x_9222 (v)).bind (kN (g31_L2 s k_7904 l7905) n_2) = some w_2) ?_ ?_)))))
       · refine VW.seq (VW.rA (tm 107 [(1, .ptr 0 0 0), (4, .ref 1 0 l7905.length), (5, .i .i64 k_7904), (6, .i .i64 x_9222), (7, .i .i64 (-1)), (42, .i .i64 ((List.replicate (aI .i64 s.store_ 1).toNat 0).length : Int)), (43, .i .i64 x_9222), (48, .i .i64 (aI .i64 s.most_ 1)), (49, .i .i64 0)]) [some (7, [(pT23 s)]), some (1, (rows cl_ci_i64o l7905).set k_7904.toNat [.ref 3 0 l9223.length]), none, some (1, rows ci_i64 l9223)] [] hC (VW.block ?_))
         obtain ⟨w_3, hw_3, h2⟩ := bindE h2
         refine VW.loopO (fun (x : Int × Int) => (⟨(tm 107 [(1, .ptr 0 0 0), (4, .ref 1 0 l7905.length), (5, .i .i64 k_7904), (6, .i .i64 x_9222), (7, .i .i64 x.1), (42, .i .i64 ((List.replicate (aI .i64 s.store_ 1).toNat 0).length : Int)), (43, .i .i64 x_9222), (48, .i .i64 (aI .i64 s.most_ 1)), (49, .i .i64 x.2)]), [some (7, [(pT23 s)]), some (1, (rows cl_ci_i64o l7905).set k_7904.toNat [.ref 3 0 l9223.length]), none, some (1, rows ci_i64 l9223)], []⟩ : VS)) hw_3 (Ent.tu 4) ?_
         rintro n_3 ⟨best_9462, x_9463⟩ h3
         rw [g31_L3] at h3
         refine VW.seq (VW.rA (tm 107 [(1, .ptr 0 0 0), (4, .ref 1 0 l7905.length), (5, .i .i64 k_7904), (6, .i .i64 x_9222), (7, .i .i64 best_9462), (42, .i .i64 ((List.replicate (aI .i64 s.store_ 1).toNat 0).length : Int)), (43, .i .i64 x_9222), (48, .i .i64 (aI .i64 s.most_ 1)), (49, .i .i64 x_9463), (50, .b (ltI x_9463 (aI .i64 s.most_ 1)))]) [some (7, [(pT23 s)]), some (1, (rows cl_ci_i64o l7905).set k_7904.toNat [.ref 3 0 l9223.length]), none, some (1, rows ci_i64 l9223)] [] hC (VW.seq (VW.condJ h3 (fun h3 => ?_) (fun h3 => ?_))))
         · refine VW.exit ?_
           have e_ := leafR h3
           subst w_3
           exact vnext best_9462 h2 (Ent.tu 4)
         refine VW.skip (VW.seq (VW.block (VW.seq (VW.rA (tm 107 [(1, .ptr 0 0 0), (4, .ref 1 0 l7905.length), (5, .i .i64 k_7904), (6, .i .i64 x_9222), (7, .i .i64 best_9462), (8, .i .i64 x_9463), (42, .i .i64 ((List.replicate (aI .i64 s.store_ 1).toNat 0).length : Int)), (43, .i .i64 x_9222), (48, .i .i64 (aI .i64 s.most_ 1)), (49, .i .i64 x_9463)]) [some (7, [(pT23 s)]), some (1, (rows cl_ci_i64o l7905).set k_7904.toNat [.ref 3 0 l9223.length]), none, some (1, rows ci_i64 l9223)] [] hC (VW.seq ?_)))))
         obtain ⟨r9465, q9466, h3⟩ := bindE h3
         have c9466 : F37 [.agg (pT23 s), .i .i64 k_7904, .i .i64 x_9222, .i .i64 x_9463] = some (.tup [.i .i64 r9465.1, .b r9465.2]) := tells_eq inj37 (a := (s, k_7904, x_9222, x_9463)) q9466
         refine VW.rA (tm 107 [(1, .ptr 0 0 0), (4, .ref 1 0 l7905.length), (5, .i .i64 k_7904), (6, .i .i64 x_9222), (7, .i .i64 best_9462), (8, .i .i64 x_9463), (9, .i .i64 r9465.1), (10, .b r9465.2), (42, .i .i64 ((List.replicate (aI .i64 s.store_ 1).toNat 0).length : Int)), (43, .i .i64 x_9222), (48, .i .i64 (aI .i64 s.most_ 1)), (49, .i .i64 x_9463)]) [some (7, [(pT23 s)]), some (1, (rows cl_ci_i64o l7905).set k_7904.toNat [.ref 3 0 l9223.length]), none, some (1, rows ci_i64 l9223)] [] hC (VW.seq (VW.seq ?_)) (h := by simp -implicitDefEqProofs [c9466])
         obtain ⟨w9472, q9482, h3⟩ := bindE h3
         refine VW.evalA (tm 107 [(1, .ptr 0 0 0), (4, .ref 1 0 l7905.length), (5, .i .i64 k_7904), (6, .i .i64 x_9222), (7, .i .i64 best_9462), (8, .i .i64 x_9463), (9, .i .i64 r9465.1), (42, .i .i64 ((List.replicate (aI .i64 s.store_ 1).toNat 0).length : Int)), (43, .i .i64 x_9222), (48, .i .i64 (aI .i64 s.most_ 1)), (49, .i .i64 x_9463), (72, .b w9472)]) [some (7, [(pT23 s)]), some (1, (rows cl_ci_i64o l7905).set k_7904.toNat [.ref 3 0 l9223.length]), none, some (1, rows ci_i64 l9223)] [] hC (by kernel_rfl) (by
             obtain ⟨q9483, q9482⟩ | ⟨q9483, rfl⟩ := gdF q9482
             · obtain ⟨e9467, q9468, q9482⟩ := bindQ q9482
               obtain ⟨f9468a, f9468b, f9468c, f9468d⟩ := idx_some q9468
               have f9469n := succ_ne f8699a f9468a
               obtain ⟨e9470, q9471, q9482⟩ := bindQ q9482
               obtain ⟨f9471a, f9471b, f9471c, f9471d⟩ := idx_some q9471
               obtain rfl := Option.some.inj q9482
               simp -implicitDefEqProofs [q9483, f9468a, f9468b, f9468c, f9468d, f9469n, f9471a, f9471b, f9471c, f9471d]
             simp -implicitDefEqProofs [q9483]) ?_
         refine VW.condI h3 (fun h3 => ?_) (fun h3 => ?_)
         · exact VW.exit (VW.rA (tm 107 [(1, .ptr 0 0 0), (4, .ref 1 0 l7905.length), (5, .i .i64 k_7904), (6, .i .i64 x_9222), (7, .i .i64 best_9462), (42, .i .i64 ((List.replicate (aI .i64 s.store_ 1).toNat 0).length : Int)), (43, .i .i64 x_9222), (48, .i .i64 (aI .i64 s.most_ 1)), (49, .i .i64 (aI .i64 x_9463 1))]) [some (7, [(pT23 s)]), some (1, (rows cl_ci_i64o l7905).set k_7904.toNat [.ref 3 0 l9223.length]), none, some (1, rows ci_i64 l9223)] [] hC (vnext (best_9462, aI .i64 x_9463 1) (leafL h3) (Ent.tu 4)))
         refine VW.skip (VW.seq ?_)
         obtain ⟨e9474, ⟨f9475a, f9475b, f9475c, f9475d⟩, h3⟩ := bindI h3
         obtain ⟨e9476, ⟨f9477a, f9477b, f9477c, f9477d⟩, h3⟩ := bindI h3
         have f9478n := succ_ne f8699a f9477a
         obtain ⟨e9479, ⟨f9480a, f9480b, f9480c, f9480d⟩, h3⟩ := bindI h3
         refine VW.rD (tm 107 [(1, .ptr 0 0 0), (4, .ref 1 0 l7905.length), (5, .i .i64 k_7904), (6, .i .i64 x_9222), (7, .i .i64 best_9462), (11, .i .i64 (aI .i64 (mI .i64 e9474 x_9463) e9479)), (42, .i .i64 ((List.replicate (aI .i64 s.store_ 1).toNat 0).length : Int)), (43, .i .i64 x_9222), (48, .i .i64 (aI .i64 s.most_ 1)), (49, .i .i64 x_9463)]) [some (7, [(pT23 s)]), some (1, (rows cl_ci_i64o l7905).set k_7904.toNat [.ref 3 0 l9223.length]), none, some (1, rows ci_i64 l9223)] [] hC mixed (VW.seq (VW.rA (tm 107 [(1, .ptr 0 0 0), (4, .ref 1 0 l7905.length), (5, .i .i64 k_7904), (6, .i .i64 x_9222), (7, .i .i64 best_9462), (11, .i .i64 (aI .i64 (mI .i64 e9474 x_9463) e9479)), (42, .i .i64 ((List.replicate (aI .i64 s.store_ 1).toNat 0).length : Int)), (43, .i .i64 x_9222), (48, .i .i64 (aI .i64 s.most_ 1)), (49, .i .i64 x_9463), (95, .b (eqI best_9462 (-1) || ltI (aI .i64 (mI .i64 e9474 x_9463) e9479) best_9462))]) [some (7, [(pT23 s)]), some (1, (rows cl_ci_i64o l7905).set k_7904.toNat [.ref 3 0 l9223.length]), none, some (1, rows ci_i64 l9223)] [] hC (VW.condJ h3 (fun h3 => ?_) (fun h3 => ?_)))) (h := by simp -implicitDefEqProofs [f9475a, f9475b, f9475c, f9475d, f9477a, f9477b, f9477c, f9477d, f9478n, f9480a, f9480b, f9480c, f9480d])
         · exact VW.skip (VW.rA (tm 107 [(1, .ptr 0 0 0), (4, .ref 1 0 l7905.length), (5, .i .i64 k_7904), (6, .i .i64 x_9222), (7, .i .i64 best_9462), (42, .i .i64 ((List.replicate (aI .i64 s.store_ 1).toNat 0).length : Int)), (43, .i .i64 x_9222), (48, .i .i64 (aI .i64 s.most_ 1)), (49, .i .i64 (aI .i64 x_9463 1))]) [some (7, [(pT23 s)]), some (1, (rows cl_ci_i64o l7905).set k_7904.toNat [.ref 3 0 l9223.length]), none, some (1, rows ci_i64 l9223)] [] hC (vnext (best_9462, aI .i64 x_9463 1) (leafL h3) (Ent.tu 4)))
         exact VW.rA (tm 107 [(1, .ptr 0 0 0), (4, .ref 1 0 l7905.length), (5, .i .i64 k_7904), (6, .i .i64 x_9222), (7, .i .i64 (aI .i64 (mI .i64 e9474 x_9463) e9479)), (42, .i .i64 ((List.replicate (aI .i64 s.store_ 1).toNat 0).length : Int)), (43, .i .i64 x_9222), (48, .i .i64 (aI .i64 s.most_ 1)), (49, .i .i64 x_9463)]) [some (7, [(pT23 s)]), some (1, (rows cl_ci_i64o l7905).set k_7904.toNat [.ref 3 0 l9223.length]), none, some (1, rows ci_i64 l9223)] [] hC (VW.rA (tm 107 [(1, .ptr 0 0 0), (4, .ref 1 0 l7905.length), (5, .i .i64 k_7904), (6, .i .i64 x_9222), (7, .i .i64 (aI .i64 (mI .i64 e9474 x_9463) e9479)), (42, .i .i64 ((List.replicate (aI .i64 s.store_ 1).toNat 0).length : Int)), (43, .i .i64 x_9222), (48, .i .i64 (aI .i64 s.most_ 1)), (49, .i .i64 (aI .i64 x_9463 1))]) [some (7, [(pT23 s)]), some (1, (rows cl_ci_i64o l7905).set k_7904.toNat [.ref 3 0 l9223.length]), none, some (1, rows ci_i64 l9223)] [] hC (vnext (aI .i64 (mI .i64 e9474 x_9463) e9479, aI .i64 x_9463 1) (leafL h3) (Ent.tu 4)))
       rintro best_9418 h2
       replace h2 : (g31_j4 l9223 x_9222 best_9418).bind _ = _ := h2
       rw [g31_j4] at h2
       obtain ⟨e9419, ⟨f9420a, f9420b, f9420c, f9420d⟩, h2⟩ := bindI h2
       exact VW.rA (tm 107 [(1, .ptr 0 0 0), (4, .ref 1 0 l7905.length), (5, .i .i64 k_7904), (42, .i .i64 ((List.replicate (aI .i64 s.store_ 1).toNat 0).length : Int)), (43, .i .i64 x_9222)]) [some (7, [(pT23 s)]), some (1, (rows cl_ci_i64o l7905).set k_7904.toNat [.ref 3 0 (l9223.set x_9222.toNat best_9418).length]), none, some (1, rows ci_i64 (l9223.set x_9222.toNat best_9418))] [] hC (vnext (l9223.set x_9222.toNat best_9418) h2 (Ent.tu 4)) (h := by simp -implicitDefEqProofs [f9420a, f9420b, f9420c, f9420d, f8699a, f8699b, f8699c, f8699d])
     rintro l9354 h2
     replace h2 : (g31_j3 x_9222 l9354).bind _ = _ := h2
     rw [g31_j3] at h2
     exact VW.rA (tm 107 [(1, .ptr 0 0 0), (4, .ref 1 0 l7905.length), (5, .i .i64 k_7904), (42, .i .i64 ((List.replicate (aI .i64 s.store_ 1).toNat 0).length : Int)), (43, .i .i64 (aI .i64 x_9222 1))]) [some (7, [(pT23 s)]), some (1, (rows cl_ci_i64o l7905).set k_7904.toNat [.ref 3 0 l9354.length]), none, some (1, rows ci_i64 l9354)] [] hC (vnext (aI .i64 x_9222 1, l9354) (leafL h2) (Ent.tu 4))
   rintro l8695 h1
   replace h1 : (g31_j2 k_7904 l8695).bind _ = _ := h1
   rw [g31_j2] at h1
   exact VW.rA (tm 107 [(1, .ptr 0 0 0), (4, .ref 1 0 l8695.length), (5, .i .i64 (sI .i64 k_7904 1))]) [some (7, [(pT23 s)]), some (1, rows cl_ci_i64o l8695), none] [] hC (vnext (sI .i64 k_7904 1, l8695) (leafL h1) (Ent.tu 3))
 rintro l4745 h
 replace h : (g31_j1 l4745).bind _ = _ := h
 rw [g31_j1] at h
 refine VW.seq (VW.rA (tm 107 [(2, .ref 1 0 l4745.length)]) [some (7, [(pT23 s)]), some (1, rows cl_ci_i64o l4745), none] [] hC ?_)
 obtain rfl := leafS h
 exact VW.ret (VRet.fin (by simp [eB31]))
theorem tl31 {s : T23} {r : List (List Int)} (h : g31 s = some r) : F31 [.agg [.sl 1 (rows ci_i64 s.need_), .sl 1 (rows ci_i64 s.price_), .i .i64 s.most_, .i .i64 s.yield_, .i .i64 s.store_, .i .i64 s.first_, .i .i64 s.loss_]] = some (.own 1 (rows cl_ci_i64o r)) := tells_eq inj31 (a := s) h
noncomputable def g8 (s : T23) : Option ((List (List Int)) × Int) :=
(g30 s).bind fun r1 =>
if (!r1) = true then
some ([], 1)
else
(g31 s).bind fun r4 =>
some (r4, 0)
def eA8 (a : T23) : List V := [.agg (pT23 a)]
def eB8 (r : (List (List Int)) × Int) : V := .tup [.own 1 (rows cl_ci_i64o r.1), .i .i64 r.2]
theorem inj8 (a a' : T23) (h : eA8 a = eA8 a') : a = a' := by
  obtain ⟨i139, i140, i141, i142, i143, i144, i145⟩ := a
  obtain ⟨i146, i147, i148, i149, i150, i151, i152⟩ := a'
  simp only [eA8, pT23, List.cons.injEq, V.i.injEq, V.b.injEq, V.f.injEq, V.str.injEq, V.sl.injEq, V.agg.injEq, V.cptr.injEq, true_and, and_true] at h
  simp_all [ri ci_i64_inj]
noncomputable def F8 : List V → Option V := tells (fun a => g8 a) eA8 eB8
/- loop.example/g01229/impl.ValuesOf -/
theorem ok8 : Tells Try.prog 8 F8 := by
 refine Tells.go 9 Try.func8 rfl rfl rfl (by kernel_rfl) (fun _ => rfl) ?_
 rintro s r h
 simp only [eA8, en, Nat.reduceAdd]
 replace h : (g8 s).bind some = some r := bindS h
 rw [g8] at h
 have hC : CEnv.Ok Try.prog [(30, F30), (31, F31)] := ⟨.inl ok30, .inl ok31, trivial⟩
 refine VW.seq (VW.rA (tm 9 [(1, .ptr 0 0 0)]) [some (7, [(pT23 s)])] [] hC (VW.seq (VW.seq ?_)))
 obtain ⟨r1, q2, h⟩ := bindE h
 have c2 : F30 [.agg (pT23 s)] = some (.b r1) := tells_eq inj30 (a := s) q2
 refine VW.rA (tm 9 [(1, .ptr 0 0 0), (6, .b (!r1))]) [some (7, [(pT23 s)])] [] hC (VW.condI h (fun h => ?_) (fun h => ?_)) (h := by simp -implicitDefEqProofs [c2])
 · refine VW.seq (VW.rA (tm 9 [(2, .nil), (3, .i .i64 1)]) [some (7, [(pT23 s)])] [] hC ?_)
   obtain rfl := leafS h
   exact VW.ret (VRet.fin (by simp [eB8]))
 refine VW.skip (VW.seq ?_)
 obtain ⟨r4, q5, h⟩ := bindE h
 have c5 : F31 [.agg (pT23 s)] = some (.own 1 (rows cl_ci_i64o r4)) := tells_eq inj31 (a := s) q5
 refine VW.rA (tm 9 [(2, .ref 1 0 r4.length), (3, .i .i64 0)]) [some (7, [(pT23 s)]), some (1, rows cl_ci_i64o r4)] [] hC ?_ (h := by simp -implicitDefEqProofs [c5])
 obtain rfl := leafS h
 exact VW.ret (VRet.fin (by simp [eB8]))
theorem tl8 {s : T23} {r : (List (List Int)) × Int} (h : g8 s = some r) : F8 [.agg [.sl 1 (rows ci_i64 s.need_), .sl 1 (rows ci_i64 s.price_), .i .i64 s.most_, .i .i64 s.yield_, .i .i64 s.store_, .i .i64 s.first_, .i .i64 s.loss_]] = some (.tup [.own 1 (rows cl_ci_i64o r.1), .i .i64 r.2]) := tells_eq inj8 (a := s) h
noncomputable def g14 (code : List Int) (more_ : List Int) : Option (Bool) :=
some (ltI 3000 (code.length : Int) || ltI 3000 (more_.length : Int))
def eA14 (a : (List Int) × (List Int)) : List V := [.sl 1 (rows ci_u8 a.1), .sl 1 (rows ci_u8 a.2)]
def eB14 (r : Bool) : V := .b r
theorem inj14 (a a' : (List Int) × (List Int)) (h : eA14 a = eA14 a') : a = a' := by
  obtain ⟨i153, i154⟩ := a
  obtain ⟨i155, i156⟩ := a'
  simp only [eA14, List.cons.injEq, V.i.injEq, V.b.injEq, V.f.injEq, V.str.injEq, V.sl.injEq, V.agg.injEq, V.cptr.injEq, true_and, and_true] at h
  simp_all [ri ci_u8_inj]
noncomputable def F14 : List V → Option V := tells (fun a => g14 a.1 a.2) eA14 eB14
/- loop.example/g01229/laws.a2Long -/
theorem ok14 : Tells Try.prog 14 F14 := by
 refine Tells.go 13 Try.func14 rfl rfl rfl (by kernel_rfl) (fun _ => rfl) ?_
 rintro ⟨code, more_⟩ r h
 simp only [eA14, en, Nat.reduceAdd]
 replace h : (g14 code more_).bind some = some r := bindS h
 rw [g14] at h
 have hC : CEnv.Ok Try.prog [] := trivial
 refine VW.seq (VW.rA (tm 13 [(0, .sl 1 (rows ci_u8 code)), (1, .sl 1 (rows ci_u8 more_))]) [] [] hC (VW.seq (VW.rA (tm 13 [(4, .b (ltI 3000 (code.length : Int) || ltI 3000 (more_.length : Int)))]) [] [] hC ?_)))
 obtain rfl := leafS h
 exact VW.ret (VRet.fin (by simp [eB14]))
theorem tl14 {code : List Int} {more_ : List Int} {r : Bool} (h : g14 code more_ = some r) : F14 [.sl 1 (rows ci_u8 code), .sl 1 (rows ci_u8 more_)] = some (.b r) := tells_eq inj14 (a := (code, more_)) h
noncomputable def g50 (s : T75) : Option (Int × T75) :=
if ltI s.at_ (s.code_.length : Int) = true then
(idx s.code_ s.at_).bind fun e2 =>
if leI (aI .i64 s.at_ 1) (s.code_.length : Int) = true then
some (cI .i64 e2, (⟨s.code_, aI .i64 s.at_ 1, aI .u64 (aI .u64 (mI .u64 s.seed_ 6364136223846793005) (cI .u64 (cI .i64 e2))) 1442695040888963407⟩ : T75))
else
(shrI .u64 (aI .u64 (aI .u64 (mI .u64 s.seed_ 6364136223846793005) (cI .u64 (cI .i64 e2))) 1442695040888963407) 40).bind fun d5 =>
some (cI .i64 (andI .u64 d5 255), (⟨s.code_, aI .i64 s.at_ 1, aI .u64 (aI .u64 (mI .u64 s.seed_ 6364136223846793005) (cI .u64 (cI .i64 e2))) 1442695040888963407⟩ : T75))
else
if leI (aI .i64 s.at_ 1) (s.code_.length : Int) = true then
some (0, (⟨s.code_, aI .i64 s.at_ 1, aI .u64 (aI .u64 (mI .u64 s.seed_ 6364136223846793005) 0) 1442695040888963407⟩ : T75))
else
(shrI .u64 (aI .u64 (aI .u64 (mI .u64 s.seed_ 6364136223846793005) 0) 1442695040888963407) 40).bind fun d8 =>
some (cI .i64 (andI .u64 d8 255), (⟨s.code_, aI .i64 s.at_ 1, aI .u64 (aI .u64 (mI .u64 s.seed_ 6364136223846793005) 0) 1442695040888963407⟩ : T75))
def eA50 (a : T75) : List V := [.agg (pT75 a)]
def eB50 (r : Int × T75) : V := .tup [.i .i64 r.1, .agg [.sl 1 (rows ci_u8 r.2.code_), .i .i64 r.2.at_, .i .u64 r.2.seed_]]
theorem inj50 (a a' : T75) (h : eA50 a = eA50 a') : a = a' := by
  obtain ⟨i157, i158, i159⟩ := a
  obtain ⟨i160, i161, i162⟩ := a'
  simp only [eA50, pT75, List.cons.injEq, V.i.injEq, V.b.injEq, V.f.injEq, V.str.injEq, V.sl.injEq, V.agg.injEq, V.cptr.injEq, true_and, and_true] at h
  simp_all [ri ci_u8_inj]
noncomputable def F50 : List V → Option V := tells (fun a => g50 a) eA50 eB50
/- (*loop.example/g01229/spec.l00Src).next -/
theorem ok50 : TellsM Try.prog 50 F50 := by
  refine TellsM.of Try.func50 (by kernel_rfl) rfl rfl rfl ?_
  rintro s r h cs vs v_ cs' hE1 hE2 gg mm bb nn hb
  simp only [eA50, List.cons.injEq, V.agg.injEq] at hE1
  obtain ⟨rfl, rfl⟩ := hE1
  have hS : ∀ x, (mm.set bb x)[bb]? = some x := at_set (List.getElem?_eq_some_iff.1 hb).1
  replace h : (g50 s).bind some = some r := bindS h
  rw [g50] at h
  have hC : CEnv.Ok Try.prog [] := trivial
  refine VW.ent (s := (⟨(tm 62 [(0, .ptr bb 0 0)]), (mm.set bb (some (nn, [[.sl 1 (rows ci_u8 s.code_), .i .i64 s.at_, .i .u64 s.seed_]]))), gg⟩ : VS)) (Ent.eqs (by simp only [List.length_cons, List.length_nil, Nat.reduceAdd, Nat.reduceSub]; rw [tm_init]; simp) (set_self hb) rfl) (VW.seq (VW.rA (tm 62 [(0, .ptr bb 0 0)]) (mm.set bb (some (nn, [[.sl 1 (rows ci_u8 s.code_), .i .i64 s.at_, .i .u64 s.seed_]]))) gg hC (VW.seq (VW.rA (tm 62 [(0, .ptr bb 0 0), (3, .i .i64 0)]) (mm.set bb (some (nn, [[.sl 1 (rows ci_u8 s.code_), .i .i64 s.at_, .i .u64 s.seed_]]))) gg hC (VW.seq (VW.seq (VW.rD (tm 62 [(0, .ptr bb 0 0), (3, .i .i64 0), (13, .b (ltI s.at_ (s.code_.length : Int)))]) (mm.set bb (some (nn, [[.sl 1 (rows ci_u8 s.code_), .i .i64 s.at_, .i .u64 s.seed_]]))) gg hC mixed (VW.condJ h (fun h => ?_) (fun h => ?_)) (h := by simp -implicitDefEqProofs [hS])))) (h := by simp -implicitDefEqProofs [hS]))) (h := by simp -implicitDefEqProofs [hS])))
  · refine VW.skip (VW.seq (VW.rA (tm 62 [(0, .ptr bb 0 0), (3, .i .i64 0)]) (mm.set bb (some (nn, [[.sl 1 (rows ci_u8 s.code_), .i .i64 (aI .i64 s.at_ 1), .i .u64 s.seed_]]))) gg hC (VW.seq (VW.rA (tm 62 [(0, .ptr bb 0 0), (3, .i .i64 0)]) (mm.set bb (some (nn, [[.sl 1 (rows ci_u8 s.code_), .i .i64 (aI .i64 s.at_ 1), .i .u64 (aI .u64 (aI .u64 (mI .u64 s.seed_ 6364136223846793005) 0) 1442695040888963407)]]))) gg hC (VW.seq (VW.seq (VW.rD (tm 62 [(0, .ptr bb 0 0), (3, .i .i64 0), (53, .b (leI (aI .i64 s.at_ 1) (s.code_.length : Int)))]) (mm.set bb (some (nn, [[.sl 1 (rows ci_u8 s.code_), .i .i64 (aI .i64 s.at_ 1), .i .u64 (aI .u64 (aI .u64 (mI .u64 s.seed_ 6364136223846793005) 0) 1442695040888963407)]]))) gg hC mixed (VW.condI h (fun h => ?_) (fun h => ?_)) (h := by simp -implicitDefEqProofs [hS])))) (h := by simp -implicitDefEqProofs [(by decide : cI .u64 0 = 0), hS]))) (h := by simp -implicitDefEqProofs [hS])))
    · refine VW.seq (VW.rA (tm 62 [(2, .i .i64 0)]) (mm.set bb (some (nn, [[.sl 1 (rows ci_u8 s.code_), .i .i64 (aI .i64 s.at_ 1), .i .u64 (aI .u64 (aI .u64 (mI .u64 s.seed_ 6364136223846793005) 0) 1442695040888963407)]]))) gg hC ?_ (h := by simp -implicitDefEqProofs [hS]))
      obtain rfl := leafS h
      simp only [eB50, V.tup.injEq, V.agg.injEq, List.cons.injEq, and_true] at hE2
      obtain ⟨rfl, rfl⟩ := hE2
      exact VW.ret (VInE.fin (by simp) (by simp) rfl)
    refine VW.skip (VW.seq ?_)
    obtain ⟨d8, q9, h⟩ := bindE h
    refine VW.rA (tm 62 [(2, .i .i64 (cI .i64 (andI .u64 d8 255)))]) (mm.set bb (some (nn, [[.sl 1 (rows ci_u8 s.code_), .i .i64 (aI .i64 s.at_ 1), .i .u64 (aI .u64 (aI .u64 (mI .u64 s.seed_ 6364136223846793005) 0) 1442695040888963407)]]))) gg hC ?_ (h := by simp -implicitDefEqProofs [q9, hS])
    obtain rfl := leafS h
    simp only [eB50, V.tup.injEq, V.agg.injEq, List.cons.injEq, and_true] at hE2
    obtain ⟨rfl, rfl⟩ := hE2
    exact VW.ret (VInE.fin (by simp) (by simp) rfl)
  obtain ⟨e2, ⟨f3a, f3b, f3c, f3d⟩, h⟩ := bindI h
  refine VW.rD (tm 62 [(0, .ptr bb 0 0), (3, .i .i64 (cI .i64 e2))]) (mm.set bb (some (nn, [[.sl 1 (rows ci_u8 s.code_), .i .i64 s.at_, .i .u64 s.seed_]]))) gg hC mixed (VW.seq (VW.rA (tm 62 [(0, .ptr bb 0 0), (3, .i .i64 (cI .i64 e2))]) (mm.set bb (some (nn, [[.sl 1 (rows ci_u8 s.code_), .i .i64 (aI .i64 s.at_ 1), .i .u64 s.seed_]]))) gg hC (VW.seq (VW.rA (tm 62 [(0, .ptr bb 0 0), (3, .i .i64 (cI .i64 e2))]) (mm.set bb (some (nn, [[.sl 1 (rows ci_u8 s.code_), .i .i64 (aI .i64 s.at_ 1), .i .u64 (aI .u64 (aI .u64 (mI .u64 s.seed_ 6364136223846793005) (cI .u64 (cI .i64 e2))) 1442695040888963407)]]))) gg hC (VW.seq (VW.seq (VW.rD (tm 62 [(0, .ptr bb 0 0), (3, .i .i64 (cI .i64 e2)), (53, .b (leI (aI .i64 s.at_ 1) (s.code_.length : Int)))]) (mm.set bb (some (nn, [[.sl 1 (rows ci_u8 s.code_), .i .i64 (aI .i64 s.at_ 1), .i .u64 (aI .u64 (aI .u64 (mI .u64 s.seed_ 6364136223846793005) (cI .u64 (cI .i64 e2))) 1442695040888963407)]]))) gg hC mixed (VW.condI h (fun h => ?_) (fun h => ?_)) (h := by simp -implicitDefEqProofs [hS])))) (h := by simp -implicitDefEqProofs [hS]))) (h := by simp -implicitDefEqProofs [hS]))) (h := by simp -implicitDefEqProofs [f3a, f3b, f3c, f3d, hS])
  · refine VW.seq (VW.rA (tm 62 [(2, .i .i64 (cI .i64 e2))]) (mm.set bb (some (nn, [[.sl 1 (rows ci_u8 s.code_), .i .i64 (aI .i64 s.at_ 1), .i .u64 (aI .u64 (aI .u64 (mI .u64 s.seed_ 6364136223846793005) (cI .u64 (cI .i64 e2))) 1442695040888963407)]]))) gg hC ?_ (h := by simp -implicitDefEqProofs [hS]))
    obtain rfl := leafS h
    simp only [eB50, V.tup.injEq, V.agg.injEq, List.cons.injEq, and_true] at hE2
    obtain ⟨rfl, rfl⟩ := hE2
    exact VW.ret (VInE.fin (by simp) (by simp) rfl)
  refine VW.skip (VW.seq ?_)
  obtain ⟨d5, q6, h⟩ := bindE h
  refine VW.rA (tm 62 [(2, .i .i64 (cI .i64 (andI .u64 d5 255)))]) (mm.set bb (some (nn, [[.sl 1 (rows ci_u8 s.code_), .i .i64 (aI .i64 s.at_ 1), .i .u64 (aI .u64 (aI .u64 (mI .u64 s.seed_ 6364136223846793005) (cI .u64 (cI .i64 e2))) 1442695040888963407)]]))) gg hC ?_ (h := by simp -implicitDefEqProofs [q6, hS])
  obtain rfl := leafS h
  simp only [eB50, V.tup.injEq, V.agg.injEq, List.cons.injEq, and_true] at hE2
  obtain ⟨rfl, rfl⟩ := hE2
  exact VW.ret (VInE.fin (by simp) (by simp) rfl)
noncomputable def g43 (s : T75) (n : Int) : Option (Int × T75) :=
if leI n 1 = true then
some (0, s)
else
(g50 s).bind fun r2 =>
if ltI 200 n = true then
(g50 r2.2).bind fun r5 =>
(rI .i64 (aI .i64 (mI .i64 r2.1 256) r5.1) n).bind fun d7 =>
some (d7, r5.2)
else
(rI .i64 r2.1 n).bind fun d9 =>
some (d9, r2.2)
def eA43 (a : T75 × Int) : List V := [.agg (pT75 a.1), .i .i64 a.2]
def eB43 (r : Int × T75) : V := .tup [.i .i64 r.1, .agg [.sl 1 (rows ci_u8 r.2.code_), .i .i64 r.2.at_, .i .u64 r.2.seed_]]
theorem inj43 (a a' : T75 × Int) (h : eA43 a = eA43 a') : a = a' := by
  obtain ⟨⟨i163, i164, i165⟩, i166⟩ := a
  obtain ⟨⟨i167, i168, i169⟩, i170⟩ := a'
  simp only [eA43, pT75, List.cons.injEq, V.i.injEq, V.b.injEq, V.f.injEq, V.str.injEq, V.sl.injEq, V.agg.injEq, V.cptr.injEq, true_and, and_true] at h
  simp_all [ri ci_u8_inj]
noncomputable def F43 : List V → Option V := tells (fun a => g43 a.1 a.2) eA43 eB43
/- (*loop.example/g01229/spec.l00Src).pick -/
theorem ok43 : TellsM Try.prog 43 F43 := by
  refine TellsM.of Try.func43 (by kernel_rfl) rfl rfl rfl ?_
  rintro ⟨s, n⟩ r h cs vs v_ cs' hE1 hE2 gg mm bb nn hb
  simp only [eA43, List.cons.injEq, V.agg.injEq] at hE1
  obtain ⟨rfl, rfl⟩ := hE1
  have hS : ∀ x, (mm.set bb x)[bb]? = some x := at_set (List.getElem?_eq_some_iff.1 hb).1
  replace h : (g43 s n).bind some = some r := bindS h
  rw [g43] at h
  have hC : CEnv.Ok Try.prog [] := trivial
  refine VW.ent (s := (⟨(tm 20 [(0, .ptr bb 0 0), (1, .i .i64 n)]), (mm.set bb (some (nn, [[.sl 1 (rows ci_u8 s.code_), .i .i64 s.at_, .i .u64 s.seed_]]))), gg⟩ : VS)) (Ent.eqs (by simp only [List.length_cons, List.length_nil, Nat.reduceAdd, Nat.reduceSub]; rw [tm_init]; simp) (set_self hb) rfl) (VW.seq (VW.rA (tm 20 [(0, .ptr bb 0 0), (1, .i .i64 n)]) (mm.set bb (some (nn, [[.sl 1 (rows ci_u8 s.code_), .i .i64 s.at_, .i .u64 s.seed_]]))) gg hC (VW.seq (VW.seq (VW.rA (tm 20 [(0, .ptr bb 0 0), (1, .i .i64 n), (7, .b (leI n 1))]) (mm.set bb (some (nn, [[.sl 1 (rows ci_u8 s.code_), .i .i64 s.at_, .i .u64 s.seed_]]))) gg hC (VW.condI h (fun h => ?_) (fun h => ?_)) (h := by simp -implicitDefEqProofs [hS])))) (h := by simp -implicitDefEqProofs [hS])))
  · refine VW.seq (VW.rA (tm 20 [(4, .i .i64 0)]) (mm.set bb (some (nn, [[.sl 1 (rows ci_u8 s.code_), .i .i64 s.at_, .i .u64 s.seed_]]))) gg hC ?_ (h := by simp -implicitDefEqProofs [hS]))
    obtain rfl := leafS h
    simp only [eB43, V.tup.injEq, V.agg.injEq, List.cons.injEq, and_true] at hE2
    obtain ⟨rfl, rfl⟩ := hE2
    exact VW.ret (VInE.fin (by simp) (by simp) rfl)
  refine VW.skip (VW.seq ?_)
  obtain ⟨r2, q3, h⟩ := bindE h
  have c3 : F50 [.agg [.sl 1 (rows ci_u8 s.code_), .i .i64 s.at_, .i .u64 s.seed_]] = some (.tup [.i .i64 r2.1, .agg [.sl 1 (rows ci_u8 r2.2.code_), .i .i64 r2.2.at_, .i .u64 r2.2.seed_]]) := tells_eq inj50 (a := s) q3
  refine VW.evalM (CM := [(50, F50)]) (tm 20 [(0, .ptr bb 0 0), (1, .i .i64 n), (5, .i .i64 r2.1)]) (mm.set bb (some (nn, [[.sl 1 (rows ci_u8 r2.2.code_), .i .i64 r2.2.at_, .i .u64 r2.2.seed_]]))) gg hC ⟨ok50, trivial⟩ (by simp -implicitDefEqProofs [c3, hS]) (VW.seq (VW.seq (VW.rA (tm 20 [(0, .ptr bb 0 0), (1, .i .i64 n), (5, .i .i64 r2.1), (11, .b (ltI 200 n))]) (mm.set bb (some (nn, [[.sl 1 (rows ci_u8 r2.2.code_), .i .i64 r2.2.at_, .i .u64 r2.2.seed_]]))) gg hC (VW.condJ h (fun h => ?_) (fun h => ?_)) (h := by simp -implicitDefEqProofs [hS]))))
  · refine VW.skip (VW.seq ?_)
    obtain ⟨d9, q10, h⟩ := bindE h
    refine VW.rA (tm 20 [(4, .i .i64 d9)]) (mm.set bb (some (nn, [[.sl 1 (rows ci_u8 r2.2.code_), .i .i64 r2.2.at_, .i .u64 r2.2.seed_]]))) gg hC ?_ (h := by simp -implicitDefEqProofs [q10, hS])
    obtain rfl := leafS h
    simp only [eB43, V.tup.injEq, V.agg.injEq, List.cons.injEq, and_true] at hE2
    obtain ⟨rfl, rfl⟩ := hE2
    exact VW.ret (VInE.fin (by simp) (by simp) rfl)
  obtain ⟨r5, q6, h⟩ := bindE h
  have c6 : F50 [.agg [.sl 1 (rows ci_u8 r2.2.code_), .i .i64 r2.2.at_, .i .u64 r2.2.seed_]] = some (.tup [.i .i64 r5.1, .agg [.sl 1 (rows ci_u8 r5.2.code_), .i .i64 r5.2.at_, .i .u64 r5.2.seed_]]) := tells_eq inj50 (a := r2.2) q6
  refine VW.evalM (CM := [(50, F50)]) (tm 20 [(1, .i .i64 n), (5, .i .i64 (aI .i64 (mI .i64 r2.1 256) r5.1))]) (mm.set bb (some (nn, [[.sl 1 (rows ci_u8 r5.2.code_), .i .i64 r5.2.at_, .i .u64 r5.2.seed_]]))) gg hC ⟨ok50, trivial⟩ (by simp -implicitDefEqProofs [c6, hS]) (VW.seq ?_)
  obtain ⟨d7, q8, h⟩ := bindE h
  refine VW.rA (tm 20 [(4, .i .i64 d7)]) (mm.set bb (some (nn, [[.sl 1 (rows ci_u8 r5.2.code_), .i .i64 r5.2.at_, .i .u64 r5.2.seed_]]))) gg hC ?_ (h := by simp -implicitDefEqProofs [q8, hS])
  obtain rfl := leafS h
  simp only [eB43, V.tup.injEq, V.agg.injEq, List.cons.injEq, and_true] at hE2
  obtain ⟨rfl, rfl⟩ := hE2
  exact VW.ret (VInE.fin (by simp) (by simp) rfl)
noncomputable def g15_j1 (r104 : Int × T75) (r106 : Int × T75) (r108 : Int × T75) (r118 : Int × T75) (e116 : Int) (y161 : List Int) (y162 : Int) (y163 : Int) (l164 : List Int) (l165 : List Int) : Option (T23) :=
some (⟨l164, l165, aI .i64 1 r104.1, aI .i64 5 r106.1, r108.1, r118.1, e116⟩ : T23)
noncomputable def g15_L1 : (Int × (List Int) × Int × Int × (List Int) × (List Int)) → Option ((Int × (List Int) × Int × Int × (List Int) × (List Int)) ⊕ ((List Int) × Int × Int × (List Int) × (List Int)))
| (k_192, y193, y194, y195, l196, l197) =>
if ltI 0 k_192 = true then
(g43 (⟨y193, y194, y195⟩ : T75) 30).bind fun r199 =>
(appK 8 l196 [r199.1]).bind fun u201 =>
(g43 r199.2 7).bind fun r203 =>
(appK 8 l197 [r203.1]).bind fun u205 =>
some (.inl (sI .i64 k_192 1, r203.2.code_, r203.2.at_, r203.2.seed_, (l196 ++ [r199.1]), (l197 ++ [r203.1])))
else
some (.inr (y193, y194, y195, l196, l197))
noncomputable def g15 (code : List Int) : Option (T23) :=
(g43 (⟨code, 0, 0⟩ : T75) 5).bind fun r104 =>
(g43 r104.2 8).bind fun r106 =>
(g43 r106.2 25).bind fun r108 =>
(g43 r108.2 ([0, 0, 10, 25, 50, 100].length : Int)).bind fun r114 =>
(idx [0, 0, 10, 25, 50, 100] r114.1).bind fun e116 =>
(g43 r114.2 (aI .i64 r108.1 1)).bind fun r118 =>
(g43 r118.2 5).bind fun r166 =>
(loopO g15_L1 (aI .i64 1 r166.1, r166.2.code_, r166.2.at_, r166.2.seed_, [], [])).bind fun w => g15_j1 r104 r106 r108 r118 e116 w.1 w.2.1 w.2.2.1 w.2.2.2.1 w.2.2.2.2
def eA15 (a : List Int) : List V := [.sl 1 (rows ci_u8 a)]
def eB15 (r : T23) : V := .agg [.own 1 (rows ci_i64 r.need_), .own 1 (rows ci_i64 r.price_), .i .i64 r.most_, .i .i64 r.yield_, .i .i64 r.store_, .i .i64 r.first_, .i .i64 r.loss_]
theorem inj15 (a a' : List Int) (h : eA15 a = eA15 a') : a = a' := by
  obtain i171 := a
  obtain i172 := a'
  simp only [eA15, List.cons.injEq, V.i.injEq, V.b.injEq, V.f.injEq, V.str.injEq, V.sl.injEq, V.agg.injEq, V.cptr.injEq, true_and, and_true] at h
  simp_all [ri ci_u8_inj]
noncomputable def F15 : List V → Option V := tells (fun a => g15 a) eA15 eB15
/- loop.example/g01229/spec.A2Season -/
theorem ok15 : Tells Try.prog 15 F15 := by
 refine Tells.go 6 Try.func15 rfl rfl rfl (by kernel_rfl) (fun _ => rfl) ?_
 rintro code r h
 simp only [eA15, en, Nat.reduceAdd]
 replace h : (g15 code).bind some = some r := bindS h
 rw [g15] at h
 have hC : CEnv.Ok Try.prog [] := trivial
 refine VW.seq (VW.rE (tm 6 [(0, .sl 1 (rows ci_u8 code)), (2, .ptr 0 0 0)]) [some (7, [[.nil, .nil, .i .i64 0, .i .i64 0, .i .i64 0, .i .i64 0, .i .i64 0]])] [] hC (Ent.trans (Ent.nilref (m := [some (7, [[.nil, .nil, .i .i64 0, .i .i64 0, .i .i64 0, .i .i64 0, .i .i64 0]])]) 0 1 [some (7, [[.ref 1 0 0, .nil, .i .i64 0, .i .i64 0, .i .i64 0, .i .i64 0, .i .i64 0]]), some (1, rows ci_i64 [])] rfl (by simp) rfl) (Ent.nilref (m := [some (7, [[.ref 1 0 0, .nil, .i .i64 0, .i .i64 0, .i .i64 0, .i .i64 0, .i .i64 0]]), some (1, rows ci_i64 [])]) 0 1 [some (7, [[.ref 1 0 0, .ref 2 0 0, .i .i64 0, .i .i64 0, .i .i64 0, .i .i64 0, .i .i64 0]]), some (1, rows ci_i64 []), some (1, rows ci_i64 [])] rfl (by simp) rfl) ) (VW.seq (VW.inlS (VL.inlP 1 (tm 6 [(2, .ptr 0 0 0), (3, .sl 1 (rows ci_u8 code))]) [some (7, [[.ref 1 0 0, .ref 2 0 0, .i .i64 0, .i .i64 0, .i .i64 0, .i .i64 0, .i .i64 0]]), some (1, rows ci_i64 []), some (1, rows ci_i64 [])] [] rfl hC (by kernel_rfl) (by simp -implicitDefEqProofs) rfl rfl Try.func36 rfl rfl rfl rfl (tm_length) (VW.ent (s := (⟨(tm 6 [(0, .sl 1 (rows ci_u8 code))]), [some (7, [[.ref 1 0 0, .ref 2 0 0, .i .i64 0, .i .i64 0, .i .i64 0, .i .i64 0, .i .i64 0]]), some (1, rows ci_i64 []), some (1, rows ci_i64 [])], ((tm 6 [(2, .ptr 0 0 0), (3, .sl 1 (rows ci_u8 code))]) ++ [])⟩ : VS)) (Ent.eqs (by rw [tm_init]; simp) rfl (by simp)) (VW.seq (VW.rA (tm 6 [(0, .sl 1 (rows ci_u8 code))]) [some (7, [[.ref 1 0 0, .ref 2 0 0, .i .i64 0, .i .i64 0, .i .i64 0, .i .i64 0, .i .i64 0]]), some (1, rows ci_i64 []), some (1, rows ci_i64 [])] ((tm 6 [(2, .ptr 0 0 0), (3, .sl 1 (rows ci_u8 code))]) ++ []) hC (VW.seq (VW.rA (tm 6 [(2, .ptr 3 0 0)]) [some (7, [[.ref 1 0 0, .ref 2 0 0, .i .i64 0, .i .i64 0, .i .i64 0, .i .i64 0, .i .i64 0]]), some (1, rows ci_i64 []), some (1, rows ci_i64 []), some (3, [[.sl 1 (rows ci_u8 code), .i .i64 0, .i .u64 0]])] ((tm 6 [(2, .ptr 0 0 0), (3, .sl 1 (rows ci_u8 code))]) ++ []) hC (VW.ret (VIn.ret (v := .ptr 3 0 0) (by simp) (VL.inlP 0 (tm 6 [(2, .ptr 0 0 0), (4, .ptr 3 0 0)]) [some (7, [[.ref 1 0 0, .ref 2 0 0, .i .i64 0, .i .i64 0, .i .i64 0, .i .i64 0, .i .i64 0]]), some (1, rows ci_i64 []), some (1, rows ci_i64 []), some (3, [[.sl 1 (rows ci_u8 code), .i .i64 0, .i .u64 0]])] [] rfl hC (by kernel_rfl) (by simp -implicitDefEqProofs) rfl rfl Try.func35 rfl rfl rfl rfl (tm_length) (VW.ent (s := (⟨(tm 45 [(0, .ptr 3 0 0)]), [some (7, [[.ref 1 0 0, .ref 2 0 0, .i .i64 0, .i .i64 0, .i .i64 0, .i .i64 0, .i .i64 0]]), some (1, rows ci_i64 []), some (1, rows ci_i64 []), some (3, [[.sl 1 (rows ci_u8 code), .i .i64 0, .i .u64 0]])], ((tm 6 [(2, .ptr 0 0 0), (4, .ptr 3 0 0)]) ++ [])⟩ : VS)) (Ent.eqs (by rw [tm_init]; simp) rfl (by simp)) (VW.seq (VW.rE (tm 45 [(0, .ptr 3 0 0), (2, .ptr 4 0 0)]) [some (7, [[.ref 1 0 0, .ref 2 0 0, .i .i64 0, .i .i64 0, .i .i64 0, .i .i64 0, .i .i64 0]]), some (1, rows ci_i64 []), some (1, rows ci_i64 []), some (3, [[.sl 1 (rows ci_u8 code), .i .i64 0, .i .u64 0]]), some (7, [[.nil, .nil, .i .i64 0, .i .i64 0, .i .i64 0, .i .i64 0, .i .i64 0]])] ((tm 6 [(2, .ptr 0 0 0), (4, .ptr 3 0 0)]) ++ []) hC (Ent.trans (Ent.nilref (m := [some (7, [[.ref 1 0 0, .ref 2 0 0, .i .i64 0, .i .i64 0, .i .i64 0, .i .i64 0, .i .i64 0]]), some (1, rows ci_i64 []), some (1, rows ci_i64 []), some (3, [[.sl 1 (rows ci_u8 code), .i .i64 0, .i .u64 0]]), some (7, [[.nil, .nil, .i .i64 0, .i .i64 0, .i .i64 0, .i .i64 0, .i .i64 0]])]) 4 1 [some (7, [[.ref 1 0 0, .ref 2 0 0, .i .i64 0, .i .i64 0, .i .i64 0, .i .i64 0, .i .i64 0]]), some (1, rows ci_i64 []), some (1, rows ci_i64 []), some (3, [[.sl 1 (rows ci_u8 code), .i .i64 0, .i .u64 0]]), some (7, [[.ref 5 0 0, .nil, .i .i64 0, .i .i64 0, .i .i64 0, .i .i64 0, .i .i64 0]]), some (1, rows ci_i64 [])] rfl (by simp) rfl) (Ent.nilref (m := [some (7, [[.ref 1 0 0, .ref 2 0 0, .i .i64 0, .i .i64 0, .i .i64 0, .i .i64 0, .i .i64 0]]), some (1, rows ci_i64 []), some (1, rows ci_i64 []), some (3, [[.sl 1 (rows ci_u8 code), .i .i64 0, .i .u64 0]]), some (7, [[.ref 5 0 0, .nil, .i .i64 0, .i .i64 0, .i .i64 0, .i .i64 0, .i .i64 0]]), some (1, rows ci_i64 [])]) 4 1 [some (7, [[.ref 1 0 0, .ref 2 0 0, .i .i64 0, .i .i64 0, .i .i64 0, .i .i64 0, .i .i64 0]]), some (1, rows ci_i64 []), some (1, rows ci_i64 []), some (3, [[.sl 1 (rows ci_u8 code), .i .i64 0, .i .u64 0]]), some (7, [[.ref 5 0 0, .ref 6 0 0, .i .i64 0, .i .i64 0, .i .i64 0, .i .i64 0, .i .i64 0]]), some (1, rows ci_i64 []), some (1, rows ci_i64 [])] rfl (by simp) rfl) ) (VW.seq (VW.inlS ?_)))))))))))))))))
 obtain ⟨r104, q105, h⟩ := bindE h
 have c105 : F43 [.agg [.sl 1 (rows ci_u8 code), .i .i64 0, .i .u64 0], .i .i64 5] = some (.tup [.i .i64 r104.1, .agg [.sl 1 (rows ci_u8 r104.2.code_), .i .i64 r104.2.at_, .i .u64 r104.2.seed_]]) := tells_eq inj43 (a := ((⟨code, 0, 0⟩ : T75), 5)) q105
 obtain ⟨r106, q107, h⟩ := bindE h
 have c107 : F43 [.agg [.sl 1 (rows ci_u8 r104.2.code_), .i .i64 r104.2.at_, .i .u64 r104.2.seed_], .i .i64 8] = some (.tup [.i .i64 r106.1, .agg [.sl 1 (rows ci_u8 r106.2.code_), .i .i64 r106.2.at_, .i .u64 r106.2.seed_]]) := tells_eq inj43 (a := (r104.2, 8)) q107
 obtain ⟨r108, q109, h⟩ := bindE h
 have c109 : F43 [.agg [.sl 1 (rows ci_u8 r106.2.code_), .i .i64 r106.2.at_, .i .u64 r106.2.seed_], .i .i64 25] = some (.tup [.i .i64 r108.1, .agg [.sl 1 (rows ci_u8 r108.2.code_), .i .i64 r108.2.at_, .i .u64 r108.2.seed_]]) := tells_eq inj43 (a := (r106.2, 25)) q109
 refine VL.evalM (CM := [(43, F43)]) 10 (tm 45 [(0, .ptr 3 0 0), (2, .ptr 4 0 0), (7, .i .i64 (aI .i64 1 r104.1)), (10, .i .i64 (aI .i64 5 r106.1)), (12, .i .i64 r108.1), (13, .ptr 3 0 0), (14, .ref 7 0 [0, 0, 10, 25, 50, 100].length)]) [some (7, [[.ref 1 0 0, .ref 2 0 0, .i .i64 0, .i .i64 0, .i .i64 0, .i .i64 0, .i .i64 0]]), some (1, rows ci_i64 []), some (1, rows ci_i64 []), some (3, [[.sl 1 (rows ci_u8 r108.2.code_), .i .i64 r108.2.at_, .i .u64 r108.2.seed_]]), some (7, [[.ref 5 0 0, .ref 6 0 0, .i .i64 0, .i .i64 0, .i .i64 0, .i .i64 0, .i .i64 0]]), some (1, rows ci_i64 []), some (1, rows ci_i64 []), some (1, rows ci_i64 [0, 0, 10, 25, 50, 100])] ((tm 6 [(2, .ptr 0 0 0), (4, .ptr 3 0 0)]) ++ []) hC ⟨ok43, trivial⟩ (by simp -implicitDefEqProofs [c105, c107, c109]) (VL.inlP 0 (tm 45 [(0, .ptr 3 0 0), (2, .ptr 4 0 0), (7, .i .i64 (aI .i64 1 r104.1)), (10, .i .i64 (aI .i64 5 r106.1)), (12, .i .i64 r108.1), (13, .ptr 3 0 0), (14, .ref 7 0 [0, 0, 10, 25, 50, 100].length)]) [some (7, [[.ref 1 0 0, .ref 2 0 0, .i .i64 0, .i .i64 0, .i .i64 0, .i .i64 0, .i .i64 0]]), some (1, rows ci_i64 []), some (1, rows ci_i64 []), some (3, [[.sl 1 (rows ci_u8 r108.2.code_), .i .i64 r108.2.at_, .i .u64 r108.2.seed_]]), some (7, [[.ref 5 0 0, .ref 6 0 0, .i .i64 0, .i .i64 0, .i .i64 0, .i .i64 0, .i .i64 0]]), some (1, rows ci_i64 []), some (1, rows ci_i64 []), some (1, rows ci_i64 [0, 0, 10, 25, 50, 100])] ((tm 6 [(2, .ptr 0 0 0), (4, .ptr 3 0 0)]) ++ []) rfl hC (by kernel_rfl) (by simp -implicitDefEqProofs) rfl rfl Try.func48 rfl rfl rfl rfl (tm_length) (VW.ent (s := (⟨(tm 12 [(0, .ptr 3 0 0), (1, .ref 7 0 [0, 0, 10, 25, 50, 100].length)]), [some (7, [[.ref 1 0 0, .ref 2 0 0, .i .i64 0, .i .i64 0, .i .i64 0, .i .i64 0, .i .i64 0]]), some (1, rows ci_i64 []), some (1, rows ci_i64 []), some (3, [[.sl 1 (rows ci_u8 r108.2.code_), .i .i64 r108.2.at_, .i .u64 r108.2.seed_]]), some (7, [[.ref 5 0 0, .ref 6 0 0, .i .i64 0, .i .i64 0, .i .i64 0, .i .i64 0, .i .i64 0]]), some (1, rows ci_i64 []), some (1, rows ci_i64 []), some (1, rows ci_i64 [0, 0, 10, 25, 50, 100])], ((tm 45 [(0, .ptr 3 0 0), (2, .ptr 4 0 0), (7, .i .i64 (aI .i64 1 r104.1)), (10, .i .i64 (aI .i64 5 r106.1)), (12, .i .i64 r108.1), (13, .ptr 3 0 0), (14, .ref 7 0 [0, 0, 10, 25, 50, 100].length)]) ++ ((tm 6 [(2, .ptr 0 0 0), (4, .ptr 3 0 0)]) ++ []))⟩ : VS)) (Ent.eqs (by rw [tm_init]; simp) rfl (by simp)) (VW.seq (VW.rA (tm 12 [(0, .ptr 3 0 0), (1, .ref 7 0 [0, 0, 10, 25, 50, 100].length)]) [some (7, [[.ref 1 0 0, .ref 2 0 0, .i .i64 0, .i .i64 0, .i .i64 0, .i .i64 0, .i .i64 0]]), some (1, rows ci_i64 []), some (1, rows ci_i64 []), some (3, [[.sl 1 (rows ci_u8 r108.2.code_), .i .i64 r108.2.at_, .i .u64 r108.2.seed_]]), some (7, [[.ref 5 0 0, .ref 6 0 0, .i .i64 0, .i .i64 0, .i .i64 0, .i .i64 0, .i .i64 0]]), some (1, rows ci_i64 []), some (1, rows ci_i64 []), some (1, rows ci_i64 [0, 0, 10, 25, 50, 100])] ((tm 45 [(0, .ptr 3 0 0), (2, .ptr 4 0 0), (7, .i .i64 (aI .i64 1 r104.1)), (10, .i .i64 (aI .i64 5 r106.1)), (12, .i .i64 r108.1), (13, .ptr 3 0 0), (14, .ref 7 0 [0, 0, 10, 25, 50, 100].length)]) ++ ((tm 6 [(2, .ptr 0 0 0), (4, .ptr 3 0 0)]) ++ [])) hC (VW.seq ?_)))))
 obtain ⟨r114, q115, h⟩ := bindE h
 have c115 : F43 [.agg [.sl 1 (rows ci_u8 r108.2.code_), .i .i64 r108.2.at_, .i .u64 r108.2.seed_], .i .i64 ([0, 0, 10, 25, 50, 100].length : Int)] = some (.tup [.i .i64 r114.1, .agg [.sl 1 (rows ci_u8 r114.2.code_), .i .i64 r114.2.at_, .i .u64 r114.2.seed_]]) := tells_eq inj43 (a := (r108.2, ([0, 0, 10, 25, 50, 100].length : Int))) q115
 simp only [List.length_cons, List.length_nil, Nat.reduceAdd, Nat.zero_add, Int.cast_ofNat_Int] at c115
 obtain ⟨e116, ⟨f117a, f117b, f117c, f117d⟩, h⟩ := bindI h
 have f117e := row_at (c := ci_i64) f117d
 simp only [rows_cons, rows_nil, ci_i64] at f117e
 try simp only [List.length_cons, List.length_nil, Nat.reduceAdd, Nat.zero_add, Int.cast_ofNat_Int] at f117a f117b f117c f117d
 refine VW.evalM (CM := [(43, F43)]) (tm 12 [(4, .i .i64 e116)]) [some (7, [[.ref 1 0 0, .ref 2 0 0, .i .i64 0, .i .i64 0, .i .i64 0, .i .i64 0, .i .i64 0]]), some (1, rows ci_i64 []), some (1, rows ci_i64 []), some (3, [[.sl 1 (rows ci_u8 r114.2.code_), .i .i64 r114.2.at_, .i .u64 r114.2.seed_]]), some (7, [[.ref 5 0 0, .ref 6 0 0, .i .i64 0, .i .i64 0, .i .i64 0, .i .i64 0, .i .i64 0]]), some (1, rows ci_i64 []), some (1, rows ci_i64 []), some (1, rows ci_i64 [0, 0, 10, 25, 50, 100])] ((tm 45 [(0, .ptr 3 0 0), (2, .ptr 4 0 0), (7, .i .i64 (aI .i64 1 r104.1)), (10, .i .i64 (aI .i64 5 r106.1)), (12, .i .i64 r108.1), (13, .ptr 3 0 0), (14, .ref 7 0 [0, 0, 10, 25, 50, 100].length)]) ++ ((tm 6 [(2, .ptr 0 0 0), (4, .ptr 3 0 0)]) ++ [])) hC ⟨ok43, trivial⟩ (by simp -implicitDefEqProofs [c115, f117a, f117b, f117c, f117d, f117e]) (VW.ret (VIn.ret (v := .i .i64 e116) (by simp) (VL.evalP (tm 45 [(0, .ptr 3 0 0), (2, .ptr 4 0 0), (3, .ptr 8 0 0)]) [some (7, [[.ref 1 0 0, .ref 2 0 0, .i .i64 0, .i .i64 0, .i .i64 0, .i .i64 0, .i .i64 0]]), some (1, rows ci_i64 []), some (1, rows ci_i64 []), some (3, [[.sl 1 (rows ci_u8 r114.2.code_), .i .i64 r114.2.at_, .i .u64 r114.2.seed_]]), some (7, [[.ref 5 0 0, .ref 6 0 0, .i .i64 0, .i .i64 0, .i .i64 0, .i .i64 0, .i .i64 0]]), some (1, rows ci_i64 []), some (1, rows ci_i64 []), some (1, rows ci_i64 [0, 0, 10, 25, 50, 100]), some (7, [[.nil, .nil, .i .i64 (aI .i64 1 r104.1), .i .i64 (aI .i64 5 r106.1), .i .i64 r108.1, .i .i64 0, .i .i64 e116]])] ((tm 6 [(2, .ptr 0 0 0), (4, .ptr 3 0 0)]) ++ []) hC (by kernel_rfl) (by simp -implicitDefEqProofs) (VW.seq ?_))))
 obtain ⟨r118, q119, h⟩ := bindE h
 have c119 : F43 [.agg [.sl 1 (rows ci_u8 r114.2.code_), .i .i64 r114.2.at_, .i .u64 r114.2.seed_], .i .i64 (aI .i64 r108.1 1)] = some (.tup [.i .i64 r118.1, .agg [.sl 1 (rows ci_u8 r118.2.code_), .i .i64 r118.2.at_, .i .u64 r118.2.seed_]]) := tells_eq inj43 (a := (r114.2, aI .i64 r108.1 1)) q119
 refine VW.evalM (CM := [(43, F43)]) (tm 45 [(0, .ptr 3 0 0), (2, .ptr 4 0 0), (3, .ptr 8 0 0)]) [some (7, [[.ref 1 0 0, .ref 2 0 0, .i .i64 0, .i .i64 0, .i .i64 0, .i .i64 0, .i .i64 0]]), some (1, rows ci_i64 []), some (1, rows ci_i64 []), some (3, [[.sl 1 (rows ci_u8 r118.2.code_), .i .i64 r118.2.at_, .i .u64 r118.2.seed_]]), some (7, [[.ref 5 0 0, .ref 6 0 0, .i .i64 0, .i .i64 0, .i .i64 0, .i .i64 0, .i .i64 0]]), some (1, rows ci_i64 []), some (1, rows ci_i64 []), some (1, rows ci_i64 [0, 0, 10, 25, 50, 100]), some (7, [[.nil, .nil, .i .i64 (aI .i64 1 r104.1), .i .i64 (aI .i64 5 r106.1), .i .i64 r108.1, .i .i64 r118.1, .i .i64 e116]])] ((tm 6 [(2, .ptr 0 0 0), (4, .ptr 3 0 0)]) ++ []) hC ⟨ok43, trivial⟩ (by simp -implicitDefEqProofs [c119]) (VW.ent (Ent.nilref (m := [some (7, [[.ref 1 0 0, .ref 2 0 0, .i .i64 0, .i .i64 0, .i .i64 0, .i .i64 0, .i .i64 0]]), some (1, rows ci_i64 []), some (1, rows ci_i64 []), some (3, [[.sl 1 (rows ci_u8 r118.2.code_), .i .i64 r118.2.at_, .i .u64 r118.2.seed_]]), some (7, [[.ref 5 0 0, .ref 6 0 0, .i .i64 0, .i .i64 0, .i .i64 0, .i .i64 0, .i .i64 0]]), some (1, rows ci_i64 []), some (1, rows ci_i64 []), some (1, rows ci_i64 [0, 0, 10, 25, 50, 100]), some (7, [[.nil, .nil, .i .i64 (aI .i64 1 r104.1), .i .i64 (aI .i64 5 r106.1), .i .i64 r108.1, .i .i64 r118.1, .i .i64 e116]])]) 8 1 [some (7, [[.ref 1 0 0, .ref 2 0 0, .i .i64 0, .i .i64 0, .i .i64 0, .i .i64 0, .i .i64 0]]), some (1, rows ci_i64 []), some (1, rows ci_i64 []), some (3, [[.sl 1 (rows ci_u8 r118.2.code_), .i .i64 r118.2.at_, .i .u64 r118.2.seed_]]), some (7, [[.ref 5 0 0, .ref 6 0 0, .i .i64 0, .i .i64 0, .i .i64 0, .i .i64 0, .i .i64 0]]), some (1, rows ci_i64 []), some (1, rows ci_i64 []), some (1, rows ci_i64 [0, 0, 10, 25, 50, 100]), some (7, [[.ref 9 0 0, .nil, .i .i64 (aI .i64 1 r104.1), .i .i64 (aI .i64 5 r106.1), .i .i64 r108.1, .i .i64 r118.1, .i .i64 e116]]), some (1, rows ci_i64 [])] rfl (by simp) rfl) (VW.ent (Ent.nilref (m := [some (7, [[.ref 1 0 0, .ref 2 0 0, .i .i64 0, .i .i64 0, .i .i64 0, .i .i64 0, .i .i64 0]]), some (1, rows ci_i64 []), some (1, rows ci_i64 []), some (3, [[.sl 1 (rows ci_u8 r118.2.code_), .i .i64 r118.2.at_, .i .u64 r118.2.seed_]]), some (7, [[.ref 5 0 0, .ref 6 0 0, .i .i64 0, .i .i64 0, .i .i64 0, .i .i64 0, .i .i64 0]]), some (1, rows ci_i64 []), some (1, rows ci_i64 []), some (1, rows ci_i64 [0, 0, 10, 25, 50, 100]), some (7, [[.ref 9 0 0, .nil, .i .i64 (aI .i64 1 r104.1), .i .i64 (aI .i64 5 r106.1), .i .i64 r108.1, .i .i64 r118.1, .i .i64 e116]]), some (1, rows ci_i64 [])]) 8 1 [some (7, [[.ref 1 0 0, .ref 2 0 0, .i .i64 0, .i .i64 0, .i .i64 0, .i .i64 0, .i .i64 0]]), some (1, rows ci_i64 []), some (1, rows ci_i64 []), some (3, [[.sl 1 (rows ci_u8 r118.2.code_), .i .i64 r118.2.at_, .i .u64 r118.2.seed_]]), some (7, [[.ref 5 0 0, .ref 6 0 0, .i .i64 0, .i .i64 0, .i .i64 0, .i .i64 0, .i .i64 0]]), some (1, rows ci_i64 []), some (1, rows ci_i64 []), some (1, rows ci_i64 [0, 0, 10, 25, 50, 100]), some (7, [[.ref 9 0 0, .ref 10 0 0, .i .i64 (aI .i64 1 r104.1), .i .i64 (aI .i64 5 r106.1), .i .i64 r108.1, .i .i64 r118.1, .i .i64 e116]]), some (1, rows ci_i64 []), some (1, rows ci_i64 [])] rfl (by simp) rfl) (VW.join (fun (v : (List Int) × Int × Int × (List Int) × (List Int)) => (⟨(tm 45 [(2, .ptr 4 0 0), (3, .ptr 8 0 0)]), [some (7, [[.ref 1 0 0, .ref 2 0 0, .i .i64 0, .i .i64 0, .i .i64 0, .i .i64 0, .i .i64 0]]), some (1, rows ci_i64 []), some (1, rows ci_i64 []), some (3, [[.sl 1 (rows ci_u8 v.1), .i .i64 v.2.1, .i .u64 v.2.2.1]]), some (7, [[.ref 5 0 0, .ref 6 0 0, .i .i64 0, .i .i64 0, .i .i64 0, .i .i64 0, .i .i64 0]]), some (1, rows ci_i64 []), some (1, rows ci_i64 []), some (1, rows ci_i64 [0, 0, 10, 25, 50, 100]), some (7, [[.ref 9 0 v.2.2.2.1.length, .ref 10 0 v.2.2.2.2.length, .i .i64 (aI .i64 1 r104.1), .i .i64 (aI .i64 5 r106.1), .i .i64 r108.1, .i .i64 r118.1, .i .i64 e116]]), some (1, rows ci_i64 v.2.2.2.1), some (1, rows ci_i64 v.2.2.2.2)], ((tm 6 [(2, .ptr 0 0 0), (4, .ptr 3 0 0)]) ++ [])⟩ : VS)) (fun v => (g15_j1 r104 r106 r108 r118 e116 (v.1) (v.2.1) (v.2.2.1) (v.2.2.2.1) (v.2.2.2.2)).bind some = some r) ?_ ?_)))
 · refine VW.seq ?_
   obtain ⟨r166, q167, h⟩ := bindE h
   have c167 : F43 [.agg [.sl 1 (rows ci_u8 r118.2.code_), .i .i64 r118.2.at_, .i .u64 r118.2.seed_], .i .i64 5] = some (.tup [.i .i64 r166.1, .agg [.sl 1 (rows ci_u8 r166.2.code_), .i .i64 r166.2.at_, .i .u64 r166.2.seed_]]) := tells_eq inj43 (a := (r118.2, 5)) q167
   refine VW.evalM (CM := [(43, F43)]) (tm 45 [(0, .ptr 3 0 0), (2, .ptr 4 0 0), (3, .ptr 8 0 0), (4, .i .i64 (aI .i64 1 r166.1))]) [some (7, [[.ref 1 0 0, .ref 2 0 0, .i .i64 0, .i .i64 0, .i .i64 0, .i .i64 0, .i .i64 0]]), some (1, rows ci_i64 []), some (1, rows ci_i64 []), some (3, [[.sl 1 (rows ci_u8 r166.2.code_), .i .i64 r166.2.at_, .i .u64 r166.2.seed_]]), some (7, [[.ref 5 0 0, .ref 6 0 0, .i .i64 0, .i .i64 0, .i .i64 0, .i .i64 0, .i .i64 0]]), some (1, rows ci_i64 []), some (1, rows ci_i64 []), some (1, rows ci_i64 [0, 0, 10, 25, 50, 100]), some (7, [[.ref 9 0 0, .ref 10 0 0, .i .i64 (aI .i64 1 r104.1), .i .i64 (aI .i64 5 r106.1), .i .i64 r108.1, .i .i64 r118.1, .i .i64 e116]]), some (1, rows ci_i64 []), some (1, rows ci_i64 [])] ((tm 6 [(2, .ptr 0 0 0), (4, .ptr 3 0 0)]) ++ []) hC ⟨ok43, trivial⟩ (by simp -implicitDefEqProofs [c167]) (VW.block ?_)
   obtain ⟨w_1, hw_1, h⟩ := bindE h
   refine VW.loopO (fun (x : Int × (List Int) × Int × Int × (List Int) × (List Int)) => (⟨(tm 45 [(0, .ptr 3 0 0), (2, .ptr 4 0 0), (3, .ptr 8 0 0), (4, .i .i64 x.1)]), [some (7, [[.ref 1 0 0, .ref 2 0 0, .i .i64 0, .i .i64 0, .i .i64 0, .i .i64 0, .i .i64 0]]), some (1, rows ci_i64 []), some (1, rows ci_i64 []), some (3, [[.sl 1 (rows ci_u8 x.2.1), .i .i64 x.2.2.1, .i .u64 x.2.2.2.1]]), some (7, [[.ref 5 0 0, .ref 6 0 0, .i .i64 0, .i .i64 0, .i .i64 0, .i .i64 0, .i .i64 0]]), some (1, rows ci_i64 []), some (1, rows ci_i64 []), some (1, rows ci_i64 [0, 0, 10, 25, 50, 100]), some (7, [[.ref 9 0 x.2.2.2.2.1.length, .ref 10 0 x.2.2.2.2.2.length, .i .i64 (aI .i64 1 r104.1), .i .i64 (aI .i64 5 r106.1), .i .i64 r108.1, .i .i64 r118.1, .i .i64 e116]]), some (1, rows ci_i64 x.2.2.2.2.1), some (1, rows ci_i64 x.2.2.2.2.2)], ((tm 6 [(2, .ptr 0 0 0), (4, .ptr 3 0 0)]) ++ [])⟩ : VS)) hw_1 (Ent.tu 11) ?_
   rintro n_1 ⟨k_192, y193, y194, y195, l196, l197⟩ h1
   rw [g15_L1] at h1
   refine VW.seq (VW.seq (VW.rA (tm 45 [(0, .ptr 3 0 0), (2, .ptr 4 0 0), (3, .ptr 8 0 0), (4, .i .i64 k_192), (27, .b (ltI 0 k_192))]) [some (7, [[.ref 1 0 0, .ref 2 0 0, .i .i64 0, .i .i64 0, .i .i64 0, .i .i64 0, .i .i64 0]]), some (1, rows ci_i64 []), some (1, rows ci_i64 []), some (3, [[.sl 1 (rows ci_u8 y193), .i .i64 y194, .i .u64 y195]]), some (7, [[.ref 5 0 0, .ref 6 0 0, .i .i64 0, .i .i64 0, .i .i64 0, .i .i64 0, .i .i64 0]]), some (1, rows ci_i64 []), some (1, rows ci_i64 []), some (1, rows ci_i64 [0, 0, 10, 25, 50, 100]), some (7, [[.ref 9 0 l196.length, .ref 10 0 l197.length, .i .i64 (aI .i64 1 r104.1), .i .i64 (aI .i64 5 r106.1), .i .i64 r108.1, .i .i64 r118.1, .i .i64 e116]]), some (1, rows ci_i64 l196), some (1, rows ci_i64 l197)] ((tm 6 [(2, .ptr 0 0 0), (4, .ptr 3 0 0)]) ++ []) hC (VW.condJ h1 (fun h1 => ?_) (fun h1 => ?_))))
   · refine VW.exit ?_
     have e_ := leafR h1
     subst w_1
     exact vnext (y193, y194, y195, l196, l197) h (Ent.tu 11)
   refine VW.skip (VW.seq (VW.block (VW.seq ?_)))
   obtain ⟨r199, q200, h1⟩ := bindE h1
   have c200 : F43 [.agg [.sl 1 (rows ci_u8 y193), .i .i64 y194, .i .u64 y195], .i .i64 30] = some (.tup [.i .i64 r199.1, .agg [.sl 1 (rows ci_u8 r199.2.code_), .i .i64 r199.2.at_, .i .u64 r199.2.seed_]]) := tells_eq inj43 (a := ((⟨y193, y194, y195⟩ : T75), 30)) q200
   obtain ⟨u201, ⟨f202a, f202b⟩, h1⟩ := bindP h1
   try simp only [Int.toNat_natCast, Int.reduceToNat, List.length_cons, List.length_nil, Nat.reduceAdd, Nat.zero_add] at f202a f202b
   refine VW.evalMA (CM := [(43, F43)]) [[0, 1, 2, 3, 4, 5, 6, 7], [0, 2, 1, 3, 4, 5, 6, 7], [0, 2, 3, 1, 4, 5, 6, 7], [0, 2, 3, 4, 1, 5, 6, 7], [2, 0, 1, 3, 4, 5, 6, 7], [2, 0, 3, 1, 4, 5, 6, 7], [2, 0, 3, 4, 1, 5, 6, 7], [2, 3, 0, 1, 4, 5, 6, 7], [2, 3, 0, 4, 1, 5, 6, 7], [2, 3, 4, 0, 1, 5, 6, 7]] (tm 45 [(0, .ptr 3 0 0), (2, .ptr 4 0 0), (3, .ptr 8 0 0), (4, .i .i64 k_192)]) [some (7, [[.ref 1 0 0, .ref 2 0 0, .i .i64 0, .i .i64 0, .i .i64 0, .i .i64 0, .i .i64 0]]), some (1, rows ci_i64 []), some (1, rows ci_i64 []), some (3, [[.sl 1 (rows ci_u8 r199.2.code_), .i .i64 r199.2.at_, .i .u64 r199.2.seed_]]), some (7, [[.ref 5 0 0, .ref 6 0 0, .i .i64 0, .i .i64 0, .i .i64 0, .i .i64 0, .i .i64 0]]), some (1, rows ci_i64 []), some (1, rows ci_i64 []), some (1, rows ci_i64 [0, 0, 10, 25, 50, 100]), some (7, [[.ref 9 0 (l196 ++ [r199.1]).length, .ref 10 0 l197.length, .i .i64 (aI .i64 1 r104.1), .i .i64 (aI .i64 5 r106.1), .i .i64 r108.1, .i .i64 r118.1, .i .i64 e116]]), some (1, rows ci_i64 (l196 ++ [r199.1])), some (1, rows ci_i64 l197), some (1, rows ci_i64 [r199.1])] ((tm 6 [(2, .ptr 0 0 0), (4, .ptr 3 0 0)]) ++ []) hC ⟨ok43, trivial⟩ mixed (by kernel_rfl) (by simp -implicitDefEqProofs [c200, f202a, f202b]) ?_
   obtain ⟨r203, q204, h1⟩ := bindE h1
   have c204 : F43 [.agg [.sl 1 (rows ci_u8 r199.2.code_), .i .i64 r199.2.at_, .i .u64 r199.2.seed_], .i .i64 7] = some (.tup [.i .i64 r203.1, .agg [.sl 1 (rows ci_u8 r203.2.code_), .i .i64 r203.2.at_, .i .u64 r203.2.seed_]]) := tells_eq inj43 (a := (r199.2, 7)) q204
   obtain ⟨u205, ⟨f206a, f206b⟩, h1⟩ := bindP h1
   try simp only [Int.toNat_natCast, Int.reduceToNat, List.length_cons, List.length_nil, Nat.reduceAdd, Nat.zero_add] at f206a f206b
   exact VW.evalMA (CM := [(43, F43)]) [[0, 1, 2, 3, 4, 5, 6, 7], [0, 2, 1, 3, 4, 5, 6, 7], [0, 2, 3, 1, 4, 5, 6, 7], [0, 2, 3, 4, 1, 5, 6, 7], [2, 0, 1, 3, 4, 5, 6, 7], [2, 0, 3, 1, 4, 5, 6, 7], [2, 0, 3, 4, 1, 5, 6, 7], [2, 3, 0, 1, 4, 5, 6, 7], [2, 3, 0, 4, 1, 5, 6, 7], [2, 3, 4, 0, 1, 5, 6, 7]] (tm 45 [(0, .ptr 3 0 0), (2, .ptr 4 0 0), (3, .ptr 8 0 0), (4, .i .i64 k_192)]) [some (7, [[.ref 1 0 0, .ref 2 0 0, .i .i64 0, .i .i64 0, .i .i64 0, .i .i64 0, .i .i64 0]]), some (1, rows ci_i64 []), some (1, rows ci_i64 []), some (3, [[.sl 1 (rows ci_u8 r203.2.code_), .i .i64 r203.2.at_, .i .u64 r203.2.seed_]]), some (7, [[.ref 5 0 0, .ref 6 0 0, .i .i64 0, .i .i64 0, .i .i64 0, .i .i64 0, .i .i64 0]]), some (1, rows ci_i64 []), some (1, rows ci_i64 []), some (1, rows ci_i64 [0, 0, 10, 25, 50, 100]), some (7, [[.ref 9 0 (l196 ++ [r199.1]).length, .ref 10 0 (l197 ++ [r203.1]).length, .i .i64 (aI .i64 1 r104.1), .i .i64 (aI .i64 5 r106.1), .i .i64 r108.1, .i .i64 r118.1, .i .i64 e116]]), some (1, rows ci_i64 (l196 ++ [r199.1])), some (1, rows ci_i64 (l197 ++ [r203.1])), some (1, rows ci_i64 [r199.1]), some (1, rows ci_i64 [r203.1])] ((tm 6 [(2, .ptr 0 0 0), (4, .ptr 3 0 0)]) ++ []) hC ⟨ok43, trivial⟩ mixed (by kernel_rfl) (by simp -implicitDefEqProofs [c204, f206a, f206b]) (VW.rA (tm 45 [(0, .ptr 3 0 0), (2, .ptr 4 0 0), (3, .ptr 8 0 0), (4, .i .i64 (sI .i64 k_192 1))]) [some (7, [[.ref 1 0 0, .ref 2 0 0, .i .i64 0, .i .i64 0, .i .i64 0, .i .i64 0, .i .i64 0]]), some (1, rows ci_i64 []), some (1, rows ci_i64 []), some (3, [[.sl 1 (rows ci_u8 r203.2.code_), .i .i64 r203.2.at_, .i .u64 r203.2.seed_]]), some (7, [[.ref 5 0 0, .ref 6 0 0, .i .i64 0, .i .i64 0, .i .i64 0, .i .i64 0, .i .i64 0]]), some (1, rows ci_i64 []), some (1, rows ci_i64 []), some (1, rows ci_i64 [0, 0, 10, 25, 50, 100]), some (7, [[.ref 9 0 (l196 ++ [r199.1]).length, .ref 10 0 (l197 ++ [r203.1]).length, .i .i64 (aI .i64 1 r104.1), .i .i64 (aI .i64 5 r106.1), .i .i64 r108.1, .i .i64 r118.1, .i .i64 e116]]), some (1, rows ci_i64 (l196 ++ [r199.1])), some (1, rows ci_i64 (l197 ++ [r203.1])), some (1, rows ci_i64 [r199.1]), some (1, rows ci_i64 [r203.1])] ((tm 6 [(2, .ptr 0 0 0), (4, .ptr 3 0 0)]) ++ []) hC (vnext (sI .i64 k_192 1, r203.2.code_, r203.2.at_, r203.2.seed_, (l196 ++ [r199.1]), (l197 ++ [r203.1])) (leafL h1) (Ent.tu 11)))
 rintro ⟨y161, y162, y163, l164, l165⟩ h
 replace h : (g15_j1 r104 r106 r108 r118 e116 y161 y162 y163 l164 l165).bind _ = _ := h
 rw [g15_j1] at h
 refine VW.seq (VW.rA (tm 45 [(2, .ptr 4 0 0)]) [some (7, [[.ref 1 0 0, .ref 2 0 0, .i .i64 0, .i .i64 0, .i .i64 0, .i .i64 0, .i .i64 0]]), some (1, rows ci_i64 []), some (1, rows ci_i64 []), some (3, [[.sl 1 (rows ci_u8 y161), .i .i64 y162, .i .u64 y163]]), some (7, [[.ref 9 0 l164.length, .ref 10 0 l165.length, .i .i64 (aI .i64 1 r104.1), .i .i64 (aI .i64 5 r106.1), .i .i64 r108.1, .i .i64 r118.1, .i .i64 e116]]), some (1, rows ci_i64 []), some (1, rows ci_i64 []), some (1, rows ci_i64 [0, 0, 10, 25, 50, 100]), some (7, [[.ref 9 0 l164.length, .ref 10 0 l165.length, .i .i64 (aI .i64 1 r104.1), .i .i64 (aI .i64 5 r106.1), .i .i64 r108.1, .i .i64 r118.1, .i .i64 e116]]), some (1, rows ci_i64 l164), some (1, rows ci_i64 l165)] ((tm 6 [(2, .ptr 0 0 0), (4, .ptr 3 0 0)]) ++ []) hC (VW.ret (VIn.ret (v := .agg [.ref 9 0 l164.length, .ref 10 0 l165.length, .i .i64 (aI .i64 1 r104.1), .i .i64 (aI .i64 5 r106.1), .i .i64 r108.1, .i .i64 r118.1, .i .i64 e116]) (by simp) (VL.evalP (tm 6 [(2, .ptr 0 0 0)]) [some (7, [[.ref 9 0 l164.length, .ref 10 0 l165.length, .i .i64 (aI .i64 1 r104.1), .i .i64 (aI .i64 5 r106.1), .i .i64 r108.1, .i .i64 r118.1, .i .i64 e116]]), some (1, rows ci_i64 []), some (1, rows ci_i64 []), some (3, [[.sl 1 (rows ci_u8 y161), .i .i64 y162, .i .u64 y163]]), some (7, [[.ref 9 0 l164.length, .ref 10 0 l165.length, .i .i64 (aI .i64 1 r104.1), .i .i64 (aI .i64 5 r106.1), .i .i64 r108.1, .i .i64 r118.1, .i .i64 e116]]), some (1, rows ci_i64 []), some (1, rows ci_i64 []), some (1, rows ci_i64 [0, 0, 10, 25, 50, 100]), some (7, [[.ref 9 0 l164.length, .ref 10 0 l165.length, .i .i64 (aI .i64 1 r104.1), .i .i64 (aI .i64 5 r106.1), .i .i64 r108.1, .i .i64 r118.1, .i .i64 e116]]), some (1, rows ci_i64 l164), some (1, rows ci_i64 l165)] [] hC (by kernel_rfl) (by simp -implicitDefEqProofs) ?_))))
 obtain rfl := leafS h
 exact VW.ret (VRet.fin (by simp [eB15]))
theorem tl15 {code : List Int} {r : T23} (h : g15 code = some r) : F15 [.sl 1 (rows ci_u8 code)] = some (.agg [.own 1 (rows ci_i64 r.need_), .own 1 (rows ci_i64 r.price_), .i .i64 r.most_, .i .i64 r.yield_, .i .i64 r.store_, .i .i64 r.first_, .i .i64 r.loss_]) := tells_eq inj15 (a := code) h
noncomputable def g16_j1 (r4 : List (List Int)) (s : T23) (l560 : List Int) : Option ((List Int) × Int × Int) :=
(idx r4 0).bind fun e561 =>
(idx e561 s.first_).bind fun e563 =>
some (l560, e563, 0)
noncomputable def g16_j2 (x_931 : Int) (store_1023 : Int) (l1024 : List Int) : Option ((Int × Int × (List Int)) ⊕ (List Int)) :=
some (.inl (store_1023, aI .i64 x_931 1, l1024))
noncomputable def g16_L2 (s : T23) (x_931 : Int) (store_930 : Int) (r4 : List (List Int)) (l932 : List Int) : (Int) → Option ((Int) ⊕ (Int × (List Int)))
| x_1084 =>
if ltI x_1084 (aI .i64 s.most_ 1) = true then
(g37 s x_931 store_930 x_1084).bind fun r1086 =>
(if r1086.2 = true then (idx r4 (aI .i64 x_931 1)).bind fun e1088 => (idx e1088 r1086.1).bind fun e1090 => some (!eqI e1090 (-1)) else some false).bind fun w1092 =>
(if w1092 = true then (idx s.price_ x_931).bind fun e1093 => (idx r4 (aI .i64 x_931 1)).bind fun e1095 => (idx e1095 r1086.1).bind fun e1097 => (idx r4 x_931).bind fun e1099 => (idx e1099 store_930).bind fun e1101 => some (eqI (aI .i64 (mI .i64 e1093 x_1084) e1097) e1101) else some false).bind fun w1103 =>
if w1103 = true then
(appK 8 l932 [x_1084]).bind fun u1105 =>
some (.inr (r1086.1, (l932 ++ [x_1084])))
else
some (.inl (aI .i64 x_1084 1))
else
some (.inr (store_930, l932))
noncomputable def g16_L1 (s : T23) (r4 : List (List Int)) : (Int × Int × (List Int)) → Option ((Int × Int × (List Int)) ⊕ (List Int))
| (store_930, x_931, l932) =>
if ltI x_931 (s.need_.length : Int) = true then
(loopO (g16_L2 s x_931 store_930 r4 l932) 0).bind fun w => g16_j2 x_931 w.1 w.2
else
some (.inr l932)
noncomputable def g16 (s : T23) : Option ((List Int) × Int × Int) :=
(g30 s).bind fun r1 =>
if (!r1) = true then
some ([], 0, 1)
else
(g31 s).bind fun r4 =>
(idx r4 0).bind fun e6 =>
(idx e6 s.first_).bind fun e8 =>
if eqI e8 (-1) = true then
some ([], 0, 6)
else
(loopO (g16_L1 s r4) (s.first_, 0, [])).bind fun w => g16_j1 r4 s w
def eA16 (a : T23) : List V := [.agg (pT23 a)]
def eB16 (r : (List Int) × Int × Int) : V := .tup [.own 1 (rows ci_i64 r.1), .i .i64 r.2.1, .i .i64 r.2.2]
theorem inj16 (a a' : T23) (h : eA16 a = eA16 a') : a = a' := by
  obtain ⟨i173, i174, i175, i176, i177, i178, i179⟩ := a
  obtain ⟨i180, i181, i182, i183, i184, i185, i186⟩ := a'
  simp only [eA16, pT23, List.cons.injEq, V.i.injEq, V.b.injEq, V.f.injEq, V.str.injEq, V.sl.injEq, V.agg.injEq, V.cptr.injEq, true_and, and_true] at h
  simp_all [ri ci_i64_inj]
noncomputable def F16 : List V → Option V := tells (fun a => g16 a) eA16 eB16
/- loop.example/g01229/impl.BestPlan -/
theorem ok16 : Tells Try.prog 16 F16 := by
 refine Tells.go 101 Try.func16 rfl rfl rfl (by kernel_rfl) (fun _ => rfl) ?_
 rintro s r h
 simp only [eA16, en, Nat.reduceAdd]
 replace h : (g16 s).bind some = some r := bindS h
 rw [g16] at h
 have hC : CEnv.Ok Try.prog [(30, F30), (31, F31), (37, F37)] := ⟨.inl ok30, .inl ok31, .inl ok37, trivial⟩
 refine VW.seq (VW.rA (tm 101 [(1, .ptr 0 0 0)]) [some (7, [(pT23 s)])] [] hC (VW.seq (VW.seq ?_)))
 obtain ⟨r1, q2, h⟩ := bindE h
 have c2 : F30 [.agg (pT23 s)] = some (.b r1) := tells_eq inj30 (a := s) q2
 refine VW.rA (tm 101 [(1, .ptr 0 0 0), (14, .b (!r1))]) [some (7, [(pT23 s)])] [] hC (VW.condI h (fun h => ?_) (fun h => ?_)) (h := by simp -implicitDefEqProofs [c2])
 · refine VW.seq (VW.rA (tm 101 [(2, .nil), (3, .i .i64 0), (4, .i .i64 1)]) [some (7, [(pT23 s)])] [] hC ?_)
   obtain rfl := leafS h
   exact VW.ret (VRet.fin (by simp [eB16]))
 refine VW.skip (VW.seq ?_)
 obtain ⟨r4, q5, h⟩ := bindE h
 have c5 : F31 [.agg (pT23 s)] = some (.own 1 (rows cl_ci_i64o r4)) := tells_eq inj31 (a := s) q5
 refine VW.rA (tm 101 [(1, .ptr 0 0 0), (5, .ref 1 0 r4.length)]) [some (7, [(pT23 s)]), some (1, rows cl_ci_i64o r4)] [] hC (VW.seq (VW.seq ?_)) (h := by simp -implicitDefEqProofs [c5])
 obtain ⟨e6, ⟨f7a, f7b, f7c, f7d⟩, h⟩ := bindI h
 try simp only [Int.toNat_natCast, Int.reduceToNat] at f7a f7b f7c f7d
 obtain ⟨e8, ⟨f9a, f9b, f9c, f9d⟩, h⟩ := bindI h
 refine VW.rD (tm 101 [(1, .ptr 0 0 0), (5, .ref 1 0 r4.length), (24, .b (eqI e8 (-1)))]) [some (7, [(pT23 s)]), some (1, rows cl_ci_i64o r4)] [] hC mixed (VW.condI h (fun h => ?_) (fun h => ?_)) (h := by simp -implicitDefEqProofs [f7a, f7b, f7c, f7d, f9a, f9b, f9c, f9d])
 · refine VW.seq (VW.rA (tm 101 [(2, .nil), (3, .i .i64 0), (4, .i .i64 6)]) [some (7, [(pT23 s)]), some (1, rows cl_ci_i64o r4)] [] hC ?_)
   obtain rfl := leafS h
   exact VW.ret (VRet.fin (by simp [eB16]))
 refine VW.skip (VW.seq (VW.rD (tm 101 [(1, .ptr 0 0 0), (5, .ref 1 0 r4.length), (6, .ref 2 0 0), (7, .i .i64 s.first_)]) [some (7, [(pT23 s)]), some (1, rows cl_ci_i64o r4), some (1, rows ci_i64 [])] [] hC mixed (VW.join (fun (v : List Int) => (⟨(tm 101 [(1, .ptr 0 0 0), (5, .ref 1 0 r4.length), (6, .ref 2 0 v.length)]), [some (7, [(pT23 s)]), some (1, rows cl_ci_i64o r4), some (1, rows ci_i64 v)], []⟩ : VS)) (fun v => (g16_j1 r4 s (v)).bind some = some r) ?_ ?_)))
 · refine VW.seq (VW.rA (tm 101 [(1, .ptr 0 0 0), (5, .ref 1 0 r4.length), (6, .ref 2 0 0), (7, .i .i64 s.first_), (30, .i .i64 (s.need_.length : Int)), (31, .i .i64 0)]) [some (7, [(pT23 s)]), some (1, rows cl_ci_i64o r4), some (1, rows ci_i64 [])] [] hC (VW.block ?_))
   obtain ⟨w_1, hw_1, h⟩ := bindE h
   refine VW.loopO (fun (x : Int × Int × (List Int)) => (⟨(tm 101 [(1, .ptr 0 0 0), (5, .ref 1 0 r4.length), (6, .ref 2 0 x.2.2.length), (7, .i .i64 x.1), (30, .i .i64 (s.need_.length : Int)), (31, .i .i64 x.2.1)]), [some (7, [(pT23 s)]), some (1, rows cl_ci_i64o r4), some (1, rows ci_i64 x.2.2)], []⟩ : VS)) hw_1 (Ent.tu 3) ?_
   rintro n_1 ⟨store_930, x_931, l932⟩ h1
   rw [g16_L1] at h1
   refine VW.seq (VW.rA (tm 101 [(1, .ptr 0 0 0), (5, .ref 1 0 r4.length), (6, .ref 2 0 l932.length), (7, .i .i64 store_930), (30, .i .i64 (s.need_.length : Int)), (31, .i .i64 x_931), (32, .b (ltI x_931 (s.need_.length : Int)))]) [some (7, [(pT23 s)]), some (1, rows cl_ci_i64o r4), some (1, rows ci_i64 l932)] [] hC (VW.seq (VW.condJ h1 (fun h1 => ?_) (fun h1 => ?_))))
   · refine VW.exit ?_
     have e_ := leafR h1
     subst w_1
     exact vnext l932 h (Ent.tu 3)
   refine VW.skip (VW.join (fun (v : Int × (List Int)) => (⟨(tm 101 [(1, .ptr 0 0 0), (5, .ref 1 0 r4.length), (6, .ref 2 0 v.2.length), (7, .i .i64 v.1), (30, .i .i64 (s.need_.length : Int)), (31, .i .i64 x_931)]), [some (7, [(pT23 s)]), some (1, rows cl_ci_i64o r4), some (1, rows ci_i64 v.2)], []⟩ : VS)) (fun v => (g16_j2 x_931 (v.1) (v.2)).bind (kN (g16_L1 s r4) n_1) = some w_1) ?_ ?_)
   · refine VW.block (VW.seq (VW.rA (tm 101 [(1, .ptr 0 0 0), (5, .ref 1 0 r4.length), (6, .ref 2 0 l932.length), (7, .i .i64 store_930), (8, .i .i64 x_931), (30, .i .i64 (s.need_.length : Int)), (31, .i .i64 x_931)]) [some (7, [(pT23 s)]), some (1, rows cl_ci_i64o r4), some (1, rows ci_i64 l932)] [] hC (VW.seq (VW.rA (tm 101 [(1, .ptr 0 0 0), (5, .ref 1 0 r4.length), (6, .ref 2 0 l932.length), (7, .i .i64 store_930), (8, .i .i64 x_931), (30, .i .i64 (s.need_.length : Int)), (31, .i .i64 x_931), (36, .i .i64 (aI .i64 s.most_ 1)), (37, .i .i64 0)]) [some (7, [(pT23 s)]), some (1, rows cl_ci_i64o r4), some (1, rows ci_i64 l932)] [] hC (VW.block ?_)))))
     obtain ⟨w_2, hw_2, h1⟩ := bindE h1
     refine VW.loopO (fun (x : Int) => (⟨(tm 101 [(1, .ptr 0 0 0), (5, .ref 1 0 r4.length), (6, .ref 2 0 l932.length), (7, .i .i64 store_930), (8, .i .i64 x_931), (30, .i .i64 (s.need_.length : Int)), (31, .i .i64 x_931), (36, .i .i64 (aI .i64 s.most_ 1)), (37, .i .i64 x)]), [some (7, [(pT23 s)]), some (1, rows cl_ci_i64o r4), some (1, rows ci_i64 l932)], []⟩ : VS)) hw_2 (Ent.tu 3) ?_
     rintro n_2 x_1084 h2
     rw [g16_L2] at h2
     refine VW.seq (VW.rA (tm 101 [(1, .ptr 0 0 0), (5, .ref 1 0 r4.length), (6, .ref 2 0 l932.length), (7, .i .i64 store_930), (8, .i .i64 x_931), (30, .i .i64 (s.need_.length : Int)), (31, .i .i64 x_931), (36, .i .i64 (aI .i64 s.most_ 1)), (37, .i .i64 x_1084), (38, .b (ltI x_1084 (aI .i64 s.most_ 1)))]) [some (7, [(pT23 s)]), some (1, rows cl_ci_i64o r4), some (1, rows ci_i64 l932)] [] hC (VW.seq (VW.condJ h2 (fun h2 => ?_) (fun h2 => ?_))))
     · refine VW.exit ?_
       have e_ := leafR h2
       subst w_2
       exact vnext (store_930, l932) h1 (Ent.tu 3)
     refine VW.skip (VW.seq (VW.block (VW.seq (VW.rA (tm 101 [(1, .ptr 0 0 0), (5, .ref 1 0 r4.length), (6, .ref 2 0 l932.length), (7, .i .i64 store_930), (8, .i .i64 x_931), (9, .i .i64 x_1084), (30, .i .i64 (s.need_.length : Int)), (31, .i .i64 x_931), (36, .i .i64 (aI .i64 s.most_ 1)), (37, .i .i64 x_1084)]) [some (7, [(pT23 s)]), some (1, rows cl_ci_i64o r4), some (1, rows ci_i64 l932)] [] hC (VW.seq ?_)))))
     obtain ⟨r1086, q1087, h2⟩ := bindE h2
     have c1087 : F37 [.agg (pT23 s), .i .i64 x_931, .i .i64 store_930, .i .i64 x_1084] = some (.tup [.i .i64 r1086.1, .b r1086.2]) := tells_eq inj37 (a := (s, x_931, store_930, x_1084)) q1087
     refine VW.rA (tm 101 [(1, .ptr 0 0 0), (5, .ref 1 0 r4.length), (6, .ref 2 0 l932.length), (7, .i .i64 store_930), (8, .i .i64 x_931), (9, .i .i64 x_1084), (10, .i .i64 r1086.1), (11, .b r1086.2), (30, .i .i64 (s.need_.length : Int)), (31, .i .i64 x_931), (36, .i .i64 (aI .i64 s.most_ 1)), (37, .i .i64 x_1084)]) [some (7, [(pT23 s)]), some (1, rows cl_ci_i64o r4), some (1, rows ci_i64 l932)] [] hC (VW.seq ?_) (h := by simp -implicitDefEqProofs [c1087])
     obtain ⟨w1092, q1107, h2⟩ := bindE h2
     obtain ⟨w1103, q1108, h2⟩ := bindE h2
     refine VW.evalDA (tm 101 [(1, .ptr 0 0 0), (5, .ref 1 0 r4.length), (6, .ref 2 0 l932.length), (7, .i .i64 store_930), (8, .i .i64 x_931), (9, .i .i64 x_1084), (10, .i .i64 r1086.1), (30, .i .i64 (s.need_.length : Int)), (31, .i .i64 x_931), (36, .i .i64 (aI .i64 s.most_ 1)), (37, .i .i64 x_1084), (85, .b w1103)]) [some (7, [(pT23 s)]), some (1, rows cl_ci_i64o r4), some (1, rows ci_i64 l932)] [] hC mixed (by kernel_rfl) (by
         obtain ⟨q1109, q1107⟩ | ⟨q1109, rfl⟩ := gdT q1107
         · obtain ⟨e1088, q1089, q1107⟩ := bindQ q1107
           obtain ⟨f1089a, f1089b, f1089c, f1089d⟩ := idx_some q1089
           obtain ⟨e1090, q1091, q1107⟩ := bindQ q1107
           obtain ⟨f1091a, f1091b, f1091c, f1091d⟩ := idx_some q1091
           obtain rfl := Option.some.inj q1107
           obtain ⟨q1110, q1108⟩ | ⟨q1110, rfl⟩ := gdT q1108
           · obtain ⟨e1093, q1094, q1108⟩ := bindQ q1108
             obtain ⟨f1094a, f1094b, f1094c, f1094d⟩ := idx_some q1094
             obtain ⟨e1095, q1096, q1108⟩ := bindQ q1108
             have d1111 : e1095 = e1088 := Option.some.inj (q1096.symm.trans q1089)
             obtain ⟨e1097, q1098, q1108⟩ := bindQ q1108
             have d1112 : e1097 = e1090 := by have t_ := q1098; simp only [d1111] at t_; exact Option.some.inj (t_.symm.trans q1091)
             obtain ⟨e1099, q1100, q1108⟩ := bindQ q1108
             obtain ⟨f1100a, f1100b, f1100c, f1100d⟩ := idx_some q1100
             obtain ⟨e1101, q1102, q1108⟩ := bindQ q1108
             obtain ⟨f1102a, f1102b, f1102c, f1102d⟩ := idx_some q1102
             obtain rfl := Option.some.inj q1108
             simp -implicitDefEqProofs [q1109, f1089a, f1089b, f1089c, f1089d, f1091a, f1091b, f1091c, f1091d, q1110, f1094a, f1094b, f1094c, f1094d, d1111, d1112, f1100a, f1100b, f1100c, f1100d, f1102a, f1102b, f1102c, f1102d, pT23]
           simp -implicitDefEqProofs [q1109, f1089a, f1089b, f1089c, f1089d, f1091a, f1091b, f1091c, f1091d, q1110, pT23]
         obtain ⟨q1113, q1108⟩ | ⟨q1113, rfl⟩ := gdT q1108
         · exact absurd q1113 (by simp)
         simp -implicitDefEqProofs [q1109, q1113, pT23]) ?_
     refine VW.condJ h2 (fun h2 => ?_) (fun h2 => ?_)
     · exact VW.skip (VW.rA (tm 101 [(1, .ptr 0 0 0), (5, .ref 1 0 r4.length), (6, .ref 2 0 l932.length), (7, .i .i64 store_930), (8, .i .i64 x_931), (30, .i .i64 (s.need_.length : Int)), (31, .i .i64 x_931), (36, .i .i64 (aI .i64 s.most_ 1)), (37, .i .i64 (aI .i64 x_1084 1))]) [some (7, [(pT23 s)]), some (1, rows cl_ci_i64o r4), some (1, rows ci_i64 l932)] [] hC (vnext (aI .i64 x_1084 1) (leafL h2) (Ent.tu 3)))
     refine VW.seq ?_
     obtain ⟨u1105, ⟨f1106a, f1106b⟩, h2⟩ := bindP h2
     try simp only [Int.toNat_natCast, Int.reduceToNat, List.length_cons, List.length_nil, Nat.reduceAdd, Nat.zero_add] at f1106a f1106b
     refine VW.rA (tm 101 [(1, .ptr 0 0 0), (5, .ref 1 0 r4.length), (6, .ref 2 0 (l932 ++ [x_1084]).length), (10, .i .i64 r1086.1), (30, .i .i64 (s.need_.length : Int)), (31, .i .i64 x_931)]) [some (7, [(pT23 s)]), some (1, rows cl_ci_i64o r4), some (1, rows ci_i64 (l932 ++ [x_1084])), some (1, rows ci_i64 [x_1084])] [] hC (VW.seq (VW.rA (tm 101 [(1, .ptr 0 0 0), (5, .ref 1 0 r4.length), (6, .ref 2 0 (l932 ++ [x_1084]).length), (7, .i .i64 r1086.1), (30, .i .i64 (s.need_.length : Int)), (31, .i .i64 x_931)]) [some (7, [(pT23 s)]), some (1, rows cl_ci_i64o r4), some (1, rows ci_i64 (l932 ++ [x_1084])), some (1, rows ci_i64 [x_1084])] [] hC (VW.exit ?_))) (h := by simp -implicitDefEqProofs [f1106a, f1106b])
     have e_ := leafR h2
     subst w_2
     exact vnext (r1086.1, (l932 ++ [x_1084])) h1 (Ent.tu 3)
   rintro ⟨store_1023, l1024⟩ h1
   replace h1 : (g16_j2 x_931 store_1023 l1024).bind _ = _ := h1
   rw [g16_j2] at h1
   exact VW.rA (tm 101 [(1, .ptr 0 0 0), (5, .ref 1 0 r4.length), (6, .ref 2 0 l1024.length), (7, .i .i64 store_1023), (30, .i .i64 (s.need_.length : Int)), (31, .i .i64 (aI .i64 x_931 1))]) [some (7, [(pT23 s)]), some (1, rows cl_ci_i64o r4), some (1, rows ci_i64 l1024)] [] hC (vnext (store_1023, aI .i64 x_931 1, l1024) (leafL h1) (Ent.tu 3))
 rintro l560 h
 replace h : (g16_j1 r4 s l560).bind _ = _ := h
 rw [g16_j1] at h
 refine VW.seq ?_
 obtain ⟨e561, ⟨f562a, f562b, f562c, f562d⟩, h⟩ := bindI h
 try simp only [Int.toNat_natCast, Int.reduceToNat] at f562a f562b f562c f562d
 obtain ⟨e563, ⟨f564a, f564b, f564c, f564d⟩, h⟩ := bindI h
 refine VW.rD (tm 101 [(2, .ref 2 0 l560.length), (3, .i .i64 e563), (4, .i .i64 0)]) [some (7, [(pT23 s)]), some (1, rows cl_ci_i64o r4), some (1, rows ci_i64 l560)] [] hC mixed ?_ (h := by simp -implicitDefEqProofs [f562a, f562b, f562c, f562d, f564a, f564b, f564c, f564d])
 obtain rfl := leafS h
 exact VW.ret (VRet.fin (by simp [eB16]))
theorem tl16 {s : T23} {r : (List Int) × Int × Int} (h : g16 s = some r) : F16 [.agg [.sl 1 (rows ci_i64 s.need_), .sl 1 (rows ci_i64 s.price_), .i .i64 s.most_, .i .i64 s.yield_, .i .i64 s.store_, .i .i64 s.first_, .i .i64 s.loss_]] = some (.tup [.own 1 (rows ci_i64 r.1), .i .i64 r.2.1, .i .i64 r.2.2]) := tells_eq inj16 (a := s) h
noncomputable def g38_j1 (e5 : Int) (l557 : List Int) : Option ((List Int) × Int) :=
some (l557, e5)
noncomputable def g38_j2 (k_924 : Int) (at_1016 : Int) (l1017 : List Int) : Option ((Int × Int × (List Int)) ⊕ (List Int)) :=
some (.inl (at_1016, aI .i64 k_924 1, l1017))
noncomputable def g38_L2 (s : T23) (k_924 : Int) (at_923 : Int) (r1 : List (List Int)) (l925 : List Int) : (Int) → Option ((Int) ⊕ (Int × (List Int)))
| logs_1077 =>
if leI logs_1077 s.most_ = true then
(g45 s k_924 at_923 logs_1077).bind fun r1079 =>
(if leI 0 r1079 = true then (idx r1 (aI .i64 k_924 1)).bind fun e1081 => (idx e1081 r1079).bind fun e1083 => some (!eqI e1083 (-1)) else some false).bind fun w1085 =>
(if w1085 = true then (idx s.price_ k_924).bind fun e1086 => (idx r1 (aI .i64 k_924 1)).bind fun e1088 => (idx e1088 r1079).bind fun e1090 => (idx r1 k_924).bind fun e1092 => (idx e1092 at_923).bind fun e1094 => some (eqI (aI .i64 (mI .i64 e1086 logs_1077) e1090) e1094) else some false).bind fun w1096 =>
if w1096 = true then
(appK 8 l925 [logs_1077]).bind fun u1098 =>
some (.inr (r1079, (l925 ++ [logs_1077])))
else
some (.inl (aI .i64 logs_1077 1))
else
some (.inr (at_923, l925))
noncomputable def g38_L1 (s : T23) (r1 : List (List Int)) : (Int × Int × (List Int)) → Option ((Int × Int × (List Int)) ⊕ (List Int))
| (at_923, k_924, l925) =>
if ltI k_924 (s.need_.length : Int) = true then
(loopO (g38_L2 s k_924 at_923 r1 l925) 0).bind fun w => g38_j2 k_924 w.1 w.2
else
some (.inr l925)
noncomputable def g38 (s : T23) : Option ((List Int) × Int) :=
(g28 s).bind fun r1 =>
(idx r1 0).bind fun e3 =>
(idx e3 s.first_).bind fun e5 =>
if eqI e5 (-1) = true then
some ([], e5)
else
(loopO (g38_L1 s r1) (s.first_, 0, [])).bind fun w => g38_j1 e5 w
def eA38 (a : T23) : List V := [.cptr (pT23 a) 0]
def eB38 (r : (List Int) × Int) : V := .tup [.own 1 (rows ci_i64 r.1), .i .i64 r.2]
theorem inj38 (a a' : T23) (h : eA38 a = eA38 a') : a = a' := by
  obtain ⟨i187, i188, i189, i190, i191, i192, i193⟩ := a
  obtain ⟨i194, i195, i196, i197, i198, i199, i200⟩ := a'
  simp only [eA38, pT23, List.cons.injEq, V.i.injEq, V.b.injEq, V.f.injEq, V.str.injEq, V.sl.injEq, V.agg.injEq, V.cptr.injEq, true_and, and_true] at h
  simp_all [ri ci_i64_inj]
noncomputable def F38 : List V → Option V := tells (fun a => g38 a) eA38 eB38
/- loop.example/g01229/spec.l07Best -/
theorem ok38 : Tells Try.prog 38 F38 := by
 refine Tells.go 101 Try.func38 rfl rfl rfl (by kernel_rfl) (fun _ => rfl) ?_
 rintro s r h
 simp only [eA38, en, Nat.reduceAdd]
 replace h : (g38 s).bind some = some r := bindS h
 rw [g38] at h
 have hC : CEnv.Ok Try.prog [(28, F28), (45, F45)] := ⟨.inl ok28, .inl ok45, trivial⟩
 refine VW.seq (VW.rA (tm 101 [(0, .cptr (pT23 s) 0)]) [] [] hC (VW.seq ?_))
 obtain ⟨r1, q2, h⟩ := bindE h
 have c2 : F28 [.cptr (pT23 s) 0] = some (.own 1 (rows cl_ci_i64o r1)) := tells_eq inj28 (a := s) q2
 refine VW.rA (tm 101 [(0, .cptr (pT23 s) 0), (4, .ref 0 0 r1.length)]) [some (1, rows cl_ci_i64o r1)] [] hC (VW.seq ?_) (h := by simp -implicitDefEqProofs [c2])
 obtain ⟨e3, ⟨f4a, f4b, f4c, f4d⟩, h⟩ := bindI h
 try simp only [Int.toNat_natCast, Int.reduceToNat] at f4a f4b f4c f4d
 obtain ⟨e5, ⟨f6a, f6b, f6c, f6d⟩, h⟩ := bindI h
 refine VW.rD (tm 101 [(0, .cptr (pT23 s) 0), (4, .ref 0 0 r1.length), (5, .i .i64 e5)]) [some (1, rows cl_ci_i64o r1)] [] hC mixed (VW.seq (VW.rA (tm 101 [(0, .cptr (pT23 s) 0), (4, .ref 0 0 r1.length), (5, .i .i64 e5), (6, .ref 1 0 0)]) [some (1, rows cl_ci_i64o r1), some (1, rows ci_i64 [])] [] hC (VW.seq (VW.seq (VW.rA (tm 101 [(0, .cptr (pT23 s) 0), (4, .ref 0 0 r1.length), (5, .i .i64 e5), (6, .ref 1 0 0), (24, .b (eqI e5 (-1)))]) [some (1, rows cl_ci_i64o r1), some (1, rows ci_i64 [])] [] hC (VW.condI h (fun h => ?_) (fun h => ?_))))))) (h := by simp -implicitDefEqProofs [f4a, f4b, f4c, f4d, f6a, f6b, f6c, f6d])
 · refine VW.seq (VW.rA (tm 101 [(2, .ref 1 0 0), (3, .i .i64 e5)]) [some (1, rows cl_ci_i64o r1), some (1, rows ci_i64 [])] [] hC ?_)
   obtain rfl := leafS h
   exact VW.ret (VRet.fin (by simp [eB38]))
 refine VW.skip (VW.seq (VW.rA (tm 101 [(0, .cptr (pT23 s) 0), (4, .ref 0 0 r1.length), (5, .i .i64 e5), (6, .ref 1 0 0), (7, .i .i64 s.first_)]) [some (1, rows cl_ci_i64o r1), some (1, rows ci_i64 [])] [] hC (VW.join (fun (v : List Int) => (⟨(tm 101 [(5, .i .i64 e5), (6, .ref 1 0 v.length)]), [some (1, rows cl_ci_i64o r1), some (1, rows ci_i64 v)], []⟩ : VS)) (fun v => (g38_j1 e5 (v)).bind some = some r) ?_ ?_)))
 · refine VW.seq (VW.rA (tm 101 [(0, .cptr (pT23 s) 0), (4, .ref 0 0 r1.length), (5, .i .i64 e5), (6, .ref 1 0 0), (7, .i .i64 s.first_), (8, .i .i64 0)]) [some (1, rows cl_ci_i64o r1), some (1, rows ci_i64 [])] [] hC (VW.block ?_))
   obtain ⟨w_1, hw_1, h⟩ := bindE h
   refine VW.loopO (fun (x : Int × Int × (List Int)) => (⟨(tm 101 [(0, .cptr (pT23 s) 0), (4, .ref 0 0 r1.length), (5, .i .i64 e5), (6, .ref 1 0 x.2.2.length), (7, .i .i64 x.1), (8, .i .i64 x.2.1)]), [some (1, rows cl_ci_i64o r1), some (1, rows ci_i64 x.2.2)], []⟩ : VS)) hw_1 (Ent.tu 2) ?_
   rintro n_1 ⟨at_923, k_924, l925⟩ h1
   rw [g38_L1] at h1
   refine VW.seq (VW.seq (VW.rA (tm 101 [(0, .cptr (pT23 s) 0), (4, .ref 0 0 r1.length), (5, .i .i64 e5), (6, .ref 1 0 l925.length), (7, .i .i64 at_923), (8, .i .i64 k_924), (37, .b (ltI k_924 (s.need_.length : Int)))]) [some (1, rows cl_ci_i64o r1), some (1, rows ci_i64 l925)] [] hC (VW.condJ h1 (fun h1 => ?_) (fun h1 => ?_))))
   · refine VW.exit ?_
     have e_ := leafR h1
     subst w_1
     exact vnext l925 h (Ent.tu 2)
   refine VW.skip (VW.join (fun (v : Int × (List Int)) => (⟨(tm 101 [(0, .cptr (pT23 s) 0), (4, .ref 0 0 r1.length), (5, .i .i64 e5), (6, .ref 1 0 v.2.length), (7, .i .i64 v.1), (8, .i .i64 k_924)]), [some (1, rows cl_ci_i64o r1), some (1, rows ci_i64 v.2)], []⟩ : VS)) (fun v => (g38_j2 k_924 (v.1) (v.2)).bind (kN (g38_L1 s r1) n_1) = some w_1) ?_ ?_)
   · refine VW.block (VW.seq (VW.rA (tm 101 [(0, .cptr (pT23 s) 0), (4, .ref 0 0 r1.length), (5, .i .i64 e5), (6, .ref 1 0 l925.length), (7, .i .i64 at_923), (8, .i .i64 k_924), (9, .i .i64 0)]) [some (1, rows cl_ci_i64o r1), some (1, rows ci_i64 l925)] [] hC (VW.block ?_)))
     obtain ⟨w_2, hw_2, h1⟩ := bindE h1
     refine VW.loopO (fun (x : Int) => (⟨(tm 101 [(0, .cptr (pT23 s) 0), (4, .ref 0 0 r1.length), (5, .i .i64 e5), (6, .ref 1 0 l925.length), (7, .i .i64 at_923), (8, .i .i64 k_924), (9, .i .i64 x)]), [some (1, rows cl_ci_i64o r1), some (1, rows ci_i64 l925)], []⟩ : VS)) hw_2 (Ent.tu 2) ?_
     rintro n_2 logs_1077 h2
     rw [g38_L2] at h2
     refine VW.seq (VW.seq (VW.rA (tm 101 [(0, .cptr (pT23 s) 0), (4, .ref 0 0 r1.length), (5, .i .i64 e5), (6, .ref 1 0 l925.length), (7, .i .i64 at_923), (8, .i .i64 k_924), (9, .i .i64 logs_1077), (45, .b (leI logs_1077 s.most_))]) [some (1, rows cl_ci_i64o r1), some (1, rows ci_i64 l925)] [] hC (VW.condJ h2 (fun h2 => ?_) (fun h2 => ?_))))
     · refine VW.exit ?_
       have e_ := leafR h2
       subst w_2
       exact vnext (at_923, l925) h1 (Ent.tu 2)
     refine VW.skip (VW.seq (VW.block (VW.seq ?_)))
     obtain ⟨r1079, q1080, h2⟩ := bindE h2
     have c1080 : F45 [.cptr (pT23 s) 0, .i .i64 k_924, .i .i64 at_923, .i .i64 logs_1077] = some (.i .i64 r1079) := tells_eq inj45 (a := (s, k_924, at_923, logs_1077)) q1080
     refine VW.rA (tm 101 [(0, .cptr (pT23 s) 0), (4, .ref 0 0 r1.length), (5, .i .i64 e5), (6, .ref 1 0 l925.length), (7, .i .i64 at_923), (8, .i .i64 k_924), (9, .i .i64 logs_1077), (10, .i .i64 r1079)]) [some (1, rows cl_ci_i64o r1), some (1, rows ci_i64 l925)] [] hC (VW.seq ?_) (h := by simp -implicitDefEqProofs [c1080])
     obtain ⟨w1085, q1100, h2⟩ := bindE h2
     obtain ⟨w1096, q1101, h2⟩ := bindE h2
     refine VW.evalDA (tm 101 [(0, .cptr (pT23 s) 0), (4, .ref 0 0 r1.length), (5, .i .i64 e5), (6, .ref 1 0 l925.length), (7, .i .i64 at_923), (8, .i .i64 k_924), (9, .i .i64 logs_1077), (10, .i .i64 r1079), (93, .b w1096)]) [some (1, rows cl_ci_i64o r1), some (1, rows ci_i64 l925)] [] hC mixed (by kernel_rfl) (by
         obtain ⟨q1102, q1100⟩ | ⟨q1102, rfl⟩ := gdT q1100
         · obtain ⟨e1081, q1082, q1100⟩ := bindQ q1100
           obtain ⟨f1082a, f1082b, f1082c, f1082d⟩ := idx_some q1082
           obtain ⟨e1083, q1084, q1100⟩ := bindQ q1100
           obtain ⟨f1084a, f1084b, f1084c, f1084d⟩ := idx_some q1084
           obtain rfl := Option.some.inj q1100
           obtain ⟨q1103, q1101⟩ | ⟨q1103, rfl⟩ := gdT q1101
           · obtain ⟨e1086, q1087, q1101⟩ := bindQ q1101
             obtain ⟨f1087a, f1087b, f1087c, f1087d⟩ := idx_some q1087
             obtain ⟨e1088, q1089, q1101⟩ := bindQ q1101
             have d1104 : e1088 = e1081 := Option.some.inj (q1089.symm.trans q1082)
             obtain ⟨e1090, q1091, q1101⟩ := bindQ q1101
             have d1105 : e1090 = e1083 := by have t_ := q1091; simp only [d1104] at t_; exact Option.some.inj (t_.symm.trans q1084)
             obtain ⟨e1092, q1093, q1101⟩ := bindQ q1101
             obtain ⟨f1093a, f1093b, f1093c, f1093d⟩ := idx_some q1093
             obtain ⟨e1094, q1095, q1101⟩ := bindQ q1101
             obtain ⟨f1095a, f1095b, f1095c, f1095d⟩ := idx_some q1095
             obtain rfl := Option.some.inj q1101
             simp -implicitDefEqProofs [q1102, f1082a, f1082b, f1082c, f1082d, f1084a, f1084b, f1084c, f1084d, q1103, f1087a, f1087b, f1087c, f1087d, d1104, d1105, f1093a, f1093b, f1093c, f1093d, f1095a, f1095b, f1095c, f1095d, pT23]
           simp -implicitDefEqProofs [q1102, f1082a, f1082b, f1082c, f1082d, f1084a, f1084b, f1084c, f1084d, q1103, pT23]
         obtain ⟨q1106, q1101⟩ | ⟨q1106, rfl⟩ := gdT q1101
         · exact absurd q1106 (by simp)
         simp -implicitDefEqProofs [q1102, q1106, pT23]) ?_
     refine VW.condJ h2 (fun h2 => ?_) (fun h2 => ?_)
     · exact VW.skip (VW.rA (tm 101 [(0, .cptr (pT23 s) 0), (4, .ref 0 0 r1.length), (5, .i .i64 e5), (6, .ref 1 0 l925.length), (7, .i .i64 at_923), (8, .i .i64 k_924), (9, .i .i64 (aI .i64 logs_1077 1))]) [some (1, rows cl_ci_i64o r1), some (1, rows ci_i64 l925)] [] hC (vnext (aI .i64 logs_1077 1) (leafL h2) (Ent.tu 2)))
     refine VW.seq ?_
     obtain ⟨u1098, ⟨f1099a, f1099b⟩, h2⟩ := bindP h2
     try simp only [Int.toNat_natCast, Int.reduceToNat, List.length_cons, List.length_nil, Nat.reduceAdd, Nat.zero_add] at f1099a f1099b
     refine VW.rA (tm 101 [(0, .cptr (pT23 s) 0), (4, .ref 0 0 r1.length), (5, .i .i64 e5), (6, .ref 1 0 (l925 ++ [logs_1077]).length), (8, .i .i64 k_924), (10, .i .i64 r1079)]) [some (1, rows cl_ci_i64o r1), some (1, rows ci_i64 (l925 ++ [logs_1077])), some (1, rows ci_i64 [logs_1077])] [] hC (VW.seq (VW.rA (tm 101 [(0, .cptr (pT23 s) 0), (4, .ref 0 0 r1.length), (5, .i .i64 e5), (6, .ref 1 0 (l925 ++ [logs_1077]).length), (7, .i .i64 r1079), (8, .i .i64 k_924)]) [some (1, rows cl_ci_i64o r1), some (1, rows ci_i64 (l925 ++ [logs_1077])), some (1, rows ci_i64 [logs_1077])] [] hC (VW.exit ?_))) (h := by simp -implicitDefEqProofs [f1099a, f1099b])
     have e_ := leafR h2
     subst w_2
     exact vnext (r1079, (l925 ++ [logs_1077])) h1 (Ent.tu 2)
   rintro ⟨at_1016, l1017⟩ h1
   replace h1 : (g38_j2 k_924 at_1016 l1017).bind _ = _ := h1
   rw [g38_j2] at h1
   exact VW.rA (tm 101 [(0, .cptr (pT23 s) 0), (4, .ref 0 0 r1.length), (5, .i .i64 e5), (6, .ref 1 0 l1017.length), (7, .i .i64 at_1016), (8, .i .i64 (aI .i64 k_924 1))]) [some (1, rows cl_ci_i64o r1), some (1, rows ci_i64 l1017)] [] hC (vnext (at_1016, aI .i64 k_924 1, l1017) (leafL h1) (Ent.tu 2))
 rintro l557 h
 replace h : (g38_j1 e5 l557).bind _ = _ := h
 rw [g38_j1] at h
 refine VW.seq (VW.rA (tm 101 [(2, .ref 1 0 l557.length), (3, .i .i64 e5)]) [some (1, rows cl_ci_i64o r1), some (1, rows ci_i64 l557)] [] hC ?_)
 obtain rfl := leafS h
 exact VW.ret (VRet.fin (by simp [eB38]))
theorem tl38 {s : T23} {r : (List Int) × Int} (h : g38 s = some r) : F38 [.cptr [.sl 1 (rows ci_i64 s.need_), .sl 1 (rows ci_i64 s.price_), .i .i64 s.most_, .i .i64 s.yield_, .i .i64 s.store_, .i .i64 s.first_, .i .i64 s.loss_] 0] = some (.tup [.own 1 (rows ci_i64 r.1), .i .i64 r.2]) := tells_eq inj38 (a := s) h
noncomputable def g17 (s : T23) : Option ((List Int) × Int × Int) :=
(g27 s).bind fun r1 =>
if (!r1) = true then
some ([], 0, 1)
else
(g38 s).bind fun r4 =>
if eqI r4.2 (-1) = true then
some ([], 0, 6)
else
some (r4.1, r4.2, 0)
def eA17 (a : T23) : List V := [.agg (pT23 a)]
def eB17 (r : (List Int) × Int × Int) : V := .tup [.own 1 (rows ci_i64 r.1), .i .i64 r.2.1, .i .i64 r.2.2]
theorem inj17 (a a' : T23) (h : eA17 a = eA17 a') : a = a' := by
  obtain ⟨i201, i202, i203, i204, i205, i206, i207⟩ := a
  obtain ⟨i208, i209, i210, i211, i212, i213, i214⟩ := a'
  simp only [eA17, pT23, List.cons.injEq, V.i.injEq, V.b.injEq, V.f.injEq, V.str.injEq, V.sl.injEq, V.agg.injEq, V.cptr.injEq, true_and, and_true] at h
  simp_all [ri ci_i64_inj]
noncomputable def F17 : List V → Option V := tells (fun a => g17 a) eA17 eB17
/- loop.example/g01229/spec.BestPlan -/
theorem ok17 : Tells Try.prog 17 F17 := by
 refine Tells.go 19 Try.func17 rfl rfl rfl (by kernel_rfl) (fun _ => rfl) ?_
 rintro s r h
 simp only [eA17, en, Nat.reduceAdd]
 replace h : (g17 s).bind some = some r := bindS h
 rw [g17] at h
 have hC : CEnv.Ok Try.prog [(27, F27), (38, F38)] := ⟨.inl ok27, .inl ok38, trivial⟩
 refine VW.seq (VW.rA (tm 19 [(1, .ptr 0 0 0)]) [some (7, [(pT23 s)])] [] hC (VW.seq (VW.seq ?_)))
 obtain ⟨r1, q2, h⟩ := bindE h
 have c2 : F27 [.cptr (pT23 s) 0] = some (.b r1) := tells_eq inj27 (a := s) q2
 refine VW.rA (tm 19 [(1, .ptr 0 0 0), (8, .b (!r1))]) [some (7, [(pT23 s)])] [] hC (VW.condI h (fun h => ?_) (fun h => ?_)) (h := by simp -implicitDefEqProofs [c2])
 · refine VW.seq (VW.rA (tm 19 [(2, .ref 1 0 0), (3, .i .i64 0), (4, .i .i64 1)]) [some (7, [(pT23 s)]), some (1, rows ci_i64 [])] [] hC ?_)
   obtain rfl := leafS h
   exact VW.ret (VRet.fin (by simp [eB17]))
 refine VW.skip (VW.seq ?_)
 obtain ⟨r4, q5, h⟩ := bindE h
 have c5 : F38 [.cptr (pT23 s) 0] = some (.tup [.own 1 (rows ci_i64 r4.1), .i .i64 r4.2]) := tells_eq inj38 (a := s) q5
 refine VW.rA (tm 19 [(5, .ref 1 0 r4.1.length), (6, .i .i64 r4.2)]) [some (7, [(pT23 s)]), some (1, rows ci_i64 r4.1)] [] hC (VW.seq (VW.seq (VW.rA (tm 19 [(5, .ref 1 0 r4.1.length), (6, .i .i64 r4.2), (15, .b (eqI r4.2 (-1)))]) [some (7, [(pT23 s)]), some (1, rows ci_i64 r4.1)] [] hC (VW.condI h (fun h => ?_) (fun h => ?_))))) (h := by simp -implicitDefEqProofs [c5])
 · refine VW.seq (VW.rA (tm 19 [(2, .ref 2 0 0), (3, .i .i64 0), (4, .i .i64 6)]) [some (7, [(pT23 s)]), some (1, rows ci_i64 r4.1), some (1, rows ci_i64 [])] [] hC ?_)
   obtain rfl := leafS h
   exact VW.ret (VRet.fin (by simp [eB17]))
 refine VW.skip (VW.seq (VW.rA (tm 19 [(2, .ref 1 0 r4.1.length), (3, .i .i64 r4.2), (4, .i .i64 0)]) [some (7, [(pT23 s)]), some (1, rows ci_i64 r4.1)] [] hC ?_))
 obtain rfl := leafS h
 exact VW.ret (VRet.fin (by simp [eB17]))
theorem tl17 {s : T23} {r : (List Int) × Int × Int} (h : g17 s = some r) : F17 [.agg [.sl 1 (rows ci_i64 s.need_), .sl 1 (rows ci_i64 s.price_), .i .i64 s.most_, .i .i64 s.yield_, .i .i64 s.store_, .i .i64 s.first_, .i .i64 s.loss_]] = some (.tup [.own 1 (rows ci_i64 r.1), .i .i64 r.2.1, .i .i64 r.2.2]) := tells_eq inj17 (a := s) h
noncomputable def g18_j2 (s : T23) (l7514 : List Int) : Option (Int × Int) :=
(idx l7514 s.first_).bind fun e7515 =>
some (e7515, 0)
noncomputable def g18_j3 (k_12511 : Int) (l13761 : List Int) : Option ((Int × (List Int)) ⊕ (List Int)) :=
some (.inl (sI .i64 k_12511 1, l13761))
noncomputable def g18_j4 (k_12511 : Int) (l14386 : List Int) : Option ((Int × (List Int)) ⊕ (List Int)) :=
g18_j3 k_12511 l14386
noncomputable def g18_j5 (x_14801 : Int) (l14906 : List Int) : Option ((Int × (List Int)) ⊕ (List Int)) :=
some (.inl (aI .i64 x_14801 1, l14906))
noncomputable def g18_L3 (s : T23) (k_12511 : Int) (x_14801 : Int) (r4 : List (List Int)) (l12512 : List Int) : (Int × (List Int)) → Option ((Int × (List Int)) ⊕ (List Int))
| (x_14976, l14977) =>
if ltI x_14976 (aI .i64 s.most_ 1) = true then
(g37 s k_12511 x_14801 x_14976).bind fun r14979 =>
(if r14979.2 = true then (idx r4 (aI .i64 k_12511 1)).bind fun e14981 => (idx e14981 r14979.1).bind fun e14983 => some (!eqI e14983 (-1)) else some false).bind fun w14985 =>
(if w14985 = true then (idx s.price_ k_12511).bind fun e14986 => (idx r4 (aI .i64 k_12511 1)).bind fun e14988 => (idx e14988 r14979.1).bind fun e14990 => (idx r4 k_12511).bind fun e14992 => (idx e14992 x_14801).bind fun e14994 => some (eqI (aI .i64 (mI .i64 e14986 x_14976) e14990) e14994) else some false).bind fun w14996 =>
if w14996 = true then
(idx l14977 x_14801).bind fun e14998 =>
(idx l12512 r14979.1).bind fun e15000 =>
some (.inl (aI .i64 x_14976 1, (l14977.set x_14801.toNat (minI (aI .i64 e14998 e15000) 1000000000))))
else
some (.inl (aI .i64 x_14976 1, l14977))
else
some (.inr l14977)
noncomputable def g18_L2 (s : T23) (r4 : List (List Int)) (k_12511 : Int) (l12512 : List Int) : (Int × (List Int)) → Option ((Int × (List Int)) ⊕ (List Int))
| (x_14801, l14802) =>
if ltI x_14801 ((List.replicate (aI .i64 s.store_ 1).toNat 0).length : Int) = true then
(idx r4 k_12511).bind fun e14907 =>
(idx e14907 x_14801).bind fun e14909 =>
if eqI e14909 (-1) = true then
g18_j5 x_14801 l14802
else
(loopO (g18_L3 s k_12511 x_14801 r4 l12512) (0, l14802)).bind fun w => g18_j5 x_14801 w
else
some (.inr l14802)
noncomputable def g18_L1 (s : T23) (r4 : List (List Int)) : (Int × (List Int)) → Option ((Int × (List Int)) ⊕ (List Int))
| (k_12511, l12512) =>
if leI 0 k_12511 = true then
(mk 8 (aI .i64 s.store_ 1)).bind fun u13762 =>
(loopO (g18_L2 s r4 k_12511 l12512) (0, (List.replicate (aI .i64 s.store_ 1).toNat 0))).bind fun w => g18_j4 k_12511 w
else
some (.inr l12512)
noncomputable def g18_j1 (s : T23) (r4 : List (List Int)) (l21 : List Int) : Option (Int × Int) :=
(loopO (g18_L1 s r4) (sI .i64 (s.need_.length : Int) 1, l21)).bind fun w => g18_j2 s w
noncomputable def g18_L4 (s : T23) : (Int × (List Int)) → Option ((Int × (List Int)) ⊕ (List Int))
| (x_15017, l15018) =>
if ltI x_15017 ((List.replicate (aI .i64 s.store_ 1).toNat 0).length : Int) = true then
(idx l15018 x_15017).bind fun e15020 =>
some (.inl (aI .i64 x_15017 1, (l15018.set x_15017.toNat 1)))
else
some (.inr l15018)
noncomputable def g18 (s : T23) : Option (Int × Int) :=
(g30 s).bind fun r1 =>
if (!r1) = true then
some (0, 1)
else
(g31 s).bind fun r4 =>
(mk 8 (aI .i64 s.store_ 1)).bind fun u6 =>
(loopO (g18_L4 s) (0, (List.replicate (aI .i64 s.store_ 1).toNat 0))).bind fun w => g18_j1 s r4 w
def eA18 (a : T23) : List V := [.agg (pT23 a)]
def eB18 (r : Int × Int) : V := .tup [.i .i64 r.1, .i .i64 r.2]
theorem inj18 (a a' : T23) (h : eA18 a = eA18 a') : a = a' := by
  obtain ⟨i215, i216, i217, i218, i219, i220, i221⟩ := a
  obtain ⟨i222, i223, i224, i225, i226, i227, i228⟩ := a'
  simp only [eA18, pT23, List.cons.injEq, V.i.injEq, V.b.injEq, V.f.injEq, V.str.injEq, V.sl.injEq, V.agg.injEq, V.cptr.injEq, true_and, and_true] at h
  simp_all [ri ci_i64_inj]
noncomputable def F18 : List V → Option V := tells (fun a => g18 a) eA18 eB18
/- loop.example/g01229/impl.CountBest -/
theorem ok18 : Tells Try.prog 18 F18 := by
 refine Tells.go 129 Try.func18 rfl rfl rfl (by kernel_rfl) (fun _ => rfl) ?_
 rintro s r h
 simp only [eA18, en, Nat.reduceAdd]
 replace h : (g18 s).bind some = some r := bindS h
 rw [g18] at h
 have hC : CEnv.Ok Try.prog [(30, F30), (31, F31), (37, F37)] := ⟨.inl ok30, .inl ok31, .inl ok37, trivial⟩
 refine VW.seq (VW.rA (tm 129 [(1, .ptr 0 0 0)]) [some (7, [(pT23 s)])] [] hC (VW.seq (VW.seq ?_)) (h := by simp -implicitDefEqProofs [min_fold]))
 obtain ⟨r1, q2, h⟩ := bindE h
 have c2 : F30 [.agg (pT23 s)] = some (.b r1) := tells_eq inj30 (a := s) q2
 refine VW.rA (tm 129 [(1, .ptr 0 0 0), (15, .b (!r1))]) [some (7, [(pT23 s)])] [] hC (VW.condI h (fun h => ?_) (fun h => ?_)) (h := by simp -implicitDefEqProofs [c2, min_fold])
 · refine VW.seq (VW.rA (tm 129 [(2, .i .i64 0), (3, .i .i64 1)]) [some (7, [(pT23 s)])] [] hC ?_)
   obtain rfl := leafS h
   exact VW.ret (VRet.fin (by simp [eB18]))
 refine VW.skip (VW.seq ?_)
 obtain ⟨r4, q5, h⟩ := bindE h
 have c5 : F31 [.agg (pT23 s)] = some (.own 1 (rows cl_ci_i64o r4)) := tells_eq inj31 (a := s) q5
 refine VW.rA (tm 129 [(1, .ptr 0 0 0), (4, .ref 1 0 r4.length)]) [some (7, [(pT23 s)]), some (1, rows cl_ci_i64o r4)] [] hC (VW.seq ?_) (h := by simp -implicitDefEqProofs [c5, min_fold])
 obtain ⟨u6, ⟨f7a, f7b, f7c⟩, h⟩ := bindM h
 try simp only [Int.toNat_natCast, Int.reduceToNat, List.length_cons, List.length_nil, Nat.reduceAdd, Nat.zero_add] at f7a f7b f7c
 refine VW.rA (tm 129 [(1, .ptr 0 0 0), (4, .ref 1 0 r4.length), (5, .ref 2 0 (List.replicate (aI .i64 s.store_ 1).toNat 0).length)]) [some (7, [(pT23 s)]), some (1, rows cl_ci_i64o r4), some (1, rows ci_i64 (List.replicate (aI .i64 s.store_ 1).toNat 0))] [] hC (VW.join (fun (v : List Int) => (⟨(tm 129 [(1, .ptr 0 0 0), (4, .ref 1 0 r4.length), (5, .ref 2 0 v.length)]), [some (7, [(pT23 s)]), some (1, rows cl_ci_i64o r4), some (1, rows ci_i64 v)], []⟩ : VS)) (fun v => (g18_j1 s r4 (v)).bind some = some r) ?_ ?_) (h := by simp -implicitDefEqProofs [f7a, f7b, f7c, min_fold])
 · refine VW.seq (VW.rA (tm 129 [(1, .ptr 0 0 0), (4, .ref 1 0 r4.length), (5, .ref 2 0 (List.replicate (aI .i64 s.store_ 1).toNat 0).length), (23, .i .i64 ((List.replicate (aI .i64 s.store_ 1).toNat 0).length : Int)), (24, .i .i64 0)]) [some (7, [(pT23 s)]), some (1, rows cl_ci_i64o r4), some (1, rows ci_i64 (List.replicate (aI .i64 s.store_ 1).toNat 0))] [] hC (VW.block ?_) (h := by simp -implicitDefEqProofs [min_fold]))
   obtain ⟨w_4, hw_4, h⟩ := bindE h
   refine VW.loopO (fun (x : Int × (List Int)) => (⟨(tm 129 [(1, .ptr 0 0 0), (4, .ref 1 0 r4.length), (5, .ref 2 0 x.2.length), (23, .i .i64 ((List.replicate (aI .i64 s.store_ 1).toNat 0).length : Int)), (24, .i .i64 x.1)]), [some (7, [(pT23 s)]), some (1, rows cl_ci_i64o r4), some (1, rows ci_i64 x.2)], []⟩ : VS)) hw_4 (Ent.tu 3) ?_
   rintro n_4 ⟨x_15017, l15018⟩ h1
   rw [g18_L4] at h1
   refine VW.seq (VW.rA (tm 129 [(1, .ptr 0 0 0), (4, .ref 1 0 r4.length), (5, .ref 2 0 l15018.length), (23, .i .i64 ((List.replicate (aI .i64 s.store_ 1).toNat 0).length : Int)), (24, .i .i64 x_15017), (25, .b (ltI x_15017 ((List.replicate (aI .i64 s.store_ 1).toNat 0).length : Int)))]) [some (7, [(pT23 s)]), some (1, rows cl_ci_i64o r4), some (1, rows ci_i64 l15018)] [] hC (VW.seq (VW.condJ h1 (fun h1 => ?_) (fun h1 => ?_))) (h := by simp -implicitDefEqProofs [min_fold]))
   · refine VW.exit ?_
     have e_ := leafR h1
     subst w_4
     exact vnext l15018 h (Ent.tu 3)
   refine VW.skip (VW.seq (VW.block (VW.seq (VW.rA (tm 129 [(1, .ptr 0 0 0), (4, .ref 1 0 r4.length), (5, .ref 2 0 l15018.length), (6, .i .i64 x_15017), (23, .i .i64 ((List.replicate (aI .i64 s.store_ 1).toNat 0).length : Int)), (24, .i .i64 x_15017)]) [some (7, [(pT23 s)]), some (1, rows cl_ci_i64o r4), some (1, rows ci_i64 l15018)] [] hC ?_ (h := by simp -implicitDefEqProofs [min_fold])))))
   obtain ⟨e15020, ⟨f15021a, f15021b, f15021c, f15021d⟩, h1⟩ := bindI h1
   exact VW.rA (tm 129 [(1, .ptr 0 0 0), (4, .ref 1 0 r4.length), (5, .ref 2 0 (l15018.set x_15017.toNat 1).length), (23, .i .i64 ((List.replicate (aI .i64 s.store_ 1).toNat 0).length : Int)), (24, .i .i64 x_15017)]) [some (7, [(pT23 s)]), some (1, rows cl_ci_i64o r4), some (1, rows ci_i64 (l15018.set x_15017.toNat 1))] [] hC (VW.rA (tm 129 [(1, .ptr 0 0 0), (4, .ref 1 0 r4.length), (5, .ref 2 0 (l15018.set x_15017.toNat 1).length), (23, .i .i64 ((List.replicate (aI .i64 s.store_ 1).toNat 0).length : Int)), (24, .i .i64 (aI .i64 x_15017 1))]) [some (7, [(pT23 s)]), some (1, rows cl_ci_i64o r4), some (1, rows ci_i64 (l15018.set x_15017.toNat 1))] [] hC (vnext (aI .i64 x_15017 1, (l15018.set x_15017.toNat 1)) (leafL h1) (Ent.tu 3)) (h := by simp -implicitDefEqProofs [min_fold])) (h := by simp -implicitDefEqProofs [f15021a, f15021b, f15021c, f15021d, min_fold])
 rintro l21 h
 replace h : (g18_j1 s r4 l21).bind _ = _ := h
 rw [g18_j1] at h
 refine VW.join (fun (v : List Int) => (⟨(tm 129 [(1, .ptr 0 0 0), (5, .ref 2 0 v.length)]), [some (7, [(pT23 s)]), some (1, rows cl_ci_i64o r4), some (1, rows ci_i64 v)], []⟩ : VS)) (fun v => (g18_j2 s (v)).bind some = some r) ?_ ?_
 · refine VW.seq (VW.rA (tm 129 [(1, .ptr 0 0 0), (4, .ref 1 0 r4.length), (5, .ref 2 0 l21.length), (7, .i .i64 (sI .i64 (s.need_.length : Int) 1))]) [some (7, [(pT23 s)]), some (1, rows cl_ci_i64o r4), some (1, rows ci_i64 l21)] [] hC (VW.block ?_) (h := by simp -implicitDefEqProofs [min_fold]))
   obtain ⟨w_1, hw_1, h⟩ := bindE h
   refine VW.loopO (fun (x : Int × (List Int)) => (⟨(tm 129 [(1, .ptr 0 0 0), (4, .ref 1 0 r4.length), (5, .ref 2 0 x.2.length), (7, .i .i64 x.1)]), [some (7, [(pT23 s)]), some (1, rows cl_ci_i64o r4), some (1, rows ci_i64 x.2)], []⟩ : VS)) hw_1 (Ent.tu 3) ?_
   rintro n_1 ⟨k_12511, l12512⟩ h1
   rw [g18_L1] at h1
   refine VW.seq (VW.seq (VW.rA (tm 129 [(1, .ptr 0 0 0), (4, .ref 1 0 r4.length), (5, .ref 2 0 l12512.length), (7, .i .i64 k_12511), (36, .b (leI 0 k_12511))]) [some (7, [(pT23 s)]), some (1, rows cl_ci_i64o r4), some (1, rows ci_i64 l12512)] [] hC (VW.condJ h1 (fun h1 => ?_) (fun h1 => ?_)) (h := by simp -implicitDefEqProofs [min_fold])))
   · refine VW.exit ?_
     have e_ := leafR h1
     subst w_1
     exact vnext l12512 h (Ent.tu 3)
   refine VW.skip (VW.join (fun (v : List Int) => (⟨(tm 129 [(1, .ptr 0 0 0), (4, .ref 1 0 r4.length), (5, .ref 3 0 v.length), (7, .i .i64 k_12511)]), [some (7, [(pT23 s)]), some (1, rows cl_ci_i64o r4), some (1, rows ci_i64 l12512), some (1, rows ci_i64 v)], []⟩ : VS)) (fun v => (g18_j3 k_12511 (v)).bind (kN (g18_L1 s r4) n_1) = some w_1) ?_ ?_)
   · refine VW.block (VW.seq ?_)
     obtain ⟨u13762, ⟨f13763a, f13763b, f13763c⟩, h1⟩ := bindM h1
     try simp only [Int.toNat_natCast, Int.reduceToNat, List.length_cons, List.length_nil, Nat.reduceAdd, Nat.zero_add] at f13763a f13763b f13763c
     refine VW.rA (tm 129 [(1, .ptr 0 0 0), (4, .ref 1 0 r4.length), (5, .ref 2 0 l12512.length), (7, .i .i64 k_12511), (8, .ref 3 0 (List.replicate (aI .i64 s.store_ 1).toNat 0).length)]) [some (7, [(pT23 s)]), some (1, rows cl_ci_i64o r4), some (1, rows ci_i64 l12512), some (1, rows ci_i64 (List.replicate (aI .i64 s.store_ 1).toNat 0))] [] hC (VW.join (fun (v : List Int) => (⟨(tm 129 [(1, .ptr 0 0 0), (4, .ref 1 0 r4.length), (7, .i .i64 k_12511), (8, .ref 3 0 v.length)]), [some (7, [(pT23 s)]), some (1, rows cl_ci_i64o r4), some (1, rows ci_i64 l12512), some (1, rows ci_i64 v)], []⟩ : VS)) (fun v => (g18_j4 k_12511 (v)).bind (kN (g18_L1 s r4) n_1) = some w_1) ?_ ?_) (h := by simp -implicitDefEqProofs [f13763a, f13763b, f13763c, min_fold])
     · refine VW.seq (VW.rA (tm 129 [(1, .ptr 0 0 0), (4, .ref 1 0 r4.length), (5, .ref 2 0 l12512.length), (7, .i .i64 k_12511), (8, .ref 3 0 (List.replicate (aI .i64 s.store_ 1).toNat 0).length), (44, .i .i64 ((List.replicate (aI .i64 s.store_ 1).toNat 0).length : Int)), (45, .i .i64 0)]) [some (7, [(pT23 s)]), some (1, rows cl_ci_i64o r4), some (1, rows ci_i64 l12512), some (1, rows ci_i64 (List.replicate (aI .i64 s.store_ 1).toNat 0))] [] hC (VW.block ?_) (h := by simp -implicitDefEqProofs [min_fold]))
       obtain ⟨w_2, hw_2, h1⟩ := bindE h1
       refine VW.loopO (fun (x : Int × (List Int)) => (⟨(tm 129 [(1, .ptr 0 0 0), (4, .ref 1 0 r4.length), (5, .ref 2 0 l12512.length), (7, .i .i64 k_12511), (8, .ref 3 0 x.2.length), (44, .i .i64 ((List.replicate (aI .i64 s.store_ 1).toNat 0).length : Int)), (45, .i .i64 x.1)]), [some (7, [(pT23 s)]), some (1, rows cl_ci_i64o r4), some (1, rows ci_i64 l12512), some (1, rows ci_i64 x.2)], []⟩ : VS)) hw_2 (Ent.tu 4) ?_
       rintro n_2 ⟨x_14801, l14802⟩ h2
       rw [g18_L2] at h2
       refine VW.seq (VW.rA (tm 129 [(1, .ptr 0 0 0), (4, .ref 1 0 r4.length), (5, .ref 2 0 l12512.length), (7, .i .i64 k_12511), (8, .ref 3 0 l14802.length), (44, .i .i64 ((List.replicate (aI .i64 s.store_ 1).toNat 0).length : Int)), (45, .i .i64 x_14801), (46, .b (ltI x_14801 ((List.replicate (aI .i64 s.store_ 1).toNat 0).length : Int)))]) [some (7, [(pT23 s)]), some (1, rows cl_ci_i64o r4), some (1, rows ci_i64 l12512), some (1, rows ci_i64 l14802)] [] hC (VW.seq (VW.condJ h2 (fun h2 => ?_) (fun h2 => ?_))) (h := by simp -implicitDefEqProofs [min_fold]))
       · refine VW.exit ?_
         have e_ := leafR h2
         subst w_2
         exact vnext l14802 h1 (Ent.tu 4)
       refine VW.skip (VW.join (fun (v : List Int) => (⟨(tm 129 [(1, .ptr 0 0 0), (4, .ref 1 0 r4.length), (5, .ref 2 0 l12512.length), (7, .i .i64 k_12511), (8, .ref 3 0 v.length), (44, .i .i64 ((List.replicate (aI .i64 s.store_ 1).toNat 0).length : Int)), (45, .i .i64 x_14801)]), [some (7, [(pT23 s)]), some (1, rows cl_ci_i64o r4), some (1, rows ci_i64 l12512), some (1, rows ci_i64 v)], []⟩ : VS)) (fun v => (g18_j5 x_14801 (v)).bind (kN (g18_L2 s r4 k_12511 l12512) n_2) = some w_2) ?_ ?_)
       · refine VW.block (VW.seq (VW.rA (tm 129 [(1, .ptr 0 0 0), (4, .ref 1 0 r4.length), (5, .ref 2 0 l12512.length), (7, .i .i64 k_12511), (8, .ref 3 0 l14802.length), (9, .i .i64 x_14801), (44, .i .i64 ((List.replicate (aI .i64 s.store_ 1).toNat 0).length : Int)), (45, .i .i64 x_14801)]) [some (7, [(pT23 s)]), some (1, rows cl_ci_i64o r4), some (1, rows ci_i64 l12512), some (1, rows ci_i64 l14802)] [] hC (VW.seq (VW.seq ?_)) (h := by simp -implicitDefEqProofs [min_fold])))
         obtain ⟨e14907, ⟨f14908a, f14908b, f14908c, f14908d⟩, h2⟩ := bindI h2
         obtain ⟨e14909, ⟨f14910a, f14910b, f14910c, f14910d⟩, h2⟩ := bindI h2
         refine VW.rA (tm 129 [(1, .ptr 0 0 0), (4, .ref 1 0 r4.length), (5, .ref 2 0 l12512.length), (7, .i .i64 k_12511), (8, .ref 3 0 l14802.length), (9, .i .i64 x_14801), (44, .i .i64 ((List.replicate (aI .i64 s.store_ 1).toNat 0).length : Int)), (45, .i .i64 x_14801), (55, .b (eqI e14909 (-1)))]) [some (7, [(pT23 s)]), some (1, rows cl_ci_i64o r4), some (1, rows ci_i64 l12512), some (1, rows ci_i64 l14802)] [] hC (VW.condI h2 (fun h2 => ?_) (fun h2 => ?_)) (h := by simp -implicitDefEqProofs [f14908a, f14908b, f14908c, f14908d, f14910a, f14910b, f14910c, f14910d, min_fold])
         · exact VW.exit (vnext l14802 h2 (Ent.tu 4))
         refine VW.skip (VW.seq (VW.rA (tm 129 [(1, .ptr 0 0 0), (4, .ref 1 0 r4.length), (5, .ref 2 0 l12512.length), (7, .i .i64 k_12511), (8, .ref 3 0 l14802.length), (9, .i .i64 x_14801), (44, .i .i64 ((List.replicate (aI .i64 s.store_ 1).toNat 0).length : Int)), (45, .i .i64 x_14801), (58, .i .i64 (aI .i64 s.most_ 1)), (59, .i .i64 0)]) [some (7, [(pT23 s)]), some (1, rows cl_ci_i64o r4), some (1, rows ci_i64 l12512), some (1, rows ci_i64 l14802)] [] hC (VW.block ?_) (h := by simp -implicitDefEqProofs [min_fold])))
         obtain ⟨w_3, hw_3, h2⟩ := bindE h2
         refine VW.loopO (fun (x : Int × (List Int)) => (⟨(tm 129 [(1, .ptr 0 0 0), (4, .ref 1 0 r4.length), (5, .ref 2 0 l12512.length), (7, .i .i64 k_12511), (8, .ref 3 0 x.2.length), (9, .i .i64 x_14801), (44, .i .i64 ((List.replicate (aI .i64 s.store_ 1).toNat 0).length : Int)), (45, .i .i64 x_14801), (58, .i .i64 (aI .i64 s.most_ 1)), (59, .i .i64 x.1)]), [some (7, [(pT23 s)]), some (1, rows cl_ci_i64o r4), some (1, rows ci_i64 l12512), some (1, rows ci_i64 x.2)], []⟩ : VS)) hw_3 (Ent.tu 4) ?_
         rintro n_3 ⟨x_14976, l14977⟩ h3
         rw [g18_L3] at h3
         refine VW.seq (VW.rA (tm 129 [(1, .ptr 0 0 0), (4, .ref 1 0 r4.length), (5, .ref 2 0 l12512.length), (7, .i .i64 k_12511), (8, .ref 3 0 l14977.length), (9, .i .i64 x_14801), (44, .i .i64 ((List.replicate (aI .i64 s.store_ 1).toNat 0).length : Int)), (45, .i .i64 x_14801), (58, .i .i64 (aI .i64 s.most_ 1)), (59, .i .i64 x_14976), (60, .b (ltI x_14976 (aI .i64 s.most_ 1)))]) [some (7, [(pT23 s)]), some (1, rows cl_ci_i64o r4), some (1, rows ci_i64 l12512), some (1, rows ci_i64 l14977)] [] hC (VW.seq (VW.condJ h3 (fun h3 => ?_) (fun h3 => ?_))) (h := by simp -implicitDefEqProofs [min_fold]))
         · refine VW.exit ?_
           have e_ := leafR h3
           subst w_3
           exact vnext l14977 h2 (Ent.tu 4)
         refine VW.skip (VW.seq (VW.block (VW.seq (VW.rA (tm 129 [(1, .ptr 0 0 0), (4, .ref 1 0 r4.length), (5, .ref 2 0 l12512.length), (7, .i .i64 k_12511), (8, .ref 3 0 l14977.length), (9, .i .i64 x_14801), (10, .i .i64 x_14976), (44, .i .i64 ((List.replicate (aI .i64 s.store_ 1).toNat 0).length : Int)), (45, .i .i64 x_14801), (58, .i .i64 (aI .i64 s.most_ 1)), (59, .i .i64 x_14976)]) [some (7, [(pT23 s)]), some (1, rows cl_ci_i64o r4), some (1, rows ci_i64 l12512), some (1, rows ci_i64 l14977)] [] hC (VW.seq ?_) (h := by simp -implicitDefEqProofs [min_fold])))))
         obtain ⟨r14979, q14980, h3⟩ := bindE h3
         have c14980 : F37 [.agg (pT23 s), .i .i64 k_12511, .i .i64 x_14801, .i .i64 x_14976] = some (.tup [.i .i64 r14979.1, .b r14979.2]) := tells_eq inj37 (a := (s, k_12511, x_14801, x_14976)) q14980
         refine VW.rA (tm 129 [(1, .ptr 0 0 0), (4, .ref 1 0 r4.length), (5, .ref 2 0 l12512.length), (7, .i .i64 k_12511), (8, .ref 3 0 l14977.length), (9, .i .i64 x_14801), (10, .i .i64 x_14976), (11, .i .i64 r14979.1), (12, .b r14979.2), (44, .i .i64 ((List.replicate (aI .i64 s.store_ 1).toNat 0).length : Int)), (45, .i .i64 x_14801), (58, .i .i64 (aI .i64 s.most_ 1)), (59, .i .i64 x_14976)]) [some (7, [(pT23 s)]), some (1, rows cl_ci_i64o r4), some (1, rows ci_i64 l12512), some (1, rows ci_i64 l14977)] [] hC (VW.seq ?_) (h := by simp -implicitDefEqProofs [c14980, min_fold])
         obtain ⟨w14985, q15002, h3⟩ := bindE h3
         obtain ⟨w14996, q15003, h3⟩ := bindE h3
         refine VW.evalDA (tm 129 [(1, .ptr 0 0 0), (4, .ref 1 0 r4.length), (5, .ref 2 0 l12512.length), (7, .i .i64 k_12511), (8, .ref 3 0 l14977.length), (9, .i .i64 x_14801), (11, .i .i64 r14979.1), (44, .i .i64 ((List.replicate (aI .i64 s.store_ 1).toNat 0).length : Int)), (45, .i .i64 x_14801), (58, .i .i64 (aI .i64 s.most_ 1)), (59, .i .i64 x_14976), (107, .b w14996)]) [some (7, [(pT23 s)]), some (1, rows cl_ci_i64o r4), some (1, rows ci_i64 l12512), some (1, rows ci_i64 l14977)] [] hC mixed (by kernel_rfl) (by
             obtain ⟨q15004, q15002⟩ | ⟨q15004, rfl⟩ := gdT q15002
             · obtain ⟨e14981, q14982, q15002⟩ := bindQ q15002
               obtain ⟨f14982a, f14982b, f14982c, f14982d⟩ := idx_some q14982
               obtain ⟨e14983, q14984, q15002⟩ := bindQ q15002
               obtain ⟨f14984a, f14984b, f14984c, f14984d⟩ := idx_some q14984
               obtain rfl := Option.some.inj q15002
               obtain ⟨q15005, q15003⟩ | ⟨q15005, rfl⟩ := gdT q15003
               · obtain ⟨e14986, q14987, q15003⟩ := bindQ q15003
                 obtain ⟨f14987a, f14987b, f14987c, f14987d⟩ := idx_some q14987
                 obtain ⟨e14988, q14989, q15003⟩ := bindQ q15003
                 have d15006 : e14988 = e14981 := Option.some.inj (q14989.symm.trans q14982)
                 obtain ⟨e14990, q14991, q15003⟩ := bindQ q15003
                 have d15007 : e14990 = e14983 := by have t_ := q14991; simp only [d15006] at t_; exact Option.some.inj (t_.symm.trans q14984)
                 obtain ⟨e14992, q14993, q15003⟩ := bindQ q15003
                 obtain ⟨f14993a, f14993b, f14993c, f14993d⟩ := idx_some q14993
                 obtain ⟨e14994, q14995, q15003⟩ := bindQ q15003
                 obtain ⟨f14995a, f14995b, f14995c, f14995d⟩ := idx_some q14995
                 obtain rfl := Option.some.inj q15003
                 simp -implicitDefEqProofs [q15004, f14982a, f14982b, f14982c, f14982d, f14984a, f14984b, f14984c, f14984d, q15005, f14987a, f14987b, f14987c, f14987d, d15006, d15007, f14993a, f14993b, f14993c, f14993d, f14995a, f14995b, f14995c, f14995d, min_fold, pT23]
               simp -implicitDefEqProofs [q15004, f14982a, f14982b, f14982c, f14982d, f14984a, f14984b, f14984c, f14984d, q15005, min_fold, pT23]
             obtain ⟨q15008, q15003⟩ | ⟨q15008, rfl⟩ := gdT q15003
             · exact absurd q15008 (by simp)
             simp -implicitDefEqProofs [q15004, q15008, min_fold, pT23]) ?_
         refine VW.condJ h3 (fun h3 => ?_) (fun h3 => ?_)
         · exact VW.skip (VW.rA (tm 129 [(1, .ptr 0 0 0), (4, .ref 1 0 r4.length), (5, .ref 2 0 l12512.length), (7, .i .i64 k_12511), (8, .ref 3 0 l14977.length), (9, .i .i64 x_14801), (44, .i .i64 ((List.replicate (aI .i64 s.store_ 1).toNat 0).length : Int)), (45, .i .i64 x_14801), (58, .i .i64 (aI .i64 s.most_ 1)), (59, .i .i64 (aI .i64 x_14976 1))]) [some (7, [(pT23 s)]), some (1, rows cl_ci_i64o r4), some (1, rows ci_i64 l12512), some (1, rows ci_i64 l14977)] [] hC (vnext (aI .i64 x_14976 1, l14977) (leafL h3) (Ent.tu 4)) (h := by simp -implicitDefEqProofs [min_fold]))
         obtain ⟨e14998, ⟨f14999a, f14999b, f14999c, f14999d⟩, h3⟩ := bindI h3
         obtain ⟨e15000, ⟨f15001a, f15001b, f15001c, f15001d⟩, h3⟩ := bindI h3
         exact VW.evalDLA (tm 129 [(1, .ptr 0 0 0), (4, .ref 1 0 r4.length), (5, .ref 2 0 l12512.length), (7, .i .i64 k_12511), (8, .ref 3 0 (l14977.set x_14801.toNat (minI (aI .i64 e14998 e15000) 1000000000)).length), (9, .i .i64 x_14801), (44, .i .i64 ((List.replicate (aI .i64 s.store_ 1).toNat 0).length : Int)), (45, .i .i64 x_14801), (58, .i .i64 (aI .i64 s.most_ 1)), (59, .i .i64 x_14976)]) [some (7, [(pT23 s)]), some (1, rows cl_ci_i64o r4), some (1, rows ci_i64 l12512), some (1, rows ci_i64 (l14977.set x_14801.toNat (minI (aI .i64 e14998 e15000) 1000000000)))] [] hC mixed (by kernel_rfl) (by simp -implicitDefEqProofs [f14999a, f14999b, f14999c, f14999d, f15001a, f15001b, f15001c, f15001d, min_fold]) (VW.rA (tm 129 [(1, .ptr 0 0 0), (4, .ref 1 0 r4.length), (5, .ref 2 0 l12512.length), (7, .i .i64 k_12511), (8, .ref 3 0 (l14977.set x_14801.toNat (minI (aI .i64 e14998 e15000) 1000000000)).length), (9, .i .i64 x_14801), (44, .i .i64 ((List.replicate (aI .i64 s.store_ 1).toNat 0).length : Int)), (45, .i .i64 x_14801), (58, .i .i64 (aI .i64 s.most_ 1)), (59, .i .i64 (aI .i64 x_14976 1))]) [some (7, [(pT23 s)]), some (1, rows cl_ci_i64o r4), some (1, rows ci_i64 l12512), some (1, rows ci_i64 (l14977.set x_14801.toNat (minI (aI .i64 e14998 e15000) 1000000000)))] [] hC (vnext (aI .i64 x_14976 1, (l14977.set x_14801.toNat (minI (aI .i64 e14998 e15000) 1000000000))) (leafL h3) (Ent.tu 4)) (h := by simp -implicitDefEqProofs [min_fold]))
       rintro l14906 h2
       replace h2 : (g18_j5 x_14801 l14906).bind _ = _ := h2
       rw [g18_j5] at h2
       exact VW.rA (tm 129 [(1, .ptr 0 0 0), (4, .ref 1 0 r4.length), (5, .ref 2 0 l12512.length), (7, .i .i64 k_12511), (8, .ref 3 0 l14906.length), (44, .i .i64 ((List.replicate (aI .i64 s.store_ 1).toNat 0).length : Int)), (45, .i .i64 (aI .i64 x_14801 1))]) [some (7, [(pT23 s)]), some (1, rows cl_ci_i64o r4), some (1, rows ci_i64 l12512), some (1, rows ci_i64 l14906)] [] hC (vnext (aI .i64 x_14801 1, l14906) (leafL h2) (Ent.tu 4))
     rintro l14386 h1
     replace h1 : (g18_j4 k_12511 l14386).bind _ = _ := h1
     rw [g18_j4] at h1
     exact VW.rA (tm 129 [(1, .ptr 0 0 0), (4, .ref 1 0 r4.length), (5, .ref 3 0 l14386.length), (7, .i .i64 k_12511)]) [some (7, [(pT23 s)]), some (1, rows cl_ci_i64o r4), some (1, rows ci_i64 l12512), some (1, rows ci_i64 l14386)] [] hC (vnext l14386 h1 (Ent.tu 4))
   rintro l13761 h1
   replace h1 : (g18_j3 k_12511 l13761).bind _ = _ := h1
   rw [g18_j3] at h1
   exact VW.rA (tm 129 [(1, .ptr 0 0 0), (4, .ref 1 0 r4.length), (5, .ref 3 0 l13761.length), (7, .i .i64 (sI .i64 k_12511 1))]) [some (7, [(pT23 s)]), some (1, rows cl_ci_i64o r4), some (1, rows ci_i64 l12512), some (1, rows ci_i64 l13761)] [] hC (vnext (sI .i64 k_12511 1, l13761) (leafL h1) (Ent.trans (Ent.le (t' := (tm 129 [(1, .ptr 0 0 0), (4, .ref 1 0 r4.length), (5, .ref 3 0 l13761.length), (7, .i .i64 (sI .i64 k_12511 1))])) (by simp)) (Ent.trans (Ent.mv (m := [some (7, [(pT23 s)]), some (1, rows cl_ci_i64o r4), some (1, rows ci_i64 l12512), some (1, rows ci_i64 l13761)]) (t' := (tm 129 [(1, .ptr 0 0 0), (4, .ref 1 0 r4.length), (5, .ref 2 0 l13761.length), (7, .i .i64 (sI .i64 k_12511 1))])) 2 3 1 (rows ci_i64 l13761) [some (7, [(pT23 s)]), some (1, rows cl_ci_i64o r4), some (1, rows ci_i64 l13761), none] (by decide) (by simp) rfl (by simp) (by simp [mv1]) (by simp) (by simp) (by simp) (by simp) (by simp)) (Ent.tu 3))))
 rintro l7514 h
 replace h : (g18_j2 s l7514).bind _ = _ := h
 rw [g18_j2] at h
 refine VW.seq ?_
 obtain ⟨e7515, ⟨f7516a, f7516b, f7516c, f7516d⟩, h⟩ := bindI h
 refine VW.rA (tm 129 [(2, .i .i64 e7515), (3, .i .i64 0)]) [some (7, [(pT23 s)]), some (1, rows cl_ci_i64o r4), some (1, rows ci_i64 l7514)] [] hC ?_ (h := by simp -implicitDefEqProofs [f7516a, f7516b, f7516c, f7516d])
 obtain rfl := leafS h
 exact VW.ret (VRet.fin (by simp [eB18]))
theorem tl18 {s : T23} {r : Int × Int} (h : g18 s = some r) : F18 [.agg [.sl 1 (rows ci_i64 s.need_), .sl 1 (rows ci_i64 s.price_), .i .i64 s.most_, .i .i64 s.yield_, .i .i64 s.store_, .i .i64 s.first_, .i .i64 s.loss_]] = some (.tup [.i .i64 r.1, .i .i64 r.2]) := tells_eq inj18 (a := s) h
noncomputable def g39_j1 : Option (Bool) :=
some true
noncomputable def g39_L1 (a : List Int) (b : List Int) : (Int) → Option ((Int) ⊕ ((Unit) ⊕ (Bool)))
| i_35 =>
if ltI i_35 (a.length : Int) = true then
(idx a i_35).bind fun e37 =>
(idx b i_35).bind fun e39 =>
if (!eqI e37 e39) = true then
some (.inr (.inr false))
else
some (.inl (aI .i64 i_35 1))
else
some (.inr (.inl ()))
noncomputable def g39 (a : List Int) (b : List Int) : Option (Bool) :=
if (!eqI (a.length : Int) (b.length : Int)) = true then
some false
else
(loopO (g39_L1 a b) 0).bind fun w => match w with
| .inl y => g39_j1
| .inr r => some r
def eA39 (a : (List Int) × (List Int)) : List V := [.sl 1 (rows ci_i64 a.1), .sl 1 (rows ci_i64 a.2)]
def eB39 (r : Bool) : V := .b r
theorem inj39 (a a' : (List Int) × (List Int)) (h : eA39 a = eA39 a') : a = a' := by
  obtain ⟨i229, i230⟩ := a
  obtain ⟨i231, i232⟩ := a'
  simp only [eA39, List.cons.injEq, V.i.injEq, V.b.injEq, V.f.injEq, V.str.injEq, V.sl.injEq, V.agg.injEq, V.cptr.injEq, true_and, and_true] at h
  simp_all [ri ci_i64_inj]
noncomputable def F39 : List V → Option V := tells (fun a => g39 a.1 a.2) eA39 eB39
/- loop.example/g01229/spec.l00Same -/
theorem ok39 : Tells Try.prog 39 F39 := by
 refine Tells.go 26 Try.func39 rfl rfl rfl (by kernel_rfl) (fun _ => rfl) ?_
 rintro ⟨a, b⟩ r h
 simp only [eA39, en, Nat.reduceAdd]
 replace h : (g39 a b).bind some = some r := bindS h
 rw [g39] at h
 have hC : CEnv.Ok Try.prog [] := trivial
 refine VW.seq (VW.rA (tm 26 [(0, .sl 1 (rows ci_i64 a)), (1, .sl 1 (rows ci_i64 b))]) [] [] hC (VW.seq (VW.seq (VW.rA (tm 26 [(0, .sl 1 (rows ci_i64 a)), (1, .sl 1 (rows ci_i64 b)), (10, .b (!eqI (a.length : Int) (b.length : Int)))]) [] [] hC (VW.condI h (fun h => ?_) (fun h => ?_))))))
 · refine VW.seq (VW.rA (tm 26 [(4, .b false)]) [] [] hC ?_)
   obtain rfl := leafS h
   exact VW.ret (VRet.fin (by simp [eB39]))
 refine VW.skip (VW.join (fun (v : Unit) => (⟨(tm 26 []), [], []⟩ : VS)) (fun v => (g39_j1).bind some = some r) ?_ ?_)
 · refine VW.seq (VW.rA (tm 26 [(0, .sl 1 (rows ci_i64 a)), (1, .sl 1 (rows ci_i64 b)), (5, .i .i64 0)]) [] [] hC (VW.block ?_))
   obtain ⟨w_1, hw_1, h⟩ := bindE h
   refine VW.loopO (fun (x : Int) => (⟨(tm 26 [(0, .sl 1 (rows ci_i64 a)), (1, .sl 1 (rows ci_i64 b)), (5, .i .i64 x)]), [], []⟩ : VS)) hw_1 (Ent.tu 0) ?_
   rintro n_1 i_35 h1
   rw [g39_L1] at h1
   refine VW.seq (VW.seq (VW.rA (tm 26 [(0, .sl 1 (rows ci_i64 a)), (1, .sl 1 (rows ci_i64 b)), (5, .i .i64 i_35), (14, .b (ltI i_35 (a.length : Int)))]) [] [] hC (VW.condJ h1 (fun h1 => ?_) (fun h1 => ?_))))
   · refine VW.exit ?_
     have e_ := leafR h1
     subst w_1
     exact vnext () h (Ent.tu 0)
   refine VW.skip (VW.seq (VW.block (VW.seq ?_)))
   obtain ⟨e37, ⟨f38a, f38b, f38c, f38d⟩, h1⟩ := bindI h1
   obtain ⟨e39, ⟨f40a, f40b, f40c, f40d⟩, h1⟩ := bindI h1
   refine VW.rD (tm 26 [(0, .sl 1 (rows ci_i64 a)), (1, .sl 1 (rows ci_i64 b)), (5, .i .i64 i_35), (25, .b (!eqI e37 e39))]) [] [] hC mixed (VW.condI h1 (fun h1 => ?_) (fun h1 => ?_)) (h := by simp -implicitDefEqProofs [f38a, f38b, f38c, f38d, f40a, f40b, f40c, f40d])
   · refine VW.seq (VW.rA (tm 26 [(4, .b false)]) [] [] hC ?_)
     have e_ := leafR h1
     subst w_1
     obtain rfl := leafS h
     exact VW.ret (VRet.fin (by simp [eB39]))
   exact VW.skip (VW.rA (tm 26 [(0, .sl 1 (rows ci_i64 a)), (1, .sl 1 (rows ci_i64 b)), (5, .i .i64 (aI .i64 i_35 1))]) [] [] hC (vnext (aI .i64 i_35 1) (leafL h1) (Ent.tu 0)))
 rintro _ h
 replace h : (g39_j1).bind _ = _ := h
 rw [g39_j1] at h
 refine VW.seq (VW.rA (tm 26 [(4, .b true)]) [] [] hC ?_)
 obtain rfl := leafS h
 exact VW.ret (VRet.fin (by simp [eB39]))
theorem tl39 {a : List Int} {b : List Int} {r : Bool} (h : g39 a b = some r) : F39 [.sl 1 (rows ci_i64 a), .sl 1 (rows ci_i64 b)] = some (.b r) := tells_eq inj39 (a := (a, b)) h
noncomputable def g19_j1 : Option (Bool) :=
some true
noncomputable def g19_L1 (a : List (List Int)) (b : List (List Int)) : (Int) → Option ((Int) ⊕ ((Unit) ⊕ (Bool)))
| i_45 =>
if ltI i_45 (a.length : Int) = true then
(idx a i_45).bind fun e47 =>
(idx b i_45).bind fun e49 =>
(g39 e47 e49).bind fun r51 =>
if (!r51) = true then
some (.inr (.inr false))
else
some (.inl (aI .i64 i_45 1))
else
some (.inr (.inl ()))
noncomputable def g19 (a : List (List Int)) (b : List (List Int)) : Option (Bool) :=
if (!eqI (a.length : Int) (b.length : Int)) = true then
some false
else
(loopO (g19_L1 a b) 0).bind fun w => match w with
| .inl y => g19_j1
| .inr r => some r
def eA19 (a : (List (List Int)) × (List (List Int))) : List V := [.sl 1 (rows cl_ci_i64 a.1), .sl 1 (rows cl_ci_i64 a.2)]
def eB19 (r : Bool) : V := .b r
theorem inj19 (a a' : (List (List Int)) × (List (List Int))) (h : eA19 a = eA19 a') : a = a' := by
  obtain ⟨i233, i234⟩ := a
  obtain ⟨i235, i236⟩ := a'
  simp only [eA19, List.cons.injEq, V.i.injEq, V.b.injEq, V.f.injEq, V.str.injEq, V.sl.injEq, V.agg.injEq, V.cptr.injEq, true_and, and_true] at h
  simp_all [ri cl_ci_i64_inj]
noncomputable def F19 : List V → Option V := tells (fun a => g19 a.1 a.2) eA19 eB19
/- loop.example/g01229/spec.A2SameTable -/
theorem ok19 : Tells Try.prog 19 F19 := by
 refine Tells.go 27 Try.func19 rfl rfl rfl (by kernel_rfl) (fun _ => rfl) ?_
 rintro ⟨a, b⟩ r h
 simp only [eA19, en, Nat.reduceAdd]
 replace h : (g19 a b).bind some = some r := bindS h
 rw [g19] at h
 have hC : CEnv.Ok Try.prog [(39, F39)] := ⟨.inl ok39, trivial⟩
 refine VW.seq (VW.rA (tm 27 [(0, .sl 1 (rows cl_ci_i64 a)), (1, .sl 1 (rows cl_ci_i64 b))]) [] [] hC (VW.seq (VW.seq (VW.rA (tm 27 [(0, .sl 1 (rows cl_ci_i64 a)), (1, .sl 1 (rows cl_ci_i64 b)), (10, .b (!eqI (a.length : Int) (b.length : Int)))]) [] [] hC (VW.condI h (fun h => ?_) (fun h => ?_))))))
 · refine VW.seq (VW.rA (tm 27 [(4, .b false)]) [] [] hC ?_)
   obtain rfl := leafS h
   exact VW.ret (VRet.fin (by simp [eB19]))
 refine VW.skip (VW.join (fun (v : Unit) => (⟨(tm 27 []), [], []⟩ : VS)) (fun v => (g19_j1).bind some = some r) ?_ ?_)
 · refine VW.seq (VW.rA (tm 27 [(0, .sl 1 (rows cl_ci_i64 a)), (1, .sl 1 (rows cl_ci_i64 b)), (5, .i .i64 0)]) [] [] hC (VW.block ?_))
   obtain ⟨w_1, hw_1, h⟩ := bindE h
   refine VW.loopO (fun (x : Int) => (⟨(tm 27 [(0, .sl 1 (rows cl_ci_i64 a)), (1, .sl 1 (rows cl_ci_i64 b)), (5, .i .i64 x)]), [], []⟩ : VS)) hw_1 (Ent.tu 0) ?_
   rintro n_1 i_45 h1
   rw [g19_L1] at h1
   refine VW.seq (VW.seq (VW.rA (tm 27 [(0, .sl 1 (rows cl_ci_i64 a)), (1, .sl 1 (rows cl_ci_i64 b)), (5, .i .i64 i_45), (14, .b (ltI i_45 (a.length : Int)))]) [] [] hC (VW.condJ h1 (fun h1 => ?_) (fun h1 => ?_))))
   · refine VW.exit ?_
     have e_ := leafR h1
     subst w_1
     exact vnext () h (Ent.tu 0)
   refine VW.skip (VW.seq (VW.block (VW.seq ?_)))
   obtain ⟨e47, ⟨f48a, f48b, f48c, f48d⟩, h1⟩ := bindI h1
   obtain ⟨e49, ⟨f50a, f50b, f50c, f50d⟩, h1⟩ := bindI h1
   obtain ⟨r51, q52, h1⟩ := bindE h1
   have c52 := tl39 q52
   refine VW.rD (tm 27 [(0, .sl 1 (rows cl_ci_i64 a)), (1, .sl 1 (rows cl_ci_i64 b)), (5, .i .i64 i_45), (26, .b (!r51))]) [] [] hC mixed (VW.condI h1 (fun h1 => ?_) (fun h1 => ?_)) (h := by simp -implicitDefEqProofs [f48a, f48b, f48c, f48d, f50a, f50b, f50c, f50d, c52])
   · refine VW.seq (VW.rA (tm 27 [(4, .b false)]) [] [] hC ?_)
     have e_ := leafR h1
     subst w_1
     obtain rfl := leafS h
     exact VW.ret (VRet.fin (by simp [eB19]))
   exact VW.skip (VW.rA (tm 27 [(0, .sl 1 (rows cl_ci_i64 a)), (1, .sl 1 (rows cl_ci_i64 b)), (5, .i .i64 (aI .i64 i_45 1))]) [] [] hC (vnext (aI .i64 i_45 1) (leafL h1) (Ent.tu 0)))
 rintro _ h
 replace h : (g19_j1).bind _ = _ := h
 rw [g19_j1] at h
 refine VW.seq (VW.rA (tm 27 [(4, .b true)]) [] [] hC ?_)
 obtain rfl := leafS h
 exact VW.ret (VRet.fin (by simp [eB19]))
theorem tl19 {a : List (List Int)} {b : List (List Int)} {r : Bool} (h : g19 a b = some r) : F19 [.sl 1 (rows cl_ci_i64 a), .sl 1 (rows cl_ci_i64 b)] = some (.b r) := tells_eq inj19 (a := (a, b)) h
noncomputable def g20 (a : List Int) (b : List Int) : Option (Bool) :=
(g39 a b).bind fun r1 =>
some r1
def eA20 (a : (List Int) × (List Int)) : List V := [.sl 1 (rows ci_i64 a.1), .sl 1 (rows ci_i64 a.2)]
def eB20 (r : Bool) : V := .b r
theorem inj20 (a a' : (List Int) × (List Int)) (h : eA20 a = eA20 a') : a = a' := by
  obtain ⟨i237, i238⟩ := a
  obtain ⟨i239, i240⟩ := a'
  simp only [eA20, List.cons.injEq, V.i.injEq, V.b.injEq, V.f.injEq, V.str.injEq, V.sl.injEq, V.agg.injEq, V.cptr.injEq, true_and, and_true] at h
  simp_all [ri ci_i64_inj]
noncomputable def F20 : List V → Option V := tells (fun a => g20 a.1 a.2) eA20 eB20
/- loop.example/g01229/spec.A2Same -/
theorem ok20 : Tells Try.prog 20 F20 := by
 refine Tells.go 8 Try.func20 rfl rfl rfl (by kernel_rfl) (fun _ => rfl) ?_
 rintro ⟨a, b⟩ r h
 simp only [eA20, en, Nat.reduceAdd]
 replace h : (g20 a b).bind some = some r := bindS h
 rw [g20] at h
 have hC : CEnv.Ok Try.prog [(39, F39)] := ⟨.inl ok39, trivial⟩
 refine VW.seq (VW.rA (tm 8 [(0, .sl 1 (rows ci_i64 a)), (1, .sl 1 (rows ci_i64 b))]) [] [] hC (VW.seq ?_))
 obtain ⟨r1, q2, h⟩ := bindE h
 have c2 := tl39 q2
 refine VW.rA (tm 8 [(4, .b r1)]) [] [] hC ?_ (h := by simp -implicitDefEqProofs [c2])
 obtain rfl := leafS h
 exact VW.ret (VRet.fin (by simp [eB20]))
theorem tl20 {a : List Int} {b : List Int} {r : Bool} (h : g20 a b = some r) : F20 [.sl 1 (rows ci_i64 a), .sl 1 (rows ci_i64 b)] = some (.b r) := tells_eq inj20 (a := (a, b)) h
noncomputable def g40_j1 : Option (Bool) :=
some true
noncomputable def g40_j2 (x_180 : Int) : Option ((Int) ⊕ ((Unit) ⊕ (Bool))) :=
some (.inl (aI .i64 x_180 1))
noncomputable def g40_L2 (e199 : List Int) (x_180 : Int) (s : T23) : (Int) → Option ((Int) ⊕ ((Unit) ⊕ ((Int) ⊕ ((Unit) ⊕ (Bool)))))
| x_211 =>
if ltI x_211 (e199.length : Int) = true then
(idx e199 x_211).bind fun e213 =>
if (ltI e213 (-1) || (eqI x_180 (s.need_.length : Int) && (!eqI e213 0))) = true then
some (.inr (.inr (.inr (.inr false))))
else
some (.inl (aI .i64 x_211 1))
else
some (.inr (.inl ()))
noncomputable def g40_L1 (table : List (List Int)) (s : T23) : (Int) → Option ((Int) ⊕ ((Unit) ⊕ (Bool)))
| x_180 =>
if ltI x_180 (table.length : Int) = true then
(idx table x_180).bind fun e199 =>
if (!eqI (e199.length : Int) (aI .i64 s.store_ 1)) = true then
some (.inr (.inr false))
else
(loopO (g40_L2 e199 x_180 s) 0).bind fun w => match w with
| .inl y => g40_j2 x_180
| .inr r => some r
else
some (.inr (.inl ()))
noncomputable def g40 (s : T23) (table : List (List Int)) : Option (Bool) :=
if (!eqI (table.length : Int) (aI .i64 (s.need_.length : Int) 1)) = true then
some false
else
(loopO (g40_L1 table s) 0).bind fun w => match w with
| .inl y => g40_j1
| .inr r => some r
def eA40 (a : T23 × (List (List Int))) : List V := [.agg (pT23 a.1), .sl 1 (rows cl_ci_i64 a.2)]
def eB40 (r : Bool) : V := .b r
theorem inj40 (a a' : T23 × (List (List Int))) (h : eA40 a = eA40 a') : a = a' := by
  obtain ⟨⟨i241, i242, i243, i244, i245, i246, i247⟩, i248⟩ := a
  obtain ⟨⟨i249, i250, i251, i252, i253, i254, i255⟩, i256⟩ := a'
  simp only [eA40, pT23, List.cons.injEq, V.i.injEq, V.b.injEq, V.f.injEq, V.str.injEq, V.sl.injEq, V.agg.injEq, V.cptr.injEq, true_and, and_true] at h
  simp_all [ri ci_i64_inj, ri cl_ci_i64_inj]
noncomputable def F40 : List V → Option V := tells (fun a => g40 a.1 a.2) eA40 eB40
/- loop.example/g01229/impl.isTable -/
theorem ok40 : Tells Try.prog 40 F40 := by
 refine Tells.go 50 Try.func40 rfl rfl rfl (by kernel_rfl) (fun _ => rfl) ?_
 rintro ⟨s, table⟩ r h
 simp only [eA40, en, Nat.reduceAdd]
 replace h : (g40 s table).bind some = some r := bindS h
 rw [g40] at h
 have hC : CEnv.Ok Try.prog [] := trivial
 refine VW.seq (VW.rA (tm 50 [(1, .sl 1 (rows cl_ci_i64 table)), (2, .ptr 0 0 0)]) [some (7, [(pT23 s)])] [] hC (VW.seq (VW.rA (tm 50 [(1, .sl 1 (rows cl_ci_i64 table)), (2, .ptr 0 0 0), (5, .i .i64 (s.need_.length : Int))]) [some (7, [(pT23 s)])] [] hC (VW.seq (VW.seq (VW.rA (tm 50 [(1, .sl 1 (rows cl_ci_i64 table)), (2, .ptr 0 0 0), (5, .i .i64 (s.need_.length : Int)), (17, .b (!eqI (table.length : Int) (aI .i64 (s.need_.length : Int) 1)))]) [some (7, [(pT23 s)])] [] hC (VW.condI h (fun h => ?_) (fun h => ?_))))))))
 · refine VW.seq (VW.rA (tm 50 [(4, .b false)]) [some (7, [(pT23 s)])] [] hC ?_)
   obtain rfl := leafS h
   exact VW.ret (VRet.fin (by simp [eB40]))
 refine VW.skip (VW.join (fun (v : Unit) => (⟨(tm 50 []), [some (7, [(pT23 s)])], []⟩ : VS)) (fun v => (g40_j1).bind some = some r) ?_ ?_)
 · refine VW.seq (VW.rA (tm 50 [(2, .ptr 0 0 0), (5, .i .i64 (s.need_.length : Int)), (18, .sl 1 (rows cl_ci_i64 table)), (19, .i .i64 (table.length : Int)), (20, .i .i64 0)]) [some (7, [(pT23 s)])] [] hC (VW.block ?_))
   obtain ⟨w_1, hw_1, h⟩ := bindE h
   refine VW.loopO (fun (x : Int) => (⟨(tm 50 [(2, .ptr 0 0 0), (5, .i .i64 (s.need_.length : Int)), (18, .sl 1 (rows cl_ci_i64 table)), (19, .i .i64 (table.length : Int)), (20, .i .i64 x)]), [some (7, [(pT23 s)])], []⟩ : VS)) hw_1 (Ent.tu 1) ?_
   rintro n_1 x_180 h1
   rw [g40_L1] at h1
   refine VW.seq (VW.rA (tm 50 [(2, .ptr 0 0 0), (5, .i .i64 (s.need_.length : Int)), (18, .sl 1 (rows cl_ci_i64 table)), (19, .i .i64 (table.length : Int)), (20, .i .i64 x_180), (21, .b (ltI x_180 (table.length : Int)))]) [some (7, [(pT23 s)])] [] hC (VW.seq (VW.condJ h1 (fun h1 => ?_) (fun h1 => ?_))))
   · refine VW.exit ?_
     have e_ := leafR h1
     subst w_1
     exact vnext () h (Ent.tu 1)
   refine VW.skip (VW.join (fun (v : Unit) => (⟨(tm 50 [(2, .ptr 0 0 0), (5, .i .i64 (s.need_.length : Int)), (18, .sl 1 (rows cl_ci_i64 table)), (19, .i .i64 (table.length : Int)), (20, .i .i64 x_180)]), [some (7, [(pT23 s)])], []⟩ : VS)) (fun v => (g40_j2 x_180).bind (kN (g40_L1 table s) n_1) = some w_1) ?_ ?_)
   · refine VW.block (VW.seq ?_)
     obtain ⟨e199, ⟨f200a, f200b, f200c, f200d⟩, h1⟩ := bindI h1
     refine VW.rA (tm 50 [(2, .ptr 0 0 0), (5, .i .i64 (s.need_.length : Int)), (6, .i .i64 x_180), (7, .sl 1 (rows ci_i64 e199)), (18, .sl 1 (rows cl_ci_i64 table)), (19, .i .i64 (table.length : Int)), (20, .i .i64 x_180)]) [some (7, [(pT23 s)])] [] hC (VW.seq (VW.seq (VW.rA (tm 50 [(2, .ptr 0 0 0), (5, .i .i64 (s.need_.length : Int)), (6, .i .i64 x_180), (7, .sl 1 (rows ci_i64 e199)), (18, .sl 1 (rows cl_ci_i64 table)), (19, .i .i64 (table.length : Int)), (20, .i .i64 x_180), (30, .b (!eqI (e199.length : Int) (aI .i64 s.store_ 1)))]) [some (7, [(pT23 s)])] [] hC (VW.condI h1 (fun h1 => ?_) (fun h1 => ?_))))) (h := by simp -implicitDefEqProofs [f200a, f200b, f200c, f200d])
     · refine VW.seq (VW.rA (tm 50 [(4, .b false)]) [some (7, [(pT23 s)])] [] hC ?_)
       have e_ := leafR h1
       subst w_1
       obtain rfl := leafS h
       exact VW.ret (VRet.fin (by simp [eB40]))
     refine VW.skip (VW.seq (VW.rA (tm 50 [(2, .ptr 0 0 0), (5, .i .i64 (s.need_.length : Int)), (6, .i .i64 x_180), (18, .sl 1 (rows cl_ci_i64 table)), (19, .i .i64 (table.length : Int)), (20, .i .i64 x_180), (31, .sl 1 (rows ci_i64 e199)), (32, .i .i64 (e199.length : Int)), (33, .i .i64 0)]) [some (7, [(pT23 s)])] [] hC (VW.block ?_)))
     obtain ⟨w_2, hw_2, h1⟩ := bindE h1
     refine VW.loopO (fun (x : Int) => (⟨(tm 50 [(2, .ptr 0 0 0), (5, .i .i64 (s.need_.length : Int)), (6, .i .i64 x_180), (18, .sl 1 (rows cl_ci_i64 table)), (19, .i .i64 (table.length : Int)), (20, .i .i64 x_180), (31, .sl 1 (rows ci_i64 e199)), (32, .i .i64 (e199.length : Int)), (33, .i .i64 x)]), [some (7, [(pT23 s)])], []⟩ : VS)) hw_2 (Ent.tu 1) ?_
     rintro n_2 x_211 h2
     rw [g40_L2] at h2
     refine VW.seq (VW.rA (tm 50 [(2, .ptr 0 0 0), (5, .i .i64 (s.need_.length : Int)), (6, .i .i64 x_180), (18, .sl 1 (rows cl_ci_i64 table)), (19, .i .i64 (table.length : Int)), (20, .i .i64 x_180), (31, .sl 1 (rows ci_i64 e199)), (32, .i .i64 (e199.length : Int)), (33, .i .i64 x_211), (34, .b (ltI x_211 (e199.length : Int)))]) [some (7, [(pT23 s)])] [] hC (VW.seq (VW.condJ h2 (fun h2 => ?_) (fun h2 => ?_))))
     · refine VW.exit ?_
       have e_ := leafR h2
       subst w_2
       exact vnext () h1 (Ent.tu 1)
     refine VW.skip (VW.seq (VW.block (VW.seq ?_)))
     obtain ⟨e213, ⟨f214a, f214b, f214c, f214d⟩, h2⟩ := bindI h2
     refine VW.rA (tm 50 [(2, .ptr 0 0 0), (5, .i .i64 (s.need_.length : Int)), (6, .i .i64 x_180), (9, .i .i64 e213), (18, .sl 1 (rows cl_ci_i64 table)), (19, .i .i64 (table.length : Int)), (20, .i .i64 x_180), (31, .sl 1 (rows ci_i64 e199)), (32, .i .i64 (e199.length : Int)), (33, .i .i64 x_211)]) [some (7, [(pT23 s)])] [] hC (VW.seq (VW.rA (tm 50 [(2, .ptr 0 0 0), (5, .i .i64 (s.need_.length : Int)), (6, .i .i64 x_180), (18, .sl 1 (rows cl_ci_i64 table)), (19, .i .i64 (table.length : Int)), (20, .i .i64 x_180), (31, .sl 1 (rows ci_i64 e199)), (32, .i .i64 (e199.length : Int)), (33, .i .i64 x_211), (47, .b (ltI e213 (-1) || (eqI x_180 (s.need_.length : Int) && (!eqI e213 0))))]) [some (7, [(pT23 s)])] [] hC (VW.condI h2 (fun h2 => ?_) (fun h2 => ?_)))) (h := by simp -implicitDefEqProofs [f214a, f214b, f214c, f214d])
     · refine VW.seq (VW.rA (tm 50 [(4, .b false)]) [some (7, [(pT23 s)])] [] hC ?_)
       have e_ := leafR h2
       subst w_2
       have e_ := leafR h1
       subst w_1
       obtain rfl := leafS h
       exact VW.ret (VRet.fin (by simp [eB40]))
     exact VW.skip (VW.rA (tm 50 [(2, .ptr 0 0 0), (5, .i .i64 (s.need_.length : Int)), (6, .i .i64 x_180), (18, .sl 1 (rows cl_ci_i64 table)), (19, .i .i64 (table.length : Int)), (20, .i .i64 x_180), (31, .sl 1 (rows ci_i64 e199)), (32, .i .i64 (e199.length : Int)), (33, .i .i64 (aI .i64 x_211 1))]) [some (7, [(pT23 s)])] [] hC (vnext (aI .i64 x_211 1) (leafL h2) (Ent.tu 1)))
   rintro _ h1
   replace h1 : (g40_j2 x_180).bind _ = _ := h1
   rw [g40_j2] at h1
   exact VW.rA (tm 50 [(2, .ptr 0 0 0), (5, .i .i64 (s.need_.length : Int)), (18, .sl 1 (rows cl_ci_i64 table)), (19, .i .i64 (table.length : Int)), (20, .i .i64 (aI .i64 x_180 1))]) [some (7, [(pT23 s)])] [] hC (vnext (aI .i64 x_180 1) (leafL h1) (Ent.tu 1))
 rintro _ h
 replace h : (g40_j1).bind _ = _ := h
 rw [g40_j1] at h
 refine VW.seq (VW.rA (tm 50 [(4, .b true)]) [some (7, [(pT23 s)])] [] hC ?_)
 obtain rfl := leafS h
 exact VW.ret (VRet.fin (by simp [eB40]))
theorem tl40 {s : T23} {table : List (List Int)} {r : Bool} (h : g40 s table = some r) : F40 [.agg [.sl 1 (rows ci_i64 s.need_), .sl 1 (rows ci_i64 s.price_), .i .i64 s.most_, .i .i64 s.yield_, .i .i64 s.store_, .i .i64 s.first_, .i .i64 s.loss_], .sl 1 (rows cl_ci_i64 table)] = some (.b r) := tells_eq inj40 (a := (s, table)) h
noncomputable def g41_j1 : Option (Int × Int × Int × Bool) :=
some (0, 0, 0, false)
noncomputable def g41_j2 (x_3379 : Int) : Option ((Int) ⊕ ((Unit) ⊕ (Int × Int × Int × Bool))) :=
some (.inl (aI .i64 x_3379 1))
noncomputable def g41_j3 (x_3943 : Int) : Option ((Int) ⊕ ((Unit) ⊕ ((Int) ⊕ ((Unit) ⊕ (Int × Int × Int × Bool))))) :=
some (.inl (aI .i64 x_3943 1))
noncomputable def g41_L3 (s : T23) (x_3379 : Int) (x_3943 : Int) (table : List (List Int)) (e4000 : Int) : (Int) → Option ((Int) ⊕ ((Unit) ⊕ ((Int) ⊕ ((Unit) ⊕ ((Int) ⊕ ((Unit) ⊕ (Int × Int × Int × Bool)))))))
| x_4037 =>
if ltI x_4037 (aI .i64 s.most_ 1) = true then
(g37 s x_3379 x_3943 x_4037).bind fun r4039 =>
if (!r4039.2) = true then
some (.inl (aI .i64 x_4037 1))
else
(idx table (aI .i64 x_3379 1)).bind fun e4042 =>
(idx e4042 r4039.1).bind fun e4044 =>
(if (eqI e4000 (-1) && (!eqI e4044 (-1))) = true then some true else (if (((!eqI e4000 (-1)) && (!eqI e4044 (-1))) && ltI e4044 e4000) = true then (idx s.price_ x_3379).bind fun e4046 => some (ltI (mI .i64 e4046 x_4037) (sI .i64 e4000 e4044)) else some false).bind fun w4048 => some w4048).bind fun w4049 =>
if w4049 = true then
some (.inr (.inr (.inr (.inr (.inr (.inr (x_3379, x_3943, x_4037, true)))))))
else
some (.inl (aI .i64 x_4037 1))
else
some (.inr (.inl ()))
noncomputable def g41_L2 (e3718 : List Int) (s : T23) (x_3379 : Int) (table : List (List Int)) : (Int) → Option ((Int) ⊕ ((Unit) ⊕ ((Int) ⊕ ((Unit) ⊕ (Int × Int × Int × Bool)))))
| x_3943 =>
if ltI x_3943 (e3718.length : Int) = true then
(idx e3718 x_3943).bind fun e4000 =>
(loopO (g41_L3 s x_3379 x_3943 table e4000) 0).bind fun w => match w with
| .inl y => g41_j3 x_3943
| .inr r => some r
else
some (.inr (.inl ()))
noncomputable def g41_L1 (s : T23) (table : List (List Int)) : (Int) → Option ((Int) ⊕ ((Unit) ⊕ (Int × Int × Int × Bool)))
| x_3379 =>
if ltI x_3379 (s.need_.length : Int) = true then
(idx table x_3379).bind fun e3718 =>
(loopO (g41_L2 e3718 s x_3379 table) 0).bind fun w => match w with
| .inl y => g41_j2 x_3379
| .inr r => some r
else
some (.inr (.inl ()))
noncomputable def g41 (s : T23) (table : List (List Int)) : Option (Int × Int × Int × Bool) :=
(loopO (g41_L1 s table) 0).bind fun w => match w with
| .inl y => g41_j1
| .inr r => some r
def eA41 (a : T23 × (List (List Int))) : List V := [.agg (pT23 a.1), .sl 1 (rows cl_ci_i64 a.2)]
def eB41 (r : Int × Int × Int × Bool) : V := .tup [.i .i64 r.1, .i .i64 r.2.1, .i .i64 r.2.2.1, .b r.2.2.2]
theorem inj41 (a a' : T23 × (List (List Int))) (h : eA41 a = eA41 a') : a = a' := by
  obtain ⟨⟨i257, i258, i259, i260, i261, i262, i263⟩, i264⟩ := a
  obtain ⟨⟨i265, i266, i267, i268, i269, i270, i271⟩, i272⟩ := a'
  simp only [eA41, pT23, List.cons.injEq, V.i.injEq, V.b.injEq, V.f.injEq, V.str.injEq, V.sl.injEq, V.agg.injEq, V.cptr.injEq, true_and, and_true] at h
  simp_all [ri ci_i64_inj, ri cl_ci_i64_inj]
noncomputable def F41 : List V → Option V := tells (fun a => g41 a.1 a.2) eA41 eB41
/- loop.example/g01229/impl.flaw -/
theorem ok41 : Tells Try.prog 41 F41 := by
 refine Tells.go 93 Try.func41 rfl rfl rfl (by kernel_rfl) (fun _ => rfl) ?_
 rintro ⟨s, table⟩ r h
 simp only [eA41, en, Nat.reduceAdd]
 replace h : (g41 s table).bind some = some r := bindS h
 rw [g41] at h
 have hC : CEnv.Ok Try.prog [(37, F37)] := ⟨.inl ok37, trivial⟩
 refine VW.seq (VW.rA (tm 93 [(1, .sl 1 (rows cl_ci_i64 table)), (2, .ptr 0 0 0)]) [some (7, [(pT23 s)])] [] hC (VW.join (fun (v : Unit) => (⟨(tm 93 []), [some (7, [(pT23 s)])], []⟩ : VS)) (fun v => (g41_j1).bind some = some r) ?_ ?_))
 · refine VW.seq (VW.rA (tm 93 [(1, .sl 1 (rows cl_ci_i64 table)), (2, .ptr 0 0 0), (17, .i .i64 (s.need_.length : Int)), (18, .i .i64 0)]) [some (7, [(pT23 s)])] [] hC (VW.block ?_))
   obtain ⟨w_1, hw_1, h⟩ := bindE h
   refine VW.loopO (fun (x : Int) => (⟨(tm 93 [(1, .sl 1 (rows cl_ci_i64 table)), (2, .ptr 0 0 0), (17, .i .i64 (s.need_.length : Int)), (18, .i .i64 x)]), [some (7, [(pT23 s)])], []⟩ : VS)) hw_1 (Ent.tu 1) ?_
   rintro n_1 x_3379 h1
   rw [g41_L1] at h1
   refine VW.seq (VW.rA (tm 93 [(1, .sl 1 (rows cl_ci_i64 table)), (2, .ptr 0 0 0), (17, .i .i64 (s.need_.length : Int)), (18, .i .i64 x_3379), (19, .b (ltI x_3379 (s.need_.length : Int)))]) [some (7, [(pT23 s)])] [] hC (VW.seq (VW.condJ h1 (fun h1 => ?_) (fun h1 => ?_))))
   · refine VW.exit ?_
     have e_ := leafR h1
     subst w_1
     exact vnext () h (Ent.tu 1)
   refine VW.skip (VW.join (fun (v : Unit) => (⟨(tm 93 [(1, .sl 1 (rows cl_ci_i64 table)), (2, .ptr 0 0 0), (17, .i .i64 (s.need_.length : Int)), (18, .i .i64 x_3379)]), [some (7, [(pT23 s)])], []⟩ : VS)) (fun v => (g41_j2 x_3379).bind (kN (g41_L1 s table) n_1) = some w_1) ?_ ?_)
   · refine VW.block (VW.seq (VW.rA (tm 93 [(1, .sl 1 (rows cl_ci_i64 table)), (2, .ptr 0 0 0), (8, .i .i64 x_3379), (17, .i .i64 (s.need_.length : Int)), (18, .i .i64 x_3379)]) [some (7, [(pT23 s)])] [] hC (VW.seq ?_)))
     obtain ⟨e3718, ⟨f3719a, f3719b, f3719c, f3719d⟩, h1⟩ := bindI h1
     refine VW.rA (tm 93 [(1, .sl 1 (rows cl_ci_i64 table)), (2, .ptr 0 0 0), (8, .i .i64 x_3379), (17, .i .i64 (s.need_.length : Int)), (18, .i .i64 x_3379), (24, .sl 1 (rows ci_i64 e3718)), (25, .i .i64 (e3718.length : Int)), (26, .i .i64 0)]) [some (7, [(pT23 s)])] [] hC (VW.block ?_) (h := by simp -implicitDefEqProofs [f3719a, f3719b, f3719c, f3719d])
     obtain ⟨w_2, hw_2, h1⟩ := bindE h1
     refine VW.loopO (fun (x : Int) => (⟨(tm 93 [(1, .sl 1 (rows cl_ci_i64 table)), (2, .ptr 0 0 0), (8, .i .i64 x_3379), (17, .i .i64 (s.need_.length : Int)), (18, .i .i64 x_3379), (24, .sl 1 (rows ci_i64 e3718)), (25, .i .i64 (e3718.length : Int)), (26, .i .i64 x)]), [some (7, [(pT23 s)])], []⟩ : VS)) hw_2 (Ent.tu 1) ?_
     rintro n_2 x_3943 h2
     rw [g41_L2] at h2
     refine VW.seq (VW.rA (tm 93 [(1, .sl 1 (rows cl_ci_i64 table)), (2, .ptr 0 0 0), (8, .i .i64 x_3379), (17, .i .i64 (s.need_.length : Int)), (18, .i .i64 x_3379), (24, .sl 1 (rows ci_i64 e3718)), (25, .i .i64 (e3718.length : Int)), (26, .i .i64 x_3943), (27, .b (ltI x_3943 (e3718.length : Int)))]) [some (7, [(pT23 s)])] [] hC (VW.seq (VW.condJ h2 (fun h2 => ?_) (fun h2 => ?_))))
     · refine VW.exit ?_
       have e_ := leafR h2
       subst w_2
       exact vnext () h1 (Ent.tu 1)
     refine VW.skip (VW.join (fun (v : Unit) => (⟨(tm 93 [(1, .sl 1 (rows cl_ci_i64 table)), (2, .ptr 0 0 0), (8, .i .i64 x_3379), (17, .i .i64 (s.need_.length : Int)), (18, .i .i64 x_3379), (24, .sl 1 (rows ci_i64 e3718)), (25, .i .i64 (e3718.length : Int)), (26, .i .i64 x_3943)]), [some (7, [(pT23 s)])], []⟩ : VS)) (fun v => (g41_j3 x_3943).bind (kN (g41_L2 e3718 s x_3379 table) n_2) = some w_2) ?_ ?_)
     · refine VW.block (VW.seq ?_)
       obtain ⟨e4000, ⟨f4001a, f4001b, f4001c, f4001d⟩, h2⟩ := bindI h2
       refine VW.rA (tm 93 [(1, .sl 1 (rows cl_ci_i64 table)), (2, .ptr 0 0 0), (8, .i .i64 x_3379), (9, .i .i64 x_3943), (10, .i .i64 e4000), (17, .i .i64 (s.need_.length : Int)), (18, .i .i64 x_3379), (24, .sl 1 (rows ci_i64 e3718)), (25, .i .i64 (e3718.length : Int)), (26, .i .i64 x_3943)]) [some (7, [(pT23 s)])] [] hC (VW.seq (VW.rA (tm 93 [(1, .sl 1 (rows cl_ci_i64 table)), (2, .ptr 0 0 0), (8, .i .i64 x_3379), (9, .i .i64 x_3943), (10, .i .i64 e4000), (17, .i .i64 (s.need_.length : Int)), (18, .i .i64 x_3379), (24, .sl 1 (rows ci_i64 e3718)), (25, .i .i64 (e3718.length : Int)), (26, .i .i64 x_3943), (33, .i .i64 (aI .i64 s.most_ 1)), (34, .i .i64 0)]) [some (7, [(pT23 s)])] [] hC (VW.block ?_))) (h := by simp -implicitDefEqProofs [f4001a, f4001b, f4001c, f4001d])
       obtain ⟨w_3, hw_3, h2⟩ := bindE h2
       refine VW.loopO (fun (x : Int) => (⟨(tm 93 [(1, .sl 1 (rows cl_ci_i64 table)), (2, .ptr 0 0 0), (8, .i .i64 x_3379), (9, .i .i64 x_3943), (10, .i .i64 e4000), (17, .i .i64 (s.need_.length : Int)), (18, .i .i64 x_3379), (24, .sl 1 (rows ci_i64 e3718)), (25, .i .i64 (e3718.length : Int)), (26, .i .i64 x_3943), (33, .i .i64 (aI .i64 s.most_ 1)), (34, .i .i64 x)]), [some (7, [(pT23 s)])], []⟩ : VS)) hw_3 (Ent.tu 1) ?_
       rintro n_3 x_4037 h3
       rw [g41_L3] at h3
       refine VW.seq (VW.rA (tm 93 [(1, .sl 1 (rows cl_ci_i64 table)), (2, .ptr 0 0 0), (8, .i .i64 x_3379), (9, .i .i64 x_3943), (10, .i .i64 e4000), (17, .i .i64 (s.need_.length : Int)), (18, .i .i64 x_3379), (24, .sl 1 (rows ci_i64 e3718)), (25, .i .i64 (e3718.length : Int)), (26, .i .i64 x_3943), (33, .i .i64 (aI .i64 s.most_ 1)), (34, .i .i64 x_4037), (35, .b (ltI x_4037 (aI .i64 s.most_ 1)))]) [some (7, [(pT23 s)])] [] hC (VW.seq (VW.condJ h3 (fun h3 => ?_) (fun h3 => ?_))))
       · refine VW.exit ?_
         have e_ := leafR h3
         subst w_3
         exact vnext () h2 (Ent.tu 1)
       refine VW.skip (VW.seq (VW.block (VW.seq (VW.rA (tm 93 [(1, .sl 1 (rows cl_ci_i64 table)), (2, .ptr 0 0 0), (8, .i .i64 x_3379), (9, .i .i64 x_3943), (10, .i .i64 e4000), (11, .i .i64 x_4037), (17, .i .i64 (s.need_.length : Int)), (18, .i .i64 x_3379), (24, .sl 1 (rows ci_i64 e3718)), (25, .i .i64 (e3718.length : Int)), (26, .i .i64 x_3943), (33, .i .i64 (aI .i64 s.most_ 1)), (34, .i .i64 x_4037)]) [some (7, [(pT23 s)])] [] hC (VW.seq ?_)))))
       obtain ⟨r4039, q4040, h3⟩ := bindE h3
       have c4040 : F37 [.agg (pT23 s), .i .i64 x_3379, .i .i64 x_3943, .i .i64 x_4037] = some (.tup [.i .i64 r4039.1, .b r4039.2]) := tells_eq inj37 (a := (s, x_3379, x_3943, x_4037)) q4040
       refine VW.rA (tm 93 [(1, .sl 1 (rows cl_ci_i64 table)), (2, .ptr 0 0 0), (8, .i .i64 x_3379), (9, .i .i64 x_3943), (10, .i .i64 e4000), (11, .i .i64 x_4037), (12, .i .i64 r4039.1), (13, .b r4039.2), (17, .i .i64 (s.need_.length : Int)), (18, .i .i64 x_3379), (24, .sl 1 (rows ci_i64 e3718)), (25, .i .i64 (e3718.length : Int)), (26, .i .i64 x_3943), (33, .i .i64 (aI .i64 s.most_ 1)), (34, .i .i64 x_4037)]) [some (7, [(pT23 s)])] [] hC (VW.seq (VW.seq (VW.rA (tm 93 [(1, .sl 1 (rows cl_ci_i64 table)), (2, .ptr 0 0 0), (8, .i .i64 x_3379), (9, .i .i64 x_3943), (10, .i .i64 e4000), (11, .i .i64 x_4037), (12, .i .i64 r4039.1), (17, .i .i64 (s.need_.length : Int)), (18, .i .i64 x_3379), (24, .sl 1 (rows ci_i64 e3718)), (25, .i .i64 (e3718.length : Int)), (26, .i .i64 x_3943), (33, .i .i64 (aI .i64 s.most_ 1)), (34, .i .i64 x_4037), (46, .b (!r4039.2))]) [some (7, [(pT23 s)])] [] hC (VW.condI h3 (fun h3 => ?_) (fun h3 => ?_))))) (h := by simp -implicitDefEqProofs [c4040])
       · exact VW.exit (VW.rA (tm 93 [(1, .sl 1 (rows cl_ci_i64 table)), (2, .ptr 0 0 0), (8, .i .i64 x_3379), (9, .i .i64 x_3943), (10, .i .i64 e4000), (17, .i .i64 (s.need_.length : Int)), (18, .i .i64 x_3379), (24, .sl 1 (rows ci_i64 e3718)), (25, .i .i64 (e3718.length : Int)), (26, .i .i64 x_3943), (33, .i .i64 (aI .i64 s.most_ 1)), (34, .i .i64 (aI .i64 x_4037 1))]) [some (7, [(pT23 s)])] [] hC (vnext (aI .i64 x_4037 1) (leafL h3) (Ent.tu 1)))
       refine VW.skip (VW.seq ?_)
       obtain ⟨e4042, ⟨f4043a, f4043b, f4043c, f4043d⟩, h3⟩ := bindI h3
       obtain ⟨e4044, ⟨f4045a, f4045b, f4045c, f4045d⟩, h3⟩ := bindI h3
       refine VW.rA (tm 93 [(1, .sl 1 (rows cl_ci_i64 table)), (2, .ptr 0 0 0), (8, .i .i64 x_3379), (9, .i .i64 x_3943), (10, .i .i64 e4000), (11, .i .i64 x_4037), (14, .i .i64 e4044), (17, .i .i64 (s.need_.length : Int)), (18, .i .i64 x_3379), (24, .sl 1 (rows ci_i64 e3718)), (25, .i .i64 (e3718.length : Int)), (26, .i .i64 x_3943), (33, .i .i64 (aI .i64 s.most_ 1)), (34, .i .i64 x_4037)]) [some (7, [(pT23 s)])] [] hC (VW.seq ?_) (h := by simp -implicitDefEqProofs [f4043a, f4043b, f4043c, f4043d, f4045a, f4045b, f4045c, f4045d])
       obtain ⟨w4049, q4051, h3⟩ := bindE h3
       refine VW.evalA (tm 93 [(1, .sl 1 (rows cl_ci_i64 table)), (2, .ptr 0 0 0), (8, .i .i64 x_3379), (9, .i .i64 x_3943), (10, .i .i64 e4000), (11, .i .i64 x_4037), (17, .i .i64 (s.need_.length : Int)), (18, .i .i64 x_3379), (24, .sl 1 (rows ci_i64 e3718)), (25, .i .i64 (e3718.length : Int)), (26, .i .i64 x_3943), (33, .i .i64 (aI .i64 s.most_ 1)), (34, .i .i64 x_4037), (86, .b w4049)]) [some (7, [(pT23 s)])] [] hC (by kernel_rfl) (by
           obtain ⟨q4052, q4051⟩ | ⟨q4052, rfl⟩ := gdF q4051
           · obtain ⟨w4048, q4053, q4051⟩ := bindQ q4051
             obtain rfl := Option.some.inj q4051
             obtain ⟨q4054, q4053⟩ | ⟨q4054, rfl⟩ := gdT q4053
             · obtain ⟨e4046, q4047, q4053⟩ := bindQ q4053
               obtain ⟨f4047a, f4047b, f4047c, f4047d⟩ := idx_some q4047
               obtain rfl := Option.some.inj q4053
               simp -implicitDefEqProofs [q4052, q4054, f4047a, f4047b, f4047c, f4047d, pT23]
             simp -implicitDefEqProofs [q4052, q4054, pT23]
           simp -implicitDefEqProofs [q4052, pT23]) ?_
       refine VW.condI h3 (fun h3 => ?_) (fun h3 => ?_)
       · refine VW.seq (VW.rA (tm 93 [(4, .i .i64 x_3379), (5, .i .i64 x_3943), (6, .i .i64 x_4037), (7, .b true)]) [some (7, [(pT23 s)])] [] hC ?_)
         have e_ := leafR h3
         subst w_3
         have e_ := leafR h2
         subst w_2
         have e_ := leafR h1
         subst w_1
         obtain rfl := leafS h
         exact VW.ret (VRet.fin (by simp [eB41]))
       exact VW.skip (VW.rA (tm 93 [(1, .sl 1 (rows cl_ci_i64 table)), (2, .ptr 0 0 0), (8, .i .i64 x_3379), (9, .i .i64 x_3943), (10, .i .i64 e4000), (17, .i .i64 (s.need_.length : Int)), (18, .i .i64 x_3379), (24, .sl 1 (rows ci_i64 e3718)), (25, .i .i64 (e3718.length : Int)), (26, .i .i64 x_3943), (33, .i .i64 (aI .i64 s.most_ 1)), (34, .i .i64 (aI .i64 x_4037 1))]) [some (7, [(pT23 s)])] [] hC (vnext (aI .i64 x_4037 1) (leafL h3) (Ent.tu 1)))
     rintro _ h2
     replace h2 : (g41_j3 x_3943).bind _ = _ := h2
     rw [g41_j3] at h2
     exact VW.rA (tm 93 [(1, .sl 1 (rows cl_ci_i64 table)), (2, .ptr 0 0 0), (8, .i .i64 x_3379), (17, .i .i64 (s.need_.length : Int)), (18, .i .i64 x_3379), (24, .sl 1 (rows ci_i64 e3718)), (25, .i .i64 (e3718.length : Int)), (26, .i .i64 (aI .i64 x_3943 1))]) [some (7, [(pT23 s)])] [] hC (vnext (aI .i64 x_3943 1) (leafL h2) (Ent.tu 1))
   rintro _ h1
   replace h1 : (g41_j2 x_3379).bind _ = _ := h1
   rw [g41_j2] at h1
   exact VW.rA (tm 93 [(1, .sl 1 (rows cl_ci_i64 table)), (2, .ptr 0 0 0), (17, .i .i64 (s.need_.length : Int)), (18, .i .i64 (aI .i64 x_3379 1))]) [some (7, [(pT23 s)])] [] hC (vnext (aI .i64 x_3379 1) (leafL h1) (Ent.tu 1))
 rintro _ h
 replace h : (g41_j1).bind _ = _ := h
 rw [g41_j1] at h
 refine VW.seq (VW.rA (tm 93 [(4, .i .i64 0), (5, .i .i64 0), (6, .i .i64 0), (7, .b false)]) [some (7, [(pT23 s)])] [] hC ?_)
 obtain rfl := leafS h
 exact VW.ret (VRet.fin (by simp [eB41]))
theorem tl41 {s : T23} {table : List (List Int)} {r : Int × Int × Int × Bool} (h : g41 s table = some r) : F41 [.agg [.sl 1 (rows ci_i64 s.need_), .sl 1 (rows ci_i64 s.price_), .i .i64 s.most_, .i .i64 s.yield_, .i .i64 s.store_, .i .i64 s.first_, .i .i64 s.loss_], .sl 1 (rows cl_ci_i64 table)] = some (.tup [.i .i64 r.1, .i .i64 r.2.1, .i .i64 r.2.2.1, .b r.2.2.2]) := tells_eq inj41 (a := (s, table)) h
noncomputable def g21 (s : T23) (table : List (List Int)) : Option (Int × Int × Int × Int) :=
(g30 s).bind fun r1 =>
if (!r1) = true then
some (0, 0, 0, 1)
else
(g40 s table).bind fun r4 =>
if (!r4) = true then
some (0, 0, 0, 2)
else
(g41 s table).bind fun r7 =>
if (!r7.2.2.2) = true then
some (0, 0, 0, 6)
else
some (r7.1, r7.2.1, r7.2.2.1, 0)
def eA21 (a : T23 × (List (List Int))) : List V := [.agg (pT23 a.1), .sl 1 (rows cl_ci_i64 a.2)]
def eB21 (r : Int × Int × Int × Int) : V := .tup [.i .i64 r.1, .i .i64 r.2.1, .i .i64 r.2.2.1, .i .i64 r.2.2.2]
theorem inj21 (a a' : T23 × (List (List Int))) (h : eA21 a = eA21 a') : a = a' := by
  obtain ⟨⟨i273, i274, i275, i276, i277, i278, i279⟩, i280⟩ := a
  obtain ⟨⟨i281, i282, i283, i284, i285, i286, i287⟩, i288⟩ := a'
  simp only [eA21, pT23, List.cons.injEq, V.i.injEq, V.b.injEq, V.f.injEq, V.str.injEq, V.sl.injEq, V.agg.injEq, V.cptr.injEq, true_and, and_true] at h
  simp_all [ri ci_i64_inj, ri cl_ci_i64_inj]
noncomputable def F21 : List V → Option V := tells (fun a => g21 a.1 a.2) eA21 eB21
/- loop.example/g01229/impl.FirstFlaw -/
theorem ok21 : Tells Try.prog 21 F21 := by
 refine Tells.go 34 Try.func21 rfl rfl rfl (by kernel_rfl) (fun _ => rfl) ?_
 rintro ⟨s, table⟩ r h
 simp only [eA21, en, Nat.reduceAdd]
 replace h : (g21 s table).bind some = some r := bindS h
 rw [g21] at h
 have hC : CEnv.Ok Try.prog [(30, F30), (40, F40), (41, F41)] := ⟨.inl ok30, .inl ok40, .inl ok41, trivial⟩
 refine VW.seq (VW.rA (tm 34 [(1, .sl 1 (rows cl_ci_i64 table)), (2, .ptr 0 0 0)]) [some (7, [(pT23 s)])] [] hC (VW.seq (VW.block (VW.seq ?_))))
 obtain ⟨r1, q2, h⟩ := bindE h
 have c2 : F30 [.agg (pT23 s)] = some (.b r1) := tells_eq inj30 (a := s) q2
 refine VW.rA (tm 34 [(1, .sl 1 (rows cl_ci_i64 table)), (2, .ptr 0 0 0), (12, .b (!r1))]) [some (7, [(pT23 s)])] [] hC (VW.condI h (fun h => ?_) (fun h => ?_)) (h := by simp -implicitDefEqProofs [c2])
 · refine VW.seq (VW.rA (tm 34 [(4, .i .i64 0), (5, .i .i64 0), (6, .i .i64 0), (7, .i .i64 1)]) [some (7, [(pT23 s)])] [] hC ?_)
   obtain rfl := leafS h
   exact VW.ret (VRet.fin (by simp [eB21]))
 refine VW.seq ?_
 obtain ⟨r4, q5, h⟩ := bindE h
 have c5 : F40 [.agg (pT23 s), .sl 1 (rows cl_ci_i64 table)] = some (.b r4) := tells_eq inj40 (a := (s, table)) q5
 refine VW.rA (tm 34 [(1, .sl 1 (rows cl_ci_i64 table)), (2, .ptr 0 0 0), (16, .b (!r4))]) [some (7, [(pT23 s)])] [] hC (VW.condI h (fun h => ?_) (fun h => ?_)) (h := by simp -implicitDefEqProofs [c5])
 · refine VW.seq (VW.rA (tm 34 [(4, .i .i64 0), (5, .i .i64 0), (6, .i .i64 0), (7, .i .i64 2)]) [some (7, [(pT23 s)])] [] hC ?_)
   obtain rfl := leafS h
   exact VW.ret (VRet.fin (by simp [eB21]))
 refine VW.skip (VW.seq ?_)
 obtain ⟨r7, q8, h⟩ := bindE h
 have c8 : F41 [.agg (pT23 s), .sl 1 (rows cl_ci_i64 table)] = some (.tup [.i .i64 r7.1, .i .i64 r7.2.1, .i .i64 r7.2.2.1, .b r7.2.2.2]) := tells_eq inj41 (a := (s, table)) q8
 refine VW.rA (tm 34 [(8, .i .i64 r7.1), (9, .i .i64 r7.2.1), (10, .i .i64 r7.2.2.1), (11, .b r7.2.2.2)]) [some (7, [(pT23 s)])] [] hC (VW.seq (VW.seq (VW.rA (tm 34 [(8, .i .i64 r7.1), (9, .i .i64 r7.2.1), (10, .i .i64 r7.2.2.1), (30, .b (!r7.2.2.2))]) [some (7, [(pT23 s)])] [] hC (VW.condI h (fun h => ?_) (fun h => ?_))))) (h := by simp -implicitDefEqProofs [c8])
 · refine VW.seq (VW.rA (tm 34 [(4, .i .i64 0), (5, .i .i64 0), (6, .i .i64 0), (7, .i .i64 6)]) [some (7, [(pT23 s)])] [] hC ?_)
   obtain rfl := leafS h
   exact VW.ret (VRet.fin (by simp [eB21]))
 refine VW.skip (VW.seq (VW.rA (tm 34 [(4, .i .i64 r7.1), (5, .i .i64 r7.2.1), (6, .i .i64 r7.2.2.1), (7, .i .i64 0)]) [some (7, [(pT23 s)])] [] hC ?_))
 obtain rfl := leafS h
 exact VW.ret (VRet.fin (by simp [eB21]))
theorem tl21 {s : T23} {table : List (List Int)} {r : Int × Int × Int × Int} (h : g21 s table = some r) : F21 [.agg [.sl 1 (rows ci_i64 s.need_), .sl 1 (rows ci_i64 s.price_), .i .i64 s.most_, .i .i64 s.yield_, .i .i64 s.store_, .i .i64 s.first_, .i .i64 s.loss_], .sl 1 (rows cl_ci_i64 table)] = some (.tup [.i .i64 r.1, .i .i64 r.2.1, .i .i64 r.2.2.1, .i .i64 r.2.2.2]) := tells_eq inj21 (a := (s, table)) h
noncomputable def g52_j1 : Option (Int) :=
some 0
noncomputable def g52_L1 (plan : List Int) (s : T23) : (Int) → Option ((Int) ⊕ ((Unit) ⊕ (Int)))
| x_28 =>
if ltI x_28 (plan.length : Int) = true then
(idx plan x_28).bind fun e30 =>
if (ltI e30 0 || ltI s.most_ e30) = true then
some (.inr (.inr 2))
else
some (.inl (aI .i64 x_28 1))
else
some (.inr (.inl ()))
noncomputable def g52 (s : T23) (plan : List Int) : Option (Int) :=
(g30 s).bind fun r1 =>
if (!r1) = true then
some 1
else
if (!eqI (plan.length : Int) (s.need_.length : Int)) = true then
some 2
else
(loopO (g52_L1 plan s) 0).bind fun w => match w with
| .inl y => g52_j1
| .inr r => some r
def eA52 (a : T23 × (List Int)) : List V := [.agg (pT23 a.1), .sl 1 (rows ci_i64 a.2)]
def eB52 (r : Int) : V := .i .i64 r
theorem inj52 (a a' : T23 × (List Int)) (h : eA52 a = eA52 a') : a = a' := by
  obtain ⟨⟨i289, i290, i291, i292, i293, i294, i295⟩, i296⟩ := a
  obtain ⟨⟨i297, i298, i299, i300, i301, i302, i303⟩, i304⟩ := a'
  simp only [eA52, pT23, List.cons.injEq, V.i.injEq, V.b.injEq, V.f.injEq, V.str.injEq, V.sl.injEq, V.agg.injEq, V.cptr.injEq, true_and, and_true] at h
  simp_all [ri ci_i64_inj]
noncomputable def F52 : List V → Option V := tells (fun a => g52 a.1 a.2) eA52 eB52
/- loop.example/g01229/impl.planCode -/
theorem ok52 : Tells Try.prog 52 F52 := by
 refine Tells.go 31 Try.func52 rfl rfl rfl (by kernel_rfl) (fun _ => rfl) ?_
 rintro ⟨s, plan⟩ r h
 simp only [eA52, en, Nat.reduceAdd]
 replace h : (g52 s plan).bind some = some r := bindS h
 rw [g52] at h
 have hC : CEnv.Ok Try.prog [(30, F30)] := ⟨.inl ok30, trivial⟩
 refine VW.seq (VW.rA (tm 31 [(1, .sl 1 (rows ci_i64 plan)), (2, .ptr 0 0 0)]) [some (7, [(pT23 s)])] [] hC (VW.seq (VW.seq ?_)))
 obtain ⟨r1, q2, h⟩ := bindE h
 have c2 : F30 [.agg (pT23 s)] = some (.b r1) := tells_eq inj30 (a := s) q2
 refine VW.rA (tm 31 [(1, .sl 1 (rows ci_i64 plan)), (2, .ptr 0 0 0), (9, .b (!r1))]) [some (7, [(pT23 s)])] [] hC (VW.condI h (fun h => ?_) (fun h => ?_)) (h := by simp -implicitDefEqProofs [c2])
 · refine VW.seq (VW.rA (tm 31 [(4, .i .i64 1)]) [some (7, [(pT23 s)])] [] hC ?_)
   obtain rfl := leafS h
   exact VW.ret (VRet.fin (by simp [eB52]))
 refine VW.skip (VW.seq (VW.seq (VW.rA (tm 31 [(1, .sl 1 (rows ci_i64 plan)), (2, .ptr 0 0 0), (15, .b (!eqI (plan.length : Int) (s.need_.length : Int)))]) [some (7, [(pT23 s)])] [] hC (VW.condI h (fun h => ?_) (fun h => ?_)))))
 · refine VW.seq (VW.rA (tm 31 [(4, .i .i64 2)]) [some (7, [(pT23 s)])] [] hC ?_)
   obtain rfl := leafS h
   exact VW.ret (VRet.fin (by simp [eB52]))
 refine VW.skip (VW.join (fun (v : Unit) => (⟨(tm 31 []), [some (7, [(pT23 s)])], []⟩ : VS)) (fun v => (g52_j1).bind some = some r) ?_ ?_)
 · refine VW.seq (VW.rA (tm 31 [(2, .ptr 0 0 0), (16, .sl 1 (rows ci_i64 plan)), (17, .i .i64 (plan.length : Int)), (18, .i .i64 0)]) [some (7, [(pT23 s)])] [] hC (VW.block ?_))
   obtain ⟨w_1, hw_1, h⟩ := bindE h
   refine VW.loopO (fun (x : Int) => (⟨(tm 31 [(2, .ptr 0 0 0), (16, .sl 1 (rows ci_i64 plan)), (17, .i .i64 (plan.length : Int)), (18, .i .i64 x)]), [some (7, [(pT23 s)])], []⟩ : VS)) hw_1 (Ent.tu 1) ?_
   rintro n_1 x_28 h1
   rw [g52_L1] at h1
   refine VW.seq (VW.rA (tm 31 [(2, .ptr 0 0 0), (16, .sl 1 (rows ci_i64 plan)), (17, .i .i64 (plan.length : Int)), (18, .i .i64 x_28), (19, .b (ltI x_28 (plan.length : Int)))]) [some (7, [(pT23 s)])] [] hC (VW.seq (VW.condJ h1 (fun h1 => ?_) (fun h1 => ?_))))
   · refine VW.exit ?_
     have e_ := leafR h1
     subst w_1
     exact vnext () h (Ent.tu 1)
   refine VW.skip (VW.seq (VW.block (VW.seq ?_)))
   obtain ⟨e30, ⟨f31a, f31b, f31c, f31d⟩, h1⟩ := bindI h1
   refine VW.rA (tm 31 [(2, .ptr 0 0 0), (6, .i .i64 e30), (16, .sl 1 (rows ci_i64 plan)), (17, .i .i64 (plan.length : Int)), (18, .i .i64 x_28)]) [some (7, [(pT23 s)])] [] hC (VW.seq (VW.rA (tm 31 [(2, .ptr 0 0 0), (16, .sl 1 (rows ci_i64 plan)), (17, .i .i64 (plan.length : Int)), (18, .i .i64 x_28), (29, .b (ltI e30 0 || ltI s.most_ e30))]) [some (7, [(pT23 s)])] [] hC (VW.condI h1 (fun h1 => ?_) (fun h1 => ?_)))) (h := by simp -implicitDefEqProofs [f31a, f31b, f31c, f31d])
   · refine VW.seq (VW.rA (tm 31 [(4, .i .i64 2)]) [some (7, [(pT23 s)])] [] hC ?_)
     have e_ := leafR h1
     subst w_1
     obtain rfl := leafS h
     exact VW.ret (VRet.fin (by simp [eB52]))
   exact VW.skip (VW.rA (tm 31 [(2, .ptr 0 0 0), (16, .sl 1 (rows ci_i64 plan)), (17, .i .i64 (plan.length : Int)), (18, .i .i64 (aI .i64 x_28 1))]) [some (7, [(pT23 s)])] [] hC (vnext (aI .i64 x_28 1) (leafL h1) (Ent.tu 1)))
 rintro _ h
 replace h : (g52_j1).bind _ = _ := h
 rw [g52_j1] at h
 refine VW.seq (VW.rA (tm 31 [(4, .i .i64 0)]) [some (7, [(pT23 s)])] [] hC ?_)
 obtain rfl := leafS h
 exact VW.ret (VRet.fin (by simp [eB52]))
theorem tl52 {s : T23} {plan : List Int} {r : Int} (h : g52 s plan = some r) : F52 [.agg [.sl 1 (rows ci_i64 s.need_), .sl 1 (rows ci_i64 s.price_), .i .i64 s.most_, .i .i64 s.yield_, .i .i64 s.store_, .i .i64 s.first_, .i .i64 s.loss_], .sl 1 (rows ci_i64 plan)] = some (.i .i64 r) := tells_eq inj52 (a := (s, plan)) h
noncomputable def g49_j1 (l34 : List Int) : Option ((List Int) × Int) :=
some (l34, 0)
noncomputable def g49_L1 (plan : List Int) (s : T23) : (Int × Int × (List Int)) → Option ((Int × Int × (List Int)) ⊕ ((List Int) ⊕ ((List Int) × Int)))
| (store_54, x_55, l56) =>
if ltI x_55 (plan.length : Int) = true then
(idx plan x_55).bind fun e58 =>
(g37 s x_55 store_54 e58).bind fun r60 =>
if (!r60.2) = true then
some (.inr (.inr ([], 4)))
else
(appK 8 l56 [r60.1]).bind fun u63 =>
some (.inl (r60.1, aI .i64 x_55 1, (l56 ++ [r60.1])))
else
some (.inr (.inl l56))
noncomputable def g49 (s : T23) (plan : List Int) : Option ((List Int) × Int) :=
(g52 s plan).bind fun r1 =>
if (!eqI r1 0) = true then
some ([], r1)
else
(loopO (g49_L1 plan s) (s.first_, 0, [])).bind fun w => match w with
| .inl y => g49_j1 y
| .inr r => some r
def eA49 (a : T23 × (List Int)) : List V := [.agg (pT23 a.1), .sl 1 (rows ci_i64 a.2)]
def eB49 (r : (List Int) × Int) : V := .tup [.own 1 (rows ci_i64 r.1), .i .i64 r.2]
theorem inj49 (a a' : T23 × (List Int)) (h : eA49 a = eA49 a') : a = a' := by
  obtain ⟨⟨i305, i306, i307, i308, i309, i310, i311⟩, i312⟩ := a
  obtain ⟨⟨i313, i314, i315, i316, i317, i318, i319⟩, i320⟩ := a'
  simp only [eA49, pT23, List.cons.injEq, V.i.injEq, V.b.injEq, V.f.injEq, V.str.injEq, V.sl.injEq, V.agg.injEq, V.cptr.injEq, true_and, and_true] at h
  simp_all [ri ci_i64_inj]
noncomputable def F49 : List V → Option V := tells (fun a => g49 a.1 a.2) eA49 eB49
/- loop.example/g01229/impl.StoresOf -/
theorem ok49 : Tells Try.prog 49 F49 := by
 refine Tells.go 46 Try.func49 rfl rfl rfl (by kernel_rfl) (fun _ => rfl) ?_
 rintro ⟨s, plan⟩ r h
 simp only [eA49, en, Nat.reduceAdd]
 replace h : (g49 s plan).bind some = some r := bindS h
 rw [g49] at h
 have hC : CEnv.Ok Try.prog [(37, F37), (52, F52)] := ⟨.inl ok37, .inl ok52, trivial⟩
 refine VW.seq (VW.rA (tm 46 [(1, .sl 1 (rows ci_i64 plan)), (2, .ptr 0 0 0)]) [some (7, [(pT23 s)])] [] hC (VW.seq (VW.seq ?_)))
 obtain ⟨r1, q2, h⟩ := bindE h
 have c2 : F52 [.agg (pT23 s), .sl 1 (rows ci_i64 plan)] = some (.i .i64 r1) := tells_eq inj52 (a := (s, plan)) q2
 refine VW.rA (tm 46 [(1, .sl 1 (rows ci_i64 plan)), (2, .ptr 0 0 0), (6, .i .i64 r1)]) [some (7, [(pT23 s)])] [] hC (VW.seq (VW.rA (tm 46 [(1, .sl 1 (rows ci_i64 plan)), (2, .ptr 0 0 0), (6, .i .i64 r1), (17, .b (!eqI r1 0))]) [some (7, [(pT23 s)])] [] hC (VW.condI h (fun h => ?_) (fun h => ?_)))) (h := by simp -implicitDefEqProofs [c2])
 · refine VW.seq (VW.rA (tm 46 [(4, .nil), (5, .i .i64 r1)]) [some (7, [(pT23 s)])] [] hC ?_)
   obtain rfl := leafS h
   exact VW.ret (VRet.fin (by simp [eB49]))
 refine VW.skip (VW.seq (VW.rD (tm 46 [(1, .sl 1 (rows ci_i64 plan)), (2, .ptr 0 0 0), (7, .ref 1 0 0), (8, .i .i64 s.first_)]) [some (7, [(pT23 s)]), some (1, rows ci_i64 [])] [] hC mixed (VW.join (fun (v : List Int) => (⟨(tm 46 [(7, .ref 1 0 v.length)]), [some (7, [(pT23 s)]), some (1, rows ci_i64 v)], []⟩ : VS)) (fun v => (g49_j1 (v)).bind some = some r) ?_ ?_)))
 · refine VW.seq (VW.rA (tm 46 [(2, .ptr 0 0 0), (7, .ref 1 0 0), (8, .i .i64 s.first_), (22, .sl 1 (rows ci_i64 plan)), (23, .i .i64 (plan.length : Int)), (24, .i .i64 0)]) [some (7, [(pT23 s)]), some (1, rows ci_i64 [])] [] hC (VW.block ?_))
   obtain ⟨w_1, hw_1, h⟩ := bindE h
   refine VW.loopO (fun (x : Int × Int × (List Int)) => (⟨(tm 46 [(2, .ptr 0 0 0), (7, .ref 1 0 x.2.2.length), (8, .i .i64 x.1), (22, .sl 1 (rows ci_i64 plan)), (23, .i .i64 (plan.length : Int)), (24, .i .i64 x.2.1)]), [some (7, [(pT23 s)]), some (1, rows ci_i64 x.2.2)], []⟩ : VS)) hw_1 (Ent.tu 2) ?_
   rintro n_1 ⟨store_54, x_55, l56⟩ h1
   rw [g49_L1] at h1
   refine VW.seq (VW.rA (tm 46 [(2, .ptr 0 0 0), (7, .ref 1 0 l56.length), (8, .i .i64 store_54), (22, .sl 1 (rows ci_i64 plan)), (23, .i .i64 (plan.length : Int)), (24, .i .i64 x_55), (25, .b (ltI x_55 (plan.length : Int)))]) [some (7, [(pT23 s)]), some (1, rows ci_i64 l56)] [] hC (VW.seq (VW.condJ h1 (fun h1 => ?_) (fun h1 => ?_))))
   · refine VW.exit ?_
     have e_ := leafR h1
     subst w_1
     exact vnext l56 h (Ent.tu 2)
   refine VW.skip (VW.seq (VW.block (VW.seq ?_)))
   obtain ⟨e58, ⟨f59a, f59b, f59c, f59d⟩, h1⟩ := bindI h1
   refine VW.rA (tm 46 [(2, .ptr 0 0 0), (7, .ref 1 0 l56.length), (8, .i .i64 store_54), (9, .i .i64 x_55), (10, .i .i64 e58), (22, .sl 1 (rows ci_i64 plan)), (23, .i .i64 (plan.length : Int)), (24, .i .i64 x_55)]) [some (7, [(pT23 s)]), some (1, rows ci_i64 l56)] [] hC (VW.seq ?_) (h := by simp -implicitDefEqProofs [f59a, f59b, f59c, f59d])
   obtain ⟨r60, q61, h1⟩ := bindE h1
   have c61 : F37 [.agg (pT23 s), .i .i64 x_55, .i .i64 store_54, .i .i64 e58] = some (.tup [.i .i64 r60.1, .b r60.2]) := tells_eq inj37 (a := (s, x_55, store_54, e58)) q61
   refine VW.rA (tm 46 [(2, .ptr 0 0 0), (7, .ref 1 0 l56.length), (11, .i .i64 r60.1), (12, .b r60.2), (22, .sl 1 (rows ci_i64 plan)), (23, .i .i64 (plan.length : Int)), (24, .i .i64 x_55)]) [some (7, [(pT23 s)]), some (1, rows ci_i64 l56)] [] hC (VW.seq (VW.seq (VW.rA (tm 46 [(2, .ptr 0 0 0), (7, .ref 1 0 l56.length), (11, .i .i64 r60.1), (22, .sl 1 (rows ci_i64 plan)), (23, .i .i64 (plan.length : Int)), (24, .i .i64 x_55), (38, .b (!r60.2))]) [some (7, [(pT23 s)]), some (1, rows ci_i64 l56)] [] hC (VW.condI h1 (fun h1 => ?_) (fun h1 => ?_))))) (h := by simp -implicitDefEqProofs [c61])
   · refine VW.seq (VW.rA (tm 46 [(4, .nil), (5, .i .i64 4)]) [some (7, [(pT23 s)]), some (1, rows ci_i64 l56)] [] hC ?_)
     have e_ := leafR h1
     subst w_1
     obtain rfl := leafS h
     exact VW.ret (VRet.fin (by simp [eB49]))
   refine VW.skip (VW.seq (VW.rA (tm 46 [(2, .ptr 0 0 0), (7, .ref 1 0 l56.length), (8, .i .i64 r60.1), (22, .sl 1 (rows ci_i64 plan)), (23, .i .i64 (plan.length : Int)), (24, .i .i64 x_55)]) [some (7, [(pT23 s)]), some (1, rows ci_i64 l56)] [] hC ?_))
   obtain ⟨u63, ⟨f64a, f64b⟩, h1⟩ := bindP h1
   try simp only [Int.toNat_natCast, Int.reduceToNat, List.length_cons, List.length_nil, Nat.reduceAdd, Nat.zero_add] at f64a f64b
   exact VW.rA (tm 46 [(2, .ptr 0 0 0), (7, .ref 1 0 (l56 ++ [r60.1]).length), (8, .i .i64 r60.1), (22, .sl 1 (rows ci_i64 plan)), (23, .i .i64 (plan.length : Int)), (24, .i .i64 x_55)]) [some (7, [(pT23 s)]), some (1, rows ci_i64 (l56 ++ [r60.1])), some (1, rows ci_i64 [r60.1])] [] hC (VW.rA (tm 46 [(2, .ptr 0 0 0), (7, .ref 1 0 (l56 ++ [r60.1]).length), (8, .i .i64 r60.1), (22, .sl 1 (rows ci_i64 plan)), (23, .i .i64 (plan.length : Int)), (24, .i .i64 (aI .i64 x_55 1))]) [some (7, [(pT23 s)]), some (1, rows ci_i64 (l56 ++ [r60.1])), some (1, rows ci_i64 [r60.1])] [] hC (vnext (r60.1, aI .i64 x_55 1, (l56 ++ [r60.1])) (leafL h1) (Ent.tu 2))) (h := by simp -implicitDefEqProofs [f64a, f64b])
 rintro l34 h
 replace h : (g49_j1 l34).bind _ = _ := h
 rw [g49_j1] at h
 refine VW.seq (VW.rA (tm 46 [(4, .ref 1 0 l34.length), (5, .i .i64 0)]) [some (7, [(pT23 s)]), some (1, rows ci_i64 l34)] [] hC ?_)
 obtain rfl := leafS h
 exact VW.ret (VRet.fin (by simp [eB49]))
theorem tl49 {s : T23} {plan : List Int} {r : (List Int) × Int} (h : g49 s plan = some r) : F49 [.agg [.sl 1 (rows ci_i64 s.need_), .sl 1 (rows ci_i64 s.price_), .i .i64 s.most_, .i .i64 s.yield_, .i .i64 s.store_, .i .i64 s.first_, .i .i64 s.loss_], .sl 1 (rows ci_i64 plan)] = some (.tup [.own 1 (rows ci_i64 r.1), .i .i64 r.2]) := tells_eq inj49 (a := (s, plan)) h
noncomputable def g42_j1 (cost_23 : Int) : Option (Int × Int) :=
some (cost_23, 0)
noncomputable def g42_L1 (plan : List Int) (s : T23) : (Int × Int) → Option ((Int × Int) ⊕ (Int))
| (cost_36, x_37) =>
if ltI x_37 (plan.length : Int) = true then
(idx plan x_37).bind fun e39 =>
(idx s.price_ x_37).bind fun e41 =>
some (.inl (aI .i64 cost_36 (mI .i64 e41 e39), aI .i64 x_37 1))
else
some (.inr cost_36)
noncomputable def g42 (s : T23) (plan : List Int) : Option (Int × Int) :=
(g49 s plan).bind fun r1 =>
if (!eqI r1.2 0) = true then
some (0, r1.2)
else
(loopO (g42_L1 plan s) (0, 0)).bind fun w => g42_j1 w
def eA42 (a : T23 × (List Int)) : List V := [.agg (pT23 a.1), .sl 1 (rows ci_i64 a.2)]
def eB42 (r : Int × Int) : V := .tup [.i .i64 r.1, .i .i64 r.2]
theorem inj42 (a a' : T23 × (List Int)) (h : eA42 a = eA42 a') : a = a' := by
  obtain ⟨⟨i321, i322, i323, i324, i325, i326, i327⟩, i328⟩ := a
  obtain ⟨⟨i329, i330, i331, i332, i333, i334, i335⟩, i336⟩ := a'
  simp only [eA42, pT23, List.cons.injEq, V.i.injEq, V.b.injEq, V.f.injEq, V.str.injEq, V.sl.injEq, V.agg.injEq, V.cptr.injEq, true_and, and_true] at h
  simp_all [ri ci_i64_inj]
noncomputable def F42 : List V → Option V := tells (fun a => g42 a.1 a.2) eA42 eB42
/- loop.example/g01229/impl.CostOf -/
theorem ok42 : Tells Try.prog 42 F42 := by
 refine Tells.go 38 Try.func42 rfl rfl rfl (by kernel_rfl) (fun _ => rfl) ?_
 rintro ⟨s, plan⟩ r h
 simp only [eA42, en, Nat.reduceAdd]
 replace h : (g42 s plan).bind some = some r := bindS h
 rw [g42] at h
 have hC : CEnv.Ok Try.prog [(49, F49)] := ⟨.inl ok49, trivial⟩
 refine VW.seq (VW.rA (tm 38 [(1, .sl 1 (rows ci_i64 plan)), (2, .ptr 0 0 0)]) [some (7, [(pT23 s)])] [] hC (VW.seq (VW.seq ?_)))
 obtain ⟨r1, q2, h⟩ := bindE h
 have c2 : F49 [.agg (pT23 s), .sl 1 (rows ci_i64 plan)] = some (.tup [.own 1 (rows ci_i64 r1.1), .i .i64 r1.2]) := tells_eq inj49 (a := (s, plan)) q2
 refine VW.rA (tm 38 [(1, .sl 1 (rows ci_i64 plan)), (2, .ptr 0 0 0), (7, .i .i64 r1.2)]) [some (7, [(pT23 s)]), some (1, rows ci_i64 r1.1)] [] hC (VW.seq (VW.rA (tm 38 [(1, .sl 1 (rows ci_i64 plan)), (2, .ptr 0 0 0), (7, .i .i64 r1.2), (18, .b (!eqI r1.2 0))]) [some (7, [(pT23 s)]), some (1, rows ci_i64 r1.1)] [] hC (VW.condI h (fun h => ?_) (fun h => ?_)))) (h := by simp -implicitDefEqProofs [c2])
 · refine VW.seq (VW.rA (tm 38 [(4, .i .i64 0), (5, .i .i64 r1.2)]) [some (7, [(pT23 s)]), some (1, rows ci_i64 r1.1)] [] hC ?_)
   obtain rfl := leafS h
   exact VW.ret (VRet.fin (by simp [eB42]))
 refine VW.skip (VW.seq (VW.rA (tm 38 [(1, .sl 1 (rows ci_i64 plan)), (2, .ptr 0 0 0), (8, .i .i64 0)]) [some (7, [(pT23 s)]), some (1, rows ci_i64 r1.1)] [] hC (VW.join (fun (v : Int) => (⟨(tm 38 [(8, .i .i64 v)]), [some (7, [(pT23 s)]), some (1, rows ci_i64 r1.1)], []⟩ : VS)) (fun v => (g42_j1 (v)).bind some = some r) ?_ ?_)))
 · refine VW.seq (VW.rA (tm 38 [(2, .ptr 0 0 0), (8, .i .i64 0), (20, .sl 1 (rows ci_i64 plan)), (21, .i .i64 (plan.length : Int)), (22, .i .i64 0)]) [some (7, [(pT23 s)]), some (1, rows ci_i64 r1.1)] [] hC (VW.block ?_))
   obtain ⟨w_1, hw_1, h⟩ := bindE h
   refine VW.loopO (fun (x : Int × Int) => (⟨(tm 38 [(2, .ptr 0 0 0), (8, .i .i64 x.1), (20, .sl 1 (rows ci_i64 plan)), (21, .i .i64 (plan.length : Int)), (22, .i .i64 x.2)]), [some (7, [(pT23 s)]), some (1, rows ci_i64 r1.1)], []⟩ : VS)) hw_1 (Ent.tu 2) ?_
   rintro n_1 ⟨cost_36, x_37⟩ h1
   rw [g42_L1] at h1
   refine VW.seq (VW.rA (tm 38 [(2, .ptr 0 0 0), (8, .i .i64 cost_36), (20, .sl 1 (rows ci_i64 plan)), (21, .i .i64 (plan.length : Int)), (22, .i .i64 x_37), (23, .b (ltI x_37 (plan.length : Int)))]) [some (7, [(pT23 s)]), some (1, rows ci_i64 r1.1)] [] hC (VW.seq (VW.condJ h1 (fun h1 => ?_) (fun h1 => ?_))))
   · refine VW.exit ?_
     have e_ := leafR h1
     subst w_1
     exact vnext cost_36 h (Ent.tu 2)
   refine VW.skip (VW.seq (VW.block (VW.seq ?_)))
   obtain ⟨e39, ⟨f40a, f40b, f40c, f40d⟩, h1⟩ := bindI h1
   refine VW.rA (tm 38 [(2, .ptr 0 0 0), (8, .i .i64 cost_36), (9, .i .i64 x_37), (10, .i .i64 e39), (20, .sl 1 (rows ci_i64 plan)), (21, .i .i64 (plan.length : Int)), (22, .i .i64 x_37)]) [some (7, [(pT23 s)]), some (1, rows ci_i64 r1.1)] [] hC ?_ (h := by simp -implicitDefEqProofs [f40a, f40b, f40c, f40d])
   obtain ⟨e41, ⟨f42a, f42b, f42c, f42d⟩, h1⟩ := bindI h1
   exact VW.rA (tm 38 [(2, .ptr 0 0 0), (8, .i .i64 (aI .i64 cost_36 (mI .i64 e41 e39))), (20, .sl 1 (rows ci_i64 plan)), (21, .i .i64 (plan.length : Int)), (22, .i .i64 x_37)]) [some (7, [(pT23 s)]), some (1, rows ci_i64 r1.1)] [] hC (VW.rA (tm 38 [(2, .ptr 0 0 0), (8, .i .i64 (aI .i64 cost_36 (mI .i64 e41 e39))), (20, .sl 1 (rows ci_i64 plan)), (21, .i .i64 (plan.length : Int)), (22, .i .i64 (aI .i64 x_37 1))]) [some (7, [(pT23 s)]), some (1, rows ci_i64 r1.1)] [] hC (vnext (aI .i64 cost_36 (mI .i64 e41 e39), aI .i64 x_37 1) (leafL h1) (Ent.tu 2))) (h := by simp -implicitDefEqProofs [f42a, f42b, f42c, f42d])
 rintro cost_23 h
 replace h : (g42_j1 cost_23).bind _ = _ := h
 rw [g42_j1] at h
 refine VW.seq (VW.rA (tm 38 [(4, .i .i64 cost_23), (5, .i .i64 0)]) [some (7, [(pT23 s)]), some (1, rows ci_i64 r1.1)] [] hC ?_)
 obtain rfl := leafS h
 exact VW.ret (VRet.fin (by simp [eB42]))
theorem tl42 {s : T23} {plan : List Int} {r : Int × Int} (h : g42 s plan = some r) : F42 [.agg [.sl 1 (rows ci_i64 s.need_), .sl 1 (rows ci_i64 s.price_), .i .i64 s.most_, .i .i64 s.yield_, .i .i64 s.store_, .i .i64 s.first_, .i .i64 s.loss_], .sl 1 (rows ci_i64 plan)] = some (.tup [.i .i64 r.1, .i .i64 r.2]) := tells_eq inj42 (a := (s, plan)) h
noncomputable def g22 (s : T23) (plan : List Int) (table : List (List Int)) : Option (Bool × Int) :=
(g42 s plan).bind fun r1 =>
if (!eqI r1.2 0) = true then
some (false, r1.2)
else
(g40 s table).bind fun r4 =>
if (!r4) = true then
some (false, 0)
else
(g41 s table).bind fun r7 =>
(if (!r7.2.2.2) = true then (idx table 0).bind fun e9 => (idx e9 s.first_).bind fun e11 => some (eqI r1.1 e11) else some false).bind fun w13 =>
some (w13, 0)
def eA22 (a : T23 × (List Int) × (List (List Int))) : List V := [.agg (pT23 a.1), .sl 1 (rows ci_i64 a.2.1), .sl 1 (rows cl_ci_i64 a.2.2)]
def eB22 (r : Bool × Int) : V := .tup [.b r.1, .i .i64 r.2]
theorem inj22 (a a' : T23 × (List Int) × (List (List Int))) (h : eA22 a = eA22 a') : a = a' := by
  obtain ⟨⟨i337, i338, i339, i340, i341, i342, i343⟩, i344, i345⟩ := a
  obtain ⟨⟨i346, i347, i348, i349, i350, i351, i352⟩, i353, i354⟩ := a'
  simp only [eA22, pT23, List.cons.injEq, V.i.injEq, V.b.injEq, V.f.injEq, V.str.injEq, V.sl.injEq, V.agg.injEq, V.cptr.injEq, true_and, and_true] at h
  simp_all [ri ci_i64_inj, ri cl_ci_i64_inj]
noncomputable def F22 : List V → Option V := tells (fun a => g22 a.1 a.2.1 a.2.2) eA22 eB22
/- loop.example/g01229/impl.IsCertificate -/
theorem ok22 : Tells Try.prog 22 F22 := by
 refine Tells.go 48 Try.func22 rfl rfl rfl (by kernel_rfl) (fun _ => rfl) ?_
 rintro ⟨s, plan, table⟩ r h
 simp only [eA22, en, Nat.reduceAdd]
 replace h : (g22 s plan table).bind some = some r := bindS h
 rw [g22] at h
 have hC : CEnv.Ok Try.prog [(40, F40), (41, F41), (42, F42)] := ⟨.inl ok40, .inl ok41, .inl ok42, trivial⟩
 refine VW.seq (VW.rA (tm 48 [(1, .sl 1 (rows ci_i64 plan)), (2, .sl 1 (rows cl_ci_i64 table)), (3, .ptr 0 0 0)]) [some (7, [(pT23 s)])] [] hC (VW.seq ?_))
 obtain ⟨r1, q2, h⟩ := bindE h
 have c2 : F42 [.agg (pT23 s), .sl 1 (rows ci_i64 plan)] = some (.tup [.i .i64 r1.1, .i .i64 r1.2]) := tells_eq inj42 (a := (s, plan)) q2
 refine VW.rA (tm 48 [(2, .sl 1 (rows cl_ci_i64 table)), (3, .ptr 0 0 0), (8, .i .i64 r1.1), (9, .i .i64 r1.2)]) [some (7, [(pT23 s)])] [] hC (VW.seq (VW.seq (VW.rA (tm 48 [(2, .sl 1 (rows cl_ci_i64 table)), (3, .ptr 0 0 0), (8, .i .i64 r1.1), (9, .i .i64 r1.2), (21, .b (!eqI r1.2 0))]) [some (7, [(pT23 s)])] [] hC (VW.condI h (fun h => ?_) (fun h => ?_))))) (h := by simp -implicitDefEqProofs [c2])
 · refine VW.seq (VW.rA (tm 48 [(6, .b false), (7, .i .i64 r1.2)]) [some (7, [(pT23 s)])] [] hC ?_)
   obtain rfl := leafS h
   exact VW.ret (VRet.fin (by simp [eB22]))
 refine VW.skip (VW.seq (VW.seq ?_))
 obtain ⟨r4, q5, h⟩ := bindE h
 have c5 : F40 [.agg (pT23 s), .sl 1 (rows cl_ci_i64 table)] = some (.b r4) := tells_eq inj40 (a := (s, table)) q5
 refine VW.rA (tm 48 [(2, .sl 1 (rows cl_ci_i64 table)), (3, .ptr 0 0 0), (8, .i .i64 r1.1), (26, .b (!r4))]) [some (7, [(pT23 s)])] [] hC (VW.condI h (fun h => ?_) (fun h => ?_)) (h := by simp -implicitDefEqProofs [c5])
 · refine VW.seq (VW.rA (tm 48 [(6, .b false), (7, .i .i64 0)]) [some (7, [(pT23 s)])] [] hC ?_)
   obtain rfl := leafS h
   exact VW.ret (VRet.fin (by simp [eB22]))
 refine VW.skip (VW.seq ?_)
 obtain ⟨r7, q8, h⟩ := bindE h
 have c8 : F41 [.agg (pT23 s), .sl 1 (rows cl_ci_i64 table)] = some (.tup [.i .i64 r7.1, .i .i64 r7.2.1, .i .i64 r7.2.2.1, .b r7.2.2.2]) := tells_eq inj41 (a := (s, table)) q8
 refine VW.rA (tm 48 [(2, .sl 1 (rows cl_ci_i64 table)), (3, .ptr 0 0 0), (8, .i .i64 r1.1), (13, .b r7.2.2.2)]) [some (7, [(pT23 s)])] [] hC (VW.seq ?_) (h := by simp -implicitDefEqProofs [c8])
 obtain ⟨w13, q14, h⟩ := bindE h
 refine VW.evalDA (tm 48 [(6, .b w13), (7, .i .i64 0)]) [some (7, [(pT23 s)])] [] hC mixed (by kernel_rfl) (by
     obtain ⟨q15, q14⟩ | ⟨q15, rfl⟩ := gdT q14
     · obtain ⟨e9, q10, q14⟩ := bindQ q14
       obtain ⟨f10a, f10b, f10c, f10d⟩ := idx_some q10
       try simp only [Int.toNat_natCast, Int.reduceToNat] at f10a f10b f10c f10d
       obtain ⟨e11, q12, q14⟩ := bindQ q14
       obtain ⟨f12a, f12b, f12c, f12d⟩ := idx_some q12
       obtain rfl := Option.some.inj q14
       simp -implicitDefEqProofs [q15, f10a, f10b, f10c, f10d, f12a, f12b, f12c, f12d]
     simp -implicitDefEqProofs [q15]) ?_
 obtain rfl := leafS h
 exact VW.ret (VRet.fin (by simp [eB22]))
theorem tl22 {s : T23} {plan : List Int} {table : List (List Int)} {r : Bool × Int} (h : g22 s plan table = some r) : F22 [.agg [.sl 1 (rows ci_i64 s.need_), .sl 1 (rows ci_i64 s.price_), .i .i64 s.most_, .i .i64 s.yield_, .i .i64 s.store_, .i .i64 s.first_, .i .i64 s.loss_], .sl 1 (rows ci_i64 plan), .sl 1 (rows cl_ci_i64 table)] = some (.tup [.b r.1, .i .i64 r.2]) := tells_eq inj22 (a := (s, plan, table)) h
noncomputable def g23 (s : T23) (plan : List Int) : Option (Int × Int) :=
(g42 s plan).bind fun r1 =>
if (!eqI r1.2 0) = true then
some (0, r1.2)
else
(g31 s).bind fun r4 =>
(idx r4 0).bind fun e6 =>
(idx e6 s.first_).bind fun e8 =>
some (sI .i64 r1.1 e8, 0)
def eA23 (a : T23 × (List Int)) : List V := [.agg (pT23 a.1), .sl 1 (rows ci_i64 a.2)]
def eB23 (r : Int × Int) : V := .tup [.i .i64 r.1, .i .i64 r.2]
theorem inj23 (a a' : T23 × (List Int)) (h : eA23 a = eA23 a') : a = a' := by
  obtain ⟨⟨i355, i356, i357, i358, i359, i360, i361⟩, i362⟩ := a
  obtain ⟨⟨i363, i364, i365, i366, i367, i368, i369⟩, i370⟩ := a'
  simp only [eA23, pT23, List.cons.injEq, V.i.injEq, V.b.injEq, V.f.injEq, V.str.injEq, V.sl.injEq, V.agg.injEq, V.cptr.injEq, true_and, and_true] at h
  simp_all [ri ci_i64_inj]
noncomputable def F23 : List V → Option V := tells (fun a => g23 a.1 a.2) eA23 eB23
/- loop.example/g01229/impl.RegretOf -/
theorem ok23 : Tells Try.prog 23 F23 := by
 refine Tells.go 27 Try.func23 rfl rfl rfl (by kernel_rfl) (fun _ => rfl) ?_
 rintro ⟨s, plan⟩ r h
 simp only [eA23, en, Nat.reduceAdd]
 replace h : (g23 s plan).bind some = some r := bindS h
 rw [g23] at h
 have hC : CEnv.Ok Try.prog [(31, F31), (42, F42)] := ⟨.inl ok31, .inl ok42, trivial⟩
 refine VW.seq (VW.rA (tm 27 [(1, .sl 1 (rows ci_i64 plan)), (2, .ptr 0 0 0)]) [some (7, [(pT23 s)])] [] hC (VW.seq ?_))
 obtain ⟨r1, q2, h⟩ := bindE h
 have c2 : F42 [.agg (pT23 s), .sl 1 (rows ci_i64 plan)] = some (.tup [.i .i64 r1.1, .i .i64 r1.2]) := tells_eq inj42 (a := (s, plan)) q2
 refine VW.rA (tm 27 [(2, .ptr 0 0 0), (6, .i .i64 r1.1), (7, .i .i64 r1.2)]) [some (7, [(pT23 s)])] [] hC (VW.seq (VW.seq (VW.rA (tm 27 [(2, .ptr 0 0 0), (6, .i .i64 r1.1), (7, .i .i64 r1.2), (15, .b (!eqI r1.2 0))]) [some (7, [(pT23 s)])] [] hC (VW.condI h (fun h => ?_) (fun h => ?_))))) (h := by simp -implicitDefEqProofs [c2])
 · refine VW.seq (VW.rA (tm 27 [(4, .i .i64 0), (5, .i .i64 r1.2)]) [some (7, [(pT23 s)])] [] hC ?_)
   obtain rfl := leafS h
   exact VW.ret (VRet.fin (by simp [eB23]))
 refine VW.skip (VW.seq ?_)
 obtain ⟨r4, q5, h⟩ := bindE h
 have c5 : F31 [.agg (pT23 s)] = some (.own 1 (rows cl_ci_i64o r4)) := tells_eq inj31 (a := s) q5
 obtain ⟨e6, ⟨f7a, f7b, f7c, f7d⟩, h⟩ := bindI h
 try simp only [Int.toNat_natCast, Int.reduceToNat] at f7a f7b f7c f7d
 obtain ⟨e8, ⟨f9a, f9b, f9c, f9d⟩, h⟩ := bindI h
 refine VW.rD (tm 27 [(4, .i .i64 (sI .i64 r1.1 e8)), (5, .i .i64 0)]) [some (7, [(pT23 s)]), some (1, rows cl_ci_i64o r4)] [] hC mixed ?_ (h := by simp -implicitDefEqProofs [c5, f7a, f7b, f7c, f7d, f9a, f9b, f9c, f9d])
 obtain rfl := leafS h
 exact VW.ret (VRet.fin (by simp [eB23]))
theorem tl23 {s : T23} {plan : List Int} {r : Int × Int} (h : g23 s plan = some r) : F23 [.agg [.sl 1 (rows ci_i64 s.need_), .sl 1 (rows ci_i64 s.price_), .i .i64 s.most_, .i .i64 s.yield_, .i .i64 s.store_, .i .i64 s.first_, .i .i64 s.loss_], .sl 1 (rows ci_i64 plan)] = some (.tup [.i .i64 r.1, .i .i64 r.2]) := tells_eq inj23 (a := (s, plan)) h
noncomputable def g24_j1 (y26 : List Int) (y27 : Int) (y28 : Int) (l29 : List Int) : Option (List Int) :=
some l29
noncomputable def g24_L1 (x_ : T23) : (Int × (List Int) × Int × Int × (List Int)) → Option ((Int × (List Int) × Int × Int × (List Int)) ⊕ ((List Int) × Int × Int × (List Int)))
| (k_45, y46, y47, y48, l49) =>
if ltI k_45 (x_.need_.length : Int) = true then
(g43 (⟨y46, y47, y48⟩ : T75) (aI .i64 x_.most_ 1)).bind fun r51 =>
(appK 8 l49 [r51.1]).bind fun u53 =>
some (.inl (aI .i64 k_45 1, r51.2.code_, r51.2.at_, r51.2.seed_, (l49 ++ [r51.1])))
else
some (.inr (y46, y47, y48, l49))
noncomputable def g24 (code : List Int) (x_ : T23) : Option (List Int) :=
(loopO (g24_L1 x_) (0, code, 0, 0, [])).bind fun w => g24_j1 w.1 w.2.1 w.2.2.1 w.2.2.2
def eA24 (a : (List Int) × T23) : List V := [.sl 1 (rows ci_u8 a.1), .agg (pT23 a.2)]
def eB24 (r : List Int) : V := .own 1 (rows ci_i64 r)
theorem inj24 (a a' : (List Int) × T23) (h : eA24 a = eA24 a') : a = a' := by
  obtain ⟨i371, ⟨i372, i373, i374, i375, i376, i377, i378⟩⟩ := a
  obtain ⟨i379, ⟨i380, i381, i382, i383, i384, i385, i386⟩⟩ := a'
  simp only [eA24, pT23, List.cons.injEq, V.i.injEq, V.b.injEq, V.f.injEq, V.str.injEq, V.sl.injEq, V.agg.injEq, V.cptr.injEq, true_and, and_true] at h
  simp_all [ri ci_i64_inj, ri ci_u8_inj]
noncomputable def F24 : List V → Option V := tells (fun a => g24 a.1 a.2) eA24 eB24
/- loop.example/g01229/spec.A2Plan -/
theorem ok24 : Tells Try.prog 24 F24 := by
 refine Tells.go 27 Try.func24 rfl rfl rfl (by kernel_rfl) (fun _ => rfl) ?_
 rintro ⟨code, x_⟩ r h
 simp only [eA24, en, Nat.reduceAdd]
 replace h : (g24 code x_).bind some = some r := bindS h
 rw [g24] at h
 have hC : CEnv.Ok Try.prog [] := trivial
 refine VW.seq (VW.rA (tm 27 [(0, .sl 1 (rows ci_u8 code)), (3, .ptr 0 0 0)]) [some (7, [(pT23 x_)])] [] hC (VW.seq (VW.inlS (VL.inlP 1 (tm 27 [(3, .ptr 0 0 0), (8, .sl 1 (rows ci_u8 code))]) [some (7, [(pT23 x_)])] [] rfl hC (by kernel_rfl) (by simp -implicitDefEqProofs) rfl rfl Try.func36 rfl rfl rfl rfl (tm_length) (VW.ent (s := (⟨(tm 6 [(0, .sl 1 (rows ci_u8 code))]), [some (7, [(pT23 x_)])], ((tm 27 [(3, .ptr 0 0 0), (8, .sl 1 (rows ci_u8 code))]) ++ [])⟩ : VS)) (Ent.eqs (by rw [tm_init]; simp) rfl (by simp)) (VW.seq (VW.rA (tm 6 [(0, .sl 1 (rows ci_u8 code))]) [some (7, [(pT23 x_)])] ((tm 27 [(3, .ptr 0 0 0), (8, .sl 1 (rows ci_u8 code))]) ++ []) hC (VW.seq (VW.rA (tm 6 [(2, .ptr 1 0 0)]) [some (7, [(pT23 x_)]), some (3, [[.sl 1 (rows ci_u8 code), .i .i64 0, .i .u64 0]])] ((tm 27 [(3, .ptr 0 0 0), (8, .sl 1 (rows ci_u8 code))]) ++ []) hC (VW.ret (VIn.ret (v := .ptr 1 0 0) (by simp) (VL.evalP (tm 27 [(3, .ptr 0 0 0), (5, .ptr 1 0 0)]) [some (7, [(pT23 x_)]), some (3, [[.sl 1 (rows ci_u8 code), .i .i64 0, .i .u64 0]])] [] hC (by kernel_rfl) (by simp -implicitDefEqProofs) (VW.seq (VW.rA (tm 27 [(3, .ptr 0 0 0), (5, .ptr 1 0 0), (6, .ref 2 0 0)]) [some (7, [(pT23 x_)]), some (3, [[.sl 1 (rows ci_u8 code), .i .i64 0, .i .u64 0]]), some (1, rows ci_i64 [])] [] hC (VW.join (fun (v : (List Int) × Int × Int × (List Int)) => (⟨(tm 27 [(6, .ref 2 0 v.2.2.2.length)]), [some (7, [(pT23 x_)]), some (3, [[.sl 1 (rows ci_u8 v.1), .i .i64 v.2.1, .i .u64 v.2.2.1]]), some (1, rows ci_i64 v.2.2.2)], []⟩ : VS)) (fun v => (g24_j1 (v.1) (v.2.1) (v.2.2.1) (v.2.2.2)).bind some = some r) ?_ ?_)))))))))))))))
 · refine VW.seq (VW.rA (tm 27 [(3, .ptr 0 0 0), (5, .ptr 1 0 0), (6, .ref 2 0 0), (7, .i .i64 0)]) [some (7, [(pT23 x_)]), some (3, [[.sl 1 (rows ci_u8 code), .i .i64 0, .i .u64 0]]), some (1, rows ci_i64 [])] [] hC (VW.block ?_))
   obtain ⟨w_1, hw_1, h⟩ := bindE h
   refine VW.loopO (fun (x : Int × (List Int) × Int × Int × (List Int)) => (⟨(tm 27 [(3, .ptr 0 0 0), (5, .ptr 1 0 0), (6, .ref 2 0 x.2.2.2.2.length), (7, .i .i64 x.1)]), [some (7, [(pT23 x_)]), some (3, [[.sl 1 (rows ci_u8 x.2.1), .i .i64 x.2.2.1, .i .u64 x.2.2.2.1]]), some (1, rows ci_i64 x.2.2.2.2)], []⟩ : VS)) hw_1 (Ent.tu 3) ?_
   rintro n_1 ⟨k_45, y46, y47, y48, l49⟩ h1
   rw [g24_L1] at h1
   refine VW.seq (VW.seq (VW.rA (tm 27 [(3, .ptr 0 0 0), (5, .ptr 1 0 0), (6, .ref 2 0 l49.length), (7, .i .i64 k_45), (15, .b (ltI k_45 (x_.need_.length : Int)))]) [some (7, [(pT23 x_)]), some (3, [[.sl 1 (rows ci_u8 y46), .i .i64 y47, .i .u64 y48]]), some (1, rows ci_i64 l49)] [] hC (VW.condJ h1 (fun h1 => ?_) (fun h1 => ?_))))
   · refine VW.exit ?_
     have e_ := leafR h1
     subst w_1
     exact vnext (y46, y47, y48, l49) h (Ent.tu 3)
   refine VW.skip (VW.seq (VW.block ?_))
   obtain ⟨r51, q52, h1⟩ := bindE h1
   have c52 : F43 [.agg [.sl 1 (rows ci_u8 y46), .i .i64 y47, .i .u64 y48], .i .i64 (aI .i64 x_.most_ 1)] = some (.tup [.i .i64 r51.1, .agg [.sl 1 (rows ci_u8 r51.2.code_), .i .i64 r51.2.at_, .i .u64 r51.2.seed_]]) := tells_eq inj43 (a := ((⟨y46, y47, y48⟩ : T75), aI .i64 x_.most_ 1)) q52
   obtain ⟨u53, ⟨f54a, f54b⟩, h1⟩ := bindP h1
   try simp only [Int.toNat_natCast, Int.reduceToNat, List.length_cons, List.length_nil, Nat.reduceAdd, Nat.zero_add] at f54a f54b
   exact VW.evalM (CM := [(43, F43)]) (tm 27 [(3, .ptr 0 0 0), (5, .ptr 1 0 0), (6, .ref 2 0 (l49 ++ [r51.1]).length), (7, .i .i64 k_45)]) [some (7, [(pT23 x_)]), some (3, [[.sl 1 (rows ci_u8 r51.2.code_), .i .i64 r51.2.at_, .i .u64 r51.2.seed_]]), some (1, rows ci_i64 (l49 ++ [r51.1])), some (1, rows ci_i64 [r51.1])] [] hC ⟨ok43, trivial⟩ (by simp -implicitDefEqProofs [c52, f54a, f54b]) (VW.rA (tm 27 [(3, .ptr 0 0 0), (5, .ptr 1 0 0), (6, .ref 2 0 (l49 ++ [r51.1]).length), (7, .i .i64 (aI .i64 k_45 1))]) [some (7, [(pT23 x_)]), some (3, [[.sl 1 (rows ci_u8 r51.2.code_), .i .i64 r51.2.at_, .i .u64 r51.2.seed_]]), some (1, rows ci_i64 (l49 ++ [r51.1])), some (1, rows ci_i64 [r51.1])] [] hC (vnext (aI .i64 k_45 1, r51.2.code_, r51.2.at_, r51.2.seed_, (l49 ++ [r51.1])) (leafL h1) (Ent.tu 3)))
 rintro ⟨y26, y27, y28, l29⟩ h
 replace h : (g24_j1 y26 y27 y28 l29).bind _ = _ := h
 rw [g24_j1] at h
 refine VW.seq (VW.rA (tm 27 [(4, .ref 2 0 l29.length)]) [some (7, [(pT23 x_)]), some (3, [[.sl 1 (rows ci_u8 y26), .i .i64 y27, .i .u64 y28]]), some (1, rows ci_i64 l29)] [] hC ?_)
 obtain rfl := leafS h
 exact VW.ret (VRet.fin (by simp [eB24]))
theorem tl24 {code : List Int} {x_ : T23} {r : List Int} (h : g24 code x_ = some r) : F24 [.sl 1 (rows ci_u8 code), .agg [.sl 1 (rows ci_i64 x_.need_), .sl 1 (rows ci_i64 x_.price_), .i .i64 x_.most_, .i .i64 x_.yield_, .i .i64 x_.store_, .i .i64 x_.first_, .i .i64 x_.loss_]] = some (.own 1 (rows ci_i64 r)) := tells_eq inj24 (a := (code, x_)) h
noncomputable def g46_j1 : Option (Int × Int) :=
some ((-1), (-1))
noncomputable def g46_L1 (s : T23) (slot : Int) (store : Int) : (Int) → Option ((Int) ⊕ ((Unit) ⊕ (Int × Int)))
| n_24 =>
if leI n_24 s.most_ = true then
(g45 s slot store n_24).bind fun r26 =>
if leI 0 r26 = true then
some (.inr (.inr (n_24, r26)))
else
some (.inl (aI .i64 n_24 1))
else
some (.inr (.inl ()))
noncomputable def g46 (s : T23) (slot : Int) (store : Int) : Option (Int × Int) :=
(loopO (g46_L1 s slot store) 0).bind fun w => match w with
| .inl y => g46_j1
| .inr r => some r
def eA46 (a : T23 × Int × Int) : List V := [.cptr (pT23 a.1) 0, .i .i64 a.2.1, .i .i64 a.2.2]
def eB46 (r : Int × Int) : V := .tup [.i .i64 r.1, .i .i64 r.2]
theorem inj46 (a a' : T23 × Int × Int) (h : eA46 a = eA46 a') : a = a' := by
  obtain ⟨⟨i387, i388, i389, i390, i391, i392, i393⟩, i394, i395⟩ := a
  obtain ⟨⟨i396, i397, i398, i399, i400, i401, i402⟩, i403, i404⟩ := a'
  simp only [eA46, pT23, List.cons.injEq, V.i.injEq, V.b.injEq, V.f.injEq, V.str.injEq, V.sl.injEq, V.agg.injEq, V.cptr.injEq, true_and, and_true] at h
  simp_all [ri ci_i64_inj]
noncomputable def F46 : List V → Option V := tells (fun a => g46 a.1 a.2.1 a.2.2) eA46 eB46
/- loop.example/g01229/spec.l07Few -/
theorem ok46 : Tells Try.prog 46 F46 := by
 refine Tells.go 27 Try.func46 rfl rfl rfl (by kernel_rfl) (fun _ => rfl) ?_
 rintro ⟨s, slot, store⟩ r h
 simp only [eA46, en, Nat.reduceAdd]
 replace h : (g46 s slot store).bind some = some r := bindS h
 rw [g46] at h
 have hC : CEnv.Ok Try.prog [(45, F45)] := ⟨.inl ok45, trivial⟩
 refine VW.seq (VW.rA (tm 27 [(0, .cptr (pT23 s) 0), (1, .i .i64 slot), (2, .i .i64 store)]) [] [] hC (VW.join (fun (v : Unit) => (⟨(tm 27 []), [], []⟩ : VS)) (fun v => (g46_j1).bind some = some r) ?_ ?_))
 · refine VW.seq (VW.rA (tm 27 [(0, .cptr (pT23 s) 0), (1, .i .i64 slot), (2, .i .i64 store), (8, .i .i64 0)]) [] [] hC (VW.block ?_))
   obtain ⟨w_1, hw_1, h⟩ := bindE h
   refine VW.loopO (fun (x : Int) => (⟨(tm 27 [(0, .cptr (pT23 s) 0), (1, .i .i64 slot), (2, .i .i64 store), (8, .i .i64 x)]), [], []⟩ : VS)) hw_1 (Ent.tu 0) ?_
   rintro n_1 n_24 h1
   rw [g46_L1] at h1
   refine VW.seq (VW.seq (VW.rA (tm 27 [(0, .cptr (pT23 s) 0), (1, .i .i64 slot), (2, .i .i64 store), (8, .i .i64 n_24), (15, .b (leI n_24 s.most_))]) [] [] hC (VW.condJ h1 (fun h1 => ?_) (fun h1 => ?_))))
   · refine VW.exit ?_
     have e_ := leafR h1
     subst w_1
     exact vnext () h (Ent.tu 0)
   refine VW.skip (VW.seq (VW.block (VW.seq ?_)))
   obtain ⟨r26, q27, h1⟩ := bindE h1
   have c27 : F45 [.cptr (pT23 s) 0, .i .i64 slot, .i .i64 store, .i .i64 n_24] = some (.i .i64 r26) := tells_eq inj45 (a := (s, slot, store, n_24)) q27
   refine VW.rA (tm 27 [(0, .cptr (pT23 s) 0), (1, .i .i64 slot), (2, .i .i64 store), (8, .i .i64 n_24), (9, .i .i64 r26)]) [] [] hC (VW.seq (VW.rA (tm 27 [(0, .cptr (pT23 s) 0), (1, .i .i64 slot), (2, .i .i64 store), (8, .i .i64 n_24), (9, .i .i64 r26), (24, .b (leI 0 r26))]) [] [] hC (VW.condI h1 (fun h1 => ?_) (fun h1 => ?_)))) (h := by simp -implicitDefEqProofs [c27])
   · refine VW.seq (VW.rA (tm 27 [(6, .i .i64 n_24), (7, .i .i64 r26)]) [] [] hC ?_)
     have e_ := leafR h1
     subst w_1
     obtain rfl := leafS h
     exact VW.ret (VRet.fin (by simp [eB46]))
   exact VW.skip (VW.rA (tm 27 [(0, .cptr (pT23 s) 0), (1, .i .i64 slot), (2, .i .i64 store), (8, .i .i64 (aI .i64 n_24 1))]) [] [] hC (vnext (aI .i64 n_24 1) (leafL h1) (Ent.tu 0)))
 rintro _ h
 replace h : (g46_j1).bind _ = _ := h
 rw [g46_j1] at h
 refine VW.seq (VW.rA (tm 27 [(6, .i .i64 (-1)), (7, .i .i64 (-1))]) [] [] hC ?_)
 obtain rfl := leafS h
 exact VW.ret (VRet.fin (by simp [eB46]))
theorem tl46 {s : T23} {slot : Int} {store : Int} {r : Int × Int} (h : g46 s slot store = some r) : F46 [.cptr [.sl 1 (rows ci_i64 s.need_), .sl 1 (rows ci_i64 s.price_), .i .i64 s.most_, .i .i64 s.yield_, .i .i64 s.store_, .i .i64 s.first_, .i .i64 s.loss_] 0, .i .i64 slot, .i .i64 store] = some (.tup [.i .i64 r.1, .i .i64 r.2]) := tells_eq inj46 (a := (s, slot, store)) h
noncomputable def g25_j1 (other_67 : Int) (l68 : List Int) : Option ((List Int) × Int × Int) :=
some (l68, other_67, 0)
noncomputable def g25_j2 (l110 : List Int) (k_109 : Int) (other_119 : Int) (n_120 : Int) (next_121 : Int) : Option ((Int × Int × Int × (List Int)) ⊕ ((Int × (List Int)) ⊕ ((List Int) × Int × Int))) :=
if ltI n_120 0 = true then
some (.inr (.inr ([], 0, 6)))
else
(appK 8 l110 [n_120]).bind fun u123 =>
some (.inl (next_121, other_119, aI .i64 k_109 1, (l110 ++ [n_120])))
noncomputable def g25_L1 (plan : List Int) (s : T23) : (Int × Int × Int × (List Int)) → Option ((Int × Int × Int × (List Int)) ⊕ ((Int × (List Int)) ⊕ ((List Int) × Int × Int)))
| (at_107, other_108, k_109, l110) =>
if ltI k_109 (plan.length : Int) = true then
(idx plan k_109).bind fun e112 =>
(g45 s k_109 at_107 e112).bind fun r114 =>
if ltI r114 0 = true then
(g46 s k_109 at_107).bind fun r126 =>
g25_j2 l110 k_109 (aI .i64 other_108 1) r126.1 r126.2
else
g25_j2 l110 k_109 other_108 e112 r114
else
some (.inr (.inl (other_108, l110)))
noncomputable def g25 (s : T23) (plan : List Int) : Option ((List Int) × Int × Int) :=
(g27 s).bind fun r1 =>
if (!r1) = true then
some ([], 0, 1)
else
(if (!eqI (plan.length : Int) (s.need_.length : Int)) = true then some true else (g44 plan s.most_).bind fun r4 => some (!r4)).bind fun w6 =>
if w6 = true then
some ([], 0, 2)
else
(loopO (g25_L1 plan s) (s.first_, 0, 0, [])).bind fun w => match w with
| .inl y => g25_j1 y.1 y.2
| .inr r => some r
def eA25 (a : T23 × (List Int)) : List V := [.agg (pT23 a.1), .sl 1 (rows ci_i64 a.2)]
def eB25 (r : (List Int) × Int × Int) : V := .tup [.own 1 (rows ci_i64 r.1), .i .i64 r.2.1, .i .i64 r.2.2]
theorem inj25 (a a' : T23 × (List Int)) (h : eA25 a = eA25 a') : a = a' := by
  obtain ⟨⟨i405, i406, i407, i408, i409, i410, i411⟩, i412⟩ := a
  obtain ⟨⟨i413, i414, i415, i416, i417, i418, i419⟩, i420⟩ := a'
  simp only [eA25, pT23, List.cons.injEq, V.i.injEq, V.b.injEq, V.f.injEq, V.str.injEq, V.sl.injEq, V.agg.injEq, V.cptr.injEq, true_and, and_true] at h
  simp_all [ri ci_i64_inj]
noncomputable def F25 : List V → Option V := tells (fun a => g25 a.1 a.2) eA25 eB25
/- loop.example/g01229/spec.RepairPlan -/
theorem ok25 : Tells Try.prog 25 F25 := by
 refine Tells.go 67 Try.func25 rfl rfl rfl (by kernel_rfl) (fun _ => rfl) ?_
 rintro ⟨s, plan⟩ r h
 simp only [eA25, en, Nat.reduceAdd]
 replace h : (g25 s plan).bind some = some r := bindS h
 rw [g25] at h
 have hC : CEnv.Ok Try.prog [(27, F27), (44, F44), (45, F45), (46, F46)] := ⟨.inl ok27, .inl ok44, .inl ok45, .inl ok46, trivial⟩
 refine VW.seq (VW.rA (tm 67 [(1, .sl 1 (rows ci_i64 plan)), (2, .ptr 0 0 0)]) [some (7, [(pT23 s)])] [] hC (VW.seq (VW.seq ?_)))
 obtain ⟨r1, q2, h⟩ := bindE h
 have c2 : F27 [.cptr (pT23 s) 0] = some (.b r1) := tells_eq inj27 (a := s) q2
 refine VW.rA (tm 67 [(1, .sl 1 (rows ci_i64 plan)), (2, .ptr 0 0 0), (14, .b (!r1))]) [some (7, [(pT23 s)])] [] hC (VW.condI h (fun h => ?_) (fun h => ?_)) (h := by simp -implicitDefEqProofs [c2])
 · refine VW.seq (VW.rA (tm 67 [(4, .ref 1 0 0), (5, .i .i64 0), (6, .i .i64 1)]) [some (7, [(pT23 s)]), some (1, rows ci_i64 [])] [] hC ?_)
   obtain rfl := leafS h
   exact VW.ret (VRet.fin (by simp [eB25]))
 refine VW.skip (VW.seq (VW.seq ?_))
 obtain ⟨w6, q128, h⟩ := bindE h
 refine VW.evalA (tm 67 [(1, .sl 1 (rows ci_i64 plan)), (2, .ptr 0 0 0), (28, .b w6)]) [some (7, [(pT23 s)])] [] hC (by kernel_rfl) (by
     obtain ⟨q129, q128⟩ | ⟨q129, rfl⟩ := gdF q128
     · obtain ⟨r4, q5, q128⟩ := bindQ q128
       have c5 := tl44 q5
       obtain rfl := Option.some.inj q128
       simp -implicitDefEqProofs [q129, c5]
     simp -implicitDefEqProofs [q129]) ?_
 refine VW.condI h (fun h => ?_) (fun h => ?_)
 · refine VW.seq (VW.rA (tm 67 [(4, .ref 1 0 0), (5, .i .i64 0), (6, .i .i64 2)]) [some (7, [(pT23 s)]), some (1, rows ci_i64 [])] [] hC ?_)
   obtain rfl := leafS h
   exact VW.ret (VRet.fin (by simp [eB25]))
 refine VW.skip (VW.seq (VW.rA (tm 67 [(1, .sl 1 (rows ci_i64 plan)), (2, .ptr 0 0 0), (7, .ref 1 0 0)]) [some (7, [(pT23 s)]), some (1, rows ci_i64 [])] [] hC (VW.seq (VW.rA (tm 67 [(1, .sl 1 (rows ci_i64 plan)), (2, .ptr 0 0 0), (7, .ref 1 0 0), (8, .i .i64 s.first_)]) [some (7, [(pT23 s)]), some (1, rows ci_i64 [])] [] hC (VW.seq (VW.rA (tm 67 [(1, .sl 1 (rows ci_i64 plan)), (2, .ptr 0 0 0), (7, .ref 1 0 0), (8, .i .i64 s.first_), (9, .i .i64 0)]) [some (7, [(pT23 s)]), some (1, rows ci_i64 [])] [] hC (VW.join (fun (v : Int × (List Int)) => (⟨(tm 67 [(7, .ref 1 0 v.2.length), (9, .i .i64 v.1)]), [some (7, [(pT23 s)]), some (1, rows ci_i64 v.2)], []⟩ : VS)) (fun v => (g25_j1 (v.1) (v.2)).bind some = some r) ?_ ?_)))))))
 · refine VW.seq (VW.rA (tm 67 [(1, .sl 1 (rows ci_i64 plan)), (2, .ptr 0 0 0), (7, .ref 1 0 0), (8, .i .i64 s.first_), (9, .i .i64 0), (10, .i .i64 0)]) [some (7, [(pT23 s)]), some (1, rows ci_i64 [])] [] hC (VW.block ?_))
   obtain ⟨w_1, hw_1, h⟩ := bindE h
   refine VW.loopO (fun (x : Int × Int × Int × (List Int)) => (⟨(tm 67 [(1, .sl 1 (rows ci_i64 plan)), (2, .ptr 0 0 0), (7, .ref 1 0 x.2.2.2.length), (8, .i .i64 x.1), (9, .i .i64 x.2.1), (10, .i .i64 x.2.2.1)]), [some (7, [(pT23 s)]), some (1, rows ci_i64 x.2.2.2)], []⟩ : VS)) hw_1 (Ent.tu 2) ?_
   rintro n_1 ⟨at_107, other_108, k_109, l110⟩ h1
   rw [g25_L1] at h1
   refine VW.seq (VW.seq (VW.rA (tm 67 [(1, .sl 1 (rows ci_i64 plan)), (2, .ptr 0 0 0), (7, .ref 1 0 l110.length), (8, .i .i64 at_107), (9, .i .i64 other_108), (10, .i .i64 k_109), (36, .b (ltI k_109 (plan.length : Int)))]) [some (7, [(pT23 s)]), some (1, rows ci_i64 l110)] [] hC (VW.condJ h1 (fun h1 => ?_) (fun h1 => ?_))))
   · refine VW.exit ?_
     have e_ := leafR h1
     subst w_1
     exact vnext (other_108, l110) h (Ent.tu 2)
   refine VW.skip (VW.seq (VW.block (VW.seq ?_)))
   obtain ⟨e112, ⟨f113a, f113b, f113c, f113d⟩, h1⟩ := bindI h1
   refine VW.rA (tm 67 [(1, .sl 1 (rows ci_i64 plan)), (2, .ptr 0 0 0), (7, .ref 1 0 l110.length), (8, .i .i64 at_107), (9, .i .i64 other_108), (10, .i .i64 k_109), (11, .i .i64 e112)]) [some (7, [(pT23 s)]), some (1, rows ci_i64 l110)] [] hC (VW.seq ?_) (h := by simp -implicitDefEqProofs [f113a, f113b, f113c, f113d])
   obtain ⟨r114, q115, h1⟩ := bindE h1
   have c115 : F45 [.cptr (pT23 s) 0, .i .i64 k_109, .i .i64 at_107, .i .i64 e112] = some (.i .i64 r114) := tells_eq inj45 (a := (s, k_109, at_107, e112)) q115
   refine VW.rA (tm 67 [(1, .sl 1 (rows ci_i64 plan)), (2, .ptr 0 0 0), (7, .ref 1 0 l110.length), (8, .i .i64 at_107), (9, .i .i64 other_108), (10, .i .i64 k_109), (11, .i .i64 e112), (12, .i .i64 r114)]) [some (7, [(pT23 s)]), some (1, rows ci_i64 l110)] [] hC (VW.join (fun (v : Int × Int × Int) => (⟨(tm 67 [(1, .sl 1 (rows ci_i64 plan)), (2, .ptr 0 0 0), (7, .ref 1 0 l110.length), (9, .i .i64 v.1), (10, .i .i64 k_109), (11, .i .i64 v.2.1), (12, .i .i64 v.2.2)]), [some (7, [(pT23 s)]), some (1, rows ci_i64 l110)], []⟩ : VS)) (fun v => (g25_j2 l110 k_109 (v.1) (v.2.1) (v.2.2)).bind (kN (g25_L1 plan s) n_1) = some w_1) ?_ ?_) (h := by simp -implicitDefEqProofs [c115])
   · refine VW.seq (VW.rA (tm 67 [(1, .sl 1 (rows ci_i64 plan)), (2, .ptr 0 0 0), (7, .ref 1 0 l110.length), (8, .i .i64 at_107), (9, .i .i64 other_108), (10, .i .i64 k_109), (11, .i .i64 e112), (12, .i .i64 r114), (48, .b (ltI r114 0))]) [some (7, [(pT23 s)]), some (1, rows ci_i64 l110)] [] hC (VW.condJ h1 (fun h1 => ?_) (fun h1 => ?_)))
     · exact VW.skip (vnext (other_108, e112, r114) h1 (Ent.tu 2))
     refine VW.seq ?_
     obtain ⟨r126, q127, h1⟩ := bindE h1
     have c127 : F46 [.cptr (pT23 s) 0, .i .i64 k_109, .i .i64 at_107] = some (.tup [.i .i64 r126.1, .i .i64 r126.2]) := tells_eq inj46 (a := (s, k_109, at_107)) q127
     exact VW.rA (tm 67 [(1, .sl 1 (rows ci_i64 plan)), (2, .ptr 0 0 0), (7, .ref 1 0 l110.length), (9, .i .i64 other_108), (10, .i .i64 k_109), (11, .i .i64 r126.1), (12, .i .i64 r126.2)]) [some (7, [(pT23 s)]), some (1, rows ci_i64 l110)] [] hC (VW.rA (tm 67 [(1, .sl 1 (rows ci_i64 plan)), (2, .ptr 0 0 0), (7, .ref 1 0 l110.length), (9, .i .i64 (aI .i64 other_108 1)), (10, .i .i64 k_109), (11, .i .i64 r126.1), (12, .i .i64 r126.2)]) [some (7, [(pT23 s)]), some (1, rows ci_i64 l110)] [] hC (vnext (aI .i64 other_108 1, r126.1, r126.2) h1 (Ent.tu 2))) (h := by simp -implicitDefEqProofs [c127])
   rintro ⟨other_119, n_120, next_121⟩ h1
   replace h1 : (g25_j2 l110 k_109 other_119 n_120 next_121).bind _ = _ := h1
   rw [g25_j2] at h1
   refine VW.seq (VW.seq (VW.rA (tm 67 [(1, .sl 1 (rows ci_i64 plan)), (2, .ptr 0 0 0), (7, .ref 1 0 l110.length), (9, .i .i64 other_119), (10, .i .i64 k_109), (11, .i .i64 n_120), (12, .i .i64 next_121), (58, .b (ltI n_120 0))]) [some (7, [(pT23 s)]), some (1, rows ci_i64 l110)] [] hC (VW.condI h1 (fun h1 => ?_) (fun h1 => ?_))))
   · refine VW.seq (VW.rA (tm 67 [(4, .ref 2 0 0), (5, .i .i64 0), (6, .i .i64 6)]) [some (7, [(pT23 s)]), some (1, rows ci_i64 l110), some (1, rows ci_i64 [])] [] hC ?_)
     have e_ := leafR h1
     subst w_1
     obtain rfl := leafS h
     exact VW.ret (VRet.fin (by simp [eB25]))
   refine VW.skip (VW.seq ?_)
   obtain ⟨u123, ⟨f124a, f124b⟩, h1⟩ := bindP h1
   try simp only [Int.toNat_natCast, Int.reduceToNat, List.length_cons, List.length_nil, Nat.reduceAdd, Nat.zero_add] at f124a f124b
   exact VW.rA (tm 67 [(1, .sl 1 (rows ci_i64 plan)), (2, .ptr 0 0 0), (7, .ref 1 0 (l110 ++ [n_120]).length), (9, .i .i64 other_119), (10, .i .i64 k_109), (12, .i .i64 next_121)]) [some (7, [(pT23 s)]), some (1, rows ci_i64 (l110 ++ [n_120])), some (1, rows ci_i64 [n_120])] [] hC (VW.rA (tm 67 [(1, .sl 1 (rows ci_i64 plan)), (2, .ptr 0 0 0), (7, .ref 1 0 (l110 ++ [n_120]).length), (8, .i .i64 next_121), (9, .i .i64 other_119), (10, .i .i64 k_109)]) [some (7, [(pT23 s)]), some (1, rows ci_i64 (l110 ++ [n_120])), some (1, rows ci_i64 [n_120])] [] hC (VW.rA (tm 67 [(1, .sl 1 (rows ci_i64 plan)), (2, .ptr 0 0 0), (7, .ref 1 0 (l110 ++ [n_120]).length), (8, .i .i64 next_121), (9, .i .i64 other_119), (10, .i .i64 (aI .i64 k_109 1))]) [some (7, [(pT23 s)]), some (1, rows ci_i64 (l110 ++ [n_120])), some (1, rows ci_i64 [n_120])] [] hC (vnext (next_121, other_119, aI .i64 k_109 1, (l110 ++ [n_120])) (leafL h1) (Ent.tu 2)))) (h := by simp -implicitDefEqProofs [f124a, f124b])
 rintro ⟨other_67, l68⟩ h
 replace h : (g25_j1 other_67 l68).bind _ = _ := h
 rw [g25_j1] at h
 refine VW.seq (VW.rA (tm 67 [(4, .ref 1 0 l68.length), (5, .i .i64 other_67), (6, .i .i64 0)]) [some (7, [(pT23 s)]), some (1, rows ci_i64 l68)] [] hC ?_)
 obtain rfl := leafS h
 exact VW.ret (VRet.fin (by simp [eB25]))
theorem tl25 {s : T23} {plan : List Int} {r : (List Int) × Int × Int} (h : g25 s plan = some r) : F25 [.agg [.sl 1 (rows ci_i64 s.need_), .sl 1 (rows ci_i64 s.price_), .i .i64 s.most_, .i .i64 s.yield_, .i .i64 s.store_, .i .i64 s.first_, .i .i64 s.loss_], .sl 1 (rows ci_i64 plan)] = some (.tup [.own 1 (rows ci_i64 r.1), .i .i64 r.2.1, .i .i64 r.2.2]) := tells_eq inj25 (a := (s, plan)) h
end Go.Proofs.Ytboeddbhfnlpaaa
