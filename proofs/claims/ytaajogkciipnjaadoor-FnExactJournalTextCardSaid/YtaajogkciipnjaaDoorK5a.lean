/- Contracts of the functions that the law reaches: what each tells, as a function in Lean. -/
import Derived.Test.YtaajogkciipnjaaDoorK5Ty
import Derived.KernelRfl
namespace Go.Proofs.YtaajogkciipnjaaDoor
open Go.RowKit Go.VL
set_option linter.unusedSimpArgs false
set_option linter.unusedVariables false
set_option maxHeartbeats 40000000
set_option maxRecDepth 100000
noncomputable def g38 (n : Int) (low : Int) (high : Int) : Option (Bool) :=
some (leI low n && leI n high)
def eA38 (a : Int × Int × Int) : List V := [.i .i64 a.1, .i .i64 a.2.1, .i .i64 a.2.2]
def eB38 (r : Bool) : V := .b r
theorem inj38 (a a' : Int × Int × Int) (h : eA38 a = eA38 a') : a = a' := by
  obtain ⟨i1, i2, i3⟩ := a
  obtain ⟨i4, i5, i6⟩ := a'
  simp only [eA38, List.cons.injEq, V.i.injEq, V.b.injEq, V.f.injEq, V.str.injEq, V.sl.injEq, V.agg.injEq, V.cptr.injEq, true_and, and_true] at h
  simp_all
noncomputable def F38 : List V → Option V := tells (fun a => g38 a.1 a.2.1 a.2.2) eA38 eB38
/- loop.example/g01229/spec.l00In -/
theorem ok38 : Tells Tryd.prog 38 F38 := by
 refine Tells.go 15 Tryd.func38 rfl rfl rfl (by kernel_rfl) (fun _ => rfl) ?_
 rintro ⟨n, low, high⟩ r h
 simp only [eA38, en, Nat.reduceAdd]
 replace h : (g38 n low high).bind some = some r := bindS h
 rw [g38] at h
 have hC : CEnv.Ok Tryd.prog [] := trivial
 refine VW.seq (VW.rA (tm 15 [(0, .i .i64 n), (1, .i .i64 low), (2, .i .i64 high)]) [] [] hC (VW.seq (VW.rA (tm 15 [(6, .b (leI low n && leI n high))]) [] [] hC ?_)))
 obtain rfl := leafS h
 exact VW.ret (VRet.fin (by simp [eB38]))
theorem tl38 {n : Int} {low : Int} {high : Int} {r : Bool} (h : g38 n low high = some r) : F38 [.i .i64 n, .i .i64 low, .i .i64 high] = some (.b r) := tells_eq inj38 (a := (n, low, high)) h
noncomputable def g39 (kind : Int) : Option (Bool) :=
some (((eqI kind 1 || eqI kind 5) || eqI kind 6) || eqI kind 8)
def eA39 (a : Int) : List V := [.i .i64 a]
def eB39 (r : Bool) : V := .b r
theorem inj39 (a a' : Int) (h : eA39 a = eA39 a') : a = a' := by
  obtain i7 := a
  obtain i8 := a'
  simp only [eA39, List.cons.injEq, V.i.injEq, V.b.injEq, V.f.injEq, V.str.injEq, V.sl.injEq, V.agg.injEq, V.cptr.injEq, true_and, and_true] at h
  simp_all
noncomputable def F39 : List V → Option V := tells (fun a => g39 a) eA39 eB39
/- loop.example/g01229/spec.l06Two -/
theorem ok39 : Tells Tryd.prog 39 F39 := by
 refine Tells.go 17 Tryd.func39 rfl rfl rfl (by kernel_rfl) (fun _ => rfl) ?_
 rintro kind r h
 simp only [eA39, en, Nat.reduceAdd]
 replace h : (g39 kind).bind some = some r := bindS h
 rw [g39] at h
 have hC : CEnv.Ok Tryd.prog [] := trivial
 refine VW.seq (VW.rA (tm 17 [(0, .i .i64 kind)]) [] [] hC (VW.seq (VW.rA (tm 17 [(2, .b (((eqI kind 1 || eqI kind 5) || eqI kind 6) || eqI kind 8))]) [] [] hC ?_)))
 obtain rfl := leafS h
 exact VW.ret (VRet.fin (by simp [eB39]))
theorem tl39 {kind : Int} {r : Bool} (h : g39 kind = some r) : F39 [.i .i64 kind] = some (.b r) := tells_eq inj39 (a := kind) h
noncomputable def g19 (a : T25) : Option (Bool) :=
(g38 a.kind_ 1 9).bind fun r1 =>
(if r1 = true then (g38 a.a_ 0 999).bind fun r3 => some r3 else some false).bind fun w5 =>
(if w5 = true then (g38 a.b_ 0 999).bind fun r6 => some r6 else some false).bind fun w8 =>
(if w8 = true then (if eqI a.b_ 0 = true then some true else (g39 a.kind_).bind fun r9 => some r9).bind fun w11 => some w11 else some false).bind fun w12 =>
some w12
def eA19 (a : T25) : List V := [.cptr (pT25 a) 0]
def eB19 (r : Bool) : V := .b r
theorem inj19 (a a' : T25) (h : eA19 a = eA19 a') : a = a' := by
  obtain ⟨i9, i10, i11⟩ := a
  obtain ⟨i12, i13, i14⟩ := a'
  simp only [eA19, pT25, List.cons.injEq, V.i.injEq, V.b.injEq, V.f.injEq, V.str.injEq, V.sl.injEq, V.agg.injEq, V.cptr.injEq, true_and, and_true] at h
  simp_all
noncomputable def F19 : List V → Option V := tells (fun a => g19 a) eA19 eB19
/- loop.example/g01229/spec.l06Act -/
theorem ok19 : Tells Tryd.prog 19 F19 := by
 refine Tells.go 36 Tryd.func19 rfl rfl rfl (by kernel_rfl) (fun _ => rfl) ?_
 rintro a r h
 simp only [eA19, en, Nat.reduceAdd]
 replace h : (g19 a).bind some = some r := bindS h
 rw [g19] at h
 have hC : CEnv.Ok Tryd.prog [(38, F38), (39, F39)] := ⟨.inl ok38, .inl ok39, trivial⟩
 refine VW.seq (VW.rA (tm 36 [(0, .cptr (pT25 a) 0)]) [] [] hC (VW.seq ?_))
 obtain ⟨r1, q2, h⟩ := bindE h
 have c2 := tl38 q2
 obtain ⟨w5, q13, h⟩ := bindE h
 obtain ⟨w8, q14, h⟩ := bindE h
 obtain ⟨w12, q15, h⟩ := bindE h
 refine VW.evalA (tm 36 [(2, .b w12)]) [] [] hC (by kernel_rfl) (by
     obtain ⟨q16, q13⟩ | ⟨q16, rfl⟩ := gdT q13
     · obtain ⟨r3, q4, q13⟩ := bindQ q13
       have c4 := tl38 q4
       obtain rfl := Option.some.inj q13
       obtain ⟨q17, q14⟩ | ⟨q17, rfl⟩ := gdT q14
       · obtain ⟨r6, q7, q14⟩ := bindQ q14
         have c7 := tl38 q7
         obtain rfl := Option.some.inj q14
         obtain ⟨q18, q15⟩ | ⟨q18, rfl⟩ := gdT q15
         · obtain ⟨w11, q19, q15⟩ := bindQ q15
           obtain rfl := Option.some.inj q15
           obtain ⟨q20, q19⟩ | ⟨q20, rfl⟩ := gdF q19
           · obtain ⟨r9, q10, q19⟩ := bindQ q19
             have c10 := tl39 q10
             obtain rfl := Option.some.inj q19
             simp -implicitDefEqProofs [c2, q16, c4, q17, c7, q18, q20, c10, pT25]
           simp -implicitDefEqProofs [c2, q16, c4, q17, c7, q18, q20, pT25]
         simp -implicitDefEqProofs [c2, q16, c4, q17, c7, q18, pT25]
       obtain ⟨q21, q15⟩ | ⟨q21, rfl⟩ := gdT q15
       · exact absurd q21 (by simp)
       simp -implicitDefEqProofs [c2, q16, c4, q17, q21, pT25]
     obtain ⟨q22, q14⟩ | ⟨q22, rfl⟩ := gdT q14
     · exact absurd q22 (by simp)
     obtain ⟨q23, q15⟩ | ⟨q23, rfl⟩ := gdT q15
     · exact absurd q23 (by simp)
     simp -implicitDefEqProofs [c2, q16, q22, q23, pT25]) ?_
 obtain rfl := leafS h
 exact VW.ret (VRet.fin (by simp [eB19]))
theorem tl19 {a : T25} {r : Bool} (h : g19 a = some r) : F19 [.cptr [.i .i64 a.kind_, .i .i64 a.a_, .i .i64 a.b_] 0] = some (.b r) := tells_eq inj19 (a := a) h
noncomputable def g40 : Option (List ByteArray) :=
some [ByteArray.empty, (⟨#[108, 111, 97, 100]⟩ : ByteArray), (⟨#[107, 105, 110, 100, 108, 101]⟩ : ByteArray), (⟨#[114, 97, 107, 101]⟩ : ByteArray), (⟨#[99, 108, 101, 97, 110]⟩ : ByteArray), (⟨#[112, 97, 110, 101]⟩ : ByteArray), (⟨#[98, 114, 97, 105, 110]⟩ : ByteArray), (⟨#[109, 117, 116, 101]⟩ : ByteArray), (⟨#[100, 97, 109, 112, 101, 114]⟩ : ByteArray), (⟨#[119, 97, 105, 116]⟩ : ByteArray)]
def eA40 (a : Unit) : List V := []
def eB40 (r : List ByteArray) : V := .own 1 (rows cs_ r)
theorem inj40 (a a' : Unit) (h : eA40 a = eA40 a') : a = a' := by
  obtain ⟨⟩ := a
  obtain ⟨⟩ := a'
  simp only [eA40, List.cons.injEq, V.i.injEq, V.b.injEq, V.f.injEq, V.str.injEq, V.sl.injEq, V.agg.injEq, V.cptr.injEq, true_and, and_true] at h
  simp_all
noncomputable def F40 : List V → Option V := tells (fun a => g40) eA40 eB40
/- loop.example/g01229/spec.l06Words -/
theorem ok40 : Tells Tryd.prog 40 F40 := by
 refine Tells.go 2 Tryd.func40 rfl rfl rfl (by kernel_rfl) (fun _ => rfl) ?_
 rintro ⟨⟩ r h
 simp only [eA40, en, Nat.reduceAdd]
 replace h : (g40).bind some = some r := bindS h
 rw [g40] at h
 have hC : CEnv.Ok Tryd.prog [] := trivial
 refine VW.seq (VW.rA (tm 2 []) [] [] hC (VW.seq (VW.rA (tm 2 [(0, .ref 0 0 [ByteArray.empty, (⟨#[108, 111, 97, 100]⟩ : ByteArray), (⟨#[107, 105, 110, 100, 108, 101]⟩ : ByteArray), (⟨#[114, 97, 107, 101]⟩ : ByteArray), (⟨#[99, 108, 101, 97, 110]⟩ : ByteArray), (⟨#[112, 97, 110, 101]⟩ : ByteArray), (⟨#[98, 114, 97, 105, 110]⟩ : ByteArray), (⟨#[109, 117, 116, 101]⟩ : ByteArray), (⟨#[100, 97, 109, 112, 101, 114]⟩ : ByteArray), (⟨#[119, 97, 105, 116]⟩ : ByteArray)].length)]) [some (1, rows cs_ [ByteArray.empty, (⟨#[108, 111, 97, 100]⟩ : ByteArray), (⟨#[107, 105, 110, 100, 108, 101]⟩ : ByteArray), (⟨#[114, 97, 107, 101]⟩ : ByteArray), (⟨#[99, 108, 101, 97, 110]⟩ : ByteArray), (⟨#[112, 97, 110, 101]⟩ : ByteArray), (⟨#[98, 114, 97, 105, 110]⟩ : ByteArray), (⟨#[109, 117, 116, 101]⟩ : ByteArray), (⟨#[100, 97, 109, 112, 101, 114]⟩ : ByteArray), (⟨#[119, 97, 105, 116]⟩ : ByteArray)])] [] hC ?_)))
 obtain rfl := leafS h
 exact VW.ret (VRet.fin (by simp [eB40]))
noncomputable def g41b (self : Int → Option ByteArray) (n : Int) : Option (ByteArray) :=
if leI 10 n = true then
(dI .i64 n 10).bind fun d2 =>
(self d2).bind fun r4 =>
(rI .i64 n 10).bind fun d6 =>
(catS r4 (strOfNums [cI .u8 (aI .i64 48 d6)])).bind fun z8 =>
some z8
else
some (strOfNums [cI .u8 (aI .i64 48 n)])
noncomputable def g41 (n : Int) : Option (ByteArray) := fixO (fun self a => g41b self a) n
def eA41 (a : Int) : List V := [.i .i64 a]
def eB41 (r : ByteArray) : V := .str r
theorem inj41 (a a' : Int) (h : eA41 a = eA41 a') : a = a' := by
  obtain i15 := a
  obtain i16 := a'
  simp only [eA41, List.cons.injEq, V.i.injEq, V.b.injEq, V.f.injEq, V.str.injEq, V.sl.injEq, V.agg.injEq, V.cptr.injEq, true_and, and_true] at h
  simp_all
noncomputable def F41 : List V → Option V := tells (fun a => g41 a) eA41 eB41
/- loop.example/g01229/spec.Decimal -/
theorem ok41 : Tells Tryd.prog 41 F41 := by
 show Tells Tryd.prog 41 (tells (fixO fun self a => g41b self a) eA41 eB41)
 refine Tells.fix inj41 (by kernel_rfl) fun self hself => ?_
 refine Tells.go 20 Tryd.func41 rfl rfl rfl (by kernel_rfl) (fun _ => rfl) ?_
 rintro n r h
 simp only [eA41, en, Nat.reduceAdd]
 replace h : (g41b self n).bind some = some r := bindS h
 rw [g41b] at h
 have hC : CEnv.Ok Tryd.prog [(41, tells self eA41 eB41)] := ⟨.inl hself, trivial⟩
 refine VW.seq (VW.rA (tm 20 [(0, .i .i64 n)]) [] [] hC (VW.seq (VW.seq (VW.rA (tm 20 [(0, .i .i64 n), (4, .b (leI 10 n))]) [] [] hC (VW.condJ h (fun h => ?_) (fun h => ?_))))))
 · refine VW.skip (VW.seq (VW.rA (tm 20 [(2, .str (strOfNums [cI .u8 (aI .i64 48 n)]))]) [some (1, rows ci_u8 [cI .u8 (aI .i64 48 n)])] [] hC ?_))
   obtain rfl := leafS h
   exact VW.ret (VRet.fin (by simp [eB41]))
 refine VW.seq ?_
 obtain ⟨d2, q3, h⟩ := bindE h
 obtain ⟨r4, q5, h⟩ := bindE h
 have c5 : (tells self eA41 eB41) [.i .i64 d2] = some (.str r4) := tells_eq inj41 (a := d2) q5
 obtain ⟨d6, q7, h⟩ := bindE h
 obtain ⟨z8, q9, h⟩ := bindE h
 refine VW.rD (tm 20 [(2, .str z8)]) [some (1, rows ci_u8 [cI .u8 (aI .i64 48 d6)])] [] hC mixed ?_ (h := by simp -implicitDefEqProofs [q3, c5, q7, q9])
 obtain rfl := leafS h
 exact VW.ret (VRet.fin (by simp [eB41]))
theorem tl41 {n : Int} {r : ByteArray} (h : g41 n = some r) : F41 [.i .i64 n] = some (.str r) := tells_eq inj41 (a := n) h
noncomputable def g20 (a : T25) : Option (ByteArray) :=
(g40).bind fun r1 =>
(idx r1 a.kind_).bind fun e3 =>
(catS e3 (⟨#[32]⟩ : ByteArray)).bind fun z5 =>
(g41 a.a_).bind fun r7 =>
(catS z5 r7).bind fun z9 =>
(g39 a.kind_).bind fun r11 =>
if r11 = true then
(g41 a.b_).bind fun r14 =>
(catS (⟨#[32]⟩ : ByteArray) r14).bind fun z16 =>
(catS z9 z16).bind fun z18 =>
some z18
else
some z9
def eA20 (a : T25) : List V := [.cptr (pT25 a) 0]
def eB20 (r : ByteArray) : V := .str r
theorem inj20 (a a' : T25) (h : eA20 a = eA20 a') : a = a' := by
  obtain ⟨i17, i18, i19⟩ := a
  obtain ⟨i20, i21, i22⟩ := a'
  simp only [eA20, pT25, List.cons.injEq, V.i.injEq, V.b.injEq, V.f.injEq, V.str.injEq, V.sl.injEq, V.agg.injEq, V.cptr.injEq, true_and, and_true] at h
  simp_all
noncomputable def F20 : List V → Option V := tells (fun a => g20 a) eA20 eB20
/- loop.example/g01229/spec.l06ActText -/
theorem ok20 : Tells Tryd.prog 20 F20 := by
 refine Tells.go 32 Tryd.func20 rfl rfl rfl (by kernel_rfl) (fun _ => rfl) ?_
 rintro a r h
 simp only [eA20, en, Nat.reduceAdd]
 replace h : (g20 a).bind some = some r := bindS h
 rw [g20] at h
 have hC : CEnv.Ok Tryd.prog [(39, F39), (40, fzF F40), (41, F41)] := ⟨.inl ok39, .inl ok40.fz, .inl ok41, trivial⟩
 refine VW.seq (VW.rA (tm 32 [(0, .cptr (pT25 a) 0)]) [] [] hC (VW.seq ?_))
 obtain ⟨r1, q2, h⟩ := bindE h
 have c2 : F40 [] = some (.own 1 (rows cs_ r1)) := tells_eq inj40 (a := ()) q2
 replace c2 : fzF F40 [] = some (.sl 1 (rows cs_ r1)) := (fzF_eq c2).trans (by simp)
 obtain ⟨e3, ⟨f4a, f4b, f4c, f4d⟩, h⟩ := bindI h
 obtain ⟨z5, q6, h⟩ := bindE h
 obtain ⟨r7, q8, h⟩ := bindE h
 have c8 := tl41 q8
 obtain ⟨z9, q10, h⟩ := bindE h
 refine VW.rD (tm 32 [(0, .cptr (pT25 a) 0), (3, .str z9)]) [] [] hC mixed (VW.seq (VW.seq ?_)) (h := by simp -implicitDefEqProofs [c2, f4a, f4b, f4c, f4d, q6, c8, q10])
 obtain ⟨r11, q12, h⟩ := bindE h
 have c12 := tl39 q12
 refine VW.rA (tm 32 [(0, .cptr (pT25 a) 0), (3, .str z9), (22, .b r11)]) [] [] hC (VW.condJ h (fun h => ?_) (fun h => ?_)) (h := by simp -implicitDefEqProofs [c12])
 · refine VW.skip (VW.seq (VW.rA (tm 32 [(2, .str z9)]) [] [] hC ?_))
   obtain rfl := leafS h
   exact VW.ret (VRet.fin (by simp [eB20]))
 obtain ⟨r14, q15, h⟩ := bindE h
 have c15 := tl41 q15
 obtain ⟨z16, q17, h⟩ := bindE h
 obtain ⟨z18, q19, h⟩ := bindE h
 refine VW.rA (tm 32 [(3, .str z18)]) [] [] hC (VW.seq (VW.rA (tm 32 [(2, .str z18)]) [] [] hC ?_)) (h := by simp -implicitDefEqProofs [c15, q17, q19])
 obtain rfl := leafS h
 exact VW.ret (VRet.fin (by simp [eB20]))
theorem tl20 {a : T25} {r : ByteArray} (h : g20 a = some r) : F20 [.cptr [.i .i64 a.kind_, .i .i64 a.a_, .i .i64 a.b_] 0] = some (.str r) := tells_eq inj20 (a := a) h
noncomputable def g6 (a : T25) : Option (ByteArray) :=
(g19 a).bind fun r1 =>
if (!r1) = true then
some ByteArray.empty
else
(g20 a).bind fun r4 =>
some r4
def eA6 (a : T25) : List V := [.agg (pT25 a)]
def eB6 (r : ByteArray) : V := .str r
theorem inj6 (a a' : T25) (h : eA6 a = eA6 a') : a = a' := by
  obtain ⟨i29, i30, i31⟩ := a
  obtain ⟨i32, i33, i34⟩ := a'
  simp only [eA6, pT25, List.cons.injEq, V.i.injEq, V.b.injEq, V.f.injEq, V.str.injEq, V.sl.injEq, V.agg.injEq, V.cptr.injEq, true_and, and_true] at h
  simp_all
noncomputable def F6 : List V → Option V := tells (fun a => g6 a) eA6 eB6
/- loop.example/g01229/spec.ActText -/
theorem ok6 : Tells Tryd.prog 6 F6 := by
 refine Tells.go 6 Tryd.func6 rfl rfl rfl (by kernel_rfl) (fun _ => rfl) ?_
 rintro a r h
 simp only [eA6, en, Nat.reduceAdd]
 replace h : (g6 a).bind some = some r := bindS h
 rw [g6] at h
 have hC : CEnv.Ok Tryd.prog [(19, F19), (20, F20)] := ⟨.inl ok19, .inl ok20, trivial⟩
 refine VW.seq (VW.rA (tm 6 [(1, .ptr 0 0 0)]) [some (3, [(pT25 a)])] [] hC (VW.seq (VW.seq ?_)))
 obtain ⟨r1, q2, h⟩ := bindE h
 have c2 : F19 [.cptr (pT25 a) 0] = some (.b r1) := tells_eq inj19 (a := a) q2
 refine VW.rA (tm 6 [(1, .ptr 0 0 0), (4, .b (!r1))]) [some (3, [(pT25 a)])] [] hC (VW.condI h (fun h => ?_) (fun h => ?_)) (h := by simp -implicitDefEqProofs [c2])
 · refine VW.seq (VW.rA (tm 6 [(2, .str ByteArray.empty)]) [some (3, [(pT25 a)])] [] hC ?_)
   obtain rfl := leafS h
   exact VW.ret (VRet.fin (by simp [eB6]))
 refine VW.skip (VW.seq ?_)
 obtain ⟨r4, q5, h⟩ := bindE h
 have c5 : F20 [.cptr (pT25 a) 0] = some (.str r4) := tells_eq inj20 (a := a) q5
 refine VW.rA (tm 6 [(2, .str r4)]) [some (3, [(pT25 a)])] [] hC ?_ (h := by simp -implicitDefEqProofs [c5])
 obtain rfl := leafS h
 exact VW.ret (VRet.fin (by simp [eB6]))
theorem tl6 {a : T25} {r : ByteArray} (h : g6 a = some r) : F6 [.agg [.i .i64 a.kind_, .i .i64 a.a_, .i .i64 a.b_]] = some (.str r) := tells_eq inj6 (a := a) h
noncomputable def g7 (a : T25) : Option (T25) :=
some a
def eA7 (a : T25) : List V := [.agg (pT25 a)]
def eB7 (r : T25) : V := .agg [.i .i64 r.kind_, .i .i64 r.a_, .i .i64 r.b_]
theorem inj7 (a a' : T25) (h : eA7 a = eA7 a') : a = a' := by
  obtain ⟨i35, i36, i37⟩ := a
  obtain ⟨i38, i39, i40⟩ := a'
  simp only [eA7, pT25, List.cons.injEq, V.i.injEq, V.b.injEq, V.f.injEq, V.str.injEq, V.sl.injEq, V.agg.injEq, V.cptr.injEq, true_and, and_true] at h
  simp_all
noncomputable def F7 : List V → Option V := tells (fun a => g7 a) eA7 eB7
/- loop.example/g01229/laws.toAct -/
theorem ok7 : Tells Tryd.prog 7 F7 := by
 refine Tells.go 14 Tryd.func7 rfl rfl rfl (by kernel_rfl) (fun _ => rfl) ?_
 rintro a r h
 simp only [eA7, en, Nat.reduceAdd]
 replace h : (g7 a).bind some = some r := bindS h
 rw [g7] at h
 have hC : CEnv.Ok Tryd.prog [] := trivial
 refine VW.seq (VW.rA (tm 14 [(1, .ptr 0 0 0), (2, .ptr 1 0 0)]) [some (3, [(pT25 a)]), some (3, [[.i .i64 0, .i .i64 0, .i .i64 0]])] [] hC (VW.seq (VW.rA (tm 14 [(1, .ptr 0 0 0), (2, .ptr 1 0 0), (3, .ptr 2 0 0)]) [some (3, [(pT25 a)]), some (3, [[.i .i64 0, .i .i64 0, .i .i64 0]]), some (3, [[.i .i64 0, .i .i64 0, .i .i64 0]])] [] hC (VW.seq (VW.rA (tm 14 [(1, .ptr 0 0 0), (2, .ptr 1 0 0), (3, .ptr 2 0 0)]) [some (3, [(pT25 a)]), some (3, [[.i .i64 0, .i .i64 0, .i .i64 0]]), some (3, [[.i .i64 a.kind_, .i .i64 0, .i .i64 0]])] [] hC (VW.seq (VW.rA (tm 14 [(1, .ptr 0 0 0), (2, .ptr 1 0 0), (3, .ptr 2 0 0)]) [some (3, [(pT25 a)]), some (3, [[.i .i64 0, .i .i64 0, .i .i64 0]]), some (3, [[.i .i64 a.kind_, .i .i64 a.a_, .i .i64 0]])] [] hC (VW.seq (VW.rA (tm 14 [(2, .ptr 1 0 0), (3, .ptr 2 0 0)]) [some (3, [(pT25 a)]), some (3, [[.i .i64 0, .i .i64 0, .i .i64 0]]), some (3, [(pT25 a)])] [] hC (VW.seq (VW.rA (tm 14 [(2, .ptr 1 0 0)]) [some (3, [(pT25 a)]), some (3, [(pT25 a)]), some (3, [(pT25 a)])] [] hC ?_ (h := by first | (simp -implicitDefEqProofs; done) | simp -implicitDefEqProofs [pT25]))) (h := by first | (simp -implicitDefEqProofs; done) | simp -implicitDefEqProofs [pT25]))) (h := by first | (simp -implicitDefEqProofs; done) | simp -implicitDefEqProofs [pT25]))) (h := by first | (simp -implicitDefEqProofs; done) | simp -implicitDefEqProofs [pT25]))) (h := by first | (simp -implicitDefEqProofs; done) | simp -implicitDefEqProofs [pT25]))) (h := by first | (simp -implicitDefEqProofs; done) | simp -implicitDefEqProofs [pT25]))
 obtain rfl := leafS h
 refine VW.ret (VRet.fin ?_)
 first | (simp [eB7]; done) | simp [eB7, pT25]
theorem tl7 {a : T25} {r : T25} (h : g7 a = some r) : F7 [.agg [.i .i64 a.kind_, .i .i64 a.a_, .i .i64 a.b_]] = some (.agg [.i .i64 r.kind_, .i .i64 r.a_, .i .i64 r.b_]) := tells_eq inj7 (a := a) h
noncomputable def g22 (kind : Int) : Option (Bool) :=
some (((eqI kind 1 || eqI kind 5) || eqI kind 6) || eqI kind 8)
def eA22 (a : Int) : List V := [.i .i64 a]
def eB22 (r : Bool) : V := .b r
theorem inj22 (a a' : Int) (h : eA22 a = eA22 a') : a = a' := by
  obtain i41 := a
  obtain i42 := a'
  simp only [eA22, List.cons.injEq, V.i.injEq, V.b.injEq, V.f.injEq, V.str.injEq, V.sl.injEq, V.agg.injEq, V.cptr.injEq, true_and, and_true] at h
  simp_all
noncomputable def F22 : List V → Option V := tells (fun a => g22 a) eA22 eB22
/- loop.example/g01229/impl.hasB -/
theorem ok22 : Tells Tryd.prog 22 F22 := by
 refine Tells.go 17 Tryd.func22 rfl rfl rfl (by kernel_rfl) (fun _ => rfl) ?_
 rintro kind r h
 simp only [eA22, en, Nat.reduceAdd]
 replace h : (g22 kind).bind some = some r := bindS h
 rw [g22] at h
 have hC : CEnv.Ok Tryd.prog [] := trivial
 refine VW.seq (VW.rA (tm 17 [(0, .i .i64 kind)]) [] [] hC (VW.seq (VW.rA (tm 17 [(2, .b (((eqI kind 1 || eqI kind 5) || eqI kind 6) || eqI kind 8))]) [] [] hC ?_)))
 obtain rfl := leafS h
 exact VW.ret (VRet.fin (by simp [eB22]))
theorem tl22 {kind : Int} {r : Bool} (h : g22 kind = some r) : F22 [.i .i64 kind] = some (.b r) := tells_eq inj22 (a := kind) h
noncomputable def g21 (a : T25) : Option (Bool) :=
(if (((((leI 1 a.kind_ && leI a.kind_ 9) && leI 0 a.a_) && leI a.a_ 999) && leI 0 a.b_) && leI a.b_ 999) = true then (g22 a.kind_).bind fun r1 => some (r1 || eqI a.b_ 0) else some false).bind fun w3 =>
some w3
def eA21 (a : T25) : List V := [.agg (pT25 a)]
def eB21 (r : Bool) : V := .b r
theorem inj21 (a a' : T25) (h : eA21 a = eA21 a') : a = a' := by
  obtain ⟨i43, i44, i45⟩ := a
  obtain ⟨i46, i47, i48⟩ := a'
  simp only [eA21, pT25, List.cons.injEq, V.i.injEq, V.b.injEq, V.f.injEq, V.str.injEq, V.sl.injEq, V.agg.injEq, V.cptr.injEq, true_and, and_true] at h
  simp_all
noncomputable def F21 : List V → Option V := tells (fun a => g21 a) eA21 eB21
/- loop.example/g01229/impl.ValidAct -/
theorem ok21 : Tells Tryd.prog 21 F21 := by
 refine Tells.go 41 Tryd.func21 rfl rfl rfl (by kernel_rfl) (fun _ => rfl) ?_
 rintro a r h
 simp only [eA21, en, Nat.reduceAdd]
 replace h : (g21 a).bind some = some r := bindS h
 rw [g21] at h
 have hC : CEnv.Ok Tryd.prog [(22, F22)] := ⟨.inl ok22, trivial⟩
 refine VW.seq (VW.rA (tm 41 [(1, .ptr 0 0 0)]) [some (3, [(pT25 a)])] [] hC (VW.seq ?_))
 obtain ⟨w3, q4, h⟩ := bindE h
 refine VW.evalA (tm 41 [(2, .b w3)]) [some (3, [(pT25 a)])] [] hC (by kernel_rfl) (by
     obtain ⟨q5, q4⟩ | ⟨q5, rfl⟩ := gdT q4
     · obtain ⟨r1, q2, q4⟩ := bindQ q4
       have c2 := tl22 q2
       obtain rfl := Option.some.inj q4
       simp -implicitDefEqProofs [q5, c2, pT25]
     simp -implicitDefEqProofs [q5, pT25]) ?_
 obtain rfl := leafS h
 exact VW.ret (VRet.fin (by simp [eB21]))
theorem tl21 {a : T25} {r : Bool} (h : g21 a = some r) : F21 [.agg [.i .i64 a.kind_, .i .i64 a.a_, .i .i64 a.b_]] = some (.b r) := tells_eq inj21 (a := a) h
noncomputable def g23 : Option (List ByteArray) :=
some [ByteArray.empty, (⟨#[108, 111, 97, 100]⟩ : ByteArray), (⟨#[107, 105, 110, 100, 108, 101]⟩ : ByteArray), (⟨#[114, 97, 107, 101]⟩ : ByteArray), (⟨#[99, 108, 101, 97, 110]⟩ : ByteArray), (⟨#[112, 97, 110, 101]⟩ : ByteArray), (⟨#[98, 114, 97, 105, 110]⟩ : ByteArray), (⟨#[109, 117, 116, 101]⟩ : ByteArray), (⟨#[100, 97, 109, 112, 101, 114]⟩ : ByteArray), (⟨#[119, 97, 105, 116]⟩ : ByteArray)]
def eA23 (a : Unit) : List V := []
def eB23 (r : List ByteArray) : V := .own 1 (rows cs_ r)
theorem inj23 (a a' : Unit) (h : eA23 a = eA23 a') : a = a' := by
  obtain ⟨⟩ := a
  obtain ⟨⟩ := a'
  simp only [eA23, List.cons.injEq, V.i.injEq, V.b.injEq, V.f.injEq, V.str.injEq, V.sl.injEq, V.agg.injEq, V.cptr.injEq, true_and, and_true] at h
  simp_all
noncomputable def F23 : List V → Option V := tells (fun a => g23) eA23 eB23
/- loop.example/g01229/impl.actWords -/
theorem ok23 : Tells Tryd.prog 23 F23 := by
 refine Tells.go 2 Tryd.func23 rfl rfl rfl (by kernel_rfl) (fun _ => rfl) ?_
 rintro ⟨⟩ r h
 simp only [eA23, en, Nat.reduceAdd]
 replace h : (g23).bind some = some r := bindS h
 rw [g23] at h
 have hC : CEnv.Ok Tryd.prog [] := trivial
 refine VW.seq (VW.rA (tm 2 []) [] [] hC (VW.seq (VW.rA (tm 2 [(0, .ref 0 0 [ByteArray.empty, (⟨#[108, 111, 97, 100]⟩ : ByteArray), (⟨#[107, 105, 110, 100, 108, 101]⟩ : ByteArray), (⟨#[114, 97, 107, 101]⟩ : ByteArray), (⟨#[99, 108, 101, 97, 110]⟩ : ByteArray), (⟨#[112, 97, 110, 101]⟩ : ByteArray), (⟨#[98, 114, 97, 105, 110]⟩ : ByteArray), (⟨#[109, 117, 116, 101]⟩ : ByteArray), (⟨#[100, 97, 109, 112, 101, 114]⟩ : ByteArray), (⟨#[119, 97, 105, 116]⟩ : ByteArray)].length)]) [some (1, rows cs_ [ByteArray.empty, (⟨#[108, 111, 97, 100]⟩ : ByteArray), (⟨#[107, 105, 110, 100, 108, 101]⟩ : ByteArray), (⟨#[114, 97, 107, 101]⟩ : ByteArray), (⟨#[99, 108, 101, 97, 110]⟩ : ByteArray), (⟨#[112, 97, 110, 101]⟩ : ByteArray), (⟨#[98, 114, 97, 105, 110]⟩ : ByteArray), (⟨#[109, 117, 116, 101]⟩ : ByteArray), (⟨#[100, 97, 109, 112, 101, 114]⟩ : ByteArray), (⟨#[119, 97, 105, 116]⟩ : ByteArray)])] [] hC ?_)))
 obtain rfl := leafS h
 exact VW.ret (VRet.fin (by simp [eB23]))
noncomputable def g42 (p0 : Int) (p1 : Int) : Option (ByteArray) := fmtIntO p0 p1
def eA42 (a : Int × Int) : List V := [.i .i64 a.1, .i .i64 a.2]
def eB42 (r : ByteArray) : V := .str r
theorem inj42 (a a' : Int × Int) (h : eA42 a = eA42 a') : a = a' := by
  obtain ⟨i55, i56⟩ := a
  obtain ⟨i57, i58⟩ := a'
  simp only [eA42, List.cons.injEq, V.i.injEq, V.b.injEq, V.f.injEq, V.str.injEq, V.sl.injEq, V.agg.injEq, V.cptr.injEq, true_and, and_true] at h
  simp_all
noncomputable def F42 : List V → Option V := tells (fun a => g42 a.1 a.2) eA42 eB42
/- strconv.FormatInt -/
theorem ok42 : Tells Tryd.prog 42 F42 := Tells.of (by kernel_rfl) (fun ⟨p0, p1⟩ r h => fmtInt_calls Tryd.laysM173 (g := 0) (by kernel_rfl) h)
theorem tl42 {p0 : Int} {p1 : Int} {r : ByteArray} (h : g42 p0 p1 = some r) : F42 [.i .i64 p0, .i .i64 p1] = some (.str r) := tells_eq inj42 (a := (p0, p1)) h
noncomputable def g43 (p0 : List ByteArray) (p1 : ByteArray) : Option (ByteArray) := joinO p0 p1
def eA43 (a : (List ByteArray) × ByteArray) : List V := [.sl 1 (rows cs_ a.1), .str a.2]
def eB43 (r : ByteArray) : V := .str r
theorem inj43 (a a' : (List ByteArray) × ByteArray) (h : eA43 a = eA43 a') : a = a' := by
  obtain ⟨i59, i60⟩ := a
  obtain ⟨i61, i62⟩ := a'
  simp only [eA43, List.cons.injEq, V.i.injEq, V.b.injEq, V.f.injEq, V.str.injEq, V.sl.injEq, V.agg.injEq, V.cptr.injEq, true_and, and_true] at h
  simp_all [ri cs__inj]
noncomputable def F43 : List V → Option V := tells (fun a => g43 a.1 a.2) eA43 eB43
/- strings.Join -/
theorem ok43 : Tells Tryd.prog 43 F43 := Tells.of (by kernel_rfl) (fun ⟨p0, p1⟩ r h => join_calls Tryd.lays156 Tryd.Builder_Extra_156 h)
theorem tl43 {p0 : List ByteArray} {p1 : ByteArray} {r : ByteArray} (h : g43 p0 p1 = some r) : F43 [.sl 1 (rows cs_ p0), .str p1] = some (.str r) := tells_eq inj43 (a := (p0, p1)) h
noncomputable def g24_j1 (l26 : List ByteArray) : Option (ByteArray) :=
(g43 l26 (⟨#[32]⟩ : ByteArray)).bind fun r27 =>
some r27
noncomputable def g24_L1 (list : List Int) : (Int × (List ByteArray)) → Option ((Int × (List ByteArray)) ⊕ (List ByteArray))
| (x_45, l46) =>
if ltI x_45 (list.length : Int) = true then
(idx list x_45).bind fun e48 =>
(g42 e48 10).bind fun r50 =>
(appK 16 l46 [r50]).bind fun u52 =>
some (.inl (aI .i64 x_45 1, (l46 ++ [r50])))
else
some (.inr l46)
noncomputable def g24 (list : List Int) : Option (ByteArray) :=
(loopO (g24_L1 list) (0, [])).bind fun w => g24_j1 w
def eA24 (a : List Int) : List V := [.sl 1 (rows ci_i64 a)]
def eB24 (r : ByteArray) : V := .str r
theorem inj24 (a a' : List Int) (h : eA24 a = eA24 a') : a = a' := by
  obtain i63 := a
  obtain i64 := a'
  simp only [eA24, List.cons.injEq, V.i.injEq, V.b.injEq, V.f.injEq, V.str.injEq, V.sl.injEq, V.agg.injEq, V.cptr.injEq, true_and, and_true] at h
  simp_all [ri ci_i64_inj]
noncomputable def F24 : List V → Option V := tells (fun a => g24 a) eA24 eB24
/- loop.example/g01229/impl.decimals -/
theorem ok24 : Tells Tryd.prog 24 F24 := by
 refine Tells.go 21 Tryd.func24 rfl rfl rfl (by kernel_rfl) (fun _ => rfl) ?_
 rintro list r h
 simp only [eA24, en, Nat.reduceAdd]
 replace h : (g24 list).bind some = some r := bindS h
 rw [g24] at h
 have hC : CEnv.Ok Tryd.prog [(42, F42), (43, F43)] := ⟨.inl ok42, .inl ok43, trivial⟩
 refine VW.seq (VW.rA (tm 21 [(0, .sl 1 (rows ci_i64 list))]) [] [] hC (VW.seq (VW.rA (tm 21 [(0, .sl 1 (rows ci_i64 list)), (3, .ref 0 0 0)]) [some (1, rows cs_ [])] [] hC (VW.join (fun (v : List ByteArray) => (⟨(tm 21 [(3, .ref 0 0 v.length)]), [some (1, rows cs_ v)], []⟩ : VS)) (fun v => (g24_j1 (v)).bind some = some r) ?_ ?_))))
 · refine VW.seq (VW.rA (tm 21 [(3, .ref 0 0 0), (7, .sl 1 (rows ci_i64 list)), (8, .i .i64 (list.length : Int)), (9, .i .i64 0)]) [some (1, rows cs_ [])] [] hC (VW.block ?_))
   obtain ⟨w_1, hw_1, h⟩ := bindE h
   refine VW.loopO (fun (x : Int × (List ByteArray)) => (⟨(tm 21 [(3, .ref 0 0 x.2.length), (7, .sl 1 (rows ci_i64 list)), (8, .i .i64 (list.length : Int)), (9, .i .i64 x.1)]), [some (1, rows cs_ x.2)], []⟩ : VS)) hw_1 (Ent.tu 1) ?_
   rintro n_1 ⟨x_45, l46⟩ h1
   rw [g24_L1] at h1
   refine VW.seq (VW.rA (tm 21 [(3, .ref 0 0 l46.length), (7, .sl 1 (rows ci_i64 list)), (8, .i .i64 (list.length : Int)), (9, .i .i64 x_45), (10, .b (ltI x_45 (list.length : Int)))]) [some (1, rows cs_ l46)] [] hC (VW.seq (VW.condJ h1 (fun h1 => ?_) (fun h1 => ?_))))
   · refine VW.exit ?_
     have e_ := leafR h1
     subst w_1
     exact vnext l46 h (Ent.tu 1)
   refine VW.skip (VW.seq (VW.block (VW.seq ?_)))
   obtain ⟨e48, ⟨f49a, f49b, f49c, f49d⟩, h1⟩ := bindI h1
   refine VW.rA (tm 21 [(3, .ref 0 0 l46.length), (5, .i .i64 e48), (7, .sl 1 (rows ci_i64 list)), (8, .i .i64 (list.length : Int)), (9, .i .i64 x_45)]) [some (1, rows cs_ l46)] [] hC ?_ (h := by simp -implicitDefEqProofs [f49a, f49b, f49c, f49d])
   obtain ⟨r50, q51, h1⟩ := bindE h1
   have c51 := tl42 q51
   obtain ⟨u52, ⟨f53a, f53b⟩, h1⟩ := bindP h1
   try simp only [Int.toNat_natCast, Int.reduceToNat, List.length_cons, List.length_nil, Nat.reduceAdd, Nat.zero_add] at f53a f53b
   exact VW.rA (tm 21 [(3, .ref 0 0 (l46 ++ [r50]).length), (7, .sl 1 (rows ci_i64 list)), (8, .i .i64 (list.length : Int)), (9, .i .i64 x_45)]) [some (1, rows cs_ (l46 ++ [r50])), some (1, rows cs_ [r50])] [] hC (VW.rA (tm 21 [(3, .ref 0 0 (l46 ++ [r50]).length), (7, .sl 1 (rows ci_i64 list)), (8, .i .i64 (list.length : Int)), (9, .i .i64 (aI .i64 x_45 1))]) [some (1, rows cs_ (l46 ++ [r50])), some (1, rows cs_ [r50])] [] hC (vnext (aI .i64 x_45 1, (l46 ++ [r50])) (leafL h1) (Ent.tu 1))) (h := by simp -implicitDefEqProofs [c51, f53a, f53b])
 rintro l26 h
 replace h : (g24_j1 l26).bind _ = _ := h
 rw [g24_j1] at h
 refine VW.seq ?_
 obtain ⟨r27, q28, h⟩ := bindE h
 have c28 := tl43 q28
 refine VW.rA (tm 21 [(2, .str r27)]) [some (1, rows cs_ l26)] [] hC ?_ (h := by simp -implicitDefEqProofs [c28])
 obtain rfl := leafS h
 exact VW.ret (VRet.fin (by simp [eB24]))
theorem tl24 {list : List Int} {r : ByteArray} (h : g24 list = some r) : F24 [.sl 1 (rows ci_i64 list)] = some (.str r) := tells_eq inj24 (a := list) h
noncomputable def g8 (a : T25) : Option (ByteArray) :=
(g21 a).bind fun r1 =>
if (!r1) = true then
some ByteArray.empty
else
(g22 a.kind_).bind fun r4 =>
if r4 = true then
(g23).bind fun r7 =>
(idx r7 a.kind_).bind fun e9 =>
(catS e9 (⟨#[32]⟩ : ByteArray)).bind fun z11 =>
(g24 [a.a_, a.b_]).bind fun r13 =>
(catS z11 r13).bind fun z15 =>
some z15
else
(g23).bind fun r17 =>
(idx r17 a.kind_).bind fun e19 =>
(catS e19 (⟨#[32]⟩ : ByteArray)).bind fun z21 =>
(g24 [a.a_]).bind fun r23 =>
(catS z21 r23).bind fun z25 =>
some z25
def eA8 (a : T25) : List V := [.agg (pT25 a)]
def eB8 (r : ByteArray) : V := .str r
theorem inj8 (a a' : T25) (h : eA8 a = eA8 a') : a = a' := by
  obtain ⟨i65, i66, i67⟩ := a
  obtain ⟨i68, i69, i70⟩ := a'
  simp only [eA8, pT25, List.cons.injEq, V.i.injEq, V.b.injEq, V.f.injEq, V.str.injEq, V.sl.injEq, V.agg.injEq, V.cptr.injEq, true_and, and_true] at h
  simp_all
noncomputable def F8 : List V → Option V := tells (fun a => g8 a) eA8 eB8
/- loop.example/g01229/impl.ActText -/
theorem ok8 : Tells Tryd.prog 8 F8 := by
 refine Tells.go 33 Tryd.func8 rfl rfl rfl (by kernel_rfl) (fun _ => rfl) ?_
 rintro a r h
 simp only [eA8, en, Nat.reduceAdd]
 replace h : (g8 a).bind some = some r := bindS h
 rw [g8] at h
 have hC : CEnv.Ok Tryd.prog [(21, F21), (22, F22), (23, fzF F23), (24, F24)] := ⟨.inl ok21, .inl ok22, .inl ok23.fz, .inl ok24, trivial⟩
 refine VW.seq (VW.rA (tm 33 [(1, .ptr 0 0 0)]) [some (3, [(pT25 a)])] [] hC (VW.seq (VW.seq ?_)))
 obtain ⟨r1, q2, h⟩ := bindE h
 have c2 : F21 [.agg (pT25 a)] = some (.b r1) := tells_eq inj21 (a := a) q2
 refine VW.rA (tm 33 [(1, .ptr 0 0 0), (5, .b (!r1))]) [some (3, [(pT25 a)])] [] hC (VW.condI h (fun h => ?_) (fun h => ?_)) (h := by simp -implicitDefEqProofs [c2])
 · refine VW.seq (VW.rA (tm 33 [(2, .str ByteArray.empty)]) [some (3, [(pT25 a)])] [] hC ?_)
   obtain rfl := leafS h
   exact VW.ret (VRet.fin (by simp [eB8]))
 refine VW.skip (VW.seq (VW.seq ?_))
 obtain ⟨r4, q5, h⟩ := bindE h
 have c5 := tl22 q5
 refine VW.rA (tm 33 [(1, .ptr 0 0 0), (8, .b r4)]) [some (3, [(pT25 a)])] [] hC (VW.condJ h (fun h => ?_) (fun h => ?_)) (h := by simp -implicitDefEqProofs [c5])
 · refine VW.skip (VW.seq ?_)
   obtain ⟨r17, q18, h⟩ := bindE h
   have c18 : F23 [] = some (.own 1 (rows cs_ r17)) := tells_eq inj23 (a := ()) q18
   replace c18 : fzF F23 [] = some (.sl 1 (rows cs_ r17)) := (fzF_eq c18).trans (by simp)
   obtain ⟨e19, ⟨f20a, f20b, f20c, f20d⟩, h⟩ := bindI h
   obtain ⟨z21, q22, h⟩ := bindE h
   obtain ⟨r23, q24, h⟩ := bindE h
   have c24 : F24 [.sl 1 [[.i .i64 a.a_]]] = some (.str r23) := tells_eq inj24 (a := [a.a_]) q24
   obtain ⟨z25, q26, h⟩ := bindE h
   refine VW.rD (tm 33 [(2, .str z25)]) [some (3, [(pT25 a)]), some (1, rows ci_i64 [a.a_])] [] hC mixed ?_ (h := by simp -implicitDefEqProofs [c18, f20a, f20b, f20c, f20d, q22, c24, q26])
   obtain rfl := leafS h
   exact VW.ret (VRet.fin (by simp [eB8]))
 refine VW.seq ?_
 obtain ⟨r7, q8, h⟩ := bindE h
 have c8 : F23 [] = some (.own 1 (rows cs_ r7)) := tells_eq inj23 (a := ()) q8
 replace c8 : fzF F23 [] = some (.sl 1 (rows cs_ r7)) := (fzF_eq c8).trans (by simp)
 obtain ⟨e9, ⟨f10a, f10b, f10c, f10d⟩, h⟩ := bindI h
 obtain ⟨z11, q12, h⟩ := bindE h
 obtain ⟨r13, q14, h⟩ := bindE h
 have c14 : F24 [.sl 1 [[.i .i64 a.a_], [.i .i64 a.b_]]] = some (.str r13) := tells_eq inj24 (a := [a.a_, a.b_]) q14
 obtain ⟨z15, q16, h⟩ := bindE h
 refine VW.rD (tm 33 [(2, .str z15)]) [some (3, [(pT25 a)]), some (1, rows ci_i64 [a.a_, a.b_])] [] hC mixed ?_ (h := by simp -implicitDefEqProofs [c8, f10a, f10b, f10c, f10d, q12, c14, q16])
 obtain rfl := leafS h
 exact VW.ret (VRet.fin (by simp [eB8]))
theorem tl8 {a : T25} {r : ByteArray} (h : g8 a = some r) : F8 [.agg [.i .i64 a.kind_, .i .i64 a.a_, .i .i64 a.b_]] = some (.str r) := tells_eq inj8 (a := a) h
noncomputable def g3 (aA : T25) : Option (Bool) :=
(g7 aA).bind fun r1 =>
(g6 r1).bind fun r3 =>
(g7 aA).bind fun r5 =>
(g8 r5).bind fun r7 =>
if (!eqS r7 r3) = true then
some false
else
some true
def eA3 (a : T25) : List V := [.agg (pT25 a)]
def eB3 (r : Bool) : V := .b r
theorem inj3 (a a' : T25) (h : eA3 a = eA3 a') : a = a' := by
  obtain ⟨i71, i72, i73⟩ := a
  obtain ⟨i74, i75, i76⟩ := a'
  simp only [eA3, pT25, List.cons.injEq, V.i.injEq, V.b.injEq, V.f.injEq, V.str.injEq, V.sl.injEq, V.agg.injEq, V.cptr.injEq, true_and, and_true] at h
  simp_all
noncomputable def F3 : List V → Option V := tells (fun a => g3 a) eA3 eB3
/- loop.example/g01229/laws.FnExactActText -/
theorem ok3 : Tells Tryd.prog 3 F3 := by
 refine Tells.go 14 Tryd.func3 rfl rfl rfl (by kernel_rfl) (fun _ => rfl) ?_
 rintro aA r h
 simp only [eA3, en, Nat.reduceAdd]
 replace h : (g3 aA).bind some = some r := bindS h
 rw [g3] at h
 have hC : CEnv.Ok Tryd.prog [(6, F6), (7, F7), (8, F8)] := ⟨.inl ok6, .inl ok7, .inl ok8, trivial⟩
 refine VW.seq (VW.rA (tm 14 [(1, .ptr 0 0 0)]) [some (3, [(pT25 aA)])] [] hC (VW.seq ?_))
 obtain ⟨r1, q2, h⟩ := bindE h
 have c2 : F7 [.agg (pT25 aA)] = some (.agg [.i .i64 r1.kind_, .i .i64 r1.a_, .i .i64 r1.b_]) := tells_eq inj7 (a := aA) q2
 obtain ⟨r3, q4, h⟩ := bindE h
 have c4 := tl6 q4
 refine VW.rA (tm 14 [(1, .ptr 0 0 0), (3, .str r3)]) [some (3, [(pT25 aA)])] [] hC (VW.seq ?_) (h := by simp -implicitDefEqProofs [c2, c4])
 obtain ⟨r5, q6, h⟩ := bindE h
 have c6 : F7 [.agg (pT25 aA)] = some (.agg [.i .i64 r5.kind_, .i .i64 r5.a_, .i .i64 r5.b_]) := tells_eq inj7 (a := aA) q6
 obtain ⟨r7, q8, h⟩ := bindE h
 have c8 := tl8 q8
 refine VW.rA (tm 14 [(3, .str r3), (4, .str r7)]) [some (3, [(pT25 aA)])] [] hC (VW.seq (VW.seq (VW.rA (tm 14 [(13, .b (!eqS r7 r3))]) [some (3, [(pT25 aA)])] [] hC (VW.condI h (fun h => ?_) (fun h => ?_))))) (h := by simp -implicitDefEqProofs [c6, c8])
 · refine VW.seq (VW.rA (tm 14 [(2, .b false)]) [some (3, [(pT25 aA)])] [] hC ?_)
   obtain rfl := leafS h
   exact VW.ret (VRet.fin (by simp [eB3]))
 refine VW.skip (VW.seq (VW.rA (tm 14 [(2, .b true)]) [some (3, [(pT25 aA)])] [] hC ?_))
 obtain rfl := leafS h
 exact VW.ret (VRet.fin (by simp [eB3]))
theorem tl3 {aA : T25} {r : Bool} (h : g3 aA = some r) : F3 [.agg [.i .i64 aA.kind_, .i .i64 aA.a_, .i .i64 aA.b_]] = some (.b r) := tells_eq inj3 (a := aA) h
noncomputable def g25 (a : List Int) (left : Int) : Option (Int) :=
if ltI (sI .i64 left (a.length : Int)) 0 = true then
some (-1)
else
some (sI .i64 left (a.length : Int))
def eA25 (a : (List Int) × Int) : List V := [.sl 1 (rows ci_i64 a.1), .i .i64 a.2]
def eB25 (r : Int) : V := .i .i64 r
theorem inj25 (a a' : (List Int) × Int) (h : eA25 a = eA25 a') : a = a' := by
  obtain ⟨i77, i78⟩ := a
  obtain ⟨i79, i80⟩ := a'
  simp only [eA25, List.cons.injEq, V.i.injEq, V.b.injEq, V.f.injEq, V.str.injEq, V.sl.injEq, V.agg.injEq, V.cptr.injEq, true_and, and_true] at h
  simp_all [ri ci_i64_inj]
noncomputable def F25 : List V → Option V := tells (fun a => g25 a.1 a.2) eA25 eB25
/- loop.example/g01229/laws.szInt64S -/
theorem ok25 : Tells Tryd.prog 25 F25 := by
 refine Tells.go 12 Tryd.func25 rfl rfl rfl (by kernel_rfl) (fun _ => rfl) ?_
 rintro ⟨a, left⟩ r h
 simp only [eA25, en, Nat.reduceAdd]
 replace h : (g25 a left).bind some = some r := bindS h
 rw [g25] at h
 have hC : CEnv.Ok Tryd.prog [] := trivial
 refine VW.seq (VW.rA (tm 12 [(0, .sl 1 (rows ci_i64 a)), (1, .i .i64 left)]) [] [] hC (VW.seq (VW.rA (tm 12 [(1, .i .i64 (sI .i64 left (a.length : Int)))]) [] [] hC (VW.seq (VW.seq (VW.rA (tm 12 [(1, .i .i64 (sI .i64 left (a.length : Int))), (10, .b (ltI (sI .i64 left (a.length : Int)) 0))]) [] [] hC (VW.condI h (fun h => ?_) (fun h => ?_))))))))
 · refine VW.seq (VW.rA (tm 12 [(4, .i .i64 (-1))]) [] [] hC ?_)
   obtain rfl := leafS h
   exact VW.ret (VRet.fin (by simp [eB25]))
 refine VW.skip (VW.seq (VW.rA (tm 12 [(4, .i .i64 (sI .i64 left (a.length : Int)))]) [] [] hC ?_))
 obtain rfl := leafS h
 exact VW.ret (VRet.fin (by simp [eB25]))
theorem tl25 {a : List Int} {left : Int} {r : Int} (h : g25 a left = some r) : F25 [.sl 1 (rows ci_i64 a), .i .i64 left] = some (.i .i64 r) := tells_eq inj25 (a := (a, left)) h
noncomputable def g9 (a : T30) (left : Int) : Option (Int) :=
(g25 a.need_ left).bind fun r1 =>
if ltI r1 0 = true then
some (-1)
else
(g25 a.price_ r1).bind fun r4 =>
if ltI r4 0 = true then
some (-1)
else
some r4
def eA9 (a : T30 × Int) : List V := [.agg (pT30 a.1), .i .i64 a.2]
def eB9 (r : Int) : V := .i .i64 r
theorem inj9 (a a' : T30 × Int) (h : eA9 a = eA9 a') : a = a' := by
  obtain ⟨⟨i95, i96, i97, i98, i99, i100, i101⟩, i102⟩ := a
  obtain ⟨⟨i103, i104, i105, i106, i107, i108, i109⟩, i110⟩ := a'
  simp only [eA9, pT30, List.cons.injEq, V.i.injEq, V.b.injEq, V.f.injEq, V.str.injEq, V.sl.injEq, V.agg.injEq, V.cptr.injEq, true_and, and_true] at h
  simp_all [ri ci_i64_inj]
noncomputable def F9 : List V → Option V := tells (fun a => g9 a.1 a.2) eA9 eB9
/- loop.example/g01229/laws.szSeason -/
theorem ok9 : Tells Tryd.prog 9 F9 := by
 refine Tells.go 18 Tryd.func9 rfl rfl rfl (by kernel_rfl) (fun _ => rfl) ?_
 rintro ⟨a, left⟩ r h
 simp only [eA9, en, Nat.reduceAdd]
 replace h : (g9 a left).bind some = some r := bindS h
 rw [g9] at h
 have hC : CEnv.Ok Tryd.prog [(25, F25)] := ⟨.inl ok25, trivial⟩
 refine VW.seq (VW.rA (tm 18 [(1, .i .i64 left), (2, .ptr 0 0 0)]) [some (7, [(pT30 a)])] [] hC (VW.seq ?_))
 obtain ⟨r1, q2, h⟩ := bindE h
 have c2 := tl25 q2
 refine VW.rA (tm 18 [(1, .i .i64 r1), (2, .ptr 0 0 0)]) [some (7, [(pT30 a)])] [] hC (VW.seq (VW.seq (VW.rA (tm 18 [(1, .i .i64 r1), (2, .ptr 0 0 0), (10, .b (ltI r1 0))]) [some (7, [(pT30 a)])] [] hC (VW.condI h (fun h => ?_) (fun h => ?_))))) (h := by simp -implicitDefEqProofs [c2])
 · refine VW.seq (VW.rA (tm 18 [(4, .i .i64 (-1))]) [some (7, [(pT30 a)])] [] hC ?_)
   obtain rfl := leafS h
   exact VW.ret (VRet.fin (by simp [eB9]))
 refine VW.skip (VW.seq ?_)
 obtain ⟨r4, q5, h⟩ := bindE h
 have c5 := tl25 q5
 refine VW.rA (tm 18 [(1, .i .i64 r4)]) [some (7, [(pT30 a)])] [] hC (VW.seq (VW.seq (VW.rA (tm 18 [(1, .i .i64 r4), (16, .b (ltI r4 0))]) [some (7, [(pT30 a)])] [] hC (VW.condI h (fun h => ?_) (fun h => ?_))))) (h := by simp -implicitDefEqProofs [c5])
 · refine VW.seq (VW.rA (tm 18 [(4, .i .i64 (-1))]) [some (7, [(pT30 a)])] [] hC ?_)
   obtain rfl := leafS h
   exact VW.ret (VRet.fin (by simp [eB9]))
 refine VW.skip (VW.seq (VW.rA (tm 18 [(4, .i .i64 r4)]) [some (7, [(pT30 a)])] [] hC ?_))
 obtain rfl := leafS h
 exact VW.ret (VRet.fin (by simp [eB9]))
theorem tl9 {a : T30} {left : Int} {r : Int} (h : g9 a left = some r) : F9 [.agg [.sl 1 (rows ci_i64 a.need_), .sl 1 (rows ci_i64 a.price_), .i .i64 a.most_, .i .i64 a.yield_, .i .i64 a.store_, .i .i64 a.first_, .i .i64 a.loss_], .i .i64 left] = some (.i .i64 r) := tells_eq inj9 (a := (a, left)) h
noncomputable def g44_j1 : Option (Bool) :=
some true
noncomputable def g44_L1 (list : List Int) (most : Int) : (Int) → Option ((Int) ⊕ ((Unit) ⊕ (Bool)))
| i_34 =>
if ltI i_34 (list.length : Int) = true then
(idx list i_34).bind fun e36 =>
(g38 e36 0 most).bind fun r38 =>
if (!r38) = true then
some (.inr (.inr false))
else
some (.inl (aI .i64 i_34 1))
else
some (.inr (.inl ()))
noncomputable def g44 (list : List Int) (most : Int) : Option (Bool) :=
(loopO (g44_L1 list most) 0).bind fun w => match w with
| .inl y => g44_j1
| .inr r => some r
def eA44 (a : (List Int) × Int) : List V := [.sl 1 (rows ci_i64 a.1), .i .i64 a.2]
def eB44 (r : Bool) : V := .b r
theorem inj44 (a a' : (List Int) × Int) (h : eA44 a = eA44 a') : a = a' := by
  obtain ⟨i111, i112⟩ := a
  obtain ⟨i113, i114⟩ := a'
  simp only [eA44, List.cons.injEq, V.i.injEq, V.b.injEq, V.f.injEq, V.str.injEq, V.sl.injEq, V.agg.injEq, V.cptr.injEq, true_and, and_true] at h
  simp_all [ri ci_i64_inj]
noncomputable def F44 : List V → Option V := tells (fun a => g44 a.1 a.2) eA44 eB44
/- loop.example/g01229/spec.l07Bounded -/
theorem ok44 : Tells Tryd.prog 44 F44 := by
 refine Tells.go 19 Tryd.func44 rfl rfl rfl (by kernel_rfl) (fun _ => rfl) ?_
 rintro ⟨list, most⟩ r h
 simp only [eA44, en, Nat.reduceAdd]
 replace h : (g44 list most).bind some = some r := bindS h
 rw [g44] at h
 have hC : CEnv.Ok Tryd.prog [(38, F38)] := ⟨.inl ok38, trivial⟩
 refine VW.seq (VW.rA (tm 19 [(0, .sl 1 (rows ci_i64 list)), (1, .i .i64 most)]) [] [] hC (VW.join (fun (v : Unit) => (⟨(tm 19 []), [], []⟩ : VS)) (fun v => (g44_j1).bind some = some r) ?_ ?_))
 · refine VW.seq (VW.rA (tm 19 [(0, .sl 1 (rows ci_i64 list)), (1, .i .i64 most), (5, .i .i64 0)]) [] [] hC (VW.block ?_))
   obtain ⟨w_1, hw_1, h⟩ := bindE h
   refine VW.loopO (fun (x : Int) => (⟨(tm 19 [(0, .sl 1 (rows ci_i64 list)), (1, .i .i64 most), (5, .i .i64 x)]), [], []⟩ : VS)) hw_1 (Ent.tu 0) ?_
   rintro n_1 i_34 h1
   rw [g44_L1] at h1
   refine VW.seq (VW.seq (VW.rA (tm 19 [(0, .sl 1 (rows ci_i64 list)), (1, .i .i64 most), (5, .i .i64 i_34), (9, .b (ltI i_34 (list.length : Int)))]) [] [] hC (VW.condJ h1 (fun h1 => ?_) (fun h1 => ?_))))
   · refine VW.exit ?_
     have e_ := leafR h1
     subst w_1
     exact vnext () h (Ent.tu 0)
   refine VW.skip (VW.seq (VW.block (VW.seq ?_)))
   obtain ⟨e36, ⟨f37a, f37b, f37c, f37d⟩, h1⟩ := bindI h1
   obtain ⟨r38, q39, h1⟩ := bindE h1
   have c39 := tl38 q39
   refine VW.rA (tm 19 [(0, .sl 1 (rows ci_i64 list)), (1, .i .i64 most), (5, .i .i64 i_34), (18, .b (!r38))]) [] [] hC (VW.condI h1 (fun h1 => ?_) (fun h1 => ?_)) (h := by simp -implicitDefEqProofs [f37a, f37b, f37c, f37d, c39])
   · refine VW.seq (VW.rA (tm 19 [(4, .b false)]) [] [] hC ?_)
     have e_ := leafR h1
     subst w_1
     obtain rfl := leafS h
     exact VW.ret (VRet.fin (by simp [eB44]))
   exact VW.skip (VW.rA (tm 19 [(0, .sl 1 (rows ci_i64 list)), (1, .i .i64 most), (5, .i .i64 (aI .i64 i_34 1))]) [] [] hC (vnext (aI .i64 i_34 1) (leafL h1) (Ent.tu 0)))
 rintro _ h
 replace h : (g44_j1).bind _ = _ := h
 rw [g44_j1] at h
 refine VW.seq (VW.rA (tm 19 [(4, .b true)]) [] [] hC ?_)
 obtain rfl := leafS h
 exact VW.ret (VRet.fin (by simp [eB44]))
theorem tl44 {list : List Int} {most : Int} {r : Bool} (h : g44 list most = some r) : F44 [.sl 1 (rows ci_i64 list), .i .i64 most] = some (.b r) := tells_eq inj44 (a := (list, most)) h
noncomputable def g26 (s : T30) : Option (Bool) :=
(g38 (s.need_.length : Int) 1 24).bind fun r1 =>
(if (r1 && eqI (s.price_.length : Int) (s.need_.length : Int)) = true then (g44 s.need_ 200).bind fun r3 => some r3 else some false).bind fun w5 =>
(if w5 = true then (g44 s.price_ 1000).bind fun r6 => some r6 else some false).bind fun w8 =>
(if w8 = true then (g38 s.most_ 0 20).bind fun r9 => some r9 else some false).bind fun w11 =>
(if w11 = true then (g38 s.yield_ 1 40).bind fun r12 => some r12 else some false).bind fun w14 =>
(if w14 = true then (g38 s.store_ 0 60).bind fun r15 => some r15 else some false).bind fun w17 =>
(if w17 = true then (g38 s.first_ 0 s.store_).bind fun r18 => some r18 else some false).bind fun w20 =>
(if w20 = true then (g38 s.loss_ 0 100).bind fun r21 => some r21 else some false).bind fun w23 =>
some w23
def eA26 (a : T30) : List V := [.cptr (pT30 a) 0]
def eB26 (r : Bool) : V := .b r
theorem inj26 (a a' : T30) (h : eA26 a = eA26 a') : a = a' := by
  obtain ⟨i115, i116, i117, i118, i119, i120, i121⟩ := a
  obtain ⟨i122, i123, i124, i125, i126, i127, i128⟩ := a'
  simp only [eA26, pT30, List.cons.injEq, V.i.injEq, V.b.injEq, V.f.injEq, V.str.injEq, V.sl.injEq, V.agg.injEq, V.cptr.injEq, true_and, and_true] at h
  simp_all [ri ci_i64_inj]
noncomputable def F26 : List V → Option V := tells (fun a => g26 a) eA26 eB26
/- loop.example/g01229/spec.l07Ok -/
theorem ok26 : Tells Tryd.prog 26 F26 := by
 refine Tells.go 75 Tryd.func26 rfl rfl rfl (by kernel_rfl) (fun _ => rfl) ?_
 rintro s r h
 simp only [eA26, en, Nat.reduceAdd]
 replace h : (g26 s).bind some = some r := bindS h
 rw [g26] at h
 have hC : CEnv.Ok Tryd.prog [(38, F38), (44, F44)] := ⟨.inl ok38, .inl ok44, trivial⟩
 refine VW.seq (VW.rA (tm 75 [(0, .cptr (pT30 s) 0)]) [] [] hC (VW.seq ?_))
 obtain ⟨r1, q2, h⟩ := bindE h
 have c2 := tl38 q2
 obtain ⟨w5, q24, h⟩ := bindE h
 obtain ⟨w8, q25, h⟩ := bindE h
 obtain ⟨w11, q26, h⟩ := bindE h
 obtain ⟨w14, q27, h⟩ := bindE h
 obtain ⟨w17, q28, h⟩ := bindE h
 obtain ⟨w20, q29, h⟩ := bindE h
 obtain ⟨w23, q30, h⟩ := bindE h
 refine VW.evalDA (tm 75 [(2, .b w23)]) [] [] hC mixed (by kernel_rfl) (by
     obtain ⟨q31, q24⟩ | ⟨q31, rfl⟩ := gdT q24
     · obtain ⟨r3, q4, q24⟩ := bindQ q24
       have c4 := tl44 q4
       obtain rfl := Option.some.inj q24
       obtain ⟨q32, q25⟩ | ⟨q32, rfl⟩ := gdT q25
       · obtain ⟨r6, q7, q25⟩ := bindQ q25
         have c7 := tl44 q7
         obtain rfl := Option.some.inj q25
         obtain ⟨q33, q26⟩ | ⟨q33, rfl⟩ := gdT q26
         · obtain ⟨r9, q10, q26⟩ := bindQ q26
           have c10 := tl38 q10
           obtain rfl := Option.some.inj q26
           obtain ⟨q34, q27⟩ | ⟨q34, rfl⟩ := gdT q27
           · obtain ⟨r12, q13, q27⟩ := bindQ q27
             have c13 := tl38 q13
             obtain rfl := Option.some.inj q27
             obtain ⟨q35, q28⟩ | ⟨q35, rfl⟩ := gdT q28
             · obtain ⟨r15, q16, q28⟩ := bindQ q28
               have c16 := tl38 q16
               obtain rfl := Option.some.inj q28
               obtain ⟨q36, q29⟩ | ⟨q36, rfl⟩ := gdT q29
               · obtain ⟨r18, q19, q29⟩ := bindQ q29
                 have c19 := tl38 q19
                 obtain rfl := Option.some.inj q29
                 obtain ⟨q37, q30⟩ | ⟨q37, rfl⟩ := gdT q30
                 · obtain ⟨r21, q22, q30⟩ := bindQ q30
                   have c22 := tl38 q22
                   obtain rfl := Option.some.inj q30
                   simp -implicitDefEqProofs [c2, q31, c4, q32, c7, q33, c10, q34, c13, q35, c16, q36, c19, q37, c22, pT30]
                 simp -implicitDefEqProofs [c2, q31, c4, q32, c7, q33, c10, q34, c13, q35, c16, q36, c19, q37, pT30]
               obtain ⟨q38, q30⟩ | ⟨q38, rfl⟩ := gdT q30
               · exact absurd q38 (by simp)
               simp -implicitDefEqProofs [c2, q31, c4, q32, c7, q33, c10, q34, c13, q35, c16, q36, q38, pT30]
             obtain ⟨q39, q29⟩ | ⟨q39, rfl⟩ := gdT q29
             · exact absurd q39 (by simp)
             obtain ⟨q40, q30⟩ | ⟨q40, rfl⟩ := gdT q30
             · exact absurd q40 (by simp)
             simp -implicitDefEqProofs [c2, q31, c4, q32, c7, q33, c10, q34, c13, q35, q39, q40, pT30]
           obtain ⟨q41, q28⟩ | ⟨q41, rfl⟩ := gdT q28
           · exact absurd q41 (by simp)
           obtain ⟨q42, q29⟩ | ⟨q42, rfl⟩ := gdT q29
           · exact absurd q42 (by simp)
           obtain ⟨q43, q30⟩ | ⟨q43, rfl⟩ := gdT q30
           · exact absurd q43 (by simp)
           simp -implicitDefEqProofs [c2, q31, c4, q32, c7, q33, c10, q34, q41, q42, q43, pT30]
         obtain ⟨q44, q27⟩ | ⟨q44, rfl⟩ := gdT q27
         · exact absurd q44 (by simp)
         obtain ⟨q45, q28⟩ | ⟨q45, rfl⟩ := gdT q28
         · exact absurd q45 (by simp)
         obtain ⟨q46, q29⟩ | ⟨q46, rfl⟩ := gdT q29
         · exact absurd q46 (by simp)
         obtain ⟨q47, q30⟩ | ⟨q47, rfl⟩ := gdT q30
         · exact absurd q47 (by simp)
         simp -implicitDefEqProofs [c2, q31, c4, q32, c7, q33, q44, q45, q46, q47, pT30]
       obtain ⟨q48, q26⟩ | ⟨q48, rfl⟩ := gdT q26
       · exact absurd q48 (by simp)
       obtain ⟨q49, q27⟩ | ⟨q49, rfl⟩ := gdT q27
       · exact absurd q49 (by simp)
       obtain ⟨q50, q28⟩ | ⟨q50, rfl⟩ := gdT q28
       · exact absurd q50 (by simp)
       obtain ⟨q51, q29⟩ | ⟨q51, rfl⟩ := gdT q29
       · exact absurd q51 (by simp)
       obtain ⟨q52, q30⟩ | ⟨q52, rfl⟩ := gdT q30
       · exact absurd q52 (by simp)
       simp -implicitDefEqProofs [c2, q31, c4, q32, q48, q49, q50, q51, q52, pT30]
     obtain ⟨q53, q25⟩ | ⟨q53, rfl⟩ := gdT q25
     · exact absurd q53 (by simp)
     obtain ⟨q54, q26⟩ | ⟨q54, rfl⟩ := gdT q26
     · exact absurd q54 (by simp)
     obtain ⟨q55, q27⟩ | ⟨q55, rfl⟩ := gdT q27
     · exact absurd q55 (by simp)
     obtain ⟨q56, q28⟩ | ⟨q56, rfl⟩ := gdT q28
     · exact absurd q56 (by simp)
     obtain ⟨q57, q29⟩ | ⟨q57, rfl⟩ := gdT q29
     · exact absurd q57 (by simp)
     obtain ⟨q58, q30⟩ | ⟨q58, rfl⟩ := gdT q30
     · exact absurd q58 (by simp)
     simp -implicitDefEqProofs [c2, q31, q53, q54, q55, q56, q57, q58, pT30]) ?_
 obtain rfl := leafS h
 exact VW.ret (VRet.fin (by simp [eB26]))
theorem tl26 {s : T30} {r : Bool} (h : g26 s = some r) : F26 [.cptr [.sl 1 (rows ci_i64 s.need_), .sl 1 (rows ci_i64 s.price_), .i .i64 s.most_, .i .i64 s.yield_, .i .i64 s.store_, .i .i64 s.first_, .i .i64 s.loss_] 0] = some (.b r) := tells_eq inj26 (a := s) h
noncomputable def g27_j1 (out_86 : ByteArray) : Option (ByteArray) :=
some out_86
noncomputable def g27_L1 (s : T30) : (ByteArray × Int) → Option ((ByteArray × Int) ⊕ (ByteArray))
| (out_123, k_124) =>
if ltI k_124 (s.need_.length : Int) = true then
(idx s.need_ k_124).bind fun e126 =>
(g41 e126).bind fun r128 =>
(catS r128 (⟨#[32]⟩ : ByteArray)).bind fun z130 =>
(idx s.price_ k_124).bind fun e132 =>
(g41 e132).bind fun r134 =>
(catS z130 r134).bind fun z136 =>
(catS z136 (⟨#[10]⟩ : ByteArray)).bind fun z138 =>
(catS out_123 z138).bind fun z140 =>
some (.inl (z140, aI .i64 k_124 1))
else
some (.inr out_123)
noncomputable def g27 (s : T30) : Option (ByteArray) :=
(g41 s.most_).bind fun r1 =>
(catS (⟨#[115, 101, 97, 115, 111, 110, 32]⟩ : ByteArray) r1).bind fun z3 =>
(catS z3 (⟨#[32]⟩ : ByteArray)).bind fun z5 =>
(g41 s.yield_).bind fun r7 =>
(catS z5 r7).bind fun z9 =>
(catS z9 (⟨#[32]⟩ : ByteArray)).bind fun z11 =>
(g41 s.store_).bind fun r13 =>
(catS z11 r13).bind fun z15 =>
(catS z15 (⟨#[32]⟩ : ByteArray)).bind fun z17 =>
(g41 s.first_).bind fun r19 =>
(catS z17 r19).bind fun z21 =>
(catS z21 (⟨#[32]⟩ : ByteArray)).bind fun z23 =>
(g41 s.loss_).bind fun r25 =>
(catS z23 r25).bind fun z27 =>
(catS z27 (⟨#[10]⟩ : ByteArray)).bind fun z29 =>
(loopO (g27_L1 s) (z29, 0)).bind fun w => g27_j1 w
def eA27 (a : T30) : List V := [.cptr (pT30 a) 0]
def eB27 (r : ByteArray) : V := .str r
theorem inj27 (a a' : T30) (h : eA27 a = eA27 a') : a = a' := by
  obtain ⟨i129, i130, i131, i132, i133, i134, i135⟩ := a
  obtain ⟨i136, i137, i138, i139, i140, i141, i142⟩ := a'
  simp only [eA27, pT30, List.cons.injEq, V.i.injEq, V.b.injEq, V.f.injEq, V.str.injEq, V.sl.injEq, V.agg.injEq, V.cptr.injEq, true_and, and_true] at h
  simp_all [ri ci_i64_inj]
noncomputable def F27 : List V → Option V := tells (fun a => g27 a) eA27 eB27
/- loop.example/g01229/spec.l07Text -/
theorem ok27 : Tells Tryd.prog 27 F27 := by
 refine Tells.go 71 Tryd.func27 rfl rfl rfl (by kernel_rfl) (fun _ => rfl) ?_
 rintro s r h
 simp only [eA27, en, Nat.reduceAdd]
 replace h : (g27 s).bind some = some r := bindS h
 rw [g27] at h
 have hC : CEnv.Ok Tryd.prog [(41, F41)] := ⟨.inl ok41, trivial⟩
 refine VW.seq (VW.rA (tm 71 [(0, .cptr (pT30 s) 0)]) [] [] hC (VW.seq ?_))
 obtain ⟨r1, q2, h⟩ := bindE h
 have c2 := tl41 q2
 obtain ⟨z3, q4, h⟩ := bindE h
 obtain ⟨z5, q6, h⟩ := bindE h
 obtain ⟨r7, q8, h⟩ := bindE h
 have c8 := tl41 q8
 obtain ⟨z9, q10, h⟩ := bindE h
 obtain ⟨z11, q12, h⟩ := bindE h
 obtain ⟨r13, q14, h⟩ := bindE h
 have c14 := tl41 q14
 obtain ⟨z15, q16, h⟩ := bindE h
 obtain ⟨z17, q18, h⟩ := bindE h
 obtain ⟨r19, q20, h⟩ := bindE h
 have c20 := tl41 q20
 obtain ⟨z21, q22, h⟩ := bindE h
 obtain ⟨z23, q24, h⟩ := bindE h
 obtain ⟨r25, q26, h⟩ := bindE h
 have c26 := tl41 q26
 obtain ⟨z27, q28, h⟩ := bindE h
 obtain ⟨z29, q30, h⟩ := bindE h
 refine VW.rD (tm 71 [(0, .cptr (pT30 s) 0), (3, .str z29)]) [] [] hC mixed (VW.join (fun (v : ByteArray) => (⟨(tm 71 [(3, .str v)]), [], []⟩ : VS)) (fun v => (g27_j1 (v)).bind some = some r) ?_ ?_) (h := by simp -implicitDefEqProofs [c2, q4, q6, c8, q10, q12, c14, q16, q18, c20, q22, q24, c26, q28, q30, pT30])
 · refine VW.seq (VW.rA (tm 71 [(0, .cptr (pT30 s) 0), (3, .str z29), (4, .i .i64 0)]) [] [] hC (VW.block ?_))
   obtain ⟨w_1, hw_1, h⟩ := bindE h
   refine VW.loopO (fun (x : ByteArray × Int) => (⟨(tm 71 [(0, .cptr (pT30 s) 0), (3, .str x.1), (4, .i .i64 x.2)]), [], []⟩ : VS)) hw_1 (Ent.tu 0) ?_
   rintro n_1 ⟨out_123, k_124⟩ h1
   rw [g27_L1] at h1
   refine VW.seq (VW.seq (VW.rA (tm 71 [(0, .cptr (pT30 s) 0), (3, .str out_123), (4, .i .i64 k_124), (46, .b (ltI k_124 (s.need_.length : Int)))]) [] [] hC (VW.condJ h1 (fun h1 => ?_) (fun h1 => ?_))))
   · refine VW.exit ?_
     have e_ := leafR h1
     subst w_1
     exact vnext out_123 h (Ent.tu 0)
   refine VW.skip (VW.seq (VW.block ?_))
   obtain ⟨e126, ⟨f127a, f127b, f127c, f127d⟩, h1⟩ := bindI h1
   obtain ⟨r128, q129, h1⟩ := bindE h1
   have c129 := tl41 q129
   obtain ⟨z130, q131, h1⟩ := bindE h1
   obtain ⟨e132, ⟨f133a, f133b, f133c, f133d⟩, h1⟩ := bindI h1
   obtain ⟨r134, q135, h1⟩ := bindE h1
   have c135 := tl41 q135
   obtain ⟨z136, q137, h1⟩ := bindE h1
   obtain ⟨z138, q139, h1⟩ := bindE h1
   obtain ⟨z140, q141, h1⟩ := bindE h1
   exact VW.rD (tm 71 [(0, .cptr (pT30 s) 0), (3, .str z140), (4, .i .i64 k_124)]) [] [] hC mixed (VW.rA (tm 71 [(0, .cptr (pT30 s) 0), (3, .str z140), (4, .i .i64 (aI .i64 k_124 1))]) [] [] hC (vnext (z140, aI .i64 k_124 1) (leafL h1) (Ent.tu 0))) (h := by simp -implicitDefEqProofs [f127a, f127b, f127c, f127d, c129, q131, f133a, f133b, f133c, f133d, c135, q137, q139, q141, pT30])
 rintro out_86 h
 replace h : (g27_j1 out_86).bind _ = _ := h
 rw [g27_j1] at h
 refine VW.seq (VW.rA (tm 71 [(2, .str out_86)]) [] [] hC ?_)
 obtain rfl := leafS h
 exact VW.ret (VRet.fin (by simp [eB27]))
theorem tl27 {s : T30} {r : ByteArray} (h : g27 s = some r) : F27 [.cptr [.sl 1 (rows ci_i64 s.need_), .sl 1 (rows ci_i64 s.price_), .i .i64 s.most_, .i .i64 s.yield_, .i .i64 s.store_, .i .i64 s.first_, .i .i64 s.loss_] 0] = some (.str r) := tells_eq inj27 (a := s) h
noncomputable def g10 (s : T30) : Option (ByteArray) :=
(g26 s).bind fun r1 =>
if (!r1) = true then
some ByteArray.empty
else
(g27 s).bind fun r4 =>
some r4
def eA10 (a : T30) : List V := [.agg (pT30 a)]
def eB10 (r : ByteArray) : V := .str r
theorem inj10 (a a' : T30) (h : eA10 a = eA10 a') : a = a' := by
  obtain ⟨i143, i144, i145, i146, i147, i148, i149⟩ := a
  obtain ⟨i150, i151, i152, i153, i154, i155, i156⟩ := a'
  simp only [eA10, pT30, List.cons.injEq, V.i.injEq, V.b.injEq, V.f.injEq, V.str.injEq, V.sl.injEq, V.agg.injEq, V.cptr.injEq, true_and, and_true] at h
  simp_all [ri ci_i64_inj]
noncomputable def F10 : List V → Option V := tells (fun a => g10 a) eA10 eB10
/- loop.example/g01229/spec.SeasonText -/
theorem ok10 : Tells Tryd.prog 10 F10 := by
 refine Tells.go 6 Tryd.func10 rfl rfl rfl (by kernel_rfl) (fun _ => rfl) ?_
 rintro s r h
 simp only [eA10, en, Nat.reduceAdd]
 replace h : (g10 s).bind some = some r := bindS h
 rw [g10] at h
 have hC : CEnv.Ok Tryd.prog [(26, F26), (27, F27)] := ⟨.inl ok26, .inl ok27, trivial⟩
 refine VW.seq (VW.rA (tm 6 [(1, .ptr 0 0 0)]) [some (7, [(pT30 s)])] [] hC (VW.seq (VW.seq ?_)))
 obtain ⟨r1, q2, h⟩ := bindE h
 have c2 : F26 [.cptr (pT30 s) 0] = some (.b r1) := tells_eq inj26 (a := s) q2
 refine VW.rA (tm 6 [(1, .ptr 0 0 0), (4, .b (!r1))]) [some (7, [(pT30 s)])] [] hC (VW.condI h (fun h => ?_) (fun h => ?_)) (h := by simp -implicitDefEqProofs [c2])
 · refine VW.seq (VW.rA (tm 6 [(2, .str ByteArray.empty)]) [some (7, [(pT30 s)])] [] hC ?_)
   obtain rfl := leafS h
   exact VW.ret (VRet.fin (by simp [eB10]))
 refine VW.skip (VW.seq ?_)
 obtain ⟨r4, q5, h⟩ := bindE h
 have c5 : F27 [.cptr (pT30 s) 0] = some (.str r4) := tells_eq inj27 (a := s) q5
 refine VW.rA (tm 6 [(2, .str r4)]) [some (7, [(pT30 s)])] [] hC ?_ (h := by simp -implicitDefEqProofs [c5])
 obtain rfl := leafS h
 exact VW.ret (VRet.fin (by simp [eB10]))
theorem tl10 {s : T30} {r : ByteArray} (h : g10 s = some r) : F10 [.agg [.sl 1 (rows ci_i64 s.need_), .sl 1 (rows ci_i64 s.price_), .i .i64 s.most_, .i .i64 s.yield_, .i .i64 s.store_, .i .i64 s.first_, .i .i64 s.loss_]] = some (.str r) := tells_eq inj10 (a := s) h
noncomputable def g28_j1 (l22 : List Int) : Option (List Int) :=
some l22
noncomputable def g28_L1 (a : List Int) : (Int × (List Int)) → Option ((Int × (List Int)) ⊕ (List Int))
| (i_35, l36) =>
if ltI i_35 (a.length : Int) = true then
(idx a i_35).bind fun e38 =>
(idx l36 i_35).bind fun e40 =>
some (.inl (aI .i64 i_35 1, (l36.set i_35.toNat e38)))
else
some (.inr l36)
noncomputable def g28 (a : List Int) : Option (List Int) :=
(mk 8 (a.length : Int)).bind fun u1 =>
(loopO (g28_L1 a) (0, (List.replicate (a.length : Int).toNat 0))).bind fun w => g28_j1 w
def eA28 (a : List Int) : List V := [.sl 1 (rows ci_i64 a)]
def eB28 (r : List Int) : V := .own 1 (rows ci_i64 r)
theorem inj28 (a a' : List Int) (h : eA28 a = eA28 a') : a = a' := by
  obtain i157 := a
  obtain i158 := a'
  simp only [eA28, List.cons.injEq, V.i.injEq, V.b.injEq, V.f.injEq, V.str.injEq, V.sl.injEq, V.agg.injEq, V.cptr.injEq, true_and, and_true] at h
  simp_all [ri ci_i64_inj]
noncomputable def F28 : List V → Option V := tells (fun a => g28 a) eA28 eB28
/- loop.example/g01229/laws.toInt64S -/
theorem ok28 : Tells Tryd.prog 28 F28 := by
 refine Tells.go 22 Tryd.func28 rfl rfl rfl (by kernel_rfl) (fun _ => rfl) ?_
 rintro a r h
 simp only [eA28, en, Nat.reduceAdd]
 replace h : (g28 a).bind some = some r := bindS h
 rw [g28] at h
 have hC : CEnv.Ok Tryd.prog [] := trivial
 refine VW.seq (VW.rA (tm 22 [(0, .sl 1 (rows ci_i64 a))]) [] [] hC (VW.seq ?_))
 obtain ⟨u1, ⟨f2a, f2b, f2c⟩, h⟩ := bindM h
 try simp only [Int.toNat_natCast, Int.reduceToNat, List.length_cons, List.length_nil, Nat.reduceAdd, Nat.zero_add] at f2a f2b f2c
 refine VW.rA (tm 22 [(0, .sl 1 (rows ci_i64 a)), (3, .ref 0 0 (List.replicate (a.length : Int).toNat 0).length)]) [some (1, rows ci_i64 (List.replicate (a.length : Int).toNat 0))] [] hC (VW.join (fun (v : List Int) => (⟨(tm 22 [(3, .ref 0 0 v.length)]), [some (1, rows ci_i64 v)], []⟩ : VS)) (fun v => (g28_j1 (v)).bind some = some r) ?_ ?_) (h := by simp -implicitDefEqProofs [f2a, f2b, f2c])
 · refine VW.seq (VW.rA (tm 22 [(0, .sl 1 (rows ci_i64 a)), (3, .ref 0 0 (List.replicate (a.length : Int).toNat 0).length), (4, .i .i64 0)]) [some (1, rows ci_i64 (List.replicate (a.length : Int).toNat 0))] [] hC (VW.block ?_))
   obtain ⟨w_1, hw_1, h⟩ := bindE h
   refine VW.loopO (fun (x : Int × (List Int)) => (⟨(tm 22 [(0, .sl 1 (rows ci_i64 a)), (3, .ref 0 0 x.2.length), (4, .i .i64 x.1)]), [some (1, rows ci_i64 x.2)], []⟩ : VS)) hw_1 (Ent.tu 1) ?_
   rintro n_1 ⟨i_35, l36⟩ h1
   rw [g28_L1] at h1
   refine VW.seq (VW.seq (VW.rA (tm 22 [(0, .sl 1 (rows ci_i64 a)), (3, .ref 0 0 l36.length), (4, .i .i64 i_35), (11, .b (ltI i_35 (a.length : Int)))]) [some (1, rows ci_i64 l36)] [] hC (VW.condJ h1 (fun h1 => ?_) (fun h1 => ?_))))
   · refine VW.exit ?_
     have e_ := leafR h1
     subst w_1
     exact vnext l36 h (Ent.tu 1)
   refine VW.skip (VW.seq (VW.block ?_))
   obtain ⟨e38, ⟨f39a, f39b, f39c, f39d⟩, h1⟩ := bindI h1
   obtain ⟨e40, ⟨f41a, f41b, f41c, f41d⟩, h1⟩ := bindI h1
   exact VW.rA (tm 22 [(0, .sl 1 (rows ci_i64 a)), (3, .ref 0 0 (l36.set i_35.toNat e38).length), (4, .i .i64 i_35)]) [some (1, rows ci_i64 (l36.set i_35.toNat e38))] [] hC (VW.rA (tm 22 [(0, .sl 1 (rows ci_i64 a)), (3, .ref 0 0 (l36.set i_35.toNat e38).length), (4, .i .i64 (aI .i64 i_35 1))]) [some (1, rows ci_i64 (l36.set i_35.toNat e38))] [] hC (vnext (aI .i64 i_35 1, (l36.set i_35.toNat e38)) (leafL h1) (Ent.tu 1))) (h := by simp -implicitDefEqProofs [f39a, f39b, f39c, f39d, f41a, f41b, f41c, f41d])
 rintro l22 h
 replace h : (g28_j1 l22).bind _ = _ := h
 rw [g28_j1] at h
 refine VW.seq (VW.rA (tm 22 [(2, .ref 0 0 l22.length)]) [some (1, rows ci_i64 l22)] [] hC ?_)
 obtain rfl := leafS h
 exact VW.ret (VRet.fin (by simp [eB28]))
theorem tl28 {a : List Int} {r : List Int} (h : g28 a = some r) : F28 [.sl 1 (rows ci_i64 a)] = some (.own 1 (rows ci_i64 r)) := tells_eq inj28 (a := a) h
noncomputable def g11 (a : T30) : Option (T30) :=
(g28 a.need_).bind fun r1 =>
(g28 a.price_).bind fun r3 =>
some (⟨r1, r3, a.most_, a.yield_, a.store_, a.first_, a.loss_⟩ : T30)
def eA11 (a : T30) : List V := [.agg (pT30 a)]
def eB11 (r : T30) : V := .agg [.own 1 (rows ci_i64 r.need_), .own 1 (rows ci_i64 r.price_), .i .i64 r.most_, .i .i64 r.yield_, .i .i64 r.store_, .i .i64 r.first_, .i .i64 r.loss_]
theorem inj11 (a a' : T30) (h : eA11 a = eA11 a') : a = a' := by
  obtain ⟨i159, i160, i161, i162, i163, i164, i165⟩ := a
  obtain ⟨i166, i167, i168, i169, i170, i171, i172⟩ := a'
  simp only [eA11, pT30, List.cons.injEq, V.i.injEq, V.b.injEq, V.f.injEq, V.str.injEq, V.sl.injEq, V.agg.injEq, V.cptr.injEq, true_and, and_true] at h
  simp_all [ri ci_i64_inj]
noncomputable def F11 : List V → Option V := tells (fun a => g11 a) eA11 eB11
/- loop.example/g01229/laws.toSeason -/
theorem ok11 : Tells Tryd.prog 11 F11 := by
 refine Tells.go 28 Tryd.func11 rfl rfl rfl (by kernel_rfl) (fun _ => rfl) ?_
 rintro a r h
 simp only [eA11, en, Nat.reduceAdd]
 replace h : (g11 a).bind some = some r := bindS h
 rw [g11] at h
 have hC : CEnv.Ok Tryd.prog [(28, F28)] := ⟨.inl ok28, trivial⟩
 refine VW.seq (VW.rA (tm 28 [(1, .ptr 0 0 0), (2, .ptr 1 0 0)]) [some (7, [(pT30 a)]), some (7, [[.nil, .nil, .i .i64 0, .i .i64 0, .i .i64 0, .i .i64 0, .i .i64 0]])] [] hC (VW.seq (VW.rA (tm 28 [(1, .ptr 0 0 0), (2, .ptr 1 0 0), (3, .ptr 2 0 0)]) [some (7, [(pT30 a)]), some (7, [[.nil, .nil, .i .i64 0, .i .i64 0, .i .i64 0, .i .i64 0, .i .i64 0]]), some (7, [[.nil, .nil, .i .i64 0, .i .i64 0, .i .i64 0, .i .i64 0, .i .i64 0]])] [] hC (VW.seq ?_))))
 obtain ⟨r1, q2, h⟩ := bindE h
 have c2 := tl28 q2
 refine VW.rA (tm 28 [(1, .ptr 0 0 0), (2, .ptr 1 0 0), (3, .ptr 2 0 0)]) [some (7, [(pT30 a)]), some (7, [[.nil, .nil, .i .i64 0, .i .i64 0, .i .i64 0, .i .i64 0, .i .i64 0]]), some (7, [[.ref 3 0 r1.length, .nil, .i .i64 0, .i .i64 0, .i .i64 0, .i .i64 0, .i .i64 0]]), some (1, rows ci_i64 r1)] [] hC (VW.seq ?_) (h := by simp -implicitDefEqProofs [c2])
 obtain ⟨r3, q4, h⟩ := bindE h
 have c4 := tl28 q4
 refine VW.rA (tm 28 [(1, .ptr 0 0 0), (2, .ptr 1 0 0), (3, .ptr 2 0 0)]) [some (7, [(pT30 a)]), some (7, [[.nil, .nil, .i .i64 0, .i .i64 0, .i .i64 0, .i .i64 0, .i .i64 0]]), some (7, [[.ref 3 0 r1.length, .ref 4 0 r3.length, .i .i64 0, .i .i64 0, .i .i64 0, .i .i64 0, .i .i64 0]]), some (1, rows ci_i64 r1), some (1, rows ci_i64 r3)] [] hC (VW.seq (VW.rA (tm 28 [(1, .ptr 0 0 0), (2, .ptr 1 0 0), (3, .ptr 2 0 0)]) [some (7, [(pT30 a)]), some (7, [[.nil, .nil, .i .i64 0, .i .i64 0, .i .i64 0, .i .i64 0, .i .i64 0]]), some (7, [[.ref 3 0 r1.length, .ref 4 0 r3.length, .i .i64 a.most_, .i .i64 0, .i .i64 0, .i .i64 0, .i .i64 0]]), some (1, rows ci_i64 r1), some (1, rows ci_i64 r3)] [] hC (VW.seq (VW.rA (tm 28 [(1, .ptr 0 0 0), (2, .ptr 1 0 0), (3, .ptr 2 0 0)]) [some (7, [(pT30 a)]), some (7, [[.nil, .nil, .i .i64 0, .i .i64 0, .i .i64 0, .i .i64 0, .i .i64 0]]), some (7, [[.ref 3 0 r1.length, .ref 4 0 r3.length, .i .i64 a.most_, .i .i64 a.yield_, .i .i64 0, .i .i64 0, .i .i64 0]]), some (1, rows ci_i64 r1), some (1, rows ci_i64 r3)] [] hC (VW.seq (VW.rA (tm 28 [(1, .ptr 0 0 0), (2, .ptr 1 0 0), (3, .ptr 2 0 0)]) [some (7, [(pT30 a)]), some (7, [[.nil, .nil, .i .i64 0, .i .i64 0, .i .i64 0, .i .i64 0, .i .i64 0]]), some (7, [[.ref 3 0 r1.length, .ref 4 0 r3.length, .i .i64 a.most_, .i .i64 a.yield_, .i .i64 a.store_, .i .i64 0, .i .i64 0]]), some (1, rows ci_i64 r1), some (1, rows ci_i64 r3)] [] hC (VW.seq (VW.rA (tm 28 [(1, .ptr 0 0 0), (2, .ptr 1 0 0), (3, .ptr 2 0 0)]) [some (7, [(pT30 a)]), some (7, [[.nil, .nil, .i .i64 0, .i .i64 0, .i .i64 0, .i .i64 0, .i .i64 0]]), some (7, [[.ref 3 0 r1.length, .ref 4 0 r3.length, .i .i64 a.most_, .i .i64 a.yield_, .i .i64 a.store_, .i .i64 a.first_, .i .i64 0]]), some (1, rows ci_i64 r1), some (1, rows ci_i64 r3)] [] hC (VW.seq (VW.rA (tm 28 [(2, .ptr 1 0 0), (3, .ptr 2 0 0)]) [some (7, [(pT30 a)]), some (7, [[.nil, .nil, .i .i64 0, .i .i64 0, .i .i64 0, .i .i64 0, .i .i64 0]]), some (7, [[.ref 3 0 r1.length, .ref 4 0 r3.length, .i .i64 a.most_, .i .i64 a.yield_, .i .i64 a.store_, .i .i64 a.first_, .i .i64 a.loss_]]), some (1, rows ci_i64 r1), some (1, rows ci_i64 r3)] [] hC (VW.seq (VW.rA (tm 28 [(2, .ptr 1 0 0)]) [some (7, [(pT30 a)]), some (7, [[.ref 3 0 r1.length, .ref 4 0 r3.length, .i .i64 a.most_, .i .i64 a.yield_, .i .i64 a.store_, .i .i64 a.first_, .i .i64 a.loss_]]), some (7, [[.ref 3 0 r1.length, .ref 4 0 r3.length, .i .i64 a.most_, .i .i64 a.yield_, .i .i64 a.store_, .i .i64 a.first_, .i .i64 a.loss_]]), some (1, rows ci_i64 r1), some (1, rows ci_i64 r3)] [] hC ?_)))))))))))) (h := by simp -implicitDefEqProofs [c4])
 obtain rfl := leafS h
 exact VW.ret (VRet.fin (by simp [eB11]))
theorem tl11 {a : T30} {r : T30} (h : g11 a = some r) : F11 [.agg [.sl 1 (rows ci_i64 a.need_), .sl 1 (rows ci_i64 a.price_), .i .i64 a.most_, .i .i64 a.yield_, .i .i64 a.store_, .i .i64 a.first_, .i .i64 a.loss_]] = some (.agg [.own 1 (rows ci_i64 r.need_), .own 1 (rows ci_i64 r.price_), .i .i64 r.most_, .i .i64 r.yield_, .i .i64 r.store_, .i .i64 r.first_, .i .i64 r.loss_]) := tells_eq inj11 (a := a) h
noncomputable def g29_j1 (s : T30) : Option (Bool) :=
some (((((((((leI 0 s.most_ && leI s.most_ 20) && leI 1 s.yield_) && leI s.yield_ 40) && leI 0 s.store_) && leI s.store_ 60) && leI 0 s.first_) && leI s.first_ s.store_) && leI 0 s.loss_) && leI s.loss_ 100)
noncomputable def g29_L1 (s : T30) : (Int) → Option ((Int) ⊕ ((Unit) ⊕ (Bool)))
| x_85 =>
if ltI x_85 (s.need_.length : Int) = true then
(idx s.need_ x_85).bind fun e87 =>
(if (ltI e87 0 || ltI 200 e87) = true then some true else (idx s.price_ x_85).bind fun e89 => some (ltI e89 0)).bind fun w91 =>
(if w91 = true then some true else (idx s.price_ x_85).bind fun e92 => some (ltI 1000 e92)).bind fun w94 =>
if w94 = true then
some (.inr (.inr false))
else
some (.inl (aI .i64 x_85 1))
else
some (.inr (.inl ()))
noncomputable def g29 (s : T30) : Option (Bool) :=
if ((ltI (s.need_.length : Int) 1 || ltI 24 (s.need_.length : Int)) || (!eqI (s.price_.length : Int) (s.need_.length : Int))) = true then
some false
else
(loopO (g29_L1 s) 0).bind fun w => match w with
| .inl y => g29_j1 s
| .inr r => some r
def eA29 (a : T30) : List V := [.agg (pT30 a)]
def eB29 (r : Bool) : V := .b r
theorem inj29 (a a' : T30) (h : eA29 a = eA29 a') : a = a' := by
  obtain ⟨i173, i174, i175, i176, i177, i178, i179⟩ := a
  obtain ⟨i180, i181, i182, i183, i184, i185, i186⟩ := a'
  simp only [eA29, pT30, List.cons.injEq, V.i.injEq, V.b.injEq, V.f.injEq, V.str.injEq, V.sl.injEq, V.agg.injEq, V.cptr.injEq, true_and, and_true] at h
  simp_all [ri ci_i64_inj]
noncomputable def F29 : List V → Option V := tells (fun a => g29 a) eA29 eB29
/- loop.example/g01229/impl.ValidSeason -/
theorem ok29 : Tells Tryd.prog 29 F29 := by
 refine Tells.go 106 Tryd.func29 rfl rfl rfl (by kernel_rfl) (fun _ => rfl) ?_
 rintro s r h
 simp only [eA29, en, Nat.reduceAdd]
 replace h : (g29 s).bind some = some r := bindS h
 rw [g29] at h
 have hC : CEnv.Ok Tryd.prog [] := trivial
 refine VW.seq (VW.rA (tm 106 [(1, .ptr 0 0 0)]) [some (7, [(pT30 s)])] [] hC (VW.seq (VW.rA (tm 106 [(1, .ptr 0 0 0), (3, .i .i64 (s.need_.length : Int))]) [some (7, [(pT30 s)])] [] hC (VW.seq (VW.seq (VW.rA (tm 106 [(1, .ptr 0 0 0), (3, .i .i64 (s.need_.length : Int)), (20, .b ((ltI (s.need_.length : Int) 1 || ltI 24 (s.need_.length : Int)) || (!eqI (s.price_.length : Int) (s.need_.length : Int))))]) [some (7, [(pT30 s)])] [] hC (VW.condI h (fun h => ?_) (fun h => ?_))))))))
 · refine VW.seq (VW.rA (tm 106 [(2, .b false)]) [some (7, [(pT30 s)])] [] hC ?_)
   obtain rfl := leafS h
   exact VW.ret (VRet.fin (by simp [eB29]))
 refine VW.skip (VW.join (fun (v : Unit) => (⟨(tm 106 [(1, .ptr 0 0 0)]), [some (7, [(pT30 s)])], []⟩ : VS)) (fun v => (g29_j1 s).bind some = some r) ?_ ?_)
 · refine VW.seq (VW.rA (tm 106 [(1, .ptr 0 0 0), (21, .i .i64 (s.need_.length : Int)), (22, .i .i64 0)]) [some (7, [(pT30 s)])] [] hC (VW.block ?_))
   obtain ⟨w_1, hw_1, h⟩ := bindE h
   refine VW.loopO (fun (x : Int) => (⟨(tm 106 [(1, .ptr 0 0 0), (21, .i .i64 (s.need_.length : Int)), (22, .i .i64 x)]), [some (7, [(pT30 s)])], []⟩ : VS)) hw_1 (Ent.tu 1) ?_
   rintro n_1 x_85 h1
   rw [g29_L1] at h1
   refine VW.seq (VW.rA (tm 106 [(1, .ptr 0 0 0), (21, .i .i64 (s.need_.length : Int)), (22, .i .i64 x_85), (23, .b (ltI x_85 (s.need_.length : Int)))]) [some (7, [(pT30 s)])] [] hC (VW.seq (VW.condJ h1 (fun h1 => ?_) (fun h1 => ?_))))
   · refine VW.exit ?_
     have e_ := leafR h1
     subst w_1
     exact vnext () h (Ent.tu 1)
   refine VW.skip (VW.seq (VW.block (VW.seq (VW.rA (tm 106 [(1, .ptr 0 0 0), (4, .i .i64 x_85), (21, .i .i64 (s.need_.length : Int)), (22, .i .i64 x_85)]) [some (7, [(pT30 s)])] [] hC (VW.seq ?_)))))
   obtain ⟨e87, ⟨f88a, f88b, f88c, f88d⟩, h1⟩ := bindI h1
   obtain ⟨w91, q96, h1⟩ := bindE h1
   obtain ⟨w94, q97, h1⟩ := bindE h1
   refine VW.evalA (tm 106 [(1, .ptr 0 0 0), (21, .i .i64 (s.need_.length : Int)), (22, .i .i64 x_85), (54, .b w94)]) [some (7, [(pT30 s)])] [] hC (by kernel_rfl) (by
       obtain ⟨q98, q96⟩ | ⟨q98, rfl⟩ := gdF q96
       · obtain ⟨e89, q90, q96⟩ := bindQ q96
         obtain ⟨f90a, f90b, f90c, f90d⟩ := idx_some q90
         obtain rfl := Option.some.inj q96
         obtain ⟨q99, q97⟩ | ⟨q99, rfl⟩ := gdF q97
         · obtain ⟨e92, q93, q97⟩ := bindQ q97
           have d100 : e92 = e89 := Option.some.inj (q93.symm.trans q90)
           obtain rfl := Option.some.inj q97
           simp -implicitDefEqProofs [f88a, f88b, f88c, f88d, q98, f90a, f90b, f90c, f90d, q99, d100, pT30]
         simp -implicitDefEqProofs [f88a, f88b, f88c, f88d, q98, f90a, f90b, f90c, f90d, q99, pT30]
       obtain ⟨q101, q97⟩ | ⟨q101, rfl⟩ := gdF q97
       · exact absurd q101 (by simp)
       simp -implicitDefEqProofs [f88a, f88b, f88c, f88d, q98, q101, pT30]) ?_
   refine VW.condI h1 (fun h1 => ?_) (fun h1 => ?_)
   · refine VW.seq (VW.rA (tm 106 [(2, .b false)]) [some (7, [(pT30 s)])] [] hC ?_)
     have e_ := leafR h1
     subst w_1
     obtain rfl := leafS h
     exact VW.ret (VRet.fin (by simp [eB29]))
   exact VW.skip (VW.rA (tm 106 [(1, .ptr 0 0 0), (21, .i .i64 (s.need_.length : Int)), (22, .i .i64 (aI .i64 x_85 1))]) [some (7, [(pT30 s)])] [] hC (vnext (aI .i64 x_85 1) (leafL h1) (Ent.tu 1)))
 rintro _ h
 replace h : (g29_j1 s).bind _ = _ := h
 rw [g29_j1] at h
 refine VW.seq (VW.rA (tm 106 [(2, .b (((((((((leI 0 s.most_ && leI s.most_ 20) && leI 1 s.yield_) && leI s.yield_ 40) && leI 0 s.store_) && leI s.store_ 60) && leI 0 s.first_) && leI s.first_ s.store_) && leI 0 s.loss_) && leI s.loss_ 100))]) [some (7, [(pT30 s)])] [] hC ?_ (h := by simp (maxSteps := 4000000) -implicitDefEqProofs [pT30]))
 obtain rfl := leafS h
 exact VW.ret (VRet.fin (by simp [eB29]))
theorem tl29 {s : T30} {r : Bool} (h : g29 s = some r) : F29 [.agg [.sl 1 (rows ci_i64 s.need_), .sl 1 (rows ci_i64 s.price_), .i .i64 s.most_, .i .i64 s.yield_, .i .i64 s.store_, .i .i64 s.first_, .i .i64 s.loss_]] = some (.b r) := tells_eq inj29 (a := s) h
noncomputable def g30_j1 (out_44 : ByteArray) : Option (ByteArray) :=
some out_44
noncomputable def g30_L1 (s : T30) : (ByteArray × Int) → Option ((ByteArray × Int) ⊕ (ByteArray))
| (out_69, x_70) =>
if ltI x_70 (s.need_.length : Int) = true then
(idx s.need_ x_70).bind fun e72 =>
(idx s.price_ x_70).bind fun e74 =>
(g24 [e72, e74]).bind fun r76 =>
(catS r76 (⟨#[10]⟩ : ByteArray)).bind fun z78 =>
(catS out_69 z78).bind fun z80 =>
some (.inl (z80, aI .i64 x_70 1))
else
some (.inr out_69)
noncomputable def g30 (s : T30) : Option (ByteArray) :=
(g24 [s.most_, s.yield_, s.store_, s.first_, s.loss_]).bind fun r1 =>
(catS (⟨#[115, 101, 97, 115, 111, 110, 32]⟩ : ByteArray) r1).bind fun z3 =>
(catS z3 (⟨#[10]⟩ : ByteArray)).bind fun z5 =>
(loopO (g30_L1 s) (z5, 0)).bind fun w => g30_j1 w
def eA30 (a : T30) : List V := [.agg (pT30 a)]
def eB30 (r : ByteArray) : V := .str r
theorem inj30 (a a' : T30) (h : eA30 a = eA30 a') : a = a' := by
  obtain ⟨i187, i188, i189, i190, i191, i192, i193⟩ := a
  obtain ⟨i194, i195, i196, i197, i198, i199, i200⟩ := a'
  simp only [eA30, pT30, List.cons.injEq, V.i.injEq, V.b.injEq, V.f.injEq, V.str.injEq, V.sl.injEq, V.agg.injEq, V.cptr.injEq, true_and, and_true] at h
  simp_all [ri ci_i64_inj]
noncomputable def F30 : List V → Option V := tells (fun a => g30 a) eA30 eB30
/- loop.example/g01229/impl.seasonText -/
theorem ok30 : Tells Tryd.prog 30 F30 := by
 refine Tells.go 41 Tryd.func30 rfl rfl rfl (by kernel_rfl) (fun _ => rfl) ?_
 rintro s r h
 simp only [eA30, en, Nat.reduceAdd]
 replace h : (g30 s).bind some = some r := bindS h
 rw [g30] at h
 have hC : CEnv.Ok Tryd.prog [(24, F24)] := ⟨.inl ok24, trivial⟩
 refine VW.seq (VW.rA (tm 41 [(1, .ptr 0 0 0)]) [some (7, [(pT30 s)])] [] hC (VW.seq ?_))
 obtain ⟨r1, q2, h⟩ := bindE h
 have c2 : F24 [.sl 1 [[.i .i64 s.most_], [.i .i64 s.yield_], [.i .i64 s.store_], [.i .i64 s.first_], [.i .i64 s.loss_]]] = some (.str r1) := tells_eq inj24 (a := [s.most_, s.yield_, s.store_, s.first_, s.loss_]) q2
 obtain ⟨z3, q4, h⟩ := bindE h
 obtain ⟨z5, q6, h⟩ := bindE h
 refine VW.rA (tm 41 [(1, .ptr 0 0 0), (3, .str z5)]) [some (7, [(pT30 s)]), some (1, rows ci_i64 [s.most_, s.yield_, s.store_, s.first_, s.loss_])] [] hC (VW.join (fun (v : ByteArray) => (⟨(tm 41 [(3, .str v)]), [some (7, [(pT30 s)]), some (1, rows ci_i64 [s.most_, s.yield_, s.store_, s.first_, s.loss_])], []⟩ : VS)) (fun v => (g30_j1 (v)).bind some = some r) ?_ ?_) (h := by simp -implicitDefEqProofs [c2, q4, q6])
 · refine VW.seq (VW.rA (tm 41 [(1, .ptr 0 0 0), (3, .str z5), (21, .sl 1 (rows ci_i64 s.need_)), (22, .i .i64 (s.need_.length : Int)), (23, .i .i64 0)]) [some (7, [(pT30 s)]), some (1, rows ci_i64 [s.most_, s.yield_, s.store_, s.first_, s.loss_])] [] hC (VW.block ?_))
   obtain ⟨w_1, hw_1, h⟩ := bindE h
   refine VW.loopO (fun (x : ByteArray × Int) => (⟨(tm 41 [(1, .ptr 0 0 0), (3, .str x.1), (21, .sl 1 (rows ci_i64 s.need_)), (22, .i .i64 (s.need_.length : Int)), (23, .i .i64 x.2)]), [some (7, [(pT30 s)]), some (1, rows ci_i64 [s.most_, s.yield_, s.store_, s.first_, s.loss_])], []⟩ : VS)) hw_1 (Ent.tu 2) ?_
   rintro n_1 ⟨out_69, x_70⟩ h1
   rw [g30_L1] at h1
   refine VW.seq (VW.rA (tm 41 [(1, .ptr 0 0 0), (3, .str out_69), (21, .sl 1 (rows ci_i64 s.need_)), (22, .i .i64 (s.need_.length : Int)), (23, .i .i64 x_70), (24, .b (ltI x_70 (s.need_.length : Int)))]) [some (7, [(pT30 s)]), some (1, rows ci_i64 [s.most_, s.yield_, s.store_, s.first_, s.loss_])] [] hC (VW.seq (VW.condJ h1 (fun h1 => ?_) (fun h1 => ?_))))
   · refine VW.exit ?_
     have e_ := leafR h1
     subst w_1
     exact vnext out_69 h (Ent.tu 2)
   refine VW.skip (VW.seq (VW.block (VW.seq ?_)))
   obtain ⟨e72, ⟨f73a, f73b, f73c, f73d⟩, h1⟩ := bindI h1
   refine VW.rA (tm 41 [(1, .ptr 0 0 0), (3, .str out_69), (4, .i .i64 x_70), (5, .i .i64 e72), (21, .sl 1 (rows ci_i64 s.need_)), (22, .i .i64 (s.need_.length : Int)), (23, .i .i64 x_70)]) [some (7, [(pT30 s)]), some (1, rows ci_i64 [s.most_, s.yield_, s.store_, s.first_, s.loss_])] [] hC ?_ (h := by simp -implicitDefEqProofs [f73a, f73b, f73c, f73d])
   obtain ⟨e74, ⟨f75a, f75b, f75c, f75d⟩, h1⟩ := bindI h1
   obtain ⟨r76, q77, h1⟩ := bindE h1
   have c77 : F24 [.sl 1 [[.i .i64 e72], [.i .i64 e74]]] = some (.str r76) := tells_eq inj24 (a := [e72, e74]) q77
   obtain ⟨z78, q79, h1⟩ := bindE h1
   obtain ⟨z80, q81, h1⟩ := bindE h1
   exact VW.rA (tm 41 [(1, .ptr 0 0 0), (3, .str z80), (21, .sl 1 (rows ci_i64 s.need_)), (22, .i .i64 (s.need_.length : Int)), (23, .i .i64 x_70)]) [some (7, [(pT30 s)]), some (1, rows ci_i64 [s.most_, s.yield_, s.store_, s.first_, s.loss_]), some (1, rows ci_i64 [e72, e74])] [] hC (VW.rA (tm 41 [(1, .ptr 0 0 0), (3, .str z80), (21, .sl 1 (rows ci_i64 s.need_)), (22, .i .i64 (s.need_.length : Int)), (23, .i .i64 (aI .i64 x_70 1))]) [some (7, [(pT30 s)]), some (1, rows ci_i64 [s.most_, s.yield_, s.store_, s.first_, s.loss_]), some (1, rows ci_i64 [e72, e74])] [] hC (vnext (z80, aI .i64 x_70 1) (leafL h1) (Ent.tu 2))) (h := by simp -implicitDefEqProofs [f75a, f75b, f75c, f75d, c77, q79, q81])
 rintro out_44 h
 replace h : (g30_j1 out_44).bind _ = _ := h
 rw [g30_j1] at h
 refine VW.seq (VW.rA (tm 41 [(2, .str out_44)]) [some (7, [(pT30 s)]), some (1, rows ci_i64 [s.most_, s.yield_, s.store_, s.first_, s.loss_])] [] hC ?_)
 obtain rfl := leafS h
 exact VW.ret (VRet.fin (by simp [eB30]))
theorem tl30 {s : T30} {r : ByteArray} (h : g30 s = some r) : F30 [.agg [.sl 1 (rows ci_i64 s.need_), .sl 1 (rows ci_i64 s.price_), .i .i64 s.most_, .i .i64 s.yield_, .i .i64 s.store_, .i .i64 s.first_, .i .i64 s.loss_]] = some (.str r) := tells_eq inj30 (a := s) h
noncomputable def g12 (s : T30) : Option (ByteArray) :=
(g29 s).bind fun r1 =>
if (!r1) = true then
some ByteArray.empty
else
(g30 s).bind fun r4 =>
some r4
def eA12 (a : T30) : List V := [.agg (pT30 a)]
def eB12 (r : ByteArray) : V := .str r
theorem inj12 (a a' : T30) (h : eA12 a = eA12 a') : a = a' := by
  obtain ⟨i201, i202, i203, i204, i205, i206, i207⟩ := a
  obtain ⟨i208, i209, i210, i211, i212, i213, i214⟩ := a'
  simp only [eA12, pT30, List.cons.injEq, V.i.injEq, V.b.injEq, V.f.injEq, V.str.injEq, V.sl.injEq, V.agg.injEq, V.cptr.injEq, true_and, and_true] at h
  simp_all [ri ci_i64_inj]
noncomputable def F12 : List V → Option V := tells (fun a => g12 a) eA12 eB12
/- loop.example/g01229/impl.SeasonText -/
theorem ok12 : Tells Tryd.prog 12 F12 := by
 refine Tells.go 8 Tryd.func12 rfl rfl rfl (by kernel_rfl) (fun _ => rfl) ?_
 rintro s r h
 simp only [eA12, en, Nat.reduceAdd]
 replace h : (g12 s).bind some = some r := bindS h
 rw [g12] at h
 have hC : CEnv.Ok Tryd.prog [(29, F29), (30, F30)] := ⟨.inl ok29, .inl ok30, trivial⟩
 refine VW.seq (VW.rA (tm 8 [(1, .ptr 0 0 0)]) [some (7, [(pT30 s)])] [] hC (VW.seq (VW.seq ?_)))
 obtain ⟨r1, q2, h⟩ := bindE h
 have c2 : F29 [.agg (pT30 s)] = some (.b r1) := tells_eq inj29 (a := s) q2
 refine VW.rA (tm 8 [(1, .ptr 0 0 0), (5, .b (!r1))]) [some (7, [(pT30 s)])] [] hC (VW.condI h (fun h => ?_) (fun h => ?_)) (h := by simp -implicitDefEqProofs [c2])
 · refine VW.seq (VW.rA (tm 8 [(2, .str ByteArray.empty)]) [some (7, [(pT30 s)])] [] hC ?_)
   obtain rfl := leafS h
   exact VW.ret (VRet.fin (by simp [eB12]))
 refine VW.skip (VW.seq ?_)
 obtain ⟨r4, q5, h⟩ := bindE h
 have c5 : F30 [.agg (pT30 s)] = some (.str r4) := tells_eq inj30 (a := s) q5
 refine VW.rA (tm 8 [(2, .str r4)]) [some (7, [(pT30 s)])] [] hC ?_ (h := by simp -implicitDefEqProofs [c5])
 obtain rfl := leafS h
 exact VW.ret (VRet.fin (by simp [eB12]))
theorem tl12 {s : T30} {r : ByteArray} (h : g12 s = some r) : F12 [.agg [.sl 1 (rows ci_i64 s.need_), .sl 1 (rows ci_i64 s.price_), .i .i64 s.most_, .i .i64 s.yield_, .i .i64 s.store_, .i .i64 s.first_, .i .i64 s.loss_]] = some (.str r) := tells_eq inj12 (a := s) h
noncomputable def g31_j1 : Option (Bool) :=
some true
noncomputable def g31_L1 (a : List Int) (b : List Int) : (Int) → Option ((Int) ⊕ ((Unit) ⊕ (Bool)))
| i_35 =>
if ltI i_35 (a.length : Int) = true then
(idx a i_35).bind fun e37 =>
(idx b i_35).bind fun e39 =>
if (!eqI e37 e39) = true then
some (.inr (.inr false))
else
some (.inl (aI .i64 i_35 1))
else
some (.inr (.inl ()))
noncomputable def g31 (a : List Int) (b : List Int) : Option (Bool) :=
if (!eqI (a.length : Int) (b.length : Int)) = true then
some false
else
(loopO (g31_L1 a b) 0).bind fun w => match w with
| .inl y => g31_j1
| .inr r => some r
def eA31 (a : (List Int) × (List Int)) : List V := [.sl 1 (rows ci_i64 a.1), .sl 1 (rows ci_i64 a.2)]
def eB31 (r : Bool) : V := .b r
theorem inj31 (a a' : (List Int) × (List Int)) (h : eA31 a = eA31 a') : a = a' := by
  obtain ⟨i215, i216⟩ := a
  obtain ⟨i217, i218⟩ := a'
  simp only [eA31, List.cons.injEq, V.i.injEq, V.b.injEq, V.f.injEq, V.str.injEq, V.sl.injEq, V.agg.injEq, V.cptr.injEq, true_and, and_true] at h
  simp_all [ri ci_i64_inj]
noncomputable def F31 : List V → Option V := tells (fun a => g31 a.1 a.2) eA31 eB31
/- loop.example/g01229/laws.eqInt64S -/
theorem ok31 : Tells Tryd.prog 31 F31 := by
 refine Tells.go 26 Tryd.func31 rfl rfl rfl (by kernel_rfl) (fun _ => rfl) ?_
 rintro ⟨a, b⟩ r h
 simp only [eA31, en, Nat.reduceAdd]
 replace h : (g31 a b).bind some = some r := bindS h
 rw [g31] at h
 have hC : CEnv.Ok Tryd.prog [] := trivial
 refine VW.seq (VW.rA (tm 26 [(0, .sl 1 (rows ci_i64 a)), (1, .sl 1 (rows ci_i64 b))]) [] [] hC (VW.seq (VW.seq (VW.rA (tm 26 [(0, .sl 1 (rows ci_i64 a)), (1, .sl 1 (rows ci_i64 b)), (10, .b (!eqI (a.length : Int) (b.length : Int)))]) [] [] hC (VW.condI h (fun h => ?_) (fun h => ?_))))))
 · refine VW.seq (VW.rA (tm 26 [(4, .b false)]) [] [] hC ?_)
   obtain rfl := leafS h
   exact VW.ret (VRet.fin (by simp [eB31]))
 refine VW.skip (VW.join (fun (v : Unit) => (⟨(tm 26 []), [], []⟩ : VS)) (fun v => (g31_j1).bind some = some r) ?_ ?_)
 · refine VW.seq (VW.rA (tm 26 [(0, .sl 1 (rows ci_i64 a)), (1, .sl 1 (rows ci_i64 b)), (5, .i .i64 0)]) [] [] hC (VW.block ?_))
   obtain ⟨w_1, hw_1, h⟩ := bindE h
   refine VW.loopO (fun (x : Int) => (⟨(tm 26 [(0, .sl 1 (rows ci_i64 a)), (1, .sl 1 (rows ci_i64 b)), (5, .i .i64 x)]), [], []⟩ : VS)) hw_1 (Ent.tu 0) ?_
   rintro n_1 i_35 h1
   rw [g31_L1] at h1
   refine VW.seq (VW.seq (VW.rA (tm 26 [(0, .sl 1 (rows ci_i64 a)), (1, .sl 1 (rows ci_i64 b)), (5, .i .i64 i_35), (14, .b (ltI i_35 (a.length : Int)))]) [] [] hC (VW.condJ h1 (fun h1 => ?_) (fun h1 => ?_))))
   · refine VW.exit ?_
     have e_ := leafR h1
     subst w_1
     exact vnext () h (Ent.tu 0)
   refine VW.skip (VW.seq (VW.block (VW.seq ?_)))
   obtain ⟨e37, ⟨f38a, f38b, f38c, f38d⟩, h1⟩ := bindI h1
   obtain ⟨e39, ⟨f40a, f40b, f40c, f40d⟩, h1⟩ := bindI h1
   refine VW.rD (tm 26 [(0, .sl 1 (rows ci_i64 a)), (1, .sl 1 (rows ci_i64 b)), (5, .i .i64 i_35), (25, .b (!eqI e37 e39))]) [] [] hC mixed (VW.condI h1 (fun h1 => ?_) (fun h1 => ?_)) (h := by simp -implicitDefEqProofs [f38a, f38b, f38c, f38d, f40a, f40b, f40c, f40d])
   · refine VW.seq (VW.rA (tm 26 [(4, .b false)]) [] [] hC ?_)
     have e_ := leafR h1
     subst w_1
     obtain rfl := leafS h
     exact VW.ret (VRet.fin (by simp [eB31]))
   exact VW.skip (VW.rA (tm 26 [(0, .sl 1 (rows ci_i64 a)), (1, .sl 1 (rows ci_i64 b)), (5, .i .i64 (aI .i64 i_35 1))]) [] [] hC (vnext (aI .i64 i_35 1) (leafL h1) (Ent.tu 0)))
 rintro _ h
 replace h : (g31_j1).bind _ = _ := h
 rw [g31_j1] at h
 refine VW.seq (VW.rA (tm 26 [(4, .b true)]) [] [] hC ?_)
 obtain rfl := leafS h
 exact VW.ret (VRet.fin (by simp [eB31]))
theorem tl31 {a : List Int} {b : List Int} {r : Bool} (h : g31 a b = some r) : F31 [.sl 1 (rows ci_i64 a), .sl 1 (rows ci_i64 b)] = some (.b r) := tells_eq inj31 (a := (a, b)) h
noncomputable def g13 (a : T30) (b : T30) : Option (Bool) :=
(g31 a.need_ b.need_).bind fun r1 =>
if (!r1) = true then
some false
else
(g31 a.price_ b.price_).bind fun r4 =>
if (!r4) = true then
some false
else
if (!eqI a.most_ b.most_) = true then
some false
else
if (!eqI a.yield_ b.yield_) = true then
some false
else
if (!eqI a.store_ b.store_) = true then
some false
else
if (!eqI a.first_ b.first_) = true then
some false
else
if (!eqI a.loss_ b.loss_) = true then
some false
else
some true
def eA13 (a : T30 × T30) : List V := [.agg (pT30 a.1), .agg (pT30 a.2)]
def eB13 (r : Bool) : V := .b r
theorem inj13 (a a' : T30 × T30) (h : eA13 a = eA13 a') : a = a' := by
  obtain ⟨⟨i219, i220, i221, i222, i223, i224, i225⟩, ⟨i226, i227, i228, i229, i230, i231, i232⟩⟩ := a
  obtain ⟨⟨i233, i234, i235, i236, i237, i238, i239⟩, ⟨i240, i241, i242, i243, i244, i245, i246⟩⟩ := a'
  simp only [eA13, pT30, List.cons.injEq, V.i.injEq, V.b.injEq, V.f.injEq, V.str.injEq, V.sl.injEq, V.agg.injEq, V.cptr.injEq, true_and, and_true] at h
  simp_all [ri ci_i64_inj]
noncomputable def F13 : List V → Option V := tells (fun a => g13 a.1 a.2) eA13 eB13
/- loop.example/g01229/laws.eqSeason -/
theorem ok13 : Tells Tryd.prog 13 F13 := by
 refine Tells.go 42 Tryd.func13 rfl rfl rfl (by kernel_rfl) (fun _ => rfl) ?_
 rintro ⟨a, b⟩ r h
 simp only [eA13, en, Nat.reduceAdd]
 replace h : (g13 a b).bind some = some r := bindS h
 rw [g13] at h
 have hC : CEnv.Ok Tryd.prog [(31, F31)] := ⟨.inl ok31, trivial⟩
 refine VW.seq (VW.rA (tm 42 [(2, .ptr 0 0 0), (3, .ptr 1 0 0)]) [some (7, [(pT30 a)]), some (7, [(pT30 b)])] [] hC (VW.seq (VW.seq ?_)))
 obtain ⟨r1, q2, h⟩ := bindE h
 have c2 := tl31 q2
 refine VW.rA (tm 42 [(2, .ptr 0 0 0), (3, .ptr 1 0 0), (10, .b (!r1))]) [some (7, [(pT30 a)]), some (7, [(pT30 b)])] [] hC (VW.condI h (fun h => ?_) (fun h => ?_)) (h := by simp -implicitDefEqProofs [c2])
 · refine VW.seq (VW.rA (tm 42 [(4, .b false)]) [some (7, [(pT30 a)]), some (7, [(pT30 b)])] [] hC ?_)
   obtain rfl := leafS h
   exact VW.ret (VRet.fin (by simp [eB13]))
 refine VW.skip (VW.seq (VW.seq ?_))
 obtain ⟨r4, q5, h⟩ := bindE h
 have c5 := tl31 q5
 refine VW.rA (tm 42 [(2, .ptr 0 0 0), (3, .ptr 1 0 0), (16, .b (!r4))]) [some (7, [(pT30 a)]), some (7, [(pT30 b)])] [] hC (VW.condI h (fun h => ?_) (fun h => ?_)) (h := by simp -implicitDefEqProofs [c5])
 · refine VW.seq (VW.rA (tm 42 [(4, .b false)]) [some (7, [(pT30 a)]), some (7, [(pT30 b)])] [] hC ?_)
   obtain rfl := leafS h
   exact VW.ret (VRet.fin (by simp [eB13]))
 refine VW.skip (VW.seq (VW.seq (VW.rA (tm 42 [(2, .ptr 0 0 0), (3, .ptr 1 0 0), (21, .b (!eqI a.most_ b.most_))]) [some (7, [(pT30 a)]), some (7, [(pT30 b)])] [] hC (VW.condI h (fun h => ?_) (fun h => ?_)))))
 · refine VW.seq (VW.rA (tm 42 [(4, .b false)]) [some (7, [(pT30 a)]), some (7, [(pT30 b)])] [] hC ?_)
   obtain rfl := leafS h
   exact VW.ret (VRet.fin (by simp [eB13]))
 refine VW.skip (VW.seq (VW.seq (VW.rA (tm 42 [(2, .ptr 0 0 0), (3, .ptr 1 0 0), (26, .b (!eqI a.yield_ b.yield_))]) [some (7, [(pT30 a)]), some (7, [(pT30 b)])] [] hC (VW.condI h (fun h => ?_) (fun h => ?_)))))
 · refine VW.seq (VW.rA (tm 42 [(4, .b false)]) [some (7, [(pT30 a)]), some (7, [(pT30 b)])] [] hC ?_)
   obtain rfl := leafS h
   exact VW.ret (VRet.fin (by simp [eB13]))
 refine VW.skip (VW.seq (VW.seq (VW.rA (tm 42 [(2, .ptr 0 0 0), (3, .ptr 1 0 0), (31, .b (!eqI a.store_ b.store_))]) [some (7, [(pT30 a)]), some (7, [(pT30 b)])] [] hC (VW.condI h (fun h => ?_) (fun h => ?_)))))
 · refine VW.seq (VW.rA (tm 42 [(4, .b false)]) [some (7, [(pT30 a)]), some (7, [(pT30 b)])] [] hC ?_)
   obtain rfl := leafS h
   exact VW.ret (VRet.fin (by simp [eB13]))
 refine VW.skip (VW.seq (VW.seq (VW.rA (tm 42 [(2, .ptr 0 0 0), (3, .ptr 1 0 0), (36, .b (!eqI a.first_ b.first_))]) [some (7, [(pT30 a)]), some (7, [(pT30 b)])] [] hC (VW.condI h (fun h => ?_) (fun h => ?_)))))
 · refine VW.seq (VW.rA (tm 42 [(4, .b false)]) [some (7, [(pT30 a)]), some (7, [(pT30 b)])] [] hC ?_)
   obtain rfl := leafS h
   exact VW.ret (VRet.fin (by simp [eB13]))
 refine VW.skip (VW.seq (VW.seq (VW.rA (tm 42 [(41, .b (!eqI a.loss_ b.loss_))]) [some (7, [(pT30 a)]), some (7, [(pT30 b)])] [] hC (VW.condI h (fun h => ?_) (fun h => ?_)))))
 · refine VW.seq (VW.rA (tm 42 [(4, .b false)]) [some (7, [(pT30 a)]), some (7, [(pT30 b)])] [] hC ?_)
   obtain rfl := leafS h
   exact VW.ret (VRet.fin (by simp [eB13]))
 refine VW.skip (VW.seq (VW.rA (tm 42 [(4, .b true)]) [some (7, [(pT30 a)]), some (7, [(pT30 b)])] [] hC ?_))
 obtain rfl := leafS h
 exact VW.ret (VRet.fin (by simp [eB13]))
theorem tl13 {a : T30} {b : T30} {r : Bool} (h : g13 a b = some r) : F13 [.agg [.sl 1 (rows ci_i64 a.need_), .sl 1 (rows ci_i64 a.price_), .i .i64 a.most_, .i .i64 a.yield_, .i .i64 a.store_, .i .i64 a.first_, .i .i64 a.loss_], .agg [.sl 1 (rows ci_i64 b.need_), .sl 1 (rows ci_i64 b.price_), .i .i64 b.most_, .i .i64 b.yield_, .i .i64 b.store_, .i .i64 b.first_, .i .i64 b.loss_]] = some (.b r) := tells_eq inj13 (a := (a, b)) h
noncomputable def g4 (aS : T30) : Option (Bool) :=
(g9 aS 1048576).bind fun r1 =>
if ltI r1 0 = true then
some true
else
(g11 aS).bind fun r4 =>
(g10 r4).bind fun r6 =>
(g11 aS).bind fun r8 =>
(g12 r8).bind fun r10 =>
if (!eqS r10 r6) = true then
some false
else
(g11 aS).bind fun r13 =>
(g13 r8 r13).bind fun r15 =>
if (!r15) = true then
some false
else
some true
def eA4 (a : T30) : List V := [.agg (pT30 a)]
def eB4 (r : Bool) : V := .b r
theorem inj4 (a a' : T30) (h : eA4 a = eA4 a') : a = a' := by
  obtain ⟨i247, i248, i249, i250, i251, i252, i253⟩ := a
  obtain ⟨i254, i255, i256, i257, i258, i259, i260⟩ := a'
  simp only [eA4, pT30, List.cons.injEq, V.i.injEq, V.b.injEq, V.f.injEq, V.str.injEq, V.sl.injEq, V.agg.injEq, V.cptr.injEq, true_and, and_true] at h
  simp_all [ri ci_i64_inj]
noncomputable def F4 : List V → Option V := tells (fun a => g4 a) eA4 eB4
/- loop.example/g01229/laws.FnExactSeasonText -/
theorem ok4 : Tells Tryd.prog 4 F4 := by
 refine Tells.go 27 Tryd.func4 rfl rfl rfl (by kernel_rfl) (fun _ => rfl) ?_
 rintro aS r h
 simp only [eA4, en, Nat.reduceAdd]
 replace h : (g4 aS).bind some = some r := bindS h
 rw [g4] at h
 have hC : CEnv.Ok Tryd.prog [(9, F9), (10, F10), (11, F11), (12, F12), (13, F13)] := ⟨.inl ok9, .inl ok10, .inl ok11, .inl ok12, .inl ok13, trivial⟩
 refine VW.seq (VW.rA (tm 27 [(1, .ptr 0 0 0)]) [some (7, [(pT30 aS)])] [] hC (VW.seq (VW.rA (tm 27 [(1, .ptr 0 0 0), (3, .i .i64 1048576)]) [some (7, [(pT30 aS)])] [] hC (VW.seq ?_))))
 obtain ⟨r1, q2, h⟩ := bindE h
 have c2 : F9 [.agg (pT30 aS), .i .i64 1048576] = some (.i .i64 r1) := tells_eq inj9 (a := (aS, 1048576)) q2
 refine VW.rA (tm 27 [(1, .ptr 0 0 0), (3, .i .i64 r1)]) [some (7, [(pT30 aS)])] [] hC (VW.seq (VW.seq (VW.rA (tm 27 [(1, .ptr 0 0 0), (11, .b (ltI r1 0))]) [some (7, [(pT30 aS)])] [] hC (VW.condI h (fun h => ?_) (fun h => ?_))))) (h := by simp -implicitDefEqProofs [c2])
 · refine VW.seq (VW.rA (tm 27 [(2, .b true)]) [some (7, [(pT30 aS)])] [] hC ?_)
   obtain rfl := leafS h
   exact VW.ret (VRet.fin (by simp [eB4]))
 refine VW.skip (VW.seq ?_)
 obtain ⟨r4, q5, h⟩ := bindE h
 have c5 : F11 [.agg (pT30 aS)] = some (.agg [.own 1 (rows ci_i64 r4.need_), .own 1 (rows ci_i64 r4.price_), .i .i64 r4.most_, .i .i64 r4.yield_, .i .i64 r4.store_, .i .i64 r4.first_, .i .i64 r4.loss_]) := tells_eq inj11 (a := aS) q5
 obtain ⟨r6, q7, h⟩ := bindE h
 have c7 := tl10 q7
 refine VW.rA (tm 27 [(1, .ptr 0 0 0), (4, .str r6)]) [some (7, [(pT30 aS)]), some (1, rows ci_i64 r4.need_), some (1, rows ci_i64 r4.price_)] [] hC (VW.seq ?_) (h := by simp -implicitDefEqProofs [c5, c7])
 obtain ⟨r8, q9, h⟩ := bindE h
 have c9 : F11 [.agg (pT30 aS)] = some (.agg [.own 1 (rows ci_i64 r8.need_), .own 1 (rows ci_i64 r8.price_), .i .i64 r8.most_, .i .i64 r8.yield_, .i .i64 r8.store_, .i .i64 r8.first_, .i .i64 r8.loss_]) := tells_eq inj11 (a := aS) q9
 refine VW.rA (tm 27 [(1, .ptr 0 0 0), (4, .str r6), (5, .ptr 5 0 0)]) [some (7, [(pT30 aS)]), some (1, rows ci_i64 r4.need_), some (1, rows ci_i64 r4.price_), some (1, rows ci_i64 r8.need_), some (1, rows ci_i64 r8.price_), some (7, [[.ref 3 0 r8.need_.length, .ref 4 0 r8.price_.length, .i .i64 r8.most_, .i .i64 r8.yield_, .i .i64 r8.store_, .i .i64 r8.first_, .i .i64 r8.loss_]])] [] hC (VW.seq ?_) (h := by simp -implicitDefEqProofs [c9])
 obtain ⟨r10, q11, h⟩ := bindE h
 have c11 := tl12 q11
 refine VW.rA (tm 27 [(1, .ptr 0 0 0), (4, .str r6), (5, .ptr 5 0 0), (6, .str r10)]) [some (7, [(pT30 aS)]), some (1, rows ci_i64 r4.need_), some (1, rows ci_i64 r4.price_), some (1, rows ci_i64 r8.need_), some (1, rows ci_i64 r8.price_), some (7, [[.ref 3 0 r8.need_.length, .ref 4 0 r8.price_.length, .i .i64 r8.most_, .i .i64 r8.yield_, .i .i64 r8.store_, .i .i64 r8.first_, .i .i64 r8.loss_]])] [] hC (VW.seq (VW.seq (VW.rA (tm 27 [(1, .ptr 0 0 0), (5, .ptr 5 0 0), (21, .b (!eqS r10 r6))]) [some (7, [(pT30 aS)]), some (1, rows ci_i64 r4.need_), some (1, rows ci_i64 r4.price_), some (1, rows ci_i64 r8.need_), some (1, rows ci_i64 r8.price_), some (7, [[.ref 3 0 r8.need_.length, .ref 4 0 r8.price_.length, .i .i64 r8.most_, .i .i64 r8.yield_, .i .i64 r8.store_, .i .i64 r8.first_, .i .i64 r8.loss_]])] [] hC (VW.condI h (fun h => ?_) (fun h => ?_))))) (h := by simp -implicitDefEqProofs [c11])
 · refine VW.seq (VW.rA (tm 27 [(2, .b false)]) [some (7, [(pT30 aS)]), some (1, rows ci_i64 r4.need_), some (1, rows ci_i64 r4.price_), some (1, rows ci_i64 r8.need_), some (1, rows ci_i64 r8.price_), some (7, [[.ref 3 0 r8.need_.length, .ref 4 0 r8.price_.length, .i .i64 r8.most_, .i .i64 r8.yield_, .i .i64 r8.store_, .i .i64 r8.first_, .i .i64 r8.loss_]])] [] hC ?_)
   obtain rfl := leafS h
   exact VW.ret (VRet.fin (by simp [eB4]))
 refine VW.skip (VW.seq (VW.seq ?_))
 obtain ⟨r13, q14, h⟩ := bindE h
 have c14 : F11 [.agg (pT30 aS)] = some (.agg [.own 1 (rows ci_i64 r13.need_), .own 1 (rows ci_i64 r13.price_), .i .i64 r13.most_, .i .i64 r13.yield_, .i .i64 r13.store_, .i .i64 r13.first_, .i .i64 r13.loss_]) := tells_eq inj11 (a := aS) q14
 obtain ⟨r15, q16, h⟩ := bindE h
 have c16 := tl13 q16
 refine VW.rD (tm 27 [(26, .b (!r15))]) [some (7, [(pT30 aS)]), some (1, rows ci_i64 r4.need_), some (1, rows ci_i64 r4.price_), some (1, rows ci_i64 r8.need_), some (1, rows ci_i64 r8.price_), some (7, [[.ref 3 0 r8.need_.length, .ref 4 0 r8.price_.length, .i .i64 r8.most_, .i .i64 r8.yield_, .i .i64 r8.store_, .i .i64 r8.first_, .i .i64 r8.loss_]]), some (1, rows ci_i64 r13.need_), some (1, rows ci_i64 r13.price_)] [] hC mixed (VW.condI h (fun h => ?_) (fun h => ?_)) (h := by simp -implicitDefEqProofs [c14, c16])
 · refine VW.seq (VW.rA (tm 27 [(2, .b false)]) [some (7, [(pT30 aS)]), some (1, rows ci_i64 r4.need_), some (1, rows ci_i64 r4.price_), some (1, rows ci_i64 r8.need_), some (1, rows ci_i64 r8.price_), some (7, [[.ref 3 0 r8.need_.length, .ref 4 0 r8.price_.length, .i .i64 r8.most_, .i .i64 r8.yield_, .i .i64 r8.store_, .i .i64 r8.first_, .i .i64 r8.loss_]]), some (1, rows ci_i64 r13.need_), some (1, rows ci_i64 r13.price_)] [] hC ?_)
   obtain rfl := leafS h
   exact VW.ret (VRet.fin (by simp [eB4]))
 refine VW.skip (VW.seq (VW.rA (tm 27 [(2, .b true)]) [some (7, [(pT30 aS)]), some (1, rows ci_i64 r4.need_), some (1, rows ci_i64 r4.price_), some (1, rows ci_i64 r8.need_), some (1, rows ci_i64 r8.price_), some (7, [[.ref 3 0 r8.need_.length, .ref 4 0 r8.price_.length, .i .i64 r8.most_, .i .i64 r8.yield_, .i .i64 r8.store_, .i .i64 r8.first_, .i .i64 r8.loss_]]), some (1, rows ci_i64 r13.need_), some (1, rows ci_i64 r13.price_)] [] hC ?_))
 obtain rfl := leafS h
 exact VW.ret (VRet.fin (by simp [eB4]))
theorem tl4 {aS : T30} {r : Bool} (h : g4 aS = some r) : F4 [.agg [.sl 1 (rows ci_i64 aS.need_), .sl 1 (rows ci_i64 aS.price_), .i .i64 aS.most_, .i .i64 aS.yield_, .i .i64 aS.store_, .i .i64 aS.first_, .i .i64 aS.loss_]] = some (.b r) := tells_eq inj4 (a := aS) h
noncomputable def g14 (a : List T67) (left : Int) : Option (Int) :=
if ltI (sI .i64 left (a.length : Int)) 0 = true then
some (-1)
else
some (sI .i64 left (a.length : Int))
def eA14 (a : (List T67) × Int) : List V := [.sl 5 (rows cT67 a.1), .i .i64 a.2]
def eB14 (r : Int) : V := .i .i64 r
theorem inj14 (a a' : (List T67) × Int) (h : eA14 a = eA14 a') : a = a' := by
  obtain ⟨i271, i272⟩ := a
  obtain ⟨i273, i274⟩ := a'
  simp only [eA14, List.cons.injEq, V.i.injEq, V.b.injEq, V.f.injEq, V.str.injEq, V.sl.injEq, V.agg.injEq, V.cptr.injEq, true_and, and_true] at h
  simp_all [ri cT67_inj]
noncomputable def F14 : List V → Option V := tells (fun a => g14 a.1 a.2) eA14 eB14
/- loop.example/g01229/laws.szEntryS -/
theorem ok14 : Tells Tryd.prog 14 F14 := by
 refine Tells.go 12 Tryd.func14 rfl rfl rfl (by kernel_rfl) (fun _ => rfl) ?_
 rintro ⟨a, left⟩ r h
 simp only [eA14, en, Nat.reduceAdd]
 replace h : (g14 a left).bind some = some r := bindS h
 rw [g14] at h
 have hC : CEnv.Ok Tryd.prog [] := trivial
 refine VW.seq (VW.rA (tm 12 [(0, .sl 5 (rows cT67 a)), (1, .i .i64 left)]) [] [] hC (VW.seq (VW.rA (tm 12 [(1, .i .i64 (sI .i64 left (a.length : Int)))]) [] [] hC (VW.seq (VW.seq (VW.rA (tm 12 [(1, .i .i64 (sI .i64 left (a.length : Int))), (10, .b (ltI (sI .i64 left (a.length : Int)) 0))]) [] [] hC (VW.condI h (fun h => ?_) (fun h => ?_))))))))
 · refine VW.seq (VW.rA (tm 12 [(4, .i .i64 (-1))]) [] [] hC ?_)
   obtain rfl := leafS h
   exact VW.ret (VRet.fin (by simp [eB14]))
 refine VW.skip (VW.seq (VW.rA (tm 12 [(4, .i .i64 (sI .i64 left (a.length : Int)))]) [] [] hC ?_))
 obtain rfl := leafS h
 exact VW.ret (VRet.fin (by simp [eB14]))
theorem tl14 {a : List T67} {left : Int} {r : Int} (h : g14 a left = some r) : F14 [.sl 5 (rows cT67 a), .i .i64 left] = some (.i .i64 r) := tells_eq inj14 (a := (a, left)) h
noncomputable def g32 (e : T67) : Option (Bool) :=
if e.mark_ = true then
some (eqI e.act_.kind_ 0 && (eqI e.act_.a_ 0 && eqI e.act_.b_ 0))
else
(if eqI e.check_ 0 = true then (g19 e.act_).bind fun r2 => some r2 else some false).bind fun w4 =>
some w4
def eA32 (a : T67) : List V := [.cptr (pT67 a) 0]
def eB32 (r : Bool) : V := .b r
theorem inj32 (a a' : T67) (h : eA32 a = eA32 a') : a = a' := by
  obtain ⟨i275, i276, ⟨i277, i278, i279⟩⟩ := a
  obtain ⟨i280, i281, ⟨i282, i283, i284⟩⟩ := a'
  simp only [eA32, pT67, List.cons.injEq, V.i.injEq, V.b.injEq, V.f.injEq, V.str.injEq, V.sl.injEq, V.agg.injEq, V.cptr.injEq, true_and, and_true] at h
  simp_all
noncomputable def F32c : List V → Option V := tells (fun a => g32 a) eA32 eB32
/- loop.example/g01229/spec.l06Entry -/
theorem ok32 : Tells Tryd.prog 32 F32c := by
 refine Tells.go 24 Tryd.func32 rfl rfl rfl (by kernel_rfl) (fun _ => rfl) ?_
 rintro e r h
 simp only [eA32, en, Nat.reduceAdd]
 replace h : (g32 e).bind some = some r := bindS h
 rw [g32] at h
 have hC : CEnv.Ok Tryd.prog [(19, F19)] := ⟨.inl ok19, trivial⟩
 refine VW.seq (VW.rA (tm 24 [(0, .cptr (pT67 e) 0)]) [] [] hC (VW.seq (VW.seq (VW.rA (tm 24 [(0, .cptr (pT67 e) 0), (6, .b e.mark_)]) [] [] hC (VW.condI h (fun h => ?_) (fun h => ?_))))))
 · refine VW.seq (VW.rA (tm 24 [(2, .b (eqI e.act_.kind_ 0 && (eqI e.act_.a_ 0 && eqI e.act_.b_ 0)))]) [] [] hC ?_)
   obtain rfl := leafS h
   exact VW.ret (VRet.fin (by simp [eB32]))
 refine VW.skip (VW.seq ?_)
 obtain ⟨w4, q5, h⟩ := bindE h
 refine VW.evalA (tm 24 [(2, .b w4)]) [] [] hC (by kernel_rfl) (by
     obtain ⟨q6, q5⟩ | ⟨q6, rfl⟩ := gdT q5
     · obtain ⟨r2, q3, q5⟩ := bindQ q5
       have c3 := tl19 q3
       obtain rfl := Option.some.inj q5
       simp -implicitDefEqProofs [q6, c3]
     simp -implicitDefEqProofs [q6]) ?_
 obtain rfl := leafS h
 exact VW.ret (VRet.fin (by simp [eB32]))
theorem tl32 {e : T67} {r : Bool} (h : g32 e = some r) : F32c [.cptr [.b e.mark_, .i .u32 e.check_, .i .i64 e.act_.kind_, .i .i64 e.act_.a_, .i .i64 e.act_.b_] 0] = some (.b r) := tells_eq inj32 (a := e) h
noncomputable def g33_j1 (l49 : List Int) : Option (ByteArray) :=
some (strOfNums l49)
noncomputable def g33 (n : Int) : Option (ByteArray) :=
(shrI .u32 n 28).bind fun d50 =>
(idxS (⟨#[48, 49, 50, 51, 52, 53, 54, 55, 56, 57, 97, 98, 99, 100, 101, 102]⟩ : ByteArray) (andI .u32 d50 15)).bind fun e52 =>
(appK 1 [] [e52]).bind fun u54 =>
(shrI .u32 n 24).bind fun d56 =>
(idxS (⟨#[48, 49, 50, 51, 52, 53, 54, 55, 56, 57, 97, 98, 99, 100, 101, 102]⟩ : ByteArray) (andI .u32 d56 15)).bind fun e58 =>
(appK 1 [e52] [e58]).bind fun u60 =>
(shrI .u32 n 20).bind fun d62 =>
(idxS (⟨#[48, 49, 50, 51, 52, 53, 54, 55, 56, 57, 97, 98, 99, 100, 101, 102]⟩ : ByteArray) (andI .u32 d62 15)).bind fun e64 =>
(appK 1 ([e52] ++ [e58]) [e64]).bind fun u66 =>
(shrI .u32 n 16).bind fun d68 =>
(idxS (⟨#[48, 49, 50, 51, 52, 53, 54, 55, 56, 57, 97, 98, 99, 100, 101, 102]⟩ : ByteArray) (andI .u32 d68 15)).bind fun e70 =>
(appK 1 (([e52] ++ [e58]) ++ [e64]) [e70]).bind fun u72 =>
(shrI .u32 n 12).bind fun d74 =>
(idxS (⟨#[48, 49, 50, 51, 52, 53, 54, 55, 56, 57, 97, 98, 99, 100, 101, 102]⟩ : ByteArray) (andI .u32 d74 15)).bind fun e76 =>
(appK 1 ((([e52] ++ [e58]) ++ [e64]) ++ [e70]) [e76]).bind fun u78 =>
(shrI .u32 n 8).bind fun d80 =>
(idxS (⟨#[48, 49, 50, 51, 52, 53, 54, 55, 56, 57, 97, 98, 99, 100, 101, 102]⟩ : ByteArray) (andI .u32 d80 15)).bind fun e82 =>
(appK 1 (((([e52] ++ [e58]) ++ [e64]) ++ [e70]) ++ [e76]) [e82]).bind fun u84 =>
(shrI .u32 n 4).bind fun d86 =>
(idxS (⟨#[48, 49, 50, 51, 52, 53, 54, 55, 56, 57, 97, 98, 99, 100, 101, 102]⟩ : ByteArray) (andI .u32 d86 15)).bind fun e88 =>
(appK 1 ((((([e52] ++ [e58]) ++ [e64]) ++ [e70]) ++ [e76]) ++ [e82]) [e88]).bind fun u90 =>
(shrI .u32 n 0).bind fun d92 =>
(idxS (⟨#[48, 49, 50, 51, 52, 53, 54, 55, 56, 57, 97, 98, 99, 100, 101, 102]⟩ : ByteArray) (andI .u32 d92 15)).bind fun e94 =>
(appK 1 (((((([e52] ++ [e58]) ++ [e64]) ++ [e70]) ++ [e76]) ++ [e82]) ++ [e88]) [e94]).bind fun u96 =>
g33_j1 ((((((([e52] ++ [e58]) ++ [e64]) ++ [e70]) ++ [e76]) ++ [e82]) ++ [e88]) ++ [e94])
def eA33 (a : Int) : List V := [.i .u32 a]
def eB33 (r : ByteArray) : V := .str r
theorem inj33 (a a' : Int) (h : eA33 a = eA33 a') : a = a' := by
  obtain i285 := a
  obtain i286 := a'
  simp only [eA33, List.cons.injEq, V.i.injEq, V.b.injEq, V.f.injEq, V.str.injEq, V.sl.injEq, V.agg.injEq, V.cptr.injEq, true_and, and_true] at h
  simp_all
noncomputable def F33 : List V → Option V := tells (fun a => g33 a) eA33 eB33
/- loop.example/g01229/spec.l06Hex -/
theorem ok33 : Tells Tryd.prog 33 F33 := by
 refine Tells.go 23 Tryd.func33 rfl rfl rfl (by kernel_rfl) (fun _ => rfl) ?_
 rintro n r h
 simp only [eA33, en, Nat.reduceAdd]
 replace h : (g33 n).bind some = some r := bindS h
 rw [g33] at h
 have hC : CEnv.Ok Tryd.prog [] := trivial
 refine VW.seq (VW.rA (tm 23 [(0, .i .u32 n)]) [] [] hC (VW.seq (VW.rA (tm 23 [(0, .i .u32 n), (3, .str (⟨#[48, 49, 50, 51, 52, 53, 54, 55, 56, 57, 97, 98, 99, 100, 101, 102]⟩ : ByteArray))]) [] [] hC (VW.seq (VW.rA (tm 23 [(0, .i .u32 n), (3, .str (⟨#[48, 49, 50, 51, 52, 53, 54, 55, 56, 57, 97, 98, 99, 100, 101, 102]⟩ : ByteArray)), (4, .ref 0 0 0)]) [some (1, rows ci_u8 [])] [] hC (VW.join (fun (v : List Int) => (⟨(tm 23 [(4, .ref 0 0 v.length)]), [some (1, rows ci_u8 v)], []⟩ : VS)) (fun v => (g33_j1 (v)).bind some = some r) ?_ ?_))))))
 · refine VW.seq (VW.rA (tm 23 [(0, .i .u32 n), (3, .str (⟨#[48, 49, 50, 51, 52, 53, 54, 55, 56, 57, 97, 98, 99, 100, 101, 102]⟩ : ByteArray)), (4, .ref 0 0 0), (5, .i .i64 28)]) [some (1, rows ci_u8 [])] [] hC (VW.block (VW.rounds 10 (VRounds.step (VW.seq (VW.seq (VW.rA (tm 23 [(0, .i .u32 n), (3, .str (⟨#[48, 49, 50, 51, 52, 53, 54, 55, 56, 57, 97, 98, 99, 100, 101, 102]⟩ : ByteArray)), (4, .ref 0 0 0), (5, .i .i64 28), (8, .b true)]) [some (1, rows ci_u8 [])] [] hC (VW.condT (by simp) (VW.skip (VW.seq (VW.block ?_)))) (h := by simp -implicitDefEqProofs [(by decide : leI 0 28 = true)]))))))))
   obtain ⟨d50, q51, h⟩ := bindE h
   obtain ⟨e52, ⟨f53a, c53, f53b, f53c⟩, h⟩ := bindIS h
   obtain ⟨u54, ⟨f55a, f55b⟩, h⟩ := bindP h
   try simp only [Int.toNat_natCast, Int.reduceToNat, List.length_cons, List.length_nil, Nat.reduceAdd, Nat.zero_add] at f55a f55b
   refine VW.rA (tm 23 [(0, .i .u32 n), (3, .str (⟨#[48, 49, 50, 51, 52, 53, 54, 55, 56, 57, 97, 98, 99, 100, 101, 102]⟩ : ByteArray)), (4, .ref 0 0 [e52].length), (5, .i .i64 28)]) [some (1, rows ci_u8 [e52]), some (1, rows ci_u8 [e52])] [] hC (VW.rA (tm 23 [(0, .i .u32 n), (3, .str (⟨#[48, 49, 50, 51, 52, 53, 54, 55, 56, 57, 97, 98, 99, 100, 101, 102]⟩ : ByteArray)), (4, .ref 0 0 [e52].length), (5, .i .i64 24)]) [some (1, rows ci_u8 [e52]), some (1, rows ci_u8 [e52])] [] hC (VRounds.step (VW.seq (VW.seq (VW.rA (tm 23 [(0, .i .u32 n), (3, .str (⟨#[48, 49, 50, 51, 52, 53, 54, 55, 56, 57, 97, 98, 99, 100, 101, 102]⟩ : ByteArray)), (4, .ref 0 0 [e52].length), (5, .i .i64 24), (8, .b true)]) [some (1, rows ci_u8 [e52]), some (1, rows ci_u8 [e52])] [] hC (VW.condT (by simp) (VW.skip (VW.seq (VW.block ?_)))) (h := by simp -implicitDefEqProofs [(by decide : leI 0 24 = true)]))))) (h := by simp -implicitDefEqProofs [(by decide : sI .i64 28 4 = 24)])) (h := by simp -implicitDefEqProofs [q51, f53a, f53b, f53c, f55a, f55b, (by decide : cI .u64 28 = 28)])
   obtain ⟨d56, q57, h⟩ := bindE h
   obtain ⟨e58, ⟨f59a, c59, f59b, f59c⟩, h⟩ := bindIS h
   obtain ⟨u60, ⟨f61a, f61b⟩, h⟩ := bindP h
   try simp only [Int.toNat_natCast, Int.reduceToNat, List.length_cons, List.length_nil, Nat.reduceAdd, Nat.zero_add] at f61a f61b
   refine VW.rA (tm 23 [(0, .i .u32 n), (3, .str (⟨#[48, 49, 50, 51, 52, 53, 54, 55, 56, 57, 97, 98, 99, 100, 101, 102]⟩ : ByteArray)), (4, .ref 0 0 ([e52] ++ [e58]).length), (5, .i .i64 24)]) [some (1, rows ci_u8 ([e52] ++ [e58])), some (1, rows ci_u8 [e52]), some (1, rows ci_u8 [e58])] [] hC (VW.rA (tm 23 [(0, .i .u32 n), (3, .str (⟨#[48, 49, 50, 51, 52, 53, 54, 55, 56, 57, 97, 98, 99, 100, 101, 102]⟩ : ByteArray)), (4, .ref 0 0 ([e52] ++ [e58]).length), (5, .i .i64 20)]) [some (1, rows ci_u8 ([e52] ++ [e58])), some (1, rows ci_u8 [e52]), some (1, rows ci_u8 [e58])] [] hC (VRounds.step (VW.seq (VW.seq (VW.rA (tm 23 [(0, .i .u32 n), (3, .str (⟨#[48, 49, 50, 51, 52, 53, 54, 55, 56, 57, 97, 98, 99, 100, 101, 102]⟩ : ByteArray)), (4, .ref 0 0 ([e52] ++ [e58]).length), (5, .i .i64 20), (8, .b true)]) [some (1, rows ci_u8 ([e52] ++ [e58])), some (1, rows ci_u8 [e52]), some (1, rows ci_u8 [e58])] [] hC (VW.condT (by simp) (VW.skip (VW.seq (VW.block ?_)))) (h := by simp -implicitDefEqProofs [(by decide : leI 0 20 = true)]))))) (h := by simp -implicitDefEqProofs [(by decide : sI .i64 24 4 = 20)])) (h := by simp -implicitDefEqProofs [q57, f59a, f59b, f59c, f61a, f61b, (by decide : cI .u64 24 = 24)])
   obtain ⟨d62, q63, h⟩ := bindE h
   obtain ⟨e64, ⟨f65a, c65, f65b, f65c⟩, h⟩ := bindIS h
   obtain ⟨u66, ⟨f67a, f67b⟩, h⟩ := bindP h
   try simp only [Int.toNat_natCast, Int.reduceToNat, List.length_cons, List.length_nil, Nat.reduceAdd, Nat.zero_add] at f67a f67b
   refine VW.rA (tm 23 [(0, .i .u32 n), (3, .str (⟨#[48, 49, 50, 51, 52, 53, 54, 55, 56, 57, 97, 98, 99, 100, 101, 102]⟩ : ByteArray)), (4, .ref 0 0 (([e52] ++ [e58]) ++ [e64]).length), (5, .i .i64 20)]) [some (1, rows ci_u8 (([e52] ++ [e58]) ++ [e64])), some (1, rows ci_u8 [e52]), some (1, rows ci_u8 [e58]), some (1, rows ci_u8 [e64])] [] hC (VW.rA (tm 23 [(0, .i .u32 n), (3, .str (⟨#[48, 49, 50, 51, 52, 53, 54, 55, 56, 57, 97, 98, 99, 100, 101, 102]⟩ : ByteArray)), (4, .ref 0 0 (([e52] ++ [e58]) ++ [e64]).length), (5, .i .i64 16)]) [some (1, rows ci_u8 (([e52] ++ [e58]) ++ [e64])), some (1, rows ci_u8 [e52]), some (1, rows ci_u8 [e58]), some (1, rows ci_u8 [e64])] [] hC (VRounds.step (VW.seq (VW.seq (VW.rA (tm 23 [(0, .i .u32 n), (3, .str (⟨#[48, 49, 50, 51, 52, 53, 54, 55, 56, 57, 97, 98, 99, 100, 101, 102]⟩ : ByteArray)), (4, .ref 0 0 (([e52] ++ [e58]) ++ [e64]).length), (5, .i .i64 16), (8, .b true)]) [some (1, rows ci_u8 (([e52] ++ [e58]) ++ [e64])), some (1, rows ci_u8 [e52]), some (1, rows ci_u8 [e58]), some (1, rows ci_u8 [e64])] [] hC (VW.condT (by simp) (VW.skip (VW.seq (VW.block ?_)))) (h := by simp -implicitDefEqProofs [(by decide : leI 0 16 = true)]))))) (h := by simp -implicitDefEqProofs [(by decide : sI .i64 20 4 = 16)])) (h := by simp -implicitDefEqProofs [q63, f65a, f65b, f65c, f67a, f67b, (by decide : cI .u64 20 = 20)])
   obtain ⟨d68, q69, h⟩ := bindE h
   obtain ⟨e70, ⟨f71a, c71, f71b, f71c⟩, h⟩ := bindIS h
   obtain ⟨u72, ⟨f73a, f73b⟩, h⟩ := bindP h
   try simp only [Int.toNat_natCast, Int.reduceToNat, List.length_cons, List.length_nil, Nat.reduceAdd, Nat.zero_add] at f73a f73b
   refine VW.rA (tm 23 [(0, .i .u32 n), (3, .str (⟨#[48, 49, 50, 51, 52, 53, 54, 55, 56, 57, 97, 98, 99, 100, 101, 102]⟩ : ByteArray)), (4, .ref 0 0 ((([e52] ++ [e58]) ++ [e64]) ++ [e70]).length), (5, .i .i64 16)]) [some (1, rows ci_u8 ((([e52] ++ [e58]) ++ [e64]) ++ [e70])), some (1, rows ci_u8 [e52]), some (1, rows ci_u8 [e58]), some (1, rows ci_u8 [e64]), some (1, rows ci_u8 [e70])] [] hC (VW.rA (tm 23 [(0, .i .u32 n), (3, .str (⟨#[48, 49, 50, 51, 52, 53, 54, 55, 56, 57, 97, 98, 99, 100, 101, 102]⟩ : ByteArray)), (4, .ref 0 0 ((([e52] ++ [e58]) ++ [e64]) ++ [e70]).length), (5, .i .i64 12)]) [some (1, rows ci_u8 ((([e52] ++ [e58]) ++ [e64]) ++ [e70])), some (1, rows ci_u8 [e52]), some (1, rows ci_u8 [e58]), some (1, rows ci_u8 [e64]), some (1, rows ci_u8 [e70])] [] hC (VRounds.step (VW.seq (VW.seq (VW.rA (tm 23 [(0, .i .u32 n), (3, .str (⟨#[48, 49, 50, 51, 52, 53, 54, 55, 56, 57, 97, 98, 99, 100, 101, 102]⟩ : ByteArray)), (4, .ref 0 0 ((([e52] ++ [e58]) ++ [e64]) ++ [e70]).length), (5, .i .i64 12), (8, .b true)]) [some (1, rows ci_u8 ((([e52] ++ [e58]) ++ [e64]) ++ [e70])), some (1, rows ci_u8 [e52]), some (1, rows ci_u8 [e58]), some (1, rows ci_u8 [e64]), some (1, rows ci_u8 [e70])] [] hC (VW.condT (by simp) (VW.skip (VW.seq (VW.block ?_)))) (h := by simp -implicitDefEqProofs [(by decide : leI 0 12 = true)]))))) (h := by simp -implicitDefEqProofs [(by decide : sI .i64 16 4 = 12)])) (h := by simp -implicitDefEqProofs [q69, f71a, f71b, f71c, f73a, f73b, (by decide : cI .u64 16 = 16)])
   obtain ⟨d74, q75, h⟩ := bindE h
   obtain ⟨e76, ⟨f77a, c77, f77b, f77c⟩, h⟩ := bindIS h
   obtain ⟨u78, ⟨f79a, f79b⟩, h⟩ := bindP h
   try simp only [Int.toNat_natCast, Int.reduceToNat, List.length_cons, List.length_nil, Nat.reduceAdd, Nat.zero_add] at f79a f79b
   refine VW.rA (tm 23 [(0, .i .u32 n), (3, .str (⟨#[48, 49, 50, 51, 52, 53, 54, 55, 56, 57, 97, 98, 99, 100, 101, 102]⟩ : ByteArray)), (4, .ref 0 0 (((([e52] ++ [e58]) ++ [e64]) ++ [e70]) ++ [e76]).length), (5, .i .i64 12)]) [some (1, rows ci_u8 (((([e52] ++ [e58]) ++ [e64]) ++ [e70]) ++ [e76])), some (1, rows ci_u8 [e52]), some (1, rows ci_u8 [e58]), some (1, rows ci_u8 [e64]), some (1, rows ci_u8 [e70]), some (1, rows ci_u8 [e76])] [] hC (VW.rA (tm 23 [(0, .i .u32 n), (3, .str (⟨#[48, 49, 50, 51, 52, 53, 54, 55, 56, 57, 97, 98, 99, 100, 101, 102]⟩ : ByteArray)), (4, .ref 0 0 (((([e52] ++ [e58]) ++ [e64]) ++ [e70]) ++ [e76]).length), (5, .i .i64 8)]) [some (1, rows ci_u8 (((([e52] ++ [e58]) ++ [e64]) ++ [e70]) ++ [e76])), some (1, rows ci_u8 [e52]), some (1, rows ci_u8 [e58]), some (1, rows ci_u8 [e64]), some (1, rows ci_u8 [e70]), some (1, rows ci_u8 [e76])] [] hC (VRounds.step (VW.seq (VW.seq (VW.rA (tm 23 [(0, .i .u32 n), (3, .str (⟨#[48, 49, 50, 51, 52, 53, 54, 55, 56, 57, 97, 98, 99, 100, 101, 102]⟩ : ByteArray)), (4, .ref 0 0 (((([e52] ++ [e58]) ++ [e64]) ++ [e70]) ++ [e76]).length), (5, .i .i64 8), (8, .b true)]) [some (1, rows ci_u8 (((([e52] ++ [e58]) ++ [e64]) ++ [e70]) ++ [e76])), some (1, rows ci_u8 [e52]), some (1, rows ci_u8 [e58]), some (1, rows ci_u8 [e64]), some (1, rows ci_u8 [e70]), some (1, rows ci_u8 [e76])] [] hC (VW.condT (by simp) (VW.skip (VW.seq (VW.block ?_)))) (h := by simp -implicitDefEqProofs [(by decide : leI 0 8 = true)]))))) (h := by simp -implicitDefEqProofs [(by decide : sI .i64 12 4 = 8)])) (h := by simp -implicitDefEqProofs [q75, f77a, f77b, f77c, f79a, f79b, (by decide : cI .u64 12 = 12)])
   obtain ⟨d80, q81, h⟩ := bindE h
   obtain ⟨e82, ⟨f83a, c83, f83b, f83c⟩, h⟩ := bindIS h
   obtain ⟨u84, ⟨f85a, f85b⟩, h⟩ := bindP h
   try simp only [Int.toNat_natCast, Int.reduceToNat, List.length_cons, List.length_nil, Nat.reduceAdd, Nat.zero_add] at f85a f85b
   refine VW.rA (tm 23 [(0, .i .u32 n), (3, .str (⟨#[48, 49, 50, 51, 52, 53, 54, 55, 56, 57, 97, 98, 99, 100, 101, 102]⟩ : ByteArray)), (4, .ref 0 0 ((((([e52] ++ [e58]) ++ [e64]) ++ [e70]) ++ [e76]) ++ [e82]).length), (5, .i .i64 8)]) [some (1, rows ci_u8 ((((([e52] ++ [e58]) ++ [e64]) ++ [e70]) ++ [e76]) ++ [e82])), some (1, rows ci_u8 [e52]), some (1, rows ci_u8 [e58]), some (1, rows ci_u8 [e64]), some (1, rows ci_u8 [e70]), some (1, rows ci_u8 [e76]), some (1, rows ci_u8 [e82])] [] hC (VW.rA (tm 23 [(0, .i .u32 n), (3, .str (⟨#[48, 49, 50, 51, 52, 53, 54, 55, 56, 57, 97, 98, 99, 100, 101, 102]⟩ : ByteArray)), (4, .ref 0 0 ((((([e52] ++ [e58]) ++ [e64]) ++ [e70]) ++ [e76]) ++ [e82]).length), (5, .i .i64 4)]) [some (1, rows ci_u8 ((((([e52] ++ [e58]) ++ [e64]) ++ [e70]) ++ [e76]) ++ [e82])), some (1, rows ci_u8 [e52]), some (1, rows ci_u8 [e58]), some (1, rows ci_u8 [e64]), some (1, rows ci_u8 [e70]), some (1, rows ci_u8 [e76]), some (1, rows ci_u8 [e82])] [] hC (VRounds.step (VW.seq (VW.seq (VW.rA (tm 23 [(0, .i .u32 n), (3, .str (⟨#[48, 49, 50, 51, 52, 53, 54, 55, 56, 57, 97, 98, 99, 100, 101, 102]⟩ : ByteArray)), (4, .ref 0 0 ((((([e52] ++ [e58]) ++ [e64]) ++ [e70]) ++ [e76]) ++ [e82]).length), (5, .i .i64 4), (8, .b true)]) [some (1, rows ci_u8 ((((([e52] ++ [e58]) ++ [e64]) ++ [e70]) ++ [e76]) ++ [e82])), some (1, rows ci_u8 [e52]), some (1, rows ci_u8 [e58]), some (1, rows ci_u8 [e64]), some (1, rows ci_u8 [e70]), some (1, rows ci_u8 [e76]), some (1, rows ci_u8 [e82])] [] hC (VW.condT (by simp) (VW.skip (VW.seq (VW.block ?_)))) (h := by simp -implicitDefEqProofs [(by decide : leI 0 4 = true)]))))) (h := by simp -implicitDefEqProofs [(by decide : sI .i64 8 4 = 4)])) (h := by simp -implicitDefEqProofs [q81, f83a, f83b, f83c, f85a, f85b, (by decide : cI .u64 8 = 8)])
   obtain ⟨d86, q87, h⟩ := bindE h
   obtain ⟨e88, ⟨f89a, c89, f89b, f89c⟩, h⟩ := bindIS h
   obtain ⟨u90, ⟨f91a, f91b⟩, h⟩ := bindP h
   try simp only [Int.toNat_natCast, Int.reduceToNat, List.length_cons, List.length_nil, Nat.reduceAdd, Nat.zero_add] at f91a f91b
   refine VW.rA (tm 23 [(0, .i .u32 n), (3, .str (⟨#[48, 49, 50, 51, 52, 53, 54, 55, 56, 57, 97, 98, 99, 100, 101, 102]⟩ : ByteArray)), (4, .ref 0 0 (((((([e52] ++ [e58]) ++ [e64]) ++ [e70]) ++ [e76]) ++ [e82]) ++ [e88]).length), (5, .i .i64 4)]) [some (1, rows ci_u8 (((((([e52] ++ [e58]) ++ [e64]) ++ [e70]) ++ [e76]) ++ [e82]) ++ [e88])), some (1, rows ci_u8 [e52]), some (1, rows ci_u8 [e58]), some (1, rows ci_u8 [e64]), some (1, rows ci_u8 [e70]), some (1, rows ci_u8 [e76]), some (1, rows ci_u8 [e82]), some (1, rows ci_u8 [e88])] [] hC (VW.rA (tm 23 [(0, .i .u32 n), (3, .str (⟨#[48, 49, 50, 51, 52, 53, 54, 55, 56, 57, 97, 98, 99, 100, 101, 102]⟩ : ByteArray)), (4, .ref 0 0 (((((([e52] ++ [e58]) ++ [e64]) ++ [e70]) ++ [e76]) ++ [e82]) ++ [e88]).length), (5, .i .i64 0)]) [some (1, rows ci_u8 (((((([e52] ++ [e58]) ++ [e64]) ++ [e70]) ++ [e76]) ++ [e82]) ++ [e88])), some (1, rows ci_u8 [e52]), some (1, rows ci_u8 [e58]), some (1, rows ci_u8 [e64]), some (1, rows ci_u8 [e70]), some (1, rows ci_u8 [e76]), some (1, rows ci_u8 [e82]), some (1, rows ci_u8 [e88])] [] hC (VRounds.step (VW.seq (VW.seq (VW.rA (tm 23 [(0, .i .u32 n), (3, .str (⟨#[48, 49, 50, 51, 52, 53, 54, 55, 56, 57, 97, 98, 99, 100, 101, 102]⟩ : ByteArray)), (4, .ref 0 0 (((((([e52] ++ [e58]) ++ [e64]) ++ [e70]) ++ [e76]) ++ [e82]) ++ [e88]).length), (5, .i .i64 0), (8, .b true)]) [some (1, rows ci_u8 (((((([e52] ++ [e58]) ++ [e64]) ++ [e70]) ++ [e76]) ++ [e82]) ++ [e88])), some (1, rows ci_u8 [e52]), some (1, rows ci_u8 [e58]), some (1, rows ci_u8 [e64]), some (1, rows ci_u8 [e70]), some (1, rows ci_u8 [e76]), some (1, rows ci_u8 [e82]), some (1, rows ci_u8 [e88])] [] hC (VW.condT (by simp) (VW.skip (VW.seq (VW.block ?_)))) (h := by simp -implicitDefEqProofs [(by decide : leI 0 0 = true)]))))) (h := by simp -implicitDefEqProofs [(by decide : sI .i64 4 4 = 0)])) (h := by simp -implicitDefEqProofs [q87, f89a, f89b, f89c, f91a, f91b, (by decide : cI .u64 4 = 4)])
   obtain ⟨d92, q93, h⟩ := bindE h
   obtain ⟨e94, ⟨f95a, c95, f95b, f95c⟩, h⟩ := bindIS h
   obtain ⟨u96, ⟨f97a, f97b⟩, h⟩ := bindP h
   try simp only [Int.toNat_natCast, Int.reduceToNat, List.length_cons, List.length_nil, Nat.reduceAdd, Nat.zero_add] at f97a f97b
   exact VW.rA (tm 23 [(0, .i .u32 n), (3, .str (⟨#[48, 49, 50, 51, 52, 53, 54, 55, 56, 57, 97, 98, 99, 100, 101, 102]⟩ : ByteArray)), (4, .ref 0 0 ((((((([e52] ++ [e58]) ++ [e64]) ++ [e70]) ++ [e76]) ++ [e82]) ++ [e88]) ++ [e94]).length), (5, .i .i64 0)]) [some (1, rows ci_u8 ((((((([e52] ++ [e58]) ++ [e64]) ++ [e70]) ++ [e76]) ++ [e82]) ++ [e88]) ++ [e94])), some (1, rows ci_u8 [e52]), some (1, rows ci_u8 [e58]), some (1, rows ci_u8 [e64]), some (1, rows ci_u8 [e70]), some (1, rows ci_u8 [e76]), some (1, rows ci_u8 [e82]), some (1, rows ci_u8 [e88]), some (1, rows ci_u8 [e94])] [] hC (VW.rA (tm 23 [(0, .i .u32 n), (3, .str (⟨#[48, 49, 50, 51, 52, 53, 54, 55, 56, 57, 97, 98, 99, 100, 101, 102]⟩ : ByteArray)), (4, .ref 0 0 ((((((([e52] ++ [e58]) ++ [e64]) ++ [e70]) ++ [e76]) ++ [e82]) ++ [e88]) ++ [e94]).length), (5, .i .i64 (-4))]) [some (1, rows ci_u8 ((((((([e52] ++ [e58]) ++ [e64]) ++ [e70]) ++ [e76]) ++ [e82]) ++ [e88]) ++ [e94])), some (1, rows ci_u8 [e52]), some (1, rows ci_u8 [e58]), some (1, rows ci_u8 [e64]), some (1, rows ci_u8 [e70]), some (1, rows ci_u8 [e76]), some (1, rows ci_u8 [e82]), some (1, rows ci_u8 [e88]), some (1, rows ci_u8 [e94])] [] hC (VRounds.step (VW.seq (VW.seq (VW.rA (tm 23 [(0, .i .u32 n), (3, .str (⟨#[48, 49, 50, 51, 52, 53, 54, 55, 56, 57, 97, 98, 99, 100, 101, 102]⟩ : ByteArray)), (4, .ref 0 0 ((((((([e52] ++ [e58]) ++ [e64]) ++ [e70]) ++ [e76]) ++ [e82]) ++ [e88]) ++ [e94]).length), (5, .i .i64 (-4)), (8, .b false)]) [some (1, rows ci_u8 ((((((([e52] ++ [e58]) ++ [e64]) ++ [e70]) ++ [e76]) ++ [e82]) ++ [e88]) ++ [e94])), some (1, rows ci_u8 [e52]), some (1, rows ci_u8 [e58]), some (1, rows ci_u8 [e64]), some (1, rows ci_u8 [e70]), some (1, rows ci_u8 [e76]), some (1, rows ci_u8 [e82]), some (1, rows ci_u8 [e88]), some (1, rows ci_u8 [e94])] [] hC (VW.condF (by simp) (VW.exit (vnext ((((((([e52] ++ [e58]) ++ [e64]) ++ [e70]) ++ [e76]) ++ [e82]) ++ [e88]) ++ [e94]) h (Ent.tu 1)))) (h := by simp -implicitDefEqProofs [(by decide : leI 0 (-4) = false)]))))) (h := by simp -implicitDefEqProofs [(by decide : sI .i64 0 4 = (-4))])) (h := by simp -implicitDefEqProofs [q93, f95a, f95b, f95c, f97a, f97b, (by decide : cI .u64 0 = 0)])
 rintro l49 h
 replace h : (g33_j1 l49).bind _ = _ := h
 rw [g33_j1] at h
 refine VW.seq (VW.rA (tm 23 [(2, .str (strOfNums l49))]) [some (1, rows ci_u8 l49)] [] hC ?_)
 obtain rfl := leafS h
 exact VW.ret (VRet.fin (by simp [eB33]))
theorem tl33 {n : Int} {r : ByteArray} (h : g33 n = some r) : F33 [.i .u32 n] = some (.str r) := tells_eq inj33 (a := n) h
noncomputable def g15_j1 (out_69 : ByteArray) : Option (ByteArray) :=
some out_69
noncomputable def g15_L1 (journal : List T67) : (ByteArray × Int) → Option ((ByteArray × Int) ⊕ ((ByteArray) ⊕ (ByteArray)))
| (out_114, i_115) =>
if ltI i_115 (journal.length : Int) = true then
(idx journal i_115).bind fun e117 =>
(g32 e117).bind fun r119 =>
if (!r119) = true then
some (.inr (.inr ByteArray.empty))
else
if e117.mark_ = true then
(g33 e117.check_).bind fun r123 =>
(catS (⟨#[109, 97, 114, 107, 32]⟩ : ByteArray) r123).bind fun z125 =>
(catS z125 (⟨#[10]⟩ : ByteArray)).bind fun z127 =>
(catS out_114 z127).bind fun z129 =>
some (.inl (z129, aI .i64 i_115 1))
else
(g20 e117.act_).bind fun r131 =>
(catS r131 (⟨#[10]⟩ : ByteArray)).bind fun z133 =>
(catS out_114 z133).bind fun z135 =>
some (.inl (z135, aI .i64 i_115 1))
else
some (.inr (.inl out_114))
noncomputable def g15 (journal : List T67) : Option (ByteArray) :=
if ltI 150 (journal.length : Int) = true then
some ByteArray.empty
else
(loopO (g15_L1 journal) (ByteArray.empty, 0)).bind fun w => match w with
| .inl y => g15_j1 y
| .inr r => some r
def eA15 (a : List T67) : List V := [.sl 5 (rows cT67 a)]
def eB15 (r : ByteArray) : V := .str r
theorem inj15 (a a' : List T67) (h : eA15 a = eA15 a') : a = a' := by
  obtain i287 := a
  obtain i288 := a'
  simp only [eA15, List.cons.injEq, V.i.injEq, V.b.injEq, V.f.injEq, V.str.injEq, V.sl.injEq, V.agg.injEq, V.cptr.injEq, true_and, and_true] at h
  simp_all [ri cT67_inj]
noncomputable def F15 : List V → Option V := tells (fun a => g15 a) eA15 eB15
/- loop.example/g01229/spec.JournalText -/
theorem ok15 : Tells Tryd.prog 15 F15 := by
 refine Tells.go 42 Tryd.func15 rfl rfl rfl (by kernel_rfl) (fun _ => rfl) ?_
 rintro journal r h
 simp only [eA15, en, Nat.reduceAdd]
 replace h : (g15 journal).bind some = some r := bindS h
 rw [g15] at h
 have hC : CEnv.Ok Tryd.prog [(20, F20), (32, F32c), (33, F33)] := ⟨.inl ok20, .inl ok32, .inl ok33, trivial⟩
 refine VW.seq (VW.rA (tm 42 [(0, .sl 5 (rows cT67 journal))]) [] [] hC (VW.seq (VW.seq (VW.rA (tm 42 [(0, .sl 5 (rows cT67 journal)), (8, .b (ltI 150 (journal.length : Int)))]) [] [] hC (VW.condI h (fun h => ?_) (fun h => ?_))))))
 · refine VW.seq (VW.rA (tm 42 [(2, .str ByteArray.empty)]) [] [] hC ?_)
   obtain rfl := leafS h
   exact VW.ret (VRet.fin (by simp [eB15]))
 refine VW.skip (VW.seq (VW.rA (tm 42 [(0, .sl 5 (rows cT67 journal)), (3, .str ByteArray.empty)]) [] [] hC (VW.join (fun (v : ByteArray) => (⟨(tm 42 [(3, .str v)]), [], []⟩ : VS)) (fun v => (g15_j1 (v)).bind some = some r) ?_ ?_)))
 · refine VW.seq (VW.rA (tm 42 [(0, .sl 5 (rows cT67 journal)), (3, .str ByteArray.empty), (4, .i .i64 0)]) [] [] hC (VW.block ?_))
   obtain ⟨w_1, hw_1, h⟩ := bindE h
   refine VW.loopO (fun (x : ByteArray × Int) => (⟨(tm 42 [(0, .sl 5 (rows cT67 journal)), (3, .str x.1), (4, .i .i64 x.2)]), [], []⟩ : VS)) hw_1 (Ent.tu 0) ?_
   rintro n_1 ⟨out_114, i_115⟩ h1
   rw [g15_L1] at h1
   refine VW.seq (VW.seq (VW.rA (tm 42 [(0, .sl 5 (rows cT67 journal)), (3, .str out_114), (4, .i .i64 i_115), (12, .b (ltI i_115 (journal.length : Int)))]) [] [] hC (VW.condJ h1 (fun h1 => ?_) (fun h1 => ?_))))
   · refine VW.exit ?_
     have e_ := leafR h1
     subst w_1
     exact vnext out_114 h (Ent.tu 0)
   refine VW.skip (VW.seq (VW.block (VW.seq ?_)))
   obtain ⟨e117, ⟨f118a, f118b, f118c, f118d⟩, h1⟩ := bindI h1
   refine VW.rA (tm 42 [(0, .sl 5 (rows cT67 journal)), (3, .str out_114), (4, .i .i64 i_115), (5, .cptr [.b e117.mark_, .i .u32 e117.check_, .i .i64 e117.act_.kind_, .i .i64 e117.act_.a_, .i .i64 e117.act_.b_] 0)]) [] [] hC (VW.seq (VW.seq ?_)) (h := by simp -implicitDefEqProofs [f118a, f118b, f118c, f118d])
   obtain ⟨r119, q120, h1⟩ := bindE h1
   have c120 := tl32 q120
   refine VW.rA (tm 42 [(0, .sl 5 (rows cT67 journal)), (3, .str out_114), (4, .i .i64 i_115), (5, .cptr [.b e117.mark_, .i .u32 e117.check_, .i .i64 e117.act_.kind_, .i .i64 e117.act_.a_, .i .i64 e117.act_.b_] 0), (20, .b (!r119))]) [] [] hC (VW.condI h1 (fun h1 => ?_) (fun h1 => ?_)) (h := by simp -implicitDefEqProofs [c120])
   · refine VW.seq (VW.rA (tm 42 [(2, .str ByteArray.empty)]) [] [] hC ?_)
     have e_ := leafR h1
     subst w_1
     obtain rfl := leafS h
     exact VW.ret (VRet.fin (by simp [eB15]))
   refine VW.skip (VW.seq (VW.rA (tm 42 [(0, .sl 5 (rows cT67 journal)), (3, .str out_114), (4, .i .i64 i_115), (5, .cptr [.b e117.mark_, .i .u32 e117.check_, .i .i64 e117.act_.kind_, .i .i64 e117.act_.a_, .i .i64 e117.act_.b_] 0), (24, .b e117.mark_)]) [] [] hC (VW.condJ h1 (fun h1 => ?_) (fun h1 => ?_))))
   · obtain ⟨r131, q132, h1⟩ := bindE h1
     have c132 := tl20 q132
     obtain ⟨z133, q134, h1⟩ := bindE h1
     obtain ⟨z135, q136, h1⟩ := bindE h1
     exact VW.rA (tm 42 [(0, .sl 5 (rows cT67 journal)), (3, .str z135), (4, .i .i64 i_115)]) [] [] hC (VW.rA (tm 42 [(0, .sl 5 (rows cT67 journal)), (3, .str z135), (4, .i .i64 (aI .i64 i_115 1))]) [] [] hC (vnext (z135, aI .i64 i_115 1) (leafL h1) (Ent.tu 0))) (h := by simp -implicitDefEqProofs [c132, q134, q136])
   obtain ⟨r123, q124, h1⟩ := bindE h1
   have c124 := tl33 q124
   obtain ⟨z125, q126, h1⟩ := bindE h1
   obtain ⟨z127, q128, h1⟩ := bindE h1
   obtain ⟨z129, q130, h1⟩ := bindE h1
   exact VW.rA (tm 42 [(0, .sl 5 (rows cT67 journal)), (3, .str z129), (4, .i .i64 i_115)]) [] [] hC (VW.rA (tm 42 [(0, .sl 5 (rows cT67 journal)), (3, .str z129), (4, .i .i64 (aI .i64 i_115 1))]) [] [] hC (vnext (z129, aI .i64 i_115 1) (leafL h1) (Ent.tu 0))) (h := by simp -implicitDefEqProofs [c124, q126, q128, q130])
 rintro out_69 h
 replace h : (g15_j1 out_69).bind _ = _ := h
 rw [g15_j1] at h
 refine VW.seq (VW.rA (tm 42 [(2, .str out_69)]) [] [] hC ?_)
 obtain rfl := leafS h
 exact VW.ret (VRet.fin (by simp [eB15]))
theorem tl15 {journal : List T67} {r : ByteArray} (h : g15 journal = some r) : F15 [.sl 5 (rows cT67 journal)] = some (.str r) := tells_eq inj15 (a := journal) h
noncomputable def g34 (a : T67) : Option (T67) :=
(g7 a.act_).bind fun r1 =>
some (⟨a.mark_, a.check_, r1⟩ : T67)
def eA34 (a : T67) : List V := [.agg (pT67 a)]
def eB34 (r : T67) : V := .agg [.b r.mark_, .i .u32 r.check_, .i .i64 r.act_.kind_, .i .i64 r.act_.a_, .i .i64 r.act_.b_]
theorem inj34 (a a' : T67) (h : eA34 a = eA34 a') : a = a' := by
  obtain ⟨i289, i290, ⟨i291, i292, i293⟩⟩ := a
  obtain ⟨i294, i295, ⟨i296, i297, i298⟩⟩ := a'
  simp only [eA34, pT67, List.cons.injEq, V.i.injEq, V.b.injEq, V.f.injEq, V.str.injEq, V.sl.injEq, V.agg.injEq, V.cptr.injEq, true_and, and_true] at h
  simp_all
noncomputable def F34 : List V → Option V := tells (fun a => g34 a) eA34 eB34
/- loop.example/g01229/laws.toEntry -/
theorem ok34 : Tells Tryd.prog 34 F34 := by
 refine Tells.go 15 Tryd.func34 rfl rfl rfl (by kernel_rfl) (fun _ => rfl) ?_
 rintro a r h
 simp only [eA34, en, Nat.reduceAdd]
 replace h : (g34 a).bind some = some r := bindS h
 rw [g34] at h
 have hC : CEnv.Ok Tryd.prog [(7, F7)] := ⟨.inl ok7, trivial⟩
 refine VW.seq (VW.rA (tm 15 [(1, .ptr 0 0 0), (2, .ptr 1 0 0)]) [some (5, [(pT67 a)]), some (5, [[.b false, .i .u32 0, .i .i64 0, .i .i64 0, .i .i64 0]])] [] hC (VW.seq (VW.rA (tm 15 [(1, .ptr 0 0 0), (2, .ptr 1 0 0), (3, .ptr 2 0 0)]) [some (5, [(pT67 a)]), some (5, [[.b false, .i .u32 0, .i .i64 0, .i .i64 0, .i .i64 0]]), some (5, [[.b false, .i .u32 0, .i .i64 0, .i .i64 0, .i .i64 0]])] [] hC (VW.seq (VW.rA (tm 15 [(1, .ptr 0 0 0), (2, .ptr 1 0 0), (3, .ptr 2 0 0)]) [some (5, [(pT67 a)]), some (5, [[.b false, .i .u32 0, .i .i64 0, .i .i64 0, .i .i64 0]]), some (5, [[.b a.mark_, .i .u32 0, .i .i64 0, .i .i64 0, .i .i64 0]])] [] hC (VW.seq (VW.rA (tm 15 [(1, .ptr 0 0 0), (2, .ptr 1 0 0), (3, .ptr 2 0 0)]) [some (5, [(pT67 a)]), some (5, [[.b false, .i .u32 0, .i .i64 0, .i .i64 0, .i .i64 0]]), some (5, [[.b a.mark_, .i .u32 a.check_, .i .i64 0, .i .i64 0, .i .i64 0]])] [] hC (VW.seq ?_))))))))
 obtain ⟨r1, q2, h⟩ := bindE h
 have c2 := tl7 q2
 refine VW.rA (tm 15 [(2, .ptr 1 0 0), (3, .ptr 2 0 0)]) [some (5, [(pT67 a)]), some (5, [[.b false, .i .u32 0, .i .i64 0, .i .i64 0, .i .i64 0]]), some (5, [[.b a.mark_, .i .u32 a.check_, .i .i64 r1.kind_, .i .i64 r1.a_, .i .i64 r1.b_]])] [] hC (VW.seq (VW.rA (tm 15 [(2, .ptr 1 0 0)]) [some (5, [(pT67 a)]), some (5, [[.b a.mark_, .i .u32 a.check_, .i .i64 r1.kind_, .i .i64 r1.a_, .i .i64 r1.b_]]), some (5, [[.b a.mark_, .i .u32 a.check_, .i .i64 r1.kind_, .i .i64 r1.a_, .i .i64 r1.b_]])] [] hC ?_)) (h := by simp -implicitDefEqProofs [c2])
 obtain rfl := leafS h
 exact VW.ret (VRet.fin (by simp [eB34]))
theorem tl34 {a : T67} {r : T67} (h : g34 a = some r) : F34 [.agg [.b a.mark_, .i .u32 a.check_, .i .i64 a.act_.kind_, .i .i64 a.act_.a_, .i .i64 a.act_.b_]] = some (.agg [.b r.mark_, .i .u32 r.check_, .i .i64 r.act_.kind_, .i .i64 r.act_.a_, .i .i64 r.act_.b_]) := tells_eq inj34 (a := a) h
noncomputable def g16_j1 (l28 : List T67) : Option (List T67) :=
some l28
noncomputable def g16_L1 (a : List T67) : (Int × (List T67)) → Option ((Int × (List T67)) ⊕ (List T67))
| (i_45, l46) =>
if ltI i_45 (a.length : Int) = true then
(idx a i_45).bind fun e48 =>
(g34 e48).bind fun r50 =>
(idx l46 i_45).bind fun e52 =>
some (.inl (aI .i64 i_45 1, (l46.set i_45.toNat r50)))
else
some (.inr l46)
noncomputable def g16 (a : List T67) : Option (List T67) :=
(mk 32 (a.length : Int)).bind fun u1 =>
(loopO (g16_L1 a) (0, (List.replicate (a.length : Int).toNat (⟨false, 0, (⟨0, 0, 0⟩ : T25)⟩ : T67)))).bind fun w => g16_j1 w
def eA16 (a : List T67) : List V := [.sl 5 (rows cT67 a)]
def eB16 (r : List T67) : V := .own 5 (rows cT67 r)
theorem inj16 (a a' : List T67) (h : eA16 a = eA16 a') : a = a' := by
  obtain i299 := a
  obtain i300 := a'
  simp only [eA16, List.cons.injEq, V.i.injEq, V.b.injEq, V.f.injEq, V.str.injEq, V.sl.injEq, V.agg.injEq, V.cptr.injEq, true_and, and_true] at h
  simp_all [ri cT67_inj]
noncomputable def F16 : List V → Option V := tells (fun a => g16 a) eA16 eB16
/- loop.example/g01229/laws.toEntryS -/
theorem ok16 : Tells Tryd.prog 16 F16 := by
 refine Tells.go 23 Tryd.func16 rfl rfl rfl (by kernel_rfl) (fun _ => rfl) ?_
 rintro a r h
 simp only [eA16, en, Nat.reduceAdd]
 replace h : (g16 a).bind some = some r := bindS h
 rw [g16] at h
 have hC : CEnv.Ok Tryd.prog [(34, F34)] := ⟨.inl ok34, trivial⟩
 refine VW.seq (VW.rA (tm 23 [(0, .sl 5 (rows cT67 a))]) [] [] hC (VW.seq ?_))
 obtain ⟨u1, ⟨f2a, f2b, f2c⟩, h⟩ := bindM h
 try simp only [Int.toNat_natCast, Int.reduceToNat, List.length_cons, List.length_nil, Nat.reduceAdd, Nat.zero_add] at f2a f2b f2c
 refine VW.rA (tm 23 [(0, .sl 5 (rows cT67 a)), (3, .ref 0 0 (List.replicate (a.length : Int).toNat (⟨false, 0, (⟨0, 0, 0⟩ : T25)⟩ : T67)).length)]) [some (5, rows cT67 (List.replicate (a.length : Int).toNat (⟨false, 0, (⟨0, 0, 0⟩ : T25)⟩ : T67)))] [] hC (VW.join (fun (v : List T67) => (⟨(tm 23 [(3, .ref 0 0 v.length)]), [some (5, rows cT67 v)], []⟩ : VS)) (fun v => (g16_j1 (v)).bind some = some r) ?_ ?_) (h := by simp -implicitDefEqProofs [f2a, f2b, f2c])
 · refine VW.seq (VW.rA (tm 23 [(0, .sl 5 (rows cT67 a)), (3, .ref 0 0 (List.replicate (a.length : Int).toNat (⟨false, 0, (⟨0, 0, 0⟩ : T25)⟩ : T67)).length), (4, .i .i64 0)]) [some (5, rows cT67 (List.replicate (a.length : Int).toNat (⟨false, 0, (⟨0, 0, 0⟩ : T25)⟩ : T67)))] [] hC (VW.block ?_))
   obtain ⟨w_1, hw_1, h⟩ := bindE h
   refine VW.loopO (fun (x : Int × (List T67)) => (⟨(tm 23 [(0, .sl 5 (rows cT67 a)), (3, .ref 0 0 x.2.length), (4, .i .i64 x.1)]), [some (5, rows cT67 x.2)], []⟩ : VS)) hw_1 (Ent.tu 1) ?_
   rintro n_1 ⟨i_45, l46⟩ h1
   rw [g16_L1] at h1
   refine VW.seq (VW.seq (VW.rA (tm 23 [(0, .sl 5 (rows cT67 a)), (3, .ref 0 0 l46.length), (4, .i .i64 i_45), (11, .b (ltI i_45 (a.length : Int)))]) [some (5, rows cT67 l46)] [] hC (VW.condJ h1 (fun h1 => ?_) (fun h1 => ?_))))
   · refine VW.exit ?_
     have e_ := leafR h1
     subst w_1
     exact vnext l46 h (Ent.tu 1)
   refine VW.skip (VW.seq (VW.block ?_))
   obtain ⟨e48, ⟨f49a, f49b, f49c, f49d⟩, h1⟩ := bindI h1
   obtain ⟨r50, q51, h1⟩ := bindE h1
   have c51 := tl34 q51
   obtain ⟨e52, ⟨f53a, f53b, f53c, f53d⟩, h1⟩ := bindI h1
   exact VW.rA (tm 23 [(0, .sl 5 (rows cT67 a)), (3, .ref 0 0 (l46.set i_45.toNat r50).length), (4, .i .i64 i_45)]) [some (5, rows cT67 (l46.set i_45.toNat r50))] [] hC (VW.rA (tm 23 [(0, .sl 5 (rows cT67 a)), (3, .ref 0 0 (l46.set i_45.toNat r50).length), (4, .i .i64 (aI .i64 i_45 1))]) [some (5, rows cT67 (l46.set i_45.toNat r50))] [] hC (vnext (aI .i64 i_45 1, (l46.set i_45.toNat r50)) (leafL h1) (Ent.tu 1))) (h := by simp -implicitDefEqProofs [f49a, f49b, f49c, f49d, c51, f53a, f53b, f53c, f53d])
 rintro l28 h
 replace h : (g16_j1 l28).bind _ = _ := h
 rw [g16_j1] at h
 refine VW.seq (VW.rA (tm 23 [(2, .ref 0 0 l28.length)]) [some (5, rows cT67 l28)] [] hC ?_)
 obtain rfl := leafS h
 exact VW.ret (VRet.fin (by simp [eB16]))
theorem tl16 {a : List T67} {r : List T67} (h : g16 a = some r) : F16 [.sl 5 (rows cT67 a)] = some (.own 5 (rows cT67 r)) := tells_eq inj16 (a := a) h
noncomputable def g35 (e : T67) : Option (Bool) :=
if e.mark_ = true then
some (eqI e.act_.kind_ 0 && (eqI e.act_.a_ 0 && eqI e.act_.b_ 0))
else
(if eqI e.check_ 0 = true then (g21 e.act_).bind fun r2 => some r2 else some false).bind fun w4 =>
some w4
def eA35 (a : T67) : List V := [.agg (pT67 a)]
def eB35 (r : Bool) : V := .b r
theorem inj35 (a a' : T67) (h : eA35 a = eA35 a') : a = a' := by
  obtain ⟨i301, i302, ⟨i303, i304, i305⟩⟩ := a
  obtain ⟨i306, i307, ⟨i308, i309, i310⟩⟩ := a'
  simp only [eA35, pT67, List.cons.injEq, V.i.injEq, V.b.injEq, V.f.injEq, V.str.injEq, V.sl.injEq, V.agg.injEq, V.cptr.injEq, true_and, and_true] at h
  simp_all
noncomputable def F35 : List V → Option V := tells (fun a => g35 a) eA35 eB35
/- loop.example/g01229/impl.isEntry -/
theorem ok35 : Tells Tryd.prog 35 F35 := by
 refine Tells.go 17 Tryd.func35 rfl rfl rfl (by kernel_rfl) (fun _ => rfl) ?_
 rintro e r h
 simp only [eA35, en, Nat.reduceAdd]
 replace h : (g35 e).bind some = some r := bindS h
 rw [g35] at h
 have hC : CEnv.Ok Tryd.prog [(21, F21)] := ⟨.inl ok21, trivial⟩
 refine VW.seq (VW.rA (tm 17 [(1, .ptr 0 0 0)]) [some (5, [(pT67 e)])] [] hC (VW.seq (VW.seq (VW.rA (tm 17 [(1, .ptr 0 0 0), (4, .b e.mark_)]) [some (5, [(pT67 e)])] [] hC (VW.condI h (fun h => ?_) (fun h => ?_))))))
 · refine VW.seq (VW.rA (tm 17 [(2, .b (eqI e.act_.kind_ 0 && (eqI e.act_.a_ 0 && eqI e.act_.b_ 0)))]) [some (5, [(pT67 e)])] [] hC ?_)
   obtain rfl := leafS h
   exact VW.ret (VRet.fin (by simp [eB35]))
 refine VW.skip (VW.seq ?_)
 obtain ⟨w4, q5, h⟩ := bindE h
 refine VW.evalA (tm 17 [(2, .b w4)]) [some (5, [(pT67 e)])] [] hC (by kernel_rfl) (by
     obtain ⟨q6, q5⟩ | ⟨q6, rfl⟩ := gdT q5
     · obtain ⟨r2, q3, q5⟩ := bindQ q5
       have c3 := tl21 q3
       obtain rfl := Option.some.inj q5
       simp -implicitDefEqProofs [q6, c3]
     simp -implicitDefEqProofs [q6]) ?_
 obtain rfl := leafS h
 exact VW.ret (VRet.fin (by simp [eB35]))
theorem tl35 {e : T67} {r : Bool} (h : g35 e = some r) : F35 [.agg [.b e.mark_, .i .u32 e.check_, .i .i64 e.act_.kind_, .i .i64 e.act_.a_, .i .i64 e.act_.b_]] = some (.b r) := tells_eq inj35 (a := e) h
noncomputable def g36_j1 (l26 : List Int) : Option (ByteArray) :=
some (strOfNums l26)
noncomputable def g36_L1 (n : Int) : (Int × (List Int)) → Option ((Int × (List Int)) ⊕ (List Int))
| (x_43, l44) =>
if ltI x_43 ((List.replicate 8 0).length : Int) = true then
(shrI .u32 n (sI .i64 28 (mI .i64 4 x_43))).bind fun d46 =>
(idxS (⟨#[48, 49, 50, 51, 52, 53, 54, 55, 56, 57, 97, 98, 99, 100, 101, 102]⟩ : ByteArray) (andI .u32 d46 15)).bind fun e48 =>
(idx l44 x_43).bind fun e50 =>
some (.inl (aI .i64 x_43 1, (l44.set x_43.toNat e48)))
else
some (.inr l44)
noncomputable def g36 (n : Int) : Option (ByteArray) :=
(loopO (g36_L1 n) (0, (List.replicate 8 0))).bind fun w => g36_j1 w
def eA36 (a : Int) : List V := [.i .u32 a]
def eB36 (r : ByteArray) : V := .str r
theorem inj36 (a a' : Int) (h : eA36 a = eA36 a') : a = a' := by
  obtain i311 := a
  obtain i312 := a'
  simp only [eA36, List.cons.injEq, V.i.injEq, V.b.injEq, V.f.injEq, V.str.injEq, V.sl.injEq, V.agg.injEq, V.cptr.injEq, true_and, and_true] at h
  simp_all
noncomputable def F36 : List V → Option V := tells (fun a => g36 a) eA36 eB36
/- loop.example/g01229/impl.hex -/
theorem ok36 : Tells Tryd.prog 36 F36 := by
 refine Tells.go 24 Tryd.func36 rfl rfl rfl (by kernel_rfl) (fun _ => rfl) ?_
 rintro n r h
 simp only [eA36, en, Nat.reduceAdd]
 replace h : (g36 n).bind some = some r := bindS h
 rw [g36] at h
 have hC : CEnv.Ok Tryd.prog [] := trivial
 refine VW.seq (VW.rA (tm 24 [(0, .i .u32 n)]) [] [] hC (VW.seq (VW.rA (tm 24 [(0, .i .u32 n), (3, .ref 0 0 (List.replicate 8 0).length)]) [some (1, rows ci_u8 (List.replicate 8 0))] [] hC (VW.join (fun (v : List Int) => (⟨(tm 24 [(3, .ref 0 0 v.length)]), [some (1, rows ci_u8 v)], []⟩ : VS)) (fun v => (g36_j1 (v)).bind some = some r) ?_ ?_))))
 · refine VW.seq (VW.rA (tm 24 [(0, .i .u32 n), (3, .ref 0 0 (List.replicate 8 0).length), (7, .i .i64 ((List.replicate 8 0).length : Int)), (8, .i .i64 0)]) [some (1, rows ci_u8 (List.replicate 8 0))] [] hC (VW.block ?_))
   obtain ⟨w_1, hw_1, h⟩ := bindE h
   refine VW.loopO (fun (x : Int × (List Int)) => (⟨(tm 24 [(0, .i .u32 n), (3, .ref 0 0 x.2.length), (7, .i .i64 ((List.replicate 8 0).length : Int)), (8, .i .i64 x.1)]), [some (1, rows ci_u8 x.2)], []⟩ : VS)) hw_1 (Ent.tu 1) ?_
   rintro n_1 ⟨x_43, l44⟩ h1
   rw [g36_L1] at h1
   refine VW.seq (VW.rA (tm 24 [(0, .i .u32 n), (3, .ref 0 0 l44.length), (7, .i .i64 ((List.replicate 8 0).length : Int)), (8, .i .i64 x_43), (9, .b (ltI x_43 ((List.replicate 8 0).length : Int)))]) [some (1, rows ci_u8 l44)] [] hC (VW.seq (VW.condJ h1 (fun h1 => ?_) (fun h1 => ?_))))
   · refine VW.exit ?_
     have e_ := leafR h1
     subst w_1
     exact vnext l44 h (Ent.tu 1)
   refine VW.skip (VW.seq (VW.block (VW.seq (VW.rA (tm 24 [(0, .i .u32 n), (3, .ref 0 0 l44.length), (4, .i .i64 x_43), (7, .i .i64 ((List.replicate 8 0).length : Int)), (8, .i .i64 x_43)]) [some (1, rows ci_u8 l44)] [] hC ?_))))
   obtain ⟨d46, q47, h1⟩ := bindE h1
   obtain ⟨e48, ⟨f49a, c49, f49b, f49c⟩, h1⟩ := bindIS h1
   obtain ⟨e50, ⟨f51a, f51b, f51c, f51d⟩, h1⟩ := bindI h1
   exact VW.rA (tm 24 [(0, .i .u32 n), (3, .ref 0 0 (l44.set x_43.toNat e48).length), (7, .i .i64 ((List.replicate 8 0).length : Int)), (8, .i .i64 x_43)]) [some (1, rows ci_u8 (l44.set x_43.toNat e48))] [] hC (VW.rA (tm 24 [(0, .i .u32 n), (3, .ref 0 0 (l44.set x_43.toNat e48).length), (7, .i .i64 ((List.replicate 8 0).length : Int)), (8, .i .i64 (aI .i64 x_43 1))]) [some (1, rows ci_u8 (l44.set x_43.toNat e48))] [] hC (vnext (aI .i64 x_43 1, (l44.set x_43.toNat e48)) (leafL h1) (Ent.tu 1))) (h := by simp -implicitDefEqProofs [q47, f49a, f49b, f49c, f51a, f51b, f51c, f51d])
 rintro l26 h
 replace h : (g36_j1 l26).bind _ = _ := h
 rw [g36_j1] at h
 refine VW.seq (VW.rA (tm 24 [(2, .str (strOfNums l26))]) [some (1, rows ci_u8 l26)] [] hC ?_)
 obtain rfl := leafS h
 exact VW.ret (VRet.fin (by simp [eB36]))
theorem tl36 {n : Int} {r : ByteArray} (h : g36 n = some r) : F36 [.i .u32 n] = some (.str r) := tells_eq inj36 (a := n) h
noncomputable def g17_j1 (out_69 : ByteArray) : Option (ByteArray) :=
some out_69
noncomputable def g17_L1 (journal : List T67) : (ByteArray × Int) → Option ((ByteArray × Int) ⊕ ((ByteArray) ⊕ (ByteArray)))
| (out_114, x_115) =>
if ltI x_115 (journal.length : Int) = true then
(idx journal x_115).bind fun e117 =>
(g35 e117).bind fun r119 =>
if (!r119) = true then
some (.inr (.inr ByteArray.empty))
else
if e117.mark_ = true then
(g36 e117.check_).bind fun r123 =>
(catS (⟨#[109, 97, 114, 107, 32]⟩ : ByteArray) r123).bind fun z125 =>
(catS z125 (⟨#[10]⟩ : ByteArray)).bind fun z127 =>
(catS out_114 z127).bind fun z129 =>
some (.inl (z129, aI .i64 x_115 1))
else
(g8 e117.act_).bind fun r131 =>
(catS r131 (⟨#[10]⟩ : ByteArray)).bind fun z133 =>
(catS out_114 z133).bind fun z135 =>
some (.inl (z135, aI .i64 x_115 1))
else
some (.inr (.inl out_114))
noncomputable def g17 (journal : List T67) : Option (ByteArray) :=
if ltI 150 (journal.length : Int) = true then
some ByteArray.empty
else
(loopO (g17_L1 journal) (ByteArray.empty, 0)).bind fun w => match w with
| .inl y => g17_j1 y
| .inr r => some r
def eA17 (a : List T67) : List V := [.sl 5 (rows cT67 a)]
def eB17 (r : ByteArray) : V := .str r
theorem inj17 (a a' : List T67) (h : eA17 a = eA17 a') : a = a' := by
  obtain i313 := a
  obtain i314 := a'
  simp only [eA17, List.cons.injEq, V.i.injEq, V.b.injEq, V.f.injEq, V.str.injEq, V.sl.injEq, V.agg.injEq, V.cptr.injEq, true_and, and_true] at h
  simp_all [ri cT67_inj]
noncomputable def F17 : List V → Option V := tells (fun a => g17 a) eA17 eB17
/- loop.example/g01229/impl.JournalText -/
theorem ok17 : Tells Tryd.prog 17 F17 := by
 refine Tells.go 37 Tryd.func17 rfl rfl rfl (by kernel_rfl) (fun _ => rfl) ?_
 rintro journal r h
 simp only [eA17, en, Nat.reduceAdd]
 replace h : (g17 journal).bind some = some r := bindS h
 rw [g17] at h
 have hC : CEnv.Ok Tryd.prog [(8, F8), (35, F35), (36, F36)] := ⟨.inl ok8, .inl ok35, .inl ok36, trivial⟩
 refine VW.seq (VW.rA (tm 37 [(0, .sl 5 (rows cT67 journal))]) [] [] hC (VW.seq (VW.seq (VW.rA (tm 37 [(0, .sl 5 (rows cT67 journal)), (8, .b (ltI 150 (journal.length : Int)))]) [] [] hC (VW.condI h (fun h => ?_) (fun h => ?_))))))
 · refine VW.seq (VW.rA (tm 37 [(2, .str ByteArray.empty)]) [] [] hC ?_)
   obtain rfl := leafS h
   exact VW.ret (VRet.fin (by simp [eB17]))
 refine VW.skip (VW.seq (VW.rA (tm 37 [(0, .sl 5 (rows cT67 journal)), (3, .str ByteArray.empty)]) [] [] hC (VW.join (fun (v : ByteArray) => (⟨(tm 37 [(3, .str v)]), [], []⟩ : VS)) (fun v => (g17_j1 (v)).bind some = some r) ?_ ?_)))
 · refine VW.seq (VW.rA (tm 37 [(3, .str ByteArray.empty), (9, .sl 5 (rows cT67 journal)), (10, .i .i64 (journal.length : Int)), (11, .i .i64 0)]) [] [] hC (VW.block ?_))
   obtain ⟨w_1, hw_1, h⟩ := bindE h
   refine VW.loopO (fun (x : ByteArray × Int) => (⟨(tm 37 [(3, .str x.1), (9, .sl 5 (rows cT67 journal)), (10, .i .i64 (journal.length : Int)), (11, .i .i64 x.2)]), [], []⟩ : VS)) hw_1 (Ent.tu 0) ?_
   rintro n_1 ⟨out_114, x_115⟩ h1
   rw [g17_L1] at h1
   refine VW.seq (VW.rA (tm 37 [(3, .str out_114), (9, .sl 5 (rows cT67 journal)), (10, .i .i64 (journal.length : Int)), (11, .i .i64 x_115), (12, .b (ltI x_115 (journal.length : Int)))]) [] [] hC (VW.seq (VW.condJ h1 (fun h1 => ?_) (fun h1 => ?_))))
   · refine VW.exit ?_
     have e_ := leafR h1
     subst w_1
     exact vnext out_114 h (Ent.tu 0)
   refine VW.skip (VW.seq (VW.block (VW.seq ?_)))
   obtain ⟨e117, ⟨f118a, f118b, f118c, f118d⟩, h1⟩ := bindI h1
   refine VW.rA (tm 37 [(3, .str out_114), (5, .ptr 0 0 0), (9, .sl 5 (rows cT67 journal)), (10, .i .i64 (journal.length : Int)), (11, .i .i64 x_115)]) [some (5, [[.b e117.mark_, .i .u32 e117.check_, .i .i64 e117.act_.kind_, .i .i64 e117.act_.a_, .i .i64 e117.act_.b_]])] [] hC (VW.block (VW.seq ?_)) (h := by simp -implicitDefEqProofs [f118a, f118b, f118c, f118d])
   obtain ⟨r119, q120, h1⟩ := bindE h1
   have c120 := tl35 q120
   refine VW.rA (tm 37 [(3, .str out_114), (5, .ptr 0 0 0), (9, .sl 5 (rows cT67 journal)), (10, .i .i64 (journal.length : Int)), (11, .i .i64 x_115), (21, .b (!r119))]) [some (5, [[.b e117.mark_, .i .u32 e117.check_, .i .i64 e117.act_.kind_, .i .i64 e117.act_.a_, .i .i64 e117.act_.b_]])] [] hC (VW.condI h1 (fun h1 => ?_) (fun h1 => ?_)) (h := by simp -implicitDefEqProofs [c120])
   · refine VW.seq (VW.rA (tm 37 [(2, .str ByteArray.empty)]) [some (5, [[.b e117.mark_, .i .u32 e117.check_, .i .i64 e117.act_.kind_, .i .i64 e117.act_.a_, .i .i64 e117.act_.b_]])] [] hC ?_)
     have e_ := leafR h1
     subst w_1
     obtain rfl := leafS h
     exact VW.ret (VRet.fin (by simp [eB17]))
   refine VW.seq (VW.rA (tm 37 [(3, .str out_114), (5, .ptr 0 0 0), (9, .sl 5 (rows cT67 journal)), (10, .i .i64 (journal.length : Int)), (11, .i .i64 x_115), (25, .b e117.mark_)]) [some (5, [[.b e117.mark_, .i .u32 e117.check_, .i .i64 e117.act_.kind_, .i .i64 e117.act_.a_, .i .i64 e117.act_.b_]])] [] hC (VW.condJ h1 (fun h1 => ?_) (fun h1 => ?_)))
   · obtain ⟨r131, q132, h1⟩ := bindE h1
     have c132 := tl8 q132
     obtain ⟨z133, q134, h1⟩ := bindE h1
     obtain ⟨z135, q136, h1⟩ := bindE h1
     exact VW.rA (tm 37 [(3, .str z135), (9, .sl 5 (rows cT67 journal)), (10, .i .i64 (journal.length : Int)), (11, .i .i64 x_115)]) [some (5, [[.b e117.mark_, .i .u32 e117.check_, .i .i64 e117.act_.kind_, .i .i64 e117.act_.a_, .i .i64 e117.act_.b_]])] [] hC (VW.rA (tm 37 [(3, .str z135), (9, .sl 5 (rows cT67 journal)), (10, .i .i64 (journal.length : Int)), (11, .i .i64 (aI .i64 x_115 1))]) [some (5, [[.b e117.mark_, .i .u32 e117.check_, .i .i64 e117.act_.kind_, .i .i64 e117.act_.a_, .i .i64 e117.act_.b_]])] [] hC (vnext (z135, aI .i64 x_115 1) (leafL h1) (Ent.tu 0))) (h := by simp -implicitDefEqProofs [c132, q134, q136])
   obtain ⟨r123, q124, h1⟩ := bindE h1
   have c124 := tl36 q124
   obtain ⟨z125, q126, h1⟩ := bindE h1
   obtain ⟨z127, q128, h1⟩ := bindE h1
   obtain ⟨z129, q130, h1⟩ := bindE h1
   exact VW.rA (tm 37 [(3, .str z129), (9, .sl 5 (rows cT67 journal)), (10, .i .i64 (journal.length : Int)), (11, .i .i64 x_115)]) [some (5, [[.b e117.mark_, .i .u32 e117.check_, .i .i64 e117.act_.kind_, .i .i64 e117.act_.a_, .i .i64 e117.act_.b_]])] [] hC (VW.rA (tm 37 [(3, .str z129), (9, .sl 5 (rows cT67 journal)), (10, .i .i64 (journal.length : Int)), (11, .i .i64 (aI .i64 x_115 1))]) [some (5, [[.b e117.mark_, .i .u32 e117.check_, .i .i64 e117.act_.kind_, .i .i64 e117.act_.a_, .i .i64 e117.act_.b_]])] [] hC (vnext (z129, aI .i64 x_115 1) (leafL h1) (Ent.tu 0))) (h := by simp -implicitDefEqProofs [c124, q126, q128, q130])
 rintro out_69 h
 replace h : (g17_j1 out_69).bind _ = _ := h
 rw [g17_j1] at h
 refine VW.seq (VW.rA (tm 37 [(2, .str out_69)]) [] [] hC ?_)
 obtain rfl := leafS h
 exact VW.ret (VRet.fin (by simp [eB17]))
theorem tl17 {journal : List T67} {r : ByteArray} (h : g17 journal = some r) : F17 [.sl 5 (rows cT67 journal)] = some (.str r) := tells_eq inj17 (a := journal) h
noncomputable def g45 (a : T25) (b : T25) : Option (Bool) :=
if (!eqI a.kind_ b.kind_) = true then
some false
else
if (!eqI a.a_ b.a_) = true then
some false
else
if (!eqI a.b_ b.b_) = true then
some false
else
some true
def eA45 (a : T25 × T25) : List V := [.agg (pT25 a.1), .agg (pT25 a.2)]
def eB45 (r : Bool) : V := .b r
theorem inj45 (a a' : T25 × T25) (h : eA45 a = eA45 a') : a = a' := by
  obtain ⟨⟨i315, i316, i317⟩, ⟨i318, i319, i320⟩⟩ := a
  obtain ⟨⟨i321, i322, i323⟩, ⟨i324, i325, i326⟩⟩ := a'
  simp only [eA45, pT25, List.cons.injEq, V.i.injEq, V.b.injEq, V.f.injEq, V.str.injEq, V.sl.injEq, V.agg.injEq, V.cptr.injEq, true_and, and_true] at h
  simp_all
noncomputable def F45 : List V → Option V := tells (fun a => g45 a.1 a.2) eA45 eB45
/- loop.example/g01229/laws.eqAct -/
theorem ok45 : Tells Tryd.prog 45 F45 := by
 refine Tells.go 20 Tryd.func45 rfl rfl rfl (by kernel_rfl) (fun _ => rfl) ?_
 rintro ⟨a, b⟩ r h
 simp only [eA45, en, Nat.reduceAdd]
 replace h : (g45 a b).bind some = some r := bindS h
 rw [g45] at h
 have hC : CEnv.Ok Tryd.prog [] := trivial
 refine VW.seq (VW.rA (tm 20 [(2, .ptr 0 0 0), (3, .ptr 1 0 0)]) [some (3, [(pT25 a)]), some (3, [(pT25 b)])] [] hC (VW.seq (VW.seq (VW.rA (tm 20 [(2, .ptr 0 0 0), (3, .ptr 1 0 0), (9, .b (!eqI a.kind_ b.kind_))]) [some (3, [(pT25 a)]), some (3, [(pT25 b)])] [] hC (VW.condI h (fun h => ?_) (fun h => ?_))))))
 · refine VW.seq (VW.rA (tm 20 [(4, .b false)]) [some (3, [(pT25 a)]), some (3, [(pT25 b)])] [] hC ?_)
   obtain rfl := leafS h
   exact VW.ret (VRet.fin (by simp [eB45]))
 refine VW.skip (VW.seq (VW.seq (VW.rA (tm 20 [(2, .ptr 0 0 0), (3, .ptr 1 0 0), (14, .b (!eqI a.a_ b.a_))]) [some (3, [(pT25 a)]), some (3, [(pT25 b)])] [] hC (VW.condI h (fun h => ?_) (fun h => ?_)))))
 · refine VW.seq (VW.rA (tm 20 [(4, .b false)]) [some (3, [(pT25 a)]), some (3, [(pT25 b)])] [] hC ?_)
   obtain rfl := leafS h
   exact VW.ret (VRet.fin (by simp [eB45]))
 refine VW.skip (VW.seq (VW.seq (VW.rA (tm 20 [(19, .b (!eqI a.b_ b.b_))]) [some (3, [(pT25 a)]), some (3, [(pT25 b)])] [] hC (VW.condI h (fun h => ?_) (fun h => ?_)))))
 · refine VW.seq (VW.rA (tm 20 [(4, .b false)]) [some (3, [(pT25 a)]), some (3, [(pT25 b)])] [] hC ?_)
   obtain rfl := leafS h
   exact VW.ret (VRet.fin (by simp [eB45]))
 refine VW.skip (VW.seq (VW.rA (tm 20 [(4, .b true)]) [some (3, [(pT25 a)]), some (3, [(pT25 b)])] [] hC ?_))
 obtain rfl := leafS h
 exact VW.ret (VRet.fin (by simp [eB45]))
theorem tl45 {a : T25} {b : T25} {r : Bool} (h : g45 a b = some r) : F45 [.agg [.i .i64 a.kind_, .i .i64 a.a_, .i .i64 a.b_], .agg [.i .i64 b.kind_, .i .i64 b.a_, .i .i64 b.b_]] = some (.b r) := tells_eq inj45 (a := (a, b)) h
noncomputable def g37 (a : T67) (b : T67) : Option (Bool) :=
if (!(a.mark_ == b.mark_)) = true then
some false
else
if (!eqI a.check_ b.check_) = true then
some false
else
(g45 a.act_ b.act_).bind fun r3 =>
if (!r3) = true then
some false
else
some true
def eA37 (a : T67 × T67) : List V := [.agg (pT67 a.1), .agg (pT67 a.2)]
def eB37 (r : Bool) : V := .b r
theorem inj37 (a a' : T67 × T67) (h : eA37 a = eA37 a') : a = a' := by
  obtain ⟨⟨i327, i328, ⟨i329, i330, i331⟩⟩, ⟨i332, i333, ⟨i334, i335, i336⟩⟩⟩ := a
  obtain ⟨⟨i337, i338, ⟨i339, i340, i341⟩⟩, ⟨i342, i343, ⟨i344, i345, i346⟩⟩⟩ := a'
  simp only [eA37, pT67, List.cons.injEq, V.i.injEq, V.b.injEq, V.f.injEq, V.str.injEq, V.sl.injEq, V.agg.injEq, V.cptr.injEq, true_and, and_true] at h
  simp_all
noncomputable def F37 : List V → Option V := tells (fun a => g37 a.1 a.2) eA37 eB37
/- loop.example/g01229/laws.eqEntry -/
theorem ok37 : Tells Tryd.prog 37 F37 := by
 refine Tells.go 21 Tryd.func37 rfl rfl rfl (by kernel_rfl) (fun _ => rfl) ?_
 rintro ⟨a, b⟩ r h
 simp only [eA37, en, Nat.reduceAdd]
 replace h : (g37 a b).bind some = some r := bindS h
 rw [g37] at h
 have hC : CEnv.Ok Tryd.prog [(45, F45)] := ⟨.inl ok45, trivial⟩
 refine VW.seq (VW.rA (tm 21 [(2, .ptr 0 0 0), (3, .ptr 1 0 0)]) [some (5, [(pT67 a)]), some (5, [(pT67 b)])] [] hC (VW.seq (VW.seq (VW.rA (tm 21 [(2, .ptr 0 0 0), (3, .ptr 1 0 0), (9, .b (!(a.mark_ == b.mark_)))]) [some (5, [(pT67 a)]), some (5, [(pT67 b)])] [] hC (VW.condI h (fun h => ?_) (fun h => ?_))))))
 · refine VW.seq (VW.rA (tm 21 [(4, .b false)]) [some (5, [(pT67 a)]), some (5, [(pT67 b)])] [] hC ?_)
   obtain rfl := leafS h
   exact VW.ret (VRet.fin (by simp [eB37]))
 refine VW.skip (VW.seq (VW.seq (VW.rA (tm 21 [(2, .ptr 0 0 0), (3, .ptr 1 0 0), (14, .b (!eqI a.check_ b.check_))]) [some (5, [(pT67 a)]), some (5, [(pT67 b)])] [] hC (VW.condI h (fun h => ?_) (fun h => ?_)))))
 · refine VW.seq (VW.rA (tm 21 [(4, .b false)]) [some (5, [(pT67 a)]), some (5, [(pT67 b)])] [] hC ?_)
   obtain rfl := leafS h
   exact VW.ret (VRet.fin (by simp [eB37]))
 refine VW.skip (VW.seq (VW.seq ?_))
 obtain ⟨r3, q4, h⟩ := bindE h
 have c4 := tl45 q4
 refine VW.rA (tm 21 [(20, .b (!r3))]) [some (5, [(pT67 a)]), some (5, [(pT67 b)])] [] hC (VW.condI h (fun h => ?_) (fun h => ?_)) (h := by simp -implicitDefEqProofs [c4])
 · refine VW.seq (VW.rA (tm 21 [(4, .b false)]) [some (5, [(pT67 a)]), some (5, [(pT67 b)])] [] hC ?_)
   obtain rfl := leafS h
   exact VW.ret (VRet.fin (by simp [eB37]))
 refine VW.skip (VW.seq (VW.rA (tm 21 [(4, .b true)]) [some (5, [(pT67 a)]), some (5, [(pT67 b)])] [] hC ?_))
 obtain rfl := leafS h
 exact VW.ret (VRet.fin (by simp [eB37]))
theorem tl37 {a : T67} {b : T67} {r : Bool} (h : g37 a b = some r) : F37 [.agg [.b a.mark_, .i .u32 a.check_, .i .i64 a.act_.kind_, .i .i64 a.act_.a_, .i .i64 a.act_.b_], .agg [.b b.mark_, .i .u32 b.check_, .i .i64 b.act_.kind_, .i .i64 b.act_.a_, .i .i64 b.act_.b_]] = some (.b r) := tells_eq inj37 (a := (a, b)) h
noncomputable def g18_j1 : Option (Bool) :=
some true
noncomputable def g18_L1 (a : List T67) (b : List T67) : (Int) → Option ((Int) ⊕ ((Unit) ⊕ (Bool)))
| i_45 =>
if ltI i_45 (a.length : Int) = true then
(idx a i_45).bind fun e47 =>
(idx b i_45).bind fun e49 =>
(g37 e47 e49).bind fun r51 =>
if (!r51) = true then
some (.inr (.inr false))
else
some (.inl (aI .i64 i_45 1))
else
some (.inr (.inl ()))
noncomputable def g18 (a : List T67) (b : List T67) : Option (Bool) :=
if (!eqI (a.length : Int) (b.length : Int)) = true then
some false
else
(loopO (g18_L1 a b) 0).bind fun w => match w with
| .inl y => g18_j1
| .inr r => some r
def eA18 (a : (List T67) × (List T67)) : List V := [.sl 5 (rows cT67 a.1), .sl 5 (rows cT67 a.2)]
def eB18 (r : Bool) : V := .b r
theorem inj18 (a a' : (List T67) × (List T67)) (h : eA18 a = eA18 a') : a = a' := by
  obtain ⟨i347, i348⟩ := a
  obtain ⟨i349, i350⟩ := a'
  simp only [eA18, List.cons.injEq, V.i.injEq, V.b.injEq, V.f.injEq, V.str.injEq, V.sl.injEq, V.agg.injEq, V.cptr.injEq, true_and, and_true] at h
  simp_all [ri cT67_inj]
noncomputable def F18 : List V → Option V := tells (fun a => g18 a.1 a.2) eA18 eB18
/- loop.example/g01229/laws.eqEntryS -/
theorem ok18 : Tells Tryd.prog 18 F18 := by
 refine Tells.go 27 Tryd.func18 rfl rfl rfl (by kernel_rfl) (fun _ => rfl) ?_
 rintro ⟨a, b⟩ r h
 simp only [eA18, en, Nat.reduceAdd]
 replace h : (g18 a b).bind some = some r := bindS h
 rw [g18] at h
 have hC : CEnv.Ok Tryd.prog [(37, F37)] := ⟨.inl ok37, trivial⟩
 refine VW.seq (VW.rA (tm 27 [(0, .sl 5 (rows cT67 a)), (1, .sl 5 (rows cT67 b))]) [] [] hC (VW.seq (VW.seq (VW.rA (tm 27 [(0, .sl 5 (rows cT67 a)), (1, .sl 5 (rows cT67 b)), (10, .b (!eqI (a.length : Int) (b.length : Int)))]) [] [] hC (VW.condI h (fun h => ?_) (fun h => ?_))))))
 · refine VW.seq (VW.rA (tm 27 [(4, .b false)]) [] [] hC ?_)
   obtain rfl := leafS h
   exact VW.ret (VRet.fin (by simp [eB18]))
 refine VW.skip (VW.join (fun (v : Unit) => (⟨(tm 27 []), [], []⟩ : VS)) (fun v => (g18_j1).bind some = some r) ?_ ?_)
 · refine VW.seq (VW.rA (tm 27 [(0, .sl 5 (rows cT67 a)), (1, .sl 5 (rows cT67 b)), (5, .i .i64 0)]) [] [] hC (VW.block ?_))
   obtain ⟨w_1, hw_1, h⟩ := bindE h
   refine VW.loopO (fun (x : Int) => (⟨(tm 27 [(0, .sl 5 (rows cT67 a)), (1, .sl 5 (rows cT67 b)), (5, .i .i64 x)]), [], []⟩ : VS)) hw_1 (Ent.tu 0) ?_
   rintro n_1 i_45 h1
   rw [g18_L1] at h1
   refine VW.seq (VW.seq (VW.rA (tm 27 [(0, .sl 5 (rows cT67 a)), (1, .sl 5 (rows cT67 b)), (5, .i .i64 i_45), (14, .b (ltI i_45 (a.length : Int)))]) [] [] hC (VW.condJ h1 (fun h1 => ?_) (fun h1 => ?_))))
   · refine VW.exit ?_
     have e_ := leafR h1
     subst w_1
     exact vnext () h (Ent.tu 0)
   refine VW.skip (VW.seq (VW.block (VW.seq ?_)))
   obtain ⟨e47, ⟨f48a, f48b, f48c, f48d⟩, h1⟩ := bindI h1
   obtain ⟨e49, ⟨f50a, f50b, f50c, f50d⟩, h1⟩ := bindI h1
   obtain ⟨r51, q52, h1⟩ := bindE h1
   have c52 := tl37 q52
   refine VW.rD (tm 27 [(0, .sl 5 (rows cT67 a)), (1, .sl 5 (rows cT67 b)), (5, .i .i64 i_45), (26, .b (!r51))]) [] [] hC mixed (VW.condI h1 (fun h1 => ?_) (fun h1 => ?_)) (h := by simp -implicitDefEqProofs [f48a, f48b, f48c, f48d, f50a, f50b, f50c, f50d, c52])
   · refine VW.seq (VW.rA (tm 27 [(4, .b false)]) [] [] hC ?_)
     have e_ := leafR h1
     subst w_1
     obtain rfl := leafS h
     exact VW.ret (VRet.fin (by simp [eB18]))
   exact VW.skip (VW.rA (tm 27 [(0, .sl 5 (rows cT67 a)), (1, .sl 5 (rows cT67 b)), (5, .i .i64 (aI .i64 i_45 1))]) [] [] hC (vnext (aI .i64 i_45 1) (leafL h1) (Ent.tu 0)))
 rintro _ h
 replace h : (g18_j1).bind _ = _ := h
 rw [g18_j1] at h
 refine VW.seq (VW.rA (tm 27 [(4, .b true)]) [] [] hC ?_)
 obtain rfl := leafS h
 exact VW.ret (VRet.fin (by simp [eB18]))
theorem tl18 {a : List T67} {b : List T67} {r : Bool} (h : g18 a b = some r) : F18 [.sl 5 (rows cT67 a), .sl 5 (rows cT67 b)] = some (.b r) := tells_eq inj18 (a := (a, b)) h
noncomputable def g5 (aJournal : List T67) : Option (Bool) :=
(g14 aJournal 1048576).bind fun r1 =>
if ltI r1 0 = true then
some true
else
(g16 aJournal).bind fun r4 =>
(g15 r4).bind fun r6 =>
(g16 aJournal).bind fun r8 =>
(g17 r8).bind fun r10 =>
if (!eqS r10 r6) = true then
some false
else
(g16 aJournal).bind fun r13 =>
(g18 r8 r13).bind fun r15 =>
if (!r15) = true then
some false
else
some true
def eA5 (a : List T67) : List V := [.sl 5 (rows cT67 a)]
def eB5 (r : Bool) : V := .b r
theorem inj5 (a a' : List T67) (h : eA5 a = eA5 a') : a = a' := by
  obtain i351 := a
  obtain i352 := a'
  simp only [eA5, List.cons.injEq, V.i.injEq, V.b.injEq, V.f.injEq, V.str.injEq, V.sl.injEq, V.agg.injEq, V.cptr.injEq, true_and, and_true] at h
  simp_all [ri cT67_inj]
noncomputable def F5 : List V → Option V := tells (fun a => g5 a) eA5 eB5
/- loop.example/g01229/laws.FnExactJournalText -/
theorem ok5 : Tells Tryd.prog 5 F5 := by
 refine Tells.go 27 Tryd.func5 rfl rfl rfl (by kernel_rfl) (fun _ => rfl) ?_
 rintro aJournal r h
 simp only [eA5, en, Nat.reduceAdd]
 replace h : (g5 aJournal).bind some = some r := bindS h
 rw [g5] at h
 have hC : CEnv.Ok Tryd.prog [(14, F14), (15, F15), (16, F16), (17, F17), (18, F18)] := ⟨.inl ok14, .inl ok15, .inl ok16, .inl ok17, .inl ok18, trivial⟩
 refine VW.seq (VW.rA (tm 27 [(0, .sl 5 (rows cT67 aJournal))]) [] [] hC (VW.seq (VW.rA (tm 27 [(0, .sl 5 (rows cT67 aJournal)), (3, .i .i64 1048576)]) [] [] hC (VW.seq ?_))))
 obtain ⟨r1, q2, h⟩ := bindE h
 have c2 := tl14 q2
 refine VW.rA (tm 27 [(0, .sl 5 (rows cT67 aJournal)), (3, .i .i64 r1)]) [] [] hC (VW.seq (VW.seq (VW.rA (tm 27 [(0, .sl 5 (rows cT67 aJournal)), (11, .b (ltI r1 0))]) [] [] hC (VW.condI h (fun h => ?_) (fun h => ?_))))) (h := by simp -implicitDefEqProofs [c2])
 · refine VW.seq (VW.rA (tm 27 [(2, .b true)]) [] [] hC ?_)
   obtain rfl := leafS h
   exact VW.ret (VRet.fin (by simp [eB5]))
 refine VW.skip (VW.seq ?_)
 obtain ⟨r4, q5, h⟩ := bindE h
 have c5 := tl16 q5
 obtain ⟨r6, q7, h⟩ := bindE h
 have c7 := tl15 q7
 refine VW.rA (tm 27 [(0, .sl 5 (rows cT67 aJournal)), (4, .str r6)]) [some (5, rows cT67 r4)] [] hC (VW.seq ?_) (h := by simp -implicitDefEqProofs [c5, c7])
 obtain ⟨r8, q9, h⟩ := bindE h
 have c9 := tl16 q9
 refine VW.rA (tm 27 [(0, .sl 5 (rows cT67 aJournal)), (4, .str r6), (5, .ref 1 0 r8.length)]) [some (5, rows cT67 r4), some (5, rows cT67 r8)] [] hC (VW.seq ?_) (h := by simp -implicitDefEqProofs [c9])
 obtain ⟨r10, q11, h⟩ := bindE h
 have c11 := tl17 q11
 refine VW.rA (tm 27 [(0, .sl 5 (rows cT67 aJournal)), (4, .str r6), (5, .ref 1 0 r8.length), (6, .str r10)]) [some (5, rows cT67 r4), some (5, rows cT67 r8)] [] hC (VW.seq (VW.seq (VW.rA (tm 27 [(0, .sl 5 (rows cT67 aJournal)), (5, .ref 1 0 r8.length), (21, .b (!eqS r10 r6))]) [some (5, rows cT67 r4), some (5, rows cT67 r8)] [] hC (VW.condI h (fun h => ?_) (fun h => ?_))))) (h := by simp -implicitDefEqProofs [c11])
 · refine VW.seq (VW.rA (tm 27 [(2, .b false)]) [some (5, rows cT67 r4), some (5, rows cT67 r8)] [] hC ?_)
   obtain rfl := leafS h
   exact VW.ret (VRet.fin (by simp [eB5]))
 refine VW.skip (VW.seq (VW.seq ?_))
 obtain ⟨r13, q14, h⟩ := bindE h
 have c14 := tl16 q14
 obtain ⟨r15, q16, h⟩ := bindE h
 have c16 := tl18 q16
 refine VW.rA (tm 27 [(26, .b (!r15))]) [some (5, rows cT67 r4), some (5, rows cT67 r8), some (5, rows cT67 r13)] [] hC (VW.condI h (fun h => ?_) (fun h => ?_)) (h := by simp -implicitDefEqProofs [c14, c16])
 · refine VW.seq (VW.rA (tm 27 [(2, .b false)]) [some (5, rows cT67 r4), some (5, rows cT67 r8), some (5, rows cT67 r13)] [] hC ?_)
   obtain rfl := leafS h
   exact VW.ret (VRet.fin (by simp [eB5]))
 refine VW.skip (VW.seq (VW.rA (tm 27 [(2, .b true)]) [some (5, rows cT67 r4), some (5, rows cT67 r8), some (5, rows cT67 r13)] [] hC ?_))
 obtain rfl := leafS h
 exact VW.ret (VRet.fin (by simp [eB5]))
theorem tl5 {aJournal : List T67} {r : Bool} (h : g5 aJournal = some r) : F5 [.sl 5 (rows cT67 aJournal)] = some (.b r) := tells_eq inj5 (a := aJournal) h
end Go.Proofs.YtaajogkciipnjaaDoor
