/- Contracts of the functions that the law reaches: what each tells, as a function in Lean. -/
import Derived.Test.YtbohajclnmmkhaaGreatDoorK3Ty
import Derived.KernelRfl
namespace Go.Proofs.YtbohajclnmmkhaaGreatDoor
open Go.RowKit Go.VL
set_option linter.unusedSimpArgs false
set_option linter.unusedVariables false
set_option maxHeartbeats 40000000
set_option maxRecDepth 100000
noncomputable def g9_j1 (text : ByteArray) (from_31 : Int) (l32 : List ByteArray) : Option (List ByteArray) :=
(cutK from_31 (text.size : Int) text.size).bind fun u33 =>
(appK 16 l32 [(text.extract from_31.toNat text.size)]).bind fun u35 =>
some (l32 ++ [(text.extract from_31.toNat text.size)])
noncomputable def g9_L1 (text : ByteArray) (by_ : Int) : (Int × Int × (List ByteArray)) → Option ((Int × Int × (List ByteArray)) ⊕ (Int × (List ByteArray)))
| (from_56, i_57, l58) =>
if ltI i_57 (text.size : Int) = true then
(idxS text i_57).bind fun e60 =>
if eqI e60 by_ = true then
(cutK from_56 i_57 text.size).bind fun u63 =>
(appK 16 l58 [(text.extract from_56.toNat i_57.toNat)]).bind fun u65 =>
some (.inl (aI .i64 i_57 1, aI .i64 i_57 1, (l58 ++ [(text.extract from_56.toNat i_57.toNat)])))
else
some (.inl (from_56, aI .i64 i_57 1, l58))
else
some (.inr (from_56, l58))
noncomputable def g9 (text : ByteArray) (by_ : Int) : Option (List ByteArray) :=
(loopO (g9_L1 text by_) (0, 0, [])).bind fun w => g9_j1 text w.1 w.2
def eA9 (a : ByteArray × Int) : List V := [.str a.1, .i .u8 a.2]
def eB9 (r : List ByteArray) : V := .own 1 (rows cs_ r)
theorem inj9 (a a' : ByteArray × Int) (h : eA9 a = eA9 a') : a = a' := by
  obtain ⟨i1, i2⟩ := a
  obtain ⟨i3, i4⟩ := a'
  simp only [eA9, List.cons.injEq, V.i.injEq, V.b.injEq, V.f.injEq, V.str.injEq, V.sl.injEq, V.agg.injEq, V.cptr.injEq, true_and, and_true] at h
  simp_all
noncomputable def F9 : List V → Option V := tells (fun a => g9 a.1 a.2) eA9 eB9
/- loop.example/g01229/spec.l01Split -/
theorem ok9 : Tells Tryz.prog 9 F9 := by
 refine Tells.go 35 Tryz.func9 rfl rfl rfl (by kernel_rfl) (fun _ => rfl) ?_
 rintro ⟨text, by_⟩ r h
 simp only [eA9, en, Nat.reduceAdd]
 replace h : (g9 text by_).bind some = some r := bindS h
 rw [g9] at h
 have hC : CEnv.Ok Tryz.prog [] := trivial
 refine VW.seq (VW.rA (tm 35 [(0, .str text), (1, .i .u8 by_)]) [] [] hC (VW.seq (VW.rA (tm 35 [(0, .str text), (1, .i .u8 by_), (5, .ref 0 0 0)]) [some (1, rows cs_ [])] [] hC (VW.seq (VW.rA (tm 35 [(0, .str text), (1, .i .u8 by_), (5, .ref 0 0 0), (6, .i .i64 0)]) [some (1, rows cs_ [])] [] hC (VW.join (fun (v : Int × (List ByteArray)) => (⟨(tm 35 [(0, .str text), (5, .ref 0 0 v.2.length), (6, .i .i64 v.1)]), [some (1, rows cs_ v.2)], []⟩ : VS)) (fun v => (g9_j1 text (v.1) (v.2)).bind some = some r) ?_ ?_))))))
 · refine VW.seq (VW.rA (tm 35 [(0, .str text), (1, .i .u8 by_), (5, .ref 0 0 0), (6, .i .i64 0), (7, .i .i64 0)]) [some (1, rows cs_ [])] [] hC (VW.block ?_))
   obtain ⟨w_1, hw_1, h⟩ := bindE h
   refine VW.loopO (fun (x : Int × Int × (List ByteArray)) => (⟨(tm 35 [(0, .str text), (1, .i .u8 by_), (5, .ref 0 0 x.2.2.length), (6, .i .i64 x.1), (7, .i .i64 x.2.1)]), [some (1, rows cs_ x.2.2)], []⟩ : VS)) hw_1 (Ent.tu 1) ?_
   rintro n_1 ⟨from_56, i_57, l58⟩ h1
   rw [g9_L1] at h1
   refine VW.seq (VW.seq (VW.rA (tm 35 [(0, .str text), (1, .i .u8 by_), (5, .ref 0 0 l58.length), (6, .i .i64 from_56), (7, .i .i64 i_57), (12, .b (ltI i_57 (text.size : Int)))]) [some (1, rows cs_ l58)] [] hC (VW.condJ h1 (fun h1 => ?_) (fun h1 => ?_))))
   · refine VW.exit ?_
     have e_ := leafR h1
     subst w_1
     exact vnext (from_56, l58) h (Ent.tu 1)
   refine VW.skip (VW.seq (VW.block (VW.seq ?_)))
   obtain ⟨e60, ⟨f61a, c61, f61b, f61c, f61d⟩, h1⟩ := bindIS h1
   refine VW.rA (tm 35 [(0, .str text), (1, .i .u8 by_), (5, .ref 0 0 l58.length), (6, .i .i64 from_56), (7, .i .i64 i_57), (19, .b (eqI e60 by_))]) [some (1, rows cs_ l58)] [] hC (VW.condJ h1 (fun h1 => ?_) (fun h1 => ?_)) (h := by simp -implicitDefEqProofs [f61a, f61b, f61c, f61d])
   · exact VW.skip (VW.rA (tm 35 [(0, .str text), (1, .i .u8 by_), (5, .ref 0 0 l58.length), (6, .i .i64 from_56), (7, .i .i64 (aI .i64 i_57 1))]) [some (1, rows cs_ l58)] [] hC (vnext (from_56, aI .i64 i_57 1, l58) (leafL h1) (Ent.tu 1)))
   refine VW.seq ?_
   obtain ⟨u63, ⟨f64a, f64b, f64c, f64d, f64e⟩, h1⟩ := bindC h1
   try simp only [Int.toNat_natCast, Int.reduceToNat, List.length_cons, List.length_nil, Nat.reduceAdd, Nat.zero_add] at f64a f64b f64c f64d f64e
   obtain ⟨u65, ⟨f66a, f66b⟩, h1⟩ := bindP h1
   try simp only [Int.toNat_natCast, Int.reduceToNat, List.length_cons, List.length_nil, Nat.reduceAdd, Nat.zero_add] at f66a f66b
   exact VW.rA (tm 35 [(0, .str text), (1, .i .u8 by_), (5, .ref 0 0 (l58 ++ [(text.extract from_56.toNat i_57.toNat)]).length), (7, .i .i64 i_57)]) [some (1, rows cs_ (l58 ++ [(text.extract from_56.toNat i_57.toNat)])), some (1, rows cs_ [(text.extract from_56.toNat i_57.toNat)])] [] hC (VW.rA (tm 35 [(0, .str text), (1, .i .u8 by_), (5, .ref 0 0 (l58 ++ [(text.extract from_56.toNat i_57.toNat)]).length), (6, .i .i64 (aI .i64 i_57 1)), (7, .i .i64 i_57)]) [some (1, rows cs_ (l58 ++ [(text.extract from_56.toNat i_57.toNat)])), some (1, rows cs_ [(text.extract from_56.toNat i_57.toNat)])] [] hC (VW.rA (tm 35 [(0, .str text), (1, .i .u8 by_), (5, .ref 0 0 (l58 ++ [(text.extract from_56.toNat i_57.toNat)]).length), (6, .i .i64 (aI .i64 i_57 1)), (7, .i .i64 (aI .i64 i_57 1))]) [some (1, rows cs_ (l58 ++ [(text.extract from_56.toNat i_57.toNat)])), some (1, rows cs_ [(text.extract from_56.toNat i_57.toNat)])] [] hC (vnext (aI .i64 i_57 1, aI .i64 i_57 1, (l58 ++ [(text.extract from_56.toNat i_57.toNat)])) (leafL h1) (Ent.tu 1)))) (h := by simp -implicitDefEqProofs [f64a, f64b, f64c, f64d, f64e, f66a, f66b])
 rintro ⟨from_31, l32⟩ h
 replace h : (g9_j1 text from_31 l32).bind _ = _ := h
 rw [g9_j1] at h
 refine VW.seq ?_
 obtain ⟨u33, ⟨f34a, f34b, f34c, f34d, f34e⟩, h⟩ := bindC h
 try simp only [Int.toNat_natCast, Int.reduceToNat, List.length_cons, List.length_nil, Nat.reduceAdd, Nat.zero_add] at f34a f34b f34c f34d f34e
 obtain ⟨u35, ⟨f36a, f36b⟩, h⟩ := bindP h
 try simp only [Int.toNat_natCast, Int.reduceToNat, List.length_cons, List.length_nil, Nat.reduceAdd, Nat.zero_add] at f36a f36b
 refine VW.rA (tm 35 [(4, .ref 0 0 (l32 ++ [(text.extract from_31.toNat text.size)]).length)]) [some (1, rows cs_ (l32 ++ [(text.extract from_31.toNat text.size)])), some (1, rows cs_ [(text.extract from_31.toNat text.size)])] [] hC ?_ (h := by simp -implicitDefEqProofs [f34a, f34b, f34c, f34d, f34e, f36a, f36b])
 obtain rfl := leafS h
 exact VW.ret (VRet.fin (by simp [eB9]))
theorem tl9 {text : ByteArray} {by_ : Int} {r : List ByteArray} (h : g9 text by_ = some r) : F9 [.str text, .i .u8 by_] = some (.own 1 (rows cs_ r)) := tells_eq inj9 (a := (text, by_)) h
noncomputable def g60 (a : F32) : Option (Int) :=
if neF .f32 a a = true then
some 2143289344
else
(f32bits a).bind fun z2 =>
some z2
def eA60 (a : F32) : List V := [.f .f32 a]
def eB60 (r : Int) : V := .i .u32 r
theorem inj60 (a a' : F32) (h : eA60 a = eA60 a') : a = a' := by
  obtain i5 := a
  obtain i6 := a'
  simp only [eA60, List.cons.injEq, V.i.injEq, V.b.injEq, V.f.injEq, V.str.injEq, V.sl.injEq, V.agg.injEq, V.cptr.injEq, true_and, and_true] at h
  simp_all
noncomputable def F60 : List V → Option V := tells (fun a => g60 a) eA60 eB60
/- loop.example/g01229/spec.l01Bits -/
theorem ok60 : Tells Tryz.prog 60 F60 := by
 refine Tells.go 8 Tryz.func60 rfl rfl rfl (by kernel_rfl) (fun _ => rfl) ?_
 rintro a r h
 simp only [eA60, en, Nat.reduceAdd]
 replace h : (g60 a).bind some = some r := bindS h
 rw [g60] at h
 have hC : CEnv.Ok Tryz.prog [(68, FXbits32)] := ⟨.inr okx68, trivial⟩
 refine VW.seq (VW.rA (tm 8 [(0, .f .f32 a)]) [] [] hC (VW.seq (VW.seq (VW.rA (tm 8 [(0, .f .f32 a), (5, .b (neF .f32 a a))]) [] [] hC (VW.condI h (fun h => ?_) (fun h => ?_))))))
 · refine VW.seq (VW.rA (tm 8 [(2, .i .u32 2143289344)]) [] [] hC ?_)
   obtain rfl := leafS h
   exact VW.ret (VRet.fin (by simp [eB60]))
 refine VW.skip (VW.seq ?_)
 obtain ⟨z2, q3, h⟩ := bindE h
 have c3 := f32bits_F q3
 refine VW.rA (tm 8 [(2, .i .u32 z2)]) [] [] hC ?_ (h := by simp -implicitDefEqProofs [c3])
 obtain rfl := leafS h
 exact VW.ret (VRet.fin (by simp [eB60]))
theorem tl60 {a : F32} {r : Int} (h : g60 a = some r) : F60 [.f .f32 a] = some (.i .u32 r) := tells_eq inj60 (a := a) h
noncomputable def g56_j1 (bits_74 : Int) : Option (F32 × Bool) :=
(g60 (f32of bits_74)).bind fun r75 =>
some (f32of bits_74, eqI r75 bits_74)
noncomputable def g56_j9 (bits_116 : Int) : Option (F32 × Bool) :=
g56_j1 bits_116
noncomputable def g56_j8 (text : ByteArray) (bits_111 : Int) : Option (F32 × Bool) :=
(idxS text 7).bind fun e117 =>
if (leI 48 e117 && leI e117 57) = true then
g56_j9 (aI .u32 (mI .u32 bits_111 16) (cI .u32 (sI .u8 e117 48)))
else
if (leI 97 e117 && leI e117 102) = true then
g56_j9 (aI .u32 (aI .u32 (mI .u32 bits_111 16) (cI .u32 (sI .u8 e117 97))) 10)
else
some ((some 0), false)
noncomputable def g56_j7 (text : ByteArray) (bits_106 : Int) : Option (F32 × Bool) :=
(idxS text 6).bind fun e121 =>
if (leI 48 e121 && leI e121 57) = true then
g56_j8 text (aI .u32 (mI .u32 bits_106 16) (cI .u32 (sI .u8 e121 48)))
else
if (leI 97 e121 && leI e121 102) = true then
g56_j8 text (aI .u32 (aI .u32 (mI .u32 bits_106 16) (cI .u32 (sI .u8 e121 97))) 10)
else
some ((some 0), false)
noncomputable def g56_j6 (text : ByteArray) (bits_101 : Int) : Option (F32 × Bool) :=
(idxS text 5).bind fun e125 =>
if (leI 48 e125 && leI e125 57) = true then
g56_j7 text (aI .u32 (mI .u32 bits_101 16) (cI .u32 (sI .u8 e125 48)))
else
if (leI 97 e125 && leI e125 102) = true then
g56_j7 text (aI .u32 (aI .u32 (mI .u32 bits_101 16) (cI .u32 (sI .u8 e125 97))) 10)
else
some ((some 0), false)
noncomputable def g56_j5 (text : ByteArray) (bits_96 : Int) : Option (F32 × Bool) :=
(idxS text 4).bind fun e129 =>
if (leI 48 e129 && leI e129 57) = true then
g56_j6 text (aI .u32 (mI .u32 bits_96 16) (cI .u32 (sI .u8 e129 48)))
else
if (leI 97 e129 && leI e129 102) = true then
g56_j6 text (aI .u32 (aI .u32 (mI .u32 bits_96 16) (cI .u32 (sI .u8 e129 97))) 10)
else
some ((some 0), false)
noncomputable def g56_j4 (text : ByteArray) (bits_91 : Int) : Option (F32 × Bool) :=
(idxS text 3).bind fun e133 =>
if (leI 48 e133 && leI e133 57) = true then
g56_j5 text (aI .u32 (mI .u32 bits_91 16) (cI .u32 (sI .u8 e133 48)))
else
if (leI 97 e133 && leI e133 102) = true then
g56_j5 text (aI .u32 (aI .u32 (mI .u32 bits_91 16) (cI .u32 (sI .u8 e133 97))) 10)
else
some ((some 0), false)
noncomputable def g56_j3 (text : ByteArray) (bits_86 : Int) : Option (F32 × Bool) :=
(idxS text 2).bind fun e137 =>
if (leI 48 e137 && leI e137 57) = true then
g56_j4 text (aI .u32 (mI .u32 bits_86 16) (cI .u32 (sI .u8 e137 48)))
else
if (leI 97 e137 && leI e137 102) = true then
g56_j4 text (aI .u32 (aI .u32 (mI .u32 bits_86 16) (cI .u32 (sI .u8 e137 97))) 10)
else
some ((some 0), false)
noncomputable def g56_j2 (text : ByteArray) (bits_81 : Int) : Option (F32 × Bool) :=
(idxS text 1).bind fun e141 =>
if (leI 48 e141 && leI e141 57) = true then
g56_j3 text (aI .u32 (mI .u32 bits_81 16) (cI .u32 (sI .u8 e141 48)))
else
if (leI 97 e141 && leI e141 102) = true then
g56_j3 text (aI .u32 (aI .u32 (mI .u32 bits_81 16) (cI .u32 (sI .u8 e141 97))) 10)
else
some ((some 0), false)
noncomputable def g56 (text : ByteArray) : Option (F32 × Bool) :=
if (!eqI (text.size : Int) 8) = true then
some ((some 0), false)
else
(idxS text 0).bind fun e145 =>
if (leI 48 e145 && leI e145 57) = true then
g56_j2 text (aI .u32 0 (cI .u32 (sI .u8 e145 48)))
else
if (leI 97 e145 && leI e145 102) = true then
g56_j2 text (aI .u32 (aI .u32 0 (cI .u32 (sI .u8 e145 97))) 10)
else
some ((some 0), false)
def eA56 (a : ByteArray) : List V := [.str a]
def eB56 (r : F32 × Bool) : V := .tup [.f .f32 r.1, .b r.2]
theorem inj56 (a a' : ByteArray) (h : eA56 a = eA56 a') : a = a' := by
  obtain i7 := a
  obtain i8 := a'
  simp only [eA56, List.cons.injEq, V.i.injEq, V.b.injEq, V.f.injEq, V.str.injEq, V.sl.injEq, V.agg.injEq, V.cptr.injEq, true_and, and_true] at h
  simp_all
noncomputable def F56 : List V → Option V := tells (fun a => g56 a) eA56 eB56
/- loop.example/g01229/spec.l01Read -/
theorem ok56 : Tells Tryz.prog 56 F56 := by
 refine Tells.go 52 Tryz.func56 rfl rfl rfl (by kernel_rfl) (fun _ => rfl) ?_
 rintro text r h
 simp only [eA56, en, Nat.reduceAdd]
 replace h : (g56 text).bind some = some r := bindS h
 rw [g56] at h
 have hC : CEnv.Ok Tryz.prog [(60, F60), (64, FXof32)] := ⟨.inl ok60, .inr okx64, trivial⟩
 refine VW.seq (VW.rA (tm 52 [(0, .str text)]) [] [] hC (VW.seq (VW.seq (VW.rA (tm 52 [(0, .str text), (10, .b (!eqI (text.size : Int) 8))]) [] [] hC (VW.condI h (fun h => ?_) (fun h => ?_)) (h := by simp -implicitDefEqProofs [f32of_F])))) (h := by simp -implicitDefEqProofs [f32of_F]))
 · refine VW.seq (VW.rA (tm 52 [(2, .f .f32 (some 0)), (3, .b false)]) [] [] hC ?_)
   obtain rfl := leafS h
   exact VW.ret (VRet.fin (by simp [eB56]))
 refine VW.skip (VW.seq (VW.rA (tm 52 [(0, .str text), (4, .i .u32 0)]) [] [] hC (VW.join (fun (v : Int) => (⟨(tm 52 [(4, .i .u32 v)]), [], []⟩ : VS)) (fun v => (g56_j1 (v)).bind some = some r) ?_ ?_) (h := by simp -implicitDefEqProofs [f32of_F])))
 · refine VW.seq (VW.rA (tm 52 [(0, .str text), (4, .i .u32 0), (5, .i .i64 0)]) [] [] hC (VW.block (VW.rounds 10 (VRounds.join (fun (v : Int) => (⟨(tm 52 [(0, .str text), (4, .i .u32 v), (5, .i .i64 1)]), [], []⟩ : VS)) (fun v => (g56_j2 text (v)).bind some = some r) ?_ ?_))) (h := by simp -implicitDefEqProofs [f32of_F]))
   · refine VW.seq (VW.seq (VW.rA (tm 52 [(0, .str text), (4, .i .u32 0), (5, .i .i64 0), (12, .b true)]) [] [] hC (VW.condT (by simp) (VW.skip (VW.seq (VW.block (VW.seq ?_))))) (h := by simp -implicitDefEqProofs [(by decide : ltI 0 8 = true), f32of_F])))
     obtain ⟨e145, ⟨f146a, c146, f146b, f146c, f146d⟩, h⟩ := bindIS h
     simp only [Int.reduceToNat] at f146b f146d
     refine VW.rA (tm 52 [(0, .str text), (4, .i .u32 0), (5, .i .i64 0), (6, .i .u8 e145)]) [] [] hC (VW.block (VW.seq (VW.rA (tm 52 [(0, .str text), (4, .i .u32 0), (5, .i .i64 0), (6, .i .u8 e145), (18, .b (leI 48 e145 && leI e145 57))]) [] [] hC (VW.condI h (fun h => ?_) (fun h => ?_)) (h := by simp -implicitDefEqProofs [f32of_F])))) (h := by simp -implicitDefEqProofs [f146a, f146b, f146c, f146d, f32of_F])
     · exact VW.rA (tm 52 [(0, .str text), (4, .i .u32 (aI .u32 0 (cI .u32 (sI .u8 e145 48)))), (5, .i .i64 0)]) [] [] hC (VW.rA (tm 52 [(0, .str text), (4, .i .u32 (aI .u32 0 (cI .u32 (sI .u8 e145 48)))), (5, .i .i64 1)]) [] [] hC (vnext (aI .u32 0 (cI .u32 (sI .u8 e145 48))) h (Ent.tu 0)) (h := by simp -implicitDefEqProofs [(by decide : aI .i64 0 1 = 1), f32of_F])) (h := by simp -implicitDefEqProofs [(by decide : mI .u32 0 16 = 0), f32of_F])
     refine VW.seq (VW.rA (tm 52 [(0, .str text), (4, .i .u32 0), (5, .i .i64 0), (6, .i .u8 e145), (31, .b (leI 97 e145 && leI e145 102))]) [] [] hC (VW.condJ h (fun h => ?_) (fun h => ?_)) (h := by simp -implicitDefEqProofs [f32of_F]))
     · refine VW.seq (VW.rA (tm 52 [(2, .f .f32 (some 0)), (3, .b false)]) [] [] hC ?_ (h := by simp -implicitDefEqProofs [f32of_F]))
       obtain rfl := leafS h
       exact VW.ret (VRet.fin (by simp [eB56]))
     exact VW.rA (tm 52 [(0, .str text), (4, .i .u32 (aI .u32 (aI .u32 0 (cI .u32 (sI .u8 e145 97))) 10)), (5, .i .i64 0)]) [] [] hC (VW.rA (tm 52 [(0, .str text), (4, .i .u32 (aI .u32 (aI .u32 0 (cI .u32 (sI .u8 e145 97))) 10)), (5, .i .i64 1)]) [] [] hC (vnext (aI .u32 (aI .u32 0 (cI .u32 (sI .u8 e145 97))) 10) h (Ent.tu 0)) (h := by simp -implicitDefEqProofs [(by decide : aI .i64 0 1 = 1), f32of_F])) (h := by simp -implicitDefEqProofs [(by decide : mI .u32 0 16 = 0), f32of_F])
   rintro bits_81 h
   replace h : (g56_j2 text bits_81).bind _ = _ := h
   rw [g56_j2] at h
   refine VRounds.join (fun (v : Int) => (⟨(tm 52 [(0, .str text), (4, .i .u32 v), (5, .i .i64 2)]), [], []⟩ : VS)) (fun v => (g56_j3 text (v)).bind some = some r) ?_ ?_
   · refine VW.seq (VW.seq (VW.rA (tm 52 [(0, .str text), (4, .i .u32 bits_81), (5, .i .i64 1), (12, .b true)]) [] [] hC (VW.condT (by simp) (VW.skip (VW.seq (VW.block (VW.seq ?_))))) (h := by simp -implicitDefEqProofs [(by decide : ltI 1 8 = true), f32of_F])))
     obtain ⟨e141, ⟨f142a, c142, f142b, f142c, f142d⟩, h⟩ := bindIS h
     simp only [Int.reduceToNat] at f142b f142d
     refine VW.rA (tm 52 [(0, .str text), (4, .i .u32 bits_81), (5, .i .i64 1), (6, .i .u8 e141)]) [] [] hC (VW.block (VW.seq (VW.rA (tm 52 [(0, .str text), (4, .i .u32 bits_81), (5, .i .i64 1), (6, .i .u8 e141), (18, .b (leI 48 e141 && leI e141 57))]) [] [] hC (VW.condI h (fun h => ?_) (fun h => ?_)) (h := by simp -implicitDefEqProofs [f32of_F])))) (h := by simp -implicitDefEqProofs [f142a, f142b, f142c, f142d, f32of_F])
     · exact VW.rA (tm 52 [(0, .str text), (4, .i .u32 (aI .u32 (mI .u32 bits_81 16) (cI .u32 (sI .u8 e141 48)))), (5, .i .i64 1)]) [] [] hC (VW.rA (tm 52 [(0, .str text), (4, .i .u32 (aI .u32 (mI .u32 bits_81 16) (cI .u32 (sI .u8 e141 48)))), (5, .i .i64 2)]) [] [] hC (vnext (aI .u32 (mI .u32 bits_81 16) (cI .u32 (sI .u8 e141 48))) h (Ent.tu 0)) (h := by simp -implicitDefEqProofs [(by decide : aI .i64 1 1 = 2), f32of_F])) (h := by simp -implicitDefEqProofs [f32of_F])
     refine VW.seq (VW.rA (tm 52 [(0, .str text), (4, .i .u32 bits_81), (5, .i .i64 1), (6, .i .u8 e141), (31, .b (leI 97 e141 && leI e141 102))]) [] [] hC (VW.condJ h (fun h => ?_) (fun h => ?_)) (h := by simp -implicitDefEqProofs [f32of_F]))
     · refine VW.seq (VW.rA (tm 52 [(2, .f .f32 (some 0)), (3, .b false)]) [] [] hC ?_ (h := by simp -implicitDefEqProofs [f32of_F]))
       obtain rfl := leafS h
       exact VW.ret (VRet.fin (by simp [eB56]))
     exact VW.rA (tm 52 [(0, .str text), (4, .i .u32 (aI .u32 (aI .u32 (mI .u32 bits_81 16) (cI .u32 (sI .u8 e141 97))) 10)), (5, .i .i64 1)]) [] [] hC (VW.rA (tm 52 [(0, .str text), (4, .i .u32 (aI .u32 (aI .u32 (mI .u32 bits_81 16) (cI .u32 (sI .u8 e141 97))) 10)), (5, .i .i64 2)]) [] [] hC (vnext (aI .u32 (aI .u32 (mI .u32 bits_81 16) (cI .u32 (sI .u8 e141 97))) 10) h (Ent.tu 0)) (h := by simp -implicitDefEqProofs [(by decide : aI .i64 1 1 = 2), f32of_F])) (h := by simp -implicitDefEqProofs [f32of_F])
   rintro bits_86 h
   replace h : (g56_j3 text bits_86).bind _ = _ := h
   rw [g56_j3] at h
   refine VRounds.join (fun (v : Int) => (⟨(tm 52 [(0, .str text), (4, .i .u32 v), (5, .i .i64 3)]), [], []⟩ : VS)) (fun v => (g56_j4 text (v)).bind some = some r) ?_ ?_
   · refine VW.seq (VW.seq (VW.rA (tm 52 [(0, .str text), (4, .i .u32 bits_86), (5, .i .i64 2), (12, .b true)]) [] [] hC (VW.condT (by simp) (VW.skip (VW.seq (VW.block (VW.seq ?_))))) (h := by simp -implicitDefEqProofs [(by decide : ltI 2 8 = true), f32of_F])))
     obtain ⟨e137, ⟨f138a, c138, f138b, f138c, f138d⟩, h⟩ := bindIS h
     simp only [Int.reduceToNat] at f138b f138d
     refine VW.rA (tm 52 [(0, .str text), (4, .i .u32 bits_86), (5, .i .i64 2), (6, .i .u8 e137)]) [] [] hC (VW.block (VW.seq (VW.rA (tm 52 [(0, .str text), (4, .i .u32 bits_86), (5, .i .i64 2), (6, .i .u8 e137), (18, .b (leI 48 e137 && leI e137 57))]) [] [] hC (VW.condI h (fun h => ?_) (fun h => ?_)) (h := by simp -implicitDefEqProofs [f32of_F])))) (h := by simp -implicitDefEqProofs [f138a, f138b, f138c, f138d, f32of_F])
     · exact VW.rA (tm 52 [(0, .str text), (4, .i .u32 (aI .u32 (mI .u32 bits_86 16) (cI .u32 (sI .u8 e137 48)))), (5, .i .i64 2)]) [] [] hC (VW.rA (tm 52 [(0, .str text), (4, .i .u32 (aI .u32 (mI .u32 bits_86 16) (cI .u32 (sI .u8 e137 48)))), (5, .i .i64 3)]) [] [] hC (vnext (aI .u32 (mI .u32 bits_86 16) (cI .u32 (sI .u8 e137 48))) h (Ent.tu 0)) (h := by simp -implicitDefEqProofs [(by decide : aI .i64 2 1 = 3), f32of_F])) (h := by simp -implicitDefEqProofs [f32of_F])
     refine VW.seq (VW.rA (tm 52 [(0, .str text), (4, .i .u32 bits_86), (5, .i .i64 2), (6, .i .u8 e137), (31, .b (leI 97 e137 && leI e137 102))]) [] [] hC (VW.condJ h (fun h => ?_) (fun h => ?_)) (h := by simp -implicitDefEqProofs [f32of_F]))
     · refine VW.seq (VW.rA (tm 52 [(2, .f .f32 (some 0)), (3, .b false)]) [] [] hC ?_ (h := by simp -implicitDefEqProofs [f32of_F]))
       obtain rfl := leafS h
       exact VW.ret (VRet.fin (by simp [eB56]))
     exact VW.rA (tm 52 [(0, .str text), (4, .i .u32 (aI .u32 (aI .u32 (mI .u32 bits_86 16) (cI .u32 (sI .u8 e137 97))) 10)), (5, .i .i64 2)]) [] [] hC (VW.rA (tm 52 [(0, .str text), (4, .i .u32 (aI .u32 (aI .u32 (mI .u32 bits_86 16) (cI .u32 (sI .u8 e137 97))) 10)), (5, .i .i64 3)]) [] [] hC (vnext (aI .u32 (aI .u32 (mI .u32 bits_86 16) (cI .u32 (sI .u8 e137 97))) 10) h (Ent.tu 0)) (h := by simp -implicitDefEqProofs [(by decide : aI .i64 2 1 = 3), f32of_F])) (h := by simp -implicitDefEqProofs [f32of_F])
   rintro bits_91 h
   replace h : (g56_j4 text bits_91).bind _ = _ := h
   rw [g56_j4] at h
   refine VRounds.join (fun (v : Int) => (⟨(tm 52 [(0, .str text), (4, .i .u32 v), (5, .i .i64 4)]), [], []⟩ : VS)) (fun v => (g56_j5 text (v)).bind some = some r) ?_ ?_
   · refine VW.seq (VW.seq (VW.rA (tm 52 [(0, .str text), (4, .i .u32 bits_91), (5, .i .i64 3), (12, .b true)]) [] [] hC (VW.condT (by simp) (VW.skip (VW.seq (VW.block (VW.seq ?_))))) (h := by simp -implicitDefEqProofs [(by decide : ltI 3 8 = true), f32of_F])))
     obtain ⟨e133, ⟨f134a, c134, f134b, f134c, f134d⟩, h⟩ := bindIS h
     simp only [Int.reduceToNat] at f134b f134d
     refine VW.rA (tm 52 [(0, .str text), (4, .i .u32 bits_91), (5, .i .i64 3), (6, .i .u8 e133)]) [] [] hC (VW.block (VW.seq (VW.rA (tm 52 [(0, .str text), (4, .i .u32 bits_91), (5, .i .i64 3), (6, .i .u8 e133), (18, .b (leI 48 e133 && leI e133 57))]) [] [] hC (VW.condI h (fun h => ?_) (fun h => ?_)) (h := by simp -implicitDefEqProofs [f32of_F])))) (h := by simp -implicitDefEqProofs [f134a, f134b, f134c, f134d, f32of_F])
     · exact VW.rA (tm 52 [(0, .str text), (4, .i .u32 (aI .u32 (mI .u32 bits_91 16) (cI .u32 (sI .u8 e133 48)))), (5, .i .i64 3)]) [] [] hC (VW.rA (tm 52 [(0, .str text), (4, .i .u32 (aI .u32 (mI .u32 bits_91 16) (cI .u32 (sI .u8 e133 48)))), (5, .i .i64 4)]) [] [] hC (vnext (aI .u32 (mI .u32 bits_91 16) (cI .u32 (sI .u8 e133 48))) h (Ent.tu 0)) (h := by simp -implicitDefEqProofs [(by decide : aI .i64 3 1 = 4), f32of_F])) (h := by simp -implicitDefEqProofs [f32of_F])
     refine VW.seq (VW.rA (tm 52 [(0, .str text), (4, .i .u32 bits_91), (5, .i .i64 3), (6, .i .u8 e133), (31, .b (leI 97 e133 && leI e133 102))]) [] [] hC (VW.condJ h (fun h => ?_) (fun h => ?_)) (h := by simp -implicitDefEqProofs [f32of_F]))
     · refine VW.seq (VW.rA (tm 52 [(2, .f .f32 (some 0)), (3, .b false)]) [] [] hC ?_ (h := by simp -implicitDefEqProofs [f32of_F]))
       obtain rfl := leafS h
       exact VW.ret (VRet.fin (by simp [eB56]))
     exact VW.rA (tm 52 [(0, .str text), (4, .i .u32 (aI .u32 (aI .u32 (mI .u32 bits_91 16) (cI .u32 (sI .u8 e133 97))) 10)), (5, .i .i64 3)]) [] [] hC (VW.rA (tm 52 [(0, .str text), (4, .i .u32 (aI .u32 (aI .u32 (mI .u32 bits_91 16) (cI .u32 (sI .u8 e133 97))) 10)), (5, .i .i64 4)]) [] [] hC (vnext (aI .u32 (aI .u32 (mI .u32 bits_91 16) (cI .u32 (sI .u8 e133 97))) 10) h (Ent.tu 0)) (h := by simp -implicitDefEqProofs [(by decide : aI .i64 3 1 = 4), f32of_F])) (h := by simp -implicitDefEqProofs [f32of_F])
   rintro bits_96 h
   replace h : (g56_j5 text bits_96).bind _ = _ := h
   rw [g56_j5] at h
   refine VRounds.join (fun (v : Int) => (⟨(tm 52 [(0, .str text), (4, .i .u32 v), (5, .i .i64 5)]), [], []⟩ : VS)) (fun v => (g56_j6 text (v)).bind some = some r) ?_ ?_
   · refine VW.seq (VW.seq (VW.rA (tm 52 [(0, .str text), (4, .i .u32 bits_96), (5, .i .i64 4), (12, .b true)]) [] [] hC (VW.condT (by simp) (VW.skip (VW.seq (VW.block (VW.seq ?_))))) (h := by simp -implicitDefEqProofs [(by decide : ltI 4 8 = true), f32of_F])))
     obtain ⟨e129, ⟨f130a, c130, f130b, f130c, f130d⟩, h⟩ := bindIS h
     simp only [Int.reduceToNat] at f130b f130d
     refine VW.rA (tm 52 [(0, .str text), (4, .i .u32 bits_96), (5, .i .i64 4), (6, .i .u8 e129)]) [] [] hC (VW.block (VW.seq (VW.rA (tm 52 [(0, .str text), (4, .i .u32 bits_96), (5, .i .i64 4), (6, .i .u8 e129), (18, .b (leI 48 e129 && leI e129 57))]) [] [] hC (VW.condI h (fun h => ?_) (fun h => ?_)) (h := by simp -implicitDefEqProofs [f32of_F])))) (h := by simp -implicitDefEqProofs [f130a, f130b, f130c, f130d, f32of_F])
     · exact VW.rA (tm 52 [(0, .str text), (4, .i .u32 (aI .u32 (mI .u32 bits_96 16) (cI .u32 (sI .u8 e129 48)))), (5, .i .i64 4)]) [] [] hC (VW.rA (tm 52 [(0, .str text), (4, .i .u32 (aI .u32 (mI .u32 bits_96 16) (cI .u32 (sI .u8 e129 48)))), (5, .i .i64 5)]) [] [] hC (vnext (aI .u32 (mI .u32 bits_96 16) (cI .u32 (sI .u8 e129 48))) h (Ent.tu 0)) (h := by simp -implicitDefEqProofs [(by decide : aI .i64 4 1 = 5), f32of_F])) (h := by simp -implicitDefEqProofs [f32of_F])
     refine VW.seq (VW.rA (tm 52 [(0, .str text), (4, .i .u32 bits_96), (5, .i .i64 4), (6, .i .u8 e129), (31, .b (leI 97 e129 && leI e129 102))]) [] [] hC (VW.condJ h (fun h => ?_) (fun h => ?_)) (h := by simp -implicitDefEqProofs [f32of_F]))
     · refine VW.seq (VW.rA (tm 52 [(2, .f .f32 (some 0)), (3, .b false)]) [] [] hC ?_ (h := by simp -implicitDefEqProofs [f32of_F]))
       obtain rfl := leafS h
       exact VW.ret (VRet.fin (by simp [eB56]))
     exact VW.rA (tm 52 [(0, .str text), (4, .i .u32 (aI .u32 (aI .u32 (mI .u32 bits_96 16) (cI .u32 (sI .u8 e129 97))) 10)), (5, .i .i64 4)]) [] [] hC (VW.rA (tm 52 [(0, .str text), (4, .i .u32 (aI .u32 (aI .u32 (mI .u32 bits_96 16) (cI .u32 (sI .u8 e129 97))) 10)), (5, .i .i64 5)]) [] [] hC (vnext (aI .u32 (aI .u32 (mI .u32 bits_96 16) (cI .u32 (sI .u8 e129 97))) 10) h (Ent.tu 0)) (h := by simp -implicitDefEqProofs [(by decide : aI .i64 4 1 = 5), f32of_F])) (h := by simp -implicitDefEqProofs [f32of_F])
   rintro bits_101 h
   replace h : (g56_j6 text bits_101).bind _ = _ := h
   rw [g56_j6] at h
   refine VRounds.join (fun (v : Int) => (⟨(tm 52 [(0, .str text), (4, .i .u32 v), (5, .i .i64 6)]), [], []⟩ : VS)) (fun v => (g56_j7 text (v)).bind some = some r) ?_ ?_
   · refine VW.seq (VW.seq (VW.rA (tm 52 [(0, .str text), (4, .i .u32 bits_101), (5, .i .i64 5), (12, .b true)]) [] [] hC (VW.condT (by simp) (VW.skip (VW.seq (VW.block (VW.seq ?_))))) (h := by simp -implicitDefEqProofs [(by decide : ltI 5 8 = true), f32of_F])))
     obtain ⟨e125, ⟨f126a, c126, f126b, f126c, f126d⟩, h⟩ := bindIS h
     simp only [Int.reduceToNat] at f126b f126d
     refine VW.rA (tm 52 [(0, .str text), (4, .i .u32 bits_101), (5, .i .i64 5), (6, .i .u8 e125)]) [] [] hC (VW.block (VW.seq (VW.rA (tm 52 [(0, .str text), (4, .i .u32 bits_101), (5, .i .i64 5), (6, .i .u8 e125), (18, .b (leI 48 e125 && leI e125 57))]) [] [] hC (VW.condI h (fun h => ?_) (fun h => ?_)) (h := by simp -implicitDefEqProofs [f32of_F])))) (h := by simp -implicitDefEqProofs [f126a, f126b, f126c, f126d, f32of_F])
     · exact VW.rA (tm 52 [(0, .str text), (4, .i .u32 (aI .u32 (mI .u32 bits_101 16) (cI .u32 (sI .u8 e125 48)))), (5, .i .i64 5)]) [] [] hC (VW.rA (tm 52 [(0, .str text), (4, .i .u32 (aI .u32 (mI .u32 bits_101 16) (cI .u32 (sI .u8 e125 48)))), (5, .i .i64 6)]) [] [] hC (vnext (aI .u32 (mI .u32 bits_101 16) (cI .u32 (sI .u8 e125 48))) h (Ent.tu 0)) (h := by simp -implicitDefEqProofs [(by decide : aI .i64 5 1 = 6), f32of_F])) (h := by simp -implicitDefEqProofs [f32of_F])
     refine VW.seq (VW.rA (tm 52 [(0, .str text), (4, .i .u32 bits_101), (5, .i .i64 5), (6, .i .u8 e125), (31, .b (leI 97 e125 && leI e125 102))]) [] [] hC (VW.condJ h (fun h => ?_) (fun h => ?_)) (h := by simp -implicitDefEqProofs [f32of_F]))
     · refine VW.seq (VW.rA (tm 52 [(2, .f .f32 (some 0)), (3, .b false)]) [] [] hC ?_ (h := by simp -implicitDefEqProofs [f32of_F]))
       obtain rfl := leafS h
       exact VW.ret (VRet.fin (by simp [eB56]))
     exact VW.rA (tm 52 [(0, .str text), (4, .i .u32 (aI .u32 (aI .u32 (mI .u32 bits_101 16) (cI .u32 (sI .u8 e125 97))) 10)), (5, .i .i64 5)]) [] [] hC (VW.rA (tm 52 [(0, .str text), (4, .i .u32 (aI .u32 (aI .u32 (mI .u32 bits_101 16) (cI .u32 (sI .u8 e125 97))) 10)), (5, .i .i64 6)]) [] [] hC (vnext (aI .u32 (aI .u32 (mI .u32 bits_101 16) (cI .u32 (sI .u8 e125 97))) 10) h (Ent.tu 0)) (h := by simp -implicitDefEqProofs [(by decide : aI .i64 5 1 = 6), f32of_F])) (h := by simp -implicitDefEqProofs [f32of_F])
   rintro bits_106 h
   replace h : (g56_j7 text bits_106).bind _ = _ := h
   rw [g56_j7] at h
   refine VRounds.join (fun (v : Int) => (⟨(tm 52 [(0, .str text), (4, .i .u32 v), (5, .i .i64 7)]), [], []⟩ : VS)) (fun v => (g56_j8 text (v)).bind some = some r) ?_ ?_
   · refine VW.seq (VW.seq (VW.rA (tm 52 [(0, .str text), (4, .i .u32 bits_106), (5, .i .i64 6), (12, .b true)]) [] [] hC (VW.condT (by simp) (VW.skip (VW.seq (VW.block (VW.seq ?_))))) (h := by simp -implicitDefEqProofs [(by decide : ltI 6 8 = true), f32of_F])))
     obtain ⟨e121, ⟨f122a, c122, f122b, f122c, f122d⟩, h⟩ := bindIS h
     simp only [Int.reduceToNat] at f122b f122d
     refine VW.rA (tm 52 [(0, .str text), (4, .i .u32 bits_106), (5, .i .i64 6), (6, .i .u8 e121)]) [] [] hC (VW.block (VW.seq (VW.rA (tm 52 [(0, .str text), (4, .i .u32 bits_106), (5, .i .i64 6), (6, .i .u8 e121), (18, .b (leI 48 e121 && leI e121 57))]) [] [] hC (VW.condI h (fun h => ?_) (fun h => ?_)) (h := by simp -implicitDefEqProofs [f32of_F])))) (h := by simp -implicitDefEqProofs [f122a, f122b, f122c, f122d, f32of_F])
     · exact VW.rA (tm 52 [(0, .str text), (4, .i .u32 (aI .u32 (mI .u32 bits_106 16) (cI .u32 (sI .u8 e121 48)))), (5, .i .i64 6)]) [] [] hC (VW.rA (tm 52 [(0, .str text), (4, .i .u32 (aI .u32 (mI .u32 bits_106 16) (cI .u32 (sI .u8 e121 48)))), (5, .i .i64 7)]) [] [] hC (vnext (aI .u32 (mI .u32 bits_106 16) (cI .u32 (sI .u8 e121 48))) h (Ent.tu 0)) (h := by simp -implicitDefEqProofs [(by decide : aI .i64 6 1 = 7), f32of_F])) (h := by simp -implicitDefEqProofs [f32of_F])
     refine VW.seq (VW.rA (tm 52 [(0, .str text), (4, .i .u32 bits_106), (5, .i .i64 6), (6, .i .u8 e121), (31, .b (leI 97 e121 && leI e121 102))]) [] [] hC (VW.condJ h (fun h => ?_) (fun h => ?_)) (h := by simp -implicitDefEqProofs [f32of_F]))
     · refine VW.seq (VW.rA (tm 52 [(2, .f .f32 (some 0)), (3, .b false)]) [] [] hC ?_ (h := by simp -implicitDefEqProofs [f32of_F]))
       obtain rfl := leafS h
       exact VW.ret (VRet.fin (by simp [eB56]))
     exact VW.rA (tm 52 [(0, .str text), (4, .i .u32 (aI .u32 (aI .u32 (mI .u32 bits_106 16) (cI .u32 (sI .u8 e121 97))) 10)), (5, .i .i64 6)]) [] [] hC (VW.rA (tm 52 [(0, .str text), (4, .i .u32 (aI .u32 (aI .u32 (mI .u32 bits_106 16) (cI .u32 (sI .u8 e121 97))) 10)), (5, .i .i64 7)]) [] [] hC (vnext (aI .u32 (aI .u32 (mI .u32 bits_106 16) (cI .u32 (sI .u8 e121 97))) 10) h (Ent.tu 0)) (h := by simp -implicitDefEqProofs [(by decide : aI .i64 6 1 = 7), f32of_F])) (h := by simp -implicitDefEqProofs [f32of_F])
   rintro bits_111 h
   replace h : (g56_j8 text bits_111).bind _ = _ := h
   rw [g56_j8] at h
   refine VRounds.join (fun (v : Int) => (⟨(tm 52 [(0, .str text), (4, .i .u32 v), (5, .i .i64 8)]), [], []⟩ : VS)) (fun v => (g56_j9 (v)).bind some = some r) ?_ ?_
   · refine VW.seq (VW.seq (VW.rA (tm 52 [(0, .str text), (4, .i .u32 bits_111), (5, .i .i64 7), (12, .b true)]) [] [] hC (VW.condT (by simp) (VW.skip (VW.seq (VW.block (VW.seq ?_))))) (h := by simp -implicitDefEqProofs [(by decide : ltI 7 8 = true), f32of_F])))
     obtain ⟨e117, ⟨f118a, c118, f118b, f118c, f118d⟩, h⟩ := bindIS h
     simp only [Int.reduceToNat] at f118b f118d
     refine VW.rA (tm 52 [(0, .str text), (4, .i .u32 bits_111), (5, .i .i64 7), (6, .i .u8 e117)]) [] [] hC (VW.block (VW.seq (VW.rA (tm 52 [(0, .str text), (4, .i .u32 bits_111), (5, .i .i64 7), (6, .i .u8 e117), (18, .b (leI 48 e117 && leI e117 57))]) [] [] hC (VW.condI h (fun h => ?_) (fun h => ?_)) (h := by simp -implicitDefEqProofs [f32of_F])))) (h := by simp -implicitDefEqProofs [f118a, f118b, f118c, f118d, f32of_F])
     · exact VW.rA (tm 52 [(0, .str text), (4, .i .u32 (aI .u32 (mI .u32 bits_111 16) (cI .u32 (sI .u8 e117 48)))), (5, .i .i64 7)]) [] [] hC (VW.rA (tm 52 [(0, .str text), (4, .i .u32 (aI .u32 (mI .u32 bits_111 16) (cI .u32 (sI .u8 e117 48)))), (5, .i .i64 8)]) [] [] hC (vnext (aI .u32 (mI .u32 bits_111 16) (cI .u32 (sI .u8 e117 48))) h (Ent.tu 0)) (h := by simp -implicitDefEqProofs [(by decide : aI .i64 7 1 = 8), f32of_F])) (h := by simp -implicitDefEqProofs [f32of_F])
     refine VW.seq (VW.rA (tm 52 [(0, .str text), (4, .i .u32 bits_111), (5, .i .i64 7), (6, .i .u8 e117), (31, .b (leI 97 e117 && leI e117 102))]) [] [] hC (VW.condJ h (fun h => ?_) (fun h => ?_)) (h := by simp -implicitDefEqProofs [f32of_F]))
     · refine VW.seq (VW.rA (tm 52 [(2, .f .f32 (some 0)), (3, .b false)]) [] [] hC ?_ (h := by simp -implicitDefEqProofs [f32of_F]))
       obtain rfl := leafS h
       exact VW.ret (VRet.fin (by simp [eB56]))
     exact VW.rA (tm 52 [(0, .str text), (4, .i .u32 (aI .u32 (aI .u32 (mI .u32 bits_111 16) (cI .u32 (sI .u8 e117 97))) 10)), (5, .i .i64 7)]) [] [] hC (VW.rA (tm 52 [(0, .str text), (4, .i .u32 (aI .u32 (aI .u32 (mI .u32 bits_111 16) (cI .u32 (sI .u8 e117 97))) 10)), (5, .i .i64 8)]) [] [] hC (vnext (aI .u32 (aI .u32 (mI .u32 bits_111 16) (cI .u32 (sI .u8 e117 97))) 10) h (Ent.tu 0)) (h := by simp -implicitDefEqProofs [(by decide : aI .i64 7 1 = 8), f32of_F])) (h := by simp -implicitDefEqProofs [f32of_F])
   rintro bits_116 h
   replace h : (g56_j9 bits_116).bind _ = _ := h
   rw [g56_j9] at h
   exact VRounds.step (VW.seq (VW.seq (VW.rA (tm 52 [(0, .str text), (4, .i .u32 bits_116), (5, .i .i64 8), (12, .b false)]) [] [] hC (VW.condF (by simp) (VW.exit (vnext bits_116 h (Ent.tu 0)))) (h := by simp -implicitDefEqProofs [(by decide : ltI 8 8 = false), f32of_F]))))
 rintro bits_74 h
 replace h : (g56_j1 bits_74).bind _ = _ := h
 rw [g56_j1] at h
 refine VW.seq (VW.rA (tm 52 [(4, .i .u32 bits_74), (7, .f .f32 (f32of bits_74))]) [] [] hC (VW.seq ?_) (h := by simp -implicitDefEqProofs [f32of_F]))
 obtain ⟨r75, q76, h⟩ := bindE h
 have c76 := tl60 q76
 refine VW.rA (tm 52 [(2, .f .f32 (f32of bits_74)), (3, .b (eqI r75 bits_74))]) [] [] hC ?_ (h := by simp -implicitDefEqProofs [c76, f32of_F])
 obtain rfl := leafS h
 exact VW.ret (VRet.fin (by simp [eB56]))
theorem tl56 {text : ByteArray} {r : F32 × Bool} (h : g56 text = some r) : F56 [.str text] = some (.tup [.f .f32 r.1, .b r.2]) := tells_eq inj56 (a := text) h
noncomputable def g31_j1 (l29 : List F32) : Option ((List F32) × Bool) :=
some (l29, true)
noncomputable def g31_L1 (words : List ByteArray) : (Int × (List F32)) → Option ((Int × (List F32)) ⊕ ((List F32) ⊕ ((List F32) × Bool)))
| (i_48, l49) =>
if ltI i_48 (words.length : Int) = true then
(idx words i_48).bind fun e51 =>
(g56 e51).bind fun r53 =>
if (!r53.2) = true then
some (.inr (.inr ([], false)))
else
(appK 4 l49 [r53.1]).bind fun u56 =>
some (.inl (aI .i64 i_48 1, (l49 ++ [r53.1])))
else
some (.inr (.inl l49))
noncomputable def g31 (words : List ByteArray) : Option ((List F32) × Bool) :=
(loopO (g31_L1 words) (0, [])).bind fun w => match w with
| .inl y => g31_j1 y
| .inr r => some r
def eA31 (a : List ByteArray) : List V := [.sl 1 (rows cs_ a)]
def eB31 (r : (List F32) × Bool) : V := .tup [.own 1 (rows cf_f32 r.1), .b r.2]
theorem inj31 (a a' : List ByteArray) (h : eA31 a = eA31 a') : a = a' := by
  obtain i9 := a
  obtain i10 := a'
  simp only [eA31, List.cons.injEq, V.i.injEq, V.b.injEq, V.f.injEq, V.str.injEq, V.sl.injEq, V.agg.injEq, V.cptr.injEq, true_and, and_true] at h
  simp_all [ri cs__inj]
noncomputable def F31 : List V → Option V := tells (fun a => g31 a) eA31 eB31
/- loop.example/g01229/spec.l01Numbers -/
theorem ok31 : Tells Tryz.prog 31 F31 := by
 refine Tells.go 31 Tryz.func31 rfl rfl rfl (by kernel_rfl) (fun _ => rfl) ?_
 rintro words r h
 simp only [eA31, en, Nat.reduceAdd]
 replace h : (g31 words).bind some = some r := bindS h
 rw [g31] at h
 have hC : CEnv.Ok Tryz.prog [(56, F56)] := ⟨.inl ok56, trivial⟩
 refine VW.seq (VW.rA (tm 31 [(0, .sl 1 (rows cs_ words))]) [] [] hC (VW.seq (VW.rA (tm 31 [(0, .sl 1 (rows cs_ words)), (4, .ref 0 0 0)]) [some (1, rows cf_f32 [])] [] hC (VW.join (fun (v : List F32) => (⟨(tm 31 [(4, .ref 0 0 v.length)]), [some (1, rows cf_f32 v)], []⟩ : VS)) (fun v => (g31_j1 (v)).bind some = some r) ?_ ?_))))
 · refine VW.seq (VW.rA (tm 31 [(0, .sl 1 (rows cs_ words)), (4, .ref 0 0 0), (5, .i .i64 0)]) [some (1, rows cf_f32 [])] [] hC (VW.block ?_))
   obtain ⟨w_1, hw_1, h⟩ := bindE h
   refine VW.loopO (fun (x : Int × (List F32)) => (⟨(tm 31 [(0, .sl 1 (rows cs_ words)), (4, .ref 0 0 x.2.length), (5, .i .i64 x.1)]), [some (1, rows cf_f32 x.2)], []⟩ : VS)) hw_1 (Ent.tu 1) ?_
   rintro n_1 ⟨i_48, l49⟩ h1
   rw [g31_L1] at h1
   refine VW.seq (VW.seq (VW.rA (tm 31 [(0, .sl 1 (rows cs_ words)), (4, .ref 0 0 l49.length), (5, .i .i64 i_48), (12, .b (ltI i_48 (words.length : Int)))]) [some (1, rows cf_f32 l49)] [] hC (VW.condJ h1 (fun h1 => ?_) (fun h1 => ?_))))
   · refine VW.exit ?_
     have e_ := leafR h1
     subst w_1
     exact vnext l49 h (Ent.tu 1)
   refine VW.skip (VW.seq (VW.block (VW.seq ?_)))
   obtain ⟨e51, ⟨f52a, f52b, f52c, f52d⟩, h1⟩ := bindI h1
   obtain ⟨r53, q54, h1⟩ := bindE h1
   have c54 := tl56 q54
   refine VW.rA (tm 31 [(0, .sl 1 (rows cs_ words)), (4, .ref 0 0 l49.length), (5, .i .i64 i_48), (6, .f .f32 r53.1), (7, .b r53.2)]) [some (1, rows cf_f32 l49)] [] hC (VW.seq (VW.seq (VW.rA (tm 31 [(0, .sl 1 (rows cs_ words)), (4, .ref 0 0 l49.length), (5, .i .i64 i_48), (6, .f .f32 r53.1), (24, .b (!r53.2))]) [some (1, rows cf_f32 l49)] [] hC (VW.condI h1 (fun h1 => ?_) (fun h1 => ?_))))) (h := by simp -implicitDefEqProofs [f52a, f52b, f52c, f52d, c54])
   · refine VW.seq (VW.rA (tm 31 [(2, .ref 1 0 0), (3, .b false)]) [some (1, rows cf_f32 l49), some (1, rows cf_f32 [])] [] hC ?_)
     have e_ := leafR h1
     subst w_1
     obtain rfl := leafS h
     exact VW.ret (VRet.fin (by simp [eB31]))
   refine VW.skip ?_
   obtain ⟨u56, ⟨f57a, f57b⟩, h1⟩ := bindP h1
   try simp only [Int.toNat_natCast, Int.reduceToNat, List.length_cons, List.length_nil, Nat.reduceAdd, Nat.zero_add] at f57a f57b
   exact VW.rA (tm 31 [(0, .sl 1 (rows cs_ words)), (4, .ref 0 0 (l49 ++ [r53.1]).length), (5, .i .i64 i_48)]) [some (1, rows cf_f32 (l49 ++ [r53.1])), some (1, rows cf_f32 [r53.1])] [] hC (VW.rA (tm 31 [(0, .sl 1 (rows cs_ words)), (4, .ref 0 0 (l49 ++ [r53.1]).length), (5, .i .i64 (aI .i64 i_48 1))]) [some (1, rows cf_f32 (l49 ++ [r53.1])), some (1, rows cf_f32 [r53.1])] [] hC (vnext (aI .i64 i_48 1, (l49 ++ [r53.1])) (leafL h1) (Ent.tu 1))) (h := by simp -implicitDefEqProofs [f57a, f57b])
 rintro l29 h
 replace h : (g31_j1 l29).bind _ = _ := h
 rw [g31_j1] at h
 refine VW.seq (VW.rA (tm 31 [(2, .ref 0 0 l29.length), (3, .b true)]) [some (1, rows cf_f32 l29)] [] hC ?_)
 obtain rfl := leafS h
 exact VW.ret (VRet.fin (by simp [eB31]))
theorem tl31 {words : List ByteArray} {r : (List F32) × Bool} (h : g31 words = some r) : F31 [.sl 1 (rows cs_ words)] = some (.tup [.own 1 (rows cf_f32 r.1), .b r.2]) := tells_eq inj31 (a := words) h
noncomputable def g57_j1 (n_45 : Int) : Option (Int × Bool) :=
some (n_45, true)
noncomputable def g57_L1 (s : ByteArray) : (Int × Int) → Option ((Int × Int) ⊕ ((Int) ⊕ (Int × Bool)))
| (n_72, i_73) =>
if ltI i_73 (s.size : Int) = true then
(idxS s i_73).bind fun e75 =>
(if ltI e75 48 = true then some true else (idxS s i_73).bind fun e77 => some (ltI 57 e77)).bind fun w79 =>
if w79 = true then
some (.inr (.inr (0, false)))
else
(idxS s i_73).bind fun e81 =>
some (.inl (aI .i64 (mI .i64 n_72 10) (cI .i64 (sI .u8 e81 48)), aI .i64 i_73 1))
else
some (.inr (.inl n_72))
noncomputable def g57 (s : ByteArray) : Option (Int × Bool) :=
(if (ltI (s.size : Int) 1 || ltI 9 (s.size : Int)) = true then some true else (idxS s 0).bind fun e1 => some (eqI e1 48 && ltI 1 (s.size : Int))).bind fun w3 =>
if w3 = true then
some (0, false)
else
(loopO (g57_L1 s) (0, 0)).bind fun w => match w with
| .inl y => g57_j1 y
| .inr r => some r
def eA57 (a : ByteArray) : List V := [.str a]
def eB57 (r : Int × Bool) : V := .tup [.i .i64 r.1, .b r.2]
theorem inj57 (a a' : ByteArray) (h : eA57 a = eA57 a') : a = a' := by
  obtain i11 := a
  obtain i12 := a'
  simp only [eA57, List.cons.injEq, V.i.injEq, V.b.injEq, V.f.injEq, V.str.injEq, V.sl.injEq, V.agg.injEq, V.cptr.injEq, true_and, and_true] at h
  simp_all
noncomputable def F57 : List V → Option V := tells (fun a => g57 a) eA57 eB57
/- loop.example/g01229/spec.l01Number -/
theorem ok57 : Tells Tryz.prog 57 F57 := by
 refine Tells.go 49 Tryz.func57 rfl rfl rfl (by kernel_rfl) (fun _ => rfl) ?_
 rintro s r h
 simp only [eA57, en, Nat.reduceAdd]
 replace h : (g57 s).bind some = some r := bindS h
 rw [g57] at h
 have hC : CEnv.Ok Tryz.prog [] := trivial
 refine VW.seq (VW.rA (tm 49 [(0, .str s)]) [] [] hC (VW.seq (VW.seq ?_)))
 obtain ⟨w3, q86, h⟩ := bindE h
 refine VW.evalA (tm 49 [(0, .str s), (23, .b w3)]) [] [] hC (by kernel_rfl) (by
     obtain ⟨q87, q86⟩ | ⟨q87, rfl⟩ := gdF q86
     · obtain ⟨e1, q2, q86⟩ := bindQ q86
       obtain ⟨f2a, c2, f2b, f2c, f2d⟩ := idxS_some2 q2
       simp only [Int.reduceToNat] at f2b f2d
       obtain rfl := Option.some.inj q86
       simp -implicitDefEqProofs [q87, f2a, f2b, f2c, f2d]
     simp -implicitDefEqProofs [q87]) ?_
 refine VW.condI h (fun h => ?_) (fun h => ?_)
 · refine VW.seq (VW.rA (tm 49 [(2, .i .i64 0), (3, .b false)]) [] [] hC ?_)
   obtain rfl := leafS h
   exact VW.ret (VRet.fin (by simp [eB57]))
 refine VW.skip (VW.seq (VW.rA (tm 49 [(0, .str s), (4, .i .i64 0)]) [] [] hC (VW.join (fun (v : Int) => (⟨(tm 49 [(4, .i .i64 v)]), [], []⟩ : VS)) (fun v => (g57_j1 (v)).bind some = some r) ?_ ?_)))
 · refine VW.seq (VW.rA (tm 49 [(0, .str s), (4, .i .i64 0), (5, .i .i64 0)]) [] [] hC (VW.block ?_))
   obtain ⟨w_1, hw_1, h⟩ := bindE h
   refine VW.loopO (fun (x : Int × Int) => (⟨(tm 49 [(0, .str s), (4, .i .i64 x.1), (5, .i .i64 x.2)]), [], []⟩ : VS)) hw_1 (Ent.tu 0) ?_
   rintro n_1 ⟨n_72, i_73⟩ h1
   rw [g57_L1] at h1
   refine VW.seq (VW.seq (VW.rA (tm 49 [(0, .str s), (4, .i .i64 n_72), (5, .i .i64 i_73), (27, .b (ltI i_73 (s.size : Int)))]) [] [] hC (VW.condJ h1 (fun h1 => ?_) (fun h1 => ?_))))
   · refine VW.exit ?_
     have e_ := leafR h1
     subst w_1
     exact vnext n_72 h (Ent.tu 0)
   refine VW.skip (VW.seq (VW.block (VW.seq (VW.seq ?_))))
   obtain ⟨e75, q76, h1⟩ := bindE h1
   obtain ⟨f76a, c76, f76b, f76c, f76d⟩ := idxS_some2 q76
   obtain ⟨w79, q83, h1⟩ := bindE h1
   refine VW.evalA (tm 49 [(0, .str s), (4, .i .i64 n_72), (5, .i .i64 i_73), (39, .b w79)]) [] [] hC (by kernel_rfl) (by
       obtain ⟨q84, q83⟩ | ⟨q84, rfl⟩ := gdF q83
       · obtain ⟨e77, q78, q83⟩ := bindQ q83
         have d85 : e77 = e75 := Option.some.inj (q78.symm.trans q76)
         obtain rfl := Option.some.inj q83
         simp -implicitDefEqProofs [f76a, f76b, f76c, f76d, q84, d85]
       simp -implicitDefEqProofs [f76a, f76b, f76c, f76d, q84]) ?_
   refine VW.condI h1 (fun h1 => ?_) (fun h1 => ?_)
   · refine VW.seq (VW.rA (tm 49 [(2, .i .i64 0), (3, .b false)]) [] [] hC ?_)
     have e_ := leafR h1
     subst w_1
     obtain rfl := leafS h
     exact VW.ret (VRet.fin (by simp [eB57]))
   refine VW.skip ?_
   obtain ⟨e81, ⟨f82a, c82, f82b, f82c, f82d⟩, h1⟩ := bindIS h1
   exact VW.rA (tm 49 [(0, .str s), (4, .i .i64 (aI .i64 (mI .i64 n_72 10) (cI .i64 (sI .u8 e81 48)))), (5, .i .i64 i_73)]) [] [] hC (VW.rA (tm 49 [(0, .str s), (4, .i .i64 (aI .i64 (mI .i64 n_72 10) (cI .i64 (sI .u8 e81 48)))), (5, .i .i64 (aI .i64 i_73 1))]) [] [] hC (vnext (aI .i64 (mI .i64 n_72 10) (cI .i64 (sI .u8 e81 48)), aI .i64 i_73 1) (leafL h1) (Ent.tu 0))) (h := by simp -implicitDefEqProofs [f82a, f82b, f82c, f82d])
 rintro n_45 h
 replace h : (g57_j1 n_45).bind _ = _ := h
 rw [g57_j1] at h
 refine VW.seq (VW.rA (tm 49 [(2, .i .i64 n_45), (3, .b true)]) [] [] hC ?_)
 obtain rfl := leafS h
 exact VW.ret (VRet.fin (by simp [eB57]))
theorem tl57 {s : ByteArray} {r : Int × Bool} (h : g57 s = some r) : F57 [.str s] = some (.tup [.i .i64 r.1, .b r.2]) := tells_eq inj57 (a := s) h
noncomputable def g32 (text : ByteArray) : Option (Int × Bool) :=
if eqS text (⟨#[45]⟩ : ByteArray) = true then
some ((-1), true)
else
(g57 text).bind fun r2 =>
some (r2.1, r2.2)
def eA32 (a : ByteArray) : List V := [.str a]
def eB32 (r : Int × Bool) : V := .tup [.i .i64 r.1, .b r.2]
theorem inj32 (a a' : ByteArray) (h : eA32 a = eA32 a') : a = a' := by
  obtain i13 := a
  obtain i14 := a'
  simp only [eA32, List.cons.injEq, V.i.injEq, V.b.injEq, V.f.injEq, V.str.injEq, V.sl.injEq, V.agg.injEq, V.cptr.injEq, true_and, and_true] at h
  simp_all
noncomputable def F32c : List V → Option V := tells (fun a => g32 a) eA32 eB32
/- loop.example/g01229/spec.l04ReadSide -/
theorem ok32 : Tells Tryz.prog 32 F32c := by
 refine Tells.go 10 Tryz.func32 rfl rfl rfl (by kernel_rfl) (fun _ => rfl) ?_
 rintro text r h
 simp only [eA32, en, Nat.reduceAdd]
 replace h : (g32 text).bind some = some r := bindS h
 rw [g32] at h
 have hC : CEnv.Ok Tryz.prog [(57, F57)] := ⟨.inl ok57, trivial⟩
 refine VW.seq (VW.rA (tm 10 [(0, .str text)]) [] [] hC (VW.seq (VW.seq (VW.rA (tm 10 [(0, .str text), (5, .b (eqS text (⟨#[45]⟩ : ByteArray)))]) [] [] hC (VW.condI h (fun h => ?_) (fun h => ?_))))))
 · refine VW.seq (VW.rA (tm 10 [(2, .i .i64 (-1)), (3, .b true)]) [] [] hC ?_)
   obtain rfl := leafS h
   exact VW.ret (VRet.fin (by simp [eB32]))
 refine VW.skip (VW.seq ?_)
 obtain ⟨r2, q3, h⟩ := bindE h
 have c3 := tl57 q3
 refine VW.rA (tm 10 [(2, .i .i64 r2.1), (3, .b r2.2)]) [] [] hC ?_ (h := by simp -implicitDefEqProofs [c3])
 obtain rfl := leafS h
 exact VW.ret (VRet.fin (by simp [eB32]))
theorem tl32 {text : ByteArray} {r : Int × Bool} (h : g32 text = some r) : F32c [.str text] = some (.tup [.i .i64 r.1, .b r.2]) := tells_eq inj32 (a := text) h
noncomputable def g33 (n : Int) (low : Int) (high : Int) : Option (Bool) :=
some (leI low n && leI n high)
def eA33 (a : Int × Int × Int) : List V := [.i .i64 a.1, .i .i64 a.2.1, .i .i64 a.2.2]
def eB33 (r : Bool) : V := .b r
theorem inj33 (a a' : Int × Int × Int) (h : eA33 a = eA33 a') : a = a' := by
  obtain ⟨i39, i40, i41⟩ := a
  obtain ⟨i42, i43, i44⟩ := a'
  simp only [eA33, List.cons.injEq, V.i.injEq, V.b.injEq, V.f.injEq, V.str.injEq, V.sl.injEq, V.agg.injEq, V.cptr.injEq, true_and, and_true] at h
  simp_all
noncomputable def F33 : List V → Option V := tells (fun a => g33 a.1 a.2.1 a.2.2) eA33 eB33
/- loop.example/g01229/spec.l00In -/
theorem ok33 : Tells Tryz.prog 33 F33 := by
 refine Tells.go 15 Tryz.func33 rfl rfl rfl (by kernel_rfl) (fun _ => rfl) ?_
 rintro ⟨n, low, high⟩ r h
 simp only [eA33, en, Nat.reduceAdd]
 replace h : (g33 n low high).bind some = some r := bindS h
 rw [g33] at h
 have hC : CEnv.Ok Tryz.prog [] := trivial
 refine VW.seq (VW.rA (tm 15 [(0, .i .i64 n), (1, .i .i64 low), (2, .i .i64 high)]) [] [] hC (VW.seq (VW.rA (tm 15 [(6, .b (leI low n && leI n high))]) [] [] hC ?_)))
 obtain rfl := leafS h
 exact VW.ret (VRet.fin (by simp [eB33]))
theorem tl33 {n : Int} {low : Int} {high : Int} {r : Bool} (h : g33 n low high = some r) : F33 [.i .i64 n, .i .i64 low, .i .i64 high] = some (.b r) := tells_eq inj33 (a := (n, low, high)) h
noncomputable def g34 (a : F32) : Option (Bool) :=
some (geF .f32 a (some 3262119936) && leF .f32 a (some 1128792064))
def eA34 (a : F32) : List V := [.f .f32 a]
def eB34 (r : Bool) : V := .b r
theorem inj34 (a a' : F32) (h : eA34 a = eA34 a') : a = a' := by
  obtain i45 := a
  obtain i46 := a'
  simp only [eA34, List.cons.injEq, V.i.injEq, V.b.injEq, V.f.injEq, V.str.injEq, V.sl.injEq, V.agg.injEq, V.cptr.injEq, true_and, and_true] at h
  simp_all
noncomputable def F34 : List V → Option V := tells (fun a => g34 a) eA34 eB34
/- loop.example/g01229/spec.l04Heat -/
theorem ok34 : Tells Tryz.prog 34 F34 := by
 refine Tells.go 9 Tryz.func34 rfl rfl rfl (by kernel_rfl) (fun _ => rfl) ?_
 rintro a r h
 simp only [eA34, en, Nat.reduceAdd]
 replace h : (g34 a).bind some = some r := bindS h
 rw [g34] at h
 have hC : CEnv.Ok Tryz.prog [] := trivial
 refine VW.seq (VW.rA (tm 9 [(0, .f .f32 a)]) [] [] hC (VW.seq (VW.rA (tm 9 [(2, .b (geF .f32 a (some 3262119936) && leF .f32 a (some 1128792064)))]) [] [] hC ?_)))
 obtain rfl := leafS h
 exact VW.ret (VRet.fin (by simp [eB34]))
theorem tl34 {a : F32} {r : Bool} (h : g34 a = some r) : F34 [.f .f32 a] = some (.b r) := tells_eq inj34 (a := a) h
noncomputable def g75 (a : F32) : Option (Bool) :=
some (eqF .f32 (subF .f32 a a) (some 0))
def eA75 (a : F32) : List V := [.f .f32 a]
def eB75 (r : Bool) : V := .b r
theorem inj75 (a a' : F32) (h : eA75 a = eA75 a') : a = a' := by
  obtain i47 := a
  obtain i48 := a'
  simp only [eA75, List.cons.injEq, V.i.injEq, V.b.injEq, V.f.injEq, V.str.injEq, V.sl.injEq, V.agg.injEq, V.cptr.injEq, true_and, and_true] at h
  simp_all
noncomputable def F75 : List V → Option V := tells (fun a => g75 a) eA75 eB75
/- loop.example/g01229/spec.l01Finite -/
theorem ok75 : Tells Tryz.prog 75 F75 := by
 refine Tells.go 7 Tryz.func75 rfl rfl rfl (by kernel_rfl) (fun _ => rfl) ?_
 rintro a r h
 simp only [eA75, en, Nat.reduceAdd]
 replace h : (g75 a).bind some = some r := bindS h
 rw [g75] at h
 have hC : CEnv.Ok Tryz.prog [] := trivial
 refine VW.seq (VW.rA (tm 7 [(0, .f .f32 a)]) [] [] hC (VW.seq (VW.rA (tm 7 [(2, .b (eqF .f32 (subF .f32 a a) (some 0)))]) [] [] hC ?_)))
 obtain rfl := leafS h
 exact VW.ret (VRet.fin (by simp [eB75]))
theorem tl75 {a : F32} {r : Bool} (h : g75 a = some r) : F75 [.f .f32 a] = some (.b r) := tells_eq inj75 (a := a) h
noncomputable def g58 (a : F32) : Option (Bool) :=
(g75 a).bind fun r1 =>
(if r1 = true then (if gtF .f32 a (some 0) = true then some true else (f32bits a).bind fun z3 => some (eqI z3 0)).bind fun w5 => some w5 else some false).bind fun w6 =>
some w6
def eA58 (a : F32) : List V := [.f .f32 a]
def eB58 (r : Bool) : V := .b r
theorem inj58 (a a' : F32) (h : eA58 a = eA58 a') : a = a' := by
  obtain i49 := a
  obtain i50 := a'
  simp only [eA58, List.cons.injEq, V.i.injEq, V.b.injEq, V.f.injEq, V.str.injEq, V.sl.injEq, V.agg.injEq, V.cptr.injEq, true_and, and_true] at h
  simp_all
noncomputable def F58 : List V → Option V := tells (fun a => g58 a) eA58 eB58
/- loop.example/g01229/spec.l01Amount -/
theorem ok58 : Tells Tryz.prog 58 F58 := by
 refine Tells.go 14 Tryz.func58 rfl rfl rfl (by kernel_rfl) (fun _ => rfl) ?_
 rintro a r h
 simp only [eA58, en, Nat.reduceAdd]
 replace h : (g58 a).bind some = some r := bindS h
 rw [g58] at h
 have hC : CEnv.Ok Tryz.prog [(68, FXbits32), (75, F75)] := ⟨.inr okx68, .inl ok75, trivial⟩
 refine VW.seq (VW.rA (tm 14 [(0, .f .f32 a)]) [] [] hC (VW.seq ?_))
 obtain ⟨r1, q2, h⟩ := bindE h
 have c2 := tl75 q2
 obtain ⟨w6, q7, h⟩ := bindE h
 refine VW.evalA (tm 14 [(2, .b w6)]) [] [] hC (by kernel_rfl) (by
     obtain ⟨q8, q7⟩ | ⟨q8, rfl⟩ := gdT q7
     · obtain ⟨w5, q9, q7⟩ := bindQ q7
       obtain rfl := Option.some.inj q7
       obtain ⟨q10, q9⟩ | ⟨q10, rfl⟩ := gdF q9
       · obtain ⟨z3, q4, q9⟩ := bindQ q9
         have c4 := f32bits_F q4
         obtain rfl := Option.some.inj q9
         simp -implicitDefEqProofs [c2, q8, q10, c4]
       simp -implicitDefEqProofs [c2, q8, q10]
     simp -implicitDefEqProofs [c2, q8]) ?_
 obtain rfl := leafS h
 exact VW.ret (VRet.fin (by simp [eB58]))
theorem tl58 {a : F32} {r : Bool} (h : g58 a = some r) : F58 [.f .f32 a] = some (.b r) := tells_eq inj58 (a := a) h
noncomputable def g35 (a : F32) : Option (Bool) :=
(g58 a).bind fun r1 =>
some ((r1 && geF .f32 a (some 1065353216)) && leF .f32 a (some 1176256512))
def eA35 (a : F32) : List V := [.f .f32 a]
def eB35 (r : Bool) : V := .b r
theorem inj35 (a a' : F32) (h : eA35 a = eA35 a') : a = a' := by
  obtain i51 := a
  obtain i52 := a'
  simp only [eA35, List.cons.injEq, V.i.injEq, V.b.injEq, V.f.injEq, V.str.injEq, V.sl.injEq, V.agg.injEq, V.cptr.injEq, true_and, and_true] at h
  simp_all
noncomputable def F35 : List V → Option V := tells (fun a => g35 a) eA35 eB35
/- loop.example/g01229/spec.l04Store -/
theorem ok35 : Tells Tryz.prog 35 F35 := by
 refine Tells.go 13 Tryz.func35 rfl rfl rfl (by kernel_rfl) (fun _ => rfl) ?_
 rintro a r h
 simp only [eA35, en, Nat.reduceAdd]
 replace h : (g35 a).bind some = some r := bindS h
 rw [g35] at h
 have hC : CEnv.Ok Tryz.prog [(58, F58)] := ⟨.inl ok58, trivial⟩
 refine VW.seq (VW.rA (tm 13 [(0, .f .f32 a)]) [] [] hC (VW.seq ?_))
 obtain ⟨r1, q2, h⟩ := bindE h
 have c2 := tl58 q2
 refine VW.rA (tm 13 [(2, .b ((r1 && geF .f32 a (some 1065353216)) && leF .f32 a (some 1176256512)))]) [] [] hC ?_ (h := by simp -implicitDefEqProofs [c2])
 obtain rfl := leafS h
 exact VW.ret (VRet.fin (by simp [eB35]))
theorem tl35 {a : F32} {r : Bool} (h : g35 a = some r) : F35 [.f .f32 a] = some (.b r) := tells_eq inj35 (a := a) h
noncomputable def g59 (a : Int) (b : Int) (rooms : Int) : Option (Bool) :=
(g33 a 0 (sI .i64 rooms 1)).bind fun r1 =>
(if r1 = true then (g33 b (-1) (sI .i64 rooms 1)).bind fun r3 => some r3 else some false).bind fun w5 =>
some (w5 && (!eqI a b))
def eA59 (a : Int × Int × Int) : List V := [.i .i64 a.1, .i .i64 a.2.1, .i .i64 a.2.2]
def eB59 (r : Bool) : V := .b r
theorem inj59 (a a' : Int × Int × Int) (h : eA59 a = eA59 a') : a = a' := by
  obtain ⟨i53, i54, i55⟩ := a
  obtain ⟨i56, i57, i58⟩ := a'
  simp only [eA59, List.cons.injEq, V.i.injEq, V.b.injEq, V.f.injEq, V.str.injEq, V.sl.injEq, V.agg.injEq, V.cptr.injEq, true_and, and_true] at h
  simp_all
noncomputable def F59 : List V → Option V := tells (fun a => g59 a.1 a.2.1 a.2.2) eA59 eB59
/- loop.example/g01229/spec.l04Sides -/
theorem ok59 : Tells Tryz.prog 59 F59 := by
 refine Tells.go 22 Tryz.func59 rfl rfl rfl (by kernel_rfl) (fun _ => rfl) ?_
 rintro ⟨a, b, rooms⟩ r h
 simp only [eA59, en, Nat.reduceAdd]
 replace h : (g59 a b rooms).bind some = some r := bindS h
 rw [g59] at h
 have hC : CEnv.Ok Tryz.prog [(33, F33)] := ⟨.inl ok33, trivial⟩
 refine VW.seq (VW.rA (tm 22 [(0, .i .i64 a), (1, .i .i64 b), (2, .i .i64 rooms)]) [] [] hC (VW.seq ?_))
 obtain ⟨r1, q2, h⟩ := bindE h
 have c2 := tl33 q2
 obtain ⟨w5, q6, h⟩ := bindE h
 refine VW.evalA (tm 22 [(6, .b (w5 && (!eqI a b)))]) [] [] hC (by kernel_rfl) (by
     obtain ⟨q7, q6⟩ | ⟨q7, rfl⟩ := gdT q6
     · obtain ⟨r3, q4, q6⟩ := bindQ q6
       have c4 := tl33 q4
       obtain rfl := Option.some.inj q6
       simp -implicitDefEqProofs [c2, q7, c4]
     simp -implicitDefEqProofs [c2, q7]) ?_
 obtain rfl := leafS h
 exact VW.ret (VRet.fin (by simp [eB59]))
theorem tl59 {a : Int} {b : Int} {rooms : Int} {r : Bool} (h : g59 a b rooms = some r) : F59 [.i .i64 a, .i .i64 b, .i .i64 rooms] = some (.b r) := tells_eq inj59 (a := (a, b, rooms)) h
noncomputable def g36_j1 (w_ : T47) (rooms : Int) : Option (Bool) :=
(g59 w_.a_ w_.b_ rooms).bind fun r13 =>
(if r13 = true then (g58 w_.lead_).bind fun r15 => some r15 else some false).bind fun w17 =>
(if ((w17 && geF .f32 w_.lead_ (some 1015021568)) && leF .f32 w_.lead_ (some 1120403456)) = true then (g35 w_.store_).bind fun r18 => some r18 else some false).bind fun w20 =>
some w20
noncomputable def g36 (w_ : T47) (rooms : Int) : Option (Bool) :=
(g34 w_.heat_.a0_).bind fun r26 =>
if (!r26) = true then
some false
else
(g34 w_.heat_.a1_).bind fun r29 =>
if (!r29) = true then
some false
else
(g34 w_.heat_.a2_).bind fun r32 =>
if (!r32) = true then
some false
else
(g34 w_.heat_.a3_).bind fun r35 =>
if (!r35) = true then
some false
else
g36_j1 w_ rooms
def eA36 (a : T47 × Int) : List V := [.cptr (pT47 a.1) 0, .i .i64 a.2]
def eB36 (r : Bool) : V := .b r
theorem inj36 (a a' : T47 × Int) (h : eA36 a = eA36 a') : a = a' := by
  obtain ⟨⟨i59, i60, i61, i62, ⟨i63, i64, i65, i66⟩⟩, i67⟩ := a
  obtain ⟨⟨i68, i69, i70, i71, ⟨i72, i73, i74, i75⟩⟩, i76⟩ := a'
  simp only [eA36, pT47, List.cons.injEq, V.i.injEq, V.b.injEq, V.f.injEq, V.str.injEq, V.sl.injEq, V.agg.injEq, V.cptr.injEq, true_and, and_true] at h
  simp_all
noncomputable def F36 : List V → Option V := tells (fun a => g36 a.1 a.2) eA36 eB36
/- loop.example/g01229/spec.l04Wall -/
theorem ok36 : Tells Tryz.prog 36 F36 := by
 refine Tells.go 56 Tryz.func36 rfl rfl rfl (by kernel_rfl) (fun _ => rfl) ?_
 rintro ⟨w_, rooms⟩ r h
 simp only [eA36, en, Nat.reduceAdd]
 replace h : (g36 w_ rooms).bind some = some r := bindS h
 rw [g36] at h
 have hC : CEnv.Ok Tryz.prog [(34, F34), (35, F35), (58, F58), (59, F59)] := ⟨.inl ok34, .inl ok35, .inl ok58, .inl ok59, trivial⟩
 refine VW.seq (VW.rA (tm 56 [(0, .cptr (pT47 w_) 0), (1, .i .i64 rooms)]) [] [] hC (VW.join (fun (v : Unit) => (⟨(tm 56 [(0, .cptr (pT47 w_) 0), (1, .i .i64 rooms)]), [], []⟩ : VS)) (fun v => (g36_j1 w_ rooms).bind some = some r) ?_ ?_))
 · refine VW.seq (VW.rA (tm 56 [(0, .cptr (pT47 w_) 0), (1, .i .i64 rooms), (5, .i .i64 0)]) [] [] hC (VW.block (VW.rounds 6 (VRounds.step (VW.seq (VW.seq (VW.rA (tm 56 [(0, .cptr (pT47 w_) 0), (1, .i .i64 rooms), (5, .i .i64 0), (7, .b true)]) [] [] hC (VW.condT (by simp) (VW.skip (VW.seq (VW.block (VW.seq ?_))))) (h := by simp -implicitDefEqProofs [(by decide : ltI 0 4 = true)]))))))))
   obtain ⟨r26, q27, h⟩ := bindE h
   have c27 := tl34 q27
   refine VW.rA (tm 56 [(0, .cptr (pT47 w_) 0), (1, .i .i64 rooms), (5, .i .i64 0), (17, .b (!r26))]) [] [] hC (VW.condI h (fun h => ?_) (fun h => ?_)) (h := by simp -implicitDefEqProofs [c27])
   · refine VW.seq (VW.rA (tm 56 [(4, .b false)]) [] [] hC ?_)
     obtain rfl := leafS h
     exact VW.ret (VRet.fin (by simp [eB36]))
   refine VW.skip (VW.rA (tm 56 [(0, .cptr (pT47 w_) 0), (1, .i .i64 rooms), (5, .i .i64 1)]) [] [] hC (VRounds.step (VW.seq (VW.seq (VW.rA (tm 56 [(0, .cptr (pT47 w_) 0), (1, .i .i64 rooms), (5, .i .i64 1), (7, .b true)]) [] [] hC (VW.condT (by simp) (VW.skip (VW.seq (VW.block (VW.seq ?_))))) (h := by simp -implicitDefEqProofs [(by decide : ltI 1 4 = true)]))))) (h := by simp -implicitDefEqProofs [(by decide : aI .i64 0 1 = 1)]))
   obtain ⟨r29, q30, h⟩ := bindE h
   have c30 := tl34 q30
   refine VW.rA (tm 56 [(0, .cptr (pT47 w_) 0), (1, .i .i64 rooms), (5, .i .i64 1), (17, .b (!r29))]) [] [] hC (VW.condI h (fun h => ?_) (fun h => ?_)) (h := by simp -implicitDefEqProofs [c30])
   · refine VW.seq (VW.rA (tm 56 [(4, .b false)]) [] [] hC ?_)
     obtain rfl := leafS h
     exact VW.ret (VRet.fin (by simp [eB36]))
   refine VW.skip (VW.rA (tm 56 [(0, .cptr (pT47 w_) 0), (1, .i .i64 rooms), (5, .i .i64 2)]) [] [] hC (VRounds.step (VW.seq (VW.seq (VW.rA (tm 56 [(0, .cptr (pT47 w_) 0), (1, .i .i64 rooms), (5, .i .i64 2), (7, .b true)]) [] [] hC (VW.condT (by simp) (VW.skip (VW.seq (VW.block (VW.seq ?_))))) (h := by simp -implicitDefEqProofs [(by decide : ltI 2 4 = true)]))))) (h := by simp -implicitDefEqProofs [(by decide : aI .i64 1 1 = 2)]))
   obtain ⟨r32, q33, h⟩ := bindE h
   have c33 := tl34 q33
   refine VW.rA (tm 56 [(0, .cptr (pT47 w_) 0), (1, .i .i64 rooms), (5, .i .i64 2), (17, .b (!r32))]) [] [] hC (VW.condI h (fun h => ?_) (fun h => ?_)) (h := by simp -implicitDefEqProofs [c33])
   · refine VW.seq (VW.rA (tm 56 [(4, .b false)]) [] [] hC ?_)
     obtain rfl := leafS h
     exact VW.ret (VRet.fin (by simp [eB36]))
   refine VW.skip (VW.rA (tm 56 [(0, .cptr (pT47 w_) 0), (1, .i .i64 rooms), (5, .i .i64 3)]) [] [] hC (VRounds.step (VW.seq (VW.seq (VW.rA (tm 56 [(0, .cptr (pT47 w_) 0), (1, .i .i64 rooms), (5, .i .i64 3), (7, .b true)]) [] [] hC (VW.condT (by simp) (VW.skip (VW.seq (VW.block (VW.seq ?_))))) (h := by simp -implicitDefEqProofs [(by decide : ltI 3 4 = true)]))))) (h := by simp -implicitDefEqProofs [(by decide : aI .i64 2 1 = 3)]))
   obtain ⟨r35, q36, h⟩ := bindE h
   have c36 := tl34 q36
   refine VW.rA (tm 56 [(0, .cptr (pT47 w_) 0), (1, .i .i64 rooms), (5, .i .i64 3), (17, .b (!r35))]) [] [] hC (VW.condI h (fun h => ?_) (fun h => ?_)) (h := by simp -implicitDefEqProofs [c36])
   · refine VW.seq (VW.rA (tm 56 [(4, .b false)]) [] [] hC ?_)
     obtain rfl := leafS h
     exact VW.ret (VRet.fin (by simp [eB36]))
   exact VW.skip (VW.rA (tm 56 [(0, .cptr (pT47 w_) 0), (1, .i .i64 rooms), (5, .i .i64 4)]) [] [] hC (VRounds.step (VW.seq (VW.seq (VW.rA (tm 56 [(0, .cptr (pT47 w_) 0), (1, .i .i64 rooms), (5, .i .i64 4), (7, .b false)]) [] [] hC (VW.condF (by simp) (VW.exit (vnext () h (Ent.tu 0)))) (h := by simp -implicitDefEqProofs [(by decide : ltI 4 4 = false)]))))) (h := by simp -implicitDefEqProofs [(by decide : aI .i64 3 1 = 4)]))
 rintro _ h
 replace h : (g36_j1 w_ rooms).bind _ = _ := h
 rw [g36_j1] at h
 refine VW.seq ?_
 obtain ⟨r13, q14, h⟩ := bindE h
 have c14 := tl59 q14
 obtain ⟨w17, q21, h⟩ := bindE h
 obtain ⟨w20, q22, h⟩ := bindE h
 refine VW.evalDA (tm 56 [(4, .b w20)]) [] [] hC mixed (by kernel_rfl) (by
     obtain ⟨q23, q21⟩ | ⟨q23, rfl⟩ := gdT q21
     · obtain ⟨r15, q16, q21⟩ := bindQ q21
       have c16 := tl58 q16
       obtain rfl := Option.some.inj q21
       obtain ⟨q24, q22⟩ | ⟨q24, rfl⟩ := gdT q22
       · obtain ⟨r18, q19, q22⟩ := bindQ q22
         have c19 := tl35 q19
         obtain rfl := Option.some.inj q22
         simp -implicitDefEqProofs [c14, q23, c16, q24, c19, pT47]
       simp -implicitDefEqProofs [c14, q23, c16, q24, pT47]
     obtain ⟨q25, q22⟩ | ⟨q25, rfl⟩ := gdT q22
     · first
         | (simp at q25; done)
         | (obtain ⟨r18, q19, q22⟩ := bindQ q22
            have c19 := tl35 q19
            obtain rfl := Option.some.inj q22
            simp -implicitDefEqProofs [c14, q23, q25, c19, pT47])
     first
       | (simp at q25; done)
       | (simp -implicitDefEqProofs [c14, q23, q25, pT47])) ?_
 obtain rfl := leafS h
 exact VW.ret (VRet.fin (by simp [eB36]))
theorem tl36 {w_ : T47} {rooms : Int} {r : Bool} (h : g36 w_ rooms = some r) : F36 [.cptr [.i .i64 w_.a_, .i .i64 w_.b_, .f .f32 w_.lead_, .f .f32 w_.store_, .f .f32 w_.heat_.a0_, .f .f32 w_.heat_.a1_, .f .f32 w_.heat_.a2_, .f .f32 w_.heat_.a3_] 0, .i .i64 rooms] = some (.b r) := tells_eq inj36 (a := (w_, rooms)) h
noncomputable def g37 (p : T49) (rooms : Int) : Option (Bool) :=
(g59 p.a_ p.b_ rooms).bind fun r1 =>
(if r1 = true then (g58 p.lead_).bind fun r3 => some r3 else some false).bind fun w5 =>
(if (w5 && leF .f32 p.lead_ (some 1120403456)) = true then (g58 p.sun_).bind fun r6 => some r6 else some false).bind fun w8 =>
some (w8 && leF .f32 p.sun_ (some 1092616192))
def eA37 (a : T49 × Int) : List V := [.cptr (pT49 a.1) 0, .i .i64 a.2]
def eB37 (r : Bool) : V := .b r
theorem inj37 (a a' : T49 × Int) (h : eA37 a = eA37 a') : a = a' := by
  obtain ⟨⟨i77, i78, i79, i80⟩, i81⟩ := a
  obtain ⟨⟨i82, i83, i84, i85⟩, i86⟩ := a'
  simp only [eA37, pT49, List.cons.injEq, V.i.injEq, V.b.injEq, V.f.injEq, V.str.injEq, V.sl.injEq, V.agg.injEq, V.cptr.injEq, true_and, and_true] at h
  simp_all
noncomputable def F37 : List V → Option V := tells (fun a => g37 a.1 a.2) eA37 eB37
/- loop.example/g01229/spec.l04Pane -/
theorem ok37 : Tells Tryz.prog 37 F37 := by
 refine Tells.go 43 Tryz.func37 rfl rfl rfl (by kernel_rfl) (fun _ => rfl) ?_
 rintro ⟨p, rooms⟩ r h
 simp only [eA37, en, Nat.reduceAdd]
 replace h : (g37 p rooms).bind some = some r := bindS h
 rw [g37] at h
 have hC : CEnv.Ok Tryz.prog [(58, F58), (59, F59)] := ⟨.inl ok58, .inl ok59, trivial⟩
 refine VW.seq (VW.rA (tm 43 [(0, .cptr (pT49 p) 0), (1, .i .i64 rooms)]) [] [] hC (VW.seq ?_))
 obtain ⟨r1, q2, h⟩ := bindE h
 have c2 := tl59 q2
 obtain ⟨w5, q9, h⟩ := bindE h
 obtain ⟨w8, q10, h⟩ := bindE h
 refine VW.evalDA (tm 43 [(4, .b (w8 && leF .f32 p.sun_ (some 1092616192)))]) [] [] hC mixed (by kernel_rfl) (by
     obtain ⟨q11, q9⟩ | ⟨q11, rfl⟩ := gdT q9
     · obtain ⟨r3, q4, q9⟩ := bindQ q9
       have c4 := tl58 q4
       obtain rfl := Option.some.inj q9
       obtain ⟨q12, q10⟩ | ⟨q12, rfl⟩ := gdT q10
       · obtain ⟨r6, q7, q10⟩ := bindQ q10
         have c7 := tl58 q7
         obtain rfl := Option.some.inj q10
         simp -implicitDefEqProofs [c2, q11, c4, q12, c7, pT49]
       simp -implicitDefEqProofs [c2, q11, c4, q12, pT49]
     obtain ⟨q13, q10⟩ | ⟨q13, rfl⟩ := gdT q10
     · first
         | (simp at q13; done)
         | (obtain ⟨r6, q7, q10⟩ := bindQ q10
            have c7 := tl58 q7
            obtain rfl := Option.some.inj q10
            simp -implicitDefEqProofs [c2, q11, q13, c7, pT49])
     first
       | (simp at q13; done)
       | (simp -implicitDefEqProofs [c2, q11, q13, pT49])) ?_
 obtain rfl := leafS h
 exact VW.ret (VRet.fin (by simp [eB37]))
theorem tl37 {p : T49} {rooms : Int} {r : Bool} (h : g37 p rooms = some r) : F37 [.cptr [.i .i64 p.a_, .i .i64 p.b_, .f .f32 p.lead_, .f .f32 p.sun_] 0, .i .i64 rooms] = some (.b r) := tells_eq inj37 (a := (p, rooms)) h
noncomputable def g11_j3 : Option (Bool) :=
some true
noncomputable def g11_L1 (f : T25) : (Int) → Option ((Int) ⊕ ((Unit) ⊕ (Bool)))
| i_98 =>
if ltI i_98 (f.panes_.length : Int) = true then
(idx f.panes_ i_98).bind fun e100 =>
(g37 e100 (f.heat_.length : Int)).bind fun r102 =>
if (!r102) = true then
some (.inr (.inr false))
else
some (.inl (aI .i64 i_98 1))
else
some (.inr (.inl ()))
noncomputable def g11_j2 (f : T25) : Option (Bool) :=
(loopO (g11_L1 f) 0).bind fun w => match w with
| .inl y => g11_j3
| .inr r => some r
noncomputable def g11_L2 (f : T25) : (Int) → Option ((Int) ⊕ ((Unit) ⊕ (Bool)))
| i_118 =>
if ltI i_118 (f.walls_.length : Int) = true then
(idx f.walls_ i_118).bind fun e120 =>
(g36 e120 (f.heat_.length : Int)).bind fun r122 =>
if (!r122) = true then
some (.inr (.inr false))
else
some (.inl (aI .i64 i_118 1))
else
some (.inr (.inl ()))
noncomputable def g11_j1 (f : T25) : Option (Bool) :=
(loopO (g11_L2 f) 0).bind fun w => match w with
| .inl y => g11_j2 f
| .inr r => some r
noncomputable def g11_L3 (f : T25) : (Int) → Option ((Int) ⊕ ((Unit) ⊕ (Bool)))
| i_152 =>
if ltI i_152 (f.heat_.length : Int) = true then
(idx f.heat_ i_152).bind fun e154 =>
(g34 e154).bind fun r156 =>
(if (!r156) = true then some true else (idx f.store_ i_152).bind fun e158 => (g35 e158).bind fun r160 => some (!r160)).bind fun w162 =>
if w162 = true then
some (.inr (.inr false))
else
some (.inl (aI .i64 i_152 1))
else
some (.inr (.inl ()))
noncomputable def g11 (f : T25) : Option (Bool) :=
(g33 (f.heat_.length : Int) 1 5).bind fun r1 =>
if ((((!r1) || (!eqI (f.store_.length : Int) (f.heat_.length : Int))) || ltI 10 (f.walls_.length : Int)) || ltI 8 (f.panes_.length : Int)) = true then
some false
else
(loopO (g11_L3 f) 0).bind fun w => match w with
| .inl y => g11_j1 f
| .inr r => some r
def eA11 (a : T25) : List V := [.cptr (pT25 a) 0]
def eB11 (r : Bool) : V := .b r
theorem inj11 (a a' : T25) (h : eA11 a = eA11 a') : a = a' := by
  obtain ⟨i87, i88, i89, i90⟩ := a
  obtain ⟨i91, i92, i93, i94⟩ := a'
  simp only [eA11, pT25, List.cons.injEq, V.i.injEq, V.b.injEq, V.f.injEq, V.str.injEq, V.sl.injEq, V.agg.injEq, V.cptr.injEq, true_and, and_true] at h
  simp_all [ri cT47_inj, ri cT49_inj, ri cf_f32_inj]
noncomputable def F11 : List V → Option V := tells (fun a => g11 a) eA11 eB11
/- loop.example/g01229/spec.l04Ok -/
theorem ok11 : Tells Tryz.prog 11 F11 := by
 refine Tells.go 105 Tryz.func11 rfl rfl rfl (by kernel_rfl) (fun _ => rfl) ?_
 rintro f r h
 simp only [eA11, en, Nat.reduceAdd]
 replace h : (g11 f).bind some = some r := bindS h
 rw [g11] at h
 have hC : CEnv.Ok Tryz.prog [(33, F33), (34, F34), (35, F35), (36, F36), (37, F37)] := ⟨.inl ok33, .inl ok34, .inl ok35, .inl ok36, .inl ok37, trivial⟩
 refine VW.seq (VW.rA (tm 105 [(0, .cptr (pT25 f) 0)]) [] [] hC (VW.seq (VW.rA (tm 105 [(0, .cptr (pT25 f) 0), (3, .i .i64 (f.heat_.length : Int))]) [] [] hC (VW.seq (VW.seq ?_)))))
 obtain ⟨r1, q2, h⟩ := bindE h
 have c2 := tl33 q2
 refine VW.rD (tm 105 [(0, .cptr (pT25 f) 0), (3, .i .i64 (f.heat_.length : Int)), (43, .b ((((!r1) || (!eqI (f.store_.length : Int) (f.heat_.length : Int))) || ltI 10 (f.walls_.length : Int)) || ltI 8 (f.panes_.length : Int)))]) [] [] hC mixed (VW.condI h (fun h => ?_) (fun h => ?_)) (h := by simp (maxSteps := 4000000) -implicitDefEqProofs [c2, pT25])
 · refine VW.seq (VW.rA (tm 105 [(2, .b false)]) [] [] hC ?_)
   obtain rfl := leafS h
   exact VW.ret (VRet.fin (by simp [eB11]))
 refine VW.skip (VW.join (fun (v : Unit) => (⟨(tm 105 [(0, .cptr (pT25 f) 0), (3, .i .i64 (f.heat_.length : Int))]), [], []⟩ : VS)) (fun v => (g11_j1 f).bind some = some r) ?_ ?_)
 · refine VW.seq (VW.rA (tm 105 [(0, .cptr (pT25 f) 0), (3, .i .i64 (f.heat_.length : Int)), (4, .i .i64 0)]) [] [] hC (VW.block ?_))
   obtain ⟨w_3, hw_3, h⟩ := bindE h
   refine VW.loopO (fun (x : Int) => (⟨(tm 105 [(0, .cptr (pT25 f) 0), (3, .i .i64 (f.heat_.length : Int)), (4, .i .i64 x)]), [], []⟩ : VS)) hw_3 (Ent.tu 0) ?_
   rintro n_3 i_152 h1
   rw [g11_L3] at h1
   refine VW.seq (VW.seq (VW.rA (tm 105 [(0, .cptr (pT25 f) 0), (3, .i .i64 (f.heat_.length : Int)), (4, .i .i64 i_152), (46, .b (ltI i_152 (f.heat_.length : Int)))]) [] [] hC (VW.condJ h1 (fun h1 => ?_) (fun h1 => ?_))))
   · refine VW.exit ?_
     have e_ := leafR h1
     subst w_3
     exact vnext () h (Ent.tu 0)
   refine VW.skip (VW.seq (VW.block (VW.seq ?_)))
   obtain ⟨e154, ⟨f155a, f155b, f155c, f155d⟩, h1⟩ := bindI h1
   obtain ⟨r156, q157, h1⟩ := bindE h1
   have c157 := tl34 q157
   obtain ⟨w162, q164, h1⟩ := bindE h1
   refine VW.evalA (tm 105 [(0, .cptr (pT25 f) 0), (3, .i .i64 (f.heat_.length : Int)), (4, .i .i64 i_152), (68, .b w162)]) [] [] hC (by kernel_rfl) (by
       obtain ⟨q165, q164⟩ | ⟨q165, rfl⟩ := gdF q164
       · obtain ⟨e158, q159, q164⟩ := bindQ q164
         obtain ⟨f159a, f159b, f159c, f159d⟩ := idx_some q159
         obtain ⟨r160, q161, q164⟩ := bindQ q164
         have c161 := tl35 q161
         obtain rfl := Option.some.inj q164
         simp -implicitDefEqProofs [f155a, f155b, f155c, f155d, c157, q165, f159a, f159b, f159c, f159d, c161]
       simp -implicitDefEqProofs [f155a, f155b, f155c, f155d, c157, q165]) ?_
   refine VW.condI h1 (fun h1 => ?_) (fun h1 => ?_)
   · refine VW.seq (VW.rA (tm 105 [(2, .b false)]) [] [] hC ?_)
     have e_ := leafR h1
     subst w_3
     obtain rfl := leafS h
     exact VW.ret (VRet.fin (by simp [eB11]))
   exact VW.skip (VW.rA (tm 105 [(0, .cptr (pT25 f) 0), (3, .i .i64 (f.heat_.length : Int)), (4, .i .i64 (aI .i64 i_152 1))]) [] [] hC (vnext (aI .i64 i_152 1) (leafL h1) (Ent.tu 0)))
 rintro _ h
 replace h : (g11_j1 f).bind _ = _ := h
 rw [g11_j1] at h
 refine VW.join (fun (v : Unit) => (⟨(tm 105 [(0, .cptr (pT25 f) 0), (3, .i .i64 (f.heat_.length : Int))]), [], []⟩ : VS)) (fun v => (g11_j2 f).bind some = some r) ?_ ?_
 · refine VW.seq (VW.rA (tm 105 [(0, .cptr (pT25 f) 0), (3, .i .i64 (f.heat_.length : Int)), (5, .i .i64 0)]) [] [] hC (VW.block ?_))
   obtain ⟨w_2, hw_2, h⟩ := bindE h
   refine VW.loopO (fun (x : Int) => (⟨(tm 105 [(0, .cptr (pT25 f) 0), (3, .i .i64 (f.heat_.length : Int)), (5, .i .i64 x)]), [], []⟩ : VS)) hw_2 (Ent.tu 0) ?_
   rintro n_2 i_118 h1
   rw [g11_L2] at h1
   refine VW.seq (VW.seq (VW.rA (tm 105 [(0, .cptr (pT25 f) 0), (3, .i .i64 (f.heat_.length : Int)), (5, .i .i64 i_118), (75, .b (ltI i_118 (f.walls_.length : Int)))]) [] [] hC (VW.condJ h1 (fun h1 => ?_) (fun h1 => ?_))))
   · refine VW.exit ?_
     have e_ := leafR h1
     subst w_2
     exact vnext () h (Ent.tu 0)
   refine VW.skip (VW.seq (VW.block (VW.seq ?_)))
   obtain ⟨e120, ⟨f121a, f121b, f121c, f121d⟩, h1⟩ := bindI h1
   obtain ⟨r122, q123, h1⟩ := bindE h1
   have c123 := tl36 q123
   refine VW.rA (tm 105 [(0, .cptr (pT25 f) 0), (3, .i .i64 (f.heat_.length : Int)), (5, .i .i64 i_118), (86, .b (!r122))]) [] [] hC (VW.condI h1 (fun h1 => ?_) (fun h1 => ?_)) (h := by simp -implicitDefEqProofs [f121a, f121b, f121c, f121d, c123])
   · refine VW.seq (VW.rA (tm 105 [(2, .b false)]) [] [] hC ?_)
     have e_ := leafR h1
     subst w_2
     obtain rfl := leafS h
     exact VW.ret (VRet.fin (by simp [eB11]))
   exact VW.skip (VW.rA (tm 105 [(0, .cptr (pT25 f) 0), (3, .i .i64 (f.heat_.length : Int)), (5, .i .i64 (aI .i64 i_118 1))]) [] [] hC (vnext (aI .i64 i_118 1) (leafL h1) (Ent.tu 0)))
 rintro _ h
 replace h : (g11_j2 f).bind _ = _ := h
 rw [g11_j2] at h
 refine VW.join (fun (v : Unit) => (⟨(tm 105 []), [], []⟩ : VS)) (fun v => (g11_j3).bind some = some r) ?_ ?_
 · refine VW.seq (VW.rA (tm 105 [(0, .cptr (pT25 f) 0), (3, .i .i64 (f.heat_.length : Int)), (6, .i .i64 0)]) [] [] hC (VW.block ?_))
   obtain ⟨w_1, hw_1, h⟩ := bindE h
   refine VW.loopO (fun (x : Int) => (⟨(tm 105 [(0, .cptr (pT25 f) 0), (3, .i .i64 (f.heat_.length : Int)), (6, .i .i64 x)]), [], []⟩ : VS)) hw_1 (Ent.tu 0) ?_
   rintro n_1 i_98 h1
   rw [g11_L1] at h1
   refine VW.seq (VW.seq (VW.rA (tm 105 [(0, .cptr (pT25 f) 0), (3, .i .i64 (f.heat_.length : Int)), (6, .i .i64 i_98), (93, .b (ltI i_98 (f.panes_.length : Int)))]) [] [] hC (VW.condJ h1 (fun h1 => ?_) (fun h1 => ?_))))
   · refine VW.exit ?_
     have e_ := leafR h1
     subst w_1
     exact vnext () h (Ent.tu 0)
   refine VW.skip (VW.seq (VW.block (VW.seq ?_)))
   obtain ⟨e100, ⟨f101a, f101b, f101c, f101d⟩, h1⟩ := bindI h1
   obtain ⟨r102, q103, h1⟩ := bindE h1
   have c103 := tl37 q103
   refine VW.rA (tm 105 [(0, .cptr (pT25 f) 0), (3, .i .i64 (f.heat_.length : Int)), (6, .i .i64 i_98), (104, .b (!r102))]) [] [] hC (VW.condI h1 (fun h1 => ?_) (fun h1 => ?_)) (h := by simp -implicitDefEqProofs [f101a, f101b, f101c, f101d, c103])
   · refine VW.seq (VW.rA (tm 105 [(2, .b false)]) [] [] hC ?_)
     have e_ := leafR h1
     subst w_1
     obtain rfl := leafS h
     exact VW.ret (VRet.fin (by simp [eB11]))
   exact VW.skip (VW.rA (tm 105 [(0, .cptr (pT25 f) 0), (3, .i .i64 (f.heat_.length : Int)), (6, .i .i64 (aI .i64 i_98 1))]) [] [] hC (vnext (aI .i64 i_98 1) (leafL h1) (Ent.tu 0)))
 rintro _ h
 replace h : (g11_j3).bind _ = _ := h
 rw [g11_j3] at h
 refine VW.seq (VW.rA (tm 105 [(2, .b true)]) [] [] hC ?_)
 obtain rfl := leafS h
 exact VW.ret (VRet.fin (by simp [eB11]))
theorem tl11 {f : T25} {r : Bool} (h : g11 f = some r) : F11 [.cptr [.sl 1 (rows cf_f32 f.heat_), .sl 1 (rows cf_f32 f.store_), .sl 8 (rows cT47 f.walls_), .sl 4 (rows cT49 f.panes_)] 0] = some (.b r) := tells_eq inj11 (a := f) h
noncomputable def g38_j1 (l67 : List Int) : Option (ByteArray) :=
some (strOfNums l67)
noncomputable def g38 (a : F32) : Option (ByteArray) :=
(g60 a).bind fun r1 =>
(rI .u32 r1 16).bind fun d68 =>
(idxS (⟨#[48, 49, 50, 51, 52, 53, 54, 55, 56, 57, 97, 98, 99, 100, 101, 102]⟩ : ByteArray) d68).bind fun e70 =>
(idx (List.replicate 8 0) 7).bind fun e72 =>
(dI .u32 r1 16).bind fun d74 =>
(rI .u32 d74 16).bind fun d76 =>
(idxS (⟨#[48, 49, 50, 51, 52, 53, 54, 55, 56, 57, 97, 98, 99, 100, 101, 102]⟩ : ByteArray) d76).bind fun e78 =>
(idx ((List.replicate 8 0).set 7 e70) 6).bind fun e80 =>
(dI .u32 d74 16).bind fun d82 =>
(rI .u32 d82 16).bind fun d84 =>
(idxS (⟨#[48, 49, 50, 51, 52, 53, 54, 55, 56, 57, 97, 98, 99, 100, 101, 102]⟩ : ByteArray) d84).bind fun e86 =>
(idx (((List.replicate 8 0).set 7 e70).set 6 e78) 5).bind fun e88 =>
(dI .u32 d82 16).bind fun d90 =>
(rI .u32 d90 16).bind fun d92 =>
(idxS (⟨#[48, 49, 50, 51, 52, 53, 54, 55, 56, 57, 97, 98, 99, 100, 101, 102]⟩ : ByteArray) d92).bind fun e94 =>
(idx ((((List.replicate 8 0).set 7 e70).set 6 e78).set 5 e86) 4).bind fun e96 =>
(dI .u32 d90 16).bind fun d98 =>
(rI .u32 d98 16).bind fun d100 =>
(idxS (⟨#[48, 49, 50, 51, 52, 53, 54, 55, 56, 57, 97, 98, 99, 100, 101, 102]⟩ : ByteArray) d100).bind fun e102 =>
(idx (((((List.replicate 8 0).set 7 e70).set 6 e78).set 5 e86).set 4 e94) 3).bind fun e104 =>
(dI .u32 d98 16).bind fun d106 =>
(rI .u32 d106 16).bind fun d108 =>
(idxS (⟨#[48, 49, 50, 51, 52, 53, 54, 55, 56, 57, 97, 98, 99, 100, 101, 102]⟩ : ByteArray) d108).bind fun e110 =>
(idx ((((((List.replicate 8 0).set 7 e70).set 6 e78).set 5 e86).set 4 e94).set 3 e102) 2).bind fun e112 =>
(dI .u32 d106 16).bind fun d114 =>
(rI .u32 d114 16).bind fun d116 =>
(idxS (⟨#[48, 49, 50, 51, 52, 53, 54, 55, 56, 57, 97, 98, 99, 100, 101, 102]⟩ : ByteArray) d116).bind fun e118 =>
(idx (((((((List.replicate 8 0).set 7 e70).set 6 e78).set 5 e86).set 4 e94).set 3 e102).set 2 e110) 1).bind fun e120 =>
(dI .u32 d114 16).bind fun d122 =>
(rI .u32 d122 16).bind fun d124 =>
(idxS (⟨#[48, 49, 50, 51, 52, 53, 54, 55, 56, 57, 97, 98, 99, 100, 101, 102]⟩ : ByteArray) d124).bind fun e126 =>
(idx ((((((((List.replicate 8 0).set 7 e70).set 6 e78).set 5 e86).set 4 e94).set 3 e102).set 2 e110).set 1 e118) 0).bind fun e128 =>
(dI .u32 d122 16).bind fun d130 =>
g38_j1 (((((((((List.replicate 8 0).set 7 e70).set 6 e78).set 5 e86).set 4 e94).set 3 e102).set 2 e110).set 1 e118).set 0 e126)
def eA38 (a : F32) : List V := [.f .f32 a]
def eB38 (r : ByteArray) : V := .str r
theorem inj38 (a a' : F32) (h : eA38 a = eA38 a') : a = a' := by
  obtain i95 := a
  obtain i96 := a'
  simp only [eA38, List.cons.injEq, V.i.injEq, V.b.injEq, V.f.injEq, V.str.injEq, V.sl.injEq, V.agg.injEq, V.cptr.injEq, true_and, and_true] at h
  simp_all
noncomputable def F38 : List V → Option V := tells (fun a => g38 a) eA38 eB38
/- loop.example/g01229/spec.l01Hex -/
theorem ok38 : Tells Tryz.prog 38 F38 := by
 refine Tells.go 23 Tryz.func38 rfl rfl rfl (by kernel_rfl) (fun _ => rfl) ?_
 rintro a r h
 simp only [eA38, en, Nat.reduceAdd]
 replace h : (g38 a).bind some = some r := bindS h
 rw [g38] at h
 have hC : CEnv.Ok Tryz.prog [(60, F60)] := ⟨.inl ok60, trivial⟩
 refine VW.seq (VW.rA (tm 23 [(0, .f .f32 a)]) [] [] hC (VW.seq ?_))
 obtain ⟨r1, q2, h⟩ := bindE h
 have c2 := tl60 q2
 refine VW.rA (tm 23 [(3, .i .u32 r1)]) [] [] hC (VW.seq (VW.rA (tm 23 [(3, .i .u32 r1), (4, .ref 0 0 (List.replicate 8 0).length)]) [some (1, rows ci_u8 (List.replicate 8 0))] [] hC (VW.join (fun (v : List Int) => (⟨(tm 23 [(4, .ref 0 0 v.length)]), [some (1, rows ci_u8 v)], []⟩ : VS)) (fun v => (g38_j1 (v)).bind some = some r) ?_ ?_))) (h := by simp -implicitDefEqProofs [c2])
 · refine VW.seq (VW.rA (tm 23 [(3, .i .u32 r1), (4, .ref 0 0 (List.replicate 8 0).length), (5, .i .i64 7)]) [some (1, rows ci_u8 (List.replicate 8 0))] [] hC (VW.block (VW.rounds 10 (VRounds.step (VW.seq (VW.seq (VW.rA (tm 23 [(3, .i .u32 r1), (4, .ref 0 0 (List.replicate 8 0).length), (5, .i .i64 7), (10, .b true)]) [some (1, rows ci_u8 (List.replicate 8 0))] [] hC (VW.condT (by simp) (VW.skip (VW.seq (VW.block (VW.seq ?_))))) (h := by simp -implicitDefEqProofs [(by decide : leI 0 7 = true)]))))))))
   obtain ⟨d68, q69, h⟩ := bindE h
   obtain ⟨e70, ⟨f71a, c71, f71b, f71c, f71d⟩, h⟩ := bindIS h
   obtain ⟨e72, ⟨f73a, f73b, f73c, f73d⟩, h⟩ := bindI h
   have f73s := f73c
   simp at f73s
   try simp only [Int.toNat_natCast, Int.reduceToNat] at f73a f73b f73c f73d
   refine VW.rA (tm 23 [(3, .i .u32 r1), (4, .ref 0 0 ((List.replicate 8 0).set 7 e70).length), (5, .i .i64 7)]) [some (1, rows ci_u8 ((List.replicate 8 0).set 7 e70))] [] hC ?_ (h := by simp -implicitDefEqProofs [q69, f71a, f71b, f71c, f71d, f73a, f73b, f73c, f73d, f73s])
   obtain ⟨d74, q75, h⟩ := bindE h
   refine VW.rA (tm 23 [(3, .i .u32 d74), (4, .ref 0 0 ((List.replicate 8 0).set 7 e70).length), (5, .i .i64 7)]) [some (1, rows ci_u8 ((List.replicate 8 0).set 7 e70))] [] hC (VW.rA (tm 23 [(3, .i .u32 d74), (4, .ref 0 0 ((List.replicate 8 0).set 7 e70).length), (5, .i .i64 6)]) [some (1, rows ci_u8 ((List.replicate 8 0).set 7 e70))] [] hC (VRounds.step (VW.seq (VW.seq (VW.rA (tm 23 [(3, .i .u32 d74), (4, .ref 0 0 ((List.replicate 8 0).set 7 e70).length), (5, .i .i64 6), (10, .b true)]) [some (1, rows ci_u8 ((List.replicate 8 0).set 7 e70))] [] hC (VW.condT (by simp) (VW.skip (VW.seq (VW.block (VW.seq ?_))))) (h := by simp -implicitDefEqProofs [(by decide : leI 0 6 = true)]))))) (h := by simp -implicitDefEqProofs [(by decide : sI .i64 7 1 = 6)])) (h := by simp -implicitDefEqProofs [q75])
   obtain ⟨d76, q77, h⟩ := bindE h
   obtain ⟨e78, ⟨f79a, c79, f79b, f79c, f79d⟩, h⟩ := bindIS h
   obtain ⟨e80, ⟨f81a, f81b, f81c, f81d⟩, h⟩ := bindI h
   have f81s := f81c
   simp at f81s
   try simp only [Int.toNat_natCast, Int.reduceToNat] at f81a f81b f81c f81d
   refine VW.rA (tm 23 [(3, .i .u32 d74), (4, .ref 0 0 (((List.replicate 8 0).set 7 e70).set 6 e78).length), (5, .i .i64 6)]) [some (1, rows ci_u8 (((List.replicate 8 0).set 7 e70).set 6 e78))] [] hC ?_ (h := by simp -implicitDefEqProofs [q77, f79a, f79b, f79c, f79d, f81a, f81b, f81c, f81d, f81s])
   obtain ⟨d82, q83, h⟩ := bindE h
   refine VW.rA (tm 23 [(3, .i .u32 d82), (4, .ref 0 0 (((List.replicate 8 0).set 7 e70).set 6 e78).length), (5, .i .i64 6)]) [some (1, rows ci_u8 (((List.replicate 8 0).set 7 e70).set 6 e78))] [] hC (VW.rA (tm 23 [(3, .i .u32 d82), (4, .ref 0 0 (((List.replicate 8 0).set 7 e70).set 6 e78).length), (5, .i .i64 5)]) [some (1, rows ci_u8 (((List.replicate 8 0).set 7 e70).set 6 e78))] [] hC (VRounds.step (VW.seq (VW.seq (VW.rA (tm 23 [(3, .i .u32 d82), (4, .ref 0 0 (((List.replicate 8 0).set 7 e70).set 6 e78).length), (5, .i .i64 5), (10, .b true)]) [some (1, rows ci_u8 (((List.replicate 8 0).set 7 e70).set 6 e78))] [] hC (VW.condT (by simp) (VW.skip (VW.seq (VW.block (VW.seq ?_))))) (h := by simp -implicitDefEqProofs [(by decide : leI 0 5 = true)]))))) (h := by simp -implicitDefEqProofs [(by decide : sI .i64 6 1 = 5)])) (h := by simp -implicitDefEqProofs [q83])
   obtain ⟨d84, q85, h⟩ := bindE h
   obtain ⟨e86, ⟨f87a, c87, f87b, f87c, f87d⟩, h⟩ := bindIS h
   obtain ⟨e88, ⟨f89a, f89b, f89c, f89d⟩, h⟩ := bindI h
   have f89s := f89c
   simp at f89s
   try simp only [Int.toNat_natCast, Int.reduceToNat] at f89a f89b f89c f89d
   refine VW.rA (tm 23 [(3, .i .u32 d82), (4, .ref 0 0 ((((List.replicate 8 0).set 7 e70).set 6 e78).set 5 e86).length), (5, .i .i64 5)]) [some (1, rows ci_u8 ((((List.replicate 8 0).set 7 e70).set 6 e78).set 5 e86))] [] hC ?_ (h := by simp -implicitDefEqProofs [q85, f87a, f87b, f87c, f87d, f89a, f89b, f89c, f89d, f89s])
   obtain ⟨d90, q91, h⟩ := bindE h
   refine VW.rA (tm 23 [(3, .i .u32 d90), (4, .ref 0 0 ((((List.replicate 8 0).set 7 e70).set 6 e78).set 5 e86).length), (5, .i .i64 5)]) [some (1, rows ci_u8 ((((List.replicate 8 0).set 7 e70).set 6 e78).set 5 e86))] [] hC (VW.rA (tm 23 [(3, .i .u32 d90), (4, .ref 0 0 ((((List.replicate 8 0).set 7 e70).set 6 e78).set 5 e86).length), (5, .i .i64 4)]) [some (1, rows ci_u8 ((((List.replicate 8 0).set 7 e70).set 6 e78).set 5 e86))] [] hC (VRounds.step (VW.seq (VW.seq (VW.rA (tm 23 [(3, .i .u32 d90), (4, .ref 0 0 ((((List.replicate 8 0).set 7 e70).set 6 e78).set 5 e86).length), (5, .i .i64 4), (10, .b true)]) [some (1, rows ci_u8 ((((List.replicate 8 0).set 7 e70).set 6 e78).set 5 e86))] [] hC (VW.condT (by simp) (VW.skip (VW.seq (VW.block (VW.seq ?_))))) (h := by simp -implicitDefEqProofs [(by decide : leI 0 4 = true)]))))) (h := by simp -implicitDefEqProofs [(by decide : sI .i64 5 1 = 4)])) (h := by simp -implicitDefEqProofs [q91])
   obtain ⟨d92, q93, h⟩ := bindE h
   obtain ⟨e94, ⟨f95a, c95, f95b, f95c, f95d⟩, h⟩ := bindIS h
   obtain ⟨e96, ⟨f97a, f97b, f97c, f97d⟩, h⟩ := bindI h
   have f97s := f97c
   simp at f97s
   try simp only [Int.toNat_natCast, Int.reduceToNat] at f97a f97b f97c f97d
   refine VW.rA (tm 23 [(3, .i .u32 d90), (4, .ref 0 0 (((((List.replicate 8 0).set 7 e70).set 6 e78).set 5 e86).set 4 e94).length), (5, .i .i64 4)]) [some (1, rows ci_u8 (((((List.replicate 8 0).set 7 e70).set 6 e78).set 5 e86).set 4 e94))] [] hC ?_ (h := by simp -implicitDefEqProofs [q93, f95a, f95b, f95c, f95d, f97a, f97b, f97c, f97d, f97s])
   obtain ⟨d98, q99, h⟩ := bindE h
   refine VW.rA (tm 23 [(3, .i .u32 d98), (4, .ref 0 0 (((((List.replicate 8 0).set 7 e70).set 6 e78).set 5 e86).set 4 e94).length), (5, .i .i64 4)]) [some (1, rows ci_u8 (((((List.replicate 8 0).set 7 e70).set 6 e78).set 5 e86).set 4 e94))] [] hC (VW.rA (tm 23 [(3, .i .u32 d98), (4, .ref 0 0 (((((List.replicate 8 0).set 7 e70).set 6 e78).set 5 e86).set 4 e94).length), (5, .i .i64 3)]) [some (1, rows ci_u8 (((((List.replicate 8 0).set 7 e70).set 6 e78).set 5 e86).set 4 e94))] [] hC (VRounds.step (VW.seq (VW.seq (VW.rA (tm 23 [(3, .i .u32 d98), (4, .ref 0 0 (((((List.replicate 8 0).set 7 e70).set 6 e78).set 5 e86).set 4 e94).length), (5, .i .i64 3), (10, .b true)]) [some (1, rows ci_u8 (((((List.replicate 8 0).set 7 e70).set 6 e78).set 5 e86).set 4 e94))] [] hC (VW.condT (by simp) (VW.skip (VW.seq (VW.block (VW.seq ?_))))) (h := by simp -implicitDefEqProofs [(by decide : leI 0 3 = true)]))))) (h := by simp -implicitDefEqProofs [(by decide : sI .i64 4 1 = 3)])) (h := by simp -implicitDefEqProofs [q99])
   obtain ⟨d100, q101, h⟩ := bindE h
   obtain ⟨e102, ⟨f103a, c103, f103b, f103c, f103d⟩, h⟩ := bindIS h
   obtain ⟨e104, ⟨f105a, f105b, f105c, f105d⟩, h⟩ := bindI h
   have f105s := f105c
   simp at f105s
   try simp only [Int.toNat_natCast, Int.reduceToNat] at f105a f105b f105c f105d
   refine VW.rA (tm 23 [(3, .i .u32 d98), (4, .ref 0 0 ((((((List.replicate 8 0).set 7 e70).set 6 e78).set 5 e86).set 4 e94).set 3 e102).length), (5, .i .i64 3)]) [some (1, rows ci_u8 ((((((List.replicate 8 0).set 7 e70).set 6 e78).set 5 e86).set 4 e94).set 3 e102))] [] hC ?_ (h := by simp -implicitDefEqProofs [q101, f103a, f103b, f103c, f103d, f105a, f105b, f105c, f105d, f105s])
   obtain ⟨d106, q107, h⟩ := bindE h
   refine VW.rA (tm 23 [(3, .i .u32 d106), (4, .ref 0 0 ((((((List.replicate 8 0).set 7 e70).set 6 e78).set 5 e86).set 4 e94).set 3 e102).length), (5, .i .i64 3)]) [some (1, rows ci_u8 ((((((List.replicate 8 0).set 7 e70).set 6 e78).set 5 e86).set 4 e94).set 3 e102))] [] hC (VW.rA (tm 23 [(3, .i .u32 d106), (4, .ref 0 0 ((((((List.replicate 8 0).set 7 e70).set 6 e78).set 5 e86).set 4 e94).set 3 e102).length), (5, .i .i64 2)]) [some (1, rows ci_u8 ((((((List.replicate 8 0).set 7 e70).set 6 e78).set 5 e86).set 4 e94).set 3 e102))] [] hC (VRounds.step (VW.seq (VW.seq (VW.rA (tm 23 [(3, .i .u32 d106), (4, .ref 0 0 ((((((List.replicate 8 0).set 7 e70).set 6 e78).set 5 e86).set 4 e94).set 3 e102).length), (5, .i .i64 2), (10, .b true)]) [some (1, rows ci_u8 ((((((List.replicate 8 0).set 7 e70).set 6 e78).set 5 e86).set 4 e94).set 3 e102))] [] hC (VW.condT (by simp) (VW.skip (VW.seq (VW.block (VW.seq ?_))))) (h := by simp -implicitDefEqProofs [(by decide : leI 0 2 = true)]))))) (h := by simp -implicitDefEqProofs [(by decide : sI .i64 3 1 = 2)])) (h := by simp -implicitDefEqProofs [q107])
   obtain ⟨d108, q109, h⟩ := bindE h
   obtain ⟨e110, ⟨f111a, c111, f111b, f111c, f111d⟩, h⟩ := bindIS h
   obtain ⟨e112, ⟨f113a, f113b, f113c, f113d⟩, h⟩ := bindI h
   have f113s := f113c
   simp at f113s
   try simp only [Int.toNat_natCast, Int.reduceToNat] at f113a f113b f113c f113d
   refine VW.rA (tm 23 [(3, .i .u32 d106), (4, .ref 0 0 (((((((List.replicate 8 0).set 7 e70).set 6 e78).set 5 e86).set 4 e94).set 3 e102).set 2 e110).length), (5, .i .i64 2)]) [some (1, rows ci_u8 (((((((List.replicate 8 0).set 7 e70).set 6 e78).set 5 e86).set 4 e94).set 3 e102).set 2 e110))] [] hC ?_ (h := by simp -implicitDefEqProofs [q109, f111a, f111b, f111c, f111d, f113a, f113b, f113c, f113d, f113s])
   obtain ⟨d114, q115, h⟩ := bindE h
   refine VW.rA (tm 23 [(3, .i .u32 d114), (4, .ref 0 0 (((((((List.replicate 8 0).set 7 e70).set 6 e78).set 5 e86).set 4 e94).set 3 e102).set 2 e110).length), (5, .i .i64 2)]) [some (1, rows ci_u8 (((((((List.replicate 8 0).set 7 e70).set 6 e78).set 5 e86).set 4 e94).set 3 e102).set 2 e110))] [] hC (VW.rA (tm 23 [(3, .i .u32 d114), (4, .ref 0 0 (((((((List.replicate 8 0).set 7 e70).set 6 e78).set 5 e86).set 4 e94).set 3 e102).set 2 e110).length), (5, .i .i64 1)]) [some (1, rows ci_u8 (((((((List.replicate 8 0).set 7 e70).set 6 e78).set 5 e86).set 4 e94).set 3 e102).set 2 e110))] [] hC (VRounds.step (VW.seq (VW.seq (VW.rA (tm 23 [(3, .i .u32 d114), (4, .ref 0 0 (((((((List.replicate 8 0).set 7 e70).set 6 e78).set 5 e86).set 4 e94).set 3 e102).set 2 e110).length), (5, .i .i64 1), (10, .b true)]) [some (1, rows ci_u8 (((((((List.replicate 8 0).set 7 e70).set 6 e78).set 5 e86).set 4 e94).set 3 e102).set 2 e110))] [] hC (VW.condT (by simp) (VW.skip (VW.seq (VW.block (VW.seq ?_))))) (h := by simp -implicitDefEqProofs [(by decide : leI 0 1 = true)]))))) (h := by simp -implicitDefEqProofs [(by decide : sI .i64 2 1 = 1)])) (h := by simp -implicitDefEqProofs [q115])
   obtain ⟨d116, q117, h⟩ := bindE h
   obtain ⟨e118, ⟨f119a, c119, f119b, f119c, f119d⟩, h⟩ := bindIS h
   obtain ⟨e120, ⟨f121a, f121b, f121c, f121d⟩, h⟩ := bindI h
   have f121s := f121c
   simp at f121s
   try simp only [Int.toNat_natCast, Int.reduceToNat] at f121a f121b f121c f121d
   refine VW.rA (tm 23 [(3, .i .u32 d114), (4, .ref 0 0 ((((((((List.replicate 8 0).set 7 e70).set 6 e78).set 5 e86).set 4 e94).set 3 e102).set 2 e110).set 1 e118).length), (5, .i .i64 1)]) [some (1, rows ci_u8 ((((((((List.replicate 8 0).set 7 e70).set 6 e78).set 5 e86).set 4 e94).set 3 e102).set 2 e110).set 1 e118))] [] hC ?_ (h := by simp -implicitDefEqProofs [q117, f119a, f119b, f119c, f119d, f121a, f121b, f121c, f121d, f121s])
   obtain ⟨d122, q123, h⟩ := bindE h
   refine VW.rA (tm 23 [(3, .i .u32 d122), (4, .ref 0 0 ((((((((List.replicate 8 0).set 7 e70).set 6 e78).set 5 e86).set 4 e94).set 3 e102).set 2 e110).set 1 e118).length), (5, .i .i64 1)]) [some (1, rows ci_u8 ((((((((List.replicate 8 0).set 7 e70).set 6 e78).set 5 e86).set 4 e94).set 3 e102).set 2 e110).set 1 e118))] [] hC (VW.rA (tm 23 [(3, .i .u32 d122), (4, .ref 0 0 ((((((((List.replicate 8 0).set 7 e70).set 6 e78).set 5 e86).set 4 e94).set 3 e102).set 2 e110).set 1 e118).length), (5, .i .i64 0)]) [some (1, rows ci_u8 ((((((((List.replicate 8 0).set 7 e70).set 6 e78).set 5 e86).set 4 e94).set 3 e102).set 2 e110).set 1 e118))] [] hC (VRounds.step (VW.seq (VW.seq (VW.rA (tm 23 [(3, .i .u32 d122), (4, .ref 0 0 ((((((((List.replicate 8 0).set 7 e70).set 6 e78).set 5 e86).set 4 e94).set 3 e102).set 2 e110).set 1 e118).length), (5, .i .i64 0), (10, .b true)]) [some (1, rows ci_u8 ((((((((List.replicate 8 0).set 7 e70).set 6 e78).set 5 e86).set 4 e94).set 3 e102).set 2 e110).set 1 e118))] [] hC (VW.condT (by simp) (VW.skip (VW.seq (VW.block (VW.seq ?_))))) (h := by simp -implicitDefEqProofs [(by decide : leI 0 0 = true)]))))) (h := by simp -implicitDefEqProofs [(by decide : sI .i64 1 1 = 0)])) (h := by simp -implicitDefEqProofs [q123])
   obtain ⟨d124, q125, h⟩ := bindE h
   obtain ⟨e126, ⟨f127a, c127, f127b, f127c, f127d⟩, h⟩ := bindIS h
   obtain ⟨e128, ⟨f129a, f129b, f129c, f129d⟩, h⟩ := bindI h
   have f129s := f129c
   simp at f129s
   try simp only [Int.toNat_natCast, Int.reduceToNat] at f129a f129b f129c f129d
   refine VW.rA (tm 23 [(3, .i .u32 d122), (4, .ref 0 0 (((((((((List.replicate 8 0).set 7 e70).set 6 e78).set 5 e86).set 4 e94).set 3 e102).set 2 e110).set 1 e118).set 0 e126).length), (5, .i .i64 0)]) [some (1, rows ci_u8 (((((((((List.replicate 8 0).set 7 e70).set 6 e78).set 5 e86).set 4 e94).set 3 e102).set 2 e110).set 1 e118).set 0 e126))] [] hC ?_ (h := by simp -implicitDefEqProofs [q125, f127a, f127b, f127c, f127d, f129a, f129b, f129c, f129d, f129s])
   obtain ⟨d130, q131, h⟩ := bindE h
   exact VW.rA (tm 23 [(3, .i .u32 d130), (4, .ref 0 0 (((((((((List.replicate 8 0).set 7 e70).set 6 e78).set 5 e86).set 4 e94).set 3 e102).set 2 e110).set 1 e118).set 0 e126).length), (5, .i .i64 0)]) [some (1, rows ci_u8 (((((((((List.replicate 8 0).set 7 e70).set 6 e78).set 5 e86).set 4 e94).set 3 e102).set 2 e110).set 1 e118).set 0 e126))] [] hC (VW.rA (tm 23 [(3, .i .u32 d130), (4, .ref 0 0 (((((((((List.replicate 8 0).set 7 e70).set 6 e78).set 5 e86).set 4 e94).set 3 e102).set 2 e110).set 1 e118).set 0 e126).length), (5, .i .i64 (-1))]) [some (1, rows ci_u8 (((((((((List.replicate 8 0).set 7 e70).set 6 e78).set 5 e86).set 4 e94).set 3 e102).set 2 e110).set 1 e118).set 0 e126))] [] hC (VRounds.step (VW.seq (VW.seq (VW.rA (tm 23 [(3, .i .u32 d130), (4, .ref 0 0 (((((((((List.replicate 8 0).set 7 e70).set 6 e78).set 5 e86).set 4 e94).set 3 e102).set 2 e110).set 1 e118).set 0 e126).length), (5, .i .i64 (-1)), (10, .b false)]) [some (1, rows ci_u8 (((((((((List.replicate 8 0).set 7 e70).set 6 e78).set 5 e86).set 4 e94).set 3 e102).set 2 e110).set 1 e118).set 0 e126))] [] hC (VW.condF (by simp) (VW.exit (vnext (((((((((List.replicate 8 0).set 7 e70).set 6 e78).set 5 e86).set 4 e94).set 3 e102).set 2 e110).set 1 e118).set 0 e126) h (Ent.tu 1)))) (h := by simp -implicitDefEqProofs [(by decide : leI 0 (-1) = false)]))))) (h := by simp -implicitDefEqProofs [(by decide : sI .i64 0 1 = (-1))])) (h := by simp -implicitDefEqProofs [q131])
 rintro l67 h
 replace h : (g38_j1 l67).bind _ = _ := h
 rw [g38_j1] at h
 refine VW.seq (VW.rA (tm 23 [(2, .str (strOfNums l67))]) [some (1, rows ci_u8 l67)] [] hC ?_)
 obtain rfl := leafS h
 exact VW.ret (VRet.fin (by simp [eB38]))
theorem tl38 {a : F32} {r : ByteArray} (h : g38 a = some r) : F38 [.f .f32 a] = some (.str r) := tells_eq inj38 (a := a) h
noncomputable def g61b (self : Int → Option ByteArray) (n : Int) : Option (ByteArray) :=
if leI 10 n = true then
(dI .i64 n 10).bind fun d2 =>
(self d2).bind fun r4 =>
(rI .i64 n 10).bind fun d6 =>
(catS r4 (strOfNums [cI .u8 (aI .i64 48 d6)])).bind fun z8 =>
some z8
else
some (strOfNums [cI .u8 (aI .i64 48 n)])
noncomputable def g61 (n : Int) : Option (ByteArray) := fixO (fun self a => g61b self a) n
def eA61 (a : Int) : List V := [.i .i64 a]
def eB61 (r : ByteArray) : V := .str r
theorem inj61 (a a' : Int) (h : eA61 a = eA61 a') : a = a' := by
  obtain i97 := a
  obtain i98 := a'
  simp only [eA61, List.cons.injEq, V.i.injEq, V.b.injEq, V.f.injEq, V.str.injEq, V.sl.injEq, V.agg.injEq, V.cptr.injEq, true_and, and_true] at h
  simp_all
noncomputable def F61 : List V → Option V := tells (fun a => g61 a) eA61 eB61
/- loop.example/g01229/spec.Decimal -/
theorem ok61 : Tells Tryz.prog 61 F61 := by
 show Tells Tryz.prog 61 (tells (fixO fun self a => g61b self a) eA61 eB61)
 refine Tells.fix inj61 (by kernel_rfl) fun self hself => ?_
 refine Tells.go 20 Tryz.func61 rfl rfl rfl (by kernel_rfl) (fun _ => rfl) ?_
 rintro n r h
 simp only [eA61, en, Nat.reduceAdd]
 replace h : (g61b self n).bind some = some r := bindS h
 rw [g61b] at h
 have hC : CEnv.Ok Tryz.prog [(61, tells self eA61 eB61)] := ⟨.inl hself, trivial⟩
 refine VW.seq (VW.rA (tm 20 [(0, .i .i64 n)]) [] [] hC (VW.seq (VW.seq (VW.rA (tm 20 [(0, .i .i64 n), (4, .b (leI 10 n))]) [] [] hC (VW.condJ h (fun h => ?_) (fun h => ?_))))))
 · refine VW.skip (VW.seq (VW.rA (tm 20 [(2, .str (strOfNums [cI .u8 (aI .i64 48 n)]))]) [some (1, rows ci_u8 [cI .u8 (aI .i64 48 n)])] [] hC ?_))
   obtain rfl := leafS h
   exact VW.ret (VRet.fin (by simp [eB61]))
 refine VW.seq ?_
 obtain ⟨d2, q3, h⟩ := bindE h
 obtain ⟨r4, q5, h⟩ := bindE h
 have c5 : (tells self eA61 eB61) [.i .i64 d2] = some (.str r4) := tells_eq inj61 (a := d2) q5
 obtain ⟨d6, q7, h⟩ := bindE h
 obtain ⟨z8, q9, h⟩ := bindE h
 refine VW.rD (tm 20 [(2, .str z8)]) [some (1, rows ci_u8 [cI .u8 (aI .i64 48 d6)])] [] hC mixed ?_ (h := by simp -implicitDefEqProofs [q3, c5, q7, q9])
 obtain rfl := leafS h
 exact VW.ret (VRet.fin (by simp [eB61]))
theorem tl61 {n : Int} {r : ByteArray} (h : g61 n = some r) : F61 [.i .i64 n] = some (.str r) := tells_eq inj61 (a := n) h
noncomputable def g39 (side : Int) : Option (ByteArray) :=
if ltI side 0 = true then
some (⟨#[45]⟩ : ByteArray)
else
(g61 side).bind fun r2 =>
some r2
def eA39 (a : Int) : List V := [.i .i64 a]
def eB39 (r : ByteArray) : V := .str r
theorem inj39 (a a' : Int) (h : eA39 a = eA39 a') : a = a' := by
  obtain i99 := a
  obtain i100 := a'
  simp only [eA39, List.cons.injEq, V.i.injEq, V.b.injEq, V.f.injEq, V.str.injEq, V.sl.injEq, V.agg.injEq, V.cptr.injEq, true_and, and_true] at h
  simp_all
noncomputable def F39 : List V → Option V := tells (fun a => g39 a) eA39 eB39
/- loop.example/g01229/spec.l04Side -/
theorem ok39 : Tells Tryz.prog 39 F39 := by
 refine Tells.go 7 Tryz.func39 rfl rfl rfl (by kernel_rfl) (fun _ => rfl) ?_
 rintro side r h
 simp only [eA39, en, Nat.reduceAdd]
 replace h : (g39 side).bind some = some r := bindS h
 rw [g39] at h
 have hC : CEnv.Ok Tryz.prog [(61, F61)] := ⟨.inl ok61, trivial⟩
 refine VW.seq (VW.rA (tm 7 [(0, .i .i64 side)]) [] [] hC (VW.seq (VW.seq (VW.rA (tm 7 [(0, .i .i64 side), (4, .b (ltI side 0))]) [] [] hC (VW.condI h (fun h => ?_) (fun h => ?_))))))
 · refine VW.seq (VW.rA (tm 7 [(2, .str (⟨#[45]⟩ : ByteArray))]) [] [] hC ?_)
   obtain rfl := leafS h
   exact VW.ret (VRet.fin (by simp [eB39]))
 refine VW.skip (VW.seq ?_)
 obtain ⟨r2, q3, h⟩ := bindE h
 have c3 := tl61 q3
 refine VW.rA (tm 7 [(2, .str r2)]) [] [] hC ?_ (h := by simp -implicitDefEqProofs [c3])
 obtain rfl := leafS h
 exact VW.ret (VRet.fin (by simp [eB39]))
theorem tl39 {side : Int} {r : ByteArray} (h : g39 side = some r) : F39 [.i .i64 side] = some (.str r) := tells_eq inj39 (a := side) h
noncomputable def g12_j3 (out_627 : ByteArray) : Option (ByteArray) :=
some out_627
noncomputable def g12_L1 (f : T25) : (ByteArray × Int) → Option ((ByteArray × Int) ⊕ (ByteArray))
| (out_688, i_689) =>
if ltI i_689 (f.panes_.length : Int) = true then
(idx f.panes_ i_689).bind fun e691 =>
(g39 e691.a_).bind fun r693 =>
(catS (⟨#[112, 97, 110, 101, 32]⟩ : ByteArray) r693).bind fun z695 =>
(catS z695 (⟨#[32]⟩ : ByteArray)).bind fun z697 =>
(g39 e691.b_).bind fun r699 =>
(catS z697 r699).bind fun z701 =>
(catS z701 (⟨#[32]⟩ : ByteArray)).bind fun z703 =>
(g38 e691.lead_).bind fun r705 =>
(catS z703 r705).bind fun z707 =>
(catS z707 (⟨#[32]⟩ : ByteArray)).bind fun z709 =>
(g38 e691.sun_).bind fun r711 =>
(catS z709 r711).bind fun z713 =>
(catS z713 (⟨#[10]⟩ : ByteArray)).bind fun z715 =>
(catS out_688 z715).bind fun z717 =>
some (.inl (z717, aI .i64 i_689 1))
else
some (.inr out_688)
noncomputable def g12_j2 (f : T25) (out_535 : ByteArray) : Option (ByteArray) :=
(loopO (g12_L1 f) (out_535, 0)).bind fun w => g12_j3 w
noncomputable def g12_j4 (i_1034 : Int) (out_1113 : ByteArray) : Option ((ByteArray × Int) ⊕ (ByteArray)) :=
some (.inl (out_1113, aI .i64 i_1034 1))
noncomputable def g12_j5 (i_1034 : Int) (out_1164 : ByteArray) : Option ((ByteArray × Int) ⊕ (ByteArray)) :=
(catS out_1164 (⟨#[10]⟩ : ByteArray)).bind fun z1165 =>
g12_j4 i_1034 z1165
noncomputable def g12_L2 (f : T25) : (ByteArray × Int) → Option ((ByteArray × Int) ⊕ (ByteArray))
| (out_1033, i_1034) =>
if ltI i_1034 (f.walls_.length : Int) = true then
(idx f.walls_ i_1034).bind fun e1114 =>
(g39 e1114.a_).bind fun r1116 =>
(catS (⟨#[119, 97, 108, 108, 32]⟩ : ByteArray) r1116).bind fun z1118 =>
(catS z1118 (⟨#[32]⟩ : ByteArray)).bind fun z1120 =>
(g39 e1114.b_).bind fun r1122 =>
(catS z1120 r1122).bind fun z1124 =>
(catS z1124 (⟨#[32]⟩ : ByteArray)).bind fun z1126 =>
(g38 e1114.lead_).bind fun r1128 =>
(catS z1126 r1128).bind fun z1130 =>
(catS z1130 (⟨#[32]⟩ : ByteArray)).bind fun z1132 =>
(g38 e1114.store_).bind fun r1134 =>
(catS z1132 r1134).bind fun z1136 =>
(catS out_1033 z1136).bind fun z1138 =>
(g38 e1114.heat_.a0_).bind fun r1167 =>
(catS (⟨#[32]⟩ : ByteArray) r1167).bind fun z1169 =>
(catS z1138 z1169).bind fun z1171 =>
(g38 e1114.heat_.a1_).bind fun r1173 =>
(catS (⟨#[32]⟩ : ByteArray) r1173).bind fun z1175 =>
(catS z1171 z1175).bind fun z1177 =>
(g38 e1114.heat_.a2_).bind fun r1179 =>
(catS (⟨#[32]⟩ : ByteArray) r1179).bind fun z1181 =>
(catS z1177 z1181).bind fun z1183 =>
(g38 e1114.heat_.a3_).bind fun r1185 =>
(catS (⟨#[32]⟩ : ByteArray) r1185).bind fun z1187 =>
(catS z1183 z1187).bind fun z1189 =>
g12_j5 i_1034 z1189
else
some (.inr out_1033)
noncomputable def g12_j1 (f : T25) (out_62 : ByteArray) : Option (ByteArray) :=
(loopO (g12_L2 f) (out_62, 0)).bind fun w => g12_j2 f w
noncomputable def g12_L3 (f : T25) : (ByteArray × Int) → Option ((ByteArray × Int) ⊕ (ByteArray))
| (out_1231, i_1232) =>
if ltI i_1232 (f.heat_.length : Int) = true then
(idx f.heat_ i_1232).bind fun e1234 =>
(g38 e1234).bind fun r1236 =>
(catS (⟨#[114, 111, 111, 109, 32]⟩ : ByteArray) r1236).bind fun z1238 =>
(catS z1238 (⟨#[32]⟩ : ByteArray)).bind fun z1240 =>
(idx f.store_ i_1232).bind fun e1242 =>
(g38 e1242).bind fun r1244 =>
(catS z1240 r1244).bind fun z1246 =>
(catS z1246 (⟨#[10]⟩ : ByteArray)).bind fun z1248 =>
(catS out_1231 z1248).bind fun z1250 =>
some (.inl (z1250, aI .i64 i_1232 1))
else
some (.inr out_1231)
noncomputable def g12 (f : T25) : Option (ByteArray) :=
(loopO (g12_L3 f) (ByteArray.empty, 0)).bind fun w => g12_j1 f w
def eA12 (a : T25) : List V := [.cptr (pT25 a) 0]
def eB12 (r : ByteArray) : V := .str r
theorem inj12 (a a' : T25) (h : eA12 a = eA12 a') : a = a' := by
  obtain ⟨i101, i102, i103, i104⟩ := a
  obtain ⟨i105, i106, i107, i108⟩ := a'
  simp only [eA12, pT25, List.cons.injEq, V.i.injEq, V.b.injEq, V.f.injEq, V.str.injEq, V.sl.injEq, V.agg.injEq, V.cptr.injEq, true_and, and_true] at h
  simp_all [ri cT47_inj, ri cT49_inj, ri cf_f32_inj]
noncomputable def F12 : List V → Option V := tells (fun a => g12 a) eA12 eB12
/- loop.example/g01229/spec.l04Text -/
theorem ok12 : Tells Tryz.prog 12 F12 := by
 refine Tells.go 147 Tryz.func12 rfl rfl rfl (by kernel_rfl) (fun _ => rfl) ?_
 rintro f r h
 simp only [eA12, en, Nat.reduceAdd]
 replace h : (g12 f).bind some = some r := bindS h
 rw [g12] at h
 have hC : CEnv.Ok Tryz.prog [(38, F38), (39, F39)] := ⟨.inl ok38, .inl ok39, trivial⟩
 refine VW.seq (VW.rA (tm 147 [(0, .cptr (pT25 f) 0)]) [] [] hC (VW.seq (VW.rA (tm 147 [(0, .cptr (pT25 f) 0), (3, .str ByteArray.empty)]) [] [] hC (VW.join (fun (v : ByteArray) => (⟨(tm 147 [(0, .cptr (pT25 f) 0), (3, .str v)]), [], []⟩ : VS)) (fun v => (g12_j1 f (v)).bind some = some r) ?_ ?_))))
 · refine VW.seq (VW.rA (tm 147 [(0, .cptr (pT25 f) 0), (3, .str ByteArray.empty), (4, .i .i64 0)]) [] [] hC (VW.block ?_))
   obtain ⟨w_3, hw_3, h⟩ := bindE h
   refine VW.loopO (fun (x : ByteArray × Int) => (⟨(tm 147 [(0, .cptr (pT25 f) 0), (3, .str x.1), (4, .i .i64 x.2)]), [], []⟩ : VS)) hw_3 (Ent.tu 0) ?_
   rintro n_3 ⟨out_1231, i_1232⟩ h1
   rw [g12_L3] at h1
   refine VW.seq (VW.seq (VW.rA (tm 147 [(0, .cptr (pT25 f) 0), (3, .str out_1231), (4, .i .i64 i_1232), (16, .b (ltI i_1232 (f.heat_.length : Int)))]) [] [] hC (VW.condJ h1 (fun h1 => ?_) (fun h1 => ?_))))
   · refine VW.exit ?_
     have e_ := leafR h1
     subst w_3
     exact vnext out_1231 h (Ent.tu 0)
   refine VW.skip (VW.seq (VW.block ?_))
   obtain ⟨e1234, ⟨f1235a, f1235b, f1235c, f1235d⟩, h1⟩ := bindI h1
   obtain ⟨r1236, q1237, h1⟩ := bindE h1
   have c1237 := tl38 q1237
   obtain ⟨z1238, q1239, h1⟩ := bindE h1
   obtain ⟨z1240, q1241, h1⟩ := bindE h1
   obtain ⟨e1242, ⟨f1243a, f1243b, f1243c, f1243d⟩, h1⟩ := bindI h1
   obtain ⟨r1244, q1245, h1⟩ := bindE h1
   have c1245 := tl38 q1245
   obtain ⟨z1246, q1247, h1⟩ := bindE h1
   obtain ⟨z1248, q1249, h1⟩ := bindE h1
   obtain ⟨z1250, q1251, h1⟩ := bindE h1
   exact VW.rD (tm 147 [(0, .cptr (pT25 f) 0), (3, .str z1250), (4, .i .i64 i_1232)]) [] [] hC mixed (VW.rA (tm 147 [(0, .cptr (pT25 f) 0), (3, .str z1250), (4, .i .i64 (aI .i64 i_1232 1))]) [] [] hC (vnext (z1250, aI .i64 i_1232 1) (leafL h1) (Ent.tu 0))) (h := by simp -implicitDefEqProofs [f1235a, f1235b, f1235c, f1235d, c1237, q1239, q1241, f1243a, f1243b, f1243c, f1243d, c1245, q1247, q1249, q1251, pT25])
 rintro out_62 h
 replace h : (g12_j1 f out_62).bind _ = _ := h
 rw [g12_j1] at h
 refine VW.join (fun (v : ByteArray) => (⟨(tm 147 [(0, .cptr (pT25 f) 0), (3, .str v)]), [], []⟩ : VS)) (fun v => (g12_j2 f (v)).bind some = some r) ?_ ?_
 · refine VW.seq (VW.rA (tm 147 [(0, .cptr (pT25 f) 0), (3, .str out_62), (5, .i .i64 0)]) [] [] hC (VW.block ?_))
   obtain ⟨w_2, hw_2, h⟩ := bindE h
   refine VW.loopO (fun (x : ByteArray × Int) => (⟨(tm 147 [(0, .cptr (pT25 f) 0), (3, .str x.1), (5, .i .i64 x.2)]), [], []⟩ : VS)) hw_2 (Ent.tu 0) ?_
   rintro n_2 ⟨out_1033, i_1034⟩ h1
   rw [g12_L2] at h1
   refine VW.seq (VW.seq (VW.rA (tm 147 [(0, .cptr (pT25 f) 0), (3, .str out_1033), (5, .i .i64 i_1034), (47, .b (ltI i_1034 (f.walls_.length : Int)))]) [] [] hC (VW.condJ h1 (fun h1 => ?_) (fun h1 => ?_))))
   · refine VW.exit ?_
     have e_ := leafR h1
     subst w_2
     exact vnext out_1033 h (Ent.tu 0)
   refine VW.skip (VW.join (fun (v : ByteArray) => (⟨(tm 147 [(0, .cptr (pT25 f) 0), (3, .str v), (5, .i .i64 i_1034)]), [], []⟩ : VS)) (fun v => (g12_j4 i_1034 (v)).bind (kN (g12_L2 f) n_2) = some w_2) ?_ ?_)
   · refine VW.block (VW.seq ?_)
     obtain ⟨e1114, ⟨f1115a, f1115b, f1115c, f1115d⟩, h1⟩ := bindI h1
     refine VW.rA (tm 147 [(0, .cptr (pT25 f) 0), (3, .str out_1033), (5, .i .i64 i_1034), (6, .cptr [.i .i64 e1114.a_, .i .i64 e1114.b_, .f .f32 e1114.lead_, .f .f32 e1114.store_, .f .f32 e1114.heat_.a0_, .f .f32 e1114.heat_.a1_, .f .f32 e1114.heat_.a2_, .f .f32 e1114.heat_.a3_] 0)]) [] [] hC (VW.seq ?_) (h := by simp -implicitDefEqProofs [f1115a, f1115b, f1115c, f1115d])
     obtain ⟨r1116, q1117, h1⟩ := bindE h1
     have c1117 := tl39 q1117
     obtain ⟨z1118, q1119, h1⟩ := bindE h1
     obtain ⟨z1120, q1121, h1⟩ := bindE h1
     obtain ⟨r1122, q1123, h1⟩ := bindE h1
     have c1123 := tl39 q1123
     obtain ⟨z1124, q1125, h1⟩ := bindE h1
     obtain ⟨z1126, q1127, h1⟩ := bindE h1
     obtain ⟨r1128, q1129, h1⟩ := bindE h1
     have c1129 := tl38 q1129
     obtain ⟨z1130, q1131, h1⟩ := bindE h1
     obtain ⟨z1132, q1133, h1⟩ := bindE h1
     obtain ⟨r1134, q1135, h1⟩ := bindE h1
     have c1135 := tl38 q1135
     obtain ⟨z1136, q1137, h1⟩ := bindE h1
     obtain ⟨z1138, q1139, h1⟩ := bindE h1
     refine VW.rD (tm 147 [(0, .cptr (pT25 f) 0), (3, .str z1138), (5, .i .i64 i_1034), (6, .cptr [.i .i64 e1114.a_, .i .i64 e1114.b_, .f .f32 e1114.lead_, .f .f32 e1114.store_, .f .f32 e1114.heat_.a0_, .f .f32 e1114.heat_.a1_, .f .f32 e1114.heat_.a2_, .f .f32 e1114.heat_.a3_] 0)]) [] [] hC mixed (VW.join (fun (v : ByteArray) => (⟨(tm 147 [(0, .cptr (pT25 f) 0), (3, .str v), (5, .i .i64 i_1034)]), [], []⟩ : VS)) (fun v => (g12_j5 i_1034 (v)).bind (kN (g12_L2 f) n_2) = some w_2) ?_ ?_) (h := by simp -implicitDefEqProofs [c1117, q1119, q1121, c1123, q1125, q1127, c1129, q1131, q1133, c1135, q1137, q1139, pT25])
     · refine VW.seq (VW.rA (tm 147 [(0, .cptr (pT25 f) 0), (3, .str z1138), (5, .i .i64 i_1034), (6, .cptr [.i .i64 e1114.a_, .i .i64 e1114.b_, .f .f32 e1114.lead_, .f .f32 e1114.store_, .f .f32 e1114.heat_.a0_, .f .f32 e1114.heat_.a1_, .f .f32 e1114.heat_.a2_, .f .f32 e1114.heat_.a3_] 0), (7, .i .i64 0)]) [] [] hC (VW.block (VW.rounds 6 (VRounds.step (VW.seq (VW.seq (VW.rA (tm 147 [(0, .cptr (pT25 f) 0), (3, .str z1138), (5, .i .i64 i_1034), (6, .cptr [.i .i64 e1114.a_, .i .i64 e1114.b_, .f .f32 e1114.lead_, .f .f32 e1114.store_, .f .f32 e1114.heat_.a0_, .f .f32 e1114.heat_.a1_, .f .f32 e1114.heat_.a2_, .f .f32 e1114.heat_.a3_] 0), (7, .i .i64 0), (86, .b true)]) [] [] hC (VW.condT (by simp) (VW.skip (VW.seq (VW.block ?_)))) (h := by simp -implicitDefEqProofs [(by decide : ltI 0 4 = true)]))))))))
       obtain ⟨r1167, q1168, h1⟩ := bindE h1
       have c1168 := tl38 q1168
       obtain ⟨z1169, q1170, h1⟩ := bindE h1
       obtain ⟨z1171, q1172, h1⟩ := bindE h1
       refine VW.rA (tm 147 [(0, .cptr (pT25 f) 0), (3, .str z1171), (5, .i .i64 i_1034), (6, .cptr [.i .i64 e1114.a_, .i .i64 e1114.b_, .f .f32 e1114.lead_, .f .f32 e1114.store_, .f .f32 e1114.heat_.a0_, .f .f32 e1114.heat_.a1_, .f .f32 e1114.heat_.a2_, .f .f32 e1114.heat_.a3_] 0), (7, .i .i64 0)]) [] [] hC (VW.rA (tm 147 [(0, .cptr (pT25 f) 0), (3, .str z1171), (5, .i .i64 i_1034), (6, .cptr [.i .i64 e1114.a_, .i .i64 e1114.b_, .f .f32 e1114.lead_, .f .f32 e1114.store_, .f .f32 e1114.heat_.a0_, .f .f32 e1114.heat_.a1_, .f .f32 e1114.heat_.a2_, .f .f32 e1114.heat_.a3_] 0), (7, .i .i64 1)]) [] [] hC (VRounds.step (VW.seq (VW.seq (VW.rA (tm 147 [(0, .cptr (pT25 f) 0), (3, .str z1171), (5, .i .i64 i_1034), (6, .cptr [.i .i64 e1114.a_, .i .i64 e1114.b_, .f .f32 e1114.lead_, .f .f32 e1114.store_, .f .f32 e1114.heat_.a0_, .f .f32 e1114.heat_.a1_, .f .f32 e1114.heat_.a2_, .f .f32 e1114.heat_.a3_] 0), (7, .i .i64 1), (86, .b true)]) [] [] hC (VW.condT (by simp) (VW.skip (VW.seq (VW.block ?_)))) (h := by simp -implicitDefEqProofs [(by decide : ltI 1 4 = true)]))))) (h := by simp -implicitDefEqProofs [(by decide : aI .i64 0 1 = 1)])) (h := by simp -implicitDefEqProofs [c1168, q1170, q1172])
       obtain ⟨r1173, q1174, h1⟩ := bindE h1
       have c1174 := tl38 q1174
       obtain ⟨z1175, q1176, h1⟩ := bindE h1
       obtain ⟨z1177, q1178, h1⟩ := bindE h1
       refine VW.rA (tm 147 [(0, .cptr (pT25 f) 0), (3, .str z1177), (5, .i .i64 i_1034), (6, .cptr [.i .i64 e1114.a_, .i .i64 e1114.b_, .f .f32 e1114.lead_, .f .f32 e1114.store_, .f .f32 e1114.heat_.a0_, .f .f32 e1114.heat_.a1_, .f .f32 e1114.heat_.a2_, .f .f32 e1114.heat_.a3_] 0), (7, .i .i64 1)]) [] [] hC (VW.rA (tm 147 [(0, .cptr (pT25 f) 0), (3, .str z1177), (5, .i .i64 i_1034), (6, .cptr [.i .i64 e1114.a_, .i .i64 e1114.b_, .f .f32 e1114.lead_, .f .f32 e1114.store_, .f .f32 e1114.heat_.a0_, .f .f32 e1114.heat_.a1_, .f .f32 e1114.heat_.a2_, .f .f32 e1114.heat_.a3_] 0), (7, .i .i64 2)]) [] [] hC (VRounds.step (VW.seq (VW.seq (VW.rA (tm 147 [(0, .cptr (pT25 f) 0), (3, .str z1177), (5, .i .i64 i_1034), (6, .cptr [.i .i64 e1114.a_, .i .i64 e1114.b_, .f .f32 e1114.lead_, .f .f32 e1114.store_, .f .f32 e1114.heat_.a0_, .f .f32 e1114.heat_.a1_, .f .f32 e1114.heat_.a2_, .f .f32 e1114.heat_.a3_] 0), (7, .i .i64 2), (86, .b true)]) [] [] hC (VW.condT (by simp) (VW.skip (VW.seq (VW.block ?_)))) (h := by simp -implicitDefEqProofs [(by decide : ltI 2 4 = true)]))))) (h := by simp -implicitDefEqProofs [(by decide : aI .i64 1 1 = 2)])) (h := by simp -implicitDefEqProofs [c1174, q1176, q1178])
       obtain ⟨r1179, q1180, h1⟩ := bindE h1
       have c1180 := tl38 q1180
       obtain ⟨z1181, q1182, h1⟩ := bindE h1
       obtain ⟨z1183, q1184, h1⟩ := bindE h1
       refine VW.rA (tm 147 [(0, .cptr (pT25 f) 0), (3, .str z1183), (5, .i .i64 i_1034), (6, .cptr [.i .i64 e1114.a_, .i .i64 e1114.b_, .f .f32 e1114.lead_, .f .f32 e1114.store_, .f .f32 e1114.heat_.a0_, .f .f32 e1114.heat_.a1_, .f .f32 e1114.heat_.a2_, .f .f32 e1114.heat_.a3_] 0), (7, .i .i64 2)]) [] [] hC (VW.rA (tm 147 [(0, .cptr (pT25 f) 0), (3, .str z1183), (5, .i .i64 i_1034), (6, .cptr [.i .i64 e1114.a_, .i .i64 e1114.b_, .f .f32 e1114.lead_, .f .f32 e1114.store_, .f .f32 e1114.heat_.a0_, .f .f32 e1114.heat_.a1_, .f .f32 e1114.heat_.a2_, .f .f32 e1114.heat_.a3_] 0), (7, .i .i64 3)]) [] [] hC (VRounds.step (VW.seq (VW.seq (VW.rA (tm 147 [(0, .cptr (pT25 f) 0), (3, .str z1183), (5, .i .i64 i_1034), (6, .cptr [.i .i64 e1114.a_, .i .i64 e1114.b_, .f .f32 e1114.lead_, .f .f32 e1114.store_, .f .f32 e1114.heat_.a0_, .f .f32 e1114.heat_.a1_, .f .f32 e1114.heat_.a2_, .f .f32 e1114.heat_.a3_] 0), (7, .i .i64 3), (86, .b true)]) [] [] hC (VW.condT (by simp) (VW.skip (VW.seq (VW.block ?_)))) (h := by simp -implicitDefEqProofs [(by decide : ltI 3 4 = true)]))))) (h := by simp -implicitDefEqProofs [(by decide : aI .i64 2 1 = 3)])) (h := by simp -implicitDefEqProofs [c1180, q1182, q1184])
       obtain ⟨r1185, q1186, h1⟩ := bindE h1
       have c1186 := tl38 q1186
       obtain ⟨z1187, q1188, h1⟩ := bindE h1
       obtain ⟨z1189, q1190, h1⟩ := bindE h1
       exact VW.rA (tm 147 [(0, .cptr (pT25 f) 0), (3, .str z1189), (5, .i .i64 i_1034), (6, .cptr [.i .i64 e1114.a_, .i .i64 e1114.b_, .f .f32 e1114.lead_, .f .f32 e1114.store_, .f .f32 e1114.heat_.a0_, .f .f32 e1114.heat_.a1_, .f .f32 e1114.heat_.a2_, .f .f32 e1114.heat_.a3_] 0), (7, .i .i64 3)]) [] [] hC (VW.rA (tm 147 [(0, .cptr (pT25 f) 0), (3, .str z1189), (5, .i .i64 i_1034), (6, .cptr [.i .i64 e1114.a_, .i .i64 e1114.b_, .f .f32 e1114.lead_, .f .f32 e1114.store_, .f .f32 e1114.heat_.a0_, .f .f32 e1114.heat_.a1_, .f .f32 e1114.heat_.a2_, .f .f32 e1114.heat_.a3_] 0), (7, .i .i64 4)]) [] [] hC (VRounds.step (VW.seq (VW.seq (VW.rA (tm 147 [(0, .cptr (pT25 f) 0), (3, .str z1189), (5, .i .i64 i_1034), (6, .cptr [.i .i64 e1114.a_, .i .i64 e1114.b_, .f .f32 e1114.lead_, .f .f32 e1114.store_, .f .f32 e1114.heat_.a0_, .f .f32 e1114.heat_.a1_, .f .f32 e1114.heat_.a2_, .f .f32 e1114.heat_.a3_] 0), (7, .i .i64 4), (86, .b false)]) [] [] hC (VW.condF (by simp) (VW.exit (vnext z1189 h1 (Ent.tu 0)))) (h := by simp -implicitDefEqProofs [(by decide : ltI 4 4 = false)]))))) (h := by simp -implicitDefEqProofs [(by decide : aI .i64 3 1 = 4)])) (h := by simp -implicitDefEqProofs [c1186, q1188, q1190])
     rintro out_1164 h1
     replace h1 : (g12_j5 i_1034 out_1164).bind _ = _ := h1
     rw [g12_j5] at h1
     obtain ⟨z1165, q1166, h1⟩ := bindE h1
     exact VW.rA (tm 147 [(0, .cptr (pT25 f) 0), (3, .str z1165), (5, .i .i64 i_1034)]) [] [] hC (vnext z1165 h1 (Ent.tu 0)) (h := by simp -implicitDefEqProofs [q1166])
   rintro out_1113 h1
   replace h1 : (g12_j4 i_1034 out_1113).bind _ = _ := h1
   rw [g12_j4] at h1
   exact VW.rA (tm 147 [(0, .cptr (pT25 f) 0), (3, .str out_1113), (5, .i .i64 (aI .i64 i_1034 1))]) [] [] hC (vnext (out_1113, aI .i64 i_1034 1) (leafL h1) (Ent.tu 0))
 rintro out_535 h
 replace h : (g12_j2 f out_535).bind _ = _ := h
 rw [g12_j2] at h
 refine VW.join (fun (v : ByteArray) => (⟨(tm 147 [(3, .str v)]), [], []⟩ : VS)) (fun v => (g12_j3 (v)).bind some = some r) ?_ ?_
 · refine VW.seq (VW.rA (tm 147 [(0, .cptr (pT25 f) 0), (3, .str out_535), (8, .i .i64 0)]) [] [] hC (VW.block ?_))
   obtain ⟨w_1, hw_1, h⟩ := bindE h
   refine VW.loopO (fun (x : ByteArray × Int) => (⟨(tm 147 [(0, .cptr (pT25 f) 0), (3, .str x.1), (8, .i .i64 x.2)]), [], []⟩ : VS)) hw_1 (Ent.tu 0) ?_
   rintro n_1 ⟨out_688, i_689⟩ h1
   rw [g12_L1] at h1
   refine VW.seq (VW.seq (VW.rA (tm 147 [(0, .cptr (pT25 f) 0), (3, .str out_688), (8, .i .i64 i_689), (107, .b (ltI i_689 (f.panes_.length : Int)))]) [] [] hC (VW.condJ h1 (fun h1 => ?_) (fun h1 => ?_))))
   · refine VW.exit ?_
     have e_ := leafR h1
     subst w_1
     exact vnext out_688 h (Ent.tu 0)
   refine VW.skip (VW.seq (VW.block (VW.seq ?_)))
   obtain ⟨e691, ⟨f692a, f692b, f692c, f692d⟩, h1⟩ := bindI h1
   refine VW.rA (tm 147 [(0, .cptr (pT25 f) 0), (3, .str out_688), (8, .i .i64 i_689), (9, .cptr [.i .i64 e691.a_, .i .i64 e691.b_, .f .f32 e691.lead_, .f .f32 e691.sun_] 0)]) [] [] hC ?_ (h := by simp -implicitDefEqProofs [f692a, f692b, f692c, f692d])
   obtain ⟨r693, q694, h1⟩ := bindE h1
   have c694 := tl39 q694
   obtain ⟨z695, q696, h1⟩ := bindE h1
   obtain ⟨z697, q698, h1⟩ := bindE h1
   obtain ⟨r699, q700, h1⟩ := bindE h1
   have c700 := tl39 q700
   obtain ⟨z701, q702, h1⟩ := bindE h1
   obtain ⟨z703, q704, h1⟩ := bindE h1
   obtain ⟨r705, q706, h1⟩ := bindE h1
   have c706 := tl38 q706
   obtain ⟨z707, q708, h1⟩ := bindE h1
   obtain ⟨z709, q710, h1⟩ := bindE h1
   obtain ⟨r711, q712, h1⟩ := bindE h1
   have c712 := tl38 q712
   obtain ⟨z713, q714, h1⟩ := bindE h1
   obtain ⟨z715, q716, h1⟩ := bindE h1
   obtain ⟨z717, q718, h1⟩ := bindE h1
   exact VW.rD (tm 147 [(0, .cptr (pT25 f) 0), (3, .str z717), (8, .i .i64 i_689)]) [] [] hC mixed (VW.rA (tm 147 [(0, .cptr (pT25 f) 0), (3, .str z717), (8, .i .i64 (aI .i64 i_689 1))]) [] [] hC (vnext (z717, aI .i64 i_689 1) (leafL h1) (Ent.tu 0))) (h := by simp -implicitDefEqProofs [c694, q696, q698, c700, q702, q704, c706, q708, q710, c712, q714, q716, q718, pT25])
 rintro out_627 h
 replace h : (g12_j3 out_627).bind _ = _ := h
 rw [g12_j3] at h
 refine VW.seq (VW.rA (tm 147 [(2, .str out_627)]) [] [] hC ?_)
 obtain rfl := leafS h
 exact VW.ret (VRet.fin (by simp [eB12]))
theorem tl12 {f : T25} {r : ByteArray} (h : g12 f = some r) : F12 [.cptr [.sl 1 (rows cf_f32 f.heat_), .sl 1 (rows cf_f32 f.store_), .sl 8 (rows cT47 f.walls_), .sl 4 (rows cT49 f.panes_)] 0] = some (.str r) := tells_eq inj12 (a := f) h
noncomputable def g4_j1 (text : ByteArray) (l457 : List F32) (l458 : List F32) (l459 : List T47) (l460 : List T49) : Option (T25 × Int) :=
(g11 (⟨l457, l458, l459, l460⟩ : T25)).bind fun r461 =>
(if (!r461) = true then some true else (g12 (⟨l457, l458, l459, l460⟩ : T25)).bind fun r463 => some (!eqS r463 text)).bind fun w465 =>
if w465 = true then
some ((⟨[], [], [], []⟩ : T25), 5)
else
some ((⟨l457, l458, l459, l460⟩ : T25), 0)
noncomputable def g4_j2 (i_768 : Int) (x_846 : Bool) (l847 : List F32) (l848 : List F32) (l849 : List T47) (l850 : List T49) : Option ((Int × (List F32) × (List F32) × (List T47) × (List T49)) ⊕ (((List F32) × (List F32) × (List T47) × (List T49)) ⊕ (T25 × Int))) :=
if (!x_846) = true then
some (.inr (.inr ((⟨[], [], [], []⟩ : T25), 5)))
else
some (.inl (aI .i64 i_768 1, l847, l848, l849, l850))
noncomputable def g4_j3 (l771 : List T47) (r873 : Int × Bool) (r877 : Int × Bool) (e894 : F32) (e896 : F32) (i_768 : Int) (l769 : List F32) (l770 : List F32) (l772 : List T49) (y906 : F32) (y907 : F32) (y908 : F32) (y909 : F32) : Option ((Int × (List F32) × (List F32) × (List T47) × (List T49)) ⊕ (((List F32) × (List F32) × (List T47) × (List T49)) ⊕ (T25 × Int))) :=
(appK 40 l771 [(⟨r873.1, r877.1, e894, e896, (⟨y906, y907, y908, y909⟩ : T46)⟩ : T47)]).bind fun u910 =>
g4_j2 i_768 true l769 l770 (l771 ++ [(⟨r873.1, r877.1, e894, e896, (⟨y906, y907, y908, y909⟩ : T46)⟩ : T47)]) l772
noncomputable def g4_L1 (r1 : List ByteArray) : (Int × (List F32) × (List F32) × (List T47) × (List T49)) → Option ((Int × (List F32) × (List F32) × (List T47) × (List T49)) ⊕ (((List F32) × (List F32) × (List T47) × (List T49)) ⊕ (T25 × Int)))
| (i_768, l769, l770, l771, l772) =>
if ltI i_768 (sI .i64 (r1.length : Int) 1) = true then
(idx r1 i_768).bind fun e774 =>
(g9 e774 32).bind fun r776 =>
(idx r776 0).bind fun e852 =>
if eqS e852 (⟨#[114, 111, 111, 109]⟩ : ByteArray) = true then
(cutK 1 (r776.length : Int) r776.length).bind fun u855 =>
(g31 (r776.tail)).bind fun r857 =>
if ((!r857.2) || (!eqI (r857.1.length : Int) 2)) = true then
g4_j2 i_768 false l769 l770 l771 l772
else
(idx r857.1 0).bind fun e860 =>
(appK 4 l769 [e860]).bind fun u862 =>
(idx r857.1 1).bind fun e864 =>
(appK 4 l770 [e864]).bind fun u866 =>
g4_j2 i_768 true (l769 ++ [e860]) (l770 ++ [e864]) l771 l772
else
(idx r776 0).bind fun e868 =>
if (((!eqS e868 (⟨#[119, 97, 108, 108]⟩ : ByteArray)) && (!eqS e868 (⟨#[112, 97, 110, 101]⟩ : ByteArray))) || ltI (r776.length : Int) 5) = true then
g4_j2 i_768 false l769 l770 l771 l772
else
(idx r776 1).bind fun e871 =>
(g32 e871).bind fun r873 =>
(idx r776 2).bind fun e875 =>
(g32 e875).bind fun r877 =>
(cutK 3 (r776.length : Int) r776.length).bind fun u879 =>
(g31 (r776.drop 3)).bind fun r881 =>
if (((!r873.2) || (!r877.2)) || (!r881.2)) = true then
g4_j2 i_768 false l769 l770 l771 l772
else
(idx r776 0).bind fun e884 =>
if eqS e884 (⟨#[112, 97, 110, 101]⟩ : ByteArray) = true then
(idx r881.1 0).bind fun e887 =>
(idx r881.1 1).bind fun e889 =>
(appK 24 l772 [(⟨r873.1, r877.1, e887, e889⟩ : T49)]).bind fun u891 =>
g4_j2 i_768 (eqI (r881.1.length : Int) 2) l769 l770 l771 (l772 ++ [(⟨r873.1, r877.1, e887, e889⟩ : T49)])
else
if (!eqI (r881.1.length : Int) 6) = true then
g4_j2 i_768 false l769 l770 l771 l772
else
(idx r881.1 0).bind fun e894 =>
(idx r881.1 1).bind fun e896 =>
(idx r881.1 2).bind fun e912 =>
(idx r881.1 3).bind fun e914 =>
(idx r881.1 4).bind fun e916 =>
(idx r881.1 5).bind fun e918 =>
g4_j3 l771 r873 r877 e894 e896 i_768 l769 l770 l772 e912 e914 e916 e918
else
some (.inr (.inl (l769, l770, l771, l772)))
noncomputable def g4 (text : ByteArray) : Option (T25 × Int) :=
(g9 text 10).bind fun r1 =>
(idx r1 (sI .i64 (r1.length : Int) 1)).bind fun e3 =>
if ((!eqS e3 ByteArray.empty) || ltI 24 (r1.length : Int)) = true then
some ((⟨[], [], [], []⟩ : T25), 5)
else
(loopO (g4_L1 r1) (0, [], [], [], [])).bind fun w => match w with
| .inl y => g4_j1 text y.1 y.2.1 y.2.2.1 y.2.2.2
| .inr r => some r
def eA4 (a : ByteArray) : List V := [.str a]
def eB4 (r : T25 × Int) : V := .tup [.agg [.own 1 (rows cf_f32 r.1.heat_), .own 1 (rows cf_f32 r.1.store_), .own 8 (rows cT47 r.1.walls_), .own 4 (rows cT49 r.1.panes_)], .i .i64 r.2]
theorem inj4 (a a' : ByteArray) (h : eA4 a = eA4 a') : a = a' := by
  obtain i109 := a
  obtain i110 := a'
  simp only [eA4, List.cons.injEq, V.i.injEq, V.b.injEq, V.f.injEq, V.str.injEq, V.sl.injEq, V.agg.injEq, V.cptr.injEq, true_and, and_true] at h
  simp_all
noncomputable def F4 : List V → Option V := tells (fun a => g4 a) eA4 eB4
/- loop.example/g01229/spec.ReadFlat -/
theorem ok4 : Tells Tryz.prog 4 F4 := by
 refine Tells.go 47 Tryz.func4 rfl rfl rfl (by kernel_rfl) (fun _ => rfl) ?_
 rintro text r h
 simp only [eA4, en, Nat.reduceAdd]
 replace h : (g4 text).bind some = some r := bindS h
 rw [g4] at h
 have hC : CEnv.Ok Tryz.prog [(9, fzF F9), (11, F11), (12, F12), (31, F31), (32, F32c)] := ⟨.inl ok9.fz, .inl ok11, .inl ok12, .inl ok31, .inl ok32, trivial⟩
 refine VW.seq (VW.rE (tm 47 [(0, .str text), (2, .ptr 0 0 0)]) [some (4, [[.nil, .nil, .nil, .nil]])] [] hC (Ent.trans (Ent.nilref (m := [some (4, [[.nil, .nil, .nil, .nil]])]) 0 1 [some (4, [[.ref 1 0 0, .nil, .nil, .nil]]), some (1, rows cf_f32 [])] rfl (by simp) rfl) (Ent.trans (Ent.nilref (m := [some (4, [[.ref 1 0 0, .nil, .nil, .nil]]), some (1, rows cf_f32 [])]) 0 1 [some (4, [[.ref 1 0 0, .ref 2 0 0, .nil, .nil]]), some (1, rows cf_f32 []), some (1, rows cf_f32 [])] rfl (by simp) rfl) (Ent.trans (Ent.nilref (m := [some (4, [[.ref 1 0 0, .ref 2 0 0, .nil, .nil]]), some (1, rows cf_f32 []), some (1, rows cf_f32 [])]) 0 8 [some (4, [[.ref 1 0 0, .ref 2 0 0, .ref 3 0 0, .nil]]), some (1, rows cf_f32 []), some (1, rows cf_f32 []), some (8, rows cT47 [])] rfl (by simp) rfl) (Ent.nilref (m := [some (4, [[.ref 1 0 0, .ref 2 0 0, .ref 3 0 0, .nil]]), some (1, rows cf_f32 []), some (1, rows cf_f32 []), some (8, rows cT47 [])]) 0 4 [some (4, [[.ref 1 0 0, .ref 2 0 0, .ref 3 0 0, .ref 4 0 0]]), some (1, rows cf_f32 []), some (1, rows cf_f32 []), some (8, rows cT47 []), some (4, rows cT49 [])] rfl (by simp) rfl) ) ) ) (VW.seq ?_))
 obtain ⟨r1, q2, h⟩ := bindE h
 have c2 := tl9 q2
 replace c2 : fzF F9 [.str text, .i .u8 10] = some (.sl 1 (rows cs_ r1)) := (fzF_eq c2).trans (by simp)
 refine VW.rA (tm 47 [(0, .str text), (2, .ptr 0 0 0), (4, .sl 1 (rows cs_ r1))]) [some (4, [[.ref 1 0 0, .ref 2 0 0, .ref 3 0 0, .ref 4 0 0]]), some (1, rows cf_f32 []), some (1, rows cf_f32 []), some (8, rows cT47 []), some (4, rows cT49 [])] [] hC (VW.seq (VW.rA (tm 47 [(0, .str text), (2, .ptr 0 0 0), (4, .sl 1 (rows cs_ r1)), (5, .i .i64 (r1.length : Int))]) [some (4, [[.ref 1 0 0, .ref 2 0 0, .ref 3 0 0, .ref 4 0 0]]), some (1, rows cf_f32 []), some (1, rows cf_f32 []), some (8, rows cT47 []), some (4, rows cT49 [])] [] hC (VW.seq (VW.seq ?_)))) (h := by simp -implicitDefEqProofs [c2])
 obtain ⟨e3, ⟨f4a, f4b, f4c, f4d⟩, h⟩ := bindI h
 try simp only [Int.toNat_natCast, Int.reduceToNat] at f4a f4b f4c f4d
 refine VW.rA (tm 47 [(0, .str text), (2, .ptr 0 0 0), (4, .sl 1 (rows cs_ r1)), (5, .i .i64 (r1.length : Int)), (21, .b ((!eqS e3 ByteArray.empty) || ltI 24 (r1.length : Int)))]) [some (4, [[.ref 1 0 0, .ref 2 0 0, .ref 3 0 0, .ref 4 0 0]]), some (1, rows cf_f32 []), some (1, rows cf_f32 []), some (8, rows cT47 []), some (4, rows cT49 [])] [] hC (VW.condI h (fun h => ?_) (fun h => ?_)) (h := by simp -implicitDefEqProofs [f4a, f4b, f4c, f4d])
 · refine VW.seq (VW.rE (tm 47 [(2, .ptr 0 0 0), (3, .i .i64 5)]) [some (4, [[.nil, .nil, .nil, .nil]]), some (1, rows cf_f32 []), some (1, rows cf_f32 []), some (8, rows cT47 []), some (4, rows cT49 [])] [] hC (Ent.trans (Ent.nilref (m := [some (4, [[.nil, .nil, .nil, .nil]]), some (1, rows cf_f32 []), some (1, rows cf_f32 []), some (8, rows cT47 []), some (4, rows cT49 [])]) 0 1 [some (4, [[.ref 5 0 0, .nil, .nil, .nil]]), some (1, rows cf_f32 []), some (1, rows cf_f32 []), some (8, rows cT47 []), some (4, rows cT49 []), some (1, rows cf_f32 [])] rfl (by simp) rfl) (Ent.trans (Ent.nilref (m := [some (4, [[.ref 5 0 0, .nil, .nil, .nil]]), some (1, rows cf_f32 []), some (1, rows cf_f32 []), some (8, rows cT47 []), some (4, rows cT49 []), some (1, rows cf_f32 [])]) 0 1 [some (4, [[.ref 5 0 0, .ref 6 0 0, .nil, .nil]]), some (1, rows cf_f32 []), some (1, rows cf_f32 []), some (8, rows cT47 []), some (4, rows cT49 []), some (1, rows cf_f32 []), some (1, rows cf_f32 [])] rfl (by simp) rfl) (Ent.trans (Ent.nilref (m := [some (4, [[.ref 5 0 0, .ref 6 0 0, .nil, .nil]]), some (1, rows cf_f32 []), some (1, rows cf_f32 []), some (8, rows cT47 []), some (4, rows cT49 []), some (1, rows cf_f32 []), some (1, rows cf_f32 [])]) 0 8 [some (4, [[.ref 5 0 0, .ref 6 0 0, .ref 7 0 0, .nil]]), some (1, rows cf_f32 []), some (1, rows cf_f32 []), some (8, rows cT47 []), some (4, rows cT49 []), some (1, rows cf_f32 []), some (1, rows cf_f32 []), some (8, rows cT47 [])] rfl (by simp) rfl) (Ent.nilref (m := [some (4, [[.ref 5 0 0, .ref 6 0 0, .ref 7 0 0, .nil]]), some (1, rows cf_f32 []), some (1, rows cf_f32 []), some (8, rows cT47 []), some (4, rows cT49 []), some (1, rows cf_f32 []), some (1, rows cf_f32 []), some (8, rows cT47 [])]) 0 4 [some (4, [[.ref 5 0 0, .ref 6 0 0, .ref 7 0 0, .ref 8 0 0]]), some (1, rows cf_f32 []), some (1, rows cf_f32 []), some (8, rows cT47 []), some (4, rows cT49 []), some (1, rows cf_f32 []), some (1, rows cf_f32 []), some (8, rows cT47 []), some (4, rows cT49 [])] rfl (by simp) rfl) ) ) ) ?_)
   obtain rfl := leafS h
   exact VW.ret (VRet.fin (by simp [eB4]))
 refine VW.skip (VW.seq (VW.rE (tm 47 [(0, .str text), (2, .ptr 0 0 0), (4, .sl 1 (rows cs_ r1)), (5, .i .i64 (r1.length : Int)), (6, .ptr 5 0 0)]) [some (4, [[.ref 1 0 0, .ref 2 0 0, .ref 3 0 0, .ref 4 0 0]]), some (1, rows cf_f32 []), some (1, rows cf_f32 []), some (8, rows cT47 []), some (4, rows cT49 []), some (4, [[.nil, .nil, .nil, .nil]])] [] hC (Ent.trans (Ent.nilref (m := [some (4, [[.ref 1 0 0, .ref 2 0 0, .ref 3 0 0, .ref 4 0 0]]), some (1, rows cf_f32 []), some (1, rows cf_f32 []), some (8, rows cT47 []), some (4, rows cT49 []), some (4, [[.nil, .nil, .nil, .nil]])]) 5 1 [some (4, [[.ref 1 0 0, .ref 2 0 0, .ref 3 0 0, .ref 4 0 0]]), some (1, rows cf_f32 []), some (1, rows cf_f32 []), some (8, rows cT47 []), some (4, rows cT49 []), some (4, [[.ref 6 0 0, .nil, .nil, .nil]]), some (1, rows cf_f32 [])] rfl (by simp) rfl) (Ent.trans (Ent.nilref (m := [some (4, [[.ref 1 0 0, .ref 2 0 0, .ref 3 0 0, .ref 4 0 0]]), some (1, rows cf_f32 []), some (1, rows cf_f32 []), some (8, rows cT47 []), some (4, rows cT49 []), some (4, [[.ref 6 0 0, .nil, .nil, .nil]]), some (1, rows cf_f32 [])]) 5 1 [some (4, [[.ref 1 0 0, .ref 2 0 0, .ref 3 0 0, .ref 4 0 0]]), some (1, rows cf_f32 []), some (1, rows cf_f32 []), some (8, rows cT47 []), some (4, rows cT49 []), some (4, [[.ref 6 0 0, .ref 7 0 0, .nil, .nil]]), some (1, rows cf_f32 []), some (1, rows cf_f32 [])] rfl (by simp) rfl) (Ent.trans (Ent.nilref (m := [some (4, [[.ref 1 0 0, .ref 2 0 0, .ref 3 0 0, .ref 4 0 0]]), some (1, rows cf_f32 []), some (1, rows cf_f32 []), some (8, rows cT47 []), some (4, rows cT49 []), some (4, [[.ref 6 0 0, .ref 7 0 0, .nil, .nil]]), some (1, rows cf_f32 []), some (1, rows cf_f32 [])]) 5 8 [some (4, [[.ref 1 0 0, .ref 2 0 0, .ref 3 0 0, .ref 4 0 0]]), some (1, rows cf_f32 []), some (1, rows cf_f32 []), some (8, rows cT47 []), some (4, rows cT49 []), some (4, [[.ref 6 0 0, .ref 7 0 0, .ref 8 0 0, .nil]]), some (1, rows cf_f32 []), some (1, rows cf_f32 []), some (8, rows cT47 [])] rfl (by simp) rfl) (Ent.nilref (m := [some (4, [[.ref 1 0 0, .ref 2 0 0, .ref 3 0 0, .ref 4 0 0]]), some (1, rows cf_f32 []), some (1, rows cf_f32 []), some (8, rows cT47 []), some (4, rows cT49 []), some (4, [[.ref 6 0 0, .ref 7 0 0, .ref 8 0 0, .nil]]), some (1, rows cf_f32 []), some (1, rows cf_f32 []), some (8, rows cT47 [])]) 5 4 [some (4, [[.ref 1 0 0, .ref 2 0 0, .ref 3 0 0, .ref 4 0 0]]), some (1, rows cf_f32 []), some (1, rows cf_f32 []), some (8, rows cT47 []), some (4, rows cT49 []), some (4, [[.ref 6 0 0, .ref 7 0 0, .ref 8 0 0, .ref 9 0 0]]), some (1, rows cf_f32 []), some (1, rows cf_f32 []), some (8, rows cT47 []), some (4, rows cT49 [])] rfl (by simp) rfl) ) ) ) (VW.join (fun (v : (List F32) × (List F32) × (List T47) × (List T49)) => (⟨(tm 47 [(0, .str text), (2, .ptr 0 0 0), (6, .ptr 5 0 0)]), [some (4, [[.ref 1 0 0, .ref 2 0 0, .ref 3 0 0, .ref 4 0 0]]), some (1, rows cf_f32 []), some (1, rows cf_f32 []), some (8, rows cT47 []), some (4, rows cT49 []), some (4, [[.ref 6 0 v.1.length, .ref 7 0 v.2.1.length, .ref 8 0 v.2.2.1.length, .ref 9 0 v.2.2.2.length]]), some (1, rows cf_f32 v.1), some (1, rows cf_f32 v.2.1), some (8, rows cT47 v.2.2.1), some (4, rows cT49 v.2.2.2)], []⟩ : VS)) (fun v => (g4_j1 text (v.1) (v.2.1) (v.2.2.1) (v.2.2.2)).bind some = some r) ?_ ?_)))
 · refine VW.seq (VW.rA (tm 47 [(0, .str text), (2, .ptr 0 0 0), (4, .sl 1 (rows cs_ r1)), (5, .i .i64 (r1.length : Int)), (6, .ptr 5 0 0), (7, .i .i64 0)]) [some (4, [[.ref 1 0 0, .ref 2 0 0, .ref 3 0 0, .ref 4 0 0]]), some (1, rows cf_f32 []), some (1, rows cf_f32 []), some (8, rows cT47 []), some (4, rows cT49 []), some (4, [[.ref 6 0 0, .ref 7 0 0, .ref 8 0 0, .ref 9 0 0]]), some (1, rows cf_f32 []), some (1, rows cf_f32 []), some (8, rows cT47 []), some (4, rows cT49 [])] [] hC (VW.block ?_))
   obtain ⟨w_1, hw_1, h⟩ := bindE h
   refine VW.loopO (fun (x : Int × (List F32) × (List F32) × (List T47) × (List T49)) => (⟨(tm 47 [(0, .str text), (2, .ptr 0 0 0), (4, .sl 1 (rows cs_ r1)), (5, .i .i64 (r1.length : Int)), (6, .ptr 5 0 0), (7, .i .i64 x.1)]), [some (4, [[.ref 1 0 0, .ref 2 0 0, .ref 3 0 0, .ref 4 0 0]]), some (1, rows cf_f32 []), some (1, rows cf_f32 []), some (8, rows cT47 []), some (4, rows cT49 []), some (4, [[.ref 6 0 x.2.1.length, .ref 7 0 x.2.2.1.length, .ref 8 0 x.2.2.2.1.length, .ref 9 0 x.2.2.2.2.length]]), some (1, rows cf_f32 x.2.1), some (1, rows cf_f32 x.2.2.1), some (8, rows cT47 x.2.2.2.1), some (4, rows cT49 x.2.2.2.2)], []⟩ : VS)) hw_1 (Ent.tu 10) ?_
   rintro n_1 ⟨i_768, l769, l770, l771, l772⟩ h1
   rw [g4_L1] at h1
   refine VW.seq (VW.seq (VW.rA (tm 47 [(0, .str text), (2, .ptr 0 0 0), (4, .sl 1 (rows cs_ r1)), (5, .i .i64 (r1.length : Int)), (6, .ptr 5 0 0), (7, .i .i64 i_768), (27, .b (ltI i_768 (sI .i64 (r1.length : Int) 1)))]) [some (4, [[.ref 1 0 0, .ref 2 0 0, .ref 3 0 0, .ref 4 0 0]]), some (1, rows cf_f32 []), some (1, rows cf_f32 []), some (8, rows cT47 []), some (4, rows cT49 []), some (4, [[.ref 6 0 l769.length, .ref 7 0 l770.length, .ref 8 0 l771.length, .ref 9 0 l772.length]]), some (1, rows cf_f32 l769), some (1, rows cf_f32 l770), some (8, rows cT47 l771), some (4, rows cT49 l772)] [] hC (VW.condJ h1 (fun h1 => ?_) (fun h1 => ?_))))
   · refine VW.exit ?_
     have e_ := leafR h1
     subst w_1
     exact vnext (l769, l770, l771, l772) h (Ent.tu 10)
   refine VW.skip (VW.seq (VW.block (VW.seq (VW.inlS ?_))))
   obtain ⟨e774, ⟨f775a, f775b, f775c, f775d⟩, h1⟩ := bindI h1
   obtain ⟨r776, q777, h1⟩ := bindE h1
   have c777 := tl9 q777
   replace c777 : fzF F9 [.str e774, .i .u8 32] = some (.sl 1 (rows cs_ r776)) := (fzF_eq c777).trans (by simp)
   refine VL.inlJ 5 (tm 47 [(0, .str text), (2, .ptr 0 0 0), (4, .sl 1 (rows cs_ r1)), (5, .i .i64 (r1.length : Int)), (6, .ptr 5 0 0), (7, .i .i64 i_768), (34, .sl 1 (rows cs_ r776))]) [some (4, [[.ref 1 0 0, .ref 2 0 0, .ref 3 0 0, .ref 4 0 0]]), some (1, rows cf_f32 []), some (1, rows cf_f32 []), some (8, rows cT47 []), some (4, rows cT49 []), some (4, [[.ref 6 0 l769.length, .ref 7 0 l770.length, .ref 8 0 l771.length, .ref 9 0 l772.length]]), some (1, rows cf_f32 l769), some (1, rows cf_f32 l770), some (8, rows cT47 l771), some (4, rows cT49 l772)] [] rfl hC (by kernel_rfl) (by simp -implicitDefEqProofs [f775a, f775b, f775c, f775d, c777]) rfl rfl Tryz.func10 rfl rfl rfl rfl (tm_length) (fun (v : Bool × (List F32) × (List F32) × (List T47) × (List T49)) => (⟨(tm 47 [(0, .str text), (2, .ptr 0 0 0), (4, .sl 1 (rows cs_ r1)), (5, .i .i64 (r1.length : Int)), (6, .ptr 5 0 0), (7, .i .i64 i_768), (35, .b v.1)]), [some (4, [[.ref 1 0 0, .ref 2 0 0, .ref 3 0 0, .ref 4 0 0]]), some (1, rows cf_f32 []), some (1, rows cf_f32 []), some (8, rows cT47 []), some (4, rows cT49 []), some (4, [[.ref 6 0 v.2.1.length, .ref 7 0 v.2.2.1.length, .ref 8 0 v.2.2.2.1.length, .ref 9 0 v.2.2.2.2.length]]), some (1, rows cf_f32 v.2.1), some (1, rows cf_f32 v.2.2.1), some (8, rows cT47 v.2.2.2.1), some (4, rows cT49 v.2.2.2.2)], []⟩ : VS)) (fun v => (g4_j2 i_768 (v.1) (v.2.1) (v.2.2.1) (v.2.2.2.1) (v.2.2.2.2)).bind (kN (g4_L1 r1) n_1) = some w_1) ?_ ?_
   · refine VW.ent (s := (⟨(tm 160 [(0, .ptr 5 0 0), (1, .sl 1 (rows cs_ r776))]), [some (4, [[.ref 1 0 0, .ref 2 0 0, .ref 3 0 0, .ref 4 0 0]]), some (1, rows cf_f32 []), some (1, rows cf_f32 []), some (8, rows cT47 []), some (4, rows cT49 []), some (4, [[.ref 6 0 l769.length, .ref 7 0 l770.length, .ref 8 0 l771.length, .ref 9 0 l772.length]]), some (1, rows cf_f32 l769), some (1, rows cf_f32 l770), some (8, rows cT47 l771), some (4, rows cT49 l772)], ((tm 47 [(0, .str text), (2, .ptr 0 0 0), (4, .sl 1 (rows cs_ r1)), (5, .i .i64 (r1.length : Int)), (6, .ptr 5 0 0), (7, .i .i64 i_768), (34, .sl 1 (rows cs_ r776))]) ++ [])⟩ : VS)) (Ent.eqs (by rw [tm_init]; simp) rfl (by simp)) (VW.seq (VW.rA (tm 160 [(0, .ptr 5 0 0), (1, .sl 1 (rows cs_ r776))]) [some (4, [[.ref 1 0 0, .ref 2 0 0, .ref 3 0 0, .ref 4 0 0]]), some (1, rows cf_f32 []), some (1, rows cf_f32 []), some (8, rows cT47 []), some (4, rows cT49 []), some (4, [[.ref 6 0 l769.length, .ref 7 0 l770.length, .ref 8 0 l771.length, .ref 9 0 l772.length]]), some (1, rows cf_f32 l769), some (1, rows cf_f32 l770), some (8, rows cT47 l771), some (4, rows cT49 l772)] ((tm 47 [(0, .str text), (2, .ptr 0 0 0), (4, .sl 1 (rows cs_ r1)), (5, .i .i64 (r1.length : Int)), (6, .ptr 5 0 0), (7, .i .i64 i_768), (34, .sl 1 (rows cs_ r776))]) ++ []) hC (VW.seq (VW.seq ?_))))
     obtain ⟨e852, ⟨f853a, f853b, f853c, f853d⟩, h1⟩ := bindI h1
     try simp only [Int.toNat_natCast, Int.reduceToNat] at f853a f853b f853c f853d
     refine VW.rA (tm 160 [(0, .ptr 5 0 0), (1, .sl 1 (rows cs_ r776)), (18, .b (eqS e852 (⟨#[114, 111, 111, 109]⟩ : ByteArray)))]) [some (4, [[.ref 1 0 0, .ref 2 0 0, .ref 3 0 0, .ref 4 0 0]]), some (1, rows cf_f32 []), some (1, rows cf_f32 []), some (8, rows cT47 []), some (4, rows cT49 []), some (4, [[.ref 6 0 l769.length, .ref 7 0 l770.length, .ref 8 0 l771.length, .ref 9 0 l772.length]]), some (1, rows cf_f32 l769), some (1, rows cf_f32 l770), some (8, rows cT47 l771), some (4, rows cT49 l772)] ((tm 47 [(0, .str text), (2, .ptr 0 0 0), (4, .sl 1 (rows cs_ r1)), (5, .i .i64 (r1.length : Int)), (6, .ptr 5 0 0), (7, .i .i64 i_768), (34, .sl 1 (rows cs_ r776))]) ++ []) hC (VW.condI h1 (fun h1 => ?_) (fun h1 => ?_)) (h := by simp -implicitDefEqProofs [f853a, f853b, f853c, f853d])
     · refine VW.seq ?_
       obtain ⟨u855, ⟨f856a, f856b, f856c, f856d, f856e⟩, h1⟩ := bindC h1
       try simp only [Int.toNat_natCast, Int.reduceToNat, List.length_cons, List.length_nil, Nat.reduceAdd, Nat.zero_add] at f856a f856b f856c f856d f856e
       obtain ⟨r857, q858, h1⟩ := bindE h1
       have c858 := tl31 q858
       refine VW.rA (tm 160 [(0, .ptr 5 0 0), (5, .ref 10 0 r857.1.length), (6, .b r857.2)]) [some (4, [[.ref 1 0 0, .ref 2 0 0, .ref 3 0 0, .ref 4 0 0]]), some (1, rows cf_f32 []), some (1, rows cf_f32 []), some (8, rows cT47 []), some (4, rows cT49 []), some (4, [[.ref 6 0 l769.length, .ref 7 0 l770.length, .ref 8 0 l771.length, .ref 9 0 l772.length]]), some (1, rows cf_f32 l769), some (1, rows cf_f32 l770), some (8, rows cT47 l771), some (4, rows cT49 l772), some (1, rows cf_f32 r857.1)] ((tm 47 [(0, .str text), (2, .ptr 0 0 0), (4, .sl 1 (rows cs_ r1)), (5, .i .i64 (r1.length : Int)), (6, .ptr 5 0 0), (7, .i .i64 i_768), (34, .sl 1 (rows cs_ r776))]) ++ []) hC (VW.seq (VW.seq (VW.rA (tm 160 [(0, .ptr 5 0 0), (5, .ref 10 0 r857.1.length), (31, .b ((!r857.2) || (!eqI (r857.1.length : Int) 2)))]) [some (4, [[.ref 1 0 0, .ref 2 0 0, .ref 3 0 0, .ref 4 0 0]]), some (1, rows cf_f32 []), some (1, rows cf_f32 []), some (8, rows cT47 []), some (4, rows cT49 []), some (4, [[.ref 6 0 l769.length, .ref 7 0 l770.length, .ref 8 0 l771.length, .ref 9 0 l772.length]]), some (1, rows cf_f32 l769), some (1, rows cf_f32 l770), some (8, rows cT47 l771), some (4, rows cT49 l772), some (1, rows cf_f32 r857.1)] ((tm 47 [(0, .str text), (2, .ptr 0 0 0), (4, .sl 1 (rows cs_ r1)), (5, .i .i64 (r1.length : Int)), (6, .ptr 5 0 0), (7, .i .i64 i_768), (34, .sl 1 (rows cs_ r776))]) ++ []) hC (VW.condI h1 (fun h1 => ?_) (fun h1 => ?_))))) (h := by simp -implicitDefEqProofs [f856a, f856b, f856c, f856d, f856e, c858])
       · exact VW.seq (VW.rA (tm 160 [(4, .b false)]) [some (4, [[.ref 1 0 0, .ref 2 0 0, .ref 3 0 0, .ref 4 0 0]]), some (1, rows cf_f32 []), some (1, rows cf_f32 []), some (8, rows cT47 []), some (4, rows cT49 []), some (4, [[.ref 6 0 l769.length, .ref 7 0 l770.length, .ref 8 0 l771.length, .ref 9 0 l772.length]]), some (1, rows cf_f32 l769), some (1, rows cf_f32 l770), some (8, rows cT47 l771), some (4, rows cT49 l772), some (1, rows cf_f32 r857.1)] ((tm 47 [(0, .str text), (2, .ptr 0 0 0), (4, .sl 1 (rows cs_ r1)), (5, .i .i64 (r1.length : Int)), (6, .ptr 5 0 0), (7, .i .i64 i_768), (34, .sl 1 (rows cs_ r776))]) ++ []) hC (VW.ret (VInJ.retL (.b false) (false, l769, l770, l771, l772) (tm 47 [(0, .str text), (2, .ptr 0 0 0), (4, .sl 1 (rows cs_ r1)), (5, .i .i64 (r1.length : Int)), (6, .ptr 5 0 0), (7, .i .i64 i_768), (35, .b false)]) (by simp) h1 (by simp) [] (by simp) (Ent.tu 10))))
       refine VW.skip (VW.seq ?_)
       obtain ⟨e860, ⟨f861a, f861b, f861c, f861d⟩, h1⟩ := bindI h1
       try simp only [Int.toNat_natCast, Int.reduceToNat] at f861a f861b f861c f861d
       obtain ⟨u862, ⟨f863a, f863b⟩, h1⟩ := bindP h1
       try simp only [Int.toNat_natCast, Int.reduceToNat, List.length_cons, List.length_nil, Nat.reduceAdd, Nat.zero_add] at f863a f863b
       refine VW.evalMid (CM := []) 9 [([], [10, 11, 12]), ([0], [0, 10, 11, 12])] (tm 160 [(0, .ptr 5 0 0), (5, .ref 10 0 r857.1.length)]) [some (4, [[.ref 1 0 0, .ref 2 0 0, .ref 3 0 0, .ref 4 0 0]]), some (1, rows cf_f32 []), some (1, rows cf_f32 []), some (8, rows cT47 []), some (4, rows cT49 []), some (4, [[.ref 6 0 (l769 ++ [e860]).length, .ref 7 0 l770.length, .ref 8 0 l771.length, .ref 9 0 l772.length]]), some (1, rows cf_f32 (l769 ++ [e860])), some (1, rows cf_f32 l770), some (8, rows cT47 l771), some (4, rows cT49 l772), some (1, rows cf_f32 r857.1), some (1, rows cf_f32 [e860])] ((tm 47 [(0, .str text), (2, .ptr 0 0 0), (4, .sl 1 (rows cs_ r1)), (5, .i .i64 (r1.length : Int)), (6, .ptr 5 0 0), (7, .i .i64 i_768), (34, .sl 1 (rows cs_ r776))]) ++ []) hC trivial mixed (by kernel_rfl) (by kernel_rfl) (by simp -implicitDefEqProofs [f861a, f861b, f861c, f861d, f863a, f863b]) (VW.seq ?_)
       obtain ⟨e864, ⟨f865a, f865b, f865c, f865d⟩, h1⟩ := bindI h1
       try simp only [Int.toNat_natCast, Int.reduceToNat] at f865a f865b f865c f865d
       obtain ⟨u866, ⟨f867a, f867b⟩, h1⟩ := bindP h1
       try simp only [Int.toNat_natCast, Int.reduceToNat, List.length_cons, List.length_nil, Nat.reduceAdd, Nat.zero_add] at f867a f867b
       exact VW.evalMid (CM := []) 9 [([], [10, 11, 12]), ([0], [0, 10, 11, 12])] (tm 160 []) [some (4, [[.ref 1 0 0, .ref 2 0 0, .ref 3 0 0, .ref 4 0 0]]), some (1, rows cf_f32 []), some (1, rows cf_f32 []), some (8, rows cT47 []), some (4, rows cT49 []), some (4, [[.ref 6 0 (l769 ++ [e860]).length, .ref 7 0 (l770 ++ [e864]).length, .ref 8 0 l771.length, .ref 9 0 l772.length]]), some (1, rows cf_f32 (l769 ++ [e860])), some (1, rows cf_f32 (l770 ++ [e864])), some (8, rows cT47 l771), some (4, rows cT49 l772), some (1, rows cf_f32 r857.1), some (1, rows cf_f32 [e860]), some (1, rows cf_f32 [e864])] ((tm 47 [(0, .str text), (2, .ptr 0 0 0), (4, .sl 1 (rows cs_ r1)), (5, .i .i64 (r1.length : Int)), (6, .ptr 5 0 0), (7, .i .i64 i_768), (34, .sl 1 (rows cs_ r776))]) ++ []) hC trivial mixed (by kernel_rfl) (by kernel_rfl) (by simp -implicitDefEqProofs [f865a, f865b, f865c, f865d, f867a, f867b]) (VW.seq (VW.rA (tm 160 [(4, .b true)]) [some (4, [[.ref 1 0 0, .ref 2 0 0, .ref 3 0 0, .ref 4 0 0]]), some (1, rows cf_f32 []), some (1, rows cf_f32 []), some (8, rows cT47 []), some (4, rows cT49 []), some (4, [[.ref 6 0 (l769 ++ [e860]).length, .ref 7 0 (l770 ++ [e864]).length, .ref 8 0 l771.length, .ref 9 0 l772.length]]), some (1, rows cf_f32 (l769 ++ [e860])), some (1, rows cf_f32 (l770 ++ [e864])), some (8, rows cT47 l771), some (4, rows cT49 l772), some (1, rows cf_f32 r857.1), some (1, rows cf_f32 [e860]), some (1, rows cf_f32 [e864])] ((tm 47 [(0, .str text), (2, .ptr 0 0 0), (4, .sl 1 (rows cs_ r1)), (5, .i .i64 (r1.length : Int)), (6, .ptr 5 0 0), (7, .i .i64 i_768), (34, .sl 1 (rows cs_ r776))]) ++ []) hC (VW.ret (VInJ.retL (.b true) (true, (l769 ++ [e860]), (l770 ++ [e864]), l771, l772) (tm 47 [(0, .str text), (2, .ptr 0 0 0), (4, .sl 1 (rows cs_ r1)), (5, .i .i64 (r1.length : Int)), (6, .ptr 5 0 0), (7, .i .i64 i_768), (35, .b true)]) (by simp) h1 (by simp) [] (by simp) (Ent.tu 10)))))
     refine VW.skip (VW.seq (VW.seq ?_))
     obtain ⟨e868, ⟨f869a, f869b, f869c, f869d⟩, h1⟩ := bindI h1
     try simp only [Int.toNat_natCast, Int.reduceToNat] at f869a f869b f869c f869d
     refine VW.rA (tm 160 [(0, .ptr 5 0 0), (1, .sl 1 (rows cs_ r776)), (70, .b (((!eqS e868 (⟨#[119, 97, 108, 108]⟩ : ByteArray)) && (!eqS e868 (⟨#[112, 97, 110, 101]⟩ : ByteArray))) || ltI (r776.length : Int) 5))]) [some (4, [[.ref 1 0 0, .ref 2 0 0, .ref 3 0 0, .ref 4 0 0]]), some (1, rows cf_f32 []), some (1, rows cf_f32 []), some (8, rows cT47 []), some (4, rows cT49 []), some (4, [[.ref 6 0 l769.length, .ref 7 0 l770.length, .ref 8 0 l771.length, .ref 9 0 l772.length]]), some (1, rows cf_f32 l769), some (1, rows cf_f32 l770), some (8, rows cT47 l771), some (4, rows cT49 l772)] ((tm 47 [(0, .str text), (2, .ptr 0 0 0), (4, .sl 1 (rows cs_ r1)), (5, .i .i64 (r1.length : Int)), (6, .ptr 5 0 0), (7, .i .i64 i_768), (34, .sl 1 (rows cs_ r776))]) ++ []) hC (VW.condI h1 (fun h1 => ?_) (fun h1 => ?_)) (h := by simp -implicitDefEqProofs [f869a, f869b, f869c, f869d])
     · exact VW.seq (VW.rA (tm 160 [(4, .b false)]) [some (4, [[.ref 1 0 0, .ref 2 0 0, .ref 3 0 0, .ref 4 0 0]]), some (1, rows cf_f32 []), some (1, rows cf_f32 []), some (8, rows cT47 []), some (4, rows cT49 []), some (4, [[.ref 6 0 l769.length, .ref 7 0 l770.length, .ref 8 0 l771.length, .ref 9 0 l772.length]]), some (1, rows cf_f32 l769), some (1, rows cf_f32 l770), some (8, rows cT47 l771), some (4, rows cT49 l772)] ((tm 47 [(0, .str text), (2, .ptr 0 0 0), (4, .sl 1 (rows cs_ r1)), (5, .i .i64 (r1.length : Int)), (6, .ptr 5 0 0), (7, .i .i64 i_768), (34, .sl 1 (rows cs_ r776))]) ++ []) hC (VW.ret (VInJ.retL (.b false) (false, l769, l770, l771, l772) (tm 47 [(0, .str text), (2, .ptr 0 0 0), (4, .sl 1 (rows cs_ r1)), (5, .i .i64 (r1.length : Int)), (6, .ptr 5 0 0), (7, .i .i64 i_768), (35, .b false)]) (by simp) h1 (by simp) [] (by simp) (Ent.tu 10))))
     refine VW.skip (VW.seq ?_)
     obtain ⟨e871, ⟨f872a, f872b, f872c, f872d⟩, h1⟩ := bindI h1
     try simp only [Int.toNat_natCast, Int.reduceToNat] at f872a f872b f872c f872d
     obtain ⟨r873, q874, h1⟩ := bindE h1
     have c874 := tl32 q874
     refine VW.rA (tm 160 [(0, .ptr 5 0 0), (1, .sl 1 (rows cs_ r776)), (7, .i .i64 r873.1), (8, .b r873.2)]) [some (4, [[.ref 1 0 0, .ref 2 0 0, .ref 3 0 0, .ref 4 0 0]]), some (1, rows cf_f32 []), some (1, rows cf_f32 []), some (8, rows cT47 []), some (4, rows cT49 []), some (4, [[.ref 6 0 l769.length, .ref 7 0 l770.length, .ref 8 0 l771.length, .ref 9 0 l772.length]]), some (1, rows cf_f32 l769), some (1, rows cf_f32 l770), some (8, rows cT47 l771), some (4, rows cT49 l772)] ((tm 47 [(0, .str text), (2, .ptr 0 0 0), (4, .sl 1 (rows cs_ r1)), (5, .i .i64 (r1.length : Int)), (6, .ptr 5 0 0), (7, .i .i64 i_768), (34, .sl 1 (rows cs_ r776))]) ++ []) hC (VW.seq ?_) (h := by simp -implicitDefEqProofs [f872a, f872b, f872c, f872d, c874])
     obtain ⟨e875, ⟨f876a, f876b, f876c, f876d⟩, h1⟩ := bindI h1
     try simp only [Int.toNat_natCast, Int.reduceToNat] at f876a f876b f876c f876d
     obtain ⟨r877, q878, h1⟩ := bindE h1
     have c878 := tl32 q878
     refine VW.rA (tm 160 [(0, .ptr 5 0 0), (1, .sl 1 (rows cs_ r776)), (7, .i .i64 r873.1), (8, .b r873.2), (9, .i .i64 r877.1), (10, .b r877.2)]) [some (4, [[.ref 1 0 0, .ref 2 0 0, .ref 3 0 0, .ref 4 0 0]]), some (1, rows cf_f32 []), some (1, rows cf_f32 []), some (8, rows cT47 []), some (4, rows cT49 []), some (4, [[.ref 6 0 l769.length, .ref 7 0 l770.length, .ref 8 0 l771.length, .ref 9 0 l772.length]]), some (1, rows cf_f32 l769), some (1, rows cf_f32 l770), some (8, rows cT47 l771), some (4, rows cT49 l772)] ((tm 47 [(0, .str text), (2, .ptr 0 0 0), (4, .sl 1 (rows cs_ r1)), (5, .i .i64 (r1.length : Int)), (6, .ptr 5 0 0), (7, .i .i64 i_768), (34, .sl 1 (rows cs_ r776))]) ++ []) hC (VW.seq ?_) (h := by simp -implicitDefEqProofs [f876a, f876b, f876c, f876d, c878])
     obtain ⟨u879, ⟨f880a, f880b, f880c, f880d, f880e⟩, h1⟩ := bindC h1
     try simp only [Int.toNat_natCast, Int.reduceToNat, List.length_cons, List.length_nil, Nat.reduceAdd, Nat.zero_add] at f880a f880b f880c f880d f880e
     obtain ⟨r881, q882, h1⟩ := bindE h1
     have c882 := tl31 q882
     refine VW.rA (tm 160 [(0, .ptr 5 0 0), (1, .sl 1 (rows cs_ r776)), (7, .i .i64 r873.1), (8, .b r873.2), (9, .i .i64 r877.1), (10, .b r877.2), (11, .ref 10 0 r881.1.length), (12, .b r881.2)]) [some (4, [[.ref 1 0 0, .ref 2 0 0, .ref 3 0 0, .ref 4 0 0]]), some (1, rows cf_f32 []), some (1, rows cf_f32 []), some (8, rows cT47 []), some (4, rows cT49 []), some (4, [[.ref 6 0 l769.length, .ref 7 0 l770.length, .ref 8 0 l771.length, .ref 9 0 l772.length]]), some (1, rows cf_f32 l769), some (1, rows cf_f32 l770), some (8, rows cT47 l771), some (4, rows cT49 l772), some (1, rows cf_f32 r881.1)] ((tm 47 [(0, .str text), (2, .ptr 0 0 0), (4, .sl 1 (rows cs_ r1)), (5, .i .i64 (r1.length : Int)), (6, .ptr 5 0 0), (7, .i .i64 i_768), (34, .sl 1 (rows cs_ r776))]) ++ []) hC (VW.seq (VW.seq (VW.rA (tm 160 [(0, .ptr 5 0 0), (1, .sl 1 (rows cs_ r776)), (7, .i .i64 r873.1), (9, .i .i64 r877.1), (11, .ref 10 0 r881.1.length), (100, .b (((!r873.2) || (!r877.2)) || (!r881.2)))]) [some (4, [[.ref 1 0 0, .ref 2 0 0, .ref 3 0 0, .ref 4 0 0]]), some (1, rows cf_f32 []), some (1, rows cf_f32 []), some (8, rows cT47 []), some (4, rows cT49 []), some (4, [[.ref 6 0 l769.length, .ref 7 0 l770.length, .ref 8 0 l771.length, .ref 9 0 l772.length]]), some (1, rows cf_f32 l769), some (1, rows cf_f32 l770), some (8, rows cT47 l771), some (4, rows cT49 l772), some (1, rows cf_f32 r881.1)] ((tm 47 [(0, .str text), (2, .ptr 0 0 0), (4, .sl 1 (rows cs_ r1)), (5, .i .i64 (r1.length : Int)), (6, .ptr 5 0 0), (7, .i .i64 i_768), (34, .sl 1 (rows cs_ r776))]) ++ []) hC (VW.condI h1 (fun h1 => ?_) (fun h1 => ?_))))) (h := by simp -implicitDefEqProofs [f880a, f880b, f880c, f880d, f880e, c882])
     · exact VW.seq (VW.rA (tm 160 [(4, .b false)]) [some (4, [[.ref 1 0 0, .ref 2 0 0, .ref 3 0 0, .ref 4 0 0]]), some (1, rows cf_f32 []), some (1, rows cf_f32 []), some (8, rows cT47 []), some (4, rows cT49 []), some (4, [[.ref 6 0 l769.length, .ref 7 0 l770.length, .ref 8 0 l771.length, .ref 9 0 l772.length]]), some (1, rows cf_f32 l769), some (1, rows cf_f32 l770), some (8, rows cT47 l771), some (4, rows cT49 l772), some (1, rows cf_f32 r881.1)] ((tm 47 [(0, .str text), (2, .ptr 0 0 0), (4, .sl 1 (rows cs_ r1)), (5, .i .i64 (r1.length : Int)), (6, .ptr 5 0 0), (7, .i .i64 i_768), (34, .sl 1 (rows cs_ r776))]) ++ []) hC (VW.ret (VInJ.retL (.b false) (false, l769, l770, l771, l772) (tm 47 [(0, .str text), (2, .ptr 0 0 0), (4, .sl 1 (rows cs_ r1)), (5, .i .i64 (r1.length : Int)), (6, .ptr 5 0 0), (7, .i .i64 i_768), (35, .b false)]) (by simp) h1 (by simp) [] (by simp) (Ent.tu 10))))
     refine VW.skip (VW.seq (VW.seq ?_))
     obtain ⟨e884, ⟨f885a, f885b, f885c, f885d⟩, h1⟩ := bindI h1
     try simp only [Int.toNat_natCast, Int.reduceToNat] at f885a f885b f885c f885d
     refine VW.rA (tm 160 [(0, .ptr 5 0 0), (7, .i .i64 r873.1), (9, .i .i64 r877.1), (11, .ref 10 0 r881.1.length), (104, .b (eqS e884 (⟨#[112, 97, 110, 101]⟩ : ByteArray)))]) [some (4, [[.ref 1 0 0, .ref 2 0 0, .ref 3 0 0, .ref 4 0 0]]), some (1, rows cf_f32 []), some (1, rows cf_f32 []), some (8, rows cT47 []), some (4, rows cT49 []), some (4, [[.ref 6 0 l769.length, .ref 7 0 l770.length, .ref 8 0 l771.length, .ref 9 0 l772.length]]), some (1, rows cf_f32 l769), some (1, rows cf_f32 l770), some (8, rows cT47 l771), some (4, rows cT49 l772), some (1, rows cf_f32 r881.1)] ((tm 47 [(0, .str text), (2, .ptr 0 0 0), (4, .sl 1 (rows cs_ r1)), (5, .i .i64 (r1.length : Int)), (6, .ptr 5 0 0), (7, .i .i64 i_768), (34, .sl 1 (rows cs_ r776))]) ++ []) hC (VW.condI h1 (fun h1 => ?_) (fun h1 => ?_)) (h := by simp -implicitDefEqProofs [f885a, f885b, f885c, f885d])
     · refine VW.seq ?_
       obtain ⟨e887, ⟨f888a, f888b, f888c, f888d⟩, h1⟩ := bindI h1
       try simp only [Int.toNat_natCast, Int.reduceToNat] at f888a f888b f888c f888d
       obtain ⟨e889, ⟨f890a, f890b, f890c, f890d⟩, h1⟩ := bindI h1
       try simp only [Int.toNat_natCast, Int.reduceToNat] at f890a f890b f890c f890d
       obtain ⟨u891, ⟨f892a, f892b⟩, h1⟩ := bindP h1
       try simp only [Int.toNat_natCast, Int.reduceToNat, List.length_cons, List.length_nil, Nat.reduceAdd, Nat.zero_add] at f892a f892b
       exact VW.evalMid (CM := []) 15 [([], [16, 17, 18]), ([0], [0, 16, 17, 18])] (tm 160 [(11, .ref 10 0 r881.1.length)]) [some (4, [[.ref 1 0 0, .ref 2 0 0, .ref 3 0 0, .ref 4 0 0]]), some (1, rows cf_f32 []), some (1, rows cf_f32 []), some (8, rows cT47 []), some (4, rows cT49 []), some (4, [[.ref 6 0 l769.length, .ref 7 0 l770.length, .ref 8 0 l771.length, .ref 9 0 (l772 ++ [(⟨r873.1, r877.1, e887, e889⟩ : T49)]).length]]), some (1, rows cf_f32 l769), some (1, rows cf_f32 l770), some (8, rows cT47 l771), some (4, rows cT49 (l772 ++ [(⟨r873.1, r877.1, e887, e889⟩ : T49)])), some (1, rows cf_f32 r881.1), some (4, rows cT49 [(⟨r873.1, r877.1, e887, e889⟩ : T49)])] ((tm 47 [(0, .str text), (2, .ptr 0 0 0), (4, .sl 1 (rows cs_ r1)), (5, .i .i64 (r1.length : Int)), (6, .ptr 5 0 0), (7, .i .i64 i_768), (34, .sl 1 (rows cs_ r776))]) ++ []) hC trivial mixed (by kernel_rfl) (by kernel_rfl) (by simp -implicitDefEqProofs [f888a, f888b, f888c, f888d, f890a, f890b, f890c, f890d, f892a, f892b]) (VW.seq (VW.rA (tm 160 [(4, .b (eqI (r881.1.length : Int) 2))]) [some (4, [[.ref 1 0 0, .ref 2 0 0, .ref 3 0 0, .ref 4 0 0]]), some (1, rows cf_f32 []), some (1, rows cf_f32 []), some (8, rows cT47 []), some (4, rows cT49 []), some (4, [[.ref 6 0 l769.length, .ref 7 0 l770.length, .ref 8 0 l771.length, .ref 9 0 (l772 ++ [(⟨r873.1, r877.1, e887, e889⟩ : T49)]).length]]), some (1, rows cf_f32 l769), some (1, rows cf_f32 l770), some (8, rows cT47 l771), some (4, rows cT49 (l772 ++ [(⟨r873.1, r877.1, e887, e889⟩ : T49)])), some (1, rows cf_f32 r881.1), some (4, rows cT49 [(⟨r873.1, r877.1, e887, e889⟩ : T49)])] ((tm 47 [(0, .str text), (2, .ptr 0 0 0), (4, .sl 1 (rows cs_ r1)), (5, .i .i64 (r1.length : Int)), (6, .ptr 5 0 0), (7, .i .i64 i_768), (34, .sl 1 (rows cs_ r776))]) ++ []) hC (VW.ret (VInJ.retL (.b (eqI (r881.1.length : Int) 2)) (eqI (r881.1.length : Int) 2, l769, l770, l771, (l772 ++ [(⟨r873.1, r877.1, e887, e889⟩ : T49)])) (tm 47 [(0, .str text), (2, .ptr 0 0 0), (4, .sl 1 (rows cs_ r1)), (5, .i .i64 (r1.length : Int)), (6, .ptr 5 0 0), (7, .i .i64 i_768), (35, .b (eqI (r881.1.length : Int) 2))]) (by simp) h1 (by simp) [] (by simp) (Ent.tu 10)))))
     refine VW.skip (VW.seq (VW.seq (VW.rA (tm 160 [(0, .ptr 5 0 0), (7, .i .i64 r873.1), (9, .i .i64 r877.1), (11, .ref 10 0 r881.1.length), (128, .b (!eqI (r881.1.length : Int) 6))]) [some (4, [[.ref 1 0 0, .ref 2 0 0, .ref 3 0 0, .ref 4 0 0]]), some (1, rows cf_f32 []), some (1, rows cf_f32 []), some (8, rows cT47 []), some (4, rows cT49 []), some (4, [[.ref 6 0 l769.length, .ref 7 0 l770.length, .ref 8 0 l771.length, .ref 9 0 l772.length]]), some (1, rows cf_f32 l769), some (1, rows cf_f32 l770), some (8, rows cT47 l771), some (4, rows cT49 l772), some (1, rows cf_f32 r881.1)] ((tm 47 [(0, .str text), (2, .ptr 0 0 0), (4, .sl 1 (rows cs_ r1)), (5, .i .i64 (r1.length : Int)), (6, .ptr 5 0 0), (7, .i .i64 i_768), (34, .sl 1 (rows cs_ r776))]) ++ []) hC (VW.condI h1 (fun h1 => ?_) (fun h1 => ?_)))))
     · exact VW.seq (VW.rA (tm 160 [(4, .b false)]) [some (4, [[.ref 1 0 0, .ref 2 0 0, .ref 3 0 0, .ref 4 0 0]]), some (1, rows cf_f32 []), some (1, rows cf_f32 []), some (8, rows cT47 []), some (4, rows cT49 []), some (4, [[.ref 6 0 l769.length, .ref 7 0 l770.length, .ref 8 0 l771.length, .ref 9 0 l772.length]]), some (1, rows cf_f32 l769), some (1, rows cf_f32 l770), some (8, rows cT47 l771), some (4, rows cT49 l772), some (1, rows cf_f32 r881.1)] ((tm 47 [(0, .str text), (2, .ptr 0 0 0), (4, .sl 1 (rows cs_ r1)), (5, .i .i64 (r1.length : Int)), (6, .ptr 5 0 0), (7, .i .i64 i_768), (34, .sl 1 (rows cs_ r776))]) ++ []) hC (VW.ret (VInJ.retL (.b false) (false, l769, l770, l771, l772) (tm 47 [(0, .str text), (2, .ptr 0 0 0), (4, .sl 1 (rows cs_ r1)), (5, .i .i64 (r1.length : Int)), (6, .ptr 5 0 0), (7, .i .i64 i_768), (35, .b false)]) (by simp) h1 (by simp) [] (by simp) (Ent.tu 10))))
     refine VW.skip (VW.seq ?_)
     obtain ⟨e894, ⟨f895a, f895b, f895c, f895d⟩, h1⟩ := bindI h1
     try simp only [Int.toNat_natCast, Int.reduceToNat] at f895a f895b f895c f895d
     obtain ⟨e896, ⟨f897a, f897b, f897c, f897d⟩, h1⟩ := bindI h1
     try simp only [Int.toNat_natCast, Int.reduceToNat] at f897a f897b f897c f897d
     refine VW.evalDLA (tm 160 [(0, .ptr 5 0 0), (11, .ref 10 0 r881.1.length), (13, .ptr 11 0 0)]) [some (4, [[.ref 1 0 0, .ref 2 0 0, .ref 3 0 0, .ref 4 0 0]]), some (1, rows cf_f32 []), some (1, rows cf_f32 []), some (8, rows cT47 []), some (4, rows cT49 []), some (4, [[.ref 6 0 l769.length, .ref 7 0 l770.length, .ref 8 0 l771.length, .ref 9 0 l772.length]]), some (1, rows cf_f32 l769), some (1, rows cf_f32 l770), some (8, rows cT47 l771), some (4, rows cT49 l772), some (1, rows cf_f32 r881.1), some (8, [[.i .i64 r873.1, .i .i64 r877.1, .f .f32 e894, .f .f32 e896, .f .f32 (some 0), .f .f32 (some 0), .f .f32 (some 0), .f .f32 (some 0)]])] ((tm 47 [(0, .str text), (2, .ptr 0 0 0), (4, .sl 1 (rows cs_ r1)), (5, .i .i64 (r1.length : Int)), (6, .ptr 5 0 0), (7, .i .i64 i_768), (34, .sl 1 (rows cs_ r776))]) ++ []) hC mixed (by kernel_rfl) (by simp -implicitDefEqProofs [f895a, f895b, f895c, f895d, f897a, f897b, f897c, f897d]) (VW.join (fun (v : F32 × F32 × F32 × F32) => (⟨(tm 160 [(0, .ptr 5 0 0), (13, .ptr 11 0 0)]), [some (4, [[.ref 1 0 0, .ref 2 0 0, .ref 3 0 0, .ref 4 0 0]]), some (1, rows cf_f32 []), some (1, rows cf_f32 []), some (8, rows cT47 []), some (4, rows cT49 []), some (4, [[.ref 6 0 l769.length, .ref 7 0 l770.length, .ref 8 0 l771.length, .ref 9 0 l772.length]]), some (1, rows cf_f32 l769), some (1, rows cf_f32 l770), some (8, rows cT47 l771), some (4, rows cT49 l772), some (1, rows cf_f32 r881.1), some (8, [[.i .i64 r873.1, .i .i64 r877.1, .f .f32 e894, .f .f32 e896, .f .f32 v.1, .f .f32 v.2.1, .f .f32 v.2.2.1, .f .f32 v.2.2.2]])], ((tm 47 [(0, .str text), (2, .ptr 0 0 0), (4, .sl 1 (rows cs_ r1)), (5, .i .i64 (r1.length : Int)), (6, .ptr 5 0 0), (7, .i .i64 i_768), (34, .sl 1 (rows cs_ r776))]) ++ [])⟩ : VS)) (fun v => (g4_j3 l771 r873 r877 e894 e896 i_768 l769 l770 l772 (v.1) (v.2.1) (v.2.2.1) (v.2.2.2)).bind (kN (g4_L1 r1) n_1) = some w_1) ?_ ?_)
     · refine VW.seq (VW.rA (tm 160 [(0, .ptr 5 0 0), (11, .ref 10 0 r881.1.length), (13, .ptr 11 0 0), (14, .i .i64 0)]) [some (4, [[.ref 1 0 0, .ref 2 0 0, .ref 3 0 0, .ref 4 0 0]]), some (1, rows cf_f32 []), some (1, rows cf_f32 []), some (8, rows cT47 []), some (4, rows cT49 []), some (4, [[.ref 6 0 l769.length, .ref 7 0 l770.length, .ref 8 0 l771.length, .ref 9 0 l772.length]]), some (1, rows cf_f32 l769), some (1, rows cf_f32 l770), some (8, rows cT47 l771), some (4, rows cT49 l772), some (1, rows cf_f32 r881.1), some (8, [[.i .i64 r873.1, .i .i64 r877.1, .f .f32 e894, .f .f32 e896, .f .f32 (some 0), .f .f32 (some 0), .f .f32 (some 0), .f .f32 (some 0)]])] ((tm 47 [(0, .str text), (2, .ptr 0 0 0), (4, .sl 1 (rows cs_ r1)), (5, .i .i64 (r1.length : Int)), (6, .ptr 5 0 0), (7, .i .i64 i_768), (34, .sl 1 (rows cs_ r776))]) ++ []) hC (VW.block (VW.rounds 6 (VRounds.step (VW.seq (VW.seq (VW.rA (tm 160 [(0, .ptr 5 0 0), (11, .ref 10 0 r881.1.length), (13, .ptr 11 0 0), (14, .i .i64 0), (139, .b true)]) [some (4, [[.ref 1 0 0, .ref 2 0 0, .ref 3 0 0, .ref 4 0 0]]), some (1, rows cf_f32 []), some (1, rows cf_f32 []), some (8, rows cT47 []), some (4, rows cT49 []), some (4, [[.ref 6 0 l769.length, .ref 7 0 l770.length, .ref 8 0 l771.length, .ref 9 0 l772.length]]), some (1, rows cf_f32 l769), some (1, rows cf_f32 l770), some (8, rows cT47 l771), some (4, rows cT49 l772), some (1, rows cf_f32 r881.1), some (8, [[.i .i64 r873.1, .i .i64 r877.1, .f .f32 e894, .f .f32 e896, .f .f32 (some 0), .f .f32 (some 0), .f .f32 (some 0), .f .f32 (some 0)]])] ((tm 47 [(0, .str text), (2, .ptr 0 0 0), (4, .sl 1 (rows cs_ r1)), (5, .i .i64 (r1.length : Int)), (6, .ptr 5 0 0), (7, .i .i64 i_768), (34, .sl 1 (rows cs_ r776))]) ++ []) hC (VW.condT (by simp) (VW.skip (VW.seq (VW.block ?_)))) (h := by simp -implicitDefEqProofs [(by decide : ltI 0 4 = true)]))))))))
       obtain ⟨e912, ⟨f913a, f913b, f913c, f913d⟩, h1⟩ := bindI h1
       try simp only [Int.toNat_natCast, Int.reduceToNat] at f913a f913b f913c f913d
       refine VW.rA (tm 160 [(0, .ptr 5 0 0), (11, .ref 10 0 r881.1.length), (13, .ptr 11 0 0), (14, .i .i64 0)]) [some (4, [[.ref 1 0 0, .ref 2 0 0, .ref 3 0 0, .ref 4 0 0]]), some (1, rows cf_f32 []), some (1, rows cf_f32 []), some (8, rows cT47 []), some (4, rows cT49 []), some (4, [[.ref 6 0 l769.length, .ref 7 0 l770.length, .ref 8 0 l771.length, .ref 9 0 l772.length]]), some (1, rows cf_f32 l769), some (1, rows cf_f32 l770), some (8, rows cT47 l771), some (4, rows cT49 l772), some (1, rows cf_f32 r881.1), some (8, [[.i .i64 r873.1, .i .i64 r877.1, .f .f32 e894, .f .f32 e896, .f .f32 e912, .f .f32 (some 0), .f .f32 (some 0), .f .f32 (some 0)]])] ((tm 47 [(0, .str text), (2, .ptr 0 0 0), (4, .sl 1 (rows cs_ r1)), (5, .i .i64 (r1.length : Int)), (6, .ptr 5 0 0), (7, .i .i64 i_768), (34, .sl 1 (rows cs_ r776))]) ++ []) hC (VW.rA (tm 160 [(0, .ptr 5 0 0), (11, .ref 10 0 r881.1.length), (13, .ptr 11 0 0), (14, .i .i64 1)]) [some (4, [[.ref 1 0 0, .ref 2 0 0, .ref 3 0 0, .ref 4 0 0]]), some (1, rows cf_f32 []), some (1, rows cf_f32 []), some (8, rows cT47 []), some (4, rows cT49 []), some (4, [[.ref 6 0 l769.length, .ref 7 0 l770.length, .ref 8 0 l771.length, .ref 9 0 l772.length]]), some (1, rows cf_f32 l769), some (1, rows cf_f32 l770), some (8, rows cT47 l771), some (4, rows cT49 l772), some (1, rows cf_f32 r881.1), some (8, [[.i .i64 r873.1, .i .i64 r877.1, .f .f32 e894, .f .f32 e896, .f .f32 e912, .f .f32 (some 0), .f .f32 (some 0), .f .f32 (some 0)]])] ((tm 47 [(0, .str text), (2, .ptr 0 0 0), (4, .sl 1 (rows cs_ r1)), (5, .i .i64 (r1.length : Int)), (6, .ptr 5 0 0), (7, .i .i64 i_768), (34, .sl 1 (rows cs_ r776))]) ++ []) hC (VRounds.step (VW.seq (VW.seq (VW.rA (tm 160 [(0, .ptr 5 0 0), (11, .ref 10 0 r881.1.length), (13, .ptr 11 0 0), (14, .i .i64 1), (139, .b true)]) [some (4, [[.ref 1 0 0, .ref 2 0 0, .ref 3 0 0, .ref 4 0 0]]), some (1, rows cf_f32 []), some (1, rows cf_f32 []), some (8, rows cT47 []), some (4, rows cT49 []), some (4, [[.ref 6 0 l769.length, .ref 7 0 l770.length, .ref 8 0 l771.length, .ref 9 0 l772.length]]), some (1, rows cf_f32 l769), some (1, rows cf_f32 l770), some (8, rows cT47 l771), some (4, rows cT49 l772), some (1, rows cf_f32 r881.1), some (8, [[.i .i64 r873.1, .i .i64 r877.1, .f .f32 e894, .f .f32 e896, .f .f32 e912, .f .f32 (some 0), .f .f32 (some 0), .f .f32 (some 0)]])] ((tm 47 [(0, .str text), (2, .ptr 0 0 0), (4, .sl 1 (rows cs_ r1)), (5, .i .i64 (r1.length : Int)), (6, .ptr 5 0 0), (7, .i .i64 i_768), (34, .sl 1 (rows cs_ r776))]) ++ []) hC (VW.condT (by simp) (VW.skip (VW.seq (VW.block ?_)))) (h := by simp -implicitDefEqProofs [(by decide : ltI 1 4 = true)]))))) (h := by simp -implicitDefEqProofs [(by decide : aI .i64 0 1 = 1)])) (h := by simp -implicitDefEqProofs [f913a, f913b, f913c, f913d, (by decide : aI .i64 2 0 = 2)])
       obtain ⟨e914, ⟨f915a, f915b, f915c, f915d⟩, h1⟩ := bindI h1
       try simp only [Int.toNat_natCast, Int.reduceToNat] at f915a f915b f915c f915d
       refine VW.rA (tm 160 [(0, .ptr 5 0 0), (11, .ref 10 0 r881.1.length), (13, .ptr 11 0 0), (14, .i .i64 1)]) [some (4, [[.ref 1 0 0, .ref 2 0 0, .ref 3 0 0, .ref 4 0 0]]), some (1, rows cf_f32 []), some (1, rows cf_f32 []), some (8, rows cT47 []), some (4, rows cT49 []), some (4, [[.ref 6 0 l769.length, .ref 7 0 l770.length, .ref 8 0 l771.length, .ref 9 0 l772.length]]), some (1, rows cf_f32 l769), some (1, rows cf_f32 l770), some (8, rows cT47 l771), some (4, rows cT49 l772), some (1, rows cf_f32 r881.1), some (8, [[.i .i64 r873.1, .i .i64 r877.1, .f .f32 e894, .f .f32 e896, .f .f32 e912, .f .f32 e914, .f .f32 (some 0), .f .f32 (some 0)]])] ((tm 47 [(0, .str text), (2, .ptr 0 0 0), (4, .sl 1 (rows cs_ r1)), (5, .i .i64 (r1.length : Int)), (6, .ptr 5 0 0), (7, .i .i64 i_768), (34, .sl 1 (rows cs_ r776))]) ++ []) hC (VW.rA (tm 160 [(0, .ptr 5 0 0), (11, .ref 10 0 r881.1.length), (13, .ptr 11 0 0), (14, .i .i64 2)]) [some (4, [[.ref 1 0 0, .ref 2 0 0, .ref 3 0 0, .ref 4 0 0]]), some (1, rows cf_f32 []), some (1, rows cf_f32 []), some (8, rows cT47 []), some (4, rows cT49 []), some (4, [[.ref 6 0 l769.length, .ref 7 0 l770.length, .ref 8 0 l771.length, .ref 9 0 l772.length]]), some (1, rows cf_f32 l769), some (1, rows cf_f32 l770), some (8, rows cT47 l771), some (4, rows cT49 l772), some (1, rows cf_f32 r881.1), some (8, [[.i .i64 r873.1, .i .i64 r877.1, .f .f32 e894, .f .f32 e896, .f .f32 e912, .f .f32 e914, .f .f32 (some 0), .f .f32 (some 0)]])] ((tm 47 [(0, .str text), (2, .ptr 0 0 0), (4, .sl 1 (rows cs_ r1)), (5, .i .i64 (r1.length : Int)), (6, .ptr 5 0 0), (7, .i .i64 i_768), (34, .sl 1 (rows cs_ r776))]) ++ []) hC (VRounds.step (VW.seq (VW.seq (VW.rA (tm 160 [(0, .ptr 5 0 0), (11, .ref 10 0 r881.1.length), (13, .ptr 11 0 0), (14, .i .i64 2), (139, .b true)]) [some (4, [[.ref 1 0 0, .ref 2 0 0, .ref 3 0 0, .ref 4 0 0]]), some (1, rows cf_f32 []), some (1, rows cf_f32 []), some (8, rows cT47 []), some (4, rows cT49 []), some (4, [[.ref 6 0 l769.length, .ref 7 0 l770.length, .ref 8 0 l771.length, .ref 9 0 l772.length]]), some (1, rows cf_f32 l769), some (1, rows cf_f32 l770), some (8, rows cT47 l771), some (4, rows cT49 l772), some (1, rows cf_f32 r881.1), some (8, [[.i .i64 r873.1, .i .i64 r877.1, .f .f32 e894, .f .f32 e896, .f .f32 e912, .f .f32 e914, .f .f32 (some 0), .f .f32 (some 0)]])] ((tm 47 [(0, .str text), (2, .ptr 0 0 0), (4, .sl 1 (rows cs_ r1)), (5, .i .i64 (r1.length : Int)), (6, .ptr 5 0 0), (7, .i .i64 i_768), (34, .sl 1 (rows cs_ r776))]) ++ []) hC (VW.condT (by simp) (VW.skip (VW.seq (VW.block ?_)))) (h := by simp -implicitDefEqProofs [(by decide : ltI 2 4 = true)]))))) (h := by simp -implicitDefEqProofs [(by decide : aI .i64 1 1 = 2)])) (h := by simp -implicitDefEqProofs [f915a, f915b, f915c, f915d, (by decide : aI .i64 2 1 = 3)])
       obtain ⟨e916, ⟨f917a, f917b, f917c, f917d⟩, h1⟩ := bindI h1
       try simp only [Int.toNat_natCast, Int.reduceToNat] at f917a f917b f917c f917d
       refine VW.rA (tm 160 [(0, .ptr 5 0 0), (11, .ref 10 0 r881.1.length), (13, .ptr 11 0 0), (14, .i .i64 2)]) [some (4, [[.ref 1 0 0, .ref 2 0 0, .ref 3 0 0, .ref 4 0 0]]), some (1, rows cf_f32 []), some (1, rows cf_f32 []), some (8, rows cT47 []), some (4, rows cT49 []), some (4, [[.ref 6 0 l769.length, .ref 7 0 l770.length, .ref 8 0 l771.length, .ref 9 0 l772.length]]), some (1, rows cf_f32 l769), some (1, rows cf_f32 l770), some (8, rows cT47 l771), some (4, rows cT49 l772), some (1, rows cf_f32 r881.1), some (8, [[.i .i64 r873.1, .i .i64 r877.1, .f .f32 e894, .f .f32 e896, .f .f32 e912, .f .f32 e914, .f .f32 e916, .f .f32 (some 0)]])] ((tm 47 [(0, .str text), (2, .ptr 0 0 0), (4, .sl 1 (rows cs_ r1)), (5, .i .i64 (r1.length : Int)), (6, .ptr 5 0 0), (7, .i .i64 i_768), (34, .sl 1 (rows cs_ r776))]) ++ []) hC (VW.rA (tm 160 [(0, .ptr 5 0 0), (11, .ref 10 0 r881.1.length), (13, .ptr 11 0 0), (14, .i .i64 3)]) [some (4, [[.ref 1 0 0, .ref 2 0 0, .ref 3 0 0, .ref 4 0 0]]), some (1, rows cf_f32 []), some (1, rows cf_f32 []), some (8, rows cT47 []), some (4, rows cT49 []), some (4, [[.ref 6 0 l769.length, .ref 7 0 l770.length, .ref 8 0 l771.length, .ref 9 0 l772.length]]), some (1, rows cf_f32 l769), some (1, rows cf_f32 l770), some (8, rows cT47 l771), some (4, rows cT49 l772), some (1, rows cf_f32 r881.1), some (8, [[.i .i64 r873.1, .i .i64 r877.1, .f .f32 e894, .f .f32 e896, .f .f32 e912, .f .f32 e914, .f .f32 e916, .f .f32 (some 0)]])] ((tm 47 [(0, .str text), (2, .ptr 0 0 0), (4, .sl 1 (rows cs_ r1)), (5, .i .i64 (r1.length : Int)), (6, .ptr 5 0 0), (7, .i .i64 i_768), (34, .sl 1 (rows cs_ r776))]) ++ []) hC (VRounds.step (VW.seq (VW.seq (VW.rA (tm 160 [(0, .ptr 5 0 0), (11, .ref 10 0 r881.1.length), (13, .ptr 11 0 0), (14, .i .i64 3), (139, .b true)]) [some (4, [[.ref 1 0 0, .ref 2 0 0, .ref 3 0 0, .ref 4 0 0]]), some (1, rows cf_f32 []), some (1, rows cf_f32 []), some (8, rows cT47 []), some (4, rows cT49 []), some (4, [[.ref 6 0 l769.length, .ref 7 0 l770.length, .ref 8 0 l771.length, .ref 9 0 l772.length]]), some (1, rows cf_f32 l769), some (1, rows cf_f32 l770), some (8, rows cT47 l771), some (4, rows cT49 l772), some (1, rows cf_f32 r881.1), some (8, [[.i .i64 r873.1, .i .i64 r877.1, .f .f32 e894, .f .f32 e896, .f .f32 e912, .f .f32 e914, .f .f32 e916, .f .f32 (some 0)]])] ((tm 47 [(0, .str text), (2, .ptr 0 0 0), (4, .sl 1 (rows cs_ r1)), (5, .i .i64 (r1.length : Int)), (6, .ptr 5 0 0), (7, .i .i64 i_768), (34, .sl 1 (rows cs_ r776))]) ++ []) hC (VW.condT (by simp) (VW.skip (VW.seq (VW.block ?_)))) (h := by simp -implicitDefEqProofs [(by decide : ltI 3 4 = true)]))))) (h := by simp -implicitDefEqProofs [(by decide : aI .i64 2 1 = 3)])) (h := by simp -implicitDefEqProofs [f917a, f917b, f917c, f917d, (by decide : aI .i64 2 2 = 4)])
       obtain ⟨e918, ⟨f919a, f919b, f919c, f919d⟩, h1⟩ := bindI h1
       try simp only [Int.toNat_natCast, Int.reduceToNat] at f919a f919b f919c f919d
       exact VW.rA (tm 160 [(0, .ptr 5 0 0), (11, .ref 10 0 r881.1.length), (13, .ptr 11 0 0), (14, .i .i64 3)]) [some (4, [[.ref 1 0 0, .ref 2 0 0, .ref 3 0 0, .ref 4 0 0]]), some (1, rows cf_f32 []), some (1, rows cf_f32 []), some (8, rows cT47 []), some (4, rows cT49 []), some (4, [[.ref 6 0 l769.length, .ref 7 0 l770.length, .ref 8 0 l771.length, .ref 9 0 l772.length]]), some (1, rows cf_f32 l769), some (1, rows cf_f32 l770), some (8, rows cT47 l771), some (4, rows cT49 l772), some (1, rows cf_f32 r881.1), some (8, [[.i .i64 r873.1, .i .i64 r877.1, .f .f32 e894, .f .f32 e896, .f .f32 e912, .f .f32 e914, .f .f32 e916, .f .f32 e918]])] ((tm 47 [(0, .str text), (2, .ptr 0 0 0), (4, .sl 1 (rows cs_ r1)), (5, .i .i64 (r1.length : Int)), (6, .ptr 5 0 0), (7, .i .i64 i_768), (34, .sl 1 (rows cs_ r776))]) ++ []) hC (VW.rA (tm 160 [(0, .ptr 5 0 0), (11, .ref 10 0 r881.1.length), (13, .ptr 11 0 0), (14, .i .i64 4)]) [some (4, [[.ref 1 0 0, .ref 2 0 0, .ref 3 0 0, .ref 4 0 0]]), some (1, rows cf_f32 []), some (1, rows cf_f32 []), some (8, rows cT47 []), some (4, rows cT49 []), some (4, [[.ref 6 0 l769.length, .ref 7 0 l770.length, .ref 8 0 l771.length, .ref 9 0 l772.length]]), some (1, rows cf_f32 l769), some (1, rows cf_f32 l770), some (8, rows cT47 l771), some (4, rows cT49 l772), some (1, rows cf_f32 r881.1), some (8, [[.i .i64 r873.1, .i .i64 r877.1, .f .f32 e894, .f .f32 e896, .f .f32 e912, .f .f32 e914, .f .f32 e916, .f .f32 e918]])] ((tm 47 [(0, .str text), (2, .ptr 0 0 0), (4, .sl 1 (rows cs_ r1)), (5, .i .i64 (r1.length : Int)), (6, .ptr 5 0 0), (7, .i .i64 i_768), (34, .sl 1 (rows cs_ r776))]) ++ []) hC (VRounds.step (VW.seq (VW.seq (VW.rA (tm 160 [(0, .ptr 5 0 0), (11, .ref 10 0 r881.1.length), (13, .ptr 11 0 0), (14, .i .i64 4), (139, .b false)]) [some (4, [[.ref 1 0 0, .ref 2 0 0, .ref 3 0 0, .ref 4 0 0]]), some (1, rows cf_f32 []), some (1, rows cf_f32 []), some (8, rows cT47 []), some (4, rows cT49 []), some (4, [[.ref 6 0 l769.length, .ref 7 0 l770.length, .ref 8 0 l771.length, .ref 9 0 l772.length]]), some (1, rows cf_f32 l769), some (1, rows cf_f32 l770), some (8, rows cT47 l771), some (4, rows cT49 l772), some (1, rows cf_f32 r881.1), some (8, [[.i .i64 r873.1, .i .i64 r877.1, .f .f32 e894, .f .f32 e896, .f .f32 e912, .f .f32 e914, .f .f32 e916, .f .f32 e918]])] ((tm 47 [(0, .str text), (2, .ptr 0 0 0), (4, .sl 1 (rows cs_ r1)), (5, .i .i64 (r1.length : Int)), (6, .ptr 5 0 0), (7, .i .i64 i_768), (34, .sl 1 (rows cs_ r776))]) ++ []) hC (VW.condF (by simp) (VW.exit (vnext (e912, e914, e916, e918) h1 (Ent.tu 12)))) (h := by simp -implicitDefEqProofs [(by decide : ltI 4 4 = false)]))))) (h := by simp -implicitDefEqProofs [(by decide : aI .i64 3 1 = 4)])) (h := by simp -implicitDefEqProofs [f919a, f919b, f919c, f919d, (by decide : aI .i64 2 3 = 5)])
     rintro ⟨y906, y907, y908, y909⟩ h1
     replace h1 : (g4_j3 l771 r873 r877 e894 e896 i_768 l769 l770 l772 y906 y907 y908 y909).bind _ = _ := h1
     rw [g4_j3] at h1
     refine VW.seq ?_
     obtain ⟨u910, ⟨f911a, f911b⟩, h1⟩ := bindP h1
     try simp only [Int.toNat_natCast, Int.reduceToNat, List.length_cons, List.length_nil, Nat.reduceAdd, Nat.zero_add] at f911a f911b
     exact VW.evalMid (CM := []) 7 [([], [8, 9, 10]), ([0], [0, 8, 9, 10])] (tm 160 []) [some (4, [[.ref 1 0 0, .ref 2 0 0, .ref 3 0 0, .ref 4 0 0]]), some (1, rows cf_f32 []), some (1, rows cf_f32 []), some (8, rows cT47 []), some (4, rows cT49 []), some (4, [[.ref 6 0 l769.length, .ref 7 0 l770.length, .ref 8 0 (l771 ++ [(⟨r873.1, r877.1, e894, e896, (⟨y906, y907, y908, y909⟩ : T46)⟩ : T47)]).length, .ref 9 0 l772.length]]), some (1, rows cf_f32 l769), some (1, rows cf_f32 l770), some (8, rows cT47 (l771 ++ [(⟨r873.1, r877.1, e894, e896, (⟨y906, y907, y908, y909⟩ : T46)⟩ : T47)])), some (4, rows cT49 l772), some (1, rows cf_f32 r881.1), some (8, [[.i .i64 r873.1, .i .i64 r877.1, .f .f32 e894, .f .f32 e896, .f .f32 y906, .f .f32 y907, .f .f32 y908, .f .f32 y909]]), some (8, rows cT47 [(⟨r873.1, r877.1, e894, e896, (⟨y906, y907, y908, y909⟩ : T46)⟩ : T47)])] ((tm 47 [(0, .str text), (2, .ptr 0 0 0), (4, .sl 1 (rows cs_ r1)), (5, .i .i64 (r1.length : Int)), (6, .ptr 5 0 0), (7, .i .i64 i_768), (34, .sl 1 (rows cs_ r776))]) ++ []) hC trivial mixed (by kernel_rfl) (by kernel_rfl) (by simp -implicitDefEqProofs [f911a, f911b]) (VW.seq (VW.rA (tm 160 [(4, .b true)]) [some (4, [[.ref 1 0 0, .ref 2 0 0, .ref 3 0 0, .ref 4 0 0]]), some (1, rows cf_f32 []), some (1, rows cf_f32 []), some (8, rows cT47 []), some (4, rows cT49 []), some (4, [[.ref 6 0 l769.length, .ref 7 0 l770.length, .ref 8 0 (l771 ++ [(⟨r873.1, r877.1, e894, e896, (⟨y906, y907, y908, y909⟩ : T46)⟩ : T47)]).length, .ref 9 0 l772.length]]), some (1, rows cf_f32 l769), some (1, rows cf_f32 l770), some (8, rows cT47 (l771 ++ [(⟨r873.1, r877.1, e894, e896, (⟨y906, y907, y908, y909⟩ : T46)⟩ : T47)])), some (4, rows cT49 l772), some (1, rows cf_f32 r881.1), some (8, [[.i .i64 r873.1, .i .i64 r877.1, .f .f32 e894, .f .f32 e896, .f .f32 y906, .f .f32 y907, .f .f32 y908, .f .f32 y909]]), some (8, rows cT47 [(⟨r873.1, r877.1, e894, e896, (⟨y906, y907, y908, y909⟩ : T46)⟩ : T47)])] ((tm 47 [(0, .str text), (2, .ptr 0 0 0), (4, .sl 1 (rows cs_ r1)), (5, .i .i64 (r1.length : Int)), (6, .ptr 5 0 0), (7, .i .i64 i_768), (34, .sl 1 (rows cs_ r776))]) ++ []) hC (VW.ret (VInJ.retL (.b true) (true, l769, l770, (l771 ++ [(⟨r873.1, r877.1, e894, e896, (⟨y906, y907, y908, y909⟩ : T46)⟩ : T47)]), l772) (tm 47 [(0, .str text), (2, .ptr 0 0 0), (4, .sl 1 (rows cs_ r1)), (5, .i .i64 (r1.length : Int)), (6, .ptr 5 0 0), (7, .i .i64 i_768), (35, .b true)]) (by simp) h1 (by simp) [] (by simp) (Ent.tu 10)))))
   rintro ⟨x_846, l847, l848, l849, l850⟩ h1
   replace h1 : (g4_j2 i_768 x_846 l847 l848 l849 l850).bind _ = _ := h1
   rw [g4_j2] at h1
   refine VL.evalP (tm 47 [(0, .str text), (2, .ptr 0 0 0), (4, .sl 1 (rows cs_ r1)), (5, .i .i64 (r1.length : Int)), (6, .ptr 5 0 0), (7, .i .i64 i_768), (36, .b (!x_846))]) [some (4, [[.ref 1 0 0, .ref 2 0 0, .ref 3 0 0, .ref 4 0 0]]), some (1, rows cf_f32 []), some (1, rows cf_f32 []), some (8, rows cT47 []), some (4, rows cT49 []), some (4, [[.ref 6 0 l847.length, .ref 7 0 l848.length, .ref 8 0 l849.length, .ref 9 0 l850.length]]), some (1, rows cf_f32 l847), some (1, rows cf_f32 l848), some (8, rows cT47 l849), some (4, rows cT49 l850)] [] hC (by kernel_rfl) (by simp -implicitDefEqProofs) (VW.condJ h1 (fun h1 => ?_) (fun h1 => ?_))
   · exact VW.skip (VW.rA (tm 47 [(0, .str text), (2, .ptr 0 0 0), (4, .sl 1 (rows cs_ r1)), (5, .i .i64 (r1.length : Int)), (6, .ptr 5 0 0), (7, .i .i64 (aI .i64 i_768 1))]) [some (4, [[.ref 1 0 0, .ref 2 0 0, .ref 3 0 0, .ref 4 0 0]]), some (1, rows cf_f32 []), some (1, rows cf_f32 []), some (8, rows cT47 []), some (4, rows cT49 []), some (4, [[.ref 6 0 l847.length, .ref 7 0 l848.length, .ref 8 0 l849.length, .ref 9 0 l850.length]]), some (1, rows cf_f32 l847), some (1, rows cf_f32 l848), some (8, rows cT47 l849), some (4, rows cT49 l850)] [] hC (vnext (aI .i64 i_768 1, l847, l848, l849, l850) (leafL h1) (Ent.tu 10)))
   refine VW.seq (VW.rE (tm 47 [(2, .ptr 0 0 0), (3, .i .i64 5)]) [some (4, [[.nil, .nil, .nil, .nil]]), some (1, rows cf_f32 []), some (1, rows cf_f32 []), some (8, rows cT47 []), some (4, rows cT49 []), some (4, [[.ref 6 0 l847.length, .ref 7 0 l848.length, .ref 8 0 l849.length, .ref 9 0 l850.length]]), some (1, rows cf_f32 l847), some (1, rows cf_f32 l848), some (8, rows cT47 l849), some (4, rows cT49 l850)] [] hC (Ent.trans (Ent.nilref (m := [some (4, [[.nil, .nil, .nil, .nil]]), some (1, rows cf_f32 []), some (1, rows cf_f32 []), some (8, rows cT47 []), some (4, rows cT49 []), some (4, [[.ref 6 0 l847.length, .ref 7 0 l848.length, .ref 8 0 l849.length, .ref 9 0 l850.length]]), some (1, rows cf_f32 l847), some (1, rows cf_f32 l848), some (8, rows cT47 l849), some (4, rows cT49 l850)]) 0 1 [some (4, [[.ref 10 0 0, .nil, .nil, .nil]]), some (1, rows cf_f32 []), some (1, rows cf_f32 []), some (8, rows cT47 []), some (4, rows cT49 []), some (4, [[.ref 6 0 l847.length, .ref 7 0 l848.length, .ref 8 0 l849.length, .ref 9 0 l850.length]]), some (1, rows cf_f32 l847), some (1, rows cf_f32 l848), some (8, rows cT47 l849), some (4, rows cT49 l850), some (1, rows cf_f32 [])] rfl (by simp) rfl) (Ent.trans (Ent.nilref (m := [some (4, [[.ref 10 0 0, .nil, .nil, .nil]]), some (1, rows cf_f32 []), some (1, rows cf_f32 []), some (8, rows cT47 []), some (4, rows cT49 []), some (4, [[.ref 6 0 l847.length, .ref 7 0 l848.length, .ref 8 0 l849.length, .ref 9 0 l850.length]]), some (1, rows cf_f32 l847), some (1, rows cf_f32 l848), some (8, rows cT47 l849), some (4, rows cT49 l850), some (1, rows cf_f32 [])]) 0 1 [some (4, [[.ref 10 0 0, .ref 11 0 0, .nil, .nil]]), some (1, rows cf_f32 []), some (1, rows cf_f32 []), some (8, rows cT47 []), some (4, rows cT49 []), some (4, [[.ref 6 0 l847.length, .ref 7 0 l848.length, .ref 8 0 l849.length, .ref 9 0 l850.length]]), some (1, rows cf_f32 l847), some (1, rows cf_f32 l848), some (8, rows cT47 l849), some (4, rows cT49 l850), some (1, rows cf_f32 []), some (1, rows cf_f32 [])] rfl (by simp) rfl) (Ent.trans (Ent.nilref (m := [some (4, [[.ref 10 0 0, .ref 11 0 0, .nil, .nil]]), some (1, rows cf_f32 []), some (1, rows cf_f32 []), some (8, rows cT47 []), some (4, rows cT49 []), some (4, [[.ref 6 0 l847.length, .ref 7 0 l848.length, .ref 8 0 l849.length, .ref 9 0 l850.length]]), some (1, rows cf_f32 l847), some (1, rows cf_f32 l848), some (8, rows cT47 l849), some (4, rows cT49 l850), some (1, rows cf_f32 []), some (1, rows cf_f32 [])]) 0 8 [some (4, [[.ref 10 0 0, .ref 11 0 0, .ref 12 0 0, .nil]]), some (1, rows cf_f32 []), some (1, rows cf_f32 []), some (8, rows cT47 []), some (4, rows cT49 []), some (4, [[.ref 6 0 l847.length, .ref 7 0 l848.length, .ref 8 0 l849.length, .ref 9 0 l850.length]]), some (1, rows cf_f32 l847), some (1, rows cf_f32 l848), some (8, rows cT47 l849), some (4, rows cT49 l850), some (1, rows cf_f32 []), some (1, rows cf_f32 []), some (8, rows cT47 [])] rfl (by simp) rfl) (Ent.nilref (m := [some (4, [[.ref 10 0 0, .ref 11 0 0, .ref 12 0 0, .nil]]), some (1, rows cf_f32 []), some (1, rows cf_f32 []), some (8, rows cT47 []), some (4, rows cT49 []), some (4, [[.ref 6 0 l847.length, .ref 7 0 l848.length, .ref 8 0 l849.length, .ref 9 0 l850.length]]), some (1, rows cf_f32 l847), some (1, rows cf_f32 l848), some (8, rows cT47 l849), some (4, rows cT49 l850), some (1, rows cf_f32 []), some (1, rows cf_f32 []), some (8, rows cT47 [])]) 0 4 [some (4, [[.ref 10 0 0, .ref 11 0 0, .ref 12 0 0, .ref 13 0 0]]), some (1, rows cf_f32 []), some (1, rows cf_f32 []), some (8, rows cT47 []), some (4, rows cT49 []), some (4, [[.ref 6 0 l847.length, .ref 7 0 l848.length, .ref 8 0 l849.length, .ref 9 0 l850.length]]), some (1, rows cf_f32 l847), some (1, rows cf_f32 l848), some (8, rows cT47 l849), some (4, rows cT49 l850), some (1, rows cf_f32 []), some (1, rows cf_f32 []), some (8, rows cT47 []), some (4, rows cT49 [])] rfl (by simp) rfl) ) ) ) ?_)
   have e_ := leafR h1
   subst w_1
   obtain rfl := leafS h
   exact VW.ret (VRet.fin (by simp [eB4]))
 rintro ⟨l457, l458, l459, l460⟩ h
 replace h : (g4_j1 text l457 l458 l459 l460).bind _ = _ := h
 rw [g4_j1] at h
 refine VW.seq (VW.seq ?_)
 obtain ⟨r461, q462, h⟩ := bindE h
 have c462 : F11 [.cptr [.sl 1 (rows cf_f32 ((⟨l457, l458, l459, l460⟩ : T25).heat_)), .sl 1 (rows cf_f32 ((⟨l457, l458, l459, l460⟩ : T25).store_)), .sl 8 (rows cT47 ((⟨l457, l458, l459, l460⟩ : T25).walls_)), .sl 4 (rows cT49 ((⟨l457, l458, l459, l460⟩ : T25).panes_))] 0] = some (.b r461) := tells_eq inj11 (a := (⟨l457, l458, l459, l460⟩ : T25)) q462
 obtain ⟨w465, q467, h⟩ := bindE h
 refine VW.evalA (tm 47 [(2, .ptr 0 0 0), (6, .ptr 5 0 0), (44, .b w465)]) [some (4, [[.ref 1 0 0, .ref 2 0 0, .ref 3 0 0, .ref 4 0 0]]), some (1, rows cf_f32 []), some (1, rows cf_f32 []), some (8, rows cT47 []), some (4, rows cT49 []), some (4, [[.ref 6 0 l457.length, .ref 7 0 l458.length, .ref 8 0 l459.length, .ref 9 0 l460.length]]), some (1, rows cf_f32 l457), some (1, rows cf_f32 l458), some (8, rows cT47 l459), some (4, rows cT49 l460)] [] hC (by kernel_rfl) (by
     obtain ⟨q468, q467⟩ | ⟨q468, rfl⟩ := gdF q467
     · obtain ⟨r463, q464, q467⟩ := bindQ q467
       have c464 : F12 [.cptr [.sl 1 (rows cf_f32 ((⟨l457, l458, l459, l460⟩ : T25).heat_)), .sl 1 (rows cf_f32 ((⟨l457, l458, l459, l460⟩ : T25).store_)), .sl 8 (rows cT47 ((⟨l457, l458, l459, l460⟩ : T25).walls_)), .sl 4 (rows cT49 ((⟨l457, l458, l459, l460⟩ : T25).panes_))] 0] = some (.str r463) := tells_eq inj12 (a := (⟨l457, l458, l459, l460⟩ : T25)) q464
       obtain rfl := Option.some.inj q467
       simp -implicitDefEqProofs [c462, q468, c464]
     simp -implicitDefEqProofs [c462, q468]) ?_
 refine VW.condJ h (fun h => ?_) (fun h => ?_)
 · refine VW.skip (VW.seq (VW.rA (tm 47 [(2, .ptr 0 0 0), (3, .i .i64 0)]) [some (4, [[.ref 6 0 l457.length, .ref 7 0 l458.length, .ref 8 0 l459.length, .ref 9 0 l460.length]]), some (1, rows cf_f32 []), some (1, rows cf_f32 []), some (8, rows cT47 []), some (4, rows cT49 []), some (4, [[.ref 6 0 l457.length, .ref 7 0 l458.length, .ref 8 0 l459.length, .ref 9 0 l460.length]]), some (1, rows cf_f32 l457), some (1, rows cf_f32 l458), some (8, rows cT47 l459), some (4, rows cT49 l460)] [] hC ?_))
   obtain rfl := leafS h
   exact VW.ret (VRet.fin (by simp [eB4]))
 refine VW.seq (VW.rE (tm 47 [(2, .ptr 0 0 0), (3, .i .i64 5)]) [some (4, [[.nil, .nil, .nil, .nil]]), some (1, rows cf_f32 []), some (1, rows cf_f32 []), some (8, rows cT47 []), some (4, rows cT49 []), some (4, [[.ref 6 0 l457.length, .ref 7 0 l458.length, .ref 8 0 l459.length, .ref 9 0 l460.length]]), some (1, rows cf_f32 l457), some (1, rows cf_f32 l458), some (8, rows cT47 l459), some (4, rows cT49 l460)] [] hC (Ent.trans (Ent.nilref (m := [some (4, [[.nil, .nil, .nil, .nil]]), some (1, rows cf_f32 []), some (1, rows cf_f32 []), some (8, rows cT47 []), some (4, rows cT49 []), some (4, [[.ref 6 0 l457.length, .ref 7 0 l458.length, .ref 8 0 l459.length, .ref 9 0 l460.length]]), some (1, rows cf_f32 l457), some (1, rows cf_f32 l458), some (8, rows cT47 l459), some (4, rows cT49 l460)]) 0 1 [some (4, [[.ref 10 0 0, .nil, .nil, .nil]]), some (1, rows cf_f32 []), some (1, rows cf_f32 []), some (8, rows cT47 []), some (4, rows cT49 []), some (4, [[.ref 6 0 l457.length, .ref 7 0 l458.length, .ref 8 0 l459.length, .ref 9 0 l460.length]]), some (1, rows cf_f32 l457), some (1, rows cf_f32 l458), some (8, rows cT47 l459), some (4, rows cT49 l460), some (1, rows cf_f32 [])] rfl (by simp) rfl) (Ent.trans (Ent.nilref (m := [some (4, [[.ref 10 0 0, .nil, .nil, .nil]]), some (1, rows cf_f32 []), some (1, rows cf_f32 []), some (8, rows cT47 []), some (4, rows cT49 []), some (4, [[.ref 6 0 l457.length, .ref 7 0 l458.length, .ref 8 0 l459.length, .ref 9 0 l460.length]]), some (1, rows cf_f32 l457), some (1, rows cf_f32 l458), some (8, rows cT47 l459), some (4, rows cT49 l460), some (1, rows cf_f32 [])]) 0 1 [some (4, [[.ref 10 0 0, .ref 11 0 0, .nil, .nil]]), some (1, rows cf_f32 []), some (1, rows cf_f32 []), some (8, rows cT47 []), some (4, rows cT49 []), some (4, [[.ref 6 0 l457.length, .ref 7 0 l458.length, .ref 8 0 l459.length, .ref 9 0 l460.length]]), some (1, rows cf_f32 l457), some (1, rows cf_f32 l458), some (8, rows cT47 l459), some (4, rows cT49 l460), some (1, rows cf_f32 []), some (1, rows cf_f32 [])] rfl (by simp) rfl) (Ent.trans (Ent.nilref (m := [some (4, [[.ref 10 0 0, .ref 11 0 0, .nil, .nil]]), some (1, rows cf_f32 []), some (1, rows cf_f32 []), some (8, rows cT47 []), some (4, rows cT49 []), some (4, [[.ref 6 0 l457.length, .ref 7 0 l458.length, .ref 8 0 l459.length, .ref 9 0 l460.length]]), some (1, rows cf_f32 l457), some (1, rows cf_f32 l458), some (8, rows cT47 l459), some (4, rows cT49 l460), some (1, rows cf_f32 []), some (1, rows cf_f32 [])]) 0 8 [some (4, [[.ref 10 0 0, .ref 11 0 0, .ref 12 0 0, .nil]]), some (1, rows cf_f32 []), some (1, rows cf_f32 []), some (8, rows cT47 []), some (4, rows cT49 []), some (4, [[.ref 6 0 l457.length, .ref 7 0 l458.length, .ref 8 0 l459.length, .ref 9 0 l460.length]]), some (1, rows cf_f32 l457), some (1, rows cf_f32 l458), some (8, rows cT47 l459), some (4, rows cT49 l460), some (1, rows cf_f32 []), some (1, rows cf_f32 []), some (8, rows cT47 [])] rfl (by simp) rfl) (Ent.nilref (m := [some (4, [[.ref 10 0 0, .ref 11 0 0, .ref 12 0 0, .nil]]), some (1, rows cf_f32 []), some (1, rows cf_f32 []), some (8, rows cT47 []), some (4, rows cT49 []), some (4, [[.ref 6 0 l457.length, .ref 7 0 l458.length, .ref 8 0 l459.length, .ref 9 0 l460.length]]), some (1, rows cf_f32 l457), some (1, rows cf_f32 l458), some (8, rows cT47 l459), some (4, rows cT49 l460), some (1, rows cf_f32 []), some (1, rows cf_f32 []), some (8, rows cT47 [])]) 0 4 [some (4, [[.ref 10 0 0, .ref 11 0 0, .ref 12 0 0, .ref 13 0 0]]), some (1, rows cf_f32 []), some (1, rows cf_f32 []), some (8, rows cT47 []), some (4, rows cT49 []), some (4, [[.ref 6 0 l457.length, .ref 7 0 l458.length, .ref 8 0 l459.length, .ref 9 0 l460.length]]), some (1, rows cf_f32 l457), some (1, rows cf_f32 l458), some (8, rows cT47 l459), some (4, rows cT49 l460), some (1, rows cf_f32 []), some (1, rows cf_f32 []), some (8, rows cT47 []), some (4, rows cT49 [])] rfl (by simp) rfl) ) ) ) ?_)
 obtain rfl := leafS h
 exact VW.ret (VRet.fin (by simp [eB4]))
theorem tl4 {text : ByteArray} {r : T25 × Int} (h : g4 text = some r) : F4 [.str text] = some (.tup [.agg [.own 1 (rows cf_f32 r.1.heat_), .own 1 (rows cf_f32 r.1.store_), .own 8 (rows cT47 r.1.walls_), .own 4 (rows cT49 r.1.panes_)], .i .i64 r.2]) := tells_eq inj4 (a := text) h
noncomputable def g40 (p0 : ByteArray) (p1 : ByteArray) : Option (List ByteArray) := splitO p0 p1
def eA40 (a : ByteArray × ByteArray) : List V := [.str a.1, .str a.2]
def eB40 (r : List ByteArray) : V := .own 1 (rows cs_ r)
theorem inj40 (a a' : ByteArray × ByteArray) (h : eA40 a = eA40 a') : a = a' := by
  obtain ⟨i111, i112⟩ := a
  obtain ⟨i113, i114⟩ := a'
  simp only [eA40, List.cons.injEq, V.i.injEq, V.b.injEq, V.f.injEq, V.str.injEq, V.sl.injEq, V.agg.injEq, V.cptr.injEq, true_and, and_true] at h
  simp_all
noncomputable def F40 : List V → Option V := tells (fun a => g40 a.1 a.2) eA40 eB40
/- strings.Split -/
theorem ok40 : Tells Tryz.prog 40 F40 := Tells.of (by kernel_rfl) (fun ⟨p0, p1⟩ r h => split_calls Tryz.lays146 (by kernel_rfl) (by kernel_rfl) h)
theorem tl40 {p0 : ByteArray} {p1 : ByteArray} {r : List ByteArray} (h : g40 p0 p1 = some r) : F40 [.str p0, .str p1] = some (.own 1 (rows cs_ r)) := tells_eq inj40 (a := (p0, p1)) h
noncomputable def g13 (text : ByteArray) : Option ((List ByteArray) × Bool) :=
if eqS text ByteArray.empty = true then
some ([], true)
else
(g40 text (⟨#[10]⟩ : ByteArray)).bind fun r2 =>
(cutK 0 (sI .i64 (r2.length : Int) 1) r2.length).bind fun u4 =>
(idx r2 (sI .i64 (r2.length : Int) 1)).bind fun e6 =>
some ((r2.take ((sI .i64 (r2.length : Int) 1).toNat)), eqS e6 ByteArray.empty)
def eA13 (a : ByteArray) : List V := [.str a]
def eB13 (r : (List ByteArray) × Bool) : V := .tup [.own 1 (rows cs_ r.1), .b r.2]
theorem inj13 (a a' : ByteArray) (h : eA13 a = eA13 a') : a = a' := by
  obtain i115 := a
  obtain i116 := a'
  simp only [eA13, List.cons.injEq, V.i.injEq, V.b.injEq, V.f.injEq, V.str.injEq, V.sl.injEq, V.agg.injEq, V.cptr.injEq, true_and, and_true] at h
  simp_all
noncomputable def F13 : List V → Option V := tells (fun a => g13 a) eA13 eB13
/- loop.example/g01229/impl.linesOf -/
theorem ok13 : Tells Tryz.prog 13 F13 := by
 refine Tells.go 21 Tryz.func13 rfl rfl rfl (by kernel_rfl) (fun _ => rfl) ?_
 rintro text r h
 simp only [eA13, en, Nat.reduceAdd]
 replace h : (g13 text).bind some = some r := bindS h
 rw [g13] at h
 have hC : CEnv.Ok Tryz.prog [(40, F40)] := ⟨.inl ok40, trivial⟩
 refine VW.seq (VW.rA (tm 21 [(0, .str text)]) [] [] hC (VW.seq (VW.seq (VW.rA (tm 21 [(0, .str text), (7, .b (eqS text ByteArray.empty))]) [] [] hC (VW.condI h (fun h => ?_) (fun h => ?_))))))
 · refine VW.seq (VW.rA (tm 21 [(2, .nil), (3, .b true)]) [] [] hC ?_)
   obtain rfl := leafS h
   exact VW.ret (VRet.fin (by simp [eB13]))
 refine VW.skip (VW.seq ?_)
 obtain ⟨r2, q3, h⟩ := bindE h
 have c3 := tl40 q3
 refine VW.rA (tm 21 [(4, .ref 0 0 r2.length)]) [some (1, rows cs_ r2)] [] hC (VW.seq (VW.rA (tm 21 [(4, .ref 0 0 r2.length), (5, .i .i64 (sI .i64 (r2.length : Int) 1))]) [some (1, rows cs_ r2)] [] hC (VW.seq ?_))) (h := by simp -implicitDefEqProofs [c3])
 obtain ⟨u4, ⟨f5a, f5b, f5c, f5d, f5e⟩, h⟩ := bindC h
 try simp only [Int.toNat_natCast, Int.reduceToNat, List.length_cons, List.length_nil, Nat.reduceAdd, Nat.zero_add] at f5a f5b f5c f5d f5e
 obtain ⟨e6, ⟨f7a, f7b, f7c, f7d⟩, h⟩ := bindI h
 try simp only [Int.toNat_natCast, Int.reduceToNat] at f7a f7b f7c f7d
 refine VW.rD (tm 21 [(2, .ref 0 0 ((sI .i64 (r2.length : Int) 1).toNat)), (3, .b (eqS e6 ByteArray.empty))]) [some (1, rows cs_ r2)] [] hC mixed ?_ (h := by simp -implicitDefEqProofs [f5a, f5b, f5c, f5d, f5e, f7a, f7b, f7c, f7d])
 obtain rfl := leafS h
 refine VW.ret (VRet.fin ?_)
 simp [eB13, *]
theorem tl13 {text : ByteArray} {r : (List ByteArray) × Bool} (h : g13 text = some r) : F13 [.str text] = some (.tup [.own 1 (rows cs_ r.1), .b r.2]) := tells_eq inj13 (a := text) h
noncomputable def g15 (r_ : T73) : Option (ByteArray × T73) :=
if eqI (r_.list_.length : Int) 0 = true then
some (ByteArray.empty, (⟨r_.list_, true⟩ : T73))
else
(idx r_.list_ 0).bind fun e2 =>
(cutK 1 (r_.list_.length : Int) r_.list_.length).bind fun u4 =>
some (e2, (⟨(r_.list_.tail), r_.bad_⟩ : T73))
def eA15 (a : T73) : List V := [.agg (pT73 a)]
def eB15 (r : ByteArray × T73) : V := .tup [.str r.1, .agg [.sl 1 (rows cs_ r.2.list_), .b r.2.bad_]]
theorem inj15 (a a' : T73) (h : eA15 a = eA15 a') : a = a' := by
  obtain ⟨i117, i118⟩ := a
  obtain ⟨i119, i120⟩ := a'
  simp only [eA15, pT73, List.cons.injEq, V.i.injEq, V.b.injEq, V.f.injEq, V.str.injEq, V.sl.injEq, V.agg.injEq, V.cptr.injEq, true_and, and_true] at h
  simp_all [ri cs__inj]
noncomputable def F15 : List V → Option V := tells (fun a => g15 a) eA15 eB15
/- (*loop.example/g01229/impl.words).next -/
theorem ok15 : TellsM Tryz.prog 15 F15 := by
  refine TellsM.of Tryz.func15 (by kernel_rfl) rfl rfl rfl ?_
  rintro r_ r h cs vs v_ cs' hE1 hE2 gg mm bb nn hb
  simp only [eA15, List.cons.injEq, V.agg.injEq] at hE1
  obtain ⟨rfl, rfl⟩ := hE1
  have hS : ∀ x, (mm.set bb x)[bb]? = some x := at_set (List.getElem?_eq_some_iff.1 hb).1
  replace h : (g15 r_).bind some = some r := bindS h
  rw [g15] at h
  have hC : CEnv.Ok Tryz.prog [] := trivial
  refine VW.ent (s := (⟨(tm 28 [(0, .ptr bb 0 0)]), (mm.set bb (some (nn, [[.sl 1 (rows cs_ r_.list_), .b r_.bad_]]))), gg⟩ : VS)) (Ent.eqs (by simp only [List.length_cons, List.length_nil, Nat.reduceAdd, Nat.reduceSub]; rw [tm_init]; simp) (set_self hb) rfl) (VW.seq (VW.rA (tm 28 [(0, .ptr bb 0 0)]) (mm.set bb (some (nn, [[.sl 1 (rows cs_ r_.list_), .b r_.bad_]]))) gg hC (VW.seq (VW.seq (VW.rA (tm 28 [(0, .ptr bb 0 0), (9, .b (eqI (r_.list_.length : Int) 0))]) (mm.set bb (some (nn, [[.sl 1 (rows cs_ r_.list_), .b r_.bad_]]))) gg hC (VW.condI h (fun h => ?_) (fun h => ?_)) (h := by simp -implicitDefEqProofs [hS])))) (h := by simp -implicitDefEqProofs [hS])))
  · refine VW.seq (VW.rA (tm 28 []) (mm.set bb (some (nn, [[.sl 1 (rows cs_ r_.list_), .b true]]))) gg hC (VW.seq (VW.rA (tm 28 [(2, .str ByteArray.empty)]) (mm.set bb (some (nn, [[.sl 1 (rows cs_ r_.list_), .b true]]))) gg hC ?_ (h := by simp -implicitDefEqProofs [hS]))) (h := by simp -implicitDefEqProofs [hS]))
    obtain rfl := leafS h
    simp only [eB15, V.tup.injEq, V.agg.injEq, List.cons.injEq, and_true] at hE2
    obtain ⟨rfl, rfl⟩ := hE2
    exact VW.ret (VInE.fin (by simp) (by simp) rfl)
  refine VW.skip (VW.seq ?_)
  obtain ⟨e2, ⟨f3a, f3b, f3c, f3d⟩, h⟩ := bindI h
  try simp only [Int.toNat_natCast, Int.reduceToNat] at f3a f3b f3c f3d
  refine VW.rA (tm 28 [(0, .ptr bb 0 0), (3, .str e2)]) (mm.set bb (some (nn, [[.sl 1 (rows cs_ r_.list_), .b r_.bad_]]))) gg hC (VW.seq ?_) (h := by simp -implicitDefEqProofs [f3a, f3b, f3c, f3d, hS])
  obtain ⟨u4, ⟨f5a, f5b, f5c, f5d, f5e⟩, h⟩ := bindC h
  try simp only [Int.toNat_natCast, Int.reduceToNat, List.length_cons, List.length_nil, Nat.reduceAdd, Nat.zero_add] at f5a f5b f5c f5d f5e
  refine VW.rA (tm 28 [(3, .str e2)]) (mm.set bb (some (nn, [[.sl 1 (rows cs_ (r_.list_.tail)), .b r_.bad_]]))) gg hC (VW.seq (VW.rA (tm 28 [(2, .str e2)]) (mm.set bb (some (nn, [[.sl 1 (rows cs_ (r_.list_.tail)), .b r_.bad_]]))) gg hC ?_ (h := by simp -implicitDefEqProofs [hS]))) (h := by simp -implicitDefEqProofs [f5a, f5b, f5c, f5d, f5e, hS])
  obtain rfl := leafS h
  simp only [eB15, V.tup.injEq, V.agg.injEq, List.cons.injEq, and_true] at hE2
  obtain ⟨rfl, rfl⟩ := hE2
  exact VW.ret (VInE.fin (by simp) (by simp) rfl)
noncomputable def g69_j1 (l26 : List Int) : Option (ByteArray) :=
some (strOfNums l26)
noncomputable def g69_L1 (n : Int) : (Int × (List Int)) → Option ((Int × (List Int)) ⊕ (List Int))
| (x_43, l44) =>
if ltI x_43 ((List.replicate 8 0).length : Int) = true then
(shrI .u32 n (sI .i64 28 (mI .i64 4 x_43))).bind fun d46 =>
(idxS (⟨#[48, 49, 50, 51, 52, 53, 54, 55, 56, 57, 97, 98, 99, 100, 101, 102]⟩ : ByteArray) (andI .u32 d46 15)).bind fun e48 =>
(idx l44 x_43).bind fun e50 =>
some (.inl (aI .i64 x_43 1, (l44.set x_43.toNat e48)))
else
some (.inr l44)
noncomputable def g69 (n : Int) : Option (ByteArray) :=
(loopO (g69_L1 n) (0, (List.replicate 8 0))).bind fun w => g69_j1 w
def eA69 (a : Int) : List V := [.i .u32 a]
def eB69 (r : ByteArray) : V := .str r
theorem inj69 (a a' : Int) (h : eA69 a = eA69 a') : a = a' := by
  obtain i121 := a
  obtain i122 := a'
  simp only [eA69, List.cons.injEq, V.i.injEq, V.b.injEq, V.f.injEq, V.str.injEq, V.sl.injEq, V.agg.injEq, V.cptr.injEq, true_and, and_true] at h
  simp_all
noncomputable def F69 : List V → Option V := tells (fun a => g69 a) eA69 eB69
/- loop.example/g01229/impl.hex -/
theorem ok69 : Tells Tryz.prog 69 F69 := by
 refine Tells.go 24 Tryz.func69 rfl rfl rfl (by kernel_rfl) (fun _ => rfl) ?_
 rintro n r h
 simp only [eA69, en, Nat.reduceAdd]
 replace h : (g69 n).bind some = some r := bindS h
 rw [g69] at h
 have hC : CEnv.Ok Tryz.prog [] := trivial
 refine VW.seq (VW.rA (tm 24 [(0, .i .u32 n)]) [] [] hC (VW.seq (VW.rA (tm 24 [(0, .i .u32 n), (3, .ref 0 0 (List.replicate 8 0).length)]) [some (1, rows ci_u8 (List.replicate 8 0))] [] hC (VW.join (fun (v : List Int) => (⟨(tm 24 [(3, .ref 0 0 v.length)]), [some (1, rows ci_u8 v)], []⟩ : VS)) (fun v => (g69_j1 (v)).bind some = some r) ?_ ?_))))
 · refine VW.seq (VW.rA (tm 24 [(0, .i .u32 n), (3, .ref 0 0 (List.replicate 8 0).length), (7, .i .i64 ((List.replicate 8 0).length : Int)), (8, .i .i64 0)]) [some (1, rows ci_u8 (List.replicate 8 0))] [] hC (VW.block ?_))
   obtain ⟨w_1, hw_1, h⟩ := bindE h
   refine VW.loopO (fun (x : Int × (List Int)) => (⟨(tm 24 [(0, .i .u32 n), (3, .ref 0 0 x.2.length), (7, .i .i64 ((List.replicate 8 0).length : Int)), (8, .i .i64 x.1)]), [some (1, rows ci_u8 x.2)], []⟩ : VS)) hw_1 (Ent.tu 1) ?_
   rintro n_1 ⟨x_43, l44⟩ h1
   rw [g69_L1] at h1
   refine VW.seq (VW.rA (tm 24 [(0, .i .u32 n), (3, .ref 0 0 l44.length), (7, .i .i64 ((List.replicate 8 0).length : Int)), (8, .i .i64 x_43), (9, .b (ltI x_43 ((List.replicate 8 0).length : Int)))]) [some (1, rows ci_u8 l44)] [] hC (VW.seq (VW.condJ h1 (fun h1 => ?_) (fun h1 => ?_))))
   · refine VW.exit ?_
     have e_ := leafR h1
     subst w_1
     exact vnext l44 h (Ent.tu 1)
   refine VW.skip (VW.seq (VW.block (VW.seq (VW.rA (tm 24 [(0, .i .u32 n), (3, .ref 0 0 l44.length), (4, .i .i64 x_43), (7, .i .i64 ((List.replicate 8 0).length : Int)), (8, .i .i64 x_43)]) [some (1, rows ci_u8 l44)] [] hC ?_))))
   obtain ⟨d46, q47, h1⟩ := bindE h1
   obtain ⟨e48, ⟨f49a, c49, f49b, f49c, f49d⟩, h1⟩ := bindIS h1
   obtain ⟨e50, ⟨f51a, f51b, f51c, f51d⟩, h1⟩ := bindI h1
   exact VW.rA (tm 24 [(0, .i .u32 n), (3, .ref 0 0 (l44.set x_43.toNat e48).length), (7, .i .i64 ((List.replicate 8 0).length : Int)), (8, .i .i64 x_43)]) [some (1, rows ci_u8 (l44.set x_43.toNat e48))] [] hC (VW.rA (tm 24 [(0, .i .u32 n), (3, .ref 0 0 (l44.set x_43.toNat e48).length), (7, .i .i64 ((List.replicate 8 0).length : Int)), (8, .i .i64 (aI .i64 x_43 1))]) [some (1, rows ci_u8 (l44.set x_43.toNat e48))] [] hC (vnext (aI .i64 x_43 1, (l44.set x_43.toNat e48)) (leafL h1) (Ent.tu 1))) (h := by simp -implicitDefEqProofs [q47, f49a, f49b, f49c, f49d, f51a, f51b, f51c, f51d])
 rintro l26 h
 replace h : (g69_j1 l26).bind _ = _ := h
 rw [g69_j1] at h
 refine VW.seq (VW.rA (tm 24 [(2, .str (strOfNums l26))]) [some (1, rows ci_u8 l26)] [] hC ?_)
 obtain rfl := leafS h
 exact VW.ret (VRet.fin (by simp [eB69]))
theorem tl69 {n : Int} {r : ByteArray} (h : g69 n = some r) : F69 [.i .u32 n] = some (.str r) := tells_eq inj69 (a := n) h
noncomputable def g49 (a : F32) : Option (ByteArray) :=
if neF .f32 a a = true then
some (⟨#[55, 102, 99, 48, 48, 48, 48, 48]⟩ : ByteArray)
else
(f32bits a).bind fun z2 =>
(g69 z2).bind fun r4 =>
some r4
def eA49 (a : F32) : List V := [.f .f32 a]
def eB49 (r : ByteArray) : V := .str r
theorem inj49 (a a' : F32) (h : eA49 a = eA49 a') : a = a' := by
  obtain i123 := a
  obtain i124 := a'
  simp only [eA49, List.cons.injEq, V.i.injEq, V.b.injEq, V.f.injEq, V.str.injEq, V.sl.injEq, V.agg.injEq, V.cptr.injEq, true_and, and_true] at h
  simp_all
noncomputable def F49 : List V → Option V := tells (fun a => g49 a) eA49 eB49
/- loop.example/g01229/impl.NumberText -/
theorem ok49 : Tells Tryz.prog 49 F49 := by
 refine Tells.go 9 Tryz.func49 rfl rfl rfl (by kernel_rfl) (fun _ => rfl) ?_
 rintro a r h
 simp only [eA49, en, Nat.reduceAdd]
 replace h : (g49 a).bind some = some r := bindS h
 rw [g49] at h
 have hC : CEnv.Ok Tryz.prog [(68, FXbits32), (69, F69)] := ⟨.inr okx68, .inl ok69, trivial⟩
 refine VW.seq (VW.rA (tm 9 [(0, .f .f32 a)]) [] [] hC (VW.seq (VW.seq (VW.rA (tm 9 [(0, .f .f32 a), (5, .b (neF .f32 a a))]) [] [] hC (VW.condI h (fun h => ?_) (fun h => ?_))))))
 · refine VW.seq (VW.rA (tm 9 [(2, .str (⟨#[55, 102, 99, 48, 48, 48, 48, 48]⟩ : ByteArray))]) [] [] hC ?_)
   obtain rfl := leafS h
   exact VW.ret (VRet.fin (by simp [eB49]))
 refine VW.skip (VW.seq ?_)
 obtain ⟨z2, q3, h⟩ := bindE h
 have c3 := f32bits_F q3
 obtain ⟨r4, q5, h⟩ := bindE h
 have c5 := tl69 q5
 refine VW.rA (tm 9 [(2, .str r4)]) [] [] hC ?_ (h := by simp -implicitDefEqProofs [c3, c5])
 obtain rfl := leafS h
 exact VW.ret (VRet.fin (by simp [eB49]))
theorem tl49 {a : F32} {r : ByteArray} (h : g49 a = some r) : F49 [.f .f32 a] = some (.str r) := tells_eq inj49 (a := a) h
noncomputable def g79 (p0 : ByteArray) (p1 : Int) : Option (Int) := indexByteO p0 p1
def eA79 (a : ByteArray × Int) : List V := [.str a.1, .i .u8 a.2]
def eB79 (r : Int) : V := .i .i64 r
theorem inj79 (a a' : ByteArray × Int) (h : eA79 a = eA79 a') : a = a' := by
  obtain ⟨i125, i126⟩ := a
  obtain ⟨i127, i128⟩ := a'
  simp only [eA79, List.cons.injEq, V.i.injEq, V.b.injEq, V.f.injEq, V.str.injEq, V.sl.injEq, V.agg.injEq, V.cptr.injEq, true_and, and_true] at h
  simp_all
noncomputable def F79 : List V → Option V := tells (fun a => g79 a.1 a.2) eA79 eB79
/- strings.IndexByte -/
theorem ok79 : Tells Tryz.prog 79 F79 := Tells.of (by kernel_rfl) (fun ⟨p0, p1⟩ r h => indexByte_calls Tryz.lays137 h)
theorem tl79 {p0 : ByteArray} {p1 : Int} {r : Int} (h : g79 p0 p1 = some r) : F79 [.str p0, .i .u8 p1] = some (.i .i64 r) := tells_eq inj79 (a := (p0, p1)) h
noncomputable def g63_j1 (n_30 : Int) : Option (Int × Bool) :=
some (n_30, true)
noncomputable def g63_L1 (s : ByteArray) : (Int × Int) → Option ((Int × Int) ⊕ ((Int) ⊕ (Int × Bool)))
| (n_49, x_50) =>
if ltI x_50 (s.size : Int) = true then
(idxS s x_50).bind fun e52 =>
(g79 (⟨#[48, 49, 50, 51, 52, 53, 54, 55, 56, 57, 97, 98, 99, 100, 101, 102]⟩ : ByteArray) e52).bind fun r54 =>
if ltI r54 0 = true then
some (.inr (.inr (0, false)))
else
(shlI .u32 n_49 4).bind fun d57 =>
some (.inl (orI .u32 d57 (cI .u32 r54), aI .i64 x_50 1))
else
some (.inr (.inl n_49))
noncomputable def g63 (s : ByteArray) : Option (Int × Bool) :=
if (!eqI (s.size : Int) 8) = true then
some (0, false)
else
(loopO (g63_L1 s) (0, 0)).bind fun w => match w with
| .inl y => g63_j1 y
| .inr r => some r
def eA63 (a : ByteArray) : List V := [.str a]
def eB63 (r : Int × Bool) : V := .tup [.i .u32 r.1, .b r.2]
theorem inj63 (a a' : ByteArray) (h : eA63 a = eA63 a') : a = a' := by
  obtain i129 := a
  obtain i130 := a'
  simp only [eA63, List.cons.injEq, V.i.injEq, V.b.injEq, V.f.injEq, V.str.injEq, V.sl.injEq, V.agg.injEq, V.cptr.injEq, true_and, and_true] at h
  simp_all
noncomputable def F63 : List V → Option V := tells (fun a => g63 a) eA63 eB63
/- loop.example/g01229/impl.unhex -/
theorem ok63 : Tells Tryz.prog 63 F63 := by
 refine Tells.go 28 Tryz.func63 rfl rfl rfl (by kernel_rfl) (fun _ => rfl) ?_
 rintro s r h
 simp only [eA63, en, Nat.reduceAdd]
 replace h : (g63 s).bind some = some r := bindS h
 rw [g63] at h
 have hC : CEnv.Ok Tryz.prog [(79, F79)] := ⟨.inl ok79, trivial⟩
 refine VW.seq (VW.rA (tm 28 [(0, .str s)]) [] [] hC (VW.seq (VW.seq (VW.rA (tm 28 [(0, .str s), (9, .b (!eqI (s.size : Int) 8))]) [] [] hC (VW.condI h (fun h => ?_) (fun h => ?_))))))
 · refine VW.seq (VW.rA (tm 28 [(2, .i .u32 0), (3, .b false)]) [] [] hC ?_)
   obtain rfl := leafS h
   exact VW.ret (VRet.fin (by simp [eB63]))
 refine VW.skip (VW.seq (VW.rA (tm 28 [(0, .str s), (4, .i .u32 0)]) [] [] hC (VW.join (fun (v : Int) => (⟨(tm 28 [(4, .i .u32 v)]), [], []⟩ : VS)) (fun v => (g63_j1 (v)).bind some = some r) ?_ ?_)))
 · refine VW.seq (VW.rA (tm 28 [(0, .str s), (4, .i .u32 0), (11, .i .i64 (s.size : Int)), (12, .i .i64 0)]) [] [] hC (VW.block ?_))
   obtain ⟨w_1, hw_1, h⟩ := bindE h
   refine VW.loopO (fun (x : Int × Int) => (⟨(tm 28 [(0, .str s), (4, .i .u32 x.1), (11, .i .i64 (s.size : Int)), (12, .i .i64 x.2)]), [], []⟩ : VS)) hw_1 (Ent.tu 0) ?_
   rintro n_1 ⟨n_49, x_50⟩ h1
   rw [g63_L1] at h1
   refine VW.seq (VW.rA (tm 28 [(0, .str s), (4, .i .u32 n_49), (11, .i .i64 (s.size : Int)), (12, .i .i64 x_50), (13, .b (ltI x_50 (s.size : Int)))]) [] [] hC (VW.seq (VW.condJ h1 (fun h1 => ?_) (fun h1 => ?_))))
   · refine VW.exit ?_
     have e_ := leafR h1
     subst w_1
     exact vnext n_49 h (Ent.tu 0)
   refine VW.skip (VW.seq (VW.block (VW.seq (VW.rA (tm 28 [(0, .str s), (4, .i .u32 n_49), (5, .i .i64 x_50), (11, .i .i64 (s.size : Int)), (12, .i .i64 x_50)]) [] [] hC (VW.seq ?_)))))
   obtain ⟨e52, ⟨f53a, c53, f53b, f53c, f53d⟩, h1⟩ := bindIS h1
   obtain ⟨r54, q55, h1⟩ := bindE h1
   have c55 := tl79 q55
   refine VW.rA (tm 28 [(0, .str s), (4, .i .u32 n_49), (6, .i .i64 r54), (11, .i .i64 (s.size : Int)), (12, .i .i64 x_50)]) [] [] hC (VW.seq (VW.seq (VW.rA (tm 28 [(0, .str s), (4, .i .u32 n_49), (6, .i .i64 r54), (11, .i .i64 (s.size : Int)), (12, .i .i64 x_50), (20, .b (ltI r54 0))]) [] [] hC (VW.condI h1 (fun h1 => ?_) (fun h1 => ?_))))) (h := by simp -implicitDefEqProofs [f53a, f53b, f53c, f53d, c55])
   · refine VW.seq (VW.rA (tm 28 [(2, .i .u32 0), (3, .b false)]) [] [] hC ?_)
     have e_ := leafR h1
     subst w_1
     obtain rfl := leafS h
     exact VW.ret (VRet.fin (by simp [eB63]))
   refine VW.skip ?_
   obtain ⟨d57, q58, h1⟩ := bindE h1
   exact VW.rA (tm 28 [(0, .str s), (4, .i .u32 (orI .u32 d57 (cI .u32 r54))), (11, .i .i64 (s.size : Int)), (12, .i .i64 x_50)]) [] [] hC (VW.rA (tm 28 [(0, .str s), (4, .i .u32 (orI .u32 d57 (cI .u32 r54))), (11, .i .i64 (s.size : Int)), (12, .i .i64 (aI .i64 x_50 1))]) [] [] hC (vnext (orI .u32 d57 (cI .u32 r54), aI .i64 x_50 1) (leafL h1) (Ent.tu 0))) (h := by simp -implicitDefEqProofs [q58])
 rintro n_30 h
 replace h : (g63_j1 n_30).bind _ = _ := h
 rw [g63_j1] at h
 refine VW.seq (VW.rA (tm 28 [(2, .i .u32 n_30), (3, .b true)]) [] [] hC ?_)
 obtain rfl := leafS h
 exact VW.ret (VRet.fin (by simp [eB63]))
theorem tl63 {s : ByteArray} {r : Int × Bool} (h : g63 s = some r) : F63 [.str s] = some (.tup [.i .u32 r.1, .b r.2]) := tells_eq inj63 (a := s) h
noncomputable def g41 (text : ByteArray) : Option (F32 × Int) :=
(g63 text).bind fun r1 =>
(if (!r1.2) = true then some true else (g49 (f32of r1.1)).bind fun r3 => some (!eqS r3 text)).bind fun w5 =>
if w5 = true then
some ((some 0), 5)
else
some (f32of r1.1, 0)
def eA41 (a : ByteArray) : List V := [.str a]
def eB41 (r : F32 × Int) : V := .tup [.f .f32 r.1, .i .i64 r.2]
theorem inj41 (a a' : ByteArray) (h : eA41 a = eA41 a') : a = a' := by
  obtain i131 := a
  obtain i132 := a'
  simp only [eA41, List.cons.injEq, V.i.injEq, V.b.injEq, V.f.injEq, V.str.injEq, V.sl.injEq, V.agg.injEq, V.cptr.injEq, true_and, and_true] at h
  simp_all
noncomputable def F41 : List V → Option V := tells (fun a => g41 a) eA41 eB41
/- loop.example/g01229/impl.ReadNumber -/
theorem ok41 : Tells Tryz.prog 41 F41 := by
 refine Tells.go 23 Tryz.func41 rfl rfl rfl (by kernel_rfl) (fun _ => rfl) ?_
 rintro text r h
 simp only [eA41, en, Nat.reduceAdd]
 replace h : (g41 text).bind some = some r := bindS h
 rw [g41] at h
 have hC : CEnv.Ok Tryz.prog [(49, F49), (63, F63), (64, FXof32)] := ⟨.inl ok49, .inl ok63, .inr okx64, trivial⟩
 refine VW.seq (VW.rA (tm 23 [(0, .str text)]) [] [] hC (VW.seq ?_) (h := by simp -implicitDefEqProofs [f32of_F]))
 obtain ⟨r1, q2, h⟩ := bindE h
 have c2 := tl63 q2
 refine VW.rA (tm 23 [(0, .str text), (4, .i .u32 r1.1), (5, .b r1.2)]) [] [] hC (VW.seq (VW.rA (tm 23 [(0, .str text), (5, .b r1.2), (6, .f .f32 (f32of r1.1))]) [] [] hC (VW.seq (VW.seq ?_)) (h := by simp -implicitDefEqProofs [f32of_F]))) (h := by simp -implicitDefEqProofs [c2, f32of_F])
 obtain ⟨w5, q7, h⟩ := bindE h
 refine VW.evalA (tm 23 [(6, .f .f32 (f32of r1.1)), (21, .b w5)]) [] [] hC (by kernel_rfl) (by
     obtain ⟨q8, q7⟩ | ⟨q8, rfl⟩ := gdF q7
     · obtain ⟨r3, q4, q7⟩ := bindQ q7
       have c4 := tl49 q4
       obtain rfl := Option.some.inj q7
       simp -implicitDefEqProofs [q8, c4, f32of_F]
     simp -implicitDefEqProofs [q8, f32of_F]) ?_
 refine VW.condI h (fun h => ?_) (fun h => ?_)
 · refine VW.seq (VW.rA (tm 23 [(2, .f .f32 (some 0)), (3, .i .i64 5)]) [] [] hC ?_ (h := by simp -implicitDefEqProofs [f32of_F]))
   obtain rfl := leafS h
   exact VW.ret (VRet.fin (by simp [eB41]))
 refine VW.skip (VW.seq (VW.rA (tm 23 [(2, .f .f32 (f32of r1.1)), (3, .i .i64 0)]) [] [] hC ?_ (h := by simp -implicitDefEqProofs [f32of_F])))
 obtain rfl := leafS h
 exact VW.ret (VRet.fin (by simp [eB41]))
theorem tl41 {text : ByteArray} {r : F32 × Int} (h : g41 text = some r) : F41 [.str text] = some (.tup [.f .f32 r.1, .i .i64 r.2]) := tells_eq inj41 (a := text) h
noncomputable def g16 (r_ : T73) : Option (F32 × T73) :=
(g15 r_).bind fun r1 =>
(g41 r1.1).bind fun r3 =>
some (r3.1, (⟨r1.2.list_, (r1.2.bad_ || (!eqI r3.2 0))⟩ : T73))
def eA16 (a : T73) : List V := [.agg (pT73 a)]
def eB16 (r : F32 × T73) : V := .tup [.f .f32 r.1, .agg [.sl 1 (rows cs_ r.2.list_), .b r.2.bad_]]
theorem inj16 (a a' : T73) (h : eA16 a = eA16 a') : a = a' := by
  obtain ⟨i133, i134⟩ := a
  obtain ⟨i135, i136⟩ := a'
  simp only [eA16, pT73, List.cons.injEq, V.i.injEq, V.b.injEq, V.f.injEq, V.str.injEq, V.sl.injEq, V.agg.injEq, V.cptr.injEq, true_and, and_true] at h
  simp_all [ri cs__inj]
noncomputable def F16 : List V → Option V := tells (fun a => g16 a) eA16 eB16
/- (*loop.example/g01229/impl.words).number -/
theorem ok16 : TellsM Tryz.prog 16 F16 := by
  refine TellsM.of Tryz.func16 (by kernel_rfl) rfl rfl rfl ?_
  rintro r_ r h cs vs v_ cs' hE1 hE2 gg mm bb nn hb
  simp only [eA16, List.cons.injEq, V.agg.injEq] at hE1
  obtain ⟨rfl, rfl⟩ := hE1
  have hS : ∀ x, (mm.set bb x)[bb]? = some x := at_set (List.getElem?_eq_some_iff.1 hb).1
  replace h : (g16 r_).bind some = some r := bindS h
  rw [g16] at h
  have hC : CEnv.Ok Tryz.prog [(41, F41)] := ⟨.inl ok41, trivial⟩
  refine VW.ent (s := (⟨(tm 23 [(0, .ptr bb 0 0)]), (mm.set bb (some (nn, [[.sl 1 (rows cs_ r_.list_), .b r_.bad_]]))), gg⟩ : VS)) (Ent.eqs (by simp only [List.length_cons, List.length_nil, Nat.reduceAdd, Nat.reduceSub]; rw [tm_init]; simp) (set_self hb) rfl) (VW.seq (VW.rA (tm 23 [(0, .ptr bb 0 0)]) (mm.set bb (some (nn, [[.sl 1 (rows cs_ r_.list_), .b r_.bad_]]))) gg hC (VW.seq ?_) (h := by simp -implicitDefEqProofs [hS])))
  obtain ⟨r1, q2, h⟩ := bindE h
  have c2 : F15 [.agg [.sl 1 (rows cs_ r_.list_), .b r_.bad_]] = some (.tup [.str r1.1, .agg [.sl 1 (rows cs_ r1.2.list_), .b r1.2.bad_]]) := tells_eq inj15 (a := r_) q2
  obtain ⟨r3, q4, h⟩ := bindE h
  have c4 := tl41 q4
  refine VW.evalM (CM := [(15, F15)]) (tm 23 [(0, .ptr bb 0 0), (3, .f .f32 r3.1), (4, .i .i64 r3.2)]) (mm.set bb (some (nn, [[.sl 1 (rows cs_ r1.2.list_), .b r1.2.bad_]]))) gg hC ⟨ok15, trivial⟩ (by simp -implicitDefEqProofs [c2, c4, hS]) (VW.seq (VW.rA (tm 23 [(3, .f .f32 r3.1)]) (mm.set bb (some (nn, [[.sl 1 (rows cs_ r1.2.list_), .b (r1.2.bad_ || (!eqI r3.2 0))]]))) gg hC (VW.seq (VW.rA (tm 23 [(2, .f .f32 r3.1)]) (mm.set bb (some (nn, [[.sl 1 (rows cs_ r1.2.list_), .b (r1.2.bad_ || (!eqI r3.2 0))]]))) gg hC ?_ (h := by simp -implicitDefEqProofs [hS]))) (h := by simp -implicitDefEqProofs [hS])))
  obtain rfl := leafS h
  simp only [eB16, V.tup.injEq, V.agg.injEq, List.cons.injEq, and_true] at hE2
  obtain ⟨rfl, rfl⟩ := hE2
  exact VW.ret (VInE.fin (by simp) (by simp) rfl)
noncomputable def g42 (p0 : ByteArray) (p1 : Int) (p2 : Int) : Option (Int × Bool) := parseIntO p0 p1 p2
def eA42 (a : ByteArray × Int × Int) : List V := [.str a.1, .i .i64 a.2.1, .i .i64 a.2.2]
def eB42 (r : Int × Bool) : V := .tup [.i .i64 r.1, errV r.2]
theorem inj42 (a a' : ByteArray × Int × Int) (h : eA42 a = eA42 a') : a = a' := by
  obtain ⟨i137, i138, i139⟩ := a
  obtain ⟨i140, i141, i142⟩ := a'
  simp only [eA42, List.cons.injEq, V.i.injEq, V.b.injEq, V.f.injEq, V.str.injEq, V.sl.injEq, V.agg.injEq, V.cptr.injEq, true_and, and_true] at h
  simp_all
noncomputable def F42 : List V → Option V := tells (fun a => g42 a.1 a.2.1 a.2.2) eA42 eB42
/- strconv.ParseInt -/
theorem ok42 : Tells Tryz.prog 42 F42 := Tells.of (by kernel_rfl) (fun ⟨p0, p1, p2⟩ r h => parseInt_calls Tryz.laysC174 (g1 := 1) (g2 := 2) (by kernel_rfl) (by kernel_rfl) h)
theorem tl42 {p0 : ByteArray} {p1 : Int} {p2 : Int} {r : Int × Bool} (h : g42 p0 p1 p2 = some r) : F42 [.str p0, .i .i64 p1, .i .i64 p2] = some (.tup [.i .i64 r.1, errV r.2]) := tells_eq inj42 (a := (p0, p1, p2)) h
noncomputable def g17 (r_ : T73) : Option (Int × T73) :=
(g15 r_).bind fun r1 =>
(g42 r1.1 10 64).bind fun r3 =>
some (r3.1, (⟨r1.2.list_, (r1.2.bad_ || r3.2)⟩ : T73))
def eA17 (a : T73) : List V := [.agg (pT73 a)]
def eB17 (r : Int × T73) : V := .tup [.i .i64 r.1, .agg [.sl 1 (rows cs_ r.2.list_), .b r.2.bad_]]
theorem inj17 (a a' : T73) (h : eA17 a = eA17 a') : a = a' := by
  obtain ⟨i143, i144⟩ := a
  obtain ⟨i145, i146⟩ := a'
  simp only [eA17, pT73, List.cons.injEq, V.i.injEq, V.b.injEq, V.f.injEq, V.str.injEq, V.sl.injEq, V.agg.injEq, V.cptr.injEq, true_and, and_true] at h
  simp_all [ri cs__inj]
noncomputable def F17 : List V → Option V := tells (fun a => g17 a) eA17 eB17
/- (*loop.example/g01229/impl.words).integer -/
theorem ok17 : TellsM Tryz.prog 17 F17 := by
  refine TellsM.of Tryz.func17 (by kernel_rfl) rfl rfl rfl ?_
  rintro r_ r h cs vs v_ cs' hE1 hE2 gg mm bb nn hb
  simp only [eA17, List.cons.injEq, V.agg.injEq] at hE1
  obtain ⟨rfl, rfl⟩ := hE1
  have hS : ∀ x, (mm.set bb x)[bb]? = some x := at_set (List.getElem?_eq_some_iff.1 hb).1
  replace h : (g17 r_).bind some = some r := bindS h
  rw [g17] at h
  have hC : CEnv.Ok Tryz.prog [(42, F42)] := ⟨.inl ok42, trivial⟩
  refine VW.ent (s := (⟨(tm 23 [(0, .ptr bb 0 0)]), (mm.set bb (some (nn, [[.sl 1 (rows cs_ r_.list_), .b r_.bad_]]))), gg⟩ : VS)) (Ent.eqs (by simp only [List.length_cons, List.length_nil, Nat.reduceAdd, Nat.reduceSub]; rw [tm_init]; simp) (set_self hb) rfl) (VW.seq (VW.rA (tm 23 [(0, .ptr bb 0 0)]) (mm.set bb (some (nn, [[.sl 1 (rows cs_ r_.list_), .b r_.bad_]]))) gg hC (VW.seq ?_) (h := by simp -implicitDefEqProofs [hS])))
  obtain ⟨r1, q2, h⟩ := bindE h
  have c2 : F15 [.agg [.sl 1 (rows cs_ r_.list_), .b r_.bad_]] = some (.tup [.str r1.1, .agg [.sl 1 (rows cs_ r1.2.list_), .b r1.2.bad_]]) := tells_eq inj15 (a := r_) q2
  obtain ⟨r3, q4, h⟩ := bindE h
  have c4 := tl42 q4
  refine VW.evalM (CM := [(15, F15)]) (tm 23 [(0, .ptr bb 0 0), (3, .i .i64 r3.1), (4, errV r3.2)]) (mm.set bb (some (nn, [[.sl 1 (rows cs_ r1.2.list_), .b r1.2.bad_]]))) gg hC ⟨ok15, trivial⟩ (by simp -implicitDefEqProofs [c2, c4, hS]) (VW.seq (VW.rA (tm 23 [(3, .i .i64 r3.1)]) (mm.set bb (some (nn, [[.sl 1 (rows cs_ r1.2.list_), .b (r1.2.bad_ || r3.2)]]))) gg hC (VW.seq (VW.rA (tm 23 [(2, .i .i64 r3.1)]) (mm.set bb (some (nn, [[.sl 1 (rows cs_ r1.2.list_), .b (r1.2.bad_ || r3.2)]]))) gg hC ?_ (h := by simp -implicitDefEqProofs [hS]))) (h := by simp -implicitDefEqProofs [hS])))
  obtain rfl := leafS h
  simp only [eB17, V.tup.injEq, V.agg.injEq, List.cons.injEq, and_true] at hE2
  obtain ⟨rfl, rfl⟩ := hE2
  exact VW.ret (VInE.fin (by simp) (by simp) rfl)
noncomputable def g18 (r_ : T73) : Option (Int × T73) :=
(if ltI 0 (r_.list_.length : Int) = true then (idx r_.list_ 0).bind fun e1 => some (eqS e1 (⟨#[45]⟩ : ByteArray)) else some false).bind fun w3 =>
if w3 = true then
(g15 r_).bind fun r5 =>
some ((-1), r5.2)
else
(g17 r_).bind fun r7 =>
some (r7.1, r7.2)
def eA18 (a : T73) : List V := [.agg (pT73 a)]
def eB18 (r : Int × T73) : V := .tup [.i .i64 r.1, .agg [.sl 1 (rows cs_ r.2.list_), .b r.2.bad_]]
theorem inj18 (a a' : T73) (h : eA18 a = eA18 a') : a = a' := by
  obtain ⟨i147, i148⟩ := a
  obtain ⟨i149, i150⟩ := a'
  simp only [eA18, pT73, List.cons.injEq, V.i.injEq, V.b.injEq, V.f.injEq, V.str.injEq, V.sl.injEq, V.agg.injEq, V.cptr.injEq, true_and, and_true] at h
  simp_all [ri cs__inj]
noncomputable def F18 : List V → Option V := tells (fun a => g18 a) eA18 eB18
/- (*loop.example/g01229/impl.words).side -/
theorem ok18 : TellsM Tryz.prog 18 F18 := by
  refine TellsM.of Tryz.func18 (by kernel_rfl) rfl rfl rfl ?_
  rintro r_ r h cs vs v_ cs' hE1 hE2 gg mm bb nn hb
  simp only [eA18, List.cons.injEq, V.agg.injEq] at hE1
  obtain ⟨rfl, rfl⟩ := hE1
  have hS : ∀ x, (mm.set bb x)[bb]? = some x := at_set (List.getElem?_eq_some_iff.1 hb).1
  replace h : (g18 r_).bind some = some r := bindS h
  rw [g18] at h
  have hC : CEnv.Ok Tryz.prog [] := trivial
  refine VW.ent (s := (⟨(tm 22 [(0, .ptr bb 0 0)]), (mm.set bb (some (nn, [[.sl 1 (rows cs_ r_.list_), .b r_.bad_]]))), gg⟩ : VS)) (Ent.eqs (by simp only [List.length_cons, List.length_nil, Nat.reduceAdd, Nat.reduceSub]; rw [tm_init]; simp) (set_self hb) rfl) (VW.seq (VW.rA (tm 22 [(0, .ptr bb 0 0)]) (mm.set bb (some (nn, [[.sl 1 (rows cs_ r_.list_), .b r_.bad_]]))) gg hC (VW.seq (VW.seq ?_)) (h := by simp -implicitDefEqProofs [hS])))
  obtain ⟨w3, q9, h⟩ := bindE h
  refine VW.evalA (tm 22 [(0, .ptr bb 0 0), (17, .b w3)]) (mm.set bb (some (nn, [[.sl 1 (rows cs_ r_.list_), .b r_.bad_]]))) gg hC (by kernel_rfl) (by
      obtain ⟨q10, q9⟩ | ⟨q10, rfl⟩ := gdT q9
      · obtain ⟨e1, q2, q9⟩ := bindQ q9
        obtain ⟨f2a, f2b, f2c, f2d⟩ := idx_some q2
        try simp only [Int.toNat_natCast, Int.reduceToNat] at f2a f2b f2c f2d
        obtain rfl := Option.some.inj q9
        simp -implicitDefEqProofs [q10, f2a, f2b, f2c, f2d, hS]
      simp -implicitDefEqProofs [q10, hS]) ?_
  refine VW.condJ h (fun h => ?_) (fun h => ?_)
  · refine VW.skip (VW.seq ?_)
    obtain ⟨r7, q8, h⟩ := bindE h
    have c8 : F17 [.agg [.sl 1 (rows cs_ r_.list_), .b r_.bad_]] = some (.tup [.i .i64 r7.1, .agg [.sl 1 (rows cs_ r7.2.list_), .b r7.2.bad_]]) := tells_eq inj17 (a := r_) q8
    refine VW.evalM (CM := [(15, F15), (17, F17)]) (tm 22 [(2, .i .i64 r7.1)]) (mm.set bb (some (nn, [[.sl 1 (rows cs_ r7.2.list_), .b r7.2.bad_]]))) gg hC ⟨ok15, ok17, trivial⟩ (by simp -implicitDefEqProofs [c8, hS]) ?_
    obtain rfl := leafS h
    simp only [eB18, V.tup.injEq, V.agg.injEq, List.cons.injEq, and_true] at hE2
    obtain ⟨rfl, rfl⟩ := hE2
    exact VW.ret (VInE.fin (by simp) (by simp) rfl)
  refine VW.seq ?_
  obtain ⟨r5, q6, h⟩ := bindE h
  have c6 : F15 [.agg [.sl 1 (rows cs_ r_.list_), .b r_.bad_]] = some (.tup [.str r5.1, .agg [.sl 1 (rows cs_ r5.2.list_), .b r5.2.bad_]]) := tells_eq inj15 (a := r_) q6
  refine VW.evalM (CM := [(15, F15), (17, F17)]) (tm 22 []) (mm.set bb (some (nn, [[.sl 1 (rows cs_ r5.2.list_), .b r5.2.bad_]]))) gg hC ⟨ok15, ok17, trivial⟩ (by simp -implicitDefEqProofs [c6, hS]) (VW.seq (VW.rA (tm 22 [(2, .i .i64 (-1))]) (mm.set bb (some (nn, [[.sl 1 (rows cs_ r5.2.list_), .b r5.2.bad_]]))) gg hC ?_ (h := by simp -implicitDefEqProofs [hS])))
  obtain rfl := leafS h
  simp only [eB18, V.tup.injEq, V.agg.injEq, List.cons.injEq, and_true] at hE2
  obtain ⟨rfl, rfl⟩ := hE2
  exact VW.ret (VInE.fin (by simp) (by simp) rfl)
noncomputable def g19 (r_ : T73) : Option (Bool) :=
some ((!r_.bad_) && eqI (r_.list_.length : Int) 0)
def eA19 (a : T73) : List V := [.cptr (pT73 a) 0]
def eB19 (r : Bool) : V := .b r
theorem inj19 (a a' : T73) (h : eA19 a = eA19 a') : a = a' := by
  obtain ⟨i151, i152⟩ := a
  obtain ⟨i153, i154⟩ := a'
  simp only [eA19, pT73, List.cons.injEq, V.i.injEq, V.b.injEq, V.f.injEq, V.str.injEq, V.sl.injEq, V.agg.injEq, V.cptr.injEq, true_and, and_true] at h
  simp_all [ri cs__inj]
noncomputable def F19 : List V → Option V := tells (fun a => g19 a) eA19 eB19
/- (*loop.example/g01229/impl.words).done -/
theorem ok19 : Tells Tryz.prog 19 F19 := by
 refine Tells.go 16 Tryz.func19 rfl rfl rfl (by kernel_rfl) (fun _ => rfl) ?_
 rintro r_ r h
 simp only [eA19, en, Nat.reduceAdd]
 replace h : (g19 r_).bind some = some r := bindS h
 rw [g19] at h
 have hC : CEnv.Ok Tryz.prog [] := trivial
 refine VW.seq (VW.rA (tm 16 [(0, .cptr (pT73 r_) 0)]) [] [] hC (VW.seq (VW.rA (tm 16 [(2, .b ((!r_.bad_) && eqI (r_.list_.length : Int) 0))]) [] [] hC ?_)))
 obtain rfl := leafS h
 exact VW.ret (VRet.fin (by simp [eB19]))
theorem tl19 {r_ : T73} {r : Bool} (h : g19 r_ = some r) : F19 [.cptr [.sl 1 (rows cs_ r_.list_), .b r_.bad_] 0] = some (.b r) := tells_eq inj19 (a := r_) h
noncomputable def g47 (a : F32) (low : F32) (high : F32) : Option (Bool) :=
some (geF .f32 a low && leF .f32 a high)
def eA47 (a : F32 × F32 × F32) : List V := [.f .f32 a.1, .f .f32 a.2.1, .f .f32 a.2.2]
def eB47 (r : Bool) : V := .b r
theorem inj47 (a a' : F32 × F32 × F32) (h : eA47 a = eA47 a') : a = a' := by
  obtain ⟨i155, i156, i157⟩ := a
  obtain ⟨i158, i159, i160⟩ := a'
  simp only [eA47, List.cons.injEq, V.i.injEq, V.b.injEq, V.f.injEq, V.str.injEq, V.sl.injEq, V.agg.injEq, V.cptr.injEq, true_and, and_true] at h
  simp_all
noncomputable def F47 : List V → Option V := tells (fun a => g47 a.1 a.2.1 a.2.2) eA47 eB47
/- loop.example/g01229/impl.between -/
theorem ok47 : Tells Tryz.prog 47 F47 := by
 refine Tells.go 15 Tryz.func47 rfl rfl rfl (by kernel_rfl) (fun _ => rfl) ?_
 rintro ⟨a, low, high⟩ r h
 simp only [eA47, en, Nat.reduceAdd]
 replace h : (g47 a low high).bind some = some r := bindS h
 rw [g47] at h
 have hC : CEnv.Ok Tryz.prog [] := trivial
 refine VW.seq (VW.rA (tm 15 [(0, .f .f32 a), (1, .f .f32 low), (2, .f .f32 high)]) [] [] hC (VW.seq (VW.rA (tm 15 [(6, .b (geF .f32 a low && leF .f32 a high))]) [] [] hC ?_)))
 obtain rfl := leafS h
 exact VW.ret (VRet.fin (by simp [eB47]))
theorem tl47 {a : F32} {low : F32} {high : F32} {r : Bool} (h : g47 a low high = some r) : F47 [.f .f32 a, .f .f32 low, .f .f32 high] = some (.b r) := tells_eq inj47 (a := (a, low, high)) h
noncomputable def g43 (a : F32) : Option (Bool) :=
(g47 a (some 3262119936) (some 1128792064)).bind fun r1 =>
some r1
def eA43 (a : F32) : List V := [.f .f32 a]
def eB43 (r : Bool) : V := .b r
theorem inj43 (a a' : F32) (h : eA43 a = eA43 a') : a = a' := by
  obtain i161 := a
  obtain i162 := a'
  simp only [eA43, List.cons.injEq, V.i.injEq, V.b.injEq, V.f.injEq, V.str.injEq, V.sl.injEq, V.agg.injEq, V.cptr.injEq, true_and, and_true] at h
  simp_all
noncomputable def F43 : List V → Option V := tells (fun a => g43 a) eA43 eB43
/- loop.example/g01229/impl.isHeat -/
theorem ok43 : Tells Tryz.prog 43 F43 := by
 refine Tells.go 5 Tryz.func43 rfl rfl rfl (by kernel_rfl) (fun _ => rfl) ?_
 rintro a r h
 simp only [eA43, en, Nat.reduceAdd]
 replace h : (g43 a).bind some = some r := bindS h
 rw [g43] at h
 have hC : CEnv.Ok Tryz.prog [(47, F47)] := ⟨.inl ok47, trivial⟩
 refine VW.seq (VW.rA (tm 5 [(0, .f .f32 a)]) [] [] hC (VW.seq ?_))
 obtain ⟨r1, q2, h⟩ := bindE h
 have c2 := tl47 q2
 refine VW.rA (tm 5 [(2, .b r1)]) [] [] hC ?_ (h := by simp -implicitDefEqProofs [c2])
 obtain rfl := leafS h
 exact VW.ret (VRet.fin (by simp [eB43]))
theorem tl43 {a : F32} {r : Bool} (h : g43 a = some r) : F43 [.f .f32 a] = some (.b r) := tells_eq inj43 (a := a) h
noncomputable def g85 (f : F32) : Option (Bool) :=
some (neF .f64 f f)
def eA85 (a : F32) : List V := [.f .f64 a]
def eB85 (r : Bool) : V := .b r
theorem inj85 (a a' : F32) (h : eA85 a = eA85 a') : a = a' := by
  obtain i163 := a
  obtain i164 := a'
  simp only [eA85, List.cons.injEq, V.i.injEq, V.b.injEq, V.f.injEq, V.str.injEq, V.sl.injEq, V.agg.injEq, V.cptr.injEq, true_and, and_true] at h
  simp_all
noncomputable def F85 : List V → Option V := tells (fun a => g85 a) eA85 eB85
/- math.IsNaN -/
theorem ok85 : Tells Tryz.prog 85 F85 := by
 refine Tells.go 6 Tryz.func85 rfl rfl rfl (by kernel_rfl) (fun _ => rfl) ?_
 rintro f r h
 simp only [eA85, en, Nat.reduceAdd]
 replace h : (g85 f).bind some = some r := bindS h
 rw [g85] at h
 have hC : CEnv.Ok Tryz.prog [] := trivial
 refine VW.seq (VW.rA (tm 6 [(0, .f .f64 f)]) [] [] hC (VW.seq (VW.rA (tm 6 [(2, .b (neF .f64 f f))]) [] [] hC ?_)))
 obtain rfl := leafS h
 exact VW.ret (VRet.fin (by simp [eB85]))
theorem tl85 {f : F32} {r : Bool} (h : g85 f = some r) : F85 [.f .f64 f] = some (.b r) := tells_eq inj85 (a := f) h
noncomputable def g103 (x_ : F32) : Option (F32) :=
(f64bits x_).bind fun z1 =>
some (f64of (andnI .u64 z1 9223372036854775808))
def eA103 (a : F32) : List V := [.f .f64 a]
def eB103 (r : F32) : V := .f .f64 r
theorem inj103 (a a' : F32) (h : eA103 a = eA103 a') : a = a' := by
  obtain i165 := a
  obtain i166 := a'
  simp only [eA103, List.cons.injEq, V.i.injEq, V.b.injEq, V.f.injEq, V.str.injEq, V.sl.injEq, V.agg.injEq, V.cptr.injEq, true_and, and_true] at h
  simp_all
noncomputable def F103 : List V → Option V := tells (fun a => g103 a) eA103 eB103
/- math.Abs -/
theorem ok103 : Tells Tryz.prog 103 F103 := by
 refine Tells.go 7 Tryz.func103 rfl rfl rfl (by kernel_rfl) (fun _ => rfl) ?_
 rintro x_ r h
 simp only [eA103, en, Nat.reduceAdd]
 replace h : (g103 x_).bind some = some r := bindS h
 rw [g103] at h
 have hC : CEnv.Ok Tryz.prog [(117, FXof64), (118, FXbits64)] := ⟨.inr okx117, .inr okx118, trivial⟩
 refine VW.seq (VW.rA (tm 7 [(0, .f .f64 x_)]) [] [] hC (VW.seq ?_) (h := by simp -implicitDefEqProofs [f64of_F]))
 obtain ⟨z1, q2, h⟩ := bindE h
 have c2 := f64bits_F q2
 refine VW.rA (tm 7 [(2, .f .f64 (f64of (andnI .u64 z1 9223372036854775808)))]) [] [] hC ?_ (h := by simp -implicitDefEqProofs [c2, f64of_F])
 obtain rfl := leafS h
 exact VW.ret (VRet.fin (by simp [eB103]))
theorem tl103 {x_ : F32} {r : F32} (h : g103 x_ = some r) : F103 [.f .f64 x_] = some (.f .f64 r) := tells_eq inj103 (a := x_) h
noncomputable def g86 (f : F32) (sign : Int) : Option (Bool) :=
if eqI sign 0 = true then
(g103 f).bind fun r2 =>
some (gtF .f64 r2 (some 9218868437227405311))
else
if ltI sign 0 = true then
some (gtF .f64 (negF .f64 f) (some 9218868437227405311))
else
some (gtF .f64 f (some 9218868437227405311))
def eA86 (a : F32 × Int) : List V := [.f .f64 a.1, .i .i64 a.2]
def eB86 (r : Bool) : V := .b r
theorem inj86 (a a' : F32 × Int) (h : eA86 a = eA86 a') : a = a' := by
  obtain ⟨i167, i168⟩ := a
  obtain ⟨i169, i170⟩ := a'
  simp only [eA86, List.cons.injEq, V.i.injEq, V.b.injEq, V.f.injEq, V.str.injEq, V.sl.injEq, V.agg.injEq, V.cptr.injEq, true_and, and_true] at h
  simp_all
noncomputable def F86 : List V → Option V := tells (fun a => g86 a.1 a.2) eA86 eB86
/- math.IsInf -/
theorem ok86 : Tells Tryz.prog 86 F86 := by
 refine Tells.go 15 Tryz.func86 rfl rfl rfl (by kernel_rfl) (fun _ => rfl) ?_
 rintro ⟨f, sign⟩ r h
 simp only [eA86, en, Nat.reduceAdd]
 replace h : (g86 f sign).bind some = some r := bindS h
 rw [g86] at h
 have hC : CEnv.Ok Tryz.prog [(103, F103)] := ⟨.inl ok103, trivial⟩
 refine VW.seq (VW.rA (tm 15 [(0, .f .f64 f), (1, .i .i64 sign)]) [] [] hC (VW.seq (VW.seq (VW.rA (tm 15 [(0, .f .f64 f), (1, .i .i64 sign), (6, .b (eqI sign 0))]) [] [] hC (VW.condI h (fun h => ?_) (fun h => ?_))))))
 · obtain ⟨r2, q3, h⟩ := bindE h
   have c3 := tl103 q3
   refine VW.rA (tm 15 [(0, .f .f64 r2)]) [] [] hC (VW.seq (VW.rA (tm 15 [(4, .b (gtF .f64 r2 (some 9218868437227405311)))]) [] [] hC ?_)) (h := by simp -implicitDefEqProofs [c3])
   obtain rfl := leafS h
   exact VW.ret (VRet.fin (by simp [eB86]))
 refine VW.seq (VW.rA (tm 15 [(0, .f .f64 f), (10, .b (ltI sign 0))]) [] [] hC (VW.condJ h (fun h => ?_) (fun h => ?_)))
 · refine VW.skip (VW.seq (VW.rA (tm 15 [(4, .b (gtF .f64 f (some 9218868437227405311)))]) [] [] hC ?_))
   obtain rfl := leafS h
   exact VW.ret (VRet.fin (by simp [eB86]))
 refine VW.rA (tm 15 [(0, .f .f64 (negF .f64 f))]) [] [] hC (VW.seq (VW.rA (tm 15 [(4, .b (gtF .f64 (negF .f64 f) (some 9218868437227405311)))]) [] [] hC ?_))
 obtain rfl := leafS h
 exact VW.ret (VRet.fin (by simp [eB86]))
theorem tl86 {f : F32} {sign : Int} {r : Bool} (h : g86 f sign = some r) : F86 [.f .f64 f, .i .i64 sign] = some (.b r) := tells_eq inj86 (a := (f, sign)) h
noncomputable def g67_j1 : Option (Bool) :=
some true
noncomputable def g67_L1 (list : List F32) : (Int) → Option ((Int) ⊕ ((Unit) ⊕ (Bool)))
| x_59 =>
if ltI x_59 (list.length : Int) = true then
(idx list x_59).bind fun e61 =>
(g85 (wide e61)).bind fun r63 =>
(if r63 = true then some true else (g86 (wide e61) 0).bind fun r65 => some r65).bind fun w67 =>
if w67 = true then
some (.inr (.inr false))
else
some (.inl (aI .i64 x_59 1))
else
some (.inr (.inl ()))
noncomputable def g67 (list : List F32) : Option (Bool) :=
(loopO (g67_L1 list) 0).bind fun w => match w with
| .inl y => g67_j1
| .inr r => some r
def eA67 (a : List F32) : List V := [.sl 1 (rows cf_f32 a)]
def eB67 (r : Bool) : V := .b r
theorem inj67 (a a' : List F32) (h : eA67 a = eA67 a') : a = a' := by
  obtain i171 := a
  obtain i172 := a'
  simp only [eA67, List.cons.injEq, V.i.injEq, V.b.injEq, V.f.injEq, V.str.injEq, V.sl.injEq, V.agg.injEq, V.cptr.injEq, true_and, and_true] at h
  simp_all [ri cf_f32_inj]
noncomputable def F67 : List V → Option V := tells (fun a => g67 a) eA67 eB67
/- loop.example/g01229/impl.isFinite -/
theorem ok67 : Tells Tryz.prog 67 F67 := by
 refine Tells.go 20 Tryz.func67 rfl rfl rfl (by kernel_rfl) (fun _ => rfl) ?_
 rintro list r h
 simp only [eA67, en, Nat.reduceAdd]
 replace h : (g67 list).bind some = some r := bindS h
 rw [g67] at h
 have hC : CEnv.Ok Tryz.prog [(85, F85), (86, F86)] := ⟨.inl ok85, .inl ok86, trivial⟩
 refine VW.seq (VW.rA (tm 20 [(0, .sl 1 (rows cf_f32 list))]) [] [] hC (VW.join (fun (v : Unit) => (⟨(tm 20 []), [], []⟩ : VS)) (fun v => (g67_j1).bind some = some r) ?_ ?_))
 · refine VW.seq (VW.rA (tm 20 [(5, .sl 1 (rows cf_f32 list)), (6, .i .i64 (list.length : Int)), (7, .i .i64 0)]) [] [] hC (VW.block ?_))
   obtain ⟨w_1, hw_1, h⟩ := bindE h
   refine VW.loopO (fun (x : Int) => (⟨(tm 20 [(5, .sl 1 (rows cf_f32 list)), (6, .i .i64 (list.length : Int)), (7, .i .i64 x)]), [], []⟩ : VS)) hw_1 (Ent.tu 0) ?_
   rintro n_1 x_59 h1
   rw [g67_L1] at h1
   refine VW.seq (VW.rA (tm 20 [(5, .sl 1 (rows cf_f32 list)), (6, .i .i64 (list.length : Int)), (7, .i .i64 x_59), (8, .b (ltI x_59 (list.length : Int)))]) [] [] hC (VW.seq (VW.condJ h1 (fun h1 => ?_) (fun h1 => ?_))))
   · refine VW.exit ?_
     have e_ := leafR h1
     subst w_1
     exact vnext () h (Ent.tu 0)
   refine VW.skip (VW.seq (VW.block (VW.seq ?_)))
   obtain ⟨e61, ⟨f62a, f62b, f62c, f62d⟩, h1⟩ := bindI h1
   refine VW.rA (tm 20 [(4, .f .f32 e61), (5, .sl 1 (rows cf_f32 list)), (6, .i .i64 (list.length : Int)), (7, .i .i64 x_59)]) [] [] hC (VW.seq ?_) (h := by simp -implicitDefEqProofs [f62a, f62b, f62c, f62d])
   obtain ⟨r63, q64, h1⟩ := bindE h1
   have c64 := tl85 q64
   obtain ⟨w67, q69, h1⟩ := bindE h1
   refine VW.evalA (tm 20 [(5, .sl 1 (rows cf_f32 list)), (6, .i .i64 (list.length : Int)), (7, .i .i64 x_59), (18, .b w67)]) [] [] hC (by kernel_rfl) (by
       obtain ⟨q70, q69⟩ | ⟨q70, rfl⟩ := gdF q69
       · obtain ⟨r65, q66, q69⟩ := bindQ q69
         have c66 := tl86 q66
         obtain rfl := Option.some.inj q69
         simp -implicitDefEqProofs [c64, q70, c66]
       simp -implicitDefEqProofs [c64, q70]) ?_
   refine VW.condI h1 (fun h1 => ?_) (fun h1 => ?_)
   · refine VW.seq (VW.rA (tm 20 [(2, .b false)]) [] [] hC ?_)
     have e_ := leafR h1
     subst w_1
     obtain rfl := leafS h
     exact VW.ret (VRet.fin (by simp [eB67]))
   exact VW.skip (VW.rA (tm 20 [(5, .sl 1 (rows cf_f32 list)), (6, .i .i64 (list.length : Int)), (7, .i .i64 (aI .i64 x_59 1))]) [] [] hC (vnext (aI .i64 x_59 1) (leafL h1) (Ent.tu 0)))
 rintro _ h
 replace h : (g67_j1).bind _ = _ := h
 rw [g67_j1] at h
 refine VW.seq (VW.rA (tm 20 [(2, .b true)]) [] [] hC ?_)
 obtain rfl := leafS h
 exact VW.ret (VRet.fin (by simp [eB67]))
theorem tl67 {list : List F32} {r : Bool} (h : g67 list = some r) : F67 [.sl 1 (rows cf_f32 list)] = some (.b r) := tells_eq inj67 (a := list) h
noncomputable def g46 (a : F32) : Option (Bool) :=
(g67 [a]).bind fun r1 =>
(if (r1 && geF .f32 a (some 0)) = true then (f32bits a).bind fun z3 => (shrI .u32 z3 31).bind fun d5 => some (eqI d5 0) else some false).bind fun w7 =>
some w7
def eA46 (a : F32) : List V := [.f .f32 a]
def eB46 (r : Bool) : V := .b r
theorem inj46 (a a' : F32) (h : eA46 a = eA46 a') : a = a' := by
  obtain i173 := a
  obtain i174 := a'
  simp only [eA46, List.cons.injEq, V.i.injEq, V.b.injEq, V.f.injEq, V.str.injEq, V.sl.injEq, V.agg.injEq, V.cptr.injEq, true_and, and_true] at h
  simp_all
noncomputable def F46 : List V → Option V := tells (fun a => g46 a) eA46 eB46
/- loop.example/g01229/impl.IsAmount -/
theorem ok46 : Tells Tryz.prog 46 F46 := by
 refine Tells.go 16 Tryz.func46 rfl rfl rfl (by kernel_rfl) (fun _ => rfl) ?_
 rintro a r h
 simp only [eA46, en, Nat.reduceAdd]
 replace h : (g46 a).bind some = some r := bindS h
 rw [g46] at h
 have hC : CEnv.Ok Tryz.prog [(67, F67), (68, FXbits32)] := ⟨.inl ok67, .inr okx68, trivial⟩
 refine VW.seq (VW.rA (tm 16 [(0, .f .f32 a)]) [] [] hC (VW.seq ?_))
 obtain ⟨r1, q2, h⟩ := bindE h
 have c2 : F67 [.sl 1 [[.f .f32 a]]] = some (.b r1) := tells_eq inj67 (a := [a]) q2
 obtain ⟨w7, q8, h⟩ := bindE h
 refine VW.evalA (tm 16 [(2, .b w7)]) [some (1, rows cf_f32 [a])] [] hC (by kernel_rfl) (by
     obtain ⟨q9, q8⟩ | ⟨q9, rfl⟩ := gdT q8
     · obtain ⟨z3, q4, q8⟩ := bindQ q8
       have c4 := f32bits_F q4
       obtain ⟨d5, q6, q8⟩ := bindQ q8
       obtain rfl := Option.some.inj q8
       simp -implicitDefEqProofs [c2, q9, c4, q6]
     simp -implicitDefEqProofs [c2, q9]) ?_
 obtain rfl := leafS h
 exact VW.ret (VRet.fin (by simp [eB46]))
theorem tl46 {a : F32} {r : Bool} (h : g46 a = some r) : F46 [.f .f32 a] = some (.b r) := tells_eq inj46 (a := a) h
noncomputable def g44 (a : F32) : Option (Bool) :=
(g46 a).bind fun r1 =>
(if r1 = true then (g47 a (some 1065353216) (some 1176256512)).bind fun r3 => some r3 else some false).bind fun w5 =>
some w5
def eA44 (a : F32) : List V := [.f .f32 a]
def eB44 (r : Bool) : V := .b r
theorem inj44 (a a' : F32) (h : eA44 a = eA44 a') : a = a' := by
  obtain i175 := a
  obtain i176 := a'
  simp only [eA44, List.cons.injEq, V.i.injEq, V.b.injEq, V.f.injEq, V.str.injEq, V.sl.injEq, V.agg.injEq, V.cptr.injEq, true_and, and_true] at h
  simp_all
noncomputable def F44 : List V → Option V := tells (fun a => g44 a) eA44 eB44
/- loop.example/g01229/impl.isStore -/
theorem ok44 : Tells Tryz.prog 44 F44 := by
 refine Tells.go 9 Tryz.func44 rfl rfl rfl (by kernel_rfl) (fun _ => rfl) ?_
 rintro a r h
 simp only [eA44, en, Nat.reduceAdd]
 replace h : (g44 a).bind some = some r := bindS h
 rw [g44] at h
 have hC : CEnv.Ok Tryz.prog [(46, F46), (47, F47)] := ⟨.inl ok46, .inl ok47, trivial⟩
 refine VW.seq (VW.rA (tm 9 [(0, .f .f32 a)]) [] [] hC (VW.seq ?_))
 obtain ⟨r1, q2, h⟩ := bindE h
 have c2 := tl46 q2
 obtain ⟨w5, q6, h⟩ := bindE h
 refine VW.evalA (tm 9 [(2, .b w5)]) [] [] hC (by kernel_rfl) (by
     obtain ⟨q7, q6⟩ | ⟨q7, rfl⟩ := gdT q6
     · obtain ⟨r3, q4, q6⟩ := bindQ q6
       have c4 := tl47 q4
       obtain rfl := Option.some.inj q6
       simp -implicitDefEqProofs [c2, q7, c4]
     simp -implicitDefEqProofs [c2, q7]) ?_
 obtain rfl := leafS h
 exact VW.ret (VRet.fin (by simp [eB44]))
theorem tl44 {a : F32} {r : Bool} (h : g44 a = some r) : F44 [.f .f32 a] = some (.b r) := tells_eq inj44 (a := a) h
noncomputable def g45 (a : Int) (b : Int) (rooms : Int) : Option (Bool) :=
some ((((leI 0 a && ltI a rooms) && leI (-1) b) && ltI b rooms) && (!eqI a b))
def eA45 (a : Int × Int × Int) : List V := [.i .i64 a.1, .i .i64 a.2.1, .i .i64 a.2.2]
def eB45 (r : Bool) : V := .b r
theorem inj45 (a a' : Int × Int × Int) (h : eA45 a = eA45 a') : a = a' := by
  obtain ⟨i177, i178, i179⟩ := a
  obtain ⟨i180, i181, i182⟩ := a'
  simp only [eA45, List.cons.injEq, V.i.injEq, V.b.injEq, V.f.injEq, V.str.injEq, V.sl.injEq, V.agg.injEq, V.cptr.injEq, true_and, and_true] at h
  simp_all
noncomputable def F45 : List V → Option V := tells (fun a => g45 a.1 a.2.1 a.2.2) eA45 eB45
/- loop.example/g01229/impl.stands -/
theorem ok45 : Tells Tryz.prog 45 F45 := by
 refine Tells.go 30 Tryz.func45 rfl rfl rfl (by kernel_rfl) (fun _ => rfl) ?_
 rintro ⟨a, b, rooms⟩ r h
 simp only [eA45, en, Nat.reduceAdd]
 replace h : (g45 a b rooms).bind some = some r := bindS h
 rw [g45] at h
 have hC : CEnv.Ok Tryz.prog [] := trivial
 refine VW.seq (VW.rA (tm 30 [(0, .i .i64 a), (1, .i .i64 b), (2, .i .i64 rooms)]) [] [] hC (VW.seq (VW.rA (tm 30 [(0, .i .i64 a), (1, .i .i64 b), (7, .i .i64 rooms)]) [] [] hC (VW.seq (VW.rA (tm 30 [(6, .b ((((leI 0 a && ltI a rooms) && leI (-1) b) && ltI b rooms) && (!eqI a b)))]) [] [] hC ?_)))))
 obtain rfl := leafS h
 exact VW.ret (VRet.fin (by simp [eB45]))
theorem tl45 {a : Int} {b : Int} {rooms : Int} {r : Bool} (h : g45 a b rooms = some r) : F45 [.i .i64 a, .i .i64 b, .i .i64 rooms] = some (.b r) := tells_eq inj45 (a := (a, b, rooms)) h
noncomputable def g48 (a : F32) (most : F32) : Option (Bool) :=
(g46 a).bind fun r1 =>
some (r1 && leF .f32 a most)
def eA48 (a : F32 × F32) : List V := [.f .f32 a.1, .f .f32 a.2]
def eB48 (r : Bool) : V := .b r
theorem inj48 (a a' : F32 × F32) (h : eA48 a = eA48 a') : a = a' := by
  obtain ⟨i183, i184⟩ := a
  obtain ⟨i185, i186⟩ := a'
  simp only [eA48, List.cons.injEq, V.i.injEq, V.b.injEq, V.f.injEq, V.str.injEq, V.sl.injEq, V.agg.injEq, V.cptr.injEq, true_and, and_true] at h
  simp_all
noncomputable def F48 : List V → Option V := tells (fun a => g48 a.1 a.2) eA48 eB48
/- loop.example/g01229/impl.isUpTo -/
theorem ok48 : Tells Tryz.prog 48 F48 := by
 refine Tells.go 12 Tryz.func48 rfl rfl rfl (by kernel_rfl) (fun _ => rfl) ?_
 rintro ⟨a, most⟩ r h
 simp only [eA48, en, Nat.reduceAdd]
 replace h : (g48 a most).bind some = some r := bindS h
 rw [g48] at h
 have hC : CEnv.Ok Tryz.prog [(46, F46)] := ⟨.inl ok46, trivial⟩
 refine VW.seq (VW.rA (tm 12 [(0, .f .f32 a), (1, .f .f32 most)]) [] [] hC (VW.seq ?_))
 obtain ⟨r1, q2, h⟩ := bindE h
 have c2 := tl46 q2
 refine VW.rA (tm 12 [(4, .b (r1 && leF .f32 a most))]) [] [] hC ?_ (h := by simp -implicitDefEqProofs [c2])
 obtain rfl := leafS h
 exact VW.ret (VRet.fin (by simp [eB48]))
theorem tl48 {a : F32} {most : F32} {r : Bool} (h : g48 a most = some r) : F48 [.f .f32 a, .f .f32 most] = some (.b r) := tells_eq inj48 (a := (a, most)) h
noncomputable def g20_j3 : Option (Bool) :=
some true
noncomputable def g20_L1 (f : T25) : (Int) → Option ((Int) ⊕ ((Unit) ⊕ (Bool)))
| x_346 =>
if ltI x_346 (f.panes_.length : Int) = true then
(idx f.panes_ x_346).bind fun e348 =>
(g45 e348.a_ e348.b_ (f.heat_.length : Int)).bind fun r350 =>
(if (!r350) = true then some true else (g48 e348.lead_ (some 1120403456)).bind fun r352 => some (!r352)).bind fun w354 =>
(if w354 = true then some true else (g48 e348.sun_ (some 1092616192)).bind fun r355 => some (!r355)).bind fun w357 =>
if w357 = true then
some (.inr (.inr false))
else
some (.inl (aI .i64 x_346 1))
else
some (.inr (.inl ()))
noncomputable def g20_j2 (f : T25) : Option (Bool) :=
(loopO (g20_L1 f) 0).bind fun w => match w with
| .inl y => g20_j3
| .inr r => some r
noncomputable def g20_j4 (x_507 : Int) : Option ((Int) ⊕ ((Unit) ⊕ (Bool))) :=
some (.inl (aI .i64 x_507 1))
noncomputable def g20_L2 (f : T25) : (Int) → Option ((Int) ⊕ ((Unit) ⊕ (Bool)))
| x_507 =>
if ltI x_507 (f.walls_.length : Int) = true then
(idx f.walls_ x_507).bind fun e544 =>
(g45 e544.a_ e544.b_ (f.heat_.length : Int)).bind fun r546 =>
(if (!r546) = true then some true else (g46 e544.lead_).bind fun r548 => some (!r548)).bind fun w550 =>
(if w550 = true then some true else (g47 e544.lead_ (some 1015021568) (some 1120403456)).bind fun r551 => some (!r551)).bind fun w553 =>
(if w553 = true then some true else (g44 e544.store_).bind fun r554 => some (!r554)).bind fun w556 =>
if w556 = true then
some (.inr (.inr false))
else
(g43 e544.heat_.a0_).bind fun r558 =>
if (!r558) = true then
some (.inr (.inr false))
else
(g43 e544.heat_.a1_).bind fun r561 =>
if (!r561) = true then
some (.inr (.inr false))
else
(g43 e544.heat_.a2_).bind fun r564 =>
if (!r564) = true then
some (.inr (.inr false))
else
(g43 e544.heat_.a3_).bind fun r567 =>
if (!r567) = true then
some (.inr (.inr false))
else
g20_j4 x_507
else
some (.inr (.inl ()))
noncomputable def g20_j1 (f : T25) : Option (Bool) :=
(loopO (g20_L2 f) 0).bind fun w => match w with
| .inl y => g20_j2 f
| .inr r => some r
noncomputable def g20_L3 (f : T25) : (Int) → Option ((Int) ⊕ ((Unit) ⊕ (Bool)))
| x_606 =>
if ltI x_606 (f.heat_.length : Int) = true then
(idx f.heat_ x_606).bind fun e608 =>
(g43 e608).bind fun r610 =>
(if (!r610) = true then some true else (idx f.store_ x_606).bind fun e612 => (g44 e612).bind fun r614 => some (!r614)).bind fun w616 =>
if w616 = true then
some (.inr (.inr false))
else
some (.inl (aI .i64 x_606 1))
else
some (.inr (.inl ()))
noncomputable def g20 (f : T25) : Option (Bool) :=
if ((((ltI (f.heat_.length : Int) 1 || ltI 5 (f.heat_.length : Int)) || (!eqI (f.store_.length : Int) (f.heat_.length : Int))) || ltI 10 (f.walls_.length : Int)) || ltI 8 (f.panes_.length : Int)) = true then
some false
else
(loopO (g20_L3 f) 0).bind fun w => match w with
| .inl y => g20_j1 f
| .inr r => some r
def eA20 (a : T25) : List V := [.agg (pT25 a)]
def eB20 (r : Bool) : V := .b r
theorem inj20 (a a' : T25) (h : eA20 a = eA20 a') : a = a' := by
  obtain ⟨i195, i196, i197, i198⟩ := a
  obtain ⟨i199, i200, i201, i202⟩ := a'
  simp only [eA20, pT25, List.cons.injEq, V.i.injEq, V.b.injEq, V.f.injEq, V.str.injEq, V.sl.injEq, V.agg.injEq, V.cptr.injEq, true_and, and_true] at h
  simp_all [ri cT47_inj, ri cT49_inj, ri cf_f32_inj]
noncomputable def F20 : List V → Option V := tells (fun a => g20 a) eA20 eB20
/- loop.example/g01229/impl.ValidFlat -/
theorem ok20 : Tells Tryz.prog 20 F20 := by
 refine Tells.go 129 Tryz.func20 rfl rfl rfl (by kernel_rfl) (fun _ => rfl) ?_
 rintro f r h
 simp only [eA20, en, Nat.reduceAdd]
 replace h : (g20 f).bind some = some r := bindS h
 rw [g20] at h
 have hC : CEnv.Ok Tryz.prog [(43, F43), (44, F44), (45, F45), (46, F46), (47, F47), (48, F48)] := ⟨.inl ok43, .inl ok44, .inl ok45, .inl ok46, .inl ok47, .inl ok48, trivial⟩
 refine VW.seq (VW.rA (tm 129 [(1, .ptr 0 0 0)]) [some (4, [(pT25 f)])] [] hC (VW.seq (VW.rA (tm 129 [(1, .ptr 0 0 0), (3, .i .i64 (f.heat_.length : Int))]) [some (4, [(pT25 f)])] [] hC (VW.seq (VW.seq (VW.rA (tm 129 [(1, .ptr 0 0 0), (3, .i .i64 (f.heat_.length : Int)), (38, .b ((((ltI (f.heat_.length : Int) 1 || ltI 5 (f.heat_.length : Int)) || (!eqI (f.store_.length : Int) (f.heat_.length : Int))) || ltI 10 (f.walls_.length : Int)) || ltI 8 (f.panes_.length : Int)))]) [some (4, [(pT25 f)])] [] hC (VW.condI h (fun h => ?_) (fun h => ?_)) (h := by simp -implicitDefEqProofs [pT25])))))))
 · refine VW.seq (VW.rA (tm 129 [(2, .b false)]) [some (4, [(pT25 f)])] [] hC ?_)
   obtain rfl := leafS h
   exact VW.ret (VRet.fin (by simp [eB20]))
 refine VW.skip (VW.join (fun (v : Unit) => (⟨(tm 129 [(1, .ptr 0 0 0), (3, .i .i64 (f.heat_.length : Int))]), [some (4, [(pT25 f)])], []⟩ : VS)) (fun v => (g20_j1 f).bind some = some r) ?_ ?_)
 · refine VW.seq (VW.rA (tm 129 [(1, .ptr 0 0 0), (3, .i .i64 (f.heat_.length : Int)), (39, .i .i64 (f.heat_.length : Int)), (40, .i .i64 0)]) [some (4, [(pT25 f)])] [] hC (VW.block ?_))
   obtain ⟨w_3, hw_3, h⟩ := bindE h
   refine VW.loopO (fun (x : Int) => (⟨(tm 129 [(1, .ptr 0 0 0), (3, .i .i64 (f.heat_.length : Int)), (39, .i .i64 (f.heat_.length : Int)), (40, .i .i64 x)]), [some (4, [(pT25 f)])], []⟩ : VS)) hw_3 (Ent.tu 1) ?_
   rintro n_3 x_606 h1
   rw [g20_L3] at h1
   refine VW.seq (VW.rA (tm 129 [(1, .ptr 0 0 0), (3, .i .i64 (f.heat_.length : Int)), (39, .i .i64 (f.heat_.length : Int)), (40, .i .i64 x_606), (41, .b (ltI x_606 (f.heat_.length : Int)))]) [some (4, [(pT25 f)])] [] hC (VW.seq (VW.condJ h1 (fun h1 => ?_) (fun h1 => ?_))))
   · refine VW.exit ?_
     have e_ := leafR h1
     subst w_3
     exact vnext () h (Ent.tu 1)
   refine VW.skip (VW.seq (VW.block (VW.seq (VW.rA (tm 129 [(1, .ptr 0 0 0), (3, .i .i64 (f.heat_.length : Int)), (4, .i .i64 x_606), (39, .i .i64 (f.heat_.length : Int)), (40, .i .i64 x_606)]) [some (4, [(pT25 f)])] [] hC (VW.seq ?_)))))
   obtain ⟨e608, ⟨f609a, f609b, f609c, f609d⟩, h1⟩ := bindI h1
   obtain ⟨r610, q611, h1⟩ := bindE h1
   have c611 := tl43 q611
   obtain ⟨w616, q618, h1⟩ := bindE h1
   refine VW.evalA (tm 129 [(1, .ptr 0 0 0), (3, .i .i64 (f.heat_.length : Int)), (39, .i .i64 (f.heat_.length : Int)), (40, .i .i64 x_606), (58, .b w616)]) [some (4, [(pT25 f)])] [] hC (by kernel_rfl) (by
       obtain ⟨q619, q618⟩ | ⟨q619, rfl⟩ := gdF q618
       · obtain ⟨e612, q613, q618⟩ := bindQ q618
         obtain ⟨f613a, f613b, f613c, f613d⟩ := idx_some q613
         obtain ⟨r614, q615, q618⟩ := bindQ q618
         have c615 := tl44 q615
         obtain rfl := Option.some.inj q618
         simp -implicitDefEqProofs [f609a, f609b, f609c, f609d, c611, q619, f613a, f613b, f613c, f613d, c615]
       simp -implicitDefEqProofs [f609a, f609b, f609c, f609d, c611, q619]) ?_
   refine VW.condI h1 (fun h1 => ?_) (fun h1 => ?_)
   · refine VW.seq (VW.rA (tm 129 [(2, .b false)]) [some (4, [(pT25 f)])] [] hC ?_)
     have e_ := leafR h1
     subst w_3
     obtain rfl := leafS h
     exact VW.ret (VRet.fin (by simp [eB20]))
   exact VW.skip (VW.rA (tm 129 [(1, .ptr 0 0 0), (3, .i .i64 (f.heat_.length : Int)), (39, .i .i64 (f.heat_.length : Int)), (40, .i .i64 (aI .i64 x_606 1))]) [some (4, [(pT25 f)])] [] hC (vnext (aI .i64 x_606 1) (leafL h1) (Ent.tu 1)))
 rintro _ h
 replace h : (g20_j1 f).bind _ = _ := h
 rw [g20_j1] at h
 refine VW.join (fun (v : Unit) => (⟨(tm 129 [(1, .ptr 0 0 0), (3, .i .i64 (f.heat_.length : Int))]), [some (4, [(pT25 f)])], []⟩ : VS)) (fun v => (g20_j2 f).bind some = some r) ?_ ?_
 · refine VW.seq (VW.rA (tm 129 [(1, .ptr 0 0 0), (3, .i .i64 (f.heat_.length : Int)), (61, .sl 8 (rows cT47 f.walls_)), (62, .i .i64 (f.walls_.length : Int)), (63, .i .i64 0)]) [some (4, [(pT25 f)])] [] hC (VW.block ?_))
   obtain ⟨w_2, hw_2, h⟩ := bindE h
   refine VW.loopO (fun (x : Int) => (⟨(tm 129 [(1, .ptr 0 0 0), (3, .i .i64 (f.heat_.length : Int)), (61, .sl 8 (rows cT47 f.walls_)), (62, .i .i64 (f.walls_.length : Int)), (63, .i .i64 x)]), [some (4, [(pT25 f)])], []⟩ : VS)) hw_2 (Ent.tu 1) ?_
   rintro n_2 x_507 h1
   rw [g20_L2] at h1
   refine VW.seq (VW.rA (tm 129 [(1, .ptr 0 0 0), (3, .i .i64 (f.heat_.length : Int)), (61, .sl 8 (rows cT47 f.walls_)), (62, .i .i64 (f.walls_.length : Int)), (63, .i .i64 x_507), (64, .b (ltI x_507 (f.walls_.length : Int)))]) [some (4, [(pT25 f)])] [] hC (VW.seq (VW.condJ h1 (fun h1 => ?_) (fun h1 => ?_))))
   · refine VW.exit ?_
     have e_ := leafR h1
     subst w_2
     exact vnext () h (Ent.tu 1)
   refine VW.skip (VW.join (fun (v : Unit) => (⟨(tm 129 [(1, .ptr 0 0 0), (3, .i .i64 (f.heat_.length : Int)), (61, .sl 8 (rows cT47 f.walls_)), (62, .i .i64 (f.walls_.length : Int)), (63, .i .i64 x_507)]), [some (4, [(pT25 f)])], []⟩ : VS)) (fun v => (g20_j4 x_507).bind (kN (g20_L2 f) n_2) = some w_2) ?_ ?_)
   · refine VW.block (VW.seq ?_)
     obtain ⟨e544, ⟨f545a, f545b, f545c, f545d⟩, h1⟩ := bindI h1
     refine VW.rA (tm 129 [(1, .ptr 0 0 0), (3, .i .i64 (f.heat_.length : Int)), (6, .ptr 1 0 0), (61, .sl 8 (rows cT47 f.walls_)), (62, .i .i64 (f.walls_.length : Int)), (63, .i .i64 x_507)]) [some (4, [(pT25 f)]), some (8, [[.i .i64 e544.a_, .i .i64 e544.b_, .f .f32 e544.lead_, .f .f32 e544.store_, .f .f32 e544.heat_.a0_, .f .f32 e544.heat_.a1_, .f .f32 e544.heat_.a2_, .f .f32 e544.heat_.a3_]])] [] hC (VW.seq (VW.seq ?_)) (h := by simp -implicitDefEqProofs [f545a, f545b, f545c, f545d])
     obtain ⟨r546, q547, h1⟩ := bindE h1
     have c547 := tl45 q547
     obtain ⟨w550, q570, h1⟩ := bindE h1
     obtain ⟨w553, q571, h1⟩ := bindE h1
     obtain ⟨w556, q572, h1⟩ := bindE h1
     refine VW.evalA (tm 129 [(1, .ptr 0 0 0), (3, .i .i64 (f.heat_.length : Int)), (6, .ptr 1 0 0), (61, .sl 8 (rows cT47 f.walls_)), (62, .i .i64 (f.walls_.length : Int)), (63, .i .i64 x_507), (91, .b w556)]) [some (4, [(pT25 f)]), some (8, [[.i .i64 e544.a_, .i .i64 e544.b_, .f .f32 e544.lead_, .f .f32 e544.store_, .f .f32 e544.heat_.a0_, .f .f32 e544.heat_.a1_, .f .f32 e544.heat_.a2_, .f .f32 e544.heat_.a3_]])] [] hC (by kernel_rfl) (by
         obtain ⟨q573, q570⟩ | ⟨q573, rfl⟩ := gdF q570
         · obtain ⟨r548, q549, q570⟩ := bindQ q570
           have c549 := tl46 q549
           obtain rfl := Option.some.inj q570
           obtain ⟨q574, q571⟩ | ⟨q574, rfl⟩ := gdF q571
           · obtain ⟨r551, q552, q571⟩ := bindQ q571
             have c552 := tl47 q552
             obtain rfl := Option.some.inj q571
             obtain ⟨q575, q572⟩ | ⟨q575, rfl⟩ := gdF q572
             · obtain ⟨r554, q555, q572⟩ := bindQ q572
               have c555 := tl44 q555
               obtain rfl := Option.some.inj q572
               simp -implicitDefEqProofs [c547, q573, c549, q574, c552, q575, c555, pT25]
             simp -implicitDefEqProofs [c547, q573, c549, q574, c552, q575, pT25]
           obtain ⟨q576, q572⟩ | ⟨q576, rfl⟩ := gdF q572
           · exact absurd q576 (by simp)
           simp -implicitDefEqProofs [c547, q573, c549, q574, q576, pT25]
         obtain ⟨q577, q571⟩ | ⟨q577, rfl⟩ := gdF q571
         · exact absurd q577 (by simp)
         obtain ⟨q578, q572⟩ | ⟨q578, rfl⟩ := gdF q572
         · exact absurd q578 (by simp)
         simp -implicitDefEqProofs [c547, q573, q577, q578, pT25]) ?_
     refine VW.condI h1 (fun h1 => ?_) (fun h1 => ?_)
     · refine VW.seq (VW.rA (tm 129 [(2, .b false)]) [some (4, [(pT25 f)]), some (8, [[.i .i64 e544.a_, .i .i64 e544.b_, .f .f32 e544.lead_, .f .f32 e544.store_, .f .f32 e544.heat_.a0_, .f .f32 e544.heat_.a1_, .f .f32 e544.heat_.a2_, .f .f32 e544.heat_.a3_]])] [] hC ?_)
       have e_ := leafR h1
       subst w_2
       obtain rfl := leafS h
       exact VW.ret (VRet.fin (by simp [eB20]))
     refine VW.skip (VW.seq (VW.rA (tm 129 [(1, .ptr 0 0 0), (3, .i .i64 (f.heat_.length : Int)), (61, .sl 8 (rows cT47 f.walls_)), (62, .i .i64 (f.walls_.length : Int)), (63, .i .i64 x_507), (93, .agg [.f .f32 e544.heat_.a0_, .f .f32 e544.heat_.a1_, .f .f32 e544.heat_.a2_, .f .f32 e544.heat_.a3_]), (94, .i .i64 0)]) [some (4, [(pT25 f)]), some (8, [[.i .i64 e544.a_, .i .i64 e544.b_, .f .f32 e544.lead_, .f .f32 e544.store_, .f .f32 e544.heat_.a0_, .f .f32 e544.heat_.a1_, .f .f32 e544.heat_.a2_, .f .f32 e544.heat_.a3_]])] [] hC (VW.block (VW.rounds 6 (VRounds.step (VW.seq (VW.rA (tm 129 [(1, .ptr 0 0 0), (3, .i .i64 (f.heat_.length : Int)), (61, .sl 8 (rows cT47 f.walls_)), (62, .i .i64 (f.walls_.length : Int)), (63, .i .i64 x_507), (93, .agg [.f .f32 e544.heat_.a0_, .f .f32 e544.heat_.a1_, .f .f32 e544.heat_.a2_, .f .f32 e544.heat_.a3_]), (94, .i .i64 0), (95, .b true)]) [some (4, [(pT25 f)]), some (8, [[.i .i64 e544.a_, .i .i64 e544.b_, .f .f32 e544.lead_, .f .f32 e544.store_, .f .f32 e544.heat_.a0_, .f .f32 e544.heat_.a1_, .f .f32 e544.heat_.a2_, .f .f32 e544.heat_.a3_]])] [] hC (VW.seq (VW.condT (by simp) (VW.skip (VW.seq (VW.block (VW.seq (VW.rA (tm 129 [(1, .ptr 0 0 0), (3, .i .i64 (f.heat_.length : Int)), (8, .f .f32 e544.heat_.a0_), (61, .sl 8 (rows cT47 f.walls_)), (62, .i .i64 (f.walls_.length : Int)), (63, .i .i64 x_507), (93, .agg [.f .f32 e544.heat_.a0_, .f .f32 e544.heat_.a1_, .f .f32 e544.heat_.a2_, .f .f32 e544.heat_.a3_]), (94, .i .i64 0)]) [some (4, [(pT25 f)]), some (8, [[.i .i64 e544.a_, .i .i64 e544.b_, .f .f32 e544.lead_, .f .f32 e544.store_, .f .f32 e544.heat_.a0_, .f .f32 e544.heat_.a1_, .f .f32 e544.heat_.a2_, .f .f32 e544.heat_.a3_]])] [] hC (VW.seq ?_)))))))) (h := by simp -implicitDefEqProofs [(by decide : ltI 0 4 = true)]))))))))
     obtain ⟨r558, q559, h1⟩ := bindE h1
     have c559 := tl43 q559
     refine VW.rA (tm 129 [(1, .ptr 0 0 0), (3, .i .i64 (f.heat_.length : Int)), (61, .sl 8 (rows cT47 f.walls_)), (62, .i .i64 (f.walls_.length : Int)), (63, .i .i64 x_507), (93, .agg [.f .f32 e544.heat_.a0_, .f .f32 e544.heat_.a1_, .f .f32 e544.heat_.a2_, .f .f32 e544.heat_.a3_]), (94, .i .i64 0), (99, .b (!r558))]) [some (4, [(pT25 f)]), some (8, [[.i .i64 e544.a_, .i .i64 e544.b_, .f .f32 e544.lead_, .f .f32 e544.store_, .f .f32 e544.heat_.a0_, .f .f32 e544.heat_.a1_, .f .f32 e544.heat_.a2_, .f .f32 e544.heat_.a3_]])] [] hC (VW.condI h1 (fun h1 => ?_) (fun h1 => ?_)) (h := by simp -implicitDefEqProofs [c559])
     · refine VW.seq (VW.rA (tm 129 [(2, .b false)]) [some (4, [(pT25 f)]), some (8, [[.i .i64 e544.a_, .i .i64 e544.b_, .f .f32 e544.lead_, .f .f32 e544.store_, .f .f32 e544.heat_.a0_, .f .f32 e544.heat_.a1_, .f .f32 e544.heat_.a2_, .f .f32 e544.heat_.a3_]])] [] hC ?_)
       have e_ := leafR h1
       subst w_2
       obtain rfl := leafS h
       exact VW.ret (VRet.fin (by simp [eB20]))
     refine VW.skip (VW.rA (tm 129 [(1, .ptr 0 0 0), (3, .i .i64 (f.heat_.length : Int)), (61, .sl 8 (rows cT47 f.walls_)), (62, .i .i64 (f.walls_.length : Int)), (63, .i .i64 x_507), (93, .agg [.f .f32 e544.heat_.a0_, .f .f32 e544.heat_.a1_, .f .f32 e544.heat_.a2_, .f .f32 e544.heat_.a3_]), (94, .i .i64 1)]) [some (4, [(pT25 f)]), some (8, [[.i .i64 e544.a_, .i .i64 e544.b_, .f .f32 e544.lead_, .f .f32 e544.store_, .f .f32 e544.heat_.a0_, .f .f32 e544.heat_.a1_, .f .f32 e544.heat_.a2_, .f .f32 e544.heat_.a3_]])] [] hC (VRounds.step (VW.seq (VW.rA (tm 129 [(1, .ptr 0 0 0), (3, .i .i64 (f.heat_.length : Int)), (61, .sl 8 (rows cT47 f.walls_)), (62, .i .i64 (f.walls_.length : Int)), (63, .i .i64 x_507), (93, .agg [.f .f32 e544.heat_.a0_, .f .f32 e544.heat_.a1_, .f .f32 e544.heat_.a2_, .f .f32 e544.heat_.a3_]), (94, .i .i64 1), (95, .b true)]) [some (4, [(pT25 f)]), some (8, [[.i .i64 e544.a_, .i .i64 e544.b_, .f .f32 e544.lead_, .f .f32 e544.store_, .f .f32 e544.heat_.a0_, .f .f32 e544.heat_.a1_, .f .f32 e544.heat_.a2_, .f .f32 e544.heat_.a3_]])] [] hC (VW.seq (VW.condT (by simp) (VW.skip (VW.seq (VW.block (VW.seq (VW.rA (tm 129 [(1, .ptr 0 0 0), (3, .i .i64 (f.heat_.length : Int)), (8, .f .f32 e544.heat_.a1_), (61, .sl 8 (rows cT47 f.walls_)), (62, .i .i64 (f.walls_.length : Int)), (63, .i .i64 x_507), (93, .agg [.f .f32 e544.heat_.a0_, .f .f32 e544.heat_.a1_, .f .f32 e544.heat_.a2_, .f .f32 e544.heat_.a3_]), (94, .i .i64 1)]) [some (4, [(pT25 f)]), some (8, [[.i .i64 e544.a_, .i .i64 e544.b_, .f .f32 e544.lead_, .f .f32 e544.store_, .f .f32 e544.heat_.a0_, .f .f32 e544.heat_.a1_, .f .f32 e544.heat_.a2_, .f .f32 e544.heat_.a3_]])] [] hC (VW.seq ?_)))))))) (h := by simp -implicitDefEqProofs [(by decide : ltI 1 4 = true)])))) (h := by simp -implicitDefEqProofs [(by decide : aI .i64 0 1 = 1)]))
     obtain ⟨r561, q562, h1⟩ := bindE h1
     have c562 := tl43 q562
     refine VW.rA (tm 129 [(1, .ptr 0 0 0), (3, .i .i64 (f.heat_.length : Int)), (61, .sl 8 (rows cT47 f.walls_)), (62, .i .i64 (f.walls_.length : Int)), (63, .i .i64 x_507), (93, .agg [.f .f32 e544.heat_.a0_, .f .f32 e544.heat_.a1_, .f .f32 e544.heat_.a2_, .f .f32 e544.heat_.a3_]), (94, .i .i64 1), (99, .b (!r561))]) [some (4, [(pT25 f)]), some (8, [[.i .i64 e544.a_, .i .i64 e544.b_, .f .f32 e544.lead_, .f .f32 e544.store_, .f .f32 e544.heat_.a0_, .f .f32 e544.heat_.a1_, .f .f32 e544.heat_.a2_, .f .f32 e544.heat_.a3_]])] [] hC (VW.condI h1 (fun h1 => ?_) (fun h1 => ?_)) (h := by simp -implicitDefEqProofs [c562])
     · refine VW.seq (VW.rA (tm 129 [(2, .b false)]) [some (4, [(pT25 f)]), some (8, [[.i .i64 e544.a_, .i .i64 e544.b_, .f .f32 e544.lead_, .f .f32 e544.store_, .f .f32 e544.heat_.a0_, .f .f32 e544.heat_.a1_, .f .f32 e544.heat_.a2_, .f .f32 e544.heat_.a3_]])] [] hC ?_)
       have e_ := leafR h1
       subst w_2
       obtain rfl := leafS h
       exact VW.ret (VRet.fin (by simp [eB20]))
     refine VW.skip (VW.rA (tm 129 [(1, .ptr 0 0 0), (3, .i .i64 (f.heat_.length : Int)), (61, .sl 8 (rows cT47 f.walls_)), (62, .i .i64 (f.walls_.length : Int)), (63, .i .i64 x_507), (93, .agg [.f .f32 e544.heat_.a0_, .f .f32 e544.heat_.a1_, .f .f32 e544.heat_.a2_, .f .f32 e544.heat_.a3_]), (94, .i .i64 2)]) [some (4, [(pT25 f)]), some (8, [[.i .i64 e544.a_, .i .i64 e544.b_, .f .f32 e544.lead_, .f .f32 e544.store_, .f .f32 e544.heat_.a0_, .f .f32 e544.heat_.a1_, .f .f32 e544.heat_.a2_, .f .f32 e544.heat_.a3_]])] [] hC (VRounds.step (VW.seq (VW.rA (tm 129 [(1, .ptr 0 0 0), (3, .i .i64 (f.heat_.length : Int)), (61, .sl 8 (rows cT47 f.walls_)), (62, .i .i64 (f.walls_.length : Int)), (63, .i .i64 x_507), (93, .agg [.f .f32 e544.heat_.a0_, .f .f32 e544.heat_.a1_, .f .f32 e544.heat_.a2_, .f .f32 e544.heat_.a3_]), (94, .i .i64 2), (95, .b true)]) [some (4, [(pT25 f)]), some (8, [[.i .i64 e544.a_, .i .i64 e544.b_, .f .f32 e544.lead_, .f .f32 e544.store_, .f .f32 e544.heat_.a0_, .f .f32 e544.heat_.a1_, .f .f32 e544.heat_.a2_, .f .f32 e544.heat_.a3_]])] [] hC (VW.seq (VW.condT (by simp) (VW.skip (VW.seq (VW.block (VW.seq (VW.rA (tm 129 [(1, .ptr 0 0 0), (3, .i .i64 (f.heat_.length : Int)), (8, .f .f32 e544.heat_.a2_), (61, .sl 8 (rows cT47 f.walls_)), (62, .i .i64 (f.walls_.length : Int)), (63, .i .i64 x_507), (93, .agg [.f .f32 e544.heat_.a0_, .f .f32 e544.heat_.a1_, .f .f32 e544.heat_.a2_, .f .f32 e544.heat_.a3_]), (94, .i .i64 2)]) [some (4, [(pT25 f)]), some (8, [[.i .i64 e544.a_, .i .i64 e544.b_, .f .f32 e544.lead_, .f .f32 e544.store_, .f .f32 e544.heat_.a0_, .f .f32 e544.heat_.a1_, .f .f32 e544.heat_.a2_, .f .f32 e544.heat_.a3_]])] [] hC (VW.seq ?_)))))))) (h := by simp -implicitDefEqProofs [(by decide : ltI 2 4 = true)])))) (h := by simp -implicitDefEqProofs [(by decide : aI .i64 1 1 = 2)]))
     obtain ⟨r564, q565, h1⟩ := bindE h1
     have c565 := tl43 q565
     refine VW.rA (tm 129 [(1, .ptr 0 0 0), (3, .i .i64 (f.heat_.length : Int)), (61, .sl 8 (rows cT47 f.walls_)), (62, .i .i64 (f.walls_.length : Int)), (63, .i .i64 x_507), (93, .agg [.f .f32 e544.heat_.a0_, .f .f32 e544.heat_.a1_, .f .f32 e544.heat_.a2_, .f .f32 e544.heat_.a3_]), (94, .i .i64 2), (99, .b (!r564))]) [some (4, [(pT25 f)]), some (8, [[.i .i64 e544.a_, .i .i64 e544.b_, .f .f32 e544.lead_, .f .f32 e544.store_, .f .f32 e544.heat_.a0_, .f .f32 e544.heat_.a1_, .f .f32 e544.heat_.a2_, .f .f32 e544.heat_.a3_]])] [] hC (VW.condI h1 (fun h1 => ?_) (fun h1 => ?_)) (h := by simp -implicitDefEqProofs [c565])
     · refine VW.seq (VW.rA (tm 129 [(2, .b false)]) [some (4, [(pT25 f)]), some (8, [[.i .i64 e544.a_, .i .i64 e544.b_, .f .f32 e544.lead_, .f .f32 e544.store_, .f .f32 e544.heat_.a0_, .f .f32 e544.heat_.a1_, .f .f32 e544.heat_.a2_, .f .f32 e544.heat_.a3_]])] [] hC ?_)
       have e_ := leafR h1
       subst w_2
       obtain rfl := leafS h
       exact VW.ret (VRet.fin (by simp [eB20]))
     refine VW.skip (VW.rA (tm 129 [(1, .ptr 0 0 0), (3, .i .i64 (f.heat_.length : Int)), (61, .sl 8 (rows cT47 f.walls_)), (62, .i .i64 (f.walls_.length : Int)), (63, .i .i64 x_507), (93, .agg [.f .f32 e544.heat_.a0_, .f .f32 e544.heat_.a1_, .f .f32 e544.heat_.a2_, .f .f32 e544.heat_.a3_]), (94, .i .i64 3)]) [some (4, [(pT25 f)]), some (8, [[.i .i64 e544.a_, .i .i64 e544.b_, .f .f32 e544.lead_, .f .f32 e544.store_, .f .f32 e544.heat_.a0_, .f .f32 e544.heat_.a1_, .f .f32 e544.heat_.a2_, .f .f32 e544.heat_.a3_]])] [] hC (VRounds.step (VW.seq (VW.rA (tm 129 [(1, .ptr 0 0 0), (3, .i .i64 (f.heat_.length : Int)), (61, .sl 8 (rows cT47 f.walls_)), (62, .i .i64 (f.walls_.length : Int)), (63, .i .i64 x_507), (93, .agg [.f .f32 e544.heat_.a0_, .f .f32 e544.heat_.a1_, .f .f32 e544.heat_.a2_, .f .f32 e544.heat_.a3_]), (94, .i .i64 3), (95, .b true)]) [some (4, [(pT25 f)]), some (8, [[.i .i64 e544.a_, .i .i64 e544.b_, .f .f32 e544.lead_, .f .f32 e544.store_, .f .f32 e544.heat_.a0_, .f .f32 e544.heat_.a1_, .f .f32 e544.heat_.a2_, .f .f32 e544.heat_.a3_]])] [] hC (VW.seq (VW.condT (by simp) (VW.skip (VW.seq (VW.block (VW.seq (VW.rA (tm 129 [(1, .ptr 0 0 0), (3, .i .i64 (f.heat_.length : Int)), (8, .f .f32 e544.heat_.a3_), (61, .sl 8 (rows cT47 f.walls_)), (62, .i .i64 (f.walls_.length : Int)), (63, .i .i64 x_507), (93, .agg [.f .f32 e544.heat_.a0_, .f .f32 e544.heat_.a1_, .f .f32 e544.heat_.a2_, .f .f32 e544.heat_.a3_]), (94, .i .i64 3)]) [some (4, [(pT25 f)]), some (8, [[.i .i64 e544.a_, .i .i64 e544.b_, .f .f32 e544.lead_, .f .f32 e544.store_, .f .f32 e544.heat_.a0_, .f .f32 e544.heat_.a1_, .f .f32 e544.heat_.a2_, .f .f32 e544.heat_.a3_]])] [] hC (VW.seq ?_)))))))) (h := by simp -implicitDefEqProofs [(by decide : ltI 3 4 = true)])))) (h := by simp -implicitDefEqProofs [(by decide : aI .i64 2 1 = 3)]))
     obtain ⟨r567, q568, h1⟩ := bindE h1
     have c568 := tl43 q568
     refine VW.rA (tm 129 [(1, .ptr 0 0 0), (3, .i .i64 (f.heat_.length : Int)), (61, .sl 8 (rows cT47 f.walls_)), (62, .i .i64 (f.walls_.length : Int)), (63, .i .i64 x_507), (93, .agg [.f .f32 e544.heat_.a0_, .f .f32 e544.heat_.a1_, .f .f32 e544.heat_.a2_, .f .f32 e544.heat_.a3_]), (94, .i .i64 3), (99, .b (!r567))]) [some (4, [(pT25 f)]), some (8, [[.i .i64 e544.a_, .i .i64 e544.b_, .f .f32 e544.lead_, .f .f32 e544.store_, .f .f32 e544.heat_.a0_, .f .f32 e544.heat_.a1_, .f .f32 e544.heat_.a2_, .f .f32 e544.heat_.a3_]])] [] hC (VW.condI h1 (fun h1 => ?_) (fun h1 => ?_)) (h := by simp -implicitDefEqProofs [c568])
     · refine VW.seq (VW.rA (tm 129 [(2, .b false)]) [some (4, [(pT25 f)]), some (8, [[.i .i64 e544.a_, .i .i64 e544.b_, .f .f32 e544.lead_, .f .f32 e544.store_, .f .f32 e544.heat_.a0_, .f .f32 e544.heat_.a1_, .f .f32 e544.heat_.a2_, .f .f32 e544.heat_.a3_]])] [] hC ?_)
       have e_ := leafR h1
       subst w_2
       obtain rfl := leafS h
       exact VW.ret (VRet.fin (by simp [eB20]))
     exact VW.skip (VW.rA (tm 129 [(1, .ptr 0 0 0), (3, .i .i64 (f.heat_.length : Int)), (61, .sl 8 (rows cT47 f.walls_)), (62, .i .i64 (f.walls_.length : Int)), (63, .i .i64 x_507), (93, .agg [.f .f32 e544.heat_.a0_, .f .f32 e544.heat_.a1_, .f .f32 e544.heat_.a2_, .f .f32 e544.heat_.a3_]), (94, .i .i64 4)]) [some (4, [(pT25 f)]), some (8, [[.i .i64 e544.a_, .i .i64 e544.b_, .f .f32 e544.lead_, .f .f32 e544.store_, .f .f32 e544.heat_.a0_, .f .f32 e544.heat_.a1_, .f .f32 e544.heat_.a2_, .f .f32 e544.heat_.a3_]])] [] hC (VRounds.step (VW.seq (VW.rA (tm 129 [(1, .ptr 0 0 0), (3, .i .i64 (f.heat_.length : Int)), (61, .sl 8 (rows cT47 f.walls_)), (62, .i .i64 (f.walls_.length : Int)), (63, .i .i64 x_507), (93, .agg [.f .f32 e544.heat_.a0_, .f .f32 e544.heat_.a1_, .f .f32 e544.heat_.a2_, .f .f32 e544.heat_.a3_]), (94, .i .i64 4), (95, .b false)]) [some (4, [(pT25 f)]), some (8, [[.i .i64 e544.a_, .i .i64 e544.b_, .f .f32 e544.lead_, .f .f32 e544.store_, .f .f32 e544.heat_.a0_, .f .f32 e544.heat_.a1_, .f .f32 e544.heat_.a2_, .f .f32 e544.heat_.a3_]])] [] hC (VW.seq (VW.condF (by simp) (VW.exit (vnext () h1 (Ent.tu 1))))) (h := by simp -implicitDefEqProofs [(by decide : ltI 4 4 = false)])))) (h := by simp -implicitDefEqProofs [(by decide : aI .i64 3 1 = 4)]))
   rintro _ h1
   replace h1 : (g20_j4 x_507).bind _ = _ := h1
   rw [g20_j4] at h1
   exact VW.rA (tm 129 [(1, .ptr 0 0 0), (3, .i .i64 (f.heat_.length : Int)), (61, .sl 8 (rows cT47 f.walls_)), (62, .i .i64 (f.walls_.length : Int)), (63, .i .i64 (aI .i64 x_507 1))]) [some (4, [(pT25 f)])] [] hC (vnext (aI .i64 x_507 1) (leafL h1) (Ent.tu 1))
 rintro _ h
 replace h : (g20_j2 f).bind _ = _ := h
 rw [g20_j2] at h
 refine VW.join (fun (v : Unit) => (⟨(tm 129 []), [some (4, [(pT25 f)])], []⟩ : VS)) (fun v => (g20_j3).bind some = some r) ?_ ?_
 · refine VW.seq (VW.rA (tm 129 [(3, .i .i64 (f.heat_.length : Int)), (103, .sl 4 (rows cT49 f.panes_)), (104, .i .i64 (f.panes_.length : Int)), (105, .i .i64 0)]) [some (4, [(pT25 f)])] [] hC (VW.block ?_))
   obtain ⟨w_1, hw_1, h⟩ := bindE h
   refine VW.loopO (fun (x : Int) => (⟨(tm 129 [(3, .i .i64 (f.heat_.length : Int)), (103, .sl 4 (rows cT49 f.panes_)), (104, .i .i64 (f.panes_.length : Int)), (105, .i .i64 x)]), [some (4, [(pT25 f)])], []⟩ : VS)) hw_1 (Ent.tu 1) ?_
   rintro n_1 x_346 h1
   rw [g20_L1] at h1
   refine VW.seq (VW.rA (tm 129 [(3, .i .i64 (f.heat_.length : Int)), (103, .sl 4 (rows cT49 f.panes_)), (104, .i .i64 (f.panes_.length : Int)), (105, .i .i64 x_346), (106, .b (ltI x_346 (f.panes_.length : Int)))]) [some (4, [(pT25 f)])] [] hC (VW.seq (VW.condJ h1 (fun h1 => ?_) (fun h1 => ?_))))
   · refine VW.exit ?_
     have e_ := leafR h1
     subst w_1
     exact vnext () h (Ent.tu 1)
   refine VW.skip (VW.seq (VW.block (VW.seq ?_)))
   obtain ⟨e348, ⟨f349a, f349b, f349c, f349d⟩, h1⟩ := bindI h1
   refine VW.rA (tm 129 [(3, .i .i64 (f.heat_.length : Int)), (10, .ptr 1 0 0), (103, .sl 4 (rows cT49 f.panes_)), (104, .i .i64 (f.panes_.length : Int)), (105, .i .i64 x_346)]) [some (4, [(pT25 f)]), some (4, [[.i .i64 e348.a_, .i .i64 e348.b_, .f .f32 e348.lead_, .f .f32 e348.sun_]])] [] hC (VW.seq ?_) (h := by simp -implicitDefEqProofs [f349a, f349b, f349c, f349d])
   obtain ⟨r350, q351, h1⟩ := bindE h1
   have c351 := tl45 q351
   obtain ⟨w354, q359, h1⟩ := bindE h1
   obtain ⟨w357, q360, h1⟩ := bindE h1
   refine VW.evalA (tm 129 [(3, .i .i64 (f.heat_.length : Int)), (103, .sl 4 (rows cT49 f.panes_)), (104, .i .i64 (f.panes_.length : Int)), (105, .i .i64 x_346), (127, .b w357)]) [some (4, [(pT25 f)]), some (4, [[.i .i64 e348.a_, .i .i64 e348.b_, .f .f32 e348.lead_, .f .f32 e348.sun_]])] [] hC (by kernel_rfl) (by
       obtain ⟨q361, q359⟩ | ⟨q361, rfl⟩ := gdF q359
       · obtain ⟨r352, q353, q359⟩ := bindQ q359
         have c353 := tl48 q353
         obtain rfl := Option.some.inj q359
         obtain ⟨q362, q360⟩ | ⟨q362, rfl⟩ := gdF q360
         · obtain ⟨r355, q356, q360⟩ := bindQ q360
           have c356 := tl48 q356
           obtain rfl := Option.some.inj q360
           simp -implicitDefEqProofs [c351, q361, c353, q362, c356]
         simp -implicitDefEqProofs [c351, q361, c353, q362]
       obtain ⟨q363, q360⟩ | ⟨q363, rfl⟩ := gdF q360
       · exact absurd q363 (by simp)
       simp -implicitDefEqProofs [c351, q361, q363]) ?_
   refine VW.condI h1 (fun h1 => ?_) (fun h1 => ?_)
   · refine VW.seq (VW.rA (tm 129 [(2, .b false)]) [some (4, [(pT25 f)]), some (4, [[.i .i64 e348.a_, .i .i64 e348.b_, .f .f32 e348.lead_, .f .f32 e348.sun_]])] [] hC ?_)
     have e_ := leafR h1
     subst w_1
     obtain rfl := leafS h
     exact VW.ret (VRet.fin (by simp [eB20]))
   exact VW.skip (VW.rA (tm 129 [(3, .i .i64 (f.heat_.length : Int)), (103, .sl 4 (rows cT49 f.panes_)), (104, .i .i64 (f.panes_.length : Int)), (105, .i .i64 (aI .i64 x_346 1))]) [some (4, [(pT25 f)]), some (4, [[.i .i64 e348.a_, .i .i64 e348.b_, .f .f32 e348.lead_, .f .f32 e348.sun_]])] [] hC (vnext (aI .i64 x_346 1) (leafL h1) (Ent.tu 1)))
 rintro _ h
 replace h : (g20_j3).bind _ = _ := h
 rw [g20_j3] at h
 refine VW.seq (VW.rA (tm 129 [(2, .b true)]) [some (4, [(pT25 f)])] [] hC ?_)
 obtain rfl := leafS h
 exact VW.ret (VRet.fin (by simp [eB20]))
theorem tl20 {f : T25} {r : Bool} (h : g20 f = some r) : F20 [.agg [.sl 1 (rows cf_f32 f.heat_), .sl 1 (rows cf_f32 f.store_), .sl 8 (rows cT47 f.walls_), .sl 4 (rows cT49 f.panes_)]] = some (.b r) := tells_eq inj20 (a := f) h
noncomputable def g50 (p0 : Int) (p1 : Int) : Option (ByteArray) := fmtIntO p0 p1
def eA50 (a : Int × Int) : List V := [.i .i64 a.1, .i .i64 a.2]
def eB50 (r : ByteArray) : V := .str r
theorem inj50 (a a' : Int × Int) (h : eA50 a = eA50 a') : a = a' := by
  obtain ⟨i203, i204⟩ := a
  obtain ⟨i205, i206⟩ := a'
  simp only [eA50, List.cons.injEq, V.i.injEq, V.b.injEq, V.f.injEq, V.str.injEq, V.sl.injEq, V.agg.injEq, V.cptr.injEq, true_and, and_true] at h
  simp_all
noncomputable def F50 : List V → Option V := tells (fun a => g50 a.1 a.2) eA50 eB50
/- strconv.FormatInt -/
theorem ok50 : Tells Tryz.prog 50 F50 := Tells.of (by kernel_rfl) (fun ⟨p0, p1⟩ r h => fmtInt_calls Tryz.laysM173 (g := 3) (by kernel_rfl) h)
theorem tl50 {p0 : Int} {p1 : Int} {r : ByteArray} (h : g50 p0 p1 = some r) : F50 [.i .i64 p0, .i .i64 p1] = some (.str r) := tells_eq inj50 (a := (p0, p1)) h
noncomputable def g51 (n : Int) : Option (ByteArray) :=
if eqI n (-1) = true then
some (⟨#[45]⟩ : ByteArray)
else
(g50 n 10).bind fun r2 =>
some r2
def eA51 (a : Int) : List V := [.i .i64 a]
def eB51 (r : ByteArray) : V := .str r
theorem inj51 (a a' : Int) (h : eA51 a = eA51 a') : a = a' := by
  obtain i207 := a
  obtain i208 := a'
  simp only [eA51, List.cons.injEq, V.i.injEq, V.b.injEq, V.f.injEq, V.str.injEq, V.sl.injEq, V.agg.injEq, V.cptr.injEq, true_and, and_true] at h
  simp_all
noncomputable def F51 : List V → Option V := tells (fun a => g51 a) eA51 eB51
/- loop.example/g01229/impl.sideText -/
theorem ok51 : Tells Tryz.prog 51 F51 := by
 refine Tells.go 7 Tryz.func51 rfl rfl rfl (by kernel_rfl) (fun _ => rfl) ?_
 rintro n r h
 simp only [eA51, en, Nat.reduceAdd]
 replace h : (g51 n).bind some = some r := bindS h
 rw [g51] at h
 have hC : CEnv.Ok Tryz.prog [(50, F50)] := ⟨.inl ok50, trivial⟩
 refine VW.seq (VW.rA (tm 7 [(0, .i .i64 n)]) [] [] hC (VW.seq (VW.seq (VW.rA (tm 7 [(0, .i .i64 n), (4, .b (eqI n (-1)))]) [] [] hC (VW.condI h (fun h => ?_) (fun h => ?_))))))
 · refine VW.seq (VW.rA (tm 7 [(2, .str (⟨#[45]⟩ : ByteArray))]) [] [] hC ?_)
   obtain rfl := leafS h
   exact VW.ret (VRet.fin (by simp [eB51]))
 refine VW.skip (VW.seq ?_)
 obtain ⟨r2, q3, h⟩ := bindE h
 have c3 := tl50 q3
 refine VW.rA (tm 7 [(2, .str r2)]) [] [] hC ?_ (h := by simp -implicitDefEqProofs [c3])
 obtain rfl := leafS h
 exact VW.ret (VRet.fin (by simp [eB51]))
theorem tl51 {n : Int} {r : ByteArray} (h : g51 n = some r) : F51 [.i .i64 n] = some (.str r) := tells_eq inj51 (a := n) h
noncomputable def g52 (p0 : List ByteArray) (p1 : ByteArray) : Option (ByteArray) := joinO p0 p1
def eA52 (a : (List ByteArray) × ByteArray) : List V := [.sl 1 (rows cs_ a.1), .str a.2]
def eB52 (r : ByteArray) : V := .str r
theorem inj52 (a a' : (List ByteArray) × ByteArray) (h : eA52 a = eA52 a') : a = a' := by
  obtain ⟨i209, i210⟩ := a
  obtain ⟨i211, i212⟩ := a'
  simp only [eA52, List.cons.injEq, V.i.injEq, V.b.injEq, V.f.injEq, V.str.injEq, V.sl.injEq, V.agg.injEq, V.cptr.injEq, true_and, and_true] at h
  simp_all [ri cs__inj]
noncomputable def F52 : List V → Option V := tells (fun a => g52 a.1 a.2) eA52 eB52
/- strings.Join -/
theorem ok52 : Tells Tryz.prog 52 F52 := Tells.of (by kernel_rfl) (fun ⟨p0, p1⟩ r h => join_calls Tryz.lays156 Tryz.Builder_Extra_156 h)
theorem tl52 {p0 : List ByteArray} {p1 : ByteArray} {r : ByteArray} (h : g52 p0 p1 = some r) : F52 [.sl 1 (rows cs_ p0), .str p1] = some (.str r) := tells_eq inj52 (a := (p0, p1)) h
end Go.Proofs.YtbohajclnmmkhaaGreatDoor
