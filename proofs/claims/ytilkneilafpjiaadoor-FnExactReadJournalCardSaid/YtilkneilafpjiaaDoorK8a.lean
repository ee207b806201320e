/- Contracts of the functions that the law reaches: what each tells, as a function in Lean. -/
import Derived.Test.YtilkneilafpjiaaDoorK8Ty
import Derived.KernelRfl
namespace Go.Proofs.YtilkneilafpjiaaDoor
open Go.RowKit Go.VL
set_option linter.unusedSimpArgs false
set_option linter.unusedVariables false
set_option maxHeartbeats 40000000
set_option maxRecDepth 100000
noncomputable def g92 (n : Int) (low : Int) (high : Int) : Option (Bool) :=
some (leI low n && leI n high)
def eA92 (a : Int × Int × Int) : List V := [.i .i64 a.1, .i .i64 a.2.1, .i .i64 a.2.2]
def eB92 (r : Bool) : V := .b r
theorem inj92 (a a' : Int × Int × Int) (h : eA92 a = eA92 a') : a = a' := by
  obtain ⟨i1, i2, i3⟩ := a
  obtain ⟨i4, i5, i6⟩ := a'
  simp only [eA92, List.cons.injEq, V.i.injEq, V.b.injEq, V.f.injEq, V.str.injEq, V.sl.injEq, V.agg.injEq, V.cptr.injEq, true_and, and_true] at h
  simp_all
noncomputable def F92 : List V → Option V := tells (fun a => g92 a.1 a.2.1 a.2.2) eA92 eB92
/- loop.example/g01229/spec.l00In -/
theorem ok92 : Tells Tryd.prog 92 F92 := by
 refine Tells.go 15 Tryd.func92 rfl rfl rfl (by kernel_rfl) (fun _ => rfl) ?_
 rintro ⟨n, low, high⟩ r h
 simp only [eA92, en, Nat.reduceAdd]
 replace h : (g92 n low high).bind some = some r := bindS h
 rw [g92] at h
 have hC : CEnv.Ok Tryd.prog [] := trivial
 refine VW.seq (VW.rA (tm 15 [(0, .i .i64 n), (1, .i .i64 low), (2, .i .i64 high)]) [] [] hC (VW.seq (VW.rA (tm 15 [(6, .b (leI low n && leI n high))]) [] [] hC ?_)))
 obtain rfl := leafS h
 exact VW.ret (VRet.fin (by simp [eB92]))
theorem tl92 {n : Int} {low : Int} {high : Int} {r : Bool} (h : g92 n low high = some r) : F92 [.i .i64 n, .i .i64 low, .i .i64 high] = some (.b r) := tells_eq inj92 (a := (n, low, high)) h
noncomputable def g93 (kind : Int) : Option (Bool) :=
some (((eqI kind 1 || eqI kind 5) || eqI kind 6) || eqI kind 8)
def eA93 (a : Int) : List V := [.i .i64 a]
def eB93 (r : Bool) : V := .b r
theorem inj93 (a a' : Int) (h : eA93 a = eA93 a') : a = a' := by
  obtain i7 := a
  obtain i8 := a'
  simp only [eA93, List.cons.injEq, V.i.injEq, V.b.injEq, V.f.injEq, V.str.injEq, V.sl.injEq, V.agg.injEq, V.cptr.injEq, true_and, and_true] at h
  simp_all
noncomputable def F93 : List V → Option V := tells (fun a => g93 a) eA93 eB93
/- loop.example/g01229/spec.l06Two -/
theorem ok93 : Tells Tryd.prog 93 F93 := by
 refine Tells.go 17 Tryd.func93 rfl rfl rfl (by kernel_rfl) (fun _ => rfl) ?_
 rintro kind r h
 simp only [eA93, en, Nat.reduceAdd]
 replace h : (g93 kind).bind some = some r := bindS h
 rw [g93] at h
 have hC : CEnv.Ok Tryd.prog [] := trivial
 refine VW.seq (VW.rA (tm 17 [(0, .i .i64 kind)]) [] [] hC (VW.seq (VW.rA (tm 17 [(2, .b (((eqI kind 1 || eqI kind 5) || eqI kind 6) || eqI kind 8))]) [] [] hC ?_)))
 obtain rfl := leafS h
 exact VW.ret (VRet.fin (by simp [eB93]))
theorem tl93 {kind : Int} {r : Bool} (h : g93 kind = some r) : F93 [.i .i64 kind] = some (.b r) := tells_eq inj93 (a := kind) h
noncomputable def g48 (a : T22) : Option (Bool) :=
(g92 a.kind_ 1 9).bind fun r1 =>
(if r1 = true then (g92 a.a_ 0 999).bind fun r3 => some r3 else some false).bind fun w5 =>
(if w5 = true then (g92 a.b_ 0 999).bind fun r6 => some r6 else some false).bind fun w8 =>
(if w8 = true then (if eqI a.b_ 0 = true then some true else (g93 a.kind_).bind fun r9 => some r9).bind fun w11 => some w11 else some false).bind fun w12 =>
some w12
def eA48 (a : T22) : List V := [.cptr (pT22 a) 0]
def eB48 (r : Bool) : V := .b r
theorem inj48 (a a' : T22) (h : eA48 a = eA48 a') : a = a' := by
  obtain ⟨i9, i10, i11⟩ := a
  obtain ⟨i12, i13, i14⟩ := a'
  simp only [eA48, pT22, List.cons.injEq, V.i.injEq, V.b.injEq, V.f.injEq, V.str.injEq, V.sl.injEq, V.agg.injEq, V.cptr.injEq, true_and, and_true] at h
  simp_all
noncomputable def F48 : List V → Option V := tells (fun a => g48 a) eA48 eB48
/- loop.example/g01229/spec.l06Act -/
theorem ok48 : Tells Tryd.prog 48 F48 := by
 refine Tells.go 36 Tryd.func48 rfl rfl rfl (by kernel_rfl) (fun _ => rfl) ?_
 rintro a r h
 simp only [eA48, en, Nat.reduceAdd]
 replace h : (g48 a).bind some = some r := bindS h
 rw [g48] at h
 have hC : CEnv.Ok Tryd.prog [(92, F92), (93, F93)] := ⟨.inl ok92, .inl ok93, trivial⟩
 refine VW.seq (VW.rA (tm 36 [(0, .cptr (pT22 a) 0)]) [] [] hC (VW.seq ?_))
 obtain ⟨r1, q2, h⟩ := bindE h
 have c2 := tl92 q2
 obtain ⟨w5, q13, h⟩ := bindE h
 obtain ⟨w8, q14, h⟩ := bindE h
 obtain ⟨w12, q15, h⟩ := bindE h
 refine VW.evalA (tm 36 [(2, .b w12)]) [] [] hC (by kernel_rfl) (by
     obtain ⟨q16, q13⟩ | ⟨q16, rfl⟩ := gdT q13
     · obtain ⟨r3, q4, q13⟩ := bindQ q13
       have c4 := tl92 q4
       obtain rfl := Option.some.inj q13
       obtain ⟨q17, q14⟩ | ⟨q17, rfl⟩ := gdT q14
       · obtain ⟨r6, q7, q14⟩ := bindQ q14
         have c7 := tl92 q7
         obtain rfl := Option.some.inj q14
         obtain ⟨q18, q15⟩ | ⟨q18, rfl⟩ := gdT q15
         · obtain ⟨w11, q19, q15⟩ := bindQ q15
           obtain rfl := Option.some.inj q15
           obtain ⟨q20, q19⟩ | ⟨q20, rfl⟩ := gdF q19
           · obtain ⟨r9, q10, q19⟩ := bindQ q19
             have c10 := tl93 q10
             obtain rfl := Option.some.inj q19
             simp -implicitDefEqProofs [c2, q16, c4, q17, c7, q18, q20, c10, pT22]
           simp -implicitDefEqProofs [c2, q16, c4, q17, c7, q18, q20, pT22]
         simp -implicitDefEqProofs [c2, q16, c4, q17, c7, q18, pT22]
       obtain ⟨q21, q15⟩ | ⟨q21, rfl⟩ := gdT q15
       · exact absurd q21 (by simp)
       simp -implicitDefEqProofs [c2, q16, c4, q17, q21, pT22]
     obtain ⟨q22, q14⟩ | ⟨q22, rfl⟩ := gdT q14
     · exact absurd q22 (by simp)
     obtain ⟨q23, q15⟩ | ⟨q23, rfl⟩ := gdT q15
     · exact absurd q23 (by simp)
     simp -implicitDefEqProofs [c2, q16, q22, q23, pT22]) ?_
 obtain rfl := leafS h
 exact VW.ret (VRet.fin (by simp [eB48]))
theorem tl48 {a : T22} {r : Bool} (h : g48 a = some r) : F48 [.cptr [.i .i64 a.kind_, .i .i64 a.a_, .i .i64 a.b_] 0] = some (.b r) := tells_eq inj48 (a := a) h
noncomputable def g72_j1 (text : ByteArray) (from_31 : Int) (l32 : List ByteArray) : Option (List ByteArray) :=
(cutK from_31 (text.size : Int) text.size).bind fun u33 =>
(appK 16 l32 [(text.extract from_31.toNat text.size)]).bind fun u35 =>
some (l32 ++ [(text.extract from_31.toNat text.size)])
noncomputable def g72_L1 (text : ByteArray) (by_ : Int) : (Int × Int × (List ByteArray)) → Option ((Int × Int × (List ByteArray)) ⊕ (Int × (List ByteArray)))
| (from_56, i_57, l58) =>
if ltI i_57 (text.size : Int) = true then
(idxS text i_57).bind fun e60 =>
if eqI e60 by_ = true then
(cutK from_56 i_57 text.size).bind fun u63 =>
(appK 16 l58 [(text.extract from_56.toNat i_57.toNat)]).bind fun u65 =>
some (.inl (aI .i64 i_57 1, aI .i64 i_57 1, (l58 ++ [(text.extract from_56.toNat i_57.toNat)])))
else
some (.inl (from_56, aI .i64 i_57 1, l58))
else
some (.inr (from_56, l58))
noncomputable def g72 (text : ByteArray) (by_ : Int) : Option (List ByteArray) :=
(loopO (g72_L1 text by_) (0, 0, [])).bind fun w => g72_j1 text w.1 w.2
def eA72 (a : ByteArray × Int) : List V := [.str a.1, .i .u8 a.2]
def eB72 (r : List ByteArray) : V := .own 1 (rows cs_ r)
theorem inj72 (a a' : ByteArray × Int) (h : eA72 a = eA72 a') : a = a' := by
  obtain ⟨i15, i16⟩ := a
  obtain ⟨i17, i18⟩ := a'
  simp only [eA72, List.cons.injEq, V.i.injEq, V.b.injEq, V.f.injEq, V.str.injEq, V.sl.injEq, V.agg.injEq, V.cptr.injEq, true_and, and_true] at h
  simp_all
noncomputable def F72 : List V → Option V := tells (fun a => g72 a.1 a.2) eA72 eB72
/- loop.example/g01229/spec.l01Split -/
theorem ok72 : Tells Tryd.prog 72 F72 := by
 refine Tells.go 35 Tryd.func72 rfl rfl rfl (by kernel_rfl) (fun _ => rfl) ?_
 rintro ⟨text, by_⟩ r h
 simp only [eA72, en, Nat.reduceAdd]
 replace h : (g72 text by_).bind some = some r := bindS h
 rw [g72] at h
 have hC : CEnv.Ok Tryd.prog [] := trivial
 refine VW.seq (VW.rA (tm 35 [(0, .str text), (1, .i .u8 by_)]) [] [] hC (VW.seq (VW.rA (tm 35 [(0, .str text), (1, .i .u8 by_), (5, .ref 0 0 0)]) [some (1, rows cs_ [])] [] hC (VW.seq (VW.rA (tm 35 [(0, .str text), (1, .i .u8 by_), (5, .ref 0 0 0), (6, .i .i64 0)]) [some (1, rows cs_ [])] [] hC (VW.join (fun (v : Int × (List ByteArray)) => (⟨(tm 35 [(0, .str text), (5, .ref 0 0 v.2.length), (6, .i .i64 v.1)]), [some (1, rows cs_ v.2)], []⟩ : VS)) (fun v => (g72_j1 text (v.1) (v.2)).bind some = some r) ?_ ?_))))))
 · refine VW.seq (VW.rA (tm 35 [(0, .str text), (1, .i .u8 by_), (5, .ref 0 0 0), (6, .i .i64 0), (7, .i .i64 0)]) [some (1, rows cs_ [])] [] hC (VW.block ?_))
   obtain ⟨w_1, hw_1, h⟩ := bindE h
   refine VW.loopO (fun (x : Int × Int × (List ByteArray)) => (⟨(tm 35 [(0, .str text), (1, .i .u8 by_), (5, .ref 0 0 x.2.2.length), (6, .i .i64 x.1), (7, .i .i64 x.2.1)]), [some (1, rows cs_ x.2.2)], []⟩ : VS)) hw_1 (Ent.tu 1) ?_
   rintro n_1 ⟨from_56, i_57, l58⟩ h1
   rw [g72_L1] at h1
   refine VW.seq (VW.seq (VW.rA (tm 35 [(0, .str text), (1, .i .u8 by_), (5, .ref 0 0 l58.length), (6, .i .i64 from_56), (7, .i .i64 i_57), (12, .b (ltI i_57 (text.size : Int)))]) [some (1, rows cs_ l58)] [] hC (VW.condJ h1 (fun h1 => ?_) (fun h1 => ?_))))
   · refine VW.exit ?_
     have e_ := leafR h1
     subst w_1
     exact vnext (from_56, l58) h (Ent.tu 1)
   refine VW.skip (VW.seq (VW.block (VW.seq ?_)))
   obtain ⟨e60, ⟨f61a, c61, f61b, f61c, f61d⟩, h1⟩ := bindIS h1
   refine VW.rA (tm 35 [(0, .str text), (1, .i .u8 by_), (5, .ref 0 0 l58.length), (6, .i .i64 from_56), (7, .i .i64 i_57), (19, .b (eqI e60 by_))]) [some (1, rows cs_ l58)] [] hC (VW.condJ h1 (fun h1 => ?_) (fun h1 => ?_)) (h := by simp -implicitDefEqProofs [f61a, f61b, f61c, f61d])
   · exact VW.skip (VW.rA (tm 35 [(0, .str text), (1, .i .u8 by_), (5, .ref 0 0 l58.length), (6, .i .i64 from_56), (7, .i .i64 (aI .i64 i_57 1))]) [some (1, rows cs_ l58)] [] hC (vnext (from_56, aI .i64 i_57 1, l58) (leafL h1) (Ent.tu 1)))
   refine VW.seq ?_
   obtain ⟨u63, ⟨f64a, f64b, f64c, f64d, f64e⟩, h1⟩ := bindC h1
   try simp only [Int.toNat_natCast, Int.reduceToNat, List.length_cons, List.length_nil, Nat.reduceAdd, Nat.zero_add] at f64a f64b f64c f64d f64e
   obtain ⟨u65, ⟨f66a, f66b⟩, h1⟩ := bindP h1
   try simp only [Int.toNat_natCast, Int.reduceToNat, List.length_cons, List.length_nil, Nat.reduceAdd, Nat.zero_add] at f66a f66b
   exact VW.rA (tm 35 [(0, .str text), (1, .i .u8 by_), (5, .ref 0 0 (l58 ++ [(text.extract from_56.toNat i_57.toNat)]).length), (7, .i .i64 i_57)]) [some (1, rows cs_ (l58 ++ [(text.extract from_56.toNat i_57.toNat)])), some (1, rows cs_ [(text.extract from_56.toNat i_57.toNat)])] [] hC (VW.rA (tm 35 [(0, .str text), (1, .i .u8 by_), (5, .ref 0 0 (l58 ++ [(text.extract from_56.toNat i_57.toNat)]).length), (6, .i .i64 (aI .i64 i_57 1)), (7, .i .i64 i_57)]) [some (1, rows cs_ (l58 ++ [(text.extract from_56.toNat i_57.toNat)])), some (1, rows cs_ [(text.extract from_56.toNat i_57.toNat)])] [] hC (VW.rA (tm 35 [(0, .str text), (1, .i .u8 by_), (5, .ref 0 0 (l58 ++ [(text.extract from_56.toNat i_57.toNat)]).length), (6, .i .i64 (aI .i64 i_57 1)), (7, .i .i64 (aI .i64 i_57 1))]) [some (1, rows cs_ (l58 ++ [(text.extract from_56.toNat i_57.toNat)])), some (1, rows cs_ [(text.extract from_56.toNat i_57.toNat)])] [] hC (vnext (aI .i64 i_57 1, aI .i64 i_57 1, (l58 ++ [(text.extract from_56.toNat i_57.toNat)])) (leafL h1) (Ent.tu 1)))) (h := by simp -implicitDefEqProofs [f64a, f64b, f64c, f64d, f64e, f66a, f66b])
 rintro ⟨from_31, l32⟩ h
 replace h : (g72_j1 text from_31 l32).bind _ = _ := h
 rw [g72_j1] at h
 refine VW.seq ?_
 obtain ⟨u33, ⟨f34a, f34b, f34c, f34d, f34e⟩, h⟩ := bindC h
 try simp only [Int.toNat_natCast, Int.reduceToNat, List.length_cons, List.length_nil, Nat.reduceAdd, Nat.zero_add] at f34a f34b f34c f34d f34e
 obtain ⟨u35, ⟨f36a, f36b⟩, h⟩ := bindP h
 try simp only [Int.toNat_natCast, Int.reduceToNat, List.length_cons, List.length_nil, Nat.reduceAdd, Nat.zero_add] at f36a f36b
 refine VW.rA (tm 35 [(4, .ref 0 0 (l32 ++ [(text.extract from_31.toNat text.size)]).length)]) [some (1, rows cs_ (l32 ++ [(text.extract from_31.toNat text.size)])), some (1, rows cs_ [(text.extract from_31.toNat text.size)])] [] hC ?_ (h := by simp -implicitDefEqProofs [f34a, f34b, f34c, f34d, f34e, f36a, f36b])
 obtain rfl := leafS h
 exact VW.ret (VRet.fin (by simp [eB72]))
theorem tl72 {text : ByteArray} {by_ : Int} {r : List ByteArray} (h : g72 text by_ = some r) : F72 [.str text, .i .u8 by_] = some (.own 1 (rows cs_ r)) := tells_eq inj72 (a := (text, by_)) h
noncomputable def g94 : Option (List ByteArray) :=
some [ByteArray.empty, (⟨#[108, 111, 97, 100]⟩ : ByteArray), (⟨#[107, 105, 110, 100, 108, 101]⟩ : ByteArray), (⟨#[114, 97, 107, 101]⟩ : ByteArray), (⟨#[99, 108, 101, 97, 110]⟩ : ByteArray), (⟨#[112, 97, 110, 101]⟩ : ByteArray), (⟨#[98, 114, 97, 105, 110]⟩ : ByteArray), (⟨#[109, 117, 116, 101]⟩ : ByteArray), (⟨#[100, 97, 109, 112, 101, 114]⟩ : ByteArray), (⟨#[119, 97, 105, 116]⟩ : ByteArray)]
def eA94 (a : Unit) : List V := []
def eB94 (r : List ByteArray) : V := .own 1 (rows cs_ r)
theorem inj94 (a a' : Unit) (h : eA94 a = eA94 a') : a = a' := by
  obtain ⟨⟩ := a
  obtain ⟨⟩ := a'
  simp only [eA94, List.cons.injEq, V.i.injEq, V.b.injEq, V.f.injEq, V.str.injEq, V.sl.injEq, V.agg.injEq, V.cptr.injEq, true_and, and_true] at h
  simp_all
noncomputable def F94 : List V → Option V := tells (fun a => g94) eA94 eB94
/- loop.example/g01229/spec.l06Words -/
theorem ok94 : Tells Tryd.prog 94 F94 := by
 refine Tells.go 2 Tryd.func94 rfl rfl rfl (by kernel_rfl) (fun _ => rfl) ?_
 rintro ⟨⟩ r h
 simp only [eA94, en, Nat.reduceAdd]
 replace h : (g94).bind some = some r := bindS h
 rw [g94] at h
 have hC : CEnv.Ok Tryd.prog [] := trivial
 refine VW.seq (VW.rA (tm 2 []) [] [] hC (VW.seq (VW.rA (tm 2 [(0, .ref 0 0 [ByteArray.empty, (⟨#[108, 111, 97, 100]⟩ : ByteArray), (⟨#[107, 105, 110, 100, 108, 101]⟩ : ByteArray), (⟨#[114, 97, 107, 101]⟩ : ByteArray), (⟨#[99, 108, 101, 97, 110]⟩ : ByteArray), (⟨#[112, 97, 110, 101]⟩ : ByteArray), (⟨#[98, 114, 97, 105, 110]⟩ : ByteArray), (⟨#[109, 117, 116, 101]⟩ : ByteArray), (⟨#[100, 97, 109, 112, 101, 114]⟩ : ByteArray), (⟨#[119, 97, 105, 116]⟩ : ByteArray)].length)]) [some (1, rows cs_ [ByteArray.empty, (⟨#[108, 111, 97, 100]⟩ : ByteArray), (⟨#[107, 105, 110, 100, 108, 101]⟩ : ByteArray), (⟨#[114, 97, 107, 101]⟩ : ByteArray), (⟨#[99, 108, 101, 97, 110]⟩ : ByteArray), (⟨#[112, 97, 110, 101]⟩ : ByteArray), (⟨#[98, 114, 97, 105, 110]⟩ : ByteArray), (⟨#[109, 117, 116, 101]⟩ : ByteArray), (⟨#[100, 97, 109, 112, 101, 114]⟩ : ByteArray), (⟨#[119, 97, 105, 116]⟩ : ByteArray)])] [] hC ?_)))
 obtain rfl := leafS h
 exact VW.ret (VRet.fin (by simp [eB94]))
noncomputable def g98_j1 (n_45 : Int) : Option (Int × Bool) :=
some (n_45, true)
noncomputable def g98_L1 (s : ByteArray) : (Int × Int) → Option ((Int × Int) ⊕ ((Int) ⊕ (Int × Bool)))
| (n_72, i_73) =>
if ltI i_73 (s.size : Int) = true then
(idxS s i_73).bind fun e75 =>
(if ltI e75 48 = true then some true else (idxS s i_73).bind fun e77 => some (ltI 57 e77)).bind fun w79 =>
if w79 = true then
some (.inr (.inr (0, false)))
else
(idxS s i_73).bind fun e81 =>
some (.inl (aI .i64 (mI .i64 n_72 10) (cI .i64 (sI .u8 e81 48)), aI .i64 i_73 1))
else
some (.inr (.inl n_72))
noncomputable def g98 (s : ByteArray) : Option (Int × Bool) :=
(if (ltI (s.size : Int) 1 || ltI 9 (s.size : Int)) = true then some true else (idxS s 0).bind fun e1 => some (eqI e1 48 && ltI 1 (s.size : Int))).bind fun w3 =>
if w3 = true then
some (0, false)
else
(loopO (g98_L1 s) (0, 0)).bind fun w => match w with
| .inl y => g98_j1 y
| .inr r => some r
def eA98 (a : ByteArray) : List V := [.str a]
def eB98 (r : Int × Bool) : V := .tup [.i .i64 r.1, .b r.2]
theorem inj98 (a a' : ByteArray) (h : eA98 a = eA98 a') : a = a' := by
  obtain i19 := a
  obtain i20 := a'
  simp only [eA98, List.cons.injEq, V.i.injEq, V.b.injEq, V.f.injEq, V.str.injEq, V.sl.injEq, V.agg.injEq, V.cptr.injEq, true_and, and_true] at h
  simp_all
noncomputable def F98 : List V → Option V := tells (fun a => g98 a) eA98 eB98
/- loop.example/g01229/spec.l01Number -/
theorem ok98 : Tells Tryd.prog 98 F98 := by
 refine Tells.go 49 Tryd.func98 rfl rfl rfl (by kernel_rfl) (fun _ => rfl) ?_
 rintro s r h
 simp only [eA98, en, Nat.reduceAdd]
 replace h : (g98 s).bind some = some r := bindS h
 rw [g98] at h
 have hC : CEnv.Ok Tryd.prog [] := trivial
 refine VW.seq (VW.rA (tm 49 [(0, .str s)]) [] [] hC (VW.seq (VW.seq ?_)))
 obtain ⟨w3, q86, h⟩ := bindE h
 refine VW.evalA (tm 49 [(0, .str s), (23, .b w3)]) [] [] hC (by kernel_rfl) (by
     obtain ⟨q87, q86⟩ | ⟨q87, rfl⟩ := gdF q86
     · obtain ⟨e1, q2, q86⟩ := bindQ q86
       obtain ⟨f2a, c2, f2b, f2c, f2d⟩ := idxS_some2 q2
       simp only [Int.reduceToNat] at f2b f2d
       obtain rfl := Option.some.inj q86
       simp -implicitDefEqProofs [q87, f2a, f2b, f2c, f2d]
     simp -implicitDefEqProofs [q87]) ?_
 refine VW.condI h (fun h => ?_) (fun h => ?_)
 · refine VW.seq (VW.rA (tm 49 [(2, .i .i64 0), (3, .b false)]) [] [] hC ?_)
   obtain rfl := leafS h
   exact VW.ret (VRet.fin (by simp [eB98]))
 refine VW.skip (VW.seq (VW.rA (tm 49 [(0, .str s), (4, .i .i64 0)]) [] [] hC (VW.join (fun (v : Int) => (⟨(tm 49 [(4, .i .i64 v)]), [], []⟩ : VS)) (fun v => (g98_j1 (v)).bind some = some r) ?_ ?_)))
 · refine VW.seq (VW.rA (tm 49 [(0, .str s), (4, .i .i64 0), (5, .i .i64 0)]) [] [] hC (VW.block ?_))
   obtain ⟨w_1, hw_1, h⟩ := bindE h
   refine VW.loopO (fun (x : Int × Int) => (⟨(tm 49 [(0, .str s), (4, .i .i64 x.1), (5, .i .i64 x.2)]), [], []⟩ : VS)) hw_1 (Ent.tu 0) ?_
   rintro n_1 ⟨n_72, i_73⟩ h1
   rw [g98_L1] at h1
   refine VW.seq (VW.seq (VW.rA (tm 49 [(0, .str s), (4, .i .i64 n_72), (5, .i .i64 i_73), (27, .b (ltI i_73 (s.size : Int)))]) [] [] hC (VW.condJ h1 (fun h1 => ?_) (fun h1 => ?_))))
   · refine VW.exit ?_
     have e_ := leafR h1
     subst w_1
     exact vnext n_72 h (Ent.tu 0)
   refine VW.skip (VW.seq (VW.block (VW.seq (VW.seq ?_))))
   obtain ⟨e75, q76, h1⟩ := bindE h1
   obtain ⟨f76a, c76, f76b, f76c, f76d⟩ := idxS_some2 q76
   obtain ⟨w79, q83, h1⟩ := bindE h1
   refine VW.evalA (tm 49 [(0, .str s), (4, .i .i64 n_72), (5, .i .i64 i_73), (39, .b w79)]) [] [] hC (by kernel_rfl) (by
       obtain ⟨q84, q83⟩ | ⟨q84, rfl⟩ := gdF q83
       · obtain ⟨e77, q78, q83⟩ := bindQ q83
         have d85 : e77 = e75 := Option.some.inj (q78.symm.trans q76)
         obtain rfl := Option.some.inj q83
         simp -implicitDefEqProofs [f76a, f76b, f76c, f76d, q84, d85]
       simp -implicitDefEqProofs [f76a, f76b, f76c, f76d, q84]) ?_
   refine VW.condI h1 (fun h1 => ?_) (fun h1 => ?_)
   · refine VW.seq (VW.rA (tm 49 [(2, .i .i64 0), (3, .b false)]) [] [] hC ?_)
     have e_ := leafR h1
     subst w_1
     obtain rfl := leafS h
     exact VW.ret (VRet.fin (by simp [eB98]))
   refine VW.skip ?_
   obtain ⟨e81, ⟨f82a, c82, f82b, f82c, f82d⟩, h1⟩ := bindIS h1
   exact VW.rA (tm 49 [(0, .str s), (4, .i .i64 (aI .i64 (mI .i64 n_72 10) (cI .i64 (sI .u8 e81 48)))), (5, .i .i64 i_73)]) [] [] hC (VW.rA (tm 49 [(0, .str s), (4, .i .i64 (aI .i64 (mI .i64 n_72 10) (cI .i64 (sI .u8 e81 48)))), (5, .i .i64 (aI .i64 i_73 1))]) [] [] hC (vnext (aI .i64 (mI .i64 n_72 10) (cI .i64 (sI .u8 e81 48)), aI .i64 i_73 1) (leafL h1) (Ent.tu 0))) (h := by simp -implicitDefEqProofs [f82a, f82b, f82c, f82d])
 rintro n_45 h
 replace h : (g98_j1 n_45).bind _ = _ := h
 rw [g98_j1] at h
 refine VW.seq (VW.rA (tm 49 [(2, .i .i64 n_45), (3, .b true)]) [] [] hC ?_)
 obtain rfl := leafS h
 exact VW.ret (VRet.fin (by simp [eB98]))
theorem tl98 {s : ByteArray} {r : Int × Bool} (h : g98 s = some r) : F98 [.str s] = some (.tup [.i .i64 r.1, .b r.2]) := tells_eq inj98 (a := s) h
noncomputable def g66_j1 : Option (T22 × Bool) :=
some ((⟨0, 0, 0⟩ : T22), false)
noncomputable def g66_j2 (r1 : List ByteArray) (want_341 : Int) : Option (T22 × Bool) :=
if (!eqI (r1.length : Int) want_341) = true then
some ((⟨0, 0, 0⟩ : T22), false)
else
(idx r1 1).bind fun e343 =>
(g98 e343).bind fun r345 =>
if eqI want_341 3 = true then
(idx r1 2).bind fun e348 =>
(g98 e348).bind fun r350 =>
(if (r345.2 && r350.2) = true then (g48 (⟨9, r345.1, r350.1⟩ : T22)).bind fun r352 => some r352 else some false).bind fun w354 =>
some ((⟨9, r345.1, r350.1⟩ : T22), w354)
else
(if r345.2 = true then (g48 (⟨9, r345.1, 0⟩ : T22)).bind fun r357 => some r357 else some false).bind fun w359 =>
some ((⟨9, r345.1, 0⟩ : T22), w359)
noncomputable def g66_j3 (r1 : List ByteArray) (want_368 : Int) : Option (T22 × Bool) :=
if (!eqI (r1.length : Int) want_368) = true then
some ((⟨0, 0, 0⟩ : T22), false)
else
(idx r1 1).bind fun e370 =>
(g98 e370).bind fun r372 =>
if eqI want_368 3 = true then
(idx r1 2).bind fun e375 =>
(g98 e375).bind fun r377 =>
(if (r372.2 && r377.2) = true then (g48 (⟨8, r372.1, r377.1⟩ : T22)).bind fun r379 => some r379 else some false).bind fun w381 =>
some ((⟨8, r372.1, r377.1⟩ : T22), w381)
else
(if r372.2 = true then (g48 (⟨8, r372.1, 0⟩ : T22)).bind fun r384 => some r384 else some false).bind fun w386 =>
some ((⟨8, r372.1, 0⟩ : T22), w386)
noncomputable def g66_j4 (r1 : List ByteArray) (want_395 : Int) : Option (T22 × Bool) :=
if (!eqI (r1.length : Int) want_395) = true then
some ((⟨0, 0, 0⟩ : T22), false)
else
(idx r1 1).bind fun e397 =>
(g98 e397).bind fun r399 =>
if eqI want_395 3 = true then
(idx r1 2).bind fun e402 =>
(g98 e402).bind fun r404 =>
(if (r399.2 && r404.2) = true then (g48 (⟨7, r399.1, r404.1⟩ : T22)).bind fun r406 => some r406 else some false).bind fun w408 =>
some ((⟨7, r399.1, r404.1⟩ : T22), w408)
else
(if r399.2 = true then (g48 (⟨7, r399.1, 0⟩ : T22)).bind fun r411 => some r411 else some false).bind fun w413 =>
some ((⟨7, r399.1, 0⟩ : T22), w413)
noncomputable def g66_j5 (r1 : List ByteArray) (want_422 : Int) : Option (T22 × Bool) :=
if (!eqI (r1.length : Int) want_422) = true then
some ((⟨0, 0, 0⟩ : T22), false)
else
(idx r1 1).bind fun e424 =>
(g98 e424).bind fun r426 =>
if eqI want_422 3 = true then
(idx r1 2).bind fun e429 =>
(g98 e429).bind fun r431 =>
(if (r426.2 && r431.2) = true then (g48 (⟨6, r426.1, r431.1⟩ : T22)).bind fun r433 => some r433 else some false).bind fun w435 =>
some ((⟨6, r426.1, r431.1⟩ : T22), w435)
else
(if r426.2 = true then (g48 (⟨6, r426.1, 0⟩ : T22)).bind fun r438 => some r438 else some false).bind fun w440 =>
some ((⟨6, r426.1, 0⟩ : T22), w440)
noncomputable def g66_j6 (r1 : List ByteArray) (want_449 : Int) : Option (T22 × Bool) :=
if (!eqI (r1.length : Int) want_449) = true then
some ((⟨0, 0, 0⟩ : T22), false)
else
(idx r1 1).bind fun e451 =>
(g98 e451).bind fun r453 =>
if eqI want_449 3 = true then
(idx r1 2).bind fun e456 =>
(g98 e456).bind fun r458 =>
(if (r453.2 && r458.2) = true then (g48 (⟨5, r453.1, r458.1⟩ : T22)).bind fun r460 => some r460 else some false).bind fun w462 =>
some ((⟨5, r453.1, r458.1⟩ : T22), w462)
else
(if r453.2 = true then (g48 (⟨5, r453.1, 0⟩ : T22)).bind fun r465 => some r465 else some false).bind fun w467 =>
some ((⟨5, r453.1, 0⟩ : T22), w467)
noncomputable def g66_j7 (r1 : List ByteArray) (want_476 : Int) : Option (T22 × Bool) :=
if (!eqI (r1.length : Int) want_476) = true then
some ((⟨0, 0, 0⟩ : T22), false)
else
(idx r1 1).bind fun e478 =>
(g98 e478).bind fun r480 =>
if eqI want_476 3 = true then
(idx r1 2).bind fun e483 =>
(g98 e483).bind fun r485 =>
(if (r480.2 && r485.2) = true then (g48 (⟨4, r480.1, r485.1⟩ : T22)).bind fun r487 => some r487 else some false).bind fun w489 =>
some ((⟨4, r480.1, r485.1⟩ : T22), w489)
else
(if r480.2 = true then (g48 (⟨4, r480.1, 0⟩ : T22)).bind fun r492 => some r492 else some false).bind fun w494 =>
some ((⟨4, r480.1, 0⟩ : T22), w494)
noncomputable def g66_j8 (r1 : List ByteArray) (want_503 : Int) : Option (T22 × Bool) :=
if (!eqI (r1.length : Int) want_503) = true then
some ((⟨0, 0, 0⟩ : T22), false)
else
(idx r1 1).bind fun e505 =>
(g98 e505).bind fun r507 =>
if eqI want_503 3 = true then
(idx r1 2).bind fun e510 =>
(g98 e510).bind fun r512 =>
(if (r507.2 && r512.2) = true then (g48 (⟨3, r507.1, r512.1⟩ : T22)).bind fun r514 => some r514 else some false).bind fun w516 =>
some ((⟨3, r507.1, r512.1⟩ : T22), w516)
else
(if r507.2 = true then (g48 (⟨3, r507.1, 0⟩ : T22)).bind fun r519 => some r519 else some false).bind fun w521 =>
some ((⟨3, r507.1, 0⟩ : T22), w521)
noncomputable def g66_j9 (r1 : List ByteArray) (want_530 : Int) : Option (T22 × Bool) :=
if (!eqI (r1.length : Int) want_530) = true then
some ((⟨0, 0, 0⟩ : T22), false)
else
(idx r1 1).bind fun e532 =>
(g98 e532).bind fun r534 =>
if eqI want_530 3 = true then
(idx r1 2).bind fun e537 =>
(g98 e537).bind fun r539 =>
(if (r534.2 && r539.2) = true then (g48 (⟨2, r534.1, r539.1⟩ : T22)).bind fun r541 => some r541 else some false).bind fun w543 =>
some ((⟨2, r534.1, r539.1⟩ : T22), w543)
else
(if r534.2 = true then (g48 (⟨2, r534.1, 0⟩ : T22)).bind fun r546 => some r546 else some false).bind fun w548 =>
some ((⟨2, r534.1, 0⟩ : T22), w548)
noncomputable def g66_j10 (r1 : List ByteArray) (want_557 : Int) : Option (T22 × Bool) :=
if (!eqI (r1.length : Int) want_557) = true then
some ((⟨0, 0, 0⟩ : T22), false)
else
(idx r1 1).bind fun e559 =>
(g98 e559).bind fun r561 =>
if eqI want_557 3 = true then
(idx r1 2).bind fun e564 =>
(g98 e564).bind fun r566 =>
(if (r561.2 && r566.2) = true then (g48 (⟨1, r561.1, r566.1⟩ : T22)).bind fun r568 => some r568 else some false).bind fun w570 =>
some ((⟨1, r561.1, r566.1⟩ : T22), w570)
else
(if r561.2 = true then (g48 (⟨1, r561.1, 0⟩ : T22)).bind fun r573 => some r573 else some false).bind fun w575 =>
some ((⟨1, r561.1, 0⟩ : T22), w575)
noncomputable def g66 (text : ByteArray) : Option (T22 × Bool) :=
(g72 text 32).bind fun r1 =>
(g94).bind fun r3 =>
(idx r1 0).bind fun e293 =>
(idx r3 1).bind fun e295 =>
if (!eqS e293 e295) = true then
(idx r1 0).bind fun e298 =>
(idx r3 2).bind fun e300 =>
if (!eqS e298 e300) = true then
(idx r1 0).bind fun e303 =>
(idx r3 3).bind fun e305 =>
if (!eqS e303 e305) = true then
(idx r1 0).bind fun e308 =>
(idx r3 4).bind fun e310 =>
if (!eqS e308 e310) = true then
(idx r1 0).bind fun e313 =>
(idx r3 5).bind fun e315 =>
if (!eqS e313 e315) = true then
(idx r1 0).bind fun e318 =>
(idx r3 6).bind fun e320 =>
if (!eqS e318 e320) = true then
(idx r1 0).bind fun e323 =>
(idx r3 7).bind fun e325 =>
if (!eqS e323 e325) = true then
(idx r1 0).bind fun e328 =>
(idx r3 8).bind fun e330 =>
if (!eqS e328 e330) = true then
(idx r1 0).bind fun e333 =>
(idx r3 9).bind fun e335 =>
if (!eqS e333 e335) = true then
g66_j1
else
(g93 9).bind fun r362 =>
if r362 = true then
g66_j2 r1 3
else
g66_j2 r1 2
else
(g93 8).bind fun r389 =>
if r389 = true then
g66_j3 r1 3
else
g66_j3 r1 2
else
(g93 7).bind fun r416 =>
if r416 = true then
g66_j4 r1 3
else
g66_j4 r1 2
else
(g93 6).bind fun r443 =>
if r443 = true then
g66_j5 r1 3
else
g66_j5 r1 2
else
(g93 5).bind fun r470 =>
if r470 = true then
g66_j6 r1 3
else
g66_j6 r1 2
else
(g93 4).bind fun r497 =>
if r497 = true then
g66_j7 r1 3
else
g66_j7 r1 2
else
(g93 3).bind fun r524 =>
if r524 = true then
g66_j8 r1 3
else
g66_j8 r1 2
else
(g93 2).bind fun r551 =>
if r551 = true then
g66_j9 r1 3
else
g66_j9 r1 2
else
(g93 1).bind fun r578 =>
if r578 = true then
g66_j10 r1 3
else
g66_j10 r1 2
def eA66 (a : ByteArray) : List V := [.str a]
def eB66 (r : T22 × Bool) : V := .tup [.agg [.i .i64 r.1.kind_, .i .i64 r.1.a_, .i .i64 r.1.b_], .b r.2]
theorem inj66 (a a' : ByteArray) (h : eA66 a = eA66 a') : a = a' := by
  obtain i21 := a
  obtain i22 := a'
  simp only [eA66, List.cons.injEq, V.i.injEq, V.b.injEq, V.f.injEq, V.str.injEq, V.sl.injEq, V.agg.injEq, V.cptr.injEq, true_and, and_true] at h
  simp_all
noncomputable def F66 : List V → Option V := tells (fun a => g66 a) eA66 eB66
/- loop.example/g01229/spec.l06ReadAct -/
theorem ok66 : Tells Tryd.prog 66 F66 := by
 refine Tells.go 67 Tryd.func66 rfl rfl rfl (by kernel_rfl) (fun _ => rfl) ?_
 rintro text r h
 simp only [eA66, en, Nat.reduceAdd]
 replace h : (g66 text).bind some = some r := bindS h
 rw [g66] at h
 have hC : CEnv.Ok Tryd.prog [(48, F48), (72, fzF F72), (93, F93), (94, fzF F94), (98, F98)] := ⟨.inl ok48, .inl ok72.fz, .inl ok93, .inl ok94.fz, .inl ok98, trivial⟩
 refine VW.seq (VW.rA (tm 67 [(0, .str text), (2, .ptr 0 0 0)]) [some (3, [[.i .i64 0, .i .i64 0, .i .i64 0]])] [] hC (VW.seq ?_))
 obtain ⟨r1, q2, h⟩ := bindE h
 have c2 := tl72 q2
 replace c2 : fzF F72 [.str text, .i .u8 32] = some (.sl 1 (rows cs_ r1)) := (fzF_eq c2).trans (by simp)
 refine VW.rA (tm 67 [(2, .ptr 0 0 0), (4, .sl 1 (rows cs_ r1))]) [some (3, [[.i .i64 0, .i .i64 0, .i .i64 0]])] [] hC (VW.seq ?_) (h := by simp -implicitDefEqProofs [c2])
 obtain ⟨r3, q4, h⟩ := bindE h
 have c4 : F94 [] = some (.own 1 (rows cs_ r3)) := tells_eq inj94 (a := ()) q4
 replace c4 : fzF F94 [] = some (.sl 1 (rows cs_ r3)) := (fzF_eq c4).trans (by simp)
 refine VW.rA (tm 67 [(2, .ptr 0 0 0), (4, .sl 1 (rows cs_ r1)), (5, .sl 1 (rows cs_ r3))]) [some (3, [[.i .i64 0, .i .i64 0, .i .i64 0]])] [] hC (VW.join (fun (v : Unit) => (⟨(tm 67 [(2, .ptr 0 0 0)]), [some (3, [[.i .i64 0, .i .i64 0, .i .i64 0]])], []⟩ : VS)) (fun v => (g66_j1).bind some = some r) ?_ ?_) (h := by simp -implicitDefEqProofs [c4])
 · refine VW.seq (VW.rA (tm 67 [(2, .ptr 0 0 0), (4, .sl 1 (rows cs_ r1)), (5, .sl 1 (rows cs_ r3)), (6, .i .i64 1)]) [some (3, [[.i .i64 0, .i .i64 0, .i .i64 0]])] [] hC (VW.block (VW.rounds 11 (VRounds.step (VW.seq (VW.seq (VW.rA (tm 67 [(2, .ptr 0 0 0), (4, .sl 1 (rows cs_ r1)), (5, .sl 1 (rows cs_ r3)), (6, .i .i64 1), (17, .b true)]) [some (3, [[.i .i64 0, .i .i64 0, .i .i64 0]])] [] hC (VW.condT (by simp) (VW.skip (VW.seq (VW.block (VW.seq (VW.seq ?_)))))) (h := by simp -implicitDefEqProofs [(by decide : leI 1 9 = true)]))))))))
   obtain ⟨e293, ⟨f294a, f294b, f294c, f294d⟩, h⟩ := bindI h
   try simp only [Int.toNat_natCast, Int.reduceToNat] at f294a f294b f294c f294d
   obtain ⟨e295, ⟨f296a, f296b, f296c, f296d⟩, h⟩ := bindI h
   try simp only [Int.toNat_natCast, Int.reduceToNat] at f296a f296b f296c f296d
   refine VW.rD (tm 67 [(2, .ptr 0 0 0), (4, .sl 1 (rows cs_ r1)), (5, .sl 1 (rows cs_ r3)), (6, .i .i64 1), (27, .b (!eqS e293 e295))]) [some (3, [[.i .i64 0, .i .i64 0, .i .i64 0]])] [] hC mixed (VW.condJ h (fun h => ?_) (fun h => ?_)) (h := by simp -implicitDefEqProofs [f294a, f294b, f294c, f294d, f296a, f296b, f296c, f296d])
   · refine VW.skip (VW.seq (VW.rA (tm 67 [(2, .ptr 0 0 0), (4, .sl 1 (rows cs_ r1)), (6, .i .i64 1), (7, .ptr 1 0 0)]) [some (3, [[.i .i64 0, .i .i64 0, .i .i64 0]]), some (3, [[.i .i64 1, .i .i64 0, .i .i64 0]])] [] hC (VW.seq (VW.rA (tm 67 [(2, .ptr 0 0 0), (4, .sl 1 (rows cs_ r1)), (6, .i .i64 1), (7, .ptr 1 0 0), (8, .i .i64 2)]) [some (3, [[.i .i64 0, .i .i64 0, .i .i64 0]]), some (3, [[.i .i64 1, .i .i64 0, .i .i64 0]])] [] hC (VW.join (fun (v : Int) => (⟨(tm 67 [(2, .ptr 0 0 0), (4, .sl 1 (rows cs_ r1)), (7, .ptr 1 0 0), (8, .i .i64 v)]), [some (3, [[.i .i64 0, .i .i64 0, .i .i64 0]]), some (3, [[.i .i64 1, .i .i64 0, .i .i64 0]])], []⟩ : VS)) (fun v => (g66_j10 r1 (v)).bind some = some r) ?_ ?_)))))
     · refine VW.seq ?_
       obtain ⟨r578, q579, h⟩ := bindE h
       have c579 := tl93 q579
       refine VW.rA (tm 67 [(2, .ptr 0 0 0), (4, .sl 1 (rows cs_ r1)), (7, .ptr 1 0 0), (8, .i .i64 2), (31, .b r578)]) [some (3, [[.i .i64 0, .i .i64 0, .i .i64 0]]), some (3, [[.i .i64 1, .i .i64 0, .i .i64 0]])] [] hC (VW.condJ h (fun h => ?_) (fun h => ?_)) (h := by simp -implicitDefEqProofs [c579])
       · exact VW.skip (vnext 2 h (Ent.tu 2))
       exact VW.rA (tm 67 [(2, .ptr 0 0 0), (4, .sl 1 (rows cs_ r1)), (7, .ptr 1 0 0), (8, .i .i64 3)]) [some (3, [[.i .i64 0, .i .i64 0, .i .i64 0]]), some (3, [[.i .i64 1, .i .i64 0, .i .i64 0]])] [] hC (vnext 3 h (Ent.tu 2))
     rintro want_557 h
     replace h : (g66_j10 r1 want_557).bind _ = _ := h
     rw [g66_j10] at h
     refine VW.seq (VW.seq (VW.rA (tm 67 [(2, .ptr 0 0 0), (4, .sl 1 (rows cs_ r1)), (7, .ptr 1 0 0), (8, .i .i64 want_557), (35, .b (!eqI (r1.length : Int) want_557))]) [some (3, [[.i .i64 0, .i .i64 0, .i .i64 0]]), some (3, [[.i .i64 1, .i .i64 0, .i .i64 0]])] [] hC (VW.condI h (fun h => ?_) (fun h => ?_))))
     · refine VW.seq (VW.rA (tm 67 [(2, .ptr 0 0 0), (3, .b false)]) [some (3, [[.i .i64 0, .i .i64 0, .i .i64 0]]), some (3, [[.i .i64 1, .i .i64 0, .i .i64 0]])] [] hC ?_)
       obtain rfl := leafS h
       exact VW.ret (VRet.fin (by simp [eB66]))
     refine VW.skip (VW.seq ?_)
     obtain ⟨e559, ⟨f560a, f560b, f560c, f560d⟩, h⟩ := bindI h
     try simp only [Int.toNat_natCast, Int.reduceToNat] at f560a f560b f560c f560d
     obtain ⟨r561, q562, h⟩ := bindE h
     have c562 := tl98 q562
     refine VW.rA (tm 67 [(2, .ptr 0 0 0), (4, .sl 1 (rows cs_ r1)), (7, .ptr 1 0 0), (8, .i .i64 want_557), (9, .i .i64 r561.1), (10, .b r561.2)]) [some (3, [[.i .i64 0, .i .i64 0, .i .i64 0]]), some (3, [[.i .i64 1, .i .i64 0, .i .i64 0]])] [] hC (VW.seq (VW.rA (tm 67 [(2, .ptr 0 0 0), (4, .sl 1 (rows cs_ r1)), (7, .ptr 1 0 0), (8, .i .i64 want_557), (10, .b r561.2)]) [some (3, [[.i .i64 0, .i .i64 0, .i .i64 0]]), some (3, [[.i .i64 1, .i .i64 r561.1, .i .i64 0]])] [] hC (VW.seq (VW.seq (VW.rA (tm 67 [(2, .ptr 0 0 0), (4, .sl 1 (rows cs_ r1)), (7, .ptr 1 0 0), (10, .b r561.2), (47, .b (eqI want_557 3))]) [some (3, [[.i .i64 0, .i .i64 0, .i .i64 0]]), some (3, [[.i .i64 1, .i .i64 r561.1, .i .i64 0]])] [] hC (VW.condJ h (fun h => ?_) (fun h => ?_))))))) (h := by simp -implicitDefEqProofs [f560a, f560b, f560c, f560d, c562])
     · refine VW.skip (VW.seq ?_)
       obtain ⟨w575, q576, h⟩ := bindE h
       refine VW.evalGA [[0, 1, 2, 3, 4, 5, 6], [0, 1, 2, 3, 5, 4, 6], [1, 0, 2, 3, 4, 5, 6], [1, 0, 2, 3, 5, 4, 6], [1, 2, 0, 3, 4, 5, 6], [1, 2, 0, 3, 5, 4, 6], [1, 2, 3, 0, 4, 5, 6], [1, 2, 3, 0, 5, 4, 6], [1, 2, 3, 4, 0, 5, 6]] (tm 67 [(2, .ptr 0 0 0), (3, .b w575)]) [some (3, [[.i .i64 1, .i .i64 r561.1, .i .i64 0]]), some (3, [[.i .i64 1, .i .i64 r561.1, .i .i64 0]])] [] hC mixed (by kernel_rfl) (by
           obtain ⟨q577, q576⟩ | ⟨q577, rfl⟩ := gdT q576
           · obtain ⟨r573, q574, q576⟩ := bindQ q576
             have c574 : F48 [.cptr [.i .i64 ((⟨1, r561.1, 0⟩ : T22).kind_), .i .i64 ((⟨1, r561.1, 0⟩ : T22).a_), .i .i64 ((⟨1, r561.1, 0⟩ : T22).b_)] 0] = some (.b r573) := tells_eq inj48 (a := (⟨1, r561.1, 0⟩ : T22)) q574
             obtain rfl := Option.some.inj q576
             simp -implicitDefEqProofs [q577, c574]
           simp -implicitDefEqProofs [q577]) ?_
       obtain rfl := leafS h
       exact VW.ret (VRet.fin (by simp [eB66]))
     refine VW.seq ?_
     obtain ⟨e564, ⟨f565a, f565b, f565c, f565d⟩, h⟩ := bindI h
     try simp only [Int.toNat_natCast, Int.reduceToNat] at f565a f565b f565c f565d
     obtain ⟨r566, q567, h⟩ := bindE h
     have c567 := tl98 q567
     refine VW.rA (tm 67 [(2, .ptr 0 0 0), (7, .ptr 1 0 0), (10, .b r561.2), (11, .i .i64 r566.1), (12, .b r566.2)]) [some (3, [[.i .i64 0, .i .i64 0, .i .i64 0]]), some (3, [[.i .i64 1, .i .i64 r561.1, .i .i64 0]])] [] hC (VW.seq (VW.rA (tm 67 [(2, .ptr 0 0 0), (7, .ptr 1 0 0), (10, .b r561.2), (12, .b r566.2)]) [some (3, [[.i .i64 0, .i .i64 0, .i .i64 0]]), some (3, [[.i .i64 1, .i .i64 r561.1, .i .i64 r566.1]])] [] hC (VW.rA (tm 67 [(2, .ptr 0 0 0), (7, .ptr 1 0 0), (10, .b (r561.2 && r566.2))]) [some (3, [[.i .i64 0, .i .i64 0, .i .i64 0]]), some (3, [[.i .i64 1, .i .i64 r561.1, .i .i64 r566.1]])] [] hC (VW.seq ?_)))) (h := by simp -implicitDefEqProofs [f565a, f565b, f565c, f565d, c567])
     obtain ⟨w570, q571, h⟩ := bindE h
     refine VW.evalGA [[0, 1, 2, 3, 4, 5, 6], [0, 1, 2, 3, 5, 4, 6], [1, 0, 2, 3, 4, 5, 6], [1, 0, 2, 3, 5, 4, 6], [1, 2, 0, 3, 4, 5, 6], [1, 2, 0, 3, 5, 4, 6], [1, 2, 3, 0, 4, 5, 6], [1, 2, 3, 0, 5, 4, 6], [1, 2, 3, 4, 0, 5, 6]] (tm 67 [(2, .ptr 0 0 0), (3, .b w570)]) [some (3, [[.i .i64 1, .i .i64 r561.1, .i .i64 r566.1]]), some (3, [[.i .i64 1, .i .i64 r561.1, .i .i64 r566.1]])] [] hC mixed (by kernel_rfl) (by
         obtain ⟨q572, q571⟩ | ⟨q572, rfl⟩ := gdT q571
         · obtain ⟨r568, q569, q571⟩ := bindQ q571
           have c569 : F48 [.cptr [.i .i64 ((⟨1, r561.1, r566.1⟩ : T22).kind_), .i .i64 ((⟨1, r561.1, r566.1⟩ : T22).a_), .i .i64 ((⟨1, r561.1, r566.1⟩ : T22).b_)] 0] = some (.b r568) := tells_eq inj48 (a := (⟨1, r561.1, r566.1⟩ : T22)) q569
           obtain rfl := Option.some.inj q571
           simp -implicitDefEqProofs [q572, c569]
         simp -implicitDefEqProofs [q572]) ?_
     obtain rfl := leafS h
     exact VW.ret (VRet.fin (by simp [eB66]))
   refine VW.exit (VW.rA (tm 67 [(2, .ptr 0 0 0), (4, .sl 1 (rows cs_ r1)), (5, .sl 1 (rows cs_ r3)), (6, .i .i64 2)]) [some (3, [[.i .i64 0, .i .i64 0, .i .i64 0]])] [] hC (VRounds.step (VW.seq (VW.seq (VW.rA (tm 67 [(2, .ptr 0 0 0), (4, .sl 1 (rows cs_ r1)), (5, .sl 1 (rows cs_ r3)), (6, .i .i64 2), (17, .b true)]) [some (3, [[.i .i64 0, .i .i64 0, .i .i64 0]])] [] hC (VW.condT (by simp) (VW.skip (VW.seq (VW.block (VW.seq (VW.seq ?_)))))) (h := by simp -implicitDefEqProofs [(by decide : leI 2 9 = true)]))))) (h := by simp -implicitDefEqProofs [(by decide : aI .i64 1 1 = 2)]))
   obtain ⟨e298, ⟨f299a, f299b, f299c, f299d⟩, h⟩ := bindI h
   try simp only [Int.toNat_natCast, Int.reduceToNat] at f299a f299b f299c f299d
   obtain ⟨e300, ⟨f301a, f301b, f301c, f301d⟩, h⟩ := bindI h
   try simp only [Int.toNat_natCast, Int.reduceToNat] at f301a f301b f301c f301d
   refine VW.rD (tm 67 [(2, .ptr 0 0 0), (4, .sl 1 (rows cs_ r1)), (5, .sl 1 (rows cs_ r3)), (6, .i .i64 2), (27, .b (!eqS e298 e300))]) [some (3, [[.i .i64 0, .i .i64 0, .i .i64 0]])] [] hC mixed (VW.condJ h (fun h => ?_) (fun h => ?_)) (h := by simp -implicitDefEqProofs [f299a, f299b, f299c, f299d, f301a, f301b, f301c, f301d])
   · refine VW.skip (VW.seq (VW.rA (tm 67 [(2, .ptr 0 0 0), (4, .sl 1 (rows cs_ r1)), (6, .i .i64 2), (7, .ptr 1 0 0)]) [some (3, [[.i .i64 0, .i .i64 0, .i .i64 0]]), some (3, [[.i .i64 2, .i .i64 0, .i .i64 0]])] [] hC (VW.seq (VW.rA (tm 67 [(2, .ptr 0 0 0), (4, .sl 1 (rows cs_ r1)), (6, .i .i64 2), (7, .ptr 1 0 0), (8, .i .i64 2)]) [some (3, [[.i .i64 0, .i .i64 0, .i .i64 0]]), some (3, [[.i .i64 2, .i .i64 0, .i .i64 0]])] [] hC (VW.join (fun (v : Int) => (⟨(tm 67 [(2, .ptr 0 0 0), (4, .sl 1 (rows cs_ r1)), (7, .ptr 1 0 0), (8, .i .i64 v)]), [some (3, [[.i .i64 0, .i .i64 0, .i .i64 0]]), some (3, [[.i .i64 2, .i .i64 0, .i .i64 0]])], []⟩ : VS)) (fun v => (g66_j9 r1 (v)).bind some = some r) ?_ ?_)))))
     · refine VW.seq ?_
       obtain ⟨r551, q552, h⟩ := bindE h
       have c552 := tl93 q552
       refine VW.rA (tm 67 [(2, .ptr 0 0 0), (4, .sl 1 (rows cs_ r1)), (7, .ptr 1 0 0), (8, .i .i64 2), (31, .b r551)]) [some (3, [[.i .i64 0, .i .i64 0, .i .i64 0]]), some (3, [[.i .i64 2, .i .i64 0, .i .i64 0]])] [] hC (VW.condJ h (fun h => ?_) (fun h => ?_)) (h := by simp -implicitDefEqProofs [c552])
       · exact VW.skip (vnext 2 h (Ent.tu 2))
       exact VW.rA (tm 67 [(2, .ptr 0 0 0), (4, .sl 1 (rows cs_ r1)), (7, .ptr 1 0 0), (8, .i .i64 3)]) [some (3, [[.i .i64 0, .i .i64 0, .i .i64 0]]), some (3, [[.i .i64 2, .i .i64 0, .i .i64 0]])] [] hC (vnext 3 h (Ent.tu 2))
     rintro want_530 h
     replace h : (g66_j9 r1 want_530).bind _ = _ := h
     rw [g66_j9] at h
     refine VW.seq (VW.seq (VW.rA (tm 67 [(2, .ptr 0 0 0), (4, .sl 1 (rows cs_ r1)), (7, .ptr 1 0 0), (8, .i .i64 want_530), (35, .b (!eqI (r1.length : Int) want_530))]) [some (3, [[.i .i64 0, .i .i64 0, .i .i64 0]]), some (3, [[.i .i64 2, .i .i64 0, .i .i64 0]])] [] hC (VW.condI h (fun h => ?_) (fun h => ?_))))
     · refine VW.seq (VW.rA (tm 67 [(2, .ptr 0 0 0), (3, .b false)]) [some (3, [[.i .i64 0, .i .i64 0, .i .i64 0]]), some (3, [[.i .i64 2, .i .i64 0, .i .i64 0]])] [] hC ?_)
       obtain rfl := leafS h
       exact VW.ret (VRet.fin (by simp [eB66]))
     refine VW.skip (VW.seq ?_)
     obtain ⟨e532, ⟨f533a, f533b, f533c, f533d⟩, h⟩ := bindI h
     try simp only [Int.toNat_natCast, Int.reduceToNat] at f533a f533b f533c f533d
     obtain ⟨r534, q535, h⟩ := bindE h
     have c535 := tl98 q535
     refine VW.rA (tm 67 [(2, .ptr 0 0 0), (4, .sl 1 (rows cs_ r1)), (7, .ptr 1 0 0), (8, .i .i64 want_530), (9, .i .i64 r534.1), (10, .b r534.2)]) [some (3, [[.i .i64 0, .i .i64 0, .i .i64 0]]), some (3, [[.i .i64 2, .i .i64 0, .i .i64 0]])] [] hC (VW.seq (VW.rA (tm 67 [(2, .ptr 0 0 0), (4, .sl 1 (rows cs_ r1)), (7, .ptr 1 0 0), (8, .i .i64 want_530), (10, .b r534.2)]) [some (3, [[.i .i64 0, .i .i64 0, .i .i64 0]]), some (3, [[.i .i64 2, .i .i64 r534.1, .i .i64 0]])] [] hC (VW.seq (VW.seq (VW.rA (tm 67 [(2, .ptr 0 0 0), (4, .sl 1 (rows cs_ r1)), (7, .ptr 1 0 0), (10, .b r534.2), (47, .b (eqI want_530 3))]) [some (3, [[.i .i64 0, .i .i64 0, .i .i64 0]]), some (3, [[.i .i64 2, .i .i64 r534.1, .i .i64 0]])] [] hC (VW.condJ h (fun h => ?_) (fun h => ?_))))))) (h := by simp -implicitDefEqProofs [f533a, f533b, f533c, f533d, c535])
     · refine VW.skip (VW.seq ?_)
       obtain ⟨w548, q549, h⟩ := bindE h
       refine VW.evalGA [[0, 1, 2, 3, 4, 5, 6], [0, 1, 2, 3, 5, 4, 6], [1, 0, 2, 3, 4, 5, 6], [1, 0, 2, 3, 5, 4, 6], [1, 2, 0, 3, 4, 5, 6], [1, 2, 0, 3, 5, 4, 6], [1, 2, 3, 0, 4, 5, 6], [1, 2, 3, 0, 5, 4, 6], [1, 2, 3, 4, 0, 5, 6]] (tm 67 [(2, .ptr 0 0 0), (3, .b w548)]) [some (3, [[.i .i64 2, .i .i64 r534.1, .i .i64 0]]), some (3, [[.i .i64 2, .i .i64 r534.1, .i .i64 0]])] [] hC mixed (by kernel_rfl) (by
           obtain ⟨q550, q549⟩ | ⟨q550, rfl⟩ := gdT q549
           · obtain ⟨r546, q547, q549⟩ := bindQ q549
             have c547 : F48 [.cptr [.i .i64 ((⟨2, r534.1, 0⟩ : T22).kind_), .i .i64 ((⟨2, r534.1, 0⟩ : T22).a_), .i .i64 ((⟨2, r534.1, 0⟩ : T22).b_)] 0] = some (.b r546) := tells_eq inj48 (a := (⟨2, r534.1, 0⟩ : T22)) q547
             obtain rfl := Option.some.inj q549
             simp -implicitDefEqProofs [q550, c547]
           simp -implicitDefEqProofs [q550]) ?_
       obtain rfl := leafS h
       exact VW.ret (VRet.fin (by simp [eB66]))
     refine VW.seq ?_
     obtain ⟨e537, ⟨f538a, f538b, f538c, f538d⟩, h⟩ := bindI h
     try simp only [Int.toNat_natCast, Int.reduceToNat] at f538a f538b f538c f538d
     obtain ⟨r539, q540, h⟩ := bindE h
     have c540 := tl98 q540
     refine VW.rA (tm 67 [(2, .ptr 0 0 0), (7, .ptr 1 0 0), (10, .b r534.2), (11, .i .i64 r539.1), (12, .b r539.2)]) [some (3, [[.i .i64 0, .i .i64 0, .i .i64 0]]), some (3, [[.i .i64 2, .i .i64 r534.1, .i .i64 0]])] [] hC (VW.seq (VW.rA (tm 67 [(2, .ptr 0 0 0), (7, .ptr 1 0 0), (10, .b r534.2), (12, .b r539.2)]) [some (3, [[.i .i64 0, .i .i64 0, .i .i64 0]]), some (3, [[.i .i64 2, .i .i64 r534.1, .i .i64 r539.1]])] [] hC (VW.rA (tm 67 [(2, .ptr 0 0 0), (7, .ptr 1 0 0), (10, .b (r534.2 && r539.2))]) [some (3, [[.i .i64 0, .i .i64 0, .i .i64 0]]), some (3, [[.i .i64 2, .i .i64 r534.1, .i .i64 r539.1]])] [] hC (VW.seq ?_)))) (h := by simp -implicitDefEqProofs [f538a, f538b, f538c, f538d, c540])
     obtain ⟨w543, q544, h⟩ := bindE h
     refine VW.evalGA [[0, 1, 2, 3, 4, 5, 6], [0, 1, 2, 3, 5, 4, 6], [1, 0, 2, 3, 4, 5, 6], [1, 0, 2, 3, 5, 4, 6], [1, 2, 0, 3, 4, 5, 6], [1, 2, 0, 3, 5, 4, 6], [1, 2, 3, 0, 4, 5, 6], [1, 2, 3, 0, 5, 4, 6], [1, 2, 3, 4, 0, 5, 6]] (tm 67 [(2, .ptr 0 0 0), (3, .b w543)]) [some (3, [[.i .i64 2, .i .i64 r534.1, .i .i64 r539.1]]), some (3, [[.i .i64 2, .i .i64 r534.1, .i .i64 r539.1]])] [] hC mixed (by kernel_rfl) (by
         obtain ⟨q545, q544⟩ | ⟨q545, rfl⟩ := gdT q544
         · obtain ⟨r541, q542, q544⟩ := bindQ q544
           have c542 : F48 [.cptr [.i .i64 ((⟨2, r534.1, r539.1⟩ : T22).kind_), .i .i64 ((⟨2, r534.1, r539.1⟩ : T22).a_), .i .i64 ((⟨2, r534.1, r539.1⟩ : T22).b_)] 0] = some (.b r541) := tells_eq inj48 (a := (⟨2, r534.1, r539.1⟩ : T22)) q542
           obtain rfl := Option.some.inj q544
           simp -implicitDefEqProofs [q545, c542]
         simp -implicitDefEqProofs [q545]) ?_
     obtain rfl := leafS h
     exact VW.ret (VRet.fin (by simp [eB66]))
   refine VW.exit (VW.rA (tm 67 [(2, .ptr 0 0 0), (4, .sl 1 (rows cs_ r1)), (5, .sl 1 (rows cs_ r3)), (6, .i .i64 3)]) [some (3, [[.i .i64 0, .i .i64 0, .i .i64 0]])] [] hC (VRounds.step (VW.seq (VW.seq (VW.rA (tm 67 [(2, .ptr 0 0 0), (4, .sl 1 (rows cs_ r1)), (5, .sl 1 (rows cs_ r3)), (6, .i .i64 3), (17, .b true)]) [some (3, [[.i .i64 0, .i .i64 0, .i .i64 0]])] [] hC (VW.condT (by simp) (VW.skip (VW.seq (VW.block (VW.seq (VW.seq ?_)))))) (h := by simp -implicitDefEqProofs [(by decide : leI 3 9 = true)]))))) (h := by simp -implicitDefEqProofs [(by decide : aI .i64 2 1 = 3)]))
   obtain ⟨e303, ⟨f304a, f304b, f304c, f304d⟩, h⟩ := bindI h
   try simp only [Int.toNat_natCast, Int.reduceToNat] at f304a f304b f304c f304d
   obtain ⟨e305, ⟨f306a, f306b, f306c, f306d⟩, h⟩ := bindI h
   try simp only [Int.toNat_natCast, Int.reduceToNat] at f306a f306b f306c f306d
   refine VW.rD (tm 67 [(2, .ptr 0 0 0), (4, .sl 1 (rows cs_ r1)), (5, .sl 1 (rows cs_ r3)), (6, .i .i64 3), (27, .b (!eqS e303 e305))]) [some (3, [[.i .i64 0, .i .i64 0, .i .i64 0]])] [] hC mixed (VW.condJ h (fun h => ?_) (fun h => ?_)) (h := by simp -implicitDefEqProofs [f304a, f304b, f304c, f304d, f306a, f306b, f306c, f306d])
   · refine VW.skip (VW.seq (VW.rA (tm 67 [(2, .ptr 0 0 0), (4, .sl 1 (rows cs_ r1)), (6, .i .i64 3), (7, .ptr 1 0 0)]) [some (3, [[.i .i64 0, .i .i64 0, .i .i64 0]]), some (3, [[.i .i64 3, .i .i64 0, .i .i64 0]])] [] hC (VW.seq (VW.rA (tm 67 [(2, .ptr 0 0 0), (4, .sl 1 (rows cs_ r1)), (6, .i .i64 3), (7, .ptr 1 0 0), (8, .i .i64 2)]) [some (3, [[.i .i64 0, .i .i64 0, .i .i64 0]]), some (3, [[.i .i64 3, .i .i64 0, .i .i64 0]])] [] hC (VW.join (fun (v : Int) => (⟨(tm 67 [(2, .ptr 0 0 0), (4, .sl 1 (rows cs_ r1)), (7, .ptr 1 0 0), (8, .i .i64 v)]), [some (3, [[.i .i64 0, .i .i64 0, .i .i64 0]]), some (3, [[.i .i64 3, .i .i64 0, .i .i64 0]])], []⟩ : VS)) (fun v => (g66_j8 r1 (v)).bind some = some r) ?_ ?_)))))
     · refine VW.seq ?_
       obtain ⟨r524, q525, h⟩ := bindE h
       have c525 := tl93 q525
       refine VW.rA (tm 67 [(2, .ptr 0 0 0), (4, .sl 1 (rows cs_ r1)), (7, .ptr 1 0 0), (8, .i .i64 2), (31, .b r524)]) [some (3, [[.i .i64 0, .i .i64 0, .i .i64 0]]), some (3, [[.i .i64 3, .i .i64 0, .i .i64 0]])] [] hC (VW.condJ h (fun h => ?_) (fun h => ?_)) (h := by simp -implicitDefEqProofs [c525])
       · exact VW.skip (vnext 2 h (Ent.tu 2))
       exact VW.rA (tm 67 [(2, .ptr 0 0 0), (4, .sl 1 (rows cs_ r1)), (7, .ptr 1 0 0), (8, .i .i64 3)]) [some (3, [[.i .i64 0, .i .i64 0, .i .i64 0]]), some (3, [[.i .i64 3, .i .i64 0, .i .i64 0]])] [] hC (vnext 3 h (Ent.tu 2))
     rintro want_503 h
     replace h : (g66_j8 r1 want_503).bind _ = _ := h
     rw [g66_j8] at h
     refine VW.seq (VW.seq (VW.rA (tm 67 [(2, .ptr 0 0 0), (4, .sl 1 (rows cs_ r1)), (7, .ptr 1 0 0), (8, .i .i64 want_503), (35, .b (!eqI (r1.length : Int) want_503))]) [some (3, [[.i .i64 0, .i .i64 0, .i .i64 0]]), some (3, [[.i .i64 3, .i .i64 0, .i .i64 0]])] [] hC (VW.condI h (fun h => ?_) (fun h => ?_))))
     · refine VW.seq (VW.rA (tm 67 [(2, .ptr 0 0 0), (3, .b false)]) [some (3, [[.i .i64 0, .i .i64 0, .i .i64 0]]), some (3, [[.i .i64 3, .i .i64 0, .i .i64 0]])] [] hC ?_)
       obtain rfl := leafS h
       exact VW.ret (VRet.fin (by simp [eB66]))
     refine VW.skip (VW.seq ?_)
     obtain ⟨e505, ⟨f506a, f506b, f506c, f506d⟩, h⟩ := bindI h
     try simp only [Int.toNat_natCast, Int.reduceToNat] at f506a f506b f506c f506d
     obtain ⟨r507, q508, h⟩ := bindE h
     have c508 := tl98 q508
     refine VW.rA (tm 67 [(2, .ptr 0 0 0), (4, .sl 1 (rows cs_ r1)), (7, .ptr 1 0 0), (8, .i .i64 want_503), (9, .i .i64 r507.1), (10, .b r507.2)]) [some (3, [[.i .i64 0, .i .i64 0, .i .i64 0]]), some (3, [[.i .i64 3, .i .i64 0, .i .i64 0]])] [] hC (VW.seq (VW.rA (tm 67 [(2, .ptr 0 0 0), (4, .sl 1 (rows cs_ r1)), (7, .ptr 1 0 0), (8, .i .i64 want_503), (10, .b r507.2)]) [some (3, [[.i .i64 0, .i .i64 0, .i .i64 0]]), some (3, [[.i .i64 3, .i .i64 r507.1, .i .i64 0]])] [] hC (VW.seq (VW.seq (VW.rA (tm 67 [(2, .ptr 0 0 0), (4, .sl 1 (rows cs_ r1)), (7, .ptr 1 0 0), (10, .b r507.2), (47, .b (eqI want_503 3))]) [some (3, [[.i .i64 0, .i .i64 0, .i .i64 0]]), some (3, [[.i .i64 3, .i .i64 r507.1, .i .i64 0]])] [] hC (VW.condJ h (fun h => ?_) (fun h => ?_))))))) (h := by simp -implicitDefEqProofs [f506a, f506b, f506c, f506d, c508])
     · refine VW.skip (VW.seq ?_)
       obtain ⟨w521, q522, h⟩ := bindE h
       refine VW.evalGA [[0, 1, 2, 3, 4, 5, 6], [0, 1, 2, 3, 5, 4, 6], [1, 0, 2, 3, 4, 5, 6], [1, 0, 2, 3, 5, 4, 6], [1, 2, 0, 3, 4, 5, 6], [1, 2, 0, 3, 5, 4, 6], [1, 2, 3, 0, 4, 5, 6], [1, 2, 3, 0, 5, 4, 6], [1, 2, 3, 4, 0, 5, 6]] (tm 67 [(2, .ptr 0 0 0), (3, .b w521)]) [some (3, [[.i .i64 3, .i .i64 r507.1, .i .i64 0]]), some (3, [[.i .i64 3, .i .i64 r507.1, .i .i64 0]])] [] hC mixed (by kernel_rfl) (by
           obtain ⟨q523, q522⟩ | ⟨q523, rfl⟩ := gdT q522
           · obtain ⟨r519, q520, q522⟩ := bindQ q522
             have c520 : F48 [.cptr [.i .i64 ((⟨3, r507.1, 0⟩ : T22).kind_), .i .i64 ((⟨3, r507.1, 0⟩ : T22).a_), .i .i64 ((⟨3, r507.1, 0⟩ : T22).b_)] 0] = some (.b r519) := tells_eq inj48 (a := (⟨3, r507.1, 0⟩ : T22)) q520
             obtain rfl := Option.some.inj q522
             simp -implicitDefEqProofs [q523, c520]
           simp -implicitDefEqProofs [q523]) ?_
       obtain rfl := leafS h
       exact VW.ret (VRet.fin (by simp [eB66]))
     refine VW.seq ?_
     obtain ⟨e510, ⟨f511a, f511b, f511c, f511d⟩, h⟩ := bindI h
     try simp only [Int.toNat_natCast, Int.reduceToNat] at f511a f511b f511c f511d
     obtain ⟨r512, q513, h⟩ := bindE h
     have c513 := tl98 q513
     refine VW.rA (tm 67 [(2, .ptr 0 0 0), (7, .ptr 1 0 0), (10, .b r507.2), (11, .i .i64 r512.1), (12, .b r512.2)]) [some (3, [[.i .i64 0, .i .i64 0, .i .i64 0]]), some (3, [[.i .i64 3, .i .i64 r507.1, .i .i64 0]])] [] hC (VW.seq (VW.rA (tm 67 [(2, .ptr 0 0 0), (7, .ptr 1 0 0), (10, .b r507.2), (12, .b r512.2)]) [some (3, [[.i .i64 0, .i .i64 0, .i .i64 0]]), some (3, [[.i .i64 3, .i .i64 r507.1, .i .i64 r512.1]])] [] hC (VW.rA (tm 67 [(2, .ptr 0 0 0), (7, .ptr 1 0 0), (10, .b (r507.2 && r512.2))]) [some (3, [[.i .i64 0, .i .i64 0, .i .i64 0]]), some (3, [[.i .i64 3, .i .i64 r507.1, .i .i64 r512.1]])] [] hC (VW.seq ?_)))) (h := by simp -implicitDefEqProofs [f511a, f511b, f511c, f511d, c513])
     obtain ⟨w516, q517, h⟩ := bindE h
     refine VW.evalGA [[0, 1, 2, 3, 4, 5, 6], [0, 1, 2, 3, 5, 4, 6], [1, 0, 2, 3, 4, 5, 6], [1, 0, 2, 3, 5, 4, 6], [1, 2, 0, 3, 4, 5, 6], [1, 2, 0, 3, 5, 4, 6], [1, 2, 3, 0, 4, 5, 6], [1, 2, 3, 0, 5, 4, 6], [1, 2, 3, 4, 0, 5, 6]] (tm 67 [(2, .ptr 0 0 0), (3, .b w516)]) [some (3, [[.i .i64 3, .i .i64 r507.1, .i .i64 r512.1]]), some (3, [[.i .i64 3, .i .i64 r507.1, .i .i64 r512.1]])] [] hC mixed (by kernel_rfl) (by
         obtain ⟨q518, q517⟩ | ⟨q518, rfl⟩ := gdT q517
         · obtain ⟨r514, q515, q517⟩ := bindQ q517
           have c515 : F48 [.cptr [.i .i64 ((⟨3, r507.1, r512.1⟩ : T22).kind_), .i .i64 ((⟨3, r507.1, r512.1⟩ : T22).a_), .i .i64 ((⟨3, r507.1, r512.1⟩ : T22).b_)] 0] = some (.b r514) := tells_eq inj48 (a := (⟨3, r507.1, r512.1⟩ : T22)) q515
           obtain rfl := Option.some.inj q517
           simp -implicitDefEqProofs [q518, c515]
         simp -implicitDefEqProofs [q518]) ?_
     obtain rfl := leafS h
     exact VW.ret (VRet.fin (by simp [eB66]))
   refine VW.exit (VW.rA (tm 67 [(2, .ptr 0 0 0), (4, .sl 1 (rows cs_ r1)), (5, .sl 1 (rows cs_ r3)), (6, .i .i64 4)]) [some (3, [[.i .i64 0, .i .i64 0, .i .i64 0]])] [] hC (VRounds.step (VW.seq (VW.seq (VW.rA (tm 67 [(2, .ptr 0 0 0), (4, .sl 1 (rows cs_ r1)), (5, .sl 1 (rows cs_ r3)), (6, .i .i64 4), (17, .b true)]) [some (3, [[.i .i64 0, .i .i64 0, .i .i64 0]])] [] hC (VW.condT (by simp) (VW.skip (VW.seq (VW.block (VW.seq (VW.seq ?_)))))) (h := by simp -implicitDefEqProofs [(by decide : leI 4 9 = true)]))))) (h := by simp -implicitDefEqProofs [(by decide : aI .i64 3 1 = 4)]))
   obtain ⟨e308, ⟨f309a, f309b, f309c, f309d⟩, h⟩ := bindI h
   try simp only [Int.toNat_natCast, Int.reduceToNat] at f309a f309b f309c f309d
   obtain ⟨e310, ⟨f311a, f311b, f311c, f311d⟩, h⟩ := bindI h
   try simp only [Int.toNat_natCast, Int.reduceToNat] at f311a f311b f311c f311d
   refine VW.rD (tm 67 [(2, .ptr 0 0 0), (4, .sl 1 (rows cs_ r1)), (5, .sl 1 (rows cs_ r3)), (6, .i .i64 4), (27, .b (!eqS e308 e310))]) [some (3, [[.i .i64 0, .i .i64 0, .i .i64 0]])] [] hC mixed (VW.condJ h (fun h => ?_) (fun h => ?_)) (h := by simp -implicitDefEqProofs [f309a, f309b, f309c, f309d, f311a, f311b, f311c, f311d])
   · refine VW.skip (VW.seq (VW.rA (tm 67 [(2, .ptr 0 0 0), (4, .sl 1 (rows cs_ r1)), (6, .i .i64 4), (7, .ptr 1 0 0)]) [some (3, [[.i .i64 0, .i .i64 0, .i .i64 0]]), some (3, [[.i .i64 4, .i .i64 0, .i .i64 0]])] [] hC (VW.seq (VW.rA (tm 67 [(2, .ptr 0 0 0), (4, .sl 1 (rows cs_ r1)), (6, .i .i64 4), (7, .ptr 1 0 0), (8, .i .i64 2)]) [some (3, [[.i .i64 0, .i .i64 0, .i .i64 0]]), some (3, [[.i .i64 4, .i .i64 0, .i .i64 0]])] [] hC (VW.join (fun (v : Int) => (⟨(tm 67 [(2, .ptr 0 0 0), (4, .sl 1 (rows cs_ r1)), (7, .ptr 1 0 0), (8, .i .i64 v)]), [some (3, [[.i .i64 0, .i .i64 0, .i .i64 0]]), some (3, [[.i .i64 4, .i .i64 0, .i .i64 0]])], []⟩ : VS)) (fun v => (g66_j7 r1 (v)).bind some = some r) ?_ ?_)))))
     · refine VW.seq ?_
       obtain ⟨r497, q498, h⟩ := bindE h
       have c498 := tl93 q498
       refine VW.rA (tm 67 [(2, .ptr 0 0 0), (4, .sl 1 (rows cs_ r1)), (7, .ptr 1 0 0), (8, .i .i64 2), (31, .b r497)]) [some (3, [[.i .i64 0, .i .i64 0, .i .i64 0]]), some (3, [[.i .i64 4, .i .i64 0, .i .i64 0]])] [] hC (VW.condJ h (fun h => ?_) (fun h => ?_)) (h := by simp -implicitDefEqProofs [c498])
       · exact VW.skip (vnext 2 h (Ent.tu 2))
       exact VW.rA (tm 67 [(2, .ptr 0 0 0), (4, .sl 1 (rows cs_ r1)), (7, .ptr 1 0 0), (8, .i .i64 3)]) [some (3, [[.i .i64 0, .i .i64 0, .i .i64 0]]), some (3, [[.i .i64 4, .i .i64 0, .i .i64 0]])] [] hC (vnext 3 h (Ent.tu 2))
     rintro want_476 h
     replace h : (g66_j7 r1 want_476).bind _ = _ := h
     rw [g66_j7] at h
     refine VW.seq (VW.seq (VW.rA (tm 67 [(2, .ptr 0 0 0), (4, .sl 1 (rows cs_ r1)), (7, .ptr 1 0 0), (8, .i .i64 want_476), (35, .b (!eqI (r1.length : Int) want_476))]) [some (3, [[.i .i64 0, .i .i64 0, .i .i64 0]]), some (3, [[.i .i64 4, .i .i64 0, .i .i64 0]])] [] hC (VW.condI h (fun h => ?_) (fun h => ?_))))
     · refine VW.seq (VW.rA (tm 67 [(2, .ptr 0 0 0), (3, .b false)]) [some (3, [[.i .i64 0, .i .i64 0, .i .i64 0]]), some (3, [[.i .i64 4, .i .i64 0, .i .i64 0]])] [] hC ?_)
       obtain rfl := leafS h
       exact VW.ret (VRet.fin (by simp [eB66]))
     refine VW.skip (VW.seq ?_)
     obtain ⟨e478, ⟨f479a, f479b, f479c, f479d⟩, h⟩ := bindI h
     try simp only [Int.toNat_natCast, Int.reduceToNat] at f479a f479b f479c f479d
     obtain ⟨r480, q481, h⟩ := bindE h
     have c481 := tl98 q481
     refine VW.rA (tm 67 [(2, .ptr 0 0 0), (4, .sl 1 (rows cs_ r1)), (7, .ptr 1 0 0), (8, .i .i64 want_476), (9, .i .i64 r480.1), (10, .b r480.2)]) [some (3, [[.i .i64 0, .i .i64 0, .i .i64 0]]), some (3, [[.i .i64 4, .i .i64 0, .i .i64 0]])] [] hC (VW.seq (VW.rA (tm 67 [(2, .ptr 0 0 0), (4, .sl 1 (rows cs_ r1)), (7, .ptr 1 0 0), (8, .i .i64 want_476), (10, .b r480.2)]) [some (3, [[.i .i64 0, .i .i64 0, .i .i64 0]]), some (3, [[.i .i64 4, .i .i64 r480.1, .i .i64 0]])] [] hC (VW.seq (VW.seq (VW.rA (tm 67 [(2, .ptr 0 0 0), (4, .sl 1 (rows cs_ r1)), (7, .ptr 1 0 0), (10, .b r480.2), (47, .b (eqI want_476 3))]) [some (3, [[.i .i64 0, .i .i64 0, .i .i64 0]]), some (3, [[.i .i64 4, .i .i64 r480.1, .i .i64 0]])] [] hC (VW.condJ h (fun h => ?_) (fun h => ?_))))))) (h := by simp -implicitDefEqProofs [f479a, f479b, f479c, f479d, c481])
     · refine VW.skip (VW.seq ?_)
       obtain ⟨w494, q495, h⟩ := bindE h
       refine VW.evalGA [[0, 1, 2, 3, 4, 5, 6], [0, 1, 2, 3, 5, 4, 6], [1, 0, 2, 3, 4, 5, 6], [1, 0, 2, 3, 5, 4, 6], [1, 2, 0, 3, 4, 5, 6], [1, 2, 0, 3, 5, 4, 6], [1, 2, 3, 0, 4, 5, 6], [1, 2, 3, 0, 5, 4, 6], [1, 2, 3, 4, 0, 5, 6]] (tm 67 [(2, .ptr 0 0 0), (3, .b w494)]) [some (3, [[.i .i64 4, .i .i64 r480.1, .i .i64 0]]), some (3, [[.i .i64 4, .i .i64 r480.1, .i .i64 0]])] [] hC mixed (by kernel_rfl) (by
           obtain ⟨q496, q495⟩ | ⟨q496, rfl⟩ := gdT q495
           · obtain ⟨r492, q493, q495⟩ := bindQ q495
             have c493 : F48 [.cptr [.i .i64 ((⟨4, r480.1, 0⟩ : T22).kind_), .i .i64 ((⟨4, r480.1, 0⟩ : T22).a_), .i .i64 ((⟨4, r480.1, 0⟩ : T22).b_)] 0] = some (.b r492) := tells_eq inj48 (a := (⟨4, r480.1, 0⟩ : T22)) q493
             obtain rfl := Option.some.inj q495
             simp -implicitDefEqProofs [q496, c493]
           simp -implicitDefEqProofs [q496]) ?_
       obtain rfl := leafS h
       exact VW.ret (VRet.fin (by simp [eB66]))
     refine VW.seq ?_
     obtain ⟨e483, ⟨f484a, f484b, f484c, f484d⟩, h⟩ := bindI h
     try simp only [Int.toNat_natCast, Int.reduceToNat] at f484a f484b f484c f484d
     obtain ⟨r485, q486, h⟩ := bindE h
     have c486 := tl98 q486
     refine VW.rA (tm 67 [(2, .ptr 0 0 0), (7, .ptr 1 0 0), (10, .b r480.2), (11, .i .i64 r485.1), (12, .b r485.2)]) [some (3, [[.i .i64 0, .i .i64 0, .i .i64 0]]), some (3, [[.i .i64 4, .i .i64 r480.1, .i .i64 0]])] [] hC (VW.seq (VW.rA (tm 67 [(2, .ptr 0 0 0), (7, .ptr 1 0 0), (10, .b r480.2), (12, .b r485.2)]) [some (3, [[.i .i64 0, .i .i64 0, .i .i64 0]]), some (3, [[.i .i64 4, .i .i64 r480.1, .i .i64 r485.1]])] [] hC (VW.rA (tm 67 [(2, .ptr 0 0 0), (7, .ptr 1 0 0), (10, .b (r480.2 && r485.2))]) [some (3, [[.i .i64 0, .i .i64 0, .i .i64 0]]), some (3, [[.i .i64 4, .i .i64 r480.1, .i .i64 r485.1]])] [] hC (VW.seq ?_)))) (h := by simp -implicitDefEqProofs [f484a, f484b, f484c, f484d, c486])
     obtain ⟨w489, q490, h⟩ := bindE h
     refine VW.evalGA [[0, 1, 2, 3, 4, 5, 6], [0, 1, 2, 3, 5, 4, 6], [1, 0, 2, 3, 4, 5, 6], [1, 0, 2, 3, 5, 4, 6], [1, 2, 0, 3, 4, 5, 6], [1, 2, 0, 3, 5, 4, 6], [1, 2, 3, 0, 4, 5, 6], [1, 2, 3, 0, 5, 4, 6], [1, 2, 3, 4, 0, 5, 6]] (tm 67 [(2, .ptr 0 0 0), (3, .b w489)]) [some (3, [[.i .i64 4, .i .i64 r480.1, .i .i64 r485.1]]), some (3, [[.i .i64 4, .i .i64 r480.1, .i .i64 r485.1]])] [] hC mixed (by kernel_rfl) (by
         obtain ⟨q491, q490⟩ | ⟨q491, rfl⟩ := gdT q490
         · obtain ⟨r487, q488, q490⟩ := bindQ q490
           have c488 : F48 [.cptr [.i .i64 ((⟨4, r480.1, r485.1⟩ : T22).kind_), .i .i64 ((⟨4, r480.1, r485.1⟩ : T22).a_), .i .i64 ((⟨4, r480.1, r485.1⟩ : T22).b_)] 0] = some (.b r487) := tells_eq inj48 (a := (⟨4, r480.1, r485.1⟩ : T22)) q488
           obtain rfl := Option.some.inj q490
           simp -implicitDefEqProofs [q491, c488]
         simp -implicitDefEqProofs [q491]) ?_
     obtain rfl := leafS h
     exact VW.ret (VRet.fin (by simp [eB66]))
   refine VW.exit (VW.rA (tm 67 [(2, .ptr 0 0 0), (4, .sl 1 (rows cs_ r1)), (5, .sl 1 (rows cs_ r3)), (6, .i .i64 5)]) [some (3, [[.i .i64 0, .i .i64 0, .i .i64 0]])] [] hC (VRounds.step (VW.seq (VW.seq (VW.rA (tm 67 [(2, .ptr 0 0 0), (4, .sl 1 (rows cs_ r1)), (5, .sl 1 (rows cs_ r3)), (6, .i .i64 5), (17, .b true)]) [some (3, [[.i .i64 0, .i .i64 0, .i .i64 0]])] [] hC (VW.condT (by simp) (VW.skip (VW.seq (VW.block (VW.seq (VW.seq ?_)))))) (h := by simp -implicitDefEqProofs [(by decide : leI 5 9 = true)]))))) (h := by simp -implicitDefEqProofs [(by decide : aI .i64 4 1 = 5)]))
   obtain ⟨e313, ⟨f314a, f314b, f314c, f314d⟩, h⟩ := bindI h
   try simp only [Int.toNat_natCast, Int.reduceToNat] at f314a f314b f314c f314d
   obtain ⟨e315, ⟨f316a, f316b, f316c, f316d⟩, h⟩ := bindI h
   try simp only [Int.toNat_natCast, Int.reduceToNat] at f316a f316b f316c f316d
   refine VW.rD (tm 67 [(2, .ptr 0 0 0), (4, .sl 1 (rows cs_ r1)), (5, .sl 1 (rows cs_ r3)), (6, .i .i64 5), (27, .b (!eqS e313 e315))]) [some (3, [[.i .i64 0, .i .i64 0, .i .i64 0]])] [] hC mixed (VW.condJ h (fun h => ?_) (fun h => ?_)) (h := by simp -implicitDefEqProofs [f314a, f314b, f314c, f314d, f316a, f316b, f316c, f316d])
   · refine VW.skip (VW.seq (VW.rA (tm 67 [(2, .ptr 0 0 0), (4, .sl 1 (rows cs_ r1)), (6, .i .i64 5), (7, .ptr 1 0 0)]) [some (3, [[.i .i64 0, .i .i64 0, .i .i64 0]]), some (3, [[.i .i64 5, .i .i64 0, .i .i64 0]])] [] hC (VW.seq (VW.rA (tm 67 [(2, .ptr 0 0 0), (4, .sl 1 (rows cs_ r1)), (6, .i .i64 5), (7, .ptr 1 0 0), (8, .i .i64 2)]) [some (3, [[.i .i64 0, .i .i64 0, .i .i64 0]]), some (3, [[.i .i64 5, .i .i64 0, .i .i64 0]])] [] hC (VW.join (fun (v : Int) => (⟨(tm 67 [(2, .ptr 0 0 0), (4, .sl 1 (rows cs_ r1)), (7, .ptr 1 0 0), (8, .i .i64 v)]), [some (3, [[.i .i64 0, .i .i64 0, .i .i64 0]]), some (3, [[.i .i64 5, .i .i64 0, .i .i64 0]])], []⟩ : VS)) (fun v => (g66_j6 r1 (v)).bind some = some r) ?_ ?_)))))
     · refine VW.seq ?_
       obtain ⟨r470, q471, h⟩ := bindE h
       have c471 := tl93 q471
       refine VW.rA (tm 67 [(2, .ptr 0 0 0), (4, .sl 1 (rows cs_ r1)), (7, .ptr 1 0 0), (8, .i .i64 2), (31, .b r470)]) [some (3, [[.i .i64 0, .i .i64 0, .i .i64 0]]), some (3, [[.i .i64 5, .i .i64 0, .i .i64 0]])] [] hC (VW.condJ h (fun h => ?_) (fun h => ?_)) (h := by simp -implicitDefEqProofs [c471])
       · exact VW.skip (vnext 2 h (Ent.tu 2))
       exact VW.rA (tm 67 [(2, .ptr 0 0 0), (4, .sl 1 (rows cs_ r1)), (7, .ptr 1 0 0), (8, .i .i64 3)]) [some (3, [[.i .i64 0, .i .i64 0, .i .i64 0]]), some (3, [[.i .i64 5, .i .i64 0, .i .i64 0]])] [] hC (vnext 3 h (Ent.tu 2))
     rintro want_449 h
     replace h : (g66_j6 r1 want_449).bind _ = _ := h
     rw [g66_j6] at h
     refine VW.seq (VW.seq (VW.rA (tm 67 [(2, .ptr 0 0 0), (4, .sl 1 (rows cs_ r1)), (7, .ptr 1 0 0), (8, .i .i64 want_449), (35, .b (!eqI (r1.length : Int) want_449))]) [some (3, [[.i .i64 0, .i .i64 0, .i .i64 0]]), some (3, [[.i .i64 5, .i .i64 0, .i .i64 0]])] [] hC (VW.condI h (fun h => ?_) (fun h => ?_))))
     · refine VW.seq (VW.rA (tm 67 [(2, .ptr 0 0 0), (3, .b false)]) [some (3, [[.i .i64 0, .i .i64 0, .i .i64 0]]), some (3, [[.i .i64 5, .i .i64 0, .i .i64 0]])] [] hC ?_)
       obtain rfl := leafS h
       exact VW.ret (VRet.fin (by simp [eB66]))
     refine VW.skip (VW.seq ?_)
     obtain ⟨e451, ⟨f452a, f452b, f452c, f452d⟩, h⟩ := bindI h
     try simp only [Int.toNat_natCast, Int.reduceToNat] at f452a f452b f452c f452d
     obtain ⟨r453, q454, h⟩ := bindE h
     have c454 := tl98 q454
     refine VW.rA (tm 67 [(2, .ptr 0 0 0), (4, .sl 1 (rows cs_ r1)), (7, .ptr 1 0 0), (8, .i .i64 want_449), (9, .i .i64 r453.1), (10, .b r453.2)]) [some (3, [[.i .i64 0, .i .i64 0, .i .i64 0]]), some (3, [[.i .i64 5, .i .i64 0, .i .i64 0]])] [] hC (VW.seq (VW.rA (tm 67 [(2, .ptr 0 0 0), (4, .sl 1 (rows cs_ r1)), (7, .ptr 1 0 0), (8, .i .i64 want_449), (10, .b r453.2)]) [some (3, [[.i .i64 0, .i .i64 0, .i .i64 0]]), some (3, [[.i .i64 5, .i .i64 r453.1, .i .i64 0]])] [] hC (VW.seq (VW.seq (VW.rA (tm 67 [(2, .ptr 0 0 0), (4, .sl 1 (rows cs_ r1)), (7, .ptr 1 0 0), (10, .b r453.2), (47, .b (eqI want_449 3))]) [some (3, [[.i .i64 0, .i .i64 0, .i .i64 0]]), some (3, [[.i .i64 5, .i .i64 r453.1, .i .i64 0]])] [] hC (VW.condJ h (fun h => ?_) (fun h => ?_))))))) (h := by simp -implicitDefEqProofs [f452a, f452b, f452c, f452d, c454])
     · refine VW.skip (VW.seq ?_)
       obtain ⟨w467, q468, h⟩ := bindE h
       refine VW.evalGA [[0, 1, 2, 3, 4, 5, 6], [0, 1, 2, 3, 5, 4, 6], [1, 0, 2, 3, 4, 5, 6], [1, 0, 2, 3, 5, 4, 6], [1, 2, 0, 3, 4, 5, 6], [1, 2, 0, 3, 5, 4, 6], [1, 2, 3, 0, 4, 5, 6], [1, 2, 3, 0, 5, 4, 6], [1, 2, 3, 4, 0, 5, 6]] (tm 67 [(2, .ptr 0 0 0), (3, .b w467)]) [some (3, [[.i .i64 5, .i .i64 r453.1, .i .i64 0]]), some (3, [[.i .i64 5, .i .i64 r453.1, .i .i64 0]])] [] hC mixed (by kernel_rfl) (by
           obtain ⟨q469, q468⟩ | ⟨q469, rfl⟩ := gdT q468
           · obtain ⟨r465, q466, q468⟩ := bindQ q468
             have c466 : F48 [.cptr [.i .i64 ((⟨5, r453.1, 0⟩ : T22).kind_), .i .i64 ((⟨5, r453.1, 0⟩ : T22).a_), .i .i64 ((⟨5, r453.1, 0⟩ : T22).b_)] 0] = some (.b r465) := tells_eq inj48 (a := (⟨5, r453.1, 0⟩ : T22)) q466
             obtain rfl := Option.some.inj q468
             simp -implicitDefEqProofs [q469, c466]
           simp -implicitDefEqProofs [q469]) ?_
       obtain rfl := leafS h
       exact VW.ret (VRet.fin (by simp [eB66]))
     refine VW.seq ?_
     obtain ⟨e456, ⟨f457a, f457b, f457c, f457d⟩, h⟩ := bindI h
     try simp only [Int.toNat_natCast, Int.reduceToNat] at f457a f457b f457c f457d
     obtain ⟨r458, q459, h⟩ := bindE h
     have c459 := tl98 q459
     refine VW.rA (tm 67 [(2, .ptr 0 0 0), (7, .ptr 1 0 0), (10, .b r453.2), (11, .i .i64 r458.1), (12, .b r458.2)]) [some (3, [[.i .i64 0, .i .i64 0, .i .i64 0]]), some (3, [[.i .i64 5, .i .i64 r453.1, .i .i64 0]])] [] hC (VW.seq (VW.rA (tm 67 [(2, .ptr 0 0 0), (7, .ptr 1 0 0), (10, .b r453.2), (12, .b r458.2)]) [some (3, [[.i .i64 0, .i .i64 0, .i .i64 0]]), some (3, [[.i .i64 5, .i .i64 r453.1, .i .i64 r458.1]])] [] hC (VW.rA (tm 67 [(2, .ptr 0 0 0), (7, .ptr 1 0 0), (10, .b (r453.2 && r458.2))]) [some (3, [[.i .i64 0, .i .i64 0, .i .i64 0]]), some (3, [[.i .i64 5, .i .i64 r453.1, .i .i64 r458.1]])] [] hC (VW.seq ?_)))) (h := by simp -implicitDefEqProofs [f457a, f457b, f457c, f457d, c459])
     obtain ⟨w462, q463, h⟩ := bindE h
     refine VW.evalGA [[0, 1, 2, 3, 4, 5, 6], [0, 1, 2, 3, 5, 4, 6], [1, 0, 2, 3, 4, 5, 6], [1, 0, 2, 3, 5, 4, 6], [1, 2, 0, 3, 4, 5, 6], [1, 2, 0, 3, 5, 4, 6], [1, 2, 3, 0, 4, 5, 6], [1, 2, 3, 0, 5, 4, 6], [1, 2, 3, 4, 0, 5, 6]] (tm 67 [(2, .ptr 0 0 0), (3, .b w462)]) [some (3, [[.i .i64 5, .i .i64 r453.1, .i .i64 r458.1]]), some (3, [[.i .i64 5, .i .i64 r453.1, .i .i64 r458.1]])] [] hC mixed (by kernel_rfl) (by
         obtain ⟨q464, q463⟩ | ⟨q464, rfl⟩ := gdT q463
         · obtain ⟨r460, q461, q463⟩ := bindQ q463
           have c461 : F48 [.cptr [.i .i64 ((⟨5, r453.1, r458.1⟩ : T22).kind_), .i .i64 ((⟨5, r453.1, r458.1⟩ : T22).a_), .i .i64 ((⟨5, r453.1, r458.1⟩ : T22).b_)] 0] = some (.b r460) := tells_eq inj48 (a := (⟨5, r453.1, r458.1⟩ : T22)) q461
           obtain rfl := Option.some.inj q463
           simp -implicitDefEqProofs [q464, c461]
         simp -implicitDefEqProofs [q464]) ?_
     obtain rfl := leafS h
     exact VW.ret (VRet.fin (by simp [eB66]))
   refine VW.exit (VW.rA (tm 67 [(2, .ptr 0 0 0), (4, .sl 1 (rows cs_ r1)), (5, .sl 1 (rows cs_ r3)), (6, .i .i64 6)]) [some (3, [[.i .i64 0, .i .i64 0, .i .i64 0]])] [] hC (VRounds.step (VW.seq (VW.seq (VW.rA (tm 67 [(2, .ptr 0 0 0), (4, .sl 1 (rows cs_ r1)), (5, .sl 1 (rows cs_ r3)), (6, .i .i64 6), (17, .b true)]) [some (3, [[.i .i64 0, .i .i64 0, .i .i64 0]])] [] hC (VW.condT (by simp) (VW.skip (VW.seq (VW.block (VW.seq (VW.seq ?_)))))) (h := by simp -implicitDefEqProofs [(by decide : leI 6 9 = true)]))))) (h := by simp -implicitDefEqProofs [(by decide : aI .i64 5 1 = 6)]))
   obtain ⟨e318, ⟨f319a, f319b, f319c, f319d⟩, h⟩ := bindI h
   try simp only [Int.toNat_natCast, Int.reduceToNat] at f319a f319b f319c f319d
   obtain ⟨e320, ⟨f321a, f321b, f321c, f321d⟩, h⟩ := bindI h
   try simp only [Int.toNat_natCast, Int.reduceToNat] at f321a f321b f321c f321d
   refine VW.rD (tm 67 [(2, .ptr 0 0 0), (4, .sl 1 (rows cs_ r1)), (5, .sl 1 (rows cs_ r3)), (6, .i .i64 6), (27, .b (!eqS e318 e320))]) [some (3, [[.i .i64 0, .i .i64 0, .i .i64 0]])] [] hC mixed (VW.condJ h (fun h => ?_) (fun h => ?_)) (h := by simp -implicitDefEqProofs [f319a, f319b, f319c, f319d, f321a, f321b, f321c, f321d])
   · refine VW.skip (VW.seq (VW.rA (tm 67 [(2, .ptr 0 0 0), (4, .sl 1 (rows cs_ r1)), (6, .i .i64 6), (7, .ptr 1 0 0)]) [some (3, [[.i .i64 0, .i .i64 0, .i .i64 0]]), some (3, [[.i .i64 6, .i .i64 0, .i .i64 0]])] [] hC (VW.seq (VW.rA (tm 67 [(2, .ptr 0 0 0), (4, .sl 1 (rows cs_ r1)), (6, .i .i64 6), (7, .ptr 1 0 0), (8, .i .i64 2)]) [some (3, [[.i .i64 0, .i .i64 0, .i .i64 0]]), some (3, [[.i .i64 6, .i .i64 0, .i .i64 0]])] [] hC (VW.join (fun (v : Int) => (⟨(tm 67 [(2, .ptr 0 0 0), (4, .sl 1 (rows cs_ r1)), (7, .ptr 1 0 0), (8, .i .i64 v)]), [some (3, [[.i .i64 0, .i .i64 0, .i .i64 0]]), some (3, [[.i .i64 6, .i .i64 0, .i .i64 0]])], []⟩ : VS)) (fun v => (g66_j5 r1 (v)).bind some = some r) ?_ ?_)))))
     · refine VW.seq ?_
       obtain ⟨r443, q444, h⟩ := bindE h
       have c444 := tl93 q444
       refine VW.rA (tm 67 [(2, .ptr 0 0 0), (4, .sl 1 (rows cs_ r1)), (7, .ptr 1 0 0), (8, .i .i64 2), (31, .b r443)]) [some (3, [[.i .i64 0, .i .i64 0, .i .i64 0]]), some (3, [[.i .i64 6, .i .i64 0, .i .i64 0]])] [] hC (VW.condJ h (fun h => ?_) (fun h => ?_)) (h := by simp -implicitDefEqProofs [c444])
       · exact VW.skip (vnext 2 h (Ent.tu 2))
       exact VW.rA (tm 67 [(2, .ptr 0 0 0), (4, .sl 1 (rows cs_ r1)), (7, .ptr 1 0 0), (8, .i .i64 3)]) [some (3, [[.i .i64 0, .i .i64 0, .i .i64 0]]), some (3, [[.i .i64 6, .i .i64 0, .i .i64 0]])] [] hC (vnext 3 h (Ent.tu 2))
     rintro want_422 h
     replace h : (g66_j5 r1 want_422).bind _ = _ := h
     rw [g66_j5] at h
     refine VW.seq (VW.seq (VW.rA (tm 67 [(2, .ptr 0 0 0), (4, .sl 1 (rows cs_ r1)), (7, .ptr 1 0 0), (8, .i .i64 want_422), (35, .b (!eqI (r1.length : Int) want_422))]) [some (3, [[.i .i64 0, .i .i64 0, .i .i64 0]]), some (3, [[.i .i64 6, .i .i64 0, .i .i64 0]])] [] hC (VW.condI h (fun h => ?_) (fun h => ?_))))
     · refine VW.seq (VW.rA (tm 67 [(2, .ptr 0 0 0), (3, .b false)]) [some (3, [[.i .i64 0, .i .i64 0, .i .i64 0]]), some (3, [[.i .i64 6, .i .i64 0, .i .i64 0]])] [] hC ?_)
       obtain rfl := leafS h
       exact VW.ret (VRet.fin (by simp [eB66]))
     refine VW.skip (VW.seq ?_)
     obtain ⟨e424, ⟨f425a, f425b, f425c, f425d⟩, h⟩ := bindI h
     try simp only [Int.toNat_natCast, Int.reduceToNat] at f425a f425b f425c f425d
     obtain ⟨r426, q427, h⟩ := bindE h
     have c427 := tl98 q427
     refine VW.rA (tm 67 [(2, .ptr 0 0 0), (4, .sl 1 (rows cs_ r1)), (7, .ptr 1 0 0), (8, .i .i64 want_422), (9, .i .i64 r426.1), (10, .b r426.2)]) [some (3, [[.i .i64 0, .i .i64 0, .i .i64 0]]), some (3, [[.i .i64 6, .i .i64 0, .i .i64 0]])] [] hC (VW.seq (VW.rA (tm 67 [(2, .ptr 0 0 0), (4, .sl 1 (rows cs_ r1)), (7, .ptr 1 0 0), (8, .i .i64 want_422), (10, .b r426.2)]) [some (3, [[.i .i64 0, .i .i64 0, .i .i64 0]]), some (3, [[.i .i64 6, .i .i64 r426.1, .i .i64 0]])] [] hC (VW.seq (VW.seq (VW.rA (tm 67 [(2, .ptr 0 0 0), (4, .sl 1 (rows cs_ r1)), (7, .ptr 1 0 0), (10, .b r426.2), (47, .b (eqI want_422 3))]) [some (3, [[.i .i64 0, .i .i64 0, .i .i64 0]]), some (3, [[.i .i64 6, .i .i64 r426.1, .i .i64 0]])] [] hC (VW.condJ h (fun h => ?_) (fun h => ?_))))))) (h := by simp -implicitDefEqProofs [f425a, f425b, f425c, f425d, c427])
     · refine VW.skip (VW.seq ?_)
       obtain ⟨w440, q441, h⟩ := bindE h
       refine VW.evalGA [[0, 1, 2, 3, 4, 5, 6], [0, 1, 2, 3, 5, 4, 6], [1, 0, 2, 3, 4, 5, 6], [1, 0, 2, 3, 5, 4, 6], [1, 2, 0, 3, 4, 5, 6], [1, 2, 0, 3, 5, 4, 6], [1, 2, 3, 0, 4, 5, 6], [1, 2, 3, 0, 5, 4, 6], [1, 2, 3, 4, 0, 5, 6]] (tm 67 [(2, .ptr 0 0 0), (3, .b w440)]) [some (3, [[.i .i64 6, .i .i64 r426.1, .i .i64 0]]), some (3, [[.i .i64 6, .i .i64 r426.1, .i .i64 0]])] [] hC mixed (by kernel_rfl) (by
           obtain ⟨q442, q441⟩ | ⟨q442, rfl⟩ := gdT q441
           · obtain ⟨r438, q439, q441⟩ := bindQ q441
             have c439 : F48 [.cptr [.i .i64 ((⟨6, r426.1, 0⟩ : T22).kind_), .i .i64 ((⟨6, r426.1, 0⟩ : T22).a_), .i .i64 ((⟨6, r426.1, 0⟩ : T22).b_)] 0] = some (.b r438) := tells_eq inj48 (a := (⟨6, r426.1, 0⟩ : T22)) q439
             obtain rfl := Option.some.inj q441
             simp -implicitDefEqProofs [q442, c439]
           simp -implicitDefEqProofs [q442]) ?_
       obtain rfl := leafS h
       exact VW.ret (VRet.fin (by simp [eB66]))
     refine VW.seq ?_
     obtain ⟨e429, ⟨f430a, f430b, f430c, f430d⟩, h⟩ := bindI h
     try simp only [Int.toNat_natCast, Int.reduceToNat] at f430a f430b f430c f430d
     obtain ⟨r431, q432, h⟩ := bindE h
     have c432 := tl98 q432
     refine VW.rA (tm 67 [(2, .ptr 0 0 0), (7, .ptr 1 0 0), (10, .b r426.2), (11, .i .i64 r431.1), (12, .b r431.2)]) [some (3, [[.i .i64 0, .i .i64 0, .i .i64 0]]), some (3, [[.i .i64 6, .i .i64 r426.1, .i .i64 0]])] [] hC (VW.seq (VW.rA (tm 67 [(2, .ptr 0 0 0), (7, .ptr 1 0 0), (10, .b r426.2), (12, .b r431.2)]) [some (3, [[.i .i64 0, .i .i64 0, .i .i64 0]]), some (3, [[.i .i64 6, .i .i64 r426.1, .i .i64 r431.1]])] [] hC (VW.rA (tm 67 [(2, .ptr 0 0 0), (7, .ptr 1 0 0), (10, .b (r426.2 && r431.2))]) [some (3, [[.i .i64 0, .i .i64 0, .i .i64 0]]), some (3, [[.i .i64 6, .i .i64 r426.1, .i .i64 r431.1]])] [] hC (VW.seq ?_)))) (h := by simp -implicitDefEqProofs [f430a, f430b, f430c, f430d, c432])
     obtain ⟨w435, q436, h⟩ := bindE h
     refine VW.evalGA [[0, 1, 2, 3, 4, 5, 6], [0, 1, 2, 3, 5, 4, 6], [1, 0, 2, 3, 4, 5, 6], [1, 0, 2, 3, 5, 4, 6], [1, 2, 0, 3, 4, 5, 6], [1, 2, 0, 3, 5, 4, 6], [1, 2, 3, 0, 4, 5, 6], [1, 2, 3, 0, 5, 4, 6], [1, 2, 3, 4, 0, 5, 6]] (tm 67 [(2, .ptr 0 0 0), (3, .b w435)]) [some (3, [[.i .i64 6, .i .i64 r426.1, .i .i64 r431.1]]), some (3, [[.i .i64 6, .i .i64 r426.1, .i .i64 r431.1]])] [] hC mixed (by kernel_rfl) (by
         obtain ⟨q437, q436⟩ | ⟨q437, rfl⟩ := gdT q436
         · obtain ⟨r433, q434, q436⟩ := bindQ q436
           have c434 : F48 [.cptr [.i .i64 ((⟨6, r426.1, r431.1⟩ : T22).kind_), .i .i64 ((⟨6, r426.1, r431.1⟩ : T22).a_), .i .i64 ((⟨6, r426.1, r431.1⟩ : T22).b_)] 0] = some (.b r433) := tells_eq inj48 (a := (⟨6, r426.1, r431.1⟩ : T22)) q434
           obtain rfl := Option.some.inj q436
           simp -implicitDefEqProofs [q437, c434]
         simp -implicitDefEqProofs [q437]) ?_
     obtain rfl := leafS h
     exact VW.ret (VRet.fin (by simp [eB66]))
   refine VW.exit (VW.rA (tm 67 [(2, .ptr 0 0 0), (4, .sl 1 (rows cs_ r1)), (5, .sl 1 (rows cs_ r3)), (6, .i .i64 7)]) [some (3, [[.i .i64 0, .i .i64 0, .i .i64 0]])] [] hC (VRounds.step (VW.seq (VW.seq (VW.rA (tm 67 [(2, .ptr 0 0 0), (4, .sl 1 (rows cs_ r1)), (5, .sl 1 (rows cs_ r3)), (6, .i .i64 7), (17, .b true)]) [some (3, [[.i .i64 0, .i .i64 0, .i .i64 0]])] [] hC (VW.condT (by simp) (VW.skip (VW.seq (VW.block (VW.seq (VW.seq ?_)))))) (h := by simp -implicitDefEqProofs [(by decide : leI 7 9 = true)]))))) (h := by simp -implicitDefEqProofs [(by decide : aI .i64 6 1 = 7)]))
   obtain ⟨e323, ⟨f324a, f324b, f324c, f324d⟩, h⟩ := bindI h
   try simp only [Int.toNat_natCast, Int.reduceToNat] at f324a f324b f324c f324d
   obtain ⟨e325, ⟨f326a, f326b, f326c, f326d⟩, h⟩ := bindI h
   try simp only [Int.toNat_natCast, Int.reduceToNat] at f326a f326b f326c f326d
   refine VW.rD (tm 67 [(2, .ptr 0 0 0), (4, .sl 1 (rows cs_ r1)), (5, .sl 1 (rows cs_ r3)), (6, .i .i64 7), (27, .b (!eqS e323 e325))]) [some (3, [[.i .i64 0, .i .i64 0, .i .i64 0]])] [] hC mixed (VW.condJ h (fun h => ?_) (fun h => ?_)) (h := by simp -implicitDefEqProofs [f324a, f324b, f324c, f324d, f326a, f326b, f326c, f326d])
   · refine VW.skip (VW.seq (VW.rA (tm 67 [(2, .ptr 0 0 0), (4, .sl 1 (rows cs_ r1)), (6, .i .i64 7), (7, .ptr 1 0 0)]) [some (3, [[.i .i64 0, .i .i64 0, .i .i64 0]]), some (3, [[.i .i64 7, .i .i64 0, .i .i64 0]])] [] hC (VW.seq (VW.rA (tm 67 [(2, .ptr 0 0 0), (4, .sl 1 (rows cs_ r1)), (6, .i .i64 7), (7, .ptr 1 0 0), (8, .i .i64 2)]) [some (3, [[.i .i64 0, .i .i64 0, .i .i64 0]]), some (3, [[.i .i64 7, .i .i64 0, .i .i64 0]])] [] hC (VW.join (fun (v : Int) => (⟨(tm 67 [(2, .ptr 0 0 0), (4, .sl 1 (rows cs_ r1)), (7, .ptr 1 0 0), (8, .i .i64 v)]), [some (3, [[.i .i64 0, .i .i64 0, .i .i64 0]]), some (3, [[.i .i64 7, .i .i64 0, .i .i64 0]])], []⟩ : VS)) (fun v => (g66_j4 r1 (v)).bind some = some r) ?_ ?_)))))
     · refine VW.seq ?_
       obtain ⟨r416, q417, h⟩ := bindE h
       have c417 := tl93 q417
       refine VW.rA (tm 67 [(2, .ptr 0 0 0), (4, .sl 1 (rows cs_ r1)), (7, .ptr 1 0 0), (8, .i .i64 2), (31, .b r416)]) [some (3, [[.i .i64 0, .i .i64 0, .i .i64 0]]), some (3, [[.i .i64 7, .i .i64 0, .i .i64 0]])] [] hC (VW.condJ h (fun h => ?_) (fun h => ?_)) (h := by simp -implicitDefEqProofs [c417])
       · exact VW.skip (vnext 2 h (Ent.tu 2))
       exact VW.rA (tm 67 [(2, .ptr 0 0 0), (4, .sl 1 (rows cs_ r1)), (7, .ptr 1 0 0), (8, .i .i64 3)]) [some (3, [[.i .i64 0, .i .i64 0, .i .i64 0]]), some (3, [[.i .i64 7, .i .i64 0, .i .i64 0]])] [] hC (vnext 3 h (Ent.tu 2))
     rintro want_395 h
     replace h : (g66_j4 r1 want_395).bind _ = _ := h
     rw [g66_j4] at h
     refine VW.seq (VW.seq (VW.rA (tm 67 [(2, .ptr 0 0 0), (4, .sl 1 (rows cs_ r1)), (7, .ptr 1 0 0), (8, .i .i64 want_395), (35, .b (!eqI (r1.length : Int) want_395))]) [some (3, [[.i .i64 0, .i .i64 0, .i .i64 0]]), some (3, [[.i .i64 7, .i .i64 0, .i .i64 0]])] [] hC (VW.condI h (fun h => ?_) (fun h => ?_))))
     · refine VW.seq (VW.rA (tm 67 [(2, .ptr 0 0 0), (3, .b false)]) [some (3, [[.i .i64 0, .i .i64 0, .i .i64 0]]), some (3, [[.i .i64 7, .i .i64 0, .i .i64 0]])] [] hC ?_)
       obtain rfl := leafS h
       exact VW.ret (VRet.fin (by simp [eB66]))
     refine VW.skip (VW.seq ?_)
     obtain ⟨e397, ⟨f398a, f398b, f398c, f398d⟩, h⟩ := bindI h
     try simp only [Int.toNat_natCast, Int.reduceToNat] at f398a f398b f398c f398d
     obtain ⟨r399, q400, h⟩ := bindE h
     have c400 := tl98 q400
     refine VW.rA (tm 67 [(2, .ptr 0 0 0), (4, .sl 1 (rows cs_ r1)), (7, .ptr 1 0 0), (8, .i .i64 want_395), (9, .i .i64 r399.1), (10, .b r399.2)]) [some (3, [[.i .i64 0, .i .i64 0, .i .i64 0]]), some (3, [[.i .i64 7, .i .i64 0, .i .i64 0]])] [] hC (VW.seq (VW.rA (tm 67 [(2, .ptr 0 0 0), (4, .sl 1 (rows cs_ r1)), (7, .ptr 1 0 0), (8, .i .i64 want_395), (10, .b r399.2)]) [some (3, [[.i .i64 0, .i .i64 0, .i .i64 0]]), some (3, [[.i .i64 7, .i .i64 r399.1, .i .i64 0]])] [] hC (VW.seq (VW.seq (VW.rA (tm 67 [(2, .ptr 0 0 0), (4, .sl 1 (rows cs_ r1)), (7, .ptr 1 0 0), (10, .b r399.2), (47, .b (eqI want_395 3))]) [some (3, [[.i .i64 0, .i .i64 0, .i .i64 0]]), some (3, [[.i .i64 7, .i .i64 r399.1, .i .i64 0]])] [] hC (VW.condJ h (fun h => ?_) (fun h => ?_))))))) (h := by simp -implicitDefEqProofs [f398a, f398b, f398c, f398d, c400])
     · refine VW.skip (VW.seq ?_)
       obtain ⟨w413, q414, h⟩ := bindE h
       refine VW.evalGA [[0, 1, 2, 3, 4, 5, 6], [0, 1, 2, 3, 5, 4, 6], [1, 0, 2, 3, 4, 5, 6], [1, 0, 2, 3, 5, 4, 6], [1, 2, 0, 3, 4, 5, 6], [1, 2, 0, 3, 5, 4, 6], [1, 2, 3, 0, 4, 5, 6], [1, 2, 3, 0, 5, 4, 6], [1, 2, 3, 4, 0, 5, 6]] (tm 67 [(2, .ptr 0 0 0), (3, .b w413)]) [some (3, [[.i .i64 7, .i .i64 r399.1, .i .i64 0]]), some (3, [[.i .i64 7, .i .i64 r399.1, .i .i64 0]])] [] hC mixed (by kernel_rfl) (by
           obtain ⟨q415, q414⟩ | ⟨q415, rfl⟩ := gdT q414
           · obtain ⟨r411, q412, q414⟩ := bindQ q414
             have c412 : F48 [.cptr [.i .i64 ((⟨7, r399.1, 0⟩ : T22).kind_), .i .i64 ((⟨7, r399.1, 0⟩ : T22).a_), .i .i64 ((⟨7, r399.1, 0⟩ : T22).b_)] 0] = some (.b r411) := tells_eq inj48 (a := (⟨7, r399.1, 0⟩ : T22)) q412
             obtain rfl := Option.some.inj q414
             simp -implicitDefEqProofs [q415, c412]
           simp -implicitDefEqProofs [q415]) ?_
       obtain rfl := leafS h
       exact VW.ret (VRet.fin (by simp [eB66]))
     refine VW.seq ?_
     obtain ⟨e402, ⟨f403a, f403b, f403c, f403d⟩, h⟩ := bindI h
     try simp only [Int.toNat_natCast, Int.reduceToNat] at f403a f403b f403c f403d
     obtain ⟨r404, q405, h⟩ := bindE h
     have c405 := tl98 q405
     refine VW.rA (tm 67 [(2, .ptr 0 0 0), (7, .ptr 1 0 0), (10, .b r399.2), (11, .i .i64 r404.1), (12, .b r404.2)]) [some (3, [[.i .i64 0, .i .i64 0, .i .i64 0]]), some (3, [[.i .i64 7, .i .i64 r399.1, .i .i64 0]])] [] hC (VW.seq (VW.rA (tm 67 [(2, .ptr 0 0 0), (7, .ptr 1 0 0), (10, .b r399.2), (12, .b r404.2)]) [some (3, [[.i .i64 0, .i .i64 0, .i .i64 0]]), some (3, [[.i .i64 7, .i .i64 r399.1, .i .i64 r404.1]])] [] hC (VW.rA (tm 67 [(2, .ptr 0 0 0), (7, .ptr 1 0 0), (10, .b (r399.2 && r404.2))]) [some (3, [[.i .i64 0, .i .i64 0, .i .i64 0]]), some (3, [[.i .i64 7, .i .i64 r399.1, .i .i64 r404.1]])] [] hC (VW.seq ?_)))) (h := by simp -implicitDefEqProofs [f403a, f403b, f403c, f403d, c405])
     obtain ⟨w408, q409, h⟩ := bindE h
     refine VW.evalGA [[0, 1, 2, 3, 4, 5, 6], [0, 1, 2, 3, 5, 4, 6], [1, 0, 2, 3, 4, 5, 6], [1, 0, 2, 3, 5, 4, 6], [1, 2, 0, 3, 4, 5, 6], [1, 2, 0, 3, 5, 4, 6], [1, 2, 3, 0, 4, 5, 6], [1, 2, 3, 0, 5, 4, 6], [1, 2, 3, 4, 0, 5, 6]] (tm 67 [(2, .ptr 0 0 0), (3, .b w408)]) [some (3, [[.i .i64 7, .i .i64 r399.1, .i .i64 r404.1]]), some (3, [[.i .i64 7, .i .i64 r399.1, .i .i64 r404.1]])] [] hC mixed (by kernel_rfl) (by
         obtain ⟨q410, q409⟩ | ⟨q410, rfl⟩ := gdT q409
         · obtain ⟨r406, q407, q409⟩ := bindQ q409
           have c407 : F48 [.cptr [.i .i64 ((⟨7, r399.1, r404.1⟩ : T22).kind_), .i .i64 ((⟨7, r399.1, r404.1⟩ : T22).a_), .i .i64 ((⟨7, r399.1, r404.1⟩ : T22).b_)] 0] = some (.b r406) := tells_eq inj48 (a := (⟨7, r399.1, r404.1⟩ : T22)) q407
           obtain rfl := Option.some.inj q409
           simp -implicitDefEqProofs [q410, c407]
         simp -implicitDefEqProofs [q410]) ?_
     obtain rfl := leafS h
     exact VW.ret (VRet.fin (by simp [eB66]))
   refine VW.exit (VW.rA (tm 67 [(2, .ptr 0 0 0), (4, .sl 1 (rows cs_ r1)), (5, .sl 1 (rows cs_ r3)), (6, .i .i64 8)]) [some (3, [[.i .i64 0, .i .i64 0, .i .i64 0]])] [] hC (VRounds.step (VW.seq (VW.seq (VW.rA (tm 67 [(2, .ptr 0 0 0), (4, .sl 1 (rows cs_ r1)), (5, .sl 1 (rows cs_ r3)), (6, .i .i64 8), (17, .b true)]) [some (3, [[.i .i64 0, .i .i64 0, .i .i64 0]])] [] hC (VW.condT (by simp) (VW.skip (VW.seq (VW.block (VW.seq (VW.seq ?_)))))) (h := by simp -implicitDefEqProofs [(by decide : leI 8 9 = true)]))))) (h := by simp -implicitDefEqProofs [(by decide : aI .i64 7 1 = 8)]))
   obtain ⟨e328, ⟨f329a, f329b, f329c, f329d⟩, h⟩ := bindI h
   try simp only [Int.toNat_natCast, Int.reduceToNat] at f329a f329b f329c f329d
   obtain ⟨e330, ⟨f331a, f331b, f331c, f331d⟩, h⟩ := bindI h
   try simp only [Int.toNat_natCast, Int.reduceToNat] at f331a f331b f331c f331d
   refine VW.rD (tm 67 [(2, .ptr 0 0 0), (4, .sl 1 (rows cs_ r1)), (5, .sl 1 (rows cs_ r3)), (6, .i .i64 8), (27, .b (!eqS e328 e330))]) [some (3, [[.i .i64 0, .i .i64 0, .i .i64 0]])] [] hC mixed (VW.condJ h (fun h => ?_) (fun h => ?_)) (h := by simp -implicitDefEqProofs [f329a, f329b, f329c, f329d, f331a, f331b, f331c, f331d])
   · refine VW.skip (VW.seq (VW.rA (tm 67 [(2, .ptr 0 0 0), (4, .sl 1 (rows cs_ r1)), (6, .i .i64 8), (7, .ptr 1 0 0)]) [some (3, [[.i .i64 0, .i .i64 0, .i .i64 0]]), some (3, [[.i .i64 8, .i .i64 0, .i .i64 0]])] [] hC (VW.seq (VW.rA (tm 67 [(2, .ptr 0 0 0), (4, .sl 1 (rows cs_ r1)), (6, .i .i64 8), (7, .ptr 1 0 0), (8, .i .i64 2)]) [some (3, [[.i .i64 0, .i .i64 0, .i .i64 0]]), some (3, [[.i .i64 8, .i .i64 0, .i .i64 0]])] [] hC (VW.join (fun (v : Int) => (⟨(tm 67 [(2, .ptr 0 0 0), (4, .sl 1 (rows cs_ r1)), (7, .ptr 1 0 0), (8, .i .i64 v)]), [some (3, [[.i .i64 0, .i .i64 0, .i .i64 0]]), some (3, [[.i .i64 8, .i .i64 0, .i .i64 0]])], []⟩ : VS)) (fun v => (g66_j3 r1 (v)).bind some = some r) ?_ ?_)))))
     · refine VW.seq ?_
       obtain ⟨r389, q390, h⟩ := bindE h
       have c390 := tl93 q390
       refine VW.rA (tm 67 [(2, .ptr 0 0 0), (4, .sl 1 (rows cs_ r1)), (7, .ptr 1 0 0), (8, .i .i64 2), (31, .b r389)]) [some (3, [[.i .i64 0, .i .i64 0, .i .i64 0]]), some (3, [[.i .i64 8, .i .i64 0, .i .i64 0]])] [] hC (VW.condJ h (fun h => ?_) (fun h => ?_)) (h := by simp -implicitDefEqProofs [c390])
       · exact VW.skip (vnext 2 h (Ent.tu 2))
       exact VW.rA (tm 67 [(2, .ptr 0 0 0), (4, .sl 1 (rows cs_ r1)), (7, .ptr 1 0 0), (8, .i .i64 3)]) [some (3, [[.i .i64 0, .i .i64 0, .i .i64 0]]), some (3, [[.i .i64 8, .i .i64 0, .i .i64 0]])] [] hC (vnext 3 h (Ent.tu 2))
     rintro want_368 h
     replace h : (g66_j3 r1 want_368).bind _ = _ := h
     rw [g66_j3] at h
     refine VW.seq (VW.seq (VW.rA (tm 67 [(2, .ptr 0 0 0), (4, .sl 1 (rows cs_ r1)), (7, .ptr 1 0 0), (8, .i .i64 want_368), (35, .b (!eqI (r1.length : Int) want_368))]) [some (3, [[.i .i64 0, .i .i64 0, .i .i64 0]]), some (3, [[.i .i64 8, .i .i64 0, .i .i64 0]])] [] hC (VW.condI h (fun h => ?_) (fun h => ?_))))
     · refine VW.seq (VW.rA (tm 67 [(2, .ptr 0 0 0), (3, .b false)]) [some (3, [[.i .i64 0, .i .i64 0, .i .i64 0]]), some (3, [[.i .i64 8, .i .i64 0, .i .i64 0]])] [] hC ?_)
       obtain rfl := leafS h
       exact VW.ret (VRet.fin (by simp [eB66]))
     refine VW.skip (VW.seq ?_)
     obtain ⟨e370, ⟨f371a, f371b, f371c, f371d⟩, h⟩ := bindI h
     try simp only [Int.toNat_natCast, Int.reduceToNat] at f371a f371b f371c f371d
     obtain ⟨r372, q373, h⟩ := bindE h
     have c373 := tl98 q373
     refine VW.rA (tm 67 [(2, .ptr 0 0 0), (4, .sl 1 (rows cs_ r1)), (7, .ptr 1 0 0), (8, .i .i64 want_368), (9, .i .i64 r372.1), (10, .b r372.2)]) [some (3, [[.i .i64 0, .i .i64 0, .i .i64 0]]), some (3, [[.i .i64 8, .i .i64 0, .i .i64 0]])] [] hC (VW.seq (VW.rA (tm 67 [(2, .ptr 0 0 0), (4, .sl 1 (rows cs_ r1)), (7, .ptr 1 0 0), (8, .i .i64 want_368), (10, .b r372.2)]) [some (3, [[.i .i64 0, .i .i64 0, .i .i64 0]]), some (3, [[.i .i64 8, .i .i64 r372.1, .i .i64 0]])] [] hC (VW.seq (VW.seq (VW.rA (tm 67 [(2, .ptr 0 0 0), (4, .sl 1 (rows cs_ r1)), (7, .ptr 1 0 0), (10, .b r372.2), (47, .b (eqI want_368 3))]) [some (3, [[.i .i64 0, .i .i64 0, .i .i64 0]]), some (3, [[.i .i64 8, .i .i64 r372.1, .i .i64 0]])] [] hC (VW.condJ h (fun h => ?_) (fun h => ?_))))))) (h := by simp -implicitDefEqProofs [f371a, f371b, f371c, f371d, c373])
     · refine VW.skip (VW.seq ?_)
       obtain ⟨w386, q387, h⟩ := bindE h
       refine VW.evalGA [[0, 1, 2, 3, 4, 5, 6], [0, 1, 2, 3, 5, 4, 6], [1, 0, 2, 3, 4, 5, 6], [1, 0, 2, 3, 5, 4, 6], [1, 2, 0, 3, 4, 5, 6], [1, 2, 0, 3, 5, 4, 6], [1, 2, 3, 0, 4, 5, 6], [1, 2, 3, 0, 5, 4, 6], [1, 2, 3, 4, 0, 5, 6]] (tm 67 [(2, .ptr 0 0 0), (3, .b w386)]) [some (3, [[.i .i64 8, .i .i64 r372.1, .i .i64 0]]), some (3, [[.i .i64 8, .i .i64 r372.1, .i .i64 0]])] [] hC mixed (by kernel_rfl) (by
           obtain ⟨q388, q387⟩ | ⟨q388, rfl⟩ := gdT q387
           · obtain ⟨r384, q385, q387⟩ := bindQ q387
             have c385 : F48 [.cptr [.i .i64 ((⟨8, r372.1, 0⟩ : T22).kind_), .i .i64 ((⟨8, r372.1, 0⟩ : T22).a_), .i .i64 ((⟨8, r372.1, 0⟩ : T22).b_)] 0] = some (.b r384) := tells_eq inj48 (a := (⟨8, r372.1, 0⟩ : T22)) q385
             obtain rfl := Option.some.inj q387
             simp -implicitDefEqProofs [q388, c385]
           simp -implicitDefEqProofs [q388]) ?_
       obtain rfl := leafS h
       exact VW.ret (VRet.fin (by simp [eB66]))
     refine VW.seq ?_
     obtain ⟨e375, ⟨f376a, f376b, f376c, f376d⟩, h⟩ := bindI h
     try simp only [Int.toNat_natCast, Int.reduceToNat] at f376a f376b f376c f376d
     obtain ⟨r377, q378, h⟩ := bindE h
     have c378 := tl98 q378
     refine VW.rA (tm 67 [(2, .ptr 0 0 0), (7, .ptr 1 0 0), (10, .b r372.2), (11, .i .i64 r377.1), (12, .b r377.2)]) [some (3, [[.i .i64 0, .i .i64 0, .i .i64 0]]), some (3, [[.i .i64 8, .i .i64 r372.1, .i .i64 0]])] [] hC (VW.seq (VW.rA (tm 67 [(2, .ptr 0 0 0), (7, .ptr 1 0 0), (10, .b r372.2), (12, .b r377.2)]) [some (3, [[.i .i64 0, .i .i64 0, .i .i64 0]]), some (3, [[.i .i64 8, .i .i64 r372.1, .i .i64 r377.1]])] [] hC (VW.rA (tm 67 [(2, .ptr 0 0 0), (7, .ptr 1 0 0), (10, .b (r372.2 && r377.2))]) [some (3, [[.i .i64 0, .i .i64 0, .i .i64 0]]), some (3, [[.i .i64 8, .i .i64 r372.1, .i .i64 r377.1]])] [] hC (VW.seq ?_)))) (h := by simp -implicitDefEqProofs [f376a, f376b, f376c, f376d, c378])
     obtain ⟨w381, q382, h⟩ := bindE h
     refine VW.evalGA [[0, 1, 2, 3, 4, 5, 6], [0, 1, 2, 3, 5, 4, 6], [1, 0, 2, 3, 4, 5, 6], [1, 0, 2, 3, 5, 4, 6], [1, 2, 0, 3, 4, 5, 6], [1, 2, 0, 3, 5, 4, 6], [1, 2, 3, 0, 4, 5, 6], [1, 2, 3, 0, 5, 4, 6], [1, 2, 3, 4, 0, 5, 6]] (tm 67 [(2, .ptr 0 0 0), (3, .b w381)]) [some (3, [[.i .i64 8, .i .i64 r372.1, .i .i64 r377.1]]), some (3, [[.i .i64 8, .i .i64 r372.1, .i .i64 r377.1]])] [] hC mixed (by kernel_rfl) (by
         obtain ⟨q383, q382⟩ | ⟨q383, rfl⟩ := gdT q382
         · obtain ⟨r379, q380, q382⟩ := bindQ q382
           have c380 : F48 [.cptr [.i .i64 ((⟨8, r372.1, r377.1⟩ : T22).kind_), .i .i64 ((⟨8, r372.1, r377.1⟩ : T22).a_), .i .i64 ((⟨8, r372.1, r377.1⟩ : T22).b_)] 0] = some (.b r379) := tells_eq inj48 (a := (⟨8, r372.1, r377.1⟩ : T22)) q380
           obtain rfl := Option.some.inj q382
           simp -implicitDefEqProofs [q383, c380]
         simp -implicitDefEqProofs [q383]) ?_
     obtain rfl := leafS h
     exact VW.ret (VRet.fin (by simp [eB66]))
   refine VW.exit (VW.rA (tm 67 [(2, .ptr 0 0 0), (4, .sl 1 (rows cs_ r1)), (5, .sl 1 (rows cs_ r3)), (6, .i .i64 9)]) [some (3, [[.i .i64 0, .i .i64 0, .i .i64 0]])] [] hC (VRounds.step (VW.seq (VW.seq (VW.rA (tm 67 [(2, .ptr 0 0 0), (4, .sl 1 (rows cs_ r1)), (5, .sl 1 (rows cs_ r3)), (6, .i .i64 9), (17, .b true)]) [some (3, [[.i .i64 0, .i .i64 0, .i .i64 0]])] [] hC (VW.condT (by simp) (VW.skip (VW.seq (VW.block (VW.seq (VW.seq ?_)))))) (h := by simp -implicitDefEqProofs [(by decide : leI 9 9 = true)]))))) (h := by simp -implicitDefEqProofs [(by decide : aI .i64 8 1 = 9)]))
   obtain ⟨e333, ⟨f334a, f334b, f334c, f334d⟩, h⟩ := bindI h
   try simp only [Int.toNat_natCast, Int.reduceToNat] at f334a f334b f334c f334d
   obtain ⟨e335, ⟨f336a, f336b, f336c, f336d⟩, h⟩ := bindI h
   try simp only [Int.toNat_natCast, Int.reduceToNat] at f336a f336b f336c f336d
   refine VW.rD (tm 67 [(2, .ptr 0 0 0), (4, .sl 1 (rows cs_ r1)), (5, .sl 1 (rows cs_ r3)), (6, .i .i64 9), (27, .b (!eqS e333 e335))]) [some (3, [[.i .i64 0, .i .i64 0, .i .i64 0]])] [] hC mixed (VW.condI h (fun h => ?_) (fun h => ?_)) (h := by simp -implicitDefEqProofs [f334a, f334b, f334c, f334d, f336a, f336b, f336c, f336d])
   · exact VW.exit (VW.rA (tm 67 [(2, .ptr 0 0 0), (4, .sl 1 (rows cs_ r1)), (5, .sl 1 (rows cs_ r3)), (6, .i .i64 10)]) [some (3, [[.i .i64 0, .i .i64 0, .i .i64 0]])] [] hC (VRounds.step (VW.seq (VW.seq (VW.rA (tm 67 [(2, .ptr 0 0 0), (4, .sl 1 (rows cs_ r1)), (5, .sl 1 (rows cs_ r3)), (6, .i .i64 10), (17, .b false)]) [some (3, [[.i .i64 0, .i .i64 0, .i .i64 0]])] [] hC (VW.condF (by simp) (VW.exit (vnext () h (Ent.tu 1)))) (h := by simp -implicitDefEqProofs [(by decide : leI 10 9 = false)]))))) (h := by simp -implicitDefEqProofs [(by decide : aI .i64 9 1 = 10)]))
   refine VW.skip (VW.seq (VW.rA (tm 67 [(2, .ptr 0 0 0), (4, .sl 1 (rows cs_ r1)), (6, .i .i64 9), (7, .ptr 1 0 0)]) [some (3, [[.i .i64 0, .i .i64 0, .i .i64 0]]), some (3, [[.i .i64 9, .i .i64 0, .i .i64 0]])] [] hC (VW.seq (VW.rA (tm 67 [(2, .ptr 0 0 0), (4, .sl 1 (rows cs_ r1)), (6, .i .i64 9), (7, .ptr 1 0 0), (8, .i .i64 2)]) [some (3, [[.i .i64 0, .i .i64 0, .i .i64 0]]), some (3, [[.i .i64 9, .i .i64 0, .i .i64 0]])] [] hC (VW.join (fun (v : Int) => (⟨(tm 67 [(2, .ptr 0 0 0), (4, .sl 1 (rows cs_ r1)), (7, .ptr 1 0 0), (8, .i .i64 v)]), [some (3, [[.i .i64 0, .i .i64 0, .i .i64 0]]), some (3, [[.i .i64 9, .i .i64 0, .i .i64 0]])], []⟩ : VS)) (fun v => (g66_j2 r1 (v)).bind some = some r) ?_ ?_)))))
   · refine VW.seq ?_
     obtain ⟨r362, q363, h⟩ := bindE h
     have c363 := tl93 q363
     refine VW.rA (tm 67 [(2, .ptr 0 0 0), (4, .sl 1 (rows cs_ r1)), (7, .ptr 1 0 0), (8, .i .i64 2), (31, .b r362)]) [some (3, [[.i .i64 0, .i .i64 0, .i .i64 0]]), some (3, [[.i .i64 9, .i .i64 0, .i .i64 0]])] [] hC (VW.condJ h (fun h => ?_) (fun h => ?_)) (h := by simp -implicitDefEqProofs [c363])
     · exact VW.skip (vnext 2 h (Ent.tu 2))
     exact VW.rA (tm 67 [(2, .ptr 0 0 0), (4, .sl 1 (rows cs_ r1)), (7, .ptr 1 0 0), (8, .i .i64 3)]) [some (3, [[.i .i64 0, .i .i64 0, .i .i64 0]]), some (3, [[.i .i64 9, .i .i64 0, .i .i64 0]])] [] hC (vnext 3 h (Ent.tu 2))
   rintro want_341 h
   replace h : (g66_j2 r1 want_341).bind _ = _ := h
   rw [g66_j2] at h
   refine VW.seq (VW.seq (VW.rA (tm 67 [(2, .ptr 0 0 0), (4, .sl 1 (rows cs_ r1)), (7, .ptr 1 0 0), (8, .i .i64 want_341), (35, .b (!eqI (r1.length : Int) want_341))]) [some (3, [[.i .i64 0, .i .i64 0, .i .i64 0]]), some (3, [[.i .i64 9, .i .i64 0, .i .i64 0]])] [] hC (VW.condI h (fun h => ?_) (fun h => ?_))))
   · refine VW.seq (VW.rA (tm 67 [(2, .ptr 0 0 0), (3, .b false)]) [some (3, [[.i .i64 0, .i .i64 0, .i .i64 0]]), some (3, [[.i .i64 9, .i .i64 0, .i .i64 0]])] [] hC ?_)
     obtain rfl := leafS h
     exact VW.ret (VRet.fin (by simp [eB66]))
   refine VW.skip (VW.seq ?_)
   obtain ⟨e343, ⟨f344a, f344b, f344c, f344d⟩, h⟩ := bindI h
   try simp only [Int.toNat_natCast, Int.reduceToNat] at f344a f344b f344c f344d
   obtain ⟨r345, q346, h⟩ := bindE h
   have c346 := tl98 q346
   refine VW.rA (tm 67 [(2, .ptr 0 0 0), (4, .sl 1 (rows cs_ r1)), (7, .ptr 1 0 0), (8, .i .i64 want_341), (9, .i .i64 r345.1), (10, .b r345.2)]) [some (3, [[.i .i64 0, .i .i64 0, .i .i64 0]]), some (3, [[.i .i64 9, .i .i64 0, .i .i64 0]])] [] hC (VW.seq (VW.rA (tm 67 [(2, .ptr 0 0 0), (4, .sl 1 (rows cs_ r1)), (7, .ptr 1 0 0), (8, .i .i64 want_341), (10, .b r345.2)]) [some (3, [[.i .i64 0, .i .i64 0, .i .i64 0]]), some (3, [[.i .i64 9, .i .i64 r345.1, .i .i64 0]])] [] hC (VW.seq (VW.seq (VW.rA (tm 67 [(2, .ptr 0 0 0), (4, .sl 1 (rows cs_ r1)), (7, .ptr 1 0 0), (10, .b r345.2), (47, .b (eqI want_341 3))]) [some (3, [[.i .i64 0, .i .i64 0, .i .i64 0]]), some (3, [[.i .i64 9, .i .i64 r345.1, .i .i64 0]])] [] hC (VW.condJ h (fun h => ?_) (fun h => ?_))))))) (h := by simp -implicitDefEqProofs [f344a, f344b, f344c, f344d, c346])
   · refine VW.skip (VW.seq ?_)
     obtain ⟨w359, q360, h⟩ := bindE h
     refine VW.evalGA [[0, 1, 2, 3, 4, 5, 6], [0, 1, 2, 3, 5, 4, 6], [1, 0, 2, 3, 4, 5, 6], [1, 0, 2, 3, 5, 4, 6], [1, 2, 0, 3, 4, 5, 6], [1, 2, 0, 3, 5, 4, 6], [1, 2, 3, 0, 4, 5, 6], [1, 2, 3, 0, 5, 4, 6], [1, 2, 3, 4, 0, 5, 6]] (tm 67 [(2, .ptr 0 0 0), (3, .b w359)]) [some (3, [[.i .i64 9, .i .i64 r345.1, .i .i64 0]]), some (3, [[.i .i64 9, .i .i64 r345.1, .i .i64 0]])] [] hC mixed (by kernel_rfl) (by
         obtain ⟨q361, q360⟩ | ⟨q361, rfl⟩ := gdT q360
         · obtain ⟨r357, q358, q360⟩ := bindQ q360
           have c358 : F48 [.cptr [.i .i64 ((⟨9, r345.1, 0⟩ : T22).kind_), .i .i64 ((⟨9, r345.1, 0⟩ : T22).a_), .i .i64 ((⟨9, r345.1, 0⟩ : T22).b_)] 0] = some (.b r357) := tells_eq inj48 (a := (⟨9, r345.1, 0⟩ : T22)) q358
           obtain rfl := Option.some.inj q360
           simp -implicitDefEqProofs [q361, c358]
         simp -implicitDefEqProofs [q361]) ?_
     obtain rfl := leafS h
     exact VW.ret (VRet.fin (by simp [eB66]))
   refine VW.seq ?_
   obtain ⟨e348, ⟨f349a, f349b, f349c, f349d⟩, h⟩ := bindI h
   try simp only [Int.toNat_natCast, Int.reduceToNat] at f349a f349b f349c f349d
   obtain ⟨r350, q351, h⟩ := bindE h
   have c351 := tl98 q351
   refine VW.rA (tm 67 [(2, .ptr 0 0 0), (7, .ptr 1 0 0), (10, .b r345.2), (11, .i .i64 r350.1), (12, .b r350.2)]) [some (3, [[.i .i64 0, .i .i64 0, .i .i64 0]]), some (3, [[.i .i64 9, .i .i64 r345.1, .i .i64 0]])] [] hC (VW.seq (VW.rA (tm 67 [(2, .ptr 0 0 0), (7, .ptr 1 0 0), (10, .b r345.2), (12, .b r350.2)]) [some (3, [[.i .i64 0, .i .i64 0, .i .i64 0]]), some (3, [[.i .i64 9, .i .i64 r345.1, .i .i64 r350.1]])] [] hC (VW.rA (tm 67 [(2, .ptr 0 0 0), (7, .ptr 1 0 0), (10, .b (r345.2 && r350.2))]) [some (3, [[.i .i64 0, .i .i64 0, .i .i64 0]]), some (3, [[.i .i64 9, .i .i64 r345.1, .i .i64 r350.1]])] [] hC (VW.seq ?_)))) (h := by simp -implicitDefEqProofs [f349a, f349b, f349c, f349d, c351])
   obtain ⟨w354, q355, h⟩ := bindE h
   refine VW.evalGA [[0, 1, 2, 3, 4, 5, 6], [0, 1, 2, 3, 5, 4, 6], [1, 0, 2, 3, 4, 5, 6], [1, 0, 2, 3, 5, 4, 6], [1, 2, 0, 3, 4, 5, 6], [1, 2, 0, 3, 5, 4, 6], [1, 2, 3, 0, 4, 5, 6], [1, 2, 3, 0, 5, 4, 6], [1, 2, 3, 4, 0, 5, 6]] (tm 67 [(2, .ptr 0 0 0), (3, .b w354)]) [some (3, [[.i .i64 9, .i .i64 r345.1, .i .i64 r350.1]]), some (3, [[.i .i64 9, .i .i64 r345.1, .i .i64 r350.1]])] [] hC mixed (by kernel_rfl) (by
       obtain ⟨q356, q355⟩ | ⟨q356, rfl⟩ := gdT q355
       · obtain ⟨r352, q353, q355⟩ := bindQ q355
         have c353 : F48 [.cptr [.i .i64 ((⟨9, r345.1, r350.1⟩ : T22).kind_), .i .i64 ((⟨9, r345.1, r350.1⟩ : T22).a_), .i .i64 ((⟨9, r345.1, r350.1⟩ : T22).b_)] 0] = some (.b r352) := tells_eq inj48 (a := (⟨9, r345.1, r350.1⟩ : T22)) q353
         obtain rfl := Option.some.inj q355
         simp -implicitDefEqProofs [q356, c353]
       simp -implicitDefEqProofs [q356]) ?_
   obtain rfl := leafS h
   exact VW.ret (VRet.fin (by simp [eB66]))
 rintro _ h
 replace h : (g66_j1).bind _ = _ := h
 rw [g66_j1] at h
 refine VW.seq (VW.rA (tm 67 [(2, .ptr 0 0 0), (3, .b false)]) [some (3, [[.i .i64 0, .i .i64 0, .i .i64 0]])] [] hC ?_)
 obtain rfl := leafS h
 exact VW.ret (VRet.fin (by simp [eB66]))
theorem tl66 {text : ByteArray} {r : T22 × Bool} (h : g66 text = some r) : F66 [.str text] = some (.tup [.agg [.i .i64 r.1.kind_, .i .i64 r.1.a_, .i .i64 r.1.b_], .b r.2]) := tells_eq inj66 (a := text) h
noncomputable def g23 (text : ByteArray) : Option (T22 × Int) :=
(g66 text).bind fun r1 =>
if (!r1.2) = true then
some ((⟨0, 0, 0⟩ : T22), 5)
else
some (r1.1, 0)
def eA23 (a : ByteArray) : List V := [.str a]
def eB23 (r : T22 × Int) : V := .tup [.agg [.i .i64 r.1.kind_, .i .i64 r.1.a_, .i .i64 r.1.b_], .i .i64 r.2]
theorem inj23 (a a' : ByteArray) (h : eA23 a = eA23 a') : a = a' := by
  obtain i23 := a
  obtain i24 := a'
  simp only [eA23, List.cons.injEq, V.i.injEq, V.b.injEq, V.f.injEq, V.str.injEq, V.sl.injEq, V.agg.injEq, V.cptr.injEq, true_and, and_true] at h
  simp_all
noncomputable def F23 : List V → Option V := tells (fun a => g23 a) eA23 eB23
/- loop.example/g01229/spec.ReadAct -/
theorem ok23 : Tells Tryd.prog 23 F23 := by
 refine Tells.go 15 Tryd.func23 rfl rfl rfl (by kernel_rfl) (fun _ => rfl) ?_
 rintro text r h
 simp only [eA23, en, Nat.reduceAdd]
 replace h : (g23 text).bind some = some r := bindS h
 rw [g23] at h
 have hC : CEnv.Ok Tryd.prog [(66, F66)] := ⟨.inl ok66, trivial⟩
 refine VW.seq (VW.rA (tm 15 [(0, .str text), (2, .ptr 0 0 0)]) [some (3, [[.i .i64 0, .i .i64 0, .i .i64 0]])] [] hC (VW.seq ?_))
 obtain ⟨r1, q2, h⟩ := bindE h
 have c2 := tl66 q2
 refine VW.rA (tm 15 [(2, .ptr 0 0 0), (4, .ptr 1 0 0), (5, .b r1.2)]) [some (3, [[.i .i64 0, .i .i64 0, .i .i64 0]]), some (3, [[.i .i64 r1.1.kind_, .i .i64 r1.1.a_, .i .i64 r1.1.b_]])] [] hC (VW.seq (VW.seq (VW.rA (tm 15 [(2, .ptr 0 0 0), (4, .ptr 1 0 0), (12, .b (!r1.2))]) [some (3, [[.i .i64 0, .i .i64 0, .i .i64 0]]), some (3, [[.i .i64 r1.1.kind_, .i .i64 r1.1.a_, .i .i64 r1.1.b_]])] [] hC (VW.condI h (fun h => ?_) (fun h => ?_))))) (h := by simp -implicitDefEqProofs [c2])
 · refine VW.seq (VW.rA (tm 15 [(2, .ptr 0 0 0), (3, .i .i64 5)]) [some (3, [[.i .i64 0, .i .i64 0, .i .i64 0]]), some (3, [[.i .i64 r1.1.kind_, .i .i64 r1.1.a_, .i .i64 r1.1.b_]])] [] hC ?_)
   obtain rfl := leafS h
   exact VW.ret (VRet.fin (by simp [eB23]))
 refine VW.skip (VW.seq (VW.rA (tm 15 [(2, .ptr 0 0 0), (3, .i .i64 0)]) [some (3, [[.i .i64 r1.1.kind_, .i .i64 r1.1.a_, .i .i64 r1.1.b_]]), some (3, [[.i .i64 r1.1.kind_, .i .i64 r1.1.a_, .i .i64 r1.1.b_]])] [] hC ?_))
 obtain rfl := leafS h
 exact VW.ret (VRet.fin (by simp [eB23]))
theorem tl23 {text : ByteArray} {r : T22 × Int} (h : g23 text = some r) : F23 [.str text] = some (.tup [.agg [.i .i64 r.1.kind_, .i .i64 r.1.a_, .i .i64 r.1.b_], .i .i64 r.2]) := tells_eq inj23 (a := text) h
noncomputable def g51 (kind : Int) : Option (Bool) :=
some (((eqI kind 1 || eqI kind 5) || eqI kind 6) || eqI kind 8)
def eA51 (a : Int) : List V := [.i .i64 a]
def eB51 (r : Bool) : V := .b r
theorem inj51 (a a' : Int) (h : eA51 a = eA51 a') : a = a' := by
  obtain i25 := a
  obtain i26 := a'
  simp only [eA51, List.cons.injEq, V.i.injEq, V.b.injEq, V.f.injEq, V.str.injEq, V.sl.injEq, V.agg.injEq, V.cptr.injEq, true_and, and_true] at h
  simp_all
noncomputable def F51 : List V → Option V := tells (fun a => g51 a) eA51 eB51
/- loop.example/g01229/impl.hasB -/
theorem ok51 : Tells Tryd.prog 51 F51 := by
 refine Tells.go 17 Tryd.func51 rfl rfl rfl (by kernel_rfl) (fun _ => rfl) ?_
 rintro kind r h
 simp only [eA51, en, Nat.reduceAdd]
 replace h : (g51 kind).bind some = some r := bindS h
 rw [g51] at h
 have hC : CEnv.Ok Tryd.prog [] := trivial
 refine VW.seq (VW.rA (tm 17 [(0, .i .i64 kind)]) [] [] hC (VW.seq (VW.rA (tm 17 [(2, .b (((eqI kind 1 || eqI kind 5) || eqI kind 6) || eqI kind 8))]) [] [] hC ?_)))
 obtain rfl := leafS h
 exact VW.ret (VRet.fin (by simp [eB51]))
theorem tl51 {kind : Int} {r : Bool} (h : g51 kind = some r) : F51 [.i .i64 kind] = some (.b r) := tells_eq inj51 (a := kind) h
noncomputable def g50 (a : T22) : Option (Bool) :=
(if (((((leI 1 a.kind_ && leI a.kind_ 9) && leI 0 a.a_) && leI a.a_ 999) && leI 0 a.b_) && leI a.b_ 999) = true then (g51 a.kind_).bind fun r1 => some (r1 || eqI a.b_ 0) else some false).bind fun w3 =>
some w3
def eA50 (a : T22) : List V := [.agg (pT22 a)]
def eB50 (r : Bool) : V := .b r
theorem inj50 (a a' : T22) (h : eA50 a = eA50 a') : a = a' := by
  obtain ⟨i33, i34, i35⟩ := a
  obtain ⟨i36, i37, i38⟩ := a'
  simp only [eA50, pT22, List.cons.injEq, V.i.injEq, V.b.injEq, V.f.injEq, V.str.injEq, V.sl.injEq, V.agg.injEq, V.cptr.injEq, true_and, and_true] at h
  simp_all
noncomputable def F50 : List V → Option V := tells (fun a => g50 a) eA50 eB50
/- loop.example/g01229/impl.ValidAct -/
theorem ok50 : Tells Tryd.prog 50 F50 := by
 refine Tells.go 41 Tryd.func50 rfl rfl rfl (by kernel_rfl) (fun _ => rfl) ?_
 rintro a r h
 simp only [eA50, en, Nat.reduceAdd]
 replace h : (g50 a).bind some = some r := bindS h
 rw [g50] at h
 have hC : CEnv.Ok Tryd.prog [(51, F51)] := ⟨.inl ok51, trivial⟩
 refine VW.seq (VW.rA (tm 41 [(1, .ptr 0 0 0)]) [some (3, [(pT22 a)])] [] hC (VW.seq ?_))
 obtain ⟨w3, q4, h⟩ := bindE h
 refine VW.evalA (tm 41 [(2, .b w3)]) [some (3, [(pT22 a)])] [] hC (by kernel_rfl) (by
     obtain ⟨q5, q4⟩ | ⟨q5, rfl⟩ := gdT q4
     · obtain ⟨r1, q2, q4⟩ := bindQ q4
       have c2 := tl51 q2
       obtain rfl := Option.some.inj q4
       simp -implicitDefEqProofs [q5, c2, pT22]
     simp -implicitDefEqProofs [q5, pT22]) ?_
 obtain rfl := leafS h
 exact VW.ret (VRet.fin (by simp [eB50]))
theorem tl50 {a : T22} {r : Bool} (h : g50 a = some r) : F50 [.agg [.i .i64 a.kind_, .i .i64 a.a_, .i .i64 a.b_]] = some (.b r) := tells_eq inj50 (a := a) h
noncomputable def g52 : Option (List ByteArray) :=
some [ByteArray.empty, (⟨#[108, 111, 97, 100]⟩ : ByteArray), (⟨#[107, 105, 110, 100, 108, 101]⟩ : ByteArray), (⟨#[114, 97, 107, 101]⟩ : ByteArray), (⟨#[99, 108, 101, 97, 110]⟩ : ByteArray), (⟨#[112, 97, 110, 101]⟩ : ByteArray), (⟨#[98, 114, 97, 105, 110]⟩ : ByteArray), (⟨#[109, 117, 116, 101]⟩ : ByteArray), (⟨#[100, 97, 109, 112, 101, 114]⟩ : ByteArray), (⟨#[119, 97, 105, 116]⟩ : ByteArray)]
def eA52 (a : Unit) : List V := []
def eB52 (r : List ByteArray) : V := .own 1 (rows cs_ r)
theorem inj52 (a a' : Unit) (h : eA52 a = eA52 a') : a = a' := by
  obtain ⟨⟩ := a
  obtain ⟨⟩ := a'
  simp only [eA52, List.cons.injEq, V.i.injEq, V.b.injEq, V.f.injEq, V.str.injEq, V.sl.injEq, V.agg.injEq, V.cptr.injEq, true_and, and_true] at h
  simp_all
noncomputable def F52 : List V → Option V := tells (fun a => g52) eA52 eB52
/- loop.example/g01229/impl.actWords -/
theorem ok52 : Tells Tryd.prog 52 F52 := by
 refine Tells.go 2 Tryd.func52 rfl rfl rfl (by kernel_rfl) (fun _ => rfl) ?_
 rintro ⟨⟩ r h
 simp only [eA52, en, Nat.reduceAdd]
 replace h : (g52).bind some = some r := bindS h
 rw [g52] at h
 have hC : CEnv.Ok Tryd.prog [] := trivial
 refine VW.seq (VW.rA (tm 2 []) [] [] hC (VW.seq (VW.rA (tm 2 [(0, .ref 0 0 [ByteArray.empty, (⟨#[108, 111, 97, 100]⟩ : ByteArray), (⟨#[107, 105, 110, 100, 108, 101]⟩ : ByteArray), (⟨#[114, 97, 107, 101]⟩ : ByteArray), (⟨#[99, 108, 101, 97, 110]⟩ : ByteArray), (⟨#[112, 97, 110, 101]⟩ : ByteArray), (⟨#[98, 114, 97, 105, 110]⟩ : ByteArray), (⟨#[109, 117, 116, 101]⟩ : ByteArray), (⟨#[100, 97, 109, 112, 101, 114]⟩ : ByteArray), (⟨#[119, 97, 105, 116]⟩ : ByteArray)].length)]) [some (1, rows cs_ [ByteArray.empty, (⟨#[108, 111, 97, 100]⟩ : ByteArray), (⟨#[107, 105, 110, 100, 108, 101]⟩ : ByteArray), (⟨#[114, 97, 107, 101]⟩ : ByteArray), (⟨#[99, 108, 101, 97, 110]⟩ : ByteArray), (⟨#[112, 97, 110, 101]⟩ : ByteArray), (⟨#[98, 114, 97, 105, 110]⟩ : ByteArray), (⟨#[109, 117, 116, 101]⟩ : ByteArray), (⟨#[100, 97, 109, 112, 101, 114]⟩ : ByteArray), (⟨#[119, 97, 105, 116]⟩ : ByteArray)])] [] hC ?_)))
 obtain rfl := leafS h
 exact VW.ret (VRet.fin (by simp [eB52]))
noncomputable def g96 (p0 : Int) (p1 : Int) : Option (ByteArray) := fmtIntO p0 p1
def eA96 (a : Int × Int) : List V := [.i .i64 a.1, .i .i64 a.2]
def eB96 (r : ByteArray) : V := .str r
theorem inj96 (a a' : Int × Int) (h : eA96 a = eA96 a') : a = a' := by
  obtain ⟨i39, i40⟩ := a
  obtain ⟨i41, i42⟩ := a'
  simp only [eA96, List.cons.injEq, V.i.injEq, V.b.injEq, V.f.injEq, V.str.injEq, V.sl.injEq, V.agg.injEq, V.cptr.injEq, true_and, and_true] at h
  simp_all
noncomputable def F96 : List V → Option V := tells (fun a => g96 a.1 a.2) eA96 eB96
/- strconv.FormatInt -/
theorem ok96 : Tells Tryd.prog 96 F96 := Tells.of (by kernel_rfl) (fun ⟨p0, p1⟩ r h => fmtInt_calls Tryd.laysM173 (g := 0) (by kernel_rfl) h)
theorem tl96 {p0 : Int} {p1 : Int} {r : ByteArray} (h : g96 p0 p1 = some r) : F96 [.i .i64 p0, .i .i64 p1] = some (.str r) := tells_eq inj96 (a := (p0, p1)) h
noncomputable def g97 (p0 : List ByteArray) (p1 : ByteArray) : Option (ByteArray) := joinO p0 p1
def eA97 (a : (List ByteArray) × ByteArray) : List V := [.sl 1 (rows cs_ a.1), .str a.2]
def eB97 (r : ByteArray) : V := .str r
theorem inj97 (a a' : (List ByteArray) × ByteArray) (h : eA97 a = eA97 a') : a = a' := by
  obtain ⟨i43, i44⟩ := a
  obtain ⟨i45, i46⟩ := a'
  simp only [eA97, List.cons.injEq, V.i.injEq, V.b.injEq, V.f.injEq, V.str.injEq, V.sl.injEq, V.agg.injEq, V.cptr.injEq, true_and, and_true] at h
  simp_all [ri cs__inj]
noncomputable def F97 : List V → Option V := tells (fun a => g97 a.1 a.2) eA97 eB97
/- strings.Join -/
theorem ok97 : Tells Tryd.prog 97 F97 := Tells.of (by kernel_rfl) (fun ⟨p0, p1⟩ r h => join_calls Tryd.lays156 Tryd.Builder_Extra_156 h)
theorem tl97 {p0 : List ByteArray} {p1 : ByteArray} {r : ByteArray} (h : g97 p0 p1 = some r) : F97 [.sl 1 (rows cs_ p0), .str p1] = some (.str r) := tells_eq inj97 (a := (p0, p1)) h
noncomputable def g53_j1 (l26 : List ByteArray) : Option (ByteArray) :=
(g97 l26 (⟨#[32]⟩ : ByteArray)).bind fun r27 =>
some r27
noncomputable def g53_L1 (list : List Int) : (Int × (List ByteArray)) → Option ((Int × (List ByteArray)) ⊕ (List ByteArray))
| (x_45, l46) =>
if ltI x_45 (list.length : Int) = true then
(idx list x_45).bind fun e48 =>
(g96 e48 10).bind fun r50 =>
(appK 16 l46 [r50]).bind fun u52 =>
some (.inl (aI .i64 x_45 1, (l46 ++ [r50])))
else
some (.inr l46)
noncomputable def g53 (list : List Int) : Option (ByteArray) :=
(loopO (g53_L1 list) (0, [])).bind fun w => g53_j1 w
def eA53 (a : List Int) : List V := [.sl 1 (rows ci_i64 a)]
def eB53 (r : ByteArray) : V := .str r
theorem inj53 (a a' : List Int) (h : eA53 a = eA53 a') : a = a' := by
  obtain i47 := a
  obtain i48 := a'
  simp only [eA53, List.cons.injEq, V.i.injEq, V.b.injEq, V.f.injEq, V.str.injEq, V.sl.injEq, V.agg.injEq, V.cptr.injEq, true_and, and_true] at h
  simp_all [ri ci_i64_inj]
noncomputable def F53 : List V → Option V := tells (fun a => g53 a) eA53 eB53
/- loop.example/g01229/impl.decimals -/
theorem ok53 : Tells Tryd.prog 53 F53 := by
 refine Tells.go 21 Tryd.func53 rfl rfl rfl (by kernel_rfl) (fun _ => rfl) ?_
 rintro list r h
 simp only [eA53, en, Nat.reduceAdd]
 replace h : (g53 list).bind some = some r := bindS h
 rw [g53] at h
 have hC : CEnv.Ok Tryd.prog [(96, F96), (97, F97)] := ⟨.inl ok96, .inl ok97, trivial⟩
 refine VW.seq (VW.rA (tm 21 [(0, .sl 1 (rows ci_i64 list))]) [] [] hC (VW.seq (VW.rA (tm 21 [(0, .sl 1 (rows ci_i64 list)), (3, .ref 0 0 0)]) [some (1, rows cs_ [])] [] hC (VW.join (fun (v : List ByteArray) => (⟨(tm 21 [(3, .ref 0 0 v.length)]), [some (1, rows cs_ v)], []⟩ : VS)) (fun v => (g53_j1 (v)).bind some = some r) ?_ ?_))))
 · refine VW.seq (VW.rA (tm 21 [(3, .ref 0 0 0), (7, .sl 1 (rows ci_i64 list)), (8, .i .i64 (list.length : Int)), (9, .i .i64 0)]) [some (1, rows cs_ [])] [] hC (VW.block ?_))
   obtain ⟨w_1, hw_1, h⟩ := bindE h
   refine VW.loopO (fun (x : Int × (List ByteArray)) => (⟨(tm 21 [(3, .ref 0 0 x.2.length), (7, .sl 1 (rows ci_i64 list)), (8, .i .i64 (list.length : Int)), (9, .i .i64 x.1)]), [some (1, rows cs_ x.2)], []⟩ : VS)) hw_1 (Ent.tu 1) ?_
   rintro n_1 ⟨x_45, l46⟩ h1
   rw [g53_L1] at h1
   refine VW.seq (VW.rA (tm 21 [(3, .ref 0 0 l46.length), (7, .sl 1 (rows ci_i64 list)), (8, .i .i64 (list.length : Int)), (9, .i .i64 x_45), (10, .b (ltI x_45 (list.length : Int)))]) [some (1, rows cs_ l46)] [] hC (VW.seq (VW.condJ h1 (fun h1 => ?_) (fun h1 => ?_))))
   · refine VW.exit ?_
     have e_ := leafR h1
     subst w_1
     exact vnext l46 h (Ent.tu 1)
   refine VW.skip (VW.seq (VW.block (VW.seq ?_)))
   obtain ⟨e48, ⟨f49a, f49b, f49c, f49d⟩, h1⟩ := bindI h1
   refine VW.rA (tm 21 [(3, .ref 0 0 l46.length), (5, .i .i64 e48), (7, .sl 1 (rows ci_i64 list)), (8, .i .i64 (list.length : Int)), (9, .i .i64 x_45)]) [some (1, rows cs_ l46)] [] hC ?_ (h := by simp -implicitDefEqProofs [f49a, f49b, f49c, f49d])
   obtain ⟨r50, q51, h1⟩ := bindE h1
   have c51 := tl96 q51
   obtain ⟨u52, ⟨f53a, f53b⟩, h1⟩ := bindP h1
   try simp only [Int.toNat_natCast, Int.reduceToNat, List.length_cons, List.length_nil, Nat.reduceAdd, Nat.zero_add] at f53a f53b
   exact VW.rA (tm 21 [(3, .ref 0 0 (l46 ++ [r50]).length), (7, .sl 1 (rows ci_i64 list)), (8, .i .i64 (list.length : Int)), (9, .i .i64 x_45)]) [some (1, rows cs_ (l46 ++ [r50])), some (1, rows cs_ [r50])] [] hC (VW.rA (tm 21 [(3, .ref 0 0 (l46 ++ [r50]).length), (7, .sl 1 (rows ci_i64 list)), (8, .i .i64 (list.length : Int)), (9, .i .i64 (aI .i64 x_45 1))]) [some (1, rows cs_ (l46 ++ [r50])), some (1, rows cs_ [r50])] [] hC (vnext (aI .i64 x_45 1, (l46 ++ [r50])) (leafL h1) (Ent.tu 1))) (h := by simp -implicitDefEqProofs [c51, f53a, f53b])
 rintro l26 h
 replace h : (g53_j1 l26).bind _ = _ := h
 rw [g53_j1] at h
 refine VW.seq ?_
 obtain ⟨r27, q28, h⟩ := bindE h
 have c28 := tl97 q28
 refine VW.rA (tm 21 [(2, .str r27)]) [some (1, rows cs_ l26)] [] hC ?_ (h := by simp -implicitDefEqProofs [c28])
 obtain rfl := leafS h
 exact VW.ret (VRet.fin (by simp [eB53]))
theorem tl53 {list : List Int} {r : ByteArray} (h : g53 list = some r) : F53 [.sl 1 (rows ci_i64 list)] = some (.str r) := tells_eq inj53 (a := list) h
noncomputable def g12 (a : T22) : Option (ByteArray) :=
(g50 a).bind fun r1 =>
if (!r1) = true then
some ByteArray.empty
else
(g51 a.kind_).bind fun r4 =>
if r4 = true then
(g52).bind fun r7 =>
(idx r7 a.kind_).bind fun e9 =>
(catS e9 (⟨#[32]⟩ : ByteArray)).bind fun z11 =>
(g53 [a.a_, a.b_]).bind fun r13 =>
(catS z11 r13).bind fun z15 =>
some z15
else
(g52).bind fun r17 =>
(idx r17 a.kind_).bind fun e19 =>
(catS e19 (⟨#[32]⟩ : ByteArray)).bind fun z21 =>
(g53 [a.a_]).bind fun r23 =>
(catS z21 r23).bind fun z25 =>
some z25
def eA12 (a : T22) : List V := [.agg (pT22 a)]
def eB12 (r : ByteArray) : V := .str r
theorem inj12 (a a' : T22) (h : eA12 a = eA12 a') : a = a' := by
  obtain ⟨i49, i50, i51⟩ := a
  obtain ⟨i52, i53, i54⟩ := a'
  simp only [eA12, pT22, List.cons.injEq, V.i.injEq, V.b.injEq, V.f.injEq, V.str.injEq, V.sl.injEq, V.agg.injEq, V.cptr.injEq, true_and, and_true] at h
  simp_all
noncomputable def F12 : List V → Option V := tells (fun a => g12 a) eA12 eB12
/- loop.example/g01229/impl.ActText -/
theorem ok12 : Tells Tryd.prog 12 F12 := by
 refine Tells.go 33 Tryd.func12 rfl rfl rfl (by kernel_rfl) (fun _ => rfl) ?_
 rintro a r h
 simp only [eA12, en, Nat.reduceAdd]
 replace h : (g12 a).bind some = some r := bindS h
 rw [g12] at h
 have hC : CEnv.Ok Tryd.prog [(50, F50), (51, F51), (52, fzF F52), (53, F53)] := ⟨.inl ok50, .inl ok51, .inl ok52.fz, .inl ok53, trivial⟩
 refine VW.seq (VW.rA (tm 33 [(1, .ptr 0 0 0)]) [some (3, [(pT22 a)])] [] hC (VW.seq (VW.seq ?_)))
 obtain ⟨r1, q2, h⟩ := bindE h
 have c2 : F50 [.agg (pT22 a)] = some (.b r1) := tells_eq inj50 (a := a) q2
 refine VW.rA (tm 33 [(1, .ptr 0 0 0), (5, .b (!r1))]) [some (3, [(pT22 a)])] [] hC (VW.condI h (fun h => ?_) (fun h => ?_)) (h := by simp -implicitDefEqProofs [c2])
 · refine VW.seq (VW.rA (tm 33 [(2, .str ByteArray.empty)]) [some (3, [(pT22 a)])] [] hC ?_)
   obtain rfl := leafS h
   exact VW.ret (VRet.fin (by simp [eB12]))
 refine VW.skip (VW.seq (VW.seq ?_))
 obtain ⟨r4, q5, h⟩ := bindE h
 have c5 := tl51 q5
 refine VW.rA (tm 33 [(1, .ptr 0 0 0), (8, .b r4)]) [some (3, [(pT22 a)])] [] hC (VW.condJ h (fun h => ?_) (fun h => ?_)) (h := by simp -implicitDefEqProofs [c5])
 · refine VW.skip (VW.seq ?_)
   obtain ⟨r17, q18, h⟩ := bindE h
   have c18 : F52 [] = some (.own 1 (rows cs_ r17)) := tells_eq inj52 (a := ()) q18
   replace c18 : fzF F52 [] = some (.sl 1 (rows cs_ r17)) := (fzF_eq c18).trans (by simp)
   obtain ⟨e19, ⟨f20a, f20b, f20c, f20d⟩, h⟩ := bindI h
   obtain ⟨z21, q22, h⟩ := bindE h
   obtain ⟨r23, q24, h⟩ := bindE h
   have c24 : F53 [.sl 1 [[.i .i64 a.a_]]] = some (.str r23) := tells_eq inj53 (a := [a.a_]) q24
   obtain ⟨z25, q26, h⟩ := bindE h
   refine VW.rD (tm 33 [(2, .str z25)]) [some (3, [(pT22 a)]), some (1, rows ci_i64 [a.a_])] [] hC mixed ?_ (h := by simp -implicitDefEqProofs [c18, f20a, f20b, f20c, f20d, q22, c24, q26])
   obtain rfl := leafS h
   exact VW.ret (VRet.fin (by simp [eB12]))
 refine VW.seq ?_
 obtain ⟨r7, q8, h⟩ := bindE h
 have c8 : F52 [] = some (.own 1 (rows cs_ r7)) := tells_eq inj52 (a := ()) q8
 replace c8 : fzF F52 [] = some (.sl 1 (rows cs_ r7)) := (fzF_eq c8).trans (by simp)
 obtain ⟨e9, ⟨f10a, f10b, f10c, f10d⟩, h⟩ := bindI h
 obtain ⟨z11, q12, h⟩ := bindE h
 obtain ⟨r13, q14, h⟩ := bindE h
 have c14 : F53 [.sl 1 [[.i .i64 a.a_], [.i .i64 a.b_]]] = some (.str r13) := tells_eq inj53 (a := [a.a_, a.b_]) q14
 obtain ⟨z15, q16, h⟩ := bindE h
 refine VW.rD (tm 33 [(2, .str z15)]) [some (3, [(pT22 a)]), some (1, rows ci_i64 [a.a_, a.b_])] [] hC mixed ?_ (h := by simp -implicitDefEqProofs [c8, f10a, f10b, f10c, f10d, q12, c14, q16])
 obtain rfl := leafS h
 exact VW.ret (VRet.fin (by simp [eB12]))
theorem tl12 {a : T22} {r : ByteArray} (h : g12 a = some r) : F12 [.agg [.i .i64 a.kind_, .i .i64 a.a_, .i .i64 a.b_]] = some (.str r) := tells_eq inj12 (a := a) h
noncomputable def g99 (p0 : ByteArray) (p1 : ByteArray) : Option (List ByteArray) := splitO p0 p1
def eA99 (a : ByteArray × ByteArray) : List V := [.str a.1, .str a.2]
def eB99 (r : List ByteArray) : V := .own 1 (rows cs_ r)
theorem inj99 (a a' : ByteArray × ByteArray) (h : eA99 a = eA99 a') : a = a' := by
  obtain ⟨i55, i56⟩ := a
  obtain ⟨i57, i58⟩ := a'
  simp only [eA99, List.cons.injEq, V.i.injEq, V.b.injEq, V.f.injEq, V.str.injEq, V.sl.injEq, V.agg.injEq, V.cptr.injEq, true_and, and_true] at h
  simp_all
noncomputable def F99 : List V → Option V := tells (fun a => g99 a.1 a.2) eA99 eB99
/- strings.Split -/
theorem ok99 : Tells Tryd.prog 99 F99 := Tells.of (by kernel_rfl) (fun ⟨p0, p1⟩ r h => split_calls Tryd.lays146 (by kernel_rfl) (by kernel_rfl) h)
theorem tl99 {p0 : ByteArray} {p1 : ByteArray} {r : List ByteArray} (h : g99 p0 p1 = some r) : F99 [.str p0, .str p1] = some (.own 1 (rows cs_ r)) := tells_eq inj99 (a := (p0, p1)) h
noncomputable def g68_j1 : Option (Int) :=
some (-1)
noncomputable def g68_L1 (s : List ByteArray) (v_ : ByteArray) : (Int) → Option ((Int) ⊕ ((Unit) ⊕ (Int)))
| x_24 =>
if ltI x_24 (s.length : Int) = true then
(idx s x_24).bind fun e26 =>
if eqS v_ e26 = true then
some (.inr (.inr x_24))
else
some (.inl (aI .i64 x_24 1))
else
some (.inr (.inl ()))
noncomputable def g68 (s : List ByteArray) (v_ : ByteArray) : Option (Int) :=
(loopO (g68_L1 s v_) 0).bind fun w => match w with
| .inl y => g68_j1
| .inr r => some r
def eA68 (a : (List ByteArray) × ByteArray) : List V := [.sl 1 (rows cs_ a.1), .str a.2]
def eB68 (r : Int) : V := .i .i64 r
theorem inj68 (a a' : (List ByteArray) × ByteArray) (h : eA68 a = eA68 a') : a = a' := by
  obtain ⟨i59, i60⟩ := a
  obtain ⟨i61, i62⟩ := a'
  simp only [eA68, List.cons.injEq, V.i.injEq, V.b.injEq, V.f.injEq, V.str.injEq, V.sl.injEq, V.agg.injEq, V.cptr.injEq, true_and, and_true] at h
  simp_all [ri cs__inj]
noncomputable def F68 : List V → Option V := tells (fun a => g68 a.1 a.2) eA68 eB68
/- slices.Index[[]string,string] -/
theorem ok68 : Tells Tryd.prog 68 F68 := by
 refine Tells.go 19 Tryd.func68 rfl rfl rfl (by kernel_rfl) (fun _ => rfl) ?_
 rintro ⟨s, v_⟩ r h
 simp only [eA68, en, Nat.reduceAdd]
 replace h : (g68 s v_).bind some = some r := bindS h
 rw [g68] at h
 have hC : CEnv.Ok Tryd.prog [] := trivial
 refine VW.seq (VW.rA (tm 19 [(0, .sl 1 (rows cs_ s)), (1, .str v_)]) [] [] hC (VW.join (fun (v : Unit) => (⟨(tm 19 []), [], []⟩ : VS)) (fun v => (g68_j1).bind some = some r) ?_ ?_))
 · refine VW.seq (VW.rA (tm 19 [(0, .sl 1 (rows cs_ s)), (1, .str v_), (7, .i .i64 (s.length : Int)), (8, .i .i64 0)]) [] [] hC (VW.block ?_))
   obtain ⟨w_1, hw_1, h⟩ := bindE h
   refine VW.loopO (fun (x : Int) => (⟨(tm 19 [(0, .sl 1 (rows cs_ s)), (1, .str v_), (7, .i .i64 (s.length : Int)), (8, .i .i64 x)]), [], []⟩ : VS)) hw_1 (Ent.tu 0) ?_
   rintro n_1 x_24 h1
   rw [g68_L1] at h1
   refine VW.seq (VW.rA (tm 19 [(0, .sl 1 (rows cs_ s)), (1, .str v_), (7, .i .i64 (s.length : Int)), (8, .i .i64 x_24), (9, .b (ltI x_24 (s.length : Int)))]) [] [] hC (VW.seq (VW.condJ h1 (fun h1 => ?_) (fun h1 => ?_))))
   · refine VW.exit ?_
     have e_ := leafR h1
     subst w_1
     exact vnext () h (Ent.tu 0)
   refine VW.skip (VW.seq (VW.block (VW.seq (VW.rA (tm 19 [(0, .sl 1 (rows cs_ s)), (1, .str v_), (5, .i .i64 x_24), (7, .i .i64 (s.length : Int)), (8, .i .i64 x_24)]) [] [] hC (VW.seq ?_)))))
   obtain ⟨e26, ⟨f27a, f27b, f27c, f27d⟩, h1⟩ := bindI h1
   refine VW.rA (tm 19 [(0, .sl 1 (rows cs_ s)), (1, .str v_), (5, .i .i64 x_24), (7, .i .i64 (s.length : Int)), (8, .i .i64 x_24), (16, .b (eqS v_ e26))]) [] [] hC (VW.condI h1 (fun h1 => ?_) (fun h1 => ?_)) (h := by simp -implicitDefEqProofs [f27a, f27b, f27c, f27d])
   · refine VW.seq (VW.rA (tm 19 [(4, .i .i64 x_24)]) [] [] hC ?_)
     have e_ := leafR h1
     subst w_1
     obtain rfl := leafS h
     exact VW.ret (VRet.fin (by simp [eB68]))
   exact VW.skip (VW.rA (tm 19 [(0, .sl 1 (rows cs_ s)), (1, .str v_), (7, .i .i64 (s.length : Int)), (8, .i .i64 (aI .i64 x_24 1))]) [] [] hC (vnext (aI .i64 x_24 1) (leafL h1) (Ent.tu 0)))
 rintro _ h
 replace h : (g68_j1).bind _ = _ := h
 rw [g68_j1] at h
 refine VW.seq (VW.rA (tm 19 [(4, .i .i64 (-1))]) [] [] hC ?_)
 obtain rfl := leafS h
 exact VW.ret (VRet.fin (by simp [eB68]))
theorem tl68 {s : List ByteArray} {v_ : ByteArray} {r : Int} (h : g68 s v_ = some r) : F68 [.sl 1 (rows cs_ s), .str v_] = some (.i .i64 r) := tells_eq inj68 (a := (s, v_)) h
noncomputable def g69 (r_ : T129) : Option (ByteArray × T129) :=
if eqI (r_.list_.length : Int) 0 = true then
some (ByteArray.empty, (⟨r_.list_, true⟩ : T129))
else
(idx r_.list_ 0).bind fun e2 =>
(cutK 1 (r_.list_.length : Int) r_.list_.length).bind fun u4 =>
some (e2, (⟨(r_.list_.tail), r_.bad_⟩ : T129))
def eA69 (a : T129) : List V := [.agg (pT129 a)]
def eB69 (r : ByteArray × T129) : V := .tup [.str r.1, .agg [.sl 1 (rows cs_ r.2.list_), .b r.2.bad_]]
theorem inj69 (a a' : T129) (h : eA69 a = eA69 a') : a = a' := by
  obtain ⟨i63, i64⟩ := a
  obtain ⟨i65, i66⟩ := a'
  simp only [eA69, pT129, List.cons.injEq, V.i.injEq, V.b.injEq, V.f.injEq, V.str.injEq, V.sl.injEq, V.agg.injEq, V.cptr.injEq, true_and, and_true] at h
  simp_all [ri cs__inj]
noncomputable def F69 : List V → Option V := tells (fun a => g69 a) eA69 eB69
/- (*loop.example/g01229/impl.words).next -/
theorem ok69 : TellsM Tryd.prog 69 F69 := by
  refine TellsM.of Tryd.func69 (by kernel_rfl) rfl rfl rfl ?_
  rintro r_ r h cs vs v_ cs' hE1 hE2 gg mm bb nn hb
  simp only [eA69, List.cons.injEq, V.agg.injEq] at hE1
  obtain ⟨rfl, rfl⟩ := hE1
  have hS : ∀ x, (mm.set bb x)[bb]? = some x := at_set (List.getElem?_eq_some_iff.1 hb).1
  replace h : (g69 r_).bind some = some r := bindS h
  rw [g69] at h
  have hC : CEnv.Ok Tryd.prog [] := trivial
  refine VW.ent (s := (⟨(tm 28 [(0, .ptr bb 0 0)]), (mm.set bb (some (nn, [[.sl 1 (rows cs_ r_.list_), .b r_.bad_]]))), gg⟩ : VS)) (Ent.eqs (by simp only [List.length_cons, List.length_nil, Nat.reduceAdd, Nat.reduceSub]; rw [tm_init]; simp) (set_self hb) rfl) (VW.seq (VW.rA (tm 28 [(0, .ptr bb 0 0)]) (mm.set bb (some (nn, [[.sl 1 (rows cs_ r_.list_), .b r_.bad_]]))) gg hC (VW.seq (VW.seq (VW.rA (tm 28 [(0, .ptr bb 0 0), (9, .b (eqI (r_.list_.length : Int) 0))]) (mm.set bb (some (nn, [[.sl 1 (rows cs_ r_.list_), .b r_.bad_]]))) gg hC (VW.condI h (fun h => ?_) (fun h => ?_)) (h := by simp -implicitDefEqProofs [hS])))) (h := by simp -implicitDefEqProofs [hS])))
  · refine VW.seq (VW.rA (tm 28 []) (mm.set bb (some (nn, [[.sl 1 (rows cs_ r_.list_), .b true]]))) gg hC (VW.seq (VW.rA (tm 28 [(2, .str ByteArray.empty)]) (mm.set bb (some (nn, [[.sl 1 (rows cs_ r_.list_), .b true]]))) gg hC ?_ (h := by simp -implicitDefEqProofs [hS]))) (h := by simp -implicitDefEqProofs [hS]))
    obtain rfl := leafS h
    simp only [eB69, V.tup.injEq, V.agg.injEq, List.cons.injEq, and_true] at hE2
    obtain ⟨rfl, rfl⟩ := hE2
    exact VW.ret (VInE.fin (by simp) (by simp) rfl)
  refine VW.skip (VW.seq ?_)
  obtain ⟨e2, ⟨f3a, f3b, f3c, f3d⟩, h⟩ := bindI h
  try simp only [Int.toNat_natCast, Int.reduceToNat] at f3a f3b f3c f3d
  refine VW.rA (tm 28 [(0, .ptr bb 0 0), (3, .str e2)]) (mm.set bb (some (nn, [[.sl 1 (rows cs_ r_.list_), .b r_.bad_]]))) gg hC (VW.seq ?_) (h := by simp -implicitDefEqProofs [f3a, f3b, f3c, f3d, hS])
  obtain ⟨u4, ⟨f5a, f5b, f5c, f5d, f5e⟩, h⟩ := bindC h
  try simp only [Int.toNat_natCast, Int.reduceToNat, List.length_cons, List.length_nil, Nat.reduceAdd, Nat.zero_add] at f5a f5b f5c f5d f5e
  refine VW.rA (tm 28 [(3, .str e2)]) (mm.set bb (some (nn, [[.sl 1 (rows cs_ (r_.list_.tail)), .b r_.bad_]]))) gg hC (VW.seq (VW.rA (tm 28 [(2, .str e2)]) (mm.set bb (some (nn, [[.sl 1 (rows cs_ (r_.list_.tail)), .b r_.bad_]]))) gg hC ?_ (h := by simp -implicitDefEqProofs [hS]))) (h := by simp -implicitDefEqProofs [f5a, f5b, f5c, f5d, f5e, hS])
  obtain rfl := leafS h
  simp only [eB69, V.tup.injEq, V.agg.injEq, List.cons.injEq, and_true] at hE2
  obtain ⟨rfl, rfl⟩ := hE2
  exact VW.ret (VInE.fin (by simp) (by simp) rfl)
noncomputable def g100 (p0 : ByteArray) (p1 : Int) (p2 : Int) : Option (Int × Bool) := parseIntO p0 p1 p2
def eA100 (a : ByteArray × Int × Int) : List V := [.str a.1, .i .i64 a.2.1, .i .i64 a.2.2]
def eB100 (r : Int × Bool) : V := .tup [.i .i64 r.1, errV r.2]
theorem inj100 (a a' : ByteArray × Int × Int) (h : eA100 a = eA100 a') : a = a' := by
  obtain ⟨i67, i68, i69⟩ := a
  obtain ⟨i70, i71, i72⟩ := a'
  simp only [eA100, List.cons.injEq, V.i.injEq, V.b.injEq, V.f.injEq, V.str.injEq, V.sl.injEq, V.agg.injEq, V.cptr.injEq, true_and, and_true] at h
  simp_all
noncomputable def F100 : List V → Option V := tells (fun a => g100 a.1 a.2.1 a.2.2) eA100 eB100
/- strconv.ParseInt -/
theorem ok100 : Tells Tryd.prog 100 F100 := Tells.of (by kernel_rfl) (fun ⟨p0, p1, p2⟩ r h => parseInt_calls Tryd.laysC174 (g1 := 1) (g2 := 2) (by kernel_rfl) (by kernel_rfl) h)
theorem tl100 {p0 : ByteArray} {p1 : Int} {p2 : Int} {r : Int × Bool} (h : g100 p0 p1 p2 = some r) : F100 [.str p0, .i .i64 p1, .i .i64 p2] = some (.tup [.i .i64 r.1, errV r.2]) := tells_eq inj100 (a := (p0, p1, p2)) h
noncomputable def g70 (r_ : T129) : Option (Int × T129) :=
(g69 r_).bind fun r1 =>
(g100 r1.1 10 64).bind fun r3 =>
some (r3.1, (⟨r1.2.list_, (r1.2.bad_ || r3.2)⟩ : T129))
def eA70 (a : T129) : List V := [.agg (pT129 a)]
def eB70 (r : Int × T129) : V := .tup [.i .i64 r.1, .agg [.sl 1 (rows cs_ r.2.list_), .b r.2.bad_]]
theorem inj70 (a a' : T129) (h : eA70 a = eA70 a') : a = a' := by
  obtain ⟨i73, i74⟩ := a
  obtain ⟨i75, i76⟩ := a'
  simp only [eA70, pT129, List.cons.injEq, V.i.injEq, V.b.injEq, V.f.injEq, V.str.injEq, V.sl.injEq, V.agg.injEq, V.cptr.injEq, true_and, and_true] at h
  simp_all [ri cs__inj]
noncomputable def F70 : List V → Option V := tells (fun a => g70 a) eA70 eB70
/- (*loop.example/g01229/impl.words).integer -/
theorem ok70 : TellsM Tryd.prog 70 F70 := by
  refine TellsM.of Tryd.func70 (by kernel_rfl) rfl rfl rfl ?_
  rintro r_ r h cs vs v_ cs' hE1 hE2 gg mm bb nn hb
  simp only [eA70, List.cons.injEq, V.agg.injEq] at hE1
  obtain ⟨rfl, rfl⟩ := hE1
  have hS : ∀ x, (mm.set bb x)[bb]? = some x := at_set (List.getElem?_eq_some_iff.1 hb).1
  replace h : (g70 r_).bind some = some r := bindS h
  rw [g70] at h
  have hC : CEnv.Ok Tryd.prog [(100, F100)] := ⟨.inl ok100, trivial⟩
  refine VW.ent (s := (⟨(tm 23 [(0, .ptr bb 0 0)]), (mm.set bb (some (nn, [[.sl 1 (rows cs_ r_.list_), .b r_.bad_]]))), gg⟩ : VS)) (Ent.eqs (by simp only [List.length_cons, List.length_nil, Nat.reduceAdd, Nat.reduceSub]; rw [tm_init]; simp) (set_self hb) rfl) (VW.seq (VW.rA (tm 23 [(0, .ptr bb 0 0)]) (mm.set bb (some (nn, [[.sl 1 (rows cs_ r_.list_), .b r_.bad_]]))) gg hC (VW.seq ?_) (h := by simp -implicitDefEqProofs [hS])))
  obtain ⟨r1, q2, h⟩ := bindE h
  have c2 : F69 [.agg [.sl 1 (rows cs_ r_.list_), .b r_.bad_]] = some (.tup [.str r1.1, .agg [.sl 1 (rows cs_ r1.2.list_), .b r1.2.bad_]]) := tells_eq inj69 (a := r_) q2
  obtain ⟨r3, q4, h⟩ := bindE h
  have c4 := tl100 q4
  refine VW.evalM (CM := [(69, F69)]) (tm 23 [(0, .ptr bb 0 0), (3, .i .i64 r3.1), (4, errV r3.2)]) (mm.set bb (some (nn, [[.sl 1 (rows cs_ r1.2.list_), .b r1.2.bad_]]))) gg hC ⟨ok69, trivial⟩ (by simp -implicitDefEqProofs [c2, c4, hS]) (VW.seq (VW.rA (tm 23 [(3, .i .i64 r3.1)]) (mm.set bb (some (nn, [[.sl 1 (rows cs_ r1.2.list_), .b (r1.2.bad_ || r3.2)]]))) gg hC (VW.seq (VW.rA (tm 23 [(2, .i .i64 r3.1)]) (mm.set bb (some (nn, [[.sl 1 (rows cs_ r1.2.list_), .b (r1.2.bad_ || r3.2)]]))) gg hC ?_ (h := by simp -implicitDefEqProofs [hS]))) (h := by simp -implicitDefEqProofs [hS])))
  obtain rfl := leafS h
  simp only [eB70, V.tup.injEq, V.agg.injEq, List.cons.injEq, and_true] at hE2
  obtain ⟨rfl, rfl⟩ := hE2
  exact VW.ret (VInE.fin (by simp) (by simp) rfl)
noncomputable def g71 (r_ : T129) : Option (Bool) :=
some ((!r_.bad_) && eqI (r_.list_.length : Int) 0)
def eA71 (a : T129) : List V := [.cptr (pT129 a) 0]
def eB71 (r : Bool) : V := .b r
theorem inj71 (a a' : T129) (h : eA71 a = eA71 a') : a = a' := by
  obtain ⟨i77, i78⟩ := a
  obtain ⟨i79, i80⟩ := a'
  simp only [eA71, pT129, List.cons.injEq, V.i.injEq, V.b.injEq, V.f.injEq, V.str.injEq, V.sl.injEq, V.agg.injEq, V.cptr.injEq, true_and, and_true] at h
  simp_all [ri cs__inj]
noncomputable def F71 : List V → Option V := tells (fun a => g71 a) eA71 eB71
/- (*loop.example/g01229/impl.words).done -/
theorem ok71 : Tells Tryd.prog 71 F71 := by
 refine Tells.go 16 Tryd.func71 rfl rfl rfl (by kernel_rfl) (fun _ => rfl) ?_
 rintro r_ r h
 simp only [eA71, en, Nat.reduceAdd]
 replace h : (g71 r_).bind some = some r := bindS h
 rw [g71] at h
 have hC : CEnv.Ok Tryd.prog [] := trivial
 refine VW.seq (VW.rA (tm 16 [(0, .cptr (pT129 r_) 0)]) [] [] hC (VW.seq (VW.rA (tm 16 [(2, .b ((!r_.bad_) && eqI (r_.list_.length : Int) 0))]) [] [] hC ?_)))
 obtain rfl := leafS h
 exact VW.ret (VRet.fin (by simp [eB71]))
theorem tl71 {r_ : T129} {r : Bool} (h : g71 r_ = some r) : F71 [.cptr [.sl 1 (rows cs_ r_.list_), .b r_.bad_] 0] = some (.b r) := tells_eq inj71 (a := r_) h
noncomputable def g24_j1 (r9 : Int) (r11 : Int × T129) (text : ByteArray) (y18 : List ByteArray) (y19 : Bool) (y20 : Int) : Option (T22 × Int) :=
(g71 (⟨y18, y19⟩ : T129)).bind fun r21 =>
(if (!r21) = true then some true else (g50 (⟨r9, r11.1, y20⟩ : T22)).bind fun r23 => some (!r23)).bind fun w25 =>
(if w25 = true then some true else (g12 (⟨r9, r11.1, y20⟩ : T22)).bind fun r26 => some (!eqS r26 text)).bind fun w28 =>
if w28 = true then
some ((⟨0, 0, 0⟩ : T22), 5)
else
some ((⟨r9, r11.1, y20⟩ : T22), 0)
noncomputable def g24 (text : ByteArray) : Option (T22 × Int) :=
(g99 text (⟨#[32]⟩ : ByteArray)).bind fun r3 =>
(g52).bind fun r5 =>
(g69 (⟨r3, false⟩ : T129)).bind fun r7 =>
(g68 r5 r7.1).bind fun r9 =>
(g70 r7.2).bind fun r11 =>
(g51 r9).bind fun r35 =>
if r35 = true then
(g70 r11.2).bind fun r38 =>
g24_j1 r9 r11 text r38.2.list_ r38.2.bad_ r38.1
else
g24_j1 r9 r11 text r11.2.list_ r11.2.bad_ 0
def eA24 (a : ByteArray) : List V := [.str a]
def eB24 (r : T22 × Int) : V := .tup [.agg [.i .i64 r.1.kind_, .i .i64 r.1.a_, .i .i64 r.1.b_], .i .i64 r.2]
theorem inj24 (a a' : ByteArray) (h : eA24 a = eA24 a') : a = a' := by
  obtain i81 := a
  obtain i82 := a'
  simp only [eA24, List.cons.injEq, V.i.injEq, V.b.injEq, V.f.injEq, V.str.injEq, V.sl.injEq, V.agg.injEq, V.cptr.injEq, true_and, and_true] at h
  simp_all
noncomputable def F24 : List V → Option V := tells (fun a => g24 a) eA24 eB24
/- loop.example/g01229/impl.ReadAct -/
theorem ok24 : Tells Tryd.prog 24 F24 := by
 refine Tells.go 39 Tryd.func24 rfl rfl rfl (by kernel_rfl) (fun _ => rfl) ?_
 rintro text r h
 simp only [eA24, en, Nat.reduceAdd]
 replace h : (g24 text).bind some = some r := bindS h
 rw [g24] at h
 have hC : CEnv.Ok Tryd.prog [(12, F12), (50, F50), (51, F51), (52, fzF F52), (68, F68), (71, F71), (99, fzF F99)] := ⟨.inl ok12, .inl ok50, .inl ok51, .inl ok52.fz, .inl ok68, .inl ok71, .inl ok99.fz, trivial⟩
 refine VW.seq (VW.rA (tm 39 [(0, .str text), (2, .ptr 0 0 0)]) [some (3, [[.i .i64 0, .i .i64 0, .i .i64 0]])] [] hC (VW.seq (VW.inlS (VL.inlP 1 (tm 39 [(0, .str text), (2, .ptr 0 0 0), (7, .str text)]) [some (3, [[.i .i64 0, .i .i64 0, .i .i64 0]])] [] rfl hC (by kernel_rfl) (by simp -implicitDefEqProofs) rfl rfl Tryd.func67 rfl rfl rfl rfl (tm_length) (VW.ent (s := (⟨(tm 7 [(0, .str text)]), [some (3, [[.i .i64 0, .i .i64 0, .i .i64 0]])], ((tm 39 [(0, .str text), (2, .ptr 0 0 0), (7, .str text)]) ++ [])⟩ : VS)) (Ent.eqs (by rw [tm_init]; simp) rfl (by simp)) (VW.seq (VW.rA (tm 7 [(0, .str text)]) [some (3, [[.i .i64 0, .i .i64 0, .i .i64 0]])] ((tm 39 [(0, .str text), (2, .ptr 0 0 0), (7, .str text)]) ++ []) hC (VW.seq ?_))))))))
 obtain ⟨r3, q4, h⟩ := bindE h
 have c4 := tl99 q4
 replace c4 : fzF F99 [.str text, .str (⟨#[32]⟩ : ByteArray)] = some (.sl 1 (rows cs_ r3)) := (fzF_eq c4).trans (by simp)
 refine VW.rA (tm 7 [(2, .ptr 1 0 0)]) [some (3, [[.i .i64 0, .i .i64 0, .i .i64 0]]), some (2, [[.sl 1 (rows cs_ r3), .b false]])] ((tm 39 [(0, .str text), (2, .ptr 0 0 0), (7, .str text)]) ++ []) hC (VW.ret (VIn.ret (v := .ptr 1 0 0) (by simp) (VL.evalP (tm 39 [(0, .str text), (2, .ptr 0 0 0), (4, .ptr 1 0 0)]) [some (3, [[.i .i64 0, .i .i64 0, .i .i64 0]]), some (2, [[.sl 1 (rows cs_ r3), .b false]])] [] hC (by kernel_rfl) (by simp -implicitDefEqProofs) (VW.seq ?_)))) (h := by simp -implicitDefEqProofs [c4])
 obtain ⟨r5, q6, h⟩ := bindE h
 have c6 : F52 [] = some (.own 1 (rows cs_ r5)) := tells_eq inj52 (a := ()) q6
 replace c6 : fzF F52 [] = some (.sl 1 (rows cs_ r5)) := (fzF_eq c6).trans (by simp)
 obtain ⟨r7, q8, h⟩ := bindE h
 have c8 : F69 [.agg [.sl 1 (rows cs_ r3), .b false]] = some (.tup [.str r7.1, .agg [.sl 1 (rows cs_ r7.2.list_), .b r7.2.bad_]]) := tells_eq inj69 (a := (⟨r3, false⟩ : T129)) q8
 obtain ⟨r9, q10, h⟩ := bindE h
 have c10 := tl68 q10
 refine VW.evalM (CM := [(69, F69), (70, F70)]) (tm 39 [(0, .str text), (2, .ptr 0 0 0), (4, .ptr 1 0 0), (5, .i .i64 r9)]) [some (3, [[.i .i64 0, .i .i64 0, .i .i64 0]]), some (2, [[.sl 1 (rows cs_ r7.2.list_), .b r7.2.bad_]])] [] hC ⟨ok69, ok70, trivial⟩ (by simp -implicitDefEqProofs [c6, c8, c10]) (VW.seq ?_)
 obtain ⟨r11, q12, h⟩ := bindE h
 have c12 : F70 [.agg [.sl 1 (rows cs_ r7.2.list_), .b r7.2.bad_]] = some (.tup [.i .i64 r11.1, .agg [.sl 1 (rows cs_ r11.2.list_), .b r11.2.bad_]]) := tells_eq inj70 (a := r7.2) q12
 refine VW.evalM (CM := [(69, F69), (70, F70)]) (tm 39 [(0, .str text), (2, .ptr 0 0 0), (4, .ptr 1 0 0), (6, .ptr 2 0 0)]) [some (3, [[.i .i64 0, .i .i64 0, .i .i64 0]]), some (2, [[.sl 1 (rows cs_ r11.2.list_), .b r11.2.bad_]]), some (3, [[.i .i64 r9, .i .i64 r11.1, .i .i64 0]])] [] hC ⟨ok69, ok70, trivial⟩ (by simp -implicitDefEqProofs [c12]) (VW.join (fun (v : (List ByteArray) × Bool × Int) => (⟨(tm 39 [(0, .str text), (2, .ptr 0 0 0), (4, .ptr 1 0 0), (6, .ptr 2 0 0)]), [some (3, [[.i .i64 0, .i .i64 0, .i .i64 0]]), some (2, [[.sl 1 (rows cs_ v.1), .b v.2.1]]), some (3, [[.i .i64 r9, .i .i64 r11.1, .i .i64 v.2.2]])], []⟩ : VS)) (fun v => (g24_j1 r9 r11 text (v.1) (v.2.1) (v.2.2)).bind some = some r) ?_ ?_)
 · refine VW.seq ?_
   obtain ⟨r35, q36, h⟩ := bindE h
   have c36 := tl51 q36
   refine VW.rA (tm 39 [(0, .str text), (2, .ptr 0 0 0), (4, .ptr 1 0 0), (6, .ptr 2 0 0), (19, .b r35)]) [some (3, [[.i .i64 0, .i .i64 0, .i .i64 0]]), some (2, [[.sl 1 (rows cs_ r11.2.list_), .b r11.2.bad_]]), some (3, [[.i .i64 r9, .i .i64 r11.1, .i .i64 0]])] [] hC (VW.condJ h (fun h => ?_) (fun h => ?_)) (h := by simp -implicitDefEqProofs [c36])
   · exact VW.skip (vnext (r11.2.list_, r11.2.bad_, 0) h (Ent.tu 3))
   obtain ⟨r38, q39, h⟩ := bindE h
   have c39 : F70 [.agg [.sl 1 (rows cs_ r11.2.list_), .b r11.2.bad_]] = some (.tup [.i .i64 r38.1, .agg [.sl 1 (rows cs_ r38.2.list_), .b r38.2.bad_]]) := tells_eq inj70 (a := r11.2) q39
   exact VW.evalM (CM := [(69, F69), (70, F70)]) (tm 39 [(0, .str text), (2, .ptr 0 0 0), (4, .ptr 1 0 0), (6, .ptr 2 0 0)]) [some (3, [[.i .i64 0, .i .i64 0, .i .i64 0]]), some (2, [[.sl 1 (rows cs_ r38.2.list_), .b r38.2.bad_]]), some (3, [[.i .i64 r9, .i .i64 r11.1, .i .i64 r38.1]])] [] hC ⟨ok69, ok70, trivial⟩ (by simp -implicitDefEqProofs [c39]) (vnext (r38.2.list_, r38.2.bad_, r38.1) h (Ent.tu 3))
 rintro ⟨y18, y19, y20⟩ h
 replace h : (g24_j1 r9 r11 text y18 y19 y20).bind _ = _ := h
 rw [g24_j1] at h
 refine VW.seq (VW.seq ?_)
 obtain ⟨r21, q22, h⟩ := bindE h
 have c22 : F71 [.cptr [.sl 1 (rows cs_ ((⟨y18, y19⟩ : T129).list_)), .b ((⟨y18, y19⟩ : T129).bad_)] 0] = some (.b r21) := tells_eq inj71 (a := (⟨y18, y19⟩ : T129)) q22
 obtain ⟨w25, q30, h⟩ := bindE h
 obtain ⟨w28, q31, h⟩ := bindE h
 refine VW.evalA (tm 39 [(2, .ptr 0 0 0), (6, .ptr 2 0 0), (36, .b w28)]) [some (3, [[.i .i64 0, .i .i64 0, .i .i64 0]]), some (2, [[.sl 1 (rows cs_ y18), .b y19]]), some (3, [[.i .i64 r9, .i .i64 r11.1, .i .i64 y20]])] [] hC (by kernel_rfl) (by
     obtain ⟨q32, q30⟩ | ⟨q32, rfl⟩ := gdF q30
     · obtain ⟨r23, q24, q30⟩ := bindQ q30
       have c24 : F50 [.agg [.i .i64 ((⟨r9, r11.1, y20⟩ : T22).kind_), .i .i64 ((⟨r9, r11.1, y20⟩ : T22).a_), .i .i64 ((⟨r9, r11.1, y20⟩ : T22).b_)]] = some (.b r23) := tells_eq inj50 (a := (⟨r9, r11.1, y20⟩ : T22)) q24
       obtain rfl := Option.some.inj q30
       obtain ⟨q33, q31⟩ | ⟨q33, rfl⟩ := gdF q31
       · obtain ⟨r26, q27, q31⟩ := bindQ q31
         have c27 : F12 [.agg [.i .i64 ((⟨r9, r11.1, y20⟩ : T22).kind_), .i .i64 ((⟨r9, r11.1, y20⟩ : T22).a_), .i .i64 ((⟨r9, r11.1, y20⟩ : T22).b_)]] = some (.str r26) := tells_eq inj12 (a := (⟨r9, r11.1, y20⟩ : T22)) q27
         obtain rfl := Option.some.inj q31
         simp -implicitDefEqProofs [c22, q32, c24, q33, c27]
       simp -implicitDefEqProofs [c22, q32, c24, q33]
     obtain ⟨q34, q31⟩ | ⟨q34, rfl⟩ := gdF q31
     · exact absurd q34 (by simp)
     simp -implicitDefEqProofs [c22, q32, q34]) ?_
 refine VW.condI h (fun h => ?_) (fun h => ?_)
 · refine VW.seq (VW.rA (tm 39 [(2, .ptr 0 0 0), (3, .i .i64 5)]) [some (3, [[.i .i64 0, .i .i64 0, .i .i64 0]]), some (2, [[.sl 1 (rows cs_ y18), .b y19]]), some (3, [[.i .i64 r9, .i .i64 r11.1, .i .i64 y20]])] [] hC ?_)
   obtain rfl := leafS h
   exact VW.ret (VRet.fin (by simp [eB24]))
 refine VW.skip (VW.seq (VW.rA (tm 39 [(2, .ptr 0 0 0), (3, .i .i64 0)]) [some (3, [[.i .i64 r9, .i .i64 r11.1, .i .i64 y20]]), some (2, [[.sl 1 (rows cs_ y18), .b y19]]), some (3, [[.i .i64 r9, .i .i64 r11.1, .i .i64 y20]])] [] hC ?_))
 obtain rfl := leafS h
 exact VW.ret (VRet.fin (by simp [eB24]))
theorem tl24 {text : ByteArray} {r : T22 × Int} (h : g24 text = some r) : F24 [.str text] = some (.tup [.agg [.i .i64 r.1.kind_, .i .i64 r.1.a_, .i .i64 r.1.b_], .i .i64 r.2]) := tells_eq inj24 (a := text) h
noncomputable def g25 (a : T22) (b : T22) : Option (Bool) :=
if (!eqI a.kind_ b.kind_) = true then
some false
else
if (!eqI a.a_ b.a_) = true then
some false
else
if (!eqI a.b_ b.b_) = true then
some false
else
some true
def eA25 (a : T22 × T22) : List V := [.agg (pT22 a.1), .agg (pT22 a.2)]
def eB25 (r : Bool) : V := .b r
theorem inj25 (a a' : T22 × T22) (h : eA25 a = eA25 a') : a = a' := by
  obtain ⟨⟨i83, i84, i85⟩, ⟨i86, i87, i88⟩⟩ := a
  obtain ⟨⟨i89, i90, i91⟩, ⟨i92, i93, i94⟩⟩ := a'
  simp only [eA25, pT22, List.cons.injEq, V.i.injEq, V.b.injEq, V.f.injEq, V.str.injEq, V.sl.injEq, V.agg.injEq, V.cptr.injEq, true_and, and_true] at h
  simp_all
noncomputable def F25 : List V → Option V := tells (fun a => g25 a.1 a.2) eA25 eB25
/- loop.example/g01229/laws.eqAct -/
theorem ok25 : Tells Tryd.prog 25 F25 := by
 refine Tells.go 20 Tryd.func25 rfl rfl rfl (by kernel_rfl) (fun _ => rfl) ?_
 rintro ⟨a, b⟩ r h
 simp only [eA25, en, Nat.reduceAdd]
 replace h : (g25 a b).bind some = some r := bindS h
 rw [g25] at h
 have hC : CEnv.Ok Tryd.prog [] := trivial
 refine VW.seq (VW.rA (tm 20 [(2, .ptr 0 0 0), (3, .ptr 1 0 0)]) [some (3, [(pT22 a)]), some (3, [(pT22 b)])] [] hC (VW.seq (VW.seq (VW.rA (tm 20 [(2, .ptr 0 0 0), (3, .ptr 1 0 0), (9, .b (!eqI a.kind_ b.kind_))]) [some (3, [(pT22 a)]), some (3, [(pT22 b)])] [] hC (VW.condI h (fun h => ?_) (fun h => ?_))))))
 · refine VW.seq (VW.rA (tm 20 [(4, .b false)]) [some (3, [(pT22 a)]), some (3, [(pT22 b)])] [] hC ?_)
   obtain rfl := leafS h
   exact VW.ret (VRet.fin (by simp [eB25]))
 refine VW.skip (VW.seq (VW.seq (VW.rA (tm 20 [(2, .ptr 0 0 0), (3, .ptr 1 0 0), (14, .b (!eqI a.a_ b.a_))]) [some (3, [(pT22 a)]), some (3, [(pT22 b)])] [] hC (VW.condI h (fun h => ?_) (fun h => ?_)))))
 · refine VW.seq (VW.rA (tm 20 [(4, .b false)]) [some (3, [(pT22 a)]), some (3, [(pT22 b)])] [] hC ?_)
   obtain rfl := leafS h
   exact VW.ret (VRet.fin (by simp [eB25]))
 refine VW.skip (VW.seq (VW.seq (VW.rA (tm 20 [(19, .b (!eqI a.b_ b.b_))]) [some (3, [(pT22 a)]), some (3, [(pT22 b)])] [] hC (VW.condI h (fun h => ?_) (fun h => ?_)))))
 · refine VW.seq (VW.rA (tm 20 [(4, .b false)]) [some (3, [(pT22 a)]), some (3, [(pT22 b)])] [] hC ?_)
   obtain rfl := leafS h
   exact VW.ret (VRet.fin (by simp [eB25]))
 refine VW.skip (VW.seq (VW.rA (tm 20 [(4, .b true)]) [some (3, [(pT22 a)]), some (3, [(pT22 b)])] [] hC ?_))
 obtain rfl := leafS h
 exact VW.ret (VRet.fin (by simp [eB25]))
theorem tl25 {a : T22} {b : T22} {r : Bool} (h : g25 a b = some r) : F25 [.agg [.i .i64 a.kind_, .i .i64 a.a_, .i .i64 a.b_], .agg [.i .i64 b.kind_, .i .i64 b.a_, .i .i64 b.b_]] = some (.b r) := tells_eq inj25 (a := (a, b)) h
noncomputable def g6 (aText : ByteArray) : Option (Bool) :=
if ltI 1048576 (aText.size : Int) = true then
some true
else
(g23 aText).bind fun r2 =>
(g24 aText).bind fun r4 =>
(g25 r4.1 r2.1).bind fun r6 =>
if ((!r6) || (!eqI r4.2 r2.2)) = true then
some false
else
some true
def eA6 (a : ByteArray) : List V := [.str a]
def eB6 (r : Bool) : V := .b r
theorem inj6 (a a' : ByteArray) (h : eA6 a = eA6 a') : a = a' := by
  obtain i95 := a
  obtain i96 := a'
  simp only [eA6, List.cons.injEq, V.i.injEq, V.b.injEq, V.f.injEq, V.str.injEq, V.sl.injEq, V.agg.injEq, V.cptr.injEq, true_and, and_true] at h
  simp_all
noncomputable def F6 : List V → Option V := tells (fun a => g6 a) eA6 eB6
/- loop.example/g01229/laws.FnExactReadAct -/
theorem ok6 : Tells Tryd.prog 6 F6 := by
 refine Tells.go 29 Tryd.func6 rfl rfl rfl (by kernel_rfl) (fun _ => rfl) ?_
 rintro aText r h
 simp only [eA6, en, Nat.reduceAdd]
 replace h : (g6 aText).bind some = some r := bindS h
 rw [g6] at h
 have hC : CEnv.Ok Tryd.prog [(23, F23), (24, F24), (25, F25)] := ⟨.inl ok23, .inl ok24, .inl ok25, trivial⟩
 refine VW.seq (VW.rA (tm 29 [(0, .str aText)]) [] [] hC (VW.seq (VW.seq (VW.rA (tm 29 [(0, .str aText), (9, .b (ltI 1048576 (aText.size : Int)))]) [] [] hC (VW.condI h (fun h => ?_) (fun h => ?_))))))
 · refine VW.seq (VW.rA (tm 29 [(2, .b true)]) [] [] hC ?_)
   obtain rfl := leafS h
   exact VW.ret (VRet.fin (by simp [eB6]))
 refine VW.skip (VW.seq ?_)
 obtain ⟨r2, q3, h⟩ := bindE h
 have c3 := tl23 q3
 refine VW.rA (tm 29 [(0, .str aText), (3, .ptr 0 0 0), (4, .i .i64 r2.2)]) [some (3, [[.i .i64 r2.1.kind_, .i .i64 r2.1.a_, .i .i64 r2.1.b_]])] [] hC (VW.seq ?_) (h := by simp -implicitDefEqProofs [c3])
 obtain ⟨r4, q5, h⟩ := bindE h
 have c5 := tl24 q5
 refine VW.rA (tm 29 [(3, .ptr 0 0 0), (4, .i .i64 r2.2), (5, .ptr 1 0 0), (6, .i .i64 r4.2)]) [some (3, [[.i .i64 r2.1.kind_, .i .i64 r2.1.a_, .i .i64 r2.1.b_]]), some (3, [[.i .i64 r4.1.kind_, .i .i64 r4.1.a_, .i .i64 r4.1.b_]])] [] hC (VW.seq (VW.seq ?_)) (h := by simp -implicitDefEqProofs [c5])
 obtain ⟨r6, q7, h⟩ := bindE h
 have c7 := tl25 q7
 refine VW.rA (tm 29 [(28, .b ((!r6) || (!eqI r4.2 r2.2)))]) [some (3, [[.i .i64 r2.1.kind_, .i .i64 r2.1.a_, .i .i64 r2.1.b_]]), some (3, [[.i .i64 r4.1.kind_, .i .i64 r4.1.a_, .i .i64 r4.1.b_]])] [] hC (VW.condI h (fun h => ?_) (fun h => ?_)) (h := by simp -implicitDefEqProofs [c7])
 · refine VW.seq (VW.rA (tm 29 [(2, .b false)]) [some (3, [[.i .i64 r2.1.kind_, .i .i64 r2.1.a_, .i .i64 r2.1.b_]]), some (3, [[.i .i64 r4.1.kind_, .i .i64 r4.1.a_, .i .i64 r4.1.b_]])] [] hC ?_)
   obtain rfl := leafS h
   exact VW.ret (VRet.fin (by simp [eB6]))
 refine VW.skip (VW.seq (VW.rA (tm 29 [(2, .b true)]) [some (3, [[.i .i64 r2.1.kind_, .i .i64 r2.1.a_, .i .i64 r2.1.b_]]), some (3, [[.i .i64 r4.1.kind_, .i .i64 r4.1.a_, .i .i64 r4.1.b_]])] [] hC ?_))
 obtain rfl := leafS h
 exact VW.ret (VRet.fin (by simp [eB6]))
theorem tl6 {aText : ByteArray} {r : Bool} (h : g6 aText = some r) : F6 [.str aText] = some (.b r) := tells_eq inj6 (a := aText) h
noncomputable def g59_j1 : Option (Bool) :=
some true
noncomputable def g59_L1 (a : List Int) (b : List Int) : (Int) → Option ((Int) ⊕ ((Unit) ⊕ (Bool)))
| i_35 =>
if ltI i_35 (a.length : Int) = true then
(idx a i_35).bind fun e37 =>
(idx b i_35).bind fun e39 =>
if (!eqI e37 e39) = true then
some (.inr (.inr false))
else
some (.inl (aI .i64 i_35 1))
else
some (.inr (.inl ()))
noncomputable def g59 (a : List Int) (b : List Int) : Option (Bool) :=
if (!eqI (a.length : Int) (b.length : Int)) = true then
some false
else
(loopO (g59_L1 a b) 0).bind fun w => match w with
| .inl y => g59_j1
| .inr r => some r
def eA59 (a : (List Int) × (List Int)) : List V := [.sl 1 (rows ci_i64 a.1), .sl 1 (rows ci_i64 a.2)]
def eB59 (r : Bool) : V := .b r
theorem inj59 (a a' : (List Int) × (List Int)) (h : eA59 a = eA59 a') : a = a' := by
  obtain ⟨i97, i98⟩ := a
  obtain ⟨i99, i100⟩ := a'
  simp only [eA59, List.cons.injEq, V.i.injEq, V.b.injEq, V.f.injEq, V.str.injEq, V.sl.injEq, V.agg.injEq, V.cptr.injEq, true_and, and_true] at h
  simp_all [ri ci_i64_inj]
noncomputable def F59 : List V → Option V := tells (fun a => g59 a.1 a.2) eA59 eB59
/- loop.example/g01229/laws.eqInt64S -/
theorem ok59 : Tells Tryd.prog 59 F59 := by
 refine Tells.go 26 Tryd.func59 rfl rfl rfl (by kernel_rfl) (fun _ => rfl) ?_
 rintro ⟨a, b⟩ r h
 simp only [eA59, en, Nat.reduceAdd]
 replace h : (g59 a b).bind some = some r := bindS h
 rw [g59] at h
 have hC : CEnv.Ok Tryd.prog [] := trivial
 refine VW.seq (VW.rA (tm 26 [(0, .sl 1 (rows ci_i64 a)), (1, .sl 1 (rows ci_i64 b))]) [] [] hC (VW.seq (VW.seq (VW.rA (tm 26 [(0, .sl 1 (rows ci_i64 a)), (1, .sl 1 (rows ci_i64 b)), (10, .b (!eqI (a.length : Int) (b.length : Int)))]) [] [] hC (VW.condI h (fun h => ?_) (fun h => ?_))))))
 · refine VW.seq (VW.rA (tm 26 [(4, .b false)]) [] [] hC ?_)
   obtain rfl := leafS h
   exact VW.ret (VRet.fin (by simp [eB59]))
 refine VW.skip (VW.join (fun (v : Unit) => (⟨(tm 26 []), [], []⟩ : VS)) (fun v => (g59_j1).bind some = some r) ?_ ?_)
 · refine VW.seq (VW.rA (tm 26 [(0, .sl 1 (rows ci_i64 a)), (1, .sl 1 (rows ci_i64 b)), (5, .i .i64 0)]) [] [] hC (VW.block ?_))
   obtain ⟨w_1, hw_1, h⟩ := bindE h
   refine VW.loopO (fun (x : Int) => (⟨(tm 26 [(0, .sl 1 (rows ci_i64 a)), (1, .sl 1 (rows ci_i64 b)), (5, .i .i64 x)]), [], []⟩ : VS)) hw_1 (Ent.tu 0) ?_
   rintro n_1 i_35 h1
   rw [g59_L1] at h1
   refine VW.seq (VW.seq (VW.rA (tm 26 [(0, .sl 1 (rows ci_i64 a)), (1, .sl 1 (rows ci_i64 b)), (5, .i .i64 i_35), (14, .b (ltI i_35 (a.length : Int)))]) [] [] hC (VW.condJ h1 (fun h1 => ?_) (fun h1 => ?_))))
   · refine VW.exit ?_
     have e_ := leafR h1
     subst w_1
     exact vnext () h (Ent.tu 0)
   refine VW.skip (VW.seq (VW.block (VW.seq ?_)))
   obtain ⟨e37, ⟨f38a, f38b, f38c, f38d⟩, h1⟩ := bindI h1
   obtain ⟨e39, ⟨f40a, f40b, f40c, f40d⟩, h1⟩ := bindI h1
   refine VW.rD (tm 26 [(0, .sl 1 (rows ci_i64 a)), (1, .sl 1 (rows ci_i64 b)), (5, .i .i64 i_35), (25, .b (!eqI e37 e39))]) [] [] hC mixed (VW.condI h1 (fun h1 => ?_) (fun h1 => ?_)) (h := by simp -implicitDefEqProofs [f38a, f38b, f38c, f38d, f40a, f40b, f40c, f40d])
   · refine VW.seq (VW.rA (tm 26 [(4, .b false)]) [] [] hC ?_)
     have e_ := leafR h1
     subst w_1
     obtain rfl := leafS h
     exact VW.ret (VRet.fin (by simp [eB59]))
   exact VW.skip (VW.rA (tm 26 [(0, .sl 1 (rows ci_i64 a)), (1, .sl 1 (rows ci_i64 b)), (5, .i .i64 (aI .i64 i_35 1))]) [] [] hC (vnext (aI .i64 i_35 1) (leafL h1) (Ent.tu 0)))
 rintro _ h
 replace h : (g59_j1).bind _ = _ := h
 rw [g59_j1] at h
 refine VW.seq (VW.rA (tm 26 [(4, .b true)]) [] [] hC ?_)
 obtain rfl := leafS h
 exact VW.ret (VRet.fin (by simp [eB59]))
theorem tl59 {a : List Int} {b : List Int} {r : Bool} (h : g59 a b = some r) : F59 [.sl 1 (rows ci_i64 a), .sl 1 (rows ci_i64 b)] = some (.b r) := tells_eq inj59 (a := (a, b)) h
noncomputable def g17 (a : T29) (b : T29) : Option (Bool) :=
(g59 a.need_ b.need_).bind fun r1 =>
if (!r1) = true then
some false
else
(g59 a.price_ b.price_).bind fun r4 =>
if (!r4) = true then
some false
else
if (!eqI a.most_ b.most_) = true then
some false
else
if (!eqI a.yield_ b.yield_) = true then
some false
else
if (!eqI a.store_ b.store_) = true then
some false
else
if (!eqI a.first_ b.first_) = true then
some false
else
if (!eqI a.loss_ b.loss_) = true then
some false
else
some true
def eA17 (a : T29 × T29) : List V := [.agg (pT29 a.1), .agg (pT29 a.2)]
def eB17 (r : Bool) : V := .b r
theorem inj17 (a a' : T29 × T29) (h : eA17 a = eA17 a') : a = a' := by
  obtain ⟨⟨i115, i116, i117, i118, i119, i120, i121⟩, ⟨i122, i123, i124, i125, i126, i127, i128⟩⟩ := a
  obtain ⟨⟨i129, i130, i131, i132, i133, i134, i135⟩, ⟨i136, i137, i138, i139, i140, i141, i142⟩⟩ := a'
  simp only [eA17, pT29, List.cons.injEq, V.i.injEq, V.b.injEq, V.f.injEq, V.str.injEq, V.sl.injEq, V.agg.injEq, V.cptr.injEq, true_and, and_true] at h
  simp_all [ri ci_i64_inj]
noncomputable def F17 : List V → Option V := tells (fun a => g17 a.1 a.2) eA17 eB17
/- loop.example/g01229/laws.eqSeason -/
theorem ok17 : Tells Tryd.prog 17 F17 := by
 refine Tells.go 42 Tryd.func17 rfl rfl rfl (by kernel_rfl) (fun _ => rfl) ?_
 rintro ⟨a, b⟩ r h
 simp only [eA17, en, Nat.reduceAdd]
 replace h : (g17 a b).bind some = some r := bindS h
 rw [g17] at h
 have hC : CEnv.Ok Tryd.prog [(59, F59)] := ⟨.inl ok59, trivial⟩
 refine VW.seq (VW.rA (tm 42 [(2, .ptr 0 0 0), (3, .ptr 1 0 0)]) [some (7, [(pT29 a)]), some (7, [(pT29 b)])] [] hC (VW.seq (VW.seq ?_)))
 obtain ⟨r1, q2, h⟩ := bindE h
 have c2 := tl59 q2
 refine VW.rA (tm 42 [(2, .ptr 0 0 0), (3, .ptr 1 0 0), (10, .b (!r1))]) [some (7, [(pT29 a)]), some (7, [(pT29 b)])] [] hC (VW.condI h (fun h => ?_) (fun h => ?_)) (h := by simp -implicitDefEqProofs [c2])
 · refine VW.seq (VW.rA (tm 42 [(4, .b false)]) [some (7, [(pT29 a)]), some (7, [(pT29 b)])] [] hC ?_)
   obtain rfl := leafS h
   exact VW.ret (VRet.fin (by simp [eB17]))
 refine VW.skip (VW.seq (VW.seq ?_))
 obtain ⟨r4, q5, h⟩ := bindE h
 have c5 := tl59 q5
 refine VW.rA (tm 42 [(2, .ptr 0 0 0), (3, .ptr 1 0 0), (16, .b (!r4))]) [some (7, [(pT29 a)]), some (7, [(pT29 b)])] [] hC (VW.condI h (fun h => ?_) (fun h => ?_)) (h := by simp -implicitDefEqProofs [c5])
 · refine VW.seq (VW.rA (tm 42 [(4, .b false)]) [some (7, [(pT29 a)]), some (7, [(pT29 b)])] [] hC ?_)
   obtain rfl := leafS h
   exact VW.ret (VRet.fin (by simp [eB17]))
 refine VW.skip (VW.seq (VW.seq (VW.rA (tm 42 [(2, .ptr 0 0 0), (3, .ptr 1 0 0), (21, .b (!eqI a.most_ b.most_))]) [some (7, [(pT29 a)]), some (7, [(pT29 b)])] [] hC (VW.condI h (fun h => ?_) (fun h => ?_)))))
 · refine VW.seq (VW.rA (tm 42 [(4, .b false)]) [some (7, [(pT29 a)]), some (7, [(pT29 b)])] [] hC ?_)
   obtain rfl := leafS h
   exact VW.ret (VRet.fin (by simp [eB17]))
 refine VW.skip (VW.seq (VW.seq (VW.rA (tm 42 [(2, .ptr 0 0 0), (3, .ptr 1 0 0), (26, .b (!eqI a.yield_ b.yield_))]) [some (7, [(pT29 a)]), some (7, [(pT29 b)])] [] hC (VW.condI h (fun h => ?_) (fun h => ?_)))))
 · refine VW.seq (VW.rA (tm 42 [(4, .b false)]) [some (7, [(pT29 a)]), some (7, [(pT29 b)])] [] hC ?_)
   obtain rfl := leafS h
   exact VW.ret (VRet.fin (by simp [eB17]))
 refine VW.skip (VW.seq (VW.seq (VW.rA (tm 42 [(2, .ptr 0 0 0), (3, .ptr 1 0 0), (31, .b (!eqI a.store_ b.store_))]) [some (7, [(pT29 a)]), some (7, [(pT29 b)])] [] hC (VW.condI h (fun h => ?_) (fun h => ?_)))))
 · refine VW.seq (VW.rA (tm 42 [(4, .b false)]) [some (7, [(pT29 a)]), some (7, [(pT29 b)])] [] hC ?_)
   obtain rfl := leafS h
   exact VW.ret (VRet.fin (by simp [eB17]))
 refine VW.skip (VW.seq (VW.seq (VW.rA (tm 42 [(2, .ptr 0 0 0), (3, .ptr 1 0 0), (36, .b (!eqI a.first_ b.first_))]) [some (7, [(pT29 a)]), some (7, [(pT29 b)])] [] hC (VW.condI h (fun h => ?_) (fun h => ?_)))))
 · refine VW.seq (VW.rA (tm 42 [(4, .b false)]) [some (7, [(pT29 a)]), some (7, [(pT29 b)])] [] hC ?_)
   obtain rfl := leafS h
   exact VW.ret (VRet.fin (by simp [eB17]))
 refine VW.skip (VW.seq (VW.seq (VW.rA (tm 42 [(41, .b (!eqI a.loss_ b.loss_))]) [some (7, [(pT29 a)]), some (7, [(pT29 b)])] [] hC (VW.condI h (fun h => ?_) (fun h => ?_)))))
 · refine VW.seq (VW.rA (tm 42 [(4, .b false)]) [some (7, [(pT29 a)]), some (7, [(pT29 b)])] [] hC ?_)
   obtain rfl := leafS h
   exact VW.ret (VRet.fin (by simp [eB17]))
 refine VW.skip (VW.seq (VW.rA (tm 42 [(4, .b true)]) [some (7, [(pT29 a)]), some (7, [(pT29 b)])] [] hC ?_))
 obtain rfl := leafS h
 exact VW.ret (VRet.fin (by simp [eB17]))
theorem tl17 {a : T29} {b : T29} {r : Bool} (h : g17 a b = some r) : F17 [.agg [.sl 1 (rows ci_i64 a.need_), .sl 1 (rows ci_i64 a.price_), .i .i64 a.most_, .i .i64 a.yield_, .i .i64 a.store_, .i .i64 a.first_, .i .i64 a.loss_], .agg [.sl 1 (rows ci_i64 b.need_), .sl 1 (rows ci_i64 b.price_), .i .i64 b.most_, .i .i64 b.yield_, .i .i64 b.store_, .i .i64 b.first_, .i .i64 b.loss_]] = some (.b r) := tells_eq inj17 (a := (a, b)) h
noncomputable def g90_j1 : Option (Bool) :=
some true
noncomputable def g90_L1 (list : List Int) (most : Int) : (Int) → Option ((Int) ⊕ ((Unit) ⊕ (Bool)))
| i_34 =>
if ltI i_34 (list.length : Int) = true then
(idx list i_34).bind fun e36 =>
(g92 e36 0 most).bind fun r38 =>
if (!r38) = true then
some (.inr (.inr false))
else
some (.inl (aI .i64 i_34 1))
else
some (.inr (.inl ()))
noncomputable def g90 (list : List Int) (most : Int) : Option (Bool) :=
(loopO (g90_L1 list most) 0).bind fun w => match w with
| .inl y => g90_j1
| .inr r => some r
def eA90 (a : (List Int) × Int) : List V := [.sl 1 (rows ci_i64 a.1), .i .i64 a.2]
def eB90 (r : Bool) : V := .b r
theorem inj90 (a a' : (List Int) × Int) (h : eA90 a = eA90 a') : a = a' := by
  obtain ⟨i143, i144⟩ := a
  obtain ⟨i145, i146⟩ := a'
  simp only [eA90, List.cons.injEq, V.i.injEq, V.b.injEq, V.f.injEq, V.str.injEq, V.sl.injEq, V.agg.injEq, V.cptr.injEq, true_and, and_true] at h
  simp_all [ri ci_i64_inj]
noncomputable def F90 : List V → Option V := tells (fun a => g90 a.1 a.2) eA90 eB90
/- loop.example/g01229/spec.l07Bounded -/
theorem ok90 : Tells Tryd.prog 90 F90 := by
 refine Tells.go 19 Tryd.func90 rfl rfl rfl (by kernel_rfl) (fun _ => rfl) ?_
 rintro ⟨list, most⟩ r h
 simp only [eA90, en, Nat.reduceAdd]
 replace h : (g90 list most).bind some = some r := bindS h
 rw [g90] at h
 have hC : CEnv.Ok Tryd.prog [(92, F92)] := ⟨.inl ok92, trivial⟩
 refine VW.seq (VW.rA (tm 19 [(0, .sl 1 (rows ci_i64 list)), (1, .i .i64 most)]) [] [] hC (VW.join (fun (v : Unit) => (⟨(tm 19 []), [], []⟩ : VS)) (fun v => (g90_j1).bind some = some r) ?_ ?_))
 · refine VW.seq (VW.rA (tm 19 [(0, .sl 1 (rows ci_i64 list)), (1, .i .i64 most), (5, .i .i64 0)]) [] [] hC (VW.block ?_))
   obtain ⟨w_1, hw_1, h⟩ := bindE h
   refine VW.loopO (fun (x : Int) => (⟨(tm 19 [(0, .sl 1 (rows ci_i64 list)), (1, .i .i64 most), (5, .i .i64 x)]), [], []⟩ : VS)) hw_1 (Ent.tu 0) ?_
   rintro n_1 i_34 h1
   rw [g90_L1] at h1
   refine VW.seq (VW.seq (VW.rA (tm 19 [(0, .sl 1 (rows ci_i64 list)), (1, .i .i64 most), (5, .i .i64 i_34), (9, .b (ltI i_34 (list.length : Int)))]) [] [] hC (VW.condJ h1 (fun h1 => ?_) (fun h1 => ?_))))
   · refine VW.exit ?_
     have e_ := leafR h1
     subst w_1
     exact vnext () h (Ent.tu 0)
   refine VW.skip (VW.seq (VW.block (VW.seq ?_)))
   obtain ⟨e36, ⟨f37a, f37b, f37c, f37d⟩, h1⟩ := bindI h1
   obtain ⟨r38, q39, h1⟩ := bindE h1
   have c39 := tl92 q39
   refine VW.rA (tm 19 [(0, .sl 1 (rows ci_i64 list)), (1, .i .i64 most), (5, .i .i64 i_34), (18, .b (!r38))]) [] [] hC (VW.condI h1 (fun h1 => ?_) (fun h1 => ?_)) (h := by simp -implicitDefEqProofs [f37a, f37b, f37c, f37d, c39])
   · refine VW.seq (VW.rA (tm 19 [(4, .b false)]) [] [] hC ?_)
     have e_ := leafR h1
     subst w_1
     obtain rfl := leafS h
     exact VW.ret (VRet.fin (by simp [eB90]))
   exact VW.skip (VW.rA (tm 19 [(0, .sl 1 (rows ci_i64 list)), (1, .i .i64 most), (5, .i .i64 (aI .i64 i_34 1))]) [] [] hC (vnext (aI .i64 i_34 1) (leafL h1) (Ent.tu 0)))
 rintro _ h
 replace h : (g90_j1).bind _ = _ := h
 rw [g90_j1] at h
 refine VW.seq (VW.rA (tm 19 [(4, .b true)]) [] [] hC ?_)
 obtain rfl := leafS h
 exact VW.ret (VRet.fin (by simp [eB90]))
theorem tl90 {list : List Int} {most : Int} {r : Bool} (h : g90 list most = some r) : F90 [.sl 1 (rows ci_i64 list), .i .i64 most] = some (.b r) := tells_eq inj90 (a := (list, most)) h
noncomputable def g55 (s : T29) : Option (Bool) :=
(g92 (s.need_.length : Int) 1 24).bind fun r1 =>
(if (r1 && eqI (s.price_.length : Int) (s.need_.length : Int)) = true then (g90 s.need_ 200).bind fun r3 => some r3 else some false).bind fun w5 =>
(if w5 = true then (g90 s.price_ 1000).bind fun r6 => some r6 else some false).bind fun w8 =>
(if w8 = true then (g92 s.most_ 0 20).bind fun r9 => some r9 else some false).bind fun w11 =>
(if w11 = true then (g92 s.yield_ 1 40).bind fun r12 => some r12 else some false).bind fun w14 =>
(if w14 = true then (g92 s.store_ 0 60).bind fun r15 => some r15 else some false).bind fun w17 =>
(if w17 = true then (g92 s.first_ 0 s.store_).bind fun r18 => some r18 else some false).bind fun w20 =>
(if w20 = true then (g92 s.loss_ 0 100).bind fun r21 => some r21 else some false).bind fun w23 =>
some w23
def eA55 (a : T29) : List V := [.cptr (pT29 a) 0]
def eB55 (r : Bool) : V := .b r
theorem inj55 (a a' : T29) (h : eA55 a = eA55 a') : a = a' := by
  obtain ⟨i147, i148, i149, i150, i151, i152, i153⟩ := a
  obtain ⟨i154, i155, i156, i157, i158, i159, i160⟩ := a'
  simp only [eA55, pT29, List.cons.injEq, V.i.injEq, V.b.injEq, V.f.injEq, V.str.injEq, V.sl.injEq, V.agg.injEq, V.cptr.injEq, true_and, and_true] at h
  simp_all [ri ci_i64_inj]
noncomputable def F55 : List V → Option V := tells (fun a => g55 a) eA55 eB55
/- loop.example/g01229/spec.l07Ok -/
theorem ok55 : Tells Tryd.prog 55 F55 := by
 refine Tells.go 75 Tryd.func55 rfl rfl rfl (by kernel_rfl) (fun _ => rfl) ?_
 rintro s r h
 simp only [eA55, en, Nat.reduceAdd]
 replace h : (g55 s).bind some = some r := bindS h
 rw [g55] at h
 have hC : CEnv.Ok Tryd.prog [(90, F90), (92, F92)] := ⟨.inl ok90, .inl ok92, trivial⟩
 refine VW.seq (VW.rA (tm 75 [(0, .cptr (pT29 s) 0)]) [] [] hC (VW.seq ?_))
 obtain ⟨r1, q2, h⟩ := bindE h
 have c2 := tl92 q2
 obtain ⟨w5, q24, h⟩ := bindE h
 obtain ⟨w8, q25, h⟩ := bindE h
 obtain ⟨w11, q26, h⟩ := bindE h
 obtain ⟨w14, q27, h⟩ := bindE h
 obtain ⟨w17, q28, h⟩ := bindE h
 obtain ⟨w20, q29, h⟩ := bindE h
 obtain ⟨w23, q30, h⟩ := bindE h
 refine VW.evalDA (tm 75 [(2, .b w23)]) [] [] hC mixed (by kernel_rfl) (by
     obtain ⟨q31, q24⟩ | ⟨q31, rfl⟩ := gdT q24
     · obtain ⟨r3, q4, q24⟩ := bindQ q24
       have c4 := tl90 q4
       obtain rfl := Option.some.inj q24
       obtain ⟨q32, q25⟩ | ⟨q32, rfl⟩ := gdT q25
       · obtain ⟨r6, q7, q25⟩ := bindQ q25
         have c7 := tl90 q7
         obtain rfl := Option.some.inj q25
         obtain ⟨q33, q26⟩ | ⟨q33, rfl⟩ := gdT q26
         · obtain ⟨r9, q10, q26⟩ := bindQ q26
           have c10 := tl92 q10
           obtain rfl := Option.some.inj q26
           obtain ⟨q34, q27⟩ | ⟨q34, rfl⟩ := gdT q27
           · obtain ⟨r12, q13, q27⟩ := bindQ q27
             have c13 := tl92 q13
             obtain rfl := Option.some.inj q27
             obtain ⟨q35, q28⟩ | ⟨q35, rfl⟩ := gdT q28
             · obtain ⟨r15, q16, q28⟩ := bindQ q28
               have c16 := tl92 q16
               obtain rfl := Option.some.inj q28
               obtain ⟨q36, q29⟩ | ⟨q36, rfl⟩ := gdT q29
               · obtain ⟨r18, q19, q29⟩ := bindQ q29
                 have c19 := tl92 q19
                 obtain rfl := Option.some.inj q29
                 obtain ⟨q37, q30⟩ | ⟨q37, rfl⟩ := gdT q30
                 · obtain ⟨r21, q22, q30⟩ := bindQ q30
                   have c22 := tl92 q22
                   obtain rfl := Option.some.inj q30
                   simp -implicitDefEqProofs [c2, q31, c4, q32, c7, q33, c10, q34, c13, q35, c16, q36, c19, q37, c22, pT29]
                 simp -implicitDefEqProofs [c2, q31, c4, q32, c7, q33, c10, q34, c13, q35, c16, q36, c19, q37, pT29]
               obtain ⟨q38, q30⟩ | ⟨q38, rfl⟩ := gdT q30
               · exact absurd q38 (by simp)
               simp -implicitDefEqProofs [c2, q31, c4, q32, c7, q33, c10, q34, c13, q35, c16, q36, q38, pT29]
             obtain ⟨q39, q29⟩ | ⟨q39, rfl⟩ := gdT q29
             · exact absurd q39 (by simp)
             obtain ⟨q40, q30⟩ | ⟨q40, rfl⟩ := gdT q30
             · exact absurd q40 (by simp)
             simp -implicitDefEqProofs [c2, q31, c4, q32, c7, q33, c10, q34, c13, q35, q39, q40, pT29]
           obtain ⟨q41, q28⟩ | ⟨q41, rfl⟩ := gdT q28
           · exact absurd q41 (by simp)
           obtain ⟨q42, q29⟩ | ⟨q42, rfl⟩ := gdT q29
           · exact absurd q42 (by simp)
           obtain ⟨q43, q30⟩ | ⟨q43, rfl⟩ := gdT q30
           · exact absurd q43 (by simp)
           simp -implicitDefEqProofs [c2, q31, c4, q32, c7, q33, c10, q34, q41, q42, q43, pT29]
         obtain ⟨q44, q27⟩ | ⟨q44, rfl⟩ := gdT q27
         · exact absurd q44 (by simp)
         obtain ⟨q45, q28⟩ | ⟨q45, rfl⟩ := gdT q28
         · exact absurd q45 (by simp)
         obtain ⟨q46, q29⟩ | ⟨q46, rfl⟩ := gdT q29
         · exact absurd q46 (by simp)
         obtain ⟨q47, q30⟩ | ⟨q47, rfl⟩ := gdT q30
         · exact absurd q47 (by simp)
         simp -implicitDefEqProofs [c2, q31, c4, q32, c7, q33, q44, q45, q46, q47, pT29]
       obtain ⟨q48, q26⟩ | ⟨q48, rfl⟩ := gdT q26
       · exact absurd q48 (by simp)
       obtain ⟨q49, q27⟩ | ⟨q49, rfl⟩ := gdT q27
       · exact absurd q49 (by simp)
       obtain ⟨q50, q28⟩ | ⟨q50, rfl⟩ := gdT q28
       · exact absurd q50 (by simp)
       obtain ⟨q51, q29⟩ | ⟨q51, rfl⟩ := gdT q29
       · exact absurd q51 (by simp)
       obtain ⟨q52, q30⟩ | ⟨q52, rfl⟩ := gdT q30
       · exact absurd q52 (by simp)
       simp -implicitDefEqProofs [c2, q31, c4, q32, q48, q49, q50, q51, q52, pT29]
     obtain ⟨q53, q25⟩ | ⟨q53, rfl⟩ := gdT q25
     · exact absurd q53 (by simp)
     obtain ⟨q54, q26⟩ | ⟨q54, rfl⟩ := gdT q26
     · exact absurd q54 (by simp)
     obtain ⟨q55, q27⟩ | ⟨q55, rfl⟩ := gdT q27
     · exact absurd q55 (by simp)
     obtain ⟨q56, q28⟩ | ⟨q56, rfl⟩ := gdT q28
     · exact absurd q56 (by simp)
     obtain ⟨q57, q29⟩ | ⟨q57, rfl⟩ := gdT q29
     · exact absurd q57 (by simp)
     obtain ⟨q58, q30⟩ | ⟨q58, rfl⟩ := gdT q30
     · exact absurd q58 (by simp)
     simp -implicitDefEqProofs [c2, q31, q53, q54, q55, q56, q57, q58, pT29]) ?_
 obtain rfl := leafS h
 exact VW.ret (VRet.fin (by simp [eB55]))
theorem tl55 {s : T29} {r : Bool} (h : g55 s = some r) : F55 [.cptr [.sl 1 (rows ci_i64 s.need_), .sl 1 (rows ci_i64 s.price_), .i .i64 s.most_, .i .i64 s.yield_, .i .i64 s.store_, .i .i64 s.first_, .i .i64 s.loss_] 0] = some (.b r) := tells_eq inj55 (a := s) h
noncomputable def g39_j1 (s : T29) : Option (Bool) :=
some (((((((((leI 0 s.most_ && leI s.most_ 20) && leI 1 s.yield_) && leI s.yield_ 40) && leI 0 s.store_) && leI s.store_ 60) && leI 0 s.first_) && leI s.first_ s.store_) && leI 0 s.loss_) && leI s.loss_ 100)
noncomputable def g39_L1 (s : T29) : (Int) → Option ((Int) ⊕ ((Unit) ⊕ (Bool)))
| x_85 =>
if ltI x_85 (s.need_.length : Int) = true then
(idx s.need_ x_85).bind fun e87 =>
(if (ltI e87 0 || ltI 200 e87) = true then some true else (idx s.price_ x_85).bind fun e89 => some (ltI e89 0)).bind fun w91 =>
(if w91 = true then some true else (idx s.price_ x_85).bind fun e92 => some (ltI 1000 e92)).bind fun w94 =>
if w94 = true then
some (.inr (.inr false))
else
some (.inl (aI .i64 x_85 1))
else
some (.inr (.inl ()))
noncomputable def g39 (s : T29) : Option (Bool) :=
if ((ltI (s.need_.length : Int) 1 || ltI 24 (s.need_.length : Int)) || (!eqI (s.price_.length : Int) (s.need_.length : Int))) = true then
some false
else
(loopO (g39_L1 s) 0).bind fun w => match w with
| .inl y => g39_j1 s
| .inr r => some r
def eA39 (a : T29) : List V := [.agg (pT29 a)]
def eB39 (r : Bool) : V := .b r
theorem inj39 (a a' : T29) (h : eA39 a = eA39 a') : a = a' := by
  obtain ⟨i165, i166, i167, i168, i169, i170, i171⟩ := a
  obtain ⟨i172, i173, i174, i175, i176, i177, i178⟩ := a'
  simp only [eA39, pT29, List.cons.injEq, V.i.injEq, V.b.injEq, V.f.injEq, V.str.injEq, V.sl.injEq, V.agg.injEq, V.cptr.injEq, true_and, and_true] at h
  simp_all [ri ci_i64_inj]
noncomputable def F39 : List V → Option V := tells (fun a => g39 a) eA39 eB39
/- loop.example/g01229/impl.ValidSeason -/
theorem ok39 : Tells Tryd.prog 39 F39 := by
 refine Tells.go 106 Tryd.func39 rfl rfl rfl (by kernel_rfl) (fun _ => rfl) ?_
 rintro s r h
 simp only [eA39, en, Nat.reduceAdd]
 replace h : (g39 s).bind some = some r := bindS h
 rw [g39] at h
 have hC : CEnv.Ok Tryd.prog [] := trivial
 refine VW.seq (VW.rA (tm 106 [(1, .ptr 0 0 0)]) [some (7, [(pT29 s)])] [] hC (VW.seq (VW.rA (tm 106 [(1, .ptr 0 0 0), (3, .i .i64 (s.need_.length : Int))]) [some (7, [(pT29 s)])] [] hC (VW.seq (VW.seq (VW.rA (tm 106 [(1, .ptr 0 0 0), (3, .i .i64 (s.need_.length : Int)), (20, .b ((ltI (s.need_.length : Int) 1 || ltI 24 (s.need_.length : Int)) || (!eqI (s.price_.length : Int) (s.need_.length : Int))))]) [some (7, [(pT29 s)])] [] hC (VW.condI h (fun h => ?_) (fun h => ?_))))))))
 · refine VW.seq (VW.rA (tm 106 [(2, .b false)]) [some (7, [(pT29 s)])] [] hC ?_)
   obtain rfl := leafS h
   exact VW.ret (VRet.fin (by simp [eB39]))
 refine VW.skip (VW.join (fun (v : Unit) => (⟨(tm 106 [(1, .ptr 0 0 0)]), [some (7, [(pT29 s)])], []⟩ : VS)) (fun v => (g39_j1 s).bind some = some r) ?_ ?_)
 · refine VW.seq (VW.rA (tm 106 [(1, .ptr 0 0 0), (21, .i .i64 (s.need_.length : Int)), (22, .i .i64 0)]) [some (7, [(pT29 s)])] [] hC (VW.block ?_))
   obtain ⟨w_1, hw_1, h⟩ := bindE h
   refine VW.loopO (fun (x : Int) => (⟨(tm 106 [(1, .ptr 0 0 0), (21, .i .i64 (s.need_.length : Int)), (22, .i .i64 x)]), [some (7, [(pT29 s)])], []⟩ : VS)) hw_1 (Ent.tu 1) ?_
   rintro n_1 x_85 h1
   rw [g39_L1] at h1
   refine VW.seq (VW.rA (tm 106 [(1, .ptr 0 0 0), (21, .i .i64 (s.need_.length : Int)), (22, .i .i64 x_85), (23, .b (ltI x_85 (s.need_.length : Int)))]) [some (7, [(pT29 s)])] [] hC (VW.seq (VW.condJ h1 (fun h1 => ?_) (fun h1 => ?_))))
   · refine VW.exit ?_
     have e_ := leafR h1
     subst w_1
     exact vnext () h (Ent.tu 1)
   refine VW.skip (VW.seq (VW.block (VW.seq (VW.rA (tm 106 [(1, .ptr 0 0 0), (4, .i .i64 x_85), (21, .i .i64 (s.need_.length : Int)), (22, .i .i64 x_85)]) [some (7, [(pT29 s)])] [] hC (VW.seq ?_)))))
   obtain ⟨e87, ⟨f88a, f88b, f88c, f88d⟩, h1⟩ := bindI h1
   obtain ⟨w91, q96, h1⟩ := bindE h1
   obtain ⟨w94, q97, h1⟩ := bindE h1
   refine VW.evalA (tm 106 [(1, .ptr 0 0 0), (21, .i .i64 (s.need_.length : Int)), (22, .i .i64 x_85), (54, .b w94)]) [some (7, [(pT29 s)])] [] hC (by kernel_rfl) (by
       obtain ⟨q98, q96⟩ | ⟨q98, rfl⟩ := gdF q96
       · obtain ⟨e89, q90, q96⟩ := bindQ q96
         obtain ⟨f90a, f90b, f90c, f90d⟩ := idx_some q90
         obtain rfl := Option.some.inj q96
         obtain ⟨q99, q97⟩ | ⟨q99, rfl⟩ := gdF q97
         · obtain ⟨e92, q93, q97⟩ := bindQ q97
           have d100 : e92 = e89 := Option.some.inj (q93.symm.trans q90)
           obtain rfl := Option.some.inj q97
           simp -implicitDefEqProofs [f88a, f88b, f88c, f88d, q98, f90a, f90b, f90c, f90d, q99, d100, pT29]
         simp -implicitDefEqProofs [f88a, f88b, f88c, f88d, q98, f90a, f90b, f90c, f90d, q99, pT29]
       obtain ⟨q101, q97⟩ | ⟨q101, rfl⟩ := gdF q97
       · exact absurd q101 (by simp)
       simp -implicitDefEqProofs [f88a, f88b, f88c, f88d, q98, q101, pT29]) ?_
   refine VW.condI h1 (fun h1 => ?_) (fun h1 => ?_)
   · refine VW.seq (VW.rA (tm 106 [(2, .b false)]) [some (7, [(pT29 s)])] [] hC ?_)
     have e_ := leafR h1
     subst w_1
     obtain rfl := leafS h
     exact VW.ret (VRet.fin (by simp [eB39]))
   exact VW.skip (VW.rA (tm 106 [(1, .ptr 0 0 0), (21, .i .i64 (s.need_.length : Int)), (22, .i .i64 (aI .i64 x_85 1))]) [some (7, [(pT29 s)])] [] hC (vnext (aI .i64 x_85 1) (leafL h1) (Ent.tu 1)))
 rintro _ h
 replace h : (g39_j1 s).bind _ = _ := h
 rw [g39_j1] at h
 refine VW.seq (VW.rA (tm 106 [(2, .b (((((((((leI 0 s.most_ && leI s.most_ 20) && leI 1 s.yield_) && leI s.yield_ 40) && leI 0 s.store_) && leI s.store_ 60) && leI 0 s.first_) && leI s.first_ s.store_) && leI 0 s.loss_) && leI s.loss_ 100))]) [some (7, [(pT29 s)])] [] hC ?_ (h := by simp (maxSteps := 4000000) -implicitDefEqProofs [pT29]))
 obtain rfl := leafS h
 exact VW.ret (VRet.fin (by simp [eB39]))
theorem tl39 {s : T29} {r : Bool} (h : g39 s = some r) : F39 [.agg [.sl 1 (rows ci_i64 s.need_), .sl 1 (rows ci_i64 s.price_), .i .i64 s.most_, .i .i64 s.yield_, .i .i64 s.store_, .i .i64 s.first_, .i .i64 s.loss_]] = some (.b r) := tells_eq inj39 (a := s) h
noncomputable def g58_j1 (out_44 : ByteArray) : Option (ByteArray) :=
some out_44
noncomputable def g58_L1 (s : T29) : (ByteArray × Int) → Option ((ByteArray × Int) ⊕ (ByteArray))
| (out_69, x_70) =>
if ltI x_70 (s.need_.length : Int) = true then
(idx s.need_ x_70).bind fun e72 =>
(idx s.price_ x_70).bind fun e74 =>
(g53 [e72, e74]).bind fun r76 =>
(catS r76 (⟨#[10]⟩ : ByteArray)).bind fun z78 =>
(catS out_69 z78).bind fun z80 =>
some (.inl (z80, aI .i64 x_70 1))
else
some (.inr out_69)
noncomputable def g58 (s : T29) : Option (ByteArray) :=
(g53 [s.most_, s.yield_, s.store_, s.first_, s.loss_]).bind fun r1 =>
(catS (⟨#[115, 101, 97, 115, 111, 110, 32]⟩ : ByteArray) r1).bind fun z3 =>
(catS z3 (⟨#[10]⟩ : ByteArray)).bind fun z5 =>
(loopO (g58_L1 s) (z5, 0)).bind fun w => g58_j1 w
def eA58 (a : T29) : List V := [.agg (pT29 a)]
def eB58 (r : ByteArray) : V := .str r
theorem inj58 (a a' : T29) (h : eA58 a = eA58 a') : a = a' := by
  obtain ⟨i179, i180, i181, i182, i183, i184, i185⟩ := a
  obtain ⟨i186, i187, i188, i189, i190, i191, i192⟩ := a'
  simp only [eA58, pT29, List.cons.injEq, V.i.injEq, V.b.injEq, V.f.injEq, V.str.injEq, V.sl.injEq, V.agg.injEq, V.cptr.injEq, true_and, and_true] at h
  simp_all [ri ci_i64_inj]
noncomputable def F58 : List V → Option V := tells (fun a => g58 a) eA58 eB58
/- loop.example/g01229/impl.seasonText -/
theorem ok58 : Tells Tryd.prog 58 F58 := by
 refine Tells.go 41 Tryd.func58 rfl rfl rfl (by kernel_rfl) (fun _ => rfl) ?_
 rintro s r h
 simp only [eA58, en, Nat.reduceAdd]
 replace h : (g58 s).bind some = some r := bindS h
 rw [g58] at h
 have hC : CEnv.Ok Tryd.prog [(53, F53)] := ⟨.inl ok53, trivial⟩
 refine VW.seq (VW.rA (tm 41 [(1, .ptr 0 0 0)]) [some (7, [(pT29 s)])] [] hC (VW.seq ?_))
 obtain ⟨r1, q2, h⟩ := bindE h
 have c2 : F53 [.sl 1 [[.i .i64 s.most_], [.i .i64 s.yield_], [.i .i64 s.store_], [.i .i64 s.first_], [.i .i64 s.loss_]]] = some (.str r1) := tells_eq inj53 (a := [s.most_, s.yield_, s.store_, s.first_, s.loss_]) q2
 obtain ⟨z3, q4, h⟩ := bindE h
 obtain ⟨z5, q6, h⟩ := bindE h
 refine VW.rA (tm 41 [(1, .ptr 0 0 0), (3, .str z5)]) [some (7, [(pT29 s)]), some (1, rows ci_i64 [s.most_, s.yield_, s.store_, s.first_, s.loss_])] [] hC (VW.join (fun (v : ByteArray) => (⟨(tm 41 [(3, .str v)]), [some (7, [(pT29 s)]), some (1, rows ci_i64 [s.most_, s.yield_, s.store_, s.first_, s.loss_])], []⟩ : VS)) (fun v => (g58_j1 (v)).bind some = some r) ?_ ?_) (h := by simp -implicitDefEqProofs [c2, q4, q6])
 · refine VW.seq (VW.rA (tm 41 [(1, .ptr 0 0 0), (3, .str z5), (21, .sl 1 (rows ci_i64 s.need_)), (22, .i .i64 (s.need_.length : Int)), (23, .i .i64 0)]) [some (7, [(pT29 s)]), some (1, rows ci_i64 [s.most_, s.yield_, s.store_, s.first_, s.loss_])] [] hC (VW.block ?_))
   obtain ⟨w_1, hw_1, h⟩ := bindE h
   refine VW.loopO (fun (x : ByteArray × Int) => (⟨(tm 41 [(1, .ptr 0 0 0), (3, .str x.1), (21, .sl 1 (rows ci_i64 s.need_)), (22, .i .i64 (s.need_.length : Int)), (23, .i .i64 x.2)]), [some (7, [(pT29 s)]), some (1, rows ci_i64 [s.most_, s.yield_, s.store_, s.first_, s.loss_])], []⟩ : VS)) hw_1 (Ent.tu 2) ?_
   rintro n_1 ⟨out_69, x_70⟩ h1
   rw [g58_L1] at h1
   refine VW.seq (VW.rA (tm 41 [(1, .ptr 0 0 0), (3, .str out_69), (21, .sl 1 (rows ci_i64 s.need_)), (22, .i .i64 (s.need_.length : Int)), (23, .i .i64 x_70), (24, .b (ltI x_70 (s.need_.length : Int)))]) [some (7, [(pT29 s)]), some (1, rows ci_i64 [s.most_, s.yield_, s.store_, s.first_, s.loss_])] [] hC (VW.seq (VW.condJ h1 (fun h1 => ?_) (fun h1 => ?_))))
   · refine VW.exit ?_
     have e_ := leafR h1
     subst w_1
     exact vnext out_69 h (Ent.tu 2)
   refine VW.skip (VW.seq (VW.block (VW.seq ?_)))
   obtain ⟨e72, ⟨f73a, f73b, f73c, f73d⟩, h1⟩ := bindI h1
   refine VW.rA (tm 41 [(1, .ptr 0 0 0), (3, .str out_69), (4, .i .i64 x_70), (5, .i .i64 e72), (21, .sl 1 (rows ci_i64 s.need_)), (22, .i .i64 (s.need_.length : Int)), (23, .i .i64 x_70)]) [some (7, [(pT29 s)]), some (1, rows ci_i64 [s.most_, s.yield_, s.store_, s.first_, s.loss_])] [] hC ?_ (h := by simp -implicitDefEqProofs [f73a, f73b, f73c, f73d])
   obtain ⟨e74, ⟨f75a, f75b, f75c, f75d⟩, h1⟩ := bindI h1
   obtain ⟨r76, q77, h1⟩ := bindE h1
   have c77 : F53 [.sl 1 [[.i .i64 e72], [.i .i64 e74]]] = some (.str r76) := tells_eq inj53 (a := [e72, e74]) q77
   obtain ⟨z78, q79, h1⟩ := bindE h1
   obtain ⟨z80, q81, h1⟩ := bindE h1
   exact VW.rA (tm 41 [(1, .ptr 0 0 0), (3, .str z80), (21, .sl 1 (rows ci_i64 s.need_)), (22, .i .i64 (s.need_.length : Int)), (23, .i .i64 x_70)]) [some (7, [(pT29 s)]), some (1, rows ci_i64 [s.most_, s.yield_, s.store_, s.first_, s.loss_]), some (1, rows ci_i64 [e72, e74])] [] hC (VW.rA (tm 41 [(1, .ptr 0 0 0), (3, .str z80), (21, .sl 1 (rows ci_i64 s.need_)), (22, .i .i64 (s.need_.length : Int)), (23, .i .i64 (aI .i64 x_70 1))]) [some (7, [(pT29 s)]), some (1, rows ci_i64 [s.most_, s.yield_, s.store_, s.first_, s.loss_]), some (1, rows ci_i64 [e72, e74])] [] hC (vnext (z80, aI .i64 x_70 1) (leafL h1) (Ent.tu 2))) (h := by simp -implicitDefEqProofs [f75a, f75b, f75c, f75d, c77, q79, q81])
 rintro out_44 h
 replace h : (g58_j1 out_44).bind _ = _ := h
 rw [g58_j1] at h
 refine VW.seq (VW.rA (tm 41 [(2, .str out_44)]) [some (7, [(pT29 s)]), some (1, rows ci_i64 [s.most_, s.yield_, s.store_, s.first_, s.loss_])] [] hC ?_)
 obtain rfl := leafS h
 exact VW.ret (VRet.fin (by simp [eB58]))
theorem tl58 {s : T29} {r : ByteArray} (h : g58 s = some r) : F58 [.agg [.sl 1 (rows ci_i64 s.need_), .sl 1 (rows ci_i64 s.price_), .i .i64 s.most_, .i .i64 s.yield_, .i .i64 s.store_, .i .i64 s.first_, .i .i64 s.loss_]] = some (.str r) := tells_eq inj58 (a := s) h
noncomputable def g74 (text : ByteArray) : Option ((List ByteArray) × Bool) :=
if eqS text ByteArray.empty = true then
some ([], true)
else
(g99 text (⟨#[10]⟩ : ByteArray)).bind fun r2 =>
(cutK 0 (sI .i64 (r2.length : Int) 1) r2.length).bind fun u4 =>
(idx r2 (sI .i64 (r2.length : Int) 1)).bind fun e6 =>
some ((r2.take ((sI .i64 (r2.length : Int) 1).toNat)), eqS e6 ByteArray.empty)
def eA74 (a : ByteArray) : List V := [.str a]
def eB74 (r : (List ByteArray) × Bool) : V := .tup [.own 1 (rows cs_ r.1), .b r.2]
theorem inj74 (a a' : ByteArray) (h : eA74 a = eA74 a') : a = a' := by
  obtain i193 := a
  obtain i194 := a'
  simp only [eA74, List.cons.injEq, V.i.injEq, V.b.injEq, V.f.injEq, V.str.injEq, V.sl.injEq, V.agg.injEq, V.cptr.injEq, true_and, and_true] at h
  simp_all
noncomputable def F74 : List V → Option V := tells (fun a => g74 a) eA74 eB74
/- loop.example/g01229/impl.linesOf -/
theorem ok74 : Tells Tryd.prog 74 F74 := by
 refine Tells.go 21 Tryd.func74 rfl rfl rfl (by kernel_rfl) (fun _ => rfl) ?_
 rintro text r h
 simp only [eA74, en, Nat.reduceAdd]
 replace h : (g74 text).bind some = some r := bindS h
 rw [g74] at h
 have hC : CEnv.Ok Tryd.prog [(99, F99)] := ⟨.inl ok99, trivial⟩
 refine VW.seq (VW.rA (tm 21 [(0, .str text)]) [] [] hC (VW.seq (VW.seq (VW.rA (tm 21 [(0, .str text), (7, .b (eqS text ByteArray.empty))]) [] [] hC (VW.condI h (fun h => ?_) (fun h => ?_))))))
 · refine VW.seq (VW.rA (tm 21 [(2, .nil), (3, .b true)]) [] [] hC ?_)
   obtain rfl := leafS h
   exact VW.ret (VRet.fin (by simp [eB74]))
 refine VW.skip (VW.seq ?_)
 obtain ⟨r2, q3, h⟩ := bindE h
 have c3 := tl99 q3
 refine VW.rA (tm 21 [(4, .ref 0 0 r2.length)]) [some (1, rows cs_ r2)] [] hC (VW.seq (VW.rA (tm 21 [(4, .ref 0 0 r2.length), (5, .i .i64 (sI .i64 (r2.length : Int) 1))]) [some (1, rows cs_ r2)] [] hC (VW.seq ?_))) (h := by simp -implicitDefEqProofs [c3])
 obtain ⟨u4, ⟨f5a, f5b, f5c, f5d, f5e⟩, h⟩ := bindC h
 try simp only [Int.toNat_natCast, Int.reduceToNat, List.length_cons, List.length_nil, Nat.reduceAdd, Nat.zero_add] at f5a f5b f5c f5d f5e
 obtain ⟨e6, ⟨f7a, f7b, f7c, f7d⟩, h⟩ := bindI h
 try simp only [Int.toNat_natCast, Int.reduceToNat] at f7a f7b f7c f7d
 refine VW.rD (tm 21 [(2, .ref 0 0 ((sI .i64 (r2.length : Int) 1).toNat)), (3, .b (eqS e6 ByteArray.empty))]) [some (1, rows cs_ r2)] [] hC mixed ?_ (h := by simp -implicitDefEqProofs [f5a, f5b, f5c, f5d, f5e, f7a, f7b, f7c, f7d])
 obtain rfl := leafS h
 refine VW.ret (VRet.fin ?_)
 simp [eB74, *]
theorem tl74 {text : ByteArray} {r : (List ByteArray) × Bool} (h : g74 text = some r) : F74 [.str text] = some (.tup [.own 1 (rows cs_ r.1), .b r.2]) := tells_eq inj74 (a := text) h
noncomputable def g65 (a : T83) (b : T83) : Option (Bool) :=
if (!(a.mark_ == b.mark_)) = true then
some false
else
if (!eqI a.check_ b.check_) = true then
some false
else
(g25 a.act_ b.act_).bind fun r3 =>
if (!r3) = true then
some false
else
some true
def eA65 (a : T83 × T83) : List V := [.agg (pT83 a.1), .agg (pT83 a.2)]
def eB65 (r : Bool) : V := .b r
theorem inj65 (a a' : T83 × T83) (h : eA65 a = eA65 a') : a = a' := by
  obtain ⟨⟨i229, i230, ⟨i231, i232, i233⟩⟩, ⟨i234, i235, ⟨i236, i237, i238⟩⟩⟩ := a
  obtain ⟨⟨i239, i240, ⟨i241, i242, i243⟩⟩, ⟨i244, i245, ⟨i246, i247, i248⟩⟩⟩ := a'
  simp only [eA65, pT83, List.cons.injEq, V.i.injEq, V.b.injEq, V.f.injEq, V.str.injEq, V.sl.injEq, V.agg.injEq, V.cptr.injEq, true_and, and_true] at h
  simp_all
noncomputable def F65 : List V → Option V := tells (fun a => g65 a.1 a.2) eA65 eB65
/- loop.example/g01229/laws.eqEntry -/
theorem ok65 : Tells Tryd.prog 65 F65 := by
 refine Tells.go 21 Tryd.func65 rfl rfl rfl (by kernel_rfl) (fun _ => rfl) ?_
 rintro ⟨a, b⟩ r h
 simp only [eA65, en, Nat.reduceAdd]
 replace h : (g65 a b).bind some = some r := bindS h
 rw [g65] at h
 have hC : CEnv.Ok Tryd.prog [(25, F25)] := ⟨.inl ok25, trivial⟩
 refine VW.seq (VW.rA (tm 21 [(2, .ptr 0 0 0), (3, .ptr 1 0 0)]) [some (5, [(pT83 a)]), some (5, [(pT83 b)])] [] hC (VW.seq (VW.seq (VW.rA (tm 21 [(2, .ptr 0 0 0), (3, .ptr 1 0 0), (9, .b (!(a.mark_ == b.mark_)))]) [some (5, [(pT83 a)]), some (5, [(pT83 b)])] [] hC (VW.condI h (fun h => ?_) (fun h => ?_))))))
 · refine VW.seq (VW.rA (tm 21 [(4, .b false)]) [some (5, [(pT83 a)]), some (5, [(pT83 b)])] [] hC ?_)
   obtain rfl := leafS h
   exact VW.ret (VRet.fin (by simp [eB65]))
 refine VW.skip (VW.seq (VW.seq (VW.rA (tm 21 [(2, .ptr 0 0 0), (3, .ptr 1 0 0), (14, .b (!eqI a.check_ b.check_))]) [some (5, [(pT83 a)]), some (5, [(pT83 b)])] [] hC (VW.condI h (fun h => ?_) (fun h => ?_)))))
 · refine VW.seq (VW.rA (tm 21 [(4, .b false)]) [some (5, [(pT83 a)]), some (5, [(pT83 b)])] [] hC ?_)
   obtain rfl := leafS h
   exact VW.ret (VRet.fin (by simp [eB65]))
 refine VW.skip (VW.seq (VW.seq ?_))
 obtain ⟨r3, q4, h⟩ := bindE h
 have c4 := tl25 q4
 refine VW.rA (tm 21 [(20, .b (!r3))]) [some (5, [(pT83 a)]), some (5, [(pT83 b)])] [] hC (VW.condI h (fun h => ?_) (fun h => ?_)) (h := by simp -implicitDefEqProofs [c4])
 · refine VW.seq (VW.rA (tm 21 [(4, .b false)]) [some (5, [(pT83 a)]), some (5, [(pT83 b)])] [] hC ?_)
   obtain rfl := leafS h
   exact VW.ret (VRet.fin (by simp [eB65]))
 refine VW.skip (VW.seq (VW.rA (tm 21 [(4, .b true)]) [some (5, [(pT83 a)]), some (5, [(pT83 b)])] [] hC ?_))
 obtain rfl := leafS h
 exact VW.ret (VRet.fin (by simp [eB65]))
theorem tl65 {a : T83} {b : T83} {r : Bool} (h : g65 a b = some r) : F65 [.agg [.b a.mark_, .i .u32 a.check_, .i .i64 a.act_.kind_, .i .i64 a.act_.a_, .i .i64 a.act_.b_], .agg [.b b.mark_, .i .u32 b.check_, .i .i64 b.act_.kind_, .i .i64 b.act_.a_, .i .i64 b.act_.b_]] = some (.b r) := tells_eq inj65 (a := (a, b)) h
noncomputable def g22_j1 : Option (Bool) :=
some true
noncomputable def g22_L1 (a : List T83) (b : List T83) : (Int) → Option ((Int) ⊕ ((Unit) ⊕ (Bool)))
| i_45 =>
if ltI i_45 (a.length : Int) = true then
(idx a i_45).bind fun e47 =>
(idx b i_45).bind fun e49 =>
(g65 e47 e49).bind fun r51 =>
if (!r51) = true then
some (.inr (.inr false))
else
some (.inl (aI .i64 i_45 1))
else
some (.inr (.inl ()))
noncomputable def g22 (a : List T83) (b : List T83) : Option (Bool) :=
if (!eqI (a.length : Int) (b.length : Int)) = true then
some false
else
(loopO (g22_L1 a b) 0).bind fun w => match w with
| .inl y => g22_j1
| .inr r => some r
def eA22 (a : (List T83) × (List T83)) : List V := [.sl 5 (rows cT83 a.1), .sl 5 (rows cT83 a.2)]
def eB22 (r : Bool) : V := .b r
theorem inj22 (a a' : (List T83) × (List T83)) (h : eA22 a = eA22 a') : a = a' := by
  obtain ⟨i249, i250⟩ := a
  obtain ⟨i251, i252⟩ := a'
  simp only [eA22, List.cons.injEq, V.i.injEq, V.b.injEq, V.f.injEq, V.str.injEq, V.sl.injEq, V.agg.injEq, V.cptr.injEq, true_and, and_true] at h
  simp_all [ri cT83_inj]
noncomputable def F22 : List V → Option V := tells (fun a => g22 a.1 a.2) eA22 eB22
/- loop.example/g01229/laws.eqEntryS -/
theorem ok22 : Tells Tryd.prog 22 F22 := by
 refine Tells.go 27 Tryd.func22 rfl rfl rfl (by kernel_rfl) (fun _ => rfl) ?_
 rintro ⟨a, b⟩ r h
 simp only [eA22, en, Nat.reduceAdd]
 replace h : (g22 a b).bind some = some r := bindS h
 rw [g22] at h
 have hC : CEnv.Ok Tryd.prog [(65, F65)] := ⟨.inl ok65, trivial⟩
 refine VW.seq (VW.rA (tm 27 [(0, .sl 5 (rows cT83 a)), (1, .sl 5 (rows cT83 b))]) [] [] hC (VW.seq (VW.seq (VW.rA (tm 27 [(0, .sl 5 (rows cT83 a)), (1, .sl 5 (rows cT83 b)), (10, .b (!eqI (a.length : Int) (b.length : Int)))]) [] [] hC (VW.condI h (fun h => ?_) (fun h => ?_))))))
 · refine VW.seq (VW.rA (tm 27 [(4, .b false)]) [] [] hC ?_)
   obtain rfl := leafS h
   exact VW.ret (VRet.fin (by simp [eB22]))
 refine VW.skip (VW.join (fun (v : Unit) => (⟨(tm 27 []), [], []⟩ : VS)) (fun v => (g22_j1).bind some = some r) ?_ ?_)
 · refine VW.seq (VW.rA (tm 27 [(0, .sl 5 (rows cT83 a)), (1, .sl 5 (rows cT83 b)), (5, .i .i64 0)]) [] [] hC (VW.block ?_))
   obtain ⟨w_1, hw_1, h⟩ := bindE h
   refine VW.loopO (fun (x : Int) => (⟨(tm 27 [(0, .sl 5 (rows cT83 a)), (1, .sl 5 (rows cT83 b)), (5, .i .i64 x)]), [], []⟩ : VS)) hw_1 (Ent.tu 0) ?_
   rintro n_1 i_45 h1
   rw [g22_L1] at h1
   refine VW.seq (VW.seq (VW.rA (tm 27 [(0, .sl 5 (rows cT83 a)), (1, .sl 5 (rows cT83 b)), (5, .i .i64 i_45), (14, .b (ltI i_45 (a.length : Int)))]) [] [] hC (VW.condJ h1 (fun h1 => ?_) (fun h1 => ?_))))
   · refine VW.exit ?_
     have e_ := leafR h1
     subst w_1
     exact vnext () h (Ent.tu 0)
   refine VW.skip (VW.seq (VW.block (VW.seq ?_)))
   obtain ⟨e47, ⟨f48a, f48b, f48c, f48d⟩, h1⟩ := bindI h1
   obtain ⟨e49, ⟨f50a, f50b, f50c, f50d⟩, h1⟩ := bindI h1
   obtain ⟨r51, q52, h1⟩ := bindE h1
   have c52 := tl65 q52
   refine VW.rD (tm 27 [(0, .sl 5 (rows cT83 a)), (1, .sl 5 (rows cT83 b)), (5, .i .i64 i_45), (26, .b (!r51))]) [] [] hC mixed (VW.condI h1 (fun h1 => ?_) (fun h1 => ?_)) (h := by simp -implicitDefEqProofs [f48a, f48b, f48c, f48d, f50a, f50b, f50c, f50d, c52])
   · refine VW.seq (VW.rA (tm 27 [(4, .b false)]) [] [] hC ?_)
     have e_ := leafR h1
     subst w_1
     obtain rfl := leafS h
     exact VW.ret (VRet.fin (by simp [eB22]))
   exact VW.skip (VW.rA (tm 27 [(0, .sl 5 (rows cT83 a)), (1, .sl 5 (rows cT83 b)), (5, .i .i64 (aI .i64 i_45 1))]) [] [] hC (vnext (aI .i64 i_45 1) (leafL h1) (Ent.tu 0)))
 rintro _ h
 replace h : (g22_j1).bind _ = _ := h
 rw [g22_j1] at h
 refine VW.seq (VW.rA (tm 27 [(4, .b true)]) [] [] hC ?_)
 obtain rfl := leafS h
 exact VW.ret (VRet.fin (by simp [eB22]))
theorem tl22 {a : List T83} {b : List T83} {r : Bool} (h : g22 a b = some r) : F22 [.sl 5 (rows cT83 a), .sl 5 (rows cT83 b)] = some (.b r) := tells_eq inj22 (a := (a, b)) h
noncomputable def g78_j1 (text : ByteArray) (n_20 : Int) : Option (Int × Bool) :=
some (n_20, eqI (text.size : Int) 8)
noncomputable def g78_L1 (text : ByteArray) : (Int × Int) → Option ((Int × Int) ⊕ ((Int) ⊕ (Int × Bool)))
| (n_33, i_34) =>
if ltI i_34 (text.size : Int) = true then
(idxS text i_34).bind fun e36 =>
if (leI 48 e36 && leI e36 57) = true then
some (.inl (aI .u32 (mI .u32 n_33 16) (cI .u32 (sI .u8 e36 48)), aI .i64 i_34 1))
else
if (leI 97 e36 && leI e36 102) = true then
some (.inl (aI .u32 (aI .u32 (mI .u32 n_33 16) (cI .u32 (sI .u8 e36 97))) 10, aI .i64 i_34 1))
else
some (.inr (.inr (0, false)))
else
some (.inr (.inl n_33))
noncomputable def g78 (text : ByteArray) : Option (Int × Bool) :=
(loopO (g78_L1 text) (0, 0)).bind fun w => match w with
| .inl y => g78_j1 text y
| .inr r => some r
def eA78 (a : ByteArray) : List V := [.str a]
def eB78 (r : Int × Bool) : V := .tup [.i .u32 r.1, .b r.2]
theorem inj78 (a a' : ByteArray) (h : eA78 a = eA78 a') : a = a' := by
  obtain i253 := a
  obtain i254 := a'
  simp only [eA78, List.cons.injEq, V.i.injEq, V.b.injEq, V.f.injEq, V.str.injEq, V.sl.injEq, V.agg.injEq, V.cptr.injEq, true_and, and_true] at h
  simp_all
noncomputable def F78 : List V → Option V := tells (fun a => g78 a) eA78 eB78
/- loop.example/g01229/spec.l06ReadHex -/
theorem ok78 : Tells Tryd.prog 78 F78 := by
 refine Tells.go 47 Tryd.func78 rfl rfl rfl (by kernel_rfl) (fun _ => rfl) ?_
 rintro text r h
 simp only [eA78, en, Nat.reduceAdd]
 replace h : (g78 text).bind some = some r := bindS h
 rw [g78] at h
 have hC : CEnv.Ok Tryd.prog [] := trivial
 refine VW.seq (VW.rA (tm 47 [(0, .str text)]) [] [] hC (VW.seq (VW.rA (tm 47 [(0, .str text), (4, .i .u32 0)]) [] [] hC (VW.join (fun (v : Int) => (⟨(tm 47 [(0, .str text), (4, .i .u32 v)]), [], []⟩ : VS)) (fun v => (g78_j1 text (v)).bind some = some r) ?_ ?_))))
 · refine VW.seq (VW.rA (tm 47 [(0, .str text), (4, .i .u32 0), (5, .i .i64 0)]) [] [] hC (VW.block ?_))
   obtain ⟨w_1, hw_1, h⟩ := bindE h
   refine VW.loopO (fun (x : Int × Int) => (⟨(tm 47 [(0, .str text), (4, .i .u32 x.1), (5, .i .i64 x.2)]), [], []⟩ : VS)) hw_1 (Ent.tu 0) ?_
   rintro n_1 ⟨n_33, i_34⟩ h1
   rw [g78_L1] at h1
   refine VW.seq (VW.seq (VW.rA (tm 47 [(0, .str text), (4, .i .u32 n_33), (5, .i .i64 i_34), (10, .b (ltI i_34 (text.size : Int)))]) [] [] hC (VW.condJ h1 (fun h1 => ?_) (fun h1 => ?_))))
   · refine VW.exit ?_
     have e_ := leafR h1
     subst w_1
     exact vnext n_33 h (Ent.tu 0)
   refine VW.skip (VW.seq (VW.block (VW.seq ?_)))
   obtain ⟨e36, ⟨f37a, c37, f37b, f37c, f37d⟩, h1⟩ := bindIS h1
   refine VW.rA (tm 47 [(0, .str text), (4, .i .u32 n_33), (5, .i .i64 i_34), (6, .i .u8 e36)]) [] [] hC (VW.block (VW.seq (VW.rA (tm 47 [(0, .str text), (4, .i .u32 n_33), (5, .i .i64 i_34), (6, .i .u8 e36), (16, .b (leI 48 e36 && leI e36 57))]) [] [] hC (VW.condI h1 (fun h1 => ?_) (fun h1 => ?_))))) (h := by simp -implicitDefEqProofs [f37a, f37b, f37c, f37d])
   · exact VW.rA (tm 47 [(0, .str text), (4, .i .u32 (aI .u32 (mI .u32 n_33 16) (cI .u32 (sI .u8 e36 48)))), (5, .i .i64 i_34)]) [] [] hC (VW.rA (tm 47 [(0, .str text), (4, .i .u32 (aI .u32 (mI .u32 n_33 16) (cI .u32 (sI .u8 e36 48)))), (5, .i .i64 (aI .i64 i_34 1))]) [] [] hC (vnext (aI .u32 (mI .u32 n_33 16) (cI .u32 (sI .u8 e36 48)), aI .i64 i_34 1) (leafL h1) (Ent.tu 0)))
   refine VW.seq (VW.rA (tm 47 [(0, .str text), (4, .i .u32 n_33), (5, .i .i64 i_34), (6, .i .u8 e36), (29, .b (leI 97 e36 && leI e36 102))]) [] [] hC (VW.condJ h1 (fun h1 => ?_) (fun h1 => ?_)))
   · refine VW.seq (VW.rA (tm 47 [(2, .i .u32 0), (3, .b false)]) [] [] hC ?_)
     have e_ := leafR h1
     subst w_1
     obtain rfl := leafS h
     exact VW.ret (VRet.fin (by simp [eB78]))
   exact VW.rA (tm 47 [(0, .str text), (4, .i .u32 (aI .u32 (aI .u32 (mI .u32 n_33 16) (cI .u32 (sI .u8 e36 97))) 10)), (5, .i .i64 i_34)]) [] [] hC (VW.rA (tm 47 [(0, .str text), (4, .i .u32 (aI .u32 (aI .u32 (mI .u32 n_33 16) (cI .u32 (sI .u8 e36 97))) 10)), (5, .i .i64 (aI .i64 i_34 1))]) [] [] hC (vnext (aI .u32 (aI .u32 (mI .u32 n_33 16) (cI .u32 (sI .u8 e36 97))) 10, aI .i64 i_34 1) (leafL h1) (Ent.tu 0)))
 rintro n_20 h
 replace h : (g78_j1 text n_20).bind _ = _ := h
 rw [g78_j1] at h
 refine VW.seq (VW.rA (tm 47 [(2, .i .u32 n_20), (3, .b (eqI (text.size : Int) 8))]) [] [] hC ?_)
 obtain rfl := leafS h
 exact VW.ret (VRet.fin (by simp [eB78]))
theorem tl78 {text : ByteArray} {r : Int × Bool} (h : g78 text = some r) : F78 [.str text] = some (.tup [.i .u32 r.1, .b r.2]) := tells_eq inj78 (a := text) h
noncomputable def g30_j2 (l83 : List T83) : Option ((List T83) × Int) :=
some (l83, 0)
noncomputable def g30_L1 (n_7 : Int) (r2 : List ByteArray) : (Int × (List T83)) → Option ((Int × (List T83)) ⊕ ((List T83) ⊕ ((List T83) × Int)))
| (i_132, l133) =>
if ltI i_132 n_7 = true then
(idx r2 i_132).bind fun e135 =>
(g72 e135 32).bind fun r137 =>
(idx r137 0).bind fun e139 =>
if eqS e139 (⟨#[109, 97, 114, 107]⟩ : ByteArray) = true then
if (!eqI (r137.length : Int) 2) = true then
some (.inr (.inr ([], 5)))
else
(idx r137 1).bind fun e143 =>
(g78 e143).bind fun r145 =>
if (!r145.2) = true then
some (.inr (.inr ([], 5)))
else
(appK 32 l133 [(⟨true, r145.1, (⟨0, 0, 0⟩ : T22)⟩ : T83)]).bind fun u148 =>
some (.inl (aI .i64 i_132 1, (l133 ++ [(⟨true, r145.1, (⟨0, 0, 0⟩ : T22)⟩ : T83)])))
else
(idx r2 i_132).bind fun e150 =>
(g66 e150).bind fun r152 =>
if (!r152.2) = true then
some (.inr (.inr ([], 5)))
else
(appK 32 l133 [(⟨false, 0, r152.1⟩ : T83)]).bind fun u155 =>
some (.inl (aI .i64 i_132 1, (l133 ++ [(⟨false, 0, r152.1⟩ : T83)])))
else
some (.inr (.inl l133))
noncomputable def g30_j1 (r2 : List ByteArray) (n_7 : Int) : Option ((List T83) × Int) :=
if ltI 150 n_7 = true then
some ([], 2)
else
if eqI n_7 (r2.length : Int) = true then
some ([], 5)
else
(loopO (g30_L1 n_7 r2) (0, [])).bind fun w => match w with
| .inl y => g30_j2 y
| .inr r => some r
noncomputable def g30 (text : ByteArray) : Option ((List T83) × Int) :=
if eqS text ByteArray.empty = true then
some ([], 0)
else
(g72 text 10).bind fun r2 =>
(idx r2 (sI .i64 (r2.length : Int) 1)).bind fun e157 =>
if eqS e157 ByteArray.empty = true then
g30_j1 r2 (sI .i64 (r2.length : Int) 1)
else
g30_j1 r2 (r2.length : Int)
def eA30 (a : ByteArray) : List V := [.str a]
def eB30 (r : (List T83) × Int) : V := .tup [.own 5 (rows cT83 r.1), .i .i64 r.2]
theorem inj30 (a a' : ByteArray) (h : eA30 a = eA30 a') : a = a' := by
  obtain i255 := a
  obtain i256 := a'
  simp only [eA30, List.cons.injEq, V.i.injEq, V.b.injEq, V.f.injEq, V.str.injEq, V.sl.injEq, V.agg.injEq, V.cptr.injEq, true_and, and_true] at h
  simp_all
noncomputable def F30 : List V → Option V := tells (fun a => g30 a) eA30 eB30
/- loop.example/g01229/spec.ReadJournal -/
theorem ok30 : Tells Tryd.prog 30 F30 := by
 refine Tells.go 87 Tryd.func30 rfl rfl rfl (by kernel_rfl) (fun _ => rfl) ?_
 rintro text r h
 simp only [eA30, en, Nat.reduceAdd]
 replace h : (g30 text).bind some = some r := bindS h
 rw [g30] at h
 have hC : CEnv.Ok Tryd.prog [(66, F66), (72, fzF F72), (78, F78)] := ⟨.inl ok66, .inl ok72.fz, .inl ok78, trivial⟩
 refine VW.seq (VW.rA (tm 87 [(0, .str text)]) [] [] hC (VW.seq (VW.rA (tm 87 [(0, .str text), (4, .ref 0 0 0)]) [some (5, rows cT83 [])] [] hC (VW.seq (VW.seq (VW.rA (tm 87 [(0, .str text), (4, .ref 0 0 0), (15, .b (eqS text ByteArray.empty))]) [some (5, rows cT83 [])] [] hC (VW.condI h (fun h => ?_) (fun h => ?_))))))))
 · refine VW.seq (VW.rA (tm 87 [(2, .ref 0 0 0), (3, .i .i64 0)]) [some (5, rows cT83 [])] [] hC ?_)
   obtain rfl := leafS h
   exact VW.ret (VRet.fin (by simp [eB30]))
 refine VW.skip (VW.seq ?_)
 obtain ⟨r2, q3, h⟩ := bindE h
 have c3 := tl72 q3
 replace c3 : fzF F72 [.str text, .i .u8 10] = some (.sl 1 (rows cs_ r2)) := (fzF_eq c3).trans (by simp)
 refine VW.rA (tm 87 [(4, .ref 0 0 0), (5, .sl 1 (rows cs_ r2))]) [some (5, rows cT83 [])] [] hC (VW.seq (VW.rA (tm 87 [(4, .ref 0 0 0), (5, .sl 1 (rows cs_ r2)), (6, .i .i64 (r2.length : Int))]) [some (5, rows cT83 [])] [] hC (VW.join (fun (v : Int) => (⟨(tm 87 [(4, .ref 0 0 0), (5, .sl 1 (rows cs_ r2)), (6, .i .i64 v)]), [some (5, rows cT83 [])], []⟩ : VS)) (fun v => (g30_j1 r2 (v)).bind some = some r) ?_ ?_))) (h := by simp -implicitDefEqProofs [c3])
 · refine VW.seq ?_
   obtain ⟨e157, ⟨f158a, f158b, f158c, f158d⟩, h⟩ := bindI h
   try simp only [Int.toNat_natCast, Int.reduceToNat] at f158a f158b f158c f158d
   refine VW.rA (tm 87 [(4, .ref 0 0 0), (5, .sl 1 (rows cs_ r2)), (6, .i .i64 (r2.length : Int)), (26, .b (eqS e157 ByteArray.empty))]) [some (5, rows cT83 [])] [] hC (VW.condJ h (fun h => ?_) (fun h => ?_)) (h := by simp -implicitDefEqProofs [f158a, f158b, f158c, f158d])
   · exact VW.skip (vnext (r2.length : Int) h (Ent.tu 1))
   exact VW.rA (tm 87 [(4, .ref 0 0 0), (5, .sl 1 (rows cs_ r2)), (6, .i .i64 (sI .i64 (r2.length : Int) 1))]) [some (5, rows cT83 [])] [] hC (vnext (sI .i64 (r2.length : Int) 1) h (Ent.tu 1))
 rintro n_7 h
 replace h : (g30_j1 r2 n_7).bind _ = _ := h
 rw [g30_j1] at h
 refine VW.seq (VW.seq (VW.rA (tm 87 [(4, .ref 0 0 0), (5, .sl 1 (rows cs_ r2)), (6, .i .i64 n_7), (30, .b (ltI 150 n_7))]) [some (5, rows cT83 [])] [] hC (VW.condI h (fun h => ?_) (fun h => ?_))))
 · refine VW.seq (VW.rA (tm 87 [(2, .ref 1 0 0), (3, .i .i64 2)]) [some (5, rows cT83 []), some (5, rows cT83 [])] [] hC ?_)
   obtain rfl := leafS h
   exact VW.ret (VRet.fin (by simp [eB30]))
 refine VW.skip (VW.seq (VW.seq (VW.rA (tm 87 [(4, .ref 0 0 0), (5, .sl 1 (rows cs_ r2)), (6, .i .i64 n_7), (35, .b (eqI n_7 (r2.length : Int)))]) [some (5, rows cT83 [])] [] hC (VW.condI h (fun h => ?_) (fun h => ?_)))))
 · refine VW.seq (VW.rA (tm 87 [(2, .ref 1 0 0), (3, .i .i64 5)]) [some (5, rows cT83 []), some (5, rows cT83 [])] [] hC ?_)
   obtain rfl := leafS h
   exact VW.ret (VRet.fin (by simp [eB30]))
 refine VW.skip (VW.join (fun (v : List T83) => (⟨(tm 87 [(4, .ref 0 0 v.length)]), [some (5, rows cT83 v)], []⟩ : VS)) (fun v => (g30_j2 (v)).bind some = some r) ?_ ?_)
 · refine VW.seq (VW.rA (tm 87 [(4, .ref 0 0 0), (5, .sl 1 (rows cs_ r2)), (6, .i .i64 n_7), (7, .i .i64 0)]) [some (5, rows cT83 [])] [] hC (VW.block ?_))
   obtain ⟨w_1, hw_1, h⟩ := bindE h
   refine VW.loopO (fun (x : Int × (List T83)) => (⟨(tm 87 [(4, .ref 0 0 x.2.length), (5, .sl 1 (rows cs_ r2)), (6, .i .i64 n_7), (7, .i .i64 x.1)]), [some (5, rows cT83 x.2)], []⟩ : VS)) hw_1 (Ent.tu 1) ?_
   rintro n_1 ⟨i_132, l133⟩ h1
   rw [g30_L1] at h1
   refine VW.seq (VW.seq (VW.rA (tm 87 [(4, .ref 0 0 l133.length), (5, .sl 1 (rows cs_ r2)), (6, .i .i64 n_7), (7, .i .i64 i_132), (39, .b (ltI i_132 n_7))]) [some (5, rows cT83 l133)] [] hC (VW.condJ h1 (fun h1 => ?_) (fun h1 => ?_))))
   · refine VW.exit ?_
     have e_ := leafR h1
     subst w_1
     exact vnext l133 h (Ent.tu 1)
   refine VW.skip (VW.seq (VW.block (VW.seq ?_)))
   obtain ⟨e135, ⟨f136a, f136b, f136c, f136d⟩, h1⟩ := bindI h1
   obtain ⟨r137, q138, h1⟩ := bindE h1
   have c138 := tl72 q138
   replace c138 : fzF F72 [.str e135, .i .u8 32] = some (.sl 1 (rows cs_ r137)) := (fzF_eq c138).trans (by simp)
   refine VW.rA (tm 87 [(4, .ref 0 0 l133.length), (5, .sl 1 (rows cs_ r2)), (6, .i .i64 n_7), (7, .i .i64 i_132), (8, .sl 1 (rows cs_ r137))]) [some (5, rows cT83 l133)] [] hC (VW.seq (VW.seq ?_)) (h := by simp -implicitDefEqProofs [f136a, f136b, f136c, f136d, c138])
   obtain ⟨e139, ⟨f140a, f140b, f140c, f140d⟩, h1⟩ := bindI h1
   try simp only [Int.toNat_natCast, Int.reduceToNat] at f140a f140b f140c f140d
   refine VW.rA (tm 87 [(4, .ref 0 0 l133.length), (5, .sl 1 (rows cs_ r2)), (6, .i .i64 n_7), (7, .i .i64 i_132), (8, .sl 1 (rows cs_ r137)), (50, .b (eqS e139 (⟨#[109, 97, 114, 107]⟩ : ByteArray)))]) [some (5, rows cT83 l133)] [] hC (VW.condJ h1 (fun h1 => ?_) (fun h1 => ?_)) (h := by simp -implicitDefEqProofs [f140a, f140b, f140c, f140d])
   · refine VW.skip (VW.seq ?_)
     obtain ⟨e150, ⟨f151a, f151b, f151c, f151d⟩, h1⟩ := bindI h1
     obtain ⟨r152, q153, h1⟩ := bindE h1
     have c153 := tl66 q153
     refine VW.rA (tm 87 [(4, .ref 0 0 l133.length), (5, .sl 1 (rows cs_ r2)), (6, .i .i64 n_7), (7, .i .i64 i_132), (11, .ptr 1 0 0), (12, .b r152.2)]) [some (5, rows cT83 l133), some (3, [[.i .i64 r152.1.kind_, .i .i64 r152.1.a_, .i .i64 r152.1.b_]])] [] hC (VW.seq (VW.seq (VW.rA (tm 87 [(4, .ref 0 0 l133.length), (5, .sl 1 (rows cs_ r2)), (6, .i .i64 n_7), (7, .i .i64 i_132), (11, .ptr 1 0 0), (79, .b (!r152.2))]) [some (5, rows cT83 l133), some (3, [[.i .i64 r152.1.kind_, .i .i64 r152.1.a_, .i .i64 r152.1.b_]])] [] hC (VW.condI h1 (fun h1 => ?_) (fun h1 => ?_))))) (h := by simp -implicitDefEqProofs [f151a, f151b, f151c, f151d, c153])
     · refine VW.seq (VW.rA (tm 87 [(2, .ref 2 0 0), (3, .i .i64 5)]) [some (5, rows cT83 l133), some (3, [[.i .i64 r152.1.kind_, .i .i64 r152.1.a_, .i .i64 r152.1.b_]]), some (5, rows cT83 [])] [] hC ?_)
       have e_ := leafR h1
       subst w_1
       obtain rfl := leafS h
       exact VW.ret (VRet.fin (by simp [eB30]))
     refine VW.skip ?_
     obtain ⟨u155, ⟨f156a, f156b⟩, h1⟩ := bindP h1
     try simp only [Int.toNat_natCast, Int.reduceToNat, List.length_cons, List.length_nil, Nat.reduceAdd, Nat.zero_add] at f156a f156b
     exact VW.rA (tm 87 [(4, .ref 0 0 (l133 ++ [(⟨false, 0, r152.1⟩ : T83)]).length), (5, .sl 1 (rows cs_ r2)), (6, .i .i64 n_7), (7, .i .i64 i_132)]) [some (5, rows cT83 (l133 ++ [(⟨false, 0, r152.1⟩ : T83)])), some (3, [[.i .i64 r152.1.kind_, .i .i64 r152.1.a_, .i .i64 r152.1.b_]]), some (5, rows cT83 [(⟨false, 0, r152.1⟩ : T83)])] [] hC (VW.rA (tm 87 [(4, .ref 0 0 (l133 ++ [(⟨false, 0, r152.1⟩ : T83)]).length), (5, .sl 1 (rows cs_ r2)), (6, .i .i64 n_7), (7, .i .i64 (aI .i64 i_132 1))]) [some (5, rows cT83 (l133 ++ [(⟨false, 0, r152.1⟩ : T83)])), some (3, [[.i .i64 r152.1.kind_, .i .i64 r152.1.a_, .i .i64 r152.1.b_]]), some (5, rows cT83 [(⟨false, 0, r152.1⟩ : T83)])] [] hC (vnext (aI .i64 i_132 1, (l133 ++ [(⟨false, 0, r152.1⟩ : T83)])) (leafL h1) (Ent.tu 1))) (h := by simp -implicitDefEqProofs [f156a, f156b])
   refine VW.seq (VW.seq (VW.rA (tm 87 [(4, .ref 0 0 l133.length), (5, .sl 1 (rows cs_ r2)), (6, .i .i64 n_7), (7, .i .i64 i_132), (8, .sl 1 (rows cs_ r137)), (53, .b (!eqI (r137.length : Int) 2))]) [some (5, rows cT83 l133)] [] hC (VW.condI h1 (fun h1 => ?_) (fun h1 => ?_))))
   · refine VW.seq (VW.rA (tm 87 [(2, .ref 1 0 0), (3, .i .i64 5)]) [some (5, rows cT83 l133), some (5, rows cT83 [])] [] hC ?_)
     have e_ := leafR h1
     subst w_1
     obtain rfl := leafS h
     exact VW.ret (VRet.fin (by simp [eB30]))
   refine VW.skip (VW.seq ?_)
   obtain ⟨e143, ⟨f144a, f144b, f144c, f144d⟩, h1⟩ := bindI h1
   try simp only [Int.toNat_natCast, Int.reduceToNat] at f144a f144b f144c f144d
   obtain ⟨r145, q146, h1⟩ := bindE h1
   have c146 := tl78 q146
   refine VW.rA (tm 87 [(4, .ref 0 0 l133.length), (5, .sl 1 (rows cs_ r2)), (6, .i .i64 n_7), (7, .i .i64 i_132), (9, .i .u32 r145.1), (10, .b r145.2)]) [some (5, rows cT83 l133)] [] hC (VW.seq (VW.seq (VW.rA (tm 87 [(4, .ref 0 0 l133.length), (5, .sl 1 (rows cs_ r2)), (6, .i .i64 n_7), (7, .i .i64 i_132), (9, .i .u32 r145.1), (63, .b (!r145.2))]) [some (5, rows cT83 l133)] [] hC (VW.condI h1 (fun h1 => ?_) (fun h1 => ?_))))) (h := by simp -implicitDefEqProofs [f144a, f144b, f144c, f144d, c146])
   · refine VW.seq (VW.rA (tm 87 [(2, .ref 1 0 0), (3, .i .i64 5)]) [some (5, rows cT83 l133), some (5, rows cT83 [])] [] hC ?_)
     have e_ := leafR h1
     subst w_1
     obtain rfl := leafS h
     exact VW.ret (VRet.fin (by simp [eB30]))
   refine VW.skip (VW.seq ?_)
   obtain ⟨u148, ⟨f149a, f149b⟩, h1⟩ := bindP h1
   try simp only [Int.toNat_natCast, Int.reduceToNat, List.length_cons, List.length_nil, Nat.reduceAdd, Nat.zero_add] at f149a f149b
   exact VW.rA (tm 87 [(4, .ref 0 0 (l133 ++ [(⟨true, r145.1, (⟨0, 0, 0⟩ : T22)⟩ : T83)]).length), (5, .sl 1 (rows cs_ r2)), (6, .i .i64 n_7), (7, .i .i64 i_132)]) [some (5, rows cT83 (l133 ++ [(⟨true, r145.1, (⟨0, 0, 0⟩ : T22)⟩ : T83)])), some (5, rows cT83 [(⟨true, r145.1, (⟨0, 0, 0⟩ : T22)⟩ : T83)])] [] hC (VW.exit (VW.rA (tm 87 [(4, .ref 0 0 (l133 ++ [(⟨true, r145.1, (⟨0, 0, 0⟩ : T22)⟩ : T83)]).length), (5, .sl 1 (rows cs_ r2)), (6, .i .i64 n_7), (7, .i .i64 (aI .i64 i_132 1))]) [some (5, rows cT83 (l133 ++ [(⟨true, r145.1, (⟨0, 0, 0⟩ : T22)⟩ : T83)])), some (5, rows cT83 [(⟨true, r145.1, (⟨0, 0, 0⟩ : T22)⟩ : T83)])] [] hC (vnext (aI .i64 i_132 1, (l133 ++ [(⟨true, r145.1, (⟨0, 0, 0⟩ : T22)⟩ : T83)])) (leafL h1) (Ent.tu 1)))) (h := by simp -implicitDefEqProofs [f149a, f149b])
 rintro l83 h
 replace h : (g30_j2 l83).bind _ = _ := h
 rw [g30_j2] at h
 refine VW.seq (VW.rA (tm 87 [(2, .ref 0 0 l83.length), (3, .i .i64 0)]) [some (5, rows cT83 l83)] [] hC ?_)
 obtain rfl := leafS h
 exact VW.ret (VRet.fin (by simp [eB30]))
theorem tl30 {text : ByteArray} {r : (List T83) × Int} (h : g30 text = some r) : F30 [.str text] = some (.tup [.own 5 (rows cT83 r.1), .i .i64 r.2]) := tells_eq inj30 (a := text) h
noncomputable def g113 (s : ByteArray) (prefix_ : ByteArray) : Option (Bool) :=
(if leI (prefix_.size : Int) (s.size : Int) = true then (cutK 0 (prefix_.size : Int) s.size).bind fun u1 => some (eqS (s.extract 0 (prefix_.size : Int).toNat) prefix_) else some false).bind fun w3 =>
some w3
def eA113 (a : ByteArray × ByteArray) : List V := [.str a.1, .str a.2]
def eB113 (r : Bool) : V := .b r
theorem inj113 (a a' : ByteArray × ByteArray) (h : eA113 a = eA113 a') : a = a' := by
  obtain ⟨i257, i258⟩ := a
  obtain ⟨i259, i260⟩ := a'
  simp only [eA113, List.cons.injEq, V.i.injEq, V.b.injEq, V.f.injEq, V.str.injEq, V.sl.injEq, V.agg.injEq, V.cptr.injEq, true_and, and_true] at h
  simp_all
noncomputable def F113 : List V → Option V := tells (fun a => g113 a.1 a.2) eA113 eB113
/- internal/stringslite.HasPrefix -/
theorem ok113 : Tells Tryd.prog 113 F113 := by
 refine Tells.go 18 Tryd.func113 rfl rfl rfl (by kernel_rfl) (fun _ => rfl) ?_
 rintro ⟨s, prefix_⟩ r h
 simp only [eA113, en, Nat.reduceAdd]
 replace h : (g113 s prefix_).bind some = some r := bindS h
 rw [g113] at h
 have hC : CEnv.Ok Tryd.prog [] := trivial
 refine VW.seq (VW.rA (tm 18 [(0, .str s), (1, .str prefix_)]) [] [] hC (VW.seq ?_))
 obtain ⟨w3, q4, h⟩ := bindE h
 refine VW.evalA (tm 18 [(4, .b w3)]) [] [] hC (by kernel_rfl) (by
     obtain ⟨q5, q4⟩ | ⟨q5, rfl⟩ := gdT q4
     · obtain ⟨u1, q2, q4⟩ := bindQ q4
       obtain ⟨f2a, f2b, f2c, f2d, f2e⟩ := cutK_some2 q2
       try simp only [Int.toNat_natCast, Int.reduceToNat, List.length_cons, List.length_nil, Nat.reduceAdd, Nat.zero_add] at f2a f2b f2c f2d f2e
       obtain rfl := Option.some.inj q4
       simp -implicitDefEqProofs [q5, f2a, f2b, f2c, f2d, f2e]
     simp -implicitDefEqProofs [q5]) ?_
 obtain rfl := leafS h
 exact VW.ret (VRet.fin (by simp [eB113]))
theorem tl113 {s : ByteArray} {prefix_ : ByteArray} {r : Bool} (h : g113 s prefix_ = some r) : F113 [.str s, .str prefix_] = some (.b r) := tells_eq inj113 (a := (s, prefix_)) h
noncomputable def g101 (s : ByteArray) (prefix_ : ByteArray) : Option (ByteArray × Bool) :=
(g113 s prefix_).bind fun r1 =>
if (!r1) = true then
some (s, false)
else
(cutK (prefix_.size : Int) (s.size : Int) s.size).bind fun u4 =>
some ((s.extract (prefix_.size : Int).toNat s.size), true)
def eA101 (a : ByteArray × ByteArray) : List V := [.str a.1, .str a.2]
def eB101 (r : ByteArray × Bool) : V := .tup [.str r.1, .b r.2]
theorem inj101 (a a' : ByteArray × ByteArray) (h : eA101 a = eA101 a') : a = a' := by
  obtain ⟨i261, i262⟩ := a
  obtain ⟨i263, i264⟩ := a'
  simp only [eA101, List.cons.injEq, V.i.injEq, V.b.injEq, V.f.injEq, V.str.injEq, V.sl.injEq, V.agg.injEq, V.cptr.injEq, true_and, and_true] at h
  simp_all
noncomputable def F101 : List V → Option V := tells (fun a => g101 a.1 a.2) eA101 eB101
/- internal/stringslite.CutPrefix -/
theorem ok101 : Tells Tryd.prog 101 F101 := by
 refine Tells.go 15 Tryd.func101 rfl rfl rfl (by kernel_rfl) (fun _ => rfl) ?_
 rintro ⟨s, prefix_⟩ r h
 simp only [eA101, en, Nat.reduceAdd]
 replace h : (g101 s prefix_).bind some = some r := bindS h
 rw [g101] at h
 have hC : CEnv.Ok Tryd.prog [(113, F113)] := ⟨.inl ok113, trivial⟩
 refine VW.seq (VW.rA (tm 15 [(0, .str s), (1, .str prefix_)]) [] [] hC (VW.seq (VW.seq ?_)))
 obtain ⟨r1, q2, h⟩ := bindE h
 have c2 := tl113 q2
 refine VW.rA (tm 15 [(0, .str s), (1, .str prefix_), (9, .b (!r1))]) [] [] hC (VW.condI h (fun h => ?_) (fun h => ?_)) (h := by simp -implicitDefEqProofs [c2])
 · refine VW.seq (VW.rA (tm 15 [(4, .str s), (5, .b false)]) [] [] hC ?_)
   obtain rfl := leafS h
   exact VW.ret (VRet.fin (by simp [eB101]))
 refine VW.skip (VW.seq ?_)
 obtain ⟨u4, ⟨f5a, f5b, f5c, f5d, f5e⟩, h⟩ := bindC h
 try simp only [Int.toNat_natCast, Int.reduceToNat, List.length_cons, List.length_nil, Nat.reduceAdd, Nat.zero_add] at f5a f5b f5c f5d f5e
 refine VW.rA (tm 15 [(4, .str (s.extract (prefix_.size : Int).toNat s.size)), (5, .b true)]) [] [] hC ?_ (h := by simp -implicitDefEqProofs [f5a, f5b, f5c, f5d, f5e])
 obtain rfl := leafS h
 exact VW.ret (VRet.fin (by simp [eB101]))
theorem tl101 {s : ByteArray} {prefix_ : ByteArray} {r : ByteArray × Bool} (h : g101 s prefix_ = some r) : F101 [.str s, .str prefix_] = some (.tup [.str r.1, .b r.2]) := tells_eq inj101 (a := (s, prefix_)) h
noncomputable def g79 (s : ByteArray) (prefix_ : ByteArray) : Option (ByteArray × Bool) :=
(g101 s prefix_).bind fun r1 =>
some (r1.1, r1.2)
def eA79 (a : ByteArray × ByteArray) : List V := [.str a.1, .str a.2]
def eB79 (r : ByteArray × Bool) : V := .tup [.str r.1, .b r.2]
theorem inj79 (a a' : ByteArray × ByteArray) (h : eA79 a = eA79 a') : a = a' := by
  obtain ⟨i265, i266⟩ := a
  obtain ⟨i267, i268⟩ := a'
  simp only [eA79, List.cons.injEq, V.i.injEq, V.b.injEq, V.f.injEq, V.str.injEq, V.sl.injEq, V.agg.injEq, V.cptr.injEq, true_and, and_true] at h
  simp_all
noncomputable def F79 : List V → Option V := tells (fun a => g79 a.1 a.2) eA79 eB79
/- strings.CutPrefix -/
theorem ok79 : Tells Tryd.prog 79 F79 := by
 refine Tells.go 11 Tryd.func79 rfl rfl rfl (by kernel_rfl) (fun _ => rfl) ?_
 rintro ⟨s, prefix_⟩ r h
 simp only [eA79, en, Nat.reduceAdd]
 replace h : (g79 s prefix_).bind some = some r := bindS h
 rw [g79] at h
 have hC : CEnv.Ok Tryd.prog [(101, F101)] := ⟨.inl ok101, trivial⟩
 refine VW.seq (VW.rA (tm 11 [(0, .str s), (1, .str prefix_)]) [] [] hC (VW.seq ?_))
 obtain ⟨r1, q2, h⟩ := bindE h
 have c2 := tl101 q2
 refine VW.rA (tm 11 [(4, .str r1.1), (5, .b r1.2)]) [] [] hC ?_ (h := by simp -implicitDefEqProofs [c2])
 obtain rfl := leafS h
 exact VW.ret (VRet.fin (by simp [eB79]))
theorem tl79 {s : ByteArray} {prefix_ : ByteArray} {r : ByteArray × Bool} (h : g79 s prefix_ = some r) : F79 [.str s, .str prefix_] = some (.tup [.str r.1, .b r.2]) := tells_eq inj79 (a := (s, prefix_)) h
noncomputable def g102 (p0 : ByteArray) (p1 : Int) : Option (Int) := indexByteO p0 p1
def eA102 (a : ByteArray × Int) : List V := [.str a.1, .i .u8 a.2]
def eB102 (r : Int) : V := .i .i64 r
theorem inj102 (a a' : ByteArray × Int) (h : eA102 a = eA102 a') : a = a' := by
  obtain ⟨i269, i270⟩ := a
  obtain ⟨i271, i272⟩ := a'
  simp only [eA102, List.cons.injEq, V.i.injEq, V.b.injEq, V.f.injEq, V.str.injEq, V.sl.injEq, V.agg.injEq, V.cptr.injEq, true_and, and_true] at h
  simp_all
noncomputable def F102 : List V → Option V := tells (fun a => g102 a.1 a.2) eA102 eB102
/- strings.IndexByte -/
theorem ok102 : Tells Tryd.prog 102 F102 := Tells.of (by kernel_rfl) (fun ⟨p0, p1⟩ r h => indexByte_calls Tryd.lays137 h)
theorem tl102 {p0 : ByteArray} {p1 : Int} {r : Int} (h : g102 p0 p1 = some r) : F102 [.str p0, .i .u8 p1] = some (.i .i64 r) := tells_eq inj102 (a := (p0, p1)) h
noncomputable def g80_j1 (n_30 : Int) : Option (Int × Bool) :=
some (n_30, true)
noncomputable def g80_L1 (s : ByteArray) : (Int × Int) → Option ((Int × Int) ⊕ ((Int) ⊕ (Int × Bool)))
| (n_49, x_50) =>
if ltI x_50 (s.size : Int) = true then
(idxS s x_50).bind fun e52 =>
(g102 (⟨#[48, 49, 50, 51, 52, 53, 54, 55, 56, 57, 97, 98, 99, 100, 101, 102]⟩ : ByteArray) e52).bind fun r54 =>
if ltI r54 0 = true then
some (.inr (.inr (0, false)))
else
(shlI .u32 n_49 4).bind fun d57 =>
some (.inl (orI .u32 d57 (cI .u32 r54), aI .i64 x_50 1))
else
some (.inr (.inl n_49))
noncomputable def g80 (s : ByteArray) : Option (Int × Bool) :=
if (!eqI (s.size : Int) 8) = true then
some (0, false)
else
(loopO (g80_L1 s) (0, 0)).bind fun w => match w with
| .inl y => g80_j1 y
| .inr r => some r
def eA80 (a : ByteArray) : List V := [.str a]
def eB80 (r : Int × Bool) : V := .tup [.i .u32 r.1, .b r.2]
theorem inj80 (a a' : ByteArray) (h : eA80 a = eA80 a') : a = a' := by
  obtain i273 := a
  obtain i274 := a'
  simp only [eA80, List.cons.injEq, V.i.injEq, V.b.injEq, V.f.injEq, V.str.injEq, V.sl.injEq, V.agg.injEq, V.cptr.injEq, true_and, and_true] at h
  simp_all
noncomputable def F80 : List V → Option V := tells (fun a => g80 a) eA80 eB80
/- loop.example/g01229/impl.unhex -/
theorem ok80 : Tells Tryd.prog 80 F80 := by
 refine Tells.go 28 Tryd.func80 rfl rfl rfl (by kernel_rfl) (fun _ => rfl) ?_
 rintro s r h
 simp only [eA80, en, Nat.reduceAdd]
 replace h : (g80 s).bind some = some r := bindS h
 rw [g80] at h
 have hC : CEnv.Ok Tryd.prog [(102, F102)] := ⟨.inl ok102, trivial⟩
 refine VW.seq (VW.rA (tm 28 [(0, .str s)]) [] [] hC (VW.seq (VW.seq (VW.rA (tm 28 [(0, .str s), (9, .b (!eqI (s.size : Int) 8))]) [] [] hC (VW.condI h (fun h => ?_) (fun h => ?_))))))
 · refine VW.seq (VW.rA (tm 28 [(2, .i .u32 0), (3, .b false)]) [] [] hC ?_)
   obtain rfl := leafS h
   exact VW.ret (VRet.fin (by simp [eB80]))
 refine VW.skip (VW.seq (VW.rA (tm 28 [(0, .str s), (4, .i .u32 0)]) [] [] hC (VW.join (fun (v : Int) => (⟨(tm 28 [(4, .i .u32 v)]), [], []⟩ : VS)) (fun v => (g80_j1 (v)).bind some = some r) ?_ ?_)))
 · refine VW.seq (VW.rA (tm 28 [(0, .str s), (4, .i .u32 0), (11, .i .i64 (s.size : Int)), (12, .i .i64 0)]) [] [] hC (VW.block ?_))
   obtain ⟨w_1, hw_1, h⟩ := bindE h
   refine VW.loopO (fun (x : Int × Int) => (⟨(tm 28 [(0, .str s), (4, .i .u32 x.1), (11, .i .i64 (s.size : Int)), (12, .i .i64 x.2)]), [], []⟩ : VS)) hw_1 (Ent.tu 0) ?_
   rintro n_1 ⟨n_49, x_50⟩ h1
   rw [g80_L1] at h1
   refine VW.seq (VW.rA (tm 28 [(0, .str s), (4, .i .u32 n_49), (11, .i .i64 (s.size : Int)), (12, .i .i64 x_50), (13, .b (ltI x_50 (s.size : Int)))]) [] [] hC (VW.seq (VW.condJ h1 (fun h1 => ?_) (fun h1 => ?_))))
   · refine VW.exit ?_
     have e_ := leafR h1
     subst w_1
     exact vnext n_49 h (Ent.tu 0)
   refine VW.skip (VW.seq (VW.block (VW.seq (VW.rA (tm 28 [(0, .str s), (4, .i .u32 n_49), (5, .i .i64 x_50), (11, .i .i64 (s.size : Int)), (12, .i .i64 x_50)]) [] [] hC (VW.seq ?_)))))
   obtain ⟨e52, ⟨f53a, c53, f53b, f53c, f53d⟩, h1⟩ := bindIS h1
   obtain ⟨r54, q55, h1⟩ := bindE h1
   have c55 := tl102 q55
   refine VW.rA (tm 28 [(0, .str s), (4, .i .u32 n_49), (6, .i .i64 r54), (11, .i .i64 (s.size : Int)), (12, .i .i64 x_50)]) [] [] hC (VW.seq (VW.seq (VW.rA (tm 28 [(0, .str s), (4, .i .u32 n_49), (6, .i .i64 r54), (11, .i .i64 (s.size : Int)), (12, .i .i64 x_50), (20, .b (ltI r54 0))]) [] [] hC (VW.condI h1 (fun h1 => ?_) (fun h1 => ?_))))) (h := by simp -implicitDefEqProofs [f53a, f53b, f53c, f53d, c55])
   · refine VW.seq (VW.rA (tm 28 [(2, .i .u32 0), (3, .b false)]) [] [] hC ?_)
     have e_ := leafR h1
     subst w_1
     obtain rfl := leafS h
     exact VW.ret (VRet.fin (by simp [eB80]))
   refine VW.skip ?_
   obtain ⟨d57, q58, h1⟩ := bindE h1
   exact VW.rA (tm 28 [(0, .str s), (4, .i .u32 (orI .u32 d57 (cI .u32 r54))), (11, .i .i64 (s.size : Int)), (12, .i .i64 x_50)]) [] [] hC (VW.rA (tm 28 [(0, .str s), (4, .i .u32 (orI .u32 d57 (cI .u32 r54))), (11, .i .i64 (s.size : Int)), (12, .i .i64 (aI .i64 x_50 1))]) [] [] hC (vnext (orI .u32 d57 (cI .u32 r54), aI .i64 x_50 1) (leafL h1) (Ent.tu 0))) (h := by simp -implicitDefEqProofs [q58])
 rintro n_30 h
 replace h : (g80_j1 n_30).bind _ = _ := h
 rw [g80_j1] at h
 refine VW.seq (VW.rA (tm 28 [(2, .i .u32 n_30), (3, .b true)]) [] [] hC ?_)
 obtain rfl := leafS h
 exact VW.ret (VRet.fin (by simp [eB80]))
theorem tl80 {s : ByteArray} {r : Int × Bool} (h : g80 s = some r) : F80 [.str s] = some (.tup [.i .u32 r.1, .b r.2]) := tells_eq inj80 (a := s) h
noncomputable def g31_j2 (l59 : List T83) : Option ((List T83) × Int) :=
some (l59, 0)
noncomputable def g31_L1 (r1 : (List ByteArray) × Bool) : (Int × (List T83)) → Option ((Int × (List T83)) ⊕ ((List T83) ⊕ ((List T83) × Int)))
| (x_94, l95) =>
if ltI x_94 (r1.1.length : Int) = true then
(idx r1.1 x_94).bind fun e97 =>
(g79 e97 (⟨#[109, 97, 114, 107, 32]⟩ : ByteArray)).bind fun r99 =>
if r99.2 = true then
(g80 r99.1).bind fun r102 =>
if (!r102.2) = true then
some (.inr (.inr ([], 5)))
else
(appK 32 l95 [(⟨true, r102.1, (⟨0, 0, 0⟩ : T22)⟩ : T83)]).bind fun u105 =>
some (.inl (aI .i64 x_94 1, (l95 ++ [(⟨true, r102.1, (⟨0, 0, 0⟩ : T22)⟩ : T83)])))
else
(g24 e97).bind fun r107 =>
if (!eqI r107.2 0) = true then
some (.inr (.inr ([], 5)))
else
(appK 32 l95 [(⟨false, 0, r107.1⟩ : T83)]).bind fun u110 =>
some (.inl (aI .i64 x_94 1, (l95 ++ [(⟨false, 0, r107.1⟩ : T83)])))
else
some (.inr (.inl l95))
noncomputable def g31_j1 (r1 : (List ByteArray) × Bool) (many_4 : Int) : Option ((List T83) × Int) :=
if ltI 150 many_4 = true then
some ([], 2)
else
if (!r1.2) = true then
some ([], 5)
else
(loopO (g31_L1 r1) (0, [])).bind fun w => match w with
| .inl y => g31_j2 y
| .inr r => some r
noncomputable def g31 (text : ByteArray) : Option ((List T83) × Int) :=
(g74 text).bind fun r1 =>
if (!r1.2) = true then
g31_j1 r1 (aI .i64 (r1.1.length : Int) 1)
else
g31_j1 r1 (r1.1.length : Int)
def eA31 (a : ByteArray) : List V := [.str a]
def eB31 (r : (List T83) × Int) : V := .tup [.own 5 (rows cT83 r.1), .i .i64 r.2]
theorem inj31 (a a' : ByteArray) (h : eA31 a = eA31 a') : a = a' := by
  obtain i275 := a
  obtain i276 := a'
  simp only [eA31, List.cons.injEq, V.i.injEq, V.b.injEq, V.f.injEq, V.str.injEq, V.sl.injEq, V.agg.injEq, V.cptr.injEq, true_and, and_true] at h
  simp_all
noncomputable def F31 : List V → Option V := tells (fun a => g31 a) eA31 eB31
/- loop.example/g01229/impl.ReadJournal -/
theorem ok31 : Tells Tryd.prog 31 F31 := by
 refine Tells.go 70 Tryd.func31 rfl rfl rfl (by kernel_rfl) (fun _ => rfl) ?_
 rintro text r h
 simp only [eA31, en, Nat.reduceAdd]
 replace h : (g31 text).bind some = some r := bindS h
 rw [g31] at h
 have hC : CEnv.Ok Tryd.prog [(24, F24), (74, fzF F74), (79, F79), (80, F80)] := ⟨.inl ok24, .inl ok74.fz, .inl ok79, .inl ok80, trivial⟩
 refine VW.seq (VW.rA (tm 70 [(0, .str text)]) [] [] hC (VW.seq ?_))
 obtain ⟨r1, q2, h⟩ := bindE h
 have c2 := tl74 q2
 replace c2 : fzF F74 [.str text] = some (.tup [.sl 1 (rows cs_ r1.1), .b r1.2]) := (fzF_eq c2).trans (by simp)
 refine VW.rA (tm 70 [(4, .sl 1 (rows cs_ r1.1)), (5, .b r1.2)]) [] [] hC (VW.seq (VW.rA (tm 70 [(4, .sl 1 (rows cs_ r1.1)), (5, .b r1.2), (6, .i .i64 (r1.1.length : Int))]) [] [] hC (VW.join (fun (v : Int) => (⟨(tm 70 [(4, .sl 1 (rows cs_ r1.1)), (5, .b r1.2), (6, .i .i64 v)]), [], []⟩ : VS)) (fun v => (g31_j1 r1 (v)).bind some = some r) ?_ ?_))) (h := by simp -implicitDefEqProofs [c2])
 · refine VW.seq (VW.rA (tm 70 [(4, .sl 1 (rows cs_ r1.1)), (5, .b r1.2), (6, .i .i64 (r1.1.length : Int)), (24, .b (!r1.2))]) [] [] hC (VW.condJ h (fun h => ?_) (fun h => ?_)))
   · exact VW.skip (vnext (r1.1.length : Int) h (Ent.tu 0))
   exact VW.rA (tm 70 [(4, .sl 1 (rows cs_ r1.1)), (5, .b r1.2), (6, .i .i64 (aI .i64 (r1.1.length : Int) 1))]) [] [] hC (vnext (aI .i64 (r1.1.length : Int) 1) h (Ent.tu 0))
 rintro many_4 h
 replace h : (g31_j1 r1 many_4).bind _ = _ := h
 rw [g31_j1] at h
 refine VW.seq (VW.seq (VW.rA (tm 70 [(4, .sl 1 (rows cs_ r1.1)), (5, .b r1.2), (28, .b (ltI 150 many_4))]) [] [] hC (VW.condI h (fun h => ?_) (fun h => ?_))))
 · refine VW.seq (VW.rA (tm 70 [(2, .nil), (3, .i .i64 2)]) [] [] hC ?_)
   obtain rfl := leafS h
   exact VW.ret (VRet.fin (by simp [eB31]))
 refine VW.skip (VW.seq (VW.seq (VW.rA (tm 70 [(4, .sl 1 (rows cs_ r1.1)), (30, .b (!r1.2))]) [] [] hC (VW.condI h (fun h => ?_) (fun h => ?_)))))
 · refine VW.seq (VW.rA (tm 70 [(2, .nil), (3, .i .i64 5)]) [] [] hC ?_)
   obtain rfl := leafS h
   exact VW.ret (VRet.fin (by simp [eB31]))
 refine VW.skip (VW.seq (VW.rA (tm 70 [(4, .sl 1 (rows cs_ r1.1)), (7, .ref 0 0 0)]) [some (5, rows cT83 [])] [] hC (VW.join (fun (v : List T83) => (⟨(tm 70 [(7, .ref 0 0 v.length)]), [some (5, rows cT83 v)], []⟩ : VS)) (fun v => (g31_j2 (v)).bind some = some r) ?_ ?_)))
 · refine VW.seq (VW.rA (tm 70 [(7, .ref 0 0 0), (32, .sl 1 (rows cs_ r1.1)), (33, .i .i64 (r1.1.length : Int)), (34, .i .i64 0)]) [some (5, rows cT83 [])] [] hC (VW.block ?_))
   obtain ⟨w_1, hw_1, h⟩ := bindE h
   refine VW.loopO (fun (x : Int × (List T83)) => (⟨(tm 70 [(7, .ref 0 0 x.2.length), (32, .sl 1 (rows cs_ r1.1)), (33, .i .i64 (r1.1.length : Int)), (34, .i .i64 x.1)]), [some (5, rows cT83 x.2)], []⟩ : VS)) hw_1 (Ent.tu 1) ?_
   rintro n_1 ⟨x_94, l95⟩ h1
   rw [g31_L1] at h1
   refine VW.seq (VW.rA (tm 70 [(7, .ref 0 0 l95.length), (32, .sl 1 (rows cs_ r1.1)), (33, .i .i64 (r1.1.length : Int)), (34, .i .i64 x_94), (35, .b (ltI x_94 (r1.1.length : Int)))]) [some (5, rows cT83 l95)] [] hC (VW.seq (VW.condJ h1 (fun h1 => ?_) (fun h1 => ?_))))
   · refine VW.exit ?_
     have e_ := leafR h1
     subst w_1
     exact vnext l95 h (Ent.tu 1)
   refine VW.skip (VW.seq (VW.block (VW.seq ?_)))
   obtain ⟨e97, ⟨f98a, f98b, f98c, f98d⟩, h1⟩ := bindI h1
   refine VW.rA (tm 70 [(7, .ref 0 0 l95.length), (9, .str e97), (32, .sl 1 (rows cs_ r1.1)), (33, .i .i64 (r1.1.length : Int)), (34, .i .i64 x_94)]) [some (5, rows cT83 l95)] [] hC (VW.seq (VW.seq ?_)) (h := by simp -implicitDefEqProofs [f98a, f98b, f98c, f98d])
   obtain ⟨r99, q100, h1⟩ := bindE h1
   have c100 := tl79 q100
   refine VW.rA (tm 70 [(7, .ref 0 0 l95.length), (9, .str e97), (10, .str r99.1), (11, .b r99.2), (32, .sl 1 (rows cs_ r1.1)), (33, .i .i64 (r1.1.length : Int)), (34, .i .i64 x_94)]) [some (5, rows cT83 l95)] [] hC (VW.seq (VW.rA (tm 70 [(7, .ref 0 0 l95.length), (9, .str e97), (10, .str r99.1), (32, .sl 1 (rows cs_ r1.1)), (33, .i .i64 (r1.1.length : Int)), (34, .i .i64 x_94), (43, .b r99.2)]) [some (5, rows cT83 l95)] [] hC (VW.condI h1 (fun h1 => ?_) (fun h1 => ?_)))) (h := by simp -implicitDefEqProofs [c100])
   · refine VW.seq ?_
     obtain ⟨r102, q103, h1⟩ := bindE h1
     have c103 := tl80 q103
     refine VW.rA (tm 70 [(7, .ref 0 0 l95.length), (12, .i .u32 r102.1), (13, .b r102.2), (32, .sl 1 (rows cs_ r1.1)), (33, .i .i64 (r1.1.length : Int)), (34, .i .i64 x_94)]) [some (5, rows cT83 l95)] [] hC (VW.seq (VW.seq (VW.rA (tm 70 [(7, .ref 0 0 l95.length), (12, .i .u32 r102.1), (32, .sl 1 (rows cs_ r1.1)), (33, .i .i64 (r1.1.length : Int)), (34, .i .i64 x_94), (50, .b (!r102.2))]) [some (5, rows cT83 l95)] [] hC (VW.condI h1 (fun h1 => ?_) (fun h1 => ?_))))) (h := by simp -implicitDefEqProofs [c103])
     · refine VW.seq (VW.rA (tm 70 [(2, .nil), (3, .i .i64 5)]) [some (5, rows cT83 l95)] [] hC ?_)
       have e_ := leafR h1
       subst w_1
       obtain rfl := leafS h
       exact VW.ret (VRet.fin (by simp [eB31]))
     refine VW.skip (VW.seq ?_)
     obtain ⟨u105, ⟨f106a, f106b⟩, h1⟩ := bindP h1
     try simp only [Int.toNat_natCast, Int.reduceToNat, List.length_cons, List.length_nil, Nat.reduceAdd, Nat.zero_add] at f106a f106b
     exact VW.rA (tm 70 [(7, .ref 0 0 (l95 ++ [(⟨true, r102.1, (⟨0, 0, 0⟩ : T22)⟩ : T83)]).length), (32, .sl 1 (rows cs_ r1.1)), (33, .i .i64 (r1.1.length : Int)), (34, .i .i64 x_94)]) [some (5, rows cT83 (l95 ++ [(⟨true, r102.1, (⟨0, 0, 0⟩ : T22)⟩ : T83)])), some (5, rows cT83 [(⟨true, r102.1, (⟨0, 0, 0⟩ : T22)⟩ : T83)])] [] hC (VW.exit (VW.rA (tm 70 [(7, .ref 0 0 (l95 ++ [(⟨true, r102.1, (⟨0, 0, 0⟩ : T22)⟩ : T83)]).length), (32, .sl 1 (rows cs_ r1.1)), (33, .i .i64 (r1.1.length : Int)), (34, .i .i64 (aI .i64 x_94 1))]) [some (5, rows cT83 (l95 ++ [(⟨true, r102.1, (⟨0, 0, 0⟩ : T22)⟩ : T83)])), some (5, rows cT83 [(⟨true, r102.1, (⟨0, 0, 0⟩ : T22)⟩ : T83)])] [] hC (vnext (aI .i64 x_94 1, (l95 ++ [(⟨true, r102.1, (⟨0, 0, 0⟩ : T22)⟩ : T83)])) (leafL h1) (Ent.tu 1)))) (h := by simp -implicitDefEqProofs [f106a, f106b])
   refine VW.skip (VW.seq ?_)
   obtain ⟨r107, q108, h1⟩ := bindE h1
   have c108 := tl24 q108
   refine VW.rA (tm 70 [(7, .ref 0 0 l95.length), (14, .ptr 1 0 0), (15, .i .i64 r107.2), (32, .sl 1 (rows cs_ r1.1)), (33, .i .i64 (r1.1.length : Int)), (34, .i .i64 x_94)]) [some (5, rows cT83 l95), some (3, [[.i .i64 r107.1.kind_, .i .i64 r107.1.a_, .i .i64 r107.1.b_]])] [] hC (VW.seq (VW.seq (VW.rA (tm 70 [(7, .ref 0 0 l95.length), (14, .ptr 1 0 0), (32, .sl 1 (rows cs_ r1.1)), (33, .i .i64 (r1.1.length : Int)), (34, .i .i64 x_94), (62, .b (!eqI r107.2 0))]) [some (5, rows cT83 l95), some (3, [[.i .i64 r107.1.kind_, .i .i64 r107.1.a_, .i .i64 r107.1.b_]])] [] hC (VW.condI h1 (fun h1 => ?_) (fun h1 => ?_))))) (h := by simp -implicitDefEqProofs [c108])
   · refine VW.seq (VW.rA (tm 70 [(2, .nil), (3, .i .i64 5)]) [some (5, rows cT83 l95), some (3, [[.i .i64 r107.1.kind_, .i .i64 r107.1.a_, .i .i64 r107.1.b_]])] [] hC ?_)
     have e_ := leafR h1
     subst w_1
     obtain rfl := leafS h
     exact VW.ret (VRet.fin (by simp [eB31]))
   refine VW.skip ?_
   obtain ⟨u110, ⟨f111a, f111b⟩, h1⟩ := bindP h1
   try simp only [Int.toNat_natCast, Int.reduceToNat, List.length_cons, List.length_nil, Nat.reduceAdd, Nat.zero_add] at f111a f111b
   exact VW.rA (tm 70 [(7, .ref 0 0 (l95 ++ [(⟨false, 0, r107.1⟩ : T83)]).length), (32, .sl 1 (rows cs_ r1.1)), (33, .i .i64 (r1.1.length : Int)), (34, .i .i64 x_94)]) [some (5, rows cT83 (l95 ++ [(⟨false, 0, r107.1⟩ : T83)])), some (3, [[.i .i64 r107.1.kind_, .i .i64 r107.1.a_, .i .i64 r107.1.b_]]), some (5, rows cT83 [(⟨false, 0, r107.1⟩ : T83)])] [] hC (VW.rA (tm 70 [(7, .ref 0 0 (l95 ++ [(⟨false, 0, r107.1⟩ : T83)]).length), (32, .sl 1 (rows cs_ r1.1)), (33, .i .i64 (r1.1.length : Int)), (34, .i .i64 (aI .i64 x_94 1))]) [some (5, rows cT83 (l95 ++ [(⟨false, 0, r107.1⟩ : T83)])), some (3, [[.i .i64 r107.1.kind_, .i .i64 r107.1.a_, .i .i64 r107.1.b_]]), some (5, rows cT83 [(⟨false, 0, r107.1⟩ : T83)])] [] hC (vnext (aI .i64 x_94 1, (l95 ++ [(⟨false, 0, r107.1⟩ : T83)])) (leafL h1) (Ent.tu 1))) (h := by simp -implicitDefEqProofs [f111a, f111b])
 rintro l59 h
 replace h : (g31_j2 l59).bind _ = _ := h
 rw [g31_j2] at h
 refine VW.seq (VW.rA (tm 70 [(2, .ref 0 0 l59.length), (3, .i .i64 0)]) [some (5, rows cT83 l59)] [] hC ?_)
 obtain rfl := leafS h
 exact VW.ret (VRet.fin (by simp [eB31]))
theorem tl31 {text : ByteArray} {r : (List T83) × Int} (h : g31 text = some r) : F31 [.str text] = some (.tup [.own 5 (rows cT83 r.1), .i .i64 r.2]) := tells_eq inj31 (a := text) h
noncomputable def g33_j1 (k_59 : Int) : Option (Int) :=
some k_59
noncomputable def g33_L1 (a : List T83) : (Int × Int) → Option ((Int × Int) ⊕ ((Int) ⊕ (Int)))
| (k_98, i_99) =>
if ltI i_99 (a.length : Int) = true then
(idx a i_99).bind fun e101 =>
(rI .i64 k_98 3).bind fun d103 =>
if (!(e101.mark_ == (eqI d103 0))) = true then
some (.inr (.inr (-1)))
else
(idx a i_99).bind fun e106 =>
if (!eqI e106.check_ (cI .u32 (aI .i64 k_98 1))) = true then
some (.inr (.inr (-1)))
else
(idx a i_99).bind fun e109 =>
if (!eqI e109.act_.kind_ (aI .i64 (aI .i64 k_98 1) 1)) = true then
some (.inr (.inr (-1)))
else
(idx a i_99).bind fun e112 =>
if (!eqI e112.act_.a_ (aI .i64 (aI .i64 (aI .i64 k_98 1) 1) 1)) = true then
some (.inr (.inr (-1)))
else
(idx a i_99).bind fun e115 =>
if (!eqI e115.act_.b_ (aI .i64 (aI .i64 (aI .i64 (aI .i64 k_98 1) 1) 1) 1)) = true then
some (.inr (.inr (-1)))
else
some (.inl (aI .i64 (aI .i64 (aI .i64 (aI .i64 (aI .i64 k_98 1) 1) 1) 1) 1, aI .i64 i_99 1))
else
some (.inr (.inl k_98))
noncomputable def g33 (a : List T83) (k : Int) : Option (Int) :=
(loopO (g33_L1 a) (k, 0)).bind fun w => match w with
| .inl y => g33_j1 y
| .inr r => some r
def eA33 (a : (List T83) × Int) : List V := [.sl 5 (rows cT83 a.1), .i .i64 a.2]
def eB33 (r : Int) : V := .i .i64 r
theorem inj33 (a a' : (List T83) × Int) (h : eA33 a = eA33 a') : a = a' := by
  obtain ⟨i277, i278⟩ := a
  obtain ⟨i279, i280⟩ := a'
  simp only [eA33, List.cons.injEq, V.i.injEq, V.b.injEq, V.f.injEq, V.str.injEq, V.sl.injEq, V.agg.injEq, V.cptr.injEq, true_and, and_true] at h
  simp_all [ri cT83_inj]
noncomputable def F33 : List V → Option V := tells (fun a => g33 a.1 a.2) eA33 eB33
/- loop.example/g01229/laws.heldEntryS -/
theorem ok33 : Tells Tryd.prog 33 F33 := by
 refine Tells.go 64 Tryd.func33 rfl rfl rfl (by kernel_rfl) (fun _ => rfl) ?_
 rintro ⟨a, k⟩ r h
 simp only [eA33, en, Nat.reduceAdd]
 replace h : (g33 a k).bind some = some r := bindS h
 rw [g33] at h
 have hC : CEnv.Ok Tryd.prog [] := trivial
 refine VW.seq (VW.rA (tm 64 [(0, .sl 5 (rows cT83 a)), (1, .i .i64 k)]) [] [] hC (VW.join (fun (v : Int) => (⟨(tm 64 [(1, .i .i64 v)]), [], []⟩ : VS)) (fun v => (g33_j1 (v)).bind some = some r) ?_ ?_))
 · refine VW.seq (VW.rA (tm 64 [(0, .sl 5 (rows cT83 a)), (1, .i .i64 k), (5, .i .i64 0)]) [] [] hC (VW.block ?_))
   obtain ⟨w_1, hw_1, h⟩ := bindE h
   refine VW.loopO (fun (x : Int × Int) => (⟨(tm 64 [(0, .sl 5 (rows cT83 a)), (1, .i .i64 x.1), (5, .i .i64 x.2)]), [], []⟩ : VS)) hw_1 (Ent.tu 0) ?_
   rintro n_1 ⟨k_98, i_99⟩ h1
   rw [g33_L1] at h1
   refine VW.seq (VW.seq (VW.rA (tm 64 [(0, .sl 5 (rows cT83 a)), (1, .i .i64 k_98), (5, .i .i64 i_99), (9, .b (ltI i_99 (a.length : Int)))]) [] [] hC (VW.condJ h1 (fun h1 => ?_) (fun h1 => ?_))))
   · refine VW.exit ?_
     have e_ := leafR h1
     subst w_1
     exact vnext k_98 h (Ent.tu 0)
   refine VW.skip (VW.seq (VW.block (VW.seq (VW.seq ?_))))
   obtain ⟨e101, ⟨f102a, f102b, f102c, f102d⟩, h1⟩ := bindI h1
   obtain ⟨d103, q104, h1⟩ := bindE h1
   refine VW.rA (tm 64 [(0, .sl 5 (rows cT83 a)), (1, .i .i64 k_98), (5, .i .i64 i_99), (20, .b (!(e101.mark_ == (eqI d103 0))))]) [] [] hC (VW.condI h1 (fun h1 => ?_) (fun h1 => ?_)) (h := by simp -implicitDefEqProofs [f102a, f102b, f102c, f102d, q104])
   · refine VW.seq (VW.rA (tm 64 [(4, .i .i64 (-1))]) [] [] hC ?_)
     have e_ := leafR h1
     subst w_1
     obtain rfl := leafS h
     exact VW.ret (VRet.fin (by simp [eB33]))
   refine VW.skip (VW.seq (VW.rA (tm 64 [(0, .sl 5 (rows cT83 a)), (1, .i .i64 (aI .i64 k_98 1)), (5, .i .i64 i_99)]) [] [] hC (VW.seq (VW.seq ?_))))
   obtain ⟨e106, ⟨f107a, f107b, f107c, f107d⟩, h1⟩ := bindI h1
   refine VW.rA (tm 64 [(0, .sl 5 (rows cT83 a)), (1, .i .i64 (aI .i64 k_98 1)), (5, .i .i64 i_99), (30, .b (!eqI e106.check_ (cI .u32 (aI .i64 k_98 1))))]) [] [] hC (VW.condI h1 (fun h1 => ?_) (fun h1 => ?_)) (h := by simp -implicitDefEqProofs [f107a, f107b, f107c, f107d])
   · refine VW.seq (VW.rA (tm 64 [(4, .i .i64 (-1))]) [] [] hC ?_)
     have e_ := leafR h1
     subst w_1
     obtain rfl := leafS h
     exact VW.ret (VRet.fin (by simp [eB33]))
   refine VW.skip (VW.seq (VW.rA (tm 64 [(0, .sl 5 (rows cT83 a)), (1, .i .i64 (aI .i64 (aI .i64 k_98 1) 1)), (5, .i .i64 i_99)]) [] [] hC (VW.seq (VW.seq ?_))))
   obtain ⟨e109, ⟨f110a, f110b, f110c, f110d⟩, h1⟩ := bindI h1
   refine VW.rA (tm 64 [(0, .sl 5 (rows cT83 a)), (1, .i .i64 (aI .i64 (aI .i64 k_98 1) 1)), (5, .i .i64 i_99), (40, .b (!eqI e109.act_.kind_ (aI .i64 (aI .i64 k_98 1) 1)))]) [] [] hC (VW.condI h1 (fun h1 => ?_) (fun h1 => ?_)) (h := by simp -implicitDefEqProofs [f110a, f110b, f110c, f110d])
   · refine VW.seq (VW.rA (tm 64 [(4, .i .i64 (-1))]) [] [] hC ?_)
     have e_ := leafR h1
     subst w_1
     obtain rfl := leafS h
     exact VW.ret (VRet.fin (by simp [eB33]))
   refine VW.skip (VW.seq (VW.rA (tm 64 [(0, .sl 5 (rows cT83 a)), (1, .i .i64 (aI .i64 (aI .i64 (aI .i64 k_98 1) 1) 1)), (5, .i .i64 i_99)]) [] [] hC (VW.seq (VW.seq ?_))))
   obtain ⟨e112, ⟨f113a, f113b, f113c, f113d⟩, h1⟩ := bindI h1
   refine VW.rA (tm 64 [(0, .sl 5 (rows cT83 a)), (1, .i .i64 (aI .i64 (aI .i64 (aI .i64 k_98 1) 1) 1)), (5, .i .i64 i_99), (50, .b (!eqI e112.act_.a_ (aI .i64 (aI .i64 (aI .i64 k_98 1) 1) 1)))]) [] [] hC (VW.condI h1 (fun h1 => ?_) (fun h1 => ?_)) (h := by simp -implicitDefEqProofs [f113a, f113b, f113c, f113d])
   · refine VW.seq (VW.rA (tm 64 [(4, .i .i64 (-1))]) [] [] hC ?_)
     have e_ := leafR h1
     subst w_1
     obtain rfl := leafS h
     exact VW.ret (VRet.fin (by simp [eB33]))
   refine VW.skip (VW.seq (VW.rA (tm 64 [(0, .sl 5 (rows cT83 a)), (1, .i .i64 (aI .i64 (aI .i64 (aI .i64 (aI .i64 k_98 1) 1) 1) 1)), (5, .i .i64 i_99)]) [] [] hC (VW.seq (VW.seq ?_))))
   obtain ⟨e115, ⟨f116a, f116b, f116c, f116d⟩, h1⟩ := bindI h1
   refine VW.rA (tm 64 [(0, .sl 5 (rows cT83 a)), (1, .i .i64 (aI .i64 (aI .i64 (aI .i64 (aI .i64 k_98 1) 1) 1) 1)), (5, .i .i64 i_99), (60, .b (!eqI e115.act_.b_ (aI .i64 (aI .i64 (aI .i64 (aI .i64 k_98 1) 1) 1) 1)))]) [] [] hC (VW.condI h1 (fun h1 => ?_) (fun h1 => ?_)) (h := by simp -implicitDefEqProofs [f116a, f116b, f116c, f116d])
   · refine VW.seq (VW.rA (tm 64 [(4, .i .i64 (-1))]) [] [] hC ?_)
     have e_ := leafR h1
     subst w_1
     obtain rfl := leafS h
     exact VW.ret (VRet.fin (by simp [eB33]))
   exact VW.skip (VW.rA (tm 64 [(0, .sl 5 (rows cT83 a)), (1, .i .i64 (aI .i64 (aI .i64 (aI .i64 (aI .i64 (aI .i64 k_98 1) 1) 1) 1) 1)), (5, .i .i64 i_99)]) [] [] hC (VW.rA (tm 64 [(0, .sl 5 (rows cT83 a)), (1, .i .i64 (aI .i64 (aI .i64 (aI .i64 (aI .i64 (aI .i64 k_98 1) 1) 1) 1) 1)), (5, .i .i64 (aI .i64 i_99 1))]) [] [] hC (vnext (aI .i64 (aI .i64 (aI .i64 (aI .i64 (aI .i64 k_98 1) 1) 1) 1) 1, aI .i64 i_99 1) (leafL h1) (Ent.tu 0))))
 rintro k_59 h
 replace h : (g33_j1 k_59).bind _ = _ := h
 rw [g33_j1] at h
 refine VW.seq (VW.rA (tm 64 [(4, .i .i64 k_59)]) [] [] hC ?_)
 obtain rfl := leafS h
 exact VW.ret (VRet.fin (by simp [eB33]))
theorem tl33 {a : List T83} {k : Int} {r : Int} (h : g33 a k = some r) : F33 [.sl 5 (rows cT83 a), .i .i64 k] = some (.i .i64 r) := tells_eq inj33 (a := (a, k)) h
noncomputable def g8_j1 (aText : ByteArray) (r2 : (List T83) × Int) (k_74 : Int) (l75 : List T83) : Option (Bool) :=
(g33 l75 1).bind fun r76 =>
if ltI r76 0 = true then
some false
else
if (!eqI r76 k_74) = true then
some false
else
(g31 aText).bind fun r80 =>
(g22 r80.1 r2.1).bind fun r82 =>
if ((!r82) || (!eqI r80.2 r2.2)) = true then
some false
else
(g33 l75 1).bind fun r85 =>
if ltI r85 0 = true then
some false
else
if (!eqI r85 k_74) = true then
some false
else
some true
noncomputable def g8_L1 : (Int × Int × (List T83)) → Option ((Int × Int × (List T83)) ⊕ (Int × (List T83)))
| (k_102, i_103, l104) =>
if ltI i_103 (l104.length : Int) = true then
(rI .i64 k_102 3).bind fun d106 =>
(idx l104 i_103).bind fun e108 =>
some (.inl (aI .i64 (aI .i64 (aI .i64 (aI .i64 (aI .i64 k_102 1) 1) 1) 1) 1, aI .i64 i_103 1, (l104.set i_103.toNat (⟨eqI d106 0, cI .u32 (aI .i64 k_102 1), (⟨aI .i64 (aI .i64 k_102 1) 1, aI .i64 (aI .i64 (aI .i64 k_102 1) 1) 1, aI .i64 (aI .i64 (aI .i64 (aI .i64 k_102 1) 1) 1) 1⟩ : T22)⟩ : T83))))
else
some (.inr (k_102, l104))
noncomputable def g8 (aText : ByteArray) : Option (Bool) :=
if ltI 1048576 (aText.size : Int) = true then
some true
else
(g30 aText).bind fun r2 =>
(g31 aText).bind fun r4 =>
(g22 r4.1 r2.1).bind fun r6 =>
if ((!r6) || (!eqI r4.2 r2.2)) = true then
some false
else
(loopO g8_L1 (1, 0, r4.1)).bind fun w => g8_j1 aText r2 w.1 w.2
def eA8 (a : ByteArray) : List V := [.str a]
def eB8 (r : Bool) : V := .b r
theorem inj8 (a a' : ByteArray) (h : eA8 a = eA8 a') : a = a' := by
  obtain i281 := a
  obtain i282 := a'
  simp only [eA8, List.cons.injEq, V.i.injEq, V.b.injEq, V.f.injEq, V.str.injEq, V.sl.injEq, V.agg.injEq, V.cptr.injEq, true_and, and_true] at h
  simp_all
noncomputable def F8 : List V → Option V := tells (fun a => g8 a) eA8 eB8
/- loop.example/g01229/laws.FnExactReadJournal -/
theorem ok8 : Tells Tryd.prog 8 F8 := by
 refine Tells.go 66 Tryd.func8 rfl rfl rfl (by kernel_rfl) (fun _ => rfl) ?_
 rintro aText r h
 simp only [eA8, en, Nat.reduceAdd]
 replace h : (g8 aText).bind some = some r := bindS h
 rw [g8] at h
 have hC : CEnv.Ok Tryd.prog [(22, F22), (30, F30), (31, F31), (33, F33)] := ⟨.inl ok22, .inl ok30, .inl ok31, .inl ok33, trivial⟩
 refine VW.seq (VW.rA (tm 66 [(0, .str aText)]) [] [] hC (VW.seq (VW.seq (VW.rA (tm 66 [(0, .str aText), (13, .b (ltI 1048576 (aText.size : Int)))]) [] [] hC (VW.condI h (fun h => ?_) (fun h => ?_))))))
 · refine VW.seq (VW.rA (tm 66 [(2, .b true)]) [] [] hC ?_)
   obtain rfl := leafS h
   exact VW.ret (VRet.fin (by simp [eB8]))
 refine VW.skip (VW.seq ?_)
 obtain ⟨r2, q3, h⟩ := bindE h
 have c3 := tl30 q3
 refine VW.rA (tm 66 [(0, .str aText), (3, .ref 0 0 r2.1.length), (4, .i .i64 r2.2)]) [some (5, rows cT83 r2.1)] [] hC (VW.seq ?_) (h := by simp -implicitDefEqProofs [c3])
 obtain ⟨r4, q5, h⟩ := bindE h
 have c5 := tl31 q5
 refine VW.rA (tm 66 [(0, .str aText), (3, .ref 0 0 r2.1.length), (4, .i .i64 r2.2), (5, .ref 1 0 r4.1.length), (6, .i .i64 r4.2)]) [some (5, rows cT83 r2.1), some (5, rows cT83 r4.1)] [] hC (VW.seq (VW.seq ?_)) (h := by simp -implicitDefEqProofs [c5])
 obtain ⟨r6, q7, h⟩ := bindE h
 have c7 := tl22 q7
 refine VW.rA (tm 66 [(0, .str aText), (3, .ref 0 0 r2.1.length), (4, .i .i64 r2.2), (5, .ref 1 0 r4.1.length), (32, .b ((!r6) || (!eqI r4.2 r2.2)))]) [some (5, rows cT83 r2.1), some (5, rows cT83 r4.1)] [] hC (VW.condI h (fun h => ?_) (fun h => ?_)) (h := by simp -implicitDefEqProofs [c7])
 · refine VW.seq (VW.rA (tm 66 [(2, .b false)]) [some (5, rows cT83 r2.1), some (5, rows cT83 r4.1)] [] hC ?_)
   obtain rfl := leafS h
   exact VW.ret (VRet.fin (by simp [eB8]))
 refine VW.skip (VW.seq (VW.rA (tm 66 [(0, .str aText), (3, .ref 0 0 r2.1.length), (4, .i .i64 r2.2), (5, .ref 1 0 r4.1.length), (7, .i .i64 1)]) [some (5, rows cT83 r2.1), some (5, rows cT83 r4.1)] [] hC (VW.seq (VW.inlS (VL.inlP 2 (tm 66 [(0, .str aText), (3, .ref 0 0 r2.1.length), (4, .i .i64 r2.2), (5, .ref 1 0 r4.1.length), (33, .ref 1 0 r4.1.length), (34, .i .i64 1)]) [some (5, rows cT83 r2.1), some (5, rows cT83 r4.1)] [] rfl hC (by kernel_rfl) (by simp -implicitDefEqProofs) rfl rfl Tryd.func32 rfl rfl rfl rfl (tm_length) (VW.ent (s := (⟨(tm 54 [(0, .ref 1 0 r4.1.length), (1, .i .i64 1)]), [some (5, rows cT83 r2.1), some (5, rows cT83 r4.1)], ((tm 66 [(0, .str aText), (3, .ref 0 0 r2.1.length), (4, .i .i64 r2.2), (5, .ref 1 0 r4.1.length), (33, .ref 1 0 r4.1.length), (34, .i .i64 1)]) ++ [])⟩ : VS)) (Ent.eqs (by rw [tm_init]; simp) rfl (by simp)) (VW.seq (VW.rA (tm 54 [(0, .ref 1 0 r4.1.length), (1, .i .i64 1)]) [some (5, rows cT83 r2.1), some (5, rows cT83 r4.1)] ((tm 66 [(0, .str aText), (3, .ref 0 0 r2.1.length), (4, .i .i64 r2.2), (5, .ref 1 0 r4.1.length), (33, .ref 1 0 r4.1.length), (34, .i .i64 1)]) ++ []) hC (VW.join (fun (v : Int × (List T83)) => (⟨(tm 54 [(1, .i .i64 v.1)]), [some (5, rows cT83 r2.1), some (5, rows cT83 v.2)], ((tm 66 [(0, .str aText), (3, .ref 0 0 r2.1.length), (4, .i .i64 r2.2), (5, .ref 1 0 v.2.length), (33, .ref 1 0 v.2.length), (34, .i .i64 1)]) ++ [])⟩ : VS)) (fun v => (g8_j1 aText r2 (v.1) (v.2)).bind some = some r) ?_ ?_)))))))))
 · refine VW.seq (VW.rA (tm 54 [(0, .ref 1 0 r4.1.length), (1, .i .i64 1), (5, .i .i64 0)]) [some (5, rows cT83 r2.1), some (5, rows cT83 r4.1)] ((tm 66 [(0, .str aText), (3, .ref 0 0 r2.1.length), (4, .i .i64 r2.2), (5, .ref 1 0 r4.1.length), (33, .ref 1 0 r4.1.length), (34, .i .i64 1)]) ++ []) hC (VW.block ?_))
   obtain ⟨w_1, hw_1, h⟩ := bindE h
   refine VW.loopO (fun (x : Int × Int × (List T83)) => (⟨(tm 54 [(0, .ref 1 0 x.2.2.length), (1, .i .i64 x.1), (5, .i .i64 x.2.1)]), [some (5, rows cT83 r2.1), some (5, rows cT83 x.2.2)], ((tm 66 [(0, .str aText), (3, .ref 0 0 r2.1.length), (4, .i .i64 r2.2), (5, .ref 1 0 x.2.2.length), (33, .ref 1 0 x.2.2.length), (34, .i .i64 1)]) ++ [])⟩ : VS)) hw_1 (Ent.tu 2) ?_
   rintro n_1 ⟨k_102, i_103, l104⟩ h1
   rw [g8_L1] at h1
   refine VW.seq (VW.seq (VW.rA (tm 54 [(0, .ref 1 0 l104.length), (1, .i .i64 k_102), (5, .i .i64 i_103), (9, .b (ltI i_103 (l104.length : Int)))]) [some (5, rows cT83 r2.1), some (5, rows cT83 l104)] ((tm 66 [(0, .str aText), (3, .ref 0 0 r2.1.length), (4, .i .i64 r2.2), (5, .ref 1 0 l104.length), (33, .ref 1 0 l104.length), (34, .i .i64 1)]) ++ []) hC (VW.condJ h1 (fun h1 => ?_) (fun h1 => ?_))))
   · refine VW.exit ?_
     have e_ := leafR h1
     subst w_1
     exact vnext (k_102, l104) h (Ent.tu 2)
   refine VW.skip (VW.seq (VW.block (VW.seq ?_)))
   obtain ⟨d106, q107, h1⟩ := bindE h1
   obtain ⟨e108, ⟨f109a, f109b, f109c, f109d⟩, h1⟩ := bindI h1
   exact VW.rA (tm 54 [(0, .ref 1 0 (l104.set i_103.toNat (⟨eqI d106 0, e108.check_, e108.act_⟩ : T83)).length), (1, .i .i64 k_102), (5, .i .i64 i_103)]) [some (5, rows cT83 r2.1), some (5, rows cT83 (l104.set i_103.toNat (⟨eqI d106 0, e108.check_, e108.act_⟩ : T83)))] ((tm 66 [(0, .str aText), (3, .ref 0 0 r2.1.length), (4, .i .i64 r2.2), (5, .ref 1 0 (l104.set i_103.toNat (⟨eqI d106 0, e108.check_, e108.act_⟩ : T83)).length), (33, .ref 1 0 (l104.set i_103.toNat (⟨eqI d106 0, e108.check_, e108.act_⟩ : T83)).length), (34, .i .i64 1)]) ++ []) hC (VW.seq (VW.rA (tm 54 [(0, .ref 1 0 (l104.set i_103.toNat (⟨eqI d106 0, e108.check_, e108.act_⟩ : T83)).length), (1, .i .i64 (aI .i64 k_102 1)), (5, .i .i64 i_103)]) [some (5, rows cT83 r2.1), some (5, rows cT83 (l104.set i_103.toNat (⟨eqI d106 0, e108.check_, e108.act_⟩ : T83)))] ((tm 66 [(0, .str aText), (3, .ref 0 0 r2.1.length), (4, .i .i64 r2.2), (5, .ref 1 0 (l104.set i_103.toNat (⟨eqI d106 0, e108.check_, e108.act_⟩ : T83)).length), (33, .ref 1 0 (l104.set i_103.toNat (⟨eqI d106 0, e108.check_, e108.act_⟩ : T83)).length), (34, .i .i64 1)]) ++ []) hC (VW.seq (VW.rA (tm 54 [(0, .ref 1 0 (l104.set i_103.toNat (⟨eqI d106 0, cI .u32 (aI .i64 k_102 1), e108.act_⟩ : T83)).length), (1, .i .i64 (aI .i64 k_102 1)), (5, .i .i64 i_103)]) [some (5, rows cT83 r2.1), some (5, rows cT83 (l104.set i_103.toNat (⟨eqI d106 0, cI .u32 (aI .i64 k_102 1), e108.act_⟩ : T83)))] ((tm 66 [(0, .str aText), (3, .ref 0 0 r2.1.length), (4, .i .i64 r2.2), (5, .ref 1 0 (l104.set i_103.toNat (⟨eqI d106 0, cI .u32 (aI .i64 k_102 1), e108.act_⟩ : T83)).length), (33, .ref 1 0 (l104.set i_103.toNat (⟨eqI d106 0, cI .u32 (aI .i64 k_102 1), e108.act_⟩ : T83)).length), (34, .i .i64 1)]) ++ []) hC (VW.seq (VW.rA (tm 54 [(0, .ref 1 0 (l104.set i_103.toNat (⟨eqI d106 0, cI .u32 (aI .i64 k_102 1), e108.act_⟩ : T83)).length), (1, .i .i64 (aI .i64 (aI .i64 k_102 1) 1)), (5, .i .i64 i_103)]) [some (5, rows cT83 r2.1), some (5, rows cT83 (l104.set i_103.toNat (⟨eqI d106 0, cI .u32 (aI .i64 k_102 1), e108.act_⟩ : T83)))] ((tm 66 [(0, .str aText), (3, .ref 0 0 r2.1.length), (4, .i .i64 r2.2), (5, .ref 1 0 (l104.set i_103.toNat (⟨eqI d106 0, cI .u32 (aI .i64 k_102 1), e108.act_⟩ : T83)).length), (33, .ref 1 0 (l104.set i_103.toNat (⟨eqI d106 0, cI .u32 (aI .i64 k_102 1), e108.act_⟩ : T83)).length), (34, .i .i64 1)]) ++ []) hC (VW.seq (VW.rA (tm 54 [(0, .ref 1 0 (l104.set i_103.toNat (⟨eqI d106 0, cI .u32 (aI .i64 k_102 1), (⟨aI .i64 (aI .i64 k_102 1) 1, e108.act_.a_, e108.act_.b_⟩ : T22)⟩ : T83)).length), (1, .i .i64 (aI .i64 (aI .i64 k_102 1) 1)), (5, .i .i64 i_103)]) [some (5, rows cT83 r2.1), some (5, rows cT83 (l104.set i_103.toNat (⟨eqI d106 0, cI .u32 (aI .i64 k_102 1), (⟨aI .i64 (aI .i64 k_102 1) 1, e108.act_.a_, e108.act_.b_⟩ : T22)⟩ : T83)))] ((tm 66 [(0, .str aText), (3, .ref 0 0 r2.1.length), (4, .i .i64 r2.2), (5, .ref 1 0 (l104.set i_103.toNat (⟨eqI d106 0, cI .u32 (aI .i64 k_102 1), (⟨aI .i64 (aI .i64 k_102 1) 1, e108.act_.a_, e108.act_.b_⟩ : T22)⟩ : T83)).length), (33, .ref 1 0 (l104.set i_103.toNat (⟨eqI d106 0, cI .u32 (aI .i64 k_102 1), (⟨aI .i64 (aI .i64 k_102 1) 1, e108.act_.a_, e108.act_.b_⟩ : T22)⟩ : T83)).length), (34, .i .i64 1)]) ++ []) hC (VW.seq (VW.rA (tm 54 [(0, .ref 1 0 (l104.set i_103.toNat (⟨eqI d106 0, cI .u32 (aI .i64 k_102 1), (⟨aI .i64 (aI .i64 k_102 1) 1, e108.act_.a_, e108.act_.b_⟩ : T22)⟩ : T83)).length), (1, .i .i64 (aI .i64 (aI .i64 (aI .i64 k_102 1) 1) 1)), (5, .i .i64 i_103)]) [some (5, rows cT83 r2.1), some (5, rows cT83 (l104.set i_103.toNat (⟨eqI d106 0, cI .u32 (aI .i64 k_102 1), (⟨aI .i64 (aI .i64 k_102 1) 1, e108.act_.a_, e108.act_.b_⟩ : T22)⟩ : T83)))] ((tm 66 [(0, .str aText), (3, .ref 0 0 r2.1.length), (4, .i .i64 r2.2), (5, .ref 1 0 (l104.set i_103.toNat (⟨eqI d106 0, cI .u32 (aI .i64 k_102 1), (⟨aI .i64 (aI .i64 k_102 1) 1, e108.act_.a_, e108.act_.b_⟩ : T22)⟩ : T83)).length), (33, .ref 1 0 (l104.set i_103.toNat (⟨eqI d106 0, cI .u32 (aI .i64 k_102 1), (⟨aI .i64 (aI .i64 k_102 1) 1, e108.act_.a_, e108.act_.b_⟩ : T22)⟩ : T83)).length), (34, .i .i64 1)]) ++ []) hC (VW.seq (VW.rA (tm 54 [(0, .ref 1 0 (l104.set i_103.toNat (⟨eqI d106 0, cI .u32 (aI .i64 k_102 1), (⟨aI .i64 (aI .i64 k_102 1) 1, aI .i64 (aI .i64 (aI .i64 k_102 1) 1) 1, e108.act_.b_⟩ : T22)⟩ : T83)).length), (1, .i .i64 (aI .i64 (aI .i64 (aI .i64 k_102 1) 1) 1)), (5, .i .i64 i_103)]) [some (5, rows cT83 r2.1), some (5, rows cT83 (l104.set i_103.toNat (⟨eqI d106 0, cI .u32 (aI .i64 k_102 1), (⟨aI .i64 (aI .i64 k_102 1) 1, aI .i64 (aI .i64 (aI .i64 k_102 1) 1) 1, e108.act_.b_⟩ : T22)⟩ : T83)))] ((tm 66 [(0, .str aText), (3, .ref 0 0 r2.1.length), (4, .i .i64 r2.2), (5, .ref 1 0 (l104.set i_103.toNat (⟨eqI d106 0, cI .u32 (aI .i64 k_102 1), (⟨aI .i64 (aI .i64 k_102 1) 1, aI .i64 (aI .i64 (aI .i64 k_102 1) 1) 1, e108.act_.b_⟩ : T22)⟩ : T83)).length), (33, .ref 1 0 (l104.set i_103.toNat (⟨eqI d106 0, cI .u32 (aI .i64 k_102 1), (⟨aI .i64 (aI .i64 k_102 1) 1, aI .i64 (aI .i64 (aI .i64 k_102 1) 1) 1, e108.act_.b_⟩ : T22)⟩ : T83)).length), (34, .i .i64 1)]) ++ []) hC (VW.seq (VW.rA (tm 54 [(0, .ref 1 0 (l104.set i_103.toNat (⟨eqI d106 0, cI .u32 (aI .i64 k_102 1), (⟨aI .i64 (aI .i64 k_102 1) 1, aI .i64 (aI .i64 (aI .i64 k_102 1) 1) 1, e108.act_.b_⟩ : T22)⟩ : T83)).length), (1, .i .i64 (aI .i64 (aI .i64 (aI .i64 (aI .i64 k_102 1) 1) 1) 1)), (5, .i .i64 i_103)]) [some (5, rows cT83 r2.1), some (5, rows cT83 (l104.set i_103.toNat (⟨eqI d106 0, cI .u32 (aI .i64 k_102 1), (⟨aI .i64 (aI .i64 k_102 1) 1, aI .i64 (aI .i64 (aI .i64 k_102 1) 1) 1, e108.act_.b_⟩ : T22)⟩ : T83)))] ((tm 66 [(0, .str aText), (3, .ref 0 0 r2.1.length), (4, .i .i64 r2.2), (5, .ref 1 0 (l104.set i_103.toNat (⟨eqI d106 0, cI .u32 (aI .i64 k_102 1), (⟨aI .i64 (aI .i64 k_102 1) 1, aI .i64 (aI .i64 (aI .i64 k_102 1) 1) 1, e108.act_.b_⟩ : T22)⟩ : T83)).length), (33, .ref 1 0 (l104.set i_103.toNat (⟨eqI d106 0, cI .u32 (aI .i64 k_102 1), (⟨aI .i64 (aI .i64 k_102 1) 1, aI .i64 (aI .i64 (aI .i64 k_102 1) 1) 1, e108.act_.b_⟩ : T22)⟩ : T83)).length), (34, .i .i64 1)]) ++ []) hC (VW.seq (VW.rA (tm 54 [(0, .ref 1 0 (l104.set i_103.toNat (⟨eqI d106 0, cI .u32 (aI .i64 k_102 1), (⟨aI .i64 (aI .i64 k_102 1) 1, aI .i64 (aI .i64 (aI .i64 k_102 1) 1) 1, aI .i64 (aI .i64 (aI .i64 (aI .i64 k_102 1) 1) 1) 1⟩ : T22)⟩ : T83)).length), (1, .i .i64 (aI .i64 (aI .i64 (aI .i64 (aI .i64 k_102 1) 1) 1) 1)), (5, .i .i64 i_103)]) [some (5, rows cT83 r2.1), some (5, rows cT83 (l104.set i_103.toNat (⟨eqI d106 0, cI .u32 (aI .i64 k_102 1), (⟨aI .i64 (aI .i64 k_102 1) 1, aI .i64 (aI .i64 (aI .i64 k_102 1) 1) 1, aI .i64 (aI .i64 (aI .i64 (aI .i64 k_102 1) 1) 1) 1⟩ : T22)⟩ : T83)))] ((tm 66 [(0, .str aText), (3, .ref 0 0 r2.1.length), (4, .i .i64 r2.2), (5, .ref 1 0 (l104.set i_103.toNat (⟨eqI d106 0, cI .u32 (aI .i64 k_102 1), (⟨aI .i64 (aI .i64 k_102 1) 1, aI .i64 (aI .i64 (aI .i64 k_102 1) 1) 1, aI .i64 (aI .i64 (aI .i64 (aI .i64 k_102 1) 1) 1) 1⟩ : T22)⟩ : T83)).length), (33, .ref 1 0 (l104.set i_103.toNat (⟨eqI d106 0, cI .u32 (aI .i64 k_102 1), (⟨aI .i64 (aI .i64 k_102 1) 1, aI .i64 (aI .i64 (aI .i64 k_102 1) 1) 1, aI .i64 (aI .i64 (aI .i64 (aI .i64 k_102 1) 1) 1) 1⟩ : T22)⟩ : T83)).length), (34, .i .i64 1)]) ++ []) hC (VW.rA (tm 54 [(0, .ref 1 0 (l104.set i_103.toNat (⟨eqI d106 0, cI .u32 (aI .i64 k_102 1), (⟨aI .i64 (aI .i64 k_102 1) 1, aI .i64 (aI .i64 (aI .i64 k_102 1) 1) 1, aI .i64 (aI .i64 (aI .i64 (aI .i64 k_102 1) 1) 1) 1⟩ : T22)⟩ : T83)).length), (1, .i .i64 (aI .i64 (aI .i64 (aI .i64 (aI .i64 (aI .i64 k_102 1) 1) 1) 1) 1)), (5, .i .i64 i_103)]) [some (5, rows cT83 r2.1), some (5, rows cT83 (l104.set i_103.toNat (⟨eqI d106 0, cI .u32 (aI .i64 k_102 1), (⟨aI .i64 (aI .i64 k_102 1) 1, aI .i64 (aI .i64 (aI .i64 k_102 1) 1) 1, aI .i64 (aI .i64 (aI .i64 (aI .i64 k_102 1) 1) 1) 1⟩ : T22)⟩ : T83)))] ((tm 66 [(0, .str aText), (3, .ref 0 0 r2.1.length), (4, .i .i64 r2.2), (5, .ref 1 0 (l104.set i_103.toNat (⟨eqI d106 0, cI .u32 (aI .i64 k_102 1), (⟨aI .i64 (aI .i64 k_102 1) 1, aI .i64 (aI .i64 (aI .i64 k_102 1) 1) 1, aI .i64 (aI .i64 (aI .i64 (aI .i64 k_102 1) 1) 1) 1⟩ : T22)⟩ : T83)).length), (33, .ref 1 0 (l104.set i_103.toNat (⟨eqI d106 0, cI .u32 (aI .i64 k_102 1), (⟨aI .i64 (aI .i64 k_102 1) 1, aI .i64 (aI .i64 (aI .i64 k_102 1) 1) 1, aI .i64 (aI .i64 (aI .i64 (aI .i64 k_102 1) 1) 1) 1⟩ : T22)⟩ : T83)).length), (34, .i .i64 1)]) ++ []) hC (VW.rA (tm 54 [(0, .ref 1 0 (l104.set i_103.toNat (⟨eqI d106 0, cI .u32 (aI .i64 k_102 1), (⟨aI .i64 (aI .i64 k_102 1) 1, aI .i64 (aI .i64 (aI .i64 k_102 1) 1) 1, aI .i64 (aI .i64 (aI .i64 (aI .i64 k_102 1) 1) 1) 1⟩ : T22)⟩ : T83)).length), (1, .i .i64 (aI .i64 (aI .i64 (aI .i64 (aI .i64 (aI .i64 k_102 1) 1) 1) 1) 1)), (5, .i .i64 (aI .i64 i_103 1))]) [some (5, rows cT83 r2.1), some (5, rows cT83 (l104.set i_103.toNat (⟨eqI d106 0, cI .u32 (aI .i64 k_102 1), (⟨aI .i64 (aI .i64 k_102 1) 1, aI .i64 (aI .i64 (aI .i64 k_102 1) 1) 1, aI .i64 (aI .i64 (aI .i64 (aI .i64 k_102 1) 1) 1) 1⟩ : T22)⟩ : T83)))] ((tm 66 [(0, .str aText), (3, .ref 0 0 r2.1.length), (4, .i .i64 r2.2), (5, .ref 1 0 (l104.set i_103.toNat (⟨eqI d106 0, cI .u32 (aI .i64 k_102 1), (⟨aI .i64 (aI .i64 k_102 1) 1, aI .i64 (aI .i64 (aI .i64 k_102 1) 1) 1, aI .i64 (aI .i64 (aI .i64 (aI .i64 k_102 1) 1) 1) 1⟩ : T22)⟩ : T83)).length), (33, .ref 1 0 (l104.set i_103.toNat (⟨eqI d106 0, cI .u32 (aI .i64 k_102 1), (⟨aI .i64 (aI .i64 k_102 1) 1, aI .i64 (aI .i64 (aI .i64 k_102 1) 1) 1, aI .i64 (aI .i64 (aI .i64 (aI .i64 k_102 1) 1) 1) 1⟩ : T22)⟩ : T83)).length), (34, .i .i64 1)]) ++ []) hC (vnext (aI .i64 (aI .i64 (aI .i64 (aI .i64 (aI .i64 k_102 1) 1) 1) 1) 1, aI .i64 i_103 1, (l104.set i_103.toNat (⟨eqI d106 0, cI .u32 (aI .i64 k_102 1), (⟨aI .i64 (aI .i64 k_102 1) 1, aI .i64 (aI .i64 (aI .i64 k_102 1) 1) 1, aI .i64 (aI .i64 (aI .i64 (aI .i64 k_102 1) 1) 1) 1⟩ : T22)⟩ : T83))) (leafL h1) (Ent.tu 2)))) (h := by simp -implicitDefEqProofs [f109a, f109b, f109c, f109d]))))) (h := by simp -implicitDefEqProofs [f109a, f109b, f109c, f109d]))))) (h := by simp -implicitDefEqProofs [f109a, f109b, f109c, f109d]))))) (h := by simp -implicitDefEqProofs [f109a, f109b, f109c, f109d]))))) (h := by simp -implicitDefEqProofs [q107, f109a, f109b, f109c, f109d])
 rintro ⟨k_74, l75⟩ h
 replace h : (g8_j1 aText r2 k_74 l75).bind _ = _ := h
 rw [g8_j1] at h
 refine VW.seq (VW.rA (tm 54 [(4, .i .i64 k_74)]) [some (5, rows cT83 r2.1), some (5, rows cT83 l75)] ((tm 66 [(0, .str aText), (3, .ref 0 0 r2.1.length), (4, .i .i64 r2.2), (5, .ref 1 0 l75.length), (33, .ref 1 0 l75.length), (34, .i .i64 1)]) ++ []) hC (VW.ret (VIn.ret (v := .i .i64 k_74) (by simp) (VL.evalP (tm 66 [(0, .str aText), (3, .ref 0 0 r2.1.length), (4, .i .i64 r2.2), (5, .ref 1 0 l75.length), (7, .i .i64 k_74)]) [some (5, rows cT83 r2.1), some (5, rows cT83 l75)] [] hC (by kernel_rfl) (by simp -implicitDefEqProofs) (VW.seq (VW.rA (tm 66 [(0, .str aText), (3, .ref 0 0 r2.1.length), (4, .i .i64 r2.2), (5, .ref 1 0 l75.length), (7, .i .i64 k_74), (8, .i .i64 1)]) [some (5, rows cT83 r2.1), some (5, rows cT83 l75)] [] hC (VW.seq ?_)))))))
 obtain ⟨r76, q77, h⟩ := bindE h
 have c77 := tl33 q77
 refine VW.rA (tm 66 [(0, .str aText), (3, .ref 0 0 r2.1.length), (4, .i .i64 r2.2), (5, .ref 1 0 l75.length), (7, .i .i64 k_74), (8, .i .i64 r76)]) [some (5, rows cT83 r2.1), some (5, rows cT83 l75)] [] hC (VW.seq (VW.seq (VW.rA (tm 66 [(0, .str aText), (3, .ref 0 0 r2.1.length), (4, .i .i64 r2.2), (5, .ref 1 0 l75.length), (7, .i .i64 k_74), (8, .i .i64 r76), (40, .b (ltI r76 0))]) [some (5, rows cT83 r2.1), some (5, rows cT83 l75)] [] hC (VW.condI h (fun h => ?_) (fun h => ?_))))) (h := by simp -implicitDefEqProofs [c77])
 · refine VW.seq (VW.rA (tm 66 [(2, .b false)]) [some (5, rows cT83 r2.1), some (5, rows cT83 l75)] [] hC ?_)
   obtain rfl := leafS h
   exact VW.ret (VRet.fin (by simp [eB8]))
 refine VW.skip (VW.seq (VW.seq (VW.rA (tm 66 [(0, .str aText), (3, .ref 0 0 r2.1.length), (4, .i .i64 r2.2), (5, .ref 1 0 l75.length), (7, .i .i64 k_74), (43, .b (!eqI r76 k_74))]) [some (5, rows cT83 r2.1), some (5, rows cT83 l75)] [] hC (VW.condI h (fun h => ?_) (fun h => ?_)))))
 · refine VW.seq (VW.rA (tm 66 [(2, .b false)]) [some (5, rows cT83 r2.1), some (5, rows cT83 l75)] [] hC ?_)
   obtain rfl := leafS h
   exact VW.ret (VRet.fin (by simp [eB8]))
 refine VW.skip (VW.seq ?_)
 obtain ⟨r80, q81, h⟩ := bindE h
 have c81 := tl31 q81
 refine VW.rA (tm 66 [(3, .ref 0 0 r2.1.length), (4, .i .i64 r2.2), (5, .ref 1 0 l75.length), (7, .i .i64 k_74), (9, .ref 2 0 r80.1.length), (10, .i .i64 r80.2)]) [some (5, rows cT83 r2.1), some (5, rows cT83 l75), some (5, rows cT83 r80.1)] [] hC (VW.seq (VW.seq ?_)) (h := by simp -implicitDefEqProofs [c81])
 obtain ⟨r82, q83, h⟩ := bindE h
 have c83 := tl22 q83
 refine VW.rA (tm 66 [(5, .ref 1 0 l75.length), (7, .i .i64 k_74), (57, .b ((!r82) || (!eqI r80.2 r2.2)))]) [some (5, rows cT83 r2.1), some (5, rows cT83 l75), some (5, rows cT83 r80.1)] [] hC (VW.condI h (fun h => ?_) (fun h => ?_)) (h := by simp -implicitDefEqProofs [c83])
 · refine VW.seq (VW.rA (tm 66 [(2, .b false)]) [some (5, rows cT83 r2.1), some (5, rows cT83 l75), some (5, rows cT83 r80.1)] [] hC ?_)
   obtain rfl := leafS h
   exact VW.ret (VRet.fin (by simp [eB8]))
 refine VW.skip (VW.seq (VW.rA (tm 66 [(5, .ref 1 0 l75.length), (7, .i .i64 k_74), (8, .i .i64 1)]) [some (5, rows cT83 r2.1), some (5, rows cT83 l75), some (5, rows cT83 r80.1)] [] hC (VW.seq ?_)))
 obtain ⟨r85, q86, h⟩ := bindE h
 have c86 := tl33 q86
 refine VW.rA (tm 66 [(7, .i .i64 k_74), (8, .i .i64 r85)]) [some (5, rows cT83 r2.1), some (5, rows cT83 l75), some (5, rows cT83 r80.1)] [] hC (VW.seq (VW.seq (VW.rA (tm 66 [(7, .i .i64 k_74), (8, .i .i64 r85), (62, .b (ltI r85 0))]) [some (5, rows cT83 r2.1), some (5, rows cT83 l75), some (5, rows cT83 r80.1)] [] hC (VW.condI h (fun h => ?_) (fun h => ?_))))) (h := by simp -implicitDefEqProofs [c86])
 · refine VW.seq (VW.rA (tm 66 [(2, .b false)]) [some (5, rows cT83 r2.1), some (5, rows cT83 l75), some (5, rows cT83 r80.1)] [] hC ?_)
   obtain rfl := leafS h
   exact VW.ret (VRet.fin (by simp [eB8]))
 refine VW.skip (VW.seq (VW.seq (VW.rA (tm 66 [(65, .b (!eqI r85 k_74))]) [some (5, rows cT83 r2.1), some (5, rows cT83 l75), some (5, rows cT83 r80.1)] [] hC (VW.condI h (fun h => ?_) (fun h => ?_)))))
 · refine VW.seq (VW.rA (tm 66 [(2, .b false)]) [some (5, rows cT83 r2.1), some (5, rows cT83 l75), some (5, rows cT83 r80.1)] [] hC ?_)
   obtain rfl := leafS h
   exact VW.ret (VRet.fin (by simp [eB8]))
 refine VW.skip (VW.seq (VW.rA (tm 66 [(2, .b true)]) [some (5, rows cT83 r2.1), some (5, rows cT83 l75), some (5, rows cT83 r80.1)] [] hC ?_))
 obtain rfl := leafS h
 exact VW.ret (VRet.fin (by simp [eB8]))
theorem tl8 {aText : ByteArray} {r : Bool} (h : g8 aText = some r) : F8 [.str aText] = some (.b r) := tells_eq inj8 (a := aText) h
end Go.Proofs.YtilkneilafpjiaaDoor
