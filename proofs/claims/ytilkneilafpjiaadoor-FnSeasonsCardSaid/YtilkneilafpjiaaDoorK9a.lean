/- Contracts of the functions that the law reaches: what each tells, as a function in Lean. -/
import Derived.Test.YtilkneilafpjiaaDoorK9Ty
import Derived.KernelRfl
namespace Go.Proofs.YtilkneilafpjiaaDoor
open Go.RowKit Go.VL
set_option linter.unusedSimpArgs false
set_option linter.unusedVariables false
set_option maxHeartbeats 40000000
set_option maxRecDepth 100000
noncomputable def g92 (n : Int) (low : Int) (high : Int) : Option (Bool) :=
some (leI low n && leI n high)
def eA92 (a : Int × Int × Int) : List V := [.i .i64 a.1, .i .i64 a.2.1, .i .i64 a.2.2]
def eB92 (r : Bool) : V := .b r
theorem inj92 (a a' : Int × Int × Int) (h : eA92 a = eA92 a') : a = a' := by
  obtain ⟨i1, i2, i3⟩ := a
  obtain ⟨i4, i5, i6⟩ := a'
  simp only [eA92, List.cons.injEq, V.i.injEq, V.b.injEq, V.f.injEq, V.str.injEq, V.sl.injEq, V.agg.injEq, V.cptr.injEq, true_and, and_true] at h
  simp_all
noncomputable def F92 : List V → Option V := tells (fun a => g92 a.1 a.2.1 a.2.2) eA92 eB92
/- loop.example/g01229/spec.l00In -/
theorem ok92 : Tells Tryd.prog 92 F92 := by
 refine Tells.go 15 Tryd.func92 rfl rfl rfl (by kernel_rfl) (fun _ => rfl) ?_
 rintro ⟨n, low, high⟩ r h
 simp only [eA92, en, Nat.reduceAdd]
 replace h : (g92 n low high).bind some = some r := bindS h
 rw [g92] at h
 have hC : CEnv.Ok Tryd.prog [] := trivial
 refine VW.seq (VW.rA (tm 15 [(0, .i .i64 n), (1, .i .i64 low), (2, .i .i64 high)]) [] [] hC (VW.seq (VW.rA (tm 15 [(6, .b (leI low n && leI n high))]) [] [] hC ?_)))
 obtain rfl := leafS h
 exact VW.ret (VRet.fin (by simp [eB92]))
theorem tl92 {n : Int} {low : Int} {high : Int} {r : Bool} (h : g92 n low high = some r) : F92 [.i .i64 n, .i .i64 low, .i .i64 high] = some (.b r) := tells_eq inj92 (a := (n, low, high)) h
noncomputable def g96 (p0 : Int) (p1 : Int) : Option (ByteArray) := fmtIntO p0 p1
def eA96 (a : Int × Int) : List V := [.i .i64 a.1, .i .i64 a.2]
def eB96 (r : ByteArray) : V := .str r
theorem inj96 (a a' : Int × Int) (h : eA96 a = eA96 a') : a = a' := by
  obtain ⟨i39, i40⟩ := a
  obtain ⟨i41, i42⟩ := a'
  simp only [eA96, List.cons.injEq, V.i.injEq, V.b.injEq, V.f.injEq, V.str.injEq, V.sl.injEq, V.agg.injEq, V.cptr.injEq, true_and, and_true] at h
  simp_all
noncomputable def F96 : List V → Option V := tells (fun a => g96 a.1 a.2) eA96 eB96
/- strconv.FormatInt -/
theorem ok96 : Tells Tryd.prog 96 F96 := Tells.of (by kernel_rfl) (fun ⟨p0, p1⟩ r h => fmtInt_calls Tryd.laysM173 (g := 0) (by kernel_rfl) h)
theorem tl96 {p0 : Int} {p1 : Int} {r : ByteArray} (h : g96 p0 p1 = some r) : F96 [.i .i64 p0, .i .i64 p1] = some (.str r) := tells_eq inj96 (a := (p0, p1)) h
noncomputable def g97 (p0 : List ByteArray) (p1 : ByteArray) : Option (ByteArray) := joinO p0 p1
def eA97 (a : (List ByteArray) × ByteArray) : List V := [.sl 1 (rows cs_ a.1), .str a.2]
def eB97 (r : ByteArray) : V := .str r
theorem inj97 (a a' : (List ByteArray) × ByteArray) (h : eA97 a = eA97 a') : a = a' := by
  obtain ⟨i43, i44⟩ := a
  obtain ⟨i45, i46⟩ := a'
  simp only [eA97, List.cons.injEq, V.i.injEq, V.b.injEq, V.f.injEq, V.str.injEq, V.sl.injEq, V.agg.injEq, V.cptr.injEq, true_and, and_true] at h
  simp_all [ri cs__inj]
noncomputable def F97 : List V → Option V := tells (fun a => g97 a.1 a.2) eA97 eB97
/- strings.Join -/
theorem ok97 : Tells Tryd.prog 97 F97 := Tells.of (by kernel_rfl) (fun ⟨p0, p1⟩ r h => join_calls Tryd.lays156 Tryd.Builder_Extra_156 h)
theorem tl97 {p0 : List ByteArray} {p1 : ByteArray} {r : ByteArray} (h : g97 p0 p1 = some r) : F97 [.sl 1 (rows cs_ p0), .str p1] = some (.str r) := tells_eq inj97 (a := (p0, p1)) h
noncomputable def g53_j1 (l26 : List ByteArray) : Option (ByteArray) :=
(g97 l26 (⟨#[32]⟩ : ByteArray)).bind fun r27 =>
some r27
noncomputable def g53_L1 (list : List Int) : (Int × (List ByteArray)) → Option ((Int × (List ByteArray)) ⊕ (List ByteArray))
| (x_45, l46) =>
if ltI x_45 (list.length : Int) = true then
(idx list x_45).bind fun e48 =>
(g96 e48 10).bind fun r50 =>
(appK 16 l46 [r50]).bind fun u52 =>
some (.inl (aI .i64 x_45 1, (l46 ++ [r50])))
else
some (.inr l46)
noncomputable def g53 (list : List Int) : Option (ByteArray) :=
(loopO (g53_L1 list) (0, [])).bind fun w => g53_j1 w
def eA53 (a : List Int) : List V := [.sl 1 (rows ci_i64 a)]
def eB53 (r : ByteArray) : V := .str r
theorem inj53 (a a' : List Int) (h : eA53 a = eA53 a') : a = a' := by
  obtain i47 := a
  obtain i48 := a'
  simp only [eA53, List.cons.injEq, V.i.injEq, V.b.injEq, V.f.injEq, V.str.injEq, V.sl.injEq, V.agg.injEq, V.cptr.injEq, true_and, and_true] at h
  simp_all [ri ci_i64_inj]
noncomputable def F53 : List V → Option V := tells (fun a => g53 a) eA53 eB53
/- loop.example/g01229/impl.decimals -/
theorem ok53 : Tells Tryd.prog 53 F53 := by
 refine Tells.go 21 Tryd.func53 rfl rfl rfl (by kernel_rfl) (fun _ => rfl) ?_
 rintro list r h
 simp only [eA53, en, Nat.reduceAdd]
 replace h : (g53 list).bind some = some r := bindS h
 rw [g53] at h
 have hC : CEnv.Ok Tryd.prog [(96, F96), (97, F97)] := ⟨.inl ok96, .inl ok97, trivial⟩
 refine VW.seq (VW.rA (tm 21 [(0, .sl 1 (rows ci_i64 list))]) [] [] hC (VW.seq (VW.rA (tm 21 [(0, .sl 1 (rows ci_i64 list)), (3, .ref 0 0 0)]) [some (1, rows cs_ [])] [] hC (VW.join (fun (v : List ByteArray) => (⟨(tm 21 [(3, .ref 0 0 v.length)]), [some (1, rows cs_ v)], []⟩ : VS)) (fun v => (g53_j1 (v)).bind some = some r) ?_ ?_))))
 · refine VW.seq (VW.rA (tm 21 [(3, .ref 0 0 0), (7, .sl 1 (rows ci_i64 list)), (8, .i .i64 (list.length : Int)), (9, .i .i64 0)]) [some (1, rows cs_ [])] [] hC (VW.block ?_))
   obtain ⟨w_1, hw_1, h⟩ := bindE h
   refine VW.loopO (fun (x : Int × (List ByteArray)) => (⟨(tm 21 [(3, .ref 0 0 x.2.length), (7, .sl 1 (rows ci_i64 list)), (8, .i .i64 (list.length : Int)), (9, .i .i64 x.1)]), [some (1, rows cs_ x.2)], []⟩ : VS)) hw_1 (Ent.tu 1) ?_
   rintro n_1 ⟨x_45, l46⟩ h1
   rw [g53_L1] at h1
   refine VW.seq (VW.rA (tm 21 [(3, .ref 0 0 l46.length), (7, .sl 1 (rows ci_i64 list)), (8, .i .i64 (list.length : Int)), (9, .i .i64 x_45), (10, .b (ltI x_45 (list.length : Int)))]) [some (1, rows cs_ l46)] [] hC (VW.seq (VW.condJ h1 (fun h1 => ?_) (fun h1 => ?_))))
   · refine VW.exit ?_
     have e_ := leafR h1
     subst w_1
     exact vnext l46 h (Ent.tu 1)
   refine VW.skip (VW.seq (VW.block (VW.seq ?_)))
   obtain ⟨e48, ⟨f49a, f49b, f49c, f49d⟩, h1⟩ := bindI h1
   refine VW.rA (tm 21 [(3, .ref 0 0 l46.length), (5, .i .i64 e48), (7, .sl 1 (rows ci_i64 list)), (8, .i .i64 (list.length : Int)), (9, .i .i64 x_45)]) [some (1, rows cs_ l46)] [] hC ?_ (h := by simp -implicitDefEqProofs [f49a, f49b, f49c, f49d])
   obtain ⟨r50, q51, h1⟩ := bindE h1
   have c51 := tl96 q51
   obtain ⟨u52, ⟨f53a, f53b⟩, h1⟩ := bindP h1
   try simp only [Int.toNat_natCast, Int.reduceToNat, List.length_cons, List.length_nil, Nat.reduceAdd, Nat.zero_add] at f53a f53b
   exact VW.rA (tm 21 [(3, .ref 0 0 (l46 ++ [r50]).length), (7, .sl 1 (rows ci_i64 list)), (8, .i .i64 (list.length : Int)), (9, .i .i64 x_45)]) [some (1, rows cs_ (l46 ++ [r50])), some (1, rows cs_ [r50])] [] hC (VW.rA (tm 21 [(3, .ref 0 0 (l46 ++ [r50]).length), (7, .sl 1 (rows ci_i64 list)), (8, .i .i64 (list.length : Int)), (9, .i .i64 (aI .i64 x_45 1))]) [some (1, rows cs_ (l46 ++ [r50])), some (1, rows cs_ [r50])] [] hC (vnext (aI .i64 x_45 1, (l46 ++ [r50])) (leafL h1) (Ent.tu 1))) (h := by simp -implicitDefEqProofs [c51, f53a, f53b])
 rintro l26 h
 replace h : (g53_j1 l26).bind _ = _ := h
 rw [g53_j1] at h
 refine VW.seq ?_
 obtain ⟨r27, q28, h⟩ := bindE h
 have c28 := tl97 q28
 refine VW.rA (tm 21 [(2, .str r27)]) [some (1, rows cs_ l26)] [] hC ?_ (h := by simp -implicitDefEqProofs [c28])
 obtain rfl := leafS h
 exact VW.ret (VRet.fin (by simp [eB53]))
theorem tl53 {list : List Int} {r : ByteArray} (h : g53 list = some r) : F53 [.sl 1 (rows ci_i64 list)] = some (.str r) := tells_eq inj53 (a := list) h
noncomputable def g99 (p0 : ByteArray) (p1 : ByteArray) : Option (List ByteArray) := splitO p0 p1
def eA99 (a : ByteArray × ByteArray) : List V := [.str a.1, .str a.2]
def eB99 (r : List ByteArray) : V := .own 1 (rows cs_ r)
theorem inj99 (a a' : ByteArray × ByteArray) (h : eA99 a = eA99 a') : a = a' := by
  obtain ⟨i55, i56⟩ := a
  obtain ⟨i57, i58⟩ := a'
  simp only [eA99, List.cons.injEq, V.i.injEq, V.b.injEq, V.f.injEq, V.str.injEq, V.sl.injEq, V.agg.injEq, V.cptr.injEq, true_and, and_true] at h
  simp_all
noncomputable def F99 : List V → Option V := tells (fun a => g99 a.1 a.2) eA99 eB99
/- strings.Split -/
theorem ok99 : Tells Tryd.prog 99 F99 := Tells.of (by kernel_rfl) (fun ⟨p0, p1⟩ r h => split_calls Tryd.lays146 (by kernel_rfl) (by kernel_rfl) h)
theorem tl99 {p0 : ByteArray} {p1 : ByteArray} {r : List ByteArray} (h : g99 p0 p1 = some r) : F99 [.str p0, .str p1] = some (.own 1 (rows cs_ r)) := tells_eq inj99 (a := (p0, p1)) h
noncomputable def g69 (r_ : T129) : Option (ByteArray × T129) :=
if eqI (r_.list_.length : Int) 0 = true then
some (ByteArray.empty, (⟨r_.list_, true⟩ : T129))
else
(idx r_.list_ 0).bind fun e2 =>
(cutK 1 (r_.list_.length : Int) r_.list_.length).bind fun u4 =>
some (e2, (⟨(r_.list_.tail), r_.bad_⟩ : T129))
def eA69 (a : T129) : List V := [.agg (pT129 a)]
def eB69 (r : ByteArray × T129) : V := .tup [.str r.1, .agg [.sl 1 (rows cs_ r.2.list_), .b r.2.bad_]]
theorem inj69 (a a' : T129) (h : eA69 a = eA69 a') : a = a' := by
  obtain ⟨i63, i64⟩ := a
  obtain ⟨i65, i66⟩ := a'
  simp only [eA69, pT129, List.cons.injEq, V.i.injEq, V.b.injEq, V.f.injEq, V.str.injEq, V.sl.injEq, V.agg.injEq, V.cptr.injEq, true_and, and_true] at h
  simp_all [ri cs__inj]
noncomputable def F69 : List V → Option V := tells (fun a => g69 a) eA69 eB69
/- (*loop.example/g01229/impl.words).next -/
theorem ok69 : TellsM Tryd.prog 69 F69 := by
  refine TellsM.of Tryd.func69 (by kernel_rfl) rfl rfl rfl ?_
  rintro r_ r h cs vs v_ cs' hE1 hE2 gg mm bb nn hb
  simp only [eA69, List.cons.injEq, V.agg.injEq] at hE1
  obtain ⟨rfl, rfl⟩ := hE1
  have hS : ∀ x, (mm.set bb x)[bb]? = some x := at_set (List.getElem?_eq_some_iff.1 hb).1
  replace h : (g69 r_).bind some = some r := bindS h
  rw [g69] at h
  have hC : CEnv.Ok Tryd.prog [] := trivial
  refine VW.ent (s := (⟨(tm 28 [(0, .ptr bb 0 0)]), (mm.set bb (some (nn, [[.sl 1 (rows cs_ r_.list_), .b r_.bad_]]))), gg⟩ : VS)) (Ent.eqs (by simp only [List.length_cons, List.length_nil, Nat.reduceAdd, Nat.reduceSub]; rw [tm_init]; simp) (set_self hb) rfl) (VW.seq (VW.rA (tm 28 [(0, .ptr bb 0 0)]) (mm.set bb (some (nn, [[.sl 1 (rows cs_ r_.list_), .b r_.bad_]]))) gg hC (VW.seq (VW.seq (VW.rA (tm 28 [(0, .ptr bb 0 0), (9, .b (eqI (r_.list_.length : Int) 0))]) (mm.set bb (some (nn, [[.sl 1 (rows cs_ r_.list_), .b r_.bad_]]))) gg hC (VW.condI h (fun h => ?_) (fun h => ?_)) (h := by simp -implicitDefEqProofs [hS])))) (h := by simp -implicitDefEqProofs [hS])))
  · refine VW.seq (VW.rA (tm 28 []) (mm.set bb (some (nn, [[.sl 1 (rows cs_ r_.list_), .b true]]))) gg hC (VW.seq (VW.rA (tm 28 [(2, .str ByteArray.empty)]) (mm.set bb (some (nn, [[.sl 1 (rows cs_ r_.list_), .b true]]))) gg hC ?_ (h := by simp -implicitDefEqProofs [hS]))) (h := by simp -implicitDefEqProofs [hS]))
    obtain rfl := leafS h
    simp only [eB69, V.tup.injEq, V.agg.injEq, List.cons.injEq, and_true] at hE2
    obtain ⟨rfl, rfl⟩ := hE2
    exact VW.ret (VInE.fin (by simp) (by simp) rfl)
  refine VW.skip (VW.seq ?_)
  obtain ⟨e2, ⟨f3a, f3b, f3c, f3d⟩, h⟩ := bindI h
  try simp only [Int.toNat_natCast, Int.reduceToNat] at f3a f3b f3c f3d
  refine VW.rA (tm 28 [(0, .ptr bb 0 0), (3, .str e2)]) (mm.set bb (some (nn, [[.sl 1 (rows cs_ r_.list_), .b r_.bad_]]))) gg hC (VW.seq ?_) (h := by simp -implicitDefEqProofs [f3a, f3b, f3c, f3d, hS])
  obtain ⟨u4, ⟨f5a, f5b, f5c, f5d, f5e⟩, h⟩ := bindC h
  try simp only [Int.toNat_natCast, Int.reduceToNat, List.length_cons, List.length_nil, Nat.reduceAdd, Nat.zero_add] at f5a f5b f5c f5d f5e
  refine VW.rA (tm 28 [(3, .str e2)]) (mm.set bb (some (nn, [[.sl 1 (rows cs_ (r_.list_.tail)), .b r_.bad_]]))) gg hC (VW.seq (VW.rA (tm 28 [(2, .str e2)]) (mm.set bb (some (nn, [[.sl 1 (rows cs_ (r_.list_.tail)), .b r_.bad_]]))) gg hC ?_ (h := by simp -implicitDefEqProofs [hS]))) (h := by simp -implicitDefEqProofs [f5a, f5b, f5c, f5d, f5e, hS])
  obtain rfl := leafS h
  simp only [eB69, V.tup.injEq, V.agg.injEq, List.cons.injEq, and_true] at hE2
  obtain ⟨rfl, rfl⟩ := hE2
  exact VW.ret (VInE.fin (by simp) (by simp) rfl)
noncomputable def g100 (p0 : ByteArray) (p1 : Int) (p2 : Int) : Option (Int × Bool) := parseIntO p0 p1 p2
def eA100 (a : ByteArray × Int × Int) : List V := [.str a.1, .i .i64 a.2.1, .i .i64 a.2.2]
def eB100 (r : Int × Bool) : V := .tup [.i .i64 r.1, errV r.2]
theorem inj100 (a a' : ByteArray × Int × Int) (h : eA100 a = eA100 a') : a = a' := by
  obtain ⟨i67, i68, i69⟩ := a
  obtain ⟨i70, i71, i72⟩ := a'
  simp only [eA100, List.cons.injEq, V.i.injEq, V.b.injEq, V.f.injEq, V.str.injEq, V.sl.injEq, V.agg.injEq, V.cptr.injEq, true_and, and_true] at h
  simp_all
noncomputable def F100 : List V → Option V := tells (fun a => g100 a.1 a.2.1 a.2.2) eA100 eB100
/- strconv.ParseInt -/
theorem ok100 : Tells Tryd.prog 100 F100 := Tells.of (by kernel_rfl) (fun ⟨p0, p1, p2⟩ r h => parseInt_calls Tryd.laysC174 (g1 := 1) (g2 := 2) (by kernel_rfl) (by kernel_rfl) h)
theorem tl100 {p0 : ByteArray} {p1 : Int} {p2 : Int} {r : Int × Bool} (h : g100 p0 p1 p2 = some r) : F100 [.str p0, .i .i64 p1, .i .i64 p2] = some (.tup [.i .i64 r.1, errV r.2]) := tells_eq inj100 (a := (p0, p1, p2)) h
noncomputable def g70 (r_ : T129) : Option (Int × T129) :=
(g69 r_).bind fun r1 =>
(g100 r1.1 10 64).bind fun r3 =>
some (r3.1, (⟨r1.2.list_, (r1.2.bad_ || r3.2)⟩ : T129))
def eA70 (a : T129) : List V := [.agg (pT129 a)]
def eB70 (r : Int × T129) : V := .tup [.i .i64 r.1, .agg [.sl 1 (rows cs_ r.2.list_), .b r.2.bad_]]
theorem inj70 (a a' : T129) (h : eA70 a = eA70 a') : a = a' := by
  obtain ⟨i73, i74⟩ := a
  obtain ⟨i75, i76⟩ := a'
  simp only [eA70, pT129, List.cons.injEq, V.i.injEq, V.b.injEq, V.f.injEq, V.str.injEq, V.sl.injEq, V.agg.injEq, V.cptr.injEq, true_and, and_true] at h
  simp_all [ri cs__inj]
noncomputable def F70 : List V → Option V := tells (fun a => g70 a) eA70 eB70
/- (*loop.example/g01229/impl.words).integer -/
theorem ok70 : TellsM Tryd.prog 70 F70 := by
  refine TellsM.of Tryd.func70 (by kernel_rfl) rfl rfl rfl ?_
  rintro r_ r h cs vs v_ cs' hE1 hE2 gg mm bb nn hb
  simp only [eA70, List.cons.injEq, V.agg.injEq] at hE1
  obtain ⟨rfl, rfl⟩ := hE1
  have hS : ∀ x, (mm.set bb x)[bb]? = some x := at_set (List.getElem?_eq_some_iff.1 hb).1
  replace h : (g70 r_).bind some = some r := bindS h
  rw [g70] at h
  have hC : CEnv.Ok Tryd.prog [(100, F100)] := ⟨.inl ok100, trivial⟩
  refine VW.ent (s := (⟨(tm 23 [(0, .ptr bb 0 0)]), (mm.set bb (some (nn, [[.sl 1 (rows cs_ r_.list_), .b r_.bad_]]))), gg⟩ : VS)) (Ent.eqs (by simp only [List.length_cons, List.length_nil, Nat.reduceAdd, Nat.reduceSub]; rw [tm_init]; simp) (set_self hb) rfl) (VW.seq (VW.rA (tm 23 [(0, .ptr bb 0 0)]) (mm.set bb (some (nn, [[.sl 1 (rows cs_ r_.list_), .b r_.bad_]]))) gg hC (VW.seq ?_) (h := by simp -implicitDefEqProofs [hS])))
  obtain ⟨r1, q2, h⟩ := bindE h
  have c2 : F69 [.agg [.sl 1 (rows cs_ r_.list_), .b r_.bad_]] = some (.tup [.str r1.1, .agg [.sl 1 (rows cs_ r1.2.list_), .b r1.2.bad_]]) := tells_eq inj69 (a := r_) q2
  obtain ⟨r3, q4, h⟩ := bindE h
  have c4 := tl100 q4
  refine VW.evalM (CM := [(69, F69)]) (tm 23 [(0, .ptr bb 0 0), (3, .i .i64 r3.1), (4, errV r3.2)]) (mm.set bb (some (nn, [[.sl 1 (rows cs_ r1.2.list_), .b r1.2.bad_]]))) gg hC ⟨ok69, trivial⟩ (by simp -implicitDefEqProofs [c2, c4, hS]) (VW.seq (VW.rA (tm 23 [(3, .i .i64 r3.1)]) (mm.set bb (some (nn, [[.sl 1 (rows cs_ r1.2.list_), .b (r1.2.bad_ || r3.2)]]))) gg hC (VW.seq (VW.rA (tm 23 [(2, .i .i64 r3.1)]) (mm.set bb (some (nn, [[.sl 1 (rows cs_ r1.2.list_), .b (r1.2.bad_ || r3.2)]]))) gg hC ?_ (h := by simp -implicitDefEqProofs [hS]))) (h := by simp -implicitDefEqProofs [hS])))
  obtain rfl := leafS h
  simp only [eB70, V.tup.injEq, V.agg.injEq, List.cons.injEq, and_true] at hE2
  obtain ⟨rfl, rfl⟩ := hE2
  exact VW.ret (VInE.fin (by simp) (by simp) rfl)
noncomputable def g71 (r_ : T129) : Option (Bool) :=
some ((!r_.bad_) && eqI (r_.list_.length : Int) 0)
def eA71 (a : T129) : List V := [.cptr (pT129 a) 0]
def eB71 (r : Bool) : V := .b r
theorem inj71 (a a' : T129) (h : eA71 a = eA71 a') : a = a' := by
  obtain ⟨i77, i78⟩ := a
  obtain ⟨i79, i80⟩ := a'
  simp only [eA71, pT129, List.cons.injEq, V.i.injEq, V.b.injEq, V.f.injEq, V.str.injEq, V.sl.injEq, V.agg.injEq, V.cptr.injEq, true_and, and_true] at h
  simp_all [ri cs__inj]
noncomputable def F71 : List V → Option V := tells (fun a => g71 a) eA71 eB71
/- (*loop.example/g01229/impl.words).done -/
theorem ok71 : Tells Tryd.prog 71 F71 := by
 refine Tells.go 16 Tryd.func71 rfl rfl rfl (by kernel_rfl) (fun _ => rfl) ?_
 rintro r_ r h
 simp only [eA71, en, Nat.reduceAdd]
 replace h : (g71 r_).bind some = some r := bindS h
 rw [g71] at h
 have hC : CEnv.Ok Tryd.prog [] := trivial
 refine VW.seq (VW.rA (tm 16 [(0, .cptr (pT129 r_) 0)]) [] [] hC (VW.seq (VW.rA (tm 16 [(2, .b ((!r_.bad_) && eqI (r_.list_.length : Int) 0))]) [] [] hC ?_)))
 obtain rfl := leafS h
 exact VW.ret (VRet.fin (by simp [eB71]))
theorem tl71 {r_ : T129} {r : Bool} (h : g71 r_ = some r) : F71 [.cptr [.sl 1 (rows cs_ r_.list_), .b r_.bad_] 0] = some (.b r) := tells_eq inj71 (a := r_) h
noncomputable def g90_j1 : Option (Bool) :=
some true
noncomputable def g90_L1 (list : List Int) (most : Int) : (Int) → Option ((Int) ⊕ ((Unit) ⊕ (Bool)))
| i_34 =>
if ltI i_34 (list.length : Int) = true then
(idx list i_34).bind fun e36 =>
(g92 e36 0 most).bind fun r38 =>
if (!r38) = true then
some (.inr (.inr false))
else
some (.inl (aI .i64 i_34 1))
else
some (.inr (.inl ()))
noncomputable def g90 (list : List Int) (most : Int) : Option (Bool) :=
(loopO (g90_L1 list most) 0).bind fun w => match w with
| .inl y => g90_j1
| .inr r => some r
def eA90 (a : (List Int) × Int) : List V := [.sl 1 (rows ci_i64 a.1), .i .i64 a.2]
def eB90 (r : Bool) : V := .b r
theorem inj90 (a a' : (List Int) × Int) (h : eA90 a = eA90 a') : a = a' := by
  obtain ⟨i143, i144⟩ := a
  obtain ⟨i145, i146⟩ := a'
  simp only [eA90, List.cons.injEq, V.i.injEq, V.b.injEq, V.f.injEq, V.str.injEq, V.sl.injEq, V.agg.injEq, V.cptr.injEq, true_and, and_true] at h
  simp_all [ri ci_i64_inj]
noncomputable def F90 : List V → Option V := tells (fun a => g90 a.1 a.2) eA90 eB90
/- loop.example/g01229/spec.l07Bounded -/
theorem ok90 : Tells Tryd.prog 90 F90 := by
 refine Tells.go 19 Tryd.func90 rfl rfl rfl (by kernel_rfl) (fun _ => rfl) ?_
 rintro ⟨list, most⟩ r h
 simp only [eA90, en, Nat.reduceAdd]
 replace h : (g90 list most).bind some = some r := bindS h
 rw [g90] at h
 have hC : CEnv.Ok Tryd.prog [(92, F92)] := ⟨.inl ok92, trivial⟩
 refine VW.seq (VW.rA (tm 19 [(0, .sl 1 (rows ci_i64 list)), (1, .i .i64 most)]) [] [] hC (VW.join (fun (v : Unit) => (⟨(tm 19 []), [], []⟩ : VS)) (fun v => (g90_j1).bind some = some r) ?_ ?_))
 · refine VW.seq (VW.rA (tm 19 [(0, .sl 1 (rows ci_i64 list)), (1, .i .i64 most), (5, .i .i64 0)]) [] [] hC (VW.block ?_))
   obtain ⟨w_1, hw_1, h⟩ := bindE h
   refine VW.loopO (fun (x : Int) => (⟨(tm 19 [(0, .sl 1 (rows ci_i64 list)), (1, .i .i64 most), (5, .i .i64 x)]), [], []⟩ : VS)) hw_1 (Ent.tu 0) ?_
   rintro n_1 i_34 h1
   rw [g90_L1] at h1
   refine VW.seq (VW.seq (VW.rA (tm 19 [(0, .sl 1 (rows ci_i64 list)), (1, .i .i64 most), (5, .i .i64 i_34), (9, .b (ltI i_34 (list.length : Int)))]) [] [] hC (VW.condJ h1 (fun h1 => ?_) (fun h1 => ?_))))
   · refine VW.exit ?_
     have e_ := leafR h1
     subst w_1
     exact vnext () h (Ent.tu 0)
   refine VW.skip (VW.seq (VW.block (VW.seq ?_)))
   obtain ⟨e36, ⟨f37a, f37b, f37c, f37d⟩, h1⟩ := bindI h1
   obtain ⟨r38, q39, h1⟩ := bindE h1
   have c39 := tl92 q39
   refine VW.rA (tm 19 [(0, .sl 1 (rows ci_i64 list)), (1, .i .i64 most), (5, .i .i64 i_34), (18, .b (!r38))]) [] [] hC (VW.condI h1 (fun h1 => ?_) (fun h1 => ?_)) (h := by simp -implicitDefEqProofs [f37a, f37b, f37c, f37d, c39])
   · refine VW.seq (VW.rA (tm 19 [(4, .b false)]) [] [] hC ?_)
     have e_ := leafR h1
     subst w_1
     obtain rfl := leafS h
     exact VW.ret (VRet.fin (by simp [eB90]))
   exact VW.skip (VW.rA (tm 19 [(0, .sl 1 (rows ci_i64 list)), (1, .i .i64 most), (5, .i .i64 (aI .i64 i_34 1))]) [] [] hC (vnext (aI .i64 i_34 1) (leafL h1) (Ent.tu 0)))
 rintro _ h
 replace h : (g90_j1).bind _ = _ := h
 rw [g90_j1] at h
 refine VW.seq (VW.rA (tm 19 [(4, .b true)]) [] [] hC ?_)
 obtain rfl := leafS h
 exact VW.ret (VRet.fin (by simp [eB90]))
theorem tl90 {list : List Int} {most : Int} {r : Bool} (h : g90 list most = some r) : F90 [.sl 1 (rows ci_i64 list), .i .i64 most] = some (.b r) := tells_eq inj90 (a := (list, most)) h
noncomputable def g55 (s : T29) : Option (Bool) :=
(g92 (s.need_.length : Int) 1 24).bind fun r1 =>
(if (r1 && eqI (s.price_.length : Int) (s.need_.length : Int)) = true then (g90 s.need_ 200).bind fun r3 => some r3 else some false).bind fun w5 =>
(if w5 = true then (g90 s.price_ 1000).bind fun r6 => some r6 else some false).bind fun w8 =>
(if w8 = true then (g92 s.most_ 0 20).bind fun r9 => some r9 else some false).bind fun w11 =>
(if w11 = true then (g92 s.yield_ 1 40).bind fun r12 => some r12 else some false).bind fun w14 =>
(if w14 = true then (g92 s.store_ 0 60).bind fun r15 => some r15 else some false).bind fun w17 =>
(if w17 = true then (g92 s.first_ 0 s.store_).bind fun r18 => some r18 else some false).bind fun w20 =>
(if w20 = true then (g92 s.loss_ 0 100).bind fun r21 => some r21 else some false).bind fun w23 =>
some w23
def eA55 (a : T29) : List V := [.cptr (pT29 a) 0]
def eB55 (r : Bool) : V := .b r
theorem inj55 (a a' : T29) (h : eA55 a = eA55 a') : a = a' := by
  obtain ⟨i147, i148, i149, i150, i151, i152, i153⟩ := a
  obtain ⟨i154, i155, i156, i157, i158, i159, i160⟩ := a'
  simp only [eA55, pT29, List.cons.injEq, V.i.injEq, V.b.injEq, V.f.injEq, V.str.injEq, V.sl.injEq, V.agg.injEq, V.cptr.injEq, true_and, and_true] at h
  simp_all [ri ci_i64_inj]
noncomputable def F55 : List V → Option V := tells (fun a => g55 a) eA55 eB55
/- loop.example/g01229/spec.l07Ok -/
theorem ok55 : Tells Tryd.prog 55 F55 := by
 refine Tells.go 75 Tryd.func55 rfl rfl rfl (by kernel_rfl) (fun _ => rfl) ?_
 rintro s r h
 simp only [eA55, en, Nat.reduceAdd]
 replace h : (g55 s).bind some = some r := bindS h
 rw [g55] at h
 have hC : CEnv.Ok Tryd.prog [(90, F90), (92, F92)] := ⟨.inl ok90, .inl ok92, trivial⟩
 refine VW.seq (VW.rA (tm 75 [(0, .cptr (pT29 s) 0)]) [] [] hC (VW.seq ?_))
 obtain ⟨r1, q2, h⟩ := bindE h
 have c2 := tl92 q2
 obtain ⟨w5, q24, h⟩ := bindE h
 obtain ⟨w8, q25, h⟩ := bindE h
 obtain ⟨w11, q26, h⟩ := bindE h
 obtain ⟨w14, q27, h⟩ := bindE h
 obtain ⟨w17, q28, h⟩ := bindE h
 obtain ⟨w20, q29, h⟩ := bindE h
 obtain ⟨w23, q30, h⟩ := bindE h
 refine VW.evalDA (tm 75 [(2, .b w23)]) [] [] hC mixed (by kernel_rfl) (by
     obtain ⟨q31, q24⟩ | ⟨q31, rfl⟩ := gdT q24
     · obtain ⟨r3, q4, q24⟩ := bindQ q24
       have c4 := tl90 q4
       obtain rfl := Option.some.inj q24
       obtain ⟨q32, q25⟩ | ⟨q32, rfl⟩ := gdT q25
       · obtain ⟨r6, q7, q25⟩ := bindQ q25
         have c7 := tl90 q7
         obtain rfl := Option.some.inj q25
         obtain ⟨q33, q26⟩ | ⟨q33, rfl⟩ := gdT q26
         · obtain ⟨r9, q10, q26⟩ := bindQ q26
           have c10 := tl92 q10
           obtain rfl := Option.some.inj q26
           obtain ⟨q34, q27⟩ | ⟨q34, rfl⟩ := gdT q27
           · obtain ⟨r12, q13, q27⟩ := bindQ q27
             have c13 := tl92 q13
             obtain rfl := Option.some.inj q27
             obtain ⟨q35, q28⟩ | ⟨q35, rfl⟩ := gdT q28
             · obtain ⟨r15, q16, q28⟩ := bindQ q28
               have c16 := tl92 q16
               obtain rfl := Option.some.inj q28
               obtain ⟨q36, q29⟩ | ⟨q36, rfl⟩ := gdT q29
               · obtain ⟨r18, q19, q29⟩ := bindQ q29
                 have c19 := tl92 q19
                 obtain rfl := Option.some.inj q29
                 obtain ⟨q37, q30⟩ | ⟨q37, rfl⟩ := gdT q30
                 · obtain ⟨r21, q22, q30⟩ := bindQ q30
                   have c22 := tl92 q22
                   obtain rfl := Option.some.inj q30
                   simp -implicitDefEqProofs [c2, q31, c4, q32, c7, q33, c10, q34, c13, q35, c16, q36, c19, q37, c22, pT29]
                 simp -implicitDefEqProofs [c2, q31, c4, q32, c7, q33, c10, q34, c13, q35, c16, q36, c19, q37, pT29]
               obtain ⟨q38, q30⟩ | ⟨q38, rfl⟩ := gdT q30
               · exact absurd q38 (by simp)
               simp -implicitDefEqProofs [c2, q31, c4, q32, c7, q33, c10, q34, c13, q35, c16, q36, q38, pT29]
             obtain ⟨q39, q29⟩ | ⟨q39, rfl⟩ := gdT q29
             · exact absurd q39 (by simp)
             obtain ⟨q40, q30⟩ | ⟨q40, rfl⟩ := gdT q30
             · exact absurd q40 (by simp)
             simp -implicitDefEqProofs [c2, q31, c4, q32, c7, q33, c10, q34, c13, q35, q39, q40, pT29]
           obtain ⟨q41, q28⟩ | ⟨q41, rfl⟩ := gdT q28
           · exact absurd q41 (by simp)
           obtain ⟨q42, q29⟩ | ⟨q42, rfl⟩ := gdT q29
           · exact absurd q42 (by simp)
           obtain ⟨q43, q30⟩ | ⟨q43, rfl⟩ := gdT q30
           · exact absurd q43 (by simp)
           simp -implicitDefEqProofs [c2, q31, c4, q32, c7, q33, c10, q34, q41, q42, q43, pT29]
         obtain ⟨q44, q27⟩ | ⟨q44, rfl⟩ := gdT q27
         · exact absurd q44 (by simp)
         obtain ⟨q45, q28⟩ | ⟨q45, rfl⟩ := gdT q28
         · exact absurd q45 (by simp)
         obtain ⟨q46, q29⟩ | ⟨q46, rfl⟩ := gdT q29
         · exact absurd q46 (by simp)
         obtain ⟨q47, q30⟩ | ⟨q47, rfl⟩ := gdT q30
         · exact absurd q47 (by simp)
         simp -implicitDefEqProofs [c2, q31, c4, q32, c7, q33, q44, q45, q46, q47, pT29]
       obtain ⟨q48, q26⟩ | ⟨q48, rfl⟩ := gdT q26
       · exact absurd q48 (by simp)
       obtain ⟨q49, q27⟩ | ⟨q49, rfl⟩ := gdT q27
       · exact absurd q49 (by simp)
       obtain ⟨q50, q28⟩ | ⟨q50, rfl⟩ := gdT q28
       · exact absurd q50 (by simp)
       obtain ⟨q51, q29⟩ | ⟨q51, rfl⟩ := gdT q29
       · exact absurd q51 (by simp)
       obtain ⟨q52, q30⟩ | ⟨q52, rfl⟩ := gdT q30
       · exact absurd q52 (by simp)
       simp -implicitDefEqProofs [c2, q31, c4, q32, q48, q49, q50, q51, q52, pT29]
     obtain ⟨q53, q25⟩ | ⟨q53, rfl⟩ := gdT q25
     · exact absurd q53 (by simp)
     obtain ⟨q54, q26⟩ | ⟨q54, rfl⟩ := gdT q26
     · exact absurd q54 (by simp)
     obtain ⟨q55, q27⟩ | ⟨q55, rfl⟩ := gdT q27
     · exact absurd q55 (by simp)
     obtain ⟨q56, q28⟩ | ⟨q56, rfl⟩ := gdT q28
     · exact absurd q56 (by simp)
     obtain ⟨q57, q29⟩ | ⟨q57, rfl⟩ := gdT q29
     · exact absurd q57 (by simp)
     obtain ⟨q58, q30⟩ | ⟨q58, rfl⟩ := gdT q30
     · exact absurd q58 (by simp)
     simp -implicitDefEqProofs [c2, q31, q53, q54, q55, q56, q57, q58, pT29]) ?_
 obtain rfl := leafS h
 exact VW.ret (VRet.fin (by simp [eB55]))
theorem tl55 {s : T29} {r : Bool} (h : g55 s = some r) : F55 [.cptr [.sl 1 (rows ci_i64 s.need_), .sl 1 (rows ci_i64 s.price_), .i .i64 s.most_, .i .i64 s.yield_, .i .i64 s.store_, .i .i64 s.first_, .i .i64 s.loss_] 0] = some (.b r) := tells_eq inj55 (a := s) h
noncomputable def g39_j1 (s : T29) : Option (Bool) :=
some (((((((((leI 0 s.most_ && leI s.most_ 20) && leI 1 s.yield_) && leI s.yield_ 40) && leI 0 s.store_) && leI s.store_ 60) && leI 0 s.first_) && leI s.first_ s.store_) && leI 0 s.loss_) && leI s.loss_ 100)
noncomputable def g39_L1 (s : T29) : (Int) → Option ((Int) ⊕ ((Unit) ⊕ (Bool)))
| x_85 =>
if ltI x_85 (s.need_.length : Int) = true then
(idx s.need_ x_85).bind fun e87 =>
(if (ltI e87 0 || ltI 200 e87) = true then some true else (idx s.price_ x_85).bind fun e89 => some (ltI e89 0)).bind fun w91 =>
(if w91 = true then some true else (idx s.price_ x_85).bind fun e92 => some (ltI 1000 e92)).bind fun w94 =>
if w94 = true then
some (.inr (.inr false))
else
some (.inl (aI .i64 x_85 1))
else
some (.inr (.inl ()))
noncomputable def g39 (s : T29) : Option (Bool) :=
if ((ltI (s.need_.length : Int) 1 || ltI 24 (s.need_.length : Int)) || (!eqI (s.price_.length : Int) (s.need_.length : Int))) = true then
some false
else
(loopO (g39_L1 s) 0).bind fun w => match w with
| .inl y => g39_j1 s
| .inr r => some r
def eA39 (a : T29) : List V := [.agg (pT29 a)]
def eB39 (r : Bool) : V := .b r
theorem inj39 (a a' : T29) (h : eA39 a = eA39 a') : a = a' := by
  obtain ⟨i165, i166, i167, i168, i169, i170, i171⟩ := a
  obtain ⟨i172, i173, i174, i175, i176, i177, i178⟩ := a'
  simp only [eA39, pT29, List.cons.injEq, V.i.injEq, V.b.injEq, V.f.injEq, V.str.injEq, V.sl.injEq, V.agg.injEq, V.cptr.injEq, true_and, and_true] at h
  simp_all [ri ci_i64_inj]
noncomputable def F39 : List V → Option V := tells (fun a => g39 a) eA39 eB39
/- loop.example/g01229/impl.ValidSeason -/
theorem ok39 : Tells Tryd.prog 39 F39 := by
 refine Tells.go 106 Tryd.func39 rfl rfl rfl (by kernel_rfl) (fun _ => rfl) ?_
 rintro s r h
 simp only [eA39, en, Nat.reduceAdd]
 replace h : (g39 s).bind some = some r := bindS h
 rw [g39] at h
 have hC : CEnv.Ok Tryd.prog [] := trivial
 refine VW.seq (VW.rA (tm 106 [(1, .ptr 0 0 0)]) [some (7, [(pT29 s)])] [] hC (VW.seq (VW.rA (tm 106 [(1, .ptr 0 0 0), (3, .i .i64 (s.need_.length : Int))]) [some (7, [(pT29 s)])] [] hC (VW.seq (VW.seq (VW.rA (tm 106 [(1, .ptr 0 0 0), (3, .i .i64 (s.need_.length : Int)), (20, .b ((ltI (s.need_.length : Int) 1 || ltI 24 (s.need_.length : Int)) || (!eqI (s.price_.length : Int) (s.need_.length : Int))))]) [some (7, [(pT29 s)])] [] hC (VW.condI h (fun h => ?_) (fun h => ?_))))))))
 · refine VW.seq (VW.rA (tm 106 [(2, .b false)]) [some (7, [(pT29 s)])] [] hC ?_)
   obtain rfl := leafS h
   exact VW.ret (VRet.fin (by simp [eB39]))
 refine VW.skip (VW.join (fun (v : Unit) => (⟨(tm 106 [(1, .ptr 0 0 0)]), [some (7, [(pT29 s)])], []⟩ : VS)) (fun v => (g39_j1 s).bind some = some r) ?_ ?_)
 · refine VW.seq (VW.rA (tm 106 [(1, .ptr 0 0 0), (21, .i .i64 (s.need_.length : Int)), (22, .i .i64 0)]) [some (7, [(pT29 s)])] [] hC (VW.block ?_))
   obtain ⟨w_1, hw_1, h⟩ := bindE h
   refine VW.loopO (fun (x : Int) => (⟨(tm 106 [(1, .ptr 0 0 0), (21, .i .i64 (s.need_.length : Int)), (22, .i .i64 x)]), [some (7, [(pT29 s)])], []⟩ : VS)) hw_1 (Ent.tu 1) ?_
   rintro n_1 x_85 h1
   rw [g39_L1] at h1
   refine VW.seq (VW.rA (tm 106 [(1, .ptr 0 0 0), (21, .i .i64 (s.need_.length : Int)), (22, .i .i64 x_85), (23, .b (ltI x_85 (s.need_.length : Int)))]) [some (7, [(pT29 s)])] [] hC (VW.seq (VW.condJ h1 (fun h1 => ?_) (fun h1 => ?_))))
   · refine VW.exit ?_
     have e_ := leafR h1
     subst w_1
     exact vnext () h (Ent.tu 1)
   refine VW.skip (VW.seq (VW.block (VW.seq (VW.rA (tm 106 [(1, .ptr 0 0 0), (4, .i .i64 x_85), (21, .i .i64 (s.need_.length : Int)), (22, .i .i64 x_85)]) [some (7, [(pT29 s)])] [] hC (VW.seq ?_)))))
   obtain ⟨e87, ⟨f88a, f88b, f88c, f88d⟩, h1⟩ := bindI h1
   obtain ⟨w91, q96, h1⟩ := bindE h1
   obtain ⟨w94, q97, h1⟩ := bindE h1
   refine VW.evalA (tm 106 [(1, .ptr 0 0 0), (21, .i .i64 (s.need_.length : Int)), (22, .i .i64 x_85), (54, .b w94)]) [some (7, [(pT29 s)])] [] hC (by kernel_rfl) (by
       obtain ⟨q98, q96⟩ | ⟨q98, rfl⟩ := gdF q96
       · obtain ⟨e89, q90, q96⟩ := bindQ q96
         obtain ⟨f90a, f90b, f90c, f90d⟩ := idx_some q90
         obtain rfl := Option.some.inj q96
         obtain ⟨q99, q97⟩ | ⟨q99, rfl⟩ := gdF q97
         · obtain ⟨e92, q93, q97⟩ := bindQ q97
           have d100 : e92 = e89 := Option.some.inj (q93.symm.trans q90)
           obtain rfl := Option.some.inj q97
           simp -implicitDefEqProofs [f88a, f88b, f88c, f88d, q98, f90a, f90b, f90c, f90d, q99, d100, pT29]
         simp -implicitDefEqProofs [f88a, f88b, f88c, f88d, q98, f90a, f90b, f90c, f90d, q99, pT29]
       obtain ⟨q101, q97⟩ | ⟨q101, rfl⟩ := gdF q97
       · exact absurd q101 (by simp)
       simp -implicitDefEqProofs [f88a, f88b, f88c, f88d, q98, q101, pT29]) ?_
   refine VW.condI h1 (fun h1 => ?_) (fun h1 => ?_)
   · refine VW.seq (VW.rA (tm 106 [(2, .b false)]) [some (7, [(pT29 s)])] [] hC ?_)
     have e_ := leafR h1
     subst w_1
     obtain rfl := leafS h
     exact VW.ret (VRet.fin (by simp [eB39]))
   exact VW.skip (VW.rA (tm 106 [(1, .ptr 0 0 0), (21, .i .i64 (s.need_.length : Int)), (22, .i .i64 (aI .i64 x_85 1))]) [some (7, [(pT29 s)])] [] hC (vnext (aI .i64 x_85 1) (leafL h1) (Ent.tu 1)))
 rintro _ h
 replace h : (g39_j1 s).bind _ = _ := h
 rw [g39_j1] at h
 refine VW.seq (VW.rA (tm 106 [(2, .b (((((((((leI 0 s.most_ && leI s.most_ 20) && leI 1 s.yield_) && leI s.yield_ 40) && leI 0 s.store_) && leI s.store_ 60) && leI 0 s.first_) && leI s.first_ s.store_) && leI 0 s.loss_) && leI s.loss_ 100))]) [some (7, [(pT29 s)])] [] hC ?_ (h := by simp (maxSteps := 4000000) -implicitDefEqProofs [pT29]))
 obtain rfl := leafS h
 exact VW.ret (VRet.fin (by simp [eB39]))
theorem tl39 {s : T29} {r : Bool} (h : g39 s = some r) : F39 [.agg [.sl 1 (rows ci_i64 s.need_), .sl 1 (rows ci_i64 s.price_), .i .i64 s.most_, .i .i64 s.yield_, .i .i64 s.store_, .i .i64 s.first_, .i .i64 s.loss_]] = some (.b r) := tells_eq inj39 (a := s) h
noncomputable def g58_j1 (out_44 : ByteArray) : Option (ByteArray) :=
some out_44
noncomputable def g58_L1 (s : T29) : (ByteArray × Int) → Option ((ByteArray × Int) ⊕ (ByteArray))
| (out_69, x_70) =>
if ltI x_70 (s.need_.length : Int) = true then
(idx s.need_ x_70).bind fun e72 =>
(idx s.price_ x_70).bind fun e74 =>
(g53 [e72, e74]).bind fun r76 =>
(catS r76 (⟨#[10]⟩ : ByteArray)).bind fun z78 =>
(catS out_69 z78).bind fun z80 =>
some (.inl (z80, aI .i64 x_70 1))
else
some (.inr out_69)
noncomputable def g58 (s : T29) : Option (ByteArray) :=
(g53 [s.most_, s.yield_, s.store_, s.first_, s.loss_]).bind fun r1 =>
(catS (⟨#[115, 101, 97, 115, 111, 110, 32]⟩ : ByteArray) r1).bind fun z3 =>
(catS z3 (⟨#[10]⟩ : ByteArray)).bind fun z5 =>
(loopO (g58_L1 s) (z5, 0)).bind fun w => g58_j1 w
def eA58 (a : T29) : List V := [.agg (pT29 a)]
def eB58 (r : ByteArray) : V := .str r
theorem inj58 (a a' : T29) (h : eA58 a = eA58 a') : a = a' := by
  obtain ⟨i179, i180, i181, i182, i183, i184, i185⟩ := a
  obtain ⟨i186, i187, i188, i189, i190, i191, i192⟩ := a'
  simp only [eA58, pT29, List.cons.injEq, V.i.injEq, V.b.injEq, V.f.injEq, V.str.injEq, V.sl.injEq, V.agg.injEq, V.cptr.injEq, true_and, and_true] at h
  simp_all [ri ci_i64_inj]
noncomputable def F58 : List V → Option V := tells (fun a => g58 a) eA58 eB58
/- loop.example/g01229/impl.seasonText -/
theorem ok58 : Tells Tryd.prog 58 F58 := by
 refine Tells.go 41 Tryd.func58 rfl rfl rfl (by kernel_rfl) (fun _ => rfl) ?_
 rintro s r h
 simp only [eA58, en, Nat.reduceAdd]
 replace h : (g58 s).bind some = some r := bindS h
 rw [g58] at h
 have hC : CEnv.Ok Tryd.prog [(53, F53)] := ⟨.inl ok53, trivial⟩
 refine VW.seq (VW.rA (tm 41 [(1, .ptr 0 0 0)]) [some (7, [(pT29 s)])] [] hC (VW.seq ?_))
 obtain ⟨r1, q2, h⟩ := bindE h
 have c2 : F53 [.sl 1 [[.i .i64 s.most_], [.i .i64 s.yield_], [.i .i64 s.store_], [.i .i64 s.first_], [.i .i64 s.loss_]]] = some (.str r1) := tells_eq inj53 (a := [s.most_, s.yield_, s.store_, s.first_, s.loss_]) q2
 obtain ⟨z3, q4, h⟩ := bindE h
 obtain ⟨z5, q6, h⟩ := bindE h
 refine VW.rA (tm 41 [(1, .ptr 0 0 0), (3, .str z5)]) [some (7, [(pT29 s)]), some (1, rows ci_i64 [s.most_, s.yield_, s.store_, s.first_, s.loss_])] [] hC (VW.join (fun (v : ByteArray) => (⟨(tm 41 [(3, .str v)]), [some (7, [(pT29 s)]), some (1, rows ci_i64 [s.most_, s.yield_, s.store_, s.first_, s.loss_])], []⟩ : VS)) (fun v => (g58_j1 (v)).bind some = some r) ?_ ?_) (h := by simp -implicitDefEqProofs [c2, q4, q6])
 · refine VW.seq (VW.rA (tm 41 [(1, .ptr 0 0 0), (3, .str z5), (21, .sl 1 (rows ci_i64 s.need_)), (22, .i .i64 (s.need_.length : Int)), (23, .i .i64 0)]) [some (7, [(pT29 s)]), some (1, rows ci_i64 [s.most_, s.yield_, s.store_, s.first_, s.loss_])] [] hC (VW.block ?_))
   obtain ⟨w_1, hw_1, h⟩ := bindE h
   refine VW.loopO (fun (x : ByteArray × Int) => (⟨(tm 41 [(1, .ptr 0 0 0), (3, .str x.1), (21, .sl 1 (rows ci_i64 s.need_)), (22, .i .i64 (s.need_.length : Int)), (23, .i .i64 x.2)]), [some (7, [(pT29 s)]), some (1, rows ci_i64 [s.most_, s.yield_, s.store_, s.first_, s.loss_])], []⟩ : VS)) hw_1 (Ent.tu 2) ?_
   rintro n_1 ⟨out_69, x_70⟩ h1
   rw [g58_L1] at h1
   refine VW.seq (VW.rA (tm 41 [(1, .ptr 0 0 0), (3, .str out_69), (21, .sl 1 (rows ci_i64 s.need_)), (22, .i .i64 (s.need_.length : Int)), (23, .i .i64 x_70), (24, .b (ltI x_70 (s.need_.length : Int)))]) [some (7, [(pT29 s)]), some (1, rows ci_i64 [s.most_, s.yield_, s.store_, s.first_, s.loss_])] [] hC (VW.seq (VW.condJ h1 (fun h1 => ?_) (fun h1 => ?_))))
   · refine VW.exit ?_
     have e_ := leafR h1
     subst w_1
     exact vnext out_69 h (Ent.tu 2)
   refine VW.skip (VW.seq (VW.block (VW.seq ?_)))
   obtain ⟨e72, ⟨f73a, f73b, f73c, f73d⟩, h1⟩ := bindI h1
   refine VW.rA (tm 41 [(1, .ptr 0 0 0), (3, .str out_69), (4, .i .i64 x_70), (5, .i .i64 e72), (21, .sl 1 (rows ci_i64 s.need_)), (22, .i .i64 (s.need_.length : Int)), (23, .i .i64 x_70)]) [some (7, [(pT29 s)]), some (1, rows ci_i64 [s.most_, s.yield_, s.store_, s.first_, s.loss_])] [] hC ?_ (h := by simp -implicitDefEqProofs [f73a, f73b, f73c, f73d])
   obtain ⟨e74, ⟨f75a, f75b, f75c, f75d⟩, h1⟩ := bindI h1
   obtain ⟨r76, q77, h1⟩ := bindE h1
   have c77 : F53 [.sl 1 [[.i .i64 e72], [.i .i64 e74]]] = some (.str r76) := tells_eq inj53 (a := [e72, e74]) q77
   obtain ⟨z78, q79, h1⟩ := bindE h1
   obtain ⟨z80, q81, h1⟩ := bindE h1
   exact VW.rA (tm 41 [(1, .ptr 0 0 0), (3, .str z80), (21, .sl 1 (rows ci_i64 s.need_)), (22, .i .i64 (s.need_.length : Int)), (23, .i .i64 x_70)]) [some (7, [(pT29 s)]), some (1, rows ci_i64 [s.most_, s.yield_, s.store_, s.first_, s.loss_]), some (1, rows ci_i64 [e72, e74])] [] hC (VW.rA (tm 41 [(1, .ptr 0 0 0), (3, .str z80), (21, .sl 1 (rows ci_i64 s.need_)), (22, .i .i64 (s.need_.length : Int)), (23, .i .i64 (aI .i64 x_70 1))]) [some (7, [(pT29 s)]), some (1, rows ci_i64 [s.most_, s.yield_, s.store_, s.first_, s.loss_]), some (1, rows ci_i64 [e72, e74])] [] hC (vnext (z80, aI .i64 x_70 1) (leafL h1) (Ent.tu 2))) (h := by simp -implicitDefEqProofs [f75a, f75b, f75c, f75d, c77, q79, q81])
 rintro out_44 h
 replace h : (g58_j1 out_44).bind _ = _ := h
 rw [g58_j1] at h
 refine VW.seq (VW.rA (tm 41 [(2, .str out_44)]) [some (7, [(pT29 s)]), some (1, rows ci_i64 [s.most_, s.yield_, s.store_, s.first_, s.loss_])] [] hC ?_)
 obtain rfl := leafS h
 exact VW.ret (VRet.fin (by simp [eB58]))
theorem tl58 {s : T29} {r : ByteArray} (h : g58 s = some r) : F58 [.agg [.sl 1 (rows ci_i64 s.need_), .sl 1 (rows ci_i64 s.price_), .i .i64 s.most_, .i .i64 s.yield_, .i .i64 s.store_, .i .i64 s.first_, .i .i64 s.loss_]] = some (.str r) := tells_eq inj58 (a := s) h
noncomputable def g74 (text : ByteArray) : Option ((List ByteArray) × Bool) :=
if eqS text ByteArray.empty = true then
some ([], true)
else
(g99 text (⟨#[10]⟩ : ByteArray)).bind fun r2 =>
(cutK 0 (sI .i64 (r2.length : Int) 1) r2.length).bind fun u4 =>
(idx r2 (sI .i64 (r2.length : Int) 1)).bind fun e6 =>
some ((r2.take ((sI .i64 (r2.length : Int) 1).toNat)), eqS e6 ByteArray.empty)
def eA74 (a : ByteArray) : List V := [.str a]
def eB74 (r : (List ByteArray) × Bool) : V := .tup [.own 1 (rows cs_ r.1), .b r.2]
theorem inj74 (a a' : ByteArray) (h : eA74 a = eA74 a') : a = a' := by
  obtain i193 := a
  obtain i194 := a'
  simp only [eA74, List.cons.injEq, V.i.injEq, V.b.injEq, V.f.injEq, V.str.injEq, V.sl.injEq, V.agg.injEq, V.cptr.injEq, true_and, and_true] at h
  simp_all
noncomputable def F74 : List V → Option V := tells (fun a => g74 a) eA74 eB74
/- loop.example/g01229/impl.linesOf -/
theorem ok74 : Tells Tryd.prog 74 F74 := by
 refine Tells.go 21 Tryd.func74 rfl rfl rfl (by kernel_rfl) (fun _ => rfl) ?_
 rintro text r h
 simp only [eA74, en, Nat.reduceAdd]
 replace h : (g74 text).bind some = some r := bindS h
 rw [g74] at h
 have hC : CEnv.Ok Tryd.prog [(99, F99)] := ⟨.inl ok99, trivial⟩
 refine VW.seq (VW.rA (tm 21 [(0, .str text)]) [] [] hC (VW.seq (VW.seq (VW.rA (tm 21 [(0, .str text), (7, .b (eqS text ByteArray.empty))]) [] [] hC (VW.condI h (fun h => ?_) (fun h => ?_))))))
 · refine VW.seq (VW.rA (tm 21 [(2, .nil), (3, .b true)]) [] [] hC ?_)
   obtain rfl := leafS h
   exact VW.ret (VRet.fin (by simp [eB74]))
 refine VW.skip (VW.seq ?_)
 obtain ⟨r2, q3, h⟩ := bindE h
 have c3 := tl99 q3
 refine VW.rA (tm 21 [(4, .ref 0 0 r2.length)]) [some (1, rows cs_ r2)] [] hC (VW.seq (VW.rA (tm 21 [(4, .ref 0 0 r2.length), (5, .i .i64 (sI .i64 (r2.length : Int) 1))]) [some (1, rows cs_ r2)] [] hC (VW.seq ?_))) (h := by simp -implicitDefEqProofs [c3])
 obtain ⟨u4, ⟨f5a, f5b, f5c, f5d, f5e⟩, h⟩ := bindC h
 try simp only [Int.toNat_natCast, Int.reduceToNat, List.length_cons, List.length_nil, Nat.reduceAdd, Nat.zero_add] at f5a f5b f5c f5d f5e
 obtain ⟨e6, ⟨f7a, f7b, f7c, f7d⟩, h⟩ := bindI h
 try simp only [Int.toNat_natCast, Int.reduceToNat] at f7a f7b f7c f7d
 refine VW.rD (tm 21 [(2, .ref 0 0 ((sI .i64 (r2.length : Int) 1).toNat)), (3, .b (eqS e6 ByteArray.empty))]) [some (1, rows cs_ r2)] [] hC mixed ?_ (h := by simp -implicitDefEqProofs [f5a, f5b, f5c, f5d, f5e, f7a, f7b, f7c, f7d])
 obtain rfl := leafS h
 refine VW.ret (VRet.fin ?_)
 simp [eB74, *]
theorem tl74 {text : ByteArray} {r : (List ByteArray) × Bool} (h : g74 text = some r) : F74 [.str text] = some (.tup [.own 1 (rows cs_ r.1), .b r.2]) := tells_eq inj74 (a := text) h
noncomputable def g27_j2 (r15 : Int × T129) (r17 : Int × T129) (r19 : Int × T129) (r21 : Int × T129) (r23 : Int × T129) (text : ByteArray) (fine_97 : Bool) (l98 : List Int) (l99 : List Int) : Option (T29 × Int) :=
(if (!fine_97) = true then some true else (g39 (⟨l98, l99, r15.1, r17.1, r19.1, r21.1, r23.1⟩ : T29)).bind fun r100 => some (!r100)).bind fun w102 =>
(if w102 = true then some true else (g58 (⟨l98, l99, r15.1, r17.1, r19.1, r21.1, r23.1⟩ : T29)).bind fun r103 => some (!eqS r103 text)).bind fun w105 =>
if w105 = true then
some ((⟨[], [], 0, 0, 0, 0, 0⟩ : T29), 5)
else
some ((⟨l98, l99, r15.1, r17.1, r19.1, r21.1, r23.1⟩ : T29), 0)
noncomputable def g27_L1 (r1 : (List ByteArray) × Bool) : (Bool × Int × (List Int) × (List Int)) → Option ((Bool × Int × (List Int) × (List Int)) ⊕ (Bool × (List Int) × (List Int)))
| (fine_158, x_159, l160, l161) =>
if ltI x_159 ((r1.1.tail).length : Int) = true then
(idx (r1.1.tail) x_159).bind fun e163 =>
(g99 e163 (⟨#[32]⟩ : ByteArray)).bind fun r167 =>
(g70 (⟨r167, false⟩ : T129)).bind fun r169 =>
(appK 8 l160 [r169.1]).bind fun u171 =>
(g70 r169.2).bind fun r173 =>
(appK 8 l161 [r173.1]).bind fun u175 =>
(if fine_158 = true then (g71 r173.2).bind fun r177 => some r177 else some false).bind fun w179 =>
some (.inl (w179, aI .i64 x_159 1, (l160 ++ [r169.1]), (l161 ++ [r173.1])))
else
some (.inr (fine_158, l160, l161))
noncomputable def g27_j1 (r1 : (List ByteArray) × Bool) (text : ByteArray) (y13 : List ByteArray) (y14 : Bool) : Option (T29 × Int) :=
(g70 (⟨y13, y14⟩ : T129)).bind fun r15 =>
(g70 r15.2).bind fun r17 =>
(g70 r17.2).bind fun r19 =>
(g70 r19.2).bind fun r21 =>
(g70 r21.2).bind fun r23 =>
(g71 r23.2).bind fun r25 =>
(cutK 1 (r1.1.length : Int) r1.1.length).bind fun u112 =>
(loopO (g27_L1 r1) (r25, 0, [], [])).bind fun w => g27_j2 r15 r17 r19 r21 r23 text w.1 w.2.1 w.2.2
noncomputable def g27 (text : ByteArray) : Option (T29 × Int) :=
(g74 text).bind fun r1 =>
if (((!r1.2) || ltI (r1.1.length : Int) 1) || ltI 25 (r1.1.length : Int)) = true then
some ((⟨[], [], 0, 0, 0, 0, 0⟩ : T29), 5)
else
(idx r1.1 0).bind fun e4 =>
(g99 e4 (⟨#[32]⟩ : ByteArray)).bind fun r8 =>
(g69 (⟨r8, false⟩ : T129)).bind fun r182 =>
if (!eqS r182.1 (⟨#[115, 101, 97, 115, 111, 110]⟩ : ByteArray)) = true then
g27_j1 r1 text r182.2.list_ true
else
g27_j1 r1 text r182.2.list_ r182.2.bad_
def eA27 (a : ByteArray) : List V := [.str a]
def eB27 (r : T29 × Int) : V := .tup [.agg [.own 1 (rows ci_i64 r.1.need_), .own 1 (rows ci_i64 r.1.price_), .i .i64 r.1.most_, .i .i64 r.1.yield_, .i .i64 r.1.store_, .i .i64 r.1.first_, .i .i64 r.1.loss_], .i .i64 r.2]
theorem inj27 (a a' : ByteArray) (h : eA27 a = eA27 a') : a = a' := by
  obtain i195 := a
  obtain i196 := a'
  simp only [eA27, List.cons.injEq, V.i.injEq, V.b.injEq, V.f.injEq, V.str.injEq, V.sl.injEq, V.agg.injEq, V.cptr.injEq, true_and, and_true] at h
  simp_all
noncomputable def F27 : List V → Option V := tells (fun a => g27 a) eA27 eB27
/- loop.example/g01229/impl.ReadSeason -/
theorem ok27 : Tells Tryd.prog 27 F27 := by
 refine Tells.go 98 Tryd.func27 rfl rfl rfl (by kernel_rfl) (fun _ => rfl) ?_
 rintro text r h
 simp only [eA27, en, Nat.reduceAdd]
 replace h : (g27 text).bind some = some r := bindS h
 rw [g27] at h
 have hC : CEnv.Ok Tryd.prog [(39, F39), (58, F58), (71, F71), (74, fzF F74), (99, fzF F99)] := ⟨.inl ok39, .inl ok58, .inl ok71, .inl ok74.fz, .inl ok99.fz, trivial⟩
 refine VW.seq (VW.rE (tm 98 [(0, .str text), (2, .ptr 0 0 0)]) [some (7, [[.nil, .nil, .i .i64 0, .i .i64 0, .i .i64 0, .i .i64 0, .i .i64 0]])] [] hC (Ent.trans (Ent.nilref (m := [some (7, [[.nil, .nil, .i .i64 0, .i .i64 0, .i .i64 0, .i .i64 0, .i .i64 0]])]) 0 1 [some (7, [[.ref 1 0 0, .nil, .i .i64 0, .i .i64 0, .i .i64 0, .i .i64 0, .i .i64 0]]), some (1, rows ci_i64 [])] rfl (by simp) rfl) (Ent.nilref (m := [some (7, [[.ref 1 0 0, .nil, .i .i64 0, .i .i64 0, .i .i64 0, .i .i64 0, .i .i64 0]]), some (1, rows ci_i64 [])]) 0 1 [some (7, [[.ref 1 0 0, .ref 2 0 0, .i .i64 0, .i .i64 0, .i .i64 0, .i .i64 0, .i .i64 0]]), some (1, rows ci_i64 []), some (1, rows ci_i64 [])] rfl (by simp) rfl) ) (VW.seq ?_))
 obtain ⟨r1, q2, h⟩ := bindE h
 have c2 := tl74 q2
 replace c2 : fzF F74 [.str text] = some (.tup [.sl 1 (rows cs_ r1.1), .b r1.2]) := (fzF_eq c2).trans (by simp)
 refine VW.rA (tm 98 [(0, .str text), (2, .ptr 0 0 0), (4, .sl 1 (rows cs_ r1.1)), (5, .b r1.2)]) [some (7, [[.ref 1 0 0, .ref 2 0 0, .i .i64 0, .i .i64 0, .i .i64 0, .i .i64 0, .i .i64 0]]), some (1, rows ci_i64 []), some (1, rows ci_i64 [])] [] hC (VW.seq (VW.seq (VW.rA (tm 98 [(0, .str text), (2, .ptr 0 0 0), (4, .sl 1 (rows cs_ r1.1)), (28, .b (((!r1.2) || ltI (r1.1.length : Int) 1) || ltI 25 (r1.1.length : Int)))]) [some (7, [[.ref 1 0 0, .ref 2 0 0, .i .i64 0, .i .i64 0, .i .i64 0, .i .i64 0, .i .i64 0]]), some (1, rows ci_i64 []), some (1, rows ci_i64 [])] [] hC (VW.condI h (fun h => ?_) (fun h => ?_))))) (h := by simp -implicitDefEqProofs [c2])
 · refine VW.seq (VW.rE (tm 98 [(2, .ptr 0 0 0), (3, .i .i64 5)]) [some (7, [[.nil, .nil, .i .i64 0, .i .i64 0, .i .i64 0, .i .i64 0, .i .i64 0]]), some (1, rows ci_i64 []), some (1, rows ci_i64 [])] [] hC (Ent.trans (Ent.nilref (m := [some (7, [[.nil, .nil, .i .i64 0, .i .i64 0, .i .i64 0, .i .i64 0, .i .i64 0]]), some (1, rows ci_i64 []), some (1, rows ci_i64 [])]) 0 1 [some (7, [[.ref 3 0 0, .nil, .i .i64 0, .i .i64 0, .i .i64 0, .i .i64 0, .i .i64 0]]), some (1, rows ci_i64 []), some (1, rows ci_i64 []), some (1, rows ci_i64 [])] rfl (by simp) rfl) (Ent.nilref (m := [some (7, [[.ref 3 0 0, .nil, .i .i64 0, .i .i64 0, .i .i64 0, .i .i64 0, .i .i64 0]]), some (1, rows ci_i64 []), some (1, rows ci_i64 []), some (1, rows ci_i64 [])]) 0 1 [some (7, [[.ref 3 0 0, .ref 4 0 0, .i .i64 0, .i .i64 0, .i .i64 0, .i .i64 0, .i .i64 0]]), some (1, rows ci_i64 []), some (1, rows ci_i64 []), some (1, rows ci_i64 []), some (1, rows ci_i64 [])] rfl (by simp) rfl) ) ?_)
   obtain rfl := leafS h
   exact VW.ret (VRet.fin (by simp [eB27]))
 refine VW.skip (VW.seq (VW.inlS ?_))
 obtain ⟨e4, ⟨f5a, f5b, f5c, f5d⟩, h⟩ := bindI h
 try simp only [Int.toNat_natCast, Int.reduceToNat] at f5a f5b f5c f5d
 refine VL.inlP 3 (tm 98 [(0, .str text), (2, .ptr 0 0 0), (4, .sl 1 (rows cs_ r1.1)), (32, .str e4)]) [some (7, [[.ref 1 0 0, .ref 2 0 0, .i .i64 0, .i .i64 0, .i .i64 0, .i .i64 0, .i .i64 0]]), some (1, rows ci_i64 []), some (1, rows ci_i64 [])] [] rfl hC (by kernel_rfl) (by simp -implicitDefEqProofs [f5a, f5b, f5c, f5d]) rfl rfl Tryd.func67 rfl rfl rfl rfl (tm_length) (VW.ent (s := (⟨(tm 7 [(0, .str e4)]), [some (7, [[.ref 1 0 0, .ref 2 0 0, .i .i64 0, .i .i64 0, .i .i64 0, .i .i64 0, .i .i64 0]]), some (1, rows ci_i64 []), some (1, rows ci_i64 [])], ((tm 98 [(0, .str text), (2, .ptr 0 0 0), (4, .sl 1 (rows cs_ r1.1)), (32, .str e4)]) ++ [])⟩ : VS)) (Ent.eqs (by rw [tm_init]; simp) rfl (by simp)) (VW.seq (VW.rA (tm 7 [(0, .str e4)]) [some (7, [[.ref 1 0 0, .ref 2 0 0, .i .i64 0, .i .i64 0, .i .i64 0, .i .i64 0, .i .i64 0]]), some (1, rows ci_i64 []), some (1, rows ci_i64 [])] ((tm 98 [(0, .str text), (2, .ptr 0 0 0), (4, .sl 1 (rows cs_ r1.1)), (32, .str e4)]) ++ []) hC (VW.seq ?_))))
 obtain ⟨r8, q9, h⟩ := bindE h
 have c9 := tl99 q9
 replace c9 : fzF F99 [.str e4, .str (⟨#[32]⟩ : ByteArray)] = some (.sl 1 (rows cs_ r8)) := (fzF_eq c9).trans (by simp)
 refine VW.rA (tm 7 [(2, .ptr 3 0 0)]) [some (7, [[.ref 1 0 0, .ref 2 0 0, .i .i64 0, .i .i64 0, .i .i64 0, .i .i64 0, .i .i64 0]]), some (1, rows ci_i64 []), some (1, rows ci_i64 []), some (2, [[.sl 1 (rows cs_ r8), .b false]])] ((tm 98 [(0, .str text), (2, .ptr 0 0 0), (4, .sl 1 (rows cs_ r1.1)), (32, .str e4)]) ++ []) hC (VW.ret (VIn.ret (v := .ptr 3 0 0) (by simp) (VL.evalP (tm 98 [(0, .str text), (2, .ptr 0 0 0), (4, .sl 1 (rows cs_ r1.1)), (6, .ptr 3 0 0), (7, .ptr 4 0 0)]) [some (7, [[.ref 1 0 0, .ref 2 0 0, .i .i64 0, .i .i64 0, .i .i64 0, .i .i64 0, .i .i64 0]]), some (1, rows ci_i64 []), some (1, rows ci_i64 []), some (2, [[.sl 1 (rows cs_ r8), .b false]]), some (7, [[.nil, .nil, .i .i64 0, .i .i64 0, .i .i64 0, .i .i64 0, .i .i64 0]])] [] hC (by kernel_rfl) (by simp -implicitDefEqProofs) (VW.seq (VW.inlS (VL.inlJ 1 (tm 98 [(0, .str text), (2, .ptr 0 0 0), (4, .sl 1 (rows cs_ r1.1)), (6, .ptr 3 0 0), (7, .ptr 4 0 0), (35, .ptr 3 0 0)]) [some (7, [[.ref 1 0 0, .ref 2 0 0, .i .i64 0, .i .i64 0, .i .i64 0, .i .i64 0, .i .i64 0]]), some (1, rows ci_i64 []), some (1, rows ci_i64 []), some (2, [[.sl 1 (rows cs_ r8), .b false]]), some (7, [[.nil, .nil, .i .i64 0, .i .i64 0, .i .i64 0, .i .i64 0, .i .i64 0]])] [] rfl hC (by kernel_rfl) (by simp -implicitDefEqProofs) rfl rfl Tryd.func75 rfl rfl rfl rfl (tm_length) (fun (v : (List ByteArray) × Bool) => (⟨(tm 98 [(0, .str text), (2, .ptr 0 0 0), (4, .sl 1 (rows cs_ r1.1)), (6, .ptr 3 0 0), (7, .ptr 4 0 0)]), [some (7, [[.ref 1 0 0, .ref 2 0 0, .i .i64 0, .i .i64 0, .i .i64 0, .i .i64 0, .i .i64 0]]), some (1, rows ci_i64 []), some (1, rows ci_i64 []), some (2, [[.sl 1 (rows cs_ v.1), .b v.2]]), some (7, [[.ref 5 0 0, .ref 6 0 0, .i .i64 0, .i .i64 0, .i .i64 0, .i .i64 0, .i .i64 0]]), some (1, rows ci_i64 []), some (1, rows ci_i64 [])], []⟩ : VS)) (fun v => (g27_j1 r1 text (v.1) (v.2)).bind some = some r) ?_ ?_)))))) (h := by simp -implicitDefEqProofs [c9])
 · refine VW.ent (s := (⟨(tm 11 [(0, .ptr 3 0 0), (1, .str (⟨#[115, 101, 97, 115, 111, 110]⟩ : ByteArray))]), [some (7, [[.ref 1 0 0, .ref 2 0 0, .i .i64 0, .i .i64 0, .i .i64 0, .i .i64 0, .i .i64 0]]), some (1, rows ci_i64 []), some (1, rows ci_i64 []), some (2, [[.sl 1 (rows cs_ r8), .b false]]), some (7, [[.nil, .nil, .i .i64 0, .i .i64 0, .i .i64 0, .i .i64 0, .i .i64 0]])], ((tm 98 [(0, .str text), (2, .ptr 0 0 0), (4, .sl 1 (rows cs_ r1.1)), (6, .ptr 3 0 0), (7, .ptr 4 0 0), (35, .ptr 3 0 0)]) ++ [])⟩ : VS)) (Ent.eqs (by rw [tm_init]; simp) rfl (by simp)) (VW.seq ?_)
   obtain ⟨r182, q183, h⟩ := bindE h
   have c183 : F69 [.agg [.sl 1 (rows cs_ r8), .b false]] = some (.tup [.str r182.1, .agg [.sl 1 (rows cs_ r182.2.list_), .b r182.2.bad_]]) := tells_eq inj69 (a := (⟨r8, false⟩ : T129)) q183
   refine VW.evalM (CM := [(69, F69), (70, F70)]) (tm 11 [(0, .ptr 3 0 0), (7, .b (!eqS r182.1 (⟨#[115, 101, 97, 115, 111, 110]⟩ : ByteArray)))]) [some (7, [[.ref 1 0 0, .ref 2 0 0, .i .i64 0, .i .i64 0, .i .i64 0, .i .i64 0, .i .i64 0]]), some (1, rows ci_i64 []), some (1, rows ci_i64 []), some (2, [[.sl 1 (rows cs_ r182.2.list_), .b r182.2.bad_]]), some (7, [[.nil, .nil, .i .i64 0, .i .i64 0, .i .i64 0, .i .i64 0, .i .i64 0]])] ((tm 98 [(0, .str text), (2, .ptr 0 0 0), (4, .sl 1 (rows cs_ r1.1)), (6, .ptr 3 0 0), (7, .ptr 4 0 0), (35, .ptr 3 0 0)]) ++ []) hC ⟨ok69, ok70, trivial⟩ (by simp -implicitDefEqProofs [c183]) (VW.ent (Ent.nilref (m := [some (7, [[.ref 1 0 0, .ref 2 0 0, .i .i64 0, .i .i64 0, .i .i64 0, .i .i64 0, .i .i64 0]]), some (1, rows ci_i64 []), some (1, rows ci_i64 []), some (2, [[.sl 1 (rows cs_ r182.2.list_), .b r182.2.bad_]]), some (7, [[.nil, .nil, .i .i64 0, .i .i64 0, .i .i64 0, .i .i64 0, .i .i64 0]])]) 4 1 [some (7, [[.ref 1 0 0, .ref 2 0 0, .i .i64 0, .i .i64 0, .i .i64 0, .i .i64 0, .i .i64 0]]), some (1, rows ci_i64 []), some (1, rows ci_i64 []), some (2, [[.sl 1 (rows cs_ r182.2.list_), .b r182.2.bad_]]), some (7, [[.ref 5 0 0, .nil, .i .i64 0, .i .i64 0, .i .i64 0, .i .i64 0, .i .i64 0]]), some (1, rows ci_i64 [])] rfl (by simp) rfl) (VW.ent (Ent.nilref (m := [some (7, [[.ref 1 0 0, .ref 2 0 0, .i .i64 0, .i .i64 0, .i .i64 0, .i .i64 0, .i .i64 0]]), some (1, rows ci_i64 []), some (1, rows ci_i64 []), some (2, [[.sl 1 (rows cs_ r182.2.list_), .b r182.2.bad_]]), some (7, [[.ref 5 0 0, .nil, .i .i64 0, .i .i64 0, .i .i64 0, .i .i64 0, .i .i64 0]]), some (1, rows ci_i64 [])]) 4 1 [some (7, [[.ref 1 0 0, .ref 2 0 0, .i .i64 0, .i .i64 0, .i .i64 0, .i .i64 0, .i .i64 0]]), some (1, rows ci_i64 []), some (1, rows ci_i64 []), some (2, [[.sl 1 (rows cs_ r182.2.list_), .b r182.2.bad_]]), some (7, [[.ref 5 0 0, .ref 6 0 0, .i .i64 0, .i .i64 0, .i .i64 0, .i .i64 0, .i .i64 0]]), some (1, rows ci_i64 []), some (1, rows ci_i64 [])] rfl (by simp) rfl) (VW.condJ h (fun h => ?_) (fun h => ?_))))
   · exact VW.skip ((VInJ.retL (.tup []) (r182.2.list_, r182.2.bad_) (tm 98 [(0, .str text), (2, .ptr 0 0 0), (4, .sl 1 (rows cs_ r1.1)), (6, .ptr 3 0 0), (7, .ptr 4 0 0)]) (by simp) h (by simp) [] (by simp) (Ent.tu 7)))
   exact VW.rA (tm 11 []) [some (7, [[.ref 1 0 0, .ref 2 0 0, .i .i64 0, .i .i64 0, .i .i64 0, .i .i64 0, .i .i64 0]]), some (1, rows ci_i64 []), some (1, rows ci_i64 []), some (2, [[.sl 1 (rows cs_ r182.2.list_), .b true]]), some (7, [[.ref 5 0 0, .ref 6 0 0, .i .i64 0, .i .i64 0, .i .i64 0, .i .i64 0, .i .i64 0]]), some (1, rows ci_i64 []), some (1, rows ci_i64 [])] ((tm 98 [(0, .str text), (2, .ptr 0 0 0), (4, .sl 1 (rows cs_ r1.1)), (6, .ptr 3 0 0), (7, .ptr 4 0 0), (35, .ptr 3 0 0)]) ++ []) hC ((VInJ.retL (.tup []) (r182.2.list_, true) (tm 98 [(0, .str text), (2, .ptr 0 0 0), (4, .sl 1 (rows cs_ r1.1)), (6, .ptr 3 0 0), (7, .ptr 4 0 0)]) (by simp) h (by simp) [] (by simp) (Ent.tu 7)))
 rintro ⟨y13, y14⟩ h
 replace h : (g27_j1 r1 text y13 y14).bind _ = _ := h
 rw [g27_j1] at h
 refine VL.evalP (tm 98 [(0, .str text), (2, .ptr 0 0 0), (4, .sl 1 (rows cs_ r1.1)), (6, .ptr 3 0 0), (7, .ptr 4 0 0)]) [some (7, [[.ref 1 0 0, .ref 2 0 0, .i .i64 0, .i .i64 0, .i .i64 0, .i .i64 0, .i .i64 0]]), some (1, rows ci_i64 []), some (1, rows ci_i64 []), some (2, [[.sl 1 (rows cs_ y13), .b y14]]), some (7, [[.ref 5 0 0, .ref 6 0 0, .i .i64 0, .i .i64 0, .i .i64 0, .i .i64 0, .i .i64 0]]), some (1, rows ci_i64 []), some (1, rows ci_i64 [])] [] hC (by kernel_rfl) (by simp -implicitDefEqProofs) (VW.seq ?_)
 obtain ⟨r15, q16, h⟩ := bindE h
 have c16 : F70 [.agg [.sl 1 (rows cs_ y13), .b y14]] = some (.tup [.i .i64 r15.1, .agg [.sl 1 (rows cs_ r15.2.list_), .b r15.2.bad_]]) := tells_eq inj70 (a := (⟨y13, y14⟩ : T129)) q16
 refine VW.evalM (CM := [(69, F69), (70, F70)]) (tm 98 [(0, .str text), (2, .ptr 0 0 0), (4, .sl 1 (rows cs_ r1.1)), (6, .ptr 3 0 0), (7, .ptr 4 0 0)]) [some (7, [[.ref 1 0 0, .ref 2 0 0, .i .i64 0, .i .i64 0, .i .i64 0, .i .i64 0, .i .i64 0]]), some (1, rows ci_i64 []), some (1, rows ci_i64 []), some (2, [[.sl 1 (rows cs_ r15.2.list_), .b r15.2.bad_]]), some (7, [[.ref 5 0 0, .ref 6 0 0, .i .i64 r15.1, .i .i64 0, .i .i64 0, .i .i64 0, .i .i64 0]]), some (1, rows ci_i64 []), some (1, rows ci_i64 [])] [] hC ⟨ok69, ok70, trivial⟩ (by simp -implicitDefEqProofs [c16]) (VW.seq ?_)
 obtain ⟨r17, q18, h⟩ := bindE h
 have c18 : F70 [.agg [.sl 1 (rows cs_ r15.2.list_), .b r15.2.bad_]] = some (.tup [.i .i64 r17.1, .agg [.sl 1 (rows cs_ r17.2.list_), .b r17.2.bad_]]) := tells_eq inj70 (a := r15.2) q18
 refine VW.evalM (CM := [(69, F69), (70, F70)]) (tm 98 [(0, .str text), (2, .ptr 0 0 0), (4, .sl 1 (rows cs_ r1.1)), (6, .ptr 3 0 0), (7, .ptr 4 0 0)]) [some (7, [[.ref 1 0 0, .ref 2 0 0, .i .i64 0, .i .i64 0, .i .i64 0, .i .i64 0, .i .i64 0]]), some (1, rows ci_i64 []), some (1, rows ci_i64 []), some (2, [[.sl 1 (rows cs_ r17.2.list_), .b r17.2.bad_]]), some (7, [[.ref 5 0 0, .ref 6 0 0, .i .i64 r15.1, .i .i64 r17.1, .i .i64 0, .i .i64 0, .i .i64 0]]), some (1, rows ci_i64 []), some (1, rows ci_i64 [])] [] hC ⟨ok69, ok70, trivial⟩ (by simp -implicitDefEqProofs [c18]) (VW.seq ?_)
 obtain ⟨r19, q20, h⟩ := bindE h
 have c20 : F70 [.agg [.sl 1 (rows cs_ r17.2.list_), .b r17.2.bad_]] = some (.tup [.i .i64 r19.1, .agg [.sl 1 (rows cs_ r19.2.list_), .b r19.2.bad_]]) := tells_eq inj70 (a := r17.2) q20
 refine VW.evalM (CM := [(69, F69), (70, F70)]) (tm 98 [(0, .str text), (2, .ptr 0 0 0), (4, .sl 1 (rows cs_ r1.1)), (6, .ptr 3 0 0), (7, .ptr 4 0 0)]) [some (7, [[.ref 1 0 0, .ref 2 0 0, .i .i64 0, .i .i64 0, .i .i64 0, .i .i64 0, .i .i64 0]]), some (1, rows ci_i64 []), some (1, rows ci_i64 []), some (2, [[.sl 1 (rows cs_ r19.2.list_), .b r19.2.bad_]]), some (7, [[.ref 5 0 0, .ref 6 0 0, .i .i64 r15.1, .i .i64 r17.1, .i .i64 r19.1, .i .i64 0, .i .i64 0]]), some (1, rows ci_i64 []), some (1, rows ci_i64 [])] [] hC ⟨ok69, ok70, trivial⟩ (by simp -implicitDefEqProofs [c20]) (VW.seq ?_)
 obtain ⟨r21, q22, h⟩ := bindE h
 have c22 : F70 [.agg [.sl 1 (rows cs_ r19.2.list_), .b r19.2.bad_]] = some (.tup [.i .i64 r21.1, .agg [.sl 1 (rows cs_ r21.2.list_), .b r21.2.bad_]]) := tells_eq inj70 (a := r19.2) q22
 refine VW.evalM (CM := [(69, F69), (70, F70)]) (tm 98 [(0, .str text), (2, .ptr 0 0 0), (4, .sl 1 (rows cs_ r1.1)), (6, .ptr 3 0 0), (7, .ptr 4 0 0)]) [some (7, [[.ref 1 0 0, .ref 2 0 0, .i .i64 0, .i .i64 0, .i .i64 0, .i .i64 0, .i .i64 0]]), some (1, rows ci_i64 []), some (1, rows ci_i64 []), some (2, [[.sl 1 (rows cs_ r21.2.list_), .b r21.2.bad_]]), some (7, [[.ref 5 0 0, .ref 6 0 0, .i .i64 r15.1, .i .i64 r17.1, .i .i64 r19.1, .i .i64 r21.1, .i .i64 0]]), some (1, rows ci_i64 []), some (1, rows ci_i64 [])] [] hC ⟨ok69, ok70, trivial⟩ (by simp -implicitDefEqProofs [c22]) (VW.seq ?_)
 obtain ⟨r23, q24, h⟩ := bindE h
 have c24 : F70 [.agg [.sl 1 (rows cs_ r21.2.list_), .b r21.2.bad_]] = some (.tup [.i .i64 r23.1, .agg [.sl 1 (rows cs_ r23.2.list_), .b r23.2.bad_]]) := tells_eq inj70 (a := r21.2) q24
 refine VW.evalM (CM := [(69, F69), (70, F70)]) (tm 98 [(0, .str text), (2, .ptr 0 0 0), (4, .sl 1 (rows cs_ r1.1)), (6, .ptr 3 0 0), (7, .ptr 4 0 0)]) [some (7, [[.ref 1 0 0, .ref 2 0 0, .i .i64 0, .i .i64 0, .i .i64 0, .i .i64 0, .i .i64 0]]), some (1, rows ci_i64 []), some (1, rows ci_i64 []), some (2, [[.sl 1 (rows cs_ r23.2.list_), .b r23.2.bad_]]), some (7, [[.ref 5 0 0, .ref 6 0 0, .i .i64 r15.1, .i .i64 r17.1, .i .i64 r19.1, .i .i64 r21.1, .i .i64 r23.1]]), some (1, rows ci_i64 []), some (1, rows ci_i64 [])] [] hC ⟨ok69, ok70, trivial⟩ (by simp -implicitDefEqProofs [c24]) (VW.seq ?_)
 obtain ⟨r25, q26, h⟩ := bindE h
 have c26 := tl71 q26
 refine VW.rA (tm 98 [(0, .str text), (2, .ptr 0 0 0), (4, .sl 1 (rows cs_ r1.1)), (7, .ptr 4 0 0), (8, .b r25)]) [some (7, [[.ref 1 0 0, .ref 2 0 0, .i .i64 0, .i .i64 0, .i .i64 0, .i .i64 0, .i .i64 0]]), some (1, rows ci_i64 []), some (1, rows ci_i64 []), some (2, [[.sl 1 (rows cs_ r23.2.list_), .b r23.2.bad_]]), some (7, [[.ref 5 0 0, .ref 6 0 0, .i .i64 r15.1, .i .i64 r17.1, .i .i64 r19.1, .i .i64 r21.1, .i .i64 r23.1]]), some (1, rows ci_i64 []), some (1, rows ci_i64 [])] [] hC (VW.join (fun (v : Bool × (List Int) × (List Int)) => (⟨(tm 98 [(0, .str text), (2, .ptr 0 0 0), (7, .ptr 4 0 0), (8, .b v.1)]), [some (7, [[.ref 1 0 0, .ref 2 0 0, .i .i64 0, .i .i64 0, .i .i64 0, .i .i64 0, .i .i64 0]]), some (1, rows ci_i64 []), some (1, rows ci_i64 []), some (2, [[.sl 1 (rows cs_ r23.2.list_), .b r23.2.bad_]]), some (7, [[.ref 5 0 v.2.1.length, .ref 6 0 v.2.2.length, .i .i64 r15.1, .i .i64 r17.1, .i .i64 r19.1, .i .i64 r21.1, .i .i64 r23.1]]), some (1, rows ci_i64 v.2.1), some (1, rows ci_i64 v.2.2)], []⟩ : VS)) (fun v => (g27_j2 r15 r17 r19 r21 r23 text (v.1) (v.2.1) (v.2.2)).bind some = some r) ?_ ?_) (h := by simp -implicitDefEqProofs [c26])
 · refine VW.seq ?_
   obtain ⟨u112, ⟨f113a, f113b, f113c, f113d, f113e⟩, h⟩ := bindC h
   try simp only [Int.toNat_natCast, Int.reduceToNat, List.length_cons, List.length_nil, Nat.reduceAdd, Nat.zero_add] at f113a f113b f113c f113d f113e
   refine VW.rA (tm 98 [(0, .str text), (2, .ptr 0 0 0), (7, .ptr 4 0 0), (8, .b r25), (55, .sl 1 (rows cs_ (r1.1.tail))), (56, .i .i64 ((r1.1.tail).length : Int)), (57, .i .i64 0)]) [some (7, [[.ref 1 0 0, .ref 2 0 0, .i .i64 0, .i .i64 0, .i .i64 0, .i .i64 0, .i .i64 0]]), some (1, rows ci_i64 []), some (1, rows ci_i64 []), some (2, [[.sl 1 (rows cs_ r23.2.list_), .b r23.2.bad_]]), some (7, [[.ref 5 0 0, .ref 6 0 0, .i .i64 r15.1, .i .i64 r17.1, .i .i64 r19.1, .i .i64 r21.1, .i .i64 r23.1]]), some (1, rows ci_i64 []), some (1, rows ci_i64 [])] [] hC (VW.block ?_) (h := by simp -implicitDefEqProofs [f113a, f113b, f113c, f113d, f113e])
   obtain ⟨w_1, hw_1, h⟩ := bindE h
   refine VW.loopO (fun (x : Bool × Int × (List Int) × (List Int)) => (⟨(tm 98 [(0, .str text), (2, .ptr 0 0 0), (7, .ptr 4 0 0), (8, .b x.1), (55, .sl 1 (rows cs_ (r1.1.tail))), (56, .i .i64 ((r1.1.tail).length : Int)), (57, .i .i64 x.2.1)]), [some (7, [[.ref 1 0 0, .ref 2 0 0, .i .i64 0, .i .i64 0, .i .i64 0, .i .i64 0, .i .i64 0]]), some (1, rows ci_i64 []), some (1, rows ci_i64 []), some (2, [[.sl 1 (rows cs_ r23.2.list_), .b r23.2.bad_]]), some (7, [[.ref 5 0 x.2.2.1.length, .ref 6 0 x.2.2.2.length, .i .i64 r15.1, .i .i64 r17.1, .i .i64 r19.1, .i .i64 r21.1, .i .i64 r23.1]]), some (1, rows ci_i64 x.2.2.1), some (1, rows ci_i64 x.2.2.2)], []⟩ : VS)) hw_1 (Ent.tu 7) ?_
   rintro n_1 ⟨fine_158, x_159, l160, l161⟩ h1
   rw [g27_L1] at h1
   refine VW.seq (VW.rA (tm 98 [(0, .str text), (2, .ptr 0 0 0), (7, .ptr 4 0 0), (8, .b fine_158), (55, .sl 1 (rows cs_ (r1.1.tail))), (56, .i .i64 ((r1.1.tail).length : Int)), (57, .i .i64 x_159), (58, .b (ltI x_159 ((r1.1.tail).length : Int)))]) [some (7, [[.ref 1 0 0, .ref 2 0 0, .i .i64 0, .i .i64 0, .i .i64 0, .i .i64 0, .i .i64 0]]), some (1, rows ci_i64 []), some (1, rows ci_i64 []), some (2, [[.sl 1 (rows cs_ r23.2.list_), .b r23.2.bad_]]), some (7, [[.ref 5 0 l160.length, .ref 6 0 l161.length, .i .i64 r15.1, .i .i64 r17.1, .i .i64 r19.1, .i .i64 r21.1, .i .i64 r23.1]]), some (1, rows ci_i64 l160), some (1, rows ci_i64 l161)] [] hC (VW.seq (VW.condJ h1 (fun h1 => ?_) (fun h1 => ?_))))
   · refine VW.exit ?_
     have e_ := leafR h1
     subst w_1
     exact vnext (fine_158, l160, l161) h (Ent.tu 7)
   refine VW.skip (VW.seq (VW.block (VW.seq ?_)))
   obtain ⟨e163, ⟨f164a, f164b, f164c, f164d⟩, h1⟩ := bindI h1
   have f164s := f164c
   try simp [f164a] at f164s
   have f164t := f164b
   try simp [f164a] at f164t
   refine VW.rA (tm 98 [(0, .str text), (2, .ptr 0 0 0), (7, .ptr 4 0 0), (8, .b fine_158), (10, .str e163), (55, .sl 1 (rows cs_ (r1.1.tail))), (56, .i .i64 ((r1.1.tail).length : Int)), (57, .i .i64 x_159)]) [some (7, [[.ref 1 0 0, .ref 2 0 0, .i .i64 0, .i .i64 0, .i .i64 0, .i .i64 0, .i .i64 0]]), some (1, rows ci_i64 []), some (1, rows ci_i64 []), some (2, [[.sl 1 (rows cs_ r23.2.list_), .b r23.2.bad_]]), some (7, [[.ref 5 0 l160.length, .ref 6 0 l161.length, .i .i64 r15.1, .i .i64 r17.1, .i .i64 r19.1, .i .i64 r21.1, .i .i64 r23.1]]), some (1, rows ci_i64 l160), some (1, rows ci_i64 l161)] [] hC (VW.seq (VW.inlS (VL.inlP 1 (tm 98 [(0, .str text), (2, .ptr 0 0 0), (7, .ptr 4 0 0), (8, .b fine_158), (55, .sl 1 (rows cs_ (r1.1.tail))), (56, .i .i64 ((r1.1.tail).length : Int)), (57, .i .i64 x_159), (61, .str e163)]) [some (7, [[.ref 1 0 0, .ref 2 0 0, .i .i64 0, .i .i64 0, .i .i64 0, .i .i64 0, .i .i64 0]]), some (1, rows ci_i64 []), some (1, rows ci_i64 []), some (2, [[.sl 1 (rows cs_ r23.2.list_), .b r23.2.bad_]]), some (7, [[.ref 5 0 l160.length, .ref 6 0 l161.length, .i .i64 r15.1, .i .i64 r17.1, .i .i64 r19.1, .i .i64 r21.1, .i .i64 r23.1]]), some (1, rows ci_i64 l160), some (1, rows ci_i64 l161)] [] rfl hC (by kernel_rfl) (by simp -implicitDefEqProofs) rfl rfl Tryd.func67 rfl rfl rfl rfl (tm_length) (VW.ent (s := (⟨(tm 7 [(0, .str e163)]), [some (7, [[.ref 1 0 0, .ref 2 0 0, .i .i64 0, .i .i64 0, .i .i64 0, .i .i64 0, .i .i64 0]]), some (1, rows ci_i64 []), some (1, rows ci_i64 []), some (2, [[.sl 1 (rows cs_ r23.2.list_), .b r23.2.bad_]]), some (7, [[.ref 5 0 l160.length, .ref 6 0 l161.length, .i .i64 r15.1, .i .i64 r17.1, .i .i64 r19.1, .i .i64 r21.1, .i .i64 r23.1]]), some (1, rows ci_i64 l160), some (1, rows ci_i64 l161)], ((tm 98 [(0, .str text), (2, .ptr 0 0 0), (7, .ptr 4 0 0), (8, .b fine_158), (55, .sl 1 (rows cs_ (r1.1.tail))), (56, .i .i64 ((r1.1.tail).length : Int)), (57, .i .i64 x_159), (61, .str e163)]) ++ [])⟩ : VS)) (Ent.eqs (by rw [tm_init]; simp) rfl (by simp)) (VW.seq (VW.rA (tm 7 [(0, .str e163)]) [some (7, [[.ref 1 0 0, .ref 2 0 0, .i .i64 0, .i .i64 0, .i .i64 0, .i .i64 0, .i .i64 0]]), some (1, rows ci_i64 []), some (1, rows ci_i64 []), some (2, [[.sl 1 (rows cs_ r23.2.list_), .b r23.2.bad_]]), some (7, [[.ref 5 0 l160.length, .ref 6 0 l161.length, .i .i64 r15.1, .i .i64 r17.1, .i .i64 r19.1, .i .i64 r21.1, .i .i64 r23.1]]), some (1, rows ci_i64 l160), some (1, rows ci_i64 l161)] ((tm 98 [(0, .str text), (2, .ptr 0 0 0), (7, .ptr 4 0 0), (8, .b fine_158), (55, .sl 1 (rows cs_ (r1.1.tail))), (56, .i .i64 ((r1.1.tail).length : Int)), (57, .i .i64 x_159), (61, .str e163)]) ++ []) hC (VW.seq ?_))))))) (h := by simp -implicitDefEqProofs [f164a, f164b, f164c, f164d, f164s, f164t])
   obtain ⟨r167, q168, h1⟩ := bindE h1
   have c168 := tl99 q168
   replace c168 : fzF F99 [.str e163, .str (⟨#[32]⟩ : ByteArray)] = some (.sl 1 (rows cs_ r167)) := (fzF_eq c168).trans (by simp)
   refine VW.rA (tm 7 [(2, .ptr 7 0 0)]) [some (7, [[.ref 1 0 0, .ref 2 0 0, .i .i64 0, .i .i64 0, .i .i64 0, .i .i64 0, .i .i64 0]]), some (1, rows ci_i64 []), some (1, rows ci_i64 []), some (2, [[.sl 1 (rows cs_ r23.2.list_), .b r23.2.bad_]]), some (7, [[.ref 5 0 l160.length, .ref 6 0 l161.length, .i .i64 r15.1, .i .i64 r17.1, .i .i64 r19.1, .i .i64 r21.1, .i .i64 r23.1]]), some (1, rows ci_i64 l160), some (1, rows ci_i64 l161), some (2, [[.sl 1 (rows cs_ r167), .b false]])] ((tm 98 [(0, .str text), (2, .ptr 0 0 0), (7, .ptr 4 0 0), (8, .b fine_158), (55, .sl 1 (rows cs_ (r1.1.tail))), (56, .i .i64 ((r1.1.tail).length : Int)), (57, .i .i64 x_159), (61, .str e163)]) ++ []) hC (VW.ret (VIn.ret (v := .ptr 7 0 0) (by simp) (VL.evalP (tm 98 [(0, .str text), (2, .ptr 0 0 0), (7, .ptr 4 0 0), (8, .b fine_158), (11, .ptr 7 0 0), (55, .sl 1 (rows cs_ (r1.1.tail))), (56, .i .i64 ((r1.1.tail).length : Int)), (57, .i .i64 x_159)]) [some (7, [[.ref 1 0 0, .ref 2 0 0, .i .i64 0, .i .i64 0, .i .i64 0, .i .i64 0, .i .i64 0]]), some (1, rows ci_i64 []), some (1, rows ci_i64 []), some (2, [[.sl 1 (rows cs_ r23.2.list_), .b r23.2.bad_]]), some (7, [[.ref 5 0 l160.length, .ref 6 0 l161.length, .i .i64 r15.1, .i .i64 r17.1, .i .i64 r19.1, .i .i64 r21.1, .i .i64 r23.1]]), some (1, rows ci_i64 l160), some (1, rows ci_i64 l161), some (2, [[.sl 1 (rows cs_ r167), .b false]])] [] hC (by kernel_rfl) (by simp -implicitDefEqProofs) (VW.seq ?_)))) (h := by simp -implicitDefEqProofs [c168])
   obtain ⟨r169, q170, h1⟩ := bindE h1
   have c170 : F70 [.agg [.sl 1 (rows cs_ r167), .b false]] = some (.tup [.i .i64 r169.1, .agg [.sl 1 (rows cs_ r169.2.list_), .b r169.2.bad_]]) := tells_eq inj70 (a := (⟨r167, false⟩ : T129)) q170
   obtain ⟨u171, ⟨f172a, f172b⟩, h1⟩ := bindP h1
   try simp only [Int.toNat_natCast, Int.reduceToNat, List.length_cons, List.length_nil, Nat.reduceAdd, Nat.zero_add] at f172a f172b
   refine VW.evalMA (CM := [(69, F69), (70, F70)]) [[0, 1, 2, 3, 4, 5, 6, 7], [0, 2, 1, 3, 4, 5, 6, 7], [0, 2, 3, 1, 4, 5, 6, 7], [0, 2, 3, 4, 1, 5, 6, 7], [2, 0, 1, 3, 4, 5, 6, 7], [2, 0, 3, 1, 4, 5, 6, 7], [2, 0, 3, 4, 1, 5, 6, 7], [2, 3, 0, 1, 4, 5, 6, 7], [2, 3, 0, 4, 1, 5, 6, 7], [2, 3, 4, 0, 1, 5, 6, 7]] (tm 98 [(0, .str text), (2, .ptr 0 0 0), (7, .ptr 4 0 0), (8, .b fine_158), (11, .ptr 7 0 0), (55, .sl 1 (rows cs_ (r1.1.tail))), (56, .i .i64 ((r1.1.tail).length : Int)), (57, .i .i64 x_159)]) [some (7, [[.ref 1 0 0, .ref 2 0 0, .i .i64 0, .i .i64 0, .i .i64 0, .i .i64 0, .i .i64 0]]), some (1, rows ci_i64 []), some (1, rows ci_i64 []), some (2, [[.sl 1 (rows cs_ r23.2.list_), .b r23.2.bad_]]), some (7, [[.ref 5 0 (l160 ++ [r169.1]).length, .ref 6 0 l161.length, .i .i64 r15.1, .i .i64 r17.1, .i .i64 r19.1, .i .i64 r21.1, .i .i64 r23.1]]), some (1, rows ci_i64 (l160 ++ [r169.1])), some (1, rows ci_i64 l161), some (2, [[.sl 1 (rows cs_ r169.2.list_), .b r169.2.bad_]]), some (1, rows ci_i64 [r169.1])] [] hC ⟨ok69, ok70, trivial⟩ mixed (by kernel_rfl) (by simp -implicitDefEqProofs [c170, f172a, f172b]) (VW.seq ?_)
   obtain ⟨r173, q174, h1⟩ := bindE h1
   have c174 : F70 [.agg [.sl 1 (rows cs_ r169.2.list_), .b r169.2.bad_]] = some (.tup [.i .i64 r173.1, .agg [.sl 1 (rows cs_ r173.2.list_), .b r173.2.bad_]]) := tells_eq inj70 (a := r169.2) q174
   obtain ⟨u175, ⟨f176a, f176b⟩, h1⟩ := bindP h1
   try simp only [Int.toNat_natCast, Int.reduceToNat, List.length_cons, List.length_nil, Nat.reduceAdd, Nat.zero_add] at f176a f176b
   refine VW.evalMA (CM := [(69, F69), (70, F70)]) [[0, 1, 2, 3, 4, 5, 6, 7], [0, 2, 1, 3, 4, 5, 6, 7], [0, 2, 3, 1, 4, 5, 6, 7], [0, 2, 3, 4, 1, 5, 6, 7], [2, 0, 1, 3, 4, 5, 6, 7], [2, 0, 3, 1, 4, 5, 6, 7], [2, 0, 3, 4, 1, 5, 6, 7], [2, 3, 0, 1, 4, 5, 6, 7], [2, 3, 0, 4, 1, 5, 6, 7], [2, 3, 4, 0, 1, 5, 6, 7]] (tm 98 [(0, .str text), (2, .ptr 0 0 0), (7, .ptr 4 0 0), (8, .b fine_158), (11, .ptr 7 0 0), (55, .sl 1 (rows cs_ (r1.1.tail))), (56, .i .i64 ((r1.1.tail).length : Int)), (57, .i .i64 x_159)]) [some (7, [[.ref 1 0 0, .ref 2 0 0, .i .i64 0, .i .i64 0, .i .i64 0, .i .i64 0, .i .i64 0]]), some (1, rows ci_i64 []), some (1, rows ci_i64 []), some (2, [[.sl 1 (rows cs_ r23.2.list_), .b r23.2.bad_]]), some (7, [[.ref 5 0 (l160 ++ [r169.1]).length, .ref 6 0 (l161 ++ [r173.1]).length, .i .i64 r15.1, .i .i64 r17.1, .i .i64 r19.1, .i .i64 r21.1, .i .i64 r23.1]]), some (1, rows ci_i64 (l160 ++ [r169.1])), some (1, rows ci_i64 (l161 ++ [r173.1])), some (2, [[.sl 1 (rows cs_ r173.2.list_), .b r173.2.bad_]]), some (1, rows ci_i64 [r169.1]), some (1, rows ci_i64 [r173.1])] [] hC ⟨ok69, ok70, trivial⟩ mixed (by kernel_rfl) (by simp -implicitDefEqProofs [c174, f176a, f176b]) ?_
   obtain ⟨w179, q180, h1⟩ := bindE h1
   refine VW.evalA (tm 98 [(0, .str text), (2, .ptr 0 0 0), (7, .ptr 4 0 0), (8, .b w179), (55, .sl 1 (rows cs_ (r1.1.tail))), (56, .i .i64 ((r1.1.tail).length : Int)), (57, .i .i64 x_159)]) [some (7, [[.ref 1 0 0, .ref 2 0 0, .i .i64 0, .i .i64 0, .i .i64 0, .i .i64 0, .i .i64 0]]), some (1, rows ci_i64 []), some (1, rows ci_i64 []), some (2, [[.sl 1 (rows cs_ r23.2.list_), .b r23.2.bad_]]), some (7, [[.ref 5 0 (l160 ++ [r169.1]).length, .ref 6 0 (l161 ++ [r173.1]).length, .i .i64 r15.1, .i .i64 r17.1, .i .i64 r19.1, .i .i64 r21.1, .i .i64 r23.1]]), some (1, rows ci_i64 (l160 ++ [r169.1])), some (1, rows ci_i64 (l161 ++ [r173.1])), some (2, [[.sl 1 (rows cs_ r173.2.list_), .b r173.2.bad_]]), some (1, rows ci_i64 [r169.1]), some (1, rows ci_i64 [r173.1])] [] hC (by kernel_rfl) (by
       obtain ⟨q181, q180⟩ | ⟨q181, rfl⟩ := gdT q180
       · obtain ⟨r177, q178, q180⟩ := bindQ q180
         have c178 := tl71 q178
         obtain rfl := Option.some.inj q180
         simp -implicitDefEqProofs [q181, c178]
       simp -implicitDefEqProofs [q181]) ?_
   exact VW.rA (tm 98 [(0, .str text), (2, .ptr 0 0 0), (7, .ptr 4 0 0), (8, .b w179), (55, .sl 1 (rows cs_ (r1.1.tail))), (56, .i .i64 ((r1.1.tail).length : Int)), (57, .i .i64 (aI .i64 x_159 1))]) [some (7, [[.ref 1 0 0, .ref 2 0 0, .i .i64 0, .i .i64 0, .i .i64 0, .i .i64 0, .i .i64 0]]), some (1, rows ci_i64 []), some (1, rows ci_i64 []), some (2, [[.sl 1 (rows cs_ r23.2.list_), .b r23.2.bad_]]), some (7, [[.ref 5 0 (l160 ++ [r169.1]).length, .ref 6 0 (l161 ++ [r173.1]).length, .i .i64 r15.1, .i .i64 r17.1, .i .i64 r19.1, .i .i64 r21.1, .i .i64 r23.1]]), some (1, rows ci_i64 (l160 ++ [r169.1])), some (1, rows ci_i64 (l161 ++ [r173.1])), some (2, [[.sl 1 (rows cs_ r173.2.list_), .b r173.2.bad_]]), some (1, rows ci_i64 [r169.1]), some (1, rows ci_i64 [r173.1])] [] hC (vnext (w179, aI .i64 x_159 1, (l160 ++ [r169.1]), (l161 ++ [r173.1])) (leafL h1) (Ent.tu 7))
 rintro ⟨fine_97, l98, l99⟩ h
 replace h : (g27_j2 r15 r17 r19 r21 r23 text fine_97 l98 l99).bind _ = _ := h
 rw [g27_j2] at h
 refine VW.seq (VW.seq ?_)
 obtain ⟨w102, q107, h⟩ := bindE h
 obtain ⟨w105, q108, h⟩ := bindE h
 refine VW.evalA (tm 98 [(2, .ptr 0 0 0), (7, .ptr 4 0 0), (95, .b w105)]) [some (7, [[.ref 1 0 0, .ref 2 0 0, .i .i64 0, .i .i64 0, .i .i64 0, .i .i64 0, .i .i64 0]]), some (1, rows ci_i64 []), some (1, rows ci_i64 []), some (2, [[.sl 1 (rows cs_ r23.2.list_), .b r23.2.bad_]]), some (7, [[.ref 5 0 l98.length, .ref 6 0 l99.length, .i .i64 r15.1, .i .i64 r17.1, .i .i64 r19.1, .i .i64 r21.1, .i .i64 r23.1]]), some (1, rows ci_i64 l98), some (1, rows ci_i64 l99)] [] hC (by kernel_rfl) (by
     obtain ⟨q109, q107⟩ | ⟨q109, rfl⟩ := gdF q107
     · obtain ⟨r100, q101, q107⟩ := bindQ q107
       have c101 : F39 [.agg [.sl 1 (rows ci_i64 ((⟨l98, l99, r15.1, r17.1, r19.1, r21.1, r23.1⟩ : T29).need_)), .sl 1 (rows ci_i64 ((⟨l98, l99, r15.1, r17.1, r19.1, r21.1, r23.1⟩ : T29).price_)), .i .i64 ((⟨l98, l99, r15.1, r17.1, r19.1, r21.1, r23.1⟩ : T29).most_), .i .i64 ((⟨l98, l99, r15.1, r17.1, r19.1, r21.1, r23.1⟩ : T29).yield_), .i .i64 ((⟨l98, l99, r15.1, r17.1, r19.1, r21.1, r23.1⟩ : T29).store_), .i .i64 ((⟨l98, l99, r15.1, r17.1, r19.1, r21.1, r23.1⟩ : T29).first_), .i .i64 ((⟨l98, l99, r15.1, r17.1, r19.1, r21.1, r23.1⟩ : T29).loss_)]] = some (.b r100) := tells_eq inj39 (a := (⟨l98, l99, r15.1, r17.1, r19.1, r21.1, r23.1⟩ : T29)) q101
       obtain rfl := Option.some.inj q107
       obtain ⟨q110, q108⟩ | ⟨q110, rfl⟩ := gdF q108
       · obtain ⟨r103, q104, q108⟩ := bindQ q108
         have c104 : F58 [.agg [.sl 1 (rows ci_i64 ((⟨l98, l99, r15.1, r17.1, r19.1, r21.1, r23.1⟩ : T29).need_)), .sl 1 (rows ci_i64 ((⟨l98, l99, r15.1, r17.1, r19.1, r21.1, r23.1⟩ : T29).price_)), .i .i64 ((⟨l98, l99, r15.1, r17.1, r19.1, r21.1, r23.1⟩ : T29).most_), .i .i64 ((⟨l98, l99, r15.1, r17.1, r19.1, r21.1, r23.1⟩ : T29).yield_), .i .i64 ((⟨l98, l99, r15.1, r17.1, r19.1, r21.1, r23.1⟩ : T29).store_), .i .i64 ((⟨l98, l99, r15.1, r17.1, r19.1, r21.1, r23.1⟩ : T29).first_), .i .i64 ((⟨l98, l99, r15.1, r17.1, r19.1, r21.1, r23.1⟩ : T29).loss_)]] = some (.str r103) := tells_eq inj58 (a := (⟨l98, l99, r15.1, r17.1, r19.1, r21.1, r23.1⟩ : T29)) q104
         obtain rfl := Option.some.inj q108
         simp -implicitDefEqProofs [q109, c101, q110, c104]
       simp -implicitDefEqProofs [q109, c101, q110]
     obtain ⟨q111, q108⟩ | ⟨q111, rfl⟩ := gdF q108
     · exact absurd q111 (by simp)
     simp -implicitDefEqProofs [q109, q111]) ?_
 refine VW.condJ h (fun h => ?_) (fun h => ?_)
 · refine VW.skip (VW.seq (VW.rA (tm 98 [(2, .ptr 0 0 0), (3, .i .i64 0)]) [some (7, [[.ref 5 0 l98.length, .ref 6 0 l99.length, .i .i64 r15.1, .i .i64 r17.1, .i .i64 r19.1, .i .i64 r21.1, .i .i64 r23.1]]), some (1, rows ci_i64 []), some (1, rows ci_i64 []), some (2, [[.sl 1 (rows cs_ r23.2.list_), .b r23.2.bad_]]), some (7, [[.ref 5 0 l98.length, .ref 6 0 l99.length, .i .i64 r15.1, .i .i64 r17.1, .i .i64 r19.1, .i .i64 r21.1, .i .i64 r23.1]]), some (1, rows ci_i64 l98), some (1, rows ci_i64 l99)] [] hC ?_))
   obtain rfl := leafS h
   exact VW.ret (VRet.fin (by simp [eB27]))
 refine VW.seq (VW.rE (tm 98 [(2, .ptr 0 0 0), (3, .i .i64 5)]) [some (7, [[.nil, .nil, .i .i64 0, .i .i64 0, .i .i64 0, .i .i64 0, .i .i64 0]]), some (1, rows ci_i64 []), some (1, rows ci_i64 []), some (2, [[.sl 1 (rows cs_ r23.2.list_), .b r23.2.bad_]]), some (7, [[.ref 5 0 l98.length, .ref 6 0 l99.length, .i .i64 r15.1, .i .i64 r17.1, .i .i64 r19.1, .i .i64 r21.1, .i .i64 r23.1]]), some (1, rows ci_i64 l98), some (1, rows ci_i64 l99)] [] hC (Ent.trans (Ent.nilref (m := [some (7, [[.nil, .nil, .i .i64 0, .i .i64 0, .i .i64 0, .i .i64 0, .i .i64 0]]), some (1, rows ci_i64 []), some (1, rows ci_i64 []), some (2, [[.sl 1 (rows cs_ r23.2.list_), .b r23.2.bad_]]), some (7, [[.ref 5 0 l98.length, .ref 6 0 l99.length, .i .i64 r15.1, .i .i64 r17.1, .i .i64 r19.1, .i .i64 r21.1, .i .i64 r23.1]]), some (1, rows ci_i64 l98), some (1, rows ci_i64 l99)]) 0 1 [some (7, [[.ref 7 0 0, .nil, .i .i64 0, .i .i64 0, .i .i64 0, .i .i64 0, .i .i64 0]]), some (1, rows ci_i64 []), some (1, rows ci_i64 []), some (2, [[.sl 1 (rows cs_ r23.2.list_), .b r23.2.bad_]]), some (7, [[.ref 5 0 l98.length, .ref 6 0 l99.length, .i .i64 r15.1, .i .i64 r17.1, .i .i64 r19.1, .i .i64 r21.1, .i .i64 r23.1]]), some (1, rows ci_i64 l98), some (1, rows ci_i64 l99), some (1, rows ci_i64 [])] rfl (by simp) rfl) (Ent.nilref (m := [some (7, [[.ref 7 0 0, .nil, .i .i64 0, .i .i64 0, .i .i64 0, .i .i64 0, .i .i64 0]]), some (1, rows ci_i64 []), some (1, rows ci_i64 []), some (2, [[.sl 1 (rows cs_ r23.2.list_), .b r23.2.bad_]]), some (7, [[.ref 5 0 l98.length, .ref 6 0 l99.length, .i .i64 r15.1, .i .i64 r17.1, .i .i64 r19.1, .i .i64 r21.1, .i .i64 r23.1]]), some (1, rows ci_i64 l98), some (1, rows ci_i64 l99), some (1, rows ci_i64 [])]) 0 1 [some (7, [[.ref 7 0 0, .ref 8 0 0, .i .i64 0, .i .i64 0, .i .i64 0, .i .i64 0, .i .i64 0]]), some (1, rows ci_i64 []), some (1, rows ci_i64 []), some (2, [[.sl 1 (rows cs_ r23.2.list_), .b r23.2.bad_]]), some (7, [[.ref 5 0 l98.length, .ref 6 0 l99.length, .i .i64 r15.1, .i .i64 r17.1, .i .i64 r19.1, .i .i64 r21.1, .i .i64 r23.1]]), some (1, rows ci_i64 l98), some (1, rows ci_i64 l99), some (1, rows ci_i64 []), some (1, rows ci_i64 [])] rfl (by simp) rfl) ) ?_)
 obtain rfl := leafS h
 exact VW.ret (VRet.fin (by simp [eB27]))
theorem tl27 {text : ByteArray} {r : T29 × Int} (h : g27 text = some r) : F27 [.str text] = some (.tup [.agg [.own 1 (rows ci_i64 r.1.need_), .own 1 (rows ci_i64 r.1.price_), .i .i64 r.1.most_, .i .i64 r.1.yield_, .i .i64 r.1.store_, .i .i64 r.1.first_, .i .i64 r.1.loss_], .i .i64 r.2]) := tells_eq inj27 (a := text) h
noncomputable def g16 (s : T29) : Option (ByteArray) :=
(g39 s).bind fun r1 =>
if (!r1) = true then
some ByteArray.empty
else
(g58 s).bind fun r4 =>
some r4
def eA16 (a : T29) : List V := [.agg (pT29 a)]
def eB16 (r : ByteArray) : V := .str r
theorem inj16 (a a' : T29) (h : eA16 a = eA16 a') : a = a' := by
  obtain ⟨i283, i284, i285, i286, i287, i288, i289⟩ := a
  obtain ⟨i290, i291, i292, i293, i294, i295, i296⟩ := a'
  simp only [eA16, pT29, List.cons.injEq, V.i.injEq, V.b.injEq, V.f.injEq, V.str.injEq, V.sl.injEq, V.agg.injEq, V.cptr.injEq, true_and, and_true] at h
  simp_all [ri ci_i64_inj]
noncomputable def F16 : List V → Option V := tells (fun a => g16 a) eA16 eB16
/- loop.example/g01229/impl.SeasonText -/
theorem ok16 : Tells Tryd.prog 16 F16 := by
 refine Tells.go 8 Tryd.func16 rfl rfl rfl (by kernel_rfl) (fun _ => rfl) ?_
 rintro s r h
 simp only [eA16, en, Nat.reduceAdd]
 replace h : (g16 s).bind some = some r := bindS h
 rw [g16] at h
 have hC : CEnv.Ok Tryd.prog [(39, F39), (58, F58)] := ⟨.inl ok39, .inl ok58, trivial⟩
 refine VW.seq (VW.rA (tm 8 [(1, .ptr 0 0 0)]) [some (7, [(pT29 s)])] [] hC (VW.seq (VW.seq ?_)))
 obtain ⟨r1, q2, h⟩ := bindE h
 have c2 : F39 [.agg (pT29 s)] = some (.b r1) := tells_eq inj39 (a := s) q2
 refine VW.rA (tm 8 [(1, .ptr 0 0 0), (5, .b (!r1))]) [some (7, [(pT29 s)])] [] hC (VW.condI h (fun h => ?_) (fun h => ?_)) (h := by simp -implicitDefEqProofs [c2])
 · refine VW.seq (VW.rA (tm 8 [(2, .str ByteArray.empty)]) [some (7, [(pT29 s)])] [] hC ?_)
   obtain rfl := leafS h
   exact VW.ret (VRet.fin (by simp [eB16]))
 refine VW.skip (VW.seq ?_)
 obtain ⟨r4, q5, h⟩ := bindE h
 have c5 : F58 [.agg (pT29 s)] = some (.str r4) := tells_eq inj58 (a := s) q5
 refine VW.rA (tm 8 [(2, .str r4)]) [some (7, [(pT29 s)])] [] hC ?_ (h := by simp -implicitDefEqProofs [c5])
 obtain rfl := leafS h
 exact VW.ret (VRet.fin (by simp [eB16]))
theorem tl16 {s : T29} {r : ByteArray} (h : g16 s = some r) : F16 [.agg [.sl 1 (rows ci_i64 s.need_), .sl 1 (rows ci_i64 s.price_), .i .i64 s.most_, .i .i64 s.yield_, .i .i64 s.store_, .i .i64 s.first_, .i .i64 s.loss_]] = some (.str r) := tells_eq inj16 (a := s) h
noncomputable def g34 (code : List Int) (more_ : List Int) : Option (Bool) :=
some (ltI 3000 (code.length : Int) || ltI 3000 (more_.length : Int))
def eA34 (a : (List Int) × (List Int)) : List V := [.sl 1 (rows ci_u8 a.1), .sl 1 (rows ci_u8 a.2)]
def eB34 (r : Bool) : V := .b r
theorem inj34 (a a' : (List Int) × (List Int)) (h : eA34 a = eA34 a') : a = a' := by
  obtain ⟨i297, i298⟩ := a
  obtain ⟨i299, i300⟩ := a'
  simp only [eA34, List.cons.injEq, V.i.injEq, V.b.injEq, V.f.injEq, V.str.injEq, V.sl.injEq, V.agg.injEq, V.cptr.injEq, true_and, and_true] at h
  simp_all [ri ci_u8_inj]
noncomputable def F34 : List V → Option V := tells (fun a => g34 a.1 a.2) eA34 eB34
/- loop.example/g01229/laws.a2Long -/
theorem ok34 : Tells Tryd.prog 34 F34 := by
 refine Tells.go 13 Tryd.func34 rfl rfl rfl (by kernel_rfl) (fun _ => rfl) ?_
 rintro ⟨code, more_⟩ r h
 simp only [eA34, en, Nat.reduceAdd]
 replace h : (g34 code more_).bind some = some r := bindS h
 rw [g34] at h
 have hC : CEnv.Ok Tryd.prog [] := trivial
 refine VW.seq (VW.rA (tm 13 [(0, .sl 1 (rows ci_u8 code)), (1, .sl 1 (rows ci_u8 more_))]) [] [] hC (VW.seq (VW.rA (tm 13 [(4, .b (ltI 3000 (code.length : Int) || ltI 3000 (more_.length : Int)))]) [] [] hC ?_)))
 obtain rfl := leafS h
 exact VW.ret (VRet.fin (by simp [eB34]))
theorem tl34 {code : List Int} {more_ : List Int} {r : Bool} (h : g34 code more_ = some r) : F34 [.sl 1 (rows ci_u8 code), .sl 1 (rows ci_u8 more_)] = some (.b r) := tells_eq inj34 (a := (code, more_)) h
noncomputable def g104 (s : T138) : Option (Int × T138) :=
if ltI s.at_ (s.code_.length : Int) = true then
(idx s.code_ s.at_).bind fun e2 =>
if leI (aI .i64 s.at_ 1) (s.code_.length : Int) = true then
some (cI .i64 e2, (⟨s.code_, aI .i64 s.at_ 1, aI .u64 (aI .u64 (mI .u64 s.seed_ 6364136223846793005) (cI .u64 (cI .i64 e2))) 1442695040888963407⟩ : T138))
else
(shrI .u64 (aI .u64 (aI .u64 (mI .u64 s.seed_ 6364136223846793005) (cI .u64 (cI .i64 e2))) 1442695040888963407) 40).bind fun d5 =>
some (cI .i64 (andI .u64 d5 255), (⟨s.code_, aI .i64 s.at_ 1, aI .u64 (aI .u64 (mI .u64 s.seed_ 6364136223846793005) (cI .u64 (cI .i64 e2))) 1442695040888963407⟩ : T138))
else
if leI (aI .i64 s.at_ 1) (s.code_.length : Int) = true then
some (0, (⟨s.code_, aI .i64 s.at_ 1, aI .u64 (aI .u64 (mI .u64 s.seed_ 6364136223846793005) 0) 1442695040888963407⟩ : T138))
else
(shrI .u64 (aI .u64 (aI .u64 (mI .u64 s.seed_ 6364136223846793005) 0) 1442695040888963407) 40).bind fun d8 =>
some (cI .i64 (andI .u64 d8 255), (⟨s.code_, aI .i64 s.at_ 1, aI .u64 (aI .u64 (mI .u64 s.seed_ 6364136223846793005) 0) 1442695040888963407⟩ : T138))
def eA104 (a : T138) : List V := [.agg (pT138 a)]
def eB104 (r : Int × T138) : V := .tup [.i .i64 r.1, .agg [.sl 1 (rows ci_u8 r.2.code_), .i .i64 r.2.at_, .i .u64 r.2.seed_]]
theorem inj104 (a a' : T138) (h : eA104 a = eA104 a') : a = a' := by
  obtain ⟨i301, i302, i303⟩ := a
  obtain ⟨i304, i305, i306⟩ := a'
  simp only [eA104, pT138, List.cons.injEq, V.i.injEq, V.b.injEq, V.f.injEq, V.str.injEq, V.sl.injEq, V.agg.injEq, V.cptr.injEq, true_and, and_true] at h
  simp_all [ri ci_u8_inj]
noncomputable def F104 : List V → Option V := tells (fun a => g104 a) eA104 eB104
/- (*loop.example/g01229/spec.l00Src).next -/
theorem ok104 : TellsM Tryd.prog 104 F104 := by
  refine TellsM.of Tryd.func104 (by kernel_rfl) rfl rfl rfl ?_
  rintro s r h cs vs v_ cs' hE1 hE2 gg mm bb nn hb
  simp only [eA104, List.cons.injEq, V.agg.injEq] at hE1
  obtain ⟨rfl, rfl⟩ := hE1
  have hS : ∀ x, (mm.set bb x)[bb]? = some x := at_set (List.getElem?_eq_some_iff.1 hb).1
  replace h : (g104 s).bind some = some r := bindS h
  rw [g104] at h
  have hC : CEnv.Ok Tryd.prog [] := trivial
  refine VW.ent (s := (⟨(tm 62 [(0, .ptr bb 0 0)]), (mm.set bb (some (nn, [[.sl 1 (rows ci_u8 s.code_), .i .i64 s.at_, .i .u64 s.seed_]]))), gg⟩ : VS)) (Ent.eqs (by simp only [List.length_cons, List.length_nil, Nat.reduceAdd, Nat.reduceSub]; rw [tm_init]; simp) (set_self hb) rfl) (VW.seq (VW.rA (tm 62 [(0, .ptr bb 0 0)]) (mm.set bb (some (nn, [[.sl 1 (rows ci_u8 s.code_), .i .i64 s.at_, .i .u64 s.seed_]]))) gg hC (VW.seq (VW.rA (tm 62 [(0, .ptr bb 0 0), (3, .i .i64 0)]) (mm.set bb (some (nn, [[.sl 1 (rows ci_u8 s.code_), .i .i64 s.at_, .i .u64 s.seed_]]))) gg hC (VW.seq (VW.seq (VW.rD (tm 62 [(0, .ptr bb 0 0), (3, .i .i64 0), (13, .b (ltI s.at_ (s.code_.length : Int)))]) (mm.set bb (some (nn, [[.sl 1 (rows ci_u8 s.code_), .i .i64 s.at_, .i .u64 s.seed_]]))) gg hC mixed (VW.condJ h (fun h => ?_) (fun h => ?_)) (h := by simp -implicitDefEqProofs [hS])))) (h := by simp -implicitDefEqProofs [hS]))) (h := by simp -implicitDefEqProofs [hS])))
  · refine VW.skip (VW.seq (VW.rA (tm 62 [(0, .ptr bb 0 0), (3, .i .i64 0)]) (mm.set bb (some (nn, [[.sl 1 (rows ci_u8 s.code_), .i .i64 (aI .i64 s.at_ 1), .i .u64 s.seed_]]))) gg hC (VW.seq (VW.rA (tm 62 [(0, .ptr bb 0 0), (3, .i .i64 0)]) (mm.set bb (some (nn, [[.sl 1 (rows ci_u8 s.code_), .i .i64 (aI .i64 s.at_ 1), .i .u64 (aI .u64 (aI .u64 (mI .u64 s.seed_ 6364136223846793005) 0) 1442695040888963407)]]))) gg hC (VW.seq (VW.seq (VW.rD (tm 62 [(0, .ptr bb 0 0), (3, .i .i64 0), (53, .b (leI (aI .i64 s.at_ 1) (s.code_.length : Int)))]) (mm.set bb (some (nn, [[.sl 1 (rows ci_u8 s.code_), .i .i64 (aI .i64 s.at_ 1), .i .u64 (aI .u64 (aI .u64 (mI .u64 s.seed_ 6364136223846793005) 0) 1442695040888963407)]]))) gg hC mixed (VW.condI h (fun h => ?_) (fun h => ?_)) (h := by simp -implicitDefEqProofs [hS])))) (h := by simp -implicitDefEqProofs [(by decide : cI .u64 0 = 0), hS]))) (h := by simp -implicitDefEqProofs [hS])))
    · refine VW.seq (VW.rA (tm 62 [(2, .i .i64 0)]) (mm.set bb (some (nn, [[.sl 1 (rows ci_u8 s.code_), .i .i64 (aI .i64 s.at_ 1), .i .u64 (aI .u64 (aI .u64 (mI .u64 s.seed_ 6364136223846793005) 0) 1442695040888963407)]]))) gg hC ?_ (h := by simp -implicitDefEqProofs [hS]))
      obtain rfl := leafS h
      simp only [eB104, V.tup.injEq, V.agg.injEq, List.cons.injEq, and_true] at hE2
      obtain ⟨rfl, rfl⟩ := hE2
      exact VW.ret (VInE.fin (by simp) (by simp) rfl)
    refine VW.skip (VW.seq ?_)
    obtain ⟨d8, q9, h⟩ := bindE h
    refine VW.rA (tm 62 [(2, .i .i64 (cI .i64 (andI .u64 d8 255)))]) (mm.set bb (some (nn, [[.sl 1 (rows ci_u8 s.code_), .i .i64 (aI .i64 s.at_ 1), .i .u64 (aI .u64 (aI .u64 (mI .u64 s.seed_ 6364136223846793005) 0) 1442695040888963407)]]))) gg hC ?_ (h := by simp -implicitDefEqProofs [q9, hS])
    obtain rfl := leafS h
    simp only [eB104, V.tup.injEq, V.agg.injEq, List.cons.injEq, and_true] at hE2
    obtain ⟨rfl, rfl⟩ := hE2
    exact VW.ret (VInE.fin (by simp) (by simp) rfl)
  obtain ⟨e2, ⟨f3a, f3b, f3c, f3d⟩, h⟩ := bindI h
  refine VW.rD (tm 62 [(0, .ptr bb 0 0), (3, .i .i64 (cI .i64 e2))]) (mm.set bb (some (nn, [[.sl 1 (rows ci_u8 s.code_), .i .i64 s.at_, .i .u64 s.seed_]]))) gg hC mixed (VW.seq (VW.rA (tm 62 [(0, .ptr bb 0 0), (3, .i .i64 (cI .i64 e2))]) (mm.set bb (some (nn, [[.sl 1 (rows ci_u8 s.code_), .i .i64 (aI .i64 s.at_ 1), .i .u64 s.seed_]]))) gg hC (VW.seq (VW.rA (tm 62 [(0, .ptr bb 0 0), (3, .i .i64 (cI .i64 e2))]) (mm.set bb (some (nn, [[.sl 1 (rows ci_u8 s.code_), .i .i64 (aI .i64 s.at_ 1), .i .u64 (aI .u64 (aI .u64 (mI .u64 s.seed_ 6364136223846793005) (cI .u64 (cI .i64 e2))) 1442695040888963407)]]))) gg hC (VW.seq (VW.seq (VW.rD (tm 62 [(0, .ptr bb 0 0), (3, .i .i64 (cI .i64 e2)), (53, .b (leI (aI .i64 s.at_ 1) (s.code_.length : Int)))]) (mm.set bb (some (nn, [[.sl 1 (rows ci_u8 s.code_), .i .i64 (aI .i64 s.at_ 1), .i .u64 (aI .u64 (aI .u64 (mI .u64 s.seed_ 6364136223846793005) (cI .u64 (cI .i64 e2))) 1442695040888963407)]]))) gg hC mixed (VW.condI h (fun h => ?_) (fun h => ?_)) (h := by simp -implicitDefEqProofs [hS])))) (h := by simp -implicitDefEqProofs [hS]))) (h := by simp -implicitDefEqProofs [hS]))) (h := by simp -implicitDefEqProofs [f3a, f3b, f3c, f3d, hS])
  · refine VW.seq (VW.rA (tm 62 [(2, .i .i64 (cI .i64 e2))]) (mm.set bb (some (nn, [[.sl 1 (rows ci_u8 s.code_), .i .i64 (aI .i64 s.at_ 1), .i .u64 (aI .u64 (aI .u64 (mI .u64 s.seed_ 6364136223846793005) (cI .u64 (cI .i64 e2))) 1442695040888963407)]]))) gg hC ?_ (h := by simp -implicitDefEqProofs [hS]))
    obtain rfl := leafS h
    simp only [eB104, V.tup.injEq, V.agg.injEq, List.cons.injEq, and_true] at hE2
    obtain ⟨rfl, rfl⟩ := hE2
    exact VW.ret (VInE.fin (by simp) (by simp) rfl)
  refine VW.skip (VW.seq ?_)
  obtain ⟨d5, q6, h⟩ := bindE h
  refine VW.rA (tm 62 [(2, .i .i64 (cI .i64 (andI .u64 d5 255)))]) (mm.set bb (some (nn, [[.sl 1 (rows ci_u8 s.code_), .i .i64 (aI .i64 s.at_ 1), .i .u64 (aI .u64 (aI .u64 (mI .u64 s.seed_ 6364136223846793005) (cI .u64 (cI .i64 e2))) 1442695040888963407)]]))) gg hC ?_ (h := by simp -implicitDefEqProofs [q6, hS])
  obtain rfl := leafS h
  simp only [eB104, V.tup.injEq, V.agg.injEq, List.cons.injEq, and_true] at hE2
  obtain ⟨rfl, rfl⟩ := hE2
  exact VW.ret (VInE.fin (by simp) (by simp) rfl)
noncomputable def g83 (s : T138) (n : Int) : Option (Int × T138) :=
if leI n 1 = true then
some (0, s)
else
(g104 s).bind fun r2 =>
if ltI 200 n = true then
(g104 r2.2).bind fun r5 =>
(rI .i64 (aI .i64 (mI .i64 r2.1 256) r5.1) n).bind fun d7 =>
some (d7, r5.2)
else
(rI .i64 r2.1 n).bind fun d9 =>
some (d9, r2.2)
def eA83 (a : T138 × Int) : List V := [.agg (pT138 a.1), .i .i64 a.2]
def eB83 (r : Int × T138) : V := .tup [.i .i64 r.1, .agg [.sl 1 (rows ci_u8 r.2.code_), .i .i64 r.2.at_, .i .u64 r.2.seed_]]
theorem inj83 (a a' : T138 × Int) (h : eA83 a = eA83 a') : a = a' := by
  obtain ⟨⟨i307, i308, i309⟩, i310⟩ := a
  obtain ⟨⟨i311, i312, i313⟩, i314⟩ := a'
  simp only [eA83, pT138, List.cons.injEq, V.i.injEq, V.b.injEq, V.f.injEq, V.str.injEq, V.sl.injEq, V.agg.injEq, V.cptr.injEq, true_and, and_true] at h
  simp_all [ri ci_u8_inj]
noncomputable def F83 : List V → Option V := tells (fun a => g83 a.1 a.2) eA83 eB83
/- (*loop.example/g01229/spec.l00Src).pick -/
theorem ok83 : TellsM Tryd.prog 83 F83 := by
  refine TellsM.of Tryd.func83 (by kernel_rfl) rfl rfl rfl ?_
  rintro ⟨s, n⟩ r h cs vs v_ cs' hE1 hE2 gg mm bb nn hb
  simp only [eA83, List.cons.injEq, V.agg.injEq] at hE1
  obtain ⟨rfl, rfl⟩ := hE1
  have hS : ∀ x, (mm.set bb x)[bb]? = some x := at_set (List.getElem?_eq_some_iff.1 hb).1
  replace h : (g83 s n).bind some = some r := bindS h
  rw [g83] at h
  have hC : CEnv.Ok Tryd.prog [] := trivial
  refine VW.ent (s := (⟨(tm 20 [(0, .ptr bb 0 0), (1, .i .i64 n)]), (mm.set bb (some (nn, [[.sl 1 (rows ci_u8 s.code_), .i .i64 s.at_, .i .u64 s.seed_]]))), gg⟩ : VS)) (Ent.eqs (by simp only [List.length_cons, List.length_nil, Nat.reduceAdd, Nat.reduceSub]; rw [tm_init]; simp) (set_self hb) rfl) (VW.seq (VW.rA (tm 20 [(0, .ptr bb 0 0), (1, .i .i64 n)]) (mm.set bb (some (nn, [[.sl 1 (rows ci_u8 s.code_), .i .i64 s.at_, .i .u64 s.seed_]]))) gg hC (VW.seq (VW.seq (VW.rA (tm 20 [(0, .ptr bb 0 0), (1, .i .i64 n), (7, .b (leI n 1))]) (mm.set bb (some (nn, [[.sl 1 (rows ci_u8 s.code_), .i .i64 s.at_, .i .u64 s.seed_]]))) gg hC (VW.condI h (fun h => ?_) (fun h => ?_)) (h := by simp -implicitDefEqProofs [hS])))) (h := by simp -implicitDefEqProofs [hS])))
  · refine VW.seq (VW.rA (tm 20 [(4, .i .i64 0)]) (mm.set bb (some (nn, [[.sl 1 (rows ci_u8 s.code_), .i .i64 s.at_, .i .u64 s.seed_]]))) gg hC ?_ (h := by simp -implicitDefEqProofs [hS]))
    obtain rfl := leafS h
    simp only [eB83, V.tup.injEq, V.agg.injEq, List.cons.injEq, and_true] at hE2
    obtain ⟨rfl, rfl⟩ := hE2
    exact VW.ret (VInE.fin (by simp) (by simp) rfl)
  refine VW.skip (VW.seq ?_)
  obtain ⟨r2, q3, h⟩ := bindE h
  have c3 : F104 [.agg [.sl 1 (rows ci_u8 s.code_), .i .i64 s.at_, .i .u64 s.seed_]] = some (.tup [.i .i64 r2.1, .agg [.sl 1 (rows ci_u8 r2.2.code_), .i .i64 r2.2.at_, .i .u64 r2.2.seed_]]) := tells_eq inj104 (a := s) q3
  refine VW.evalM (CM := [(104, F104)]) (tm 20 [(0, .ptr bb 0 0), (1, .i .i64 n), (5, .i .i64 r2.1)]) (mm.set bb (some (nn, [[.sl 1 (rows ci_u8 r2.2.code_), .i .i64 r2.2.at_, .i .u64 r2.2.seed_]]))) gg hC ⟨ok104, trivial⟩ (by simp -implicitDefEqProofs [c3, hS]) (VW.seq (VW.seq (VW.rA (tm 20 [(0, .ptr bb 0 0), (1, .i .i64 n), (5, .i .i64 r2.1), (11, .b (ltI 200 n))]) (mm.set bb (some (nn, [[.sl 1 (rows ci_u8 r2.2.code_), .i .i64 r2.2.at_, .i .u64 r2.2.seed_]]))) gg hC (VW.condJ h (fun h => ?_) (fun h => ?_)) (h := by simp -implicitDefEqProofs [hS]))))
  · refine VW.skip (VW.seq ?_)
    obtain ⟨d9, q10, h⟩ := bindE h
    refine VW.rA (tm 20 [(4, .i .i64 d9)]) (mm.set bb (some (nn, [[.sl 1 (rows ci_u8 r2.2.code_), .i .i64 r2.2.at_, .i .u64 r2.2.seed_]]))) gg hC ?_ (h := by simp -implicitDefEqProofs [q10, hS])
    obtain rfl := leafS h
    simp only [eB83, V.tup.injEq, V.agg.injEq, List.cons.injEq, and_true] at hE2
    obtain ⟨rfl, rfl⟩ := hE2
    exact VW.ret (VInE.fin (by simp) (by simp) rfl)
  obtain ⟨r5, q6, h⟩ := bindE h
  have c6 : F104 [.agg [.sl 1 (rows ci_u8 r2.2.code_), .i .i64 r2.2.at_, .i .u64 r2.2.seed_]] = some (.tup [.i .i64 r5.1, .agg [.sl 1 (rows ci_u8 r5.2.code_), .i .i64 r5.2.at_, .i .u64 r5.2.seed_]]) := tells_eq inj104 (a := r2.2) q6
  refine VW.evalM (CM := [(104, F104)]) (tm 20 [(1, .i .i64 n), (5, .i .i64 (aI .i64 (mI .i64 r2.1 256) r5.1))]) (mm.set bb (some (nn, [[.sl 1 (rows ci_u8 r5.2.code_), .i .i64 r5.2.at_, .i .u64 r5.2.seed_]]))) gg hC ⟨ok104, trivial⟩ (by simp -implicitDefEqProofs [c6, hS]) (VW.seq ?_)
  obtain ⟨d7, q8, h⟩ := bindE h
  refine VW.rA (tm 20 [(4, .i .i64 d7)]) (mm.set bb (some (nn, [[.sl 1 (rows ci_u8 r5.2.code_), .i .i64 r5.2.at_, .i .u64 r5.2.seed_]]))) gg hC ?_ (h := by simp -implicitDefEqProofs [q8, hS])
  obtain rfl := leafS h
  simp only [eB83, V.tup.injEq, V.agg.injEq, List.cons.injEq, and_true] at hE2
  obtain ⟨rfl, rfl⟩ := hE2
  exact VW.ret (VInE.fin (by simp) (by simp) rfl)
noncomputable def g35_j1 (r104 : Int × T138) (r106 : Int × T138) (r108 : Int × T138) (r118 : Int × T138) (e116 : Int) (y161 : List Int) (y162 : Int) (y163 : Int) (l164 : List Int) (l165 : List Int) : Option (T29) :=
some (⟨l164, l165, aI .i64 1 r104.1, aI .i64 5 r106.1, r108.1, r118.1, e116⟩ : T29)
noncomputable def g35_L1 : (Int × (List Int) × Int × Int × (List Int) × (List Int)) → Option ((Int × (List Int) × Int × Int × (List Int) × (List Int)) ⊕ ((List Int) × Int × Int × (List Int) × (List Int)))
| (k_192, y193, y194, y195, l196, l197) =>
if ltI 0 k_192 = true then
(g83 (⟨y193, y194, y195⟩ : T138) 30).bind fun r199 =>
(appK 8 l196 [r199.1]).bind fun u201 =>
(g83 r199.2 7).bind fun r203 =>
(appK 8 l197 [r203.1]).bind fun u205 =>
some (.inl (sI .i64 k_192 1, r203.2.code_, r203.2.at_, r203.2.seed_, (l196 ++ [r199.1]), (l197 ++ [r203.1])))
else
some (.inr (y193, y194, y195, l196, l197))
noncomputable def g35 (code : List Int) : Option (T29) :=
(g83 (⟨code, 0, 0⟩ : T138) 5).bind fun r104 =>
(g83 r104.2 8).bind fun r106 =>
(g83 r106.2 25).bind fun r108 =>
(g83 r108.2 ([0, 0, 10, 25, 50, 100].length : Int)).bind fun r114 =>
(idx [0, 0, 10, 25, 50, 100] r114.1).bind fun e116 =>
(g83 r114.2 (aI .i64 r108.1 1)).bind fun r118 =>
(g83 r118.2 5).bind fun r166 =>
(loopO g35_L1 (aI .i64 1 r166.1, r166.2.code_, r166.2.at_, r166.2.seed_, [], [])).bind fun w => g35_j1 r104 r106 r108 r118 e116 w.1 w.2.1 w.2.2.1 w.2.2.2.1 w.2.2.2.2
def eA35 (a : List Int) : List V := [.sl 1 (rows ci_u8 a)]
def eB35 (r : T29) : V := .agg [.own 1 (rows ci_i64 r.need_), .own 1 (rows ci_i64 r.price_), .i .i64 r.most_, .i .i64 r.yield_, .i .i64 r.store_, .i .i64 r.first_, .i .i64 r.loss_]
theorem inj35 (a a' : List Int) (h : eA35 a = eA35 a') : a = a' := by
  obtain i315 := a
  obtain i316 := a'
  simp only [eA35, List.cons.injEq, V.i.injEq, V.b.injEq, V.f.injEq, V.str.injEq, V.sl.injEq, V.agg.injEq, V.cptr.injEq, true_and, and_true] at h
  simp_all [ri ci_u8_inj]
noncomputable def F35 : List V → Option V := tells (fun a => g35 a) eA35 eB35
/- loop.example/g01229/spec.A2Season -/
theorem ok35 : Tells Tryd.prog 35 F35 := by
 refine Tells.go 6 Tryd.func35 rfl rfl rfl (by kernel_rfl) (fun _ => rfl) ?_
 rintro code r h
 simp only [eA35, en, Nat.reduceAdd]
 replace h : (g35 code).bind some = some r := bindS h
 rw [g35] at h
 have hC : CEnv.Ok Tryd.prog [] := trivial
 refine VW.seq (VW.rE (tm 6 [(0, .sl 1 (rows ci_u8 code)), (2, .ptr 0 0 0)]) [some (7, [[.nil, .nil, .i .i64 0, .i .i64 0, .i .i64 0, .i .i64 0, .i .i64 0]])] [] hC (Ent.trans (Ent.nilref (m := [some (7, [[.nil, .nil, .i .i64 0, .i .i64 0, .i .i64 0, .i .i64 0, .i .i64 0]])]) 0 1 [some (7, [[.ref 1 0 0, .nil, .i .i64 0, .i .i64 0, .i .i64 0, .i .i64 0, .i .i64 0]]), some (1, rows ci_i64 [])] rfl (by simp) rfl) (Ent.nilref (m := [some (7, [[.ref 1 0 0, .nil, .i .i64 0, .i .i64 0, .i .i64 0, .i .i64 0, .i .i64 0]]), some (1, rows ci_i64 [])]) 0 1 [some (7, [[.ref 1 0 0, .ref 2 0 0, .i .i64 0, .i .i64 0, .i .i64 0, .i .i64 0, .i .i64 0]]), some (1, rows ci_i64 []), some (1, rows ci_i64 [])] rfl (by simp) rfl) ) (VW.seq (VW.inlS (VL.inlP 1 (tm 6 [(2, .ptr 0 0 0), (3, .sl 1 (rows ci_u8 code))]) [some (7, [[.ref 1 0 0, .ref 2 0 0, .i .i64 0, .i .i64 0, .i .i64 0, .i .i64 0, .i .i64 0]]), some (1, rows ci_i64 []), some (1, rows ci_i64 [])] [] rfl hC (by kernel_rfl) (by simp -implicitDefEqProofs) rfl rfl Tryd.func82 rfl rfl rfl rfl (tm_length) (VW.ent (s := (⟨(tm 6 [(0, .sl 1 (rows ci_u8 code))]), [some (7, [[.ref 1 0 0, .ref 2 0 0, .i .i64 0, .i .i64 0, .i .i64 0, .i .i64 0, .i .i64 0]]), some (1, rows ci_i64 []), some (1, rows ci_i64 [])], ((tm 6 [(2, .ptr 0 0 0), (3, .sl 1 (rows ci_u8 code))]) ++ [])⟩ : VS)) (Ent.eqs (by rw [tm_init]; simp) rfl (by simp)) (VW.seq (VW.rA (tm 6 [(0, .sl 1 (rows ci_u8 code))]) [some (7, [[.ref 1 0 0, .ref 2 0 0, .i .i64 0, .i .i64 0, .i .i64 0, .i .i64 0, .i .i64 0]]), some (1, rows ci_i64 []), some (1, rows ci_i64 [])] ((tm 6 [(2, .ptr 0 0 0), (3, .sl 1 (rows ci_u8 code))]) ++ []) hC (VW.seq (VW.rA (tm 6 [(2, .ptr 3 0 0)]) [some (7, [[.ref 1 0 0, .ref 2 0 0, .i .i64 0, .i .i64 0, .i .i64 0, .i .i64 0, .i .i64 0]]), some (1, rows ci_i64 []), some (1, rows ci_i64 []), some (3, [[.sl 1 (rows ci_u8 code), .i .i64 0, .i .u64 0]])] ((tm 6 [(2, .ptr 0 0 0), (3, .sl 1 (rows ci_u8 code))]) ++ []) hC (VW.ret (VIn.ret (v := .ptr 3 0 0) (by simp) (VL.inlP 0 (tm 6 [(2, .ptr 0 0 0), (4, .ptr 3 0 0)]) [some (7, [[.ref 1 0 0, .ref 2 0 0, .i .i64 0, .i .i64 0, .i .i64 0, .i .i64 0, .i .i64 0]]), some (1, rows ci_i64 []), some (1, rows ci_i64 []), some (3, [[.sl 1 (rows ci_u8 code), .i .i64 0, .i .u64 0]])] [] rfl hC (by kernel_rfl) (by simp -implicitDefEqProofs) rfl rfl Tryd.func81 rfl rfl rfl rfl (tm_length) (VW.ent (s := (⟨(tm 45 [(0, .ptr 3 0 0)]), [some (7, [[.ref 1 0 0, .ref 2 0 0, .i .i64 0, .i .i64 0, .i .i64 0, .i .i64 0, .i .i64 0]]), some (1, rows ci_i64 []), some (1, rows ci_i64 []), some (3, [[.sl 1 (rows ci_u8 code), .i .i64 0, .i .u64 0]])], ((tm 6 [(2, .ptr 0 0 0), (4, .ptr 3 0 0)]) ++ [])⟩ : VS)) (Ent.eqs (by rw [tm_init]; simp) rfl (by simp)) (VW.seq (VW.rE (tm 45 [(0, .ptr 3 0 0), (2, .ptr 4 0 0)]) [some (7, [[.ref 1 0 0, .ref 2 0 0, .i .i64 0, .i .i64 0, .i .i64 0, .i .i64 0, .i .i64 0]]), some (1, rows ci_i64 []), some (1, rows ci_i64 []), some (3, [[.sl 1 (rows ci_u8 code), .i .i64 0, .i .u64 0]]), some (7, [[.nil, .nil, .i .i64 0, .i .i64 0, .i .i64 0, .i .i64 0, .i .i64 0]])] ((tm 6 [(2, .ptr 0 0 0), (4, .ptr 3 0 0)]) ++ []) hC (Ent.trans (Ent.nilref (m := [some (7, [[.ref 1 0 0, .ref 2 0 0, .i .i64 0, .i .i64 0, .i .i64 0, .i .i64 0, .i .i64 0]]), some (1, rows ci_i64 []), some (1, rows ci_i64 []), some (3, [[.sl 1 (rows ci_u8 code), .i .i64 0, .i .u64 0]]), some (7, [[.nil, .nil, .i .i64 0, .i .i64 0, .i .i64 0, .i .i64 0, .i .i64 0]])]) 4 1 [some (7, [[.ref 1 0 0, .ref 2 0 0, .i .i64 0, .i .i64 0, .i .i64 0, .i .i64 0, .i .i64 0]]), some (1, rows ci_i64 []), some (1, rows ci_i64 []), some (3, [[.sl 1 (rows ci_u8 code), .i .i64 0, .i .u64 0]]), some (7, [[.ref 5 0 0, .nil, .i .i64 0, .i .i64 0, .i .i64 0, .i .i64 0, .i .i64 0]]), some (1, rows ci_i64 [])] rfl (by simp) rfl) (Ent.nilref (m := [some (7, [[.ref 1 0 0, .ref 2 0 0, .i .i64 0, .i .i64 0, .i .i64 0, .i .i64 0, .i .i64 0]]), some (1, rows ci_i64 []), some (1, rows ci_i64 []), some (3, [[.sl 1 (rows ci_u8 code), .i .i64 0, .i .u64 0]]), some (7, [[.ref 5 0 0, .nil, .i .i64 0, .i .i64 0, .i .i64 0, .i .i64 0, .i .i64 0]]), some (1, rows ci_i64 [])]) 4 1 [some (7, [[.ref 1 0 0, .ref 2 0 0, .i .i64 0, .i .i64 0, .i .i64 0, .i .i64 0, .i .i64 0]]), some (1, rows ci_i64 []), some (1, rows ci_i64 []), some (3, [[.sl 1 (rows ci_u8 code), .i .i64 0, .i .u64 0]]), some (7, [[.ref 5 0 0, .ref 6 0 0, .i .i64 0, .i .i64 0, .i .i64 0, .i .i64 0, .i .i64 0]]), some (1, rows ci_i64 []), some (1, rows ci_i64 [])] rfl (by simp) rfl) ) (VW.seq (VW.inlS ?_)))))))))))))))))
 obtain ⟨r104, q105, h⟩ := bindE h
 have c105 : F83 [.agg [.sl 1 (rows ci_u8 code), .i .i64 0, .i .u64 0], .i .i64 5] = some (.tup [.i .i64 r104.1, .agg [.sl 1 (rows ci_u8 r104.2.code_), .i .i64 r104.2.at_, .i .u64 r104.2.seed_]]) := tells_eq inj83 (a := ((⟨code, 0, 0⟩ : T138), 5)) q105
 obtain ⟨r106, q107, h⟩ := bindE h
 have c107 : F83 [.agg [.sl 1 (rows ci_u8 r104.2.code_), .i .i64 r104.2.at_, .i .u64 r104.2.seed_], .i .i64 8] = some (.tup [.i .i64 r106.1, .agg [.sl 1 (rows ci_u8 r106.2.code_), .i .i64 r106.2.at_, .i .u64 r106.2.seed_]]) := tells_eq inj83 (a := (r104.2, 8)) q107
 obtain ⟨r108, q109, h⟩ := bindE h
 have c109 : F83 [.agg [.sl 1 (rows ci_u8 r106.2.code_), .i .i64 r106.2.at_, .i .u64 r106.2.seed_], .i .i64 25] = some (.tup [.i .i64 r108.1, .agg [.sl 1 (rows ci_u8 r108.2.code_), .i .i64 r108.2.at_, .i .u64 r108.2.seed_]]) := tells_eq inj83 (a := (r106.2, 25)) q109
 refine VL.evalM (CM := [(83, F83)]) 10 (tm 45 [(0, .ptr 3 0 0), (2, .ptr 4 0 0), (7, .i .i64 (aI .i64 1 r104.1)), (10, .i .i64 (aI .i64 5 r106.1)), (12, .i .i64 r108.1), (13, .ptr 3 0 0), (14, .ref 7 0 [0, 0, 10, 25, 50, 100].length)]) [some (7, [[.ref 1 0 0, .ref 2 0 0, .i .i64 0, .i .i64 0, .i .i64 0, .i .i64 0, .i .i64 0]]), some (1, rows ci_i64 []), some (1, rows ci_i64 []), some (3, [[.sl 1 (rows ci_u8 r108.2.code_), .i .i64 r108.2.at_, .i .u64 r108.2.seed_]]), some (7, [[.ref 5 0 0, .ref 6 0 0, .i .i64 0, .i .i64 0, .i .i64 0, .i .i64 0, .i .i64 0]]), some (1, rows ci_i64 []), some (1, rows ci_i64 []), some (1, rows ci_i64 [0, 0, 10, 25, 50, 100])] ((tm 6 [(2, .ptr 0 0 0), (4, .ptr 3 0 0)]) ++ []) hC ⟨ok83, trivial⟩ (by simp -implicitDefEqProofs [c105, c107, c109]) (VL.inlP 0 (tm 45 [(0, .ptr 3 0 0), (2, .ptr 4 0 0), (7, .i .i64 (aI .i64 1 r104.1)), (10, .i .i64 (aI .i64 5 r106.1)), (12, .i .i64 r108.1), (13, .ptr 3 0 0), (14, .ref 7 0 [0, 0, 10, 25, 50, 100].length)]) [some (7, [[.ref 1 0 0, .ref 2 0 0, .i .i64 0, .i .i64 0, .i .i64 0, .i .i64 0, .i .i64 0]]), some (1, rows ci_i64 []), some (1, rows ci_i64 []), some (3, [[.sl 1 (rows ci_u8 r108.2.code_), .i .i64 r108.2.at_, .i .u64 r108.2.seed_]]), some (7, [[.ref 5 0 0, .ref 6 0 0, .i .i64 0, .i .i64 0, .i .i64 0, .i .i64 0, .i .i64 0]]), some (1, rows ci_i64 []), some (1, rows ci_i64 []), some (1, rows ci_i64 [0, 0, 10, 25, 50, 100])] ((tm 6 [(2, .ptr 0 0 0), (4, .ptr 3 0 0)]) ++ []) rfl hC (by kernel_rfl) (by simp -implicitDefEqProofs) rfl rfl Tryd.func103 rfl rfl rfl rfl (tm_length) (VW.ent (s := (⟨(tm 12 [(0, .ptr 3 0 0), (1, .ref 7 0 [0, 0, 10, 25, 50, 100].length)]), [some (7, [[.ref 1 0 0, .ref 2 0 0, .i .i64 0, .i .i64 0, .i .i64 0, .i .i64 0, .i .i64 0]]), some (1, rows ci_i64 []), some (1, rows ci_i64 []), some (3, [[.sl 1 (rows ci_u8 r108.2.code_), .i .i64 r108.2.at_, .i .u64 r108.2.seed_]]), some (7, [[.ref 5 0 0, .ref 6 0 0, .i .i64 0, .i .i64 0, .i .i64 0, .i .i64 0, .i .i64 0]]), some (1, rows ci_i64 []), some (1, rows ci_i64 []), some (1, rows ci_i64 [0, 0, 10, 25, 50, 100])], ((tm 45 [(0, .ptr 3 0 0), (2, .ptr 4 0 0), (7, .i .i64 (aI .i64 1 r104.1)), (10, .i .i64 (aI .i64 5 r106.1)), (12, .i .i64 r108.1), (13, .ptr 3 0 0), (14, .ref 7 0 [0, 0, 10, 25, 50, 100].length)]) ++ ((tm 6 [(2, .ptr 0 0 0), (4, .ptr 3 0 0)]) ++ []))⟩ : VS)) (Ent.eqs (by rw [tm_init]; simp) rfl (by simp)) (VW.seq (VW.rA (tm 12 [(0, .ptr 3 0 0), (1, .ref 7 0 [0, 0, 10, 25, 50, 100].length)]) [some (7, [[.ref 1 0 0, .ref 2 0 0, .i .i64 0, .i .i64 0, .i .i64 0, .i .i64 0, .i .i64 0]]), some (1, rows ci_i64 []), some (1, rows ci_i64 []), some (3, [[.sl 1 (rows ci_u8 r108.2.code_), .i .i64 r108.2.at_, .i .u64 r108.2.seed_]]), some (7, [[.ref 5 0 0, .ref 6 0 0, .i .i64 0, .i .i64 0, .i .i64 0, .i .i64 0, .i .i64 0]]), some (1, rows ci_i64 []), some (1, rows ci_i64 []), some (1, rows ci_i64 [0, 0, 10, 25, 50, 100])] ((tm 45 [(0, .ptr 3 0 0), (2, .ptr 4 0 0), (7, .i .i64 (aI .i64 1 r104.1)), (10, .i .i64 (aI .i64 5 r106.1)), (12, .i .i64 r108.1), (13, .ptr 3 0 0), (14, .ref 7 0 [0, 0, 10, 25, 50, 100].length)]) ++ ((tm 6 [(2, .ptr 0 0 0), (4, .ptr 3 0 0)]) ++ [])) hC (VW.seq ?_)))))
 obtain ⟨r114, q115, h⟩ := bindE h
 have c115 : F83 [.agg [.sl 1 (rows ci_u8 r108.2.code_), .i .i64 r108.2.at_, .i .u64 r108.2.seed_], .i .i64 ([0, 0, 10, 25, 50, 100].length : Int)] = some (.tup [.i .i64 r114.1, .agg [.sl 1 (rows ci_u8 r114.2.code_), .i .i64 r114.2.at_, .i .u64 r114.2.seed_]]) := tells_eq inj83 (a := (r108.2, ([0, 0, 10, 25, 50, 100].length : Int))) q115
 simp only [List.length_cons, List.length_nil, Nat.reduceAdd, Nat.zero_add, Int.cast_ofNat_Int] at c115
 obtain ⟨e116, ⟨f117a, f117b, f117c, f117d⟩, h⟩ := bindI h
 have f117e := row_at (c := ci_i64) f117d
 simp only [rows_cons, rows_nil, ci_i64] at f117e
 try simp only [List.length_cons, List.length_nil, Nat.reduceAdd, Nat.zero_add, Int.cast_ofNat_Int] at f117a f117b f117c f117d
 refine VW.evalM (CM := [(83, F83)]) (tm 12 [(4, .i .i64 e116)]) [some (7, [[.ref 1 0 0, .ref 2 0 0, .i .i64 0, .i .i64 0, .i .i64 0, .i .i64 0, .i .i64 0]]), some (1, rows ci_i64 []), some (1, rows ci_i64 []), some (3, [[.sl 1 (rows ci_u8 r114.2.code_), .i .i64 r114.2.at_, .i .u64 r114.2.seed_]]), some (7, [[.ref 5 0 0, .ref 6 0 0, .i .i64 0, .i .i64 0, .i .i64 0, .i .i64 0, .i .i64 0]]), some (1, rows ci_i64 []), some (1, rows ci_i64 []), some (1, rows ci_i64 [0, 0, 10, 25, 50, 100])] ((tm 45 [(0, .ptr 3 0 0), (2, .ptr 4 0 0), (7, .i .i64 (aI .i64 1 r104.1)), (10, .i .i64 (aI .i64 5 r106.1)), (12, .i .i64 r108.1), (13, .ptr 3 0 0), (14, .ref 7 0 [0, 0, 10, 25, 50, 100].length)]) ++ ((tm 6 [(2, .ptr 0 0 0), (4, .ptr 3 0 0)]) ++ [])) hC ⟨ok83, trivial⟩ (by simp -implicitDefEqProofs [c115, f117a, f117b, f117c, f117d, f117e]) (VW.ret (VIn.ret (v := .i .i64 e116) (by simp) (VL.evalP (tm 45 [(0, .ptr 3 0 0), (2, .ptr 4 0 0), (3, .ptr 8 0 0)]) [some (7, [[.ref 1 0 0, .ref 2 0 0, .i .i64 0, .i .i64 0, .i .i64 0, .i .i64 0, .i .i64 0]]), some (1, rows ci_i64 []), some (1, rows ci_i64 []), some (3, [[.sl 1 (rows ci_u8 r114.2.code_), .i .i64 r114.2.at_, .i .u64 r114.2.seed_]]), some (7, [[.ref 5 0 0, .ref 6 0 0, .i .i64 0, .i .i64 0, .i .i64 0, .i .i64 0, .i .i64 0]]), some (1, rows ci_i64 []), some (1, rows ci_i64 []), some (1, rows ci_i64 [0, 0, 10, 25, 50, 100]), some (7, [[.nil, .nil, .i .i64 (aI .i64 1 r104.1), .i .i64 (aI .i64 5 r106.1), .i .i64 r108.1, .i .i64 0, .i .i64 e116]])] ((tm 6 [(2, .ptr 0 0 0), (4, .ptr 3 0 0)]) ++ []) hC (by kernel_rfl) (by simp -implicitDefEqProofs) (VW.seq ?_))))
 obtain ⟨r118, q119, h⟩ := bindE h
 have c119 : F83 [.agg [.sl 1 (rows ci_u8 r114.2.code_), .i .i64 r114.2.at_, .i .u64 r114.2.seed_], .i .i64 (aI .i64 r108.1 1)] = some (.tup [.i .i64 r118.1, .agg [.sl 1 (rows ci_u8 r118.2.code_), .i .i64 r118.2.at_, .i .u64 r118.2.seed_]]) := tells_eq inj83 (a := (r114.2, aI .i64 r108.1 1)) q119
 refine VW.evalM (CM := [(83, F83)]) (tm 45 [(0, .ptr 3 0 0), (2, .ptr 4 0 0), (3, .ptr 8 0 0)]) [some (7, [[.ref 1 0 0, .ref 2 0 0, .i .i64 0, .i .i64 0, .i .i64 0, .i .i64 0, .i .i64 0]]), some (1, rows ci_i64 []), some (1, rows ci_i64 []), some (3, [[.sl 1 (rows ci_u8 r118.2.code_), .i .i64 r118.2.at_, .i .u64 r118.2.seed_]]), some (7, [[.ref 5 0 0, .ref 6 0 0, .i .i64 0, .i .i64 0, .i .i64 0, .i .i64 0, .i .i64 0]]), some (1, rows ci_i64 []), some (1, rows ci_i64 []), some (1, rows ci_i64 [0, 0, 10, 25, 50, 100]), some (7, [[.nil, .nil, .i .i64 (aI .i64 1 r104.1), .i .i64 (aI .i64 5 r106.1), .i .i64 r108.1, .i .i64 r118.1, .i .i64 e116]])] ((tm 6 [(2, .ptr 0 0 0), (4, .ptr 3 0 0)]) ++ []) hC ⟨ok83, trivial⟩ (by simp -implicitDefEqProofs [c119]) (VW.ent (Ent.nilref (m := [some (7, [[.ref 1 0 0, .ref 2 0 0, .i .i64 0, .i .i64 0, .i .i64 0, .i .i64 0, .i .i64 0]]), some (1, rows ci_i64 []), some (1, rows ci_i64 []), some (3, [[.sl 1 (rows ci_u8 r118.2.code_), .i .i64 r118.2.at_, .i .u64 r118.2.seed_]]), some (7, [[.ref 5 0 0, .ref 6 0 0, .i .i64 0, .i .i64 0, .i .i64 0, .i .i64 0, .i .i64 0]]), some (1, rows ci_i64 []), some (1, rows ci_i64 []), some (1, rows ci_i64 [0, 0, 10, 25, 50, 100]), some (7, [[.nil, .nil, .i .i64 (aI .i64 1 r104.1), .i .i64 (aI .i64 5 r106.1), .i .i64 r108.1, .i .i64 r118.1, .i .i64 e116]])]) 8 1 [some (7, [[.ref 1 0 0, .ref 2 0 0, .i .i64 0, .i .i64 0, .i .i64 0, .i .i64 0, .i .i64 0]]), some (1, rows ci_i64 []), some (1, rows ci_i64 []), some (3, [[.sl 1 (rows ci_u8 r118.2.code_), .i .i64 r118.2.at_, .i .u64 r118.2.seed_]]), some (7, [[.ref 5 0 0, .ref 6 0 0, .i .i64 0, .i .i64 0, .i .i64 0, .i .i64 0, .i .i64 0]]), some (1, rows ci_i64 []), some (1, rows ci_i64 []), some (1, rows ci_i64 [0, 0, 10, 25, 50, 100]), some (7, [[.ref 9 0 0, .nil, .i .i64 (aI .i64 1 r104.1), .i .i64 (aI .i64 5 r106.1), .i .i64 r108.1, .i .i64 r118.1, .i .i64 e116]]), some (1, rows ci_i64 [])] rfl (by simp) rfl) (VW.ent (Ent.nilref (m := [some (7, [[.ref 1 0 0, .ref 2 0 0, .i .i64 0, .i .i64 0, .i .i64 0, .i .i64 0, .i .i64 0]]), some (1, rows ci_i64 []), some (1, rows ci_i64 []), some (3, [[.sl 1 (rows ci_u8 r118.2.code_), .i .i64 r118.2.at_, .i .u64 r118.2.seed_]]), some (7, [[.ref 5 0 0, .ref 6 0 0, .i .i64 0, .i .i64 0, .i .i64 0, .i .i64 0, .i .i64 0]]), some (1, rows ci_i64 []), some (1, rows ci_i64 []), some (1, rows ci_i64 [0, 0, 10, 25, 50, 100]), some (7, [[.ref 9 0 0, .nil, .i .i64 (aI .i64 1 r104.1), .i .i64 (aI .i64 5 r106.1), .i .i64 r108.1, .i .i64 r118.1, .i .i64 e116]]), some (1, rows ci_i64 [])]) 8 1 [some (7, [[.ref 1 0 0, .ref 2 0 0, .i .i64 0, .i .i64 0, .i .i64 0, .i .i64 0, .i .i64 0]]), some (1, rows ci_i64 []), some (1, rows ci_i64 []), some (3, [[.sl 1 (rows ci_u8 r118.2.code_), .i .i64 r118.2.at_, .i .u64 r118.2.seed_]]), some (7, [[.ref 5 0 0, .ref 6 0 0, .i .i64 0, .i .i64 0, .i .i64 0, .i .i64 0, .i .i64 0]]), some (1, rows ci_i64 []), some (1, rows ci_i64 []), some (1, rows ci_i64 [0, 0, 10, 25, 50, 100]), some (7, [[.ref 9 0 0, .ref 10 0 0, .i .i64 (aI .i64 1 r104.1), .i .i64 (aI .i64 5 r106.1), .i .i64 r108.1, .i .i64 r118.1, .i .i64 e116]]), some (1, rows ci_i64 []), some (1, rows ci_i64 [])] rfl (by simp) rfl) (VW.join (fun (v : (List Int) × Int × Int × (List Int) × (List Int)) => (⟨(tm 45 [(2, .ptr 4 0 0), (3, .ptr 8 0 0)]), [some (7, [[.ref 1 0 0, .ref 2 0 0, .i .i64 0, .i .i64 0, .i .i64 0, .i .i64 0, .i .i64 0]]), some (1, rows ci_i64 []), some (1, rows ci_i64 []), some (3, [[.sl 1 (rows ci_u8 v.1), .i .i64 v.2.1, .i .u64 v.2.2.1]]), some (7, [[.ref 5 0 0, .ref 6 0 0, .i .i64 0, .i .i64 0, .i .i64 0, .i .i64 0, .i .i64 0]]), some (1, rows ci_i64 []), some (1, rows ci_i64 []), some (1, rows ci_i64 [0, 0, 10, 25, 50, 100]), some (7, [[.ref 9 0 v.2.2.2.1.length, .ref 10 0 v.2.2.2.2.length, .i .i64 (aI .i64 1 r104.1), .i .i64 (aI .i64 5 r106.1), .i .i64 r108.1, .i .i64 r118.1, .i .i64 e116]]), some (1, rows ci_i64 v.2.2.2.1), some (1, rows ci_i64 v.2.2.2.2)], ((tm 6 [(2, .ptr 0 0 0), (4, .ptr 3 0 0)]) ++ [])⟩ : VS)) (fun v => (g35_j1 r104 r106 r108 r118 e116 (v.1) (v.2.1) (v.2.2.1) (v.2.2.2.1) (v.2.2.2.2)).bind some = some r) ?_ ?_)))
 · refine VW.seq ?_
   obtain ⟨r166, q167, h⟩ := bindE h
   have c167 : F83 [.agg [.sl 1 (rows ci_u8 r118.2.code_), .i .i64 r118.2.at_, .i .u64 r118.2.seed_], .i .i64 5] = some (.tup [.i .i64 r166.1, .agg [.sl 1 (rows ci_u8 r166.2.code_), .i .i64 r166.2.at_, .i .u64 r166.2.seed_]]) := tells_eq inj83 (a := (r118.2, 5)) q167
   refine VW.evalM (CM := [(83, F83)]) (tm 45 [(0, .ptr 3 0 0), (2, .ptr 4 0 0), (3, .ptr 8 0 0), (4, .i .i64 (aI .i64 1 r166.1))]) [some (7, [[.ref 1 0 0, .ref 2 0 0, .i .i64 0, .i .i64 0, .i .i64 0, .i .i64 0, .i .i64 0]]), some (1, rows ci_i64 []), some (1, rows ci_i64 []), some (3, [[.sl 1 (rows ci_u8 r166.2.code_), .i .i64 r166.2.at_, .i .u64 r166.2.seed_]]), some (7, [[.ref 5 0 0, .ref 6 0 0, .i .i64 0, .i .i64 0, .i .i64 0, .i .i64 0, .i .i64 0]]), some (1, rows ci_i64 []), some (1, rows ci_i64 []), some (1, rows ci_i64 [0, 0, 10, 25, 50, 100]), some (7, [[.ref 9 0 0, .ref 10 0 0, .i .i64 (aI .i64 1 r104.1), .i .i64 (aI .i64 5 r106.1), .i .i64 r108.1, .i .i64 r118.1, .i .i64 e116]]), some (1, rows ci_i64 []), some (1, rows ci_i64 [])] ((tm 6 [(2, .ptr 0 0 0), (4, .ptr 3 0 0)]) ++ []) hC ⟨ok83, trivial⟩ (by simp -implicitDefEqProofs [c167]) (VW.block ?_)
   obtain ⟨w_1, hw_1, h⟩ := bindE h
   refine VW.loopO (fun (x : Int × (List Int) × Int × Int × (List Int) × (List Int)) => (⟨(tm 45 [(0, .ptr 3 0 0), (2, .ptr 4 0 0), (3, .ptr 8 0 0), (4, .i .i64 x.1)]), [some (7, [[.ref 1 0 0, .ref 2 0 0, .i .i64 0, .i .i64 0, .i .i64 0, .i .i64 0, .i .i64 0]]), some (1, rows ci_i64 []), some (1, rows ci_i64 []), some (3, [[.sl 1 (rows ci_u8 x.2.1), .i .i64 x.2.2.1, .i .u64 x.2.2.2.1]]), some (7, [[.ref 5 0 0, .ref 6 0 0, .i .i64 0, .i .i64 0, .i .i64 0, .i .i64 0, .i .i64 0]]), some (1, rows ci_i64 []), some (1, rows ci_i64 []), some (1, rows ci_i64 [0, 0, 10, 25, 50, 100]), some (7, [[.ref 9 0 x.2.2.2.2.1.length, .ref 10 0 x.2.2.2.2.2.length, .i .i64 (aI .i64 1 r104.1), .i .i64 (aI .i64 5 r106.1), .i .i64 r108.1, .i .i64 r118.1, .i .i64 e116]]), some (1, rows ci_i64 x.2.2.2.2.1), some (1, rows ci_i64 x.2.2.2.2.2)], ((tm 6 [(2, .ptr 0 0 0), (4, .ptr 3 0 0)]) ++ [])⟩ : VS)) hw_1 (Ent.tu 11) ?_
   rintro n_1 ⟨k_192, y193, y194, y195, l196, l197⟩ h1
   rw [g35_L1] at h1
   refine VW.seq (VW.seq (VW.rA (tm 45 [(0, .ptr 3 0 0), (2, .ptr 4 0 0), (3, .ptr 8 0 0), (4, .i .i64 k_192), (27, .b (ltI 0 k_192))]) [some (7, [[.ref 1 0 0, .ref 2 0 0, .i .i64 0, .i .i64 0, .i .i64 0, .i .i64 0, .i .i64 0]]), some (1, rows ci_i64 []), some (1, rows ci_i64 []), some (3, [[.sl 1 (rows ci_u8 y193), .i .i64 y194, .i .u64 y195]]), some (7, [[.ref 5 0 0, .ref 6 0 0, .i .i64 0, .i .i64 0, .i .i64 0, .i .i64 0, .i .i64 0]]), some (1, rows ci_i64 []), some (1, rows ci_i64 []), some (1, rows ci_i64 [0, 0, 10, 25, 50, 100]), some (7, [[.ref 9 0 l196.length, .ref 10 0 l197.length, .i .i64 (aI .i64 1 r104.1), .i .i64 (aI .i64 5 r106.1), .i .i64 r108.1, .i .i64 r118.1, .i .i64 e116]]), some (1, rows ci_i64 l196), some (1, rows ci_i64 l197)] ((tm 6 [(2, .ptr 0 0 0), (4, .ptr 3 0 0)]) ++ []) hC (VW.condJ h1 (fun h1 => ?_) (fun h1 => ?_))))
   · refine VW.exit ?_
     have e_ := leafR h1
     subst w_1
     exact vnext (y193, y194, y195, l196, l197) h (Ent.tu 11)
   refine VW.skip (VW.seq (VW.block (VW.seq ?_)))
   obtain ⟨r199, q200, h1⟩ := bindE h1
   have c200 : F83 [.agg [.sl 1 (rows ci_u8 y193), .i .i64 y194, .i .u64 y195], .i .i64 30] = some (.tup [.i .i64 r199.1, .agg [.sl 1 (rows ci_u8 r199.2.code_), .i .i64 r199.2.at_, .i .u64 r199.2.seed_]]) := tells_eq inj83 (a := ((⟨y193, y194, y195⟩ : T138), 30)) q200
   obtain ⟨u201, ⟨f202a, f202b⟩, h1⟩ := bindP h1
   try simp only [Int.toNat_natCast, Int.reduceToNat, List.length_cons, List.length_nil, Nat.reduceAdd, Nat.zero_add] at f202a f202b
   refine VW.evalMA (CM := [(83, F83)]) [[0, 1, 2, 3, 4, 5, 6, 7], [0, 2, 1, 3, 4, 5, 6, 7], [0, 2, 3, 1, 4, 5, 6, 7], [0, 2, 3, 4, 1, 5, 6, 7], [2, 0, 1, 3, 4, 5, 6, 7], [2, 0, 3, 1, 4, 5, 6, 7], [2, 0, 3, 4, 1, 5, 6, 7], [2, 3, 0, 1, 4, 5, 6, 7], [2, 3, 0, 4, 1, 5, 6, 7], [2, 3, 4, 0, 1, 5, 6, 7]] (tm 45 [(0, .ptr 3 0 0), (2, .ptr 4 0 0), (3, .ptr 8 0 0), (4, .i .i64 k_192)]) [some (7, [[.ref 1 0 0, .ref 2 0 0, .i .i64 0, .i .i64 0, .i .i64 0, .i .i64 0, .i .i64 0]]), some (1, rows ci_i64 []), some (1, rows ci_i64 []), some (3, [[.sl 1 (rows ci_u8 r199.2.code_), .i .i64 r199.2.at_, .i .u64 r199.2.seed_]]), some (7, [[.ref 5 0 0, .ref 6 0 0, .i .i64 0, .i .i64 0, .i .i64 0, .i .i64 0, .i .i64 0]]), some (1, rows ci_i64 []), some (1, rows ci_i64 []), some (1, rows ci_i64 [0, 0, 10, 25, 50, 100]), some (7, [[.ref 9 0 (l196 ++ [r199.1]).length, .ref 10 0 l197.length, .i .i64 (aI .i64 1 r104.1), .i .i64 (aI .i64 5 r106.1), .i .i64 r108.1, .i .i64 r118.1, .i .i64 e116]]), some (1, rows ci_i64 (l196 ++ [r199.1])), some (1, rows ci_i64 l197), some (1, rows ci_i64 [r199.1])] ((tm 6 [(2, .ptr 0 0 0), (4, .ptr 3 0 0)]) ++ []) hC ⟨ok83, trivial⟩ mixed (by kernel_rfl) (by simp -implicitDefEqProofs [c200, f202a, f202b]) ?_
   obtain ⟨r203, q204, h1⟩ := bindE h1
   have c204 : F83 [.agg [.sl 1 (rows ci_u8 r199.2.code_), .i .i64 r199.2.at_, .i .u64 r199.2.seed_], .i .i64 7] = some (.tup [.i .i64 r203.1, .agg [.sl 1 (rows ci_u8 r203.2.code_), .i .i64 r203.2.at_, .i .u64 r203.2.seed_]]) := tells_eq inj83 (a := (r199.2, 7)) q204
   obtain ⟨u205, ⟨f206a, f206b⟩, h1⟩ := bindP h1
   try simp only [Int.toNat_natCast, Int.reduceToNat, List.length_cons, List.length_nil, Nat.reduceAdd, Nat.zero_add] at f206a f206b
   exact VW.evalMA (CM := [(83, F83)]) [[0, 1, 2, 3, 4, 5, 6, 7], [0, 2, 1, 3, 4, 5, 6, 7], [0, 2, 3, 1, 4, 5, 6, 7], [0, 2, 3, 4, 1, 5, 6, 7], [2, 0, 1, 3, 4, 5, 6, 7], [2, 0, 3, 1, 4, 5, 6, 7], [2, 0, 3, 4, 1, 5, 6, 7], [2, 3, 0, 1, 4, 5, 6, 7], [2, 3, 0, 4, 1, 5, 6, 7], [2, 3, 4, 0, 1, 5, 6, 7]] (tm 45 [(0, .ptr 3 0 0), (2, .ptr 4 0 0), (3, .ptr 8 0 0), (4, .i .i64 k_192)]) [some (7, [[.ref 1 0 0, .ref 2 0 0, .i .i64 0, .i .i64 0, .i .i64 0, .i .i64 0, .i .i64 0]]), some (1, rows ci_i64 []), some (1, rows ci_i64 []), some (3, [[.sl 1 (rows ci_u8 r203.2.code_), .i .i64 r203.2.at_, .i .u64 r203.2.seed_]]), some (7, [[.ref 5 0 0, .ref 6 0 0, .i .i64 0, .i .i64 0, .i .i64 0, .i .i64 0, .i .i64 0]]), some (1, rows ci_i64 []), some (1, rows ci_i64 []), some (1, rows ci_i64 [0, 0, 10, 25, 50, 100]), some (7, [[.ref 9 0 (l196 ++ [r199.1]).length, .ref 10 0 (l197 ++ [r203.1]).length, .i .i64 (aI .i64 1 r104.1), .i .i64 (aI .i64 5 r106.1), .i .i64 r108.1, .i .i64 r118.1, .i .i64 e116]]), some (1, rows ci_i64 (l196 ++ [r199.1])), some (1, rows ci_i64 (l197 ++ [r203.1])), some (1, rows ci_i64 [r199.1]), some (1, rows ci_i64 [r203.1])] ((tm 6 [(2, .ptr 0 0 0), (4, .ptr 3 0 0)]) ++ []) hC ⟨ok83, trivial⟩ mixed (by kernel_rfl) (by simp -implicitDefEqProofs [c204, f206a, f206b]) (VW.rA (tm 45 [(0, .ptr 3 0 0), (2, .ptr 4 0 0), (3, .ptr 8 0 0), (4, .i .i64 (sI .i64 k_192 1))]) [some (7, [[.ref 1 0 0, .ref 2 0 0, .i .i64 0, .i .i64 0, .i .i64 0, .i .i64 0, .i .i64 0]]), some (1, rows ci_i64 []), some (1, rows ci_i64 []), some (3, [[.sl 1 (rows ci_u8 r203.2.code_), .i .i64 r203.2.at_, .i .u64 r203.2.seed_]]), some (7, [[.ref 5 0 0, .ref 6 0 0, .i .i64 0, .i .i64 0, .i .i64 0, .i .i64 0, .i .i64 0]]), some (1, rows ci_i64 []), some (1, rows ci_i64 []), some (1, rows ci_i64 [0, 0, 10, 25, 50, 100]), some (7, [[.ref 9 0 (l196 ++ [r199.1]).length, .ref 10 0 (l197 ++ [r203.1]).length, .i .i64 (aI .i64 1 r104.1), .i .i64 (aI .i64 5 r106.1), .i .i64 r108.1, .i .i64 r118.1, .i .i64 e116]]), some (1, rows ci_i64 (l196 ++ [r199.1])), some (1, rows ci_i64 (l197 ++ [r203.1])), some (1, rows ci_i64 [r199.1]), some (1, rows ci_i64 [r203.1])] ((tm 6 [(2, .ptr 0 0 0), (4, .ptr 3 0 0)]) ++ []) hC (vnext (sI .i64 k_192 1, r203.2.code_, r203.2.at_, r203.2.seed_, (l196 ++ [r199.1]), (l197 ++ [r203.1])) (leafL h1) (Ent.tu 11)))
 rintro ⟨y161, y162, y163, l164, l165⟩ h
 replace h : (g35_j1 r104 r106 r108 r118 e116 y161 y162 y163 l164 l165).bind _ = _ := h
 rw [g35_j1] at h
 refine VW.seq (VW.rA (tm 45 [(2, .ptr 4 0 0)]) [some (7, [[.ref 1 0 0, .ref 2 0 0, .i .i64 0, .i .i64 0, .i .i64 0, .i .i64 0, .i .i64 0]]), some (1, rows ci_i64 []), some (1, rows ci_i64 []), some (3, [[.sl 1 (rows ci_u8 y161), .i .i64 y162, .i .u64 y163]]), some (7, [[.ref 9 0 l164.length, .ref 10 0 l165.length, .i .i64 (aI .i64 1 r104.1), .i .i64 (aI .i64 5 r106.1), .i .i64 r108.1, .i .i64 r118.1, .i .i64 e116]]), some (1, rows ci_i64 []), some (1, rows ci_i64 []), some (1, rows ci_i64 [0, 0, 10, 25, 50, 100]), some (7, [[.ref 9 0 l164.length, .ref 10 0 l165.length, .i .i64 (aI .i64 1 r104.1), .i .i64 (aI .i64 5 r106.1), .i .i64 r108.1, .i .i64 r118.1, .i .i64 e116]]), some (1, rows ci_i64 l164), some (1, rows ci_i64 l165)] ((tm 6 [(2, .ptr 0 0 0), (4, .ptr 3 0 0)]) ++ []) hC (VW.ret (VIn.ret (v := .agg [.ref 9 0 l164.length, .ref 10 0 l165.length, .i .i64 (aI .i64 1 r104.1), .i .i64 (aI .i64 5 r106.1), .i .i64 r108.1, .i .i64 r118.1, .i .i64 e116]) (by simp) (VL.evalP (tm 6 [(2, .ptr 0 0 0)]) [some (7, [[.ref 9 0 l164.length, .ref 10 0 l165.length, .i .i64 (aI .i64 1 r104.1), .i .i64 (aI .i64 5 r106.1), .i .i64 r108.1, .i .i64 r118.1, .i .i64 e116]]), some (1, rows ci_i64 []), some (1, rows ci_i64 []), some (3, [[.sl 1 (rows ci_u8 y161), .i .i64 y162, .i .u64 y163]]), some (7, [[.ref 9 0 l164.length, .ref 10 0 l165.length, .i .i64 (aI .i64 1 r104.1), .i .i64 (aI .i64 5 r106.1), .i .i64 r108.1, .i .i64 r118.1, .i .i64 e116]]), some (1, rows ci_i64 []), some (1, rows ci_i64 []), some (1, rows ci_i64 [0, 0, 10, 25, 50, 100]), some (7, [[.ref 9 0 l164.length, .ref 10 0 l165.length, .i .i64 (aI .i64 1 r104.1), .i .i64 (aI .i64 5 r106.1), .i .i64 r108.1, .i .i64 r118.1, .i .i64 e116]]), some (1, rows ci_i64 l164), some (1, rows ci_i64 l165)] [] hC (by kernel_rfl) (by simp -implicitDefEqProofs) ?_))))
 obtain rfl := leafS h
 exact VW.ret (VRet.fin (by simp [eB35]))
theorem tl35 {code : List Int} {r : T29} (h : g35 code = some r) : F35 [.sl 1 (rows ci_u8 code)] = some (.agg [.own 1 (rows ci_i64 r.need_), .own 1 (rows ci_i64 r.price_), .i .i64 r.most_, .i .i64 r.yield_, .i .i64 r.store_, .i .i64 r.first_, .i .i64 r.loss_]) := tells_eq inj35 (a := code) h
noncomputable def g36_j1 (y26 : List Int) (y27 : Int) (y28 : Int) (l29 : List Int) : Option (List Int) :=
some l29
noncomputable def g36_L1 (x_ : T29) : (Int × (List Int) × Int × Int × (List Int)) → Option ((Int × (List Int) × Int × Int × (List Int)) ⊕ ((List Int) × Int × Int × (List Int)))
| (k_45, y46, y47, y48, l49) =>
if ltI k_45 (x_.need_.length : Int) = true then
(g83 (⟨y46, y47, y48⟩ : T138) (aI .i64 x_.most_ 1)).bind fun r51 =>
(appK 8 l49 [r51.1]).bind fun u53 =>
some (.inl (aI .i64 k_45 1, r51.2.code_, r51.2.at_, r51.2.seed_, (l49 ++ [r51.1])))
else
some (.inr (y46, y47, y48, l49))
noncomputable def g36 (code : List Int) (x_ : T29) : Option (List Int) :=
(loopO (g36_L1 x_) (0, code, 0, 0, [])).bind fun w => g36_j1 w.1 w.2.1 w.2.2.1 w.2.2.2
def eA36 (a : (List Int) × T29) : List V := [.sl 1 (rows ci_u8 a.1), .agg (pT29 a.2)]
def eB36 (r : List Int) : V := .own 1 (rows ci_i64 r)
theorem inj36 (a a' : (List Int) × T29) (h : eA36 a = eA36 a') : a = a' := by
  obtain ⟨i317, ⟨i318, i319, i320, i321, i322, i323, i324⟩⟩ := a
  obtain ⟨i325, ⟨i326, i327, i328, i329, i330, i331, i332⟩⟩ := a'
  simp only [eA36, pT29, List.cons.injEq, V.i.injEq, V.b.injEq, V.f.injEq, V.str.injEq, V.sl.injEq, V.agg.injEq, V.cptr.injEq, true_and, and_true] at h
  simp_all [ri ci_i64_inj, ri ci_u8_inj]
noncomputable def F36 : List V → Option V := tells (fun a => g36 a.1 a.2) eA36 eB36
/- loop.example/g01229/spec.A2Plan -/
theorem ok36 : Tells Tryd.prog 36 F36 := by
 refine Tells.go 27 Tryd.func36 rfl rfl rfl (by kernel_rfl) (fun _ => rfl) ?_
 rintro ⟨code, x_⟩ r h
 simp only [eA36, en, Nat.reduceAdd]
 replace h : (g36 code x_).bind some = some r := bindS h
 rw [g36] at h
 have hC : CEnv.Ok Tryd.prog [] := trivial
 refine VW.seq (VW.rA (tm 27 [(0, .sl 1 (rows ci_u8 code)), (3, .ptr 0 0 0)]) [some (7, [(pT29 x_)])] [] hC (VW.seq (VW.inlS (VL.inlP 1 (tm 27 [(3, .ptr 0 0 0), (8, .sl 1 (rows ci_u8 code))]) [some (7, [(pT29 x_)])] [] rfl hC (by kernel_rfl) (by simp -implicitDefEqProofs) rfl rfl Tryd.func82 rfl rfl rfl rfl (tm_length) (VW.ent (s := (⟨(tm 6 [(0, .sl 1 (rows ci_u8 code))]), [some (7, [(pT29 x_)])], ((tm 27 [(3, .ptr 0 0 0), (8, .sl 1 (rows ci_u8 code))]) ++ [])⟩ : VS)) (Ent.eqs (by rw [tm_init]; simp) rfl (by simp)) (VW.seq (VW.rA (tm 6 [(0, .sl 1 (rows ci_u8 code))]) [some (7, [(pT29 x_)])] ((tm 27 [(3, .ptr 0 0 0), (8, .sl 1 (rows ci_u8 code))]) ++ []) hC (VW.seq (VW.rA (tm 6 [(2, .ptr 1 0 0)]) [some (7, [(pT29 x_)]), some (3, [[.sl 1 (rows ci_u8 code), .i .i64 0, .i .u64 0]])] ((tm 27 [(3, .ptr 0 0 0), (8, .sl 1 (rows ci_u8 code))]) ++ []) hC (VW.ret (VIn.ret (v := .ptr 1 0 0) (by simp) (VL.evalP (tm 27 [(3, .ptr 0 0 0), (5, .ptr 1 0 0)]) [some (7, [(pT29 x_)]), some (3, [[.sl 1 (rows ci_u8 code), .i .i64 0, .i .u64 0]])] [] hC (by kernel_rfl) (by simp -implicitDefEqProofs) (VW.seq (VW.rA (tm 27 [(3, .ptr 0 0 0), (5, .ptr 1 0 0), (6, .ref 2 0 0)]) [some (7, [(pT29 x_)]), some (3, [[.sl 1 (rows ci_u8 code), .i .i64 0, .i .u64 0]]), some (1, rows ci_i64 [])] [] hC (VW.join (fun (v : (List Int) × Int × Int × (List Int)) => (⟨(tm 27 [(6, .ref 2 0 v.2.2.2.length)]), [some (7, [(pT29 x_)]), some (3, [[.sl 1 (rows ci_u8 v.1), .i .i64 v.2.1, .i .u64 v.2.2.1]]), some (1, rows ci_i64 v.2.2.2)], []⟩ : VS)) (fun v => (g36_j1 (v.1) (v.2.1) (v.2.2.1) (v.2.2.2)).bind some = some r) ?_ ?_)))))))))))))))
 · refine VW.seq (VW.rA (tm 27 [(3, .ptr 0 0 0), (5, .ptr 1 0 0), (6, .ref 2 0 0), (7, .i .i64 0)]) [some (7, [(pT29 x_)]), some (3, [[.sl 1 (rows ci_u8 code), .i .i64 0, .i .u64 0]]), some (1, rows ci_i64 [])] [] hC (VW.block ?_))
   obtain ⟨w_1, hw_1, h⟩ := bindE h
   refine VW.loopO (fun (x : Int × (List Int) × Int × Int × (List Int)) => (⟨(tm 27 [(3, .ptr 0 0 0), (5, .ptr 1 0 0), (6, .ref 2 0 x.2.2.2.2.length), (7, .i .i64 x.1)]), [some (7, [(pT29 x_)]), some (3, [[.sl 1 (rows ci_u8 x.2.1), .i .i64 x.2.2.1, .i .u64 x.2.2.2.1]]), some (1, rows ci_i64 x.2.2.2.2)], []⟩ : VS)) hw_1 (Ent.tu 3) ?_
   rintro n_1 ⟨k_45, y46, y47, y48, l49⟩ h1
   rw [g36_L1] at h1
   refine VW.seq (VW.seq (VW.rA (tm 27 [(3, .ptr 0 0 0), (5, .ptr 1 0 0), (6, .ref 2 0 l49.length), (7, .i .i64 k_45), (15, .b (ltI k_45 (x_.need_.length : Int)))]) [some (7, [(pT29 x_)]), some (3, [[.sl 1 (rows ci_u8 y46), .i .i64 y47, .i .u64 y48]]), some (1, rows ci_i64 l49)] [] hC (VW.condJ h1 (fun h1 => ?_) (fun h1 => ?_))))
   · refine VW.exit ?_
     have e_ := leafR h1
     subst w_1
     exact vnext (y46, y47, y48, l49) h (Ent.tu 3)
   refine VW.skip (VW.seq (VW.block ?_))
   obtain ⟨r51, q52, h1⟩ := bindE h1
   have c52 : F83 [.agg [.sl 1 (rows ci_u8 y46), .i .i64 y47, .i .u64 y48], .i .i64 (aI .i64 x_.most_ 1)] = some (.tup [.i .i64 r51.1, .agg [.sl 1 (rows ci_u8 r51.2.code_), .i .i64 r51.2.at_, .i .u64 r51.2.seed_]]) := tells_eq inj83 (a := ((⟨y46, y47, y48⟩ : T138), aI .i64 x_.most_ 1)) q52
   obtain ⟨u53, ⟨f54a, f54b⟩, h1⟩ := bindP h1
   try simp only [Int.toNat_natCast, Int.reduceToNat, List.length_cons, List.length_nil, Nat.reduceAdd, Nat.zero_add] at f54a f54b
   exact VW.evalM (CM := [(83, F83)]) (tm 27 [(3, .ptr 0 0 0), (5, .ptr 1 0 0), (6, .ref 2 0 (l49 ++ [r51.1]).length), (7, .i .i64 k_45)]) [some (7, [(pT29 x_)]), some (3, [[.sl 1 (rows ci_u8 r51.2.code_), .i .i64 r51.2.at_, .i .u64 r51.2.seed_]]), some (1, rows ci_i64 (l49 ++ [r51.1])), some (1, rows ci_i64 [r51.1])] [] hC ⟨ok83, trivial⟩ (by simp -implicitDefEqProofs [c52, f54a, f54b]) (VW.rA (tm 27 [(3, .ptr 0 0 0), (5, .ptr 1 0 0), (6, .ref 2 0 (l49 ++ [r51.1]).length), (7, .i .i64 (aI .i64 k_45 1))]) [some (7, [(pT29 x_)]), some (3, [[.sl 1 (rows ci_u8 r51.2.code_), .i .i64 r51.2.at_, .i .u64 r51.2.seed_]]), some (1, rows ci_i64 (l49 ++ [r51.1])), some (1, rows ci_i64 [r51.1])] [] hC (vnext (aI .i64 k_45 1, r51.2.code_, r51.2.at_, r51.2.seed_, (l49 ++ [r51.1])) (leafL h1) (Ent.tu 3)))
 rintro ⟨y26, y27, y28, l29⟩ h
 replace h : (g36_j1 y26 y27 y28 l29).bind _ = _ := h
 rw [g36_j1] at h
 refine VW.seq (VW.rA (tm 27 [(4, .ref 2 0 l29.length)]) [some (7, [(pT29 x_)]), some (3, [[.sl 1 (rows ci_u8 y26), .i .i64 y27, .i .u64 y28]]), some (1, rows ci_i64 l29)] [] hC ?_)
 obtain rfl := leafS h
 exact VW.ret (VRet.fin (by simp [eB36]))
theorem tl36 {code : List Int} {x_ : T29} {r : List Int} (h : g36 code x_ = some r) : F36 [.sl 1 (rows ci_u8 code), .agg [.sl 1 (rows ci_i64 x_.need_), .sl 1 (rows ci_i64 x_.price_), .i .i64 x_.most_, .i .i64 x_.yield_, .i .i64 x_.store_, .i .i64 x_.first_, .i .i64 x_.loss_]] = some (.own 1 (rows ci_i64 r)) := tells_eq inj36 (a := (code, x_)) h
noncomputable def g84_j1 : Option (Bool) :=
some true
noncomputable def g84_L1 (s1 : List Int) (s2 : List Int) : (Int) → Option ((Int) ⊕ ((Unit) ⊕ (Bool)))
| x_35 =>
if ltI x_35 (s1.length : Int) = true then
(idx s1 x_35).bind fun e37 =>
(idx s2 x_35).bind fun e39 =>
if (!eqI e37 e39) = true then
some (.inr (.inr false))
else
some (.inl (aI .i64 x_35 1))
else
some (.inr (.inl ()))
noncomputable def g84 (s1 : List Int) (s2 : List Int) : Option (Bool) :=
if (!eqI (s1.length : Int) (s2.length : Int)) = true then
some false
else
(loopO (g84_L1 s1 s2) 0).bind fun w => match w with
| .inl y => g84_j1
| .inr r => some r
def eA84 (a : (List Int) × (List Int)) : List V := [.sl 1 (rows ci_i64 a.1), .sl 1 (rows ci_i64 a.2)]
def eB84 (r : Bool) : V := .b r
theorem inj84 (a a' : (List Int) × (List Int)) (h : eA84 a = eA84 a') : a = a' := by
  obtain ⟨i333, i334⟩ := a
  obtain ⟨i335, i336⟩ := a'
  simp only [eA84, List.cons.injEq, V.i.injEq, V.b.injEq, V.f.injEq, V.str.injEq, V.sl.injEq, V.agg.injEq, V.cptr.injEq, true_and, and_true] at h
  simp_all [ri ci_i64_inj]
noncomputable def F84 : List V → Option V := tells (fun a => g84 a.1 a.2) eA84 eB84
/- slices.Equal[[]int64,int64] -/
theorem ok84 : Tells Tryd.prog 84 F84 := by
 refine Tells.go 26 Tryd.func84 rfl rfl rfl (by kernel_rfl) (fun _ => rfl) ?_
 rintro ⟨s1, s2⟩ r h
 simp only [eA84, en, Nat.reduceAdd]
 replace h : (g84 s1 s2).bind some = some r := bindS h
 rw [g84] at h
 have hC : CEnv.Ok Tryd.prog [] := trivial
 refine VW.seq (VW.rA (tm 26 [(0, .sl 1 (rows ci_i64 s1)), (1, .sl 1 (rows ci_i64 s2))]) [] [] hC (VW.seq (VW.seq (VW.rA (tm 26 [(0, .sl 1 (rows ci_i64 s1)), (1, .sl 1 (rows ci_i64 s2)), (10, .b (!eqI (s1.length : Int) (s2.length : Int)))]) [] [] hC (VW.condI h (fun h => ?_) (fun h => ?_))))))
 · refine VW.seq (VW.rA (tm 26 [(4, .b false)]) [] [] hC ?_)
   obtain rfl := leafS h
   exact VW.ret (VRet.fin (by simp [eB84]))
 refine VW.skip (VW.join (fun (v : Unit) => (⟨(tm 26 []), [], []⟩ : VS)) (fun v => (g84_j1).bind some = some r) ?_ ?_)
 · refine VW.seq (VW.rA (tm 26 [(0, .sl 1 (rows ci_i64 s1)), (1, .sl 1 (rows ci_i64 s2)), (12, .i .i64 (s1.length : Int)), (13, .i .i64 0)]) [] [] hC (VW.block ?_))
   obtain ⟨w_1, hw_1, h⟩ := bindE h
   refine VW.loopO (fun (x : Int) => (⟨(tm 26 [(0, .sl 1 (rows ci_i64 s1)), (1, .sl 1 (rows ci_i64 s2)), (12, .i .i64 (s1.length : Int)), (13, .i .i64 x)]), [], []⟩ : VS)) hw_1 (Ent.tu 0) ?_
   rintro n_1 x_35 h1
   rw [g84_L1] at h1
   refine VW.seq (VW.rA (tm 26 [(0, .sl 1 (rows ci_i64 s1)), (1, .sl 1 (rows ci_i64 s2)), (12, .i .i64 (s1.length : Int)), (13, .i .i64 x_35), (14, .b (ltI x_35 (s1.length : Int)))]) [] [] hC (VW.seq (VW.condJ h1 (fun h1 => ?_) (fun h1 => ?_))))
   · refine VW.exit ?_
     have e_ := leafR h1
     subst w_1
     exact vnext () h (Ent.tu 0)
   refine VW.skip (VW.seq (VW.block (VW.seq (VW.rA (tm 26 [(0, .sl 1 (rows ci_i64 s1)), (1, .sl 1 (rows ci_i64 s2)), (5, .i .i64 x_35), (12, .i .i64 (s1.length : Int)), (13, .i .i64 x_35)]) [] [] hC (VW.seq ?_)))))
   obtain ⟨e37, ⟨f38a, f38b, f38c, f38d⟩, h1⟩ := bindI h1
   obtain ⟨e39, ⟨f40a, f40b, f40c, f40d⟩, h1⟩ := bindI h1
   refine VW.rD (tm 26 [(0, .sl 1 (rows ci_i64 s1)), (1, .sl 1 (rows ci_i64 s2)), (12, .i .i64 (s1.length : Int)), (13, .i .i64 x_35), (24, .b (!eqI e37 e39))]) [] [] hC mixed (VW.condI h1 (fun h1 => ?_) (fun h1 => ?_)) (h := by simp -implicitDefEqProofs [f38a, f38b, f38c, f38d, f40a, f40b, f40c, f40d])
   · refine VW.seq (VW.rA (tm 26 [(4, .b false)]) [] [] hC ?_)
     have e_ := leafR h1
     subst w_1
     obtain rfl := leafS h
     exact VW.ret (VRet.fin (by simp [eB84]))
   exact VW.skip (VW.rA (tm 26 [(0, .sl 1 (rows ci_i64 s1)), (1, .sl 1 (rows ci_i64 s2)), (12, .i .i64 (s1.length : Int)), (13, .i .i64 (aI .i64 x_35 1))]) [] [] hC (vnext (aI .i64 x_35 1) (leafL h1) (Ent.tu 0)))
 rintro _ h
 replace h : (g84_j1).bind _ = _ := h
 rw [g84_j1] at h
 refine VW.seq (VW.rA (tm 26 [(4, .b true)]) [] [] hC ?_)
 obtain rfl := leafS h
 exact VW.ret (VRet.fin (by simp [eB84]))
theorem tl84 {s1 : List Int} {s2 : List Int} {r : Bool} (h : g84 s1 s2 = some r) : F84 [.sl 1 (rows ci_i64 s1), .sl 1 (rows ci_i64 s2)] = some (.b r) := tells_eq inj84 (a := (s1, s2)) h
noncomputable def g37 (s : T29) (r_ : T29) : Option (Bool) :=
(g84 s.need_ r_.need_).bind fun r1 =>
(if r1 = true then (g84 s.price_ r_.price_).bind fun r3 => some r3 else some false).bind fun w5 =>
some (((((w5 && eqI s.most_ r_.most_) && eqI s.yield_ r_.yield_) && eqI s.store_ r_.store_) && eqI s.first_ r_.first_) && eqI s.loss_ r_.loss_)
def eA37 (a : T29 × T29) : List V := [.agg (pT29 a.1), .agg (pT29 a.2)]
def eB37 (r : Bool) : V := .b r
theorem inj37 (a a' : T29 × T29) (h : eA37 a = eA37 a') : a = a' := by
  obtain ⟨⟨i337, i338, i339, i340, i341, i342, i343⟩, ⟨i344, i345, i346, i347, i348, i349, i350⟩⟩ := a
  obtain ⟨⟨i351, i352, i353, i354, i355, i356, i357⟩, ⟨i358, i359, i360, i361, i362, i363, i364⟩⟩ := a'
  simp only [eA37, pT29, List.cons.injEq, V.i.injEq, V.b.injEq, V.f.injEq, V.str.injEq, V.sl.injEq, V.agg.injEq, V.cptr.injEq, true_and, and_true] at h
  simp_all [ri ci_i64_inj]
noncomputable def F37 : List V → Option V := tells (fun a => g37 a.1 a.2) eA37 eB37
/- loop.example/g01229/impl.SameSeason -/
theorem ok37 : Tells Tryd.prog 37 F37 := by
 refine Tells.go 52 Tryd.func37 rfl rfl rfl (by kernel_rfl) (fun _ => rfl) ?_
 rintro ⟨s, r_⟩ r h
 simp only [eA37, en, Nat.reduceAdd]
 replace h : (g37 s r_).bind some = some r := bindS h
 rw [g37] at h
 have hC : CEnv.Ok Tryd.prog [(84, F84)] := ⟨.inl ok84, trivial⟩
 refine VW.seq (VW.rA (tm 52 [(2, .ptr 0 0 0), (3, .ptr 1 0 0)]) [some (7, [(pT29 s)]), some (7, [(pT29 r_)])] [] hC (VW.seq ?_))
 obtain ⟨r1, q2, h⟩ := bindE h
 have c2 := tl84 q2
 obtain ⟨w5, q6, h⟩ := bindE h
 refine VW.evalA (tm 52 [(4, .b (((((w5 && eqI s.most_ r_.most_) && eqI s.yield_ r_.yield_) && eqI s.store_ r_.store_) && eqI s.first_ r_.first_) && eqI s.loss_ r_.loss_))]) [some (7, [(pT29 s)]), some (7, [(pT29 r_)])] [] hC (by kernel_rfl) (by
     obtain ⟨q7, q6⟩ | ⟨q7, rfl⟩ := gdT q6
     · obtain ⟨r3, q4, q6⟩ := bindQ q6
       have c4 := tl84 q4
       obtain rfl := Option.some.inj q6
       simp -implicitDefEqProofs [c2, q7, c4, pT29]
     simp -implicitDefEqProofs [c2, q7, pT29]) ?_
 obtain rfl := leafS h
 exact VW.ret (VRet.fin (by simp [eB37]))
theorem tl37 {s : T29} {r_ : T29} {r : Bool} (h : g37 s r_ = some r) : F37 [.agg [.sl 1 (rows ci_i64 s.need_), .sl 1 (rows ci_i64 s.price_), .i .i64 s.most_, .i .i64 s.yield_, .i .i64 s.store_, .i .i64 s.first_, .i .i64 s.loss_], .agg [.sl 1 (rows ci_i64 r_.need_), .sl 1 (rows ci_i64 r_.price_), .i .i64 r_.most_, .i .i64 r_.yield_, .i .i64 r_.store_, .i .i64 r_.first_, .i .i64 r_.loss_]] = some (.b r) := tells_eq inj37 (a := (s, r_)) h
noncomputable def g85_j1 : Option (Bool) :=
some true
noncomputable def g85_L1 (a : List Int) (b : List Int) : (Int) → Option ((Int) ⊕ ((Unit) ⊕ (Bool)))
| i_35 =>
if ltI i_35 (a.length : Int) = true then
(idx a i_35).bind fun e37 =>
(idx b i_35).bind fun e39 =>
if (!eqI e37 e39) = true then
some (.inr (.inr false))
else
some (.inl (aI .i64 i_35 1))
else
some (.inr (.inl ()))
noncomputable def g85 (a : List Int) (b : List Int) : Option (Bool) :=
if (!eqI (a.length : Int) (b.length : Int)) = true then
some false
else
(loopO (g85_L1 a b) 0).bind fun w => match w with
| .inl y => g85_j1
| .inr r => some r
def eA85 (a : (List Int) × (List Int)) : List V := [.sl 1 (rows ci_i64 a.1), .sl 1 (rows ci_i64 a.2)]
def eB85 (r : Bool) : V := .b r
theorem inj85 (a a' : (List Int) × (List Int)) (h : eA85 a = eA85 a') : a = a' := by
  obtain ⟨i365, i366⟩ := a
  obtain ⟨i367, i368⟩ := a'
  simp only [eA85, List.cons.injEq, V.i.injEq, V.b.injEq, V.f.injEq, V.str.injEq, V.sl.injEq, V.agg.injEq, V.cptr.injEq, true_and, and_true] at h
  simp_all [ri ci_i64_inj]
noncomputable def F85 : List V → Option V := tells (fun a => g85 a.1 a.2) eA85 eB85
/- loop.example/g01229/spec.l00Same -/
theorem ok85 : Tells Tryd.prog 85 F85 := by
 refine Tells.go 26 Tryd.func85 rfl rfl rfl (by kernel_rfl) (fun _ => rfl) ?_
 rintro ⟨a, b⟩ r h
 simp only [eA85, en, Nat.reduceAdd]
 replace h : (g85 a b).bind some = some r := bindS h
 rw [g85] at h
 have hC : CEnv.Ok Tryd.prog [] := trivial
 refine VW.seq (VW.rA (tm 26 [(0, .sl 1 (rows ci_i64 a)), (1, .sl 1 (rows ci_i64 b))]) [] [] hC (VW.seq (VW.seq (VW.rA (tm 26 [(0, .sl 1 (rows ci_i64 a)), (1, .sl 1 (rows ci_i64 b)), (10, .b (!eqI (a.length : Int) (b.length : Int)))]) [] [] hC (VW.condI h (fun h => ?_) (fun h => ?_))))))
 · refine VW.seq (VW.rA (tm 26 [(4, .b false)]) [] [] hC ?_)
   obtain rfl := leafS h
   exact VW.ret (VRet.fin (by simp [eB85]))
 refine VW.skip (VW.join (fun (v : Unit) => (⟨(tm 26 []), [], []⟩ : VS)) (fun v => (g85_j1).bind some = some r) ?_ ?_)
 · refine VW.seq (VW.rA (tm 26 [(0, .sl 1 (rows ci_i64 a)), (1, .sl 1 (rows ci_i64 b)), (5, .i .i64 0)]) [] [] hC (VW.block ?_))
   obtain ⟨w_1, hw_1, h⟩ := bindE h
   refine VW.loopO (fun (x : Int) => (⟨(tm 26 [(0, .sl 1 (rows ci_i64 a)), (1, .sl 1 (rows ci_i64 b)), (5, .i .i64 x)]), [], []⟩ : VS)) hw_1 (Ent.tu 0) ?_
   rintro n_1 i_35 h1
   rw [g85_L1] at h1
   refine VW.seq (VW.seq (VW.rA (tm 26 [(0, .sl 1 (rows ci_i64 a)), (1, .sl 1 (rows ci_i64 b)), (5, .i .i64 i_35), (14, .b (ltI i_35 (a.length : Int)))]) [] [] hC (VW.condJ h1 (fun h1 => ?_) (fun h1 => ?_))))
   · refine VW.exit ?_
     have e_ := leafR h1
     subst w_1
     exact vnext () h (Ent.tu 0)
   refine VW.skip (VW.seq (VW.block (VW.seq ?_)))
   obtain ⟨e37, ⟨f38a, f38b, f38c, f38d⟩, h1⟩ := bindI h1
   obtain ⟨e39, ⟨f40a, f40b, f40c, f40d⟩, h1⟩ := bindI h1
   refine VW.rD (tm 26 [(0, .sl 1 (rows ci_i64 a)), (1, .sl 1 (rows ci_i64 b)), (5, .i .i64 i_35), (25, .b (!eqI e37 e39))]) [] [] hC mixed (VW.condI h1 (fun h1 => ?_) (fun h1 => ?_)) (h := by simp -implicitDefEqProofs [f38a, f38b, f38c, f38d, f40a, f40b, f40c, f40d])
   · refine VW.seq (VW.rA (tm 26 [(4, .b false)]) [] [] hC ?_)
     have e_ := leafR h1
     subst w_1
     obtain rfl := leafS h
     exact VW.ret (VRet.fin (by simp [eB85]))
   exact VW.skip (VW.rA (tm 26 [(0, .sl 1 (rows ci_i64 a)), (1, .sl 1 (rows ci_i64 b)), (5, .i .i64 (aI .i64 i_35 1))]) [] [] hC (vnext (aI .i64 i_35 1) (leafL h1) (Ent.tu 0)))
 rintro _ h
 replace h : (g85_j1).bind _ = _ := h
 rw [g85_j1] at h
 refine VW.seq (VW.rA (tm 26 [(4, .b true)]) [] [] hC ?_)
 obtain rfl := leafS h
 exact VW.ret (VRet.fin (by simp [eB85]))
theorem tl85 {a : List Int} {b : List Int} {r : Bool} (h : g85 a b = some r) : F85 [.sl 1 (rows ci_i64 a), .sl 1 (rows ci_i64 b)] = some (.b r) := tells_eq inj85 (a := (a, b)) h
noncomputable def g38 (s : T29) (r_ : T29) : Option (Bool) :=
(g85 s.need_ r_.need_).bind fun r1 =>
(if r1 = true then (g85 s.price_ r_.price_).bind fun r3 => some r3 else some false).bind fun w5 =>
some (((((w5 && eqI s.most_ r_.most_) && eqI s.yield_ r_.yield_) && eqI s.store_ r_.store_) && eqI s.first_ r_.first_) && eqI s.loss_ r_.loss_)
def eA38 (a : T29 × T29) : List V := [.agg (pT29 a.1), .agg (pT29 a.2)]
def eB38 (r : Bool) : V := .b r
theorem inj38 (a a' : T29 × T29) (h : eA38 a = eA38 a') : a = a' := by
  obtain ⟨⟨i369, i370, i371, i372, i373, i374, i375⟩, ⟨i376, i377, i378, i379, i380, i381, i382⟩⟩ := a
  obtain ⟨⟨i383, i384, i385, i386, i387, i388, i389⟩, ⟨i390, i391, i392, i393, i394, i395, i396⟩⟩ := a'
  simp only [eA38, pT29, List.cons.injEq, V.i.injEq, V.b.injEq, V.f.injEq, V.str.injEq, V.sl.injEq, V.agg.injEq, V.cptr.injEq, true_and, and_true] at h
  simp_all [ri ci_i64_inj]
noncomputable def F38 : List V → Option V := tells (fun a => g38 a.1 a.2) eA38 eB38
/- loop.example/g01229/spec.SameSeason -/
theorem ok38 : Tells Tryd.prog 38 F38 := by
 refine Tells.go 52 Tryd.func38 rfl rfl rfl (by kernel_rfl) (fun _ => rfl) ?_
 rintro ⟨s, r_⟩ r h
 simp only [eA38, en, Nat.reduceAdd]
 replace h : (g38 s r_).bind some = some r := bindS h
 rw [g38] at h
 have hC : CEnv.Ok Tryd.prog [(85, F85)] := ⟨.inl ok85, trivial⟩
 refine VW.seq (VW.rA (tm 52 [(2, .ptr 0 0 0), (3, .ptr 1 0 0)]) [some (7, [(pT29 s)]), some (7, [(pT29 r_)])] [] hC (VW.seq ?_))
 obtain ⟨r1, q2, h⟩ := bindE h
 have c2 := tl85 q2
 obtain ⟨w5, q6, h⟩ := bindE h
 refine VW.evalA (tm 52 [(4, .b (((((w5 && eqI s.most_ r_.most_) && eqI s.yield_ r_.yield_) && eqI s.store_ r_.store_) && eqI s.first_ r_.first_) && eqI s.loss_ r_.loss_))]) [some (7, [(pT29 s)]), some (7, [(pT29 r_)])] [] hC (by kernel_rfl) (by
     obtain ⟨q7, q6⟩ | ⟨q7, rfl⟩ := gdT q6
     · obtain ⟨r3, q4, q6⟩ := bindQ q6
       have c4 := tl85 q4
       obtain rfl := Option.some.inj q6
       simp -implicitDefEqProofs [c2, q7, c4, pT29]
     simp -implicitDefEqProofs [c2, q7, pT29]) ?_
 obtain rfl := leafS h
 exact VW.ret (VRet.fin (by simp [eB38]))
theorem tl38 {s : T29} {r_ : T29} {r : Bool} (h : g38 s r_ = some r) : F38 [.agg [.sl 1 (rows ci_i64 s.need_), .sl 1 (rows ci_i64 s.price_), .i .i64 s.most_, .i .i64 s.yield_, .i .i64 s.store_, .i .i64 s.first_, .i .i64 s.loss_], .agg [.sl 1 (rows ci_i64 r_.need_), .sl 1 (rows ci_i64 r_.price_), .i .i64 r_.most_, .i .i64 r_.yield_, .i .i64 r_.store_, .i .i64 r_.first_, .i .i64 r_.loss_]] = some (.b r) := tells_eq inj38 (a := (s, r_)) h
noncomputable def g89 (s : T29) (slot : Int) (store : Int) (logs : Int) : Option (Int × Bool) :=
(idx s.need_ slot).bind fun e1 =>
if ltI (sI .i64 (aI .i64 store (mI .i64 logs s.yield_)) e1) 0 = true then
some (0, false)
else
(dI .i64 (mI .i64 (sI .i64 (aI .i64 store (mI .i64 logs s.yield_)) e1) s.loss_) 100).bind fun d4 =>
some (minI (sI .i64 (sI .i64 (aI .i64 store (mI .i64 logs s.yield_)) e1) d4) s.store_, true)
def eA89 (a : T29 × Int × Int × Int) : List V := [.agg (pT29 a.1), .i .i64 a.2.1, .i .i64 a.2.2.1, .i .i64 a.2.2.2]
def eB89 (r : Int × Bool) : V := .tup [.i .i64 r.1, .b r.2]
theorem inj89 (a a' : T29 × Int × Int × Int) (h : eA89 a = eA89 a') : a = a' := by
  obtain ⟨⟨i397, i398, i399, i400, i401, i402, i403⟩, i404, i405, i406⟩ := a
  obtain ⟨⟨i407, i408, i409, i410, i411, i412, i413⟩, i414, i415, i416⟩ := a'
  simp only [eA89, pT29, List.cons.injEq, V.i.injEq, V.b.injEq, V.f.injEq, V.str.injEq, V.sl.injEq, V.agg.injEq, V.cptr.injEq, true_and, and_true] at h
  simp_all [ri ci_i64_inj]
noncomputable def F89 : List V → Option V := tells (fun a => g89 a.1 a.2.1 a.2.2.1 a.2.2.2) eA89 eB89
/- loop.example/g01229/impl.after -/
theorem ok89 : Tells Tryd.prog 89 F89 := by
 refine Tells.go 35 Tryd.func89 rfl rfl rfl (by kernel_rfl) (fun _ => rfl) ?_
 rintro ⟨s, slot, store, logs⟩ r h
 simp only [eA89, en, Nat.reduceAdd]
 replace h : (g89 s slot store logs).bind some = some r := bindS h
 rw [g89] at h
 have hC : CEnv.Ok Tryd.prog [] := trivial
 refine VW.seq (VW.rA (tm 35 [(1, .i .i64 slot), (2, .i .i64 store), (3, .i .i64 logs), (4, .ptr 0 0 0)]) [some (7, [(pT29 s)])] [] hC (VW.seq ?_) (h := by simp -implicitDefEqProofs [min_fold]))
 obtain ⟨e1, ⟨f2a, f2b, f2c, f2d⟩, h⟩ := bindI h
 refine VW.rD (tm 35 [(4, .ptr 0 0 0), (10, .i .i64 (sI .i64 (aI .i64 store (mI .i64 logs s.yield_)) e1))]) [some (7, [(pT29 s)])] [] hC mixed (VW.seq (VW.seq (VW.rA (tm 35 [(4, .ptr 0 0 0), (10, .i .i64 (sI .i64 (aI .i64 store (mI .i64 logs s.yield_)) e1)), (24, .b (ltI (sI .i64 (aI .i64 store (mI .i64 logs s.yield_)) e1) 0))]) [some (7, [(pT29 s)])] [] hC (VW.condI h (fun h => ?_) (fun h => ?_)) (h := by simp -implicitDefEqProofs [min_fold])))) (h := by simp -implicitDefEqProofs [f2a, f2b, f2c, f2d, min_fold])
 · refine VW.seq (VW.rA (tm 35 [(8, .i .i64 0), (9, .b false)]) [some (7, [(pT29 s)])] [] hC ?_)
   obtain rfl := leafS h
   exact VW.ret (VRet.fin (by simp [eB89]))
 refine VW.skip (VW.seq ?_)
 obtain ⟨d4, q5, h⟩ := bindE h
 refine VW.rA (tm 35 [(8, .i .i64 (minI (sI .i64 (sI .i64 (aI .i64 store (mI .i64 logs s.yield_)) e1) d4) s.store_)), (9, .b true)]) [some (7, [(pT29 s)])] [] hC ?_ (h := by simp -implicitDefEqProofs [q5, min_fold])
 obtain rfl := leafS h
 exact VW.ret (VRet.fin (by simp [eB89]))
theorem tl89 {s : T29} {slot : Int} {store : Int} {logs : Int} {r : Int × Bool} (h : g89 s slot store logs = some r) : F89 [.agg [.sl 1 (rows ci_i64 s.need_), .sl 1 (rows ci_i64 s.price_), .i .i64 s.most_, .i .i64 s.yield_, .i .i64 s.store_, .i .i64 s.first_, .i .i64 s.loss_], .i .i64 slot, .i .i64 store, .i .i64 logs] = some (.tup [.i .i64 r.1, .b r.2]) := tells_eq inj89 (a := (s, slot, store, logs)) h
noncomputable def g86_j1 : Option (Int × Int × Bool) :=
some (0, 0, false)
noncomputable def g86_L1 (s : T29) (slot : Int) (store : Int) : (Int) → Option ((Int) ⊕ ((Unit) ⊕ (Int × Int × Bool)))
| x_24 =>
if ltI x_24 (aI .i64 s.most_ 1) = true then
(g89 s slot store x_24).bind fun r26 =>
if r26.2 = true then
some (.inr (.inr (x_24, r26.1, true)))
else
some (.inl (aI .i64 x_24 1))
else
some (.inr (.inl ()))
noncomputable def g86 (s : T29) (slot : Int) (store : Int) : Option (Int × Int × Bool) :=
(loopO (g86_L1 s slot store) 0).bind fun w => match w with
| .inl y => g86_j1
| .inr r => some r
def eA86 (a : T29 × Int × Int) : List V := [.agg (pT29 a.1), .i .i64 a.2.1, .i .i64 a.2.2]
def eB86 (r : Int × Int × Bool) : V := .tup [.i .i64 r.1, .i .i64 r.2.1, .b r.2.2]
theorem inj86 (a a' : T29 × Int × Int) (h : eA86 a = eA86 a') : a = a' := by
  obtain ⟨⟨i417, i418, i419, i420, i421, i422, i423⟩, i424, i425⟩ := a
  obtain ⟨⟨i426, i427, i428, i429, i430, i431, i432⟩, i433, i434⟩ := a'
  simp only [eA86, pT29, List.cons.injEq, V.i.injEq, V.b.injEq, V.f.injEq, V.str.injEq, V.sl.injEq, V.agg.injEq, V.cptr.injEq, true_and, and_true] at h
  simp_all [ri ci_i64_inj]
noncomputable def F86 : List V → Option V := tells (fun a => g86 a.1 a.2.1 a.2.2) eA86 eB86
/- loop.example/g01229/impl.leastLogs -/
theorem ok86 : Tells Tryd.prog 86 F86 := by
 refine Tells.go 30 Tryd.func86 rfl rfl rfl (by kernel_rfl) (fun _ => rfl) ?_
 rintro ⟨s, slot, store⟩ r h
 simp only [eA86, en, Nat.reduceAdd]
 replace h : (g86 s slot store).bind some = some r := bindS h
 rw [g86] at h
 have hC : CEnv.Ok Tryd.prog [(89, F89)] := ⟨.inl ok89, trivial⟩
 refine VW.seq (VW.rA (tm 30 [(1, .i .i64 slot), (2, .i .i64 store), (3, .ptr 0 0 0)]) [some (7, [(pT29 s)])] [] hC (VW.join (fun (v : Unit) => (⟨(tm 30 []), [some (7, [(pT29 s)])], []⟩ : VS)) (fun v => (g86_j1).bind some = some r) ?_ ?_))
 · refine VW.seq (VW.rA (tm 30 [(1, .i .i64 slot), (2, .i .i64 store), (3, .ptr 0 0 0), (14, .i .i64 (aI .i64 s.most_ 1)), (15, .i .i64 0)]) [some (7, [(pT29 s)])] [] hC (VW.block ?_))
   obtain ⟨w_1, hw_1, h⟩ := bindE h
   refine VW.loopO (fun (x : Int) => (⟨(tm 30 [(1, .i .i64 slot), (2, .i .i64 store), (3, .ptr 0 0 0), (14, .i .i64 (aI .i64 s.most_ 1)), (15, .i .i64 x)]), [some (7, [(pT29 s)])], []⟩ : VS)) hw_1 (Ent.tu 1) ?_
   rintro n_1 x_24 h1
   rw [g86_L1] at h1
   refine VW.seq (VW.rA (tm 30 [(1, .i .i64 slot), (2, .i .i64 store), (3, .ptr 0 0 0), (14, .i .i64 (aI .i64 s.most_ 1)), (15, .i .i64 x_24), (16, .b (ltI x_24 (aI .i64 s.most_ 1)))]) [some (7, [(pT29 s)])] [] hC (VW.seq (VW.condJ h1 (fun h1 => ?_) (fun h1 => ?_))))
   · refine VW.exit ?_
     have e_ := leafR h1
     subst w_1
     exact vnext () h (Ent.tu 1)
   refine VW.skip (VW.seq (VW.block (VW.seq (VW.rA (tm 30 [(1, .i .i64 slot), (2, .i .i64 store), (3, .ptr 0 0 0), (9, .i .i64 x_24), (14, .i .i64 (aI .i64 s.most_ 1)), (15, .i .i64 x_24)]) [some (7, [(pT29 s)])] [] hC (VW.seq ?_)))))
   obtain ⟨r26, q27, h1⟩ := bindE h1
   have c27 : F89 [.agg (pT29 s), .i .i64 slot, .i .i64 store, .i .i64 x_24] = some (.tup [.i .i64 r26.1, .b r26.2]) := tells_eq inj89 (a := (s, slot, store, x_24)) q27
   refine VW.rA (tm 30 [(1, .i .i64 slot), (2, .i .i64 store), (3, .ptr 0 0 0), (9, .i .i64 x_24), (10, .i .i64 r26.1), (11, .b r26.2), (14, .i .i64 (aI .i64 s.most_ 1)), (15, .i .i64 x_24)]) [some (7, [(pT29 s)])] [] hC (VW.seq (VW.rA (tm 30 [(1, .i .i64 slot), (2, .i .i64 store), (3, .ptr 0 0 0), (9, .i .i64 x_24), (10, .i .i64 r26.1), (14, .i .i64 (aI .i64 s.most_ 1)), (15, .i .i64 x_24), (26, .b r26.2)]) [some (7, [(pT29 s)])] [] hC (VW.condI h1 (fun h1 => ?_) (fun h1 => ?_)))) (h := by simp -implicitDefEqProofs [c27])
   · refine VW.seq (VW.rA (tm 30 [(6, .i .i64 x_24), (7, .i .i64 r26.1), (8, .b true)]) [some (7, [(pT29 s)])] [] hC ?_)
     have e_ := leafR h1
     subst w_1
     obtain rfl := leafS h
     exact VW.ret (VRet.fin (by simp [eB86]))
   exact VW.skip (VW.rA (tm 30 [(1, .i .i64 slot), (2, .i .i64 store), (3, .ptr 0 0 0), (14, .i .i64 (aI .i64 s.most_ 1)), (15, .i .i64 (aI .i64 x_24 1))]) [some (7, [(pT29 s)])] [] hC (vnext (aI .i64 x_24 1) (leafL h1) (Ent.tu 1)))
 rintro _ h
 replace h : (g86_j1).bind _ = _ := h
 rw [g86_j1] at h
 refine VW.seq (VW.rA (tm 30 [(6, .i .i64 0), (7, .i .i64 0), (8, .b false)]) [some (7, [(pT29 s)])] [] hC ?_)
 obtain rfl := leafS h
 exact VW.ret (VRet.fin (by simp [eB86]))
theorem tl86 {s : T29} {slot : Int} {store : Int} {r : Int × Int × Bool} (h : g86 s slot store = some r) : F86 [.agg [.sl 1 (rows ci_i64 s.need_), .sl 1 (rows ci_i64 s.price_), .i .i64 s.most_, .i .i64 s.yield_, .i .i64 s.store_, .i .i64 s.first_, .i .i64 s.loss_], .i .i64 slot, .i .i64 store] = some (.tup [.i .i64 r.1, .i .i64 r.2.1, .b r.2.2]) := tells_eq inj86 (a := (s, slot, store)) h
noncomputable def g40_j1 (l28 : List Int) : Option ((List Int) × Int) :=
some (l28, 0)
noncomputable def g40_L1 (s : T29) : (Int × Int × (List Int)) → Option ((Int × Int × (List Int)) ⊕ ((List Int) ⊕ ((List Int) × Int)))
| (store_44, x_45, l46) =>
if ltI x_45 (s.need_.length : Int) = true then
(g86 s x_45 store_44).bind fun r48 =>
if (!r48.2.2) = true then
some (.inr (.inr ([], 6)))
else
(appK 8 l46 [r48.1]).bind fun u51 =>
some (.inl (r48.2.1, aI .i64 x_45 1, (l46 ++ [r48.1])))
else
some (.inr (.inl l46))
noncomputable def g40 (s : T29) : Option ((List Int) × Int) :=
(g39 s).bind fun r1 =>
if (!r1) = true then
some ([], 1)
else
(loopO (g40_L1 s) (s.first_, 0, [])).bind fun w => match w with
| .inl y => g40_j1 y
| .inr r => some r
def eA40 (a : T29) : List V := [.agg (pT29 a)]
def eB40 (r : (List Int) × Int) : V := .tup [.own 1 (rows ci_i64 r.1), .i .i64 r.2]
theorem inj40 (a a' : T29) (h : eA40 a = eA40 a') : a = a' := by
  obtain ⟨i435, i436, i437, i438, i439, i440, i441⟩ := a
  obtain ⟨i442, i443, i444, i445, i446, i447, i448⟩ := a'
  simp only [eA40, pT29, List.cons.injEq, V.i.injEq, V.b.injEq, V.f.injEq, V.str.injEq, V.sl.injEq, V.agg.injEq, V.cptr.injEq, true_and, and_true] at h
  simp_all [ri ci_i64_inj]
noncomputable def F40 : List V → Option V := tells (fun a => g40 a) eA40 eB40
/- loop.example/g01229/impl.GreedyPlan -/
theorem ok40 : Tells Tryd.prog 40 F40 := by
 refine Tells.go 39 Tryd.func40 rfl rfl rfl (by kernel_rfl) (fun _ => rfl) ?_
 rintro s r h
 simp only [eA40, en, Nat.reduceAdd]
 replace h : (g40 s).bind some = some r := bindS h
 rw [g40] at h
 have hC : CEnv.Ok Tryd.prog [(39, F39), (86, F86)] := ⟨.inl ok39, .inl ok86, trivial⟩
 refine VW.seq (VW.rA (tm 39 [(1, .ptr 0 0 0)]) [some (7, [(pT29 s)])] [] hC (VW.seq (VW.seq ?_)))
 obtain ⟨r1, q2, h⟩ := bindE h
 have c2 : F39 [.agg (pT29 s)] = some (.b r1) := tells_eq inj39 (a := s) q2
 refine VW.rA (tm 39 [(1, .ptr 0 0 0), (12, .b (!r1))]) [some (7, [(pT29 s)])] [] hC (VW.condI h (fun h => ?_) (fun h => ?_)) (h := by simp -implicitDefEqProofs [c2])
 · refine VW.seq (VW.rA (tm 39 [(2, .nil), (3, .i .i64 1)]) [some (7, [(pT29 s)])] [] hC ?_)
   obtain rfl := leafS h
   exact VW.ret (VRet.fin (by simp [eB40]))
 refine VW.skip (VW.seq (VW.rD (tm 39 [(1, .ptr 0 0 0), (4, .ref 1 0 0), (5, .i .i64 s.first_)]) [some (7, [(pT29 s)]), some (1, rows ci_i64 [])] [] hC mixed (VW.join (fun (v : List Int) => (⟨(tm 39 [(4, .ref 1 0 v.length)]), [some (7, [(pT29 s)]), some (1, rows ci_i64 v)], []⟩ : VS)) (fun v => (g40_j1 (v)).bind some = some r) ?_ ?_)))
 · refine VW.seq (VW.rA (tm 39 [(1, .ptr 0 0 0), (4, .ref 1 0 0), (5, .i .i64 s.first_), (18, .i .i64 (s.need_.length : Int)), (19, .i .i64 0)]) [some (7, [(pT29 s)]), some (1, rows ci_i64 [])] [] hC (VW.block ?_))
   obtain ⟨w_1, hw_1, h⟩ := bindE h
   refine VW.loopO (fun (x : Int × Int × (List Int)) => (⟨(tm 39 [(1, .ptr 0 0 0), (4, .ref 1 0 x.2.2.length), (5, .i .i64 x.1), (18, .i .i64 (s.need_.length : Int)), (19, .i .i64 x.2.1)]), [some (7, [(pT29 s)]), some (1, rows ci_i64 x.2.2)], []⟩ : VS)) hw_1 (Ent.tu 2) ?_
   rintro n_1 ⟨store_44, x_45, l46⟩ h1
   rw [g40_L1] at h1
   refine VW.seq (VW.rA (tm 39 [(1, .ptr 0 0 0), (4, .ref 1 0 l46.length), (5, .i .i64 store_44), (18, .i .i64 (s.need_.length : Int)), (19, .i .i64 x_45), (20, .b (ltI x_45 (s.need_.length : Int)))]) [some (7, [(pT29 s)]), some (1, rows ci_i64 l46)] [] hC (VW.seq (VW.condJ h1 (fun h1 => ?_) (fun h1 => ?_))))
   · refine VW.exit ?_
     have e_ := leafR h1
     subst w_1
     exact vnext l46 h (Ent.tu 2)
   refine VW.skip (VW.seq (VW.block (VW.seq (VW.rA (tm 39 [(1, .ptr 0 0 0), (4, .ref 1 0 l46.length), (5, .i .i64 store_44), (6, .i .i64 x_45), (18, .i .i64 (s.need_.length : Int)), (19, .i .i64 x_45)]) [some (7, [(pT29 s)]), some (1, rows ci_i64 l46)] [] hC (VW.seq ?_)))))
   obtain ⟨r48, q49, h1⟩ := bindE h1
   have c49 : F86 [.agg (pT29 s), .i .i64 x_45, .i .i64 store_44] = some (.tup [.i .i64 r48.1, .i .i64 r48.2.1, .b r48.2.2]) := tells_eq inj86 (a := (s, x_45, store_44)) q49
   refine VW.rA (tm 39 [(1, .ptr 0 0 0), (4, .ref 1 0 l46.length), (7, .i .i64 r48.1), (8, .i .i64 r48.2.1), (9, .b r48.2.2), (18, .i .i64 (s.need_.length : Int)), (19, .i .i64 x_45)]) [some (7, [(pT29 s)]), some (1, rows ci_i64 l46)] [] hC (VW.seq (VW.seq (VW.rA (tm 39 [(1, .ptr 0 0 0), (4, .ref 1 0 l46.length), (7, .i .i64 r48.1), (8, .i .i64 r48.2.1), (18, .i .i64 (s.need_.length : Int)), (19, .i .i64 x_45), (31, .b (!r48.2.2))]) [some (7, [(pT29 s)]), some (1, rows ci_i64 l46)] [] hC (VW.condI h1 (fun h1 => ?_) (fun h1 => ?_))))) (h := by simp -implicitDefEqProofs [c49])
   · refine VW.seq (VW.rA (tm 39 [(2, .nil), (3, .i .i64 6)]) [some (7, [(pT29 s)]), some (1, rows ci_i64 l46)] [] hC ?_)
     have e_ := leafR h1
     subst w_1
     obtain rfl := leafS h
     exact VW.ret (VRet.fin (by simp [eB40]))
   refine VW.skip (VW.seq ?_)
   obtain ⟨u51, ⟨f52a, f52b⟩, h1⟩ := bindP h1
   try simp only [Int.toNat_natCast, Int.reduceToNat, List.length_cons, List.length_nil, Nat.reduceAdd, Nat.zero_add] at f52a f52b
   exact VW.rA (tm 39 [(1, .ptr 0 0 0), (4, .ref 1 0 (l46 ++ [r48.1]).length), (8, .i .i64 r48.2.1), (18, .i .i64 (s.need_.length : Int)), (19, .i .i64 x_45)]) [some (7, [(pT29 s)]), some (1, rows ci_i64 (l46 ++ [r48.1])), some (1, rows ci_i64 [r48.1])] [] hC (VW.rA (tm 39 [(1, .ptr 0 0 0), (4, .ref 1 0 (l46 ++ [r48.1]).length), (5, .i .i64 r48.2.1), (18, .i .i64 (s.need_.length : Int)), (19, .i .i64 x_45)]) [some (7, [(pT29 s)]), some (1, rows ci_i64 (l46 ++ [r48.1])), some (1, rows ci_i64 [r48.1])] [] hC (VW.rA (tm 39 [(1, .ptr 0 0 0), (4, .ref 1 0 (l46 ++ [r48.1]).length), (5, .i .i64 r48.2.1), (18, .i .i64 (s.need_.length : Int)), (19, .i .i64 (aI .i64 x_45 1))]) [some (7, [(pT29 s)]), some (1, rows ci_i64 (l46 ++ [r48.1])), some (1, rows ci_i64 [r48.1])] [] hC (vnext (r48.2.1, aI .i64 x_45 1, (l46 ++ [r48.1])) (leafL h1) (Ent.tu 2)))) (h := by simp -implicitDefEqProofs [f52a, f52b])
 rintro l28 h
 replace h : (g40_j1 l28).bind _ = _ := h
 rw [g40_j1] at h
 refine VW.seq (VW.rA (tm 39 [(2, .ref 1 0 l28.length), (3, .i .i64 0)]) [some (7, [(pT29 s)]), some (1, rows ci_i64 l28)] [] hC ?_)
 obtain rfl := leafS h
 exact VW.ret (VRet.fin (by simp [eB40]))
theorem tl40 {s : T29} {r : (List Int) × Int} (h : g40 s = some r) : F40 [.agg [.sl 1 (rows ci_i64 s.need_), .sl 1 (rows ci_i64 s.price_), .i .i64 s.most_, .i .i64 s.yield_, .i .i64 s.store_, .i .i64 s.first_, .i .i64 s.loss_]] = some (.tup [.own 1 (rows ci_i64 r.1), .i .i64 r.2]) := tells_eq inj40 (a := s) h
noncomputable def g105 (a : Int) (b : Int) : Option (Int) :=
if ltI b a = true then
some b
else
some a
def eA105 (a : Int × Int) : List V := [.i .i64 a.1, .i .i64 a.2]
def eB105 (r : Int) : V := .i .i64 r
theorem inj105 (a a' : Int × Int) (h : eA105 a = eA105 a') : a = a' := by
  obtain ⟨i449, i450⟩ := a
  obtain ⟨i451, i452⟩ := a'
  simp only [eA105, List.cons.injEq, V.i.injEq, V.b.injEq, V.f.injEq, V.str.injEq, V.sl.injEq, V.agg.injEq, V.cptr.injEq, true_and, and_true] at h
  simp_all
noncomputable def F105 : List V → Option V := tells (fun a => g105 a.1 a.2) eA105 eB105
/- loop.example/g01229/spec.l07Least -/
theorem ok105 : Tells Tryd.prog 105 F105 := by
 refine Tells.go 10 Tryd.func105 rfl rfl rfl (by kernel_rfl) (fun _ => rfl) ?_
 rintro ⟨a, b⟩ r h
 simp only [eA105, en, Nat.reduceAdd]
 replace h : (g105 a b).bind some = some r := bindS h
 rw [g105] at h
 have hC : CEnv.Ok Tryd.prog [] := trivial
 refine VW.seq (VW.rA (tm 10 [(0, .i .i64 a), (1, .i .i64 b)]) [] [] hC (VW.seq (VW.seq (VW.rA (tm 10 [(0, .i .i64 a), (1, .i .i64 b), (7, .b (ltI b a))]) [] [] hC (VW.condI h (fun h => ?_) (fun h => ?_))))))
 · refine VW.seq (VW.rA (tm 10 [(4, .i .i64 b)]) [] [] hC ?_)
   obtain rfl := leafS h
   exact VW.ret (VRet.fin (by simp [eB105]))
 refine VW.skip (VW.seq (VW.rA (tm 10 [(4, .i .i64 a)]) [] [] hC ?_))
 obtain rfl := leafS h
 exact VW.ret (VRet.fin (by simp [eB105]))
theorem tl105 {a : Int} {b : Int} {r : Int} (h : g105 a b = some r) : F105 [.i .i64 a, .i .i64 b] = some (.i .i64 r) := tells_eq inj105 (a := (a, b)) h
noncomputable def g91 (s : T29) (slot : Int) (store : Int) (logs : Int) : Option (Int) :=
(idx s.need_ slot).bind fun e1 =>
if ltI (sI .i64 (aI .i64 store (mI .i64 logs s.yield_)) e1) 0 = true then
some (-1)
else
(dI .i64 (mI .i64 (sI .i64 (aI .i64 store (mI .i64 logs s.yield_)) e1) s.loss_) 100).bind fun d4 =>
(g105 (sI .i64 (sI .i64 (aI .i64 store (mI .i64 logs s.yield_)) e1) d4) s.store_).bind fun r6 =>
some r6
def eA91 (a : T29 × Int × Int × Int) : List V := [.cptr (pT29 a.1) 0, .i .i64 a.2.1, .i .i64 a.2.2.1, .i .i64 a.2.2.2]
def eB91 (r : Int) : V := .i .i64 r
theorem inj91 (a a' : T29 × Int × Int × Int) (h : eA91 a = eA91 a') : a = a' := by
  obtain ⟨⟨i453, i454, i455, i456, i457, i458, i459⟩, i460, i461, i462⟩ := a
  obtain ⟨⟨i463, i464, i465, i466, i467, i468, i469⟩, i470, i471, i472⟩ := a'
  simp only [eA91, pT29, List.cons.injEq, V.i.injEq, V.b.injEq, V.f.injEq, V.str.injEq, V.sl.injEq, V.agg.injEq, V.cptr.injEq, true_and, and_true] at h
  simp_all [ri ci_i64_inj]
noncomputable def F91 : List V → Option V := tells (fun a => g91 a.1 a.2.1 a.2.2.1 a.2.2.2) eA91 eB91
/- loop.example/g01229/spec.l07After -/
theorem ok91 : Tells Tryd.prog 91 F91 := by
 refine Tells.go 42 Tryd.func91 rfl rfl rfl (by kernel_rfl) (fun _ => rfl) ?_
 rintro ⟨s, slot, store, logs⟩ r h
 simp only [eA91, en, Nat.reduceAdd]
 replace h : (g91 s slot store logs).bind some = some r := bindS h
 rw [g91] at h
 have hC : CEnv.Ok Tryd.prog [(105, F105)] := ⟨.inl ok105, trivial⟩
 refine VW.seq (VW.rA (tm 42 [(0, .cptr (pT29 s) 0), (1, .i .i64 slot), (2, .i .i64 store), (3, .i .i64 logs)]) [] [] hC (VW.seq ?_))
 obtain ⟨e1, ⟨f2a, f2b, f2c, f2d⟩, h⟩ := bindI h
 refine VW.rD (tm 42 [(0, .cptr (pT29 s) 0), (9, .i .i64 (sI .i64 (aI .i64 store (mI .i64 logs s.yield_)) e1))]) [] [] hC mixed (VW.seq (VW.seq (VW.rA (tm 42 [(0, .cptr (pT29 s) 0), (9, .i .i64 (sI .i64 (aI .i64 store (mI .i64 logs s.yield_)) e1)), (27, .b (ltI (sI .i64 (aI .i64 store (mI .i64 logs s.yield_)) e1) 0))]) [] [] hC (VW.condI h (fun h => ?_) (fun h => ?_))))) (h := by simp -implicitDefEqProofs [f2a, f2b, f2c, f2d])
 · refine VW.seq (VW.rA (tm 42 [(8, .i .i64 (-1))]) [] [] hC ?_)
   obtain rfl := leafS h
   exact VW.ret (VRet.fin (by simp [eB91]))
 refine VW.skip (VW.seq ?_)
 obtain ⟨d4, q5, h⟩ := bindE h
 obtain ⟨r6, q7, h⟩ := bindE h
 have c7 := tl105 q7
 refine VW.rD (tm 42 [(8, .i .i64 r6)]) [] [] hC mixed ?_ (h := by simp -implicitDefEqProofs [q5, c7])
 obtain rfl := leafS h
 exact VW.ret (VRet.fin (by simp [eB91]))
theorem tl91 {s : T29} {slot : Int} {store : Int} {logs : Int} {r : Int} (h : g91 s slot store logs = some r) : F91 [.cptr [.sl 1 (rows ci_i64 s.need_), .sl 1 (rows ci_i64 s.price_), .i .i64 s.most_, .i .i64 s.yield_, .i .i64 s.store_, .i .i64 s.first_, .i .i64 s.loss_] 0, .i .i64 slot, .i .i64 store, .i .i64 logs] = some (.i .i64 r) := tells_eq inj91 (a := (s, slot, store, logs)) h
noncomputable def g87_j1 : Option (Int × Int) :=
some ((-1), (-1))
noncomputable def g87_L1 (s : T29) (slot : Int) (store : Int) : (Int) → Option ((Int) ⊕ ((Unit) ⊕ (Int × Int)))
| n_24 =>
if leI n_24 s.most_ = true then
(g91 s slot store n_24).bind fun r26 =>
if leI 0 r26 = true then
some (.inr (.inr (n_24, r26)))
else
some (.inl (aI .i64 n_24 1))
else
some (.inr (.inl ()))
noncomputable def g87 (s : T29) (slot : Int) (store : Int) : Option (Int × Int) :=
(loopO (g87_L1 s slot store) 0).bind fun w => match w with
| .inl y => g87_j1
| .inr r => some r
def eA87 (a : T29 × Int × Int) : List V := [.cptr (pT29 a.1) 0, .i .i64 a.2.1, .i .i64 a.2.2]
def eB87 (r : Int × Int) : V := .tup [.i .i64 r.1, .i .i64 r.2]
theorem inj87 (a a' : T29 × Int × Int) (h : eA87 a = eA87 a') : a = a' := by
  obtain ⟨⟨i473, i474, i475, i476, i477, i478, i479⟩, i480, i481⟩ := a
  obtain ⟨⟨i482, i483, i484, i485, i486, i487, i488⟩, i489, i490⟩ := a'
  simp only [eA87, pT29, List.cons.injEq, V.i.injEq, V.b.injEq, V.f.injEq, V.str.injEq, V.sl.injEq, V.agg.injEq, V.cptr.injEq, true_and, and_true] at h
  simp_all [ri ci_i64_inj]
noncomputable def F87 : List V → Option V := tells (fun a => g87 a.1 a.2.1 a.2.2) eA87 eB87
/- loop.example/g01229/spec.l07Few -/
theorem ok87 : Tells Tryd.prog 87 F87 := by
 refine Tells.go 27 Tryd.func87 rfl rfl rfl (by kernel_rfl) (fun _ => rfl) ?_
 rintro ⟨s, slot, store⟩ r h
 simp only [eA87, en, Nat.reduceAdd]
 replace h : (g87 s slot store).bind some = some r := bindS h
 rw [g87] at h
 have hC : CEnv.Ok Tryd.prog [(91, F91)] := ⟨.inl ok91, trivial⟩
 refine VW.seq (VW.rA (tm 27 [(0, .cptr (pT29 s) 0), (1, .i .i64 slot), (2, .i .i64 store)]) [] [] hC (VW.join (fun (v : Unit) => (⟨(tm 27 []), [], []⟩ : VS)) (fun v => (g87_j1).bind some = some r) ?_ ?_))
 · refine VW.seq (VW.rA (tm 27 [(0, .cptr (pT29 s) 0), (1, .i .i64 slot), (2, .i .i64 store), (8, .i .i64 0)]) [] [] hC (VW.block ?_))
   obtain ⟨w_1, hw_1, h⟩ := bindE h
   refine VW.loopO (fun (x : Int) => (⟨(tm 27 [(0, .cptr (pT29 s) 0), (1, .i .i64 slot), (2, .i .i64 store), (8, .i .i64 x)]), [], []⟩ : VS)) hw_1 (Ent.tu 0) ?_
   rintro n_1 n_24 h1
   rw [g87_L1] at h1
   refine VW.seq (VW.seq (VW.rA (tm 27 [(0, .cptr (pT29 s) 0), (1, .i .i64 slot), (2, .i .i64 store), (8, .i .i64 n_24), (15, .b (leI n_24 s.most_))]) [] [] hC (VW.condJ h1 (fun h1 => ?_) (fun h1 => ?_))))
   · refine VW.exit ?_
     have e_ := leafR h1
     subst w_1
     exact vnext () h (Ent.tu 0)
   refine VW.skip (VW.seq (VW.block (VW.seq ?_)))
   obtain ⟨r26, q27, h1⟩ := bindE h1
   have c27 : F91 [.cptr (pT29 s) 0, .i .i64 slot, .i .i64 store, .i .i64 n_24] = some (.i .i64 r26) := tells_eq inj91 (a := (s, slot, store, n_24)) q27
   refine VW.rA (tm 27 [(0, .cptr (pT29 s) 0), (1, .i .i64 slot), (2, .i .i64 store), (8, .i .i64 n_24), (9, .i .i64 r26)]) [] [] hC (VW.seq (VW.rA (tm 27 [(0, .cptr (pT29 s) 0), (1, .i .i64 slot), (2, .i .i64 store), (8, .i .i64 n_24), (9, .i .i64 r26), (24, .b (leI 0 r26))]) [] [] hC (VW.condI h1 (fun h1 => ?_) (fun h1 => ?_)))) (h := by simp -implicitDefEqProofs [c27])
   · refine VW.seq (VW.rA (tm 27 [(6, .i .i64 n_24), (7, .i .i64 r26)]) [] [] hC ?_)
     have e_ := leafR h1
     subst w_1
     obtain rfl := leafS h
     exact VW.ret (VRet.fin (by simp [eB87]))
   exact VW.skip (VW.rA (tm 27 [(0, .cptr (pT29 s) 0), (1, .i .i64 slot), (2, .i .i64 store), (8, .i .i64 (aI .i64 n_24 1))]) [] [] hC (vnext (aI .i64 n_24 1) (leafL h1) (Ent.tu 0)))
 rintro _ h
 replace h : (g87_j1).bind _ = _ := h
 rw [g87_j1] at h
 refine VW.seq (VW.rA (tm 27 [(6, .i .i64 (-1)), (7, .i .i64 (-1))]) [] [] hC ?_)
 obtain rfl := leafS h
 exact VW.ret (VRet.fin (by simp [eB87]))
theorem tl87 {s : T29} {slot : Int} {store : Int} {r : Int × Int} (h : g87 s slot store = some r) : F87 [.cptr [.sl 1 (rows ci_i64 s.need_), .sl 1 (rows ci_i64 s.price_), .i .i64 s.most_, .i .i64 s.yield_, .i .i64 s.store_, .i .i64 s.first_, .i .i64 s.loss_] 0, .i .i64 slot, .i .i64 store] = some (.tup [.i .i64 r.1, .i .i64 r.2]) := tells_eq inj87 (a := (s, slot, store)) h
noncomputable def g41_j1 (l28 : List Int) : Option ((List Int) × Int) :=
some (l28, 0)
noncomputable def g41_L1 (s : T29) : (Int × Int × (List Int)) → Option ((Int × Int × (List Int)) ⊕ ((List Int) ⊕ ((List Int) × Int)))
| (at_44, k_45, l46) =>
if ltI k_45 (s.need_.length : Int) = true then
(g87 s k_45 at_44).bind fun r48 =>
if ltI r48.1 0 = true then
some (.inr (.inr ([], 6)))
else
(appK 8 l46 [r48.1]).bind fun u51 =>
some (.inl (r48.2, aI .i64 k_45 1, (l46 ++ [r48.1])))
else
some (.inr (.inl l46))
noncomputable def g41 (s : T29) : Option ((List Int) × Int) :=
(g55 s).bind fun r1 =>
if (!r1) = true then
some ([], 1)
else
(loopO (g41_L1 s) (s.first_, 0, [])).bind fun w => match w with
| .inl y => g41_j1 y
| .inr r => some r
def eA41 (a : T29) : List V := [.agg (pT29 a)]
def eB41 (r : (List Int) × Int) : V := .tup [.own 1 (rows ci_i64 r.1), .i .i64 r.2]
theorem inj41 (a a' : T29) (h : eA41 a = eA41 a') : a = a' := by
  obtain ⟨i491, i492, i493, i494, i495, i496, i497⟩ := a
  obtain ⟨i498, i499, i500, i501, i502, i503, i504⟩ := a'
  simp only [eA41, pT29, List.cons.injEq, V.i.injEq, V.b.injEq, V.f.injEq, V.str.injEq, V.sl.injEq, V.agg.injEq, V.cptr.injEq, true_and, and_true] at h
  simp_all [ri ci_i64_inj]
noncomputable def F41 : List V → Option V := tells (fun a => g41 a) eA41 eB41
/- loop.example/g01229/spec.GreedyPlan -/
theorem ok41 : Tells Tryd.prog 41 F41 := by
 refine Tells.go 37 Tryd.func41 rfl rfl rfl (by kernel_rfl) (fun _ => rfl) ?_
 rintro s r h
 simp only [eA41, en, Nat.reduceAdd]
 replace h : (g41 s).bind some = some r := bindS h
 rw [g41] at h
 have hC : CEnv.Ok Tryd.prog [(55, F55), (87, F87)] := ⟨.inl ok55, .inl ok87, trivial⟩
 refine VW.seq (VW.rA (tm 37 [(1, .ptr 0 0 0)]) [some (7, [(pT29 s)])] [] hC (VW.seq (VW.seq ?_)))
 obtain ⟨r1, q2, h⟩ := bindE h
 have c2 : F55 [.cptr (pT29 s) 0] = some (.b r1) := tells_eq inj55 (a := s) q2
 refine VW.rA (tm 37 [(1, .ptr 0 0 0), (10, .b (!r1))]) [some (7, [(pT29 s)])] [] hC (VW.condI h (fun h => ?_) (fun h => ?_)) (h := by simp -implicitDefEqProofs [c2])
 · refine VW.seq (VW.rA (tm 37 [(2, .ref 1 0 0), (3, .i .i64 1)]) [some (7, [(pT29 s)]), some (1, rows ci_i64 [])] [] hC ?_)
   obtain rfl := leafS h
   exact VW.ret (VRet.fin (by simp [eB41]))
 refine VW.skip (VW.seq (VW.rA (tm 37 [(1, .ptr 0 0 0), (4, .ref 1 0 0)]) [some (7, [(pT29 s)]), some (1, rows ci_i64 [])] [] hC (VW.seq (VW.rA (tm 37 [(1, .ptr 0 0 0), (4, .ref 1 0 0), (5, .i .i64 s.first_)]) [some (7, [(pT29 s)]), some (1, rows ci_i64 [])] [] hC (VW.join (fun (v : List Int) => (⟨(tm 37 [(4, .ref 1 0 v.length)]), [some (7, [(pT29 s)]), some (1, rows ci_i64 v)], []⟩ : VS)) (fun v => (g41_j1 (v)).bind some = some r) ?_ ?_)))))
 · refine VW.seq (VW.rA (tm 37 [(1, .ptr 0 0 0), (4, .ref 1 0 0), (5, .i .i64 s.first_), (6, .i .i64 0)]) [some (7, [(pT29 s)]), some (1, rows ci_i64 [])] [] hC (VW.block ?_))
   obtain ⟨w_1, hw_1, h⟩ := bindE h
   refine VW.loopO (fun (x : Int × Int × (List Int)) => (⟨(tm 37 [(1, .ptr 0 0 0), (4, .ref 1 0 x.2.2.length), (5, .i .i64 x.1), (6, .i .i64 x.2.1)]), [some (7, [(pT29 s)]), some (1, rows ci_i64 x.2.2)], []⟩ : VS)) hw_1 (Ent.tu 2) ?_
   rintro n_1 ⟨at_44, k_45, l46⟩ h1
   rw [g41_L1] at h1
   refine VW.seq (VW.seq (VW.rA (tm 37 [(1, .ptr 0 0 0), (4, .ref 1 0 l46.length), (5, .i .i64 at_44), (6, .i .i64 k_45), (19, .b (ltI k_45 (s.need_.length : Int)))]) [some (7, [(pT29 s)]), some (1, rows ci_i64 l46)] [] hC (VW.condJ h1 (fun h1 => ?_) (fun h1 => ?_))))
   · refine VW.exit ?_
     have e_ := leafR h1
     subst w_1
     exact vnext l46 h (Ent.tu 2)
   refine VW.skip (VW.seq (VW.block (VW.seq ?_)))
   obtain ⟨r48, q49, h1⟩ := bindE h1
   have c49 : F87 [.cptr (pT29 s) 0, .i .i64 k_45, .i .i64 at_44] = some (.tup [.i .i64 r48.1, .i .i64 r48.2]) := tells_eq inj87 (a := (s, k_45, at_44)) q49
   refine VW.rA (tm 37 [(1, .ptr 0 0 0), (4, .ref 1 0 l46.length), (6, .i .i64 k_45), (7, .i .i64 r48.1), (8, .i .i64 r48.2)]) [some (7, [(pT29 s)]), some (1, rows ci_i64 l46)] [] hC (VW.seq (VW.seq (VW.rA (tm 37 [(1, .ptr 0 0 0), (4, .ref 1 0 l46.length), (6, .i .i64 k_45), (7, .i .i64 r48.1), (8, .i .i64 r48.2), (29, .b (ltI r48.1 0))]) [some (7, [(pT29 s)]), some (1, rows ci_i64 l46)] [] hC (VW.condI h1 (fun h1 => ?_) (fun h1 => ?_))))) (h := by simp -implicitDefEqProofs [c49])
   · refine VW.seq (VW.rA (tm 37 [(2, .ref 2 0 0), (3, .i .i64 6)]) [some (7, [(pT29 s)]), some (1, rows ci_i64 l46), some (1, rows ci_i64 [])] [] hC ?_)
     have e_ := leafR h1
     subst w_1
     obtain rfl := leafS h
     exact VW.ret (VRet.fin (by simp [eB41]))
   refine VW.skip (VW.seq ?_)
   obtain ⟨u51, ⟨f52a, f52b⟩, h1⟩ := bindP h1
   try simp only [Int.toNat_natCast, Int.reduceToNat, List.length_cons, List.length_nil, Nat.reduceAdd, Nat.zero_add] at f52a f52b
   exact VW.rA (tm 37 [(1, .ptr 0 0 0), (4, .ref 1 0 (l46 ++ [r48.1]).length), (6, .i .i64 k_45), (8, .i .i64 r48.2)]) [some (7, [(pT29 s)]), some (1, rows ci_i64 (l46 ++ [r48.1])), some (1, rows ci_i64 [r48.1])] [] hC (VW.rA (tm 37 [(1, .ptr 0 0 0), (4, .ref 1 0 (l46 ++ [r48.1]).length), (5, .i .i64 r48.2), (6, .i .i64 k_45)]) [some (7, [(pT29 s)]), some (1, rows ci_i64 (l46 ++ [r48.1])), some (1, rows ci_i64 [r48.1])] [] hC (VW.rA (tm 37 [(1, .ptr 0 0 0), (4, .ref 1 0 (l46 ++ [r48.1]).length), (5, .i .i64 r48.2), (6, .i .i64 (aI .i64 k_45 1))]) [some (7, [(pT29 s)]), some (1, rows ci_i64 (l46 ++ [r48.1])), some (1, rows ci_i64 [r48.1])] [] hC (vnext (r48.2, aI .i64 k_45 1, (l46 ++ [r48.1])) (leafL h1) (Ent.tu 2)))) (h := by simp -implicitDefEqProofs [f52a, f52b])
 rintro l28 h
 replace h : (g41_j1 l28).bind _ = _ := h
 rw [g41_j1] at h
 refine VW.seq (VW.rA (tm 37 [(2, .ref 1 0 l28.length), (3, .i .i64 0)]) [some (7, [(pT29 s)]), some (1, rows ci_i64 l28)] [] hC ?_)
 obtain rfl := leafS h
 exact VW.ret (VRet.fin (by simp [eB41]))
theorem tl41 {s : T29} {r : (List Int) × Int} (h : g41 s = some r) : F41 [.agg [.sl 1 (rows ci_i64 s.need_), .sl 1 (rows ci_i64 s.price_), .i .i64 s.most_, .i .i64 s.yield_, .i .i64 s.store_, .i .i64 s.first_, .i .i64 s.loss_]] = some (.tup [.own 1 (rows ci_i64 r.1), .i .i64 r.2]) := tells_eq inj41 (a := s) h
noncomputable def g88_j1 : Option (Int) :=
some 0
noncomputable def g88_L1 (plan : List Int) (s : T29) : (Int) → Option ((Int) ⊕ ((Unit) ⊕ (Int)))
| x_28 =>
if ltI x_28 (plan.length : Int) = true then
(idx plan x_28).bind fun e30 =>
if (ltI e30 0 || ltI s.most_ e30) = true then
some (.inr (.inr 2))
else
some (.inl (aI .i64 x_28 1))
else
some (.inr (.inl ()))
noncomputable def g88 (s : T29) (plan : List Int) : Option (Int) :=
(g39 s).bind fun r1 =>
if (!r1) = true then
some 1
else
if (!eqI (plan.length : Int) (s.need_.length : Int)) = true then
some 2
else
(loopO (g88_L1 plan s) 0).bind fun w => match w with
| .inl y => g88_j1
| .inr r => some r
def eA88 (a : T29 × (List Int)) : List V := [.agg (pT29 a.1), .sl 1 (rows ci_i64 a.2)]
def eB88 (r : Int) : V := .i .i64 r
theorem inj88 (a a' : T29 × (List Int)) (h : eA88 a = eA88 a') : a = a' := by
  obtain ⟨⟨i505, i506, i507, i508, i509, i510, i511⟩, i512⟩ := a
  obtain ⟨⟨i513, i514, i515, i516, i517, i518, i519⟩, i520⟩ := a'
  simp only [eA88, pT29, List.cons.injEq, V.i.injEq, V.b.injEq, V.f.injEq, V.str.injEq, V.sl.injEq, V.agg.injEq, V.cptr.injEq, true_and, and_true] at h
  simp_all [ri ci_i64_inj]
noncomputable def F88 : List V → Option V := tells (fun a => g88 a.1 a.2) eA88 eB88
/- loop.example/g01229/impl.planCode -/
theorem ok88 : Tells Tryd.prog 88 F88 := by
 refine Tells.go 31 Tryd.func88 rfl rfl rfl (by kernel_rfl) (fun _ => rfl) ?_
 rintro ⟨s, plan⟩ r h
 simp only [eA88, en, Nat.reduceAdd]
 replace h : (g88 s plan).bind some = some r := bindS h
 rw [g88] at h
 have hC : CEnv.Ok Tryd.prog [(39, F39)] := ⟨.inl ok39, trivial⟩
 refine VW.seq (VW.rA (tm 31 [(1, .sl 1 (rows ci_i64 plan)), (2, .ptr 0 0 0)]) [some (7, [(pT29 s)])] [] hC (VW.seq (VW.seq ?_)))
 obtain ⟨r1, q2, h⟩ := bindE h
 have c2 : F39 [.agg (pT29 s)] = some (.b r1) := tells_eq inj39 (a := s) q2
 refine VW.rA (tm 31 [(1, .sl 1 (rows ci_i64 plan)), (2, .ptr 0 0 0), (9, .b (!r1))]) [some (7, [(pT29 s)])] [] hC (VW.condI h (fun h => ?_) (fun h => ?_)) (h := by simp -implicitDefEqProofs [c2])
 · refine VW.seq (VW.rA (tm 31 [(4, .i .i64 1)]) [some (7, [(pT29 s)])] [] hC ?_)
   obtain rfl := leafS h
   exact VW.ret (VRet.fin (by simp [eB88]))
 refine VW.skip (VW.seq (VW.seq (VW.rA (tm 31 [(1, .sl 1 (rows ci_i64 plan)), (2, .ptr 0 0 0), (15, .b (!eqI (plan.length : Int) (s.need_.length : Int)))]) [some (7, [(pT29 s)])] [] hC (VW.condI h (fun h => ?_) (fun h => ?_)))))
 · refine VW.seq (VW.rA (tm 31 [(4, .i .i64 2)]) [some (7, [(pT29 s)])] [] hC ?_)
   obtain rfl := leafS h
   exact VW.ret (VRet.fin (by simp [eB88]))
 refine VW.skip (VW.join (fun (v : Unit) => (⟨(tm 31 []), [some (7, [(pT29 s)])], []⟩ : VS)) (fun v => (g88_j1).bind some = some r) ?_ ?_)
 · refine VW.seq (VW.rA (tm 31 [(2, .ptr 0 0 0), (16, .sl 1 (rows ci_i64 plan)), (17, .i .i64 (plan.length : Int)), (18, .i .i64 0)]) [some (7, [(pT29 s)])] [] hC (VW.block ?_))
   obtain ⟨w_1, hw_1, h⟩ := bindE h
   refine VW.loopO (fun (x : Int) => (⟨(tm 31 [(2, .ptr 0 0 0), (16, .sl 1 (rows ci_i64 plan)), (17, .i .i64 (plan.length : Int)), (18, .i .i64 x)]), [some (7, [(pT29 s)])], []⟩ : VS)) hw_1 (Ent.tu 1) ?_
   rintro n_1 x_28 h1
   rw [g88_L1] at h1
   refine VW.seq (VW.rA (tm 31 [(2, .ptr 0 0 0), (16, .sl 1 (rows ci_i64 plan)), (17, .i .i64 (plan.length : Int)), (18, .i .i64 x_28), (19, .b (ltI x_28 (plan.length : Int)))]) [some (7, [(pT29 s)])] [] hC (VW.seq (VW.condJ h1 (fun h1 => ?_) (fun h1 => ?_))))
   · refine VW.exit ?_
     have e_ := leafR h1
     subst w_1
     exact vnext () h (Ent.tu 1)
   refine VW.skip (VW.seq (VW.block (VW.seq ?_)))
   obtain ⟨e30, ⟨f31a, f31b, f31c, f31d⟩, h1⟩ := bindI h1
   refine VW.rA (tm 31 [(2, .ptr 0 0 0), (6, .i .i64 e30), (16, .sl 1 (rows ci_i64 plan)), (17, .i .i64 (plan.length : Int)), (18, .i .i64 x_28)]) [some (7, [(pT29 s)])] [] hC (VW.seq (VW.rA (tm 31 [(2, .ptr 0 0 0), (16, .sl 1 (rows ci_i64 plan)), (17, .i .i64 (plan.length : Int)), (18, .i .i64 x_28), (29, .b (ltI e30 0 || ltI s.most_ e30))]) [some (7, [(pT29 s)])] [] hC (VW.condI h1 (fun h1 => ?_) (fun h1 => ?_)))) (h := by simp -implicitDefEqProofs [f31a, f31b, f31c, f31d])
   · refine VW.seq (VW.rA (tm 31 [(4, .i .i64 2)]) [some (7, [(pT29 s)])] [] hC ?_)
     have e_ := leafR h1
     subst w_1
     obtain rfl := leafS h
     exact VW.ret (VRet.fin (by simp [eB88]))
   exact VW.skip (VW.rA (tm 31 [(2, .ptr 0 0 0), (16, .sl 1 (rows ci_i64 plan)), (17, .i .i64 (plan.length : Int)), (18, .i .i64 (aI .i64 x_28 1))]) [some (7, [(pT29 s)])] [] hC (vnext (aI .i64 x_28 1) (leafL h1) (Ent.tu 1)))
 rintro _ h
 replace h : (g88_j1).bind _ = _ := h
 rw [g88_j1] at h
 refine VW.seq (VW.rA (tm 31 [(4, .i .i64 0)]) [some (7, [(pT29 s)])] [] hC ?_)
 obtain rfl := leafS h
 exact VW.ret (VRet.fin (by simp [eB88]))
theorem tl88 {s : T29} {plan : List Int} {r : Int} (h : g88 s plan = some r) : F88 [.agg [.sl 1 (rows ci_i64 s.need_), .sl 1 (rows ci_i64 s.price_), .i .i64 s.most_, .i .i64 s.yield_, .i .i64 s.store_, .i .i64 s.first_, .i .i64 s.loss_], .sl 1 (rows ci_i64 plan)] = some (.i .i64 r) := tells_eq inj88 (a := (s, plan)) h
noncomputable def g42_j1 (turned_54 : Int) (l55 : List Int) : Option ((List Int) × Int × Int) :=
some (l55, turned_54, 0)
noncomputable def g42_L1 (plan : List Int) (s : T29) : (Int × Int × Int × (List Int)) → Option ((Int × Int × Int × (List Int)) ⊕ ((Int × (List Int)) ⊕ ((List Int) × Int × Int)))
| (store_88, turned_89, x_90, l91) =>
if ltI x_90 (plan.length : Int) = true then
(idx plan x_90).bind fun e93 =>
(g89 s x_90 store_88 e93).bind fun r95 =>
if (!r95.2) = true then
(g86 s x_90 store_88).bind fun r98 =>
if (!r98.2.2) = true then
some (.inr (.inr ([], 0, 6)))
else
(appK 8 l91 [r98.1]).bind fun u101 =>
some (.inl (r98.2.1, aI .i64 turned_89 1, aI .i64 x_90 1, (l91 ++ [r98.1])))
else
if (!r95.2) = true then
some (.inr (.inr ([], 0, 6)))
else
(appK 8 l91 [e93]).bind fun u104 =>
some (.inl (r95.1, turned_89, aI .i64 x_90 1, (l91 ++ [e93])))
else
some (.inr (.inl (turned_89, l91)))
noncomputable def g42 (s : T29) (plan : List Int) : Option ((List Int) × Int × Int) :=
(g88 s plan).bind fun r1 =>
if (!eqI r1 0) = true then
some ([], 0, r1)
else
(loopO (g42_L1 plan s) (s.first_, 0, 0, [])).bind fun w => match w with
| .inl y => g42_j1 y.1 y.2
| .inr r => some r
def eA42 (a : T29 × (List Int)) : List V := [.agg (pT29 a.1), .sl 1 (rows ci_i64 a.2)]
def eB42 (r : (List Int) × Int × Int) : V := .tup [.own 1 (rows ci_i64 r.1), .i .i64 r.2.1, .i .i64 r.2.2]
theorem inj42 (a a' : T29 × (List Int)) (h : eA42 a = eA42 a') : a = a' := by
  obtain ⟨⟨i521, i522, i523, i524, i525, i526, i527⟩, i528⟩ := a
  obtain ⟨⟨i529, i530, i531, i532, i533, i534, i535⟩, i536⟩ := a'
  simp only [eA42, pT29, List.cons.injEq, V.i.injEq, V.b.injEq, V.f.injEq, V.str.injEq, V.sl.injEq, V.agg.injEq, V.cptr.injEq, true_and, and_true] at h
  simp_all [ri ci_i64_inj]
noncomputable def F42 : List V → Option V := tells (fun a => g42 a.1 a.2) eA42 eB42
/- loop.example/g01229/impl.RepairPlan -/
theorem ok42 : Tells Tryd.prog 42 F42 := by
 refine Tells.go 61 Tryd.func42 rfl rfl rfl (by kernel_rfl) (fun _ => rfl) ?_
 rintro ⟨s, plan⟩ r h
 simp only [eA42, en, Nat.reduceAdd]
 replace h : (g42 s plan).bind some = some r := bindS h
 rw [g42] at h
 have hC : CEnv.Ok Tryd.prog [(86, F86), (88, F88), (89, F89)] := ⟨.inl ok86, .inl ok88, .inl ok89, trivial⟩
 refine VW.seq (VW.rA (tm 61 [(1, .sl 1 (rows ci_i64 plan)), (2, .ptr 0 0 0)]) [some (7, [(pT29 s)])] [] hC (VW.seq (VW.seq ?_)))
 obtain ⟨r1, q2, h⟩ := bindE h
 have c2 : F88 [.agg (pT29 s), .sl 1 (rows ci_i64 plan)] = some (.i .i64 r1) := tells_eq inj88 (a := (s, plan)) q2
 refine VW.rA (tm 61 [(1, .sl 1 (rows ci_i64 plan)), (2, .ptr 0 0 0), (7, .i .i64 r1)]) [some (7, [(pT29 s)])] [] hC (VW.seq (VW.rA (tm 61 [(1, .sl 1 (rows ci_i64 plan)), (2, .ptr 0 0 0), (7, .i .i64 r1), (19, .b (!eqI r1 0))]) [some (7, [(pT29 s)])] [] hC (VW.condI h (fun h => ?_) (fun h => ?_)))) (h := by simp -implicitDefEqProofs [c2])
 · refine VW.seq (VW.rA (tm 61 [(4, .nil), (5, .i .i64 0), (6, .i .i64 r1)]) [some (7, [(pT29 s)])] [] hC ?_)
   obtain rfl := leafS h
   exact VW.ret (VRet.fin (by simp [eB42]))
 refine VW.skip (VW.seq (VW.rD (tm 61 [(1, .sl 1 (rows ci_i64 plan)), (2, .ptr 0 0 0), (8, .ref 1 0 0), (9, .i .i64 s.first_), (10, .i .i64 0)]) [some (7, [(pT29 s)]), some (1, rows ci_i64 [])] [] hC mixed (VW.join (fun (v : Int × (List Int)) => (⟨(tm 61 [(8, .ref 1 0 v.2.length), (10, .i .i64 v.1)]), [some (7, [(pT29 s)]), some (1, rows ci_i64 v.2)], []⟩ : VS)) (fun v => (g42_j1 (v.1) (v.2)).bind some = some r) ?_ ?_)))
 · refine VW.seq (VW.rA (tm 61 [(2, .ptr 0 0 0), (8, .ref 1 0 0), (9, .i .i64 s.first_), (10, .i .i64 0), (24, .sl 1 (rows ci_i64 plan)), (25, .i .i64 (plan.length : Int)), (26, .i .i64 0)]) [some (7, [(pT29 s)]), some (1, rows ci_i64 [])] [] hC (VW.block ?_))
   obtain ⟨w_1, hw_1, h⟩ := bindE h
   refine VW.loopO (fun (x : Int × Int × Int × (List Int)) => (⟨(tm 61 [(2, .ptr 0 0 0), (8, .ref 1 0 x.2.2.2.length), (9, .i .i64 x.1), (10, .i .i64 x.2.1), (24, .sl 1 (rows ci_i64 plan)), (25, .i .i64 (plan.length : Int)), (26, .i .i64 x.2.2.1)]), [some (7, [(pT29 s)]), some (1, rows ci_i64 x.2.2.2)], []⟩ : VS)) hw_1 (Ent.tu 2) ?_
   rintro n_1 ⟨store_88, turned_89, x_90, l91⟩ h1
   rw [g42_L1] at h1
   refine VW.seq (VW.rA (tm 61 [(2, .ptr 0 0 0), (8, .ref 1 0 l91.length), (9, .i .i64 store_88), (10, .i .i64 turned_89), (24, .sl 1 (rows ci_i64 plan)), (25, .i .i64 (plan.length : Int)), (26, .i .i64 x_90), (27, .b (ltI x_90 (plan.length : Int)))]) [some (7, [(pT29 s)]), some (1, rows ci_i64 l91)] [] hC (VW.seq (VW.condJ h1 (fun h1 => ?_) (fun h1 => ?_))))
   · refine VW.exit ?_
     have e_ := leafR h1
     subst w_1
     exact vnext (turned_89, l91) h (Ent.tu 2)
   refine VW.skip (VW.seq (VW.block (VW.seq ?_)))
   obtain ⟨e93, ⟨f94a, f94b, f94c, f94d⟩, h1⟩ := bindI h1
   refine VW.rA (tm 61 [(2, .ptr 0 0 0), (8, .ref 1 0 l91.length), (9, .i .i64 store_88), (10, .i .i64 turned_89), (11, .i .i64 x_90), (12, .i .i64 e93), (24, .sl 1 (rows ci_i64 plan)), (25, .i .i64 (plan.length : Int)), (26, .i .i64 x_90)]) [some (7, [(pT29 s)]), some (1, rows ci_i64 l91)] [] hC (VW.seq ?_) (h := by simp -implicitDefEqProofs [f94a, f94b, f94c, f94d])
   obtain ⟨r95, q96, h1⟩ := bindE h1
   have c96 : F89 [.agg (pT29 s), .i .i64 x_90, .i .i64 store_88, .i .i64 e93] = some (.tup [.i .i64 r95.1, .b r95.2]) := tells_eq inj89 (a := (s, x_90, store_88, e93)) q96
   refine VW.rA (tm 61 [(2, .ptr 0 0 0), (8, .ref 1 0 l91.length), (9, .i .i64 store_88), (10, .i .i64 turned_89), (11, .i .i64 x_90), (12, .i .i64 e93), (13, .i .i64 r95.1), (14, .b r95.2), (24, .sl 1 (rows ci_i64 plan)), (25, .i .i64 (plan.length : Int)), (26, .i .i64 x_90)]) [some (7, [(pT29 s)]), some (1, rows ci_i64 l91)] [] hC (VW.seq (VW.seq (VW.rA (tm 61 [(2, .ptr 0 0 0), (8, .ref 1 0 l91.length), (9, .i .i64 store_88), (10, .i .i64 turned_89), (11, .i .i64 x_90), (12, .i .i64 e93), (13, .i .i64 r95.1), (14, .b r95.2), (24, .sl 1 (rows ci_i64 plan)), (25, .i .i64 (plan.length : Int)), (26, .i .i64 x_90), (40, .b (!r95.2))]) [some (7, [(pT29 s)]), some (1, rows ci_i64 l91)] [] hC (VW.condJ h1 (fun h1 => ?_) (fun h1 => ?_))))) (h := by simp -implicitDefEqProofs [c96])
   · refine VW.skip (VW.seq (VW.seq (VW.rA (tm 61 [(2, .ptr 0 0 0), (8, .ref 1 0 l91.length), (10, .i .i64 turned_89), (12, .i .i64 e93), (13, .i .i64 r95.1), (24, .sl 1 (rows ci_i64 plan)), (25, .i .i64 (plan.length : Int)), (26, .i .i64 x_90), (52, .b (!r95.2))]) [some (7, [(pT29 s)]), some (1, rows ci_i64 l91)] [] hC (VW.condI h1 (fun h1 => ?_) (fun h1 => ?_)))))
     · refine VW.seq (VW.rA (tm 61 [(4, .nil), (5, .i .i64 0), (6, .i .i64 6)]) [some (7, [(pT29 s)]), some (1, rows ci_i64 l91)] [] hC ?_)
       have e_ := leafR h1
       subst w_1
       obtain rfl := leafS h
       exact VW.ret (VRet.fin (by simp [eB42]))
     refine VW.skip (VW.seq ?_)
     obtain ⟨u104, ⟨f105a, f105b⟩, h1⟩ := bindP h1
     try simp only [Int.toNat_natCast, Int.reduceToNat, List.length_cons, List.length_nil, Nat.reduceAdd, Nat.zero_add] at f105a f105b
     exact VW.rA (tm 61 [(2, .ptr 0 0 0), (8, .ref 1 0 (l91 ++ [e93]).length), (10, .i .i64 turned_89), (13, .i .i64 r95.1), (24, .sl 1 (rows ci_i64 plan)), (25, .i .i64 (plan.length : Int)), (26, .i .i64 x_90)]) [some (7, [(pT29 s)]), some (1, rows ci_i64 (l91 ++ [e93])), some (1, rows ci_i64 [e93])] [] hC (VW.rA (tm 61 [(2, .ptr 0 0 0), (8, .ref 1 0 (l91 ++ [e93]).length), (9, .i .i64 r95.1), (10, .i .i64 turned_89), (24, .sl 1 (rows ci_i64 plan)), (25, .i .i64 (plan.length : Int)), (26, .i .i64 x_90)]) [some (7, [(pT29 s)]), some (1, rows ci_i64 (l91 ++ [e93])), some (1, rows ci_i64 [e93])] [] hC (VW.rA (tm 61 [(2, .ptr 0 0 0), (8, .ref 1 0 (l91 ++ [e93]).length), (9, .i .i64 r95.1), (10, .i .i64 turned_89), (24, .sl 1 (rows ci_i64 plan)), (25, .i .i64 (plan.length : Int)), (26, .i .i64 (aI .i64 x_90 1))]) [some (7, [(pT29 s)]), some (1, rows ci_i64 (l91 ++ [e93])), some (1, rows ci_i64 [e93])] [] hC (vnext (r95.1, turned_89, aI .i64 x_90 1, (l91 ++ [e93])) (leafL h1) (Ent.tu 2)))) (h := by simp -implicitDefEqProofs [f105a, f105b])
   refine VW.seq ?_
   obtain ⟨r98, q99, h1⟩ := bindE h1
   have c99 : F86 [.agg (pT29 s), .i .i64 x_90, .i .i64 store_88] = some (.tup [.i .i64 r98.1, .i .i64 r98.2.1, .b r98.2.2]) := tells_eq inj86 (a := (s, x_90, store_88)) q99
   refine VW.rA (tm 61 [(2, .ptr 0 0 0), (8, .ref 1 0 l91.length), (10, .i .i64 turned_89), (12, .i .i64 r98.1), (13, .i .i64 r98.2.1), (14, .b r98.2.2), (24, .sl 1 (rows ci_i64 plan)), (25, .i .i64 (plan.length : Int)), (26, .i .i64 x_90)]) [some (7, [(pT29 s)]), some (1, rows ci_i64 l91)] [] hC (VW.rA (tm 61 [(2, .ptr 0 0 0), (8, .ref 1 0 l91.length), (10, .i .i64 (aI .i64 turned_89 1)), (12, .i .i64 r98.1), (13, .i .i64 r98.2.1), (14, .b r98.2.2), (24, .sl 1 (rows ci_i64 plan)), (25, .i .i64 (plan.length : Int)), (26, .i .i64 x_90)]) [some (7, [(pT29 s)]), some (1, rows ci_i64 l91)] [] hC (VW.seq (VW.seq (VW.rA (tm 61 [(2, .ptr 0 0 0), (8, .ref 1 0 l91.length), (10, .i .i64 (aI .i64 turned_89 1)), (12, .i .i64 r98.1), (13, .i .i64 r98.2.1), (24, .sl 1 (rows ci_i64 plan)), (25, .i .i64 (plan.length : Int)), (26, .i .i64 x_90), (52, .b (!r98.2.2))]) [some (7, [(pT29 s)]), some (1, rows ci_i64 l91)] [] hC (VW.condI h1 (fun h1 => ?_) (fun h1 => ?_)))))) (h := by simp -implicitDefEqProofs [c99])
   · refine VW.seq (VW.rA (tm 61 [(4, .nil), (5, .i .i64 0), (6, .i .i64 6)]) [some (7, [(pT29 s)]), some (1, rows ci_i64 l91)] [] hC ?_)
     have e_ := leafR h1
     subst w_1
     obtain rfl := leafS h
     exact VW.ret (VRet.fin (by simp [eB42]))
   refine VW.skip (VW.seq ?_)
   obtain ⟨u101, ⟨f102a, f102b⟩, h1⟩ := bindP h1
   try simp only [Int.toNat_natCast, Int.reduceToNat, List.length_cons, List.length_nil, Nat.reduceAdd, Nat.zero_add] at f102a f102b
   exact VW.rA (tm 61 [(2, .ptr 0 0 0), (8, .ref 1 0 (l91 ++ [r98.1]).length), (10, .i .i64 (aI .i64 turned_89 1)), (13, .i .i64 r98.2.1), (24, .sl 1 (rows ci_i64 plan)), (25, .i .i64 (plan.length : Int)), (26, .i .i64 x_90)]) [some (7, [(pT29 s)]), some (1, rows ci_i64 (l91 ++ [r98.1])), some (1, rows ci_i64 [r98.1])] [] hC (VW.rA (tm 61 [(2, .ptr 0 0 0), (8, .ref 1 0 (l91 ++ [r98.1]).length), (9, .i .i64 r98.2.1), (10, .i .i64 (aI .i64 turned_89 1)), (24, .sl 1 (rows ci_i64 plan)), (25, .i .i64 (plan.length : Int)), (26, .i .i64 x_90)]) [some (7, [(pT29 s)]), some (1, rows ci_i64 (l91 ++ [r98.1])), some (1, rows ci_i64 [r98.1])] [] hC (VW.rA (tm 61 [(2, .ptr 0 0 0), (8, .ref 1 0 (l91 ++ [r98.1]).length), (9, .i .i64 r98.2.1), (10, .i .i64 (aI .i64 turned_89 1)), (24, .sl 1 (rows ci_i64 plan)), (25, .i .i64 (plan.length : Int)), (26, .i .i64 (aI .i64 x_90 1))]) [some (7, [(pT29 s)]), some (1, rows ci_i64 (l91 ++ [r98.1])), some (1, rows ci_i64 [r98.1])] [] hC (vnext (r98.2.1, aI .i64 turned_89 1, aI .i64 x_90 1, (l91 ++ [r98.1])) (leafL h1) (Ent.tu 2)))) (h := by simp -implicitDefEqProofs [f102a, f102b])
 rintro ⟨turned_54, l55⟩ h
 replace h : (g42_j1 turned_54 l55).bind _ = _ := h
 rw [g42_j1] at h
 refine VW.seq (VW.rA (tm 61 [(4, .ref 1 0 l55.length), (5, .i .i64 turned_54), (6, .i .i64 0)]) [some (7, [(pT29 s)]), some (1, rows ci_i64 l55)] [] hC ?_)
 obtain rfl := leafS h
 exact VW.ret (VRet.fin (by simp [eB42]))
theorem tl42 {s : T29} {plan : List Int} {r : (List Int) × Int × Int} (h : g42 s plan = some r) : F42 [.agg [.sl 1 (rows ci_i64 s.need_), .sl 1 (rows ci_i64 s.price_), .i .i64 s.most_, .i .i64 s.yield_, .i .i64 s.store_, .i .i64 s.first_, .i .i64 s.loss_], .sl 1 (rows ci_i64 plan)] = some (.tup [.own 1 (rows ci_i64 r.1), .i .i64 r.2.1, .i .i64 r.2.2]) := tells_eq inj42 (a := (s, plan)) h
noncomputable def g43_j1 (other_67 : Int) (l68 : List Int) : Option ((List Int) × Int × Int) :=
some (l68, other_67, 0)
noncomputable def g43_j2 (l110 : List Int) (k_109 : Int) (other_119 : Int) (n_120 : Int) (next_121 : Int) : Option ((Int × Int × Int × (List Int)) ⊕ ((Int × (List Int)) ⊕ ((List Int) × Int × Int))) :=
if ltI n_120 0 = true then
some (.inr (.inr ([], 0, 6)))
else
(appK 8 l110 [n_120]).bind fun u123 =>
some (.inl (next_121, other_119, aI .i64 k_109 1, (l110 ++ [n_120])))
noncomputable def g43_L1 (plan : List Int) (s : T29) : (Int × Int × Int × (List Int)) → Option ((Int × Int × Int × (List Int)) ⊕ ((Int × (List Int)) ⊕ ((List Int) × Int × Int)))
| (at_107, other_108, k_109, l110) =>
if ltI k_109 (plan.length : Int) = true then
(idx plan k_109).bind fun e112 =>
(g91 s k_109 at_107 e112).bind fun r114 =>
if ltI r114 0 = true then
(g87 s k_109 at_107).bind fun r126 =>
g43_j2 l110 k_109 (aI .i64 other_108 1) r126.1 r126.2
else
g43_j2 l110 k_109 other_108 e112 r114
else
some (.inr (.inl (other_108, l110)))
noncomputable def g43 (s : T29) (plan : List Int) : Option ((List Int) × Int × Int) :=
(g55 s).bind fun r1 =>
if (!r1) = true then
some ([], 0, 1)
else
(if (!eqI (plan.length : Int) (s.need_.length : Int)) = true then some true else (g90 plan s.most_).bind fun r4 => some (!r4)).bind fun w6 =>
if w6 = true then
some ([], 0, 2)
else
(loopO (g43_L1 plan s) (s.first_, 0, 0, [])).bind fun w => match w with
| .inl y => g43_j1 y.1 y.2
| .inr r => some r
def eA43 (a : T29 × (List Int)) : List V := [.agg (pT29 a.1), .sl 1 (rows ci_i64 a.2)]
def eB43 (r : (List Int) × Int × Int) : V := .tup [.own 1 (rows ci_i64 r.1), .i .i64 r.2.1, .i .i64 r.2.2]
theorem inj43 (a a' : T29 × (List Int)) (h : eA43 a = eA43 a') : a = a' := by
  obtain ⟨⟨i537, i538, i539, i540, i541, i542, i543⟩, i544⟩ := a
  obtain ⟨⟨i545, i546, i547, i548, i549, i550, i551⟩, i552⟩ := a'
  simp only [eA43, pT29, List.cons.injEq, V.i.injEq, V.b.injEq, V.f.injEq, V.str.injEq, V.sl.injEq, V.agg.injEq, V.cptr.injEq, true_and, and_true] at h
  simp_all [ri ci_i64_inj]
noncomputable def F43 : List V → Option V := tells (fun a => g43 a.1 a.2) eA43 eB43
/- loop.example/g01229/spec.RepairPlan -/
theorem ok43 : Tells Tryd.prog 43 F43 := by
 refine Tells.go 67 Tryd.func43 rfl rfl rfl (by kernel_rfl) (fun _ => rfl) ?_
 rintro ⟨s, plan⟩ r h
 simp only [eA43, en, Nat.reduceAdd]
 replace h : (g43 s plan).bind some = some r := bindS h
 rw [g43] at h
 have hC : CEnv.Ok Tryd.prog [(55, F55), (87, F87), (90, F90), (91, F91)] := ⟨.inl ok55, .inl ok87, .inl ok90, .inl ok91, trivial⟩
 refine VW.seq (VW.rA (tm 67 [(1, .sl 1 (rows ci_i64 plan)), (2, .ptr 0 0 0)]) [some (7, [(pT29 s)])] [] hC (VW.seq (VW.seq ?_)))
 obtain ⟨r1, q2, h⟩ := bindE h
 have c2 : F55 [.cptr (pT29 s) 0] = some (.b r1) := tells_eq inj55 (a := s) q2
 refine VW.rA (tm 67 [(1, .sl 1 (rows ci_i64 plan)), (2, .ptr 0 0 0), (14, .b (!r1))]) [some (7, [(pT29 s)])] [] hC (VW.condI h (fun h => ?_) (fun h => ?_)) (h := by simp -implicitDefEqProofs [c2])
 · refine VW.seq (VW.rA (tm 67 [(4, .ref 1 0 0), (5, .i .i64 0), (6, .i .i64 1)]) [some (7, [(pT29 s)]), some (1, rows ci_i64 [])] [] hC ?_)
   obtain rfl := leafS h
   exact VW.ret (VRet.fin (by simp [eB43]))
 refine VW.skip (VW.seq (VW.seq ?_))
 obtain ⟨w6, q128, h⟩ := bindE h
 refine VW.evalA (tm 67 [(1, .sl 1 (rows ci_i64 plan)), (2, .ptr 0 0 0), (28, .b w6)]) [some (7, [(pT29 s)])] [] hC (by kernel_rfl) (by
     obtain ⟨q129, q128⟩ | ⟨q129, rfl⟩ := gdF q128
     · obtain ⟨r4, q5, q128⟩ := bindQ q128
       have c5 := tl90 q5
       obtain rfl := Option.some.inj q128
       simp -implicitDefEqProofs [q129, c5]
     simp -implicitDefEqProofs [q129]) ?_
 refine VW.condI h (fun h => ?_) (fun h => ?_)
 · refine VW.seq (VW.rA (tm 67 [(4, .ref 1 0 0), (5, .i .i64 0), (6, .i .i64 2)]) [some (7, [(pT29 s)]), some (1, rows ci_i64 [])] [] hC ?_)
   obtain rfl := leafS h
   exact VW.ret (VRet.fin (by simp [eB43]))
 refine VW.skip (VW.seq (VW.rA (tm 67 [(1, .sl 1 (rows ci_i64 plan)), (2, .ptr 0 0 0), (7, .ref 1 0 0)]) [some (7, [(pT29 s)]), some (1, rows ci_i64 [])] [] hC (VW.seq (VW.rA (tm 67 [(1, .sl 1 (rows ci_i64 plan)), (2, .ptr 0 0 0), (7, .ref 1 0 0), (8, .i .i64 s.first_)]) [some (7, [(pT29 s)]), some (1, rows ci_i64 [])] [] hC (VW.seq (VW.rA (tm 67 [(1, .sl 1 (rows ci_i64 plan)), (2, .ptr 0 0 0), (7, .ref 1 0 0), (8, .i .i64 s.first_), (9, .i .i64 0)]) [some (7, [(pT29 s)]), some (1, rows ci_i64 [])] [] hC (VW.join (fun (v : Int × (List Int)) => (⟨(tm 67 [(7, .ref 1 0 v.2.length), (9, .i .i64 v.1)]), [some (7, [(pT29 s)]), some (1, rows ci_i64 v.2)], []⟩ : VS)) (fun v => (g43_j1 (v.1) (v.2)).bind some = some r) ?_ ?_)))))))
 · refine VW.seq (VW.rA (tm 67 [(1, .sl 1 (rows ci_i64 plan)), (2, .ptr 0 0 0), (7, .ref 1 0 0), (8, .i .i64 s.first_), (9, .i .i64 0), (10, .i .i64 0)]) [some (7, [(pT29 s)]), some (1, rows ci_i64 [])] [] hC (VW.block ?_))
   obtain ⟨w_1, hw_1, h⟩ := bindE h
   refine VW.loopO (fun (x : Int × Int × Int × (List Int)) => (⟨(tm 67 [(1, .sl 1 (rows ci_i64 plan)), (2, .ptr 0 0 0), (7, .ref 1 0 x.2.2.2.length), (8, .i .i64 x.1), (9, .i .i64 x.2.1), (10, .i .i64 x.2.2.1)]), [some (7, [(pT29 s)]), some (1, rows ci_i64 x.2.2.2)], []⟩ : VS)) hw_1 (Ent.tu 2) ?_
   rintro n_1 ⟨at_107, other_108, k_109, l110⟩ h1
   rw [g43_L1] at h1
   refine VW.seq (VW.seq (VW.rA (tm 67 [(1, .sl 1 (rows ci_i64 plan)), (2, .ptr 0 0 0), (7, .ref 1 0 l110.length), (8, .i .i64 at_107), (9, .i .i64 other_108), (10, .i .i64 k_109), (36, .b (ltI k_109 (plan.length : Int)))]) [some (7, [(pT29 s)]), some (1, rows ci_i64 l110)] [] hC (VW.condJ h1 (fun h1 => ?_) (fun h1 => ?_))))
   · refine VW.exit ?_
     have e_ := leafR h1
     subst w_1
     exact vnext (other_108, l110) h (Ent.tu 2)
   refine VW.skip (VW.seq (VW.block (VW.seq ?_)))
   obtain ⟨e112, ⟨f113a, f113b, f113c, f113d⟩, h1⟩ := bindI h1
   refine VW.rA (tm 67 [(1, .sl 1 (rows ci_i64 plan)), (2, .ptr 0 0 0), (7, .ref 1 0 l110.length), (8, .i .i64 at_107), (9, .i .i64 other_108), (10, .i .i64 k_109), (11, .i .i64 e112)]) [some (7, [(pT29 s)]), some (1, rows ci_i64 l110)] [] hC (VW.seq ?_) (h := by simp -implicitDefEqProofs [f113a, f113b, f113c, f113d])
   obtain ⟨r114, q115, h1⟩ := bindE h1
   have c115 : F91 [.cptr (pT29 s) 0, .i .i64 k_109, .i .i64 at_107, .i .i64 e112] = some (.i .i64 r114) := tells_eq inj91 (a := (s, k_109, at_107, e112)) q115
   refine VW.rA (tm 67 [(1, .sl 1 (rows ci_i64 plan)), (2, .ptr 0 0 0), (7, .ref 1 0 l110.length), (8, .i .i64 at_107), (9, .i .i64 other_108), (10, .i .i64 k_109), (11, .i .i64 e112), (12, .i .i64 r114)]) [some (7, [(pT29 s)]), some (1, rows ci_i64 l110)] [] hC (VW.join (fun (v : Int × Int × Int) => (⟨(tm 67 [(1, .sl 1 (rows ci_i64 plan)), (2, .ptr 0 0 0), (7, .ref 1 0 l110.length), (9, .i .i64 v.1), (10, .i .i64 k_109), (11, .i .i64 v.2.1), (12, .i .i64 v.2.2)]), [some (7, [(pT29 s)]), some (1, rows ci_i64 l110)], []⟩ : VS)) (fun v => (g43_j2 l110 k_109 (v.1) (v.2.1) (v.2.2)).bind (kN (g43_L1 plan s) n_1) = some w_1) ?_ ?_) (h := by simp -implicitDefEqProofs [c115])
   · refine VW.seq (VW.rA (tm 67 [(1, .sl 1 (rows ci_i64 plan)), (2, .ptr 0 0 0), (7, .ref 1 0 l110.length), (8, .i .i64 at_107), (9, .i .i64 other_108), (10, .i .i64 k_109), (11, .i .i64 e112), (12, .i .i64 r114), (48, .b (ltI r114 0))]) [some (7, [(pT29 s)]), some (1, rows ci_i64 l110)] [] hC (VW.condJ h1 (fun h1 => ?_) (fun h1 => ?_)))
     · exact VW.skip (vnext (other_108, e112, r114) h1 (Ent.tu 2))
     refine VW.seq ?_
     obtain ⟨r126, q127, h1⟩ := bindE h1
     have c127 : F87 [.cptr (pT29 s) 0, .i .i64 k_109, .i .i64 at_107] = some (.tup [.i .i64 r126.1, .i .i64 r126.2]) := tells_eq inj87 (a := (s, k_109, at_107)) q127
     exact VW.rA (tm 67 [(1, .sl 1 (rows ci_i64 plan)), (2, .ptr 0 0 0), (7, .ref 1 0 l110.length), (9, .i .i64 other_108), (10, .i .i64 k_109), (11, .i .i64 r126.1), (12, .i .i64 r126.2)]) [some (7, [(pT29 s)]), some (1, rows ci_i64 l110)] [] hC (VW.rA (tm 67 [(1, .sl 1 (rows ci_i64 plan)), (2, .ptr 0 0 0), (7, .ref 1 0 l110.length), (9, .i .i64 (aI .i64 other_108 1)), (10, .i .i64 k_109), (11, .i .i64 r126.1), (12, .i .i64 r126.2)]) [some (7, [(pT29 s)]), some (1, rows ci_i64 l110)] [] hC (vnext (aI .i64 other_108 1, r126.1, r126.2) h1 (Ent.tu 2))) (h := by simp -implicitDefEqProofs [c127])
   rintro ⟨other_119, n_120, next_121⟩ h1
   replace h1 : (g43_j2 l110 k_109 other_119 n_120 next_121).bind _ = _ := h1
   rw [g43_j2] at h1
   refine VW.seq (VW.seq (VW.rA (tm 67 [(1, .sl 1 (rows ci_i64 plan)), (2, .ptr 0 0 0), (7, .ref 1 0 l110.length), (9, .i .i64 other_119), (10, .i .i64 k_109), (11, .i .i64 n_120), (12, .i .i64 next_121), (58, .b (ltI n_120 0))]) [some (7, [(pT29 s)]), some (1, rows ci_i64 l110)] [] hC (VW.condI h1 (fun h1 => ?_) (fun h1 => ?_))))
   · refine VW.seq (VW.rA (tm 67 [(4, .ref 2 0 0), (5, .i .i64 0), (6, .i .i64 6)]) [some (7, [(pT29 s)]), some (1, rows ci_i64 l110), some (1, rows ci_i64 [])] [] hC ?_)
     have e_ := leafR h1
     subst w_1
     obtain rfl := leafS h
     exact VW.ret (VRet.fin (by simp [eB43]))
   refine VW.skip (VW.seq ?_)
   obtain ⟨u123, ⟨f124a, f124b⟩, h1⟩ := bindP h1
   try simp only [Int.toNat_natCast, Int.reduceToNat, List.length_cons, List.length_nil, Nat.reduceAdd, Nat.zero_add] at f124a f124b
   exact VW.rA (tm 67 [(1, .sl 1 (rows ci_i64 plan)), (2, .ptr 0 0 0), (7, .ref 1 0 (l110 ++ [n_120]).length), (9, .i .i64 other_119), (10, .i .i64 k_109), (12, .i .i64 next_121)]) [some (7, [(pT29 s)]), some (1, rows ci_i64 (l110 ++ [n_120])), some (1, rows ci_i64 [n_120])] [] hC (VW.rA (tm 67 [(1, .sl 1 (rows ci_i64 plan)), (2, .ptr 0 0 0), (7, .ref 1 0 (l110 ++ [n_120]).length), (8, .i .i64 next_121), (9, .i .i64 other_119), (10, .i .i64 k_109)]) [some (7, [(pT29 s)]), some (1, rows ci_i64 (l110 ++ [n_120])), some (1, rows ci_i64 [n_120])] [] hC (VW.rA (tm 67 [(1, .sl 1 (rows ci_i64 plan)), (2, .ptr 0 0 0), (7, .ref 1 0 (l110 ++ [n_120]).length), (8, .i .i64 next_121), (9, .i .i64 other_119), (10, .i .i64 (aI .i64 k_109 1))]) [some (7, [(pT29 s)]), some (1, rows ci_i64 (l110 ++ [n_120])), some (1, rows ci_i64 [n_120])] [] hC (vnext (next_121, other_119, aI .i64 k_109 1, (l110 ++ [n_120])) (leafL h1) (Ent.tu 2)))) (h := by simp -implicitDefEqProofs [f124a, f124b])
 rintro ⟨other_67, l68⟩ h
 replace h : (g43_j1 other_67 l68).bind _ = _ := h
 rw [g43_j1] at h
 refine VW.seq (VW.rA (tm 67 [(4, .ref 1 0 l68.length), (5, .i .i64 other_67), (6, .i .i64 0)]) [some (7, [(pT29 s)]), some (1, rows ci_i64 l68)] [] hC ?_)
 obtain rfl := leafS h
 exact VW.ret (VRet.fin (by simp [eB43]))
theorem tl43 {s : T29} {plan : List Int} {r : (List Int) × Int × Int} (h : g43 s plan = some r) : F43 [.agg [.sl 1 (rows ci_i64 s.need_), .sl 1 (rows ci_i64 s.price_), .i .i64 s.most_, .i .i64 s.yield_, .i .i64 s.store_, .i .i64 s.first_, .i .i64 s.loss_], .sl 1 (rows ci_i64 plan)] = some (.tup [.own 1 (rows ci_i64 r.1), .i .i64 r.2.1, .i .i64 r.2.2]) := tells_eq inj43 (a := (s, plan)) h
noncomputable def g44 (a : List Int) (b : List Int) : Option (Bool) :=
(g85 a b).bind fun r1 =>
some r1
def eA44 (a : (List Int) × (List Int)) : List V := [.sl 1 (rows ci_i64 a.1), .sl 1 (rows ci_i64 a.2)]
def eB44 (r : Bool) : V := .b r
theorem inj44 (a a' : (List Int) × (List Int)) (h : eA44 a = eA44 a') : a = a' := by
  obtain ⟨i553, i554⟩ := a
  obtain ⟨i555, i556⟩ := a'
  simp only [eA44, List.cons.injEq, V.i.injEq, V.b.injEq, V.f.injEq, V.str.injEq, V.sl.injEq, V.agg.injEq, V.cptr.injEq, true_and, and_true] at h
  simp_all [ri ci_i64_inj]
noncomputable def F44 : List V → Option V := tells (fun a => g44 a.1 a.2) eA44 eB44
/- loop.example/g01229/spec.A2Same -/
theorem ok44 : Tells Tryd.prog 44 F44 := by
 refine Tells.go 8 Tryd.func44 rfl rfl rfl (by kernel_rfl) (fun _ => rfl) ?_
 rintro ⟨a, b⟩ r h
 simp only [eA44, en, Nat.reduceAdd]
 replace h : (g44 a b).bind some = some r := bindS h
 rw [g44] at h
 have hC : CEnv.Ok Tryd.prog [(85, F85)] := ⟨.inl ok85, trivial⟩
 refine VW.seq (VW.rA (tm 8 [(0, .sl 1 (rows ci_i64 a)), (1, .sl 1 (rows ci_i64 b))]) [] [] hC (VW.seq ?_))
 obtain ⟨r1, q2, h⟩ := bindE h
 have c2 := tl85 q2
 refine VW.rA (tm 8 [(4, .b r1)]) [] [] hC ?_ (h := by simp -implicitDefEqProofs [c2])
 obtain rfl := leafS h
 exact VW.ret (VRet.fin (by simp [eB44]))
theorem tl44 {a : List Int} {b : List Int} {r : Bool} (h : g44 a b = some r) : F44 [.sl 1 (rows ci_i64 a), .sl 1 (rows ci_i64 b)] = some (.b r) := tells_eq inj44 (a := (a, b)) h
noncomputable def g46_j1 (l34 : List Int) : Option ((List Int) × Int) :=
some (l34, 0)
noncomputable def g46_L1 (plan : List Int) (s : T29) : (Int × Int × (List Int)) → Option ((Int × Int × (List Int)) ⊕ ((List Int) ⊕ ((List Int) × Int)))
| (store_54, x_55, l56) =>
if ltI x_55 (plan.length : Int) = true then
(idx plan x_55).bind fun e58 =>
(g89 s x_55 store_54 e58).bind fun r60 =>
if (!r60.2) = true then
some (.inr (.inr ([], 4)))
else
(appK 8 l56 [r60.1]).bind fun u63 =>
some (.inl (r60.1, aI .i64 x_55 1, (l56 ++ [r60.1])))
else
some (.inr (.inl l56))
noncomputable def g46 (s : T29) (plan : List Int) : Option ((List Int) × Int) :=
(g88 s plan).bind fun r1 =>
if (!eqI r1 0) = true then
some ([], r1)
else
(loopO (g46_L1 plan s) (s.first_, 0, [])).bind fun w => match w with
| .inl y => g46_j1 y
| .inr r => some r
def eA46 (a : T29 × (List Int)) : List V := [.agg (pT29 a.1), .sl 1 (rows ci_i64 a.2)]
def eB46 (r : (List Int) × Int) : V := .tup [.own 1 (rows ci_i64 r.1), .i .i64 r.2]
theorem inj46 (a a' : T29 × (List Int)) (h : eA46 a = eA46 a') : a = a' := by
  obtain ⟨⟨i557, i558, i559, i560, i561, i562, i563⟩, i564⟩ := a
  obtain ⟨⟨i565, i566, i567, i568, i569, i570, i571⟩, i572⟩ := a'
  simp only [eA46, pT29, List.cons.injEq, V.i.injEq, V.b.injEq, V.f.injEq, V.str.injEq, V.sl.injEq, V.agg.injEq, V.cptr.injEq, true_and, and_true] at h
  simp_all [ri ci_i64_inj]
noncomputable def F46 : List V → Option V := tells (fun a => g46 a.1 a.2) eA46 eB46
/- loop.example/g01229/impl.StoresOf -/
theorem ok46 : Tells Tryd.prog 46 F46 := by
 refine Tells.go 46 Tryd.func46 rfl rfl rfl (by kernel_rfl) (fun _ => rfl) ?_
 rintro ⟨s, plan⟩ r h
 simp only [eA46, en, Nat.reduceAdd]
 replace h : (g46 s plan).bind some = some r := bindS h
 rw [g46] at h
 have hC : CEnv.Ok Tryd.prog [(88, F88), (89, F89)] := ⟨.inl ok88, .inl ok89, trivial⟩
 refine VW.seq (VW.rA (tm 46 [(1, .sl 1 (rows ci_i64 plan)), (2, .ptr 0 0 0)]) [some (7, [(pT29 s)])] [] hC (VW.seq (VW.seq ?_)))
 obtain ⟨r1, q2, h⟩ := bindE h
 have c2 : F88 [.agg (pT29 s), .sl 1 (rows ci_i64 plan)] = some (.i .i64 r1) := tells_eq inj88 (a := (s, plan)) q2
 refine VW.rA (tm 46 [(1, .sl 1 (rows ci_i64 plan)), (2, .ptr 0 0 0), (6, .i .i64 r1)]) [some (7, [(pT29 s)])] [] hC (VW.seq (VW.rA (tm 46 [(1, .sl 1 (rows ci_i64 plan)), (2, .ptr 0 0 0), (6, .i .i64 r1), (17, .b (!eqI r1 0))]) [some (7, [(pT29 s)])] [] hC (VW.condI h (fun h => ?_) (fun h => ?_)))) (h := by simp -implicitDefEqProofs [c2])
 · refine VW.seq (VW.rA (tm 46 [(4, .nil), (5, .i .i64 r1)]) [some (7, [(pT29 s)])] [] hC ?_)
   obtain rfl := leafS h
   exact VW.ret (VRet.fin (by simp [eB46]))
 refine VW.skip (VW.seq (VW.rD (tm 46 [(1, .sl 1 (rows ci_i64 plan)), (2, .ptr 0 0 0), (7, .ref 1 0 0), (8, .i .i64 s.first_)]) [some (7, [(pT29 s)]), some (1, rows ci_i64 [])] [] hC mixed (VW.join (fun (v : List Int) => (⟨(tm 46 [(7, .ref 1 0 v.length)]), [some (7, [(pT29 s)]), some (1, rows ci_i64 v)], []⟩ : VS)) (fun v => (g46_j1 (v)).bind some = some r) ?_ ?_)))
 · refine VW.seq (VW.rA (tm 46 [(2, .ptr 0 0 0), (7, .ref 1 0 0), (8, .i .i64 s.first_), (22, .sl 1 (rows ci_i64 plan)), (23, .i .i64 (plan.length : Int)), (24, .i .i64 0)]) [some (7, [(pT29 s)]), some (1, rows ci_i64 [])] [] hC (VW.block ?_))
   obtain ⟨w_1, hw_1, h⟩ := bindE h
   refine VW.loopO (fun (x : Int × Int × (List Int)) => (⟨(tm 46 [(2, .ptr 0 0 0), (7, .ref 1 0 x.2.2.length), (8, .i .i64 x.1), (22, .sl 1 (rows ci_i64 plan)), (23, .i .i64 (plan.length : Int)), (24, .i .i64 x.2.1)]), [some (7, [(pT29 s)]), some (1, rows ci_i64 x.2.2)], []⟩ : VS)) hw_1 (Ent.tu 2) ?_
   rintro n_1 ⟨store_54, x_55, l56⟩ h1
   rw [g46_L1] at h1
   refine VW.seq (VW.rA (tm 46 [(2, .ptr 0 0 0), (7, .ref 1 0 l56.length), (8, .i .i64 store_54), (22, .sl 1 (rows ci_i64 plan)), (23, .i .i64 (plan.length : Int)), (24, .i .i64 x_55), (25, .b (ltI x_55 (plan.length : Int)))]) [some (7, [(pT29 s)]), some (1, rows ci_i64 l56)] [] hC (VW.seq (VW.condJ h1 (fun h1 => ?_) (fun h1 => ?_))))
   · refine VW.exit ?_
     have e_ := leafR h1
     subst w_1
     exact vnext l56 h (Ent.tu 2)
   refine VW.skip (VW.seq (VW.block (VW.seq ?_)))
   obtain ⟨e58, ⟨f59a, f59b, f59c, f59d⟩, h1⟩ := bindI h1
   refine VW.rA (tm 46 [(2, .ptr 0 0 0), (7, .ref 1 0 l56.length), (8, .i .i64 store_54), (9, .i .i64 x_55), (10, .i .i64 e58), (22, .sl 1 (rows ci_i64 plan)), (23, .i .i64 (plan.length : Int)), (24, .i .i64 x_55)]) [some (7, [(pT29 s)]), some (1, rows ci_i64 l56)] [] hC (VW.seq ?_) (h := by simp -implicitDefEqProofs [f59a, f59b, f59c, f59d])
   obtain ⟨r60, q61, h1⟩ := bindE h1
   have c61 : F89 [.agg (pT29 s), .i .i64 x_55, .i .i64 store_54, .i .i64 e58] = some (.tup [.i .i64 r60.1, .b r60.2]) := tells_eq inj89 (a := (s, x_55, store_54, e58)) q61
   refine VW.rA (tm 46 [(2, .ptr 0 0 0), (7, .ref 1 0 l56.length), (11, .i .i64 r60.1), (12, .b r60.2), (22, .sl 1 (rows ci_i64 plan)), (23, .i .i64 (plan.length : Int)), (24, .i .i64 x_55)]) [some (7, [(pT29 s)]), some (1, rows ci_i64 l56)] [] hC (VW.seq (VW.seq (VW.rA (tm 46 [(2, .ptr 0 0 0), (7, .ref 1 0 l56.length), (11, .i .i64 r60.1), (22, .sl 1 (rows ci_i64 plan)), (23, .i .i64 (plan.length : Int)), (24, .i .i64 x_55), (38, .b (!r60.2))]) [some (7, [(pT29 s)]), some (1, rows ci_i64 l56)] [] hC (VW.condI h1 (fun h1 => ?_) (fun h1 => ?_))))) (h := by simp -implicitDefEqProofs [c61])
   · refine VW.seq (VW.rA (tm 46 [(4, .nil), (5, .i .i64 4)]) [some (7, [(pT29 s)]), some (1, rows ci_i64 l56)] [] hC ?_)
     have e_ := leafR h1
     subst w_1
     obtain rfl := leafS h
     exact VW.ret (VRet.fin (by simp [eB46]))
   refine VW.skip (VW.seq (VW.rA (tm 46 [(2, .ptr 0 0 0), (7, .ref 1 0 l56.length), (8, .i .i64 r60.1), (22, .sl 1 (rows ci_i64 plan)), (23, .i .i64 (plan.length : Int)), (24, .i .i64 x_55)]) [some (7, [(pT29 s)]), some (1, rows ci_i64 l56)] [] hC ?_))
   obtain ⟨u63, ⟨f64a, f64b⟩, h1⟩ := bindP h1
   try simp only [Int.toNat_natCast, Int.reduceToNat, List.length_cons, List.length_nil, Nat.reduceAdd, Nat.zero_add] at f64a f64b
   exact VW.rA (tm 46 [(2, .ptr 0 0 0), (7, .ref 1 0 (l56 ++ [r60.1]).length), (8, .i .i64 r60.1), (22, .sl 1 (rows ci_i64 plan)), (23, .i .i64 (plan.length : Int)), (24, .i .i64 x_55)]) [some (7, [(pT29 s)]), some (1, rows ci_i64 (l56 ++ [r60.1])), some (1, rows ci_i64 [r60.1])] [] hC (VW.rA (tm 46 [(2, .ptr 0 0 0), (7, .ref 1 0 (l56 ++ [r60.1]).length), (8, .i .i64 r60.1), (22, .sl 1 (rows ci_i64 plan)), (23, .i .i64 (plan.length : Int)), (24, .i .i64 (aI .i64 x_55 1))]) [some (7, [(pT29 s)]), some (1, rows ci_i64 (l56 ++ [r60.1])), some (1, rows ci_i64 [r60.1])] [] hC (vnext (r60.1, aI .i64 x_55 1, (l56 ++ [r60.1])) (leafL h1) (Ent.tu 2))) (h := by simp -implicitDefEqProofs [f64a, f64b])
 rintro l34 h
 replace h : (g46_j1 l34).bind _ = _ := h
 rw [g46_j1] at h
 refine VW.seq (VW.rA (tm 46 [(4, .ref 1 0 l34.length), (5, .i .i64 0)]) [some (7, [(pT29 s)]), some (1, rows ci_i64 l34)] [] hC ?_)
 obtain rfl := leafS h
 exact VW.ret (VRet.fin (by simp [eB46]))
theorem tl46 {s : T29} {plan : List Int} {r : (List Int) × Int} (h : g46 s plan = some r) : F46 [.agg [.sl 1 (rows ci_i64 s.need_), .sl 1 (rows ci_i64 s.price_), .i .i64 s.most_, .i .i64 s.yield_, .i .i64 s.store_, .i .i64 s.first_, .i .i64 s.loss_], .sl 1 (rows ci_i64 plan)] = some (.tup [.own 1 (rows ci_i64 r.1), .i .i64 r.2]) := tells_eq inj46 (a := (s, plan)) h
noncomputable def g45_j1 (cost_23 : Int) : Option (Int × Int) :=
some (cost_23, 0)
noncomputable def g45_L1 (plan : List Int) (s : T29) : (Int × Int) → Option ((Int × Int) ⊕ (Int))
| (cost_36, x_37) =>
if ltI x_37 (plan.length : Int) = true then
(idx plan x_37).bind fun e39 =>
(idx s.price_ x_37).bind fun e41 =>
some (.inl (aI .i64 cost_36 (mI .i64 e41 e39), aI .i64 x_37 1))
else
some (.inr cost_36)
noncomputable def g45 (s : T29) (plan : List Int) : Option (Int × Int) :=
(g46 s plan).bind fun r1 =>
if (!eqI r1.2 0) = true then
some (0, r1.2)
else
(loopO (g45_L1 plan s) (0, 0)).bind fun w => g45_j1 w
def eA45 (a : T29 × (List Int)) : List V := [.agg (pT29 a.1), .sl 1 (rows ci_i64 a.2)]
def eB45 (r : Int × Int) : V := .tup [.i .i64 r.1, .i .i64 r.2]
theorem inj45 (a a' : T29 × (List Int)) (h : eA45 a = eA45 a') : a = a' := by
  obtain ⟨⟨i573, i574, i575, i576, i577, i578, i579⟩, i580⟩ := a
  obtain ⟨⟨i581, i582, i583, i584, i585, i586, i587⟩, i588⟩ := a'
  simp only [eA45, pT29, List.cons.injEq, V.i.injEq, V.b.injEq, V.f.injEq, V.str.injEq, V.sl.injEq, V.agg.injEq, V.cptr.injEq, true_and, and_true] at h
  simp_all [ri ci_i64_inj]
noncomputable def F45 : List V → Option V := tells (fun a => g45 a.1 a.2) eA45 eB45
/- loop.example/g01229/impl.CostOf -/
theorem ok45 : Tells Tryd.prog 45 F45 := by
 refine Tells.go 38 Tryd.func45 rfl rfl rfl (by kernel_rfl) (fun _ => rfl) ?_
 rintro ⟨s, plan⟩ r h
 simp only [eA45, en, Nat.reduceAdd]
 replace h : (g45 s plan).bind some = some r := bindS h
 rw [g45] at h
 have hC : CEnv.Ok Tryd.prog [(46, F46)] := ⟨.inl ok46, trivial⟩
 refine VW.seq (VW.rA (tm 38 [(1, .sl 1 (rows ci_i64 plan)), (2, .ptr 0 0 0)]) [some (7, [(pT29 s)])] [] hC (VW.seq (VW.seq ?_)))
 obtain ⟨r1, q2, h⟩ := bindE h
 have c2 : F46 [.agg (pT29 s), .sl 1 (rows ci_i64 plan)] = some (.tup [.own 1 (rows ci_i64 r1.1), .i .i64 r1.2]) := tells_eq inj46 (a := (s, plan)) q2
 refine VW.rA (tm 38 [(1, .sl 1 (rows ci_i64 plan)), (2, .ptr 0 0 0), (7, .i .i64 r1.2)]) [some (7, [(pT29 s)]), some (1, rows ci_i64 r1.1)] [] hC (VW.seq (VW.rA (tm 38 [(1, .sl 1 (rows ci_i64 plan)), (2, .ptr 0 0 0), (7, .i .i64 r1.2), (18, .b (!eqI r1.2 0))]) [some (7, [(pT29 s)]), some (1, rows ci_i64 r1.1)] [] hC (VW.condI h (fun h => ?_) (fun h => ?_)))) (h := by simp -implicitDefEqProofs [c2])
 · refine VW.seq (VW.rA (tm 38 [(4, .i .i64 0), (5, .i .i64 r1.2)]) [some (7, [(pT29 s)]), some (1, rows ci_i64 r1.1)] [] hC ?_)
   obtain rfl := leafS h
   exact VW.ret (VRet.fin (by simp [eB45]))
 refine VW.skip (VW.seq (VW.rA (tm 38 [(1, .sl 1 (rows ci_i64 plan)), (2, .ptr 0 0 0), (8, .i .i64 0)]) [some (7, [(pT29 s)]), some (1, rows ci_i64 r1.1)] [] hC (VW.join (fun (v : Int) => (⟨(tm 38 [(8, .i .i64 v)]), [some (7, [(pT29 s)]), some (1, rows ci_i64 r1.1)], []⟩ : VS)) (fun v => (g45_j1 (v)).bind some = some r) ?_ ?_)))
 · refine VW.seq (VW.rA (tm 38 [(2, .ptr 0 0 0), (8, .i .i64 0), (20, .sl 1 (rows ci_i64 plan)), (21, .i .i64 (plan.length : Int)), (22, .i .i64 0)]) [some (7, [(pT29 s)]), some (1, rows ci_i64 r1.1)] [] hC (VW.block ?_))
   obtain ⟨w_1, hw_1, h⟩ := bindE h
   refine VW.loopO (fun (x : Int × Int) => (⟨(tm 38 [(2, .ptr 0 0 0), (8, .i .i64 x.1), (20, .sl 1 (rows ci_i64 plan)), (21, .i .i64 (plan.length : Int)), (22, .i .i64 x.2)]), [some (7, [(pT29 s)]), some (1, rows ci_i64 r1.1)], []⟩ : VS)) hw_1 (Ent.tu 2) ?_
   rintro n_1 ⟨cost_36, x_37⟩ h1
   rw [g45_L1] at h1
   refine VW.seq (VW.rA (tm 38 [(2, .ptr 0 0 0), (8, .i .i64 cost_36), (20, .sl 1 (rows ci_i64 plan)), (21, .i .i64 (plan.length : Int)), (22, .i .i64 x_37), (23, .b (ltI x_37 (plan.length : Int)))]) [some (7, [(pT29 s)]), some (1, rows ci_i64 r1.1)] [] hC (VW.seq (VW.condJ h1 (fun h1 => ?_) (fun h1 => ?_))))
   · refine VW.exit ?_
     have e_ := leafR h1
     subst w_1
     exact vnext cost_36 h (Ent.tu 2)
   refine VW.skip (VW.seq (VW.block (VW.seq ?_)))
   obtain ⟨e39, ⟨f40a, f40b, f40c, f40d⟩, h1⟩ := bindI h1
   refine VW.rA (tm 38 [(2, .ptr 0 0 0), (8, .i .i64 cost_36), (9, .i .i64 x_37), (10, .i .i64 e39), (20, .sl 1 (rows ci_i64 plan)), (21, .i .i64 (plan.length : Int)), (22, .i .i64 x_37)]) [some (7, [(pT29 s)]), some (1, rows ci_i64 r1.1)] [] hC ?_ (h := by simp -implicitDefEqProofs [f40a, f40b, f40c, f40d])
   obtain ⟨e41, ⟨f42a, f42b, f42c, f42d⟩, h1⟩ := bindI h1
   exact VW.rA (tm 38 [(2, .ptr 0 0 0), (8, .i .i64 (aI .i64 cost_36 (mI .i64 e41 e39))), (20, .sl 1 (rows ci_i64 plan)), (21, .i .i64 (plan.length : Int)), (22, .i .i64 x_37)]) [some (7, [(pT29 s)]), some (1, rows ci_i64 r1.1)] [] hC (VW.rA (tm 38 [(2, .ptr 0 0 0), (8, .i .i64 (aI .i64 cost_36 (mI .i64 e41 e39))), (20, .sl 1 (rows ci_i64 plan)), (21, .i .i64 (plan.length : Int)), (22, .i .i64 (aI .i64 x_37 1))]) [some (7, [(pT29 s)]), some (1, rows ci_i64 r1.1)] [] hC (vnext (aI .i64 cost_36 (mI .i64 e41 e39), aI .i64 x_37 1) (leafL h1) (Ent.tu 2))) (h := by simp -implicitDefEqProofs [f42a, f42b, f42c, f42d])
 rintro cost_23 h
 replace h : (g45_j1 cost_23).bind _ = _ := h
 rw [g45_j1] at h
 refine VW.seq (VW.rA (tm 38 [(4, .i .i64 cost_23), (5, .i .i64 0)]) [some (7, [(pT29 s)]), some (1, rows ci_i64 r1.1)] [] hC ?_)
 obtain rfl := leafS h
 exact VW.ret (VRet.fin (by simp [eB45]))
theorem tl45 {s : T29} {plan : List Int} {r : Int × Int} (h : g45 s plan = some r) : F45 [.agg [.sl 1 (rows ci_i64 s.need_), .sl 1 (rows ci_i64 s.price_), .i .i64 s.most_, .i .i64 s.yield_, .i .i64 s.store_, .i .i64 s.first_, .i .i64 s.loss_], .sl 1 (rows ci_i64 plan)] = some (.tup [.i .i64 r.1, .i .i64 r.2]) := tells_eq inj45 (a := (s, plan)) h
noncomputable def g47 (s : T29) (slot : Int) (store : Int) (logs : Int) : Option (Int × Int) :=
(g39 s).bind fun r1 =>
if (!r1) = true then
some (0, 1)
else
if (((((ltI slot 0 || leI (s.need_.length : Int) slot) || ltI store 0) || ltI s.store_ store) || ltI logs 0) || ltI s.most_ logs) = true then
some (0, 2)
else
(g89 s slot store logs).bind fun r5 =>
if (!r5.2) = true then
some (0, 4)
else
some (r5.1, 0)
def eA47 (a : T29 × Int × Int × Int) : List V := [.agg (pT29 a.1), .i .i64 a.2.1, .i .i64 a.2.2.1, .i .i64 a.2.2.2]
def eB47 (r : Int × Int) : V := .tup [.i .i64 r.1, .i .i64 r.2]
theorem inj47 (a a' : T29 × Int × Int × Int) (h : eA47 a = eA47 a') : a = a' := by
  obtain ⟨⟨i589, i590, i591, i592, i593, i594, i595⟩, i596, i597, i598⟩ := a
  obtain ⟨⟨i599, i600, i601, i602, i603, i604, i605⟩, i606, i607, i608⟩ := a'
  simp only [eA47, pT29, List.cons.injEq, V.i.injEq, V.b.injEq, V.f.injEq, V.str.injEq, V.sl.injEq, V.agg.injEq, V.cptr.injEq, true_and, and_true] at h
  simp_all [ri ci_i64_inj]
noncomputable def F47 : List V → Option V := tells (fun a => g47 a.1 a.2.1 a.2.2.1 a.2.2.2) eA47 eB47
/- loop.example/g01229/impl.StoreAfter -/
theorem ok47 : Tells Tryd.prog 47 F47 := by
 refine Tells.go 57 Tryd.func47 rfl rfl rfl (by kernel_rfl) (fun _ => rfl) ?_
 rintro ⟨s, slot, store, logs⟩ r h
 simp only [eA47, en, Nat.reduceAdd]
 replace h : (g47 s slot store logs).bind some = some r := bindS h
 rw [g47] at h
 have hC : CEnv.Ok Tryd.prog [(39, F39), (89, F89)] := ⟨.inl ok39, .inl ok89, trivial⟩
 refine VW.seq (VW.rA (tm 57 [(1, .i .i64 slot), (2, .i .i64 store), (3, .i .i64 logs), (4, .ptr 0 0 0)]) [some (7, [(pT29 s)])] [] hC (VW.seq (VW.block (VW.seq ?_))))
 obtain ⟨r1, q2, h⟩ := bindE h
 have c2 : F39 [.agg (pT29 s)] = some (.b r1) := tells_eq inj39 (a := s) q2
 refine VW.rA (tm 57 [(1, .i .i64 slot), (2, .i .i64 store), (3, .i .i64 logs), (4, .ptr 0 0 0), (12, .b (!r1))]) [some (7, [(pT29 s)])] [] hC (VW.condI h (fun h => ?_) (fun h => ?_)) (h := by simp -implicitDefEqProofs [c2])
 · refine VW.seq (VW.rA (tm 57 [(8, .i .i64 0), (9, .i .i64 1)]) [some (7, [(pT29 s)])] [] hC ?_)
   obtain rfl := leafS h
   exact VW.ret (VRet.fin (by simp [eB47]))
 refine VW.seq (VW.rA (tm 57 [(1, .i .i64 slot), (2, .i .i64 store), (3, .i .i64 logs), (4, .ptr 0 0 0), (16, .b (((((ltI slot 0 || leI (s.need_.length : Int) slot) || ltI store 0) || ltI s.store_ store) || ltI logs 0) || ltI s.most_ logs))]) [some (7, [(pT29 s)])] [] hC (VW.condI h (fun h => ?_) (fun h => ?_)) (h := by simp -implicitDefEqProofs [pT29]))
 · refine VW.seq (VW.rA (tm 57 [(8, .i .i64 0), (9, .i .i64 2)]) [some (7, [(pT29 s)])] [] hC ?_)
   obtain rfl := leafS h
   exact VW.ret (VRet.fin (by simp [eB47]))
 refine VW.skip (VW.seq ?_)
 obtain ⟨r5, q6, h⟩ := bindE h
 have c6 : F89 [.agg (pT29 s), .i .i64 slot, .i .i64 store, .i .i64 logs] = some (.tup [.i .i64 r5.1, .b r5.2]) := tells_eq inj89 (a := (s, slot, store, logs)) q6
 refine VW.rA (tm 57 [(10, .i .i64 r5.1), (11, .b r5.2)]) [some (7, [(pT29 s)])] [] hC (VW.seq (VW.seq (VW.rA (tm 57 [(10, .i .i64 r5.1), (55, .b (!r5.2))]) [some (7, [(pT29 s)])] [] hC (VW.condI h (fun h => ?_) (fun h => ?_))))) (h := by simp -implicitDefEqProofs [c6])
 · refine VW.seq (VW.rA (tm 57 [(8, .i .i64 0), (9, .i .i64 4)]) [some (7, [(pT29 s)])] [] hC ?_)
   obtain rfl := leafS h
   exact VW.ret (VRet.fin (by simp [eB47]))
 refine VW.skip (VW.seq (VW.rA (tm 57 [(8, .i .i64 r5.1), (9, .i .i64 0)]) [some (7, [(pT29 s)])] [] hC ?_))
 obtain rfl := leafS h
 exact VW.ret (VRet.fin (by simp [eB47]))
theorem tl47 {s : T29} {slot : Int} {store : Int} {logs : Int} {r : Int × Int} (h : g47 s slot store logs = some r) : F47 [.agg [.sl 1 (rows ci_i64 s.need_), .sl 1 (rows ci_i64 s.price_), .i .i64 s.most_, .i .i64 s.yield_, .i .i64 s.store_, .i .i64 s.first_, .i .i64 s.loss_], .i .i64 slot, .i .i64 store, .i .i64 logs] = some (.tup [.i .i64 r.1, .i .i64 r.2]) := tells_eq inj47 (a := (s, slot, store, logs)) h
noncomputable def g9_j2 (r4 : T29) (r6 : List Int) (r44 : Int × Int) (r28 : (List Int) × Int × Int) (sum_120 : Int) (differs_121 : Int) : Option (Bool) :=
(g45 r4 r6).bind fun r122 =>
some ((eqI sum_120 r44.1 && eqI differs_121 r28.2.1) && ((eqI r122.2 0) == (eqI differs_121 0)))
noncomputable def g9_L1 (r28 : (List Int) × Int × Int) (r4 : T29) (r42 : (List Int) × Int) (r6 : List Int) : (Int × Int × Int × Int) → Option ((Int × Int × Int × Int) ⊕ ((Int × Int) ⊕ (Bool)))
| (at_168, sum_169, differs_170, k_171) =>
if ltI k_171 (r28.1.length : Int) = true then
(idx r28.1 k_171).bind fun e173 =>
(g47 r4 k_171 at_168 e173).bind fun r175 =>
(if (!eqI r175.2 0) = true then some true else (idx r42.1 k_171).bind fun e177 => some (!eqI r175.1 e177)).bind fun w179 =>
if w179 = true then
some (.inr (.inr false))
else
(idx r4.price_ k_171).bind fun e181 =>
(idx r28.1 k_171).bind fun e183 =>
(idx r28.1 k_171).bind fun e185 =>
(idx r6 k_171).bind fun e187 =>
if (!eqI e185 e187) = true then
some (.inl (r175.1, aI .i64 sum_169 (mI .i64 e181 e183), aI .i64 differs_170 1, aI .i64 k_171 1))
else
some (.inl (r175.1, aI .i64 sum_169 (mI .i64 e181 e183), differs_170, aI .i64 k_171 1))
else
some (.inr (.inl (sum_169, differs_170)))
noncomputable def g9_j1 (r26 : (List Int) × Int × Int) (r4 : T29) (r28 : (List Int) × Int × Int) (r6 : List Int) : Option (Bool) :=
if (!eqI r26.2.2 0) = true then
some (eqI r26.2.2 6)
else
(g46 r4 r28.1).bind fun r42 =>
(g45 r4 r28.1).bind fun r44 =>
(g42 r4 r28.1).bind fun r46 =>
(if (((((!eqI r42.2 0) || (!eqI (r42.1.length : Int) (r28.1.length : Int))) || (!eqI r44.2 0)) || (!eqI r46.2.2 0)) || (!eqI r46.2.1 0)) = true then some true else (g44 r46.1 r28.1).bind fun r48 => some (!r48)).bind fun w50 =>
if w50 = true then
some false
else
(loopO (g9_L1 r28 r4 r42 r6) (r4.first_, 0, 0, 0)).bind fun w => match w with
| .inl y => g9_j2 r4 r6 r44 r28 y.1 y.2
| .inr r => some r
noncomputable def g9 (code : List Int) (more_ : List Int) : Option (Bool) :=
(g34 code more_).bind fun r1 =>
if r1 = true then
some true
else
(g35 code).bind fun r4 =>
(g36 more_ r4).bind fun r6 =>
(g16 r4).bind fun r8 =>
(g27 r8).bind fun r10 =>
(if (!eqI r10.2 0) = true then some true else (g37 r10.1 r4).bind fun r12 => some (!r12)).bind fun w14 =>
(if w14 = true then some true else (g38 r10.1 r4).bind fun r15 => some (!r15)).bind fun w17 =>
(if w17 = true then some true else (g39 r4).bind fun r18 => some (!r18)).bind fun w20 =>
if w20 = true then
some false
else
(g40 r4).bind fun r22 =>
(g41 r4).bind fun r24 =>
(g42 r4 r6).bind fun r26 =>
(g43 r4 r6).bind fun r28 =>
(if (!eqI r22.2 r24.2) = true then some true else (g44 r22.1 r24.1).bind fun r30 => some (!r30)).bind fun w32 =>
(if (w32 || (!eqI r26.2.2 r28.2.2)) = true then some true else (g44 r26.1 r28.1).bind fun r33 => some (!r33)).bind fun w35 =>
if (w35 || (!eqI r26.2.1 r28.2.1)) = true then
some false
else
if eqI r22.2 0 = true then
(g45 r4 r24.1).bind fun r195 =>
if (!eqI r195.2 0) = true then
some false
else
g9_j1 r26 r4 r28 r6
else
g9_j1 r26 r4 r28 r6
def eA9 (a : (List Int) × (List Int)) : List V := [.sl 1 (rows ci_u8 a.1), .sl 1 (rows ci_u8 a.2)]
def eB9 (r : Bool) : V := .b r
theorem inj9 (a a' : (List Int) × (List Int)) (h : eA9 a = eA9 a') : a = a' := by
  obtain ⟨i609, i610⟩ := a
  obtain ⟨i611, i612⟩ := a'
  simp only [eA9, List.cons.injEq, V.i.injEq, V.b.injEq, V.f.injEq, V.str.injEq, V.sl.injEq, V.agg.injEq, V.cptr.injEq, true_and, and_true] at h
  simp_all [ri ci_u8_inj]
noncomputable def F9 : List V → Option V := tells (fun a => g9 a.1 a.2) eA9 eB9
/- loop.example/g01229/laws.FnSeasons -/
theorem ok9 : Tells Tryd.prog 9 F9 := by
 refine Tells.go 252 Tryd.func9 rfl rfl rfl (by kernel_rfl) (fun _ => rfl) ?_
 rintro ⟨code, more_⟩ r h
 simp only [eA9, en, Nat.reduceAdd]
 replace h : (g9 code more_).bind some = some r := bindS h
 rw [g9] at h
 have hC : CEnv.Ok Tryd.prog [(16, F16), (27, F27), (34, F34), (35, F35), (36, F36), (37, F37), (38, F38), (39, F39), (40, F40), (41, F41), (42, F42), (43, F43), (44, F44), (45, F45), (46, F46), (47, F47)] := ⟨.inl ok16, .inl ok27, .inl ok34, .inl ok35, .inl ok36, .inl ok37, .inl ok38, .inl ok39, .inl ok40, .inl ok41, .inl ok42, .inl ok43, .inl ok44, .inl ok45, .inl ok46, .inl ok47, trivial⟩
 refine VW.seq (VW.rA (tm 252 [(0, .sl 1 (rows ci_u8 code)), (1, .sl 1 (rows ci_u8 more_))]) [] [] hC (VW.seq (VW.seq ?_)))
 obtain ⟨r1, q2, h⟩ := bindE h
 have c2 := tl34 q2
 refine VW.rA (tm 252 [(0, .sl 1 (rows ci_u8 code)), (1, .sl 1 (rows ci_u8 more_)), (38, .b r1)]) [] [] hC (VW.condI h (fun h => ?_) (fun h => ?_)) (h := by simp -implicitDefEqProofs [c2])
 · refine VW.seq (VW.rA (tm 252 [(4, .b true)]) [] [] hC ?_)
   obtain rfl := leafS h
   exact VW.ret (VRet.fin (by simp [eB9]))
 refine VW.skip (VW.seq ?_)
 obtain ⟨r4, q5, h⟩ := bindE h
 have c5 := tl35 q5
 refine VW.rA (tm 252 [(1, .sl 1 (rows ci_u8 more_)), (5, .ptr 2 0 0)]) [some (1, rows ci_i64 r4.need_), some (1, rows ci_i64 r4.price_), some (7, [[.ref 0 0 r4.need_.length, .ref 1 0 r4.price_.length, .i .i64 r4.most_, .i .i64 r4.yield_, .i .i64 r4.store_, .i .i64 r4.first_, .i .i64 r4.loss_]])] [] hC (VW.seq ?_) (h := by simp -implicitDefEqProofs [c5])
 obtain ⟨r6, q7, h⟩ := bindE h
 have c7 := tl36 q7
 refine VW.rA (tm 252 [(5, .ptr 2 0 0), (6, .ref 3 0 r6.length)]) [some (1, rows ci_i64 r4.need_), some (1, rows ci_i64 r4.price_), some (7, [[.ref 0 0 r4.need_.length, .ref 1 0 r4.price_.length, .i .i64 r4.most_, .i .i64 r4.yield_, .i .i64 r4.store_, .i .i64 r4.first_, .i .i64 r4.loss_]]), some (1, rows ci_i64 r6)] [] hC (VW.seq ?_) (h := by simp -implicitDefEqProofs [c7])
 obtain ⟨r8, q9, h⟩ := bindE h
 have c9 := tl16 q9
 obtain ⟨r10, q11, h⟩ := bindE h
 have c11 := tl27 q11
 refine VW.rA (tm 252 [(5, .ptr 2 0 0), (6, .ref 3 0 r6.length), (7, .ptr 6 0 0), (8, .i .i64 r10.2)]) [some (1, rows ci_i64 r4.need_), some (1, rows ci_i64 r4.price_), some (7, [[.ref 0 0 r4.need_.length, .ref 1 0 r4.price_.length, .i .i64 r4.most_, .i .i64 r4.yield_, .i .i64 r4.store_, .i .i64 r4.first_, .i .i64 r4.loss_]]), some (1, rows ci_i64 r6), some (1, rows ci_i64 r10.1.need_), some (1, rows ci_i64 r10.1.price_), some (7, [[.ref 4 0 r10.1.need_.length, .ref 5 0 r10.1.price_.length, .i .i64 r10.1.most_, .i .i64 r10.1.yield_, .i .i64 r10.1.store_, .i .i64 r10.1.first_, .i .i64 r10.1.loss_]])] [] hC (VW.seq (VW.seq ?_)) (h := by simp -implicitDefEqProofs [c9, c11])
 obtain ⟨w14, q203, h⟩ := bindE h
 obtain ⟨w17, q204, h⟩ := bindE h
 obtain ⟨w20, q205, h⟩ := bindE h
 refine VW.evalA (tm 252 [(5, .ptr 2 0 0), (6, .ref 3 0 r6.length), (68, .b w20)]) [some (1, rows ci_i64 r4.need_), some (1, rows ci_i64 r4.price_), some (7, [[.ref 0 0 r4.need_.length, .ref 1 0 r4.price_.length, .i .i64 r4.most_, .i .i64 r4.yield_, .i .i64 r4.store_, .i .i64 r4.first_, .i .i64 r4.loss_]]), some (1, rows ci_i64 r6), some (1, rows ci_i64 r10.1.need_), some (1, rows ci_i64 r10.1.price_), some (7, [[.ref 4 0 r10.1.need_.length, .ref 5 0 r10.1.price_.length, .i .i64 r10.1.most_, .i .i64 r10.1.yield_, .i .i64 r10.1.store_, .i .i64 r10.1.first_, .i .i64 r10.1.loss_]])] [] hC (by kernel_rfl) (by
     obtain ⟨q206, q203⟩ | ⟨q206, rfl⟩ := gdF q203
     · obtain ⟨r12, q13, q203⟩ := bindQ q203
       have c13 := tl37 q13
       obtain rfl := Option.some.inj q203
       obtain ⟨q207, q204⟩ | ⟨q207, rfl⟩ := gdF q204
       · obtain ⟨r15, q16, q204⟩ := bindQ q204
         have c16 := tl38 q16
         obtain rfl := Option.some.inj q204
         obtain ⟨q208, q205⟩ | ⟨q208, rfl⟩ := gdF q205
         · obtain ⟨r18, q19, q205⟩ := bindQ q205
           have c19 := tl39 q19
           obtain rfl := Option.some.inj q205
           simp -implicitDefEqProofs [q206, c13, q207, c16, q208, c19]
         simp -implicitDefEqProofs [q206, c13, q207, c16, q208]
       obtain ⟨q209, q205⟩ | ⟨q209, rfl⟩ := gdF q205
       · exact absurd q209 (by simp)
       simp -implicitDefEqProofs [q206, c13, q207, q209]
     obtain ⟨q210, q204⟩ | ⟨q210, rfl⟩ := gdF q204
     · exact absurd q210 (by simp)
     obtain ⟨q211, q205⟩ | ⟨q211, rfl⟩ := gdF q205
     · exact absurd q211 (by simp)
     simp -implicitDefEqProofs [q206, q210, q211]) ?_
 refine VW.condI h (fun h => ?_) (fun h => ?_)
 · refine VW.seq (VW.rA (tm 252 [(4, .b false)]) [some (1, rows ci_i64 r4.need_), some (1, rows ci_i64 r4.price_), some (7, [[.ref 0 0 r4.need_.length, .ref 1 0 r4.price_.length, .i .i64 r4.most_, .i .i64 r4.yield_, .i .i64 r4.store_, .i .i64 r4.first_, .i .i64 r4.loss_]]), some (1, rows ci_i64 r6), some (1, rows ci_i64 r10.1.need_), some (1, rows ci_i64 r10.1.price_), some (7, [[.ref 4 0 r10.1.need_.length, .ref 5 0 r10.1.price_.length, .i .i64 r10.1.most_, .i .i64 r10.1.yield_, .i .i64 r10.1.store_, .i .i64 r10.1.first_, .i .i64 r10.1.loss_]])] [] hC ?_)
   obtain rfl := leafS h
   exact VW.ret (VRet.fin (by simp [eB9]))
 refine VW.skip (VW.seq ?_)
 obtain ⟨r22, q23, h⟩ := bindE h
 have c23 := tl40 q23
 refine VW.rA (tm 252 [(5, .ptr 2 0 0), (6, .ref 3 0 r6.length), (9, .ref 7 0 r22.1.length), (10, .i .i64 r22.2)]) [some (1, rows ci_i64 r4.need_), some (1, rows ci_i64 r4.price_), some (7, [[.ref 0 0 r4.need_.length, .ref 1 0 r4.price_.length, .i .i64 r4.most_, .i .i64 r4.yield_, .i .i64 r4.store_, .i .i64 r4.first_, .i .i64 r4.loss_]]), some (1, rows ci_i64 r6), some (1, rows ci_i64 r10.1.need_), some (1, rows ci_i64 r10.1.price_), some (7, [[.ref 4 0 r10.1.need_.length, .ref 5 0 r10.1.price_.length, .i .i64 r10.1.most_, .i .i64 r10.1.yield_, .i .i64 r10.1.store_, .i .i64 r10.1.first_, .i .i64 r10.1.loss_]]), some (1, rows ci_i64 r22.1)] [] hC (VW.seq ?_) (h := by simp -implicitDefEqProofs [c23])
 obtain ⟨r24, q25, h⟩ := bindE h
 have c25 := tl41 q25
 refine VW.rA (tm 252 [(5, .ptr 2 0 0), (6, .ref 3 0 r6.length), (9, .ref 7 0 r22.1.length), (10, .i .i64 r22.2), (11, .ref 8 0 r24.1.length), (12, .i .i64 r24.2)]) [some (1, rows ci_i64 r4.need_), some (1, rows ci_i64 r4.price_), some (7, [[.ref 0 0 r4.need_.length, .ref 1 0 r4.price_.length, .i .i64 r4.most_, .i .i64 r4.yield_, .i .i64 r4.store_, .i .i64 r4.first_, .i .i64 r4.loss_]]), some (1, rows ci_i64 r6), some (1, rows ci_i64 r10.1.need_), some (1, rows ci_i64 r10.1.price_), some (7, [[.ref 4 0 r10.1.need_.length, .ref 5 0 r10.1.price_.length, .i .i64 r10.1.most_, .i .i64 r10.1.yield_, .i .i64 r10.1.store_, .i .i64 r10.1.first_, .i .i64 r10.1.loss_]]), some (1, rows ci_i64 r22.1), some (1, rows ci_i64 r24.1)] [] hC (VW.seq ?_) (h := by simp -implicitDefEqProofs [c25])
 obtain ⟨r26, q27, h⟩ := bindE h
 have c27 := tl42 q27
 refine VW.rA (tm 252 [(5, .ptr 2 0 0), (6, .ref 3 0 r6.length), (9, .ref 7 0 r22.1.length), (10, .i .i64 r22.2), (11, .ref 8 0 r24.1.length), (12, .i .i64 r24.2), (13, .ref 9 0 r26.1.length), (14, .i .i64 r26.2.1), (15, .i .i64 r26.2.2)]) [some (1, rows ci_i64 r4.need_), some (1, rows ci_i64 r4.price_), some (7, [[.ref 0 0 r4.need_.length, .ref 1 0 r4.price_.length, .i .i64 r4.most_, .i .i64 r4.yield_, .i .i64 r4.store_, .i .i64 r4.first_, .i .i64 r4.loss_]]), some (1, rows ci_i64 r6), some (1, rows ci_i64 r10.1.need_), some (1, rows ci_i64 r10.1.price_), some (7, [[.ref 4 0 r10.1.need_.length, .ref 5 0 r10.1.price_.length, .i .i64 r10.1.most_, .i .i64 r10.1.yield_, .i .i64 r10.1.store_, .i .i64 r10.1.first_, .i .i64 r10.1.loss_]]), some (1, rows ci_i64 r22.1), some (1, rows ci_i64 r24.1), some (1, rows ci_i64 r26.1)] [] hC (VW.seq ?_) (h := by simp -implicitDefEqProofs [c27])
 obtain ⟨r28, q29, h⟩ := bindE h
 have c29 := tl43 q29
 refine VW.rA (tm 252 [(5, .ptr 2 0 0), (6, .ref 3 0 r6.length), (9, .ref 7 0 r22.1.length), (10, .i .i64 r22.2), (11, .ref 8 0 r24.1.length), (12, .i .i64 r24.2), (13, .ref 9 0 r26.1.length), (14, .i .i64 r26.2.1), (15, .i .i64 r26.2.2), (16, .ref 10 0 r28.1.length), (17, .i .i64 r28.2.1), (18, .i .i64 r28.2.2)]) [some (1, rows ci_i64 r4.need_), some (1, rows ci_i64 r4.price_), some (7, [[.ref 0 0 r4.need_.length, .ref 1 0 r4.price_.length, .i .i64 r4.most_, .i .i64 r4.yield_, .i .i64 r4.store_, .i .i64 r4.first_, .i .i64 r4.loss_]]), some (1, rows ci_i64 r6), some (1, rows ci_i64 r10.1.need_), some (1, rows ci_i64 r10.1.price_), some (7, [[.ref 4 0 r10.1.need_.length, .ref 5 0 r10.1.price_.length, .i .i64 r10.1.most_, .i .i64 r10.1.yield_, .i .i64 r10.1.store_, .i .i64 r10.1.first_, .i .i64 r10.1.loss_]]), some (1, rows ci_i64 r22.1), some (1, rows ci_i64 r24.1), some (1, rows ci_i64 r26.1), some (1, rows ci_i64 r28.1)] [] hC (VW.seq (VW.seq ?_)) (h := by simp -implicitDefEqProofs [c29])
 obtain ⟨w32, q198, h⟩ := bindE h
 obtain ⟨w35, q199, h⟩ := bindE h
 refine VW.evalA (tm 252 [(5, .ptr 2 0 0), (6, .ref 3 0 r6.length), (10, .i .i64 r22.2), (11, .ref 8 0 r24.1.length), (15, .i .i64 r26.2.2), (16, .ref 10 0 r28.1.length), (17, .i .i64 r28.2.1), (117, .b (w35 || (!eqI r26.2.1 r28.2.1)))]) [some (1, rows ci_i64 r4.need_), some (1, rows ci_i64 r4.price_), some (7, [[.ref 0 0 r4.need_.length, .ref 1 0 r4.price_.length, .i .i64 r4.most_, .i .i64 r4.yield_, .i .i64 r4.store_, .i .i64 r4.first_, .i .i64 r4.loss_]]), some (1, rows ci_i64 r6), some (1, rows ci_i64 r10.1.need_), some (1, rows ci_i64 r10.1.price_), some (7, [[.ref 4 0 r10.1.need_.length, .ref 5 0 r10.1.price_.length, .i .i64 r10.1.most_, .i .i64 r10.1.yield_, .i .i64 r10.1.store_, .i .i64 r10.1.first_, .i .i64 r10.1.loss_]]), some (1, rows ci_i64 r22.1), some (1, rows ci_i64 r24.1), some (1, rows ci_i64 r26.1), some (1, rows ci_i64 r28.1)] [] hC (by kernel_rfl) (by
     obtain ⟨q200, q198⟩ | ⟨q200, rfl⟩ := gdF q198
     · obtain ⟨r30, q31, q198⟩ := bindQ q198
       have c31 := tl44 q31
       obtain rfl := Option.some.inj q198
       obtain ⟨q201, q199⟩ | ⟨q201, rfl⟩ := gdF q199
       · obtain ⟨r33, q34, q199⟩ := bindQ q199
         have c34 := tl44 q34
         obtain rfl := Option.some.inj q199
         simp -implicitDefEqProofs [q200, c31, q201, c34]
       simp -implicitDefEqProofs [q200, c31, q201]
     obtain ⟨q202, q199⟩ | ⟨q202, rfl⟩ := gdF q199
     · first
         | (simp at q202; done)
         | (obtain ⟨r33, q34, q199⟩ := bindQ q199
            have c34 := tl44 q34
            obtain rfl := Option.some.inj q199
            simp -implicitDefEqProofs [q200, q202, c34])
     first
       | (simp at q202; done)
       | (simp -implicitDefEqProofs [q200, q202])) ?_
 refine VW.condI h (fun h => ?_) (fun h => ?_)
 · refine VW.seq (VW.rA (tm 252 [(4, .b false)]) [some (1, rows ci_i64 r4.need_), some (1, rows ci_i64 r4.price_), some (7, [[.ref 0 0 r4.need_.length, .ref 1 0 r4.price_.length, .i .i64 r4.most_, .i .i64 r4.yield_, .i .i64 r4.store_, .i .i64 r4.first_, .i .i64 r4.loss_]]), some (1, rows ci_i64 r6), some (1, rows ci_i64 r10.1.need_), some (1, rows ci_i64 r10.1.price_), some (7, [[.ref 4 0 r10.1.need_.length, .ref 5 0 r10.1.price_.length, .i .i64 r10.1.most_, .i .i64 r10.1.yield_, .i .i64 r10.1.store_, .i .i64 r10.1.first_, .i .i64 r10.1.loss_]]), some (1, rows ci_i64 r22.1), some (1, rows ci_i64 r24.1), some (1, rows ci_i64 r26.1), some (1, rows ci_i64 r28.1)] [] hC ?_)
   obtain rfl := leafS h
   exact VW.ret (VRet.fin (by simp [eB9]))
 refine VW.skip (VW.join (fun (v : Unit) => (⟨(tm 252 [(5, .ptr 2 0 0), (6, .ref 3 0 r6.length), (15, .i .i64 r26.2.2), (16, .ref 10 0 r28.1.length), (17, .i .i64 r28.2.1)]), [some (1, rows ci_i64 r4.need_), some (1, rows ci_i64 r4.price_), some (7, [[.ref 0 0 r4.need_.length, .ref 1 0 r4.price_.length, .i .i64 r4.most_, .i .i64 r4.yield_, .i .i64 r4.store_, .i .i64 r4.first_, .i .i64 r4.loss_]]), some (1, rows ci_i64 r6), some (1, rows ci_i64 r10.1.need_), some (1, rows ci_i64 r10.1.price_), some (7, [[.ref 4 0 r10.1.need_.length, .ref 5 0 r10.1.price_.length, .i .i64 r10.1.most_, .i .i64 r10.1.yield_, .i .i64 r10.1.store_, .i .i64 r10.1.first_, .i .i64 r10.1.loss_]]), some (1, rows ci_i64 r22.1), some (1, rows ci_i64 r24.1), some (1, rows ci_i64 r26.1), some (1, rows ci_i64 r28.1)], []⟩ : VS)) (fun v => (g9_j1 r26 r4 r28 r6).bind some = some r) ?_ ?_)
 · refine VW.seq (VW.rA (tm 252 [(5, .ptr 2 0 0), (6, .ref 3 0 r6.length), (11, .ref 8 0 r24.1.length), (15, .i .i64 r26.2.2), (16, .ref 10 0 r28.1.length), (17, .i .i64 r28.2.1), (119, .b (eqI r22.2 0))]) [some (1, rows ci_i64 r4.need_), some (1, rows ci_i64 r4.price_), some (7, [[.ref 0 0 r4.need_.length, .ref 1 0 r4.price_.length, .i .i64 r4.most_, .i .i64 r4.yield_, .i .i64 r4.store_, .i .i64 r4.first_, .i .i64 r4.loss_]]), some (1, rows ci_i64 r6), some (1, rows ci_i64 r10.1.need_), some (1, rows ci_i64 r10.1.price_), some (7, [[.ref 4 0 r10.1.need_.length, .ref 5 0 r10.1.price_.length, .i .i64 r10.1.most_, .i .i64 r10.1.yield_, .i .i64 r10.1.store_, .i .i64 r10.1.first_, .i .i64 r10.1.loss_]]), some (1, rows ci_i64 r22.1), some (1, rows ci_i64 r24.1), some (1, rows ci_i64 r26.1), some (1, rows ci_i64 r28.1)] [] hC (VW.condJ h (fun h => ?_) (fun h => ?_)))
   · exact VW.skip (vnext () h (Ent.tu 11))
   refine VW.seq ?_
   obtain ⟨r195, q196, h⟩ := bindE h
   have c196 := tl45 q196
   refine VW.rA (tm 252 [(5, .ptr 2 0 0), (6, .ref 3 0 r6.length), (15, .i .i64 r26.2.2), (16, .ref 10 0 r28.1.length), (17, .i .i64 r28.2.1), (20, .i .i64 r195.2)]) [some (1, rows ci_i64 r4.need_), some (1, rows ci_i64 r4.price_), some (7, [[.ref 0 0 r4.need_.length, .ref 1 0 r4.price_.length, .i .i64 r4.most_, .i .i64 r4.yield_, .i .i64 r4.store_, .i .i64 r4.first_, .i .i64 r4.loss_]]), some (1, rows ci_i64 r6), some (1, rows ci_i64 r10.1.need_), some (1, rows ci_i64 r10.1.price_), some (7, [[.ref 4 0 r10.1.need_.length, .ref 5 0 r10.1.price_.length, .i .i64 r10.1.most_, .i .i64 r10.1.yield_, .i .i64 r10.1.store_, .i .i64 r10.1.first_, .i .i64 r10.1.loss_]]), some (1, rows ci_i64 r22.1), some (1, rows ci_i64 r24.1), some (1, rows ci_i64 r26.1), some (1, rows ci_i64 r28.1)] [] hC (VW.seq (VW.rA (tm 252 [(5, .ptr 2 0 0), (6, .ref 3 0 r6.length), (15, .i .i64 r26.2.2), (16, .ref 10 0 r28.1.length), (17, .i .i64 r28.2.1), (127, .b (!eqI r195.2 0))]) [some (1, rows ci_i64 r4.need_), some (1, rows ci_i64 r4.price_), some (7, [[.ref 0 0 r4.need_.length, .ref 1 0 r4.price_.length, .i .i64 r4.most_, .i .i64 r4.yield_, .i .i64 r4.store_, .i .i64 r4.first_, .i .i64 r4.loss_]]), some (1, rows ci_i64 r6), some (1, rows ci_i64 r10.1.need_), some (1, rows ci_i64 r10.1.price_), some (7, [[.ref 4 0 r10.1.need_.length, .ref 5 0 r10.1.price_.length, .i .i64 r10.1.most_, .i .i64 r10.1.yield_, .i .i64 r10.1.store_, .i .i64 r10.1.first_, .i .i64 r10.1.loss_]]), some (1, rows ci_i64 r22.1), some (1, rows ci_i64 r24.1), some (1, rows ci_i64 r26.1), some (1, rows ci_i64 r28.1)] [] hC (VW.condJ h (fun h => ?_) (fun h => ?_)))) (h := by simp -implicitDefEqProofs [c196])
   · exact VW.skip (vnext () h (Ent.tu 11))
   refine VW.seq (VW.rA (tm 252 [(4, .b false)]) [some (1, rows ci_i64 r4.need_), some (1, rows ci_i64 r4.price_), some (7, [[.ref 0 0 r4.need_.length, .ref 1 0 r4.price_.length, .i .i64 r4.most_, .i .i64 r4.yield_, .i .i64 r4.store_, .i .i64 r4.first_, .i .i64 r4.loss_]]), some (1, rows ci_i64 r6), some (1, rows ci_i64 r10.1.need_), some (1, rows ci_i64 r10.1.price_), some (7, [[.ref 4 0 r10.1.need_.length, .ref 5 0 r10.1.price_.length, .i .i64 r10.1.most_, .i .i64 r10.1.yield_, .i .i64 r10.1.store_, .i .i64 r10.1.first_, .i .i64 r10.1.loss_]]), some (1, rows ci_i64 r22.1), some (1, rows ci_i64 r24.1), some (1, rows ci_i64 r26.1), some (1, rows ci_i64 r28.1)] [] hC ?_)
   obtain rfl := leafS h
   exact VW.ret (VRet.fin (by simp [eB9]))
 rintro _ h
 replace h : (g9_j1 r26 r4 r28 r6).bind _ = _ := h
 rw [g9_j1] at h
 refine VW.seq (VW.seq (VW.rA (tm 252 [(5, .ptr 2 0 0), (6, .ref 3 0 r6.length), (15, .i .i64 r26.2.2), (16, .ref 10 0 r28.1.length), (17, .i .i64 r28.2.1), (129, .b (!eqI r26.2.2 0))]) [some (1, rows ci_i64 r4.need_), some (1, rows ci_i64 r4.price_), some (7, [[.ref 0 0 r4.need_.length, .ref 1 0 r4.price_.length, .i .i64 r4.most_, .i .i64 r4.yield_, .i .i64 r4.store_, .i .i64 r4.first_, .i .i64 r4.loss_]]), some (1, rows ci_i64 r6), some (1, rows ci_i64 r10.1.need_), some (1, rows ci_i64 r10.1.price_), some (7, [[.ref 4 0 r10.1.need_.length, .ref 5 0 r10.1.price_.length, .i .i64 r10.1.most_, .i .i64 r10.1.yield_, .i .i64 r10.1.store_, .i .i64 r10.1.first_, .i .i64 r10.1.loss_]]), some (1, rows ci_i64 r22.1), some (1, rows ci_i64 r24.1), some (1, rows ci_i64 r26.1), some (1, rows ci_i64 r28.1)] [] hC (VW.condI h (fun h => ?_) (fun h => ?_))))
 · refine VW.seq (VW.rA (tm 252 [(4, .b (eqI r26.2.2 6))]) [some (1, rows ci_i64 r4.need_), some (1, rows ci_i64 r4.price_), some (7, [[.ref 0 0 r4.need_.length, .ref 1 0 r4.price_.length, .i .i64 r4.most_, .i .i64 r4.yield_, .i .i64 r4.store_, .i .i64 r4.first_, .i .i64 r4.loss_]]), some (1, rows ci_i64 r6), some (1, rows ci_i64 r10.1.need_), some (1, rows ci_i64 r10.1.price_), some (7, [[.ref 4 0 r10.1.need_.length, .ref 5 0 r10.1.price_.length, .i .i64 r10.1.most_, .i .i64 r10.1.yield_, .i .i64 r10.1.store_, .i .i64 r10.1.first_, .i .i64 r10.1.loss_]]), some (1, rows ci_i64 r22.1), some (1, rows ci_i64 r24.1), some (1, rows ci_i64 r26.1), some (1, rows ci_i64 r28.1)] [] hC ?_)
   obtain rfl := leafS h
   exact VW.ret (VRet.fin (by simp [eB9]))
 refine VW.skip (VW.seq ?_)
 obtain ⟨r42, q43, h⟩ := bindE h
 have c43 := tl46 q43
 refine VW.rA (tm 252 [(5, .ptr 2 0 0), (6, .ref 3 0 r6.length), (16, .ref 10 0 r28.1.length), (17, .i .i64 r28.2.1), (21, .ref 11 0 r42.1.length), (22, .i .i64 r42.2)]) [some (1, rows ci_i64 r4.need_), some (1, rows ci_i64 r4.price_), some (7, [[.ref 0 0 r4.need_.length, .ref 1 0 r4.price_.length, .i .i64 r4.most_, .i .i64 r4.yield_, .i .i64 r4.store_, .i .i64 r4.first_, .i .i64 r4.loss_]]), some (1, rows ci_i64 r6), some (1, rows ci_i64 r10.1.need_), some (1, rows ci_i64 r10.1.price_), some (7, [[.ref 4 0 r10.1.need_.length, .ref 5 0 r10.1.price_.length, .i .i64 r10.1.most_, .i .i64 r10.1.yield_, .i .i64 r10.1.store_, .i .i64 r10.1.first_, .i .i64 r10.1.loss_]]), some (1, rows ci_i64 r22.1), some (1, rows ci_i64 r24.1), some (1, rows ci_i64 r26.1), some (1, rows ci_i64 r28.1), some (1, rows ci_i64 r42.1)] [] hC (VW.seq ?_) (h := by simp -implicitDefEqProofs [c43])
 obtain ⟨r44, q45, h⟩ := bindE h
 have c45 := tl45 q45
 refine VW.rA (tm 252 [(5, .ptr 2 0 0), (6, .ref 3 0 r6.length), (16, .ref 10 0 r28.1.length), (17, .i .i64 r28.2.1), (21, .ref 11 0 r42.1.length), (22, .i .i64 r42.2), (23, .i .i64 r44.1), (24, .i .i64 r44.2)]) [some (1, rows ci_i64 r4.need_), some (1, rows ci_i64 r4.price_), some (7, [[.ref 0 0 r4.need_.length, .ref 1 0 r4.price_.length, .i .i64 r4.most_, .i .i64 r4.yield_, .i .i64 r4.store_, .i .i64 r4.first_, .i .i64 r4.loss_]]), some (1, rows ci_i64 r6), some (1, rows ci_i64 r10.1.need_), some (1, rows ci_i64 r10.1.price_), some (7, [[.ref 4 0 r10.1.need_.length, .ref 5 0 r10.1.price_.length, .i .i64 r10.1.most_, .i .i64 r10.1.yield_, .i .i64 r10.1.store_, .i .i64 r10.1.first_, .i .i64 r10.1.loss_]]), some (1, rows ci_i64 r22.1), some (1, rows ci_i64 r24.1), some (1, rows ci_i64 r26.1), some (1, rows ci_i64 r28.1), some (1, rows ci_i64 r42.1)] [] hC (VW.seq ?_) (h := by simp -implicitDefEqProofs [c45])
 obtain ⟨r46, q47, h⟩ := bindE h
 have c47 := tl42 q47
 refine VW.rA (tm 252 [(5, .ptr 2 0 0), (6, .ref 3 0 r6.length), (16, .ref 10 0 r28.1.length), (17, .i .i64 r28.2.1), (21, .ref 11 0 r42.1.length), (22, .i .i64 r42.2), (23, .i .i64 r44.1), (24, .i .i64 r44.2), (25, .ref 12 0 r46.1.length), (26, .i .i64 r46.2.1), (27, .i .i64 r46.2.2)]) [some (1, rows ci_i64 r4.need_), some (1, rows ci_i64 r4.price_), some (7, [[.ref 0 0 r4.need_.length, .ref 1 0 r4.price_.length, .i .i64 r4.most_, .i .i64 r4.yield_, .i .i64 r4.store_, .i .i64 r4.first_, .i .i64 r4.loss_]]), some (1, rows ci_i64 r6), some (1, rows ci_i64 r10.1.need_), some (1, rows ci_i64 r10.1.price_), some (7, [[.ref 4 0 r10.1.need_.length, .ref 5 0 r10.1.price_.length, .i .i64 r10.1.most_, .i .i64 r10.1.yield_, .i .i64 r10.1.store_, .i .i64 r10.1.first_, .i .i64 r10.1.loss_]]), some (1, rows ci_i64 r22.1), some (1, rows ci_i64 r24.1), some (1, rows ci_i64 r26.1), some (1, rows ci_i64 r28.1), some (1, rows ci_i64 r42.1), some (1, rows ci_i64 r46.1)] [] hC (VW.seq (VW.seq ?_)) (h := by simp -implicitDefEqProofs [c47])
 obtain ⟨w50, q192, h⟩ := bindE h
 refine VW.evalA (tm 252 [(5, .ptr 2 0 0), (6, .ref 3 0 r6.length), (16, .ref 10 0 r28.1.length), (17, .i .i64 r28.2.1), (21, .ref 11 0 r42.1.length), (23, .i .i64 r44.1), (177, .b w50)]) [some (1, rows ci_i64 r4.need_), some (1, rows ci_i64 r4.price_), some (7, [[.ref 0 0 r4.need_.length, .ref 1 0 r4.price_.length, .i .i64 r4.most_, .i .i64 r4.yield_, .i .i64 r4.store_, .i .i64 r4.first_, .i .i64 r4.loss_]]), some (1, rows ci_i64 r6), some (1, rows ci_i64 r10.1.need_), some (1, rows ci_i64 r10.1.price_), some (7, [[.ref 4 0 r10.1.need_.length, .ref 5 0 r10.1.price_.length, .i .i64 r10.1.most_, .i .i64 r10.1.yield_, .i .i64 r10.1.store_, .i .i64 r10.1.first_, .i .i64 r10.1.loss_]]), some (1, rows ci_i64 r22.1), some (1, rows ci_i64 r24.1), some (1, rows ci_i64 r26.1), some (1, rows ci_i64 r28.1), some (1, rows ci_i64 r42.1), some (1, rows ci_i64 r46.1)] [] hC (by kernel_rfl) (by
     obtain ⟨q193, q192⟩ | ⟨q193, rfl⟩ := gdF q192
     · obtain ⟨r48, q49, q192⟩ := bindQ q192
       have c49 := tl44 q49
       obtain rfl := Option.some.inj q192
       simp -implicitDefEqProofs [q193, c49]
     simp -implicitDefEqProofs [q193]) ?_
 refine VW.condI h (fun h => ?_) (fun h => ?_)
 · refine VW.seq (VW.rA (tm 252 [(4, .b false)]) [some (1, rows ci_i64 r4.need_), some (1, rows ci_i64 r4.price_), some (7, [[.ref 0 0 r4.need_.length, .ref 1 0 r4.price_.length, .i .i64 r4.most_, .i .i64 r4.yield_, .i .i64 r4.store_, .i .i64 r4.first_, .i .i64 r4.loss_]]), some (1, rows ci_i64 r6), some (1, rows ci_i64 r10.1.need_), some (1, rows ci_i64 r10.1.price_), some (7, [[.ref 4 0 r10.1.need_.length, .ref 5 0 r10.1.price_.length, .i .i64 r10.1.most_, .i .i64 r10.1.yield_, .i .i64 r10.1.store_, .i .i64 r10.1.first_, .i .i64 r10.1.loss_]]), some (1, rows ci_i64 r22.1), some (1, rows ci_i64 r24.1), some (1, rows ci_i64 r26.1), some (1, rows ci_i64 r28.1), some (1, rows ci_i64 r42.1), some (1, rows ci_i64 r46.1)] [] hC ?_)
   obtain rfl := leafS h
   exact VW.ret (VRet.fin (by simp [eB9]))
 refine VW.skip (VW.seq (VW.rA (tm 252 [(5, .ptr 2 0 0), (6, .ref 3 0 r6.length), (16, .ref 10 0 r28.1.length), (17, .i .i64 r28.2.1), (21, .ref 11 0 r42.1.length), (23, .i .i64 r44.1), (28, .i .i64 r4.first_)]) [some (1, rows ci_i64 r4.need_), some (1, rows ci_i64 r4.price_), some (7, [[.ref 0 0 r4.need_.length, .ref 1 0 r4.price_.length, .i .i64 r4.most_, .i .i64 r4.yield_, .i .i64 r4.store_, .i .i64 r4.first_, .i .i64 r4.loss_]]), some (1, rows ci_i64 r6), some (1, rows ci_i64 r10.1.need_), some (1, rows ci_i64 r10.1.price_), some (7, [[.ref 4 0 r10.1.need_.length, .ref 5 0 r10.1.price_.length, .i .i64 r10.1.most_, .i .i64 r10.1.yield_, .i .i64 r10.1.store_, .i .i64 r10.1.first_, .i .i64 r10.1.loss_]]), some (1, rows ci_i64 r22.1), some (1, rows ci_i64 r24.1), some (1, rows ci_i64 r26.1), some (1, rows ci_i64 r28.1), some (1, rows ci_i64 r42.1), some (1, rows ci_i64 r46.1)] [] hC (VW.seq (VW.rA (tm 252 [(5, .ptr 2 0 0), (6, .ref 3 0 r6.length), (16, .ref 10 0 r28.1.length), (17, .i .i64 r28.2.1), (21, .ref 11 0 r42.1.length), (23, .i .i64 r44.1), (28, .i .i64 r4.first_), (29, .i .i64 0)]) [some (1, rows ci_i64 r4.need_), some (1, rows ci_i64 r4.price_), some (7, [[.ref 0 0 r4.need_.length, .ref 1 0 r4.price_.length, .i .i64 r4.most_, .i .i64 r4.yield_, .i .i64 r4.store_, .i .i64 r4.first_, .i .i64 r4.loss_]]), some (1, rows ci_i64 r6), some (1, rows ci_i64 r10.1.need_), some (1, rows ci_i64 r10.1.price_), some (7, [[.ref 4 0 r10.1.need_.length, .ref 5 0 r10.1.price_.length, .i .i64 r10.1.most_, .i .i64 r10.1.yield_, .i .i64 r10.1.store_, .i .i64 r10.1.first_, .i .i64 r10.1.loss_]]), some (1, rows ci_i64 r22.1), some (1, rows ci_i64 r24.1), some (1, rows ci_i64 r26.1), some (1, rows ci_i64 r28.1), some (1, rows ci_i64 r42.1), some (1, rows ci_i64 r46.1)] [] hC (VW.seq (VW.rA (tm 252 [(5, .ptr 2 0 0), (6, .ref 3 0 r6.length), (16, .ref 10 0 r28.1.length), (17, .i .i64 r28.2.1), (21, .ref 11 0 r42.1.length), (23, .i .i64 r44.1), (28, .i .i64 r4.first_), (29, .i .i64 0), (30, .i .i64 0)]) [some (1, rows ci_i64 r4.need_), some (1, rows ci_i64 r4.price_), some (7, [[.ref 0 0 r4.need_.length, .ref 1 0 r4.price_.length, .i .i64 r4.most_, .i .i64 r4.yield_, .i .i64 r4.store_, .i .i64 r4.first_, .i .i64 r4.loss_]]), some (1, rows ci_i64 r6), some (1, rows ci_i64 r10.1.need_), some (1, rows ci_i64 r10.1.price_), some (7, [[.ref 4 0 r10.1.need_.length, .ref 5 0 r10.1.price_.length, .i .i64 r10.1.most_, .i .i64 r10.1.yield_, .i .i64 r10.1.store_, .i .i64 r10.1.first_, .i .i64 r10.1.loss_]]), some (1, rows ci_i64 r22.1), some (1, rows ci_i64 r24.1), some (1, rows ci_i64 r26.1), some (1, rows ci_i64 r28.1), some (1, rows ci_i64 r42.1), some (1, rows ci_i64 r46.1)] [] hC (VW.join (fun (v : Int × Int) => (⟨(tm 252 [(5, .ptr 2 0 0), (6, .ref 3 0 r6.length), (17, .i .i64 r28.2.1), (23, .i .i64 r44.1), (29, .i .i64 v.1), (30, .i .i64 v.2)]), [some (1, rows ci_i64 r4.need_), some (1, rows ci_i64 r4.price_), some (7, [[.ref 0 0 r4.need_.length, .ref 1 0 r4.price_.length, .i .i64 r4.most_, .i .i64 r4.yield_, .i .i64 r4.store_, .i .i64 r4.first_, .i .i64 r4.loss_]]), some (1, rows ci_i64 r6), some (1, rows ci_i64 r10.1.need_), some (1, rows ci_i64 r10.1.price_), some (7, [[.ref 4 0 r10.1.need_.length, .ref 5 0 r10.1.price_.length, .i .i64 r10.1.most_, .i .i64 r10.1.yield_, .i .i64 r10.1.store_, .i .i64 r10.1.first_, .i .i64 r10.1.loss_]]), some (1, rows ci_i64 r22.1), some (1, rows ci_i64 r24.1), some (1, rows ci_i64 r26.1), some (1, rows ci_i64 r28.1), some (1, rows ci_i64 r42.1), some (1, rows ci_i64 r46.1)], []⟩ : VS)) (fun v => (g9_j2 r4 r6 r44 r28 (v.1) (v.2)).bind some = some r) ?_ ?_)))))))
 · refine VW.seq (VW.rA (tm 252 [(5, .ptr 2 0 0), (6, .ref 3 0 r6.length), (16, .ref 10 0 r28.1.length), (17, .i .i64 r28.2.1), (21, .ref 11 0 r42.1.length), (23, .i .i64 r44.1), (28, .i .i64 r4.first_), (29, .i .i64 0), (30, .i .i64 0), (31, .i .i64 0)]) [some (1, rows ci_i64 r4.need_), some (1, rows ci_i64 r4.price_), some (7, [[.ref 0 0 r4.need_.length, .ref 1 0 r4.price_.length, .i .i64 r4.most_, .i .i64 r4.yield_, .i .i64 r4.store_, .i .i64 r4.first_, .i .i64 r4.loss_]]), some (1, rows ci_i64 r6), some (1, rows ci_i64 r10.1.need_), some (1, rows ci_i64 r10.1.price_), some (7, [[.ref 4 0 r10.1.need_.length, .ref 5 0 r10.1.price_.length, .i .i64 r10.1.most_, .i .i64 r10.1.yield_, .i .i64 r10.1.store_, .i .i64 r10.1.first_, .i .i64 r10.1.loss_]]), some (1, rows ci_i64 r22.1), some (1, rows ci_i64 r24.1), some (1, rows ci_i64 r26.1), some (1, rows ci_i64 r28.1), some (1, rows ci_i64 r42.1), some (1, rows ci_i64 r46.1)] [] hC (VW.block ?_))
   obtain ⟨w_1, hw_1, h⟩ := bindE h
   refine VW.loopO (fun (x : Int × Int × Int × Int) => (⟨(tm 252 [(5, .ptr 2 0 0), (6, .ref 3 0 r6.length), (16, .ref 10 0 r28.1.length), (17, .i .i64 r28.2.1), (21, .ref 11 0 r42.1.length), (23, .i .i64 r44.1), (28, .i .i64 x.1), (29, .i .i64 x.2.1), (30, .i .i64 x.2.2.1), (31, .i .i64 x.2.2.2)]), [some (1, rows ci_i64 r4.need_), some (1, rows ci_i64 r4.price_), some (7, [[.ref 0 0 r4.need_.length, .ref 1 0 r4.price_.length, .i .i64 r4.most_, .i .i64 r4.yield_, .i .i64 r4.store_, .i .i64 r4.first_, .i .i64 r4.loss_]]), some (1, rows ci_i64 r6), some (1, rows ci_i64 r10.1.need_), some (1, rows ci_i64 r10.1.price_), some (7, [[.ref 4 0 r10.1.need_.length, .ref 5 0 r10.1.price_.length, .i .i64 r10.1.most_, .i .i64 r10.1.yield_, .i .i64 r10.1.store_, .i .i64 r10.1.first_, .i .i64 r10.1.loss_]]), some (1, rows ci_i64 r22.1), some (1, rows ci_i64 r24.1), some (1, rows ci_i64 r26.1), some (1, rows ci_i64 r28.1), some (1, rows ci_i64 r42.1), some (1, rows ci_i64 r46.1)], []⟩ : VS)) hw_1 (Ent.tu 13) ?_
   rintro n_1 ⟨at_168, sum_169, differs_170, k_171⟩ h1
   rw [g9_L1] at h1
   refine VW.seq (VW.seq (VW.rA (tm 252 [(5, .ptr 2 0 0), (6, .ref 3 0 r6.length), (16, .ref 10 0 r28.1.length), (17, .i .i64 r28.2.1), (21, .ref 11 0 r42.1.length), (23, .i .i64 r44.1), (28, .i .i64 at_168), (29, .i .i64 sum_169), (30, .i .i64 differs_170), (31, .i .i64 k_171), (183, .b (ltI k_171 (r28.1.length : Int)))]) [some (1, rows ci_i64 r4.need_), some (1, rows ci_i64 r4.price_), some (7, [[.ref 0 0 r4.need_.length, .ref 1 0 r4.price_.length, .i .i64 r4.most_, .i .i64 r4.yield_, .i .i64 r4.store_, .i .i64 r4.first_, .i .i64 r4.loss_]]), some (1, rows ci_i64 r6), some (1, rows ci_i64 r10.1.need_), some (1, rows ci_i64 r10.1.price_), some (7, [[.ref 4 0 r10.1.need_.length, .ref 5 0 r10.1.price_.length, .i .i64 r10.1.most_, .i .i64 r10.1.yield_, .i .i64 r10.1.store_, .i .i64 r10.1.first_, .i .i64 r10.1.loss_]]), some (1, rows ci_i64 r22.1), some (1, rows ci_i64 r24.1), some (1, rows ci_i64 r26.1), some (1, rows ci_i64 r28.1), some (1, rows ci_i64 r42.1), some (1, rows ci_i64 r46.1)] [] hC (VW.condJ h1 (fun h1 => ?_) (fun h1 => ?_))))
   · refine VW.exit ?_
     have e_ := leafR h1
     subst w_1
     exact vnext (sum_169, differs_170) h (Ent.tu 13)
   refine VW.skip (VW.seq (VW.block (VW.seq ?_)))
   obtain ⟨e173, ⟨f174a, f174b, f174c, f174d⟩, h1⟩ := bindI h1
   obtain ⟨r175, q176, h1⟩ := bindE h1
   have c176 := tl47 q176
   refine VW.rD (tm 252 [(5, .ptr 2 0 0), (6, .ref 3 0 r6.length), (16, .ref 10 0 r28.1.length), (17, .i .i64 r28.2.1), (21, .ref 11 0 r42.1.length), (23, .i .i64 r44.1), (29, .i .i64 sum_169), (30, .i .i64 differs_170), (31, .i .i64 k_171), (32, .i .i64 r175.1), (33, .i .i64 r175.2)]) [some (1, rows ci_i64 r4.need_), some (1, rows ci_i64 r4.price_), some (7, [[.ref 0 0 r4.need_.length, .ref 1 0 r4.price_.length, .i .i64 r4.most_, .i .i64 r4.yield_, .i .i64 r4.store_, .i .i64 r4.first_, .i .i64 r4.loss_]]), some (1, rows ci_i64 r6), some (1, rows ci_i64 r10.1.need_), some (1, rows ci_i64 r10.1.price_), some (7, [[.ref 4 0 r10.1.need_.length, .ref 5 0 r10.1.price_.length, .i .i64 r10.1.most_, .i .i64 r10.1.yield_, .i .i64 r10.1.store_, .i .i64 r10.1.first_, .i .i64 r10.1.loss_]]), some (1, rows ci_i64 r22.1), some (1, rows ci_i64 r24.1), some (1, rows ci_i64 r26.1), some (1, rows ci_i64 r28.1), some (1, rows ci_i64 r42.1), some (1, rows ci_i64 r46.1)] [] hC mixed (VW.seq (VW.seq ?_)) (h := by simp -implicitDefEqProofs [f174a, f174b, f174c, f174d, c176])
   obtain ⟨w179, q190, h1⟩ := bindE h1
   refine VW.evalA (tm 252 [(5, .ptr 2 0 0), (6, .ref 3 0 r6.length), (16, .ref 10 0 r28.1.length), (17, .i .i64 r28.2.1), (21, .ref 11 0 r42.1.length), (23, .i .i64 r44.1), (29, .i .i64 sum_169), (30, .i .i64 differs_170), (31, .i .i64 k_171), (32, .i .i64 r175.1), (206, .b w179)]) [some (1, rows ci_i64 r4.need_), some (1, rows ci_i64 r4.price_), some (7, [[.ref 0 0 r4.need_.length, .ref 1 0 r4.price_.length, .i .i64 r4.most_, .i .i64 r4.yield_, .i .i64 r4.store_, .i .i64 r4.first_, .i .i64 r4.loss_]]), some (1, rows ci_i64 r6), some (1, rows ci_i64 r10.1.need_), some (1, rows ci_i64 r10.1.price_), some (7, [[.ref 4 0 r10.1.need_.length, .ref 5 0 r10.1.price_.length, .i .i64 r10.1.most_, .i .i64 r10.1.yield_, .i .i64 r10.1.store_, .i .i64 r10.1.first_, .i .i64 r10.1.loss_]]), some (1, rows ci_i64 r22.1), some (1, rows ci_i64 r24.1), some (1, rows ci_i64 r26.1), some (1, rows ci_i64 r28.1), some (1, rows ci_i64 r42.1), some (1, rows ci_i64 r46.1)] [] hC (by kernel_rfl) (by
       obtain ⟨q191, q190⟩ | ⟨q191, rfl⟩ := gdF q190
       · obtain ⟨e177, q178, q190⟩ := bindQ q190
         obtain ⟨f178a, f178b, f178c, f178d⟩ := idx_some q178
         obtain rfl := Option.some.inj q190
         simp -implicitDefEqProofs [q191, f178a, f178b, f178c, f178d]
       simp -implicitDefEqProofs [q191]) ?_
   refine VW.condI h1 (fun h1 => ?_) (fun h1 => ?_)
   · refine VW.seq (VW.rA (tm 252 [(4, .b false)]) [some (1, rows ci_i64 r4.need_), some (1, rows ci_i64 r4.price_), some (7, [[.ref 0 0 r4.need_.length, .ref 1 0 r4.price_.length, .i .i64 r4.most_, .i .i64 r4.yield_, .i .i64 r4.store_, .i .i64 r4.first_, .i .i64 r4.loss_]]), some (1, rows ci_i64 r6), some (1, rows ci_i64 r10.1.need_), some (1, rows ci_i64 r10.1.price_), some (7, [[.ref 4 0 r10.1.need_.length, .ref 5 0 r10.1.price_.length, .i .i64 r10.1.most_, .i .i64 r10.1.yield_, .i .i64 r10.1.store_, .i .i64 r10.1.first_, .i .i64 r10.1.loss_]]), some (1, rows ci_i64 r22.1), some (1, rows ci_i64 r24.1), some (1, rows ci_i64 r26.1), some (1, rows ci_i64 r28.1), some (1, rows ci_i64 r42.1), some (1, rows ci_i64 r46.1)] [] hC ?_)
     have e_ := leafR h1
     subst w_1
     obtain rfl := leafS h
     exact VW.ret (VRet.fin (by simp [eB9]))
   refine VW.skip (VW.seq (VW.rA (tm 252 [(5, .ptr 2 0 0), (6, .ref 3 0 r6.length), (16, .ref 10 0 r28.1.length), (17, .i .i64 r28.2.1), (21, .ref 11 0 r42.1.length), (23, .i .i64 r44.1), (28, .i .i64 r175.1), (29, .i .i64 sum_169), (30, .i .i64 differs_170), (31, .i .i64 k_171)]) [some (1, rows ci_i64 r4.need_), some (1, rows ci_i64 r4.price_), some (7, [[.ref 0 0 r4.need_.length, .ref 1 0 r4.price_.length, .i .i64 r4.most_, .i .i64 r4.yield_, .i .i64 r4.store_, .i .i64 r4.first_, .i .i64 r4.loss_]]), some (1, rows ci_i64 r6), some (1, rows ci_i64 r10.1.need_), some (1, rows ci_i64 r10.1.price_), some (7, [[.ref 4 0 r10.1.need_.length, .ref 5 0 r10.1.price_.length, .i .i64 r10.1.most_, .i .i64 r10.1.yield_, .i .i64 r10.1.store_, .i .i64 r10.1.first_, .i .i64 r10.1.loss_]]), some (1, rows ci_i64 r22.1), some (1, rows ci_i64 r24.1), some (1, rows ci_i64 r26.1), some (1, rows ci_i64 r28.1), some (1, rows ci_i64 r42.1), some (1, rows ci_i64 r46.1)] [] hC (VW.seq ?_)))
   obtain ⟨e181, ⟨f182a, f182b, f182c, f182d⟩, h1⟩ := bindI h1
   obtain ⟨e183, ⟨f184a, f184b, f184c, f184d⟩, h1⟩ := bindI h1
   refine VW.rD (tm 252 [(5, .ptr 2 0 0), (6, .ref 3 0 r6.length), (16, .ref 10 0 r28.1.length), (17, .i .i64 r28.2.1), (21, .ref 11 0 r42.1.length), (23, .i .i64 r44.1), (28, .i .i64 r175.1), (29, .i .i64 (aI .i64 sum_169 (mI .i64 e181 e183))), (30, .i .i64 differs_170), (31, .i .i64 k_171)]) [some (1, rows ci_i64 r4.need_), some (1, rows ci_i64 r4.price_), some (7, [[.ref 0 0 r4.need_.length, .ref 1 0 r4.price_.length, .i .i64 r4.most_, .i .i64 r4.yield_, .i .i64 r4.store_, .i .i64 r4.first_, .i .i64 r4.loss_]]), some (1, rows ci_i64 r6), some (1, rows ci_i64 r10.1.need_), some (1, rows ci_i64 r10.1.price_), some (7, [[.ref 4 0 r10.1.need_.length, .ref 5 0 r10.1.price_.length, .i .i64 r10.1.most_, .i .i64 r10.1.yield_, .i .i64 r10.1.store_, .i .i64 r10.1.first_, .i .i64 r10.1.loss_]]), some (1, rows ci_i64 r22.1), some (1, rows ci_i64 r24.1), some (1, rows ci_i64 r26.1), some (1, rows ci_i64 r28.1), some (1, rows ci_i64 r42.1), some (1, rows ci_i64 r46.1)] [] hC mixed (VW.seq ?_) (h := by simp -implicitDefEqProofs [f182a, f182b, f182c, f182d, f184a, f184b, f184c, f184d])
   obtain ⟨e185, ⟨f186a, f186b, f186c, f186d⟩, h1⟩ := bindI h1
   obtain ⟨e187, ⟨f188a, f188b, f188c, f188d⟩, h1⟩ := bindI h1
   refine VW.rD (tm 252 [(5, .ptr 2 0 0), (6, .ref 3 0 r6.length), (16, .ref 10 0 r28.1.length), (17, .i .i64 r28.2.1), (21, .ref 11 0 r42.1.length), (23, .i .i64 r44.1), (28, .i .i64 r175.1), (29, .i .i64 (aI .i64 sum_169 (mI .i64 e181 e183))), (30, .i .i64 differs_170), (31, .i .i64 k_171), (228, .b (!eqI e185 e187))]) [some (1, rows ci_i64 r4.need_), some (1, rows ci_i64 r4.price_), some (7, [[.ref 0 0 r4.need_.length, .ref 1 0 r4.price_.length, .i .i64 r4.most_, .i .i64 r4.yield_, .i .i64 r4.store_, .i .i64 r4.first_, .i .i64 r4.loss_]]), some (1, rows ci_i64 r6), some (1, rows ci_i64 r10.1.need_), some (1, rows ci_i64 r10.1.price_), some (7, [[.ref 4 0 r10.1.need_.length, .ref 5 0 r10.1.price_.length, .i .i64 r10.1.most_, .i .i64 r10.1.yield_, .i .i64 r10.1.store_, .i .i64 r10.1.first_, .i .i64 r10.1.loss_]]), some (1, rows ci_i64 r22.1), some (1, rows ci_i64 r24.1), some (1, rows ci_i64 r26.1), some (1, rows ci_i64 r28.1), some (1, rows ci_i64 r42.1), some (1, rows ci_i64 r46.1)] [] hC mixed (VW.condJ h1 (fun h1 => ?_) (fun h1 => ?_)) (h := by simp -implicitDefEqProofs [f186a, f186b, f186c, f186d, f188a, f188b, f188c, f188d])
   · exact VW.skip (VW.rA (tm 252 [(5, .ptr 2 0 0), (6, .ref 3 0 r6.length), (16, .ref 10 0 r28.1.length), (17, .i .i64 r28.2.1), (21, .ref 11 0 r42.1.length), (23, .i .i64 r44.1), (28, .i .i64 r175.1), (29, .i .i64 (aI .i64 sum_169 (mI .i64 e181 e183))), (30, .i .i64 differs_170), (31, .i .i64 (aI .i64 k_171 1))]) [some (1, rows ci_i64 r4.need_), some (1, rows ci_i64 r4.price_), some (7, [[.ref 0 0 r4.need_.length, .ref 1 0 r4.price_.length, .i .i64 r4.most_, .i .i64 r4.yield_, .i .i64 r4.store_, .i .i64 r4.first_, .i .i64 r4.loss_]]), some (1, rows ci_i64 r6), some (1, rows ci_i64 r10.1.need_), some (1, rows ci_i64 r10.1.price_), some (7, [[.ref 4 0 r10.1.need_.length, .ref 5 0 r10.1.price_.length, .i .i64 r10.1.most_, .i .i64 r10.1.yield_, .i .i64 r10.1.store_, .i .i64 r10.1.first_, .i .i64 r10.1.loss_]]), some (1, rows ci_i64 r22.1), some (1, rows ci_i64 r24.1), some (1, rows ci_i64 r26.1), some (1, rows ci_i64 r28.1), some (1, rows ci_i64 r42.1), some (1, rows ci_i64 r46.1)] [] hC (vnext (r175.1, aI .i64 sum_169 (mI .i64 e181 e183), differs_170, aI .i64 k_171 1) (leafL h1) (Ent.tu 13)))
   exact VW.rA (tm 252 [(5, .ptr 2 0 0), (6, .ref 3 0 r6.length), (16, .ref 10 0 r28.1.length), (17, .i .i64 r28.2.1), (21, .ref 11 0 r42.1.length), (23, .i .i64 r44.1), (28, .i .i64 r175.1), (29, .i .i64 (aI .i64 sum_169 (mI .i64 e181 e183))), (30, .i .i64 (aI .i64 differs_170 1)), (31, .i .i64 k_171)]) [some (1, rows ci_i64 r4.need_), some (1, rows ci_i64 r4.price_), some (7, [[.ref 0 0 r4.need_.length, .ref 1 0 r4.price_.length, .i .i64 r4.most_, .i .i64 r4.yield_, .i .i64 r4.store_, .i .i64 r4.first_, .i .i64 r4.loss_]]), some (1, rows ci_i64 r6), some (1, rows ci_i64 r10.1.need_), some (1, rows ci_i64 r10.1.price_), some (7, [[.ref 4 0 r10.1.need_.length, .ref 5 0 r10.1.price_.length, .i .i64 r10.1.most_, .i .i64 r10.1.yield_, .i .i64 r10.1.store_, .i .i64 r10.1.first_, .i .i64 r10.1.loss_]]), some (1, rows ci_i64 r22.1), some (1, rows ci_i64 r24.1), some (1, rows ci_i64 r26.1), some (1, rows ci_i64 r28.1), some (1, rows ci_i64 r42.1), some (1, rows ci_i64 r46.1)] [] hC (VW.rA (tm 252 [(5, .ptr 2 0 0), (6, .ref 3 0 r6.length), (16, .ref 10 0 r28.1.length), (17, .i .i64 r28.2.1), (21, .ref 11 0 r42.1.length), (23, .i .i64 r44.1), (28, .i .i64 r175.1), (29, .i .i64 (aI .i64 sum_169 (mI .i64 e181 e183))), (30, .i .i64 (aI .i64 differs_170 1)), (31, .i .i64 (aI .i64 k_171 1))]) [some (1, rows ci_i64 r4.need_), some (1, rows ci_i64 r4.price_), some (7, [[.ref 0 0 r4.need_.length, .ref 1 0 r4.price_.length, .i .i64 r4.most_, .i .i64 r4.yield_, .i .i64 r4.store_, .i .i64 r4.first_, .i .i64 r4.loss_]]), some (1, rows ci_i64 r6), some (1, rows ci_i64 r10.1.need_), some (1, rows ci_i64 r10.1.price_), some (7, [[.ref 4 0 r10.1.need_.length, .ref 5 0 r10.1.price_.length, .i .i64 r10.1.most_, .i .i64 r10.1.yield_, .i .i64 r10.1.store_, .i .i64 r10.1.first_, .i .i64 r10.1.loss_]]), some (1, rows ci_i64 r22.1), some (1, rows ci_i64 r24.1), some (1, rows ci_i64 r26.1), some (1, rows ci_i64 r28.1), some (1, rows ci_i64 r42.1), some (1, rows ci_i64 r46.1)] [] hC (vnext (r175.1, aI .i64 sum_169 (mI .i64 e181 e183), aI .i64 differs_170 1, aI .i64 k_171 1) (leafL h1) (Ent.tu 13)))
 rintro ⟨sum_120, differs_121⟩ h
 replace h : (g9_j2 r4 r6 r44 r28 sum_120 differs_121).bind _ = _ := h
 rw [g9_j2] at h
 refine VW.seq ?_
 obtain ⟨r122, q123, h⟩ := bindE h
 have c123 := tl45 q123
 refine VW.rA (tm 252 [(17, .i .i64 r28.2.1), (23, .i .i64 r44.1), (29, .i .i64 sum_120), (30, .i .i64 differs_121), (35, .i .i64 r122.2)]) [some (1, rows ci_i64 r4.need_), some (1, rows ci_i64 r4.price_), some (7, [[.ref 0 0 r4.need_.length, .ref 1 0 r4.price_.length, .i .i64 r4.most_, .i .i64 r4.yield_, .i .i64 r4.store_, .i .i64 r4.first_, .i .i64 r4.loss_]]), some (1, rows ci_i64 r6), some (1, rows ci_i64 r10.1.need_), some (1, rows ci_i64 r10.1.price_), some (7, [[.ref 4 0 r10.1.need_.length, .ref 5 0 r10.1.price_.length, .i .i64 r10.1.most_, .i .i64 r10.1.yield_, .i .i64 r10.1.store_, .i .i64 r10.1.first_, .i .i64 r10.1.loss_]]), some (1, rows ci_i64 r22.1), some (1, rows ci_i64 r24.1), some (1, rows ci_i64 r26.1), some (1, rows ci_i64 r28.1), some (1, rows ci_i64 r42.1), some (1, rows ci_i64 r46.1)] [] hC (VW.seq (VW.rA (tm 252 [(4, .b ((eqI sum_120 r44.1 && eqI differs_121 r28.2.1) && ((eqI r122.2 0) == (eqI differs_121 0))))]) [some (1, rows ci_i64 r4.need_), some (1, rows ci_i64 r4.price_), some (7, [[.ref 0 0 r4.need_.length, .ref 1 0 r4.price_.length, .i .i64 r4.most_, .i .i64 r4.yield_, .i .i64 r4.store_, .i .i64 r4.first_, .i .i64 r4.loss_]]), some (1, rows ci_i64 r6), some (1, rows ci_i64 r10.1.need_), some (1, rows ci_i64 r10.1.price_), some (7, [[.ref 4 0 r10.1.need_.length, .ref 5 0 r10.1.price_.length, .i .i64 r10.1.most_, .i .i64 r10.1.yield_, .i .i64 r10.1.store_, .i .i64 r10.1.first_, .i .i64 r10.1.loss_]]), some (1, rows ci_i64 r22.1), some (1, rows ci_i64 r24.1), some (1, rows ci_i64 r26.1), some (1, rows ci_i64 r28.1), some (1, rows ci_i64 r42.1), some (1, rows ci_i64 r46.1)] [] hC ?_)) (h := by simp -implicitDefEqProofs [c123])
 obtain rfl := leafS h
 exact VW.ret (VRet.fin (by simp [eB9]))
theorem tl9 {code : List Int} {more_ : List Int} {r : Bool} (h : g9 code more_ = some r) : F9 [.sl 1 (rows ci_u8 code), .sl 1 (rows ci_u8 more_)] = some (.b r) := tells_eq inj9 (a := (code, more_)) h
end Go.Proofs.YtilkneilafpjiaaDoor
