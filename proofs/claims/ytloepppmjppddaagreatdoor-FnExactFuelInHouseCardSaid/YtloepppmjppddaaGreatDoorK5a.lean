/- Contracts of the functions that the law reaches: what each tells, as a function in Lean. -/
import Derived.Test.YtloepppmjppddaaGreatDoorK5Ty
import Derived.KernelRfl
namespace Go.Proofs.YtloepppmjppddaaGreatDoor
open Go.RowKit Go.VL
set_option linter.unusedSimpArgs false
set_option linter.unusedVariables false
set_option maxHeartbeats 40000000
set_option maxRecDepth 100000
noncomputable section
def g49 (a : List F32) (left : Int) : Option (Int) :=
if Zo (sI .i64 left (a.length : Int)) 0 = true then
some (-1)
else
some (sI .i64 left (a.length : Int))
@[simp] def eA49 (a : (List F32) × Int) : List V:=[.sl 1 (rows Zt a.1),.i .i64 a.2]
def eB49 (r : Int) : V:=.i .i64 r
theorem inj49 (a a' : (List F32) × Int) (h : eA49 a = eA49 a') : a = a':=by simpa [eA49,Prod.ext_iff] using h
def F49 : List V→Option V:=tells (fun a => g49 a.1 a.2) eA49 eB49
theorem ok49 : Zz Tryz.prog 49 F49:=by
 refine Zg 12 Tryz.func49 ?_
 rintro ⟨a,left⟩ r h
 replace h : (g49 a left).bind some = some r:=h
 rw [g49] at h
 have hC : Qc.Ok Tryz.prog []:=trivial
 refine VW.seq (Za [0,1] hC (q:=(VW.seq (Za [1] hC (q:=(VW.seq (VW.seq (Za [1,10] hC (q:=(Zd h (fun h => ?_) (fun h => ?_)))))))))))
 ·refine VW.seq (Za [4] hC (q:=?_))
  exact VW.ret (Zb h (by simp [eB49]))
 refine VW.skip (VW.seq (Za [4] hC (q:=?_)))
 exact VW.ret (Zb h (by simp [eB49]))
theorem tl49 {a : List F32} {left : Int} {r : Int} (h : g49 a left = some r) : F49 [.sl 1 (rows Zt a),.i .i64 left] = some (.i .i64 r):=Zf inj49 (a:=(a,left)) h
def g50 (a : List T131) (left : Int) : Option (Int) :=
if Zo (sI .i64 left (a.length : Int)) 0 = true then
some (-1)
else
some (sI .i64 left (a.length : Int))
@[simp] def eA50 (a : (List T131) × Int) : List V:=[.sl 8 (rows Yv a.1),.i .i64 a.2]
def eB50 (r : Int) : V:=.i .i64 r
theorem inj50 (a a' : (List T131) × Int) (h : eA50 a = eA50 a') : a = a':=by simpa [eA50,Prod.ext_iff] using h
def F50 : List V→Option V:=tells (fun a => g50 a.1 a.2) eA50 eB50
theorem ok50 : Zz Tryz.prog 50 F50:=by
 refine Zg 12 Tryz.func50 ?_
 rintro ⟨a,left⟩ r h
 replace h : (g50 a left).bind some = some r:=h
 rw [g50] at h
 have hC : Qc.Ok Tryz.prog []:=trivial
 refine VW.seq (Za [0,1] hC (q:=(VW.seq (Za [1] hC (q:=(VW.seq (VW.seq (Za [1,10] hC (q:=(Zd h (fun h => ?_) (fun h => ?_)))))))))))
 ·refine VW.seq (Za [4] hC (q:=?_))
  exact VW.ret (Zb h (by simp [eB50]))
 refine VW.skip (VW.seq (Za [4] hC (q:=?_)))
 exact VW.ret (Zb h (by simp [eB50]))
theorem tl50 {a : List T131} {left : Int} {r : Int} (h : g50 a left = some r) : F50 [.sl 8 (rows Yv a),.i .i64 left] = some (.i .i64 r):=Zf inj50 (a:=(a,left)) h
def g51 (a : List T134) (left : Int) : Option (Int) :=
if Zo (sI .i64 left (a.length : Int)) 0 = true then
some (-1)
else
some (sI .i64 left (a.length : Int))
@[simp] def eA51 (a : (List T134) × Int) : List V:=[.sl 4 (rows Yw a.1),.i .i64 a.2]
def eB51 (r : Int) : V:=.i .i64 r
theorem inj51 (a a' : (List T134) × Int) (h : eA51 a = eA51 a') : a = a':=by simpa [eA51,Prod.ext_iff] using h
def F51 : List V→Option V:=tells (fun a => g51 a.1 a.2) eA51 eB51
theorem ok51 : Zz Tryz.prog 51 F51:=by
 refine Zg 12 Tryz.func51 ?_
 rintro ⟨a,left⟩ r h
 replace h : (g51 a left).bind some = some r:=h
 rw [g51] at h
 have hC : Qc.Ok Tryz.prog []:=trivial
 refine VW.seq (Za [0,1] hC (q:=(VW.seq (Za [1] hC (q:=(VW.seq (VW.seq (Za [1,10] hC (q:=(Zd h (fun h => ?_) (fun h => ?_)))))))))))
 ·refine VW.seq (Za [4] hC (q:=?_))
  exact VW.ret (Zb h (by simp [eB51]))
 refine VW.skip (VW.seq (Za [4] hC (q:=?_)))
 exact VW.ret (Zb h (by simp [eB51]))
theorem tl51 {a : List T134} {left : Int} {r : Int} (h : g51 a left = some r) : F51 [.sl 4 (rows Yw a),.i .i64 left] = some (.i .i64 r):=Zf inj51 (a:=(a,left)) h
def g17 (a : T25) (left : Int) : Option (Int) :=
(g49 a.heat_ left).bind fun r1 =>
if Zo r1 0 = true then
some (-1)
else
(g49 a.store_ r1).bind fun r4 =>
if Zo r4 0 = true then
some (-1)
else
(g50 a.walls_ r4).bind fun r7 =>
if Zo r7 0 = true then
some (-1)
else
(g51 a.panes_ r7).bind fun r10 =>
if Zo r10 0 = true then
some (-1)
else
some r10
@[simp] def eA17 (a : T25 × Int) : List V:=[.agg (Wb a.1),.i .i64 a.2]
def eB17 (r : Int) : V:=.i .i64 r
theorem inj17 (a a' : T25 × Int) (h : eA17 a = eA17 a') : a = a':=by simpa [eA17,Prod.ext_iff] using h
def F17 : List V→Option V:=tells (fun a => g17 a.1 a.2) eA17 eB17
theorem ok17 : Zz Tryz.prog 17 F17:=by
 refine Zg 30 Tryz.func17 ?_
 rintro ⟨a,left⟩ r h
 replace h : (g17 a left).bind some = some r:=h
 rw [g17] at h
 have hC : Qc.Ok Tryz.prog [(49,F49),(50,F50),(51,F51)]:=⟨.inl ok49,.inl ok50,.inl ok51,trivial⟩
 refine VW.seq (Za [1,2] hC (q:=VW.seq ?_))
 obtain ⟨r1,q2,h⟩:=Zc h
 have c2:=tl49 q2
 refine Zj [1,2] hC (q:=(VW.seq (VW.seq (Za [1,2,10] hC (q:=(Zd h (fun h => ?_) (fun h => ?_)))))))
 ·refine VW.seq (Za [4] hC (q:=?_))
  exact VW.ret (Zb h (by simp [eB17]))
 refine VW.skip (VW.seq ?_)
 obtain ⟨r4,q5,h⟩:=Zc h
 have c5:=tl49 q5
 refine Zj [1,2] hC (q:=(VW.seq (VW.seq (Za [1,2,16] hC (q:=(Zd h (fun h => ?_) (fun h => ?_)))))))
 ·refine VW.seq (Za [4] hC (q:=?_))
  exact VW.ret (Zb h (by simp [eB17]))
 refine VW.skip (VW.seq ?_)
 obtain ⟨r7,q8,h⟩:=Zc h
 have c8:=tl50 q8
 refine Zj [1,2] hC (q:=(VW.seq (VW.seq (Za [1,2,22] hC (q:=(Zd h (fun h => ?_) (fun h => ?_)))))))
 ·refine VW.seq (Za [4] hC (q:=?_))
  exact VW.ret (Zb h (by simp [eB17]))
 refine VW.skip (VW.seq ?_)
 obtain ⟨r10,q11,h⟩:=Zc h
 have c11:=tl51 q11
 refine Zj [1] hC (q:=(VW.seq (VW.seq (Za [1,28] hC (q:=(Zd h (fun h => ?_) (fun h => ?_)))))))
 ·refine VW.seq (Za [4] hC (q:=?_))
  exact VW.ret (Zb h (by simp [eB17]))
 refine VW.skip (VW.seq (Za [4] hC (q:=?_)))
 exact VW.ret (Zb h (by simp [eB17]))
theorem tl17 {a : T25} {left : Int} {r : Int} (h : g17 a left = some r) : F17 [.agg [.sl 1 (rows Zt a.heat_),.sl 1 (rows Zt a.store_),.sl 8 (rows Yv a.walls_),.sl 4 (rows Yw a.panes_)],.i .i64 left] = some (.i .i64 r):=Zf inj17 (a:=(a,left)) h
def g18 (a : List T32) (left : Int) : Option (Int) :=
if Zo (sI .i64 left (a.length : Int)) 0 = true then
some (-1)
else
some (sI .i64 left (a.length : Int))
@[simp] def eA18 (a : (List T32) × Int) : List V:=[.sl 5 (rows Xw a.1),.i .i64 a.2]
def eB18 (r : Int) : V:=.i .i64 r
theorem inj18 (a a' : (List T32) × Int) (h : eA18 a = eA18 a') : a = a':=by simpa [eA18,Prod.ext_iff] using h
def F18 : List V→Option V:=tells (fun a => g18 a.1 a.2) eA18 eB18
theorem ok18 : Zz Tryz.prog 18 F18:=by
 refine Zg 12 Tryz.func18 ?_
 rintro ⟨a,left⟩ r h
 replace h : (g18 a left).bind some = some r:=h
 rw [g18] at h
 have hC : Qc.Ok Tryz.prog []:=trivial
 refine VW.seq (Za [0,1] hC (q:=(VW.seq (Za [1] hC (q:=(VW.seq (VW.seq (Za [1,10] hC (q:=(Zd h (fun h => ?_) (fun h => ?_)))))))))))
 ·refine VW.seq (Za [4] hC (q:=?_))
  exact VW.ret (Zb h (by simp [eB18]))
 refine VW.skip (VW.seq (Za [4] hC (q:=?_)))
 exact VW.ret (Zb h (by simp [eB18]))
theorem tl18 {a : List T32} {left : Int} {r : Int} (h : g18 a left = some r) : F18 [.sl 5 (rows Xw a),.i .i64 left] = some (.i .i64 r):=Zf inj18 (a:=(a,left)) h
def g125 (a : List T149) (left : Int) : Option (Int) :=
if Zo (sI .i64 left (a.length : Int)) 0 = true then
some (-1)
else
some (sI .i64 left (a.length : Int))
@[simp] def eA125 (a : (List T149) × Int) : List V:=[.sl 18 (rows Yk a.1),.i .i64 a.2]
def eB125 (r : Int) : V:=.i .i64 r
theorem inj125 (a a' : (List T149) × Int) (h : eA125 a = eA125 a') : a = a':=by simpa [eA125,Prod.ext_iff] using h
def F125 : List V→Option V:=tells (fun a => g125 a.1 a.2) eA125 eB125
theorem ok125 : Zz Tryz.prog 125 F125:=by
 refine Zg 12 Tryz.func125 ?_
 rintro ⟨a,left⟩ r h
 replace h : (g125 a left).bind some = some r:=h
 rw [g125] at h
 have hC : Qc.Ok Tryz.prog []:=trivial
 refine VW.seq (Za [0,1] hC (q:=(VW.seq (Za [1] hC (q:=(VW.seq (VW.seq (Za [1,10] hC (q:=(Zd h (fun h => ?_) (fun h => ?_)))))))))))
 ·refine VW.seq (Za [4] hC (q:=?_))
  exact VW.ret (Zb h (by simp [eB125]))
 refine VW.skip (VW.seq (Za [4] hC (q:=?_)))
 exact VW.ret (Zb h (by simp [eB125]))
theorem tl125 {a : List T149} {left : Int} {r : Int} (h : g125 a left = some r) : F125 [.sl 18 (rows Yk a),.i .i64 left] = some (.i .i64 r):=Zf inj125 (a:=(a,left)) h
def g94 (a : T85) (left : Int) : Option (Int) :=
(g125 a.logs_ left).bind fun r1 =>
if Zo r1 0 = true then
some (-1)
else
some r1
@[simp] def eA94 (a : T85 × Int) : List V:=[.agg (Xx a.1),.i .i64 a.2]
def eB94 (r : Int) : V:=.i .i64 r
theorem inj94 (a a' : T85 × Int) (h : eA94 a = eA94 a') : a = a':=by simpa [eA94,Prod.ext_iff] using h
def F94 : List V→Option V:=tells (fun a => g94 a.1 a.2) eA94 eB94
theorem ok94 : Zz Tryz.prog 94 F94:=by
 refine Zg 12 Tryz.func94 ?_
 rintro ⟨a,left⟩ r h
 replace h : (g94 a left).bind some = some r:=h
 rw [g94] at h
 have hC : Qc.Ok Tryz.prog [(125,F125)]:=⟨.inl ok125,trivial⟩
 refine VW.seq (Za [1,2] hC (q:=VW.seq ?_))
 obtain ⟨r1,q2,h⟩:=Zc h
 have c2:=tl125 q2
 refine Zj [1] hC (q:=(VW.seq (VW.seq (Za [1,10] hC (q:=(Zd h (fun h => ?_) (fun h => ?_)))))))
 ·refine VW.seq (Za [4] hC (q:=?_))
  exact VW.ret (Zb h (by simp [eB94]))
 refine VW.skip (VW.seq (Za [4] hC (q:=?_)))
 exact VW.ret (Zb h (by simp [eB94]))
theorem tl94 {a : T85} {left : Int} {r : Int} (h : g94 a left = some r) : F94 [.agg [.sl 18 (rows Yk a.logs_),.f .f32 a.box_,.f .f32 a.damper_,.i .i8 a.state_,.i .i64 a.ash_,.f .f32 a.dust_],.i .i64 left] = some (.i .i64 r):=Zf inj94 (a:=(a,left)) h
def g52 (a : T87) (left : Int) : Option (Int) :=
(g94 a.stove_ left).bind fun r1 =>
if Zo r1 0 = true then
some (-1)
else
some r1
@[simp] def eA52 (a : T87 × Int) : List V:=[.agg (Wk a.1),.i .i64 a.2]
def eB52 (r : Int) : V:=.i .i64 r
theorem inj52 (a a' : T87 × Int) (h : eA52 a = eA52 a') : a = a':=by simpa [eA52,Prod.ext_iff] using h
def F52 : List V→Option V:=tells (fun a => g52 a.1 a.2) eA52 eB52
theorem ok52 : Zz Tryz.prog 52 F52:=by
 refine Zg 12 Tryz.func52 ?_
 rintro ⟨a,left⟩ r h
 replace h : (g52 a left).bind some = some r:=h
 rw [g52] at h
 have hC : Qc.Ok Tryz.prog [(94,F94)]:=⟨.inl ok94,trivial⟩
 refine VW.seq (Za [1,2] hC (q:=VW.seq ?_))
 obtain ⟨r1,q2,h⟩:=Zc h
 have c2:=tl94 q2
 refine Zj [1] hC (q:=(VW.seq (VW.seq (Za [1,10] hC (q:=(Zd h (fun h => ?_) (fun h => ?_)))))))
 ·refine VW.seq (Za [4] hC (q:=?_))
  exact VW.ret (Zb h (by simp [eB52]))
 refine VW.skip (VW.seq (Za [4] hC (q:=?_)))
 exact VW.ret (Zb h (by simp [eB52]))
theorem tl52 {a : T87} {left : Int} {r : Int} (h : g52 a left = some r) : F52 [.agg [.i .i64 a.room_,.i .i64 a.flue_,.i .i64 a.brain_,.sl 18 (rows Yk a.stove_.logs_),.f .f32 a.stove_.box_,.f .f32 a.stove_.damper_,.i .i8 a.stove_.state_,.i .i64 a.stove_.ash_,.f .f32 a.stove_.dust_],.i .i64 left] = some (.i .i64 r):=Zf inj52 (a:=(a,left)) h
def g19_j1 (left_24 : Int) : Option (Int) :=
some left_24
def g19_L1 (a : List T87) : (Int × Int)→Option ((Int × Int) ⊕ ((Int) ⊕ (Int)))
| (left_39,i_40) =>
if Zo i_40 (a.length : Int) = true then
(Wp a i_40).bind fun e42 =>
(g52 e42 left_39).bind fun r44 =>
if Zo r44 0 = true then
some (.inr (.inr (-1)))
else
some (.inl (r44,aI .i64 i_40 1))
else
some (.inr (.inl left_39))
def g19 (a : List T87) (left : Int) : Option (Int) :=
if Zo (sI .i64 left (a.length : Int)) 0 = true then
some (-1)
else
(loopO (g19_L1 a) (sI .i64 left (a.length : Int),0)).bind fun w => match w with
| .inl y => g19_j1 y
| .inr r => some r
@[simp] def eA19 (a : (List T87) × Int) : List V:=[.sl 9 (rows Wa a.1),.i .i64 a.2]
def eB19 (r : Int) : V:=.i .i64 r
theorem inj19 (a a' : (List T87) × Int) (h : eA19 a = eA19 a') : a = a':=by simpa [eA19,Prod.ext_iff] using h
def F19 : List V→Option V:=tells (fun a => g19 a.1 a.2) eA19 eB19
theorem ok19 : Zz Tryz.prog 19 F19:=by
 refine Zg 27 Tryz.func19 ?_
 rintro ⟨a,left⟩ r h
 replace h : (g19 a left).bind some = some r:=h
 rw [g19] at h
 have hC : Qc.Ok Tryz.prog [(52,F52)]:=⟨.inl ok52,trivial⟩
 refine VW.seq (Za [0,1] hC (q:=(VW.seq (Za [0,1] hC (q:=(VW.seq (VW.seq (Za [0,1,11] hC (q:=(Zd h (fun h => ?_) (fun h => ?_)))))))))))
 ·refine VW.seq (Za [4] hC (q:=?_))
  exact VW.ret (Zb h (by simp [eB19]))
 refine VW.skip (VW.join (fun (v : Int) => (⟨(tm 27 [(1,.i .i64 v)]),[],[]⟩ : VS)) (fun v => (g19_j1 (v)).bind some = some r) ?_ ?_)
 ·refine VW.seq (Za [0,1,5] hC (q:=VW.block ?_))
  obtain ⟨w_1,hw_1,h⟩:=Zc h
  refine VW.loopO (fun (x : Int × Int) => (⟨(tm 27 [(0,.sl 9 (rows Wa a)),(1,.i .i64 x.1),(5,.i .i64 x.2)]),[],[]⟩ : VS)) hw_1 (Ze 0) ?_
  rintro n_1 ⟨left_39,i_40⟩ h1
  rw [g19_L1] at h1
  refine VW.seq (VW.seq (Za [0,1,5,15] hC (q:=(Zk h1 (fun h1 => ?_) (fun h1 => ?_)))))
  ·refine VW.exit ?_
   have e_:=Yd h1
   subst w_1
   exact Zn left_39 h (Ze 0)
  refine VW.skip (VW.seq (VW.block (VW.seq ?_)))
  obtain ⟨e42,⟨f43a,f43b,f43c,f43d⟩,h1⟩:=Ys h1
  obtain ⟨r44,q45,h1⟩:=Zc h1
  have c45:=tl52 q45
  refine Zj [0,1,5] hC (q:=(VW.seq (Za [0,1,5,25] hC (q:=(Zd h1 (fun h1 => ?_) (fun h1 => ?_))))))
  ·refine VW.seq (Za [4] hC (q:=?_))
   have e_:=Yd h1
   subst w_1
   exact VW.ret (Zb h (by simp [eB19]))
  exact VW.skip (Za [0,1,5] hC (q:=(Zn (r44,aI .i64 i_40 1) (Yr h1) (Ze 0))))
 rintro left_24 h
 replace h : (g19_j1 left_24).bind _ = _:=h
 rw [g19_j1] at h
 refine VW.seq (Za [4] hC (q:=?_))
 exact VW.ret (Zb h (by simp [eB19]))
theorem tl19 {a : List T87} {left : Int} {r : Int} (h : g19 a left = some r) : F19 [.sl 9 (rows Wa a),.i .i64 left] = some (.i .i64 r):=Zf inj19 (a:=(a,left)) h
def g20_j1 (left_18 : Int) : Option (Int) :=
some left_18
def g20_L1 (a : List ByteArray) : (Int × Int)→Option ((Int × Int) ⊕ ((Int) ⊕ (Int)))
| (left_29,i_30) =>
if Zo i_30 (a.length : Int) = true then
(Wp a i_30).bind fun e32 =>
if Zo (sI .i64 left_29 (e32.size : Int)) 0 = true then
some (.inr (.inr (-1)))
else
some (.inl (sI .i64 left_29 (e32.size : Int),aI .i64 i_30 1))
else
some (.inr (.inl left_29))
def g20 (a : List ByteArray) (left : Int) : Option (Int) :=
if Zo (sI .i64 left (a.length : Int)) 0 = true then
some (-1)
else
(loopO (g20_L1 a) (sI .i64 left (a.length : Int),0)).bind fun w => match w with
| .inl y => g20_j1 y
| .inr r => some r
@[simp] def eA20 (a : (List ByteArray) × Int) : List V:=[.sl 1 (rows Yu a.1),.i .i64 a.2]
def eB20 (r : Int) : V:=.i .i64 r
theorem inj20 (a a' : (List ByteArray) × Int) (h : eA20 a = eA20 a') : a = a':=by simpa [eA20,Prod.ext_iff] using h
def F20 : List V→Option V:=tells (fun a => g20 a.1 a.2) eA20 eB20
theorem ok20 : Zz Tryz.prog 20 F20:=by
 refine Zg 28 Tryz.func20 ?_
 rintro ⟨a,left⟩ r h
 replace h : (g20 a left).bind some = some r:=h
 rw [g20] at h
 have hC : Qc.Ok Tryz.prog []:=trivial
 refine VW.seq (Za [0,1] hC (q:=(VW.seq (Za [0,1] hC (q:=(VW.seq (VW.seq (Za [0,1,11] hC (q:=(Zd h (fun h => ?_) (fun h => ?_)))))))))))
 ·refine VW.seq (Za [4] hC (q:=?_))
  exact VW.ret (Zb h (by simp [eB20]))
 refine VW.skip (VW.join (fun (v : Int) => (⟨(tm 28 [(1,.i .i64 v)]),[],[]⟩ : VS)) (fun v => (g20_j1 (v)).bind some = some r) ?_ ?_)
 ·refine VW.seq (Za [0,1,5] hC (q:=VW.block ?_))
  obtain ⟨w_1,hw_1,h⟩:=Zc h
  refine VW.loopO (fun (x : Int × Int) => (⟨(tm 28 [(0,.sl 1 (rows Yu a)),(1,.i .i64 x.1),(5,.i .i64 x.2)]),[],[]⟩ : VS)) hw_1 (Ze 0) ?_
  rintro n_1 ⟨left_29,i_30⟩ h1
  rw [g20_L1] at h1
  refine VW.seq (VW.seq (Za [0,1,5,15] hC (q:=(Zk h1 (fun h1 => ?_) (fun h1 => ?_)))))
  ·refine VW.exit ?_
   have e_:=Yd h1
   subst w_1
   exact Zn left_29 h (Ze 0)
  refine VW.skip (VW.seq (VW.block (VW.seq ?_)))
  obtain ⟨e32,⟨f33a,f33b,f33c,f33d⟩,h1⟩:=Ys h1
  refine Zj [0,1,5] hC (q:=(VW.seq (Za [0,1,5,26] hC (q:=(Zd h1 (fun h1 => ?_) (fun h1 => ?_))))))
  ·refine VW.seq (Za [4] hC (q:=?_))
   have e_:=Yd h1
   subst w_1
   exact VW.ret (Zb h (by simp [eB20]))
  exact VW.skip (Za [0,1,5] hC (q:=(Zn (sI .i64 left_29 (e32.size : Int),aI .i64 i_30 1) (Yr h1) (Ze 0))))
 rintro left_18 h
 replace h : (g20_j1 left_18).bind _ = _:=h
 rw [g20_j1] at h
 refine VW.seq (Za [4] hC (q:=?_))
 exact VW.ret (Zb h (by simp [eB20]))
theorem tl20 {a : List ByteArray} {left : Int} {r : Int} (h : g20 a left = some r) : F20 [.sl 1 (rows Yu a),.i .i64 left] = some (.i .i64 r):=Zf inj20 (a:=(a,left)) h
def g21 (a : List T51) (left : Int) : Option (Int) :=
if Zo (sI .i64 left (a.length : Int)) 0 = true then
some (-1)
else
some (sI .i64 left (a.length : Int))
@[simp] def eA21 (a : (List T51) × Int) : List V:=[.sl 3 (rows Wq a.1),.i .i64 a.2]
def eB21 (r : Int) : V:=.i .i64 r
theorem inj21 (a a' : (List T51) × Int) (h : eA21 a = eA21 a') : a = a':=by simpa [eA21,Prod.ext_iff] using h
def F21 : List V→Option V:=tells (fun a => g21 a.1 a.2) eA21 eB21
theorem ok21 : Zz Tryz.prog 21 F21:=by
 refine Zg 12 Tryz.func21 ?_
 rintro ⟨a,left⟩ r h
 replace h : (g21 a left).bind some = some r:=h
 rw [g21] at h
 have hC : Qc.Ok Tryz.prog []:=trivial
 refine VW.seq (Za [0,1] hC (q:=(VW.seq (Za [1] hC (q:=(VW.seq (VW.seq (Za [1,10] hC (q:=(Zd h (fun h => ?_) (fun h => ?_)))))))))))
 ·refine VW.seq (Za [4] hC (q:=?_))
  exact VW.ret (Zb h (by simp [eB21]))
 refine VW.skip (VW.seq (Za [4] hC (q:=?_)))
 exact VW.ret (Zb h (by simp [eB21]))
theorem tl21 {a : List T51} {left : Int} {r : Int} (h : g21 a left = some r) : F21 [.sl 3 (rows Wq a),.i .i64 left] = some (.i .i64 r):=Zf inj21 (a:=(a,left)) h
def g6 (a : T34) (left : Int) : Option (Int) :=
(g17 a.flat_ left).bind fun r1 =>
if Zo r1 0 = true then
some (-1)
else
(g18 a.chimney_ r1).bind fun r4 =>
if Zo r4 0 = true then
some (-1)
else
(g19 a.hearths_ r4).bind fun r7 =>
if Zo r7 0 = true then
some (-1)
else
(g20 a.sources_ r7).bind fun r10 =>
if Zo r10 0 = true then
some (-1)
else
(g21 a.hours_ r10).bind fun r13 =>
if Zo r13 0 = true then
some (-1)
else
some r13
@[simp] def eA6 (a : T34 × Int) : List V:=[.agg (Yj a.1),.i .i64 a.2]
def eB6 (r : Int) : V:=.i .i64 r
theorem inj6 (a a' : T34 × Int) (h : eA6 a = eA6 a') : a = a':=by simpa [eA6,Prod.ext_iff] using h
def F6 : List V→Option V:=tells (fun a => g6 a.1 a.2) eA6 eB6
theorem ok6 : Zz Tryz.prog 6 F6:=by
 refine Zg 36 Tryz.func6 ?_
 rintro ⟨a,left⟩ r h
 replace h : (g6 a left).bind some = some r:=h
 rw [g6] at h
 have hC : Qc.Ok Tryz.prog [(17,F17),(18,F18),(19,F19),(20,F20),(21,F21)]:=⟨.inl ok17,.inl ok18,.inl ok19,.inl ok20,.inl ok21,trivial⟩
 refine VW.seq (Za [1,2] hC (q:=VW.seq ?_))
 obtain ⟨r1,q2,h⟩:=Zc h
 have c2:=tl17 q2
 refine Zj [1,2] hC (q:=(VW.seq (VW.seq (Za [1,2,10] hC (q:=(Zd h (fun h => ?_) (fun h => ?_)))))))
 ·refine VW.seq (Za [4] hC (q:=?_))
  exact VW.ret (Zb h (by simp [eB6]))
 refine VW.skip (VW.seq ?_)
 obtain ⟨r4,q5,h⟩:=Zc h
 have c5:=tl18 q5
 refine Zj [1,2] hC (q:=(VW.seq (VW.seq (Za [1,2,16] hC (q:=(Zd h (fun h => ?_) (fun h => ?_)))))))
 ·refine VW.seq (Za [4] hC (q:=?_))
  exact VW.ret (Zb h (by simp [eB6]))
 refine VW.skip (VW.seq ?_)
 obtain ⟨r7,q8,h⟩:=Zc h
 have c8:=tl19 q8
 refine Zj [1,2] hC (q:=(VW.seq (VW.seq (Za [1,2,22] hC (q:=(Zd h (fun h => ?_) (fun h => ?_)))))))
 ·refine VW.seq (Za [4] hC (q:=?_))
  exact VW.ret (Zb h (by simp [eB6]))
 refine VW.skip (VW.seq ?_)
 obtain ⟨r10,q11,h⟩:=Zc h
 have c11:=tl20 q11
 refine Zj [1,2] hC (q:=(VW.seq (VW.seq (Za [1,2,28] hC (q:=(Zd h (fun h => ?_) (fun h => ?_)))))))
 ·refine VW.seq (Za [4] hC (q:=?_))
  exact VW.ret (Zb h (by simp [eB6]))
 refine VW.skip (VW.seq ?_)
 obtain ⟨r13,q14,h⟩:=Zc h
 have c14:=tl21 q14
 refine Zj [1] hC (q:=(VW.seq (VW.seq (Za [1,34] hC (q:=(Zd h (fun h => ?_) (fun h => ?_)))))))
 ·refine VW.seq (Za [4] hC (q:=?_))
  exact VW.ret (Zb h (by simp [eB6]))
 refine VW.skip (VW.seq (Za [4] hC (q:=?_)))
 exact VW.ret (Zb h (by simp [eB6]))
def g55 (n : Int) (low : Int) (high : Int) : Option (Bool) :=
some (Xa low n && Xa n high)
@[simp] def eA55 (a : Int × Int × Int) : List V:=[.i .i64 a.1,.i .i64 a.2.1,.i .i64 a.2.2]
def eB55 (r : Bool) : V:=.b r
theorem inj55 (a a' : Int × Int × Int) (h : eA55 a = eA55 a') : a = a':=by simpa [eA55,Prod.ext_iff] using h
def F55 : List V→Option V:=tells (fun a => g55 a.1 a.2.1 a.2.2) eA55 eB55
theorem ok55 : Zz Tryz.prog 55 F55:=by
 refine Zg 15 Tryz.func55 ?_
 rintro ⟨n,low,high⟩ r h
 replace h : (g55 n low high).bind some = some r:=h
 rw [g55] at h
 have hC : Qc.Ok Tryz.prog []:=trivial
 refine VW.seq (Za [0,1,2] hC (q:=(VW.seq (Za [6] hC (q:=?_)))))
 exact VW.ret (Zb h (by simp [eB55]))
theorem tl55 {n : Int} {low : Int} {high : Int} {r : Bool} (h : g55 n low high = some r) : F55 [.i .i64 n,.i .i64 low,.i .i64 high] = some (.b r):=Zf inj55 (a:=(n,low,high)) h
def g95 (a : F32) : Option (Bool) :=
some (Ka .f32 a (some 3262119936) && Qa .f32 a (some 1128792064))
@[simp] def eA95 (a : F32) : List V:=[.f .f32 a]
def eB95 (r : Bool) : V:=.b r
theorem inj95 (a a' : F32) (h : eA95 a = eA95 a') : a = a':=by simpa [eA95,Prod.ext_iff] using h
def F95 : List V→Option V:=tells (fun a => g95 a) eA95 eB95
theorem ok95 : Zz Tryz.prog 95 F95:=by
 refine Zg 9 Tryz.func95 ?_
 rintro a r h
 rw [g95] at h
 have hC : Qc.Ok Tryz.prog []:=trivial
 refine VW.seq (Za [0] hC (q:=(VW.seq (Za [2] hC (q:=?_)))))
 exact VW.ret (Zb h (by simp [eB95]))
theorem tl95 {a : F32} {r : Bool} (h : g95 a = some r) : F95 [.f .f32 a] = some (.b r):=Zf inj95 (a:=a) h
def g92 (a : F32) : Option (Bool) :=
some (eqF .f32 (subF .f32 a a) (some 0))
@[simp] def eA92 (a : F32) : List V:=[.f .f32 a]
def eB92 (r : Bool) : V:=.b r
theorem inj92 (a a' : F32) (h : eA92 a = eA92 a') : a = a':=by simpa [eA92,Prod.ext_iff] using h
def F92 : List V→Option V:=tells (fun a => g92 a) eA92 eB92
theorem ok92 : Zz Tryz.prog 92 F92:=by
 refine Zg 7 Tryz.func92 ?_
 rintro a r h
 rw [g92] at h
 have hC : Qc.Ok Tryz.prog []:=trivial
 refine VW.seq (Za [0] hC (q:=(VW.seq (Za [2] hC (q:=?_)))))
 exact VW.ret (Zb h (by simp [eB92]))
theorem tl92 {a : F32} {r : Bool} (h : g92 a = some r) : F92 [.f .f32 a] = some (.b r):=Zf inj92 (a:=a) h
def g100 (a : F32) : Option (Bool) :=
(g92 a).bind fun r1 =>
(if r1 = true then (if gtF .f32 a (some 0) = true then some true else (f32bits a).bind fun z3 => some (Yx z3 0)).bind fun w5 => some w5 else some false).bind fun w6 =>
some w6
@[simp] def eA100 (a : F32) : List V:=[.f .f32 a]
def eB100 (r : Bool) : V:=.b r
theorem inj100 (a a' : F32) (h : eA100 a = eA100 a') : a = a':=by simpa [eA100,Prod.ext_iff] using h
def F100 : List V→Option V:=tells (fun a => g100 a) eA100 eB100
theorem ok100 : Zz Tryz.prog 100 F100:=by
 refine Zg 14 Tryz.func100 ?_
 rintro a r h
 rw [g100] at h
 have hC : Qc.Ok Tryz.prog [(92,F92),(108,Gt)]:=⟨.inl ok92,.inr okx108,trivial⟩
 refine VW.seq (Za [0] hC (q:=VW.seq ?_))
 obtain ⟨r1,q2,h⟩:=Zc h
 have c2:=tl92 q2
 obtain ⟨w6,q7,h⟩:=Zc h
 refine Yg (tm 14 [(2,.b w6)]) [] [] hC (by kernel_rfl) (by
   obtain ⟨q8,q7⟩ | ⟨q8,rfl⟩:=Ux q7
   ·obtain ⟨w5,q9,q7⟩:=Yb q7
    obtain rfl:=Option.some.inj q7
    obtain ⟨q10,q9⟩ | ⟨q10,rfl⟩:=Uh q9
    ·obtain ⟨z3,q4,q9⟩:=Yb q9
     have c4:=f32bits_F q4
     obtain rfl:=Option.some.inj q9
     simp -implicitDefEqProofs [c2,q8,q10,c4]
    simp -implicitDefEqProofs [c2,q8,q10]
   simp -implicitDefEqProofs [c2,q8]) ?_
 exact VW.ret (Zb h (by simp [eB100]))
theorem tl100 {a : F32} {r : Bool} (h : g100 a = some r) : F100 [.f .f32 a] = some (.b r):=Zf inj100 (a:=a) h
def g96 (a : F32) : Option (Bool) :=
(g100 a).bind fun r1 =>
some ((r1 && Ka .f32 a (some 1065353216)) && Qa .f32 a (some 1176256512))
@[simp] def eA96 (a : F32) : List V:=[.f .f32 a]
def eB96 (r : Bool) : V:=.b r
theorem inj96 (a a' : F32) (h : eA96 a = eA96 a') : a = a':=by simpa [eA96,Prod.ext_iff] using h
def F96 : List V→Option V:=tells (fun a => g96 a) eA96 eB96
theorem ok96 : Zz Tryz.prog 96 F96:=by
 refine Zg 13 Tryz.func96 ?_
 rintro a r h
 rw [g96] at h
 have hC : Qc.Ok Tryz.prog [(100,F100)]:=⟨.inl ok100,trivial⟩
 refine VW.seq (Za [0] hC (q:=VW.seq ?_))
 obtain ⟨r1,q2,h⟩:=Zc h
 have c2:=tl100 q2
 refine Zj [2] hC (q:=?_)
 exact VW.ret (Zb h (by simp [eB96]))
theorem tl96 {a : F32} {r : Bool} (h : g96 a = some r) : F96 [.f .f32 a] = some (.b r):=Zf inj96 (a:=a) h
def g126 (a : Int) (b : Int) (rooms : Int) : Option (Bool) :=
(g55 a 0 (sI .i64 rooms 1)).bind fun r1 =>
(if r1 = true then (g55 b (-1) (sI .i64 rooms 1)).bind fun r3 => some r3 else some false).bind fun w5 =>
some (w5 && (!Yx a b))
@[simp] def eA126 (a : Int × Int × Int) : List V:=[.i .i64 a.1,.i .i64 a.2.1,.i .i64 a.2.2]
def eB126 (r : Bool) : V:=.b r
theorem inj126 (a a' : Int × Int × Int) (h : eA126 a = eA126 a') : a = a':=by simpa [eA126,Prod.ext_iff] using h
def F126 : List V→Option V:=tells (fun a => g126 a.1 a.2.1 a.2.2) eA126 eB126
theorem ok126 : Zz Tryz.prog 126 F126:=by
 refine Zg 22 Tryz.func126 ?_
 rintro ⟨a,b,rooms⟩ r h
 replace h : (g126 a b rooms).bind some = some r:=h
 rw [g126] at h
 have hC : Qc.Ok Tryz.prog [(55,F55)]:=⟨.inl ok55,trivial⟩
 refine VW.seq (Za [0,1,2] hC (q:=VW.seq ?_))
 obtain ⟨r1,q2,h⟩:=Zc h
 have c2:=tl55 q2
 obtain ⟨w5,q6,h⟩:=Zc h
 refine Yg (tm 22 [(6,.b (w5 && (!Yx a b)))]) [] [] hC (by kernel_rfl) (by
   obtain ⟨q7,q6⟩ | ⟨q7,rfl⟩:=Ux q6
   ·obtain ⟨r3,q4,q6⟩:=Yb q6
    have c4:=tl55 q4
    obtain rfl:=Option.some.inj q6
    simp -implicitDefEqProofs [c2,q7,c4]
   simp -implicitDefEqProofs [c2,q7]) ?_
 exact VW.ret (Zb h (by simp [eB126]))
theorem tl126 {a : Int} {b : Int} {rooms : Int} {r : Bool} (h : g126 a b rooms = some r) : F126 [.i .i64 a,.i .i64 b,.i .i64 rooms] = some (.b r):=Zf inj126 (a:=(a,b,rooms)) h
def g97_j1 (w_ : T131) (rooms : Int) : Option (Bool) :=
(g126 w_.a_ w_.b_ rooms).bind fun r13 =>
(if r13 = true then (g100 w_.lead_).bind fun r15 => some r15 else some false).bind fun w17 =>
(if ((w17 && Ka .f32 w_.lead_ (some 1015021568)) && Qa .f32 w_.lead_ (some 1120403456)) = true then (g96 w_.store_).bind fun r18 => some r18 else some false).bind fun w20 =>
some w20
def g97 (w_ : T131) (rooms : Int) : Option (Bool) :=
(g95 w_.heat_.a0_).bind fun r26 =>
if (!r26) = true then
some false
else
(g95 w_.heat_.a1_).bind fun r29 =>
if (!r29) = true then
some false
else
(g95 w_.heat_.a2_).bind fun r32 =>
if (!r32) = true then
some false
else
(g95 w_.heat_.a3_).bind fun r35 =>
if (!r35) = true then
some false
else
g97_j1 w_ rooms
@[simp] def eA97 (a : T131 × Int) : List V:=[.cptr (Xg a.1) 0,.i .i64 a.2]
def eB97 (r : Bool) : V:=.b r
theorem inj97 (a a' : T131 × Int) (h : eA97 a = eA97 a') : a = a':=by simpa [eA97,Prod.ext_iff] using h
def F97 : List V→Option V:=tells (fun a => g97 a.1 a.2) eA97 eB97
theorem ok97 : Zz Tryz.prog 97 F97:=by
 refine Zg 56 Tryz.func97 ?_
 rintro ⟨w_,rooms⟩ r h
 replace h : (g97 w_ rooms).bind some = some r:=h
 rw [g97] at h
 have hC : Qc.Ok Tryz.prog [(95,F95),(96,F96),(100,F100),(126,F126)]:=⟨.inl ok95,.inl ok96,.inl ok100,.inl ok126,trivial⟩
 refine VW.seq (Za [0,1] hC (q:=(VW.join (fun (v : Unit) => (⟨(tm 56 [(0,.cptr (Xg w_) 0),(1,.i .i64 rooms)]),[],[]⟩ : VS)) (fun v => (g97_j1 w_ rooms).bind some = some r) ?_ ?_)))
 ·refine VW.seq (Za [0,1,5] hC (q:=(VW.block (VW.rounds 6 (VRounds.step (VW.seq (VW.seq (Za [0,1,5,7] hC (h:=by simp -implicitDefEqProofs [(by decide : Zo 0 4 = true)]; exact .rfl) (q:=(Ye (by simp) (VW.skip (VW.seq (VW.block (VW.seq ?_))))))))))))))
  obtain ⟨r26,q27,h⟩:=Zc h
  have c27:=tl95 q27
  refine Za [0,1,5,17] hC (h:=by simp -implicitDefEqProofs [c27]; exact .rfl) (q:=(Zd h (fun h => ?_) (fun h => ?_)))
  ·refine VW.seq (Za [4] hC (q:=?_))
   exact VW.ret (Zb h (by simp [eB97]))
  refine VW.skip (Za [0,1,5] hC (h:=by simp -implicitDefEqProofs [(by decide : aI .i64 0 1 = 1)]; exact .rfl) (q:=(VRounds.step (VW.seq (VW.seq (Za [0,1,5,7] hC (h:=by simp -implicitDefEqProofs [(by decide : Zo 1 4 = true)]; exact .rfl) (q:=(Ye (by simp) (VW.skip (VW.seq (VW.block (VW.seq ?_))))))))))))
  obtain ⟨r29,q30,h⟩:=Zc h
  have c30:=tl95 q30
  refine Za [0,1,5,17] hC (h:=by simp -implicitDefEqProofs [c30]; exact .rfl) (q:=(Zd h (fun h => ?_) (fun h => ?_)))
  ·refine VW.seq (Za [4] hC (q:=?_))
   exact VW.ret (Zb h (by simp [eB97]))
  refine VW.skip (Za [0,1,5] hC (h:=by simp -implicitDefEqProofs [(by decide : aI .i64 1 1 = 2)]; exact .rfl) (q:=(VRounds.step (VW.seq (VW.seq (Za [0,1,5,7] hC (h:=by simp -implicitDefEqProofs [(by decide : Zo 2 4 = true)]; exact .rfl) (q:=(Ye (by simp) (VW.skip (VW.seq (VW.block (VW.seq ?_))))))))))))
  obtain ⟨r32,q33,h⟩:=Zc h
  have c33:=tl95 q33
  refine Za [0,1,5,17] hC (h:=by simp -implicitDefEqProofs [c33]; exact .rfl) (q:=(Zd h (fun h => ?_) (fun h => ?_)))
  ·refine VW.seq (Za [4] hC (q:=?_))
   exact VW.ret (Zb h (by simp [eB97]))
  refine VW.skip (Za [0,1,5] hC (h:=by simp -implicitDefEqProofs [(by decide : aI .i64 2 1 = 3)]; exact .rfl) (q:=(VRounds.step (VW.seq (VW.seq (Za [0,1,5,7] hC (h:=by simp -implicitDefEqProofs [(by decide : Zo 3 4 = true)]; exact .rfl) (q:=(Ye (by simp) (VW.skip (VW.seq (VW.block (VW.seq ?_))))))))))))
  obtain ⟨r35,q36,h⟩:=Zc h
  have c36:=tl95 q36
  refine Za [0,1,5,17] hC (h:=by simp -implicitDefEqProofs [c36]; exact .rfl) (q:=(Zd h (fun h => ?_) (fun h => ?_)))
  ·refine VW.seq (Za [4] hC (q:=?_))
   exact VW.ret (Zb h (by simp [eB97]))
  exact VW.skip (Za [0,1,5] hC (h:=by simp -implicitDefEqProofs [(by decide : aI .i64 3 1 = 4)]; exact .rfl) (q:=(VRounds.step (VW.seq (VW.seq (Za [0,1,5,7] hC (h:=by simp -implicitDefEqProofs [(by decide : Zo 4 4 = false)]; exact .rfl) (q:=(Qj (by simp) (VW.exit (Zn () h (Ze 0)))))))))))
 rintro _ h
 replace h : (g97_j1 w_ rooms).bind _ = _:=h
 rw [g97_j1] at h
 refine VW.seq ?_
 obtain ⟨r13,q14,h⟩:=Zc h
 have c14:=tl126 q14
 obtain ⟨w17,q21,h⟩:=Zc h
 obtain ⟨w20,q22,h⟩:=Zc h
 refine Ug (tm 56 [(4,.b w20)]) [] [] hC Wc (by kernel_rfl) (by
   obtain ⟨q23,q21⟩ | ⟨q23,rfl⟩:=Ux q21
   ·obtain ⟨r15,q16,q21⟩:=Yb q21
    have c16:=tl100 q16
    obtain rfl:=Option.some.inj q21
    obtain ⟨q24,q22⟩ | ⟨q24,rfl⟩:=Ux q22
    ·obtain ⟨r18,q19,q22⟩:=Yb q22
     have c19:=tl96 q19
     obtain rfl:=Option.some.inj q22
     simp -implicitDefEqProofs [c14,q23,c16,q24,c19,Xg]
    simp -implicitDefEqProofs [c14,q23,c16,q24,Xg]
   obtain ⟨q25,q22⟩ | ⟨q25,rfl⟩:=Ux q22
   ·first
     | (simp at q25; done)
     | (obtain ⟨r18,q19,q22⟩:=Yb q22
        have c19:=tl96 q19
        obtain rfl:=Option.some.inj q22
        simp -implicitDefEqProofs [c14,q23,q25,c19,Xg])
   first
    | (simp at q25; done)
    | (simp -implicitDefEqProofs [c14,q23,q25,Xg])) ?_
 exact VW.ret (Zb h (by simp [eB97]))
theorem tl97 {w_ : T131} {rooms : Int} {r : Bool} (h : g97 w_ rooms = some r) : F97 [.cptr [.i .i64 w_.a_,.i .i64 w_.b_,.f .f32 w_.lead_,.f .f32 w_.store_,.f .f32 w_.heat_.a0_,.f .f32 w_.heat_.a1_,.f .f32 w_.heat_.a2_,.f .f32 w_.heat_.a3_] 0,.i .i64 rooms] = some (.b r):=Zf inj97 (a:=(w_,rooms)) h
def g98 (p : T134) (rooms : Int) : Option (Bool) :=
(g126 p.a_ p.b_ rooms).bind fun r1 =>
(if r1 = true then (g100 p.lead_).bind fun r3 => some r3 else some false).bind fun w5 =>
(if (w5 && Qa .f32 p.lead_ (some 1120403456)) = true then (g100 p.sun_).bind fun r6 => some r6 else some false).bind fun w8 =>
some (w8 && Qa .f32 p.sun_ (some 1092616192))
@[simp] def eA98 (a : T134 × Int) : List V:=[.cptr (Xs a.1) 0,.i .i64 a.2]
def eB98 (r : Bool) : V:=.b r
theorem inj98 (a a' : T134 × Int) (h : eA98 a = eA98 a') : a = a':=by simpa [eA98,Prod.ext_iff] using h
def F98 : List V→Option V:=tells (fun a => g98 a.1 a.2) eA98 eB98
theorem ok98 : Zz Tryz.prog 98 F98:=by
 refine Zg 43 Tryz.func98 ?_
 rintro ⟨p,rooms⟩ r h
 replace h : (g98 p rooms).bind some = some r:=h
 rw [g98] at h
 have hC : Qc.Ok Tryz.prog [(100,F100),(126,F126)]:=⟨.inl ok100,.inl ok126,trivial⟩
 refine VW.seq (Za [0,1] hC (q:=VW.seq ?_))
 obtain ⟨r1,q2,h⟩:=Zc h
 have c2:=tl126 q2
 obtain ⟨w5,q9,h⟩:=Zc h
 obtain ⟨w8,q10,h⟩:=Zc h
 refine Ug (tm 43 [(4,.b (w8 && Qa .f32 p.sun_ (some 1092616192)))]) [] [] hC Wc (by kernel_rfl) (by
   obtain ⟨q11,q9⟩ | ⟨q11,rfl⟩:=Ux q9
   ·obtain ⟨r3,q4,q9⟩:=Yb q9
    have c4:=tl100 q4
    obtain rfl:=Option.some.inj q9
    obtain ⟨q12,q10⟩ | ⟨q12,rfl⟩:=Ux q10
    ·obtain ⟨r6,q7,q10⟩:=Yb q10
     have c7:=tl100 q7
     obtain rfl:=Option.some.inj q10
     simp -implicitDefEqProofs [c2,q11,c4,q12,c7,Xs]
    simp -implicitDefEqProofs [c2,q11,c4,q12,Xs]
   obtain ⟨q13,q10⟩ | ⟨q13,rfl⟩:=Ux q10
   ·first
     | (simp at q13; done)
     | (obtain ⟨r6,q7,q10⟩:=Yb q10
        have c7:=tl100 q7
        obtain rfl:=Option.some.inj q10
        simp -implicitDefEqProofs [c2,q11,q13,c7,Xs])
   first
    | (simp at q13; done)
    | (simp -implicitDefEqProofs [c2,q11,q13,Xs])) ?_
 exact VW.ret (Zb h (by simp [eB98]))
theorem tl98 {p : T134} {rooms : Int} {r : Bool} (h : g98 p rooms = some r) : F98 [.cptr [.i .i64 p.a_,.i .i64 p.b_,.f .f32 p.lead_,.f .f32 p.sun_] 0,.i .i64 rooms] = some (.b r):=Zf inj98 (a:=(p,rooms)) h
def g53_j3 : Option (Bool) :=
some true
def g53_L1 (f : T25) : (Int)→Option ((Int) ⊕ ((Unit) ⊕ (Bool)))
| i_98 =>
if Zo i_98 (f.panes_.length : Int) = true then
(Wp f.panes_ i_98).bind fun e100 =>
(g98 e100 (f.heat_.length : Int)).bind fun r102 =>
if (!r102) = true then
some (.inr (.inr false))
else
some (.inl (aI .i64 i_98 1))
else
some (.inr (.inl ()))
def g53_j2 (f : T25) : Option (Bool) :=
(loopO (g53_L1 f) 0).bind fun w => match w with
| .inl y => g53_j3
| .inr r => some r
def g53_L2 (f : T25) : (Int)→Option ((Int) ⊕ ((Unit) ⊕ (Bool)))
| i_118 =>
if Zo i_118 (f.walls_.length : Int) = true then
(Wp f.walls_ i_118).bind fun e120 =>
(g97 e120 (f.heat_.length : Int)).bind fun r122 =>
if (!r122) = true then
some (.inr (.inr false))
else
some (.inl (aI .i64 i_118 1))
else
some (.inr (.inl ()))
def g53_j1 (f : T25) : Option (Bool) :=
(loopO (g53_L2 f) 0).bind fun w => match w with
| .inl y => g53_j2 f
| .inr r => some r
def g53_L3 (f : T25) : (Int)→Option ((Int) ⊕ ((Unit) ⊕ (Bool)))
| i_152 =>
if Zo i_152 (f.heat_.length : Int) = true then
(Wp f.heat_ i_152).bind fun e154 =>
(g95 e154).bind fun r156 =>
(if (!r156) = true then some true else (Wp f.store_ i_152).bind fun e158 => (g96 e158).bind fun r160 => some (!r160)).bind fun w162 =>
if w162 = true then
some (.inr (.inr false))
else
some (.inl (aI .i64 i_152 1))
else
some (.inr (.inl ()))
def g53 (f : T25) : Option (Bool) :=
(g55 (f.heat_.length : Int) 1 5).bind fun r1 =>
if ((((!r1) || (!Yx (f.store_.length : Int) (f.heat_.length : Int))) || Zo 10 (f.walls_.length : Int)) || Zo 8 (f.panes_.length : Int)) = true then
some false
else
(loopO (g53_L3 f) 0).bind fun w => match w with
| .inl y => g53_j1 f
| .inr r => some r
@[simp] def eA53 (a : T25) : List V:=[.cptr (Wb a) 0]
def eB53 (r : Bool) : V:=.b r
theorem inj53 (a a' : T25) (h : eA53 a = eA53 a') : a = a':=by simpa [eA53,Prod.ext_iff] using h
def F53 : List V→Option V:=tells (fun a => g53 a) eA53 eB53
theorem ok53 : Zz Tryz.prog 53 F53:=by
 refine Zg 105 Tryz.func53 ?_
 rintro f r h
 rw [g53] at h
 have hC : Qc.Ok Tryz.prog [(55,F55),(95,F95),(96,F96),(97,F97),(98,F98)]:=⟨.inl ok55,.inl ok95,.inl ok96,.inl ok97,.inl ok98,trivial⟩
 refine VW.seq (Za [0] hC (q:=(VW.seq (Za [0,3] hC (q:=(VW.seq (VW.seq ?_)))))))
 obtain ⟨r1,q2,h⟩:=Zc h
 have c2:=tl55 q2
 refine VW.rD (tm 105 [(0,.cptr (Wb f) 0),(3,.i .i64 (f.heat_.length : Int)),(43,.b ((((!r1) || (!Yx (f.store_.length : Int) (f.heat_.length : Int))) || Zo 10 (f.walls_.length : Int)) || Zo 8 (f.panes_.length : Int)))]) [] [] hC Wc (Zd h (fun h => ?_) (fun h => ?_)) (h:=by simp (maxSteps:=4000000) -implicitDefEqProofs [c2,Wb])
 ·refine VW.seq (Za [2] hC (q:=?_))
  exact VW.ret (Zb h (by simp [eB53]))
 refine VW.skip (VW.join (fun (v : Unit) => (⟨(tm 105 [(0,.cptr (Wb f) 0),(3,.i .i64 (f.heat_.length : Int))]),[],[]⟩ : VS)) (fun v => (g53_j1 f).bind some = some r) ?_ ?_)
 ·refine VW.seq (Za [0,3,4] hC (q:=VW.block ?_))
  obtain ⟨w_3,hw_3,h⟩:=Zc h
  refine VW.loopO (fun (x : Int) => (⟨(tm 105 [(0,.cptr (Wb f) 0),(3,.i .i64 (f.heat_.length : Int)),(4,.i .i64 x)]),[],[]⟩ : VS)) hw_3 (Ze 0) ?_
  rintro n_3 i_152 h1
  rw [g53_L3] at h1
  refine VW.seq (VW.seq (Za [0,3,4,46] hC (q:=(Zk h1 (fun h1 => ?_) (fun h1 => ?_)))))
  ·refine VW.exit ?_
   have e_:=Yd h1
   subst w_3
   exact Zn () h (Ze 0)
  refine VW.skip (VW.seq (VW.block (VW.seq ?_)))
  obtain ⟨e154,⟨f155a,f155b,f155c,f155d⟩,h1⟩:=Ys h1
  obtain ⟨r156,q157,h1⟩:=Zc h1
  have c157:=tl95 q157
  obtain ⟨w162,q164,h1⟩:=Zc h1
  refine Yg (tm 105 [(0,.cptr (Wb f) 0),(3,.i .i64 (f.heat_.length : Int)),(4,.i .i64 i_152),(68,.b w162)]) [] [] hC (by kernel_rfl) (by
    obtain ⟨q165,q164⟩ | ⟨q165,rfl⟩:=Uh q164
    ·obtain ⟨e158,q159,q164⟩:=Yb q164
     obtain ⟨f159a,f159b,f159c,f159d⟩:=Kf q159
     obtain ⟨r160,q161,q164⟩:=Yb q164
     have c161:=tl96 q161
     obtain rfl:=Option.some.inj q164
     simp -implicitDefEqProofs [f155a,f155b,f155c,f155d,c157,q165,f159a,f159b,f159c,f159d,c161]
    simp -implicitDefEqProofs [f155a,f155b,f155c,f155d,c157,q165]) ?_
  refine Zd h1 (fun h1 => ?_) (fun h1 => ?_)
  ·refine VW.seq (Za [2] hC (q:=?_))
   have e_:=Yd h1
   subst w_3
   exact VW.ret (Zb h (by simp [eB53]))
  exact VW.skip (Za [0,3,4] hC (q:=(Zn (aI .i64 i_152 1) (Yr h1) (Ze 0))))
 rintro _ h
 replace h : (g53_j1 f).bind _ = _:=h
 rw [g53_j1] at h
 refine VW.join (fun (v : Unit) => (⟨(tm 105 [(0,.cptr (Wb f) 0),(3,.i .i64 (f.heat_.length : Int))]),[],[]⟩ : VS)) (fun v => (g53_j2 f).bind some = some r) ?_ ?_
 ·refine VW.seq (Za [0,3,5] hC (q:=VW.block ?_))
  obtain ⟨w_2,hw_2,h⟩:=Zc h
  refine VW.loopO (fun (x : Int) => (⟨(tm 105 [(0,.cptr (Wb f) 0),(3,.i .i64 (f.heat_.length : Int)),(5,.i .i64 x)]),[],[]⟩ : VS)) hw_2 (Ze 0) ?_
  rintro n_2 i_118 h1
  rw [g53_L2] at h1
  refine VW.seq (VW.seq (Za [0,3,5,75] hC (q:=(Zk h1 (fun h1 => ?_) (fun h1 => ?_)))))
  ·refine VW.exit ?_
   have e_:=Yd h1
   subst w_2
   exact Zn () h (Ze 0)
  refine VW.skip (VW.seq (VW.block (VW.seq ?_)))
  obtain ⟨e120,⟨f121a,f121b,f121c,f121d⟩,h1⟩:=Ys h1
  obtain ⟨r122,q123,h1⟩:=Zc h1
  have c123:=tl97 q123
  refine Zj [0,3,5,86] hC (q:=(Zd h1 (fun h1 => ?_) (fun h1 => ?_)))
  ·refine VW.seq (Za [2] hC (q:=?_))
   have e_:=Yd h1
   subst w_2
   exact VW.ret (Zb h (by simp [eB53]))
  exact VW.skip (Za [0,3,5] hC (q:=(Zn (aI .i64 i_118 1) (Yr h1) (Ze 0))))
 rintro _ h
 replace h : (g53_j2 f).bind _ = _:=h
 rw [g53_j2] at h
 refine VW.join (fun (v : Unit) => (⟨(tm 105 []),[],[]⟩ : VS)) (fun v => (g53_j3).bind some = some r) ?_ ?_
 ·refine VW.seq (Za [0,3,6] hC (q:=VW.block ?_))
  obtain ⟨w_1,hw_1,h⟩:=Zc h
  refine VW.loopO (fun (x : Int) => (⟨(tm 105 [(0,.cptr (Wb f) 0),(3,.i .i64 (f.heat_.length : Int)),(6,.i .i64 x)]),[],[]⟩ : VS)) hw_1 (Ze 0) ?_
  rintro n_1 i_98 h1
  rw [g53_L1] at h1
  refine VW.seq (VW.seq (Za [0,3,6,93] hC (q:=(Zk h1 (fun h1 => ?_) (fun h1 => ?_)))))
  ·refine VW.exit ?_
   have e_:=Yd h1
   subst w_1
   exact Zn () h (Ze 0)
  refine VW.skip (VW.seq (VW.block (VW.seq ?_)))
  obtain ⟨e100,⟨f101a,f101b,f101c,f101d⟩,h1⟩:=Ys h1
  obtain ⟨r102,q103,h1⟩:=Zc h1
  have c103:=tl98 q103
  refine Zj [0,3,6,104] hC (q:=(Zd h1 (fun h1 => ?_) (fun h1 => ?_)))
  ·refine VW.seq (Za [2] hC (q:=?_))
   have e_:=Yd h1
   subst w_1
   exact VW.ret (Zb h (by simp [eB53]))
  exact VW.skip (Za [0,3,6] hC (q:=(Zn (aI .i64 i_98 1) (Yr h1) (Ze 0))))
 rintro _ h
 replace h : (g53_j3).bind _ = _:=h
 rw [g53_j3] at h
 refine VW.seq (Za [2] hC (q:=?_))
 exact VW.ret (Zb h (by simp [eB53]))
theorem tl53 {f : T25} {r : Bool} (h : g53 f = some r) : F53 [.cptr [.sl 1 (rows Zt f.heat_),.sl 1 (rows Zt f.store_),.sl 8 (rows Yv f.walls_),.sl 4 (rows Yw f.panes_)] 0] = some (.b r):=Zf inj53 (a:=f) h
def g123 (a : F32) : Option (Bool) :=
(g100 a).bind fun r1 =>
some (r1 && Qa .f32 a (some 1065353216))
@[simp] def eA123 (a : F32) : List V:=[.f .f32 a]
def eB123 (r : Bool) : V:=.b r
theorem inj123 (a a' : F32) (h : eA123 a = eA123 a') : a = a':=by simpa [eA123,Prod.ext_iff] using h
def F123 : List V→Option V:=tells (fun a => g123 a) eA123 eB123
theorem ok123 : Zz Tryz.prog 123 F123:=by
 refine Zg 9 Tryz.func123 ?_
 rintro a r h
 rw [g123] at h
 have hC : Qc.Ok Tryz.prog [(100,F100)]:=⟨.inl ok100,trivial⟩
 refine VW.seq (Za [0] hC (q:=VW.seq ?_))
 obtain ⟨r1,q2,h⟩:=Zc h
 have c2:=tl100 q2
 refine Zj [2] hC (q:=?_)
 exact VW.ret (Zb h (by simp [eB123]))
theorem tl123 {a : F32} {r : Bool} (h : g123 a = some r) : F123 [.f .f32 a] = some (.b r):=Zf inj123 (a:=a) h
def g127 (a : F32) : Option (Bool) :=
some (Ka .f32 a (some 3262119936) && Qa .f32 a (some 1153138688))
@[simp] def eA127 (a : F32) : List V:=[.f .f32 a]
def eB127 (r : Bool) : V:=.b r
theorem inj127 (a a' : F32) (h : eA127 a = eA127 a') : a = a':=by simpa [eA127,Prod.ext_iff] using h
def F127 : List V→Option V:=tells (fun a => g127 a) eA127 eB127
theorem ok127 : Zz Tryz.prog 127 F127:=by
 refine Zg 9 Tryz.func127 ?_
 rintro a r h
 rw [g127] at h
 have hC : Qc.Ok Tryz.prog []:=trivial
 refine VW.seq (Za [0] hC (q:=(VW.seq (Za [2] hC (q:=?_)))))
 exact VW.ret (Zb h (by simp [eB127]))
theorem tl127 {a : F32} {r : Bool} (h : g127 a = some r) : F127 [.f .f32 a] = some (.b r):=Zf inj127 (a:=a) h
def g99 (f : T32) : Option (Bool) :=
(g100 f.burnt_).bind fun r1 =>
(if ((r1 && Ka .f32 f.burnt_ (some 1031798784)) && Qa .f32 f.burnt_ (some 1106247680)) = true then (g100 f.steam_).bind fun r3 => some r3 else some false).bind fun w5 =>
(if ((w5 && Ka .f32 f.steam_ (some 1015021568)) && Qa .f32 f.steam_ (some 1082130432)) = true then (g127 f.up_).bind fun r6 => some r6 else some false).bind fun w8 =>
(if w8 = true then (g123 f.lost_).bind fun r9 => some r9 else some false).bind fun w11 =>
some w11
@[simp] def eA99 (a : T32) : List V:=[.cptr (Xk a) 0]
def eB99 (r : Bool) : V:=.b r
theorem inj99 (a a' : T32) (h : eA99 a = eA99 a') : a = a':=by simpa [eA99,Prod.ext_iff] using h
def F99 : List V→Option V:=tells (fun a => g99 a) eA99 eB99
theorem ok99 : Zz Tryz.prog 99 F99:=by
 refine Zg 57 Tryz.func99 ?_
 rintro f r h
 rw [g99] at h
 have hC : Qc.Ok Tryz.prog [(100,F100),(123,F123),(127,F127)]:=⟨.inl ok100,.inl ok123,.inl ok127,trivial⟩
 refine VW.seq (Za [0] hC (q:=VW.seq ?_))
 obtain ⟨r1,q2,h⟩:=Zc h
 have c2:=tl100 q2
 obtain ⟨w5,q12,h⟩:=Zc h
 obtain ⟨w8,q13,h⟩:=Zc h
 obtain ⟨w11,q14,h⟩:=Zc h
 refine Yg (tm 57 [(2,.b w11)]) [] [] hC (by kernel_rfl) (by
   obtain ⟨q15,q12⟩ | ⟨q15,rfl⟩:=Ux q12
   ·obtain ⟨r3,q4,q12⟩:=Yb q12
    have c4:=tl100 q4
    obtain rfl:=Option.some.inj q12
    obtain ⟨q16,q13⟩ | ⟨q16,rfl⟩:=Ux q13
    ·obtain ⟨r6,q7,q13⟩:=Yb q13
     have c7:=tl127 q7
     obtain rfl:=Option.some.inj q13
     obtain ⟨q17,q14⟩ | ⟨q17,rfl⟩:=Ux q14
     ·obtain ⟨r9,q10,q14⟩:=Yb q14
      have c10:=tl123 q10
      obtain rfl:=Option.some.inj q14
      simp (maxSteps:=4000000) -implicitDefEqProofs [c2,q15,c4,q16,c7,q17,c10,Xk]
     simp (maxSteps:=4000000) -implicitDefEqProofs [c2,q15,c4,q16,c7,q17,Xk]
    obtain ⟨q18,q14⟩ | ⟨q18,rfl⟩:=Ux q14
    ·exact absurd q18 (by simp)
    simp (maxSteps:=4000000) -implicitDefEqProofs [c2,q15,c4,q16,q18,Xk]
   obtain ⟨q19,q13⟩ | ⟨q19,rfl⟩:=Ux q13
   ·first
     | (simp at q19; done)
     | (obtain ⟨r6,q7,q13⟩:=Yb q13
        have c7:=tl127 q7
        obtain rfl:=Option.some.inj q13
        obtain ⟨q20,q14⟩ | ⟨q20,rfl⟩:=Ux q14
        ·obtain ⟨r9,q10,q14⟩:=Yb q14
         have c10:=tl123 q10
         obtain rfl:=Option.some.inj q14
         simp (maxSteps:=4000000) -implicitDefEqProofs [c2,q15,q19,c7,q20,c10,Xk]
        simp (maxSteps:=4000000) -implicitDefEqProofs [c2,q15,q19,c7,q20,Xk])
   first
    | (simp at q19; done)
    | (obtain ⟨q21,q14⟩ | ⟨q21,rfl⟩:=Ux q14
       ·exact absurd q21 (by simp)
       simp (maxSteps:=4000000) -implicitDefEqProofs [c2,q15,q19,q21,Xk])) ?_
 exact VW.ret (Zb h (by simp [eB99]))
theorem tl99 {f : T32} {r : Bool} (h : g99 f = some r) : F99 [.cptr [.f .f32 f.burnt_,.f .f32 f.steam_,.f .f32 f.up_,.f .f32 f.lost_,.i .i64 f.smoky_] 0] = some (.b r):=Zf inj99 (a:=f) h
def g54_j1 : Option (Bool) :=
some true
def g54_L1 (c : List T32) : (Int)→Option ((Int) ⊕ ((Unit) ⊕ (Bool)))
| i_102 =>
if Zo i_102 (c.length : Int) = true then
(Wp c i_102).bind fun e104 =>
(g99 e104).bind fun r106 =>
if (!r106) = true then
some (.inr (.inr false))
else
(Wp c i_102).bind fun e109 =>
if Yx e109.smoky_ (-1) = true then
some (.inl (aI .i64 i_102 1))
else
(Wp c i_102).bind fun e112 =>
(g55 e112.smoky_ 0 (sI .i64 (c.length : Int) 1)).bind fun r114 =>
(if ((!r114) || Yx e112.smoky_ i_102) = true then some true else (Wp c e112.smoky_).bind fun e116 => some (!Yx e116.smoky_ (-1))).bind fun w118 =>
if w118 = true then
some (.inr (.inr false))
else
some (.inl (aI .i64 i_102 1))
else
some (.inr (.inl ()))
def g54 (c : List T32) : Option (Bool) :=
(g55 (c.length : Int) 1 6).bind fun r1 =>
if (!r1) = true then
some false
else
(loopO (g54_L1 c) 0).bind fun w => match w with
| .inl y => g54_j1
| .inr r => some r
@[simp] def eA54 (a : List T32) : List V:=[.sl 5 (rows Xw a)]
def eB54 (r : Bool) : V:=.b r
theorem inj54 (a a' : List T32) (h : eA54 a = eA54 a') : a = a':=by simpa [eA54,Prod.ext_iff] using h
def F54 : List V→Option V:=tells (fun a => g54 a) eA54 eB54
theorem ok54 : Zz Tryz.prog 54 F54:=by
 refine Zg 56 Tryz.func54 ?_
 rintro c r h
 rw [g54] at h
 have hC : Qc.Ok Tryz.prog [(55,F55),(99,F99)]:=⟨.inl ok55,.inl ok99,trivial⟩
 refine VW.seq (Za [0] hC (q:=(VW.seq (Za [0,3] hC (q:=(VW.seq (VW.seq ?_)))))))
 obtain ⟨r1,q2,h⟩:=Zc h
 have c2:=tl55 q2
 refine Za [0,3,9] hC (h:=by simp -implicitDefEqProofs [c2]; exact .rfl) (q:=(Zd h (fun h => ?_) (fun h => ?_)))
 ·refine VW.seq (Za [2] hC (q:=?_))
  exact VW.ret (Zb h (by simp [eB54]))
 refine VW.skip (VW.join (fun (v : Unit) => (⟨(tm 56 []),[],[]⟩ : VS)) (fun v => (g54_j1).bind some = some r) ?_ ?_)
 ·refine VW.seq (Za [0,3,4] hC (q:=VW.block ?_))
  obtain ⟨w_1,hw_1,h⟩:=Zc h
  refine VW.loopO (fun (x : Int) => (⟨(tm 56 [(0,.sl 5 (rows Xw c)),(3,.i .i64 (c.length : Int)),(4,.i .i64 x)]),[],[]⟩ : VS)) hw_1 (Ze 0) ?_
  rintro n_1 i_102 h1
  rw [g54_L1] at h1
  refine VW.seq (VW.seq (Za [0,3,4,12] hC (q:=(Zk h1 (fun h1 => ?_) (fun h1 => ?_)))))
  ·refine VW.exit ?_
   have e_:=Yd h1
   subst w_1
   exact Zn () h (Ze 0)
  refine VW.skip (VW.seq (VW.block (VW.seq (VW.seq ?_))))
  obtain ⟨e104,⟨f105a,f105b,f105c,f105d⟩,h1⟩:=Ys h1
  obtain ⟨r106,q107,h1⟩:=Zc h1
  have c107:=tl99 q107
  refine Za [0,3,4,19] hC (h:=by simp -implicitDefEqProofs [f105a,f105b,f105c,f105d,c107]; exact .rfl) (q:=(Zd h1 (fun h1 => ?_) (fun h1 => ?_)))
  ·refine VW.seq (Za [2] hC (q:=?_))
   have e_:=Yd h1
   subst w_1
   exact VW.ret (Zb h (by simp [eB54]))
  refine VW.skip (VW.seq (VW.seq ?_))
  obtain ⟨e109,⟨f110a,f110b,f110c,f110d⟩,h1⟩:=Ys h1
  refine Za [0,3,4,25] hC (h:=by simp -implicitDefEqProofs [f110a,f110b,f110c,f110d]; exact .rfl) (q:=(Zd h1 (fun h1 => ?_) (fun h1 => ?_)))
  ·exact VW.exit (Za [0,3,4] hC (q:=(Zn (aI .i64 i_102 1) (Yr h1) (Ze 0))))
  refine VW.skip (VW.seq ?_)
  obtain ⟨e112,⟨f113a,f113b,f113c,f113d⟩,h1⟩:=Ys h1
  obtain ⟨r114,q115,h1⟩:=Zc h1
  have c115:=tl55 q115
  obtain ⟨w118,q120,h1⟩:=Zc h1
  refine Yg (tm 56 [(0,.sl 5 (rows Xw c)),(3,.i .i64 (c.length : Int)),(4,.i .i64 i_102),(55,.b w118)]) [] [] hC (by kernel_rfl) (by
    obtain ⟨q121,q120⟩ | ⟨q121,rfl⟩:=Uh q120
    ·obtain ⟨e116,q117,q120⟩:=Yb q120
     obtain ⟨f117a,f117b,f117c,f117d⟩:=Kf q117
     obtain rfl:=Option.some.inj q120
     simp -implicitDefEqProofs [f113a,f113b,f113c,f113d,c115,q121,f117a,f117b,f117c,f117d]
    simp -implicitDefEqProofs [f113a,f113b,f113c,f113d,c115,q121]) ?_
  refine Zd h1 (fun h1 => ?_) (fun h1 => ?_)
  ·refine VW.seq (Za [2] hC (q:=?_))
   have e_:=Yd h1
   subst w_1
   exact VW.ret (Zb h (by simp [eB54]))
  exact VW.skip (Za [0,3,4] hC (q:=(Zn (aI .i64 i_102 1) (Yr h1) (Ze 0))))
 rintro _ h
 replace h : (g54_j1).bind _ = _:=h
 rw [g54_j1] at h
 refine VW.seq (Za [2] hC (q:=?_))
 exact VW.ret (Zb h (by simp [eB54]))
theorem tl54 {c : List T32} {r : Bool} (h : g54 c = some r) : F54 [.sl 5 (rows Xw c)] = some (.b r):=Zf inj54 (a:=c) h
def g56 (s : T32) : Option (Bool) :=
(g100 s.burnt_).bind fun r1 =>
(if r1 = true then (g100 s.steam_).bind fun r3 => some r3 else some false).bind fun w5 =>
(if w5 = true then (g92 s.up_).bind fun r6 => some r6 else some false).bind fun w8 =>
(if w8 = true then (g92 s.lost_).bind fun r9 => some r9 else some false).bind fun w11 =>
(if w11 = true then (g55 s.smoky_ 0 1000000000).bind fun r12 => some r12 else some false).bind fun w14 =>
some w14
@[simp] def eA56 (a : T32) : List V:=[.cptr (Xk a) 0]
def eB56 (r : Bool) : V:=.b r
theorem inj56 (a a' : T32) (h : eA56 a = eA56 a') : a = a':=by simpa [eA56,Prod.ext_iff] using h
def F56 : List V→Option V:=tells (fun a => g56 a) eA56 eB56
theorem ok56 : Zz Tryz.prog 56 F56:=by
 refine Zg 36 Tryz.func56 ?_
 rintro s r h
 rw [g56] at h
 have hC : Qc.Ok Tryz.prog [(55,F55),(92,F92),(100,F100)]:=⟨.inl ok55,.inl ok92,.inl ok100,trivial⟩
 refine VW.seq (Za [0] hC (q:=VW.seq ?_))
 obtain ⟨r1,q2,h⟩:=Zc h
 have c2:=tl100 q2
 obtain ⟨w5,q15,h⟩:=Zc h
 obtain ⟨w8,q16,h⟩:=Zc h
 obtain ⟨w11,q17,h⟩:=Zc h
 obtain ⟨w14,q18,h⟩:=Zc h
 refine Yg (tm 36 [(2,.b w14)]) [] [] hC (by kernel_rfl) (by
   obtain ⟨q19,q15⟩ | ⟨q19,rfl⟩:=Ux q15
   ·obtain ⟨r3,q4,q15⟩:=Yb q15
    have c4:=tl100 q4
    obtain rfl:=Option.some.inj q15
    obtain ⟨q20,q16⟩ | ⟨q20,rfl⟩:=Ux q16
    ·obtain ⟨r6,q7,q16⟩:=Yb q16
     have c7:=tl92 q7
     obtain rfl:=Option.some.inj q16
     obtain ⟨q21,q17⟩ | ⟨q21,rfl⟩:=Ux q17
     ·obtain ⟨r9,q10,q17⟩:=Yb q17
      have c10:=tl92 q10
      obtain rfl:=Option.some.inj q17
      obtain ⟨q22,q18⟩ | ⟨q22,rfl⟩:=Ux q18
      ·obtain ⟨r12,q13,q18⟩:=Yb q18
       have c13:=tl55 q13
       obtain rfl:=Option.some.inj q18
       simp -implicitDefEqProofs [c2,q19,c4,q20,c7,q21,c10,q22,c13,Xk]
      simp -implicitDefEqProofs [c2,q19,c4,q20,c7,q21,c10,q22,Xk]
     obtain ⟨q23,q18⟩ | ⟨q23,rfl⟩:=Ux q18
     ·exact absurd q23 (by simp)
     simp -implicitDefEqProofs [c2,q19,c4,q20,c7,q21,q23,Xk]
    obtain ⟨q24,q17⟩ | ⟨q24,rfl⟩:=Ux q17
    ·exact absurd q24 (by simp)
    obtain ⟨q25,q18⟩ | ⟨q25,rfl⟩:=Ux q18
    ·exact absurd q25 (by simp)
    simp -implicitDefEqProofs [c2,q19,c4,q20,q24,q25,Xk]
   obtain ⟨q26,q16⟩ | ⟨q26,rfl⟩:=Ux q16
   ·exact absurd q26 (by simp)
   obtain ⟨q27,q17⟩ | ⟨q27,rfl⟩:=Ux q17
   ·exact absurd q27 (by simp)
   obtain ⟨q28,q18⟩ | ⟨q28,rfl⟩:=Ux q18
   ·exact absurd q28 (by simp)
   simp -implicitDefEqProofs [c2,q19,q26,q27,q28,Xk]) ?_
 exact VW.ret (Zb h (by simp [eB56]))
theorem tl56 {s : T32} {r : Bool} (h : g56 s = some r) : F56 [.cptr [.f .f32 s.burnt_,.f .f32 s.steam_,.f .f32 s.up_,.f .f32 s.lost_,.i .i64 s.smoky_] 0] = some (.b r):=Zf inj56 (a:=s) h
def g101 (a : F32) : Option (Bool) :=
some (Ka .f32 a (some 3262119936) && Qa .f32 a (some 1114636288))
@[simp] def eA101 (a : F32) : List V:=[.f .f32 a]
def eB101 (r : Bool) : V:=.b r
theorem inj101 (a a' : F32) (h : eA101 a = eA101 a') : a = a':=by simpa [eA101,Prod.ext_iff] using h
def F101 : List V→Option V:=tells (fun a => g101 a) eA101 eB101
theorem ok101 : Zz Tryz.prog 101 F101:=by
 refine Zg 9 Tryz.func101 ?_
 rintro a r h
 rw [g101] at h
 have hC : Qc.Ok Tryz.prog []:=trivial
 refine VW.seq (Za [0] hC (q:=(VW.seq (Za [2] hC (q:=?_)))))
 exact VW.ret (Zb h (by simp [eB101]))
theorem tl101 {a : F32} {r : Bool} (h : g101 a = some r) : F101 [.f .f32 a] = some (.b r):=Zf inj101 (a:=a) h
def g57 (x_ : T51) : Option (Bool) :=
(g101 x_.outside_).bind fun r1 =>
(if r1 = true then (g100 x_.sun_).bind fun r3 => some r3 else some false).bind fun w5 =>
some (((w5 && Qa .f32 x_.sun_ (some 1092616192)) && Ka .f32 x_.wind_ (some 3267887104)) && Qa .f32 x_.wind_ (some 1120403456))
@[simp] def eA57 (a : T51) : List V:=[.cptr (Up a) 0]
def eB57 (r : Bool) : V:=.b r
theorem inj57 (a a' : T51) (h : eA57 a = eA57 a') : a = a':=by simpa [eA57,Prod.ext_iff] using h
def F57 : List V→Option V:=tells (fun a => g57 a) eA57 eB57
theorem ok57 : Zz Tryz.prog 57 F57:=by
 refine Zg 36 Tryz.func57 ?_
 rintro x_ r h
 rw [g57] at h
 have hC : Qc.Ok Tryz.prog [(100,F100),(101,F101)]:=⟨.inl ok100,.inl ok101,trivial⟩
 refine VW.seq (Za [0] hC (q:=VW.seq ?_))
 obtain ⟨r1,q2,h⟩:=Zc h
 have c2:=tl101 q2
 obtain ⟨w5,q6,h⟩:=Zc h
 refine Yg (tm 36 [(2,.b (((w5 && Qa .f32 x_.sun_ (some 1092616192)) && Ka .f32 x_.wind_ (some 3267887104)) && Qa .f32 x_.wind_ (some 1120403456)))]) [] [] hC (by kernel_rfl) (by
   obtain ⟨q7,q6⟩ | ⟨q7,rfl⟩:=Ux q6
   ·obtain ⟨r3,q4,q6⟩:=Yb q6
    have c4:=tl100 q4
    obtain rfl:=Option.some.inj q6
    simp -implicitDefEqProofs [c2,q7,c4,Up]
   simp -implicitDefEqProofs [c2,q7,Up]) ?_
 exact VW.ret (Zb h (by simp [eB57]))
theorem tl57 {x_ : T51} {r : Bool} (h : g57 x_ = some r) : F57 [.cptr [.f .f32 x_.outside_,.f .f32 x_.sun_,.f .f32 x_.wind_] 0] = some (.b r):=Zf inj57 (a:=x_) h
def g102_j1 (text : ByteArray) (from_31 : Int) (l32 : List ByteArray) : Option (List ByteArray) :=
(Jw from_31 (text.size : Int) text.size).bind fun u33 =>
(Jm 16 l32 [(text.extract from_31.toNat text.size)]).bind fun u35 =>
some (l32 ++ [(text.extract from_31.toNat text.size)])
def g102_L1 (text : ByteArray) (by_ : Int) : (Int × Int × (List ByteArray))→Option ((Int × Int × (List ByteArray)) ⊕ (Int × (List ByteArray)))
| (from_56,i_57,l58) =>
if Zo i_57 (text.size : Int) = true then
(Wg text i_57).bind fun e60 =>
if Yx e60 by_ = true then
(Jw from_56 i_57 text.size).bind fun u63 =>
(Jm 16 l58 [(text.extract from_56.toNat i_57.toNat)]).bind fun u65 =>
some (.inl (aI .i64 i_57 1,aI .i64 i_57 1,(l58 ++ [(text.extract from_56.toNat i_57.toNat)])))
else
some (.inl (from_56,aI .i64 i_57 1,l58))
else
some (.inr (from_56,l58))
def g102 (text : ByteArray) (by_ : Int) : Option (List ByteArray) :=
(loopO (g102_L1 text by_) (0,0,[])).bind fun w => g102_j1 text w.1 w.2
@[simp] def eA102 (a : ByteArray × Int) : List V:=[.str a.1,.i .u8 a.2]
def eB102 (r : List ByteArray) : V:=.own 1 (rows Yu r)
theorem inj102 (a a' : ByteArray × Int) (h : eA102 a = eA102 a') : a = a':=by simpa [eA102,Prod.ext_iff] using h
def F102 : List V→Option V:=tells (fun a => g102 a.1 a.2) eA102 eB102
theorem ok102 : Zz Tryz.prog 102 F102:=by
 refine Zg 35 Tryz.func102 ?_
 rintro ⟨text,by_⟩ r h
 replace h : (g102 text by_).bind some = some r:=h
 rw [g102] at h
 have hC : Qc.Ok Tryz.prog []:=trivial
 refine VW.seq (Za [0,1] hC (q:=(VW.seq (Za [0,1,5] hC (q:=(VW.seq (Za [0,1,5,6] hC (q:=(VW.join (fun (v : Int × (List ByteArray)) => (⟨(tm 35 [(0,.str text),(5,.ref 0 0 v.2.length),(6,.i .i64 v.1)]),[some (1,rows Yu v.2)],[]⟩ : VS)) (fun v => (g102_j1 text (v.1) (v.2)).bind some = some r) ?_ ?_)))))))))
 ·refine VW.seq (Za [0,1,5,6,7] hC (q:=VW.block ?_))
  obtain ⟨w_1,hw_1,h⟩:=Zc h
  refine VW.loopO (fun (x : Int × Int × (List ByteArray)) => (⟨(tm 35 [(0,.str text),(1,.i .u8 by_),(5,.ref 0 0 x.2.2.length),(6,.i .i64 x.1),(7,.i .i64 x.2.1)]),[some (1,rows Yu x.2.2)],[]⟩ : VS)) hw_1 (Ze 1) ?_
  rintro n_1 ⟨from_56,i_57,l58⟩ h1
  rw [g102_L1] at h1
  refine VW.seq (VW.seq (Za [0,1,5,6,7,12] hC (q:=(Zk h1 (fun h1 => ?_) (fun h1 => ?_)))))
  ·refine VW.exit ?_
   have e_:=Yd h1
   subst w_1
   exact Zn (from_56,l58) h (Ze 1)
  refine VW.skip (VW.seq (VW.block (VW.seq ?_)))
  obtain ⟨e60,⟨f61a,c61,f61b,f61c,f61d⟩,h1⟩:=bindIS h1
  refine Zj [0,1,5,6,7,19] hC (q:=(Zk h1 (fun h1 => ?_) (fun h1 => ?_)))
  ·exact VW.skip (Za [0,1,5,6,7] hC (q:=(Zn (from_56,aI .i64 i_57 1,l58) (Yr h1) (Ze 1))))
  refine VW.seq ?_
  obtain ⟨u63,⟨f64a,f64b,f64c,f64d,f64e⟩,h1⟩:=Gj h1
  try simp only [Int.toNat_natCast,Int.reduceToNat,List.length_cons,List.length_nil,Nat.reduceAdd,Nat.zero_add] at f64a f64b f64c f64d f64e
  obtain ⟨u65,⟨f66a,f66b⟩,h1⟩:=Jp h1
  try simp only [Int.toNat_natCast,Int.reduceToNat,List.length_cons,List.length_nil,Nat.reduceAdd,Nat.zero_add] at f66a f66b
  exact Zj [0,1,5,7] hC (q:=(Za [0,1,5,6,7] hC (q:=(Za [0,1,5,6,7] hC (q:=(Zn (aI .i64 i_57 1,aI .i64 i_57 1,(l58 ++ [(text.extract from_56.toNat i_57.toNat)])) (Yr h1) (Ze 1)))))))
 rintro ⟨from_31,l32⟩ h
 replace h : (g102_j1 text from_31 l32).bind _ = _:=h
 rw [g102_j1] at h
 refine VW.seq ?_
 obtain ⟨u33,⟨f34a,f34b,f34c,f34d,f34e⟩,h⟩:=Gj h
 try simp only [Int.toNat_natCast,Int.reduceToNat,List.length_cons,List.length_nil,Nat.reduceAdd,Nat.zero_add] at f34a f34b f34c f34d f34e
 obtain ⟨u35,⟨f36a,f36b⟩,h⟩:=Jp h
 try simp only [Int.toNat_natCast,Int.reduceToNat,List.length_cons,List.length_nil,Nat.reduceAdd,Nat.zero_add] at f36a f36b
 refine Zj [4] hC (q:=?_)
 exact VW.ret (Zb h (by simp [eB102]))
theorem tl102 {text : ByteArray} {by_ : Int} {r : List ByteArray} (h : g102 text by_ = some r) : F102 [.str text,.i .u8 by_] = some (.own 1 (rows Yu r)):=Zf inj102 (a:=(text,by_)) h
def g142 (b : Int) : Option (Bool) :=
some (Xa 97 b && Xa b 122)
@[simp] def eA142 (a : Int) : List V:=[.i .u8 a]
def eB142 (r : Bool) : V:=.b r
theorem inj142 (a a' : Int) (h : eA142 a = eA142 a') : a = a':=by simpa [eA142,Prod.ext_iff] using h
def F142 : List V→Option V:=tells (fun a => g142 a) eA142 eB142
theorem ok142 : Zz Tryz.prog 142 F142:=by
 refine Zg 9 Tryz.func142 ?_
 rintro b r h
 rw [g142] at h
 have hC : Qc.Ok Tryz.prog []:=trivial
 refine VW.seq (Za [0] hC (q:=(VW.seq (Za [2] hC (q:=?_)))))
 exact VW.ret (Zb h (by simp [eB142]))
theorem tl142 {b : Int} {r : Bool} (h : g142 b = some r) : F142 [.i .u8 b] = some (.b r):=Zf inj142 (a:=b) h
def g143 (b : Int) : Option (Bool) :=
some (Xa 48 b && Xa b 57)
@[simp] def eA143 (a : Int) : List V:=[.i .u8 a]
def eB143 (r : Bool) : V:=.b r
theorem inj143 (a a' : Int) (h : eA143 a = eA143 a') : a = a':=by simpa [eA143,Prod.ext_iff] using h
def F143 : List V→Option V:=tells (fun a => g143 a) eA143 eB143
theorem ok143 : Zz Tryz.prog 143 F143:=by
 refine Zg 9 Tryz.func143 ?_
 rintro b r h
 rw [g143] at h
 have hC : Qc.Ok Tryz.prog []:=trivial
 refine VW.seq (Za [0] hC (q:=(VW.seq (Za [2] hC (q:=?_)))))
 exact VW.ret (Zb h (by simp [eB143]))
theorem tl143 {b : Int} {r : Bool} (h : g143 b = some r) : F143 [.i .u8 b] = some (.b r):=Zf inj143 (a:=b) h
def g128_j1 (l1289 : List ByteArray) : Option ((List ByteArray) × Bool) :=
some (l1289,true)
def g128_j2 (i_2148 : Int) (line : ByteArray) (l2149 : List ByteArray) (k_2363 : Int) : Option ((Int × (List ByteArray)) ⊕ ((List ByteArray) ⊕ ((List ByteArray) × Bool))) :=
(Jw i_2148 k_2363 line.size).bind fun u2364 =>
(Jm 16 l2149 [(line.extract i_2148.toNat k_2363.toNat)]).bind fun u2366 =>
some (.inl (k_2363,(l2149 ++ [(line.extract i_2148.toNat k_2363.toNat)])))
def g128_j3 (i_2148 : Int) (line : ByteArray) (l2149 : List ByteArray) (k_2422 : Int) : Option ((Int × (List ByteArray)) ⊕ ((List ByteArray) ⊕ ((List ByteArray) × Bool))) :=
(Jw i_2148 k_2422 line.size).bind fun u2423 =>
(if Zo k_2422 (line.size : Int) = true then (Wg line k_2422).bind fun e2425 => some (Yx e2425 40) else some false).bind fun w2427 =>
if (w2427 && ((Jb (line.extract i_2148.toNat k_2422.toNat) (⟨#[109,105,110]⟩ : ByteArray) || Jb (line.extract i_2148.toNat k_2422.toNat) (⟨#[109,97,120]⟩ : ByteArray)) || Jb (line.extract i_2148.toNat k_2422.toNat) (⟨#[112,105,99,107]⟩ : ByteArray))) = true then
g128_j2 i_2148 line l2149 (aI .i64 k_2422 1)
else
g128_j2 i_2148 line l2149 k_2422
def g128_L2 (line : ByteArray) : (Int)→Option ((Int) ⊕ (Int))
| k_2464 =>
(if Zo k_2464 (line.size : Int) = true then (Wg line k_2464).bind fun e2465 => (g142 e2465).bind fun r2467 => (if r2467 = true then some true else (Wg line k_2464).bind fun e2469 => (g143 e2469).bind fun r2471 => some r2471).bind fun w2473 => some w2473 else some false).bind fun w2474 =>
if w2474 = true then
some (.inl (aI .i64 k_2464 1))
else
some (.inr k_2464)
def g128_L3 (line : ByteArray) : (Int)→Option ((Int) ⊕ (Int))
| k_2537 =>
(if Zo k_2537 (line.size : Int) = true then (Wg line k_2537).bind fun e2538 => (g143 e2538).bind fun r2540 => some r2540 else some false).bind fun w2542 =>
if w2542 = true then
some (.inl (aI .i64 k_2537 1))
else
some (.inr k_2537)
def g128_j4 (line : ByteArray) (i_2148 : Int) (l2149 : List ByteArray) (k_2510 : Int) : Option ((Int × (List ByteArray)) ⊕ ((List ByteArray) ⊕ ((List ByteArray) × Bool))) :=
(if Zo (aI .i64 k_2510 1) (line.size : Int) = true then (Wg line k_2510).bind fun e2511 => some (Yx e2511 47) else some false).bind fun w2513 =>
(if w2513 = true then (Wg line (aI .i64 k_2510 1)).bind fun e2514 => (g143 e2514).bind fun r2516 => some r2516 else some false).bind fun w2518 =>
if w2518 = true then
(loopO (g128_L3 line) (aI .i64 k_2510 1)).bind fun w => g128_j2 i_2148 line l2149 w
else
g128_j2 i_2148 line l2149 k_2510
def g128_L4 (line : ByteArray) : (Int)→Option ((Int) ⊕ (Int))
| k_2568 =>
(if Zo k_2568 (line.size : Int) = true then (Wg line k_2568).bind fun e2569 => (g143 e2569).bind fun r2571 => some r2571 else some false).bind fun w2573 =>
if w2573 = true then
some (.inl (aI .i64 k_2568 1))
else
some (.inr k_2568)
def g128_L1 (line : ByteArray) : (Int × (List ByteArray))→Option ((Int × (List ByteArray)) ⊕ ((List ByteArray) ⊕ ((List ByteArray) × Bool)))
| (i_2148,l2149) =>
if Zo i_2148 (line.size : Int) = true then
(Wg line i_2148).bind fun e2151 =>
if Yx e2151 32 = true then
some (.inl (aI .i64 i_2148 1,l2149))
else
(g142 e2151).bind fun r2369 =>
if r2369 = true then
(loopO (g128_L2 line) (aI .i64 i_2148 1)).bind fun w => g128_j3 i_2148 line l2149 w
else
(g143 e2151).bind fun r2481 =>
if r2481 = true then
(loopO (g128_L4 line) (aI .i64 i_2148 1)).bind fun w => g128_j4 line i_2148 l2149 w
else
if (((((((Yx e2151 61 || Yx e2151 60) || Yx e2151 43) || Yx e2151 45) || Yx e2151 42) || Yx e2151 40) || Yx e2151 41) || Yx e2151 44) = true then
g128_j2 i_2148 line l2149 (aI .i64 i_2148 1)
else
some (.inr (.inr (l2149,false)))
else
some (.inr (.inl l2149))
def g128 (line : ByteArray) : Option ((List ByteArray) × Bool) :=
(loopO (g128_L1 line) (0,[])).bind fun w => match w with
| .inl y => g128_j1 y
| .inr r => some r
@[simp] def eA128 (a : ByteArray) : List V:=[.str a]
def eB128 (r : (List ByteArray) × Bool) : V:=.tup [.own 1 (rows Yu r.1),.b r.2]
theorem inj128 (a a' : ByteArray) (h : eA128 a = eA128 a') : a = a':=by simpa [eA128,Prod.ext_iff] using h
def F128 : List V→Option V:=tells (fun a => g128 a) eA128 eB128
theorem ok128 : Zz Tryz.prog 128 F128:=by
 refine Zg 161 Tryz.func128 ?_
 rintro line r h
 rw [g128] at h
 have hC : Qc.Ok Tryz.prog [(142,F142),(143,F143)]:=⟨.inl ok142,.inl ok143,trivial⟩
 refine VW.seq (Za [0] hC (q:=(VW.seq (Za [0,4] hC (q:=(VW.join (fun (v : List ByteArray) => (⟨(tm 161 [(4,.ref 0 0 v.length)]),[some (1,rows Yu v)],[]⟩ : VS)) (fun v => (g128_j1 (v)).bind some = some r) ?_ ?_))))))
 ·refine VW.seq (Za [0,4,5] hC (q:=VW.block ?_))
  obtain ⟨w_1,hw_1,h⟩:=Zc h
  refine VW.loopO (fun (x : Int × (List ByteArray)) => (⟨(tm 161 [(0,.str line),(4,.ref 0 0 x.2.length),(5,.i .i64 x.1)]),[some (1,rows Yu x.2)],[]⟩ : VS)) hw_1 (Ze 1) ?_
  rintro n_1 ⟨i_2148,l2149⟩ h1
  rw [g128_L1] at h1
  refine VW.seq (VW.seq (Za [0,4,5,13] hC (q:=(Zk h1 (fun h1 => ?_) (fun h1 => ?_)))))
  ·refine VW.exit ?_
   have e_:=Yd h1
   subst w_1
   exact Zn l2149 h (Ze 1)
  refine VW.skip (VW.block (VW.seq ?_))
  obtain ⟨e2151,⟨f2152a,c2152,f2152b,f2152c,f2152d⟩,h1⟩:=bindIS h1
  refine Zj [0,4,5,6] hC (q:=(VW.seq (Za [0,4,5,6,7] hC (q:=(VW.join (fun (v : Int) => (⟨(tm 161 [(0,.str line),(4,.ref 0 0 l2149.length),(5,.i .i64 i_2148),(7,.i .i64 v)]),[some (1,rows Yu l2149)],[]⟩ : VS)) (fun v => (g128_j2 i_2148 line l2149 (v)).bind (kN (g128_L1 line) n_1) = some w_1) ?_ ?_)))))
  ·refine VW.block (VW.seq (Za [0,4,5,6,7,20] hC (q:=(Zd h1 (fun h1 => ?_) (fun h1 => ?_)))))
   ·exact VW.seq (Za [0,4,5] hC (q:=(VW.exit (Zn (aI .i64 i_2148 1,l2149) (Yr h1) (Ze 1)))))
   refine VW.seq ?_
   obtain ⟨r2369,q2370,h1⟩:=Zc h1
   have c2370:=tl142 q2370
   refine Zj [0,4,5,6,7,25] hC (q:=(Zd h1 (fun h1 => ?_) (fun h1 => ?_)))
   ·refine VW.join (fun (v : Int) => (⟨(tm 161 [(0,.str line),(4,.ref 0 0 l2149.length),(5,.i .i64 i_2148),(7,.i .i64 v)]),[some (1,rows Yu l2149)],[]⟩ : VS)) (fun v => (g128_j3 i_2148 line l2149 (v)).bind (kN (g128_L1 line) n_1) = some w_1) ?_ ?_
    ·refine VW.block ?_
     obtain ⟨w_2,hw_2,h1⟩:=Zc h1
     refine VW.loopO (fun (x : Int) => (⟨(tm 161 [(0,.str line),(4,.ref 0 0 l2149.length),(5,.i .i64 i_2148),(7,.i .i64 x)]),[some (1,rows Yu l2149)],[]⟩ : VS)) hw_2 (Ze 1) ?_
     rintro n_2 k_2464 h2
     rw [g128_L2] at h2
     refine VW.seq (VW.seq ?_)
     obtain ⟨w2474,q2476,h2⟩:=Zc h2
     refine Yg (tm 161 [(0,.str line),(4,.ref 0 0 l2149.length),(5,.i .i64 i_2148),(7,.i .i64 k_2464),(43,.b w2474)]) [some (1,rows Yu l2149)] [] hC (by kernel_rfl) (by
       obtain ⟨q2477,q2476⟩ | ⟨q2477,rfl⟩:=Ux q2476
       ·obtain ⟨e2465,q2466,q2476⟩:=Yb q2476
        obtain ⟨f2466a,c2466,f2466b,f2466c,f2466d⟩:=Xq q2466
        obtain ⟨r2467,q2468,q2476⟩:=Yb q2476
        have c2468:=tl142 q2468
        obtain ⟨w2473,q2478,q2476⟩:=Yb q2476
        obtain rfl:=Option.some.inj q2476
        obtain ⟨q2479,q2478⟩ | ⟨q2479,rfl⟩:=Uh q2478
        ·obtain ⟨e2469,q2470,q2478⟩:=Yb q2478
         have d2480 : e2469 = e2465:=Option.some.inj (q2470.symm.trans q2466)
         obtain ⟨r2471,q2472,q2478⟩:=Yb q2478
         have c2472:=tl143 q2472
         try simp only [d2480] at c2472
         obtain rfl:=Option.some.inj q2478
         simp -implicitDefEqProofs [q2477,f2466a,f2466b,f2466c,f2466d,c2468,q2479,d2480,c2472]
        simp -implicitDefEqProofs [q2477,f2466a,f2466b,f2466c,f2466d,c2468,q2479]
       simp -implicitDefEqProofs [q2477]) ?_
     refine Zk h2 (fun h2 => ?_) (fun h2 => ?_)
     ·refine VW.exit ?_
      have e_:=Yd h2
      subst w_2
      exact Zn k_2464 h1 (Ze 1)
     exact VW.skip (VW.block (Za [0,4,5,7] hC (q:=(Zn (aI .i64 k_2464 1) (Yr h2) (Ze 1)))))
    rintro k_2422 h1
    replace h1 : (g128_j3 i_2148 line l2149 k_2422).bind _ = _:=h1
    rw [g128_j3] at h1
    refine VW.seq ?_
    obtain ⟨u2423,⟨f2424a,f2424b,f2424c,f2424d,f2424e⟩,h1⟩:=Gj h1
    try simp only [Int.toNat_natCast,Int.reduceToNat,List.length_cons,List.length_nil,Nat.reduceAdd,Nat.zero_add] at f2424a f2424b f2424c f2424d f2424e
    refine Zj [0,4,5,7,8] hC (q:=VW.seq ?_)
    obtain ⟨w2427,q2429,h1⟩:=Zc h1
    refine Yg (tm 161 [(0,.str line),(4,.ref 0 0 l2149.length),(5,.i .i64 i_2148),(7,.i .i64 k_2422),(71,.b (w2427 && ((Jb (line.extract i_2148.toNat k_2422.toNat) (⟨#[109,105,110]⟩ : ByteArray) || Jb (line.extract i_2148.toNat k_2422.toNat) (⟨#[109,97,120]⟩ : ByteArray)) || Jb (line.extract i_2148.toNat k_2422.toNat) (⟨#[112,105,99,107]⟩ : ByteArray))))]) [some (1,rows Yu l2149)] [] hC (by kernel_rfl) (by
      obtain ⟨q2430,q2429⟩ | ⟨q2430,rfl⟩:=Ux q2429
      ·obtain ⟨e2425,q2426,q2429⟩:=Yb q2429
       obtain ⟨f2426a,c2426,f2426b,f2426c,f2426d⟩:=Xq q2426
       obtain rfl:=Option.some.inj q2429
       simp -implicitDefEqProofs [q2430,f2426a,f2426b,f2426c,f2426d]
      simp -implicitDefEqProofs [q2430]) ?_
    refine Zk h1 (fun h1 => ?_) (fun h1 => ?_)
    ·exact VW.skip (Zn k_2422 h1 (Ze 1))
    exact Za [0,4,5,7] hC (q:=(Zn (aI .i64 k_2422 1) h1 (Ze 1)))
   refine VW.seq ?_
   obtain ⟨r2481,q2482,h1⟩:=Zc h1
   have c2482:=tl143 q2482
   refine Zj [0,4,5,6,7,74] hC (q:=(Zk h1 (fun h1 => ?_) (fun h1 => ?_)))
   ·refine VW.seq (Za [0,4,5,7,121] hC (q:=(Zd h1 (fun h1 => ?_) (fun h1 => ?_))))
    ·exact VW.skip (Zn (aI .i64 i_2148 1) h1 (Ze 1))
    refine VW.seq (Za [2,3] hC (q:=?_))
    have e_:=Yd h1
    subst w_1
    exact VW.ret (Zb h (by simp [eB128]))
   refine VW.join (fun (v : Int) => (⟨(tm 161 [(0,.str line),(4,.ref 0 0 l2149.length),(5,.i .i64 i_2148),(7,.i .i64 v)]),[some (1,rows Yu l2149)],[]⟩ : VS)) (fun v => (g128_j4 line i_2148 l2149 (v)).bind (kN (g128_L1 line) n_1) = some w_1) ?_ ?_
   ·refine VW.block ?_
    obtain ⟨w_4,hw_4,h1⟩:=Zc h1
    refine VW.loopO (fun (x : Int) => (⟨(tm 161 [(0,.str line),(4,.ref 0 0 l2149.length),(5,.i .i64 i_2148),(7,.i .i64 x)]),[some (1,rows Yu l2149)],[]⟩ : VS)) hw_4 (Ze 1) ?_
    rintro n_4 k_2568 h2
    rw [g128_L4] at h2
    refine VW.seq (VW.seq ?_)
    obtain ⟨w2573,q2575,h2⟩:=Zc h2
    refine Yg (tm 161 [(0,.str line),(4,.ref 0 0 l2149.length),(5,.i .i64 i_2148),(7,.i .i64 k_2568),(86,.b w2573)]) [some (1,rows Yu l2149)] [] hC (by kernel_rfl) (by
      obtain ⟨q2576,q2575⟩ | ⟨q2576,rfl⟩:=Ux q2575
      ·obtain ⟨e2569,q2570,q2575⟩:=Yb q2575
       obtain ⟨f2570a,c2570,f2570b,f2570c,f2570d⟩:=Xq q2570
       obtain ⟨r2571,q2572,q2575⟩:=Yb q2575
       have c2572:=tl143 q2572
       obtain rfl:=Option.some.inj q2575
       simp -implicitDefEqProofs [q2576,f2570a,f2570b,f2570c,f2570d,c2572]
      simp -implicitDefEqProofs [q2576]) ?_
    refine Zk h2 (fun h2 => ?_) (fun h2 => ?_)
    ·refine VW.exit ?_
     have e_:=Yd h2
     subst w_4
     exact Zn k_2568 h1 (Ze 1)
    exact VW.skip (VW.block (Za [0,4,5,7] hC (q:=(Zn (aI .i64 k_2568 1) (Yr h2) (Ze 1)))))
   rintro k_2510 h1
   replace h1 : (g128_j4 line i_2148 l2149 k_2510).bind _ = _:=h1
   rw [g128_j4] at h1
   refine VW.seq ?_
   obtain ⟨w2513,q2546,h1⟩:=Zc h1
   obtain ⟨w2518,q2547,h1⟩:=Zc h1
   refine Yg (tm 161 [(0,.str line),(4,.ref 0 0 l2149.length),(5,.i .i64 i_2148),(7,.i .i64 k_2510),(106,.b w2518)]) [some (1,rows Yu l2149)] [] hC (by kernel_rfl) (by
     obtain ⟨q2548,q2546⟩ | ⟨q2548,rfl⟩:=Ux q2546
     ·obtain ⟨e2511,q2512,q2546⟩:=Yb q2546
      obtain ⟨f2512a,c2512,f2512b,f2512c,f2512d⟩:=Xq q2512
      obtain rfl:=Option.some.inj q2546
      obtain ⟨q2549,q2547⟩ | ⟨q2549,rfl⟩:=Ux q2547
      ·obtain ⟨e2514,q2515,q2547⟩:=Yb q2547
       obtain ⟨f2515a,c2515,f2515b,f2515c,f2515d⟩:=Xq q2515
       obtain ⟨r2516,q2517,q2547⟩:=Yb q2547
       have c2517:=tl143 q2517
       obtain rfl:=Option.some.inj q2547
       simp -implicitDefEqProofs [q2548,f2512a,f2512b,f2512c,f2512d,q2549,f2515a,f2515b,f2515c,f2515d,c2517]
      simp -implicitDefEqProofs [q2548,f2512a,f2512b,f2512c,f2512d,q2549]
     obtain ⟨q2550,q2547⟩ | ⟨q2550,rfl⟩:=Ux q2547
     ·exact absurd q2550 (by simp)
     simp -implicitDefEqProofs [q2548,q2550]) ?_
   refine Zk h1 (fun h1 => ?_) (fun h1 => ?_)
   ·exact VW.skip (Zn k_2510 h1 (Ze 1))
   refine VW.seq (Za [0,4,5,7] hC (q:=VW.block ?_))
   obtain ⟨w_3,hw_3,h1⟩:=Zc h1
   refine VW.loopO (fun (x : Int) => (⟨(tm 161 [(0,.str line),(4,.ref 0 0 l2149.length),(5,.i .i64 i_2148),(7,.i .i64 x)]),[some (1,rows Yu l2149)],[]⟩ : VS)) hw_3 (Ze 1) ?_
   rintro n_3 k_2537 h2
   rw [g128_L3] at h2
   refine VW.seq (VW.seq ?_)
   obtain ⟨w2542,q2544,h2⟩:=Zc h2
   refine Yg (tm 161 [(0,.str line),(4,.ref 0 0 l2149.length),(5,.i .i64 i_2148),(7,.i .i64 k_2537),(118,.b w2542)]) [some (1,rows Yu l2149)] [] hC (by kernel_rfl) (by
     obtain ⟨q2545,q2544⟩ | ⟨q2545,rfl⟩:=Ux q2544
     ·obtain ⟨e2538,q2539,q2544⟩:=Yb q2544
      obtain ⟨f2539a,c2539,f2539b,f2539c,f2539d⟩:=Xq q2539
      obtain ⟨r2540,q2541,q2544⟩:=Yb q2544
      have c2541:=tl143 q2541
      obtain rfl:=Option.some.inj q2544
      simp -implicitDefEqProofs [q2545,f2539a,f2539b,f2539c,f2539d,c2541]
     simp -implicitDefEqProofs [q2545]) ?_
   refine Zk h2 (fun h2 => ?_) (fun h2 => ?_)
   ·refine VW.exit ?_
    have e_:=Yd h2
    subst w_3
    exact Zn k_2537 h1 (Ze 1)
   exact VW.skip (VW.block (Za [0,4,5,7] hC (q:=(Zn (aI .i64 k_2537 1) (Yr h2) (Ze 1)))))
  rintro k_2363 h1
  replace h1 : (g128_j2 i_2148 line l2149 k_2363).bind _ = _:=h1
  rw [g128_j2] at h1
  refine VW.seq ?_
  obtain ⟨u2364,⟨f2365a,f2365b,f2365c,f2365d,f2365e⟩,h1⟩:=Gj h1
  try simp only [Int.toNat_natCast,Int.reduceToNat,List.length_cons,List.length_nil,Nat.reduceAdd,Nat.zero_add] at f2365a f2365b f2365c f2365d f2365e
  obtain ⟨u2366,⟨f2367a,f2367b⟩,h1⟩:=Jp h1
  try simp only [Int.toNat_natCast,Int.reduceToNat,List.length_cons,List.length_nil,Nat.reduceAdd,Nat.zero_add] at f2367a f2367b
  exact Zj [0,4,7] hC (q:=(Za [0,4,5] hC (q:=(Zn (k_2363,(l2149 ++ [(line.extract i_2148.toNat k_2363.toNat)])) (Yr h1) (Ze 1)))))
 rintro l1289 h
 replace h : (g128_j1 l1289).bind _ = _:=h
 rw [g128_j1] at h
 refine VW.seq (Za [2,3] hC (q:=?_))
 exact VW.ret (Zb h (by simp [eB128]))
theorem tl128 {line : ByteArray} {r : (List ByteArray) × Bool} (h : g128 line = some r) : F128 [.str line] = some (.tup [.own 1 (rows Yu r.1),.b r.2]):=Zf inj128 (a:=line) h
def g129_j1 (text : ByteArray) : Option (Bool) :=
(g55 (text.size : Int) 1 8).bind fun r21 =>
some (((r21 && (!Jb text (⟨#[109,105,110]⟩ : ByteArray))) && (!Jb text (⟨#[109,97,120]⟩ : ByteArray))) && (!Jb text (⟨#[112,105,99,107]⟩ : ByteArray)))
def g129_L1 (text : ByteArray) : (Int)→Option ((Int) ⊕ ((Unit) ⊕ (Bool)))
| i_36 =>
if Zo i_36 (text.size : Int) = true then
(Wg text i_36).bind fun e38 =>
(g142 e38).bind fun r40 =>
if (!r40) = true then
some (.inr (.inr false))
else
some (.inl (aI .i64 i_36 1))
else
some (.inr (.inl ()))
def g129 (text : ByteArray) : Option (Bool) :=
(loopO (g129_L1 text) 0).bind fun w => match w with
| .inl y => g129_j1 text
| .inr r => some r
@[simp] def eA129 (a : ByteArray) : List V:=[.str a]
def eB129 (r : Bool) : V:=.b r
theorem inj129 (a a' : ByteArray) (h : eA129 a = eA129 a') : a = a':=by simpa [eA129,Prod.ext_iff] using h
def F129 : List V→Option V:=tells (fun a => g129 a) eA129 eB129
theorem ok129 : Zz Tryz.prog 129 F129:=by
 refine Zg 30 Tryz.func129 ?_
 rintro text r h
 rw [g129] at h
 have hC : Qc.Ok Tryz.prog [(55,F55),(142,F142)]:=⟨.inl ok55,.inl ok142,trivial⟩
 refine VW.seq (Za [0] hC (q:=(VW.join (fun (v : Unit) => (⟨(tm 30 [(0,.str text)]),[],[]⟩ : VS)) (fun v => (g129_j1 text).bind some = some r) ?_ ?_)))
 ·refine VW.seq (Za [0,3] hC (q:=VW.block ?_))
  obtain ⟨w_1,hw_1,h⟩:=Zc h
  refine VW.loopO (fun (x : Int) => (⟨(tm 30 [(0,.str text),(3,.i .i64 x)]),[],[]⟩ : VS)) hw_1 (Ze 0) ?_
  rintro n_1 i_36 h1
  rw [g129_L1] at h1
  refine VW.seq (VW.seq (Za [0,3,7] hC (q:=(Zk h1 (fun h1 => ?_) (fun h1 => ?_)))))
  ·refine VW.exit ?_
   have e_:=Yd h1
   subst w_1
   exact Zn () h (Ze 0)
  refine VW.skip (VW.seq (VW.block (VW.seq ?_)))
  obtain ⟨e38,⟨f39a,c39,f39b,f39c,f39d⟩,h1⟩:=bindIS h1
  obtain ⟨r40,q41,h1⟩:=Zc h1
  have c41:=tl142 q41
  refine Zj [0,3,14] hC (q:=(Zk h1 (fun h1 => ?_) (fun h1 => ?_)))
  ·exact VW.skip (Za [0,3] hC (q:=(Zn (aI .i64 i_36 1) (Yr h1) (Ze 0))))
  refine VW.seq (Za [2] hC (q:=?_))
  have e_:=Yd h1
  subst w_1
  exact VW.ret (Zb h (by simp [eB129]))
 rintro _ h
 replace h : (g129_j1 text).bind _ = _:=h
 rw [g129_j1] at h
 refine VW.seq ?_
 obtain ⟨r21,q22,h⟩:=Zc h
 have c22:=tl55 q22
 refine Zj [2] hC (q:=?_)
 exact VW.ret (Zb h (by simp [eB129]))
theorem tl129 {text : ByteArray} {r : Bool} (h : g129 text = some r) : F129 [.str text] = some (.b r):=Zf inj129 (a:=text) h
def g158 (r_ : T204) (part : ByteArray) : Option (Bool) :=
(if ((!r_.bad_) && Zo 0 (r_.parts_.length : Int)) = true then (Wp r_.parts_ 0).bind fun e1 => some (Jb e1 part) else some false).bind fun w3 =>
some w3
@[simp] def eA158 (a : T204 × ByteArray) : List V:=[.cptr (Wm a.1) 0,.str a.2]
def eB158 (r : Bool) : V:=.b r
theorem inj158 (a a' : T204 × ByteArray) (h : eA158 a = eA158 a') : a = a':=by simpa [eA158,Prod.ext_iff] using h
def F158 : List V→Option V:=tells (fun a => g158 a.1 a.2) eA158 eB158
theorem ok158 : Zz Tryz.prog 158 F158:=by
 refine Zg 28 Tryz.func158 ?_
 rintro ⟨r_,part⟩ r h
 replace h : (g158 r_ part).bind some = some r:=h
 rw [g158] at h
 have hC : Qc.Ok Tryz.prog []:=trivial
 refine VW.seq (Za [0,1] hC (q:=VW.seq ?_))
 obtain ⟨w3,q4,h⟩:=Zc h
 refine Yg (tm 28 [(4,.b w3)]) [] [] hC (by kernel_rfl) (by
   obtain ⟨q5,q4⟩ | ⟨q5,rfl⟩:=Ux q4
   ·obtain ⟨e1,q2,q4⟩:=Yb q4
    obtain ⟨f2a,f2b,f2c,f2d⟩:=Kf q2
    try simp only [Int.toNat_natCast,Int.reduceToNat] at f2a f2b f2c f2d
    obtain rfl:=Option.some.inj q4
    simp -implicitDefEqProofs [q5,f2a,f2b,f2c,f2d,Wm]
   simp -implicitDefEqProofs [q5,Wm]) ?_
 exact VW.ret (Zb h (by simp [eB158]))
theorem tl158 {r_ : T204} {part : ByteArray} {r : Bool} (h : g158 r_ part = some r) : F158 [.cptr [.sl 1 (rows Yu r_.parts_),.sl 1 (rows Yu r_.names_),.sl 3 (rows Yi r_.code_),.b r_.bad_] 0,.str part] = some (.b r):=Zf inj158 (a:=(r_,part)) h
def g131_j1 : Option (Int) :=
some (-1)
def g131_L1 (names : List ByteArray) (name : ByteArray) : (Int)→Option ((Int) ⊕ ((Unit) ⊕ (Int)))
| i_24 =>
if Zo i_24 (names.length : Int) = true then
(Wp names i_24).bind fun e26 =>
if Jb e26 name = true then
some (.inr (.inr i_24))
else
some (.inl (aI .i64 i_24 1))
else
some (.inr (.inl ()))
def g131 (names : List ByteArray) (name : ByteArray) : Option (Int) :=
(loopO (g131_L1 names name) 0).bind fun w => match w with
| .inl y => g131_j1
| .inr r => some r
@[simp] def eA131 (a : (List ByteArray) × ByteArray) : List V:=[.sl 1 (rows Yu a.1),.str a.2]
def eB131 (r : Int) : V:=.i .i64 r
theorem inj131 (a a' : (List ByteArray) × ByteArray) (h : eA131 a = eA131 a') : a = a':=by simpa [eA131,Prod.ext_iff] using h
def F131 : List V→Option V:=tells (fun a => g131 a.1 a.2) eA131 eB131
theorem ok131 : Zz Tryz.prog 131 F131:=by
 refine Zg 19 Tryz.func131 ?_
 rintro ⟨names,name⟩ r h
 replace h : (g131 names name).bind some = some r:=h
 rw [g131] at h
 have hC : Qc.Ok Tryz.prog []:=trivial
 refine VW.seq (Za [0,1] hC (q:=(VW.join (fun (v : Unit) => (⟨(tm 19 []),[],[]⟩ : VS)) (fun v => (g131_j1).bind some = some r) ?_ ?_)))
 ·refine VW.seq (Za [0,1,5] hC (q:=VW.block ?_))
  obtain ⟨w_1,hw_1,h⟩:=Zc h
  refine VW.loopO (fun (x : Int) => (⟨(tm 19 [(0,.sl 1 (rows Yu names)),(1,.str name),(5,.i .i64 x)]),[],[]⟩ : VS)) hw_1 (Ze 0) ?_
  rintro n_1 i_24 h1
  rw [g131_L1] at h1
  refine VW.seq (VW.seq (Za [0,1,5,9] hC (q:=(Zk h1 (fun h1 => ?_) (fun h1 => ?_)))))
  ·refine VW.exit ?_
   have e_:=Yd h1
   subst w_1
   exact Zn () h (Ze 0)
  refine VW.skip (VW.seq (VW.block (VW.seq ?_)))
  obtain ⟨e26,⟨f27a,f27b,f27c,f27d⟩,h1⟩:=Ys h1
  refine Zj [0,1,5,17] hC (q:=(Zd h1 (fun h1 => ?_) (fun h1 => ?_)))
  ·refine VW.seq (Za [4] hC (q:=?_))
   have e_:=Yd h1
   subst w_1
   exact VW.ret (Zb h (by simp [eB131]))
  exact VW.skip (Za [0,1,5] hC (q:=(Zn (aI .i64 i_24 1) (Yr h1) (Ze 0))))
 rintro _ h
 replace h : (g131_j1).bind _ = _:=h
 rw [g131_j1] at h
 refine VW.seq (Za [4] hC (q:=?_))
 exact VW.ret (Zb h (by simp [eB131]))
theorem tl131 {names : List ByteArray} {name : ByteArray} {r : Int} (h : g131 names name = some r) : F131 [.sl 1 (rows Yu names),.str name] = some (.i .i64 r):=Zf inj131 (a:=(names,name)) h
def g187_j1 (n_45 : Int) : Option (Int × Bool) :=
some (n_45,true)
def g187_L1 (s : ByteArray) : (Int × Int)→Option ((Int × Int) ⊕ ((Int) ⊕ (Int × Bool)))
| (n_72,i_73) =>
if Zo i_73 (s.size : Int) = true then
(Wg s i_73).bind fun e75 =>
(if Zo e75 48 = true then some true else (Wg s i_73).bind fun e77 => some (Zo 57 e77)).bind fun w79 =>
if w79 = true then
some (.inr (.inr (0,false)))
else
(Wg s i_73).bind fun e81 =>
some (.inl (aI .i64 (mI .i64 n_72 10) (cI .i64 (sI .u8 e81 48)),aI .i64 i_73 1))
else
some (.inr (.inl n_72))
def g187 (s : ByteArray) : Option (Int × Bool) :=
(if (Zo (s.size : Int) 1 || Zo 9 (s.size : Int)) = true then some true else (Wg s 0).bind fun e1 => some (Yx e1 48 && Zo 1 (s.size : Int))).bind fun w3 =>
if w3 = true then
some (0,false)
else
(loopO (g187_L1 s) (0,0)).bind fun w => match w with
| .inl y => g187_j1 y
| .inr r => some r
@[simp] def eA187 (a : ByteArray) : List V:=[.str a]
def eB187 (r : Int × Bool) : V:=.tup [.i .i64 r.1,.b r.2]
theorem inj187 (a a' : ByteArray) (h : eA187 a = eA187 a') : a = a':=by simpa [eA187,Prod.ext_iff] using h
def F187 : List V→Option V:=tells (fun a => g187 a) eA187 eB187
theorem ok187 : Zz Tryz.prog 187 F187:=by
 refine Zg 49 Tryz.func187 ?_
 rintro s r h
 rw [g187] at h
 have hC : Qc.Ok Tryz.prog []:=trivial
 refine VW.seq (Za [0] hC (q:=(VW.seq (VW.seq ?_))))
 obtain ⟨w3,q86,h⟩:=Zc h
 refine Yg (tm 49 [(0,.str s),(23,.b w3)]) [] [] hC (by kernel_rfl) (by
   obtain ⟨q87,q86⟩ | ⟨q87,rfl⟩:=Uh q86
   ·obtain ⟨e1,q2,q86⟩:=Yb q86
    obtain ⟨f2a,c2,f2b,f2c,f2d⟩:=Xq q2
    simp only [Int.reduceToNat] at f2b f2d
    obtain rfl:=Option.some.inj q86
    simp -implicitDefEqProofs [q87,f2a,f2b,f2c,f2d]
   simp -implicitDefEqProofs [q87]) ?_
 refine Zd h (fun h => ?_) (fun h => ?_)
 ·refine VW.seq (Za [2,3] hC (q:=?_))
  exact VW.ret (Zb h (by simp [eB187]))
 refine VW.skip (VW.seq (Za [0,4] hC (q:=(VW.join (fun (v : Int) => (⟨(tm 49 [(4,.i .i64 v)]),[],[]⟩ : VS)) (fun v => (g187_j1 (v)).bind some = some r) ?_ ?_))))
 ·refine VW.seq (Za [0,4,5] hC (q:=VW.block ?_))
  obtain ⟨w_1,hw_1,h⟩:=Zc h
  refine VW.loopO (fun (x : Int × Int) => (⟨(tm 49 [(0,.str s),(4,.i .i64 x.1),(5,.i .i64 x.2)]),[],[]⟩ : VS)) hw_1 (Ze 0) ?_
  rintro n_1 ⟨n_72,i_73⟩ h1
  rw [g187_L1] at h1
  refine VW.seq (VW.seq (Za [0,4,5,27] hC (q:=(Zk h1 (fun h1 => ?_) (fun h1 => ?_)))))
  ·refine VW.exit ?_
   have e_:=Yd h1
   subst w_1
   exact Zn n_72 h (Ze 0)
  refine VW.skip (VW.seq (VW.block (VW.seq (VW.seq ?_))))
  obtain ⟨e75,q76,h1⟩:=Zc h1
  obtain ⟨f76a,c76,f76b,f76c,f76d⟩:=Xq q76
  obtain ⟨w79,q83,h1⟩:=Zc h1
  refine Yg (tm 49 [(0,.str s),(4,.i .i64 n_72),(5,.i .i64 i_73),(39,.b w79)]) [] [] hC (by kernel_rfl) (by
    obtain ⟨q84,q83⟩ | ⟨q84,rfl⟩:=Uh q83
    ·obtain ⟨e77,q78,q83⟩:=Yb q83
     have d85 : e77 = e75:=Option.some.inj (q78.symm.trans q76)
     obtain rfl:=Option.some.inj q83
     simp -implicitDefEqProofs [f76a,f76b,f76c,f76d,q84,d85]
    simp -implicitDefEqProofs [f76a,f76b,f76c,f76d,q84]) ?_
  refine Zd h1 (fun h1 => ?_) (fun h1 => ?_)
  ·refine VW.seq (Za [2,3] hC (q:=?_))
   have e_:=Yd h1
   subst w_1
   exact VW.ret (Zb h (by simp [eB187]))
  refine VW.skip ?_
  obtain ⟨e81,⟨f82a,c82,f82b,f82c,f82d⟩,h1⟩:=bindIS h1
  exact Za [0,4,5] hC (h:=by simp -implicitDefEqProofs [f82a,f82b,f82c,f82d]; exact .rfl) (q:=(Za [0,4,5] hC (q:=(Zn (aI .i64 (mI .i64 n_72 10) (cI .i64 (sI .u8 e81 48)),aI .i64 i_73 1) (Yr h1) (Ze 0)))))
 rintro n_45 h
 replace h : (g187_j1 n_45).bind _ = _:=h
 rw [g187_j1] at h
 refine VW.seq (Za [2,3] hC (q:=?_))
 exact VW.ret (Zb h (by simp [eB187]))
theorem tl187 {s : ByteArray} {r : Int × Bool} (h : g187 s = some r) : F187 [.str s] = some (.tup [.i .i64 r.1,.b r.2]):=Zf inj187 (a:=s) h
def g180 (text : ByteArray) : Option (F32 × Bool) :=
(g102 text 47).bind fun r1 =>
(Wp r1 0).bind fun e3 =>
(g187 e3).bind fun r5 =>
(if (!r5.2) = true then some true else (Wp r1 0).bind fun e7 => some (Zo 6 (e7.size : Int))).bind fun w9 =>
if (w9 || Zo 2 (r1.length : Int)) = true then
some ((some 0),false)
else
if Yx (r1.length : Int) 1 = true then
some (Ge .f32 r5.1,true)
else
(Wp r1 1).bind fun e12 =>
(g187 e12).bind fun r14 =>
if ((((!r14.2) || Zo r14.1 2) || Zo 1024 r14.1) || (!Yx (andI .i64 r14.1 (sI .i64 r14.1 1)) 0)) = true then
some ((some 0),false)
else
some (quoF .f32 (Ge .f32 r5.1) (Ge .f32 r14.1),true)
@[simp] def eA180 (a : ByteArray) : List V:=[.str a]
def eB180 (r : F32 × Bool) : V:=.tup [.f .f32 r.1,.b r.2]
theorem inj180 (a a' : ByteArray) (h : eA180 a = eA180 a') : a = a':=by simpa [eA180,Prod.ext_iff] using h
def F180 : List V→Option V:=tells (fun a => g180 a) eA180 eB180
theorem ok180 : Zz Tryz.prog 180 F180:=by
 refine Zg 66 Tryz.func180 ?_
 rintro text r h
 rw [g180] at h
 have hC : Qc.Ok Tryz.prog [(102,fzF F102),(187,F187)]:=⟨.inl ok102.fz,.inl ok187,trivial⟩
 refine VW.seq (Za [0] hC (q:=VW.seq ?_))
 obtain ⟨r1,q2,h⟩:=Zc h
 have c2:=tl102 q2
 replace c2 : fzF F102 [.str text,.i .u8 47] = some (.sl 1 (rows Yu r1)):=(fzF_eq c2).trans (by simp)
 refine Zj [4] hC (q:=VW.seq ?_)
 obtain ⟨e3,⟨f4a,f4b,f4c,f4d⟩,h⟩:=Ys h
 try simp only [Int.toNat_natCast,Int.reduceToNat] at f4a f4b f4c f4d
 obtain ⟨r5,q6,h⟩:=Zc h
 have c6:=tl187 q6
 refine Zj [4,5,6] hC (q:=(VW.seq (VW.seq ?_)))
 obtain ⟨w9,q17,h⟩:=Zc h
 refine Yg (tm 66 [(4,.sl 1 (rows Yu r1)),(5,.i .i64 r5.1),(31,.b (w9 || Zo 2 (r1.length : Int)))]) [] [] hC (by kernel_rfl) (by
   obtain ⟨q18,q17⟩ | ⟨q18,rfl⟩:=Uh q17
   ·obtain ⟨e7,q8,q17⟩:=Yb q17
    obtain ⟨f8a,f8b,f8c,f8d⟩:=Kf q8
    try simp only [Int.toNat_natCast,Int.reduceToNat] at f8a f8b f8c f8d
    obtain rfl:=Option.some.inj q17
    simp -implicitDefEqProofs [q18,f8a,f8b,f8c,f8d]
   simp -implicitDefEqProofs [q18]) ?_
 refine Zd h (fun h => ?_) (fun h => ?_)
 ·refine VW.seq (Za [2,3] hC (q:=?_))
  exact VW.ret (Zb h (by simp [eB180]))
 refine VW.skip (VW.seq (VW.seq (Za [4,5,34] hC (q:=(Zd h (fun h => ?_) (fun h => ?_))))))
 ·refine VW.seq (Za [2,3] hC (q:=?_))
  exact VW.ret (Zb h (by simp [eB180]))
 refine VW.skip (VW.seq ?_)
 obtain ⟨e12,⟨f13a,f13b,f13c,f13d⟩,h⟩:=Ys h
 try simp only [Int.toNat_natCast,Int.reduceToNat] at f13a f13b f13c f13d
 obtain ⟨r14,q15,h⟩:=Zc h
 have c15:=tl187 q15
 refine Zj [5,7,8] hC (q:=(VW.seq (VW.seq (Za [5,7,60] hC (q:=(Zd h (fun h => ?_) (fun h => ?_)))))))
 ·refine VW.seq (Za [2,3] hC (q:=?_))
  exact VW.ret (Zb h (by simp [eB180]))
 refine VW.skip (VW.seq (Za [2,3] hC (q:=?_)))
 exact VW.ret (Zb h (by simp [eB180]))
theorem tl180 {text : ByteArray} {r : F32 × Bool} (h : g180 text = some r) : F180 [.str text] = some (.tup [.f .f32 r.1,.b r.2]):=Zf inj180 (a:=text) h
def g145 (r_ : T204) (part : ByteArray) : Option (Bool × T204) :=
(g158 r_ part).bind fun r1 =>
if (!r1) = true then
some (false,r_)
else
(Jw 1 (r_.parts_.length : Int) r_.parts_.length).bind fun u4 =>
some (true,(⟨(r_.parts_.tail),r_.names_,r_.code_,r_.bad_⟩ : T204))
theorem ok145 : Xr Tryz.prog 145 (fun a : (List T189) × T204 × ByteArray => g145 a.2.1 a.2.2) (fun a => [.ptr 4 0 0,.str a.2.2]) (fun a => Yc a.1 a.2.1) (fun r => .b r.1) (fun a r => Yc a.1 r.2) (Uf 5) 6:=by
 refine Xr.of Tryz.func145 (by kernel_rfl) rfl rfl rfl ?_
 rintro ⟨pc,r_,part⟩ r h gg hgk hgb
 replace h : (g145 r_ part).bind some = some r:=Qi h
 rw [g145] at h
 have hC : Qc.Ok Tryz.prog [(158,F158)]:=⟨.inl ok158,trivial⟩
 refine VW.ent (s:=(⟨(tm 17 [(0,.ptr 4 0 0),(1,.str part)]),(Zw pc r_.parts_ r_.names_ r_.code_ r_.bad_),gg⟩ : VS)) (Wf (by simp only [List.length_cons,List.length_nil,Nat.reduceAdd,Nat.reduceSub]; rw [Wd]; simp) rfl rfl) (VW.seq (Zj [0,1] hC (q:=(VW.seq (VW.seq ?_)))))
 obtain ⟨r1,q2,h⟩:=Zc h
 have c2:=tl158 q2
 refine Zj [0,8] hC (q:=(Zd h (fun h => ?_) (fun h => ?_)))
 ·refine VW.seq (Zj [4] hC (q:=?_))
  obtain rfl:=(Yz h).symm
  exact VW.ret (VInX.fin (Ze (t':=(tm 17 [(4,.b false)])) (m':=(Zw pc r_.parts_ r_.names_ r_.code_ r_.bad_)) 6 (hgg:=by simp [Zx,Zs,Yy hgb (show 6≤6 by decide)])) (by simp) (by simp [Yc]) rfl)
 refine VW.skip (VW.seq ?_)
 obtain ⟨u4,⟨f5a,f5b,f5c,f5d,f5e⟩,h⟩:=Gj h
 try simp only [Int.toNat_natCast,Int.reduceToNat,List.length_cons,List.length_nil,Nat.reduceAdd,Nat.zero_add] at f5a f5b f5c f5d f5e
 refine Zj [] hC (q:=(VW.seq (Zj [4] hC (q:=?_))))
 obtain rfl:=(Yz h).symm
 exact VW.ret (VInX.fin (Ze (t':=(tm 17 [(4,.b true)])) (m':=(Zw pc (r_.parts_.tail) r_.names_ r_.code_ r_.bad_)) 6 (hgg:=by simp [Zx,Zs,Yy hgb (show 6≤6 by decide)])) (by simp) (by simp [Yc]) rfl)
def g146 (r_ : T204) (kind : Int) : Option (T204) :=
(Jm 8 r_.code_ [(⟨kind,0,(some 0)⟩ : T189)]).bind fun u1 =>
some (⟨r_.parts_,r_.names_,(r_.code_ ++ [(⟨kind,0,(some 0)⟩ : T189)]),r_.bad_⟩ : T204)
theorem ok146 : Xr Tryz.prog 146 (fun a : (List T189) × T204 × Int => g146 a.2.1 a.2.2) (fun a => [.ptr 4 0 0,.i .i8 a.2.2]) (fun a => Yc a.1 a.2.1) (fun _ => .tup []) (fun a r => Yc a.1 r) (Uf 5) 6:=by
 refine Xr.of Tryz.func146 (by kernel_rfl) rfl rfl rfl ?_
 rintro ⟨pc,r_,kind⟩ r h gg hgk hgb
 replace h : (g146 r_ kind).bind some = some r:=Qi h
 rw [g146] at h
 have hC : Qc.Ok Tryz.prog []:=trivial
 refine VW.ent (s:=(⟨(tm 15 [(0,.ptr 4 0 0),(1,.i .i8 kind)]),(Zw pc r_.parts_ r_.names_ r_.code_ r_.bad_),gg⟩ : VS)) (Wf (by simp only [List.length_cons,List.length_nil,Nat.reduceAdd,Nat.reduceSub]; rw [Wd]; simp) rfl rfl) ?_
 obtain ⟨u1,⟨f2a,f2b⟩,h⟩:=Jp h
 try simp only [Int.toNat_natCast,Int.reduceToNat,List.length_cons,List.length_nil,Nat.reduceAdd,Nat.zero_add] at f2a f2b
 refine VW.evalM (CM:=[]) (tm 15 []) [some (2,[[.nil,.nil]]),some (2,[[.ref 2 0 r_.names_.length,.ref 3 0 pc.length]]),some (1,rows Yu r_.names_),some (3,rows Yi pc),some (4,[[.sl 1 (rows Yu r_.parts_),.ref 2 0 r_.names_.length,.ref 5 0 (r_.code_ ++ [(⟨kind,0,(some 0)⟩ : T189)]).length,.b r_.bad_]]),some (3,rows Yi (r_.code_ ++ [(⟨kind,0,(some 0)⟩ : T189)])),some (3,rows Yi [(⟨kind,0,(some 0)⟩ : T189)])] gg hC trivial (by simp -implicitDefEqProofs [f2a,f2b,hgk]) ?_
 obtain rfl:=(Yz h).symm
 exact (VInX.fin (Ze (t':=(tm 15 [])) (m':=(Zw pc r_.parts_ r_.names_ (r_.code_ ++ [(⟨kind,0,(some 0)⟩ : T189)]) r_.bad_)) 6 (hgg:=by simp [Zx,Zs,Yy hgb (show 6≤6 by decide)])) (by simp) (by simp [Yc]) rfl)
def g174 (r_ : T204) (part : ByteArray) : Option (T204) :=
(g145 r_ part).bind fun r1 =>
if (!r1.1) = true then
some (⟨r1.2.parts_,r1.2.names_,r1.2.code_,true⟩ : T204)
else
some r1.2
theorem ok174 : Xr Tryz.prog 174 (fun a : (List T189) × T204 × ByteArray => g174 a.2.1 a.2.2) (fun a => [.ptr 4 0 0,.str a.2.2]) (fun a => Yc a.1 a.2.1) (fun _ => .tup []) (fun a r => Yc a.1 r) (Uf 5) 6:=by
 refine Xr.of Tryz.func174 (by kernel_rfl) rfl rfl rfl ?_
 rintro ⟨pc,r_,part⟩ r h gg hgk hgb
 replace h : (g174 r_ part).bind some = some r:=Qi h
 rw [g174] at h
 have hC : Qc.Ok Tryz.prog []:=trivial
 refine VW.ent (s:=(⟨(tm 11 [(0,.ptr 4 0 0),(1,.str part)]),(Zw pc r_.parts_ r_.names_ r_.code_ r_.bad_),gg⟩ : VS)) (Wf (by simp only [List.length_cons,List.length_nil,Nat.reduceAdd,Nat.reduceSub]; rw [Wd]; simp) rfl rfl) (VW.seq (Zy (Zv 2 (tm 11 [(0,.ptr 4 0 0),(4,.ptr 4 0 0),(5,.str part)]) (Zw pc r_.parts_ r_.names_ r_.code_ r_.bad_) gg hC (by kernel_rfl) (by simp -implicitDefEqProofs [hgk]) ?_)))
 obtain ⟨r1,q2,h⟩:=Zc h
 refine Zq (ok145) (pc,r_,part) r1 q2 (by simp [Zm]) rfl (by simp) (by simp [Yc]) (by simp [hgk]) (by simp [Zx,Zs,hgb]) (Zu (t':=(tm 11 [(0,.ptr 4 0 0),(4,.ptr 4 0 0),(5,.str part),(6,.b r1.1)])) (m':=(Zw pc r1.2.parts_ r1.2.names_ r1.2.code_ r1.2.bad_)) (g':=gg) (by simp) (by simp [Yc]) (by simp) (Zp (tm 11 [(0,.ptr 4 0 0),(7,.b (!r1.1))]) (Zw pc r1.2.parts_ r1.2.names_ r1.2.code_ r1.2.bad_) gg hC (by kernel_rfl) (by simp -implicitDefEqProofs [hgk]) (Zk h (fun h => ?_) (fun h => ?_))))
 ·refine VW.skip ?_
  obtain rfl:=(Yz h).symm
  exact (VInX.fin (Ze (t':=(tm 11 [])) (m':=(Zw pc r1.2.parts_ r1.2.names_ r1.2.code_ r1.2.bad_)) 6 (hgg:=by simp [Zx,Zs,Yy hgb (show 6≤6 by decide)])) (by simp) (by simp [Yc]) rfl)
 refine Zj [] hC (q:=?_)
 obtain rfl:=(Yz h).symm
 exact (VInX.fin (Ze (t':=(tm 11 [])) (m':=(Zw pc r1.2.parts_ r1.2.names_ r1.2.code_ true)) 6 (hgg:=by simp [Zx,Zs,Yy hgb (show 6≤6 by decide)])) (by simp) (by simp [Yc]) rfl)
def g176 (r_ : T204) : Option (T204) :=
if Yx (r_.parts_.length : Int) 0 = true then
some (⟨r_.parts_,r_.names_,r_.code_,true⟩ : T204)
else
(Wp r_.parts_ 0).bind fun e2 =>
(Jw 1 (r_.parts_.length : Int) r_.parts_.length).bind fun u4 =>
(Wg e2 0).bind fun e6 =>
(g143 e6).bind fun r8 =>
if r8 = true then
(g180 e2).bind fun r11 =>
(Jm 8 r_.code_ [(⟨1,0,r11.1⟩ : T189)]).bind fun u13 =>
some (⟨(r_.parts_.tail),r_.names_,(r_.code_ ++ [(⟨1,0,r11.1⟩ : T189)]),(r_.bad_ || (!r11.2))⟩ : T204)
else
(if Yx (e2.size : Int) 3 = true then (Jw 0 2 e2.size).bind fun u15 => some (Jb (e2.extract 0 2) (⟨#[105,110]⟩ : ByteArray)) else some false).bind fun w17 =>
(if w17 = true then (Wg e2 2).bind fun e18 => some (Xa 48 e18) else some false).bind fun w20 =>
(if w20 = true then (Wg e2 2).bind fun e21 => some (Xa e21 51) else some false).bind fun w23 =>
if w23 = true then
(Wg e2 2).bind fun e25 =>
(Jm 8 r_.code_ [(⟨2,cI .i16 (sI .u8 e25 48),(some 0)⟩ : T189)]).bind fun u27 =>
some (⟨(r_.parts_.tail),r_.names_,(r_.code_ ++ [(⟨2,cI .i16 (sI .u8 e25 48),(some 0)⟩ : T189)]),r_.bad_⟩ : T204)
else
(g131 r_.names_ e2).bind fun r29 =>
if Zo r29 0 = true then
some (⟨(r_.parts_.tail),r_.names_,r_.code_,true⟩ : T204)
else
(Jm 8 r_.code_ [(⟨3,cI .i16 r29,(some 0)⟩ : T189)]).bind fun u32 =>
some (⟨(r_.parts_.tail),r_.names_,(r_.code_ ++ [(⟨3,cI .i16 r29,(some 0)⟩ : T189)]),r_.bad_⟩ : T204)
theorem ok176 : Xr Tryz.prog 176 (fun a : (List T189) × T204 => g176 a.2) (fun a => [.ptr 4 0 0]) (fun a => Yc a.1 a.2) (fun _ => .tup []) (fun a r => Yc a.1 r) (Uf 5) 6:=by
 refine Xr.of Tryz.func176 (by kernel_rfl) rfl rfl rfl ?_
 rintro ⟨pc,r_⟩ r h gg hgk hgb
 replace h : (g176 r_).bind some = some r:=Qi h
 rw [g176] at h
 have hC : Qc.Ok Tryz.prog [(131,F131),(143,F143),(180,F180)]:=⟨.inl ok131,.inl ok143,.inl ok180,trivial⟩
 refine VW.ent (s:=(⟨(tm 114 [(0,.ptr 4 0 0)]),(Zw pc r_.parts_ r_.names_ r_.code_ r_.bad_),gg⟩ : VS)) (Wf (by simp only [List.length_cons,List.length_nil,Nat.reduceAdd,Nat.reduceSub]; rw [Wd]; simp) rfl rfl) (VW.seq (VW.seq (Zj [0,11] hC (q:=(Zd h (fun h => ?_) (fun h => ?_))))))
 ·refine VW.seq (Zj [] hC (q:=?_))
  obtain rfl:=(Yz h).symm
  exact VW.ret (VInX.fin (Ze (t':=(tm 114 [])) (m':=(Zw pc r_.parts_ r_.names_ r_.code_ true)) 6 (hgg:=by simp [Zx,Zs,Yy hgb (show 6≤6 by decide)])) (by simp) (by simp [Yc]) rfl)
 refine VW.skip (VW.seq ?_)
 obtain ⟨e2,⟨f3a,f3b,f3c,f3d⟩,h⟩:=Ys h
 try simp only [Int.toNat_natCast,Int.reduceToNat] at f3a f3b f3c f3d
 refine Zj [0,2] hC (q:=VW.seq ?_)
 obtain ⟨u4,⟨f5a,f5b,f5c,f5d,f5e⟩,h⟩:=Gj h
 try simp only [Int.toNat_natCast,Int.reduceToNat,List.length_cons,List.length_nil,Nat.reduceAdd,Nat.zero_add] at f5a f5b f5c f5d f5e
 refine Zj [0,2] hC (q:=(VW.seq (VW.seq ?_)))
 obtain ⟨e6,⟨f7a,c7,f7b,f7c,f7d⟩,h⟩:=bindIS h
 simp only [Int.reduceToNat] at f7b f7d
 obtain ⟨r8,q9,h⟩:=Zc h
 have c9:=tl143 q9
 refine Zj [0,2,31] hC (q:=(Zd h (fun h => ?_) (fun h => ?_)))
 ·refine VW.seq ?_
  obtain ⟨r11,q12,h⟩:=Zc h
  have c12:=tl180 q12
  refine Zj [0,3,4] hC (q:=(VW.seq (Zj [0,3] hC (q:=VW.seq ?_))))
  obtain ⟨u13,⟨f14a,f14b⟩,h⟩:=Jp h
  try simp only [Int.toNat_natCast,Int.reduceToNat,List.length_cons,List.length_nil,Nat.reduceAdd,Nat.zero_add] at f14a f14b
  refine VW.evalM (CM:=[]) (tm 114 []) [some (2,[[.nil,.nil]]),some (2,[[.ref 2 0 r_.names_.length,.ref 3 0 pc.length]]),some (1,rows Yu r_.names_),some (3,rows Yi pc),some (4,[[.sl 1 (rows Yu (r_.parts_.tail)),.ref 2 0 r_.names_.length,.ref 5 0 (r_.code_ ++ [(⟨1,0,r11.1⟩ : T189)]).length,.b (r_.bad_ || (!r11.2))]]),some (3,rows Yi (r_.code_ ++ [(⟨1,0,r11.1⟩ : T189)])),some (3,rows Yi [(⟨1,0,r11.1⟩ : T189)])] gg hC trivial (by simp -implicitDefEqProofs [f14a,f14b,hgk]) ?_
  obtain rfl:=(Yz h).symm
  exact VW.ret (VInX.fin (Ze (t':=(tm 114 [])) (m':=(Zw pc (r_.parts_.tail) r_.names_ (r_.code_ ++ [(⟨1,0,r11.1⟩ : T189)]) (r_.bad_ || (!r11.2)))) 6 (hgg:=by simp [Zx,Zs,Yy hgb (show 6≤6 by decide)])) (by simp) (by simp [Yc]) rfl)
 refine VW.skip (VW.seq (VW.seq ?_))
 obtain ⟨w17,q34,h⟩:=Zc h
 obtain ⟨w20,q35,h⟩:=Zc h
 obtain ⟨w23,q36,h⟩:=Zc h
 refine Yg (tm 114 [(0,.ptr 4 0 0),(2,.str e2),(76,.b w23)]) (Zw pc (r_.parts_.tail) r_.names_ r_.code_ r_.bad_) gg hC (by kernel_rfl) (by
   obtain ⟨q37,q34⟩ | ⟨q37,rfl⟩:=Ux q34
   ·obtain ⟨u15,q16,q34⟩:=Yb q34
    obtain ⟨f16a,f16b,f16c,f16d,f16e⟩:=cutK_some2 q16
    try simp only [Int.toNat_natCast,Int.reduceToNat,List.length_cons,List.length_nil,Nat.reduceAdd,Nat.zero_add] at f16a f16b f16c f16d f16e
    obtain rfl:=Option.some.inj q34
    obtain ⟨q38,q35⟩ | ⟨q38,rfl⟩:=Ux q35
    ·obtain ⟨e18,q19,q35⟩:=Yb q35
     obtain ⟨f19a,c19,f19b,f19c,f19d⟩:=Xq q19
     simp only [Int.reduceToNat] at f19b f19d
     obtain rfl:=Option.some.inj q35
     obtain ⟨q39,q36⟩ | ⟨q39,rfl⟩:=Ux q36
     ·obtain ⟨e21,q22,q36⟩:=Yb q36
      have d40 : e21 = e18:=Option.some.inj (q22.symm.trans q19)
      obtain rfl:=Option.some.inj q36
      simp -implicitDefEqProofs [q37,f16a,f16b,f16c,f16d,f16e,q38,f19a,f19b,f19c,f19d,q39,d40,hgk]
     simp -implicitDefEqProofs [q37,f16a,f16b,f16c,f16d,f16e,q38,f19a,f19b,f19c,f19d,q39,hgk]
    obtain ⟨q41,q36⟩ | ⟨q41,rfl⟩:=Ux q36
    ·exact absurd q41 (by simp)
    simp -implicitDefEqProofs [q37,f16a,f16b,f16c,f16d,f16e,q38,q41,hgk]
   obtain ⟨q42,q35⟩ | ⟨q42,rfl⟩:=Ux q35
   ·exact absurd q42 (by simp)
   obtain ⟨q43,q36⟩ | ⟨q43,rfl⟩:=Ux q36
   ·exact absurd q43 (by simp)
   simp -implicitDefEqProofs [q37,q42,q43,hgk]) ?_
 refine Zd h (fun h => ?_) (fun h => ?_)
 ·refine VW.seq ?_
  obtain ⟨e25,⟨f26a,c26,f26b,f26c,f26d⟩,h⟩:=bindIS h
  simp only [Int.reduceToNat] at f26b f26d
  obtain ⟨u27,⟨f28a,f28b⟩,h⟩:=Jp h
  try simp only [Int.toNat_natCast,Int.reduceToNat,List.length_cons,List.length_nil,Nat.reduceAdd,Nat.zero_add] at f28a f28b
  refine VW.evalMid (CM:=[]) 11 [([],[12,13,14]),([0],[0,12,13,14])] (tm 114 []) [some (2,[[.nil,.nil]]),some (2,[[.ref 2 0 r_.names_.length,.ref 3 0 pc.length]]),some (1,rows Yu r_.names_),some (3,rows Yi pc),some (4,[[.sl 1 (rows Yu (r_.parts_.tail)),.ref 2 0 r_.names_.length,.ref 5 0 (r_.code_ ++ [(⟨2,cI .i16 (sI .u8 e25 48),(some 0)⟩ : T189)]).length,.b r_.bad_]]),some (3,rows Yi (r_.code_ ++ [(⟨2,cI .i16 (sI .u8 e25 48),(some 0)⟩ : T189)])),some (3,rows Yi [(⟨2,cI .i16 (sI .u8 e25 48),(some 0)⟩ : T189)])] gg hC trivial Wc (by kernel_rfl) (by kernel_rfl) (by simp -implicitDefEqProofs [f26a,f26b,f26c,f26d,f28a,f28b,hgk]) ?_
  obtain rfl:=(Yz h).symm
  exact VW.ret (VInX.fin (Ze (t':=(tm 114 [])) (m':=(Zw pc (r_.parts_.tail) r_.names_ (r_.code_ ++ [(⟨2,cI .i16 (sI .u8 e25 48),(some 0)⟩ : T189)]) r_.bad_)) 6 (hgg:=by simp [Zx,Zs,Yy hgb (show 6≤6 by decide)])) (by simp) (by simp [Yc]) rfl)
 refine VW.skip (VW.seq ?_)
 obtain ⟨r29,q30,h⟩:=Zc h
 have c30:=tl131 q30
 refine Zj [0,5] hC (q:=(VW.seq (VW.seq (Zj [0,5,98] hC (q:=(Zd h (fun h => ?_) (fun h => ?_)))))))
 ·refine VW.seq (Zj [] hC (q:=?_))
  obtain rfl:=(Yz h).symm
  exact VW.ret (VInX.fin (Ze (t':=(tm 114 [])) (m':=(Zw pc (r_.parts_.tail) r_.names_ r_.code_ true)) 6 (hgg:=by simp [Zx,Zs,Yy hgb (show 6≤6 by decide)])) (by simp) (by simp [Yc]) rfl)
 refine VW.skip ?_
 obtain ⟨u32,⟨f33a,f33b⟩,h⟩:=Jp h
 try simp only [Int.toNat_natCast,Int.reduceToNat,List.length_cons,List.length_nil,Nat.reduceAdd,Nat.zero_add] at f33a f33b
 refine VW.evalM (CM:=[]) (tm 114 []) [some (2,[[.nil,.nil]]),some (2,[[.ref 2 0 r_.names_.length,.ref 3 0 pc.length]]),some (1,rows Yu r_.names_),some (3,rows Yi pc),some (4,[[.sl 1 (rows Yu (r_.parts_.tail)),.ref 2 0 r_.names_.length,.ref 5 0 (r_.code_ ++ [(⟨3,cI .i16 r29,(some 0)⟩ : T189)]).length,.b r_.bad_]]),some (3,rows Yi (r_.code_ ++ [(⟨3,cI .i16 r29,(some 0)⟩ : T189)])),some (3,rows Yi [(⟨3,cI .i16 r29,(some 0)⟩ : T189)])] gg hC trivial (by simp -implicitDefEqProofs [f33a,f33b,hgk]) ?_
 obtain rfl:=(Yz h).symm
 exact (VInX.fin (Ze (t':=(tm 114 [])) (m':=(Zw pc (r_.parts_.tail) r_.names_ (r_.code_ ++ [(⟨3,cI .i16 r29,(some 0)⟩ : T189)]) r_.bad_)) 6 (hgg:=by simp [Zx,Zs,Yy hgb (show 6≤6 by decide)])) (by simp) (by simp [Yc]) rfl)
def g157_L1 (self : T204→Option T204) : ((List ByteArray) × (List ByteArray) × Bool × (List T189))→Option (((List ByteArray) × (List ByteArray) × Bool × (List T189)) ⊕ (T204))
| (l23,y24,y25,l26) =>
if (!y25) = true then
(g145 (⟨y24,l23,l26,y25⟩ : T204) (⟨#[42]⟩ : ByteArray)).bind fun r28 =>
if r28.1 = true then
(self r28.2).bind fun r31 =>
(g146 r31 7).bind fun r33 =>
some (.inl (r33.names_,r33.parts_,r33.bad_,r33.code_))
else
some (.inr r28.2)
else
some (.inr (⟨y24,l23,l26,y25⟩ : T204))
def g157 (self : T204→Option T204) (r_ : T204) : Option (T204) :=
(self r_).bind fun r1 =>
loopO (g157_L1 self) (r1.names_,r1.parts_,r1.bad_,r1.code_)
theorem ok157 (self : T204→Option T204) (hself : Xr Tryz.prog 168 (fun a : (List T189) × T204 => self a.2) (fun a => [.ptr 4 0 0]) (fun a => Yc a.1 a.2) (fun _ => .tup []) (fun a r => Yc a.1 r) (Uf 5) 6) : Xr Tryz.prog 157 (fun a : (List T189) × T204 => g157 self a.2) (fun a => [.ptr 4 0 0]) (fun a => Yc a.1 a.2) (fun _ => .tup []) (fun a r => Yc a.1 r) (Uf 5) 6:=by
 refine Xr.of Tryz.func157 (by kernel_rfl) rfl rfl rfl ?_
 rintro ⟨pc,r_⟩ r h gg hgk hgb
 replace h : (g157 self r_).bind some = some r:=Qi h
 rw [g157] at h
 have hC : Qc.Ok Tryz.prog []:=trivial
 refine VW.ent (s:=(⟨(tm 17 [(0,.ptr 4 0 0)]),(Zw pc r_.parts_ r_.names_ r_.code_ r_.bad_),gg⟩ : VS)) (Wf (by simp only [List.length_cons,List.length_nil,Nat.reduceAdd,Nat.reduceSub]; rw [Wd]; simp) rfl rfl) (VW.seq (Zy (Zv 1 (tm 17 [(0,.ptr 4 0 0),(2,.ptr 4 0 0)]) (Zw pc r_.parts_ r_.names_ r_.code_ r_.bad_) gg hC (by kernel_rfl) (by simp -implicitDefEqProofs [hgk]) ?_)))
 obtain ⟨r1,q2,h⟩:=Zc h
 refine Zq (hself) (pc,r_) r1 q2 (by simp [Zm]) rfl (by simp) (by simp [Yc]) (by simp [hgk]) (by simp [Zx,Zs,hgb]) (Zu (t':=(tm 17 [(0,.ptr 4 0 0),(2,.ptr 4 0 0),(3,.tup [])])) (m':=(Zw pc r1.parts_ r1.names_ r1.code_ r1.bad_)) (g':=gg) (by simp) (by simp [Yc]) (by simp) (Zp (tm 17 [(0,.ptr 4 0 0)]) (Zw pc r1.parts_ r1.names_ r1.code_ r1.bad_) gg hC (by kernel_rfl) (by simp -implicitDefEqProofs [hgk]) (VW.block ?_)))
 obtain ⟨w_1,hw_1,h⟩:=bindT h
 refine VW.loopO (fun (x : (List ByteArray) × (List ByteArray) × Bool × (List T189)) => (⟨(tm 17 [(0,.ptr 4 0 0)]),(Zw pc x.2.1 x.1 x.2.2.2 x.2.2.1),gg⟩ : VS)) hw_1 (Ze 6 (hgg:=by simp [Zx,Zs,Yy hgb (show 6≤6 by decide)])) ?_
 rintro n_1 ⟨l23,y24,y25,l26⟩ h1
 rw [g157_L1] at h1
 refine VW.seq (VW.seq (Zy (Zv 6 (tm 17 [(0,.ptr 4 0 0),(9,.b (!y25))]) (Zw pc y24 l23 l26 y25) gg hC (by kernel_rfl) (by simp -implicitDefEqProofs [hgk]) ?_)))
 rcases ifB h1 with ⟨g27,h1⟩ | ⟨g27,h1⟩
 ·refine Zu (t':=(tm 17 [(0,.ptr 4 0 0),(9,.b true)])) (by simp [g27]) rfl rfl (Zv 1 (tm 17 [(0,.ptr 4 0 0),(9,.b true),(10,.ptr 4 0 0)]) (Zw pc y24 l23 l26 y25) gg hC (by kernel_rfl) (by simp -implicitDefEqProofs [hgk]) ?_)
  obtain ⟨r28,q29,h1⟩:=Zc h1
  refine Zq (ok145) (pc,(⟨y24,l23,l26,y25⟩ : T204),(⟨#[42]⟩ : ByteArray)) r28 q29 (by simp [Zm]) rfl (by simp) (by simp [Yc]) (by simp [hgk]) (by simp [Zx,Zs,hgb]) (Zu (t':=(tm 17 [(0,.ptr 4 0 0),(9,.b true),(10,.ptr 4 0 0),(11,.b r28.1)])) (m':=(Zw pc r28.2.parts_ r28.2.names_ r28.2.code_ r28.2.bad_)) (g':=gg) (by simp) (by simp [Yc]) (by simp) (Zp (tm 17 [(0,.ptr 4 0 0),(12,.b r28.1)]) (Zw pc r28.2.parts_ r28.2.names_ r28.2.code_ r28.2.bad_) gg hC (by kernel_rfl) (by simp -implicitDefEqProofs [hgk]) (Zk h1 (fun h1 => ?_) (fun h1 => ?_))))
  ·refine VW.exit ?_
   have e_:=Yd h1
   subst w_1
   obtain rfl:=(Yz h).symm
   exact (VInX.fin (Ze (t':=(tm 17 [])) (m':=(Zw pc r28.2.parts_ r28.2.names_ r28.2.code_ r28.2.bad_)) 6 (hgg:=by simp [Zx,Zs,Yy hgb (show 6≤6 by decide)])) (by simp) (by simp [Yc]) rfl)
  refine VW.skip (VW.block (VW.seq (Zy (Zv 1 (tm 17 [(0,.ptr 4 0 0),(13,.ptr 4 0 0)]) (Zw pc r28.2.parts_ r28.2.names_ r28.2.code_ r28.2.bad_) gg hC (by kernel_rfl) (by simp -implicitDefEqProofs [hgk]) ?_))))
  obtain ⟨r31,q32,h1⟩:=Zc h1
  refine Zq (hself) (pc,r28.2) r31 q32 (by simp [Zm]) rfl (by simp) (by simp [Yc]) (by simp [hgk]) (by simp [Zx,Zs,hgb]) (Zu (t':=(tm 17 [(0,.ptr 4 0 0),(13,.ptr 4 0 0),(14,.tup [])])) (m':=(Zw pc r31.parts_ r31.names_ r31.code_ r31.bad_)) (g':=gg) (by simp) (by simp [Yc]) (by simp) (Zp (tm 17 [(0,.ptr 4 0 0)]) (Zw pc r31.parts_ r31.names_ r31.code_ r31.bad_) gg hC (by kernel_rfl) (by simp -implicitDefEqProofs [hgk]) (Zy (Zv 1 (tm 17 [(0,.ptr 4 0 0),(15,.ptr 4 0 0)]) (Zw pc r31.parts_ r31.names_ r31.code_ r31.bad_) gg hC (by kernel_rfl) (by simp -implicitDefEqProofs [hgk]) ?_))))
  obtain ⟨r33,q34,h1⟩:=Zc h1
  exact Zq (ok146) (pc,r31,7) r33 q34 (by simp [Zm]) rfl (by simp) (by simp [Yc]) (by simp [hgk]) (by simp [Zx,Zs,hgb]) (Zu (t':=(tm 17 [(0,.ptr 4 0 0),(15,.ptr 4 0 0),(16,.tup [])])) (m':=(Zw pc r33.parts_ r33.names_ r33.code_ r33.bad_)) (g':=gg) (by simp) (by simp [Yc]) (by simp) (Zp (tm 17 [(0,.ptr 4 0 0)]) (Zw pc r33.parts_ r33.names_ r33.code_ r33.bad_) gg hC (by kernel_rfl) (by simp -implicitDefEqProofs [hgk]) (Zn (r33.names_,r33.parts_,r33.bad_,r33.code_) (Yr h1) (Ze 6 (hgg:=by simp [Zx,Zs,Yy hgb (show 6≤6 by decide)])))))
 refine Zu (t':=(tm 17 [(0,.ptr 4 0 0),(9,.b false)])) (by simp [g27]) rfl rfl (Zp (tm 17 [(0,.ptr 4 0 0),(12,.b false)]) (Zw pc y24 l23 l26 y25) gg hC (by kernel_rfl) (by simp -implicitDefEqProofs [hgk]) (Qj (by simp) (VW.exit ?_)))
 have e_:=Yd h1
 subst w_1
 obtain rfl:=(Yz h).symm
 exact (VInX.fin (Ze (t':=(tm 17 [])) (m':=(Zw pc y24 l23 l26 y25)) 6 (hgg:=by simp [Zx,Zs,Yy hgb (show 6≤6 by decide)])) (by simp) (by simp [Yc]) rfl)
def g144_L1 (self : T204→Option T204) : ((List ByteArray) × (List ByteArray) × Bool × (List T189))→Option (((List ByteArray) × (List ByteArray) × Bool × (List T189)) ⊕ (T204))
| (l37,y38,y39,l40) =>
if (!y39) = true then
(g145 (⟨y38,l37,l40,y39⟩ : T204) (⟨#[43]⟩ : ByteArray)).bind fun r42 =>
if r42.1 = true then
(g157 self r42.2).bind fun r45 =>
(g146 r45 5).bind fun r47 =>
some (.inl (r47.names_,r47.parts_,r47.bad_,r47.code_))
else
(g145 r42.2 (⟨#[45]⟩ : ByteArray)).bind fun r49 =>
if r49.1 = true then
(g157 self r49.2).bind fun r52 =>
(g146 r52 6).bind fun r54 =>
some (.inl (r54.names_,r54.parts_,r54.bad_,r54.code_))
else
some (.inr r49.2)
else
some (.inr (⟨y38,l37,l40,y39⟩ : T204))
def g144 (self : T204→Option T204) (r_ : T204) : Option (T204) :=
(g157 self r_).bind fun r1 =>
loopO (g144_L1 self) (r1.names_,r1.parts_,r1.bad_,r1.code_)
theorem ok144 (self : T204→Option T204) (hself : Xr Tryz.prog 168 (fun a : (List T189) × T204 => self a.2) (fun a => [.ptr 4 0 0]) (fun a => Yc a.1 a.2) (fun _ => .tup []) (fun a r => Yc a.1 r) (Uf 5) 6) : Xr Tryz.prog 144 (fun a : (List T189) × T204 => g144 self a.2) (fun a => [.ptr 4 0 0]) (fun a => Yc a.1 a.2) (fun _ => .tup []) (fun a r => Yc a.1 r) (Uf 5) 6:=by
 refine Xr.of Tryz.func144 (by kernel_rfl) rfl rfl rfl ?_
 rintro ⟨pc,r_⟩ r h gg hgk hgb
 replace h : (g144 self r_).bind some = some r:=Qi h
 rw [g144] at h
 have hC : Qc.Ok Tryz.prog []:=trivial
 refine VW.ent (s:=(⟨(tm 21 [(0,.ptr 4 0 0)]),(Zw pc r_.parts_ r_.names_ r_.code_ r_.bad_),gg⟩ : VS)) (Wf (by simp only [List.length_cons,List.length_nil,Nat.reduceAdd,Nat.reduceSub]; rw [Wd]; simp) rfl rfl) (VW.seq (Zy (Zv 1 (tm 21 [(0,.ptr 4 0 0),(2,.ptr 4 0 0)]) (Zw pc r_.parts_ r_.names_ r_.code_ r_.bad_) gg hC (by kernel_rfl) (by simp -implicitDefEqProofs [hgk]) ?_)))
 obtain ⟨r1,q2,h⟩:=Zc h
 refine Zq (ok157 self hself) (pc,r_) r1 q2 (by simp [Zm]) rfl (by simp) (by simp [Yc]) (by simp [hgk]) (by simp [Zx,Zs,hgb]) (Zu (t':=(tm 21 [(0,.ptr 4 0 0),(2,.ptr 4 0 0),(3,.tup [])])) (m':=(Zw pc r1.parts_ r1.names_ r1.code_ r1.bad_)) (g':=gg) (by simp) (by simp [Yc]) (by simp) (Zp (tm 21 [(0,.ptr 4 0 0)]) (Zw pc r1.parts_ r1.names_ r1.code_ r1.bad_) gg hC (by kernel_rfl) (by simp -implicitDefEqProofs [hgk]) (VW.block ?_)))
 obtain ⟨w_1,hw_1,h⟩:=bindT h
 refine VW.loopO (fun (x : (List ByteArray) × (List ByteArray) × Bool × (List T189)) => (⟨(tm 21 [(0,.ptr 4 0 0)]),(Zw pc x.2.1 x.1 x.2.2.2 x.2.2.1),gg⟩ : VS)) hw_1 (Ze 6 (hgg:=by simp [Zx,Zs,Yy hgb (show 6≤6 by decide)])) ?_
 rintro n_1 ⟨l37,y38,y39,l40⟩ h1
 rw [g144_L1] at h1
 refine VW.seq (VW.seq (Zj [0,8] hC (q:=(Zk h1 (fun h1 => ?_) (fun h1 => ?_)))))
 ·refine VW.exit ?_
  have e_:=Yd h1
  subst w_1
  obtain rfl:=(Yz h).symm
  exact (VInX.fin (Ze (t':=(tm 21 [])) (m':=(Zw pc y38 l37 l40 y39)) 6 (hgg:=by simp [Zx,Zs,Yy hgb (show 6≤6 by decide)])) (by simp) (by simp [Yc]) rfl)
 refine VW.skip (VW.block (VW.seq (Zy (Zv 1 (tm 21 [(0,.ptr 4 0 0),(9,.ptr 4 0 0)]) (Zw pc y38 l37 l40 y39) gg hC (by kernel_rfl) (by simp -implicitDefEqProofs [hgk]) ?_))))
 obtain ⟨r42,q43,h1⟩:=Zc h1
 refine Zq (ok145) (pc,(⟨y38,l37,l40,y39⟩ : T204),(⟨#[43]⟩ : ByteArray)) r42 q43 (by simp [Zm]) rfl (by simp) (by simp [Yc]) (by simp [hgk]) (by simp [Zx,Zs,hgb]) (Zu (t':=(tm 21 [(0,.ptr 4 0 0),(9,.ptr 4 0 0),(10,.b r42.1)])) (m':=(Zw pc r42.2.parts_ r42.2.names_ r42.2.code_ r42.2.bad_)) (g':=gg) (by simp) (by simp [Yc]) (by simp) (Zp (tm 21 [(0,.ptr 4 0 0),(10,.b r42.1)]) (Zw pc r42.2.parts_ r42.2.names_ r42.2.code_ r42.2.bad_) gg hC (by kernel_rfl) (by simp -implicitDefEqProofs [hgk]) (Zd h1 (fun h1 => ?_) (fun h1 => ?_))))
 ·refine VW.seq (Zy (Zv 1 (tm 21 [(0,.ptr 4 0 0),(11,.ptr 4 0 0)]) (Zw pc r42.2.parts_ r42.2.names_ r42.2.code_ r42.2.bad_) gg hC (by kernel_rfl) (by simp -implicitDefEqProofs [hgk]) ?_))
  obtain ⟨r45,q46,h1⟩:=Zc h1
  refine Zq (ok157 self hself) (pc,r42.2) r45 q46 (by simp [Zm]) rfl (by simp) (by simp [Yc]) (by simp [hgk]) (by simp [Zx,Zs,hgb]) (Zu (t':=(tm 21 [(0,.ptr 4 0 0),(11,.ptr 4 0 0),(12,.tup [])])) (m':=(Zw pc r45.parts_ r45.names_ r45.code_ r45.bad_)) (g':=gg) (by simp) (by simp [Yc]) (by simp) (Zp (tm 21 [(0,.ptr 4 0 0)]) (Zw pc r45.parts_ r45.names_ r45.code_ r45.bad_) gg hC (by kernel_rfl) (by simp -implicitDefEqProofs [hgk]) (Zy (Zv 1 (tm 21 [(0,.ptr 4 0 0),(13,.ptr 4 0 0)]) (Zw pc r45.parts_ r45.names_ r45.code_ r45.bad_) gg hC (by kernel_rfl) (by simp -implicitDefEqProofs [hgk]) ?_))))
  obtain ⟨r47,q48,h1⟩:=Zc h1
  exact Zq (ok146) (pc,r45,5) r47 q48 (by simp [Zm]) rfl (by simp) (by simp [Yc]) (by simp [hgk]) (by simp [Zx,Zs,hgb]) (Zu (t':=(tm 21 [(0,.ptr 4 0 0),(13,.ptr 4 0 0),(14,.tup [])])) (m':=(Zw pc r47.parts_ r47.names_ r47.code_ r47.bad_)) (g':=gg) (by simp) (by simp [Yc]) (by simp) (Zp (tm 21 [(0,.ptr 4 0 0)]) (Zw pc r47.parts_ r47.names_ r47.code_ r47.bad_) gg hC (by kernel_rfl) (by simp -implicitDefEqProofs [hgk]) (Zn (r47.names_,r47.parts_,r47.bad_,r47.code_) (Yr h1) (Ze 6 (hgg:=by simp [Zx,Zs,Yy hgb (show 6≤6 by decide)])))))
 refine VW.seq (Zy (Zv 1 (tm 21 [(0,.ptr 4 0 0),(15,.ptr 4 0 0)]) (Zw pc r42.2.parts_ r42.2.names_ r42.2.code_ r42.2.bad_) gg hC (by kernel_rfl) (by simp -implicitDefEqProofs [hgk]) ?_))
 obtain ⟨r49,q50,h1⟩:=Zc h1
 refine Zq (ok145) (pc,r42.2,(⟨#[45]⟩ : ByteArray)) r49 q50 (by simp [Zm]) rfl (by simp) (by simp [Yc]) (by simp [hgk]) (by simp [Zx,Zs,hgb]) (Zu (t':=(tm 21 [(0,.ptr 4 0 0),(15,.ptr 4 0 0),(16,.b r49.1)])) (m':=(Zw pc r49.2.parts_ r49.2.names_ r49.2.code_ r49.2.bad_)) (g':=gg) (by simp) (by simp [Yc]) (by simp) (Zp (tm 21 [(0,.ptr 4 0 0),(16,.b r49.1)]) (Zw pc r49.2.parts_ r49.2.names_ r49.2.code_ r49.2.bad_) gg hC (by kernel_rfl) (by simp -implicitDefEqProofs [hgk]) (Zk h1 (fun h1 => ?_) (fun h1 => ?_))))
 ·have e_:=Yd h1
  subst w_1
  obtain rfl:=(Yz h).symm
  exact VW.ret (VInX.fin (Ze (t':=(tm 21 [])) (m':=(Zw pc r49.2.parts_ r49.2.names_ r49.2.code_ r49.2.bad_)) 6 (hgg:=by simp [Zx,Zs,Yy hgb (show 6≤6 by decide)])) (by simp) (by simp [Yc]) rfl)
 refine VW.seq (Zy (Zv 1 (tm 21 [(0,.ptr 4 0 0),(17,.ptr 4 0 0)]) (Zw pc r49.2.parts_ r49.2.names_ r49.2.code_ r49.2.bad_) gg hC (by kernel_rfl) (by simp -implicitDefEqProofs [hgk]) ?_))
 obtain ⟨r52,q53,h1⟩:=Zc h1
 refine Zq (ok157 self hself) (pc,r49.2) r52 q53 (by simp [Zm]) rfl (by simp) (by simp [Yc]) (by simp [hgk]) (by simp [Zx,Zs,hgb]) (Zu (t':=(tm 21 [(0,.ptr 4 0 0),(17,.ptr 4 0 0),(18,.tup [])])) (m':=(Zw pc r52.parts_ r52.names_ r52.code_ r52.bad_)) (g':=gg) (by simp) (by simp [Yc]) (by simp) (Zp (tm 21 [(0,.ptr 4 0 0)]) (Zw pc r52.parts_ r52.names_ r52.code_ r52.bad_) gg hC (by kernel_rfl) (by simp -implicitDefEqProofs [hgk]) (Zy (Zv 1 (tm 21 [(0,.ptr 4 0 0),(19,.ptr 4 0 0)]) (Zw pc r52.parts_ r52.names_ r52.code_ r52.bad_) gg hC (by kernel_rfl) (by simp -implicitDefEqProofs [hgk]) ?_))))
 obtain ⟨r54,q55,h1⟩:=Zc h1
 exact Zq (ok146) (pc,r52,6) r54 q55 (by simp [Zm]) rfl (by simp) (by simp [Yc]) (by simp [hgk]) (by simp [Zx,Zs,hgb]) (Zu (t':=(tm 21 [(0,.ptr 4 0 0),(19,.ptr 4 0 0),(20,.tup [])])) (m':=(Zw pc r54.parts_ r54.names_ r54.code_ r54.bad_)) (g':=gg) (by simp) (by simp [Yc]) (by simp) (Zp (tm 21 [(0,.ptr 4 0 0)]) (Zw pc r54.parts_ r54.names_ r54.code_ r54.bad_) gg hC (by kernel_rfl) (by simp -implicitDefEqProofs [hgk]) (Zn (r54.names_,r54.parts_,r54.bad_,r54.code_) (Yr h1) (Ze 6 (hgg:=by simp [Zx,Zs,Yy hgb (show 6≤6 by decide)])))))
def g130 (self : T204→Option T204) (r_ : T204) : Option (T204) :=
(g144 self r_).bind fun r1 =>
(g145 r1 (⟨#[60]⟩ : ByteArray)).bind fun r3 =>
if r3.1 = true then
(g144 self r3.2).bind fun r6 =>
(g146 r6 8).bind fun r8 =>
some r8
else
some r3.2
theorem ok130 (self : T204→Option T204) (hself : Xr Tryz.prog 168 (fun a : (List T189) × T204 => self a.2) (fun a => [.ptr 4 0 0]) (fun a => Yc a.1 a.2) (fun _ => .tup []) (fun a r => Yc a.1 r) (Uf 5) 6) : Xr Tryz.prog 130 (fun a : (List T189) × T204 => g130 self a.2) (fun a => [.ptr 4 0 0]) (fun a => Yc a.1 a.2) (fun _ => .tup []) (fun a r => Yc a.1 r) (Uf 5) 6:=by
 refine Xr.of Tryz.func130 (by kernel_rfl) rfl rfl rfl ?_
 rintro ⟨pc,r_⟩ r h gg hgk hgb
 replace h : (g130 self r_).bind some = some r:=Qi h
 rw [g130] at h
 have hC : Qc.Ok Tryz.prog []:=trivial
 refine VW.ent (s:=(⟨(tm 10 [(0,.ptr 4 0 0)]),(Zw pc r_.parts_ r_.names_ r_.code_ r_.bad_),gg⟩ : VS)) (Wf (by simp only [List.length_cons,List.length_nil,Nat.reduceAdd,Nat.reduceSub]; rw [Wd]; simp) rfl rfl) (VW.seq (Zy (Zv 1 (tm 10 [(0,.ptr 4 0 0),(2,.ptr 4 0 0)]) (Zw pc r_.parts_ r_.names_ r_.code_ r_.bad_) gg hC (by kernel_rfl) (by simp -implicitDefEqProofs [hgk]) ?_)))
 obtain ⟨r1,q2,h⟩:=Zc h
 refine Zq (ok144 self hself) (pc,r_) r1 q2 (by simp [Zm]) rfl (by simp) (by simp [Yc]) (by simp [hgk]) (by simp [Zx,Zs,hgb]) (Zu (t':=(tm 10 [(0,.ptr 4 0 0),(2,.ptr 4 0 0),(3,.tup [])])) (m':=(Zw pc r1.parts_ r1.names_ r1.code_ r1.bad_)) (g':=gg) (by simp) (by simp [Yc]) (by simp) (Zp (tm 10 [(0,.ptr 4 0 0)]) (Zw pc r1.parts_ r1.names_ r1.code_ r1.bad_) gg hC (by kernel_rfl) (by simp -implicitDefEqProofs [hgk]) (VW.seq (Zy (Zv 1 (tm 10 [(0,.ptr 4 0 0),(4,.ptr 4 0 0)]) (Zw pc r1.parts_ r1.names_ r1.code_ r1.bad_) gg hC (by kernel_rfl) (by simp -implicitDefEqProofs [hgk]) ?_)))))
 obtain ⟨r3,q4,h⟩:=Zc h
 refine Zq (ok145) (pc,r1,(⟨#[60]⟩ : ByteArray)) r3 q4 (by simp [Zm]) rfl (by simp) (by simp [Yc]) (by simp [hgk]) (by simp [Zx,Zs,hgb]) (Zu (t':=(tm 10 [(0,.ptr 4 0 0),(4,.ptr 4 0 0),(5,.b r3.1)])) (m':=(Zw pc r3.2.parts_ r3.2.names_ r3.2.code_ r3.2.bad_)) (g':=gg) (by simp) (by simp [Yc]) (by simp) (Zp (tm 10 [(0,.ptr 4 0 0),(5,.b r3.1)]) (Zw pc r3.2.parts_ r3.2.names_ r3.2.code_ r3.2.bad_) gg hC (by kernel_rfl) (by simp -implicitDefEqProofs [hgk]) (Zk h (fun h => ?_) (fun h => ?_))))
 ·refine VW.skip ?_
  obtain rfl:=(Yz h).symm
  exact (VInX.fin (Ze (t':=(tm 10 [])) (m':=(Zw pc r3.2.parts_ r3.2.names_ r3.2.code_ r3.2.bad_)) 6 (hgg:=by simp [Zx,Zs,Yy hgb (show 6≤6 by decide)])) (by simp) (by simp [Yc]) rfl)
 refine VW.seq (Zy (Zv 1 (tm 10 [(0,.ptr 4 0 0),(6,.ptr 4 0 0)]) (Zw pc r3.2.parts_ r3.2.names_ r3.2.code_ r3.2.bad_) gg hC (by kernel_rfl) (by simp -implicitDefEqProofs [hgk]) ?_))
 obtain ⟨r6,q7,h⟩:=Zc h
 refine Zq (ok144 self hself) (pc,r3.2) r6 q7 (by simp [Zm]) rfl (by simp) (by simp [Yc]) (by simp [hgk]) (by simp [Zx,Zs,hgb]) (Zu (t':=(tm 10 [(0,.ptr 4 0 0),(6,.ptr 4 0 0),(7,.tup [])])) (m':=(Zw pc r6.parts_ r6.names_ r6.code_ r6.bad_)) (g':=gg) (by simp) (by simp [Yc]) (by simp) (Zp (tm 10 [(0,.ptr 4 0 0)]) (Zw pc r6.parts_ r6.names_ r6.code_ r6.bad_) gg hC (by kernel_rfl) (by simp -implicitDefEqProofs [hgk]) (Zy (Zv 1 (tm 10 [(8,.ptr 4 0 0)]) (Zw pc r6.parts_ r6.names_ r6.code_ r6.bad_) gg hC (by kernel_rfl) (by simp -implicitDefEqProofs [hgk]) ?_))))
 obtain ⟨r8,q9,h⟩:=Zc h
 refine Zq (ok146) (pc,r6,8) r8 q9 (by simp [Zm]) rfl (by simp) (by simp [Yc]) (by simp [hgk]) (by simp [Zx,Zs,hgb]) (Zu (t':=(tm 10 [(8,.ptr 4 0 0),(9,.tup [])])) (m':=(Zw pc r8.parts_ r8.names_ r8.code_ r8.bad_)) (g':=gg) (by simp) (by simp [Yc]) (by simp) (Zp (tm 10 []) (Zw pc r8.parts_ r8.names_ r8.code_ r8.bad_) gg hC (by kernel_rfl) (by simp -implicitDefEqProofs [hgk]) ?_))
 obtain rfl:=(Yz h).symm
 exact (VInX.fin (Ze (t':=(tm 10 [])) (m':=(Zw pc r8.parts_ r8.names_ r8.code_ r8.bad_)) 6 (hgg:=by simp [Zx,Zs,Yy hgb (show 6≤6 by decide)])) (by simp) (by simp [Yc]) rfl)
def g175_j1 (kind : Int) (l35 : List ByteArray) (y36 : List ByteArray) (y37 : Bool) (l38 : List T189) : Option (T204) :=
(g174 (⟨y36,l35,l38,y37⟩ : T204) (⟨#[41]⟩ : ByteArray)).bind fun r39 =>
(g146 r39 kind).bind fun r41 =>
some r41
def g175_L1 (count : Int) (self : T204→Option T204) : (Int × (List ByteArray) × (List ByteArray) × Bool × (List T189))→Option ((Int × (List ByteArray) × (List ByteArray) × Bool × (List T189)) ⊕ (((List ByteArray) × (List ByteArray) × Bool × (List T189)) ⊕ (T204)))
| (k_62,l63,y64,y65,l66) =>
if Zo k_62 count = true then
if Zo 0 k_62 = true then
(g174 (⟨y64,l63,l66,y65⟩ : T204) (⟨#[44]⟩ : ByteArray)).bind fun r69 =>
if r69.bad_ = true then
some (.inr (.inr r69))
else
(g130 self r69).bind fun r72 =>
some (.inl (aI .i64 k_62 1,r72.names_,r72.parts_,r72.bad_,r72.code_))
else
if y65 = true then
some (.inr (.inr (⟨y64,l63,l66,y65⟩ : T204)))
else
(g130 self (⟨y64,l63,l66,y65⟩ : T204)).bind fun r75 =>
some (.inl (aI .i64 k_62 1,r75.names_,r75.parts_,r75.bad_,r75.code_))
else
some (.inr (.inl (l63,y64,y65,l66)))
def g175 (self : T204→Option T204) (r_ : T204) (count : Int) (kind : Int) : Option (T204) :=
(loopO (g175_L1 count self) (0,r_.names_,r_.parts_,r_.bad_,r_.code_)).bind fun w => match w with
| .inl y => g175_j1 kind y.1 y.2.1 y.2.2.1 y.2.2.2
| .inr r => some r
theorem ok175 (self : T204→Option T204) (hself : Xr Tryz.prog 168 (fun a : (List T189) × T204 => self a.2) (fun a => [.ptr 4 0 0]) (fun a => Yc a.1 a.2) (fun _ => .tup []) (fun a r => Yc a.1 r) (Uf 5) 6) : Xr Tryz.prog 175 (fun a : (List T189) × T204 × Int × Int => g175 self a.2.1 a.2.2.1 a.2.2.2) (fun a => [.ptr 4 0 0,.i .i64 a.2.2.1,.i .i8 a.2.2.2]) (fun a => Yc a.1 a.2.1) (fun _ => .tup []) (fun a r => Yc a.1 r) (Uf 5) 6:=by
 refine Xr.of Tryz.func175 (by kernel_rfl) rfl rfl rfl ?_
 rintro ⟨pc,r_,count,kind⟩ r h gg hgk hgb
 replace h : (g175 self r_ count kind).bind some = some r:=Qi h
 rw [g175] at h
 have hC : Qc.Ok Tryz.prog []:=trivial
 refine VW.ent (s:=(⟨(tm 27 [(0,.ptr 4 0 0),(1,.i .i64 count),(2,.i .i8 kind)]),(Zw pc r_.parts_ r_.names_ r_.code_ r_.bad_),gg⟩ : VS)) (Wf (by simp only [List.length_cons,List.length_nil,Nat.reduceAdd,Nat.reduceSub]; rw [Wd]; simp) rfl rfl) (VW.join (fun (v : (List ByteArray) × (List ByteArray) × Bool × (List T189)) => (⟨(tm 27 [(0,.ptr 4 0 0),(2,.i .i8 kind)]),(Zw pc v.2.1 v.1 v.2.2.2 v.2.2.1),gg⟩ : VS)) (fun v => (g175_j1 kind (v.1) (v.2.1) (v.2.2.1) (v.2.2.2)).bind some = some r) ?_ ?_)
 ·refine VW.seq (Zj [0,1,2,6] hC (q:=VW.block ?_))
  obtain ⟨w_1,hw_1,h⟩:=Zc h
  refine VW.loopO (fun (x : Int × (List ByteArray) × (List ByteArray) × Bool × (List T189)) => (⟨(tm 27 [(0,.ptr 4 0 0),(1,.i .i64 count),(2,.i .i8 kind),(6,.i .i64 x.1)]),(Zw pc x.2.2.1 x.2.1 x.2.2.2.2 x.2.2.2.1),gg⟩ : VS)) hw_1 (Ze 6 (hgg:=by simp [Zx,Zs,Yy hgb (show 6≤6 by decide)])) ?_
  rintro n_1 ⟨k_62,l63,y64,y65,l66⟩ h1
  rw [g175_L1] at h1
  refine VW.seq (VW.seq (Zj [0,1,2,6,9] hC (q:=(Zk h1 (fun h1 => ?_) (fun h1 => ?_)))))
  ·refine VW.exit ?_
   have e_:=Yd h1
   subst w_1
   exact Zn (l63,y64,y65,l66) h (Ze 6 (hgg:=by simp [Zx,Zs,Yy hgb (show 6≤6 by decide)]))
  refine VW.skip (VW.seq (VW.block (VW.seq (VW.seq (Zj [0,1,2,6,13] hC (q:=(Zk h1 (fun h1 => ?_) (fun h1 => ?_))))))))
  ·refine VW.skip (VW.seq (VW.seq (Zj [0,1,2,6,19] hC (q:=(Zd h1 (fun h1 => ?_) (fun h1 => ?_))))))
   ·have e_:=Yd h1
    subst w_1
    obtain rfl:=(Yz h).symm
    exact VW.ret (VInX.fin (Ze (t':=(tm 27 [])) (m':=(Zw pc y64 l63 l66 y65)) 6 (hgg:=by simp [Zx,Zs,Yy hgb (show 6≤6 by decide)])) (by simp) (by simp [Yc]) rfl)
   refine VW.skip (Zy (Zv 1 (tm 27 [(0,.ptr 4 0 0),(1,.i .i64 count),(2,.i .i8 kind),(6,.i .i64 k_62),(20,.ptr 4 0 0)]) (Zw pc y64 l63 l66 y65) gg hC (by kernel_rfl) (by simp -implicitDefEqProofs [hgk]) ?_))
   obtain ⟨r75,q76,h1⟩:=Zc h1
   exact Zq (ok130 self hself) (pc,(⟨y64,l63,l66,y65⟩ : T204)) r75 q76 (by simp [Zm]) rfl (by simp) (by simp [Yc]) (by simp [hgk]) (by simp [Zx,Zs,hgb]) (Zu (t':=(tm 27 [(0,.ptr 4 0 0),(1,.i .i64 count),(2,.i .i8 kind),(6,.i .i64 k_62),(20,.ptr 4 0 0),(21,.tup [])])) (m':=(Zw pc r75.parts_ r75.names_ r75.code_ r75.bad_)) (g':=gg) (by simp) (by simp [Yc]) (by simp) (Zp (tm 27 [(0,.ptr 4 0 0),(1,.i .i64 count),(2,.i .i8 kind),(6,.i .i64 k_62)]) (Zw pc r75.parts_ r75.names_ r75.code_ r75.bad_) gg hC (by kernel_rfl) (by simp -implicitDefEqProofs [hgk]) (Zj [0,1,2,6] hC (q:=(Zn (aI .i64 k_62 1,r75.names_,r75.parts_,r75.bad_,r75.code_) (Yr h1) (Ze 6 (hgg:=by simp [Zx,Zs,Yy hgb (show 6≤6 by decide)])))))))
  refine Zy (Zv 1 (tm 27 [(0,.ptr 4 0 0),(1,.i .i64 count),(2,.i .i8 kind),(6,.i .i64 k_62),(14,.ptr 4 0 0)]) (Zw pc y64 l63 l66 y65) gg hC (by kernel_rfl) (by simp -implicitDefEqProofs [hgk]) ?_)
  obtain ⟨r69,q70,h1⟩:=Zc h1
  refine Zq (ok174) (pc,(⟨y64,l63,l66,y65⟩ : T204),(⟨#[44]⟩ : ByteArray)) r69 q70 (by simp [Zm]) rfl (by simp) (by simp [Yc]) (by simp [hgk]) (by simp [Zx,Zs,hgb]) (Zu (t':=(tm 27 [(0,.ptr 4 0 0),(1,.i .i64 count),(2,.i .i8 kind),(6,.i .i64 k_62),(14,.ptr 4 0 0),(15,.tup [])])) (m':=(Zw pc r69.parts_ r69.names_ r69.code_ r69.bad_)) (g':=gg) (by simp) (by simp [Yc]) (by simp) (Zp (tm 27 [(0,.ptr 4 0 0),(1,.i .i64 count),(2,.i .i8 kind),(6,.i .i64 k_62)]) (Zw pc r69.parts_ r69.names_ r69.code_ r69.bad_) gg hC (by kernel_rfl) (by simp -implicitDefEqProofs [hgk]) (VW.seq (VW.seq (Zj [0,1,2,6,19] hC (q:=(Zd h1 (fun h1 => ?_) (fun h1 => ?_))))))))
  ·have e_:=Yd h1
   subst w_1
   obtain rfl:=(Yz h).symm
   exact VW.ret (VInX.fin (Ze (t':=(tm 27 [])) (m':=(Zw pc r69.parts_ r69.names_ r69.code_ r69.bad_)) 6 (hgg:=by simp [Zx,Zs,Yy hgb (show 6≤6 by decide)])) (by simp) (by simp [Yc]) rfl)
  refine VW.skip (Zy (Zv 1 (tm 27 [(0,.ptr 4 0 0),(1,.i .i64 count),(2,.i .i8 kind),(6,.i .i64 k_62),(20,.ptr 4 0 0)]) (Zw pc r69.parts_ r69.names_ r69.code_ r69.bad_) gg hC (by kernel_rfl) (by simp -implicitDefEqProofs [hgk]) ?_))
  obtain ⟨r72,q73,h1⟩:=Zc h1
  exact Zq (ok130 self hself) (pc,r69) r72 q73 (by simp [Zm]) rfl (by simp) (by simp [Yc]) (by simp [hgk]) (by simp [Zx,Zs,hgb]) (Zu (t':=(tm 27 [(0,.ptr 4 0 0),(1,.i .i64 count),(2,.i .i8 kind),(6,.i .i64 k_62),(20,.ptr 4 0 0),(21,.tup [])])) (m':=(Zw pc r72.parts_ r72.names_ r72.code_ r72.bad_)) (g':=gg) (by simp) (by simp [Yc]) (by simp) (Zp (tm 27 [(0,.ptr 4 0 0),(1,.i .i64 count),(2,.i .i8 kind),(6,.i .i64 k_62)]) (Zw pc r72.parts_ r72.names_ r72.code_ r72.bad_) gg hC (by kernel_rfl) (by simp -implicitDefEqProofs [hgk]) (Zj [0,1,2,6] hC (q:=(Zn (aI .i64 k_62 1,r72.names_,r72.parts_,r72.bad_,r72.code_) (Yr h1) (Ze 6 (hgg:=by simp [Zx,Zs,Yy hgb (show 6≤6 by decide)])))))))
 rintro ⟨l35,y36,y37,l38⟩ h
 replace h : (g175_j1 kind l35 y36 y37 l38).bind _ = _:=h
 rw [g175_j1] at h
 refine VW.seq (Zy (Zv 1 (tm 27 [(0,.ptr 4 0 0),(2,.i .i8 kind),(22,.ptr 4 0 0)]) (Zw pc y36 l35 l38 y37) gg hC (by kernel_rfl) (by simp -implicitDefEqProofs [hgk]) ?_))
 obtain ⟨r39,q40,h⟩:=Zc h
 refine Zq (ok174) (pc,(⟨y36,l35,l38,y37⟩ : T204),(⟨#[41]⟩ : ByteArray)) r39 q40 (by simp [Zm]) rfl (by simp) (by simp [Yc]) (by simp [hgk]) (by simp [Zx,Zs,hgb]) (Zu (t':=(tm 27 [(0,.ptr 4 0 0),(2,.i .i8 kind),(22,.ptr 4 0 0),(23,.tup [])])) (m':=(Zw pc r39.parts_ r39.names_ r39.code_ r39.bad_)) (g':=gg) (by simp) (by simp [Yc]) (by simp) (Zp (tm 27 [(0,.ptr 4 0 0),(2,.i .i8 kind)]) (Zw pc r39.parts_ r39.names_ r39.code_ r39.bad_) gg hC (by kernel_rfl) (by simp -implicitDefEqProofs [hgk]) (Zy (Zv 2 (tm 27 [(24,.ptr 4 0 0),(25,.i .i8 kind)]) (Zw pc r39.parts_ r39.names_ r39.code_ r39.bad_) gg hC (by kernel_rfl) (by simp -implicitDefEqProofs [hgk]) ?_))))
 obtain ⟨r41,q42,h⟩:=Zc h
 refine Zq (ok146) (pc,r39,kind) r41 q42 (by simp [Zm]) rfl (by simp) (by simp [Yc]) (by simp [hgk]) (by simp [Zx,Zs,hgb]) (Zu (t':=(tm 27 [(24,.ptr 4 0 0),(25,.i .i8 kind),(26,.tup [])])) (m':=(Zw pc r41.parts_ r41.names_ r41.code_ r41.bad_)) (g':=gg) (by simp) (by simp [Yc]) (by simp) (Zp (tm 27 []) (Zw pc r41.parts_ r41.names_ r41.code_ r41.bad_) gg hC (by kernel_rfl) (by simp -implicitDefEqProofs [hgk]) ?_))
 obtain rfl:=(Yz h).symm
 exact (VInX.fin (Ze (t':=(tm 27 [])) (m':=(Zw pc r41.parts_ r41.names_ r41.code_ r41.bad_)) 6 (hgg:=by simp [Zx,Zs,Yy hgb (show 6≤6 by decide)])) (by simp) (by simp [Yc]) rfl)
def Qy (self : T204→Option T204) (r_ : T204) : Option (T204) :=
if r_.bad_ = true then
some r_
else
(g145 r_ (⟨#[45]⟩ : ByteArray)).bind fun r2 =>
if r2.1 = true then
(self r2.2).bind fun r5 =>
(g146 r5 12).bind fun r7 =>
some r7
else
(g145 r2.2 (⟨#[40]⟩ : ByteArray)).bind fun r9 =>
if r9.1 = true then
(g130 self r9.2).bind fun r12 =>
(g174 r12 (⟨#[41]⟩ : ByteArray)).bind fun r14 =>
some r14
else
(g145 r9.2 (⟨#[109,105,110,40]⟩ : ByteArray)).bind fun r16 =>
if r16.1 = true then
(g175 self r16.2 2 9).bind fun r19 =>
some r19
else
(g145 r16.2 (⟨#[109,97,120,40]⟩ : ByteArray)).bind fun r21 =>
if r21.1 = true then
(g175 self r21.2 2 10).bind fun r24 =>
some r24
else
(g145 r21.2 (⟨#[112,105,99,107,40]⟩ : ByteArray)).bind fun r26 =>
if r26.1 = true then
(g175 self r26.2 3 11).bind fun r29 =>
some r29
else
(g176 r26.2).bind fun r31 =>
some r31
def g168 (r_ : T204) : Option (T204):=iterO (fun self a => Qy self a) 5000 r_
theorem ok168 : Xr Tryz.prog 168 (fun a : (List T189) × T204 => g168 a.2) (fun a => [.ptr 4 0 0]) (fun a => Yc a.1 a.2) (fun _ => .tup []) (fun a r => Yc a.1 r) (Uf 5) 6:=by
 show Xr Tryz.prog 168 (fun a : (List T189) × T204 => iterO (fun self a => Qy self a) 5000 a.2) (fun a => [.ptr 4 0 0]) (fun a => Yc a.1 a.2) (fun _ => .tup []) (fun a r => Yc a.1 r) (Uf 5) 6
 refine Xr.iter2 5000 (by kernel_rfl) fun self hself => ?_
 refine Xr.of Tryz.func168 (by kernel_rfl) rfl rfl rfl ?_
 rintro ⟨pc,r_⟩ r h gg hgk hgb
 replace h : (Qy self r_).bind some = some r:=Qi h
 rw [Qy] at h
 have hC : Qc.Ok Tryz.prog []:=trivial
 refine VW.ent (s:=(⟨(tm 37 [(0,.ptr 4 0 0)]),(Zw pc r_.parts_ r_.names_ r_.code_ r_.bad_),gg⟩ : VS)) (Wf (by simp only [List.length_cons,List.length_nil,Nat.reduceAdd,Nat.reduceSub]; rw [Wd]; simp) rfl rfl) (VW.seq (VW.seq (Zj [0,5] hC (q:=(Zd h (fun h => ?_) (fun h => ?_))))))
 ·obtain rfl:=(Yz h).symm
  exact VW.ret (VInX.fin (Ze (t':=(tm 37 [])) (m':=(Zw pc r_.parts_ r_.names_ r_.code_ r_.bad_)) 6 (hgg:=by simp [Zx,Zs,Yy hgb (show 6≤6 by decide)])) (by simp) (by simp [Yc]) rfl)
 refine VW.skip (VW.block (VW.seq (Zy (Zv 1 (tm 37 [(0,.ptr 4 0 0),(9,.ptr 4 0 0)]) (Zw pc r_.parts_ r_.names_ r_.code_ r_.bad_) gg hC (by kernel_rfl) (by simp -implicitDefEqProofs [hgk]) ?_))))
 obtain ⟨r2,q3,h⟩:=Zc h
 refine Zq (ok145) (pc,r_,(⟨#[45]⟩ : ByteArray)) r2 q3 (by simp [Zm]) rfl (by simp) (by simp [Yc]) (by simp [hgk]) (by simp [Zx,Zs,hgb]) (Zu (t':=(tm 37 [(0,.ptr 4 0 0),(9,.ptr 4 0 0),(10,.b r2.1)])) (m':=(Zw pc r2.2.parts_ r2.2.names_ r2.2.code_ r2.2.bad_)) (g':=gg) (by simp) (by simp [Yc]) (by simp) (Zp (tm 37 [(0,.ptr 4 0 0),(8,.b r2.1)]) (Zw pc r2.2.parts_ r2.2.names_ r2.2.code_ r2.2.bad_) gg hC (by kernel_rfl) (by simp -implicitDefEqProofs [hgk]) (Zd h (fun h => ?_) (fun h => ?_))))
 ·refine VW.seq (Zy (Zv 1 (tm 37 [(0,.ptr 4 0 0),(11,.ptr 4 0 0)]) (Zw pc r2.2.parts_ r2.2.names_ r2.2.code_ r2.2.bad_) gg hC (by kernel_rfl) (by simp -implicitDefEqProofs [hgk]) ?_))
  obtain ⟨r5,q6,h⟩:=Zc h
  refine Zq (hself) (pc,r2.2) r5 q6 (by simp [Zm]) rfl (by simp) (by simp [Yc]) (by simp [hgk]) (by simp [Zx,Zs,hgb]) (Zu (t':=(tm 37 [(0,.ptr 4 0 0),(11,.ptr 4 0 0),(12,.tup [])])) (m':=(Zw pc r5.parts_ r5.names_ r5.code_ r5.bad_)) (g':=gg) (by simp) (by simp [Yc]) (by simp) (Zp (tm 37 [(0,.ptr 4 0 0)]) (Zw pc r5.parts_ r5.names_ r5.code_ r5.bad_) gg hC (by kernel_rfl) (by simp -implicitDefEqProofs [hgk]) (Zy (Zv 1 (tm 37 [(13,.ptr 4 0 0)]) (Zw pc r5.parts_ r5.names_ r5.code_ r5.bad_) gg hC (by kernel_rfl) (by simp -implicitDefEqProofs [hgk]) ?_))))
  obtain ⟨r7,q8,h⟩:=Zc h
  refine Zq (ok146) (pc,r5,12) r7 q8 (by simp [Zm]) rfl (by simp) (by simp [Yc]) (by simp [hgk]) (by simp [Zx,Zs,hgb]) (Zu (t':=(tm 37 [(13,.ptr 4 0 0),(14,.tup [])])) (m':=(Zw pc r7.parts_ r7.names_ r7.code_ r7.bad_)) (g':=gg) (by simp) (by simp [Yc]) (by simp) (Zp (tm 37 []) (Zw pc r7.parts_ r7.names_ r7.code_ r7.bad_) gg hC (by kernel_rfl) (by simp -implicitDefEqProofs [hgk]) ?_))
  obtain rfl:=(Yz h).symm
  exact (VInX.fin (Ze (t':=(tm 37 [])) (m':=(Zw pc r7.parts_ r7.names_ r7.code_ r7.bad_)) 6 (hgg:=by simp [Zx,Zs,Yy hgb (show 6≤6 by decide)])) (by simp) (by simp [Yc]) rfl)
 refine VW.seq (Zy (Zv 1 (tm 37 [(0,.ptr 4 0 0),(16,.ptr 4 0 0)]) (Zw pc r2.2.parts_ r2.2.names_ r2.2.code_ r2.2.bad_) gg hC (by kernel_rfl) (by simp -implicitDefEqProofs [hgk]) ?_))
 obtain ⟨r9,q10,h⟩:=Zc h
 refine Zq (ok145) (pc,r2.2,(⟨#[40]⟩ : ByteArray)) r9 q10 (by simp [Zm]) rfl (by simp) (by simp [Yc]) (by simp [hgk]) (by simp [Zx,Zs,hgb]) (Zu (t':=(tm 37 [(0,.ptr 4 0 0),(16,.ptr 4 0 0),(17,.b r9.1)])) (m':=(Zw pc r9.2.parts_ r9.2.names_ r9.2.code_ r9.2.bad_)) (g':=gg) (by simp) (by simp [Yc]) (by simp) (Zp (tm 37 [(0,.ptr 4 0 0),(15,.b r9.1)]) (Zw pc r9.2.parts_ r9.2.names_ r9.2.code_ r9.2.bad_) gg hC (by kernel_rfl) (by simp -implicitDefEqProofs [hgk]) (Zd h (fun h => ?_) (fun h => ?_))))
 ·refine VW.seq (Zy (Zv 1 (tm 37 [(0,.ptr 4 0 0),(18,.ptr 4 0 0)]) (Zw pc r9.2.parts_ r9.2.names_ r9.2.code_ r9.2.bad_) gg hC (by kernel_rfl) (by simp -implicitDefEqProofs [hgk]) ?_))
  obtain ⟨r12,q13,h⟩:=Zc h
  refine Zq (ok130 self hself) (pc,r9.2) r12 q13 (by simp [Zm]) rfl (by simp) (by simp [Yc]) (by simp [hgk]) (by simp [Zx,Zs,hgb]) (Zu (t':=(tm 37 [(0,.ptr 4 0 0),(18,.ptr 4 0 0),(19,.tup [])])) (m':=(Zw pc r12.parts_ r12.names_ r12.code_ r12.bad_)) (g':=gg) (by simp) (by simp [Yc]) (by simp) (Zp (tm 37 [(0,.ptr 4 0 0)]) (Zw pc r12.parts_ r12.names_ r12.code_ r12.bad_) gg hC (by kernel_rfl) (by simp -implicitDefEqProofs [hgk]) (Zy (Zv 1 (tm 37 [(20,.ptr 4 0 0)]) (Zw pc r12.parts_ r12.names_ r12.code_ r12.bad_) gg hC (by kernel_rfl) (by simp -implicitDefEqProofs [hgk]) ?_))))
  obtain ⟨r14,q15,h⟩:=Zc h
  refine Zq (ok174) (pc,r12,(⟨#[41]⟩ : ByteArray)) r14 q15 (by simp [Zm]) rfl (by simp) (by simp [Yc]) (by simp [hgk]) (by simp [Zx,Zs,hgb]) (Zu (t':=(tm 37 [(20,.ptr 4 0 0),(21,.tup [])])) (m':=(Zw pc r14.parts_ r14.names_ r14.code_ r14.bad_)) (g':=gg) (by simp) (by simp [Yc]) (by simp) (Zp (tm 37 []) (Zw pc r14.parts_ r14.names_ r14.code_ r14.bad_) gg hC (by kernel_rfl) (by simp -implicitDefEqProofs [hgk]) ?_))
  obtain rfl:=(Yz h).symm
  exact (VInX.fin (Ze (t':=(tm 37 [])) (m':=(Zw pc r14.parts_ r14.names_ r14.code_ r14.bad_)) 6 (hgg:=by simp [Zx,Zs,Yy hgb (show 6≤6 by decide)])) (by simp) (by simp [Yc]) rfl)
 refine VW.seq (Zy (Zv 1 (tm 37 [(0,.ptr 4 0 0),(23,.ptr 4 0 0)]) (Zw pc r9.2.parts_ r9.2.names_ r9.2.code_ r9.2.bad_) gg hC (by kernel_rfl) (by simp -implicitDefEqProofs [hgk]) ?_))
 obtain ⟨r16,q17,h⟩:=Zc h
 refine Zq (ok145) (pc,r9.2,(⟨#[109,105,110,40]⟩ : ByteArray)) r16 q17 (by simp [Zm]) rfl (by simp) (by simp [Yc]) (by simp [hgk]) (by simp [Zx,Zs,hgb]) (Zu (t':=(tm 37 [(0,.ptr 4 0 0),(23,.ptr 4 0 0),(24,.b r16.1)])) (m':=(Zw pc r16.2.parts_ r16.2.names_ r16.2.code_ r16.2.bad_)) (g':=gg) (by simp) (by simp [Yc]) (by simp) (Zp (tm 37 [(0,.ptr 4 0 0),(22,.b r16.1)]) (Zw pc r16.2.parts_ r16.2.names_ r16.2.code_ r16.2.bad_) gg hC (by kernel_rfl) (by simp -implicitDefEqProofs [hgk]) (Zd h (fun h => ?_) (fun h => ?_))))
 ·refine Zy (Zv 1 (tm 37 [(25,.ptr 4 0 0)]) (Zw pc r16.2.parts_ r16.2.names_ r16.2.code_ r16.2.bad_) gg hC (by kernel_rfl) (by simp -implicitDefEqProofs [hgk]) ?_)
  obtain ⟨r19,q20,h⟩:=Zc h
  refine Zq (ok175 self hself) (pc,r16.2,2,9) r19 q20 (by simp [Zm]) rfl (by simp) (by simp [Yc]) (by simp [hgk]) (by simp [Zx,Zs,hgb]) (Zu (t':=(tm 37 [(25,.ptr 4 0 0),(26,.tup [])])) (m':=(Zw pc r19.parts_ r19.names_ r19.code_ r19.bad_)) (g':=gg) (by simp) (by simp [Yc]) (by simp) (Zp (tm 37 []) (Zw pc r19.parts_ r19.names_ r19.code_ r19.bad_) gg hC (by kernel_rfl) (by simp -implicitDefEqProofs [hgk]) ?_))
  obtain rfl:=(Yz h).symm
  exact (VInX.fin (Ze (t':=(tm 37 [])) (m':=(Zw pc r19.parts_ r19.names_ r19.code_ r19.bad_)) 6 (hgg:=by simp [Zx,Zs,Yy hgb (show 6≤6 by decide)])) (by simp) (by simp [Yc]) rfl)
 refine VW.seq (Zy (Zv 1 (tm 37 [(0,.ptr 4 0 0),(28,.ptr 4 0 0)]) (Zw pc r16.2.parts_ r16.2.names_ r16.2.code_ r16.2.bad_) gg hC (by kernel_rfl) (by simp -implicitDefEqProofs [hgk]) ?_))
 obtain ⟨r21,q22,h⟩:=Zc h
 refine Zq (ok145) (pc,r16.2,(⟨#[109,97,120,40]⟩ : ByteArray)) r21 q22 (by simp [Zm]) rfl (by simp) (by simp [Yc]) (by simp [hgk]) (by simp [Zx,Zs,hgb]) (Zu (t':=(tm 37 [(0,.ptr 4 0 0),(28,.ptr 4 0 0),(29,.b r21.1)])) (m':=(Zw pc r21.2.parts_ r21.2.names_ r21.2.code_ r21.2.bad_)) (g':=gg) (by simp) (by simp [Yc]) (by simp) (Zp (tm 37 [(0,.ptr 4 0 0),(27,.b r21.1)]) (Zw pc r21.2.parts_ r21.2.names_ r21.2.code_ r21.2.bad_) gg hC (by kernel_rfl) (by simp -implicitDefEqProofs [hgk]) (Zd h (fun h => ?_) (fun h => ?_))))
 ·refine Zy (Zv 1 (tm 37 [(30,.ptr 4 0 0)]) (Zw pc r21.2.parts_ r21.2.names_ r21.2.code_ r21.2.bad_) gg hC (by kernel_rfl) (by simp -implicitDefEqProofs [hgk]) ?_)
  obtain ⟨r24,q25,h⟩:=Zc h
  refine Zq (ok175 self hself) (pc,r21.2,2,10) r24 q25 (by simp [Zm]) rfl (by simp) (by simp [Yc]) (by simp [hgk]) (by simp [Zx,Zs,hgb]) (Zu (t':=(tm 37 [(30,.ptr 4 0 0),(31,.tup [])])) (m':=(Zw pc r24.parts_ r24.names_ r24.code_ r24.bad_)) (g':=gg) (by simp) (by simp [Yc]) (by simp) (Zp (tm 37 []) (Zw pc r24.parts_ r24.names_ r24.code_ r24.bad_) gg hC (by kernel_rfl) (by simp -implicitDefEqProofs [hgk]) ?_))
  obtain rfl:=(Yz h).symm
  exact (VInX.fin (Ze (t':=(tm 37 [])) (m':=(Zw pc r24.parts_ r24.names_ r24.code_ r24.bad_)) 6 (hgg:=by simp [Zx,Zs,Yy hgb (show 6≤6 by decide)])) (by simp) (by simp [Yc]) rfl)
 refine VW.seq (Zy (Zv 1 (tm 37 [(0,.ptr 4 0 0),(33,.ptr 4 0 0)]) (Zw pc r21.2.parts_ r21.2.names_ r21.2.code_ r21.2.bad_) gg hC (by kernel_rfl) (by simp -implicitDefEqProofs [hgk]) ?_))
 obtain ⟨r26,q27,h⟩:=Zc h
 refine Zq (ok145) (pc,r21.2,(⟨#[112,105,99,107,40]⟩ : ByteArray)) r26 q27 (by simp [Zm]) rfl (by simp) (by simp [Yc]) (by simp [hgk]) (by simp [Zx,Zs,hgb]) (Zu (t':=(tm 37 [(0,.ptr 4 0 0),(33,.ptr 4 0 0),(34,.b r26.1)])) (m':=(Zw pc r26.2.parts_ r26.2.names_ r26.2.code_ r26.2.bad_)) (g':=gg) (by simp) (by simp [Yc]) (by simp) (Zp (tm 37 [(0,.ptr 4 0 0),(32,.b r26.1)]) (Zw pc r26.2.parts_ r26.2.names_ r26.2.code_ r26.2.bad_) gg hC (by kernel_rfl) (by simp -implicitDefEqProofs [hgk]) (Zk h (fun h => ?_) (fun h => ?_))))
 ·refine Zy (Zv 1 (tm 37 [(6,.ptr 4 0 0)]) (Zw pc r26.2.parts_ r26.2.names_ r26.2.code_ r26.2.bad_) gg hC (by kernel_rfl) (by simp -implicitDefEqProofs [hgk]) ?_)
  obtain ⟨r31,q32,h⟩:=Zc h
  refine Zq (ok176) (pc,r26.2) r31 q32 (by simp [Zm]) rfl (by simp) (by simp [Yc]) (by simp [hgk]) (by simp [Zx,Zs,hgb]) (Zu (t':=(tm 37 [(6,.ptr 4 0 0),(7,.tup [])])) (m':=(Zw pc r31.parts_ r31.names_ r31.code_ r31.bad_)) (g':=gg) (by simp) (by simp [Yc]) (by simp) (Zp (tm 37 []) (Zw pc r31.parts_ r31.names_ r31.code_ r31.bad_) gg hC (by kernel_rfl) (by simp -implicitDefEqProofs [hgk]) ?_))
  obtain rfl:=(Yz h).symm
  exact (VInX.fin (Ze (t':=(tm 37 [])) (m':=(Zw pc r31.parts_ r31.names_ r31.code_ r31.bad_)) 6 (hgg:=by simp [Zx,Zs,Yy hgb (show 6≤6 by decide)])) (by simp) (by simp [Yc]) rfl)
 refine Zy (Zv 1 (tm 37 [(35,.ptr 4 0 0)]) (Zw pc r26.2.parts_ r26.2.names_ r26.2.code_ r26.2.bad_) gg hC (by kernel_rfl) (by simp -implicitDefEqProofs [hgk]) ?_)
 obtain ⟨r29,q30,h⟩:=Zc h
 refine Zq (ok175 self hself) (pc,r26.2,3,11) r29 q30 (by simp [Zm]) rfl (by simp) (by simp [Yc]) (by simp [hgk]) (by simp [Zx,Zs,hgb]) (Zu (t':=(tm 37 [(35,.ptr 4 0 0),(36,.tup [])])) (m':=(Zw pc r29.parts_ r29.names_ r29.code_ r29.bad_)) (g':=gg) (by simp) (by simp [Yc]) (by simp) (Zp (tm 37 []) (Zw pc r29.parts_ r29.names_ r29.code_ r29.bad_) gg hC (by kernel_rfl) (by simp -implicitDefEqProofs [hgk]) ?_))
 obtain rfl:=(Yz h).symm
 exact (VInX.fin (Ze (t':=(tm 37 [])) (m':=(Zw pc r29.parts_ r29.names_ r29.code_ r29.bad_)) 6 (hgg:=by simp [Zx,Zs,Yy hgb (show 6≤6 by decide)])) (by simp) (by simp [Yc]) rfl)
def g147_j1 (kind : Int) (x_3 : Bool) : Option (Int × Int) :=
if x_3 = true then
some (0,1)
else
if Yx kind 4 = true then
some (1,0)
else
if Yx kind 12 = true then
some (1,1)
else
if Yx kind 11 = true then
some (3,1)
else
some (2,1)
def g147 (kind : Int) : Option (Int × Int) :=
if Yx kind 1 = true then
g147_j1 kind (Yx kind 1)
else
if Yx kind 2 = true then
g147_j1 kind (Yx kind 2)
else
g147_j1 kind (Yx kind 3)
@[simp] def eA147 (a : Int) : List V:=[.i .i8 a]
def eB147 (r : Int × Int) : V:=.tup [.i .i64 r.1,.i .i64 r.2]
theorem inj147 (a a' : Int) (h : eA147 a = eA147 a') : a = a':=by simpa [eA147,Prod.ext_iff] using h
def F147 : List V→Option V:=tells (fun a => g147 a) eA147 eB147
theorem ok147 : Zz Tryz.prog 147 F147:=by
 refine Zg 15 Tryz.func147 ?_
 rintro kind r h
 rw [g147] at h
 have hC : Qc.Ok Tryz.prog []:=trivial
 refine VW.seq (Za [0] hC (q:=(VW.seq (VW.seq (Za [4] hC (q:=(VW.block (VW.join (fun (v : Bool) => (⟨(tm 15 [(4,.i .i8 kind),(5,.b v)]),[],[]⟩ : VS)) (fun v => (g147_j1 kind (v)).bind some = some r) ?_ ?_))))))))
 ·refine VW.seq (Za [4,5] hC (q:=(Zd h (fun h => ?_) (fun h => ?_))))
  ·exact VW.skip (Zn (Yx kind 1) h (Ze 0))
  refine VW.seq (Za [4,5] hC (q:=(Zd h (fun h => ?_) (fun h => ?_))))
  ·exact VW.skip (Zn (Yx kind 2) h (Ze 0))
  exact Za [4,5] hC (q:=(Zn (Yx kind 3) h (Ze 0)))
 rintro x_3 h
 replace h : (g147_j1 kind x_3).bind _ = _:=h
 rw [g147_j1] at h
 refine Zd h (fun h => ?_) (fun h => ?_)
 ·refine VW.seq (Za [2,3] hC (q:=?_))
  exact VW.ret (Zb h (by simp [eB147]))
 refine VW.seq (Za [4,9] hC (q:=(Zd h (fun h => ?_) (fun h => ?_))))
 ·refine VW.seq (Za [2,3] hC (q:=?_))
  exact VW.ret (Zb h (by simp [eB147]))
 refine VW.seq (Za [4,11] hC (q:=(Zd h (fun h => ?_) (fun h => ?_))))
 ·refine VW.seq (Za [2,3] hC (q:=?_))
  exact VW.ret (Zb h (by simp [eB147]))
 refine VW.seq (Za [13] hC (q:=(Zd h (fun h => ?_) (fun h => ?_))))
 ·refine VW.seq (Za [2,3] hC (q:=?_))
  exact VW.ret (Zb h (by simp [eB147]))
 refine VW.skip (VW.seq (Za [2,3] hC (q:=?_)))
 exact VW.ret (Zb h (by simp [eB147]))
theorem tl147 {kind : Int} {r : Int × Int} (h : g147 kind = some r) : F147 [.i .i8 kind] = some (.tup [.i .i64 r.1,.i .i64 r.2]):=Zf inj147 (a:=kind) h
def g132_j1 (most_25 : Int) : Option (Int) :=
some most_25
def g132_L1 (code : List T189) : (Int × Int × Int)→Option ((Int × Int × Int) ⊕ (Int))
| (depth_41,most_42,i_43) =>
if Zo i_43 (code.length : Int) = true then
(Wp code i_43).bind fun e45 =>
(g147 e45.kind_).bind fun r47 =>
if Zo most_42 (aI .i64 depth_41 (sI .i64 r47.2 r47.1)) = true then
some (.inl (aI .i64 depth_41 (sI .i64 r47.2 r47.1),aI .i64 depth_41 (sI .i64 r47.2 r47.1),aI .i64 i_43 1))
else
some (.inl (aI .i64 depth_41 (sI .i64 r47.2 r47.1),most_42,aI .i64 i_43 1))
else
some (.inr most_42)
def g132 (code : List T189) : Option (Int) :=
(loopO (g132_L1 code) (0,0,0)).bind fun w => g132_j1 w
@[simp] def eA132 (a : List T189) : List V:=[.sl 3 (rows Yi a)]
def eB132 (r : Int) : V:=.i .i64 r
theorem inj132 (a a' : List T189) (h : eA132 a = eA132 a') : a = a':=by simpa [eA132,Prod.ext_iff] using h
def F132 : List V→Option V:=tells (fun a => g132 a) eA132 eB132
theorem ok132 : Zz Tryz.prog 132 F132:=by
 refine Zg 33 Tryz.func132 ?_
 rintro code r h
 rw [g132] at h
 have hC : Qc.Ok Tryz.prog [(147,F147)]:=⟨.inl ok147,trivial⟩
 refine VW.seq (Za [0] hC (q:=(VW.seq (Za [0,3] hC (q:=(VW.seq (Za [0,3,4] hC (q:=(VW.join (fun (v : Int) => (⟨(tm 33 [(4,.i .i64 v)]),[],[]⟩ : VS)) (fun v => (g132_j1 (v)).bind some = some r) ?_ ?_)))))))))
 ·refine VW.seq (Za [0,3,4,5] hC (q:=VW.block ?_))
  obtain ⟨w_1,hw_1,h⟩:=Zc h
  refine VW.loopO (fun (x : Int × Int × Int) => (⟨(tm 33 [(0,.sl 3 (rows Yi code)),(3,.i .i64 x.1),(4,.i .i64 x.2.1),(5,.i .i64 x.2.2)]),[],[]⟩ : VS)) hw_1 (Ze 0) ?_
  rintro n_1 ⟨depth_41,most_42,i_43⟩ h1
  rw [g132_L1] at h1
  refine VW.seq (VW.seq (Za [0,3,4,5,11] hC (q:=(Zk h1 (fun h1 => ?_) (fun h1 => ?_)))))
  ·refine VW.exit ?_
   have e_:=Yd h1
   subst w_1
   exact Zn most_42 h (Ze 0)
  refine VW.skip (VW.seq (VW.block (VW.seq ?_)))
  obtain ⟨e45,⟨f46a,f46b,f46c,f46d⟩,h1⟩:=Ys h1
  obtain ⟨r47,q48,h1⟩:=Zc h1
  have c48:=tl147 q48
  refine Zj [0,3,4,5,6,7] hC (q:=(VW.seq (Za [0,3,4,5] hC (q:=(VW.seq (Za [0,3,4,5,30] hC (q:=(Zk h1 (fun h1 => ?_) (fun h1 => ?_)))))))))
  ·exact VW.skip (Za [0,3,4,5] hC (q:=(Zn (aI .i64 depth_41 (sI .i64 r47.2 r47.1),most_42,aI .i64 i_43 1) (Yr h1) (Ze 0))))
  exact Za [0,3,4,5] hC (q:=(Za [0,3,4,5] hC (q:=(Zn (aI .i64 depth_41 (sI .i64 r47.2 r47.1),aI .i64 depth_41 (sI .i64 r47.2 r47.1),aI .i64 i_43 1) (Yr h1) (Ze 0)))))
 rintro most_25 h
 replace h : (g132_j1 most_25).bind _ = _:=h
 rw [g132_j1] at h
 refine VW.seq (Za [2] hC (q:=?_))
 exact VW.ret (Zb h (by simp [eB132]))
theorem tl132 {code : List T189} {r : Int} (h : g132 code = some r) : F132 [.sl 3 (rows Yi code)] = some (.i .i64 r):=Zf inj132 (a:=code) h
def g58_j2 (l277 : List ByteArray) (l278 : List T189) : Option (T79 × Int × Int) :=
some ((⟨l277,l278⟩ : T79),0,0)
def g58_j3 (i_456 : Int) (x_502 : Int) (l503 : List ByteArray) (l504 : List T189) : Option ((Int × (List ByteArray) × (List T189)) ⊕ (((List ByteArray) × (List T189)) ⊕ (T79 × Int × Int))) :=
if (!Yx x_502 0) = true then
some (.inr (.inr ((⟨[],[]⟩ : T79),i_456,x_502)))
else
some (.inl (aI .i64 i_456 1,l503,l504))
def g58_L1 (lines_9 : List ByteArray) : (Int × (List ByteArray) × (List T189))→Option ((Int × (List ByteArray) × (List T189)) ⊕ (((List ByteArray) × (List T189)) ⊕ (T79 × Int × Int)))
| (i_456,l457,l458) =>
if Zo i_456 (lines_9.length : Int) = true then
(Wp lines_9 i_456).bind fun e460 =>
(g128 e460).bind fun r506 =>
(if ((!r506.2) || Zo (r506.1.length : Int) 3) = true then some true else (Wp r506.1 0).bind fun e508 => (g129 e508).bind fun r510 => some (!r510)).bind fun w512 =>
(if w512 = true then some true else (Wp r506.1 1).bind fun e513 => some (!Jb e513 (⟨#[61]⟩ : ByteArray))).bind fun w515 =>
if w515 = true then
g58_j3 i_456 5 l457 l458
else
(Jw 2 (r506.1.length : Int) r506.1.length).bind fun u517 =>
(g130 g168 (⟨(r506.1.drop 2),l457,[],false⟩ : T204)).bind fun r519 =>
if (r519.bad_ || Zo 0 (r519.parts_.length : Int)) = true then
g58_j3 i_456 5 r519.names_ l458
else
(Wp r506.1 0).bind fun e522 =>
(g131 r519.names_ e522).bind fun r524 =>
if Xa 0 r524 = true then
g58_j3 i_456 4 r519.names_ l458
else
(Jm 8 r519.code_ [(⟨4,cI .i16 (r519.names_.length : Int),(some 0)⟩ : T189)]).bind fun u527 =>
(if (Yx (r519.names_.length : Int) 12 || Zo 300 (aI .i64 (l458.length : Int) ((r519.code_ ++ [(⟨4,cI .i16 (r519.names_.length : Int),(some 0)⟩ : T189)]).length : Int))) = true then some true else (g132 (r519.code_ ++ [(⟨4,cI .i16 (r519.names_.length : Int),(some 0)⟩ : T189)])).bind fun r529 => some (Zo 20 r529)).bind fun w531 =>
if w531 = true then
g58_j3 i_456 3 r519.names_ l458
else
(Wp r506.1 0).bind fun e533 =>
(Jm 16 r519.names_ [e533]).bind fun u535 =>
(Jm 8 l458 (r519.code_ ++ [(⟨4,cI .i16 (r519.names_.length : Int),(some 0)⟩ : T189)])).bind fun u537 =>
g58_j3 i_456 0 (r519.names_ ++ [e533]) (l458 ++ (r519.code_ ++ [(⟨4,cI .i16 (r519.names_.length : Int),(some 0)⟩ : T189)]))
else
some (.inr (.inl (l457,l458)))
def g58_j1 (lines_9 : List ByteArray) : Option (T79 × Int × Int) :=
(loopO (g58_L1 lines_9) (0,[],[])).bind fun w => match w with
| .inl y => g58_j2 y.1 y.2
| .inr r => some r
def g58 (text : ByteArray) : Option (T79 × Int × Int) :=
if Zo 2000 (text.size : Int) = true then
some ((⟨[],[]⟩ : T79),0,2)
else
(g102 text 10).bind fun r2 =>
(Wp r2 (sI .i64 (r2.length : Int) 1)).bind fun e546 =>
if Jb e546 ByteArray.empty = true then
(Jw 0 (sI .i64 (r2.length : Int) 1) r2.length).bind fun u549 =>
g58_j1 (r2.take (sI .i64 (r2.length : Int) 1).toNat)
else
g58_j1 r2
@[simp] def eA58 (a : ByteArray) : List V:=[.str a]
def eB58 (r : T79 × Int × Int) : V:=.tup [.agg [.own 1 (rows Yu r.1.names_),.own 3 (rows Yi r.1.code_)],.i .i64 r.2.1,.i .i64 r.2.2]
theorem inj58 (a a' : ByteArray) (h : eA58 a = eA58 a') : a = a':=by simpa [eA58,Prod.ext_iff] using h
def F58 : List V→Option V:=tells (fun a => g58 a) eA58 eB58
theorem ok58 : Zz Tryz.prog 58 F58:=by
 refine Zg 45 Tryz.func58 ?_
 rintro text r h
 rw [g58] at h
 have hC : Qc.Ok Tryz.prog [(102,fzF F102),(128,fzF F128),(129,F129),(131,F131),(132,F132)]:=⟨.inl ok102.fz,.inl ok128.fz,.inl ok129,.inl ok131,.inl ok132,trivial⟩
 refine VW.seq (Za [0,2] hC (q:=(VW.seq (VW.seq (Za [0,2,11] hC (q:=(Zd h (fun h => ?_) (fun h => ?_))))))))
 ·refine VW.seq (Za [2,3,4] hC (q:=?_))
  exact VW.ret (Zb h (by simp [eB58]))
 refine VW.skip (VW.seq ?_)
 obtain ⟨r2,q3,h⟩:=Zc h
 have c3:=tl102 q3
 replace c3 : fzF F102 [.str text,.i .u8 10] = some (.sl 1 (rows Yu r2)):=(fzF_eq c3).trans (by simp)
 refine Zj [2,5] hC (q:=(VW.join (fun (v : List ByteArray) => (⟨(tm 45 [(2,.ptr 0 0 0),(5,.sl 1 (rows Yu v))]),[some (2,[[.nil,.nil]])],[]⟩ : VS)) (fun v => (g58_j1 (v)).bind some = some r) ?_ ?_))
 ·refine VW.seq ?_
  obtain ⟨e546,⟨f547a,f547b,f547c,f547d⟩,h⟩:=Ys h
  try simp only [Int.toNat_natCast,Int.reduceToNat] at f547a f547b f547c f547d
  refine Zj [2,5,21] hC (q:=(Zk h (fun h => ?_) (fun h => ?_)))
  ·exact VW.skip (Zn r2 h (Ze 1))
  obtain ⟨u549,⟨f550a,f550b,f550c,f550d,f550e⟩,h⟩:=Gj h
  try simp only [Int.toNat_natCast,Int.reduceToNat,List.length_cons,List.length_nil,Nat.reduceAdd,Nat.zero_add] at f550a f550b f550c f550d f550e
  exact Zj [2,5] hC (q:=(Zn (r2.take (sI .i64 (r2.length : Int) 1).toNat) h (Ze 1)))
 rintro lines_9 h
 replace h : (g58_j1 lines_9).bind _ = _:=h
 rw [g58_j1] at h
 refine VW.seq (VW.rE (tm 45 [(2,.ptr 0 0 0),(5,.sl 1 (rows Yu lines_9)),(6,.ptr 1 0 0)]) [some (2,[[.nil,.nil]]),some (2,[[.nil,.nil]])] [] hC (Qm.trans (Kz (m:=[some (2,[[.nil,.nil]]),some (2,[[.nil,.nil]])]) 1 1 [some (2,[[.nil,.nil]]),some (2,[[.ref 2 0 0,.nil]]),some (1,rows Yu [])] rfl (by simp) rfl) (Kz (m:=[some (2,[[.nil,.nil]]),some (2,[[.ref 2 0 0,.nil]]),some (1,rows Yu [])]) 1 3 [some (2,[[.nil,.nil]]),some (2,[[.ref 2 0 0,.ref 3 0 0]]),some (1,rows Yu []),some (3,rows Yi [])] rfl (by simp) rfl) ) (VW.join (fun (v : (List ByteArray) × (List T189)) => (⟨(tm 45 [(2,.ptr 0 0 0),(6,.ptr 1 0 0)]),[some (2,[[.nil,.nil]]),some (2,[[.ref 2 0 v.1.length,.ref 3 0 v.2.length]]),some (1,rows Yu v.1),some (3,rows Yi v.2)],[]⟩ : VS)) (fun v => (g58_j2 (v.1) (v.2)).bind some = some r) ?_ ?_))
 ·refine VW.seq (Za [2,5,6,7] hC (q:=VW.block ?_))
  obtain ⟨w_1,hw_1,h⟩:=Zc h
  refine VW.loopO (fun (x : Int × (List ByteArray) × (List T189)) => (⟨(tm 45 [(2,.ptr 0 0 0),(5,.sl 1 (rows Yu lines_9)),(6,.ptr 1 0 0),(7,.i .i64 x.1)]),[some (2,[[.nil,.nil]]),some (2,[[.ref 2 0 x.2.1.length,.ref 3 0 x.2.2.length]]),some (1,rows Yu x.2.1),some (3,rows Yi x.2.2)],[]⟩ : VS)) hw_1 (Ze 4) ?_
  rintro n_1 ⟨i_456,l457,l458⟩ h1
  rw [g58_L1] at h1
  refine VW.seq (VW.seq (Za [2,5,6,7,31] hC (q:=(Zk h1 (fun h1 => ?_) (fun h1 => ?_)))))
  ·refine VW.exit ?_
   have e_:=Yd h1
   subst w_1
   exact Zn (l457,l458) h (Ze 4)
  refine VW.skip (VW.seq (VW.block (VW.seq (Zy ?_))))
  obtain ⟨e460,⟨f461a,f461b,f461c,f461d⟩,h1⟩:=Ys h1
  refine VL.inlJ 4 (tm 45 [(2,.ptr 0 0 0),(5,.sl 1 (rows Yu lines_9)),(6,.ptr 1 0 0),(7,.i .i64 i_456),(37,.str e460)]) [some (2,[[.nil,.nil]]),some (2,[[.ref 2 0 l457.length,.ref 3 0 l458.length]]),some (1,rows Yu l457),some (3,rows Yi l458)] [] rfl hC (by kernel_rfl) (by simp -implicitDefEqProofs [f461a,f461b,f461c,f461d]) rfl rfl Tryz.func103 rfl rfl rfl rfl (tm_length) (fun (v : Int × (List ByteArray) × (List T189)) => (⟨(tm 45 [(2,.ptr 0 0 0),(5,.sl 1 (rows Yu lines_9)),(6,.ptr 1 0 0),(7,.i .i64 i_456),(38,.i .i64 v.1)]),[some (2,[[.nil,.nil]]),some (2,[[.ref 2 0 v.2.1.length,.ref 3 0 v.2.2.length]]),some (1,rows Yu v.2.1),some (3,rows Yi v.2.2)],[]⟩ : VS)) (fun v => (g58_j3 i_456 (v.1) (v.2.1) (v.2.2)).bind (kN (g58_L1 lines_9) n_1) = some w_1) ?_ ?_
  ·refine VW.ent (s:=(⟨(tm 121 [(0,.ptr 1 0 0),(1,.str e460)]),[some (2,[[.nil,.nil]]),some (2,[[.ref 2 0 l457.length,.ref 3 0 l458.length]]),some (1,rows Yu l457),some (3,rows Yi l458)],((tm 45 [(2,.ptr 0 0 0),(5,.sl 1 (rows Yu lines_9)),(6,.ptr 1 0 0),(7,.i .i64 i_456),(37,.str e460)]) ++ [])⟩ : VS)) (Wf (by rw [Wd]; simp) rfl (by simp)) (VW.seq (Za [0,1] hC (q:=VW.seq ?_)))
   obtain ⟨r506,q507,h1⟩:=Zc h1
   have c507:=tl128 q507
   replace c507 : fzF F128 [.str e460] = some (.tup [.sl 1 (rows Yu r506.1),.b r506.2]):=(fzF_eq c507).trans (by simp)
   refine Zj [0,5,6] hC (q:=(VW.seq (VW.seq ?_)))
   obtain ⟨w512,q541,h1⟩:=Zc h1
   obtain ⟨w515,q542,h1⟩:=Zc h1
   refine Yg (tm 121 [(0,.ptr 1 0 0),(5,.sl 1 (rows Yu r506.1)),(33,.b w515)]) [some (2,[[.nil,.nil]]),some (2,[[.ref 2 0 l457.length,.ref 3 0 l458.length]]),some (1,rows Yu l457),some (3,rows Yi l458)] ((tm 45 [(2,.ptr 0 0 0),(5,.sl 1 (rows Yu lines_9)),(6,.ptr 1 0 0),(7,.i .i64 i_456),(37,.str e460)]) ++ []) hC (by kernel_rfl) (by
     obtain ⟨q543,q541⟩ | ⟨q543,rfl⟩:=Uh q541
     ·obtain ⟨e508,q509,q541⟩:=Yb q541
      obtain ⟨f509a,f509b,f509c,f509d⟩:=Kf q509
      try simp only [Int.toNat_natCast,Int.reduceToNat] at f509a f509b f509c f509d
      obtain ⟨r510,q511,q541⟩:=Yb q541
      have c511:=tl129 q511
      obtain rfl:=Option.some.inj q541
      obtain ⟨q544,q542⟩ | ⟨q544,rfl⟩:=Uh q542
      ·obtain ⟨e513,q514,q542⟩:=Yb q542
       obtain ⟨f514a,f514b,f514c,f514d⟩:=Kf q514
       try simp only [Int.toNat_natCast,Int.reduceToNat] at f514a f514b f514c f514d
       obtain rfl:=Option.some.inj q542
       simp -implicitDefEqProofs [q543,f509a,f509b,f509c,f509d,c511,q544,f514a,f514b,f514c,f514d]
      simp -implicitDefEqProofs [q543,f509a,f509b,f509c,f509d,c511,q544]
     obtain ⟨q545,q542⟩ | ⟨q545,rfl⟩:=Uh q542
     ·exact absurd q545 (by simp)
     simp -implicitDefEqProofs [q543,q545]) ?_
   refine Zd h1 (fun h1 => ?_) (fun h1 => ?_)
   ·exact VW.seq (Za [4] hC (q:=(VW.ret (Gq (.i .i64 5) (5,l457,l458) (tm 45 [(2,.ptr 0 0 0),(5,.sl 1 (rows Yu lines_9)),(6,.ptr 1 0 0),(7,.i .i64 i_456),(38,.i .i64 5)]) (by simp) h1 (by simp) [] (by simp) (Ze 4)))))
   refine VW.skip (VW.seq ?_)
   obtain ⟨u517,⟨f518a,f518b,f518c,f518d,f518e⟩,h1⟩:=Gj h1
   try simp only [Int.toNat_natCast,Int.reduceToNat,List.length_cons,List.length_nil,Nat.reduceAdd,Nat.zero_add] at f518a f518b f518c f518d f518e
   refine VW.rDE (tm 121 [(0,.ptr 1 0 0),(5,.sl 1 (rows Yu r506.1)),(7,.ptr 4 0 0)]) [some (2,[[.nil,.nil]]),some (2,[[.ref 2 0 l457.length,.ref 3 0 l458.length]]),some (1,rows Yu l457),some (3,rows Yi l458),some (4,[[.sl 1 (rows Yu (r506.1.drop 2)),.ref 2 0 l457.length,.nil,.b false]])] ((tm 45 [(2,.ptr 0 0 0),(5,.sl 1 (rows Yu lines_9)),(6,.ptr 1 0 0),(7,.i .i64 i_456),(37,.str e460)]) ++ []) hC Wc (Kz (m:=[some (2,[[.nil,.nil]]),some (2,[[.ref 2 0 l457.length,.ref 3 0 l458.length]]),some (1,rows Yu l457),some (3,rows Yi l458),some (4,[[.sl 1 (rows Yu (r506.1.drop 2)),.ref 2 0 l457.length,.nil,.b false]])]) 4 3 [some (2,[[.nil,.nil]]),some (2,[[.ref 2 0 l457.length,.ref 3 0 l458.length]]),some (1,rows Yu l457),some (3,rows Yi l458),some (4,[[.sl 1 (rows Yu (r506.1.drop 2)),.ref 2 0 l457.length,.ref 5 0 0,.b false]]),some (3,rows Yi [])] rfl (by simp) rfl) (VW.seq (Zy (Zv 1 (tm 121 [(0,.ptr 1 0 0),(5,.sl 1 (rows Yu r506.1)),(7,.ptr 4 0 0),(42,.ptr 4 0 0)]) [some (2,[[.nil,.nil]]),some (2,[[.ref 2 0 l457.length,.ref 3 0 l458.length]]),some (1,rows Yu l457),some (3,rows Yi l458),some (4,[[.sl 1 (rows Yu (r506.1.drop 2)),.ref 2 0 l457.length,.ref 5 0 0,.b false]]),some (3,rows Yi [])] ((tm 45 [(2,.ptr 0 0 0),(5,.sl 1 (rows Yu lines_9)),(6,.ptr 1 0 0),(7,.i .i64 i_456),(37,.str e460)]) ++ []) hC (by kernel_rfl) (by simp -implicitDefEqProofs) ?_))) (h:=by simp -implicitDefEqProofs [f518a,f518b,f518c,f518d,f518e])
   obtain ⟨r519,q520,h1⟩:=Zc h1
   refine Zq (ok130 g168 ok168) (l458,(⟨(r506.1.drop 2),l457,[],false⟩ : T204)) r519 q520 (by simp [Zm]) rfl (by simp) (by simp [Yc]) (by simp) (by simp [Zx,Zs]) (Zu (t':=(tm 121 [(0,.ptr 1 0 0),(5,.sl 1 (rows Yu r506.1)),(7,.ptr 4 0 0),(42,.ptr 4 0 0),(43,.tup [])])) (m':=(Zw l458 r519.parts_ r519.names_ r519.code_ r519.bad_)) (g':=((tm 45 [(2,.ptr 0 0 0),(5,.sl 1 (rows Yu lines_9)),(6,.ptr 1 0 0),(7,.i .i64 i_456),(37,.str e460)]) ++ [])) (by simp) (by simp [Yc]) (by simp) (Zp (tm 121 [(0,.ptr 1 0 0),(5,.sl 1 (rows Yu r506.1)),(7,.ptr 4 0 0)]) (Zw l458 r519.parts_ r519.names_ r519.code_ r519.bad_) ((tm 45 [(2,.ptr 0 0 0),(5,.sl 1 (rows Yu lines_9)),(6,.ptr 1 0 0),(7,.i .i64 i_456),(37,.str e460)]) ++ []) hC (by kernel_rfl) (by simp -implicitDefEqProofs) (VW.seq (VW.seq (Za [0,5,7,55] hC (q:=(Zd h1 (fun h1 => ?_) (fun h1 => ?_))))))))
   ·exact VW.seq (Za [4] hC (q:=(VW.ret (Gq (.i .i64 5) (5,r519.names_,l458) (tm 45 [(2,.ptr 0 0 0),(5,.sl 1 (rows Yu lines_9)),(6,.ptr 1 0 0),(7,.i .i64 i_456),(38,.i .i64 5)]) (by simp) h1 (by simp) [] (by simp) (Ze 4)))))
   refine VW.skip (VW.seq (VW.seq ?_))
   obtain ⟨e522,⟨f523a,f523b,f523c,f523d⟩,h1⟩:=Ys h1
   try simp only [Int.toNat_natCast,Int.reduceToNat] at f523a f523b f523c f523d
   obtain ⟨r524,q525,h1⟩:=Zc h1
   have c525:=tl131 q525
   refine Wt [0,5,7,64] hC Wc (h:=by simp -implicitDefEqProofs [f523a,f523b,f523c,f523d,c525]; exact .rfl) (q:=(Zd h1 (fun h1 => ?_) (fun h1 => ?_)))
   ·exact VW.seq (Za [4] hC (q:=(VW.ret (Gq (.i .i64 4) (4,r519.names_,l458) (tm 45 [(2,.ptr 0 0 0),(5,.sl 1 (rows Yu lines_9)),(6,.ptr 1 0 0),(7,.i .i64 i_456),(38,.i .i64 4)]) (by simp) h1 (by simp) [] (by simp) (Ze 4)))))
   refine VW.skip (VW.seq ?_)
   obtain ⟨u527,⟨f528a,f528b⟩,h1⟩:=Jp h1
   try simp only [Int.toNat_natCast,Int.reduceToNat,List.length_cons,List.length_nil,Nat.reduceAdd,Nat.zero_add] at f528a f528b
   refine VW.evalMid (CM:=[]) 12 [([],[13])] (tm 121 [(0,.ptr 1 0 0),(5,.sl 1 (rows Yu r506.1)),(8,.ref 5 0 (r519.code_ ++ [(⟨4,cI .i16 (r519.names_.length : Int),(some 0)⟩ : T189)]).length)]) [some (2,[[.nil,.nil]]),some (2,[[.ref 2 0 r519.names_.length,.ref 3 0 l458.length]]),some (1,rows Yu r519.names_),some (3,rows Yi l458),some (4,[[.sl 1 (rows Yu r519.parts_),.ref 2 0 r519.names_.length,A,.b r519.bad_]]),some (3,rows Yi (r519.code_ ++ [(⟨4,cI .i16 (r519.names_.length : Int),(some 0)⟩ : T189)])),some (3,rows Yi [(⟨4,cI .i16 (r519.names_.length : Int),(some 0)⟩ : T189)])] ((tm 45 [(2,.ptr 0 0 0),(5,.sl 1 (rows Yu lines_9)),(6,.ptr 1 0 0),(7,.i .i64 i_456),(37,.str e460)]) ++ []) hC trivial Wc (by kernel_rfl) (by kernel_rfl) (by simp -implicitDefEqProofs [f528a,f528b]) (VW.seq (VW.seq ?_))
   obtain ⟨w531,q539,h1⟩:=Zc h1
   refine Yg (tm 121 [(0,.ptr 1 0 0),(5,.sl 1 (rows Yu r506.1)),(8,.ref 5 0 (r519.code_ ++ [(⟨4,cI .i16 (r519.names_.length : Int),(some 0)⟩ : T189)]).length),(99,.b w531)]) [some (2,[[.nil,.nil]]),some (2,[[.ref 2 0 r519.names_.length,.ref 3 0 l458.length]]),some (1,rows Yu r519.names_),some (3,rows Yi l458),some (4,[[.sl 1 (rows Yu r519.parts_),.ref 2 0 r519.names_.length,A,.b r519.bad_]]),some (3,rows Yi (r519.code_ ++ [(⟨4,cI .i16 (r519.names_.length : Int),(some 0)⟩ : T189)])),some (3,rows Yi [(⟨4,cI .i16 (r519.names_.length : Int),(some 0)⟩ : T189)])] ((tm 45 [(2,.ptr 0 0 0),(5,.sl 1 (rows Yu lines_9)),(6,.ptr 1 0 0),(7,.i .i64 i_456),(37,.str e460)]) ++ []) hC (by kernel_rfl) (by
     obtain ⟨q540,q539⟩ | ⟨q540,rfl⟩:=Uh q539
     ·try simp only [List.length_append,List.length_cons,List.length_nil,Nat.zero_add,Nat.reduceAdd,Int.natCast_add,Int.cast_ofNat_Int] at q540
      obtain ⟨r529,q530,q539⟩:=Yb q539
      have c530:=tl132 q530
      obtain rfl:=Option.some.inj q539
      simp -implicitDefEqProofs [q540,c530]
     try simp only [List.length_append,List.length_cons,List.length_nil,Nat.zero_add,Nat.reduceAdd,Int.natCast_add,Int.cast_ofNat_Int] at q540
     simp -implicitDefEqProofs [q540]) ?_
   refine Zd h1 (fun h1 => ?_) (fun h1 => ?_)
   ·exact VW.seq (Za [4] hC (q:=(VW.ret (Gq (.i .i64 3) (3,r519.names_,l458) (tm 45 [(2,.ptr 0 0 0),(5,.sl 1 (rows Yu lines_9)),(6,.ptr 1 0 0),(7,.i .i64 i_456),(38,.i .i64 3)]) (by simp) h1 (by simp) [] (by simp) (Ze 4)))))
   refine VW.skip (VW.seq ?_)
   obtain ⟨e533,⟨f534a,f534b,f534c,f534d⟩,h1⟩:=Ys h1
   try simp only [Int.toNat_natCast,Int.reduceToNat] at f534a f534b f534c f534d
   obtain ⟨u535,⟨f536a,f536b⟩,h1⟩:=Jp h1
   try simp only [Int.toNat_natCast,Int.reduceToNat,List.length_cons,List.length_nil,Nat.reduceAdd,Nat.zero_add] at f536a f536b
   refine VW.evalMid (CM:=[]) 9 [([],[10,11,12]),([0],[0,10,11,12])] (tm 121 [(0,.ptr 1 0 0),(8,.ref 5 0 (r519.code_ ++ [(⟨4,cI .i16 (r519.names_.length : Int),(some 0)⟩ : T189)]).length)]) [some (2,[[.nil,.nil]]),some (2,[[.ref 2 0 (r519.names_ ++ [e533]).length,.ref 3 0 l458.length]]),some (1,rows Yu (r519.names_ ++ [e533])),some (3,rows Yi l458),some (4,[[.sl 1 (rows Yu r519.parts_),A,A,.b r519.bad_]]),some (3,rows Yi (r519.code_ ++ [(⟨4,cI .i16 (r519.names_.length : Int),(some 0)⟩ : T189)])),some (3,rows Yi [(⟨4,cI .i16 (r519.names_.length : Int),(some 0)⟩ : T189)]),some (1,rows Yu [e533])] ((tm 45 [(2,.ptr 0 0 0),(5,.sl 1 (rows Yu lines_9)),(6,.ptr 1 0 0),(7,.i .i64 i_456),(37,.str e460)]) ++ []) hC trivial Wc (by kernel_rfl) (by kernel_rfl) (by simp -implicitDefEqProofs [f534a,f534b,f534c,f534d,f536a,f536b]) (VW.seq ?_)
   obtain ⟨u537,⟨f538a,f538b⟩,h1⟩:=Jp h1
   try simp only [List.length_append,List.length_cons,List.length_nil,Nat.zero_add,Nat.reduceAdd,Int.natCast_add,Int.cast_ofNat_Int] at f538a f538b
   try simp only [Int.toNat_natCast,Int.reduceToNat,List.length_cons,List.length_nil,Nat.reduceAdd,Nat.zero_add] at f538a f538b
   exact VW.evalM (CM:=[]) (tm 121 []) [some (2,[[.nil,.nil]]),some (2,[[.ref 2 0 (r519.names_ ++ [e533]).length,.ref 3 0 (l458 ++ (r519.code_ ++ [(⟨4,cI .i16 (r519.names_.length : Int),(some 0)⟩ : T189)])).length]]),some (1,rows Yu (r519.names_ ++ [e533])),some (3,rows Yi (l458 ++ (r519.code_ ++ [(⟨4,cI .i16 (r519.names_.length : Int),(some 0)⟩ : T189)]))),some (4,[[.sl 1 (rows Yu r519.parts_),A,A,.b r519.bad_]]),some (3,rows Yi (r519.code_ ++ [(⟨4,cI .i16 (r519.names_.length : Int),(some 0)⟩ : T189)])),some (3,rows Yi [(⟨4,cI .i16 (r519.names_.length : Int),(some 0)⟩ : T189)]),some (1,rows Yu [e533])] ((tm 45 [(2,.ptr 0 0 0),(5,.sl 1 (rows Yu lines_9)),(6,.ptr 1 0 0),(7,.i .i64 i_456),(37,.str e460)]) ++ []) hC trivial (by simp -implicitDefEqProofs [f538a,f538b]) (VW.seq (Za [4] hC (q:=(VW.ret (Gq (.i .i64 0) (0,(r519.names_ ++ [e533]),(l458 ++ (r519.code_ ++ [(⟨4,cI .i16 (r519.names_.length : Int),(some 0)⟩ : T189)]))) (tm 45 [(2,.ptr 0 0 0),(5,.sl 1 (rows Yu lines_9)),(6,.ptr 1 0 0),(7,.i .i64 i_456),(38,.i .i64 0)]) (by simp) h1 (by simp) [] (by simp) (Ze 4))))))
  rintro ⟨x_502,l503,l504⟩ h1
  replace h1 : (g58_j3 i_456 x_502 l503 l504).bind _ = _:=h1
  rw [g58_j3] at h1
  refine Zp (tm 45 [(2,.ptr 0 0 0),(5,.sl 1 (rows Yu lines_9)),(6,.ptr 1 0 0),(7,.i .i64 i_456),(8,.i .i64 x_502)]) [some (2,[[.nil,.nil]]),some (2,[[.ref 2 0 l503.length,.ref 3 0 l504.length]]),some (1,rows Yu l503),some (3,rows Yi l504)] [] hC (by kernel_rfl) (by simp -implicitDefEqProofs) (VW.seq (Za [2,5,6,7,8,40] hC (q:=(Zd h1 (fun h1 => ?_) (fun h1 => ?_)))))
  ·refine VW.seq (Za [2,3,4] hC (q:=?_))
   have e_:=Yd h1
   subst w_1
   exact VW.ret (Zb h (by simp [eB58]))
  exact VW.skip (Za [2,5,6,7] hC (q:=(Zn (aI .i64 i_456 1,l503,l504) (Yr h1) (Ze 4))))
 rintro ⟨l277,l278⟩ h
 replace h : (g58_j2 l277 l278).bind _ = _:=h
 rw [g58_j2] at h
 refine VW.seq (Za [2,3,4] hC (q:=?_))
 exact VW.ret (Zb h (by simp [eB58]))
theorem tl58 {text : ByteArray} {r : T79 × Int × Int} (h : g58 text = some r) : F58 [.str text] = some (.tup [.agg [.own 1 (rows Yu r.1.names_),.own 3 (rows Yi r.1.code_)],.i .i64 r.2.1,.i .i64 r.2.2]):=Zf inj58 (a:=text) h
def g124_j1 : Option (Bool) :=
some true
def g124 (w_ : T149) : Option (Bool) :=
(g100 w_.wet_.a0_).bind fun r49 =>
(if ((!r49) || gtF .f32 w_.wet_.a0_ (some 1092616192)) = true then some true else (g100 w_.fuel_.a0_).bind fun r51 => some (!r51)).bind fun w53 =>
if ((w53 || gtF .f32 w_.fuel_.a0_ (some 1092616192)) || (!(Ka .f32 w_.heat_.a0_ (some 3262119936) && Qa .f32 w_.heat_.a0_ (some 1153138688)))) = true then
some false
else
(g100 w_.wet_.a1_).bind fun r55 =>
(if ((!r55) || gtF .f32 w_.wet_.a1_ (some 1092616192)) = true then some true else (g100 w_.fuel_.a1_).bind fun r57 => some (!r57)).bind fun w59 =>
if ((w59 || gtF .f32 w_.fuel_.a1_ (some 1092616192)) || (!(Ka .f32 w_.heat_.a1_ (some 3262119936) && Qa .f32 w_.heat_.a1_ (some 1153138688)))) = true then
some false
else
(g100 w_.wet_.a2_).bind fun r61 =>
(if ((!r61) || gtF .f32 w_.wet_.a2_ (some 1092616192)) = true then some true else (g100 w_.fuel_.a2_).bind fun r63 => some (!r63)).bind fun w65 =>
if ((w65 || gtF .f32 w_.fuel_.a2_ (some 1092616192)) || (!(Ka .f32 w_.heat_.a2_ (some 3262119936) && Qa .f32 w_.heat_.a2_ (some 1153138688)))) = true then
some false
else
(g100 w_.wet_.a3_).bind fun r67 =>
(if ((!r67) || gtF .f32 w_.wet_.a3_ (some 1092616192)) = true then some true else (g100 w_.fuel_.a3_).bind fun r69 => some (!r69)).bind fun w71 =>
if ((w71 || gtF .f32 w_.fuel_.a3_ (some 1092616192)) || (!(Ka .f32 w_.heat_.a3_ (some 3262119936) && Qa .f32 w_.heat_.a3_ (some 1153138688)))) = true then
some false
else
(g100 w_.wet_.a4_).bind fun r73 =>
(if ((!r73) || gtF .f32 w_.wet_.a4_ (some 1092616192)) = true then some true else (g100 w_.fuel_.a4_).bind fun r75 => some (!r75)).bind fun w77 =>
if ((w77 || gtF .f32 w_.fuel_.a4_ (some 1092616192)) || (!(Ka .f32 w_.heat_.a4_ (some 3262119936) && Qa .f32 w_.heat_.a4_ (some 1153138688)))) = true then
some false
else
(g100 w_.wet_.a5_).bind fun r79 =>
(if ((!r79) || gtF .f32 w_.wet_.a5_ (some 1092616192)) = true then some true else (g100 w_.fuel_.a5_).bind fun r81 => some (!r81)).bind fun w83 =>
if ((w83 || gtF .f32 w_.fuel_.a5_ (some 1092616192)) || (!(Ka .f32 w_.heat_.a5_ (some 3262119936) && Qa .f32 w_.heat_.a5_ (some 1153138688)))) = true then
some false
else
g124_j1
@[simp] def eA124 (a : T149) : List V:=[.cptr (Ya a) 0]
def eB124 (r : Bool) : V:=.b r
theorem inj124 (a a' : T149) (h : eA124 a = eA124 a') : a = a':=by simpa [eA124,Prod.ext_iff] using h
def F124 : List V→Option V:=tells (fun a => g124 a) eA124 eB124
theorem ok124 : Zz Tryz.prog 124 F124:=by
 refine Zg 63 Tryz.func124 ?_
 rintro w_ r h
 rw [g124] at h
 have hC : Qc.Ok Tryz.prog [(100,F100)]:=⟨.inl ok100,trivial⟩
 refine VW.seq (Za [0] hC (q:=(VW.join (fun (v : Unit) => (⟨(tm 63 []),[],[]⟩ : VS)) (fun v => (g124_j1).bind some = some r) ?_ ?_)))
 ·refine VW.seq (Za [0,3] hC (q:=(VW.block (VW.rounds 8 (VRounds.step (VW.seq (VW.seq (Za [0,3,5] hC (h:=by simp -implicitDefEqProofs [(by decide : Zo 0 6 = true)]; exact .rfl) (q:=(Ye (by simp) (VW.skip (VW.seq (VW.block (VW.seq ?_))))))))))))))
  obtain ⟨r49,q50,h⟩:=Zc h
  have c50:=tl100 q50
  obtain ⟨w53,q95,h⟩:=Zc h
  refine Yg (tm 63 [(0,.cptr (Ya w_) 0),(3,.i .i64 0),(62,.b ((w53 || gtF .f32 w_.fuel_.a0_ (some 1092616192)) || (!(Ka .f32 w_.heat_.a0_ (some 3262119936) && Qa .f32 w_.heat_.a0_ (some 1153138688)))))]) [] [] hC (by kernel_rfl) (by
    obtain ⟨q96,q95⟩ | ⟨q96,rfl⟩:=Uh q95
    ·obtain ⟨r51,q52,q95⟩:=Yb q95
     have c52:=tl100 q52
     obtain rfl:=Option.some.inj q95
     simp (maxSteps:=4000000) -implicitDefEqProofs [c50,q96,c52,Ya]
    simp (maxSteps:=4000000) -implicitDefEqProofs [c50,q96,Ya]) ?_
  refine Zd h (fun h => ?_) (fun h => ?_)
  ·refine VW.seq (Za [2] hC (q:=?_))
   exact VW.ret (Zb h (by simp [eB124]))
  refine VW.skip (Za [0,3] hC (h:=by simp -implicitDefEqProofs [(by decide : aI .i64 0 1 = 1)]; exact .rfl) (q:=(VRounds.step (VW.seq (VW.seq (Za [0,3,5] hC (h:=by simp -implicitDefEqProofs [(by decide : Zo 1 6 = true)]; exact .rfl) (q:=(Ye (by simp) (VW.skip (VW.seq (VW.block (VW.seq ?_))))))))))))
  obtain ⟨r55,q56,h⟩:=Zc h
  have c56:=tl100 q56
  obtain ⟨w59,q93,h⟩:=Zc h
  refine Yg (tm 63 [(0,.cptr (Ya w_) 0),(3,.i .i64 1),(62,.b ((w59 || gtF .f32 w_.fuel_.a1_ (some 1092616192)) || (!(Ka .f32 w_.heat_.a1_ (some 3262119936) && Qa .f32 w_.heat_.a1_ (some 1153138688)))))]) [] [] hC (by kernel_rfl) (by
    obtain ⟨q94,q93⟩ | ⟨q94,rfl⟩:=Uh q93
    ·obtain ⟨r57,q58,q93⟩:=Yb q93
     have c58:=tl100 q58
     obtain rfl:=Option.some.inj q93
     simp (maxSteps:=4000000) -implicitDefEqProofs [c56,q94,c58,Ya]
    simp (maxSteps:=4000000) -implicitDefEqProofs [c56,q94,Ya]) ?_
  refine Zd h (fun h => ?_) (fun h => ?_)
  ·refine VW.seq (Za [2] hC (q:=?_))
   exact VW.ret (Zb h (by simp [eB124]))
  refine VW.skip (Za [0,3] hC (h:=by simp -implicitDefEqProofs [(by decide : aI .i64 1 1 = 2)]; exact .rfl) (q:=(VRounds.step (VW.seq (VW.seq (Za [0,3,5] hC (h:=by simp -implicitDefEqProofs [(by decide : Zo 2 6 = true)]; exact .rfl) (q:=(Ye (by simp) (VW.skip (VW.seq (VW.block (VW.seq ?_))))))))))))
  obtain ⟨r61,q62,h⟩:=Zc h
  have c62:=tl100 q62
  obtain ⟨w65,q91,h⟩:=Zc h
  refine Yg (tm 63 [(0,.cptr (Ya w_) 0),(3,.i .i64 2),(62,.b ((w65 || gtF .f32 w_.fuel_.a2_ (some 1092616192)) || (!(Ka .f32 w_.heat_.a2_ (some 3262119936) && Qa .f32 w_.heat_.a2_ (some 1153138688)))))]) [] [] hC (by kernel_rfl) (by
    obtain ⟨q92,q91⟩ | ⟨q92,rfl⟩:=Uh q91
    ·obtain ⟨r63,q64,q91⟩:=Yb q91
     have c64:=tl100 q64
     obtain rfl:=Option.some.inj q91
     simp (maxSteps:=4000000) -implicitDefEqProofs [c62,q92,c64,Ya]
    simp (maxSteps:=4000000) -implicitDefEqProofs [c62,q92,Ya]) ?_
  refine Zd h (fun h => ?_) (fun h => ?_)
  ·refine VW.seq (Za [2] hC (q:=?_))
   exact VW.ret (Zb h (by simp [eB124]))
  refine VW.skip (Za [0,3] hC (h:=by simp -implicitDefEqProofs [(by decide : aI .i64 2 1 = 3)]; exact .rfl) (q:=(VRounds.step (VW.seq (VW.seq (Za [0,3,5] hC (h:=by simp -implicitDefEqProofs [(by decide : Zo 3 6 = true)]; exact .rfl) (q:=(Ye (by simp) (VW.skip (VW.seq (VW.block (VW.seq ?_))))))))))))
  obtain ⟨r67,q68,h⟩:=Zc h
  have c68:=tl100 q68
  obtain ⟨w71,q89,h⟩:=Zc h
  refine Yg (tm 63 [(0,.cptr (Ya w_) 0),(3,.i .i64 3),(62,.b ((w71 || gtF .f32 w_.fuel_.a3_ (some 1092616192)) || (!(Ka .f32 w_.heat_.a3_ (some 3262119936) && Qa .f32 w_.heat_.a3_ (some 1153138688)))))]) [] [] hC (by kernel_rfl) (by
    obtain ⟨q90,q89⟩ | ⟨q90,rfl⟩:=Uh q89
    ·obtain ⟨r69,q70,q89⟩:=Yb q89
     have c70:=tl100 q70
     obtain rfl:=Option.some.inj q89
     simp (maxSteps:=4000000) -implicitDefEqProofs [c68,q90,c70,Ya]
    simp (maxSteps:=4000000) -implicitDefEqProofs [c68,q90,Ya]) ?_
  refine Zd h (fun h => ?_) (fun h => ?_)
  ·refine VW.seq (Za [2] hC (q:=?_))
   exact VW.ret (Zb h (by simp [eB124]))
  refine VW.skip (Za [0,3] hC (h:=by simp -implicitDefEqProofs [(by decide : aI .i64 3 1 = 4)]; exact .rfl) (q:=(VRounds.step (VW.seq (VW.seq (Za [0,3,5] hC (h:=by simp -implicitDefEqProofs [(by decide : Zo 4 6 = true)]; exact .rfl) (q:=(Ye (by simp) (VW.skip (VW.seq (VW.block (VW.seq ?_))))))))))))
  obtain ⟨r73,q74,h⟩:=Zc h
  have c74:=tl100 q74
  obtain ⟨w77,q87,h⟩:=Zc h
  refine Yg (tm 63 [(0,.cptr (Ya w_) 0),(3,.i .i64 4),(62,.b ((w77 || gtF .f32 w_.fuel_.a4_ (some 1092616192)) || (!(Ka .f32 w_.heat_.a4_ (some 3262119936) && Qa .f32 w_.heat_.a4_ (some 1153138688)))))]) [] [] hC (by kernel_rfl) (by
    obtain ⟨q88,q87⟩ | ⟨q88,rfl⟩:=Uh q87
    ·obtain ⟨r75,q76,q87⟩:=Yb q87
     have c76:=tl100 q76
     obtain rfl:=Option.some.inj q87
     simp (maxSteps:=4000000) -implicitDefEqProofs [c74,q88,c76,Ya]
    simp (maxSteps:=4000000) -implicitDefEqProofs [c74,q88,Ya]) ?_
  refine Zd h (fun h => ?_) (fun h => ?_)
  ·refine VW.seq (Za [2] hC (q:=?_))
   exact VW.ret (Zb h (by simp [eB124]))
  refine VW.skip (Za [0,3] hC (h:=by simp -implicitDefEqProofs [(by decide : aI .i64 4 1 = 5)]; exact .rfl) (q:=(VRounds.step (VW.seq (VW.seq (Za [0,3,5] hC (h:=by simp -implicitDefEqProofs [(by decide : Zo 5 6 = true)]; exact .rfl) (q:=(Ye (by simp) (VW.skip (VW.seq (VW.block (VW.seq ?_))))))))))))
  obtain ⟨r79,q80,h⟩:=Zc h
  have c80:=tl100 q80
  obtain ⟨w83,q85,h⟩:=Zc h
  refine Yg (tm 63 [(0,.cptr (Ya w_) 0),(3,.i .i64 5),(62,.b ((w83 || gtF .f32 w_.fuel_.a5_ (some 1092616192)) || (!(Ka .f32 w_.heat_.a5_ (some 3262119936) && Qa .f32 w_.heat_.a5_ (some 1153138688)))))]) [] [] hC (by kernel_rfl) (by
    obtain ⟨q86,q85⟩ | ⟨q86,rfl⟩:=Uh q85
    ·obtain ⟨r81,q82,q85⟩:=Yb q85
     have c82:=tl100 q82
     obtain rfl:=Option.some.inj q85
     simp (maxSteps:=4000000) -implicitDefEqProofs [c80,q86,c82,Ya]
    simp (maxSteps:=4000000) -implicitDefEqProofs [c80,q86,Ya]) ?_
  refine Zd h (fun h => ?_) (fun h => ?_)
  ·refine VW.seq (Za [2] hC (q:=?_))
   exact VW.ret (Zb h (by simp [eB124]))
  exact VW.skip (Za [0,3] hC (h:=by simp -implicitDefEqProofs [(by decide : aI .i64 5 1 = 6)]; exact .rfl) (q:=(VRounds.step (VW.seq (VW.seq (Za [0,3,5] hC (h:=by simp -implicitDefEqProofs [(by decide : Zo 6 6 = false)]; exact .rfl) (q:=(Qj (by simp) (VW.exit (Zn () h (Ze 0)))))))))))
 rintro _ h
 replace h : (g124_j1).bind _ = _:=h
 rw [g124_j1] at h
 refine VW.seq (Za [2] hC (q:=?_))
 exact VW.ret (Zb h (by simp [eB124]))
theorem tl124 {w_ : T149} {r : Bool} (h : g124 w_ = some r) : F124 [.cptr [.f .f32 w_.wet_.a0_,.f .f32 w_.wet_.a1_,.f .f32 w_.wet_.a2_,.f .f32 w_.wet_.a3_,.f .f32 w_.wet_.a4_,.f .f32 w_.wet_.a5_,.f .f32 w_.heat_.a0_,.f .f32 w_.heat_.a1_,.f .f32 w_.heat_.a2_,.f .f32 w_.heat_.a3_,.f .f32 w_.heat_.a4_,.f .f32 w_.heat_.a5_,.f .f32 w_.fuel_.a0_,.f .f32 w_.fuel_.a1_,.f .f32 w_.fuel_.a2_,.f .f32 w_.fuel_.a3_,.f .f32 w_.fuel_.a4_,.f .f32 w_.fuel_.a5_] 0] = some (.b r):=Zf inj124 (a:=w_) h
def g90_j1 : Option (Bool) :=
some true
def g90_L1 (s : T85) : (Int)→Option ((Int) ⊕ ((Unit) ⊕ (Bool)))
| i_47 =>
if Zo i_47 (s.logs_.length : Int) = true then
(Wp s.logs_ i_47).bind fun e49 =>
(g124 e49).bind fun r51 =>
if (!r51) = true then
some (.inr (.inr false))
else
some (.inl (aI .i64 i_47 1))
else
some (.inr (.inl ()))
def g90 (s : T85) : Option (Bool) :=
(if (Zo 6 (s.logs_.length : Int) || (!(Ka .f32 s.box_ (some 3262119936) && Qa .f32 s.box_ (some 1153138688)))) = true then some true else (g123 s.damper_).bind fun r1 => some (!r1)).bind fun w3 =>
(if w3 = true then some true else (g55 (cI .i64 s.state_) 0 3).bind fun r4 => some (!r4)).bind fun w6 =>
(if w6 = true then some true else (g55 s.ash_ 0 1000000).bind fun r7 => some (!r7)).bind fun w9 =>
(if w9 = true then some true else (g100 s.dust_).bind fun r10 => some (!r10)).bind fun w12 =>
if (w12 || Ka .f32 s.dust_ (some 1065353216)) = true then
some false
else
(loopO (g90_L1 s) 0).bind fun w => match w with
| .inl y => g90_j1
| .inr r => some r
@[simp] def eA90 (a : T85) : List V:=[.cptr (Xx a) 0]
def eB90 (r : Bool) : V:=.b r
theorem inj90 (a a' : T85) (h : eA90 a = eA90 a') : a = a':=by simpa [eA90,Prod.ext_iff] using h
def F90 : List V→Option V:=tells (fun a => g90 a) eA90 eB90
theorem ok90 : Zz Tryz.prog 90 F90:=by
 refine Zg 82 Tryz.func90 ?_
 rintro s r h
 rw [g90] at h
 have hC : Qc.Ok Tryz.prog [(55,F55),(100,F100),(123,F123),(124,F124)]:=⟨.inl ok55,.inl ok100,.inl ok123,.inl ok124,trivial⟩
 refine VW.seq (Za [0] hC (q:=(VW.seq (VW.seq ?_))))
 obtain ⟨w3,q54,h⟩:=Zc h
 obtain ⟨w6,q55,h⟩:=Zc h
 obtain ⟨w9,q56,h⟩:=Zc h
 obtain ⟨w12,q57,h⟩:=Zc h
 refine Yg (tm 82 [(0,.cptr (Xx s) 0),(64,.b (w12 || Ka .f32 s.dust_ (some 1065353216)))]) [] [] hC (by kernel_rfl) (by
   obtain ⟨q58,q54⟩ | ⟨q58,rfl⟩:=Uh q54
   ·try simp only [Bool.not_and,Bool.not_or,Bool.not_not] at q58
    obtain ⟨r1,q2,q54⟩:=Yb q54
    have c2:=tl123 q2
    obtain rfl:=Option.some.inj q54
    obtain ⟨q59,q55⟩ | ⟨q59,rfl⟩:=Uh q55
    ·obtain ⟨r4,q5,q55⟩:=Yb q55
     have c5:=tl55 q5
     obtain rfl:=Option.some.inj q55
     obtain ⟨q60,q56⟩ | ⟨q60,rfl⟩:=Uh q56
     ·obtain ⟨r7,q8,q56⟩:=Yb q56
      have c8:=tl55 q8
      obtain rfl:=Option.some.inj q56
      obtain ⟨q61,q57⟩ | ⟨q61,rfl⟩:=Uh q57
      ·obtain ⟨r10,q11,q57⟩:=Yb q57
       have c11:=tl100 q11
       obtain rfl:=Option.some.inj q57
       simp (maxSteps:=4000000) -implicitDefEqProofs [q58,c2,q59,c5,q60,c8,q61,c11,Xx]
      simp (maxSteps:=4000000) -implicitDefEqProofs [q58,c2,q59,c5,q60,c8,q61,Xx]
     obtain ⟨q62,q57⟩ | ⟨q62,rfl⟩:=Uh q57
     ·exact absurd q62 (by simp)
     simp (maxSteps:=4000000) -implicitDefEqProofs [q58,c2,q59,c5,q60,q62,Xx]
    obtain ⟨q63,q56⟩ | ⟨q63,rfl⟩:=Uh q56
    ·exact absurd q63 (by simp)
    obtain ⟨q64,q57⟩ | ⟨q64,rfl⟩:=Uh q57
    ·exact absurd q64 (by simp)
    simp (maxSteps:=4000000) -implicitDefEqProofs [q58,c2,q59,q63,q64,Xx]
   try simp only [Bool.not_and,Bool.not_or,Bool.not_not] at q58
   obtain ⟨q65,q55⟩ | ⟨q65,rfl⟩:=Uh q55
   ·exact absurd q65 (by simp)
   obtain ⟨q66,q56⟩ | ⟨q66,rfl⟩:=Uh q56
   ·exact absurd q66 (by simp)
   obtain ⟨q67,q57⟩ | ⟨q67,rfl⟩:=Uh q57
   ·exact absurd q67 (by simp)
   simp (maxSteps:=4000000) -implicitDefEqProofs [q58,q65,q66,q67,Xx]) ?_
 refine Zd h (fun h => ?_) (fun h => ?_)
 ·refine VW.seq (Za [2] hC (q:=?_))
  exact VW.ret (Zb h (by simp [eB90]))
 refine VW.skip (VW.join (fun (v : Unit) => (⟨(tm 82 []),[],[]⟩ : VS)) (fun v => (g90_j1).bind some = some r) ?_ ?_)
 ·refine VW.seq (Za [0,3] hC (q:=VW.block ?_))
  obtain ⟨w_1,hw_1,h⟩:=Zc h
  refine VW.loopO (fun (x : Int) => (⟨(tm 82 [(0,.cptr (Xx s) 0),(3,.i .i64 x)]),[],[]⟩ : VS)) hw_1 (Ze 0) ?_
  rintro n_1 i_47 h1
  rw [g90_L1] at h1
  refine VW.seq (VW.seq (Za [0,3,71] hC (q:=(Zk h1 (fun h1 => ?_) (fun h1 => ?_)))))
  ·refine VW.exit ?_
   have e_:=Yd h1
   subst w_1
   exact Zn () h (Ze 0)
  refine VW.skip (VW.seq (VW.block (VW.seq ?_)))
  obtain ⟨e49,⟨f50a,f50b,f50c,f50d⟩,h1⟩:=Ys h1
  obtain ⟨r51,q52,h1⟩:=Zc h1
  have c52:=tl124 q52
  refine Zj [0,3,81] hC (q:=(Zd h1 (fun h1 => ?_) (fun h1 => ?_)))
  ·refine VW.seq (Za [2] hC (q:=?_))
   have e_:=Yd h1
   subst w_1
   exact VW.ret (Zb h (by simp [eB90]))
  exact VW.skip (Za [0,3] hC (q:=(Zn (aI .i64 i_47 1) (Yr h1) (Ze 0))))
 rintro _ h
 replace h : (g90_j1).bind _ = _:=h
 rw [g90_j1] at h
 refine VW.seq (Za [2] hC (q:=?_))
 exact VW.ret (Zb h (by simp [eB90]))
def g59 (s : T85) : Option (Bool) :=
(g90 s).bind fun r1 =>
some r1
@[simp] def eA59 (a : T85) : List V:=[.agg (Xx a)]
def eB59 (r : Bool) : V:=.b r
theorem inj59 (a a' : T85) (h : eA59 a = eA59 a') : a = a':=by simpa [eA59,Prod.ext_iff] using h
def F59 : List V→Option V:=tells (fun a => g59 a) eA59 eB59
theorem ok59 : Zz Tryz.prog 59 F59:=by
 refine Zg 4 Tryz.func59 ?_
 rintro s r h
 rw [g59] at h
 have hC : Qc.Ok Tryz.prog [(90,F90)]:=⟨.inl ok90,trivial⟩
 refine VW.seq (Za [1] hC (q:=VW.seq ?_))
 obtain ⟨r1,q2,h⟩:=Zc h
 have c2 : F90 [.cptr (Xx s) 0] = some (.b r1):=Zf inj90 (a:=s) q2
 refine Zj [2] hC (q:=?_)
 exact VW.ret (Zb h (by simp [eB59]))
theorem tl59 {s : T85} {r : Bool} (h : g59 s = some r) : F59 [.agg [.sl 18 (rows Yk s.logs_),.f .f32 s.box_,.f .f32 s.damper_,.i .i8 s.state_,.i .i64 s.ash_,.f .f32 s.dust_]] = some (.b r):=Zf inj59 (a:=s) h
def g104_j1 (l23 : List Int) : Option (List Int) :=
some l23
def g104_L1 (c : List T32) (trunk : Int) : (Int × (List Int))→Option ((Int × (List Int)) ⊕ (List Int))
| (i_38,l39) =>
if Zo i_38 (c.length : Int) = true then
(Wp c i_38).bind fun e41 =>
if Yx e41.smoky_ trunk = true then
(Jm 8 l39 [i_38]).bind fun u44 =>
some (.inl (aI .i64 i_38 1,(l39 ++ [i_38])))
else
some (.inl (aI .i64 i_38 1,l39))
else
some (.inr l39)
def g104 (c : List T32) (trunk : Int) : Option (List Int) :=
(loopO (g104_L1 c trunk) (0,[])).bind fun w => g104_j1 w
@[simp] def eA104 (a : (List T32) × Int) : List V:=[.sl 5 (rows Xw a.1),.i .i64 a.2]
def eB104 (r : List Int) : V:=.own 1 (rows Ww r)
theorem inj104 (a a' : (List T32) × Int) (h : eA104 a = eA104 a') : a = a':=by simpa [eA104,Prod.ext_iff] using h
def F104 : List V→Option V:=tells (fun a => g104 a.1 a.2) eA104 eB104
theorem ok104 : Zz Tryz.prog 104 F104:=by
 refine Zg 26 Tryz.func104 ?_
 rintro ⟨c,trunk⟩ r h
 replace h : (g104 c trunk).bind some = some r:=h
 rw [g104] at h
 have hC : Qc.Ok Tryz.prog []:=trivial
 refine VW.seq (Za [0,1] hC (q:=(VW.seq (Za [0,1,5] hC (q:=(VW.join (fun (v : List Int) => (⟨(tm 26 [(5,.ref 0 0 v.length)]),[some (1,rows Ww v)],[]⟩ : VS)) (fun v => (g104_j1 (v)).bind some = some r) ?_ ?_))))))
 ·refine VW.seq (Za [0,1,5,6] hC (q:=VW.block ?_))
  obtain ⟨w_1,hw_1,h⟩:=Zc h
  refine VW.loopO (fun (x : Int × (List Int)) => (⟨(tm 26 [(0,.sl 5 (rows Xw c)),(1,.i .i64 trunk),(5,.ref 0 0 x.2.length),(6,.i .i64 x.1)]),[some (1,rows Ww x.2)],[]⟩ : VS)) hw_1 (Ze 1) ?_
  rintro n_1 ⟨i_38,l39⟩ h1
  rw [g104_L1] at h1
  refine VW.seq (VW.seq (Za [0,1,5,6,11] hC (q:=(Zk h1 (fun h1 => ?_) (fun h1 => ?_)))))
  ·refine VW.exit ?_
   have e_:=Yd h1
   subst w_1
   exact Zn l39 h (Ze 1)
  refine VW.skip (VW.seq (VW.block (VW.seq ?_)))
  obtain ⟨e41,⟨f42a,f42b,f42c,f42d⟩,h1⟩:=Ys h1
  refine Zj [0,1,5,6,20] hC (q:=(Zk h1 (fun h1 => ?_) (fun h1 => ?_)))
  ·exact VW.skip (Za [0,1,5,6] hC (q:=(Zn (aI .i64 i_38 1,l39) (Yr h1) (Ze 1))))
  obtain ⟨u44,⟨f45a,f45b⟩,h1⟩:=Jp h1
  try simp only [Int.toNat_natCast,Int.reduceToNat,List.length_cons,List.length_nil,Nat.reduceAdd,Nat.zero_add] at f45a f45b
  exact Zj [0,1,5,6] hC (q:=(Za [0,1,5,6] hC (q:=(Zn (aI .i64 i_38 1,(l39 ++ [i_38])) (Yr h1) (Ze 1)))))
 rintro l23 h
 replace h : (g104_j1 l23).bind _ = _:=h
 rw [g104_j1] at h
 refine VW.seq (Za [4] hC (q:=?_))
 exact VW.ret (Zb h (by simp [eB104]))
theorem tl104 {c : List T32} {trunk : Int} {r : List Int} (h : g104 c trunk = some r) : F104 [.sl 5 (rows Xw c),.i .i64 trunk] = some (.own 1 (rows Ww r)):=Zf inj104 (a:=(c,trunk)) h
def g60 (c : List T32) (flue : Int) : Option (Bool) :=
(g104 c flue).bind fun r1 =>
some (Yx (r1.length : Int) 0)
@[simp] def eA60 (a : (List T32) × Int) : List V:=[.sl 5 (rows Xw a.1),.i .i64 a.2]
def eB60 (r : Bool) : V:=.b r
theorem inj60 (a a' : (List T32) × Int) (h : eA60 a = eA60 a') : a = a':=by simpa [eA60,Prod.ext_iff] using h
def F60 : List V→Option V:=tells (fun a => g60 a.1 a.2) eA60 eB60
theorem ok60 : Zz Tryz.prog 60 F60:=by
 refine Zg 10 Tryz.func60 ?_
 rintro ⟨c,flue⟩ r h
 replace h : (g60 c flue).bind some = some r:=h
 rw [g60] at h
 have hC : Qc.Ok Tryz.prog [(104,F104)]:=⟨.inl ok104,trivial⟩
 refine VW.seq (Za [0,1] hC (q:=VW.seq ?_))
 obtain ⟨r1,q2,h⟩:=Zc h
 have c2:=tl104 q2
 refine Zj [4] hC (q:=?_)
 exact VW.ret (Zb h (by simp [eB60]))
theorem tl60 {c : List T32} {flue : Int} {r : Bool} (h : g60 c flue = some r) : F60 [.sl 5 (rows Xw c),.i .i64 flue] = some (.b r):=Zf inj60 (a:=(c,flue)) h
def g22_j3 : Option (Bool) :=
some true
def g22_j4 (i_458 : Int) : Option ((Int) ⊕ ((Unit) ⊕ (Bool))) :=
some (.inl (aI .i64 i_458 1))
def g22_L2 (i_458 : Int) (h_ : T34) (e505 : T87) : (Int)→Option ((Int) ⊕ ((Unit) ⊕ ((Int) ⊕ ((Unit) ⊕ (Bool)))))
| k_531 =>
if Zo k_531 i_458 = true then
(Wp h_.hearths_ k_531).bind fun e533 =>
if Yx e533.flue_ e505.flue_ = true then
some (.inr (.inr (.inr (.inr false))))
else
some (.inl (aI .i64 k_531 1))
else
some (.inr (.inl ()))
def g22_L1 (h_ : T34) : (Int)→Option ((Int) ⊕ ((Unit) ⊕ (Bool)))
| i_458 =>
if Zo i_458 (h_.hearths_.length : Int) = true then
(Wp h_.hearths_ i_458).bind fun e505 =>
(g59 e505.stove_).bind fun r507 =>
(if (!r507) = true then some true else (g55 e505.room_ 0 (sI .i64 (h_.flat_.heat_.length : Int) 1)).bind fun r509 => some (!r509)).bind fun w511 =>
(if w511 = true then some true else (g55 e505.flue_ 0 (sI .i64 (h_.chimney_.length : Int) 1)).bind fun r512 => some (!r512)).bind fun w514 =>
(if w514 = true then some true else (g60 h_.chimney_ e505.flue_).bind fun r515 => some (!r515)).bind fun w517 =>
(if w517 = true then some true else (g55 e505.brain_ (-1) (sI .i64 (h_.sources_.length : Int) 1)).bind fun r518 => some (!r518)).bind fun w520 =>
if w520 = true then
some (.inr (.inr false))
else
(loopO (g22_L2 i_458 h_ e505) 0).bind fun w => match w with
| .inl y => g22_j4 i_458
| .inr r => some r
else
some (.inr (.inl ()))
def g22_j2 (h_ : T34) : Option (Bool) :=
(loopO (g22_L1 h_) 0).bind fun w => match w with
| .inl y => g22_j3
| .inr r => some r
def g22_L3 (h_ : T34) : (Int)→Option ((Int) ⊕ ((Unit) ⊕ (Bool)))
| i_563 =>
if Zo i_563 (h_.sources_.length : Int) = true then
(Wp h_.sources_ i_563).bind fun e565 =>
(g58 e565).bind fun r567 =>
if (!Yx r567.2.2 0) = true then
some (.inr (.inr false))
else
some (.inl (aI .i64 i_563 1))
else
some (.inr (.inl ()))
def g22_j1 (h_ : T34) : Option (Bool) :=
(loopO (g22_L3 h_) 0).bind fun w => match w with
| .inl y => g22_j2 h_
| .inr r => some r
def g22_L4 (h_ : T34) : (Int)→Option ((Int) ⊕ ((Unit) ⊕ (Bool)))
| i_583 =>
if Zo i_583 (h_.hours_.length : Int) = true then
(Wp h_.hours_ i_583).bind fun e585 =>
(g57 e585).bind fun r587 =>
if (!r587) = true then
some (.inr (.inr false))
else
some (.inl (aI .i64 i_583 1))
else
some (.inr (.inl ()))
def g22 (h_ : T34) : Option (Bool) :=
(g53 h_.flat_).bind fun r1 =>
(if (!r1) = true then some true else (g54 h_.chimney_).bind fun r3 => some (!r3)).bind fun w5 =>
(if w5 = true then some true else (g55 (h_.hours_.length : Int) 1 24).bind fun r6 => some (!r6)).bind fun w8 =>
(if ((w8 || Zo 3 (h_.sources_.length : Int)) || Zo 3 (h_.hearths_.length : Int)) = true then some true else (g55 h_.tick_ 0 1000000000).bind fun r9 => some (!r9)).bind fun w11 =>
(if w11 = true then some true else (g56 h_.sums_).bind fun r12 => some (!r12)).bind fun w14 =>
if w14 = true then
some false
else
(loopO (g22_L4 h_) 0).bind fun w => match w with
| .inl y => g22_j1 h_
| .inr r => some r
@[simp] def eA22 (a : T34) : List V:=[.cptr (Yj a) 0]
def eB22 (r : Bool) : V:=.b r
theorem inj22 (a a' : T34) (h : eA22 a = eA22 a') : a = a':=by simpa [eA22,Prod.ext_iff] using h
def F22 : List V→Option V:=tells (fun a => g22 a) eA22 eB22
theorem ok22 : Zz Tryz.prog 22 F22:=by
 refine Zg 198 Tryz.func22 ?_
 rintro h_ r h
 rw [g22] at h
 have hC : Qc.Ok Tryz.prog [(53,F53),(54,F54),(55,F55),(56,F56),(57,F57),(58,F58),(59,F59),(60,F60)]:=⟨.inl ok53,.inl ok54,.inl ok55,.inl ok56,.inl ok57,.inl ok58,.inl ok59,.inl ok60,trivial⟩
 refine VW.seq (Za [0] hC (q:=(VW.seq (VW.seq ?_))))
 obtain ⟨r1,q2,h⟩:=Zc h
 have c2:=tl53 q2
 obtain ⟨w5,q590,h⟩:=Zc h
 obtain ⟨w8,q591,h⟩:=Zc h
 obtain ⟨w11,q592,h⟩:=Zc h
 obtain ⟨w14,q593,h⟩:=Zc h
 refine Yg (tm 198 [(0,.cptr (Yj h_) 0),(63,.b w14)]) [] [] hC (by kernel_rfl) (by
   obtain ⟨q594,q590⟩ | ⟨q594,rfl⟩:=Uh q590
   ·obtain ⟨r3,q4,q590⟩:=Yb q590
    have c4:=tl54 q4
    obtain rfl:=Option.some.inj q590
    obtain ⟨q595,q591⟩ | ⟨q595,rfl⟩:=Uh q591
    ·obtain ⟨r6,q7,q591⟩:=Yb q591
     have c7:=tl55 q7
     obtain rfl:=Option.some.inj q591
     obtain ⟨q596,q592⟩ | ⟨q596,rfl⟩:=Uh q592
     ·obtain ⟨r9,q10,q592⟩:=Yb q592
      have c10:=tl55 q10
      obtain rfl:=Option.some.inj q592
      obtain ⟨q597,q593⟩ | ⟨q597,rfl⟩:=Uh q593
      ·obtain ⟨r12,q13,q593⟩:=Yb q593
       have c13:=tl56 q13
       obtain rfl:=Option.some.inj q593
       simp (maxSteps:=4000000) -implicitDefEqProofs [c2,q594,c4,q595,c7,q596,c10,q597,c13,Yj]
      simp (maxSteps:=4000000) -implicitDefEqProofs [c2,q594,c4,q595,c7,q596,c10,q597,Yj]
     obtain ⟨q598,q593⟩ | ⟨q598,rfl⟩:=Uh q593
     ·exact absurd q598 (by simp)
     simp (maxSteps:=4000000) -implicitDefEqProofs [c2,q594,c4,q595,c7,q596,q598,Yj]
    obtain ⟨q599,q592⟩ | ⟨q599,rfl⟩:=Uh q592
    ·first
      | (simp at q599; done)
      | (obtain ⟨r9,q10,q592⟩:=Yb q592
         have c10:=tl55 q10
         obtain rfl:=Option.some.inj q592
         obtain ⟨q600,q593⟩ | ⟨q600,rfl⟩:=Uh q593
         ·obtain ⟨r12,q13,q593⟩:=Yb q593
          have c13:=tl56 q13
          obtain rfl:=Option.some.inj q593
          simp (maxSteps:=4000000) -implicitDefEqProofs [c2,q594,c4,q595,q599,c10,q600,c13,Yj]
         simp (maxSteps:=4000000) -implicitDefEqProofs [c2,q594,c4,q595,q599,c10,q600,Yj])
    first
     | (simp at q599; done)
     | (obtain ⟨q601,q593⟩ | ⟨q601,rfl⟩:=Uh q593
        ·exact absurd q601 (by simp)
        simp (maxSteps:=4000000) -implicitDefEqProofs [c2,q594,c4,q595,q599,q601,Yj])
   obtain ⟨q602,q591⟩ | ⟨q602,rfl⟩:=Uh q591
   ·exact absurd q602 (by simp)
   obtain ⟨q603,q592⟩ | ⟨q603,rfl⟩:=Uh q592
   ·first
     | (simp at q603; done)
     | (obtain ⟨r9,q10,q592⟩:=Yb q592
        have c10:=tl55 q10
        obtain rfl:=Option.some.inj q592
        obtain ⟨q604,q593⟩ | ⟨q604,rfl⟩:=Uh q593
        ·obtain ⟨r12,q13,q593⟩:=Yb q593
         have c13:=tl56 q13
         obtain rfl:=Option.some.inj q593
         simp (maxSteps:=4000000) -implicitDefEqProofs [c2,q594,q602,q603,c10,q604,c13,Yj]
        simp (maxSteps:=4000000) -implicitDefEqProofs [c2,q594,q602,q603,c10,q604,Yj])
   first
    | (simp at q603; done)
    | (obtain ⟨q605,q593⟩ | ⟨q605,rfl⟩:=Uh q593
       ·exact absurd q605 (by simp)
       simp (maxSteps:=4000000) -implicitDefEqProofs [c2,q594,q602,q603,q605,Yj])) ?_
 refine Zd h (fun h => ?_) (fun h => ?_)
 ·refine VW.seq (Za [2] hC (q:=?_))
  exact VW.ret (Zb h (by simp [eB22]))
 refine VW.skip (VW.join (fun (v : Unit) => (⟨(tm 198 [(0,.cptr (Yj h_) 0)]),[],[]⟩ : VS)) (fun v => (g22_j1 h_).bind some = some r) ?_ ?_)
 ·refine VW.seq (Za [0,3] hC (q:=VW.block ?_))
  obtain ⟨w_4,hw_4,h⟩:=Zc h
  refine VW.loopO (fun (x : Int) => (⟨(tm 198 [(0,.cptr (Yj h_) 0),(3,.i .i64 x)]),[],[]⟩ : VS)) hw_4 (Ze 0) ?_
  rintro n_4 i_583 h1
  rw [g22_L4] at h1
  refine VW.seq (VW.seq (Za [0,3,70] hC (q:=(Zk h1 (fun h1 => ?_) (fun h1 => ?_)))))
  ·refine VW.exit ?_
   have e_:=Yd h1
   subst w_4
   exact Zn () h (Ze 0)
  refine VW.skip (VW.seq (VW.block (VW.seq ?_)))
  obtain ⟨e585,⟨f586a,f586b,f586c,f586d⟩,h1⟩:=Ys h1
  obtain ⟨r587,q588,h1⟩:=Zc h1
  have c588:=tl57 q588
  refine Zj [0,3,80] hC (q:=(Zd h1 (fun h1 => ?_) (fun h1 => ?_)))
  ·refine VW.seq (Za [2] hC (q:=?_))
   have e_:=Yd h1
   subst w_4
   exact VW.ret (Zb h (by simp [eB22]))
  exact VW.skip (Za [0,3] hC (q:=(Zn (aI .i64 i_583 1) (Yr h1) (Ze 0))))
 rintro _ h
 replace h : (g22_j1 h_).bind _ = _:=h
 rw [g22_j1] at h
 refine VW.join (fun (v : Unit) => (⟨(tm 198 [(0,.cptr (Yj h_) 0)]),[],[]⟩ : VS)) (fun v => (g22_j2 h_).bind some = some r) ?_ ?_
 ·refine VW.seq (Za [0,4] hC (q:=VW.block ?_))
  obtain ⟨w_3,hw_3,h⟩:=Zc h
  refine VW.loopO (fun (x : Int) => (⟨(tm 198 [(0,.cptr (Yj h_) 0),(4,.i .i64 x)]),[],[]⟩ : VS)) hw_3 (Ze 0) ?_
  rintro n_3 i_563 h1
  rw [g22_L3] at h1
  refine VW.seq (VW.seq (Za [0,4,87] hC (q:=(Zk h1 (fun h1 => ?_) (fun h1 => ?_)))))
  ·refine VW.exit ?_
   have e_:=Yd h1
   subst w_3
   exact Zn () h (Ze 0)
  refine VW.skip (VW.seq (VW.block (VW.seq ?_)))
  obtain ⟨e565,⟨f566a,f566b,f566c,f566d⟩,h1⟩:=Ys h1
  obtain ⟨r567,q568,h1⟩:=Zc h1
  have c568:=tl58 q568
  refine Zj [0,4,7] hC (q:=(VW.seq (Za [0,4,103] hC (q:=(Zd h1 (fun h1 => ?_) (fun h1 => ?_))))))
  ·refine VW.seq (Za [2] hC (q:=?_))
   have e_:=Yd h1
   subst w_3
   exact VW.ret (Zb h (by simp [eB22]))
  exact VW.skip (Za [0,4] hC (q:=(Zn (aI .i64 i_563 1) (Yr h1) (Ze 0))))
 rintro _ h
 replace h : (g22_j2 h_).bind _ = _:=h
 rw [g22_j2] at h
 refine VW.join (fun (v : Unit) => (⟨(tm 198 []),[],[]⟩ : VS)) (fun v => (g22_j3).bind some = some r) ?_ ?_
 ·refine VW.seq (Za [0,8] hC (q:=VW.block ?_))
  obtain ⟨w_1,hw_1,h⟩:=Zc h
  refine VW.loopO (fun (x : Int) => (⟨(tm 198 [(0,.cptr (Yj h_) 0),(8,.i .i64 x)]),[],[]⟩ : VS)) hw_1 (Ze 0) ?_
  rintro n_1 i_458 h1
  rw [g22_L1] at h1
  refine VW.seq (VW.seq (Za [0,8,110] hC (q:=(Zk h1 (fun h1 => ?_) (fun h1 => ?_)))))
  ·refine VW.exit ?_
   have e_:=Yd h1
   subst w_1
   exact Zn () h (Ze 0)
  refine VW.skip (VW.join (fun (v : Unit) => (⟨(tm 198 [(0,.cptr (Yj h_) 0),(8,.i .i64 i_458)]),[],[]⟩ : VS)) (fun v => (g22_j4 i_458).bind (kN (g22_L1 h_) n_1) = some w_1) ?_ ?_)
  ·refine VW.block (VW.seq ?_)
   obtain ⟨e505,⟨f506a,f506b,f506c,f506d⟩,h1⟩:=Ys h1
   refine Zj [0,8,9] hC (q:=(VW.seq (VW.seq ?_)))
   obtain ⟨r507,q508,h1⟩:=Zc h1
   have c508:=tl59 q508
   obtain ⟨w511,q536,h1⟩:=Zc h1
   obtain ⟨w514,q537,h1⟩:=Zc h1
   obtain ⟨w517,q538,h1⟩:=Zc h1
   obtain ⟨w520,q539,h1⟩:=Zc h1
   refine Ug (tm 198 [(0,.cptr (Yj h_) 0),(8,.i .i64 i_458),(9,.cptr [.i .i64 e505.room_,.i .i64 e505.flue_,.i .i64 e505.brain_,.sl 18 (rows Yk e505.stove_.logs_),.f .f32 e505.stove_.box_,.f .f32 e505.stove_.damper_,.i .i8 e505.stove_.state_,.i .i64 e505.stove_.ash_,.f .f32 e505.stove_.dust_] 0),(179,.b w520)]) [] [] hC Wc (by kernel_rfl) (by
     obtain ⟨q540,q536⟩ | ⟨q540,rfl⟩:=Uh q536
     ·obtain ⟨r509,q510,q536⟩:=Yb q536
      have c510:=tl55 q510
      obtain rfl:=Option.some.inj q536
      obtain ⟨q541,q537⟩ | ⟨q541,rfl⟩:=Uh q537
      ·obtain ⟨r512,q513,q537⟩:=Yb q537
       have c513:=tl55 q513
       obtain rfl:=Option.some.inj q537
       obtain ⟨q542,q538⟩ | ⟨q542,rfl⟩:=Uh q538
       ·obtain ⟨r515,q516,q538⟩:=Yb q538
        have c516:=tl60 q516
        obtain rfl:=Option.some.inj q538
        obtain ⟨q543,q539⟩ | ⟨q543,rfl⟩:=Uh q539
        ·obtain ⟨r518,q519,q539⟩:=Yb q539
         have c519:=tl55 q519
         obtain rfl:=Option.some.inj q539
         simp (maxSteps:=4000000) -implicitDefEqProofs [c508,q540,c510,q541,c513,q542,c516,q543,c519,Yj]
        simp (maxSteps:=4000000) -implicitDefEqProofs [c508,q540,c510,q541,c513,q542,c516,q543,Yj]
       obtain ⟨q544,q539⟩ | ⟨q544,rfl⟩:=Uh q539
       ·exact absurd q544 (by simp)
       simp (maxSteps:=4000000) -implicitDefEqProofs [c508,q540,c510,q541,c513,q542,q544,Yj]
      obtain ⟨q545,q538⟩ | ⟨q545,rfl⟩:=Uh q538
      ·exact absurd q545 (by simp)
      obtain ⟨q546,q539⟩ | ⟨q546,rfl⟩:=Uh q539
      ·exact absurd q546 (by simp)
      simp (maxSteps:=4000000) -implicitDefEqProofs [c508,q540,c510,q541,q545,q546,Yj]
     obtain ⟨q547,q537⟩ | ⟨q547,rfl⟩:=Uh q537
     ·exact absurd q547 (by simp)
     obtain ⟨q548,q538⟩ | ⟨q548,rfl⟩:=Uh q538
     ·exact absurd q548 (by simp)
     obtain ⟨q549,q539⟩ | ⟨q549,rfl⟩:=Uh q539
     ·exact absurd q549 (by simp)
     simp (maxSteps:=4000000) -implicitDefEqProofs [c508,q540,q547,q548,q549,Yj]) ?_
   refine Zd h1 (fun h1 => ?_) (fun h1 => ?_)
   ·refine VW.seq (Za [2] hC (q:=?_))
    have e_:=Yd h1
    subst w_1
    exact VW.ret (Zb h (by simp [eB22]))
   refine VW.skip (VW.seq (Za [0,8,9,10] hC (q:=VW.block ?_)))
   obtain ⟨w_2,hw_2,h1⟩:=Zc h1
   refine VW.loopO (fun (x : Int) => (⟨(tm 198 [(0,.cptr (Yj h_) 0),(8,.i .i64 i_458),(9,.cptr [.i .i64 e505.room_,.i .i64 e505.flue_,.i .i64 e505.brain_,.sl 18 (rows Yk e505.stove_.logs_),.f .f32 e505.stove_.box_,.f .f32 e505.stove_.damper_,.i .i8 e505.stove_.state_,.i .i64 e505.stove_.ash_,.f .f32 e505.stove_.dust_] 0),(10,.i .i64 x)]),[],[]⟩ : VS)) hw_2 (Ze 0) ?_
   rintro n_2 k_531 h2
   rw [g22_L2] at h2
   refine VW.seq (VW.seq (Za [0,8,9,10,182] hC (q:=(Zk h2 (fun h2 => ?_) (fun h2 => ?_)))))
   ·refine VW.exit ?_
    have e_:=Yd h2
    subst w_2
    exact Zn () h1 (Ze 0)
   refine VW.skip (VW.seq (VW.block (VW.seq ?_)))
   obtain ⟨e533,⟨f534a,f534b,f534c,f534d⟩,h2⟩:=Ys h2
   refine Wt [0,8,9,10,197] hC Wc (h:=by simp -implicitDefEqProofs [f534a,f534b,f534c,f534d]; exact .rfl) (q:=(Zd h2 (fun h2 => ?_) (fun h2 => ?_)))
   ·refine VW.seq (Za [2] hC (q:=?_))
    have e_:=Yd h2
    subst w_2
    have e_:=Yd h1
    subst w_1
    exact VW.ret (Zb h (by simp [eB22]))
   exact VW.skip (Za [0,8,9,10] hC (q:=(Zn (aI .i64 k_531 1) (Yr h2) (Ze 0))))
  rintro _ h1
  replace h1 : (g22_j4 i_458).bind _ = _:=h1
  rw [g22_j4] at h1
  exact Za [0,8] hC (q:=(Zn (aI .i64 i_458 1) (Yr h1) (Ze 0)))
 rintro _ h
 replace h : (g22_j3).bind _ = _:=h
 rw [g22_j3] at h
 refine VW.seq (Za [2] hC (q:=?_))
 exact VW.ret (Zb h (by simp [eB22]))
def g61_j1 (l22 : List F32) : Option (List F32) :=
some l22
def g61_L1 (a : List F32) : (Int × (List F32))→Option ((Int × (List F32)) ⊕ (List F32))
| (i_35,l36) =>
if Zo i_35 (a.length : Int) = true then
(Wp a i_35).bind fun e38 =>
(Wp l36 i_35).bind fun e40 =>
some (.inl (aI .i64 i_35 1,(l36.set i_35.toNat e38)))
else
some (.inr l36)
def g61 (a : List F32) : Option (List F32) :=
(mk 4 (a.length : Int)).bind fun u1 =>
(loopO (g61_L1 a) (0,(List.replicate (a.length : Int).toNat (some 0)))).bind fun w => g61_j1 w
@[simp] def eA61 (a : List F32) : List V:=[.sl 1 (rows Zt a)]
def eB61 (r : List F32) : V:=.own 1 (rows Zt r)
theorem inj61 (a a' : List F32) (h : eA61 a = eA61 a') : a = a':=by simpa [eA61,Prod.ext_iff] using h
def F61 : List V→Option V:=tells (fun a => g61 a) eA61 eB61
theorem ok61 : Zz Tryz.prog 61 F61:=by
 refine Zg 22 Tryz.func61 ?_
 rintro a r h
 rw [g61] at h
 have hC : Qc.Ok Tryz.prog []:=trivial
 refine VW.seq (Za [0] hC (q:=VW.seq ?_))
 obtain ⟨u1,⟨f2a,f2b,f2c⟩,h⟩:=bindM h
 try simp only [Int.toNat_natCast,Int.reduceToNat,List.length_cons,List.length_nil,Nat.reduceAdd,Nat.zero_add] at f2a f2b f2c
 refine Zj [0,3] hC (q:=(VW.join (fun (v : List F32) => (⟨(tm 22 [(3,.ref 0 0 v.length)]),[some (1,rows Zt v)],[]⟩ : VS)) (fun v => (g61_j1 (v)).bind some = some r) ?_ ?_))
 ·refine VW.seq (Za [0,3,4] hC (q:=VW.block ?_))
  obtain ⟨w_1,hw_1,h⟩:=Zc h
  refine VW.loopO (fun (x : Int × (List F32)) => (⟨(tm 22 [(0,.sl 1 (rows Zt a)),(3,.ref 0 0 x.2.length),(4,.i .i64 x.1)]),[some (1,rows Zt x.2)],[]⟩ : VS)) hw_1 (Ze 1) ?_
  rintro n_1 ⟨i_35,l36⟩ h1
  rw [g61_L1] at h1
  refine VW.seq (VW.seq (Za [0,3,4,11] hC (q:=(Zk h1 (fun h1 => ?_) (fun h1 => ?_)))))
  ·refine VW.exit ?_
   have e_:=Yd h1
   subst w_1
   exact Zn l36 h (Ze 1)
  refine VW.skip (VW.seq (VW.block ?_))
  obtain ⟨e38,⟨f39a,f39b,f39c,f39d⟩,h1⟩:=Ys h1
  obtain ⟨e40,⟨f41a,f41b,f41c,f41d⟩,h1⟩:=Ys h1
  exact Zj [0,3,4] hC (q:=(Za [0,3,4] hC (q:=(Zn (aI .i64 i_35 1,(l36.set i_35.toNat e38)) (Yr h1) (Ze 1)))))
 rintro l22 h
 replace h : (g61_j1 l22).bind _ = _:=h
 rw [g61_j1] at h
 refine VW.seq (Za [2] hC (q:=?_))
 exact VW.ret (Zb h (by simp [eB61]))
theorem tl61 {a : List F32} {r : List F32} (h : g61 a = some r) : F61 [.sl 1 (rows Zt a)] = some (.own 1 (rows Zt r)):=Zf inj61 (a:=a) h
def g133_j1 (a : T130) : Option (T130) :=
some a
def g133 (a : T130) : Option (T130) :=
g133_j1 a
@[simp] def eA133 (a : T130) : List V:=[.agg (Xb a)]
def eB133 (r : T130) : V:=.agg [.f .f32 r.a0_,.f .f32 r.a1_,.f .f32 r.a2_,.f .f32 r.a3_]
theorem inj133 (a a' : T130) (h : eA133 a = eA133 a') : a = a':=by simpa [eA133,Prod.ext_iff] using h
def F133 : List V→Option V:=tells (fun a => g133 a) eA133 eB133
theorem ok133 : Zz Tryz.prog 133 F133:=by
 refine Zg 15 Tryz.func133 ?_
 rintro a r h
 rw [g133] at h
 have hC : Qc.Ok Tryz.prog []:=trivial
 refine VW.seq (Za [1,2] hC (h:=by first | (simp -implicitDefEqProofs; done) | simp -implicitDefEqProofs [Xb]; exact .rfl) (q:=(VW.seq (Za [1,2,3] hC (h:=by first | (simp -implicitDefEqProofs; done) | simp -implicitDefEqProofs [Xb]; exact .rfl) (q:=(VW.join (fun (v : Unit) => (⟨(tm 15 [(2,.ptr 1 0 0),(3,.ptr 2 0 0)]),[some (4,[(Xb a)]),some (4,[[.f .f32 (some 0),.f .f32 (some 0),.f .f32 (some 0),.f .f32 (some 0)]]),some (4,[(Xb a)])],[]⟩ : VS)) (fun v => (g133_j1 a).bind some = some r) ?_ ?_))))))
 ·exact VW.seq (Za [1,2,3,4] hC (h:=by first | (simp -implicitDefEqProofs; done) | simp -implicitDefEqProofs [Xb]; exact .rfl) (q:=(VW.block (VW.rounds 6 (VRounds.step (VW.seq (VW.seq (Za [1,2,3,4,6] hC (h:=by first | (simp -implicitDefEqProofs [(by decide : Zo 0 4 = true)]; done) | simp -implicitDefEqProofs [(by decide : Zo 0 4 = true),Xb]; exact .rfl) (q:=(Ye (by simp) (VW.skip (VW.seq (VW.block (Za [1,2,3,4] hC (h:=by first | (simp -implicitDefEqProofs; done) | simp -implicitDefEqProofs [Xb]; exact .rfl) (q:=(Za [1,2,3,4] hC (h:=by first | (simp -implicitDefEqProofs [(by decide : aI .i64 0 1 = 1)]; done) | simp -implicitDefEqProofs [(by decide : aI .i64 0 1 = 1),Xb]; exact .rfl) (q:=(VRounds.step (VW.seq (VW.seq (Za [1,2,3,4,6] hC (h:=by first | (simp -implicitDefEqProofs [(by decide : Zo 1 4 = true)]; done) | simp -implicitDefEqProofs [(by decide : Zo 1 4 = true),Xb]; exact .rfl) (q:=(Ye (by simp) (VW.skip (VW.seq (VW.block (Za [1,2,3,4] hC (h:=by first | (simp -implicitDefEqProofs; done) | simp -implicitDefEqProofs [Xb]; exact .rfl) (q:=(Za [1,2,3,4] hC (h:=by first | (simp -implicitDefEqProofs [(by decide : aI .i64 1 1 = 2)]; done) | simp -implicitDefEqProofs [(by decide : aI .i64 1 1 = 2),Xb]; exact .rfl) (q:=(VRounds.step (VW.seq (VW.seq (Za [1,2,3,4,6] hC (h:=by first | (simp -implicitDefEqProofs [(by decide : Zo 2 4 = true)]; done) | simp -implicitDefEqProofs [(by decide : Zo 2 4 = true),Xb]; exact .rfl) (q:=(Ye (by simp) (VW.skip (VW.seq (VW.block (Za [1,2,3,4] hC (h:=by first | (simp -implicitDefEqProofs; done) | simp -implicitDefEqProofs [Xb]; exact .rfl) (q:=(Za [1,2,3,4] hC (h:=by first | (simp -implicitDefEqProofs [(by decide : aI .i64 2 1 = 3)]; done) | simp -implicitDefEqProofs [(by decide : aI .i64 2 1 = 3),Xb]; exact .rfl) (q:=(VRounds.step (VW.seq (VW.seq (Za [1,2,3,4,6] hC (h:=by first | (simp -implicitDefEqProofs [(by decide : Zo 3 4 = true)]; done) | simp -implicitDefEqProofs [(by decide : Zo 3 4 = true),Xb]; exact .rfl) (q:=(Ye (by simp) (VW.skip (VW.seq (VW.block (Za [1,2,3,4] hC (h:=by first | (simp -implicitDefEqProofs; done) | simp -implicitDefEqProofs [Xb]; exact .rfl) (q:=(Za [1,2,3,4] hC (h:=by first | (simp -implicitDefEqProofs [(by decide : aI .i64 3 1 = 4)]; done) | simp -implicitDefEqProofs [(by decide : aI .i64 3 1 = 4),Xb]; exact .rfl) (q:=(VRounds.step (VW.seq (VW.seq (Za [1,2,3,4,6] hC (h:=by first | (simp -implicitDefEqProofs [(by decide : Zo 4 4 = false)]; done) | simp -implicitDefEqProofs [(by decide : Zo 4 4 = false),Xb]; exact .rfl) (q:=(Qj (by simp) (VW.exit (Zn () h (Ze 3 (by first | (simp; done) | simp [Xb]))))))))))))))))))))))))))))))))))))))))))))))))))))))))))))))))))
 rintro _ h
 replace h : (g133_j1 a).bind _ = _:=h
 rw [g133_j1] at h
 refine VW.seq (Za [2] hC (h:=by first | (simp -implicitDefEqProofs; done) | simp -implicitDefEqProofs [Xb]; exact .rfl) (q:=?_))
 obtain rfl:=Yz h
 refine VW.ret (VRet.fin ?_)
 first | (simp [eB133]; done) | simp [eB133,Xb]
theorem tl133 {a : T130} {r : T130} (h : g133 a = some r) : F133 [.agg [.f .f32 a.a0_,.f .f32 a.a1_,.f .f32 a.a2_,.f .f32 a.a3_]] = some (.agg [.f .f32 r.a0_,.f .f32 r.a1_,.f .f32 r.a2_,.f .f32 r.a3_]):=Zf inj133 (a:=a) h
def g105 (a : T131) : Option (T131) :=
(g133 a.heat_).bind fun r1 =>
some (⟨a.a_,a.b_,a.lead_,a.store_,r1⟩ : T131)
@[simp] def eA105 (a : T131) : List V:=[.agg (Xg a)]
def eB105 (r : T131) : V:=.agg [.i .i64 r.a_,.i .i64 r.b_,.f .f32 r.lead_,.f .f32 r.store_,.f .f32 r.heat_.a0_,.f .f32 r.heat_.a1_,.f .f32 r.heat_.a2_,.f .f32 r.heat_.a3_]
theorem inj105 (a a' : T131) (h : eA105 a = eA105 a') : a = a':=by simpa [eA105,Prod.ext_iff] using h
def F105 : List V→Option V:=tells (fun a => g105 a) eA105 eB105
theorem ok105 : Zz Tryz.prog 105 F105:=by
 refine Zg 21 Tryz.func105 ?_
 rintro a r h
 rw [g105] at h
 have hC : Qc.Ok Tryz.prog [(133,F133)]:=⟨.inl ok133,trivial⟩
 refine VW.seq (Za [1,2] hC (q:=(VW.seq (Za [1,2,3] hC (q:=(VW.seq (Za [1,2,3] hC (q:=(VW.seq (Za [1,2,3] hC (q:=(VW.seq (Za [1,2,3] hC (q:=(VW.seq (Za [1,2,3] hC (q:=VW.seq ?_)))))))))))))))))
 obtain ⟨r1,q2,h⟩:=Zc h
 have c2:=tl133 q2
 refine Zj [2,3] hC (q:=(VW.seq (Za [2] hC (q:=?_))))
 exact VW.ret (Zb h (by simp [eB105]))
theorem tl105 {a : T131} {r : T131} (h : g105 a = some r) : F105 [.agg [.i .i64 a.a_,.i .i64 a.b_,.f .f32 a.lead_,.f .f32 a.store_,.f .f32 a.heat_.a0_,.f .f32 a.heat_.a1_,.f .f32 a.heat_.a2_,.f .f32 a.heat_.a3_]] = some (.agg [.i .i64 r.a_,.i .i64 r.b_,.f .f32 r.lead_,.f .f32 r.store_,.f .f32 r.heat_.a0_,.f .f32 r.heat_.a1_,.f .f32 r.heat_.a2_,.f .f32 r.heat_.a3_]):=Zf inj105 (a:=a) h
def g62_j1 (l28 : List T131) : Option (List T131) :=
some l28
def g62_L1 (a : List T131) : (Int × (List T131))→Option ((Int × (List T131)) ⊕ (List T131))
| (i_45,l46) =>
if Zo i_45 (a.length : Int) = true then
(Wp a i_45).bind fun e48 =>
(g105 e48).bind fun r50 =>
(Wp l46 i_45).bind fun e52 =>
some (.inl (aI .i64 i_45 1,(l46.set i_45.toNat r50)))
else
some (.inr l46)
def g62 (a : List T131) : Option (List T131) :=
(mk 40 (a.length : Int)).bind fun u1 =>
(loopO (g62_L1 a) (0,(List.replicate (a.length : Int).toNat (⟨0,0,(some 0),(some 0),(⟨(some 0),(some 0),(some 0),(some 0)⟩ : T130)⟩ : T131)))).bind fun w => g62_j1 w
@[simp] def eA62 (a : List T131) : List V:=[.sl 8 (rows Yv a)]
def eB62 (r : List T131) : V:=.own 8 (rows Yv r)
theorem inj62 (a a' : List T131) (h : eA62 a = eA62 a') : a = a':=by simpa [eA62,Prod.ext_iff] using h
def F62 : List V→Option V:=tells (fun a => g62 a) eA62 eB62
theorem ok62 : Zz Tryz.prog 62 F62:=by
 refine Zg 23 Tryz.func62 ?_
 rintro a r h
 rw [g62] at h
 have hC : Qc.Ok Tryz.prog [(105,F105)]:=⟨.inl ok105,trivial⟩
 refine VW.seq (Za [0] hC (q:=VW.seq ?_))
 obtain ⟨u1,⟨f2a,f2b,f2c⟩,h⟩:=bindM h
 try simp only [Int.toNat_natCast,Int.reduceToNat,List.length_cons,List.length_nil,Nat.reduceAdd,Nat.zero_add] at f2a f2b f2c
 refine Zj [0,3] hC (q:=(VW.join (fun (v : List T131) => (⟨(tm 23 [(3,.ref 0 0 v.length)]),[some (8,rows Yv v)],[]⟩ : VS)) (fun v => (g62_j1 (v)).bind some = some r) ?_ ?_))
 ·refine VW.seq (Za [0,3,4] hC (q:=VW.block ?_))
  obtain ⟨w_1,hw_1,h⟩:=Zc h
  refine VW.loopO (fun (x : Int × (List T131)) => (⟨(tm 23 [(0,.sl 8 (rows Yv a)),(3,.ref 0 0 x.2.length),(4,.i .i64 x.1)]),[some (8,rows Yv x.2)],[]⟩ : VS)) hw_1 (Ze 1) ?_
  rintro n_1 ⟨i_45,l46⟩ h1
  rw [g62_L1] at h1
  refine VW.seq (VW.seq (Za [0,3,4,11] hC (q:=(Zk h1 (fun h1 => ?_) (fun h1 => ?_)))))
  ·refine VW.exit ?_
   have e_:=Yd h1
   subst w_1
   exact Zn l46 h (Ze 1)
  refine VW.skip (VW.seq (VW.block ?_))
  obtain ⟨e48,⟨f49a,f49b,f49c,f49d⟩,h1⟩:=Ys h1
  obtain ⟨r50,q51,h1⟩:=Zc h1
  have c51:=tl105 q51
  obtain ⟨e52,⟨f53a,f53b,f53c,f53d⟩,h1⟩:=Ys h1
  exact Zj [0,3,4] hC (q:=(Za [0,3,4] hC (q:=(Zn (aI .i64 i_45 1,(l46.set i_45.toNat r50)) (Yr h1) (Ze 1)))))
 rintro l28 h
 replace h : (g62_j1 l28).bind _ = _:=h
 rw [g62_j1] at h
 refine VW.seq (Za [2] hC (q:=?_))
 exact VW.ret (Zb h (by simp [eB62]))
theorem tl62 {a : List T131} {r : List T131} (h : g62 a = some r) : F62 [.sl 8 (rows Yv a)] = some (.own 8 (rows Yv r)):=Zf inj62 (a:=a) h
def g106 (a : T134) : Option (T134) :=
some a
@[simp] def eA106 (a : T134) : List V:=[.agg (Xs a)]
def eB106 (r : T134) : V:=.agg [.i .i64 r.a_,.i .i64 r.b_,.f .f32 r.lead_,.f .f32 r.sun_]
theorem inj106 (a a' : T134) (h : eA106 a = eA106 a') : a = a':=by simpa [eA106,Prod.ext_iff] using h
def F106 : List V→Option V:=tells (fun a => g106 a) eA106 eB106
theorem ok106 : Zz Tryz.prog 106 F106:=by
 refine Zg 17 Tryz.func106 ?_
 rintro a r h
 rw [g106] at h
 have hC : Qc.Ok Tryz.prog []:=trivial
 refine VW.seq (Za [1,2] hC (h:=by first | (simp -implicitDefEqProofs; done) | simp -implicitDefEqProofs [Xs]; exact .rfl) (q:=(VW.seq (Za [1,2,3] hC (h:=by first | (simp -implicitDefEqProofs; done) | simp -implicitDefEqProofs [Xs]; exact .rfl) (q:=(VW.seq (Za [1,2,3] hC (h:=by first | (simp -implicitDefEqProofs; done) | simp -implicitDefEqProofs [Xs]; exact .rfl) (q:=(VW.seq (Za [1,2,3] hC (h:=by first | (simp -implicitDefEqProofs; done) | simp -implicitDefEqProofs [Xs]; exact .rfl) (q:=(VW.seq (Za [1,2,3] hC (h:=by first | (simp -implicitDefEqProofs; done) | simp -implicitDefEqProofs [Xs]; exact .rfl) (q:=(VW.seq (Za [2,3] hC (h:=by first | (simp -implicitDefEqProofs; done) | simp -implicitDefEqProofs [Xs]; exact .rfl) (q:=(VW.seq (Za [2] hC (h:=by first | (simp -implicitDefEqProofs; done) | simp -implicitDefEqProofs [Xs]; exact .rfl) (q:=?_))))))))))))))))))))
 obtain rfl:=Yz h
 refine VW.ret (VRet.fin ?_)
 first | (simp [eB106]; done) | simp [eB106,Xs]
theorem tl106 {a : T134} {r : T134} (h : g106 a = some r) : F106 [.agg [.i .i64 a.a_,.i .i64 a.b_,.f .f32 a.lead_,.f .f32 a.sun_]] = some (.agg [.i .i64 r.a_,.i .i64 r.b_,.f .f32 r.lead_,.f .f32 r.sun_]):=Zf inj106 (a:=a) h
def g63_j1 (l28 : List T134) : Option (List T134) :=
some l28
def g63_L1 (a : List T134) : (Int × (List T134))→Option ((Int × (List T134)) ⊕ (List T134))
| (i_45,l46) =>
if Zo i_45 (a.length : Int) = true then
(Wp a i_45).bind fun e48 =>
(g106 e48).bind fun r50 =>
(Wp l46 i_45).bind fun e52 =>
some (.inl (aI .i64 i_45 1,(l46.set i_45.toNat r50)))
else
some (.inr l46)
def g63 (a : List T134) : Option (List T134) :=
(mk 24 (a.length : Int)).bind fun u1 =>
(loopO (g63_L1 a) (0,(List.replicate (a.length : Int).toNat (⟨0,0,(some 0),(some 0)⟩ : T134)))).bind fun w => g63_j1 w
@[simp] def eA63 (a : List T134) : List V:=[.sl 4 (rows Yw a)]
def eB63 (r : List T134) : V:=.own 4 (rows Yw r)
theorem inj63 (a a' : List T134) (h : eA63 a = eA63 a') : a = a':=by simpa [eA63,Prod.ext_iff] using h
def F63 : List V→Option V:=tells (fun a => g63 a) eA63 eB63
theorem ok63 : Zz Tryz.prog 63 F63:=by
 refine Zg 23 Tryz.func63 ?_
 rintro a r h
 rw [g63] at h
 have hC : Qc.Ok Tryz.prog [(106,F106)]:=⟨.inl ok106,trivial⟩
 refine VW.seq (Za [0] hC (q:=VW.seq ?_))
 obtain ⟨u1,⟨f2a,f2b,f2c⟩,h⟩:=bindM h
 try simp only [Int.toNat_natCast,Int.reduceToNat,List.length_cons,List.length_nil,Nat.reduceAdd,Nat.zero_add] at f2a f2b f2c
 refine Zj [0,3] hC (q:=(VW.join (fun (v : List T134) => (⟨(tm 23 [(3,.ref 0 0 v.length)]),[some (4,rows Yw v)],[]⟩ : VS)) (fun v => (g63_j1 (v)).bind some = some r) ?_ ?_))
 ·refine VW.seq (Za [0,3,4] hC (q:=VW.block ?_))
  obtain ⟨w_1,hw_1,h⟩:=Zc h
  refine VW.loopO (fun (x : Int × (List T134)) => (⟨(tm 23 [(0,.sl 4 (rows Yw a)),(3,.ref 0 0 x.2.length),(4,.i .i64 x.1)]),[some (4,rows Yw x.2)],[]⟩ : VS)) hw_1 (Ze 1) ?_
  rintro n_1 ⟨i_45,l46⟩ h1
  rw [g63_L1] at h1
  refine VW.seq (VW.seq (Za [0,3,4,11] hC (q:=(Zk h1 (fun h1 => ?_) (fun h1 => ?_)))))
  ·refine VW.exit ?_
   have e_:=Yd h1
   subst w_1
   exact Zn l46 h (Ze 1)
  refine VW.skip (VW.seq (VW.block ?_))
  obtain ⟨e48,⟨f49a,f49b,f49c,f49d⟩,h1⟩:=Ys h1
  obtain ⟨r50,q51,h1⟩:=Zc h1
  have c51:=tl106 q51
  obtain ⟨e52,⟨f53a,f53b,f53c,f53d⟩,h1⟩:=Ys h1
  exact Zj [0,3,4] hC (q:=(Za [0,3,4] hC (q:=(Zn (aI .i64 i_45 1,(l46.set i_45.toNat r50)) (Yr h1) (Ze 1)))))
 rintro l28 h
 replace h : (g63_j1 l28).bind _ = _:=h
 rw [g63_j1] at h
 refine VW.seq (Za [2] hC (q:=?_))
 exact VW.ret (Zb h (by simp [eB63]))
theorem tl63 {a : List T134} {r : List T134} (h : g63 a = some r) : F63 [.sl 4 (rows Yw a)] = some (.own 4 (rows Yw r)):=Zf inj63 (a:=a) h
def g23 (a : T25) : Option (T25) :=
(g61 a.heat_).bind fun r1 =>
(g61 a.store_).bind fun r3 =>
(g62 a.walls_).bind fun r5 =>
(g63 a.panes_).bind fun r7 =>
some (⟨r1,r3,r5,r7⟩ : T25)
@[simp] def eA23 (a : T25) : List V:=[.agg (Wb a)]
def eB23 (r : T25) : V:=.agg [.own 1 (rows Zt r.heat_),.own 1 (rows Zt r.store_),.own 8 (rows Yv r.walls_),.own 4 (rows Yw r.panes_)]
theorem inj23 (a a' : T25) (h : eA23 a = eA23 a') : a = a':=by simpa [eA23,Prod.ext_iff] using h
def F23 : List V→Option V:=tells (fun a => g23 a) eA23 eB23
theorem ok23 : Zz Tryz.prog 23 F23:=by
 refine Zg 21 Tryz.func23 ?_
 rintro a r h
 rw [g23] at h
 have hC : Qc.Ok Tryz.prog [(61,F61),(62,F62),(63,F63)]:=⟨.inl ok61,.inl ok62,.inl ok63,trivial⟩
 refine VW.seq (Za [1,2] hC (q:=(VW.seq (Za [1,2,3] hC (q:=VW.seq ?_)))))
 obtain ⟨r1,q2,h⟩:=Zc h
 have c2:=tl61 q2
 refine Zj [1,2,3] hC (q:=VW.seq ?_)
 obtain ⟨r3,q4,h⟩:=Zc h
 have c4:=tl61 q4
 refine Zj [1,2,3] hC (q:=VW.seq ?_)
 obtain ⟨r5,q6,h⟩:=Zc h
 have c6:=tl62 q6
 refine Zj [1,2,3] hC (q:=VW.seq ?_)
 obtain ⟨r7,q8,h⟩:=Zc h
 have c8:=tl63 q8
 refine Zj [2,3] hC (q:=(VW.seq (Za [2] hC (q:=?_))))
 exact VW.ret (Zb h (by simp [eB23]))
theorem tl23 {a : T25} {r : T25} (h : g23 a = some r) : F23 [.agg [.sl 1 (rows Zt a.heat_),.sl 1 (rows Zt a.store_),.sl 8 (rows Yv a.walls_),.sl 4 (rows Yw a.panes_)]] = some (.agg [.own 1 (rows Zt r.heat_),.own 1 (rows Zt r.store_),.own 8 (rows Yv r.walls_),.own 4 (rows Yw r.panes_)]):=Zf inj23 (a:=a) h
def g64 (a : T32) : Option (T32) :=
some a
@[simp] def eA64 (a : T32) : List V:=[.agg (Xk a)]
def eB64 (r : T32) : V:=.agg [.f .f32 r.burnt_,.f .f32 r.steam_,.f .f32 r.up_,.f .f32 r.lost_,.i .i64 r.smoky_]
theorem inj64 (a a' : T32) (h : eA64 a = eA64 a') : a = a':=by simpa [eA64,Prod.ext_iff] using h
def F64c : List V→Option V:=tells (fun a => g64 a) eA64 eB64
theorem ok64 : Zz Tryz.prog 64 F64c:=by
 refine Zg 20 Tryz.func64 ?_
 rintro a r h
 rw [g64] at h
 have hC : Qc.Ok Tryz.prog []:=trivial
 refine VW.seq (Za [1,2] hC (h:=by first | (simp -implicitDefEqProofs; done) | simp -implicitDefEqProofs [Xk]; exact .rfl) (q:=(VW.seq (Za [1,2,3] hC (h:=by first | (simp -implicitDefEqProofs; done) | simp -implicitDefEqProofs [Xk]; exact .rfl) (q:=(VW.seq (Za [1,2,3] hC (h:=by first | (simp -implicitDefEqProofs; done) | simp -implicitDefEqProofs [Xk]; exact .rfl) (q:=(VW.seq (Za [1,2,3] hC (h:=by first | (simp -implicitDefEqProofs; done) | simp -implicitDefEqProofs [Xk]; exact .rfl) (q:=(VW.seq (Za [1,2,3] hC (h:=by first | (simp -implicitDefEqProofs; done) | simp -implicitDefEqProofs [Xk]; exact .rfl) (q:=(VW.seq (Za [1,2,3] hC (h:=by first | (simp -implicitDefEqProofs; done) | simp -implicitDefEqProofs [Xk]; exact .rfl) (q:=(VW.seq (Za [2,3] hC (h:=by first | (simp -implicitDefEqProofs; done) | simp -implicitDefEqProofs [Xk]; exact .rfl) (q:=(VW.seq (Za [2] hC (h:=by first | (simp -implicitDefEqProofs; done) | simp -implicitDefEqProofs [Xk]; exact .rfl) (q:=?_)))))))))))))))))))))))
 obtain rfl:=Yz h
 refine VW.ret (VRet.fin ?_)
 first | (simp [eB64]; done) | simp [eB64,Xk]
theorem tl64 {a : T32} {r : T32} (h : g64 a = some r) : F64c [.agg [.f .f32 a.burnt_,.f .f32 a.steam_,.f .f32 a.up_,.f .f32 a.lost_,.i .i64 a.smoky_]] = some (.agg [.f .f32 r.burnt_,.f .f32 r.steam_,.f .f32 r.up_,.f .f32 r.lost_,.i .i64 r.smoky_]):=Zf inj64 (a:=a) h
def g24_j1 (l28 : List T32) : Option (List T32) :=
some l28
def g24_L1 (a : List T32) : (Int × (List T32))→Option ((Int × (List T32)) ⊕ (List T32))
| (i_45,l46) =>
if Zo i_45 (a.length : Int) = true then
(Wp a i_45).bind fun e48 =>
(g64 e48).bind fun r50 =>
(Wp l46 i_45).bind fun e52 =>
some (.inl (aI .i64 i_45 1,(l46.set i_45.toNat r50)))
else
some (.inr l46)
def g24 (a : List T32) : Option (List T32) :=
(mk 24 (a.length : Int)).bind fun u1 =>
(loopO (g24_L1 a) (0,(List.replicate (a.length : Int).toNat (⟨(some 0),(some 0),(some 0),(some 0),0⟩ : T32)))).bind fun w => g24_j1 w
@[simp] def eA24 (a : List T32) : List V:=[.sl 5 (rows Xw a)]
def eB24 (r : List T32) : V:=.own 5 (rows Xw r)
theorem inj24 (a a' : List T32) (h : eA24 a = eA24 a') : a = a':=by simpa [eA24,Prod.ext_iff] using h
def F24 : List V→Option V:=tells (fun a => g24 a) eA24 eB24
theorem ok24 : Zz Tryz.prog 24 F24:=by
 refine Zg 23 Tryz.func24 ?_
 rintro a r h
 rw [g24] at h
 have hC : Qc.Ok Tryz.prog [(64,F64c)]:=⟨.inl ok64,trivial⟩
 refine VW.seq (Za [0] hC (q:=VW.seq ?_))
 obtain ⟨u1,⟨f2a,f2b,f2c⟩,h⟩:=bindM h
 try simp only [Int.toNat_natCast,Int.reduceToNat,List.length_cons,List.length_nil,Nat.reduceAdd,Nat.zero_add] at f2a f2b f2c
 refine Zj [0,3] hC (q:=(VW.join (fun (v : List T32) => (⟨(tm 23 [(3,.ref 0 0 v.length)]),[some (5,rows Xw v)],[]⟩ : VS)) (fun v => (g24_j1 (v)).bind some = some r) ?_ ?_))
 ·refine VW.seq (Za [0,3,4] hC (q:=VW.block ?_))
  obtain ⟨w_1,hw_1,h⟩:=Zc h
  refine VW.loopO (fun (x : Int × (List T32)) => (⟨(tm 23 [(0,.sl 5 (rows Xw a)),(3,.ref 0 0 x.2.length),(4,.i .i64 x.1)]),[some (5,rows Xw x.2)],[]⟩ : VS)) hw_1 (Ze 1) ?_
  rintro n_1 ⟨i_45,l46⟩ h1
  rw [g24_L1] at h1
  refine VW.seq (VW.seq (Za [0,3,4,11] hC (q:=(Zk h1 (fun h1 => ?_) (fun h1 => ?_)))))
  ·refine VW.exit ?_
   have e_:=Yd h1
   subst w_1
   exact Zn l46 h (Ze 1)
  refine VW.skip (VW.seq (VW.block ?_))
  obtain ⟨e48,⟨f49a,f49b,f49c,f49d⟩,h1⟩:=Ys h1
  obtain ⟨r50,q51,h1⟩:=Zc h1
  have c51:=tl64 q51
  obtain ⟨e52,⟨f53a,f53b,f53c,f53d⟩,h1⟩:=Ys h1
  exact Zj [0,3,4] hC (q:=(Za [0,3,4] hC (q:=(Zn (aI .i64 i_45 1,(l46.set i_45.toNat r50)) (Yr h1) (Ze 1)))))
 rintro l28 h
 replace h : (g24_j1 l28).bind _ = _:=h
 rw [g24_j1] at h
 refine VW.seq (Za [2] hC (q:=?_))
 exact VW.ret (Zb h (by simp [eB24]))
theorem tl24 {a : List T32} {r : List T32} (h : g24 a = some r) : F24 [.sl 5 (rows Xw a)] = some (.own 5 (rows Xw r)):=Zf inj24 (a:=a) h
def g159_j1 (a : T148) : Option (T148) :=
some a
def g159 (a : T148) : Option (T148) :=
g159_j1 a
@[simp] def eA159 (a : T148) : List V:=[.agg (Yt a)]
def eB159 (r : T148) : V:=.agg [.f .f32 r.a0_,.f .f32 r.a1_,.f .f32 r.a2_,.f .f32 r.a3_,.f .f32 r.a4_,.f .f32 r.a5_]
theorem inj159 (a a' : T148) (h : eA159 a = eA159 a') : a = a':=by simpa [eA159,Prod.ext_iff] using h
def F159 : List V→Option V:=tells (fun a => g159 a) eA159 eB159
theorem ok159 : Zz Tryz.prog 159 F159:=by
 refine Zg 15 Tryz.func159 ?_
 rintro a r h
 rw [g159] at h
 have hC : Qc.Ok Tryz.prog []:=trivial
 refine VW.seq (Za [1,2] hC (h:=by first | (simp -implicitDefEqProofs; done) | simp -implicitDefEqProofs [Yt]; exact .rfl) (q:=(VW.seq (Za [1,2,3] hC (h:=by first | (simp -implicitDefEqProofs; done) | simp -implicitDefEqProofs [Yt]; exact .rfl) (q:=(VW.join (fun (v : Unit) => (⟨(tm 15 [(2,.ptr 1 0 0),(3,.ptr 2 0 0)]),[some (6,[(Yt a)]),some (6,[[.f .f32 (some 0),.f .f32 (some 0),.f .f32 (some 0),.f .f32 (some 0),.f .f32 (some 0),.f .f32 (some 0)]]),some (6,[(Yt a)])],[]⟩ : VS)) (fun v => (g159_j1 a).bind some = some r) ?_ ?_))))))
 ·exact VW.seq (Za [1,2,3,4] hC (h:=by first | (simp -implicitDefEqProofs; done) | simp -implicitDefEqProofs [Yt]; exact .rfl) (q:=(VW.block (VW.rounds 8 (VRounds.step (VW.seq (VW.seq (Za [1,2,3,4,6] hC (h:=by first | (simp -implicitDefEqProofs [(by decide : Zo 0 6 = true)]; done) | simp -implicitDefEqProofs [(by decide : Zo 0 6 = true),Yt]; exact .rfl) (q:=(Ye (by simp) (VW.skip (VW.seq (VW.block (Za [1,2,3,4] hC (h:=by first | (simp -implicitDefEqProofs; done) | simp -implicitDefEqProofs [Yt]; exact .rfl) (q:=(Za [1,2,3,4] hC (h:=by first | (simp -implicitDefEqProofs [(by decide : aI .i64 0 1 = 1)]; done) | simp -implicitDefEqProofs [(by decide : aI .i64 0 1 = 1),Yt]; exact .rfl) (q:=(VRounds.step (VW.seq (VW.seq (Za [1,2,3,4,6] hC (h:=by first | (simp -implicitDefEqProofs [(by decide : Zo 1 6 = true)]; done) | simp -implicitDefEqProofs [(by decide : Zo 1 6 = true),Yt]; exact .rfl) (q:=(Ye (by simp) (VW.skip (VW.seq (VW.block (Za [1,2,3,4] hC (h:=by first | (simp -implicitDefEqProofs; done) | simp -implicitDefEqProofs [Yt]; exact .rfl) (q:=(Za [1,2,3,4] hC (h:=by first | (simp -implicitDefEqProofs [(by decide : aI .i64 1 1 = 2)]; done) | simp -implicitDefEqProofs [(by decide : aI .i64 1 1 = 2),Yt]; exact .rfl) (q:=(VRounds.step (VW.seq (VW.seq (Za [1,2,3,4,6] hC (h:=by first | (simp -implicitDefEqProofs [(by decide : Zo 2 6 = true)]; done) | simp -implicitDefEqProofs [(by decide : Zo 2 6 = true),Yt]; exact .rfl) (q:=(Ye (by simp) (VW.skip (VW.seq (VW.block (Za [1,2,3,4] hC (h:=by first | (simp -implicitDefEqProofs; done) | simp -implicitDefEqProofs [Yt]; exact .rfl) (q:=(Za [1,2,3,4] hC (h:=by first | (simp -implicitDefEqProofs [(by decide : aI .i64 2 1 = 3)]; done) | simp -implicitDefEqProofs [(by decide : aI .i64 2 1 = 3),Yt]; exact .rfl) (q:=(VRounds.step (VW.seq (VW.seq (Za [1,2,3,4,6] hC (h:=by first | (simp -implicitDefEqProofs [(by decide : Zo 3 6 = true)]; done) | simp -implicitDefEqProofs [(by decide : Zo 3 6 = true),Yt]; exact .rfl) (q:=(Ye (by simp) (VW.skip (VW.seq (VW.block (Za [1,2,3,4] hC (h:=by first | (simp -implicitDefEqProofs; done) | simp -implicitDefEqProofs [Yt]; exact .rfl) (q:=(Za [1,2,3,4] hC (h:=by first | (simp -implicitDefEqProofs [(by decide : aI .i64 3 1 = 4)]; done) | simp -implicitDefEqProofs [(by decide : aI .i64 3 1 = 4),Yt]; exact .rfl) (q:=(VRounds.step (VW.seq (VW.seq (Za [1,2,3,4,6] hC (h:=by first | (simp -implicitDefEqProofs [(by decide : Zo 4 6 = true)]; done) | simp -implicitDefEqProofs [(by decide : Zo 4 6 = true),Yt]; exact .rfl) (q:=(Ye (by simp) (VW.skip (VW.seq (VW.block (Za [1,2,3,4] hC (h:=by first | (simp -implicitDefEqProofs; done) | simp -implicitDefEqProofs [Yt]; exact .rfl) (q:=(Za [1,2,3,4] hC (h:=by first | (simp -implicitDefEqProofs [(by decide : aI .i64 4 1 = 5)]; done) | simp -implicitDefEqProofs [(by decide : aI .i64 4 1 = 5),Yt]; exact .rfl) (q:=(VRounds.step (VW.seq (VW.seq (Za [1,2,3,4,6] hC (h:=by first | (simp -implicitDefEqProofs [(by decide : Zo 5 6 = true)]; done) | simp -implicitDefEqProofs [(by decide : Zo 5 6 = true),Yt]; exact .rfl) (q:=(Ye (by simp) (VW.skip (VW.seq (VW.block (Za [1,2,3,4] hC (h:=by first | (simp -implicitDefEqProofs; done) | simp -implicitDefEqProofs [Yt]; exact .rfl) (q:=(Za [1,2,3,4] hC (h:=by first | (simp -implicitDefEqProofs [(by decide : aI .i64 5 1 = 6)]; done) | simp -implicitDefEqProofs [(by decide : aI .i64 5 1 = 6),Yt]; exact .rfl) (q:=(VRounds.step (VW.seq (VW.seq (Za [1,2,3,4,6] hC (h:=by first | (simp -implicitDefEqProofs [(by decide : Zo 6 6 = false)]; done) | simp -implicitDefEqProofs [(by decide : Zo 6 6 = false),Yt]; exact .rfl) (q:=(Qj (by simp) (VW.exit (Zn () h (Ze 3 (by first | (simp; done) | simp [Yt]))))))))))))))))))))))))))))))))))))))))))))))))))))))))))))))))))))))))))))))))))))))))))))
 rintro _ h
 replace h : (g159_j1 a).bind _ = _:=h
 rw [g159_j1] at h
 refine VW.seq (Za [2] hC (h:=by first | (simp -implicitDefEqProofs; done) | simp -implicitDefEqProofs [Yt]; exact .rfl) (q:=?_))
 obtain rfl:=Yz h
 refine VW.ret (VRet.fin ?_)
 first | (simp [eB159]; done) | simp [eB159,Yt]
theorem tl159 {a : T148} {r : T148} (h : g159 a = some r) : F159 [.agg [.f .f32 a.a0_,.f .f32 a.a1_,.f .f32 a.a2_,.f .f32 a.a3_,.f .f32 a.a4_,.f .f32 a.a5_]] = some (.agg [.f .f32 r.a0_,.f .f32 r.a1_,.f .f32 r.a2_,.f .f32 r.a3_,.f .f32 r.a4_,.f .f32 r.a5_]):=Zf inj159 (a:=a) h
def g148 (a : T149) : Option (T149) :=
(g159 a.wet_).bind fun r1 =>
(g159 a.heat_).bind fun r3 =>
(g159 a.fuel_).bind fun r5 =>
some (⟨r1,r3,r5⟩ : T149)
@[simp] def eA148 (a : T149) : List V:=[.agg (Ya a)]
def eB148 (r : T149) : V:=.agg [.f .f32 r.wet_.a0_,.f .f32 r.wet_.a1_,.f .f32 r.wet_.a2_,.f .f32 r.wet_.a3_,.f .f32 r.wet_.a4_,.f .f32 r.wet_.a5_,.f .f32 r.heat_.a0_,.f .f32 r.heat_.a1_,.f .f32 r.heat_.a2_,.f .f32 r.heat_.a3_,.f .f32 r.heat_.a4_,.f .f32 r.heat_.a5_,.f .f32 r.fuel_.a0_,.f .f32 r.fuel_.a1_,.f .f32 r.fuel_.a2_,.f .f32 r.fuel_.a3_,.f .f32 r.fuel_.a4_,.f .f32 r.fuel_.a5_]
theorem inj148 (a a' : T149) (h : eA148 a = eA148 a') : a = a':=by simpa [eA148,Prod.ext_iff] using h
def F148 : List V→Option V:=tells (fun a => g148 a) eA148 eB148
theorem ok148 : Zz Tryz.prog 148 F148:=by
 refine Zg 17 Tryz.func148 ?_
 rintro a r h
 rw [g148] at h
 have hC : Qc.Ok Tryz.prog [(159,F159)]:=⟨.inl ok159,trivial⟩
 refine VW.seq (Za [1,2] hC (q:=(VW.seq (Za [1,2,3] hC (q:=VW.seq ?_)))))
 obtain ⟨r1,q2,h⟩:=Zc h
 have c2:=tl159 q2
 refine Zj [1,2,3] hC (q:=VW.seq ?_)
 obtain ⟨r3,q4,h⟩:=Zc h
 have c4:=tl159 q4
 refine Zj [1,2,3] hC (q:=VW.seq ?_)
 obtain ⟨r5,q6,h⟩:=Zc h
 have c6:=tl159 q6
 refine Zj [2,3] hC (q:=(VW.seq (Za [2] hC (q:=?_))))
 exact VW.ret (Zb h (by simp [eB148]))
theorem tl148 {a : T149} {r : T149} (h : g148 a = some r) : F148 [.agg [.f .f32 a.wet_.a0_,.f .f32 a.wet_.a1_,.f .f32 a.wet_.a2_,.f .f32 a.wet_.a3_,.f .f32 a.wet_.a4_,.f .f32 a.wet_.a5_,.f .f32 a.heat_.a0_,.f .f32 a.heat_.a1_,.f .f32 a.heat_.a2_,.f .f32 a.heat_.a3_,.f .f32 a.heat_.a4_,.f .f32 a.heat_.a5_,.f .f32 a.fuel_.a0_,.f .f32 a.fuel_.a1_,.f .f32 a.fuel_.a2_,.f .f32 a.fuel_.a3_,.f .f32 a.fuel_.a4_,.f .f32 a.fuel_.a5_]] = some (.agg [.f .f32 r.wet_.a0_,.f .f32 r.wet_.a1_,.f .f32 r.wet_.a2_,.f .f32 r.wet_.a3_,.f .f32 r.wet_.a4_,.f .f32 r.wet_.a5_,.f .f32 r.heat_.a0_,.f .f32 r.heat_.a1_,.f .f32 r.heat_.a2_,.f .f32 r.heat_.a3_,.f .f32 r.heat_.a4_,.f .f32 r.heat_.a5_,.f .f32 r.fuel_.a0_,.f .f32 r.fuel_.a1_,.f .f32 r.fuel_.a2_,.f .f32 r.fuel_.a3_,.f .f32 r.fuel_.a4_,.f .f32 r.fuel_.a5_]):=Zf inj148 (a:=a) h
def g134_j1 (l28 : List T149) : Option (List T149) :=
some l28
def g134_L1 (a : List T149) : (Int × (List T149))→Option ((Int × (List T149)) ⊕ (List T149))
| (i_45,l46) =>
if Zo i_45 (a.length : Int) = true then
(Wp a i_45).bind fun e48 =>
(g148 e48).bind fun r50 =>
(Wp l46 i_45).bind fun e52 =>
some (.inl (aI .i64 i_45 1,(l46.set i_45.toNat r50)))
else
some (.inr l46)
def g134 (a : List T149) : Option (List T149) :=
(mk 72 (a.length : Int)).bind fun u1 =>
(loopO (g134_L1 a) (0,(List.replicate (a.length : Int).toNat (⟨(⟨(some 0),(some 0),(some 0),(some 0),(some 0),(some 0)⟩ : T148),(⟨(some 0),(some 0),(some 0),(some 0),(some 0),(some 0)⟩ : T148),(⟨(some 0),(some 0),(some 0),(some 0),(some 0),(some 0)⟩ : T148)⟩ : T149)))).bind fun w => g134_j1 w
@[simp] def eA134 (a : List T149) : List V:=[.sl 18 (rows Yk a)]
def eB134 (r : List T149) : V:=.own 18 (rows Yk r)
theorem inj134 (a a' : List T149) (h : eA134 a = eA134 a') : a = a':=by simpa [eA134,Prod.ext_iff] using h
def F134 : List V→Option V:=tells (fun a => g134 a) eA134 eB134
theorem ok134 : Zz Tryz.prog 134 F134:=by
 refine Zg 23 Tryz.func134 ?_
 rintro a r h
 rw [g134] at h
 have hC : Qc.Ok Tryz.prog [(148,F148)]:=⟨.inl ok148,trivial⟩
 refine VW.seq (Za [0] hC (q:=VW.seq ?_))
 obtain ⟨u1,⟨f2a,f2b,f2c⟩,h⟩:=bindM h
 try simp only [Int.toNat_natCast,Int.reduceToNat,List.length_cons,List.length_nil,Nat.reduceAdd,Nat.zero_add] at f2a f2b f2c
 refine Zj [0,3] hC (q:=(VW.join (fun (v : List T149) => (⟨(tm 23 [(3,.ref 0 0 v.length)]),[some (18,rows Yk v)],[]⟩ : VS)) (fun v => (g134_j1 (v)).bind some = some r) ?_ ?_))
 ·refine VW.seq (Za [0,3,4] hC (q:=VW.block ?_))
  obtain ⟨w_1,hw_1,h⟩:=Zc h
  refine VW.loopO (fun (x : Int × (List T149)) => (⟨(tm 23 [(0,.sl 18 (rows Yk a)),(3,.ref 0 0 x.2.length),(4,.i .i64 x.1)]),[some (18,rows Yk x.2)],[]⟩ : VS)) hw_1 (Ze 1) ?_
  rintro n_1 ⟨i_45,l46⟩ h1
  rw [g134_L1] at h1
  refine VW.seq (VW.seq (Za [0,3,4,11] hC (q:=(Zk h1 (fun h1 => ?_) (fun h1 => ?_)))))
  ·refine VW.exit ?_
   have e_:=Yd h1
   subst w_1
   exact Zn l46 h (Ze 1)
  refine VW.skip (VW.seq (VW.block ?_))
  obtain ⟨e48,⟨f49a,f49b,f49c,f49d⟩,h1⟩:=Ys h1
  obtain ⟨r50,q51,h1⟩:=Zc h1
  have c51:=tl148 q51
  obtain ⟨e52,⟨f53a,f53b,f53c,f53d⟩,h1⟩:=Ys h1
  exact Zj [0,3,4] hC (q:=(Za [0,3,4] hC (q:=(Zn (aI .i64 i_45 1,(l46.set i_45.toNat r50)) (Yr h1) (Ze 1)))))
 rintro l28 h
 replace h : (g134_j1 l28).bind _ = _:=h
 rw [g134_j1] at h
 refine VW.seq (Za [2] hC (q:=?_))
 exact VW.ret (Zb h (by simp [eB134]))
theorem tl134 {a : List T149} {r : List T149} (h : g134 a = some r) : F134 [.sl 18 (rows Yk a)] = some (.own 18 (rows Yk r)):=Zf inj134 (a:=a) h
def g107 (a : T85) : Option (T85) :=
(g134 a.logs_).bind fun r1 =>
some (⟨r1,a.box_,a.damper_,a.state_,a.ash_,a.dust_⟩ : T85)
@[simp] def eA107 (a : T85) : List V:=[.agg (Xx a)]
def eB107 (r : T85) : V:=.agg [.own 18 (rows Yk r.logs_),.f .f32 r.box_,.f .f32 r.damper_,.i .i8 r.state_,.i .i64 r.ash_,.f .f32 r.dust_]
theorem inj107 (a a' : T85) (h : eA107 a = eA107 a') : a = a':=by simpa [eA107,Prod.ext_iff] using h
def F107 : List V→Option V:=tells (fun a => g107 a) eA107 eB107
theorem ok107 : Zz Tryz.prog 107 F107:=by
 refine Zg 24 Tryz.func107 ?_
 rintro a r h
 rw [g107] at h
 have hC : Qc.Ok Tryz.prog [(134,F134)]:=⟨.inl ok134,trivial⟩
 refine VW.seq (Za [1,2] hC (q:=(VW.seq (Za [1,2,3] hC (q:=VW.seq ?_)))))
 obtain ⟨r1,q2,h⟩:=Zc h
 have c2:=tl134 q2
 refine Zj [1,2,3] hC (q:=(VW.seq (Za [1,2,3] hC (q:=(VW.seq (Za [1,2,3] hC (q:=(VW.seq (Za [1,2,3] hC (q:=(VW.seq (Za [1,2,3] hC (q:=(VW.seq (Za [2,3] hC (q:=(VW.seq (Za [2] hC (q:=?_)))))))))))))))))))
 exact VW.ret (Zb h (by simp [eB107]))
theorem tl107 {a : T85} {r : T85} (h : g107 a = some r) : F107 [.agg [.sl 18 (rows Yk a.logs_),.f .f32 a.box_,.f .f32 a.damper_,.i .i8 a.state_,.i .i64 a.ash_,.f .f32 a.dust_]] = some (.agg [.own 18 (rows Yk r.logs_),.f .f32 r.box_,.f .f32 r.damper_,.i .i8 r.state_,.i .i64 r.ash_,.f .f32 r.dust_]):=Zf inj107 (a:=a) h
def g65 (a : T87) : Option (T87) :=
(g107 a.stove_).bind fun r1 =>
some (⟨a.room_,a.flue_,a.brain_,r1⟩ : T87)
@[simp] def eA65 (a : T87) : List V:=[.agg (Wk a)]
def eB65 (r : T87) : V:=.agg [.i .i64 r.room_,.i .i64 r.flue_,.i .i64 r.brain_,.own 18 (rows Yk r.stove_.logs_),.f .f32 r.stove_.box_,.f .f32 r.stove_.damper_,.i .i8 r.stove_.state_,.i .i64 r.stove_.ash_,.f .f32 r.stove_.dust_]
theorem inj65 (a a' : T87) (h : eA65 a = eA65 a') : a = a':=by simpa [eA65,Prod.ext_iff] using h
def F65 : List V→Option V:=tells (fun a => g65 a) eA65 eB65
theorem ok65 : Zz Tryz.prog 65 F65:=by
 refine Zg 18 Tryz.func65 ?_
 rintro a r h
 rw [g65] at h
 have hC : Qc.Ok Tryz.prog [(107,F107)]:=⟨.inl ok107,trivial⟩
 refine VW.seq (Za [1,2] hC (q:=(VW.seq (Za [1,2,3] hC (q:=(VW.seq (Za [1,2,3] hC (q:=(VW.seq (Za [1,2,3] hC (q:=(VW.seq (Za [1,2,3] hC (q:=VW.seq ?_))))))))))))))
 obtain ⟨r1,q2,h⟩:=Zc h
 have c2:=tl107 q2
 refine Zj [2,3] hC (q:=(VW.seq (Za [2] hC (q:=?_))))
 exact VW.ret (Zb h (by simp [eB65]))
theorem tl65 {a : T87} {r : T87} (h : g65 a = some r) : F65 [.agg [.i .i64 a.room_,.i .i64 a.flue_,.i .i64 a.brain_,.sl 18 (rows Yk a.stove_.logs_),.f .f32 a.stove_.box_,.f .f32 a.stove_.damper_,.i .i8 a.stove_.state_,.i .i64 a.stove_.ash_,.f .f32 a.stove_.dust_]] = some (.agg [.i .i64 r.room_,.i .i64 r.flue_,.i .i64 r.brain_,.own 18 (rows Yk r.stove_.logs_),.f .f32 r.stove_.box_,.f .f32 r.stove_.damper_,.i .i8 r.stove_.state_,.i .i64 r.stove_.ash_,.f .f32 r.stove_.dust_]):=Zf inj65 (a:=a) h
def g25_j1 (l28 : List T87) : Option (List T87) :=
some l28
def g25_L1 (a : List T87) : (Int × (List T87))→Option ((Int × (List T87)) ⊕ (List T87))
| (i_45,l46) =>
if Zo i_45 (a.length : Int) = true then
(Wp a i_45).bind fun e48 =>
(g65 e48).bind fun r50 =>
(Wp l46 i_45).bind fun e52 =>
some (.inl (aI .i64 i_45 1,(l46.set i_45.toNat r50)))
else
some (.inr l46)
def g25 (a : List T87) : Option (List T87) :=
(mk 80 (a.length : Int)).bind fun u1 =>
(loopO (g25_L1 a) (0,(List.replicate (a.length : Int).toNat (⟨0,0,0,(⟨[],(some 0),(some 0),0,0,(some 0)⟩ : T85)⟩ : T87)))).bind fun w => g25_j1 w
@[simp] def eA25 (a : List T87) : List V:=[.sl 9 (rows Wa a)]
def eB25 (r : List T87) : V:=.own 9 (rows Ub r)
theorem inj25 (a a' : List T87) (h : eA25 a = eA25 a') : a = a':=by simpa [eA25,Prod.ext_iff] using h
def F25 : List V→Option V:=tells (fun a => g25 a) eA25 eB25
theorem ok25 : Zz Tryz.prog 25 F25:=by
 refine Zg 23 Tryz.func25 ?_
 rintro a r h
 rw [g25] at h
 have hC : Qc.Ok Tryz.prog [(65,F65)]:=⟨.inl ok65,trivial⟩
 refine VW.seq (Za [0] hC (q:=VW.seq ?_))
 obtain ⟨u1,⟨f2a,f2b,f2c⟩,h⟩:=bindM h
 try simp only [Int.toNat_natCast,Int.reduceToNat,List.length_cons,List.length_nil,Nat.reduceAdd,Nat.zero_add] at f2a f2b f2c
 refine VW.rE (tm 23 [(0,.sl 9 (rows Wa a)),(3,.ref 0 0 (List.replicate (a.length : Int).toNat (⟨0,0,0,(⟨[],(some 0),(some 0),0,0,(some 0)⟩ : T85)⟩ : T87)).length)]) [some (9,List.replicate (a.length : Int).toNat [.i .i64 0,.i .i64 0,.i .i64 0,.nil,.f .f32 (some 0),.f .f32 (some 0),.i .i8 0,.i .i64 0,.f .f32 (some 0)])] [] hC (Qm.nils (m:=[some (9,List.replicate (a.length : Int).toNat [.i .i64 0,.i .i64 0,.i .i64 0,.nil,.f .f32 (some 0),.f .f32 (some 0),.i .i8 0,.i .i64 0,.f .f32 (some 0)])]) (es':=List.replicate ((a.length : Int).toNat) [.i .i64 0,.i .i64 0,.i .i64 0,.own 18 [],.f .f32 (some 0),.f .f32 (some 0),.i .i8 0,.i .i64 0,.f .f32 (some 0)]) 0 [some (9,rows Ub (List.replicate (a.length : Int).toNat (⟨0,0,0,(⟨[],(some 0),(some 0),0,0,(some 0)⟩ : T85)⟩ : T87)))] rfl (nlE_rep (by simp [nlL])) (by simp)) (VW.join (fun (v : List T87) => (⟨(tm 23 [(3,.ref 0 0 v.length)]),[some (9,rows Ub v)],[]⟩ : VS)) (fun v => (g25_j1 (v)).bind some = some r) ?_ ?_) (h:=by simp -implicitDefEqProofs [f2a,f2b,f2c])
 ·refine VW.seq (Za [0,3,4] hC (q:=VW.block ?_))
  obtain ⟨w_1,hw_1,h⟩:=Zc h
  refine VW.loopO (fun (x : Int × (List T87)) => (⟨(tm 23 [(0,.sl 9 (rows Wa a)),(3,.ref 0 0 x.2.length),(4,.i .i64 x.1)]),[some (9,rows Ub x.2)],[]⟩ : VS)) hw_1 (Ze 1) ?_
  rintro n_1 ⟨i_45,l46⟩ h1
  rw [g25_L1] at h1
  refine VW.seq (VW.seq (Za [0,3,4,11] hC (q:=(Zk h1 (fun h1 => ?_) (fun h1 => ?_)))))
  ·refine VW.exit ?_
   have e_:=Yd h1
   subst w_1
   exact Zn l46 h (Ze 1)
  refine VW.skip (VW.seq (VW.block ?_))
  obtain ⟨e48,⟨f49a,f49b,f49c,f49d⟩,h1⟩:=Ys h1
  obtain ⟨r50,q51,h1⟩:=Zc h1
  have c51:=tl65 q51
  obtain ⟨e52,⟨f53a,f53b,f53c,f53d⟩,h1⟩:=Ys h1
  exact VW.rE (tm 23 [(0,.sl 9 (rows Wa a)),(3,.ref 0 0 l46.length),(4,.i .i64 i_45)]) [some (9,(rows Ub l46).set i_45.toNat [.i .i64 r50.room_,.i .i64 r50.flue_,.i .i64 r50.brain_,.ref 1 0 r50.stove_.logs_.length,.f .f32 r50.stove_.box_,.f .f32 r50.stove_.damper_,.i .i8 r50.stove_.state_,.i .i64 r50.stove_.ash_,.f .f32 r50.stove_.dust_]),some (18,rows Yk r50.stove_.logs_)] [] hC (Qm.absorb (m:=[some (9,(rows Ub l46).set i_45.toNat [.i .i64 r50.room_,.i .i64 r50.flue_,.i .i64 r50.brain_,.ref 1 0 r50.stove_.logs_.length,.f .f32 r50.stove_.box_,.f .f32 r50.stove_.damper_,.i .i8 r50.stove_.state_,.i .i64 r50.stove_.ash_,.f .f32 r50.stove_.dust_]),some (18,rows Yk r50.stove_.logs_)]) (n:=9) (n':=18) (es:=(rows Ub l46).set i_45.toNat [.i .i64 r50.room_,.i .i64 r50.flue_,.i .i64 r50.brain_,.ref 1 0 r50.stove_.logs_.length,.f .f32 r50.stove_.box_,.f .f32 r50.stove_.damper_,.i .i8 r50.stove_.state_,.i .i64 r50.stove_.ash_,.f .f32 r50.stove_.dust_]) (es':=rows Yk r50.stove_.logs_) (cs:=[.i .i64 r50.room_,.i .i64 r50.flue_,.i .i64 r50.brain_,.ref 1 0 r50.stove_.logs_.length,.f .f32 r50.stove_.box_,.f .f32 r50.stove_.damper_,.i .i8 r50.stove_.state_,.i .i64 r50.stove_.ash_,.f .f32 r50.stove_.dust_]) 0 i_45.toNat 3 1 r50.stove_.logs_.length [some (9,rows Ub (l46.set i_45.toNat r50)),none] rfl (by simp [f53a,f53b,f53c,f53d]) rfl rfl (by decide) (by simp) (by simp) (by simp)) (Za [0,3,4] hC (q:=(Zn (aI .i64 i_45 1,(l46.set i_45.toNat r50)) (Yr h1) (Ze 1)))) (h:=by simp -implicitDefEqProofs [f49a,f49b,f49c,f49d,c51,f53a,f53b,f53c,f53d])
 rintro l28 h
 replace h : (g25_j1 l28).bind _ = _:=h
 rw [g25_j1] at h
 refine VW.seq (Za [2] hC (q:=?_))
 exact VW.ret (Zb h (by simp [eB25]))
theorem tl25 {a : List T87} {r : List T87} (h : g25 a = some r) : F25 [.sl 9 (rows Wa a)] = some (.own 9 (rows Ub r)):=Zf inj25 (a:=a) h
def g26_j1 (l22 : List ByteArray) : Option (List ByteArray) :=
some l22
def g26_L1 (a : List ByteArray) : (Int × (List ByteArray))→Option ((Int × (List ByteArray)) ⊕ (List ByteArray))
| (i_35,l36) =>
if Zo i_35 (a.length : Int) = true then
(Wp a i_35).bind fun e38 =>
(Wp l36 i_35).bind fun e40 =>
some (.inl (aI .i64 i_35 1,(l36.set i_35.toNat e38)))
else
some (.inr l36)
def g26 (a : List ByteArray) : Option (List ByteArray) :=
(mk 16 (a.length : Int)).bind fun u1 =>
(loopO (g26_L1 a) (0,(List.replicate (a.length : Int).toNat ByteArray.empty))).bind fun w => g26_j1 w
@[simp] def eA26 (a : List ByteArray) : List V:=[.sl 1 (rows Yu a)]
def eB26 (r : List ByteArray) : V:=.own 1 (rows Yu r)
theorem inj26 (a a' : List ByteArray) (h : eA26 a = eA26 a') : a = a':=by simpa [eA26,Prod.ext_iff] using h
def F26 : List V→Option V:=tells (fun a => g26 a) eA26 eB26
theorem ok26 : Zz Tryz.prog 26 F26:=by
 refine Zg 22 Tryz.func26 ?_
 rintro a r h
 rw [g26] at h
 have hC : Qc.Ok Tryz.prog []:=trivial
 refine VW.seq (Za [0] hC (q:=VW.seq ?_))
 obtain ⟨u1,⟨f2a,f2b,f2c⟩,h⟩:=bindM h
 try simp only [Int.toNat_natCast,Int.reduceToNat,List.length_cons,List.length_nil,Nat.reduceAdd,Nat.zero_add] at f2a f2b f2c
 refine Zj [0,3] hC (q:=(VW.join (fun (v : List ByteArray) => (⟨(tm 22 [(3,.ref 0 0 v.length)]),[some (1,rows Yu v)],[]⟩ : VS)) (fun v => (g26_j1 (v)).bind some = some r) ?_ ?_))
 ·refine VW.seq (Za [0,3,4] hC (q:=VW.block ?_))
  obtain ⟨w_1,hw_1,h⟩:=Zc h
  refine VW.loopO (fun (x : Int × (List ByteArray)) => (⟨(tm 22 [(0,.sl 1 (rows Yu a)),(3,.ref 0 0 x.2.length),(4,.i .i64 x.1)]),[some (1,rows Yu x.2)],[]⟩ : VS)) hw_1 (Ze 1) ?_
  rintro n_1 ⟨i_35,l36⟩ h1
  rw [g26_L1] at h1
  refine VW.seq (VW.seq (Za [0,3,4,11] hC (q:=(Zk h1 (fun h1 => ?_) (fun h1 => ?_)))))
  ·refine VW.exit ?_
   have e_:=Yd h1
   subst w_1
   exact Zn l36 h (Ze 1)
  refine VW.skip (VW.seq (VW.block ?_))
  obtain ⟨e38,⟨f39a,f39b,f39c,f39d⟩,h1⟩:=Ys h1
  obtain ⟨e40,⟨f41a,f41b,f41c,f41d⟩,h1⟩:=Ys h1
  exact Zj [0,3,4] hC (q:=(Za [0,3,4] hC (q:=(Zn (aI .i64 i_35 1,(l36.set i_35.toNat e38)) (Yr h1) (Ze 1)))))
 rintro l22 h
 replace h : (g26_j1 l22).bind _ = _:=h
 rw [g26_j1] at h
 refine VW.seq (Za [2] hC (q:=?_))
 exact VW.ret (Zb h (by simp [eB26]))
theorem tl26 {a : List ByteArray} {r : List ByteArray} (h : g26 a = some r) : F26 [.sl 1 (rows Yu a)] = some (.own 1 (rows Yu r)):=Zf inj26 (a:=a) h
def g66 (a : T51) : Option (T51) :=
some a
@[simp] def eA66 (a : T51) : List V:=[.agg (Up a)]
def eB66 (r : T51) : V:=.agg [.f .f32 r.outside_,.f .f32 r.sun_,.f .f32 r.wind_]
theorem inj66 (a a' : T51) (h : eA66 a = eA66 a') : a = a':=by simpa [eA66,Prod.ext_iff] using h
def F66 : List V→Option V:=tells (fun a => g66 a) eA66 eB66
theorem ok66 : Zz Tryz.prog 66 F66:=by
 refine Zg 14 Tryz.func66 ?_
 rintro a r h
 rw [g66] at h
 have hC : Qc.Ok Tryz.prog []:=trivial
 refine VW.seq (Za [1,2] hC (h:=by first | (simp -implicitDefEqProofs; done) | simp -implicitDefEqProofs [Up]; exact .rfl) (q:=(VW.seq (Za [1,2,3] hC (h:=by first | (simp -implicitDefEqProofs; done) | simp -implicitDefEqProofs [Up]; exact .rfl) (q:=(VW.seq (Za [1,2,3] hC (h:=by first | (simp -implicitDefEqProofs; done) | simp -implicitDefEqProofs [Up]; exact .rfl) (q:=(VW.seq (Za [1,2,3] hC (h:=by first | (simp -implicitDefEqProofs; done) | simp -implicitDefEqProofs [Up]; exact .rfl) (q:=(VW.seq (Za [2,3] hC (h:=by first | (simp -implicitDefEqProofs; done) | simp -implicitDefEqProofs [Up]; exact .rfl) (q:=(VW.seq (Za [2] hC (h:=by first | (simp -implicitDefEqProofs; done) | simp -implicitDefEqProofs [Up]; exact .rfl) (q:=?_)))))))))))))))))
 obtain rfl:=Yz h
 refine VW.ret (VRet.fin ?_)
 first | (simp [eB66]; done) | simp [eB66,Up]
theorem tl66 {a : T51} {r : T51} (h : g66 a = some r) : F66 [.agg [.f .f32 a.outside_,.f .f32 a.sun_,.f .f32 a.wind_]] = some (.agg [.f .f32 r.outside_,.f .f32 r.sun_,.f .f32 r.wind_]):=Zf inj66 (a:=a) h
def g27_j1 (l28 : List T51) : Option (List T51) :=
some l28
def g27_L1 (a : List T51) : (Int × (List T51))→Option ((Int × (List T51)) ⊕ (List T51))
| (i_45,l46) =>
if Zo i_45 (a.length : Int) = true then
(Wp a i_45).bind fun e48 =>
(g66 e48).bind fun r50 =>
(Wp l46 i_45).bind fun e52 =>
some (.inl (aI .i64 i_45 1,(l46.set i_45.toNat r50)))
else
some (.inr l46)
def g27 (a : List T51) : Option (List T51) :=
(mk 12 (a.length : Int)).bind fun u1 =>
(loopO (g27_L1 a) (0,(List.replicate (a.length : Int).toNat (⟨(some 0),(some 0),(some 0)⟩ : T51)))).bind fun w => g27_j1 w
@[simp] def eA27 (a : List T51) : List V:=[.sl 3 (rows Wq a)]
def eB27 (r : List T51) : V:=.own 3 (rows Wq r)
theorem inj27 (a a' : List T51) (h : eA27 a = eA27 a') : a = a':=by simpa [eA27,Prod.ext_iff] using h
def F27 : List V→Option V:=tells (fun a => g27 a) eA27 eB27
theorem ok27 : Zz Tryz.prog 27 F27:=by
 refine Zg 23 Tryz.func27 ?_
 rintro a r h
 rw [g27] at h
 have hC : Qc.Ok Tryz.prog [(66,F66)]:=⟨.inl ok66,trivial⟩
 refine VW.seq (Za [0] hC (q:=VW.seq ?_))
 obtain ⟨u1,⟨f2a,f2b,f2c⟩,h⟩:=bindM h
 try simp only [Int.toNat_natCast,Int.reduceToNat,List.length_cons,List.length_nil,Nat.reduceAdd,Nat.zero_add] at f2a f2b f2c
 refine Zj [0,3] hC (q:=(VW.join (fun (v : List T51) => (⟨(tm 23 [(3,.ref 0 0 v.length)]),[some (3,rows Wq v)],[]⟩ : VS)) (fun v => (g27_j1 (v)).bind some = some r) ?_ ?_))
 ·refine VW.seq (Za [0,3,4] hC (q:=VW.block ?_))
  obtain ⟨w_1,hw_1,h⟩:=Zc h
  refine VW.loopO (fun (x : Int × (List T51)) => (⟨(tm 23 [(0,.sl 3 (rows Wq a)),(3,.ref 0 0 x.2.length),(4,.i .i64 x.1)]),[some (3,rows Wq x.2)],[]⟩ : VS)) hw_1 (Ze 1) ?_
  rintro n_1 ⟨i_45,l46⟩ h1
  rw [g27_L1] at h1
  refine VW.seq (VW.seq (Za [0,3,4,11] hC (q:=(Zk h1 (fun h1 => ?_) (fun h1 => ?_)))))
  ·refine VW.exit ?_
   have e_:=Yd h1
   subst w_1
   exact Zn l46 h (Ze 1)
  refine VW.skip (VW.seq (VW.block ?_))
  obtain ⟨e48,⟨f49a,f49b,f49c,f49d⟩,h1⟩:=Ys h1
  obtain ⟨r50,q51,h1⟩:=Zc h1
  have c51:=tl66 q51
  obtain ⟨e52,⟨f53a,f53b,f53c,f53d⟩,h1⟩:=Ys h1
  exact Zj [0,3,4] hC (q:=(Za [0,3,4] hC (q:=(Zn (aI .i64 i_45 1,(l46.set i_45.toNat r50)) (Yr h1) (Ze 1)))))
 rintro l28 h
 replace h : (g27_j1 l28).bind _ = _:=h
 rw [g27_j1] at h
 refine VW.seq (Za [2] hC (q:=?_))
 exact VW.ret (Zb h (by simp [eB27]))
theorem tl27 {a : List T51} {r : List T51} (h : g27 a = some r) : F27 [.sl 3 (rows Wq a)] = some (.own 3 (rows Wq r)):=Zf inj27 (a:=a) h
def g28 (a : T32) : Option (T32) :=
some a
@[simp] def eA28 (a : T32) : List V:=[.agg (Xk a)]
def eB28 (r : T32) : V:=.agg [.f .f32 r.burnt_,.f .f32 r.steam_,.f .f32 r.up_,.f .f32 r.lost_,.i .i64 r.smoky_]
theorem inj28 (a a' : T32) (h : eA28 a = eA28 a') : a = a':=by simpa [eA28,Prod.ext_iff] using h
def F28 : List V→Option V:=tells (fun a => g28 a) eA28 eB28
theorem ok28 : Zz Tryz.prog 28 F28:=by
 refine Zg 20 Tryz.func28 ?_
 rintro a r h
 rw [g28] at h
 have hC : Qc.Ok Tryz.prog []:=trivial
 refine VW.seq (Za [1,2] hC (h:=by first | (simp -implicitDefEqProofs; done) | simp -implicitDefEqProofs [Xk]; exact .rfl) (q:=(VW.seq (Za [1,2,3] hC (h:=by first | (simp -implicitDefEqProofs; done) | simp -implicitDefEqProofs [Xk]; exact .rfl) (q:=(VW.seq (Za [1,2,3] hC (h:=by first | (simp -implicitDefEqProofs; done) | simp -implicitDefEqProofs [Xk]; exact .rfl) (q:=(VW.seq (Za [1,2,3] hC (h:=by first | (simp -implicitDefEqProofs; done) | simp -implicitDefEqProofs [Xk]; exact .rfl) (q:=(VW.seq (Za [1,2,3] hC (h:=by first | (simp -implicitDefEqProofs; done) | simp -implicitDefEqProofs [Xk]; exact .rfl) (q:=(VW.seq (Za [1,2,3] hC (h:=by first | (simp -implicitDefEqProofs; done) | simp -implicitDefEqProofs [Xk]; exact .rfl) (q:=(VW.seq (Za [2,3] hC (h:=by first | (simp -implicitDefEqProofs; done) | simp -implicitDefEqProofs [Xk]; exact .rfl) (q:=(VW.seq (Za [2] hC (h:=by first | (simp -implicitDefEqProofs; done) | simp -implicitDefEqProofs [Xk]; exact .rfl) (q:=?_)))))))))))))))))))))))
 obtain rfl:=Yz h
 refine VW.ret (VRet.fin ?_)
 first | (simp [eB28]; done) | simp [eB28,Xk]
theorem tl28 {a : T32} {r : T32} (h : g28 a = some r) : F28 [.agg [.f .f32 a.burnt_,.f .f32 a.steam_,.f .f32 a.up_,.f .f32 a.lost_,.i .i64 a.smoky_]] = some (.agg [.f .f32 r.burnt_,.f .f32 r.steam_,.f .f32 r.up_,.f .f32 r.lost_,.i .i64 r.smoky_]):=Zf inj28 (a:=a) h
end
end Go.Proofs.YtloepppmjppddaaGreatDoor
