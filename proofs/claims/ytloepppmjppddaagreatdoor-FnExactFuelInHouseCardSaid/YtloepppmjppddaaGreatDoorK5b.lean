/- Contracts of the functions that the law reaches: what each tells, as a function in Lean. -/
import Derived.Test.YtloepppmjppddaaGreatDoorK5a
import Derived.KernelRfl
namespace Go.Proofs.YtloepppmjppddaaGreatDoor
open Go.RowKit Go.VL
set_option linter.unusedSimpArgs false
set_option linter.unusedVariables false
set_option maxHeartbeats 40000000
set_option maxRecDepth 100000
noncomputable section
def g8 (a : T34) : Option (T34) :=
(g23 a.flat_).bind fun r1 =>
(g24 a.chimney_).bind fun r3 =>
(g25 a.hearths_).bind fun r5 =>
(g26 a.sources_).bind fun r7 =>
(g27 a.hours_).bind fun r9 =>
(g28 a.sums_).bind fun r11 =>
some (⟨r1,r3,r5,r7,r9,a.tick_,r11⟩ : T34)
@[simp] def eA8 (a : T34) : List V:=[.agg (Yj a)]
def eB8 (r : T34) : V:=.agg [.own 1 (rows Zt r.flat_.heat_),.own 1 (rows Zt r.flat_.store_),.own 8 (rows Yv r.flat_.walls_),.own 4 (rows Yw r.flat_.panes_),.own 5 (rows Xw r.chimney_),.own 9 (rows Ub r.hearths_),.own 1 (rows Yu r.sources_),.own 3 (rows Wq r.hours_),.i .i64 r.tick_,.f .f32 r.sums_.burnt_,.f .f32 r.sums_.steam_,.f .f32 r.sums_.up_,.f .f32 r.sums_.lost_,.i .i64 r.sums_.smoky_]
theorem inj8 (a a' : T34) (h : eA8 a = eA8 a') : a = a':=by simpa [eA8,Prod.ext_iff] using h
def F8 : List V→Option V:=tells (fun a => g8 a) eA8 eB8
theorem ok8 : Zz Tryz.prog 8 F8:=by
 refine Zg 32 Tryz.func8 ?_
 rintro a r h
 rw [g8] at h
 have hC : Qc.Ok Tryz.prog [(23,F23),(24,F24),(25,F25),(26,F26),(27,F27),(28,F28)]:=⟨.inl ok23,.inl ok24,.inl ok25,.inl ok26,.inl ok27,.inl ok28,trivial⟩
 refine VW.seq (Za [1,2] hC (q:=(VW.seq (Za [1,2,3] hC (q:=VW.seq ?_)))))
 obtain ⟨r1,q2,h⟩:=Zc h
 have c2:=tl23 q2
 refine Zj [1,2,3] hC (q:=VW.seq ?_)
 obtain ⟨r3,q4,h⟩:=Zc h
 have c4:=tl24 q4
 refine Zj [1,2,3] hC (q:=VW.seq ?_)
 obtain ⟨r5,q6,h⟩:=Zc h
 have c6:=tl25 q6
 refine Zj [1,2,3] hC (q:=VW.seq ?_)
 obtain ⟨r7,q8,h⟩:=Zc h
 have c8:=tl26 q8
 refine Zj [1,2,3] hC (q:=VW.seq ?_)
 obtain ⟨r9,q10,h⟩:=Zc h
 have c10:=tl27 q10
 refine Zj [1,2,3] hC (q:=(VW.seq (Za [1,2,3] hC (q:=VW.seq ?_))))
 obtain ⟨r11,q12,h⟩:=Zc h
 have c12:=tl28 q12
 refine Zj [2,3] hC (q:=(VW.seq (Za [2] hC (q:=?_))))
 exact VW.ret (Zb h (by simp [eB8]))
def g118 (f : F32) : Option (Bool) :=
some (neF .f64 f f)
@[simp] def eA118 (a : F32) : List V:=[.f .f64 a]
def eB118 (r : Bool) : V:=.b r
theorem inj118 (a a' : F32) (h : eA118 a = eA118 a') : a = a':=by simpa [eA118,Prod.ext_iff] using h
def F118 : List V→Option V:=tells (fun a => g118 a) eA118 eB118
theorem ok118 : Zz Tryz.prog 118 F118:=by
 refine Zg 6 Tryz.func118 ?_
 rintro f r h
 rw [g118] at h
 have hC : Qc.Ok Tryz.prog []:=trivial
 refine VW.seq (Za [0] hC (q:=(VW.seq (Za [2] hC (q:=?_)))))
 exact VW.ret (Zb h (by simp [eB118]))
theorem tl118 {f : F32} {r : Bool} (h : g118 f = some r) : F118 [.f .f64 f] = some (.b r):=Zf inj118 (a:=f) h
def g139 (x_ : F32) : Option (F32) :=
(f64bits x_).bind fun z1 =>
some (f64of (andnI .u64 z1 9223372036854775808))
@[simp] def eA139 (a : F32) : List V:=[.f .f64 a]
def eB139 (r : F32) : V:=.f .f64 r
theorem inj139 (a a' : F32) (h : eA139 a = eA139 a') : a = a':=by simpa [eA139,Prod.ext_iff] using h
def F139 : List V→Option V:=tells (fun a => g139 a) eA139 eB139
theorem ok139 : Zz Tryz.prog 139 F139:=by
 refine Zg 7 Tryz.func139 ?_
 rintro x_ r h
 rw [g139] at h
 have hC : Qc.Ok Tryz.prog [(154,FXof64),(155,FXbits64)]:=⟨.inr okx154,.inr okx155,trivial⟩
 refine VW.seq (Zj [0] hC (q:=VW.seq ?_))
 obtain ⟨z1,q2,h⟩:=Zc h
 have c2:=f64bits_F q2
 refine Zj [2] hC (q:=?_)
 exact VW.ret (Zb h (by simp [eB139]))
theorem tl139 {x_ : F32} {r : F32} (h : g139 x_ = some r) : F139 [.f .f64 x_] = some (.f .f64 r):=Zf inj139 (a:=x_) h
def g119 (f : F32) (sign : Int) : Option (Bool) :=
if Yx sign 0 = true then
(g139 f).bind fun r2 =>
some (gtF .f64 r2 (some 9218868437227405311))
else
if Zo sign 0 = true then
some (gtF .f64 (negF .f64 f) (some 9218868437227405311))
else
some (gtF .f64 f (some 9218868437227405311))
@[simp] def eA119 (a : F32 × Int) : List V:=[.f .f64 a.1,.i .i64 a.2]
def eB119 (r : Bool) : V:=.b r
theorem inj119 (a a' : F32 × Int) (h : eA119 a = eA119 a') : a = a':=by simpa [eA119,Prod.ext_iff] using h
def F119 : List V→Option V:=tells (fun a => g119 a.1 a.2) eA119 eB119
theorem ok119 : Zz Tryz.prog 119 F119:=by
 refine Zg 15 Tryz.func119 ?_
 rintro ⟨f,sign⟩ r h
 replace h : (g119 f sign).bind some = some r:=h
 rw [g119] at h
 have hC : Qc.Ok Tryz.prog [(139,F139)]:=⟨.inl ok139,trivial⟩
 refine VW.seq (Za [0,1] hC (q:=(VW.seq (VW.seq (Za [0,1,6] hC (q:=(Zd h (fun h => ?_) (fun h => ?_))))))))
 ·obtain ⟨r2,q3,h⟩:=Zc h
  have c3:=tl139 q3
  refine Zj [0] hC (q:=(VW.seq (Za [4] hC (q:=?_))))
  exact VW.ret (Zb h (by simp [eB119]))
 refine VW.seq (Za [0,10] hC (q:=(Zk h (fun h => ?_) (fun h => ?_))))
 ·refine VW.skip (VW.seq (Za [4] hC (q:=?_)))
  exact VW.ret (Zb h (by simp [eB119]))
 refine Za [0] hC (q:=(VW.seq (Za [4] hC (q:=?_))))
 exact VW.ret (Zb h (by simp [eB119]))
theorem tl119 {f : F32} {sign : Int} {r : Bool} (h : g119 f sign = some r) : F119 [.f .f64 f,.i .i64 sign] = some (.b r):=Zf inj119 (a:=(f,sign)) h
def g84_j1 : Option (Bool) :=
some true
def g84_L1 (list : List F32) : (Int)→Option ((Int) ⊕ ((Unit) ⊕ (Bool)))
| x_59 =>
if Zo x_59 (list.length : Int) = true then
(Wp list x_59).bind fun e61 =>
(g118 (Xm e61)).bind fun r63 =>
(if r63 = true then some true else (g119 (Xm e61) 0).bind fun r65 => some r65).bind fun w67 =>
if w67 = true then
some (.inr (.inr false))
else
some (.inl (aI .i64 x_59 1))
else
some (.inr (.inl ()))
def g84 (list : List F32) : Option (Bool) :=
(loopO (g84_L1 list) 0).bind fun w => match w with
| .inl y => g84_j1
| .inr r => some r
@[simp] def eA84 (a : List F32) : List V:=[.sl 1 (rows Zt a)]
def eB84 (r : Bool) : V:=.b r
theorem inj84 (a a' : List F32) (h : eA84 a = eA84 a') : a = a':=by simpa [eA84,Prod.ext_iff] using h
def F84 : List V→Option V:=tells (fun a => g84 a) eA84 eB84
theorem ok84 : Zz Tryz.prog 84 F84:=by
 refine Zg 20 Tryz.func84 ?_
 rintro list r h
 rw [g84] at h
 have hC : Qc.Ok Tryz.prog [(118,F118),(119,F119)]:=⟨.inl ok118,.inl ok119,trivial⟩
 refine VW.seq (Za [0] hC (q:=(VW.join (fun (v : Unit) => (⟨(tm 20 []),[],[]⟩ : VS)) (fun v => (g84_j1).bind some = some r) ?_ ?_)))
 ·refine VW.seq (Za [5,6,7] hC (q:=VW.block ?_))
  obtain ⟨w_1,hw_1,h⟩:=Zc h
  refine VW.loopO (fun (x : Int) => (⟨(tm 20 [(5,.sl 1 (rows Zt list)),(6,.i .i64 (list.length : Int)),(7,.i .i64 x)]),[],[]⟩ : VS)) hw_1 (Ze 0) ?_
  rintro n_1 x_59 h1
  rw [g84_L1] at h1
  refine VW.seq (Za [5,6,7,8] hC (q:=(VW.seq (Zk h1 (fun h1 => ?_) (fun h1 => ?_)))))
  ·refine VW.exit ?_
   have e_:=Yd h1
   subst w_1
   exact Zn () h (Ze 0)
  refine VW.skip (VW.seq (VW.block (VW.seq ?_)))
  obtain ⟨e61,⟨f62a,f62b,f62c,f62d⟩,h1⟩:=Ys h1
  refine Zj [4,5,6,7] hC (q:=VW.seq ?_)
  obtain ⟨r63,q64,h1⟩:=Zc h1
  have c64:=tl118 q64
  obtain ⟨w67,q69,h1⟩:=Zc h1
  refine Yg (tm 20 [(5,.sl 1 (rows Zt list)),(6,.i .i64 (list.length : Int)),(7,.i .i64 x_59),(18,.b w67)]) [] [] hC (by kernel_rfl) (by
    obtain ⟨q70,q69⟩ | ⟨q70,rfl⟩:=Uh q69
    ·obtain ⟨r65,q66,q69⟩:=Yb q69
     have c66:=tl119 q66
     obtain rfl:=Option.some.inj q69
     simp -implicitDefEqProofs [c64,q70,c66]
    simp -implicitDefEqProofs [c64,q70]) ?_
  refine Zd h1 (fun h1 => ?_) (fun h1 => ?_)
  ·refine VW.seq (Za [2] hC (q:=?_))
   have e_:=Yd h1
   subst w_1
   exact VW.ret (Zb h (by simp [eB84]))
  exact VW.skip (Za [5,6,7] hC (q:=(Zn (aI .i64 x_59 1) (Yr h1) (Ze 0))))
 rintro _ h
 replace h : (g84_j1).bind _ = _:=h
 rw [g84_j1] at h
 refine VW.seq (Za [2] hC (q:=?_))
 exact VW.ret (Zb h (by simp [eB84]))
def g70 (a : F32) : Option (Bool) :=
(g84 [a]).bind fun r1 =>
(if (r1 && Ka .f32 a (some 0)) = true then (f32bits a).bind fun z3 => (shrI .u32 z3 31).bind fun d5 => some (Yx d5 0) else some false).bind fun w7 =>
some w7
@[simp] def eA70 (a : F32) : List V:=[.f .f32 a]
def eB70 (r : Bool) : V:=.b r
theorem inj70 (a a' : F32) (h : eA70 a = eA70 a') : a = a':=by simpa [eA70,Prod.ext_iff] using h
def F70 : List V→Option V:=tells (fun a => g70 a) eA70 eB70
theorem ok70 : Zz Tryz.prog 70 F70:=by
 refine Zg 16 Tryz.func70 ?_
 rintro a r h
 rw [g70] at h
 have hC : Qc.Ok Tryz.prog [(84,F84),(108,Gt)]:=⟨.inl ok84,.inr okx108,trivial⟩
 refine VW.seq (Za [0] hC (q:=VW.seq ?_))
 obtain ⟨r1,q2,h⟩:=Zc h
 have c2 : F84 [.sl 1 [[.f .f32 a]]] = some (.b r1):=Zf inj84 (a:=[a]) q2
 obtain ⟨w7,q8,h⟩:=Zc h
 refine Yg (tm 16 [(2,.b w7)]) [some (1,rows Zt [a])] [] hC (by kernel_rfl) (by
   obtain ⟨q9,q8⟩ | ⟨q9,rfl⟩:=Ux q8
   ·obtain ⟨z3,q4,q8⟩:=Yb q8
    have c4:=f32bits_F q4
    obtain ⟨d5,q6,q8⟩:=Yb q8
    obtain rfl:=Option.some.inj q8
    simp -implicitDefEqProofs [c2,q9,c4,q6]
   simp -implicitDefEqProofs [c2,q9]) ?_
 exact VW.ret (Zb h (by simp [eB70]))
theorem tl70 {a : F32} {r : Bool} (h : g70 a = some r) : F70 [.f .f32 a] = some (.b r):=Zf inj70 (a:=a) h
def g32 (a : F32) (most : F32) : Option (Bool) :=
(g70 a).bind fun r1 =>
some (r1 && Qa .f32 a most)
@[simp] def eA32 (a : F32 × F32) : List V:=[.f .f32 a.1,.f .f32 a.2]
def eB32 (r : Bool) : V:=.b r
theorem inj32 (a a' : F32 × F32) (h : eA32 a = eA32 a') : a = a':=by simpa [eA32,Prod.ext_iff] using h
def F32c : List V→Option V:=tells (fun a => g32 a.1 a.2) eA32 eB32
theorem ok32 : Zz Tryz.prog 32 F32c:=by
 refine Zg 12 Tryz.func32 ?_
 rintro ⟨a,most⟩ r h
 replace h : (g32 a most).bind some = some r:=h
 rw [g32] at h
 have hC : Qc.Ok Tryz.prog [(70,F70)]:=⟨.inl ok70,trivial⟩
 refine VW.seq (Za [0,1] hC (q:=VW.seq ?_))
 obtain ⟨r1,q2,h⟩:=Zc h
 have c2:=tl70 q2
 refine Zj [4] hC (q:=?_)
 exact VW.ret (Zb h (by simp [eB32]))
theorem tl32 {a : F32} {most : F32} {r : Bool} (h : g32 a most = some r) : F32c [.f .f32 a,.f .f32 most] = some (.b r):=Zf inj32 (a:=(a,most)) h
def g33 (a : F32) (low : F32) (high : F32) : Option (Bool) :=
some (Ka .f32 a low && Qa .f32 a high)
@[simp] def eA33 (a : F32 × F32 × F32) : List V:=[.f .f32 a.1,.f .f32 a.2.1,.f .f32 a.2.2]
def eB33 (r : Bool) : V:=.b r
theorem inj33 (a a' : F32 × F32 × F32) (h : eA33 a = eA33 a') : a = a':=by simpa [eA33,Prod.ext_iff] using h
def F33 : List V→Option V:=tells (fun a => g33 a.1 a.2.1 a.2.2) eA33 eB33
theorem ok33 : Zz Tryz.prog 33 F33:=by
 refine Zg 15 Tryz.func33 ?_
 rintro ⟨a,low,high⟩ r h
 replace h : (g33 a low high).bind some = some r:=h
 rw [g33] at h
 have hC : Qc.Ok Tryz.prog []:=trivial
 refine VW.seq (Za [0,1,2] hC (q:=(VW.seq (Za [6] hC (q:=?_)))))
 exact VW.ret (Zb h (by simp [eB33]))
theorem tl33 {a : F32} {low : F32} {high : F32} {r : Bool} (h : g33 a low high = some r) : F33 [.f .f32 a,.f .f32 low,.f .f32 high] = some (.b r):=Zf inj33 (a:=(a,low,high)) h
def g67 (a : F32) : Option (Bool) :=
(g33 a (some 3262119936) (some 1128792064)).bind fun r1 =>
some r1
@[simp] def eA67 (a : F32) : List V:=[.f .f32 a]
def eB67 (r : Bool) : V:=.b r
theorem inj67 (a a' : F32) (h : eA67 a = eA67 a') : a = a':=by simpa [eA67,Prod.ext_iff] using h
def F67 : List V→Option V:=tells (fun a => g67 a) eA67 eB67
theorem ok67 : Zz Tryz.prog 67 F67:=by
 refine Zg 5 Tryz.func67 ?_
 rintro a r h
 rw [g67] at h
 have hC : Qc.Ok Tryz.prog [(33,F33)]:=⟨.inl ok33,trivial⟩
 refine VW.seq (Za [0] hC (q:=VW.seq ?_))
 obtain ⟨r1,q2,h⟩:=Zc h
 have c2:=tl33 q2
 refine Zj [2] hC (q:=?_)
 exact VW.ret (Zb h (by simp [eB67]))
theorem tl67 {a : F32} {r : Bool} (h : g67 a = some r) : F67 [.f .f32 a] = some (.b r):=Zf inj67 (a:=a) h
def g68 (a : F32) : Option (Bool) :=
(g70 a).bind fun r1 =>
(if r1 = true then (g33 a (some 1065353216) (some 1176256512)).bind fun r3 => some r3 else some false).bind fun w5 =>
some w5
@[simp] def eA68 (a : F32) : List V:=[.f .f32 a]
def eB68 (r : Bool) : V:=.b r
theorem inj68 (a a' : F32) (h : eA68 a = eA68 a') : a = a':=by simpa [eA68,Prod.ext_iff] using h
def F68 : List V→Option V:=tells (fun a => g68 a) eA68 eB68
theorem ok68 : Zz Tryz.prog 68 F68:=by
 refine Zg 9 Tryz.func68 ?_
 rintro a r h
 rw [g68] at h
 have hC : Qc.Ok Tryz.prog [(33,F33),(70,F70)]:=⟨.inl ok33,.inl ok70,trivial⟩
 refine VW.seq (Za [0] hC (q:=VW.seq ?_))
 obtain ⟨r1,q2,h⟩:=Zc h
 have c2:=tl70 q2
 obtain ⟨w5,q6,h⟩:=Zc h
 refine Yg (tm 9 [(2,.b w5)]) [] [] hC (by kernel_rfl) (by
   obtain ⟨q7,q6⟩ | ⟨q7,rfl⟩:=Ux q6
   ·obtain ⟨r3,q4,q6⟩:=Yb q6
    have c4:=tl33 q4
    obtain rfl:=Option.some.inj q6
    simp -implicitDefEqProofs [c2,q7,c4]
   simp -implicitDefEqProofs [c2,q7]) ?_
 exact VW.ret (Zb h (by simp [eB68]))
theorem tl68 {a : F32} {r : Bool} (h : g68 a = some r) : F68 [.f .f32 a] = some (.b r):=Zf inj68 (a:=a) h
def g69 (a : Int) (b : Int) (rooms : Int) : Option (Bool) :=
some ((((Xa 0 a && Zo a rooms) && Xa (-1) b) && Zo b rooms) && (!Yx a b))
@[simp] def eA69 (a : Int × Int × Int) : List V:=[.i .i64 a.1,.i .i64 a.2.1,.i .i64 a.2.2]
def eB69 (r : Bool) : V:=.b r
theorem inj69 (a a' : Int × Int × Int) (h : eA69 a = eA69 a') : a = a':=by simpa [eA69,Prod.ext_iff] using h
def F69 : List V→Option V:=tells (fun a => g69 a.1 a.2.1 a.2.2) eA69 eB69
theorem ok69 : Zz Tryz.prog 69 F69:=by
 refine Zg 30 Tryz.func69 ?_
 rintro ⟨a,b,rooms⟩ r h
 replace h : (g69 a b rooms).bind some = some r:=h
 rw [g69] at h
 have hC : Qc.Ok Tryz.prog []:=trivial
 refine VW.seq (Za [0,1,2] hC (q:=(VW.seq (Za [0,1,7] hC (q:=(VW.seq (Za [6] hC (q:=?_))))))))
 exact VW.ret (Zb h (by simp [eB69]))
theorem tl69 {a : Int} {b : Int} {rooms : Int} {r : Bool} (h : g69 a b rooms = some r) : F69 [.i .i64 a,.i .i64 b,.i .i64 rooms] = some (.b r):=Zf inj69 (a:=(a,b,rooms)) h
def g29_j3 : Option (Bool) :=
some true
def g29_L1 (f : T25) : (Int)→Option ((Int) ⊕ ((Unit) ⊕ (Bool)))
| x_346 =>
if Zo x_346 (f.panes_.length : Int) = true then
(Wp f.panes_ x_346).bind fun e348 =>
(g69 e348.a_ e348.b_ (f.heat_.length : Int)).bind fun r350 =>
(if (!r350) = true then some true else (g32 e348.lead_ (some 1120403456)).bind fun r352 => some (!r352)).bind fun w354 =>
(if w354 = true then some true else (g32 e348.sun_ (some 1092616192)).bind fun r355 => some (!r355)).bind fun w357 =>
if w357 = true then
some (.inr (.inr false))
else
some (.inl (aI .i64 x_346 1))
else
some (.inr (.inl ()))
def g29_j2 (f : T25) : Option (Bool) :=
(loopO (g29_L1 f) 0).bind fun w => match w with
| .inl y => g29_j3
| .inr r => some r
def g29_j4 (x_507 : Int) : Option ((Int) ⊕ ((Unit) ⊕ (Bool))) :=
some (.inl (aI .i64 x_507 1))
def g29_L2 (f : T25) : (Int)→Option ((Int) ⊕ ((Unit) ⊕ (Bool)))
| x_507 =>
if Zo x_507 (f.walls_.length : Int) = true then
(Wp f.walls_ x_507).bind fun e544 =>
(g69 e544.a_ e544.b_ (f.heat_.length : Int)).bind fun r546 =>
(if (!r546) = true then some true else (g70 e544.lead_).bind fun r548 => some (!r548)).bind fun w550 =>
(if w550 = true then some true else (g33 e544.lead_ (some 1015021568) (some 1120403456)).bind fun r551 => some (!r551)).bind fun w553 =>
(if w553 = true then some true else (g68 e544.store_).bind fun r554 => some (!r554)).bind fun w556 =>
if w556 = true then
some (.inr (.inr false))
else
(g67 e544.heat_.a0_).bind fun r558 =>
if (!r558) = true then
some (.inr (.inr false))
else
(g67 e544.heat_.a1_).bind fun r561 =>
if (!r561) = true then
some (.inr (.inr false))
else
(g67 e544.heat_.a2_).bind fun r564 =>
if (!r564) = true then
some (.inr (.inr false))
else
(g67 e544.heat_.a3_).bind fun r567 =>
if (!r567) = true then
some (.inr (.inr false))
else
g29_j4 x_507
else
some (.inr (.inl ()))
def g29_j1 (f : T25) : Option (Bool) :=
(loopO (g29_L2 f) 0).bind fun w => match w with
| .inl y => g29_j2 f
| .inr r => some r
def g29_L3 (f : T25) : (Int)→Option ((Int) ⊕ ((Unit) ⊕ (Bool)))
| x_606 =>
if Zo x_606 (f.heat_.length : Int) = true then
(Wp f.heat_ x_606).bind fun e608 =>
(g67 e608).bind fun r610 =>
(if (!r610) = true then some true else (Wp f.store_ x_606).bind fun e612 => (g68 e612).bind fun r614 => some (!r614)).bind fun w616 =>
if w616 = true then
some (.inr (.inr false))
else
some (.inl (aI .i64 x_606 1))
else
some (.inr (.inl ()))
def g29 (f : T25) : Option (Bool) :=
if ((((Zo (f.heat_.length : Int) 1 || Zo 5 (f.heat_.length : Int)) || (!Yx (f.store_.length : Int) (f.heat_.length : Int))) || Zo 10 (f.walls_.length : Int)) || Zo 8 (f.panes_.length : Int)) = true then
some false
else
(loopO (g29_L3 f) 0).bind fun w => match w with
| .inl y => g29_j1 f
| .inr r => some r
@[simp] def eA29 (a : T25) : List V:=[.agg (Wb a)]
def eB29 (r : Bool) : V:=.b r
theorem inj29 (a a' : T25) (h : eA29 a = eA29 a') : a = a':=by simpa [eA29,Prod.ext_iff] using h
def F29 : List V→Option V:=tells (fun a => g29 a) eA29 eB29
theorem ok29 : Zz Tryz.prog 29 F29:=by
 refine Zg 129 Tryz.func29 ?_
 rintro f r h
 rw [g29] at h
 have hC : Qc.Ok Tryz.prog [(32,F32c),(33,F33),(67,F67),(68,F68),(69,F69),(70,F70)]:=⟨.inl ok32,.inl ok33,.inl ok67,.inl ok68,.inl ok69,.inl ok70,trivial⟩
 refine VW.seq (Za [1] hC (q:=(VW.seq (Za [1,3] hC (q:=(VW.seq (VW.seq (VW.rA (tm 129 [(1,.ptr 0 0 0),(3,.i .i64 (f.heat_.length : Int)),(38,.b ((((Zo (f.heat_.length : Int) 1 || Zo 5 (f.heat_.length : Int)) || (!Yx (f.store_.length : Int) (f.heat_.length : Int))) || Zo 10 (f.walls_.length : Int)) || Zo 8 (f.panes_.length : Int)))]) [some (4,[(Wb f)])] [] hC (Zd h (fun h => ?_) (fun h => ?_)) (h:=by simp -implicitDefEqProofs [Wb])))))))))
 ·refine VW.seq (Za [2] hC (q:=?_))
  exact VW.ret (Zb h (by simp [eB29]))
 refine VW.skip (VW.join (fun (v : Unit) => (⟨(tm 129 [(1,.ptr 0 0 0),(3,.i .i64 (f.heat_.length : Int))]),[some (4,[(Wb f)])],[]⟩ : VS)) (fun v => (g29_j1 f).bind some = some r) ?_ ?_)
 ·refine VW.seq (Za [1,3,39,40] hC (q:=VW.block ?_))
  obtain ⟨w_3,hw_3,h⟩:=Zc h
  refine VW.loopO (fun (x : Int) => (⟨(tm 129 [(1,.ptr 0 0 0),(3,.i .i64 (f.heat_.length : Int)),(39,.i .i64 (f.heat_.length : Int)),(40,.i .i64 x)]),[some (4,[(Wb f)])],[]⟩ : VS)) hw_3 (Ze 1) ?_
  rintro n_3 x_606 h1
  rw [g29_L3] at h1
  refine VW.seq (Za [1,3,39,40,41] hC (q:=(VW.seq (Zk h1 (fun h1 => ?_) (fun h1 => ?_)))))
  ·refine VW.exit ?_
   have e_:=Yd h1
   subst w_3
   exact Zn () h (Ze 1)
  refine VW.skip (VW.seq (VW.block (VW.seq (Za [1,3,4,39,40] hC (q:=VW.seq ?_)))))
  obtain ⟨e608,⟨f609a,f609b,f609c,f609d⟩,h1⟩:=Ys h1
  obtain ⟨r610,q611,h1⟩:=Zc h1
  have c611:=tl67 q611
  obtain ⟨w616,q618,h1⟩:=Zc h1
  refine Yg (tm 129 [(1,.ptr 0 0 0),(3,.i .i64 (f.heat_.length : Int)),(39,.i .i64 (f.heat_.length : Int)),(40,.i .i64 x_606),(58,.b w616)]) [some (4,[(Wb f)])] [] hC (by kernel_rfl) (by
    obtain ⟨q619,q618⟩ | ⟨q619,rfl⟩:=Uh q618
    ·obtain ⟨e612,q613,q618⟩:=Yb q618
     obtain ⟨f613a,f613b,f613c,f613d⟩:=Kf q613
     obtain ⟨r614,q615,q618⟩:=Yb q618
     have c615:=tl68 q615
     obtain rfl:=Option.some.inj q618
     simp -implicitDefEqProofs [f609a,f609b,f609c,f609d,c611,q619,f613a,f613b,f613c,f613d,c615]
    simp -implicitDefEqProofs [f609a,f609b,f609c,f609d,c611,q619]) ?_
  refine Zd h1 (fun h1 => ?_) (fun h1 => ?_)
  ·refine VW.seq (Za [2] hC (q:=?_))
   have e_:=Yd h1
   subst w_3
   exact VW.ret (Zb h (by simp [eB29]))
  exact VW.skip (Za [1,3,39,40] hC (q:=(Zn (aI .i64 x_606 1) (Yr h1) (Ze 1))))
 rintro _ h
 replace h : (g29_j1 f).bind _ = _:=h
 rw [g29_j1] at h
 refine VW.join (fun (v : Unit) => (⟨(tm 129 [(1,.ptr 0 0 0),(3,.i .i64 (f.heat_.length : Int))]),[some (4,[(Wb f)])],[]⟩ : VS)) (fun v => (g29_j2 f).bind some = some r) ?_ ?_
 ·refine VW.seq (Za [1,3,61,62,63] hC (q:=VW.block ?_))
  obtain ⟨w_2,hw_2,h⟩:=Zc h
  refine VW.loopO (fun (x : Int) => (⟨(tm 129 [(1,.ptr 0 0 0),(3,.i .i64 (f.heat_.length : Int)),(61,.sl 8 (rows Yv f.walls_)),(62,.i .i64 (f.walls_.length : Int)),(63,.i .i64 x)]),[some (4,[(Wb f)])],[]⟩ : VS)) hw_2 (Ze 1) ?_
  rintro n_2 x_507 h1
  rw [g29_L2] at h1
  refine VW.seq (Za [1,3,61,62,63,64] hC (q:=(VW.seq (Zk h1 (fun h1 => ?_) (fun h1 => ?_)))))
  ·refine VW.exit ?_
   have e_:=Yd h1
   subst w_2
   exact Zn () h (Ze 1)
  refine VW.skip (VW.join (fun (v : Unit) => (⟨(tm 129 [(1,.ptr 0 0 0),(3,.i .i64 (f.heat_.length : Int)),(61,.sl 8 (rows Yv f.walls_)),(62,.i .i64 (f.walls_.length : Int)),(63,.i .i64 x_507)]),[some (4,[(Wb f)])],[]⟩ : VS)) (fun v => (g29_j4 x_507).bind (kN (g29_L2 f) n_2) = some w_2) ?_ ?_)
  ·refine VW.block (VW.seq ?_)
   obtain ⟨e544,⟨f545a,f545b,f545c,f545d⟩,h1⟩:=Ys h1
   refine Za [1,3,6,61,62,63] hC (h:=by simp -implicitDefEqProofs [f545a,f545b,f545c,f545d]; exact .rfl) (q:=(VW.seq (VW.seq ?_)))
   obtain ⟨r546,q547,h1⟩:=Zc h1
   have c547:=tl69 q547
   obtain ⟨w550,q570,h1⟩:=Zc h1
   obtain ⟨w553,q571,h1⟩:=Zc h1
   obtain ⟨w556,q572,h1⟩:=Zc h1
   refine Yg (tm 129 [(1,.ptr 0 0 0),(3,.i .i64 (f.heat_.length : Int)),(6,.ptr 1 0 0),(61,.sl 8 (rows Yv f.walls_)),(62,.i .i64 (f.walls_.length : Int)),(63,.i .i64 x_507),(91,.b w556)]) [some (4,[(Wb f)]),some (8,[[.i .i64 e544.a_,.i .i64 e544.b_,.f .f32 e544.lead_,.f .f32 e544.store_,.f .f32 e544.heat_.a0_,.f .f32 e544.heat_.a1_,.f .f32 e544.heat_.a2_,.f .f32 e544.heat_.a3_]])] [] hC (by kernel_rfl) (by
     obtain ⟨q573,q570⟩ | ⟨q573,rfl⟩:=Uh q570
     ·obtain ⟨r548,q549,q570⟩:=Yb q570
      have c549:=tl70 q549
      obtain rfl:=Option.some.inj q570
      obtain ⟨q574,q571⟩ | ⟨q574,rfl⟩:=Uh q571
      ·obtain ⟨r551,q552,q571⟩:=Yb q571
       have c552:=tl33 q552
       obtain rfl:=Option.some.inj q571
       obtain ⟨q575,q572⟩ | ⟨q575,rfl⟩:=Uh q572
       ·obtain ⟨r554,q555,q572⟩:=Yb q572
        have c555:=tl68 q555
        obtain rfl:=Option.some.inj q572
        simp -implicitDefEqProofs [c547,q573,c549,q574,c552,q575,c555,Wb]
       simp -implicitDefEqProofs [c547,q573,c549,q574,c552,q575,Wb]
      obtain ⟨q576,q572⟩ | ⟨q576,rfl⟩:=Uh q572
      ·exact absurd q576 (by simp)
      simp -implicitDefEqProofs [c547,q573,c549,q574,q576,Wb]
     obtain ⟨q577,q571⟩ | ⟨q577,rfl⟩:=Uh q571
     ·exact absurd q577 (by simp)
     obtain ⟨q578,q572⟩ | ⟨q578,rfl⟩:=Uh q572
     ·exact absurd q578 (by simp)
     simp -implicitDefEqProofs [c547,q573,q577,q578,Wb]) ?_
   refine Zd h1 (fun h1 => ?_) (fun h1 => ?_)
   ·refine VW.seq (Za [2] hC (q:=?_))
    have e_:=Yd h1
    subst w_2
    exact VW.ret (Zb h (by simp [eB29]))
   refine VW.skip (VW.seq (Za [1,3,61,62,63,93,94] hC (q:=(VW.block (VW.rounds 6 (VRounds.step (VW.seq (Za [1,3,61,62,63,93,94,95] hC (h:=by simp -implicitDefEqProofs [(by decide : Zo 0 4 = true)]; exact .rfl) (q:=(VW.seq (Ye (by simp) (VW.skip (VW.seq (VW.block (VW.seq (Za [1,3,8,61,62,63,93,94] hC (q:=VW.seq ?_)))))))))))))))))
   obtain ⟨r558,q559,h1⟩:=Zc h1
   have c559:=tl67 q559
   refine Za [1,3,61,62,63,93,94,99] hC (h:=by simp -implicitDefEqProofs [c559]; exact .rfl) (q:=(Zd h1 (fun h1 => ?_) (fun h1 => ?_)))
   ·refine VW.seq (Za [2] hC (q:=?_))
    have e_:=Yd h1
    subst w_2
    exact VW.ret (Zb h (by simp [eB29]))
   refine VW.skip (Za [1,3,61,62,63,93,94] hC (h:=by simp -implicitDefEqProofs [(by decide : aI .i64 0 1 = 1)]; exact .rfl) (q:=(VRounds.step (VW.seq (Za [1,3,61,62,63,93,94,95] hC (h:=by simp -implicitDefEqProofs [(by decide : Zo 1 4 = true)]; exact .rfl) (q:=(VW.seq (Ye (by simp) (VW.skip (VW.seq (VW.block (VW.seq (Za [1,3,8,61,62,63,93,94] hC (q:=VW.seq ?_))))))))))))))
   obtain ⟨r561,q562,h1⟩:=Zc h1
   have c562:=tl67 q562
   refine Za [1,3,61,62,63,93,94,99] hC (h:=by simp -implicitDefEqProofs [c562]; exact .rfl) (q:=(Zd h1 (fun h1 => ?_) (fun h1 => ?_)))
   ·refine VW.seq (Za [2] hC (q:=?_))
    have e_:=Yd h1
    subst w_2
    exact VW.ret (Zb h (by simp [eB29]))
   refine VW.skip (Za [1,3,61,62,63,93,94] hC (h:=by simp -implicitDefEqProofs [(by decide : aI .i64 1 1 = 2)]; exact .rfl) (q:=(VRounds.step (VW.seq (Za [1,3,61,62,63,93,94,95] hC (h:=by simp -implicitDefEqProofs [(by decide : Zo 2 4 = true)]; exact .rfl) (q:=(VW.seq (Ye (by simp) (VW.skip (VW.seq (VW.block (VW.seq (Za [1,3,8,61,62,63,93,94] hC (q:=VW.seq ?_))))))))))))))
   obtain ⟨r564,q565,h1⟩:=Zc h1
   have c565:=tl67 q565
   refine Za [1,3,61,62,63,93,94,99] hC (h:=by simp -implicitDefEqProofs [c565]; exact .rfl) (q:=(Zd h1 (fun h1 => ?_) (fun h1 => ?_)))
   ·refine VW.seq (Za [2] hC (q:=?_))
    have e_:=Yd h1
    subst w_2
    exact VW.ret (Zb h (by simp [eB29]))
   refine VW.skip (Za [1,3,61,62,63,93,94] hC (h:=by simp -implicitDefEqProofs [(by decide : aI .i64 2 1 = 3)]; exact .rfl) (q:=(VRounds.step (VW.seq (Za [1,3,61,62,63,93,94,95] hC (h:=by simp -implicitDefEqProofs [(by decide : Zo 3 4 = true)]; exact .rfl) (q:=(VW.seq (Ye (by simp) (VW.skip (VW.seq (VW.block (VW.seq (Za [1,3,8,61,62,63,93,94] hC (q:=VW.seq ?_))))))))))))))
   obtain ⟨r567,q568,h1⟩:=Zc h1
   have c568:=tl67 q568
   refine Za [1,3,61,62,63,93,94,99] hC (h:=by simp -implicitDefEqProofs [c568]; exact .rfl) (q:=(Zd h1 (fun h1 => ?_) (fun h1 => ?_)))
   ·refine VW.seq (Za [2] hC (q:=?_))
    have e_:=Yd h1
    subst w_2
    exact VW.ret (Zb h (by simp [eB29]))
   exact VW.skip (Za [1,3,61,62,63,93,94] hC (h:=by simp -implicitDefEqProofs [(by decide : aI .i64 3 1 = 4)]; exact .rfl) (q:=(VRounds.step (VW.seq (Za [1,3,61,62,63,93,94,95] hC (h:=by simp -implicitDefEqProofs [(by decide : Zo 4 4 = false)]; exact .rfl) (q:=(VW.seq (Qj (by simp) (VW.exit (Zn () h1 (Ze 1)))))))))))
  rintro _ h1
  replace h1 : (g29_j4 x_507).bind _ = _:=h1
  rw [g29_j4] at h1
  exact Za [1,3,61,62,63] hC (q:=(Zn (aI .i64 x_507 1) (Yr h1) (Ze 1)))
 rintro _ h
 replace h : (g29_j2 f).bind _ = _:=h
 rw [g29_j2] at h
 refine VW.join (fun (v : Unit) => (⟨(tm 129 []),[some (4,[(Wb f)])],[]⟩ : VS)) (fun v => (g29_j3).bind some = some r) ?_ ?_
 ·refine VW.seq (Za [3,103,104,105] hC (q:=VW.block ?_))
  obtain ⟨w_1,hw_1,h⟩:=Zc h
  refine VW.loopO (fun (x : Int) => (⟨(tm 129 [(3,.i .i64 (f.heat_.length : Int)),(103,.sl 4 (rows Yw f.panes_)),(104,.i .i64 (f.panes_.length : Int)),(105,.i .i64 x)]),[some (4,[(Wb f)])],[]⟩ : VS)) hw_1 (Ze 1) ?_
  rintro n_1 x_346 h1
  rw [g29_L1] at h1
  refine VW.seq (Za [3,103,104,105,106] hC (q:=(VW.seq (Zk h1 (fun h1 => ?_) (fun h1 => ?_)))))
  ·refine VW.exit ?_
   have e_:=Yd h1
   subst w_1
   exact Zn () h (Ze 1)
  refine VW.skip (VW.seq (VW.block (VW.seq ?_)))
  obtain ⟨e348,⟨f349a,f349b,f349c,f349d⟩,h1⟩:=Ys h1
  refine Za [3,10,103,104,105] hC (h:=by simp -implicitDefEqProofs [f349a,f349b,f349c,f349d]; exact .rfl) (q:=VW.seq ?_)
  obtain ⟨r350,q351,h1⟩:=Zc h1
  have c351:=tl69 q351
  obtain ⟨w354,q359,h1⟩:=Zc h1
  obtain ⟨w357,q360,h1⟩:=Zc h1
  refine Yg (tm 129 [(3,.i .i64 (f.heat_.length : Int)),(103,.sl 4 (rows Yw f.panes_)),(104,.i .i64 (f.panes_.length : Int)),(105,.i .i64 x_346),(127,.b w357)]) [some (4,[(Wb f)]),some (4,[[.i .i64 e348.a_,.i .i64 e348.b_,.f .f32 e348.lead_,.f .f32 e348.sun_]])] [] hC (by kernel_rfl) (by
    obtain ⟨q361,q359⟩ | ⟨q361,rfl⟩:=Uh q359
    ·obtain ⟨r352,q353,q359⟩:=Yb q359
     have c353:=tl32 q353
     obtain rfl:=Option.some.inj q359
     obtain ⟨q362,q360⟩ | ⟨q362,rfl⟩:=Uh q360
     ·obtain ⟨r355,q356,q360⟩:=Yb q360
      have c356:=tl32 q356
      obtain rfl:=Option.some.inj q360
      simp -implicitDefEqProofs [c351,q361,c353,q362,c356]
     simp -implicitDefEqProofs [c351,q361,c353,q362]
    obtain ⟨q363,q360⟩ | ⟨q363,rfl⟩:=Uh q360
    ·exact absurd q363 (by simp)
    simp -implicitDefEqProofs [c351,q361,q363]) ?_
  refine Zd h1 (fun h1 => ?_) (fun h1 => ?_)
  ·refine VW.seq (Za [2] hC (q:=?_))
   have e_:=Yd h1
   subst w_1
   exact VW.ret (Zb h (by simp [eB29]))
  exact VW.skip (Za [3,103,104,105] hC (q:=(Zn (aI .i64 x_346 1) (Yr h1) (Ze 1))))
 rintro _ h
 replace h : (g29_j3).bind _ = _:=h
 rw [g29_j3] at h
 refine VW.seq (Za [2] hC (q:=?_))
 exact VW.ret (Zb h (by simp [eB29]))
theorem tl29 {f : T25} {r : Bool} (h : g29 f = some r) : F29 [.agg [.sl 1 (rows Zt f.heat_),.sl 1 (rows Zt f.store_),.sl 8 (rows Yv f.walls_),.sl 4 (rows Yw f.panes_)]] = some (.b r):=Zf inj29 (a:=f) h
def g82 (a : F32) : Option (Bool) :=
(g70 a).bind fun r1 =>
some (r1 && Qa .f32 a (some 1065353216))
@[simp] def eA82 (a : F32) : List V:=[.f .f32 a]
def eB82 (r : Bool) : V:=.b r
theorem inj82 (a a' : F32) (h : eA82 a = eA82 a') : a = a':=by simpa [eA82,Prod.ext_iff] using h
def F82 : List V→Option V:=tells (fun a => g82 a) eA82 eB82
theorem ok82 : Zz Tryz.prog 82 F82:=by
 refine Zg 9 Tryz.func82 ?_
 rintro a r h
 rw [g82] at h
 have hC : Qc.Ok Tryz.prog [(70,F70)]:=⟨.inl ok70,trivial⟩
 refine VW.seq (Za [0] hC (q:=VW.seq ?_))
 obtain ⟨r1,q2,h⟩:=Zc h
 have c2:=tl70 q2
 refine Zj [2] hC (q:=?_)
 exact VW.ret (Zb h (by simp [eB82]))
theorem tl82 {a : F32} {r : Bool} (h : g82 a = some r) : F82 [.f .f32 a] = some (.b r):=Zf inj82 (a:=a) h
def g71 (f : T32) : Option (Bool) :=
(g70 f.burnt_).bind fun r1 =>
(if r1 = true then (g33 f.burnt_ (some 1031798784) (some 1106247680)).bind fun r3 => some r3 else some false).bind fun w5 =>
(if w5 = true then (g70 f.steam_).bind fun r6 => some r6 else some false).bind fun w8 =>
(if w8 = true then (g33 f.steam_ (some 1015021568) (some 1082130432)).bind fun r9 => some r9 else some false).bind fun w11 =>
(if w11 = true then (g33 f.up_ (some 3262119936) (some 1153138688)).bind fun r12 => some r12 else some false).bind fun w14 =>
(if w14 = true then (g82 f.lost_).bind fun r15 => some r15 else some false).bind fun w17 =>
some w17
@[simp] def eA71 (a : T32) : List V:=[.agg (Xk a)]
def eB71 (r : Bool) : V:=.b r
theorem inj71 (a a' : T32) (h : eA71 a = eA71 a') : a = a':=by simpa [eA71,Prod.ext_iff] using h
def F71 : List V→Option V:=tells (fun a => g71 a) eA71 eB71
theorem ok71 : Zz Tryz.prog 71 F71:=by
 refine Zg 31 Tryz.func71 ?_
 rintro f r h
 rw [g71] at h
 have hC : Qc.Ok Tryz.prog [(33,F33),(70,F70),(82,F82)]:=⟨.inl ok33,.inl ok70,.inl ok82,trivial⟩
 refine VW.seq (Za [1] hC (q:=VW.seq ?_))
 obtain ⟨r1,q2,h⟩:=Zc h
 have c2:=tl70 q2
 obtain ⟨w5,q18,h⟩:=Zc h
 obtain ⟨w8,q19,h⟩:=Zc h
 obtain ⟨w11,q20,h⟩:=Zc h
 obtain ⟨w14,q21,h⟩:=Zc h
 obtain ⟨w17,q22,h⟩:=Zc h
 refine Yg (tm 31 [(2,.b w17)]) [some (5,[(Xk f)])] [] hC (by kernel_rfl) (by
   obtain ⟨q23,q18⟩ | ⟨q23,rfl⟩:=Ux q18
   ·obtain ⟨r3,q4,q18⟩:=Yb q18
    have c4:=tl33 q4
    obtain rfl:=Option.some.inj q18
    obtain ⟨q24,q19⟩ | ⟨q24,rfl⟩:=Ux q19
    ·obtain ⟨r6,q7,q19⟩:=Yb q19
     have c7:=tl70 q7
     obtain rfl:=Option.some.inj q19
     obtain ⟨q25,q20⟩ | ⟨q25,rfl⟩:=Ux q20
     ·obtain ⟨r9,q10,q20⟩:=Yb q20
      have c10:=tl33 q10
      obtain rfl:=Option.some.inj q20
      obtain ⟨q26,q21⟩ | ⟨q26,rfl⟩:=Ux q21
      ·obtain ⟨r12,q13,q21⟩:=Yb q21
       have c13:=tl33 q13
       obtain rfl:=Option.some.inj q21
       obtain ⟨q27,q22⟩ | ⟨q27,rfl⟩:=Ux q22
       ·obtain ⟨r15,q16,q22⟩:=Yb q22
        have c16:=tl82 q16
        obtain rfl:=Option.some.inj q22
        simp -implicitDefEqProofs [c2,q23,c4,q24,c7,q25,c10,q26,c13,q27,c16,Xk]
       simp -implicitDefEqProofs [c2,q23,c4,q24,c7,q25,c10,q26,c13,q27,Xk]
      obtain ⟨q28,q22⟩ | ⟨q28,rfl⟩:=Ux q22
      ·exact absurd q28 (by simp)
      simp -implicitDefEqProofs [c2,q23,c4,q24,c7,q25,c10,q26,q28,Xk]
     obtain ⟨q29,q21⟩ | ⟨q29,rfl⟩:=Ux q21
     ·exact absurd q29 (by simp)
     obtain ⟨q30,q22⟩ | ⟨q30,rfl⟩:=Ux q22
     ·exact absurd q30 (by simp)
     simp -implicitDefEqProofs [c2,q23,c4,q24,c7,q25,q29,q30,Xk]
    obtain ⟨q31,q20⟩ | ⟨q31,rfl⟩:=Ux q20
    ·exact absurd q31 (by simp)
    obtain ⟨q32,q21⟩ | ⟨q32,rfl⟩:=Ux q21
    ·exact absurd q32 (by simp)
    obtain ⟨q33,q22⟩ | ⟨q33,rfl⟩:=Ux q22
    ·exact absurd q33 (by simp)
    simp -implicitDefEqProofs [c2,q23,c4,q24,q31,q32,q33,Xk]
   obtain ⟨q34,q19⟩ | ⟨q34,rfl⟩:=Ux q19
   ·exact absurd q34 (by simp)
   obtain ⟨q35,q20⟩ | ⟨q35,rfl⟩:=Ux q20
   ·exact absurd q35 (by simp)
   obtain ⟨q36,q21⟩ | ⟨q36,rfl⟩:=Ux q21
   ·exact absurd q36 (by simp)
   obtain ⟨q37,q22⟩ | ⟨q37,rfl⟩:=Ux q22
   ·exact absurd q37 (by simp)
   simp -implicitDefEqProofs [c2,q23,q34,q35,q36,q37,Xk]) ?_
 exact VW.ret (Zb h (by simp [eB71]))
theorem tl71 {f : T32} {r : Bool} (h : g71 f = some r) : F71 [.agg [.f .f32 f.burnt_,.f .f32 f.steam_,.f .f32 f.up_,.f .f32 f.lost_,.i .i64 f.smoky_]] = some (.b r):=Zf inj71 (a:=f) h
def g30_j1 : Option (Bool) :=
some true
def g30_L1 (c : List T32) : (Int)→Option ((Int) ⊕ ((Unit) ⊕ (Bool)))
| x_70 =>
if Zo x_70 (c.length : Int) = true then
(Wp c x_70).bind fun e72 =>
(g71 e72).bind fun r74 =>
if (!r74) = true then
some (.inr (.inr false))
else
if Yx e72.smoky_ (-1) = true then
some (.inl (aI .i64 x_70 1))
else
(if ((Zo e72.smoky_ 0 || Xa (c.length : Int) e72.smoky_) || Yx e72.smoky_ x_70) = true then some true else (Wp c e72.smoky_).bind fun e78 => some (!Yx e78.smoky_ (-1))).bind fun w80 =>
if w80 = true then
some (.inr (.inr false))
else
some (.inl (aI .i64 x_70 1))
else
some (.inr (.inl ()))
def g30 (c : List T32) : Option (Bool) :=
if (Zo (c.length : Int) 1 || Zo 6 (c.length : Int)) = true then
some false
else
(loopO (g30_L1 c) 0).bind fun w => match w with
| .inl y => g30_j1
| .inr r => some r
@[simp] def eA30 (a : List T32) : List V:=[.sl 5 (rows Xw a)]
def eB30 (r : Bool) : V:=.b r
theorem inj30 (a a' : List T32) (h : eA30 a = eA30 a') : a = a':=by simpa [eA30,Prod.ext_iff] using h
def F30 : List V→Option V:=tells (fun a => g30 a) eA30 eB30
theorem ok30 : Zz Tryz.prog 30 F30:=by
 refine Zg 52 Tryz.func30 ?_
 rintro c r h
 rw [g30] at h
 have hC : Qc.Ok Tryz.prog [(71,F71)]:=⟨.inl ok71,trivial⟩
 refine VW.seq (Za [0] hC (q:=(VW.seq (VW.seq (Za [0,12] hC (q:=(Zd h (fun h => ?_) (fun h => ?_))))))))
 ·refine VW.seq (Za [2] hC (q:=?_))
  exact VW.ret (Zb h (by simp [eB30]))
 refine VW.skip (VW.join (fun (v : Unit) => (⟨(tm 52 []),[],[]⟩ : VS)) (fun v => (g30_j1).bind some = some r) ?_ ?_)
 ·refine VW.seq (Za [0,13,14,15] hC (q:=VW.block ?_))
  obtain ⟨w_1,hw_1,h⟩:=Zc h
  refine VW.loopO (fun (x : Int) => (⟨(tm 52 [(0,.sl 5 (rows Xw c)),(13,.sl 5 (rows Xw c)),(14,.i .i64 (c.length : Int)),(15,.i .i64 x)]),[],[]⟩ : VS)) hw_1 (Ze 0) ?_
  rintro n_1 x_70 h1
  rw [g30_L1] at h1
  refine VW.seq (Za [0,13,14,15,16] hC (q:=(VW.seq (Zk h1 (fun h1 => ?_) (fun h1 => ?_)))))
  ·refine VW.exit ?_
   have e_:=Yd h1
   subst w_1
   exact Zn () h (Ze 0)
  refine VW.skip (VW.seq (VW.block (VW.seq ?_)))
  obtain ⟨e72,⟨f73a,f73b,f73c,f73d⟩,h1⟩:=Ys h1
  refine Zj [0,3,4,13,14,15] hC (q:=(VW.seq (VW.seq ?_)))
  obtain ⟨r74,q75,h1⟩:=Zc h1
  have c75:=tl71 q75
  refine Zj [0,3,4,13,14,15,22] hC (q:=(Zd h1 (fun h1 => ?_) (fun h1 => ?_)))
  ·refine VW.seq (Za [2] hC (q:=?_))
   have e_:=Yd h1
   subst w_1
   exact VW.ret (Zb h (by simp [eB30]))
  refine VW.skip (VW.seq (VW.seq (Za [0,3,4,13,14,15,25] hC (q:=(Zd h1 (fun h1 => ?_) (fun h1 => ?_))))))
  ·exact VW.exit (Za [0,13,14,15] hC (q:=(Zn (aI .i64 x_70 1) (Yr h1) (Ze 0))))
  refine VW.skip (VW.seq ?_)
  obtain ⟨w80,q82,h1⟩:=Zc h1
  refine Yg (tm 52 [(0,.sl 5 (rows Xw c)),(13,.sl 5 (rows Xw c)),(14,.i .i64 (c.length : Int)),(15,.i .i64 x_70),(50,.b w80)]) [some (5,[[.f .f32 e72.burnt_,.f .f32 e72.steam_,.f .f32 e72.up_,.f .f32 e72.lost_,.i .i64 e72.smoky_]])] [] hC (by kernel_rfl) (by
    obtain ⟨q83,q82⟩ | ⟨q83,rfl⟩:=Uh q82
    ·obtain ⟨e78,q79,q82⟩:=Yb q82
     obtain ⟨f79a,f79b,f79c,f79d⟩:=Kf q79
     obtain rfl:=Option.some.inj q82
     simp -implicitDefEqProofs [q83,f79a,f79b,f79c,f79d]
    simp -implicitDefEqProofs [q83]) ?_
  refine Zd h1 (fun h1 => ?_) (fun h1 => ?_)
  ·refine VW.seq (Za [2] hC (q:=?_))
   have e_:=Yd h1
   subst w_1
   exact VW.ret (Zb h (by simp [eB30]))
  exact VW.skip (Za [0,13,14,15] hC (q:=(Zn (aI .i64 x_70 1) (Yr h1) (Ze 0))))
 rintro _ h
 replace h : (g30_j1).bind _ = _:=h
 rw [g30_j1] at h
 refine VW.seq (Za [2] hC (q:=?_))
 exact VW.ret (Zb h (by simp [eB30]))
theorem tl30 {c : List T32} {r : Bool} (h : g30 c = some r) : F30 [.sl 5 (rows Xw c)] = some (.b r):=Zf inj30 (a:=c) h
def g31 (a : F32) : Option (Bool) :=
(g33 a (some 3262119936) (some 1114636288)).bind fun r1 =>
some r1
@[simp] def eA31 (a : F32) : List V:=[.f .f32 a]
def eB31 (r : Bool) : V:=.b r
theorem inj31 (a a' : F32) (h : eA31 a = eA31 a') : a = a':=by simpa [eA31,Prod.ext_iff] using h
def F31 : List V→Option V:=tells (fun a => g31 a) eA31 eB31
theorem ok31 : Zz Tryz.prog 31 F31:=by
 refine Zg 5 Tryz.func31 ?_
 rintro a r h
 rw [g31] at h
 have hC : Qc.Ok Tryz.prog [(33,F33)]:=⟨.inl ok33,trivial⟩
 refine VW.seq (Za [0] hC (q:=VW.seq ?_))
 obtain ⟨r1,q2,h⟩:=Zc h
 have c2:=tl33 q2
 refine Zj [2] hC (q:=?_)
 exact VW.ret (Zb h (by simp [eB31]))
theorem tl31 {a : F32} {r : Bool} (h : g31 a = some r) : F31 [.f .f32 a] = some (.b r):=Zf inj31 (a:=a) h
def g72 (p0 : ByteArray) (p1 : ByteArray) : Option (List ByteArray):=splitO p0 p1
@[simp] def eA72 (a : ByteArray × ByteArray) : List V:=[.str a.1,.str a.2]
def eB72 (r : List ByteArray) : V:=.own 1 (rows Yu r)
theorem inj72 (a a' : ByteArray × ByteArray) (h : eA72 a = eA72 a') : a = a':=by simpa [eA72,Prod.ext_iff] using h
def F72 : List V→Option V:=tells (fun a => g72 a.1 a.2) eA72 eB72
theorem ok72 : Zz Tryz.prog 72 F72:=Zz.of (by kernel_rfl) (fun ⟨p0,p1⟩ r h => split_calls Tryz.lays146 (by kernel_rfl) (by kernel_rfl) h)
theorem tl72 {p0 : ByteArray} {p1 : ByteArray} {r : List ByteArray} (h : g72 p0 p1 = some r) : F72 [.str p0,.str p1] = some (.own 1 (rows Yu r)):=Zf inj72 (a:=(p0,p1)) h
def g111 (b : Int) : Option (Bool) :=
some (Xa 97 b && Xa b 122)
@[simp] def eA111 (a : Int) : List V:=[.i .u8 a]
def eB111 (r : Bool) : V:=.b r
theorem inj111 (a a' : Int) (h : eA111 a = eA111 a') : a = a':=by simpa [eA111,Prod.ext_iff] using h
def F111 : List V→Option V:=tells (fun a => g111 a) eA111 eB111
theorem ok111 : Zz Tryz.prog 111 F111:=by
 refine Zg 9 Tryz.func111 ?_
 rintro b r h
 rw [g111] at h
 have hC : Qc.Ok Tryz.prog []:=trivial
 refine VW.seq (Za [0] hC (q:=(VW.seq (Za [2] hC (q:=?_)))))
 exact VW.ret (Zb h (by simp [eB111]))
theorem tl111 {b : Int} {r : Bool} (h : g111 b = some r) : F111 [.i .u8 b] = some (.b r):=Zf inj111 (a:=b) h
def g112 (b : Int) : Option (Bool) :=
some (Xa 48 b && Xa b 57)
@[simp] def eA112 (a : Int) : List V:=[.i .u8 a]
def eB112 (r : Bool) : V:=.b r
theorem inj112 (a a' : Int) (h : eA112 a = eA112 a') : a = a':=by simpa [eA112,Prod.ext_iff] using h
def F112 : List V→Option V:=tells (fun a => g112 a) eA112 eB112
theorem ok112 : Zz Tryz.prog 112 F112:=by
 refine Zg 9 Tryz.func112 ?_
 rintro b r h
 rw [g112] at h
 have hC : Qc.Ok Tryz.prog []:=trivial
 refine VW.seq (Za [0] hC (q:=(VW.seq (Za [2] hC (q:=?_)))))
 exact VW.ret (Zb h (by simp [eB112]))
theorem tl112 {b : Int} {r : Bool} (h : g112 b = some r) : F112 [.i .u8 b] = some (.b r):=Zf inj112 (a:=b) h
def g113 (s : ByteArray) : Option (Bool) :=
some ((Jb s (⟨#[109,105,110]⟩ : ByteArray) || Jb s (⟨#[109,97,120]⟩ : ByteArray)) || Jb s (⟨#[112,105,99,107]⟩ : ByteArray))
@[simp] def eA113 (a : ByteArray) : List V:=[.str a]
def eB113 (r : Bool) : V:=.b r
theorem inj113 (a a' : ByteArray) (h : eA113 a = eA113 a') : a = a':=by simpa [eA113,Prod.ext_iff] using h
def F113 : List V→Option V:=tells (fun a => g113 a) eA113 eB113
theorem ok113 : Zz Tryz.prog 113 F113:=by
 refine Zg 13 Tryz.func113 ?_
 rintro s r h
 rw [g113] at h
 have hC : Qc.Ok Tryz.prog []:=trivial
 refine VW.seq (Za [0] hC (q:=(VW.seq (Za [2] hC (q:=?_)))))
 exact VW.ret (Zb h (by simp [eB113]))
theorem tl113 {s : ByteArray} {r : Bool} (h : g113 s = some r) : F113 [.str s] = some (.b r):=Zf inj113 (a:=s) h
def g74_j1 : Option (Bool) :=
some true
def g74_L1 (s : ByteArray) : (Int)→Option ((Int) ⊕ ((Unit) ⊕ (Bool)))
| x_58 =>
if Zo x_58 (s.size : Int) = true then
(Wg s x_58).bind fun e60 =>
(if Zo e60 97 = true then some true else (Wg s x_58).bind fun e62 => some (Zo 122 e62)).bind fun w64 =>
if w64 = true then
some (.inr (.inr false))
else
some (.inl (aI .i64 x_58 1))
else
some (.inr (.inl ()))
def g74 (s : ByteArray) : Option (Bool) :=
(if (Zo (s.size : Int) 1 || Zo 8 (s.size : Int)) = true then some true else (g113 s).bind fun r1 => some r1).bind fun w3 =>
if w3 = true then
some false
else
(loopO (g74_L1 s) 0).bind fun w => match w with
| .inl y => g74_j1
| .inr r => some r
@[simp] def eA74 (a : ByteArray) : List V:=[.str a]
def eB74 (r : Bool) : V:=.b r
theorem inj74 (a a' : ByteArray) (h : eA74 a = eA74 a') : a = a':=by simpa [eA74,Prod.ext_iff] using h
def F74 : List V→Option V:=tells (fun a => g74 a) eA74 eB74
theorem ok74 : Zz Tryz.prog 74 F74:=by
 refine Zg 32 Tryz.func74 ?_
 rintro s r h
 rw [g74] at h
 have hC : Qc.Ok Tryz.prog [(113,F113)]:=⟨.inl ok113,trivial⟩
 refine VW.seq (Za [0] hC (q:=(VW.seq (VW.seq ?_))))
 obtain ⟨w3,q69,h⟩:=Zc h
 refine Yg (tm 32 [(0,.str s),(15,.b w3)]) [] [] hC (by kernel_rfl) (by
   obtain ⟨q70,q69⟩ | ⟨q70,rfl⟩:=Uh q69
   ·obtain ⟨r1,q2,q69⟩:=Yb q69
    have c2:=tl113 q2
    obtain rfl:=Option.some.inj q69
    simp -implicitDefEqProofs [q70,c2]
   simp -implicitDefEqProofs [q70]) ?_
 refine Zd h (fun h => ?_) (fun h => ?_)
 ·refine VW.seq (Za [2] hC (q:=?_))
  exact VW.ret (Zb h (by simp [eB74]))
 refine VW.skip (VW.join (fun (v : Unit) => (⟨(tm 32 []),[],[]⟩ : VS)) (fun v => (g74_j1).bind some = some r) ?_ ?_)
 ·refine VW.seq (Za [0,17,18] hC (q:=VW.block ?_))
  obtain ⟨w_1,hw_1,h⟩:=Zc h
  refine VW.loopO (fun (x : Int) => (⟨(tm 32 [(0,.str s),(17,.i .i64 (s.size : Int)),(18,.i .i64 x)]),[],[]⟩ : VS)) hw_1 (Ze 0) ?_
  rintro n_1 x_58 h1
  rw [g74_L1] at h1
  refine VW.seq (Za [0,17,18,19] hC (q:=(VW.seq (Zk h1 (fun h1 => ?_) (fun h1 => ?_)))))
  ·refine VW.exit ?_
   have e_:=Yd h1
   subst w_1
   exact Zn () h (Ze 0)
  refine VW.skip (VW.seq (VW.block (VW.seq (Za [0,3,17,18] hC (q:=VW.seq ?_)))))
  obtain ⟨e60,q61,h1⟩:=Zc h1
  obtain ⟨f61a,c61,f61b,f61c,f61d⟩:=Xq q61
  obtain ⟨w64,q66,h1⟩:=Zc h1
  refine Yg (tm 32 [(0,.str s),(17,.i .i64 (s.size : Int)),(18,.i .i64 x_58),(30,.b w64)]) [] [] hC (by kernel_rfl) (by
    obtain ⟨q67,q66⟩ | ⟨q67,rfl⟩:=Uh q66
    ·obtain ⟨e62,q63,q66⟩:=Yb q66
     have d68 : e62 = e60:=Option.some.inj (q63.symm.trans q61)
     obtain rfl:=Option.some.inj q66
     simp -implicitDefEqProofs [f61a,f61b,f61c,f61d,q67,d68]
    simp -implicitDefEqProofs [f61a,f61b,f61c,f61d,q67]) ?_
  refine Zd h1 (fun h1 => ?_) (fun h1 => ?_)
  ·refine VW.seq (Za [2] hC (q:=?_))
   have e_:=Yd h1
   subst w_1
   exact VW.ret (Zb h (by simp [eB74]))
  exact VW.skip (Za [0,17,18] hC (q:=(Zn (aI .i64 x_58 1) (Yr h1) (Ze 0))))
 rintro _ h
 replace h : (g74_j1).bind _ = _:=h
 rw [g74_j1] at h
 refine VW.seq (Za [2] hC (q:=?_))
 exact VW.ret (Zb h (by simp [eB74]))
theorem tl74 {s : ByteArray} {r : Bool} (h : g74 s = some r) : F74 [.str s] = some (.b r):=Zf inj74 (a:=s) h
def g116_j1 : Option (Int) :=
some (-1)
def g116_L1 (s : List ByteArray) (v_ : ByteArray) : (Int)→Option ((Int) ⊕ ((Unit) ⊕ (Int)))
| x_24 =>
if Zo x_24 (s.length : Int) = true then
(Wp s x_24).bind fun e26 =>
if Jb v_ e26 = true then
some (.inr (.inr x_24))
else
some (.inl (aI .i64 x_24 1))
else
some (.inr (.inl ()))
def g116 (s : List ByteArray) (v_ : ByteArray) : Option (Int) :=
(loopO (g116_L1 s v_) 0).bind fun w => match w with
| .inl y => g116_j1
| .inr r => some r
@[simp] def eA116 (a : (List ByteArray) × ByteArray) : List V:=[.sl 1 (rows Yu a.1),.str a.2]
def eB116 (r : Int) : V:=.i .i64 r
theorem inj116 (a a' : (List ByteArray) × ByteArray) (h : eA116 a = eA116 a') : a = a':=by simpa [eA116,Prod.ext_iff] using h
def F116 : List V→Option V:=tells (fun a => g116 a.1 a.2) eA116 eB116
theorem ok116 : Zz Tryz.prog 116 F116:=by
 refine Zg 19 Tryz.func116 ?_
 rintro ⟨s,v_⟩ r h
 replace h : (g116 s v_).bind some = some r:=h
 rw [g116] at h
 have hC : Qc.Ok Tryz.prog []:=trivial
 refine VW.seq (Za [0,1] hC (q:=(VW.join (fun (v : Unit) => (⟨(tm 19 []),[],[]⟩ : VS)) (fun v => (g116_j1).bind some = some r) ?_ ?_)))
 ·refine VW.seq (Za [0,1,7,8] hC (q:=VW.block ?_))
  obtain ⟨w_1,hw_1,h⟩:=Zc h
  refine VW.loopO (fun (x : Int) => (⟨(tm 19 [(0,.sl 1 (rows Yu s)),(1,.str v_),(7,.i .i64 (s.length : Int)),(8,.i .i64 x)]),[],[]⟩ : VS)) hw_1 (Ze 0) ?_
  rintro n_1 x_24 h1
  rw [g116_L1] at h1
  refine VW.seq (Za [0,1,7,8,9] hC (q:=(VW.seq (Zk h1 (fun h1 => ?_) (fun h1 => ?_)))))
  ·refine VW.exit ?_
   have e_:=Yd h1
   subst w_1
   exact Zn () h (Ze 0)
  refine VW.skip (VW.seq (VW.block (VW.seq (Za [0,1,5,7,8] hC (q:=VW.seq ?_)))))
  obtain ⟨e26,⟨f27a,f27b,f27c,f27d⟩,h1⟩:=Ys h1
  refine Zj [0,1,5,7,8,16] hC (q:=(Zd h1 (fun h1 => ?_) (fun h1 => ?_)))
  ·refine VW.seq (Za [4] hC (q:=?_))
   have e_:=Yd h1
   subst w_1
   exact VW.ret (Zb h (by simp [eB116]))
  exact VW.skip (Za [0,1,7,8] hC (q:=(Zn (aI .i64 x_24 1) (Yr h1) (Ze 0))))
 rintro _ h
 replace h : (g116_j1).bind _ = _:=h
 rw [g116_j1] at h
 refine VW.seq (Za [4] hC (q:=?_))
 exact VW.ret (Zb h (by simp [eB116]))
theorem tl116 {s : List ByteArray} {v_ : ByteArray} {r : Int} (h : g116 s v_ = some r) : F116 [.sl 1 (rows Yu s),.str v_] = some (.i .i64 r):=Zf inj116 (a:=(s,v_)) h
def g172 (p0 : Int) : Option (ByteArray):=itoaO p0
@[simp] def eA172 (a : Int) : List V:=[.i .i64 a]
def eB172 (r : ByteArray) : V:=.str r
theorem inj172 (a a' : Int) (h : eA172 a = eA172 a') : a = a':=by simpa [eA172,Prod.ext_iff] using h
def F172 : List V→Option V:=tells (fun a => g172 a) eA172 eB172
theorem ok172 : Zz Tryz.prog 172 F172:=Zz.of (by kernel_rfl) (fun p0 r h => itoa_calls Tryz.laysM171 (g:=6) (by kernel_rfl) h)
theorem tl172 {p0 : Int} {r : ByteArray} (h : g172 p0 = some r) : F172 [.i .i64 p0] = some (.str r):=Zf inj172 (a:=p0) h
def g173 (p0 : ByteArray) : Option (Int × Bool):=atoiO p0
@[simp] def eA173 (a : ByteArray) : List V:=[.str a]
def eB173 (r : Int × Bool) : V:=.tup [.i .i64 r.1,Jv r.2]
theorem inj173 (a a' : ByteArray) (h : eA173 a = eA173 a') : a = a':=by simpa [eA173,Prod.ext_iff] using h
def F173 : List V→Option V:=tells (fun a => g173 a) eA173 eB173
theorem ok173 : Zz Tryz.prog 173 F173:=Zz.of (by kernel_rfl) (fun p0 r h => atoi_calls Tryz.lays172 h)
theorem tl173 {p0 : ByteArray} {r : Int × Bool} (h : g173 p0 = some r) : F173 [.str p0] = some (.tup [.i .i64 r.1,Jv r.2]):=Zf inj173 (a:=p0) h
def g110_L1 (r_ : T139) : (Int)→Option ((Int) ⊕ (T139))
| y14 =>
(if Zo y14 (r_.line_.size : Int) = true then (Wg r_.line_ y14).bind fun e15 => some (Yx e15 32) else some false).bind fun w17 =>
if w17 = true then
some (.inl (aI .i64 y14 1))
else
some (.inr (⟨r_.line_,y14,r_.names_,r_.code_,r_.bad_⟩ : T139))
def g110 (r_ : T139) : Option (T139) :=
loopO (g110_L1 r_) r_.at_
theorem ok110 : Xr Tryz.prog 110 (fun a : (List T189) × T139 => g110 a.2) (fun a => [.ptr 4 0 0]) (fun a => Zr a.1 a.2) (fun _ => .tup []) (fun a r => Zr a.1 r) (Uf 5) 6:=by
 refine Xr.of Tryz.func110 (by kernel_rfl) rfl rfl rfl ?_
 rintro ⟨pc,r_⟩ r h gg hgk hgb
 replace h : (g110 r_).bind some = some r:=Qi h
 rw [g110] at h
 have hC : Qc.Ok Tryz.prog []:=trivial
 refine VW.ent (s:=(⟨(tm 31 [(0,.ptr 4 0 0)]),(Zi pc r_.line_ r_.at_ r_.names_ r_.code_ r_.bad_),gg⟩ : VS)) (Wf (by simp only [List.length_cons,List.length_nil,Nat.reduceAdd,Nat.reduceSub]; rw [Wd]; simp) rfl rfl) (VW.block ?_)
 obtain ⟨w_1,hw_1,h⟩:=bindT h
 refine VW.loopO (fun (x : Int) => (⟨(tm 31 [(0,.ptr 4 0 0)]),(Zi pc r_.line_ x r_.names_ r_.code_ r_.bad_),gg⟩ : VS)) hw_1 (Ze 6 (hgg:=by simp [Zx,Zs,Yy hgb (show 6≤6 by decide)])) ?_
 rintro n_1 y14 h1
 rw [g110_L1] at h1
 refine VW.seq (VW.seq ?_)
 obtain ⟨w17,q19,h1⟩:=Zc h1
 refine Ug (tm 31 [(0,.ptr 4 0 0),(23,.b w17)]) (Zi pc r_.line_ y14 r_.names_ r_.code_ r_.bad_) gg hC Wc (by kernel_rfl) (by
   obtain ⟨q20,q19⟩ | ⟨q20,rfl⟩:=Ux q19
   ·obtain ⟨e15,q16,q19⟩:=Yb q19
    obtain ⟨f16a,c16,f16b,f16c,f16d⟩:=Xq q16
    obtain rfl:=Option.some.inj q19
    simp -implicitDefEqProofs [q20,f16a,f16b,f16c,f16d,hgk]
   simp -implicitDefEqProofs [q20,hgk]) ?_
 refine Zk h1 (fun h1 => ?_) (fun h1 => ?_)
 ·refine VW.exit ?_
  have e_:=Yd h1
  subst w_1
  obtain rfl:=(Yz h).symm
  exact (VInX.fin (Ze (t':=(tm 31 [])) (m':=(Zi pc r_.line_ y14 r_.names_ r_.code_ r_.bad_)) 6 (hgg:=by simp [Zx,Zs,Yy hgb (show 6≤6 by decide)])) (by simp) (by simp [Zr]) rfl)
 exact VW.skip (VW.block (Zj [0] hC (q:=(Zn (aI .i64 y14 1) (Yr h1) (Ze 6 (hgg:=by simp [Zx,Zs,Yy hgb (show 6≤6 by decide)]))))))
def g77 (r_ : T139) : Option (Int × T139) :=
(g110 r_).bind fun r1 =>
if Xa (r1.line_.size : Int) r1.at_ = true then
some (0,r1)
else
(Wg r1.line_ r1.at_).bind fun e4 =>
some (e4,r1)
theorem ok77 : Xr Tryz.prog 77 (fun a : (List T189) × T139 => g77 a.2) (fun a => [.ptr 4 0 0]) (fun a => Zr a.1 a.2) (fun r => .i .u8 r.1) (fun a r => Zr a.1 r.2) (Uf 5) 6:=by
 refine Xr.of Tryz.func77 (by kernel_rfl) rfl rfl rfl ?_
 rintro ⟨pc,r_⟩ r h gg hgk hgb
 replace h : (g77 r_).bind some = some r:=Qi h
 rw [g77] at h
 have hC : Qc.Ok Tryz.prog []:=trivial
 refine VW.ent (s:=(⟨(tm 24 [(0,.ptr 4 0 0)]),(Zi pc r_.line_ r_.at_ r_.names_ r_.code_ r_.bad_),gg⟩ : VS)) (Wf (by simp only [List.length_cons,List.length_nil,Nat.reduceAdd,Nat.reduceSub]; rw [Wd]; simp) rfl rfl) (VW.seq (Zj [0] hC (q:=(VW.seq (Zy (Zv 1 (tm 24 [(0,.ptr 4 0 0),(3,.ptr 4 0 0)]) (Zi pc r_.line_ r_.at_ r_.names_ r_.code_ r_.bad_) gg hC (by kernel_rfl) (by simp -implicitDefEqProofs [hgk]) ?_))))))
 obtain ⟨r1,q2,h⟩:=Zc h
 refine Zq (ok110) (pc,r_) r1 q2 (by simp [Zm]) rfl (by simp) (by simp [Zr]) (by simp [hgk]) (by simp [Zx,Zs,hgb]) (Zu (t':=(tm 24 [(0,.ptr 4 0 0),(3,.ptr 4 0 0),(4,.tup [])])) (m':=(Zi pc r1.line_ r1.at_ r1.names_ r1.code_ r1.bad_)) (g':=gg) (by simp) (by simp [Zr]) (by simp) (Zp (tm 24 [(0,.ptr 4 0 0)]) (Zi pc r1.line_ r1.at_ r1.names_ r1.code_ r1.bad_) gg hC (by kernel_rfl) (by simp -implicitDefEqProofs [hgk]) (VW.seq (VW.seq (Wt [0,14] hC Wc (h:=by simp -implicitDefEqProofs [hgk]; exact .rfl) (q:=(Zd h (fun h => ?_) (fun h => ?_))))))))
 ·refine VW.seq (Zj [2] hC (q:=?_))
  obtain rfl:=(Yz h).symm
  exact VW.ret (VInX.fin (Ze (t':=(tm 24 [(2,.i .u8 0)])) (m':=(Zi pc r1.line_ r1.at_ r1.names_ r1.code_ r1.bad_)) 6 (hgg:=by simp [Zx,Zs,Yy hgb (show 6≤6 by decide)])) (by simp) (by simp [Zr]) rfl)
 refine VW.skip (VW.seq ?_)
 obtain ⟨e4,⟨f5a,c5,f5b,f5c,f5d⟩,h⟩:=bindIS h
 refine Wt [2] hC Wc (h:=by simp -implicitDefEqProofs [f5a,f5b,f5c,f5d,hgk]; exact .rfl) (q:=?_)
 obtain rfl:=(Yz h).symm
 exact VW.ret (VInX.fin (Ze (t':=(tm 24 [(2,.i .u8 e4)])) (m':=(Zi pc r1.line_ r1.at_ r1.names_ r1.code_ r1.bad_)) 6 (hgg:=by simp [Zx,Zs,Yy hgb (show 6≤6 by decide)])) (by simp) (by simp [Zr]) rfl)
def g114 (r_ : T139) (b : Int) : Option (Bool × T139) :=
if r_.bad_ = true then
some (false,r_)
else
(g77 r_).bind fun r2 =>
if (!Yx r2.1 b) = true then
some (false,r2.2)
else
some (true,(⟨r2.2.line_,aI .i64 r2.2.at_ 1,r2.2.names_,r2.2.code_,r2.2.bad_⟩ : T139))
theorem ok114 : Xr Tryz.prog 114 (fun a : (List T189) × T139 × Int => g114 a.2.1 a.2.2) (fun a => [.ptr 4 0 0,.i .u8 a.2.2]) (fun a => Zr a.1 a.2.1) (fun r => .b r.1) (fun a r => Zr a.1 r.2) (Uf 5) 6:=by
 refine Xr.of Tryz.func114 (by kernel_rfl) rfl rfl rfl ?_
 rintro ⟨pc,r_,b⟩ r h gg hgk hgb
 replace h : (g114 r_ b).bind some = some r:=Qi h
 rw [g114] at h
 have hC : Qc.Ok Tryz.prog []:=trivial
 refine VW.ent (s:=(⟨(tm 22 [(0,.ptr 4 0 0),(1,.i .u8 b)]),(Zi pc r_.line_ r_.at_ r_.names_ r_.code_ r_.bad_),gg⟩ : VS)) (Wf (by simp only [List.length_cons,List.length_nil,Nat.reduceAdd,Nat.reduceSub]; rw [Wd]; simp) rfl rfl) (VW.seq (Za [0,1] hC (h:=by simp -implicitDefEqProofs [hgk]; exact .rfl) (q:=(VW.seq (VW.seq (Zy (Zv 5 (tm 22 [(0,.ptr 4 0 0),(1,.i .u8 b),(9,.b r_.bad_)]) (Zi pc r_.line_ r_.at_ r_.names_ r_.code_ r_.bad_) gg hC (by kernel_rfl) (by simp -implicitDefEqProofs [hgk]) ?_)))))))
 rcases ifB h with ⟨g1,h⟩ | ⟨g1,h⟩
 ·refine Zu (t':=(tm 22 [(0,.ptr 4 0 0),(1,.i .u8 b),(9,.b true)])) (by simp [g1]) rfl rfl (Zp (tm 22 [(0,.ptr 4 0 0),(14,.b true)]) (Zi pc r_.line_ r_.at_ r_.names_ r_.code_ r_.bad_) gg hC (by kernel_rfl) (by simp -implicitDefEqProofs [hgk]) (Ye (by simp) (VW.seq (Za [4] hC (h:=by simp -implicitDefEqProofs [hgk]; exact .rfl) (q:=?_)))))
  obtain rfl:=(Yz h).symm
  exact VW.ret (VInX.fin (Ze (t':=(tm 22 [(4,.b false)])) (m':=(Zi pc r_.line_ r_.at_ r_.names_ r_.code_ r_.bad_)) 6 (hgg:=by simp [Zx,Zs,Yy hgb (show 6≤6 by decide)])) (by simp) (by simp [Zr]) rfl)
 refine Zu (t':=(tm 22 [(0,.ptr 4 0 0),(1,.i .u8 b),(9,.b false)])) (by simp [g1]) rfl rfl (Zv 1 (tm 22 [(0,.ptr 4 0 0),(1,.i .u8 b),(9,.b false),(10,.ptr 4 0 0)]) (Zi pc r_.line_ r_.at_ r_.names_ r_.code_ r_.bad_) gg hC (by kernel_rfl) (by simp -implicitDefEqProofs [hgk]) ?_)
 obtain ⟨r2,q3,h⟩:=Zc h
 refine Zq (ok77) (pc,r_) r2 q3 (by simp [Zm]) rfl (by simp) (by simp [Zr]) (by simp [hgk]) (by simp [Zx,Zs,hgb]) (Zu (t':=(tm 22 [(0,.ptr 4 0 0),(1,.i .u8 b),(9,.b false),(10,.ptr 4 0 0),(11,.i .u8 r2.1)])) (m':=(Zi pc r2.2.line_ r2.2.at_ r2.2.names_ r2.2.code_ r2.2.bad_)) (g':=gg) (by simp) (by simp [Zr]) (by simp) (Zp (tm 22 [(0,.ptr 4 0 0),(14,.b (!Yx r2.1 b))]) (Zi pc r2.2.line_ r2.2.at_ r2.2.names_ r2.2.code_ r2.2.bad_) gg hC (by kernel_rfl) (by simp -implicitDefEqProofs [hgk]) (Zd h (fun h => ?_) (fun h => ?_))))
 ·refine VW.seq (Za [4] hC (h:=by simp -implicitDefEqProofs [hgk]; exact .rfl) (q:=?_))
  obtain rfl:=(Yz h).symm
  exact VW.ret (VInX.fin (Ze (t':=(tm 22 [(4,.b false)])) (m':=(Zi pc r2.2.line_ r2.2.at_ r2.2.names_ r2.2.code_ r2.2.bad_)) 6 (hgg:=by simp [Zx,Zs,Yy hgb (show 6≤6 by decide)])) (by simp) (by simp [Zr]) rfl)
 refine VW.skip (VW.seq (Za [] hC (h:=by simp -implicitDefEqProofs [hgk]; exact .rfl) (q:=(VW.seq (Za [4] hC (h:=by simp -implicitDefEqProofs [hgk]; exact .rfl) (q:=?_))))))
 obtain rfl:=(Yz h).symm
 exact VW.ret (VInX.fin (Ze (t':=(tm 22 [(4,.b true)])) (m':=(Zi pc r2.2.line_ (aI .i64 r2.2.at_ 1) r2.2.names_ r2.2.code_ r2.2.bad_)) 6 (hgg:=by simp [Zx,Zs,Yy hgb (show 6≤6 by decide)])) (by simp) (by simp [Zr]) rfl)
def g75 (r_ : T139) (b : Int) : Option (T139) :=
(g114 r_ b).bind fun r1 =>
if (!r1.1) = true then
some (⟨r1.2.line_,r1.2.at_,r1.2.names_,r1.2.code_,true⟩ : T139)
else
some r1.2
theorem ok75 : Xr Tryz.prog 75 (fun a : (List T189) × T139 × Int => g75 a.2.1 a.2.2) (fun a => [.ptr 4 0 0,.i .u8 a.2.2]) (fun a => Zr a.1 a.2.1) (fun _ => .tup []) (fun a r => Zr a.1 r) (Uf 5) 6:=by
 refine Xr.of Tryz.func75 (by kernel_rfl) rfl rfl rfl ?_
 rintro ⟨pc,r_,b⟩ r h gg hgk hgb
 replace h : (g75 r_ b).bind some = some r:=Qi h
 rw [g75] at h
 have hC : Qc.Ok Tryz.prog []:=trivial
 refine VW.ent (s:=(⟨(tm 11 [(0,.ptr 4 0 0),(1,.i .u8 b)]),(Zi pc r_.line_ r_.at_ r_.names_ r_.code_ r_.bad_),gg⟩ : VS)) (Wf (by simp only [List.length_cons,List.length_nil,Nat.reduceAdd,Nat.reduceSub]; rw [Wd]; simp) rfl rfl) (VW.seq (Zy (Zv 2 (tm 11 [(0,.ptr 4 0 0),(4,.ptr 4 0 0),(5,.i .u8 b)]) (Zi pc r_.line_ r_.at_ r_.names_ r_.code_ r_.bad_) gg hC (by kernel_rfl) (by simp -implicitDefEqProofs [hgk]) ?_)))
 obtain ⟨r1,q2,h⟩:=Zc h
 refine Zq (ok114) (pc,r_,b) r1 q2 (by simp [Zm]) rfl (by simp) (by simp [Zr]) (by simp [hgk]) (by simp [Zx,Zs,hgb]) (Zu (t':=(tm 11 [(0,.ptr 4 0 0),(4,.ptr 4 0 0),(5,.i .u8 b),(6,.b r1.1)])) (m':=(Zi pc r1.2.line_ r1.2.at_ r1.2.names_ r1.2.code_ r1.2.bad_)) (g':=gg) (by simp) (by simp [Zr]) (by simp) (Zp (tm 11 [(0,.ptr 4 0 0),(7,.b (!r1.1))]) (Zi pc r1.2.line_ r1.2.at_ r1.2.names_ r1.2.code_ r1.2.bad_) gg hC (by kernel_rfl) (by simp -implicitDefEqProofs [hgk]) (Zk h (fun h => ?_) (fun h => ?_))))
 ·refine VW.skip ?_
  obtain rfl:=(Yz h).symm
  exact (VInX.fin (Ze (t':=(tm 11 [])) (m':=(Zi pc r1.2.line_ r1.2.at_ r1.2.names_ r1.2.code_ r1.2.bad_)) 6 (hgg:=by simp [Zx,Zs,Yy hgb (show 6≤6 by decide)])) (by simp) (by simp [Zr]) rfl)
 refine Zj [] hC (q:=?_)
 obtain rfl:=(Yz h).symm
 exact (VInX.fin (Ze (t':=(tm 11 [])) (m':=(Zi pc r1.2.line_ r1.2.at_ r1.2.names_ r1.2.code_ true)) 6 (hgg:=by simp [Zx,Zs,Yy hgb (show 6≤6 by decide)])) (by simp) (by simp [Zr]) rfl)
def g73_j1 (r1 : T139) (y62 : Int) : Option (ByteArray × T139) :=
(Jw r1.at_ y62 r1.line_.size).bind fun u63 =>
some ((r1.line_.extract r1.at_.toNat y62.toNat),(⟨r1.line_,y62,r1.names_,r1.code_,r1.bad_⟩ : T139))
def g73_L1 (r1 : T139) : (Int)→Option ((Int) ⊕ (Int))
| y104 =>
(if Zo y104 (r1.line_.size : Int) = true then (Wg r1.line_ y104).bind fun e105 => (g111 e105).bind fun r107 => (if r107 = true then some true else (if Zo r1.at_ y104 = true then (Wg r1.line_ y104).bind fun e109 => (g112 e109).bind fun r111 => some r111 else some false).bind fun w113 => some w113).bind fun w114 => some w114 else some false).bind fun w115 =>
if w115 = true then
some (.inl (aI .i64 y104 1))
else
some (.inr y104)
def g73 (r_ : T139) : Option (ByteArray × T139) :=
(g110 r_).bind fun r1 =>
(loopO (g73_L1 r1) r1.at_).bind fun w => g73_j1 r1 w
theorem ok73 : Xr Tryz.prog 73 (fun a : (List T189) × T139 => g73 a.2) (fun a => [.ptr 4 0 0]) (fun a => Zr a.1 a.2) (fun r => .str r.1) (fun a r => Zr a.1 r.2) (Uf 5) 6:=by
 refine Xr.of Tryz.func73 (by kernel_rfl) rfl rfl rfl ?_
 rintro ⟨pc,r_⟩ r h gg hgk hgb
 replace h : (g73 r_).bind some = some r:=Qi h
 rw [g73] at h
 have hC : Qc.Ok Tryz.prog [(111,F111),(112,F112)]:=⟨.inl ok111,.inl ok112,trivial⟩
 refine VW.ent (s:=(⟨(tm 69 [(0,.ptr 4 0 0)]),(Zi pc r_.line_ r_.at_ r_.names_ r_.code_ r_.bad_),gg⟩ : VS)) (Wf (by simp only [List.length_cons,List.length_nil,Nat.reduceAdd,Nat.reduceSub]; rw [Wd]; simp) rfl rfl) (VW.seq (Zj [0] hC (q:=(VW.seq (Zy (Zv 1 (tm 69 [(0,.ptr 4 0 0),(4,.ptr 4 0 0)]) (Zi pc r_.line_ r_.at_ r_.names_ r_.code_ r_.bad_) gg hC (by kernel_rfl) (by simp -implicitDefEqProofs [hgk]) ?_))))))
 obtain ⟨r1,q2,h⟩:=Zc h
 refine Zq (ok110) (pc,r_) r1 q2 (by simp [Zm]) rfl (by simp) (by simp [Zr]) (by simp [hgk]) (by simp [Zx,Zs,hgb]) (Zu (t':=(tm 69 [(0,.ptr 4 0 0),(4,.ptr 4 0 0),(5,.tup [])])) (m':=(Zi pc r1.line_ r1.at_ r1.names_ r1.code_ r1.bad_)) (g':=gg) (by simp) (by simp [Zr]) (by simp) (Zp (tm 69 [(0,.ptr 4 0 0)]) (Zi pc r1.line_ r1.at_ r1.names_ r1.code_ r1.bad_) gg hC (by kernel_rfl) (by simp -implicitDefEqProofs [hgk]) (VW.seq (Zj [0,3] hC (q:=(VW.join (fun (v : Int) => (⟨(tm 69 [(0,.ptr 4 0 0),(3,.i .i64 r1.at_)]),(Zi pc r1.line_ v r1.names_ r1.code_ r1.bad_),gg⟩ : VS)) (fun v => (g73_j1 r1 (v)).bind some = some r) ?_ ?_))))))
 ·refine VW.block ?_
  obtain ⟨w_1,hw_1,h⟩:=Zc h
  refine VW.loopO (fun (x : Int) => (⟨(tm 69 [(0,.ptr 4 0 0),(3,.i .i64 r1.at_)]),(Zi pc r1.line_ x r1.names_ r1.code_ r1.bad_),gg⟩ : VS)) hw_1 (Ze 6 (hgg:=by simp [Zx,Zs,Yy hgb (show 6≤6 by decide)])) ?_
  rintro n_1 y104 h1
  rw [g73_L1] at h1
  refine VW.seq (VW.seq ?_)
  obtain ⟨w115,q117,h1⟩:=Zc h1
  refine Ug (tm 69 [(0,.ptr 4 0 0),(3,.i .i64 r1.at_),(51,.b w115)]) (Zi pc r1.line_ y104 r1.names_ r1.code_ r1.bad_) gg hC Wc (by kernel_rfl) (by
    obtain ⟨q118,q117⟩ | ⟨q118,rfl⟩:=Ux q117
    ·obtain ⟨e105,q106,q117⟩:=Yb q117
     obtain ⟨f106a,c106,f106b,f106c,f106d⟩:=Xq q106
     obtain ⟨r107,q108,q117⟩:=Yb q117
     have c108:=tl111 q108
     obtain ⟨w114,q119,q117⟩:=Yb q117
     obtain rfl:=Option.some.inj q117
     obtain ⟨q120,q119⟩ | ⟨q120,rfl⟩:=Uh q119
     ·obtain ⟨w113,q121,q119⟩:=Yb q119
      obtain rfl:=Option.some.inj q119
      obtain ⟨q122,q121⟩ | ⟨q122,rfl⟩:=Ux q121
      ·obtain ⟨e109,q110,q121⟩:=Yb q121
       have d123 : e109 = e105:=Option.some.inj (q110.symm.trans q106)
       obtain ⟨r111,q112,q121⟩:=Yb q121
       have c112:=tl112 q112
       try simp only [d123] at c112
       obtain rfl:=Option.some.inj q121
       simp -implicitDefEqProofs [q118,f106a,f106b,f106c,f106d,c108,q120,q122,d123,c112,hgk]
      simp -implicitDefEqProofs [q118,f106a,f106b,f106c,f106d,c108,q120,q122,hgk]
     simp -implicitDefEqProofs [q118,f106a,f106b,f106c,f106d,c108,q120,hgk]
    simp -implicitDefEqProofs [q118,hgk]) ?_
  refine Zk h1 (fun h1 => ?_) (fun h1 => ?_)
  ·refine VW.exit ?_
   have e_:=Yd h1
   subst w_1
   exact Zn y104 h (Ze 6 (hgg:=by simp [Zx,Zs,Yy hgb (show 6≤6 by decide)]))
  exact VW.skip (VW.block (Zj [0,3] hC (q:=(Zn (aI .i64 y104 1) (Yr h1) (Ze 6 (hgg:=by simp [Zx,Zs,Yy hgb (show 6≤6 by decide)]))))))
 rintro y62 h
 replace h : (g73_j1 r1 y62).bind _ = _:=h
 rw [g73_j1] at h
 refine VW.seq ?_
 obtain ⟨u63,⟨f64a,f64b,f64c,f64d,f64e⟩,h⟩:=Gj h
 try simp only [Int.toNat_natCast,Int.reduceToNat,List.length_cons,List.length_nil,Nat.reduceAdd,Nat.zero_add] at f64a f64b f64c f64d f64e
 refine Wt [2] hC Wc (h:=by simp -implicitDefEqProofs [f64a,f64b,f64c,f64d,f64e,hgk]; exact .rfl) (q:=?_)
 obtain rfl:=(Yz h).symm
 exact VW.ret (VInX.fin (Ze (t':=(tm 69 [(2,.str (r1.line_.extract r1.at_.toNat y62.toNat))])) (m':=(Zi pc r1.line_ y62 r1.names_ r1.code_ r1.bad_)) 6 (hgg:=by simp [Zx,Zs,Yy hgb (show 6≤6 by decide)])) (by simp) (by simp [Zr]) rfl)
def g171_j1 (r_ : T139) (y27 : Int) : Option (ByteArray × T139) :=
(Jw r_.at_ y27 r_.line_.size).bind fun u28 =>
some ((r_.line_.extract r_.at_.toNat y27.toNat),(⟨r_.line_,y27,r_.names_,r_.code_,r_.bad_⟩ : T139))
def g171_L1 (r_ : T139) : (Int)→Option ((Int) ⊕ (Int))
| y47 =>
(if Zo y47 (r_.line_.size : Int) = true then (Wg r_.line_ y47).bind fun e48 => (g112 e48).bind fun r50 => some r50 else some false).bind fun w52 =>
if w52 = true then
some (.inl (aI .i64 y47 1))
else
some (.inr y47)
def g171 (r_ : T139) : Option (ByteArray × T139) :=
(loopO (g171_L1 r_) r_.at_).bind fun w => g171_j1 r_ w
theorem ok171 : Xr Tryz.prog 171 (fun a : (List T189) × T139 => g171 a.2) (fun a => [.ptr 4 0 0]) (fun a => Zr a.1 a.2) (fun r => .str r.1) (fun a r => Zr a.1 r.2) (Uf 5) 6:=by
 refine Xr.of Tryz.func171 (by kernel_rfl) rfl rfl rfl ?_
 rintro ⟨pc,r_⟩ r h gg hgk hgb
 replace h : (g171 r_).bind some = some r:=Qi h
 rw [g171] at h
 have hC : Qc.Ok Tryz.prog [(112,F112)]:=⟨.inl ok112,trivial⟩
 refine VW.ent (s:=(⟨(tm 47 [(0,.ptr 4 0 0)]),(Zi pc r_.line_ r_.at_ r_.names_ r_.code_ r_.bad_),gg⟩ : VS)) (Wf (by simp only [List.length_cons,List.length_nil,Nat.reduceAdd,Nat.reduceSub]; rw [Wd]; simp) rfl rfl) (VW.seq (Zj [0] hC (q:=(VW.seq (Zj [0,3] hC (q:=(VW.join (fun (v : Int) => (⟨(tm 47 [(0,.ptr 4 0 0),(3,.i .i64 r_.at_)]),(Zi pc r_.line_ v r_.names_ r_.code_ r_.bad_),gg⟩ : VS)) (fun v => (g171_j1 r_ (v)).bind some = some r) ?_ ?_)))))))
 ·refine VW.block ?_
  obtain ⟨w_1,hw_1,h⟩:=Zc h
  refine VW.loopO (fun (x : Int) => (⟨(tm 47 [(0,.ptr 4 0 0),(3,.i .i64 r_.at_)]),(Zi pc r_.line_ x r_.names_ r_.code_ r_.bad_),gg⟩ : VS)) hw_1 (Ze 6 (hgg:=by simp [Zx,Zs,Yy hgb (show 6≤6 by decide)])) ?_
  rintro n_1 y47 h1
  rw [g171_L1] at h1
  refine VW.seq (VW.seq ?_)
  obtain ⟨w52,q54,h1⟩:=Zc h1
  refine Ug (tm 47 [(0,.ptr 4 0 0),(3,.i .i64 r_.at_),(29,.b w52)]) (Zi pc r_.line_ y47 r_.names_ r_.code_ r_.bad_) gg hC Wc (by kernel_rfl) (by
    obtain ⟨q55,q54⟩ | ⟨q55,rfl⟩:=Ux q54
    ·obtain ⟨e48,q49,q54⟩:=Yb q54
     obtain ⟨f49a,c49,f49b,f49c,f49d⟩:=Xq q49
     obtain ⟨r50,q51,q54⟩:=Yb q54
     have c51:=tl112 q51
     obtain rfl:=Option.some.inj q54
     simp -implicitDefEqProofs [q55,f49a,f49b,f49c,f49d,c51,hgk]
    simp -implicitDefEqProofs [q55,hgk]) ?_
  refine Zk h1 (fun h1 => ?_) (fun h1 => ?_)
  ·refine VW.exit ?_
   have e_:=Yd h1
   subst w_1
   exact Zn y47 h (Ze 6 (hgg:=by simp [Zx,Zs,Yy hgb (show 6≤6 by decide)]))
  exact VW.skip (VW.block (Zj [0,3] hC (q:=(Zn (aI .i64 y47 1) (Yr h1) (Ze 6 (hgg:=by simp [Zx,Zs,Yy hgb (show 6≤6 by decide)]))))))
 rintro y27 h
 replace h : (g171_j1 r_ y27).bind _ = _:=h
 rw [g171_j1] at h
 refine VW.seq ?_
 obtain ⟨u28,⟨f29a,f29b,f29c,f29d,f29e⟩,h⟩:=Gj h
 try simp only [Int.toNat_natCast,Int.reduceToNat,List.length_cons,List.length_nil,Nat.reduceAdd,Nat.zero_add] at f29a f29b f29c f29d f29e
 refine Wt [2] hC Wc (h:=by simp -implicitDefEqProofs [f29a,f29b,f29c,f29d,f29e,hgk]; exact .rfl) (q:=?_)
 obtain rfl:=(Yz h).symm
 exact VW.ret (VInX.fin (Ze (t':=(tm 47 [(2,.str (r_.line_.extract r_.at_.toNat y27.toNat))])) (m':=(Zi pc r_.line_ y27 r_.names_ r_.code_ r_.bad_)) 6 (hgg:=by simp [Zx,Zs,Yy hgb (show 6≤6 by decide)])) (by simp) (by simp [Zr]) rfl)
def g79 (r_ : T139) (kind : Int) (at_ : Int) (num : F32) : Option (T139) :=
(Jm 8 r_.code_ [(⟨kind,cI .i16 at_,num⟩ : T189)]).bind fun u1 =>
some (⟨r_.line_,r_.at_,r_.names_,(r_.code_ ++ [(⟨kind,cI .i16 at_,num⟩ : T189)]),r_.bad_⟩ : T139)
theorem ok79 : Xr Tryz.prog 79 (fun a : (List T189) × T139 × Int × Int × F32 => g79 a.2.1 a.2.2.1 a.2.2.2.1 a.2.2.2.2) (fun a => [.ptr 4 0 0,.i .i8 a.2.2.1,.i .i64 a.2.2.2.1,.f .f32 a.2.2.2.2]) (fun a => Zr a.1 a.2.1) (fun _ => .tup []) (fun a r => Zr a.1 r) (Uf 5) 6:=by
 refine Xr.of Tryz.func79 (by kernel_rfl) rfl rfl rfl ?_
 rintro ⟨pc,r_,kind,at_,num⟩ r h gg hgk hgb
 replace h : (g79 r_ kind at_ num).bind some = some r:=Qi h
 rw [g79] at h
 have hC : Qc.Ok Tryz.prog []:=trivial
 refine VW.ent (s:=(⟨(tm 22 [(0,.ptr 4 0 0),(1,.i .i8 kind),(2,.i .i64 at_),(3,.f .f32 num)]),(Zi pc r_.line_ r_.at_ r_.names_ r_.code_ r_.bad_),gg⟩ : VS)) (Wf (by simp only [List.length_cons,List.length_nil,Nat.reduceAdd,Nat.reduceSub]; rw [Wd]; simp) rfl rfl) ?_
 obtain ⟨u1,⟨f2a,f2b⟩,h⟩:=Jp h
 try simp only [Int.toNat_natCast,Int.reduceToNat,List.length_cons,List.length_nil,Nat.reduceAdd,Nat.zero_add] at f2a f2b
 refine VW.evalM (CM:=[]) (tm 22 []) [some (2,[[.nil,.nil]]),some (2,[[.ref 2 0 r_.names_.length,.ref 3 0 pc.length]]),some (1,rows Yu r_.names_),some (3,rows Yi pc),some (5,[[.str r_.line_,.i .i64 r_.at_,.ref 2 0 r_.names_.length,.ref 5 0 (r_.code_ ++ [(⟨kind,cI .i16 at_,num⟩ : T189)]).length,.b r_.bad_]]),some (3,rows Yi (r_.code_ ++ [(⟨kind,cI .i16 at_,num⟩ : T189)])),some (3,rows Yi [(⟨kind,cI .i16 at_,num⟩ : T189)])] gg hC trivial (by simp -implicitDefEqProofs [f2a,f2b,hgk]) ?_
 obtain rfl:=(Yz h).symm
 exact (VInX.fin (Ze (t':=(tm 22 [])) (m':=(Zi pc r_.line_ r_.at_ r_.names_ (r_.code_ ++ [(⟨kind,cI .i16 at_,num⟩ : T189)]) r_.bad_)) 6 (hgg:=by simp [Zx,Zs,Yy hgb (show 6≤6 by decide)])) (by simp) (by simp [Zr]) rfl)
def g165_j1 (r1 : ByteArray × T139) (under_158 : Int) (l159 : List ByteArray) (y160 : ByteArray) (y161 : Int) (y162 : Bool) (l163 : List T189) : Option (T139) :=
(g173 r1.1).bind fun r164 =>
(g79 (⟨y160,y161,l159,l163,y162⟩ : T139) 1 0 (quoF .f32 (Ge .f32 r164.1) (Ge .f32 under_158))).bind fun r166 =>
some r166
def g165_j2 (r172 : ByteArray × T139) (r1 : ByteArray × T139) (under_244 : Int) : Option (T139) :=
if Yx under_244 0 = true then
some (⟨r172.2.line_,r172.2.at_,r172.2.names_,r172.2.code_,true⟩ : T139)
else
g165_j1 r1 under_244 r172.2.names_ r172.2.line_ r172.2.at_ r172.2.bad_ r172.2.code_
def g165_j12 (r172 : ByteArray × T139) (r1 : ByteArray × T139) (under_285 : Int) : Option (T139) :=
g165_j2 r172 r1 under_285
def g165_j11 (r172 : ByteArray × T139) (r1 : ByteArray × T139) (under_281 : Int) : Option (T139) :=
(g172 1024).bind fun r286 =>
if Jb r286 r172.1 = true then
g165_j12 r172 r1 1024
else
g165_j12 r172 r1 under_281
def g165_j10 (r172 : ByteArray × T139) (r1 : ByteArray × T139) (under_277 : Int) : Option (T139) :=
(g172 512).bind fun r289 =>
if Jb r289 r172.1 = true then
g165_j11 r172 r1 512
else
g165_j11 r172 r1 under_277
def g165_j9 (r172 : ByteArray × T139) (r1 : ByteArray × T139) (under_273 : Int) : Option (T139) :=
(g172 256).bind fun r292 =>
if Jb r292 r172.1 = true then
g165_j10 r172 r1 256
else
g165_j10 r172 r1 under_273
def g165_j8 (r172 : ByteArray × T139) (r1 : ByteArray × T139) (under_269 : Int) : Option (T139) :=
(g172 128).bind fun r295 =>
if Jb r295 r172.1 = true then
g165_j9 r172 r1 128
else
g165_j9 r172 r1 under_269
def g165_j7 (r172 : ByteArray × T139) (r1 : ByteArray × T139) (under_265 : Int) : Option (T139) :=
(g172 64).bind fun r298 =>
if Jb r298 r172.1 = true then
g165_j8 r172 r1 64
else
g165_j8 r172 r1 under_265
def g165_j6 (r172 : ByteArray × T139) (r1 : ByteArray × T139) (under_261 : Int) : Option (T139) :=
(g172 32).bind fun r301 =>
if Jb r301 r172.1 = true then
g165_j7 r172 r1 32
else
g165_j7 r172 r1 under_261
def g165_j5 (r172 : ByteArray × T139) (r1 : ByteArray × T139) (under_257 : Int) : Option (T139) :=
(g172 16).bind fun r304 =>
if Jb r304 r172.1 = true then
g165_j6 r172 r1 16
else
g165_j6 r172 r1 under_257
def g165_j4 (r172 : ByteArray × T139) (r1 : ByteArray × T139) (under_253 : Int) : Option (T139) :=
(g172 8).bind fun r307 =>
if Jb r307 r172.1 = true then
g165_j5 r172 r1 8
else
g165_j5 r172 r1 under_253
def g165_j3 (r172 : ByteArray × T139) (r1 : ByteArray × T139) (under_249 : Int) : Option (T139) :=
(g172 4).bind fun r310 =>
if Jb r310 r172.1 = true then
g165_j4 r172 r1 4
else
g165_j4 r172 r1 under_249
def g165 (r_ : T139) : Option (T139) :=
(g171 r_).bind fun r1 =>
(if Zo 6 (r1.1.size : Int) = true then some true else (if Zo 1 (r1.1.size : Int) = true then (Wg r1.1 0).bind fun e3 => some (Yx e3 48) else some false).bind fun w5 => some w5).bind fun w6 =>
if w6 = true then
some (⟨r1.2.line_,r1.2.at_,r1.2.names_,r1.2.code_,true⟩ : T139)
else
(if Zo r1.2.at_ (r1.2.line_.size : Int) = true then (Wg r1.2.line_ r1.2.at_).bind fun e168 => some (Yx e168 47) else some false).bind fun w170 =>
if w170 = true then
(g171 (⟨r1.2.line_,aI .i64 r1.2.at_ 1,r1.2.names_,r1.2.code_,r1.2.bad_⟩ : T139)).bind fun r172 =>
(g172 2).bind fun r313 =>
if Jb r313 r172.1 = true then
g165_j3 r172 r1 2
else
g165_j3 r172 r1 0
else
g165_j1 r1 1 r1.2.names_ r1.2.line_ r1.2.at_ r1.2.bad_ r1.2.code_
theorem ok165 : Xr Tryz.prog 165 (fun a : (List T189) × T139 => g165 a.2) (fun a => [.ptr 4 0 0]) (fun a => Zr a.1 a.2) (fun _ => .tup []) (fun a r => Zr a.1 r) (Uf 5) 6:=by
 refine Xr.of Tryz.func165 (by kernel_rfl) rfl rfl rfl ?_
 rintro ⟨pc,r_⟩ r h gg hgk hgb
 replace h : (g165 r_).bind some = some r:=Qi h
 rw [g165] at h
 have hC : Qc.Ok Tryz.prog [(172,F172),(173,F173)]:=⟨.inl ok172,.inl ok173,trivial⟩
 refine VW.ent (s:=(⟨(tm 83 [(0,.ptr 4 0 0)]),(Zi pc r_.line_ r_.at_ r_.names_ r_.code_ r_.bad_),gg⟩ : VS)) (Wf (by simp only [List.length_cons,List.length_nil,Nat.reduceAdd,Nat.reduceSub]; rw [Wd]; simp) rfl rfl) (VW.seq (Zy (Zv 1 (tm 83 [(0,.ptr 4 0 0),(8,.ptr 4 0 0)]) (Zi pc r_.line_ r_.at_ r_.names_ r_.code_ r_.bad_) gg hC (by kernel_rfl) (by simp -implicitDefEqProofs [hgk]) ?_)))
 obtain ⟨r1,q2,h⟩:=Zc h
 refine Zq (ok171) (pc,r_) r1 q2 (by simp [Zm]) rfl (by simp) (by simp [Zr]) (by simp [hgk]) (by simp [Zx,Zs,hgb]) (Zu (t':=(tm 83 [(0,.ptr 4 0 0),(8,.ptr 4 0 0),(9,.str r1.1)])) (m':=(Zi pc r1.2.line_ r1.2.at_ r1.2.names_ r1.2.code_ r1.2.bad_)) (g':=gg) (by simp) (by simp [Zr]) (by simp) (Zp (tm 83 [(0,.ptr 4 0 0),(2,.str r1.1)]) (Zi pc r1.2.line_ r1.2.at_ r1.2.names_ r1.2.code_ r1.2.bad_) gg hC (by kernel_rfl) (by simp -implicitDefEqProofs [hgk]) (VW.seq (Za [0,2,3] hC (h:=by simp -implicitDefEqProofs [hgk]; exact .rfl) (q:=(VW.seq (VW.seq ?_)))))))
 obtain ⟨w6,q318,h⟩:=Zc h
 refine Yg (tm 83 [(0,.ptr 4 0 0),(2,.str r1.1),(3,.i .i64 1),(22,.b w6)]) (Zi pc r1.2.line_ r1.2.at_ r1.2.names_ r1.2.code_ r1.2.bad_) gg hC (by kernel_rfl) (by
   obtain ⟨q319,q318⟩ | ⟨q319,rfl⟩:=Uh q318
   ·obtain ⟨w5,q320,q318⟩:=Yb q318
    obtain rfl:=Option.some.inj q318
    obtain ⟨q321,q320⟩ | ⟨q321,rfl⟩:=Ux q320
    ·obtain ⟨e3,q4,q320⟩:=Yb q320
     obtain ⟨f4a,c4,f4b,f4c,f4d⟩:=Xq q4
     simp only [Int.reduceToNat] at f4b f4d
     obtain rfl:=Option.some.inj q320
     simp -implicitDefEqProofs [q319,q321,f4a,f4b,f4c,f4d,hgk]
    simp -implicitDefEqProofs [q319,q321,hgk]
   simp -implicitDefEqProofs [q319,hgk]) ?_
 refine Zd h (fun h => ?_) (fun h => ?_)
 ·refine VW.seq (Za [] hC (h:=by simp -implicitDefEqProofs [hgk]; exact .rfl) (q:=?_))
  obtain rfl:=(Yz h).symm
  exact VW.ret (VInX.fin (Ze (t':=(tm 83 [])) (m':=(Zi pc r1.2.line_ r1.2.at_ r1.2.names_ r1.2.code_ true)) 6 (hgg:=by simp [Zx,Zs,Yy hgb (show 6≤6 by decide)])) (by simp) (by simp [Zr]) rfl)
 refine VW.skip (VW.join (fun (v : Int × (List ByteArray) × ByteArray × Int × Bool × (List T189)) => (⟨(tm 83 [(0,.ptr 4 0 0),(2,.str r1.1),(3,.i .i64 v.1)]),(Zi pc v.2.2.1 v.2.2.2.1 v.2.1 v.2.2.2.2.2 v.2.2.2.2.1),gg⟩ : VS)) (fun v => (g165_j1 r1 (v.1) (v.2.1) (v.2.2.1) (v.2.2.2.1) (v.2.2.2.2.1) (v.2.2.2.2.2)).bind some = some r) ?_ ?_)
 ·refine VW.seq ?_
  obtain ⟨w170,q316,h⟩:=Zc h
  refine Ug (tm 83 [(0,.ptr 4 0 0),(2,.str r1.1),(3,.i .i64 1),(47,.b w170)]) (Zi pc r1.2.line_ r1.2.at_ r1.2.names_ r1.2.code_ r1.2.bad_) gg hC Wc (by kernel_rfl) (by
    obtain ⟨q317,q316⟩ | ⟨q317,rfl⟩:=Ux q316
    ·obtain ⟨e168,q169,q316⟩:=Yb q316
     obtain ⟨f169a,c169,f169b,f169c,f169d⟩:=Xq q169
     obtain rfl:=Option.some.inj q316
     simp -implicitDefEqProofs [q317,f169a,f169b,f169c,f169d,hgk]
    simp -implicitDefEqProofs [q317,hgk]) ?_
  refine Zk h (fun h => ?_) (fun h => ?_)
  ·exact VW.skip (Zn (1,r1.2.names_,r1.2.line_,r1.2.at_,r1.2.bad_,r1.2.code_) h (Ze 6 (hgg:=by simp [Zx,Zs,Yy hgb (show 6≤6 by decide)])))
  refine VW.seq (Za [0,2] hC (h:=by simp -implicitDefEqProofs [hgk]; exact .rfl) (q:=(VW.seq (Zy (Zv 1 (tm 83 [(0,.ptr 4 0 0),(2,.str r1.1),(55,.ptr 4 0 0)]) (Zi pc r1.2.line_ (aI .i64 r1.2.at_ 1) r1.2.names_ r1.2.code_ r1.2.bad_) gg hC (by kernel_rfl) (by simp -implicitDefEqProofs [hgk]) ?_)))))
  obtain ⟨r172,q173,h⟩:=Zc h
  refine Zq (ok171) (pc,(⟨r1.2.line_,aI .i64 r1.2.at_ 1,r1.2.names_,r1.2.code_,r1.2.bad_⟩ : T139)) r172 q173 (by simp [Zm]) rfl (by simp) (by simp [Zr]) (by simp [hgk]) (by simp [Zx,Zs,hgb]) (Zu (t':=(tm 83 [(0,.ptr 4 0 0),(2,.str r1.1),(55,.ptr 4 0 0),(56,.str r172.1)])) (m':=(Zi pc r172.2.line_ r172.2.at_ r172.2.names_ r172.2.code_ r172.2.bad_)) (g':=gg) (by simp) (by simp [Zr]) (by simp) (Zp (tm 83 [(0,.ptr 4 0 0),(2,.str r1.1),(4,.str r172.1)]) (Zi pc r172.2.line_ r172.2.at_ r172.2.names_ r172.2.code_ r172.2.bad_) gg hC (by kernel_rfl) (by simp -implicitDefEqProofs [hgk]) (VW.seq (Za [0,2,3,4] hC (h:=by simp -implicitDefEqProofs [hgk]; exact .rfl) (q:=(VW.join (fun (v : Int) => (⟨(tm 83 [(0,.ptr 4 0 0),(2,.str r1.1),(3,.i .i64 v)]),(Zi pc r172.2.line_ r172.2.at_ r172.2.names_ r172.2.code_ r172.2.bad_),gg⟩ : VS)) (fun v => (g165_j2 r172 r1 (v)).bind some = some r) ?_ ?_))))))
  ·refine VW.seq (Za [0,2,3,4,5] hC (h:=by simp -implicitDefEqProofs [hgk]; exact .rfl) (q:=(VW.block (VW.rounds 12 (VRounds.join (fun (v : Int) => (⟨(tm 83 [(0,.ptr 4 0 0),(2,.str r1.1),(3,.i .i64 v),(4,.str r172.1),(5,.i .i64 4)]),(Zi pc r172.2.line_ r172.2.at_ r172.2.names_ r172.2.code_ r172.2.bad_),gg⟩ : VS)) (fun v => (g165_j3 r172 r1 (v)).bind some = some r) ?_ ?_)))))
   ·refine VW.seq (VW.seq (Za [0,2,3,4,5,58] hC (h:=by simp -implicitDefEqProofs [(by decide : Xa 2 1024 = true),hgk]; exact .rfl) (q:=(Ye (by simp) (VW.skip (VW.seq (VW.block (VW.seq ?_))))))))
    obtain ⟨r313,q314,h⟩:=Zc h
    have c314:=tl172 q314
    refine Za [0,2,3,4,5,64] hC (h:=by simp -implicitDefEqProofs [c314,hgk]; exact .rfl) (q:=(Zk h (fun h => ?_) (fun h => ?_)))
    ·exact VW.skip (Za [0,2,3,4,5] hC (h:=by simp -implicitDefEqProofs [(by decide : mI .i64 2 2 = 4),hgk]; exact .rfl) (q:=(Zn 0 h (Ze 6 (hgg:=by simp [Zx,Zs,Yy hgb (show 6≤6 by decide)])))))
    exact Za [0,2,3,4,5] hC (h:=by simp -implicitDefEqProofs [hgk]; exact .rfl) (q:=(Za [0,2,3,4,5] hC (h:=by simp -implicitDefEqProofs [(by decide : mI .i64 2 2 = 4),hgk]; exact .rfl) (q:=(Zn 2 h (Ze 6 (hgg:=by simp [Zx,Zs,Yy hgb (show 6≤6 by decide)]))))))
   rintro under_249 h
   replace h : (g165_j3 r172 r1 under_249).bind _ = _:=h
   rw [g165_j3] at h
   refine VRounds.join (fun (v : Int) => (⟨(tm 83 [(0,.ptr 4 0 0),(2,.str r1.1),(3,.i .i64 v),(4,.str r172.1),(5,.i .i64 8)]),(Zi pc r172.2.line_ r172.2.at_ r172.2.names_ r172.2.code_ r172.2.bad_),gg⟩ : VS)) (fun v => (g165_j4 r172 r1 (v)).bind some = some r) ?_ ?_
   ·refine VW.seq (VW.seq (Za [0,2,3,4,5,58] hC (h:=by simp -implicitDefEqProofs [(by decide : Xa 4 1024 = true),hgk]; exact .rfl) (q:=(Ye (by simp) (VW.skip (VW.seq (VW.block (VW.seq ?_))))))))
    obtain ⟨r310,q311,h⟩:=Zc h
    have c311:=tl172 q311
    refine Za [0,2,3,4,5,64] hC (h:=by simp -implicitDefEqProofs [c311,hgk]; exact .rfl) (q:=(Zk h (fun h => ?_) (fun h => ?_)))
    ·exact VW.skip (Za [0,2,3,4,5] hC (h:=by simp -implicitDefEqProofs [(by decide : mI .i64 4 2 = 8),hgk]; exact .rfl) (q:=(Zn under_249 h (Ze 6 (hgg:=by simp [Zx,Zs,Yy hgb (show 6≤6 by decide)])))))
    exact Za [0,2,3,4,5] hC (h:=by simp -implicitDefEqProofs [hgk]; exact .rfl) (q:=(Za [0,2,3,4,5] hC (h:=by simp -implicitDefEqProofs [(by decide : mI .i64 4 2 = 8),hgk]; exact .rfl) (q:=(Zn 4 h (Ze 6 (hgg:=by simp [Zx,Zs,Yy hgb (show 6≤6 by decide)]))))))
   rintro under_253 h
   replace h : (g165_j4 r172 r1 under_253).bind _ = _:=h
   rw [g165_j4] at h
   refine VRounds.join (fun (v : Int) => (⟨(tm 83 [(0,.ptr 4 0 0),(2,.str r1.1),(3,.i .i64 v),(4,.str r172.1),(5,.i .i64 16)]),(Zi pc r172.2.line_ r172.2.at_ r172.2.names_ r172.2.code_ r172.2.bad_),gg⟩ : VS)) (fun v => (g165_j5 r172 r1 (v)).bind some = some r) ?_ ?_
   ·refine VW.seq (VW.seq (Za [0,2,3,4,5,58] hC (h:=by simp -implicitDefEqProofs [(by decide : Xa 8 1024 = true),hgk]; exact .rfl) (q:=(Ye (by simp) (VW.skip (VW.seq (VW.block (VW.seq ?_))))))))
    obtain ⟨r307,q308,h⟩:=Zc h
    have c308:=tl172 q308
    refine Za [0,2,3,4,5,64] hC (h:=by simp -implicitDefEqProofs [c308,hgk]; exact .rfl) (q:=(Zk h (fun h => ?_) (fun h => ?_)))
    ·exact VW.skip (Za [0,2,3,4,5] hC (h:=by simp -implicitDefEqProofs [(by decide : mI .i64 8 2 = 16),hgk]; exact .rfl) (q:=(Zn under_253 h (Ze 6 (hgg:=by simp [Zx,Zs,Yy hgb (show 6≤6 by decide)])))))
    exact Za [0,2,3,4,5] hC (h:=by simp -implicitDefEqProofs [hgk]; exact .rfl) (q:=(Za [0,2,3,4,5] hC (h:=by simp -implicitDefEqProofs [(by decide : mI .i64 8 2 = 16),hgk]; exact .rfl) (q:=(Zn 8 h (Ze 6 (hgg:=by simp [Zx,Zs,Yy hgb (show 6≤6 by decide)]))))))
   rintro under_257 h
   replace h : (g165_j5 r172 r1 under_257).bind _ = _:=h
   rw [g165_j5] at h
   refine VRounds.join (fun (v : Int) => (⟨(tm 83 [(0,.ptr 4 0 0),(2,.str r1.1),(3,.i .i64 v),(4,.str r172.1),(5,.i .i64 32)]),(Zi pc r172.2.line_ r172.2.at_ r172.2.names_ r172.2.code_ r172.2.bad_),gg⟩ : VS)) (fun v => (g165_j6 r172 r1 (v)).bind some = some r) ?_ ?_
   ·refine VW.seq (VW.seq (Za [0,2,3,4,5,58] hC (h:=by simp -implicitDefEqProofs [(by decide : Xa 16 1024 = true),hgk]; exact .rfl) (q:=(Ye (by simp) (VW.skip (VW.seq (VW.block (VW.seq ?_))))))))
    obtain ⟨r304,q305,h⟩:=Zc h
    have c305:=tl172 q305
    refine Za [0,2,3,4,5,64] hC (h:=by simp -implicitDefEqProofs [c305,hgk]; exact .rfl) (q:=(Zk h (fun h => ?_) (fun h => ?_)))
    ·exact VW.skip (Za [0,2,3,4,5] hC (h:=by simp -implicitDefEqProofs [(by decide : mI .i64 16 2 = 32),hgk]; exact .rfl) (q:=(Zn under_257 h (Ze 6 (hgg:=by simp [Zx,Zs,Yy hgb (show 6≤6 by decide)])))))
    exact Za [0,2,3,4,5] hC (h:=by simp -implicitDefEqProofs [hgk]; exact .rfl) (q:=(Za [0,2,3,4,5] hC (h:=by simp -implicitDefEqProofs [(by decide : mI .i64 16 2 = 32),hgk]; exact .rfl) (q:=(Zn 16 h (Ze 6 (hgg:=by simp [Zx,Zs,Yy hgb (show 6≤6 by decide)]))))))
   rintro under_261 h
   replace h : (g165_j6 r172 r1 under_261).bind _ = _:=h
   rw [g165_j6] at h
   refine VRounds.join (fun (v : Int) => (⟨(tm 83 [(0,.ptr 4 0 0),(2,.str r1.1),(3,.i .i64 v),(4,.str r172.1),(5,.i .i64 64)]),(Zi pc r172.2.line_ r172.2.at_ r172.2.names_ r172.2.code_ r172.2.bad_),gg⟩ : VS)) (fun v => (g165_j7 r172 r1 (v)).bind some = some r) ?_ ?_
   ·refine VW.seq (VW.seq (Za [0,2,3,4,5,58] hC (h:=by simp -implicitDefEqProofs [(by decide : Xa 32 1024 = true),hgk]; exact .rfl) (q:=(Ye (by simp) (VW.skip (VW.seq (VW.block (VW.seq ?_))))))))
    obtain ⟨r301,q302,h⟩:=Zc h
    have c302:=tl172 q302
    refine Za [0,2,3,4,5,64] hC (h:=by simp -implicitDefEqProofs [c302,hgk]; exact .rfl) (q:=(Zk h (fun h => ?_) (fun h => ?_)))
    ·exact VW.skip (Za [0,2,3,4,5] hC (h:=by simp -implicitDefEqProofs [(by decide : mI .i64 32 2 = 64),hgk]; exact .rfl) (q:=(Zn under_261 h (Ze 6 (hgg:=by simp [Zx,Zs,Yy hgb (show 6≤6 by decide)])))))
    exact Za [0,2,3,4,5] hC (h:=by simp -implicitDefEqProofs [hgk]; exact .rfl) (q:=(Za [0,2,3,4,5] hC (h:=by simp -implicitDefEqProofs [(by decide : mI .i64 32 2 = 64),hgk]; exact .rfl) (q:=(Zn 32 h (Ze 6 (hgg:=by simp [Zx,Zs,Yy hgb (show 6≤6 by decide)]))))))
   rintro under_265 h
   replace h : (g165_j7 r172 r1 under_265).bind _ = _:=h
   rw [g165_j7] at h
   refine VRounds.join (fun (v : Int) => (⟨(tm 83 [(0,.ptr 4 0 0),(2,.str r1.1),(3,.i .i64 v),(4,.str r172.1),(5,.i .i64 128)]),(Zi pc r172.2.line_ r172.2.at_ r172.2.names_ r172.2.code_ r172.2.bad_),gg⟩ : VS)) (fun v => (g165_j8 r172 r1 (v)).bind some = some r) ?_ ?_
   ·refine VW.seq (VW.seq (Za [0,2,3,4,5,58] hC (h:=by simp -implicitDefEqProofs [(by decide : Xa 64 1024 = true),hgk]; exact .rfl) (q:=(Ye (by simp) (VW.skip (VW.seq (VW.block (VW.seq ?_))))))))
    obtain ⟨r298,q299,h⟩:=Zc h
    have c299:=tl172 q299
    refine Za [0,2,3,4,5,64] hC (h:=by simp -implicitDefEqProofs [c299,hgk]; exact .rfl) (q:=(Zk h (fun h => ?_) (fun h => ?_)))
    ·exact VW.skip (Za [0,2,3,4,5] hC (h:=by simp -implicitDefEqProofs [(by decide : mI .i64 64 2 = 128),hgk]; exact .rfl) (q:=(Zn under_265 h (Ze 6 (hgg:=by simp [Zx,Zs,Yy hgb (show 6≤6 by decide)])))))
    exact Za [0,2,3,4,5] hC (h:=by simp -implicitDefEqProofs [hgk]; exact .rfl) (q:=(Za [0,2,3,4,5] hC (h:=by simp -implicitDefEqProofs [(by decide : mI .i64 64 2 = 128),hgk]; exact .rfl) (q:=(Zn 64 h (Ze 6 (hgg:=by simp [Zx,Zs,Yy hgb (show 6≤6 by decide)]))))))
   rintro under_269 h
   replace h : (g165_j8 r172 r1 under_269).bind _ = _:=h
   rw [g165_j8] at h
   refine VRounds.join (fun (v : Int) => (⟨(tm 83 [(0,.ptr 4 0 0),(2,.str r1.1),(3,.i .i64 v),(4,.str r172.1),(5,.i .i64 256)]),(Zi pc r172.2.line_ r172.2.at_ r172.2.names_ r172.2.code_ r172.2.bad_),gg⟩ : VS)) (fun v => (g165_j9 r172 r1 (v)).bind some = some r) ?_ ?_
   ·refine VW.seq (VW.seq (Za [0,2,3,4,5,58] hC (h:=by simp -implicitDefEqProofs [(by decide : Xa 128 1024 = true),hgk]; exact .rfl) (q:=(Ye (by simp) (VW.skip (VW.seq (VW.block (VW.seq ?_))))))))
    obtain ⟨r295,q296,h⟩:=Zc h
    have c296:=tl172 q296
    refine Za [0,2,3,4,5,64] hC (h:=by simp -implicitDefEqProofs [c296,hgk]; exact .rfl) (q:=(Zk h (fun h => ?_) (fun h => ?_)))
    ·exact VW.skip (Za [0,2,3,4,5] hC (h:=by simp -implicitDefEqProofs [(by decide : mI .i64 128 2 = 256),hgk]; exact .rfl) (q:=(Zn under_269 h (Ze 6 (hgg:=by simp [Zx,Zs,Yy hgb (show 6≤6 by decide)])))))
    exact Za [0,2,3,4,5] hC (h:=by simp -implicitDefEqProofs [hgk]; exact .rfl) (q:=(Za [0,2,3,4,5] hC (h:=by simp -implicitDefEqProofs [(by decide : mI .i64 128 2 = 256),hgk]; exact .rfl) (q:=(Zn 128 h (Ze 6 (hgg:=by simp [Zx,Zs,Yy hgb (show 6≤6 by decide)]))))))
   rintro under_273 h
   replace h : (g165_j9 r172 r1 under_273).bind _ = _:=h
   rw [g165_j9] at h
   refine VRounds.join (fun (v : Int) => (⟨(tm 83 [(0,.ptr 4 0 0),(2,.str r1.1),(3,.i .i64 v),(4,.str r172.1),(5,.i .i64 512)]),(Zi pc r172.2.line_ r172.2.at_ r172.2.names_ r172.2.code_ r172.2.bad_),gg⟩ : VS)) (fun v => (g165_j10 r172 r1 (v)).bind some = some r) ?_ ?_
   ·refine VW.seq (VW.seq (Za [0,2,3,4,5,58] hC (h:=by simp -implicitDefEqProofs [(by decide : Xa 256 1024 = true),hgk]; exact .rfl) (q:=(Ye (by simp) (VW.skip (VW.seq (VW.block (VW.seq ?_))))))))
    obtain ⟨r292,q293,h⟩:=Zc h
    have c293:=tl172 q293
    refine Za [0,2,3,4,5,64] hC (h:=by simp -implicitDefEqProofs [c293,hgk]; exact .rfl) (q:=(Zk h (fun h => ?_) (fun h => ?_)))
    ·exact VW.skip (Za [0,2,3,4,5] hC (h:=by simp -implicitDefEqProofs [(by decide : mI .i64 256 2 = 512),hgk]; exact .rfl) (q:=(Zn under_273 h (Ze 6 (hgg:=by simp [Zx,Zs,Yy hgb (show 6≤6 by decide)])))))
    exact Za [0,2,3,4,5] hC (h:=by simp -implicitDefEqProofs [hgk]; exact .rfl) (q:=(Za [0,2,3,4,5] hC (h:=by simp -implicitDefEqProofs [(by decide : mI .i64 256 2 = 512),hgk]; exact .rfl) (q:=(Zn 256 h (Ze 6 (hgg:=by simp [Zx,Zs,Yy hgb (show 6≤6 by decide)]))))))
   rintro under_277 h
   replace h : (g165_j10 r172 r1 under_277).bind _ = _:=h
   rw [g165_j10] at h
   refine VRounds.join (fun (v : Int) => (⟨(tm 83 [(0,.ptr 4 0 0),(2,.str r1.1),(3,.i .i64 v),(4,.str r172.1),(5,.i .i64 1024)]),(Zi pc r172.2.line_ r172.2.at_ r172.2.names_ r172.2.code_ r172.2.bad_),gg⟩ : VS)) (fun v => (g165_j11 r172 r1 (v)).bind some = some r) ?_ ?_
   ·refine VW.seq (VW.seq (Za [0,2,3,4,5,58] hC (h:=by simp -implicitDefEqProofs [(by decide : Xa 512 1024 = true),hgk]; exact .rfl) (q:=(Ye (by simp) (VW.skip (VW.seq (VW.block (VW.seq ?_))))))))
    obtain ⟨r289,q290,h⟩:=Zc h
    have c290:=tl172 q290
    refine Za [0,2,3,4,5,64] hC (h:=by simp -implicitDefEqProofs [c290,hgk]; exact .rfl) (q:=(Zk h (fun h => ?_) (fun h => ?_)))
    ·exact VW.skip (Za [0,2,3,4,5] hC (h:=by simp -implicitDefEqProofs [(by decide : mI .i64 512 2 = 1024),hgk]; exact .rfl) (q:=(Zn under_277 h (Ze 6 (hgg:=by simp [Zx,Zs,Yy hgb (show 6≤6 by decide)])))))
    exact Za [0,2,3,4,5] hC (h:=by simp -implicitDefEqProofs [hgk]; exact .rfl) (q:=(Za [0,2,3,4,5] hC (h:=by simp -implicitDefEqProofs [(by decide : mI .i64 512 2 = 1024),hgk]; exact .rfl) (q:=(Zn 512 h (Ze 6 (hgg:=by simp [Zx,Zs,Yy hgb (show 6≤6 by decide)]))))))
   rintro under_281 h
   replace h : (g165_j11 r172 r1 under_281).bind _ = _:=h
   rw [g165_j11] at h
   refine VRounds.join (fun (v : Int) => (⟨(tm 83 [(0,.ptr 4 0 0),(2,.str r1.1),(3,.i .i64 v),(4,.str r172.1),(5,.i .i64 2048)]),(Zi pc r172.2.line_ r172.2.at_ r172.2.names_ r172.2.code_ r172.2.bad_),gg⟩ : VS)) (fun v => (g165_j12 r172 r1 (v)).bind some = some r) ?_ ?_
   ·refine VW.seq (VW.seq (Za [0,2,3,4,5,58] hC (h:=by simp -implicitDefEqProofs [(by decide : Xa 1024 1024 = true),hgk]; exact .rfl) (q:=(Ye (by simp) (VW.skip (VW.seq (VW.block (VW.seq ?_))))))))
    obtain ⟨r286,q287,h⟩:=Zc h
    have c287:=tl172 q287
    refine Za [0,2,3,4,5,64] hC (h:=by simp -implicitDefEqProofs [c287,hgk]; exact .rfl) (q:=(Zk h (fun h => ?_) (fun h => ?_)))
    ·exact VW.skip (Za [0,2,3,4,5] hC (h:=by simp -implicitDefEqProofs [(by decide : mI .i64 1024 2 = 2048),hgk]; exact .rfl) (q:=(Zn under_281 h (Ze 6 (hgg:=by simp [Zx,Zs,Yy hgb (show 6≤6 by decide)])))))
    exact Za [0,2,3,4,5] hC (h:=by simp -implicitDefEqProofs [hgk]; exact .rfl) (q:=(Za [0,2,3,4,5] hC (h:=by simp -implicitDefEqProofs [(by decide : mI .i64 1024 2 = 2048),hgk]; exact .rfl) (q:=(Zn 1024 h (Ze 6 (hgg:=by simp [Zx,Zs,Yy hgb (show 6≤6 by decide)]))))))
   rintro under_285 h
   replace h : (g165_j12 r172 r1 under_285).bind _ = _:=h
   rw [g165_j12] at h
   exact VRounds.step (VW.seq (VW.seq (Za [0,2,3,4,5,58] hC (h:=by simp -implicitDefEqProofs [(by decide : Xa 2048 1024 = false),hgk]; exact .rfl) (q:=(Qj (by simp) (VW.exit (Zn under_285 h (Ze 6 (hgg:=by simp [Zx,Zs,Yy hgb (show 6≤6 by decide)])))))))))
  rintro under_244 h
  replace h : (g165_j2 r172 r1 under_244).bind _ = _:=h
  rw [g165_j2] at h
  refine VW.seq (Za [0,2,3,67] hC (h:=by simp -implicitDefEqProofs [hgk]; exact .rfl) (q:=(Zk h (fun h => ?_) (fun h => ?_))))
  ·exact VW.skip (Zn (under_244,r172.2.names_,r172.2.line_,r172.2.at_,r172.2.bad_,r172.2.code_) h (Ze 6 (hgg:=by simp [Zx,Zs,Yy hgb (show 6≤6 by decide)])))
  refine VW.seq (Za [] hC (h:=by simp -implicitDefEqProofs [hgk]; exact .rfl) (q:=?_))
  obtain rfl:=(Yz h).symm
  exact VW.ret (VInX.fin (Ze (t':=(tm 83 [])) (m':=(Zi pc r172.2.line_ r172.2.at_ r172.2.names_ r172.2.code_ true)) 6 (hgg:=by simp [Zx,Zs,Yy hgb (show 6≤6 by decide)])) (by simp) (by simp [Zr]) rfl)
 rintro ⟨under_158,l159,y160,y161,y162,l163⟩ h
 replace h : (g165_j1 r1 under_158 l159 y160 y161 y162 l163).bind _ = _:=h
 rw [g165_j1] at h
 refine VW.seq ?_
 obtain ⟨r164,q165,h⟩:=Zc h
 have c165:=tl173 q165
 refine Za [0,3,6] hC (h:=by simp -implicitDefEqProofs [c165,hgk]; exact .rfl) (q:=(Zy (Zv 6 (tm 83 [(76,.ptr 4 0 0),(81,.f .f32 (quoF .f32 (Ge .f32 r164.1) (Ge .f32 under_158)))]) (Zi pc y160 y161 l159 l163 y162) gg hC (by kernel_rfl) (by simp -implicitDefEqProofs [hgk]) ?_)))
 obtain ⟨r166,q167,h⟩:=Zc h
 refine Zq (ok79) (pc,(⟨y160,y161,l159,l163,y162⟩ : T139),1,0,quoF .f32 (Ge .f32 r164.1) (Ge .f32 under_158)) r166 q167 (by simp [Zm]) rfl (by simp) (by simp [Zr]) (by simp [hgk]) (by simp [Zx,Zs,hgb]) (Zu (t':=(tm 83 [(76,.ptr 4 0 0),(81,.f .f32 (quoF .f32 (Ge .f32 r164.1) (Ge .f32 under_158))),(82,.tup [])])) (m':=(Zi pc r166.line_ r166.at_ r166.names_ r166.code_ r166.bad_)) (g':=gg) (by simp) (by simp [Zr]) (by simp) (Zp (tm 83 []) (Zi pc r166.line_ r166.at_ r166.names_ r166.code_ r166.bad_) gg hC (by kernel_rfl) (by simp -implicitDefEqProofs [hgk]) ?_))
 obtain rfl:=(Yz h).symm
 exact (VInX.fin (Ze (t':=(tm 83 [])) (m':=(Zi pc r166.line_ r166.at_ r166.names_ r166.code_ r166.bad_)) 6 (hgg:=by simp [Zx,Zs,Yy hgb (show 6≤6 by decide)])) (by simp) (by simp [Zr]) rfl)
def g138_L1 (self : T139→Option T139) : ((List ByteArray) × ByteArray × Int × Bool × (List T189))→Option (((List ByteArray) × ByteArray × Int × Bool × (List T189)) ⊕ (T139))
| (l22,y23,y24,y25,l26) =>
(g114 (⟨y23,y24,l22,l26,y25⟩ : T139) 42).bind fun r27 =>
if r27.1 = true then
(self r27.2).bind fun r30 =>
(g79 r30 7 0 (some 0)).bind fun r32 =>
some (.inl (r32.names_,r32.line_,r32.at_,r32.bad_,r32.code_))
else
some (.inr r27.2)
def g138 (self : T139→Option T139) (r_ : T139) : Option (T139) :=
(self r_).bind fun r1 =>
loopO (g138_L1 self) (r1.names_,r1.line_,r1.at_,r1.bad_,r1.code_)
theorem ok138 (self : T139→Option T139) (hself : Xr Tryz.prog 153 (fun a : (List T189) × T139 => self a.2) (fun a => [.ptr 4 0 0]) (fun a => Zr a.1 a.2) (fun _ => .tup []) (fun a r => Zr a.1 r) (Uf 5) 6) : Xr Tryz.prog 138 (fun a : (List T189) × T139 => g138 self a.2) (fun a => [.ptr 4 0 0]) (fun a => Zr a.1 a.2) (fun _ => .tup []) (fun a r => Zr a.1 r) (Uf 5) 6:=by
 refine Xr.of Tryz.func138 (by kernel_rfl) rfl rfl rfl ?_
 rintro ⟨pc,r_⟩ r h gg hgk hgb
 replace h : (g138 self r_).bind some = some r:=Qi h
 rw [g138] at h
 have hC : Qc.Ok Tryz.prog []:=trivial
 refine VW.ent (s:=(⟨(tm 10 [(0,.ptr 4 0 0)]),(Zi pc r_.line_ r_.at_ r_.names_ r_.code_ r_.bad_),gg⟩ : VS)) (Wf (by simp only [List.length_cons,List.length_nil,Nat.reduceAdd,Nat.reduceSub]; rw [Wd]; simp) rfl rfl) (VW.seq (Zy (Zv 1 (tm 10 [(0,.ptr 4 0 0),(2,.ptr 4 0 0)]) (Zi pc r_.line_ r_.at_ r_.names_ r_.code_ r_.bad_) gg hC (by kernel_rfl) (by simp -implicitDefEqProofs [hgk]) ?_)))
 obtain ⟨r1,q2,h⟩:=Zc h
 refine Zq (hself) (pc,r_) r1 q2 (by simp [Zm]) rfl (by simp) (by simp [Zr]) (by simp [hgk]) (by simp [Zx,Zs,hgb]) (Zu (t':=(tm 10 [(0,.ptr 4 0 0),(2,.ptr 4 0 0),(3,.tup [])])) (m':=(Zi pc r1.line_ r1.at_ r1.names_ r1.code_ r1.bad_)) (g':=gg) (by simp) (by simp [Zr]) (by simp) (Zp (tm 10 [(0,.ptr 4 0 0)]) (Zi pc r1.line_ r1.at_ r1.names_ r1.code_ r1.bad_) gg hC (by kernel_rfl) (by simp -implicitDefEqProofs [hgk]) (VW.block ?_)))
 obtain ⟨w_1,hw_1,h⟩:=bindT h
 refine VW.loopO (fun (x : (List ByteArray) × ByteArray × Int × Bool × (List T189)) => (⟨(tm 10 [(0,.ptr 4 0 0)]),(Zi pc x.2.1 x.2.2.1 x.1 x.2.2.2.2 x.2.2.2.1),gg⟩ : VS)) hw_1 (Ze 6 (hgg:=by simp [Zx,Zs,Yy hgb (show 6≤6 by decide)])) ?_
 rintro n_1 ⟨l22,y23,y24,y25,l26⟩ h1
 rw [g138_L1] at h1
 refine VW.seq (VW.seq (Zy (Zv 1 (tm 10 [(0,.ptr 4 0 0),(4,.ptr 4 0 0)]) (Zi pc y23 y24 l22 l26 y25) gg hC (by kernel_rfl) (by simp -implicitDefEqProofs [hgk]) ?_)))
 obtain ⟨r27,q28,h1⟩:=Zc h1
 refine Zq (ok114) (pc,(⟨y23,y24,l22,l26,y25⟩ : T139),42) r27 q28 (by simp [Zm]) rfl (by simp) (by simp [Zr]) (by simp [hgk]) (by simp [Zx,Zs,hgb]) (Zu (t':=(tm 10 [(0,.ptr 4 0 0),(4,.ptr 4 0 0),(5,.b r27.1)])) (m':=(Zi pc r27.2.line_ r27.2.at_ r27.2.names_ r27.2.code_ r27.2.bad_)) (g':=gg) (by simp) (by simp [Zr]) (by simp) (Zp (tm 10 [(0,.ptr 4 0 0),(5,.b r27.1)]) (Zi pc r27.2.line_ r27.2.at_ r27.2.names_ r27.2.code_ r27.2.bad_) gg hC (by kernel_rfl) (by simp -implicitDefEqProofs [hgk]) (Zk h1 (fun h1 => ?_) (fun h1 => ?_))))
 ·refine VW.exit ?_
  have e_:=Yd h1
  subst w_1
  obtain rfl:=(Yz h).symm
  exact (VInX.fin (Ze (t':=(tm 10 [])) (m':=(Zi pc r27.2.line_ r27.2.at_ r27.2.names_ r27.2.code_ r27.2.bad_)) 6 (hgg:=by simp [Zx,Zs,Yy hgb (show 6≤6 by decide)])) (by simp) (by simp [Zr]) rfl)
 refine VW.skip (VW.block (VW.seq (Zy (Zv 1 (tm 10 [(0,.ptr 4 0 0),(6,.ptr 4 0 0)]) (Zi pc r27.2.line_ r27.2.at_ r27.2.names_ r27.2.code_ r27.2.bad_) gg hC (by kernel_rfl) (by simp -implicitDefEqProofs [hgk]) ?_))))
 obtain ⟨r30,q31,h1⟩:=Zc h1
 refine Zq (hself) (pc,r27.2) r30 q31 (by simp [Zm]) rfl (by simp) (by simp [Zr]) (by simp [hgk]) (by simp [Zx,Zs,hgb]) (Zu (t':=(tm 10 [(0,.ptr 4 0 0),(6,.ptr 4 0 0),(7,.tup [])])) (m':=(Zi pc r30.line_ r30.at_ r30.names_ r30.code_ r30.bad_)) (g':=gg) (by simp) (by simp [Zr]) (by simp) (Zp (tm 10 [(0,.ptr 4 0 0)]) (Zi pc r30.line_ r30.at_ r30.names_ r30.code_ r30.bad_) gg hC (by kernel_rfl) (by simp -implicitDefEqProofs [hgk]) (Zy (Zv 1 (tm 10 [(0,.ptr 4 0 0),(8,.ptr 4 0 0)]) (Zi pc r30.line_ r30.at_ r30.names_ r30.code_ r30.bad_) gg hC (by kernel_rfl) (by simp -implicitDefEqProofs [hgk]) ?_))))
 obtain ⟨r32,q33,h1⟩:=Zc h1
 exact Zq (ok79) (pc,r30,7,0,(some 0)) r32 q33 (by simp [Zm]) rfl (by simp) (by simp [Zr]) (by simp [hgk]) (by simp [Zx,Zs,hgb]) (Zu (t':=(tm 10 [(0,.ptr 4 0 0),(8,.ptr 4 0 0),(9,.tup [])])) (m':=(Zi pc r32.line_ r32.at_ r32.names_ r32.code_ r32.bad_)) (g':=gg) (by simp) (by simp [Zr]) (by simp) (Zp (tm 10 [(0,.ptr 4 0 0)]) (Zi pc r32.line_ r32.at_ r32.names_ r32.code_ r32.bad_) gg hC (by kernel_rfl) (by simp -implicitDefEqProofs [hgk]) (Zn (r32.names_,r32.line_,r32.at_,r32.bad_,r32.code_) (Yr h1) (Ze 6 (hgg:=by simp [Zx,Zs,Yy hgb (show 6≤6 by decide)])))))
def g115_L1 (self : T139→Option T139) : ((List ByteArray) × ByteArray × Int × Bool × (List T189))→Option (((List ByteArray) × ByteArray × Int × Bool × (List T189)) ⊕ (T139))
| (l36,y37,y38,y39,l40) =>
(g114 (⟨y37,y38,l36,l40,y39⟩ : T139) 43).bind fun r41 =>
if r41.1 = true then
(g138 self r41.2).bind fun r44 =>
(g79 r44 5 0 (some 0)).bind fun r46 =>
some (.inl (r46.names_,r46.line_,r46.at_,r46.bad_,r46.code_))
else
(g114 r41.2 45).bind fun r48 =>
if r48.1 = true then
(g138 self r48.2).bind fun r51 =>
(g79 r51 6 0 (some 0)).bind fun r53 =>
some (.inl (r53.names_,r53.line_,r53.at_,r53.bad_,r53.code_))
else
some (.inr r48.2)
def g115 (self : T139→Option T139) (r_ : T139) : Option (T139) :=
(g138 self r_).bind fun r1 =>
loopO (g115_L1 self) (r1.names_,r1.line_,r1.at_,r1.bad_,r1.code_)
theorem ok115 (self : T139→Option T139) (hself : Xr Tryz.prog 153 (fun a : (List T189) × T139 => self a.2) (fun a => [.ptr 4 0 0]) (fun a => Zr a.1 a.2) (fun _ => .tup []) (fun a r => Zr a.1 r) (Uf 5) 6) : Xr Tryz.prog 115 (fun a : (List T189) × T139 => g115 self a.2) (fun a => [.ptr 4 0 0]) (fun a => Zr a.1 a.2) (fun _ => .tup []) (fun a r => Zr a.1 r) (Uf 5) 6:=by
 refine Xr.of Tryz.func115 (by kernel_rfl) rfl rfl rfl ?_
 rintro ⟨pc,r_⟩ r h gg hgk hgb
 replace h : (g115 self r_).bind some = some r:=Qi h
 rw [g115] at h
 have hC : Qc.Ok Tryz.prog []:=trivial
 refine VW.ent (s:=(⟨(tm 18 [(0,.ptr 4 0 0)]),(Zi pc r_.line_ r_.at_ r_.names_ r_.code_ r_.bad_),gg⟩ : VS)) (Wf (by simp only [List.length_cons,List.length_nil,Nat.reduceAdd,Nat.reduceSub]; rw [Wd]; simp) rfl rfl) (VW.seq (Zy (Zv 1 (tm 18 [(0,.ptr 4 0 0),(2,.ptr 4 0 0)]) (Zi pc r_.line_ r_.at_ r_.names_ r_.code_ r_.bad_) gg hC (by kernel_rfl) (by simp -implicitDefEqProofs [hgk]) ?_)))
 obtain ⟨r1,q2,h⟩:=Zc h
 refine Zq (ok138 self hself) (pc,r_) r1 q2 (by simp [Zm]) rfl (by simp) (by simp [Zr]) (by simp [hgk]) (by simp [Zx,Zs,hgb]) (Zu (t':=(tm 18 [(0,.ptr 4 0 0),(2,.ptr 4 0 0),(3,.tup [])])) (m':=(Zi pc r1.line_ r1.at_ r1.names_ r1.code_ r1.bad_)) (g':=gg) (by simp) (by simp [Zr]) (by simp) (Zp (tm 18 [(0,.ptr 4 0 0)]) (Zi pc r1.line_ r1.at_ r1.names_ r1.code_ r1.bad_) gg hC (by kernel_rfl) (by simp -implicitDefEqProofs [hgk]) (VW.block ?_)))
 obtain ⟨w_1,hw_1,h⟩:=bindT h
 refine VW.loopO (fun (x : (List ByteArray) × ByteArray × Int × Bool × (List T189)) => (⟨(tm 18 [(0,.ptr 4 0 0)]),(Zi pc x.2.1 x.2.2.1 x.1 x.2.2.2.2 x.2.2.2.1),gg⟩ : VS)) hw_1 (Ze 6 (hgg:=by simp [Zx,Zs,Yy hgb (show 6≤6 by decide)])) ?_
 rintro n_1 ⟨l36,y37,y38,y39,l40⟩ h1
 rw [g115_L1] at h1
 refine VW.block (VW.block (VW.seq (Zy (Zv 1 (tm 18 [(0,.ptr 4 0 0),(5,.ptr 4 0 0)]) (Zi pc y37 y38 l36 l40 y39) gg hC (by kernel_rfl) (by simp -implicitDefEqProofs [hgk]) ?_))))
 obtain ⟨r41,q42,h1⟩:=Zc h1
 refine Zq (ok114) (pc,(⟨y37,y38,l36,l40,y39⟩ : T139),43) r41 q42 (by simp [Zm]) rfl (by simp) (by simp [Zr]) (by simp [hgk]) (by simp [Zx,Zs,hgb]) (Zu (t':=(tm 18 [(0,.ptr 4 0 0),(5,.ptr 4 0 0),(6,.b r41.1)])) (m':=(Zi pc r41.2.line_ r41.2.at_ r41.2.names_ r41.2.code_ r41.2.bad_)) (g':=gg) (by simp) (by simp [Zr]) (by simp) (Zp (tm 18 [(0,.ptr 4 0 0),(4,.b r41.1)]) (Zi pc r41.2.line_ r41.2.at_ r41.2.names_ r41.2.code_ r41.2.bad_) gg hC (by kernel_rfl) (by simp -implicitDefEqProofs [hgk]) (Zd h1 (fun h1 => ?_) (fun h1 => ?_))))
 ·refine VW.seq (Zy (Zv 1 (tm 18 [(0,.ptr 4 0 0),(7,.ptr 4 0 0)]) (Zi pc r41.2.line_ r41.2.at_ r41.2.names_ r41.2.code_ r41.2.bad_) gg hC (by kernel_rfl) (by simp -implicitDefEqProofs [hgk]) ?_))
  obtain ⟨r44,q45,h1⟩:=Zc h1
  refine Zq (ok138 self hself) (pc,r41.2) r44 q45 (by simp [Zm]) rfl (by simp) (by simp [Zr]) (by simp [hgk]) (by simp [Zx,Zs,hgb]) (Zu (t':=(tm 18 [(0,.ptr 4 0 0),(7,.ptr 4 0 0),(8,.tup [])])) (m':=(Zi pc r44.line_ r44.at_ r44.names_ r44.code_ r44.bad_)) (g':=gg) (by simp) (by simp [Zr]) (by simp) (Zp (tm 18 [(0,.ptr 4 0 0)]) (Zi pc r44.line_ r44.at_ r44.names_ r44.code_ r44.bad_) gg hC (by kernel_rfl) (by simp -implicitDefEqProofs [hgk]) (Zy (Zv 1 (tm 18 [(0,.ptr 4 0 0),(9,.ptr 4 0 0)]) (Zi pc r44.line_ r44.at_ r44.names_ r44.code_ r44.bad_) gg hC (by kernel_rfl) (by simp -implicitDefEqProofs [hgk]) ?_))))
  obtain ⟨r46,q47,h1⟩:=Zc h1
  exact Zq (ok79) (pc,r44,5,0,(some 0)) r46 q47 (by simp [Zm]) rfl (by simp) (by simp [Zr]) (by simp [hgk]) (by simp [Zx,Zs,hgb]) (Zu (t':=(tm 18 [(0,.ptr 4 0 0),(9,.ptr 4 0 0),(10,.tup [])])) (m':=(Zi pc r46.line_ r46.at_ r46.names_ r46.code_ r46.bad_)) (g':=gg) (by simp) (by simp [Zr]) (by simp) (Zp (tm 18 [(0,.ptr 4 0 0)]) (Zi pc r46.line_ r46.at_ r46.names_ r46.code_ r46.bad_) gg hC (by kernel_rfl) (by simp -implicitDefEqProofs [hgk]) (Zn (r46.names_,r46.line_,r46.at_,r46.bad_,r46.code_) (Yr h1) (Ze 6 (hgg:=by simp [Zx,Zs,Yy hgb (show 6≤6 by decide)])))))
 refine VW.seq (Zy (Zv 1 (tm 18 [(0,.ptr 4 0 0),(12,.ptr 4 0 0)]) (Zi pc r41.2.line_ r41.2.at_ r41.2.names_ r41.2.code_ r41.2.bad_) gg hC (by kernel_rfl) (by simp -implicitDefEqProofs [hgk]) ?_))
 obtain ⟨r48,q49,h1⟩:=Zc h1
 refine Zq (ok114) (pc,r41.2,45) r48 q49 (by simp [Zm]) rfl (by simp) (by simp [Zr]) (by simp [hgk]) (by simp [Zx,Zs,hgb]) (Zu (t':=(tm 18 [(0,.ptr 4 0 0),(12,.ptr 4 0 0),(13,.b r48.1)])) (m':=(Zi pc r48.2.line_ r48.2.at_ r48.2.names_ r48.2.code_ r48.2.bad_)) (g':=gg) (by simp) (by simp [Zr]) (by simp) (Zp (tm 18 [(0,.ptr 4 0 0),(11,.b r48.1)]) (Zi pc r48.2.line_ r48.2.at_ r48.2.names_ r48.2.code_ r48.2.bad_) gg hC (by kernel_rfl) (by simp -implicitDefEqProofs [hgk]) (Zk h1 (fun h1 => ?_) (fun h1 => ?_))))
 ·have e_:=Yd h1
  subst w_1
  obtain rfl:=(Yz h).symm
  exact VW.ret (VInX.fin (Ze (t':=(tm 18 [])) (m':=(Zi pc r48.2.line_ r48.2.at_ r48.2.names_ r48.2.code_ r48.2.bad_)) 6 (hgg:=by simp [Zx,Zs,Yy hgb (show 6≤6 by decide)])) (by simp) (by simp [Zr]) rfl)
 refine VW.seq (Zy (Zv 1 (tm 18 [(0,.ptr 4 0 0),(14,.ptr 4 0 0)]) (Zi pc r48.2.line_ r48.2.at_ r48.2.names_ r48.2.code_ r48.2.bad_) gg hC (by kernel_rfl) (by simp -implicitDefEqProofs [hgk]) ?_))
 obtain ⟨r51,q52,h1⟩:=Zc h1
 refine Zq (ok138 self hself) (pc,r48.2) r51 q52 (by simp [Zm]) rfl (by simp) (by simp [Zr]) (by simp [hgk]) (by simp [Zx,Zs,hgb]) (Zu (t':=(tm 18 [(0,.ptr 4 0 0),(14,.ptr 4 0 0),(15,.tup [])])) (m':=(Zi pc r51.line_ r51.at_ r51.names_ r51.code_ r51.bad_)) (g':=gg) (by simp) (by simp [Zr]) (by simp) (Zp (tm 18 [(0,.ptr 4 0 0)]) (Zi pc r51.line_ r51.at_ r51.names_ r51.code_ r51.bad_) gg hC (by kernel_rfl) (by simp -implicitDefEqProofs [hgk]) (Zy (Zv 1 (tm 18 [(0,.ptr 4 0 0),(16,.ptr 4 0 0)]) (Zi pc r51.line_ r51.at_ r51.names_ r51.code_ r51.bad_) gg hC (by kernel_rfl) (by simp -implicitDefEqProofs [hgk]) ?_))))
 obtain ⟨r53,q54,h1⟩:=Zc h1
 exact Zq (ok79) (pc,r51,6,0,(some 0)) r53 q54 (by simp [Zm]) rfl (by simp) (by simp [Zr]) (by simp [hgk]) (by simp [Zx,Zs,hgb]) (Zu (t':=(tm 18 [(0,.ptr 4 0 0),(16,.ptr 4 0 0),(17,.tup [])])) (m':=(Zi pc r53.line_ r53.at_ r53.names_ r53.code_ r53.bad_)) (g':=gg) (by simp) (by simp [Zr]) (by simp) (Zp (tm 18 [(0,.ptr 4 0 0)]) (Zi pc r53.line_ r53.at_ r53.names_ r53.code_ r53.bad_) gg hC (by kernel_rfl) (by simp -implicitDefEqProofs [hgk]) (Zn (r53.names_,r53.line_,r53.at_,r53.bad_,r53.code_) (Yr h1) (Ze 6 (hgg:=by simp [Zx,Zs,Yy hgb (show 6≤6 by decide)])))))
def g76 (self : T139→Option T139) (r_ : T139) : Option (T139) :=
(g115 self r_).bind fun r1 =>
(g114 r1 60).bind fun r3 =>
if r3.1 = true then
(g115 self r3.2).bind fun r6 =>
(g79 r6 8 0 (some 0)).bind fun r8 =>
some r8
else
some r3.2
theorem ok76 (self : T139→Option T139) (hself : Xr Tryz.prog 153 (fun a : (List T189) × T139 => self a.2) (fun a => [.ptr 4 0 0]) (fun a => Zr a.1 a.2) (fun _ => .tup []) (fun a r => Zr a.1 r) (Uf 5) 6) : Xr Tryz.prog 76 (fun a : (List T189) × T139 => g76 self a.2) (fun a => [.ptr 4 0 0]) (fun a => Zr a.1 a.2) (fun _ => .tup []) (fun a r => Zr a.1 r) (Uf 5) 6:=by
 refine Xr.of Tryz.func76 (by kernel_rfl) rfl rfl rfl ?_
 rintro ⟨pc,r_⟩ r h gg hgk hgb
 replace h : (g76 self r_).bind some = some r:=Qi h
 rw [g76] at h
 have hC : Qc.Ok Tryz.prog []:=trivial
 refine VW.ent (s:=(⟨(tm 10 [(0,.ptr 4 0 0)]),(Zi pc r_.line_ r_.at_ r_.names_ r_.code_ r_.bad_),gg⟩ : VS)) (Wf (by simp only [List.length_cons,List.length_nil,Nat.reduceAdd,Nat.reduceSub]; rw [Wd]; simp) rfl rfl) (VW.seq (Zy (Zv 1 (tm 10 [(0,.ptr 4 0 0),(2,.ptr 4 0 0)]) (Zi pc r_.line_ r_.at_ r_.names_ r_.code_ r_.bad_) gg hC (by kernel_rfl) (by simp -implicitDefEqProofs [hgk]) ?_)))
 obtain ⟨r1,q2,h⟩:=Zc h
 refine Zq (ok115 self hself) (pc,r_) r1 q2 (by simp [Zm]) rfl (by simp) (by simp [Zr]) (by simp [hgk]) (by simp [Zx,Zs,hgb]) (Zu (t':=(tm 10 [(0,.ptr 4 0 0),(2,.ptr 4 0 0),(3,.tup [])])) (m':=(Zi pc r1.line_ r1.at_ r1.names_ r1.code_ r1.bad_)) (g':=gg) (by simp) (by simp [Zr]) (by simp) (Zp (tm 10 [(0,.ptr 4 0 0)]) (Zi pc r1.line_ r1.at_ r1.names_ r1.code_ r1.bad_) gg hC (by kernel_rfl) (by simp -implicitDefEqProofs [hgk]) (VW.seq (Zy (Zv 1 (tm 10 [(0,.ptr 4 0 0),(4,.ptr 4 0 0)]) (Zi pc r1.line_ r1.at_ r1.names_ r1.code_ r1.bad_) gg hC (by kernel_rfl) (by simp -implicitDefEqProofs [hgk]) ?_)))))
 obtain ⟨r3,q4,h⟩:=Zc h
 refine Zq (ok114) (pc,r1,60) r3 q4 (by simp [Zm]) rfl (by simp) (by simp [Zr]) (by simp [hgk]) (by simp [Zx,Zs,hgb]) (Zu (t':=(tm 10 [(0,.ptr 4 0 0),(4,.ptr 4 0 0),(5,.b r3.1)])) (m':=(Zi pc r3.2.line_ r3.2.at_ r3.2.names_ r3.2.code_ r3.2.bad_)) (g':=gg) (by simp) (by simp [Zr]) (by simp) (Zp (tm 10 [(0,.ptr 4 0 0),(5,.b r3.1)]) (Zi pc r3.2.line_ r3.2.at_ r3.2.names_ r3.2.code_ r3.2.bad_) gg hC (by kernel_rfl) (by simp -implicitDefEqProofs [hgk]) (Zk h (fun h => ?_) (fun h => ?_))))
 ·refine VW.skip ?_
  obtain rfl:=(Yz h).symm
  exact (VInX.fin (Ze (t':=(tm 10 [])) (m':=(Zi pc r3.2.line_ r3.2.at_ r3.2.names_ r3.2.code_ r3.2.bad_)) 6 (hgg:=by simp [Zx,Zs,Yy hgb (show 6≤6 by decide)])) (by simp) (by simp [Zr]) rfl)
 refine VW.seq (Zy (Zv 1 (tm 10 [(0,.ptr 4 0 0),(6,.ptr 4 0 0)]) (Zi pc r3.2.line_ r3.2.at_ r3.2.names_ r3.2.code_ r3.2.bad_) gg hC (by kernel_rfl) (by simp -implicitDefEqProofs [hgk]) ?_))
 obtain ⟨r6,q7,h⟩:=Zc h
 refine Zq (ok115 self hself) (pc,r3.2) r6 q7 (by simp [Zm]) rfl (by simp) (by simp [Zr]) (by simp [hgk]) (by simp [Zx,Zs,hgb]) (Zu (t':=(tm 10 [(0,.ptr 4 0 0),(6,.ptr 4 0 0),(7,.tup [])])) (m':=(Zi pc r6.line_ r6.at_ r6.names_ r6.code_ r6.bad_)) (g':=gg) (by simp) (by simp [Zr]) (by simp) (Zp (tm 10 [(0,.ptr 4 0 0)]) (Zi pc r6.line_ r6.at_ r6.names_ r6.code_ r6.bad_) gg hC (by kernel_rfl) (by simp -implicitDefEqProofs [hgk]) (Zy (Zv 1 (tm 10 [(8,.ptr 4 0 0)]) (Zi pc r6.line_ r6.at_ r6.names_ r6.code_ r6.bad_) gg hC (by kernel_rfl) (by simp -implicitDefEqProofs [hgk]) ?_))))
 obtain ⟨r8,q9,h⟩:=Zc h
 refine Zq (ok79) (pc,r6,8,0,(some 0)) r8 q9 (by simp [Zm]) rfl (by simp) (by simp [Zr]) (by simp [hgk]) (by simp [Zx,Zs,hgb]) (Zu (t':=(tm 10 [(8,.ptr 4 0 0),(9,.tup [])])) (m':=(Zi pc r8.line_ r8.at_ r8.names_ r8.code_ r8.bad_)) (g':=gg) (by simp) (by simp [Zr]) (by simp) (Zp (tm 10 []) (Zi pc r8.line_ r8.at_ r8.names_ r8.code_ r8.bad_) gg hC (by kernel_rfl) (by simp -implicitDefEqProofs [hgk]) ?_))
 obtain rfl:=(Yz h).symm
 exact (VInX.fin (Ze (t':=(tm 10 [])) (m':=(Zi pc r8.line_ r8.at_ r8.names_ r8.code_ r8.bad_)) 6 (hgg:=by simp [Zx,Zs,Yy hgb (show 6≤6 by decide)])) (by simp) (by simp [Zr]) rfl)
def g166 (self : T139→Option T139) (r_ : T139) (word : ByteArray) : Option (T139) :=
(g76 self (⟨r_.line_,aI .i64 r_.at_ 1,r_.names_,r_.code_,r_.bad_⟩ : T139)).bind fun r1 =>
(g75 r1 44).bind fun r3 =>
(g76 self r3).bind fun r5 =>
if Jb word (⟨#[109,97,120]⟩ : ByteArray) = true then
(g75 r5 41).bind fun r8 =>
(g79 r8 10 0 (some 0)).bind fun r10 =>
some r10
else
if Jb word (⟨#[112,105,99,107]⟩ : ByteArray) = true then
(g75 r5 44).bind fun r13 =>
(g76 self r13).bind fun r15 =>
(g75 r15 41).bind fun r17 =>
(g79 r17 11 0 (some 0)).bind fun r19 =>
some r19
else
(g75 r5 41).bind fun r21 =>
(g79 r21 9 0 (some 0)).bind fun r23 =>
some r23
theorem ok166 (self : T139→Option T139) (hself : Xr Tryz.prog 153 (fun a : (List T189) × T139 => self a.2) (fun a => [.ptr 4 0 0]) (fun a => Zr a.1 a.2) (fun _ => .tup []) (fun a r => Zr a.1 r) (Uf 5) 6) : Xr Tryz.prog 166 (fun a : (List T189) × T139 × ByteArray => g166 self a.2.1 a.2.2) (fun a => [.ptr 4 0 0,.str a.2.2]) (fun a => Zr a.1 a.2.1) (fun _ => .tup []) (fun a r => Zr a.1 r) (Uf 5) 6:=by
 refine Xr.of Tryz.func166 (by kernel_rfl) rfl rfl rfl ?_
 rintro ⟨pc,r_,word⟩ r h gg hgk hgb
 replace h : (g166 self r_ word).bind some = some r:=Qi h
 rw [g166] at h
 have hC : Qc.Ok Tryz.prog []:=trivial
 refine VW.ent (s:=(⟨(tm 32 [(0,.ptr 4 0 0),(1,.str word)]),(Zi pc r_.line_ r_.at_ r_.names_ r_.code_ r_.bad_),gg⟩ : VS)) (Wf (by simp only [List.length_cons,List.length_nil,Nat.reduceAdd,Nat.reduceSub]; rw [Wd]; simp) rfl rfl) (VW.seq (Zj [0,1] hC (q:=(VW.seq (Zy (Zv 1 (tm 32 [(0,.ptr 4 0 0),(1,.str word),(12,.ptr 4 0 0)]) (Zi pc r_.line_ (aI .i64 r_.at_ 1) r_.names_ r_.code_ r_.bad_) gg hC (by kernel_rfl) (by simp -implicitDefEqProofs [hgk]) ?_))))))
 obtain ⟨r1,q2,h⟩:=Zc h
 refine Zq (ok76 self hself) (pc,(⟨r_.line_,aI .i64 r_.at_ 1,r_.names_,r_.code_,r_.bad_⟩ : T139)) r1 q2 (by simp [Zm]) rfl (by simp) (by simp [Zr]) (by simp [hgk]) (by simp [Zx,Zs,hgb]) (Zu (t':=(tm 32 [(0,.ptr 4 0 0),(1,.str word),(12,.ptr 4 0 0),(13,.tup [])])) (m':=(Zi pc r1.line_ r1.at_ r1.names_ r1.code_ r1.bad_)) (g':=gg) (by simp) (by simp [Zr]) (by simp) (Zp (tm 32 [(0,.ptr 4 0 0),(1,.str word)]) (Zi pc r1.line_ r1.at_ r1.names_ r1.code_ r1.bad_) gg hC (by kernel_rfl) (by simp -implicitDefEqProofs [hgk]) (VW.seq (Zy (Zv 1 (tm 32 [(0,.ptr 4 0 0),(1,.str word),(14,.ptr 4 0 0)]) (Zi pc r1.line_ r1.at_ r1.names_ r1.code_ r1.bad_) gg hC (by kernel_rfl) (by simp -implicitDefEqProofs [hgk]) ?_)))))
 obtain ⟨r3,q4,h⟩:=Zc h
 refine Zq (ok75) (pc,r1,44) r3 q4 (by simp [Zm]) rfl (by simp) (by simp [Zr]) (by simp [hgk]) (by simp [Zx,Zs,hgb]) (Zu (t':=(tm 32 [(0,.ptr 4 0 0),(1,.str word),(14,.ptr 4 0 0),(15,.tup [])])) (m':=(Zi pc r3.line_ r3.at_ r3.names_ r3.code_ r3.bad_)) (g':=gg) (by simp) (by simp [Zr]) (by simp) (Zp (tm 32 [(0,.ptr 4 0 0),(1,.str word)]) (Zi pc r3.line_ r3.at_ r3.names_ r3.code_ r3.bad_) gg hC (by kernel_rfl) (by simp -implicitDefEqProofs [hgk]) (VW.seq (Zy (Zv 1 (tm 32 [(0,.ptr 4 0 0),(1,.str word),(16,.ptr 4 0 0)]) (Zi pc r3.line_ r3.at_ r3.names_ r3.code_ r3.bad_) gg hC (by kernel_rfl) (by simp -implicitDefEqProofs [hgk]) ?_)))))
 obtain ⟨r5,q6,h⟩:=Zc h
 refine Zq (ok76 self hself) (pc,r3) r5 q6 (by simp [Zm]) rfl (by simp) (by simp [Zr]) (by simp [hgk]) (by simp [Zx,Zs,hgb]) (Zu (t':=(tm 32 [(0,.ptr 4 0 0),(1,.str word),(16,.ptr 4 0 0),(17,.tup [])])) (m':=(Zi pc r5.line_ r5.at_ r5.names_ r5.code_ r5.bad_)) (g':=gg) (by simp) (by simp [Zr]) (by simp) (Zp (tm 32 [(0,.ptr 4 0 0),(1,.str word)]) (Zi pc r5.line_ r5.at_ r5.names_ r5.code_ r5.bad_) gg hC (by kernel_rfl) (by simp -implicitDefEqProofs [hgk]) (VW.seq (Zj [0,1,4] hC (q:=(VW.seq (VW.seq (Zj [0,4,18] hC (q:=(VW.block (VW.seq (Zj [0,4,18,19] hC (q:=(Zd h (fun h => ?_) (fun h => ?_)))))))))))))))
 ·refine Zj [0,4] hC (q:=(VW.seq (Zy (Zv 1 (tm 32 [(0,.ptr 4 0 0),(4,.i .i8 10),(27,.ptr 4 0 0)]) (Zi pc r5.line_ r5.at_ r5.names_ r5.code_ r5.bad_) gg hC (by kernel_rfl) (by simp -implicitDefEqProofs [hgk]) ?_))))
  obtain ⟨r8,q9,h⟩:=Zc h
  refine Zq (ok75) (pc,r5,41) r8 q9 (by simp [Zm]) rfl (by simp) (by simp [Zr]) (by simp [hgk]) (by simp [Zx,Zs,hgb]) (Zu (t':=(tm 32 [(0,.ptr 4 0 0),(4,.i .i8 10),(27,.ptr 4 0 0),(28,.tup [])])) (m':=(Zi pc r8.line_ r8.at_ r8.names_ r8.code_ r8.bad_)) (g':=gg) (by simp) (by simp [Zr]) (by simp) (Zp (tm 32 [(0,.ptr 4 0 0),(4,.i .i8 10)]) (Zi pc r8.line_ r8.at_ r8.names_ r8.code_ r8.bad_) gg hC (by kernel_rfl) (by simp -implicitDefEqProofs [hgk]) (Zy (Zv 2 (tm 32 [(29,.ptr 4 0 0),(30,.i .i8 10)]) (Zi pc r8.line_ r8.at_ r8.names_ r8.code_ r8.bad_) gg hC (by kernel_rfl) (by simp -implicitDefEqProofs [hgk]) ?_))))
  obtain ⟨r10,q11,h⟩:=Zc h
  refine Zq (ok79) (pc,r8,10,0,(some 0)) r10 q11 (by simp [Zm]) rfl (by simp) (by simp [Zr]) (by simp [hgk]) (by simp [Zx,Zs,hgb]) (Zu (t':=(tm 32 [(29,.ptr 4 0 0),(30,.i .i8 10),(31,.tup [])])) (m':=(Zi pc r10.line_ r10.at_ r10.names_ r10.code_ r10.bad_)) (g':=gg) (by simp) (by simp [Zr]) (by simp) (Zp (tm 32 []) (Zi pc r10.line_ r10.at_ r10.names_ r10.code_ r10.bad_) gg hC (by kernel_rfl) (by simp -implicitDefEqProofs [hgk]) ?_))
  obtain rfl:=(Yz h).symm
  exact (VInX.fin (Ze (t':=(tm 32 [])) (m':=(Zi pc r10.line_ r10.at_ r10.names_ r10.code_ r10.bad_)) 6 (hgg:=by simp [Zx,Zs,Yy hgb (show 6≤6 by decide)])) (by simp) (by simp [Zr]) rfl)
 refine VW.seq (Zj [0,4,21] hC (q:=(Zk h (fun h => ?_) (fun h => ?_))))
 ·refine VW.skip (VW.seq (Zy (Zv 1 (tm 32 [(0,.ptr 4 0 0),(4,.i .i8 9),(27,.ptr 4 0 0)]) (Zi pc r5.line_ r5.at_ r5.names_ r5.code_ r5.bad_) gg hC (by kernel_rfl) (by simp -implicitDefEqProofs [hgk]) ?_)))
  obtain ⟨r21,q22,h⟩:=Zc h
  refine Zq (ok75) (pc,r5,41) r21 q22 (by simp [Zm]) rfl (by simp) (by simp [Zr]) (by simp [hgk]) (by simp [Zx,Zs,hgb]) (Zu (t':=(tm 32 [(0,.ptr 4 0 0),(4,.i .i8 9),(27,.ptr 4 0 0),(28,.tup [])])) (m':=(Zi pc r21.line_ r21.at_ r21.names_ r21.code_ r21.bad_)) (g':=gg) (by simp) (by simp [Zr]) (by simp) (Zp (tm 32 [(0,.ptr 4 0 0),(4,.i .i8 9)]) (Zi pc r21.line_ r21.at_ r21.names_ r21.code_ r21.bad_) gg hC (by kernel_rfl) (by simp -implicitDefEqProofs [hgk]) (Zy (Zv 2 (tm 32 [(29,.ptr 4 0 0),(30,.i .i8 9)]) (Zi pc r21.line_ r21.at_ r21.names_ r21.code_ r21.bad_) gg hC (by kernel_rfl) (by simp -implicitDefEqProofs [hgk]) ?_))))
  obtain ⟨r23,q24,h⟩:=Zc h
  refine Zq (ok79) (pc,r21,9,0,(some 0)) r23 q24 (by simp [Zm]) rfl (by simp) (by simp [Zr]) (by simp [hgk]) (by simp [Zx,Zs,hgb]) (Zu (t':=(tm 32 [(29,.ptr 4 0 0),(30,.i .i8 9),(31,.tup [])])) (m':=(Zi pc r23.line_ r23.at_ r23.names_ r23.code_ r23.bad_)) (g':=gg) (by simp) (by simp [Zr]) (by simp) (Zp (tm 32 []) (Zi pc r23.line_ r23.at_ r23.names_ r23.code_ r23.bad_) gg hC (by kernel_rfl) (by simp -implicitDefEqProofs [hgk]) ?_))
  obtain rfl:=(Yz h).symm
  exact (VInX.fin (Ze (t':=(tm 32 [])) (m':=(Zi pc r23.line_ r23.at_ r23.names_ r23.code_ r23.bad_)) 6 (hgg:=by simp [Zx,Zs,Yy hgb (show 6≤6 by decide)])) (by simp) (by simp [Zr]) rfl)
 refine VW.seq (Zj [0,4] hC (q:=(VW.seq (Zy (Zv 1 (tm 32 [(0,.ptr 4 0 0),(4,.i .i8 11),(23,.ptr 4 0 0)]) (Zi pc r5.line_ r5.at_ r5.names_ r5.code_ r5.bad_) gg hC (by kernel_rfl) (by simp -implicitDefEqProofs [hgk]) ?_)))))
 obtain ⟨r13,q14,h⟩:=Zc h
 refine Zq (ok75) (pc,r5,44) r13 q14 (by simp [Zm]) rfl (by simp) (by simp [Zr]) (by simp [hgk]) (by simp [Zx,Zs,hgb]) (Zu (t':=(tm 32 [(0,.ptr 4 0 0),(4,.i .i8 11),(23,.ptr 4 0 0),(24,.tup [])])) (m':=(Zi pc r13.line_ r13.at_ r13.names_ r13.code_ r13.bad_)) (g':=gg) (by simp) (by simp [Zr]) (by simp) (Zp (tm 32 [(0,.ptr 4 0 0),(4,.i .i8 11)]) (Zi pc r13.line_ r13.at_ r13.names_ r13.code_ r13.bad_) gg hC (by kernel_rfl) (by simp -implicitDefEqProofs [hgk]) (Zy (Zv 1 (tm 32 [(0,.ptr 4 0 0),(4,.i .i8 11),(25,.ptr 4 0 0)]) (Zi pc r13.line_ r13.at_ r13.names_ r13.code_ r13.bad_) gg hC (by kernel_rfl) (by simp -implicitDefEqProofs [hgk]) ?_))))
 obtain ⟨r15,q16,h⟩:=Zc h
 refine Zq (ok76 self hself) (pc,r13) r15 q16 (by simp [Zm]) rfl (by simp) (by simp [Zr]) (by simp [hgk]) (by simp [Zx,Zs,hgb]) (Zu (t':=(tm 32 [(0,.ptr 4 0 0),(4,.i .i8 11),(25,.ptr 4 0 0),(26,.tup [])])) (m':=(Zi pc r15.line_ r15.at_ r15.names_ r15.code_ r15.bad_)) (g':=gg) (by simp) (by simp [Zr]) (by simp) (Zp (tm 32 [(0,.ptr 4 0 0),(4,.i .i8 11)]) (Zi pc r15.line_ r15.at_ r15.names_ r15.code_ r15.bad_) gg hC (by kernel_rfl) (by simp -implicitDefEqProofs [hgk]) (VW.seq (Zy (Zv 1 (tm 32 [(0,.ptr 4 0 0),(4,.i .i8 11),(27,.ptr 4 0 0)]) (Zi pc r15.line_ r15.at_ r15.names_ r15.code_ r15.bad_) gg hC (by kernel_rfl) (by simp -implicitDefEqProofs [hgk]) ?_)))))
 obtain ⟨r17,q18,h⟩:=Zc h
 refine Zq (ok75) (pc,r15,41) r17 q18 (by simp [Zm]) rfl (by simp) (by simp [Zr]) (by simp [hgk]) (by simp [Zx,Zs,hgb]) (Zu (t':=(tm 32 [(0,.ptr 4 0 0),(4,.i .i8 11),(27,.ptr 4 0 0),(28,.tup [])])) (m':=(Zi pc r17.line_ r17.at_ r17.names_ r17.code_ r17.bad_)) (g':=gg) (by simp) (by simp [Zr]) (by simp) (Zp (tm 32 [(0,.ptr 4 0 0),(4,.i .i8 11)]) (Zi pc r17.line_ r17.at_ r17.names_ r17.code_ r17.bad_) gg hC (by kernel_rfl) (by simp -implicitDefEqProofs [hgk]) (Zy (Zv 2 (tm 32 [(29,.ptr 4 0 0),(30,.i .i8 11)]) (Zi pc r17.line_ r17.at_ r17.names_ r17.code_ r17.bad_) gg hC (by kernel_rfl) (by simp -implicitDefEqProofs [hgk]) ?_))))
 obtain ⟨r19,q20,h⟩:=Zc h
 refine Zq (ok79) (pc,r17,11,0,(some 0)) r19 q20 (by simp [Zm]) rfl (by simp) (by simp [Zr]) (by simp [hgk]) (by simp [Zx,Zs,hgb]) (Zu (t':=(tm 32 [(29,.ptr 4 0 0),(30,.i .i8 11),(31,.tup [])])) (m':=(Zi pc r19.line_ r19.at_ r19.names_ r19.code_ r19.bad_)) (g':=gg) (by simp) (by simp [Zr]) (by simp) (Zp (tm 32 []) (Zi pc r19.line_ r19.at_ r19.names_ r19.code_ r19.bad_) gg hC (by kernel_rfl) (by simp -implicitDefEqProofs [hgk]) ?_))
 obtain rfl:=(Yz h).symm
 exact (VInX.fin (Ze (t':=(tm 32 [])) (m':=(Zi pc r19.line_ r19.at_ r19.names_ r19.code_ r19.bad_)) 6 (hgg:=by simp [Zx,Zs,Yy hgb (show 6≤6 by decide)])) (by simp) (by simp [Zr]) rfl)
def g153b (self : T139→Option T139) (r_ : T139) : Option (T139) :=
(g77 r_).bind fun r1 =>
if r1.2.bad_ = true then
some r1.2
else
(g112 r1.1).bind fun r4 =>
if r4 = true then
(g165 r1.2).bind fun r7 =>
some r7
else
(g111 r1.1).bind fun r9 =>
if r9 = true then
(g73 r1.2).bind fun r12 =>
(g116 r12.2.names_ r12.1).bind fun r14 =>
(g113 r12.1).bind fun r16 =>
(if (r16 && Zo r12.2.at_ (r12.2.line_.size : Int)) = true then (Wg r12.2.line_ r12.2.at_).bind fun e18 => some (Yx e18 40) else some false).bind fun w20 =>
if w20 = true then
(g166 self r12.2 r12.1).bind fun r22 =>
some r22
else
(if Yx (r12.1.size : Int) 3 = true then (Jw 0 2 r12.1.size).bind fun u24 => some (Jb (r12.1.extract 0 2) (⟨#[105,110]⟩ : ByteArray)) else some false).bind fun w26 =>
(if w26 = true then (Wg r12.1 2).bind fun e27 => some (Xa 48 e27) else some false).bind fun w29 =>
(if w29 = true then (Wg r12.1 2).bind fun e30 => some (Xa e30 51) else some false).bind fun w32 =>
if w32 = true then
(Wg r12.1 2).bind fun e34 =>
(g79 r12.2 2 (cI .i64 (sI .u8 e34 48)) (some 0)).bind fun r36 =>
some r36
else
if Xa 0 r14 = true then
(g79 r12.2 3 r14 (some 0)).bind fun r39 =>
some r39
else
some (⟨r12.2.line_,r12.2.at_,r12.2.names_,r12.2.code_,true⟩ : T139)
else
if Yx r1.1 45 = true then
(self (⟨r1.2.line_,aI .i64 r1.2.at_ 1,r1.2.names_,r1.2.code_,r1.2.bad_⟩ : T139)).bind fun r54 =>
(g79 r54 12 0 (some 0)).bind fun r56 =>
some r56
else
if Yx r1.1 40 = true then
(g76 self (⟨r1.2.line_,aI .i64 r1.2.at_ 1,r1.2.names_,r1.2.code_,r1.2.bad_⟩ : T139)).bind fun r59 =>
(g75 r59 41).bind fun r61 =>
some r61
else
some (⟨r1.2.line_,r1.2.at_,r1.2.names_,r1.2.code_,true⟩ : T139)
def g153 (r_ : T139) : Option (T139):=iterO (fun self a => g153b self a) 5000 r_
theorem ok153 : Xr Tryz.prog 153 (fun a : (List T189) × T139 => g153 a.2) (fun a => [.ptr 4 0 0]) (fun a => Zr a.1 a.2) (fun _ => .tup []) (fun a r => Zr a.1 r) (Uf 5) 6:=by
 show Xr Tryz.prog 153 (fun a : (List T189) × T139 => iterO (fun self a => g153b self a) 5000 a.2) (fun a => [.ptr 4 0 0]) (fun a => Zr a.1 a.2) (fun _ => .tup []) (fun a r => Zr a.1 r) (Uf 5) 6
 refine Xr.iter2 5000 (by kernel_rfl) fun self hself => ?_
 refine Xr.of Tryz.func153 (by kernel_rfl) rfl rfl rfl ?_
 rintro ⟨pc,r_⟩ r h gg hgk hgb
 replace h : (g153b self r_).bind some = some r:=Qi h
 rw [g153b] at h
 have hC : Qc.Ok Tryz.prog [(111,F111),(112,F112),(113,F113),(116,F116)]:=⟨.inl ok111,.inl ok112,.inl ok113,.inl ok116,trivial⟩
 refine VW.ent (s:=(⟨(tm 123 [(0,.ptr 4 0 0)]),(Zi pc r_.line_ r_.at_ r_.names_ r_.code_ r_.bad_),gg⟩ : VS)) (Wf (by simp only [List.length_cons,List.length_nil,Nat.reduceAdd,Nat.reduceSub]; rw [Wd]; simp) rfl rfl) (VW.seq (Zy (Zv 1 (tm 123 [(0,.ptr 4 0 0),(5,.ptr 4 0 0)]) (Zi pc r_.line_ r_.at_ r_.names_ r_.code_ r_.bad_) gg hC (by kernel_rfl) (by simp -implicitDefEqProofs [hgk]) ?_)))
 obtain ⟨r1,q2,h⟩:=Zc h
 refine Zq (ok77) (pc,r_) r1 q2 (by simp [Zm]) rfl (by simp) (by simp [Zr]) (by simp [hgk]) (by simp [Zx,Zs,hgb]) (Zu (t':=(tm 123 [(0,.ptr 4 0 0),(5,.ptr 4 0 0),(6,.i .u8 r1.1)])) (m':=(Zi pc r1.2.line_ r1.2.at_ r1.2.names_ r1.2.code_ r1.2.bad_)) (g':=gg) (by simp) (by simp [Zr]) (by simp) (Zp (tm 123 [(0,.ptr 4 0 0),(2,.i .u8 r1.1)]) (Zi pc r1.2.line_ r1.2.at_ r1.2.names_ r1.2.code_ r1.2.bad_) gg hC (by kernel_rfl) (by simp -implicitDefEqProofs [hgk]) (VW.block (VW.seq (Zj [0,2,10] hC (q:=(Zd h (fun h => ?_) (fun h => ?_))))))))
 ·refine VW.skip ?_
  obtain rfl:=(Yz h).symm
  exact (VInX.fin (Ze (t':=(tm 123 [])) (m':=(Zi pc r1.2.line_ r1.2.at_ r1.2.names_ r1.2.code_ r1.2.bad_)) 6 (hgg:=by simp [Zx,Zs,Yy hgb (show 6≤6 by decide)])) (by simp) (by simp [Zr]) rfl)
 refine VW.seq ?_
 obtain ⟨r4,q5,h⟩:=Zc h
 have c5:=tl112 q5
 refine Zj [0,2,15] hC (q:=(Zd h (fun h => ?_) (fun h => ?_)))
 ·refine Zy (Zv 1 (tm 123 [(18,.ptr 4 0 0)]) (Zi pc r1.2.line_ r1.2.at_ r1.2.names_ r1.2.code_ r1.2.bad_) gg hC (by kernel_rfl) (by simp -implicitDefEqProofs [hgk]) ?_)
  obtain ⟨r7,q8,h⟩:=Zc h
  refine Zq (ok165) (pc,r1.2) r7 q8 (by simp [Zm]) rfl (by simp) (by simp [Zr]) (by simp [hgk]) (by simp [Zx,Zs,hgb]) (Zu (t':=(tm 123 [(18,.ptr 4 0 0),(19,.tup [])])) (m':=(Zi pc r7.line_ r7.at_ r7.names_ r7.code_ r7.bad_)) (g':=gg) (by simp) (by simp [Zr]) (by simp) (Zp (tm 123 []) (Zi pc r7.line_ r7.at_ r7.names_ r7.code_ r7.bad_) gg hC (by kernel_rfl) (by simp -implicitDefEqProofs [hgk]) ?_))
  obtain rfl:=(Yz h).symm
  exact (VInX.fin (Ze (t':=(tm 123 [])) (m':=(Zi pc r7.line_ r7.at_ r7.names_ r7.code_ r7.bad_)) 6 (hgg:=by simp [Zx,Zs,Yy hgb (show 6≤6 by decide)])) (by simp) (by simp [Zr]) rfl)
 refine VW.seq ?_
 obtain ⟨r9,q10,h⟩:=Zc h
 have c10:=tl111 q10
 refine Zj [0,2,20] hC (q:=(Zk h (fun h => ?_) (fun h => ?_)))
 ·refine VW.seq (Zj [0,2,95] hC (q:=(Zd h (fun h => ?_) (fun h => ?_))))
  ·refine VW.seq (Zj [0] hC (q:=(VW.seq (Zy (Zv 1 (tm 123 [(0,.ptr 4 0 0),(105,.ptr 4 0 0)]) (Zi pc r1.2.line_ (aI .i64 r1.2.at_ 1) r1.2.names_ r1.2.code_ r1.2.bad_) gg hC (by kernel_rfl) (by simp -implicitDefEqProofs [hgk]) ?_)))))
   obtain ⟨r54,q55,h⟩:=Zc h
   refine Zq (hself) (pc,(⟨r1.2.line_,aI .i64 r1.2.at_ 1,r1.2.names_,r1.2.code_,r1.2.bad_⟩ : T139)) r54 q55 (by simp [Zm]) rfl (by simp) (by simp [Zr]) (by simp [hgk]) (by simp [Zx,Zs,hgb]) (Zu (t':=(tm 123 [(0,.ptr 4 0 0),(105,.ptr 4 0 0),(106,.tup [])])) (m':=(Zi pc r54.line_ r54.at_ r54.names_ r54.code_ r54.bad_)) (g':=gg) (by simp) (by simp [Zr]) (by simp) (Zp (tm 123 [(0,.ptr 4 0 0)]) (Zi pc r54.line_ r54.at_ r54.names_ r54.code_ r54.bad_) gg hC (by kernel_rfl) (by simp -implicitDefEqProofs [hgk]) (Zy (Zv 1 (tm 123 [(107,.ptr 4 0 0)]) (Zi pc r54.line_ r54.at_ r54.names_ r54.code_ r54.bad_) gg hC (by kernel_rfl) (by simp -implicitDefEqProofs [hgk]) ?_))))
   obtain ⟨r56,q57,h⟩:=Zc h
   refine Zq (ok79) (pc,r54,12,0,(some 0)) r56 q57 (by simp [Zm]) rfl (by simp) (by simp [Zr]) (by simp [hgk]) (by simp [Zx,Zs,hgb]) (Zu (t':=(tm 123 [(107,.ptr 4 0 0),(108,.tup [])])) (m':=(Zi pc r56.line_ r56.at_ r56.names_ r56.code_ r56.bad_)) (g':=gg) (by simp) (by simp [Zr]) (by simp) (Zp (tm 123 []) (Zi pc r56.line_ r56.at_ r56.names_ r56.code_ r56.bad_) gg hC (by kernel_rfl) (by simp -implicitDefEqProofs [hgk]) ?_))
   obtain rfl:=(Yz h).symm
   exact (VInX.fin (Ze (t':=(tm 123 [])) (m':=(Zi pc r56.line_ r56.at_ r56.names_ r56.code_ r56.bad_)) 6 (hgg:=by simp [Zx,Zs,Yy hgb (show 6≤6 by decide)])) (by simp) (by simp [Zr]) rfl)
  refine VW.seq (Zj [0,109] hC (q:=(Zk h (fun h => ?_) (fun h => ?_))))
  ·refine Zj [] hC (q:=?_)
   obtain rfl:=(Yz h).symm
   exact (VInX.fin (Ze (t':=(tm 123 [])) (m':=(Zi pc r1.2.line_ r1.2.at_ r1.2.names_ r1.2.code_ true)) 6 (hgg:=by simp [Zx,Zs,Yy hgb (show 6≤6 by decide)])) (by simp) (by simp [Zr]) rfl)
  refine VW.seq (Zj [0] hC (q:=(VW.seq (Zy (Zv 1 (tm 123 [(0,.ptr 4 0 0),(119,.ptr 4 0 0)]) (Zi pc r1.2.line_ (aI .i64 r1.2.at_ 1) r1.2.names_ r1.2.code_ r1.2.bad_) gg hC (by kernel_rfl) (by simp -implicitDefEqProofs [hgk]) ?_)))))
  obtain ⟨r59,q60,h⟩:=Zc h
  refine Zq (ok76 self hself) (pc,(⟨r1.2.line_,aI .i64 r1.2.at_ 1,r1.2.names_,r1.2.code_,r1.2.bad_⟩ : T139)) r59 q60 (by simp [Zm]) rfl (by simp) (by simp [Zr]) (by simp [hgk]) (by simp [Zx,Zs,hgb]) (Zu (t':=(tm 123 [(0,.ptr 4 0 0),(119,.ptr 4 0 0),(120,.tup [])])) (m':=(Zi pc r59.line_ r59.at_ r59.names_ r59.code_ r59.bad_)) (g':=gg) (by simp) (by simp [Zr]) (by simp) (Zp (tm 123 [(0,.ptr 4 0 0)]) (Zi pc r59.line_ r59.at_ r59.names_ r59.code_ r59.bad_) gg hC (by kernel_rfl) (by simp -implicitDefEqProofs [hgk]) (Zy (Zv 1 (tm 123 [(121,.ptr 4 0 0)]) (Zi pc r59.line_ r59.at_ r59.names_ r59.code_ r59.bad_) gg hC (by kernel_rfl) (by simp -implicitDefEqProofs [hgk]) ?_))))
  obtain ⟨r61,q62,h⟩:=Zc h
  refine Zq (ok75) (pc,r59,41) r61 q62 (by simp [Zm]) rfl (by simp) (by simp [Zr]) (by simp [hgk]) (by simp [Zx,Zs,hgb]) (Zu (t':=(tm 123 [(121,.ptr 4 0 0),(122,.tup [])])) (m':=(Zi pc r61.line_ r61.at_ r61.names_ r61.code_ r61.bad_)) (g':=gg) (by simp) (by simp [Zr]) (by simp) (Zp (tm 123 []) (Zi pc r61.line_ r61.at_ r61.names_ r61.code_ r61.bad_) gg hC (by kernel_rfl) (by simp -implicitDefEqProofs [hgk]) ?_))
  obtain rfl:=(Yz h).symm
  exact (VInX.fin (Ze (t':=(tm 123 [])) (m':=(Zi pc r61.line_ r61.at_ r61.names_ r61.code_ r61.bad_)) 6 (hgg:=by simp [Zx,Zs,Yy hgb (show 6≤6 by decide)])) (by simp) (by simp [Zr]) rfl)
 refine VW.seq (Zy (Zv 1 (tm 123 [(0,.ptr 4 0 0),(23,.ptr 4 0 0)]) (Zi pc r1.2.line_ r1.2.at_ r1.2.names_ r1.2.code_ r1.2.bad_) gg hC (by kernel_rfl) (by simp -implicitDefEqProofs [hgk]) ?_))
 obtain ⟨r12,q13,h⟩:=Zc h
 refine Zq (ok73) (pc,r1.2) r12 q13 (by simp [Zm]) rfl (by simp) (by simp [Zr]) (by simp [hgk]) (by simp [Zx,Zs,hgb]) (Zu (t':=(tm 123 [(0,.ptr 4 0 0),(23,.ptr 4 0 0),(24,.str r12.1)])) (m':=(Zi pc r12.2.line_ r12.2.at_ r12.2.names_ r12.2.code_ r12.2.bad_)) (g':=gg) (by simp) (by simp [Zr]) (by simp) (Zp (tm 123 [(0,.ptr 4 0 0),(3,.str r12.1)]) (Zi pc r12.2.line_ r12.2.at_ r12.2.names_ r12.2.code_ r12.2.bad_) gg hC (by kernel_rfl) (by simp -implicitDefEqProofs [hgk]) (VW.seq ?_)))
 obtain ⟨r14,q15,h⟩:=Zc h
 have c15:=tl116 q15
 refine Zj [0,3,4] hC (q:=(VW.block (VW.seq ?_)))
 obtain ⟨r16,q17,h⟩:=Zc h
 have c17:=tl113 q17
 obtain ⟨w20,q51,h⟩:=Zc h
 refine Ug (tm 123 [(0,.ptr 4 0 0),(3,.str r12.1),(4,.i .i64 r14),(34,.b w20)]) (Zi pc r12.2.line_ r12.2.at_ r12.2.names_ r12.2.code_ r12.2.bad_) gg hC Wc (by kernel_rfl) (by
   obtain ⟨q52,q51⟩ | ⟨q52,rfl⟩:=Ux q51
   ·obtain ⟨e18,q19,q51⟩:=Yb q51
    obtain ⟨f19a,c19,f19b,f19c,f19d⟩:=Xq q19
    obtain rfl:=Option.some.inj q51
    simp -implicitDefEqProofs [c17,q52,f19a,f19b,f19c,f19d,hgk]
   simp -implicitDefEqProofs [c17,q52,hgk]) ?_
 refine Zd h (fun h => ?_) (fun h => ?_)
 ·refine Zy (Zv 2 (tm 123 [(61,.ptr 4 0 0),(62,.str r12.1)]) (Zi pc r12.2.line_ r12.2.at_ r12.2.names_ r12.2.code_ r12.2.bad_) gg hC (by kernel_rfl) (by simp -implicitDefEqProofs [hgk]) ?_)
  obtain ⟨r22,q23,h⟩:=Zc h
  refine Zq (ok166 self hself) (pc,r12.2,r12.1) r22 q23 (by simp [Zm]) rfl (by simp) (by simp [Zr]) (by simp [hgk]) (by simp [Zx,Zs,hgb]) (Zu (t':=(tm 123 [(61,.ptr 4 0 0),(62,.str r12.1),(63,.tup [])])) (m':=(Zi pc r22.line_ r22.at_ r22.names_ r22.code_ r22.bad_)) (g':=gg) (by simp) (by simp [Zr]) (by simp) (Zp (tm 123 []) (Zi pc r22.line_ r22.at_ r22.names_ r22.code_ r22.bad_) gg hC (by kernel_rfl) (by simp -implicitDefEqProofs [hgk]) ?_))
  obtain rfl:=(Yz h).symm
  exact (VInX.fin (Ze (t':=(tm 123 [])) (m':=(Zi pc r22.line_ r22.at_ r22.names_ r22.code_ r22.bad_)) 6 (hgg:=by simp [Zx,Zs,Yy hgb (show 6≤6 by decide)])) (by simp) (by simp [Zr]) rfl)
 refine VW.seq ?_
 obtain ⟨w26,q41,h⟩:=Zc h
 obtain ⟨w29,q42,h⟩:=Zc h
 obtain ⟨w32,q43,h⟩:=Zc h
 refine Yg (tm 123 [(0,.ptr 4 0 0),(3,.str r12.1),(4,.i .i64 r14),(64,.b w32)]) (Zi pc r12.2.line_ r12.2.at_ r12.2.names_ r12.2.code_ r12.2.bad_) gg hC (by kernel_rfl) (by
   obtain ⟨q44,q41⟩ | ⟨q44,rfl⟩:=Ux q41
   ·obtain ⟨u24,q25,q41⟩:=Yb q41
    obtain ⟨f25a,f25b,f25c,f25d,f25e⟩:=cutK_some2 q25
    try simp only [Int.toNat_natCast,Int.reduceToNat,List.length_cons,List.length_nil,Nat.reduceAdd,Nat.zero_add] at f25a f25b f25c f25d f25e
    obtain rfl:=Option.some.inj q41
    obtain ⟨q45,q42⟩ | ⟨q45,rfl⟩:=Ux q42
    ·obtain ⟨e27,q28,q42⟩:=Yb q42
     obtain ⟨f28a,c28,f28b,f28c,f28d⟩:=Xq q28
     simp only [Int.reduceToNat] at f28b f28d
     obtain rfl:=Option.some.inj q42
     obtain ⟨q46,q43⟩ | ⟨q46,rfl⟩:=Ux q43
     ·obtain ⟨e30,q31,q43⟩:=Yb q43
      have d47 : e30 = e27:=Option.some.inj (q31.symm.trans q28)
      obtain rfl:=Option.some.inj q43
      simp -implicitDefEqProofs [q44,f25a,f25b,f25c,f25d,f25e,q45,f28a,f28b,f28c,f28d,q46,d47,hgk]
     simp -implicitDefEqProofs [q44,f25a,f25b,f25c,f25d,f25e,q45,f28a,f28b,f28c,f28d,q46,hgk]
    obtain ⟨q48,q43⟩ | ⟨q48,rfl⟩:=Ux q43
    ·exact absurd q48 (by simp)
    simp -implicitDefEqProofs [q44,f25a,f25b,f25c,f25d,f25e,q45,q48,hgk]
   obtain ⟨q49,q42⟩ | ⟨q49,rfl⟩:=Ux q42
   ·exact absurd q49 (by simp)
   obtain ⟨q50,q43⟩ | ⟨q50,rfl⟩:=Ux q43
   ·exact absurd q50 (by simp)
   simp -implicitDefEqProofs [q44,q49,q50,hgk]) ?_
 refine Zd h (fun h => ?_) (fun h => ?_)
 ·refine Zy ?_
  obtain ⟨e34,⟨f35a,c35,f35b,f35c,f35d⟩,h⟩:=bindIS h
  simp only [Int.reduceToNat] at f35b f35d
  refine Zv 5 (tm 123 [(83,.ptr 4 0 0),(87,.i .i64 (cI .i64 (sI .u8 e34 48)))]) (Zi pc r12.2.line_ r12.2.at_ r12.2.names_ r12.2.code_ r12.2.bad_) gg hC (by kernel_rfl) (by simp -implicitDefEqProofs [f35a,f35b,f35c,f35d,hgk]) ?_
  obtain ⟨r36,q37,h⟩:=Zc h
  refine Zq (ok79) (pc,r12.2,2,cI .i64 (sI .u8 e34 48),(some 0)) r36 q37 (by simp [Zm]) rfl (by simp) (by simp [Zr]) (by simp [hgk]) (by simp [Zx,Zs,hgb]) (Zu (t':=(tm 123 [(83,.ptr 4 0 0),(87,.i .i64 (cI .i64 (sI .u8 e34 48))),(88,.tup [])])) (m':=(Zi pc r36.line_ r36.at_ r36.names_ r36.code_ r36.bad_)) (g':=gg) (by simp) (by simp [Zr]) (by simp) (Zp (tm 123 []) (Zi pc r36.line_ r36.at_ r36.names_ r36.code_ r36.bad_) gg hC (by kernel_rfl) (by simp -implicitDefEqProofs [hgk]) ?_))
  obtain rfl:=(Yz h).symm
  exact (VInX.fin (Ze (t':=(tm 123 [])) (m':=(Zi pc r36.line_ r36.at_ r36.names_ r36.code_ r36.bad_)) 6 (hgg:=by simp [Zx,Zs,Yy hgb (show 6≤6 by decide)])) (by simp) (by simp [Zr]) rfl)
 refine VW.seq (Zj [0,4,89] hC (q:=(Zk h (fun h => ?_) (fun h => ?_))))
 ·refine Zj [] hC (q:=?_)
  obtain rfl:=(Yz h).symm
  exact (VInX.fin (Ze (t':=(tm 123 [])) (m':=(Zi pc r12.2.line_ r12.2.at_ r12.2.names_ r12.2.code_ true)) 6 (hgg:=by simp [Zx,Zs,Yy hgb (show 6≤6 by decide)])) (by simp) (by simp [Zr]) rfl)
 refine Zy (Zv 2 (tm 123 [(92,.ptr 4 0 0),(93,.i .i64 r14)]) (Zi pc r12.2.line_ r12.2.at_ r12.2.names_ r12.2.code_ r12.2.bad_) gg hC (by kernel_rfl) (by simp -implicitDefEqProofs [hgk]) ?_)
 obtain ⟨r39,q40,h⟩:=Zc h
 refine Zq (ok79) (pc,r12.2,3,r14,(some 0)) r39 q40 (by simp [Zm]) rfl (by simp) (by simp [Zr]) (by simp [hgk]) (by simp [Zx,Zs,hgb]) (Zu (t':=(tm 123 [(92,.ptr 4 0 0),(93,.i .i64 r14),(94,.tup [])])) (m':=(Zi pc r39.line_ r39.at_ r39.names_ r39.code_ r39.bad_)) (g':=gg) (by simp) (by simp [Zr]) (by simp) (Zp (tm 123 []) (Zi pc r39.line_ r39.at_ r39.names_ r39.code_ r39.bad_) gg hC (by kernel_rfl) (by simp -implicitDefEqProofs [hgk]) ?_))
 obtain rfl:=(Yz h).symm
 exact (VInX.fin (Ze (t':=(tm 123 [])) (m':=(Zi pc r39.line_ r39.at_ r39.names_ r39.code_ r39.bad_)) 6 (hgg:=by simp [Zx,Zs,Yy hgb (show 6≤6 by decide)])) (by simp) (by simp [Zr]) rfl)
def g78 (s : List ByteArray) (v_ : ByteArray) : Option (Bool) :=
(g116 s v_).bind fun r1 =>
some (Xa 0 r1)
@[simp] def eA78 (a : (List ByteArray) × ByteArray) : List V:=[.sl 1 (rows Yu a.1),.str a.2]
def eB78 (r : Bool) : V:=.b r
theorem inj78 (a a' : (List ByteArray) × ByteArray) (h : eA78 a = eA78 a') : a = a':=by simpa [eA78,Prod.ext_iff] using h
def F78 : List V→Option V:=tells (fun a => g78 a.1 a.2) eA78 eB78
theorem ok78 : Zz Tryz.prog 78 F78:=by
 refine Zg 9 Tryz.func78 ?_
 rintro ⟨s,v_⟩ r h
 replace h : (g78 s v_).bind some = some r:=h
 rw [g78] at h
 have hC : Qc.Ok Tryz.prog [(116,F116)]:=⟨.inl ok116,trivial⟩
 refine VW.seq (Za [0,1] hC (q:=VW.seq ?_))
 obtain ⟨r1,q2,h⟩:=Zc h
 have c2:=tl116 q2
 refine Zj [4] hC (q:=?_)
 exact VW.ret (Zb h (by simp [eB78]))
theorem tl78 {s : List ByteArray} {v_ : ByteArray} {r : Bool} (h : g78 s v_ = some r) : F78 [.sl 1 (rows Yu s),.str v_] = some (.b r):=Zf inj78 (a:=(s,v_)) h
def g117_j1 (kind : Int) (x_3 : Bool) : Option (Int × Int) :=
if x_3 = true then
some (0,1)
else
if Yx kind 4 = true then
some (1,0)
else
if Yx kind 12 = true then
some (1,1)
else
if Yx kind 11 = true then
some (3,1)
else
some (2,1)
def g117 (kind : Int) : Option (Int × Int) :=
if Yx kind 1 = true then
g117_j1 kind (Yx kind 1)
else
if Yx kind 2 = true then
g117_j1 kind (Yx kind 2)
else
g117_j1 kind (Yx kind 3)
@[simp] def eA117 (a : Int) : List V:=[.i .i8 a]
def eB117 (r : Int × Int) : V:=.tup [.i .i64 r.1,.i .i64 r.2]
theorem inj117 (a a' : Int) (h : eA117 a = eA117 a') : a = a':=by simpa [eA117,Prod.ext_iff] using h
def F117 : List V→Option V:=tells (fun a => g117 a) eA117 eB117
theorem ok117 : Zz Tryz.prog 117 F117:=by
 refine Zg 15 Tryz.func117 ?_
 rintro kind r h
 rw [g117] at h
 have hC : Qc.Ok Tryz.prog []:=trivial
 refine VW.seq (Za [0] hC (q:=(VW.seq (VW.seq (Za [4] hC (q:=(VW.block (VW.join (fun (v : Bool) => (⟨(tm 15 [(4,.i .i8 kind),(5,.b v)]),[],[]⟩ : VS)) (fun v => (g117_j1 kind (v)).bind some = some r) ?_ ?_))))))))
 ·refine VW.seq (Za [4,5] hC (q:=(Zd h (fun h => ?_) (fun h => ?_))))
  ·exact VW.skip (Zn (Yx kind 1) h (Ze 0))
  refine VW.seq (Za [4,5] hC (q:=(Zd h (fun h => ?_) (fun h => ?_))))
  ·exact VW.skip (Zn (Yx kind 2) h (Ze 0))
  exact Za [4,5] hC (q:=(Zn (Yx kind 3) h (Ze 0)))
 rintro x_3 h
 replace h : (g117_j1 kind x_3).bind _ = _:=h
 rw [g117_j1] at h
 refine Zd h (fun h => ?_) (fun h => ?_)
 ·refine VW.seq (Za [2,3] hC (q:=?_))
  exact VW.ret (Zb h (by simp [eB117]))
 refine VW.seq (Za [4,9] hC (q:=(Zd h (fun h => ?_) (fun h => ?_))))
 ·refine VW.seq (Za [2,3] hC (q:=?_))
  exact VW.ret (Zb h (by simp [eB117]))
 refine VW.seq (Za [4,11] hC (q:=(Zd h (fun h => ?_) (fun h => ?_))))
 ·refine VW.seq (Za [2,3] hC (q:=?_))
  exact VW.ret (Zb h (by simp [eB117]))
 refine VW.seq (Za [13] hC (q:=(Zd h (fun h => ?_) (fun h => ?_))))
 ·refine VW.seq (Za [2,3] hC (q:=?_))
  exact VW.ret (Zb h (by simp [eB117]))
 refine VW.skip (VW.seq (Za [2,3] hC (q:=?_)))
 exact VW.ret (Zb h (by simp [eB117]))
theorem tl117 {kind : Int} {r : Int × Int} (h : g117 kind = some r) : F117 [.i .i8 kind] = some (.tup [.i .i64 r.1,.i .i64 r.2]):=Zf inj117 (a:=kind) h
def g80_j1 (most_22 : Int) : Option (Int) :=
some most_22
def g80_L1 (code : List T189) : (Int × Int × Int)→Option ((Int × Int × Int) ⊕ (Int))
| (have_36,most_37,x_38) =>
if Zo x_38 (code.length : Int) = true then
(Wp code x_38).bind fun e40 =>
(g117 e40.kind_).bind fun r42 =>
some (.inl (aI .i64 have_36 (sI .i64 r42.2 r42.1),maxI most_37 (aI .i64 have_36 (sI .i64 r42.2 r42.1)),aI .i64 x_38 1))
else
some (.inr most_37)
def g80 (code : List T189) : Option (Int) :=
(loopO (g80_L1 code) (0,0,0)).bind fun w => g80_j1 w
@[simp] def eA80 (a : List T189) : List V:=[.sl 3 (rows Yi a)]
def eB80 (r : Int) : V:=.i .i64 r
theorem inj80 (a a' : List T189) (h : eA80 a = eA80 a') : a = a':=by simpa [eA80,Prod.ext_iff] using h
def F80 : List V→Option V:=tells (fun a => g80 a) eA80 eB80
theorem ok80 : Zz Tryz.prog 80 F80:=by
 refine Zg 31 Tryz.func80 ?_
 rintro code r h
 rw [g80] at h
 have hC : Qc.Ok Tryz.prog [(117,F117)]:=⟨.inl ok117,trivial⟩
 refine VW.seq (Za [0] hC (h:=by simp -implicitDefEqProofs [Ke]; exact .rfl) (q:=(VW.seq (Za [0,3,4] hC (h:=by simp -implicitDefEqProofs [Ke]; exact .rfl) (q:=(VW.join (fun (v : Int) => (⟨(tm 31 [(4,.i .i64 v)]),[],[]⟩ : VS)) (fun v => (g80_j1 (v)).bind some = some r) ?_ ?_))))))
 ·refine VW.seq (Za [3,4,9,10,11] hC (h:=by simp -implicitDefEqProofs [Ke]; exact .rfl) (q:=VW.block ?_))
  obtain ⟨w_1,hw_1,h⟩:=Zc h
  refine VW.loopO (fun (x : Int × Int × Int) => (⟨(tm 31 [(3,.i .i64 x.1),(4,.i .i64 x.2.1),(9,.sl 3 (rows Yi code)),(10,.i .i64 (code.length : Int)),(11,.i .i64 x.2.2)]),[],[]⟩ : VS)) hw_1 (Ze 0) ?_
  rintro n_1 ⟨have_36,most_37,x_38⟩ h1
  rw [g80_L1] at h1
  refine VW.seq (Za [3,4,9,10,11,12] hC (h:=by simp -implicitDefEqProofs [Ke]; exact .rfl) (q:=(VW.seq (Zk h1 (fun h1 => ?_) (fun h1 => ?_)))))
  ·refine VW.exit ?_
   have e_:=Yd h1
   subst w_1
   exact Zn most_37 h (Ze 0)
  refine VW.skip (VW.seq (VW.block (VW.seq ?_)))
  obtain ⟨e40,⟨f41a,f41b,f41c,f41d⟩,h1⟩:=Ys h1
  refine Za [3,4,6,9,10,11] hC (h:=by simp -implicitDefEqProofs [f41a,f41b,f41c,f41d,Ke]; exact .rfl) (q:=VW.seq ?_)
  obtain ⟨r42,q43,h1⟩:=Zc h1
  have c43:=tl117 q43
  exact Za [3,4,7,8,9,10,11] hC (h:=by simp -implicitDefEqProofs [c43,Ke]; exact .rfl) (q:=(VW.seq (Za [3,4,9,10,11] hC (h:=by simp -implicitDefEqProofs [Ke]; exact .rfl) (q:=(Za [3,4,9,10,11] hC (h:=by simp -implicitDefEqProofs [Ke]; exact .rfl) (q:=(Za [3,4,9,10,11] hC (h:=by simp -implicitDefEqProofs [Ke]; exact .rfl) (q:=(Zn (aI .i64 have_36 (sI .i64 r42.2 r42.1),maxI most_37 (aI .i64 have_36 (sI .i64 r42.2 r42.1)),aI .i64 x_38 1) (Yr h1) (Ze 0))))))))))
 rintro most_22 h
 replace h : (g80_j1 most_22).bind _ = _:=h
 rw [g80_j1] at h
 refine VW.seq (Za [2] hC (q:=?_))
 exact VW.ret (Zb h (by simp [eB80]))
theorem tl80 {code : List T189} {r : Int} (h : g80 code = some r) : F80 [.sl 3 (rows Yi code)] = some (.i .i64 r):=Zf inj80 (a:=code) h
def g34_j2 (l115 : List ByteArray) (l116 : List T189) : Option (T79 × Int × Int) :=
some ((⟨l115,l116⟩ : T79),0,0)
def g34_L1 (lines_9 : List ByteArray) : (Int × (List ByteArray) × (List T189))→Option ((Int × (List ByteArray) × (List T189)) ⊕ (((List ByteArray) × (List T189)) ⊕ (T79 × Int × Int)))
| (x_186,l187,l188) =>
if Zo x_186 (lines_9.length : Int) = true then
(Wp lines_9 x_186).bind fun e190 =>
(g73 (⟨e190,0,l187,[],false⟩ : T139)).bind fun r192 =>
(g74 r192.1).bind fun r194 =>
if (!r194) = true then
some (.inr (.inr ((⟨[],[]⟩ : T79),x_186,5)))
else
(g75 r192.2 61).bind fun r197 =>
(g76 g153 r197).bind fun r199 =>
if r199.bad_ = true then
some (.inr (.inr ((⟨[],[]⟩ : T79),x_186,5)))
else
(g77 r199).bind fun r202 =>
if ((!Yx r202.1 0) || Zo r202.2.at_ (r202.2.line_.size : Int)) = true then
some (.inr (.inr ((⟨[],[]⟩ : T79),x_186,5)))
else
(g78 r202.2.names_ r192.1).bind fun r205 =>
if r205 = true then
some (.inr (.inr ((⟨[],[]⟩ : T79),x_186,4)))
else
(g79 r202.2 4 (r202.2.names_.length : Int) (some 0)).bind fun r208 =>
(if (Yx (r208.names_.length : Int) 12 || Zo 300 (aI .i64 (l188.length : Int) (r208.code_.length : Int))) = true then some true else (g80 r208.code_).bind fun r210 => some (Zo 20 r210)).bind fun w212 =>
if w212 = true then
some (.inr (.inr ((⟨[],[]⟩ : T79),x_186,3)))
else
(Jm 16 [] r208.names_).bind fun u214 =>
(Jm 16 r208.names_ [r192.1]).bind fun u216 =>
(Jm 8 l188 r208.code_).bind fun u218 =>
some (.inl (aI .i64 x_186 1,(r208.names_ ++ [r192.1]),(l188 ++ r208.code_)))
else
some (.inr (.inl (l187,l188)))
def g34_j1 (lines_9 : List ByteArray) : Option (T79 × Int × Int) :=
(loopO (g34_L1 lines_9) (0,[],[])).bind fun w => match w with
| .inl y => g34_j2 y.1 y.2
| .inr r => some r
def g34 (text : ByteArray) : Option (T79 × Int × Int) :=
if Zo 2000 (text.size : Int) = true then
some ((⟨[],[]⟩ : T79),0,2)
else
(g72 text (⟨#[10]⟩ : ByteArray)).bind fun r2 =>
(Wp r2 (sI .i64 (r2.length : Int) 1)).bind fun e222 =>
if Jb e222 ByteArray.empty = true then
(Jw 0 (sI .i64 (r2.length : Int) 1) r2.length).bind fun u225 =>
g34_j1 (r2.take (sI .i64 (r2.length : Int) 1).toNat)
else
g34_j1 r2
@[simp] def eA34 (a : ByteArray) : List V:=[.str a]
def eB34 (r : T79 × Int × Int) : V:=.tup [.agg [.own 1 (rows Yu r.1.names_),.own 3 (rows Yi r.1.code_)],.i .i64 r.2.1,.i .i64 r.2.2]
theorem inj34 (a a' : ByteArray) (h : eA34 a = eA34 a') : a = a':=by simpa [eA34,Prod.ext_iff] using h
def F34 : List V→Option V:=tells (fun a => g34 a) eA34 eB34
theorem ok34 : Zz Tryz.prog 34 F34:=by
 refine Zg 131 Tryz.func34 ?_
 rintro text r h
 rw [g34] at h
 have hC : Qc.Ok Tryz.prog [(72,fzF F72),(74,F74),(78,F78),(80,F80)]:=⟨.inl ok72.fz,.inl ok74,.inl ok78,.inl ok80,trivial⟩
 refine VW.seq (Za [0,2] hC (q:=(VW.seq (VW.seq (Za [0,2,13] hC (q:=(Zd h (fun h => ?_) (fun h => ?_))))))))
 ·refine VW.seq (Za [2,3,4] hC (q:=?_))
  exact VW.ret (Zb h (by simp [eB34]))
 refine VW.skip (VW.seq ?_)
 obtain ⟨r2,q3,h⟩:=Zc h
 have c3:=tl72 q3
 replace c3 : fzF F72 [.str text,.str (⟨#[10]⟩ : ByteArray)] = some (.sl 1 (rows Yu r2)):=(fzF_eq c3).trans (by simp)
 refine Zj [2,5] hC (q:=(VW.join (fun (v : List ByteArray) => (⟨(tm 131 [(2,.ptr 0 0 0),(5,.sl 1 (rows Yu v))]),[some (2,[[.nil,.nil]])],[]⟩ : VS)) (fun v => (g34_j1 (v)).bind some = some r) ?_ ?_))
 ·refine VW.seq ?_
  obtain ⟨e222,⟨f223a,f223b,f223c,f223d⟩,h⟩:=Ys h
  try simp only [Int.toNat_natCast,Int.reduceToNat] at f223a f223b f223c f223d
  refine Zj [2,5,23] hC (q:=(Zk h (fun h => ?_) (fun h => ?_)))
  ·exact VW.skip (Zn r2 h (Ze 1))
  obtain ⟨u225,⟨f226a,f226b,f226c,f226d,f226e⟩,h⟩:=Gj h
  try simp only [Int.toNat_natCast,Int.reduceToNat,List.length_cons,List.length_nil,Nat.reduceAdd,Nat.zero_add] at f226a f226b f226c f226d f226e
  exact Zj [2,5] hC (q:=(Zn (r2.take (sI .i64 (r2.length : Int) 1).toNat) h (Ze 1)))
 rintro lines_9 h
 replace h : (g34_j1 lines_9).bind _ = _:=h
 rw [g34_j1] at h
 refine VW.seq (VW.rE (tm 131 [(2,.ptr 0 0 0),(5,.sl 1 (rows Yu lines_9)),(6,.ptr 1 0 0)]) [some (2,[[.nil,.nil]]),some (2,[[.nil,.nil]])] [] hC (Qm.trans (Kz (m:=[some (2,[[.nil,.nil]]),some (2,[[.nil,.nil]])]) 1 1 [some (2,[[.nil,.nil]]),some (2,[[.ref 2 0 0,.nil]]),some (1,rows Yu [])] rfl (by simp) rfl) (Kz (m:=[some (2,[[.nil,.nil]]),some (2,[[.ref 2 0 0,.nil]]),some (1,rows Yu [])]) 1 3 [some (2,[[.nil,.nil]]),some (2,[[.ref 2 0 0,.ref 3 0 0]]),some (1,rows Yu []),some (3,rows Yi [])] rfl (by simp) rfl) ) (VW.join (fun (v : (List ByteArray) × (List T189)) => (⟨(tm 131 [(2,.ptr 0 0 0),(6,.ptr 1 0 0)]),[some (2,[[.nil,.nil]]),some (2,[[.ref 2 0 v.1.length,.ref 3 0 v.2.length]]),some (1,rows Yu v.1),some (3,rows Yi v.2)],[]⟩ : VS)) (fun v => (g34_j2 (v.1) (v.2)).bind some = some r) ?_ ?_))
 ·refine VW.seq (Za [2,6,30,31,32] hC (q:=VW.block ?_))
  obtain ⟨w_1,hw_1,h⟩:=Zc h
  refine VW.loopO (fun (x : Int × (List ByteArray) × (List T189)) => (⟨(tm 131 [(2,.ptr 0 0 0),(6,.ptr 1 0 0),(30,.sl 1 (rows Yu lines_9)),(31,.i .i64 (lines_9.length : Int)),(32,.i .i64 x.1)]),[some (2,[[.nil,.nil]]),some (2,[[.ref 2 0 x.2.1.length,.ref 3 0 x.2.2.length]]),some (1,rows Yu x.2.1),some (3,rows Yi x.2.2)],[]⟩ : VS)) hw_1 (Ze 4) ?_
  rintro n_1 ⟨x_186,l187,l188⟩ h1
  rw [g34_L1] at h1
  refine VW.seq (Za [2,6,30,31,32,33] hC (q:=(VW.seq (Zk h1 (fun h1 => ?_) (fun h1 => ?_)))))
  ·refine VW.exit ?_
   have e_:=Yd h1
   subst w_1
   exact Zn (l187,l188) h (Ze 4)
  refine VW.skip (VW.seq (VW.block (VW.seq ?_)))
  obtain ⟨e190,⟨f191a,f191b,f191c,f191d⟩,h1⟩:=Ys h1
  refine Zj [2,6,7,8,30,31,32] hC (q:=(VW.seq (VW.rE (tm 131 [(2,.ptr 0 0 0),(6,.ptr 1 0 0),(7,.i .i64 x_186),(9,.ptr 4 0 0),(30,.sl 1 (rows Yu lines_9)),(31,.i .i64 (lines_9.length : Int)),(32,.i .i64 x_186)]) [some (2,[[.nil,.nil]]),some (2,[[.ref 2 0 l187.length,.ref 3 0 l188.length]]),some (1,rows Yu l187),some (3,rows Yi l188),some (5,[[.str e190,.i .i64 0,.ref 2 0 l187.length,.nil,.b false]])] [] hC (Kz (m:=[some (2,[[.nil,.nil]]),some (2,[[.ref 2 0 l187.length,.ref 3 0 l188.length]]),some (1,rows Yu l187),some (3,rows Yi l188),some (5,[[.str e190,.i .i64 0,.ref 2 0 l187.length,.nil,.b false]])]) 4 3 [some (2,[[.nil,.nil]]),some (2,[[.ref 2 0 l187.length,.ref 3 0 l188.length]]),some (1,rows Yu l187),some (3,rows Yi l188),some (5,[[.str e190,.i .i64 0,.ref 2 0 l187.length,.ref 5 0 0,.b false]]),some (3,rows Yi [])] rfl (by simp) rfl) (VW.seq (Zy (Zv 1 (tm 131 [(2,.ptr 0 0 0),(6,.ptr 1 0 0),(7,.i .i64 x_186),(9,.ptr 4 0 0),(30,.sl 1 (rows Yu lines_9)),(31,.i .i64 (lines_9.length : Int)),(32,.i .i64 x_186),(42,.ptr 4 0 0)]) [some (2,[[.nil,.nil]]),some (2,[[.ref 2 0 l187.length,.ref 3 0 l188.length]]),some (1,rows Yu l187),some (3,rows Yi l188),some (5,[[.str e190,.i .i64 0,.ref 2 0 l187.length,.ref 5 0 0,.b false]]),some (3,rows Yi [])] [] hC (by kernel_rfl) (by simp -implicitDefEqProofs) ?_))))))
  obtain ⟨r192,q193,h1⟩:=Zc h1
  refine Zq (ok73) (l188,(⟨e190,0,l187,[],false⟩ : T139)) r192 q193 (by simp [Zm]) rfl (by simp) (by simp [Zr]) (by simp) (by simp [Zx,Zs]) (Zu (t':=(tm 131 [(2,.ptr 0 0 0),(6,.ptr 1 0 0),(7,.i .i64 x_186),(9,.ptr 4 0 0),(30,.sl 1 (rows Yu lines_9)),(31,.i .i64 (lines_9.length : Int)),(32,.i .i64 x_186),(42,.ptr 4 0 0),(43,.str r192.1)])) (m':=(Zi l188 r192.2.line_ r192.2.at_ r192.2.names_ r192.2.code_ r192.2.bad_)) (g':=[]) (by simp) (by simp [Zr]) (by simp) (Zp (tm 131 [(2,.ptr 0 0 0),(6,.ptr 1 0 0),(7,.i .i64 x_186),(9,.ptr 4 0 0),(10,.str r192.1),(30,.sl 1 (rows Yu lines_9)),(31,.i .i64 (lines_9.length : Int)),(32,.i .i64 x_186)]) (Zi l188 r192.2.line_ r192.2.at_ r192.2.names_ r192.2.code_ r192.2.bad_) [] hC (by kernel_rfl) (by simp -implicitDefEqProofs) (VW.seq (VW.seq ?_))))
  obtain ⟨r194,q195,h1⟩:=Zc h1
  have c195:=tl74 q195
  refine Zj [2,6,7,9,10,30,31,32,46] hC (q:=(Zd h1 (fun h1 => ?_) (fun h1 => ?_)))
  ·refine VW.seq (Za [2,3,4] hC (q:=?_))
   have e_:=Yd h1
   subst w_1
   exact VW.ret (Zb h (by simp [eB34]))
  refine VW.skip (VW.seq (Zy (Zv 1 (tm 131 [(2,.ptr 0 0 0),(6,.ptr 1 0 0),(7,.i .i64 x_186),(9,.ptr 4 0 0),(10,.str r192.1),(30,.sl 1 (rows Yu lines_9)),(31,.i .i64 (lines_9.length : Int)),(32,.i .i64 x_186),(49,.ptr 4 0 0)]) (Zi l188 r192.2.line_ r192.2.at_ r192.2.names_ r192.2.code_ r192.2.bad_) [] hC (by kernel_rfl) (by simp -implicitDefEqProofs) ?_)))
  obtain ⟨r197,q198,h1⟩:=Zc h1
  refine Zq (ok75) (l188,r192.2,61) r197 q198 (by simp [Zm]) rfl (by simp) (by simp [Zr]) (by simp) (by simp [Zx,Zs]) (Zu (t':=(tm 131 [(2,.ptr 0 0 0),(6,.ptr 1 0 0),(7,.i .i64 x_186),(9,.ptr 4 0 0),(10,.str r192.1),(30,.sl 1 (rows Yu lines_9)),(31,.i .i64 (lines_9.length : Int)),(32,.i .i64 x_186),(49,.ptr 4 0 0),(50,.tup [])])) (m':=(Zi l188 r197.line_ r197.at_ r197.names_ r197.code_ r197.bad_)) (g':=[]) (by simp) (by simp [Zr]) (by simp) (Zp (tm 131 [(2,.ptr 0 0 0),(6,.ptr 1 0 0),(7,.i .i64 x_186),(9,.ptr 4 0 0),(10,.str r192.1),(30,.sl 1 (rows Yu lines_9)),(31,.i .i64 (lines_9.length : Int)),(32,.i .i64 x_186)]) (Zi l188 r197.line_ r197.at_ r197.names_ r197.code_ r197.bad_) [] hC (by kernel_rfl) (by simp -implicitDefEqProofs) (VW.seq (Zy (Zv 1 (tm 131 [(2,.ptr 0 0 0),(6,.ptr 1 0 0),(7,.i .i64 x_186),(9,.ptr 4 0 0),(10,.str r192.1),(30,.sl 1 (rows Yu lines_9)),(31,.i .i64 (lines_9.length : Int)),(32,.i .i64 x_186),(51,.ptr 4 0 0)]) (Zi l188 r197.line_ r197.at_ r197.names_ r197.code_ r197.bad_) [] hC (by kernel_rfl) (by simp -implicitDefEqProofs) ?_)))))
  obtain ⟨r199,q200,h1⟩:=Zc h1
  refine Zq (ok76 g153 ok153) (l188,r197) r199 q200 (by simp [Zm]) rfl (by simp) (by simp [Zr]) (by simp) (by simp [Zx,Zs]) (Zu (t':=(tm 131 [(2,.ptr 0 0 0),(6,.ptr 1 0 0),(7,.i .i64 x_186),(9,.ptr 4 0 0),(10,.str r192.1),(30,.sl 1 (rows Yu lines_9)),(31,.i .i64 (lines_9.length : Int)),(32,.i .i64 x_186),(51,.ptr 4 0 0),(52,.tup [])])) (m':=(Zi l188 r199.line_ r199.at_ r199.names_ r199.code_ r199.bad_)) (g':=[]) (by simp) (by simp [Zr]) (by simp) (Zp (tm 131 [(2,.ptr 0 0 0),(6,.ptr 1 0 0),(7,.i .i64 x_186),(9,.ptr 4 0 0),(10,.str r192.1),(30,.sl 1 (rows Yu lines_9)),(31,.i .i64 (lines_9.length : Int)),(32,.i .i64 x_186)]) (Zi l188 r199.line_ r199.at_ r199.names_ r199.code_ r199.bad_) [] hC (by kernel_rfl) (by simp -implicitDefEqProofs) (VW.seq (VW.seq (VW.chainP 10 Wc (by kernel_rfl) (Zv 5 (tm 131 [(2,.ptr 0 0 0),(6,.ptr 1 0 0),(7,.i .i64 x_186),(9,.ptr 4 0 0),(10,.str r192.1),(30,.sl 1 (rows Yu lines_9)),(31,.i .i64 (lines_9.length : Int)),(32,.i .i64 x_186),(57,.b r199.bad_)]) (Zi l188 r199.line_ r199.at_ r199.names_ r199.code_ r199.bad_) [] hC (by kernel_rfl) (by simp -implicitDefEqProofs) ?_))))))
  rcases ifB h1 with ⟨g201,h1⟩ | ⟨g201,h1⟩
  ·refine Zu (t':=(tm 131 [(2,.ptr 0 0 0),(6,.ptr 1 0 0),(7,.i .i64 x_186),(9,.ptr 4 0 0),(10,.str r192.1),(30,.sl 1 (rows Yu lines_9)),(31,.i .i64 (lines_9.length : Int)),(32,.i .i64 x_186),(57,.b true)])) (by simp [g201]) rfl rfl (Zv 5 (tm 131 [(2,.ptr 0 0 0),(6,.ptr 1 0 0),(7,.i .i64 x_186),(9,.ptr 4 0 0),(10,.str r192.1),(30,.sl 1 (rows Yu lines_9)),(31,.i .i64 (lines_9.length : Int)),(32,.i .i64 x_186),(62,.b true)]) (Zi l188 r199.line_ r199.at_ r199.names_ r199.code_ r199.bad_) [] hC (by kernel_rfl) (by simp -implicitDefEqProofs) (VL.endP 10 (tm 131 [(2,.ptr 0 0 0),(6,.ptr 1 0 0),(7,.i .i64 x_186),(9,.ptr 4 0 0),(10,.str r192.1),(30,.sl 1 (rows Yu lines_9)),(31,.i .i64 (lines_9.length : Int)),(32,.i .i64 x_186),(73,.b true)]) (Zi l188 r199.line_ r199.at_ r199.names_ r199.code_ r199.bad_) [] hC (by kernel_rfl) (by kernel_rfl) (by simp -implicitDefEqProofs) (Ye (by simp) (VW.seq (Za [2,3,4] hC (q:=?_))))))
   have e_:=Yd h1
   subst w_1
   exact VW.ret (Zb h (by simp [eB34]))
  refine Zu (t':=(tm 131 [(2,.ptr 0 0 0),(6,.ptr 1 0 0),(7,.i .i64 x_186),(9,.ptr 4 0 0),(10,.str r192.1),(30,.sl 1 (rows Yu lines_9)),(31,.i .i64 (lines_9.length : Int)),(32,.i .i64 x_186),(57,.b false)])) (by simp [g201]) rfl rfl (Zv 1 (tm 131 [(2,.ptr 0 0 0),(6,.ptr 1 0 0),(7,.i .i64 x_186),(9,.ptr 4 0 0),(10,.str r192.1),(30,.sl 1 (rows Yu lines_9)),(31,.i .i64 (lines_9.length : Int)),(32,.i .i64 x_186),(57,.b false),(58,.ptr 4 0 0)]) (Zi l188 r199.line_ r199.at_ r199.names_ r199.code_ r199.bad_) [] hC (by kernel_rfl) (by simp -implicitDefEqProofs) ?_)
  obtain ⟨r202,q203,h1⟩:=Zc h1
  refine Zq (ok77) (l188,r199) r202 q203 (by simp [Zm]) rfl (by simp) (by simp [Zr]) (by simp) (by simp [Zx,Zs]) (Zu (t':=(tm 131 [(2,.ptr 0 0 0),(6,.ptr 1 0 0),(7,.i .i64 x_186),(9,.ptr 4 0 0),(10,.str r192.1),(30,.sl 1 (rows Yu lines_9)),(31,.i .i64 (lines_9.length : Int)),(32,.i .i64 x_186),(57,.b false),(58,.ptr 4 0 0),(59,.i .u8 r202.1)])) (m':=(Zi l188 r202.2.line_ r202.2.at_ r202.2.names_ r202.2.code_ r202.2.bad_)) (g':=[]) (by simp) (by simp [Zr]) (by simp) (Zv 3 (tm 131 [(2,.ptr 0 0 0),(6,.ptr 1 0 0),(7,.i .i64 x_186),(9,.ptr 4 0 0),(10,.str r192.1),(30,.sl 1 (rows Yu lines_9)),(31,.i .i64 (lines_9.length : Int)),(32,.i .i64 x_186),(62,.b (!Yx r202.1 0))]) (Zi l188 r202.2.line_ r202.2.at_ r202.2.names_ r202.2.code_ r202.2.bad_) [] hC (by kernel_rfl) (by simp -implicitDefEqProofs) (VL.endP 10 (tm 131 [(2,.ptr 0 0 0),(6,.ptr 1 0 0),(7,.i .i64 x_186),(9,.ptr 4 0 0),(10,.str r192.1),(30,.sl 1 (rows Yu lines_9)),(31,.i .i64 (lines_9.length : Int)),(32,.i .i64 x_186),(73,.b ((!Yx r202.1 0) || Zo r202.2.at_ (r202.2.line_.size : Int)))]) (Zi l188 r202.2.line_ r202.2.at_ r202.2.names_ r202.2.code_ r202.2.bad_) [] hC (by kernel_rfl) (by kernel_rfl) (by simp -implicitDefEqProofs) (Zd h1 (fun h1 => ?_) (fun h1 => ?_)))))
  ·refine VW.seq (Za [2,3,4] hC (q:=?_))
   have e_:=Yd h1
   subst w_1
   exact VW.ret (Zb h (by simp [eB34]))
  refine VW.skip (VW.seq (VW.seq ?_))
  obtain ⟨r205,q206,h1⟩:=Zc h1
  have c206:=tl78 q206
  refine Zj [2,6,7,9,10,30,31,32,79] hC (q:=(Zd h1 (fun h1 => ?_) (fun h1 => ?_)))
  ·refine VW.seq (Za [2,3,4] hC (q:=?_))
   have e_:=Yd h1
   subst w_1
   exact VW.ret (Zb h (by simp [eB34]))
  refine VW.skip (VW.seq (Zy (Zv 4 (tm 131 [(2,.ptr 0 0 0),(6,.ptr 1 0 0),(7,.i .i64 x_186),(9,.ptr 4 0 0),(10,.str r192.1),(30,.sl 1 (rows Yu lines_9)),(31,.i .i64 (lines_9.length : Int)),(32,.i .i64 x_186),(82,.ptr 4 0 0),(85,.i .i64 (r202.2.names_.length : Int))]) (Zi l188 r202.2.line_ r202.2.at_ r202.2.names_ r202.2.code_ r202.2.bad_) [] hC (by kernel_rfl) (by simp -implicitDefEqProofs) ?_)))
  obtain ⟨r208,q209,h1⟩:=Zc h1
  refine Zq (ok79) (l188,r202.2,4,(r202.2.names_.length : Int),(some 0)) r208 q209 (by simp [Zm]) rfl (by simp) (by simp [Zr]) (by simp) (by simp [Zx,Zs]) (Zu (t':=(tm 131 [(2,.ptr 0 0 0),(6,.ptr 1 0 0),(7,.i .i64 x_186),(9,.ptr 4 0 0),(10,.str r192.1),(30,.sl 1 (rows Yu lines_9)),(31,.i .i64 (lines_9.length : Int)),(32,.i .i64 x_186),(82,.ptr 4 0 0),(85,.i .i64 (r202.2.names_.length : Int)),(86,.tup [])])) (m':=(Zi l188 r208.line_ r208.at_ r208.names_ r208.code_ r208.bad_)) (g':=[]) (by simp) (by simp [Zr]) (by simp) (Zp (tm 131 [(2,.ptr 0 0 0),(6,.ptr 1 0 0),(7,.i .i64 x_186),(9,.ptr 4 0 0),(10,.str r192.1),(30,.sl 1 (rows Yu lines_9)),(31,.i .i64 (lines_9.length : Int)),(32,.i .i64 x_186)]) (Zi l188 r208.line_ r208.at_ r208.names_ r208.code_ r208.bad_) [] hC (by kernel_rfl) (by simp -implicitDefEqProofs) (VW.seq (VW.seq ?_))))
  obtain ⟨w212,q220,h1⟩:=Zc h1
  refine Ug (tm 131 [(2,.ptr 0 0 0),(6,.ptr 1 0 0),(7,.i .i64 x_186),(9,.ptr 4 0 0),(10,.str r192.1),(30,.sl 1 (rows Yu lines_9)),(31,.i .i64 (lines_9.length : Int)),(32,.i .i64 x_186),(110,.b w212)]) (Zi l188 r208.line_ r208.at_ r208.names_ r208.code_ r208.bad_) [] hC Wc (by kernel_rfl) (by
    obtain ⟨q221,q220⟩ | ⟨q221,rfl⟩:=Uh q220
    ·obtain ⟨r210,q211,q220⟩:=Yb q220
     have c211:=tl80 q211
     obtain rfl:=Option.some.inj q220
     simp -implicitDefEqProofs [q221,c211]
    simp -implicitDefEqProofs [q221]) ?_
  refine Zd h1 (fun h1 => ?_) (fun h1 => ?_)
  ·refine VW.seq (Za [2,3,4] hC (q:=?_))
   have e_:=Yd h1
   subst w_1
   exact VW.ret (Zb h (by simp [eB34]))
  refine VW.skip (VW.seq ?_)
  obtain ⟨u214,⟨f215a,f215b⟩,h1⟩:=Jp h1
  try simp only [Int.toNat_natCast,Int.reduceToNat,List.length_cons,List.length_nil,Nat.reduceAdd,Nat.zero_add] at f215a f215b
  obtain ⟨u216,⟨f217a,f217b⟩,h1⟩:=Jp h1
  try simp only [Int.toNat_natCast,Int.reduceToNat,List.length_cons,List.length_nil,Nat.reduceAdd,Nat.zero_add] at f217a f217b
  refine Zj [2,6,9,30,31,32] hC (q:=?_)
  obtain ⟨u218,⟨f219a,f219b⟩,h1⟩:=Jp h1
  try simp only [Int.toNat_natCast,Int.reduceToNat,List.length_cons,List.length_nil,Nat.reduceAdd,Nat.zero_add] at f219a f219b
  exact VW.evalMA (CM:=[]) [[0,1,2,3,4,5,6,7,8],[0,2,1,3,4,5,6,7,8],[0,2,3,1,4,5,6,7,8],[0,2,3,4,1,5,6,7,8],[0,2,3,4,5,1,6,7,8],[2,0,1,3,4,5,6,7,8],[2,0,3,1,4,5,6,7,8],[2,0,3,4,1,5,6,7,8],[2,0,3,4,5,1,6,7,8],[2,3,0,1,4,5,6,7,8],[2,3,0,4,1,5,6,7,8],[2,3,0,4,5,1,6,7,8],[2,3,4,0,1,5,6,7,8],[2,3,4,0,5,1,6,7,8],[2,3,4,5,0,1,6,7,8]] (tm 131 [(2,.ptr 0 0 0),(6,.ptr 1 0 0),(30,.sl 1 (rows Yu lines_9)),(31,.i .i64 (lines_9.length : Int)),(32,.i .i64 x_186)]) [some (2,[[.nil,.nil]]),some (2,[[.ref 6 0 (r208.names_ ++ [r192.1]).length,.ref 3 0 (l188 ++ r208.code_).length]]),some (1,rows Yu r208.names_),some (3,rows Yi (l188 ++ r208.code_)),some (5,[[.str r208.line_,.i .i64 r208.at_,.ref 2 0 r208.names_.length,.ref 5 0 r208.code_.length,.b r208.bad_]]),some (3,rows Yi r208.code_),some (1,rows Yu (r208.names_ ++ [r192.1])),some (1,rows Yu [r192.1])] [] hC trivial Wc (by kernel_rfl) (by simp -implicitDefEqProofs [f219a,f219b]) (Za [2,6,30,31,32] hC (q:=(Zn (aI .i64 x_186 1,(r208.names_ ++ [r192.1]),(l188 ++ r208.code_)) (Yr h1) (Qm.trans (Km (t':=(tm 131 [(2,.ptr 0 0 0),(6,.ptr 1 0 0),(30,.sl 1 (rows Yu lines_9)),(31,.i .i64 (lines_9.length : Int)),(32,.i .i64 (aI .i64 x_186 1))])) (by simp)) (Qm.trans (Qm.trans (Qm.killTo (m':=[some (2,[[.nil,.nil]]),some (2,[[.ref 6 0 (r208.names_ ++ [r192.1]).length,.ref 3 0 (l188 ++ r208.code_).length]]),some (1,rows Yu r208.names_),some (3,rows Yi (l188 ++ r208.code_)),some (5,[[.str r208.line_,.i .i64 r208.at_,A,.ref 5 0 r208.code_.length,.b r208.bad_]]),some (3,rows Yi r208.code_),some (1,rows Yu (r208.names_ ++ [r192.1])),some (1,rows Yu [r192.1])]) 2 (by simp)) (Qm.mvC (t':=(tm 131 [(2,.ptr 0 0 0),(6,.ptr 1 0 0),(30,.sl 1 (rows Yu lines_9)),(31,.i .i64 (lines_9.length : Int)),(32,.i .i64 (aI .i64 x_186 1))])) 2 6 1 1 2 [.ref 6 0 (r208.names_ ++ [r192.1]).length,.ref 3 0 (l188 ++ r208.code_).length] [.ref 2 0 (r208.names_ ++ [r192.1]).length,.ref 3 0 (l188 ++ r208.code_).length] (rows Yu (r208.names_ ++ [r192.1])) [some (2,[[.nil,.nil]]),some (2,[[.ref 2 0 (r208.names_ ++ [r192.1]).length,.ref 3 0 (l188 ++ r208.code_).length]]),some (1,rows Yu (r208.names_ ++ [r192.1])),some (3,rows Yi (l188 ++ r208.code_)),some (5,[[.str r208.line_,.i .i64 r208.at_,A,.ref 5 0 r208.code_.length,.b r208.bad_]]),some (3,rows Yi r208.code_),none,some (1,rows Yu [r192.1])] (by decide) (by simp) rfl (by decide) (by decide) rfl (by simp [mv1]) (by simp) (by simp [mv1]) (by simp) (by simp) (by simp) (by simp) (by simp))) (Ze 4))))))
 rintro ⟨l115,l116⟩ h
 replace h : (g34_j2 l115 l116).bind _ = _:=h
 rw [g34_j2] at h
 refine VW.seq (Za [2,3,4] hC (q:=?_))
 exact VW.ret (Zb h (by simp [eB34]))
theorem tl34 {text : ByteArray} {r : T79 × Int × Int} (h : g34 text = some r) : F34 [.str text] = some (.tup [.agg [.own 1 (rows Yu r.1.names_),.own 3 (rows Yi r.1.code_)],.i .i64 r.2.1,.i .i64 r.2.2]):=Zf inj34 (a:=text) h
def g81_j1 : Option (Bool) :=
some true
def g81 (w_ : T149) : Option (Bool) :=
(g32 w_.wet_.a0_ (some 1092616192)).bind fun r85 =>
(if (!r85) = true then some true else (g32 w_.fuel_.a0_ (some 1092616192)).bind fun r87 => some (!r87)).bind fun w89 =>
(if w89 = true then some true else (g33 w_.heat_.a0_ (some 3262119936) (some 1153138688)).bind fun r90 => some (!r90)).bind fun w92 =>
if w92 = true then
some false
else
(g32 w_.wet_.a1_ (some 1092616192)).bind fun r94 =>
(if (!r94) = true then some true else (g32 w_.fuel_.a1_ (some 1092616192)).bind fun r96 => some (!r96)).bind fun w98 =>
(if w98 = true then some true else (g33 w_.heat_.a1_ (some 3262119936) (some 1153138688)).bind fun r99 => some (!r99)).bind fun w101 =>
if w101 = true then
some false
else
(g32 w_.wet_.a2_ (some 1092616192)).bind fun r103 =>
(if (!r103) = true then some true else (g32 w_.fuel_.a2_ (some 1092616192)).bind fun r105 => some (!r105)).bind fun w107 =>
(if w107 = true then some true else (g33 w_.heat_.a2_ (some 3262119936) (some 1153138688)).bind fun r108 => some (!r108)).bind fun w110 =>
if w110 = true then
some false
else
(g32 w_.wet_.a3_ (some 1092616192)).bind fun r112 =>
(if (!r112) = true then some true else (g32 w_.fuel_.a3_ (some 1092616192)).bind fun r114 => some (!r114)).bind fun w116 =>
(if w116 = true then some true else (g33 w_.heat_.a3_ (some 3262119936) (some 1153138688)).bind fun r117 => some (!r117)).bind fun w119 =>
if w119 = true then
some false
else
(g32 w_.wet_.a4_ (some 1092616192)).bind fun r121 =>
(if (!r121) = true then some true else (g32 w_.fuel_.a4_ (some 1092616192)).bind fun r123 => some (!r123)).bind fun w125 =>
(if w125 = true then some true else (g33 w_.heat_.a4_ (some 3262119936) (some 1153138688)).bind fun r126 => some (!r126)).bind fun w128 =>
if w128 = true then
some false
else
(g32 w_.wet_.a5_ (some 1092616192)).bind fun r130 =>
(if (!r130) = true then some true else (g32 w_.fuel_.a5_ (some 1092616192)).bind fun r132 => some (!r132)).bind fun w134 =>
(if w134 = true then some true else (g33 w_.heat_.a5_ (some 3262119936) (some 1153138688)).bind fun r135 => some (!r135)).bind fun w137 =>
if w137 = true then
some false
else
g81_j1
@[simp] def eA81 (a : T149) : List V:=[.agg (Ya a)]
def eB81 (r : Bool) : V:=.b r
theorem inj81 (a a' : T149) (h : eA81 a = eA81 a') : a = a':=by simpa [eA81,Prod.ext_iff] using h
def F81 : List V→Option V:=tells (fun a => g81 a) eA81 eB81
theorem ok81 : Zz Tryz.prog 81 F81:=by
 refine Zg 30 Tryz.func81 ?_
 rintro w_ r h
 rw [g81] at h
 have hC : Qc.Ok Tryz.prog [(32,F32c),(33,F33)]:=⟨.inl ok32,.inl ok33,trivial⟩
 refine VW.seq (Za [1] hC (q:=(VW.join (fun (v : Unit) => (⟨(tm 30 []),[some (18,[(Ya w_)])],[]⟩ : VS)) (fun v => (g81_j1).bind some = some r) ?_ ?_)))
 ·refine VW.seq (Za [1,4] hC (q:=(VW.block (VW.rounds 8 (VRounds.step (VW.seq (Za [1,4,5] hC (h:=by simp -implicitDefEqProofs [(by decide : Zo 0 6 = true)]; exact .rfl) (q:=(VW.seq (Ye (by simp) (VW.skip (VW.seq (VW.block (VW.seq (Za [1,3,4] hC (q:=VW.seq ?_))))))))))))))))
  obtain ⟨r85,q86,h⟩:=Zc h
  have c86:=tl32 q86
  obtain ⟨w89,q164,h⟩:=Zc h
  obtain ⟨w92,q165,h⟩:=Zc h
  refine Yg (tm 30 [(1,.ptr 0 0 0),(4,.i .i64 0),(28,.b w92)]) [some (18,[(Ya w_)])] [] hC (by kernel_rfl) (by
    obtain ⟨q166,q164⟩ | ⟨q166,rfl⟩:=Uh q164
    ·obtain ⟨r87,q88,q164⟩:=Yb q164
     have c88:=tl32 q88
     obtain rfl:=Option.some.inj q164
     obtain ⟨q167,q165⟩ | ⟨q167,rfl⟩:=Uh q165
     ·obtain ⟨r90,q91,q165⟩:=Yb q165
      have c91:=tl33 q91
      obtain rfl:=Option.some.inj q165
      simp -implicitDefEqProofs [c86,q166,c88,q167,c91,Ya]
     simp -implicitDefEqProofs [c86,q166,c88,q167,Ya]
    obtain ⟨q168,q165⟩ | ⟨q168,rfl⟩:=Uh q165
    ·exact absurd q168 (by simp)
    simp -implicitDefEqProofs [c86,q166,q168,Ya]) ?_
  refine Zd h (fun h => ?_) (fun h => ?_)
  ·refine VW.seq (Za [2] hC (q:=?_))
   exact VW.ret (Zb h (by simp [eB81]))
  refine VW.skip (Za [1,4] hC (h:=by simp -implicitDefEqProofs [(by decide : aI .i64 0 1 = 1)]; exact .rfl) (q:=(VRounds.step (VW.seq (Za [1,4,5] hC (h:=by simp -implicitDefEqProofs [(by decide : Zo 1 6 = true)]; exact .rfl) (q:=(VW.seq (Ye (by simp) (VW.skip (VW.seq (VW.block (VW.seq (Za [1,3,4] hC (q:=VW.seq ?_))))))))))))))
  obtain ⟨r94,q95,h⟩:=Zc h
  have c95:=tl32 q95
  obtain ⟨w98,q159,h⟩:=Zc h
  obtain ⟨w101,q160,h⟩:=Zc h
  refine Yg (tm 30 [(1,.ptr 0 0 0),(4,.i .i64 1),(28,.b w101)]) [some (18,[(Ya w_)])] [] hC (by kernel_rfl) (by
    obtain ⟨q161,q159⟩ | ⟨q161,rfl⟩:=Uh q159
    ·obtain ⟨r96,q97,q159⟩:=Yb q159
     have c97:=tl32 q97
     obtain rfl:=Option.some.inj q159
     obtain ⟨q162,q160⟩ | ⟨q162,rfl⟩:=Uh q160
     ·obtain ⟨r99,q100,q160⟩:=Yb q160
      have c100:=tl33 q100
      obtain rfl:=Option.some.inj q160
      simp -implicitDefEqProofs [c95,q161,c97,q162,c100,Ya]
     simp -implicitDefEqProofs [c95,q161,c97,q162,Ya]
    obtain ⟨q163,q160⟩ | ⟨q163,rfl⟩:=Uh q160
    ·exact absurd q163 (by simp)
    simp -implicitDefEqProofs [c95,q161,q163,Ya]) ?_
  refine Zd h (fun h => ?_) (fun h => ?_)
  ·refine VW.seq (Za [2] hC (q:=?_))
   exact VW.ret (Zb h (by simp [eB81]))
  refine VW.skip (Za [1,4] hC (h:=by simp -implicitDefEqProofs [(by decide : aI .i64 1 1 = 2)]; exact .rfl) (q:=(VRounds.step (VW.seq (Za [1,4,5] hC (h:=by simp -implicitDefEqProofs [(by decide : Zo 2 6 = true)]; exact .rfl) (q:=(VW.seq (Ye (by simp) (VW.skip (VW.seq (VW.block (VW.seq (Za [1,3,4] hC (q:=VW.seq ?_))))))))))))))
  obtain ⟨r103,q104,h⟩:=Zc h
  have c104:=tl32 q104
  obtain ⟨w107,q154,h⟩:=Zc h
  obtain ⟨w110,q155,h⟩:=Zc h
  refine Yg (tm 30 [(1,.ptr 0 0 0),(4,.i .i64 2),(28,.b w110)]) [some (18,[(Ya w_)])] [] hC (by kernel_rfl) (by
    obtain ⟨q156,q154⟩ | ⟨q156,rfl⟩:=Uh q154
    ·obtain ⟨r105,q106,q154⟩:=Yb q154
     have c106:=tl32 q106
     obtain rfl:=Option.some.inj q154
     obtain ⟨q157,q155⟩ | ⟨q157,rfl⟩:=Uh q155
     ·obtain ⟨r108,q109,q155⟩:=Yb q155
      have c109:=tl33 q109
      obtain rfl:=Option.some.inj q155
      simp -implicitDefEqProofs [c104,q156,c106,q157,c109,Ya]
     simp -implicitDefEqProofs [c104,q156,c106,q157,Ya]
    obtain ⟨q158,q155⟩ | ⟨q158,rfl⟩:=Uh q155
    ·exact absurd q158 (by simp)
    simp -implicitDefEqProofs [c104,q156,q158,Ya]) ?_
  refine Zd h (fun h => ?_) (fun h => ?_)
  ·refine VW.seq (Za [2] hC (q:=?_))
   exact VW.ret (Zb h (by simp [eB81]))
  refine VW.skip (Za [1,4] hC (h:=by simp -implicitDefEqProofs [(by decide : aI .i64 2 1 = 3)]; exact .rfl) (q:=(VRounds.step (VW.seq (Za [1,4,5] hC (h:=by simp -implicitDefEqProofs [(by decide : Zo 3 6 = true)]; exact .rfl) (q:=(VW.seq (Ye (by simp) (VW.skip (VW.seq (VW.block (VW.seq (Za [1,3,4] hC (q:=VW.seq ?_))))))))))))))
  obtain ⟨r112,q113,h⟩:=Zc h
  have c113:=tl32 q113
  obtain ⟨w116,q149,h⟩:=Zc h
  obtain ⟨w119,q150,h⟩:=Zc h
  refine Yg (tm 30 [(1,.ptr 0 0 0),(4,.i .i64 3),(28,.b w119)]) [some (18,[(Ya w_)])] [] hC (by kernel_rfl) (by
    obtain ⟨q151,q149⟩ | ⟨q151,rfl⟩:=Uh q149
    ·obtain ⟨r114,q115,q149⟩:=Yb q149
     have c115:=tl32 q115
     obtain rfl:=Option.some.inj q149
     obtain ⟨q152,q150⟩ | ⟨q152,rfl⟩:=Uh q150
     ·obtain ⟨r117,q118,q150⟩:=Yb q150
      have c118:=tl33 q118
      obtain rfl:=Option.some.inj q150
      simp -implicitDefEqProofs [c113,q151,c115,q152,c118,Ya]
     simp -implicitDefEqProofs [c113,q151,c115,q152,Ya]
    obtain ⟨q153,q150⟩ | ⟨q153,rfl⟩:=Uh q150
    ·exact absurd q153 (by simp)
    simp -implicitDefEqProofs [c113,q151,q153,Ya]) ?_
  refine Zd h (fun h => ?_) (fun h => ?_)
  ·refine VW.seq (Za [2] hC (q:=?_))
   exact VW.ret (Zb h (by simp [eB81]))
  refine VW.skip (Za [1,4] hC (h:=by simp -implicitDefEqProofs [(by decide : aI .i64 3 1 = 4)]; exact .rfl) (q:=(VRounds.step (VW.seq (Za [1,4,5] hC (h:=by simp -implicitDefEqProofs [(by decide : Zo 4 6 = true)]; exact .rfl) (q:=(VW.seq (Ye (by simp) (VW.skip (VW.seq (VW.block (VW.seq (Za [1,3,4] hC (q:=VW.seq ?_))))))))))))))
  obtain ⟨r121,q122,h⟩:=Zc h
  have c122:=tl32 q122
  obtain ⟨w125,q144,h⟩:=Zc h
  obtain ⟨w128,q145,h⟩:=Zc h
  refine Yg (tm 30 [(1,.ptr 0 0 0),(4,.i .i64 4),(28,.b w128)]) [some (18,[(Ya w_)])] [] hC (by kernel_rfl) (by
    obtain ⟨q146,q144⟩ | ⟨q146,rfl⟩:=Uh q144
    ·obtain ⟨r123,q124,q144⟩:=Yb q144
     have c124:=tl32 q124
     obtain rfl:=Option.some.inj q144
     obtain ⟨q147,q145⟩ | ⟨q147,rfl⟩:=Uh q145
     ·obtain ⟨r126,q127,q145⟩:=Yb q145
      have c127:=tl33 q127
      obtain rfl:=Option.some.inj q145
      simp -implicitDefEqProofs [c122,q146,c124,q147,c127,Ya]
     simp -implicitDefEqProofs [c122,q146,c124,q147,Ya]
    obtain ⟨q148,q145⟩ | ⟨q148,rfl⟩:=Uh q145
    ·exact absurd q148 (by simp)
    simp -implicitDefEqProofs [c122,q146,q148,Ya]) ?_
  refine Zd h (fun h => ?_) (fun h => ?_)
  ·refine VW.seq (Za [2] hC (q:=?_))
   exact VW.ret (Zb h (by simp [eB81]))
  refine VW.skip (Za [1,4] hC (h:=by simp -implicitDefEqProofs [(by decide : aI .i64 4 1 = 5)]; exact .rfl) (q:=(VRounds.step (VW.seq (Za [1,4,5] hC (h:=by simp -implicitDefEqProofs [(by decide : Zo 5 6 = true)]; exact .rfl) (q:=(VW.seq (Ye (by simp) (VW.skip (VW.seq (VW.block (VW.seq (Za [1,3,4] hC (q:=VW.seq ?_))))))))))))))
  obtain ⟨r130,q131,h⟩:=Zc h
  have c131:=tl32 q131
  obtain ⟨w134,q139,h⟩:=Zc h
  obtain ⟨w137,q140,h⟩:=Zc h
  refine Yg (tm 30 [(1,.ptr 0 0 0),(4,.i .i64 5),(28,.b w137)]) [some (18,[(Ya w_)])] [] hC (by kernel_rfl) (by
    obtain ⟨q141,q139⟩ | ⟨q141,rfl⟩:=Uh q139
    ·obtain ⟨r132,q133,q139⟩:=Yb q139
     have c133:=tl32 q133
     obtain rfl:=Option.some.inj q139
     obtain ⟨q142,q140⟩ | ⟨q142,rfl⟩:=Uh q140
     ·obtain ⟨r135,q136,q140⟩:=Yb q140
      have c136:=tl33 q136
      obtain rfl:=Option.some.inj q140
      simp -implicitDefEqProofs [c131,q141,c133,q142,c136,Ya]
     simp -implicitDefEqProofs [c131,q141,c133,q142,Ya]
    obtain ⟨q143,q140⟩ | ⟨q143,rfl⟩:=Uh q140
    ·exact absurd q143 (by simp)
    simp -implicitDefEqProofs [c131,q141,q143,Ya]) ?_
  refine Zd h (fun h => ?_) (fun h => ?_)
  ·refine VW.seq (Za [2] hC (q:=?_))
   exact VW.ret (Zb h (by simp [eB81]))
  exact VW.skip (Za [1,4] hC (h:=by simp -implicitDefEqProofs [(by decide : aI .i64 5 1 = 6)]; exact .rfl) (q:=(VRounds.step (VW.seq (Za [1,4,5] hC (h:=by simp -implicitDefEqProofs [(by decide : Zo 6 6 = false)]; exact .rfl) (q:=(VW.seq (Qj (by simp) (VW.exit (Zn () h (Ze 1)))))))))))
 rintro _ h
 replace h : (g81_j1).bind _ = _:=h
 rw [g81_j1] at h
 refine VW.seq (Za [2] hC (q:=?_))
 exact VW.ret (Zb h (by simp [eB81]))
theorem tl81 {w_ : T149} {r : Bool} (h : g81 w_ = some r) : F81 [.agg [.f .f32 w_.wet_.a0_,.f .f32 w_.wet_.a1_,.f .f32 w_.wet_.a2_,.f .f32 w_.wet_.a3_,.f .f32 w_.wet_.a4_,.f .f32 w_.wet_.a5_,.f .f32 w_.heat_.a0_,.f .f32 w_.heat_.a1_,.f .f32 w_.heat_.a2_,.f .f32 w_.heat_.a3_,.f .f32 w_.heat_.a4_,.f .f32 w_.heat_.a5_,.f .f32 w_.fuel_.a0_,.f .f32 w_.fuel_.a1_,.f .f32 w_.fuel_.a2_,.f .f32 w_.fuel_.a3_,.f .f32 w_.fuel_.a4_,.f .f32 w_.fuel_.a5_]] = some (.b r):=Zf inj81 (a:=w_) h
def g35_j1 (s : T85) : Option (Bool) :=
(g33 s.box_ (some 3262119936) (some 1153138688)).bind fun r22 =>
(if r22 = true then (g82 s.damper_).bind fun r24 => some r24 else some false).bind fun w26 =>
(if ((((w26 && Xa 0 s.state_) && Xa s.state_ 3) && Xa 0 s.ash_) && Xa s.ash_ 1000000) = true then (g70 s.dust_).bind fun r27 => some r27 else some false).bind fun w29 =>
some (w29 && ltF .f32 s.dust_ (some 1065353216))
def g35_L1 (s : T85) : (Int)→Option ((Int) ⊕ ((Unit) ⊕ (Bool)))
| x_48 =>
if Zo x_48 (s.logs_.length : Int) = true then
(Wp s.logs_ x_48).bind fun e50 =>
(g81 e50).bind fun r52 =>
if (!r52) = true then
some (.inr (.inr false))
else
some (.inl (aI .i64 x_48 1))
else
some (.inr (.inl ()))
def g35 (s : T85) : Option (Bool) :=
if Zo 6 (s.logs_.length : Int) = true then
some false
else
(loopO (g35_L1 s) 0).bind fun w => match w with
| .inl y => g35_j1 s
| .inr r => some r
@[simp] def eA35 (a : T85) : List V:=[.agg (Xx a)]
def eB35 (r : Bool) : V:=.b r
theorem inj35 (a a' : T85) (h : eA35 a = eA35 a') : a = a':=by simpa [eA35,Prod.ext_iff] using h
def F35 : List V→Option V:=tells (fun a => g35 a) eA35 eB35
theorem ok35 : Zz Tryz.prog 35 F35:=by
 refine Zg 58 Tryz.func35 ?_
 rintro s r h
 rw [g35] at h
 have hC : Qc.Ok Tryz.prog [(33,F33),(70,F70),(81,F81),(82,F82)]:=⟨.inl ok33,.inl ok70,.inl ok81,.inl ok82,trivial⟩
 refine VW.seq (Za [1] hC (q:=(VW.seq (VW.seq (Za [1,8] hC (q:=(Zd h (fun h => ?_) (fun h => ?_))))))))
 ·refine VW.seq (Za [2] hC (q:=?_))
  exact VW.ret (Zb h (by simp [eB35]))
 refine VW.skip (VW.join (fun (v : Unit) => (⟨(tm 58 [(1,.ptr 0 0 0)]),[some (6,[(Xx s)])],[]⟩ : VS)) (fun v => (g35_j1 s).bind some = some r) ?_ ?_)
 ·refine VW.seq (Za [1,10,11,12] hC (q:=VW.block ?_))
  obtain ⟨w_1,hw_1,h⟩:=Zc h
  refine VW.loopO (fun (x : Int) => (⟨(tm 58 [(1,.ptr 0 0 0),(10,.sl 18 (rows Yk s.logs_)),(11,.i .i64 (s.logs_.length : Int)),(12,.i .i64 x)]),[some (6,[(Xx s)])],[]⟩ : VS)) hw_1 (Ze 1) ?_
  rintro n_1 x_48 h1
  rw [g35_L1] at h1
  refine VW.seq (Za [1,10,11,12,13] hC (q:=(VW.seq (Zk h1 (fun h1 => ?_) (fun h1 => ?_)))))
  ·refine VW.exit ?_
   have e_:=Yd h1
   subst w_1
   exact Zn () h (Ze 1)
  refine VW.skip (VW.seq (VW.block (VW.seq ?_)))
  obtain ⟨e50,⟨f51a,f51b,f51c,f51d⟩,h1⟩:=Ys h1
  refine Zj [1,4,10,11,12] hC (q:=VW.seq ?_)
  obtain ⟨r52,q53,h1⟩:=Zc h1
  have c53:=tl81 q53
  refine Zj [1,10,11,12,18] hC (q:=(Zd h1 (fun h1 => ?_) (fun h1 => ?_)))
  ·refine VW.seq (Za [2] hC (q:=?_))
   have e_:=Yd h1
   subst w_1
   exact VW.ret (Zb h (by simp [eB35]))
  exact VW.skip (Za [1,10,11,12] hC (q:=(Zn (aI .i64 x_48 1) (Yr h1) (Ze 1))))
 rintro _ h
 replace h : (g35_j1 s).bind _ = _:=h
 rw [g35_j1] at h
 refine VW.seq ?_
 obtain ⟨r22,q23,h⟩:=Zc h
 have c23:=tl33 q23
 obtain ⟨w26,q30,h⟩:=Zc h
 obtain ⟨w29,q31,h⟩:=Zc h
 refine Yg (tm 58 [(2,.b (w29 && ltF .f32 s.dust_ (some 1065353216)))]) [some (6,[(Xx s)])] [] hC (by kernel_rfl) (by
   obtain ⟨q32,q30⟩ | ⟨q32,rfl⟩:=Ux q30
   ·obtain ⟨r24,q25,q30⟩:=Yb q30
    have c25:=tl82 q25
    obtain rfl:=Option.some.inj q30
    obtain ⟨q33,q31⟩ | ⟨q33,rfl⟩:=Ux q31
    ·obtain ⟨r27,q28,q31⟩:=Yb q31
     have c28:=tl70 q28
     obtain rfl:=Option.some.inj q31
     simp -implicitDefEqProofs [c23,q32,c25,q33,c28,Xx]
    simp -implicitDefEqProofs [c23,q32,c25,q33,Xx]
   obtain ⟨q34,q31⟩ | ⟨q34,rfl⟩:=Ux q31
   ·first
     | (simp at q34; done)
     | (obtain ⟨r27,q28,q31⟩:=Yb q31
        have c28:=tl70 q28
        obtain rfl:=Option.some.inj q31
        simp -implicitDefEqProofs [c23,q32,q34,c28,Xx])
   first
    | (simp at q34; done)
    | (simp -implicitDefEqProofs [c23,q32,q34,Xx])) ?_
 exact VW.ret (Zb h (by simp [eB35]))
theorem tl35 {s : T85} {r : Bool} (h : g35 s = some r) : F35 [.agg [.sl 18 (rows Yk s.logs_),.f .f32 s.box_,.f .f32 s.damper_,.i .i8 s.state_,.i .i64 s.ash_,.f .f32 s.dust_]] = some (.b r):=Zf inj35 (a:=s) h
def g83_j1 (l23 : List Int) : Option (List Int) :=
some l23
def g83_L1 (c : List T32) (trunk : Int) : (Int × (List Int))→Option ((Int × (List Int)) ⊕ (List Int))
| (x_38,l39) =>
if Zo x_38 (c.length : Int) = true then
(Wp c x_38).bind fun e41 =>
if Yx e41.smoky_ trunk = true then
(Jm 8 l39 [x_38]).bind fun u44 =>
some (.inl (aI .i64 x_38 1,(l39 ++ [x_38])))
else
some (.inl (aI .i64 x_38 1,l39))
else
some (.inr l39)
def g83 (c : List T32) (trunk : Int) : Option (List Int) :=
(loopO (g83_L1 c trunk) (0,[])).bind fun w => g83_j1 w
@[simp] def eA83 (a : (List T32) × Int) : List V:=[.sl 5 (rows Xw a.1),.i .i64 a.2]
def eB83 (r : List Int) : V:=.own 1 (rows Ww r)
theorem inj83 (a a' : (List T32) × Int) (h : eA83 a = eA83 a') : a = a':=by simpa [eA83,Prod.ext_iff] using h
def F83 : List V→Option V:=tells (fun a => g83 a.1 a.2) eA83 eB83
theorem ok83 : Zz Tryz.prog 83 F83:=by
 refine Zg 26 Tryz.func83 ?_
 rintro ⟨c,trunk⟩ r h
 replace h : (g83 c trunk).bind some = some r:=h
 rw [g83] at h
 have hC : Qc.Ok Tryz.prog []:=trivial
 refine VW.seq (Za [0,1] hC (q:=(VW.seq (Za [0,1,5] hC (q:=(VW.join (fun (v : List Int) => (⟨(tm 26 [(5,.ref 0 0 v.length)]),[some (1,rows Ww v)],[]⟩ : VS)) (fun v => (g83_j1 (v)).bind some = some r) ?_ ?_))))))
 ·refine VW.seq (Za [1,5,9,10,11] hC (q:=VW.block ?_))
  obtain ⟨w_1,hw_1,h⟩:=Zc h
  refine VW.loopO (fun (x : Int × (List Int)) => (⟨(tm 26 [(1,.i .i64 trunk),(5,.ref 0 0 x.2.length),(9,.sl 5 (rows Xw c)),(10,.i .i64 (c.length : Int)),(11,.i .i64 x.1)]),[some (1,rows Ww x.2)],[]⟩ : VS)) hw_1 (Ze 1) ?_
  rintro n_1 ⟨x_38,l39⟩ h1
  rw [g83_L1] at h1
  refine VW.seq (Za [1,5,9,10,11,12] hC (q:=(VW.seq (Zk h1 (fun h1 => ?_) (fun h1 => ?_)))))
  ·refine VW.exit ?_
   have e_:=Yd h1
   subst w_1
   exact Zn l39 h (Ze 1)
  refine VW.skip (VW.seq (VW.block (VW.seq ?_)))
  obtain ⟨e41,⟨f42a,f42b,f42c,f42d⟩,h1⟩:=Ys h1
  refine Zj [1,5,6,7,9,10,11] hC (q:=(VW.seq (Za [1,5,6,9,10,11,19] hC (q:=(Zk h1 (fun h1 => ?_) (fun h1 => ?_))))))
  ·exact VW.skip (Za [1,5,9,10,11] hC (q:=(Zn (aI .i64 x_38 1,l39) (Yr h1) (Ze 1))))
  obtain ⟨u44,⟨f45a,f45b⟩,h1⟩:=Jp h1
  try simp only [Int.toNat_natCast,Int.reduceToNat,List.length_cons,List.length_nil,Nat.reduceAdd,Nat.zero_add] at f45a f45b
  exact Zj [1,5,9,10,11] hC (q:=(Za [1,5,9,10,11] hC (q:=(Zn (aI .i64 x_38 1,(l39 ++ [x_38])) (Yr h1) (Ze 1)))))
 rintro l23 h
 replace h : (g83_j1 l23).bind _ = _:=h
 rw [g83_j1] at h
 refine VW.seq (Za [4] hC (q:=?_))
 exact VW.ret (Zb h (by simp [eB83]))
theorem tl83 {c : List T32} {trunk : Int} {r : List Int} (h : g83 c trunk = some r) : F83 [.sl 5 (rows Xw c),.i .i64 trunk] = some (.own 1 (rows Ww r)):=Zf inj83 (a:=(c,trunk)) h
def g36 (c : List T32) (flue : Int) : Option (Bool) :=
(g83 c flue).bind fun r1 =>
some (Yx (r1.length : Int) 0)
@[simp] def eA36 (a : (List T32) × Int) : List V:=[.sl 5 (rows Xw a.1),.i .i64 a.2]
def eB36 (r : Bool) : V:=.b r
theorem inj36 (a a' : (List T32) × Int) (h : eA36 a = eA36 a') : a = a':=by simpa [eA36,Prod.ext_iff] using h
def F36 : List V→Option V:=tells (fun a => g36 a.1 a.2) eA36 eB36
theorem ok36 : Zz Tryz.prog 36 F36:=by
 refine Zg 10 Tryz.func36 ?_
 rintro ⟨c,flue⟩ r h
 replace h : (g36 c flue).bind some = some r:=h
 rw [g36] at h
 have hC : Qc.Ok Tryz.prog [(83,F83)]:=⟨.inl ok83,trivial⟩
 refine VW.seq (Za [0,1] hC (q:=VW.seq ?_))
 obtain ⟨r1,q2,h⟩:=Zc h
 have c2:=tl83 q2
 refine Zj [4] hC (q:=?_)
 exact VW.ret (Zb h (by simp [eB36]))
theorem tl36 {c : List T32} {flue : Int} {r : Bool} (h : g36 c flue = some r) : F36 [.sl 5 (rows Xw c),.i .i64 flue] = some (.b r):=Zf inj36 (a:=(c,flue)) h
def g37 (h_ : T34) : Option (Bool) :=
(if (Xa 0 h_.tick_ && Xa h_.tick_ 1000000000) = true then (g70 h_.sums_.burnt_).bind fun r1 => some r1 else some false).bind fun w3 =>
(if w3 = true then (g70 h_.sums_.steam_).bind fun r4 => some r4 else some false).bind fun w6 =>
(if w6 = true then (g84 [h_.sums_.up_,h_.sums_.lost_]).bind fun r7 => some r7 else some false).bind fun w9 =>
some ((w9 && Xa 0 h_.sums_.smoky_) && Xa h_.sums_.smoky_ 1000000000)
@[simp] def eA37 (a : T34) : List V:=[.agg (Yj a)]
def eB37 (r : Bool) : V:=.b r
theorem inj37 (a a' : T34) (h : eA37 a = eA37 a') : a = a':=by simpa [eA37,Prod.ext_iff] using h
def F37 : List V→Option V:=tells (fun a => g37 a) eA37 eB37
theorem ok37 : Zz Tryz.prog 37 F37:=by
 refine Zg 42 Tryz.func37 ?_
 rintro h_ r h
 rw [g37] at h
 have hC : Qc.Ok Tryz.prog [(70,F70),(84,F84)]:=⟨.inl ok70,.inl ok84,trivial⟩
 refine VW.seq (Za [1] hC (q:=(VW.seq (Za [1,3] hC (q:=VW.seq ?_)))))
 obtain ⟨w3,q10,h⟩:=Zc h
 obtain ⟨w6,q11,h⟩:=Zc h
 obtain ⟨w9,q12,h⟩:=Zc h
 refine VW.evalK1 (tm 42 [(2,.b ((w9 && Xa 0 h_.sums_.smoky_) && Xa h_.sums_.smoky_ 1000000000))]) [some (14,[(Yj h_)]),some (5,[[.f .f32 h_.sums_.burnt_,.f .f32 h_.sums_.steam_,.f .f32 h_.sums_.up_,.f .f32 h_.sums_.lost_,.i .i64 h_.sums_.smoky_]])] [] hC (by kernel_rfl) (by
   obtain ⟨q13,q10⟩ | ⟨q13,rfl⟩:=Ux q10
   ·obtain ⟨r1,q2,q10⟩:=Yb q10
    have c2:=tl70 q2
    obtain rfl:=Option.some.inj q10
    obtain ⟨q14,q11⟩ | ⟨q14,rfl⟩:=Ux q11
    ·obtain ⟨r4,q5,q11⟩:=Yb q11
     have c5:=tl70 q5
     obtain rfl:=Option.some.inj q11
     obtain ⟨q15,q12⟩ | ⟨q15,rfl⟩:=Ux q12
     ·obtain ⟨r7,q8,q12⟩:=Yb q12
      have c8 : F84 [.sl 1 [[.f .f32 h_.sums_.up_],[.f .f32 h_.sums_.lost_]]] = some (.b r7):=Zf inj84 (a:=[h_.sums_.up_,h_.sums_.lost_]) q8
      obtain rfl:=Option.some.inj q12
      simp -implicitDefEqProofs [q13,c2,q14,c5,q15,c8,Yj]
     simp -implicitDefEqProofs [q13,c2,q14,c5,q15,Yj]
    obtain ⟨q16,q12⟩ | ⟨q16,rfl⟩:=Ux q12
    ·exact absurd q16 (by simp)
    simp -implicitDefEqProofs [q13,c2,q14,q16,Yj]
   obtain ⟨q17,q11⟩ | ⟨q17,rfl⟩:=Ux q11
   ·exact absurd q17 (by simp)
   obtain ⟨q18,q12⟩ | ⟨q18,rfl⟩:=Ux q12
   ·exact absurd q18 (by simp)
   simp -implicitDefEqProofs [q13,q17,q18,Yj]) (by simp [Zx,Zs]) (by simp [bndM,Zs]) (by simp [Zx,Zs]) ?_
 exact VW.ret (Zb h (by simp [eB37]))
def g9_j3 (h_ : T34) : Option (Bool) :=
(g37 h_).bind fun r241 =>
some r241
def g9_j4 (x_350 : Int) : Option ((Int) ⊕ ((Unit) ⊕ (Bool))) :=
some (.inl (aI .i64 x_350 1))
def g9_L2 (h_ : T34) (x_350 : Int) (e378 : T87) : (Int)→Option ((Int) ⊕ ((Unit) ⊕ ((Int) ⊕ ((Unit) ⊕ (Bool)))))
| x_397 =>
if Zo x_397 ((h_.hearths_.take x_350.toNat).length : Int) = true then
(Wp (h_.hearths_.take x_350.toNat) x_397).bind fun e399 =>
if Yx e399.flue_ e378.flue_ = true then
some (.inr (.inr (.inr (.inr false))))
else
some (.inl (aI .i64 x_397 1))
else
some (.inr (.inl ()))
def g9_L1 (h_ : T34) : (Int)→Option ((Int) ⊕ ((Unit) ⊕ (Bool)))
| x_350 =>
if Zo x_350 (h_.hearths_.length : Int) = true then
(Wp h_.hearths_ x_350).bind fun e378 =>
(g35 e378.stove_).bind fun r380 =>
(if (((((!r380) || Zo e378.room_ 0) || Xa (h_.flat_.heat_.length : Int) e378.room_) || Zo e378.flue_ 0) || Xa (h_.chimney_.length : Int) e378.flue_) = true then some true else (g36 h_.chimney_ e378.flue_).bind fun r382 => some (!r382)).bind fun w384 =>
if ((w384 || Zo e378.brain_ (-1)) || Xa (h_.sources_.length : Int) e378.brain_) = true then
some (.inr (.inr false))
else
(Jw 0 x_350 h_.hearths_.length).bind fun u386 =>
(loopO (g9_L2 h_ x_350 e378) 0).bind fun w => match w with
| .inl y => g9_j4 x_350
| .inr r => some r
else
some (.inr (.inl ()))
def g9_j2 (h_ : T34) : Option (Bool) :=
(loopO (g9_L1 h_) 0).bind fun w => match w with
| .inl y => g9_j3 h_
| .inr r => some r
def g9_L3 (h_ : T34) : (Int)→Option ((Int) ⊕ ((Unit) ⊕ (Bool)))
| x_417 =>
if Zo x_417 (h_.sources_.length : Int) = true then
(Wp h_.sources_ x_417).bind fun e419 =>
(g34 e419).bind fun r421 =>
if (!Yx r421.2.2 0) = true then
some (.inr (.inr false))
else
some (.inl (aI .i64 x_417 1))
else
some (.inr (.inl ()))
def g9_j1 (h_ : T34) : Option (Bool) :=
(loopO (g9_L3 h_) 0).bind fun w => match w with
| .inl y => g9_j2 h_
| .inr r => some r
def g9_L4 (h_ : T34) : (Int)→Option ((Int) ⊕ ((Unit) ⊕ (Bool)))
| x_459 =>
if Zo x_459 (h_.hours_.length : Int) = true then
(Wp h_.hours_ x_459).bind fun e461 =>
(g31 e461.outside_).bind fun r463 =>
(if (!r463) = true then some true else (g32 e461.sun_ (some 1092616192)).bind fun r465 => some (!r465)).bind fun w467 =>
(if w467 = true then some true else (g33 e461.wind_ (some 3267887104) (some 1120403456)).bind fun r468 => some (!r468)).bind fun w470 =>
if w470 = true then
some (.inr (.inr false))
else
some (.inl (aI .i64 x_459 1))
else
some (.inr (.inl ()))
def g9 (h_ : T34) : Option (Bool) :=
(g29 h_.flat_).bind fun r1 =>
(if (!r1) = true then some true else (g30 h_.chimney_).bind fun r3 => some (!r3)).bind fun w5 =>
if ((((w5 || Zo (h_.hours_.length : Int) 1) || Zo 24 (h_.hours_.length : Int)) || Zo 3 (h_.sources_.length : Int)) || Zo 3 (h_.hearths_.length : Int)) = true then
some false
else
(loopO (g9_L4 h_) 0).bind fun w => match w with
| .inl y => g9_j1 h_
| .inr r => some r
@[simp] def eA9 (a : T34) : List V:=[.agg (Yj a)]
def eB9 (r : Bool) : V:=.b r
theorem inj9 (a a' : T34) (h : eA9 a = eA9 a') : a = a':=by simpa [eA9,Prod.ext_iff] using h
def F9 : List V→Option V:=tells (fun a => g9 a) eA9 eB9
theorem ok9 : Zz Tryz.prog 9 F9:=by
 refine Zg 166 Tryz.func9 ?_
 rintro h_ r h
 rw [g9] at h
 have hC : Qc.Ok Tryz.prog [(29,F29),(30,F30),(31,F31),(32,F32c),(33,F33),(34,F34),(35,F35),(36,F36),(37,F37)]:=⟨.inl ok29,.inl ok30,.inl ok31,.inl ok32,.inl ok33,.inl ok34,.inl ok35,.inl ok36,.inl ok37,trivial⟩
 refine VW.seq (Za [1] hC (q:=(VW.seq (VW.seq ?_))))
 obtain ⟨r1,q2,h⟩:=Zc h
 have c2:=tl29 q2
 obtain ⟨w5,q477,h⟩:=Zc h
 refine Yg (tm 166 [(1,.ptr 0 0 0),(47,.b ((((w5 || Zo (h_.hours_.length : Int) 1) || Zo 24 (h_.hours_.length : Int)) || Zo 3 (h_.sources_.length : Int)) || Zo 3 (h_.hearths_.length : Int)))]) [some (14,[(Yj h_)])] [] hC (by kernel_rfl) (by
   obtain ⟨q478,q477⟩ | ⟨q478,rfl⟩:=Uh q477
   ·obtain ⟨r3,q4,q477⟩:=Yb q477
    have c4:=tl30 q4
    obtain rfl:=Option.some.inj q477
    simp -implicitDefEqProofs [c2,q478,c4,Yj]
   simp -implicitDefEqProofs [c2,q478,Yj]) ?_
 refine Zd h (fun h => ?_) (fun h => ?_)
 ·refine VW.seq (Za [2] hC (q:=?_))
  exact VW.ret (Zb h (by simp [eB9]))
 refine VW.skip (VW.join (fun (v : Unit) => (⟨(tm 166 [(1,.ptr 0 0 0)]),[some (14,[(Yj h_)])],[]⟩ : VS)) (fun v => (g9_j1 h_).bind some = some r) ?_ ?_)
 ·refine VW.seq (Za [1,49,50,51] hC (q:=VW.block ?_))
  obtain ⟨w_4,hw_4,h⟩:=Zc h
  refine VW.loopO (fun (x : Int) => (⟨(tm 166 [(1,.ptr 0 0 0),(49,.sl 3 (rows Wq h_.hours_)),(50,.i .i64 (h_.hours_.length : Int)),(51,.i .i64 x)]),[some (14,[(Yj h_)])],[]⟩ : VS)) hw_4 (Ze 1) ?_
  rintro n_4 x_459 h1
  rw [g9_L4] at h1
  refine VW.seq (Za [1,49,50,51,52] hC (q:=(VW.seq (Zk h1 (fun h1 => ?_) (fun h1 => ?_)))))
  ·refine VW.exit ?_
   have e_:=Yd h1
   subst w_4
   exact Zn () h (Ze 1)
  refine VW.skip (VW.seq (VW.block (VW.seq ?_)))
  obtain ⟨e461,⟨f462a,f462b,f462c,f462d⟩,h1⟩:=Ys h1
  refine Zj [1,4,49,50,51] hC (q:=VW.seq ?_)
  obtain ⟨r463,q464,h1⟩:=Zc h1
  have c464:=tl31 q464
  obtain ⟨w467,q472,h1⟩:=Zc h1
  obtain ⟨w470,q473,h1⟩:=Zc h1
  refine Yg (tm 166 [(1,.ptr 0 0 0),(49,.sl 3 (rows Wq h_.hours_)),(50,.i .i64 (h_.hours_.length : Int)),(51,.i .i64 x_459),(70,.b w470)]) [some (14,[(Yj h_)]),some (3,[[.f .f32 e461.outside_,.f .f32 e461.sun_,.f .f32 e461.wind_]])] [] hC (by kernel_rfl) (by
    obtain ⟨q474,q472⟩ | ⟨q474,rfl⟩:=Uh q472
    ·obtain ⟨r465,q466,q472⟩:=Yb q472
     have c466:=tl32 q466
     obtain rfl:=Option.some.inj q472
     obtain ⟨q475,q473⟩ | ⟨q475,rfl⟩:=Uh q473
     ·obtain ⟨r468,q469,q473⟩:=Yb q473
      have c469:=tl33 q469
      obtain rfl:=Option.some.inj q473
      simp -implicitDefEqProofs [c464,q474,c466,q475,c469]
     simp -implicitDefEqProofs [c464,q474,c466,q475]
    obtain ⟨q476,q473⟩ | ⟨q476,rfl⟩:=Uh q473
    ·exact absurd q476 (by simp)
    simp -implicitDefEqProofs [c464,q474,q476]) ?_
  refine Zd h1 (fun h1 => ?_) (fun h1 => ?_)
  ·refine VW.seq (Za [2] hC (q:=?_))
   have e_:=Yd h1
   subst w_4
   exact VW.ret (Zb h (by simp [eB9]))
  exact VW.skip (Za [1,49,50,51] hC (q:=(Zn (aI .i64 x_459 1) (Yr h1) (Ze 1))))
 rintro _ h
 replace h : (g9_j1 h_).bind _ = _:=h
 rw [g9_j1] at h
 refine VW.join (fun (v : Unit) => (⟨(tm 166 [(1,.ptr 0 0 0)]),[some (14,[(Yj h_)])],[]⟩ : VS)) (fun v => (g9_j2 h_).bind some = some r) ?_ ?_
 ·refine VW.seq (Za [1,73,74,75] hC (q:=VW.block ?_))
  obtain ⟨w_3,hw_3,h⟩:=Zc h
  refine VW.loopO (fun (x : Int) => (⟨(tm 166 [(1,.ptr 0 0 0),(73,.sl 1 (rows Yu h_.sources_)),(74,.i .i64 (h_.sources_.length : Int)),(75,.i .i64 x)]),[some (14,[(Yj h_)])],[]⟩ : VS)) hw_3 (Ze 1) ?_
  rintro n_3 x_417 h1
  rw [g9_L3] at h1
  refine VW.seq (Za [1,73,74,75,76] hC (q:=(VW.seq (Zk h1 (fun h1 => ?_) (fun h1 => ?_)))))
  ·refine VW.exit ?_
   have e_:=Yd h1
   subst w_3
   exact Zn () h (Ze 1)
  refine VW.skip (VW.seq (VW.block (VW.seq ?_)))
  obtain ⟨e419,⟨f420a,f420b,f420c,f420d⟩,h1⟩:=Ys h1
  refine Zj [1,6,73,74,75] hC (q:=VW.seq ?_)
  obtain ⟨r421,q422,h1⟩:=Zc h1
  have c422:=tl34 q422
  refine Zj [1,9,73,74,75] hC (q:=(VW.seq (Za [1,73,74,75,86] hC (q:=(Zd h1 (fun h1 => ?_) (fun h1 => ?_))))))
  ·refine VW.seq (Za [2] hC (q:=?_))
   have e_:=Yd h1
   subst w_3
   exact VW.ret (Zb h (by simp [eB9]))
  exact VW.skip (Za [1,73,74,75] hC (q:=(Zn (aI .i64 x_417 1) (Yr h1) (Ze 1))))
 rintro _ h
 replace h : (g9_j2 h_).bind _ = _:=h
 rw [g9_j2] at h
 refine VW.join (fun (v : Unit) => (⟨(tm 166 [(1,.ptr 0 0 0)]),[some (14,[(Yj h_)])],[]⟩ : VS)) (fun v => (g9_j3 h_).bind some = some r) ?_ ?_
 ·refine VW.seq (Za [1,89,90,91] hC (q:=VW.block ?_))
  obtain ⟨w_1,hw_1,h⟩:=Zc h
  refine VW.loopO (fun (x : Int) => (⟨(tm 166 [(1,.ptr 0 0 0),(89,.sl 9 (rows Wa h_.hearths_)),(90,.i .i64 (h_.hearths_.length : Int)),(91,.i .i64 x)]),[some (14,[(Yj h_)])],[]⟩ : VS)) hw_1 (Ze 1) ?_
  rintro n_1 x_350 h1
  rw [g9_L1] at h1
  refine VW.seq (Za [1,89,90,91,92] hC (q:=(VW.seq (Zk h1 (fun h1 => ?_) (fun h1 => ?_)))))
  ·refine VW.exit ?_
   have e_:=Yd h1
   subst w_1
   exact Zn () h (Ze 1)
  refine VW.skip (VW.join (fun (v : Unit) => (⟨(tm 166 [(1,.ptr 0 0 0),(89,.sl 9 (rows Wa h_.hearths_)),(90,.i .i64 (h_.hearths_.length : Int)),(91,.i .i64 x_350)]),[some (14,[(Yj h_)])],[]⟩ : VS)) (fun v => (g9_j4 x_350).bind (kN (g9_L1 h_) n_1) = some w_1) ?_ ?_)
  ·refine VW.block (VW.seq ?_)
   obtain ⟨e378,⟨f379a,f379b,f379c,f379d⟩,h1⟩:=Ys h1
   refine Zj [1,10,11,89,90,91] hC (q:=(VW.seq (VW.seq ?_)))
   obtain ⟨r380,q381,h1⟩:=Zc h1
   have c381:=tl35 q381
   obtain ⟨w384,q402,h1⟩:=Zc h1
   refine Yg (tm 166 [(1,.ptr 0 0 0),(10,.i .i64 x_350),(11,.ptr 1 0 0),(89,.sl 9 (rows Wa h_.hearths_)),(90,.i .i64 (h_.hearths_.length : Int)),(91,.i .i64 x_350),(147,.b ((w384 || Zo e378.brain_ (-1)) || Xa (h_.sources_.length : Int) e378.brain_))]) [some (14,[(Yj h_)]),some (9,[[.i .i64 e378.room_,.i .i64 e378.flue_,.i .i64 e378.brain_,.sl 18 (rows Yk e378.stove_.logs_),.f .f32 e378.stove_.box_,.f .f32 e378.stove_.damper_,.i .i8 e378.stove_.state_,.i .i64 e378.stove_.ash_,.f .f32 e378.stove_.dust_]])] [] hC (by kernel_rfl) (by
     obtain ⟨q403,q402⟩ | ⟨q403,rfl⟩:=Uh q402
     ·obtain ⟨r382,q383,q402⟩:=Yb q402
      have c383:=tl36 q383
      obtain rfl:=Option.some.inj q402
      simp (maxSteps:=4000000) -implicitDefEqProofs [c381,q403,c383,Yj]
     simp (maxSteps:=4000000) -implicitDefEqProofs [c381,q403,Yj]) ?_
   refine Zd h1 (fun h1 => ?_) (fun h1 => ?_)
   ·refine VW.seq (Za [2] hC (q:=?_))
    have e_:=Yd h1
    subst w_1
    exact VW.ret (Zb h (by simp [eB9]))
   refine VW.skip (VW.seq ?_)
   obtain ⟨u386,⟨f387a,f387b,f387c,f387d,f387e⟩,h1⟩:=Gj h1
   try simp only [Int.toNat_natCast,Int.reduceToNat,List.length_cons,List.length_nil,Nat.reduceAdd,Nat.zero_add] at f387a f387b f387c f387d f387e
   refine VW.rA (tm 166 [(1,.ptr 0 0 0),(11,.ptr 1 0 0),(89,.sl 9 (rows Wa h_.hearths_)),(90,.i .i64 (h_.hearths_.length : Int)),(91,.i .i64 x_350),(151,.sl 9 (rows Wa (h_.hearths_.take x_350.toNat))),(152,.i .i64 ((h_.hearths_.take x_350.toNat).length : Int)),(153,.i .i64 0)]) [some (14,[(Yj h_)]),some (9,[[.i .i64 e378.room_,.i .i64 e378.flue_,.i .i64 e378.brain_,.sl 18 (rows Yk e378.stove_.logs_),.f .f32 e378.stove_.box_,.f .f32 e378.stove_.damper_,.i .i8 e378.stove_.state_,.i .i64 e378.stove_.ash_,.f .f32 e378.stove_.dust_]])] [] hC (VW.block ?_) (h:=by simp -implicitDefEqProofs [f387a,f387b,f387c,f387d,f387e])
   obtain ⟨w_2,hw_2,h1⟩:=Zc h1
   refine VW.loopO (fun (x : Int) => (⟨(tm 166 [(1,.ptr 0 0 0),(11,.ptr 1 0 0),(89,.sl 9 (rows Wa h_.hearths_)),(90,.i .i64 (h_.hearths_.length : Int)),(91,.i .i64 x_350),(151,.sl 9 (rows Wa (h_.hearths_.take x_350.toNat))),(152,.i .i64 ((h_.hearths_.take x_350.toNat).length : Int)),(153,.i .i64 x)]),[some (14,[(Yj h_)]),some (9,[[.i .i64 e378.room_,.i .i64 e378.flue_,.i .i64 e378.brain_,.sl 18 (rows Yk e378.stove_.logs_),.f .f32 e378.stove_.box_,.f .f32 e378.stove_.damper_,.i .i8 e378.stove_.state_,.i .i64 e378.stove_.ash_,.f .f32 e378.stove_.dust_]])],[]⟩ : VS)) hw_2 (Ze 2) ?_
   rintro n_2 x_397 h2
   rw [g9_L2] at h2
   refine VW.seq (VW.rA (tm 166 [(1,.ptr 0 0 0),(11,.ptr 1 0 0),(89,.sl 9 (rows Wa h_.hearths_)),(90,.i .i64 (h_.hearths_.length : Int)),(91,.i .i64 x_350),(151,.sl 9 (rows Wa (h_.hearths_.take x_350.toNat))),(152,.i .i64 ((h_.hearths_.take x_350.toNat).length : Int)),(153,.i .i64 x_397),(154,.b (Zo x_397 ((h_.hearths_.take x_350.toNat).length : Int)))]) [some (14,[(Yj h_)]),some (9,[[.i .i64 e378.room_,.i .i64 e378.flue_,.i .i64 e378.brain_,.sl 18 (rows Yk e378.stove_.logs_),.f .f32 e378.stove_.box_,.f .f32 e378.stove_.damper_,.i .i8 e378.stove_.state_,.i .i64 e378.stove_.ash_,.f .f32 e378.stove_.dust_]])] [] hC (VW.seq (Zk h2 (fun h2 => ?_) (fun h2 => ?_))))
   ·refine VW.exit ?_
    have e_:=Yd h2
    subst w_2
    exact Zn () h1 (Ze 1)
   refine VW.skip (VW.seq (VW.block (VW.seq ?_)))
   obtain ⟨e399,⟨f400a,f400b,f400c,f400d⟩,h2⟩:=Ys h2
   have f400s:=f400c
   try simp [f400a] at f400s
   have f400t:=f400b
   try simp [f400a] at f400t
   refine VW.rA (tm 166 [(1,.ptr 0 0 0),(11,.ptr 1 0 0),(13,.ptr 2 0 0),(89,.sl 9 (rows Wa h_.hearths_)),(90,.i .i64 (h_.hearths_.length : Int)),(91,.i .i64 x_350),(151,.sl 9 (rows Wa (h_.hearths_.take x_350.toNat))),(152,.i .i64 ((h_.hearths_.take x_350.toNat).length : Int)),(153,.i .i64 x_397)]) [some (14,[(Yj h_)]),some (9,[[.i .i64 e378.room_,.i .i64 e378.flue_,.i .i64 e378.brain_,.sl 18 (rows Yk e378.stove_.logs_),.f .f32 e378.stove_.box_,.f .f32 e378.stove_.damper_,.i .i8 e378.stove_.state_,.i .i64 e378.stove_.ash_,.f .f32 e378.stove_.dust_]]),some (9,[[.i .i64 e399.room_,.i .i64 e399.flue_,.i .i64 e399.brain_,.sl 18 (rows Yk e399.stove_.logs_),.f .f32 e399.stove_.box_,.f .f32 e399.stove_.damper_,.i .i8 e399.stove_.state_,.i .i64 e399.stove_.ash_,.f .f32 e399.stove_.dust_]])] [] hC (VW.seq (VW.rA (tm 166 [(1,.ptr 0 0 0),(11,.ptr 1 0 0),(89,.sl 9 (rows Wa h_.hearths_)),(90,.i .i64 (h_.hearths_.length : Int)),(91,.i .i64 x_350),(151,.sl 9 (rows Wa (h_.hearths_.take x_350.toNat))),(152,.i .i64 ((h_.hearths_.take x_350.toNat).length : Int)),(153,.i .i64 x_397),(161,.b (Yx e399.flue_ e378.flue_))]) [some (14,[(Yj h_)]),some (9,[[.i .i64 e378.room_,.i .i64 e378.flue_,.i .i64 e378.brain_,.sl 18 (rows Yk e378.stove_.logs_),.f .f32 e378.stove_.box_,.f .f32 e378.stove_.damper_,.i .i8 e378.stove_.state_,.i .i64 e378.stove_.ash_,.f .f32 e378.stove_.dust_]]),some (9,[[.i .i64 e399.room_,.i .i64 e399.flue_,.i .i64 e399.brain_,.sl 18 (rows Yk e399.stove_.logs_),.f .f32 e399.stove_.box_,.f .f32 e399.stove_.damper_,.i .i8 e399.stove_.state_,.i .i64 e399.stove_.ash_,.f .f32 e399.stove_.dust_]])] [] hC (Zd h2 (fun h2 => ?_) (fun h2 => ?_)))) (h:=by simp -implicitDefEqProofs [f400a,f400b,f400c,f400d,f400s,f400t])
   ·refine VW.seq (Za [2] hC (q:=?_))
    have e_:=Yd h2
    subst w_2
    have e_:=Yd h1
    subst w_1
    exact VW.ret (Zb h (by simp [eB9]))
   exact VW.skip (VW.rA (tm 166 [(1,.ptr 0 0 0),(11,.ptr 1 0 0),(89,.sl 9 (rows Wa h_.hearths_)),(90,.i .i64 (h_.hearths_.length : Int)),(91,.i .i64 x_350),(151,.sl 9 (rows Wa (h_.hearths_.take x_350.toNat))),(152,.i .i64 ((h_.hearths_.take x_350.toNat).length : Int)),(153,.i .i64 (aI .i64 x_397 1))]) [some (14,[(Yj h_)]),some (9,[[.i .i64 e378.room_,.i .i64 e378.flue_,.i .i64 e378.brain_,.sl 18 (rows Yk e378.stove_.logs_),.f .f32 e378.stove_.box_,.f .f32 e378.stove_.damper_,.i .i8 e378.stove_.state_,.i .i64 e378.stove_.ash_,.f .f32 e378.stove_.dust_]]),some (9,[[.i .i64 e399.room_,.i .i64 e399.flue_,.i .i64 e399.brain_,.sl 18 (rows Yk e399.stove_.logs_),.f .f32 e399.stove_.box_,.f .f32 e399.stove_.damper_,.i .i8 e399.stove_.state_,.i .i64 e399.stove_.ash_,.f .f32 e399.stove_.dust_]])] [] hC (Zn (aI .i64 x_397 1) (Yr h2) (Ze 2)))
  rintro _ h1
  replace h1 : (g9_j4 x_350).bind _ = _:=h1
  rw [g9_j4] at h1
  exact Za [1,89,90,91] hC (q:=(Zn (aI .i64 x_350 1) (Yr h1) (Ze 1)))
 rintro _ h
 replace h : (g9_j3 h_).bind _ = _:=h
 rw [g9_j3] at h
 refine VW.seq ?_
 obtain ⟨r241,q242,h⟩:=Zc h
 have c242 : F37 [.agg (Yj h_)] = some (.b r241):=Zf inj37 (a:=h_) q242
 refine Zj [2] hC (q:=?_)
 exact VW.ret (Zb h (by simp [eB9]))
def g16 (a : F32) (b : F32) : Option (Bool) :=
if (neF .f64 a a || neF .f64 b b) = true then
some (neF .f64 a a && neF .f64 b b)
else
if (eqF .f64 a (some 0) && eqF .f64 b (some 0)) = true then
some ((gtF .f64 (quoF .f64 (some 4607182418800017408) a) (some 0)) == (gtF .f64 (quoF .f64 (some 4607182418800017408) b) (some 0)))
else
some (eqF .f64 a b)
@[simp] def eA16 (a : F32 × F32) : List V:=[.f .f64 a.1,.f .f64 a.2]
def eB16 (r : Bool) : V:=.b r
theorem inj16 (a a' : F32 × F32) (h : eA16 a = eA16 a') : a = a':=by simpa [eA16,Prod.ext_iff] using h
def F16 : List V→Option V:=tells (fun a => g16 a.1 a.2) eA16 eB16
theorem ok16 : Zz Tryz.prog 16 F16:=by
 refine Zg 37 Tryz.func16 ?_
 rintro ⟨a,b⟩ r h
 replace h : (g16 a b).bind some = some r:=h
 rw [g16] at h
 have hC : Qc.Ok Tryz.prog []:=trivial
 refine VW.seq (Za [0,1] hC (q:=(VW.seq (VW.seq (Za [0,1,12] hC (q:=(Zd h (fun h => ?_) (fun h => ?_))))))))
 ·refine VW.seq (Za [4] hC (q:=?_))
  exact VW.ret (Zb h (by simp [eB16]))
 refine VW.skip (VW.seq (VW.seq (Za [0,1,26] hC (q:=(Zk h (fun h => ?_) (fun h => ?_))))))
 ·refine VW.skip (VW.seq (Za [4] hC (q:=?_)))
  exact VW.ret (Zb h (by simp [eB16]))
 refine VW.seq (Za [4] hC (q:=?_))
 exact VW.ret (Zb h (by simp [eB16]))
theorem tl16 {a : F32} {b : F32} {r : Bool} (h : g16 a b = some r) : F16 [.f .f64 a,.f .f64 b] = some (.b r):=Zf inj16 (a:=(a,b)) h
def g85_j1 : Option (Bool) :=
some true
def g85_L1 (a : List F32) (b : List F32) : (Int)→Option ((Int) ⊕ ((Unit) ⊕ (Bool)))
| i_45 =>
if Zo i_45 (a.length : Int) = true then
(Wp a i_45).bind fun e47 =>
(Wp b i_45).bind fun e49 =>
(g16 (Xm e47) (Xm e49)).bind fun r51 =>
if (!r51) = true then
some (.inr (.inr false))
else
some (.inl (aI .i64 i_45 1))
else
some (.inr (.inl ()))
def g85 (a : List F32) (b : List F32) : Option (Bool) :=
if (!Yx (a.length : Int) (b.length : Int)) = true then
some false
else
(loopO (g85_L1 a b) 0).bind fun w => match w with
| .inl y => g85_j1
| .inr r => some r
@[simp] def eA85 (a : (List F32) × (List F32)) : List V:=[.sl 1 (rows Zt a.1),.sl 1 (rows Zt a.2)]
def eB85 (r : Bool) : V:=.b r
theorem inj85 (a a' : (List F32) × (List F32)) (h : eA85 a = eA85 a') : a = a':=by simpa [eA85,Prod.ext_iff] using h
def F85 : List V→Option V:=tells (fun a => g85 a.1 a.2) eA85 eB85
theorem ok85 : Zz Tryz.prog 85 F85:=by
 refine Zg 29 Tryz.func85 ?_
 rintro ⟨a,b⟩ r h
 replace h : (g85 a b).bind some = some r:=h
 rw [g85] at h
 have hC : Qc.Ok Tryz.prog [(16,F16)]:=⟨.inl ok16,trivial⟩
 refine VW.seq (Za [0,1] hC (q:=(VW.seq (VW.seq (Za [0,1,10] hC (q:=(Zd h (fun h => ?_) (fun h => ?_))))))))
 ·refine VW.seq (Za [4] hC (q:=?_))
  exact VW.ret (Zb h (by simp [eB85]))
 refine VW.skip (VW.join (fun (v : Unit) => (⟨(tm 29 []),[],[]⟩ : VS)) (fun v => (g85_j1).bind some = some r) ?_ ?_)
 ·refine VW.seq (Za [0,1,5] hC (q:=VW.block ?_))
  obtain ⟨w_1,hw_1,h⟩:=Zc h
  refine VW.loopO (fun (x : Int) => (⟨(tm 29 [(0,.sl 1 (rows Zt a)),(1,.sl 1 (rows Zt b)),(5,.i .i64 x)]),[],[]⟩ : VS)) hw_1 (Ze 0) ?_
  rintro n_1 i_45 h1
  rw [g85_L1] at h1
  refine VW.seq (VW.seq (Za [0,1,5,14] hC (q:=(Zk h1 (fun h1 => ?_) (fun h1 => ?_)))))
  ·refine VW.exit ?_
   have e_:=Yd h1
   subst w_1
   exact Zn () h (Ze 0)
  refine VW.skip (VW.seq (VW.block (VW.seq ?_)))
  obtain ⟨e47,⟨f48a,f48b,f48c,f48d⟩,h1⟩:=Ys h1
  obtain ⟨e49,⟨f50a,f50b,f50c,f50d⟩,h1⟩:=Ys h1
  obtain ⟨r51,q52,h1⟩:=Zc h1
  have c52:=tl16 q52
  refine Wt [0,1,5,28] hC Wc (h:=by simp -implicitDefEqProofs [f48a,f48b,f48c,f48d,f50a,f50b,f50c,f50d,c52]; exact .rfl) (q:=(Zd h1 (fun h1 => ?_) (fun h1 => ?_)))
  ·refine VW.seq (Za [4] hC (q:=?_))
   have e_:=Yd h1
   subst w_1
   exact VW.ret (Zb h (by simp [eB85]))
  exact VW.skip (Za [0,1,5] hC (q:=(Zn (aI .i64 i_45 1) (Yr h1) (Ze 0))))
 rintro _ h
 replace h : (g85_j1).bind _ = _:=h
 rw [g85_j1] at h
 refine VW.seq (Za [4] hC (q:=?_))
 exact VW.ret (Zb h (by simp [eB85]))
theorem tl85 {a : List F32} {b : List F32} {r : Bool} (h : g85 a b = some r) : F85 [.sl 1 (rows Zt a),.sl 1 (rows Zt b)] = some (.b r):=Zf inj85 (a:=(a,b)) h
def g140_j1 : Option (Bool) :=
some true
def g140 (a : T130) (b : T130) : Option (Bool) :=
(g16 (Xm a.a0_) (Xm b.a0_)).bind fun r13 =>
if (!r13) = true then
some false
else
(g16 (Xm a.a1_) (Xm b.a1_)).bind fun r16 =>
if (!r16) = true then
some false
else
(g16 (Xm a.a2_) (Xm b.a2_)).bind fun r19 =>
if (!r19) = true then
some false
else
(g16 (Xm a.a3_) (Xm b.a3_)).bind fun r22 =>
if (!r22) = true then
some false
else
g140_j1
@[simp] def eA140 (a : T130 × T130) : List V:=[.agg (Xb a.1),.agg (Xb a.2)]
def eB140 (r : Bool) : V:=.b r
theorem inj140 (a a' : T130 × T130) (h : eA140 a = eA140 a') : a = a':=by simpa [eA140,Prod.ext_iff] using h
def F140 : List V→Option V:=tells (fun a => g140 a.1 a.2) eA140 eB140
theorem ok140 : Zz Tryz.prog 140 F140:=by
 refine Zg 20 Tryz.func140 ?_
 rintro ⟨a,b⟩ r h
 replace h : (g140 a b).bind some = some r:=h
 rw [g140] at h
 have hC : Qc.Ok Tryz.prog [(16,F16)]:=⟨.inl ok16,trivial⟩
 refine VW.seq (Za [2,3] hC (q:=(VW.join (fun (v : Unit) => (⟨(tm 20 []),[some (4,[(Xb a)]),some (4,[(Xb b)])],[]⟩ : VS)) (fun v => (g140_j1).bind some = some r) ?_ ?_)))
 ·refine VW.seq (Za [2,3,5] hC (q:=(VW.block (VW.rounds 6 (VRounds.step (VW.seq (VW.seq (Za [2,3,5,7] hC (h:=by simp -implicitDefEqProofs [(by decide : Zo 0 4 = true)]; exact .rfl) (q:=(Ye (by simp) (VW.skip (VW.seq (VW.block (VW.seq ?_))))))))))))))
  obtain ⟨r13,q14,h⟩:=Zc h
  have c14:=tl16 q14
  refine Wt [2,3,5,19] hC Wc (h:=by simp -implicitDefEqProofs [c14]; exact .rfl) (q:=(Zd h (fun h => ?_) (fun h => ?_)))
  ·refine VW.seq (Za [4] hC (q:=?_))
   exact VW.ret (Zb h (by simp [eB140]))
  refine VW.skip (Za [2,3,5] hC (h:=by simp -implicitDefEqProofs [(by decide : aI .i64 0 1 = 1)]; exact .rfl) (q:=(VRounds.step (VW.seq (VW.seq (Za [2,3,5,7] hC (h:=by simp -implicitDefEqProofs [(by decide : Zo 1 4 = true)]; exact .rfl) (q:=(Ye (by simp) (VW.skip (VW.seq (VW.block (VW.seq ?_))))))))))))
  obtain ⟨r16,q17,h⟩:=Zc h
  have c17:=tl16 q17
  refine Wt [2,3,5,19] hC Wc (h:=by simp -implicitDefEqProofs [c17]; exact .rfl) (q:=(Zd h (fun h => ?_) (fun h => ?_)))
  ·refine VW.seq (Za [4] hC (q:=?_))
   exact VW.ret (Zb h (by simp [eB140]))
  refine VW.skip (Za [2,3,5] hC (h:=by simp -implicitDefEqProofs [(by decide : aI .i64 1 1 = 2)]; exact .rfl) (q:=(VRounds.step (VW.seq (VW.seq (Za [2,3,5,7] hC (h:=by simp -implicitDefEqProofs [(by decide : Zo 2 4 = true)]; exact .rfl) (q:=(Ye (by simp) (VW.skip (VW.seq (VW.block (VW.seq ?_))))))))))))
  obtain ⟨r19,q20,h⟩:=Zc h
  have c20:=tl16 q20
  refine Wt [2,3,5,19] hC Wc (h:=by simp -implicitDefEqProofs [c20]; exact .rfl) (q:=(Zd h (fun h => ?_) (fun h => ?_)))
  ·refine VW.seq (Za [4] hC (q:=?_))
   exact VW.ret (Zb h (by simp [eB140]))
  refine VW.skip (Za [2,3,5] hC (h:=by simp -implicitDefEqProofs [(by decide : aI .i64 2 1 = 3)]; exact .rfl) (q:=(VRounds.step (VW.seq (VW.seq (Za [2,3,5,7] hC (h:=by simp -implicitDefEqProofs [(by decide : Zo 3 4 = true)]; exact .rfl) (q:=(Ye (by simp) (VW.skip (VW.seq (VW.block (VW.seq ?_))))))))))))
  obtain ⟨r22,q23,h⟩:=Zc h
  have c23:=tl16 q23
  refine Wt [2,3,5,19] hC Wc (h:=by simp -implicitDefEqProofs [c23]; exact .rfl) (q:=(Zd h (fun h => ?_) (fun h => ?_)))
  ·refine VW.seq (Za [4] hC (q:=?_))
   exact VW.ret (Zb h (by simp [eB140]))
  exact VW.skip (Za [2,3,5] hC (h:=by simp -implicitDefEqProofs [(by decide : aI .i64 3 1 = 4)]; exact .rfl) (q:=(VRounds.step (VW.seq (VW.seq (Za [2,3,5,7] hC (h:=by simp -implicitDefEqProofs [(by decide : Zo 4 4 = false)]; exact .rfl) (q:=(Qj (by simp) (VW.exit (Zn () h (Ze 2)))))))))))
 rintro _ h
 replace h : (g140_j1).bind _ = _:=h
 rw [g140_j1] at h
 refine VW.seq (Za [4] hC (q:=?_))
 exact VW.ret (Zb h (by simp [eB140]))
theorem tl140 {a : T130} {b : T130} {r : Bool} (h : g140 a b = some r) : F140 [.agg [.f .f32 a.a0_,.f .f32 a.a1_,.f .f32 a.a2_,.f .f32 a.a3_],.agg [.f .f32 b.a0_,.f .f32 b.a1_,.f .f32 b.a2_,.f .f32 b.a3_]] = some (.b r):=Zf inj140 (a:=(a,b)) h
def g120 (a : T131) (b : T131) : Option (Bool) :=
if (!Yx a.a_ b.a_) = true then
some false
else
if (!Yx a.b_ b.b_) = true then
some false
else
(g16 (Xm a.lead_) (Xm b.lead_)).bind fun r3 =>
if (!r3) = true then
some false
else
(g16 (Xm a.store_) (Xm b.store_)).bind fun r6 =>
if (!r6) = true then
some false
else
(g140 a.heat_ b.heat_).bind fun r9 =>
if (!r9) = true then
some false
else
some true
@[simp] def eA120 (a : T131 × T131) : List V:=[.agg (Xg a.1),.agg (Xg a.2)]
def eB120 (r : Bool) : V:=.b r
theorem inj120 (a a' : T131 × T131) (h : eA120 a = eA120 a') : a = a':=by simpa [eA120,Prod.ext_iff] using h
def F120 : List V→Option V:=tells (fun a => g120 a.1 a.2) eA120 eB120
theorem ok120 : Zz Tryz.prog 120 F120:=by
 refine Zg 37 Tryz.func120 ?_
 rintro ⟨a,b⟩ r h
 replace h : (g120 a b).bind some = some r:=h
 rw [g120] at h
 have hC : Qc.Ok Tryz.prog [(16,F16),(140,F140)]:=⟨.inl ok16,.inl ok140,trivial⟩
 refine VW.seq (Za [2,3] hC (q:=(VW.seq (VW.seq (Za [2,3,9] hC (q:=(Zd h (fun h => ?_) (fun h => ?_))))))))
 ·refine VW.seq (Za [4] hC (q:=?_))
  exact VW.ret (Zb h (by simp [eB120]))
 refine VW.skip (VW.seq (VW.seq (Za [2,3,14] hC (q:=(Zd h (fun h => ?_) (fun h => ?_))))))
 ·refine VW.seq (Za [4] hC (q:=?_))
  exact VW.ret (Zb h (by simp [eB120]))
 refine VW.skip (VW.seq (VW.seq ?_))
 obtain ⟨r3,q4,h⟩:=Zc h
 have c4:=tl16 q4
 refine Zj [2,3,22] hC (q:=(Zd h (fun h => ?_) (fun h => ?_)))
 ·refine VW.seq (Za [4] hC (q:=?_))
  exact VW.ret (Zb h (by simp [eB120]))
 refine VW.skip (VW.seq (VW.seq ?_))
 obtain ⟨r6,q7,h⟩:=Zc h
 have c7:=tl16 q7
 refine Zj [2,3,30] hC (q:=(Zd h (fun h => ?_) (fun h => ?_)))
 ·refine VW.seq (Za [4] hC (q:=?_))
  exact VW.ret (Zb h (by simp [eB120]))
 refine VW.skip (VW.seq (VW.seq ?_))
 obtain ⟨r9,q10,h⟩:=Zc h
 have c10:=tl140 q10
 refine Zj [36] hC (q:=(Zd h (fun h => ?_) (fun h => ?_)))
 ·refine VW.seq (Za [4] hC (q:=?_))
  exact VW.ret (Zb h (by simp [eB120]))
 refine VW.skip (VW.seq (Za [4] hC (q:=?_)))
 exact VW.ret (Zb h (by simp [eB120]))
theorem tl120 {a : T131} {b : T131} {r : Bool} (h : g120 a b = some r) : F120 [.agg [.i .i64 a.a_,.i .i64 a.b_,.f .f32 a.lead_,.f .f32 a.store_,.f .f32 a.heat_.a0_,.f .f32 a.heat_.a1_,.f .f32 a.heat_.a2_,.f .f32 a.heat_.a3_],.agg [.i .i64 b.a_,.i .i64 b.b_,.f .f32 b.lead_,.f .f32 b.store_,.f .f32 b.heat_.a0_,.f .f32 b.heat_.a1_,.f .f32 b.heat_.a2_,.f .f32 b.heat_.a3_]] = some (.b r):=Zf inj120 (a:=(a,b)) h
def g86_j1 : Option (Bool) :=
some true
def g86_L1 (a : List T131) (b : List T131) : (Int)→Option ((Int) ⊕ ((Unit) ⊕ (Bool)))
| i_45 =>
if Zo i_45 (a.length : Int) = true then
(Wp a i_45).bind fun e47 =>
(Wp b i_45).bind fun e49 =>
(g120 e47 e49).bind fun r51 =>
if (!r51) = true then
some (.inr (.inr false))
else
some (.inl (aI .i64 i_45 1))
else
some (.inr (.inl ()))
def g86 (a : List T131) (b : List T131) : Option (Bool) :=
if (!Yx (a.length : Int) (b.length : Int)) = true then
some false
else
(loopO (g86_L1 a b) 0).bind fun w => match w with
| .inl y => g86_j1
| .inr r => some r
@[simp] def eA86 (a : (List T131) × (List T131)) : List V:=[.sl 8 (rows Yv a.1),.sl 8 (rows Yv a.2)]
def eB86 (r : Bool) : V:=.b r
theorem inj86 (a a' : (List T131) × (List T131)) (h : eA86 a = eA86 a') : a = a':=by simpa [eA86,Prod.ext_iff] using h
def F86 : List V→Option V:=tells (fun a => g86 a.1 a.2) eA86 eB86
theorem ok86 : Zz Tryz.prog 86 F86:=by
 refine Zg 27 Tryz.func86 ?_
 rintro ⟨a,b⟩ r h
 replace h : (g86 a b).bind some = some r:=h
 rw [g86] at h
 have hC : Qc.Ok Tryz.prog [(120,F120)]:=⟨.inl ok120,trivial⟩
 refine VW.seq (Za [0,1] hC (q:=(VW.seq (VW.seq (Za [0,1,10] hC (q:=(Zd h (fun h => ?_) (fun h => ?_))))))))
 ·refine VW.seq (Za [4] hC (q:=?_))
  exact VW.ret (Zb h (by simp [eB86]))
 refine VW.skip (VW.join (fun (v : Unit) => (⟨(tm 27 []),[],[]⟩ : VS)) (fun v => (g86_j1).bind some = some r) ?_ ?_)
 ·refine VW.seq (Za [0,1,5] hC (q:=VW.block ?_))
  obtain ⟨w_1,hw_1,h⟩:=Zc h
  refine VW.loopO (fun (x : Int) => (⟨(tm 27 [(0,.sl 8 (rows Yv a)),(1,.sl 8 (rows Yv b)),(5,.i .i64 x)]),[],[]⟩ : VS)) hw_1 (Ze 0) ?_
  rintro n_1 i_45 h1
  rw [g86_L1] at h1
  refine VW.seq (VW.seq (Za [0,1,5,14] hC (q:=(Zk h1 (fun h1 => ?_) (fun h1 => ?_)))))
  ·refine VW.exit ?_
   have e_:=Yd h1
   subst w_1
   exact Zn () h (Ze 0)
  refine VW.skip (VW.seq (VW.block (VW.seq ?_)))
  obtain ⟨e47,⟨f48a,f48b,f48c,f48d⟩,h1⟩:=Ys h1
  obtain ⟨e49,⟨f50a,f50b,f50c,f50d⟩,h1⟩:=Ys h1
  obtain ⟨r51,q52,h1⟩:=Zc h1
  have c52:=tl120 q52
  refine Wt [0,1,5,26] hC Wc (h:=by simp -implicitDefEqProofs [f48a,f48b,f48c,f48d,f50a,f50b,f50c,f50d,c52]; exact .rfl) (q:=(Zd h1 (fun h1 => ?_) (fun h1 => ?_)))
  ·refine VW.seq (Za [4] hC (q:=?_))
   have e_:=Yd h1
   subst w_1
   exact VW.ret (Zb h (by simp [eB86]))
  exact VW.skip (Za [0,1,5] hC (q:=(Zn (aI .i64 i_45 1) (Yr h1) (Ze 0))))
 rintro _ h
 replace h : (g86_j1).bind _ = _:=h
 rw [g86_j1] at h
 refine VW.seq (Za [4] hC (q:=?_))
 exact VW.ret (Zb h (by simp [eB86]))
theorem tl86 {a : List T131} {b : List T131} {r : Bool} (h : g86 a b = some r) : F86 [.sl 8 (rows Yv a),.sl 8 (rows Yv b)] = some (.b r):=Zf inj86 (a:=(a,b)) h
def g121 (a : T134) (b : T134) : Option (Bool) :=
if (!Yx a.a_ b.a_) = true then
some false
else
if (!Yx a.b_ b.b_) = true then
some false
else
(g16 (Xm a.lead_) (Xm b.lead_)).bind fun r3 =>
if (!r3) = true then
some false
else
(g16 (Xm a.sun_) (Xm b.sun_)).bind fun r6 =>
if (!r6) = true then
some false
else
some true
@[simp] def eA121 (a : T134 × T134) : List V:=[.agg (Xs a.1),.agg (Xs a.2)]
def eB121 (r : Bool) : V:=.b r
theorem inj121 (a a' : T134 × T134) (h : eA121 a = eA121 a') : a = a':=by simpa [eA121,Prod.ext_iff] using h
def F121 : List V→Option V:=tells (fun a => g121 a.1 a.2) eA121 eB121
theorem ok121 : Zz Tryz.prog 121 F121:=by
 refine Zg 31 Tryz.func121 ?_
 rintro ⟨a,b⟩ r h
 replace h : (g121 a b).bind some = some r:=h
 rw [g121] at h
 have hC : Qc.Ok Tryz.prog [(16,F16)]:=⟨.inl ok16,trivial⟩
 refine VW.seq (Za [2,3] hC (q:=(VW.seq (VW.seq (Za [2,3,9] hC (q:=(Zd h (fun h => ?_) (fun h => ?_))))))))
 ·refine VW.seq (Za [4] hC (q:=?_))
  exact VW.ret (Zb h (by simp [eB121]))
 refine VW.skip (VW.seq (VW.seq (Za [2,3,14] hC (q:=(Zd h (fun h => ?_) (fun h => ?_))))))
 ·refine VW.seq (Za [4] hC (q:=?_))
  exact VW.ret (Zb h (by simp [eB121]))
 refine VW.skip (VW.seq (VW.seq ?_))
 obtain ⟨r3,q4,h⟩:=Zc h
 have c4:=tl16 q4
 refine Zj [2,3,22] hC (q:=(Zd h (fun h => ?_) (fun h => ?_)))
 ·refine VW.seq (Za [4] hC (q:=?_))
  exact VW.ret (Zb h (by simp [eB121]))
 refine VW.skip (VW.seq (VW.seq ?_))
 obtain ⟨r6,q7,h⟩:=Zc h
 have c7:=tl16 q7
 refine Zj [30] hC (q:=(Zd h (fun h => ?_) (fun h => ?_)))
 ·refine VW.seq (Za [4] hC (q:=?_))
  exact VW.ret (Zb h (by simp [eB121]))
 refine VW.skip (VW.seq (Za [4] hC (q:=?_)))
 exact VW.ret (Zb h (by simp [eB121]))
theorem tl121 {a : T134} {b : T134} {r : Bool} (h : g121 a b = some r) : F121 [.agg [.i .i64 a.a_,.i .i64 a.b_,.f .f32 a.lead_,.f .f32 a.sun_],.agg [.i .i64 b.a_,.i .i64 b.b_,.f .f32 b.lead_,.f .f32 b.sun_]] = some (.b r):=Zf inj121 (a:=(a,b)) h
def g87_j1 : Option (Bool) :=
some true
def g87_L1 (a : List T134) (b : List T134) : (Int)→Option ((Int) ⊕ ((Unit) ⊕ (Bool)))
| i_45 =>
if Zo i_45 (a.length : Int) = true then
(Wp a i_45).bind fun e47 =>
(Wp b i_45).bind fun e49 =>
(g121 e47 e49).bind fun r51 =>
if (!r51) = true then
some (.inr (.inr false))
else
some (.inl (aI .i64 i_45 1))
else
some (.inr (.inl ()))
def g87 (a : List T134) (b : List T134) : Option (Bool) :=
if (!Yx (a.length : Int) (b.length : Int)) = true then
some false
else
(loopO (g87_L1 a b) 0).bind fun w => match w with
| .inl y => g87_j1
| .inr r => some r
@[simp] def eA87 (a : (List T134) × (List T134)) : List V:=[.sl 4 (rows Yw a.1),.sl 4 (rows Yw a.2)]
def eB87 (r : Bool) : V:=.b r
theorem inj87 (a a' : (List T134) × (List T134)) (h : eA87 a = eA87 a') : a = a':=by simpa [eA87,Prod.ext_iff] using h
def F87 : List V→Option V:=tells (fun a => g87 a.1 a.2) eA87 eB87
theorem ok87 : Zz Tryz.prog 87 F87:=by
 refine Zg 27 Tryz.func87 ?_
 rintro ⟨a,b⟩ r h
 replace h : (g87 a b).bind some = some r:=h
 rw [g87] at h
 have hC : Qc.Ok Tryz.prog [(121,F121)]:=⟨.inl ok121,trivial⟩
 refine VW.seq (Za [0,1] hC (q:=(VW.seq (VW.seq (Za [0,1,10] hC (q:=(Zd h (fun h => ?_) (fun h => ?_))))))))
 ·refine VW.seq (Za [4] hC (q:=?_))
  exact VW.ret (Zb h (by simp [eB87]))
 refine VW.skip (VW.join (fun (v : Unit) => (⟨(tm 27 []),[],[]⟩ : VS)) (fun v => (g87_j1).bind some = some r) ?_ ?_)
 ·refine VW.seq (Za [0,1,5] hC (q:=VW.block ?_))
  obtain ⟨w_1,hw_1,h⟩:=Zc h
  refine VW.loopO (fun (x : Int) => (⟨(tm 27 [(0,.sl 4 (rows Yw a)),(1,.sl 4 (rows Yw b)),(5,.i .i64 x)]),[],[]⟩ : VS)) hw_1 (Ze 0) ?_
  rintro n_1 i_45 h1
  rw [g87_L1] at h1
  refine VW.seq (VW.seq (Za [0,1,5,14] hC (q:=(Zk h1 (fun h1 => ?_) (fun h1 => ?_)))))
  ·refine VW.exit ?_
   have e_:=Yd h1
   subst w_1
   exact Zn () h (Ze 0)
  refine VW.skip (VW.seq (VW.block (VW.seq ?_)))
  obtain ⟨e47,⟨f48a,f48b,f48c,f48d⟩,h1⟩:=Ys h1
  obtain ⟨e49,⟨f50a,f50b,f50c,f50d⟩,h1⟩:=Ys h1
  obtain ⟨r51,q52,h1⟩:=Zc h1
  have c52:=tl121 q52
  refine Wt [0,1,5,26] hC Wc (h:=by simp -implicitDefEqProofs [f48a,f48b,f48c,f48d,f50a,f50b,f50c,f50d,c52]; exact .rfl) (q:=(Zd h1 (fun h1 => ?_) (fun h1 => ?_)))
  ·refine VW.seq (Za [4] hC (q:=?_))
   have e_:=Yd h1
   subst w_1
   exact VW.ret (Zb h (by simp [eB87]))
  exact VW.skip (Za [0,1,5] hC (q:=(Zn (aI .i64 i_45 1) (Yr h1) (Ze 0))))
 rintro _ h
 replace h : (g87_j1).bind _ = _:=h
 rw [g87_j1] at h
 refine VW.seq (Za [4] hC (q:=?_))
 exact VW.ret (Zb h (by simp [eB87]))
theorem tl87 {a : List T134} {b : List T134} {r : Bool} (h : g87 a b = some r) : F87 [.sl 4 (rows Yw a),.sl 4 (rows Yw b)] = some (.b r):=Zf inj87 (a:=(a,b)) h
def g38 (a : T25) (b : T25) : Option (Bool) :=
(g85 a.heat_ b.heat_).bind fun r1 =>
if (!r1) = true then
some false
else
(g85 a.store_ b.store_).bind fun r4 =>
if (!r4) = true then
some false
else
(g86 a.walls_ b.walls_).bind fun r7 =>
if (!r7) = true then
some false
else
(g87 a.panes_ b.panes_).bind fun r10 =>
if (!r10) = true then
some false
else
some true
@[simp] def eA38 (a : T25 × T25) : List V:=[.agg (Wb a.1),.agg (Wb a.2)]
def eB38 (r : Bool) : V:=.b r
theorem inj38 (a a' : T25 × T25) (h : eA38 a = eA38 a') : a = a':=by simpa [eA38,Prod.ext_iff] using h
def F38 : List V→Option V:=tells (fun a => g38 a.1 a.2) eA38 eB38
theorem ok38 : Zz Tryz.prog 38 F38:=by
 refine Zg 29 Tryz.func38 ?_
 rintro ⟨a,b⟩ r h
 replace h : (g38 a b).bind some = some r:=h
 rw [g38] at h
 have hC : Qc.Ok Tryz.prog [(85,F85),(86,F86),(87,F87)]:=⟨.inl ok85,.inl ok86,.inl ok87,trivial⟩
 refine VW.seq (Za [2,3] hC (q:=(VW.seq (VW.seq ?_))))
 obtain ⟨r1,q2,h⟩:=Zc h
 have c2:=tl85 q2
 refine Zj [2,3,10] hC (q:=(Zd h (fun h => ?_) (fun h => ?_)))
 ·refine VW.seq (Za [4] hC (q:=?_))
  exact VW.ret (Zb h (by simp [eB38]))
 refine VW.skip (VW.seq (VW.seq ?_))
 obtain ⟨r4,q5,h⟩:=Zc h
 have c5:=tl85 q5
 refine Zj [2,3,16] hC (q:=(Zd h (fun h => ?_) (fun h => ?_)))
 ·refine VW.seq (Za [4] hC (q:=?_))
  exact VW.ret (Zb h (by simp [eB38]))
 refine VW.skip (VW.seq (VW.seq ?_))
 obtain ⟨r7,q8,h⟩:=Zc h
 have c8:=tl86 q8
 refine Zj [2,3,22] hC (q:=(Zd h (fun h => ?_) (fun h => ?_)))
 ·refine VW.seq (Za [4] hC (q:=?_))
  exact VW.ret (Zb h (by simp [eB38]))
 refine VW.skip (VW.seq (VW.seq ?_))
 obtain ⟨r10,q11,h⟩:=Zc h
 have c11:=tl87 q11
 refine Zj [28] hC (q:=(Zd h (fun h => ?_) (fun h => ?_)))
 ·refine VW.seq (Za [4] hC (q:=?_))
  exact VW.ret (Zb h (by simp [eB38]))
 refine VW.skip (VW.seq (Za [4] hC (q:=?_)))
 exact VW.ret (Zb h (by simp [eB38]))
theorem tl38 {a : T25} {b : T25} {r : Bool} (h : g38 a b = some r) : F38 [.agg [.sl 1 (rows Zt a.heat_),.sl 1 (rows Zt a.store_),.sl 8 (rows Yv a.walls_),.sl 4 (rows Yw a.panes_)],.agg [.sl 1 (rows Zt b.heat_),.sl 1 (rows Zt b.store_),.sl 8 (rows Yv b.walls_),.sl 4 (rows Yw b.panes_)]] = some (.b r):=Zf inj38 (a:=(a,b)) h
def g88 (a : T32) (b : T32) : Option (Bool) :=
(g16 (Xm a.burnt_) (Xm b.burnt_)).bind fun r1 =>
if (!r1) = true then
some false
else
(g16 (Xm a.steam_) (Xm b.steam_)).bind fun r4 =>
if (!r4) = true then
some false
else
(g16 (Xm a.up_) (Xm b.up_)).bind fun r7 =>
if (!r7) = true then
some false
else
(g16 (Xm a.lost_) (Xm b.lost_)).bind fun r10 =>
if (!r10) = true then
some false
else
if (!Yx a.smoky_ b.smoky_) = true then
some false
else
some true
@[simp] def eA88 (a : T32 × T32) : List V:=[.agg (Xk a.1),.agg (Xk a.2)]
def eB88 (r : Bool) : V:=.b r
theorem inj88 (a a' : T32 × T32) (h : eA88 a = eA88 a') : a = a':=by simpa [eA88,Prod.ext_iff] using h
def F88 : List V→Option V:=tells (fun a => g88 a.1 a.2) eA88 eB88
theorem ok88 : Zz Tryz.prog 88 F88:=by
 refine Zg 42 Tryz.func88 ?_
 rintro ⟨a,b⟩ r h
 replace h : (g88 a b).bind some = some r:=h
 rw [g88] at h
 have hC : Qc.Ok Tryz.prog [(16,F16)]:=⟨.inl ok16,trivial⟩
 refine VW.seq (Za [2,3] hC (q:=(VW.seq (VW.seq ?_))))
 obtain ⟨r1,q2,h⟩:=Zc h
 have c2:=tl16 q2
 refine Zj [2,3,12] hC (q:=(Zd h (fun h => ?_) (fun h => ?_)))
 ·refine VW.seq (Za [4] hC (q:=?_))
  exact VW.ret (Zb h (by simp [eB88]))
 refine VW.skip (VW.seq (VW.seq ?_))
 obtain ⟨r4,q5,h⟩:=Zc h
 have c5:=tl16 q5
 refine Zj [2,3,20] hC (q:=(Zd h (fun h => ?_) (fun h => ?_)))
 ·refine VW.seq (Za [4] hC (q:=?_))
  exact VW.ret (Zb h (by simp [eB88]))
 refine VW.skip (VW.seq (VW.seq ?_))
 obtain ⟨r7,q8,h⟩:=Zc h
 have c8:=tl16 q8
 refine Zj [2,3,28] hC (q:=(Zd h (fun h => ?_) (fun h => ?_)))
 ·refine VW.seq (Za [4] hC (q:=?_))
  exact VW.ret (Zb h (by simp [eB88]))
 refine VW.skip (VW.seq (VW.seq ?_))
 obtain ⟨r10,q11,h⟩:=Zc h
 have c11:=tl16 q11
 refine Zj [2,3,36] hC (q:=(Zd h (fun h => ?_) (fun h => ?_)))
 ·refine VW.seq (Za [4] hC (q:=?_))
  exact VW.ret (Zb h (by simp [eB88]))
 refine VW.skip (VW.seq (VW.seq (Za [41] hC (q:=(Zd h (fun h => ?_) (fun h => ?_))))))
 ·refine VW.seq (Za [4] hC (q:=?_))
  exact VW.ret (Zb h (by simp [eB88]))
 refine VW.skip (VW.seq (Za [4] hC (q:=?_)))
 exact VW.ret (Zb h (by simp [eB88]))
theorem tl88 {a : T32} {b : T32} {r : Bool} (h : g88 a b = some r) : F88 [.agg [.f .f32 a.burnt_,.f .f32 a.steam_,.f .f32 a.up_,.f .f32 a.lost_,.i .i64 a.smoky_],.agg [.f .f32 b.burnt_,.f .f32 b.steam_,.f .f32 b.up_,.f .f32 b.lost_,.i .i64 b.smoky_]] = some (.b r):=Zf inj88 (a:=(a,b)) h
def g39_j1 : Option (Bool) :=
some true
def g39_L1 (a : List T32) (b : List T32) : (Int)→Option ((Int) ⊕ ((Unit) ⊕ (Bool)))
| i_45 =>
if Zo i_45 (a.length : Int) = true then
(Wp a i_45).bind fun e47 =>
(Wp b i_45).bind fun e49 =>
(g88 e47 e49).bind fun r51 =>
if (!r51) = true then
some (.inr (.inr false))
else
some (.inl (aI .i64 i_45 1))
else
some (.inr (.inl ()))
def g39 (a : List T32) (b : List T32) : Option (Bool) :=
if (!Yx (a.length : Int) (b.length : Int)) = true then
some false
else
(loopO (g39_L1 a b) 0).bind fun w => match w with
| .inl y => g39_j1
| .inr r => some r
@[simp] def eA39 (a : (List T32) × (List T32)) : List V:=[.sl 5 (rows Xw a.1),.sl 5 (rows Xw a.2)]
def eB39 (r : Bool) : V:=.b r
theorem inj39 (a a' : (List T32) × (List T32)) (h : eA39 a = eA39 a') : a = a':=by simpa [eA39,Prod.ext_iff] using h
def F39 : List V→Option V:=tells (fun a => g39 a.1 a.2) eA39 eB39
theorem ok39 : Zz Tryz.prog 39 F39:=by
 refine Zg 27 Tryz.func39 ?_
 rintro ⟨a,b⟩ r h
 replace h : (g39 a b).bind some = some r:=h
 rw [g39] at h
 have hC : Qc.Ok Tryz.prog [(88,F88)]:=⟨.inl ok88,trivial⟩
 refine VW.seq (Za [0,1] hC (q:=(VW.seq (VW.seq (Za [0,1,10] hC (q:=(Zd h (fun h => ?_) (fun h => ?_))))))))
 ·refine VW.seq (Za [4] hC (q:=?_))
  exact VW.ret (Zb h (by simp [eB39]))
 refine VW.skip (VW.join (fun (v : Unit) => (⟨(tm 27 []),[],[]⟩ : VS)) (fun v => (g39_j1).bind some = some r) ?_ ?_)
 ·refine VW.seq (Za [0,1,5] hC (q:=VW.block ?_))
  obtain ⟨w_1,hw_1,h⟩:=Zc h
  refine VW.loopO (fun (x : Int) => (⟨(tm 27 [(0,.sl 5 (rows Xw a)),(1,.sl 5 (rows Xw b)),(5,.i .i64 x)]),[],[]⟩ : VS)) hw_1 (Ze 0) ?_
  rintro n_1 i_45 h1
  rw [g39_L1] at h1
  refine VW.seq (VW.seq (Za [0,1,5,14] hC (q:=(Zk h1 (fun h1 => ?_) (fun h1 => ?_)))))
  ·refine VW.exit ?_
   have e_:=Yd h1
   subst w_1
   exact Zn () h (Ze 0)
  refine VW.skip (VW.seq (VW.block (VW.seq ?_)))
  obtain ⟨e47,⟨f48a,f48b,f48c,f48d⟩,h1⟩:=Ys h1
  obtain ⟨e49,⟨f50a,f50b,f50c,f50d⟩,h1⟩:=Ys h1
  obtain ⟨r51,q52,h1⟩:=Zc h1
  have c52:=tl88 q52
  refine Wt [0,1,5,26] hC Wc (h:=by simp -implicitDefEqProofs [f48a,f48b,f48c,f48d,f50a,f50b,f50c,f50d,c52]; exact .rfl) (q:=(Zd h1 (fun h1 => ?_) (fun h1 => ?_)))
  ·refine VW.seq (Za [4] hC (q:=?_))
   have e_:=Yd h1
   subst w_1
   exact VW.ret (Zb h (by simp [eB39]))
  exact VW.skip (Za [0,1,5] hC (q:=(Zn (aI .i64 i_45 1) (Yr h1) (Ze 0))))
 rintro _ h
 replace h : (g39_j1).bind _ = _:=h
 rw [g39_j1] at h
 refine VW.seq (Za [4] hC (q:=?_))
 exact VW.ret (Zb h (by simp [eB39]))
theorem tl39 {a : List T32} {b : List T32} {r : Bool} (h : g39 a b = some r) : F39 [.sl 5 (rows Xw a),.sl 5 (rows Xw b)] = some (.b r):=Zf inj39 (a:=(a,b)) h
def g167_j1 : Option (Bool) :=
some true
def g167 (a : T148) (b : T148) : Option (Bool) :=
(g16 (Xm a.a0_) (Xm b.a0_)).bind fun r19 =>
if (!r19) = true then
some false
else
(g16 (Xm a.a1_) (Xm b.a1_)).bind fun r22 =>
if (!r22) = true then
some false
else
(g16 (Xm a.a2_) (Xm b.a2_)).bind fun r25 =>
if (!r25) = true then
some false
else
(g16 (Xm a.a3_) (Xm b.a3_)).bind fun r28 =>
if (!r28) = true then
some false
else
(g16 (Xm a.a4_) (Xm b.a4_)).bind fun r31 =>
if (!r31) = true then
some false
else
(g16 (Xm a.a5_) (Xm b.a5_)).bind fun r34 =>
if (!r34) = true then
some false
else
g167_j1
@[simp] def eA167 (a : T148 × T148) : List V:=[.agg (Yt a.1),.agg (Yt a.2)]
def eB167 (r : Bool) : V:=.b r
theorem inj167 (a a' : T148 × T148) (h : eA167 a = eA167 a') : a = a':=by simpa [eA167,Prod.ext_iff] using h
def F167 : List V→Option V:=tells (fun a => g167 a.1 a.2) eA167 eB167
theorem ok167 : Zz Tryz.prog 167 F167:=by
 refine Zg 20 Tryz.func167 ?_
 rintro ⟨a,b⟩ r h
 replace h : (g167 a b).bind some = some r:=h
 rw [g167] at h
 have hC : Qc.Ok Tryz.prog [(16,F16)]:=⟨.inl ok16,trivial⟩
 refine VW.seq (Za [2,3] hC (q:=(VW.join (fun (v : Unit) => (⟨(tm 20 []),[some (6,[(Yt a)]),some (6,[(Yt b)])],[]⟩ : VS)) (fun v => (g167_j1).bind some = some r) ?_ ?_)))
 ·refine VW.seq (Za [2,3,5] hC (q:=(VW.block (VW.rounds 8 (VRounds.step (VW.seq (VW.seq (Za [2,3,5,7] hC (h:=by simp -implicitDefEqProofs [(by decide : Zo 0 6 = true)]; exact .rfl) (q:=(Ye (by simp) (VW.skip (VW.seq (VW.block (VW.seq ?_))))))))))))))
  obtain ⟨r19,q20,h⟩:=Zc h
  have c20:=tl16 q20
  refine Wt [2,3,5,19] hC Wc (h:=by simp -implicitDefEqProofs [c20]; exact .rfl) (q:=(Zd h (fun h => ?_) (fun h => ?_)))
  ·refine VW.seq (Za [4] hC (q:=?_))
   exact VW.ret (Zb h (by simp [eB167]))
  refine VW.skip (Za [2,3,5] hC (h:=by simp -implicitDefEqProofs [(by decide : aI .i64 0 1 = 1)]; exact .rfl) (q:=(VRounds.step (VW.seq (VW.seq (Za [2,3,5,7] hC (h:=by simp -implicitDefEqProofs [(by decide : Zo 1 6 = true)]; exact .rfl) (q:=(Ye (by simp) (VW.skip (VW.seq (VW.block (VW.seq ?_))))))))))))
  obtain ⟨r22,q23,h⟩:=Zc h
  have c23:=tl16 q23
  refine Wt [2,3,5,19] hC Wc (h:=by simp -implicitDefEqProofs [c23]; exact .rfl) (q:=(Zd h (fun h => ?_) (fun h => ?_)))
  ·refine VW.seq (Za [4] hC (q:=?_))
   exact VW.ret (Zb h (by simp [eB167]))
  refine VW.skip (Za [2,3,5] hC (h:=by simp -implicitDefEqProofs [(by decide : aI .i64 1 1 = 2)]; exact .rfl) (q:=(VRounds.step (VW.seq (VW.seq (Za [2,3,5,7] hC (h:=by simp -implicitDefEqProofs [(by decide : Zo 2 6 = true)]; exact .rfl) (q:=(Ye (by simp) (VW.skip (VW.seq (VW.block (VW.seq ?_))))))))))))
  obtain ⟨r25,q26,h⟩:=Zc h
  have c26:=tl16 q26
  refine Wt [2,3,5,19] hC Wc (h:=by simp -implicitDefEqProofs [c26]; exact .rfl) (q:=(Zd h (fun h => ?_) (fun h => ?_)))
  ·refine VW.seq (Za [4] hC (q:=?_))
   exact VW.ret (Zb h (by simp [eB167]))
  refine VW.skip (Za [2,3,5] hC (h:=by simp -implicitDefEqProofs [(by decide : aI .i64 2 1 = 3)]; exact .rfl) (q:=(VRounds.step (VW.seq (VW.seq (Za [2,3,5,7] hC (h:=by simp -implicitDefEqProofs [(by decide : Zo 3 6 = true)]; exact .rfl) (q:=(Ye (by simp) (VW.skip (VW.seq (VW.block (VW.seq ?_))))))))))))
  obtain ⟨r28,q29,h⟩:=Zc h
  have c29:=tl16 q29
  refine Wt [2,3,5,19] hC Wc (h:=by simp -implicitDefEqProofs [c29]; exact .rfl) (q:=(Zd h (fun h => ?_) (fun h => ?_)))
  ·refine VW.seq (Za [4] hC (q:=?_))
   exact VW.ret (Zb h (by simp [eB167]))
  refine VW.skip (Za [2,3,5] hC (h:=by simp -implicitDefEqProofs [(by decide : aI .i64 3 1 = 4)]; exact .rfl) (q:=(VRounds.step (VW.seq (VW.seq (Za [2,3,5,7] hC (h:=by simp -implicitDefEqProofs [(by decide : Zo 4 6 = true)]; exact .rfl) (q:=(Ye (by simp) (VW.skip (VW.seq (VW.block (VW.seq ?_))))))))))))
  obtain ⟨r31,q32,h⟩:=Zc h
  have c32:=tl16 q32
  refine Wt [2,3,5,19] hC Wc (h:=by simp -implicitDefEqProofs [c32]; exact .rfl) (q:=(Zd h (fun h => ?_) (fun h => ?_)))
  ·refine VW.seq (Za [4] hC (q:=?_))
   exact VW.ret (Zb h (by simp [eB167]))
  refine VW.skip (Za [2,3,5] hC (h:=by simp -implicitDefEqProofs [(by decide : aI .i64 4 1 = 5)]; exact .rfl) (q:=(VRounds.step (VW.seq (VW.seq (Za [2,3,5,7] hC (h:=by simp -implicitDefEqProofs [(by decide : Zo 5 6 = true)]; exact .rfl) (q:=(Ye (by simp) (VW.skip (VW.seq (VW.block (VW.seq ?_))))))))))))
  obtain ⟨r34,q35,h⟩:=Zc h
  have c35:=tl16 q35
  refine Wt [2,3,5,19] hC Wc (h:=by simp -implicitDefEqProofs [c35]; exact .rfl) (q:=(Zd h (fun h => ?_) (fun h => ?_)))
  ·refine VW.seq (Za [4] hC (q:=?_))
   exact VW.ret (Zb h (by simp [eB167]))
  exact VW.skip (Za [2,3,5] hC (h:=by simp -implicitDefEqProofs [(by decide : aI .i64 5 1 = 6)]; exact .rfl) (q:=(VRounds.step (VW.seq (VW.seq (Za [2,3,5,7] hC (h:=by simp -implicitDefEqProofs [(by decide : Zo 6 6 = false)]; exact .rfl) (q:=(Qj (by simp) (VW.exit (Zn () h (Ze 2)))))))))))
 rintro _ h
 replace h : (g167_j1).bind _ = _:=h
 rw [g167_j1] at h
 refine VW.seq (Za [4] hC (q:=?_))
 exact VW.ret (Zb h (by simp [eB167]))
theorem tl167 {a : T148} {b : T148} {r : Bool} (h : g167 a b = some r) : F167 [.agg [.f .f32 a.a0_,.f .f32 a.a1_,.f .f32 a.a2_,.f .f32 a.a3_,.f .f32 a.a4_,.f .f32 a.a5_],.agg [.f .f32 b.a0_,.f .f32 b.a1_,.f .f32 b.a2_,.f .f32 b.a3_,.f .f32 b.a4_,.f .f32 b.a5_]] = some (.b r):=Zf inj167 (a:=(a,b)) h
def g156 (a : T149) (b : T149) : Option (Bool) :=
(g167 a.wet_ b.wet_).bind fun r1 =>
if (!r1) = true then
some false
else
(g167 a.heat_ b.heat_).bind fun r4 =>
if (!r4) = true then
some false
else
(g167 a.fuel_ b.fuel_).bind fun r7 =>
if (!r7) = true then
some false
else
some true
@[simp] def eA156 (a : T149 × T149) : List V:=[.agg (Ya a.1),.agg (Ya a.2)]
def eB156 (r : Bool) : V:=.b r
theorem inj156 (a a' : T149 × T149) (h : eA156 a = eA156 a') : a = a':=by simpa [eA156,Prod.ext_iff] using h
def F156 : List V→Option V:=tells (fun a => g156 a.1 a.2) eA156 eB156
theorem ok156 : Zz Tryz.prog 156 F156:=by
 refine Zg 23 Tryz.func156 ?_
 rintro ⟨a,b⟩ r h
 replace h : (g156 a b).bind some = some r:=h
 rw [g156] at h
 have hC : Qc.Ok Tryz.prog [(167,F167)]:=⟨.inl ok167,trivial⟩
 refine VW.seq (Za [2,3] hC (q:=(VW.seq (VW.seq ?_))))
 obtain ⟨r1,q2,h⟩:=Zc h
 have c2:=tl167 q2
 refine Zj [2,3,10] hC (q:=(Zd h (fun h => ?_) (fun h => ?_)))
 ·refine VW.seq (Za [4] hC (q:=?_))
  exact VW.ret (Zb h (by simp [eB156]))
 refine VW.skip (VW.seq (VW.seq ?_))
 obtain ⟨r4,q5,h⟩:=Zc h
 have c5:=tl167 q5
 refine Zj [2,3,16] hC (q:=(Zd h (fun h => ?_) (fun h => ?_)))
 ·refine VW.seq (Za [4] hC (q:=?_))
  exact VW.ret (Zb h (by simp [eB156]))
 refine VW.skip (VW.seq (VW.seq ?_))
 obtain ⟨r7,q8,h⟩:=Zc h
 have c8:=tl167 q8
 refine Zj [22] hC (q:=(Zd h (fun h => ?_) (fun h => ?_)))
 ·refine VW.seq (Za [4] hC (q:=?_))
  exact VW.ret (Zb h (by simp [eB156]))
 refine VW.skip (VW.seq (Za [4] hC (q:=?_)))
 exact VW.ret (Zb h (by simp [eB156]))
theorem tl156 {a : T149} {b : T149} {r : Bool} (h : g156 a b = some r) : F156 [.agg [.f .f32 a.wet_.a0_,.f .f32 a.wet_.a1_,.f .f32 a.wet_.a2_,.f .f32 a.wet_.a3_,.f .f32 a.wet_.a4_,.f .f32 a.wet_.a5_,.f .f32 a.heat_.a0_,.f .f32 a.heat_.a1_,.f .f32 a.heat_.a2_,.f .f32 a.heat_.a3_,.f .f32 a.heat_.a4_,.f .f32 a.heat_.a5_,.f .f32 a.fuel_.a0_,.f .f32 a.fuel_.a1_,.f .f32 a.fuel_.a2_,.f .f32 a.fuel_.a3_,.f .f32 a.fuel_.a4_,.f .f32 a.fuel_.a5_],.agg [.f .f32 b.wet_.a0_,.f .f32 b.wet_.a1_,.f .f32 b.wet_.a2_,.f .f32 b.wet_.a3_,.f .f32 b.wet_.a4_,.f .f32 b.wet_.a5_,.f .f32 b.heat_.a0_,.f .f32 b.heat_.a1_,.f .f32 b.heat_.a2_,.f .f32 b.heat_.a3_,.f .f32 b.heat_.a4_,.f .f32 b.heat_.a5_,.f .f32 b.fuel_.a0_,.f .f32 b.fuel_.a1_,.f .f32 b.fuel_.a2_,.f .f32 b.fuel_.a3_,.f .f32 b.fuel_.a4_,.f .f32 b.fuel_.a5_]] = some (.b r):=Zf inj156 (a:=(a,b)) h
def g141_j1 : Option (Bool) :=
some true
def g141_L1 (a : List T149) (b : List T149) : (Int)→Option ((Int) ⊕ ((Unit) ⊕ (Bool)))
| i_45 =>
if Zo i_45 (a.length : Int) = true then
(Wp a i_45).bind fun e47 =>
(Wp b i_45).bind fun e49 =>
(g156 e47 e49).bind fun r51 =>
if (!r51) = true then
some (.inr (.inr false))
else
some (.inl (aI .i64 i_45 1))
else
some (.inr (.inl ()))
def g141 (a : List T149) (b : List T149) : Option (Bool) :=
if (!Yx (a.length : Int) (b.length : Int)) = true then
some false
else
(loopO (g141_L1 a b) 0).bind fun w => match w with
| .inl y => g141_j1
| .inr r => some r
@[simp] def eA141 (a : (List T149) × (List T149)) : List V:=[.sl 18 (rows Yk a.1),.sl 18 (rows Yk a.2)]
def eB141 (r : Bool) : V:=.b r
theorem inj141 (a a' : (List T149) × (List T149)) (h : eA141 a = eA141 a') : a = a':=by simpa [eA141,Prod.ext_iff] using h
def F141 : List V→Option V:=tells (fun a => g141 a.1 a.2) eA141 eB141
theorem ok141 : Zz Tryz.prog 141 F141:=by
 refine Zg 27 Tryz.func141 ?_
 rintro ⟨a,b⟩ r h
 replace h : (g141 a b).bind some = some r:=h
 rw [g141] at h
 have hC : Qc.Ok Tryz.prog [(156,F156)]:=⟨.inl ok156,trivial⟩
 refine VW.seq (Za [0,1] hC (q:=(VW.seq (VW.seq (Za [0,1,10] hC (q:=(Zd h (fun h => ?_) (fun h => ?_))))))))
 ·refine VW.seq (Za [4] hC (q:=?_))
  exact VW.ret (Zb h (by simp [eB141]))
 refine VW.skip (VW.join (fun (v : Unit) => (⟨(tm 27 []),[],[]⟩ : VS)) (fun v => (g141_j1).bind some = some r) ?_ ?_)
 ·refine VW.seq (Za [0,1,5] hC (q:=VW.block ?_))
  obtain ⟨w_1,hw_1,h⟩:=Zc h
  refine VW.loopO (fun (x : Int) => (⟨(tm 27 [(0,.sl 18 (rows Yk a)),(1,.sl 18 (rows Yk b)),(5,.i .i64 x)]),[],[]⟩ : VS)) hw_1 (Ze 0) ?_
  rintro n_1 i_45 h1
  rw [g141_L1] at h1
  refine VW.seq (VW.seq (Za [0,1,5,14] hC (q:=(Zk h1 (fun h1 => ?_) (fun h1 => ?_)))))
  ·refine VW.exit ?_
   have e_:=Yd h1
   subst w_1
   exact Zn () h (Ze 0)
  refine VW.skip (VW.seq (VW.block (VW.seq ?_)))
  obtain ⟨e47,⟨f48a,f48b,f48c,f48d⟩,h1⟩:=Ys h1
  obtain ⟨e49,⟨f50a,f50b,f50c,f50d⟩,h1⟩:=Ys h1
  obtain ⟨r51,q52,h1⟩:=Zc h1
  have c52:=tl156 q52
  refine Wt [0,1,5,26] hC Wc (h:=by simp -implicitDefEqProofs [f48a,f48b,f48c,f48d,f50a,f50b,f50c,f50d,c52]; exact .rfl) (q:=(Zd h1 (fun h1 => ?_) (fun h1 => ?_)))
  ·refine VW.seq (Za [4] hC (q:=?_))
   have e_:=Yd h1
   subst w_1
   exact VW.ret (Zb h (by simp [eB141]))
  exact VW.skip (Za [0,1,5] hC (q:=(Zn (aI .i64 i_45 1) (Yr h1) (Ze 0))))
 rintro _ h
 replace h : (g141_j1).bind _ = _:=h
 rw [g141_j1] at h
 refine VW.seq (Za [4] hC (q:=?_))
 exact VW.ret (Zb h (by simp [eB141]))
theorem tl141 {a : List T149} {b : List T149} {r : Bool} (h : g141 a b = some r) : F141 [.sl 18 (rows Yk a),.sl 18 (rows Yk b)] = some (.b r):=Zf inj141 (a:=(a,b)) h
def g122 (a : T85) (b : T85) : Option (Bool) :=
(g141 a.logs_ b.logs_).bind fun r1 =>
if (!r1) = true then
some false
else
(g16 (Xm a.box_) (Xm b.box_)).bind fun r4 =>
if (!r4) = true then
some false
else
(g16 (Xm a.damper_) (Xm b.damper_)).bind fun r7 =>
if (!r7) = true then
some false
else
if (!Yx a.state_ b.state_) = true then
some false
else
if (!Yx a.ash_ b.ash_) = true then
some false
else
(g16 (Xm a.dust_) (Xm b.dust_)).bind fun r12 =>
if (!r12) = true then
some false
else
some true
@[simp] def eA122 (a : T85 × T85) : List V:=[.agg (Xx a.1),.agg (Xx a.2)]
def eB122 (r : Bool) : V:=.b r
theorem inj122 (a a' : T85 × T85) (h : eA122 a = eA122 a') : a = a':=by simpa [eA122,Prod.ext_iff] using h
def F122 : List V→Option V:=tells (fun a => g122 a.1 a.2) eA122 eB122
theorem ok122 : Zz Tryz.prog 122 F122:=by
 refine Zg 45 Tryz.func122 ?_
 rintro ⟨a,b⟩ r h
 replace h : (g122 a b).bind some = some r:=h
 rw [g122] at h
 have hC : Qc.Ok Tryz.prog [(16,F16),(141,F141)]:=⟨.inl ok16,.inl ok141,trivial⟩
 refine VW.seq (Za [2,3] hC (q:=(VW.seq (VW.seq ?_))))
 obtain ⟨r1,q2,h⟩:=Zc h
 have c2:=tl141 q2
 refine Zj [2,3,10] hC (q:=(Zd h (fun h => ?_) (fun h => ?_)))
 ·refine VW.seq (Za [4] hC (q:=?_))
  exact VW.ret (Zb h (by simp [eB122]))
 refine VW.skip (VW.seq (VW.seq ?_))
 obtain ⟨r4,q5,h⟩:=Zc h
 have c5:=tl16 q5
 refine Zj [2,3,18] hC (q:=(Zd h (fun h => ?_) (fun h => ?_)))
 ·refine VW.seq (Za [4] hC (q:=?_))
  exact VW.ret (Zb h (by simp [eB122]))
 refine VW.skip (VW.seq (VW.seq ?_))
 obtain ⟨r7,q8,h⟩:=Zc h
 have c8:=tl16 q8
 refine Zj [2,3,26] hC (q:=(Zd h (fun h => ?_) (fun h => ?_)))
 ·refine VW.seq (Za [4] hC (q:=?_))
  exact VW.ret (Zb h (by simp [eB122]))
 refine VW.skip (VW.seq (VW.seq (Za [2,3,31] hC (q:=(Zd h (fun h => ?_) (fun h => ?_))))))
 ·refine VW.seq (Za [4] hC (q:=?_))
  exact VW.ret (Zb h (by simp [eB122]))
 refine VW.skip (VW.seq (VW.seq (Za [2,3,36] hC (q:=(Zd h (fun h => ?_) (fun h => ?_))))))
 ·refine VW.seq (Za [4] hC (q:=?_))
  exact VW.ret (Zb h (by simp [eB122]))
 refine VW.skip (VW.seq (VW.seq ?_))
 obtain ⟨r12,q13,h⟩:=Zc h
 have c13:=tl16 q13
 refine Zj [44] hC (q:=(Zd h (fun h => ?_) (fun h => ?_)))
 ·refine VW.seq (Za [4] hC (q:=?_))
  exact VW.ret (Zb h (by simp [eB122]))
 refine VW.skip (VW.seq (Za [4] hC (q:=?_)))
 exact VW.ret (Zb h (by simp [eB122]))
theorem tl122 {a : T85} {b : T85} {r : Bool} (h : g122 a b = some r) : F122 [.agg [.sl 18 (rows Yk a.logs_),.f .f32 a.box_,.f .f32 a.damper_,.i .i8 a.state_,.i .i64 a.ash_,.f .f32 a.dust_],.agg [.sl 18 (rows Yk b.logs_),.f .f32 b.box_,.f .f32 b.damper_,.i .i8 b.state_,.i .i64 b.ash_,.f .f32 b.dust_]] = some (.b r):=Zf inj122 (a:=(a,b)) h
def g89 (a : T87) (b : T87) : Option (Bool) :=
if (!Yx a.room_ b.room_) = true then
some false
else
if (!Yx a.flue_ b.flue_) = true then
some false
else
if (!Yx a.brain_ b.brain_) = true then
some false
else
(g122 a.stove_ b.stove_).bind fun r4 =>
if (!r4) = true then
some false
else
some true
@[simp] def eA89 (a : T87 × T87) : List V:=[.agg (Wk a.1),.agg (Wk a.2)]
def eB89 (r : Bool) : V:=.b r
theorem inj89 (a a' : T87 × T87) (h : eA89 a = eA89 a') : a = a':=by simpa [eA89,Prod.ext_iff] using h
def F89 : List V→Option V:=tells (fun a => g89 a.1 a.2) eA89 eB89
theorem ok89 : Zz Tryz.prog 89 F89:=by
 refine Zg 26 Tryz.func89 ?_
 rintro ⟨a,b⟩ r h
 replace h : (g89 a b).bind some = some r:=h
 rw [g89] at h
 have hC : Qc.Ok Tryz.prog [(122,F122)]:=⟨.inl ok122,trivial⟩
 refine VW.seq (Za [2,3] hC (q:=(VW.seq (VW.seq (Za [2,3,9] hC (q:=(Zd h (fun h => ?_) (fun h => ?_))))))))
 ·refine VW.seq (Za [4] hC (q:=?_))
  exact VW.ret (Zb h (by simp [eB89]))
 refine VW.skip (VW.seq (VW.seq (Za [2,3,14] hC (q:=(Zd h (fun h => ?_) (fun h => ?_))))))
 ·refine VW.seq (Za [4] hC (q:=?_))
  exact VW.ret (Zb h (by simp [eB89]))
 refine VW.skip (VW.seq (VW.seq (Za [2,3,19] hC (q:=(Zd h (fun h => ?_) (fun h => ?_))))))
 ·refine VW.seq (Za [4] hC (q:=?_))
  exact VW.ret (Zb h (by simp [eB89]))
 refine VW.skip (VW.seq (VW.seq ?_))
 obtain ⟨r4,q5,h⟩:=Zc h
 have c5:=tl122 q5
 refine Zj [25] hC (q:=(Zd h (fun h => ?_) (fun h => ?_)))
 ·refine VW.seq (Za [4] hC (q:=?_))
  exact VW.ret (Zb h (by simp [eB89]))
 refine VW.skip (VW.seq (Za [4] hC (q:=?_)))
 exact VW.ret (Zb h (by simp [eB89]))
theorem tl89 {a : T87} {b : T87} {r : Bool} (h : g89 a b = some r) : F89 [.agg [.i .i64 a.room_,.i .i64 a.flue_,.i .i64 a.brain_,.sl 18 (rows Yk a.stove_.logs_),.f .f32 a.stove_.box_,.f .f32 a.stove_.damper_,.i .i8 a.stove_.state_,.i .i64 a.stove_.ash_,.f .f32 a.stove_.dust_],.agg [.i .i64 b.room_,.i .i64 b.flue_,.i .i64 b.brain_,.sl 18 (rows Yk b.stove_.logs_),.f .f32 b.stove_.box_,.f .f32 b.stove_.damper_,.i .i8 b.stove_.state_,.i .i64 b.stove_.ash_,.f .f32 b.stove_.dust_]] = some (.b r):=Zf inj89 (a:=(a,b)) h
def g40_j1 : Option (Bool) :=
some true
def g40_L1 (a : List T87) (b : List T87) : (Int)→Option ((Int) ⊕ ((Unit) ⊕ (Bool)))
| i_45 =>
if Zo i_45 (a.length : Int) = true then
(Wp a i_45).bind fun e47 =>
(Wp b i_45).bind fun e49 =>
(g89 e47 e49).bind fun r51 =>
if (!r51) = true then
some (.inr (.inr false))
else
some (.inl (aI .i64 i_45 1))
else
some (.inr (.inl ()))
def g40 (a : List T87) (b : List T87) : Option (Bool) :=
if (!Yx (a.length : Int) (b.length : Int)) = true then
some false
else
(loopO (g40_L1 a b) 0).bind fun w => match w with
| .inl y => g40_j1
| .inr r => some r
@[simp] def eA40 (a : (List T87) × (List T87)) : List V:=[.sl 9 (rows Wa a.1),.sl 9 (rows Wa a.2)]
def eB40 (r : Bool) : V:=.b r
theorem inj40 (a a' : (List T87) × (List T87)) (h : eA40 a = eA40 a') : a = a':=by simpa [eA40,Prod.ext_iff] using h
def F40 : List V→Option V:=tells (fun a => g40 a.1 a.2) eA40 eB40
theorem ok40 : Zz Tryz.prog 40 F40:=by
 refine Zg 27 Tryz.func40 ?_
 rintro ⟨a,b⟩ r h
 replace h : (g40 a b).bind some = some r:=h
 rw [g40] at h
 have hC : Qc.Ok Tryz.prog [(89,F89)]:=⟨.inl ok89,trivial⟩
 refine VW.seq (Za [0,1] hC (q:=(VW.seq (VW.seq (Za [0,1,10] hC (q:=(Zd h (fun h => ?_) (fun h => ?_))))))))
 ·refine VW.seq (Za [4] hC (q:=?_))
  exact VW.ret (Zb h (by simp [eB40]))
 refine VW.skip (VW.join (fun (v : Unit) => (⟨(tm 27 []),[],[]⟩ : VS)) (fun v => (g40_j1).bind some = some r) ?_ ?_)
 ·refine VW.seq (Za [0,1,5] hC (q:=VW.block ?_))
  obtain ⟨w_1,hw_1,h⟩:=Zc h
  refine VW.loopO (fun (x : Int) => (⟨(tm 27 [(0,.sl 9 (rows Wa a)),(1,.sl 9 (rows Wa b)),(5,.i .i64 x)]),[],[]⟩ : VS)) hw_1 (Ze 0) ?_
  rintro n_1 i_45 h1
  rw [g40_L1] at h1
  refine VW.seq (VW.seq (Za [0,1,5,14] hC (q:=(Zk h1 (fun h1 => ?_) (fun h1 => ?_)))))
  ·refine VW.exit ?_
   have e_:=Yd h1
   subst w_1
   exact Zn () h (Ze 0)
  refine VW.skip (VW.seq (VW.block (VW.seq ?_)))
  obtain ⟨e47,⟨f48a,f48b,f48c,f48d⟩,h1⟩:=Ys h1
  obtain ⟨e49,⟨f50a,f50b,f50c,f50d⟩,h1⟩:=Ys h1
  obtain ⟨r51,q52,h1⟩:=Zc h1
  have c52:=tl89 q52
  refine Wt [0,1,5,26] hC Wc (h:=by simp -implicitDefEqProofs [f48a,f48b,f48c,f48d,f50a,f50b,f50c,f50d,c52]; exact .rfl) (q:=(Zd h1 (fun h1 => ?_) (fun h1 => ?_)))
  ·refine VW.seq (Za [4] hC (q:=?_))
   have e_:=Yd h1
   subst w_1
   exact VW.ret (Zb h (by simp [eB40]))
  exact VW.skip (Za [0,1,5] hC (q:=(Zn (aI .i64 i_45 1) (Yr h1) (Ze 0))))
 rintro _ h
 replace h : (g40_j1).bind _ = _:=h
 rw [g40_j1] at h
 refine VW.seq (Za [4] hC (q:=?_))
 exact VW.ret (Zb h (by simp [eB40]))
theorem tl40 {a : List T87} {b : List T87} {r : Bool} (h : g40 a b = some r) : F40 [.sl 9 (rows Wa a),.sl 9 (rows Wa b)] = some (.b r):=Zf inj40 (a:=(a,b)) h
def g41_j1 : Option (Bool) :=
some true
def g41_L1 (a : List ByteArray) (b : List ByteArray) : (Int)→Option ((Int) ⊕ ((Unit) ⊕ (Bool)))
| i_35 =>
if Zo i_35 (a.length : Int) = true then
(Wp a i_35).bind fun e37 =>
(Wp b i_35).bind fun e39 =>
if (!Jb e37 e39) = true then
some (.inr (.inr false))
else
some (.inl (aI .i64 i_35 1))
else
some (.inr (.inl ()))
def g41 (a : List ByteArray) (b : List ByteArray) : Option (Bool) :=
if (!Yx (a.length : Int) (b.length : Int)) = true then
some false
else
(loopO (g41_L1 a b) 0).bind fun w => match w with
| .inl y => g41_j1
| .inr r => some r
@[simp] def eA41 (a : (List ByteArray) × (List ByteArray)) : List V:=[.sl 1 (rows Yu a.1),.sl 1 (rows Yu a.2)]
def eB41 (r : Bool) : V:=.b r
theorem inj41 (a a' : (List ByteArray) × (List ByteArray)) (h : eA41 a = eA41 a') : a = a':=by simpa [eA41,Prod.ext_iff] using h
def F41 : List V→Option V:=tells (fun a => g41 a.1 a.2) eA41 eB41
theorem ok41 : Zz Tryz.prog 41 F41:=by
 refine Zg 26 Tryz.func41 ?_
 rintro ⟨a,b⟩ r h
 replace h : (g41 a b).bind some = some r:=h
 rw [g41] at h
 have hC : Qc.Ok Tryz.prog []:=trivial
 refine VW.seq (Za [0,1] hC (q:=(VW.seq (VW.seq (Za [0,1,10] hC (q:=(Zd h (fun h => ?_) (fun h => ?_))))))))
 ·refine VW.seq (Za [4] hC (q:=?_))
  exact VW.ret (Zb h (by simp [eB41]))
 refine VW.skip (VW.join (fun (v : Unit) => (⟨(tm 26 []),[],[]⟩ : VS)) (fun v => (g41_j1).bind some = some r) ?_ ?_)
 ·refine VW.seq (Za [0,1,5] hC (q:=VW.block ?_))
  obtain ⟨w_1,hw_1,h⟩:=Zc h
  refine VW.loopO (fun (x : Int) => (⟨(tm 26 [(0,.sl 1 (rows Yu a)),(1,.sl 1 (rows Yu b)),(5,.i .i64 x)]),[],[]⟩ : VS)) hw_1 (Ze 0) ?_
  rintro n_1 i_35 h1
  rw [g41_L1] at h1
  refine VW.seq (VW.seq (Za [0,1,5,14] hC (q:=(Zk h1 (fun h1 => ?_) (fun h1 => ?_)))))
  ·refine VW.exit ?_
   have e_:=Yd h1
   subst w_1
   exact Zn () h (Ze 0)
  refine VW.skip (VW.seq (VW.block (VW.seq ?_)))
  obtain ⟨e37,⟨f38a,f38b,f38c,f38d⟩,h1⟩:=Ys h1
  obtain ⟨e39,⟨f40a,f40b,f40c,f40d⟩,h1⟩:=Ys h1
  refine Wt [0,1,5,25] hC Wc (h:=by simp -implicitDefEqProofs [f38a,f38b,f38c,f38d,f40a,f40b,f40c,f40d]; exact .rfl) (q:=(Zd h1 (fun h1 => ?_) (fun h1 => ?_)))
  ·refine VW.seq (Za [4] hC (q:=?_))
   have e_:=Yd h1
   subst w_1
   exact VW.ret (Zb h (by simp [eB41]))
  exact VW.skip (Za [0,1,5] hC (q:=(Zn (aI .i64 i_35 1) (Yr h1) (Ze 0))))
 rintro _ h
 replace h : (g41_j1).bind _ = _:=h
 rw [g41_j1] at h
 refine VW.seq (Za [4] hC (q:=?_))
 exact VW.ret (Zb h (by simp [eB41]))
theorem tl41 {a : List ByteArray} {b : List ByteArray} {r : Bool} (h : g41 a b = some r) : F41 [.sl 1 (rows Yu a),.sl 1 (rows Yu b)] = some (.b r):=Zf inj41 (a:=(a,b)) h
def g13 (a : T51) (b : T51) : Option (Bool) :=
(g16 (Xm a.outside_) (Xm b.outside_)).bind fun r1 =>
if (!r1) = true then
some false
else
(g16 (Xm a.sun_) (Xm b.sun_)).bind fun r4 =>
if (!r4) = true then
some false
else
(g16 (Xm a.wind_) (Xm b.wind_)).bind fun r7 =>
if (!r7) = true then
some false
else
some true
@[simp] def eA13 (a : T51 × T51) : List V:=[.agg (Up a.1),.agg (Up a.2)]
def eB13 (r : Bool) : V:=.b r
theorem inj13 (a a' : T51 × T51) (h : eA13 a = eA13 a') : a = a':=by simpa [eA13,Prod.ext_iff] using h
def F13 : List V→Option V:=tells (fun a => g13 a.1 a.2) eA13 eB13
theorem ok13 : Zz Tryz.prog 13 F13:=by
 refine Zg 29 Tryz.func13 ?_
 rintro ⟨a,b⟩ r h
 replace h : (g13 a b).bind some = some r:=h
 rw [g13] at h
 have hC : Qc.Ok Tryz.prog [(16,F16)]:=⟨.inl ok16,trivial⟩
 refine VW.seq (Za [2,3] hC (q:=(VW.seq (VW.seq ?_))))
 obtain ⟨r1,q2,h⟩:=Zc h
 have c2:=tl16 q2
 refine Zj [2,3,12] hC (q:=(Zd h (fun h => ?_) (fun h => ?_)))
 ·refine VW.seq (Za [4] hC (q:=?_))
  exact VW.ret (Zb h (by simp [eB13]))
 refine VW.skip (VW.seq (VW.seq ?_))
 obtain ⟨r4,q5,h⟩:=Zc h
 have c5:=tl16 q5
 refine Zj [2,3,20] hC (q:=(Zd h (fun h => ?_) (fun h => ?_)))
 ·refine VW.seq (Za [4] hC (q:=?_))
  exact VW.ret (Zb h (by simp [eB13]))
 refine VW.skip (VW.seq (VW.seq ?_))
 obtain ⟨r7,q8,h⟩:=Zc h
 have c8:=tl16 q8
 refine Zj [28] hC (q:=(Zd h (fun h => ?_) (fun h => ?_)))
 ·refine VW.seq (Za [4] hC (q:=?_))
  exact VW.ret (Zb h (by simp [eB13]))
 refine VW.skip (VW.seq (Za [4] hC (q:=?_)))
 exact VW.ret (Zb h (by simp [eB13]))
theorem tl13 {a : T51} {b : T51} {r : Bool} (h : g13 a b = some r) : F13 [.agg [.f .f32 a.outside_,.f .f32 a.sun_,.f .f32 a.wind_],.agg [.f .f32 b.outside_,.f .f32 b.sun_,.f .f32 b.wind_]] = some (.b r):=Zf inj13 (a:=(a,b)) h
end
end Go.Proofs.YtloepppmjppddaaGreatDoor
