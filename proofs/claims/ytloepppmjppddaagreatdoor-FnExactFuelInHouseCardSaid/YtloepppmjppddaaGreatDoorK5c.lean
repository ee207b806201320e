/- Contracts of the functions that the law reaches: what each tells, as a function in Lean. -/
import Derived.Test.YtloepppmjppddaaGreatDoorK5b
import Derived.KernelRfl
namespace Go.Proofs.YtloepppmjppddaaGreatDoor
open Go.RowKit Go.VL
set_option linter.unusedSimpArgs false
set_option linter.unusedVariables false
set_option maxHeartbeats 40000000
set_option maxRecDepth 100000
noncomputable section
def g42_j1 : Option (Bool) :=
some true
def g42_L1 (a : List T51) (b : List T51) : (Int)→Option ((Int) ⊕ ((Unit) ⊕ (Bool)))
| i_45 =>
if Zo i_45 (a.length : Int) = true then
(Wp a i_45).bind fun e47 =>
(Wp b i_45).bind fun e49 =>
(g13 e47 e49).bind fun r51 =>
if (!r51) = true then
some (.inr (.inr false))
else
some (.inl (aI .i64 i_45 1))
else
some (.inr (.inl ()))
def g42 (a : List T51) (b : List T51) : Option (Bool) :=
if (!Yx (a.length : Int) (b.length : Int)) = true then
some false
else
(loopO (g42_L1 a b) 0).bind fun w => match w with
| .inl y => g42_j1
| .inr r => some r
@[simp] def eA42 (a : (List T51) × (List T51)) : List V:=[.sl 3 (rows Wq a.1),.sl 3 (rows Wq a.2)]
def eB42 (r : Bool) : V:=.b r
theorem inj42 (a a' : (List T51) × (List T51)) (h : eA42 a = eA42 a') : a = a':=by simpa [eA42,Prod.ext_iff] using h
def F42 : List V→Option V:=tells (fun a => g42 a.1 a.2) eA42 eB42
theorem ok42 : Zz Tryz.prog 42 F42:=by
 refine Zg 27 Tryz.func42 ?_
 rintro ⟨a,b⟩ r h
 replace h : (g42 a b).bind some = some r:=h
 rw [g42] at h
 have hC : Qc.Ok Tryz.prog [(13,F13)]:=⟨.inl ok13,trivial⟩
 refine VW.seq (Za [0,1] hC (q:=(VW.seq (VW.seq (Za [0,1,10] hC (q:=(Zd h (fun h => ?_) (fun h => ?_))))))))
 ·refine VW.seq (Za [4] hC (q:=?_))
  exact VW.ret (Zb h (by simp [eB42]))
 refine VW.skip (VW.join (fun (v : Unit) => (⟨(tm 27 []),[],[]⟩ : VS)) (fun v => (g42_j1).bind some = some r) ?_ ?_)
 ·refine VW.seq (Za [0,1,5] hC (q:=VW.block ?_))
  obtain ⟨w_1,hw_1,h⟩:=Zc h
  refine VW.loopO (fun (x : Int) => (⟨(tm 27 [(0,.sl 3 (rows Wq a)),(1,.sl 3 (rows Wq b)),(5,.i .i64 x)]),[],[]⟩ : VS)) hw_1 (Ze 0) ?_
  rintro n_1 i_45 h1
  rw [g42_L1] at h1
  refine VW.seq (VW.seq (Za [0,1,5,14] hC (q:=(Zk h1 (fun h1 => ?_) (fun h1 => ?_)))))
  ·refine VW.exit ?_
   have e_:=Yd h1
   subst w_1
   exact Zn () h (Ze 0)
  refine VW.skip (VW.seq (VW.block (VW.seq ?_)))
  obtain ⟨e47,⟨f48a,f48b,f48c,f48d⟩,h1⟩:=Ys h1
  obtain ⟨e49,⟨f50a,f50b,f50c,f50d⟩,h1⟩:=Ys h1
  obtain ⟨r51,q52,h1⟩:=Zc h1
  have c52:=tl13 q52
  refine Wt [0,1,5,26] hC Wc (h:=by simp -implicitDefEqProofs [f48a,f48b,f48c,f48d,f50a,f50b,f50c,f50d,c52]; exact .rfl) (q:=(Zd h1 (fun h1 => ?_) (fun h1 => ?_)))
  ·refine VW.seq (Za [4] hC (q:=?_))
   have e_:=Yd h1
   subst w_1
   exact VW.ret (Zb h (by simp [eB42]))
  exact VW.skip (Za [0,1,5] hC (q:=(Zn (aI .i64 i_45 1) (Yr h1) (Ze 0))))
 rintro _ h
 replace h : (g42_j1).bind _ = _:=h
 rw [g42_j1] at h
 refine VW.seq (Za [4] hC (q:=?_))
 exact VW.ret (Zb h (by simp [eB42]))
theorem tl42 {a : List T51} {b : List T51} {r : Bool} (h : g42 a b = some r) : F42 [.sl 3 (rows Wq a),.sl 3 (rows Wq b)] = some (.b r):=Zf inj42 (a:=(a,b)) h
def g43 (a : T32) (b : T32) : Option (Bool) :=
(g16 (Xm a.burnt_) (Xm b.burnt_)).bind fun r1 =>
if (!r1) = true then
some false
else
(g16 (Xm a.steam_) (Xm b.steam_)).bind fun r4 =>
if (!r4) = true then
some false
else
(g16 (Xm a.up_) (Xm b.up_)).bind fun r7 =>
if (!r7) = true then
some false
else
(g16 (Xm a.lost_) (Xm b.lost_)).bind fun r10 =>
if (!r10) = true then
some false
else
if (!Yx a.smoky_ b.smoky_) = true then
some false
else
some true
@[simp] def eA43 (a : T32 × T32) : List V:=[.agg (Xk a.1),.agg (Xk a.2)]
def eB43 (r : Bool) : V:=.b r
theorem inj43 (a a' : T32 × T32) (h : eA43 a = eA43 a') : a = a':=by simpa [eA43,Prod.ext_iff] using h
def F43 : List V→Option V:=tells (fun a => g43 a.1 a.2) eA43 eB43
theorem ok43 : Zz Tryz.prog 43 F43:=by
 refine Zg 42 Tryz.func43 ?_
 rintro ⟨a,b⟩ r h
 replace h : (g43 a b).bind some = some r:=h
 rw [g43] at h
 have hC : Qc.Ok Tryz.prog [(16,F16)]:=⟨.inl ok16,trivial⟩
 refine VW.seq (Za [2,3] hC (q:=(VW.seq (VW.seq ?_))))
 obtain ⟨r1,q2,h⟩:=Zc h
 have c2:=tl16 q2
 refine Zj [2,3,12] hC (q:=(Zd h (fun h => ?_) (fun h => ?_)))
 ·refine VW.seq (Za [4] hC (q:=?_))
  exact VW.ret (Zb h (by simp [eB43]))
 refine VW.skip (VW.seq (VW.seq ?_))
 obtain ⟨r4,q5,h⟩:=Zc h
 have c5:=tl16 q5
 refine Zj [2,3,20] hC (q:=(Zd h (fun h => ?_) (fun h => ?_)))
 ·refine VW.seq (Za [4] hC (q:=?_))
  exact VW.ret (Zb h (by simp [eB43]))
 refine VW.skip (VW.seq (VW.seq ?_))
 obtain ⟨r7,q8,h⟩:=Zc h
 have c8:=tl16 q8
 refine Zj [2,3,28] hC (q:=(Zd h (fun h => ?_) (fun h => ?_)))
 ·refine VW.seq (Za [4] hC (q:=?_))
  exact VW.ret (Zb h (by simp [eB43]))
 refine VW.skip (VW.seq (VW.seq ?_))
 obtain ⟨r10,q11,h⟩:=Zc h
 have c11:=tl16 q11
 refine Zj [2,3,36] hC (q:=(Zd h (fun h => ?_) (fun h => ?_)))
 ·refine VW.seq (Za [4] hC (q:=?_))
  exact VW.ret (Zb h (by simp [eB43]))
 refine VW.skip (VW.seq (VW.seq (Za [41] hC (q:=(Zd h (fun h => ?_) (fun h => ?_))))))
 ·refine VW.seq (Za [4] hC (q:=?_))
  exact VW.ret (Zb h (by simp [eB43]))
 refine VW.skip (VW.seq (Za [4] hC (q:=?_)))
 exact VW.ret (Zb h (by simp [eB43]))
theorem tl43 {a : T32} {b : T32} {r : Bool} (h : g43 a b = some r) : F43 [.agg [.f .f32 a.burnt_,.f .f32 a.steam_,.f .f32 a.up_,.f .f32 a.lost_,.i .i64 a.smoky_],.agg [.f .f32 b.burnt_,.f .f32 b.steam_,.f .f32 b.up_,.f .f32 b.lost_,.i .i64 b.smoky_]] = some (.b r):=Zf inj43 (a:=(a,b)) h
def g10 (a : T34) (b : T34) : Option (Bool) :=
(g38 a.flat_ b.flat_).bind fun r1 =>
if (!r1) = true then
some false
else
(g39 a.chimney_ b.chimney_).bind fun r4 =>
if (!r4) = true then
some false
else
(g40 a.hearths_ b.hearths_).bind fun r7 =>
if (!r7) = true then
some false
else
(g41 a.sources_ b.sources_).bind fun r10 =>
if (!r10) = true then
some false
else
(g42 a.hours_ b.hours_).bind fun r13 =>
if (!r13) = true then
some false
else
if (!Yx a.tick_ b.tick_) = true then
some false
else
(g43 a.sums_ b.sums_).bind fun r17 =>
if (!r17) = true then
some false
else
some true
@[simp] def eA10 (a : T34 × T34) : List V:=[.agg (Yj a.1),.agg (Yj a.2)]
def eB10 (r : Bool) : V:=.b r
theorem inj10 (a a' : T34 × T34) (h : eA10 a = eA10 a') : a = a':=by simpa [eA10,Prod.ext_iff] using h
def F10 : List V→Option V:=tells (fun a => g10 a.1 a.2) eA10 eB10
theorem ok10 : Zz Tryz.prog 10 F10:=by
 refine Zg 46 Tryz.func10 ?_
 rintro ⟨a,b⟩ r h
 replace h : (g10 a b).bind some = some r:=h
 rw [g10] at h
 have hC : Qc.Ok Tryz.prog [(38,F38),(39,F39),(40,F40),(41,F41),(42,F42),(43,F43)]:=⟨.inl ok38,.inl ok39,.inl ok40,.inl ok41,.inl ok42,.inl ok43,trivial⟩
 refine VW.seq (Za [2,3] hC (q:=(VW.seq (VW.seq ?_))))
 obtain ⟨r1,q2,h⟩:=Zc h
 have c2:=tl38 q2
 refine Zj [2,3,10] hC (q:=(Zd h (fun h => ?_) (fun h => ?_)))
 ·refine VW.seq (Za [4] hC (q:=?_))
  exact VW.ret (Zb h (by simp [eB10]))
 refine VW.skip (VW.seq (VW.seq ?_))
 obtain ⟨r4,q5,h⟩:=Zc h
 have c5:=tl39 q5
 refine Zj [2,3,16] hC (q:=(Zd h (fun h => ?_) (fun h => ?_)))
 ·refine VW.seq (Za [4] hC (q:=?_))
  exact VW.ret (Zb h (by simp [eB10]))
 refine VW.skip (VW.seq (VW.seq ?_))
 obtain ⟨r7,q8,h⟩:=Zc h
 have c8:=tl40 q8
 refine Zj [2,3,22] hC (q:=(Zd h (fun h => ?_) (fun h => ?_)))
 ·refine VW.seq (Za [4] hC (q:=?_))
  exact VW.ret (Zb h (by simp [eB10]))
 refine VW.skip (VW.seq (VW.seq ?_))
 obtain ⟨r10,q11,h⟩:=Zc h
 have c11:=tl41 q11
 refine Zj [2,3,28] hC (q:=(Zd h (fun h => ?_) (fun h => ?_)))
 ·refine VW.seq (Za [4] hC (q:=?_))
  exact VW.ret (Zb h (by simp [eB10]))
 refine VW.skip (VW.seq (VW.seq ?_))
 obtain ⟨r13,q14,h⟩:=Zc h
 have c14:=tl42 q14
 refine Zj [2,3,34] hC (q:=(Zd h (fun h => ?_) (fun h => ?_)))
 ·refine VW.seq (Za [4] hC (q:=?_))
  exact VW.ret (Zb h (by simp [eB10]))
 refine VW.skip (VW.seq (VW.seq (Za [2,3,39] hC (q:=(Zd h (fun h => ?_) (fun h => ?_))))))
 ·refine VW.seq (Za [4] hC (q:=?_))
  exact VW.ret (Zb h (by simp [eB10]))
 refine VW.skip (VW.seq (VW.seq ?_))
 obtain ⟨r17,q18,h⟩:=Zc h
 have c18:=tl43 q18
 refine Zj [45] hC (q:=(Zd h (fun h => ?_) (fun h => ?_)))
 ·refine VW.seq (Za [4] hC (q:=?_))
  exact VW.ret (Zb h (by simp [eB10]))
 refine VW.skip (VW.seq (Za [4] hC (q:=?_)))
 exact VW.ret (Zb h (by simp [eB10]))
theorem tl10 {a : T34} {b : T34} {r : Bool} (h : g10 a b = some r) : F10 [.agg [.sl 1 (rows Zt a.flat_.heat_),.sl 1 (rows Zt a.flat_.store_),.sl 8 (rows Yv a.flat_.walls_),.sl 4 (rows Yw a.flat_.panes_),.sl 5 (rows Xw a.chimney_),.sl 9 (rows Wa a.hearths_),.sl 1 (rows Yu a.sources_),.sl 3 (rows Wq a.hours_),.i .i64 a.tick_,.f .f32 a.sums_.burnt_,.f .f32 a.sums_.steam_,.f .f32 a.sums_.up_,.f .f32 a.sums_.lost_,.i .i64 a.sums_.smoky_],.agg [.sl 1 (rows Zt b.flat_.heat_),.sl 1 (rows Zt b.flat_.store_),.sl 8 (rows Yv b.flat_.walls_),.sl 4 (rows Yw b.flat_.panes_),.sl 5 (rows Xw b.chimney_),.sl 9 (rows Wa b.hearths_),.sl 1 (rows Yu b.sources_),.sl 3 (rows Wq b.hours_),.i .i64 b.tick_,.f .f32 b.sums_.burnt_,.f .f32 b.sums_.steam_,.f .f32 b.sums_.up_,.f .f32 b.sums_.lost_,.i .i64 b.sums_.smoky_]] = some (.b r):=Zf inj10 (a:=(a,b)) h
def g91_j1 (a : T148) : Option (F32) :=
some (Ws .f32 (Ws .f32 (Ws .f32 (Ws .f32 (Ws .f32 a.a0_ a.a1_) a.a2_) a.a3_) a.a4_) a.a5_)
def g91 (a : T148) : Option (F32) :=
g91_j1 a
@[simp] def eA91 (a : T148) : List V:=[.cptr (Yt a) 0]
def eB91 (r : F32) : V:=.f .f32 r
theorem inj91 (a a' : T148) (h : eA91 a = eA91 a') : a = a':=by simpa [eA91,Prod.ext_iff] using h
def F91 : List V→Option V:=tells (fun a => g91 a) eA91 eB91
theorem ok91 : Zz Tryz.prog 91 F91:=by
 refine Zg 21 Tryz.func91 ?_
 rintro a r h
 rw [g91] at h
 have hC : Qc.Ok Tryz.prog []:=trivial
 refine VW.seq (Za [0] hC (q:=(VW.seq (Za [0,3] hC (q:=(VW.join (fun (v : Unit) => (⟨(tm 21 [(3,.f .f32 (Ws .f32 (Ws .f32 (Ws .f32 (Ws .f32 (Ws .f32 a.a0_ a.a1_) a.a2_) a.a3_) a.a4_) a.a5_))]),[],[]⟩ : VS)) (fun v => (g91_j1 a).bind some = some r) ?_ ?_))))))
 ·exact VW.seq (Za [0,3,4] hC (q:=(VW.block (VW.rounds 7 (VRounds.step (VW.seq (VW.seq (Za [0,3,4,10] hC (h:=by simp -implicitDefEqProofs [(by decide : Zo 1 6 = true)]; exact .rfl) (q:=(Ye (by simp) (VW.skip (VW.seq (VW.block (Za [0,3,4] hC (q:=(Za [0,3,4] hC (h:=by simp -implicitDefEqProofs [(by decide : aI .i64 1 1 = 2)]; exact .rfl) (q:=(VRounds.step (VW.seq (VW.seq (Za [0,3,4,10] hC (h:=by simp -implicitDefEqProofs [(by decide : Zo 2 6 = true)]; exact .rfl) (q:=(Ye (by simp) (VW.skip (VW.seq (VW.block (Za [0,3,4] hC (q:=(Za [0,3,4] hC (h:=by simp -implicitDefEqProofs [(by decide : aI .i64 2 1 = 3)]; exact .rfl) (q:=(VRounds.step (VW.seq (VW.seq (Za [0,3,4,10] hC (h:=by simp -implicitDefEqProofs [(by decide : Zo 3 6 = true)]; exact .rfl) (q:=(Ye (by simp) (VW.skip (VW.seq (VW.block (Za [0,3,4] hC (q:=(Za [0,3,4] hC (h:=by simp -implicitDefEqProofs [(by decide : aI .i64 3 1 = 4)]; exact .rfl) (q:=(VRounds.step (VW.seq (VW.seq (Za [0,3,4,10] hC (h:=by simp -implicitDefEqProofs [(by decide : Zo 4 6 = true)]; exact .rfl) (q:=(Ye (by simp) (VW.skip (VW.seq (VW.block (Za [0,3,4] hC (q:=(Za [0,3,4] hC (h:=by simp -implicitDefEqProofs [(by decide : aI .i64 4 1 = 5)]; exact .rfl) (q:=(VRounds.step (VW.seq (VW.seq (Za [0,3,4,10] hC (h:=by simp -implicitDefEqProofs [(by decide : Zo 5 6 = true)]; exact .rfl) (q:=(Ye (by simp) (VW.skip (VW.seq (VW.block (Za [0,3,4] hC (q:=(Za [0,3,4] hC (h:=by simp -implicitDefEqProofs [(by decide : aI .i64 5 1 = 6)]; exact .rfl) (q:=(VRounds.step (VW.seq (VW.seq (Za [0,3,4,10] hC (h:=by simp -implicitDefEqProofs [(by decide : Zo 6 6 = false)]; exact .rfl) (q:=(Qj (by simp) (VW.exit (Zn () h (Ze 0))))))))))))))))))))))))))))))))))))))))))))))))))))))))))))))))))))))))))))))
 rintro _ h
 replace h : (g91_j1 a).bind _ = _:=h
 rw [g91_j1] at h
 refine VW.seq (Za [2] hC (q:=?_))
 exact VW.ret (Zb h (by simp [eB91]))
theorem tl91 {a : T148} {r : F32} (h : g91 a = some r) : F91 [.cptr [.f .f32 a.a0_,.f .f32 a.a1_,.f .f32 a.a2_,.f .f32 a.a3_,.f .f32 a.a4_,.f .f32 a.a5_] 0] = some (.f .f32 r):=Zf inj91 (a:=a) h
def g46_j1 (sum_23 : F32) : Option (F32 × Int) :=
some (sum_23,0)
def g46_L1 (s : T85) : (F32 × Int)→Option ((F32 × Int) ⊕ (F32))
| (sum_36,i_37) =>
if Zo i_37 (s.logs_.length : Int) = true then
(Wp s.logs_ i_37).bind fun e39 =>
(g91 e39.fuel_).bind fun r41 =>
some (.inl (Ws .f32 sum_36 r41,aI .i64 i_37 1))
else
some (.inr sum_36)
def g46 (s : T85) : Option (F32 × Int) :=
(g90 s).bind fun r1 =>
if (!r1) = true then
some ((some 0),1)
else
(loopO (g46_L1 s) ((some 0),0)).bind fun w => g46_j1 w
@[simp] def eA46 (a : T85) : List V:=[.agg (Xx a)]
def eB46 (r : F32 × Int) : V:=.tup [.f .f32 r.1,.i .i64 r.2]
theorem inj46 (a a' : T85) (h : eA46 a = eA46 a') : a = a':=by simpa [eA46,Prod.ext_iff] using h
def F46 : List V→Option V:=tells (fun a => g46 a) eA46 eB46
theorem ok46 : Zz Tryz.prog 46 F46:=by
 refine Zg 24 Tryz.func46 ?_
 rintro s r h
 rw [g46] at h
 have hC : Qc.Ok Tryz.prog [(90,F90),(91,F91)]:=⟨.inl ok90,.inl ok91,trivial⟩
 refine VW.seq (Za [1] hC (q:=(VW.seq (VW.seq ?_))))
 obtain ⟨r1,q2,h⟩:=Zc h
 have c2 : F90 [.cptr (Xx s) 0] = some (.b r1):=Zf inj90 (a:=s) q2
 refine Zj [1,7] hC (q:=(Zd h (fun h => ?_) (fun h => ?_)))
 ·refine VW.seq (Za [2,3] hC (q:=?_))
  exact VW.ret (Zb h (by simp [eB46]))
 refine VW.skip (VW.seq (Za [1,4] hC (q:=(VW.join (fun (v : F32) => (⟨(tm 24 [(4,.f .f32 v)]),[some (6,[(Xx s)])],[]⟩ : VS)) (fun v => (g46_j1 (v)).bind some = some r) ?_ ?_))))
 ·refine VW.seq (Za [1,4,5] hC (q:=VW.block ?_))
  obtain ⟨w_1,hw_1,h⟩:=Zc h
  refine VW.loopO (fun (x : F32 × Int) => (⟨(tm 24 [(1,.ptr 0 0 0),(4,.f .f32 x.1),(5,.i .i64 x.2)]),[some (6,[(Xx s)])],[]⟩ : VS)) hw_1 (Ze 1) ?_
  rintro n_1 ⟨sum_36,i_37⟩ h1
  rw [g46_L1] at h1
  refine VW.seq (VW.seq (Za [1,4,5,12] hC (q:=(Zk h1 (fun h1 => ?_) (fun h1 => ?_)))))
  ·refine VW.exit ?_
   have e_:=Yd h1
   subst w_1
   exact Zn sum_36 h (Ze 1)
  refine VW.skip (VW.seq (VW.block ?_))
  obtain ⟨e39,⟨f40a,f40b,f40c,f40d⟩,h1⟩:=Ys h1
  obtain ⟨r41,q42,h1⟩:=Zc h1
  have c42:=tl91 q42
  exact Zj [1,4,5] hC (q:=(Za [1,4,5] hC (q:=(Zn (Ws .f32 sum_36 r41,aI .i64 i_37 1) (Yr h1) (Ze 1)))))
 rintro sum_23 h
 replace h : (g46_j1 sum_23).bind _ = _:=h
 rw [g46_j1] at h
 refine VW.seq (Za [2,3] hC (q:=?_))
 exact VW.ret (Zb h (by simp [eB46]))
theorem tl46 {s : T85} {r : F32 × Int} (h : g46 s = some r) : F46 [.agg [.sl 18 (rows Yk s.logs_),.f .f32 s.box_,.f .f32 s.damper_,.i .i8 s.state_,.i .i64 s.ash_,.f .f32 s.dust_]] = some (.tup [.f .f32 r.1,.i .i64 r.2]):=Zf inj46 (a:=s) h
def g47 (a : F32) : Option (F32 × Int) :=
(g92 a).bind fun r1 =>
if (!r1) = true then
some ((some 0),4)
else
some (a,0)
@[simp] def eA47 (a : F32) : List V:=[.f .f32 a]
def eB47 (r : F32 × Int) : V:=.tup [.f .f32 r.1,.i .i64 r.2]
theorem inj47 (a a' : F32) (h : eA47 a = eA47 a') : a = a':=by simpa [eA47,Prod.ext_iff] using h
def F47 : List V→Option V:=tells (fun a => g47 a) eA47 eB47
theorem ok47 : Zz Tryz.prog 47 F47:=by
 refine Zg 8 Tryz.func47 ?_
 rintro a r h
 rw [g47] at h
 have hC : Qc.Ok Tryz.prog [(92,F92)]:=⟨.inl ok92,trivial⟩
 refine VW.seq (Za [0] hC (q:=(VW.seq (VW.seq ?_))))
 obtain ⟨r1,q2,h⟩:=Zc h
 have c2:=tl92 q2
 refine Zj [0,6] hC (q:=(Zd h (fun h => ?_) (fun h => ?_)))
 ·refine VW.seq (Za [2,3] hC (q:=?_))
  exact VW.ret (Zb h (by simp [eB47]))
 refine VW.skip (VW.seq (Za [2,3] hC (q:=?_)))
 exact VW.ret (Zb h (by simp [eB47]))
theorem tl47 {a : F32} {r : F32 × Int} (h : g47 a = some r) : F47 [.f .f32 a] = some (.tup [.f .f32 r.1,.i .i64 r.2]):=Zf inj47 (a:=a) h
def g14_j1 (sum_26 : F32) : Option (F32 × Int) :=
(g47 sum_26).bind fun r27 =>
some (r27.1,r27.2)
def g14_L1 (h_ : T34) : (F32 × Int)→Option ((F32 × Int) ⊕ ((F32) ⊕ (F32 × Int)))
| (sum_43,i_44) =>
if Zo i_44 (h_.hearths_.length : Int) = true then
(Wp h_.hearths_ i_44).bind fun e46 =>
(g46 e46.stove_).bind fun r48 =>
if (!Yx r48.2 0) = true then
some (.inr (.inr ((some 0),r48.2)))
else
some (.inl (Ws .f32 sum_43 r48.1,aI .i64 i_44 1))
else
some (.inr (.inl sum_43))
def g14 (h_ : T34) : Option (F32 × Int) :=
(g22 h_).bind fun r1 =>
if (!r1) = true then
some ((some 0),1)
else
(loopO (g14_L1 h_) ((some 0),0)).bind fun w => match w with
| .inl y => g14_j1 y
| .inr r => some r
@[simp] def eA14 (a : T34) : List V:=[.agg (Yj a)]
def eB14 (r : F32 × Int) : V:=.tup [.f .f32 r.1,.i .i64 r.2]
theorem inj14 (a a' : T34) (h : eA14 a = eA14 a') : a = a':=by simpa [eA14,Prod.ext_iff] using h
def F14 : List V→Option V:=tells (fun a => g14 a) eA14 eB14
theorem ok14 : Zz Tryz.prog 14 F14:=by
 refine Zg 37 Tryz.func14 ?_
 rintro h_ r h
 rw [g14] at h
 have hC : Qc.Ok Tryz.prog [(22,F22),(46,F46),(47,F47)]:=⟨.inl ok22,.inl ok46,.inl ok47,trivial⟩
 refine VW.seq (Za [1] hC (q:=(VW.seq (VW.seq ?_))))
 obtain ⟨r1,q2,h⟩:=Zc h
 have c2 : F22 [.cptr (Yj h_) 0] = some (.b r1):=Zf inj22 (a:=h_) q2
 refine Zj [1,9] hC (q:=(Zd h (fun h => ?_) (fun h => ?_)))
 ·refine VW.seq (Za [2,3] hC (q:=?_))
  exact VW.ret (Zb h (by simp [eB14]))
 refine VW.skip (VW.seq (Za [1,4] hC (q:=(VW.join (fun (v : F32) => (⟨(tm 37 [(4,.f .f32 v)]),[some (14,[(Yj h_)])],[]⟩ : VS)) (fun v => (g14_j1 (v)).bind some = some r) ?_ ?_))))
 ·refine VW.seq (Za [1,4,5] hC (q:=VW.block ?_))
  obtain ⟨w_1,hw_1,h⟩:=Zc h
  refine VW.loopO (fun (x : F32 × Int) => (⟨(tm 37 [(1,.ptr 0 0 0),(4,.f .f32 x.1),(5,.i .i64 x.2)]),[some (14,[(Yj h_)])],[]⟩ : VS)) hw_1 (Ze 1) ?_
  rintro n_1 ⟨sum_43,i_44⟩ h1
  rw [g14_L1] at h1
  refine VW.seq (VW.seq (Za [1,4,5,14] hC (q:=(Zk h1 (fun h1 => ?_) (fun h1 => ?_)))))
  ·refine VW.exit ?_
   have e_:=Yd h1
   subst w_1
   exact Zn sum_43 h (Ze 1)
  refine VW.skip (VW.seq (VW.block (VW.seq ?_)))
  obtain ⟨e46,⟨f47a,f47b,f47c,f47d⟩,h1⟩:=Ys h1
  obtain ⟨r48,q49,h1⟩:=Zc h1
  have c49:=tl46 q49
  refine Zj [1,4,5,6,7] hC (q:=(VW.seq (VW.seq (Za [1,4,5,6,7,28] hC (q:=(Zd h1 (fun h1 => ?_) (fun h1 => ?_)))))))
  ·refine VW.seq (Za [2,3] hC (q:=?_))
   have e_:=Yd h1
   subst w_1
   exact VW.ret (Zb h (by simp [eB14]))
  exact VW.skip (Za [1,4,5] hC (q:=(Za [1,4,5] hC (q:=(Zn (Ws .f32 sum_43 r48.1,aI .i64 i_44 1) (Yr h1) (Ze 1))))))
 rintro sum_26 h
 replace h : (g14_j1 sum_26).bind _ = _:=h
 rw [g14_j1] at h
 refine VW.seq ?_
 obtain ⟨r27,q28,h⟩:=Zc h
 have c28:=tl47 q28
 refine Zj [2,3] hC (q:=?_)
 exact VW.ret (Zb h (by simp [eB14]))
theorem tl14 {h_ : T34} {r : F32 × Int} (h : g14 h_ = some r) : F14 [.agg [.sl 1 (rows Zt h_.flat_.heat_),.sl 1 (rows Zt h_.flat_.store_),.sl 8 (rows Yv h_.flat_.walls_),.sl 4 (rows Yw h_.flat_.panes_),.sl 5 (rows Xw h_.chimney_),.sl 9 (rows Wa h_.hearths_),.sl 1 (rows Yu h_.sources_),.sl 3 (rows Wq h_.hours_),.i .i64 h_.tick_,.f .f32 h_.sums_.burnt_,.f .f32 h_.sums_.steam_,.f .f32 h_.sums_.up_,.f .f32 h_.sums_.lost_,.i .i64 h_.sums_.smoky_]] = some (.tup [.f .f32 r.1,.i .i64 r.2]):=Zf inj14 (a:=h_) h
def g93_j1 (out_18 : F32) : Option (F32) :=
some out_18
def g93_L1 (list : List F32) : (F32 × Int)→Option ((F32 × Int) ⊕ (F32))
| (out_29,x_30) =>
if Zo x_30 ((list.tail).length : Int) = true then
(Wp (list.tail) x_30).bind fun e32 =>
some (.inl (Ws .f32 out_29 e32,aI .i64 x_30 1))
else
some (.inr out_29)
def g93 (list : List F32) : Option (F32) :=
(Wp list 0).bind fun e1 =>
(Jw 1 (list.length : Int) list.length).bind fun u19 =>
(loopO (g93_L1 list) (e1,0)).bind fun w => g93_j1 w
@[simp] def eA93 (a : List F32) : List V:=[.sl 1 (rows Zt a)]
def eB93 (r : F32) : V:=.f .f32 r
theorem inj93 (a a' : List F32) (h : eA93 a = eA93 a') : a = a':=by simpa [eA93,Prod.ext_iff] using h
def F93 : List V→Option V:=tells (fun a => g93 a) eA93 eB93
theorem ok93 : Zz Tryz.prog 93 F93:=by
 refine Zg 21 Tryz.func93 ?_
 rintro list r h
 rw [g93] at h
 have hC : Qc.Ok Tryz.prog []:=trivial
 refine VW.seq (Za [0] hC (q:=VW.seq ?_))
 obtain ⟨e1,⟨f2a,f2b,f2c,f2d⟩,h⟩:=Ys h
 try simp only [Int.toNat_natCast,Int.reduceToNat] at f2a f2b f2c f2d
 refine Zj [0,3] hC (q:=(VW.join (fun (v : F32) => (⟨(tm 21 [(3,.f .f32 v)]),[],[]⟩ : VS)) (fun v => (g93_j1 (v)).bind some = some r) ?_ ?_))
 ·refine VW.seq ?_
  obtain ⟨u19,⟨f20a,f20b,f20c,f20d,f20e⟩,h⟩:=Gj h
  try simp only [Int.toNat_natCast,Int.reduceToNat,List.length_cons,List.length_nil,Nat.reduceAdd,Nat.zero_add] at f20a f20b f20c f20d f20e
  refine Zj [3,10,11,12] hC (q:=VW.block ?_)
  obtain ⟨w_1,hw_1,h⟩:=Zc h
  refine VW.loopO (fun (x : F32 × Int) => (⟨(tm 21 [(3,.f .f32 x.1),(10,.sl 1 (rows Zt (list.tail))),(11,.i .i64 ((list.tail).length : Int)),(12,.i .i64 x.2)]),[],[]⟩ : VS)) hw_1 (Ze 0) ?_
  rintro n_1 ⟨out_29,x_30⟩ h1
  rw [g93_L1] at h1
  refine VW.seq (Za [3,10,11,12,13] hC (q:=(VW.seq (Zk h1 (fun h1 => ?_) (fun h1 => ?_)))))
  ·refine VW.exit ?_
   have e_:=Yd h1
   subst w_1
   exact Zn out_29 h (Ze 0)
  refine VW.skip (VW.seq (VW.block (VW.seq ?_)))
  obtain ⟨e32,⟨f33a,f33b,f33c,f33d⟩,h1⟩:=Ys h1
  have f33s:=f33c
  try simp [f33a] at f33s
  have f33t:=f33b
  try simp [f33a] at f33t
  exact Zj [3,5,10,11,12] hC (q:=(Za [3,10,11,12] hC (q:=(Za [3,10,11,12] hC (q:=(Zn (Ws .f32 out_29 e32,aI .i64 x_30 1) (Yr h1) (Ze 0)))))))
 rintro out_18 h
 replace h : (g93_j1 out_18).bind _ = _:=h
 rw [g93_j1] at h
 refine VW.seq (Za [2] hC (q:=?_))
 exact VW.ret (Zb h (by simp [eB93]))
def g48_j1 (out_20 : F32) : Option (F32) :=
some out_20
def g48_L1 (s : T85) : (F32 × Int)→Option ((F32 × Int) ⊕ (F32))
| (out_33,x_34) =>
if Zo x_34 (s.logs_.length : Int) = true then
(Wp s.logs_ x_34).bind fun e36 =>
(g93 [e36.fuel_.a0_,e36.fuel_.a1_,e36.fuel_.a2_,e36.fuel_.a3_,e36.fuel_.a4_,e36.fuel_.a5_]).bind fun r38 =>
some (.inl (Ws .f32 out_33 r38,aI .i64 x_34 1))
else
some (.inr out_33)
def g48 (s : T85) : Option (F32) :=
(loopO (g48_L1 s) ((some 0),0)).bind fun w => g48_j1 w
@[simp] def eA48 (a : T85) : List V:=[.agg (Xx a)]
def eB48 (r : F32) : V:=.f .f32 r
theorem inj48 (a a' : T85) (h : eA48 a = eA48 a') : a = a':=by simpa [eA48,Prod.ext_iff] using h
def F48 : List V→Option V:=tells (fun a => g48 a) eA48 eB48
theorem ok48 : Zz Tryz.prog 48 F48:=by
 refine Zg 20 Tryz.func48 ?_
 rintro s r h
 rw [g48] at h
 have hC : Qc.Ok Tryz.prog [(93,F93)]:=⟨.inl ok93,trivial⟩
 refine VW.seq (Za [1] hC (q:=(VW.seq (Za [1,3] hC (q:=(VW.join (fun (v : F32) => (⟨(tm 20 [(3,.f .f32 v)]),[some (6,[(Xx s)])],[]⟩ : VS)) (fun v => (g48_j1 (v)).bind some = some r) ?_ ?_))))))
 ·refine VW.seq (Za [3,7,8,9] hC (q:=VW.block ?_))
  obtain ⟨w_1,hw_1,h⟩:=Zc h
  refine VW.loopO (fun (x : F32 × Int) => (⟨(tm 20 [(3,.f .f32 x.1),(7,.sl 18 (rows Yk s.logs_)),(8,.i .i64 (s.logs_.length : Int)),(9,.i .i64 x.2)]),[some (6,[(Xx s)])],[]⟩ : VS)) hw_1 (Ze 1) ?_
  rintro n_1 ⟨out_33,x_34⟩ h1
  rw [g48_L1] at h1
  refine VW.seq (Za [3,7,8,9,10] hC (q:=(VW.seq (Zk h1 (fun h1 => ?_) (fun h1 => ?_)))))
  ·refine VW.exit ?_
   have e_:=Yd h1
   subst w_1
   exact Zn out_33 h (Ze 1)
  refine VW.skip (VW.seq (VW.block (VW.seq ?_)))
  obtain ⟨e36,⟨f37a,f37b,f37c,f37d⟩,h1⟩:=Ys h1
  refine Zj [3,5,7,8,9] hC (q:=?_)
  obtain ⟨r38,q39,h1⟩:=Zc h1
  have c39 : F93 [.sl 1 [[.f .f32 e36.fuel_.a0_],[.f .f32 e36.fuel_.a1_],[.f .f32 e36.fuel_.a2_],[.f .f32 e36.fuel_.a3_],[.f .f32 e36.fuel_.a4_],[.f .f32 e36.fuel_.a5_]]] = some (.f .f32 r38):=Zf inj93 (a:=[e36.fuel_.a0_,e36.fuel_.a1_,e36.fuel_.a2_,e36.fuel_.a3_,e36.fuel_.a4_,e36.fuel_.a5_]) q39
  exact Zj [3,7,8,9] hC (q:=(Za [3,7,8,9] hC (q:=(Zn (Ws .f32 out_33 r38,aI .i64 x_34 1) (Yr h1) (Ze 1)))))
 rintro out_20 h
 replace h : (g48_j1 out_20).bind _ = _:=h
 rw [g48_j1] at h
 refine VW.seq (Za [2] hC (q:=?_))
 exact VW.ret (Zb h (by simp [eB48]))
theorem tl48 {s : T85} {r : F32} (h : g48 s = some r) : F48 [.agg [.sl 18 (rows Yk s.logs_),.f .f32 s.box_,.f .f32 s.damper_,.i .i8 s.state_,.i .i64 s.ash_,.f .f32 s.dust_]] = some (.f .f32 r):=Zf inj48 (a:=s) h
def g15_j1 (out_23 : F32) : Option (F32 × Int) :=
some (out_23,0)
def g15_L1 (h_ : T34) : (F32 × Int)→Option ((F32 × Int) ⊕ (F32))
| (out_36,x_37) =>
if Zo x_37 (h_.hearths_.length : Int) = true then
(Wp h_.hearths_ x_37).bind fun e39 =>
(g48 e39.stove_).bind fun r41 =>
some (.inl (Ws .f32 out_36 r41,aI .i64 x_37 1))
else
some (.inr out_36)
def g15 (h_ : T34) : Option (F32 × Int) :=
(g9 h_).bind fun r1 =>
if (!r1) = true then
some ((some 0),1)
else
(loopO (g15_L1 h_) ((some 0),0)).bind fun w => g15_j1 w
@[simp] def eA15 (a : T34) : List V:=[.agg (Yj a)]
def eB15 (r : F32 × Int) : V:=.tup [.f .f32 r.1,.i .i64 r.2]
theorem inj15 (a a' : T34) (h : eA15 a = eA15 a') : a = a':=by simpa [eA15,Prod.ext_iff] using h
def F15 : List V→Option V:=tells (fun a => g15 a) eA15 eB15
theorem ok15 : Zz Tryz.prog 15 F15:=by
 refine Zg 24 Tryz.func15 ?_
 rintro h_ r h
 rw [g15] at h
 have hC : Qc.Ok Tryz.prog [(9,F9),(48,F48)]:=⟨.inl ok9,.inl ok48,trivial⟩
 refine VW.seq (Za [1] hC (q:=(VW.seq (VW.seq ?_))))
 obtain ⟨r1,q2,h⟩:=Zc h
 have c2 : F9 [.agg (Yj h_)] = some (.b r1):=Zf inj9 (a:=h_) q2
 refine Zj [1,9] hC (q:=(Zd h (fun h => ?_) (fun h => ?_)))
 ·refine VW.seq (Za [2,3] hC (q:=?_))
  exact VW.ret (Zb h (by simp [eB15]))
 refine VW.skip (VW.seq (Za [1,4] hC (q:=(VW.join (fun (v : F32) => (⟨(tm 24 [(4,.f .f32 v)]),[some (14,[(Yj h_)])],[]⟩ : VS)) (fun v => (g15_j1 (v)).bind some = some r) ?_ ?_))))
 ·refine VW.seq (Za [4,11,12,13] hC (q:=VW.block ?_))
  obtain ⟨w_1,hw_1,h⟩:=Zc h
  refine VW.loopO (fun (x : F32 × Int) => (⟨(tm 24 [(4,.f .f32 x.1),(11,.sl 9 (rows Wa h_.hearths_)),(12,.i .i64 (h_.hearths_.length : Int)),(13,.i .i64 x.2)]),[some (14,[(Yj h_)])],[]⟩ : VS)) hw_1 (Ze 1) ?_
  rintro n_1 ⟨out_36,x_37⟩ h1
  rw [g15_L1] at h1
  refine VW.seq (Za [4,11,12,13,14] hC (q:=(VW.seq (Zk h1 (fun h1 => ?_) (fun h1 => ?_)))))
  ·refine VW.exit ?_
   have e_:=Yd h1
   subst w_1
   exact Zn out_36 h (Ze 1)
  refine VW.skip (VW.seq (VW.block (VW.seq ?_)))
  obtain ⟨e39,⟨f40a,f40b,f40c,f40d⟩,h1⟩:=Ys h1
  refine Zj [4,6,11,12,13] hC (q:=?_)
  obtain ⟨r41,q42,h1⟩:=Zc h1
  have c42:=tl48 q42
  exact Zj [4,11,12,13] hC (q:=(Za [4,11,12,13] hC (q:=(Zn (Ws .f32 out_36 r41,aI .i64 x_37 1) (Yr h1) (Ze 1)))))
 rintro out_23 h
 replace h : (g15_j1 out_23).bind _ = _:=h
 rw [g15_j1] at h
 refine VW.seq (Za [2,3] hC (q:=?_))
 exact VW.ret (Zb h (by simp [eB15]))
theorem tl15 {h_ : T34} {r : F32 × Int} (h : g15 h_ = some r) : F15 [.agg [.sl 1 (rows Zt h_.flat_.heat_),.sl 1 (rows Zt h_.flat_.store_),.sl 8 (rows Yv h_.flat_.walls_),.sl 4 (rows Yw h_.flat_.panes_),.sl 5 (rows Xw h_.chimney_),.sl 9 (rows Wa h_.hearths_),.sl 1 (rows Yu h_.sources_),.sl 3 (rows Wq h_.hours_),.i .i64 h_.tick_,.f .f32 h_.sums_.burnt_,.f .f32 h_.sums_.steam_,.f .f32 h_.sums_.up_,.f .f32 h_.sums_.lost_,.i .i64 h_.sums_.smoky_]] = some (.tup [.f .f32 r.1,.i .i64 r.2]):=Zf inj15 (a:=h_) h
def g5 (aH : T34) : Option (Bool) :=
(g6 aH 1048576).bind fun r1 =>
if Zo r1 0 = true then
some true
else
(g8 aH).bind fun r4 =>
(g14 r4).bind fun r6 =>
(g8 aH).bind fun r8 =>
(g15 r8).bind fun r10 =>
(g16 (Xm r10.1) (Xm r6.1)).bind fun r12 =>
if ((!r12) || (!Yx r10.2 r6.2)) = true then
some false
else
(g8 aH).bind fun r15 =>
(g10 r8 r15).bind fun r17 =>
if (!r17) = true then
some false
else
some true
@[simp] def eA5 (a : T34) : List V:=[.agg (Yj a)]
def eB5 (r : Bool) : V:=.b r
theorem inj5 (a a' : T34) (h : eA5 a = eA5 a') : a = a':=by simpa [eA5,Prod.ext_iff] using h
def F5 : List V→Option V:=tells (fun a => g5 a) eA5 eB5
theorem ok5 : Zz Tryz.prog 5 F5:=by
 refine Zg 43 Tryz.func5 ?_
 rintro aH r h
 rw [g5] at h
 have hC : Qc.Ok Tryz.prog [(6,F6),(8,F8),(10,F10),(14,F14),(15,F15),(16,F16)]:=⟨.inl ok6,.inl ok8,.inl ok10,.inl ok14,.inl ok15,.inl ok16,trivial⟩
 refine VW.seq (Za [1] hC (q:=(VW.seq (Za [1,3] hC (q:=VW.seq ?_)))))
 obtain ⟨r1,q2,h⟩:=Zc h
 have c2 : F6 [.agg (Yj aH),.i .i64 1048576] = some (.i .i64 r1):=Zf inj6 (a:=(aH,1048576)) q2
 refine Za [1,3] hC (h:=by simp -implicitDefEqProofs [c2]; exact .rfl) (q:=(VW.seq (VW.seq (Za [1,13] hC (q:=(Zd h (fun h => ?_) (fun h => ?_)))))))
 ·refine VW.seq (Za [2] hC (q:=?_))
  exact VW.ret (Zb h (by simp [eB5]))
 refine VW.skip (VW.seq ?_)
 obtain ⟨r4,q5,h⟩:=Zc h
 have c5 : F8 [.agg (Yj aH)] = some (.agg [.own 1 (rows Zt r4.flat_.heat_),.own 1 (rows Zt r4.flat_.store_),.own 8 (rows Yv r4.flat_.walls_),.own 4 (rows Yw r4.flat_.panes_),.own 5 (rows Xw r4.chimney_),.own 9 (rows Ub r4.hearths_),.own 1 (rows Yu r4.sources_),.own 3 (rows Wq r4.hours_),.i .i64 r4.tick_,.f .f32 r4.sums_.burnt_,.f .f32 r4.sums_.steam_,.f .f32 r4.sums_.up_,.f .f32 r4.sums_.lost_,.i .i64 r4.sums_.smoky_]):=Zf inj8 (a:=aH) q5
 obtain ⟨r6,q7,h⟩:=Zc h
 have c7:=tl14 q7
 refine Za [1,4,5] hC (h:=by simp -implicitDefEqProofs [c5,c7]; exact .rfl) (q:=VW.seq ?_)
 obtain ⟨r8,q9,h⟩:=Zc h
 have c9 : F8 [.agg (Yj aH)] = some (.agg [.own 1 (rows Zt r8.flat_.heat_),.own 1 (rows Zt r8.flat_.store_),.own 8 (rows Yv r8.flat_.walls_),.own 4 (rows Yw r8.flat_.panes_),.own 5 (rows Xw r8.chimney_),.own 9 (rows Ub r8.hearths_),.own 1 (rows Yu r8.sources_),.own 3 (rows Wq r8.hours_),.i .i64 r8.tick_,.f .f32 r8.sums_.burnt_,.f .f32 r8.sums_.steam_,.f .f32 r8.sums_.up_,.f .f32 r8.sums_.lost_,.i .i64 r8.sums_.smoky_]):=Zf inj8 (a:=aH) q9
 refine Za [1,4,5,6] hC (h:=by simp -implicitDefEqProofs [c9]; exact .rfl) (q:=VW.seq ?_)
 obtain ⟨r10,q11,h⟩:=Zc h
 have c11:=tl15 q11
 refine Za [1,4,5,6,7,8] hC (h:=by simp -implicitDefEqProofs [c11]; exact .rfl) (q:=(VW.seq (VW.seq ?_)))
 obtain ⟨r12,q13,h⟩:=Zc h
 have c13:=tl16 q13
 refine Za [1,6,37] hC (h:=by simp -implicitDefEqProofs [c13]; exact .rfl) (q:=(Zd h (fun h => ?_) (fun h => ?_)))
 ·refine VW.seq (Za [2] hC (q:=?_))
  exact VW.ret (Zb h (by simp [eB5]))
 refine VW.skip (VW.seq (VW.seq ?_))
 obtain ⟨r15,q16,h⟩:=Zc h
 have c16 : F8 [.agg (Yj aH)] = some (.agg [.own 1 (rows Zt r15.flat_.heat_),.own 1 (rows Zt r15.flat_.store_),.own 8 (rows Yv r15.flat_.walls_),.own 4 (rows Yw r15.flat_.panes_),.own 5 (rows Xw r15.chimney_),.own 9 (rows Ub r15.hearths_),.own 1 (rows Yu r15.sources_),.own 3 (rows Wq r15.hours_),.i .i64 r15.tick_,.f .f32 r15.sums_.burnt_,.f .f32 r15.sums_.steam_,.f .f32 r15.sums_.up_,.f .f32 r15.sums_.lost_,.i .i64 r15.sums_.smoky_]):=Zf inj8 (a:=aH) q16
 obtain ⟨r17,q18,h⟩:=Zc h
 have c18:=tl10 q18
 refine Wt [42] hC Wc (h:=by simp -implicitDefEqProofs [c16,c18]; exact .rfl) (q:=(Zd h (fun h => ?_) (fun h => ?_)))
 ·refine VW.seq (Za [2] hC (q:=?_))
  exact VW.ret (Zb h (by simp [eB5]))
 refine VW.skip (VW.seq (Za [2] hC (q:=?_)))
 exact VW.ret (Zb h (by simp [eB5]))
end
end Go.Proofs.YtloepppmjppddaaGreatDoor
