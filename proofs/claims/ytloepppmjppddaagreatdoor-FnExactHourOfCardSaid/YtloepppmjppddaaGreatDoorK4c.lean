/- Contracts of the functions that the law reaches: what each tells, as a function in Lean. -/
import Derived.Test.YtloepppmjppddaaGreatDoorK4b
import Derived.KernelRfl
namespace Go.Proofs.YtloepppmjppddaaGreatDoor
open Go.RowKit Go.VL
set_option linter.unusedSimpArgs false
set_option linter.unusedVariables false
set_option maxHeartbeats 40000000
set_option maxRecDepth 100000
noncomputable section
def g42_j1 : Option (Bool) :=
some true
def g42_L1 (a : List T51) (b : List T51) : (Int)→Option ((Int) ⊕ ((Unit) ⊕ (Bool)))
| i_45 =>
if Zq i_45 (a.length : Int) = true then
(Wt a i_45).bind fun e47 =>
(Wt b i_45).bind fun e49 =>
(g13 e47 e49).bind fun r51 =>
if (!r51) = true then
some (.inr (.inr false))
else
some (.inl (aI .i64 i_45 1))
else
some (.inr (.inl ()))
def g42 (a : List T51) (b : List T51) : Option (Bool) :=
if (!Yx (a.length : Int) (b.length : Int)) = true then
some false
else
(loopO (g42_L1 a b) 0).bind fun w => match w with
| .inl y => g42_j1
| .inr r => some r
@[simp] def eA42 (a : (List T51) × (List T51)) : List V:=[.sl 3 (rows Wp a.1),.sl 3 (rows Wp a.2)]
def eB42 (r : Bool) : V:=.b r
theorem inj42 (a a' : (List T51) × (List T51)) (h : eA42 a = eA42 a') : a = a':=by simpa [eA42,Prod.ext_iff] using h
def F42 : List V→Option V:=tells (fun a => g42 a.1 a.2) eA42 eB42
theorem ok42 : Zz Tryz.prog 42 F42:=by
 refine Zg 27 Tryz.func42 ?_
 rintro ⟨a,b⟩ r h
 replace h : (g42 a b).bind some = some r:=h
 rw [g42] at h
 have hC : Uy.Ok Tryz.prog [(13,F13)]:=⟨.inl ok13,trivial⟩
 refine VW.seq (Za [0,1] hC (q:=(VW.seq (VW.seq (Za [0,1,10] hC (q:=(Zd h (fun h => ?_) (fun h => ?_))))))))
 ·refine VW.seq (Za [4] hC (q:=?_))
  exact VW.ret (Zb h (by simp [eB42]))
 refine VW.skip (VW.join (fun (v : Unit) => (⟨(tm 27 []),[],[]⟩ : VS)) (fun v => (g42_j1).bind some = some r) ?_ ?_)
 ·refine VW.seq (Za [0,1,5] hC (q:=VW.block ?_))
  obtain ⟨w_1,hw_1,h⟩:=Zc h
  refine VW.loopO (fun (x : Int) => (⟨(tm 27 [(0,.sl 3 (rows Wp a)),(1,.sl 3 (rows Wp b)),(5,.i .i64 x)]),[],[]⟩ : VS)) hw_1 (Ze 0) ?_
  rintro n_1 i_45 h1
  rw [g42_L1] at h1
  refine VW.seq (VW.seq (Za [0,1,5,14] hC (q:=(Zm h1 (fun h1 => ?_) (fun h1 => ?_)))))
  ·refine VW.exit ?_
   have e_:=Yd h1
   subst w_1
   exact Zn () h (Ze 0)
  refine VW.skip (VW.seq (VW.block (VW.seq ?_)))
  obtain ⟨e47,⟨f48a,f48b,f48c,f48d⟩,h1⟩:=Ys h1
  obtain ⟨e49,⟨f50a,f50b,f50c,f50d⟩,h1⟩:=Ys h1
  obtain ⟨r51,q52,h1⟩:=Zc h1
  have c52:=tl13 q52
  refine Wr [0,1,5,26] hC Xy (h:=by simp -implicitDefEqProofs [f48a,f48b,f48c,f48d,f50a,f50b,f50c,f50d,c52]; exact .rfl) (q:=(Zd h1 (fun h1 => ?_) (fun h1 => ?_)))
  ·refine VW.seq (Za [4] hC (q:=?_))
   have e_:=Yd h1
   subst w_1
   exact VW.ret (Zb h (by simp [eB42]))
  exact VW.skip (Za [0,1,5] hC (q:=(Zn (aI .i64 i_45 1) (Yu h1) (Ze 0))))
 rintro _ h
 replace h : (g42_j1).bind _ = _:=h
 rw [g42_j1] at h
 refine VW.seq (Za [4] hC (q:=?_))
 exact VW.ret (Zb h (by simp [eB42]))
theorem tl42 {a : List T51} {b : List T51} {r : Bool} (h : g42 a b = some r) : F42 [.sl 3 (rows Wp a),.sl 3 (rows Wp b)] = some (.b r):=Zf inj42 (a:=(a,b)) h
def g43 (a : T32) (b : T32) : Option (Bool) :=
(g16 (Xn a.burnt_) (Xn b.burnt_)).bind fun r1 =>
if (!r1) = true then
some false
else
(g16 (Xn a.steam_) (Xn b.steam_)).bind fun r4 =>
if (!r4) = true then
some false
else
(g16 (Xn a.up_) (Xn b.up_)).bind fun r7 =>
if (!r7) = true then
some false
else
(g16 (Xn a.lost_) (Xn b.lost_)).bind fun r10 =>
if (!r10) = true then
some false
else
if (!Yx a.smoky_ b.smoky_) = true then
some false
else
some true
@[simp] def eA43 (a : T32 × T32) : List V:=[.agg (Xk a.1),.agg (Xk a.2)]
def eB43 (r : Bool) : V:=.b r
theorem inj43 (a a' : T32 × T32) (h : eA43 a = eA43 a') : a = a':=by simpa [eA43,Prod.ext_iff] using h
def F43 : List V→Option V:=tells (fun a => g43 a.1 a.2) eA43 eB43
theorem ok43 : Zz Tryz.prog 43 F43:=by
 refine Zg 42 Tryz.func43 ?_
 rintro ⟨a,b⟩ r h
 replace h : (g43 a b).bind some = some r:=h
 rw [g43] at h
 have hC : Uy.Ok Tryz.prog [(16,F16)]:=⟨.inl ok16,trivial⟩
 refine VW.seq (Za [2,3] hC (q:=(VW.seq (VW.seq ?_))))
 obtain ⟨r1,q2,h⟩:=Zc h
 have c2:=tl16 q2
 refine Zk [2,3,12] hC (q:=(Zd h (fun h => ?_) (fun h => ?_)))
 ·refine VW.seq (Za [4] hC (q:=?_))
  exact VW.ret (Zb h (by simp [eB43]))
 refine VW.skip (VW.seq (VW.seq ?_))
 obtain ⟨r4,q5,h⟩:=Zc h
 have c5:=tl16 q5
 refine Zk [2,3,20] hC (q:=(Zd h (fun h => ?_) (fun h => ?_)))
 ·refine VW.seq (Za [4] hC (q:=?_))
  exact VW.ret (Zb h (by simp [eB43]))
 refine VW.skip (VW.seq (VW.seq ?_))
 obtain ⟨r7,q8,h⟩:=Zc h
 have c8:=tl16 q8
 refine Zk [2,3,28] hC (q:=(Zd h (fun h => ?_) (fun h => ?_)))
 ·refine VW.seq (Za [4] hC (q:=?_))
  exact VW.ret (Zb h (by simp [eB43]))
 refine VW.skip (VW.seq (VW.seq ?_))
 obtain ⟨r10,q11,h⟩:=Zc h
 have c11:=tl16 q11
 refine Zk [2,3,36] hC (q:=(Zd h (fun h => ?_) (fun h => ?_)))
 ·refine VW.seq (Za [4] hC (q:=?_))
  exact VW.ret (Zb h (by simp [eB43]))
 refine VW.skip (VW.seq (VW.seq (Za [41] hC (q:=(Zd h (fun h => ?_) (fun h => ?_))))))
 ·refine VW.seq (Za [4] hC (q:=?_))
  exact VW.ret (Zb h (by simp [eB43]))
 refine VW.skip (VW.seq (Za [4] hC (q:=?_)))
 exact VW.ret (Zb h (by simp [eB43]))
theorem tl43 {a : T32} {b : T32} {r : Bool} (h : g43 a b = some r) : F43 [.agg [.f .f32 a.burnt_,.f .f32 a.steam_,.f .f32 a.up_,.f .f32 a.lost_,.i .i64 a.smoky_],.agg [.f .f32 b.burnt_,.f .f32 b.steam_,.f .f32 b.up_,.f .f32 b.lost_,.i .i64 b.smoky_]] = some (.b r):=Zf inj43 (a:=(a,b)) h
def g10 (a : T34) (b : T34) : Option (Bool) :=
(g38 a.flat_ b.flat_).bind fun r1 =>
if (!r1) = true then
some false
else
(g39 a.chimney_ b.chimney_).bind fun r4 =>
if (!r4) = true then
some false
else
(g40 a.hearths_ b.hearths_).bind fun r7 =>
if (!r7) = true then
some false
else
(g41 a.sources_ b.sources_).bind fun r10 =>
if (!r10) = true then
some false
else
(g42 a.hours_ b.hours_).bind fun r13 =>
if (!r13) = true then
some false
else
if (!Yx a.tick_ b.tick_) = true then
some false
else
(g43 a.sums_ b.sums_).bind fun r17 =>
if (!r17) = true then
some false
else
some true
@[simp] def eA10 (a : T34 × T34) : List V:=[.agg (Yi a.1),.agg (Yi a.2)]
def eB10 (r : Bool) : V:=.b r
theorem inj10 (a a' : T34 × T34) (h : eA10 a = eA10 a') : a = a':=by simpa [eA10,Prod.ext_iff] using h
def F10 : List V→Option V:=tells (fun a => g10 a.1 a.2) eA10 eB10
theorem ok10 : Zz Tryz.prog 10 F10:=by
 refine Zg 46 Tryz.func10 ?_
 rintro ⟨a,b⟩ r h
 replace h : (g10 a b).bind some = some r:=h
 rw [g10] at h
 have hC : Uy.Ok Tryz.prog [(38,F38),(39,F39),(40,F40),(41,F41),(42,F42),(43,F43)]:=⟨.inl ok38,.inl ok39,.inl ok40,.inl ok41,.inl ok42,.inl ok43,trivial⟩
 refine VW.seq (Za [2,3] hC (q:=(VW.seq (VW.seq ?_))))
 obtain ⟨r1,q2,h⟩:=Zc h
 have c2:=tl38 q2
 refine Zk [2,3,10] hC (q:=(Zd h (fun h => ?_) (fun h => ?_)))
 ·refine VW.seq (Za [4] hC (q:=?_))
  exact VW.ret (Zb h (by simp [eB10]))
 refine VW.skip (VW.seq (VW.seq ?_))
 obtain ⟨r4,q5,h⟩:=Zc h
 have c5:=tl39 q5
 refine Zk [2,3,16] hC (q:=(Zd h (fun h => ?_) (fun h => ?_)))
 ·refine VW.seq (Za [4] hC (q:=?_))
  exact VW.ret (Zb h (by simp [eB10]))
 refine VW.skip (VW.seq (VW.seq ?_))
 obtain ⟨r7,q8,h⟩:=Zc h
 have c8:=tl40 q8
 refine Zk [2,3,22] hC (q:=(Zd h (fun h => ?_) (fun h => ?_)))
 ·refine VW.seq (Za [4] hC (q:=?_))
  exact VW.ret (Zb h (by simp [eB10]))
 refine VW.skip (VW.seq (VW.seq ?_))
 obtain ⟨r10,q11,h⟩:=Zc h
 have c11:=tl41 q11
 refine Zk [2,3,28] hC (q:=(Zd h (fun h => ?_) (fun h => ?_)))
 ·refine VW.seq (Za [4] hC (q:=?_))
  exact VW.ret (Zb h (by simp [eB10]))
 refine VW.skip (VW.seq (VW.seq ?_))
 obtain ⟨r13,q14,h⟩:=Zc h
 have c14:=tl42 q14
 refine Zk [2,3,34] hC (q:=(Zd h (fun h => ?_) (fun h => ?_)))
 ·refine VW.seq (Za [4] hC (q:=?_))
  exact VW.ret (Zb h (by simp [eB10]))
 refine VW.skip (VW.seq (VW.seq (Za [2,3,39] hC (q:=(Zd h (fun h => ?_) (fun h => ?_))))))
 ·refine VW.seq (Za [4] hC (q:=?_))
  exact VW.ret (Zb h (by simp [eB10]))
 refine VW.skip (VW.seq (VW.seq ?_))
 obtain ⟨r17,q18,h⟩:=Zc h
 have c18:=tl43 q18
 refine Zk [45] hC (q:=(Zd h (fun h => ?_) (fun h => ?_)))
 ·refine VW.seq (Za [4] hC (q:=?_))
  exact VW.ret (Zb h (by simp [eB10]))
 refine VW.skip (VW.seq (Za [4] hC (q:=?_)))
 exact VW.ret (Zb h (by simp [eB10]))
theorem tl10 {a : T34} {b : T34} {r : Bool} (h : g10 a b = some r) : F10 [.agg [.sl 1 (rows Zv a.flat_.heat_),.sl 1 (rows Zv a.flat_.store_),.sl 8 (rows Yv a.flat_.walls_),.sl 4 (rows Yw a.flat_.panes_),.sl 5 (rows Xw a.chimney_),.sl 9 (rows Wb a.hearths_),.sl 1 (rows Yt a.sources_),.sl 3 (rows Wp a.hours_),.i .i64 a.tick_,.f .f32 a.sums_.burnt_,.f .f32 a.sums_.steam_,.f .f32 a.sums_.up_,.f .f32 a.sums_.lost_,.i .i64 a.sums_.smoky_],.agg [.sl 1 (rows Zv b.flat_.heat_),.sl 1 (rows Zv b.flat_.store_),.sl 8 (rows Yv b.flat_.walls_),.sl 4 (rows Yw b.flat_.panes_),.sl 5 (rows Xw b.chimney_),.sl 9 (rows Wb b.hearths_),.sl 1 (rows Yt b.sources_),.sl 3 (rows Wp b.hours_),.i .i64 b.tick_,.f .f32 b.sums_.burnt_,.f .f32 b.sums_.steam_,.f .f32 b.sums_.up_,.f .f32 b.sums_.lost_,.i .i64 b.sums_.smoky_]] = some (.b r):=Zf inj10 (a:=(a,b)) h
def g44 (h_ : T34) : Option (T51) :=
(rI .i64 h_.tick_ (h_.hours_.length : Int)).bind fun d1 =>
(Wt h_.hours_ d1).bind fun e3 =>
some e3
@[simp] def eA44 (a : T34) : List V:=[.cptr (Yi a) 0]
def eB44 (r : T51) : V:=.agg [.f .f32 r.outside_,.f .f32 r.sun_,.f .f32 r.wind_]
theorem inj44 (a a' : T34) (h : eA44 a = eA44 a') : a = a':=by simpa [eA44,Prod.ext_iff] using h
def F44 : List V→Option V:=tells (fun a => g44 a) eA44 eB44
theorem ok44 : Zz Tryz.prog 44 F44:=by
 refine Zg 19 Tryz.func44 ?_
 rintro h_ r h
 rw [g44] at h
 have hC : Uy.Ok Tryz.prog []:=trivial
 refine VW.seq (Za [0,2] hC (q:=VW.seq ?_))
 obtain ⟨d1,q2,h⟩:=Zc h
 obtain ⟨e3,⟨f4a,f4b,f4c,f4d⟩,h⟩:=Ys h
 refine VW.evalDLA (tm 19 [(2,.ptr 0 0 0)]) [some (3,[[.f .f32 e3.outside_,.f .f32 e3.sun_,.f .f32 e3.wind_]])] [] hC Xy (by kernel_rfl) (by simp -implicitDefEqProofs [q2,f4a,f4b,f4c,f4d]) ?_
 exact VW.ret (Zb h (by simp [eB44]))
def g11 (h_ : T34) : Option (T51 × Int) :=
(g22 h_).bind fun r1 =>
if (!r1) = true then
some ((⟨(some 0),(some 0),(some 0)⟩ : T51),1)
else
(g44 h_).bind fun r4 =>
some (r4,0)
@[simp] def eA11 (a : T34) : List V:=[.agg (Yi a)]
def eB11 (r : T51 × Int) : V:=.tup [.agg [.f .f32 r.1.outside_,.f .f32 r.1.sun_,.f .f32 r.1.wind_],.i .i64 r.2]
theorem inj11 (a a' : T34) (h : eA11 a = eA11 a') : a = a':=by simpa [eA11,Prod.ext_iff] using h
def F11 : List V→Option V:=tells (fun a => g11 a) eA11 eB11
theorem ok11 : Zz Tryz.prog 11 F11:=by
 refine Zg 8 Tryz.func11 ?_
 rintro h_ r h
 rw [g11] at h
 have hC : Uy.Ok Tryz.prog [(22,F22),(44,F44)]:=⟨.inl ok22,.inl ok44,trivial⟩
 refine VW.seq (Za [1,2] hC (q:=(VW.seq (VW.seq ?_))))
 obtain ⟨r1,q2,h⟩:=Zc h
 have c2 : F22 [.cptr (Yi h_) 0] = some (.b r1):=Zf inj22 (a:=h_) q2
 refine Zk [1,2,5] hC (q:=(Zd h (fun h => ?_) (fun h => ?_)))
 ·refine VW.seq (Za [2,3] hC (q:=?_))
  exact VW.ret (Zb h (by simp [eB11]))
 refine VW.skip (VW.seq ?_)
 obtain ⟨r4,q5,h⟩:=Zc h
 have c5 : F44 [.cptr (Yi h_) 0] = some (.agg [.f .f32 r4.outside_,.f .f32 r4.sun_,.f .f32 r4.wind_]):=Zf inj44 (a:=h_) q5
 refine Zk [2,3] hC (q:=?_)
 exact VW.ret (Zb h (by simp [eB11]))
theorem tl11 {h_ : T34} {r : T51 × Int} (h : g11 h_ = some r) : F11 [.agg [.sl 1 (rows Zv h_.flat_.heat_),.sl 1 (rows Zv h_.flat_.store_),.sl 8 (rows Yv h_.flat_.walls_),.sl 4 (rows Yw h_.flat_.panes_),.sl 5 (rows Xw h_.chimney_),.sl 9 (rows Wb h_.hearths_),.sl 1 (rows Yt h_.sources_),.sl 3 (rows Wp h_.hours_),.i .i64 h_.tick_,.f .f32 h_.sums_.burnt_,.f .f32 h_.sums_.steam_,.f .f32 h_.sums_.up_,.f .f32 h_.sums_.lost_,.i .i64 h_.sums_.smoky_]] = some (.tup [.agg [.f .f32 r.1.outside_,.f .f32 r.1.sun_,.f .f32 r.1.wind_],.i .i64 r.2]):=Zf inj11 (a:=h_) h
def g45 (h_ : T34) : Option (T51) :=
(rI .i64 h_.tick_ (h_.hours_.length : Int)).bind fun d1 =>
(Wt h_.hours_ d1).bind fun e3 =>
some e3
@[simp] def eA45 (a : T34) : List V:=[.agg (Yi a)]
def eB45 (r : T51) : V:=.agg [.f .f32 r.outside_,.f .f32 r.sun_,.f .f32 r.wind_]
theorem inj45 (a a' : T34) (h : eA45 a = eA45 a') : a = a':=by simpa [eA45,Prod.ext_iff] using h
def F45 : List V→Option V:=tells (fun a => g45 a) eA45 eB45
theorem ok45 : Zz Tryz.prog 45 F45:=by
 refine Zg 13 Tryz.func45 ?_
 rintro h_ r h
 rw [g45] at h
 have hC : Uy.Ok Tryz.prog []:=trivial
 refine VW.seq (Za [1,2] hC (q:=VW.seq ?_))
 obtain ⟨d1,q2,h⟩:=Zc h
 obtain ⟨e3,⟨f4a,f4b,f4c,f4d⟩,h⟩:=Ys h
 refine VW.evalDLA (tm 13 [(2,.ptr 1 0 0)]) [some (14,[(Yi h_)]),some (3,[[.f .f32 e3.outside_,.f .f32 e3.sun_,.f .f32 e3.wind_]])] [] hC Xy (by kernel_rfl) (by simp -implicitDefEqProofs [q2,f4a,f4b,f4c,f4d]) ?_
 exact VW.ret (Zb h (by simp [eB45]))
def g12 (h_ : T34) : Option (T51 × Int) :=
(g9 h_).bind fun r1 =>
if (!r1) = true then
some ((⟨(some 0),(some 0),(some 0)⟩ : T51),1)
else
(g45 h_).bind fun r4 =>
some (r4,0)
@[simp] def eA12 (a : T34) : List V:=[.agg (Yi a)]
def eB12 (r : T51 × Int) : V:=.tup [.agg [.f .f32 r.1.outside_,.f .f32 r.1.sun_,.f .f32 r.1.wind_],.i .i64 r.2]
theorem inj12 (a a' : T34) (h : eA12 a = eA12 a') : a = a':=by simpa [eA12,Prod.ext_iff] using h
def F12 : List V→Option V:=tells (fun a => g12 a) eA12 eB12
theorem ok12 : Zz Tryz.prog 12 F12:=by
 refine Zg 10 Tryz.func12 ?_
 rintro h_ r h
 rw [g12] at h
 have hC : Uy.Ok Tryz.prog [(9,F9),(45,F45)]:=⟨.inl ok9,.inl ok45,trivial⟩
 refine VW.seq (Za [1,2] hC (q:=(VW.seq (VW.seq ?_))))
 obtain ⟨r1,q2,h⟩:=Zc h
 have c2 : F9 [.agg (Yi h_)] = some (.b r1):=Zf inj9 (a:=h_) q2
 refine Zk [1,2,6] hC (q:=(Zd h (fun h => ?_) (fun h => ?_)))
 ·refine VW.seq (Za [2,3] hC (q:=?_))
  exact VW.ret (Zb h (by simp [eB12]))
 refine VW.skip (VW.seq ?_)
 obtain ⟨r4,q5,h⟩:=Zc h
 have c5 : F45 [.agg (Yi h_)] = some (.agg [.f .f32 r4.outside_,.f .f32 r4.sun_,.f .f32 r4.wind_]):=Zf inj45 (a:=h_) q5
 refine Zk [2,3] hC (q:=?_)
 exact VW.ret (Zb h (by simp [eB12]))
theorem tl12 {h_ : T34} {r : T51 × Int} (h : g12 h_ = some r) : F12 [.agg [.sl 1 (rows Zv h_.flat_.heat_),.sl 1 (rows Zv h_.flat_.store_),.sl 8 (rows Yv h_.flat_.walls_),.sl 4 (rows Yw h_.flat_.panes_),.sl 5 (rows Xw h_.chimney_),.sl 9 (rows Wb h_.hearths_),.sl 1 (rows Yt h_.sources_),.sl 3 (rows Wp h_.hours_),.i .i64 h_.tick_,.f .f32 h_.sums_.burnt_,.f .f32 h_.sums_.steam_,.f .f32 h_.sums_.up_,.f .f32 h_.sums_.lost_,.i .i64 h_.sums_.smoky_]] = some (.tup [.agg [.f .f32 r.1.outside_,.f .f32 r.1.sun_,.f .f32 r.1.wind_],.i .i64 r.2]):=Zf inj12 (a:=h_) h
def g4 (aH : T34) : Option (Bool) :=
(g6 aH 1048576).bind fun r1 =>
if Zq r1 0 = true then
some true
else
(g8 aH).bind fun r4 =>
(g11 r4).bind fun r6 =>
(g8 aH).bind fun r8 =>
(g12 r8).bind fun r10 =>
(g13 r10.1 r6.1).bind fun r12 =>
if ((!r12) || (!Yx r10.2 r6.2)) = true then
some false
else
(g8 aH).bind fun r15 =>
(g10 r8 r15).bind fun r17 =>
if (!r17) = true then
some false
else
some true
@[simp] def eA4 (a : T34) : List V:=[.agg (Yi a)]
def eB4 (r : Bool) : V:=.b r
theorem inj4 (a a' : T34) (h : eA4 a = eA4 a') : a = a':=by simpa [eA4,Prod.ext_iff] using h
def F4 : List V→Option V:=tells (fun a => g4 a) eA4 eB4
theorem ok4 : Zz Tryz.prog 4 F4:=by
 refine Zg 41 Tryz.func4 ?_
 rintro aH r h
 rw [g4] at h
 have hC : Uy.Ok Tryz.prog [(6,F6),(8,F8),(10,F10),(11,F11),(12,F12),(13,F13)]:=⟨.inl ok6,.inl ok8,.inl ok10,.inl ok11,.inl ok12,.inl ok13,trivial⟩
 refine VW.seq (Za [1] hC (q:=(VW.seq (Za [1,3] hC (q:=VW.seq ?_)))))
 obtain ⟨r1,q2,h⟩:=Zc h
 have c2 : F6 [.agg (Yi aH),.i .i64 1048576] = some (.i .i64 r1):=Zf inj6 (a:=(aH,1048576)) q2
 refine Za [1,3] hC (h:=by simp -implicitDefEqProofs [c2]; exact .rfl) (q:=(VW.seq (VW.seq (Za [1,13] hC (q:=(Zd h (fun h => ?_) (fun h => ?_)))))))
 ·refine VW.seq (Za [2] hC (q:=?_))
  exact VW.ret (Zb h (by simp [eB4]))
 refine VW.skip (VW.seq ?_)
 obtain ⟨r4,q5,h⟩:=Zc h
 have c5 : F8 [.agg (Yi aH)] = some (.agg [.own 1 (rows Zv r4.flat_.heat_),.own 1 (rows Zv r4.flat_.store_),.own 8 (rows Yv r4.flat_.walls_),.own 4 (rows Yw r4.flat_.panes_),.own 5 (rows Xw r4.chimney_),.own 9 (rows Ub r4.hearths_),.own 1 (rows Yt r4.sources_),.own 3 (rows Wp r4.hours_),.i .i64 r4.tick_,.f .f32 r4.sums_.burnt_,.f .f32 r4.sums_.steam_,.f .f32 r4.sums_.up_,.f .f32 r4.sums_.lost_,.i .i64 r4.sums_.smoky_]):=Zf inj8 (a:=aH) q5
 obtain ⟨r6,q7,h⟩:=Zc h
 have c7:=tl11 q7
 refine Za [1,4,5] hC (h:=by simp -implicitDefEqProofs [c5,c7]; exact .rfl) (q:=VW.seq ?_)
 obtain ⟨r8,q9,h⟩:=Zc h
 have c9 : F8 [.agg (Yi aH)] = some (.agg [.own 1 (rows Zv r8.flat_.heat_),.own 1 (rows Zv r8.flat_.store_),.own 8 (rows Yv r8.flat_.walls_),.own 4 (rows Yw r8.flat_.panes_),.own 5 (rows Xw r8.chimney_),.own 9 (rows Ub r8.hearths_),.own 1 (rows Yt r8.sources_),.own 3 (rows Wp r8.hours_),.i .i64 r8.tick_,.f .f32 r8.sums_.burnt_,.f .f32 r8.sums_.steam_,.f .f32 r8.sums_.up_,.f .f32 r8.sums_.lost_,.i .i64 r8.sums_.smoky_]):=Zf inj8 (a:=aH) q9
 refine Za [1,4,5,6] hC (h:=by simp -implicitDefEqProofs [c9]; exact .rfl) (q:=VW.seq ?_)
 obtain ⟨r10,q11,h⟩:=Zc h
 have c11:=tl12 q11
 refine Za [1,4,5,6,7,8] hC (h:=by simp -implicitDefEqProofs [c11]; exact .rfl) (q:=(VW.seq (VW.seq ?_)))
 obtain ⟨r12,Ho,h⟩:=Zc h
 have c13:=tl13 Ho
 refine Za [1,6,35] hC (h:=by simp -implicitDefEqProofs [c13]; exact .rfl) (q:=(Zd h (fun h => ?_) (fun h => ?_)))
 ·refine VW.seq (Za [2] hC (q:=?_))
  exact VW.ret (Zb h (by simp [eB4]))
 refine VW.skip (VW.seq (VW.seq ?_))
 obtain ⟨r15,q16,h⟩:=Zc h
 have c16 : F8 [.agg (Yi aH)] = some (.agg [.own 1 (rows Zv r15.flat_.heat_),.own 1 (rows Zv r15.flat_.store_),.own 8 (rows Yv r15.flat_.walls_),.own 4 (rows Yw r15.flat_.panes_),.own 5 (rows Xw r15.chimney_),.own 9 (rows Ub r15.hearths_),.own 1 (rows Yt r15.sources_),.own 3 (rows Wp r15.hours_),.i .i64 r15.tick_,.f .f32 r15.sums_.burnt_,.f .f32 r15.sums_.steam_,.f .f32 r15.sums_.up_,.f .f32 r15.sums_.lost_,.i .i64 r15.sums_.smoky_]):=Zf inj8 (a:=aH) q16
 obtain ⟨r17,q18,h⟩:=Zc h
 have c18:=tl10 q18
 refine Wr [40] hC Xy (h:=by simp -implicitDefEqProofs [c16,c18]; exact .rfl) (q:=(Zd h (fun h => ?_) (fun h => ?_)))
 ·refine VW.seq (Za [2] hC (q:=?_))
  exact VW.ret (Zb h (by simp [eB4]))
 refine VW.skip (VW.seq (Za [2] hC (q:=?_)))
 exact VW.ret (Zb h (by simp [eB4]))
end
end Go.Proofs.YtloepppmjppddaaGreatDoor
