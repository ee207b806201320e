/- Contracts of the functions that the law reaches: what each tells, as a function in Lean. -/
import Derived.Test.YtloepppmjppddaaGreatDoorK3b
import Derived.KernelRfl
namespace Go.Proofs.YtloepppmjppddaaGreatDoor
open Go.RowKit Go.VL
set_option linter.unusedSimpArgs false
set_option linter.unusedVariables false
set_option maxHeartbeats 40000000
set_option maxRecDepth 100000
noncomputable section
def g42_j1 : Option (Bool) :=
some true
def g42_L1 (a : List T51) (b : List T51) : (Int) → Option ((Int) ⊕ ((Unit) ⊕ (Bool)))
| i_45 =>
if Zq i_45 (a.length : Int) = true then
(Wu a i_45).bind fun e47 =>
(Wu b i_45).bind fun e49 =>
(g13 e47 e49).bind fun r51 =>
if (!r51) = true then
some (.inr (.inr false))
else
some (.inl (aI .i64 i_45 1))
else
some (.inr (.inl ()))
def g42 (a : List T51) (b : List T51) : Option (Bool) :=
if (!Yy (a.length : Int) (b.length : Int)) = true then
some false
else
(loopO (g42_L1 a b) 0).bind fun w => match w with
| .inl y => g42_j1
| .inr r => some r
@[simp] def eA42 (a : (List T51) × (List T51)) : List V:=[.sl 3 (rows Wg a.1),.sl 3 (rows Wg a.2)]
def eB42 (r : Bool) : V:=.b r
theorem inj42 (a a' : (List T51) × (List T51)) (h : eA42 a = eA42 a') : a = a':=by simpa [eA42,Prod.ext_iff] using h
def F42 : List V → Option V:=tells (fun a => g42 a.1 a.2) eA42 eB42
theorem ok42 : Ya Tryz.prog 42 F42:=by
 refine Zg 27 Tryz.func42 ?_
 rintro ⟨a,b⟩ r h
 replace h : (g42 a b).bind some = some r:=h
 rw [g42] at h
 have hC : Uz.Ok Tryz.prog [(13,F13)]:=⟨.inl ok13,trivial⟩
 refine VW.seq (Za [0,1] hC (q:=(VW.seq (VW.seq (Za [0,1,10] hC (q:=(Zd h (fun h => ?_) (fun h => ?_))))))))
 ·refine VW.seq (Za [4] hC (q:=?_))
  exact VW.ret (Zb h (by simp [eB42]))
 refine VW.skip (VW.join (fun (v : Unit) => (⟨(tm 27 []),[],[]⟩ : VS)) (fun v => (g42_j1).bind some = some r) ?_ ?_)
 ·refine VW.seq (Za [0,1,5] hC (q:=(VW.block ?_)))
  obtain ⟨w_1,hw_1,h⟩:=Zc h
  refine VW.loopO (fun (x : Int) => (⟨(tm 27 [(0,.sl 3 (rows Wg a)),(1,.sl 3 (rows Wg b)),(5,.i .i64 x)]),[],[]⟩ : VS)) hw_1 (Ze 0) ?_
  rintro n_1 i_45 h1
  rw [g42_L1] at h1
  refine VW.seq (VW.seq (Za [0,1,5,14] hC (q:=(Zk h1 (fun h1 => ?_) (fun h1 => ?_)))))
  ·refine VW.exit ?_
   have e_:=Yd h1
   subst w_1
   exact Zn () h (Ze 0)
  refine VW.skip (VW.seq (VW.block (VW.seq ?_)))
  obtain ⟨e47,⟨f48a,f48b,f48c,f48d⟩,h1⟩:=Yw h1
  obtain ⟨e49,⟨f50a,f50b,f50c,f50d⟩,h1⟩:=Yw h1
  obtain ⟨r51,q52,h1⟩:=Zc h1
  have c52:=tl13 q52
  refine Wr [0,1,5,26] hC Wb (h:=by simp -implicitDefEqProofs [f48a,f48b,f48c,f48d,f50a,f50b,f50c,f50d,c52]; exact .rfl) (q:=(Zd h1 (fun h1 => ?_) (fun h1 => ?_)))
  ·refine VW.seq (Za [4] hC (q:=?_))
   have e_:=Yd h1
   subst w_1
   exact VW.ret (Zb h (by simp [eB42]))
  exact VW.skip (Za [0,1,5] hC (q:=(Zn (aI .i64 i_45 1) (Yv h1) (Ze 0))))
 rintro _ h
 replace h : (g42_j1).bind _ = _:=h
 rw [g42_j1] at h
 refine VW.seq (Za [4] hC (q:=?_))
 exact VW.ret (Zb h (by simp [eB42]))
theorem tl42 {a : List T51} {b : List T51} {r : Bool} (h : g42 a b = some r) : F42 [.sl 3 (rows Wg a),.sl 3 (rows Wg b)] = some (.b r):=Zf inj42 (a:=(a,b)) h
def g43 (a : T32) (b : T32) : Option (Bool) :=
(g16 (Xm a.burnt_) (Xm b.burnt_)).bind fun r1 =>
if (!r1) = true then
some false
else
(g16 (Xm a.steam_) (Xm b.steam_)).bind fun r4 =>
if (!r4) = true then
some false
else
(g16 (Xm a.up_) (Xm b.up_)).bind fun r7 =>
if (!r7) = true then
some false
else
(g16 (Xm a.lost_) (Xm b.lost_)).bind fun r10 =>
if (!r10) = true then
some false
else
if (!Yy a.smoky_ b.smoky_) = true then
some false
else
some true
@[simp] def eA43 (a : T32 × T32) : List V:=[.agg (Xk a.1),.agg (Xk a.2)]
def eB43 (r : Bool) : V:=.b r
theorem inj43 (a a' : T32 × T32) (h : eA43 a = eA43 a') : a = a':=by simpa [eA43,Prod.ext_iff] using h
def F43 : List V → Option V:=tells (fun a => g43 a.1 a.2) eA43 eB43
theorem ok43 : Ya Tryz.prog 43 F43:=by
 refine Zg 42 Tryz.func43 ?_
 rintro ⟨a,b⟩ r h
 replace h : (g43 a b).bind some = some r:=h
 rw [g43] at h
 have hC : Uz.Ok Tryz.prog [(16,F16)]:=⟨.inl ok16,trivial⟩
 refine VW.seq (Za [2,3] hC (q:=(VW.seq (VW.seq ?_))))
 obtain ⟨r1,q2,h⟩:=Zc h
 have c2:=tl16 q2
 refine Zm [2,3,12] hC (q:=(Zd h (fun h => ?_) (fun h => ?_)))
 ·refine VW.seq (Za [4] hC (q:=?_))
  exact VW.ret (Zb h (by simp [eB43]))
 refine VW.skip (VW.seq (VW.seq ?_))
 obtain ⟨r4,q5,h⟩:=Zc h
 have c5:=tl16 q5
 refine Zm [2,3,20] hC (q:=(Zd h (fun h => ?_) (fun h => ?_)))
 ·refine VW.seq (Za [4] hC (q:=?_))
  exact VW.ret (Zb h (by simp [eB43]))
 refine VW.skip (VW.seq (VW.seq ?_))
 obtain ⟨r7,q8,h⟩:=Zc h
 have c8:=tl16 q8
 refine Zm [2,3,28] hC (q:=(Zd h (fun h => ?_) (fun h => ?_)))
 ·refine VW.seq (Za [4] hC (q:=?_))
  exact VW.ret (Zb h (by simp [eB43]))
 refine VW.skip (VW.seq (VW.seq ?_))
 obtain ⟨r10,q11,h⟩:=Zc h
 have c11:=tl16 q11
 refine Zm [2,3,36] hC (q:=(Zd h (fun h => ?_) (fun h => ?_)))
 ·refine VW.seq (Za [4] hC (q:=?_))
  exact VW.ret (Zb h (by simp [eB43]))
 refine VW.skip (VW.seq (VW.seq (Za [41] hC (q:=(Zd h (fun h => ?_) (fun h => ?_))))))
 ·refine VW.seq (Za [4] hC (q:=?_))
  exact VW.ret (Zb h (by simp [eB43]))
 refine VW.skip (VW.seq (Za [4] hC (q:=?_)))
 exact VW.ret (Zb h (by simp [eB43]))
theorem tl43 {a : T32} {b : T32} {r : Bool} (h : g43 a b = some r) : F43 [.agg [.f .f32 a.burnt_,.f .f32 a.steam_,.f .f32 a.up_,.f .f32 a.lost_,.i .i64 a.smoky_],.agg [.f .f32 b.burnt_,.f .f32 b.steam_,.f .f32 b.up_,.f .f32 b.lost_,.i .i64 b.smoky_]] = some (.b r):=Zf inj43 (a:=(a,b)) h
def g10 (a : T34) (b : T34) : Option (Bool) :=
(g38 a.flat_ b.flat_).bind fun r1 =>
if (!r1) = true then
some false
else
(g39 a.chimney_ b.chimney_).bind fun r4 =>
if (!r4) = true then
some false
else
(g40 a.hearths_ b.hearths_).bind fun r7 =>
if (!r7) = true then
some false
else
(g41 a.sources_ b.sources_).bind fun r10 =>
if (!r10) = true then
some false
else
(g42 a.hours_ b.hours_).bind fun r13 =>
if (!r13) = true then
some false
else
if (!Yy a.tick_ b.tick_) = true then
some false
else
(g43 a.sums_ b.sums_).bind fun r17 =>
if (!r17) = true then
some false
else
some true
@[simp] def eA10 (a : T34 × T34) : List V:=[.agg (Yk a.1),.agg (Yk a.2)]
def eB10 (r : Bool) : V:=.b r
theorem inj10 (a a' : T34 × T34) (h : eA10 a = eA10 a') : a = a':=by simpa [eA10,Prod.ext_iff] using h
def F10 : List V → Option V:=tells (fun a => g10 a.1 a.2) eA10 eB10
theorem ok10 : Ya Tryz.prog 10 F10:=by
 refine Zg 46 Tryz.func10 ?_
 rintro ⟨a,b⟩ r h
 replace h : (g10 a b).bind some = some r:=h
 rw [g10] at h
 have hC : Uz.Ok Tryz.prog [(38,F38),(39,F39),(40,F40),(41,F41),(42,F42),(43,F43)]:=⟨.inl ok38,.inl ok39,.inl ok40,.inl ok41,.inl ok42,.inl ok43,trivial⟩
 refine VW.seq (Za [2,3] hC (q:=(VW.seq (VW.seq ?_))))
 obtain ⟨r1,q2,h⟩:=Zc h
 have c2:=tl38 q2
 refine Zm [2,3,10] hC (q:=(Zd h (fun h => ?_) (fun h => ?_)))
 ·refine VW.seq (Za [4] hC (q:=?_))
  exact VW.ret (Zb h (by simp [eB10]))
 refine VW.skip (VW.seq (VW.seq ?_))
 obtain ⟨r4,q5,h⟩:=Zc h
 have c5:=tl39 q5
 refine Zm [2,3,16] hC (q:=(Zd h (fun h => ?_) (fun h => ?_)))
 ·refine VW.seq (Za [4] hC (q:=?_))
  exact VW.ret (Zb h (by simp [eB10]))
 refine VW.skip (VW.seq (VW.seq ?_))
 obtain ⟨r7,q8,h⟩:=Zc h
 have c8:=tl40 q8
 refine Zm [2,3,22] hC (q:=(Zd h (fun h => ?_) (fun h => ?_)))
 ·refine VW.seq (Za [4] hC (q:=?_))
  exact VW.ret (Zb h (by simp [eB10]))
 refine VW.skip (VW.seq (VW.seq ?_))
 obtain ⟨r10,q11,h⟩:=Zc h
 have c11:=tl41 q11
 refine Zm [2,3,28] hC (q:=(Zd h (fun h => ?_) (fun h => ?_)))
 ·refine VW.seq (Za [4] hC (q:=?_))
  exact VW.ret (Zb h (by simp [eB10]))
 refine VW.skip (VW.seq (VW.seq ?_))
 obtain ⟨r13,q14,h⟩:=Zc h
 have c14:=tl42 q14
 refine Zm [2,3,34] hC (q:=(Zd h (fun h => ?_) (fun h => ?_)))
 ·refine VW.seq (Za [4] hC (q:=?_))
  exact VW.ret (Zb h (by simp [eB10]))
 refine VW.skip (VW.seq (VW.seq (Za [2,3,39] hC (q:=(Zd h (fun h => ?_) (fun h => ?_))))))
 ·refine VW.seq (Za [4] hC (q:=?_))
  exact VW.ret (Zb h (by simp [eB10]))
 refine VW.skip (VW.seq (VW.seq ?_))
 obtain ⟨r17,q18,h⟩:=Zc h
 have c18:=tl43 q18
 refine Zm [45] hC (q:=(Zd h (fun h => ?_) (fun h => ?_)))
 ·refine VW.seq (Za [4] hC (q:=?_))
  exact VW.ret (Zb h (by simp [eB10]))
 refine VW.skip (VW.seq (Za [4] hC (q:=?_)))
 exact VW.ret (Zb h (by simp [eB10]))
theorem tl10 {a : T34} {b : T34} {r : Bool} (h : g10 a b = some r) : F10 [.agg [.sl 1 (rows Zr a.flat_.heat_),.sl 1 (rows Zr a.flat_.store_),.sl 8 (rows Yr a.flat_.walls_),.sl 4 (rows Ys a.flat_.panes_),.sl 5 (rows Xq a.chimney_),.sl 9 (rows Xx a.hearths_),.sl 1 (rows Yt a.sources_),.sl 3 (rows Wg a.hours_),.i .i64 a.tick_,.f .f32 a.sums_.burnt_,.f .f32 a.sums_.steam_,.f .f32 a.sums_.up_,.f .f32 a.sums_.lost_,.i .i64 a.sums_.smoky_],.agg [.sl 1 (rows Zr b.flat_.heat_),.sl 1 (rows Zr b.flat_.store_),.sl 8 (rows Yr b.flat_.walls_),.sl 4 (rows Ys b.flat_.panes_),.sl 5 (rows Xq b.chimney_),.sl 9 (rows Xx b.hearths_),.sl 1 (rows Yt b.sources_),.sl 3 (rows Wg b.hours_),.i .i64 b.tick_,.f .f32 b.sums_.burnt_,.f .f32 b.sums_.steam_,.f .f32 b.sums_.up_,.f .f32 b.sums_.lost_,.i .i64 b.sums_.smoky_]] = some (.b r):=Zf inj10 (a:=(a,b)) h
def g3 (aH : T34) : Option (Bool) :=
(g6 aH 1048576).bind fun r1 =>
if Zq r1 0 = true then
some true
else
(g8 aH).bind fun r4 =>
(g7 r4).bind fun r6 =>
(g8 aH).bind fun r8 =>
(g9 r8).bind fun r10 =>
if (!(r10 == r6)) = true then
some false
else
(g8 aH).bind fun r13 =>
(g10 r8 r13).bind fun r15 =>
if (!r15) = true then
some false
else
some true
@[simp] def eA3 (a : T34) : List V:=[.agg (Yk a)]
def eB3 (r : Bool) : V:=.b r
theorem inj3 (a a' : T34) (h : eA3 a = eA3 a') : a = a':=by simpa [eA3,Prod.ext_iff] using h
def F3 : List V → Option V:=tells (fun a => g3 a) eA3 eB3
theorem ok3 : Ya Tryz.prog 3 F3:=by
 refine Zg 27 Tryz.func3 ?_
 rintro aH r h
 rw [g3] at h
 have hC : Uz.Ok Tryz.prog [(6,F6),(7,F7),(8,F8),(9,F9),(10,F10)]:=⟨.inl ok6,.inl ok7,.inl ok8,.inl ok9,.inl ok10,trivial⟩
 refine VW.seq (Za [1] hC (q:=(VW.seq (Za [1,3] hC (q:=(VW.seq ?_))))))
 obtain ⟨r1,q2,h⟩:=Zc h
 have c2 : F6 [.agg (Yk aH),.i .i64 1048576] = some (.i .i64 r1):=Zf inj6 (a:=(aH,1048576)) q2
 refine Za [1,3] hC (h:=by simp -implicitDefEqProofs [c2]; exact .rfl) (q:=(VW.seq (VW.seq (Za [1,11] hC (q:=(Zd h (fun h => ?_) (fun h => ?_)))))))
 ·refine VW.seq (Za [2] hC (q:=?_))
  exact VW.ret (Zb h (by simp [eB3]))
 refine VW.skip (VW.seq ?_)
 obtain ⟨r4,q5,h⟩:=Zc h
 have c5 : F8 [.agg (Yk aH)] = some (.agg [.own 1 (rows Zr r4.flat_.heat_),.own 1 (rows Zr r4.flat_.store_),.own 8 (rows Yr r4.flat_.walls_),.own 4 (rows Ys r4.flat_.panes_),.own 5 (rows Xq r4.chimney_),.own 9 (rows Wv r4.hearths_),.own 1 (rows Yt r4.sources_),.own 3 (rows Wg r4.hours_),.i .i64 r4.tick_,.f .f32 r4.sums_.burnt_,.f .f32 r4.sums_.steam_,.f .f32 r4.sums_.up_,.f .f32 r4.sums_.lost_,.i .i64 r4.sums_.smoky_]):=Zf inj8 (a:=aH) q5
 obtain ⟨r6,q7,h⟩:=Zc h
 have c7:=tl7 q7
 refine Za [1,4] hC (h:=by simp -implicitDefEqProofs [c5,c7]; exact .rfl) (q:=(VW.seq ?_))
 obtain ⟨r8,q9,h⟩:=Zc h
 have c9 : F8 [.agg (Yk aH)] = some (.agg [.own 1 (rows Zr r8.flat_.heat_),.own 1 (rows Zr r8.flat_.store_),.own 8 (rows Yr r8.flat_.walls_),.own 4 (rows Ys r8.flat_.panes_),.own 5 (rows Xq r8.chimney_),.own 9 (rows Wv r8.hearths_),.own 1 (rows Yt r8.sources_),.own 3 (rows Wg r8.hours_),.i .i64 r8.tick_,.f .f32 r8.sums_.burnt_,.f .f32 r8.sums_.steam_,.f .f32 r8.sums_.up_,.f .f32 r8.sums_.lost_,.i .i64 r8.sums_.smoky_]):=Zf inj8 (a:=aH) q9
 refine Za [1,4,5] hC (h:=by simp -implicitDefEqProofs [c9]; exact .rfl) (q:=(VW.seq ?_))
 obtain ⟨r10,q11,h⟩:=Zc h
 have c11:=tl9 q11
 refine Za [1,4,5,6] hC (h:=by simp -implicitDefEqProofs [c11]; exact .rfl) (q:=(VW.seq (VW.seq (Za [1,5,21] hC (q:=(Zd h (fun h => ?_) (fun h => ?_)))))))
 ·refine VW.seq (Za [2] hC (q:=?_))
  exact VW.ret (Zb h (by simp [eB3]))
 refine VW.skip (VW.seq (VW.seq ?_))
 obtain ⟨r13,q14,h⟩:=Zc h
 have c14 : F8 [.agg (Yk aH)] = some (.agg [.own 1 (rows Zr r13.flat_.heat_),.own 1 (rows Zr r13.flat_.store_),.own 8 (rows Yr r13.flat_.walls_),.own 4 (rows Ys r13.flat_.panes_),.own 5 (rows Xq r13.chimney_),.own 9 (rows Wv r13.hearths_),.own 1 (rows Yt r13.sources_),.own 3 (rows Wg r13.hours_),.i .i64 r13.tick_,.f .f32 r13.sums_.burnt_,.f .f32 r13.sums_.steam_,.f .f32 r13.sums_.up_,.f .f32 r13.sums_.lost_,.i .i64 r13.sums_.smoky_]):=Zf inj8 (a:=aH) q14
 obtain ⟨r15,q16,h⟩:=Zc h
 have c16:=tl10 q16
 refine Wr [26] hC Wb (h:=by simp -implicitDefEqProofs [c14,c16]; exact .rfl) (q:=(Zd h (fun h => ?_) (fun h => ?_)))
 ·refine VW.seq (Za [2] hC (q:=?_))
  exact VW.ret (Zb h (by simp [eB3]))
 refine VW.skip (VW.seq (Za [2] hC (q:=?_)))
 exact VW.ret (Zb h (by simp [eB3]))
theorem tl3 {aH : T34} {r : Bool} (h : g3 aH = some r) : F3 [.agg [.sl 1 (rows Zr aH.flat_.heat_),.sl 1 (rows Zr aH.flat_.store_),.sl 8 (rows Yr aH.flat_.walls_),.sl 4 (rows Ys aH.flat_.panes_),.sl 5 (rows Xq aH.chimney_),.sl 9 (rows Xx aH.hearths_),.sl 1 (rows Yt aH.sources_),.sl 3 (rows Wg aH.hours_),.i .i64 aH.tick_,.f .f32 aH.sums_.burnt_,.f .f32 aH.sums_.steam_,.f .f32 aH.sums_.up_,.f .f32 aH.sums_.lost_,.i .i64 aH.sums_.smoky_]] = some (.b r):=Zf inj3 (a:=aH) h
end
end Go.Proofs.YtloepppmjppddaaGreatDoor
