/- The law FnExactFuelInHouse holds for every input. No conditions. -/
import Derived.Test.YtloepppmjppddaaGreatDoorK5Rx
import Derived.Test.YtloepppmjppddaaGreatDoorVxGe
import Derived.Test.YtloepppmjppddaaGreatDoorRows
import Derived.WalkKit
import Derived.ProofKit
import Derived.Test.YtloepppmjppddaaGreatDoorCards
import Derived.Test.YtloepppmjppddaaGreatDoorTie
import Derived.LaidMore
import Derived.OpenShut
import Derived.Stop.Joined
import Derived.Stop.LaidErr
import Derived.Lay
import Derived.LaidLaws
import Derived.SevenTiedAt
import Derived.Test.YtloepppmjppddaaGreatDoorVxGh
namespace Go.Proofs.YtloepppmjppddaaGreatDoor
open Go.ChangeShapes Go.WideShapes Go.ChangeAt Go.RowKit Go.VL
set_option linter.unusedVariables false
set_option linter.unusedSimpArgs false
theorem own : ownKnob Tryz.prog.godebug = none:=by kernel_rfl
theorem laidOut : laidOutB Tryz.prog = true:=by kernel_rfl
theorem Js {α : Type} {c : α→List V} {sh : Sh} {B : α→Prop} (h1 : ∀ x,Ok sh x→∃ a,x = c a∧B a) : ∀ {es : List (List V)},(∀ x ∈ es,Ok sh x)→∃ xs,es = rows c xs∧∀ y ∈ xs,B y
 | [],_ => ⟨[],rfl,by simp⟩
 | e :: es,h => by
  obtain ⟨a,rfl,ha⟩:=h1 e (h e (by simp))
  obtain ⟨xs,rfl,hx⟩:=Js h1 (es:=es) fun x hx => h x (by simp [hx])
  exact ⟨a :: xs,rfl,by simpa using ⟨ha,hx⟩⟩
@[simp] def Wr (x : List F32) : List V:=[.sl 1 (rows Zt x)]
instance : Snp Wr:=⟨fun x => by simp,fun x => by simp⟩
@[simp] theorem cl_cf_f32_len {x : List F32} : (Wr x).length = 1:=rfl
@[simp] theorem cl_cf_f32_set {xs : List (List F32)} {i : Nat} {a : List F32} : (rows Wr xs).set i [.sl 1 (rows Zt a)] = rows Wr (xs.set i a):=Xn (c:=Wr) (x:=a)
@[simp] theorem cl_cf_f32_snoc {xs : List (List F32)} {a : List F32} : rows Wr xs ++ [[.sl 1 (rows Zt a)]] = rows Wr (xs ++ [a]):=Xc (c:=Wr) (x:=a)
@[simp] theorem cl_cf_f32_rep {n : Nat} {a : List F32} : List.replicate n [.sl 1 (rows Zt a)] = rows Wr (List.replicate n a):=Xo (c:=Wr) (x:=a)
theorem cl_cf_f32_inj (x y : List F32) (h : Wr x = Wr y) : x = y:=by
 simp only [Wr,List.cons.injEq,V.i.injEq,V.b.injEq,V.f.injEq,V.str.injEq,V.sl.injEq,V.own.injEq,true_and,and_true] at h
 simp_all [ri cf_f32_inj]
@[simp] def Um (x : List T131) : List V:=[.sl 8 (rows Yv x)]
instance : Snp Um:=⟨fun x => by simp,fun x => by simp⟩
@[simp] theorem cl_cT131_len {x : List T131} : (Um x).length = 1:=rfl
@[simp] theorem cl_cT131_set {xs : List (List T131)} {i : Nat} {a : List T131} : (rows Um xs).set i [.sl 8 (rows Yv a)] = rows Um (xs.set i a):=Xn (c:=Um) (x:=a)
@[simp] theorem cl_cT131_snoc {xs : List (List T131)} {a : List T131} : rows Um xs ++ [[.sl 8 (rows Yv a)]] = rows Um (xs ++ [a]):=Xc (c:=Um) (x:=a)
@[simp] theorem cl_cT131_rep {n : Nat} {a : List T131} : List.replicate n [.sl 8 (rows Yv a)] = rows Um (List.replicate n a):=Xo (c:=Um) (x:=a)
theorem cl_cT131_inj (x y : List T131) (h : Um x = Um y) : x = y:=by
 simp only [Um,List.cons.injEq,V.i.injEq,V.b.injEq,V.f.injEq,V.str.injEq,V.sl.injEq,V.own.injEq,true_and,and_true] at h
 simp_all [ri cT131_inj]
@[simp] def Uk (x : List T134) : List V:=[.sl 4 (rows Yw x)]
instance : Snp Uk:=⟨fun x => by simp,fun x => by simp⟩
@[simp] theorem cl_cT134_len {x : List T134} : (Uk x).length = 1:=rfl
@[simp] theorem cl_cT134_set {xs : List (List T134)} {i : Nat} {a : List T134} : (rows Uk xs).set i [.sl 4 (rows Yw a)] = rows Uk (xs.set i a):=Xn (c:=Uk) (x:=a)
@[simp] theorem cl_cT134_snoc {xs : List (List T134)} {a : List T134} : rows Uk xs ++ [[.sl 4 (rows Yw a)]] = rows Uk (xs ++ [a]):=Xc (c:=Uk) (x:=a)
@[simp] theorem cl_cT134_rep {n : Nat} {a : List T134} : List.replicate n [.sl 4 (rows Yw a)] = rows Uk (List.replicate n a):=Xo (c:=Uk) (x:=a)
theorem cl_cT134_inj (x y : List T134) (h : Uk x = Uk y) : x = y:=by
 simp only [Uk,List.cons.injEq,V.i.injEq,V.b.injEq,V.f.injEq,V.str.injEq,V.sl.injEq,V.own.injEq,true_and,and_true] at h
 simp_all [ri cT134_inj]
@[simp] def Qf (x : List T32) : List V:=[.sl 5 (rows Xw x)]
instance : Snp Qf:=⟨fun x => by simp,fun x => by simp⟩
@[simp] theorem cl_cT32_len {x : List T32} : (Qf x).length = 1:=rfl
@[simp] theorem cl_cT32_set {xs : List (List T32)} {i : Nat} {a : List T32} : (rows Qf xs).set i [.sl 5 (rows Xw a)] = rows Qf (xs.set i a):=Xn (c:=Qf) (x:=a)
@[simp] theorem cl_cT32_snoc {xs : List (List T32)} {a : List T32} : rows Qf xs ++ [[.sl 5 (rows Xw a)]] = rows Qf (xs ++ [a]):=Xc (c:=Qf) (x:=a)
@[simp] theorem cl_cT32_rep {n : Nat} {a : List T32} : List.replicate n [.sl 5 (rows Xw a)] = rows Qf (List.replicate n a):=Xo (c:=Qf) (x:=a)
theorem cl_cT32_inj (x y : List T32) (h : Qf x = Qf y) : x = y:=by
 simp only [Qf,List.cons.injEq,V.i.injEq,V.b.injEq,V.f.injEq,V.str.injEq,V.sl.injEq,V.own.injEq,true_and,and_true] at h
 simp_all [ri cT32_inj]
@[simp] def Qd (x : List T87) : List V:=[.sl 9 (rows Wa x)]
instance : Snp Qd:=⟨fun x => by simp,fun x => by simp⟩
@[simp] theorem cl_cT87_len {x : List T87} : (Qd x).length = 1:=rfl
@[simp] theorem cl_cT87_set {xs : List (List T87)} {i : Nat} {a : List T87} : (rows Qd xs).set i [.sl 9 (rows Wa a)] = rows Qd (xs.set i a):=Xn (c:=Qd) (x:=a)
@[simp] theorem cl_cT87_snoc {xs : List (List T87)} {a : List T87} : rows Qd xs ++ [[.sl 9 (rows Wa a)]] = rows Qd (xs ++ [a]):=Xc (c:=Qd) (x:=a)
@[simp] theorem cl_cT87_rep {n : Nat} {a : List T87} : List.replicate n [.sl 9 (rows Wa a)] = rows Qd (List.replicate n a):=Xo (c:=Qd) (x:=a)
theorem cl_cT87_inj (x y : List T87) (h : Qd x = Qd y) : x = y:=by
 simp only [Qd,List.cons.injEq,V.i.injEq,V.b.injEq,V.f.injEq,V.str.injEq,V.sl.injEq,V.own.injEq,true_and,and_true] at h
 simp_all [ri cT87_inj]
@[simp] def Uj (x : List T149) : List V:=[.sl 18 (rows Yk x)]
instance : Snp Uj:=⟨fun x => by simp,fun x => by simp⟩
@[simp] theorem cl_cT149_len {x : List T149} : (Uj x).length = 1:=rfl
@[simp] theorem cl_cT149_set {xs : List (List T149)} {i : Nat} {a : List T149} : (rows Uj xs).set i [.sl 18 (rows Yk a)] = rows Uj (xs.set i a):=Xn (c:=Uj) (x:=a)
@[simp] theorem cl_cT149_snoc {xs : List (List T149)} {a : List T149} : rows Uj xs ++ [[.sl 18 (rows Yk a)]] = rows Uj (xs ++ [a]):=Xc (c:=Uj) (x:=a)
@[simp] theorem cl_cT149_rep {n : Nat} {a : List T149} : List.replicate n [.sl 18 (rows Yk a)] = rows Uj (List.replicate n a):=Xo (c:=Uj) (x:=a)
theorem cl_cT149_inj (x y : List T149) (h : Uj x = Uj y) : x = y:=by
 simp only [Uj,List.cons.injEq,V.i.injEq,V.b.injEq,V.f.injEq,V.str.injEq,V.sl.injEq,V.own.injEq,true_and,and_true] at h
 simp_all [ri Gi]
@[simp] def Hr (x : Int) : List V:=[.i .i8 x]
instance : Pln Hr:=⟨fun x => by simp⟩
@[simp] theorem ci_i8_len {x : Int} : (Hr x).length = 1:=rfl
@[simp] theorem ci_i8_set {xs : List Int} {i : Nat} {a : Int} : (rows Hr xs).set i [.i .i8 a] = rows Hr (xs.set i a):=Xn (c:=Hr) (x:=a)
@[simp] theorem ci_i8_snoc {xs : List Int} {a : Int} : rows Hr xs ++ [[.i .i8 a]] = rows Hr (xs ++ [a]):=Xc (c:=Hr) (x:=a)
@[simp] theorem ci_i8_rep {n : Nat} {a : Int} : List.replicate n [.i .i8 a] = rows Hr (List.replicate n a):=Xo (c:=Hr) (x:=a)
theorem ci_i8_inj (x y : Int) (h : Hr x = Hr y) : x = y:=by
 simp only [Hr,List.cons.injEq,V.i.injEq,V.b.injEq,V.f.injEq,V.str.injEq,V.sl.injEq,V.own.injEq,true_and,and_true] at h
 simp_all
@[simp] def Ki (x : List ByteArray) : List V:=[.sl 1 (rows Yu x)]
instance : Snp Ki:=⟨fun x => by simp,fun x => by simp⟩
@[simp] theorem cl_cs__len {x : List ByteArray} : (Ki x).length = 1:=rfl
@[simp] theorem cl_cs__set {xs : List (List ByteArray)} {i : Nat} {a : List ByteArray} : (rows Ki xs).set i [.sl 1 (rows Yu a)] = rows Ki (xs.set i a):=Xn (c:=Ki) (x:=a)
@[simp] theorem cl_cs__snoc {xs : List (List ByteArray)} {a : List ByteArray} : rows Ki xs ++ [[.sl 1 (rows Yu a)]] = rows Ki (xs ++ [a]):=Xc (c:=Ki) (x:=a)
@[simp] theorem cl_cs__rep {n : Nat} {a : List ByteArray} : List.replicate n [.sl 1 (rows Yu a)] = rows Ki (List.replicate n a):=Xo (c:=Ki) (x:=a)
theorem cl_cs__inj (x y : List ByteArray) (h : Ki x = Ki y) : x = y:=by
 simp only [Ki,List.cons.injEq,V.i.injEq,V.b.injEq,V.f.injEq,V.str.injEq,V.sl.injEq,V.own.injEq,true_and,and_true] at h
 simp_all [ri cs__inj]
@[simp] def Qe (x : List T51) : List V:=[.sl 3 (rows Wq x)]
instance : Snp Qe:=⟨fun x => by simp,fun x => by simp⟩
@[simp] theorem cl_cT51_len {x : List T51} : (Qe x).length = 1:=rfl
@[simp] theorem cl_cT51_set {xs : List (List T51)} {i : Nat} {a : List T51} : (rows Qe xs).set i [.sl 3 (rows Wq a)] = rows Qe (xs.set i a):=Xn (c:=Qe) (x:=a)
@[simp] theorem cl_cT51_snoc {xs : List (List T51)} {a : List T51} : rows Qe xs ++ [[.sl 3 (rows Wq a)]] = rows Qe (xs ++ [a]):=Xc (c:=Qe) (x:=a)
@[simp] theorem cl_cT51_rep {n : Nat} {a : List T51} : List.replicate n [.sl 3 (rows Wq a)] = rows Qe (List.replicate n a):=Xo (c:=Qe) (x:=a)
theorem cl_cT51_inj (x y : List T51) (h : Qe x = Qe y) : x = y:=by
 simp only [Qe,List.cons.injEq,V.i.injEq,V.b.injEq,V.f.injEq,V.str.injEq,V.sl.injEq,V.own.injEq,true_and,and_true] at h
 simp_all [ri cT51_inj]
theorem We {x : List V} (h : Ok (.float .f32) x) : ∃ v : F32,x = Zt v∧Yp .f32 v:=by
 obtain ⟨b,rfl,hb⟩:=h
 exact ⟨some b,rfl,⟨b,rfl,hb⟩⟩
theorem okc_22 {x : List V} (h : Ok (.slice 1 (.float .f32)) x) : ∃ v : List F32,x = Wr v∧v.length≤maxLen∧(∀ y ∈ v,Yp .f32 y):=by
 obtain ⟨es,rfl,h1,h2,h3⟩:=h
 obtain ⟨xs,rfl,h4⟩:=Js (fun x hx => We hx) h3
 exact ⟨xs,rfl,by simpa using h1,h4⟩
theorem okc_2 {x : List V} (h : Ok (.int .i64) x) : ∃ v : Int,x = Ww v∧(Lit.int .i64 v).wf = true:=by
 obtain ⟨b,rfl,hb⟩:=h
 exact ⟨b,rfl,hb⟩
theorem okc_130 {x : List V} (h : Ok (.rep 4 (.float .f32)) x) : ∃ v : T130,x = Jo v∧Yp .f32 v.a0_∧Yp .f32 v.a1_∧Yp .f32 v.a2_∧Yp .f32 v.a3_:=by
 obtain ⟨xs,rfl,hl,h⟩:=h
 match xs,hl,h with
 | [x0,x1,x2,x3],_,h =>
  obtain ⟨v0,e0,k0⟩:=We (h x0 (by simp))
  subst e0
  obtain ⟨v1,e1,k1⟩:=We (h x1 (by simp))
  subst e1
  obtain ⟨v2,e2,k2⟩:=We (h x2 (by simp))
  subst e2
  obtain ⟨v3,e3,k3⟩:=We (h x3 (by simp))
  subst e3
  exact ⟨⟨v0,v1,v2,v3⟩,rfl,k0,k1,k2,k3⟩
theorem okc_178 {x : List V} (h : Ok (.seq (.int .i64) (.seq (.int .i64) (.seq (.float .f32) (.seq (.float .f32) (.seq (.rep 4 (.float .f32)) (.unit)))))) x) : ∃ v : T131,x = Yv v∧(Lit.int .i64 v.a_).wf = true∧(Lit.int .i64 v.b_).wf = true∧Yp .f32 v.lead_∧Yp .f32 v.store_∧(Yp .f32 v.heat_.a0_∧Yp .f32 v.heat_.a1_∧Yp .f32 v.heat_.a2_∧Yp .f32 v.heat_.a3_):=by
 obtain ⟨_,_,rfl,h0,h⟩:=h
 obtain ⟨v0,rfl,k0⟩:=okc_2 h0
 obtain ⟨_,_,rfl,h1,h⟩:=h
 obtain ⟨v1,rfl,k1⟩:=okc_2 h1
 obtain ⟨_,_,rfl,h2,h⟩:=h
 obtain ⟨v2,rfl,k2⟩:=We h2
 obtain ⟨_,_,rfl,h3,h⟩:=h
 obtain ⟨v3,rfl,k3⟩:=We h3
 obtain ⟨_,_,rfl,h4,h⟩:=h
 obtain ⟨v4,rfl,k4⟩:=okc_130 h4
 cases h
 exact ⟨⟨v0,v1,v2,v3,v4⟩,rfl,k0,k1,k2,k3,k4⟩
theorem okc_23 {x : List V} (h : Ok (.slice 8 (.seq (.int .i64) (.seq (.int .i64) (.seq (.float .f32) (.seq (.float .f32) (.seq (.rep 4 (.float .f32)) (.unit))))))) x) : ∃ v : List T131,x = Um v∧v.length≤maxLen∧(∀ y ∈ v,(Lit.int .i64 y.a_).wf = true∧(Lit.int .i64 y.b_).wf = true∧Yp .f32 y.lead_∧Yp .f32 y.store_∧(Yp .f32 y.heat_.a0_∧Yp .f32 y.heat_.a1_∧Yp .f32 y.heat_.a2_∧Yp .f32 y.heat_.a3_)):=by
 obtain ⟨es,rfl,h1,h2,h3⟩:=h
 obtain ⟨xs,rfl,h4⟩:=Js (fun x hx => okc_178 hx) h3
 exact ⟨xs,rfl,by simpa using h1,h4⟩
theorem okc_180 {x : List V} (h : Ok (.seq (.int .i64) (.seq (.int .i64) (.seq (.float .f32) (.seq (.float .f32) (.unit))))) x) : ∃ v : T134,x = Yw v∧(Lit.int .i64 v.a_).wf = true∧(Lit.int .i64 v.b_).wf = true∧Yp .f32 v.lead_∧Yp .f32 v.sun_:=by
 obtain ⟨_,_,rfl,h0,h⟩:=h
 obtain ⟨v0,rfl,k0⟩:=okc_2 h0
 obtain ⟨_,_,rfl,h1,h⟩:=h
 obtain ⟨v1,rfl,k1⟩:=okc_2 h1
 obtain ⟨_,_,rfl,h2,h⟩:=h
 obtain ⟨v2,rfl,k2⟩:=We h2
 obtain ⟨_,_,rfl,h3,h⟩:=h
 obtain ⟨v3,rfl,k3⟩:=We h3
 cases h
 exact ⟨⟨v0,v1,v2,v3⟩,rfl,k0,k1,k2,k3⟩
theorem okc_24 {x : List V} (h : Ok (.slice 4 (.seq (.int .i64) (.seq (.int .i64) (.seq (.float .f32) (.seq (.float .f32) (.unit)))))) x) : ∃ v : List T134,x = Uk v∧v.length≤maxLen∧(∀ y ∈ v,(Lit.int .i64 y.a_).wf = true∧(Lit.int .i64 y.b_).wf = true∧Yp .f32 y.lead_∧Yp .f32 y.sun_):=by
 obtain ⟨es,rfl,h1,h2,h3⟩:=h
 obtain ⟨xs,rfl,h4⟩:=Js (fun x hx => okc_180 hx) h3
 exact ⟨xs,rfl,by simpa using h1,h4⟩
theorem okc_26 {x : List V} (h : Ok (.seq (.slice 1 (.float .f32)) (.seq (.slice 1 (.float .f32)) (.seq (.slice 8 (.seq (.int .i64) (.seq (.int .i64) (.seq (.float .f32) (.seq (.float .f32) (.seq (.rep 4 (.float .f32)) (.unit))))))) (.seq (.slice 4 (.seq (.int .i64) (.seq (.int .i64) (.seq (.float .f32) (.seq (.float .f32) (.unit)))))) (.unit))))) x) : ∃ v : T25,x = cT25 v∧(v.heat_.length≤maxLen∧(∀ y ∈ v.heat_,Yp .f32 y))∧(v.store_.length≤maxLen∧(∀ y ∈ v.store_,Yp .f32 y))∧(v.walls_.length≤maxLen∧(∀ y ∈ v.walls_,(Lit.int .i64 y.a_).wf = true∧(Lit.int .i64 y.b_).wf = true∧Yp .f32 y.lead_∧Yp .f32 y.store_∧(Yp .f32 y.heat_.a0_∧Yp .f32 y.heat_.a1_∧Yp .f32 y.heat_.a2_∧Yp .f32 y.heat_.a3_)))∧(v.panes_.length≤maxLen∧(∀ y ∈ v.panes_,(Lit.int .i64 y.a_).wf = true∧(Lit.int .i64 y.b_).wf = true∧Yp .f32 y.lead_∧Yp .f32 y.sun_)):=by
 obtain ⟨_,_,rfl,h0,h⟩:=h
 obtain ⟨v0,rfl,k0⟩:=okc_22 h0
 obtain ⟨_,_,rfl,h1,h⟩:=h
 obtain ⟨v1,rfl,k1⟩:=okc_22 h1
 obtain ⟨_,_,rfl,h2,h⟩:=h
 obtain ⟨v2,rfl,k2⟩:=okc_23 h2
 obtain ⟨_,_,rfl,h3,h⟩:=h
 obtain ⟨v3,rfl,k3⟩:=okc_24 h3
 cases h
 exact ⟨⟨v0,v1,v2,v3⟩,rfl,k0,k1,k2,k3⟩
theorem okc_126 {x : List V} (h : Ok (.seq (.float .f32) (.seq (.float .f32) (.seq (.float .f32) (.seq (.float .f32) (.seq (.int .i64) (.unit)))))) x) : ∃ v : T32,x = Xw v∧Yp .f32 v.burnt_∧Yp .f32 v.steam_∧Yp .f32 v.up_∧Yp .f32 v.lost_∧(Lit.int .i64 v.smoky_).wf = true:=by
 obtain ⟨_,_,rfl,h0,h⟩:=h
 obtain ⟨v0,rfl,k0⟩:=We h0
 obtain ⟨_,_,rfl,h1,h⟩:=h
 obtain ⟨v1,rfl,k1⟩:=We h1
 obtain ⟨_,_,rfl,h2,h⟩:=h
 obtain ⟨v2,rfl,k2⟩:=We h2
 obtain ⟨_,_,rfl,h3,h⟩:=h
 obtain ⟨v3,rfl,k3⟩:=We h3
 obtain ⟨_,_,rfl,h4,h⟩:=h
 obtain ⟨v4,rfl,k4⟩:=okc_2 h4
 cases h
 exact ⟨⟨v0,v1,v2,v3,v4⟩,rfl,k0,k1,k2,k3,k4⟩
theorem okc_27 {x : List V} (h : Ok (.slice 5 (.seq (.float .f32) (.seq (.float .f32) (.seq (.float .f32) (.seq (.float .f32) (.seq (.int .i64) (.unit))))))) x) : ∃ v : List T32,x = Qf v∧v.length≤maxLen∧(∀ y ∈ v,Yp .f32 y.burnt_∧Yp .f32 y.steam_∧Yp .f32 y.up_∧Yp .f32 y.lost_∧(Lit.int .i64 y.smoky_).wf = true):=by
 obtain ⟨es,rfl,h1,h2,h3⟩:=h
 obtain ⟨xs,rfl,h4⟩:=Js (fun x hx => okc_126 hx) h3
 exact ⟨xs,rfl,by simpa using h1,h4⟩
theorem okc_148 {x : List V} (h : Ok (.rep 6 (.float .f32)) x) : ∃ v : T148,x = Jn v∧Yp .f32 v.a0_∧Yp .f32 v.a1_∧Yp .f32 v.a2_∧Yp .f32 v.a3_∧Yp .f32 v.a4_∧Yp .f32 v.a5_:=by
 obtain ⟨xs,rfl,hl,h⟩:=h
 match xs,hl,h with
 | [x0,x1,x2,x3,x4,x5],_,h =>
  obtain ⟨v0,e0,k0⟩:=We (h x0 (by simp))
  subst e0
  obtain ⟨v1,e1,k1⟩:=We (h x1 (by simp))
  subst e1
  obtain ⟨v2,e2,k2⟩:=We (h x2 (by simp))
  subst e2
  obtain ⟨v3,e3,k3⟩:=We (h x3 (by simp))
  subst e3
  obtain ⟨v4,e4,k4⟩:=We (h x4 (by simp))
  subst e4
  obtain ⟨v5,e5,k5⟩:=We (h x5 (by simp))
  subst e5
  exact ⟨⟨v0,v1,v2,v3,v4,v5⟩,rfl,k0,k1,k2,k3,k4,k5⟩
theorem okc_215 {x : List V} (h : Ok (.seq (.rep 6 (.float .f32)) (.seq (.rep 6 (.float .f32)) (.seq (.rep 6 (.float .f32)) (.unit)))) x) : ∃ v : T149,x = Yk v∧(Yp .f32 v.wet_.a0_∧Yp .f32 v.wet_.a1_∧Yp .f32 v.wet_.a2_∧Yp .f32 v.wet_.a3_∧Yp .f32 v.wet_.a4_∧Yp .f32 v.wet_.a5_)∧(Yp .f32 v.heat_.a0_∧Yp .f32 v.heat_.a1_∧Yp .f32 v.heat_.a2_∧Yp .f32 v.heat_.a3_∧Yp .f32 v.heat_.a4_∧Yp .f32 v.heat_.a5_)∧(Yp .f32 v.fuel_.a0_∧Yp .f32 v.fuel_.a1_∧Yp .f32 v.fuel_.a2_∧Yp .f32 v.fuel_.a3_∧Yp .f32 v.fuel_.a4_∧Yp .f32 v.fuel_.a5_):=by
 obtain ⟨_,_,rfl,h0,h⟩:=h
 obtain ⟨v0,rfl,k0⟩:=okc_148 h0
 obtain ⟨_,_,rfl,h1,h⟩:=h
 obtain ⟨v1,rfl,k1⟩:=okc_148 h1
 obtain ⟨_,_,rfl,h2,h⟩:=h
 obtain ⟨v2,rfl,k2⟩:=okc_148 h2
 cases h
 exact ⟨⟨v0,v1,v2⟩,rfl,k0,k1,k2⟩
theorem okc_106 {x : List V} (h : Ok (.slice 18 (.seq (.rep 6 (.float .f32)) (.seq (.rep 6 (.float .f32)) (.seq (.rep 6 (.float .f32)) (.unit))))) x) : ∃ v : List T149,x = Uj v∧v.length≤maxLen∧(∀ y ∈ v,(Yp .f32 y.wet_.a0_∧Yp .f32 y.wet_.a1_∧Yp .f32 y.wet_.a2_∧Yp .f32 y.wet_.a3_∧Yp .f32 y.wet_.a4_∧Yp .f32 y.wet_.a5_)∧(Yp .f32 y.heat_.a0_∧Yp .f32 y.heat_.a1_∧Yp .f32 y.heat_.a2_∧Yp .f32 y.heat_.a3_∧Yp .f32 y.heat_.a4_∧Yp .f32 y.heat_.a5_)∧(Yp .f32 y.fuel_.a0_∧Yp .f32 y.fuel_.a1_∧Yp .f32 y.fuel_.a2_∧Yp .f32 y.fuel_.a3_∧Yp .f32 y.fuel_.a4_∧Yp .f32 y.fuel_.a5_)):=by
 obtain ⟨es,rfl,h1,h2,h3⟩:=h
 obtain ⟨xs,rfl,h4⟩:=Js (fun x hx => okc_215 hx) h3
 exact ⟨xs,rfl,by simpa using h1,h4⟩
theorem okc_84 {x : List V} (h : Ok (.int .i8) x) : ∃ v : Int,x = Hr v∧(Lit.int .i8 v).wf = true:=by
 obtain ⟨b,rfl,hb⟩:=h
 exact ⟨b,rfl,hb⟩
theorem okc_108 {x : List V} (h : Ok (.seq (.slice 18 (.seq (.rep 6 (.float .f32)) (.seq (.rep 6 (.float .f32)) (.seq (.rep 6 (.float .f32)) (.unit))))) (.seq (.float .f32) (.seq (.float .f32) (.seq (.int .i8) (.seq (.int .i64) (.seq (.float .f32) (.unit))))))) x) : ∃ v : T85,x = cT85 v∧(v.logs_.length≤maxLen∧(∀ y ∈ v.logs_,(Yp .f32 y.wet_.a0_∧Yp .f32 y.wet_.a1_∧Yp .f32 y.wet_.a2_∧Yp .f32 y.wet_.a3_∧Yp .f32 y.wet_.a4_∧Yp .f32 y.wet_.a5_)∧(Yp .f32 y.heat_.a0_∧Yp .f32 y.heat_.a1_∧Yp .f32 y.heat_.a2_∧Yp .f32 y.heat_.a3_∧Yp .f32 y.heat_.a4_∧Yp .f32 y.heat_.a5_)∧(Yp .f32 y.fuel_.a0_∧Yp .f32 y.fuel_.a1_∧Yp .f32 y.fuel_.a2_∧Yp .f32 y.fuel_.a3_∧Yp .f32 y.fuel_.a4_∧Yp .f32 y.fuel_.a5_)))∧Yp .f32 v.box_∧Yp .f32 v.damper_∧(Lit.int .i8 v.state_).wf = true∧(Lit.int .i64 v.ash_).wf = true∧Yp .f32 v.dust_:=by
 obtain ⟨_,_,rfl,h0,h⟩:=h
 obtain ⟨v0,rfl,k0⟩:=okc_106 h0
 obtain ⟨_,_,rfl,h1,h⟩:=h
 obtain ⟨v1,rfl,k1⟩:=We h1
 obtain ⟨_,_,rfl,h2,h⟩:=h
 obtain ⟨v2,rfl,k2⟩:=We h2
 obtain ⟨_,_,rfl,h3,h⟩:=h
 obtain ⟨v3,rfl,k3⟩:=okc_84 h3
 obtain ⟨_,_,rfl,h4,h⟩:=h
 obtain ⟨v4,rfl,k4⟩:=okc_2 h4
 obtain ⟨_,_,rfl,h5,h⟩:=h
 obtain ⟨v5,rfl,k5⟩:=We h5
 cases h
 exact ⟨⟨v0,v1,v2,v3,v4,v5⟩,rfl,k0,k1,k2,k3,k4,k5⟩
theorem okc_110 {x : List V} (h : Ok (.seq (.int .i64) (.seq (.int .i64) (.seq (.int .i64) (.seq (.seq (.slice 18 (.seq (.rep 6 (.float .f32)) (.seq (.rep 6 (.float .f32)) (.seq (.rep 6 (.float .f32)) (.unit))))) (.seq (.float .f32) (.seq (.float .f32) (.seq (.int .i8) (.seq (.int .i64) (.seq (.float .f32) (.unit))))))) (.unit))))) x) : ∃ v : T87,x = Wa v∧(Lit.int .i64 v.room_).wf = true∧(Lit.int .i64 v.flue_).wf = true∧(Lit.int .i64 v.brain_).wf = true∧((v.stove_.logs_.length≤maxLen∧(∀ y ∈ v.stove_.logs_,(Yp .f32 y.wet_.a0_∧Yp .f32 y.wet_.a1_∧Yp .f32 y.wet_.a2_∧Yp .f32 y.wet_.a3_∧Yp .f32 y.wet_.a4_∧Yp .f32 y.wet_.a5_)∧(Yp .f32 y.heat_.a0_∧Yp .f32 y.heat_.a1_∧Yp .f32 y.heat_.a2_∧Yp .f32 y.heat_.a3_∧Yp .f32 y.heat_.a4_∧Yp .f32 y.heat_.a5_)∧(Yp .f32 y.fuel_.a0_∧Yp .f32 y.fuel_.a1_∧Yp .f32 y.fuel_.a2_∧Yp .f32 y.fuel_.a3_∧Yp .f32 y.fuel_.a4_∧Yp .f32 y.fuel_.a5_)))∧Yp .f32 v.stove_.box_∧Yp .f32 v.stove_.damper_∧(Lit.int .i8 v.stove_.state_).wf = true∧(Lit.int .i64 v.stove_.ash_).wf = true∧Yp .f32 v.stove_.dust_):=by
 obtain ⟨_,_,rfl,h0,h⟩:=h
 obtain ⟨v0,rfl,k0⟩:=okc_2 h0
 obtain ⟨_,_,rfl,h1,h⟩:=h
 obtain ⟨v1,rfl,k1⟩:=okc_2 h1
 obtain ⟨_,_,rfl,h2,h⟩:=h
 obtain ⟨v2,rfl,k2⟩:=okc_2 h2
 obtain ⟨_,_,rfl,h3,h⟩:=h
 obtain ⟨v3,rfl,k3⟩:=okc_108 h3
 cases h
 exact ⟨⟨v0,v1,v2,v3⟩,rfl,k0,k1,k2,k3⟩
theorem okc_28 {x : List V} (h : Ok (.slice 9 (.seq (.int .i64) (.seq (.int .i64) (.seq (.int .i64) (.seq (.seq (.slice 18 (.seq (.rep 6 (.float .f32)) (.seq (.rep 6 (.float .f32)) (.seq (.rep 6 (.float .f32)) (.unit))))) (.seq (.float .f32) (.seq (.float .f32) (.seq (.int .i8) (.seq (.int .i64) (.seq (.float .f32) (.unit))))))) (.unit)))))) x) : ∃ v : List T87,x = Qd v∧v.length≤maxLen∧(∀ y ∈ v,(Lit.int .i64 y.room_).wf = true∧(Lit.int .i64 y.flue_).wf = true∧(Lit.int .i64 y.brain_).wf = true∧((y.stove_.logs_.length≤maxLen∧(∀ y1 ∈ y.stove_.logs_,(Yp .f32 y1.wet_.a0_∧Yp .f32 y1.wet_.a1_∧Yp .f32 y1.wet_.a2_∧Yp .f32 y1.wet_.a3_∧Yp .f32 y1.wet_.a4_∧Yp .f32 y1.wet_.a5_)∧(Yp .f32 y1.heat_.a0_∧Yp .f32 y1.heat_.a1_∧Yp .f32 y1.heat_.a2_∧Yp .f32 y1.heat_.a3_∧Yp .f32 y1.heat_.a4_∧Yp .f32 y1.heat_.a5_)∧(Yp .f32 y1.fuel_.a0_∧Yp .f32 y1.fuel_.a1_∧Yp .f32 y1.fuel_.a2_∧Yp .f32 y1.fuel_.a3_∧Yp .f32 y1.fuel_.a4_∧Yp .f32 y1.fuel_.a5_)))∧Yp .f32 y.stove_.box_∧Yp .f32 y.stove_.damper_∧(Lit.int .i8 y.stove_.state_).wf = true∧(Lit.int .i64 y.stove_.ash_).wf = true∧Yp .f32 y.stove_.dust_)):=by
 obtain ⟨es,rfl,h1,h2,h3⟩:=h
 obtain ⟨xs,rfl,h4⟩:=Js (fun x hx => okc_110 hx) h3
 exact ⟨xs,rfl,by simpa using h1,h4⟩
theorem okc_9 {x : List V} (h : Ok (.str) x) : ∃ v : ByteArray,x = Yu v∧v.size≤maxLen:=by
 obtain ⟨b,rfl,hb⟩:=h
 exact ⟨b,rfl,hb⟩
theorem okc_29 {x : List V} (h : Ok (.slice 1 (.str)) x) : ∃ v : List ByteArray,x = Ki v∧v.length≤maxLen∧(∀ y ∈ v,y.size≤maxLen):=by
 obtain ⟨es,rfl,h1,h2,h3⟩:=h
 obtain ⟨xs,rfl,h4⟩:=Js (fun x hx => okc_9 hx) h3
 exact ⟨xs,rfl,by simpa using h1,h4⟩
theorem okc_129 {x : List V} (h : Ok (.seq (.float .f32) (.seq (.float .f32) (.seq (.float .f32) (.unit)))) x) : ∃ v : T51,x = Wq v∧Yp .f32 v.outside_∧Yp .f32 v.sun_∧Yp .f32 v.wind_:=by
 obtain ⟨_,_,rfl,h0,h⟩:=h
 obtain ⟨v0,rfl,k0⟩:=We h0
 obtain ⟨_,_,rfl,h1,h⟩:=h
 obtain ⟨v1,rfl,k1⟩:=We h1
 obtain ⟨_,_,rfl,h2,h⟩:=h
 obtain ⟨v2,rfl,k2⟩:=We h2
 cases h
 exact ⟨⟨v0,v1,v2⟩,rfl,k0,k1,k2⟩
theorem okc_30 {x : List V} (h : Ok (.slice 3 (.seq (.float .f32) (.seq (.float .f32) (.seq (.float .f32) (.unit))))) x) : ∃ v : List T51,x = Qe v∧v.length≤maxLen∧(∀ y ∈ v,Yp .f32 y.outside_∧Yp .f32 y.sun_∧Yp .f32 y.wind_):=by
 obtain ⟨es,rfl,h1,h2,h3⟩:=h
 obtain ⟨xs,rfl,h4⟩:=Js (fun x hx => okc_129 hx) h3
 exact ⟨xs,rfl,by simpa using h1,h4⟩
theorem okc_33 {x : List V} (h : Ok (.seq (.float .f32) (.seq (.float .f32) (.seq (.float .f32) (.seq (.float .f32) (.seq (.int .i64) (.unit)))))) x) : ∃ v : T32,x = Xw v∧Yp .f32 v.burnt_∧Yp .f32 v.steam_∧Yp .f32 v.up_∧Yp .f32 v.lost_∧(Lit.int .i64 v.smoky_).wf = true:=by
 obtain ⟨_,_,rfl,h0,h⟩:=h
 obtain ⟨v0,rfl,k0⟩:=We h0
 obtain ⟨_,_,rfl,h1,h⟩:=h
 obtain ⟨v1,rfl,k1⟩:=We h1
 obtain ⟨_,_,rfl,h2,h⟩:=h
 obtain ⟨v2,rfl,k2⟩:=We h2
 obtain ⟨_,_,rfl,h3,h⟩:=h
 obtain ⟨v3,rfl,k3⟩:=We h3
 obtain ⟨_,_,rfl,h4,h⟩:=h
 obtain ⟨v4,rfl,k4⟩:=okc_2 h4
 cases h
 exact ⟨⟨v0,v1,v2,v3,v4⟩,rfl,k0,k1,k2,k3,k4⟩
theorem okc_35 {x : List V} (h : Ok (.seq (.seq (.slice 1 (.float .f32)) (.seq (.slice 1 (.float .f32)) (.seq (.slice 8 (.seq (.int .i64) (.seq (.int .i64) (.seq (.float .f32) (.seq (.float .f32) (.seq (.rep 4 (.float .f32)) (.unit))))))) (.seq (.slice 4 (.seq (.int .i64) (.seq (.int .i64) (.seq (.float .f32) (.seq (.float .f32) (.unit)))))) (.unit))))) (.seq (.slice 5 (.seq (.float .f32) (.seq (.float .f32) (.seq (.float .f32) (.seq (.float .f32) (.seq (.int .i64) (.unit))))))) (.seq (.slice 9 (.seq (.int .i64) (.seq (.int .i64) (.seq (.int .i64) (.seq (.seq (.slice 18 (.seq (.rep 6 (.float .f32)) (.seq (.rep 6 (.float .f32)) (.seq (.rep 6 (.float .f32)) (.unit))))) (.seq (.float .f32) (.seq (.float .f32) (.seq (.int .i8) (.seq (.int .i64) (.seq (.float .f32) (.unit))))))) (.unit)))))) (.seq (.slice 1 (.str)) (.seq (.slice 3 (.seq (.float .f32) (.seq (.float .f32) (.seq (.float .f32) (.unit))))) (.seq (.int .i64) (.seq (.seq (.float .f32) (.seq (.float .f32) (.seq (.float .f32) (.seq (.float .f32) (.seq (.int .i64) (.unit)))))) (.unit)))))))) x) : ∃ v : T34,x = cT34 v∧((v.flat_.heat_.length≤maxLen∧(∀ y ∈ v.flat_.heat_,Yp .f32 y))∧(v.flat_.store_.length≤maxLen∧(∀ y ∈ v.flat_.store_,Yp .f32 y))∧(v.flat_.walls_.length≤maxLen∧(∀ y ∈ v.flat_.walls_,(Lit.int .i64 y.a_).wf = true∧(Lit.int .i64 y.b_).wf = true∧Yp .f32 y.lead_∧Yp .f32 y.store_∧(Yp .f32 y.heat_.a0_∧Yp .f32 y.heat_.a1_∧Yp .f32 y.heat_.a2_∧Yp .f32 y.heat_.a3_)))∧(v.flat_.panes_.length≤maxLen∧(∀ y ∈ v.flat_.panes_,(Lit.int .i64 y.a_).wf = true∧(Lit.int .i64 y.b_).wf = true∧Yp .f32 y.lead_∧Yp .f32 y.sun_)))∧(v.chimney_.length≤maxLen∧(∀ y ∈ v.chimney_,Yp .f32 y.burnt_∧Yp .f32 y.steam_∧Yp .f32 y.up_∧Yp .f32 y.lost_∧(Lit.int .i64 y.smoky_).wf = true))∧(v.hearths_.length≤maxLen∧(∀ y ∈ v.hearths_,(Lit.int .i64 y.room_).wf = true∧(Lit.int .i64 y.flue_).wf = true∧(Lit.int .i64 y.brain_).wf = true∧((y.stove_.logs_.length≤maxLen∧(∀ y1 ∈ y.stove_.logs_,(Yp .f32 y1.wet_.a0_∧Yp .f32 y1.wet_.a1_∧Yp .f32 y1.wet_.a2_∧Yp .f32 y1.wet_.a3_∧Yp .f32 y1.wet_.a4_∧Yp .f32 y1.wet_.a5_)∧(Yp .f32 y1.heat_.a0_∧Yp .f32 y1.heat_.a1_∧Yp .f32 y1.heat_.a2_∧Yp .f32 y1.heat_.a3_∧Yp .f32 y1.heat_.a4_∧Yp .f32 y1.heat_.a5_)∧(Yp .f32 y1.fuel_.a0_∧Yp .f32 y1.fuel_.a1_∧Yp .f32 y1.fuel_.a2_∧Yp .f32 y1.fuel_.a3_∧Yp .f32 y1.fuel_.a4_∧Yp .f32 y1.fuel_.a5_)))∧Yp .f32 y.stove_.box_∧Yp .f32 y.stove_.damper_∧(Lit.int .i8 y.stove_.state_).wf = true∧(Lit.int .i64 y.stove_.ash_).wf = true∧Yp .f32 y.stove_.dust_)))∧(v.sources_.length≤maxLen∧(∀ y ∈ v.sources_,y.size≤maxLen))∧(v.hours_.length≤maxLen∧(∀ y ∈ v.hours_,Yp .f32 y.outside_∧Yp .f32 y.sun_∧Yp .f32 y.wind_))∧(Lit.int .i64 v.tick_).wf = true∧(Yp .f32 v.sums_.burnt_∧Yp .f32 v.sums_.steam_∧Yp .f32 v.sums_.up_∧Yp .f32 v.sums_.lost_∧(Lit.int .i64 v.sums_.smoky_).wf = true):=by
 obtain ⟨_,_,rfl,h0,h⟩:=h
 obtain ⟨v0,rfl,k0⟩:=okc_26 h0
 obtain ⟨_,_,rfl,h1,h⟩:=h
 obtain ⟨v1,rfl,k1⟩:=okc_27 h1
 obtain ⟨_,_,rfl,h2,h⟩:=h
 obtain ⟨v2,rfl,k2⟩:=okc_28 h2
 obtain ⟨_,_,rfl,h3,h⟩:=h
 obtain ⟨v3,rfl,k3⟩:=okc_29 h3
 obtain ⟨_,_,rfl,h4,h⟩:=h
 obtain ⟨v4,rfl,k4⟩:=okc_30 h4
 obtain ⟨_,_,rfl,h5,h⟩:=h
 obtain ⟨v5,rfl,k5⟩:=okc_2 h5
 obtain ⟨_,_,rfl,h6,h⟩:=h
 obtain ⟨v6,rfl,k6⟩:=okc_33 h6
 cases h
 exact ⟨⟨v0,v1,v2,v3,v4,v5,v6⟩,rfl,k0,k1,k2,k3,k4,k5,k6⟩
theorem shp_35 : shp Tryz.prog 12 35 = some (.seq (.seq (.slice 1 (.float .f32)) (.seq (.slice 1 (.float .f32)) (.seq (.slice 8 (.seq (.int .i64) (.seq (.int .i64) (.seq (.float .f32) (.seq (.float .f32) (.seq (.rep 4 (.float .f32)) (.unit))))))) (.seq (.slice 4 (.seq (.int .i64) (.seq (.int .i64) (.seq (.float .f32) (.seq (.float .f32) (.unit)))))) (.unit))))) (.seq (.slice 5 (.seq (.float .f32) (.seq (.float .f32) (.seq (.float .f32) (.seq (.float .f32) (.seq (.int .i64) (.unit))))))) (.seq (.slice 9 (.seq (.int .i64) (.seq (.int .i64) (.seq (.int .i64) (.seq (.seq (.slice 18 (.seq (.rep 6 (.float .f32)) (.seq (.rep 6 (.float .f32)) (.seq (.rep 6 (.float .f32)) (.unit))))) (.seq (.float .f32) (.seq (.float .f32) (.seq (.int .i8) (.seq (.int .i64) (.seq (.float .f32) (.unit))))))) (.unit)))))) (.seq (.slice 1 (.str)) (.seq (.slice 3 (.seq (.float .f32) (.seq (.float .f32) (.seq (.float .f32) (.unit))))) (.seq (.int .i64) (.seq (.seq (.float .f32) (.seq (.float .f32) (.seq (.float .f32) (.seq (.float .f32) (.seq (.int .i64) (.unit)))))) (.unit)))))))):=by kernel_rfl
set_option maxRecDepth 100000 in
theorem FnExactFuelInHouse_walk (xs : List V) (h : OkAll Tryz.prog [35] xs) : Qk Tryz.prog 5 xs (fun r => r = .b true):=by
 obtain ⟨y0,ys0,rfl,h0,k0⟩:=h.cons_inv
 obtain rfl:=k0.nil_inv
 obtain ⟨sh0,s0,h0⟩:=h0
 rw [shp_35] at s0
 cases s0
 unfold OkA at h0
 rw [y_35.2.2.2.1] at h0
 obtain ⟨_,rfl,h0⟩:=h0
 obtain ⟨a0,rfl,b0⟩:=okc_35 h0
 exact ok5.2 _ _ (Zf inj5 (a:=a0) (law5 a0 b0))
theorem star_ : "*" ++ "errors.errorString" = "*errors.errorString":=by decide
theorem row_err (u : TypeId) (h : Tryz.prog.typeName? 3 u = some "*errors.errorString") : u = 271 :=
 typeName_ptr_named (nm:= "errors.errorString") (by rw [star_]; kernel_rfl) (by kernel_rfl) (by decide) u (by rw [star_]; exact h)
theorem Gs (os : Os) (args : Array Value) : laidMetH Tryz.prog Rows.fnExactFuelInHouseRow.laid ((World.laidAll Tryz.prog os Rows.fnExactFuelInHouseRow.laid).forCall (fun _ _ => 0) ⟨#[],args,[]⟩).memory:=by
 rw [MakeChecks.laidMetH_plain _ _ _ (by kernel_rfl)]
 exact laidMet_laidAll _ (by kernel_rfl) (by kernel_rfl)
theorem Gr {W : World} (h : laidMetH Tryz.prog Rows.fnExactFuelInHouseRow.laid W) (hsh : W.ShapedOpen Tryz.prog) : Glob Tryz.prog W:=by
 rw [MakeChecks.laidMetH_plain _ _ _ (by kernel_rfl)] at h
 exact ⟨fun g hg => Lib.tabIs_of_head (k:=.u64) (zs:=Lib.pow10Tab) (show Tryz.prog.globalNamed "internal/strconv.uint64pow10" = some 6 by kernel_rfl) (show (Tryz.prog.globals[6]?).map (·.type) = some 265 by kernel_rfl) Tryz.underlying265 Tryz.underlying221 (by kernel_rfl) (by kernel_rfl) (h.tail.tail),fun g hg => (by
  obtain ⟨a,s,h1,_⟩:=laid_sentinel (h.tail.tail.tail.tail.tail) (show Tryz.prog.globalNamed "strconv.ErrSyntax" = some 4 by kernel_rfl) (show (Tryz.prog.globals[4]?).map (·.type) = some 236 by kernel_rfl) Tryz.underlying236 row_err Tryz.underlying271 Tryz.underlying273 rfl rfl Tryz.underlying9 (by kernel_rfl) (by kernel_rfl)
  exact ⟨_,_,h1⟩),fun g hg => (by
  obtain ⟨a,s,h1,_⟩:=laid_sentinel (h.tail.tail.tail.tail) (show Tryz.prog.globalNamed "strconv.ErrRange" = some 5 by kernel_rfl) (show (Tryz.prog.globals[5]?).map (·.type) = some 236 by kernel_rfl) Tryz.underlying236 row_err Tryz.underlying271 Tryz.underlying273 rfl rfl Tryz.underlying9 (by kernel_rfl) (by kernel_rfl)
  exact ⟨_,_,h1⟩),int_var (z:=0) (t:=3) hsh (show Tryz.prog.globalNamed "internal/bytealg.MaxLen" = some 1 by kernel_rfl) (by kernel_rfl) (by kernel_rfl) (by kernel_rfl) (by kernel_rfl) Tryz.underlying3⟩
set_option maxRecDepth 100000 in
theorem Hj (os : Os) (started : os.Started) (H : Type) (enc : TypeId × Value→H) :
  ReturnsInHanded {} Tryz.checked os 5 .any (fun w args => (Rows.fnExactFuelInHouseSpec.pre enc Tryz.prog Tryz.f5 [] false w args∧laidMetH Tryz.prog Rows.fnExactFuelInHouseRow.laid w)∧sizedMet enc Tryz.prog Tryz.f5 (OpenSpec.ofChange Rows.fnExactFuelInHouseSpec) false w args) (Rows.fnExactFuelInHouseSpec.post enc Tryz.prog Tryz.f5 false true false false):=by
 refine handed_laid (C:=Tryz.checked) (X:=fun w _ => laidMetH Tryz.prog Rows.fnExactFuelInHouseRow.laid w) (fun _ _ _ hh h => h.of_heap hh) own started (by kernel_rfl) Tryz.func5
  (ChangeSpec.witness_shaped (enc:=enc) (C:=Tryz.checked) (os:=os) (X:=fun w _ => laidMetH Tryz.prog Rows.fnExactFuelInHouseRow.laid w) false (World.laidAll Tryz.prog os Rows.fnExactFuelInHouseRow.laid) #[.agg #[.slice none 0 0,.slice none 0 0,.slice none 0 0,.slice none 0 0,.slice none 0 0,.slice none 0 0,.slice none 0 0,.slice none 0 0,.int .i64 0,.float .f32 0,.float .f32 0,.float .f32 0,.float .f32 0,.int .i64 0]] 8 (World.laidAll_os _ _ _) (World.shaped_of_ZipB (by kernel_rfl) (by kernel_rfl)) (by kernel_rfl) (by kernel_rfl) (by kernel_rfl) (Gs os _)) ?_
 intro W base args ds gs before hL hsh hval0 hW
 have hval : ∀ (j : Nat) t v,Tryz.f5.params[j]? = some t→args[j]? = some v→Value.okWide Tryz.prog W .any base t v:=hval0
 have hW':=hW
 obtain ⟨p,q,hA0,hV,rfl,hfz,hnd⟩:=hW
 have hA : DataW.TrodAll enc Tryz.prog W 0 (fun _ => true) true Tryz.f5.params.toList args.toList ds p:=hA0
 rw [Tryz.params5] at hA hval
 obtain ⟨xs,hS,hOk⟩:=args_S (by kernel_rfl) (fun j t v a b => hval j t v (by simpa using a) (by simpa using b)) hA
 obtain ⟨rfl,rfl⟩:=trodVars_none hV
 have hlen : ds.length = 1:=by
  obtain ⟨v0,vs0,d0,ds0,p0,q0,_,hds,_,_,r0⟩:=trodAll_cons hA
  obtain ⟨_,rfl,_⟩:=trodAll_nil r0
  rw [hds]; rfl
 refine ((FnExactFuelInHouse_walk xs hOk).law hS (Gr hL hsh)).mono fun e W' ⟨he,bel⟩ => ?_
 subst he
 have hB:=args_behind laidOut bel (by kernel_rfl) hA
 have hds : ∃ d0,ds = [d0]:=by
  match ds,hlen with
  | [d0],_ => exact ⟨d0,rfl⟩
 obtain ⟨d0,rfl⟩:=hds
 exact ⟨_,rfl,_,_,_,[],_,[],hW',trodAll_mk1 (shut_bool Tryz.underlying4 _),hB,rfl,bel.frame _,fun h => by cases h⟩
theorem FnExactFuelInHouse_row : Rows.FnExactFuelInHouseSaid :=
 OpenClaim.holds_of_wide 5 Tryz.f5 rfl rfl rfl rfl rfl rfl rfl ⟨rfl,rfl,rfl,rfl,rfl⟩ rfl rfl rfl rfl rfl (by kernel_rfl) Tryz.func5 (by kernel_rfl)
  (of_decide_eq_true (by kernel_rfl)) (by unfold Func.isWrapper; first | (rw [if_pos (by decide +kernel)]; kernel_rfl) | (rw [if_neg (by decide +kernel)]; exact ⟨rfl,rfl⟩))
  (fun os started H enc _ => Hj os started H enc)
theorem FnExactFuelInHouse_proved : Rows.FnExactFuelInHouseCardSaid :=
 Claim7.holds_tied_plain_at .later [] [.data,.data,.data,.data,.sentinel,.sentinel,.pinned] true (true,"6c4fefd7fc3100a95a0376b996669e934eea68acffca1a95330504668fad5848") true
  FnExactFuelInHouse_row (fun _ h => by cases h) (by kernel_rfl) (fun _ h => by cases h) fnExactFuelInHouse_row_tie rfl ⟨rfl,rfl⟩ (by kernel_rfl) rfl
  (fun f fn hf hfn => by
   obtain rfl : f = 5:=Option.some.inj ((show Tryz.prog.funcNamed "loop.example/g01229/laws.FnExactFuelInHouse" = some 5 by kernel_rfl).symm.trans hf) |>.symm
   obtain rfl : fn = Tryz.f5:=(Option.some.inj (Tryz.func5.symm.trans hfn)).symm
   exact ⟨by kernel_rfl,fun j t ht => by
    rw [Tryz.params5] at ht
    have hm : t ∈ [35]:=by simpa using Array.mem_of_getElem? ht
    have hall : ([35].all fun u => !Tryz.prog.wantsStandIn u) = true:=by kernel_rfl
    exact (show Tryz.prog.wantsStandIn t = false by simpa using List.all_eq_true.1 hall t hm)⟩)
  (by kernel_rfl)
end Go.Proofs.YtloepppmjppddaaGreatDoor
