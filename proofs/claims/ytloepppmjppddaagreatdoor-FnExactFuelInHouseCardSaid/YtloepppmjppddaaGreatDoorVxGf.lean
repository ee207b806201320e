/- The logic for functions that are told by a function in Lean: loops as a partial iteration, regions by their outcome, opaque number operations, rows of cells. -/
import Derived.Test.YtloepppmjppddaaGreatDoorVxGe
namespace Go.VL
open Go.RowKit
set_option linter.unusedSimpArgs false
set_option linter.unusedVariables false
section
variable {σ ρ : Type}
def Hp (body : σ→Option (σ ⊕ ρ)) : Nat→σ→Option ρ
 | 0,_ => none
 | n + 1,x => (body x).bind fun o => match o with | .inl y => Hp body n y | .inr r => some r
def kN (body : σ→Option (σ ⊕ ρ)) (n : Nat) : σ ⊕ ρ→Option ρ
 | .inl y => Hp body n y
 | .inr r => some r
theorem Kv {body : σ→Option (σ ⊕ ρ)} {n : Nat} {x : σ} : Hp body (n + 1) x = (body x).bind (kN body n):=by
 simp only [Hp]
 congr 1
theorem loopN_more {body : σ→Option (σ ⊕ ρ)} : ∀ {n : Nat} {x : σ} {r : ρ},Hp body n x = some r→Hp body (n + 1) x = some r
 | 0,_,_,h => by cases h
 | n + 1,x,r,h => by
  rw [Kv] at h ⊢
  cases hb : body x with
  | none => rw [hb] at h; cases h
  | some o =>
   rw [hb] at h
   cases o with
   | inl y => exact loopN_more (n:=n) h
   | inr r' => exact h
theorem loopN_le {body : σ→Option (σ ⊕ ρ)} {n m : Nat} {x : σ} {r : ρ} (h : Hp body n x = some r) (hl : n≤m) : Hp body m x = some r:=by
 induction hl with
 | refl => exact h
 | step _ ih => exact loopN_more ih
open Classical in
noncomputable def loopO (body : σ→Option (σ ⊕ ρ)) (x : σ) : Option ρ:=if h : ∃ n r,Hp body n x = some r then some h.choose_spec.choose else none
theorem loopO_iff {body : σ→Option (σ ⊕ ρ)} {x : σ} {r : ρ} : loopO body x = some r ↔ ∃ n,Hp body n x = some r:=by
 unfold loopO
 constructor
 ·intro h
  split at h
  ·rename_i hh
   cases h
   exact ⟨_,hh.choose_spec.choose_spec⟩
  ·cases h
 ·intro ⟨n,h⟩
  have hh : ∃ n r,Hp body n x = some r:=⟨n,r,h⟩
  rw [dif_pos hh]
  have h1:=loopN_le hh.choose_spec.choose_spec (Nat.le_max_left hh.choose n)
  have h2:=loopN_le h (Nat.le_max_right hh.choose n)
  rw [h1] at h2
  exact h2
theorem Ut {body : σ→Option (σ ⊕ ρ)} {x y : σ} (h : body x = some (.inl y)) : loopO body x = loopO body y:=by
 apply Option.ext
 intro r
 rw [loopO_iff,loopO_iff]
 constructor
 ·intro ⟨n,hn⟩
  cases n with
  | zero => cases hn
  | succ n => rw [Kv,h] at hn; exact ⟨n,hn⟩
 ·intro ⟨n,hn⟩
  exact ⟨n + 1,by rw [Kv,h]; exact hn⟩
theorem Xt {body : σ→Option (σ ⊕ ρ)} {x : σ} {r : ρ} (h : body x = some (.inr r)) : loopO body x = some r :=
 loopO_iff.2 ⟨1,by rw [Kv,h]; rfl⟩
theorem Yd {body : σ→Option (σ ⊕ ρ)} {n : Nat} {r o : ρ} (h : (some (.inr r) : Option (σ ⊕ ρ)).bind (kN body n) = some o) : o = r:=(Option.some.inj h).symm
theorem Yr {body : σ→Option (σ ⊕ ρ)} {n : Nat} {y : σ} {o : ρ} (h : (some (.inl y) : Option (σ ⊕ ρ)).bind (kN body n) = some o) : Hp body n y = some o:=h
theorem Yz {α : Type} {r o : α} (h : (some r).bind some = some o) : o = r:=(Option.some.inj h).symm
theorem Zc {α β γ : Type} {e : Option α} {f : α→Option β} {K : β→Option γ} {o : γ} (h : (e.bind f).bind K = some o) : ∃ v,e = some v∧(f v).bind K = some o:=by
 cases e with
 | none => cases h
 | some v => exact ⟨v,rfl,h⟩
theorem bindT {β γ : Type} {e : Option β} {K : β→Option γ} {o : γ} (h : e.bind K = some o) : ∃ v,e = some v∧K v = some o:=by
 cases e with
 | none => cases h
 | some v => exact ⟨v,rfl,h⟩
theorem Yb {α β : Type} {e : Option α} {f : α→Option β} {o : β} (h : e.bind f = some o) : ∃ v,e = some v∧f v = some o:=by
 cases e with
 | none => cases h
 | some v => exact ⟨v,rfl,h⟩
theorem Qi {α : Type} {e : Option α} {o : α} (h : e = some o) : e.bind some = some o:=by rw [h]; rfl
theorem iteT {γ : Type} {p : Prop} [Decidable p] {a b : Option γ} {δ : Type} {K : γ→Option δ} {o : δ} (hp : p) (h : (if p then a else b).bind K = some o) : a.bind K = some o:=by rwa [if_pos hp] at h
theorem iteF {γ : Type} {x : Bool} {a b : Option γ} {δ : Type} {K : γ→Option δ} {o : δ} (hp : x = false) (h : (if x = true then a else b).bind K = some o) : b.bind K = some o:=by subst hp; simpa using h
end
section
variable {P : Program} {C : Qc} {Q : Exit→VS→Prop} {st : VS}
theorem Uc {c : Code} (h : VW P c (fun e s => ∃ s',Qm s s'∧Q e s') st) : VW P c Q st:=fun N w0 a w φ hs =>
 wp_mono (h N w0 a w φ hs) fun e a' w' ⟨s,φ',⟨s',h1,h2⟩,h3⟩ => by
  obtain ⟨φ'',h4⟩:=h1 P N w0 a' w' φ' h3
  exact ⟨s',φ'',h2,h4⟩
theorem VW.loopO {σ ρ : Type} {body : σ→Option (σ ⊕ ρ)} (H : σ→VS) {x0 : σ} {o : ρ} {c : Code} (h : VL.loopO body x0 = some o) (he : Qm st (H x0))
  (round : ∀ n x,(body x).bind (kN body n) = some o→VW P c (vthen (fun s' => ∃ x',Hp body n x' = some o∧Qm s' (H x')) Q) (H x)) : VW P (.loop c) Q st:=by
 obtain ⟨n,hn⟩:=loopO_iff.1 h
 refine VW.loop (fun n s => ∃ x,Hp body n x = some o∧s = H x) he ⟨x0,hn,rfl⟩ fun n s ⟨x,h1,h2⟩ => ?_
 subst h2
 cases n with
 | zero => cases h1
 | succ n =>
  rw [Kv] at h1
  refine (round n x h1).mono fun e s' hq => ?_
  cases e with
  | normal =>
   obtain ⟨x',h3,h4⟩:=hq
   exact ⟨n,H x',h4,Nat.lt_succ_self n,x',h3,rfl⟩
  | _ => exact hq
theorem VW.join {σ : Type} (H : σ→VS) (K : σ→Prop) {x y : Code} (h : VW P x (vthen (fun s => ∃ v,K v∧Qm s (H v)) Q) st) (hj : ∀ v,K v→VW P y Q (H v)) : VW P (.seq x y) Q st:=by
 refine VW.seq (h.mono fun e s hq => ?_)
 cases e with
 | normal =>
  obtain ⟨v,h1,h2⟩:=hq
  exact VW.ent h2 (hj v h1)
 | _ => exact hq
theorem Qm.fgt' {t t' : List V} {m : VM} (h : t.length = t'.length∧∀ (i : Nat) (v : V),t'[i]? = some v→∀ (w : World) (φ : Pl) (u : Value),(∃ v',t[i]? = some v'∧S w (Yf φ m) φ v' u)→S w (Yf φ m) φ v u) {g : List V} : Qm { t:=t,m:=m,g:=g } { t:=t',m:=m,g:=g }:=by
 intro P N w0 a w φ hs
 refine ⟨φ,hs.defers,by rw [hs.size]; exact h.1,fun i v hi => ?_,hs.mem,hs.below,hs.start,hs.gh,hs.gl⟩
 have hi' : i < t.length:=by rw [h.1]; exact (List.getElem?_eq_some_iff.1 hi).1
 obtain ⟨u,h1,h2⟩:=hs.tmps i t[i] (List.getElem?_eq_getElem hi')
 exact ⟨u,h1,h.2 i v hi w φ u ⟨_,List.getElem?_eq_getElem hi',h2⟩⟩
def Hu : V→V→Prop
 | _,.any => True
 | .nil,.sl _ [] => True
 | a,b => a = b
theorem le1_S {w : World} {O : Nat→Prop} {φ : Pl} {a b : V} {u : Value} (h : Hu a b) (hs : S w O φ a u) : S w O φ b u:=by
 unfold Hu at h
 split at h
 ·exact .any
 ·cases hs; exact .slnil
 ·subst h; exact hs
def leL : List V→List V→Prop
 | [],[] => True
 | a :: s,b :: t => Hu a b∧leL s t
 | _,_ => False
theorem leL.get : ∀ {s t : List V},leL s t→s.length = t.length∧∀ (i : Nat) (b : V),t[i]? = some b→∃ a,s[i]? = some a∧Hu a b
 | [],[],_ => ⟨rfl,by simp⟩
 | a :: s,b :: t,h => by
  obtain ⟨h1,h2⟩:=leL.get h.2
  refine ⟨by simp [h1],fun i x hx => ?_⟩
  cases i with
  | zero => simp at hx; subst hx; exact ⟨a,rfl,h.1⟩
  | succ i => simpa using h2 i x (by simpa using hx)
 | [],_ :: _,h => h.elim
 | _ :: _,[],h => h.elim
theorem Km {t t' : List V} {m : VM} (h : leL t t') {g : List V} : Qm { t:=t,m:=m,g:=g } { t:=t',m:=m,g:=g }:=by
 obtain ⟨h1,h2⟩:=h.get
 refine Qm.fgt' ⟨h1,fun i v hi w φ u ⟨v',hv,hs⟩ => ?_⟩
 obtain ⟨a,ha,hle⟩:=h2 i v hi
 rw [hv] at ha
 cases ha
 exact le1_S hle hs
@[simp] theorem leL_nil : leL [] [] = True:=rfl
@[simp] theorem leL_cons {a b : V} {s t : List V} : leL (a :: s) (b :: t) = (Hu a b∧leL s t):=rfl
@[simp] theorem le1_any {a : V} : Hu a .any = True:=by unfold Hu; split <;> simp_all
@[simp] theorem le1_i {a : V} {k : IntKind} {n : Int} : Hu a (.i k n) = (a = .i k n):=by unfold Hu; split <;> simp_all
@[simp] theorem le1_b {a : V} {n : Bool} : Hu a (.b n) = (a = .b n):=by unfold Hu; split <;> simp_all
@[simp] theorem le1_f {a : V} {k : FloatKind} {n : Option Nat} : Hu a (.f k n) = (a = .f k n):=by unfold Hu; split <;> simp_all
@[simp] theorem le1_str {a : V} {n : ByteArray} : Hu a (.str n) = (a = .str n):=by unfold Hu; split <;> simp_all
@[simp] theorem le1_s {a : V} {n : Value} : Hu a (.s n) = (a = .s n):=by unfold Hu; split <;> simp_all
@[simp] theorem le1_nil {a : V} : Hu a .nil = (a = .nil):=by unfold Hu; split <;> simp_all
@[simp] theorem le1_ref {a : V} {b e n : Nat} : Hu a (.ref b e n) = (a = .ref b e n):=by unfold Hu; split <;> simp_all
@[simp] theorem le1_refc {a : V} {b e j q n : Nat} : Hu a (.refc b e j q n) = (a = .refc b e j q n):=by unfold Hu; split <;> simp_all
@[simp] theorem le1_ptr {a : V} {b e n : Nat} : Hu a (.ptr b e n) = (a = .ptr b e n):=by unfold Hu; split <;> simp_all
@[simp] theorem le1_cptr {a : V} {cs : List V} {n : Nat} : Hu a (.cptr cs n) = (a = .cptr cs n):=by unfold Hu; split <;> simp_all
@[simp] theorem le1_agg {a : V} {cs : List V} : Hu a (.agg cs) = (a = .agg cs):=by unfold Hu; split <;> simp_all
@[simp] theorem le1_tup {a : V} {cs : List V} : Hu a (.tup cs) = (a = .tup cs):=by unfold Hu; split <;> simp_all
@[simp] theorem le1_sl {n : Nat} {es es' : List (List V)} {n' : Nat} : Hu (.sl n es) (.sl n' es') = (n = n'∧es = es'):=by unfold Hu; split <;> simp_all
@[simp] theorem le1_nsl {n' : Nat} : Hu .nil (.sl n' []) = True:=by unfold Hu; simp
def toSt0 (x : Option VS) (t' : List V) (m' : VM) (g' : List V) : Prop :=
 match x with
 | some s => leL s.t t'∧s.m = m'∧s.g = g'
 | none => False
structure toSt (x : Option VS) (t' : List V) (m' : VM) (g' : List V) : Prop where
 of ::
 out : toSt0 x t' m' g'
@[simp] theorem toSt_some {s : VS} {t' : List V} {m' : VM} {g' : List V} : toSt (some s) t' m' g' = (leL s.t t'∧s.m = m'∧s.g = g'):=propext ⟨fun h => h.out,fun h => ⟨h⟩⟩
@[simp] theorem toSt_none {t' : List V} {m' : VM} {g' : List V} : toSt none t' m' g' = False:=propext ⟨fun h => h.out,fun h => h.elim⟩
theorem toSt.get {x : Option VS} {t' : List V} {m' : VM} {g' : List V} (h : toSt x t' m' g') : ∃ t,x = some { t:=t,m:=m',g:=g' }∧leL t t':=by
 cases x with
 | none => exact h.out.elim
 | some s => obtain ⟨h1,h2,h3⟩:=h.out; subst h2; subst h3; exact ⟨s.t,rfl,h1⟩
theorem Yg {id : Nat} {l : List Oper} (t' : List V) (m' : VM) (g' : List V) (hC : C.Ok P) (hg : Xp l.toArray l.length none l = true) (h : toSt (Wj P C l.toArray l.length none l st) t' m' g') (hQ : Q .normal { t:=t',m:=m',g:=g' }) : VW P (.region id l.toArray false) Q st:=by
 obtain ⟨t,h1,h2⟩:=h.get
 exact Uc (.eval hC hg h1 ⟨_,Km h2,hQ⟩)
theorem Ug {id : Nat} {l : List Oper} (t' : List V) (m' : VM) (g' : List V) (hC : C.Ok P) (hm : P.follows .mixedOrders = true) (hc : (Qu l && Ud l && Xp l.toArray l.length none l) = true) (h : toSt (Wj P C l.toArray l.length none l st) t' m' g') (hQ : Q .normal { t:=t',m:=m',g:=g' }) : VW P (.region id l.toArray true) Q st:=by
 obtain ⟨t,h1,h2⟩:=h.get
 simp only [Bool.and_eq_true] at hc
 exact Uc (.evalD hC hm hc.1.1 hc.1.2 hc.2 h1 ⟨_,Km h2,hQ⟩)
end
def nl1 : V→V→Prop
 | .nil,.own _ [] => True
 | a,b => a = b
def nlL : List V→List V→Prop
 | [],[] => True
 | a :: s,b :: t => nl1 a b∧nlL s t
 | _,_ => False
def nl2 : V→V→Prop
 | .agg s,.agg t => nlL s t
 | a,b => nl1 a b
def nlL2 : List V→List V→Prop
 | [],[] => True
 | a :: s,b :: t => nl2 a b∧nlL2 s t
 | _,_ => False
def nl : V→V→Prop
 | .tup s,.tup t => nlL2 s t
 | a,b => nl2 a b
theorem nl1_RV {w : World} {a b : V} {u : Value} {F : List Nat} (h : nl1 a b) (hr : RV w a u F) : RV w b u F:=by
 unfold nl1 at h
 split at h
 ·have h1:=hr.pF rfl
  have h2:=hr.pinv rfl
  subst h1
  cases h2
  exact .ownnil
 ·subst h; exact hr
theorem nlL_RV {w : World} : ∀ {a b : List V} {u : List Value} {F : List Nat},nlL a b→Rl w a u F→Rl w b u F
 | [],[],_,_,_,hr => hr
 | _ :: _,_ :: _,_,_,h,.cons hv hs => .cons (nl1_RV h.1 hv) (nlL_RV h.2 hs)
 | [],_ :: _,_,_,h,_ => h.elim
 | _ :: _,[],_,_,h,_ => h.elim
theorem nl2_RV {w : World} {a b : V} {u : Value} {F : List Nat} (h : nl2 a b) (hr : RV w a u F) : RV w b u F:=by
 unfold nl2 at h
 split at h
 ·obtain ⟨us,rfl,hr2⟩:=RV.agg_inv hr _ rfl
  exact .agg (nlL_RV h hr2)
 ·exact nl1_RV h hr
theorem nlL2_RV {w : World} : ∀ {a b : List V} {u : List Value} {F : List Nat},nlL2 a b→Rl w a u F→Rl w b u F
 | [],[],_,_,_,hr => hr
 | _ :: _,_ :: _,_,_,h,.cons hv hs => .cons (nl2_RV h.1 hv) (nlL2_RV h.2 hs)
 | [],_ :: _,_,_,h,_ => h.elim
 | _ :: _,[],_,_,h,_ => h.elim
theorem nl_RV {w : World} {a b : V} {u : Value} {F : List Nat} (h : nl a b) (hr : RV w a u F) : RV w b u F:=by
 unfold nl at h
 split at h
 ·obtain ⟨us,rfl,hr2⟩:=RV.tup_inv hr _ rfl
  exact .tup (nlL2_RV h hr2)
 ·exact nl2_RV h hr
theorem Qk.nl {P : Program} {f : FuncId} {args : List V} {r : V} (h : Qk P f args (fun x => nl x r)) : Qk P f args (fun x => x = r):=fun w us hg hs =>
 (h w us hg hs).mono fun e w' ⟨x,u,F,h1,h2,h3,h4⟩ => ⟨r,u,F,h1,rfl,nl_RV h2 h3,h4⟩
@[simp] theorem nl1_i {a : V} {k : IntKind} {n : Int} : nl1 a (.i k n) = (a = .i k n):=by unfold nl1; split <;> simp_all
@[simp] theorem nl1_b {a : V} {n : Bool} : nl1 a (.b n) = (a = .b n):=by unfold nl1; split <;> simp_all
@[simp] theorem nl1_f {a : V} {k : FloatKind} {n : Option Nat} : nl1 a (.f k n) = (a = .f k n):=by unfold nl1; split <;> simp_all
@[simp] theorem nl1_str {a : V} {n : ByteArray} : nl1 a (.str n) = (a = .str n):=by unfold nl1; split <;> simp_all
@[simp] theorem nl1_s {a : V} {n : Value} : nl1 a (.s n) = (a = .s n):=by unfold nl1; split <;> simp_all
@[simp] theorem nl1_nil {a : V} : nl1 a .nil = (a = .nil):=by unfold nl1; split <;> simp_all
@[simp] theorem nl1_own {n n' : Nat} {es es' : List (List V)} : nl1 (.own n es) (.own n' es') = (n = n'∧es = es'):=by unfold nl1; split <;> simp_all
@[simp] theorem nl1_nown {n' : Nat} : nl1 .nil (.own n' []) = True:=by unfold nl1; simp
@[simp] theorem nlL_nil : nlL [] [] = True:=rfl
@[simp] theorem nlL_cons {a b : V} {s t : List V} : nlL (a :: s) (b :: t) = (nl1 a b∧nlL s t):=rfl
@[simp] theorem nlL2_nil : nlL2 [] [] = True:=rfl
@[simp] theorem nlL2_cons {a b : V} {s t : List V} : nlL2 (a :: s) (b :: t) = (nl2 a b∧nlL2 s t):=rfl
@[simp] theorem nl2_agg {s t : List V} : nl2 (.agg s) (.agg t) = nlL s t:=rfl
@[simp] theorem nl2_i {a : V} {k : IntKind} {n : Int} : nl2 a (.i k n) = (a = .i k n):=by unfold nl2; split <;> simp_all
@[simp] theorem nl2_b {a : V} {n : Bool} : nl2 a (.b n) = (a = .b n):=by unfold nl2; split <;> simp_all
@[simp] theorem nl2_f {a : V} {k : FloatKind} {n : Option Nat} : nl2 a (.f k n) = (a = .f k n):=by unfold nl2; split <;> simp_all
@[simp] theorem nl2_str {a : V} {n : ByteArray} : nl2 a (.str n) = (a = .str n):=by unfold nl2; split <;> simp_all
@[simp] theorem nl2_own {a : V} {n : Nat} {es : List (List V)} : nl2 a (.own n es) = nl1 a (.own n es):=by unfold nl2; split <;> simp_all
@[simp] theorem nl_tup {s t : List V} : nl (.tup s) (.tup t) = nlL2 s t:=rfl
@[simp] theorem nl_agg {s t : List V} : nl (.agg s) (.agg t) = nlL s t:=rfl
@[simp] theorem nl_i {a : V} {k : IntKind} {n : Int} : nl a (.i k n) = (a = .i k n):=by unfold nl; split <;> simp_all
@[simp] theorem nl_b {a : V} {n : Bool} : nl a (.b n) = (a = .b n):=by unfold nl; split <;> simp_all
@[simp] theorem nl_f {a : V} {k : FloatKind} {n : Option Nat} : nl a (.f k n) = (a = .f k n):=by unfold nl; split <;> simp_all
@[simp] theorem nl_str {a : V} {n : ByteArray} : nl a (.str n) = (a = .str n):=by unfold nl; split <;> simp_all
@[simp] theorem nl_own {a : V} {n : Nat} {es : List (List V)} : nl a (.own n es) = nl1 a (.own n es):=by unfold nl; split <;> simp_all
open Classical in
noncomputable def tells {α β : Type} (g : α→Option β) (eA : α→List V) (eB : β→V) : List V→Option V:=fun vs =>
 if h : ∃ p : α × β,eA p.1 = vs∧g p.1 = some p.2 then some (eB h.choose.2) else none
theorem Zf {α β : Type} {g : α→Option β} {eA : α→List V} {eB : β→V} (hinj : ∀ a a',eA a = eA a'→a = a') {a : α} {b : β} (h : g a = some b) : tells g eA eB (eA a) = some (eB b):=by
 unfold tells
 have hh : ∃ p : α × β,eA p.1 = eA a∧g p.1 = some p.2:=⟨(a,b),rfl,h⟩
 rw [dif_pos hh]
 obtain ⟨h1,h2⟩:=hh.choose_spec
 rw [hinj _ _ h1,h] at h2
 exact congrArg (fun x => some (eB x)) (Option.some.inj h2).symm
theorem Zz.of {P : Program} {f : FuncId} {α β : Type} {g : α→Option β} {eA : α→List V} {eB : β→V} (hf : (P.funcs[f]?).any (fun fn => fn.body.isSome && fn.name != "runtime.NumGoroutine") = true)
  (h : ∀ a b,g a = some b→Qk P f (eA a) (fun x => x = eB b)) : Zz P f (tells g eA eB):=⟨hf,fun args r hr => by
 unfold tells at hr
 split at hr
 ·rename_i hh
  obtain rfl:=Option.some.inj hr
  obtain ⟨h1,h2⟩:=hh.choose_spec
  have:=h _ _ h2
  rwa [h1] at this
 ·cases hr⟩
def aI (k : IntKind) (a b : Int) : Int:=k.wrap (a + b)
def sI (k : IntKind) (a b : Int) : Int:=k.wrap (a - b)
def mI (k : IntKind) (a b : Int) : Int:=k.wrap (a * b)
def dI (k : IntKind) (a b : Int) : Option Int:=if b = 0 then none else some (k.wrap (a.tdiv b))
def rI (k : IntKind) (a b : Int) : Option Int:=if b = 0 then none else some (a.tmod b)
def andI (k : IntKind) (a b : Int) : Int:=k.wrap (BitVec.ofInt k.bits a &&& BitVec.ofInt k.bits b).toNat
def andnI (k : IntKind) (a b : Int) : Int:=k.wrap (BitVec.ofInt k.bits a &&& ~~~ BitVec.ofInt k.bits b).toNat
def orI (k : IntKind) (a b : Int) : Int:=k.wrap (BitVec.ofInt k.bits a ||| BitVec.ofInt k.bits b).toNat
def xorI (k : IntKind) (a b : Int) : Int:=k.wrap (BitVec.ofInt k.bits a ^^^ BitVec.ofInt k.bits b).toNat
def shlI (k : IntKind) (a b : Int) : Option Int:=if b < 0 then none else some (k.wrap (a * 2 ^ (min b.toNat k.bits)))
def shrI (k : IntKind) (a b : Int) : Option Int:=if b < 0 then none else some (a.fdiv (2 ^ (min b.toNat k.bits)))
def negI (k : IntKind) (a : Int) : Int:=k.wrap (0 - a)
def cI (k : IntKind) (a : Int) : Int:=k.wrap a
def maxI (a b : Int) : Int:=if a < b then b else a
def Zo (a b : Int) : Bool:=decide (a < b)
def Xa (a b : Int) : Bool:=decide (a≤b)
def Yx (a b : Int) : Bool:=a == b
def Jb (a b : ByteArray) : Bool:=a.data.toList == b.data.toList
def catS (a b : ByteArray) : Option ByteArray:=if a.size + b.size≤9223372036854775807 then some (a ++ b) else none
abbrev F32:=Option Nat
def eqF (k : FloatKind) (a b : F32) : Bool:=Hh k a b == some .eq
def neF (k : FloatKind) (a b : F32) : Bool:=Hh k a b != some .eq
def ltF (k : FloatKind) (a b : F32) : Bool:=Hh k a b == some .lt
def Qa (k : FloatKind) (a b : F32) : Bool:=Hh k a b == some .lt || Hh k a b == some .eq
def gtF (k : FloatKind) (a b : F32) : Bool:=Hh k a b == some .gt
def Ka (k : FloatKind) (a b : F32) : Bool:=Hh k a b == some .gt || Hh k a b == some .eq
def Ws (k : FloatKind) (a b : F32) : F32:=fop .add k a b
def subF (k : FloatKind) (a b : F32) : F32:=fop .sub k a b
def mulF (k : FloatKind) (a b : F32) : F32:=fop .mul k a b
def quoF (k : FloatKind) (a b : F32) : F32:=fop .quo k a b
def negF (k : FloatKind) (a : F32) : F32:=a.map (Op.negFloat k)
def Wp {α : Type} (xs : List α) (i : Int) : Option α:=if 0≤i then xs[i.toNat]? else none
def Wg (s : ByteArray) (i : Int) : Option Int:=if 0≤i then (s.data.toList[i.toNat]?).map fun c => (c.toNat : Int) else none
def mk (bytes : Nat) (n : Int) : Option Unit:=if 0≤n∧bytes * n.toNat≤281474976710656∧n.toNat≤9223372036854775807 then some () else none
section
variable {k : IntKind} {fk : FloatKind} {a b : Int} {x y : F32} {s t : ByteArray} {T : TK}
@[simp] theorem vbP_i {P : Program} {t : TypeId} {op : BinOp} {x y : Operand} {v : V} : vbinP P t op x y (.i k a) v = Xu (tk P t) op (.i k a) v:=by cases v <;> rfl
@[simp] theorem vbP_f {P : Program} {t : TypeId} {op : BinOp} {a b : Operand} {v : V} : vbinP P t op a b (.f fk x) v = Xu (tk P t) op (.f fk x) v:=by cases v <;> rfl
@[simp] theorem vbP_str {P : Program} {t' : TypeId} {op : BinOp} {x y : Operand} {v : V} : vbinP P t' op x y (.str s) v = Xu (tk P t') op (.str s) v:=by cases v <;> rfl
@[simp] theorem vbP_b {P : Program} {t : TypeId} {op : BinOp} {x y : Operand} {v : V} {c : Bool} : vbinP P t op x y (.b c) v = Xu (tk P t) op (.b c) v:=by cases v <;> rfl
@[simp] theorem vbP_agg {P : Program} {t : TypeId} {op : BinOp} {x y : Operand} {xs ys : List V} : vbinP P t op x y (.agg xs) (.agg ys) = vaeq P t op xs ys:=rfl
@[simp] theorem vbP_err {P : Program} {t : TypeId} {op : BinOp} {x y : Operand} : vbinP P t op x y .err (.s .nilIface) = vnil P t op false:=rfl
@[simp] theorem vbP_nil {P : Program} {t : TypeId} {op : BinOp} {x : Operand} {c : Value} : vbinP P t op x (.const c) (.s .nilIface) (.s .nilIface) = vnil P t op true:=rfl
@[simp] theorem vnil_eql {P : Program} {t : TypeId} {r : Bool} (h : ifaceB P t = true) : vnil P t .eql r = some (.b r):=by simp [vnil,h]
@[simp] theorem vnil_neq {P : Program} {t : TypeId} {r : Bool} (h : ifaceB P t = true) : vnil P t .neq r = some (.b (!r)):=by simp [vnil,h]
@[simp] theorem vaeq_eql {P : Program} {t : TypeId} {xs ys : List V} (h : aeqOk P t xs.length = true) : vaeq P t .eql xs ys = (eqIs xs ys).map .b:=by simp [vaeq,h]
@[simp] theorem vaeq_neq {P : Program} {t : TypeId} {xs ys : List V} (h : aeqOk P t xs.length = true) : vaeq P t .neq xs ys = (eqIs xs ys).map fun r => .b (!r):=by simp [vaeq,h]
@[simp] theorem eqIs_one : eqIs [.i k a] [.i k b] = some (Yx a b):=by simp [eqIs,Yx]
@[simp] theorem eqIs_cons {x y : V} {xs ys : List V} : eqIs (.i k a :: x :: xs) (.i k b :: y :: ys) = (eqIs (x :: xs) (y :: ys)).map fun r => Yx a b && r:=by rw [eqIs,if_pos rfl]; rfl
@[simp] theorem vb_add : Xu T .add (.i k a) (.i k b) = some (.i k (aI k a b)):=by simp [Xu,Jd,Ue,aI]
@[simp] theorem vb_sub : Xu T .sub (.i k a) (.i k b) = some (.i k (sI k a b)):=by simp [Xu,Jd,Ue,sI]
@[simp] theorem vb_mul : Xu T .mul (.i k a) (.i k b) = some (.i k (mI k a b)):=by simp [Xu,Jd,Ue,mI]
@[simp] theorem vb_quo : Xu T .quo (.i k a) (.i k b) = (dI k a b).map (.i k):=by simp [Xu,Jd,Ue,dI]; split <;> simp
@[simp] theorem vb_rem : Xu T .rem (.i k a) (.i k b) = (rI k a b).map (.i k):=by simp [Xu,Jd,Ue,rI]; split <;> simp
@[simp] theorem vb_and : Xu T .and (.i k a) (.i k b) = some (.i k (andI k a b)):=by simp [Xu,Jd,Ue,andI]
@[simp] theorem vb_andn : Xu T .andNot (.i k a) (.i k b) = some (.i k (andnI k a b)):=by simp [Xu,Jd,Ue,andnI]
@[simp] theorem vb_or : Xu T .or (.i k a) (.i k b) = some (.i k (orI k a b)):=by simp [Xu,Jd,Ue,orI]
@[simp] theorem vb_xor : Xu T .xor (.i k a) (.i k b) = some (.i k (xorI k a b)):=by simp [Xu,Jd,Ue,xorI]
@[simp] theorem vb_shl {k' : IntKind} : Xu T .shl (.i k a) (.i k' b) = (shlI k a b).map (.i k):=by simp [Xu,vshift,Ue,shlI]; split <;> simp
@[simp] theorem vb_shr {k' : IntKind} : Xu T .shr (.i k a) (.i k' b) = (shrI k a b).map (.i k):=by simp [Xu,vshift,Ue,shrI]; split <;> simp
@[simp] theorem vb_eql : Xu T .eql (.i k a) (.i k b) = some (.b (Yx a b)):=by simp [Xu,Jd,Ue,Yx]
@[simp] theorem vb_neq : Xu T .neq (.i k a) (.i k b) = some (.b (!Yx a b)):=by simp [Xu,Jd,Ue,Yx,bne]
@[simp] theorem vb_lss : Xu T .lss (.i k a) (.i k b) = some (.b (Zo a b)):=by simp [Xu,Jd,Ue,Zo]
@[simp] theorem vb_leq : Xu T .leq (.i k a) (.i k b) = some (.b (Xa a b)):=by simp [Xu,Jd,Ue,Xa]
@[simp] theorem vb_gtr : Xu T .gtr (.i k a) (.i k b) = some (.b (Zo b a)):=by simp [Xu,Jd,Ue,Zo]
@[simp] theorem vb_geq : Xu T .geq (.i k a) (.i k b) = some (.b (Xa b a)):=by simp [Xu,Jd,Ue,Xa]
@[simp] theorem vb_fadd : Xu T .add (.f fk x) (.f fk y) = some (.f fk (Ws fk x y)):=by simp [Xu,vbinF,Ws]
@[simp] theorem vb_fsub : Xu T .sub (.f fk x) (.f fk y) = some (.f fk (subF fk x y)):=by simp [Xu,vbinF,subF]
@[simp] theorem vb_fmul : Xu T .mul (.f fk x) (.f fk y) = some (.f fk (mulF fk x y)):=by simp [Xu,vbinF,mulF]
@[simp] theorem vb_fquo : Xu T .quo (.f fk x) (.f fk y) = some (.f fk (quoF fk x y)):=by simp [Xu,vbinF,quoF]
@[simp] theorem vb_feql : Xu T .eql (.f fk x) (.f fk y) = some (.b (eqF fk x y)):=by simp [Xu,vbinF,eqF]
@[simp] theorem vb_fneq : Xu T .neq (.f fk x) (.f fk y) = some (.b (neF fk x y)):=by simp [Xu,vbinF,neF]
@[simp] theorem vb_flss : Xu T .lss (.f fk x) (.f fk y) = some (.b (ltF fk x y)):=by simp [Xu,vbinF,ltF]
@[simp] theorem vb_fleq : Xu T .leq (.f fk x) (.f fk y) = some (.b (Qa fk x y)):=by simp [Xu,vbinF,Qa]
@[simp] theorem vb_fgtr : Xu T .gtr (.f fk x) (.f fk y) = some (.b (gtF fk x y)):=by simp [Xu,vbinF,gtF]
@[simp] theorem vb_fgeq : Xu T .geq (.f fk x) (.f fk y) = some (.b (Ka fk x y)):=by simp [Xu,vbinF,Ka]
@[simp] theorem vb_sadd : Xu T .add (.str s) (.str t) = (catS s t).map .str:=by simp only [Xu,vbinS,catS]; split <;> simp
@[simp] theorem vb_seql : Xu T .eql (.str s) (.str t) = some (.b (Jb s t)):=by simp [Xu,vbinS,Jb]
@[simp] theorem vb_sneq : Xu T .neq (.str s) (.str t) = some (.b (!Jb s t)):=by simp [Xu,vbinS,Jb]
@[simp] theorem vb_beql {c d : Bool} : Xu .bool .eql (.b c) (.b d) = some (.b (c == d)):=by simp [Xu]
@[simp] theorem vb_bneq {c d : Bool} : Xu .bool .neq (.b c) (.b d) = some (.b (!(c == d))):=by simp [Xu]
@[simp] theorem vu_neg : vun .neg (.i k a) = some (.i k (negI k a)):=by simp [vun,negI]
@[simp] theorem vu_fneg : vun .neg (.f fk x) = some (.f fk (negF fk x)):=by simp [vun,negF]
@[simp] theorem vu_not {c : Bool} : vun .not (.b c) = some (.b (!c)):=by simp [vun]
@[simp] theorem vc_int {A : TK} {k' : IntKind} (h : A ≠ .other) : Kq A (.int k) (.i k' a) = some (.i k (cI k a)):=by simp [Kq,h,cI]
@[simp] theorem vc_str {A : TK} (h : A ≠ .other) : Kq A .str (.str s) = some (.str s):=by simp [Kq,h]
end
def Jm {α : Type} (bytes : Nat) (xs ys : List α) : Option Unit:=if (xs.length + ys.length) * bytes≤140737488355328∧xs.length + ys.length≤9223372036854775807 then some () else none
def Jw (lo hi : Int) (len : Nat) : Option Unit:=if 0≤lo∧0≤hi∧lo.toNat≤hi.toNat∧hi.toNat≤len then some () else none
theorem appK_some {α : Type} {b : Nat} {xs ys : List α} {u : Unit} (h : Jm b xs ys = some u) : (xs.length + ys.length) * b≤140737488355328∧xs.length + ys.length≤9223372036854775807:=by
 unfold Jm at h
 split at h
 ·assumption
 ·cases h
theorem cutK_some {lo hi : Int} {n : Nat} {u : Unit} (h : Jw lo hi n = some u) : 0≤lo∧0≤hi∧lo.toNat≤hi.toNat∧hi.toNat≤n:=by
 unfold Jw at h
 split at h
 ·assumption
 ·cases h
theorem Ke {a b : Int} : (if a < b then b else a) = maxI a b:=rfl
theorem Kf {α : Type} {xs : List α} {i : Int} {x : α} (h : Wp xs i = some x) : 0≤i∧xs[i.toNat]? = some x∧i.toNat < xs.length∧∀ h : i.toNat < xs.length,xs[i.toNat] = x:=by
 unfold Wp at h
 split at h
 ·exact ⟨‹_›,h,(List.getElem?_eq_some_iff.1 h).1,fun _ => (List.getElem?_eq_some_iff.1 h).2⟩
 ·cases h
theorem idxS_some {s : ByteArray} {i : Int} {x : Int} (h : Wg s i = some x) : 0≤i∧∃ c,s.data.toList[i.toNat]? = some c∧(c.toNat : Int) = x:=by
 unfold Wg at h
 split at h
 ·rw [Option.map_eq_some_iff] at h; exact ⟨‹_›,h⟩
 ·cases h
theorem mk_some {b : Nat} {n : Int} {u : Unit} (h : mk b n = some u) : 0≤n∧b * n.toNat≤281474976710656∧n.toNat≤9223372036854775807:=by
 unfold mk at h
 split at h
 ·assumption
 ·cases h
def rows {α : Type} (c : α→List V) (xs : List α) : List (List V):=xs.map c
class Pln {α : Type} (c : α→List V) : Prop where
 pl : ∀ x,plainL (c x) = true
class Snp {α : Type} (c : α→List V) : Prop where
 sn : ∀ x,Uv (c x) = true
 ce : ∀ x,(c x).all Wn = true
instance {α : Type} {c : α→List V} [h : Pln c] : Snp c:=⟨fun x => plainL_snap (h.pl x),fun x => List.all_eq_true.2 fun v hv => plain_cell (List.all_eq_true.1 (h.pl x) v hv)⟩
section
variable {α : Type} {c : α→List V} {xs ys : List α} {n i : Nat}
@[simp] theorem rows_length : (rows c xs).length = xs.length:=by simp [rows]
@[simp] theorem rows_get? : (rows c xs)[i]? = (xs[i]?).map c:=by simp [rows]
@[simp] theorem rows_get (h : i < (rows c xs).length) : (rows c xs)[i] = c (xs[i]'(by simpa using h)):=by simp [rows]
@[simp] theorem rows_take : (rows c xs).take n = rows c (xs.take n):=by simp [rows]
@[simp] theorem rows_drop : (rows c xs).drop n = rows c (xs.drop n):=by simp [rows]
@[simp] theorem rows_append : rows c xs ++ rows c ys = rows c (xs ++ ys):=by simp [rows]
@[simp] theorem rows_nil : rows c ([] : List α) = []:=rfl
theorem rows_cons {x : α} : rows c (x :: xs) = c x :: rows c xs:=rfl
theorem Xn {x : α} : (rows c xs).set i (c x) = rows c (xs.set i x):=by simp [rows,List.map_set]
theorem Xo {x : α} : List.replicate n (c x) = rows c (List.replicate n x):=by simp [rows]
theorem Xc {x : α} : rows c xs ++ [c x] = rows c (xs ++ [x]):=by simp [rows]
@[simp] theorem rows_plain [h : Pln c] : Qp (rows c xs) = true:=plainE_of fun x hx => by
 obtain ⟨y,_,rfl⟩:=List.mem_map.1 hx
 exact h.pl y
@[simp] theorem rows_snap [h : Snp c] : Hn (rows c xs) = true:=List.all_eq_true.2 fun x hx => by
 obtain ⟨y,_,rfl⟩:=List.mem_map.1 hx
 exact h.sn y
@[simp] theorem rows_pown [h : Pln c] : pownE (rows c xs) = true:=plainE_pown rows_plain
@[simp] theorem rows_kept [h : Pln c] : keptE (rows c xs) = true:=List.all_eq_true.2 fun x hx => List.all_eq_true.2 fun v hv => by
 obtain ⟨y,_,rfl⟩:=List.mem_map.1 hx
 have:=List.all_eq_true.1 (h.pl y) v hv
 unfold keptV
 split
 ·rfl
 ·exact this
@[simp] theorem rows_unE [h : Snp c] : unE (rows c xs) = rows c xs:=snapE_un rows_snap
@[simp] theorem rows_frz [h : Pln c] : Jj (rows c xs) = rows c xs:=frzE_same rows_plain
theorem snap_bnd {k : Nat} {v : V} (h : Us v = true) : Zs k v = true:=by cases v <;> first | rfl | (cases h; done)
theorem snapL_bnd {k : Nat} {l : List V} (h : Uv l = true) : l.all (Zs k) = true:=List.all_eq_true.2 fun v hv => snap_bnd (List.all_eq_true.1 h v hv)
theorem snapE_bnd {k : Nat} {l : List (List V)} (h : Hn l = true) : (l.all fun x => x.all (Zs k)) = true:=List.all_eq_true.2 fun x hx => snapL_bnd (List.all_eq_true.1 h x hx)
@[simp] theorem rows_bnd [h : Snp c] {k : Nat} : ((rows c xs).all fun x => x.all (Zs k)) = true:=snapE_bnd rows_snap
theorem snap_noB {b : Nat} {v : V} (h : Us v = true) : Wo b v = true:=by cases v <;> first | rfl | (cases h; done)
@[simp] theorem rows_noB [h : Snp c] {b : Nat} : noBE b (rows c xs) = true:=List.all_eq_true.2 fun x hx => List.all_eq_true.2 fun v hv => by
 obtain ⟨y,_,rfl⟩:=List.mem_map.1 hx
 exact snap_noB (List.all_eq_true.1 (h.sn y) v hv)
@[simp] theorem rows_cellO [h : Snp c] : cellOE (rows c xs) = true:=List.all_eq_true.2 fun x hx => List.all_eq_true.2 fun v hv => by
 obtain ⟨y,_,rfl⟩:=List.mem_map.1 hx
 exact cellV_O (List.all_eq_true.1 (h.ce y) v hv)
@[simp] theorem rows_cell [h : Snp c] : cellE (rows c xs) = true:=List.all_eq_true.2 fun x hx => by
 obtain ⟨y,_,rfl⟩:=List.mem_map.1 hx
 exact h.ce y
theorem rows_inj (hc : ∀ x y,c x = c y→x = y) : ∀ {xs ys : List α},rows c xs = rows c ys→xs = ys
 | [],[],_ => rfl
 | x :: xs,y :: ys,h => by
  simp only [rows_cons,List.cons.injEq] at h
  rw [hc _ _ h.1,rows_inj hc h.2]
 | [],_ :: _,h => by simp [rows_cons] at h
 | _ :: _,[],h => by simp [rows_cons] at h
end
theorem ri {α : Type} {c : α→List V} (hc : ∀ x y,c x = c y→x = y) {xs ys : List α} : rows c xs = rows c ys ↔ xs = ys:=⟨rows_inj hc,fun h => by rw [h]⟩
abbrev A : V:=.any
@[simp] def A4 (l : List V) : List V:=A :: A :: A :: A :: l
@[simp] def A16 (l : List V) : List V:=A :: A :: A :: A :: A :: A :: A :: A :: A :: A :: A :: A :: A :: A :: A :: A :: l
@[simp] def A64 (l : List V) : List V:=A16 (A16 (A16 (A16 l)))
attribute [simp] rows_cons
end Go.VL

namespace Go.VL
open Go.RowKit
set_option linter.unusedSimpArgs false
set_option linter.unusedVariables false
theorem Sl.split {w : World} {O : Nat→Prop} {φ : Pl} {vs : List V} {us us' : List Value} (h : Sl w O φ vs (us ++ us')) : Sl w O φ (vs.take us.length) us∧Sl w O φ (vs.drop us.length) us':=by
 have h1:=h.take us.length
 have h2:=h.drop us.length
 rw [List.take_left] at h1
 rw [List.drop_left] at h2
 exact ⟨h1,h2⟩
section
variable {P : Program} {C : Qc} {Q : Exit→VS→Prop} {st : VS}
def VIn (P : Program) (rs : List ResultVar) (n : Nat) (dst : Option Tmp) (K : VS→Prop) : Exit→VS→Prop
 | .normal,s | .ret,s => ∃ v,Qn P rs s = some v∧K { t:=Xh (s.g.take n) dst v,m:=s.m,g:=s.g.drop n }
 | _,_ => False
theorem VL.inl {ops : Array Oper} {o : Oper} {l : List Oper} {f : FuncId} {fn : Func} {c : Code} {args : Array Operand} {ats : Array TypeId} (hog : o.guard = none)
  (ho : o.op = .call { callee:=.value (.func f),args:=args,argTypes:=ats }) (hf : P.funcs[f]? = some fn) (hname : (fn.name != "runtime.NumGoroutine") = true) (hb : fn.body = some c)
  (h : VW P c (VIn P fn.results.toList st.t.length o.dst (VL P ops Q l)) { t:=args.toList.map (ev st.t) ++ List.replicate (fn.ntmps - args.size) .any,m:=st.m,g:=st.t ++ st.g }) : VL P ops Q (o :: l) st:=by
 intro N w0 a w φ hs
 have hw : Zm ops st.t o = some true:=by unfold Zm; rw [hog]
 unfold wpList
 rw [Xj hw hs,if_pos rfl]
 left
 have hargs : Sl w (Yf φ st.m) φ (args.toList.map (ev st.t)) (args.toList.map a.eval):=by
  have : ∀ q : List Operand,Sl w (Yf φ st.m) φ (q.map (ev st.t)) (q.map a.eval):=fun q => by
   induction q with
   | nil => exact .nil
   | cons x q ih => exact .cons (hs.eval x) ih
  exact this _
 have hrun : (execOp a.eval o).run P w = .ok (.enter f (args.map a.eval)) w:=by
  have b3 : fn.body ≠ none:=by rw [hb]; simp
  have b2 : ¬ fn.name = "runtime.NumGoroutine":=by simpa using hname
  simp [execOp,ho,resolve,Act.eval,Deferred.ofValue,invoke,callFunc,hf,b2,b3]
 have hlen:=hargs.length
 have htm : Sl w (Yf φ st.m) φ st.t a.tmps.toList:=Sl.of_get (by simpa using hs.size) fun i v u h1 h2 => by
  obtain ⟨u',h3,h4⟩:=hs.tmps i v h1
  have : a.tmps[i]? = some u:=by simpa using h2
  rw [this] at h3
  cases h3
  exact h4
 have hsr : SR P N (w0.1,a.tmps.toList ++ w0.2) { t:=args.toList.map (ev st.t) ++ List.replicate (fn.ntmps - args.size) .any,m:=st.m,g:=st.t ++ st.g } { tmps:=args.map a.eval ++ Array.replicate (fn.ntmps - (args.map a.eval).size) undef,defers:=[] } w φ:=by
  refine ⟨rfl,by simp,fun i v hi => ?_,hs.mem,hs.below,hs.start,htm.append hs.gh,hs.gl⟩
  simp only at hi
  rw [List.getElem?_append] at hi
  split at hi
  ·rename_i hlt
   obtain ⟨u,a1,a2⟩:=hargs.get hi
   refine ⟨u,?_,a2⟩
   rw [Array.getElem?_append_left (by simpa using hlt)]
   simpa using a1
  ·rename_i hge
   have hlt2 : i - (args.toList.map (ev st.t)).length < fn.ntmps - args.size:=by
    have:=(List.getElem?_eq_some_iff.1 hi).1
    simpa using this
   have hv : v = .any:=(List.mem_replicate.1 (List.mem_of_getElem? hi)).2
   subst hv
   refine ⟨undef,?_,.any⟩
   rw [Array.getElem?_append_right (by simpa using hge),Array.getElem?_replicate,if_pos (by simpa using hlt2)]
 have hcalls : Calls P f (args.map a.eval) w (fun e w' => ∃ u a' φ' s v,e = .returned u∧Qn P fn.results.toList s = some v∧VL P ops Q l { t:=Xh (s.g.take st.t.length) o.dst v,m:=s.m,g:=s.g.drop st.t.length }∧SR P N (w0.1,a.tmps.toList ++ w0.2) s a' w' φ'∧S w' (Yf φ' s.m) φ' v u):=by
  refine calls_of_wp hf hb ?_
  refine wp_mono (h N (w0.1,a.tmps.toList ++ w0.2) _ w φ hsr) fun e a' w' ⟨s,φ',hq,hs'⟩ => ?_
  have key : (∃ v,Qn P fn.results.toList s = some v∧VL P ops Q l { t:=Xh (s.g.take st.t.length) o.dst v,m:=s.m,g:=s.g.drop st.t.length })→a'.defers = []∧∃ v,(results fn a'.tmps).run P w' = .ok v w'∧∃ u a' φ' s v',Ending.returned v = .returned u∧Qn P fn.results.toList s = some v'∧VL P ops Q l { t:=Xh (s.g.take st.t.length) o.dst v',m:=s.m,g:=s.g.drop st.t.length }∧SR P N (w0.1,a.tmps.toList ++ w0.2) s a' w' φ'∧S w' (Yf φ' s.m) φ' v' u:=by
   intro ⟨v,h1,h2⟩
   obtain ⟨u,b1,b2⟩:=vres_sound hs' h1
   exact ⟨hs'.defers,u,b1,u,a',φ',s,v,rfl,h1,h2,hs',b2⟩
  cases e with
  | normal => exact key hq
  | ret => exact key hq
  | exit id => exact hq.elim
  | goto l => exact hq.elim
  | panic c => exact hq.elim
  | outgrown => exact hq.elim
 unfold Oper.wp
 rw [hrun,Oper.upon_enter]
 refine hcalls.mono fun e w' ⟨u,a',φ',s,v,he,h1,h2,hs',hv⟩ => ?_
 subst he
 obtain ⟨g1,g2⟩:=Sl.split hs'.gh
 have hsz : a.tmps.toList.length = st.t.length:=by simpa using hs.size
 rw [hsz] at g1 g2
 have hsc : SR P N w0 { t:=s.g.take st.t.length,m:=s.m,g:=s.g.drop st.t.length } a w' φ':=by
  refine ⟨hs.defers,?_,fun i v hi => ?_,hs'.mem,hs'.below,hs'.start,g2,hs'.gl⟩
  ·have:=g1.length; simp only; rw [← this]; simp
  ·obtain ⟨u,u1,u2⟩:=g1.get hi
   exact ⟨u,by simpa using u1,u2⟩
 exact h2 N w0 _ _ φ' (hsc.put hv hs'.mem (Ev.refl _ _ _) (Bel.refl _ _))
theorem Zp {ops : Array Oper} {l : List Oper} (t' : List V) (m' : VM) (g' : List V) (hC : C.Ok P) (hg : Xp ops l.length none l = true) (h : toSt (Wj P C ops l.length none l st) t' m' g') (hQ : Q .normal { t:=t',m:=m',g:=g' }) :
  VL P ops (fun e s => ∃ s',Qm s s'∧Q e s') l st:=by
 obtain ⟨t,h1,h2⟩:=h.get
 have:=(Ur _ _ _ _ _ h1 hg (fun _ _ h => by cases h)).vl (Q:=fun e s => ∃ s',Qm s s'∧Q e s') (rest:=[]) hC (VL.nil ⟨_,Km h2,hQ⟩)
 simpa using this
theorem Zy {id : Nat} {l : List Oper} (h : VL P l.toArray (fun e s => ∃ s',Qm s s'∧Q e s') l st) : VW P (.region id l.toArray false) Q st:=Uc (VW.region h)
theorem VL.inlP {ops : Array Oper} {l : List Oper} {o : Oper} {f : FuncId} {fn : Func} {c : Code} {args : Array Operand} {ats : Array TypeId} {n k : Nat} {rs : List ResultVar} (i : Nat) (t1 : List V) (m1 : VM) (g1 : List V) (hio : l[i]? = some o) (hC : C.Ok P)
  (hgp : Xp ops (l.take i).length none (l.take i) = true) (hpre : toSt (Wj P C ops (l.take i).length none (l.take i) st) t1 m1 g1) (hog : o.guard = none)
  (ho : o.op = .call { callee:=.value (.func f),args:=args,argTypes:=ats }) (hf : P.funcs[f]? = some fn) (hname : (fn.name != "runtime.NumGoroutine") = true) (hb : fn.body = some c) (hn : fn.ntmps - args.size = n) (hr : fn.results.toList = rs) (hk : t1.length = k)
  (h : VW P c (VIn P rs k o.dst (VL P ops (fun e s => ∃ s',Qm s s'∧Q e s') (l.drop (i + 1)))) { t:=args.toList.map (ev t1) ++ List.replicate n .any,m:=m1,g:=t1 ++ g1 }) : VL P ops (fun e s => ∃ s',Qm s s'∧Q e s') l st:=by
 subst hk hn hr
 have hl : l = l.take i ++ o :: l.drop (i + 1):=by
  obtain ⟨h1,h2⟩:=List.getElem?_eq_some_iff.1 hio
  rw [← h2,List.getElem_cons_drop,List.take_append_drop]
 obtain ⟨t,h1,h2⟩:=hpre.get
 have hpost : VL P ops (fun e s => ∃ s',Qm s s'∧Q e s') (o :: l.drop (i + 1)) { t:=t,m:=m1,g:=g1 }:=VL.ent (Km h2) (VL.inl (st:={ t:=t1,m:=m1,g:=g1 }) hog ho hf hname hb h)
 have:=(Ur _ _ _ _ _ h1 hgp (fun _ _ h => by cases h)).vl (Q:=fun e s => ∃ s',Qm s s'∧Q e s') (rest:=o :: l.drop (i + 1)) hC hpost
 rw [← hl] at this
 exact this
def VInJ {σ : Type} (P : Program) (rs : List ResultVar) (n : Nat) (dst : Option Tmp) (H : σ→VS) (Kp : σ→Prop) : Exit→VS→Prop
 | .normal,s | .ret,s => ∃ v,Qn P rs s = some v∧∃ x,Kp x∧Qm { t:=Xh (s.g.take n) dst v,m:=s.m,g:=s.g.drop n } (H x)
 | _,_ => False
theorem VL.inlJ {σ : Type} {ops : Array Oper} {l : List Oper} {o : Oper} {f : FuncId} {fn : Func} {c : Code} {args : Array Operand} {ats : Array TypeId} {n k : Nat} {rs : List ResultVar} (i : Nat) (t1 : List V) (m1 : VM) (g1 : List V) (hio : l[i]? = some o) (hC : C.Ok P)
  (hgp : Xp ops (l.take i).length none (l.take i) = true) (hpre : toSt (Wj P C ops (l.take i).length none (l.take i) st) t1 m1 g1) (hog : o.guard = none)
  (ho : o.op = .call { callee:=.value (.func f),args:=args,argTypes:=ats }) (hf : P.funcs[f]? = some fn) (hname : (fn.name != "runtime.NumGoroutine") = true) (hb : fn.body = some c) (hn : fn.ntmps - args.size = n) (hr : fn.results.toList = rs) (hk : t1.length = k)
  (H : σ→VS) (Kp : σ→Prop) (h : VW P c (VInJ P rs k o.dst H Kp) { t:=args.toList.map (ev t1) ++ List.replicate n .any,m:=m1,g:=t1 ++ g1 })
  (hj : ∀ x,Kp x→VL P ops (fun e s => ∃ s',Qm s s'∧Q e s') (l.drop (i + 1)) (H x)) : VL P ops (fun e s => ∃ s',Qm s s'∧Q e s') l st:=by
 refine VL.inlP i t1 m1 g1 hio hC hgp hpre hog ho hf hname hb hn hr hk (h.mono fun e s hq => ?_)
 have key : (∃ v,Qn P rs s = some v∧∃ x,Kp x∧Qm { t:=Xh (s.g.take k) o.dst v,m:=s.m,g:=s.g.drop k } (H x))→∃ v,Qn P rs s = some v∧VL P ops (fun e s => ∃ s',Qm s s'∧Q e s') (l.drop (i + 1)) { t:=Xh (s.g.take k) o.dst v,m:=s.m,g:=s.g.drop k } :=
  fun ⟨v,h1,x,h2,h3⟩ => ⟨v,h1,VL.ent h3 (hj x h2)⟩
 cases e with
 | normal => exact key hq
 | ret => exact key hq
 | exit id => exact hq.elim
 | goto l => exact hq.elim
 | panic c => exact hq.elim
 | outgrown => exact hq.elim
theorem VIn.ret {rs : List ResultVar} {n : Nat} {dst : Option Tmp} {K : VS→Prop} {s : VS} {v : V} (hv : Qn P rs s = some v) (h : K { t:=Xh (s.g.take n) dst v,m:=s.m,g:=s.g.drop n }) : ∃ v,Qn P rs s = some v∧K { t:=Xh (s.g.take n) dst v,m:=s.m,g:=s.g.drop n }:=⟨v,hv,h⟩
theorem VInJ.ret {σ : Type} {rs : List ResultVar} {n : Nat} {dst : Option Tmp} {H : σ→VS} {Kp : σ→Prop} {s : VS} (v : V) (x : σ) (t' : List V) (hv : Qn P rs s = some v) (hk : Kp x) (ht : Xh (s.g.take n) dst v = t') (g' : List V) (hg : s.g.drop n = g') (he : Qm { t:=t',m:=s.m,g:=g' } (H x)) :
  ∃ v,Qn P rs s = some v∧∃ x,Kp x∧Qm { t:=Xh (s.g.take n) dst v,m:=s.m,g:=s.g.drop n } (H x):=⟨v,hv,x,hk,by rw [ht,hg]; exact he⟩
theorem Gq {σ : Type} {rs : List ResultVar} {n : Nat} {dst : Option Tmp} {H : σ→VS} {Kp : σ→Prop} {s : VS} (v : V) (x : σ) (t' : List V) (hv : Qn P rs s = some v) (hk : Kp x) (ht : leL (Xh (s.g.take n) dst v) t') (g' : List V) (hg : s.g.drop n = g') (he : Qm { t:=t',m:=s.m,g:=g' } (H x)) :
  ∃ v,Qn P rs s = some v∧∃ x,Kp x∧Qm { t:=Xh (s.g.take n) dst v,m:=s.m,g:=s.g.drop n } (H x):=⟨v,hv,x,hk,(Km ht).trans (by rw [hg]; exact he)⟩
end
end Go.VL

namespace Go.VL
open Go.RowKit
set_option linter.unusedSimpArgs false
set_option linter.unusedVariables false
theorem flatten_set1 {α : Type} : ∀ (es : List (List α)) (n e j : Nat) (cs : List α) (v : α),(∀ y ∈ es,y.length = n)→es[e]? = some cs→j < n→(es.set e (cs.set j v)).flatten = es.flatten.set (e * n + j) v
 | [],_,_,_,_,_,_,h,_ => by simp at h
 | y :: es,n,0,j,cs,v,hn,he,hj => by
  simp at he
  subst he
  have hy:=hn y (by simp)
  simp only [List.set_cons_zero,List.flatten_cons,Nat.zero_mul,Nat.zero_add]
  rw [List.set_append_left _ _ (by omega)]
 | y :: es,n,e + 1,j,cs,v,hn,he,hj => by
  have hy:=hn y (by simp)
  simp only [List.set_cons_succ,List.flatten_cons]
  rw [flatten_set1 es n e j cs v (fun z hz => hn z (by simp [hz])) (by simpa using he) hj,List.set_append_right _ _ (by rw [hy,Nat.add_mul]; omega)]
  congr 2
  rw [hy,Nat.add_mul]
  omega
open Classical in
theorem Qm.absorb {t g : List V} {m : VM} (b e j b' len : Nat) {n n' : Nat} {es es' : List (List V)} {cs : List V} (m' : VM) (hb : m[b]? = some (some (n,es))) (he : es[e]? = some cs) (hj : cs[j]? = some (.ref b' 0 len))
  (hb' : m[b']? = some (some (n',es'))) (hne : b ≠ b') (hlen : es'.length = len) (hpl : Qp es' = true) (hm' : (m.set b (some (n,es.set e (cs.set j (.own n' es'))))).set b' none = m') : Qm { t:=t,m:=m,g:=g } { t:=t,m:=m',g:=g }:=by
 subst hm'
 intro P N w0 a w φ hs
 have hblt : b < m.length:=(List.getElem?_eq_some_iff.1 hb).1
 have hblt' : b' < m.length:=(List.getElem?_eq_some_iff.1 hb').1
 generalize hM : (m.set b (some (n,es.set e (cs.set j (.own n' es'))))).set b' none = M
 have hget : ∀ x y,M[x]? = some (some y)→x ≠ b'∧(x = b∧y = (n,es.set e (cs.set j (.own n' es')))∨x ≠ b∧m[x]? = some (some y)):=fun x y h => by
  rw [← hM,List.getElem?_set] at h
  split at h
  ·split at h <;> simp at h
  ·rename_i h1
   refine ⟨fun e => h1 e.symm,?_⟩
   rw [List.getElem?_set] at h
   split at h
   ·rename_i h2
    simp at h; exact .inl ⟨h2.symm,h.symm⟩
   ·rename_i h2
    exact .inr ⟨fun e => h2 e.symm,h⟩
 have hO : ∀ k,Yf φ M k→Yf φ m k:=fun k ⟨x,y,po,q,h1,h2⟩ => by
  rcases (hget x y h1).2 with ⟨rfl,_⟩ | ⟨_,h3⟩
  ·exact ⟨x,_,po,q,hb,h2⟩
  ·exact ⟨x,y,po,q,h3,h2⟩
 have hev : Ev w (Yf φ m) φ w (Yf φ M) φ:=⟨fun k _ ho => ⟨rfl,fun hl => ho (hO k hl)⟩,fun _ _ h => h,fun _ _ h => h⟩
 have hdead : ∀ p po q,φ b' = some (p,po,q)→¬ Yf φ M p:=fun p po q hp ⟨x,y,po',q',h1,h2⟩ => by
  exact (hget x y h1).1 (hs.mem.inj x b' p po' po q' q h2 hp)
 have hpl' : Jj es' = es':=frzE_same hpl
 have hcell : ∀ u,S w (Yf φ m) φ (.ref b' 0 len) u→S w (Yf φ M) φ (.own n' es') u∧∃ F,RV w (.own n' es') u F∧F.Nodup∧∀ k ∈ F,∃ po q,φ b' = some (k,po,q):=fun u hu => by
  cases hu with
  | ref hφ hc hroom =>
   obtain ⟨hn,pb,po,c,ty,hφ',hp,hfit,hcells⟩:=hs.mem.at_ b' n' es' _ hb' hφ
   rw [hφ] at hφ'
   simp at hφ'
   obtain ⟨rfl,rfl,rfl⟩:=hφ'
   rename_i pb po bn cap
   have hcells0 : ∀ (i : Nat) (v : V),es'.flatten[i]? = some v→∃ u,c[po + 0 * bn + i]? = some u∧u.oneCell' = true∧S w (Yf φ m) φ v u:=fun i v hi => by
    rw [Nat.zero_mul,Nat.add_zero]; exact hcells i v hi
   have hplm : ∀ v ∈ es'.flatten,Yn v = true:=fun v hv => by
    obtain ⟨l,l1,l2⟩:=List.mem_flatten.1 hv
    exact plainE_iff.1 hpl l l1 v l2
   obtain ⟨c',ty',fr',hp',hroom'⟩:=hroom
   rw [hp] at hp'
   cases hp'
   refine ⟨.own ?_,[pb],.own hn hlen hc hp (by rw [Nat.add_mul] at hroom'; omega) (plainRs hplm hcells0),by simp,fun k hk => ?_⟩
   ·rw [hpl']
    refine .sl hn hlen hc (Ss.of_get (fun _ => hdead pb po bn hφ) fun i v hi => ?_)
    obtain ⟨u,u1,u2,u3⟩:=hcells0 i v hi
    exact ⟨u,Kk hp u1,u3.plain (hplm v (List.mem_of_getElem? hi))⟩
   ·simp at hk
    subst hk
    exact ⟨_,_,hφ⟩
  | ref0 =>
   have : es' = []:=List.eq_nil_of_length_eq_zero hlen
   subst this
   exact ⟨.own (by rw [hpl']; exact .sl0),[],.own0,by simp,by simp⟩
  | refnil =>
   have : es' = []:=List.eq_nil_of_length_eq_zero hlen
   subst this
   exact ⟨.own (by rw [hpl']; exact .slnil),[],.ownnil,by simp,by simp⟩
 refine ⟨φ,hs.defers,hs.size,fun i v hi => ?_,⟨fun x k es1 p h1 h2 => ?_,hs.mem.new,fun x p h => ?_,hs.mem.inj,?_⟩,hs.below,hs.start,Sl.ev hev hs.gh,hs.gl⟩
 ·obtain ⟨u,u1,u2⟩:=hs.tmps i v hi
  exact ⟨u,u1,u2.ev hev⟩
 ·rcases (hget x _ h1).2 with ⟨rfl,h3⟩ | ⟨_,h3⟩
  ·simp only [Prod.mk.injEq] at h3
   obtain ⟨rfl,rfl⟩:=h3
   obtain ⟨c1,pb,po,c,ty,c2,c3,c4,c5⟩:=hs.mem.at_ x k es _ hb h2
   have hjn : j < k:=by rw [← c1 cs (List.mem_of_getElem? he)]; exact (List.getElem?_eq_some_iff.1 hj).1
   have hcsl : cs.length = k:=c1 cs (List.mem_of_getElem? he)
   refine ⟨fun y hy => ?_,pb,po,c,ty,c2,c3,by simpa using c4,fun i v hi => ?_⟩
   ·rcases List.mem_or_eq_of_mem_set hy with h | rfl
    ·exact c1 y h
    ·simpa using hcsl
   ·rw [flatten_set1 es k e j cs _ c1 he hjn,List.getElem?_set] at hi
    split at hi
    ·rename_i h4
     split at hi
     ·cases hi
      obtain ⟨u,d1,d2,d3⟩:=c5 (e * k + j) _ (Ui c1 he hj)
      exact ⟨u,by rw [← h4]; exact d1,d2,(hcell u d3).1⟩
     ·cases hi
    ·obtain ⟨u,d1,d2,d3⟩:=c5 i v hi
     exact ⟨u,d1,d2,d3.ev hev⟩
  ·obtain ⟨c1,pb,po,c,ty,c2,c3,c4,c5⟩:=hs.mem.at_ x k es1 _ h3 h2
   exact ⟨c1,pb,po,c,ty,c2,c3,c4,fun i v hi => by
    obtain ⟨u,d1,d2,d3⟩:=c5 i v hi
    exact ⟨u,d1,d2,d3.ev hev⟩⟩
 ·have:=hs.mem.dom x p h
  rw [← hM]; simpa using this
 ·obtain ⟨ψ,hψ⟩:=hs.mem.own
  refine ⟨fun k => if ∃ po q,φ b' = some (k,po,q) then some (b,e * n + j) else ψ k,fun x k es1 pb po bn i n1 e1 h1 h2 h3 => ?_⟩
  have hold : ∀ (x k : Nat) (es1 : List (List V)),m[x]? = some (some (k,es1))→φ x = some (pb,po,bn)→es1.flatten[i]? = some (.own n1 e1)→∃ u F,w.cell? ⟨pb,po + i,none⟩ = some u∧RV w (.own n1 e1) u F∧F.Nodup∧∀ k ∈ F,(if ∃ po q,φ b' = some (k,po,q) then some (b,e * n + j) else ψ k) = some (x,i)∧¬ N k∧k < w.heap.size∧¬ Yf φ M k:=fun x k es1 g1 g2 g3 => by
   obtain ⟨u,F,f1,f2,f3,f4⟩:=hψ x k es1 pb po bn i n1 e1 g1 g2 g3
   refine ⟨u,F,f1,f2,f3,fun q hq => ?_⟩
   obtain ⟨a1,a2,a3,a4⟩:=f4 q hq
   have hnp : ¬ ∃ po q',φ b' = some (q,po,q'):=fun ⟨po',q',hp⟩ => a4 ⟨b',_,po',q',hb',hp⟩
   exact ⟨by rw [if_neg hnp]; exact a1,a2,a3,fun hl => a4 (hO q hl)⟩
  rcases (hget x _ h1).2 with ⟨rfl,h4⟩ | ⟨_,h4⟩
  ·simp only [Prod.mk.injEq] at h4
   obtain ⟨rfl,rfl⟩:=h4
   obtain ⟨c1,pb',po',c,ty,c2,c3,c4,c5⟩:=hs.mem.at_ x k es _ hb h2
   rw [h2] at c2
   simp at c2
   obtain ⟨rfl,rfl,rfl⟩:=c2
   have hjn : j < bn:=by rw [← c1 cs (List.mem_of_getElem? he)]; exact (List.getElem?_eq_some_iff.1 hj).1
   rw [flatten_set1 es bn e j cs _ c1 he hjn,List.getElem?_set] at h3
   split at h3
   ·rename_i h5
    split at h3
    ·cases h3
     subst h5
     obtain ⟨u,d1,d2,d3⟩:=c5 (e * bn + j) _ (Ui c1 he hj)
     obtain ⟨_,F,f1,f2,f3⟩:=hcell u d3
     refine ⟨u,F,Kk c3 d1,f1,f2,fun q hq => ?_⟩
     obtain ⟨po',q',hp⟩:=f3 q hq
     have hnew:=hs.mem.new b' q po' q' hp
     exact ⟨(if_pos ⟨po',q',hp⟩ : (if ∃ po q',φ b' = some (q,po,q') then some (x,e * bn + j) else ψ q) = some (x,e * bn + j)),hnew.1,hnew.2,hdead q po' q' hp⟩
    ·cases h3
   ·exact hold x bn es hb h2 h3
  ·exact hold x k es1 h4 h2 h3
section
variable {P : Program} {C : Qc} {Q : Exit→VS→Prop} {st s2 : VS}
theorem VW.evalE {id : Nat} {l : List Oper} (t' : List V) (m' : VM) (g' : List V) (hC : C.Ok P) (hg : Xp l.toArray l.length none l = true) (h : toSt (Wj P C l.toArray l.length none l st) t' m' g') (he : Qm { t:=t',m:=m',g:=g' } s2) (hQ : Q .normal s2) : VW P (.region id l.toArray false) Q st :=
 Uc (Yg t' m' g' hC hg h ⟨_,he,hQ⟩)
theorem VW.evalDE {id : Nat} {l : List Oper} (t' : List V) (m' : VM) (g' : List V) (hC : C.Ok P) (hm : P.follows .mixedOrders = true) (hc : (Qu l && Ud l && Xp l.toArray l.length none l) = true) (h : toSt (Wj P C l.toArray l.length none l st) t' m' g') (he : Qm { t:=t',m:=m',g:=g' } s2) (hQ : Q .normal s2) : VW P (.region id l.toArray true) Q st :=
 Uc (Ug t' m' g' hC hm hc h ⟨_,he,hQ⟩)
end
class Pow {α : Type} (c : α→List V) : Prop where
 po : ∀ x,(c x).all Kc = true
section
variable {α : Type} {c : α→List V} {xs : List α}
@[simp] theorem rows_pow [h : Pow c] : pownE (rows c xs) = true:=List.all_eq_true.2 fun x hx => by
 obtain ⟨y,_,rfl⟩:=List.mem_map.1 hx
 exact h.po y
@[simp] theorem rows_keptO [h : Pow c] : keptE (rows c xs) = true:=List.all_eq_true.2 fun x hx => List.all_eq_true.2 fun v hv => by
 obtain ⟨y,_,rfl⟩:=List.mem_map.1 hx
 have:=List.all_eq_true.1 (h.po y) v hv
 unfold Kc at this
 unfold keptV
 exact this
theorem pown_cellO {v : V} (h : Kc v = true) : cellO v = true:=by cases v <;> first | rfl | (cases h; done)
@[simp] theorem rows_powO [h : Pow c] : cellOE (rows c xs) = true:=List.all_eq_true.2 fun x hx => List.all_eq_true.2 fun v hv => by
 obtain ⟨y,_,rfl⟩:=List.mem_map.1 hx
 exact pown_cellO (List.all_eq_true.1 (h.po y) v hv)
theorem pown_bnd {k : Nat} {v : V} (h : Kc v = true) : Zs k v = true:=by cases v <;> first | rfl | (cases h; done)
theorem pown_noB {k : Nat} {v : V} (h : Kc v = true) : Wo k v = true:=by cases v <;> first | rfl | (cases h; done)
@[simp] theorem rows_pbnd [h : Pow c] {k : Nat} : ((rows c xs).all fun x => x.all (Zs k)) = true:=List.all_eq_true.2 fun x hx => List.all_eq_true.2 fun v hv => by
 obtain ⟨y,_,rfl⟩:=List.mem_map.1 hx
 exact pown_bnd (List.all_eq_true.1 (h.po y) v hv)
@[simp] theorem rows_pnoB [h : Pow c] {b : Nat} : noBE b (rows c xs) = true:=List.all_eq_true.2 fun x hx => List.all_eq_true.2 fun v hv => by
 obtain ⟨y,_,rfl⟩:=List.mem_map.1 hx
 exact pown_noB (List.all_eq_true.1 (h.po y) v hv)
@[simp] theorem rows_set_bnd [h : Pow c] {k b i n : Nat} (hb : b < k) : (((rows c xs).set i [.ref b 0 n]).all fun x => x.all (Zs k)) = true:=List.all_eq_true.2 fun x hx => by
 rcases List.mem_or_eq_of_mem_set hx with h1 | rfl
 ·exact List.all_eq_true.1 (rows_pbnd (c:=c) (xs:=xs) (k:=k)) x h1
 ·simp [Zs,hb]
@[simp] theorem rows_set_noB [h : Pow c] {k b i n : Nat} (hb : b ≠ k) : noBE k ((rows c xs).set i [.ref b 0 n]) = true:=List.all_eq_true.2 fun x hx => by
 rcases List.mem_or_eq_of_mem_set hx with h1 | rfl
 ·exact List.all_eq_true.1 (rows_pnoB (c:=c) (xs:=xs) (b:=k)) x h1
 ·simp [Wo,hb]
@[simp] theorem noBV_own {b n : Nat} {es : List (List V)} : Wo b (.own n es) = true:=rfl
attribute [simp] List.take_of_length_le
end
end Go.VL

namespace Go.VL
open Go.RowKit
set_option linter.unusedSimpArgs false
set_option linter.unusedVariables false
def mv1 (b0 b1 : Nat) (v v' : V) : Prop :=
 match v' with
 | .any => True
 | v' => (∃ e len,v = .ref b1 e len∧v' = .ref b0 e len)∨(v = v'∧noBT b0 v = true∧noBT b1 v = true)
def mvL (b0 b1 : Nat) : List V→List V→Prop
 | [],[] => True
 | v :: s,v' :: s' => mv1 b0 b1 v v'∧mvL b0 b1 s s'
 | _,_ => False
theorem mvL.get {b0 b1 : Nat} : ∀ {s t : List V},mvL b0 b1 s t→s.length = t.length∧∀ (i : Nat) (b : V),t[i]? = some b→∃ a,s[i]? = some a∧mv1 b0 b1 a b
 | [],[],_ => ⟨rfl,by simp⟩
 | a :: s,b :: t,h => by
  obtain ⟨h1,h2⟩:=mvL.get h.2
  refine ⟨by simp [h1],fun i x hx => ?_⟩
  cases i with
  | zero => simp at hx; subst hx; exact ⟨a,rfl,h.1⟩
  | succ i => simpa using h2 i x (by simpa using hx)
 | [],_ :: _,h => h.elim
 | _ :: _,[],h => h.elim
@[simp] theorem mvL_nil {b0 b1 : Nat} : mvL b0 b1 [] [] = True:=rfl
@[simp] theorem mvL_cons {b0 b1 : Nat} {a b : V} {s t : List V} : mvL b0 b1 (a :: s) (b :: t) = (mv1 b0 b1 a b∧mvL b0 b1 s t):=rfl
@[simp] theorem mv1_any {b0 b1 : Nat} {a : V} : mv1 b0 b1 a .any = True:=rfl
section
variable {w : World} {O O' : Nat→Prop} {φ φ' : Pl} {b0 b1 : Nat}
theorem mv_S (hO : ∀ x,O' x→O x) (hφ : ∀ b,b ≠ b0→b ≠ b1→φ' b = φ b) {v : V} {u : Value} (h0 : Wo b0 v = true) (h1 : Wo b1 v = true) (h : S w O φ v u) : S w O' φ' v u:=by
 have hev : Ev w O Wi w O' Wi:=⟨fun k _ ho => ⟨rfl,fun h => ho (hO k h)⟩,fun _ _ h => h,fun _ _ h => h⟩
 cases h <;> simp only [Wo,decide_eq_true_eq] at h0 h1
 case i => exact .i
 case b => exact .b
 case f => exact .f
 case nan h => exact .nan h
 case str => exact .str
 case s h => exact .s h
 case nil => exact .nil
 case sl hn hl hc h => exact .sl hn hl hc (h.ev hev)
 case sl0 => exact .sl0
 case slnil => exact .slnil
 case ref => exact .ref ((hφ _ h0 h1).trans ‹_›) ‹_› ‹_›
 case ref0 => exact .ref0
 case refnil => exact .refnil
 case refc => exact .refc ((hφ _ h0 h1).trans ‹_›) ‹_›
 case refc0 => exact .refc0
 case ptr => exact .ptr ((hφ _ h0 h1).trans ‹_›)
 case cptr h => exact .cptr (h.ev hev)
 case own h => exact .own (h.ev hev)
 case err => exact .err
 case any => exact .any
 all_goals cases h0
theorem mv_Sl (hO : ∀ x,O' x→O x) (hφ : ∀ b,b ≠ b0→b ≠ b1→φ' b = φ b) : ∀ {vs : List V} {us : List Value},vs.all (Wo b0) = true→vs.all (Wo b1) = true→Sl w O φ vs us→Sl w O' φ' vs us
 | _,_,_,_,.nil => .nil
 | _,_,h0,h1,.cons h hs => by
  simp only [List.all_cons,Bool.and_eq_true] at h0 h1
  exact .cons (mv_S hO hφ h0.1 h1.1 h) (mv_Sl hO hφ h0.2 h1.2 hs)
theorem mv_SA (hO : ∀ x,O' x→O x) (hφ : ∀ b,b ≠ b0→b ≠ b1→φ' b = φ b) {v : V} {u : Value} (h0 : noBA b0 v = true) (h1 : noBA b1 v = true) (h : S w O φ v u) : S w O' φ' v u:=by
 unfold noBA at h0 h1
 split at h0
 ·cases h with
  | agg h => exact .agg (mv_Sl hO hφ h0 h1 h)
 ·rename_i hv
  exact mv_S hO hφ h0 (by split at h1 <;> first | exact absurd rfl (hv _) | exact h1) h
theorem mv_SAl (hO : ∀ x,O' x→O x) (hφ : ∀ b,b ≠ b0→b ≠ b1→φ' b = φ b) : ∀ {vs : List V} {us : List Value},vs.all (noBA b0) = true→vs.all (noBA b1) = true→Sl w O φ vs us→Sl w O' φ' vs us
 | _,_,_,_,.nil => .nil
 | _,_,h0,h1,.cons h hs => by
  simp only [List.all_cons,Bool.and_eq_true] at h0 h1
  exact .cons (mv_SA hO hφ h0.1 h1.1 h) (mv_SAl hO hφ h0.2 h1.2 hs)
theorem mv_ST (hO : ∀ x,O' x→O x) (hφ : ∀ b,b ≠ b0→b ≠ b1→φ' b = φ b) {v : V} {u : Value} (h0 : noBT b0 v = true) (h1 : noBT b1 v = true) (h : S w O φ v u) : S w O' φ' v u:=by
 unfold noBT at h0 h1
 split at h0
 ·cases h with
  | tup h => exact .tup (mv_SAl hO hφ h0 h1 h)
 ·rename_i hv
  exact mv_SA hO hφ h0 (by split at h1 <;> first | exact absurd rfl (hv _) | exact h1) h
theorem mv_STl (hO : ∀ x,O' x→O x) (hφ : ∀ b,b ≠ b0→b ≠ b1→φ' b = φ b) : ∀ {vs : List V} {us : List Value},vs.all (noBT b0) = true→vs.all (noBT b1) = true→Sl w O φ vs us→Sl w O' φ' vs us
 | _,_,_,_,.nil => .nil
 | _,_,h0,h1,.cons h hs => by
  simp only [List.all_cons,Bool.and_eq_true] at h0 h1
  exact .cons (mv_ST hO hφ h0.1 h1.1 h) (mv_STl hO hφ h0.2 h1.2 hs)
end
end Go.VL

namespace Go.VL
open Go.RowKit
set_option linter.unusedSimpArgs false
set_option linter.unusedVariables false
def Wy : List (Nat × V)→Nat→V
 | [],_ => .any
 | (k,v) :: r,i => cond (i == k) v (Wy r i)
def lookB (b : Bool) (v : V) (l : List (Nat × V)) (i : Nat) : V:=cond b v (Wy l i)
def tm (n : Nat) (l : List (Nat × V)) : List V:=(List.range n).map (Wy l)
def en : Nat→List V→List (Nat × V)
 | _,[] => []
 | i,v :: l => (i,v) :: en (i + 1) l
section
variable {n i k : Nat} {l l1 l2 : List (Nat × V)} {v : V} {g : List V}
@[simp] theorem look_nil : Wy [] i = .any:=rfl
@[simp] theorem look_b : Wy ((k,v) :: l) i = lookB (i == k) v l i:=rfl
@[simp] theorem lookB_true : lookB true v l i = v:=rfl
@[simp] theorem lookB_false : lookB false v l i = Wy l i:=rfl
theorem Xy : Wy ((k,v) :: l) i = if i = k then v else Wy l i:=by
 show cond (i == k) v (Wy l i) = _
 by_cases h : i = k
 ·subst h; simp
 ·rw [if_neg h,show (i == k) = false by simpa using h]; rfl
@[simp] theorem tm_length : (tm n l).length = n:=by simp [tm]
theorem Qr (h : i < n) : (tm n l)[i]? = some (Wy l i):=by simp [tm,h]
@[simp] theorem Qr? (h : i < n) : (tm n l)[i]? = some (Wy l i):=Qr h
@[simp] theorem tm_getElem (h : i < (tm n l).length) : (tm n l)[i] = Wy l i:=by simp [tm]
@[simp] theorem tm_getD (h : i < n) : (tm n l).getD i .any = Wy l i:=by simp [List.getD,Qr h]
@[simp] theorem tm_getD' (h : i < n) : (tm n l)[i]?.getD .any = Wy l i:=by simp [Qr h]
@[simp] theorem tm_set (h : i < n) : (tm n l).set i v = tm n ((i,v) :: l):=by
 apply List.ext_getElem?
 intro j
 rw [List.getElem?_set]
 by_cases hj : i = j
 ·subst hj
  rw [if_pos rfl,if_pos (by simpa using h),Qr h]
  simp
 ·rw [if_neg hj]
  by_cases hlt : j < n
  ·rw [Qr hlt,Qr hlt,Xy,if_neg (fun e => hj e.symm)]
  ·rw [List.getElem?_eq_none (by simpa using hlt),List.getElem?_eq_none (by simpa using hlt)]
theorem look_en : ∀ {args : List V} {s i : Nat},Wy (en s args) i = if s≤i then (args[i - s]?).getD .any else .any
 | [],s,i => by simp [en]
 | a :: args,s,i => by
  rw [en,Xy,look_en]
  by_cases h1 : i = s
  ·subst h1; simp
  ·by_cases h2 : s≤i
   ·rw [if_neg h1,if_pos (by omega),if_pos h2,show i - s = (i - (s + 1)) + 1 by omega]
    rfl
   ·rw [if_neg h1,if_neg (by omega),if_neg h2]
theorem Wd {args : List V} {k : Nat} : args ++ List.replicate k .any = tm (args.length + k) (en 0 args):=by
 apply List.ext_getElem?
 intro j
 by_cases hlt : j < args.length + k
 ·rw [Qr hlt,look_en,if_pos (Nat.zero_le _),Nat.sub_zero]
  by_cases h1 : j < args.length
  ·rw [List.getElem?_append_left h1,List.getElem?_eq_getElem h1]; rfl
  ·rw [List.getElem?_append_right (by omega),List.getElem?_replicate,if_pos (by omega),List.getElem?_eq_none (by omega)]; rfl
 ·rw [List.getElem?_eq_none (by simpa using hlt),List.getElem?_eq_none (by simpa using hlt)]
theorem look_map {f : V→V} (hf : f .any = .any) : ∀ {l : List (Nat × V)},Wy (l.map fun p => (p.1,f p.2)) i = f (Wy l i)
 | [] => hf.symm
 | (k,v) :: l => by
  rw [List.map_cons,Xy,Xy,look_map hf]
  split <;> rfl
@[simp] theorem tm_kill {b : Nat} : (tm n l).map (Uf b) = tm n (l.map fun p => (p.1,Uf b p.2)):=by
 unfold tm
 rw [List.map_map]
 refine List.map_congr_left fun i _ => ?_
 rw [look_map (f:=Uf b) (by simp [Uf,noBT,noBA,Wo])]
 rfl
def hasK (l : List (Nat × V)) (i : Nat) : Bool:=l.any fun p => p.1 == i
def mrgA (c : Bool) (l1 l2 : List (Nat × V)) : List (Nat × V):=l1.map (fun p => (p.1,mrg2 c p.2 (Wy l2 p.1))) ++ (l2.filter fun p => !hasK l1 p.1).map fun p => (p.1,mrg2 c .any p.2)
theorem look_app : ∀ {a b : List (Nat × V)},Wy (a ++ b) i = if hasK a i = true then Wy a i else Wy b i
 | [],b => by simp [hasK]
 | (k,v) :: a,b => by
  rw [List.cons_append,Xy,Xy,look_app]
  by_cases h : i = k
  ·subst h; simp [hasK]
  ·rw [if_neg h,if_neg h]
   have : hasK ((k,v) :: a) i = hasK a i:=by
    simp only [hasK,List.any_cons]
    have : (k == i) = false:=by simpa using fun e => h e.symm
    rw [this]; rfl
   rw [this]
theorem look_noK : ∀ {l : List (Nat × V)},hasK l i = false→Wy l i = .any
 | [],_ => rfl
 | (k,v) :: l,h => by
  simp only [hasK,List.any_cons,Bool.or_eq_false_iff] at h
  rw [Xy,if_neg (by have:=h.1; simp at this; exact fun e => this e.symm)]
  exact look_noK h.2
theorem look_mrgA {c : Bool} : Wy (mrgA c l1 l2) i = mrg2 c (Wy l1 i) (Wy l2 i):=by
 unfold mrgA
 rw [look_app]
 have hk : hasK (l1.map fun p => (p.1,mrg2 c p.2 (Wy l2 p.1))) i = hasK l1 i:=by simp [hasK,Function.comp_def]
 rw [hk]
 by_cases h : hasK l1 i = true
 ·rw [if_pos h]
  clear hk
  induction l1 with
  | nil => simp [hasK] at h
  | cons p r ih =>
   obtain ⟨k,v⟩:=p
   rw [List.map_cons,Xy,Xy]
   by_cases hi : i = k
   ·subst hi; simp
   ·rw [if_neg hi,if_neg hi]
    refine ih ?_
    simp only [hasK,List.any_cons,Bool.or_eq_true] at h
    rcases h with h | h
    ·simp at h; exact absurd h.symm hi
    ·exact h
 ·have h' : hasK l1 i = false:=by simpa using h
  have e1 : Wy l1 i = .any:=look_noK h'
  rw [if_neg h,e1]
  clear hk e1
  induction l2 with
  | nil => simp [mrg2]
  | cons p r ih =>
   obtain ⟨k,v⟩:=p
   by_cases hi : i = k
   ·subst hi
    rw [List.filter_cons,if_pos (by simp [h'])]
    simp
   ·rw [Xy,if_neg hi,List.filter_cons]
    split
    ·rw [List.map_cons,Xy,if_neg hi]; exact ih
    ·exact ih
@[simp] theorem tm_mrg {c : Bool} : mrgT c (tm n l1) (tm n l2) = tm n (mrgA c l1 l2):=by
 rw [mrgT_eq]
 apply List.ext_getElem?
 intro j
 by_cases hlt : j < n
 ·rw [Qr hlt,look_mrgA]
  unfold mrg2
  split <;> rw [Qr hlt]
 ·have : ∀ l,(tm n l)[j]? = none:=fun l => List.getElem?_eq_none (by simpa using hlt)
  split <;> rw [this,this]
attribute [simp] mrgA hasK en
def leA (l : List (Nat × V)) : List (Nat × V)→Prop
 | [] => True
 | (k,v) :: r => Hu (Wy l k) v∧leA l r
@[simp] theorem leA_nil : leA l [] = True:=propext Iff.rfl
@[simp] theorem leA_cons {r : List (Nat × V)} : leA l ((k,v) :: r) = (Hu (Wy l k) v∧leA l r):=propext Iff.rfl
theorem leL_of : ∀ {s t : List V},s.length = t.length→(∀ (i : Nat) (a b : V),s[i]? = some a→t[i]? = some b→Hu a b)→leL s t
 | [],[],_,_ => trivial
 | a :: s,b :: t,hl,h => ⟨h 0 a b rfl rfl,leL_of (by simpa using hl) fun i a b h1 h2 => h (i + 1) a b (by simpa using h1) (by simpa using h2)⟩
 | [],_ :: _,hl,_ => by simp at hl
 | _ :: _,[],hl,_ => by simp at hl
theorem leA_look : ∀ {l' : List (Nat × V)},leA l l'→∀ i,Hu (Wy l i) (Wy l' i)
 | [],_,i => by simp
 | (k,v) :: r,h,i => by
  rw [Xy]
  split
  ·rename_i hi; subst hi; exact h.1
  ·exact leA_look h.2 i
@[simp] theorem tm_le {l' : List (Nat × V)} (h : leA l l') : leL (tm n l) (tm n l'):=leL_of (by simp) fun i a b h1 h2 => by
 have hi : i < n:=by have:=(List.getElem?_eq_some_iff.1 h1).1; simpa using this
 rw [Qr hi] at h1 h2
 cases h1
 cases h2
 exact leA_look h i
def fgA (l : List (Nat × V)) : List (Nat × V)→Prop
 | [] => True
 | (k,v) :: r => (v = .any∨Wy l k = v)∧fgA l r
@[simp] theorem fgA_nil : fgA l [] = True:=propext Iff.rfl
@[simp] theorem fgA_cons {r : List (Nat × V)} : fgA l ((k,v) :: r) = ((v = .any∨Wy l k = v)∧fgA l r):=propext Iff.rfl
theorem fgt_of : ∀ {s t : List V},s.length = t.length→(∀ (i : Nat) (a b : V),s[i]? = some a→t[i]? = some b→b = .any∨a = b)→fgt s t
 | [],[],_,_ => trivial
 | a :: s,b :: t,hl,h => ⟨h 0 a b rfl rfl,fgt_of (by simpa using hl) fun i a b h1 h2 => h (i + 1) a b (by simpa using h1) (by simpa using h2)⟩
 | [],_ :: _,hl,_ => by simp at hl
 | _ :: _,[],hl,_ => by simp at hl
theorem fgA_look : ∀ {l' : List (Nat × V)},fgA l l'→∀ i,Wy l' i = .any∨Wy l i = Wy l' i
 | [],_,i => .inl rfl
 | (k,v) :: r,h,i => by
  rw [Xy]
  split
  ·rename_i hi; subst hi; exact h.1
  ·exact fgA_look h.2 i
@[simp] theorem tm_fgt {l' : List (Nat × V)} (h : fgA l l') : fgt (tm n l) (tm n l'):=fgt_of (by simp) fun i a b h1 h2 => by
 have hi : i < n:=by have:=(List.getElem?_eq_some_iff.1 h1).1; simpa using this
 rw [Qr hi] at h1 h2
 cases h1
 cases h2
 exact fgA_look h i
theorem look_all {p : V→Bool} (hp : p .any = true) : ∀ {l : List (Nat × V)},(l.all fun x => p x.2) = true→∀ i,p (Wy l i) = true
 | [],_,i => hp
 | (k,v) :: r,h,i => by
  simp only [List.all_cons,Bool.and_eq_true] at h
  rw [Xy]
  split
  ·exact h.1
  ·exact look_all hp h.2 i
@[simp] theorem tm_bnd {k : Nat} (h : (l.all fun x => Zx k x.2) = true) : (tm n l).all (Zx k) = true:=List.all_eq_true.2 fun v hv => by
 obtain ⟨i,_,rfl⟩:=List.mem_map.1 hv
 exact look_all (by simp [Zx,Zs]) h i
@[simp] theorem tm_noB {b : Nat} (h : (l.all fun x => noBT b x.2) = true) : (tm n l).all (noBT b) = true:=List.all_eq_true.2 fun v hv => by
 obtain ⟨i,_,rfl⟩:=List.mem_map.1 hv
 exact look_all (by simp [noBT,noBA,Wo]) h i
@[simp] theorem tm_take {g : List V} : (tm n l ++ g).take n = tm n l:=by rw [List.take_append_of_le_length (by simp),List.take_of_length_le (by simp)]
@[simp] theorem tm_drop {g : List V} : (tm n l ++ g).drop n = g:=by rw [List.drop_append_of_le_length (by simp),List.drop_of_length_le (by simp)]; rfl
def mvA (b0 b1 : Nat) (l : List (Nat × V)) : List (Nat × V)→Prop
 | [] => True
 | (k,v) :: r => mv1 b0 b1 (Wy l k) v∧mvA b0 b1 l r
@[simp] theorem mvA_nil {b0 b1 : Nat} : mvA b0 b1 l [] = True:=propext Iff.rfl
@[simp] theorem mvA_cons {b0 b1 : Nat} {r : List (Nat × V)} : mvA b0 b1 l ((k,v) :: r) = (mv1 b0 b1 (Wy l k) v∧mvA b0 b1 l r):=propext Iff.rfl
theorem mvL_of {b0 b1 : Nat} : ∀ {s t : List V},s.length = t.length→(∀ (i : Nat) (a b : V),s[i]? = some a→t[i]? = some b→mv1 b0 b1 a b)→mvL b0 b1 s t
 | [],[],_,_ => trivial
 | a :: s,b :: t,hl,h => ⟨h 0 a b rfl rfl,mvL_of (by simpa using hl) fun i a b h1 h2 => h (i + 1) a b (by simpa using h1) (by simpa using h2)⟩
 | [],_ :: _,hl,_ => by simp at hl
 | _ :: _,[],hl,_ => by simp at hl
theorem mvA_look {b0 b1 : Nat} : ∀ {l' : List (Nat × V)},mvA b0 b1 l l'→∀ i,mv1 b0 b1 (Wy l i) (Wy l' i)
 | [],_,i => by simp
 | (k,v) :: r,h,i => by
  rw [Xy]
  split
  ·rename_i hi; subst hi; exact h.1
  ·exact mvA_look h.2 i
@[simp] theorem tm_mv {b0 b1 : Nat} {l' : List (Nat × V)} (h : mvA b0 b1 l l') : mvL b0 b1 (tm n l) (tm n l'):=mvL_of (by simp) fun i a b h1 h2 => by
 have hi : i < n:=by have:=(List.getElem?_eq_some_iff.1 h1).1; simpa using this
 rw [Qr hi] at h1 h2
 cases h1
 cases h2
 exact mvA_look h i
end
theorem Wf {t t' g g' : List V} {m m' : VM} (h1 : t = t') (h2 : m = m') (h3 : g = g') : Qm { t:=t,m:=m,g:=g } { t:=t',m:=m',g:=g' }:=by
 subst h1 h2 h3; exact Qm.refl _
end Go.VL

namespace Go.VL
open Go.RowKit
set_option linter.unusedSimpArgs false
set_option linter.unusedVariables false
def refLive (m : VM) (b : Nat) : Bool:=match m[b]? with
 | some (some _) => true
 | _ => false
def rl0 (m : VM) : V→Bool
 | .ref b _ _ | .refc b _ _ _ _ | .ptr b _ _ => refLive m b
 | .sl _ _ | .own _ _ | .cptr _ _ | .agg _ | .tup _ => false
 | _ => true
def rlA (m : VM) : V→Bool
 | .agg cs => cs.all (rl0 m)
 | v => rl0 m v
def rlT (m : VM) : V→Bool
 | .tup cs => cs.all (rlA m)
 | v => rlA m v
def ownB : V→Bool
 | .own _ _ => true
 | _ => false
def rlE (m : VM) (es : List (List V)) : Bool:=es.all fun c => c.all fun v => rl0 m v || ownB v
def rlX (m : VM) : Option (Nat × List (List V))→Bool
 | none => true
 | some y => rlE m y.2
def rlM (m : VM) : Bool:=m.all (rlX m)
def rel1 (m : VM) (v v' : V) : Prop :=
 match v' with
 | .any => True
 | v' => v = v'∧rlT m v = true
def relL (m : VM) : List V→List V→Prop
 | [],[] => True
 | v :: s,v' :: s' => rel1 m v v'∧relL m s s'
 | _,_ => False
theorem relL.get {m : VM} : ∀ {s t : List V},relL m s t→s.length = t.length∧∀ (i : Nat) (b : V),t[i]? = some b→∃ a,s[i]? = some a∧rel1 m a b
 | [],[],_ => ⟨rfl,by simp⟩
 | a :: s,b :: t,h => by
  obtain ⟨h1,h2⟩:=relL.get h.2
  refine ⟨by simp [h1],fun i x hx => ?_⟩
  cases i with
  | zero => simp at hx; subst hx; exact ⟨a,rfl,h.1⟩
  | succ i => simpa using h2 i x (by simpa using hx)
 | [],_ :: _,h => h.elim
 | _ :: _,[],h => h.elim
@[simp] theorem relL_nil {m : VM} : relL m [] [] = True:=rfl
@[simp] theorem relL_cons {m : VM} {a b : V} {s t : List V} : relL m (a :: s) (b :: t) = (rel1 m a b∧relL m s t):=rfl
@[simp] theorem rel1_any {m : VM} {a : V} : rel1 m a .any = True:=rfl
section
variable {w : World} {O O' : Nat→Prop} {φ φ' : Pl} {m : VM}
end
def relK (m : VM) (l : List (Nat × V)) : List (Nat × V)→Prop
 | [] => True
 | (k,v) :: r => rel1 m (Wy l k) v∧relK m l r
@[simp] theorem relK_nil {m : VM} {l : List (Nat × V)} : relK m l [] = True:=rfl
@[simp] theorem relK_cons {m : VM} {l r : List (Nat × V)} {k : Nat} {v : V} : relK m l ((k,v) :: r) = (rel1 m (Wy l k) v∧relK m l r):=rfl
theorem relL.of {m : VM} : ∀ {s t : List V},s.length = t.length→(∀ (i : Nat) (a b : V),s[i]? = some a→t[i]? = some b→rel1 m a b)→relL m s t
 | [],[],_,_ => trivial
 | a :: s,b :: t,hl,h => ⟨h 0 a b rfl rfl,relL.of (by simpa using hl) fun i x y h1 h2 => h (i + 1) x y (by simpa using h1) (by simpa using h2)⟩
 | [],_ :: _,hl,_ => by simp at hl
 | _ :: _,[],hl,_ => by simp at hl
@[simp] theorem rel1_of {m : VM} {v : V} : rel1 m v v = (v = .any∨rlT m v = true):=by
 unfold rel1
 cases v <;> simp
theorem plain_rl {m : VM} {v : V} (h : Yn v = true) : rl0 m v = true:=by cases v <;> first | rfl | (cases h; done)
theorem pown_rl {m : VM} {v : V} (h : Kc v = true) : (rl0 m v || ownB v) = true:=by
 cases v <;> first | rfl | (cases h; done)
@[simp] theorem rlE_nil {m : VM} : rlE m [] = true:=rfl
@[simp] theorem rlE_cons {m : VM} {c : List V} {es : List (List V)} : rlE m (c :: es) = (c.all (fun v => rl0 m v || ownB v) && rlE m es):=rfl
@[simp] theorem rows_rl {α : Type} {c : α→List V} [h : Pow c] {m : VM} {xs : List α} : rlE m (rows c xs) = true:=List.all_eq_true.2 fun x hx => by
 obtain ⟨y,_,rfl⟩:=List.mem_map.1 hx
 exact List.all_eq_true.2 fun v hv => pown_rl (List.all_eq_true.1 (h.po y) v hv)
@[simp] theorem rows_rlp {α : Type} {c : α→List V} [h : Pln c] {m : VM} {xs : List α} : rlE m (rows c xs) = true:=List.all_eq_true.2 fun x hx => by
 obtain ⟨y,_,rfl⟩:=List.mem_map.1 hx
 refine List.all_eq_true.2 fun v hv => ?_
 rw [plain_rl (List.all_eq_true.1 (h.pl y) v hv)]
 rfl
section
variable {α : Type} {c : α→List V} {xs : List α} {x y : List V}
@[simp] theorem rows_set_last : (rows c xs ++ [x]).set xs.length y = rows c xs ++ [y]:=by
 have h : (rows c xs).length = xs.length:=by simp
 rw [List.set_append_right _ _ (by omega),h,Nat.sub_self]
 rfl
@[simp] theorem rows_get_last : (rows c xs ++ [x])[xs.length]? = some x:=by
 have h : (rows c xs).length = xs.length:=by simp
 rw [List.getElem?_append_right (by omega),h,Nat.sub_self]
 rfl
end
attribute [simp] rlM rlX rl0 rlA rlT refLive ownB
end Go.VL

namespace Go.VL
open Go.RowKit
set_option linter.unusedSimpArgs false
set_option linter.unusedVariables false
section
variable {P : Program} {ops : Array Oper} {tr : List Hi} {t0 : List V} {M : VM}
theorem DT.rows' : ∀ {l : List Oper} {t : List V} {k n : Nat} {tr' : List Hi},DT P ops M l t k tr'→(∀ j,j < l.length→l[j]? = ops[n + j]?)→(∀ j,tr'[j]? = tr[n + j]?)→t = TL ops tr t0 (fun _ => true) n →
  l.length = tr'.length∧(∀ (j : Nat) (o : Oper) (r : Hi),l[j]? = some o→tr'[j]? = some r→RowOk P ops M tr t0 (n + j) o r)∧(∀ (j : Nat) (r : Hi),tr'[j]? = some r→k≤r.2.1)∧(∀ (i j : Nat) (r s : Hi),i < j→tr'[i]? = some r→tr'[j]? = some s→r.2.1 + r.2.2≤s.2.1)
 | _,_,_,_,_,.nil,_,_,_ => by simp
 | _,_,k,n,_,.skip (o:=o) (l:=l) (tr:=tr') hw h,hl,htr,ht => by
  have h0:=hl 0 (by simp)
  have h1:=htr 0
  simp at h0 h1
  have hstep : Xh (TL ops tr t0 (fun _ => true) n) o.dst und = TL ops tr t0 (fun _ => true) (n + 1):=by simp [TL,← h0,← h1]
  obtain ⟨a1,a2,a3,a4⟩:=DT.rows' (n:=n + 1) h (fun j hj => by have:=hl (j + 1) (by simpa using hj); simpa [Nat.add_assoc,Nat.add_comm 1] using this) (fun j => by have:=htr (j + 1); simpa [Nat.add_assoc,Nat.add_comm 1] using this) (by rw [ht]; exact hstep)
  refine ⟨by simp [a1],fun j o' r ho hr => ?_,fun j r hr => ?_,fun i j r s hij hr hs => ?_⟩
  ·cases j with
   | zero => simp at ho hr; subst ho; subst hr; exact .inl ⟨by rw [Nat.add_zero,← ht]; exact hw,rfl,rfl⟩
   | succ j => have:=a2 j o' r (by simpa using ho) (by simpa using hr); rwa [show n + 1 + j = n + (j + 1) by omega] at this
  ·cases j with
   | zero => simp at hr; subst hr; exact Nat.le_refl _
   | succ j => exact a3 j r (by simpa using hr)
  ·cases j with
   | zero => omega
   | succ j =>
    cases i with
    | zero => simp at hr; subst hr; exact a3 j s (by simpa using hs)
    | succ i => exact a4 i j r s (by omega) (by simpa using hr) (by simpa using hs)
 | _,_,k,n,_,.op (o:=o) (l:=l) (tr:=tr') (r:=r0) (cnt:=cnt) hw ho0 h,hl,htr,ht => by
  have h0:=hl 0 (by simp)
  have h1:=htr 0
  simp at h0 h1
  have hstep : Xh (TL ops tr t0 (fun _ => true) n) o.dst r0 = TL ops tr t0 (fun _ => true) (n + 1):=by simp [TL,← h0,← h1]
  obtain ⟨a1,a2,a3,a4⟩:=DT.rows' (n:=n + 1) h (fun j hj => by have:=hl (j + 1) (by simpa using hj); simpa [Nat.add_assoc,Nat.add_comm 1] using this) (fun j => by have:=htr (j + 1); simpa [Nat.add_assoc,Nat.add_comm 1] using this) (by rw [ht]; exact hstep)
  refine ⟨by simp [a1],fun j o' r ho hr => ?_,fun j r hr => ?_,fun i j r s hij hr hs => ?_⟩
  ·cases j with
   | zero => simp at ho hr; subst ho; subst hr; exact .inr ⟨by rw [Nat.add_zero,← ht]; exact hw,by rw [Nat.add_zero,← ht]; exact ho0⟩
   | succ j => have:=a2 j o' r (by simpa using ho) (by simpa using hr); rwa [show n + 1 + j = n + (j + 1) by omega] at this
  ·cases j with
   | zero => simp at hr; subst hr; exact Nat.le_refl _
   | succ j => have:=a3 j r (by simpa using hr); omega
  ·cases j with
   | zero => omega
   | succ j =>
    cases i with
    | zero => simp at hr; subst hr; exact a3 j s (by simpa using hs)
    | succ i => exact a4 i j r s (by omega) (by simpa using hr) (by simpa using hs)
theorem DE.final' : ∀ {l : List Oper} {tr' : List Hi} {t tf : List V},DE l tr' t tf→∀ n,(∀ j,j < l.length→l[j]? = ops[n + j]?)→(∀ j,tr'[j]? = tr[n + j]?)→t = TL ops tr t0 (fun _ => true) n→tf = TL ops tr t0 (fun _ => true) (n + l.length)
 | _,_,_,_,.nil,n,_,_,ht => ht
 | _,_,t,tf,.cons (o:=o) (l:=l) (r:=r) (tr:=tr') h,n,hl,htr,ht => by
  have h0:=hl 0 (by simp)
  have h1:=htr 0
  simp at h0 h1
  have hstep : Xh (TL ops tr t0 (fun _ => true) n) o.dst r.1 = TL ops tr t0 (fun _ => true) (n + 1):=by simp [TL,← h0,← h1]
  have:=DE.final' h (n + 1) (fun j hj => by have:=hl (j + 1) (by simpa using hj); simpa [Nat.add_assoc,Nat.add_comm 1] using this) (fun j => by have:=htr (j + 1); simpa [Nat.add_assoc,Nat.add_comm 1] using this) (by rw [ht]; exact hstep)
  rw [this,List.length_cons]
  congr 1
  omega
theorem Ste.split {C : Qc} : ∀ {l l' : List Oper} {a c : VS},Ste P C ops (l ++ l') a c→∃ b,Ste P C ops l a b∧Ste P C ops l' b c
 | [],_,a,_,h => ⟨a,.nil,h⟩
 | o :: l,l',a,c,h => by
  cases h with
  | skip hw h => obtain ⟨b,h1,h2⟩:=Ste.split (l:=l) h; exact ⟨b,.skip hw h1,h2⟩
  | op hw h1 h => obtain ⟨b,h2,h3⟩:=Ste.split (l:=l) h; exact ⟨b,.op hw h1 h2,h3⟩
end
end Go.VL
