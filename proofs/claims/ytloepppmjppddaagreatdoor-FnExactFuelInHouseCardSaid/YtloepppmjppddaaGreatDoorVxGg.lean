/- Plain lemmas: iterations, and numbers that do not turn round. -/
import Derived.Test.YtloepppmjppddaaGreatDoorVxGf
import Derived.LoopN
namespace Go.VL
set_option linter.unusedSimpArgs false
set_option linter.unusedVariables false
section
variable {σ σ' ρ ρ' : Type}
theorem Qv {body : σ→Option (σ ⊕ ρ)} (μ : σ→Nat) (I : σ→Prop) (R : ρ→Prop) (h : ∀ s,I s→(∃ t,body s = some (.inl t)∧I t∧μ t < μ s)∨(∃ r,body s = some (.inr r)∧R r)) {s : σ} (hs : I s) : ∃ r,loopO body s = some r∧R r:=by
 have : ∀ (n : Nat) (s : σ),μ s = n→I s→∃ r,loopO body s = some r∧R r:=fun n => by
  induction n using Nat.strongRecOn with
  | _ n ih =>
   intro s hn hs
   rcases h s hs with ⟨t,h1,h2,h3⟩ | ⟨r,h1,h2⟩
   ·obtain ⟨r,h4,h5⟩:=ih (μ t) (by omega) t rfl h2
    exact ⟨r,(Ut h1).trans h4,h5⟩
   ·exact ⟨r,Xt h1,h2⟩
 exact this _ s rfl hs
theorem loopO_rel {b1 : σ→Option (σ ⊕ ρ)} {b2 : σ'→Option (σ' ⊕ ρ')} (μ : σ→Nat) (I : σ→σ'→Prop) (R : ρ→ρ'→Prop)
  (h : ∀ s s',I s s'→(∃ t t',b1 s = some (.inl t)∧b2 s' = some (.inl t')∧I t t'∧μ t < μ s)∨(∃ r r',b1 s = some (.inr r)∧b2 s' = some (.inr r')∧R r r')) {s : σ} {s' : σ'} (hs : I s s') : ∃ r r',loopO b1 s = some r∧loopO b2 s' = some r'∧R r r':=by
 have : ∀ (n : Nat) (s : σ) (s' : σ'),μ s = n→I s s'→∃ r r',loopO b1 s = some r∧loopO b2 s' = some r'∧R r r':=fun n => by
  induction n using Nat.strongRecOn with
  | _ n ih =>
   intro s s' hn hs
   rcases h s s' hs with ⟨t,t',h1,h1',h2,h3⟩ | ⟨r,r',h1,h1',h2⟩
   ·obtain ⟨r,r',h4,h4',h5⟩:=ih (μ t) (by omega) t t' rfl h2
    exact ⟨r,r',(Ut h1).trans h4,(Ut h1').trans h4',h5⟩
   ·exact ⟨r,r',Xt h1,Xt h1',h2⟩
 exact this _ s s' rfl hs
end
section
variable {a b : Int}
theorem aI64 (h1 : -9223372036854775808≤a + b) (h2 : a + b < 9223372036854775808) : aI .i64 a b = a + b:=wrap64 h1 h2
theorem sI64 (h1 : -9223372036854775808≤a - b) (h2 : a - b < 9223372036854775808) : sI .i64 a b = a - b:=wrap64 h1 h2
theorem mI64 (h1 : -9223372036854775808≤a * b) (h2 : a * b < 9223372036854775808) : mI .i64 a b = a * b:=wrap64 h1 h2
theorem cI64 (h1 : -9223372036854775808≤a) (h2 : a < 9223372036854775808) : cI .i64 a = a:=wrap64 h1 h2
end
section
variable {α : Type} {xs : List α} {i : Int}
theorem idx_of (h0 : 0≤i) (h : i.toNat < xs.length) : Wp xs i = some xs[i.toNat]:=by
 unfold Wp
 rw [if_pos h0,List.getElem?_eq_getElem h]
theorem Yh {n : Nat} (h : n < xs.length) : Wp xs (n : Int) = some xs[n]:=idx_of (by omega) (by simpa using h)
theorem Uy {ys : List α} {b : Nat} (h1 : (xs.length + ys.length) * b≤140737488355328) (h2 : xs.length + ys.length≤9223372036854775807) : Jm b xs ys = some ():=by
 unfold Jm
 rw [if_pos ⟨h1,h2⟩]
theorem mk_of {b : Nat} {n : Int} (h0 : 0≤n) (h1 : b * n.toNat≤281474976710656) (h2 : n.toNat≤9223372036854775807) : mk b n = some ():=by
 unfold mk
 rw [if_pos ⟨h0,h1,h2⟩]
theorem Uq {lo hi : Int} {n : Nat} (h0 : 0≤lo) (h1 : lo≤hi) (h2 : hi≤n) : Jw lo hi n = some ():=by
 unfold Jw
 rw [if_pos ⟨h0,by omega,by omega,by omega⟩]
end
def marks (k : Int) : Nat→List Int
 | 0 => []
 | n + 1 => k :: marks (k + 1) n
@[simp] theorem marks_length {k : Int} {n : Nat} : (marks k n).length = n:=by
 induction n generalizing k with
 | zero => rfl
 | succ n ih => simp [marks,ih]
end Go.VL
namespace Go.VL
section
variable {σ ρ : Type}
theorem Ua {body : σ→Option (σ ⊕ ρ)} (S : Nat→σ) (n : Nat) (h : ∀ i,i < n→body (S i) = some (.inl (S (i + 1)))) {r : ρ} (hr : body (S n) = some (.inr r)) : loopO body (S 0) = some r:=by
 have : ∀ k,k≤n→loopO body (S (n - k)) = some r:=fun k => by
  induction k with
  | zero => intro _; exact Xt hr
  | succ k ih =>
   intro hk
   rw [Ut (h (n - (k + 1)) (by omega)),show n - (k + 1) + 1 = n - k by omega]
   exact ih (by omega)
 have:=this n (Nat.le_refl _)
 rwa [Nat.sub_self] at this
theorem Wx {body : Int→Option (Int ⊕ ρ)} {n : Nat} (f : Nat→Option ρ) (done : ρ) (hbody : ∀ i : Nat,i < n→body (i : Int) = some (match f i with | none => .inl ((i + 1 : Nat) : Int) | some r => .inr r)) (hend : body (n : Int) = some (.inr done)) :
  loopO body 0 = some (((List.range n).findSome? f).getD done):=by
 have : ∀ k,k≤n→loopO body ((n - k : Nat) : Int) = some (((List.range' (n - k) k).findSome? f).getD done):=fun k => by
  induction k with
  | zero => intro _; simpa using Xt hend
  | succ k ih =>
   intro hk
   rw [List.range'_succ,List.findSome?_cons]
   have hb:=hbody (n - (k + 1)) (by omega)
   cases hf : f (n - (k + 1)) with
   | none =>
    rw [hf] at hb
    rw [Ut hb,show n - (k + 1) + 1 = n - k by omega]
    exact ih (by omega)
   | some r =>
    rw [hf] at hb
    simpa using Xt hb
 have:=this n (Nat.le_refl _)
 rw [Nat.sub_self] at this
 rw [List.range_eq_range']
 exact this
end
theorem Xd {i : Nat} (h : i < 4611686018427387904) : aI .i64 (i : Int) 1 = ((i + 1 : Nat) : Int):=succ64 h
theorem range_none {ρ : Type} {n : Nat} {f : Nat→Option ρ} : (List.range n).findSome? f = none ↔ ∀ i,i < n→f i = none:=by
 rw [List.findSome?_eq_none_iff]
 simp
theorem range_some {ρ : Type} : ∀ {n : Nat} {f : Nat→Option ρ} {r : ρ},(List.range n).findSome? f = some r→∃ i,i < n∧f i = some r∧∀ j,j < i→f j = none:=by
 intro n f r h
 rw [List.range_eq_range'] at h
 have : ∀ (k s : Nat),(List.range' s k).findSome? f = some r→∃ i,s≤i∧i < s + k∧f i = some r∧∀ j,s≤j→j < i→f j = none:=fun k => by
  induction k with
  | zero => intro s h; simp at h
  | succ k ih =>
   intro s h
   rw [List.range'_succ,List.findSome?_cons] at h
   cases hf : f s with
   | some r' =>
    rw [hf] at h
    simp at h
    subst h
    exact ⟨s,Nat.le_refl _,by omega,hf,fun j h1 h2 => by omega⟩
   | none =>
    rw [hf] at h
    obtain ⟨i,h1,h2,h3,h4⟩:=ih (s + 1) h
    refine ⟨i,by omega,by omega,h3,fun j h5 h6 => ?_⟩
    by_cases hj : j = s
    ·subst hj; exact hf
    ·exact h4 j (by omega) h6
 obtain ⟨i,_,h2,h3,h4⟩:=this n 0 h
 exact ⟨i,by omega,h3,fun j hj => h4 j (by omega) hj⟩
end Go.VL

namespace Go.VL
open Go.RowKit
set_option linter.unusedSimpArgs false
set_option linter.unusedVariables false
def iterO {α β : Type} (body : (α→Option β)→α→Option β) : Nat→α→Option β
 | 0 => fun _ => none
 | n + 1 => body (iterO body n)
open Classical in
def fzF (F : List V→Option V) : List V→Option V:=fun a => (F a).map frz
theorem Zz.fz {P : Program} {f : FuncId} {F : List V→Option V} (h : Zz P f F) : Zz P f (fzF F):=⟨h.1,fun args r hr => by
 unfold fzF at hr
 rw [Option.map_eq_some_iff] at hr
 obtain ⟨r0,h0,rfl⟩:=hr
 exact fun w us hg hs => (h.2 args r0 h0 w us hg hs).mono fun e w' ⟨x,u,F,h1,h2,h3,h4⟩ => ⟨frz r0,u,F,h1,rfl,by subst h2; exact .fz h3 rfl,h4⟩⟩
theorem fzF_eq {F : List V→Option V} {a : List V} {r : V} (h : F a = some r) : fzF F a = some (frz r):=by simp [fzF,h]
end Go.VL
namespace Go.VL
def Yp (k : FloatKind) (x : Option Nat) : Prop:=∃ b,x = some b∧(Lit.float k b).wf = true
end Go.VL
namespace Go.VL
section
variable {P : Program} {C : Qc} {Q : Exit→VS→Prop} {st : VS}
def VRounds (P : Program) (c : Code) (Q : Exit→VS→Prop) : Nat→VS→Prop
 | 0,_ => False
 | n + 1,st => VW P c (vthen (VRounds P c Q n) Q) st
theorem VRounds.step {c : Code} {n : Nat} (h : VW P c (vthen (VRounds P c Q n) Q) st) : VRounds P c Q (n + 1) st:=h
theorem VRounds.rounds {c : Code} : ∀ {n : Nat} {st : VS},VRounds P c Q n st→∀ (N : Fr) (w0 : World × List Value) (a : Act) (w : World) (φ : Pl),SR P N w0 st a w φ→Code.rounds P c (fun e a' w' => ∃ st' φ',Q e st'∧SR P N w0 st' a' w' φ') n a w
 | 0,_,h,_,_,_,_,_,_ => h.elim
 | n + 1,st,h,N,w0,a,w,φ,hs => by
  rw [rounds_succ]
  refine wp_mono (h N w0 a w φ hs) fun e a' w' ⟨s',φ',h1,h2⟩ => ?_
  cases e with
  | normal => exact VRounds.rounds (n:=n) h1 N w0 a' w' φ' h2
  | exit id => exact ⟨s',φ',h1,h2⟩
  | goto l => exact ⟨s',φ',h1,h2⟩
  | ret => exact ⟨s',φ',h1,h2⟩
  | panic c => exact ⟨s',φ',h1,h2⟩
  | outgrown => exact ⟨s',φ',h1,h2⟩
theorem VW.rounds {c : Code} (n : Nat) (h : VRounds P c Q n st) : VW P (.loop c) Q st:=fun N w0 a w φ hs => wp_loop_rounds n (h.rounds N w0 a w φ hs)
def toStK0 (x : Option VS) (t' : List V) (m' : VM) (g' : List V) : Prop :=
 match x with
 | some s => leL s.t t'∧s.m.take m'.length = m'∧m'.length≤s.m.length∧s.g = g'
 | none => False
structure toStK (x : Option VS) (t' : List V) (m' : VM) (g' : List V) : Prop where
 of ::
 out : toStK0 x t' m' g'
@[simp] theorem toStK_some {s : VS} {t' : List V} {m' : VM} {g' : List V} : toStK (some s) t' m' g' = (leL s.t t'∧s.m.take m'.length = m'∧m'.length≤s.m.length∧s.g = g'):=propext ⟨fun h => h.out,fun h => ⟨h⟩⟩
@[simp] theorem toStK_none {t' : List V} {m' : VM} {g' : List V} : toStK none t' m' g' = False:=propext ⟨fun h => h.out,fun h => h.elim⟩
theorem toStK.get {x : Option VS} {t' : List V} {m' : VM} {g' : List V} (h : toStK x t' m' g') : ∃ t m,x = some { t:=t,m:=m,g:=g' }∧leL t t'∧m.take m'.length = m'∧m'.length≤m.length:=by
 cases x with
 | none => exact h.out.elim
 | some s => obtain ⟨h1,h2,h3,h4⟩:=h.out; subst h4; exact ⟨s.t,s.m,rfl,h1,h2,h3⟩
theorem fgt_refl (t : List V) : fgt t t:=by
 induction t with
 | nil => simp [fgt]
 | cons v t ih => simp [fgt,ih]
theorem VW.evalK1 {id : Nat} {l : List Oper} (t' : List V) (m' : VM) (g' : List V) (hC : C.Ok P) (hg : Xp l.toArray l.length none l = true) (h : toStK (Wj P C l.toArray l.length none l st) t' m' g')
  (ht : t'.all (Zx m'.length) = true) (hb : bndM m'.length m' = true) (hgg : g'.all (Zx m'.length) = true) (hQ : Q .normal { t:=t',m:=m',g:=g' }) : VW P (.region id l.toArray false) Q st:=by
 obtain ⟨t,m,h1,h2,h3,h4⟩:=h.get
 exact Uc (.eval hC hg h1 ⟨_,(Km h2).trans (Qm.to (t:=t') (t':=t') (m:=m) (m':=m') m'.length (fgt_refl _) h3 h4 ht hb hgg),hQ⟩)
end
end Go.VL
namespace Go.VL
section
variable {P : Program} {Q : Exit→VS→Prop} {st : VS}
theorem VRounds.join {σ : Type} {c : Code} {n : Nat} (H : σ→VS) (K : σ→Prop) (h : VW P c (vthen (fun s => ∃ v,K v∧Qm s (H v)) Q) st) (hj : ∀ v,K v→VRounds P c Q n (H v)) : VRounds P c Q (n + 1) st:=by
 refine h.mono fun e s hq => ?_
 cases e with
 | normal =>
  obtain ⟨v,h1,h2⟩:=hq
  have:=hj v h1
  cases n with
  | zero => exact this.elim
  | succ n => exact VW.ent h2 this
 | exit id => exact hq
 | goto l => exact hq
 | ret => exact hq
 | panic c => exact hq
 | outgrown => exact hq
end
end Go.VL
namespace Go.VL
set_option linter.unusedVariables false
set_option linter.unusedSimpArgs false
def nlE : List (List V)→List (List V)→Prop
 | [],[] => True
 | a :: s,b :: t => nlL a b∧nlE s t
 | _,_ => False
theorem nlL_get : ∀ {a b : List V},nlL a b→a.length = b.length∧∀ (i : Nat) (v : V),b[i]? = some v→∃ v0,a[i]? = some v0∧nl1 v0 v
 | [],[],_ => ⟨rfl,by simp⟩
 | x :: a,y :: b,h => by
  obtain ⟨h1,h2⟩:=nlL_get h.2
  refine ⟨by simp [h1],fun i v hi => ?_⟩
  cases i with
  | zero => simp at hi; subst hi; exact ⟨x,rfl,h.1⟩
  | succ i => exact h2 i v (by simpa using hi)
 | [],_ :: _,h => h.elim
 | _ :: _,[],h => h.elim
theorem nlL_append : ∀ {a b c d : List V},nlL a b→nlL c d→nlL (a ++ c) (b ++ d)
 | [],[],_,_,_,h => h
 | x :: a,y :: b,_,_,h,k => ⟨h.1,nlL_append h.2 k⟩
 | [],_ :: _,_,_,h,_ => h.elim
 | _ :: _,[],_,_,h,_ => h.elim
theorem nlE_flat : ∀ {a b : List (List V)},nlE a b→nlL a.flatten b.flatten∧a.length = b.length∧∀ n,(∀ l ∈ a,l.length = n)→∀ l ∈ b,l.length = n
 | [],[],_ => ⟨trivial,rfl,fun _ _ l h => by cases h⟩
 | x :: a,y :: b,h => by
  obtain ⟨h1,h2,h3⟩:=nlE_flat h.2
  refine ⟨nlL_append h.1 h1,by simp [h2],fun n hn l hl => ?_⟩
  rcases List.mem_cons.1 hl with rfl | hl
  ·rw [← (nlL_get h.1).1]; exact hn x (by simp)
  ·exact h3 n (fun l hl => hn l (by simp [hl])) l hl
 | [],_ :: _,h => h.elim
 | _ :: _,[],h => h.elim
@[simp] theorem nlE_rep {q : Nat} {a b : List V} (h : nlL a b) : nlE (List.replicate q a) (List.replicate q b):=by
 induction q with
 | zero => exact trivial
 | succ q ih => exact ⟨h,ih⟩
theorem nl1_cases {a b : V} (h : nl1 a b) : a = b∨(a = .nil∧∃ n,b = .own n []):=by
 unfold nl1 at h
 split at h
 ·exact .inr ⟨rfl,_,rfl⟩
 ·exact .inl h
theorem Qm.nils {t g : List V} {m : VM} (b : Nat) {n : Nat} {es es' : List (List V)} (m' : VM) (hb : m[b]? = some (some (n,es))) (hE : nlE es es') (hm' : m.set b (some (n,es')) = m') : Qm { t:=t,m:=m,g:=g } { t:=t,m:=m',g:=g }:=by
 subst hm'
 intro P N w0 a w φ hs
 have hblt : b < m.length:=(List.getElem?_eq_some_iff.1 hb).1
 obtain ⟨f1,f2,f3⟩:=nlE_flat hE
 obtain ⟨f4,f5⟩:=nlL_get f1
 generalize hM : m.set b (some (n,es')) = M
 have hget : ∀ x y,M[x]? = some (some y)→(x = b∧y = (n,es')∨x ≠ b∧m[x]? = some (some y)):=fun x y h => by
  rw [← hM,List.getElem?_set] at h
  split at h
  ·rename_i h2
   simp at h; exact .inl ⟨h2.symm,h.symm⟩
  ·rename_i h2
   exact .inr ⟨fun e => h2 e.symm,h⟩
 have hO : ∀ k,Yf φ M k→Yf φ m k:=fun k ⟨x,y,po,q,h1,h2⟩ => by
  rcases hget x y h1 with ⟨rfl,_⟩ | ⟨_,h3⟩
  ·exact ⟨x,_,po,q,hb,h2⟩
  ·exact ⟨x,y,po,q,h3,h2⟩
 have hev : Ev w (Yf φ m) φ w (Yf φ M) φ:=⟨fun k _ ho => ⟨rfl,fun hl => ho (hO k hl)⟩,fun _ _ h => h,fun _ _ h => h⟩
 refine ⟨φ,hs.defers,hs.size,fun i v hi => ?_,⟨fun x k es1 p h1 h2 => ?_,hs.mem.new,fun x p h => ?_,hs.mem.inj,?_⟩,hs.below,hs.start,Sl.ev hev hs.gh,hs.gl⟩
 ·obtain ⟨u,u1,u2⟩:=hs.tmps i v hi
  exact ⟨u,u1,u2.ev hev⟩
 ·rcases hget x _ h1 with ⟨rfl,h3⟩ | ⟨_,h3⟩
  ·simp only [Prod.mk.injEq] at h3
   obtain ⟨rfl,rfl⟩:=h3
   obtain ⟨c1,pb,po,c,ty,c2,c3,c4,c5⟩:=hs.mem.at_ x _ _ _ hb h2
   refine ⟨f3 _ c1,pb,po,c,ty,c2,c3,by rw [← f2]; exact c4,fun i v hi => ?_⟩
   obtain ⟨v0,g1,g2⟩:=f5 i v hi
   obtain ⟨u,d1,d2,d3⟩:=c5 i v0 g1
   refine ⟨u,d1,d2,?_⟩
   rcases nl1_cases g2 with rfl | ⟨rfl,n',rfl⟩
   ·exact d3.ev hev
   ·cases d3
    exact .own .slnil
  ·obtain ⟨c1,pb,po,c,ty,c2,c3,c4,c5⟩:=hs.mem.at_ x k es1 _ h3 h2
   exact ⟨c1,pb,po,c,ty,c2,c3,c4,fun i v hi => by
    obtain ⟨u,d1,d2,d3⟩:=c5 i v hi
    exact ⟨u,d1,d2,d3.ev hev⟩⟩
 ·have:=hs.mem.dom x p h
  rw [← hM]; simpa using this
 ·obtain ⟨ψ,hψ⟩:=hs.mem.own
  refine ⟨ψ,fun x k es1 pb po bn i n1 e1 h1 h2 h3 => ?_⟩
  rcases hget x _ h1 with ⟨rfl,h4⟩ | ⟨_,h4⟩
  ·simp only [Prod.mk.injEq] at h4
   obtain ⟨rfl,rfl⟩:=h4
   obtain ⟨v0,g1,g2⟩:=f5 i _ h3
   rcases nl1_cases g2 with rfl | ⟨rfl,n',hn'⟩
   ·obtain ⟨u,F,f1,f2,f3,f4⟩:=hψ x _ es pb po bn i n1 e1 hb h2 g1
    exact ⟨u,F,f1,f2,f3,fun q hq => by
     obtain ⟨a1,a2,a3,a4⟩:=f4 q hq
     exact ⟨a1,a2,a3,fun hl => a4 (hO q hl)⟩⟩
   ·cases hn'
    obtain ⟨c1,pb',po',c,ty,c2,c3,c4,c5⟩:=hs.mem.at_ x _ _ _ hb h2
    rw [h2] at c2
    simp at c2
    obtain ⟨rfl,rfl,rfl⟩:=c2
    obtain ⟨u,d1,d2,d3⟩:=c5 i .nil g1
    cases d3
    exact ⟨_,[],Kk c3 d1,.ownnil,by simp,by simp⟩
  ·obtain ⟨u,F,f1,f2,f3,f4⟩:=hψ x k es1 pb po bn i n1 e1 h4 h2 h3
   exact ⟨u,F,f1,f2,f3,fun q hq => by
    obtain ⟨a1,a2,a3,a4⟩:=f4 q hq
    exact ⟨a1,a2,a3,fun hl => a4 (hO q hl)⟩⟩
end Go.VL
namespace Go.VL
@[simp high] theorem tm_bnd0 {n k : Nat} : ((tm n []).all (Zx k) = true) = True:=eq_true (tm_bnd (by rfl))
end Go.VL

namespace Go.VL
open Go.RowKit
set_option linter.unusedSimpArgs false
set_option linter.unusedVariables false
theorem TellsX.of {P : Program} {f : FuncId} {F : List V→Option V} {fn : Func} {e : Array Value→Sem Value} (h1 : P.funcs[f]? = some fn) (h2 : (fn.name == "runtime.NumGoroutine") = false) (h3 : fn.body.isNone = true) (h4 : Extern.findNext fn = none) (h5 : Extern.find fn = some e)
  (h : ∀ args r,F args = some r→Yn r = true∧∀ (w : World) (us : List Value),Sl w (fun _ => False) Wi args us→∃ u n,(e us.toArray).run P w = .ok u (w.drewN n)∧S w (fun _ => False) Wi r u) : TellsX P f F:=⟨fn,e,h1,h2,h3,h4,h5,h⟩
theorem Sl.one {w : World} {O : Nat→Prop} {φ : Pl} {v : V} {us : List Value} (h : Sl w O φ [v] us) : ∃ u,us = [u]∧S w O φ v u:=by
 cases h with
 | cons h hs => cases hs; exact ⟨_,rfl,h⟩
theorem Sl.two {w : World} {O : Nat→Prop} {φ : Pl} {v v' : V} {us : List Value} (h : Sl w O φ [v,v'] us) : ∃ u u',us = [u,u']∧S w O φ v u∧S w O φ v' u':=by
 cases h with
 | cons h hs =>
  obtain ⟨u',rfl,h'⟩:=hs.one
  exact ⟨_,_,rfl,h,h'⟩
def f32bits (x : Option Nat) : Option Int:=x.map fun b => (b : Int)
def Gt : List V→Option V
 | [.f .f32 (some b)] => some (.i .u32 b)
 | _ => none
theorem f32bits_F {x : Option Nat} {v : Int} (h : f32bits x = some v) : Gt [.f .f32 x] = some (.i .u32 v):=by
 cases x with
 | none => cases h
 | some b => cases h; rfl
theorem xbits32 {P : Program} : ∀ args r,Gt args = some r→Yn r = true∧∀ (w : World) (us : List Value),Sl w (fun _ => False) Wi args us→∃ u n,(Extern.MathFloatBits.float32bits us.toArray).run P w = .ok u (w.drewN n)∧S w (fun _ => False) Wi r u:=by
 intro args r h
 unfold Gt at h
 split at h
 ·cases h
  refine ⟨rfl,fun w us hs => ?_⟩
  obtain ⟨u,rfl,hu⟩:=hs.one
  cases hu
  exact ⟨_,0,rfl,.i⟩
 ·cases h
def f32of (n : Int) : Option Nat:=some n.toNat
def FXof32 : List V→Option V
 | [.i .u32 n] => some (.f .f32 (f32of n))
 | _ => none
@[simp] theorem f32of_F {n : Int} : FXof32 [.i .u32 n] = some (.f .f32 (f32of n)):=rfl
def f64bits (x : Option Nat) : Option Int:=x.map fun b => (b : Int)
def FXbits64 : List V→Option V
 | [.f .f64 (some b)] => some (.i .u64 b)
 | _ => none
theorem f64bits_F {x : Option Nat} {v : Int} (h : f64bits x = some v) : FXbits64 [.f .f64 x] = some (.i .u64 v):=by
 cases x with
 | none => cases h
 | some b => cases h; rfl
theorem xbits64 {P : Program} : ∀ args r,FXbits64 args = some r→Yn r = true∧∀ (w : World) (us : List Value),Sl w (fun _ => False) Wi args us→∃ u n,(Extern.MathFloatBits.float64bits us.toArray).run P w = .ok u (w.drewN n)∧S w (fun _ => False) Wi r u:=by
 intro args r h
 unfold FXbits64 at h
 split at h
 ·cases h
  refine ⟨rfl,fun w us hs => ?_⟩
  obtain ⟨u,rfl,hu⟩:=hs.one
  cases hu
  exact ⟨_,0,rfl,.i⟩
 ·cases h
def f64of (n : Int) : Option Nat:=some n.toNat
def FXof64 : List V→Option V
 | [.i .u64 n] => some (.f .f64 (f64of n))
 | _ => none
@[simp] theorem f64of_F {n : Int} : FXof64 [.i .u64 n] = some (.f .f64 (f64of n)):=rfl
theorem xof64 {P : Program} : ∀ args r,FXof64 args = some r→Yn r = true∧∀ (w : World) (us : List Value),Sl w (fun _ => False) Wi args us→∃ u n,(Extern.MathFloatBits.float64frombits us.toArray).run P w = .ok u (w.drewN n)∧S w (fun _ => False) Wi r u:=by
 intro args r h
 unfold FXof64 at h
 split at h
 ·cases h
  refine ⟨rfl,fun w us hs => ?_⟩
  obtain ⟨u,rfl,hu⟩:=hs.one
  cases hu
  exact ⟨_,0,rfl,.f⟩
 ·cases h
def roundE (x : Option Nat) : Option Nat:=x.bind fun b => match FloatKind.f64.decode b with
 | .nan _ _ => none
 | d => some (FloatKind.f64.encode (d.integral .even))
def FXround : List V→Option V
 | [.f .f64 x] => some (.f .f64 (roundE x))
 | _ => none
@[simp] theorem roundE_F {x : Option Nat} : FXround [.f .f64 x] = some (.f .f64 (roundE x)):=rfl
def Ge (k : FloatKind) (n : Int) : Option Nat:=some (k.nearest n)
def iOfF (ks : FloatKind) (k : IntKind) (x : Option Nat) : Option Int:=x.bind fun b => floatToIntVal ks b k
@[simp] theorem vc_fi {A : TK} {k : FloatKind} {k' : IntKind} {n : Int} (h : A ≠ .other) : Kq A (.flt k) (.i k' n) = some (.f k (Ge k n)):=by simp [Kq,h,Ge]
@[simp] theorem vc_if {A : TK} {k : IntKind} {ks : FloatKind} {x : Option Nat} (h : A ≠ .other) : Kq A (.int k) (.f ks x) = (iOfF ks k x).map (.i k):=by
 simp only [Kq,if_neg h,iOfF]
 cases x.bind fun b => floatToIntVal ks b k <;> rfl
@[simp] theorem vc_wide {A : TK} {x : Option Nat} (h : A ≠ .other) : Kq A (.flt .f64) (.f .f32 x) = some (.f .f64 (Xm x)):=by simp [Kq,h,fconv_wide]
@[simp] theorem vc_same {A : TK} {k : FloatKind} {x : Option Nat} (h : A ≠ .other) : Kq A (.flt k) (.f k x) = some (.f k x):=by simp [Kq,h,Gd]
def narrowF (x : Option Nat) : Option (Option Nat):=Gd .f64 .f32 x
@[simp] theorem vc_narrow {A : TK} {x : Option Nat} (h : A ≠ .other) : Kq A (.flt .f32) (.f .f64 x) = (narrowF x).map (.f .f32):=by simp [Kq,h,narrowF]
@[simp] theorem vcm_other {P : Program} {m : VM} {T D : TK} {x : V} (h : ∀ e,T ≠ .slice e) : Ht P m T D x = Kq T D x:=by
 unfold Ht
 split
 ·exact absurd rfl (h _)
 ·rfl
@[simp] theorem vcm_bytes {P : Program} {m : VM} {e : Nat} {x : V} (h : tk P e = .int .u8) : Ht P m (.slice e) .str x = (vbytes m x).map fun ns => .str (strOfNums ns):=by
 simp [Ht,h]
end Go.VL

namespace Go.VL
open Go.RowKit
set_option linter.unusedSimpArgs false
set_option linter.unusedVariables false
theorem word_mod {f : Ieee.Format} {neg : Bool} {r : Nat} (h : r < f.signWeight) : f.word neg r % f.signWeight = r:=by
  unfold Ieee.Format.word
  split
  · rw [Nat.add_mod_left]; exact Nat.mod_eq_of_lt h
  · exact Nat.mod_eq_of_lt h
theorem read_num {f : Ieee.Format} {neg : Bool} {r : Nat} (h : r≤f.infRung) (h2 : f.infRung < f.signWeight) : (f.read (f.word neg r)).isNaN = false:=by
  rw [Bool.eq_false_iff]
  intro hn
  have:=read_nan.1 hn
  rw [word_mod (by omega)] at this
  omega
theorem inf_lt (k : FloatKind) : k.format.infRung < k.format.signWeight:=by cases k <;> decide
theorem nearest_num (k : FloatKind) (s : Bool) (m : Nat) (e : Int) : (k.decode (k.encode (.number s m e))).isNaN = false:=by
  show (k.format.read (k.format.nearest s m e)).isNaN = false
  unfold Ieee.Format.nearest
  split
  · exact read_num (by omega) (inf_lt k)
  · exact read_num (Nat.min_le_right _ _) (inf_lt k)
theorem order_self {k : FloatKind} {b : Nat} (h : (k.decode b).isNaN = false) : k.format.order b b = some .eq:=by
  have : ∀ d : Ieee.Datum,d.isNaN = false→d.order d = some .eq:=fun d hd => by
    cases d with
    | number s m e => simp [Ieee.Datum.order]
    | infinity s => simp [Ieee.Datum.order]
    | nan s t => cases hd
  exact this _ h
theorem ford_self {k : FloatKind} {b : Nat} (h : (k.decode b).isNaN = false) : Hh k (some b) (some b) = some .eq:=order_self h
end Go.VL

namespace Go.VL
open Go.RowKit
set_option linter.unusedSimpArgs false
set_option linter.unusedVariables false
section
variable {P : Program} {C : Qc} {ops : Array Oper} {Q : Exit→VS→Prop} {st : VS}
theorem wp_mono2 {o : Oper} {a : Act} {w : World} {K K' : Act→World→Prop} {Q Q' : Exit→Act→World→Prop} (h : ∀ a w,K a w→K' a w) (hq : ∀ e a w,e ≠ .normal→Q e a w→Q' e a w) (hh : o.wp P a w K Q) : o.wp P a w K' Q':=by
 unfold Oper.wp at *
 generalize (execOp a.eval o).run P w = r at *
 cases r with
 | ok n w' =>
  cases n <;> simp only [Oper.upon] at hh ⊢ <;>
   first
    | exact h _ _ hh
    | exact Calls.mono hh (fun e w'' he => by cases e <;> first | exact h _ _ he | exact hq _ _ _ (by simp) he | (obtain ⟨a,w,h1⟩:=he; exact ⟨a,w,hq _ _ _ (by simp) h1⟩))
    | exact Rows.mono hh (fun _ _ he => h _ _ he)
 | halt x w' => cases x <;> simp only [Oper.upon] at hh ⊢ <;> first | exact hh | exact hq _ _ _ (by simp) hh
def VO (P : Program) (ops : Array Oper) (Q : Exit→VS→Prop) (o : Oper) (K : VS→Prop) (st : VS) : Prop:=VL P ops (fun e s => (e = .normal∧K s)∨(e ≠ .normal∧Q e s)) [o] st
def VA (P : Program) (ops : Array Oper) (Q : Exit→VS→Prop) (n : Nat) (listed : Array Bool) (st : VS) : Prop :=
 ∀ (N : Fr) (w0 : World × List Value) (a : Act) (w : World) (φ : Pl),SR P N w0 st a w φ→wpAny P .any ops (fun e a' w' => ∃ st' φ',Q e st'∧SR P N w0 st' a' w' φ') n listed a w
theorem VA.stop {n : Nat} {listed : Array Bool} (h0 : Region.ready .any ops listed = []) (h : Q .normal st) : VA P ops Q n listed st:=fun N w0 a w φ hs => by
 cases n with
 | zero => exact ⟨h0,st,φ,h,hs⟩
 | succ n => exact ⟨fun _ => ⟨st,φ,h,hs⟩,fun i hi => by rw [h0] at hi; cases hi⟩
theorem VA.step {n : Nat} {listed : Array Bool} (h0 : Region.ready .any ops listed ≠ []) (h : ∀ i ∈ Region.ready .any ops listed,∀ o,ops[i]? = some o→VO P ops Q o (VA P ops Q n (listed.setIfInBounds i true)) st) : VA P ops Q (n + 1) listed st:=fun N w0 a w φ hs => by
 refine ⟨fun h1 => absurd h1 h0,fun i hi => ?_⟩
 obtain ⟨_,o,ho,_⟩:=mem_ready.1 hi
 have h1:=h i hi o ho N w0 a w φ hs
 unfold wpList at h1
 unfold wpOp
 simp only [ho]
 have key : ∀ a' w',(∃ st' φ',((Exit.normal = .normal∧VA P ops Q n (listed.setIfInBounds i true) st')∨(Exit.normal ≠ .normal∧Q .normal st'))∧SR P N w0 st' a' w' φ')→wpAny P .any ops (fun e a' w' => ∃ st' φ',Q e st'∧SR P N w0 st' a' w' φ') n (listed.setIfInBounds i true) a' w':=fun a' w' ⟨s,φ',h2,h3⟩ => by
  rcases h2 with h2 | h2
  ·exact h2.2 N w0 a' w' φ' h3
  ·exact absurd rfl h2.1
 have keyQ : ∀ e a' w',e ≠ Exit.normal→(∃ st' φ',((e = .normal∧VA P ops Q n (listed.setIfInBounds i true) st')∨(e ≠ .normal∧Q e st'))∧SR P N w0 st' a' w' φ')→∃ st' φ',Q e st'∧SR P N w0 st' a' w' φ':=fun e a' w' he ⟨s,φ',h2,h3⟩ => by
  rcases h2 with h2 | h2
  ·exact absurd h2.1 he
  ·exact ⟨s,φ',h2.2,h3⟩
 split
 ·rename_i hw
  rw [if_pos hw] at h1
  rcases h1 with h1 | ⟨h1,h2⟩
  ·exact .inl (wp_mono2 key keyQ h1)
  ·refine .inr ⟨h1,?_⟩
   obtain ⟨a',w',h3⟩:=h2
   exact ⟨a',w',keyQ _ _ _ (by simp) h3⟩
 ·rename_i hw
  rw [if_neg hw] at h1
  exact key _ _ h1
theorem VW.any {id : Nat} (hm : P.follows .mixedOrders = true) (h : VA P ops Q ops.size (Array.replicate ops.size false) st) : VW P (.region id ops true) Q st:=fun N w0 a w φ hs => by
 refine wp_region_any hm ?_
 have hs1 : SR P N w0 st a (w.drewN 1) φ:=by
  obtain ⟨d1,d2⟩:=hs.mem.drewN 1
  exact ⟨hs.defers,hs.size,fun i v hi => by
   obtain ⟨u,b1,b2⟩:=hs.tmps i v hi
   exact ⟨u,b1,b2.ev d2⟩,d1,hs.below.trans (Jg N w 1),hs.start,Sl.ev d2 hs.gh,hs.gl⟩
 exact h N w0 a _ φ hs1
def VInE (P : Program) (rs : List ResultVar) (r : V) (m' : VM) (g' : List V) : Exit→VS→Prop
 | .normal,s | .ret,s => Qn P rs s = some r∧s.m = m'∧s.g = g'
 | _,_ => False
theorem VInE.fin {rs : List ResultVar} {r : V} {m' : VM} {g' : List V} {s : VS} (h1 : Qn P rs s = some r) (h2 : s.m = m') (h3 : s.g = g') : Qn P rs s = some r∧s.m = m'∧s.g = g':=⟨h1,h2,h3⟩
def TellsM (P : Program) (f : FuncId) (F : List V→Option V) : Prop :=
 ∃ fn c,P.funcs[f]? = some fn∧(fn.name != "runtime.NumGoroutine") = true∧fn.body = some c∧∀ cs vs r cs',F (.agg cs :: vs) = some (.tup [r,.agg cs']) →
  ∀ (g : List V) (m : VM) (b n : Nat),m[b]? = some (some (n,[cs]))→VW P c (VInE P fn.results.toList r (m.set b (some (n,[cs']))) g) { t:=(.ptr b 0 0 :: vs) ++ List.replicate (fn.ntmps - (vs.length + 1)) .any,m:=m,g:=g }
theorem TellsM.of {f : FuncId} {α β : Type} {g : α→Option β} {eA : α→List V} {eB : β→V} {fn : Func} {c : Code} {rs : List ResultVar} {k : Nat} (hf : P.funcs[f]? = some fn) (hname : (fn.name != "runtime.NumGoroutine") = true) (hb : fn.body = some c) (hk : fn.ntmps = k) (hr : fn.results.toList = rs)
  (h : ∀ a r,g a = some r→∀ cs vs v cs',eA a = .agg cs :: vs→eB r = .tup [v,.agg cs']→∀ (gg : List V) (m : VM) (b n : Nat),m[b]? = some (some (n,[cs])) →
   VW P c (VInE P rs v (m.set b (some (n,[cs']))) gg) { t:=(.ptr b 0 0 :: vs) ++ List.replicate (k - (vs.length + 1)) .any,m:=m,g:=gg }) : TellsM P f (tells g eA eB):=by
 subst hk hr
 refine ⟨fn,c,hf,hname,hb,fun cs vs r cs' hF => ?_⟩
 unfold tells at hF
 split at hF
 ·rename_i hh
  obtain ⟨h1,h2⟩:=hh.choose_spec
  exact h _ _ h2 cs vs r cs' h1 (Option.some.inj hF)
 ·cases hF
theorem VL.inM {o : Oper} {l : List Oper} {f : FuncId} {args : Array Operand} {ats : Array TypeId} {F : List V→Option V} {cs cs' vs : List V} {r : V} {b n : Nat} (hog : o.guard = none) (ho : o.op = .call { callee:=.value (.func f),args:=args,argTypes:=ats }) (hF : TellsM P f F)
  (ha : args.toList.map (ev st.t) = .ptr b 0 0 :: vs) (hb : st.m[b]? = some (some (n,[cs]))) (hc : F (.agg cs :: vs) = some (.tup [r,.agg cs']))
  (h : VL P ops Q l { t:=Xh st.t o.dst r,m:=st.m.set b (some (n,[cs'])),g:=st.g }) : VL P ops Q (o :: l) st:=by
 obtain ⟨fn,c,h1,h2,h3,h4⟩:=hF
 have hsz : args.size = vs.length + 1:=by
  have:=congrArg List.length ha
  simpa using this
 have h5:=h4 cs vs r cs' hc (st.t ++ st.g) st.m b n hb
 refine VL.inl hog ho h1 h2 h3 ?_
 rw [ha,hsz]
 refine h5.mono fun e s hq => ?_
 have key : Qn P fn.results.toList s = some r∧s.m = st.m.set b (some (n,[cs']))∧s.g = st.t ++ st.g→∃ v,Qn P fn.results.toList s = some v∧VL P ops Q l { t:=Xh (s.g.take st.t.length) o.dst v,m:=s.m,g:=s.g.drop st.t.length }:=fun ⟨k1,k2,k3⟩ => by
  refine ⟨r,k1,?_⟩
  rw [k2,k3,List.take_left,List.drop_left]
  exact h
 cases e with
 | normal => exact key hq
 | ret => exact key hq
 | exit id => exact hq.elim
 | goto l => exact hq.elim
 | panic c => exact hq.elim
 | outgrown => exact hq.elim
def Qc.OkM (P : Program) : Qc→Prop
 | [] => True
 | (g,F) :: C => TellsM P g F∧Qc.OkM P C
def menv : Qc→FuncId→Option (List V→Option V)
 | [],_ => none
 | (g,F) :: C,f => if f = g then some F else menv C f
theorem menv_ok : ∀ {C : Qc} {f : FuncId} {F : List V→Option V},C.OkM P→menv C f = some F→TellsM P f F
 | [],_,_,_,h => by cases h
 | (g,G) :: C,f,F,hC,h => by
  simp only [menv] at h
  split at h
  ·rename_i e; subst e; cases h; exact hC.1
  ·exact menv_ok hC.2 h
def doM (st : VS) (dst : Option Tmp) (F : List V→Option V) (l : List V) : Option VS:=match l with
 | .ptr b e j :: vs => if e + j = 0 then (match st.m[b]? with
  | some (some (n,[cs])) => (match F (.agg cs :: vs) with
   | some (.tup [r,.agg cs']) => some { t:=Xh st.t dst r,m:=st.m.set b (some (n,[cs'])),g:=st.g }
   | _ => none)
  | _ => none) else none
 | _ => none
theorem Qm.wk {t g : List V} {m M : VM} (hl : M.length = m.length) (h : ∀ (x n : Nat) (es' : List (List V)),M[x]? = some (some (n,es'))→∃ es : List (List V),m[x]? = some (some (n,es))∧es'.length = es.length∧((∀ l ∈ es,l.length = n)→∀ l ∈ es',l.length = n)∧∀ (i : Nat) (v : V),es'.flatten[i]? = some v→∃ v0,es.flatten[i]? = some v0∧(v0 = v∨v = .any)) : Qm { t:=t,m:=m,g:=g } { t:=t,m:=M,g:=g }:=by
 intro P N w0 a w φ hs
 have hO : ∀ k,Yf φ M k→Yf φ m k:=fun k ⟨x,y,po,q,h1,h2⟩ => by
  obtain ⟨es,h3,_⟩:=h x y.1 y.2 h1
  exact ⟨x,_,po,q,h3,h2⟩
 have hev : Ev w (Yf φ m) φ w (Yf φ M) φ:=⟨fun k _ ho => ⟨rfl,fun hl => ho (hO k hl)⟩,fun _ _ h => h,fun _ _ h => h⟩
 refine ⟨φ,hs.defers,hs.size,fun i v hi => ?_,⟨fun x k es1 p h1 h2 => ?_,hs.mem.new,fun x p h => ?_,hs.mem.inj,?_⟩,hs.below,hs.start,Sl.ev hev hs.gh,hs.gl⟩
 ·obtain ⟨u,u1,u2⟩:=hs.tmps i v hi
  exact ⟨u,u1,u2.ev hev⟩
 ·obtain ⟨es,h3,h4,h5,h6⟩:=h x k es1 h1
  obtain ⟨c1,pb,po,c,ty,c2,c3,c4,c5⟩:=hs.mem.at_ x k es _ h3 h2
  refine ⟨h5 c1,pb,po,c,ty,c2,c3,by rw [h4]; exact c4,fun i v hi => ?_⟩
  obtain ⟨v0,g1,g2⟩:=h6 i v hi
  obtain ⟨u,d1,d2,d3⟩:=c5 i v0 g1
  refine ⟨u,d1,d2,?_⟩
  rcases g2 with rfl | rfl
  ·exact d3.ev hev
  ·exact .any
 ·have:=hs.mem.dom x p h
  rw [hl]; exact this
 ·obtain ⟨ψ,hψ⟩:=hs.mem.own
  refine ⟨ψ,fun x k es1 pb po bn i n1 e1 h1 h2 h3 => ?_⟩
  obtain ⟨es,k3,k4,k5,k6⟩:=h x k es1 h1
  obtain ⟨v0,g1,g2⟩:=k6 i _ h3
  rcases g2 with rfl | g2
  ·obtain ⟨u,F,f1,f2,f3,f4⟩:=hψ x k es pb po bn i n1 e1 k3 h2 g1
   exact ⟨u,F,f1,f2,f3,fun q hq => by
    obtain ⟨a1,a2,a3,a4⟩:=f4 q hq
    exact ⟨a1,a2,a3,fun hl => a4 (hO q hl)⟩⟩
  ·cases g2
def killV (b : Nat) (v : V) : V:=if Wo b v = true then v else .any
def killE (b : Nat) (es : List (List V)) : List (List V):=if noBE b es = true then es else es.map (·.map (killV b))
def killM (b : Nat) : VM→VM
 | [] => []
 | none :: m => none :: killM b m
 | some (n,es) :: m => some (n,killE b es) :: killM b m
theorem killM_get (b : Nat) : ∀ (m : VM),(killM b m).length = m.length∧∀ (x n : Nat) (es' : List (List V)),(killM b m)[x]? = some (some (n,es'))→∃ es : List (List V),m[x]? = some (some (n,es))∧es' = killE b es
 | [] => ⟨rfl,fun x n es' h => by simp [killM] at h⟩
 | none :: m => by
  obtain ⟨h1,h2⟩:=killM_get b m
  refine ⟨by simp [killM,h1],fun x n es' h => ?_⟩
  cases x with
  | zero => simp [killM] at h
  | succ x => exact h2 x n es' (by simpa [killM] using h)
 | some (n0,es0) :: m => by
  obtain ⟨h1,h2⟩:=killM_get b m
  refine ⟨by simp [killM,h1],fun x n es' h => ?_⟩
  cases x with
  | zero =>
   simp [killM] at h
   exact ⟨es0,by simp [h.1],h.2.symm⟩
  | succ x => exact h2 x n es' (by simpa [killM] using h)
theorem Qm.killM {t g : List V} {m : VM} (b : Nat) : Qm { t:=t,m:=m,g:=g } { t:=t,m:=VL.killM b m,g:=g }:=by
 obtain ⟨h1,h2⟩:=killM_get b m
 refine Qm.wk h1 fun x n es' h => ?_
 obtain ⟨es,h3,h4⟩:=h2 x n es' h
 refine ⟨es,h3,?_⟩
 unfold killE at h4
 split at h4
 ·subst h4
  exact ⟨rfl,fun h => h,fun i v hv => ⟨v,hv,.inl rfl⟩⟩
 ·subst h4
  refine ⟨by simp,fun hn l hl => ?_,fun i v hv => ?_⟩
  ·obtain ⟨l0,e1,rfl⟩:=List.mem_map.1 hl
   simpa using hn l0 e1
  ·rw [← List.map_flatten] at hv
   simp only [List.getElem?_map,Option.map_eq_some_iff] at hv
   obtain ⟨v0,e1,rfl⟩:=hv
   refine ⟨v0,e1,?_⟩
   unfold killV
   split
   ·exact .inl rfl
   ·exact .inr rfl
def preM (st : VS) (o : Oper) : VS:=match o.op with
 | .call { callee:=.builtin .append,args:=args,argTypes:=ats } => (match args.toList.map (ev st.t) with
  | .ref b e len :: _ => { t:=st.t,m:=killM b st.m,g:=st.g }
  | _ => st)
 | _ => st
theorem preM_ent (st : VS) (o : Oper) : Qm st (preM st o):=by
 unfold preM
 split
 ·split
  ·exact Qm.killM _
  ·exact fun P N w0 a w φ hs => ⟨φ,hs⟩
 ·exact fun P N w0 a w φ hs => ⟨φ,hs⟩
theorem preM_t (st : VS) (o : Oper) : (preM st o).t = st.t:=by
 unfold preM
 split
 ·split <;> rfl
 ·rfl
def vstepM (P : Program) (C CM : Qc) (st : VS) (o : Oper) : Option VS :=
 match o.guard with
 | some _ => none
 | none => match o.op with
  | .call { callee:=.value (.func f),args:=args,argTypes:=ats } => match menv CM f with
   | some F => doM st o.dst F (args.toList.map (ev st.t))
   | none => vstep P C st o
  | _ => vstep P C (preM st o) o
theorem VL.stepM {CM : Qc} {o : Oper} {l : List Oper} {st1 : VS} (hC : C.Ok P) (hM : CM.OkM P) (h : vstepM P C CM st o = some st1) (hr : VL P ops Q l st1) : VL P ops Q (o :: l) st:=by
 unfold vstepM at h
 split at h
 ·cases h
 ·rename_i hg
  have hw : Zm ops st.t o = some true:=by unfold Zm; rw [hg]
  have old : vstep P C st o = some st1→VL P ops Q (o :: l) st:=fun h => by
   have:=(Ste.op hw h .nil).vl (Q:=Q) (rest:=l) hC hr
   simpa using this
  split at h
  ·rename_i f args ats ho
   split at h
   ·rename_i F hF
    unfold doM at h
    split at h
    ·rename_i b e j vs ha
     split at h
     ·rename_i hej
      have he : e = 0:=by omega
      have hj : j = 0:=by omega
      subst he hj
      split at h
      ·rename_i n cs hb
       split at h
       ·rename_i r cs' hc
        cases h
        exact VL.inM hg ho (menv_ok hM hF) ha hb hc hr
       ·cases h
      ·cases h
     ·cases h
    ·cases h
   ·exact old h
  ·refine VL.ent (preM_ent st o) ?_
   have hw' : Zm ops (preM st o).t o = some true:=by rw [preM_t]; exact hw
   have:=(Ste.op hw' h .nil).vl (Q:=Q) (rest:=l) hC hr
   simpa using this
def vseqM (P : Program) (C CM : Qc) : List Oper→VS→Option VS
 | [],st => some st
 | o :: l,st => (vstepM P C CM st o).bind (vseqM P C CM l)
theorem VL.seqM {CM : Qc} (hC : C.Ok P) (hM : CM.OkM P) : ∀ {l l' : List Oper} {st st1 : VS},vseqM P C CM l st = some st1→VL P ops Q l' st1→VL P ops Q (l ++ l') st
 | [],_,_,_,h,hr => by cases h; exact hr
 | o :: l,l',st,st1,h,hr => by
  unfold vseqM at h
  cases h1 : vstepM P C CM st o with
  | none => simp [h1] at h
  | some s => rw [h1] at h; exact VL.stepM hC hM h1 (VL.seqM hC hM h hr)
theorem VW.evalM {CM : Qc} {id : Nat} {l : List Oper} (t' : List V) (m' : VM) (g' : List V) (hC : C.Ok P) (hM : CM.OkM P) (h : toSt (vseqM P C CM l st) t' m' g') (hQ : Q .normal { t:=t',m:=m',g:=g' }) : VW P (.region id l.toArray false) Q st:=by
 obtain ⟨t,h1,h2⟩:=h.get
 have:=VL.seqM (ops:=l.toArray) (Q:=fun e s => ∃ s',Qm s s'∧Q e s') (l':=[]) hC hM h1 (VL.nil ⟨_,Km h2,hQ⟩)
 exact Uc (VW.region (by simpa using this))
theorem VL.evalM {CM : Qc} {l : List Oper} (i : Nat) (t' : List V) (m' : VM) (g' : List V) (hC : C.Ok P) (hM : CM.OkM P) (h : toSt (vseqM P C CM (l.take i) st) t' m' g') (hQ : VL P ops (fun e s => ∃ s',Qm s s'∧Q e s') (l.drop i) { t:=t',m:=m',g:=g' }) : VL P ops (fun e s => ∃ s',Qm s s'∧Q e s') l st:=by
 obtain ⟨t,h1,h2⟩:=h.get
 have:=VL.seqM (ops:=ops) (Q:=fun e s => ∃ s',Qm s s'∧Q e s') (l':=l.drop i) hC hM h1 (VL.ent (Km h2) hQ)
 rwa [List.take_append_drop] at this
def exts (ops : Array Oper) : Nat→Array Bool→List (List Nat)
 | 0,_ => [[]]
 | n + 1,listed => match Region.ready .any ops listed with
  | [] => [[]]
  | is => is.flatMap fun i => (exts ops n (listed.setIfInBounds i true)).map (i :: ·)
theorem exts_ne (ops : Array Oper) : ∀ (n : Nat) (listed : Array Bool),exts ops n listed ≠ []
 | 0,_ => by simp [exts]
 | n + 1,listed => by
  unfold exts
  split
  ·simp
  ·rename_i h
   cases hr : Region.ready .any ops listed with
   | nil => exact absurd hr h
   | cons i is' =>
    simp only [List.flatMap_cons,ne_eq,List.append_eq_nil_iff,List.map_eq_nil_iff,not_and]
    intro h1
    exact absurd h1 (exts_ne ops n _)
def opsAt (l : List Oper) : List Nat→List Oper
 | [] => []
 | i :: p => match l[i]? with
  | some o => o :: opsAt l p
  | none => []
theorem VA.of {CM : Qc} {l : List Oper} (hC : C.Ok P) (hM : CM.OkM P) : ∀ (n : Nat) (listed : Array Bool) (st : VS),(List.range l.length).countP (fun j => !listed.getD j true)≤n→(∀ p ∈ exts l.toArray n listed,∃ s,vseqM P C CM (opsAt l p) st = some s∧Q .normal s)→VA P l.toArray Q n listed st:=by
 intro n
 induction n with
 | zero =>
  intro listed st hc h
  obtain ⟨s,h1,h2⟩:=h [] (by simp [exts])
  cases h1
  refine VA.stop ?_ h2
  rw [List.eq_nil_iff_forall_not_mem]
  intro i hi
  obtain ⟨b,o,ho,_⟩:=mem_ready.1 hi
  have h3:=List.countP_eq_zero.1 (Nat.le_zero.1 hc) i (List.mem_range.2 (by simpa using (Array.getElem?_eq_some_iff.1 ho).1))
  rw [b] at h3
  simp at h3
 | succ n ih =>
  intro listed st hc h
  by_cases hr : Region.ready .any l.toArray listed = []
  ·unfold exts at h
   rw [hr] at h
   obtain ⟨s,h1,h2⟩:=h [] (by simp)
   cases h1
   exact VA.stop hr h2
  ·refine VA.step hr fun i hi o ho => ?_
   have hex : ∀ q ∈ exts l.toArray n (listed.setIfInBounds i true),i :: q ∈ exts l.toArray (n + 1) listed:=fun q hq => by
    rw [exts]
    split
    ·rename_i e; exact absurd e hr
    ·exact List.mem_flatMap.2 ⟨i,hi,List.mem_map.2 ⟨q,hq,rfl⟩⟩
   have hol : l[i]? = some o:=by simpa using ho
   have hstep : ∀ q ∈ exts l.toArray n (listed.setIfInBounds i true),∃ s,(vstepM P C CM st o).bind (vseqM P C CM (opsAt l q)) = some s∧Q .normal s:=fun q hq => by
    have:=h _ (hex q hq)
    unfold opsAt at this
    rw [hol] at this
    exact this
   obtain ⟨q0,hq0⟩:=List.exists_mem_of_ne_nil _ (exts_ne l.toArray n (listed.setIfInBounds i true))
   cases hs : vstepM P C CM st o with
   | none =>
    obtain ⟨s,e,_⟩:=hstep q0 hq0
    rw [hs] at e
    cases e
   | some st1 =>
    rw [hs] at hstep
    refine VL.stepM hC hM hs (VL.nil (.inl ⟨rfl,ih _ _ ?_ fun q hq => hstep q hq⟩))
    have hl : i < l.length:=by simpa using (Array.getElem?_eq_some_iff.1 ho).1
    have hli:=(mem_ready.1 hi).1
    have h4:=Gh (L:=fun j => listed.getD j true) hli l.length hl
    have h5 : (List.range l.length).countP (fun j => !(listed.setIfInBounds i true).getD j true) = (List.range l.length).countP (fun j => !(listed.getD j true || j == i)):=by
     refine List.countP_congr fun j hj => ?_
     by_cases hji : i = j
     ·subst hji
      have : (listed.setIfInBounds i true).getD i true = true:=by
       rw [Array.getD_eq_getD_getElem?]
       by_cases hlt : i < listed.size
       ·simp [hlt]
       ·simp [hlt]
      rw [this]
      simp
     ·rw [getD_set_ne true hji]
      have : (j == i) = false:=by simp; exact fun h => hji h.symm
      rw [this]
      simp
    omega
theorem VW.evalMA {CM : Qc} {id : Nat} {l : List Oper} (ps : List (List Nat)) (t' : List V) (m' : VM) (g' : List V) (hC : C.Ok P) (hM : CM.OkM P) (hm : P.follows .mixedOrders = true) (he : exts l.toArray l.length (Array.replicate l.length false) = ps)
  (h : ∀ p ∈ ps,toSt (vseqM P C CM (opsAt l p) st) t' m' g') (hQ : Q .normal { t:=t',m:=m',g:=g' }) : VW P (.region id l.toArray true) Q st:=by
 refine Uc (VW.any hm ?_)
 have:=VA.of (P:=P) (Q:=fun e s => ∃ s',Qm s s'∧Q e s') hC hM l.length (Array.replicate l.length false) st (by
  exact Nat.le_trans (List.countP_le_length (l:=List.range l.length)) (by simp)) (fun p hp => by
  rw [he] at hp
  obtain ⟨t,h1,h2⟩:=(h p hp).get
  exact ⟨_,h1,_,Km h2,hQ⟩)
 simpa using this
end
def nr1 (a b : V) : Prop:=a = b∨(a = .nil∧∃ k,b = .ref k 0 0)
theorem nr1_cases {a b : V} (h : nr1 a b) : a = b∨(a = .nil∧∃ k,b = .ref k 0 0):=h
@[simp] theorem nr1_self {a : V} : nr1 a a:=.inl rfl
@[simp] theorem nr1_nil {k : Nat} : nr1 .nil (.ref k 0 0):=.inr ⟨rfl,k,rfl⟩
def nrL : List V→List V→Prop
 | [],[] => True
 | a :: s,b :: t => nr1 a b∧nrL s t
 | _,_ => False
def nrE : List (List V)→List (List V)→Prop
 | [],[] => True
 | a :: s,b :: t => nrL a b∧nrE s t
 | _,_ => False
attribute [simp] nrL nrE
theorem nrL_get : ∀ {a b : List V},nrL a b→a.length = b.length∧∀ (i : Nat) (v : V),b[i]? = some v→∃ v0,a[i]? = some v0∧nr1 v0 v
 | [],[],_ => ⟨rfl,fun i v h => by simp at h⟩
 | x :: a,y :: b,h => by
  obtain ⟨h1,h2⟩:=nrL_get h.2
  refine ⟨by simp [h1],fun i v hi => ?_⟩
  cases i with
  | zero => simp at hi; subst hi; exact ⟨x,rfl,h.1⟩
  | succ i => exact h2 i v (by simpa using hi)
 | [],_ :: _,h => h.elim
 | _ :: _,[],h => h.elim
theorem nrL_append : ∀ {a b c d : List V},nrL a b→nrL c d→nrL (a ++ c) (b ++ d)
 | [],[],_,_,_,h => h
 | x :: a,y :: b,_,_,h,k => ⟨h.1,nrL_append h.2 k⟩
 | [],_ :: _,_,_,h,_ => h.elim
 | _ :: _,[],_,_,h,_ => h.elim
theorem nrE_flat : ∀ {a b : List (List V)},nrE a b→nrL a.flatten b.flatten∧a.length = b.length∧∀ n,(∀ l ∈ a,l.length = n)→∀ l ∈ b,l.length = n
 | [],[],_ => ⟨trivial,rfl,fun _ _ l h => by cases h⟩
 | x :: a,y :: b,h => by
  obtain ⟨h1,h2,h3⟩:=nrE_flat h.2
  refine ⟨nrL_append h.1 h1,by simp [h2],fun n hn l hl => ?_⟩
  rcases List.mem_cons.1 hl with rfl | hl
  ·rw [← (nrL_get h.1).1]; exact hn x (by simp)
  ·exact h3 n (fun l hl => hn l (by simp [hl])) l hl
 | [],_ :: _,h => h.elim
 | _ :: _,[],h => h.elim
theorem Qm.nilr {t g : List V} {m : VM} (b : Nat) {n : Nat} {es es' : List (List V)} (m' : VM) (hb : m[b]? = some (some (n,es))) (hE : nrE es es') (hm' : m.set b (some (n,es')) = m') : Qm { t:=t,m:=m,g:=g } { t:=t,m:=m',g:=g }:=by
 subst hm'
 intro P N w0 a w φ hs
 have hblt : b < m.length:=(List.getElem?_eq_some_iff.1 hb).1
 obtain ⟨f1,f2,f3⟩:=nrE_flat hE
 obtain ⟨f4,f5⟩:=nrL_get f1
 generalize hM : m.set b (some (n,es')) = M
 have hget : ∀ x y,M[x]? = some (some y)→(x = b∧y = (n,es')∨x ≠ b∧m[x]? = some (some y)):=fun x y h => by
  rw [← hM,List.getElem?_set] at h
  split at h
  ·rename_i h2
   simp at h; exact .inl ⟨h2.symm,h.symm⟩
  ·rename_i h2
   exact .inr ⟨fun e => h2 e.symm,h⟩
 have hO : ∀ k,Yf φ M k→Yf φ m k:=fun k ⟨x,y,po,q,h1,h2⟩ => by
  rcases hget x y h1 with ⟨rfl,_⟩ | ⟨_,h3⟩
  ·exact ⟨x,_,po,q,hb,h2⟩
  ·exact ⟨x,y,po,q,h3,h2⟩
 have hev : Ev w (Yf φ m) φ w (Yf φ M) φ:=⟨fun k _ ho => ⟨rfl,fun hl => ho (hO k hl)⟩,fun _ _ h => h,fun _ _ h => h⟩
 refine ⟨φ,hs.defers,hs.size,fun i v hi => ?_,⟨fun x k es1 p h1 h2 => ?_,hs.mem.new,fun x p h => ?_,hs.mem.inj,?_⟩,hs.below,hs.start,Sl.ev hev hs.gh,hs.gl⟩
 ·obtain ⟨u,u1,u2⟩:=hs.tmps i v hi
  exact ⟨u,u1,u2.ev hev⟩
 ·rcases hget x _ h1 with ⟨rfl,h3⟩ | ⟨_,h3⟩
  ·simp only [Prod.mk.injEq] at h3
   obtain ⟨rfl,rfl⟩:=h3
   obtain ⟨c1,pb,po,c,ty,c2,c3,c4,c5⟩:=hs.mem.at_ x _ _ _ hb h2
   refine ⟨f3 _ c1,pb,po,c,ty,c2,c3,by rw [← f2]; exact c4,fun i v hi => ?_⟩
   obtain ⟨v0,g1,g2⟩:=f5 i v hi
   obtain ⟨u,d1,d2,d3⟩:=c5 i v0 g1
   refine ⟨u,d1,d2,?_⟩
   rcases nr1_cases g2 with rfl | ⟨rfl,k',rfl⟩
   ·exact d3.ev hev
   ·cases d3
    exact .refnil
  ·obtain ⟨c1,pb,po,c,ty,c2,c3,c4,c5⟩:=hs.mem.at_ x k es1 _ h3 h2
   exact ⟨c1,pb,po,c,ty,c2,c3,c4,fun i v hi => by
    obtain ⟨u,d1,d2,d3⟩:=c5 i v hi
    exact ⟨u,d1,d2,d3.ev hev⟩⟩
 ·have:=hs.mem.dom x p h
  rw [← hM]; simpa using this
 ·obtain ⟨ψ,hψ⟩:=hs.mem.own
  refine ⟨ψ,fun x k es1 pb po bn i n1 e1 h1 h2 h3 => ?_⟩
  rcases hget x _ h1 with ⟨rfl,h4⟩ | ⟨_,h4⟩
  ·simp only [Prod.mk.injEq] at h4
   obtain ⟨rfl,rfl⟩:=h4
   obtain ⟨v0,g1,g2⟩:=f5 i _ h3
   rcases nr1_cases g2 with rfl | ⟨rfl,k',hk'⟩
   ·obtain ⟨u,F,f1,f2,f3,f4⟩:=hψ x _ es pb po bn i n1 e1 hb h2 g1
    exact ⟨u,F,f1,f2,f3,fun q hq => by
     obtain ⟨a1,a2,a3,a4⟩:=f4 q hq
     exact ⟨a1,a2,a3,fun hl => a4 (hO q hl)⟩⟩
   ·cases hk'
  ·obtain ⟨u,F,f1,f2,f3,f4⟩:=hψ x k es1 pb po bn i n1 e1 h4 h2 h3
   exact ⟨u,F,f1,f2,f3,fun q hq => by
    obtain ⟨a1,a2,a3,a4⟩:=f4 q hq
    exact ⟨a1,a2,a3,fun hl => a4 (hO q hl)⟩⟩
theorem Qm.more {t g : List V} {m : VM} (l m' : VM) (h : m ++ l = m') : Qm { t:=t,m:=m,g:=g } { t:=t,m:=m',g:=g }:=fun P N w0 a w φ hs => ⟨φ,by subst h; exact hs.more l⟩
theorem Kz {t g : List V} {m : VM} (b n' : Nat) {n : Nat} {es es' : List (List V)} (m' : VM) (hb : m[b]? = some (some (n,es))) (hE : nrE es es') (hm' : m.set b (some (n,es')) ++ [some (n',[])] = m') : Qm { t:=t,m:=m,g:=g } { t:=t,m:=m',g:=g } :=
 (Qm.nilr b _ hb hE rfl).trans (Qm.more _ _ hm')
attribute [simp] vseqM vstepM doM menv opsAt preM killM killE killV Qc.OkM
end Go.VL

namespace Go.VL
open Go.RowKit
set_option linter.unusedSimpArgs false
set_option linter.unusedVariables false
section
variable {P : Program} {ops : Array Oper} {tr : List Hi} {t0 : List V}
def vs0 (P : Program) (U : List Nat) (m0 : VM) : Nat→List Oper→VS→Option VS
 | _,[],st => some st
 | j,o :: l,st => match o.guard with
  | some _ => none
  | none => match vq P (if Ji j U = true then m0 else st.m) (ev st.t) o.op with
   | some v => vs0 P U m0 (j + 1) l { t:=Xh st.t o.dst v,m:=st.m,g:=st.g }
   | none => if Ji j U = true then none else match Jy P st.m.length (ev st.t) o.op with
    | some (v,n,es) => vs0 P U m0 (j + 1) l { t:=Xh st.t o.dst v,m:=st.m ++ [some (n,es)],g:=st.g }
    | none => none
inductive D2 (P : Program) (ops : Array Oper) (M0 M1 : VM) (U : List Nat) : Nat→List Oper→List V→Nat→List Hi→List V→Prop
 | nil {j k : Nat} {t : List V} : D2 P ops M0 M1 U j [] t k [] t
 | op {j k cnt : Nat} {o : Oper} {l : List Oper} {t tf : List V} {r : V} {tr : List Hi} (hg : o.guard = none) (ho : OpY P o M0 (ev t) r k cnt) (ho1 : Ji j U = true→OpY P o M1 (ev t) r k cnt) (h : D2 P ops M0 M1 U (j + 1) l (Xh t o.dst r) (k + cnt) tr tf) : D2 P ops M0 M1 U j (o :: l) t k ((r,k,cnt) :: tr) tf
theorem D2.rows {M0 M1 : VM} {U : List Nat} : ∀ {l : List Oper} {t tf : List V} {k n : Nat} {tr' : List Hi},D2 P ops M0 M1 U n l t k tr' tf→(∀ j,j < l.length→l[j]? = ops[n + j]?)→(∀ j,j < l.length→tr'[j]? = tr[n + j]?)→t = TL ops tr t0 (fun _ => true) n →
  l.length = tr'.length∧(∀ (j : Nat) (o : Oper) (r : Hi),l[j]? = some o→tr'[j]? = some r→RowOk P ops M0 tr t0 (n + j) o r∧(Ji (n + j) U = true→RowOk P ops M1 tr t0 (n + j) o r))∧(∀ (j : Nat) (r : Hi),tr'[j]? = some r→k≤r.2.1)∧(∀ (i j : Nat) (r s : Hi),i < j→tr'[i]? = some r→tr'[j]? = some s→r.2.1 + r.2.2≤s.2.1)∧tf = TL ops tr t0 (fun _ => true) (n + l.length)
 | _,_,_,_,_,_,.nil,_,_,ht => by simp [ht]
 | _,_,_,k,n,_,.op (o:=o) (l:=l) (tr:=tr') (r:=r0) (cnt:=cnt) hg ho0 ho1 h,hl,htr,ht => by
  have h0:=hl 0 (by simp)
  have h1:=htr 0 (by simp)
  simp at h0 h1
  have hstep : Xh (TL ops tr t0 (fun _ => true) n) o.dst r0 = TL ops tr t0 (fun _ => true) (n + 1):=by simp [TL,← h0,← h1]
  obtain ⟨a1,a2,a3,a4,a5⟩:=D2.rows (n:=n + 1) h (fun j hj => by have:=hl (j + 1) (by simpa using hj); simpa [Nat.add_assoc,Nat.add_comm 1] using this) (fun j hj => by have:=htr (j + 1) (by simpa using hj); simpa [Nat.add_assoc,Nat.add_comm 1] using this) (by rw [ht]; exact hstep)
  have hw : Zm ops (TL ops tr t0 (fun _ => true) n) o = some true:=by unfold Zm; rw [hg]
  refine ⟨by simp [a1],fun j o' r ho hr => ?_,fun j r hr => ?_,fun i j r s hij hr hs => ?_,?_⟩
  ·cases j with
   | zero =>
    simp at ho hr
    subst ho
    subst hr
    rw [Nat.add_zero]
    exact ⟨.inr ⟨hw,by rw [← ht]; exact ho0⟩,fun hU => .inr ⟨hw,by rw [← ht]; exact ho1 hU⟩⟩
   | succ j => have:=a2 j o' r (by simpa using ho) (by simpa using hr); rwa [show n + 1 + j = n + (j + 1) by omega] at this
  ·cases j with
   | zero => simp at hr; subst hr; exact Nat.le_refl _
   | succ j => have:=a3 j r (by simpa using hr); omega
  ·cases j with
   | zero => omega
   | succ j =>
    cases i with
    | zero => simp at hr; subst hr; exact a3 j s (by simpa using hs)
    | succ i => exact a4 i j r s (by omega) (by simpa using hr) (by simpa using hs)
  ·rw [a5,List.length_cons]
   congr 1
   omega
theorem D2.len {M0 M1 : VM} {U : List Nat} : ∀ {l : List Oper} {t tf : List V} {k n : Nat} {tr' : List Hi},D2 P ops M0 M1 U n l t k tr' tf→l.length = tr'.length
 | _,_,_,_,_,_,.nil => rfl
 | _,_,_,_,_,_,.op _ _ _ h => by simp [h.len]
def waitsOn (o : Oper) (i : Nat) : Bool:=o.after.any fun e => Region.binds .any e && e.on == i
theorem waitsOn_spec {o : Oper} {i : Nat} (h : waitsOn o i = true) : ∃ e ∈ o.after,Region.binds .any e = true∧e.on = i:=by
 obtain ⟨j,hj,e⟩:=Array.any_eq_true.1 h
 simp only [Bool.and_eq_true,beq_iff_eq] at e
 exact ⟨_,Array.getElem_mem hj,e.1,e.2⟩
def eval2 (P : Program) (U : List Nat) (ops : Array Oper) (l1 : List Oper) (po last : Oper) (st : VS) : Option VS :=
 match po.guard with
 | some _ => none
 | none => match vs0 P U st.m 0 l1 st with
  | none => none
  | some st1 => match po.op with
   | .store ty sx sy => match ev st1.t sx with
    | .ptr b e j => if st.m.length≤b then (match vstore P st1.m ty (.ptr b e j) (ev st1.t sy) with
     | some m1 => (match last.guard with
      | some _ => none
      | none => vop1 P { t:=Xh st1.t po.dst .any,m:=m1,g:=st1.g } last)
     | none => none) else none
    | _ => none
   | _ => none
attribute [simp] vs0 eval2 Ji
end
end Go.VL

namespace Go.VL
open Go.RowKit
set_option linter.unusedSimpArgs false
set_option linter.unusedVariables false
section
variable {P : Program} {C : Qc} {Q : Exit→VS→Prop} {st : VS}
def insN (i : Nat) : List Nat→List Nat
 | [] => [i]
 | j :: p => if i < j then i :: j :: p else j :: insN i p
def stepAt (P : Program) (C CM : Qc) (l : List Oper) (i : Nat) (st : VS) : Option VS:=match l[i]? with
 | some o => vstepM P C CM st o
 | none => none
end
attribute [simp] insN stepAt
end Go.VL

namespace Go.VL
open Go.RowKit
set_option linter.unusedSimpArgs false
set_option linter.unusedVariables false
section
variable {P : Program} {ops : Array Oper} {tr : List Hi} {t0 : List V}
theorem draw_mid {Q : Exit→VS→Prop} {g0 : List V} {N : Fr} {w0 : World × List Value} {k0 p : Nat} {po : Oper} {M0 : VM} (hlex : Qu ops.toList = true) (hlen : tr.length = p) (hpo : ops[p]? = some po)
  (hrest : ∀ j o,p < j→ops[j]? = some o→∃ e ∈ o.after,Region.binds .any e = true∧e.on = p)
  (hrows : ∀ (j : Nat) (o : Oper) (r : Hi),ops[j]? = some o→tr[j]? = some r→RowOk P ops M0 tr t0 j o r) (hk0 : ∀ (j : Nat) (r : Hi),tr[j]? = some r→k0≤r.2.1) (hdis : ∀ (i j : Nat) (r s : Hi),i < j→tr[i]? = some r→tr[j]? = some s→r.2.1 + r.2.2≤s.2.1)
  (hQ : ∀ (fuel : Nat) (listed : Array Bool) (L : Nat→Bool),listed.size = ops.size→(∀ j,j < ops.size→listed.getD j true = L j)→(List.range ops.size).countP (fun j => !L j) = fuel + 1→(∀ j,p≤j→L j = false)→(∀ e ∈ po.after,Region.binds .any e = true→L e.on = true)→(∀ j oj,L j = true→ops[j]? = some oj→∀ e ∈ oj.after,Region.binds .any e = true→L e.on = true) →
   VO P ops Q po (VA P ops Q fuel (listed.setIfInBounds p true)) { t:=TL ops tr t0 L ops.size,m:=M0,g:=g0 }) :
  ∀ (fuel : Nat) (listed : Array Bool) (L : Nat→Bool),listed.size = ops.size→(∀ j,j < ops.size→listed.getD j true = L j)→(List.range ops.size).countP (fun j => !L j) = fuel→(∀ j,p≤j→L j = false) →
   (∀ j oj,L j = true→ops[j]? = some oj→∀ e ∈ oj.after,Region.binds .any e = true→L e.on = true) →
   ∀ (a : Act) (w : World) (φ : Pl),SR P N w0 { t:=TL ops tr t0 L ops.size,m:=M0,g:=g0 } a w φ→Dom tr k0 L φ →
    wpAny P .any ops (fun e a' w' => ∃ st' φ',Q e st'∧SR P N w0 st' a' w' φ') fuel listed a w:=by
 have spec:=Ho hlex
 have hp0 : p < ops.size:=(Array.getElem?_eq_some_iff.1 hpo).1
 intro fuel
 induction fuel with
 | zero =>
  intro listed L hsz hL hc hLp hW a w φ hs hd
  have:=List.countP_eq_zero.1 hc p (List.mem_range.2 hp0)
  rw [hLp p (Nat.le_refl _)] at this
  simp at this
 | succ fuel ih =>
  intro listed L hsz hL hc hLp hW a w φ hs hd
  refine ⟨fun hr => ?_,fun i hi => ?_⟩
  ·exfalso
   have allL : ∀ j,j < ops.size→L j = true:=by
    intro j
    induction j using Nat.strongRecOn with
    | ind j ih =>
     intro hj
     cases hLj : L j with
     | true => rfl
     | false =>
      exfalso
      obtain ⟨oj,hoj⟩ : ∃ oj,ops[j]? = some oj:=⟨ops[j],by simp [hj]⟩
      have : j ∈ Region.ready .any ops listed:=mem_ready.2 ⟨(hL j hj).trans hLj,oj,hoj,fun e he hb => by
       have hlt:=(spec j oj hoj).1 e he hb
       have h1:=ih e.on hlt (by omega)
       rw [← hL e.on (by omega)] at h1
       have : e.on < listed.size:=by omega
       simpa [this] using h1⟩
      rw [hr] at this
      cases this
   have:=allL p hp0
   rw [hLp p (Nat.le_refl _)] at this
   cases this
  obtain ⟨b1,o,hoi,b3⟩:=mem_ready.1 hi
  have hlt:=(Array.getElem?_eq_some_iff.1 hoi).1
  have hLi : L i = false:=by rw [← hL i hlt]; exact b1
  have hready : ∀ e ∈ o.after,Region.binds .any e = true→L e.on = true:=fun e he hb => by
   have h1:=b3 e he hb
   have hlt' : e.on < ops.size:=Nat.lt_trans ((spec i o hoi).1 e he hb) hlt
   have h2:=hL e.on hlt'
   have : e.on < listed.size:=by omega
   simp [this] at h1 h2
   rw [h1] at h2
   exact h2.symm
  by_cases hip : i = p
  ·subst hip
   rw [hpo] at hoi
   cases hoi
   have hq:=hQ fuel listed L hsz hL hc hLp hready hW N w0 a w φ hs
   unfold wpOp
   simp only [hpo]
   unfold wpList at hq
   have key : ∀ a' w',(∃ st' φ',((Exit.normal = .normal∧VA P ops Q fuel (listed.setIfInBounds i true) st')∨(Exit.normal ≠ .normal∧Q .normal st'))∧SR P N w0 st' a' w' φ')→wpAny P .any ops (fun e a' w' => ∃ st' φ',Q e st'∧SR P N w0 st' a' w' φ') fuel (listed.setIfInBounds i true) a' w':=fun a' w' ⟨s,φ',h2,h3⟩ => by
    rcases h2 with h2 | h2
    ·exact h2.2 N w0 a' w' φ' h3
    ·exact absurd rfl h2.1
   have keyQ : ∀ e a' w',e ≠ Exit.normal→(∃ st' φ',((e = .normal∧VA P ops Q fuel (listed.setIfInBounds i true) st')∨(e ≠ .normal∧Q e st'))∧SR P N w0 st' a' w' φ')→∃ st' φ',Q e st'∧SR P N w0 st' a' w' φ':=fun e a' w' he ⟨s,φ',h2,h3⟩ => by
    rcases h2 with h2 | h2
    ·exact absurd h2.1 he
    ·exact ⟨s,φ',h2.2,h3⟩
   split
   ·rename_i hw
    rw [if_pos hw] at hq
    rcases hq with h1 | ⟨h1,h2⟩
    ·exact .inl (wp_mono2 key keyQ h1)
    ·refine .inr ⟨h1,?_⟩
     obtain ⟨a',w',h3⟩:=h2
     exact ⟨a',w',keyQ _ _ _ (by simp) h3⟩
   ·rename_i hw
    rw [if_neg hw] at hq
    exact key _ _ hq
  have hin' : i < p:=by
   rcases Nat.lt_or_ge i p with h | h
   ·exact h
   ·exfalso
    obtain ⟨e,he,hb,heq⟩:=hrest i o (by omega) hoi
    have:=hready e he hb
    rw [heq,hLp p (Nat.le_refl _)] at this
    cases this
  obtain ⟨r,hri⟩ : ∃ r,tr[i]? = some r:=⟨tr[i]'(by omega),by simp [show i < tr.length by omega]⟩
  have early : ∀ j oj,j < i→ops[j]? = some oj→L j = false→oj.apart ops o = true:=fun j oj hj hoj hLj => by
   rcases (spec j oj hoj).2 i o hj hoi with ⟨e,he,hb,heq⟩ | h
   ·have:=hready e he hb
    rw [heq,hLj] at this
    cases this
   ·exact h
  have late : ∀ j oj,i < j→ops[j]? = some oj→L j = true→o.apart ops oj = true:=fun j oj hj hoj hLj => by
   rcases (spec i o hoi).2 j oj hj hoj with ⟨e,he,hb,heq⟩ | h
   ·have:=hW j oj hLj hoj e he hb
    rw [heq,hLi] at this
    cases this
   ·exact h
  have agree : ∀ d,d ∈ o.looksAt ops→(TL ops tr t0 L ops.size)[d]? = (TL ops tr t0 (fun _ => true) i)[d]?:=fun d hd =>
   TL_agree (fun j oj hj hoj hjd => by
    cases hLj : L j with
    | true => rfl
    | false => exact absurd hd ((Oper.apart_spec (early j oj hj hoj hLj)).1 d hjd)) (Nat.le_of_lt hlt) fun j oj hj hjn hLj hoj hjd => by
    by_cases hji : i = j
    ·subst hji; rw [hLi] at hLj; cases hLj
    ·exact (Oper.apart_spec (late j oj (by omega) hoj hLj)).2.2 d hjd hd
  obtain ⟨e1,e2⟩:=eval_agree (ops:=ops) agree
  have hput : TL ops tr t0 (fun x => L x || x == i) ops.size = Xh (TL ops tr t0 L ops.size) o.dst r.1 :=
   TL_put hoi hri hLi hlt fun j oj h1 h2 h3 h4 d hd => (Oper.apart_spec (late j oj h1 h4 h3)).2.1 d hd
  have cont : ∀ (a' : Act) (w' : World) (φ' : Pl),SR P N w0 { t:=Xh (TL ops tr t0 L ops.size) o.dst r.1,m:=M0,g:=g0 } a' w' φ'→Dom tr k0 (fun x => L x || x == i) φ' →
    wpAny P .any ops (fun e a' w' => ∃ st' φ',Q e st'∧SR P N w0 st' a' w' φ') fuel (listed.setIfInBounds i true) a' w':=fun a' w' φ' hs' hd' => by
   refine ih (listed.setIfInBounds i true) (fun x => L x || x == i) (by simp [hsz]) (fun j hj => ?_) ?_ ?_ (fun j oj hLj hoj e he hb => ?_) a' w' φ' (by rw [hput]; exact hs') hd'
   ·by_cases hij : i = j
    ·subst hij
     have : i < listed.size:=by omega
     simp [this]
    ·rw [getD_set_ne true hij,hL j hj]
     simp [show (j == i) = false by simp; omega]
   ·have:=Gh hLi ops.size hlt
    omega
   ·intro j hj
    rw [hLp j hj,Bool.false_or]
    simp; omega
   ·by_cases hij : j = i
    ·subst hij
     rw [hoi] at hoj
     cases hoj
     simp [hready e he hb]
    ·have hLj' : L j = true:=by simpa [hij] using hLj
     simp [hW j oj hLj' hoj e he hb]
  unfold wpOp
  simp only [hoi]
  have hmono : ∀ φ',(∀ b p,φ' b = some p→φ b = some p∨(r.2.1≤b∧b < r.2.1 + r.2.2))→Dom tr k0 (fun x => L x || x == i) φ':=fun φ' h b p hb => by
   rcases h b p hb with h | ⟨h1,h2⟩
   ·rcases hd b p h with h | ⟨j,s,a1,a2,a3,a4⟩
    ·exact .inl h
    ·exact .inr ⟨j,s,by simp [a1],a2,a3,a4⟩
   ·exact .inr ⟨i,r,by simp,hri,h1,h2⟩
  have hrow:=hrows i o r hoi hri
  rcases hrow with ⟨hw,hr1,hr2⟩ | ⟨hw,ho⟩
  ·rw [Xj (e2.trans hw) hs,if_neg (by simp)]
   refine cont _ w φ ?_ (hmono φ fun b p hb => .inl hb)
   rw [hr1]
   exact hs.put S.und hs.mem (Ev.refl _ _ _) (Bel.refl _ _)
  ·rw [Xj (e2.trans hw) hs,if_pos rfl]
   left
   refine ho N a w φ _ _ hs.start hs.glob hs.mem (fun x hx => by rw [← e1 x hx]; exact hs.eval x) (fun x hx => ?_) fun u w' φ' h1 h2 h3 h4 h5 => cont _ w' φ' (hs.put h1 h2 h3 h4) (hmono φ' h5)
   cases hφ : φ (r.2.1 + x) with
   | none => rfl
   | some p =>
    exfalso
    rcases hd _ p hφ with h | ⟨j,s,a1,a2,a3,a4⟩
    ·have:=hk0 i r hri
     omega
    ·rcases Nat.lt_trichotomy i j with h | h | h
     ·have:=hdis i j r s h hri a2; omega
     ·subst h; rw [hLi] at a1; cases a1
     ·have:=hdis j i s r h a2 hri; omega
def Kb (l : List Oper) (t0 t : List V) : List Nat→List V
 | [] => t
 | i :: S => match l[i]? with
  | some o => Xh (Kb l t0 t S) o.dst (match o.dst with | some d => t0.getD d .any | none => .any)
  | none => Kb l t0 t S
theorem putV_len (t : List V) (d : Option Tmp) (v : V) : (Xh t d v).length = t.length:=by
 unfold Xh
 split <;> simp
theorem putV_get (t : List V) (d : Option Tmp) (v : V) (x : Nat) : (Xh t d v)[x]? = if d = some x∧x < t.length then some v else t[x]?:=by
 unfold Xh
 split
 ·rename_i d
  rw [List.getElem?_set]
  by_cases h : d = x
  ·subst h
   by_cases h2 : d < t.length
   ·simp [h2]
   ·simp [h2]
  ·simp [h]
 ·simp
theorem resetV_len (l : List Oper) (t0 t : List V) : ∀ (S : List Nat),(Kb l t0 t S).length = t.length
 | [] => rfl
 | i :: S => by
  unfold Kb
  split
  ·rw [putV_len,resetV_len l t0 t S]
  ·exact resetV_len l t0 t S
theorem resetV_in (l : List Oper) (t0 t : List V) (hl : t.length = t0.length) (x : Nat) : ∀ (S : List Nat),(∃ i ∈ S,∃ o,l[i]? = some o∧o.dst = some x)→(Kb l t0 t S)[x]? = t0[x]?
 | [],h => by obtain ⟨i,h,_⟩:=h; cases h
 | i :: S,h => by
  unfold Kb
  have hx : x < t0.length→some (t0.getD x .any) = t0[x]?:=fun h => by rw [List.getD_eq_getElem?_getD,List.getElem?_eq_getElem h]; rfl
  have hn : ¬ x < t0.length→t0[x]? = none:=fun h => List.getElem?_eq_none (by omega)
  have rec0 : (∃ i ∈ S,∃ o,l[i]? = some o∧o.dst = some x)→(Kb l t0 t S)[x]? = t0[x]?:=resetV_in l t0 t hl x S
  split
  ·rename_i o ho
   rw [putV_get,resetV_len,hl]
   by_cases hd : o.dst = some x
   ·simp only [hd,true_and]
    split
    ·rename_i h1; exact hx h1
    ·rename_i h1
     rw [hn h1]
     exact List.getElem?_eq_none (by rw [resetV_len,hl]; omega)
   ·simp only [hd,false_and,if_false]
    refine rec0 ?_
    obtain ⟨j,hj,oj,e1,e2⟩:=h
    rcases List.mem_cons.1 hj with rfl | hj
    ·rw [ho] at e1; cases e1; exact absurd e2 hd
    ·exact ⟨j,hj,oj,e1,e2⟩
  ·rename_i ho
   refine rec0 ?_
   obtain ⟨j,hj,oj,e1,e2⟩:=h
   rcases List.mem_cons.1 hj with rfl | hj
   ·rw [ho] at e1; cases e1
   ·exact ⟨j,hj,oj,e1,e2⟩
theorem resetV_out (l : List Oper) (t0 t : List V) (x : Nat) : ∀ (S : List Nat),(¬ ∃ i ∈ S,∃ o,l[i]? = some o∧o.dst = some x)→(Kb l t0 t S)[x]? = t[x]?
 | [],h => rfl
 | i :: S,h => by
  unfold Kb
  have rec0:=resetV_out l t0 t x S fun ⟨j,hj,e⟩ => h ⟨j,List.mem_cons_of_mem _ hj,e⟩
  split
  ·rename_i o ho
   rw [putV_get,rec0]
   by_cases hd : o.dst = some x
   ·exact absurd ⟨i,List.mem_cons_self ..,o,ho,hd⟩ h
   ·simp [hd]
  ·exact rec0
theorem TL_len (L : Nat→Bool) : ∀ n,(TL ops tr t0 L n).length = t0.length
 | 0 => rfl
 | n + 1 => by
  simp only [TL]
  split
  ·split
   ·rw [putV_len,TL_len L n]
   ·exact TL_len L n
  ·exact TL_len L n
def subsN : List Nat→List (List Nat)
 | [] => [[]]
 | x :: l => subsN l ++ (subsN l).map (x :: ·)
theorem filter_subsN (f : Nat→Bool) : ∀ (l : List Nat),l.filter f ∈ subsN l
 | [] => by simp [subsN]
 | x :: l => by
  have:=filter_subsN f l
  unfold subsN
  cases hf : f x with
  | true => rw [List.filter_cons_of_pos hf]; exact List.mem_append_right _ (List.mem_map.2 ⟨_,this,rfl⟩)
  | false => rw [List.filter_cons_of_neg (by simp [hf])]; exact List.mem_append_left _ this
def needL (l : List Oper) (po : Oper) (p : Nat) : Nat→List Nat
 | 0 => []
 | n + 1 =>
  if (waitsOn po (p - (n + 1)) || (needL l po p n).any fun k => match l[k]? with | some o => waitsOn o (p - (n + 1)) | none => false) = true then (p - (n + 1)) :: needL l po p n else needL l po p n
theorem needL_done {l : List Oper} {po : Oper} {p : Nat} {L : Nat→Bool} (hready : ∀ e ∈ po.after,Region.binds .any e = true→L e.on = true) (hW : ∀ j oj,L j = true→l[j]? = some oj→∀ e ∈ oj.after,Region.binds .any e = true→L e.on = true) : ∀ n,∀ j ∈ needL l po p n,L j = true
 | 0,j,h => by cases h
 | n + 1,j,h => by
  have ih:=needL_done (p:=p) (L:=L) hready hW n
  unfold needL at h
  split at h
  ·rename_i hc
   rcases List.mem_cons.1 h with rfl | h
   ·rw [Bool.or_eq_true] at hc
    rcases hc with hc | hc
    ·obtain ⟨e,e1,e2,e3⟩:=waitsOn_spec hc
     rw [← e3]; exact hready e e1 e2
    ·obtain ⟨k,hk,h2⟩:=List.any_eq_true.1 hc
     split at h2
     ·rename_i o ho
      obtain ⟨e,e1,e2,e3⟩:=waitsOn_spec h2
      rw [← e3]; exact hW k o (ih k hk) ho e e1 e2
     ·cases h2
   ·exact ih j h
  ·exact ih j h
def Hv (l : List Oper) (p : Nat) (po : Oper) : List Nat:=(List.range p).filter fun i => !Ji i (needL l po p p)
def arrM (n p : Nat) (S : List Nat) : Array Bool:=((List.range n).map fun j => decide (j≤p) && !Ji j S).toArray
def midPs (l : List Oper) (p : Nat) (Ss : List (List Nat)) : List (List Nat × List Nat) :=
 Ss.flatMap fun S => (exts l.toArray ((List.range l.length).countP fun j => !(arrM l.length p S).getD j true) (arrM l.length p S)).map fun q => (S,q)
def dstNe (o o' : Oper) : Bool:=match o.dst,o'.dst with
 | some d,some d' => !(d == d')
 | _,_ => true
def midOk (l : List Oper) (p : Nat) : Bool:=match l[p]? with
 | none => false
 | some po => (List.range l.length).all (fun j => decide (j≤p) || match l[j]? with | some o => waitsOn o p | none => true) &&
  (Hv l p po).all fun u => (List.range p).all fun j => j == u || match l[j]?,l[u]? with | some o,some o' => dstNe o o' | _,_ => true
def freeL (l : List Oper) (p : Nat) : List Nat:=match l[p]? with
 | none => []
 | some po => Hv l p po
theorem memN_iff {x : Nat} : ∀ {l : List Nat},Ji x l = true ↔ x ∈ l
 | [] => by simp [Ji]
 | y :: l => by
  have ih:=memN_iff (x:=x) (l:=l)
  unfold Ji
  rw [List.mem_cons]
  cases h : Nat.beq x y with
  | true =>
   have:=Nat.eq_of_beq_eq_true h
   exact ⟨fun _ => .inl this,fun _ => rfl⟩
  | false =>
   refine ⟨fun h1 => .inr (ih.1 h1),fun h1 => ih.2 ?_⟩
   rcases h1 with h1 | h1
   ·exact absurd h1 (Nat.ne_of_beq_eq_false h)
   ·exact h1
theorem VW.evalMid {C CM : Qc} {id : Nat} {l : List Oper} {st : VS} {Q : Exit→VS→Prop} (p : Nat) (ps : List (List Nat × List Nat)) (t' : List V) (m' : VM) (g' : List V) (hC : C.Ok P) (hM : CM.OkM P) (hm : P.follows .mixedOrders = true)
  (hc : (Qu l && midOk l p && Ud (l.take p) && Xp l.toArray l.length none (l.take p)) = true) (he : midPs l p (subsN (freeL l p)) = ps)
  (h : ∀ x ∈ ps,toSt ((Wj P C l.toArray l.length none (l.take p) st).bind fun s => vseqM P C CM (opsAt l (p :: x.2)) { t:=Kb l st.t s.t x.1,m:=s.m,g:=s.g }) t' m' g') (hQ : Q .normal { t:=t',m:=m',g:=g' }) : VW P (.region id l.toArray true) Q st:=by
 simp only [Bool.and_eq_true] at hc
 obtain ⟨⟨⟨c1,c2⟩,c3⟩,c4⟩:=hc
 unfold midOk at c2
 split at c2
 ·cases c2
 rename_i po hpo
 simp only [Bool.and_eq_true,List.all_eq_true,List.mem_range,Bool.or_eq_true,decide_eq_true_eq,beq_iff_eq] at c2
 obtain ⟨c5,c6⟩:=c2
 have hfree : freeL l p = Hv l p po:=by unfold freeL; rw [hpo]
 rw [hfree] at he
 have hpl : p < l.length:=(List.getElem?_eq_some_iff.1 hpo).1
 have hp1 : (l.take p).length = p:=by simp; omega
 cases hv : Wj P C l.toArray l.length none (l.take p) st with
 | none =>
  exfalso
  have hne : ps ≠ []:=by
   rw [← he]
   unfold midPs
   intro hh
   have h1:=List.flatMap_eq_nil_iff.1 hh _ (filter_subsN (fun _ => true) (Hv l p po))
   rw [List.map_eq_nil_iff] at h1
   exact exts_ne _ _ _ h1
  obtain ⟨x,hx⟩:=List.exists_mem_of_ne_nil _ hne
  obtain ⟨t,h1,_⟩:=(h x hx).get
  rw [hv] at h1
  cases h1
 | some st1 =>
  have hste:=Ur _ _ _ _ _ hv c4 (fun _ _ h => by cases h)
  have hdl : DL P l.toArray (l.take p) st st1:=by simpa using hste.dl (rest:=[]) hC c3 DL.nil
  refine Uc fun N w0 a w φ hs => ?_
  obtain ⟨hg,bl,hbl,h'⟩:=hdl
  obtain ⟨tr,hd,hde⟩:=h' []
  rw [List.append_nil,hbl] at hd
  have hget : ∀ j,j < (l.take p).length→(l.take p)[j]? = l.toArray[0 + j]?:=fun j hj => by
   rw [hp1] at hj
   simp [List.getElem?_take,hj]
  obtain ⟨h1,h2,h3,h4⟩:=DT.rows' (tr:=tr) (n:=0) (t0:=st.t) hd hget (fun j => by simp) rfl
  have hfin:=DE.final' (ops:=l.toArray) (tr:=tr) (t0:=st.t) hde 0 hget (fun j => by simp) rfl
  rw [hp1,Nat.zero_add] at hfin
  rw [hp1] at h1
  refine wp_region_any hm ?_
  have hs1 : SR P N w0 st a (w.drewN 1) φ:=by
   obtain ⟨d1,d2⟩:=hs.mem.drewN 1
   exact ⟨hs.defers,hs.size,fun i v hi => by
    obtain ⟨u,b1,b2⟩:=hs.tmps i v hi
    exact ⟨u,b1,b2.ev d2⟩,d1,hs.below.trans (Jg N w 1),hs.start,Sl.ev d2 hs.gh,hs.gl⟩
  have hs2:=hs1.more bl
  have htl : TL l.toArray tr st.t (fun _ => false) l.toArray.size = st.t:=by
   have : ∀ n,TL l.toArray tr st.t (fun _ => false) n = st.t:=fun n => by
    induction n with
    | zero => rfl
    | succ n ih => simp only [TL]; split <;> simp [ih]
   exact this _
  have htlp : ∀ (L : Nat→Bool) n,p≤n→TL l.toArray tr st.t L n = TL l.toArray tr st.t L p:=fun L n => by
   induction n with
   | zero => intro hn; rw [show p = 0 by omega]
   | succ n ih =>
    intro hn
    rcases Nat.lt_or_ge n p with hlt | hge
    ·rw [show p = n + 1 by omega]
    ·have : tr[n]? = none:=List.getElem?_eq_none (by omega)
     simp only [TL,this]
     rw [← ih hge]
     split <;> first | rfl | (rename_i h; cases h)
  refine draw_mid (Q:=fun e s => ∃ s',Qm s s'∧Q e s') (tr:=tr) (t0:=st.t) (M0:=st.m ++ bl) (k0:=st.m.length) (p:=p) (po:=po) (by simpa using c1) h1.symm (by simpa using hpo) (fun j o hj ho => ?_) (fun j oj r ho hr => ?_) h3 h4 (fun fuel listed L hsz hL hcnt hLp hready hW => ?_) _ _ (fun _ => false) (by simp) (fun j hj => by simp at hj; simp [hj]) (by simp) (fun _ _ => rfl) (fun j oj h => by cases h) a _ φ (by rw [htl]; exact hs2) fun b p hb => .inl (hs.mem.dom b p hb)
  ·have ho' : l[j]? = some o:=by simpa using ho
   rcases c5 j (List.getElem?_eq_some_iff.1 ho').1 with h | h
   ·omega
   ·rw [ho'] at h
    exact waitsOn_spec h
  ·have hj : j < p:=by rw [h1]; exact (List.getElem?_eq_some_iff.1 hr).1
   have e:=hget j (by omega)
   rw [Nat.zero_add,ho] at e
   have:=h2 j oj r e hr
   simpa using this
  ·-- all but S
   have hnl : l.toArray.size = l.length:=by simp
   rw [hnl] at hsz
   have hS : (Hv l p po).filter (fun j => !L j) ∈ subsN (Hv l p po):=filter_subsN _ _
   generalize hSe : (Hv l p po).filter (fun j => !L j) = S at hS
   have hmS : ∀ j,j < p→(Ji j S = true ↔ L j = false):=fun j hj => by
    rw [memN_iff,← hSe,List.mem_filter]
    constructor
    ·intro ⟨_,h⟩; simpa using h
    ·intro hLj
     refine ⟨?_,by simp [hLj]⟩
     unfold Hv
     rw [List.mem_filter]
     refine ⟨List.mem_range.2 hj,?_⟩
     cases hw : Ji j (needL l po p p) with
     | false => rfl
     | true =>
      exfalso
      have:=needL_done (L:=L) hready (fun j oj h1 h2 => hW j oj h1 (by simpa using h2)) p j (memN_iff.1 hw)
      rw [hLj] at this
      cases this
   have hSp : ∀ j,Ji j S = true→j < p:=fun j hj => by
    rw [memN_iff,← hSe,List.mem_filter] at hj
    unfold Hv at hj
    exact List.mem_range.1 (List.mem_filter.1 hj.1).1
   have hlist : listed.setIfInBounds p true = arrM l.length p S:=by
    refine Array.ext_getElem? fun j => ?_
    by_cases hj : j < l.length
    ·have e1 : listed.getD j true = L j:=hL j (by simpa using hj)
     rw [Array.getD_eq_getD_getElem?,Array.getElem?_eq_getElem (by omega)] at e1
     simp only [Option.getD_some] at e1
     rw [Array.getElem?_setIfInBounds]
     unfold arrM
     by_cases hjp : p = j
     ·subst hjp
      have : Ji p S = false:=by
       cases hm : Ji p S with
       | false => rfl
       | true => exact absurd (hSp p hm) (by omega)
      simp [this,hj,hsz]
     ·rw [if_neg hjp,Array.getElem?_eq_getElem (by omega),e1]
      simp only [List.getElem?_toArray,List.getElem?_map]
      rw [List.getElem?_range hj]
      simp only [Option.map_some]
      rcases Nat.lt_or_ge j p with hlt | hge
      ·have:=hmS j hlt
       cases hLj : L j with
       | true =>
        have : Ji j S = false:=by
         cases hm : Ji j S with
         | false => rfl
         | true => rw [(hmS j hlt).1 hm] at hLj; cases hLj
        simp [this]; omega
       | false => simp [(hmS j hlt).2 hLj]
      ·rw [hLp j hge]
       have : ¬ j≤p:=by omega
       simp [this]
    ·rw [Array.getElem?_eq_none (by simp; omega),Array.getElem?_eq_none (by simp [arrM]; omega)]
   have hfuel : fuel = (List.range l.length).countP fun j => !(arrM l.length p S).getD j true:=by
    have hLpp:=hLp p (Nat.le_refl _)
    have e1:=Gh (L:=L) hLpp l.length hpl
    rw [hnl] at hcnt
    have e2 : (List.range l.length).countP (fun j => !(L j || j == p)) = (List.range l.length).countP fun j => !(arrM l.length p S).getD j true:=by
     refine List.countP_congr fun j hj => ?_
     rw [← hlist]
     have hj':=List.mem_range.1 hj
     by_cases hjp : p = j
     ·subst hjp
      rw [Array.getD_eq_getD_getElem?]
      simp [hsz,hj']
     ·rw [getD_set_ne true hjp,hL j (by simpa using hj')]
      have : (j == p) = false:=by simp; exact fun h => hjp h.symm
      rw [this]
      simp
    omega
   have hT : TL l.toArray tr st.t L l.toArray.size = Kb l st.t st1.t S:=by
    rw [htlp L _ (by simp; omega)]
    refine List.ext_getElem? fun x => ?_
    by_cases hx : ∃ i ∈ S,∃ o,l[i]? = some o∧o.dst = some x
    ·rw [resetV_in l st.t st1.t (by rw [hfin,TL_len]) x S hx]
     have:=TL_agree (ops:=l.toArray) (tr:=tr) (t0:=st.t) (L:=L) (i:=0) (d:=x) (fun j oj hj => absurd hj (Nat.not_lt_zero j)) (n:=p) (Nat.zero_le _) (fun j oj _ hjp hLj hoj hjx => by
      obtain ⟨i,hi,o,ho,hox⟩:=hx
      have hiS:=memN_iff.2 hi
      have hip:=hSp i hiS
      have hiF : i ∈ Hv l p po:=by
       have hh:=hi
       rw [← hSe,List.mem_filter] at hh
       exact hh.1
      rcases c6 i hiF j hjp with h | h
      ·subst h
       rw [(hmS j hjp).1 hiS] at hLj
       cases hLj
      ·have hoj' : l[j]? = some oj:=by simpa using hoj
       rw [hoj',ho] at h
       simp [dstNe,hjx,hox] at h)
     rw [this]
     rfl
    ·rw [resetV_out l st.t st1.t x S hx,hfin]
     refine TL_agree (fun j oj hj hoj hjx => ?_) (Nat.le_refl _) (fun j oj h1 h2 => absurd h1 (by omega))
     cases hLj : L j with
     | true => rfl
     | false => exact absurd ⟨j,memN_iff.1 ((hmS j hj).2 hLj),oj,by simpa using hoj,hjx⟩ hx
   rw [hT,hlist,hfuel,← hbl,← hg]
   have hall : ∀ q ∈ exts l.toArray ((List.range l.length).countP fun j => !(arrM l.length p S).getD j true) (arrM l.length p S),∃ s,vseqM P C CM (opsAt l (p :: q)) { t:=Kb l st.t st1.t S,m:=st1.m,g:=st1.g } = some s∧∃ s',Qm s s'∧Q .normal s':=fun q hq => by
    have hmem : (S,q) ∈ ps:=by
     rw [← he]
     exact List.mem_flatMap.2 ⟨S,hS,List.mem_map.2 ⟨q,hq,rfl⟩⟩
    obtain ⟨t,g1,g2⟩:=(h _ hmem).get
    rw [hv,Option.bind_some] at g1
    exact ⟨_,g1,_,Km g2,hQ⟩
   obtain ⟨q0,hq0⟩:=List.exists_mem_of_ne_nil _ (exts_ne l.toArray ((List.range l.length).countP fun j => !(arrM l.length p S).getD j true) (arrM l.length p S))
   unfold VO
   simp only [opsAt,hpo,vseqM] at hall
   cases hs3 : vstepM P C CM { t:=Kb l st.t st1.t S,m:=st1.m,g:=st1.g } po with
   | none =>
    obtain ⟨s,g1,_⟩:=hall q0 hq0
    rw [hs3] at g1
    cases g1
   | some st2 =>
    rw [hs3] at hall
    simp only [Option.bind_some] at hall
    exact VL.stepM hC hM hs3 (VL.nil (.inl ⟨rfl,VA.of hC hM _ _ _ (Nat.le_refl _) hall⟩))
attribute [simp] Kb
end
end Go.VL
