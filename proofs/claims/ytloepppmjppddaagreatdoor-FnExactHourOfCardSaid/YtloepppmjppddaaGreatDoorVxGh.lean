/- Regions that draw their order, in which one operation may do anything, and all behind it wait for it. -/
import Derived.Test.YtloepppmjppddaaGreatDoorVxGg
import Derived.Test.YtloepppmjppddaaGreatDoorVxGf
import Derived.KernelRfl
import Derived.Shelf.Strconv.Itoa4
import Derived.Room.Shelf.Join48
import Derived.Lib.AppendIntMem
import Derived.Handed
import Derived.SizedLaws
import Derived.Shelf.Vars
import Derived.Shelf.Strconv.ErrVarParseInt
import Derived.Shelf.Strings.Split
import Derived.Shelf.Small.Strs
import Derived.Lib.ParseIntBTie
import Derived.Lib.ParseIntBCases
namespace Go.VL
open Go.RowKit
set_option linter.unusedSimpArgs false
set_option linter.unusedVariables false
section
variable {P : Program} {ops : Array Oper} {tr : List Jw} {t0 : List V}
theorem draw_mid {Q : Exit→VS→Prop} {g0 : List V} {N : Fr} {w0 : World × List Value} {k0 p : Nat} {po : Oper} {M0 : VM} (hlex : Uz ops.toList = true) (hlen : tr.length = p) (hpo : ops[p]? = some po)
  (hrest : ∀ j o,p < j→ops[j]? = some o→∃ e ∈ o.after,Region.binds .any e = true∧e.on = p)
  (hrows : ∀ (j : Nat) (o : Oper) (r : Jw),ops[j]? = some o→tr[j]? = some r→RowOk P ops M0 tr t0 j o r) (hk0 : ∀ (j : Nat) (r : Jw),tr[j]? = some r→k0≤r.2.1) (hdis : ∀ (i j : Nat) (r s : Jw),i < j→tr[i]? = some r→tr[j]? = some s→r.2.1 + r.2.2≤s.2.1)
  (hQ : ∀ (fuel : Nat) (listed : Array Bool) (L : Nat→Bool),listed.size = ops.size→(∀ j,j < ops.size→listed.getD j true = L j)→(List.range ops.size).countP (fun j => !L j) = fuel + 1→(∀ j,p≤j→L j = false)→(∀ e ∈ po.after,Region.binds .any e = true→L e.on = true)→(∀ j oj,L j = true→ops[j]? = some oj→∀ e ∈ oj.after,Region.binds .any e = true→L e.on = true) →
   VO P ops Q po (VA P ops Q fuel (listed.setIfInBounds p true)) { t:=TL ops tr t0 L ops.size,m:=M0,g:=g0 }) :
  ∀ (fuel : Nat) (listed : Array Bool) (L : Nat→Bool),listed.size = ops.size→(∀ j,j < ops.size→listed.getD j true = L j)→(List.range ops.size).countP (fun j => !L j) = fuel→(∀ j,p≤j→L j = false) →
   (∀ j oj,L j = true→ops[j]? = some oj→∀ e ∈ oj.after,Region.binds .any e = true→L e.on = true) →
   ∀ (a : Act) (w : World) (φ : Pl),SR P N w0 { t:=TL ops tr t0 L ops.size,m:=M0,g:=g0 } a w φ→Dom tr k0 L φ →
    wpAny P .any ops (fun e a' w' => ∃ st' φ',Q e st'∧SR P N w0 st' a' w' φ') fuel listed a w:=by
 have spec:=Je hlex
 have hp0 : p < ops.size:=(Array.getElem?_eq_some_iff.1 hpo).1
 intro fuel
 induction fuel with
 | zero =>
  intro listed L hsz hL hc hLp hW a w φ hs hd
  have:=List.countP_eq_zero.1 hc p (List.mem_range.2 hp0)
  rw [hLp p (Nat.le_refl _)] at this
  simp at this
 | succ fuel ih =>
  intro listed L hsz hL hc hLp hW a w φ hs hd
  refine ⟨fun hr => ?_,fun i hi => ?_⟩
  ·exfalso
   have allL : ∀ j,j < ops.size→L j = true:=by
    intro j
    induction j using Nat.strongRecOn with
    | ind j ih =>
     intro hj
     cases hLj : L j with
     | true => rfl
     | false =>
      exfalso
      obtain ⟨oj,hoj⟩ : ∃ oj,ops[j]? = some oj:=⟨ops[j],by simp [hj]⟩
      have : j ∈ Region.ready .any ops listed:=mem_ready.2 ⟨(hL j hj).trans hLj,oj,hoj,fun e he hb => by
       have hlt:=(spec j oj hoj).1 e he hb
       have h1:=ih e.on hlt (by omega)
       rw [← hL e.on (by omega)] at h1
       have : e.on < listed.size:=by omega
       simpa [this] using h1⟩
      rw [hr] at this
      cases this
   have:=allL p hp0
   rw [hLp p (Nat.le_refl _)] at this
   cases this
  obtain ⟨b1,o,hoi,b3⟩:=mem_ready.1 hi
  have hlt:=(Array.getElem?_eq_some_iff.1 hoi).1
  have hLi : L i = false:=by rw [← hL i hlt]; exact b1
  have hready : ∀ e ∈ o.after,Region.binds .any e = true→L e.on = true:=fun e he hb => by
   have h1:=b3 e he hb
   have hlt' : e.on < ops.size:=Nat.lt_trans ((spec i o hoi).1 e he hb) hlt
   have h2:=hL e.on hlt'
   have : e.on < listed.size:=by omega
   simp [this] at h1 h2
   rw [h1] at h2
   exact h2.symm
  by_cases hip : i = p
  ·subst hip
   rw [hpo] at hoi
   cases hoi
   have hq:=hQ fuel listed L hsz hL hc hLp hready hW N w0 a w φ hs
   unfold wpOp
   simp only [hpo]
   unfold wpList at hq
   have key : ∀ a' w',(∃ st' φ',((Exit.normal = .normal∧VA P ops Q fuel (listed.setIfInBounds i true) st')∨(Exit.normal ≠ .normal∧Q .normal st'))∧SR P N w0 st' a' w' φ')→wpAny P .any ops (fun e a' w' => ∃ st' φ',Q e st'∧SR P N w0 st' a' w' φ') fuel (listed.setIfInBounds i true) a' w':=fun a' w' ⟨s,φ',h2,h3⟩ => by
    rcases h2 with h2 | h2
    ·exact h2.2 N w0 a' w' φ' h3
    ·exact absurd rfl h2.1
   have keyQ : ∀ e a' w',e ≠ Exit.normal→(∃ st' φ',((e = .normal∧VA P ops Q fuel (listed.setIfInBounds i true) st')∨(e ≠ .normal∧Q e st'))∧SR P N w0 st' a' w' φ')→∃ st' φ',Q e st'∧SR P N w0 st' a' w' φ':=fun e a' w' he ⟨s,φ',h2,h3⟩ => by
    rcases h2 with h2 | h2
    ·exact absurd h2.1 he
    ·exact ⟨s,φ',h2.2,h3⟩
   split
   ·rename_i hw
    rw [if_pos hw] at hq
    rcases hq with h1 | ⟨h1,h2⟩
    ·exact .inl (wp_mono2 key keyQ h1)
    ·refine .inr ⟨h1,?_⟩
     obtain ⟨a',w',h3⟩:=h2
     exact ⟨a',w',keyQ _ _ _ (by simp) h3⟩
   ·rename_i hw
    rw [if_neg hw] at hq
    exact key _ _ hq
  have hin' : i < p:=by
   rcases Nat.lt_or_ge i p with h | h
   ·exact h
   ·exfalso
    obtain ⟨e,he,hb,heq⟩:=hrest i o (by omega) hoi
    have:=hready e he hb
    rw [heq,hLp p (Nat.le_refl _)] at this
    cases this
  obtain ⟨r,hri⟩ : ∃ r,tr[i]? = some r:=⟨tr[i]'(by omega),by simp [show i < tr.length by omega]⟩
  have early : ∀ j oj,j < i→ops[j]? = some oj→L j = false→oj.apart ops o = true:=fun j oj hj hoj hLj => by
   rcases (spec j oj hoj).2 i o hj hoi with ⟨e,he,hb,heq⟩ | h
   ·have:=hready e he hb
    rw [heq,hLj] at this
    cases this
   ·exact h
  have late : ∀ j oj,i < j→ops[j]? = some oj→L j = true→o.apart ops oj = true:=fun j oj hj hoj hLj => by
   rcases (spec i o hoi).2 j oj hj hoj with ⟨e,he,hb,heq⟩ | h
   ·have:=hW j oj hLj hoj e he hb
    rw [heq,hLi] at this
    cases this
   ·exact h
  have agree : ∀ d,d ∈ o.looksAt ops→(TL ops tr t0 L ops.size)[d]? = (TL ops tr t0 (fun _ => true) i)[d]?:=fun d hd =>
   Gh (fun j oj hj hoj hjd => by
    cases hLj : L j with
    | true => rfl
    | false => exact absurd hd ((Oper.apart_spec (early j oj hj hoj hLj)).1 d hjd)) (Nat.le_of_lt hlt) fun j oj hj hjn hLj hoj hjd => by
    by_cases hji : i = j
    ·subst hji; rw [hLi] at hLj; cases hLj
    ·exact (Oper.apart_spec (late j oj (by omega) hoj hLj)).2.2 d hjd hd
  obtain ⟨e1,e2⟩:=eval_agree (ops:=ops) agree
  have hput : TL ops tr t0 (fun x => L x || x == i) ops.size = Xe (TL ops tr t0 L ops.size) o.dst r.1 :=
   TL_put hoi hri hLi hlt fun j oj h1 h2 h3 h4 d hd => (Oper.apart_spec (late j oj h1 h4 h3)).2.1 d hd
  have cont : ∀ (a' : Act) (w' : World) (φ' : Pl),SR P N w0 { t:=Xe (TL ops tr t0 L ops.size) o.dst r.1,m:=M0,g:=g0 } a' w' φ'→Dom tr k0 (fun x => L x || x == i) φ' →
    wpAny P .any ops (fun e a' w' => ∃ st' φ',Q e st'∧SR P N w0 st' a' w' φ') fuel (listed.setIfInBounds i true) a' w':=fun a' w' φ' hs' hd' => by
   refine ih (listed.setIfInBounds i true) (fun x => L x || x == i) (by simp [hsz]) (fun j hj => ?_) ?_ ?_ (fun j oj hLj hoj e he hb => ?_) a' w' φ' (by rw [hput]; exact hs') hd'
   ·by_cases hij : i = j
    ·subst hij
     have : i < listed.size:=by omega
     simp [this]
    ·rw [getD_set_ne true hij,hL j hj]
     simp [show (j == i) = false by simp; omega]
   ·have:=Kx hLi ops.size hlt
    omega
   ·intro j hj
    rw [hLp j hj,Bool.false_or]
    simp; omega
   ·by_cases hij : j = i
    ·subst hij
     rw [hoi] at hoj
     cases hoj
     simp [hready e he hb]
    ·have hLj' : L j = true:=by simpa [hij] using hLj
     simp [hW j oj hLj' hoj e he hb]
  unfold wpOp
  simp only [hoi]
  have hmono : ∀ φ',(∀ b p,φ' b = some p→φ b = some p∨(r.2.1≤b∧b < r.2.1 + r.2.2))→Dom tr k0 (fun x => L x || x == i) φ':=fun φ' h b p hb => by
   rcases h b p hb with h | ⟨h1,h2⟩
   ·rcases hd b p h with h | ⟨j,s,a1,a2,a3,a4⟩
    ·exact .inl h
    ·exact .inr ⟨j,s,by simp [a1],a2,a3,a4⟩
   ·exact .inr ⟨i,r,by simp,hri,h1,h2⟩
  have hrow:=hrows i o r hoi hri
  rcases hrow with ⟨hw,hr1,hr2⟩ | ⟨hw,ho⟩
  ·rw [Xa (e2.trans hw) hs,if_neg (by simp)]
   refine cont _ w φ ?_ (hmono φ fun b p hb => .inl hb)
   rw [hr1]
   exact hs.put S.und hs.mem (Ev.refl _ _ _) (Bel.refl _ _)
  ·rw [Xa (e2.trans hw) hs,if_pos rfl]
   left
   refine ho N a w φ _ _ hs.start hs.glob hs.mem (fun x hx => by rw [← e1 x hx]; exact hs.eval x) (fun x hx => ?_) fun u w' φ' h1 h2 h3 h4 h5 => cont _ w' φ' (hs.put h1 h2 h3 h4) (hmono φ' h5)
   cases hφ : φ (r.2.1 + x) with
   | none => rfl
   | some p =>
    exfalso
    rcases hd _ p hφ with h | ⟨j,s,a1,a2,a3,a4⟩
    ·have:=hk0 i r hri
     omega
    ·rcases Nat.lt_trichotomy i j with h | h | h
     ·have:=hdis i j r s h hri a2; omega
     ·subst h; rw [hLi] at a1; cases a1
     ·have:=hdis j i s r h a2 hri; omega
def Kc (l : List Oper) (t0 t : List V) : List Nat→List V
 | [] => t
 | i :: S => match l[i]? with
  | some o => Xe (Kc l t0 t S) o.dst (match o.dst with | some d => t0.getD d .any | none => .any)
  | none => Kc l t0 t S
theorem putV_len (t : List V) (d : Option Tmp) (v : V) : (Xe t d v).length = t.length:=by
 unfold Xe
 split <;> simp
theorem putV_get (t : List V) (d : Option Tmp) (v : V) (x : Nat) : (Xe t d v)[x]? = if d = some x∧x < t.length then some v else t[x]?:=by
 unfold Xe
 split
 ·rename_i d
  rw [List.getElem?_set]
  by_cases h : d = x
  ·subst h
   by_cases h2 : d < t.length
   ·simp [h2]
   ·simp [h2]
  ·simp [h]
 ·simp
theorem resetV_len (l : List Oper) (t0 t : List V) : ∀ (S : List Nat),(Kc l t0 t S).length = t.length
 | [] => rfl
 | i :: S => by
  unfold Kc
  split
  ·rw [putV_len,resetV_len l t0 t S]
  ·exact resetV_len l t0 t S
theorem resetV_in (l : List Oper) (t0 t : List V) (hl : t.length = t0.length) (x : Nat) : ∀ (S : List Nat),(∃ i ∈ S,∃ o,l[i]? = some o∧o.dst = some x)→(Kc l t0 t S)[x]? = t0[x]?
 | [],h => by obtain ⟨i,h,_⟩:=h; cases h
 | i :: S,h => by
  unfold Kc
  have hx : x < t0.length→some (t0.getD x .any) = t0[x]?:=fun h => by rw [List.getD_eq_getElem?_getD,List.getElem?_eq_getElem h]; rfl
  have hn : ¬ x < t0.length→t0[x]? = none:=fun h => List.getElem?_eq_none (by omega)
  have rec0 : (∃ i ∈ S,∃ o,l[i]? = some o∧o.dst = some x)→(Kc l t0 t S)[x]? = t0[x]?:=resetV_in l t0 t hl x S
  split
  ·rename_i o ho
   rw [putV_get,resetV_len,hl]
   by_cases hd : o.dst = some x
   ·simp only [hd,true_and]
    split
    ·rename_i h1; exact hx h1
    ·rename_i h1
     rw [hn h1]
     exact List.getElem?_eq_none (by rw [resetV_len,hl]; omega)
   ·simp only [hd,false_and,if_false]
    refine rec0 ?_
    obtain ⟨j,hj,oj,e1,e2⟩:=h
    rcases List.mem_cons.1 hj with rfl | hj
    ·rw [ho] at e1; cases e1; exact absurd e2 hd
    ·exact ⟨j,hj,oj,e1,e2⟩
  ·rename_i ho
   refine rec0 ?_
   obtain ⟨j,hj,oj,e1,e2⟩:=h
   rcases List.mem_cons.1 hj with rfl | hj
   ·rw [ho] at e1; cases e1
   ·exact ⟨j,hj,oj,e1,e2⟩
theorem resetV_out (l : List Oper) (t0 t : List V) (x : Nat) : ∀ (S : List Nat),(¬ ∃ i ∈ S,∃ o,l[i]? = some o∧o.dst = some x)→(Kc l t0 t S)[x]? = t[x]?
 | [],h => rfl
 | i :: S,h => by
  unfold Kc
  have rec0:=resetV_out l t0 t x S fun ⟨j,hj,e⟩ => h ⟨j,List.mem_cons_of_mem _ hj,e⟩
  split
  ·rename_i o ho
   rw [putV_get,rec0]
   by_cases hd : o.dst = some x
   ·exact absurd ⟨i,List.mem_cons_self ..,o,ho,hd⟩ h
   ·simp [hd]
  ·exact rec0
theorem TL_len (L : Nat→Bool) : ∀ n,(TL ops tr t0 L n).length = t0.length
 | 0 => rfl
 | n + 1 => by
  simp only [TL]
  split
  ·split
   ·rw [putV_len,TL_len L n]
   ·exact TL_len L n
  ·exact TL_len L n
def subsN : List Nat→List (List Nat)
 | [] => [[]]
 | x :: l => subsN l ++ (subsN l).map (x :: ·)
theorem filter_subsN (f : Nat→Bool) : ∀ (l : List Nat),l.filter f ∈ subsN l
 | [] => by simp [subsN]
 | x :: l => by
  have:=filter_subsN f l
  unfold subsN
  cases hf : f x with
  | true => rw [List.filter_cons_of_pos hf]; exact List.mem_append_right _ (List.mem_map.2 ⟨_,this,rfl⟩)
  | false => rw [List.filter_cons_of_neg (by simp [hf])]; exact List.mem_append_left _ this
def needL (l : List Oper) (po : Oper) (p : Nat) : Nat→List Nat
 | 0 => []
 | n + 1 =>
  if (waitsOn po (p - (n + 1)) || (needL l po p n).any fun k => match l[k]? with | some o => waitsOn o (p - (n + 1)) | none => false) = true then (p - (n + 1)) :: needL l po p n else needL l po p n
theorem needL_done {l : List Oper} {po : Oper} {p : Nat} {L : Nat→Bool} (hready : ∀ e ∈ po.after,Region.binds .any e = true→L e.on = true) (hW : ∀ j oj,L j = true→l[j]? = some oj→∀ e ∈ oj.after,Region.binds .any e = true→L e.on = true) : ∀ n,∀ j ∈ needL l po p n,L j = true
 | 0,j,h => by cases h
 | n + 1,j,h => by
  have ih:=needL_done (p:=p) (L:=L) hready hW n
  unfold needL at h
  split at h
  ·rename_i hc
   rcases List.mem_cons.1 h with rfl | h
   ·rw [Bool.or_eq_true] at hc
    rcases hc with hc | hc
    ·obtain ⟨e,e1,e2,e3⟩:=waitsOn_spec hc
     rw [← e3]; exact hready e e1 e2
    ·obtain ⟨k,hk,h2⟩:=List.any_eq_true.1 hc
     split at h2
     ·rename_i o ho
      obtain ⟨e,e1,e2,e3⟩:=waitsOn_spec h2
      rw [← e3]; exact hW k o (ih k hk) ho e e1 e2
     ·cases h2
   ·exact ih j h
  ·exact ih j h
def Hq (l : List Oper) (p : Nat) (po : Oper) : List Nat:=(List.range p).filter fun i => !Jj i (needL l po p p)
def arrM (n p : Nat) (S : List Nat) : Array Bool:=((List.range n).map fun j => decide (j≤p) && !Jj j S).toArray
def midPs (l : List Oper) (p : Nat) (Ss : List (List Nat)) : List (List Nat × List Nat) :=
 Ss.flatMap fun S => (exts l.toArray ((List.range l.length).countP fun j => !(arrM l.length p S).getD j true) (arrM l.length p S)).map fun q => (S,q)
def dstNe (o o' : Oper) : Bool:=match o.dst,o'.dst with
 | some d,some d' => !(d == d')
 | _,_ => true
def midOk (l : List Oper) (p : Nat) : Bool:=match l[p]? with
 | none => false
 | some po => (List.range l.length).all (fun j => decide (j≤p) || match l[j]? with | some o => waitsOn o p | none => true) &&
  (Hq l p po).all fun u => (List.range p).all fun j => j == u || match l[j]?,l[u]? with | some o,some o' => dstNe o o' | _,_ => true
def freeL (l : List Oper) (p : Nat) : List Nat:=match l[p]? with
 | none => []
 | some po => Hq l p po
theorem memN_iff {x : Nat} : ∀ {l : List Nat},Jj x l = true ↔ x ∈ l
 | [] => by simp [Jj]
 | y :: l => by
  have ih:=memN_iff (x:=x) (l:=l)
  unfold Jj
  rw [List.mem_cons]
  cases h : Nat.beq x y with
  | true =>
   have:=Nat.eq_of_beq_eq_true h
   exact ⟨fun _ => .inl this,fun _ => rfl⟩
  | false =>
   refine ⟨fun h1 => .inr (ih.1 h1),fun h1 => ih.2 ?_⟩
   rcases h1 with h1 | h1
   ·exact absurd h1 (Nat.ne_of_beq_eq_false h)
   ·exact h1
theorem VW.evalMid {C CM : Uy} {id : Nat} {l : List Oper} {st : VS} {Q : Exit→VS→Prop} (p : Nat) (ps : List (List Nat × List Nat)) (t' : List V) (m' : VM) (g' : List V) (hC : C.Ok P) (hM : CM.OkM P) (hm : P.follows .mixedOrders = true)
  (hc : (Uz l && midOk l p && Wv (l.take p) && Xm l.toArray l.length none (l.take p)) = true) (he : midPs l p (subsN (freeL l p)) = ps)
  (h : ∀ x ∈ ps,toSt ((Wj P C l.toArray l.length none (l.take p) st).bind fun s => vseqM P C CM (opsAt l (p :: x.2)) { t:=Kc l st.t s.t x.1,m:=s.m,g:=s.g }) t' m' g') (hQ : Q .normal { t:=t',m:=m',g:=g' }) : VW P (.region id l.toArray true) Q st:=by
 simp only [Bool.and_eq_true] at hc
 obtain ⟨⟨⟨c1,c2⟩,c3⟩,c4⟩:=hc
 unfold midOk at c2
 split at c2
 ·cases c2
 rename_i po hpo
 simp only [Bool.and_eq_true,List.all_eq_true,List.mem_range,Bool.or_eq_true,decide_eq_true_eq,beq_iff_eq] at c2
 obtain ⟨c5,c6⟩:=c2
 have hfree : freeL l p = Hq l p po:=by unfold freeL; rw [hpo]
 rw [hfree] at he
 have hpl : p < l.length:=(List.getElem?_eq_some_iff.1 hpo).1
 have hp1 : (l.take p).length = p:=by simp; omega
 cases hv : Wj P C l.toArray l.length none (l.take p) st with
 | none =>
  exfalso
  have hne : ps ≠ []:=by
   rw [← he]
   unfold midPs
   intro hh
   have h1:=List.flatMap_eq_nil_iff.1 hh _ (filter_subsN (fun _ => true) (Hq l p po))
   rw [List.map_eq_nil_iff] at h1
   exact exts_ne _ _ _ h1
  obtain ⟨x,hx⟩:=List.exists_mem_of_ne_nil _ hne
  obtain ⟨t,h1,_⟩:=(h x hx).get
  rw [hv] at h1
  cases h1
 | some st1 =>
  have hste:=Ue _ _ _ _ _ hv c4 (fun _ _ h => by cases h)
  have hdl : DL P l.toArray (l.take p) st st1:=by simpa using hste.dl (rest:=[]) hC c3 DL.nil
  refine Ws fun N w0 a w φ hs => ?_
  obtain ⟨hg,bl,hbl,h'⟩:=hdl
  obtain ⟨tr,hd,hde⟩:=h' []
  rw [List.append_nil,hbl] at hd
  have hget : ∀ j,j < (l.take p).length→(l.take p)[j]? = l.toArray[0 + j]?:=fun j hj => by
   rw [hp1] at hj
   simp [List.getElem?_take,hj]
  obtain ⟨h1,h2,h3,h4⟩:=DT.rows' (tr:=tr) (n:=0) (t0:=st.t) hd hget (fun j => by simp) rfl
  have hfin:=DE.final' (ops:=l.toArray) (tr:=tr) (t0:=st.t) hde 0 hget (fun j => by simp) rfl
  rw [hp1,Nat.zero_add] at hfin
  rw [hp1] at h1
  refine wp_region_any hm ?_
  have hs1 : SR P N w0 st a (w.drewN 1) φ:=by
   obtain ⟨d1,d2⟩:=hs.mem.drewN 1
   exact ⟨hs.defers,hs.size,fun i v hi => by
    obtain ⟨u,b1,b2⟩:=hs.tmps i v hi
    exact ⟨u,b1,b2.ev d2⟩,d1,hs.below.trans (Ka N w 1),hs.start,Sl.ev d2 hs.gh,hs.gl⟩
  have hs2:=hs1.more bl
  have htl : TL l.toArray tr st.t (fun _ => false) l.toArray.size = st.t:=by
   have : ∀ n,TL l.toArray tr st.t (fun _ => false) n = st.t:=fun n => by
    induction n with
    | zero => rfl
    | succ n ih => simp only [TL]; split <;> simp [ih]
   exact this _
  have htlp : ∀ (L : Nat→Bool) n,p≤n→TL l.toArray tr st.t L n = TL l.toArray tr st.t L p:=fun L n => by
   induction n with
   | zero => intro hn; rw [show p = 0 by omega]
   | succ n ih =>
    intro hn
    rcases Nat.lt_or_ge n p with hlt | hge
    ·rw [show p = n + 1 by omega]
    ·have : tr[n]? = none:=List.getElem?_eq_none (by omega)
     simp only [TL,this]
     rw [← ih hge]
     split <;> first | rfl | (rename_i h; cases h)
  refine draw_mid (Q:=fun e s => ∃ s',Qg s s'∧Q e s') (tr:=tr) (t0:=st.t) (M0:=st.m ++ bl) (k0:=st.m.length) (p:=p) (po:=po) (by simpa using c1) h1.symm (by simpa using hpo) (fun j o hj ho => ?_) (fun j oj r ho hr => ?_) h3 h4 (fun fuel listed L hsz hL hcnt hLp hready hW => ?_) _ _ (fun _ => false) (by simp) (fun j hj => by simp at hj; simp [hj]) (by simp) (fun _ _ => rfl) (fun j oj h => by cases h) a _ φ (by rw [htl]; exact hs2) fun b p hb => .inl (hs.mem.dom b p hb)
  ·have ho' : l[j]? = some o:=by simpa using ho
   rcases c5 j (List.getElem?_eq_some_iff.1 ho').1 with h | h
   ·omega
   ·rw [ho'] at h
    exact waitsOn_spec h
  ·have hj : j < p:=by rw [h1]; exact (List.getElem?_eq_some_iff.1 hr).1
   have e:=hget j (by omega)
   rw [Nat.zero_add,ho] at e
   have:=h2 j oj r e hr
   simpa using this
  ·-- all but S
   have hnl : l.toArray.size = l.length:=by simp
   rw [hnl] at hsz
   have hS : (Hq l p po).filter (fun j => !L j) ∈ subsN (Hq l p po):=filter_subsN _ _
   generalize hSe : (Hq l p po).filter (fun j => !L j) = S at hS
   have hmS : ∀ j,j < p→(Jj j S = true ↔ L j = false):=fun j hj => by
    rw [memN_iff,← hSe,List.mem_filter]
    constructor
    ·intro ⟨_,h⟩; simpa using h
    ·intro hLj
     refine ⟨?_,by simp [hLj]⟩
     unfold Hq
     rw [List.mem_filter]
     refine ⟨List.mem_range.2 hj,?_⟩
     cases hw : Jj j (needL l po p p) with
     | false => rfl
     | true =>
      exfalso
      have:=needL_done (L:=L) hready (fun j oj h1 h2 => hW j oj h1 (by simpa using h2)) p j (memN_iff.1 hw)
      rw [hLj] at this
      cases this
   have hSp : ∀ j,Jj j S = true→j < p:=fun j hj => by
    rw [memN_iff,← hSe,List.mem_filter] at hj
    unfold Hq at hj
    exact List.mem_range.1 (List.mem_filter.1 hj.1).1
   have hlist : listed.setIfInBounds p true = arrM l.length p S:=by
    refine Array.ext_getElem? fun j => ?_
    by_cases hj : j < l.length
    ·have e1 : listed.getD j true = L j:=hL j (by simpa using hj)
     rw [Array.getD_eq_getD_getElem?,Array.getElem?_eq_getElem (by omega)] at e1
     simp only [Option.getD_some] at e1
     rw [Array.getElem?_setIfInBounds]
     unfold arrM
     by_cases hjp : p = j
     ·subst hjp
      have : Jj p S = false:=by
       cases hm : Jj p S with
       | false => rfl
       | true => exact absurd (hSp p hm) (by omega)
      simp [this,hj,hsz]
     ·rw [if_neg hjp,Array.getElem?_eq_getElem (by omega),e1]
      simp only [List.getElem?_toArray,List.getElem?_map]
      rw [List.getElem?_range hj]
      simp only [Option.map_some]
      rcases Nat.lt_or_ge j p with hlt | hge
      ·have:=hmS j hlt
       cases hLj : L j with
       | true =>
        have : Jj j S = false:=by
         cases hm : Jj j S with
         | false => rfl
         | true => rw [(hmS j hlt).1 hm] at hLj; cases hLj
        simp [this]; omega
       | false => simp [(hmS j hlt).2 hLj]
      ·rw [hLp j hge]
       have : ¬ j≤p:=by omega
       simp [this]
    ·rw [Array.getElem?_eq_none (by simp; omega),Array.getElem?_eq_none (by simp [arrM]; omega)]
   have hfuel : fuel = (List.range l.length).countP fun j => !(arrM l.length p S).getD j true:=by
    have hLpp:=hLp p (Nat.le_refl _)
    have e1:=Kx (L:=L) hLpp l.length hpl
    rw [hnl] at hcnt
    have e2 : (List.range l.length).countP (fun j => !(L j || j == p)) = (List.range l.length).countP fun j => !(arrM l.length p S).getD j true:=by
     refine List.countP_congr fun j hj => ?_
     rw [← hlist]
     have hj':=List.mem_range.1 hj
     by_cases hjp : p = j
     ·subst hjp
      rw [Array.getD_eq_getD_getElem?]
      simp [hsz,hj']
     ·rw [getD_set_ne true hjp,hL j (by simpa using hj')]
      have : (j == p) = false:=by simp; exact fun h => hjp h.symm
      rw [this]
      simp
    omega
   have hT : TL l.toArray tr st.t L l.toArray.size = Kc l st.t st1.t S:=by
    rw [htlp L _ (by simp; omega)]
    refine List.ext_getElem? fun x => ?_
    by_cases hx : ∃ i ∈ S,∃ o,l[i]? = some o∧o.dst = some x
    ·rw [resetV_in l st.t st1.t (by rw [hfin,TL_len]) x S hx]
     have:=Gh (ops:=l.toArray) (tr:=tr) (t0:=st.t) (L:=L) (i:=0) (d:=x) (fun j oj hj => absurd hj (Nat.not_lt_zero j)) (n:=p) (Nat.zero_le _) (fun j oj _ hjp hLj hoj hjx => by
      obtain ⟨i,hi,o,ho,hox⟩:=hx
      have hiS:=memN_iff.2 hi
      have hip:=hSp i hiS
      have hiF : i ∈ Hq l p po:=by
       have hh:=hi
       rw [← hSe,List.mem_filter] at hh
       exact hh.1
      rcases c6 i hiF j hjp with h | h
      ·subst h
       rw [(hmS j hjp).1 hiS] at hLj
       cases hLj
      ·have hoj' : l[j]? = some oj:=by simpa using hoj
       rw [hoj',ho] at h
       simp [dstNe,hjx,hox] at h)
     rw [this]
     rfl
    ·rw [resetV_out l st.t st1.t x S hx,hfin]
     refine Gh (fun j oj hj hoj hjx => ?_) (Nat.le_refl _) (fun j oj h1 h2 => absurd h1 (by omega))
     cases hLj : L j with
     | true => rfl
     | false => exact absurd ⟨j,memN_iff.1 ((hmS j hj).2 hLj),oj,by simpa using hoj,hjx⟩ hx
   rw [hT,hlist,hfuel,← hbl,← hg]
   have hall : ∀ q ∈ exts l.toArray ((List.range l.length).countP fun j => !(arrM l.length p S).getD j true) (arrM l.length p S),∃ s,vseqM P C CM (opsAt l (p :: q)) { t:=Kc l st.t st1.t S,m:=st1.m,g:=st1.g } = some s∧∃ s',Qg s s'∧Q .normal s':=fun q hq => by
    have hmem : (S,q) ∈ ps:=by
     rw [← he]
     exact List.mem_flatMap.2 ⟨S,hS,List.mem_map.2 ⟨q,hq,rfl⟩⟩
    obtain ⟨t,g1,g2⟩:=(h _ hmem).get
    rw [hv,Option.bind_some] at g1
    exact ⟨_,g1,_,Qx g2,hQ⟩
   obtain ⟨q0,hq0⟩:=List.exists_mem_of_ne_nil _ (exts_ne l.toArray ((List.range l.length).countP fun j => !(arrM l.length p S).getD j true) (arrM l.length p S))
   unfold VO
   simp only [opsAt,hpo,vseqM] at hall
   cases hs3 : vstepM P C CM { t:=Kc l st.t st1.t S,m:=st1.m,g:=st1.g } po with
   | none =>
    obtain ⟨s,g1,_⟩:=hall q0 hq0
    rw [hs3] at g1
    cases g1
   | some st2 =>
    rw [hs3] at hall
    simp only [Option.bind_some] at hall
    exact VL.stepM hC hM hs3 (VL.nil (.inl ⟨rfl,VA.of hC hM _ _ _ (Nat.le_refl _) hall⟩))
attribute [simp] Kc
end
end Go.VL

namespace Go.VL
open Go.RowKit
set_option linter.unusedSimpArgs false
set_option linter.unusedVariables false
@[simp] theorem vbytes_nil {m : VM} : vbytes m .nil = some []:=rfl
@[simp] theorem vbytes_sl {m : VM} {n : Nat} {es : List (List V)} : vbytes m (.sl n es) = Ke es:=rfl
@[simp] theorem vbytes_ref {m : VM} {b e len : Nat} : vbytes m (.ref b e len) = (match m[b]? with
  | some (some (_,es)) => if e + len≤es.length then Ke ((es.drop e).take len) else none
  | _ => none):=rfl
@[simp] theorem numsOf_nil : Ke [] = some []:=rfl
@[simp] theorem numsOf_cons {n : Int} {es : List (List V)} : Ke ([.i .u8 n] :: es) = (Ke es).map (n :: ·):=by
 simp only [Ke,numOf,Option.bind_some]
@[simp] theorem ev_nilIface {t : List V} : ev t (.const .nilIface) = .s .nilIface:=rfl
@[simp] theorem str_empty : (⟨#[]⟩ : ByteArray) = ByteArray.empty:=rfl
section
variable {P : Program} {C : Uy} {Q : Exit→VS→Prop} {st s2 : VS}
theorem VW.rA {id : Nat} {l : List Oper} (t' : List V) (m' : VM) (g' : List V) (hC : C.Ok P) (hQ : Q .normal { t:=t',m:=m',g:=g' }) (h : toSt (Wj P C l.toArray l.length none l st) t' m' g':=by simp -implicitDefEqProofs) (hg : Xm l.toArray l.length none l = true:=by kernel_rfl) : VW P (.region id l.toArray false) Q st:=Yf t' m' g' hC hg h hQ
theorem VW.rD {id : Nat} {l : List Oper} (t' : List V) (m' : VM) (g' : List V) (hC : C.Ok P) (hm : P.follows .mixedOrders = true) (hQ : Q .normal { t:=t',m:=m',g:=g' }) (h : toSt (Wj P C l.toArray l.length none l st) t' m' g':=by simp -implicitDefEqProofs) (hc : (Uz l && Wv l && Xm l.toArray l.length none l) = true:=by kernel_rfl) : VW P (.region id l.toArray true) Q st:=Uf t' m' g' hC hm hc h hQ
theorem VW.rE {id : Nat} {l : List Oper} (t' : List V) (m' : VM) (g' : List V) (hC : C.Ok P) (he : Qg { t:=t',m:=m',g:=g' } s2) (hQ : Q .normal s2) (h : toSt (Wj P C l.toArray l.length none l st) t' m' g':=by simp -implicitDefEqProofs) (hg : Xm l.toArray l.length none l = true:=by kernel_rfl) : VW P (.region id l.toArray false) Q st:=VW.evalE t' m' g' hC hg h he hQ
theorem VW.rDE {id : Nat} {l : List Oper} (t' : List V) (m' : VM) (g' : List V) (hC : C.Ok P) (hm : P.follows .mixedOrders = true) (he : Qg { t:=t',m:=m',g:=g' } s2) (hQ : Q .normal s2) (h : toSt (Wj P C l.toArray l.length none l st) t' m' g':=by simp -implicitDefEqProofs) (hc : (Uz l && Wv l && Xm l.toArray l.length none l) = true:=by kernel_rfl) : VW P (.region id l.toArray true) Q st:=VW.evalDE t' m' g' hC hm hc h he hQ
theorem Zd {γ δ : Type} {c : Operand} {x y : Code} {b : Bool} {A B : Option γ} {K : γ→Option δ} {o : δ} (h : (if b = true then A else B).bind K = some o) (h1 : A.bind K = some o→VW P x Q st) (h2 : B.bind K = some o→VW P y Q st) (hc : ev st.t c = .b b:=by simp) : VW P (.cond c x y) Q st :=
 VW.condB hc (fun hb => h1 (iteT hb h)) (fun hb => h2 (iteF hb h))
theorem Zm {γ δ : Type} {c : Operand} {x y : Code} {b : Bool} {A B : Option γ} {K : γ→Option δ} {o : δ} (h : (if b = true then A else B).bind K = some o) (h2 : B.bind K = some o→VW P y Q st) (h1 : A.bind K = some o→VW P x Q st) (hc : ev st.t c = .b b:=by simp) : VW P (.cond c x y) Q st :=
 Zd h h1 h2 hc
theorem Ze {t t' : List V} {m m' : VM} {g : List V} (k : Nat) (hm : m.take k = m':=by simp) (hf : fgt t t':=by simp [fgt]) (hk : k≤m.length:=by simp) (ht : t'.all (Zx k) = true:=by simp [Zx,Zs]) (hb : bndM k m' = true:=by simp [bndM,Zs]) (hgg : g.all (Zx k) = true:=by first | rfl | simp [Zx,Zs]) : Qg { t:=t,m:=m,g:=g } { t:=t',m:=m',g:=g }:=Qg.to k hf hm hk ht hb hgg
theorem Zn {σ : Type} {p : σ→Prop} {H : σ→VS} {s : VS} (x : σ) (h : p x) (he : Qg s (H x)) : ∃ x',p x'∧Qg s (H x'):=⟨x,h,he⟩
end
section
variable {α β γ : Type} {f : α→Option β} {u : Unit→Option β} {K : β→Option γ} {o : γ}
theorem Ys {xs : List α} {i : Int} (h : ((Wt xs i).bind f).bind K = some o) : ∃ v,(0≤i∧xs[i.toNat]? = some v∧i.toNat < xs.length∧∀ h : i.toNat < xs.length,xs[i.toNat] = v)∧(f v).bind K = some o:=by
 obtain ⟨v,h1,h2⟩:=Zc h
 exact ⟨v,Kg h1,h2⟩
theorem Xq {s : ByteArray} {i x : Int} (h : Wg s i = some x) : 0≤i∧∃ c,s.data.toList[i.toNat]? = some c∧(c.toNat : Int) = x∧s.data[i.toNat]? = some c:=by
 obtain ⟨h1,c,h2,h3⟩:=idxS_some h
 exact ⟨h1,c,h2,h3,by simpa using h2⟩
theorem cutK_some2 {lo hi : Int} {n : Nat} {u : Unit} (h : Hd lo hi n = some u) : 0≤lo∧0≤hi∧lo.toNat≤hi.toNat∧hi.toNat≤n∧max lo 0≤hi:=by
 obtain ⟨h1,h2,h3,h4⟩:=cutK_some h
 exact ⟨h1,h2,h3,h4,by omega⟩
theorem bindIS {f : Int→Option β} {s : ByteArray} {i : Int} (h : ((Wg s i).bind f).bind K = some o) : ∃ x,(0≤i∧∃ c,s.data.toList[i.toNat]? = some c∧(c.toNat : Int) = x∧s.data[i.toNat]? = some c)∧(f x).bind K = some o:=by
 obtain ⟨v,h1,h2⟩:=Zc h
 exact ⟨v,Xq h1,h2⟩
theorem bindM {b : Nat} {n : Int} (h : ((mk b n).bind u).bind K = some o) : ∃ v,(0≤n∧b * n.toNat≤281474976710656∧n.toNat≤9223372036854775807)∧(u v).bind K = some o:=by
 obtain ⟨v,h1,h2⟩:=Zc h
 exact ⟨v,mk_some h1,h2⟩
theorem Jq {b : Nat} {xs ys : List α} (h : ((Jn b xs ys).bind u).bind K = some o) : ∃ v,((xs.length + ys.length) * b≤140737488355328∧xs.length + ys.length≤9223372036854775807)∧(u v).bind K = some o:=by
 obtain ⟨v,h1,h2⟩:=Zc h
 exact ⟨v,appK_some h1,h2⟩
theorem bindC {lo hi : Int} {n : Nat} (h : ((Hd lo hi n).bind u).bind K = some o) : ∃ v,(0≤lo∧0≤hi∧lo.toNat≤hi.toNat∧hi.toNat≤n∧max lo 0≤hi)∧(u v).bind K = some o:=by
 obtain ⟨v,h1,h2⟩:=Zc h
 exact ⟨v,cutK_some2 h1,h2⟩
theorem Uu {g : Bool} {A : Option α} {d w : α} (h : (if g = true then A else some d) = some w) : (g = true∧A = some w)∨(g = false∧w = d):=by
 cases g
 ·exact .inr ⟨rfl,(Option.some.inj h).symm⟩
 ·exact .inl ⟨rfl,h⟩
theorem Ug {g : Bool} {A : Option α} {d w : α} (h : (if g = true then some d else A) = some w) : (g = false∧A = some w)∨(g = true∧w = d):=by
 cases g
 ·exact .inl ⟨rfl,h⟩
 ·exact .inr ⟨rfl,(Option.some.inj h).symm⟩
end
theorem Zz.go {P : Program} {f : FuncId} {fn : Func} {c : Code} {α β : Type} {g : α→Option β} {eA : α→List V} {eB : β→V} {rs : List ResultVar} (n : Nat) (hf : P.funcs[f]? = some fn) (hb : fn.body = some c) (hn : fn.ntmps = n) (hr : fn.results.toList = rs)
  (hx : (P.funcs[f]?).any (fun fn => fn.body.isSome && fn.name != "runtime.NumGoroutine") = true) (hk : ∀ a,(eA a).length.ble n = true)
  (h : ∀ a b,g a = some b→VW P c (VRet P rs (fun x => nl x (eB b))) { t:=tm n (en 0 (eA a)),m:=[] }) : Zz P f (tells g eA eB) :=
 Zz.of hx fun a b h1 => Qj.nl (Qj.of hf hb hn hr (by
  have:=h a b h1
  have h2:=Nat.le_of_ble_eq_true (hk a)
  rw [Wc,show (eA a).length + (n - (eA a).length) = n by omega]
  exact this))
end Go.VL

namespace Go.VL
open Go.RowKit
set_option linter.unusedSimpArgs false
set_option linter.unusedVariables false
section
variable {P : Program} {C : Uy} {Q : Exit→VS→Prop} {st : VS} {ops : Array Oper}
def vstepG (P : Program) (C : Uy) (ops : Array Oper) (st : VS) (o : Oper) : Option VS :=
 match Zj ops st.t o with
 | some true => vstep P C st o
 | some false => some { t:=Xe st.t o.dst und,m:=st.m,g:=st.g }
 | none => none
def vseqG (P : Program) (C : Uy) (ops : Array Oper) : List Oper→VS→Option VS
 | [],st => some st
 | o :: l,st => (vstepG P C ops st o).bind (vseqG P C ops l)
attribute [simp] vseqG vstepG Zj
end
end Go.VL

namespace Go.VL
open Go.RowKit Go.Shelf Go.Proofs
set_option linter.unusedSimpArgs false
set_option linter.unusedVariables false
variable {P : Program} {ρ : Ren}
def itoaB (n : Int) : ByteArray:=⟨(Lib.itoa n).toArray⟩
theorem Ss.strs {w : World} {O : Nat→Prop} {xs : List ByteArray} {b off : Nat} (h : Ss w O Wi b off (rows (fun x => [V.str x]) xs).flatten) : ∀ (j : Nat) x,xs[j]? = some x→w.cell? ⟨b,off + j,none⟩ = some (.string x):=by
 intro j x hx
 have : (rows (fun x => [V.str x]) xs).flatten[j]? = some (V.str x):=by
  have : (rows (fun x => [V.str x]) xs).flatten = xs.map V.str:=by
   clear h hx
   induction xs with
   | nil => rfl
   | cons y ys ih => simp [rows] at ih ⊢; exact ih
  rw [this]
  simp [hx]
 obtain ⟨u,h1,_,h3⟩:=h.get this
 cases h3
 exact h1
end Go.VL

namespace Go.VL
open Go.RowKit
set_option linter.unusedSimpArgs false
set_option linter.unusedVariables false
def sb (l : List UInt8) : ByteArray:=⟨l.toArray⟩
@[simp] theorem sb_size {l : List UInt8} : (sb l).size = l.length:=by simp [sb,ByteArray.size]
@[simp] theorem sb_data {l : List UInt8} : (sb l).data.toList = l:=by simp [sb]
theorem sb_self (s : ByteArray) : sb s.data.toList = s:=by cases s; simp [sb]
theorem itoaB_sb (n : Int) : itoaB n = sb (Lib.itoa n):=rfl
theorem dec_len : ∀ (k u : Nat),u < 10 ^ (k + 1)→(Lib.decDigits u).length≤k + 1
 | 0,u,h => by
  rw [Lib.decDigits,dif_pos (by simpa using h)]
  simp
 | k + 1,u,h => by
  rw [Lib.decDigits]
  split
  ·simp
  ·have:=dec_len k (u / 10) (by rw [Nat.div_lt_iff_lt_mul (by decide)]; rw [Nat.pow_succ] at h; exact h)
   simp
   omega
theorem itoa_nat {n : Int} (h : 0≤n) : Lib.itoa n = Lib.decDigits n.toNat:=by
 unfold Lib.itoa
 rw [if_neg (by omega)]
theorem itoa_len {n : Int} (h0 : 0≤n) (h1 : n < 10000) : (Lib.itoa n).length≤4:=by
 rw [itoa_nat h0]
 exact dec_len 3 _ (by omega)
end Go.VL

namespace Go.VL
variable {H : Type} {enc : TypeId × Value→H}
theorem handed_laid {os : Os} {C : Checked} {f : FuncId} {fn : Func} {s : ChangeSpec} {X : World→Array Value→Prop} {apart fresh handsOn again : Bool} {a : Assume}
  (hX : ∀ (w w' : World) (args : Array Value),w.heap = w'.heap→X w args→X w' args) (ho : ownKnob C.prog.godebug = none) (hs : os.Started) (hn : C.prog.inits.idxOf? f = none) (hf : C.prog.funcs[f]? = some fn)
  (wit : ∃ (w : World) (tape : Tape) (i : Input),w.os = os∧(w.forCall tape i).Shaped C.prog∧i.vars = []∧Input.okWide C.prog (w.forCall tape i) .any w.heap.size f i ∧
   ((s.pre enc C.prog fn [] apart (w.forCall tape i).memory i.args∧X (w.forCall tape i).memory i.args)∧sizedMet enc C.prog fn (OpenSpec.ofChange s) apart (w.forCall tape i).memory i.args)∧a.holds C.prog (lone (Frame.enter C.prog f i.args .normal) [] (w.forCall tape i)))
  (con : ∀ (W : World) (base : Nat) (args : Array Value) (ds gs : List (DataW H)) (before : List MemPlace),X W args→W.ShapedOpen C.prog →
   (∀ (j : Nat) t v,fn.params[j]? = some t→args[j]? = some v→Value.okWide C.prog W .any base t v)→DataW.Whole enc C.prog fn.params.toList s.vars apart W args.toList ds gs before →
   Calls C.prog f args W fun e W' => ∃ v,e = .returned v∧s.post enc C.prog fn apart fresh handsOn again W args v W') :
  ReturnsInHanded a C os f .any (fun w args => (s.pre enc C.prog fn [] apart w args∧X w args)∧sizedMet enc C.prog fn (OpenSpec.ofChange s) apart w args) (s.post enc C.prog fn apart fresh handsOn again) :=
 returnsInHanded_of_calls ho hs hn wit fun w tape i _ shape _ ok pre _ => by
  obtain ⟨_,_,_,fn',h1,_,_,_,_,hv⟩:=ok
  cases h1.symm.trans hf
  obtain ⟨⟨⟨ds,gs,before,hw,_⟩,hx⟩,_⟩:=pre
  refine (con (w.forCall tape i) w.heap.size i.args ds gs before (hX _ (w.forCall tape i) _ (by rfl) hx) shape hv (DataW.Whole.of_heap (w':=w.forCall tape i) (by rfl) hw)).mono fun e W' ⟨v,he,hp⟩ => ?_
  subst he
  exact ChangeSpec.post_blind hp
theorem int_var {P : Program} {w : World} {n : String} {g0 t : Nat} {z : Int} (h : w.ShapedOpen P) (hn : P.globalNamed n = some g0) (hg : (g0 + 1).ble P.globals.size = true) (h0 : ((begin P (fun _ _ => 0) default).world.heap[g0]?).bind Obj.row? = some (#[.int .i64 z],t))
  (hb : P.buildable t = true) (hc : P.cellTypes P.depth t = some [t]) (hu : P.underlying t = some (.int .i64)) : ∀ g,P.globalNamed n = some g→∃ m,w.cell? ⟨g,0,none⟩ = some (.int .i64 m):=fun g hg' => by
 obtain rfl:=Option.some.inj (hg'.symm.trans hn)
 exact Go.Proofs.cell_of_shapedOpen_int h (Nat.le_of_ble_eq_true hg) h0 rfl hb hc hu
end Go.VL

namespace Go.VL
open Go.RowKit Go.Shelf Go.Proofs
set_option linter.unusedSimpArgs false
set_option linter.unusedVariables false
variable {P : Program} {ρ : Ren}
def Ju (e : Bool) : V:=if e = true then .err else .s .nilIface
section
variable {e : Bool} {b k : Nat} {m : VM} {a : V}
@[simp high] theorem errV_plain : Yn (Ju e) = true:=by cases e <;> rfl
@[simp high] theorem errV_snap : Up (Ju e) = true:=by cases e <;> rfl
@[simp high] theorem errV_un1 : un1 (Ju e) = Ju e:=by cases e <;> rfl
@[simp high] theorem errV_unT : unT (Ju e) = Ju e:=by cases e <;> rfl
@[simp high] theorem errV_pown : Kd (Ju e) = true:=by cases e <;> rfl
@[simp high] theorem errV_noB : Wo b (Ju e) = true:=by cases e <;> rfl
@[simp high] theorem errV_bnd : Zs k (Ju e) = true:=by cases e <;> rfl
@[simp high] theorem errV_bndT : Zx k (Ju e) = true:=by cases e <;> rfl
@[simp] theorem errV_le1 : Hp a (Ju e) = (a = Ju e):=by
 cases e <;> simp only [Ju,if_true,Bool.false_eq_true,if_false] <;> unfold Hp <;> split <;> simp_all
@[simp ↓ high] theorem errV_vex1a : vex1a k (Ju e) = (Ju e,[]):=by cases e <;> rfl
@[simp ↓ high] theorem errV_vex1 : vex1 k (Ju e) = (Ju e,[]):=by cases e <;> rfl
@[simp ↓ high] theorem errV_frz : frz (Ju e) = Ju e:=by cases e <;> rfl
@[simp] theorem errV_neq {t : TypeId} {x : Operand} {c : Value} (h : ifaceB P t = true) : vbinP P t .neq x (.const c) (Ju e) (.s .nilIface) = some (.b e):=by
 cases e
 ·show vnil P t .neq true = _
  rw [vnil_neq h]; rfl
 ·show vnil P t .neq false = _
  rw [vnil_neq h]; rfl
@[simp] theorem errV_eql {t : TypeId} {x : Operand} {c : Value} (h : ifaceB P t = true) : vbinP P t .eql x (.const c) (Ju e) (.s .nilIface) = some (.b (!e)):=by
 cases e
 ·show vnil P t .eql true = _
  rw [vnil_eql h]; rfl
 ·show vnil P t .eql false = _
  rw [vnil_eql h]; rfl
end
@[simp] theorem vfin1_pre {α : Type} {c : α→List V} [Pln c] {m : VM} {b n k : Nat} {xs : List α} (h : m[b]? = some (some (n,rows c xs))) (hk : k≤xs.length) : vfin1 m (.ref b 0 k) = some (.own n (rows c (xs.take k)),[b]):=by
 unfold vfin1
 simp only [h]
 split
 ·rename_i hc
  have : xs.length = k:=by simpa using hc.2.1
  subst this
  rw [List.take_length]
 ·rw [if_pos ⟨by simpa using hk,by simp⟩]
  simp
@[simp] theorem if_take' {α : Type} {c : α→List V} {xs : List α} {k n : Nat} {l : List Nat} : (if xs.length = k then some (V.own n (rows c xs),l) else some (V.own n (rows c (xs.take k)),l)) = some (V.own n (rows c (xs.take k)),l):=by
 split
 ·rename_i h; subst h; rw [List.take_length]
 ·rfl
def splitOf (s sep : ByteArray) : List ByteArray:=Lib.splitB sep 0 (Lib.countB s sep) s
def splitO (s sep : ByteArray) : Option (List ByteArray):=if s.size < 4294967281∧1≤sep.size then some (splitOf s sep) else none
theorem Rs.strs {w : World} {c : Array Value} : ∀ {xs : List ByteArray} {off : Nat},(∀ (j : Nat) x,xs[j]? = some x→c[off + j]? = some (.string x))→Rs w c off (rows (fun x => [V.str x]) xs).flatten []
 | [],_,_ => .nil
 | x :: xs,off,h => by
  have h0:=h 0 x rfl
  have : Rs w c (off + 1) (rows (fun x => [V.str x]) xs).flatten []:=Rs.strs fun j y hy => by
   have:=h (j + 1) y (by simpa using hy)
   rw [← this]
   congr 1
   omega
  have hv : RV w (.str x) (.string x) []:=.pl rfl .str
  exact Rs.cons (by simpa using h0) rfl hv this
theorem split_calls (L : Lays.n146 P ρ) (hi9 : (P.info? (ρ.t 9)).map (fun i => (i.zero,i.size,i.bytes)) = some (some (.string ByteArray.empty),1,16)) (hg : P.globalNamed "internal/bytealg.MaxLen" = some (ρ.g 1)) {s sep : ByteArray} {r : List ByteArray} (h : splitO s sep = some r) :
  Qj P (ρ.f 146) [.str s,.str sep] (fun x => x = .own 1 (rows (fun x => [.str x]) r)):=by
 unfold splitO at h
 split at h
 ·rename_i hc
  cases h
  intro w us hgl hs
  obtain ⟨u,u',rfl,s1,s2⟩:=hs.two
  cases s1
  cases s2
  obtain ⟨m,hm⟩:=hgl.2.2.2 _ hg
  refine (Any.strings_Split L hi9 s sep m w hc.1 hm hc.2).mono fun e w' ⟨he,hw⟩ => ?_
  subst hw
  have hlen : (splitOf s sep).length = Lib.countB s sep + 1:=Lib.splitB_all sep hc.2 0 _ s rfl
  refine ⟨_,_,[w.heap.size],he,rfl,?_,by simp,by simp,(Below.refl _ _).alloc (Nat.le_refl _) _⟩
  refine RV.own (n:=1) (es:=rows (fun x => [V.str x]) (splitOf s sep)) (c:=((splitOf s sep).map Value.string).toArray) (e:=ρ.t 9) (F:=[]) (fun x hx => ?_) (by simpa using hlen) (Nat.le_refl _) ?_ (by simp [hlen]) (Rs.strs fun j x hx => ?_)
  ·obtain ⟨y,_,rfl⟩:=List.mem_map.1 hx
   rfl
  ·show (w.heap.push _)[w.heap.size]? = _
   simp [splitOf]
  ·simpa using hx
 ·cases h
end Go.VL

namespace Go.VL
open Go.RowKit
set_option linter.unusedSimpArgs false
set_option linter.unusedVariables false
def Qw (c : UInt8) : List UInt8→List (List UInt8)
 | [] => [[]]
 | b :: l => if b = c then [] :: Qw c l else match Qw c l with
  | [] => [[b]]
  | p :: ps => (b :: p) :: ps
theorem Ga {c : UInt8} : ∀ {s : List UInt8},c ∉ s→Qw c s = [s]
 | [],_ => rfl
 | b :: l,h => by
  have h1 : c ≠ b:=fun e => h (by simp [e])
  have h2 : c ∉ l:=fun e => h (by simp [e])
  rw [Qw,if_neg (Ne.symm h1),Ga h2]
theorem cut_at {c : UInt8} {q : List UInt8} : ∀ {p : List UInt8},c ∉ p→Qw c (p ++ c :: q) = p :: Qw c q
 | [],_ => by simp [Qw]
 | b :: l,h => by
  have h1 : c ≠ b:=fun e => h (by simp [e])
  have h2 : c ∉ l:=fun e => h (by simp [e])
  rw [List.cons_append,Qw,if_neg (Ne.symm h1),cut_at h2]
theorem cut_ne {c : UInt8} (s : List UInt8) : Qw c s ≠ []:=by
 cases s with
 | nil => simp [Qw]
 | cons b l =>
  rw [Qw]
  split
  ·simp
  ·split <;> simp
theorem first_at (c : UInt8) : ∀ s : List UInt8,c ∉ s∨∃ p q,s = p ++ c :: q∧c ∉ p
 | [] => .inl (by simp)
 | b :: l => by
  by_cases hb : b = c
  ·subst hb; exact .inr ⟨[],l,rfl,by simp⟩
  ·rcases first_at c l with h | ⟨p,q,h1,h2⟩
   ·exact .inl (by simp [h,Ne.symm hb])
   ·exact .inr ⟨b :: p,q,by simp [h1],by simp [h2,Ne.symm hb]⟩
theorem cut_join {c : UInt8} : ∀ (n : Nat) (s : List UInt8),s.length≤n→Lib.join (Qw c s) [c] = s∧∀ p ∈ Qw c s,c ∉ p:=by
 intro n
 induction n with
 | zero =>
  intro s h
  have : s = []:=List.length_eq_zero_iff.1 (by omega)
  subst this
  simp [Qw,Lib.join]
 | succ n ih =>
  intro s h
  rcases first_at c s with hs | ⟨p,q,rfl,hp⟩
  ·rw [Ga hs]
   simp [Lib.join,List.intercalate,hs]
  ·obtain ⟨i1,i2⟩:=ih q (by simp at h; omega)
   rw [cut_at hp]
   refine ⟨?_,fun x hx => ?_⟩
   ·cases hc : Qw c q with
    | nil => exact absurd hc (cut_ne q)
    | cons a b =>
     rw [hc] at i1
     have e : Lib.join (p :: a :: b) [c] = p ++ [c] ++ Lib.join (a :: b) [c]:=by simp [Lib.join,List.intercalate]
     rw [e,i1]
     simp
   ·rcases List.mem_cons.1 hx with rfl | hx
    ·exact hp
    ·exact i2 x hx
theorem index_of_first {c : UInt8} : ∀ {p q : List UInt8},c ∉ p→Lib.indexByte (p ++ c :: q) c = p.length
 | [],q,_ => by simp [Lib.indexByte]
 | b :: l,q,h => by
  have h1 : b ≠ c:=fun e => h (by simp [e])
  have h2 : c ∉ l:=fun e => h (by simp [e])
  have ih:=index_of_first (q:=q) h2
  rw [List.cons_append,Lib.indexByte,ih]
  have hb : (b == c) = false:=by simpa using h1
  simp [hb]
theorem index_of_none {c : UInt8} : ∀ {p : List UInt8},c ∉ p→Lib.indexByte p c = -1
 | [],_ => rfl
 | b :: l,h => by
  have h1 : b ≠ c:=fun e => h (by simp [e])
  have h2 : c ∉ l:=fun e => h (by simp [e])
  have hb : (b == c) = false:=by simpa using h1
  rw [Lib.indexByte,index_of_none h2]
  simp [hb]
theorem splitK_cut {c : UInt8} : ∀ (n : Nat) (s : List UInt8),s.length≤n→Lib.splitK [c] 0 (Lib.count s [c]) s = Qw c s:=by
 intro n
 induction n with
 | zero =>
  intro s h
  have : s = []:=List.length_eq_zero_iff.1 (by omega)
  subst this
  rw [Lib.count_miss (by rw [Lib.index_one]; rfl)]
  rfl
 | succ n ih =>
  intro s h
  rcases first_at c s with hs | ⟨p,q,rfl,hp⟩
  ·rw [Ga hs,Lib.count_miss (by rw [Lib.index_one,index_of_none hs])]
   rfl
  ·have hi : Lib.index (p ++ c :: q) [c] = p.length:=by rw [Lib.index_one,index_of_first hp]
   rw [cut_at hp,Lib.count_hit (by simp) hi,show (p ++ c :: q).drop (p.length + [c].length) = q by simp,Nat.add_comm 1,Lib.splitK,hi]
   rw [if_neg (by first | (simp; done) | (simp; omega))]
   have i1:=ih q (by simp at h; omega)
   simp
   exact i1
theorem split_cut {s : List UInt8} {c : UInt8} : splitOf (sb s) (sb [c]) = (Qw c s).map sb:=by
 have h:=Lib.splitB_data (sb [c]) 0 (Lib.countB (sb s) (sb [c])) (sb s)
 have h2 : Lib.countB (sb s) (sb [c]) = Lib.count s [c]:=by simp [Lib.countB]
 simp only [sb_data] at h
 rw [h2,splitK_cut _ s (Nat.le_refl _)] at h
 unfold splitOf
 rw [h2]
 have : ∀ xs : List ByteArray,(xs.map (·.data.toList)).map sb = xs:=fun xs => by
  rw [List.map_map]
  have e : (sb ∘ (·.data.toList) : ByteArray→ByteArray) = id:=by funext x; exact sb_self x
  rw [e,List.map_id]
 rw [← h,this]
theorem splitO_cut {s : List UInt8} {c : UInt8} (h : s.length < 4294967281) : splitO (sb s) (sb [c]) = some ((Qw c s).map sb):=by
 unfold splitO
 rw [if_pos ⟨by simpa using h,by simp⟩,split_cut]
theorem ext_sb {s : List UInt8} {a b : Nat} : (sb s).extract a b = sb ((s.drop a).take (b - a)):=by
 apply ByteArray.ext
 apply Array.ext'
 simp [sb]
theorem Ja {s : List UInt8} {i : Nat} (h : i < s.length) : Wg (sb s) (i : Int) = some (s[i].toNat : Int):=by
 unfold Wg
 rw [if_pos (by omega),sb_data,Int.toNat_natCast,List.getElem?_eq_getElem h]
 rfl
theorem u8_eq {a b : UInt8} : Yx (a.toNat : Int) (b.toNat : Int) = decide (a = b):=by
 unfold Yx
 by_cases h : a = b
 ·subst h; simp
 ·have : (a.toNat : Int) ≠ (b.toNat : Int):=fun e => h (UInt8.toNat_inj.1 (by omega))
  simp [h,this]
theorem Kw {a b : List UInt8} : Jb (sb a) (sb b) = decide (a = b):=by
 unfold Jb
 simp only [sb_data]
 by_cases h : a = b
 ·subst h; simp
 ·simp [h]
def Zh (c : UInt8) : Bool:=48≤c.toNat && c.toNat≤57
def Kn (acc : Nat) : List UInt8→Nat
 | [] => acc
 | c :: l => Kn (acc * 10 + (c.toNat - 48)) l
theorem valL_append (a b : List UInt8) : ∀ acc,Kn acc (a ++ b) = Kn (Kn acc a) b:=by
 induction a with
 | nil => intro acc; rfl
 | cons c l ih => intro acc; exact ih _
theorem dig_dec : ∀ (n u : Nat),u≤n→(Lib.decDigits u).all Zh = true∧Kn 0 (Lib.decDigits u) = u∧1≤(Lib.decDigits u).length:=by
 have d : ∀ k,k < 10→Zh (UInt8.ofNat (48 + k)) = true∧(UInt8.ofNat (48 + k)).toNat - 48 = k:=by decide
 intro n
 induction n with
 | zero =>
  intro u h
  obtain ⟨d1,d2⟩:=d u (by omega)
  rw [Lib.decDigits,dif_pos (by omega)]
  refine ⟨by rw [List.all_cons,d1]; rfl,?_,by simp⟩
  show 0 * 10 + ((UInt8.ofNat (48 + u)).toNat - 48) = u
  omega
 | succ n ih =>
  intro u h
  rw [Lib.decDigits]
  split
  ·obtain ⟨d1,d2⟩:=d u (by omega)
   refine ⟨by rw [List.all_cons,d1]; rfl,?_,by simp⟩
   show 0 * 10 + ((UInt8.ofNat (48 + u)).toNat - 48) = u
   omega
  ·obtain ⟨i1,i2,i3⟩:=ih (u / 10) (by omega)
   obtain ⟨d1,d2⟩:=d (u % 10) (by omega)
   refine ⟨by rw [List.all_append,i1,List.all_cons,d1]; rfl,?_,by simp⟩
   rw [valL_append,i2]
   show u / 10 * 10 + ((UInt8.ofNat (48 + u % 10)).toNat - 48) = u
   omega
def Kr (s : List UInt8) : Bool:=s.all Zh && 1≤s.length && !(s.head? == some 48 && 1 < s.length)
theorem valL_lt (l : List UInt8) : ∀ (acc : Nat),l.all Zh = true→Kn acc l < (acc + 1) * 10 ^ l.length:=by
 induction l with
 | nil =>
  intro acc _
  have e : (acc + 1) * 10 ^ ([] : List UInt8).length = acc + 1:=Nat.mul_one _
  rw [e]
  exact Nat.lt_succ_self acc
 | cons c l ihl =>
  intro acc h
  simp only [List.all_cons,Bool.and_eq_true,Zh,decide_eq_true_eq] at h
  have ih:=ihl (acc * 10 + (c.toNat - 48)) h.2
  have hm : (acc * 10 + (c.toNat - 48) + 1) * 10 ^ l.length≤((acc + 1) * 10) * 10 ^ l.length:=Nat.mul_le_mul_right _ (by omega)
  have e : (acc + 1) * 10 ^ (c :: l).length = ((acc + 1) * 10) * 10 ^ l.length:=by
   rw [List.length_cons,Nat.pow_succ,Nat.mul_comm (10 ^ l.length) 10,Nat.mul_assoc]
  rw [e]
  exact Nat.lt_of_lt_of_le ih hm
theorem num_dec : ∀ (n : Nat) (s : List UInt8),s.length≤n→Kr s = true→Lib.decDigits (Kn 0 s) = s:=by
 intro n
 induction n with
 | zero =>
  intro s h hs
  simp only [Kr,Bool.and_eq_true,decide_eq_true_eq] at hs
  omega
 | succ n ih =>
  intro s h hs
  simp only [Kr,Bool.and_eq_true,decide_eq_true_eq,Bool.not_eq_true'] at hs
  obtain ⟨⟨h1,h2⟩,h3⟩:=hs
  rcases List.eq_nil_or_concat s with rfl | ⟨t,d,rfl⟩
  ·simp at h2
  ·rw [List.concat_eq_append] at *
   simp only [List.all_append,List.all_cons,List.all_nil,Bool.and_true,Bool.and_eq_true] at h1
   obtain ⟨ht,hd⟩:=h1
   have hd' : 48≤d.toNat∧d.toNat≤57:=by simpa [Zh] using hd
   have back : UInt8.ofNat (48 + (d.toNat - 48)) = d:=by
    rw [show 48 + (d.toNat - 48) = d.toNat by omega]
    simp
   cases t with
   | nil =>
    show Lib.decDigits (0 * 10 + (d.toNat - 48)) = [d]
    rw [Lib.decDigits,dif_pos (by omega),show 48 + (0 * 10 + (d.toNat - 48)) = 48 + (d.toNat - 48) by omega,back]
   | cons a t =>
    have hn : Kr (a :: t) = true:=by
     simp only [Kr,Bool.and_eq_true,decide_eq_true_eq,Bool.not_eq_true']
     refine ⟨⟨ht,by simp⟩,?_⟩
     simp at h3 ⊢
     intro e
     exact absurd e h3
    have i1:=ih (a :: t) (by simp at h ⊢; omega) hn
    have hpos : 1≤Kn 0 (a :: t):=by
     have ha : 48≤a.toNat∧a.toNat≤57:=by
      simp only [List.all_cons,Bool.and_eq_true] at ht
      simpa [Zh] using ht.1
     have hne : a.toNat ≠ 48:=fun e => by
      have : a = 48:=UInt8.toNat_inj.1 (by rw [e]; rfl)
      simp [this] at h3
     have ge : ∀ (l : List UInt8) (x : Nat),x≤Kn x l:=fun l => by
      induction l with
      | nil => intro x; exact Nat.le_refl _
      | cons d l ih => intro x; exact Nat.le_trans (by omega) (ih _)
     have:=ge t (0 * 10 + (a.toNat - 48))
     show 1≤Kn (0 * 10 + (a.toNat - 48)) t
     omega
    rw [valL_append]
    show Lib.decDigits (Kn 0 (a :: t) * 10 + (d.toNat - 48)) = _
    rw [Lib.decDigits,dif_neg (by omega),show (Kn 0 (a :: t) * 10 + (d.toNat - 48)) / 10 = Kn 0 (a :: t) by omega,show (Kn 0 (a :: t) * 10 + (d.toNat - 48)) % 10 = d.toNat - 48 by omega,i1,back]
theorem num_itoa {s : List UInt8} (h : Kr s = true) : Lib.itoa (Kn 0 s : Nat) = s:=by
 rw [itoa_nat (by omega),Int.toNat_natCast,num_dec _ s (Nat.le_refl _) h]
theorem itoa_num {n : Int} (h0 : 0≤n) : Kr (Lib.itoa n) = true∧(Kn 0 (Lib.itoa n) : Int) = n:=by
 obtain ⟨k,rfl⟩:=Int.eq_ofNat_of_zero_le h0
 rw [itoa_nat h0,Int.toNat_natCast]
 obtain ⟨a1,a2,a3⟩:=dig_dec k k (Nat.le_refl _)
 refine ⟨?_,by omega⟩
 simp only [Kr,Bool.and_eq_true,decide_eq_true_eq,Bool.not_eq_true']
 refine ⟨⟨a1,a3⟩,?_⟩
 have key : ∀ (n u : Nat),u≤n→1 < (Lib.decDigits u).length→(Lib.decDigits u).head? ≠ some 48:=by
  have d : ∀ k,k < 10→1≤k→UInt8.ofNat (48 + k) ≠ 48:=by decide
  intro n
  induction n with
  | zero => intro u h hl; rw [Lib.decDigits,dif_pos (by omega)] at hl; simp at hl
  | succ n ih =>
   intro u h hl
   rw [Lib.decDigits] at hl ⊢
   split at hl
   ·simp at hl
   ·rename_i hu
    rw [dif_neg hu]
    by_cases h10 : u / 10 < 10
    ·rw [Lib.decDigits,dif_pos h10]
     simp only [List.cons_append,List.nil_append,List.head?_cons,ne_eq,Option.some.injEq]
     exact d _ h10 (by omega)
    ·have h1 : 1 < (Lib.decDigits (u / 10)).length:=by
      rw [Lib.decDigits,dif_neg h10]
      have:=(dig_dec (u / 10 / 10) (u / 10 / 10) (Nat.le_refl _)).2.2
      simp
      omega
     have:=ih (u / 10) (by omega) h1
     cases hd : Lib.decDigits (u / 10) with
     | nil => rw [hd] at h1; simp at h1
     | cons a b => rw [hd] at this; simpa using this
 by_cases hl : 1 < (Lib.decDigits k).length
 ·have:=key k k (Nat.le_refl _) hl
  simp [this,hl]
 ·simp [hl]
end Go.VL

namespace Go.VL
open Go.RowKit
set_option linter.unusedSimpArgs false
set_option linter.unusedVariables false
def Xr (P : Program) (f : FuncId) {α β : Type} (g : α→Option β) (eT : α→List V) (eX : α→VM) (eR : β→V) (eY : α→β→VM) (cl : V→V) (nb : Nat) : Prop :=
 ∃ fn c,P.funcs[f]? = some fn∧(fn.name != "runtime.NumGoroutine") = true∧fn.body = some c∧∀ a r,g a = some r→∀ gg : List V,gg.map cl = gg→gg.all (Zx nb) = true →
  VW P c (VInE P fn.results.toList (eR r) (eY a r) gg) { t:=eT a ++ List.replicate (fn.ntmps - (eT a).length) .any,m:=eX a,g:=gg }
section
variable {P : Program} {C : Uy} {f : FuncId} {α β : Type} {g : α→Option β} {eT : α→List V} {eX : α→VM} {eR : β→V} {eY : α→β→VM} {cl : V→V} {nb : Nat}
def VInX (P : Program) (rs : List ResultVar) (r : V) (m' : VM) (g' : List V) : Exit→VS→Prop
 | .normal,s | .ret,s => ∃ s',Qg s s'∧Qk P rs s' = some r∧s'.m = m'∧s'.g = g'
 | _,_ => False
theorem VInX.fin {rs : List ResultVar} {r : V} {m' : VM} {g' : List V} {s s' : VS} (he : Qg s s') (h1 : Qk P rs s' = some r) (h2 : s'.m = m') (h3 : s'.g = g') : ∃ s',Qg s s'∧Qk P rs s' = some r∧s'.m = m'∧s'.g = g':=⟨s',he,h1,h2,h3⟩
theorem Xr.of {fn : Func} {c : Code} {rs : List ResultVar} {k : Nat} (hf : P.funcs[f]? = some fn) (hname : (fn.name != "runtime.NumGoroutine") = true) (hb : fn.body = some c) (hk : fn.ntmps = k) (hr : fn.results.toList = rs)
  (h : ∀ a r,g a = some r→∀ gg : List V,gg.map cl = gg→gg.all (Zx nb) = true→VW P c (VInX P rs (eR r) (eY a r) gg) { t:=eT a ++ List.replicate (k - (eT a).length) .any,m:=eX a,g:=gg }) : Xr P f g eT eX eR eY cl nb:=by
 subst hk hr
 refine ⟨fn,c,hf,hname,hb,fun a r hg gg h1 h2 => Ws ((h a r hg gg h1 h2).mono fun e s hq => ?_)⟩
 cases e with
 | normal => obtain ⟨s',k1,k2⟩:=hq; exact ⟨s',k1,k2⟩
 | ret => obtain ⟨s',k1,k2⟩:=hq; exact ⟨s',k1,k2⟩
 | exit id => exact hq.elim
 | goto l => exact hq.elim
 | panic c => exact hq.elim
 | outgrown => exact hq.elim
variable {ops : Array Oper} {Q : Exit→VS→Prop} {st : VS} {o : Oper} {l : List Oper}
theorem VL.unguard (hw : Zj ops st.t o = some true) (h : VL P ops Q ({ o with guard:=none } :: l) st) : VL P ops Q (o :: l) st:=by
 intro N w0 a w φ hs
 have h1:=h N w0 a w φ hs
 have hw2 : Zj ops st.t { o with guard:=none } = some true:=by unfold Zj; rfl
 unfold wpList at h1 ⊢
 rw [Xa hw hs,if_pos rfl]
 rw [Xa hw2 hs,if_pos rfl] at h1
 exact h1
theorem Zp {args : Array Operand} {ats : Array TypeId} (hT : Xr P f g eT eX eR eY cl nb) (a : α) (r : β) (hg : g a = some r) (hw : Zj ops st.t o = some true)
  (ho : o.op = .call { callee:=.value (.func f),args:=args,argTypes:=ats }) (ha : args.toList.map (ev st.t) = eT a) (hm : st.m = eX a) (hcl : (st.t ++ st.g).map cl = st.t ++ st.g) (hbd : (st.t ++ st.g).all (Zx nb) = true)
  (h : VL P ops Q l { t:=Xe st.t o.dst (eR r),m:=eY a r,g:=st.g }) : VL P ops Q (o :: l) st:=by
 obtain ⟨fn,c,h1,h2,h3,h4⟩:=hT
 refine VL.unguard hw ?_
 have hsz : args.size = (eT a).length:=by
  have:=congrArg List.length ha
  simpa using this
 have h5:=h4 a r hg (st.t ++ st.g) hcl hbd
 refine VL.inl (o:={ o with guard:=none }) rfl ho h1 h2 h3 ?_
 rw [ha,hsz,hm]
 refine h5.mono fun e s hq => ?_
 have key : Qk P fn.results.toList s = some (eR r)∧s.m = eY a r∧s.g = st.t ++ st.g→∃ v,Qk P fn.results.toList s = some v∧VL P ops Q l { t:=Xe (s.g.take st.t.length) o.dst v,m:=s.m,g:=s.g.drop st.t.length }:=fun ⟨k1,k2,k3⟩ => by
  refine ⟨_,k1,?_⟩
  rw [k2,k3,List.take_left,List.drop_left]
  exact h
 cases e with
 | normal => exact key hq
 | ret => exact key hq
 | exit id => exact hq.elim
 | goto l => exact hq.elim
 | panic c => exact hq.elim
 | outgrown => exact hq.elim
theorem Zu {l : List Oper} (i : Nat) (t1 : List V) (m1 : VM) (g1 : List V) (hC : C.Ok P) (hgp : Xm ops ((l.take i).length + 3) none (l.take i) = true) (hpre : toSt (Wj P C ops ((l.take i).length + 3) none (l.take i) st) t1 m1 g1)
  (h : VL P ops (fun e s => ∃ s',Qg s s'∧Q e s') (l.drop i) { t:=t1,m:=m1,g:=g1 }) : VL P ops (fun e s => ∃ s',Qg s s'∧Q e s') l st:=by
 obtain ⟨t,h1,h2⟩:=hpre.get
 have hpost : VL P ops (fun e s => ∃ s',Qg s s'∧Q e s') (l.drop i) { t:=t,m:=m1,g:=g1 }:=VL.ent (Qx h2) h
 have:=(Ue _ _ _ _ _ h1 hgp (fun _ _ h => by cases h)).vl (Q:=fun e s => ∃ s',Qg s s'∧Q e s') (rest:=l.drop i) hC hpost
 rwa [List.take_append_drop] at this
theorem ifB {γ δ : Type} {b : Bool} {A B : Option γ} {K : γ→Option δ} {o : δ} (h : (if b = true then A else B).bind K = some o) : (b = true∧A.bind K = some o)∨(b = false∧B.bind K = some o):=by
 cases b
 ·exact .inr ⟨rfl,h⟩
 ·exact .inl ⟨rfl,h⟩
theorem bndV_le {n k : Nat} (h : n≤k) {v : V} (hv : Zs n v = true) : Zs k v = true:=by
 unfold Zs at *
 split at hv <;> first | (simp only [decide_eq_true_eq] at *; omega) | exact hv
theorem bndT_le {n k : Nat} (h : n≤k) {v : V} (hv : Zx n v = true) : Zx k v = true:=by
 unfold Zx at *
 split at hv
 ·rw [List.all_eq_true] at *
  exact fun x hx => bndV_le h (hv x hx)
 ·rw [List.all_eq_true] at *
  exact fun x hx => bndV_le h (hv x hx)
 ·exact bndV_le h hv
theorem Yy {n k : Nat} {gg : List V} (hg : gg.all (Zx n) = true) (h : n≤k) : gg.all (Zx k) = true:=by
 rw [List.all_eq_true] at *
 exact fun x hx => bndT_le h (hg x hx)
end
end Go.VL

namespace Go.VL
open Go.RowKit
set_option linter.unusedSimpArgs false
set_option linter.unusedVariables false
section
variable {P : Program} {ops : Array Oper} {tr : List Jw} {t0 : List V} {M : VM}
theorem draw_sound2 (p : Nat) {Q : Exit→VS→Prop} {g0 : List V} {N : Fr} {w0 : World × List Value} {k0 : Nat} (hlex : Uz ops.toList = true) (hlen : ops.size = tr.length)
  (hrows : ∀ (j : Nat) (o : Oper) (r : Jw),p≤j→ops[j]? = some o→tr[j]? = some r→RowOk P ops M tr t0 j o r) (hk0 : ∀ (j : Nat) (r : Jw),tr[j]? = some r→k0≤r.2.1) (hdis : ∀ (i j : Nat) (r s : Jw),i < j→tr[i]? = some r→tr[j]? = some s→r.2.1 + r.2.2≤s.2.1)
  (hQ : Q .normal { t:=TL ops tr t0 (fun _ => true) ops.size,m:=M,g:=g0 }) :
  ∀ (fuel : Nat) (listed : Array Bool) (L : Nat→Bool),(∀ j,j < p→L j = true)→listed.size = ops.size→(∀ j,j < ops.size→listed.getD j true = L j)→(List.range ops.size).countP (fun j => !L j) = fuel →
   (∀ j oj,L j = true→ops[j]? = some oj→∀ e ∈ oj.after,Region.binds .any e = true→L e.on = true) →
   ∀ (a : Act) (w : World) (φ : Pl),SR P N w0 { t:=TL ops tr t0 L ops.size,m:=M,g:=g0 } a w φ→Dom tr k0 L φ →
    wpAny P .any ops (fun e a' w' => ∃ st' φ',Q e st'∧SR P N w0 st' a' w' φ') fuel listed a w:=by
 have spec:=Je hlex
 have allL : ∀ (listed : Array Bool) (L : Nat→Bool),listed.size = ops.size→(∀ j,j < ops.size→listed.getD j true = L j)→Region.ready .any ops listed = []→∀ j,j < ops.size→L j = true:=by
  intro listed L hsz hL hr j
  induction j using Nat.strongRecOn with
  | ind j ih =>
   intro hj
   cases hLj : L j with
   | true => rfl
   | false =>
    exfalso
    obtain ⟨oj,hoj⟩ : ∃ oj,ops[j]? = some oj:=⟨ops[j],by simp [hj]⟩
    have : j ∈ Region.ready .any ops listed:=mem_ready.2 ⟨(hL j hj).trans hLj,oj,hoj,fun e he hb => by
     have hlt:=(spec j oj hoj).1 e he hb
     have h1:=ih e.on hlt (by omega)
     rw [← hL e.on (by omega)] at h1
     have : e.on < listed.size:=by omega
     simpa [this] using h1⟩
    rw [hr] at this
    cases this
 have finish : ∀ (listed : Array Bool) (L : Nat→Bool),listed.size = ops.size→(∀ j,j < ops.size→listed.getD j true = L j)→Region.ready .any ops listed = []→TL ops tr t0 L ops.size = TL ops tr t0 (fun _ => true) ops.size:=by
  intro listed L hsz hL hr
  have h:=allL listed L hsz hL hr
  have : ∀ n,n≤ops.size→TL ops tr t0 L n = TL ops tr t0 (fun _ => true) n:=by
   intro n
   induction n with
   | zero => intro _; rfl
   | succ n ih => intro hle; simp only [TL,ih (by omega),h n (by omega)]
  exact this _ (Nat.le_refl _)
 intro fuel
 induction fuel with
 | zero =>
  intro listed L hpL hsz hL hc hW a w φ hs hd
  have hr : Region.ready .any ops listed = []:=by
   cases h : Region.ready .any ops listed with
   | nil => rfl
   | cons i rest =>
    exfalso
    have hi : i ∈ Region.ready .any ops listed:=by rw [h]; simp
    obtain ⟨b1,o,b2,b3⟩:=mem_ready.1 hi
    have hlt:=(Array.getElem?_eq_some_iff.1 b2).1
    have:=List.countP_eq_zero.1 hc i (List.mem_range.2 hlt)
    rw [hL i hlt] at b1
    simp [b1] at this
  refine ⟨hr,_,φ,hQ,?_⟩
  rw [finish listed L hsz hL hr] at hs
  exact hs
 | succ fuel ih =>
  intro listed L hpL hsz hL hc hW a w φ hs hd
  refine ⟨fun hr => ⟨_,φ,hQ,by rw [finish listed L hsz hL hr] at hs; exact hs⟩,fun i hi => ?_⟩
  obtain ⟨b1,o,hoi,b3⟩:=mem_ready.1 hi
  have hlt:=(Array.getElem?_eq_some_iff.1 hoi).1
  have hLi : L i = false:=by rw [← hL i hlt]; exact b1
  obtain ⟨r,hri⟩ : ∃ r,tr[i]? = some r:=⟨tr[i]'(by omega),by simp [show i < tr.length by omega]⟩
  have hready : ∀ e ∈ o.after,Region.binds .any e = true→L e.on = true:=fun e he hb => by
   have h1:=b3 e he hb
   have hlt' : e.on < ops.size:=Nat.lt_trans ((spec i o hoi).1 e he hb) hlt
   have h2:=hL e.on hlt'
   have : e.on < listed.size:=by omega
   simp [this] at h1 h2
   rw [h1] at h2
   exact h2.symm
  have early : ∀ j oj,j < i→ops[j]? = some oj→L j = false→oj.apart ops o = true:=fun j oj hj hoj hLj => by
   rcases (spec j oj hoj).2 i o hj hoi with ⟨e,he,hb,heq⟩ | h
   ·have:=hready e he hb
    rw [heq,hLj] at this
    cases this
   ·exact h
  have late : ∀ j oj,i < j→ops[j]? = some oj→L j = true→o.apart ops oj = true:=fun j oj hj hoj hLj => by
   rcases (spec i o hoi).2 j oj hj hoj with ⟨e,he,hb,heq⟩ | h
   ·have:=hW j oj hLj hoj e he hb
    rw [heq,hLi] at this
    cases this
   ·exact h
  have agree : ∀ d,d ∈ o.looksAt ops→(TL ops tr t0 L ops.size)[d]? = (TL ops tr t0 (fun _ => true) i)[d]?:=fun d hd =>
   Gh (fun j oj hj hoj hjd => by
    cases hLj : L j with
    | true => rfl
    | false => exact absurd hd ((Oper.apart_spec (early j oj hj hoj hLj)).1 d hjd)) (Nat.le_of_lt hlt) fun j oj hj hjn hLj hoj hjd => by
    by_cases hji : i = j
    ·subst hji; rw [hLi] at hLj; cases hLj
    ·exact (Oper.apart_spec (late j oj (by omega) hoj hLj)).2.2 d hjd hd
  obtain ⟨e1,e2⟩:=eval_agree (ops:=ops) agree
  have hput : TL ops tr t0 (fun x => L x || x == i) ops.size = Xe (TL ops tr t0 L ops.size) o.dst r.1 :=
   TL_put hoi hri hLi hlt fun j oj h1 h2 h3 h4 d hd => (Oper.apart_spec (late j oj h1 h4 h3)).2.1 d hd
  have cont : ∀ (a' : Act) (w' : World) (φ' : Pl),SR P N w0 { t:=Xe (TL ops tr t0 L ops.size) o.dst r.1,m:=M,g:=g0 } a' w' φ'→Dom tr k0 (fun x => L x || x == i) φ' →
    wpAny P .any ops (fun e a' w' => ∃ st' φ',Q e st'∧SR P N w0 st' a' w' φ') fuel (listed.setIfInBounds i true) a' w':=fun a' w' φ' hs' hd' => by
   refine ih (listed.setIfInBounds i true) (fun x => L x || x == i) (fun j hj => by simp [hpL j hj]) (by simp [hsz]) (fun j hj => ?_) ?_ (fun j oj hLj hoj e he hb => ?_) a' w' φ' (by rw [hput]; exact hs') hd'
   ·by_cases hij : i = j
    ·subst hij
     have : i < listed.size:=by omega
     simp [this]
    ·rw [getD_set_ne true hij,hL j hj]
     simp [show (j == i) = false by simp; omega]
   ·have:=Kx hLi ops.size hlt
    omega
   ·by_cases hij : j = i
    ·subst hij
     rw [hoi] at hoj
     cases hoj
     simp [hready e he hb]
    ·have hLj' : L j = true:=by simpa [hij] using hLj
     simp [hW j oj hLj' hoj e he hb]
  unfold wpOp
  simp only [hoi]
  have hmono : ∀ φ',(∀ b p,φ' b = some p→φ b = some p∨(r.2.1≤b∧b < r.2.1 + r.2.2))→Dom tr k0 (fun x => L x || x == i) φ':=fun φ' h b p hb => by
   rcases h b p hb with h | ⟨h1,h2⟩
   ·rcases hd b p h with h | ⟨j,s,a1,a2,a3,a4⟩
    ·exact .inl h
    ·exact .inr ⟨j,s,by simp [a1],a2,a3,a4⟩
   ·exact .inr ⟨i,r,by simp,hri,h1,h2⟩
  rcases hrows i o r (Nat.le_of_not_lt fun h => by rw [hpL i h] at hLi; cases hLi) hoi hri with ⟨hw,hr1,hr2⟩ | ⟨hw,ho⟩
  ·rw [Xa (e2.trans hw) hs,if_neg (by simp)]
   refine cont _ w φ ?_ (hmono φ fun b p hb => .inl hb)
   rw [hr1]
   exact hs.put S.und hs.mem (Ev.refl _ _ _) (Bel.refl _ _)
  ·rw [Xa (e2.trans hw) hs,if_pos rfl]
   left
   refine ho N a w φ _ _ hs.start hs.glob hs.mem (fun x hx => by rw [← e1 x hx]; exact hs.eval x) (fun x hx => ?_) fun u w' φ' h1 h2 h3 h4 h5 => cont _ w' φ' (hs.put h1 h2 h3 h4) (hmono φ' h5)
   cases hφ : φ (r.2.1 + x) with
   | none => rfl
   | some p =>
    exfalso
    rcases hd _ p hφ with h | ⟨j,s,a1,a2,a3,a4⟩
    ·have:=hk0 i r hri
     omega
    ·rcases Nat.lt_trichotomy i j with h | h | h
     ·have:=hdis i j r s h hri a2; omega
     ·subst h; rw [hLi] at a1; cases a1
     ·have:=hdis j i s r h a2 hri; omega
end
def Gd (n p : Nat) : Array Bool:=((List.range n).map fun j => decide (j < p)).toArray
theorem arrP_get {n p j : Nat} (h : j < n) : (Gd n p).getD j true = decide (j < p):=by simp [Gd,h]
theorem arrP_zero {n : Nat} : Gd n 0 = Array.replicate n false:=by
 apply Array.ext
 ·simp [Gd]
 ·intro i h1 h2; simp [Gd]
theorem arrP_set {n p : Nat} (h : p < n) : (Gd n p).setIfInBounds p true = Gd n (p + 1):=by
 apply Array.ext
 ·simp [Gd]
 ·intro i h1 h2
  rw [Array.getElem_setIfInBounds]
  ·simp only [Gd,List.getElem_toArray,List.getElem_map,List.getElem_range]
   by_cases hi : p = i
   ·subst hi; simp
   ·rw [if_neg hi]; congr 1; simp; omega
  ·simpa [Gd] using h1
section
variable {P : Program} {C : Uy} {Q : Exit→VS→Prop} {st : VS}
theorem VA.ent {ops : Array Oper} {n : Nat} {listed : Array Bool} {st s : VS} (he : Qg st s) (h : VA P ops Q n listed s) : VA P ops Q n listed st:=fun N w0 a w φ hs => by
 obtain ⟨φ',hs'⟩:=he P N w0 a w φ hs
 exact h N w0 a w φ' hs'
theorem countP_lt (p : Nat) : ∀ n,(List.range n).countP (fun j => !decide (j < p)) = n - p
 | 0 => by simp
 | n + 1 => by
  rw [List.range_succ,List.countP_append,countP_lt p n]
  by_cases h : n < p
  ·simp [h]; omega
  ·simp [h]; omega
theorem wpList_monoQ {ops : Array Oper} {Q Q' : Exit→Act→World→Prop} (hq : ∀ e a w,Q e a w→Q' e a w) : ∀ {l : List Oper} {a : Act} {w : World},wpList P ops Q l a w→wpList P ops Q' l a w
 | [],_,_,h => hq _ _ _ h
 | o :: l,a,w,h => by
  unfold wpList at h ⊢
  split
  ·rename_i hw
   rw [if_pos hw] at h
   rcases h with h | ⟨h1,a',w',h2⟩
   ·exact .inl (wp_mono2 (fun _ _ k => wpList_monoQ hq k) (fun e a w _ k => hq e a w k) h)
   ·exact .inr ⟨h1,a',w',hq _ _ _ h2⟩
  ·rename_i hw
   rw [if_neg hw] at h
   exact wpList_monoQ hq h
theorem TL_same {ops : Array Oper} {tr : List Jw} {t : List V} {L : Nat→Bool} {p : Nat} (hr : ∀ j o r,j < p→ops[j]? = some o→tr[j]? = some r→∀ d,o.dst = some d→d < t.length→t[d]? = some r.1) : ∀ n,n≤p→TL ops tr t L n = t
 | 0,_ => rfl
 | n + 1,hn => by
  have ih:=TL_same (L:=L) hr n (by omega)
  simp only [TL]
  split
  ·rename_i o r ho hrr
   rw [ih]
   split
   ·apply List.ext_getElem?
    intro d
    rw [putV_get]
    split
    ·rename_i h; exact (hr n o r (by omega) ho hrr d h.1 h.2).symm
    ·rfl
   ·rfl
  ·exact ih
theorem VA.draw {l : List Oper} {st' : VS} (p : Nat) (hlex : Uz l = true) (hp : p≤l.length) (h : DL P l.toArray (l.drop p) st st') (hQ : Q .normal st') : VA P l.toArray Q (l.length - p) (Gd l.length p) st:=fun N w0 a w φ hs => by
 obtain ⟨hg,bl,hbl,h'⟩:=h
 obtain ⟨tr',h,hde⟩:=h' []
 rw [List.append_nil,hbl] at h
 generalize htr : (l.take p).map (fun o => ((match o.dst with | some d => st.t.getD d .any | none => .any,st.m.length,0) : Jw)) ++ tr' = tr
 have hlen1 : ((l.take p).map (fun o => ((match o.dst with | some d => st.t.getD d .any | none => .any,st.m.length,0) : Jw))).length = p:=by simp; omega
 have htr1 : ∀ j,tr'[j]? = tr[p + j]?:=fun j => by
  rw [← htr,List.getElem?_append_right (by omega),hlen1]; congr 1; omega
 have htr0 : ∀ j r,j < p→tr[j]? = some r→∃ o,l[j]? = some o∧r = (match o.dst with | some d => st.t.getD d .any | none => .any,st.m.length,0):=fun j r hj hr => by
  rw [← htr,List.getElem?_append_left (by omega),List.getElem?_map,List.getElem?_take,if_pos hj] at hr
  cases hl : l[j]? with
  | none => rw [hl] at hr; cases hr
  | some o => rw [hl] at hr; exact ⟨o,rfl,(Option.some.inj hr).symm⟩
 have same : ∀ L n,n≤p→TL l.toArray tr st.t L n = st.t:=fun L n hn => TL_same (p:=p) (fun j o r hj ho hr d hd hlt => by
  obtain ⟨o',h1,h2⟩:=htr0 j r hj hr
  have : l[j]? = some o:=by simpa using ho
  rw [this] at h1
  cases h1
  rw [h2,hd]
  simp [List.getD,hlt]) n hn
 obtain ⟨h1,h2,h3,h4⟩:=DT.rows (tr:=tr) (n:=p) (t0:=st.t) h (fun j => by simp) htr1 (same _ p (Nat.le_refl _)).symm
 have hfin:=DE.final (ops:=l.toArray) (tr:=tr) (t0:=st.t) hde p (fun j => by simp) htr1 (same _ p (Nat.le_refl _)).symm
 have hs2:=hs.more bl
 have hsz : l.toArray.size = l.length:=by simp
 have htl : TL l.toArray tr st.t (fun j => decide (j < p)) l.toArray.size = st.t:=by
  have : ∀ n,p≤n→TL l.toArray tr st.t (fun j => decide (j < p)) n = st.t:=fun n hn => by
   induction n with
   | zero => exact same _ 0 (by omega)
   | succ n ih =>
    by_cases hpn : p≤n
    ·simp only [TL]
     split
     ·rw [if_neg (by simp; omega)]; exact ih hpn
     ·exact ih hpn
    ·exact same _ (n + 1) (by omega)
  exact this _ (by omega)
 have hst' : st' = { t:=TL l.toArray tr st.t (fun _ => true) l.toArray.size,m:=st.m ++ bl,g:=st.g }:=by
  have e : p + (l.drop p).length = l.toArray.size:=by simp; omega
  rw [e] at hfin
  cases st'
  simp only at hbl hfin hg
  subst hbl
  subst hfin
  subst hg
  rfl
 have hcount : (List.range l.toArray.size).countP (fun j => !decide (j < p)) = l.length - p:=by
  rw [hsz]
  exact countP_lt p _
 refine draw_sound2 (tr:=tr) (t0:=st.t) (M:=st.m ++ bl) (k0:=st.m.length) p hlex (by rw [← htr]; simp at h1 ⊢; omega) (fun j o r hj ho hr => ?_) (fun j r hr => ?_) (fun i j r s hij hr hs' => ?_) (by rw [← hst']; exact hQ) _ _ (fun j => decide (j < p)) (fun j hj => by simpa using hj) (by simp [Gd]) (fun j hj => arrP_get (by simpa using hj)) hcount (fun j oj hj ho e he hb => ?_) a w φ (by rw [htl]; exact hs2) fun b q hb => .inl (hs.mem.dom b q hb)
 ·have:=h2 (j - p) o r (by simpa [show p + (j - p) = j by omega] using ho) (by rw [htr1,show p + (j - p) = j by omega]; exact hr)
  rwa [show p + (j - p) = j by omega] at this
 ·by_cases hj : j < p
  ·obtain ⟨o,_,h6⟩:=htr0 j r hj hr
   rw [h6]; exact Nat.le_refl _
  ·exact h3 (j - p) r (by rw [htr1,show p + (j - p) = j by omega]; exact hr)
 ·by_cases hj : j < p
  ·obtain ⟨o,_,h6⟩:=htr0 i r (by omega) hr
   obtain ⟨o',_,h7⟩:=htr0 j s hj hs'
   rw [h6,h7]; exact Nat.le_refl _
  ·by_cases hi : i < p
   ·obtain ⟨o,_,h6⟩:=htr0 i r hi hr
    have:=h3 (j - p) s (by rw [htr1,show p + (j - p) = j by omega]; exact hs')
    rw [h6]; exact this
   ·exact h4 (i - p) (j - p) r s (by omega) (by rw [htr1,show p + (i - p) = i by omega]; exact hr) (by rw [htr1,show p + (j - p) = j by omega]; exact hs')
 ·have h5:=(Je (ops:=l.toArray) (by simpa using hlex) j oj ho).1 e he hb
  have : j < p:=by simpa using hj
  simp; omega
theorem chain_wpP {l : List Oper} {Q : Exit→Act→World→Prop} (p : Nat) (hp : p≤l.length) (hr : ∀ k,k < p→Region.ready .any l.toArray (Gd l.length k) = [k]) : ∀ (q k : Nat),k + q = p→∀ (a : Act) (w : World),
  wpList P l.toArray (fun e a w => (e = .normal∧wpAny P .any l.toArray Q (l.length - p) (Gd l.length p) a w)∨(e ≠ .normal∧Q e a w)) ((l.take p).drop k) a w→wpAny P .any l.toArray Q (l.length - k) (Gd l.length k) a w:=by
 intro q
 induction q with
 | zero =>
  intro k hk a w h
  have : k = p:=by omega
  subst this
  rw [List.drop_eq_nil_of_le (by simp; omega)] at h
  rcases h with h | h
  ·exact h.2
  ·exact absurd rfl h.1
 | succ q ih =>
  intro k hk a w h
  have hlt : k < l.length:=by omega
  have hlk : k < (l.take p).length:=by simp; omega
  rw [show l.length - k = (l.length - (k + 1)) + 1 by omega]
  refine ⟨fun h' => absurd h' (by rw [hr k (by omega)]; simp),fun i hi => ?_⟩
  rw [hr k (by omega)] at hi
  have hik : i = k:=by simpa using hi
  subst hik
  rw [← List.getElem_cons_drop hlk] at h
  have ho : l.toArray[i]? = some l[i]:=by simp
  have e1 : (l.take p)[i] = l[i]:=by simp
  rw [e1] at h
  have go:=ih (i + 1) (by omega)
  unfold wpList at h
  unfold wpOp
  simp only [ho]
  have go2 : ∀ a' w',wpList P l.toArray (fun e a w => (e = .normal∧wpAny P .any l.toArray Q (l.length - p) (Gd l.length p) a w)∨(e ≠ .normal∧Q e a w)) ((l.take p).drop (i + 1)) a' w'→wpAny P .any l.toArray Q (l.length - (i + 1)) ((Gd l.length i).setIfInBounds i true) a' w':=fun a' w' hh => by
   rw [arrP_set hlt]
   exact go a' w' hh
  have keyQ : ∀ e a' w',e ≠ Exit.normal→((e = .normal∧wpAny P .any l.toArray Q (l.length - p) (Gd l.length p) a' w')∨(e ≠ .normal∧Q e a' w'))→Q e a' w':=fun e a' w' he hh => by
   rcases hh with hh | hh
   ·exact absurd hh.1 he
   ·exact hh.2
  split
  ·rename_i hw
   rw [if_pos hw] at h
   rcases h with h | ⟨h1,h2⟩
   ·exact .inl (wp_mono2 go2 keyQ h)
   ·refine .inr ⟨h1,?_⟩
    obtain ⟨a',w',h3⟩:=h2
    exact ⟨a',w',keyQ _ _ _ (by simp) h3⟩
  ·rename_i hw
   rw [if_neg hw] at h
   exact go2 _ _ h
def PreQ (P : Program) (l : List Oper) (p : Nat) (Q : Exit→VS→Prop) : Exit→VS→Prop:=fun e s => (e = .normal∧VA P l.toArray (fun e s => ∃ s',Qg s s'∧Q e s') (l.length - p) (Gd l.length p) s)∨(e ≠ .normal∧∃ s',Qg s s'∧Q e s')
def readyOk (l : List Oper) (p : Nat) : Bool:=decide (p≤l.length) && (List.range p).all fun k => Region.ready .any l.toArray (Gd l.length k) == [k]
theorem VW.chainP {id : Nat} {l : List Oper} (p : Nat) (hm : P.follows .mixedOrders = true) (hc : readyOk l p = true) (h : VL P l.toArray (fun e s => ∃ s',Qg s s'∧PreQ P l p Q e s') (l.take p) st) : VW P (.region id l.toArray true) Q st:=by
 refine Ws (VW.any hm fun N w0 a w φ hs => ?_)
 simp only [readyOk,Bool.and_eq_true,decide_eq_true_eq,List.all_eq_true,List.mem_range,beq_iff_eq] at hc
 have:=chain_wpP (P:=P) (l:=l) (Q:=fun e a' w' => ∃ st' φ',(∃ s',Qg st' s'∧Q e s')∧SR P N w0 st' a' w' φ') p hc.1 hc.2 p 0 (by omega) a w (by
  rw [List.drop_zero]
  refine wpList_monoQ ?_ (h N w0 a w φ hs)
  rintro e a' w' ⟨s1,φ1,⟨s2,he,h1⟩,h2⟩
  obtain ⟨φ2,h3⟩:=he P N w0 a' w' φ1 h2
  rcases h1 with ⟨rfl,h1⟩ | ⟨h0,s3,h4,h5⟩
  ·exact .inl ⟨rfl,h1 N w0 a' w' φ2 h3⟩
  ·exact .inr ⟨h0,s2,φ2,⟨s3,h4,h5⟩,h3⟩)
 simpa [arrP_zero] using this
theorem VL.endP {ops : Array Oper} {l : List Oper} (p : Nat) (t' : List V) (m' : VM) (g' : List V) (hC : C.Ok P) (hlex : Uz l = true) (hp : (decide (p≤l.length) && Wv (l.drop p) && Xm l.toArray ((l.drop p).length + 3) none (l.drop p)) = true)
  (h : toSt (Wj P C l.toArray ((l.drop p).length + 3) none (l.drop p) st) t' m' g') (hQ : Q .normal { t:=t',m:=m',g:=g' }) : VL P ops (fun e s => ∃ s',Qg s s'∧PreQ P l p Q e s') [] st:=by
 obtain ⟨t,h1,h2⟩:=h.get
 simp only [Bool.and_eq_true,decide_eq_true_eq] at hp
 refine VL.nil ⟨_,Qg.refl _,.inl ⟨rfl,VA.draw p hlex hp.1.1 ?_ ⟨_,Qx h2,hQ⟩⟩⟩
 have:=(Ue _ _ _ _ _ h1 hp.2 (fun _ _ h => by cases h)).dl (rest:=[]) hC hp.1.2 DL.nil
 simpa using this
end
end Go.VL
