/- Regions that draw their order and whose last operation waits for all the others: that one may write. -/
import Derived.Test.YtloepppmjppddaaGreatDoorVxGf
import Derived.LoopN
namespace Go.VL
open Go.RowKit
set_option linter.unusedSimpArgs false
set_option linter.unusedVariables false
section
variable {P : Program} {ops : Array Oper} {tr : List Jw} {t0 : List V} {M : VM}
theorem draw_last {Q : Exit→VS→Prop} {g0 : List V} {N : Fr} {w0 : World × List Value} {k0 n : Nat} {last : Oper} (hlex : Uz ops.toList = true) (hsz0 : ops.size = n + 1) (hlen : tr.length = n) (hlast : ops[n]? = some last)
  (hwait : ∀ i,i < n→∃ e ∈ last.after,Region.binds .any e = true∧e.on = i)
  (hrows : ∀ (j : Nat) (o : Oper) (r : Jw),ops[j]? = some o→tr[j]? = some r→RowOk P ops M tr t0 j o r) (hk0 : ∀ (j : Nat) (r : Jw),tr[j]? = some r→k0≤r.2.1) (hdis : ∀ (i j : Nat) (r s : Jw),i < j→tr[i]? = some r→tr[j]? = some s→r.2.1 + r.2.2≤s.2.1)
  (hQ : VL P ops Q [last] { t:=TL ops tr t0 (fun _ => true) n,m:=M,g:=g0 }) :
  ∀ (fuel : Nat) (listed : Array Bool) (L : Nat→Bool),listed.size = ops.size→(∀ j,j < ops.size→listed.getD j true = L j)→(List.range ops.size).countP (fun j => !L j) = fuel→L n = false →
   (∀ j oj,L j = true→ops[j]? = some oj→∀ e ∈ oj.after,Region.binds .any e = true→L e.on = true) →
   ∀ (a : Act) (w : World) (φ : Pl),SR P N w0 { t:=TL ops tr t0 L ops.size,m:=M,g:=g0 } a w φ→Dom tr k0 L φ →
    wpAny P .any ops (fun e a' w' => ∃ st' φ',Q e st'∧SR P N w0 st' a' w' φ') fuel listed a w:=by
 have spec:=Je hlex
 have hn0 : n < ops.size:=by omega
 have allL : ∀ (listed : Array Bool) (L : Nat→Bool),listed.size = ops.size→(∀ j,j < ops.size→listed.getD j true = L j)→Region.ready .any ops listed = []→∀ j,j < ops.size→L j = true:=by
  intro listed L hsz hL hr j
  induction j using Nat.strongRecOn with
  | ind j ih =>
   intro hj
   cases hLj : L j with
   | true => rfl
   | false =>
    exfalso
    obtain ⟨oj,hoj⟩ : ∃ oj,ops[j]? = some oj:=⟨ops[j],by simp [hj]⟩
    have : j ∈ Region.ready .any ops listed:=mem_ready.2 ⟨(hL j hj).trans hLj,oj,hoj,fun e he hb => by
     have hlt:=(spec j oj hoj).1 e he hb
     have h1:=ih e.on hlt (by omega)
     rw [← hL e.on (by omega)] at h1
     have : e.on < listed.size:=by omega
     simpa [this] using h1⟩
    rw [hr] at this
    cases this
 intro fuel
 induction fuel with
 | zero =>
  intro listed L hsz hL hc hLn hW a w φ hs hd
  have:=List.countP_eq_zero.1 hc n (List.mem_range.2 hn0)
  rw [hLn] at this
  simp at this
 | succ fuel ih =>
  intro listed L hsz hL hc hLn hW a w φ hs hd
  refine ⟨fun hr => ?_,fun i hi => ?_⟩
  ·have:=allL listed L hsz hL hr n hn0
   rw [hLn] at this
   cases this
  obtain ⟨b1,o,hoi,b3⟩:=mem_ready.1 hi
  have hlt:=(Array.getElem?_eq_some_iff.1 hoi).1
  have hLi : L i = false:=by rw [← hL i hlt]; exact b1
  have hready : ∀ e ∈ o.after,Region.binds .any e = true→L e.on = true:=fun e he hb => by
   have h1:=b3 e he hb
   have hlt' : e.on < ops.size:=Nat.lt_trans ((spec i o hoi).1 e he hb) hlt
   have h2:=hL e.on hlt'
   have : e.on < listed.size:=by omega
   simp [this] at h1 h2
   rw [h1] at h2
   exact h2.symm
  by_cases hin : i = n
  ·subst hin
   rw [hlast] at hoi
   cases hoi
   have hall : ∀ j,j < i→L j = true:=fun j hj => by
    obtain ⟨e,he,hb,heq⟩:=hwait j hj
    rw [← heq]; exact hready e he hb
   have htl : TL ops tr t0 L ops.size = TL ops tr t0 (fun _ => true) i:=by
    have e1 : ∀ m,m≤i→TL ops tr t0 L m = TL ops tr t0 (fun _ => true) m:=by
     intro m
     induction m with
     | zero => intro _; rfl
     | succ m ih => intro hle; simp only [TL,ih (by omega),hall m (by omega)]
    rw [hsz0,← e1 i (Nat.le_refl _)]
    have : tr[i]? = none:=List.getElem?_eq_none (by omega)
    simp only [TL,this]
    split <;> first | rfl | (rename_i h; cases h)
   rw [htl] at hs
   have hq:=hQ N w0 a w φ hs
   have hc0 : fuel = 0:=by
    have h0:=Kx hLi ops.size hlt
    have h1 : (List.range ops.size).countP (fun j => !(L j || j == i)) = 0:=by
     refine List.countP_eq_zero.2 fun j hj => ?_
     have hj':=List.mem_range.1 hj
     by_cases hji : j = i
     ·subst hji; simp
     ·rw [hall j (by omega)]; simp
    omega
   subst hc0
   unfold wpOp
   simp only [hlast]
   have hfin : ∀ a' w',(∃ st' φ',Q .normal st'∧SR P N w0 st' a' w' φ')→wpAny P .any ops (fun e a' w' => ∃ st' φ',Q e st'∧SR P N w0 st' a' w' φ') 0 (listed.setIfInBounds i true) a' w':=fun a' w' h => by
    refine ⟨?_,h⟩
    cases hr : Region.ready .any ops (listed.setIfInBounds i true) with
    | nil => rfl
    | cons j rest =>
     exfalso
     have hj : j ∈ Region.ready .any ops (listed.setIfInBounds i true):=by rw [hr]; simp
     obtain ⟨c1,oj,c2,c3⟩:=mem_ready.1 hj
     have hjs:=(Array.getElem?_eq_some_iff.1 c2).1
     by_cases hji : i = j
     ·subst hji
      have : i < listed.size:=by omega
      simp [this] at c1
     ·rw [getD_set_ne true hji,hL j hjs,hall j (by omega)] at c1
      cases c1
   unfold wpList at hq
   split at hq
   ·rename_i hwant
    rw [if_pos hwant]
    rcases hq with hq | hq
    ·exact .inl (Oper.wp_mono (fun a' w' h => hfin a' w' h) hq)
    ·exact .inr hq
   ·rename_i hwant
    rw [if_neg hwant]
    exact hfin _ _ hq
  have hin' : i < n:=by omega
  obtain ⟨r,hri⟩ : ∃ r,tr[i]? = some r:=⟨tr[i]'(by omega),by simp [show i < tr.length by omega]⟩
  have early : ∀ j oj,j < i→ops[j]? = some oj→L j = false→oj.apart ops o = true:=fun j oj hj hoj hLj => by
   rcases (spec j oj hoj).2 i o hj hoi with ⟨e,he,hb,heq⟩ | h
   ·have:=hready e he hb
    rw [heq,hLj] at this
    cases this
   ·exact h
  have late : ∀ j oj,i < j→ops[j]? = some oj→L j = true→o.apart ops oj = true:=fun j oj hj hoj hLj => by
   rcases (spec i o hoi).2 j oj hj hoj with ⟨e,he,hb,heq⟩ | h
   ·have:=hW j oj hLj hoj e he hb
    rw [heq,hLi] at this
    cases this
   ·exact h
  have agree : ∀ d,d ∈ o.looksAt ops→(TL ops tr t0 L ops.size)[d]? = (TL ops tr t0 (fun _ => true) i)[d]?:=fun d hd =>
   Gh (fun j oj hj hoj hjd => by
    cases hLj : L j with
    | true => rfl
    | false => exact absurd hd ((Oper.apart_spec (early j oj hj hoj hLj)).1 d hjd)) (Nat.le_of_lt hlt) fun j oj hj hjn hLj hoj hjd => by
    by_cases hji : i = j
    ·subst hji; rw [hLi] at hLj; cases hLj
    ·exact (Oper.apart_spec (late j oj (by omega) hoj hLj)).2.2 d hjd hd
  obtain ⟨e1,e2⟩:=eval_agree (ops:=ops) agree
  have hput : TL ops tr t0 (fun x => L x || x == i) ops.size = Xe (TL ops tr t0 L ops.size) o.dst r.1 :=
   TL_put hoi hri hLi hlt fun j oj h1 h2 h3 h4 d hd => (Oper.apart_spec (late j oj h1 h4 h3)).2.1 d hd
  have cont : ∀ (a' : Act) (w' : World) (φ' : Pl),SR P N w0 { t:=Xe (TL ops tr t0 L ops.size) o.dst r.1,m:=M,g:=g0 } a' w' φ'→Dom tr k0 (fun x => L x || x == i) φ' →
    wpAny P .any ops (fun e a' w' => ∃ st' φ',Q e st'∧SR P N w0 st' a' w' φ') fuel (listed.setIfInBounds i true) a' w':=fun a' w' φ' hs' hd' => by
   refine ih (listed.setIfInBounds i true) (fun x => L x || x == i) (by simp [hsz]) (fun j hj => ?_) ?_ ?_ (fun j oj hLj hoj e he hb => ?_) a' w' φ' (by rw [hput]; exact hs') hd'
   ·by_cases hij : i = j
    ·subst hij
     have : i < listed.size:=by omega
     simp [this]
    ·rw [getD_set_ne true hij,hL j hj]
     simp [show (j == i) = false by simp; omega]
   ·have:=Kx hLi ops.size hlt
    omega
   ·simp only [hLn,Bool.false_or]
    simp; omega
   ·by_cases hij : j = i
    ·subst hij
     rw [hoi] at hoj
     cases hoj
     simp [hready e he hb]
    ·have hLj' : L j = true:=by simpa [hij] using hLj
     simp [hW j oj hLj' hoj e he hb]
  unfold wpOp
  simp only [hoi]
  have hmono : ∀ φ',(∀ b p,φ' b = some p→φ b = some p∨(r.2.1≤b∧b < r.2.1 + r.2.2))→Dom tr k0 (fun x => L x || x == i) φ':=fun φ' h b p hb => by
   rcases h b p hb with h | ⟨h1,h2⟩
   ·rcases hd b p h with h | ⟨j,s,a1,a2,a3,a4⟩
    ·exact .inl h
    ·exact .inr ⟨j,s,by simp [a1],a2,a3,a4⟩
   ·exact .inr ⟨i,r,by simp,hri,h1,h2⟩
  rcases hrows i o r hoi hri with ⟨hw,hr1,hr2⟩ | ⟨hw,ho⟩
  ·rw [Xa (e2.trans hw) hs,if_neg (by simp)]
   refine cont _ w φ ?_ (hmono φ fun b p hb => .inl hb)
   rw [hr1]
   exact hs.put S.und hs.mem (Ev.refl _ _ _) (Bel.refl _ _)
  ·rw [Xa (e2.trans hw) hs,if_pos rfl]
   left
   refine ho N a w φ _ _ hs.start hs.glob hs.mem (fun x hx => by rw [← e1 x hx]; exact hs.eval x) (fun x hx => ?_) fun u w' φ' h1 h2 h3 h4 h5 => cont _ w' φ' (hs.put h1 h2 h3 h4) (hmono φ' h5)
   cases hφ : φ (r.2.1 + x) with
   | none => rfl
   | some p =>
    exfalso
    rcases hd _ p hφ with h | ⟨j,s,a1,a2,a3,a4⟩
    ·have:=hk0 i r hri
     omega
    ·rcases Nat.lt_trichotomy i j with h | h | h
     ·have:=hdis i j r s h hri a2; omega
     ·subst h; rw [hLi] at a1; cases a1
     ·have:=hdis j i s r h a2 hri; omega
theorem DT.rows' : ∀ {l : List Oper} {t : List V} {k n : Nat} {tr' : List Jw},DT P ops M l t k tr'→(∀ j,j < l.length→l[j]? = ops[n + j]?)→(∀ j,tr'[j]? = tr[n + j]?)→t = TL ops tr t0 (fun _ => true) n →
  l.length = tr'.length∧(∀ (j : Nat) (o : Oper) (r : Jw),l[j]? = some o→tr'[j]? = some r→RowOk P ops M tr t0 (n + j) o r)∧(∀ (j : Nat) (r : Jw),tr'[j]? = some r→k≤r.2.1)∧(∀ (i j : Nat) (r s : Jw),i < j→tr'[i]? = some r→tr'[j]? = some s→r.2.1 + r.2.2≤s.2.1)
 | _,_,_,_,_,.nil,_,_,_ => by simp
 | _,_,k,n,_,.skip (o:=o) (l:=l) (tr:=tr') hw h,hl,htr,ht => by
  have h0:=hl 0 (by simp)
  have h1:=htr 0
  simp at h0 h1
  have hstep : Xe (TL ops tr t0 (fun _ => true) n) o.dst und = TL ops tr t0 (fun _ => true) (n + 1):=by simp [TL,← h0,← h1]
  obtain ⟨a1,a2,a3,a4⟩:=DT.rows' (n:=n + 1) h (fun j hj => by have:=hl (j + 1) (by simpa using hj); simpa [Nat.add_assoc,Nat.add_comm 1] using this) (fun j => by have:=htr (j + 1); simpa [Nat.add_assoc,Nat.add_comm 1] using this) (by rw [ht]; exact hstep)
  refine ⟨by simp [a1],fun j o' r ho hr => ?_,fun j r hr => ?_,fun i j r s hij hr hs => ?_⟩
  ·cases j with
   | zero => simp at ho hr; subst ho; subst hr; exact .inl ⟨by rw [Nat.add_zero,← ht]; exact hw,rfl,rfl⟩
   | succ j => have:=a2 j o' r (by simpa using ho) (by simpa using hr); rwa [show n + 1 + j = n + (j + 1) by omega] at this
  ·cases j with
   | zero => simp at hr; subst hr; exact Nat.le_refl _
   | succ j => exact a3 j r (by simpa using hr)
  ·cases j with
   | zero => omega
   | succ j =>
    cases i with
    | zero => simp at hr; subst hr; exact a3 j s (by simpa using hs)
    | succ i => exact a4 i j r s (by omega) (by simpa using hr) (by simpa using hs)
 | _,_,k,n,_,.op (o:=o) (l:=l) (tr:=tr') (r:=r0) (cnt:=cnt) hw ho0 h,hl,htr,ht => by
  have h0:=hl 0 (by simp)
  have h1:=htr 0
  simp at h0 h1
  have hstep : Xe (TL ops tr t0 (fun _ => true) n) o.dst r0 = TL ops tr t0 (fun _ => true) (n + 1):=by simp [TL,← h0,← h1]
  obtain ⟨a1,a2,a3,a4⟩:=DT.rows' (n:=n + 1) h (fun j hj => by have:=hl (j + 1) (by simpa using hj); simpa [Nat.add_assoc,Nat.add_comm 1] using this) (fun j => by have:=htr (j + 1); simpa [Nat.add_assoc,Nat.add_comm 1] using this) (by rw [ht]; exact hstep)
  refine ⟨by simp [a1],fun j o' r ho hr => ?_,fun j r hr => ?_,fun i j r s hij hr hs => ?_⟩
  ·cases j with
   | zero => simp at ho hr; subst ho; subst hr; exact .inr ⟨by rw [Nat.add_zero,← ht]; exact hw,by rw [Nat.add_zero,← ht]; exact ho0⟩
   | succ j => have:=a2 j o' r (by simpa using ho) (by simpa using hr); rwa [show n + 1 + j = n + (j + 1) by omega] at this
  ·cases j with
   | zero => simp at hr; subst hr; exact Nat.le_refl _
   | succ j => have:=a3 j r (by simpa using hr); omega
  ·cases j with
   | zero => omega
   | succ j =>
    cases i with
    | zero => simp at hr; subst hr; exact a3 j s (by simpa using hs)
    | succ i => exact a4 i j r s (by omega) (by simpa using hr) (by simpa using hs)
theorem DE.final' : ∀ {l : List Oper} {tr' : List Jw} {t tf : List V},DE l tr' t tf→∀ n,(∀ j,j < l.length→l[j]? = ops[n + j]?)→(∀ j,tr'[j]? = tr[n + j]?)→t = TL ops tr t0 (fun _ => true) n→tf = TL ops tr t0 (fun _ => true) (n + l.length)
 | _,_,_,_,.nil,n,_,_,ht => ht
 | _,_,t,tf,.cons (o:=o) (l:=l) (r:=r) (tr:=tr') h,n,hl,htr,ht => by
  have h0:=hl 0 (by simp)
  have h1:=htr 0
  simp at h0 h1
  have hstep : Xe (TL ops tr t0 (fun _ => true) n) o.dst r.1 = TL ops tr t0 (fun _ => true) (n + 1):=by simp [TL,← h0,← h1]
  have:=DE.final' h (n + 1) (fun j hj => by have:=hl (j + 1) (by simpa using hj); simpa [Nat.add_assoc,Nat.add_comm 1] using this) (fun j => by have:=htr (j + 1); simpa [Nat.add_assoc,Nat.add_comm 1] using this) (by rw [ht]; exact hstep)
  rw [this,List.length_cons]
  congr 1
  omega
theorem VW.drawL {id : Nat} {l : List Oper} {o : Oper} {Q : Exit→VS→Prop} {st st1 : VS} (hm : P.follows .mixedOrders = true) (hlex : Uz (l ++ [o]) = true) (hwait : ∀ i,i < l.length→∃ e ∈ o.after,Region.binds .any e = true∧e.on = i)
  (h : DL P (l ++ [o]).toArray l st st1) (hQ : VL P (l ++ [o]).toArray Q [o] st1) : VW P (.region id (l ++ [o]).toArray true) Q st:=fun N w0 a w φ hs => by
 obtain ⟨hg,bl,hbl,h'⟩:=h
 obtain ⟨tr,h,hde⟩:=h' []
 rw [List.append_nil,hbl] at h
 have hget : ∀ j,j < l.length→l[j]? = (l ++ [o]).toArray[0 + j]?:=fun j hj => by simp [List.getElem?_append_left hj]
 obtain ⟨h1,h2,h3,h4⟩:=DT.rows' (tr:=tr) (n:=0) (t0:=st.t) h hget (fun j => by simp) rfl
 have hfin:=DE.final' (ops:=(l ++ [o]).toArray) (tr:=tr) (t0:=st.t) hde 0 hget (fun j => by simp) rfl
 refine wp_region_any hm ?_
 have hs1 : SR P N w0 st a (w.drewN 1) φ:=by
  obtain ⟨d1,d2⟩:=hs.mem.drewN 1
  exact ⟨hs.defers,hs.size,fun i v hi => by
   obtain ⟨u,b1,b2⟩:=hs.tmps i v hi
   exact ⟨u,b1,b2.ev d2⟩,d1,hs.below.trans (Ka N w 1),hs.start,Sl.ev d2 hs.gh,hs.gl⟩
 have hs2:=hs1.more bl
 have htl : TL (l ++ [o]).toArray tr st.t (fun _ => false) (l ++ [o]).toArray.size = st.t:=by
  have : ∀ n,TL (l ++ [o]).toArray tr st.t (fun _ => false) n = st.t:=fun n => by
   induction n with
   | zero => rfl
   | succ n ih => simp only [TL]; split <;> simp [ih]
  exact this _
 have hst' : st1 = { t:=TL (l ++ [o]).toArray tr st.t (fun _ => true) l.length,m:=st.m ++ bl,g:=st.g }:=by
  cases st1
  simp only at hbl hfin hg
  subst hbl
  subst hfin
  subst hg
  simp
 refine draw_last (tr:=tr) (t0:=st.t) (M:=st.m ++ bl) (k0:=st.m.length) (n:=l.length) (last:=o) hlex (by simp) h1.symm (by simp) hwait (fun j oj r ho hr => ?_) h3 h4 (by rw [← hst']; exact hQ) _ _ (fun _ => false) (by simp) (fun j hj => by simp at hj; simp [hj]) (by simp) rfl (fun j oj h => by cases h) a _ φ (by rw [htl]; exact hs2) fun b p hb => .inl (hs.mem.dom b p hb)
 have hj : j < l.length:=by rw [h1]; exact (List.getElem?_eq_some_iff.1 hr).1
 have e:=hget j hj
 rw [Nat.zero_add,ho] at e
 have:=h2 j oj r e hr
 simpa using this
def lastOk (l : List Oper) : Bool :=
 match l.getLast? with
 | none => false
 | some o => Wv l.dropLast && (List.range l.dropLast.length).all fun i => o.after.any fun e => Region.binds .any e && e.on == i
theorem Ste.split {C : Uy} : ∀ {l l' : List Oper} {a c : VS},Ste P C ops (l ++ l') a c→∃ b,Ste P C ops l a b∧Ste P C ops l' b c
 | [],_,a,_,h => ⟨a,.nil,h⟩
 | o :: l,l',a,c,h => by
  cases h with
  | skip hw h => obtain ⟨b,h1,h2⟩:=Ste.split (l:=l) h; exact ⟨b,.skip hw h1,h2⟩
  | op hw h1 h => obtain ⟨b,h2,h3⟩:=Ste.split (l:=l) h; exact ⟨b,.op hw h1 h2,h3⟩
theorem VW.evalDLA {C : Uy} {id : Nat} {l : List Oper} {st : VS} {Q : Exit→VS→Prop} (t' : List V) (m' : VM) (g' : List V) (hC : C.Ok P) (hm : P.follows .mixedOrders = true) (hc : (Uz l && lastOk l && Xm l.toArray l.length none l) = true) (h : toSt (Wj P C l.toArray l.length none l st) t' m' g') (hQ : Q .normal { t:=t',m:=m',g:=g' }) : VW P (.region id l.toArray true) Q st:=by
 obtain ⟨t,h1,h2⟩:=h.get
 simp only [Bool.and_eq_true] at hc
 obtain ⟨⟨c1,c2⟩,c3⟩:=hc
 have hste:=Ue _ _ _ _ _ h1 c3 (fun _ _ h => by cases h)
 unfold lastOk at c2
 split at c2
 ·cases c2
 ·rename_i o ho
  obtain ⟨l1,rfl⟩ : ∃ l1,l = l1 ++ [o]:=by
   rcases List.eq_nil_or_concat l with rfl | ⟨L,b,rfl⟩
   ·cases ho
   ·rw [List.concat_eq_append,List.getLast?_concat] at ho
    exact ⟨L,by rw [List.concat_eq_append,Option.some.inj ho]⟩
  rw [List.dropLast_concat] at c2
  simp only [Bool.and_eq_true] at c2
  obtain ⟨b,s1,s2⟩:=hste.split
  refine Ws (VW.drawL hm c1 (fun i hi => ?_) (by simpa using s1.dl (rest:=[]) hC c2.1 DL.nil) (Q:=fun e s => ∃ s',Qg s s'∧Q e s') ?_)
  ·have:=List.all_eq_true.1 c2.2 i (List.mem_range.2 hi)
   obtain ⟨j,hj,e⟩:=Array.any_eq_true.1 this
   simp only [Bool.and_eq_true,beq_iff_eq] at e
   exact ⟨_,Array.getElem_mem hj,e.1,e.2⟩
  ·have:=s2.vl (Q:=fun e s => ∃ s',Qg s s'∧Q e s') (rest:=[]) hC (VL.nil ⟨_,Qx h2,hQ⟩)
   simpa using this
end
end Go.VL

namespace Go.VL
set_option linter.unusedSimpArgs false
set_option linter.unusedVariables false
section
variable {σ σ' ρ ρ' : Type}
theorem Qu {body : σ→Option (σ ⊕ ρ)} (μ : σ→Nat) (I : σ→Prop) (R : ρ→Prop) (h : ∀ s,I s→(∃ t,body s = some (.inl t)∧I t∧μ t < μ s)∨(∃ r,body s = some (.inr r)∧R r)) {s : σ} (hs : I s) : ∃ r,loopO body s = some r∧R r:=by
 have : ∀ (n : Nat) (s : σ),μ s = n→I s→∃ r,loopO body s = some r∧R r:=fun n => by
  induction n using Nat.strongRecOn with
  | _ n ih =>
   intro s hn hs
   rcases h s hs with ⟨t,h1,h2,h3⟩ | ⟨r,h1,h2⟩
   ·obtain ⟨r,h4,h5⟩:=ih (μ t) (by omega) t rfl h2
    exact ⟨r,(Uq h1).trans h4,h5⟩
   ·exact ⟨r,Xt h1,h2⟩
 exact this _ s rfl hs
theorem loopO_rel {b1 : σ→Option (σ ⊕ ρ)} {b2 : σ'→Option (σ' ⊕ ρ')} (μ : σ→Nat) (I : σ→σ'→Prop) (R : ρ→ρ'→Prop)
  (h : ∀ s s',I s s'→(∃ t t',b1 s = some (.inl t)∧b2 s' = some (.inl t')∧I t t'∧μ t < μ s)∨(∃ r r',b1 s = some (.inr r)∧b2 s' = some (.inr r')∧R r r')) {s : σ} {s' : σ'} (hs : I s s') : ∃ r r',loopO b1 s = some r∧loopO b2 s' = some r'∧R r r':=by
 have : ∀ (n : Nat) (s : σ) (s' : σ'),μ s = n→I s s'→∃ r r',loopO b1 s = some r∧loopO b2 s' = some r'∧R r r':=fun n => by
  induction n using Nat.strongRecOn with
  | _ n ih =>
   intro s s' hn hs
   rcases h s s' hs with ⟨t,t',h1,h1',h2,h3⟩ | ⟨r,r',h1,h1',h2⟩
   ·obtain ⟨r,r',h4,h4',h5⟩:=ih (μ t) (by omega) t t' rfl h2
    exact ⟨r,r',(Uq h1).trans h4,(Uq h1').trans h4',h5⟩
   ·exact ⟨r,r',Xt h1,Xt h1',h2⟩
 exact this _ s s' rfl hs
end
section
variable {a b : Int}
theorem aI64 (h1 : -9223372036854775808≤a + b) (h2 : a + b < 9223372036854775808) : aI .i64 a b = a + b:=wrap64 h1 h2
theorem sI64 (h1 : -9223372036854775808≤a - b) (h2 : a - b < 9223372036854775808) : sI .i64 a b = a - b:=wrap64 h1 h2
theorem mI64 (h1 : -9223372036854775808≤a * b) (h2 : a * b < 9223372036854775808) : mI .i64 a b = a * b:=wrap64 h1 h2
theorem cI64 (h1 : -9223372036854775808≤a) (h2 : a < 9223372036854775808) : cI .i64 a = a:=wrap64 h1 h2
end
section
variable {α : Type} {xs : List α} {i : Int}
theorem idx_of (h0 : 0≤i) (h : i.toNat < xs.length) : Wt xs i = some xs[i.toNat]:=by
 unfold Wt
 rw [if_pos h0,List.getElem?_eq_getElem h]
theorem Yj {n : Nat} (h : n < xs.length) : Wt xs (n : Int) = some xs[n]:=idx_of (by omega) (by simpa using h)
theorem Uw {ys : List α} {b : Nat} (h1 : (xs.length + ys.length) * b≤140737488355328) (h2 : xs.length + ys.length≤9223372036854775807) : Jn b xs ys = some ():=by
 unfold Jn
 rw [if_pos ⟨h1,h2⟩]
theorem mk_of {b : Nat} {n : Int} (h0 : 0≤n) (h1 : b * n.toNat≤281474976710656) (h2 : n.toNat≤9223372036854775807) : mk b n = some ():=by
 unfold mk
 rw [if_pos ⟨h0,h1,h2⟩]
theorem Uv {lo hi : Int} {n : Nat} (h0 : 0≤lo) (h1 : lo≤hi) (h2 : hi≤n) : Hd lo hi n = some ():=by
 unfold Hd
 rw [if_pos ⟨h0,by omega,by omega,by omega⟩]
end
def marks (k : Int) : Nat→List Int
 | 0 => []
 | n + 1 => k :: marks (k + 1) n
@[simp] theorem marks_length {k : Int} {n : Nat} : (marks k n).length = n:=by
 induction n generalizing k with
 | zero => rfl
 | succ n ih => simp [marks,ih]
end Go.VL
namespace Go.VL
section
variable {σ ρ : Type}
theorem Qo {body : σ→Option (σ ⊕ ρ)} (S : Nat→σ) (n : Nat) (h : ∀ i,i < n→body (S i) = some (.inl (S (i + 1)))) {r : ρ} (hr : body (S n) = some (.inr r)) : loopO body (S 0) = some r:=by
 have : ∀ k,k≤n→loopO body (S (n - k)) = some r:=fun k => by
  induction k with
  | zero => intro _; exact Xt hr
  | succ k ih =>
   intro hk
   rw [Uq (h (n - (k + 1)) (by omega)),show n - (k + 1) + 1 = n - k by omega]
   exact ih (by omega)
 have:=this n (Nat.le_refl _)
 rwa [Nat.sub_self] at this
theorem Wx {body : Int→Option (Int ⊕ ρ)} {n : Nat} (f : Nat→Option ρ) (done : ρ) (hbody : ∀ i : Nat,i < n→body (i : Int) = some (match f i with | none => .inl ((i + 1 : Nat) : Int) | some r => .inr r)) (hend : body (n : Int) = some (.inr done)) :
  loopO body 0 = some (((List.range n).findSome? f).getD done):=by
 have : ∀ k,k≤n→loopO body ((n - k : Nat) : Int) = some (((List.range' (n - k) k).findSome? f).getD done):=fun k => by
  induction k with
  | zero => intro _; simpa using Xt hend
  | succ k ih =>
   intro hk
   rw [List.range'_succ,List.findSome?_cons]
   have hb:=hbody (n - (k + 1)) (by omega)
   cases hf : f (n - (k + 1)) with
   | none =>
    rw [hf] at hb
    rw [Uq hb,show n - (k + 1) + 1 = n - k by omega]
    exact ih (by omega)
   | some r =>
    rw [hf] at hb
    simpa using Xt hb
 have:=this n (Nat.le_refl _)
 rw [Nat.sub_self] at this
 rw [List.range_eq_range']
 exact this
end
theorem Xj {i : Nat} (h : i < 4611686018427387904) : aI .i64 (i : Int) 1 = ((i + 1 : Nat) : Int):=succ64 h
theorem range_none {ρ : Type} {n : Nat} {f : Nat→Option ρ} : (List.range n).findSome? f = none ↔ ∀ i,i < n→f i = none:=by
 rw [List.findSome?_eq_none_iff]
 simp
theorem range_some {ρ : Type} : ∀ {n : Nat} {f : Nat→Option ρ} {r : ρ},(List.range n).findSome? f = some r→∃ i,i < n∧f i = some r∧∀ j,j < i→f j = none:=by
 intro n f r h
 rw [List.range_eq_range'] at h
 have : ∀ (k s : Nat),(List.range' s k).findSome? f = some r→∃ i,s≤i∧i < s + k∧f i = some r∧∀ j,s≤j→j < i→f j = none:=fun k => by
  induction k with
  | zero => intro s h; simp at h
  | succ k ih =>
   intro s h
   rw [List.range'_succ,List.findSome?_cons] at h
   cases hf : f s with
   | some r' =>
    rw [hf] at h
    simp at h
    subst h
    exact ⟨s,Nat.le_refl _,by omega,hf,fun j h1 h2 => by omega⟩
   | none =>
    rw [hf] at h
    obtain ⟨i,h1,h2,h3,h4⟩:=ih (s + 1) h
    refine ⟨i,by omega,by omega,h3,fun j h5 h6 => ?_⟩
    by_cases hj : j = s
    ·subst hj; exact hf
    ·exact h4 j (by omega) h6
 obtain ⟨i,_,h2,h3,h4⟩:=this n 0 h
 exact ⟨i,by omega,h3,fun j hj => h4 j (by omega) hj⟩
end Go.VL

namespace Go.VL
open Go.RowKit
set_option linter.unusedSimpArgs false
set_option linter.unusedVariables false
def iterO {α β : Type} (body : (α→Option β)→α→Option β) : Nat→α→Option β
 | 0 => fun _ => none
 | n + 1 => body (iterO body n)
open Classical in
def fzF (F : List V→Option V) : List V→Option V:=fun a => (F a).map frz
theorem Zz.fz {P : Program} {f : FuncId} {F : List V→Option V} (h : Zz P f F) : Zz P f (fzF F):=⟨h.1,fun args r hr => by
 unfold fzF at hr
 rw [Option.map_eq_some_iff] at hr
 obtain ⟨r0,h0,rfl⟩:=hr
 exact fun w us hg hs => (h.2 args r0 h0 w us hg hs).mono fun e w' ⟨x,u,F,h1,h2,h3,h4⟩ => ⟨frz r0,u,F,h1,rfl,by subst h2; exact .fz h3 rfl,h4⟩⟩
theorem fzF_eq {F : List V→Option V} {a : List V} {r : V} (h : F a = some r) : fzF F a = some (frz r):=by simp [fzF,h]
end Go.VL
namespace Go.VL
def Yp (k : FloatKind) (x : Option Nat) : Prop:=∃ b,x = some b∧(Lit.float k b).wf = true
end Go.VL
namespace Go.VL
section
variable {P : Program} {C : Uy} {Q : Exit→VS→Prop} {st : VS}
def VRounds (P : Program) (c : Code) (Q : Exit→VS→Prop) : Nat→VS→Prop
 | 0,_ => False
 | n + 1,st => VW P c (vthen (VRounds P c Q n) Q) st
theorem VRounds.step {c : Code} {n : Nat} (h : VW P c (vthen (VRounds P c Q n) Q) st) : VRounds P c Q (n + 1) st:=h
theorem VRounds.rounds {c : Code} : ∀ {n : Nat} {st : VS},VRounds P c Q n st→∀ (N : Fr) (w0 : World × List Value) (a : Act) (w : World) (φ : Pl),SR P N w0 st a w φ→Code.rounds P c (fun e a' w' => ∃ st' φ',Q e st'∧SR P N w0 st' a' w' φ') n a w
 | 0,_,h,_,_,_,_,_,_ => h.elim
 | n + 1,st,h,N,w0,a,w,φ,hs => by
  rw [rounds_succ]
  refine wp_mono (h N w0 a w φ hs) fun e a' w' ⟨s',φ',h1,h2⟩ => ?_
  cases e with
  | normal => exact VRounds.rounds (n:=n) h1 N w0 a' w' φ' h2
  | exit id => exact ⟨s',φ',h1,h2⟩
  | goto l => exact ⟨s',φ',h1,h2⟩
  | ret => exact ⟨s',φ',h1,h2⟩
  | panic c => exact ⟨s',φ',h1,h2⟩
  | outgrown => exact ⟨s',φ',h1,h2⟩
theorem VW.rounds {c : Code} (n : Nat) (h : VRounds P c Q n st) : VW P (.loop c) Q st:=fun N w0 a w φ hs => wp_loop_rounds n (h.rounds N w0 a w φ hs)
def toStK0 (x : Option VS) (t' : List V) (m' : VM) (g' : List V) : Prop :=
 match x with
 | some s => leL s.t t'∧s.m.take m'.length = m'∧m'.length≤s.m.length∧s.g = g'
 | none => False
structure toStK (x : Option VS) (t' : List V) (m' : VM) (g' : List V) : Prop where
 of ::
 out : toStK0 x t' m' g'
@[simp] theorem toStK_some {s : VS} {t' : List V} {m' : VM} {g' : List V} : toStK (some s) t' m' g' = (leL s.t t'∧s.m.take m'.length = m'∧m'.length≤s.m.length∧s.g = g'):=propext ⟨fun h => h.out,fun h => ⟨h⟩⟩
@[simp] theorem toStK_none {t' : List V} {m' : VM} {g' : List V} : toStK none t' m' g' = False:=propext ⟨fun h => h.out,fun h => h.elim⟩
theorem toStK.get {x : Option VS} {t' : List V} {m' : VM} {g' : List V} (h : toStK x t' m' g') : ∃ t m,x = some { t:=t,m:=m,g:=g' }∧leL t t'∧m.take m'.length = m'∧m'.length≤m.length:=by
 cases x with
 | none => exact h.out.elim
 | some s => obtain ⟨h1,h2,h3,h4⟩:=h.out; subst h4; exact ⟨s.t,s.m,rfl,h1,h2,h3⟩
theorem fgt_refl (t : List V) : fgt t t:=by
 induction t with
 | nil => simp [fgt]
 | cons v t ih => simp [fgt,ih]
theorem VW.evalK1 {id : Nat} {l : List Oper} (t' : List V) (m' : VM) (g' : List V) (hC : C.Ok P) (hg : Xm l.toArray l.length none l = true) (h : toStK (Wj P C l.toArray l.length none l st) t' m' g')
  (ht : t'.all (Zx m'.length) = true) (hb : bndM m'.length m' = true) (hgg : g'.all (Zx m'.length) = true) (hQ : Q .normal { t:=t',m:=m',g:=g' }) : VW P (.region id l.toArray false) Q st:=by
 obtain ⟨t,m,h1,h2,h3,h4⟩:=h.get
 exact Ws (.eval hC hg h1 ⟨_,(Qx h2).trans (Qg.to (t:=t') (t':=t') (m:=m) (m':=m') m'.length (fgt_refl _) h3 h4 ht hb hgg),hQ⟩)
end
end Go.VL
namespace Go.VL
section
variable {P : Program} {Q : Exit→VS→Prop} {st : VS}
theorem VRounds.join {σ : Type} {c : Code} {n : Nat} (H : σ→VS) (K : σ→Prop) (h : VW P c (vthen (fun s => ∃ v,K v∧Qg s (H v)) Q) st) (hj : ∀ v,K v→VRounds P c Q n (H v)) : VRounds P c Q (n + 1) st:=by
 refine h.mono fun e s hq => ?_
 cases e with
 | normal =>
  obtain ⟨v,h1,h2⟩:=hq
  have:=hj v h1
  cases n with
  | zero => exact this.elim
  | succ n => exact VW.ent h2 this
 | exit id => exact hq
 | goto l => exact hq
 | ret => exact hq
 | panic c => exact hq
 | outgrown => exact hq
end
end Go.VL
namespace Go.VL
set_option linter.unusedVariables false
set_option linter.unusedSimpArgs false
def nlE : List (List V)→List (List V)→Prop
 | [],[] => True
 | a :: s,b :: t => nlL a b∧nlE s t
 | _,_ => False
theorem nlL_get : ∀ {a b : List V},nlL a b→a.length = b.length∧∀ (i : Nat) (v : V),b[i]? = some v→∃ v0,a[i]? = some v0∧nl1 v0 v
 | [],[],_ => ⟨rfl,by simp⟩
 | x :: a,y :: b,h => by
  obtain ⟨h1,h2⟩:=nlL_get h.2
  refine ⟨by simp [h1],fun i v hi => ?_⟩
  cases i with
  | zero => simp at hi; subst hi; exact ⟨x,rfl,h.1⟩
  | succ i => exact h2 i v (by simpa using hi)
 | [],_ :: _,h => h.elim
 | _ :: _,[],h => h.elim
theorem nlL_append : ∀ {a b c d : List V},nlL a b→nlL c d→nlL (a ++ c) (b ++ d)
 | [],[],_,_,_,h => h
 | x :: a,y :: b,_,_,h,k => ⟨h.1,nlL_append h.2 k⟩
 | [],_ :: _,_,_,h,_ => h.elim
 | _ :: _,[],_,_,h,_ => h.elim
theorem nlE_flat : ∀ {a b : List (List V)},nlE a b→nlL a.flatten b.flatten∧a.length = b.length∧∀ n,(∀ l ∈ a,l.length = n)→∀ l ∈ b,l.length = n
 | [],[],_ => ⟨trivial,rfl,fun _ _ l h => by cases h⟩
 | x :: a,y :: b,h => by
  obtain ⟨h1,h2,h3⟩:=nlE_flat h.2
  refine ⟨nlL_append h.1 h1,by simp [h2],fun n hn l hl => ?_⟩
  rcases List.mem_cons.1 hl with rfl | hl
  ·rw [← (nlL_get h.1).1]; exact hn x (by simp)
  ·exact h3 n (fun l hl => hn l (by simp [hl])) l hl
 | [],_ :: _,h => h.elim
 | _ :: _,[],h => h.elim
@[simp] theorem nlE_rep {q : Nat} {a b : List V} (h : nlL a b) : nlE (List.replicate q a) (List.replicate q b):=by
 induction q with
 | zero => exact trivial
 | succ q ih => exact ⟨h,ih⟩
theorem nl1_cases {a b : V} (h : nl1 a b) : a = b∨(a = .nil∧∃ n,b = .own n []):=by
 unfold nl1 at h
 split at h
 ·exact .inr ⟨rfl,_,rfl⟩
 ·exact .inl h
theorem Qg.nils {t g : List V} {m : VM} (b : Nat) {n : Nat} {es es' : List (List V)} (m' : VM) (hb : m[b]? = some (some (n,es))) (hE : nlE es es') (hm' : m.set b (some (n,es')) = m') : Qg { t:=t,m:=m,g:=g } { t:=t,m:=m',g:=g }:=by
 subst hm'
 intro P N w0 a w φ hs
 have hblt : b < m.length:=(List.getElem?_eq_some_iff.1 hb).1
 obtain ⟨f1,f2,f3⟩:=nlE_flat hE
 obtain ⟨f4,f5⟩:=nlL_get f1
 generalize hM : m.set b (some (n,es')) = M
 have hget : ∀ x y,M[x]? = some (some y)→(x = b∧y = (n,es')∨x ≠ b∧m[x]? = some (some y)):=fun x y h => by
  rw [← hM,List.getElem?_set] at h
  split at h
  ·rename_i h2
   simp at h; exact .inl ⟨h2.symm,h.symm⟩
  ·rename_i h2
   exact .inr ⟨fun e => h2 e.symm,h⟩
 have hO : ∀ k,Ye φ M k→Ye φ m k:=fun k ⟨x,y,po,q,h1,h2⟩ => by
  rcases hget x y h1 with ⟨rfl,_⟩ | ⟨_,h3⟩
  ·exact ⟨x,_,po,q,hb,h2⟩
  ·exact ⟨x,y,po,q,h3,h2⟩
 have hev : Ev w (Ye φ m) φ w (Ye φ M) φ:=⟨fun k _ ho => ⟨rfl,fun hl => ho (hO k hl)⟩,fun _ _ h => h,fun _ _ h => h⟩
 refine ⟨φ,hs.defers,hs.size,fun i v hi => ?_,⟨fun x k es1 p h1 h2 => ?_,hs.mem.new,fun x p h => ?_,hs.mem.inj,?_⟩,hs.below,hs.start,Sl.ev hev hs.gh,hs.gl⟩
 ·obtain ⟨u,u1,u2⟩:=hs.tmps i v hi
  exact ⟨u,u1,u2.ev hev⟩
 ·rcases hget x _ h1 with ⟨rfl,h3⟩ | ⟨_,h3⟩
  ·simp only [Prod.mk.injEq] at h3
   obtain ⟨rfl,rfl⟩:=h3
   obtain ⟨c1,pb,po,c,ty,c2,c3,c4,c5⟩:=hs.mem.at_ x _ _ _ hb h2
   refine ⟨f3 _ c1,pb,po,c,ty,c2,c3,by rw [← f2]; exact c4,fun i v hi => ?_⟩
   obtain ⟨v0,g1,g2⟩:=f5 i v hi
   obtain ⟨u,d1,d2,d3⟩:=c5 i v0 g1
   refine ⟨u,d1,d2,?_⟩
   rcases nl1_cases g2 with rfl | ⟨rfl,n',rfl⟩
   ·exact d3.ev hev
   ·cases d3
    exact .own .slnil
  ·obtain ⟨c1,pb,po,c,ty,c2,c3,c4,c5⟩:=hs.mem.at_ x k es1 _ h3 h2
   exact ⟨c1,pb,po,c,ty,c2,c3,c4,fun i v hi => by
    obtain ⟨u,d1,d2,d3⟩:=c5 i v hi
    exact ⟨u,d1,d2,d3.ev hev⟩⟩
 ·have:=hs.mem.dom x p h
  rw [← hM]; simpa using this
 ·obtain ⟨ψ,hψ⟩:=hs.mem.own
  refine ⟨ψ,fun x k es1 pb po bn i n1 e1 h1 h2 h3 => ?_⟩
  rcases hget x _ h1 with ⟨rfl,h4⟩ | ⟨_,h4⟩
  ·simp only [Prod.mk.injEq] at h4
   obtain ⟨rfl,rfl⟩:=h4
   obtain ⟨v0,g1,g2⟩:=f5 i _ h3
   rcases nl1_cases g2 with rfl | ⟨rfl,n',hn'⟩
   ·obtain ⟨u,F,f1,f2,f3,f4⟩:=hψ x _ es pb po bn i n1 e1 hb h2 g1
    exact ⟨u,F,f1,f2,f3,fun q hq => by
     obtain ⟨a1,a2,a3,a4⟩:=f4 q hq
     exact ⟨a1,a2,a3,fun hl => a4 (hO q hl)⟩⟩
   ·cases hn'
    obtain ⟨c1,pb',po',c,ty,c2,c3,c4,c5⟩:=hs.mem.at_ x _ _ _ hb h2
    rw [h2] at c2
    simp at c2
    obtain ⟨rfl,rfl,rfl⟩:=c2
    obtain ⟨u,d1,d2,d3⟩:=c5 i .nil g1
    cases d3
    exact ⟨_,[],Km c3 d1,.ownnil,by simp,by simp⟩
  ·obtain ⟨u,F,f1,f2,f3,f4⟩:=hψ x k es1 pb po bn i n1 e1 h4 h2 h3
   exact ⟨u,F,f1,f2,f3,fun q hq => by
    obtain ⟨a1,a2,a3,a4⟩:=f4 q hq
    exact ⟨a1,a2,a3,fun hl => a4 (hO q hl)⟩⟩
end Go.VL
namespace Go.VL
@[simp high] theorem tm_bnd0 {n k : Nat} : ((tm n []).all (Zx k) = true) = True:=eq_true (tm_bnd (by rfl))
end Go.VL

namespace Go.VL
open Go.RowKit
set_option linter.unusedSimpArgs false
set_option linter.unusedVariables false
theorem TellsX.of {P : Program} {f : FuncId} {F : List V→Option V} {fn : Func} {e : Array Value→Sem Value} (h1 : P.funcs[f]? = some fn) (h2 : (fn.name == "runtime.NumGoroutine") = false) (h3 : fn.body.isNone = true) (h4 : Extern.findNext fn = none) (h5 : Extern.find fn = some e)
  (h : ∀ args r,F args = some r→Yn r = true∧∀ (w : World) (us : List Value),Sl w (fun _ => False) Wi args us→∃ u n,(e us.toArray).run P w = .ok u (w.drewN n)∧S w (fun _ => False) Wi r u) : TellsX P f F:=⟨fn,e,h1,h2,h3,h4,h5,h⟩
theorem Sl.one {w : World} {O : Nat→Prop} {φ : Pl} {v : V} {us : List Value} (h : Sl w O φ [v] us) : ∃ u,us = [u]∧S w O φ v u:=by
 cases h with
 | cons h hs => cases hs; exact ⟨_,rfl,h⟩
theorem Sl.two {w : World} {O : Nat→Prop} {φ : Pl} {v v' : V} {us : List Value} (h : Sl w O φ [v,v'] us) : ∃ u u',us = [u,u']∧S w O φ v u∧S w O φ v' u':=by
 cases h with
 | cons h hs =>
  obtain ⟨u',rfl,h'⟩:=hs.one
  exact ⟨_,_,rfl,h,h'⟩
def f32bits (x : Option Nat) : Option Int:=x.map fun b => (b : Int)
def Gi : List V→Option V
 | [.f .f32 (some b)] => some (.i .u32 b)
 | _ => none
theorem f32bits_F {x : Option Nat} {v : Int} (h : f32bits x = some v) : Gi [.f .f32 x] = some (.i .u32 v):=by
 cases x with
 | none => cases h
 | some b => cases h; rfl
theorem xbits32 {P : Program} : ∀ args r,Gi args = some r→Yn r = true∧∀ (w : World) (us : List Value),Sl w (fun _ => False) Wi args us→∃ u n,(Extern.MathFloatBits.float32bits us.toArray).run P w = .ok u (w.drewN n)∧S w (fun _ => False) Wi r u:=by
 intro args r h
 unfold Gi at h
 split at h
 ·cases h
  refine ⟨rfl,fun w us hs => ?_⟩
  obtain ⟨u,rfl,hu⟩:=hs.one
  cases hu
  exact ⟨_,0,rfl,.i⟩
 ·cases h
def f32of (n : Int) : Option Nat:=some n.toNat
def FXof32 : List V→Option V
 | [.i .u32 n] => some (.f .f32 (f32of n))
 | _ => none
@[simp] theorem f32of_F {n : Int} : FXof32 [.i .u32 n] = some (.f .f32 (f32of n)):=rfl
def f64bits (x : Option Nat) : Option Int:=x.map fun b => (b : Int)
def FXbits64 : List V→Option V
 | [.f .f64 (some b)] => some (.i .u64 b)
 | _ => none
theorem f64bits_F {x : Option Nat} {v : Int} (h : f64bits x = some v) : FXbits64 [.f .f64 x] = some (.i .u64 v):=by
 cases x with
 | none => cases h
 | some b => cases h; rfl
theorem xbits64 {P : Program} : ∀ args r,FXbits64 args = some r→Yn r = true∧∀ (w : World) (us : List Value),Sl w (fun _ => False) Wi args us→∃ u n,(Extern.MathFloatBits.float64bits us.toArray).run P w = .ok u (w.drewN n)∧S w (fun _ => False) Wi r u:=by
 intro args r h
 unfold FXbits64 at h
 split at h
 ·cases h
  refine ⟨rfl,fun w us hs => ?_⟩
  obtain ⟨u,rfl,hu⟩:=hs.one
  cases hu
  exact ⟨_,0,rfl,.i⟩
 ·cases h
def f64of (n : Int) : Option Nat:=some n.toNat
def FXof64 : List V→Option V
 | [.i .u64 n] => some (.f .f64 (f64of n))
 | _ => none
@[simp] theorem f64of_F {n : Int} : FXof64 [.i .u64 n] = some (.f .f64 (f64of n)):=rfl
theorem xof64 {P : Program} : ∀ args r,FXof64 args = some r→Yn r = true∧∀ (w : World) (us : List Value),Sl w (fun _ => False) Wi args us→∃ u n,(Extern.MathFloatBits.float64frombits us.toArray).run P w = .ok u (w.drewN n)∧S w (fun _ => False) Wi r u:=by
 intro args r h
 unfold FXof64 at h
 split at h
 ·cases h
  refine ⟨rfl,fun w us hs => ?_⟩
  obtain ⟨u,rfl,hu⟩:=hs.one
  cases hu
  exact ⟨_,0,rfl,.f⟩
 ·cases h
def roundE (x : Option Nat) : Option Nat:=x.bind fun b => match FloatKind.f64.decode b with
 | .nan _ _ => none
 | d => some (FloatKind.f64.encode (d.integral .even))
def FXround : List V→Option V
 | [.f .f64 x] => some (.f .f64 (roundE x))
 | _ => none
@[simp] theorem roundE_F {x : Option Nat} : FXround [.f .f64 x] = some (.f .f64 (roundE x)):=rfl
def Hz (k : FloatKind) (n : Int) : Option Nat:=some (k.nearest n)
def iOfF (ks : FloatKind) (k : IntKind) (x : Option Nat) : Option Int:=x.bind fun b => floatToIntVal ks b k
@[simp] theorem vc_fi {A : TK} {k : FloatKind} {k' : IntKind} {n : Int} (h : A ≠ .other) : Kq A (.flt k) (.i k' n) = some (.f k (Hz k n)):=by simp [Kq,h,Hz]
@[simp] theorem vc_if {A : TK} {k : IntKind} {ks : FloatKind} {x : Option Nat} (h : A ≠ .other) : Kq A (.int k) (.f ks x) = (iOfF ks k x).map (.i k):=by
 simp only [Kq,if_neg h,iOfF]
 cases x.bind fun b => floatToIntVal ks b k <;> rfl
@[simp] theorem vc_wide {A : TK} {x : Option Nat} (h : A ≠ .other) : Kq A (.flt .f64) (.f .f32 x) = some (.f .f64 (Xn x)):=by simp [Kq,h,fconv_wide]
@[simp] theorem vc_same {A : TK} {k : FloatKind} {x : Option Nat} (h : A ≠ .other) : Kq A (.flt k) (.f k x) = some (.f k x):=by simp [Kq,h,Hy]
def narrowF (x : Option Nat) : Option (Option Nat):=Hy .f64 .f32 x
@[simp] theorem vc_narrow {A : TK} {x : Option Nat} (h : A ≠ .other) : Kq A (.flt .f32) (.f .f64 x) = (narrowF x).map (.f .f32):=by simp [Kq,h,narrowF]
@[simp] theorem vcm_other {P : Program} {m : VM} {T D : TK} {x : V} (h : ∀ e,T ≠ .slice e) : Hn P m T D x = Kq T D x:=by
 unfold Hn
 split
 ·exact absurd rfl (h _)
 ·rfl
@[simp] theorem vcm_bytes {P : Program} {m : VM} {e : Nat} {x : V} (h : tk P e = .int .u8) : Hn P m (.slice e) .str x = (vbytes m x).map fun ns => .str (strOfNums ns):=by
 simp [Hn,h]
end Go.VL

namespace Go.VL
open Go.RowKit
set_option linter.unusedSimpArgs false
set_option linter.unusedVariables false
theorem word_mod {f : Ieee.Format} {neg : Bool} {r : Nat} (h : r < f.signWeight) : f.word neg r % f.signWeight = r:=by
  unfold Ieee.Format.word
  split
  · rw [Nat.add_mod_left]; exact Nat.mod_eq_of_lt h
  · exact Nat.mod_eq_of_lt h
theorem read_num {f : Ieee.Format} {neg : Bool} {r : Nat} (h : r≤f.infRung) (h2 : f.infRung < f.signWeight) : (f.read (f.word neg r)).isNaN = false:=by
  rw [Bool.eq_false_iff]
  intro hn
  have:=read_nan.1 hn
  rw [word_mod (by omega)] at this
  omega
theorem inf_lt (k : FloatKind) : k.format.infRung < k.format.signWeight:=by cases k <;> decide
theorem nearest_num (k : FloatKind) (s : Bool) (m : Nat) (e : Int) : (k.decode (k.encode (.number s m e))).isNaN = false:=by
  show (k.format.read (k.format.nearest s m e)).isNaN = false
  unfold Ieee.Format.nearest
  split
  · exact read_num (by omega) (inf_lt k)
  · exact read_num (Nat.min_le_right _ _) (inf_lt k)
theorem order_self {k : FloatKind} {b : Nat} (h : (k.decode b).isNaN = false) : k.format.order b b = some .eq:=by
  have : ∀ d : Ieee.Datum,d.isNaN = false→d.order d = some .eq:=fun d hd => by
    cases d with
    | number s m e => simp [Ieee.Datum.order]
    | infinity s => simp [Ieee.Datum.order]
    | nan s t => cases hd
  exact this _ h
theorem ford_self {k : FloatKind} {b : Nat} (h : (k.decode b).isNaN = false) : Hr k (some b) (some b) = some .eq:=order_self h
end Go.VL

namespace Go.VL
open Go.RowKit
set_option linter.unusedSimpArgs false
set_option linter.unusedVariables false
section
variable {P : Program} {C : Uy} {ops : Array Oper} {Q : Exit→VS→Prop} {st : VS}
theorem wp_mono2 {o : Oper} {a : Act} {w : World} {K K' : Act→World→Prop} {Q Q' : Exit→Act→World→Prop} (h : ∀ a w,K a w→K' a w) (hq : ∀ e a w,e ≠ .normal→Q e a w→Q' e a w) (hh : o.wp P a w K Q) : o.wp P a w K' Q':=by
 unfold Oper.wp at *
 generalize (execOp a.eval o).run P w = r at *
 cases r with
 | ok n w' =>
  cases n <;> simp only [Oper.upon] at hh ⊢ <;>
   first
    | exact h _ _ hh
    | exact Calls.mono hh (fun e w'' he => by cases e <;> first | exact h _ _ he | exact hq _ _ _ (by simp) he | (obtain ⟨a,w,h1⟩:=he; exact ⟨a,w,hq _ _ _ (by simp) h1⟩))
    | exact Rows.mono hh (fun _ _ he => h _ _ he)
 | halt x w' => cases x <;> simp only [Oper.upon] at hh ⊢ <;> first | exact hh | exact hq _ _ _ (by simp) hh
def VO (P : Program) (ops : Array Oper) (Q : Exit→VS→Prop) (o : Oper) (K : VS→Prop) (st : VS) : Prop:=VL P ops (fun e s => (e = .normal∧K s)∨(e ≠ .normal∧Q e s)) [o] st
def VA (P : Program) (ops : Array Oper) (Q : Exit→VS→Prop) (n : Nat) (listed : Array Bool) (st : VS) : Prop :=
 ∀ (N : Fr) (w0 : World × List Value) (a : Act) (w : World) (φ : Pl),SR P N w0 st a w φ→wpAny P .any ops (fun e a' w' => ∃ st' φ',Q e st'∧SR P N w0 st' a' w' φ') n listed a w
theorem VA.stop {n : Nat} {listed : Array Bool} (h0 : Region.ready .any ops listed = []) (h : Q .normal st) : VA P ops Q n listed st:=fun N w0 a w φ hs => by
 cases n with
 | zero => exact ⟨h0,st,φ,h,hs⟩
 | succ n => exact ⟨fun _ => ⟨st,φ,h,hs⟩,fun i hi => by rw [h0] at hi; cases hi⟩
theorem VA.step {n : Nat} {listed : Array Bool} (h0 : Region.ready .any ops listed ≠ []) (h : ∀ i ∈ Region.ready .any ops listed,∀ o,ops[i]? = some o→VO P ops Q o (VA P ops Q n (listed.setIfInBounds i true)) st) : VA P ops Q (n + 1) listed st:=fun N w0 a w φ hs => by
 refine ⟨fun h1 => absurd h1 h0,fun i hi => ?_⟩
 obtain ⟨_,o,ho,_⟩:=mem_ready.1 hi
 have h1:=h i hi o ho N w0 a w φ hs
 unfold wpList at h1
 unfold wpOp
 simp only [ho]
 have key : ∀ a' w',(∃ st' φ',((Exit.normal = .normal∧VA P ops Q n (listed.setIfInBounds i true) st')∨(Exit.normal ≠ .normal∧Q .normal st'))∧SR P N w0 st' a' w' φ')→wpAny P .any ops (fun e a' w' => ∃ st' φ',Q e st'∧SR P N w0 st' a' w' φ') n (listed.setIfInBounds i true) a' w':=fun a' w' ⟨s,φ',h2,h3⟩ => by
  rcases h2 with h2 | h2
  ·exact h2.2 N w0 a' w' φ' h3
  ·exact absurd rfl h2.1
 have keyQ : ∀ e a' w',e ≠ Exit.normal→(∃ st' φ',((e = .normal∧VA P ops Q n (listed.setIfInBounds i true) st')∨(e ≠ .normal∧Q e st'))∧SR P N w0 st' a' w' φ')→∃ st' φ',Q e st'∧SR P N w0 st' a' w' φ':=fun e a' w' he ⟨s,φ',h2,h3⟩ => by
  rcases h2 with h2 | h2
  ·exact absurd h2.1 he
  ·exact ⟨s,φ',h2.2,h3⟩
 split
 ·rename_i hw
  rw [if_pos hw] at h1
  rcases h1 with h1 | ⟨h1,h2⟩
  ·exact .inl (wp_mono2 key keyQ h1)
  ·refine .inr ⟨h1,?_⟩
   obtain ⟨a',w',h3⟩:=h2
   exact ⟨a',w',keyQ _ _ _ (by simp) h3⟩
 ·rename_i hw
  rw [if_neg hw] at h1
  exact key _ _ h1
theorem VW.any {id : Nat} (hm : P.follows .mixedOrders = true) (h : VA P ops Q ops.size (Array.replicate ops.size false) st) : VW P (.region id ops true) Q st:=fun N w0 a w φ hs => by
 refine wp_region_any hm ?_
 have hs1 : SR P N w0 st a (w.drewN 1) φ:=by
  obtain ⟨d1,d2⟩:=hs.mem.drewN 1
  exact ⟨hs.defers,hs.size,fun i v hi => by
   obtain ⟨u,b1,b2⟩:=hs.tmps i v hi
   exact ⟨u,b1,b2.ev d2⟩,d1,hs.below.trans (Ka N w 1),hs.start,Sl.ev d2 hs.gh,hs.gl⟩
 exact h N w0 a _ φ hs1
def VInE (P : Program) (rs : List ResultVar) (r : V) (m' : VM) (g' : List V) : Exit→VS→Prop
 | .normal,s | .ret,s => Qk P rs s = some r∧s.m = m'∧s.g = g'
 | _,_ => False
theorem VInE.fin {rs : List ResultVar} {r : V} {m' : VM} {g' : List V} {s : VS} (h1 : Qk P rs s = some r) (h2 : s.m = m') (h3 : s.g = g') : Qk P rs s = some r∧s.m = m'∧s.g = g':=⟨h1,h2,h3⟩
def TellsM (P : Program) (f : FuncId) (F : List V→Option V) : Prop :=
 ∃ fn c,P.funcs[f]? = some fn∧(fn.name != "runtime.NumGoroutine") = true∧fn.body = some c∧∀ cs vs r cs',F (.agg cs :: vs) = some (.tup [r,.agg cs']) →
  ∀ (g : List V) (m : VM) (b n : Nat),m[b]? = some (some (n,[cs]))→VW P c (VInE P fn.results.toList r (m.set b (some (n,[cs']))) g) { t:=(.ptr b 0 0 :: vs) ++ List.replicate (fn.ntmps - (vs.length + 1)) .any,m:=m,g:=g }
theorem TellsM.of {f : FuncId} {α β : Type} {g : α→Option β} {eA : α→List V} {eB : β→V} {fn : Func} {c : Code} {rs : List ResultVar} {k : Nat} (hf : P.funcs[f]? = some fn) (hname : (fn.name != "runtime.NumGoroutine") = true) (hb : fn.body = some c) (hk : fn.ntmps = k) (hr : fn.results.toList = rs)
  (h : ∀ a r,g a = some r→∀ cs vs v cs',eA a = .agg cs :: vs→eB r = .tup [v,.agg cs']→∀ (gg : List V) (m : VM) (b n : Nat),m[b]? = some (some (n,[cs])) →
   VW P c (VInE P rs v (m.set b (some (n,[cs']))) gg) { t:=(.ptr b 0 0 :: vs) ++ List.replicate (k - (vs.length + 1)) .any,m:=m,g:=gg }) : TellsM P f (tells g eA eB):=by
 subst hk hr
 refine ⟨fn,c,hf,hname,hb,fun cs vs r cs' hF => ?_⟩
 unfold tells at hF
 split at hF
 ·rename_i hh
  obtain ⟨h1,h2⟩:=hh.choose_spec
  exact h _ _ h2 cs vs r cs' h1 (Option.some.inj hF)
 ·cases hF
theorem VL.inM {o : Oper} {l : List Oper} {f : FuncId} {args : Array Operand} {ats : Array TypeId} {F : List V→Option V} {cs cs' vs : List V} {r : V} {b n : Nat} (hog : o.guard = none) (ho : o.op = .call { callee:=.value (.func f),args:=args,argTypes:=ats }) (hF : TellsM P f F)
  (ha : args.toList.map (ev st.t) = .ptr b 0 0 :: vs) (hb : st.m[b]? = some (some (n,[cs]))) (hc : F (.agg cs :: vs) = some (.tup [r,.agg cs']))
  (h : VL P ops Q l { t:=Xe st.t o.dst r,m:=st.m.set b (some (n,[cs'])),g:=st.g }) : VL P ops Q (o :: l) st:=by
 obtain ⟨fn,c,h1,h2,h3,h4⟩:=hF
 have hsz : args.size = vs.length + 1:=by
  have:=congrArg List.length ha
  simpa using this
 have h5:=h4 cs vs r cs' hc (st.t ++ st.g) st.m b n hb
 refine VL.inl hog ho h1 h2 h3 ?_
 rw [ha,hsz]
 refine h5.mono fun e s hq => ?_
 have key : Qk P fn.results.toList s = some r∧s.m = st.m.set b (some (n,[cs']))∧s.g = st.t ++ st.g→∃ v,Qk P fn.results.toList s = some v∧VL P ops Q l { t:=Xe (s.g.take st.t.length) o.dst v,m:=s.m,g:=s.g.drop st.t.length }:=fun ⟨k1,k2,k3⟩ => by
  refine ⟨r,k1,?_⟩
  rw [k2,k3,List.take_left,List.drop_left]
  exact h
 cases e with
 | normal => exact key hq
 | ret => exact key hq
 | exit id => exact hq.elim
 | goto l => exact hq.elim
 | panic c => exact hq.elim
 | outgrown => exact hq.elim
def Uy.OkM (P : Program) : Uy→Prop
 | [] => True
 | (g,F) :: C => TellsM P g F∧Uy.OkM P C
def menv : Uy→FuncId→Option (List V→Option V)
 | [],_ => none
 | (g,F) :: C,f => if f = g then some F else menv C f
theorem menv_ok : ∀ {C : Uy} {f : FuncId} {F : List V→Option V},C.OkM P→menv C f = some F→TellsM P f F
 | [],_,_,_,h => by cases h
 | (g,G) :: C,f,F,hC,h => by
  simp only [menv] at h
  split at h
  ·rename_i e; subst e; cases h; exact hC.1
  ·exact menv_ok hC.2 h
def doM (st : VS) (dst : Option Tmp) (F : List V→Option V) (l : List V) : Option VS:=match l with
 | .ptr b e j :: vs => if e + j = 0 then (match st.m[b]? with
  | some (some (n,[cs])) => (match F (.agg cs :: vs) with
   | some (.tup [r,.agg cs']) => some { t:=Xe st.t dst r,m:=st.m.set b (some (n,[cs'])),g:=st.g }
   | _ => none)
  | _ => none) else none
 | _ => none
theorem Qg.wk {t g : List V} {m M : VM} (hl : M.length = m.length) (h : ∀ (x n : Nat) (es' : List (List V)),M[x]? = some (some (n,es'))→∃ es : List (List V),m[x]? = some (some (n,es))∧es'.length = es.length∧((∀ l ∈ es,l.length = n)→∀ l ∈ es',l.length = n)∧∀ (i : Nat) (v : V),es'.flatten[i]? = some v→∃ v0,es.flatten[i]? = some v0∧(v0 = v∨v = .any)) : Qg { t:=t,m:=m,g:=g } { t:=t,m:=M,g:=g }:=by
 intro P N w0 a w φ hs
 have hO : ∀ k,Ye φ M k→Ye φ m k:=fun k ⟨x,y,po,q,h1,h2⟩ => by
  obtain ⟨es,h3,_⟩:=h x y.1 y.2 h1
  exact ⟨x,_,po,q,h3,h2⟩
 have hev : Ev w (Ye φ m) φ w (Ye φ M) φ:=⟨fun k _ ho => ⟨rfl,fun hl => ho (hO k hl)⟩,fun _ _ h => h,fun _ _ h => h⟩
 refine ⟨φ,hs.defers,hs.size,fun i v hi => ?_,⟨fun x k es1 p h1 h2 => ?_,hs.mem.new,fun x p h => ?_,hs.mem.inj,?_⟩,hs.below,hs.start,Sl.ev hev hs.gh,hs.gl⟩
 ·obtain ⟨u,u1,u2⟩:=hs.tmps i v hi
  exact ⟨u,u1,u2.ev hev⟩
 ·obtain ⟨es,h3,h4,h5,h6⟩:=h x k es1 h1
  obtain ⟨c1,pb,po,c,ty,c2,c3,c4,c5⟩:=hs.mem.at_ x k es _ h3 h2
  refine ⟨h5 c1,pb,po,c,ty,c2,c3,by rw [h4]; exact c4,fun i v hi => ?_⟩
  obtain ⟨v0,g1,g2⟩:=h6 i v hi
  obtain ⟨u,d1,d2,d3⟩:=c5 i v0 g1
  refine ⟨u,d1,d2,?_⟩
  rcases g2 with rfl | rfl
  ·exact d3.ev hev
  ·exact .any
 ·have:=hs.mem.dom x p h
  rw [hl]; exact this
 ·obtain ⟨ψ,hψ⟩:=hs.mem.own
  refine ⟨ψ,fun x k es1 pb po bn i n1 e1 h1 h2 h3 => ?_⟩
  obtain ⟨es,k3,k4,k5,k6⟩:=h x k es1 h1
  obtain ⟨v0,g1,g2⟩:=k6 i _ h3
  rcases g2 with rfl | g2
  ·obtain ⟨u,F,f1,f2,f3,f4⟩:=hψ x k es pb po bn i n1 e1 k3 h2 g1
   exact ⟨u,F,f1,f2,f3,fun q hq => by
    obtain ⟨a1,a2,a3,a4⟩:=f4 q hq
    exact ⟨a1,a2,a3,fun hl => a4 (hO q hl)⟩⟩
  ·cases g2
def killV (b : Nat) (v : V) : V:=if Wo b v = true then v else .any
def killE (b : Nat) (es : List (List V)) : List (List V):=if noBE b es = true then es else es.map (·.map (killV b))
def killM (b : Nat) : VM→VM
 | [] => []
 | none :: m => none :: killM b m
 | some (n,es) :: m => some (n,killE b es) :: killM b m
theorem killM_get (b : Nat) : ∀ (m : VM),(killM b m).length = m.length∧∀ (x n : Nat) (es' : List (List V)),(killM b m)[x]? = some (some (n,es'))→∃ es : List (List V),m[x]? = some (some (n,es))∧es' = killE b es
 | [] => ⟨rfl,fun x n es' h => by simp [killM] at h⟩
 | none :: m => by
  obtain ⟨h1,h2⟩:=killM_get b m
  refine ⟨by simp [killM,h1],fun x n es' h => ?_⟩
  cases x with
  | zero => simp [killM] at h
  | succ x => exact h2 x n es' (by simpa [killM] using h)
 | some (n0,es0) :: m => by
  obtain ⟨h1,h2⟩:=killM_get b m
  refine ⟨by simp [killM,h1],fun x n es' h => ?_⟩
  cases x with
  | zero =>
   simp [killM] at h
   exact ⟨es0,by simp [h.1],h.2.symm⟩
  | succ x => exact h2 x n es' (by simpa [killM] using h)
theorem Qg.killM {t g : List V} {m : VM} (b : Nat) : Qg { t:=t,m:=m,g:=g } { t:=t,m:=VL.killM b m,g:=g }:=by
 obtain ⟨h1,h2⟩:=killM_get b m
 refine Qg.wk h1 fun x n es' h => ?_
 obtain ⟨es,h3,h4⟩:=h2 x n es' h
 refine ⟨es,h3,?_⟩
 unfold killE at h4
 split at h4
 ·subst h4
  exact ⟨rfl,fun h => h,fun i v hv => ⟨v,hv,.inl rfl⟩⟩
 ·subst h4
  refine ⟨by simp,fun hn l hl => ?_,fun i v hv => ?_⟩
  ·obtain ⟨l0,e1,rfl⟩:=List.mem_map.1 hl
   simpa using hn l0 e1
  ·rw [← List.map_flatten] at hv
   simp only [List.getElem?_map,Option.map_eq_some_iff] at hv
   obtain ⟨v0,e1,rfl⟩:=hv
   refine ⟨v0,e1,?_⟩
   unfold killV
   split
   ·exact .inl rfl
   ·exact .inr rfl
def preM (st : VS) (o : Oper) : VS:=match o.op with
 | .call { callee:=.builtin .append,args:=args,argTypes:=ats } => (match args.toList.map (ev st.t) with
  | .ref b e len :: _ => { t:=st.t,m:=killM b st.m,g:=st.g }
  | _ => st)
 | _ => st
theorem preM_ent (st : VS) (o : Oper) : Qg st (preM st o):=by
 unfold preM
 split
 ·split
  ·exact Qg.killM _
  ·exact fun P N w0 a w φ hs => ⟨φ,hs⟩
 ·exact fun P N w0 a w φ hs => ⟨φ,hs⟩
theorem preM_t (st : VS) (o : Oper) : (preM st o).t = st.t:=by
 unfold preM
 split
 ·split <;> rfl
 ·rfl
def vstepM (P : Program) (C CM : Uy) (st : VS) (o : Oper) : Option VS :=
 match o.guard with
 | some _ => none
 | none => match o.op with
  | .call { callee:=.value (.func f),args:=args,argTypes:=ats } => match menv CM f with
   | some F => doM st o.dst F (args.toList.map (ev st.t))
   | none => vstep P C st o
  | _ => vstep P C (preM st o) o
theorem VL.stepM {CM : Uy} {o : Oper} {l : List Oper} {st1 : VS} (hC : C.Ok P) (hM : CM.OkM P) (h : vstepM P C CM st o = some st1) (hr : VL P ops Q l st1) : VL P ops Q (o :: l) st:=by
 unfold vstepM at h
 split at h
 ·cases h
 ·rename_i hg
  have hw : Zj ops st.t o = some true:=by unfold Zj; rw [hg]
  have old : vstep P C st o = some st1→VL P ops Q (o :: l) st:=fun h => by
   have:=(Ste.op hw h .nil).vl (Q:=Q) (rest:=l) hC hr
   simpa using this
  split at h
  ·rename_i f args ats ho
   split at h
   ·rename_i F hF
    unfold doM at h
    split at h
    ·rename_i b e j vs ha
     split at h
     ·rename_i hej
      have he : e = 0:=by omega
      have hj : j = 0:=by omega
      subst he hj
      split at h
      ·rename_i n cs hb
       split at h
       ·rename_i r cs' hc
        cases h
        exact VL.inM hg ho (menv_ok hM hF) ha hb hc hr
       ·cases h
      ·cases h
     ·cases h
    ·cases h
   ·exact old h
  ·refine VL.ent (preM_ent st o) ?_
   have hw' : Zj ops (preM st o).t o = some true:=by rw [preM_t]; exact hw
   have:=(Ste.op hw' h .nil).vl (Q:=Q) (rest:=l) hC hr
   simpa using this
def vseqM (P : Program) (C CM : Uy) : List Oper→VS→Option VS
 | [],st => some st
 | o :: l,st => (vstepM P C CM st o).bind (vseqM P C CM l)
theorem VL.seqM {CM : Uy} (hC : C.Ok P) (hM : CM.OkM P) : ∀ {l l' : List Oper} {st st1 : VS},vseqM P C CM l st = some st1→VL P ops Q l' st1→VL P ops Q (l ++ l') st
 | [],_,_,_,h,hr => by cases h; exact hr
 | o :: l,l',st,st1,h,hr => by
  unfold vseqM at h
  cases h1 : vstepM P C CM st o with
  | none => simp [h1] at h
  | some s => rw [h1] at h; exact VL.stepM hC hM h1 (VL.seqM hC hM h hr)
theorem VW.evalM {CM : Uy} {id : Nat} {l : List Oper} (t' : List V) (m' : VM) (g' : List V) (hC : C.Ok P) (hM : CM.OkM P) (h : toSt (vseqM P C CM l st) t' m' g') (hQ : Q .normal { t:=t',m:=m',g:=g' }) : VW P (.region id l.toArray false) Q st:=by
 obtain ⟨t,h1,h2⟩:=h.get
 have:=VL.seqM (ops:=l.toArray) (Q:=fun e s => ∃ s',Qg s s'∧Q e s') (l':=[]) hC hM h1 (VL.nil ⟨_,Qx h2,hQ⟩)
 exact Ws (VW.region (by simpa using this))
theorem VL.evalM {CM : Uy} {l : List Oper} (i : Nat) (t' : List V) (m' : VM) (g' : List V) (hC : C.Ok P) (hM : CM.OkM P) (h : toSt (vseqM P C CM (l.take i) st) t' m' g') (hQ : VL P ops (fun e s => ∃ s',Qg s s'∧Q e s') (l.drop i) { t:=t',m:=m',g:=g' }) : VL P ops (fun e s => ∃ s',Qg s s'∧Q e s') l st:=by
 obtain ⟨t,h1,h2⟩:=h.get
 have:=VL.seqM (ops:=ops) (Q:=fun e s => ∃ s',Qg s s'∧Q e s') (l':=l.drop i) hC hM h1 (VL.ent (Qx h2) hQ)
 rwa [List.take_append_drop] at this
def exts (ops : Array Oper) : Nat→Array Bool→List (List Nat)
 | 0,_ => [[]]
 | n + 1,listed => match Region.ready .any ops listed with
  | [] => [[]]
  | is => is.flatMap fun i => (exts ops n (listed.setIfInBounds i true)).map (i :: ·)
theorem exts_ne (ops : Array Oper) : ∀ (n : Nat) (listed : Array Bool),exts ops n listed ≠ []
 | 0,_ => by simp [exts]
 | n + 1,listed => by
  unfold exts
  split
  ·simp
  ·rename_i h
   cases hr : Region.ready .any ops listed with
   | nil => exact absurd hr h
   | cons i is' =>
    simp only [List.flatMap_cons,ne_eq,List.append_eq_nil_iff,List.map_eq_nil_iff,not_and]
    intro h1
    exact absurd h1 (exts_ne ops n _)
def opsAt (l : List Oper) : List Nat→List Oper
 | [] => []
 | i :: p => match l[i]? with
  | some o => o :: opsAt l p
  | none => []
theorem VA.of {CM : Uy} {l : List Oper} (hC : C.Ok P) (hM : CM.OkM P) : ∀ (n : Nat) (listed : Array Bool) (st : VS),(List.range l.length).countP (fun j => !listed.getD j true)≤n→(∀ p ∈ exts l.toArray n listed,∃ s,vseqM P C CM (opsAt l p) st = some s∧Q .normal s)→VA P l.toArray Q n listed st:=by
 intro n
 induction n with
 | zero =>
  intro listed st hc h
  obtain ⟨s,h1,h2⟩:=h [] (by simp [exts])
  cases h1
  refine VA.stop ?_ h2
  rw [List.eq_nil_iff_forall_not_mem]
  intro i hi
  obtain ⟨b,o,ho,_⟩:=mem_ready.1 hi
  have h3:=List.countP_eq_zero.1 (Nat.le_zero.1 hc) i (List.mem_range.2 (by simpa using (Array.getElem?_eq_some_iff.1 ho).1))
  rw [b] at h3
  simp at h3
 | succ n ih =>
  intro listed st hc h
  by_cases hr : Region.ready .any l.toArray listed = []
  ·unfold exts at h
   rw [hr] at h
   obtain ⟨s,h1,h2⟩:=h [] (by simp)
   cases h1
   exact VA.stop hr h2
  ·refine VA.step hr fun i hi o ho => ?_
   have hex : ∀ q ∈ exts l.toArray n (listed.setIfInBounds i true),i :: q ∈ exts l.toArray (n + 1) listed:=fun q hq => by
    rw [exts]
    split
    ·rename_i e; exact absurd e hr
    ·exact List.mem_flatMap.2 ⟨i,hi,List.mem_map.2 ⟨q,hq,rfl⟩⟩
   have hol : l[i]? = some o:=by simpa using ho
   have hstep : ∀ q ∈ exts l.toArray n (listed.setIfInBounds i true),∃ s,(vstepM P C CM st o).bind (vseqM P C CM (opsAt l q)) = some s∧Q .normal s:=fun q hq => by
    have:=h _ (hex q hq)
    unfold opsAt at this
    rw [hol] at this
    exact this
   obtain ⟨q0,hq0⟩:=List.exists_mem_of_ne_nil _ (exts_ne l.toArray n (listed.setIfInBounds i true))
   cases hs : vstepM P C CM st o with
   | none =>
    obtain ⟨s,e,_⟩:=hstep q0 hq0
    rw [hs] at e
    cases e
   | some st1 =>
    rw [hs] at hstep
    refine VL.stepM hC hM hs (VL.nil (.inl ⟨rfl,ih _ _ ?_ fun q hq => hstep q hq⟩))
    have hl : i < l.length:=by simpa using (Array.getElem?_eq_some_iff.1 ho).1
    have hli:=(mem_ready.1 hi).1
    have h4:=Kx (L:=fun j => listed.getD j true) hli l.length hl
    have h5 : (List.range l.length).countP (fun j => !(listed.setIfInBounds i true).getD j true) = (List.range l.length).countP (fun j => !(listed.getD j true || j == i)):=by
     refine List.countP_congr fun j hj => ?_
     by_cases hji : i = j
     ·subst hji
      have : (listed.setIfInBounds i true).getD i true = true:=by
       rw [Array.getD_eq_getD_getElem?]
       by_cases hlt : i < listed.size
       ·simp [hlt]
       ·simp [hlt]
      rw [this]
      simp
     ·rw [getD_set_ne true hji]
      have : (j == i) = false:=by simp; exact fun h => hji h.symm
      rw [this]
      simp
    omega
theorem VW.evalMA {CM : Uy} {id : Nat} {l : List Oper} (ps : List (List Nat)) (t' : List V) (m' : VM) (g' : List V) (hC : C.Ok P) (hM : CM.OkM P) (hm : P.follows .mixedOrders = true) (he : exts l.toArray l.length (Array.replicate l.length false) = ps)
  (h : ∀ p ∈ ps,toSt (vseqM P C CM (opsAt l p) st) t' m' g') (hQ : Q .normal { t:=t',m:=m',g:=g' }) : VW P (.region id l.toArray true) Q st:=by
 refine Ws (VW.any hm ?_)
 have:=VA.of (P:=P) (Q:=fun e s => ∃ s',Qg s s'∧Q e s') hC hM l.length (Array.replicate l.length false) st (by
  exact Nat.le_trans (List.countP_le_length (l:=List.range l.length)) (by simp)) (fun p hp => by
  rw [he] at hp
  obtain ⟨t,h1,h2⟩:=(h p hp).get
  exact ⟨_,h1,_,Qx h2,hQ⟩)
 simpa using this
end
def nr1 (a b : V) : Prop:=a = b∨(a = .nil∧∃ k,b = .ref k 0 0)
theorem nr1_cases {a b : V} (h : nr1 a b) : a = b∨(a = .nil∧∃ k,b = .ref k 0 0):=h
@[simp] theorem nr1_self {a : V} : nr1 a a:=.inl rfl
@[simp] theorem nr1_nil {k : Nat} : nr1 .nil (.ref k 0 0):=.inr ⟨rfl,k,rfl⟩
def nrL : List V→List V→Prop
 | [],[] => True
 | a :: s,b :: t => nr1 a b∧nrL s t
 | _,_ => False
def nrE : List (List V)→List (List V)→Prop
 | [],[] => True
 | a :: s,b :: t => nrL a b∧nrE s t
 | _,_ => False
attribute [simp] nrL nrE
theorem nrL_get : ∀ {a b : List V},nrL a b→a.length = b.length∧∀ (i : Nat) (v : V),b[i]? = some v→∃ v0,a[i]? = some v0∧nr1 v0 v
 | [],[],_ => ⟨rfl,fun i v h => by simp at h⟩
 | x :: a,y :: b,h => by
  obtain ⟨h1,h2⟩:=nrL_get h.2
  refine ⟨by simp [h1],fun i v hi => ?_⟩
  cases i with
  | zero => simp at hi; subst hi; exact ⟨x,rfl,h.1⟩
  | succ i => exact h2 i v (by simpa using hi)
 | [],_ :: _,h => h.elim
 | _ :: _,[],h => h.elim
theorem nrL_append : ∀ {a b c d : List V},nrL a b→nrL c d→nrL (a ++ c) (b ++ d)
 | [],[],_,_,_,h => h
 | x :: a,y :: b,_,_,h,k => ⟨h.1,nrL_append h.2 k⟩
 | [],_ :: _,_,_,h,_ => h.elim
 | _ :: _,[],_,_,h,_ => h.elim
theorem nrE_flat : ∀ {a b : List (List V)},nrE a b→nrL a.flatten b.flatten∧a.length = b.length∧∀ n,(∀ l ∈ a,l.length = n)→∀ l ∈ b,l.length = n
 | [],[],_ => ⟨trivial,rfl,fun _ _ l h => by cases h⟩
 | x :: a,y :: b,h => by
  obtain ⟨h1,h2,h3⟩:=nrE_flat h.2
  refine ⟨nrL_append h.1 h1,by simp [h2],fun n hn l hl => ?_⟩
  rcases List.mem_cons.1 hl with rfl | hl
  ·rw [← (nrL_get h.1).1]; exact hn x (by simp)
  ·exact h3 n (fun l hl => hn l (by simp [hl])) l hl
 | [],_ :: _,h => h.elim
 | _ :: _,[],h => h.elim
theorem Qg.nilr {t g : List V} {m : VM} (b : Nat) {n : Nat} {es es' : List (List V)} (m' : VM) (hb : m[b]? = some (some (n,es))) (hE : nrE es es') (hm' : m.set b (some (n,es')) = m') : Qg { t:=t,m:=m,g:=g } { t:=t,m:=m',g:=g }:=by
 subst hm'
 intro P N w0 a w φ hs
 have hblt : b < m.length:=(List.getElem?_eq_some_iff.1 hb).1
 obtain ⟨f1,f2,f3⟩:=nrE_flat hE
 obtain ⟨f4,f5⟩:=nrL_get f1
 generalize hM : m.set b (some (n,es')) = M
 have hget : ∀ x y,M[x]? = some (some y)→(x = b∧y = (n,es')∨x ≠ b∧m[x]? = some (some y)):=fun x y h => by
  rw [← hM,List.getElem?_set] at h
  split at h
  ·rename_i h2
   simp at h; exact .inl ⟨h2.symm,h.symm⟩
  ·rename_i h2
   exact .inr ⟨fun e => h2 e.symm,h⟩
 have hO : ∀ k,Ye φ M k→Ye φ m k:=fun k ⟨x,y,po,q,h1,h2⟩ => by
  rcases hget x y h1 with ⟨rfl,_⟩ | ⟨_,h3⟩
  ·exact ⟨x,_,po,q,hb,h2⟩
  ·exact ⟨x,y,po,q,h3,h2⟩
 have hev : Ev w (Ye φ m) φ w (Ye φ M) φ:=⟨fun k _ ho => ⟨rfl,fun hl => ho (hO k hl)⟩,fun _ _ h => h,fun _ _ h => h⟩
 refine ⟨φ,hs.defers,hs.size,fun i v hi => ?_,⟨fun x k es1 p h1 h2 => ?_,hs.mem.new,fun x p h => ?_,hs.mem.inj,?_⟩,hs.below,hs.start,Sl.ev hev hs.gh,hs.gl⟩
 ·obtain ⟨u,u1,u2⟩:=hs.tmps i v hi
  exact ⟨u,u1,u2.ev hev⟩
 ·rcases hget x _ h1 with ⟨rfl,h3⟩ | ⟨_,h3⟩
  ·simp only [Prod.mk.injEq] at h3
   obtain ⟨rfl,rfl⟩:=h3
   obtain ⟨c1,pb,po,c,ty,c2,c3,c4,c5⟩:=hs.mem.at_ x _ _ _ hb h2
   refine ⟨f3 _ c1,pb,po,c,ty,c2,c3,by rw [← f2]; exact c4,fun i v hi => ?_⟩
   obtain ⟨v0,g1,g2⟩:=f5 i v hi
   obtain ⟨u,d1,d2,d3⟩:=c5 i v0 g1
   refine ⟨u,d1,d2,?_⟩
   rcases nr1_cases g2 with rfl | ⟨rfl,k',rfl⟩
   ·exact d3.ev hev
   ·cases d3
    exact .refnil
  ·obtain ⟨c1,pb,po,c,ty,c2,c3,c4,c5⟩:=hs.mem.at_ x k es1 _ h3 h2
   exact ⟨c1,pb,po,c,ty,c2,c3,c4,fun i v hi => by
    obtain ⟨u,d1,d2,d3⟩:=c5 i v hi
    exact ⟨u,d1,d2,d3.ev hev⟩⟩
 ·have:=hs.mem.dom x p h
  rw [← hM]; simpa using this
 ·obtain ⟨ψ,hψ⟩:=hs.mem.own
  refine ⟨ψ,fun x k es1 pb po bn i n1 e1 h1 h2 h3 => ?_⟩
  rcases hget x _ h1 with ⟨rfl,h4⟩ | ⟨_,h4⟩
  ·simp only [Prod.mk.injEq] at h4
   obtain ⟨rfl,rfl⟩:=h4
   obtain ⟨v0,g1,g2⟩:=f5 i _ h3
   rcases nr1_cases g2 with rfl | ⟨rfl,k',hk'⟩
   ·obtain ⟨u,F,f1,f2,f3,f4⟩:=hψ x _ es pb po bn i n1 e1 hb h2 g1
    exact ⟨u,F,f1,f2,f3,fun q hq => by
     obtain ⟨a1,a2,a3,a4⟩:=f4 q hq
     exact ⟨a1,a2,a3,fun hl => a4 (hO q hl)⟩⟩
   ·cases hk'
  ·obtain ⟨u,F,f1,f2,f3,f4⟩:=hψ x k es1 pb po bn i n1 e1 h4 h2 h3
   exact ⟨u,F,f1,f2,f3,fun q hq => by
    obtain ⟨a1,a2,a3,a4⟩:=f4 q hq
    exact ⟨a1,a2,a3,fun hl => a4 (hO q hl)⟩⟩
theorem Qg.more {t g : List V} {m : VM} (l m' : VM) (h : m ++ l = m') : Qg { t:=t,m:=m,g:=g } { t:=t,m:=m',g:=g }:=fun P N w0 a w φ hs => ⟨φ,by subst h; exact hs.more l⟩
theorem Kz {t g : List V} {m : VM} (b n' : Nat) {n : Nat} {es es' : List (List V)} (m' : VM) (hb : m[b]? = some (some (n,es))) (hE : nrE es es') (hm' : m.set b (some (n,es')) ++ [some (n',[])] = m') : Qg { t:=t,m:=m,g:=g } { t:=t,m:=m',g:=g } :=
 (Qg.nilr b _ hb hE rfl).trans (Qg.more _ _ hm')
attribute [simp] vseqM vstepM doM menv opsAt preM killM killE killV Uy.OkM
end Go.VL

namespace Go.VL
open Go.RowKit
set_option linter.unusedSimpArgs false
set_option linter.unusedVariables false
section
variable {P : Program} {ops : Array Oper} {tr : List Jw} {t0 : List V}
def vs0 (P : Program) (U : List Nat) (m0 : VM) : Nat→List Oper→VS→Option VS
 | _,[],st => some st
 | j,o :: l,st => match o.guard with
  | some _ => none
  | none => match vq P (if Jj j U = true then m0 else st.m) (ev st.t) o.op with
   | some v => vs0 P U m0 (j + 1) l { t:=Xe st.t o.dst v,m:=st.m,g:=st.g }
   | none => if Jj j U = true then none else match Jx P st.m.length (ev st.t) o.op with
    | some (v,n,es) => vs0 P U m0 (j + 1) l { t:=Xe st.t o.dst v,m:=st.m ++ [some (n,es)],g:=st.g }
    | none => none
inductive D2 (P : Program) (ops : Array Oper) (M0 M1 : VM) (U : List Nat) : Nat→List Oper→List V→Nat→List Jw→List V→Prop
 | nil {j k : Nat} {t : List V} : D2 P ops M0 M1 U j [] t k [] t
 | op {j k cnt : Nat} {o : Oper} {l : List Oper} {t tf : List V} {r : V} {tr : List Jw} (hg : o.guard = none) (ho : OpY P o M0 (ev t) r k cnt) (ho1 : Jj j U = true→OpY P o M1 (ev t) r k cnt) (h : D2 P ops M0 M1 U (j + 1) l (Xe t o.dst r) (k + cnt) tr tf) : D2 P ops M0 M1 U j (o :: l) t k ((r,k,cnt) :: tr) tf
theorem D2.rows {M0 M1 : VM} {U : List Nat} : ∀ {l : List Oper} {t tf : List V} {k n : Nat} {tr' : List Jw},D2 P ops M0 M1 U n l t k tr' tf→(∀ j,j < l.length→l[j]? = ops[n + j]?)→(∀ j,j < l.length→tr'[j]? = tr[n + j]?)→t = TL ops tr t0 (fun _ => true) n →
  l.length = tr'.length∧(∀ (j : Nat) (o : Oper) (r : Jw),l[j]? = some o→tr'[j]? = some r→RowOk P ops M0 tr t0 (n + j) o r∧(Jj (n + j) U = true→RowOk P ops M1 tr t0 (n + j) o r))∧(∀ (j : Nat) (r : Jw),tr'[j]? = some r→k≤r.2.1)∧(∀ (i j : Nat) (r s : Jw),i < j→tr'[i]? = some r→tr'[j]? = some s→r.2.1 + r.2.2≤s.2.1)∧tf = TL ops tr t0 (fun _ => true) (n + l.length)
 | _,_,_,_,_,_,.nil,_,_,ht => by simp [ht]
 | _,_,_,k,n,_,.op (o:=o) (l:=l) (tr:=tr') (r:=r0) (cnt:=cnt) hg ho0 ho1 h,hl,htr,ht => by
  have h0:=hl 0 (by simp)
  have h1:=htr 0 (by simp)
  simp at h0 h1
  have hstep : Xe (TL ops tr t0 (fun _ => true) n) o.dst r0 = TL ops tr t0 (fun _ => true) (n + 1):=by simp [TL,← h0,← h1]
  obtain ⟨a1,a2,a3,a4,a5⟩:=D2.rows (n:=n + 1) h (fun j hj => by have:=hl (j + 1) (by simpa using hj); simpa [Nat.add_assoc,Nat.add_comm 1] using this) (fun j hj => by have:=htr (j + 1) (by simpa using hj); simpa [Nat.add_assoc,Nat.add_comm 1] using this) (by rw [ht]; exact hstep)
  have hw : Zj ops (TL ops tr t0 (fun _ => true) n) o = some true:=by unfold Zj; rw [hg]
  refine ⟨by simp [a1],fun j o' r ho hr => ?_,fun j r hr => ?_,fun i j r s hij hr hs => ?_,?_⟩
  ·cases j with
   | zero =>
    simp at ho hr
    subst ho
    subst hr
    rw [Nat.add_zero]
    exact ⟨.inr ⟨hw,by rw [← ht]; exact ho0⟩,fun hU => .inr ⟨hw,by rw [← ht]; exact ho1 hU⟩⟩
   | succ j => have:=a2 j o' r (by simpa using ho) (by simpa using hr); rwa [show n + 1 + j = n + (j + 1) by omega] at this
  ·cases j with
   | zero => simp at hr; subst hr; exact Nat.le_refl _
   | succ j => have:=a3 j r (by simpa using hr); omega
  ·cases j with
   | zero => omega
   | succ j =>
    cases i with
    | zero => simp at hr; subst hr; exact a3 j s (by simpa using hs)
    | succ i => exact a4 i j r s (by omega) (by simpa using hr) (by simpa using hs)
  ·rw [a5,List.length_cons]
   congr 1
   omega
theorem D2.len {M0 M1 : VM} {U : List Nat} : ∀ {l : List Oper} {t tf : List V} {k n : Nat} {tr' : List Jw},D2 P ops M0 M1 U n l t k tr' tf→l.length = tr'.length
 | _,_,_,_,_,_,.nil => rfl
 | _,_,_,_,_,_,.op _ _ _ h => by simp [h.len]
def waitsOn (o : Oper) (i : Nat) : Bool:=o.after.any fun e => Region.binds .any e && e.on == i
theorem waitsOn_spec {o : Oper} {i : Nat} (h : waitsOn o i = true) : ∃ e ∈ o.after,Region.binds .any e = true∧e.on = i:=by
 obtain ⟨j,hj,e⟩:=Array.any_eq_true.1 h
 simp only [Bool.and_eq_true,beq_iff_eq] at e
 exact ⟨_,Array.getElem_mem hj,e.1,e.2⟩
def eval2 (P : Program) (U : List Nat) (ops : Array Oper) (l1 : List Oper) (po last : Oper) (st : VS) : Option VS :=
 match po.guard with
 | some _ => none
 | none => match vs0 P U st.m 0 l1 st with
  | none => none
  | some st1 => match po.op with
   | .store ty sx sy => match ev st1.t sx with
    | .ptr b e j => if st.m.length≤b then (match vstore P st1.m ty (.ptr b e j) (ev st1.t sy) with
     | some m1 => (match last.guard with
      | some _ => none
      | none => vop1 P { t:=Xe st1.t po.dst .any,m:=m1,g:=st1.g } last)
     | none => none) else none
    | _ => none
   | _ => none
attribute [simp] vs0 eval2 Jj
end
end Go.VL

namespace Go.VL
open Go.RowKit
set_option linter.unusedSimpArgs false
set_option linter.unusedVariables false
section
variable {P : Program} {C : Uy} {Q : Exit→VS→Prop} {st : VS}
def insN (i : Nat) : List Nat→List Nat
 | [] => [i]
 | j :: p => if i < j then i :: j :: p else j :: insN i p
def stepAt (P : Program) (C CM : Uy) (l : List Oper) (i : Nat) (st : VS) : Option VS:=match l[i]? with
 | some o => vstepM P C CM st o
 | none => none
end
attribute [simp] insN stepAt
end Go.VL
