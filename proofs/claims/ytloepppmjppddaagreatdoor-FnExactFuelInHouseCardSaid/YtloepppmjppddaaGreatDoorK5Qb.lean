/- Plain laws of programs' lines: the program's reader of expressions and the reference's go together. Plain laws of programs' lines: atoms, and a whole expression. Plain laws of programs: a line, and a whole program, compiled by both alike. Plain laws of houses: copies, sizes, and when two are the same. Plain laws of houses: which houses are valid, told by both ways alike. What is told of a house that is handed over. -/

import Derived.Test.YtloepppmjppddaaGreatDoorK5Qa
import Derived.Test.YtloepppmjppddaaGreatDoorK5c
import Derived.Test.YtloepppmjppddaaGreatDoorVxGg
namespace Go.Proofs.YtloepppmjppddaaGreatDoor
open Go.VL
set_option linter.unusedSimpArgs false
set_option linter.unusedVariables false
set_option maxHeartbeats 4000000
def He (ns : List (List UInt8)) (w : List UInt8) : Int:=((List.range ns.length).findSome? fun (i : Nat) => if ns[i]? = some w then some (i : Int) else none).getD (-1)
theorem find_loop {body : Int→Option (Int ⊕ (Unit ⊕ Int))} {ns : List (List UInt8)} {w : List UInt8} (hn : ns.length≤1000) (hb : ∀ i (h : i < ns.length),body (i : Int) = if ns[i] = w then some (.inr (.inr (i : Int))) else some (.inl ((i + 1 : Nat) : Int))) (he : body (ns.length : Int) = some (.inr (.inl ()))) :
  ((loopO body 0).bind fun r => match r with | .inl _ => some (-1) | .inr r => some r) = some (He ns w):=by
 have:=Wx (body:=body) (n:=ns.length) (fun i => if ns[i]? = some w then some (.inr (i : Int)) else none) (.inl ()) (fun i hi => by
  rw [hb i hi]
  simp only [List.getElem?_eq_getElem hi,Option.some.injEq]
  by_cases h : ns[i] = w <;> simp [h]) he
 rw [this,Option.bind_some]
 unfold He
 have conv : ∀ l : List Nat,(l.findSome? fun (i : Nat) => if ns[i]? = some w then some (Sum.inr (i : Int) : Unit ⊕ Int) else none) = (l.findSome? fun (i : Nat) => if ns[i]? = some w then some (i : Int) else none).map Sum.inr:=fun l => by
  induction l with
  | nil => rfl
  | cons x l ih =>
   simp only [List.findSome?_cons]
   by_cases h : ns[x]? = some w
   ·simp [h]
   ·simp [h,ih]
 rw [conv]
 cases (List.range ns.length).findSome? fun (i : Nat) => if ns[i]? = some w then some (i : Int) else none <;> rfl
theorem find_impl {ns : List (List UInt8)} {w : List UInt8} (hn : ns.length≤1000) : g116 (ns.map sb) (sb w) = some (He ns w):=by
 unfold g116
 refine find_loop hn (fun i hi => ?_) ?_
 ·rw [g116_L1,if_pos (by simp [Zo]; omega),Yh (by simpa using hi),Option.bind_some]
  simp only [List.getElem_map]
  rw [Kx,Xd (by omega)]
  by_cases h : ns[i] = w
  ·rw [if_pos (by simp [h]),if_pos h]
  ·rw [if_neg (by simpa using fun e => h e.symm),if_neg h]
 ·rw [g116_L1,if_neg (by simp [Zo])]
theorem find_spec {ns : List (List UInt8)} {w : List UInt8} (hn : ns.length≤1000) : g131 (ns.map sb) (sb w) = some (He ns w):=by
 unfold g131
 refine find_loop hn (fun i hi => ?_) ?_
 ·rw [g131_L1,if_pos (by simp [Zo]; omega),Yh (by simpa using hi),Option.bind_some]
  simp only [List.getElem_map]
  rw [Kx,Xd (by omega)]
  by_cases h : ns[i] = w
  ·rw [if_pos (by simp [h]),if_pos h]
  ·rw [if_neg (by simpa using h),if_neg h]
 ·rw [g131_L1,if_neg (by simp [Zo])]
theorem find_cases (ns : List (List UInt8)) (w : List UInt8) : (He ns w = -1∧w ∉ ns)∨(0≤He ns w∧He ns w < ns.length∧w ∈ ns):=by
 unfold He
 cases h : (List.range ns.length).findSome? fun (i : Nat) => if ns[i]? = some w then some (i : Int) else none with
 | none =>
  left
  refine ⟨rfl,fun hm => ?_⟩
  obtain ⟨i,hi,e⟩:=List.getElem_of_mem hm
  have:=range_none.1 h i hi
  rw [List.getElem?_eq_getElem hi,e,if_pos rfl] at this
  cases this
 | some r =>
  right
  obtain ⟨i,h1,h2,h3⟩:=range_some h
  split at h2
  ·rename_i hw
   cases h2
   exact ⟨by simp,by simpa using h1,List.mem_of_getElem? hw⟩
  ·cases h2
section
variable {L : List UInt8} {ns : List (List UInt8)} {Bd : Prop}
def Out (L : List UInt8) (ns : List (List UInt8)) (Bd : Prop) (B : Bool) (k φ ψ : Nat) (s : T139) (t : T204) : Prop :=
 ∃ (k' : Nat) (c c' : List T189) (p : List ByteArray) (b : Bool),s = ⟨sb L,(k' : Int),ns.map sb,c,b⟩∧t = ⟨p,ns.map sb,c',b⟩ ∧
  k≤k'∧k'≤L.length∧c.length + φ≤k'∧c'.length + p.length + ψ≤2000∧(B = true→b = true) ∧
  (b = false→p = (lx (L.drop k')).map sb∧c = c'∧(Bd ↔ [0] ∈ lx (L.drop k')))
variable {B : Bool} {k φ ψ : Nat} {s : T139} {t : T204}
theorem Out.mono (o : Out L ns Bd B k φ ψ s t) {k2 φ2 ψ2 : Nat} (h1 : k2≤k) (h2 : φ2≤φ) (h3 : ψ2≤ψ) : Out L ns Bd B k2 φ2 ψ2 s t:=by
 obtain ⟨k',c,c',p,b,e1,e2,a1,a2,a3,a4,a5,a6⟩:=o
 exact ⟨k',c,c',p,b,e1,e2,by omega,a2,by omega,by omega,a5,a6⟩
theorem Out.at (o : Out L ns Bd B k φ ψ s t) : k≤s.at_.toNat∧s.at_.toNat≤L.length∧Out L ns Bd B s.at_.toNat φ ψ s t:=by
 obtain ⟨k',c,c',p,b,e1,e2,a1,a2,a3,a4,a5,a6⟩:=o
 subst e1
 exact ⟨by simpa using a1,by simpa using a2,k',c,c',p,b,rfl,e2,by simp,a2,a3,a4,a5,a6⟩
theorem Out.mix {ψ2 : Nat} {s' : T139} {t' : T204} (o : Out L ns Bd B k φ ψ s t) (o' : Out L ns Bd true k φ ψ2 s' t') (hb : t.bad_ = true) : Out L ns Bd B k φ ψ s' t:=by
 obtain ⟨k',c,c',p,b,e1,e2,a1,a2,a3,a4,a5,a6⟩:=o
 obtain ⟨k'',d,d',p',b',f1,f2,b1,b2,b3,b4,b5,b6⟩:=o'
 subst e2 f1
 have h1 : b = true:=hb
 have h2 : b' = true:=b5 rfl
 subst h1 h2
 exact ⟨k'',d,c',p,true,rfl,rfl,b1,b2,b3,a4,fun _ => rfl,fun h => nomatch h⟩
theorem Out.bad (o : Out L ns Bd B k φ ψ s t) (hb : t.bad_ = true) : Out L ns Bd true k φ ψ s t∧s.bad_ = true:=by
 obtain ⟨k',c,c',p,b,e1,e2,a1,a2,a3,a4,a5,a6⟩:=o
 subst e2
 have h1 : b = true:=hb
 subst h1
 exact ⟨⟨k',c,c',p,true,e1,rfl,a1,a2,a3,a4,fun _ => rfl,a6⟩,by subst e1; rfl⟩
theorem takeS {tok x : List UInt8} {r : List (List UInt8)} {N : List ByteArray} {c : List T189} (hr : r.length≤100000) : g145 ⟨(tok :: r).map sb,N,c,false⟩ (sb x) = if tok = x then some (true,⟨r.map sb,N,c,false⟩) else some (false,⟨(tok :: r).map sb,N,c,false⟩):=by
 unfold g145 g158
 rw [if_pos (by simp [Zo])]
 have : Wp ((tok :: r).map sb) 0 = some (sb tok):=rfl
 simp only
 rw [this,Option.bind_some,Kx]
 simp only [Option.bind_some]
 by_cases h : tok = x
 ·rw [if_neg (by simp [h]),if_pos h,Uq (by omega) (by simp; omega) (by simp)]
  rfl
 ·rw [if_pos (by simp [h]),if_neg h]
theorem takeS_nil {x : ByteArray} {N : List ByteArray} {c : List T189} : g145 ⟨[],N,c,false⟩ x = some (false,⟨[],N,c,false⟩):=by
 unfold g145 g158
 rw [if_neg (by simp [Zo])]
 rfl
theorem Hy {x : ByteArray} {N p : List ByteArray} {c : List T189} : g145 ⟨p,N,c,true⟩ x = some (false,⟨p,N,c,true⟩):=by
 unfold g145 g158
 rw [if_neg (by simp [Zo])]
 rfl
theorem lx_first {c : UInt8} {l : List UInt8} (ho : isOp c = true) {x : UInt8} {cs : List UInt8} (hl : l = x :: cs) (hx : x ≠ 32) : ∃ tok r,lx l = tok :: r∧(tok = [c] ↔ x = c):=by
 subst hl
 have hoL : Ju c = false∧Zh c = false:=by
  simp only [isOp,Bool.or_eq_true,decide_eq_true_eq] at ho
  rcases ho with ((((((h | h) | h) | h) | h) | h) | h) | h <;> subst h <;> decide
 have h0 : c ≠ 0:=fun e => by subst e; revert ho; decide
 by_cases h1 : Ju x = true
 ·have hne : x ≠ c:=fun e => by subst e; rw [hoL.1] at h1; cases h1
  by_cases hw : isW (x :: cs.takeWhile Yq) = true∧(cs.dropWhile Yq).head? = some 40
  ·refine ⟨_,_,lx_call h1 hw.1 hw.2,⟨fun e => ?_,fun e => absurd e hne⟩⟩
   simp at e
  ·refine ⟨_,_,lx_word h1 hw,⟨fun e => ?_,fun e => absurd e hne⟩⟩
   injection e with e1 e2
 ·have h1' : Ju x = false:=by simpa using h1
  by_cases h2 : Zh x = true
  ·have hne : x ≠ c:=fun e => by subst e; rw [hoL.2] at h2; cases h2
   by_cases h3 : (cs.dropWhile Zh).head? = some 47
   ·cases h4 : ((cs.dropWhile Zh).tail.head?.any Zh) with
    | true =>
     refine ⟨_,_,lx_frac h2 h3 h4,⟨fun e => ?_,fun e => absurd e hne⟩⟩
     simp at e
    | false =>
     refine ⟨_,_,lx_fbad h2 h3 h4,⟨fun e => ?_,fun e => absurd e hne⟩⟩
     injection e with e1 e2
     exact absurd e1.symm h0
   ·refine ⟨_,_,lx_num h2 h3,⟨fun e => ?_,fun e => absurd e hne⟩⟩
    injection e with e1 e2
  ·have h2' : Zh x = false:=by simpa using h2
   by_cases h3 : isOp x = true
   ·exact ⟨_,_,lx_op h3,⟨fun e => by injection e,fun e => by rw [e]⟩⟩
   ·have h3' : isOp x = false:=by simpa using h3
    refine ⟨_,_,lx_bad hx h1' h2' h3',⟨fun e => ?_,fun e => ?_⟩⟩
    ·injection e with e1 e2
     exact absurd e1.symm h0
    ·subst e; rw [ho] at h3'; cases h3'
theorem lx_len : ∀ (n : Nat) (l : List UInt8),(Uz n l).length≤n
 | 0,_ => by simp [Uz]
 | n + 1,[] => by simp [Uz]
 | n + 1,c :: cs => by
  have ih:=lx_len n
  simp only [Uz]
  repeat' split
  all_goals first
   | (have:=ih cs; omega)
   | (simp only [List.length_cons]; have:=ih (cs.dropWhile Yq).tail; omega)
   | (simp only [List.length_cons]; have:=ih (cs.dropWhile Yq); omega)
   | (simp only [List.length_cons]; have:=ih (cs.dropWhile Zh); omega)
   | (simp only [List.length_cons]; have:=ih ((cs.dropWhile Zh).tail.dropWhile Zh); omega)
   | (simp only [List.length_cons]; have:=ih cs; omega)
   | (simp)
theorem take_op (hL : L.length≤2000) {c : UInt8} (ho : isOp c = true) (o : Out L ns Bd B k φ ψ s t) :
  ∃ v s' t',g114 s (c.toNat : Int) = some (v,s')∧g145 t (sb [c]) = some (v,t')∧(v = true→Out L ns Bd B (s.at_.toNat + 1) (φ + 1) (ψ + 1) s' t')∧(v = false→Out L ns Bd B k φ ψ s' t'∧t' = t∧s.at_.toNat≤s'.at_.toNat):=by
 obtain ⟨k',d,d',p,b,e1,e2,a1,a2,a3,a4,a5,a6⟩:=o
 subst e1 e2
 cases b with
 | true =>
  refine ⟨false,_,_,?_,Hy,fun h => (nomatch h),fun _ => ⟨⟨k',d,d',p,true,rfl,rfl,a1,a2,a3,a4,a5,a6⟩,rfl,Nat.le_refl _⟩⟩
  unfold g114
  rw [if_pos rfl]
 | false =>
  obtain ⟨hp,hc,hB⟩:=a6 rfl
  subst hp hc
  have h2:=sk_le a2
  have hpk : g114 ⟨sb L,(k' : Int),ns.map sb,d,false⟩ (c.toNat : Int) = if (!Yx (hdI (L.drop (sk L k'))) (c.toNat : Int)) = true then some (false,⟨sb L,(sk L k' : Nat),ns.map sb,d,false⟩) else some (true,⟨sb L,aI .i64 (sk L k' : Nat) 1,ns.map sb,d,false⟩):=by
   unfold g114
   rw [if_neg (by simp),peek_eq hL a2,Option.bind_some]
  rw [hpk]
  have hlx:=sk_lx L k'
  have hpl : (lx (L.drop k')).length≤2001:=by
   have h1 : (lx (L.drop k')).length≤(L.drop k').length + 1:=lx_len ((L.drop k').length + 1) (L.drop k')
   have h3:=List.length_drop (i:=k') (l:=L)
   omega
  cases hd : L.drop (sk L k') with
  | nil =>
   rw [hd,lx_nil] at hlx
   rw [← hlx] at a4 hB ⊢
   have h0 : c.toNat ≠ 0:=fun e => by
    have : c = 0:=UInt8.toNat_inj.1 e
    subst this
    revert ho; decide
   rw [if_pos (by simp [Yx,hdI]; omega)]
   refine ⟨false,_,_,rfl,takeS_nil,fun h => (nomatch h),fun _ => ⟨⟨sk L k',d,d,[],false,rfl,rfl,by omega,h2.2,by omega,a4,a5,fun _ => ?_⟩,rfl,by simp only [Int.toNat_natCast]; omega⟩⟩
   rw [hd]
   exact ⟨rfl,rfl,hB⟩
  | cons x cs =>
   obtain ⟨b1,b2,b3⟩:=Xi hd
   have hx : x ≠ 32:=dwB_head (by rw [← sk_drop]; exact hd)
   obtain ⟨tok,r,h3,h4⟩:=lx_first ho hd hx
   rw [hlx] at h3
   have hlxk:=h3
   rw [h3] at hpl a4 hB ⊢
   rw [takeS (by simp at hpl; omega)]
   have e : Yx (hdI (x :: cs)) (c.toNat : Int) = decide (x = c):=u8_eq
   rw [e]
   by_cases hxc : x = c
   ·subst hxc
    rw [if_neg (by simp),if_pos (h4.2 rfl),Xd (by omega)]
    have hop:=lx_op (cs:=cs) ho
    rw [← hd,hlx,h3] at hop
    injection hop with q1 q2
    refine ⟨true,_,_,rfl,rfl,fun _ => ?_,fun h => (nomatch h)⟩
    refine ⟨sk L k' + 1,d,d,r.map sb,false,rfl,rfl,?_,by omega,by omega,by simp at a4 ⊢; omega,a5,fun _ => ⟨by rw [b2,q2],rfl,?_⟩⟩
    ·simp only [Int.toNat_natCast]; omega
    ·rw [hB,b2,← q2]
     have hne : [0] ≠ tok:=by
      rw [q1]
      intro e
      injection e with e1 e2
      subst e1
      revert ho; decide
     simp [hne]
   ·rw [if_pos (by simp [hxc]),if_neg (fun e => hxc (h4.1 e))]
    refine ⟨false,_,_,rfl,rfl,fun h => (nomatch h),fun _ => ⟨⟨sk L k',d,d,(tok :: r).map sb,false,rfl,rfl,by omega,h2.2,by omega,a4,a5,fun _ => ?_⟩,rfl,by simp only [Int.toNat_natCast]; omega⟩⟩
    rw [hlx,h3]
    exact ⟨rfl,rfl,hB⟩
theorem Jh (hL : L.length≤2000) (o : Out L ns Bd B k (φ + 1) (ψ + 1) s t) (kind : Int) : ∃ s' t',g79 s kind 0 (some 0) = some s'∧g146 t kind = some t'∧Out L ns Bd B k φ ψ s' t':=by
 obtain ⟨k',d,d',p,b,e1,e2,a1,a2,a3,a4,a5,a6⟩:=o
 subst e1 e2
 unfold g79 g146
 simp only
 rw [Uy (by simp; omega) (by simp; omega),Uy (by simp; omega) (by simp; omega)]
 refine ⟨_,_,rfl,rfl,k',d ++ [⟨kind,0,some 0⟩],d' ++ [⟨kind,0,some 0⟩],p,b,rfl,rfl,a1,a2,by simp; omega,by simp; omega,a5,fun hb => ?_⟩
 obtain ⟨h1,h2,h3⟩:=a6 hb
 exact ⟨h1,by rw [h2],h3⟩
theorem Qq (hL : L.length≤2000) {c : UInt8} (ho : isOp c = true) (o : Out L ns Bd B k φ ψ s t) : ∃ s' t',g75 s (c.toNat : Int) = some s'∧g174 t (sb [c]) = some t'∧Out L ns Bd B k φ ψ s' t':=by
 obtain ⟨v,s',t',h1,h2,h3,h4⟩:=take_op hL ho o
 have hat:=o.at
 unfold g75 g174
 rw [h1,h2,Option.bind_some,Option.bind_some]
 cases v with
 | true => exact ⟨_,_,rfl,rfl,(h3 rfl).mono (by omega) (by omega) (by omega)⟩
 | false =>
  obtain ⟨k',d,d',p,b,e1,e2,a1,a2,a3,a4,a5,a6⟩:=(h4 rfl).1
  subst e1 e2
  exact ⟨_,_,rfl,rfl,k',d,d',p,true,rfl,rfl,a1,a2,a3,a4,fun _ => rfl,fun h => (nomatch h)⟩
def J (L : List UInt8) (ns : List (List UInt8)) (Bd : Prop) (f : T139→Option T139) (g : T204→Option T204) (n : Nat) : Prop :=
 ∀ B k φ ψ s t,Out L ns Bd B k φ ψ s t→L.length < n + k→∃ s' t',f s = some s'∧g t = some t'∧Out L ns Bd B k φ ψ s' t'
variable {f : T139→Option T139} {g : T204→Option T204} {n : Nat}
theorem J_term (hL : L.length≤2000) (h : J L ns Bd f g n) : J L ns Bd (g138 f) (g157 g) n:=by
 intro B k φ ψ s t o hn
 obtain ⟨s1,t1,e1,e2,o1⟩:=h B k φ ψ s t o hn
 unfold g138 g157
 rw [e1,e2,Option.bind_some,Option.bind_some]
 have:=loopO_rel (b1:=g138_L1 f) (b2:=g157_L1 g) (fun st => L.length - st.2.2.1.toNat)
  (fun st st' => Out L ns Bd B k φ ψ ⟨st.2.1,st.2.2.1,st.1,st.2.2.2.2,st.2.2.2.1⟩ ⟨st'.2.1,st'.1,st'.2.2.2,st'.2.2.1⟩) (fun s' t' => Out L ns Bd B k φ ψ s' t')
  (fun st st' oo => by
   obtain ⟨l22,y23,y24,y25,l26⟩:=st
   obtain ⟨m23,z24,z25,m26⟩:=st'
   simp only at oo ⊢
   obtain ⟨v,s2,t2,q1,q2,q3,q4⟩:=take_op hL (c:=42) (by decide) oo
   have hat:=oo.at
   have q1' : g114 ⟨y23,y24,l22,l26,y25⟩ 42 = some (v,s2):=q1
   have q2' : g145 ⟨z24,m23,m26,z25⟩ (⟨#[42]⟩ : ByteArray) = some (v,t2):=q2
   rw [g138_L1,g157_L1,q1',q2',Option.bind_some,Option.bind_some]
   cases v with
   | false =>
    right
    obtain ⟨o2,ht,hsat⟩:=q4 rfl
    subst ht
    cases z25 with
    | true => exact ⟨_,_,rfl,rfl,o2⟩
    | false => exact ⟨_,_,rfl,rfl,o2⟩
   | true =>
    left
    have o2:=q3 rfl
    have hz : z25 = false:=by
     cases z25 with
     | false => rfl
     | true => rw [Hy] at q2'; cases q2'
    subst hz
    obtain ⟨s3,t3,r1,r2,o3⟩:=h B _ _ _ s2 t2 o2 (by simp only at hat ⊢; omega)
    obtain ⟨s4,t4,r3,r4,o4⟩:=Jh hL o3 7
    simp only [if_true,Bool.not_false]
    rw [r1,r2,Option.bind_some,Option.bind_some,r3,r4]
    refine ⟨_,_,rfl,rfl,o4.mono (by simp only at hat ⊢; omega) (by omega) (by omega),?_⟩
    have:=o4.at
    simp only at this hat ⊢
    omega) (s:=(s1.names_,s1.line_,s1.at_,s1.bad_,s1.code_)) (s':=(t1.names_,t1.parts_,t1.bad_,t1.code_)) o1
 obtain ⟨r,r',h1,h2,h3⟩:=this
 exact ⟨r,r',h1,h2,h3⟩
theorem J_sum (hL : L.length≤2000) (h0 : J L ns Bd f g n) : J L ns Bd (g115 f) (g144 g) n:=by
 have h:=J_term hL h0
 intro B k φ ψ s t o hn
 obtain ⟨s1,t1,e1,e2,o1⟩:=h B k φ ψ s t o hn
 unfold g115 g144
 rw [e1,e2,Option.bind_some,Option.bind_some]
 have:=loopO_rel (b1:=g115_L1 f) (b2:=g144_L1 g) (fun st => L.length - st.2.2.1.toNat)
  (fun st st' => Out L ns Bd B k φ ψ ⟨st.2.1,st.2.2.1,st.1,st.2.2.2.2,st.2.2.2.1⟩ ⟨st'.2.1,st'.1,st'.2.2.2,st'.2.2.1⟩) (fun s' t' => Out L ns Bd B k φ ψ s' t')
  (fun st st' oo => by
   obtain ⟨l22,y23,y24,y25,l26⟩:=st
   obtain ⟨m23,z24,z25,m26⟩:=st'
   simp only at oo ⊢
   obtain ⟨v,s2,t2,q1,q2,q3,q4⟩:=take_op hL (c:=43) (by decide) oo
   have hat:=oo.at
   have q1' : g114 ⟨y23,y24,l22,l26,y25⟩ 43 = some (v,s2):=q1
   have q2' : g145 ⟨z24,m23,m26,z25⟩ (⟨#[43]⟩ : ByteArray) = some (v,t2):=q2
   rw [g115_L1,g144_L1,q1',q2',Option.bind_some,Option.bind_some]
   cases v with
   | false =>
    obtain ⟨o2,ht,hsat⟩:=q4 rfl
    subst ht
    obtain ⟨v,s3,t3,u1,u2,u3,u4⟩:=take_op hL (c:=45) (by decide) o2
    have hat2:=o2.at
    have u1' : g114 s2 45 = some (v,s3):=u1
    have u2' : g145 ⟨z24,m23,m26,z25⟩ (⟨#[45]⟩ : ByteArray) = some (v,t3):=u2
    simp only [Bool.false_eq_true,if_false]
    rw [u1',u2',Option.bind_some,Option.bind_some]
    cases v with
    | false =>
     right
     obtain ⟨o3,ht,_⟩:=u4 rfl
     subst ht
     cases z25 with
     | true => exact ⟨_,_,rfl,rfl,o3⟩
     | false => exact ⟨_,_,rfl,rfl,o3⟩
    | true =>
     left
     have o3:=u3 rfl
     have hz : z25 = false:=by
      cases z25 with
      | false => rfl
      | true => rw [Hy] at u2'; cases u2'
     subst hz
     simp only at hsat hat
     obtain ⟨s4,t4,r1,r2,o4⟩:=h B _ _ _ s3 t3 o3 (by omega)
     obtain ⟨s5,t5,r3,r4,o5⟩:=Jh hL o4 6
     simp only [if_true,Bool.not_false]
     rw [r1,r2,Option.bind_some,Option.bind_some,r3,r4]
     refine ⟨_,_,rfl,rfl,o5.mono (by omega) (by omega) (by omega),?_⟩
     have:=o5.at
     simp only at this hat ⊢
     omega
   | true =>
    left
    have o2:=q3 rfl
    have hz : z25 = false:=by
     cases z25 with
     | false => rfl
     | true => rw [Hy] at q2'; cases q2'
    subst hz
    obtain ⟨s3,t3,r1,r2,o3⟩:=h B _ _ _ s2 t2 o2 (by simp only at hat ⊢; omega)
    obtain ⟨s4,t4,r3,r4,o4⟩:=Jh hL o3 5
    simp only [if_true,Bool.not_false]
    rw [r1,r2,Option.bind_some,Option.bind_some,r3,r4]
    refine ⟨_,_,rfl,rfl,o4.mono (by simp only at hat ⊢; omega) (by omega) (by omega),?_⟩
    have:=o4.at
    simp only at this hat ⊢
    omega) (s:=(s1.names_,s1.line_,s1.at_,s1.bad_,s1.code_)) (s':=(t1.names_,t1.parts_,t1.bad_,t1.code_)) o1
 obtain ⟨r,r',h1,h2,h3⟩:=this
 exact ⟨r,r',h1,h2,h3⟩
theorem J_expr (hL : L.length≤2000) (h0 : J L ns Bd f g n) : J L ns Bd (g76 f) (g130 g) n:=by
 have h:=J_sum hL h0
 intro B k φ ψ s t o hn
 obtain ⟨s1,t1,e1,e2,o1⟩:=h B k φ ψ s t o hn
 unfold g76 g130
 rw [e1,e2,Option.bind_some,Option.bind_some]
 obtain ⟨v,s2,t2,q1,q2,q3,q4⟩:=take_op hL (c:=60) (by decide) o1
 have hat:=o1.at
 have q1' : g114 s1 60 = some (v,s2):=q1
 have q2' : g145 t1 (⟨#[60]⟩ : ByteArray) = some (v,t2):=q2
 rw [q1',q2',Option.bind_some,Option.bind_some]
 cases v with
 | false => exact ⟨_,_,rfl,rfl,(q4 rfl).1⟩
 | true =>
  obtain ⟨s3,t3,r1,r2,o3⟩:=h B _ _ _ s2 t2 (q3 rfl) (by omega)
  obtain ⟨s4,t4,r3,r4,o4⟩:=Jh hL o3 8
  simp only [if_true]
  rw [r1,r2,Option.bind_some,Option.bind_some,r3,r4]
  exact ⟨_,_,rfl,rfl,o4.mono (by omega) (by omega) (by omega)⟩
theorem J_call (hL : L.length≤2000) (h0 : J L ns Bd f g n) {w : List UInt8} {kd cnt : Int} (hw : (w = [109,105,110]∧kd = 9∧cnt = 2)∨(w = [109,97,120]∧kd = 10∧cnt = 2)∨(w = [112,105,99,107]∧kd = 11∧cnt = 3))
  (o : Out L ns Bd B k (φ + 1) (ψ + 1) ⟨s.line_,aI .i64 s.at_ 1,s.names_,s.code_,s.bad_⟩ t) (hb : t.bad_ = false) (hn : L.length < n + k) : ∃ s' t',g166 f s (sb w) = some s'∧g175 g t cnt kd = some t'∧Out L ns Bd B k φ ψ s' t':=by
 have h:=J_expr hL h0
 obtain ⟨s1,t1,e1,e2,o1⟩:=h B _ _ _ _ t o hn
 obtain ⟨s2,t2,e3,e4,o2⟩:=Qq hL (c:=44) (by decide) o1
 have e3' : g75 s1 44 = some s2:=e3
 have e4' : g174 t1 (⟨#[44]⟩ : ByteArray) = some t2:=e4
 have w1 : Jb (sb w) (⟨#[109,97,120]⟩ : ByteArray) = decide (w = [109,97,120]):=Kx (b:=[109,97,120])
 have w2 : Jb (sb w) (⟨#[112,105,99,107]⟩ : ByteArray) = decide (w = [112,105,99,107]):=Kx (b:=[112,105,99,107])
 have tt : (⟨t.parts_,t.names_,t.code_,t.bad_⟩ : T204) = t:=rfl
 have tt1 : (⟨t1.parts_,t1.names_,t1.code_,t1.bad_⟩ : T204) = t1:=rfl
 have r0 : g175_L1 cnt g (0,t.names_,t.parts_,t.bad_,t.code_) = some (.inl (1,t1.names_,t1.parts_,t1.bad_,t1.code_)):=by
  rw [g175_L1,if_pos (by rcases hw with h | h | h <;> simp [h,Zo]),if_neg (by simp [Zo]),if_neg (by simp [hb])]
  simp only [tt]
  rw [e2]
  rfl
 have r1 : g175_L1 cnt g (1,t1.names_,t1.parts_,t1.bad_,t1.code_) = if t2.bad_ = true then some (.inr (.inr t2)) else (g130 g t2).bind fun r72 => some (.inl (2,r72.names_,r72.parts_,r72.bad_,r72.code_)):=by
  rw [g175_L1,if_pos (by rcases hw with h | h | h <;> simp [h,Zo]),if_pos (by simp [Zo])]
  simp only [tt1]
  rw [e4',Option.bind_some]
  rfl
 unfold g166
 rw [e1,Option.bind_some,e3',Option.bind_some,w1,w2]
 unfold g175
 rw [Ut r0]
 cases hb2 : t2.bad_ with
 | true =>
  rw [hb2,if_pos rfl] at r1
  rw [Xt r1,Option.bind_some]
  have ob:=(o2.bad hb2).1
  obtain ⟨s3,t3,f1,f2,o3⟩:=h true _ _ _ s2 t2 ob hn
  rw [f1,Option.bind_some]
  rcases hw with ⟨rfl,rfl,rfl⟩ | ⟨rfl,rfl,rfl⟩ | ⟨rfl,rfl,rfl⟩
  ·obtain ⟨s4,t4,f3,f4,o4⟩:=Qq hL (c:=41) (by decide) o3
   obtain ⟨s5,t5,f5,f6,o5⟩:=Jh hL o4 9
   have f3' : g75 s3 41 = some s4:=f3
   rw [if_neg (by decide),if_neg (by decide),f3',Option.bind_some,f5]
   exact ⟨_,_,rfl,rfl,(o2.mono (Nat.le_refl _) (by omega) (by omega)).mix o5 hb2⟩
  ·obtain ⟨s4,t4,f3,f4,o4⟩:=Qq hL (c:=41) (by decide) o3
   obtain ⟨s5,t5,f5,f6,o5⟩:=Jh hL o4 10
   have f3' : g75 s3 41 = some s4:=f3
   rw [if_pos (by decide),f3',Option.bind_some,f5]
   exact ⟨_,_,rfl,rfl,(o2.mono (Nat.le_refl _) (by omega) (by omega)).mix o5 hb2⟩
  ·obtain ⟨s4,t4,f3,f4,o4⟩:=Qq hL (c:=44) (by decide) o3
   obtain ⟨s5,t5,f5,f6,o5⟩:=h true _ _ _ s4 t4 o4 hn
   obtain ⟨s6,t6,f7,f8,o6⟩:=Qq hL (c:=41) (by decide) o5
   obtain ⟨s7,t7,f9,f10,o7⟩:=Jh hL o6 11
   have f3' : g75 s3 44 = some s4:=f3
   have f7' : g75 s5 41 = some s6:=f7
   rw [if_neg (by decide),if_pos (by decide),f3',Option.bind_some,f5,Option.bind_some,f7',Option.bind_some,f9]
   exact ⟨_,_,rfl,rfl,(o2.mono (Nat.le_refl _) (by omega) (by omega)).mix o7 hb2⟩
 | false =>
  rw [hb2,if_neg (by simp)] at r1
  obtain ⟨s3,t3,f1,f2,o3⟩:=h B _ _ _ s2 t2 o2 hn
  have tt3 : (⟨t3.parts_,t3.names_,t3.code_,t3.bad_⟩ : T204) = t3:=rfl
  rw [f2,Option.bind_some] at r1
  rw [Ut r1,f1,Option.bind_some]
  rcases hw with ⟨rfl,rfl,rfl⟩ | ⟨rfl,rfl,rfl⟩ | ⟨rfl,rfl,rfl⟩
  ·obtain ⟨s4,t4,f3,f4,o4⟩:=Qq hL (c:=41) (by decide) o3
   obtain ⟨s5,t5,f5,f6,o5⟩:=Jh hL o4 9
   have f3' : g75 s3 41 = some s4:=f3
   have f4' : g174 t3 (⟨#[41]⟩ : ByteArray) = some t4:=f4
   have r2 : g175_L1 2 g (2,t3.names_,t3.parts_,t3.bad_,t3.code_) = some (.inr (.inl (t3.names_,t3.parts_,t3.bad_,t3.code_))):=by
    rw [g175_L1,if_neg (by simp [Zo])]
   rw [if_neg (by decide),if_neg (by decide),f3',Option.bind_some,f5,Xt r2,Option.bind_some]
   simp only [g175_j1,f4',f6,Option.bind_some]
   exact ⟨_,_,rfl,rfl,o5⟩
  ·obtain ⟨s4,t4,f3,f4,o4⟩:=Qq hL (c:=41) (by decide) o3
   obtain ⟨s5,t5,f5,f6,o5⟩:=Jh hL o4 10
   have f3' : g75 s3 41 = some s4:=f3
   have f4' : g174 t3 (⟨#[41]⟩ : ByteArray) = some t4:=f4
   have r2 : g175_L1 2 g (2,t3.names_,t3.parts_,t3.bad_,t3.code_) = some (.inr (.inl (t3.names_,t3.parts_,t3.bad_,t3.code_))):=by
    rw [g175_L1,if_neg (by simp [Zo])]
   rw [if_pos (by decide),f3',Option.bind_some,f5,Xt r2,Option.bind_some]
   simp only [g175_j1,f4',f6,Option.bind_some]
   exact ⟨_,_,rfl,rfl,o5⟩
  ·obtain ⟨s4,t4,f3,f4,o4⟩:=Qq hL (c:=44) (by decide) o3
   have f3' : g75 s3 44 = some s4:=f3
   have f4' : g174 t3 (⟨#[44]⟩ : ByteArray) = some t4:=f4
   have r2 : g175_L1 3 g (2,t3.names_,t3.parts_,t3.bad_,t3.code_) = if t4.bad_ = true then some (.inr (.inr t4)) else (g130 g t4).bind fun r72 => some (.inl (3,r72.names_,r72.parts_,r72.bad_,r72.code_)):=by
    rw [g175_L1,if_pos (by simp [Zo]),if_pos (by simp [Zo])]
    simp only [tt3]
    rw [f4',Option.bind_some]
    rfl
   rw [if_neg (by decide),if_pos (by decide),f3',Option.bind_some]
   cases hb4 : t4.bad_ with
   | true =>
    rw [hb4,if_pos rfl] at r2
    rw [Xt r2,Option.bind_some]
    obtain ⟨s5,t5,f5,f6,o5⟩:=h true _ _ _ s4 t4 (o4.bad hb4).1 hn
    obtain ⟨s6,t6,f7,f8,o6⟩:=Qq hL (c:=41) (by decide) o5
    obtain ⟨s7,t7,f9,f10,o7⟩:=Jh hL o6 11
    have f7' : g75 s5 41 = some s6:=f7
    rw [f5,Option.bind_some,f7',Option.bind_some,f9]
    exact ⟨_,_,rfl,rfl,(o4.mono (Nat.le_refl _) (by omega) (by omega)).mix o7 hb4⟩
   | false =>
    rw [hb4,if_neg (by simp)] at r2
    obtain ⟨s5,t5,f5,f6,o5⟩:=h B _ _ _ s4 t4 o4 hn
    have tt5 : (⟨t5.parts_,t5.names_,t5.code_,t5.bad_⟩ : T204) = t5:=rfl
    rw [f6,Option.bind_some] at r2
    obtain ⟨s6,t6,f7,f8,o6⟩:=Qq hL (c:=41) (by decide) o5
    obtain ⟨s7,t7,f9,f10,o7⟩:=Jh hL o6 11
    have f7' : g75 s5 41 = some s6:=f7
    have f8' : g174 t5 (⟨#[41]⟩ : ByteArray) = some t6:=f8
    have r3 : g175_L1 3 g (3,t5.names_,t5.parts_,t5.bad_,t5.code_) = some (.inr (.inl (t5.names_,t5.parts_,t5.bad_,t5.code_))):=by
     rw [g175_L1,if_neg (by simp [Zo])]
    rw [Ut r2,Xt r3,Option.bind_some,f5,Option.bind_some,f7',Option.bind_some,f9]
    simp only [g175_j1,f8',f10,Option.bind_some]
    exact ⟨_,_,rfl,rfl,o7⟩
end
end Go.Proofs.YtloepppmjppddaaGreatDoor
namespace Go.Proofs.YtloepppmjppddaaGreatDoor
open Go.VL
set_option linter.unusedSimpArgs false
set_option linter.unusedVariables false
set_option maxHeartbeats 4000000
def inC (w : ByteArray) : Option Bool :=
 (if Yx (w.size : Int) 3 = true then (Jw 0 2 w.size).bind fun u => some (Jb (w.extract 0 2) (⟨#[105,110]⟩ : ByteArray)) else some false).bind fun w26 =>
 (if w26 = true then (Wg w 2).bind fun e27 => some (Xa 48 e27) else some false).bind fun w29 =>
 (if w29 = true then (Wg w 2).bind fun e30 => some (Xa e30 51) else some false)
theorem inC_eq (w : List UInt8) : ∃ q,inC (sb w) = some q∧(q = true→∃ e : UInt8,Wg (sb w) 2 = some (e.toNat : Int)∧48≤e.toNat∧e.toNat≤51):=by
 unfold inC
 by_cases h : w.length = 3
 ·have hi : Wg (sb w) 2 = some (w[2].toNat : Int):=Ja (i:=2) (by omega)
  rw [if_pos (by simp [Yx,h]),Uq (by omega) (by omega) (by simp; omega),Option.bind_some,Option.bind_some,hi]
  cases Jb ((sb w).extract 0 2) (⟨#[105,110]⟩ : ByteArray) with
  | false => exact ⟨false,rfl,fun h => (nomatch h)⟩
  | true =>
   simp only [if_true,Option.bind_some]
   cases h1 : Xa 48 (w[2].toNat : Int) with
   | false => exact ⟨false,rfl,fun h => (nomatch h)⟩
   | true =>
    refine ⟨_,rfl,fun h2 => ⟨w[2],rfl,?_,?_⟩⟩
    ·simp only [Xa,decide_eq_true_eq] at h1
     omega
    ·have : Xa (w[2].toNat : Int) 51 = true:=h2
     simp only [Xa,decide_eq_true_eq] at this
     omega
 ·rw [if_neg (by simp [Yx]; omega)]
  exact ⟨false,rfl,fun h => (nomatch h)⟩
theorem inC_key {w : ByteArray} {q : Bool} (hq : inC w = some q) {β : Type} (K : Bool→Option β) : ((if Yx (w.size : Int) 3 = true then (Jw 0 2 w.size).bind fun u15 => some (Jb (w.extract 0 2) (⟨#[105,110]⟩ : ByteArray)) else some false).bind fun w17 =>
   (if w17 = true then (Wg w 2).bind fun e18 => some (Xa 48 e18) else some false).bind fun w20 =>
   (if w20 = true then (Wg w 2).bind fun e21 => some (Xa e21 51) else some false).bind fun w23 => K w23) = K q:=by
 have : ((inC w).bind K) = K q:=by rw [hq]; rfl
 rw [← this]
 unfold inC
 simp only [Option.bind_assoc]
theorem in_at {m : Nat} (h1 : 48≤m) (h2 : m≤51) : cI .i16 (cI .i64 (sI .u8 (m : Int) 48)) = cI .i16 (sI .u8 (m : Int) 48):=by
 rcases (by omega : m = 48∨m = 49∨m = 50∨m = 51) with rfl | rfl | rfl | rfl <;> rfl
theorem sk_self {L : List UInt8} {k : Nat} {x : UInt8} {cs : List UInt8} (h : L.drop k = x :: cs) (hx : x ≠ 32) : sk L k = k:=by
 unfold sk
 rw [h,List.takeWhile_cons,if_neg (by simp [isB,hx])]
 rfl
section
variable {L : List UInt8} {ns : List (List UInt8)} {Bd : Prop} {f : T139→Option T139} {g : T204→Option T204} {n : Nat}
theorem put_eq {Lb : ByteArray} {a : Int} {N : List ByteArray} {c : List T189} {b : Bool} {kd at_ : Int} {v : F32} (hc : c.length≤2000) : g79 ⟨Lb,a,N,c,b⟩ kd at_ v = some ⟨Lb,a,N,c ++ [⟨kd,cI .i16 at_,v⟩],b⟩:=by
 unfold g79
 rw [Uy (by simp; omega) (by simp; omega)]
 rfl
theorem leaf_word {tok : List UInt8} {r : List (List UInt8)} {c : List T189} (hn : ns.length≤1000) (hr : r.length≤100000) (hc : c.length≤2000) {x : UInt8} {xs : List UInt8} (ht : tok = x :: xs) (hd : Zh x = false) {q : Bool} (hq : inC (sb tok) = some q) :
  g176 ⟨(tok :: r).map sb,ns.map sb,c,false⟩ = if q = true then (Wg (sb tok) 2).bind fun e => some ⟨r.map sb,ns.map sb,c ++ [⟨2,cI .i16 (sI .u8 e 48),some 0⟩],false⟩
   else if He ns tok < 0 then some ⟨r.map sb,ns.map sb,c,true⟩ else some ⟨r.map sb,ns.map sb,c ++ [⟨3,cI .i16 (He ns tok),some 0⟩],false⟩:=by
 unfold g176
 have i0 : Wp ((tok :: r).map sb) 0 = some (sb tok):=rfl
 have i1 : Wg (sb tok) 0 = some (x.toNat : Int):=by subst ht; exact Ja (i:=0) (by simp)
 have key : ∀ {β : Type} (K : Bool→Option β),((if Yx ((sb tok).size : Int) 3 = true then (Jw 0 2 (sb tok).size).bind fun u15 => some (Jb ((sb tok).extract 0 2) (⟨#[105,110]⟩ : ByteArray)) else some false).bind fun w17 =>
   (if w17 = true then (Wg (sb tok) 2).bind fun e18 => some (Xa 48 e18) else some false).bind fun w20 =>
   (if w20 = true then (Wg (sb tok) 2).bind fun e21 => some (Xa e21 51) else some false).bind fun w23 => K w23) = K q:=fun K => by
  have : ((inC (sb tok)).bind K) = K q:=by rw [hq]; rfl
  rw [← this]
  unfold inC
  simp only [Option.bind_assoc]
 rw [if_neg (by simp [Yx]; omega)]
 simp only
 rw [i0,Option.bind_some,Uq (by omega) (by simp; omega) (by simp),Option.bind_some,i1,Option.bind_some,Hq,hd,Option.bind_some,if_neg (by simp),key]
 cases q with
 | true =>
  simp only [if_true]
  obtain ⟨q',h1,h2⟩:=inC_eq tok
  rw [hq] at h1
  cases h1
  obtain ⟨e,h3,_⟩:=h2 rfl
  rw [h3]
  simp only [Option.bind_some]
  rw [Uy (by simp; omega) (by simp; omega)]
  rfl
 | false =>
  simp only [Bool.false_eq_true,if_false]
  rw [find_spec hn,Option.bind_some]
  by_cases h : He ns tok < 0
  ·rw [if_pos (by simpa [Zo] using h),if_pos h]
   rfl
  ·rw [if_neg (by simpa [Zo] using h),if_neg h,Uy (by simp; omega) (by simp; omega)]
   rfl
theorem leaf_num {tok : List UInt8} {r : List (List UInt8)} {N : List ByteArray} {c : List T189} (hr : r.length≤100000) (hc : c.length≤2000) {x : UInt8} {xs : List UInt8} (ht : tok = x :: xs) (hd : Zh x = true) {v : F32} {ok : Bool} (h : g180 (sb tok) = some (v,ok)) :
  g176 ⟨(tok :: r).map sb,N,c,false⟩ = some ⟨r.map sb,N,c ++ [push v],!ok⟩:=by
 unfold g176
 have i0 : Wp ((tok :: r).map sb) 0 = some (sb tok):=rfl
 have i1 : Wg (sb tok) 0 = some (x.toNat : Int):=by subst ht; exact Ja (i:=0) (by simp)
 rw [if_neg (by simp [Yx]; omega)]
 simp only
 rw [i0,Option.bind_some,Uq (by omega) (by simp; omega) (by simp),Option.bind_some,i1,Option.bind_some,Hq,hd,Option.bind_some,if_pos rfl,h,Option.bind_some,Uy (by simp; omega) (by simp; omega)]
 rfl
theorem find_not {w : List UInt8} (h : w ∉ ns) : He ns w < 0:=by
 rcases find_cases ns w with ⟨h1,_⟩ | ⟨_,_,h3⟩
 ·omega
 ·exact absurd h3 h
theorem leaf_none (hns : ∀ w ∈ ns,w ≠ []∧w.all Ju = true) (hn : ns.length≤1000) {y : UInt8} (h1 : Zh y = false) (h2 : Ju y = false) {r : List (List UInt8)} (hr : r.length≤100000) {c : List T189} (hc : c.length≤2000) :
  g176 ⟨([y] :: r).map sb,ns.map sb,c,false⟩ = some ⟨r.map sb,ns.map sb,c,true⟩:=by
 rw [leaf_word hn hr hc rfl h1 (q:=false) (by rfl),if_neg (by simp),if_pos]
 refine find_not fun hm => ?_
 have:=(hns _ hm).2
 simp [h2] at this
theorem chain_leaf {tok : List UInt8} {r : List (List UInt8)} {c : List T189} (hr : r.length≤100000) (h1 : tok ≠ [45]) (h2 : tok ≠ [40]) (h3 : tok ≠ [109,105,110,40]) (h4 : tok ≠ [109,97,120,40]) (h5 : tok ≠ [112,105,99,107,40]) :
  Qy g ⟨(tok :: r).map sb,ns.map sb,c,false⟩ = g176 ⟨(tok :: r).map sb,ns.map sb,c,false⟩:=by
 have t : ∀ x : List UInt8,tok ≠ x→g145 ⟨(tok :: r).map sb,ns.map sb,c,false⟩ (sb x) = some (false,⟨(tok :: r).map sb,ns.map sb,c,false⟩):=fun x hx => by
  rw [takeS hr,if_neg hx]
 have e1 : g145 ⟨(tok :: r).map sb,ns.map sb,c,false⟩ (⟨#[45]⟩ : ByteArray) = _:=t [45] h1
 have e2 : g145 ⟨(tok :: r).map sb,ns.map sb,c,false⟩ (⟨#[40]⟩ : ByteArray) = _:=t [40] h2
 have e3 : g145 ⟨(tok :: r).map sb,ns.map sb,c,false⟩ (⟨#[109,105,110,40]⟩ : ByteArray) = _:=t _ h3
 have e4 : g145 ⟨(tok :: r).map sb,ns.map sb,c,false⟩ (⟨#[109,97,120,40]⟩ : ByteArray) = _:=t _ h4
 have e5 : g145 ⟨(tok :: r).map sb,ns.map sb,c,false⟩ (⟨#[112,105,99,107,40]⟩ : ByteArray) = _:=t _ h5
 unfold Qy
 simp only [Bool.false_eq_true,if_false,e1,e2,e3,e4,e5,Option.bind_some,Option.bind_fun_some]
theorem J_atom (hL : L.length≤2000) (hns : ∀ w ∈ ns,w ≠ []∧w.all Ju = true) (hn1 : ns.length≤1000) (h : J L ns Bd f g n) : J L ns Bd (g153b f) (Qy g) (n + 1):=by
 intro B k φ ψ s t o hn
 obtain ⟨k',d,d',p,b,e1,e2,a1,a2,a3,a4,a5,a6⟩:=o
 subst e1 e2
 have hsk:=sk_le a2
 have hpk : g77 ⟨sb L,(k' : Int),ns.map sb,d,b⟩ = some (hdI (L.drop (sk L k')),⟨sb L,(sk L k' : Nat),ns.map sb,d,b⟩):=peek_eq hL a2
 have hbad : ∀ {k2 : Nat} {d2 : List T189} {p2 : List ByteArray} {c2 : List T189},k≤k2→k2≤L.length→d2.length + φ≤k2→c2.length + p2.length + ψ≤2000→Out L ns Bd B k φ ψ ⟨sb L,(k2 : Int),ns.map sb,d2,true⟩ ⟨p2,ns.map sb,c2,true⟩:=fun h1 h2 h3 h4 => ⟨_,_,_,_,true,rfl,rfl,h1,h2,h3,h4,fun _ => rfl,fun h => (nomatch h)⟩
 unfold g153b
 rw [hpk,Option.bind_some]
 cases b with
 | true =>
  simp only [if_true]
  refine ⟨_,_,rfl,?_,hbad (by omega) hsk.2 (by omega) a4⟩
  unfold Qy
  rw [if_pos rfl]
 | false =>
  obtain ⟨hp,hc,hB⟩:=a6 rfl
  subst hp hc
  have hlx:=sk_lx L k'
  rw [← hlx] at a4 hB ⊢
  have hh : ∀ x cs,L.drop (sk L k') = x :: cs→x ≠ 32:=fun x cs h => dwB_head (by rw [← sk_drop]; exact h)
  generalize sk L k' = k1 at *
  simp only [Bool.false_eq_true,if_false]
  cases hd : L.drop k1 with
  | nil =>
   have g1 : g112 (0 : Int) = some false:=g112_eq (c:=0)
   have g2 : g111 (0 : Int) = some false:=g111_eq (c:=0)
   have hz : hdI ([] : List UInt8) = 0:=rfl
   rw [hz]
   simp only [g1,g2,Option.bind_some,Bool.false_eq_true,if_false]
   rw [if_neg (by decide),if_neg (by decide)]
   rw [hd,lx_nil] at a4
   refine ⟨_,_,rfl,?_,hbad (p2:=[]) (c2:=d) (by omega) hsk.2 (by omega) a4⟩
   rw [lx_nil]
   unfold Qy
   simp only [Bool.false_eq_true,if_false,List.map_nil,takeS_nil,Option.bind_some]
   unfold g176
   rw [if_pos (by simp [Yx])]
   rfl
  | cons x cs =>
   obtain ⟨b1,b2,b3⟩:=Xi hd
   have hx : x ≠ 32:=hh x cs hd
   have hpl : (lx (x :: cs)).length≤2001:=by
    have h1 : (lx (L.drop k1)).length≤(L.drop k1).length + 1:=lx_len ((L.drop k1).length + 1) (L.drop k1)
    have h3:=List.length_drop (i:=k1) (l:=L)
    rw [hd] at h1 h3
    omega
   have adv : ∀ (k2 : Nat) (tok : List UInt8),k1 < k2→k2≤L.length→lx (x :: cs) = tok :: lx (L.drop k2)→tok ≠ [0]→Out L ns Bd B (k1 + 1) (φ + 1) (ψ + 1) ⟨sb L,(k2 : Int),ns.map sb,d,false⟩ ⟨(lx (L.drop k2)).map sb,ns.map sb,d,false⟩:=fun k2 tok h1 h2 h3 h4 => by
    rw [hd,h3] at a4 hB
    refine ⟨k2,d,d,_,false,rfl,rfl,by omega,h2,by omega,by simp at a4 ⊢; omega,a5,fun _ => ⟨rfl,rfl,?_⟩⟩
    rw [hB]
    simp [Ne.symm h4]
   have adv1 : ∀ (k2 : Nat) (tok : List UInt8) (o : T189),k1 < k2→k2≤L.length→lx (x :: cs) = tok :: lx (L.drop k2)→tok ≠ [0]→Out L ns Bd B k φ ψ ⟨sb L,(k2 : Int),ns.map sb,d ++ [o],false⟩ ⟨(lx (L.drop k2)).map sb,ns.map sb,d ++ [o],false⟩:=fun k2 tok o h1 h2 h3 h4 => by
    rw [hd,h3] at a4 hB
    refine ⟨k2,d ++ [o],d ++ [o],_,false,rfl,rfl,by omega,h2,by simp; omega,by simp at a4 ⊢; omega,a5,fun _ => ⟨rfl,rfl,?_⟩⟩
    rw [hB]
    simp [Ne.symm h4]
   have hdl : d.length≤2000:=by omega
   show ∃ s' t',(g112 (x.toNat : Int)).bind _ = some s'∧_
   rw [g112_eq,Option.bind_some]
   cases hdg : Zh x with
   | true =>
    simp only [if_true]
    rw [num_impl hL hdl hd hdg]
    have htw : (L.drop k1).takeWhile Zh = x :: cs.takeWhile Zh:=by rw [hd,List.takeWhile_cons,if_pos hdg]
    have hall : (x :: cs.takeWhile Zh).all Zh = true:=by rw [← htw]; exact tw_all _ _
    have hlen:=Qo Zh cs
    have hcl : cs.length = L.length - (k1 + 1):=by rw [← b2,List.length_drop]
    have hdr : L.drop (k1 + 1 + (cs.takeWhile Zh).length) = cs.dropWhile Zh:=by rw [← List.drop_drop,b2,Kh]
    have h45 : x ≠ 45:=fun e => by subst e; revert hdg; decide
    have h40 : x ≠ 40:=fun e => by subst e; revert hdg; decide
    have h109 : x ≠ 109:=fun e => by subst e; revert hdg; decide
    have h112 : x ≠ 112:=fun e => by subst e; revert hdg; decide
    have h00 : x ≠ 0:=fun e => by subst e; revert hdg; decide
    have chain : ∀ {xs : List UInt8} {r : List (List UInt8)},r.length≤100000→Qy g ⟨((x :: xs) :: r).map sb,ns.map sb,d,false⟩ = g176 ⟨((x :: xs) :: r).map sb,ns.map sb,d,false⟩:=fun hr => chain_leaf hr (by simp [h45]) (by simp [h40]) (by simp [h109]) (by simp [h109]) (by simp [h112])
    by_cases h47 : (cs.dropWhile Zh).head? = some 47
    ·cases hdw : cs.dropWhile Zh with
     | nil => rw [hdw] at h47; cases h47
     | cons y ys =>
      have hy : y = 47:=by rw [hdw] at h47; simpa using h47
      subst hy
      rw [hdw] at hdr
      obtain ⟨i1,i2,i3⟩:=Xi hdr
      have hyl : ys.length = L.length - (k1 + 1 + (cs.takeWhile Zh).length + 1):=by rw [← i2,List.length_drop]
      have hyt:=Qo Zh ys
      simp only [List.head?_cons,if_true,List.tail_cons]
      cases hany : ys.head?.any Zh with
      | true =>
       have hop : lx (x :: cs) = ((x :: cs.takeWhile Zh) ++ 47 :: ys.takeWhile Zh) :: lx (L.drop (k1 + 1 + (cs.takeWhile Zh).length + 1 + (ys.takeWhile Zh).length)):=by
        rw [lx_frac hdg h47 (by rw [hdw]; exact hany),hdw]
        simp only [List.tail_cons]
        rw [← List.drop_drop (l:=L) (i:=(ys.takeWhile Zh).length),i2,Kh]
       have hr : (lx (L.drop (k1 + 1 + (cs.takeWhile Zh).length + 1 + (ys.takeWhile Zh).length))).length≤100000:=by rw [hop] at hpl; simp at hpl; omega
       have hsp:=frac_spec hall (tw_all Zh ys) (by simp; omega)
       have hadv:=fun o => adv1 _ _ o (show k1 < k1 + 1 + (cs.takeWhile Zh).length + 1 + (ys.takeWhile Zh).length by omega) (by omega) hop (by simp)
       have hbd : ∀ {v : F32},Out L ns Bd B k φ ψ ⟨sb L,((k1 + 1 + (cs.takeWhile Zh).length + 1 + (ys.takeWhile Zh).length : Nat) : Int),ns.map sb,d,true⟩ ⟨(lx (L.drop (k1 + 1 + (cs.takeWhile Zh).length + 1 + (ys.takeWhile Zh).length))).map sb,ns.map sb,d ++ [push v],true⟩:=fun {v} => by
        rw [hd,hop] at a4
        exact hbad (by omega) (by omega) (by omega) (by simp at a4 ⊢; omega)
       have hbd2 : ∀ {v : F32},Out L ns Bd B k φ ψ ⟨sb L,((k1 + 1 + (cs.takeWhile Zh).length : Nat) : Int),ns.map sb,d,true⟩ ⟨(lx (L.drop (k1 + 1 + (cs.takeWhile Zh).length + 1 + (ys.takeWhile Zh).length))).map sb,ns.map sb,d ++ [push v],true⟩:=fun {v} => by
        rw [hd,hop] at a4
        exact hbad (by omega) (by omega) (by omega) (by simp at a4 ⊢; omega)
       rw [hop]
       have hch:=chain (xs:=cs.takeWhile Zh ++ 47 :: ys.takeWhile Zh) hr
       rw [← List.cons_append] at hch
       rw [hch]
       cases hok : nOk (x :: cs.takeWhile Zh) with
       | false =>
        rw [if_neg (by simp [hok])] at hsp
        rw [leaf_num hr hdl (by rw [List.cons_append]) hdg hsp]
        exact ⟨_,_,rfl,rfl,hbd2⟩
       | true =>
        by_cases hu : Hg (ys.takeWhile Zh) = 0
        ·rw [if_neg (by simp [hu])] at hsp
         rw [leaf_num hr hdl (by rw [List.cons_append]) hdg hsp]
         simp only [hu,if_true]
         exact ⟨_,_,rfl,rfl,hbd⟩
        ·rw [if_pos ⟨hok,hu⟩] at hsp
         rw [leaf_num hr hdl (by rw [List.cons_append]) hdg hsp]
         simp only [hu,if_true,if_false]
         exact ⟨_,_,rfl,rfl,hadv _⟩
      | false =>
       have hop : lx (x :: cs) = [[0]]:=lx_fbad hdg h47 (by rw [hdw]; exact hany)
       have hE : ys.takeWhile Zh = []:=by
        cases ys with
        | nil => rfl
        | cons z zs =>
         rw [List.takeWhile_cons]
         have : Zh z = false:=by simpa using hany
         rw [this]; rfl
       rw [hop,chain_leaf (by simp) (by decide) (by decide) (by decide) (by decide) (by decide),leaf_none hns hn1 (by decide) (by decide) (by simp) hdl]
       have hu : Hg [] = 0:=by decide
       simp only [hE,hu,if_true,List.length_nil,Nat.add_zero]
       rw [hd,hop] at a4
       cases hok : nOk (x :: cs.takeWhile Zh) with
       | false => exact ⟨_,_,rfl,rfl,hbad (by omega) (by omega) (by omega) (by simp at a4 ⊢; omega)⟩
       | true => exact ⟨_,_,rfl,rfl,hbad (by omega) (by omega) (by omega) (by simp at a4 ⊢; omega)⟩
    ·have hop : lx (x :: cs) = (x :: cs.takeWhile Zh) :: lx (L.drop (k1 + 1 + (cs.takeWhile Zh).length)):=by rw [lx_num hdg h47,hdr]
     have hr : (lx (L.drop (k1 + 1 + (cs.takeWhile Zh).length))).length≤100000:=by rw [hop] at hpl; simp at hpl; omega
     have hsp:=num_spec hall (by simp; omega)
     have hadv:=fun o => adv1 _ _ o (show k1 < k1 + 1 + (cs.takeWhile Zh).length by omega) (by omega) hop (by simp [h00])
     rw [hop,chain hr]
     simp only [h47,if_false]
     cases hok : nOk (x :: cs.takeWhile Zh) with
     | false =>
      rw [if_neg (by simp [hok])] at hsp
      rw [leaf_num hr hdl rfl hdg hsp]
      rw [hd,hop] at a4
      exact ⟨_,_,rfl,rfl,hbad (by omega) (by omega) (by omega) (by simp at a4 ⊢; omega)⟩
     | true =>
      rw [if_pos hok] at hsp
      rw [leaf_num hr hdl rfl hdg hsp]
      exact ⟨_,_,rfl,rfl,hadv _⟩
   | false =>
    simp only [Bool.false_eq_true,if_false]
    show ∃ s' t',(g111 (x.toNat : Int)).bind _ = some s'∧_
    rw [g111_eq,Option.bind_some]
    cases hl : Ju x with
    | true =>
     simp only [if_true]
     have hlen:=Qo Yq cs
     have hcl : cs.length = L.length - (k1 + 1):=by rw [← b2,List.length_drop]
     have hdr : L.drop (k1 + 1 + (cs.takeWhile Yq).length) = cs.dropWhile Yq:=by rw [← List.drop_drop,b2,Kh]
     have hwd:=word_eq hL (k:=k1) (by omega) (ns:=ns.map sb) (c:=d) (b:=false)
     rw [sk_self hd hx,hd] at hwd
     simp only [Wz,hl,if_true,List.length_cons] at hwd
     rw [show k1 + ((cs.takeWhile Yq).length + 1) = k1 + 1 + (cs.takeWhile Yq).length by omega] at hwd
     rw [hwd,Option.bind_some]
     simp only
     rw [find_impl hn1,Option.bind_some,g113_eq,Option.bind_some]
     have hpar : (if (isW (x :: cs.takeWhile Yq) && Zo ((k1 + 1 + (cs.takeWhile Yq).length : Nat) : Int) ((sb L).size : Int)) = true then (Wg (sb L) ((k1 + 1 + (cs.takeWhile Yq).length : Nat) : Int)).bind fun e18 => some (Yx e18 40) else some false) = some (isW (x :: cs.takeWhile Yq) && decide ((cs.dropWhile Yq).head? = some 40)):=by
      cases hw : isW (x :: cs.takeWhile Yq) with
      | false => rfl
      | true =>
       cases hdw : cs.dropWhile Yq with
       | nil =>
        rw [hdw] at hdr
        have:=drop_nil hdr
        rw [if_neg (by simp [Zo]; omega)]
        simp
       | cons y ys =>
        rw [hdw] at hdr
        obtain ⟨i1,i2,i3⟩:=Xi hdr
        rw [if_pos (by simp [Zo]; omega),i3,Option.bind_some]
        have : Yx (y.toNat : Int) 40 = decide (y = 40):=u8_eq (b:=40)
        rw [this]
        simp
     rw [hpar,Option.bind_some]
     by_cases hcall : isW (x :: cs.takeWhile Yq) = true∧(cs.dropWhile Yq).head? = some 40
     ·rw [if_pos (by simp [hcall.1,hcall.2])]
      cases hdw : cs.dropWhile Yq with
      | nil => rw [hdw] at hcall; simp at hcall
      | cons y ys =>
       have hy : y = 40:=by have:=hcall.2; rw [hdw] at this; simpa using this
       subst hy
       rw [hdw] at hdr
       obtain ⟨i1,i2,i3⟩:=Xi hdr
       have hop : lx (x :: cs) = ((x :: cs.takeWhile Yq) ++ [40]) :: lx (L.drop (k1 + 1 + (cs.takeWhile Yq).length + 1)):=by
        rw [lx_call hl hcall.1 hcall.2,hdw,i2]; rfl
       have hr : (lx (L.drop (k1 + 1 + (cs.takeWhile Yq).length + 1))).length≤100000:=by rw [hop] at hpl; simp at hpl; omega
       have o1:=adv _ _ (show k1 < k1 + 1 + (cs.takeWhile Yq).length + 1 by omega) (by omega) hop (by simp)
       rw [hop]
       have hw:=hcall.1
       generalize x :: cs.takeWhile Yq = w at hw ⊢
       have tk : ∀ a b : List UInt8,a ≠ b→g145 ⟨(a :: lx (L.drop (k1 + 1 + (cs.takeWhile Yq).length + 1))).map sb,ns.map sb,d,false⟩ (sb b) = some (false,⟨(a :: lx (L.drop (k1 + 1 + (cs.takeWhile Yq).length + 1))).map sb,ns.map sb,d,false⟩):=fun a b hab => by
        rw [takeS hr,if_neg hab]
       have tk1 : ∀ a : List UInt8,g145 ⟨(a :: lx (L.drop (k1 + 1 + (cs.takeWhile Yq).length + 1))).map sb,ns.map sb,d,false⟩ (sb a) = some (true,⟨(lx (L.drop (k1 + 1 + (cs.takeWhile Yq).length + 1))).map sb,ns.map sb,d,false⟩):=fun a => by
        rw [takeS hr,if_pos rfl]
       have o1' : Out L ns Bd B (k1 + 1) (φ + 1) (ψ + 1) ⟨sb L,aI .i64 ((k1 + 1 + (cs.takeWhile Yq).length : Nat) : Int) 1,ns.map sb,d,false⟩ ⟨(lx (L.drop (k1 + 1 + (cs.takeWhile Yq).length + 1))).map sb,ns.map sb,d,false⟩:=by
        rw [Xd (by omega)]
        exact o1
       simp only [isW,Bool.or_eq_true,decide_eq_true_eq] at hw
       have c1 : (⟨#[45]⟩ : ByteArray) = sb [45]:=rfl
       have c2 : (⟨#[40]⟩ : ByteArray) = sb [40]:=rfl
       have c3 : (⟨#[109,105,110,40]⟩ : ByteArray) = sb [109,105,110,40]:=rfl
       have c4 : (⟨#[109,97,120,40]⟩ : ByteArray) = sb [109,97,120,40]:=rfl
       have c5 : (⟨#[112,105,99,107,40]⟩ : ByteArray) = sb [112,105,99,107,40]:=rfl
       rcases hw with (rfl | rfl) | rfl
       ·obtain ⟨s2,t2,r1,r2,o2⟩:=J_call hL h (s:=⟨sb L,((k1 + 1 + (cs.takeWhile Yq).length : Nat) : Int),ns.map sb,d,false⟩) (.inl ⟨rfl,rfl,rfl⟩) o1' rfl (by omega)
        rw [r1]
        refine ⟨_,t2,rfl,?_,o2.mono (by omega) (Nat.le_refl _) (Nat.le_refl _)⟩
        have e1:=tk [109,105,110,40] [45] (by decide)
        have e2:=tk [109,105,110,40] [40] (by decide)
        have e3:=tk1 [109,105,110,40]
        unfold Qy
        show (if false = true then _ else _) = _
        simp only [Bool.false_eq_true,if_false,c1,c2,c3,List.cons_append,List.nil_append,e1,e2,e3,Option.bind_some,if_true,r2]
       ·obtain ⟨s2,t2,r1,r2,o2⟩:=J_call hL h (s:=⟨sb L,((k1 + 1 + (cs.takeWhile Yq).length : Nat) : Int),ns.map sb,d,false⟩) (.inr (.inl ⟨rfl,rfl,rfl⟩)) o1' rfl (by omega)
        rw [r1]
        refine ⟨_,t2,rfl,?_,o2.mono (by omega) (Nat.le_refl _) (Nat.le_refl _)⟩
        have e1:=tk [109,97,120,40] [45] (by decide)
        have e2:=tk [109,97,120,40] [40] (by decide)
        have e3:=tk [109,97,120,40] [109,105,110,40] (by decide)
        have e4:=tk1 [109,97,120,40]
        unfold Qy
        simp only [Bool.false_eq_true,if_false,c1,c2,c3,c4,List.cons_append,List.nil_append,e1,e2,e3,e4,Option.bind_some,if_true,r2]
       ·obtain ⟨s2,t2,r1,r2,o2⟩:=J_call hL h (s:=⟨sb L,((k1 + 1 + (cs.takeWhile Yq).length : Nat) : Int),ns.map sb,d,false⟩) (.inr (.inr ⟨rfl,rfl,rfl⟩)) o1' rfl (by omega)
        rw [r1]
        refine ⟨_,t2,rfl,?_,o2.mono (by omega) (Nat.le_refl _) (Nat.le_refl _)⟩
        have e1:=tk [112,105,99,107,40] [45] (by decide)
        have e2:=tk [112,105,99,107,40] [40] (by decide)
        have e3:=tk [112,105,99,107,40] [109,105,110,40] (by decide)
        have e4:=tk [112,105,99,107,40] [109,97,120,40] (by decide)
        have e5:=tk1 [112,105,99,107,40]
        unfold Qy
        simp only [Bool.false_eq_true,if_false,c1,c2,c3,c4,c5,List.cons_append,List.nil_append,e1,e2,e3,e4,e5,Option.bind_some,if_true,r2]
     ·rw [if_neg (by simpa [Bool.and_eq_true] using hcall)]
      have hop : lx (x :: cs) = (x :: cs.takeWhile Yq) :: lx (L.drop (k1 + 1 + (cs.takeWhile Yq).length)):=by rw [lx_word hl hcall,hdr]
      have hr : (lx (L.drop (k1 + 1 + (cs.takeWhile Yq).length))).length≤100000:=by rw [hop] at hpl; simp at hpl; omega
      have hall : ∀ c ∈ x :: cs.takeWhile Yq,Yq c = true:=by
       have : (x :: cs.takeWhile Yq).all Yq = true:=by
        rw [List.all_cons,tw_all,Bool.and_true]
        simp [Yq,hl]
       exact List.all_eq_true.1 this
      have hn40 : (40 : UInt8) ∉ x :: cs.takeWhile Yq:=fun hm => by have:=hall _ hm; revert this; decide
      have h00 : x ≠ 0:=fun e => by subst e; revert hl; decide
      have hadv:=fun o => adv1 _ _ o (show k1 < k1 + 1 + (cs.takeWhile Yq).length by omega) (by omega) hop (by simp [h00])
      have hbd : Out L ns Bd B k φ ψ ⟨sb L,((k1 + 1 + (cs.takeWhile Yq).length : Nat) : Int),ns.map sb,d,true⟩ ⟨(lx (L.drop (k1 + 1 + (cs.takeWhile Yq).length))).map sb,ns.map sb,d,true⟩:=by
       rw [hd,hop] at a4
       exact hbad (by omega) (by omega) (by omega) (by simp at a4 ⊢; omega)
      have x45 : x ≠ 45:=fun e => by subst e; revert hl; decide
      rw [hop,chain_leaf hr (by simp [x45]) (fun e => hn40 (by rw [e]; decide)) (fun e => hn40 (by rw [e]; decide)) (fun e => hn40 (by rw [e]; decide)) (fun e => hn40 (by rw [e]; decide))]
      obtain ⟨q,hq,hqe⟩:=inC_eq (x :: cs.takeWhile Yq)
      rw [leaf_word hn1 hr hdl rfl hdg hq,inC_key hq]
      cases q with
      | true =>
       obtain ⟨e,h1,h2,h3⟩:=hqe rfl
       simp only [if_true,h1,Option.bind_some]
       rw [put_eq hdl,in_at h2 h3]
       exact ⟨_,_,rfl,rfl,hadv _⟩
      | false =>
       simp only [Bool.false_eq_true,if_false]
       by_cases hf : He ns (x :: cs.takeWhile Yq) < 0
       ·rw [if_neg (by simp [Xa]; omega),if_pos hf]
        exact ⟨_,_,rfl,rfl,hbd⟩
       ·rw [if_pos (by simp [Xa]; omega),if_neg hf,put_eq hdl]
        exact ⟨_,_,rfl,rfl,hadv _⟩
    | false =>
     simp only [Bool.false_eq_true,if_false]
     have q : ∀ b : UInt8,Yx (hdI (x :: cs)) (b.toNat : Int) = decide (x = b):=fun b => u8_eq
     have q45 : Yx (hdI (x :: cs)) 45 = decide (x = 45):=q 45
     have q40 : Yx (hdI (x :: cs)) 40 = decide (x = 40):=q 40
     rw [q45,q40,Xd (by omega)]
     by_cases h45 : x = 45
     ·subst h45
      have hop:=lx_op (c:=45) (cs:=cs) (by decide)
      have hop2 : lx (45 :: cs) = [45] :: lx (L.drop (k1 + 1)):=by rw [hop,b2]
      obtain ⟨s1,t1,r1,r2,o1⟩:=h B _ _ _ _ _ (adv (k1 + 1) [45] (by omega) (by omega) hop2 (by decide)) (by omega)
      obtain ⟨s2,t2,r3,r4,o2⟩:=Jh hL o1 12
      have hlr : (lx (L.drop (k1 + 1))).length≤100000:=by rw [hop2] at hpl; simp at hpl; omega
      have tk : g145 ⟨([45] :: lx (L.drop (k1 + 1))).map sb,ns.map sb,d,false⟩ (⟨#[45]⟩ : ByteArray) = some (true,⟨(lx (L.drop (k1 + 1))).map sb,ns.map sb,d,false⟩):=by
       have:=takeS (tok:=[45]) (x:=[45]) (r:=lx (L.drop (k1 + 1))) (N:=ns.map sb) (c:=d) hlr
       rwa [if_pos rfl] at this
      rw [if_pos (by simp),r1,Option.bind_some,r3]
      refine ⟨_,t2,rfl,?_,o2.mono (by omega) (Nat.le_refl _) (Nat.le_refl _)⟩
      rw [hop2]
      unfold Qy
      simp only [Bool.false_eq_true,if_false,tk,Option.bind_some,if_true,r2,r4]
     ·rw [if_neg (by simp [h45])]
      by_cases h40 : x = 40
      ·subst h40
       have hop:=lx_op (c:=40) (cs:=cs) (by decide)
       have hop2 : lx (40 :: cs) = [40] :: lx (L.drop (k1 + 1)):=by rw [hop,b2]
       have hlr : (lx (L.drop (k1 + 1))).length≤100000:=by rw [hop2] at hpl; simp at hpl; omega
       obtain ⟨s1,t1,r1,r2,o1⟩:=J_expr hL h B _ _ _ _ _ (adv (k1 + 1) [40] (by omega) (by omega) hop2 (by decide)) (by omega)
       obtain ⟨s2,t2,r3,r4,o2⟩:=Qq hL (c:=41) (by decide) o1
       have r3' : g75 s1 41 = some s2:=r3
       have r4' : g174 t1 (⟨#[41]⟩ : ByteArray) = some t2:=r4
       have tk0 : g145 ⟨([40] :: lx (L.drop (k1 + 1))).map sb,ns.map sb,d,false⟩ (⟨#[45]⟩ : ByteArray) = some (false,⟨([40] :: lx (L.drop (k1 + 1))).map sb,ns.map sb,d,false⟩):=by
        have:=takeS (tok:=[40]) (x:=[45]) (r:=lx (L.drop (k1 + 1))) (N:=ns.map sb) (c:=d) hlr
        rwa [if_neg (by decide)] at this
       have tk : g145 ⟨([40] :: lx (L.drop (k1 + 1))).map sb,ns.map sb,d,false⟩ (⟨#[40]⟩ : ByteArray) = some (true,⟨(lx (L.drop (k1 + 1))).map sb,ns.map sb,d,false⟩):=by
        have:=takeS (tok:=[40]) (x:=[40]) (r:=lx (L.drop (k1 + 1))) (N:=ns.map sb) (c:=d) hlr
        rwa [if_pos rfl] at this
       rw [if_pos (by simp),r1,Option.bind_some,r3']
       refine ⟨_,t2,rfl,?_,o2.mono (by omega) (by omega) (by omega)⟩
       rw [hop2]
       unfold Qy
       simp only [Bool.false_eq_true,if_false,tk0,tk,Option.bind_some,if_true,r2,r4']
      ·rw [if_neg (by simp [h40])]
       have key : ∀ (y : UInt8) (r : List (List UInt8)),lx (x :: cs) = [y] :: r→Zh y = false→Ju y = false→y ≠ 45→y ≠ 40→∃ s' t',some (⟨sb L,(k1 : Int),ns.map sb,d,true⟩ : T139) = some s'∧Qy g ⟨(lx (x :: cs)).map sb,ns.map sb,d,false⟩ = some t'∧Out L ns Bd B k φ ψ s' t':=fun y r h3 hy1 hy2 hy3 hy4 => by
        rw [h3] at hpl ⊢
        rw [hd,h3] at a4
        have hr : r.length≤100000:=by simp at hpl; omega
        rw [chain_leaf hr (by simpa using hy3) (by simpa using hy4) (by simp) (by simp) (by simp),leaf_none hns hn1 hy1 hy2 hr hdl]
        exact ⟨_,_,rfl,rfl,hbad (by omega) (by omega) (by omega) (by simp at a4 ⊢; omega)⟩
       by_cases ho : isOp x = true
       ·exact key x _ (lx_op ho) hdg hl h45 h40
       ·exact key 0 [] (lx_bad hx hl hdg (by simpa using ho)) (by decide) (by decide) (by decide) (by decide)
theorem J_iter (hL : L.length≤2000) (hns : ∀ w ∈ ns,w ≠ []∧w.all Ju = true) (hn1 : ns.length≤1000) : ∀ n,J L ns Bd (iterO (fun self a => g153b self a) n) (iterO (fun self a => Qy self a) n) n
 | 0 => fun B k φ ψ s t o hn => by have:=o.at; omega
 | n + 1 => J_atom hL hns hn1 (J_iter hL hns hn1 n)
theorem expr_both (hL : L.length≤2000) (hns : ∀ w ∈ ns,w ≠ []∧w.all Ju = true) (hn1 : ns.length≤1000) {B : Bool} {k φ ψ : Nat} {s : T139} {t : T204} (o : Out L ns Bd B k φ ψ s t) :
  ∃ s' t',g76 g153 s = some s'∧g130 g168 t = some t'∧Out L ns Bd B k φ ψ s' t':=J_expr hL (J_iter hL hns hn1 5000) B k φ ψ s t o (by omega)
end
end Go.Proofs.YtloepppmjppddaaGreatDoor
namespace Go.Proofs.YtloepppmjppddaaGreatDoor
open Go.VL
set_option linter.unusedSimpArgs false
set_option linter.unusedVariables false
set_option maxHeartbeats 4000000
theorem takes_same : g117 = g147:=rfl
theorem deep_body (code : List T189) : g80_L1 code = g132_L1 code:=by
 funext st
 obtain ⟨a,b,c⟩:=st
 rw [g80_L1,g132_L1]
 rw [takes_same]
 by_cases h : Zo c (code.length : Int) = true
 ·rw [if_pos h,if_pos h]
  cases Wp code c with
  | none => rfl
  | some e =>
   simp only [Option.bind_some]
   cases g147 e.kind_ with
   | none => rfl
   | some r =>
    simp only [Option.bind_some,maxI,Zo,decide_eq_true_eq]
    split <;> rfl
 ·rw [if_neg h,if_neg h]
theorem deep_same (code : List T189) : g80 code = g132 code:=by
 unfold g80 g132
 rw [deep_body]
 rfl
theorem takes_some (k : Int) : ∃ r,g147 k = some r:=by
 have : ∀ b,∃ r,g147_j1 k b = some r:=fun b => by
  unfold g147_j1
  repeat' split
  all_goals exact ⟨_,rfl⟩
 unfold g147
 repeat' split
 all_goals exact this _
theorem deep_some (code : List T189) (hc : code.length≤100000) : ∃ r,g132 code = some r:=by
 obtain ⟨r,e,_⟩:=Qv (body:=g132_L1 code) (fun st => code.length - st.2.2.toNat) (fun st => ∃ i : Nat,st.2.2 = (i : Int)) (fun _ => True) (fun st ⟨i,hi⟩ => by
  obtain ⟨a,b,c⟩:=st
  simp only at hi
  subst hi
  rw [g132_L1]
  by_cases h : i < code.length
  ·left
   rw [if_pos (by simp [Zo]; omega),Yh h,Option.bind_some]
   obtain ⟨r,hr⟩:=takes_some code[i].kind_
   rw [hr,Option.bind_some,Xd (by omega)]
   split
   ·exact ⟨_,rfl,⟨i + 1,rfl⟩,by simp only [Int.toNat_natCast]; omega⟩
   ·exact ⟨_,rfl,⟨i + 1,rfl⟩,by simp only [Int.toNat_natCast]; omega⟩
  ·right
   rw [if_neg (by simp [Zo]; omega)]
   exact ⟨_,rfl,trivial⟩) (s:=(0,0,0)) ⟨0,rfl⟩
 exact ⟨r,by unfold g132; rw [e]; rfl⟩
def Qb (w : List UInt8) : Bool:=w.all Ju && decide (1≤w.length) && decide (w.length≤8) && !isW w
theorem letters_loop {body : Int→Option (Int ⊕ (Unit ⊕ Bool))} {w : List UInt8} (hw : w.length≤1048576) (hb : ∀ i (h : i < w.length),body (i : Int) = some (if Ju w[i] = true then .inl ((i + 1 : Nat) : Int) else .inr (.inr false))) (he : body (w.length : Int) = some (.inr (.inl ()))) :
  loopO body 0 = some (if w.all Ju = true then .inl () else .inr false):=by
 have:=Wx (body:=body) (n:=w.length) (fun i => if h : i < w.length then (if Ju w[i] = true then none else some (.inr false)) else none) (.inl ()) (fun i hi => by
  rw [hb i hi]
  simp only [hi,dif_pos]
  cases Ju w[i] <;> rfl) he
 rw [this]
 congr 1
 by_cases h : w.all Ju = true
 ·rw [if_pos h]
  have : (List.range w.length).findSome? (fun i => if h : i < w.length then (if Ju w[i] = true then none else some (.inr false : Unit ⊕ Bool)) else none) = none:=by
   rw [range_none]
   intro i hi
   rw [dif_pos hi,if_pos (List.all_eq_true.1 h _ (List.getElem_mem hi))]
  rw [this]
  rfl
 ·rw [if_neg h]
  cases hf : (List.range w.length).findSome? (fun i => if h : i < w.length then (if Ju w[i] = true then none else some (.inr false : Unit ⊕ Bool)) else none) with
  | none =>
   exfalso
   apply h
   rw [List.all_eq_true]
   intro x hx
   obtain ⟨i,hi,rfl⟩:=List.getElem_of_mem hx
   have:=range_none.1 hf i hi
   rw [dif_pos hi] at this
   split at this
   ·assumption
   ·cases this
  | some r =>
   obtain ⟨i,h1,h2,_⟩:=range_some hf
   rw [dif_pos h1] at h2
   split at h2
   ·cases h2
   ·cases h2; rfl
theorem name_impl {w : List UInt8} (hw : w.length≤1048576) : g74 (sb w) = some (Qb w):=by
 unfold g74
 have hl:=letters_loop (body:=g74_L1 (sb w)) hw (fun i hi => by
  rw [g74_L1,if_pos (by simp [Zo]; omega),Ja hi,Option.bind_some,Option.bind_some,Xd (by omega)]
  have e : (if Zo (w[i].toNat : Int) 97 = true then some true else some (Zo 122 (w[i].toNat : Int))) = some (!Ju w[i]):=by
   unfold Zo Ju
   by_cases h1 : w[i].toNat < 97
   ·rw [if_pos (by simp; omega)]
    have : decide (97≤w[i].toNat) = false:=by simp; omega
    rw [this]; rfl
   ·rw [if_neg (by simp; omega)]
    have : decide (97≤w[i].toNat) = true:=by simp; omega
    rw [this]
    by_cases h2 : w[i].toNat≤122
    ·have a : decide ((122 : Int) < (w[i].toNat : Int)) = false:=by rw [decide_eq_false_iff_not]; omega
     rw [a]; simp [h2]
    ·have a : decide ((122 : Int) < (w[i].toNat : Int)) = true:=by rw [decide_eq_true_eq]; omega
     rw [a]; simp [h2]
  rw [e,Option.bind_some]
  cases Ju w[i] <;> rfl) (by rw [g74_L1,if_neg (by simp [Zo])])
 rw [hl,g113_eq]
 unfold Qb
 by_cases h1 : w.length < 1∨8 < w.length
 ·rw [if_pos (by simp [Zo]; omega),Option.bind_some,if_pos rfl]
  rcases h1 with h1 | h1
  ·have : decide (1≤w.length) = false:=by rw [decide_eq_false_iff_not]; omega
   rw [this]; simp
  ·have : decide (w.length≤8) = false:=by simp; omega
   rw [this]; simp
 ·rw [if_neg (by simp [Zo]; omega)]
  have e1 : decide (1≤w.length) = true:=by simp; omega
  have e2 : decide (w.length≤8) = true:=by simp; omega
  rw [e1,e2]
  cases isW w <;> cases w.all Ju <;> rfl
theorem name_spec {w : List UInt8} (hw : w.length≤1048576) : g129 (sb w) = some (Qb w):=by
 unfold g129
 have hl:=letters_loop (body:=g129_L1 (sb w)) hw (fun i hi => by
  rw [g129_L1,if_pos (by simp [Zo]; omega),Ja hi,Option.bind_some,g142_eq,Option.bind_some,Xd (by omega)]
  cases Ju w[i] <;> rfl) (by rw [g129_L1,if_neg (by simp [Zo])])
 rw [hl,Option.bind_some]
 unfold Qb
 cases hall : w.all Ju with
 | false => simp
 | true =>
  simp only [if_true]
  unfold g129_j1 g55
  have c1 : (⟨#[109,105,110]⟩ : ByteArray) = sb [109,105,110]:=rfl
  have c2 : (⟨#[109,97,120]⟩ : ByteArray) = sb [109,97,120]:=rfl
  have c3 : (⟨#[112,105,99,107]⟩ : ByteArray) = sb [112,105,99,107]:=rfl
  rw [Option.bind_some,c1,c2,c3,Kx,Kx,Kx]
  have e1 : Xa 1 ((sb w).size : Int) = decide (1≤w.length):=by unfold Xa; rw [sb_size]; exact decide_eq_decide.2 (by omega)
  have e2 : Xa ((sb w).size : Int) 8 = decide (w.length≤8):=by unfold Xa; rw [sb_size]; exact decide_eq_decide.2 (by omega)
  rw [e1,e2]
  unfold isW
  cases decide (1≤w.length) <;> cases decide (w.length≤8) <;> cases decide (w = [109,105,110]) <;> cases decide (w = [109,97,120]) <;> cases decide (w = [112,105,99,107]) <;> rfl
theorem Ha {w : List UInt8} (h : Qb w = true) : w ≠ []∧w.all Ju = true:=by
 unfold Qb at h
 simp only [Bool.and_eq_true,decide_eq_true_eq] at h
 refine ⟨fun e => ?_,h.1.1.1⟩
 subst e
 simp at h
theorem expr_nil {N : List ByteArray} : g130 g168 ⟨[],N,[],false⟩ = some ⟨[],N,[],true⟩:=by
 have a : g168 ⟨[],N,[],false⟩ = some ⟨[],N,[],true⟩:=by
  have : g168 ⟨[],N,[],false⟩ = Qy (iterO (fun self a => Qy self a) 4999) ⟨[],N,[],false⟩:=rfl
  rw [this]
  unfold Qy
  simp only [Bool.false_eq_true,if_false,takeS_nil,Option.bind_some]
  unfold g176
  rw [if_pos (by simp [Yx])]
  rfl
 have b : g157 g168 ⟨[],N,[],false⟩ = some ⟨[],N,[],true⟩:=by
  unfold g157
  rw [a,Option.bind_some]
  exact Xt (by rw [g157_L1]; rfl)
 have c : g144 g168 ⟨[],N,[],false⟩ = some ⟨[],N,[],true⟩:=by
  unfold g144
  rw [b,Option.bind_some]
  exact Xt (by rw [g144_L1]; rfl)
 unfold g130
 rw [c,Option.bind_some,Hy,Option.bind_some]
 rfl
theorem lx_ne {x : UInt8} {cs : List UInt8} (hx : x ≠ 32) : lx (x :: cs) ≠ []:=by
 obtain ⟨tok,r,h,_⟩:=lx_first (c:=61) (by decide) (l:=x :: cs) rfl hx
 rw [h]
 simp
theorem first_name {l : List UInt8} (hh : ∀ x cs,l = x :: cs→x ≠ 32) {tok : List UInt8} {r : List (List UInt8)} (hl : lx l = tok :: r) (hn : Qb tok = true) : Wz l = tok∧r = lx (l.drop tok.length):=by
 obtain ⟨h1,h2⟩:=Ha hn
 have hall:=List.all_eq_true.1 h2
 cases l with
 | nil => cases hl
 | cons x cs =>
  have hx:=hh x cs rfl
  by_cases hL : Ju x = true
  ·by_cases hw : isW (x :: cs.takeWhile Yq) = true∧(cs.dropWhile Yq).head? = some 40
   ·rw [lx_call hL hw.1 hw.2] at hl
    injection hl with e1 e2
    subst e1
    have:=hall 40 (by simp)
    exact absurd this (by decide)
   ·rw [lx_word hL hw] at hl
    injection hl with e1 e2
    subst e1 e2
    refine ⟨by simp [Wz,hL],?_⟩
    rw [List.length_cons,List.drop_succ_cons,Kh]
  ·have hL' : Ju x = false:=by simpa using hL
   have no : ∀ y ys,tok = y :: ys→Ju y = true:=fun y ys e => hall y (by rw [e]; simp)
   exfalso
   by_cases h2 : Zh x = true
   ·by_cases h3 : (cs.dropWhile Zh).head? = some 47
    ·cases h4 : ((cs.dropWhile Zh).tail.head?.any Zh) with
     | true =>
      rw [lx_frac h2 h3 h4] at hl
      injection hl with e1 e2
      rw [no x _ (by rw [← e1]; rfl)] at hL'; cases hL'
     | false =>
      rw [lx_fbad h2 h3 h4] at hl
      injection hl with e1 e2
      have:=no 0 _ e1.symm
      revert this; decide
    ·rw [lx_num h2 h3] at hl
     injection hl with e1 e2
     rw [no x _ e1.symm] at hL'; cases hL'
   ·have h2' : Zh x = false:=by simpa using h2
    by_cases h3 : isOp x = true
    ·rw [lx_op h3] at hl
     injection hl with e1 e2
     rw [no x _ e1.symm] at hL'; cases hL'
    ·rw [lx_bad hx hL' h2' (by simpa using h3)] at hl
     injection hl with e1 e2
     have:=no 0 _ e1.symm
     revert this; decide
theorem word_lx {l : List UInt8} (hn : Qb (Wz l) = true) : lx l = Wz l :: lx (l.drop (Wz l).length):=by
 cases l with
 | nil => exact absurd hn (by decide)
 | cons x cs =>
  by_cases hL : Ju x = true
  ·have e : Wz (x :: cs) = x :: cs.takeWhile Yq:=by simp [Wz,hL]
   rw [e] at hn ⊢
   have hw : isW (x :: cs.takeWhile Yq) = false:=by
    unfold Qb at hn
    simp only [Bool.and_eq_true,Bool.not_eq_true'] at hn
    exact hn.2
   rw [lx_word hL (by simp [hw]),List.length_cons,List.drop_succ_cons,Kh]
  ·have e : Wz (x :: cs) = []:=by simp [Wz,hL]
   rw [e] at hn
   exact absurd hn (by decide)
theorem tok_len : ∀ (n : Nat) (l : List UInt8) (tok : List UInt8),tok ∈ Uz n l→tok.length≤l.length + 1
 | 0,_,_,h => by simp [Uz] at h
 | n + 1,[],_,h => by simp [Uz] at h
 | n + 1,c :: cs,tok,h => by
  have ih:=tok_len n
  have a1:=Qo Yq cs
  have a2:=Jk Yq cs
  have a3:=Qo Zh cs
  have a4:=Jk Zh cs
  have a5:=Qo Zh (cs.dropWhile Zh).tail
  have a6:=Jk Zh (cs.dropWhile Zh).tail
  have a7 : (cs.takeWhile Zh).length + (cs.dropWhile Zh).length = cs.length:=by rw [← List.length_append,List.takeWhile_append_dropWhile]
  have a8 : (cs.dropWhile Yq).tail.length≤(cs.dropWhile Yq).length:=by simp
  have a9 : (cs.dropWhile Zh).head? = some 47→(cs.dropWhile Zh).tail.length + 1 = (cs.dropWhile Zh).length:=fun h => by
   cases hd : cs.dropWhile Zh with
   | nil => rw [hd] at h; cases h
   | cons y ys => simp
  have aL : (cs.dropWhile Yq).head? = some 40→(cs.takeWhile Yq).length + 1≤cs.length:=fun h => by
   have:=congrArg List.length (List.takeWhile_append_dropWhile (p:=Yq) (l:=cs))
   rw [List.length_append] at this
   cases hd : cs.dropWhile Yq with
   | nil => rw [hd] at h; cases h
   | cons y ys => rw [hd] at this; simp at this; omega
  simp only [Uz] at h
  split at h
  ·have:=ih cs tok h; simp; omega
  ·split at h
   ·split at h
    ·rename_i hc
     rcases List.mem_cons.1 h with h | h
     ·subst h; have:=aL hc.2; simp; omega
     ·have:=ih _ tok h; simp; omega
    ·rcases List.mem_cons.1 h with h | h
     ·subst h; simp; omega
     ·have:=ih _ tok h; simp; omega
   ·split at h
    ·split at h
     ·rename_i h47
      have b1:=a9 h47
      split at h
      ·rcases List.mem_cons.1 h with h | h
       ·subst h; simp at a5 b1 ⊢; omega
       ·have:=ih _ tok h; simp; omega
      ·simp at h; subst h; simp
     ·rcases List.mem_cons.1 h with h | h
      ·subst h; simp; omega
      ·have:=ih _ tok h; simp; omega
    ·split at h
     ·rcases List.mem_cons.1 h with h | h
      ·subst h; simp
      ·have:=ih _ tok h; simp; omega
     ·simp at h; subst h; simp
theorem line_both {ls : List (List UInt8)} {i : Nat} (hi : i < ls.length) (hls : ls.length≤100000) (hL : ls[i].length≤2000) {ns : List (List UInt8)} (hns : ∀ w ∈ ns,Qb w = true) (hn1 : ns.length≤12) {pc : List T189} (hpc : pc.length≤300) :
  (∃ e,g34_L1 (ls.map sb) ((i : Int),ns.map sb,pc) = some (.inr (.inr (⟨[],[]⟩,(i : Int),e)))∧g58_L1 (ls.map sb) ((i : Int),ns.map sb,pc) = some (.inr (.inr (⟨[],[]⟩,(i : Int),e)))∧e ≠ 0) ∨
  (∃ w c,g34_L1 (ls.map sb) ((i : Int),ns.map sb,pc) = some (.inl (((i + 1 : Nat) : Int),(ns ++ [w]).map sb,pc ++ c))∧g58_L1 (ls.map sb) ((i : Int),ns.map sb,pc) = some (.inl (((i + 1 : Nat) : Int),(ns ++ [w]).map sb,pc ++ c)) ∧
   Qb w = true∧w ∉ ns∧ns.length < 12∧(pc ++ c).length≤300):=by
 have hns' : ∀ w ∈ ns,w ≠ []∧w.all Ju = true:=fun w hw => Ha (hns w hw)
 have hix : Wp (ls.map sb) (i : Int) = some (sb ls[i]):=by
  rw [Yh (by simpa using hi)]; simp
 rw [g34_L1,g58_L1,if_pos (by simp [Zo]; omega),if_pos (by simp [Zo]; omega),hix,Option.bind_some,Option.bind_some]
 generalize ls[i] = L at hL
 have j3 : ∀ {e : Int} {N : List ByteArray} {q : List T189},e ≠ 0→g58_j3 (i : Int) e N q = some (.inr (.inr (⟨[],[]⟩,(i : Int),e))):=fun {e N q} he => by
  unfold g58_j3
  rw [if_pos (by simp [Yx,he])]
 have j30 : ∀ {N : List ByteArray} {q : List T189},g58_j3 (i : Int) 0 N q = some (.inl (((i + 1 : Nat) : Int),N,q)):=fun {N q} => by
  unfold g58_j3
  rw [if_neg (by simp [Yx]),Xd (by omega)]
 have hword:=word_eq hL (k:=0) (by omega) (ns:=ns.map sb) (c:=[]) (b:=false)
 rw [show ((0 : Nat) : Int) = 0 from rfl] at hword
 have hsk:=sk_le (L:=L) (k:=0) (by omega)
 have hhd : ∀ x cs,L.drop (sk L 0) = x :: cs→x ≠ 32:=fun x cs h => dwB_head (by rw [← sk_drop]; exact h)
 have hlx0 : lx (L.drop (sk L 0)) = lx L:=by rw [sk_lx]; rfl
 obtain ⟨ps,ok,hps,hok1,hok2⟩:=parts_eq hL
 rw [hword,Option.bind_some,hps,Option.bind_some]
 generalize hk1 : sk L 0 = k1 at *
 have hwl : (Wz (L.drop k1)).length≤1048576:=by
  have : (Wz (L.drop k1)).length≤(L.drop k1).length:=by
   cases L.drop k1 with
   | nil => simp [Wz]
   | cons x cs =>
    simp only [Wz]
    split
    ·have:=Qo Yq cs; simp; omega
    ·simp
  rw [List.length_drop] at this
  omega
 simp only
 rw [name_impl hwl,Option.bind_some]
 have fault : ∀ (w515 : Option Bool) (K : Option ((Int × (List ByteArray) × (List T189)) ⊕ (((List ByteArray) × (List T189)) ⊕ (T79 × Int × Int)))),w515 = some true→(w515.bind fun w => if w = true then g58_j3 (i : Int) 5 (ns.map sb) pc else K) = some (.inr (.inr (⟨[],[]⟩,(i : Int),5))):=fun w K h => by
  rw [h,Option.bind_some,if_pos rfl,j3 (by decide)]
 have short : ok = false∨ps.length < 3→((!ok) || Zo (ps.length : Int) 3) = true:=fun h => by
  rcases h with h | h
  ·simp [h]
  ·simp [Zo]; right; omega
 cases hnm : Qb (Wz (L.drop k1)) with
 | false =>
  left
  refine ⟨5,by rw [if_pos (by simp)],?_,by decide⟩
  by_cases hsh : ok = false∨ps.length < 3
  ·rw [if_pos (short hsh),Option.bind_some,if_pos rfl,Option.bind_some,if_pos rfl,j3 (by decide)]
  ·have h1 : ok = true:=by
    cases ok with
    | true => rfl
    | false => exact absurd (.inl rfl) hsh
   have h3 : 3≤ps.length:=by
    apply Decidable.byContradiction
    intro hc
    exact hsh (.inr (by omega))
   obtain ⟨hp,_⟩:=hok1 h1
   subst hp
   cases hlx : lx L with
   | nil => rw [hlx] at h3; simp at h3
   | cons tok r =>
    rw [hlx] at h3
    have htl : tok.length≤1048576:=by
     have:=tok_len (L.length + 1) L tok (by show tok ∈ lx L; rw [hlx]; simp)
     omega
    have hi0 : Wp ((tok :: r).map sb) 0 = some (sb tok):=rfl
    have hnt : Qb tok = false:=by
     cases h : Qb tok with
     | false => rfl
     | true =>
      rw [hlx] at hlx0
      have:=(first_name hhd hlx0 h).1
      rw [this,h] at hnm
      cases hnm
    rw [if_neg (by simp [h1,Zo] at h3 ⊢; omega),hi0,Option.bind_some,name_spec htl,Option.bind_some,hnt,Option.bind_some,if_pos (by simp),Option.bind_some,if_pos rfl,j3 (by decide)]
 | true =>
  rw [if_neg (by simp)]
  have hlxw:=word_lx hnm
  rw [List.drop_drop,hlx0] at hlxw
  obtain ⟨hw0,hwL⟩:=Ha hnm
  have hwp : 1≤(Wz (L.drop k1)).length:=List.length_pos_iff.2 hw0
  have hwk : k1 + (Wz (L.drop k1)).length≤L.length:=by
   have : (Wz (L.drop k1)).length≤(L.drop k1).length:=by
    cases L.drop k1 with
    | nil => simp [Wz]
    | cons x cs =>
     simp only [Wz]
     split
     ·have:=Qo Yq cs; simp; omega
     ·simp
   rw [List.length_drop] at this
   omega
  generalize hw : Wz (L.drop k1) = w at *
  generalize hk2 : k1 + w.length = k2 at *
  have hp2 : (lx (L.drop k2)).length≤L.length - k2 + 1:=by
   have:=lx_len ((L.drop k2).length + 1) (L.drop k2)
   have h3:=List.length_drop (i:=k2) (l:=L)
   show (Uz _ _).length≤_
   omega
  have o0 : Out L ns ([0] ∈ lx (L.drop k2)) false 0 0 0 ⟨sb L,(k2 : Int),ns.map sb,[],false⟩ ⟨(lx (L.drop k2)).map sb,ns.map sb,[],false⟩ :=
   ⟨k2,[],[],_,false,rfl,rfl,by omega,hwk,by simp,by simp; omega,fun h => (nomatch h),fun _ => ⟨rfl,rfl,Iff.rfl⟩⟩
  have hB0 : [0] ∈ lx L ↔ [0] ∈ lx (L.drop k2):=by
   rw [hlxw]
   have : [0] ≠ w:=fun e => by rw [← e] at hwL; revert hwL; decide
   simp [this]
  obtain ⟨s1,t1,q1,q2,o1⟩:=Qq hL (c:=61) (by decide) o0
  have q1' : g75 ⟨sb L,(k2 : Int),ns.map sb,[],false⟩ 61 = some s1:=q1
  rw [q1',Option.bind_some]
  have head : ∀ {tok : List UInt8} {r : List (List UInt8)},ok = true→lx (L.drop k2) = tok :: r→r ≠ []→∀ {γ : Type} (K : Bool→Option γ),
    ((if ((!ok) || Zo (ps.length : Int) 3) = true then some true else (Wp ps 0).bind fun e508 => (g129 e508).bind fun r510 => some (!r510)).bind fun w512 => (if w512 = true then some true else (Wp ps 1).bind fun e513 => some (!Jb e513 (⟨#[61]⟩ : ByteArray))).bind K) = K (!decide (tok = [61])):=fun {tok r} h1 h2 h3 {γ} K => by
   obtain ⟨hp,_⟩:=hok1 h1
   rw [hlxw,h2] at hp
   have hi0 : Wp ps 0 = some (sb w):=by rw [hp]; rfl
   have hi1 : Wp ps 1 = some (sb tok):=by rw [hp]; rfl
   have hl : 3≤ps.length:=by
    rw [hp]
    have:=List.length_pos_iff.2 h3
    simp; omega
   have e61 : Jb (sb tok) (⟨#[61]⟩ : ByteArray) = decide (tok = [61]):=Kx (b:=[61])
   rw [if_neg (by simp [h1,Zo]; omega),hi0,Option.bind_some,name_spec (by omega),hnm,Option.bind_some,Option.bind_some,if_neg (by simp),hi1,Option.bind_some,Option.bind_some,e61]
  cases hb1 : t1.bad_ with
  | true =>
   left
   obtain ⟨s2,t2,r1,r2,o2⟩:=expr_both hL hns' (by omega) (o1.bad hb1).1
   have hs2 : s2.bad_ = true:=by
    obtain ⟨k',c,c',p,b,e1,e2,a1,a2,a3,a4,a5,a6⟩:=o2
    subst e1
    exact a5 rfl
   rw [r1,Option.bind_some,if_pos hs2]
   refine ⟨5,rfl,?_,by decide⟩
   by_cases hsh : ok = false∨ps.length < 3
   ·rw [if_pos (short hsh),Option.bind_some,if_pos rfl,Option.bind_some,if_pos rfl,j3 (by decide)]
   ·have h1 : ok = true:=by
     cases ok with
     | true => rfl
     | false => exact absurd (.inl rfl) hsh
    have h3 : 3≤ps.length:=by
     apply Decidable.byContradiction
     intro hc
     exact hsh (.inr (by omega))
    obtain ⟨hp,_⟩:=hok1 h1
    rw [hlxw] at hp
    rw [hp] at h3
    cases hr : lx (L.drop k2) with
    | nil => rw [hr] at h3; simp at h3
    | cons tok r =>
     rw [hr] at h3 q2
     have hr0 : r ≠ []:=fun e => by subst e; simp at h3
     rw [head h1 hr hr0]
     have hne : tok ≠ [61]:=fun e => by
      subst e
      have hrl : r.length≤100000:=by rw [hr] at hp2; simp at hp2; omega
      unfold g174 at q2
      rw [takeS hrl,if_pos rfl,Option.bind_some,if_neg (by simp)] at q2
      cases q2
      cases hb1
     rw [if_pos (by simp [hne]),j3 (by decide)]
  | false =>
   obtain ⟨s2,t2,r1,r2,o2⟩:=expr_both hL hns' (by omega) o1
   have heq : ∃ r,lx (L.drop k2) = [61] :: r∧t1 = ⟨r.map sb,ns.map sb,[],false⟩:=by
    cases hr : lx (L.drop k2) with
    | nil =>
     rw [hr] at q2
     unfold g174 at q2
     rw [show List.map sb [] = [] from rfl,takeS_nil,Option.bind_some,if_pos (by simp)] at q2
     cases q2
     cases hb1
    | cons tok r =>
     rw [hr] at q2
     have hrl : r.length≤100000:=by rw [hr] at hp2; simp at hp2; omega
     unfold g174 at q2
     rw [takeS hrl] at q2
     by_cases he : tok = [61]
     ·subst he
      rw [if_pos rfl,Option.bind_some,if_neg (by simp)] at q2
      cases q2
      exact ⟨r,rfl,rfl⟩
     ·rw [if_neg he,Option.bind_some,if_pos (by simp)] at q2
      cases q2
      cases hb1
   obtain ⟨r,hr,ht1⟩:=heq
   obtain ⟨k4,c2,c2',p2,b2,e1,e2,a1,a2,a3,a4,a5,a6⟩:=o2
   subst e1 e2
   rw [r1,Option.bind_some]
   have hpk : g77 ⟨sb L,(k4 : Int),ns.map sb,c2,b2⟩ = some (hdI (L.drop (sk L k4)),⟨sb L,(sk L k4 : Nat),ns.map sb,c2,b2⟩):=peek_eq hL a2
   have hsk4:=sk_le a2
   have hlx4:=sk_lx L k4
   have hh4 : ∀ x cs,L.drop (sk L k4) = x :: cs→x ≠ 32:=fun x cs h => dwB_head (by rw [← sk_drop]; exact h)
   cases b2 with
   | true =>
    left
    simp only [if_true]
    refine ⟨5,rfl,?_,by decide⟩
    cases ok with
    | false => rw [if_pos (short (.inl rfl)),Option.bind_some,if_pos rfl,Option.bind_some,if_pos rfl,j3 (by decide)]
    | true =>
     by_cases hr0 : r = []
     ·obtain ⟨hp,_⟩:=hok1 rfl
      rw [hlxw,hr,hr0] at hp
      rw [if_pos (short (.inr (by rw [hp]; simp))),Option.bind_some,if_pos rfl,Option.bind_some,if_pos rfl,j3 (by decide)]
     ·rw [head rfl hr hr0,if_neg (by simp)]
      obtain ⟨hp,_⟩:=hok1 rfl
      rw [hlxw,hr] at hp
      have hdrop : ps.drop 2 = r.map sb:=by rw [hp]; rfl
      have hl : 2≤ps.length:=by rw [hp]; simp
      rw [Uq (by omega) (by omega) (by omega),Option.bind_some,hdrop,← ht1,r2,Option.bind_some,if_pos (by simp),j3 (by decide)]
   | false =>
    simp only [Bool.false_eq_true,if_false]
    rw [hpk,Option.bind_some]
    obtain ⟨hp2',hc2,hB2⟩:=a6 rfl
    subst hp2' hc2
    cases hd4 : L.drop (sk L k4) with
    | cons x cs =>
     left
     obtain ⟨i1,i2,i3⟩:=Xi hd4
     have hne : lx (L.drop k4) ≠ []:=by
      rw [← hlx4,hd4]
      exact lx_ne (hh4 x cs hd4)
     rw [if_pos (by simp [Zo]; right; omega)]
     refine ⟨5,rfl,?_,by decide⟩
     cases ok with
     | false => rw [if_pos (short (.inl rfl)),Option.bind_some,if_pos rfl,Option.bind_some,if_pos rfl,j3 (by decide)]
     | true =>
      by_cases hr0 : r = []
      ·obtain ⟨hp,_⟩:=hok1 rfl
       rw [hlxw,hr,hr0] at hp
       rw [if_pos (short (.inr (by rw [hp]; simp))),Option.bind_some,if_pos rfl,Option.bind_some,if_pos rfl,j3 (by decide)]
      ·rw [head rfl hr hr0,if_neg (by simp)]
       obtain ⟨hp,_⟩:=hok1 rfl
       rw [hlxw,hr] at hp
       have hdrop : ps.drop 2 = r.map sb:=by rw [hp]; rfl
       have hl : 2≤ps.length:=by rw [hp]; simp
       have hpos:=List.length_pos_iff.2 hne
       rw [Uq (by omega) (by omega) (by omega),Option.bind_some,hdrop,← ht1,r2,Option.bind_some,if_pos (by simp [Zo]; omega),j3 (by decide)]
    | nil =>
     have hlx40 : lx (L.drop k4) = []:=by rw [← hlx4,hd4]; rfl
     have hend:=drop_nil hd4
     have hok : ok = true:=by
      cases ok with
      | true => rfl
      | false =>
       have h0:=hok2 rfl
       rw [hB0,hB2,hlx40] at h0
       cases h0
     subst hok
     have hr0 : r ≠ []:=fun e => by
      subst e
      rw [ht1,show List.map sb ([] : List (List UInt8)) = [] from rfl,expr_nil] at r2
      injection r2 with r2'
      have:=congrArg T204.bad_ r2'
      cases this
     have hz : hdI ([] : List UInt8) = 0:=rfl
     rw [if_neg (by rw [hz]; simp [Zo,Yx]; omega)]
     rw [head rfl hr hr0,if_neg (by simp)]
     obtain ⟨hp,_⟩:=hok1 rfl
     rw [hlxw,hr] at hp
     have hdrop : ps.drop 2 = r.map sb:=by rw [hp]; rfl
     have hi0 : Wp ps 0 = some (sb w):=by rw [hp]; rfl
     have hl : 2≤ps.length:=by rw [hp]; simp
     rw [Uq (by omega) (by omega) (by omega),Option.bind_some,hdrop,← ht1,r2,Option.bind_some,hlx40,if_neg (by simp [Zo]),hi0,Option.bind_some]
     simp only
     unfold g78
     rw [find_impl (by omega),find_spec (by omega),Option.bind_some,Option.bind_some,Option.bind_some]
     rcases find_cases ns w with ⟨f1,f2⟩ | ⟨f1,f2,f3⟩
     ·have hlf : Xa 0 (He ns w) = false:=by rw [f1]; rfl
      have hcl : c2.length≤2000:=by omega
      have k1 : Jm 8 c2 [(⟨4,cI .i16 ((ns.map sb).length : Int),some 0⟩ : T189)] = some ():=Uy (by simp; omega) (by simp; omega)
      have k2 : Jm 16 ([] : List ByteArray) (ns.map sb) = some ():=Uy (by simp; omega) (by simp; omega)
      have k3 : Jm 16 (ns.map sb) [sb w] = some ():=Uy (by simp; omega) (by simp; omega)
      rw [hlf,if_neg (by simp),if_neg (by simp),put_eq hcl]
      simp only [k1,k2,k3,Option.bind_some]
      obtain ⟨dp,hdp⟩:=deep_some (c2 ++ [⟨4,cI .i16 ((ns.map sb).length : Int),some 0⟩]) (by simp; omega)
      have hlen : aI .i64 (pc.length : Int) (((c2 ++ [(⟨4,cI .i16 ((ns.map sb).length : Int),some 0⟩ : T189)]).length : Nat) : Int) = ((pc.length + (c2.length + 1) : Nat) : Int):=by
       rw [aI64 (by simp; omega) (by simp; omega)]
       simp
      simp only [deep_same,hdp,Option.bind_some,hlen]
      by_cases hC : ns.length = 12∨300 < pc.length + (c2.length + 1)
      ·left
       refine ⟨3,?_,?_,by decide⟩
       ·rw [if_pos (by simp [Yx,Zo]; omega),Option.bind_some,if_pos rfl]
       ·rw [if_pos (by simp [Yx,Zo]; omega),Option.bind_some,if_pos rfl,j3 (by decide)]
      ·rw [if_neg (by simp [Yx,Zo]; omega),Option.bind_some]
       by_cases hdep : Zo 20 dp = true
       ·left
        refine ⟨3,?_,?_,by decide⟩
        ·rw [if_pos hdep]
        ·rw [Option.bind_some,if_pos hdep,j3 (by decide)]
       ·right
        have k4 : Jm 8 pc (c2 ++ [(⟨4,cI .i16 ((ns.map sb).length : Int),some 0⟩ : T189)]) = some ():=Uy (by simp; omega) (by simp; omega)
        refine ⟨w,c2 ++ [⟨4,cI .i16 ((ns.map sb).length : Int),some 0⟩],?_,?_,hnm,f2,by omega,by simp; omega⟩
        ·rw [if_neg hdep,k4,Option.bind_some,Xd (by omega),List.map_append]
         rfl
        ·rw [Option.bind_some,if_neg hdep,k4,Option.bind_some,j30,List.map_append]
         rfl
     ·left
      have hlf : Xa 0 (He ns w) = true:=by simp [Xa]; omega
      refine ⟨4,?_,?_,by decide⟩
      ·rw [hlf,if_pos rfl]
      ·rw [hlf,if_pos rfl,j3 (by decide)]
def Comp (r r' : ((List ByteArray) × (List T189)) ⊕ (T79 × Int × Int)) : Prop:=r = r'∧match r with
 | .inl (a,b) => ∃ ns : List (List UInt8),a = ns.map sb∧(∀ w ∈ ns,Qb w = true)∧ns.Nodup∧ns.length≤12∧b.length≤300
 | .inr (p,i,e) => p = ⟨[],[]⟩∧e ≠ 0
theorem lines_both {ls : List (List UInt8)} (hls : ls.length≤100000) (hL : ∀ l ∈ ls,l.length≤2000) : ∃ r r',loopO (g34_L1 (ls.map sb)) (0,[],[]) = some r∧loopO (g58_L1 (ls.map sb)) (0,[],[]) = some r'∧Comp r r' :=
 loopO_rel (fun st => ls.length - st.1.toNat)
  (fun st st' => ∃ (i : Nat) (ns : List (List UInt8)) (pc : List T189),st = ((i : Int),ns.map sb,pc)∧st' = ((i : Int),ns.map sb,pc)∧(∀ w ∈ ns,Qb w = true)∧ns.Nodup∧ns.length≤12∧pc.length≤300) Comp
  (fun st st' ⟨i,ns,pc,e1,e2,h1,h2,h3,h4⟩ => by
   subst e1 e2
   by_cases hi : i < ls.length
   ·rcases line_both hi hls (hL _ (List.getElem_mem hi)) h1 h3 h4 with ⟨e,a1,a2,a3⟩ | ⟨w,c,a1,a2,a3,a4,a5,a6⟩
    ·exact .inr ⟨_,_,a1,a2,rfl,rfl,a3⟩
    ·refine .inl ⟨_,_,a1,a2,⟨i + 1,ns ++ [w],pc ++ c,rfl,rfl,?_,?_,by simp; omega,a6⟩,by simp only [Int.toNat_natCast]; omega⟩
     ·intro v hv
      rcases List.mem_append.1 hv with hv | hv
      ·exact h1 v hv
      ·simp at hv; subst hv; exact a3
     ·rw [List.nodup_append]
      exact ⟨h2,by simp,fun a ha b hb => by simp at hb; subst hb; exact fun e => a4 (e ▸ ha)⟩
   ·right
    have hn : ¬ Zo (i : Int) ((ls.map sb).length : Int) = true:=by simp [Zo]; omega
    rw [g34_L1,g58_L1,if_neg hn,if_neg hn]
    exact ⟨_,_,rfl,rfl,rfl,ns,rfl,h1,h2,h3,h4⟩) (s:=(0,[],[])) (s':=(0,[],[])) ⟨0,[],[],rfl,rfl,by simp,by simp,by simp,by simp⟩
theorem compile_both (s : List UInt8) : ∃ p i e,g34 (sb s) = some (p,i,e)∧g58 (sb s) = some (p,i,e)∧(e = 0→∃ ns : List (List UInt8),p.names_ = ns.map sb∧(∀ w ∈ ns,Qb w = true)∧ns.Nodup∧ns.length≤12∧p.code_.length≤300)∧(e ≠ 0→p = ⟨[],[]⟩):=by
 unfold g34 g58
 by_cases hl : 2000 < s.length
 ·rw [if_pos (by simp [Zo]; omega),if_pos (by simp [Zo]; omega)]
  exact ⟨_,_,_,rfl,rfl,fun h => absurd h (by decide),fun _ => rfl⟩
 ·rw [if_neg (by simp [Zo]; omega),if_neg (by simp [Zo]; omega)]
  have e1 : g72 (sb s) (⟨#[10]⟩ : ByteArray) = some ((Qx 10 s).map sb):=splitO_cut (c:=10) (by omega)
  have e2 : g102 (sb s) 10 = some ((Qx 10 s).map sb):=split72 (c:=10) (by omega)
  have hne:=cut_ne (c:=10) s
  have hlen:=pieces_len 10 s
  have hpl : ∀ l ∈ Qx 10 s,l.length≤2000:=fun l h => by have:=piece_len h; omega
  rw [e1,e2,Option.bind_some,Option.bind_some]
  generalize Qx 10 s = ls at *
  have hp:=List.length_pos_iff.2 hne
  have hlast : sI .i64 ((ls.map sb).length : Int) 1 = ((ls.length - 1 : Nat) : Int):=by
   rw [List.length_map,sI64 (by omega) (by omega)]; omega
  rw [hlast,Yh (by simp; omega),Option.bind_some,Option.bind_some]
  have fin : ∀ ls' : List (List UInt8),ls'.length≤100000→(∀ l ∈ ls',l.length≤2000)→∃ p i e,g34_j1 (ls'.map sb) = some (p,i,e)∧g58_j1 (ls'.map sb) = some (p,i,e)∧(e = 0→∃ ns : List (List UInt8),p.names_ = ns.map sb∧(∀ w ∈ ns,Qb w = true)∧ns.Nodup∧ns.length≤12∧p.code_.length≤300)∧(e ≠ 0→p = ⟨[],[]⟩):=fun ls' h1 h2 => by
   obtain ⟨r,r',f1,f2,f3,f4⟩:=lines_both h1 h2
   subst f3
   unfold g34_j1 g58_j1
   rw [f1,f2,Option.bind_some,Option.bind_some]
   cases r with
   | inl y =>
    obtain ⟨a,b⟩:=y
    exact ⟨⟨a,b⟩,0,0,rfl,rfl,fun _ => f4,fun h => absurd rfl h⟩
   | inr r =>
    obtain ⟨p,i,e⟩:=r
    exact ⟨_,_,_,rfl,rfl,fun h => absurd h f4.2,fun _ => f4.1⟩
  by_cases hE : Jb ((ls.map sb)[ls.length - 1]'(by simp; omega)) ByteArray.empty = true
  ·rw [if_pos hE,if_pos hE,Uq (by omega) (by omega) (by rw [List.length_map]; omega),Option.bind_some,Option.bind_some,Int.toNat_natCast,← List.map_take]
   exact fin _ (by rw [List.length_take]; omega) (fun l h => hpl l (List.mem_of_mem_take h))
  ·rw [if_neg hE,if_neg hE]
   exact fin _ (by omega) hpl
end Go.Proofs.YtloepppmjppddaaGreatDoor
namespace Go.Proofs.YtloepppmjppddaaGreatDoor
open Go.VL
set_option linter.unusedSimpArgs false
set_option linter.unusedVariables false
theorem c45 {a : List Go.VL.F32} (h : a.length≤1048576) : g61 a = some a:=by
 have hL : loopO (g61_L1 a) (0,List.replicate (a.length : Int).toNat (some 0)) = some a:=by
  have:=Ua (body:=g61_L1 a) (fun i => ((i : Int),fill i a (some 0))) a.length (fun i hi => by
   rw [g61_L1]
   simp only [Zo,show ((i : Int) < a.length) = True by simp; omega,decide_true,if_true,Yh hi,Option.bind_some,Xd (i:=i) (by omega)]
   rw [Yh (by simpa using hi)]
   simp only [Option.bind_some,Int.toNat_natCast]
   rw [Je hi (List.getElem?_eq_getElem hi)]) (r:=a) (by
   rw [g61_L1]
   simp [Zo,Jf])
  simpa [Qz] using this
 unfold g61 g61_j1
 rw [mk_of (by omega) (by simp; omega) (by simp; omega)]
 simp only [Option.bind_some]
 rw [hL]
 rfl
theorem c46 {a : List T131} (h : a.length≤1048576) (hf : ∀ x ∈ a,g105 x = some x) : g62 a = some a:=by
 have hL : loopO (g62_L1 a) (0,List.replicate (a.length : Int).toNat (⟨0,0,(some 0),(some 0),(⟨(some 0),(some 0),(some 0),(some 0)⟩ : T130)⟩ : T131)) = some a:=by
  have:=Ua (body:=g62_L1 a) (fun i => ((i : Int),fill i a (⟨0,0,(some 0),(some 0),(⟨(some 0),(some 0),(some 0),(some 0)⟩ : T130)⟩ : T131))) a.length (fun i hi => by
   rw [g62_L1]
   simp only [Zo,show ((i : Int) < a.length) = True by simp; omega,decide_true,if_true,Yh hi,Option.bind_some,Xd (i:=i) (by omega),hf _ (List.getElem_mem hi)]
   rw [Yh (by simpa using hi)]
   simp only [Option.bind_some,Int.toNat_natCast]
   rw [Je hi (List.getElem?_eq_getElem hi)]) (r:=a) (by
   rw [g62_L1]
   simp [Zo,Jf])
  simpa [Qz] using this
 unfold g62 g62_j1
 rw [mk_of (by omega) (by simp; omega) (by simp; omega)]
 simp only [Option.bind_some]
 rw [hL]
 rfl
theorem c47 {a : List T134} (h : a.length≤1048576) (hf : ∀ x ∈ a,g106 x = some x) : g63 a = some a:=by
 have hL : loopO (g63_L1 a) (0,List.replicate (a.length : Int).toNat (⟨0,0,(some 0),(some 0)⟩ : T134)) = some a:=by
  have:=Ua (body:=g63_L1 a) (fun i => ((i : Int),fill i a (⟨0,0,(some 0),(some 0)⟩ : T134))) a.length (fun i hi => by
   rw [g63_L1]
   simp only [Zo,show ((i : Int) < a.length) = True by simp; omega,decide_true,if_true,Yh hi,Option.bind_some,Xd (i:=i) (by omega),hf _ (List.getElem_mem hi)]
   rw [Yh (by simpa using hi)]
   simp only [Option.bind_some,Int.toNat_natCast]
   rw [Je hi (List.getElem?_eq_getElem hi)]) (r:=a) (by
   rw [g63_L1]
   simp [Zo,Jf])
  simpa [Qz] using this
 unfold g63 g63_j1
 rw [mk_of (by omega) (by simp; omega) (by simp; omega)]
 simp only [Option.bind_some]
 rw [hL]
 rfl
theorem c21 {a : List T32} (h : a.length≤1048576) (hf : ∀ x ∈ a,g64 x = some x) : g24 a = some a:=by
 have hL : loopO (g24_L1 a) (0,List.replicate (a.length : Int).toNat (⟨(some 0),(some 0),(some 0),(some 0),0⟩ : T32)) = some a:=by
  have:=Ua (body:=g24_L1 a) (fun i => ((i : Int),fill i a (⟨(some 0),(some 0),(some 0),(some 0),0⟩ : T32))) a.length (fun i hi => by
   rw [g24_L1]
   simp only [Zo,show ((i : Int) < a.length) = True by simp; omega,decide_true,if_true,Yh hi,Option.bind_some,Xd (i:=i) (by omega),hf _ (List.getElem_mem hi)]
   rw [Yh (by simpa using hi)]
   simp only [Option.bind_some,Int.toNat_natCast]
   rw [Je hi (List.getElem?_eq_getElem hi)]) (r:=a) (by
   rw [g24_L1]
   simp [Zo,Jf])
  simpa [Qz] using this
 unfold g24 g24_j1
 rw [mk_of (by omega) (by simp; omega) (by simp; omega)]
 simp only [Option.bind_some]
 rw [hL]
 rfl
theorem c73 {a : List T149} (h : a.length≤1048576) (hf : ∀ x ∈ a,g148 x = some x) : g134 a = some a:=by
 have hL : loopO (g134_L1 a) (0,List.replicate (a.length : Int).toNat (⟨(⟨(some 0),(some 0),(some 0),(some 0),(some 0),(some 0)⟩ : T148),(⟨(some 0),(some 0),(some 0),(some 0),(some 0),(some 0)⟩ : T148),(⟨(some 0),(some 0),(some 0),(some 0),(some 0),(some 0)⟩ : T148)⟩ : T149)) = some a:=by
  have:=Ua (body:=g134_L1 a) (fun i => ((i : Int),fill i a (⟨(⟨(some 0),(some 0),(some 0),(some 0),(some 0),(some 0)⟩ : T148),(⟨(some 0),(some 0),(some 0),(some 0),(some 0),(some 0)⟩ : T148),(⟨(some 0),(some 0),(some 0),(some 0),(some 0),(some 0)⟩ : T148)⟩ : T149))) a.length (fun i hi => by
   rw [g134_L1]
   simp only [Zo,show ((i : Int) < a.length) = True by simp; omega,decide_true,if_true,Yh hi,Option.bind_some,Xd (i:=i) (by omega),hf _ (List.getElem_mem hi)]
   rw [Yh (by simpa using hi)]
   simp only [Option.bind_some,Int.toNat_natCast]
   rw [Je hi (List.getElem?_eq_getElem hi)]) (r:=a) (by
   rw [g134_L1]
   simp [Zo,Jf])
  simpa [Qz] using this
 unfold g134 g134_j1
 rw [mk_of (by omega) (by simp; omega) (by simp; omega)]
 simp only [Option.bind_some]
 rw [hL]
 rfl
theorem c22 {a : List T87} (h : a.length≤1048576) (hf : ∀ x ∈ a,g65 x = some x) : g25 a = some a:=by
 have hL : loopO (g25_L1 a) (0,List.replicate (a.length : Int).toNat (⟨0,0,0,(⟨[],(some 0),(some 0),0,0,(some 0)⟩ : T85)⟩ : T87)) = some a:=by
  have:=Ua (body:=g25_L1 a) (fun i => ((i : Int),fill i a (⟨0,0,0,(⟨[],(some 0),(some 0),0,0,(some 0)⟩ : T85)⟩ : T87))) a.length (fun i hi => by
   rw [g25_L1]
   simp only [Zo,show ((i : Int) < a.length) = True by simp; omega,decide_true,if_true,Yh hi,Option.bind_some,Xd (i:=i) (by omega),hf _ (List.getElem_mem hi)]
   rw [Yh (by simpa using hi)]
   simp only [Option.bind_some,Int.toNat_natCast]
   rw [Je hi (List.getElem?_eq_getElem hi)]) (r:=a) (by
   rw [g25_L1]
   simp [Zo,Jf])
  simpa [Qz] using this
 unfold g25 g25_j1
 rw [mk_of (by omega) (by simp; omega) (by simp; omega)]
 simp only [Option.bind_some]
 rw [hL]
 rfl
theorem c23 {a : List ByteArray} (h : a.length≤1048576) : g26 a = some a:=by
 have hL : loopO (g26_L1 a) (0,List.replicate (a.length : Int).toNat ByteArray.empty) = some a:=by
  have:=Ua (body:=g26_L1 a) (fun i => ((i : Int),fill i a ByteArray.empty)) a.length (fun i hi => by
   rw [g26_L1]
   simp only [Zo,show ((i : Int) < a.length) = True by simp; omega,decide_true,if_true,Yh hi,Option.bind_some,Xd (i:=i) (by omega)]
   rw [Yh (by simpa using hi)]
   simp only [Option.bind_some,Int.toNat_natCast]
   rw [Je hi (List.getElem?_eq_getElem hi)]) (r:=a) (by
   rw [g26_L1]
   simp [Zo,Jf])
  simpa [Qz] using this
 unfold g26 g26_j1
 rw [mk_of (by omega) (by simp; omega) (by simp; omega)]
 simp only [Option.bind_some]
 rw [hL]
 rfl
theorem c24 {a : List T51} (h : a.length≤1048576) (hf : ∀ x ∈ a,g66 x = some x) : g27 a = some a:=by
 have hL : loopO (g27_L1 a) (0,List.replicate (a.length : Int).toNat (⟨(some 0),(some 0),(some 0)⟩ : T51)) = some a:=by
  have:=Ua (body:=g27_L1 a) (fun i => ((i : Int),fill i a (⟨(some 0),(some 0),(some 0)⟩ : T51))) a.length (fun i hi => by
   rw [g27_L1]
   simp only [Zo,show ((i : Int) < a.length) = True by simp; omega,decide_true,if_true,Yh hi,Option.bind_some,Xd (i:=i) (by omega),hf _ (List.getElem_mem hi)]
   rw [Yh (by simpa using hi)]
   simp only [Option.bind_some,Int.toNat_natCast]
   rw [Je hi (List.getElem?_eq_getElem hi)]) (r:=a) (by
   rw [g27_L1]
   simp [Zo,Jf])
  simpa [Qz] using this
 unfold g27 g27_j1
 rw [mk_of (by omega) (by simp; omega) (by simp; omega)]
 simp only [Option.bind_some]
 rw [hL]
 rfl
structure SmallFlat (a : T25) : Prop where
 heat : a.heat_.length≤1048576
 store : a.store_.length≤1048576
 walls : a.walls_.length≤1048576
 panes : a.panes_.length≤1048576
structure SmallHouse (a : T34) : Prop where
 flat : SmallFlat a.flat_
 chimney : a.chimney_.length≤1048576
 hearths : a.hearths_.length≤1048576
 logs : ∀ x ∈ a.hearths_,x.stove_.logs_.length≤1048576
 sources : a.sources_.length≤1048576
 hours : a.hours_.length≤1048576
theorem c20 {a : T25} (h : SmallFlat a) : g23 a = some a:=by
 unfold g23
 rw [c45 h.heat,Option.bind_some,c45 h.store,Option.bind_some,c46 h.walls (fun x _ => rfl),Option.bind_some,c47 h.panes (fun x _ => rfl),Option.bind_some]
theorem c66 {a : T85} (h : a.logs_.length≤1048576) : g107 a = some a:=by
 unfold g107
 rw [c73 h (fun x _ => rfl),Option.bind_some]
theorem c9 {a : T34} (h : SmallHouse a) : g8 a = some a:=by
 unfold g8
 rw [c20 h.flat,Option.bind_some,c21 h.chimney (fun x _ => rfl),Option.bind_some,c22 h.hearths (fun x hx => by unfold g65; rw [c66 (h.logs x hx)]; rfl),Option.bind_some,c23 h.sources,Option.bind_some,c24 h.hours (fun x _ => rfl),Option.bind_some]
 rfl
theorem q59 (y : Go.VL.F32) : g16 y y = some true:=by
 unfold g16
 cases hn : neF .f64 y y
 ·have he : eqF .f64 y y = true:=by
   unfold neF at hn
   unfold eqF
   simpa using hn
  rw [he]
  simp
 ·simp
theorem q74 (a : T130) : g140 a a = some true:=by
 unfold g140
 simp [q59,g140_j1]
theorem q80 (a : T148) : g167 a a = some true:=by
 unfold g167
 simp [q59,g167_j1]
theorem q67 (a : T131) : g120 a a = some true:=by
 unfold g120
 simp [Yx,q59,q74]
theorem q68 (a : T134) : g121 a a = some true:=by
 unfold g121
 simp [Yx,q59]
theorem q56 (a : T32) : g88 a a = some true:=by
 unfold g88
 simp [Yx,q59]
theorem q78 (a : T149) : g156 a a = some true:=by
 unfold g156
 simp [Yx,q80]
theorem q58 (a : T51) : g13 a a = some true:=by
 unfold g13
 simp [Yx,q59]
theorem q36 (a : T32) : g43 a a = some true:=by
 unfold g43
 simp [Yx,q59]
theorem q53 {a : List Go.VL.F32} (h : a.length≤1048576) : g85 a a = some true:=by
 have hL:=Wx (body:=g85_L1 a a) (n:=a.length) (fun _ => none) (.inl ()) (fun i hi => by
  rw [g85_L1]
  simp only [Zo,show ((i : Int) < a.length) = True by simp; omega,decide_true,if_true,Yh hi,Option.bind_some,Xd (i:=i) (by omega),Bool.not_true,q59]
  simp) (by rw [g85_L1]; simp [Zo])
 rw [show (List.range a.length).findSome? (fun _ => (none : Option (Unit ⊕ Bool))) = none by simp] at hL
 unfold g85
 rw [hL]
 simp [Yx,g85_j1]
theorem q54 {a : List T131} (h : a.length≤1048576) : g86 a a = some true:=by
 have hL:=Wx (body:=g86_L1 a a) (n:=a.length) (fun _ => none) (.inl ()) (fun i hi => by
  rw [g86_L1]
  simp only [Zo,show ((i : Int) < a.length) = True by simp; omega,decide_true,if_true,Yh hi,Option.bind_some,Xd (i:=i) (by omega),Bool.not_true,q67]
  simp) (by rw [g86_L1]; simp [Zo])
 rw [show (List.range a.length).findSome? (fun _ => (none : Option (Unit ⊕ Bool))) = none by simp] at hL
 unfold g86
 rw [hL]
 simp [Yx,g86_j1]
theorem q55 {a : List T134} (h : a.length≤1048576) : g87 a a = some true:=by
 have hL:=Wx (body:=g87_L1 a a) (n:=a.length) (fun _ => none) (.inl ()) (fun i hi => by
  rw [g87_L1]
  simp only [Zo,show ((i : Int) < a.length) = True by simp; omega,decide_true,if_true,Yh hi,Option.bind_some,Xd (i:=i) (by omega),Bool.not_true,q68]
  simp) (by rw [g87_L1]; simp [Zo])
 rw [show (List.range a.length).findSome? (fun _ => (none : Option (Unit ⊕ Bool))) = none by simp] at hL
 unfold g87
 rw [hL]
 simp [Yx,g87_j1]
theorem q32 {a : List T32} (h : a.length≤1048576) : g39 a a = some true:=by
 have hL:=Wx (body:=g39_L1 a a) (n:=a.length) (fun _ => none) (.inl ()) (fun i hi => by
  rw [g39_L1]
  simp only [Zo,show ((i : Int) < a.length) = True by simp; omega,decide_true,if_true,Yh hi,Option.bind_some,Xd (i:=i) (by omega),Bool.not_true,q56]
  simp) (by rw [g39_L1]; simp [Zo])
 rw [show (List.range a.length).findSome? (fun _ => (none : Option (Unit ⊕ Bool))) = none by simp] at hL
 unfold g39
 rw [hL]
 simp [Yx,g39_j1]
theorem q75 {a : List T149} (h : a.length≤1048576) : g141 a a = some true:=by
 have hL:=Wx (body:=g141_L1 a a) (n:=a.length) (fun _ => none) (.inl ()) (fun i hi => by
  rw [g141_L1]
  simp only [Zo,show ((i : Int) < a.length) = True by simp; omega,decide_true,if_true,Yh hi,Option.bind_some,Xd (i:=i) (by omega),Bool.not_true,q78]
  simp) (by rw [g141_L1]; simp [Zo])
 rw [show (List.range a.length).findSome? (fun _ => (none : Option (Unit ⊕ Bool))) = none by simp] at hL
 unfold g141
 rw [hL]
 simp [Yx,g141_j1]
theorem q33 {a : List T87} (h : a.length≤1048576) (hf : ∀ x ∈ a,g89 x x = some true) : g40 a a = some true:=by
 have hL:=Wx (body:=g40_L1 a a) (n:=a.length) (fun _ => none) (.inl ()) (fun i hi => by
  rw [g40_L1]
  simp only [Zo,show ((i : Int) < a.length) = True by simp; omega,decide_true,if_true,Yh hi,Option.bind_some,Xd (i:=i) (by omega),Bool.not_true,hf _ (List.getElem_mem hi)]
  simp) (by rw [g40_L1]; simp [Zo])
 rw [show (List.range a.length).findSome? (fun _ => (none : Option (Unit ⊕ Bool))) = none by simp] at hL
 unfold g40
 rw [hL]
 simp [Yx,g40_j1]
theorem q34 {a : List ByteArray} (h : a.length≤1048576) : g41 a a = some true:=by
 have hL:=Wx (body:=g41_L1 a a) (n:=a.length) (fun _ => none) (.inl ()) (fun i hi => by
  rw [g41_L1]
  simp only [Zo,show ((i : Int) < a.length) = True by simp; omega,decide_true,if_true,Yh hi,Option.bind_some,Xd (i:=i) (by omega),Bool.not_true,Jb,BEq.rfl]
  simp) (by rw [g41_L1]; simp [Zo])
 rw [show (List.range a.length).findSome? (fun _ => (none : Option (Unit ⊕ Bool))) = none by simp] at hL
 unfold g41
 rw [hL]
 simp [Yx,g41_j1]
theorem q35 {a : List T51} (h : a.length≤1048576) : g42 a a = some true:=by
 have hL:=Wx (body:=g42_L1 a a) (n:=a.length) (fun _ => none) (.inl ()) (fun i hi => by
  rw [g42_L1]
  simp only [Zo,show ((i : Int) < a.length) = True by simp; omega,decide_true,if_true,Yh hi,Option.bind_some,Xd (i:=i) (by omega),Bool.not_true,q58]
  simp) (by rw [g42_L1]; simp [Zo])
 rw [show (List.range a.length).findSome? (fun _ => (none : Option (Unit ⊕ Bool))) = none by simp] at hL
 unfold g42
 rw [hL]
 simp [Yx,g42_j1]
theorem q31 {a : T25} (h : SmallFlat a) : g38 a a = some true:=by
 unfold g38
 simp [q53 h.heat,q53 h.store,q54 h.walls,q55 h.panes]
theorem q69 {a : T85} (h : a.logs_.length≤1048576) : g122 a a = some true:=by
 unfold g122
 simp [q75 h,q59,Yx]
theorem q11 {a : T34} (h : SmallHouse a) : g10 a a = some true:=by
 unfold g10
 simp [q31 h.flat,q32 h.chimney,q33 h.hearths (fun x hx => by unfold g89; simp [Yx,q69 (h.logs x hx)]),q34 h.sources,q35 h.hours,q36,Yx]
theorem z37 {a : List Go.VL.F32} {n : Int} (h : a.length≤maxLen) (h1 : 0≤n) (h2 : n≤1048576) : ∃ r,g49 a n = some r∧(r = -1∨(0≤r∧r≤n∧a.length≤1048576)):=by
 have hm : maxLen = 9223372036854775807:=by decide
 unfold g49
 rw [sI64 (by omega) (by omega)]
 simp only [Zo,decide_eq_true_eq]
 by_cases hc : n < a.length
 ·rw [if_pos (by omega)]
  exact ⟨-1,rfl,.inl rfl⟩
 ·rw [if_neg (by omega)]
  exact ⟨_,rfl,.inr ⟨by omega,by omega,by omega⟩⟩
theorem z38 {a : List T131} {n : Int} (h : a.length≤maxLen) (h1 : 0≤n) (h2 : n≤1048576) : ∃ r,g50 a n = some r∧(r = -1∨(0≤r∧r≤n∧a.length≤1048576)):=by
 have hm : maxLen = 9223372036854775807:=by decide
 unfold g50
 rw [sI64 (by omega) (by omega)]
 simp only [Zo,decide_eq_true_eq]
 by_cases hc : n < a.length
 ·rw [if_pos (by omega)]
  exact ⟨-1,rfl,.inl rfl⟩
 ·rw [if_neg (by omega)]
  exact ⟨_,rfl,.inr ⟨by omega,by omega,by omega⟩⟩
theorem z39 {a : List T134} {n : Int} (h : a.length≤maxLen) (h1 : 0≤n) (h2 : n≤1048576) : ∃ r,g51 a n = some r∧(r = -1∨(0≤r∧r≤n∧a.length≤1048576)):=by
 have hm : maxLen = 9223372036854775807:=by decide
 unfold g51
 rw [sI64 (by omega) (by omega)]
 simp only [Zo,decide_eq_true_eq]
 by_cases hc : n < a.length
 ·rw [if_pos (by omega)]
  exact ⟨-1,rfl,.inl rfl⟩
 ·rw [if_neg (by omega)]
  exact ⟨_,rfl,.inr ⟨by omega,by omega,by omega⟩⟩
theorem z15 {a : List T32} {n : Int} (h : a.length≤maxLen) (h1 : 0≤n) (h2 : n≤1048576) : ∃ r,g18 a n = some r∧(r = -1∨(0≤r∧r≤n∧a.length≤1048576)):=by
 have hm : maxLen = 9223372036854775807:=by decide
 unfold g18
 rw [sI64 (by omega) (by omega)]
 simp only [Zo,decide_eq_true_eq]
 by_cases hc : n < a.length
 ·rw [if_pos (by omega)]
  exact ⟨-1,rfl,.inl rfl⟩
 ·rw [if_neg (by omega)]
  exact ⟨_,rfl,.inr ⟨by omega,by omega,by omega⟩⟩
theorem z70 {a : List T149} {n : Int} (h : a.length≤maxLen) (h1 : 0≤n) (h2 : n≤1048576) : ∃ r,g125 a n = some r∧(r = -1∨(0≤r∧r≤n∧a.length≤1048576)):=by
 have hm : maxLen = 9223372036854775807:=by decide
 unfold g125
 rw [sI64 (by omega) (by omega)]
 simp only [Zo,decide_eq_true_eq]
 by_cases hc : n < a.length
 ·rw [if_pos (by omega)]
  exact ⟨-1,rfl,.inl rfl⟩
 ·rw [if_neg (by omega)]
  exact ⟨_,rfl,.inr ⟨by omega,by omega,by omega⟩⟩
theorem z18 {a : List T51} {n : Int} (h : a.length≤maxLen) (h1 : 0≤n) (h2 : n≤1048576) : ∃ r,g21 a n = some r∧(r = -1∨(0≤r∧r≤n∧a.length≤1048576)):=by
 have hm : maxLen = 9223372036854775807:=by decide
 unfold g21
 rw [sI64 (by omega) (by omega)]
 simp only [Zo,decide_eq_true_eq]
 by_cases hc : n < a.length
 ·rw [if_pos (by omega)]
  exact ⟨-1,rfl,.inl rfl⟩
 ·rw [if_neg (by omega)]
  exact ⟨_,rfl,.inr ⟨by omega,by omega,by omega⟩⟩
structure LenFlat (a : T25) : Prop where
 heat : a.heat_.length≤maxLen
 store : a.store_.length≤maxLen
 walls : a.walls_.length≤maxLen
 panes : a.panes_.length≤maxLen
structure LenHouse (a : T34) : Prop where
 flat : LenFlat a.flat_
 chimney : a.chimney_.length≤maxLen
 hearths : a.hearths_.length≤maxLen
 logs : ∀ x ∈ a.hearths_,x.stove_.logs_.length≤maxLen
 sources : a.sources_.length≤maxLen
 words : ∀ x ∈ a.sources_,x.size≤maxLen
 hours : a.hours_.length≤maxLen
theorem z14 {a : T25} {n : Int} (h : LenFlat a) (h1 : 0≤n) (h2 : n≤1048576) : ∃ r,g17 a n = some r∧(r = -1∨(0≤r∧r≤n∧SmallFlat a)):=by
 unfold g17
 obtain ⟨r1,e1,k1⟩:=z37 h.heat h1 h2
 rw [e1,Option.bind_some]
 rcases k1 with rfl | ⟨a1,b1,c1⟩
 ·exact ⟨-1,by simp [Zo],.inl rfl⟩
 rw [if_neg (by simp [Zo]; omega)]
 obtain ⟨r2,e2,k2⟩:=z37 h.store a1 (by omega)
 rw [e2,Option.bind_some]
 rcases k2 with rfl | ⟨a2,b2,c2⟩
 ·exact ⟨-1,by simp [Zo],.inl rfl⟩
 rw [if_neg (by simp [Zo]; omega)]
 obtain ⟨r3,e3,k3⟩:=z38 h.walls a2 (by omega)
 rw [e3,Option.bind_some]
 rcases k3 with rfl | ⟨a3,b3,c3⟩
 ·exact ⟨-1,by simp [Zo],.inl rfl⟩
 rw [if_neg (by simp [Zo]; omega)]
 obtain ⟨r4,e4,k4⟩:=z39 h.panes a3 (by omega)
 rw [e4,Option.bind_some]
 rcases k4 with rfl | ⟨a4,b4,c4⟩
 ·exact ⟨-1,by simp [Zo],.inl rfl⟩
 rw [if_neg (by simp [Zo]; omega)]
 exact ⟨_,rfl,.inr ⟨a4,by omega,c1,c2,c3,c4⟩⟩
theorem z40 {a : T87} {n : Int} (h : a.stove_.logs_.length≤maxLen) (h1 : 0≤n) (h2 : n≤1048576) : ∃ r,g52 a n = some r∧(r = -1∨(0≤r∧r≤n∧a.stove_.logs_.length≤1048576)):=by
 unfold g52 g94
 obtain ⟨r1,e1,k1⟩:=z70 h h1 h2
 rw [e1,Option.bind_some]
 rcases k1 with rfl | ⟨a1,b1,c1⟩
 ·exact ⟨-1,by simp [Zo],.inl rfl⟩
 rw [if_neg (by simp [Zo]; omega),Option.bind_some,if_neg (by simp [Zo]; omega)]
 exact ⟨_,rfl,.inr ⟨a1,b1,c1⟩⟩
theorem z16 {a : List T87} {n : Int} (h : a.length≤maxLen) (hl : ∀ x ∈ a,x.stove_.logs_.length≤maxLen) (h1 : 0≤n) (h2 : n≤1048576) : ∃ r,g19 a n = some r∧(r = -1∨(0≤r∧r≤n∧a.length≤1048576∧∀ x ∈ a,x.stove_.logs_.length≤1048576)):=by
 have hm : maxLen = 9223372036854775807:=by decide
 unfold g19
 rw [sI64 (by omega) (by omega)]
 by_cases hc : n < a.length
 ·rw [if_pos (by simp [Zo]; omega)]
  exact ⟨-1,rfl,.inl rfl⟩
 rw [if_neg (by simp [Zo]; omega)]
 obtain ⟨r,e,hr⟩:=Qv (body:=g19_L1 a) (fun z => a.length - z.2.toNat) (fun z => 0≤z.1∧z.1≤n∧∃ q : Nat,z.2 = q∧q≤a.length∧∀ j (hj : j < a.length),j < q→a[j].stove_.logs_.length≤1048576)
  (fun r => match r with
   | .inl y => 0≤y∧y≤n∧∀ x ∈ a,x.stove_.logs_.length≤1048576
   | .inr y => y = -1) (fun z ⟨x1,x2,q,x3,x4,x5⟩ => by
   obtain ⟨left,i⟩:=z
   simp only at x1 x2 x3
   subst x3
   rw [g19_L1]
   by_cases hq : q < a.length
   ·rw [if_pos (by simp [Zo]; omega),Yh hq,Option.bind_some]
    obtain ⟨r1,e1,k1⟩:=z40 (hl _ (List.getElem_mem hq)) x1 (by omega)
    rw [e1,Option.bind_some]
    rcases k1 with rfl | ⟨a1,b1,c1⟩
    ·right
     exact ⟨.inr (-1),by simp [Zo],rfl⟩
    ·left
     rw [if_neg (by simp [Zo]; omega),Xd (by omega)]
     refine ⟨_,rfl,⟨a1,by simp only; omega,q + 1,rfl,by omega,fun j hj hjq => ?_⟩,by simp only; omega⟩
     by_cases hjj : j = q
     ·subst hjj; exact c1
     ·exact x5 j hj (by omega)
   ·right
    rw [if_neg (by simp [Zo]; omega)]
    refine ⟨.inl left,rfl,x1,x2,fun x hx => ?_⟩
    obtain ⟨j,hj,rfl⟩:=List.getElem_of_mem hx
    exact x5 j hj (by omega)) (s:=(n - (a.length : Int),0)) ⟨by simp only; omega,by simp only; omega,0,rfl,by omega,fun j hj h => by omega⟩
 rw [e,Option.bind_some]
 cases r with
 | inl y =>
  obtain ⟨y1,y2,y3⟩:=hr
  exact ⟨y,rfl,.inr ⟨y1,y2,by omega,y3⟩⟩
 | inr y => exact ⟨y,rfl,.inl hr⟩
theorem z17 {a : List ByteArray} {n : Int} (h : a.length≤maxLen) (hl : ∀ x ∈ a,x.size≤maxLen) (h1 : 0≤n) (h2 : n≤1048576) : ∃ r,g20 a n = some r∧(r = -1∨(0≤r∧r≤n∧a.length≤1048576)):=by
 have hm : maxLen = 9223372036854775807:=by decide
 unfold g20
 rw [sI64 (by omega) (by omega)]
 by_cases hc : n < a.length
 ·rw [if_pos (by simp [Zo]; omega)]
  exact ⟨-1,rfl,.inl rfl⟩
 rw [if_neg (by simp [Zo]; omega)]
 obtain ⟨r,e,hr⟩:=Qv (body:=g20_L1 a) (fun z => a.length - z.2.toNat) (fun z => 0≤z.1∧z.1≤n∧∃ q : Nat,z.2 = q∧q≤a.length)
  (fun r => match r with
   | .inl y => 0≤y∧y≤n
   | .inr y => y = -1) (fun z ⟨x1,x2,q,x3,x4⟩ => by
   obtain ⟨left,i⟩:=z
   simp only at x1 x2 x3
   subst x3
   rw [g20_L1]
   by_cases hq : q < a.length
   ·have hx:=hl _ (List.getElem_mem hq)
    rw [if_pos (by simp [Zo]; omega),Yh hq,Option.bind_some,sI64 (by omega) (by omega)]
    by_cases hs : left < (a[q].size : Int)
    ·right
     exact ⟨.inr (-1),by rw [if_pos (by simp [Zo]; omega)],rfl⟩
    ·left
     rw [if_neg (by simp [Zo]; omega),Xd (by omega)]
     exact ⟨_,rfl,⟨by simp only; omega,by simp only; omega,q + 1,rfl,by omega⟩,by simp only; omega⟩
   ·right
    rw [if_neg (by simp [Zo]; omega)]
    exact ⟨.inl left,rfl,x1,x2⟩) (s:=(n - (a.length : Int),0)) ⟨by simp only; omega,by simp only; omega,0,rfl,by omega⟩
 rw [e,Option.bind_some]
 cases r with
 | inl y => exact ⟨y,rfl,.inr ⟨hr.1,hr.2,by omega⟩⟩
 | inr y => exact ⟨y,rfl,.inl hr⟩
theorem z7 {a : T34} {n : Int} (h : LenHouse a) (h1 : 0≤n) (h2 : n≤1048576) : ∃ r,g6 a n = some r∧(r = -1∨(0≤r∧r≤n∧SmallHouse a)):=by
 unfold g6
 obtain ⟨r1,e1,k1⟩:=z14 h.flat h1 h2
 rw [e1,Option.bind_some]
 rcases k1 with rfl | ⟨a1,b1,c1⟩
 ·exact ⟨-1,by simp [Zo],.inl rfl⟩
 rw [if_neg (by simp [Zo]; omega)]
 obtain ⟨r2,e2,k2⟩:=z15 h.chimney a1 (by omega)
 rw [e2,Option.bind_some]
 rcases k2 with rfl | ⟨a2,b2,c2⟩
 ·exact ⟨-1,by simp [Zo],.inl rfl⟩
 rw [if_neg (by simp [Zo]; omega)]
 obtain ⟨r3,e3,k3⟩:=z16 h.hearths h.logs a2 (by omega)
 rw [e3,Option.bind_some]
 rcases k3 with rfl | ⟨a3,b3,c3⟩
 ·exact ⟨-1,by simp [Zo],.inl rfl⟩
 rw [if_neg (by simp [Zo]; omega)]
 obtain ⟨r4,e4,k4⟩:=z17 h.sources h.words a3 (by omega)
 rw [e4,Option.bind_some]
 rcases k4 with rfl | ⟨a4,b4,c4⟩
 ·exact ⟨-1,by simp [Zo],.inl rfl⟩
 rw [if_neg (by simp [Zo]; omega)]
 obtain ⟨r5,e5,k5⟩:=z18 h.hours a4 (by omega)
 rw [e5,Option.bind_some]
 rcases k5 with rfl | ⟨a5,b5,c5⟩
 ·exact ⟨-1,by simp [Zo],.inl rfl⟩
 rw [if_neg (by simp [Zo]; omega)]
 exact ⟨_,rfl,.inr ⟨a5,by omega,c1,c2,c3.1,c3.2,c4,c5⟩⟩
end Go.Proofs.YtloepppmjppddaaGreatDoor
namespace Go.Proofs.YtloepppmjppddaaGreatDoor
open Go.VL
set_option linter.unusedSimpArgs false
set_option linter.unusedVariables false
set_option maxHeartbeats 4000000
theorem num_ord {b c : Nat} (h1 : (Ieee.single.read b).isNaN = false) (h2 : (Ieee.single.read c).isNaN = false) : ∃ o,Hh .f32 (some b) (some c) = some o:=by
 show ∃ o,Ieee.single.order b c = some o
 unfold Ieee.Format.order
 cases hb : Ieee.single.read b with
 | nan s t => rw [hb] at h1; cases h1
 | infinity s =>
  cases hc : Ieee.single.read c with
  | nan s t => rw [hc] at h2; cases h2
  | infinity s => exact ⟨_,rfl⟩
  | number s m e => exact ⟨_,rfl⟩
 | number s m e =>
  cases hc : Ieee.single.read c with
  | nan s t => rw [hc] at h2; cases h2
  | infinity s => exact ⟨_,rfl⟩
  | number s m e => exact ⟨_,rfl⟩
theorem nan_read {b : Nat} (hb : b < 4294967296) (h : nanB b = false) : (Ieee.single.read b).isNaN = false:=by
 have h' : ¬ 2139095040 < b % 2147483648:=by simpa [nanB] using h
 rcases Jr hb with ⟨m,e,h1,_,_⟩ | ⟨h1,_⟩ | ⟨s,t,h1,h2⟩
 ·rw [h1]; rfl
 ·rw [h1]; rfl
 ·exact absurd h2 h'
theorem amt_gt {x : F32} (hx : Hs x) (ha : Wu x = true) {c : Nat} (hc : (Ieee.single.read c).isNaN = false) : gtF .f32 x (some c) = (!Qa .f32 x (some c))∧ltF .f32 x (some c) = (!Ka .f32 x (some c)):=by
 obtain ⟨b,rfl,hb⟩:=hx
 obtain ⟨o,ho⟩:=num_ord (nan_read hb (amt_num ha)) hc
 unfold gtF Qa ltF Ka
 rw [ho]
 cases o <;> decide
theorem scan_two' {b1 b2 : Int→Option (Int ⊕ (Unit ⊕ Bool))} {n : Nat} (hn : n≤1048576) (h : ∀ i : Nat,i < n→∃ c : Bool,b1 (i : Int) = (if c = true then some (.inr (.inr false)) else some (.inl (aI .i64 (i : Int) 1)))∧b2 (i : Int) = (if c = true then some (.inr (.inr false)) else some (.inl (aI .i64 (i : Int) 1))))
  (e1 : b1 (n : Int) = some (.inr (.inl ()))) (e2 : b2 (n : Int) = some (.inr (.inl ()))) : ∃ b : Bool,loopO b1 0 = some (if b = true then .inl () else .inr false)∧loopO b2 0 = some (if b = true then .inl () else .inr false)∧(b = true→∀ i : Nat,i < n→b1 (i : Int) = some (.inl (aI .i64 (i : Int) 1))):=by
 obtain ⟨r,r',h1,h2,h3⟩:=loopO_rel (b1:=b1) (b2:=b2) (fun i => n - i.toNat) (fun i j => i = j∧∃ k : Nat,i = (k : Int)∧k≤n∧∀ j : Nat,j < k→b1 (j : Int) = some (.inl (aI .i64 (j : Int) 1))) (fun r r' => r = r'∧∃ b : Bool,r = (if b = true then .inl () else .inr false)∧(b = true→∀ i : Nat,i < n→b1 (i : Int) = some (.inl (aI .i64 (i : Int) 1)))) (fun i j ⟨e,k,hk,hkn,ha⟩ => by
  subst e hk
  by_cases hq : k < n
  ·obtain ⟨c,f1,f2⟩:=h k hq
   cases c with
   | true =>
    rw [f1,f2]
    exact .inr ⟨_,_,rfl,rfl,rfl,false,rfl,fun h => (nomatch h)⟩
   | false =>
    have f1':=f1
    rw [if_neg (by simp)] at f1'
    rw [f1,f2,Xd (by omega)]
    refine .inl ⟨_,_,rfl,rfl,⟨rfl,k + 1,rfl,by omega,fun j hj => ?_⟩,by simp only [Int.toNat_natCast]; omega⟩
    by_cases hjk : j = k
    ·subst hjk; exact f1'
    ·exact ha j (by omega)
  ·have : k = n:=by omega
   subst this
   rw [e1,e2]
   exact .inr ⟨_,_,rfl,rfl,rfl,true,rfl,fun _ => ha⟩) (s:=0) (s':=0) ⟨rfl,0,rfl,by omega,fun j hj => by omega⟩
 obtain ⟨rfl,b,hb,hb2⟩:=h3
 exact ⟨b,by rw [h1,hb],by rw [h2,hb],hb2⟩
theorem scan_two {b1 b2 : Int→Option (Int ⊕ (Unit ⊕ Bool))} {n : Nat} (hn : n≤1048576) (h : ∀ i : Nat,i < n→∃ c : Bool,b1 (i : Int) = (if c = true then some (.inr (.inr false)) else some (.inl (aI .i64 (i : Int) 1)))∧b2 (i : Int) = (if c = true then some (.inr (.inr false)) else some (.inl (aI .i64 (i : Int) 1))))
  (e1 : b1 (n : Int) = some (.inr (.inl ()))) (e2 : b2 (n : Int) = some (.inr (.inl ()))) : ∃ b : Bool,loopO b1 0 = some (if b = true then .inl () else .inr false)∧loopO b2 0 = some (if b = true then .inl () else .inr false):=by
 obtain ⟨b,h1,h2,_⟩:=scan_two' hn h e1 e2
 exact ⟨b,h1,h2⟩
def FkOk (f : T32) : Prop:=Hs f.burnt_∧Hs f.steam_∧Hs f.up_∧Hs f.lost_
def shareF (x : F32) : Bool:=Wu x && Qa .f32 x (some 1065353216)
theorem share_spec {x : F32} (h : Hs x) : g123 x = some (shareF x):=by unfold g123; rw [Gm h]; rfl
theorem share_impl {x : F32} (h : Hs x) : g82 x = some (shareF x):=by unfold g82; rw [Gn h]; rfl
def flueF (f : T32) : Bool:=Wu f.burnt_ && Ka .f32 f.burnt_ (some 1031798784) && Qa .f32 f.burnt_ (some 1106247680) && Wu f.steam_ && Ka .f32 f.steam_ (some 1015021568) && Qa .f32 f.steam_ (some 1082130432) && (Ka .f32 f.up_ (some 3262119936) && Qa .f32 f.up_ (some 1153138688)) && shareF f.lost_
theorem flue_spec {f : T32} (h : FkOk f) : g99 f = some (flueF f):=by
 unfold g99 g127 flueF
 rw [Gm h.1,Gm h.2.1,share_spec h.2.2.2]
 simp only [Option.bind_some]
 cases Wu f.burnt_ && Ka .f32 f.burnt_ (some 1031798784) && Qa .f32 f.burnt_ (some 1106247680) with
 | false => simp
 | true =>
  simp only [if_true,Option.bind_some,Bool.true_and]
  cases Wu f.steam_ && Ka .f32 f.steam_ (some 1015021568) && Qa .f32 f.steam_ (some 1082130432) with
  | false => simp
  | true =>
   simp only [if_true,Option.bind_some,Bool.true_and]
   cases Ka .f32 f.up_ (some 3262119936) && Qa .f32 f.up_ (some 1153138688) <;> simp
theorem flue_impl {f : T32} (h : FkOk f) : g71 f = some (flueF f):=by
 unfold g71 g33 flueF
 rw [Gn h.1,Gn h.2.1,share_impl h.2.2.2]
 simp only [Option.bind_some]
 cases Wu f.burnt_ with
 | false => simp
 | true =>
  simp only [if_true,Option.bind_some,Bool.true_and]
  cases Ka .f32 f.burnt_ (some 1031798784) && Qa .f32 f.burnt_ (some 1106247680) with
  | false => simp
  | true =>
   simp only [if_true,Option.bind_some,Bool.true_and]
   cases Wu f.steam_ with
   | false => simp
   | true =>
    simp only [if_true,Option.bind_some,Bool.true_and]
    cases Ka .f32 f.steam_ (some 1015021568) && Qa .f32 f.steam_ (some 1082130432) with
    | false => simp
    | true =>
     simp only [if_true,Option.bind_some,Bool.true_and]
     cases Ka .f32 f.up_ (some 3262119936) && Qa .f32 f.up_ (some 1153138688) <;> simp
theorem chim_both {c : List T32} (hc : c.length≤1048576) (hf : ∀ f ∈ c,FkOk f) : ∃ b : Bool,g54 c = some b∧g30 c = some b:=by
 unfold g54 g30 g55
 by_cases hl : c.length < 1∨6 < c.length
 ·have e : (Xa 1 (c.length : Int) && Xa (c.length : Int) 6) = false:=by simp [Xa]; omega
  rw [Option.bind_some,e,if_pos (by simp),if_pos (by simp [Zo]; omega)]
  exact ⟨_,rfl,rfl⟩
 ·have e : (Xa 1 (c.length : Int) && Xa (c.length : Int) 6) = true:=by simp [Xa]; omega
  rw [Option.bind_some,e,if_neg (by simp),if_neg (by simp [Zo]; omega)]
  obtain ⟨b,h1,h2⟩:=scan_two (b1:=g54_L1 c) (b2:=g30_L1 c) hc (fun i hi => by
   rw [g54_L1,g30_L1,if_pos (by simp [Zo]; omega),if_pos (by simp [Zo]; omega),Yh hi]
   simp only [Option.bind_some]
   rw [flue_spec (hf _ (List.getElem_mem hi)),flue_impl (hf _ (List.getElem_mem hi))]
   simp only [Option.bind_some]
   cases flueF c[i] with
   | false => exact ⟨true,rfl,rfl⟩
   | true =>
    simp only [Bool.not_true,Bool.false_eq_true,if_false]
    cases Yx c[i].smoky_ (-1) with
    | true => exact ⟨false,rfl,rfl⟩
    | false =>
     simp only [Bool.false_eq_true,if_false]
     unfold g55
     rw [sI64 (by omega) (by omega),Option.bind_some]
     by_cases hr : 0≤c[i].smoky_∧c[i].smoky_ < (c.length : Int)∧c[i].smoky_ ≠ (i : Int)
     ·obtain ⟨r1,r2,r3⟩:=hr
      have x1 : ((!(Xa 0 c[i].smoky_ && Xa c[i].smoky_ ((c.length : Int) - 1))) || Yx c[i].smoky_ (i : Int)) = false:=by simp [Xa,Yx]; omega
      have x2 : ((Zo c[i].smoky_ 0 || Xa (c.length : Int) c[i].smoky_) || Yx c[i].smoky_ (i : Int)) = false:=by simp [Xa,Yx,Zo]; omega
      rw [x1,x2,idx_of r1 (by omega)]
      simp only [Bool.false_eq_true,if_false,Option.bind_some]
      exact ⟨_,rfl,rfl⟩
     ·have x1 : ((!(Xa 0 c[i].smoky_ && Xa c[i].smoky_ ((c.length : Int) - 1))) || Yx c[i].smoky_ (i : Int)) = true:=by simp [Xa,Yx]; omega
      have x2 : ((Zo c[i].smoky_ 0 || Xa (c.length : Int) c[i].smoky_) || Yx c[i].smoky_ (i : Int)) = true:=by simp [Xa,Yx,Zo]; omega
      rw [x1,x2]
      exact ⟨true,rfl,rfl⟩) (by rw [g54_L1,if_neg (by simp [Zo])]) (by rw [g30_L1,if_neg (by simp [Zo])])
  rw [h1,h2]
  exact ⟨b,by cases b <;> rfl,by cases b <;> rfl⟩
def RowOk (r : T148) : Prop:=Hs r.a0_∧Hs r.a1_∧Hs r.a2_∧Hs r.a3_∧Hs r.a4_∧Hs r.a5_
def WdOk (w : T149) : Prop:=RowOk w.wet_∧RowOk w.heat_∧RowOk w.fuel_
def layF (a h f : F32) : Bool:=(Wu a && Qa .f32 a (some 1092616192)) && (Wu f && Qa .f32 f (some 1092616192)) && (Ka .f32 h (some 3262119936) && Qa .f32 h (some 1153138688))
theorem Hz {a h f : F32} (ha : Hs a) (hf : Hs f) {A : Option Bool} : ((g100 a).bind fun r49 => (if ((!r49) || gtF .f32 a (some 1092616192)) = true then some true else (g100 f).bind fun r51 => some (!r51)).bind fun w53 =>
  if ((w53 || gtF .f32 f (some 1092616192)) || (!(Ka .f32 h (some 3262119936) && Qa .f32 h (some 1153138688)))) = true then some false else A) = if layF a h f = true then A else some false:=by
 rw [Gm ha,Gm hf]
 simp only [Option.bind_some]
 unfold layF
 cases h1 : Wu a with
 | false => simp
 | true =>
  rw [(amt_gt ha h1 (by decide)).1]
  cases Qa .f32 a (some 1092616192) with
  | false => simp
  | true =>
   simp only [Bool.not_true,Bool.or_self,Bool.false_eq_true,if_false,Option.bind_some,Bool.and_self,Bool.true_and]
   cases h2 : Wu f with
   | false => simp
   | true =>
    rw [(amt_gt hf h2 (by decide)).1]
    cases Qa .f32 f (some 1092616192) <;> cases Ka .f32 h (some 3262119936) && Qa .f32 h (some 1153138688) <;> simp
theorem Ga {a h f : F32} (ha : Hs a) (hf : Hs f) {A : Option Bool} : ((g32 a (some 1092616192)).bind fun r85 => (if (!r85) = true then some true else (g32 f (some 1092616192)).bind fun r87 => some (!r87)).bind fun w89 => (if w89 = true then some true else (g33 h (some 3262119936) (some 1153138688)).bind fun r90 => some (!r90)).bind fun w92 => if w92 = true then some false else A) = if layF a h f = true then A else some false:=by
 unfold g32 g33
 rw [Gn ha,Gn hf]
 simp only [Option.bind_some]
 unfold layF
 cases Wu a && Qa .f32 a (some 1092616192) <;> cases Wu f && Qa .f32 f (some 1092616192) <;> cases Ka .f32 h (some 3262119936) && Qa .f32 h (some 1153138688) <;> simp
def woodF (w : T149) : Bool:=layF w.wet_.a0_ w.heat_.a0_ w.fuel_.a0_ && layF w.wet_.a1_ w.heat_.a1_ w.fuel_.a1_ && layF w.wet_.a2_ w.heat_.a2_ w.fuel_.a2_ && layF w.wet_.a3_ w.heat_.a3_ w.fuel_.a3_ && layF w.wet_.a4_ w.heat_.a4_ w.fuel_.a4_ && layF w.wet_.a5_ w.heat_.a5_ w.fuel_.a5_
theorem six {a b c d e f : Bool} : (if a = true then if b = true then if c = true then if d = true then if e = true then if f = true then some true else some false else some false else some false else some false else some false else some false) = some (a && b && c && d && e && f):=by
 cases a <;> cases b <;> cases c <;> cases d <;> cases e <;> cases f <;> rfl
theorem wood_spec {w : T149} (h : WdOk w) : g124 w = some (woodF w):=by
 obtain ⟨⟨a0,a1,a2,a3,a4,a5⟩,_,f0,f1,f2,f3,f4,f5⟩:=h
 unfold g124 g124_j1 woodF
 rw [Hz a0 f0,Hz a1 f1,Hz a2 f2,Hz a3 f3,Hz a4 f4,Hz a5 f5,six]
theorem wood_impl {w : T149} (h : WdOk w) : g81 w = some (woodF w):=by
 obtain ⟨⟨a0,a1,a2,a3,a4,a5⟩,_,f0,f1,f2,f3,f4,f5⟩:=h
 unfold g81 g81_j1 woodF
 rw [Ga a0 f0,Ga a1 f1,Ga a2 f2,Ga a3 f3,Ga a4 f4,Ga a5 f5,six]
structure StOk (s : T85) : Prop where
 logs : ∀ w ∈ s.logs_,WdOk w
 box : Hs s.box_
 damper : Hs s.damper_
 dust : Hs s.dust_
 state : -128≤s.state_∧s.state_≤127
theorem stove_both {s : T85} (h : StOk s) (hl : s.logs_.length≤1048576) : ∃ b : Bool,g90 s = some b∧g35 s = some b∧(b = true→s.logs_.length≤6∧(∀ w ∈ s.logs_,woodF w = true)∧(Ka .f32 s.box_ (some 3262119936) && Qa .f32 s.box_ (some 1153138688)) = true∧shareF s.damper_ = true∧0≤s.state_∧s.state_≤3∧0≤s.ash_∧s.ash_≤1000000∧Wu s.dust_ = true∧ltF .f32 s.dust_ (some 1065353216) = true):=by
 obtain ⟨b,h1,h2,hall⟩:=scan_two' (b1:=g90_L1 s) (b2:=g35_L1 s) hl (fun i hi => by
  rw [g90_L1,g35_L1,if_pos (by simp [Zo]; omega),if_pos (by simp [Zo]; omega),Yh hi]
  simp only [Option.bind_some]
  rw [wood_spec (h.logs _ (List.getElem_mem hi)),wood_impl (h.logs _ (List.getElem_mem hi))]
  simp only [Option.bind_some]
  exact ⟨_,rfl,rfl⟩) (by rw [g90_L1,if_neg (by simp [Zo])]) (by rw [g35_L1,if_neg (by simp [Zo])])
 have hwood : b = true→∀ w ∈ s.logs_,woodF w = true:=fun hb w hw => by
  obtain ⟨i,hi,rfl⟩:=List.getElem_of_mem hw
  have:=hall hb i hi
  rw [g90_L1,if_pos (by simp [Zo]; omega),Yh hi,Option.bind_some,wood_spec (h.logs _ (List.getElem_mem hi)),Option.bind_some] at this
  cases hf : woodF s.logs_[i] with
  | true => rfl
  | false =>
   rw [hf,if_pos (by rfl)] at this
   cases this
 unfold g90 g35 g35_j1 g90_j1 g33 g55
 rw [h1,h2,share_spec h.damper,share_impl h.damper,Gm h.dust,Gn h.dust,cI64 (by have:=h.state; omega) (by have:=h.state; omega)]
 simp only [Option.bind_some]
 cases hl6 : Zo 6 (s.logs_.length : Int) with
 | true => exact ⟨false,by simp,by simp,fun h => (nomatch h)⟩
 | false =>
  simp only [Bool.false_eq_true,if_false,Bool.false_or,Option.bind_some]
  cases hd : Wu s.dust_ with
  | false =>
   refine ⟨false,?_,?_,fun h => (nomatch h)⟩
   ·cases Ka .f32 s.box_ (some 3262119936) && Qa .f32 s.box_ (some 1153138688) <;> cases shareF s.damper_ <;> cases Xa 0 s.state_ && Xa s.state_ 3 <;> cases Xa 0 s.ash_ && Xa s.ash_ 1000000 <;> simp
   ·cases b with
    | false => rfl
    | true =>
     simp only [if_true,Option.bind_some]
     cases Ka .f32 s.box_ (some 3262119936) && Qa .f32 s.box_ (some 1153138688) <;> cases shareF s.damper_ <;> cases Xa 0 s.state_ <;> cases Xa s.state_ 3 <;> cases Xa 0 s.ash_ <;> cases Xa s.ash_ 1000000 <;> simp
  | true =>
   rw [(amt_gt h.dust hd (by decide)).2]
   refine ⟨((Ka .f32 s.box_ (some 3262119936) && Qa .f32 s.box_ (some 1153138688)) && shareF s.damper_ && (Xa 0 s.state_ && Xa s.state_ 3) && (Xa 0 s.ash_ && Xa s.ash_ 1000000) && !Ka .f32 s.dust_ (some 1065353216)) && b,?_,?_,fun hb => ?_⟩
   ·cases Ka .f32 s.box_ (some 3262119936) && Qa .f32 s.box_ (some 1153138688) <;> cases shareF s.damper_ <;> cases Xa 0 s.state_ && Xa s.state_ 3 <;> cases Xa 0 s.ash_ && Xa s.ash_ 1000000 <;> cases Ka .f32 s.dust_ (some 1065353216) <;> cases b <;> simp
   ·cases Ka .f32 s.box_ (some 3262119936) && Qa .f32 s.box_ (some 1153138688) <;> cases shareF s.damper_ <;> cases Xa 0 s.state_ <;> cases Xa s.state_ 3 <;> cases Xa 0 s.ash_ <;> cases Xa s.ash_ 1000000 <;> cases Ka .f32 s.dust_ (some 1065353216) <;> cases b <;> simp
   ·simp only [Bool.and_eq_true] at hb
    obtain ⟨⟨⟨⟨⟨b1,b2⟩,b3⟩,b4⟩,b5⟩,b6⟩:=hb
    have q1 : ¬ (6 < (s.logs_.length : Int)):=by simpa [Zo] using hl6
    have q3 : 0≤s.state_∧s.state_≤3:=by simpa [Xa] using b3
    have q4 : 0≤s.ash_∧s.ash_≤1000000:=by simpa [Xa] using b4
    exact ⟨by omega,hwood b6,by rw [b1.1,b1.2]; rfl,b2,q3.1,q3.2,q4.1,q4.2,rfl,by first | rfl | exact b5⟩
def Kw (x : F32) : Bool:=match x with | some b => finB b | none => false
theorem fin_spec {x : F32} (h : Hs x) : g92 x = some (Kw x):=by
 obtain ⟨b,rfl,hb⟩:=h
 unfold g92
 rw [sub_self hb]
 show _ = some (finB b)
 cases finB b with
 | true => exact congrArg some (by decide)
 | false => exact congrArg some (by decide)
theorem fin_step {x : F32} (h : Hs x) : ((g118 (Xm x)).bind fun r63 => (if r63 = true then some true else (g119 (Xm x) 0).bind fun r65 => some r65)) = some (!Kw x):=by
 obtain ⟨b,rfl,hb⟩:=h
 have h1:=fin67 hb
 have key : ∀ c : Bool,((g118 (Xm (some b))).bind fun r63 => (if r63 = true then some true else (g119 (Xm (some b)) 0).bind fun r65 => some r65)) = some c→finB b = !c:=fun c hc => by
  have e0 : g84_L1 [some b] ((0 : Nat) : Int) = if c = true then some (.inr (.inr false)) else some (.inl ((1 : Nat) : Int)):=by
   rw [g84_L1,if_pos (by simp [Zo]),Yh (by simp),Option.bind_some]
   simp only [List.getElem_cons_zero]
   cases h85 : g118 (Xm (some b)) with
   | none => rw [h85] at hc; cases hc
   | some r63 =>
    rw [h85,Option.bind_some] at hc
    rw [Option.bind_some,hc,Option.bind_some]
    rfl
  have e1 : g84_L1 [some b] ((1 : Nat) : Int) = some (.inr (.inl ())):=by
   rw [g84_L1,if_neg (by simp [Zo])]
  unfold g84 at h1
  cases c with
  | true =>
   rw [if_pos rfl] at e0
   have : loopO (g84_L1 [some b]) 0 = some (.inr false):=Xt e0
   rw [this] at h1
   exact (Option.some.inj h1).symm
  | false =>
   rw [if_neg (by simp)] at e0
   have : loopO (g84_L1 [some b]) 0 = some (.inl ()):=by
    rw [show (0 : Int) = ((0 : Nat) : Int) from rfl,Ut e0,Xt e1]
   rw [this] at h1
   exact (Option.some.inj h1).symm
 cases h118 : g118 (Xm (some b)) with
 | none => unfold g118 at h118; cases h118
 | some r =>
  rw [h118] at key
  cases r with
  | true =>
   have:=key true rfl
   show _ = some (!finB b)
   rw [this]; rfl
  | false =>
   cases h119 : g119 (Xm (some b)) 0 with
   | none =>
    exfalso
    have e0 : g84_L1 [some b] ((0 : Nat) : Int) = none:=by
     rw [g84_L1,if_pos (by simp [Zo]),Yh (by simp),Option.bind_some]
     simp only [List.getElem_cons_zero]
     rw [h118,Option.bind_some,if_neg (by simp),h119]
     rfl
    unfold g84 at h1
    have : loopO (g84_L1 [some b]) 0 = none:=by
     cases hl : loopO (g84_L1 [some b]) 0 with
     | none => rfl
     | some r =>
      exfalso
      obtain ⟨n,hn⟩:=loopO_iff.1 hl
      cases n with
      | zero => cases hn
      | succ n =>
       rw [Kv,show (0 : Int) = ((0 : Nat) : Int) from rfl,e0] at hn
       cases hn
    rw [this] at h1
    cases h1
   | some r =>
    rw [h119] at key
    have:=key r rfl
    show _ = some (!finB b)
    rw [this]
    simp
theorem fin_impl {l : List F32} (hl : l.length≤1048576) (h : ∀ x ∈ l,Hs x) : g84 l = some (l.all Kw):=by
 unfold g84
 have:=Hb (body:=g84_L1 l) (n:=l.length) (fun i => Kw (l.getD i none)) (fun i hi => by
  rw [g84_L1,if_pos (by simp [Zo]; omega),Yh hi,Option.bind_some]
  have e:=fin_step (h _ (List.getElem_mem hi))
  have hg : l.getD i none = l[i]:=by simp [hi]
  rw [hg]
  cases h118 : g118 (Xm l[i]) with
  | none => rw [h118] at e; cases e
  | some r =>
   rw [h118,Option.bind_some] at e
   rw [Option.bind_some,e,Option.bind_some,Xd (by omega)]
   cases Kw l[i] <;> rfl) (by rw [g84_L1,if_neg (by simp [Zo])])
 rw [this,Option.bind_some]
 have e2 : (List.range l.length).all (fun i => Kw (l.getD i none)) = l.all Kw:=Ky (fun i hi => by simp [hi])
 rw [e2]
 cases l.all Kw <;> rfl
def sumsF (t : Int) (s : T32) : Bool:=(Xa 0 t && Xa t 1000000000) && Wu s.burnt_ && Wu s.steam_ && (Kw s.up_ && Kw s.lost_) && (Xa 0 s.smoky_ && Xa s.smoky_ 1000000000)
theorem sums_impl {h : T34} (hs : FkOk h.sums_) : g37 h = some (sumsF h.tick_ h.sums_):=by
 unfold g37 sumsF
 rw [Gn hs.1,Gn hs.2.1,fin_impl (by simp) (by intro x hx; simp at hx; rcases hx with rfl | rfl; exact hs.2.2.1; exact hs.2.2.2)]
 simp only [Option.bind_some,List.all_cons,List.all_nil,Bool.and_true]
 cases Xa 0 h.tick_ && Xa h.tick_ 1000000000 <;> cases Wu h.sums_.burnt_ <;> cases Wu h.sums_.steam_ <;> cases Kw h.sums_.up_ && Kw h.sums_.lost_ <;> simp
theorem sums_spec {s : T32} (hs : FkOk s) : g56 s = some (Wu s.burnt_ && Wu s.steam_ && (Kw s.up_ && Kw s.lost_) && (Xa 0 s.smoky_ && Xa s.smoky_ 1000000000)):=by
 unfold g56 g55
 rw [Gm hs.1,Gm hs.2.1,fin_spec hs.2.2.1,fin_spec hs.2.2.2]
 simp only [Option.bind_some]
 cases Wu s.burnt_ <;> cases Wu s.steam_ <;> cases Kw s.up_ <;> cases Kw s.lost_ <;> simp
def HrOk (x : T51) : Prop:=Hs x.outside_∧Hs x.sun_∧Hs x.wind_
theorem hours_both {h : T34} (hl : h.hours_.length≤1048576) (hh : ∀ x ∈ h.hours_,HrOk x) : ∃ b : Bool,loopO (g22_L4 h) 0 = some (if b = true then .inl () else .inr false)∧loopO (g9_L4 h) 0 = some (if b = true then .inl () else .inr false) :=
 scan_two hl (fun i hi => by
  rw [g22_L4,g9_L4,if_pos (by simp [Zo]; omega),if_pos (by simp [Zo]; omega),Yh hi]
  simp only [Option.bind_some]
  have hx:=hh _ (List.getElem_mem hi)
  generalize h.hours_[i] = x at hx
  unfold g57 g101 g31 g32 g33
  rw [Gm hx.2.1,Gn hx.2.1]
  simp only [Option.bind_some]
  cases Ka .f32 x.outside_ (some 3262119936) && Qa .f32 x.outside_ (some 1114636288) with
  | false => exact ⟨true,rfl,rfl⟩
  | true =>
   simp only [if_true,Option.bind_some,Bool.not_true,Bool.false_eq_true,if_false]
   cases Wu x.sun_ && Qa .f32 x.sun_ (some 1092616192) with
   | false => exact ⟨true,rfl,rfl⟩
   | true =>
    simp only [Bool.true_and,Bool.not_true,Bool.false_eq_true,if_false,Option.bind_some]
    exact ⟨_,rfl,rfl⟩) (by rw [g22_L4,if_neg (by simp [Zo])]) (by rw [g9_L4,if_neg (by simp [Zo])])
theorem sources_both {h : T34} (hl : h.sources_.length≤1048576) : ∃ b : Bool,loopO (g22_L3 h) 0 = some (if b = true then .inl () else .inr false)∧loopO (g9_L3 h) 0 = some (if b = true then .inl () else .inr false) :=
 scan_two hl (fun i hi => by
  rw [g22_L3,g9_L3,if_pos (by simp [Zo]; omega),if_pos (by simp [Zo]; omega),Yh hi]
  simp only [Option.bind_some]
  obtain ⟨p,j,e,h1,h2,_⟩:=compile_both h.sources_[i].data.toList
  rw [sb_self] at h1 h2
  rw [h1,h2]
  exact ⟨_,rfl,rfl⟩) (by rw [g22_L3,if_neg (by simp [Zo])]) (by rw [g9_L3,if_neg (by simp [Zo])])
theorem open_same (c : List T32) (f : Int) : g60 c f = g36 c f:=rfl
theorem open_tot {c : List T32} (hc : c.length≤1048576) (f : Int) : ∃ b : Bool,g36 c f = some b:=by
 unfold g36 g83
 obtain ⟨r,e,_⟩:=Qv (body:=g83_L1 c f) (fun st => c.length - st.1.toNat) (fun st => ∃ k : Nat,st.1 = (k : Int)∧k≤c.length∧st.2.length≤k) (fun _ => True) (fun st ⟨k,hk,h1,h2⟩ => by
  obtain ⟨i,l⟩:=st
  simp only at hk h2
  subst hk
  rw [g83_L1]
  by_cases hq : k < c.length
  ·left
   rw [if_pos (by simp [Zo]; omega),Yh hq,Option.bind_some,Xd (by omega)]
   split
   ·rw [Uy (by simp; omega) (by simp; omega)]
    exact ⟨_,rfl,⟨k + 1,rfl,by omega,by simp; omega⟩,by simp only [Int.toNat_natCast]; omega⟩
   ·exact ⟨_,rfl,⟨k + 1,rfl,by omega,by simp only; omega⟩,by simp only [Int.toNat_natCast]; omega⟩
  ·right
   rw [if_neg (by simp [Zo]; omega)]
   exact ⟨_,rfl,trivial⟩) (s:=(0,[])) ⟨0,rfl,by omega,by simp⟩
 rw [e]
 exact ⟨_,rfl⟩
theorem leI_pred (a n : Int) : Xa a (n - 1) = !Xa n a:=by
 unfold Xa
 rw [← decide_not]
 exact decide_eq_decide.2 (by omega)
theorem leI_not (a n : Int) : Xa n a = !Zo a n:=by
 unfold Xa Zo
 rw [← decide_not]
 exact decide_eq_decide.2 (by omega)
def HeOk (x : T87) : Prop:=StOk x.stove_∧x.stove_.logs_.length≤1048576
theorem hearths_both {h : T34} (hl : h.hearths_.length≤1048576) (hc : h.chimney_.length≤1048576) (hfl : h.flat_.heat_.length≤1048576) (hso : h.sources_.length≤1048576) (hh : ∀ x ∈ h.hearths_,HeOk x) :
  ∃ b : Bool,loopO (g22_L1 h) 0 = some (if b = true then .inl () else .inr false)∧loopO (g9_L1 h) 0 = some (if b = true then .inl () else .inr false)∧(b = true→∀ i : Nat,i < h.hearths_.length→g22_L1 h (i : Int) = some (.inl (aI .i64 (i : Int) 1))) :=
 scan_two' hl (fun i hi => by
  rw [g22_L1,g9_L1,if_pos (by simp [Zo]; omega),if_pos (by simp [Zo]; omega),Yh hi]
  simp only [Option.bind_some]
  have hx:=hh _ (List.getElem_mem hi)
  obtain ⟨b,s1,s2,_⟩:=stove_both hx.1 hx.2
  have inner : ∀ (y : T87),loopO (g22_L2 (i : Int) h y) 0 = loopO (g9_L2 h (i : Int) y) 0∧∃ c : Bool,loopO (g22_L2 (i : Int) h y) 0 = some (if c = true then .inr (.inr (.inr false)) else .inl ()):=fun y => by
   let f : Nat→Option (Unit ⊕ (Int ⊕ (Unit ⊕ Bool))):=fun k => if (h.hearths_[k]?.any fun z => Yx z.flue_ y.flue_) = true then some (.inr (.inr (.inr false))) else none
   have e1:=Wx (body:=g22_L2 (i : Int) h y) (n:=i) f (.inl ()) (fun k hk => by
    rw [g22_L2,if_pos (by simp [Zo]; omega),Yh (by omega),Option.bind_some,Xd (by omega)]
    simp only [f,List.getElem?_eq_getElem (show k < h.hearths_.length by omega),Option.any_some]
    cases Yx h.hearths_[k].flue_ y.flue_ <;> rfl) (by rw [g22_L2,if_neg (by simp [Zo])])
   have e2:=Wx (body:=g9_L2 h (i : Int) y) (n:=i) f (.inl ()) (fun k hk => by
    rw [g9_L2,if_pos (by simp [Zo]; omega),Yh (by simp; omega),Option.bind_some,Xd (by omega)]
    simp only [f,List.getElem?_eq_getElem (show k < h.hearths_.length by omega),Option.any_some,List.getElem_take]
    cases Yx h.hearths_[k].flue_ y.flue_ <;> rfl) (by rw [g9_L2,if_neg (by simp [Zo]; omega)])
   refine ⟨by rw [e1,e2],?_⟩
   rw [e1]
   cases hf : (List.range i).findSome? f with
   | none => exact ⟨false,rfl⟩
   | some r =>
    obtain ⟨k,_,h2,_⟩:=range_some hf
    simp only [f] at h2
    split at h2
    ·cases h2; exact ⟨true,rfl⟩
    ·cases h2
  obtain ⟨o,ho⟩:=open_tot hc h.hearths_[i].flue_
  obtain ⟨in1,c,in2⟩:=inner h.hearths_[i]
  unfold g59 g55
  rw [s1,s2,open_same,ho,← in1,in2,sI64 (by omega) (by omega),sI64 (by omega) (by omega),sI64 (by omega) (by omega),Uq (by omega) (by omega) (by omega)]
  simp only [Option.bind_some]
  have x1 : Xa h.hearths_[i].room_ ((h.flat_.heat_.length : Int) - 1) = !Xa (h.flat_.heat_.length : Int) h.hearths_[i].room_:=leI_pred _ _
  have x2 : Xa h.hearths_[i].flue_ ((h.chimney_.length : Int) - 1) = !Xa (h.chimney_.length : Int) h.hearths_[i].flue_:=leI_pred _ _
  have x3 : Xa h.hearths_[i].brain_ ((h.sources_.length : Int) - 1) = !Xa (h.sources_.length : Int) h.hearths_[i].brain_:=leI_pred _ _
  have y1 : Xa 0 h.hearths_[i].room_ = !Zo h.hearths_[i].room_ 0:=leI_not _ _
  have y2 : Xa 0 h.hearths_[i].flue_ = !Zo h.hearths_[i].flue_ 0:=leI_not _ _
  have y3 : Xa (-1) h.hearths_[i].brain_ = !Zo h.hearths_[i].brain_ (-1):=leI_not _ _
  rw [x1,x2,x3,y1,y2,y3]
  have j4 : g22_j4 (i : Int) = some (.inl (aI .i64 (i : Int) 1)):=rfl
  have j5 : g9_j4 (i : Int) = some (.inl (aI .i64 (i : Int) 1)):=rfl
  refine ⟨!b || Zo h.hearths_[i].room_ 0 || Xa (h.flat_.heat_.length : Int) h.hearths_[i].room_ || Zo h.hearths_[i].flue_ 0 || Xa (h.chimney_.length : Int) h.hearths_[i].flue_ || !o || Zo h.hearths_[i].brain_ (-1) || Xa (h.sources_.length : Int) h.hearths_[i].brain_ || c,?_,?_⟩
  all_goals
   cases b <;> cases Zo h.hearths_[i].room_ 0 <;> cases Xa (h.flat_.heat_.length : Int) h.hearths_[i].room_ <;> cases Zo h.hearths_[i].flue_ 0 <;> cases Xa (h.chimney_.length : Int) h.hearths_[i].flue_ <;> cases o <;> cases Zo h.hearths_[i].brain_ (-1) <;> cases Xa (h.sources_.length : Int) h.hearths_[i].brain_ <;> cases c <;> rfl)
  (by rw [g22_L1,if_neg (by simp [Zo])]) (by rw [g9_L1,if_neg (by simp [Zo])])
structure HOk (h : T34) : Prop where
 flat : FlOk h.flat_
 chim : ∀ f ∈ h.chimney_,FkOk f
 stoves : ∀ x ∈ h.hearths_,StOk x.stove_
 hours : ∀ x ∈ h.hours_,HrOk x
 sums : FkOk h.sums_
theorem flat_both {f : T25} (hf : FlOk f) (hs : SmallFlat f) : ∃ b : Bool,g53 f = some b∧g29 f = some b:=by
 by_cases hc : 1≤f.heat_.length∧f.heat_.length≤5∧f.store_.length = f.heat_.length∧f.walls_.length≤10∧f.panes_.length≤8
 ·exact ⟨_,flat11 hf (by omega) (by omega) (by omega) (by omega),flat20 hf (by omega) (by omega) (by omega) (by omega)⟩
 ·have a1:=hs.heat
  have a2:=hs.store
  have a3:=hs.walls
  have a4:=hs.panes
  refine ⟨false,?_,?_⟩
  ·unfold g53 g55
   rw [Option.bind_some,if_pos (by simp [Xa,Zo,Yx]; omega)]
  ·unfold g29
   rw [if_pos (by simp [Xa,Zo,Yx]; omega)]
structure Facts (h : T34) : Prop where
 flat : g53 h.flat_ = some true∧g29 h.flat_ = some true
 chim : g54 h.chimney_ = some true∧g30 h.chimney_ = some true
 hours : 1≤h.hours_.length∧h.hours_.length≤24
 sources : h.sources_.length≤3
 hearths : h.hearths_.length≤3
 each : ∀ i : Nat,i < h.hearths_.length→g22_L1 h (i : Int) = some (.inl (aI .i64 (i : Int) 1))
 tick : 0≤h.tick_∧h.tick_≤1000000000
 sums : sumsF h.tick_ h.sums_ = true
theorem valid_both {h : T34} (hk : HOk h) (hs : SmallHouse h) : ∃ b : Bool,g22 h = some b∧g9 h = some b∧(b = true→Facts h):=by
 obtain ⟨bc,c1,c2⟩:=chim_both hs.chimney hk.chim
 obtain ⟨bh,h1,h2⟩:=hours_both hs.hours hk.hours
 obtain ⟨bs,s1,s2⟩:=sources_both hs.sources
 obtain ⟨be,e1,e2,eall⟩:=hearths_both hs.hearths hs.chimney hs.flat.heat hs.sources (fun x hx => ⟨hk.stoves x hx,hs.logs x hx⟩)
 obtain ⟨bf,f1,f2⟩:=flat_both hk.flat hs.flat
 have a1:=hs.hours
 have a2:=hs.sources
 have a3:=hs.hearths
 unfold g22 g9 g22_j1 g22_j2 g22_j3 g9_j1 g9_j2 g9_j3 g55
 rw [f1,f2,c1,c2,h1,h2,sums_spec hk.sums,sums_impl hk.sums]
 simp only [Option.bind_some]
 have l1 : Xa 1 (h.hours_.length : Int) = !Zo (h.hours_.length : Int) 1:=leI_not _ _
 have l2 : Xa (h.hours_.length : Int) 24 = !Zo 24 (h.hours_.length : Int):=leI_not _ _
 rw [l1,l2]
 unfold sumsF
 refine ⟨bf && bc && !Zo (h.hours_.length : Int) 1 && !Zo 24 (h.hours_.length : Int) && !Zo 3 (h.sources_.length : Int) && !Zo 3 (h.hearths_.length : Int) && bh && bs && be && ((Xa 0 h.tick_ && Xa h.tick_ 1000000000) && (Wu h.sums_.burnt_ && Wu h.sums_.steam_ && (Kw h.sums_.up_ && Kw h.sums_.lost_) && (Xa 0 h.sums_.smoky_ && Xa h.sums_.smoky_ 1000000000))),?_,?_,fun hb => ?_⟩
 ·generalize (Wu h.sums_.burnt_ && Wu h.sums_.steam_ && (Kw h.sums_.up_ && Kw h.sums_.lost_) && (Xa 0 h.sums_.smoky_ && Xa h.sums_.smoky_ 1000000000)) = S
  generalize (Xa 0 h.tick_ && Xa h.tick_ 1000000000) = T
  cases bf with
  | false => rfl
  | true =>
   cases bc with
   | false => rfl
   | true =>
    simp only [Bool.not_true,Bool.false_eq_true,if_false,Option.bind_some,Bool.true_and]
    cases Zo (h.hours_.length : Int) 1 <;> cases Zo 24 (h.hours_.length : Int) <;> cases Zo 3 (h.sources_.length : Int) <;> cases Zo 3 (h.hearths_.length : Int) <;> simp only [Bool.or_true,Bool.true_or,Bool.not_true,Bool.not_false,Bool.and_true,Bool.true_and,Bool.and_false,Bool.false_and,if_true,if_false,Bool.false_eq_true,Option.bind_some,Bool.or_false]
    cases T <;> cases S <;> simp only [Bool.not_true,Bool.not_false,Bool.and_true,Bool.true_and,Bool.and_false,Bool.false_and,if_true,if_false,Bool.false_eq_true,Option.bind_some]
    cases bh with
    | false => rfl
    | true =>
     simp only [if_true,s1]
     cases bs with
     | false => rfl
     | true =>
      simp only [if_true,e1,Option.bind_some]
      cases be <;> rfl
 ·rw [show ((Xa 0 h.tick_ && Xa h.tick_ 1000000000) && Wu h.sums_.burnt_ && Wu h.sums_.steam_ && (Kw h.sums_.up_ && Kw h.sums_.lost_) && (Xa 0 h.sums_.smoky_ && Xa h.sums_.smoky_ 1000000000)) = ((Xa 0 h.tick_ && Xa h.tick_ 1000000000) && (Wu h.sums_.burnt_ && Wu h.sums_.steam_ && (Kw h.sums_.up_ && Kw h.sums_.lost_) && (Xa 0 h.sums_.smoky_ && Xa h.sums_.smoky_ 1000000000))) by simp only [Bool.and_assoc]]
  generalize ((Xa 0 h.tick_ && Xa h.tick_ 1000000000) && (Wu h.sums_.burnt_ && Wu h.sums_.steam_ && (Kw h.sums_.up_ && Kw h.sums_.lost_) && (Xa 0 h.sums_.smoky_ && Xa h.sums_.smoky_ 1000000000))) = S
  cases bf with
  | false => rfl
  | true =>
   cases bc with
   | false => rfl
   | true =>
    simp only [Bool.not_true,Bool.false_eq_true,if_false,Option.bind_some,Bool.true_and,Bool.false_or]
    cases Zo (h.hours_.length : Int) 1 <;> cases Zo 24 (h.hours_.length : Int) <;> cases Zo 3 (h.sources_.length : Int) <;> cases Zo 3 (h.hearths_.length : Int) <;> simp only [Bool.or_true,Bool.true_or,Bool.not_true,Bool.not_false,Bool.and_true,Bool.true_and,Bool.and_false,Bool.false_and,if_true,if_false,Bool.false_eq_true,Option.bind_some,Bool.or_false,Bool.or_self]
    cases bh with
    | false => rfl
    | true =>
     simp only [if_true,s2]
     cases bs with
     | false => rfl
     | true =>
      simp only [if_true,e2,Option.bind_some]
      cases be <;> rfl
 ·simp only [Bool.and_eq_true,Bool.not_eq_true',Zo,Xa,decide_eq_false_iff_not,decide_eq_true_eq] at hb
  obtain ⟨⟨⟨⟨⟨⟨⟨⟨⟨b1,b2⟩,b3⟩,b4⟩,b5⟩,b6⟩,b7⟩,b8⟩,b9⟩,⟨b10,b11⟩,b12⟩:=hb
  subst b1 b2
  refine ⟨⟨f1,f2⟩,⟨c1,c2⟩,by omega,by omega,by omega,eall b9,⟨b10,b11⟩,?_⟩
  unfold sumsF
  obtain ⟨⟨⟨x1,x2⟩,x3⟩,x4⟩:=b12
  simp [Xa,b10,b11,x1,x2,x3,x4]
end Go.Proofs.YtloepppmjppddaaGreatDoor
namespace Go.Proofs.YtloepppmjppddaaGreatDoor
open Go.VL
set_option linter.unusedSimpArgs false
set_option linter.unusedVariables false
set_option maxHeartbeats 4000000
def HypH (aH : T34) : Prop:=((aH.flat_.heat_.length≤maxLen∧(∀ y ∈ aH.flat_.heat_,Yp .f32 y))∧(aH.flat_.store_.length≤maxLen∧(∀ y ∈ aH.flat_.store_,Yp .f32 y))∧(aH.flat_.walls_.length≤maxLen∧(∀ y ∈ aH.flat_.walls_,(Lit.int .i64 y.a_).wf = true∧(Lit.int .i64 y.b_).wf = true∧Yp .f32 y.lead_∧Yp .f32 y.store_∧(Yp .f32 y.heat_.a0_∧Yp .f32 y.heat_.a1_∧Yp .f32 y.heat_.a2_∧Yp .f32 y.heat_.a3_)))∧(aH.flat_.panes_.length≤maxLen∧(∀ y ∈ aH.flat_.panes_,(Lit.int .i64 y.a_).wf = true∧(Lit.int .i64 y.b_).wf = true∧Yp .f32 y.lead_∧Yp .f32 y.sun_)))∧(aH.chimney_.length≤maxLen∧(∀ y ∈ aH.chimney_,Yp .f32 y.burnt_∧Yp .f32 y.steam_∧Yp .f32 y.up_∧Yp .f32 y.lost_∧(Lit.int .i64 y.smoky_).wf = true))∧(aH.hearths_.length≤maxLen∧(∀ y ∈ aH.hearths_,(Lit.int .i64 y.room_).wf = true∧(Lit.int .i64 y.flue_).wf = true∧(Lit.int .i64 y.brain_).wf = true∧((y.stove_.logs_.length≤maxLen∧(∀ y1 ∈ y.stove_.logs_,(Yp .f32 y1.wet_.a0_∧Yp .f32 y1.wet_.a1_∧Yp .f32 y1.wet_.a2_∧Yp .f32 y1.wet_.a3_∧Yp .f32 y1.wet_.a4_∧Yp .f32 y1.wet_.a5_)∧(Yp .f32 y1.heat_.a0_∧Yp .f32 y1.heat_.a1_∧Yp .f32 y1.heat_.a2_∧Yp .f32 y1.heat_.a3_∧Yp .f32 y1.heat_.a4_∧Yp .f32 y1.heat_.a5_)∧(Yp .f32 y1.fuel_.a0_∧Yp .f32 y1.fuel_.a1_∧Yp .f32 y1.fuel_.a2_∧Yp .f32 y1.fuel_.a3_∧Yp .f32 y1.fuel_.a4_∧Yp .f32 y1.fuel_.a5_)))∧Yp .f32 y.stove_.box_∧Yp .f32 y.stove_.damper_∧(Lit.int .i8 y.stove_.state_).wf = true∧(Lit.int .i64 y.stove_.ash_).wf = true∧Yp .f32 y.stove_.dust_)))∧(aH.sources_.length≤maxLen∧(∀ y ∈ aH.sources_,y.size≤maxLen))∧(aH.hours_.length≤maxLen∧(∀ y ∈ aH.hours_,Yp .f32 y.outside_∧Yp .f32 y.sun_∧Yp .f32 y.wind_))∧(Lit.int .i64 aH.tick_).wf = true∧(Yp .f32 aH.sums_.burnt_∧Yp .f32 aH.sums_.steam_∧Yp .f32 aH.sums_.up_∧Yp .f32 aH.sums_.lost_∧(Lit.int .i64 aH.sums_.smoky_).wf = true)
theorem Hx {x : F32} (h : Yp .f32 x) : Hs x:=by
 obtain ⟨b,rfl,hb⟩:=h
 exact ⟨b,rfl,by simpa [Lit.wf] using hb⟩
theorem len_of {aH : T34} (h : HypH aH) : LenHouse aH:=by
 obtain ⟨⟨h1,h2,h3,h4⟩,h5,h6,h7,h8,_⟩:=h
 exact ⟨⟨h1.1,h2.1,h3.1,h4.1⟩,h5.1,h6.1,fun x hx => (h6.2 x hx).2.2.2.1.1,h7.1,h7.2,h8.1⟩
theorem hok_of {aH : T34} (h : HypH aH) : HOk aH:=by
 obtain ⟨⟨h1,h2,h3,h4⟩,h5,h6,h7,h8,h9,s1,s2,s3,s4,s5⟩:=h
 refine ⟨⟨fun x hx => Hx (h1.2 x hx),fun x hx => Hx (h2.2 x hx),fun x hx => ?_,fun x hx => ?_⟩,fun x hx => ?_,fun x hx => ?_,fun x hx => ?_,Hx s1,Hx s2,Hx s3,Hx s4⟩
 ·obtain ⟨_,_,a,b,c,d,e,f⟩:=h3.2 x hx
  exact ⟨Hx a,Hx b,Hx c,Hx d,Hx e,Hx f⟩
 ·obtain ⟨_,_,a,b⟩:=h4.2 x hx
  exact ⟨Hx a,Hx b⟩
 ·obtain ⟨a,b,c,d,_⟩:=h5.2 x hx
  exact ⟨Hx a,Hx b,Hx c,Hx d⟩
 ·obtain ⟨_,_,_,⟨_,hl⟩,b,c,d,_,e⟩:=h6.2 x hx
  refine ⟨fun w hw => ?_,Hx b,Hx c,Hx e,?_⟩
  ·obtain ⟨⟨a0,a1,a2,a3,a4,a5⟩,⟨b0,b1,b2,b3,b4,b5⟩,c0,c1,c2,c3,c4,c5⟩:=hl w hw
   exact ⟨⟨Hx a0,Hx a1,Hx a2,Hx a3,Hx a4,Hx a5⟩,⟨Hx b0,Hx b1,Hx b2,Hx b3,Hx b4,Hx b5⟩,⟨Hx c0,Hx c1,Hx c2,Hx c3,Hx c4,Hx c5⟩⟩
  ·have e1 : IntKind.i8.min = -128:=by decide
   have e2 : IntKind.i8.max = 127:=by decide
   simp only [Lit.wf,decide_eq_true_eq,Bool.and_eq_true] at d
   first
    | (obtain ⟨d1,d2⟩:=d; rw [e1] at d1; rw [e2] at d2; omega)
    | (simp [e1,e2] at d; omega)
 ·obtain ⟨a,b,c⟩:=h8.2 x hx
  exact ⟨Hx a,Hx b,Hx c⟩
end Go.Proofs.YtloepppmjppddaaGreatDoor
