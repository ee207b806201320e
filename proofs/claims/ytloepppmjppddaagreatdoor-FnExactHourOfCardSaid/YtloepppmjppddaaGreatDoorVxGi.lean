/- A slice takes another's place, which a cell of an own block names. -/
import Derived.Test.YtloepppmjppddaaGreatDoorVxGh
import Derived.Shelf.Strconv.Itoa3
import Derived.Shelf.Strconv.Atoi
import Derived.Test.YtloepppmjppddaaGreatDoorVxGg
import Derived.Test.YtloepppmjppddaaGreatDoorVxGf
import Derived.Laws.FloatBits
namespace Go.VL
set_option linter.unusedSimpArgs false
set_option linter.unusedVariables false
open Go.RowKit
theorem Qg.killTo {t g : List V} {m m' : VM} (b : Nat) (h : VL.killM b m = m') : Qg { t:=t,m:=m,g:=g } { t:=t,m:=m',g:=g }:=by
 subst h; exact Qg.killM b
theorem Zt {P : Program} {ops : Array Oper} {Q : Exit→VS→Prop} {l : List Oper} {st : VS} {t' g' : List V} {m' : VM} (ht : leL st.t t') (hm : st.m = m') (hg : st.g = g') (h : VL P ops Q l { t:=t',m:=m',g:=g' }) : VL P ops Q l st:=by
 subst hm hg
 exact VL.ent (Qx ht) h
theorem Xr.iter2 {P : Program} {f : FuncId} {cl : V→V} {nb : Nat} {κ α β : Type} {eT : κ × α→List V} {eX : κ × α→VM} {eR : β→V} {eY : κ × α→β→VM} {body : (α→Option β)→α→Option β} (n : Nat) (hf : (P.funcs[f]?).any (fun fn => fn.body.isSome && fn.name != "runtime.NumGoroutine") = true)
  (h : ∀ self : α→Option β,Xr P f (fun a : κ × α => self a.2) eT eX eR eY cl nb→Xr P f (fun a : κ × α => body self a.2) eT eX eR eY cl nb) : Xr P f (fun a : κ × α => iterO body n a.2) eT eX eR eY cl nb:=by
 obtain ⟨fn,h1,h2⟩ : ∃ fn,P.funcs[f]? = some fn∧(fn.body.isSome && fn.name != "runtime.NumGoroutine") = true:=by
  cases hh : P.funcs[f]? with
  | none => rw [hh] at hf; simp at hf
  | some fn => rw [hh] at hf; exact ⟨fn,rfl,by simpa using hf⟩
 simp only [Bool.and_eq_true] at h2
 obtain ⟨c,hc⟩:=Option.isSome_iff_exists.1 h2.1
 induction n with
 | zero => exact ⟨fn,c,h1,h2.2,hc,fun a r hr => by cases hr⟩
 | succ n ih => exact h _ ih
theorem Qg.mvC {t t' g : List V} {m : VM} (b0 b1 n1 c n : Nat) (cs cs' : List V) (es1 : List (List V)) (m' : VM) (hne : b0 ≠ b1) (hlt : b0 < m.length) (hb1 : m[b1]? = some (some (n1,es1))) (hc0 : c ≠ b0) (hc1 : c ≠ b1) (hc : m[c]? = some (some (n,[cs]))) (hcs : mvL b0 b1 cs cs') (hpl : Qn es1 = true) (ht : mvL b0 b1 t t') (hg0 : g.all (noBT b0) = true) (hg1 : g.all (noBT b1) = true)
  (hm0 : noBM b0 (((m.set b0 none).set b1 none).set c none) = true) (hm1 : noBM b1 (((m.set b0 none).set b1 none).set c none) = true) (hm' : ((m.set b0 (some (n1,es1))).set b1 none).set c (some (n,[cs'])) = m') : Qg { t:=t,m:=m,g:=g } { t:=t',m:=m',g:=g }:=by
 subst hm'
 intro P N w0 a w φ hs
 generalize hM : ((m.set b0 (some (n1,es1))).set b1 none).set c (some (n,[cs'])) = M
 obtain ⟨q1,q2⟩:=hcs.get
 have hltc : c < m.length:=(List.getElem?_eq_some_iff.1 hc).1
 obtain ⟨f1,f2⟩:=ht.get
 have hlt1 : b1 < m.length:=(List.getElem?_eq_some_iff.1 hb1).1
 let φ' : Pl:=fun b => if b = b0 then φ b1 else if b = b1 then none else φ b
 have p0 : φ' b0 = φ b1:=by simp [φ']
 have p1 : φ' b1 = none:=by simp [φ',Ne.symm hne]
 have pe : ∀ b,b ≠ b0→b ≠ b1→φ' b = φ b:=fun b h0 h1 => by simp [φ',h0,h1]
 have hget : ∀ x y,M[x]? = some (some y)→(x = c∧y = (n,[cs']))∨(x = b0∧y = (n1,es1))∨(x ≠ b0∧x ≠ b1∧x ≠ c∧m[x]? = some (some y)):=fun x y h => by
  rw [← hM,List.getElem?_set] at h
  split at h
  ·rename_i h0
   split at h
   ·simp at h; exact .inl ⟨h0.symm,h.symm⟩
   ·simp at h
  ·rename_i h0
   rw [List.getElem?_set] at h
   split at h
   ·split at h <;> simp at h
   ·rename_i h1
    rw [List.getElem?_set] at h
    split at h
    ·rename_i h2
     simp [h2.symm ▸ hlt] at h
     exact .inr (.inl ⟨h2.symm,h.symm⟩)
    ·rename_i h2
     exact .inr (.inr ⟨fun e => h2 e.symm,fun e => h1 e.symm,fun e => h0 e.symm,h⟩)
 have pc : φ' c = φ c:=pe c hc0 hc1
 have hO : ∀ k,Ye φ' M k→Ye φ m k:=fun k ⟨x,y,po,q,h1,h2⟩ => by
  rcases hget x y h1 with ⟨rfl,_⟩ | ⟨rfl,_⟩ | ⟨h3,h4,h30,h5⟩
  ·rw [pc] at h2
   exact ⟨x,_,po,q,hc,h2⟩
  ·rw [p0] at h2
   exact ⟨b1,_,po,q,hb1,h2⟩
  ·rw [pe x h3 h4] at h2
   exact ⟨x,y,po,q,h5,h2⟩
 have hmvS : ∀ {v0 v : V} {u : Value},mv1 b0 b1 v0 v→S w (Ye φ m) φ v0 u→S w (Ye φ' M) φ' v u:=fun {v0 v u} h2 u2 => by
  unfold mv1 at h2
  split at h2
  ·exact .any
  ·rcases h2 with ⟨e,len,rfl,rfl⟩ | ⟨rfl,h3,h4⟩
   ·cases u2 with
    | ref hφ hc hr => exact .ref (p0.trans hφ) hc hr
    | ref0 => exact .ref0
    | refnil => exact .refnil
   ·exact mv_ST hO pe h3 h4 u2
 have hplm : ∀ v ∈ es1.flatten,Yn v = true:=fun v hv => by
  obtain ⟨l,l1,l2⟩:=List.mem_flatten.1 hv
  exact plainE_iff.1 hpl l l1 v l2
 have hnoM : ∀ x k es,x ≠ b0→x ≠ b1→x ≠ c→m[x]? = some (some (k,es))→∀ v ∈ es.flatten,Wo b0 v = true∧Wo b1 v = true:=fun x k es h0 h1 h9 h v hv => by
  obtain ⟨l,l1,l2⟩:=List.mem_flatten.1 hv
  have hmem : some (k,es) ∈ ((m.set b0 none).set b1 none).set c none:=by
   refine List.mem_of_getElem? (i:=x) ?_
   rw [List.getElem?_set_ne (Ne.symm h9),List.getElem?_set_ne (Ne.symm h1),List.getElem?_set_ne (Ne.symm h0)]
   exact h
  unfold noBM at hm0 hm1
  have g0:=List.all_eq_true.1 hm0 _ hmem
  have g1:=List.all_eq_true.1 hm1 _ hmem
  exact ⟨List.all_eq_true.1 (List.all_eq_true.1 g0 l l1) v l2,List.all_eq_true.1 (List.all_eq_true.1 g1 l l1) v l2⟩
 refine ⟨φ',hs.defers,by rw [hs.size]; exact f1,fun i v hi => ?_,⟨fun x k es p h1 h2 => ?_,fun x k po n h => ?_,fun x p h => ?_,fun x y k po po' n n' h h' => ?_,?_⟩,hs.below,hs.start,mv_STl hO pe hg0 hg1 hs.gh,hs.gl⟩
 ·obtain ⟨v0,h1,h2⟩:=f2 i v hi
  obtain ⟨u,u1,u2⟩:=hs.tmps i v0 h1
  exact ⟨u,u1,hmvS h2 u2⟩
 ·rcases hget x _ h1 with ⟨rfl,h3⟩ | ⟨rfl,h3⟩ | ⟨h3,h4,h30,h5⟩
  ·cases h3
   rw [pc] at h2
   obtain ⟨c1,pb,po,c',ty,c2,c3,c4,c5⟩:=hs.mem.at_ x n [cs] _ hc h2
   refine ⟨fun l hl => ?_,pb,po,c',ty,pc.trans c2,c3,by simpa using c4,fun i v hi => ?_⟩
   ·simp only [List.mem_singleton] at hl
    subst hl
    rw [← q1]
    exact c1 cs (by simp)
   ·obtain ⟨v0,g1,g2⟩:=q2 i v (by simpa using hi)
    obtain ⟨u,d1,d2,d3⟩:=c5 i v0 (by simpa using g1)
    exact ⟨u,d1,d2,hmvS g2 d3⟩
  ·cases h3
   rw [p0] at h2
   obtain ⟨c1,pb,po,c,ty,c2,c3,c4,c5⟩:=hs.mem.at_ b1 n1 es1 _ hb1 h2
   exact ⟨c1,pb,po,c,ty,p0.trans c2,c3,c4,fun i v hi => by
    obtain ⟨u,d1,d2,d3⟩:=c5 i v hi
    exact ⟨u,d1,d2,d3.plain (hplm v (List.mem_of_getElem? hi))⟩⟩
  ·rw [pe x h3 h4] at h2
   obtain ⟨c1,pb,po,c,ty,c2,c3,c4,c5⟩:=hs.mem.at_ x k es _ h5 h2
   exact ⟨c1,pb,po,c,ty,(pe x h3 h4).trans c2,c3,c4,fun i v hi => by
    obtain ⟨u,d1,d2,d3⟩:=c5 i v hi
    obtain ⟨e0,e1⟩:=hnoM x k es h3 h4 h30 h5 v (List.mem_of_getElem? hi)
    exact ⟨u,d1,d2,mv_S hO pe e0 e1 d3⟩⟩
 ·by_cases h0 : x = b0
  ·subst h0; rw [p0] at h; exact hs.mem.new b1 k po n h
  ·by_cases h1 : x = b1
   ·subst h1; rw [p1] at h; cases h
   ·rw [pe x h0 h1] at h; exact hs.mem.new x k po n h
 ·have hl : M.length = m.length:=by rw [← hM]; simp
  rw [show ({ t:=t',m:=M,g:=g } : VS).m.length = m.length from hl]
  by_cases h0 : x = b0
  ·subst h0; exact hlt
  ·by_cases h1 : x = b1
   ·subst h1; exact hlt1
   ·rw [pe x h0 h1] at h; exact hs.mem.dom x p h
 ·have key : ∀ x k po n,φ' x = some (k,po,n)→∃ y,φ y = some (k,po,n)∧(x = b0∧y = b1∨x ≠ b0∧x ≠ b1∧y = x):=fun x k po n h => by
   by_cases h0 : x = b0
   ·subst h0; rw [p0] at h; exact ⟨b1,h,.inl ⟨rfl,rfl⟩⟩
   ·by_cases h1 : x = b1
    ·subst h1; rw [p1] at h; cases h
    ·rw [pe x h0 h1] at h; exact ⟨x,h,.inr ⟨h0,h1,rfl⟩⟩
  obtain ⟨x1,e1,e2⟩:=key x k po n h
  obtain ⟨y1,e3,e4⟩:=key y k po' n' h'
  have:=hs.mem.inj x1 y1 k po po' n n' e1 e3
  subst this
  rcases e2 with ⟨rfl,e5⟩ | ⟨e5,e6,e7⟩ <;> rcases e4 with ⟨rfl,e8⟩ | ⟨e8,e9,e10⟩
  ·rfl
  ·exact absurd (e10.symm.trans e5) e9
  ·exact absurd (e7.symm.trans e8) e6
  ·exact e7.symm.trans e10
 ·obtain ⟨ψ,hψ⟩:=hs.mem.own
  refine ⟨ψ,hψ.keep (Nat.le_refl _) (fun k _ ho => ⟨rfl,fun hl => ho (hO k hl)⟩) fun x k es pb po bn i n' e' h1 h2 h3 => ?_⟩
  rcases hget x _ h1 with ⟨rfl,h4⟩ | ⟨rfl,h4⟩ | ⟨h4,h5,h50,h6⟩
  ·cases h4
   rw [pc] at h2
   obtain ⟨v0,g1,g2⟩:=q2 i _ (by simpa using h3)
   unfold mv1 at g2
   rcases g2 with ⟨e,len,_,h7⟩ | ⟨rfl,_,_⟩
   ·cases h7
   ·exact ⟨_,[cs],pb,po,bn,hc,h2,by simpa using g1,fun u hu => hu⟩
  ·cases h4
   have:=hplm _ (List.mem_of_getElem? h3)
   cases this
  ·rw [pe x h4 h5] at h2
   exact ⟨k,es,pb,po,bn,h6,h2,h3,fun u hu => hu⟩
end Go.VL

namespace Go.VL
open Go.RowKit Go.Shelf Go.Proofs
set_option linter.unusedSimpArgs false
set_option linter.unusedVariables false
variable {P : Program} {ρ : Ren}
def itoaO (n : Int) : Option ByteArray:=if -9223372036854775808≤n∧n≤9223372036854775807 then some (itoaB n) else none
theorem itoa_calls (L : LaysM.n171 P ρ) {g : Nat} (hg : P.globalNamed "internal/strconv.uint64pow10" = some g) {n : Int} {r : ByteArray} (h : itoaO n = some r) : Qj P (ρ.f 171) [.i .i64 n] (fun x => x = .str r):=by
 unfold itoaO at h
 split at h
 ·rename_i hc
  obtain ⟨h0,h1⟩:=hc
  cases h
  intro w us hgl hs
  cases hs with
  | cons s1 hs =>
  cases hs
  cases s1
  refine (Any.strconv_Itoa L n h0 h1 w (hgl.1 g hg)).mono fun e w' ⟨he,k,os,hw⟩ => ?_
  subst hw
  exact ⟨_,_,[],he,rfl,.pl rfl .str,List.nodup_nil,by simp,Lib.below_grow _ _ (Nat.le_refl _) _ _⟩
 ·cases h
def atoiO (s : ByteArray) : Option (Int × Bool):=if s.size≤18 then (Lib.atoi s.data.toList).map fun n => (n,false) else none
theorem atoi_calls (L : Lays.n172 P ρ) {s : ByteArray} {r : Int × Bool} (h : atoiO s = some r) : Qj P (ρ.f 172) [.str s] (fun x => x = .tup [.i .i64 r.1,Ju r.2]):=by
 unfold atoiO at h
 split at h
 ·rename_i hc
  rw [Option.map_eq_some_iff] at h
  obtain ⟨n,hn,rfl⟩:=h
  intro w us hgl hs
  cases hs with
  | cons s1 hs =>
  cases hs
  cases s1
  refine (Any.strconv_Atoi L s n hc hn w).mono fun e w' ⟨he,t,hw⟩ => ?_
  subst hw
  exact ⟨_,_,[],he,rfl,.tup (us:=[_,_]) (.cons (F:=[]) (.pl rfl .i) (.cons (F:=[]) (.pl (by simp) (.s rfl)) .nil)),List.nodup_nil,by simp,Lib.bytesWorld_below _ _ _⟩
 ·cases h
end Go.VL

namespace Go.VL
set_option linter.unusedSimpArgs false
set_option linter.unusedVariables false
def rne (n g : Nat) : Nat:=n / g + (decide (g < 2 * (n % g)) || (g == 2 * (n % g) && n / g % 2 == 1)).toNat
theorem cut_rne (s : Bool) (n d : Nat) : Ieee.Toward.even.cut s n d = rne n (2 ^ d):=by
 unfold Ieee.Toward.cut rne
 simp only [Nat.one_shiftLeft]
 by_cases h : d≤n.log2 + 2
 ·rw [Nat.min_eq_left h]
 ·have hm : min d (n.log2 + 2) = n.log2 + 2:=by omega
  rw [hm]
  have hn : n < 2 ^ (n.log2 + 1):=Nat.lt_log2_self
  have h2 : 2 ^ (n.log2 + 2) = 2 * 2 ^ (n.log2 + 1):=by rw [Nat.pow_succ]; omega
  have h3 : 2 ^ (n.log2 + 2)≤2 ^ d:=Nat.pow_le_pow_right (by decide) (by omega)
  have e1 : n / 2 ^ (n.log2 + 2) = 0:=Nat.div_eq_of_lt (by omega)
  have e2 : n / 2 ^ d = 0:=Nat.div_eq_of_lt (by omega)
  have e3 : n % 2 ^ (n.log2 + 2) = n:=Nat.mod_eq_of_lt (by omega)
  have e4 : n % 2 ^ d = n:=Nat.mod_eq_of_lt (by omega)
  rw [e1,e2,e3,e4]
  have a1 : decide (2 ^ (n.log2 + 2) < 2 * n) = false:=by simp; omega
  have a2 : decide (2 ^ d < 2 * n) = false:=by simp; omega
  rw [a1,a2]
  simp
theorem rne_mul (n g p : Nat) (hp : 0 < p) : rne (n * p) (g * p) = rne n g:=by
 unfold rne
 rw [Nat.mul_div_mul_right _ _ hp,Nat.mul_mod_mul_right]
 have e1 : decide (g * p < 2 * (n % g * p)) = decide (g < 2 * (n % g)):=by
  rw [← Nat.mul_assoc]
  exact decide_eq_decide.2 (Nat.mul_lt_mul_right hp)
 have e2 : (g * p == 2 * (n % g * p)) = (g == 2 * (n % g)):=by
  rw [← Nat.mul_assoc,Bool.eq_iff_iff,beq_iff_eq,beq_iff_eq]
  exact Nat.mul_right_cancel_iff hp
 rw [e1,e2]
theorem rne_one (n : Nat) : rne n 1 = n:=by simp [rne,Nat.mod_one]
theorem log2_shift {m : Nat} (hm : m ≠ 0) (j : Nat) : (m * 2 ^ j).log2 = m.log2 + j:=by
 have hp : 0 < 2 ^ j:=Nat.two_pow_pos _
 have h0 : m * 2 ^ j ≠ 0:=Nat.mul_ne_zero hm (by omega)
 rw [Nat.log2_eq_iff h0]
 have h1 : 2 ^ m.log2≤m:=Nat.log2_self_le hm
 have h2 : m < 2 ^ (m.log2 + 1):=Nat.lt_log2_self
 constructor
 ·rw [Nat.pow_add]; exact Nat.mul_le_mul_right _ h1
 ·rw [show m.log2 + j + 1 = (m.log2 + 1) + j by omega,Nat.pow_add]
  exact Nat.mul_lt_mul_of_pos_right h2 hp
theorem kept_shift (s : Bool) (m j : Nat) (i l : Int) :
  Ieee.Toward.even.cut s ((m * 2 ^ j) <<< (i - j - l).toNat) (l - (i - j)).toNat = Ieee.Toward.even.cut s (m <<< (i - l).toNat) (l - i).toNat:=by
 rw [cut_rne,cut_rne,Nat.shiftLeft_eq,Nat.shiftLeft_eq]
 by_cases h1 : i - l ≥ j
 ·rw [show (l - (i - j)).toNat = 0 by omega,show (l - i).toNat = 0 by omega,Nat.mul_assoc,← Nat.pow_add,show j + (i - j - l).toNat = (i - l).toNat by omega]
 ·by_cases h2 : 0≤i - l
  ·rw [show (l - i).toNat = 0 by omega,show (i - j - l).toNat = 0 by omega,Nat.pow_zero,Nat.mul_one]
   have : m * 2 ^ j = m * 2 ^ (i - l).toNat * 2 ^ (l - (i - j)).toNat:=by
    rw [Nat.mul_assoc,← Nat.pow_add,show (i - l).toNat + (l - (i - j)).toNat = j by omega]
   rw [this]
   have:=rne_mul (m * 2 ^ (i - l).toNat) 1 (2 ^ (l - (i - j)).toNat) (Nat.two_pow_pos _)
   rwa [Nat.one_mul] at this
  ·rw [show (i - j - l).toNat = 0 by omega,show (i - l).toNat = 0 by omega,Nat.pow_zero,Nat.mul_one,Nat.mul_one,show (l - (i - j)).toNat = (l - i).toNat + j by omega,Nat.pow_add]
   exact rne_mul m _ _ (Nat.two_pow_pos _)
theorem nearest_shift (f : Ieee.Format) (s : Bool) (m j : Nat) (i : Int) : f.nearest s (m * 2 ^ j) (i - j) = f.nearest s m i:=by
 unfold Ieee.Format.nearest
 by_cases hm : m = 0
 ·subst hm; simp
 ·have hp : 0 < 2 ^ j:=Nat.two_pow_pos _
  have h0 : m * 2 ^ j ≠ 0:=Nat.mul_ne_zero hm (by omega)
  rw [if_neg h0,if_neg hm,log2_shift hm]
  have : (i - (j : Int) + ((m.log2 + j : Nat) : Int) - f.fractionBits) = i + m.log2 - f.fractionBits:=by push_cast; omega
  rw [this]
  simp only [kept_shift]
theorem write_read {f : Ieee.Format} {x : Nat} (hw : x < 2 * f.signWeight) (hs : f.infRung < f.signWeight) (hbi : f.binade≤f.infRung) (h : (f.read x).isNaN = false) : f.write (f.read x) = x:=by
 have hb : 0 < f.binade:=Nat.two_pow_pos _
 have hsp : 0 < f.signWeight:=by omega
 have hword : ∀ r,r = x % f.signWeight→f.word (x / f.signWeight % 2 == 1) r = x:=by
  intro r hr
  subst hr
  have hd : x / f.signWeight < 2:=(Nat.div_lt_iff_lt_mul hsp).2 hw
  have:=Nat.div_add_mod x f.signWeight
  unfold Ieee.Format.word
  generalize x / f.signWeight = q at hd this ⊢
  generalize x % f.signWeight = r at this ⊢
  rcases (by omega : q = 0∨q = 1) with h1 | h1
  ·subst h1; simp at this ⊢; omega
  ·subst h1; simp at this ⊢; omega
 unfold Ieee.Format.read at h ⊢
 simp only at h ⊢
 split
 ·rename_i h1
  show f.nearest _ _ _ = x
  unfold Ieee.Format.nearest
  by_cases h0 : x % f.signWeight = 0
  ·rw [if_pos h0]
   exact hword 0 h0.symm
  ·rw [if_neg h0]
   have hl : (x % f.signWeight).log2 < f.fractionBits:=by
    have : 2 ^ (x % f.signWeight).log2≤x % f.signWeight:=Nat.log2_self_le h0
    apply Decidable.byContradiction
    intro hc
    have : f.binade≤2 ^ (x % f.signWeight).log2:=Nat.pow_le_pow_right (by decide) (by omega)
    omega
   have hmax : max (f.leastPlace + ((x % f.signWeight).log2 : Int) - f.fractionBits) f.leastPlace = f.leastPlace:=by omega
   simp only [hmax,Int.sub_self,Int.toNat_zero,Nat.zero_mul,Nat.zero_add,cut_rne,Nat.pow_zero,rne_one,Nat.shiftLeft_zero]
   refine hword _ ?_
   apply Nat.min_eq_left
   omega
 ·rename_i h1
  rw [if_neg h1] at h
  split
  ·rename_i h2
   show f.nearest _ _ _ = x
   unfold Ieee.Format.nearest
   have hr : x % f.signWeight % f.binade < f.binade:=Nat.mod_lt _ hb
   rw [if_neg (by omega)]
   have hl : (f.binade + x % f.signWeight % f.binade).log2 = f.fractionBits:=by
    rw [Nat.log2_eq_iff (by omega)]
    have : 2 ^ (f.fractionBits + 1) = 2 * f.binade:=by unfold Ieee.Format.binade; rw [Nat.pow_succ]; omega
    have h4 : 2 ^ f.fractionBits = f.binade:=rfl
    omega
   rw [hl]
   have hmax : ∀ k : Nat,max (f.leastPlace + (k : Int) + (f.fractionBits : Int) - f.fractionBits) f.leastPlace = f.leastPlace + (k : Int):=fun k => by omega
   simp only [hmax]
   have e1 : ∀ k : Nat,(f.leastPlace + (k : Int) - (f.leastPlace + (k : Int))).toNat = 0:=fun k => by omega
   have e2 : ∀ k : Nat,(f.leastPlace + (k : Int) - f.leastPlace).toNat = k:=fun k => by omega
   simp only [e1,e2,cut_rne,Nat.pow_zero,rne_one,Nat.shiftLeft_zero]
   refine hword _ ?_
   have hd:=Nat.div_add_mod (x % f.signWeight) f.binade
   have hq : 1≤x % f.signWeight / f.binade:=(Nat.le_div_iff_mul_le hb).2 (by omega)
   have : (x % f.signWeight / f.binade - 1) * f.binade + (f.binade + x % f.signWeight % f.binade) = x % f.signWeight:=by
    obtain ⟨q,hq'⟩ : ∃ q,x % f.signWeight / f.binade = q + 1:=⟨_,(Nat.sub_add_cancel hq).symm⟩
    rw [hq'] at hd ⊢
    rw [Nat.add_sub_cancel]
    rw [Nat.mul_add,Nat.mul_one,Nat.mul_comm] at hd
    omega
   rw [this]
   omega
  ·rename_i h2
   rw [if_neg h2] at h
   split
   ·rename_i h3
    exact hword _ h3.symm
   ·rename_i h3
    rw [if_neg h3] at h
    cases h
theorem read_one : Ieee.single.read 1065353216 = .number false 8388608 (-23):=by decide
theorem div_one {x : Nat} (hx : x < 4294967296) (h : (Ieee.single.read x).isNaN = false) : Ieee.single.div x 1065353216 = some x:=by
 have hc : Ieee.single.signWeight = 2147483648:=by decide
 have hwr:=write_read (f:=Ieee.single) (x:=x) (by rw [hc]; omega) (by decide) (by decide) h
 unfold Ieee.Format.div
 rw [read_one]
 cases hd : Ieee.single.read x with
 | nan s t => rw [hd] at h; cases h
 | infinity s =>
  rw [hd] at hwr
  simp only [Ieee.Datum.quotient,Bool.xor_false,Option.map_some,hwr]
 | number s m i =>
  rw [hd] at hwr
  have h23 : (8388608 : Nat).log2 = 23:=by decide
  simp only [Ieee.Datum.quotient,Bool.xor_false,h23,if_neg (show ¬ (8388608 : Nat) = 0 by decide),Option.map_some,Option.some.injEq]
  have hl : m.log2 < 25:=by
   by_cases hm : m = 0
   ·subst hm; decide
   ·have : m < 33554432:=by
     have h1:=hd
     unfold Ieee.Format.read at h1
     have c2 : Ieee.single.binade = 8388608:=by decide
     have c3 : Ieee.single.infRung = 2139095040:=by decide
     simp only [hc,c2,c3] at h1
     split at h1
     ·cases h1; omega
     ·split at h1
      ·cases h1
       have : x % 2147483648 % 8388608 < 8388608:=Nat.mod_lt _ (by decide)
       omega
      ·split at h1 <;> cases h1
    rw [Nat.log2_lt hm]
    exact this
  have hfb : Ieee.single.fractionBits = 23:=rfl
  obtain ⟨j,hj⟩ : ∃ j,25 + 23 - m.log2 = 23 + j:=⟨25 - m.log2,by omega⟩
  rw [hfb,show 23 + 2 + 23 - m.log2 = 23 + j by omega]
  have e1 : m <<< (23 + j) = m * 2 ^ j * 8388608:=by
   rw [Nat.shiftLeft_eq,show 23 + j = j + 23 by omega,Nat.pow_add,← Nat.mul_assoc]
  rw [e1,Nat.mul_div_cancel _ (by decide),Nat.mul_mod_left]
  have e2 : 2 * (m * 2 ^ j) + (0 != 0).toNat = m * 2 ^ (j + 1):=by
   rw [show (0 != 0).toNat = 0 from rfl,Nat.add_zero,Nat.pow_succ,Nat.mul_left_comm,Nat.mul_comm 2]
  rw [e2]
  show Ieee.single.nearest s _ _ = x
  have e3 : i - (-23) - ((23 + j : Nat) : Int) - 1 = i - ((j + 1 : Nat) : Int):=by push_cast; omega
  rw [e3,nearest_shift]
  exact hwr
theorem quo_one {x : Nat} (hx : x < 4294967296) (h : (FloatKind.f32.decode x).isNaN = false) : quoF .f32 (some x) (Hz .f32 1) = some x:=by
 show fop .quo .f32 (some x) (some _) = _
 exact div_one hx h
theorem quo_one_int (n : Int) : quoF .f32 (Hz .f32 n) (Hz .f32 1) = Hz .f32 n :=
 quo_one (Ieee.Format.nearest_lt Ieee.single _ _ _) (nearest_num .f32 _ _ _)
end Go.VL

namespace Go.VL
open Go.RowKit
set_option linter.unusedSimpArgs false
set_option linter.unusedVariables false
def sel : List Nat→List (Nat × V)→List (Nat × V)
 | [],_ => []
 | i :: r,l => (i,Wy l i) :: sel r l
@[simp] theorem sel_nil {l : List (Nat × V)} : sel [] l = []:=rfl
@[simp] theorem sel_cons {i : Nat} {r : List Nat} {l : List (Nat × V)} : sel (i :: r) l = (i,Wy l i) :: sel r l:=rfl
def selT (live : List Nat) (t : List V) : List V:=tm t.length (live.map fun i => (i,(t[i]?).getD .any))
theorem tm_eq {n : Nat} {a b : List (Nat × V)} (h : ∀ i,i < n→Wy a i = Wy b i) : tm n a = tm n b:=by
 unfold tm
 exact List.map_congr_left fun i hi => h i (List.mem_range.1 hi)
@[simp] theorem selT_tm {live : List Nat} {n : Nat} {l : List (Nat × V)} : selT live (tm n l) = tm n (sel live l):=by
 unfold selT
 rw [tm_length]
 refine tm_eq fun i hi => ?_
 induction live with
 | nil => rfl
 | cons k r ih =>
  rw [List.map_cons,sel,Xx,Xx,ih]
  by_cases h : i = k
  ·subst h; rw [if_pos rfl,if_pos rfl,Qr hi]; rfl
  ·rw [if_neg h,if_neg h]
theorem le1_same {a : V} : Hp a a:=by
 unfold Hp
 split <;> simp_all
theorem selT_le {live : List Nat} {t : List V} : leL t (selT live t):=by
 refine leL_of (by simp [selT]) fun i a b ha hb => ?_
 unfold selT at hb
 have hi : i < t.length:=by
  apply Decidable.byContradiction
  intro hc
  rw [List.getElem?_eq_none (by omega)] at ha
  cases ha
 rw [Qr hi] at hb
 cases hb
 induction live with
 | nil => rw [show Wy (List.map (fun i => (i,(t[i]?).getD V.any)) []) i = .any from rfl,le1_any]; trivial
 | cons k r ih =>
  rw [List.map_cons,Xx]
  by_cases h : i = k
  ·subst h
   rw [if_pos rfl,ha]
   exact le1_same
  ·rw [if_neg h]
   exact ih
inductive Fin1 (s : VS) : VS→Prop
 | rfl : Fin1 s s
def toSY0 (live : List Nat) (x : Option VS) (R : VS) : Prop:=match x with
 | some s => Fin1 { t:=selT live s.t,m:=s.m,g:=s.g } R
 | none => False
structure toSY (live : List Nat) (x : Option VS) (R : VS) : Prop where
 of ::
 out : toSY0 live x R
@[simp] theorem toSY_some {live : List Nat} {t : List V} {m : VM} {g : List V} {R : VS} : toSY live (some { t:=t,m:=m,g:=g }) R = Fin1 { t:=selT live t,m:=m,g:=g } R:=propext ⟨fun h => h.out,fun h => ⟨h⟩⟩
theorem toSY.toSt {live : List Nat} {x : Option VS} {R : VS} (h : toSY live x R) : toSt x R.t R.m R.g:=by
 cases x with
 | none => exact h.out.elim
 | some s =>
  have h1:=h.out
  unfold toSY0 at h1
  cases h1
  rw [toSt_some]
  exact ⟨selT_le,rfl,rfl⟩
section
variable {P : Program} {C : Uy} {Q : Exit→VS→Prop} {st s2 : VS}
theorem Za {id : Nat} {l : List Oper} (live : List Nat) {R : VS} (hC : C.Ok P) (h : toSY live (Wj P C l.toArray l.length none l st) R:=by simp -implicitDefEqProofs; exact Fin1.rfl) (q : Q .normal R) (hg : Xm l.toArray l.length none l = true:=by kernel_rfl) : VW P (.region id l.toArray false) Q st:=Yf R.t R.m R.g hC hg h.toSt q
theorem Wr {id : Nat} {l : List Oper} (live : List Nat) {R : VS} (hC : C.Ok P) (hm : P.follows .mixedOrders = true) (h : toSY live (Wj P C l.toArray l.length none l st) R:=by simp -implicitDefEqProofs; exact Fin1.rfl) (q : Q .normal R) (hc : (Uz l && Wv l && Xm l.toArray l.length none l) = true:=by kernel_rfl) : VW P (.region id l.toArray true) Q st:=Uf R.t R.m R.g hC hm hc h.toSt q
theorem Zk {id : Nat} {l : List Oper} (live : List Nat) {R : VS} (hC : C.Ok P) (h : toSY live (Wj P C l.toArray l.length none l st) R:=by simp -implicitDefEqProofs [*]; exact Fin1.rfl) (q : Q .normal R) (hg : Xm l.toArray l.length none l = true:=by kernel_rfl) : VW P (.region id l.toArray false) Q st:=Yf R.t R.m R.g hC hg h.toSt q
theorem Zb {rs : List ResultVar} {α : Type} {v r : α} {eB : α→V} {s : VS} (h : (some v).bind some = some r) (hq : resK ((Qk P rs s).bind (vfin s.m)) fun x => nl x (eB v)) : ∃ w r' ids,Qk P rs s = some w∧Fin s.m w r' ids∧ids.Nodup∧nl r' (eB r):=by
 obtain rfl:=Yz h
 exact VRet.fin hq
end
attribute [simp] en
theorem Zg {P : Program} {f : FuncId} {fn : Func} {c : Code} {α β : Type} {g : α→Option β} {eA : α→List V} {eB : β→V} {rs : List ResultVar} (n : Nat) (hf : P.funcs[f]? = some fn)
  (h : ∀ a b,(g a).bind some = some b→VW P c (VRet P rs (fun x => nl x (eB b))) { t:=tm n (en 0 (eA a)),m:=[] }) (hb : fn.body = some c:=by rfl) (hn : fn.ntmps = n:=by rfl) (hr : fn.results.toList = rs:=by rfl)
  (hx : (P.funcs[f]?).any (fun fn => fn.body.isSome && fn.name != "runtime.NumGoroutine") = true:=by kernel_rfl) (hk : ∀ a,(eA a).length.ble n = true:=by exact fun _ => rfl) : Zz P f (tells g eA eB) :=
 Zz.go n hf hb hn hr hx hk fun a b h1 => h a b (Qi h1)
end Go.VL
