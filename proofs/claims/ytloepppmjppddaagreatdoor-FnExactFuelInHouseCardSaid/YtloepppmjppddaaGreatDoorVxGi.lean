/- Rounding is monotone; sums of amounts that are not great are numbers. -/
import Derived.Test.YtloepppmjppddaaGreatDoorVxGh
namespace Go.VL
set_option linter.unusedSimpArgs false
set_option linter.unusedVariables false
theorem rne_mono {a b g : Nat} (hg : 0 < g) (h : a≤b) : rne a g≤rne b g:=by
 unfold rne
 have ha:=Nat.div_add_mod a g
 have hb:=Nat.div_add_mod b g
 have ra:=Nat.mod_lt a hg
 have rb:=Nat.mod_lt b hg
 have hq : a / g≤b / g:=Nat.div_le_div_right h
 by_cases he : a / g = b / g
 ·rw [he]
  rw [he] at ha
  have hr : a % g≤b % g:=by omega
  have : (decide (g < 2 * (a % g)) || (g == 2 * (a % g) && b / g % 2 == 1)) = true→(decide (g < 2 * (b % g)) || (g == 2 * (b % g) && b / g % 2 == 1)) = true:=by
   intro hh
   simp only [Bool.or_eq_true,decide_eq_true_eq,Bool.and_eq_true,beq_iff_eq] at hh ⊢
   omega
  cases h1 : (decide (g < 2 * (a % g)) || (g == 2 * (a % g) && b / g % 2 == 1)) with
  | false => simp
  | true => rw [this h1]; exact Nat.le_refl _
 ·have : (decide (g < 2 * (a % g)) || (g == 2 * (a % g) && a / g % 2 == 1)).toNat≤1:=Bool.toNat_le _
  omega
theorem rne_le {a g k : Nat} (hg : 0 < g) (h : a≤k * g) : rne a g≤k:=by
 have:=rne_mono hg h
 unfold rne at this ⊢
 rw [Nat.mul_div_cancel _ hg,Nat.mul_mod_left] at this
 have h0 : decide (g < 2 * 0) = false:=by simp
 have h1 : (g == 2 * 0) = false:=by simp; omega
 rw [h0,h1] at this
 simpa using this
theorem le_rne {a g k : Nat} (hg : 0 < g) (h : k * g≤a) : k≤rne a g:=by
 unfold rne
 have:=(Nat.le_div_iff_mul_le hg).2 h
 omega
def rung (f : Ieee.Format) (m : Nat) (e : Int) : Nat :=
 if m = 0 then 0 else
 min ((max (e + m.log2 - f.fractionBits) f.leastPlace - f.leastPlace).toNat * f.binade + rne (m <<< (e - max (e + m.log2 - f.fractionBits) f.leastPlace).toNat) (2 ^ (max (e + m.log2 - f.fractionBits) f.leastPlace - e).toNat)) f.infRung
theorem Jt (f : Ieee.Format) (s : Bool) (m : Nat) (e : Int) : f.nearest s m e = f.word s (rung f m e):=by
 unfold Ieee.Format.nearest rung
 by_cases h : m = 0
 ·rw [if_pos h,if_pos h]
 ·rw [if_neg h,if_neg h]
  simp only [cut_rne]
theorem log2_mono {a b : Nat} (ha : a ≠ 0) (h : a≤b) : a.log2≤b.log2:=by
 have h1 : 2 ^ a.log2≤b:=Nat.le_trans (Nat.log2_self_le ha) h
 exact (Nat.le_log2 (by omega)).2 h1
theorem rung_mono (f : Ieee.Format) {m1 m2 : Nat} (e : Int) (h : m1≤m2) : rung f m1 e≤rung f m2 e:=by
 unfold rung
 by_cases h1 : m1 = 0
 ·rw [if_pos h1]; exact Nat.zero_le _
 have h2 : m2 ≠ 0:=by omega
 rw [if_neg h1,if_neg h2]
 have hl:=log2_mono h1 h
 have hb : 0 < f.binade:=Nat.two_pow_pos _
 generalize hL1 : max (e + m1.log2 - f.fractionBits) f.leastPlace = L1
 generalize hL2 : max (e + m2.log2 - f.fractionBits) f.leastPlace = L2
 have hLL : L1≤L2:=by omega
 refine Nat.le_min.2 ⟨Nat.le_trans (Nat.min_le_left _ _) ?_,Nat.min_le_right _ _⟩
 by_cases he : L1 = L2
 ·rw [he]
  refine Nat.add_le_add_left (rne_mono (Nat.two_pow_pos _) ?_) _
  rw [Nat.shiftLeft_eq,Nat.shiftLeft_eq]
  exact Nat.mul_le_mul_right _ h
 ·-- what is kept of the lesser one is at most two binades,of the greater one at least one
  have k1 : rne (m1 <<< (e - L1).toNat) (2 ^ (L1 - e).toNat)≤2 * f.binade:=by
   refine rne_le (Nat.two_pow_pos _) ?_
   rw [Nat.shiftLeft_eq]
   have hm : m1≤2 ^ (m1.log2 + 1):=Nat.le_of_lt Nat.lt_log2_self
   have e1 : 2 * f.binade * 2 ^ (L1 - e).toNat = 2 ^ (f.fractionBits + 1 + (L1 - e).toNat):=by
    unfold Ieee.Format.binade
    rw [Nat.pow_add,Nat.pow_succ,Nat.mul_comm 2]
   rw [e1]
   refine Nat.le_trans (Nat.mul_le_mul_right _ hm) ?_
   rw [← Nat.pow_add]
   exact Nat.pow_le_pow_right (by decide) (by omega)
  have k2 : f.binade≤rne (m2 <<< (e - L2).toNat) (2 ^ (L2 - e).toNat):=by
   refine le_rne (Nat.two_pow_pos _) ?_
   rw [Nat.shiftLeft_eq]
   have hm : 2 ^ m2.log2≤m2:=Nat.log2_self_le h2
   refine Nat.le_trans ?_ (Nat.mul_le_mul_right _ hm)
   unfold Ieee.Format.binade
   rw [← Nat.pow_add,← Nat.pow_add]
   exact Nat.pow_le_pow_right (by decide) (by omega)
  have hd : (L1 - f.leastPlace).toNat + 1≤(L2 - f.leastPlace).toNat:=by omega
  have:=Nat.mul_le_mul_right f.binade hd
  rw [Nat.add_mul,Nat.one_mul] at this
  omega
theorem rung_shift (f : Ieee.Format) (m j : Nat) (i : Int) : rung f (m * 2 ^ j) (i - j) = rung f m i:=by
 have:=nearest_shift f false m j i
 rw [Jt,Jt] at this
 simpa [Ieee.Format.word] using this
theorem rung_le (f : Ieee.Format) {m1 m2 : Nat} {e1 e2 b : Int} (h1 : b≤e1) (h2 : b≤e2) (h : m1 * 2 ^ (e1 - b).toNat≤m2 * 2 ^ (e2 - b).toNat) : rung f m1 e1≤rung f m2 e2:=by
 have a1:=rung_shift f m1 (e1 - b).toNat e1
 have a2:=rung_shift f m2 (e2 - b).toNat e2
 rw [show e1 - ((e1 - b).toNat : Int) = b by omega] at a1
 rw [show e2 - ((e2 - b).toNat : Int) = b by omega] at a2
 rw [← a1,← a2]
 exact rung_mono f b h
theorem rung_pow (k : Nat) (hk : k≤120) : rung Ieee.single 1 (k : Int) = (127 + k) * 8388608:=by
 have c1 : Ieee.single.fractionBits = 23:=rfl
 have c2 : Ieee.single.leastPlace = -149:=by decide
 have c3 : Ieee.single.binade = 8388608:=by decide
 have c4 : Ieee.single.infRung = 2139095040:=by decide
 unfold rung
 rw [if_neg (by decide),c1,c2,c3,c4,show (1 : Nat).log2 = 0 by decide]
 have e1 : max ((k : Int) + ((0 : Nat) : Int) - ((23 : Nat) : Int)) (-149) = (k : Int) - 23:=by omega
 rw [e1,show ((k : Int) - ((k : Int) - 23)).toNat = 23 by omega,show ((k : Int) - 23 - (k : Int)).toNat = 0 by omega,Nat.pow_zero,rne_one,show ((k : Int) - 23 - -149).toNat = k + 126 by omega]
 rw [show (1 : Nat) <<< 23 = 8388608 by decide]
 omega
def Jq (k : Nat) (x : Option Nat) : Prop:=∃ b,x = some b∧b≤(127 + k) * 8388608
theorem fits_val {k b : Nat} (hk : k≤120) (hb : b≤(127 + k) * 8388608) : ∃ m e,Ieee.single.read b = .number false m e∧-149≤e∧m * 2 ^ (e + 149).toNat≤2 ^ (k + 149):=by
 have c0 : Ieee.single.signWeight = 2147483648:=by decide
 have c2 : Ieee.single.leastPlace = -149:=by decide
 have c3 : Ieee.single.binade = 8388608:=by decide
 have c4 : Ieee.single.infRung = 2139095040:=by decide
 have hb2 : b < 2139095040:=by omega
 unfold Ieee.Format.read
 simp only [c0,c2,c3,c4]
 have hm : b % 2147483648 = b:=Nat.mod_eq_of_lt (by omega)
 have hd : b / 2147483648 = 0:=Nat.div_eq_of_lt (by omega)
 rw [hm,hd]
 by_cases h1 : b < 8388608
 ·rw [if_pos h1]
  refine ⟨b,-149,rfl,by omega,?_⟩
  rw [show ((-149 : Int) + 149).toNat = 0 by omega,Nat.pow_zero,Nat.mul_one]
  have : (2 : Nat) ^ 23≤2 ^ (k + 149):=Nat.pow_le_pow_right (by decide) (by omega)
  have e : (2 : Nat) ^ 23 = 8388608:=by decide
  omega
 ·rw [if_neg h1,if_pos hb2]
  refine ⟨_,_,rfl,by omega,?_⟩
  have hq : b / 8388608≤127 + k:=by omega
  have hr : b % 8388608 < 8388608:=Nat.mod_lt _ (by decide)
  have hq1 : 1≤b / 8388608:=by omega
  rw [show (-149 + ((b / 8388608 - 1 : Nat) : Int) + 149).toNat = b / 8388608 - 1 by omega]
  by_cases he : b / 8388608 = 127 + k
  ·have : b % 8388608 = 0:=by omega
   rw [this,he,Nat.add_zero,show (8388608 : Nat) = 2 ^ 23 by decide,← Nat.pow_add]
   exact Nat.pow_le_pow_right (by decide) (by omega)
  ·have : 8388608 + b % 8388608≤2 ^ 24:=by
    have : (2 : Nat) ^ 24 = 16777216:=by decide
    omega
   refine Nat.le_trans (Nat.mul_le_mul_right _ this) ?_
   rw [← Nat.pow_add]
   exact Nat.pow_le_pow_right (by decide) (by omega)
theorem fits_of {k b m : Nat} {e : Int} (hk : k≤120) (hb : b < 2147483648) (hr : Ieee.single.read b = .number false m e) (he : -149≤e) (h : m * 2 ^ (e + 149).toNat≤2 ^ (k + 149)) : b≤(127 + k) * 8388608:=by
 have hw:=write_read (f:=Ieee.single) (x:=b) (by rw [show Ieee.single.signWeight = 2147483648 by decide]; omega) (by decide) (by decide) (by rw [hr]; rfl)
 rw [hr] at hw
 have hw' : Ieee.single.nearest false m e = b:=hw
 rw [Jt] at hw'
 have hw2 : rung Ieee.single m e = b:=by
  unfold Ieee.Format.word at hw'
  rwa [if_neg (by decide)] at hw'
 rw [← hw2,← rung_pow k hk]
 refine rung_le Ieee.single (b:=-149) he (by omega) ?_
 rw [show (e - -149) = e + 149 by omega,Nat.one_mul,show ((k : Int) - -149).toNat = k + 149 by omega]
 exact h
theorem Gp {k : Nat} (hk : k≤119) {x y : Option Nat} (hx : Jq k x) (hy : Jq k y) : Jq (k + 1) (Ws .f32 x y):=by
 obtain ⟨a,rfl,ha⟩:=hx
 obtain ⟨b,rfl,hb⟩:=hy
 obtain ⟨m1,e1,r1,l1,v1⟩:=fits_val (by omega) ha
 obtain ⟨m2,e2,r2,l2,v2⟩:=fits_val (by omega) hb
 show Jq (k + 1) (Ieee.single.add a b)
 unfold Ieee.Format.add
 rw [r1,r2]
 simp only [Ieee.Datum.sum,Ieee.signed,Bool.false_eq_true,if_false,Nat.shiftLeft_eq,Option.map_some]
 generalize hB : min e1 e2 = B
 have htot : ((m1 * 2 ^ (e1 - B).toNat : Nat) : Int) + ((m2 * 2 ^ (e2 - B).toNat : Nat) : Int) = ((m1 * 2 ^ (e1 - B).toNat + m2 * 2 ^ (e2 - B).toNat : Nat) : Int):=by push_cast; rfl
 rw [htot]
 generalize hM : m1 * 2 ^ (e1 - B).toNat + m2 * 2 ^ (e2 - B).toNat = M
 have hs : (if ((M : Nat) : Int) = 0 then (false && false) else decide (((M : Nat) : Int) < 0)) = false:=by
  split
  ·rfl
  ·simp
 rw [hs]
 refine ⟨_,rfl,?_⟩
 show Ieee.single.nearest false M B≤_
 rw [Jt]
 unfold Ieee.Format.word
 rw [if_neg (by decide)]
 rw [← rung_pow (k + 1) (by omega)]
 refine rung_le Ieee.single (b:=-149) (by omega) (by omega) ?_
 rw [show (B - -149).toNat = (B + 149).toNat by omega,Nat.one_mul,show (((k + 1 : Nat) : Int) - -149).toNat = k + 149 + 1 by omega,← hM,Nat.add_mul,Nat.mul_assoc,Nat.mul_assoc,← Nat.pow_add,← Nat.pow_add,
  show (e1 - B).toNat + (B + 149).toNat = (e1 + 149).toNat by omega,show (e2 - B).toNat + (B + 149).toNat = (e2 + 149).toNat by omega,Nat.pow_succ]
 omega
theorem Jq.mono {k j : Nat} {x : Option Nat} (h : Jq k x) (hkj : k≤j) : Jq j x:=by
 obtain ⟨b,e,hb⟩:=h
 exact ⟨b,e,Nat.le_trans hb (Nat.mul_le_mul_right _ (by omega))⟩
theorem fits_zero (k : Nat) : Jq k (some 0):=⟨0,rfl,Nat.zero_le _⟩
theorem fits_le {k b c m' : Nat} {e' : Int} (hk : k≤120) (hb : b < 2139095040) (hc : Ieee.single.read c = .number false m' e') (he' : -149≤e') (hv : m' * 2 ^ (e' + 149).toNat≤2 ^ (k + 149)) (h : Qa .f32 (some b) (some c) = true) : Jq k (some b):=by
 have c0 : Ieee.single.signWeight = 2147483648:=by decide
 have c2 : Ieee.single.leastPlace = -149:=by decide
 have hr : ∃ m e,Ieee.single.read b = .number false m e∧-149≤e:=by
  have c3 : Ieee.single.binade = 8388608:=by decide
  have c4 : Ieee.single.infRung = 2139095040:=by decide
  unfold Ieee.Format.read
  simp only [c0,c2,c3,c4]
  have hm : b % 2147483648 = b:=Nat.mod_eq_of_lt (by omega)
  have hd : b / 2147483648 = 0:=Nat.div_eq_of_lt (by omega)
  rw [hm,hd]
  split
  ·exact ⟨_,_,rfl,by omega⟩
  ·exact ⟨_,_,rfl,by omega⟩
 obtain ⟨m,e,r,he⟩:=hr
 refine ⟨b,rfl,fits_of hk (by omega) r he ?_⟩
 have ho : Hh .f32 (some b) (some c) = some (compare ((m * 2 ^ (e - min e e').toNat : Nat) : Int) ((m' * 2 ^ (e' - min e e').toNat : Nat) : Int)):=by
  show Ieee.single.order b c = _
  unfold Ieee.Format.order
  rw [r,hc]
  simp only [Ieee.Datum.order,Ieee.signed,Bool.false_eq_true,if_false,Nat.shiftLeft_eq]
 have hle : m * 2 ^ (e - min e e').toNat≤m' * 2 ^ (e' - min e e').toNat:=by
  unfold Qa at h
  rw [ho] at h
  apply Decidable.byContradiction
  intro hc
  have : compare ((m * 2 ^ (e - min e e').toNat : Nat) : Int) ((m' * 2 ^ (e' - min e e').toNat : Nat) : Int) = .gt:=Std.compare_eq_gt.2 (by omega)
  rw [this] at h
  revert h
  decide
 have hB : (min e e' + 149).toNat = (min e e' + 149).toNat:=rfl
 generalize hBB : min e e' = B at hle
 have:=Nat.mul_le_mul_right (2 ^ (B + 149).toNat) hle
 rw [Nat.mul_assoc,Nat.mul_assoc,← Nat.pow_add,← Nat.pow_add,show (e - B).toNat + (B + 149).toNat = (e + 149).toNat by omega,show (e' - B).toNat + (B + 149).toNat = (e' + 149).toNat by omega] at this
 omega
end Go.VL

namespace Go.VL
open Go.RowKit
set_option linter.unusedSimpArgs false
set_option linter.unusedVariables false
def sel : List Nat→List (Nat × V)→List (Nat × V)
 | [],_ => []
 | i :: r,l => (i,Wy l i) :: sel r l
@[simp] theorem sel_nil {l : List (Nat × V)} : sel [] l = []:=rfl
@[simp] theorem sel_cons {i : Nat} {r : List Nat} {l : List (Nat × V)} : sel (i :: r) l = (i,Wy l i) :: sel r l:=rfl
def selT (live : List Nat) (t : List V) : List V:=tm t.length (live.map fun i => (i,(t[i]?).getD .any))
theorem tm_eq {n : Nat} {a b : List (Nat × V)} (h : ∀ i,i < n→Wy a i = Wy b i) : tm n a = tm n b:=by
 unfold tm
 exact List.map_congr_left fun i hi => h i (List.mem_range.1 hi)
@[simp] theorem selT_tm {live : List Nat} {n : Nat} {l : List (Nat × V)} : selT live (tm n l) = tm n (sel live l):=by
 unfold selT
 rw [tm_length]
 refine tm_eq fun i hi => ?_
 induction live with
 | nil => rfl
 | cons k r ih =>
  rw [List.map_cons,sel,Xy,Xy,ih]
  by_cases h : i = k
  ·subst h; rw [if_pos rfl,if_pos rfl,Qr hi]; rfl
  ·rw [if_neg h,if_neg h]
theorem le1_same {a : V} : Hu a a:=by
 unfold Hu
 split <;> simp_all
theorem selT_le {live : List Nat} {t : List V} : leL t (selT live t):=by
 refine leL_of (by simp [selT]) fun i a b ha hb => ?_
 unfold selT at hb
 have hi : i < t.length:=by
  apply Decidable.byContradiction
  intro hc
  rw [List.getElem?_eq_none (by omega)] at ha
  cases ha
 rw [Qr hi] at hb
 cases hb
 induction live with
 | nil => rw [show Wy (List.map (fun i => (i,(t[i]?).getD V.any)) []) i = .any from rfl,le1_any]; trivial
 | cons k r ih =>
  rw [List.map_cons,Xy]
  by_cases h : i = k
  ·subst h
   rw [if_pos rfl,ha]
   exact le1_same
  ·rw [if_neg h]
   exact ih
inductive Fin1 (s : VS) : VS→Prop
 | rfl : Fin1 s s
def toSY0 (live : List Nat) (x : Option VS) (R : VS) : Prop:=match x with
 | some s => Fin1 { t:=selT live s.t,m:=s.m,g:=s.g } R
 | none => False
structure toSY (live : List Nat) (x : Option VS) (R : VS) : Prop where
 of ::
 out : toSY0 live x R
@[simp] theorem toSY_some {live : List Nat} {t : List V} {m : VM} {g : List V} {R : VS} : toSY live (some { t:=t,m:=m,g:=g }) R = Fin1 { t:=selT live t,m:=m,g:=g } R:=propext ⟨fun h => h.out,fun h => ⟨h⟩⟩
theorem toSY.toSt {live : List Nat} {x : Option VS} {R : VS} (h : toSY live x R) : toSt x R.t R.m R.g:=by
 cases x with
 | none => exact h.out.elim
 | some s =>
  have h1:=h.out
  unfold toSY0 at h1
  cases h1
  rw [toSt_some]
  exact ⟨selT_le,rfl,rfl⟩
section
variable {P : Program} {C : Qc} {Q : Exit→VS→Prop} {st s2 : VS}
theorem Za {id : Nat} {l : List Oper} (live : List Nat) {R : VS} (hC : C.Ok P) (h : toSY live (Wj P C l.toArray l.length none l st) R:=by simp -implicitDefEqProofs; exact Fin1.rfl) (q : Q .normal R) (hg : Xp l.toArray l.length none l = true:=by kernel_rfl) : VW P (.region id l.toArray false) Q st:=Yg R.t R.m R.g hC hg h.toSt q
theorem Wt {id : Nat} {l : List Oper} (live : List Nat) {R : VS} (hC : C.Ok P) (hm : P.follows .mixedOrders = true) (h : toSY live (Wj P C l.toArray l.length none l st) R:=by simp -implicitDefEqProofs; exact Fin1.rfl) (q : Q .normal R) (hc : (Qu l && Ud l && Xp l.toArray l.length none l) = true:=by kernel_rfl) : VW P (.region id l.toArray true) Q st:=Ug R.t R.m R.g hC hm hc h.toSt q
theorem Zj {id : Nat} {l : List Oper} (live : List Nat) {R : VS} (hC : C.Ok P) (h : toSY live (Wj P C l.toArray l.length none l st) R:=by simp -implicitDefEqProofs [*]; exact Fin1.rfl) (q : Q .normal R) (hg : Xp l.toArray l.length none l = true:=by kernel_rfl) : VW P (.region id l.toArray false) Q st:=Yg R.t R.m R.g hC hg h.toSt q
theorem Zb {rs : List ResultVar} {α : Type} {v r : α} {eB : α→V} {s : VS} (h : (some v).bind some = some r) (hq : resK ((Qn P rs s).bind (vfin s.m)) fun x => nl x (eB v)) : ∃ w r' ids,Qn P rs s = some w∧Fin s.m w r' ids∧ids.Nodup∧nl r' (eB r):=by
 obtain rfl:=Yz h
 exact VRet.fin hq
end
attribute [simp] en
theorem Zg {P : Program} {f : FuncId} {fn : Func} {c : Code} {α β : Type} {g : α→Option β} {eA : α→List V} {eB : β→V} {rs : List ResultVar} (n : Nat) (hf : P.funcs[f]? = some fn)
  (h : ∀ a b,(g a).bind some = some b→VW P c (VRet P rs (fun x => nl x (eB b))) { t:=tm n (en 0 (eA a)),m:=[] }) (hb : fn.body = some c:=by rfl) (hn : fn.ntmps = n:=by rfl) (hr : fn.results.toList = rs:=by rfl)
  (hx : (P.funcs[f]?).any (fun fn => fn.body.isSome && fn.name != "runtime.NumGoroutine") = true:=by kernel_rfl) (hk : ∀ a,(eA a).length.ble n = true:=by exact fun _ => rfl) : Zz P f (tells g eA eB) :=
 Zz.go n hf hb hn hr hx hk fun a b h1 => h a b (Qi h1)
end Go.VL
