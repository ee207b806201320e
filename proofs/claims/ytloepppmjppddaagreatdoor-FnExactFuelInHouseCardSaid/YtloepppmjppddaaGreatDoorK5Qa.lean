/- Plain laws of reading flats: cutting, numerals, hexadecimal numbers. Plain laws of reading flats: numbers of single precision, and which of them are amounts. Plain laws of reading flats: which flats are valid, told by both ways alike. Plain laws of controllers' texts: what a line's parts are. Plain laws of programs' lines: blanks, words, digits and parts of a line. Plain laws of programs' lines: numbers and fractions. -/
import Derived.Test.YtloepppmjppddaaGreatDoorK5c
import Derived.Test.YtloepppmjppddaaGreatDoorVxGh
import Derived.Test.YtloepppmjppddaaGreatDoorVxGg
namespace Go.Proofs.YtloepppmjppddaaGreatDoor
open Go.VL
set_option linter.unusedSimpArgs false
set_option linter.unusedVariables false
set_option maxHeartbeats 4000000
theorem split72 {s : List UInt8} {c : UInt8} (hs : s.length≤1048576) : g102 (sb s) (c.toNat : Int) = some ((Qx c s).map sb):=by
 obtain ⟨r,e,hr⟩:=Qv (body:=g102_L1 (sb s) (c.toNat : Int)) (fun st => s.length - st.2.1.toNat)
  (fun st => ∃ (a q : Nat) (ds : List (List UInt8)),st = ((a : Int),(q : Int),ds.map sb)∧a≤q∧q≤s.length∧ds.length≤q∧c ∉ (s.drop a).take (q - a)∧Qx c s = ds ++ Qx c (s.drop a))
  (fun r => ∃ (a : Nat) (ds : List (List UInt8)),r = ((a : Int),ds.map sb)∧a≤s.length∧ds.length≤s.length∧c ∉ s.drop a∧Qx c s = ds ++ Qx c (s.drop a)) (fun st ⟨a,q,ds,e,h1,h2,h3,h4,h5⟩ => by
   subst e
   rw [g102_L1]
   by_cases hq : q < s.length
   ·left
    have hsp : s.drop a = (s.drop a).take (q - a) ++ s[q] :: s.drop (q + 1):=by
     have e1:=List.take_append_drop (q - a) (s.drop a)
     rw [List.drop_drop,show a + (q - a) = q by omega] at e1
     rw [← List.drop_eq_getElem_cons hq]
     exact e1.symm
    rw [if_pos (by simp [Zo]; omega),Ja hq,Option.bind_some,u8_eq]
    by_cases hc : s[q] = c
    ·rw [if_pos (by simp [hc]),Uq (by omega) (by omega) (by simp; omega),Option.bind_some,Uy (by simp; omega) (by simp; omega),Option.bind_some,Xd (by omega),Int.toNat_natCast,Int.toNat_natCast,ext_sb]
     refine ⟨_,rfl,⟨q + 1,q + 1,ds ++ [(s.drop a).take (q - a)],by simp,by omega,by omega,by simp; omega,by simp,?_⟩,by simp only; omega⟩
     rw [h5]
     conv => lhs; rw [hsp]
     rw [hc,cut_at h4]
     simp
    ·rw [if_neg (by simp [hc]),Xd (by omega)]
     refine ⟨_,rfl,⟨a,q + 1,ds,rfl,by omega,by omega,by omega,?_,h5⟩,by simp only; omega⟩
     rw [show q + 1 - a = (q - a) + 1 by omega,List.take_add_one]
     have : (s.drop a)[q - a]? = some s[q]:=by rw [List.getElem?_drop,show a + (q - a) = q by omega,List.getElem?_eq_getElem hq]
     rw [this]
     simp only [List.mem_append,not_or]
     exact ⟨h4,by simpa using fun e => hc e.symm⟩
   ·right
    rw [if_neg (by simp [Zo]; omega)]
    have hq' : q = s.length:=by omega
    subst hq'
    refine ⟨_,rfl,a,ds,rfl,by omega,h3,?_,h5⟩
    rwa [List.take_of_length_le (by simp)] at h4) (s:=(0,0,[])) ⟨0,0,[],rfl,by omega,by omega,by simp,by simp,by simp⟩
 obtain ⟨a,ds,rfl,h1,h2,h3,h4⟩:=hr
 unfold g102 g102_j1
 rw [e,Option.bind_some,Uq (by simp) (by simp; omega) (by simp),Option.bind_some,Uy (by simp; omega) (by simp; omega),Option.bind_some]
 rw [h4,Gf h3]
 simp only [Int.toNat_natCast]
 rw [ext_sb,sb_size,List.take_of_length_le (by simp)]
 simp
def numR (s : List UInt8) : Int × Bool:=if (Kr s && decide (s.length≤9)) = true then ((Kn 0 s : Nat),true) else (0,false)
theorem dig_of {c : UInt8} : Zh c = (!(Zo (c.toNat : Int) 48 || Zo 57 (c.toNat : Int))):=by
 unfold Zh Zo
 by_cases h1 : 48≤c.toNat <;> by_cases h2 : c.toNat≤57 <;> simp [h1,h2] <;> omega
theorem num98 (s : List UInt8) : g187 (sb s) = some (numR s):=by
 unfold g187
 by_cases h1 : s.length < 1∨9 < s.length
 ·have hb : (Zo ((sb s).size : Int) 1 || Zo 9 ((sb s).size : Int)) = true:=by
   simp [Zo]; omega
  rw [if_pos hb,Option.bind_some,if_pos rfl]
  have : (Kr s && decide (s.length≤9)) = false:=by
   rcases h1 with h1 | h1
   ·have : s = []:=List.length_eq_zero_iff.1 (by omega)
    subst this; rfl
   ·simp; omega
  unfold numR
  rw [this]
  rfl
 ·have hb : ¬ (Zo ((sb s).size : Int) 1 || Zo 9 ((sb s).size : Int)) = true:=by
   simp [Zo]; omega
  have hl : 1≤s.length∧s.length≤9:=by omega
  have h0 : 0 < s.length:=by omega
  have hi0 : Wg (sb s) 0 = some (s[0].toNat : Int):=Ja h0
  rw [if_neg hb,hi0,Option.bind_some,Option.bind_some]
  have hhead : (Yx (s[0].toNat : Int) 48 && Zo 1 ((sb s).size : Int)) = (s.head? == some 48 && decide (1 < s.length)):=by
   have : Yx (s[0].toNat : Int) 48 = decide (s[0] = 48):=u8_eq (b:=48)
   rw [this]
   cases s with
   | nil => simp at h0
   | cons x t =>
    by_cases hx : x = 48 <;> simp [Zo,hx]
    omega
  rw [hhead]
  by_cases hz : (s.head? == some 48 && decide (1 < s.length)) = true
  ·rw [if_pos hz]
   unfold numR Kr
   rw [hz]
   simp
  ·rw [if_neg hz]
   obtain ⟨r,e,hr⟩:=Qv (body:=g187_L1 (sb s)) (fun st => s.length - st.2.toNat)
    (fun st => ∃ q : Nat,st = (((Kn 0 (s.take q) : Nat) : Int),(q : Int))∧q≤s.length∧(s.take q).all Zh = true)
    (fun r => match r with
     | .inl y => s.all Zh = true∧y = (Kn 0 s : Nat)
     | .inr z => s.all Zh = false∧z = (0,false)) (fun st ⟨q,e,q1,q2⟩ => by
     subst e
     rw [g187_L1]
     by_cases hq : q < s.length
     ·have ht : s.take (q + 1) = s.take q ++ [s[q]]:=List.take_succ_eq_append_getElem hq
      rw [if_pos (by simp [Zo]; omega),Ja hq]
      simp only [Option.bind_some]
      by_cases hd : Zh s[q] = true
      ·left
       have hd2:=hd
       rw [dig_of] at hd2
       simp only [Bool.not_eq_true',Bool.or_eq_false_iff] at hd2
       have hdd : 48≤s[q].toNat∧s[q].toNat≤57:=by simpa [Zh] using hd
       have hv:=valL_lt (s.take q) 0 q2
       have hp : 10 ^ (s.take q).length≤10 ^ 9:=Nat.pow_le_pow_right (by decide) (by simp; omega)
       have hp9 : (10 : Nat) ^ 9 = 1000000000:=rfl
       rw [if_neg (by rw [hd2.1]; simp),Option.bind_some,hd2.2,if_neg (by simp)]
       have hu : sI .u8 (s[q].toNat : Int) 48 = ((s[q].toNat - 48 : Nat) : Int):=by
        have hlt : s[q].toNat < 58:=by omega
        generalize s[q].toNat = k at hdd hlt
        have : ∀ k : Nat,k < 58→48≤k→sI .u8 (k : Int) 48 = ((k - 48 : Nat) : Int):=by decide
        exact this k hlt hdd.1
       rw [hu,cI64 (by omega) (by omega),mI64 (by omega) (by omega),aI64 (by omega) (by omega),Xd (by omega)]
       refine ⟨_,rfl,⟨q + 1,?_,by omega,by rw [ht,List.all_append,q2,List.all_cons,hd]; rfl⟩,by simp only; omega⟩
       rw [ht,valL_append]
       show (_,_) = (((Kn 0 (s.take q) * 10 + (s[q].toNat - 48) : Nat) : Int),_)
       push_cast
       rfl
      ·right
       have hd2 : Zh s[q] = false:=by simpa using hd
       have hw : (if Zo (s[q].toNat : Int) 48 = true then some true else some (Zo 57 (s[q].toNat : Int))) = some true:=by
        rw [dig_of] at hd2
        split
        ·rfl
        ·rename_i hn
         have : Zo (s[q].toNat : Int) 48 = false:=by simpa using hn
         rw [this] at hd2
         simpa using hd2
       rw [hw,Option.bind_some,if_pos rfl]
       refine ⟨_,rfl,?_,rfl⟩
       rw [List.all_eq_false]
       exact ⟨s[q],List.getElem_mem hq,by simpa using hd2⟩
     ·right
      rw [if_neg (by simp [Zo]; omega)]
      have : q = s.length:=by omega
      subst this
      rw [List.take_length] at *
      exact ⟨_,rfl,q2,rfl⟩) (s:=(0,0)) ⟨0,rfl,by omega,rfl⟩
   rw [e,Option.bind_some]
   have hz' : (s.head? == some 48 && decide (1 < s.length)) = false:=by simpa using hz
   unfold numR Kr
   rw [hz']
   cases r with
   | inl y =>
    obtain ⟨r1,r2⟩:=hr
    subst r2
    simp [g187_j1,r1,hl.1,hl.2]
   | inr z =>
    obtain ⟨r1,r2⟩:=hr
    subst r2
    simp [r1]
theorem numR_itoa {n : Int} (h0 : 0≤n) (h1 : n < 10000) : numR (Lib.itoa n) = (n,true):=by
 obtain ⟨a,b⟩:=itoa_num h0
 have hl:=itoa_len h0 h1
 unfold numR
 rw [a,b,if_pos (by simp; omega)]
theorem join_cons2 (x y : List UInt8) (l : List (List UInt8)) (s : List UInt8) : Lib.join (x :: y :: l) s = x ++ s ++ Lib.join (y :: l) s:=by simp [Lib.join,List.intercalate]
theorem join_one (x s : List UInt8) : Lib.join [x] s = x:=by simp [Lib.join,List.intercalate]
theorem join_mem_len {c : UInt8} {p : List UInt8} : ∀ {l : List (List UInt8)},p ∈ l→p.length≤(Lib.join l [c]).length
 | [],h => by cases h
 | [x],h => by simp at h; subst h; rw [join_one]; exact Nat.le_refl _
 | x :: y :: l,h => by
  rw [join_cons2]
  rcases List.mem_cons.1 h with rfl | h
  ·simp
  ·have:=join_mem_len (c:=c) h
   simp at this ⊢
   omega
theorem join_num_len {c : UInt8} : ∀ {l : List (List UInt8)},l ≠ []→l.length≤(Lib.join l [c]).length + 1
 | [],h => absurd rfl h
 | [x],_ => by simp
 | x :: y :: l,_ => by
  have:=join_num_len (c:=c) (l:=y :: l) (by simp)
  rw [join_cons2]
  simp at this ⊢
  omega
theorem piece_len {c : UInt8} {s p : List UInt8} (h : p ∈ Qx c s) : p.length≤s.length:=by
 have:=join_mem_len (c:=c) h
 rwa [(cut_join _ s (Nat.le_refl _)).1] at this
theorem pieces_len (c : UInt8) (s : List UInt8) : (Qx c s).length≤s.length + 1:=by
 have:=join_num_len (c:=c) (cut_ne (c:=c) s)
 rwa [(cut_join _ s (Nat.le_refl _)).1] at this
end Go.Proofs.YtloepppmjppddaaGreatDoor
namespace Go.Proofs.YtloepppmjppddaaGreatDoor
open Go.VL
set_option linter.unusedSimpArgs false
set_option linter.unusedVariables false
set_option maxHeartbeats 4000000
theorem Jr {b : Nat} (hb : b < 4294967296) :
  (∃ m e,Ieee.single.read b = .number (decide (2147483648≤b)) m e∧b % 2147483648 < 2139095040∧(m = 0 ↔ b % 2147483648 = 0))∨(Ieee.single.read b = .infinity (decide (2147483648≤b))∧b % 2147483648 = 2139095040)∨(∃ s t,Ieee.single.read b = .nan s t∧2139095040 < b % 2147483648):=by
 have c1 : Ieee.single.signWeight = 2147483648:=by decide
 have c2 : Ieee.single.binade = 8388608:=by decide
 have c3 : Ieee.single.infRung = 2139095040:=by decide
 have hs : (b / 2147483648 % 2 == 1) = decide (2147483648≤b):=by
  by_cases h : 2147483648≤b
  ·have : b / 2147483648 = 1:=by omega
   simp [this,h]
  ·have : b / 2147483648 = 0:=by omega
   simp [this,h]
 unfold Ieee.Format.read
 simp only [c1,c2,c3,hs]
 by_cases h1 : b % 2147483648 < 8388608
 ·left
  rw [if_pos h1]
  exact ⟨_,_,rfl,by omega,Iff.rfl⟩
 ·rw [if_neg h1]
  by_cases h2 : b % 2147483648 < 2139095040
  ·left
   rw [if_pos h2]
   exact ⟨_,_,rfl,h2,by omega⟩
  ·rw [if_neg h2]
   by_cases h3 : b % 2147483648 = 2139095040
   ·right; left
    rw [if_pos h3]
    exact ⟨rfl,h3⟩
   ·right; right
    rw [if_neg h3]
    exact ⟨_,_,rfl,by omega⟩
theorem read0 : Ieee.single.read 0 = .number false 0 (-149):=by decide
theorem ord0 (s : Bool) (m : Nat) (e : Int) : (Ieee.Datum.number s m e).order (.number false 0 (-149)) = some (if m = 0 then .eq else if s = true then .lt else .gt):=by
 simp only [Ieee.Datum.order,Ieee.signed,Option.some.injEq,Nat.shiftLeft_eq,Nat.zero_mul]
 have hp : 0 < 2 ^ (e - min e (-149)).toNat:=Nat.two_pow_pos _
 generalize 2 ^ (e - min e (-149)).toNat = p at hp
 by_cases hm : m = 0
 ·subst hm
  cases s <;> simp
 ·have h : 0 < m * p:=Nat.mul_pos (by omega) hp
  generalize m * p = q at h
  rw [if_neg hm]
  cases s with
  | true =>
   simp only [if_true]
   exact Std.compare_eq_lt.2 (by simp; omega)
  | false =>
   simp only [Bool.false_eq_true,if_false]
   exact Std.compare_eq_gt.2 (by simp; omega)
def nanB (b : Nat) : Bool:=decide (2139095040 < b % 2147483648)
def finB (b : Nat) : Bool:=decide (b % 2147483648 < 2139095040)
def amt (b : Nat) : Bool:=decide (b < 2139095040)
theorem ford0 {b : Nat} (hb : b < 4294967296) : Hh .f32 (some b) (some 0) = if nanB b = true then none else some (if b % 2147483648 = 0 then .eq else if 2147483648≤b then .lt else .gt):=by
 show Ieee.single.order b 0 = _
 unfold Ieee.Format.order
 rw [read0]
 unfold nanB
 rcases Jr hb with ⟨m,e,h1,h2,h3⟩ | ⟨h1,h2⟩ | ⟨s,t,h1,h2⟩
 ·have hn : ¬ 2139095040 < b % 2147483648:=by omega
  rw [h1,ord0]
  simp only [hn,decide_false,Bool.false_eq_true,if_false,h3,decide_eq_true_eq]
 ·have hn : ¬ 2139095040 < b % 2147483648:=by omega
  have hz : ¬ b % 2147483648 = 0:=by omega
  rw [h1]
  simp only [Ieee.Datum.order,hn,hz,decide_false,Bool.false_eq_true,if_false,decide_eq_true_eq]
 ·rw [h1,if_pos (by simpa using h2)]
  rfl
theorem sub_self {b : Nat} (hb : b < 4294967296) : subF .f32 (some b) (some b) = if finB b = true then some 0 else none:=by
 show Ieee.single.sub b b = _
 unfold Ieee.Format.sub finB
 rcases Jr hb with ⟨m,e,h1,h2,h3⟩ | ⟨h1,h2⟩ | ⟨s,t,h1,h2⟩
 ·rw [h1,if_pos (by simpa using h2)]
  simp only [Ieee.Datum.opposite,Ieee.Datum.sum]
  have : Ieee.signed (decide (2147483648≤b)) m (e - min e e).toNat + Ieee.signed (!decide (2147483648≤b)) m (e - min e e).toNat = 0:=by
   unfold Ieee.signed
   cases decide (2147483648≤b) <;> simp <;> omega
  rw [this]
  simp [Ieee.Format.write,Ieee.Format.nearest,Ieee.Format.word]
 ·rw [h1,if_neg (by simp; omega)]
  simp [Ieee.Datum.opposite,Ieee.Datum.sum]
 ·rw [h1,if_neg (by simp; omega)]
  rfl
theorem g100_eq {b : Nat} (hb : b < 4294967296) : g100 (some b) = some (amt b):=by
 unfold g100 g92
 rw [sub_self hb]
 simp only [Option.bind_some]
 have hg : gtF .f32 (some b) (some 0) = (decide (b % 2147483648 ≠ 0) && decide (b < 2147483648) && !nanB b):=by
  unfold gtF
  rw [ford0 hb]
  cases nanB b with
  | true => simp
  | false =>
   simp only [Bool.false_eq_true,if_false]
   by_cases h1 : b % 2147483648 = 0
   ·simp [h1]
   ·by_cases h2 : 2147483648≤b
    ·rw [if_neg h1,if_pos h2]; simp; omega
    ·rw [if_neg h1,if_neg h2]; simp [h1]; omega
 rw [hg]
 have hf : f32bits (some b) = some (b : Int):=rfl
 rw [hf]
 unfold amt
 by_cases hfin : finB b = true
 ·have h1 : b % 2147483648 < 2139095040:=by simpa [finB] using hfin
  have hn : nanB b = false:=by simp [nanB]; omega
  rw [if_pos hfin,if_pos (by decide),hn]
  simp only [Option.bind_some]
  by_cases h2 : b < 2147483648
  ·have : b % 2147483648 = b:=Nat.mod_eq_of_lt h2
   rw [this] at h1 ⊢
   by_cases h3 : b = 0
   ·subst h3; rfl
   ·rw [if_pos (by simp [h2,h3])]
    simp [h1]
  ·have e1 : decide (b < 2147483648) = false:=by simpa using h2
   have e2 : Yx (b : Int) 0 = false:=by simp [Yx]; omega
   have e3 : decide (b < 2139095040) = false:=by simp; omega
   rw [e1,e2,e3]
   simp
 ·have h1 : ¬ b % 2147483648 < 2139095040:=by simpa [finB] using hfin
  rw [if_neg hfin,if_neg (by decide)]
  have e3 : decide (b < 2139095040) = false:=by simp; omega
  rw [e3]
  rfl
theorem double_abs (c : Nat) : (andnI .u64 (c : Int) 9223372036854775808) = ((c % 9223372036854775808 : Nat) : Int):=by
 unfold andnI
 have e : (BitVec.ofInt IntKind.u64.bits (c : Int) &&& ~~~ BitVec.ofInt IntKind.u64.bits 9223372036854775808).toNat = c % 9223372036854775808:=by
  show (BitVec.ofInt 64 (c : Int) &&& ~~~ BitVec.ofInt 64 9223372036854775808).toNat = _
  rw [BitVec.toNat_and,show (~~~ BitVec.ofInt 64 9223372036854775808) = BitVec.ofNat 64 (2 ^ 63 - 1) by decide,BitVec.ofInt_natCast,BitVec.toNat_ofNat,BitVec.toNat_ofNat]
  rw [show (2 ^ 63 - 1) % 2 ^ 64 = 2 ^ 63 - 1 by decide,Nat.and_two_pow_sub_one_eq_mod]
  omega
 rw [e]
 unfold IntKind.wrap
 simp [IntKind.bits,IntKind.signed]
 omega
theorem max_read : Ieee.double.read 9218868437227405311 = .number false 9007199254740991 971:=by decide
theorem not_gt_max {r : Nat} (h : r < 9218868437227405312) : gtF .f64 (some r) (some 9218868437227405311) = false:=by
 have hne : Hh .f64 (some r) (some 9218868437227405311) ≠ some .gt:=by
  show Ieee.double.order r 9218868437227405311 ≠ some .gt
  unfold Ieee.Format.order
  rw [max_read]
  have c1 : Ieee.double.signWeight = 9223372036854775808:=by decide
  have c2 : Ieee.double.binade = 4503599627370496:=by decide
  have c3 : Ieee.double.infRung = 9218868437227405312:=by decide
  have c4 : Ieee.double.leastPlace = -1074:=by decide
  have key : ∀ (s : Bool) (m : Nat) (e : Int),m≤9007199254740991→e≤971→(Ieee.Datum.number s m e).order (.number false 9007199254740991 971) ≠ some .gt:=fun s m e hm he => by
   simp only [Ieee.Datum.order,Ieee.signed,ne_eq,Option.some.injEq,Nat.shiftLeft_eq]
   rw [Std.compare_eq_gt,show min e 971 = e by omega,show (e - e).toNat = 0 by omega,Nat.pow_zero,Nat.mul_one]
   have hp : 0 < 2 ^ (971 - e).toNat:=Nat.two_pow_pos _
   generalize 2 ^ (971 - e).toNat = p at hp
   have : 9007199254740991≤9007199254740991 * p:=Nat.le_mul_of_pos_right _ hp
   cases s <;> simp <;> omega
  unfold Ieee.Format.read
  simp only [c1,c2,c3,c4]
  split
  ·exact key _ _ _ (by omega) (by omega)
  ·rw [if_pos (by omega)]
   refine key _ _ _ ?_ ?_
   ·have : r % 9223372036854775808 % 4503599627370496 < 4503599627370496:=Nat.mod_lt _ (by decide)
    omega
   ·have : r % 9223372036854775808 / 4503599627370496≤2046:=by omega
    omega
 unfold gtF
 simpa using hne
theorem fin67 {b : Nat} (hb : b < 4294967296) : g84 [some b] = some (finB b):=by
 have body : ∀ ok : Bool,((g118 (Xm (some b))).bind fun r63 => (if r63 = true then some true else (g119 (Xm (some b)) 0).bind fun r65 => some r65)) = some (!ok)→g84 [some b] = some ok:=fun ok h => by
  have e0 : g84_L1 [some b] ((0 : Nat) : Int) = if ok = true then some (.inl ((1 : Nat) : Int)) else some (.inr (.inr false)):=by
   rw [g84_L1,if_pos (by simp [Zo]),Yh (by simp),Option.bind_some]
   simp only [List.getElem_cons_zero]
   cases h85 : g118 (Xm (some b)) with
   | none => rw [h85] at h; cases h
   | some r63 =>
    rw [h85,Option.bind_some] at h
    rw [Option.bind_some,h,Option.bind_some]
    cases ok with
    | true => rfl
    | false => rfl
  have e1 : g84_L1 [some b] ((1 : Nat) : Int) = some (.inr (.inl ())):=by
   rw [g84_L1,if_neg (by simp [Zo])]
  unfold g84
  cases ok with
  | true =>
   have : loopO (g84_L1 [some b]) 0 = some (.inl ()):=by
    have:=Ua (body:=g84_L1 [some b]) (fun i => (i : Int)) 1 (fun i hi => by
     have : i = 0:=by omega
     subst this
     rw [e0]; rfl) e1
    simpa using this
   rw [this]; rfl
  | false =>
   have : loopO (g84_L1 [some b]) 0 = some (.inr false):=by
    have:=Ua (body:=g84_L1 [some b]) (fun i => (i : Int)) 0 (fun i hi => by omega) (r:=.inr false) (by rw [e0]; rfl)
    simpa using this
   rw [this]; rfl
 refine body _ ?_
 unfold finB
 rcases Jr hb with ⟨m,e,h1,h2,h3⟩ | ⟨h1,h2⟩ | ⟨s,t,h1,h2⟩
 ·have hd : decide (b % 2147483648 < 2139095040) = true:=by simpa using h2
  rw [hd]
  obtain ⟨hm,he1,he2⟩:=single_read h1
  have hw : Xm (some b) = some (Ieee.double.nearest (decide (2147483648≤b)) m e):=by
   have:=fconv_wide (some b)
   unfold Gd at this
   simp only [reduceCtorEq,if_false] at this
   have hdec : FloatKind.f32.decode b = _:=h1
   rw [hdec] at this
   simp only at this
   have hi:=double_holds (s:=decide (2147483648≤b)) hm he1 he2
   have hi' : (FloatKind.f64.decode (FloatKind.f64.encode (.number (decide (2147483648≤b)) m e))).isInfinity = false:=hi
   rw [hi'] at this
   simp only [Bool.false_eq_true,if_false,Option.some.injEq] at this
   exact this.symm
  have hnan:=nearest_num .f64 (decide (2147483648≤b)) m e
  have hinf:=double_holds (s:=decide (2147483648≤b)) hm he1 he2
  have hnan' : (Ieee.double.read (Ieee.double.nearest (decide (2147483648≤b)) m e)).isNaN = false:=hnan
  rw [hw]
  generalize Ieee.double.nearest (decide (2147483648≤b)) m e = c at hnan' hinf
  have hr : c % 9223372036854775808 < 9218868437227405312:=by
   have c1 : Ieee.double.signWeight = 9223372036854775808:=by decide
   have c3 : Ieee.double.infRung = 9218868437227405312:=by decide
   have c2 : Ieee.double.binade = 4503599627370496:=by decide
   apply Decidable.byContradiction
   intro hh
   unfold Ieee.Format.read at hnan' hinf
   simp only [c1,c2,c3] at hnan' hinf
   rw [if_neg (by omega),if_neg (by omega)] at hnan' hinf
   split at hnan' <;> rename_i hq
   ·rw [if_pos hq] at hinf; cases hinf
   ·cases hnan'
  unfold g118 g119 g139
  have hs : neF .f64 (some c) (some c) = false:=by
   have:=ford_self (k:=.f64) (b:=c) hnan'
   simp [neF,this]
  rw [hs]
  simp only [Option.bind_some,Bool.false_eq_true,if_false]
  rw [if_pos (by rfl)]
  have hf : f64bits (some c) = some (c : Int):=rfl
  rw [hf]
  simp only [Option.bind_some,double_abs,f64of,Int.toNat_natCast]
  rw [not_gt_max hr]
  rfl
 ·have hd : decide (b % 2147483648 < 2139095040) = false:=by simp; omega
  rw [hd]
  have hw : Xm (some b) = some (Ieee.double.word (decide (2147483648≤b)) Ieee.double.infRung):=by
   have:=fconv_wide (some b)
   unfold Gd at this
   simp only [reduceCtorEq,if_false] at this
   have hdec : FloatKind.f32.decode b = _:=h1
   rw [hdec] at this
   simp only [Option.some.injEq] at this
   exact this.symm
  rw [hw]
  cases decide (2147483648≤b) <;> decide
 ·have hd : decide (b % 2147483648 < 2139095040) = false:=by simp; omega
  rw [hd]
  have hw : Xm (some b) = none:=by
   have:=fconv_wide (some b)
   unfold Gd at this
   simp only [reduceCtorEq,if_false] at this
   have hdec : FloatKind.f32.decode b = _:=h1
   rw [hdec] at this
   simp only [Option.some.injEq] at this
   exact this.symm
  rw [hw]
  rfl
theorem g70_eq {b : Nat} (hb : b < 4294967296) : g70 (some b) = some (amt b):=by
 unfold g70
 rw [fin67 hb,Option.bind_some]
 have hg : Ka .f32 (some b) (some 0) = (!nanB b && (decide (b % 2147483648 = 0) || decide (b < 2147483648))):=by
  unfold Ka
  rw [ford0 hb]
  cases nanB b with
  | true => simp
  | false =>
   simp only [Bool.false_eq_true,if_false]
   by_cases h1 : b % 2147483648 = 0
   ·simp [h1]
   ·by_cases h2 : 2147483648≤b
    ·rw [if_neg h1,if_pos h2]; simp [h1]; omega
    ·rw [if_neg h1,if_neg h2]; simp [h1]; omega
 rw [hg]
 have hf : f32bits (some b) = some (b : Int):=rfl
 have hsh : shrI .u32 (b : Int) 31 = some ((b / 2147483648 : Nat) : Int):=by
  unfold shrI
  rw [if_neg (by decide),show min (31 : Int).toNat IntKind.u32.bits = 31 by decide,Int.fdiv_eq_ediv_of_nonneg _ (by decide)]
  simp
 rw [hf]
 simp only [Option.bind_some,hsh]
 unfold finB nanB amt
 by_cases h1 : b % 2147483648 < 2139095040
 ·by_cases h2 : b < 2147483648
  ·have : b % 2147483648 = b:=Nat.mod_eq_of_lt h2
   have h3 : b / 2147483648 = 0:=Nat.div_eq_of_lt h2
   rw [if_pos (by simp [h1,h2]; omega),h3]
   simp [Yx]
   omega
  ·have h3 : b / 2147483648 = 1:=by omega
   rw [h3]
   split
   ·simp [Yx]; omega
   ·simp; omega
 ·rw [if_neg (by simp [h1])]
  simp
  omega
theorem amt_num {b : Nat} (h : amt b = true) : nanB b = false:=by
 have : b < 2139095040:=by simpa [amt] using h
 simp [nanB]
 omega
end Go.Proofs.YtloepppmjppddaaGreatDoor
namespace Go.Proofs.YtloepppmjppddaaGreatDoor
open Go.VL
set_option linter.unusedSimpArgs false
set_option linter.unusedVariables false
set_option maxHeartbeats 4000000
def Hs (x : F32) : Prop:=∃ b,x = some b∧b < 4294967296
def Qh (x : F32) : Bool:=Ka .f32 x (some 3262119936) && Qa .f32 x (some 1128792064)
def Wu (x : F32) : Bool:=match x with | some b => amt b | none => false
def Qs (x : F32) : Bool:=Wu x && Ka .f32 x (some 1065353216) && Qa .f32 x (some 1176256512)
theorem Gm {x : F32} (h : Hs x) : g100 x = some (Wu x):=by obtain ⟨b,rfl,hb⟩:=h; exact g100_eq hb
theorem Gn {x : F32} (h : Hs x) : g70 x = some (Wu x):=by obtain ⟨b,rfl,hb⟩:=h; exact g70_eq hb
theorem heat34 (x : F32) : g95 x = some (Qh x):=rfl
theorem heat43 (x : F32) : g67 x = some (Qh x):=rfl
theorem store35 {x : F32} (h : Hs x) : g96 x = some (Qs x):=by
 unfold g96
 rw [Gm h]
 rfl
theorem store44 {x : F32} (h : Hs x) : g68 x = some (Qs x):=by
 unfold g68 g33 Qs
 rw [Gn h]
 cases Wu x <;> rfl
def sidesV (n : Nat) (a b : Int) : Bool:=((((Xa 0 a && Zo a (n : Int)) && Xa (-1) b) && Zo b (n : Int)) && (!Yx a b))
def wallV (n : Nat) (w : T131) : Bool:=(Qh w.heat_.a0_ && Qh w.heat_.a1_ && Qh w.heat_.a2_ && Qh w.heat_.a3_) && (sidesV n w.a_ w.b_ && Wu w.lead_ && Ka .f32 w.lead_ (some 1015021568) && Qa .f32 w.lead_ (some 1120403456) && Qs w.store_)
def paneV (n : Nat) (p : T134) : Bool:=sidesV n p.a_ p.b_ && (Wu p.lead_ && Qa .f32 p.lead_ (some 1120403456)) && (Wu p.sun_ && Qa .f32 p.sun_ (some 1092616192))
def flatV (f : T25) : Bool:=(decide (1≤f.heat_.length) && decide (f.heat_.length≤5) && decide (f.store_.length = f.heat_.length) && decide (f.walls_.length≤10) && decide (f.panes_.length≤8)) && (f.heat_.all Qh && f.store_.all Qs && f.walls_.all (wallV f.heat_.length) && f.panes_.all (paneV f.heat_.length))
def WOk (w : T131) : Prop:=Hs w.lead_∧Hs w.store_∧Hs w.heat_.a0_∧Hs w.heat_.a1_∧Hs w.heat_.a2_∧Hs w.heat_.a3_
def POk (p : T134) : Prop:=Hs p.lead_∧Hs p.sun_
def FlOk (f : T25) : Prop:=(∀ x ∈ f.heat_,Hs x)∧(∀ x ∈ f.store_,Hs x)∧(∀ w ∈ f.walls_,WOk w)∧∀ p ∈ f.panes_,POk p
theorem Hb {n : Nat} {body : Int→Option (Int ⊕ (Unit ⊕ Bool))} (p : Nat→Bool) (hbody : ∀ i : Nat,i < n→body (i : Int) = some (if p i = true then .inl ((i + 1 : Nat) : Int) else .inr (.inr false))) (hend : body (n : Int) = some (.inr (.inl ()))) :
  loopO body 0 = some (if (List.range n).all p = true then .inl () else .inr false):=by
 have:=Wx (body:=body) (n:=n) (fun i => if p i = true then none else some (.inr false)) (.inl ()) (fun i hi => by
  rw [hbody i hi]
  cases p i <;> rfl) hend
 rw [this]
 congr 1
 by_cases h : (List.range n).all p = true
 ·rw [if_pos h]
  have : (List.range n).findSome? (fun i => if p i = true then none else some (.inr false : Unit ⊕ Bool)) = none:=by
   rw [range_none]
   intro i hi
   rw [if_pos (List.all_eq_true.1 h i (List.mem_range.2 hi))]
  rw [this]
  rfl
 ·rw [if_neg h]
  cases hf : (List.range n).findSome? (fun i => if p i = true then none else some (.inr false : Unit ⊕ Bool)) with
  | none =>
   exfalso
   apply h
   rw [List.all_eq_true]
   intro i hi
   have:=range_none.1 hf i (List.mem_range.1 hi)
   split at this
   ·assumption
   ·cases this
  | some r =>
   obtain ⟨i,_,h2,_⟩:=range_some hf
   split at h2
   ·cases h2
   ·cases h2; rfl
theorem Ky {α : Type} {l : List α} {q : α→Bool} {p : Nat→Bool} (h : ∀ i (hi : i < l.length),p i = q l[i]) : (List.range l.length).all p = l.all q:=by
 rw [Bool.eq_iff_iff,List.all_eq_true,List.all_eq_true]
 constructor
 ·intro h1 x hx
  obtain ⟨i,hi,rfl⟩:=List.getElem_of_mem hx
  rw [← h i hi]
  exact h1 i (List.mem_range.2 hi)
 ·intro h1 i hi
  have hi':=List.mem_range.1 hi
  rw [h i hi']
  exact h1 _ (List.getElem_mem hi')
theorem all_range2 {l l' : List F32} (hl : l'.length = l.length) {q q' : F32→Bool} {p : Nat→Bool} (h : ∀ i (hi : i < l.length),p i = (q l[i] && q' (l'[i]'(by omega)))) : (List.range l.length).all p = (l.all q && l'.all q'):=by
 have e1:=Ky (l:=l) (q:=q) (p:=fun i => q (l.getD i none)) (fun i hi => by simp [hi])
 have e2:=Ky (l:=l') (q:=q') (p:=fun i => q' (l'.getD i none)) (fun i hi => by simp [hi])
 rw [← e1,← e2,hl,Bool.eq_iff_iff,Bool.and_eq_true,List.all_eq_true,List.all_eq_true,List.all_eq_true]
 have key : ∀ i,i < l.length→(p i = true ↔ q (l.getD i none) = true∧q' (l'.getD i none) = true):=fun i hi => by
  rw [h i hi,Bool.and_eq_true]
  simp [hi,show i < l'.length by omega]
 constructor
 ·intro h1
  exact ⟨fun i hi => ((key i (List.mem_range.1 hi)).1 (h1 i hi)).1,fun i hi => ((key i (List.mem_range.1 hi)).1 (h1 i hi)).2⟩
 ·intro h1 i hi
  exact (key i (List.mem_range.1 hi)).2 ⟨h1.1 i hi,h1.2 i hi⟩
theorem sides59 {n : Nat} (hn : n≤1000) (a b : Int) : g126 a b (n : Int) = some (sidesV n a b):=by
 unfold g126 g55 sidesV
 rw [sI64 (by omega) (by omega)]
 simp only [Option.bind_some]
 by_cases h1 : (Xa 0 a && Xa a ((n : Int) - 1)) = true
 ·have : Zo a (n : Int) = true:=by simp [Xa,Zo] at h1 ⊢; omega
  have h0 : Xa 0 a = true:=by simp [Xa] at h1 ⊢; omega
  rw [if_pos h1,this,h0]
  simp only [Option.bind_some,Bool.true_and]
  have : Xa b ((n : Int) - 1) = Zo b (n : Int):=by simp [Xa,Zo]; omega
  rw [this]
 ·rw [if_neg h1]
  have : (Xa 0 a && Zo a (n : Int)) = false:=by
   cases h : (Xa 0 a && Zo a (n : Int)) with
   | false => rfl
   | true => exfalso; apply h1; simp [Xa,Zo] at h ⊢; omega
  rw [this]
  rfl
theorem stand45 (n : Nat) (a b : Int) : g69 a b (n : Int) = some (sidesV n a b):=rfl
theorem pane37 {n : Nat} (hn : n≤1000) {p : T134} (h : POk p) : g98 p (n : Int) = some (paneV n p):=by
 unfold g98 paneV
 rw [sides59 hn,Gm h.1,Gm h.2]
 cases sidesV n p.a_ p.b_ <;> cases Wu p.lead_ <;> cases Qa .f32 p.lead_ (some 1120403456) <;> cases Wu p.sun_ <;> simp
theorem wall36 {n : Nat} (hn : n≤1000) {w : T131} (h : WOk w) : g97 w (n : Int) = some (wallV n w):=by
 unfold g97 wallV g97_j1
 rw [sides59 hn,Gm h.1,store35 h.2.1,heat34,heat34,heat34,heat34]
 cases Qh w.heat_.a0_ <;> cases Qh w.heat_.a1_ <;> cases Qh w.heat_.a2_ <;> cases Qh w.heat_.a3_ <;> simp
 cases sidesV n w.a_ w.b_ <;> cases Wu w.lead_ <;> cases Ka .f32 w.lead_ (some 1015021568) <;> cases Qa .f32 w.lead_ (some 1120403456) <;> cases Qs w.store_ <;> simp
theorem flat11 {f : T25} (hf : FlOk f) (hn : f.heat_.length≤1000) (hm : f.store_.length≤1000) (hw : f.walls_.length≤1000) (hp : f.panes_.length≤1000) : g53 f = some (flatV f):=by
 obtain ⟨q1,q2,q3,q4⟩:=hf
 unfold g53 flatV g55
 rw [Option.bind_some]
 by_cases hc : 1≤f.heat_.length∧f.heat_.length≤5∧f.store_.length = f.heat_.length∧f.walls_.length≤10∧f.panes_.length≤8
 ·obtain ⟨c1,c2,c3,c4,c5⟩:=hc
  rw [if_neg (by simp [Xa,Zo,Yx]; omega)]
  have h3:=Hb (body:=g53_L3 f) (n:=f.heat_.length) (fun i => Qh (f.heat_.getD i none) && Qs (f.store_.getD i none)) (fun i hi => by
   have hi2 : i < f.store_.length:=by omega
   rw [g53_L3,if_pos (by simp [Zo]; omega),Yh hi,Option.bind_some,heat34,Option.bind_some,Yh hi2,Option.bind_some,store35 (q2 _ (List.getElem_mem hi2)),Option.bind_some]
   simp only [List.getD_eq_getElem?_getD,List.getElem?_eq_getElem hi,List.getElem?_eq_getElem hi2,Option.getD_some]
   cases Qh f.heat_[i] <;> cases Qs f.store_[i] <;> simp [Xd (i:=i) (by omega)]) (by rw [g53_L3,if_neg (by simp [Zo])])
  rw [all_range2 (l:=f.heat_) (l':=f.store_) c3 (q:=Qh) (q':=Qs) (fun i hi => by simp [hi,show i < f.store_.length by omega])] at h3
  have h2:=Hb (body:=g53_L2 f) (n:=f.walls_.length) (fun i => wallV f.heat_.length (f.walls_.getD i ⟨0,0,none,none,⟨none,none,none,none⟩⟩)) (fun i hi => by
   rw [g53_L2,if_pos (by simp [Zo]; omega),Yh hi,Option.bind_some,wall36 hn (q3 _ (List.getElem_mem hi)),Option.bind_some]
   simp only [List.getD_eq_getElem?_getD,List.getElem?_eq_getElem hi,Option.getD_some]
   cases wallV f.heat_.length f.walls_[i] <;> simp [Xd (i:=i) (by omega)]) (by rw [g53_L2,if_neg (by simp [Zo])])
  rw [Ky (l:=f.walls_) (q:=wallV f.heat_.length) (fun i hi => by simp [hi])] at h2
  have h1:=Hb (body:=g53_L1 f) (n:=f.panes_.length) (fun i => paneV f.heat_.length (f.panes_.getD i ⟨0,0,none,none⟩)) (fun i hi => by
   rw [g53_L1,if_pos (by simp [Zo]; omega),Yh hi,Option.bind_some,pane37 hn (q4 _ (List.getElem_mem hi)),Option.bind_some]
   simp only [List.getD_eq_getElem?_getD,List.getElem?_eq_getElem hi,Option.getD_some]
   cases paneV f.heat_.length f.panes_[i] <;> simp [Xd (i:=i) (by omega)]) (by rw [g53_L1,if_neg (by simp [Zo])])
  rw [Ky (l:=f.panes_) (q:=paneV f.heat_.length) (fun i hi => by simp [hi])] at h1
  rw [h3]
  unfold g53_j1 g53_j2 g53_j3
  rw [h2,h1]
  simp only [c1,c2,c3,c4,c5,decide_true,Bool.true_and,Bool.and_true]
  cases f.heat_.all Qh <;> cases f.store_.all Qs <;> cases f.walls_.all (wallV f.heat_.length) <;> cases f.panes_.all (paneV f.heat_.length) <;> rfl
 ·have : (decide (1≤f.heat_.length) && decide (f.heat_.length≤5) && decide (f.store_.length = f.heat_.length) && decide (f.walls_.length≤10) && decide (f.panes_.length≤8)) = false:=by
   rw [← Bool.not_eq_true]
   intro h
   simp only [Bool.and_eq_true,decide_eq_true_eq] at h
   exact hc ⟨h.1.1.1.1,h.1.1.1.2,h.1.1.2,h.1.2,h.2⟩
  rw [this,if_pos]
  ·rfl
  ·apply Decidable.byContradiction
   intro h
   apply hc
   simp [Xa,Zo,Yx] at h
   omega
theorem flat20 {f : T25} (hf : FlOk f) (hn : f.heat_.length≤1000) (hm : f.store_.length≤1000) (hw : f.walls_.length≤1000) (hp : f.panes_.length≤1000) : g29 f = some (flatV f):=by
 obtain ⟨q1,q2,q3,q4⟩:=hf
 unfold g29 flatV
 by_cases hc : 1≤f.heat_.length∧f.heat_.length≤5∧f.store_.length = f.heat_.length∧f.walls_.length≤10∧f.panes_.length≤8
 ·obtain ⟨c1,c2,c3,c4,c5⟩:=hc
  rw [if_neg (by simp [Xa,Zo,Yx]; omega)]
  have h3:=Hb (body:=g29_L3 f) (n:=f.heat_.length) (fun i => Qh (f.heat_.getD i none) && Qs (f.store_.getD i none)) (fun i hi => by
   have hi2 : i < f.store_.length:=by omega
   rw [g29_L3,if_pos (by simp [Zo]; omega),Yh hi,Option.bind_some,heat43,Option.bind_some,Yh hi2,Option.bind_some,store44 (q2 _ (List.getElem_mem hi2)),Option.bind_some]
   simp only [List.getD_eq_getElem?_getD,List.getElem?_eq_getElem hi,List.getElem?_eq_getElem hi2,Option.getD_some]
   cases Qh f.heat_[i] <;> cases Qs f.store_[i] <;> simp [Xd (i:=i) (by omega)]) (by rw [g29_L3,if_neg (by simp [Zo])])
  rw [all_range2 (l:=f.heat_) (l':=f.store_) c3 (q:=Qh) (q':=Qs) (fun i hi => by simp [hi,show i < f.store_.length by omega])] at h3
  have h2:=Hb (body:=g29_L2 f) (n:=f.walls_.length) (fun i => wallV f.heat_.length (f.walls_.getD i ⟨0,0,none,none,⟨none,none,none,none⟩⟩)) (fun i hi => by
   have hq:=q3 _ (List.getElem_mem hi)
   rw [g29_L2,if_pos (by simp [Zo]; omega),Yh hi,Option.bind_some]
   unfold g33 g29_j4 wallV
   simp only [stand45,List.getD_eq_getElem?_getD,List.getElem?_eq_getElem hi,Option.getD_some,Gn hq.1,store44 hq.2.1,heat43,Option.bind_some,Xd (i:=i) (by omega)]
   generalize sidesV f.heat_.length f.walls_[i].a_ f.walls_[i].b_ = s1
   generalize Wu f.walls_[i].lead_ = s2
   generalize Ka .f32 f.walls_[i].lead_ (some 1015021568) = s3
   generalize Qa .f32 f.walls_[i].lead_ (some 1120403456) = s4
   generalize Qs f.walls_[i].store_ = s5
   generalize Qh f.walls_[i].heat_.a0_ = t0
   generalize Qh f.walls_[i].heat_.a1_ = t1
   generalize Qh f.walls_[i].heat_.a2_ = t2
   generalize Qh f.walls_[i].heat_.a3_ = t3
   cases s1 <;> cases s2 <;> cases s3 <;> cases s4 <;> cases s5 <;> simp
   cases t0 <;> cases t1 <;> cases t2 <;> cases t3 <;> simp) (by rw [g29_L2,if_neg (by simp [Zo])])
  rw [Ky (l:=f.walls_) (q:=wallV f.heat_.length) (fun i hi => by simp [hi])] at h2
  have h1:=Hb (body:=g29_L1 f) (n:=f.panes_.length) (fun i => paneV f.heat_.length (f.panes_.getD i ⟨0,0,none,none⟩)) (fun i hi => by
   have hq:=q4 _ (List.getElem_mem hi)
   rw [g29_L1,if_pos (by simp [Zo]; omega),Yh hi,Option.bind_some]
   unfold g32 paneV
   simp only [stand45,List.getD_eq_getElem?_getD,List.getElem?_eq_getElem hi,Option.getD_some,Gn hq.1,Gn hq.2,Option.bind_some,Xd (i:=i) (by omega)]
   generalize sidesV f.heat_.length f.panes_[i].a_ f.panes_[i].b_ = s1
   generalize Wu f.panes_[i].lead_ = s2
   generalize Qa .f32 f.panes_[i].lead_ (some 1120403456) = s3
   generalize Wu f.panes_[i].sun_ = s4
   generalize Qa .f32 f.panes_[i].sun_ (some 1092616192) = s5
   cases s1 <;> cases s2 <;> cases s3 <;> cases s4 <;> cases s5 <;> simp) (by rw [g29_L1,if_neg (by simp [Zo])])
  rw [Ky (l:=f.panes_) (q:=paneV f.heat_.length) (fun i hi => by simp [hi])] at h1
  rw [h3]
  unfold g29_j1 g29_j2 g29_j3
  rw [h2,h1]
  simp only [c1,c2,c3,c4,c5,decide_true,Bool.true_and,Bool.and_true]
  cases f.heat_.all Qh <;> cases f.store_.all Qs <;> cases f.walls_.all (wallV f.heat_.length) <;> cases f.panes_.all (paneV f.heat_.length) <;> rfl
 ·have : (decide (1≤f.heat_.length) && decide (f.heat_.length≤5) && decide (f.store_.length = f.heat_.length) && decide (f.walls_.length≤10) && decide (f.panes_.length≤8)) = false:=by
   rw [← Bool.not_eq_true]
   intro h
   simp only [Bool.and_eq_true,decide_eq_true_eq] at h
   exact hc ⟨h.1.1.1.1,h.1.1.1.2,h.1.1.2,h.1.2,h.2⟩
  rw [this,if_pos]
  ·rfl
  ·apply Decidable.byContradiction
   intro h
   apply hc
   simp [Xa,Zo,Yx] at h
   omega
end Go.Proofs.YtloepppmjppddaaGreatDoor
namespace Go.Proofs.YtloepppmjppddaaGreatDoor
open Go.VL
set_option linter.unusedSimpArgs false
set_option linter.unusedVariables false
set_option maxHeartbeats 4000000
def Ju (c : UInt8) : Bool:=97≤c.toNat && c.toNat≤122
def Yq (c : UInt8) : Bool:=Ju c || Zh c
def isOp (c : UInt8) : Bool:=c = 61 || c = 60 || c = 43 || c = 45 || c = 42 || c = 40 || c = 41 || c = 44
def isW (w : List UInt8) : Bool:=w = [109,105,110] || w = [109,97,120] || w = [112,105,99,107]
theorem let_of {c : UInt8} : (Xa 97 (c.toNat : Int) && Xa (c.toNat : Int) 122) = Ju c:=by
 unfold Ju Xa
 by_cases h1 : 97≤c.toNat <;> by_cases h2 : c.toNat≤122 <;> simp [h1,h2] <;> omega
theorem dig_of2 {c : UInt8} : (Xa 48 (c.toNat : Int) && Xa (c.toNat : Int) 57) = Zh c:=by
 unfold Zh Xa
 by_cases h1 : 48≤c.toNat <;> by_cases h2 : c.toNat≤57 <;> simp [h1,h2] <;> omega
theorem g142_eq {c : UInt8} : g142 (c.toNat : Int) = some (Ju c):=by unfold g142; rw [let_of]
theorem Hq {c : UInt8} : g143 (c.toNat : Int) = some (Zh c):=by unfold g143; rw [dig_of2]
theorem g111_eq {c : UInt8} : g111 (c.toNat : Int) = some (Ju c):=by unfold g111; rw [let_of]
theorem g112_eq {c : UInt8} : g112 (c.toNat : Int) = some (Zh c):=by unfold g112; rw [dig_of2]
theorem isW_of {w : List UInt8} : ((Jb (sb w) (⟨#[109,105,110]⟩ : ByteArray) || Jb (sb w) (⟨#[109,97,120]⟩ : ByteArray)) || Jb (sb w) (⟨#[112,105,99,107]⟩ : ByteArray)) = isW w:=by
 have e1 : (⟨#[109,105,110]⟩ : ByteArray) = sb [109,105,110]:=rfl
 have e2 : (⟨#[109,97,120]⟩ : ByteArray) = sb [109,97,120]:=rfl
 have e3 : (⟨#[112,105,99,107]⟩ : ByteArray) = sb [112,105,99,107]:=rfl
 rw [e1,e2,e3,Kx,Kx,Kx]
 rfl
theorem g113_eq {w : List UInt8} : g113 (sb w) = some (isW w):=by unfold g113; rw [isW_of]
def Uz : Nat→List UInt8→List (List UInt8)
 | 0,_ => []
 | _ + 1,[] => []
 | n + 1,c :: cs =>
  if c = 32 then Uz n cs
  else if Ju c = true then
   (if isW (c :: cs.takeWhile Yq) = true∧(cs.dropWhile Yq).head? = some 40 then ((c :: cs.takeWhile Yq) ++ [40]) :: Uz n (cs.dropWhile Yq).tail
   else (c :: cs.takeWhile Yq) :: Uz n (cs.dropWhile Yq))
  else if Zh c = true then
   (if (cs.dropWhile Zh).head? = some 47 then
    (if ((cs.dropWhile Zh).tail.head?.any Zh) = true then ((c :: cs.takeWhile Zh) ++ 47 :: (cs.dropWhile Zh).tail.takeWhile Zh) :: Uz n ((cs.dropWhile Zh).tail.dropWhile Zh) else [[0]])
   else (c :: cs.takeWhile Zh) :: Uz n (cs.dropWhile Zh))
  else if isOp c = true then [c] :: Uz n cs
  else [[0]]
theorem Jk {α : Type} (q : α→Bool) : ∀ l : List α,(l.dropWhile q).length≤l.length
 | [] => by simp
 | x :: l => by
  rw [List.dropWhile_cons]
  split
  ·have:=Jk q l; simp; omega
  ·exact Nat.le_refl _
theorem lexB_fuel : ∀ (n m : Nat) (l : List UInt8),l.length < n→l.length < m→Uz n l = Uz m l
 | 0,_,_,h,_ => by omega
 | _,0,_,_,h => by omega
 | n + 1,m + 1,[],_,_ => rfl
 | n + 1,m + 1,c :: cs,h1,h2 => by
  simp only [List.length_cons] at h1 h2
  have ih : ∀ l : List UInt8,l.length≤cs.length→Uz n l = Uz m l:=fun l hl => lexB_fuel n m l (by omega) (by omega)
  have a1:=Jk Yq cs
  have a2:=Jk Zh cs
  have a3:=Jk Zh (cs.dropWhile Zh).tail
  simp only [Uz]
  rw [ih cs (Nat.le_refl _),ih (cs.dropWhile Yq).tail (by simp; omega),ih (cs.dropWhile Yq) a1,ih (cs.dropWhile Zh) a2,ih ((cs.dropWhile Zh).tail.dropWhile Zh) (by simp at a3; omega)]
def lx (l : List UInt8) : List (List UInt8):=Uz (l.length + 1) l
theorem lx_fuel {n : Nat} {l : List UInt8} (h : l.length < n) : Uz n l = lx l:=lexB_fuel _ _ _ h (by omega)
@[simp] theorem lx_nil : lx [] = []:=rfl
theorem lx_blank {cs : List UInt8} : lx (32 :: cs) = lx cs:=by
 show Uz (cs.length + 1 + 1) (32 :: cs) = _
 simp only [Uz,if_true]
 exact lx_fuel (by omega)
theorem lx_op {c : UInt8} {cs : List UInt8} (h : isOp c = true) : lx (c :: cs) = [c] :: lx cs:=by
 have h1 : c ≠ 32:=fun e => by subst e; revert h; decide
 have h2 : Ju c = false:=by
  simp only [isOp,Bool.or_eq_true,decide_eq_true_eq] at h
  rcases h with ((((((h | h) | h) | h) | h) | h) | h) | h <;> subst h <;> decide
 have h3 : Zh c = false:=by
  simp only [isOp,Bool.or_eq_true,decide_eq_true_eq] at h
  rcases h with ((((((h | h) | h) | h) | h) | h) | h) | h <;> subst h <;> decide
 show Uz (cs.length + 1 + 1) (c :: cs) = _
 simp only [Uz,if_neg h1,h2,h3,h,if_true,Bool.false_eq_true,if_false]
 rw [lx_fuel (by omega)]
theorem lx_bad {c : UInt8} {cs : List UInt8} (h0 : c ≠ 32) (h1 : Ju c = false) (h2 : Zh c = false) (h3 : isOp c = false) : lx (c :: cs) = [[0]]:=by
 show Uz (cs.length + 1 + 1) (c :: cs) = _
 simp only [Uz,if_neg h0,h1,h2,h3,Bool.false_eq_true,if_false]
theorem isL_ne {c : UInt8} (h : Ju c = true) : c ≠ 32:=fun e => by subst e; revert h; decide
theorem isDig_ne {c : UInt8} (h : Zh c = true) : c ≠ 32∧Ju c = false:=by
 constructor
 ·intro e; subst e; revert h; decide
 ·rw [Bool.eq_false_iff]
  intro h2
  simp only [Zh,Ju,Bool.and_eq_true,decide_eq_true_eq] at h h2
  omega
theorem lx_call {c : UInt8} {cs : List UInt8} (h : Ju c = true) (hw : isW (c :: cs.takeWhile Yq) = true) (hp : (cs.dropWhile Yq).head? = some 40) : lx (c :: cs) = ((c :: cs.takeWhile Yq) ++ [40]) :: lx (cs.dropWhile Yq).tail:=by
 show Uz (cs.length + 1 + 1) (c :: cs) = _
 simp only [Uz,if_neg (isL_ne h),h,if_true,hw,hp,and_self]
 rw [lx_fuel (by have:=Jk Yq cs; simp; omega)]
theorem lx_word {c : UInt8} {cs : List UInt8} (h : Ju c = true) (hn : ¬ (isW (c :: cs.takeWhile Yq) = true∧(cs.dropWhile Yq).head? = some 40)) : lx (c :: cs) = (c :: cs.takeWhile Yq) :: lx (cs.dropWhile Yq):=by
 show Uz (cs.length + 1 + 1) (c :: cs) = _
 simp only [Uz,if_neg (isL_ne h),h,if_true,if_neg hn]
 rw [lx_fuel (by have:=Jk Yq cs; omega)]
theorem lx_num {c : UInt8} {cs : List UInt8} (h : Zh c = true) (hn : (cs.dropWhile Zh).head? ≠ some 47) : lx (c :: cs) = (c :: cs.takeWhile Zh) :: lx (cs.dropWhile Zh):=by
 obtain ⟨h1,h2⟩:=isDig_ne h
 show Uz (cs.length + 1 + 1) (c :: cs) = _
 simp only [Uz,if_neg h1,h2,h,if_true,Bool.false_eq_true,if_false,if_neg hn]
 rw [lx_fuel (by have:=Jk Zh cs; omega)]
theorem lx_fbad {c : UInt8} {cs : List UInt8} (h : Zh c = true) (hp : (cs.dropWhile Zh).head? = some 47) (hd : ((cs.dropWhile Zh).tail.head?.any Zh) = false) : lx (c :: cs) = [[0]]:=by
 obtain ⟨h1,h2⟩:=isDig_ne h
 show Uz (cs.length + 1 + 1) (c :: cs) = _
 simp only [Uz,if_neg h1,h2,h,if_true,Bool.false_eq_true,if_false,hp,hd]
theorem lx_frac {c : UInt8} {cs : List UInt8} (h : Zh c = true) (hp : (cs.dropWhile Zh).head? = some 47) (hd : ((cs.dropWhile Zh).tail.head?.any Zh) = true) : lx (c :: cs) = ((c :: cs.takeWhile Zh) ++ 47 :: (cs.dropWhile Zh).tail.takeWhile Zh) :: lx ((cs.dropWhile Zh).tail.dropWhile Zh):=by
 obtain ⟨h1,h2⟩:=isDig_ne h
 show Uz (cs.length + 1 + 1) (c :: cs) = _
 simp only [Uz,if_neg h1,h2,h,if_true,Bool.false_eq_true,if_false,hp,hd,and_self]
 rw [lx_fuel (by have:=Jk Zh cs; have:=Jk Zh (cs.dropWhile Zh).tail; simp at this; omega)]
end Go.Proofs.YtloepppmjppddaaGreatDoor
namespace Go.Proofs.YtloepppmjppddaaGreatDoor
open Go.VL
set_option linter.unusedSimpArgs false
set_option linter.unusedVariables false
set_option maxHeartbeats 4000000
theorem Xi {L : List UInt8} {k : Nat} {c : UInt8} {cs : List UInt8} (h : L.drop k = c :: cs) : k < L.length∧L.drop (k + 1) = cs∧Wg (sb L) (k : Int) = some (c.toNat : Int):=by
 have hk : k < L.length:=by
  apply Decidable.byContradiction
  intro hc
  rw [List.drop_eq_nil_of_le (by omega)] at h
  cases h
 rw [List.drop_eq_getElem_cons hk] at h
 injection h with h1 h2
 exact ⟨hk,h2,by rw [Ja hk,h1]⟩
theorem drop_nil {L : List UInt8} {k : Nat} (h : L.drop k = []) : L.length≤k:=List.drop_eq_nil_iff.1 h
theorem Kh {α : Type} (q : α→Bool) : ∀ l : List α,l.drop (l.takeWhile q).length = l.dropWhile q
 | [] => rfl
 | x :: l => by
  rw [List.takeWhile_cons,List.dropWhile_cons]
  split
  ·simpa using Kh q l
  ·rfl
theorem take_tw {α : Type} (q : α→Bool) : ∀ l : List α,l.take (l.takeWhile q).length = l.takeWhile q
 | [] => rfl
 | x :: l => by
  rw [List.takeWhile_cons]
  split
  ·simpa using take_tw q l
  ·rfl
theorem Qo {α : Type} (q : α→Bool) : ∀ l : List α,(l.takeWhile q).length≤l.length
 | [] => Nat.le_refl _
 | x :: l => by
  rw [List.takeWhile_cons]
  split
  ·have:=Qo q l; simp; omega
  ·simp
theorem scan_tw {ρ : Type} {body : Int→Option (Int ⊕ ρ)} {L : List UInt8} {q : UInt8→Bool} {fin : Int→ρ} (hL : L.length≤1048576) {k0 : Nat}
  (h1 : ∀ (k : Nat) c cs,k0≤k→L.drop k = c :: cs→body (k : Int) = if q c = true then some (.inl ((k + 1 : Nat) : Int)) else some (.inr (fin (k : Int))))
  (h2 : body (L.length : Int) = some (.inr (fin (L.length : Int)))) : ∀ (n k : Nat),k0≤k→k≤L.length→L.length - k≤n→loopO body (k : Int) = some (fin ((k + ((L.drop k).takeWhile q).length : Nat) : Int)):=fun n => by
 induction n with
 | zero =>
  intro k a1 a2 a3
  have : k = L.length:=by omega
  subst this
  rw [List.drop_length]
  exact Xt h2
 | succ n ih =>
  intro k a1 a2 a3
  cases hd : L.drop k with
  | nil =>
   have : k = L.length:=by have:=drop_nil hd; omega
   subst this
   exact Xt h2
  | cons c cs =>
   obtain ⟨b1,b2,b3⟩:=Xi hd
   have hb:=h1 k c cs a1 hd
   rw [List.takeWhile_cons]
   cases hq : q c with
   | true =>
    rw [hq,if_pos rfl] at hb
    rw [Ut hb,ih (k + 1) (by omega) (by omega) (by omega),b2,if_pos rfl]
    congr 2
    simp
    omega
   | false =>
    rw [hq,if_neg (by simp)] at hb
    rw [Xt hb]
    simp
def isB (c : UInt8) : Bool:=c = 32
def sk (L : List UInt8) (k : Nat) : Nat:=k + ((L.drop k).takeWhile isB).length
theorem sk_drop (L : List UInt8) (k : Nat) : L.drop (sk L k) = (L.drop k).dropWhile isB:=by
 unfold sk
 rw [← List.drop_drop,Kh]
theorem sk_le {L : List UInt8} {k : Nat} (h : k≤L.length) : k≤sk L k∧sk L k≤L.length:=by
 have:=Qo isB (L.drop k)
 rw [List.length_drop] at this
 unfold sk
 omega
theorem dwB_lx : ∀ l : List UInt8,lx (l.dropWhile isB) = lx l
 | [] => rfl
 | c :: cs => by
  rw [List.dropWhile_cons]
  split
  ·rename_i h
   have : c = 32:=by simpa [isB] using h
   subst this
   rw [dwB_lx cs,lx_blank]
  ·rfl
theorem dwB_head {l : List UInt8} {c : UInt8} {cs : List UInt8} (h : l.dropWhile isB = c :: cs) : c ≠ 32:=by
 induction l with
 | nil => cases h
 | cons x l ih =>
  rw [List.dropWhile_cons] at h
  split at h
  ·exact ih h
  ·rename_i hx
   injection h with h1 h2
   subst h1
   simpa [isB] using hx
theorem sk_lx (L : List UInt8) (k : Nat) : lx (L.drop (sk L k)) = lx (L.drop k):=by rw [sk_drop,dwB_lx]
theorem blanks_eq {L : List UInt8} (hL : L.length≤2000) {k : Nat} (hk : k≤L.length) {ns : List ByteArray} {c : List T189} {b : Bool} : g110 ⟨sb L,(k : Int),ns,c,b⟩ = some ⟨sb L,(sk L k : Nat),ns,c,b⟩:=by
 unfold g110
 refine scan_tw (L:=L) (q:=isB) (fin:=fun a => (⟨sb L,a,ns,c,b⟩ : T139)) (by omega) (k0:=0) (fun k x cs _ hd => ?_) ?_ L.length k (by omega) hk (by omega)
 ·obtain ⟨h1,h2,h3⟩:=Xi hd
  rw [g110_L1,if_pos (by simp [Zo]; omega)]
  simp only
  rw [h3,Option.bind_some,Option.bind_some,Xd (by omega)]
  have : Yx (x.toNat : Int) 32 = isB x:=u8_eq (a:=x) (b:=32)
  rw [this]
 ·rw [g110_L1,if_neg (by simp [Zo])]
  rfl
def hdI : List UInt8→Int
 | [] => 0
 | c :: _ => c.toNat
theorem peek_eq {L : List UInt8} (hL : L.length≤2000) {k : Nat} (hk : k≤L.length) {ns : List ByteArray} {c : List T189} {b : Bool} : g77 ⟨sb L,(k : Int),ns,c,b⟩ = some (hdI (L.drop (sk L k)),⟨sb L,(sk L k : Nat),ns,c,b⟩):=by
 unfold g77
 rw [blanks_eq hL hk,Option.bind_some]
 simp only
 have h2:=(sk_le hk).2
 cases hd : L.drop (sk L k) with
 | nil =>
  have:=drop_nil hd
  rw [if_pos (by simp [Xa]; omega)]
  rfl
 | cons x cs =>
  obtain ⟨h1,h2,h3⟩:=Xi hd
  rw [if_neg (by simp [Xa]; omega),h3]
  rfl
def Wz : List UInt8→List UInt8
 | [] => []
 | c :: cs => if Ju c = true then c :: cs.takeWhile Yq else []
theorem word_eq {L : List UInt8} (hL : L.length≤2000) {k : Nat} (hk : k≤L.length) {ns : List ByteArray} {c : List T189} {b : Bool} :
  g73 ⟨sb L,(k : Int),ns,c,b⟩ = some (sb (Wz (L.drop (sk L k))),⟨sb L,((sk L k + (Wz (L.drop (sk L k))).length : Nat) : Int),ns,c,b⟩):=by
 unfold g73
 rw [blanks_eq hL hk,Option.bind_some]
 have h2:=(sk_le hk).2
 generalize sk L k = k1 at h2
 have step : ∀ (k : Nat) x cs,L.drop k = x :: cs→g73_L1 ⟨sb L,(k1 : Int),ns,c,b⟩ (k : Int) = if (Ju x || (decide (k1 < k) && Zh x)) = true then some (.inl ((k + 1 : Nat) : Int)) else some (.inr (k : Int)):=fun k x cs hd => by
  obtain ⟨h1,h2,h3⟩:=Xi hd
  rw [g73_L1,if_pos (by simp [Zo]; omega)]
  simp only
  rw [h3,Option.bind_some,g111_eq,Option.bind_some,Xd (by omega)]
  cases hx : Ju x with
  | true => simp
  | false =>
   simp only [Bool.false_eq_true,if_false,Bool.false_or,Option.bind_some]
   by_cases hc : k1 < k
   ·rw [if_pos (by simp [Zo]; omega),g112_eq]
    simp [hc]
   ·rw [if_neg (by simp [Zo]; omega)]
    simp [hc]
 have stop : g73_L1 ⟨sb L,(k1 : Int),ns,c,b⟩ (L.length : Int) = some (.inr (L.length : Int)):=by
  rw [g73_L1,if_neg (by simp [Zo])]
  rfl
 have key : loopO (g73_L1 ⟨sb L,(k1 : Int),ns,c,b⟩) (k1 : Int) = some ((k1 + (Wz (L.drop k1)).length : Nat) : Int):=by
  cases hd : L.drop k1 with
  | nil =>
   have : k1 = L.length:=by have:=drop_nil hd; omega
   rw [this] at stop ⊢
   rw [Xt stop]
   rfl
  | cons x cs =>
   obtain ⟨b1,b2,b3⟩:=Xi hd
   have hs:=step k1 x cs hd
   rw [show decide (k1 < k1) = false by simp,Bool.false_and,Bool.or_false] at hs
   cases hx : Ju x with
   | false =>
    rw [hx,if_neg (by simp)] at hs
    rw [Xt hs]
    simp [Wz,hx]
   | true =>
    rw [hx,if_pos rfl] at hs
    rw [Ut hs]
    have:=scan_tw (L:=L) (q:=Yq) (fin:=fun a => a) (body:=g73_L1 ⟨sb L,(k1 : Int),ns,c,b⟩) (by omega) (k0:=k1 + 1) (fun k x cs hk hd => by
     rw [step k x cs hd,show decide (k1 < k) = true by simp; omega,Bool.true_and]
     rfl) stop L.length (k1 + 1) (by omega) (by omega) (by omega)
    rw [this,b2]
    simp only [Wz,hx,if_true,List.length_cons]
    congr 2
    omega
 rw [key,Option.bind_some,g73_j1]
 have hlen : (Wz (L.drop k1)).length≤(L.drop k1).length∧(L.drop k1).take (Wz (L.drop k1)).length = Wz (L.drop k1):=by
  cases L.drop k1 with
  | nil => simp [Wz]
  | cons x cs =>
   simp only [Wz]
   split
   ·have:=Qo Yq cs
    simp [take_tw]
    omega
   ·simp
 rw [List.length_drop] at hlen
 simp only
 rw [Uq (by omega) (by omega) (by simp; omega),Option.bind_some,ext_sb,Int.toNat_natCast,Int.toNat_natCast,Nat.add_sub_cancel_left,hlen.2]
theorem digits_eq {L : List UInt8} (hL : L.length≤2000) {k : Nat} (hk : k≤L.length) {ns : List ByteArray} {c : List T189} {b : Bool} :
  g171 ⟨sb L,(k : Int),ns,c,b⟩ = some (sb ((L.drop k).takeWhile Zh),⟨sb L,((k + ((L.drop k).takeWhile Zh).length : Nat) : Int),ns,c,b⟩):=by
 unfold g171
 have key:=scan_tw (L:=L) (q:=Zh) (fin:=fun a => a) (body:=g171_L1 ⟨sb L,(k : Int),ns,c,b⟩) (by omega) (k0:=0) (fun k x cs hk hd => by
  obtain ⟨h1,h2,h3⟩:=Xi hd
  rw [g171_L1,if_pos (by simp [Zo]; omega)]
  simp only
  rw [h3,Option.bind_some,g112_eq,Option.bind_some,Option.bind_some,Xd (by omega)]) (by
  rw [g171_L1,if_neg (by simp [Zo])]
  rfl) L.length k (by omega) hk (by omega)
 rw [key,Option.bind_some,g171_j1]
 have:=Qo Zh (L.drop k)
 rw [List.length_drop] at this
 simp only
 rw [Uq (by omega) (by omega) (by simp; omega),Option.bind_some,ext_sb,Int.toNat_natCast,Int.toNat_natCast,Nat.add_sub_cancel_left,take_tw]
theorem parts_eq {L : List UInt8} (hL : L.length≤2000) : ∃ ps ok,g128 (sb L) = some (ps,ok)∧(ok = true→ps = (lx L).map sb∧[0] ∉ lx L)∧(ok = false→[0] ∈ lx L):=by
 have isz : (sb L).size = L.length:=sb_size
 obtain ⟨r,e,hr⟩:=Qv (body:=g128_L1 (sb L)) (fun st => L.length - st.1.toNat)
  (fun st => ∃ (k : Nat) (ds : List (List UInt8)),st = ((k : Int),ds.map sb)∧k≤L.length∧ds.length≤k∧((lx L = ds ++ lx (L.drop k)∧[0] ∉ ds)∨([0] ∈ lx L∧(L.drop k).head? = some 47)))
  (fun r => match r with
   | .inl l => l = (lx L).map sb∧[0] ∉ lx L
   | .inr (l,ok) => ok = false∧[0] ∈ lx L) (fun st ⟨k,ds,e,a1,a2,a34⟩ => by
   subst e
   rw [g128_L1]
   rcases a34 with ⟨a3,a4⟩ | ⟨a3,a4⟩
   case inr =>
    right
    cases hd : L.drop k with
    | nil => rw [hd] at a4; cases a4
    | cons c cs =>
     rw [hd] at a4
     obtain ⟨b1,b2,b3⟩:=Xi hd
     have hc : c = 47:=by simpa using a4
     subst hc
     have g1 : g142 ((47 : UInt8).toNat : Int) = some false:=by rw [g142_eq]; rfl
     have g2 : g143 ((47 : UInt8).toNat : Int) = some false:=by rw [Hq]; rfl
     rw [if_pos (by simp [Zo]; omega),b3,Option.bind_some,if_neg (by decide),g1,Option.bind_some,if_neg (by decide),g2,Option.bind_some,if_neg (by decide),if_neg (by decide)]
     exact ⟨_,rfl,rfl,a3⟩
   cases hd : L.drop k with
   | nil =>
    right
    have:=drop_nil hd
    rw [if_neg (by simp [Zo]; omega)]
    rw [hd,lx_nil,List.append_nil] at a3
    refine ⟨_,rfl,?_⟩
    rw [a3]
    exact ⟨rfl,a4⟩
   | cons c cs =>
    obtain ⟨b1,b2,b3⟩:=Xi hd
    have part : ∀ (j : Nat) (tok : List UInt8),tok = (L.drop k).take j→1≤j→k + j≤L.length→tok ≠ [0]→(lx (L.drop k) = tok :: lx (L.drop (k + j))∨(lx (L.drop k) = [[0]]∧(L.drop (k + j)).head? = some 47)) →
      (∃ t,g128_j2 (k : Int) (sb L) (ds.map sb) ((k + j : Nat) : Int) = some (.inl t)∧(∃ (k' : Nat) (ds' : List (List UInt8)),t = ((k' : Int),ds'.map sb)∧k'≤L.length∧ds'.length≤k'∧((lx L = ds' ++ lx (L.drop k')∧[0] ∉ ds')∨([0] ∈ lx L∧(L.drop k').head? = some 47)))∧L.length - t.1.toNat < L.length - k):=fun j tok ht h1 h2 h3 h4 => by
     unfold g128_j2
     rw [Uq (by omega) (by omega) (by simp; omega),Option.bind_some,Uy (by simp; omega) (by simp; omega),Option.bind_some,ext_sb,Int.toNat_natCast,Int.toNat_natCast,Nat.add_sub_cancel_left,← ht]
     refine ⟨_,rfl,⟨k + j,ds ++ [tok],by simp,h2,by simp; omega,?_⟩,?_⟩
     ·rcases h4 with h4 | ⟨h4,h5⟩
      ·left
       exact ⟨by rw [a3,h4]; simp,by simp [a4,Ne.symm h3]⟩
      ·right
       exact ⟨by rw [a3,h4]; simp,h5⟩
     ·simp only [Int.toNat_natCast]
      omega
    rw [if_pos (by simp [Zo]; omega),b3,Option.bind_some]
    have h32 : Yx (c.toNat : Int) 32 = decide (c = 32):=u8_eq (b:=32)
    rw [h32]
    by_cases hb : c = 32
    ·left
     subst hb
     rw [if_pos (by simp),Xd (by omega)]
     refine ⟨_,rfl,⟨k + 1,ds,rfl,by omega,by omega,.inl ⟨?_,a4⟩⟩,by simp only [Int.toNat_natCast]; omega⟩
     rw [a3,hd,lx_blank,b2]
    ·rw [if_neg (by simp [hb]),g142_eq,Option.bind_some,Xd (by omega)]
     have scan : ∀ (q : UInt8→Bool) (body : Int→Option (Int ⊕ Int)) (k : Nat),k≤L.length→(∀ (k : Nat) c cs,L.drop k = c :: cs→body (k : Int) = if q c = true then some (.inl ((k + 1 : Nat) : Int)) else some (.inr (k : Int)))→body (L.length : Int) = some (.inr (L.length : Int)) →
       loopO body (k : Int) = some ((k + ((L.drop k).takeWhile q).length : Nat) : Int):=fun q body k hk h1 h2 => scan_tw (L:=L) (q:=q) (fin:=fun a => a) (body:=body) (by omega) (k0:=0) (fun k c cs _ hd => h1 k c cs hd) h2 L.length k (by omega) hk (by omega)
     cases hl : Ju c with
     | true =>
      left
      rw [if_pos rfl,scan Yq _ (k + 1) (by omega) (fun k c cs hd => by
       obtain ⟨h1,h2,h3⟩:=Xi hd
       rw [g128_L2,if_pos (by simp [Zo]; omega),h3]
       simp only [Option.bind_some]
       rw [g142_eq,Hq,Xd (by omega)]
       simp only [Option.bind_some]
       unfold Yq
       cases Ju c <;> simp) (by rw [g128_L2,if_neg (by simp [Zo])]; rfl),Option.bind_some,b2]
      unfold g128_j3
      have hlen:=Qo Yq cs
      have hcl : cs.length = L.length - (k + 1):=by rw [← b2,List.length_drop]
      rw [Uq (by omega) (by omega) (by simp; omega),Option.bind_some]
      have hdr : L.drop (k + 1 + (cs.takeWhile Yq).length) = cs.dropWhile Yq:=by rw [← List.drop_drop,b2,Kh]
      have hw : (L.drop k).take (1 + (cs.takeWhile Yq).length) = c :: cs.takeWhile Yq:=by
       rw [hd,Nat.add_comm 1,List.take_succ_cons,take_tw]
      have hext : (sb L).extract (k : Int).toNat ((k + 1 + (cs.takeWhile Yq).length : Nat) : Int).toNat = sb (c :: cs.takeWhile Yq):=by
       rw [ext_sb,Int.toNat_natCast,Int.toNat_natCast,show k + 1 + (cs.takeWhile Yq).length - k = 1 + (cs.takeWhile Yq).length by omega,hw]
      rw [hext,isW_of]
      have hpar : (if Zo ((k + 1 + (cs.takeWhile Yq).length : Nat) : Int) ((sb L).size : Int) = true then (Wg (sb L) ((k + 1 + (cs.takeWhile Yq).length : Nat) : Int)).bind fun e2425 => some (Yx e2425 40) else some false) = some (decide ((cs.dropWhile Yq).head? = some 40)):=by
       cases hdw : cs.dropWhile Yq with
       | nil =>
        rw [hdw] at hdr
        have:=drop_nil hdr
        rw [if_neg (by simp [Zo]; omega)]
        simp
       | cons y ys =>
        rw [hdw] at hdr
        obtain ⟨h1,h2,h3⟩:=Xi hdr
        rw [if_pos (by simp [Zo]; omega),h3,Option.bind_some]
        have : Yx (y.toNat : Int) 40 = decide (y = 40):=u8_eq (b:=40)
        rw [this]
        simp
      rw [hpar,Option.bind_some]
      by_cases hcall : isW (c :: cs.takeWhile Yq) = true∧(cs.dropWhile Yq).head? = some 40
      ·rw [if_pos (by simp [hcall.1,hcall.2]),Xd (by omega)]
       cases hdw : cs.dropWhile Yq with
       | nil => rw [hdw] at hcall; simp at hcall
       | cons y ys =>
        have hy : y = 40:=by have:=hcall.2; rw [hdw] at this; simpa using this
        subst hy
        rw [hdw] at hdr
        obtain ⟨h1,h2,h3⟩:=Xi hdr
        have:=part (1 + (cs.takeWhile Yq).length + 1) ((c :: cs.takeWhile Yq) ++ [40]) (by
         rw [List.take_add,hw,List.drop_drop,show k + (1 + (cs.takeWhile Yq).length) = k + 1 + (cs.takeWhile Yq).length by omega,hdr]
         rfl) (by omega) (by omega) (by simp) (by
         left
         rw [hd,lx_call hl hcall.1 hcall.2,hdw,show k + (1 + (cs.takeWhile Yq).length + 1) = k + 1 + (cs.takeWhile Yq).length + 1 by omega,h2]
         rfl)
        rw [show k + (1 + (cs.takeWhile Yq).length + 1) = k + 1 + (cs.takeWhile Yq).length + 1 by omega] at this
        simpa using this
      ·rw [if_neg (by simpa [Bool.and_eq_true,and_comm] using hcall)]
       have:=part (1 + (cs.takeWhile Yq).length) (c :: cs.takeWhile Yq) hw.symm (by omega) (by omega) (by
        intro he
        injection he with h1 h2
        subst h1
        revert hl
        decide) (by
        left
        rw [hd,lx_word hl hcall,show k + (1 + (cs.takeWhile Yq).length) = k + 1 + (cs.takeWhile Yq).length by omega,hdr])
       rw [show k + (1 + (cs.takeWhile Yq).length) = k + 1 + (cs.takeWhile Yq).length by omega] at this
       simpa using this
     | false =>
      rw [if_neg (by simp),Hq,Option.bind_some]
      cases hdg : Zh c with
      | true =>
       rw [if_pos rfl,scan Zh _ (k + 1) (by omega) (fun k c cs hd => by
        obtain ⟨h1,h2,h3⟩:=Xi hd
        rw [g128_L4,if_pos (by simp [Zo]; omega),h3]
        simp only [Option.bind_some]
        rw [Hq,Xd (by omega)]
        rfl) (by rw [g128_L4,if_neg (by simp [Zo])]; rfl),Option.bind_some,b2]
       unfold g128_j4
       have hlen:=Qo Zh cs
       have hcl : cs.length = L.length - (k + 1):=by rw [← b2,List.length_drop]
       have hdr : L.drop (k + 1 + (cs.takeWhile Zh).length) = cs.dropWhile Zh:=by rw [← List.drop_drop,b2,Kh]
       have hw : (L.drop k).take (1 + (cs.takeWhile Zh).length) = c :: cs.takeWhile Zh:=by
        rw [hd,Nat.add_comm 1,List.take_succ_cons,take_tw]
       rw [Xd (by omega)]
       have hne : c :: cs.takeWhile Zh ≠ [0]:=by
        intro he
        injection he with h1 h2
        subst h1
        revert hdg
        decide
       cases hdw : cs.dropWhile Zh with
       | nil =>
        left
        rw [hdw] at hdr
        have:=drop_nil hdr
        rw [if_neg (by simp [Zo]; omega),Option.bind_some,if_neg (by simp),Option.bind_some,if_neg (by simp)]
        have:=part (1 + (cs.takeWhile Zh).length) (c :: cs.takeWhile Zh) hw.symm (by omega) (by omega) hne (by
         left
         rw [hd,lx_num hdg (by rw [hdw]; simp),show k + (1 + (cs.takeWhile Zh).length) = k + 1 + (cs.takeWhile Zh).length by omega,hdr,hdw])
        rw [show k + (1 + (cs.takeWhile Zh).length) = k + 1 + (cs.takeWhile Zh).length by omega] at this
        simpa using this
       | cons y ys =>
        rw [hdw] at hdr
        obtain ⟨h1,h2,h3⟩:=Xi hdr
        by_cases hy : y = 47
        ·subst hy
         have hh : (cs.dropWhile Zh).head? = some 47:=by rw [hdw]; rfl
         have dig1 : (if (decide (k + 1 + (cs.takeWhile Zh).length + 1 < L.length)) = true then (Wg (sb L) ((k + 1 + (cs.takeWhile Zh).length + 1 : Nat) : Int)).bind fun e2514 => (g143 e2514).bind fun r2516 => some r2516 else some false) = some (ys.head?.any Zh):=by
          cases hys : ys with
          | nil =>
           rw [hys] at h2
           have:=drop_nil h2
           rw [if_neg (by simp; omega)]
           rfl
          | cons z zs =>
           rw [hys] at h2
           obtain ⟨i1,i2,i3⟩:=Xi h2
           rw [if_pos (by simp; omega),i3,Option.bind_some,Hq]
           rfl
         have first : (if Zo ((k + 1 + (cs.takeWhile Zh).length + 1 : Nat) : Int) ((sb L).size : Int) = true then (Wg (sb L) ((k + 1 + (cs.takeWhile Zh).length : Nat) : Int)).bind fun e2511 => some (Yx e2511 47) else some false) = some (decide (k + 1 + (cs.takeWhile Zh).length + 1 < L.length)):=by
          by_cases hlt : k + 1 + (cs.takeWhile Zh).length + 1 < L.length
          ·rw [if_pos (by simp [Zo]; omega),h3,Option.bind_some]
           simp [hlt]
           decide
          ·rw [if_neg (by simp [Zo]; omega)]
           simp [hlt]
         left
         rw [first,Option.bind_some,dig1,Option.bind_some]
         cases hany : ys.head?.any Zh with
         | false =>
          rw [if_neg (by simp)]
          have:=part (1 + (cs.takeWhile Zh).length) (c :: cs.takeWhile Zh) hw.symm (by omega) (by omega) hne (by
           right
           rw [hd,lx_fbad hdg hh (by rw [hdw]; exact hany),show k + (1 + (cs.takeWhile Zh).length) = k + 1 + (cs.takeWhile Zh).length by omega,hdr]
           exact ⟨rfl,rfl⟩)
          rw [show k + (1 + (cs.takeWhile Zh).length) = k + 1 + (cs.takeWhile Zh).length by omega] at this
          simpa using this
         | true =>
          rw [if_pos rfl,scan Zh _ (k + 1 + (cs.takeWhile Zh).length + 1) (by omega) (fun k c cs hd => by
           obtain ⟨h1,h2,h3⟩:=Xi hd
           rw [g128_L3,if_pos (by simp [Zo]; omega),h3]
           simp only [Option.bind_some]
           rw [Hq,Xd (by omega)]
           rfl) (by rw [g128_L3,if_neg (by simp [Zo])]; rfl),Option.bind_some,h2]
          have hyl : ys.length = L.length - (k + 1 + (cs.takeWhile Zh).length + 1):=by rw [← h2,List.length_drop]
          have hyt:=Qo Zh ys
          have:=part (1 + (cs.takeWhile Zh).length + (1 + (ys.takeWhile Zh).length)) ((c :: cs.takeWhile Zh) ++ 47 :: ys.takeWhile Zh) (by
           rw [List.take_add,hw,List.drop_drop,show k + (1 + (cs.takeWhile Zh).length) = k + 1 + (cs.takeWhile Zh).length by omega,hdr,Nat.add_comm 1 (ys.takeWhile Zh).length,List.take_succ_cons,take_tw]) (by omega) (by omega) (by simp) (by
           left
           rw [hd,lx_frac hdg hh (by rw [hdw]; exact hany),hdw]
           simp only [List.tail_cons]
           rw [show k + (1 + (cs.takeWhile Zh).length + (1 + (ys.takeWhile Zh).length)) = k + 1 + (cs.takeWhile Zh).length + 1 + (ys.takeWhile Zh).length by omega,← List.drop_drop (l:=L) (i:=(ys.takeWhile Zh).length),h2,Kh])
          rw [show k + (1 + (cs.takeWhile Zh).length + (1 + (ys.takeWhile Zh).length)) = k + 1 + (cs.takeWhile Zh).length + 1 + (ys.takeWhile Zh).length by omega] at this
          simpa using this
        ·left
         have e1 : Yx (y.toNat : Int) 47 = false:=by
          have : Yx (y.toNat : Int) 47 = decide (y = 47):=u8_eq (b:=47)
          rw [this]; simpa using hy
         have first : (if Zo ((k + 1 + (cs.takeWhile Zh).length + 1 : Nat) : Int) ((sb L).size : Int) = true then (Wg (sb L) ((k + 1 + (cs.takeWhile Zh).length : Nat) : Int)).bind fun e2511 => some (Yx e2511 47) else some false) = some false:=by
          rw [h3,Option.bind_some,e1]
          split <;> rfl
         rw [first,Option.bind_some,if_neg (by simp),Option.bind_some,if_neg (by simp)]
         have:=part (1 + (cs.takeWhile Zh).length) (c :: cs.takeWhile Zh) hw.symm (by omega) (by omega) hne (by
          left
          rw [hd,lx_num hdg (by rw [hdw]; simpa using hy),show k + (1 + (cs.takeWhile Zh).length) = k + 1 + (cs.takeWhile Zh).length by omega,hdr,hdw])
         rw [show k + (1 + (cs.takeWhile Zh).length) = k + 1 + (cs.takeWhile Zh).length by omega] at this
         simpa using this
      | false =>
       rw [if_neg (by simp)]
       have hop : (((((((Yx (c.toNat : Int) 61 || Yx (c.toNat : Int) 60) || Yx (c.toNat : Int) 43) || Yx (c.toNat : Int) 45) || Yx (c.toNat : Int) 42) || Yx (c.toNat : Int) 40) || Yx (c.toNat : Int) 41) || Yx (c.toNat : Int) 44) = isOp c:=by
        unfold isOp
        have q : ∀ b : UInt8,Yx (c.toNat : Int) (b.toNat : Int) = decide (c = b):=fun b => u8_eq
        rw [← q 61,← q 60,← q 43,← q 45,← q 42,← q 40,← q 41,← q 44]
        rfl
       rw [hop]
       by_cases ho : isOp c = true
       ·left
        rw [if_pos ho]
        have:=part 1 [c] (by rw [hd]; rfl) (by omega) (by omega) (by intro he; injection he with h1 h2; subst h1; revert ho; decide) (by left; rw [hd,lx_op ho,b2])
        simpa using this
       ·right
        rw [if_neg ho]
        have ho' : isOp c = false:=by simpa using ho
        rw [hd,lx_bad hb hl hdg ho'] at a3
        exact ⟨_,rfl,rfl,by rw [a3]; simp⟩) (s:=(0,[])) ⟨0,[],rfl,by omega,by simp,.inl ⟨by simp,by simp⟩⟩
 unfold g128
 rw [e,Option.bind_some]
 cases r with
 | inl l =>
  obtain ⟨r1,r2⟩:=hr
  exact ⟨_,true,rfl,fun _ => ⟨r1,r2⟩,fun h => nomatch h⟩
 | inr p =>
  obtain ⟨l,ok⟩:=p
  obtain ⟨r1,r2⟩:=hr
  subst r1
  refine ⟨l,false,rfl,?_,fun _ => r2⟩
  intro h
  cases h
end Go.Proofs.YtloepppmjppddaaGreatDoor
namespace Go.Proofs.YtloepppmjppddaaGreatDoor
open Go.VL
set_option linter.unusedSimpArgs false
set_option linter.unusedVariables false
set_option maxHeartbeats 4000000
theorem decFrom_dig : ∀ (l : List UInt8) (acc : Nat),l.all Zh = true→Lib.decFrom acc l = some (Kn acc l)
 | [],acc,_ => rfl
 | c :: l,acc,h => by
  simp only [List.all_cons,Bool.and_eq_true] at h
  have hd : 48≤c.toNat∧c.toNat≤57:=by simpa [Zh] using h.1
  simp only [Lib.decFrom,Lib.digitVal,if_pos hd]
  exact decFrom_dig l _ h.2
theorem atoi_dig {d : UInt8} {ds : List UInt8} (h : (d :: ds).all Zh = true) : Lib.atoi (d :: ds) = some ((Kn 0 (d :: ds) : Nat) : Int):=by
 have hd : 48≤d.toNat∧d.toNat≤57:=by
  simp only [List.all_cons,Bool.and_eq_true] at h
  simpa [Zh] using h.1
 have h1 : (d == 45) = false:=by
  rw [beq_eq_false_iff_ne]; intro e; subst e; revert hd; decide
 have h2 : (d == 43) = false:=by
  rw [beq_eq_false_iff_ne]; intro e; subst e; revert hd; decide
 unfold Lib.atoi Lib.decNat
 simp only [h1,h2,Bool.false_eq_true,if_false,List.isEmpty_cons,decFrom_dig _ _ h,Option.map_some]
theorem tw_all {α : Type} (q : α→Bool) : ∀ l : List α,(l.takeWhile q).all q = true
 | [] => rfl
 | x :: l => by
  rw [List.takeWhile_cons]
  split
  ·rename_i h; simp [h]
  ·rfl
def nOk (ds : List UInt8) : Bool:=Kr ds && decide (ds.length≤6)
theorem digs_bad {d : UInt8} {ds : List UInt8} (h : (d :: ds).all Zh = true) :
  (if Zo 6 ((sb (d :: ds)).size : Int) = true then some true else (if Zo 1 ((sb (d :: ds)).size : Int) = true then (Wg (sb (d :: ds)) 0).bind fun e3 => some (Yx e3 48) else some false).bind fun w5 => some w5) = some (!nOk (d :: ds)):=by
 have hi : Wg (sb (d :: ds)) 0 = some (d.toNat : Int):=Ja (i:=0) (by simp)
 have e : Yx (d.toNat : Int) 48 = decide (d = 48):=u8_eq (b:=48)
 rw [hi,sb_size]
 simp only [Option.bind_some,e]
 unfold nOk Kr
 rw [h]
 by_cases h1 : 6 < (d :: ds).length
 ·rw [if_pos (by simp [Zo] at h1 ⊢; omega)]
  have : decide ((d :: ds).length≤6) = false:=by simp at h1 ⊢; omega
  rw [this]
  simp
 ·rw [if_neg (by simp [Zo] at h1 ⊢; omega)]
  have : decide ((d :: ds).length≤6) = true:=by simp at h1 ⊢; omega
  rw [this]
  by_cases h2 : 1 < (d :: ds).length
  ·rw [if_pos (by simp [Zo] at h2 ⊢; omega)]
   have : decide (1 < (d :: ds).length) = true:=by simpa using h2
   rw [this]
   by_cases hd : d = 48 <;> simp [hd]
  ·rw [if_neg (by simp [Zo] at h2 ⊢; simp [h2])]
   have : decide (1 < (d :: ds).length) = false:=by simpa using h2
   rw [this]
   simp
def Hg (es : List UInt8) : Int :=
 if es = [50] then 2 else if es = [52] then 4 else if es = [56] then 8 else if es = [49,54] then 16 else if es = [51,50] then 32 else if es = [54,52] then 64
 else if es = [49,50,56] then 128 else if es = [50,53,54] then 256 else if es = [53,49,50] then 512 else if es = [49,48,50,52] then 1024 else 0
def pows : List Int:=[2,4,8,16,32,64,128,256,512,1024]
def dgs (k : Int) : List UInt8 :=
 if k = 2 then [50] else if k = 4 then [52] else if k = 8 then [56] else if k = 16 then [49,54] else if k = 32 then [51,50] else if k = 64 then [54,52]
 else if k = 128 then [49,50,56] else if k = 256 then [50,53,54] else if k = 512 then [53,49,50] else [49,48,50,52]
theorem dgs_itoa : ∀ k ∈ pows,Lib.itoa k = dgs k:=by
 have h : ∀ k ∈ pows,Kr (dgs k) = true∧((Kn 0 (dgs k) : Nat) : Int) = k:=by decide
 intro k hk
 obtain ⟨h1,h2⟩:=h k hk
 have:=num_itoa h1
 rwa [h2] at this
theorem undr_cases (es : List UInt8) : (Hg es ∈ pows∧es = dgs (Hg es))∨(Hg es = 0∧∀ k ∈ pows,es ≠ dgs k):=by
 have c : ∀ k ∈ pows,(Hg (dgs k) = k):=by decide
 by_cases h : ∃ k ∈ pows,es = dgs k
 ·obtain ⟨k,h1,h2⟩:=h
  left
  rw [h2,c k h1]
  exact ⟨h1,rfl⟩
 ·right
  have hn : ∀ k ∈ pows,es ≠ dgs k:=fun k hk he => h ⟨k,hk,he⟩
  refine ⟨?_,hn⟩
  have q : ∀ k,k ∈ pows→es ≠ dgs k:=hn
  have e : Hg es = if es = dgs 2 then 2 else if es = dgs 4 then 4 else if es = dgs 8 then 8 else if es = dgs 16 then 16 else if es = dgs 32 then 32 else if es = dgs 64 then 64 else if es = dgs 128 then 128 else if es = dgs 256 then 256 else if es = dgs 512 then 512 else if es = dgs 1024 then 1024 else 0:=rfl
  rw [e]
  rw [if_neg (q 2 (by decide)),if_neg (q 4 (by decide)),if_neg (q 8 (by decide)),if_neg (q 16 (by decide)),if_neg (q 32 (by decide)),if_neg (q 64 (by decide)),if_neg (q 128 (by decide)),if_neg (q 256 (by decide)),if_neg (q 512 (by decide)),if_neg (q 1024 (by decide))]
theorem itoa2 : ∀ k ∈ pows,g172 k = some (sb (dgs k)):=by
 intro k hk
 have : -9223372036854775808≤k∧k≤9223372036854775807:=by
  have : ∀ k ∈ pows,-9223372036854775808≤k∧k≤9223372036854775807:=by decide
  exact this k hk
 show itoaO k = _
 unfold itoaO
 rw [if_pos this,itoaB_sb,dgs_itoa k hk]
theorem chain_eq {L : ByteArray} {at_ : Int} {ns : List ByteArray} {c : List T189} {b : Bool} {r1 : ByteArray × T139} {es : List UInt8} :
  ((g172 2).bind fun r313 => if Jb r313 (sb es,(⟨L,at_,ns,c,b⟩ : T139)).1 = true then g165_j3 (sb es,⟨L,at_,ns,c,b⟩) r1 2 else g165_j3 (sb es,⟨L,at_,ns,c,b⟩) r1 0) = g165_j2 (sb es,⟨L,at_,ns,c,b⟩) r1 (Hg es):=by
 have st : ∀ {α : Type} (k : Int) (hk : k ∈ pows) (A B : Option α),((g172 k).bind fun r => if Jb r (sb es) = true then A else B) = if es = dgs k then A else B:=fun k hk A B => by
  rw [itoa2 k hk,Option.bind_some,Kx]
  by_cases h : es = dgs k
  ·rw [if_pos (by simp [h]),if_pos h]
  ·rw [if_neg (by simpa using fun e => h e.symm),if_neg h]
 simp only
 rw [st 2 (by decide)]
 have e12 : ∀ u,g165_j12 (sb es,⟨L,at_,ns,c,b⟩) r1 u = g165_j2 (sb es,⟨L,at_,ns,c,b⟩) r1 u:=fun u => rfl
 have e11 : ∀ u,g165_j11 (sb es,⟨L,at_,ns,c,b⟩) r1 u = if es = dgs 1024 then g165_j12 (sb es,⟨L,at_,ns,c,b⟩) r1 1024 else g165_j12 (sb es,⟨L,at_,ns,c,b⟩) r1 u:=fun u => st 1024 (by decide) _ _
 have e10 : ∀ u,g165_j10 (sb es,⟨L,at_,ns,c,b⟩) r1 u = if es = dgs 512 then g165_j11 (sb es,⟨L,at_,ns,c,b⟩) r1 512 else g165_j11 (sb es,⟨L,at_,ns,c,b⟩) r1 u:=fun u => st 512 (by decide) _ _
 have e9 : ∀ u,g165_j9 (sb es,⟨L,at_,ns,c,b⟩) r1 u = if es = dgs 256 then g165_j10 (sb es,⟨L,at_,ns,c,b⟩) r1 256 else g165_j10 (sb es,⟨L,at_,ns,c,b⟩) r1 u:=fun u => st 256 (by decide) _ _
 have e8 : ∀ u,g165_j8 (sb es,⟨L,at_,ns,c,b⟩) r1 u = if es = dgs 128 then g165_j9 (sb es,⟨L,at_,ns,c,b⟩) r1 128 else g165_j9 (sb es,⟨L,at_,ns,c,b⟩) r1 u:=fun u => st 128 (by decide) _ _
 have e7 : ∀ u,g165_j7 (sb es,⟨L,at_,ns,c,b⟩) r1 u = if es = dgs 64 then g165_j8 (sb es,⟨L,at_,ns,c,b⟩) r1 64 else g165_j8 (sb es,⟨L,at_,ns,c,b⟩) r1 u:=fun u => st 64 (by decide) _ _
 have e6 : ∀ u,g165_j6 (sb es,⟨L,at_,ns,c,b⟩) r1 u = if es = dgs 32 then g165_j7 (sb es,⟨L,at_,ns,c,b⟩) r1 32 else g165_j7 (sb es,⟨L,at_,ns,c,b⟩) r1 u:=fun u => st 32 (by decide) _ _
 have e5 : ∀ u,g165_j5 (sb es,⟨L,at_,ns,c,b⟩) r1 u = if es = dgs 16 then g165_j6 (sb es,⟨L,at_,ns,c,b⟩) r1 16 else g165_j6 (sb es,⟨L,at_,ns,c,b⟩) r1 u:=fun u => st 16 (by decide) _ _
 have e4 : ∀ u,g165_j4 (sb es,⟨L,at_,ns,c,b⟩) r1 u = if es = dgs 8 then g165_j5 (sb es,⟨L,at_,ns,c,b⟩) r1 8 else g165_j5 (sb es,⟨L,at_,ns,c,b⟩) r1 u:=fun u => st 8 (by decide) _ _
 have e3 : ∀ u,g165_j3 (sb es,⟨L,at_,ns,c,b⟩) r1 u = if es = dgs 4 then g165_j4 (sb es,⟨L,at_,ns,c,b⟩) r1 4 else g165_j4 (sb es,⟨L,at_,ns,c,b⟩) r1 u:=fun u => st 4 (by decide) _ _
 have ne : ∀ a ∈ pows,∀ b ∈ pows,a ≠ b→dgs a ≠ dgs b:=by decide
 rcases undr_cases es with ⟨h1,h2⟩ | ⟨h1,h2⟩
 ·generalize Hg es = u at h1 h2
  subst h2
  simp only [pows,List.mem_cons,List.not_mem_nil,or_false] at h1
  rcases h1 with rfl | rfl | rfl | rfl | rfl | rfl | rfl | rfl | rfl | rfl <;>
   simp only [e3,e4,e5,e6,e7,e8,e9,e10,e11,e12] <;>
   repeat (first | rw [if_pos trivial] | rw [if_pos rfl] | rw [if_neg (ne _ (by decide) _ (by decide) (by decide))])
 ·rw [h1]
  simp only [e3,e4,e5,e6,e7,e8,e9,e10,e11,e12]
  rw [if_neg (h2 2 (by decide)),if_neg (h2 4 (by decide)),if_neg (h2 8 (by decide)),if_neg (h2 16 (by decide)),if_neg (h2 32 (by decide)),if_neg (h2 64 (by decide)),if_neg (h2 128 (by decide)),if_neg (h2 256 (by decide)),if_neg (h2 512 (by decide)),if_neg (h2 1024 (by decide))]
theorem dig47 {l : List UInt8} (h : l.all Zh = true) : (47 : UInt8) ∉ l:=fun hm => by
 have:=List.all_eq_true.1 h _ hm
 revert this
 decide
def push (v : F32) : T189:=⟨1,0,v⟩
def numV (ds : List UInt8) : F32:=Ge .f32 (Kn 0 ds : Nat)
theorem numR_dig {ds : List UInt8} (h : nOk ds = true) : numR ds = (((Kn 0 ds : Nat) : Int),true):=by
 unfold nOk at h
 simp only [Bool.and_eq_true,decide_eq_true_eq] at h
 unfold numR
 rw [h.1,if_pos (by simp; omega)]
theorem numR_bad {ds : List UInt8} (h : nOk ds = false) (r : Int × Bool) (hr : numR ds = r) (n : Nat) (hn : n = ds.length) : (!r.2 || Zo 6 (n : Int)) = true:=by
 subst hr hn
 unfold nOk at h
 unfold numR
 by_cases h1 : Kr ds = true
 ·rw [h1] at h
  simp at h
  simp [Zo]
  right; omega
 ·have : Kr ds = false:=by simpa using h1
  rw [this]
  simp
theorem num_impl {L : List UInt8} (hL : L.length≤2000) {k : Nat} {ns : List ByteArray} {c : List T189} (hc : c.length≤2000) {d : UInt8} {cs : List UInt8} (hd : L.drop k = d :: cs) (hg : Zh d = true) :
  g165 ⟨sb L,(k : Int),ns,c,false⟩ =
   if nOk (d :: cs.takeWhile Zh) = true then
    (if (cs.dropWhile Zh).head? = some 47 then
     (if Hg ((cs.dropWhile Zh).tail.takeWhile Zh) = 0 then some ⟨sb L,((k + 1 + (cs.takeWhile Zh).length + 1 + ((cs.dropWhile Zh).tail.takeWhile Zh).length : Nat) : Int),ns,c,true⟩
     else some ⟨sb L,((k + 1 + (cs.takeWhile Zh).length + 1 + ((cs.dropWhile Zh).tail.takeWhile Zh).length : Nat) : Int),ns,c ++ [push (quoF .f32 (numV (d :: cs.takeWhile Zh)) (Ge .f32 (Hg ((cs.dropWhile Zh).tail.takeWhile Zh))))],false⟩)
    else some ⟨sb L,((k + 1 + (cs.takeWhile Zh).length : Nat) : Int),ns,c ++ [push (numV (d :: cs.takeWhile Zh))],false⟩)
   else some ⟨sb L,((k + 1 + (cs.takeWhile Zh).length : Nat) : Int),ns,c,true⟩:=by
 obtain ⟨b1,b2,b3⟩:=Xi hd
 have htw : (L.drop k).takeWhile Zh = d :: cs.takeWhile Zh:=by rw [hd,List.takeWhile_cons,if_pos hg]
 have hall : (d :: cs.takeWhile Zh).all Zh = true:=by rw [← htw]; exact tw_all _ _
 have hlen:=Qo Zh cs
 have hcl : cs.length = L.length - (k + 1):=by rw [← b2,List.length_drop]
 have hdr : L.drop (k + 1 + (cs.takeWhile Zh).length) = cs.dropWhile Zh:=by rw [← List.drop_drop,b2,Kh]
 have hpos : k + (d :: cs.takeWhile Zh).length = k + 1 + (cs.takeWhile Zh).length:=by simp; omega
 unfold g165
 rw [digits_eq hL (by omega),Option.bind_some,htw,hpos]
 simp only
 rw [digs_bad hall,Option.bind_some]
 cases hn : nOk (d :: cs.takeWhile Zh) with
 | false => rw [if_pos (by simp),if_neg (by simp)]
 | true =>
  rw [if_neg (by simp),if_pos rfl]
  have hn2:=hn
  unfold nOk at hn2
  simp only [Bool.and_eq_true,decide_eq_true_eq] at hn2
  have hat : g173 (sb (d :: cs.takeWhile Zh)) = some (((Kn 0 (d :: cs.takeWhile Zh) : Nat) : Int),false):=by
   show atoiO _ = _
   unfold atoiO
   rw [if_pos (by simp at hn2 ⊢; omega),sb_data,atoi_dig hall]
   rfl
  have hput : ∀ (at_ : Int) (v : F32),g79 (⟨sb L,at_,ns,c,false⟩ : T139) 1 0 v = some ⟨sb L,at_,ns,c ++ [push v],false⟩:=fun at_ v => by
   unfold g79
   rw [Uy (by simp; omega) (by simp; omega)]
   rfl
  cases hdw : cs.dropWhile Zh with
  | nil =>
   rw [hdw] at hdr
   have:=drop_nil hdr
   rw [if_neg (by simp [Zo]; omega),Option.bind_some,if_neg (by simp),if_neg (by simp)]
   unfold g165_j1
   simp only
   rw [hat,Option.bind_some,hput]
   simp only [Option.bind_some]
   rw [quo_one_int]
   rfl
  | cons y ys =>
   rw [hdw] at hdr
   obtain ⟨h1,h2,h3⟩:=Xi hdr
   have e1 : Yx (y.toNat : Int) 47 = decide (y = 47):=u8_eq (b:=47)
   rw [if_pos (by simp [Zo]; omega),h3,Option.bind_some,e1,Option.bind_some]
   by_cases hy : y = 47
   ·subst hy
    rw [if_pos (by simp),if_pos (show (47 :: ys).head? = some 47 from rfl),Xd (by omega),digits_eq hL (by omega),Option.bind_some,h2]
    simp only [List.tail_cons]
    rw [chain_eq]
    unfold g165_j2
    simp only
    by_cases hu : Hg (ys.takeWhile Zh) = 0
    ·rw [if_pos (by simp [Yx,hu])]
     simp only [hu,if_true]
    ·rw [if_neg (by simp [Yx,hu])]
     simp only [hu,if_false]
     unfold g165_j1
     simp only
     rw [hat,Option.bind_some,hput]
     rfl
   ·rw [if_neg (by simpa using hy),if_neg (by simpa using hy)]
    unfold g165_j1
    simp only
    rw [hat,Option.bind_some,hput]
    simp only [Option.bind_some]
    rw [quo_one_int]
    rfl
theorem num_spec {d : UInt8} {ds : List UInt8} (h : (d :: ds).all Zh = true) (hl : (d :: ds).length≤2000) : g180 (sb (d :: ds)) = some (if nOk (d :: ds) = true then (numV (d :: ds),true) else (some 0,false)):=by
 unfold g180
 have hs : g102 (sb (d :: ds)) 47 = some ((Qx 47 (d :: ds)).map sb):=split72 (c:=47) (by omega)
 rw [hs,Gf (dig47 h),Option.bind_some]
 have hi : Wp ([d :: ds].map sb) 0 = some (sb (d :: ds)):=rfl
 rw [hi,Option.bind_some,num98,Option.bind_some]
 cases hn : nOk (d :: ds) with
 | true =>
  have hn2:=hn
  unfold nOk at hn2
  simp only [Bool.and_eq_true,decide_eq_true_eq] at hn2
  rw [numR_dig hn,if_neg (by simp),Option.bind_some,Option.bind_some]
  have : Zo 6 ((sb (d :: ds)).size : Int) = false:=by simp [Zo] at hn2 ⊢; omega
  rw [this,if_neg (by simp [Zo]),if_pos (by simp [Yx])]
  rfl
 | false =>
  have:=numR_bad hn _ rfl _ rfl
  have hw : (if (!(numR (d :: ds)).2) = true then some true else (some (sb (d :: ds))).bind fun e7 => some (Zo 6 (e7.size : Int))) = some true:=by
   rw [Bool.or_eq_true] at this
   rcases this with h1 | h1
   ·rw [if_pos h1]
   ·rw [Option.bind_some,sb_size,h1]; simp
  rw [hw,Option.bind_some,if_pos (by simp),if_neg (by simp)]
theorem and_pow : ∀ m : Nat,m < 1025→2≤m→(andI .i64 (m : Int) (sI .i64 (m : Int) 1) = 0 ↔ (m : Int) ∈ pows):=by
 have key : ∀ m : Nat,m < 1025→2≤m→(m &&& (m - 1) = 0 ↔ m ∈ [2,4,8,16,32,64,128,256,512,1024]):=by decide +kernel
 intro m h1 h2
 have e : andI .i64 (m : Int) (sI .i64 (m : Int) 1) = ((m &&& (m - 1) : Nat) : Int):=by
  rw [sI64 (by omega) (by omega),show (m : Int) - 1 = ((m - 1 : Nat) : Int) by omega]
  unfold andI
  have e1 : (BitVec.ofInt IntKind.i64.bits (m : Int) &&& BitVec.ofInt IntKind.i64.bits ((m - 1 : Nat) : Int)).toNat = m &&& (m - 1):=by
   show (BitVec.ofInt 64 (m : Int) &&& BitVec.ofInt 64 ((m - 1 : Nat) : Int)).toNat = _
   rw [BitVec.toNat_and,BitVec.ofInt_natCast,BitVec.ofInt_natCast,BitVec.toNat_ofNat,BitVec.toNat_ofNat,Nat.mod_eq_of_lt (by omega),Nat.mod_eq_of_lt (by omega)]
  rw [e1]
  have : m &&& (m - 1)≤m:=Nat.and_le_left
  exact wrap64 (by omega) (by omega)
 rw [e]
 have:=key m h1 h2
 rw [show ((m &&& (m - 1) : Nat) : Int) = 0 ↔ m &&& (m - 1) = 0 by omega,this]
 simp only [pows,List.mem_cons,List.not_mem_nil,or_false]
 omega
theorem frac_spec {d : UInt8} {ds es : List UInt8} (h : (d :: ds).all Zh = true) (he : es.all Zh = true) (hl : (d :: ds).length + es.length≤2000) :
  g180 (sb ((d :: ds) ++ 47 :: es)) = some (if nOk (d :: ds) = true∧Hg es ≠ 0 then (quoF .f32 (numV (d :: ds)) (Ge .f32 (Hg es)),true) else (some 0,false)):=by
 unfold g180
 have hs : g102 (sb ((d :: ds) ++ 47 :: es)) 47 = some ((Qx 47 ((d :: ds) ++ 47 :: es)).map sb):=split72 (c:=47) (by simp at hl ⊢; omega)
 rw [hs,cut_at (dig47 h),Gf (dig47 he),Option.bind_some]
 have hi : Wp ([d :: ds,es].map sb) 0 = some (sb (d :: ds)):=rfl
 have hi1 : Wp ([d :: ds,es].map sb) 1 = some (sb es):=rfl
 rw [hi,Option.bind_some,num98,Option.bind_some]
 cases hn : nOk (d :: ds) with
 | false =>
  have:=numR_bad hn _ rfl _ rfl
  have hw : (if (!(numR (d :: ds)).2) = true then some true else (some (sb (d :: ds))).bind fun e7 => some (Zo 6 (e7.size : Int))) = some true:=by
   rw [Bool.or_eq_true] at this
   rcases this with h1 | h1
   ·rw [if_pos h1]
   ·rw [Option.bind_some,sb_size,h1]; simp
  rw [hw,Option.bind_some,if_pos (by simp),if_neg (by simp)]
 | true =>
  have hn2:=hn
  unfold nOk at hn2
  simp only [Bool.and_eq_true,decide_eq_true_eq] at hn2
  rw [numR_dig hn,if_neg (by simp),Option.bind_some,Option.bind_some]
  have : Zo 6 ((sb (d :: ds)).size : Int) = false:=by simp [Zo] at hn2 ⊢; omega
  rw [this,if_neg (by simp [Zo]),if_neg (by simp [Yx]),hi1,Option.bind_some,num98,Option.bind_some]
  rcases undr_cases es with ⟨h1,h2⟩ | ⟨h1,h2⟩
  ·have hp : 2≤Hg es∧Hg es≤1024:=by
    have : ∀ k ∈ pows,2≤k∧k≤1024:=by decide
    exact this _ h1
   have hr : numR es = (Hg es,true):=by
    have:=numR_itoa (n:=Hg es) (by omega) (by omega)
    rw [dgs_itoa _ h1,← h2] at this
    exact this
   have ha : andI .i64 (Hg es) (sI .i64 (Hg es) 1) = 0:=by
    have:=(and_pow (Hg es).toNat (by omega) (by omega)).2 (by rw [Int.toNat_of_nonneg (by omega)]; exact h1)
    rwa [Int.toNat_of_nonneg (by omega)] at this
   rw [hr,if_neg (by simp [Zo,Yx,ha]; omega),if_pos ⟨rfl,by omega⟩]
   rfl
  ·rw [if_neg (show ¬ (true = true∧Hg es ≠ 0) by simp [h1])]
   rw [if_pos]
   apply Decidable.byContradiction
   intro hc
   simp only [Bool.or_eq_true,Bool.not_eq_true',not_or,Bool.not_eq_false,Zo,Yx,decide_eq_true_eq,decide_eq_false_iff_not] at hc
   obtain ⟨⟨⟨c1,c2⟩,c3⟩,c4⟩:=hc
   have hok : Kr es = true∧(numR es).1 = (Kn 0 es : Nat):=by
    unfold numR at c1 ⊢
    split at c1
    ·rename_i hh
     rw [if_pos hh]
     simp only [Bool.and_eq_true] at hh
     exact ⟨hh.1,rfl⟩
    ·cases c1
   rw [hok.2] at c2 c3 c4
   have hm:=(and_pow (Kn 0 es) (by omega) (by omega)).1 (by simpa using c4)
   exact h2 _ hm (by rw [← dgs_itoa _ hm]; exact (num_itoa hok.1).symm)
end Go.Proofs.YtloepppmjppddaaGreatDoor
