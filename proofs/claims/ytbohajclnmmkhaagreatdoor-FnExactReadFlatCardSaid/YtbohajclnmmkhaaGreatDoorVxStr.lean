/- Texts as lists of bytes: what is joined, and decimal numerals. -/
import Derived.Test.YtbohajclnmmkhaaGreatDoorVxLib
import Derived.Test.YtbohajclnmmkhaaGreatDoorVxPure
namespace Go.VL
open Go.RowKit
set_option linter.unusedSimpArgs false
set_option linter.unusedVariables false

/-- The text with these bytes. -/
def sb (l : List UInt8) : ByteArray := ⟨l.toArray⟩
@[simp] theorem sb_size {l : List UInt8} : (sb l).size = l.length := by simp [sb, ByteArray.size]
@[simp] theorem sb_data {l : List UInt8} : (sb l).data.toList = l := by simp [sb]
theorem sb_self (s : ByteArray) : sb s.data.toList = s := by cases s; simp [sb]
theorem sb_nil : ByteArray.empty = sb [] := rfl
theorem cat_sb {a b : List UInt8} (h : a.length + b.length ≤ 9223372036854775807) : catS (sb a) (sb b) = some (sb (a ++ b)) := by
  unfold catS
  rw [if_pos (by simpa using h)]
  congr 1
theorem eqS_self (a : ByteArray) : eqS a a = true := by simp [eqS]
theorem fmtInt_sb {n : Int} (h0 : -9223372036854775808 ≤ n) (h1 : n ≤ 9223372036854775807) : fmtIntO n 10 = some (sb (Lib.itoa n)) := by
  unfold fmtIntO
  rw [if_pos ⟨rfl, h0, h1⟩]
  rfl

theorem dec_len : ∀ (k u : Nat), u < 10 ^ (k + 1) → (Lib.decDigits u).length ≤ k + 1
  | 0, u, h => by
    rw [Lib.decDigits, dif_pos (by simpa using h)]
    simp
  | k + 1, u, h => by
    rw [Lib.decDigits]
    split
    · simp
    · have := dec_len k (u / 10) (by rw [Nat.div_lt_iff_lt_mul (by decide)]; rw [Nat.pow_succ] at h; exact h)
      simp
      omega
theorem itoa_nat {n : Int} (h : 0 ≤ n) : Lib.itoa n = Lib.decDigits n.toNat := by
  unfold Lib.itoa
  rw [if_neg (by omega)]
theorem itoa_len {n : Int} (h0 : 0 ≤ n) (h1 : n < 10000) : (Lib.itoa n).length ≤ 4 := by
  rw [itoa_nat h0]
  exact dec_len 3 _ (by omega)

/-- A digit's byte. -/
theorem digit_byte {d : Int} (h0 : 0 ≤ d) (h1 : d < 10) : strOfNums [cI .u8 (aI .i64 48 d)] = sb [UInt8.ofNat (48 + d.toNat)] := by
  obtain ⟨k, rfl⟩ := Int.eq_ofNat_of_zero_le h0
  have hk : k < 10 := by omega
  match k, hk with
  | 0, _ => rfl
  | 1, _ => rfl
  | 2, _ => rfl
  | 3, _ => rfl
  | 4, _ => rfl
  | 5, _ => rfl
  | 6, _ => rfl
  | 7, _ => rfl
  | 8, _ => rfl
  | 9, _ => rfl

/-- The numeral, by recursion, as the reference reckons it. -/
def decBody (self : Int → Option ByteArray) (n : Int) : Option ByteArray :=
  if leI 10 n = true then (dI .i64 n 10).bind fun d2 => (self d2).bind fun r4 => (rI .i64 n 10).bind fun d6 => (catS r4 (strOfNums [cI .u8 (aI .i64 48 d6)])).bind fun z8 => some z8
  else some (strOfNums [cI .u8 (aI .i64 48 n)])

theorem decBody_eq (self : Int → Option ByteArray) (n : Int) : decBody self n = if leI 10 n = true then (dI .i64 n 10).bind fun d2 => (self d2).bind fun r4 => (rI .i64 n 10).bind fun d6 => (catS r4 (strOfNums [cI .u8 (aI .i64 48 d6)])).bind fun z8 => some z8
  else some (strOfNums [cI .u8 (aI .i64 48 n)]) := rfl
theorem dec_iter : ∀ (k : Nat) (n : Int), 0 ≤ n → n < 10 ^ (k + 1) → k ≤ 17 → (∃ m, iterO decBody m n = some (sb (Lib.decDigits n.toNat))) ∧ ∀ m r, iterO decBody m n = some r → r = sb (Lib.decDigits n.toNat) := by
  intro k
  induction k with
  | zero =>
    intro n h0 h1 _
    have e : ∀ m, iterO decBody (m + 1) n = some (sb (Lib.decDigits n.toNat)) := fun m => by
      show decBody _ n = _
      rw [decBody_eq, if_neg (by simp [leI]; omega), digit_byte h0 (by omega), Lib.decDigits, dif_pos (by omega)]
    refine ⟨⟨1, e 0⟩, fun m r hm => ?_⟩
    cases m with
    | zero => cases hm
    | succ m => rw [e m] at hm; exact (Option.some.inj hm).symm
  | succ k ih =>
    intro n h0 h1 hk
    have hp : (10 : Int) ^ (k + 1) ≤ 10 ^ 18 := by
      have := Nat.pow_le_pow_right (n := 10) (by decide) (show k + 1 ≤ 18 by omega)
      exact_mod_cast this
    have hp' : (10 : Int) ^ (k + 1 + 1) = 10 ^ (k + 1) * 10 := Int.pow_succ ..
    rw [hp'] at h1
    by_cases hs : n < 10
    · have e : ∀ m, iterO decBody (m + 1) n = some (sb (Lib.decDigits n.toNat)) := fun m => by
        show decBody _ n = _
        rw [decBody_eq, if_neg (by simp [leI]; omega), digit_byte h0 (by omega), Lib.decDigits, dif_pos (by omega)]
      refine ⟨⟨1, e 0⟩, fun m r hm => ?_⟩
      cases m with
      | zero => cases hm
      | succ m => rw [e m] at hm; exact (Option.some.inj hm).symm
    · have hd : n.tdiv 10 = n / 10 := Int.tdiv_eq_ediv_of_nonneg h0
      have hm' : n.tmod 10 = n % 10 := Int.tmod_eq_emod_of_nonneg h0
      have hdl : n / 10 < 10 ^ (k + 1) := by omega
      have hd0 : 0 ≤ n / 10 := by omega
      obtain ⟨⟨m0, i1⟩, i2⟩ := ih (n / 10) hd0 hdl (by omega)
      have hlen := dec_len k (n / 10).toNat (by
        have : (n / 10) < ((10 ^ (k + 1) : Nat) : Int) := by push_cast; exact hdl
        omega)
      have step : ∀ m r, iterO decBody m (n / 10) = some r → iterO decBody (m + 1) n = some (sb (Lib.decDigits n.toNat)) := fun m r hr => by
        have := i2 m r hr
        subst this
        show decBody _ n = _
        rw [decBody_eq]
        have e1 : dI .i64 n 10 = some (n / 10) := by rw [dI64 (by decide) (by rw [hd]; omega) (by rw [hd]; omega), hd]
        have e2 : rI .i64 n 10 = some (n % 10) := by unfold rI; rw [if_neg (by decide), hm']
        rw [if_pos (by simp [leI]; omega), e1, Option.bind_some, hr, Option.bind_some, e2, Option.bind_some, digit_byte (by omega) (by omega), cat_sb (by simp; omega), Option.bind_some]
        rw [show Lib.decDigits n.toNat = Lib.decDigits (n.toNat / 10) ++ [UInt8.ofNat (48 + n.toNat % 10)] by rw [Lib.decDigits, dif_neg (by omega)]]
        rw [show (n / 10).toNat = n.toNat / 10 by omega, show (n % 10).toNat = n.toNat % 10 by omega]
      refine ⟨⟨m0 + 1, step m0 _ i1⟩, fun m r hm => ?_⟩
      cases m with
      | zero => cases hm
      | succ m =>
        cases hq : iterO decBody m (n / 10) with
        | some r0 => rw [step m r0 hq] at hm; exact (Option.some.inj hm).symm
        | none =>
          exfalso
          have e1 : dI .i64 n 10 = some (n / 10) := by rw [dI64 (by decide) (by rw [hd]; omega) (by rw [hd]; omega), hd]
          have : decBody (iterO decBody m) n = some r := hm
          rw [decBody_eq, if_pos (by simp [leI]; omega), e1, Option.bind_some, hq] at this
          cases this
theorem dec_fix {n : Int} (h0 : 0 ≤ n) (h1 : n < 1000000000000000000) : fixO decBody n = some (sb (Lib.itoa n)) := by
  obtain ⟨⟨m, e⟩, u⟩ := dec_iter 17 n h0 (by simpa using h1) (Nat.le_refl _)
  rw [itoa_nat h0]
  exact fixO_eq m e u

/-! ### Numbers, joined -/
theorem joinO_sb {xs : List (List UInt8)} {s : List UInt8} (h1 : xs.length ≤ 140737488355328) (h2 : (Lib.join xs s).length ≤ 281474976710656) : joinO (xs.map sb) (sb s) = some (sb (Lib.join xs s)) := by
  unfold joinO joinB
  have e : (xs.map sb).map (·.data.toList) = xs := by
    rw [List.map_map]
    have : ((·.data.toList) ∘ sb : List UInt8 → List UInt8) = id := by funext l; simp
    rw [this, List.map_id]
  rw [e, sb_data, if_pos ⟨by simpa using h1, h2⟩]
  rfl
end Go.VL
