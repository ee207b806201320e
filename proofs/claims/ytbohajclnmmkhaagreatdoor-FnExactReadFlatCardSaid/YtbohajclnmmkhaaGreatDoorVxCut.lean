/- Texts cut at a byte, and whole numbers read back: plain lists of bytes. -/
import Derived.Test.YtbohajclnmmkhaaGreatDoorVxStr
import Derived.Test.YtbohajclnmmkhaaGreatDoorVxParse
import Derived.Lib.ParseIntBTie
import Derived.Lib.ParseIntBCases
namespace Go.VL
open Go.RowKit
set_option linter.unusedSimpArgs false
set_option linter.unusedVariables false

/-- A text cut at every byte c. -/
def cutL (c : UInt8) : List UInt8 → List (List UInt8)
  | [] => [[]]
  | b :: l => if b = c then [] :: cutL c l else match cutL c l with
    | [] => [[b]]
    | p :: ps => (b :: p) :: ps
theorem cut_none {c : UInt8} : ∀ {s : List UInt8}, c ∉ s → cutL c s = [s]
  | [], _ => rfl
  | b :: l, h => by
    have h1 : c ≠ b := fun e => h (by simp [e])
    have h2 : c ∉ l := fun e => h (by simp [e])
    rw [cutL, if_neg (Ne.symm h1), cut_none h2]
theorem cut_at {c : UInt8} {q : List UInt8} : ∀ {p : List UInt8}, c ∉ p → cutL c (p ++ c :: q) = p :: cutL c q
  | [], _ => by simp [cutL]
  | b :: l, h => by
    have h1 : c ≠ b := fun e => h (by simp [e])
    have h2 : c ∉ l := fun e => h (by simp [e])
    rw [List.cons_append, cutL, if_neg (Ne.symm h1), cut_at h2]
theorem cut_ne {c : UInt8} (s : List UInt8) : cutL c s ≠ [] := by
  cases s with
  | nil => simp [cutL]
  | cons b l =>
    rw [cutL]
    split
    · simp
    · split <;> simp
/-- Either there is no such byte, or a first one. -/
theorem first_at (c : UInt8) : ∀ s : List UInt8, c ∉ s ∨ ∃ p q, s = p ++ c :: q ∧ c ∉ p
  | [] => .inl (by simp)
  | b :: l => by
    by_cases hb : b = c
    · subst hb; exact .inr ⟨[], l, rfl, by simp⟩
    · rcases first_at c l with h | ⟨p, q, h1, h2⟩
      · exact .inl (by simp [h, Ne.symm hb])
      · exact .inr ⟨b :: p, q, by simp [h1], by simp [h2, Ne.symm hb]⟩
theorem cut_join {c : UInt8} : ∀ (n : Nat) (s : List UInt8), s.length ≤ n → Lib.join (cutL c s) [c] = s ∧ ∀ p ∈ cutL c s, c ∉ p := by
  intro n
  induction n with
  | zero =>
    intro s h
    have : s = [] := List.length_eq_zero_iff.1 (by omega)
    subst this
    simp [cutL, Lib.join]
  | succ n ih =>
    intro s h
    rcases first_at c s with hs | ⟨p, q, rfl, hp⟩
    · rw [cut_none hs]
      simp [Lib.join, List.intercalate, hs]
    · obtain ⟨i1, i2⟩ := ih q (by simp at h; omega)
      rw [cut_at hp]
      refine ⟨?_, fun x hx => ?_⟩
      · cases hc : cutL c q with
        | nil => exact absurd hc (cut_ne q)
        | cons a b =>
          rw [hc] at i1
          have e : Lib.join (p :: a :: b) [c] = p ++ [c] ++ Lib.join (a :: b) [c] := by simp [Lib.join, List.intercalate]
          rw [e, i1]
          simp
      · rcases List.mem_cons.1 hx with rfl | hx
        · exact hp
        · exact i2 x hx
theorem index_of_first {c : UInt8} : ∀ {p q : List UInt8}, c ∉ p → Lib.indexByte (p ++ c :: q) c = p.length
  | [], q, _ => by simp [Lib.indexByte]
  | b :: l, q, h => by
    have h1 : b ≠ c := fun e => h (by simp [e])
    have h2 : c ∉ l := fun e => h (by simp [e])
    have ih := index_of_first (q := q) h2
    rw [List.cons_append, Lib.indexByte, ih]
    have hb : (b == c) = false := by simpa using h1
    simp [hb]
theorem index_of_none {c : UInt8} : ∀ {p : List UInt8}, c ∉ p → Lib.indexByte p c = -1
  | [], _ => rfl
  | b :: l, h => by
    have h1 : b ≠ c := fun e => h (by simp [e])
    have h2 : c ∉ l := fun e => h (by simp [e])
    have hb : (b == c) = false := by simpa using h1
    rw [Lib.indexByte, index_of_none h2]
    simp [hb]
theorem splitK_cut {c : UInt8} : ∀ (n : Nat) (s : List UInt8), s.length ≤ n → Lib.splitK [c] 0 (Lib.count s [c]) s = cutL c s := by
  intro n
  induction n with
  | zero =>
    intro s h
    have : s = [] := List.length_eq_zero_iff.1 (by omega)
    subst this
    rw [Lib.count_miss (by rw [Lib.index_one]; rfl)]
    rfl
  | succ n ih =>
    intro s h
    rcases first_at c s with hs | ⟨p, q, rfl, hp⟩
    · rw [cut_none hs, Lib.count_miss (by rw [Lib.index_one, index_of_none hs])]
      rfl
    · have hi : Lib.index (p ++ c :: q) [c] = p.length := by rw [Lib.index_one, index_of_first hp]
      rw [cut_at hp, Lib.count_hit (by simp) hi, show (p ++ c :: q).drop (p.length + [c].length) = q by simp, Nat.add_comm 1, Lib.splitK, hi]
      rw [if_neg (by first | (simp; done) | (simp; omega))]
      have i1 := ih q (by simp at h; omega)
      simp
      exact i1
theorem split_cut {s : List UInt8} {c : UInt8} : splitOf (sb s) (sb [c]) = (cutL c s).map sb := by
  have h := Lib.splitB_data (sb [c]) 0 (Lib.countB (sb s) (sb [c])) (sb s)
  have h2 : Lib.countB (sb s) (sb [c]) = Lib.count s [c] := by simp [Lib.countB]
  simp only [sb_data] at h
  rw [h2, splitK_cut _ s (Nat.le_refl _)] at h
  unfold splitOf
  rw [h2]
  have : ∀ xs : List ByteArray, (xs.map (·.data.toList)).map sb = xs := fun xs => by
    rw [List.map_map]
    have e : (sb ∘ (·.data.toList) : ByteArray → ByteArray) = id := by funext x; exact sb_self x
    rw [e, List.map_id]
  rw [← h, this]
theorem splitO_cut {s : List UInt8} {c : UInt8} (h : s.length < 4294967281) : splitO (sb s) (sb [c]) = some ((cutL c s).map sb) := by
  unfold splitO
  rw [if_pos ⟨by simpa using h, by simp⟩, split_cut]

theorem ext_sb {s : List UInt8} {a b : Nat} : (sb s).extract a b = sb ((s.drop a).take (b - a)) := by
  apply ByteArray.ext
  apply Array.ext'
  simp [sb]
theorem idxS_sb {s : List UInt8} {i : Nat} (h : i < s.length) : idxS (sb s) (i : Int) = some (s[i].toNat : Int) := by
  unfold idxS
  rw [if_pos (by omega), sb_data, Int.toNat_natCast, List.getElem?_eq_getElem h]
  rfl
theorem u8_eq {a b : UInt8} : eqI (a.toNat : Int) (b.toNat : Int) = decide (a = b) := by
  unfold eqI
  by_cases h : a = b
  · subst h; simp
  · have : (a.toNat : Int) ≠ (b.toNat : Int) := fun e => h (UInt8.toNat_inj.1 (by omega))
    simp [h, this]
/-- Two texts are the same, or not. -/
theorem eqS_sb {a b : List UInt8} : eqS (sb a) (sb b) = decide (a = b) := by
  unfold eqS
  simp only [sb_data]
  by_cases h : a = b
  · subst h; simp
  · simp [h]

/-! ### Whole numbers -/
def isDig (c : UInt8) : Bool := 48 ≤ c.toNat && c.toNat ≤ 57
def valL (acc : Nat) : List UInt8 → Nat
  | [] => acc
  | c :: l => valL (acc * 10 + (c.toNat - 48)) l
theorem valL_append (a b : List UInt8) : ∀ acc, valL acc (a ++ b) = valL (valL acc a) b := by
  induction a with
  | nil => intro acc; rfl
  | cons c l ih => intro acc; exact ih _
theorem parse_dig : ∀ (l : List UInt8) (acc : Nat), l.all isDig = true → valL acc l < 18446744073709551616 → Lib.parseUint10 acc l = .ok (valL acc l)
  | [], acc, _, _ => rfl
  | c :: l, acc, h, hv => by
    simp only [List.all_cons, Bool.and_eq_true, isDig, decide_eq_true_eq] at h
    have ge : ∀ (l : List UInt8) (x : Nat), x ≤ valL x l := fun l => by
      induction l with
      | nil => intro x; exact Nat.le_refl _
      | cons d l ih => intro x; exact Nat.le_trans (by omega) (ih _)
    have h2 := ge l (acc * 10 + (c.toNat - 48))
    have hv' : valL (acc * 10 + (c.toNat - 48)) l < 18446744073709551616 := hv
    have ih := parse_dig l (acc * 10 + (c.toNat - 48)) h.2 hv'
    unfold Lib.parseUint10
    rw [if_pos (by omega)]
    rw [if_neg (by omega), if_neg (by omega), ih]
    rfl
theorem dig_dec : ∀ (n u : Nat), u ≤ n → (Lib.decDigits u).all isDig = true ∧ valL 0 (Lib.decDigits u) = u ∧ 1 ≤ (Lib.decDigits u).length := by
  have d : ∀ k, k < 10 → isDig (UInt8.ofNat (48 + k)) = true ∧ (UInt8.ofNat (48 + k)).toNat - 48 = k := by decide
  intro n
  induction n with
  | zero =>
    intro u h
    obtain ⟨d1, d2⟩ := d u (by omega)
    rw [Lib.decDigits, dif_pos (by omega)]
    refine ⟨by rw [List.all_cons, d1]; rfl, ?_, by simp⟩
    show 0 * 10 + ((UInt8.ofNat (48 + u)).toNat - 48) = u
    omega
  | succ n ih =>
    intro u h
    rw [Lib.decDigits]
    split
    · obtain ⟨d1, d2⟩ := d u (by omega)
      refine ⟨by rw [List.all_cons, d1]; rfl, ?_, by simp⟩
      show 0 * 10 + ((UInt8.ofNat (48 + u)).toNat - 48) = u
      omega
    · obtain ⟨i1, i2, i3⟩ := ih (u / 10) (by omega)
      obtain ⟨d1, d2⟩ := d (u % 10) (by omega)
      refine ⟨by rw [List.all_append, i1, List.all_cons, d1]; rfl, ?_, by simp⟩
      rw [valL_append, i2]
      show u / 10 * 10 + ((UInt8.ofNat (48 + u % 10)).toNat - 48) = u
      omega
theorem parse_itoa {n : Int} (h0 : 0 ≤ n) (h1 : n < 1000000000000000000) : parseOf (sb (Lib.itoa n)) = (n, false) := by
  obtain ⟨k, rfl⟩ := Int.eq_ofNat_of_zero_le h0
  rw [itoa_nat h0, Int.toNat_natCast]
  obtain ⟨a1, a2, a3⟩ := dig_dec k k (Nat.le_refl _)
  have hk : k < 1000000000000000000 := by omega
  have hp := parse_dig (Lib.decDigits k) 0 a1 (by rw [a2]; omega)
  rw [a2] at hp
  unfold parseOf
  rw [sb_data]
  cases hd : Lib.decDigits k with
  | nil => rw [hd] at a3; simp at a3
  | cons c r =>
    rw [hd] at a1 hp
    simp only [List.all_cons, Bool.and_eq_true, isDig, decide_eq_true_eq] at a1
    rw [Lib.parseIntB_plain 64 c r (by omega) (by omega), Lib.parseUintB_64]
    unfold Lib.parseMag
    rw [if_neg (by simp), hp]
    have h63 : (2 : Nat) ^ (64 - 1) = 9223372036854775808 := rfl
    have : ¬ 9223372036854775808 ≤ k := by omega
    unfold Lib.signlessC
    simp only [h63, if_neg this]
/-- A numeral without needless noughts. -/
def numOk (s : List UInt8) : Bool := s.all isDig && 1 ≤ s.length && !(s.head? == some 48 && 1 < s.length)
theorem valL_lt (l : List UInt8) : ∀ (acc : Nat), l.all isDig = true → valL acc l < (acc + 1) * 10 ^ l.length := by
  induction l with
  | nil =>
    intro acc _
    have e : (acc + 1) * 10 ^ ([] : List UInt8).length = acc + 1 := Nat.mul_one _
    rw [e]
    exact Nat.lt_succ_self acc
  | cons c l ihl =>
    intro acc h
    simp only [List.all_cons, Bool.and_eq_true, isDig, decide_eq_true_eq] at h
    have ih := ihl (acc * 10 + (c.toNat - 48)) h.2
    have hm : (acc * 10 + (c.toNat - 48) + 1) * 10 ^ l.length ≤ ((acc + 1) * 10) * 10 ^ l.length := Nat.mul_le_mul_right _ (by omega)
    have e : (acc + 1) * 10 ^ (c :: l).length = ((acc + 1) * 10) * 10 ^ l.length := by
      rw [List.length_cons, Nat.pow_succ, Nat.mul_comm (10 ^ l.length) 10, Nat.mul_assoc]
    rw [e]
    exact Nat.lt_of_lt_of_le ih hm
theorem itoa_num {n : Int} (h0 : 0 ≤ n) : numOk (Lib.itoa n) = true ∧ (valL 0 (Lib.itoa n) : Int) = n := by
  obtain ⟨k, rfl⟩ := Int.eq_ofNat_of_zero_le h0
  rw [itoa_nat h0, Int.toNat_natCast]
  obtain ⟨a1, a2, a3⟩ := dig_dec k k (Nat.le_refl _)
  refine ⟨?_, by omega⟩
  simp only [numOk, Bool.and_eq_true, decide_eq_true_eq, Bool.not_eq_true']
  refine ⟨⟨a1, a3⟩, ?_⟩
  -- no nought ahead
  have key : ∀ (n u : Nat), u ≤ n → 1 < (Lib.decDigits u).length → (Lib.decDigits u).head? ≠ some 48 := by
    have d : ∀ k, k < 10 → 1 ≤ k → UInt8.ofNat (48 + k) ≠ 48 := by decide
    intro n
    induction n with
    | zero => intro u h hl; rw [Lib.decDigits, dif_pos (by omega)] at hl; simp at hl
    | succ n ih =>
      intro u h hl
      rw [Lib.decDigits] at hl ⊢
      split at hl
      · simp at hl
      · rename_i hu
        rw [dif_neg hu]
        by_cases h10 : u / 10 < 10
        · rw [Lib.decDigits, dif_pos h10]
          simp only [List.cons_append, List.nil_append, List.head?_cons, ne_eq, Option.some.injEq]
          exact d _ h10 (by omega)
        · have h1 : 1 < (Lib.decDigits (u / 10)).length := by
            rw [Lib.decDigits, dif_neg h10]
            have := (dig_dec (u / 10 / 10) (u / 10 / 10) (Nat.le_refl _)).2.2
            simp
            omega
          have := ih (u / 10) (by omega) h1
          cases hd : Lib.decDigits (u / 10) with
          | nil => rw [hd] at h1; simp at h1
          | cons a b => rw [hd] at this; simpa using this
  by_cases hl : 1 < (Lib.decDigits k).length
  · have := key k k (Nat.le_refl _) hl
    simp [this, hl]
  · simp [hl]
end Go.VL
