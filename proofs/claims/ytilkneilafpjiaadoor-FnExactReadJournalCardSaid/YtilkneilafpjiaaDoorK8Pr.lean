/- Plain laws of reading acts: both ways of reading find the act whose text it is, or none. -/
import Derived.Test.YtilkneilafpjiaaDoorK8a
import Derived.Test.YtilkneilafpjiaaDoorK8Pt
import Derived.Test.YtilkneilafpjiaaDoorVxCut
namespace Go.Proofs.YtilkneilafpjiaaDoor
open Go.VL
set_option linter.unusedSimpArgs false
set_option linter.unusedVariables false
set_option maxHeartbeats 4000000

/-! ### Cutting -/
theorem split72 {s : List UInt8} {c : UInt8} (hs : s.length ≤ 1048576) : g72 (sb s) (c.toNat : Int) = some ((cutL c s).map sb) := by
  obtain ⟨r, e, hr⟩ := loopO_rule (body := g72_L1 (sb s) (c.toNat : Int)) (fun st => s.length - st.2.1.toNat)
    (fun st => ∃ (a q : Nat) (ds : List (List UInt8)), st = ((a : Int), (q : Int), ds.map sb) ∧ a ≤ q ∧ q ≤ s.length ∧ ds.length ≤ q ∧ c ∉ (s.drop a).take (q - a) ∧ cutL c s = ds ++ cutL c (s.drop a))
    (fun r => ∃ (a : Nat) (ds : List (List UInt8)), r = ((a : Int), ds.map sb) ∧ a ≤ s.length ∧ ds.length ≤ s.length ∧ c ∉ s.drop a ∧ cutL c s = ds ++ cutL c (s.drop a)) (fun st ⟨a, q, ds, e, h1, h2, h3, h4, h5⟩ => by
      subst e
      rw [g72_L1]
      by_cases hq : q < s.length
      · left
        have hsp : s.drop a = (s.drop a).take (q - a) ++ s[q] :: s.drop (q + 1) := by
          have e1 := List.take_append_drop (q - a) (s.drop a)
          rw [List.drop_drop, show a + (q - a) = q by omega] at e1
          rw [← List.drop_eq_getElem_cons hq] 
          exact e1.symm
        rw [if_pos (by simp [ltI]; omega), idxS_sb hq, Option.bind_some, u8_eq]
        by_cases hc : s[q] = c
        · rw [if_pos (by simp [hc]), cutK_of (by omega) (by omega) (by simp; omega), Option.bind_some, appK_of (by simp; omega) (by simp; omega), Option.bind_some, succI (by omega), Int.toNat_natCast, Int.toNat_natCast, ext_sb]
          refine ⟨_, rfl, ⟨q + 1, q + 1, ds ++ [(s.drop a).take (q - a)], by simp, by omega, by omega, by simp; omega, by simp, ?_⟩, by simp only; omega⟩
          rw [h5]
          conv => lhs; rw [hsp]
          rw [hc, cut_at h4]
          simp
        · rw [if_neg (by simp [hc]), succI (by omega)]
          refine ⟨_, rfl, ⟨a, q + 1, ds, rfl, by omega, by omega, by omega, ?_, h5⟩, by simp only; omega⟩
          rw [show q + 1 - a = (q - a) + 1 by omega, List.take_add_one]
          have : (s.drop a)[q - a]? = some s[q] := by rw [List.getElem?_drop, show a + (q - a) = q by omega, List.getElem?_eq_getElem hq]
          rw [this]
          simp only [List.mem_append, not_or]
          exact ⟨h4, by simpa using fun e => hc e.symm⟩
      · right
        rw [if_neg (by simp [ltI]; omega)]
        have hq' : q = s.length := by omega
        subst hq'
        refine ⟨_, rfl, a, ds, rfl, by omega, h3, ?_, h5⟩
        rwa [List.take_of_length_le (by simp)] at h4) (s := (0, 0, [])) ⟨0, 0, [], rfl, by omega, by omega, by simp, by simp, by simp⟩
  obtain ⟨a, ds, rfl, h1, h2, h3, h4⟩ := hr
  unfold g72 g72_j1
  rw [e, Option.bind_some, cutK_of (by simp) (by simp; omega) (by simp), Option.bind_some, appK_of (by simp; omega) (by simp; omega), Option.bind_some]
  rw [h4, cut_none h3]
  simp only [Int.toNat_natCast]
  rw [ext_sb, sb_size, List.take_of_length_le (by simp)]
  simp

/-! ### Numbers -/
def numR (s : List UInt8) : Int × Bool := if (numOk s && decide (s.length ≤ 9)) = true then ((valL 0 s : Nat), true) else (0, false)
theorem dig_of {c : UInt8} : isDig c = (!(ltI (c.toNat : Int) 48 || ltI 57 (c.toNat : Int))) := by
  unfold isDig ltI
  by_cases h1 : 48 ≤ c.toNat <;> by_cases h2 : c.toNat ≤ 57 <;> simp [h1, h2] <;> omega
theorem num98 (s : List UInt8) : g98 (sb s) = some (numR s) := by
  unfold g98
  by_cases h1 : s.length < 1 ∨ 9 < s.length
  · have hb : (ltI ((sb s).size : Int) 1 || ltI 9 ((sb s).size : Int)) = true := by
      simp [ltI]; omega
    rw [if_pos hb, Option.bind_some, if_pos rfl]
    have : (numOk s && decide (s.length ≤ 9)) = false := by
      rcases h1 with h1 | h1
      · have : s = [] := List.length_eq_zero_iff.1 (by omega)
        subst this; rfl
      · simp; omega
    unfold numR
    rw [this]
    rfl
  · have hb : ¬ (ltI ((sb s).size : Int) 1 || ltI 9 ((sb s).size : Int)) = true := by
      simp [ltI]; omega
    have hl : 1 ≤ s.length ∧ s.length ≤ 9 := by omega
    have h0 : 0 < s.length := by omega
    have hi0 : idxS (sb s) 0 = some (s[0].toNat : Int) := idxS_sb h0
    rw [if_neg hb, hi0, Option.bind_some, Option.bind_some]
    have hhead : (eqI (s[0].toNat : Int) 48 && ltI 1 ((sb s).size : Int)) = (s.head? == some 48 && decide (1 < s.length)) := by
      have : eqI (s[0].toNat : Int) 48 = decide (s[0] = 48) := u8_eq (b := 48)
      rw [this]
      cases s with
      | nil => simp at h0
      | cons x t =>
        by_cases hx : x = 48 <;> simp [ltI, hx]
        omega
    rw [hhead]
    by_cases hz : (s.head? == some 48 && decide (1 < s.length)) = true
    · rw [if_pos hz]
      unfold numR numOk
      rw [hz]
      simp
    · rw [if_neg hz]
      obtain ⟨r, e, hr⟩ := loopO_rule (body := g98_L1 (sb s)) (fun st => s.length - st.2.toNat)
        (fun st => ∃ q : Nat, st = (((valL 0 (s.take q) : Nat) : Int), (q : Int)) ∧ q ≤ s.length ∧ (s.take q).all isDig = true)
        (fun r => match r with
          | .inl y => s.all isDig = true ∧ y = (valL 0 s : Nat)
          | .inr z => s.all isDig = false ∧ z = (0, false)) (fun st ⟨q, e, q1, q2⟩ => by
          subst e
          rw [g98_L1]
          by_cases hq : q < s.length
          · have ht : s.take (q + 1) = s.take q ++ [s[q]] := List.take_succ_eq_append_getElem hq
            rw [if_pos (by simp [ltI]; omega), idxS_sb hq]
            simp only [Option.bind_some]
            by_cases hd : isDig s[q] = true
            · left
              have hd2 := hd
              rw [dig_of] at hd2
              simp only [Bool.not_eq_true', Bool.or_eq_false_iff] at hd2
              have hdd : 48 ≤ s[q].toNat ∧ s[q].toNat ≤ 57 := by simpa [isDig] using hd
              have hv := valL_lt (s.take q) 0 q2
              have hp : 10 ^ (s.take q).length ≤ 10 ^ 9 := Nat.pow_le_pow_right (by decide) (by simp; omega)
              have hp9 : (10 : Nat) ^ 9 = 1000000000 := rfl
              rw [if_neg (by rw [hd2.1]; simp), Option.bind_some, hd2.2, if_neg (by simp)]
              have hu : sI .u8 (s[q].toNat : Int) 48 = ((s[q].toNat - 48 : Nat) : Int) := by
                have hlt : s[q].toNat < 58 := by omega
                generalize s[q].toNat = k at hdd hlt
                have : ∀ k : Nat, k < 58 → 48 ≤ k → sI .u8 (k : Int) 48 = ((k - 48 : Nat) : Int) := by decide
                exact this k hlt hdd.1
              rw [hu, cI64 (by omega) (by omega), mI64 (by omega) (by omega), aI64 (by omega) (by omega), succI (by omega)]
              refine ⟨_, rfl, ⟨q + 1, ?_, by omega, by rw [ht, List.all_append, q2, List.all_cons, hd]; rfl⟩, by simp only; omega⟩
              rw [ht, valL_append]
              show (_, _) = (((valL 0 (s.take q) * 10 + (s[q].toNat - 48) : Nat) : Int), _)
              push_cast
              rfl
            · right
              have hd2 : isDig s[q] = false := by simpa using hd
              have hw : (if ltI (s[q].toNat : Int) 48 = true then some true else some (ltI 57 (s[q].toNat : Int))) = some true := by
                rw [dig_of] at hd2
                split
                · rfl
                · rename_i hn
                  have : ltI (s[q].toNat : Int) 48 = false := by simpa using hn
                  rw [this] at hd2
                  simpa using hd2
              rw [hw, Option.bind_some, if_pos rfl]
              refine ⟨_, rfl, ?_, rfl⟩
              rw [List.all_eq_false]
              exact ⟨s[q], List.getElem_mem hq, by simpa using hd2⟩
          · right
            rw [if_neg (by simp [ltI]; omega)]
            have : q = s.length := by omega
            subst this
            rw [List.take_length] at *
            exact ⟨_, rfl, q2, rfl⟩) (s := (0, 0)) ⟨0, rfl, by omega, rfl⟩
      rw [e, Option.bind_some]
      have hz' : (s.head? == some 48 && decide (1 < s.length)) = false := by simpa using hz
      unfold numR numOk
      rw [hz']
      cases r with
      | inl y =>
        obtain ⟨r1, r2⟩ := hr
        subst r2
        simp [g98_j1, r1, hl.1, hl.2]
      | inr z =>
        obtain ⟨r1, r2⟩ := hr
        subst r2
        simp [r1]
theorem numR_itoa {n : Int} (h0 : 0 ≤ n) (h1 : n < 10000) : numR (Lib.itoa n) = (n, true) := by
  obtain ⟨a, b⟩ := itoa_num h0
  have hl := itoa_len h0 h1
  unfold numR
  rw [a, b, if_pos (by simp; omega)]
theorem numR_ok {s : List UInt8} (h : (numR s).2 = true) : Lib.itoa (numR s).1 = s := by
  unfold numR at h ⊢
  split at h
  · rename_i hc
    rw [if_pos hc]
    simp only [Bool.and_eq_true] at hc
    exact num_itoa hc.1
  · cases h

/-! ### Acts -/
theorem no_space {n : Int} (h0 : 0 ≤ n) : (32 : UInt8) ∉ Lib.itoa n := by
  obtain ⟨a, _⟩ := itoa_num h0
  simp only [numOk, Bool.and_eq_true] at a
  intro h
  have := List.all_eq_true.1 a.1.1 _ h
  exact absurd this (by decide)
theorem word_space {k : Int} (h1 : 1 ≤ k) (h2 : k ≤ 9) : (32 : UInt8) ∉ wordL k := by
  obtain ⟨n, rfl⟩ := Int.eq_ofNat_of_zero_le (show 0 ≤ k by omega)
  have : n < 10 := by omega
  match n, this with
  | 0, _ | 1, _ | 2, _ | 3, _ | 4, _ | 5, _ | 6, _ | 7, _ | 8, _ | 9, _ => decide
def two (k : Int) : Bool := (((eqI k 1 || eqI k 5) || eqI k 6) || eqI k 8)
/-- What a valid act is. -/
theorem act_valid (a : T22) : g48 a = some true → ActOk a ∧ (two a.kind_ = false → a.b_ = 0) := by
  intro h
  obtain ⟨b, h1, h2, h3⟩ := act48 a
  rw [h1] at h
  cases h
  refine ⟨h3 rfl, fun ht => ?_⟩
  have ho := h3 rfl
  unfold g50 g51 ActOk at *
  unfold two at ht
  rw [ht] at h2
  simp only [Option.bind_some, Bool.false_or] at h2
  split at h2
  · simpa [eqI] using h2
  · cases h2
theorem act_pieces {a : T22} (h : ActOk a) : cutL 32 (actT a) = if two a.kind_ = true then [wordL a.kind_, Lib.itoa a.a_, Lib.itoa a.b_] else [wordL a.kind_, Lib.itoa a.a_] := by
  obtain ⟨⟨k1, k2⟩, ⟨a1, a2⟩, b1, b2⟩ := h
  unfold actT two
  split
  · rw [show wordL a.kind_ ++ [32] ++ Lib.itoa a.a_ ++ ([32] ++ Lib.itoa a.b_) = wordL a.kind_ ++ 32 :: (Lib.itoa a.a_ ++ 32 :: Lib.itoa a.b_) by simp, cut_at (word_space k1 k2), cut_at (no_space a1), cut_none (no_space b1)]
  · rw [show wordL a.kind_ ++ [32] ++ Lib.itoa a.a_ ++ [] = wordL a.kind_ ++ 32 :: Lib.itoa a.a_ by simp, cut_at (word_space k1 k2), cut_none (no_space a1)]

/-- The place of a word among the words. -/
def placeW (w : List UInt8) : Int := match (List.range 10).findSome? (fun (i : Nat) => if w = wordsL.getD i [] then some (i : Int) else none) with
  | some i => i
  | none => -1
theorem index68 (w : List UInt8) : g68 (wordsL.map sb) (sb w) = some (placeW w) := by
  have hL := loop_scan (body := g68_L1 (wordsL.map sb) (sb w)) (n := 10) (fun i => if w = wordsL.getD i [] then some (.inr (i : Int)) else none) (.inl ()) (fun i hi => by
    have hl : i < (wordsL.map sb).length := hi
    rw [g68_L1, if_pos (by simp [ltI]; exact hi), idx_nat hl, Option.bind_some]
    have hg : (wordsL.map sb)[i] = sb (wordsL.getD i []) := by
      rw [List.getElem_map, List.getD_eq_getElem?_getD, List.getElem?_eq_getElem (by simpa using hl)]
      rfl
    rw [hg, eqS_sb]
    by_cases hw : w = wordsL.getD i []
    · rw [if_pos (by simpa using hw), if_pos hw]
    · rw [if_neg (by simpa using hw), if_neg hw, succI (by omega)]) (by
    rw [g68_L1, if_neg (by simp [ltI, wordsL])])
  unfold g68 placeW
  rw [hL]
  have key : ∀ l : List Nat, (l.findSome? fun (i : Nat) => if w = wordsL.getD i [] then some (Sum.inr (i : Int) : Unit ⊕ Int) else none) = (l.findSome? fun (i : Nat) => if w = wordsL.getD i [] then some (i : Int) else none).map Sum.inr := fun l => by
    induction l with
    | nil => rfl
    | cons a l ih =>
      simp only [List.findSome?_cons]
      split <;> rename_i h1 <;> split at h1 <;> simp_all
  rw [key]
  cases (List.range 10).findSome? fun (i : Nat) => if w = wordsL.getD i [] then some (i : Int) else none <;> rfl
theorem place_word {k : Int} (h1 : 1 ≤ k) (h2 : k ≤ 9) : placeW (wordL k) = k := by
  obtain ⟨n, rfl⟩ := Int.eq_ofNat_of_zero_le (show 0 ≤ k by omega)
  have : n < 10 := by omega
  match n, this with
  | 0, _ => omega
  | 1, _ | 2, _ | 3, _ | 4, _ | 5, _ | 6, _ | 7, _ | 8, _ | 9, _ => decide

/-- Reading as the program reads: what it finds is valid and has that text; and it finds each. -/
theorem read24 {s : List UInt8} (hs : s.length ≤ 1048576) : (∃ a, g48 a = some true ∧ actT a = s ∧ g24 (sb s) = some (a, 0)) ∨ ((∀ a, g48 a = some true → actT a ≠ s) ∧ g24 (sb s) = some (⟨0, 0, 0⟩, 5)) := by
  by_cases hex : ∃ a, g48 a = some true ∧ actT a = s
  · obtain ⟨a, hv, rfl⟩ := hex
    left
    refine ⟨a, hv, rfl, ?_⟩
    obtain ⟨ho, hb⟩ := act_valid a hv
    obtain ⟨b, c1, c2, c3⟩ := act48 a
    rw [hv] at c1
    cases c1
    have hp := act_pieces ho
    have ht := text12 c2 ho
    obtain ⟨⟨k1, k2⟩, ⟨a1, a2⟩, b1, b2⟩ := ho
    have pa := parse_itoa a1 (by omega)
    have pb := parse_itoa b1 (by omega)
    have la := itoa_len a1 (by omega)
    have lb := itoa_len b1 (by omega)
    have qa : parseIntO (sb (Lib.itoa a.a_)) 10 64 = some (a.a_, false) := by
      unfold parseIntO
      rw [if_pos ⟨rfl, rfl, by simp; omega⟩, pa]
    have qb : parseIntO (sb (Lib.itoa a.b_)) 10 64 = some (a.b_, false) := by
      unfold parseIntO
      rw [if_pos ⟨rfl, rfl, by simp; omega⟩, pb]
    have hd : ∀ (k : Int) (n m : Int), g24_j1 a.kind_ (a.a_, ⟨[], false⟩) (sb (actT a)) [] false a.b_ = some (a, 0) := fun k n m => by
      unfold g24_j1 g71
      simp only [Option.bind_some]
      rw [if_neg (by simp [eqI]), c2, Option.bind_some, Option.bind_some, if_neg (by simp), ht]
      simp [eqS_self]
    unfold g24 g99
    rw [show (⟨#[32]⟩ : ByteArray) = sb [32] from rfl, splitO_cut (by omega), Option.bind_some, words52, Option.bind_some, hp]
    by_cases h2 : two a.kind_ = true
    · rw [if_pos h2]
      unfold g70 g69 g100 g51
      simp only [List.map_cons, List.map_nil, List.length_cons, List.length_nil, List.tail_cons]
      have n3 : eqI ((0 + 1 + 1 + 1 : Nat) : Int) 0 = false := rfl
      have n2 : eqI ((0 + 1 + 1 : Nat) : Int) 0 = false := rfl
      have n1 : eqI ((0 + 1 : Nat) : Int) 0 = false := rfl
      have i0 : ∀ (x : ByteArray) (l : List ByteArray), idx (x :: l) 0 = some x := fun x l => rfl
      have ck3 : cutK 1 ((0 + 1 + 1 + 1 : Nat) : Int) (0 + 1 + 1 + 1) = some () := rfl
      have ck2 : cutK 1 ((0 + 1 + 1 : Nat) : Int) (0 + 1 + 1) = some () := rfl
      have ck1 : cutK 1 ((0 + 1 : Nat) : Int) (0 + 1) = some () := rfl
      simp only [n3, n2, n1, Bool.false_eq_true, if_false, i0, ck3, ck2, ck1, Option.bind_some, index68, place_word k1 k2, qa, qb, List.length_cons, List.length_nil, List.tail_cons, Bool.or_false]
      rw [if_pos (by unfold two at h2; exact h2)]
      exact hd 0 0 0
    · have h2' : two a.kind_ = false := by simpa using h2
      rw [if_neg h2]
      unfold g70 g69 g100 g51
      simp only [List.map_cons, List.map_nil, List.length_cons, List.length_nil, List.tail_cons]
      have n2 : eqI ((0 + 1 + 1 : Nat) : Int) 0 = false := rfl
      have n1 : eqI ((0 + 1 : Nat) : Int) 0 = false := rfl
      have i0 : ∀ (x : ByteArray) (l : List ByteArray), idx (x :: l) 0 = some x := fun x l => rfl
      have ck2 : cutK 1 ((0 + 1 + 1 : Nat) : Int) (0 + 1 + 1) = some () := rfl
      have ck1 : cutK 1 ((0 + 1 : Nat) : Int) (0 + 1) = some () := rfl
      simp only [n2, n1, Bool.false_eq_true, if_false, i0, ck2, ck1, Option.bind_some, index68, place_word k1 k2, qa, List.length_cons, List.length_nil, List.tail_cons, Bool.or_false]
      rw [if_neg (by unfold two at h2; exact h2)]
      have := hd 0 0 0
      rwa [hb h2'] at this
  · right
    refine ⟨fun a h1 h2 => hex ⟨a, h1, h2⟩, ?_⟩
    -- whatever it reads
    have key : ∀ (k : Int) (A : Int × T129) (l : List ByteArray) (bad : Bool) (B : Int), g24_j1 k A (sb s) l bad B = some (⟨0, 0, 0⟩, 5) := fun k A l bad B => by
      unfold g24_j1 g71
      simp only [Option.bind_some]
      obtain ⟨v, c1, c2, c3⟩ := act48 ⟨k, A.1, B⟩
      by_cases hd : (!(!bad && eqI (l.length : Int) 0)) = true
      · rw [if_pos hd, Option.bind_some, if_pos rfl, Option.bind_some, if_pos rfl]
      · rw [if_neg hd, c2, Option.bind_some, Option.bind_some]
        cases v with
        | false => rfl
        | true =>
          rw [if_neg (by simp), text12 c2 (c3 rfl), Option.bind_some, eqS_sb, Option.bind_some, if_pos]
          simpa using fun e => hex ⟨⟨k, A.1, B⟩, c1, e⟩
    have nxt : ∀ r : T129, (∀ x ∈ r.list_, x.size ≤ 1048576) → r.list_.length ≤ 2000000 → ∃ w r', g69 r = some (w, r') ∧ w.size ≤ 1048576 ∧ (∀ x ∈ r'.list_, x.size ≤ 1048576) ∧ r'.list_.length ≤ 2000000 ∧ (r.list_ ≠ [] → w ∈ r.list_) := fun r hr hl => by
      unfold g69
      cases hc : r.list_ with
      | nil => exact ⟨_, _, rfl, by simp [ByteArray.size], by simp, by simp, by simp⟩
      | cons x t =>
        rw [hc] at hr hl
        rw [if_neg (by simp [eqI]; omega), show idx (x :: t) 0 = some x from rfl, Option.bind_some, cutK_of (by omega) (by simp; omega) (by simp), Option.bind_some]
        exact ⟨_, _, rfl, hr x (by simp), fun y hy => hr y (by simp at hy; simp [hy]), by simp at hl ⊢; omega, by simp⟩
    have int : ∀ r : T129, (∀ x ∈ r.list_, x.size ≤ 1048576) → r.list_.length ≤ 2000000 → ∃ n r', g70 r = some (n, r') ∧ (∀ x ∈ r'.list_, x.size ≤ 1048576) ∧ r'.list_.length ≤ 2000000 := fun r hr hl => by
      obtain ⟨w, r', e, e1, e2, e3, _⟩ := nxt r hr hl
      unfold g70 g100 parseIntO
      rw [e, Option.bind_some, if_pos ⟨rfl, rfl, by show w.size ≤ _; omega⟩, Option.bind_some]
      exact ⟨_, _, rfl, e2, e3⟩
    have hpc := (cut_join (c := 32) _ s (Nat.le_refl _))
    have hlen : ∀ p ∈ cutL 32 s, p.length ≤ 1048576 := fun p hp => by
      have : ∀ (l : List (List UInt8)), p ∈ l → p.length ≤ (Lib.join l [32]).length := fun l => by
        induction l with
        | nil => intro h; cases h
        | cons x l ih =>
          intro h
          cases l with
          | nil => simp at h; subst h; simp [Lib.join, List.intercalate]
          | cons y l =>
            have e : Lib.join (x :: y :: l) [32] = x ++ [32] ++ Lib.join (y :: l) [32] := by simp [Lib.join, List.intercalate]
            rw [e]
            rcases List.mem_cons.1 h with rfl | h
            · first | (simp; done) | (simp; omega)
            · have := ih h; simp; omega
      have := this _ hp
      rw [hpc.1] at this
      omega
    have hnum : (cutL 32 s).length ≤ s.length + 1 := by
      have : ∀ (l : List (List UInt8)), l ≠ [] → l.length ≤ (Lib.join l [32]).length + 1 := fun l => by
        induction l with
        | nil => intro h; exact absurd rfl h
        | cons x l ih =>
          intro _
          cases l with
          | nil => simp
          | cons y l =>
            have e : Lib.join (x :: y :: l) [32] = x ++ [32] ++ Lib.join (y :: l) [32] := by simp [Lib.join, List.intercalate]
            have := ih (by simp)
            rw [e]
            simp at this ⊢
            omega
      have := this _ (cut_ne (c := 32) s)
      rwa [hpc.1] at this
    have h0 : ∀ x ∈ (cutL 32 s).map sb, x.size ≤ 1048576 := fun x hx => by
      obtain ⟨p, hp, rfl⟩ := List.mem_map.1 hx
      simpa using hlen p hp
    obtain ⟨w, r1, e1, _, f1, f2, f3⟩ := nxt ⟨(cutL 32 s).map sb, false⟩ h0 (by simp; omega)
    obtain ⟨A, r2, e2, m1, m2⟩ := int r1 f1 f2
    have hw : ∃ p, w = sb p := by
      have := f3 (by simpa using cut_ne (c := 32) s)
      obtain ⟨p, _, rfl⟩ := List.mem_map.1 this
      exact ⟨p, rfl⟩
    obtain ⟨p, rfl⟩ := hw
    unfold g24 g99
    rw [show (⟨#[32]⟩ : ByteArray) = sb [32] from rfl, splitO_cut (by omega), Option.bind_some, words52, Option.bind_some, e1, Option.bind_some, index68, Option.bind_some, e2, Option.bind_some]
    unfold g51
    rw [Option.bind_some]
    split
    · obtain ⟨B, r3, e3, _⟩ := int r2 m1 m2
      rw [e3, Option.bind_some, key]
    · rw [key]

/-- One kind's part of the reference's reading. -/
noncomputable def partK (k : Int) (r1 : List ByteArray) (want : Int) : Option (T22 × Bool) :=
  if (!eqI (r1.length : Int) want) = true then some ((⟨0, 0, 0⟩ : T22), false)
  else (idx r1 1).bind fun e => (g98 e).bind fun r345 =>
    if eqI want 3 = true then (idx r1 2).bind fun e348 => (g98 e348).bind fun r350 =>
      (if (r345.2 && r350.2) = true then (g48 (⟨k, r345.1, r350.1⟩ : T22)).bind fun r352 => some r352 else some false).bind fun w354 => some ((⟨k, r345.1, r350.1⟩ : T22), w354)
    else (if r345.2 = true then (g48 (⟨k, r345.1, 0⟩ : T22)).bind fun r357 => some r357 else some false).bind fun w359 => some ((⟨k, r345.1, 0⟩ : T22), w359)
theorem part_of {k : Int} {P : List (List UInt8)} (hP : P ≠ []) (hw : P.head? = some (wordL k)) : ∃ a ok, partK k (P.map sb) (if two k = true then 3 else 2) = some (a, ok) ∧ (ok = true → g48 a = some true ∧ a.kind_ = k ∧ Lib.join P [32] = actT a) ∧
    (∀ a', g48 a' = some true → a'.kind_ = k → P = (if two k = true then [wordL k, Lib.itoa a'.a_, Lib.itoa a'.b_] else [wordL k, Lib.itoa a'.a_]) → a = a' ∧ ok = true) := by
  unfold partK
  by_cases h2 : two k = true
  · simp only [h2, if_true]
    by_cases hl : P.length = 3
    · match P, hl, hw with
      | [w, x, y], _, hw =>
        simp only [List.head?_cons, Option.some.injEq] at hw
        subst hw
        rw [if_neg (by simp [eqI])]
        simp only [List.map_cons, List.map_nil]
        rw [show idx [sb (wordL k), sb x, sb y] 1 = some (sb x) from rfl, Option.bind_some, num98, Option.bind_some, if_pos (by rfl), show idx [sb (wordL k), sb x, sb y] 2 = some (sb y) from rfl, Option.bind_some, num98, Option.bind_some]
        obtain ⟨b, c1, c2, c3⟩ := act48 ⟨k, (numR x).1, (numR y).1⟩
        by_cases hn : ((numR x).2 && (numR y).2) = true
        · rw [if_pos hn, c1, Option.bind_some, Option.bind_some]
          simp only [Bool.and_eq_true] at hn
          have ex := numR_ok hn.1
          have ey := numR_ok hn.2
          refine ⟨_, _, rfl, fun hb => ?_, fun a' v1 v2 v3 => ?_⟩
          · subst hb
            refine ⟨c1, rfl, ?_⟩
            unfold actT
            rw [if_pos (by unfold two at h2; exact h2)]
            simp only [ex, ey]
            simp [Lib.join, List.intercalate]
          · obtain ⟨⟨⟨_, _⟩, ⟨a1, a2⟩, b1, b2⟩, _⟩ := act_valid a' v1
            simp only [List.cons.injEq, and_true, true_and] at v3
            obtain ⟨rfl, rfl⟩ := v3
            rw [numR_itoa a1 (by omega), numR_itoa b1 (by omega)] at c1 ⊢
            have : a' = ⟨k, a'.a_, a'.b_⟩ := by cases a'; subst v2; rfl
            rw [← this] at c1 ⊢
            rw [v1] at c1
            exact ⟨rfl, (Option.some.inj c1).symm⟩
        · rw [if_neg hn]
          refine ⟨_, _, rfl, fun hb => (by cases hb), fun a' v1 v2 v3 => ?_⟩
          obtain ⟨⟨⟨_, _⟩, ⟨a1, a2⟩, b1, b2⟩, _⟩ := act_valid a' v1
          simp only [List.cons.injEq, and_true, true_and] at v3
          obtain ⟨rfl, rfl⟩ := v3
          rw [numR_itoa a1 (by omega), numR_itoa b1 (by omega)] at hn
          exact absurd rfl hn
    · rw [if_pos (by simp [eqI]; omega)]
      exact ⟨_, _, rfl, fun hb => (by cases hb), fun a' v1 v2 v3 => absurd (by rw [v3]; rfl) hl⟩
  · have h2' : two k = false := by simpa using h2
    simp only [h2', Bool.false_eq_true, if_false]
    by_cases hl : P.length = 2
    · match P, hl, hw with
      | [w, x], _, hw =>
        simp only [List.head?_cons, Option.some.injEq] at hw
        subst hw
        rw [if_neg (by simp [eqI])]
        simp only [List.map_cons, List.map_nil]
        rw [show idx [sb (wordL k), sb x] 1 = some (sb x) from rfl, Option.bind_some, num98, Option.bind_some, if_neg (by decide)]
        obtain ⟨b, c1, c2, c3⟩ := act48 ⟨k, (numR x).1, 0⟩
        by_cases hn : (numR x).2 = true
        · rw [if_pos hn, c1, Option.bind_some, Option.bind_some]
          have ex := numR_ok hn
          refine ⟨_, _, rfl, fun hb => ?_, fun a' v1 v2 v3 => ?_⟩
          · subst hb
            refine ⟨c1, rfl, ?_⟩
            unfold actT
            rw [if_neg (by unfold two at h2; exact h2)]
            simp only [ex]
            simp [Lib.join, List.intercalate]
          · obtain ⟨⟨⟨_, _⟩, ⟨a1, a2⟩, b1, b2⟩, hz⟩ := act_valid a' v1
            simp only [List.cons.injEq, and_true, true_and] at v3
            subst v3
            rw [numR_itoa a1 (by omega)] at c1 ⊢
            have hb0 := hz (by rw [v2]; exact h2')
            have : a' = ⟨k, a'.a_, 0⟩ := by cases a'; simp only at v2 hb0; subst v2 hb0; rfl
            rw [← this] at c1 ⊢
            rw [v1] at c1
            exact ⟨rfl, (Option.some.inj c1).symm⟩
        · rw [if_neg hn]
          refine ⟨_, _, rfl, fun hb => (by cases hb), fun a' v1 v2 v3 => ?_⟩
          obtain ⟨⟨⟨_, _⟩, ⟨a1, a2⟩, b1, b2⟩, _⟩ := act_valid a' v1
          simp only [List.cons.injEq, and_true, true_and] at v3
          subst v3
          rw [numR_itoa a1 (by omega)] at hn
          exact absurd rfl hn
    · rw [if_pos (by simp [eqI]; omega)]
      exact ⟨_, _, rfl, fun hb => (by cases hb), fun a' v1 v2 v3 => absurd (by rw [v3]; rfl) hl⟩

theorem hit {s : List UInt8} {k : Int} (h1 : 1 ≤ k) (h2 : k ≤ 9) (hw : (cutL 32 s).head? = some (wordL k)) : ∃ a ok, partK k ((cutL 32 s).map sb) (if two k = true then 3 else 2) = some (a, ok) ∧ (ok = true → g48 a = some true ∧ actT a = s) ∧
    (∀ a', g48 a' = some true → actT a' = s → a = a' ∧ ok = true) := by
  obtain ⟨a, ok, e1, e2, e3⟩ := part_of (k := k) (cut_ne s) hw
  refine ⟨a, ok, e1, fun hb => ?_, fun a' v1 v2 => ?_⟩
  · obtain ⟨x1, x2, x3⟩ := e2 hb
    rw [(cut_join (c := 32) _ s (Nat.le_refl _)).1] at x3
    exact ⟨x1, x3.symm⟩
  · obtain ⟨ho, _⟩ := act_valid a' v1
    have hp := act_pieces ho
    rw [v2] at hp
    have hk : a'.kind_ = k := by
      have hh : (cutL 32 s).head? = some (wordL a'.kind_) := by rw [hp]; split <;> rfl
      rw [hw] at hh
      have := congrArg placeW (Option.some.inj hh)
      rw [place_word h1 h2, place_word ho.1.1 ho.1.2] at this
      exact this.symm
    rw [hk] at hp
    exact e3 a' v1 hk hp
theorem read66 {s : List UInt8} (hs : s.length ≤ 1048576) : ∃ a ok, g66 (sb s) = some (a, ok) ∧ (ok = true → g48 a = some true ∧ actT a = s) ∧ (∀ a', g48 a' = some true → actT a' = s → a = a' ∧ ok = true) := by
  have e72 : g72 (sb s) 32 = some ((cutL 32 s).map sb) := split72 (c := 32) hs
  obtain ⟨w, rest, hc⟩ : ∃ w rest, cutL 32 s = w :: rest := by
    cases hx : cutL 32 s with
    | nil => exact absurd hx (cut_ne s)
    | cons a b => exact ⟨a, b, rfl⟩
  unfold g66
  rw [e72, Option.bind_some, words94, Option.bind_some, hc]
  have i0 : idx ((w :: rest).map sb) 0 = some (sb w) := rfl
  have w1 := (word_at (k := 1) (by decide) (by decide)).1
  have w2 := (word_at (k := 2) (by decide) (by decide)).1
  have w3 := (word_at (k := 3) (by decide) (by decide)).1
  have w4 := (word_at (k := 4) (by decide) (by decide)).1
  have w5 := (word_at (k := 5) (by decide) (by decide)).1
  have w6 := (word_at (k := 6) (by decide) (by decide)).1
  have w7 := (word_at (k := 7) (by decide) (by decide)).1
  have w8 := (word_at (k := 8) (by decide) (by decide)).1
  have w9 := (word_at (k := 9) (by decide) (by decide)).1
  simp only [i0, w1, w2, w3, w4, w5, w6, w7, w8, w9, Option.bind_some, eqS_sb]
  by_cases c1 : w = wordL 1
  · rw [if_neg (by simp [c1])]
    have e : ((g93 1).bind fun r => if r = true then g66_j10 ((w :: rest).map sb) 3 else g66_j10 ((w :: rest).map sb) 2) = partK 1 ((w :: rest).map sb) (if two 1 = true then 3 else 2) := rfl
    rw [e, ← hc]
    exact hit (by decide) (by decide) (by rw [hc, c1]; rfl)
  rw [if_pos (by simpa using c1)]
  by_cases c2 : w = wordL 2
  · rw [if_neg (by simp [c2])]
    have e : ((g93 2).bind fun r => if r = true then g66_j9 ((w :: rest).map sb) 3 else g66_j9 ((w :: rest).map sb) 2) = partK 2 ((w :: rest).map sb) (if two 2 = true then 3 else 2) := rfl
    rw [e, ← hc]
    exact hit (by decide) (by decide) (by rw [hc, c2]; rfl)
  rw [if_pos (by simpa using c2)]
  by_cases c3 : w = wordL 3
  · rw [if_neg (by simp [c3])]
    have e : ((g93 3).bind fun r => if r = true then g66_j8 ((w :: rest).map sb) 3 else g66_j8 ((w :: rest).map sb) 2) = partK 3 ((w :: rest).map sb) (if two 3 = true then 3 else 2) := rfl
    rw [e, ← hc]
    exact hit (by decide) (by decide) (by rw [hc, c3]; rfl)
  rw [if_pos (by simpa using c3)]
  by_cases c4 : w = wordL 4
  · rw [if_neg (by simp [c4])]
    have e : ((g93 4).bind fun r => if r = true then g66_j7 ((w :: rest).map sb) 3 else g66_j7 ((w :: rest).map sb) 2) = partK 4 ((w :: rest).map sb) (if two 4 = true then 3 else 2) := rfl
    rw [e, ← hc]
    exact hit (by decide) (by decide) (by rw [hc, c4]; rfl)
  rw [if_pos (by simpa using c4)]
  by_cases c5 : w = wordL 5
  · rw [if_neg (by simp [c5])]
    have e : ((g93 5).bind fun r => if r = true then g66_j6 ((w :: rest).map sb) 3 else g66_j6 ((w :: rest).map sb) 2) = partK 5 ((w :: rest).map sb) (if two 5 = true then 3 else 2) := rfl
    rw [e, ← hc]
    exact hit (by decide) (by decide) (by rw [hc, c5]; rfl)
  rw [if_pos (by simpa using c5)]
  by_cases c6 : w = wordL 6
  · rw [if_neg (by simp [c6])]
    have e : ((g93 6).bind fun r => if r = true then g66_j5 ((w :: rest).map sb) 3 else g66_j5 ((w :: rest).map sb) 2) = partK 6 ((w :: rest).map sb) (if two 6 = true then 3 else 2) := rfl
    rw [e, ← hc]
    exact hit (by decide) (by decide) (by rw [hc, c6]; rfl)
  rw [if_pos (by simpa using c6)]
  by_cases c7 : w = wordL 7
  · rw [if_neg (by simp [c7])]
    have e : ((g93 7).bind fun r => if r = true then g66_j4 ((w :: rest).map sb) 3 else g66_j4 ((w :: rest).map sb) 2) = partK 7 ((w :: rest).map sb) (if two 7 = true then 3 else 2) := rfl
    rw [e, ← hc]
    exact hit (by decide) (by decide) (by rw [hc, c7]; rfl)
  rw [if_pos (by simpa using c7)]
  by_cases c8 : w = wordL 8
  · rw [if_neg (by simp [c8])]
    have e : ((g93 8).bind fun r => if r = true then g66_j3 ((w :: rest).map sb) 3 else g66_j3 ((w :: rest).map sb) 2) = partK 8 ((w :: rest).map sb) (if two 8 = true then 3 else 2) := rfl
    rw [e, ← hc]
    exact hit (by decide) (by decide) (by rw [hc, c8]; rfl)
  rw [if_pos (by simpa using c8)]
  by_cases c9 : w = wordL 9
  · rw [if_neg (by simp [c9])]
    have e : ((g93 9).bind fun r => if r = true then g66_j2 ((w :: rest).map sb) 3 else g66_j2 ((w :: rest).map sb) 2) = partK 9 ((w :: rest).map sb) (if two 9 = true then 3 else 2) := rfl
    rw [e, ← hc]
    exact hit (by decide) (by decide) (by rw [hc, c9]; rfl)
  rw [if_pos (by simpa using c9)]
  unfold g66_j1
  refine ⟨_, _, rfl, fun hb => (by cases hb), fun a' v1 v2 => ?_⟩
  obtain ⟨ho, _⟩ := act_valid a' v1
  have hp := act_pieces ho
  rw [v2, hc] at hp
  have hw : w = wordL a'.kind_ := by
    have := congrArg List.head? hp
    split at this <;> simpa using this
  obtain ⟨k1, k2⟩ := ho.1
  have hk : a'.kind_ = 1 ∨ a'.kind_ = 2 ∨ a'.kind_ = 3 ∨ a'.kind_ = 4 ∨ a'.kind_ = 5 ∨ a'.kind_ = 6 ∨ a'.kind_ = 7 ∨ a'.kind_ = 8 ∨ a'.kind_ = 9 := by omega
  rcases hk with h | h | h | h | h | h | h | h | h <;> rw [h] at hw <;> contradiction
theorem eq25 (a : T22) : g25 a a = some true := by
  unfold g25
  simp [eqI]

theorem law6 (aText : ByteArray) (h : aText.size ≤ maxLen) : g6 aText = some true := by
  obtain ⟨s, rfl⟩ : ∃ s, aText = sb s := ⟨_, (sb_self _).symm⟩
  unfold g6
  by_cases hc : ltI 1048576 ((sb s).size : Int) = true
  · rw [if_pos hc]
  rw [if_neg hc]
  have hs : s.length ≤ 1048576 := by simp [ltI] at hc; omega
  obtain ⟨a, ok, e1, e2, e3⟩ := read66 hs
  unfold g23
  rw [e1, Option.bind_some]
  rcases read24 hs with ⟨a', v1, v2, v3⟩ | ⟨v1, v2⟩
  · obtain ⟨rfl, rfl⟩ := e3 a' v1 v2
    rw [if_neg (by simp), Option.bind_some, v3, Option.bind_some, eq25, Option.bind_some, if_neg (by simp [eqI])]
  · cases ok with
    | true =>
      obtain ⟨x1, x2⟩ := e2 rfl
      exact absurd x2 (v1 a x1)
    | false =>
      rw [if_pos (by simp), Option.bind_some, v2, Option.bind_some, eq25, Option.bind_some, if_neg (by simp [eqI])]
end Go.Proofs.YtilkneilafpjiaaDoor
