/- Plain laws of reading flats: cutting, numerals, hexadecimal numbers. Plain laws of reading flats: numbers of single precision, and which of them are amounts. Plain laws of reading flats: numbers as texts, and back. Plain laws of reading flats: which flats are valid, told by both ways alike. Plain laws of reading flats: the text of a valid flat, told by both ways alike, and its lines. -/
import Derived.Test.YtbohajclnmmkhaaGreatDoorK3c
import Derived.Test.YtbohajclnmmkhaaGreatDoorK3c
import Derived.Test.YtbohajclnmmkhaaGreatDoorK3c
import Derived.Test.YtbohajclnmmkhaaGreatDoorK3c
import Derived.Test.YtbohajclnmmkhaaGreatDoorK3c
import Derived.Test.YtbohajclnmmkhaaGreatDoorK3c
import Derived.Test.YtbohajclnmmkhaaGreatDoorVxCut
import Derived.Test.YtbohajclnmmkhaaGreatDoorVxFth
import Derived.Test.YtbohajclnmmkhaaGreatDoorK3c
import Derived.Test.YtbohajclnmmkhaaGreatDoorK3c
import Derived.Test.YtbohajclnmmkhaaGreatDoorK3c
import Derived.Test.YtbohajclnmmkhaaGreatDoorK3c
import Derived.Test.YtbohajclnmmkhaaGreatDoorK3c
import Derived.Test.YtbohajclnmmkhaaGreatDoorK3c
import Derived.Test.YtbohajclnmmkhaaGreatDoorK3c
import Derived.Test.YtbohajclnmmkhaaGreatDoorK3c
namespace Go.Proofs.YtbohajclnmmkhaaGreatDoor
open Go.VL
set_option linter.unusedSimpArgs false
set_option linter.unusedVariables false
set_option maxHeartbeats 4000000
theorem dec95 {n : Int} (h0 : 0 ≤ n) (h1 : n < 1000000000000000000) : g61 n = some (sb (Lib.itoa n)) := dec_fix h0 h1
theorem split72 {s : List UInt8} {c : UInt8} (hs : s.length ≤ 1048576) : g9 (sb s) (c.toNat : Int) = some ((cutL c s).map sb) := by
  obtain ⟨r, e, hr⟩ := loopO_rule (body := g9_L1 (sb s) (c.toNat : Int)) (fun st => s.length - st.2.1.toNat)
    (fun st => ∃ (a q : Nat) (ds : List (List UInt8)), st = ((a : Int), (q : Int), ds.map sb) ∧ a ≤ q ∧ q ≤ s.length ∧ ds.length ≤ q ∧ c ∉ (s.drop a).take (q - a) ∧ cutL c s = ds ++ cutL c (s.drop a))
    (fun r => ∃ (a : Nat) (ds : List (List UInt8)), r = ((a : Int), ds.map sb) ∧ a ≤ s.length ∧ ds.length ≤ s.length ∧ c ∉ s.drop a ∧ cutL c s = ds ++ cutL c (s.drop a)) (fun st ⟨a, q, ds, e, h1, h2, h3, h4, h5⟩ => by
      subst e
      rw [g9_L1]
      by_cases hq : q < s.length
      · left
        have hsp : s.drop a = (s.drop a).take (q - a) ++ s[q] :: s.drop (q + 1) := by
          have e1 := List.take_append_drop (q - a) (s.drop a)
          rw [List.drop_drop, show a + (q - a) = q by omega] at e1
          rw [← List.drop_eq_getElem_cons hq] 
          exact e1.symm
        rw [if_pos (by simp [ltI]; omega), idxS_sb hq, Option.bind_some, u8_eq]
        by_cases hc : s[q] = c
        · rw [if_pos (by simp [hc]), cutK_of (by omega) (by omega) (by simp; omega), Option.bind_some, appK_of (by simp; omega) (by simp; omega), Option.bind_some, succI (by omega), Int.toNat_natCast, Int.toNat_natCast, ext_sb]
          refine ⟨_, rfl, ⟨q + 1, q + 1, ds ++ [(s.drop a).take (q - a)], by simp, by omega, by omega, by simp; omega, by simp, ?_⟩, by simp only; omega⟩
          rw [h5]
          conv => lhs; rw [hsp]
          rw [hc, cut_at h4]
          simp
        · rw [if_neg (by simp [hc]), succI (by omega)]
          refine ⟨_, rfl, ⟨a, q + 1, ds, rfl, by omega, by omega, by omega, ?_, h5⟩, by simp only; omega⟩
          rw [show q + 1 - a = (q - a) + 1 by omega, List.take_add_one]
          have : (s.drop a)[q - a]? = some s[q] := by rw [List.getElem?_drop, show a + (q - a) = q by omega, List.getElem?_eq_getElem hq]
          rw [this]
          simp only [List.mem_append, not_or]
          exact ⟨h4, by simpa using fun e => hc e.symm⟩
      · right
        rw [if_neg (by simp [ltI]; omega)]
        have hq' : q = s.length := by omega
        subst hq'
        refine ⟨_, rfl, a, ds, rfl, by omega, h3, ?_, h5⟩
        rwa [List.take_of_length_le (by simp)] at h4) (s := (0, 0, [])) ⟨0, 0, [], rfl, by omega, by omega, by simp, by simp, by simp⟩
  obtain ⟨a, ds, rfl, h1, h2, h3, h4⟩ := hr
  unfold g9 g9_j1
  rw [e, Option.bind_some, cutK_of (by simp) (by simp; omega) (by simp), Option.bind_some, appK_of (by simp; omega) (by simp; omega), Option.bind_some]
  rw [h4, cut_none h3]
  simp only [Int.toNat_natCast]
  rw [ext_sb, sb_size, List.take_of_length_le (by simp)]
  simp
def numR (s : List UInt8) : Int × Bool := if (numOk s && decide (s.length ≤ 9)) = true then ((valL 0 s : Nat), true) else (0, false)
theorem dig_of {c : UInt8} : isDig c = (!(ltI (c.toNat : Int) 48 || ltI 57 (c.toNat : Int))) := by
  unfold isDig ltI
  by_cases h1 : 48 ≤ c.toNat <;> by_cases h2 : c.toNat ≤ 57 <;> simp [h1, h2] <;> omega
theorem num98 (s : List UInt8) : g57 (sb s) = some (numR s) := by
  unfold g57
  by_cases h1 : s.length < 1 ∨ 9 < s.length
  · have hb : (ltI ((sb s).size : Int) 1 || ltI 9 ((sb s).size : Int)) = true := by
      simp [ltI]; omega
    rw [if_pos hb, Option.bind_some, if_pos rfl]
    have : (numOk s && decide (s.length ≤ 9)) = false := by
      rcases h1 with h1 | h1
      · have : s = [] := List.length_eq_zero_iff.1 (by omega)
        subst this; rfl
      · simp; omega
    unfold numR
    rw [this]
    rfl
  · have hb : ¬ (ltI ((sb s).size : Int) 1 || ltI 9 ((sb s).size : Int)) = true := by
      simp [ltI]; omega
    have hl : 1 ≤ s.length ∧ s.length ≤ 9 := by omega
    have h0 : 0 < s.length := by omega
    have hi0 : idxS (sb s) 0 = some (s[0].toNat : Int) := idxS_sb h0
    rw [if_neg hb, hi0, Option.bind_some, Option.bind_some]
    have hhead : (eqI (s[0].toNat : Int) 48 && ltI 1 ((sb s).size : Int)) = (s.head? == some 48 && decide (1 < s.length)) := by
      have : eqI (s[0].toNat : Int) 48 = decide (s[0] = 48) := u8_eq (b := 48)
      rw [this]
      cases s with
      | nil => simp at h0
      | cons x t =>
        by_cases hx : x = 48 <;> simp [ltI, hx]
        omega
    rw [hhead]
    by_cases hz : (s.head? == some 48 && decide (1 < s.length)) = true
    · rw [if_pos hz]
      unfold numR numOk
      rw [hz]
      simp
    · rw [if_neg hz]
      obtain ⟨r, e, hr⟩ := loopO_rule (body := g57_L1 (sb s)) (fun st => s.length - st.2.toNat)
        (fun st => ∃ q : Nat, st = (((valL 0 (s.take q) : Nat) : Int), (q : Int)) ∧ q ≤ s.length ∧ (s.take q).all isDig = true)
        (fun r => match r with
          | .inl y => s.all isDig = true ∧ y = (valL 0 s : Nat)
          | .inr z => s.all isDig = false ∧ z = (0, false)) (fun st ⟨q, e, q1, q2⟩ => by
          subst e
          rw [g57_L1]
          by_cases hq : q < s.length
          · have ht : s.take (q + 1) = s.take q ++ [s[q]] := List.take_succ_eq_append_getElem hq
            rw [if_pos (by simp [ltI]; omega), idxS_sb hq]
            simp only [Option.bind_some]
            by_cases hd : isDig s[q] = true
            · left
              have hd2 := hd
              rw [dig_of] at hd2
              simp only [Bool.not_eq_true', Bool.or_eq_false_iff] at hd2
              have hdd : 48 ≤ s[q].toNat ∧ s[q].toNat ≤ 57 := by simpa [isDig] using hd
              have hv := valL_lt (s.take q) 0 q2
              have hp : 10 ^ (s.take q).length ≤ 10 ^ 9 := Nat.pow_le_pow_right (by decide) (by simp; omega)
              have hp9 : (10 : Nat) ^ 9 = 1000000000 := rfl
              rw [if_neg (by rw [hd2.1]; simp), Option.bind_some, hd2.2, if_neg (by simp)]
              have hu : sI .u8 (s[q].toNat : Int) 48 = ((s[q].toNat - 48 : Nat) : Int) := by
                have hlt : s[q].toNat < 58 := by omega
                generalize s[q].toNat = k at hdd hlt
                have : ∀ k : Nat, k < 58 → 48 ≤ k → sI .u8 (k : Int) 48 = ((k - 48 : Nat) : Int) := by decide
                exact this k hlt hdd.1
              rw [hu, cI64 (by omega) (by omega), mI64 (by omega) (by omega), aI64 (by omega) (by omega), succI (by omega)]
              refine ⟨_, rfl, ⟨q + 1, ?_, by omega, by rw [ht, List.all_append, q2, List.all_cons, hd]; rfl⟩, by simp only; omega⟩
              rw [ht, valL_append]
              show (_, _) = (((valL 0 (s.take q) * 10 + (s[q].toNat - 48) : Nat) : Int), _)
              push_cast
              rfl
            · right
              have hd2 : isDig s[q] = false := by simpa using hd
              have hw : (if ltI (s[q].toNat : Int) 48 = true then some true else some (ltI 57 (s[q].toNat : Int))) = some true := by
                rw [dig_of] at hd2
                split
                · rfl
                · rename_i hn
                  have : ltI (s[q].toNat : Int) 48 = false := by simpa using hn
                  rw [this] at hd2
                  simpa using hd2
              rw [hw, Option.bind_some, if_pos rfl]
              refine ⟨_, rfl, ?_, rfl⟩
              rw [List.all_eq_false]
              exact ⟨s[q], List.getElem_mem hq, by simpa using hd2⟩
          · right
            rw [if_neg (by simp [ltI]; omega)]
            have : q = s.length := by omega
            subst this
            rw [List.take_length] at *
            exact ⟨_, rfl, q2, rfl⟩) (s := (0, 0)) ⟨0, rfl, by omega, rfl⟩
      rw [e, Option.bind_some]
      have hz' : (s.head? == some 48 && decide (1 < s.length)) = false := by simpa using hz
      unfold numR numOk
      rw [hz']
      cases r with
      | inl y =>
        obtain ⟨r1, r2⟩ := hr
        subst r2
        simp [g57_j1, r1, hl.1, hl.2]
      | inr z =>
        obtain ⟨r1, r2⟩ := hr
        subst r2
        simp [r1]
theorem numR_itoa {n : Int} (h0 : 0 ≤ n) (h1 : n < 10000) : numR (Lib.itoa n) = (n, true) := by
  obtain ⟨a, b⟩ := itoa_num h0
  have hl := itoa_len h0 h1
  unfold numR
  rw [a, b, if_pos (by simp; omega)]
theorem no_space {n : Int} (h0 : 0 ≤ n) : (32 : UInt8) ∉ Lib.itoa n := by
  obtain ⟨a, _⟩ := itoa_num h0
  simp only [numOk, Bool.and_eq_true] at a
  intro h
  have := List.all_eq_true.1 a.1.1 _ h
  exact absurd this (by decide)
theorem join_cons2 (x y : List UInt8) (l : List (List UInt8)) (s : List UInt8) : Lib.join (x :: y :: l) s = x ++ s ++ Lib.join (y :: l) s := by simp [Lib.join, List.intercalate]
theorem join_one (x s : List UInt8) : Lib.join [x] s = x := by simp [Lib.join, List.intercalate]
theorem cut_of_join {c : UInt8} : ∀ {ps : List (List UInt8)}, ps ≠ [] → (∀ p ∈ ps, c ∉ p) → cutL c (Lib.join ps [c]) = ps
  | [], h, _ => absurd rfl h
  | [x], _, h => by rw [join_one, cut_none (h x (by simp))]
  | x :: y :: l, _, h => by
    rw [join_cons2, show x ++ [c] ++ Lib.join (y :: l) [c] = x ++ c :: Lib.join (y :: l) [c] by simp, cut_at (h x (by simp)), cut_of_join (by simp) (fun p hp => h p (by simp only [List.mem_cons] at hp ⊢; exact .inr hp))]
theorem join_mem_len {c : UInt8} {p : List UInt8} : ∀ {l : List (List UInt8)}, p ∈ l → p.length ≤ (Lib.join l [c]).length
  | [], h => by cases h
  | [x], h => by simp at h; subst h; rw [join_one]; exact Nat.le_refl _
  | x :: y :: l, h => by
    rw [join_cons2]
    rcases List.mem_cons.1 h with rfl | h
    · simp
    · have := join_mem_len (c := c) h
      simp at this ⊢
      omega
theorem join_num_len {c : UInt8} : ∀ {l : List (List UInt8)}, l ≠ [] → l.length ≤ (Lib.join l [c]).length + 1
  | [], h => absurd rfl h
  | [x], _ => by simp
  | x :: y :: l, _ => by
    have := join_num_len (c := c) (l := y :: l) (by simp)
    rw [join_cons2]
    simp at this ⊢
    omega
theorem piece_len {c : UInt8} {s p : List UInt8} (h : p ∈ cutL c s) : p.length ≤ s.length := by
  have := join_mem_len (c := c) h
  rwa [(cut_join _ s (Nat.le_refl _)).1] at this
theorem pieces_len (c : UInt8) (s : List UInt8) : (cutL c s).length ≤ s.length + 1 := by
  have := join_num_len (c := c) (cut_ne (c := c) s)
  rwa [(cut_join _ s (Nat.le_refl _)).1] at this
theorem int70 {n : Int} (h0 : 0 ≤ n) (h1 : n < 10000) (l : List ByteArray) (b : Bool) (hl : l.length ≤ 2000000) : g17 ⟨sb (Lib.itoa n) :: l, b⟩ = some (n, ⟨l, b⟩) := by
  have pa := parse_itoa h0 (by omega)
  have la := itoa_len h0 h1
  unfold g17 g15 g42 parseIntO
  simp only [List.length_cons, List.tail_cons]
  rw [if_neg (by simp [eqI]; omega), show idx (sb (Lib.itoa n) :: l) 0 = some (sb (Lib.itoa n)) from rfl, Option.bind_some, cutK_of (by omega) (by simp; omega) (by simp), Option.bind_some, Option.bind_some, if_pos ⟨trivial, trivial, by simp; omega⟩, pa, Option.bind_some]
  simp
theorem next69 (w : ByteArray) (l : List ByteArray) (b : Bool) (hl : l.length ≤ 2000000) : g15 ⟨w :: l, b⟩ = some (w, ⟨l, b⟩) := by
  unfold g15
  simp only [List.length_cons, List.tail_cons]
  rw [if_neg (by simp [eqI]; omega), show idx (w :: l) 0 = some w from rfl, Option.bind_some, cutK_of (by omega) (by simp; omega) (by simp), Option.bind_some]
def Mod (r : T73) : Prop := (∀ x ∈ r.list_, x.size ≤ 1048576) ∧ r.list_.length ≤ 2000000
theorem next_any (r : T73) (h : Mod r) : ∃ w r', g15 r = some (w, r') ∧ w.size ≤ 1048576 ∧ Mod r' := by
  obtain ⟨hr, hl⟩ := h
  unfold g15
  cases hc : r.list_ with
  | nil => exact ⟨_, _, rfl, by simp [ByteArray.size], by simp [Mod]⟩
  | cons x t =>
    rw [hc] at hr hl
    rw [if_neg (by simp [eqI]; omega), show idx (x :: t) 0 = some x from rfl, Option.bind_some, cutK_of (by omega) (by simp; omega) (by simp), Option.bind_some]
    exact ⟨_, _, rfl, hr x (by simp), fun y hy => hr y (by simp at hy; simp [hy]), by simp at hl ⊢; omega⟩
theorem int_any (r : T73) (h : Mod r) : ∃ n r', g17 r = some (n, r') ∧ Mod r' := by
  obtain ⟨w, r', e, e1, e2⟩ := next_any r h
  unfold g17 g42 parseIntO
  rw [e, Option.bind_some, if_pos ⟨rfl, rfl, by show w.size ≤ _; omega⟩, Option.bind_some]
  exact ⟨_, _, rfl, e2⟩
theorem mod_cut {s : List UInt8} (hs : s.length ≤ 1048576) (c : UInt8) (b : Bool) : Mod ⟨(cutL c s).map sb, b⟩ := by
  refine ⟨fun x hx => ?_, ?_⟩
  · obtain ⟨p, hp, rfl⟩ := List.mem_map.1 hx
    have := piece_len hp
    simp; omega
  · have := pieces_len c s
    simp; omega
theorem join_snoc (c : List UInt8) (y : List UInt8) : ∀ {l : List (List UInt8)}, l ≠ [] → Lib.join (l ++ [y]) c = Lib.join l c ++ c ++ y
  | [], h => absurd rfl h
  | [x], _ => by simp [Lib.join, List.intercalate]
  | x :: z :: l, _ => by
    have ih := join_snoc c y (l := z :: l) (by simp)
    rw [List.cons_append, List.cons_append, join_cons2, ← List.cons_append, ih, join_cons2]
    simp
theorem dig_no {n : Int} (h0 : 0 ≤ n) {c : UInt8} (hc : isDig c = false) : c ∉ Lib.itoa n := by
  obtain ⟨a, _⟩ := itoa_num h0
  simp only [numOk, Bool.and_eq_true] at a
  intro h
  have := List.all_eq_true.1 a.1.1 _ h
  rw [hc] at this
  cases this
theorem join_no {c : UInt8} : ∀ {l : List (List UInt8)}, c ≠ 32 → (∀ p ∈ l, c ∉ p) → c ∉ Lib.join l [32]
  | [], _, _ => by simp [Lib.join]
  | [x], _, h => by rw [join_one]; exact h x (by simp)
  | x :: y :: l, hc, h => by
    rw [join_cons2]
    have ih := join_no (l := y :: l) hc (fun p hp => h p (by simp only [List.mem_cons] at hp ⊢; exact .inr hp))
    simp only [List.mem_append, List.mem_singleton, not_or]
    exact ⟨⟨h x (by simp), hc⟩, ih⟩
def hexD (c : UInt8) : Option Nat := if 48 ≤ c.toNat ∧ c.toNat ≤ 57 then some (c.toNat - 48) else if 97 ≤ c.toNat ∧ c.toNat ≤ 102 then some (c.toNat - 87) else none
theorem hexD_lt {c : UInt8} {d : Nat} (h : hexD c = some d) : d < 16 := by
  unfold hexD at h
  split at h
  · cases h; omega
  · split at h
    · cases h; omega
    · cases h
def hexV : List UInt8 → Nat → Option Nat
  | [], n => some n
  | c :: cs, n => match hexD c with
    | some d => hexV cs (16 * n + d)
    | none => none
theorem hexV_cons (c : UInt8) (cs : List UInt8) (n : Nat) : hexV (c :: cs) n = match hexD c with | some d => hexV cs (16 * n + d) | none => none := rfl
theorem hexV_bad {c : UInt8} (hc : hexD c = none) : ∀ {s : List UInt8} (n : Nat), c ∈ s → hexV s n = none
  | x :: xs, n, h => by
    unfold hexV
    rcases List.mem_cons.1 h with rfl | h
    · rw [hc]
    · cases hexD x with
      | none => rfl
      | some d => exact hexV_bad hc _ h
def hexR (s : List UInt8) : Option Nat := if s.length = 8 then hexV s 0 else none
theorem hex_loop {s : List UInt8} (h8 : s.length = 8) {body : Int × Int → Option ((Int × Int) ⊕ (Int ⊕ (Int × Bool)))}
    (h : ∀ (i n : Nat) (hi : i < 8), n < 16 ^ i → body ((n : Int), (i : Int)) = match hexD (s[i]'(by omega)) with | some d => some (.inl (((16 * n + d : Nat) : Int), ((i + 1 : Nat) : Int))) | none => some (.inr (.inr (0, false))))
    (h2 : ∀ n : Nat, body ((n : Int), ((8 : Nat) : Int)) = some (.inr (.inl (n : Int)))) :
    loopO body (0, 0) = some (match hexV s 0 with | some n => .inl (n : Int) | none => .inr (0, false)) := by
  obtain ⟨r, e, hr⟩ := loopO_rule (body := body) (fun st => 8 - st.2.toNat)
    (fun st => ∃ n i : Nat, st = ((n : Int), (i : Int)) ∧ i ≤ 8 ∧ n < 16 ^ i ∧ hexV (s.drop i) n = hexV s 0)
    (fun r => r = match hexV s 0 with | some n => .inl (n : Int) | none => .inr (0, false)) (fun st ⟨n, i, e, q1, q2, q3⟩ => by
      subst e
      by_cases hi : i < 8
      · rw [h i n hi q2]
        rw [List.drop_eq_getElem_cons (by omega)] at q3
        rw [hexV_cons] at q3
        cases hd : hexD (s[i]'(by omega)) with
        | some d =>
          rw [hd] at q3
          have := hexD_lt hd
          left
          refine ⟨_, rfl, ⟨_, _, rfl, by omega, by rw [Nat.pow_succ]; omega, q3⟩, by simp only; omega⟩
        | none =>
          rw [hd] at q3
          right
          refine ⟨_, rfl, ?_⟩
          simp only at q3
          rw [← q3]
      · right
        have hi8 : i = 8 := by omega
        subst hi8
        rw [h2]
        refine ⟨_, rfl, ?_⟩
        rw [List.drop_of_length_le (by omega)] at q3
        rw [← q3]
        rfl) (s := (0, 0)) ⟨0, 0, rfl, by omega, by decide, rfl⟩
  rw [e, hr]
theorem u8all {p : UInt8 → Prop} (h : ∀ n : Fin 256, p (UInt8.ofNat n.val)) (c : UInt8) : p c := by
  have := h ⟨c.toNat, c.toNat_lt⟩
  simpa using this
set_option maxRecDepth 100000 in
theorem index_hex (c : UInt8) : Lib.indexByte [48, 49, 50, 51, 52, 53, 54, 55, 56, 57, 97, 98, 99, 100, 101, 102] c = match hexD c with | some d => (d : Int) | none => -1 := by
  refine u8all (p := fun c => Lib.indexByte [48, 49, 50, 51, 52, 53, 54, 55, 56, 57, 97, 98, 99, 100, 101, 102] c = match hexD c with | some d => (d : Int) | none => -1) ?_ c
  decide
theorem u32a {a : Int} (h0 : 0 ≤ a) (h1 : a < 4294967296) : IntKind.wrap .u32 a = a := by
  unfold IntKind.wrap
  simp [IntKind.bits, IntKind.signed]
  omega
theorem u8a {a : Int} (h0 : 0 ≤ a) (h1 : a < 256) : IntKind.wrap .u8 a = a := by
  unfold IntKind.wrap
  simp [IntKind.bits, IntKind.signed]
  omega
theorem or16 {n d : Nat} (hn : n < 2 ^ 28) (hd : d < 16) : orI .u32 ((16 * n : Nat) : Int) (d : Int) = ((16 * n + d : Nat) : Int) := by
  unfold orI
  have : (BitVec.ofInt IntKind.u32.bits ((16 * n : Nat) : Int) ||| BitVec.ofInt IntKind.u32.bits (d : Int)).toNat = 16 * n + d := by
    rw [BitVec.toNat_or, BitVec.ofInt_natCast, BitVec.ofInt_natCast, BitVec.toNat_ofNat, BitVec.toNat_ofNat]
    show (16 * n) % 4294967296 ||| d % 4294967296 = _
    rw [Nat.mod_eq_of_lt (by omega), Nat.mod_eq_of_lt (by omega)]
    have := Nat.two_pow_add_eq_or_of_lt (i := 4) (b := d) (by omega) n
    simpa using this.symm
  rw [this]
  exact u32a (by omega) (by omega)
theorem hex80 (s : List UInt8) : ∃ n, g63 (sb s) = some (n, (hexR s).isSome) ∧ ∀ m, hexR s = some m → n = (m : Int) := by
  unfold g63 hexR
  by_cases h8 : s.length = 8
  · rw [if_neg (by simp [eqI, h8]), if_pos h8]
    have := hex_loop h8 (body := g63_L1 (sb s)) (fun i n hi hn => by
      have hn' : n < 2 ^ 28 := by
        have : (16 : Nat) ^ i ≤ 16 ^ 7 := Nat.pow_le_pow_right (by omega) (by omega)
        omega
      rw [g63_L1, if_pos (by simp [ltI, h8]; omega), idxS_sb (by omega), Option.bind_some]
      unfold g79 indexByteO indexByteB
      rw [Option.bind_some]
      have e : Lib.indexByte (⟨#[48, 49, 50, 51, 52, 53, 54, 55, 56, 57, 97, 98, 99, 100, 101, 102]⟩ : ByteArray).data.toList (((s[i]'(by omega)).toNat : Int).toNat.toUInt8) = match hexD (s[i]'(by omega)) with | some d => (d : Int) | none => -1 := by
        rw [show (((s[i]'(by omega)).toNat : Int).toNat.toUInt8) = s[i]'(by omega) by simp]
        exact index_hex _
      rw [e]
      cases hd : hexD (s[i]'(by omega)) with
      | none => simp [ltI]
      | some d =>
        have := hexD_lt hd
        simp only
        rw [if_neg (by simp [ltI]), show shlI .u32 (n : Int) 4 = some ((16 * n : Nat) : Int) by
          unfold shlI
          rw [if_neg (by decide)]
          rw [u32a (by simp [IntKind.bits]; omega) (by simp [IntKind.bits]; omega)]
          simp [IntKind.bits]; omega, Option.bind_some, show cI .u32 (d : Int) = d from u32a (by omega) (by omega), or16 hn' this, succI (by omega)]) (fun n => by
      rw [g63_L1, if_neg (by simp [ltI, h8])])
    rw [this]
    cases hexV s 0 with
    | some n => exact ⟨_, rfl, fun m e => by cases e; rfl⟩
    | none => exact ⟨_, rfl, fun m e => by cases e⟩
  · rw [if_pos (by simp [eqI]; omega), if_neg h8]
    exact ⟨0, rfl, fun m e => by cases e⟩
end Go.Proofs.YtbohajclnmmkhaaGreatDoor
namespace Go.Proofs.YtbohajclnmmkhaaGreatDoor
open Go.VL
set_option linter.unusedSimpArgs false
set_option linter.unusedVariables false
set_option maxHeartbeats 4000000

/-- What the bits below 2^32 stand for. -/
theorem single_cases {b : Nat} (hb : b < 4294967296) :
    (∃ m e, Ieee.single.read b = .number (decide (2147483648 ≤ b)) m e ∧ b % 2147483648 < 2139095040 ∧ (m = 0 ↔ b % 2147483648 = 0)) ∨ (Ieee.single.read b = .infinity (decide (2147483648 ≤ b)) ∧ b % 2147483648 = 2139095040) ∨ (∃ s t, Ieee.single.read b = .nan s t ∧ 2139095040 < b % 2147483648) := by
  have c1 : Ieee.single.signWeight = 2147483648 := by decide
  have c2 : Ieee.single.binade = 8388608 := by decide
  have c3 : Ieee.single.infRung = 2139095040 := by decide
  have hs : (b / 2147483648 % 2 == 1) = decide (2147483648 ≤ b) := by
    by_cases h : 2147483648 ≤ b
    · have : b / 2147483648 = 1 := by omega
      simp [this, h]
    · have : b / 2147483648 = 0 := by omega
      simp [this, h]
  unfold Ieee.Format.read
  simp only [c1, c2, c3, hs]
  by_cases h1 : b % 2147483648 < 8388608
  · left
    rw [if_pos h1]
    exact ⟨_, _, rfl, by omega, Iff.rfl⟩
  · rw [if_neg h1]
    by_cases h2 : b % 2147483648 < 2139095040
    · left
      rw [if_pos h2]
      exact ⟨_, _, rfl, h2, by omega⟩
    · rw [if_neg h2]
      by_cases h3 : b % 2147483648 = 2139095040
      · right; left
        rw [if_pos h3]
        exact ⟨rfl, h3⟩
      · right; right
        rw [if_neg h3]
        exact ⟨_, _, rfl, by omega⟩

theorem read0 : Ieee.single.read 0 = .number false 0 (-149) := by decide
theorem ord0 (s : Bool) (m : Nat) (e : Int) : (Ieee.Datum.number s m e).order (.number false 0 (-149)) = some (if m = 0 then .eq else if s = true then .lt else .gt) := by
  simp only [Ieee.Datum.order, Ieee.signed, Option.some.injEq, Nat.shiftLeft_eq, Nat.zero_mul]
  have hp : 0 < 2 ^ (e - min e (-149)).toNat := Nat.two_pow_pos _
  generalize 2 ^ (e - min e (-149)).toNat = p at hp
  by_cases hm : m = 0
  · subst hm
    cases s <;> simp
  · have h : 0 < m * p := Nat.mul_pos (by omega) hp
    generalize m * p = q at h
    rw [if_neg hm]
    cases s with
    | true =>
      simp only [if_true]
      exact Std.compare_eq_lt.2 (by simp; omega)
    | false =>
      simp only [Bool.false_eq_true, if_false]
      exact Std.compare_eq_gt.2 (by simp; omega)

def nanB (b : Nat) : Bool := decide (2139095040 < b % 2147483648)
def finB (b : Nat) : Bool := decide (b % 2147483648 < 2139095040)
def amt (b : Nat) : Bool := decide (b < 2139095040)

theorem ford0 {b : Nat} (hb : b < 4294967296) : ford .f32 (some b) (some 0) = if nanB b = true then none else some (if b % 2147483648 = 0 then .eq else if 2147483648 ≤ b then .lt else .gt) := by
  show Ieee.single.order b 0 = _
  unfold Ieee.Format.order
  rw [read0]
  unfold nanB
  rcases single_cases hb with ⟨m, e, h1, h2, h3⟩ | ⟨h1, h2⟩ | ⟨s, t, h1, h2⟩
  · have hn : ¬ 2139095040 < b % 2147483648 := by omega
    rw [h1, ord0]
    simp only [hn, decide_false, Bool.false_eq_true, if_false, h3, decide_eq_true_eq]
  · have hn : ¬ 2139095040 < b % 2147483648 := by omega
    have hz : ¬ b % 2147483648 = 0 := by omega
    rw [h1]
    simp only [Ieee.Datum.order, hn, hz, decide_false, Bool.false_eq_true, if_false, decide_eq_true_eq]
  · rw [h1, if_pos (by simpa using h2)]
    rfl
theorem ford_self0 {b : Nat} (hb : b < 4294967296) : ford .f32 (some b) (some b) = if nanB b = true then none else some .eq := by
  unfold nanB
  rcases single_cases hb with ⟨m, e, h1, h2, h3⟩ | ⟨h1, h2⟩ | ⟨s, t, h1, h2⟩
  · rw [if_neg (by simp; omega)]
    exact ford_self (k := .f32) (b := b) (by show (Ieee.single.read b).isNaN = false; rw [h1]; rfl)
  · rw [if_neg (by simp; omega)]
    exact ford_self (k := .f32) (b := b) (by show (Ieee.single.read b).isNaN = false; rw [h1]; rfl)
  · rw [if_pos (by simpa using h2)]
    show Ieee.single.order b b = none
    unfold Ieee.Format.order
    rw [h1]
    rfl
theorem sub_self {b : Nat} (hb : b < 4294967296) : subF .f32 (some b) (some b) = if finB b = true then some 0 else none := by
  show Ieee.single.sub b b = _
  unfold Ieee.Format.sub finB
  rcases single_cases hb with ⟨m, e, h1, h2, h3⟩ | ⟨h1, h2⟩ | ⟨s, t, h1, h2⟩
  · rw [h1, if_pos (by simpa using h2)]
    simp only [Ieee.Datum.opposite, Ieee.Datum.sum]
    have : Ieee.signed (decide (2147483648 ≤ b)) m (e - min e e).toNat + Ieee.signed (!decide (2147483648 ≤ b)) m (e - min e e).toNat = 0 := by
      unfold Ieee.signed
      cases decide (2147483648 ≤ b) <;> simp <;> omega
    rw [this]
    simp [Ieee.Format.write, Ieee.Format.nearest, Ieee.Format.word]
  · rw [h1, if_neg (by simp; omega)]
    simp [Ieee.Datum.opposite, Ieee.Datum.sum]
  · rw [h1, if_neg (by simp; omega)]
    rfl

/-- The reference's amounts. -/
theorem g58_eq {b : Nat} (hb : b < 4294967296) : g58 (some b) = some (amt b) := by
  unfold g58 g75
  rw [sub_self hb]
  simp only [Option.bind_some]
  have hg : gtF .f32 (some b) (some 0) = (decide (b % 2147483648 ≠ 0) && decide (b < 2147483648) && !nanB b) := by
    unfold gtF
    rw [ford0 hb]
    cases nanB b with
    | true => simp
    | false =>
      simp only [Bool.false_eq_true, if_false]
      by_cases h1 : b % 2147483648 = 0
      · simp [h1]
      · by_cases h2 : 2147483648 ≤ b
        · rw [if_neg h1, if_pos h2]; simp; omega
        · rw [if_neg h1, if_neg h2]; simp [h1]; omega
  rw [hg]
  have hf : f32bits (some b) = some (b : Int) := rfl
  rw [hf]
  unfold amt
  by_cases hfin : finB b = true
  · have h1 : b % 2147483648 < 2139095040 := by simpa [finB] using hfin
    have hn : nanB b = false := by simp [nanB]; omega
    rw [if_pos hfin, if_pos (by decide), hn]
    simp only [Option.bind_some]
    by_cases h2 : b < 2147483648
    · have : b % 2147483648 = b := Nat.mod_eq_of_lt h2
      rw [this] at h1 ⊢
      by_cases h3 : b = 0
      · subst h3; rfl
      · rw [if_pos (by simp [h2, h3])]
        simp [h1]
    · have e1 : decide (b < 2147483648) = false := by simpa using h2
      have e2 : eqI (b : Int) 0 = false := by simp [eqI]; omega
      have e3 : decide (b < 2139095040) = false := by simp; omega
      rw [e1, e2, e3]
      simp
  · have h1 : ¬ b % 2147483648 < 2139095040 := by simpa [finB] using hfin
    rw [if_neg hfin, if_neg (by decide)]
    have e3 : decide (b < 2139095040) = false := by simp; omega
    rw [e3]
    rfl

theorem double_abs (c : Nat) : (andnI .u64 (c : Int) 9223372036854775808) = ((c % 9223372036854775808 : Nat) : Int) := by
  unfold andnI
  have e : (BitVec.ofInt IntKind.u64.bits (c : Int) &&& ~~~ BitVec.ofInt IntKind.u64.bits 9223372036854775808).toNat = c % 9223372036854775808 := by
    show (BitVec.ofInt 64 (c : Int) &&& ~~~ BitVec.ofInt 64 9223372036854775808).toNat = _
    rw [BitVec.toNat_and, show (~~~ BitVec.ofInt 64 9223372036854775808) = BitVec.ofNat 64 (2 ^ 63 - 1) by decide, BitVec.ofInt_natCast, BitVec.toNat_ofNat, BitVec.toNat_ofNat]
    rw [show (2 ^ 63 - 1) % 2 ^ 64 = 2 ^ 63 - 1 by decide, Nat.and_two_pow_sub_one_eq_mod]
    omega
  rw [e]
  unfold IntKind.wrap
  simp [IntKind.bits, IntKind.signed]
  omega

theorem max_read : Ieee.double.read 9218868437227405311 = .number false 9007199254740991 971 := by decide
theorem not_gt_max {r : Nat} (h : r < 9218868437227405312) : gtF .f64 (some r) (some 9218868437227405311) = false := by
  have hne : ford .f64 (some r) (some 9218868437227405311) ≠ some .gt := by
    show Ieee.double.order r 9218868437227405311 ≠ some .gt
    unfold Ieee.Format.order
    rw [max_read]
    have c1 : Ieee.double.signWeight = 9223372036854775808 := by decide
    have c2 : Ieee.double.binade = 4503599627370496 := by decide
    have c3 : Ieee.double.infRung = 9218868437227405312 := by decide
    have c4 : Ieee.double.leastPlace = -1074 := by decide
    have key : ∀ (s : Bool) (m : Nat) (e : Int), m ≤ 9007199254740991 → e ≤ 971 → (Ieee.Datum.number s m e).order (.number false 9007199254740991 971) ≠ some .gt := fun s m e hm he => by
      simp only [Ieee.Datum.order, Ieee.signed, ne_eq, Option.some.injEq, Nat.shiftLeft_eq]
      rw [Std.compare_eq_gt, show min e 971 = e by omega, show (e - e).toNat = 0 by omega, Nat.pow_zero, Nat.mul_one]
      have hp : 0 < 2 ^ (971 - e).toNat := Nat.two_pow_pos _
      generalize 2 ^ (971 - e).toNat = p at hp
      have : 9007199254740991 ≤ 9007199254740991 * p := Nat.le_mul_of_pos_right _ hp
      cases s <;> simp <;> omega
    unfold Ieee.Format.read
    simp only [c1, c2, c3, c4]
    split
    · exact key _ _ _ (by omega) (by omega)
    · rw [if_pos (by omega)]
      refine key _ _ _ ?_ ?_
      · have : r % 9223372036854775808 % 4503599627370496 < 4503599627370496 := Nat.mod_lt _ (by decide)
        omega
      · have : r % 9223372036854775808 / 4503599627370496 ≤ 2046 := by omega
        omega
  unfold gtF
  simpa using hne

theorem fin67 {b : Nat} (hb : b < 4294967296) : g67 [some b] = some (finB b) := by
  have body : ∀ ok : Bool, ((g85 (wide (some b))).bind fun r63 => (if r63 = true then some true else (g86 (wide (some b)) 0).bind fun r65 => some r65)) = some (!ok) → g67 [some b] = some ok := fun ok h => by
    have e0 : g67_L1 [some b] ((0 : Nat) : Int) = if ok = true then some (.inl ((1 : Nat) : Int)) else some (.inr (.inr false)) := by
      rw [g67_L1, if_pos (by simp [ltI]), idx_nat (by simp), Option.bind_some]
      simp only [List.getElem_cons_zero]
      cases h85 : g85 (wide (some b)) with
      | none => rw [h85] at h; cases h
      | some r63 =>
        rw [h85, Option.bind_some] at h
        rw [Option.bind_some, h, Option.bind_some]
        cases ok with
        | true => rfl
        | false => rfl
    have e1 : g67_L1 [some b] ((1 : Nat) : Int) = some (.inr (.inl ())) := by
      rw [g67_L1, if_neg (by simp [ltI])]
    unfold g67
    cases ok with
    | true =>
      have : loopO (g67_L1 [some b]) 0 = some (.inl ()) := by
        have := loop_run (body := g67_L1 [some b]) (fun i => (i : Int)) 1 (fun i hi => by
          have : i = 0 := by omega
          subst this
          rw [e0]; rfl) e1
        simpa using this
      rw [this]; rfl
    | false =>
      have : loopO (g67_L1 [some b]) 0 = some (.inr false) := by
        have := loop_run (body := g67_L1 [some b]) (fun i => (i : Int)) 0 (fun i hi => by omega) (r := .inr false) (by rw [e0]; rfl)
        simpa using this
      rw [this]; rfl
  refine body _ ?_
  unfold finB
  rcases single_cases hb with ⟨m, e, h1, h2, h3⟩ | ⟨h1, h2⟩ | ⟨s, t, h1, h2⟩
  · have hd : decide (b % 2147483648 < 2139095040) = true := by simpa using h2
    rw [hd]
    obtain ⟨hm, he1, he2⟩ := single_read h1
    have hw : wide (some b) = some (Ieee.double.nearest (decide (2147483648 ≤ b)) m e) := by
      have := fconv_wide (some b)
      unfold fconv at this
      simp only [reduceCtorEq, if_false] at this
      have hdec : FloatKind.f32.decode b = _ := h1
      rw [hdec] at this
      simp only at this
      have hi := double_holds (s := decide (2147483648 ≤ b)) hm he1 he2
      have hi' : (FloatKind.f64.decode (FloatKind.f64.encode (.number (decide (2147483648 ≤ b)) m e))).isInfinity = false := hi
      rw [hi'] at this
      simp only [Bool.false_eq_true, if_false, Option.some.injEq] at this
      exact this.symm
    have hnan := nearest_num .f64 (decide (2147483648 ≤ b)) m e
    have hinf := double_holds (s := decide (2147483648 ≤ b)) hm he1 he2
    have hnan' : (Ieee.double.read (Ieee.double.nearest (decide (2147483648 ≤ b)) m e)).isNaN = false := hnan
    rw [hw]
    generalize Ieee.double.nearest (decide (2147483648 ≤ b)) m e = c at hnan' hinf
    have hr : c % 9223372036854775808 < 9218868437227405312 := by
      have c1 : Ieee.double.signWeight = 9223372036854775808 := by decide
      have c3 : Ieee.double.infRung = 9218868437227405312 := by decide
      have c2 : Ieee.double.binade = 4503599627370496 := by decide
      apply Decidable.byContradiction
      intro hh
      unfold Ieee.Format.read at hnan' hinf
      simp only [c1, c2, c3] at hnan' hinf
      rw [if_neg (by omega), if_neg (by omega)] at hnan' hinf
      split at hnan' <;> rename_i hq
      · rw [if_pos hq] at hinf; cases hinf
      · cases hnan'
    unfold g85 g86 g103
    have hs : neF .f64 (some c) (some c) = false := by
      have := ford_self (k := .f64) (b := c) hnan'
      simp [neF, this]
    rw [hs]
    simp only [Option.bind_some, Bool.false_eq_true, if_false]
    rw [if_pos (by rfl)]
    have hf : f64bits (some c) = some (c : Int) := rfl
    rw [hf]
    simp only [Option.bind_some, double_abs, f64of, Int.toNat_natCast]
    rw [not_gt_max hr]
    rfl
  · have hd : decide (b % 2147483648 < 2139095040) = false := by simp; omega
    rw [hd]
    have hw : wide (some b) = some (Ieee.double.word (decide (2147483648 ≤ b)) Ieee.double.infRung) := by
      have := fconv_wide (some b)
      unfold fconv at this
      simp only [reduceCtorEq, if_false] at this
      have hdec : FloatKind.f32.decode b = _ := h1
      rw [hdec] at this
      simp only [Option.some.injEq] at this
      exact this.symm
    rw [hw]
    cases decide (2147483648 ≤ b) <;> decide
  · have hd : decide (b % 2147483648 < 2139095040) = false := by simp; omega
    rw [hd]
    have hw : wide (some b) = none := by
      have := fconv_wide (some b)
      unfold fconv at this
      simp only [reduceCtorEq, if_false] at this
      have hdec : FloatKind.f32.decode b = _ := h1
      rw [hdec] at this
      simp only [Option.some.injEq] at this
      exact this.symm
    rw [hw]
    rfl

/-- The program's amounts. -/
theorem g46_eq {b : Nat} (hb : b < 4294967296) : g46 (some b) = some (amt b) := by
  unfold g46
  rw [fin67 hb, Option.bind_some]
  have hg : geF .f32 (some b) (some 0) = (!nanB b && (decide (b % 2147483648 = 0) || decide (b < 2147483648))) := by
    unfold geF
    rw [ford0 hb]
    cases nanB b with
    | true => simp
    | false =>
      simp only [Bool.false_eq_true, if_false]
      by_cases h1 : b % 2147483648 = 0
      · simp [h1]
      · by_cases h2 : 2147483648 ≤ b
        · rw [if_neg h1, if_pos h2]; simp [h1]; omega
        · rw [if_neg h1, if_neg h2]; simp [h1]; omega
  rw [hg]
  have hf : f32bits (some b) = some (b : Int) := rfl
  have hsh : shrI .u32 (b : Int) 31 = some ((b / 2147483648 : Nat) : Int) := by
    unfold shrI
    rw [if_neg (by decide), show min (31 : Int).toNat IntKind.u32.bits = 31 by decide, Int.fdiv_eq_ediv_of_nonneg _ (by decide)]
    simp
  rw [hf]
  simp only [Option.bind_some, hsh]
  unfold finB nanB amt
  by_cases h1 : b % 2147483648 < 2139095040
  · by_cases h2 : b < 2147483648
    · have : b % 2147483648 = b := Nat.mod_eq_of_lt h2
      have h3 : b / 2147483648 = 0 := Nat.div_eq_of_lt h2
      rw [if_pos (by simp [h1, h2]; omega), h3]
      simp [eqI]
      omega
    · have h3 : b / 2147483648 = 1 := by omega
      rw [h3]
      split
      · simp [eqI]; omega
      · simp; omega
  · rw [if_neg (by simp [h1])]
    simp
    omega

/-! ### The bits of a number -/
def canon (b : Nat) : Nat := if nanB b = true then 2143289344 else b
theorem ne_self {b : Nat} (hb : b < 4294967296) : neF .f32 (some b) (some b) = nanB b := by
  unfold neF
  rw [ford_self0 hb]
  cases nanB b <;> rfl
theorem g60_eq {b : Nat} (hb : b < 4294967296) : g60 (some b) = some (canon b : Int) := by
  unfold g60 canon
  rw [ne_self hb]
  cases nanB b <;> rfl
theorem canon_lt {b : Nat} (hb : b < 4294967296) : canon b < 4294967296 := by
  unfold canon
  split <;> omega
theorem ge_num {b c : Nat} (hb : b < 4294967296) (h : geF .f32 (some b) (some c) = true) : nanB b = false := by
  cases hn : nanB b with
  | false => rfl
  | true =>
    exfalso
    have h2 : 2139095040 < b % 2147483648 := by simpa [nanB] using hn
    rcases single_cases hb with ⟨m, e, h1, h3, _⟩ | ⟨h1, h3⟩ | ⟨s, t, h1, h3⟩
    · omega
    · omega
    · have : ford .f32 (some b) (some c) = none := by
        show Ieee.single.order b c = none
        unfold Ieee.Format.order
        rw [h1]
        rfl
      simp [geF, this] at h
theorem amt_num {b : Nat} (h : amt b = true) : nanB b = false := by
  have : b < 2139095040 := by simpa [amt] using h
  simp [nanB]
  omega
def heatB (b : Nat) : Bool := geF .f32 (some b) (some 3262119936) && leF .f32 (some b) (some 1128792064)
def storeB (b : Nat) : Bool := amt b && geF .f32 (some b) (some 1065353216) && leF .f32 (some b) (some 1176256512)
theorem g34_eq (b : Nat) : g34 (some b) = some (heatB b) := rfl
theorem g43_eq (b : Nat) : g43 (some b) = some (heatB b) := rfl
theorem g35_eq {b : Nat} (hb : b < 4294967296) : g35 (some b) = some (storeB b) := by
  unfold g35
  rw [g58_eq hb]
  rfl
theorem g44_eq {b : Nat} (hb : b < 4294967296) : g44 (some b) = some (storeB b) := by
  unfold g44 g47 storeB
  rw [g46_eq hb]
  cases amt b <;> rfl
theorem heat_num {b : Nat} (hb : b < 4294967296) (h : heatB b = true) : nanB b = false := by
  unfold heatB at h
  rw [Bool.and_eq_true] at h
  exact ge_num hb h.1
theorem store_num {b : Nat} (h : storeB b = true) : nanB b = false := by
  unfold storeB at h
  simp only [Bool.and_eq_true] at h
  exact amt_num h.1.1
end Go.Proofs.YtbohajclnmmkhaaGreatDoor
namespace Go.Proofs.YtbohajclnmmkhaaGreatDoor
open Go.VL
set_option linter.unusedSimpArgs false
set_option linter.unusedVariables false
set_option maxHeartbeats 4000000

def digs : List UInt8 := [48, 49, 50, 51, 52, 53, 54, 55, 56, 57, 97, 98, 99, 100, 101, 102]
def dg (d : Nat) : UInt8 := digs.getD d 0
theorem idxH {d : Nat} (h : d < 16) : idxS (⟨#[48, 49, 50, 51, 52, 53, 54, 55, 56, 57, 97, 98, 99, 100, 101, 102]⟩ : ByteArray) (d : Int) = some ((dg d).toNat : Int) := by
  have := idxS_sb (s := digs) (i := d) (by simpa [digs] using h)
  rw [show (⟨#[48, 49, 50, 51, 52, 53, 54, 55, 56, 57, 97, 98, 99, 100, 101, 102]⟩ : ByteArray) = sb digs from rfl, this]
  unfold dg
  rw [List.getD_eq_getElem?_getD, List.getElem?_eq_getElem (by simpa [digs] using h)]
  rfl
theorem hexD_dg {d : Nat} (h : d < 16) : hexD (dg d) = some d := by
  have : ∀ d : Fin 16, hexD (dg d.val) = some d.val := by decide
  exact this ⟨d, h⟩
theorem dg_no {d : Nat} (h : d < 16) : dg d ≠ 32 ∧ dg d ≠ 10 := by
  have : ∀ d : Fin 16, dg d.val ≠ 32 ∧ dg d.val ≠ 10 := by decide
  exact this ⟨d, h⟩
/-- The text of a number's bits. -/
def hexT (n : Nat) : List UInt8 := [dg (n / 268435456 % 16), dg (n / 16777216 % 16), dg (n / 1048576 % 16), dg (n / 65536 % 16), dg (n / 4096 % 16), dg (n / 256 % 16), dg (n / 16 % 16), dg (n % 16)]
theorem hexT_len (n : Nat) : (hexT n).length = 8 := rfl
theorem hexT_no (n : Nat) {c : UInt8} (hc : c = 32 ∨ c = 10) : c ∉ hexT n := by
  intro h
  have key : ∀ d, d < 16 → c ≠ dg d := fun d hd e => by
    have := dg_no hd
    rcases hc with rfl | rfl
    · exact this.1 e.symm
    · exact this.2 e.symm
  simp only [hexT, List.mem_cons, List.not_mem_nil, or_false] at h
  have hm : ∀ x : Nat, x % 16 < 16 := fun x => Nat.mod_lt _ (by decide)
  rcases h with h | h | h | h | h | h | h | h <;> exact key _ (hm _) h
theorem hexV_T {n : Nat} (h : n < 4294967296) : hexV (hexT n) 0 = some n := by
  have hm : ∀ x : Nat, x % 16 < 16 := fun x => Nat.mod_lt _ (by decide)
  unfold hexT
  simp only [hexV_cons, hexD_dg (hm _)]
  unfold hexV
  congr 1
  omega
theorem hexR_T {n : Nat} (h : n < 4294967296) : hexR (hexT n) = some n := by
  unfold hexR
  rw [if_pos (hexT_len n), hexV_T h]
theorem hexV_lt : ∀ (s : List UInt8) (n m : Nat), hexV s n = some m → m < (n + 1) * 16 ^ s.length
  | [], n, m, h => by cases h; simp
  | c :: cs, n, m, h => by
    rw [hexV_cons] at h
    split at h
    · rename_i d hd
      have := hexV_lt cs _ _ h
      have h16 := hexD_lt hd
      have : (16 * n + d + 1) * 16 ^ cs.length ≤ (16 * (n + 1)) * 16 ^ cs.length := Nat.mul_le_mul_right _ (by omega)
      rw [List.length_cons, Nat.pow_succ]
      have e : (16 * (n + 1)) * 16 ^ cs.length = (n + 1) * (16 ^ cs.length * 16) := by rw [Nat.mul_comm 16 (n + 1), Nat.mul_assoc, Nat.mul_comm 16]
      omega
    · cases h
theorem hexR_lt {s : List UInt8} {m : Nat} (h : hexR s = some m) : m < 4294967296 := by
  unfold hexR at h
  split at h
  · rename_i h8
    have := hexV_lt s 0 m h
    rw [h8] at this
    simpa using this
  · cases h

theorem rI16 (n : Nat) : rI .u32 (n : Int) 16 = some ((n % 16 : Nat) : Int) := by
  unfold rI
  rw [if_neg (by decide), Int.tmod_eq_emod_of_nonneg (by omega)]
  simp
theorem dI16 {n : Nat} (h : n < 4294967296) : dI .u32 (n : Int) 16 = some ((n / 16 : Nat) : Int) := by
  unfold dI
  rw [if_neg (by decide), Int.tdiv_eq_ediv_of_nonneg (by omega), show ((n : Int) / 16) = ((n / 16 : Nat) : Int) by simp, u32a (by omega) (by omega)]
theorem idxU {α β : Type} {l : List α} {i : Int} (h0 : 0 ≤ i) (h : i.toNat < l.length) {K : Option β} : ((idx l i).bind fun _ => K) = K := by
  rw [idx_of h0 h]
  rfl
theorem nums_sb (l : List UInt8) : strOfNums (l.map fun c => (c.toNat : Int)) = sb l := by
  unfold strOfNums
  rw [List.map_map]
  have : (l.map ((fun n : Int => UInt8.ofNat n.toNat) ∘ fun c : UInt8 => (c.toNat : Int))) = l := by
    conv => rhs; rw [← List.map_id l]
    refine List.map_congr_left fun c _ => ?_
    simp
  rw [this]
  rfl
theorem g38_eq {b : Nat} (hb : b < 4294967296) : g38 (some b) = some (sb (hexT (canon b))) := by
  unfold g38
  rw [g60_eq hb, Option.bind_some]
  have hn := canon_lt hb
  generalize canon b = n at hn
  have hm : ∀ x : Nat, x % 16 < 16 := fun x => Nat.mod_lt _ (by decide)
  rw [rI16, Option.bind_some, idxH (hm _), Option.bind_some, idxU (by decide) (by simp)]
  rw [dI16 hn, Option.bind_some, rI16, Option.bind_some, idxH (hm _), Option.bind_some, idxU (by decide) (by simp)]
  rw [dI16 (by omega), Option.bind_some, rI16, Option.bind_some, idxH (hm _), Option.bind_some, idxU (by decide) (by simp)]
  rw [dI16 (by omega), Option.bind_some, rI16, Option.bind_some, idxH (hm _), Option.bind_some, idxU (by decide) (by simp)]
  rw [dI16 (by omega), Option.bind_some, rI16, Option.bind_some, idxH (hm _), Option.bind_some, idxU (by decide) (by simp)]
  rw [dI16 (by omega), Option.bind_some, rI16, Option.bind_some, idxH (hm _), Option.bind_some, idxU (by decide) (by simp)]
  rw [dI16 (by omega), Option.bind_some, rI16, Option.bind_some, idxH (hm _), Option.bind_some, idxU (by decide) (by simp)]
  rw [dI16 (by omega), Option.bind_some, rI16, Option.bind_some, idxH (hm _), Option.bind_some, idxU (by decide) (by simp)]
  rw [dI16 (by omega), Option.bind_some]
  unfold g38_j1
  have e2 : n / 16 / 16 = n / 256 := by omega
  have e3 : n / 256 / 16 = n / 4096 := by omega
  have e4 : n / 4096 / 16 = n / 65536 := by omega
  have e5 : n / 65536 / 16 = n / 1048576 := by omega
  have e6 : n / 1048576 / 16 = n / 16777216 := by omega
  have e7 : n / 16777216 / 16 = n / 268435456 := by omega
  rw [e2, e3, e4, e5, e6, e7, ← nums_sb]
  rfl

theorem and15 {m : Nat} (h : m < 4294967296) : andI .u32 (m : Int) 15 = ((m % 16 : Nat) : Int) := by
  unfold andI
  have e : (BitVec.ofInt IntKind.u32.bits (m : Int) &&& BitVec.ofInt IntKind.u32.bits 15).toNat = m % 16 := by
    show (BitVec.ofInt 32 (m : Int) &&& BitVec.ofInt 32 15).toNat = _
    rw [BitVec.toNat_and, show (BitVec.ofInt 32 15) = BitVec.ofNat 32 (2 ^ 4 - 1) by decide, BitVec.ofInt_natCast, BitVec.toNat_ofNat, BitVec.toNat_ofNat]
    rw [show (2 ^ 4 - 1) % 2 ^ 32 = 2 ^ 4 - 1 by decide, Nat.and_two_pow_sub_one_eq_mod]
    omega
  rw [e]
  exact u32a (by omega) (by omega)
theorem shr_at {n i : Nat} (hi : i < 8) : shrI .u32 (n : Int) (sI .i64 28 (mI .i64 4 (i : Int))) = some ((n / 2 ^ (28 - 4 * i) : Nat) : Int) := by
  rw [mI64 (by omega) (by omega), sI64 (by omega) (by omega)]
  unfold shrI
  rw [if_neg (by omega), Int.fdiv_eq_ediv_of_nonneg _ (Int.le_of_lt (Int.pow_pos (by decide)))]
  have e : min (28 - 4 * (i : Int)).toNat IntKind.u32.bits = 28 - 4 * i := by
    show min (28 - 4 * (i : Int)).toNat 32 = _
    omega
  rw [e]
  congr 1
theorem hexT_at {n i : Nat} (hi : i < 8) : (hexT n)[i]? = some (dg (n / 2 ^ (28 - 4 * i) % 16)) := by
  match i, hi with
  | 0, _ => rfl
  | 1, _ => rfl
  | 2, _ => rfl
  | 3, _ => rfl
  | 4, _ => rfl
  | 5, _ => rfl
  | 6, _ => rfl
  | 7, _ => simp [hexT]
theorem set_fill {A : List Int} {e : Int} {k : Nat} : (A ++ List.replicate (k + 1) 0).set A.length e = (A ++ [e]) ++ List.replicate k 0 := by
  rw [List.set_append_right _ _ (Nat.le_refl _), Nat.sub_self, List.replicate_succ]
  simp
theorem g69_eq {n : Nat} (hn : n < 4294967296) : g69 (n : Int) = some (sb (hexT n)) := by
  have hm : ∀ x : Nat, x % 16 < 16 := fun x => Nat.mod_lt _ (by decide)
  have hL : loopO (g69_L1 (n : Int)) (0, List.replicate 8 0) = some ((hexT n).map fun c => (c.toNat : Int)) := by
    have := loop_run (body := g69_L1 (n : Int)) (fun i => ((i : Int), (((hexT n).take i).map fun c => (c.toNat : Int)) ++ List.replicate (8 - i) 0)) 8 (fun i hi => by
      have hd : n / 2 ^ (28 - 4 * i) < 4294967296 := Nat.lt_of_le_of_lt (Nat.div_le_self _ _) hn
      have hl : (((hexT n).take i).map fun c => (c.toNat : Int)).length = i := by simp [hexT_len]; omega
      rw [g69_L1, if_pos (by simp [ltI]; omega), shr_at hi, Option.bind_some, and15 hd, idxH (hm _), Option.bind_some, idxU (by omega) (by simp [hexT_len]; omega), succI (by omega), Int.toNat_natCast]
      have hs := set_fill (A := ((hexT n).take i).map fun c => (c.toNat : Int)) (e := ((dg (n / 2 ^ (28 - 4 * i) % 16)).toNat : Int)) (k := 7 - i)
      rw [hl, show 7 - i + 1 = 8 - i by omega] at hs
      rw [hs]
      have ht : (hexT n).take (i + 1) = (hexT n).take i ++ [dg (n / 2 ^ (28 - 4 * i) % 16)] := by
        rw [List.take_add_one, hexT_at hi]
        rfl
      rw [ht, List.map_append, show 8 - (i + 1) = 7 - i by omega]
      rfl) (r := (hexT n).map fun c => (c.toNat : Int)) (by
      rw [g69_L1, if_neg (by simp [ltI])]
      rw [List.take_of_length_le (by simp [hexT_len])]
      simp)
    simpa using this
  unfold g69
  rw [hL, Option.bind_some]
  unfold g69_j1
  rw [nums_sb]
theorem g49_eq {b : Nat} (hb : b < 4294967296) : g49 (some b) = some (sb (hexT (canon b))) := by
  unfold g49 canon
  rw [ne_self hb]
  cases nanB b with
  | true =>
    rw [if_pos rfl, if_pos rfl]
    decide
  | false =>
    rw [if_neg (by decide), if_neg (by decide), show f32bits (some b) = some (b : Int) from rfl, Option.bind_some, g69_eq hb]
    rfl

/-! ### Back -/
theorem read41 {n : Nat} (hn : n < 4294967296) (h : nanB n = false) : g41 (sb (hexT n)) = some (some n, 0) := by
  obtain ⟨k, e1, e2⟩ := hex80 (hexT n)
  rw [hexR_T hn] at e1 e2
  have := e2 n rfl
  subst this
  unfold g41
  rw [e1, Option.bind_some]
  have hf : f32of (n : Int) = some n := rfl
  have hc : canon n = n := by unfold canon; rw [h]; rfl
  simp only [Option.isSome_some, Bool.not_true, Bool.false_eq_true, if_false, hf]
  rw [g49_eq hn, Option.bind_some, Option.bind_some, hc, eqS_self]
  rfl
theorem any41 (s : List UInt8) : ∃ k c, g41 (sb s) = some (some k, c) ∧ k < 4294967296 := by
  obtain ⟨n, e1, e2⟩ := hex80 s
  unfold g41
  rw [e1, Option.bind_some]
  cases h : hexR s with
  | none =>
    simp only [Option.isSome_none, Bool.not_false, if_true, Option.bind_some]
    exact ⟨0, 5, rfl, by decide⟩
  | some m =>
    have := e2 m h
    subst this
    have hm := hexR_lt h
    have hf : f32of (m : Int) = some m := rfl
    simp only [Option.isSome_some, Bool.not_true, Bool.false_eq_true, if_false, hf]
    rw [g49_eq hm, Option.bind_some, Option.bind_some]
    split
    · exact ⟨0, 5, rfl, by decide⟩
    · exact ⟨m, 0, rfl, hm⟩

theorem hexstep {α : Type} {c : UInt8} {d n : Nat} (hd : hexD c = some d) (hn : n < 268435456) (K : Int → Option α) (X : Option α) :
    (if (leI 48 (c.toNat : Int) && leI (c.toNat : Int) 57) = true then K (aI .u32 (mI .u32 (n : Int) 16) (cI .u32 (sI .u8 (c.toNat : Int) 48)))
    else if (leI 97 (c.toNat : Int) && leI (c.toNat : Int) 102) = true then K (aI .u32 (aI .u32 (mI .u32 (n : Int) 16) (cI .u32 (sI .u8 (c.toNat : Int) 97))) 10) else X) = K ((16 * n + d : Nat) : Int) := by
  have hc := c.toNat_lt
  unfold hexD at hd
  by_cases h1 : 48 ≤ c.toNat ∧ c.toNat ≤ 57
  · rw [if_pos h1] at hd
    cases hd
    rw [if_pos (by simp [leI]; omega)]
    have e1 : mI .u32 (n : Int) 16 = ((n * 16 : Nat) : Int) := by unfold mI; rw [u32a (by omega) (by omega)]; simp
    have e2 : sI .u8 (c.toNat : Int) 48 = ((c.toNat - 48 : Nat) : Int) := by unfold sI; rw [u8a (by omega) (by omega)]; omega
    have e3 : cI .u32 ((c.toNat - 48 : Nat) : Int) = ((c.toNat - 48 : Nat) : Int) := u32a (by omega) (by omega)
    have e4 : aI .u32 ((n * 16 : Nat) : Int) ((c.toNat - 48 : Nat) : Int) = ((16 * n + (c.toNat - 48) : Nat) : Int) := by unfold aI; rw [u32a (by omega) (by omega)]; omega
    rw [e1, e2, e3, e4]
  · rw [if_neg h1] at hd
    rw [if_neg (by simp [leI]; omega)]
    by_cases h2 : 97 ≤ c.toNat ∧ c.toNat ≤ 102
    · rw [if_pos h2] at hd
      cases hd
      rw [if_pos (by simp [leI]; omega)]
      have e1 : mI .u32 (n : Int) 16 = ((n * 16 : Nat) : Int) := by unfold mI; rw [u32a (by omega) (by omega)]; simp
      have e2 : sI .u8 (c.toNat : Int) 97 = ((c.toNat - 97 : Nat) : Int) := by unfold sI; rw [u8a (by omega) (by omega)]; omega
      have e3 : cI .u32 ((c.toNat - 97 : Nat) : Int) = ((c.toNat - 97 : Nat) : Int) := u32a (by omega) (by omega)
      have e4 : aI .u32 ((n * 16 : Nat) : Int) ((c.toNat - 97 : Nat) : Int) = ((16 * n + (c.toNat - 97) : Nat) : Int) := by unfold aI; rw [u32a (by omega) (by omega)]; omega
      have e5 : aI .u32 ((16 * n + (c.toNat - 97) : Nat) : Int) 10 = ((16 * n + (c.toNat - 87) : Nat) : Int) := by unfold aI; rw [u32a (by omega) (by omega)]; omega
      rw [e1, e2, e3, e4, e5]
    · rw [if_neg h2] at hd
      cases hd
theorem read56 {n : Nat} (hn : n < 4294967296) (h : nanB n = false) : g56 (sb (hexT n)) = some (some n, true) := by
  have hm : ∀ x : Nat, x % 16 < 16 := fun x => Nat.mod_lt _ (by decide)
  have at_ : ∀ (i : Nat) (hi : i < 8), idxS (sb (hexT n)) (i : Int) = some (((dg (n / 2 ^ (28 - 4 * i) % 16)).toNat : Nat) : Int) := fun i hi => by
    rw [idxS_sb (by rw [hexT_len]; exact hi)]
    have := hexT_at (n := n) hi
    rw [List.getElem?_eq_getElem (by rw [hexT_len]; exact hi)] at this
    rw [Option.some.inj this]
  have a0 : idxS (sb (hexT n)) 0 = some (((dg (n / 268435456 % 16)).toNat : Nat) : Int) := at_ 0 (by decide)
  have a1 : idxS (sb (hexT n)) 1 = some (((dg (n / 16777216 % 16)).toNat : Nat) : Int) := at_ 1 (by decide)
  have a2 : idxS (sb (hexT n)) 2 = some (((dg (n / 1048576 % 16)).toNat : Nat) : Int) := at_ 2 (by decide)
  have a3 : idxS (sb (hexT n)) 3 = some (((dg (n / 65536 % 16)).toNat : Nat) : Int) := at_ 3 (by decide)
  have a4 : idxS (sb (hexT n)) 4 = some (((dg (n / 4096 % 16)).toNat : Nat) : Int) := at_ 4 (by decide)
  have a5 : idxS (sb (hexT n)) 5 = some (((dg (n / 256 % 16)).toNat : Nat) : Int) := at_ 5 (by decide)
  have a6 : idxS (sb (hexT n)) 6 = some (((dg (n / 16 % 16)).toNat : Nat) : Int) := at_ 6 (by decide)
  have a7 : idxS (sb (hexT n)) 7 = some (((dg (n / 1 % 16)).toNat : Nat) : Int) := at_ 7 (by decide)
  have hd : ∀ x : Nat, hexD (dg (x % 16)) = some (x % 16) := fun x => hexD_dg (hm x)
  have last : g56_j9 (n : Int) = some (some n, true) := by
    unfold g56_j9 g56_j1
    have hf : f32of (n : Int) = some n := rfl
    have hc : canon n = n := by unfold canon; rw [h]; rfl
    rw [hf, g60_eq hn, Option.bind_some, hc]
    simp [eqI]
  unfold g56
  rw [if_neg (by simp [eqI, hexT_len]), a0, Option.bind_some]
  have s0 := hexstep (n := 0) (hd (n / 268435456)) (by decide) (fun x => g56_j2 (sb (hexT n)) x) (some ((some 0 : F32), false))
  rw [show mI .u32 ((0 : Nat) : Int) 16 = 0 by decide] at s0
  refine s0.trans ?_
  simp only [g56_j2, a1, Option.bind_some]
  refine (hexstep (hd _) (by omega) (fun x => g56_j3 (sb (hexT n)) x) _).trans ?_
  simp only [g56_j3, a2, Option.bind_some]
  refine (hexstep (hd _) (by omega) (fun x => g56_j4 (sb (hexT n)) x) _).trans ?_
  simp only [g56_j4, a3, Option.bind_some]
  refine (hexstep (hd _) (by omega) (fun x => g56_j5 (sb (hexT n)) x) _).trans ?_
  simp only [g56_j5, a4, Option.bind_some]
  refine (hexstep (hd _) (by omega) (fun x => g56_j6 (sb (hexT n)) x) _).trans ?_
  simp only [g56_j6, a5, Option.bind_some]
  refine (hexstep (hd _) (by omega) (fun x => g56_j7 (sb (hexT n)) x) _).trans ?_
  simp only [g56_j7, a6, Option.bind_some]
  refine (hexstep (hd _) (by omega) (fun x => g56_j8 (sb (hexT n)) x) _).trans ?_
  simp only [g56_j8, a7, Option.bind_some]
  refine (hexstep (hd _) (by omega) (fun x => g56_j9 x) _).trans ?_
  refine (congrArg (fun k : Nat => g56_j9 (k : Int)) (?_ : _ = n)).trans last
  omega

theorem u32r (a b : Int) : 0 ≤ aI .u32 a b ∧ aI .u32 a b < 4294967296 := by
  have e : aI .u32 a b = (a + b) % 4294967296 := by unfold aI IntKind.wrap; simp [IntKind.bits, IntKind.signed]
  rw [e]
  omega
theorem any56 (s : List UInt8) : ∃ k b, g56 (sb s) = some (some k, b) ∧ k < 4294967296 := by
  unfold g56
  by_cases h8 : s.length = 8
  · have at_ : ∀ (i : Nat) (hi : i < 8), ∃ e, idxS (sb s) (i : Int) = some e := fun i hi => ⟨_, idxS_sb (by omega)⟩
    obtain ⟨e0, a0⟩ := at_ 0 (by decide)
    obtain ⟨e1, a1⟩ := at_ 1 (by decide)
    obtain ⟨e2, a2⟩ := at_ 2 (by decide)
    obtain ⟨e3, a3⟩ := at_ 3 (by decide)
    obtain ⟨e4, a4⟩ := at_ 4 (by decide)
    obtain ⟨e5, a5⟩ := at_ 5 (by decide)
    obtain ⟨e6, a6⟩ := at_ 6 (by decide)
    obtain ⟨e7, a7⟩ := at_ 7 (by decide)
    replace a0 : idxS (sb s) 0 = some e0 := a0
    replace a1 : idxS (sb s) 1 = some e1 := a1
    replace a2 : idxS (sb s) 2 = some e2 := a2
    replace a3 : idxS (sb s) 3 = some e3 := a3
    replace a4 : idxS (sb s) 4 = some e4 := a4
    replace a5 : idxS (sb s) 5 = some e5 := a5
    replace a6 : idxS (sb s) 6 = some e6 := a6
    replace a7 : idxS (sb s) 7 = some e7 := a7
    have no : ∃ k b, some ((some 0 : F32), false) = some (some k, b) ∧ k < 4294967296 := ⟨0, false, rfl, by decide⟩
    have j9 : ∀ a b, ∃ k c, g56_j9 (aI .u32 a b) = some (some k, c) ∧ k < 4294967296 := fun a b => by
      obtain ⟨r1, r2⟩ := u32r a b
      unfold g56_j9 g56_j1
      have hf : f32of (aI .u32 a b) = some (aI .u32 a b).toNat := rfl
      rw [hf, g60_eq (by omega), Option.bind_some]
      exact ⟨_, _, rfl, by omega⟩
    have j8 : ∀ x, ∃ k c, g56_j8 (sb s) x = some (some k, c) ∧ k < 4294967296 := fun x => by
      unfold g56_j8; rw [a7, Option.bind_some]; split; exact j9 _ _; split; exact j9 _ _; exact no
    have j7 : ∀ x, ∃ k c, g56_j7 (sb s) x = some (some k, c) ∧ k < 4294967296 := fun x => by
      unfold g56_j7; rw [a6, Option.bind_some]; split; exact j8 _; split; exact j8 _; exact no
    have j6 : ∀ x, ∃ k c, g56_j6 (sb s) x = some (some k, c) ∧ k < 4294967296 := fun x => by
      unfold g56_j6; rw [a5, Option.bind_some]; split; exact j7 _; split; exact j7 _; exact no
    have j5 : ∀ x, ∃ k c, g56_j5 (sb s) x = some (some k, c) ∧ k < 4294967296 := fun x => by
      unfold g56_j5; rw [a4, Option.bind_some]; split; exact j6 _; split; exact j6 _; exact no
    have j4 : ∀ x, ∃ k c, g56_j4 (sb s) x = some (some k, c) ∧ k < 4294967296 := fun x => by
      unfold g56_j4; rw [a3, Option.bind_some]; split; exact j5 _; split; exact j5 _; exact no
    have j3 : ∀ x, ∃ k c, g56_j3 (sb s) x = some (some k, c) ∧ k < 4294967296 := fun x => by
      unfold g56_j3; rw [a2, Option.bind_some]; split; exact j4 _; split; exact j4 _; exact no
    have j2 : ∀ x, ∃ k c, g56_j2 (sb s) x = some (some k, c) ∧ k < 4294967296 := fun x => by
      unfold g56_j2; rw [a1, Option.bind_some]; split; exact j3 _; split; exact j3 _; exact no
    rw [if_neg (by simp [eqI, h8]), a0, Option.bind_some]
    split
    · exact j2 _
    · split
      · exact j2 _
      · exact no
  · rw [if_pos (by simp [eqI]; omega)]
    exact ⟨0, false, rfl, by decide⟩
end Go.Proofs.YtbohajclnmmkhaaGreatDoor
namespace Go.Proofs.YtbohajclnmmkhaaGreatDoor
open Go.VL
set_option linter.unusedSimpArgs false
set_option linter.unusedVariables false
set_option maxHeartbeats 4000000

/-- A number with its bits. -/
def FOk (x : F32) : Prop := ∃ b, x = some b ∧ b < 4294967296
def heatF (x : F32) : Bool := geF .f32 x (some 3262119936) && leF .f32 x (some 1128792064)
def amtF (x : F32) : Bool := match x with | some b => amt b | none => false
def storeF (x : F32) : Bool := amtF x && geF .f32 x (some 1065353216) && leF .f32 x (some 1176256512)
theorem amt58 {x : F32} (h : FOk x) : g58 x = some (amtF x) := by obtain ⟨b, rfl, hb⟩ := h; exact g58_eq hb
theorem amt46 {x : F32} (h : FOk x) : g46 x = some (amtF x) := by obtain ⟨b, rfl, hb⟩ := h; exact g46_eq hb
theorem heat34 (x : F32) : g34 x = some (heatF x) := rfl
theorem heat43 (x : F32) : g43 x = some (heatF x) := rfl
theorem store35 {x : F32} (h : FOk x) : g35 x = some (storeF x) := by
  unfold g35
  rw [amt58 h]
  rfl
theorem store44 {x : F32} (h : FOk x) : g44 x = some (storeF x) := by
  unfold g44 g47 storeF
  rw [amt46 h]
  cases amtF x <;> rfl
def sidesV (n : Nat) (a b : Int) : Bool := ((((leI 0 a && ltI a (n : Int)) && leI (-1) b) && ltI b (n : Int)) && (!eqI a b))
def wallV (n : Nat) (w : T47) : Bool := (heatF w.heat_.a0_ && heatF w.heat_.a1_ && heatF w.heat_.a2_ && heatF w.heat_.a3_) && (sidesV n w.a_ w.b_ && amtF w.lead_ && geF .f32 w.lead_ (some 1015021568) && leF .f32 w.lead_ (some 1120403456) && storeF w.store_)
def paneV (n : Nat) (p : T49) : Bool := sidesV n p.a_ p.b_ && (amtF p.lead_ && leF .f32 p.lead_ (some 1120403456)) && (amtF p.sun_ && leF .f32 p.sun_ (some 1092616192))
def flatV (f : T25) : Bool := (decide (1 ≤ f.heat_.length) && decide (f.heat_.length ≤ 5) && decide (f.store_.length = f.heat_.length) && decide (f.walls_.length ≤ 10) && decide (f.panes_.length ≤ 8)) && (f.heat_.all heatF && f.store_.all storeF && f.walls_.all (wallV f.heat_.length) && f.panes_.all (paneV f.heat_.length))
def WOk (w : T47) : Prop := FOk w.lead_ ∧ FOk w.store_ ∧ FOk w.heat_.a0_ ∧ FOk w.heat_.a1_ ∧ FOk w.heat_.a2_ ∧ FOk w.heat_.a3_
def POk (p : T49) : Prop := FOk p.lead_ ∧ FOk p.sun_
def FlOk (f : T25) : Prop := (∀ x ∈ f.heat_, FOk x) ∧ (∀ x ∈ f.store_, FOk x) ∧ (∀ w ∈ f.walls_, WOk w) ∧ ∀ p ∈ f.panes_, POk p

theorem loop_all {n : Nat} {body : Int → Option (Int ⊕ (Unit ⊕ Bool))} (p : Nat → Bool) (hbody : ∀ i : Nat, i < n → body (i : Int) = some (if p i = true then .inl ((i + 1 : Nat) : Int) else .inr (.inr false))) (hend : body (n : Int) = some (.inr (.inl ()))) :
    loopO body 0 = some (if (List.range n).all p = true then .inl () else .inr false) := by
  have := loop_scan (body := body) (n := n) (fun i => if p i = true then none else some (.inr false)) (.inl ()) (fun i hi => by
    rw [hbody i hi]
    cases p i <;> rfl) hend
  rw [this]
  congr 1
  by_cases h : (List.range n).all p = true
  · rw [if_pos h]
    have : (List.range n).findSome? (fun i => if p i = true then none else some (.inr false : Unit ⊕ Bool)) = none := by
      rw [range_none]
      intro i hi
      rw [if_pos (List.all_eq_true.1 h i (List.mem_range.2 hi))]
    rw [this]
    rfl
  · rw [if_neg h]
    cases hf : (List.range n).findSome? (fun i => if p i = true then none else some (.inr false : Unit ⊕ Bool)) with
    | none =>
      exfalso
      apply h
      rw [List.all_eq_true]
      intro i hi
      have := range_none.1 hf i (List.mem_range.1 hi)
      split at this
      · assumption
      · cases this
    | some r =>
      obtain ⟨i, _, h2, _⟩ := range_some hf
      split at h2
      · cases h2
      · cases h2; rfl
theorem all_range {α : Type} {l : List α} {q : α → Bool} {p : Nat → Bool} (h : ∀ i (hi : i < l.length), p i = q l[i]) : (List.range l.length).all p = l.all q := by
  rw [Bool.eq_iff_iff, List.all_eq_true, List.all_eq_true]
  constructor
  · intro h1 x hx
    obtain ⟨i, hi, rfl⟩ := List.getElem_of_mem hx
    rw [← h i hi]
    exact h1 i (List.mem_range.2 hi)
  · intro h1 i hi
    have hi' := List.mem_range.1 hi
    rw [h i hi']
    exact h1 _ (List.getElem_mem hi')
theorem all_range2 {l l' : List F32} (hl : l'.length = l.length) {q q' : F32 → Bool} {p : Nat → Bool} (h : ∀ i (hi : i < l.length), p i = (q l[i] && q' (l'[i]'(by omega)))) : (List.range l.length).all p = (l.all q && l'.all q') := by
  have e1 := all_range (l := l) (q := q) (p := fun i => q (l.getD i none)) (fun i hi => by simp [hi])
  have e2 := all_range (l := l') (q := q') (p := fun i => q' (l'.getD i none)) (fun i hi => by simp [hi])
  rw [← e1, ← e2, hl, Bool.eq_iff_iff, Bool.and_eq_true, List.all_eq_true, List.all_eq_true, List.all_eq_true]
  have key : ∀ i, i < l.length → (p i = true ↔ q (l.getD i none) = true ∧ q' (l'.getD i none) = true) := fun i hi => by
    rw [h i hi, Bool.and_eq_true]
    simp [hi, show i < l'.length by omega]
  constructor
  · intro h1
    exact ⟨fun i hi => ((key i (List.mem_range.1 hi)).1 (h1 i hi)).1, fun i hi => ((key i (List.mem_range.1 hi)).1 (h1 i hi)).2⟩
  · intro h1 i hi
    exact (key i (List.mem_range.1 hi)).2 ⟨h1.1 i hi, h1.2 i hi⟩

theorem sides59 {n : Nat} (hn : n ≤ 1000) (a b : Int) : g59 a b (n : Int) = some (sidesV n a b) := by
  unfold g59 g33 sidesV
  rw [sI64 (by omega) (by omega)]
  simp only [Option.bind_some]
  by_cases h1 : (leI 0 a && leI a ((n : Int) - 1)) = true
  · have : ltI a (n : Int) = true := by simp [leI, ltI] at h1 ⊢; omega
    have h0 : leI 0 a = true := by simp [leI] at h1 ⊢; omega
    rw [if_pos h1, this, h0]
    simp only [Option.bind_some, Bool.true_and]
    have : leI b ((n : Int) - 1) = ltI b (n : Int) := by simp [leI, ltI]; omega
    rw [this]
  · rw [if_neg h1]
    have : (leI 0 a && ltI a (n : Int)) = false := by
      cases h : (leI 0 a && ltI a (n : Int)) with
      | false => rfl
      | true => exfalso; apply h1; simp [leI, ltI] at h ⊢; omega
    rw [this]
    rfl
theorem stand45 (n : Nat) (a b : Int) : g45 a b (n : Int) = some (sidesV n a b) := rfl
theorem pane37 {n : Nat} (hn : n ≤ 1000) {p : T49} (h : POk p) : g37 p (n : Int) = some (paneV n p) := by
  unfold g37 paneV
  rw [sides59 hn, amt58 h.1, amt58 h.2]
  cases sidesV n p.a_ p.b_ <;> cases amtF p.lead_ <;> cases leF .f32 p.lead_ (some 1120403456) <;> cases amtF p.sun_ <;> simp
theorem wall36 {n : Nat} (hn : n ≤ 1000) {w : T47} (h : WOk w) : g36 w (n : Int) = some (wallV n w) := by
  unfold g36 wallV g36_j1
  rw [sides59 hn, amt58 h.1, store35 h.2.1, heat34, heat34, heat34, heat34]
  cases heatF w.heat_.a0_ <;> cases heatF w.heat_.a1_ <;> cases heatF w.heat_.a2_ <;> cases heatF w.heat_.a3_ <;> simp
  cases sidesV n w.a_ w.b_ <;> cases amtF w.lead_ <;> cases geF .f32 w.lead_ (some 1015021568) <;> cases leF .f32 w.lead_ (some 1120403456) <;> cases storeF w.store_ <;> simp

theorem flat11 {f : T25} (hf : FlOk f) (hn : f.heat_.length ≤ 1000) (hm : f.store_.length ≤ 1000) (hw : f.walls_.length ≤ 1000) (hp : f.panes_.length ≤ 1000) : g11 f = some (flatV f) := by
  obtain ⟨q1, q2, q3, q4⟩ := hf
  unfold g11 flatV g33
  rw [Option.bind_some]
  by_cases hc : 1 ≤ f.heat_.length ∧ f.heat_.length ≤ 5 ∧ f.store_.length = f.heat_.length ∧ f.walls_.length ≤ 10 ∧ f.panes_.length ≤ 8
  · obtain ⟨c1, c2, c3, c4, c5⟩ := hc
    rw [if_neg (by simp [leI, ltI, eqI]; omega)]
    have h3 := loop_all (body := g11_L3 f) (n := f.heat_.length) (fun i => heatF (f.heat_.getD i none) && storeF (f.store_.getD i none)) (fun i hi => by
      have hi2 : i < f.store_.length := by omega
      rw [g11_L3, if_pos (by simp [ltI]; omega), idx_nat hi, Option.bind_some, heat34, Option.bind_some, idx_nat hi2, Option.bind_some, store35 (q2 _ (List.getElem_mem hi2)), Option.bind_some]
      simp only [List.getD_eq_getElem?_getD, List.getElem?_eq_getElem hi, List.getElem?_eq_getElem hi2, Option.getD_some]
      cases heatF f.heat_[i] <;> cases storeF f.store_[i] <;> simp [succI (i := i) (by omega)]) (by rw [g11_L3, if_neg (by simp [ltI])])
    rw [all_range2 (l := f.heat_) (l' := f.store_) c3 (q := heatF) (q' := storeF) (fun i hi => by simp [hi, show i < f.store_.length by omega])] at h3
    have h2 := loop_all (body := g11_L2 f) (n := f.walls_.length) (fun i => wallV f.heat_.length (f.walls_.getD i ⟨0, 0, none, none, ⟨none, none, none, none⟩⟩)) (fun i hi => by
      rw [g11_L2, if_pos (by simp [ltI]; omega), idx_nat hi, Option.bind_some, wall36 hn (q3 _ (List.getElem_mem hi)), Option.bind_some]
      simp only [List.getD_eq_getElem?_getD, List.getElem?_eq_getElem hi, Option.getD_some]
      cases wallV f.heat_.length f.walls_[i] <;> simp [succI (i := i) (by omega)]) (by rw [g11_L2, if_neg (by simp [ltI])])
    rw [all_range (l := f.walls_) (q := wallV f.heat_.length) (fun i hi => by simp [hi])] at h2
    have h1 := loop_all (body := g11_L1 f) (n := f.panes_.length) (fun i => paneV f.heat_.length (f.panes_.getD i ⟨0, 0, none, none⟩)) (fun i hi => by
      rw [g11_L1, if_pos (by simp [ltI]; omega), idx_nat hi, Option.bind_some, pane37 hn (q4 _ (List.getElem_mem hi)), Option.bind_some]
      simp only [List.getD_eq_getElem?_getD, List.getElem?_eq_getElem hi, Option.getD_some]
      cases paneV f.heat_.length f.panes_[i] <;> simp [succI (i := i) (by omega)]) (by rw [g11_L1, if_neg (by simp [ltI])])
    rw [all_range (l := f.panes_) (q := paneV f.heat_.length) (fun i hi => by simp [hi])] at h1
    rw [h3]
    unfold g11_j1 g11_j2 g11_j3
    rw [h2, h1]
    simp only [c1, c2, c3, c4, c5, decide_true, Bool.true_and, Bool.and_true]
    cases f.heat_.all heatF <;> cases f.store_.all storeF <;> cases f.walls_.all (wallV f.heat_.length) <;> cases f.panes_.all (paneV f.heat_.length) <;> rfl
  · have : (decide (1 ≤ f.heat_.length) && decide (f.heat_.length ≤ 5) && decide (f.store_.length = f.heat_.length) && decide (f.walls_.length ≤ 10) && decide (f.panes_.length ≤ 8)) = false := by
      rw [← Bool.not_eq_true]
      intro h
      simp only [Bool.and_eq_true, decide_eq_true_eq] at h
      exact hc ⟨h.1.1.1.1, h.1.1.1.2, h.1.1.2, h.1.2, h.2⟩
    rw [this, if_pos]
    · rfl
    · apply Decidable.byContradiction
      intro h
      apply hc
      simp [leI, ltI, eqI] at h
      omega

theorem flat20 {f : T25} (hf : FlOk f) (hn : f.heat_.length ≤ 1000) (hm : f.store_.length ≤ 1000) (hw : f.walls_.length ≤ 1000) (hp : f.panes_.length ≤ 1000) : g20 f = some (flatV f) := by
  obtain ⟨q1, q2, q3, q4⟩ := hf
  unfold g20 flatV
  by_cases hc : 1 ≤ f.heat_.length ∧ f.heat_.length ≤ 5 ∧ f.store_.length = f.heat_.length ∧ f.walls_.length ≤ 10 ∧ f.panes_.length ≤ 8
  · obtain ⟨c1, c2, c3, c4, c5⟩ := hc
    rw [if_neg (by simp [leI, ltI, eqI]; omega)]
    have h3 := loop_all (body := g20_L3 f) (n := f.heat_.length) (fun i => heatF (f.heat_.getD i none) && storeF (f.store_.getD i none)) (fun i hi => by
      have hi2 : i < f.store_.length := by omega
      rw [g20_L3, if_pos (by simp [ltI]; omega), idx_nat hi, Option.bind_some, heat43, Option.bind_some, idx_nat hi2, Option.bind_some, store44 (q2 _ (List.getElem_mem hi2)), Option.bind_some]
      simp only [List.getD_eq_getElem?_getD, List.getElem?_eq_getElem hi, List.getElem?_eq_getElem hi2, Option.getD_some]
      cases heatF f.heat_[i] <;> cases storeF f.store_[i] <;> simp [succI (i := i) (by omega)]) (by rw [g20_L3, if_neg (by simp [ltI])])
    rw [all_range2 (l := f.heat_) (l' := f.store_) c3 (q := heatF) (q' := storeF) (fun i hi => by simp [hi, show i < f.store_.length by omega])] at h3
    have h2 := loop_all (body := g20_L2 f) (n := f.walls_.length) (fun i => wallV f.heat_.length (f.walls_.getD i ⟨0, 0, none, none, ⟨none, none, none, none⟩⟩)) (fun i hi => by
      have hq := q3 _ (List.getElem_mem hi)
      rw [g20_L2, if_pos (by simp [ltI]; omega), idx_nat hi, Option.bind_some]
      unfold g47 g20_j4 wallV
      simp only [stand45, List.getD_eq_getElem?_getD, List.getElem?_eq_getElem hi, Option.getD_some, amt46 hq.1, store44 hq.2.1, heat43, Option.bind_some, succI (i := i) (by omega)]
      generalize sidesV f.heat_.length f.walls_[i].a_ f.walls_[i].b_ = s1
      generalize amtF f.walls_[i].lead_ = s2
      generalize geF .f32 f.walls_[i].lead_ (some 1015021568) = s3
      generalize leF .f32 f.walls_[i].lead_ (some 1120403456) = s4
      generalize storeF f.walls_[i].store_ = s5
      generalize heatF f.walls_[i].heat_.a0_ = t0
      generalize heatF f.walls_[i].heat_.a1_ = t1
      generalize heatF f.walls_[i].heat_.a2_ = t2
      generalize heatF f.walls_[i].heat_.a3_ = t3
      cases s1 <;> cases s2 <;> cases s3 <;> cases s4 <;> cases s5 <;> simp
      cases t0 <;> cases t1 <;> cases t2 <;> cases t3 <;> simp) (by rw [g20_L2, if_neg (by simp [ltI])])
    rw [all_range (l := f.walls_) (q := wallV f.heat_.length) (fun i hi => by simp [hi])] at h2
    have h1 := loop_all (body := g20_L1 f) (n := f.panes_.length) (fun i => paneV f.heat_.length (f.panes_.getD i ⟨0, 0, none, none⟩)) (fun i hi => by
      have hq := q4 _ (List.getElem_mem hi)
      rw [g20_L1, if_pos (by simp [ltI]; omega), idx_nat hi, Option.bind_some]
      unfold g48 paneV
      simp only [stand45, List.getD_eq_getElem?_getD, List.getElem?_eq_getElem hi, Option.getD_some, amt46 hq.1, amt46 hq.2, Option.bind_some, succI (i := i) (by omega)]
      generalize sidesV f.heat_.length f.panes_[i].a_ f.panes_[i].b_ = s1
      generalize amtF f.panes_[i].lead_ = s2
      generalize leF .f32 f.panes_[i].lead_ (some 1120403456) = s3
      generalize amtF f.panes_[i].sun_ = s4
      generalize leF .f32 f.panes_[i].sun_ (some 1092616192) = s5
      cases s1 <;> cases s2 <;> cases s3 <;> cases s4 <;> cases s5 <;> simp) (by rw [g20_L1, if_neg (by simp [ltI])])
    rw [all_range (l := f.panes_) (q := paneV f.heat_.length) (fun i hi => by simp [hi])] at h1
    rw [h3]
    unfold g20_j1 g20_j2 g20_j3
    rw [h2, h1]
    simp only [c1, c2, c3, c4, c5, decide_true, Bool.true_and, Bool.and_true]
    cases f.heat_.all heatF <;> cases f.store_.all storeF <;> cases f.walls_.all (wallV f.heat_.length) <;> cases f.panes_.all (paneV f.heat_.length) <;> rfl
  · have : (decide (1 ≤ f.heat_.length) && decide (f.heat_.length ≤ 5) && decide (f.store_.length = f.heat_.length) && decide (f.walls_.length ≤ 10) && decide (f.panes_.length ≤ 8)) = false := by
      rw [← Bool.not_eq_true]
      intro h
      simp only [Bool.and_eq_true, decide_eq_true_eq] at h
      exact hc ⟨h.1.1.1.1, h.1.1.1.2, h.1.1.2, h.1.2, h.2⟩
    rw [this, if_pos]
    · rfl
    · apply Decidable.byContradiction
      intro h
      apply hc
      simp [leI, ltI, eqI] at h
      omega
end Go.Proofs.YtbohajclnmmkhaaGreatDoor
namespace Go.Proofs.YtbohajclnmmkhaaGreatDoor
open Go.VL
set_option linter.unusedSimpArgs false
set_option linter.unusedVariables false
set_option maxHeartbeats 4000000

def sideT (s : Int) : List UInt8 := if s < 0 then [45] else Lib.itoa s
def fT (x : F32) : List UInt8 := hexT (canon (x.getD 0))
def roomP (h s : F32) : List (List UInt8) := [[114, 111, 111, 109], fT h, fT s]
def wallP (w : T47) : List (List UInt8) := [[119, 97, 108, 108], sideT w.a_, sideT w.b_, fT w.lead_, fT w.store_, fT w.heat_.a0_, fT w.heat_.a1_, fT w.heat_.a2_, fT w.heat_.a3_]
def paneP (p : T49) : List (List UInt8) := [[112, 97, 110, 101], sideT p.a_, sideT p.b_, fT p.lead_, fT p.sun_]
def lineOf (ps : List (List UInt8)) : List UInt8 := Lib.join ps [32] ++ [10]
def txt (ls : List (List (List UInt8))) : List UInt8 := ls.flatMap lineOf
def roomsP (f : T25) : List (List (List UInt8)) := (List.range f.heat_.length).map fun i => roomP (f.heat_.getD i none) (f.store_.getD i none)
def linesP (f : T25) : List (List (List UInt8)) := roomsP f ++ f.walls_.map wallP ++ f.panes_.map paneP
def flatT (f : T25) : List UInt8 := txt (linesP f)

theorem fT_len (x : F32) : (fT x).length = 8 := rfl
theorem num38 {x : F32} (h : FOk x) : g38 x = some (sb (fT x)) := by obtain ⟨b, rfl, hb⟩ := h; exact g38_eq hb
theorem num49 {x : F32} (h : FOk x) : g49 x = some (sb (fT x)) := by obtain ⟨b, rfl, hb⟩ := h; exact g49_eq hb
theorem side_len {s : Int} (h1 : s < 100) : (sideT s).length ≤ 4 := by
  unfold sideT
  split
  · simp
  · exact itoa_len (by omega) (by omega)
theorem side39 {s : Int} (h1 : s < 100) : g39 s = some (sb (sideT s)) := by
  unfold g39 sideT
  by_cases h : s < 0
  · rw [if_pos (by simp [ltI, h]), if_pos h]
    rfl
  · rw [if_neg (by simp [ltI]; omega), if_neg h, dec95 (by omega) (by omega)]
    rfl
theorem side51 {s : Int} (h0 : -1 ≤ s) (h1 : s < 100) : g51 s = some (sb (sideT s)) := by
  unfold g51 sideT g50
  by_cases h : s < 0
  · have : s = -1 := by omega
    subst this
    rw [if_pos (by decide), if_pos h]
    rfl
  · rw [if_neg (by simp [eqI]; omega), if_neg h, fmtInt_sb (by omega) (by omega)]
    rfl
theorem num50 {s : Int} (h0 : 0 ≤ s) (h1 : s < 100) : g50 s 10 = some (sb (sideT s)) := by
  unfold g50 sideT
  rw [if_neg (by omega), fmtInt_sb (by omega) (by omega)]
theorem txt_snoc (ls : List (List (List UInt8))) (l : List (List UInt8)) : txt (ls ++ [l]) = txt ls ++ lineOf l := by simp [txt]
theorem txt_app (a b : List (List (List UInt8))) : txt (a ++ b) = txt a ++ txt b := by simp [txt]
theorem txt_len {ls : List (List (List UInt8))} (h : ∀ l ∈ ls, (lineOf l).length ≤ 100) : (txt ls).length ≤ 100 * ls.length := by
  induction ls with
  | nil => simp [txt]
  | cons l ls ih =>
    have h1 := h l (by simp)
    have h2 := ih fun x hx => h x (by simp [hx])
    have : txt (l :: ls) = lineOf l ++ txt ls := by simp [txt]
    rw [this]
    simp
    omega
theorem room_len (h s : F32) : (lineOf (roomP h s)).length ≤ 100 := by
  simp [lineOf, roomP, Lib.join, List.intercalate, fT_len]
theorem wall_len {w : T47} (h1 : w.a_ < 100) (h2 : w.b_ < 100) : (lineOf (wallP w)).length ≤ 100 := by
  have := side_len h1
  have := side_len h2
  simp [lineOf, wallP, Lib.join, List.intercalate, fT_len]
  omega
theorem pane_len {p : T49} (h1 : p.a_ < 100) (h2 : p.b_ < 100) : (lineOf (paneP p)).length ≤ 100 := by
  have := side_len h1
  have := side_len h2
  simp [lineOf, paneP, Lib.join, List.intercalate, fT_len]
  omega
theorem sides_of {n : Nat} {a b : Int} (h : sidesV n a b = true) (hn : n ≤ 5) : (0 ≤ a ∧ a < 5) ∧ -1 ≤ b ∧ b < 5 := by
  simp [sidesV, leI, ltI] at h
  omega
/-- What a valid flat has. -/
theorem flatV_of {f : T25} (h : flatV f = true) : (1 ≤ f.heat_.length ∧ f.heat_.length ≤ 5) ∧ f.store_.length = f.heat_.length ∧ f.walls_.length ≤ 10 ∧ f.panes_.length ≤ 8 ∧ (∀ x ∈ f.heat_, heatF x = true) ∧ (∀ x ∈ f.store_, storeF x = true) ∧ (∀ w ∈ f.walls_, wallV f.heat_.length w = true) ∧ ∀ p ∈ f.panes_, paneV f.heat_.length p = true := by
  unfold flatV at h
  simp only [Bool.and_eq_true, decide_eq_true_eq, List.all_eq_true] at h
  exact ⟨⟨h.1.1.1.1.1, h.1.1.1.1.2⟩, h.1.1.1.2, h.1.1.2, h.1.2, h.2.1.1.1, h.2.1.1.2, h.2.1.2, h.2.2⟩
theorem wall_sides {n : Nat} {w : T47} (h : wallV n w = true) (hn : n ≤ 5) : (0 ≤ w.a_ ∧ w.a_ < 5) ∧ -1 ≤ w.b_ ∧ w.b_ < 5 := by
  unfold wallV at h
  simp only [Bool.and_eq_true] at h
  exact sides_of h.2.1.1.1.1 hn
theorem pane_sides {n : Nat} {p : T49} (h : paneV n p = true) (hn : n ≤ 5) : (0 ≤ p.a_ ∧ p.a_ < 5) ∧ -1 ≤ p.b_ ∧ p.b_ < 5 := by
  unfold paneV at h
  simp only [Bool.and_eq_true] at h
  exact sides_of h.1.1 hn
theorem lines_len {f : T25} (hv : flatV f = true) : ∀ l ∈ linesP f, (lineOf l).length ≤ 100 := by
  obtain ⟨⟨n1, n2⟩, n3, n4, n5, v1, v2, v3, v4⟩ := flatV_of hv
  intro l hl
  unfold linesP at hl
  simp only [List.mem_append, List.mem_map] at hl
  rcases hl with (hl | ⟨w, hw, rfl⟩) | ⟨p, hp, rfl⟩
  · unfold roomsP at hl
    obtain ⟨i, _, rfl⟩ := List.mem_map.1 hl
    exact room_len _ _
  · have := wall_sides (v3 w hw) n2
    exact wall_len (by omega) (by omega)
  · have := pane_sides (v4 p hp) n2
    exact pane_len (by omega) (by omega)
theorem rooms_len (f : T25) : (roomsP f).length = f.heat_.length := by simp [roomsP]
theorem linesP_len (f : T25) : (linesP f).length = f.heat_.length + f.walls_.length + f.panes_.length := by simp [linesP, rooms_len]; omega
theorem flat_len {f : T25} (hv : flatV f = true) : (flatT f).length ≤ 2300 ∧ ∀ a b, linesP f = a ++ b → (txt a).length ≤ 2300 := by
  obtain ⟨⟨n1, n2⟩, n3, n4, n5, _⟩ := flatV_of hv
  have hl := linesP_len f
  have key : ∀ a b, linesP f = a ++ b → (txt a).length ≤ 2300 := fun a b e => by
    have h1 := txt_len (ls := a) (fun l hl => lines_len hv l (by rw [e]; simp [hl]))
    have h2 : a.length ≤ (linesP f).length := by rw [e]; simp
    omega
  exact ⟨key _ [] (by simp), key⟩

/-- A loop that adds lines to a text. -/
theorem loop_txt {body : ByteArray × Int → Option ((ByteArray × Int) ⊕ ByteArray)} (pre : List (List (List UInt8))) (ls : List (List (List UInt8)))
    (h : ∀ (i : Nat) (hi : i < ls.length), body (sb (txt (pre ++ ls.take i)), (i : Int)) = some (.inl (sb (txt (pre ++ ls.take i) ++ lineOf ls[i]), ((i + 1 : Nat) : Int))))
    (h2 : body (sb (txt (pre ++ ls)), (ls.length : Int)) = some (.inr (sb (txt (pre ++ ls))))) : loopO body (sb (txt pre), 0) = some (sb (txt (pre ++ ls))) := by
  have := loop_run (body := body) (fun i => (sb (txt (pre ++ ls.take i)), (i : Int))) ls.length (fun i hi => by
    rw [h i hi, List.take_succ_eq_append_getElem hi, ← List.append_assoc, txt_snoc]) (r := sb (txt (pre ++ ls))) (by rw [List.take_length]; exact h2)
  simpa using this

theorem text12 {f : T25} (hf : FlOk f) (hv : flatV f = true) : g12 f = some (sb (flatT f)) := by
  obtain ⟨⟨n1, n2⟩, n3, n4, n5, v1, v2, v3, v4⟩ := flatV_of hv
  obtain ⟨q1, q2, q3, q4⟩ := hf
  have hlen := (flat_len hv).2
  have b1 : ∀ i, (txt ([] ++ (roomsP f).take i)).length ≤ 2300 := fun i => hlen _ ((roomsP f).drop i ++ f.walls_.map wallP ++ f.panes_.map paneP) (by rw [List.nil_append, ← List.append_assoc, ← List.append_assoc, List.take_append_drop]; rfl)
  have b2 : ∀ i, (txt (roomsP f ++ (f.walls_.map wallP).take i)).length ≤ 2300 := fun i => hlen _ ((f.walls_.map wallP).drop i ++ f.panes_.map paneP) (by simp [linesP]; rw [← List.append_assoc, List.take_append_drop])
  have b3 : ∀ i, (txt ((roomsP f ++ f.walls_.map wallP) ++ (f.panes_.map paneP).take i)).length ≤ 2300 := fun i => hlen _ ((f.panes_.map paneP).drop i) (by simp [linesP])
  have l3 := loop_txt (body := g12_L3 f) [] (roomsP f) (fun i hi => by
    rw [rooms_len] at hi
    have hi2 : i < f.store_.length := by omega
    have hb := b1 i
    generalize txt ([] ++ (roomsP f).take i) = o at hb
    have e : (roomsP f)[i]'(by rw [rooms_len]; exact hi) = roomP f.heat_[i] f.store_[i] := by simp [roomsP, hi, hi2]
    rw [e, g12_L3, if_pos (by simp [ltI]; omega), idx_nat hi, Option.bind_some, num38 (q1 _ (List.getElem_mem hi)), Option.bind_some]
    rw [show (⟨#[114, 111, 111, 109, 32]⟩ : ByteArray) = sb [114, 111, 111, 109, 32] from rfl, show (⟨#[32]⟩ : ByteArray) = sb [32] from rfl, show (⟨#[10]⟩ : ByteArray) = sb [10] from rfl]
    have l1 := fT_len f.heat_[i]
    have l2 := fT_len f.store_[i]
    rw [cat_sb (by simp; omega), Option.bind_some, cat_sb (by simp; omega), Option.bind_some, idx_nat hi2, Option.bind_some, num38 (q2 _ (List.getElem_mem hi2)), Option.bind_some, cat_sb (by simp; omega), Option.bind_some, cat_sb (by simp; omega), Option.bind_some, cat_sb (by simp; omega), Option.bind_some, succI (by omega)]
    simp [lineOf, roomP, Lib.join, List.intercalate]) (by rw [rooms_len, g12_L3, if_neg (by simp [ltI])])
  have l2 := loop_txt (body := g12_L2 f) (roomsP f) (f.walls_.map wallP) (fun i hi => by
    have hi : i < f.walls_.length := by simpa using hi
    have hb := b2 i
    generalize txt (roomsP f ++ (f.walls_.map wallP).take i) = o at hb
    have hm := List.getElem_mem hi
    obtain ⟨w1, w2, w3, w4, w5, w6⟩ := q3 _ hm
    obtain ⟨⟨s1, s2⟩, s3, s4⟩ := wall_sides (v3 _ hm) n2
    have k1 := side_len (s := f.walls_[i].a_) (by omega)
    have k2 := side_len (s := f.walls_[i].b_) (by omega)
    rw [List.getElem_map, g12_L2, if_pos (by simp [ltI]; omega), idx_nat hi, Option.bind_some]
    generalize f.walls_[i] = w at *
    rw [show (⟨#[119, 97, 108, 108, 32]⟩ : ByteArray) = sb [119, 97, 108, 108, 32] from rfl, show (⟨#[32]⟩ : ByteArray) = sb [32] from rfl]
    have f1 := fT_len w.lead_; have f2 := fT_len w.store_; have f3 := fT_len w.heat_.a0_; have f4 := fT_len w.heat_.a1_; have f5 := fT_len w.heat_.a2_; have f6 := fT_len w.heat_.a3_
    rw [side39 (by omega), Option.bind_some, cat_sb (by simp; omega), Option.bind_some, cat_sb (by simp; omega), Option.bind_some, side39 (by omega), Option.bind_some, cat_sb (by simp; omega), Option.bind_some, cat_sb (by simp; omega), Option.bind_some, num38 w1, Option.bind_some, cat_sb (by simp; omega), Option.bind_some, cat_sb (by simp; omega), Option.bind_some, num38 w2, Option.bind_some, cat_sb (by simp; omega), Option.bind_some, cat_sb (by simp; omega), Option.bind_some,
      num38 w3, Option.bind_some, cat_sb (by simp; omega), Option.bind_some, cat_sb (by simp; omega), Option.bind_some, num38 w4, Option.bind_some, cat_sb (by simp; omega), Option.bind_some, cat_sb (by simp; omega), Option.bind_some, num38 w5, Option.bind_some, cat_sb (by simp; omega), Option.bind_some, cat_sb (by simp; omega), Option.bind_some, num38 w6, Option.bind_some, cat_sb (by simp; omega), Option.bind_some, cat_sb (by simp; omega), Option.bind_some]
    unfold g12_j5 g12_j4
    rw [show (⟨#[10]⟩ : ByteArray) = sb [10] from rfl, cat_sb (by simp; omega), Option.bind_some, succI (by omega)]
    simp [lineOf, wallP, Lib.join, List.intercalate]) (by rw [g12_L2, if_neg (by simp [ltI])])
  have l1 := loop_txt (body := g12_L1 f) (roomsP f ++ f.walls_.map wallP) (f.panes_.map paneP) (fun i hi => by
    have hi : i < f.panes_.length := by simpa using hi
    have hb := b3 i
    generalize txt ((roomsP f ++ f.walls_.map wallP) ++ (f.panes_.map paneP).take i) = o at hb
    have hm := List.getElem_mem hi
    obtain ⟨w1, w2⟩ := q4 _ hm
    obtain ⟨⟨s1, s2⟩, s3, s4⟩ := pane_sides (v4 _ hm) n2
    have k1 := side_len (s := f.panes_[i].a_) (by omega)
    have k2 := side_len (s := f.panes_[i].b_) (by omega)
    rw [List.getElem_map, g12_L1, if_pos (by simp [ltI]; omega), idx_nat hi, Option.bind_some]
    generalize f.panes_[i] = w at *
    rw [show (⟨#[112, 97, 110, 101, 32]⟩ : ByteArray) = sb [112, 97, 110, 101, 32] from rfl, show (⟨#[32]⟩ : ByteArray) = sb [32] from rfl, show (⟨#[10]⟩ : ByteArray) = sb [10] from rfl]
    have f1 := fT_len w.lead_; have f2 := fT_len w.sun_
    rw [side39 (by omega), Option.bind_some, cat_sb (by simp; omega), Option.bind_some, cat_sb (by simp; omega), Option.bind_some, side39 (by omega), Option.bind_some, cat_sb (by simp; omega), Option.bind_some, cat_sb (by simp; omega), Option.bind_some, num38 w1, Option.bind_some, cat_sb (by simp; omega), Option.bind_some, cat_sb (by simp; omega), Option.bind_some, num38 w2, Option.bind_some, cat_sb (by simp; omega), Option.bind_some, cat_sb (by simp; omega), Option.bind_some, cat_sb (by simp; omega), Option.bind_some, succI (by omega)]
    simp [lineOf, paneP, Lib.join, List.intercalate]) (by rw [g12_L1, if_neg (by simp [ltI])])
  unfold g12
  rw [show (ByteArray.empty : ByteArray) = sb (txt []) from rfl, l3, Option.bind_some]
  unfold g12_j1
  rw [List.nil_append, l2, Option.bind_some]
  unfold g12_j2
  rw [l1]
  rfl
theorem text21 {f : T25} (hf : FlOk f) (hv : flatV f = true) : g21 f = some (sb (flatT f)) := by
  obtain ⟨⟨n1, n2⟩, n3, n4, n5, v1, v2, v3, v4⟩ := flatV_of hv
  obtain ⟨q1, q2, q3, q4⟩ := hf
  have hlen := (flat_len hv).2
  have b1 : ∀ i, (txt ([] ++ (roomsP f).take i)).length ≤ 2300 := fun i => hlen _ ((roomsP f).drop i ++ f.walls_.map wallP ++ f.panes_.map paneP) (by rw [List.nil_append, ← List.append_assoc, ← List.append_assoc, List.take_append_drop]; rfl)
  have b2 : ∀ i, (txt (roomsP f ++ (f.walls_.map wallP).take i)).length ≤ 2300 := fun i => hlen _ ((f.walls_.map wallP).drop i ++ f.panes_.map paneP) (by simp [linesP]; rw [← List.append_assoc, List.take_append_drop])
  have b3 : ∀ i, (txt ((roomsP f ++ f.walls_.map wallP) ++ (f.panes_.map paneP).take i)).length ≤ 2300 := fun i => hlen _ ((f.panes_.map paneP).drop i) (by simp [linesP])
  have l3 := loop_txt (body := g21_L3 f) [] (roomsP f) (fun i hi => by
    rw [rooms_len] at hi
    have hi2 : i < f.store_.length := by omega
    have hb := b1 i
    generalize txt ([] ++ (roomsP f).take i) = o at hb
    have e : (roomsP f)[i]'(by rw [rooms_len]; exact hi) = roomP f.heat_[i] f.store_[i] := by simp [roomsP, hi, hi2]
    rw [e, g21_L3, if_pos (by simp [ltI]; omega), idx_nat hi, Option.bind_some, num49 (q1 _ (List.getElem_mem hi)), Option.bind_some]
    rw [show (⟨#[114, 111, 111, 109, 32]⟩ : ByteArray) = sb [114, 111, 111, 109, 32] from rfl, show (⟨#[32]⟩ : ByteArray) = sb [32] from rfl, show (⟨#[10]⟩ : ByteArray) = sb [10] from rfl]
    have l1 := fT_len f.heat_[i]
    have l2 := fT_len f.store_[i]
    rw [cat_sb (by simp; omega), Option.bind_some, cat_sb (by simp; omega), Option.bind_some, idx_nat hi2, Option.bind_some, num49 (q2 _ (List.getElem_mem hi2)), Option.bind_some, cat_sb (by simp; omega), Option.bind_some, cat_sb (by simp; omega), Option.bind_some, cat_sb (by simp; omega), Option.bind_some, succI (by omega)]
    simp [lineOf, roomP, Lib.join, List.intercalate]) (by rw [rooms_len, g21_L3, if_neg (by simp [ltI])])
  have l2 := loop_txt (body := g21_L2 f) (roomsP f) (f.walls_.map wallP) (fun i hi => by
    have hi : i < f.walls_.length := by simpa using hi
    have hb := b2 i
    generalize txt (roomsP f ++ (f.walls_.map wallP).take i) = o at hb
    have hm := List.getElem_mem hi
    obtain ⟨w1, w2, w3, w4, w5, w6⟩ := q3 _ hm
    obtain ⟨⟨s1, s2⟩, s3, s4⟩ := wall_sides (v3 _ hm) n2
    have k1 := side_len (s := f.walls_[i].a_) (by omega)
    have k2 := side_len (s := f.walls_[i].b_) (by omega)
    rw [List.getElem_map, g21_L2, if_pos (by simp [ltI]; omega), idx_nat hi, Option.bind_some]
    generalize f.walls_[i] = w at *
    have hl : (lineOf (wallP w)).length ≤ 100 := wall_len (by omega) (by omega)
    have hl2 : (Lib.join (wallP w) [32]).length ≤ 100 := by unfold lineOf at hl; simp at hl; omega
    rw [num50 s1 (by omega), Option.bind_some, side51 s3 (by omega), Option.bind_some, num49 w1, Option.bind_some, num49 w2, Option.bind_some, num49 w3, Option.bind_some, appK_of (by simp) (by simp), Option.bind_some, num49 w4, Option.bind_some, appK_of (by simp) (by simp), Option.bind_some, num49 w5, Option.bind_some, appK_of (by simp) (by simp), Option.bind_some, num49 w6, Option.bind_some, appK_of (by simp) (by simp), Option.bind_some]
    unfold g21_j5 g21_j4 g52
    have ej : joinO ([(⟨#[119, 97, 108, 108]⟩ : ByteArray), sb (sideT w.a_), sb (sideT w.b_), sb (fT w.lead_), sb (fT w.store_)] ++ [sb (fT w.heat_.a0_)] ++ [sb (fT w.heat_.a1_)] ++ [sb (fT w.heat_.a2_)] ++ [sb (fT w.heat_.a3_)]) (⟨#[32]⟩ : ByteArray) = some (sb (Lib.join (wallP w) [32])) := joinO_sb (xs := wallP w) (s := [32]) (by simp [wallP]) (by omega)
    rw [ej, Option.bind_some, show (⟨#[10]⟩ : ByteArray) = sb [10] from rfl, cat_sb (by simp; omega), Option.bind_some, cat_sb (by simp; omega), Option.bind_some, succI (by omega)]
    rfl) (by rw [g21_L2, if_neg (by simp [ltI])])
  have l1 := loop_txt (body := g21_L1 f) (roomsP f ++ f.walls_.map wallP) (f.panes_.map paneP) (fun i hi => by
    have hi : i < f.panes_.length := by simpa using hi
    have hb := b3 i
    generalize txt ((roomsP f ++ f.walls_.map wallP) ++ (f.panes_.map paneP).take i) = o at hb
    have hm := List.getElem_mem hi
    obtain ⟨w1, w2⟩ := q4 _ hm
    obtain ⟨⟨s1, s2⟩, s3, s4⟩ := pane_sides (v4 _ hm) n2
    have k1 := side_len (s := f.panes_[i].a_) (by omega)
    have k2 := side_len (s := f.panes_[i].b_) (by omega)
    rw [List.getElem_map, g21_L1, if_pos (by simp [ltI]; omega), idx_nat hi, Option.bind_some]
    generalize f.panes_[i] = w at *
    have hl : (lineOf (paneP w)).length ≤ 100 := pane_len (by omega) (by omega)
    have hl2 : (Lib.join (paneP w) [32]).length ≤ 100 := by unfold lineOf at hl; simp at hl; omega
    rw [num50 s1 (by omega), Option.bind_some, side51 s3 (by omega), Option.bind_some, num49 w1, Option.bind_some, num49 w2, Option.bind_some]
    unfold g52
    have ej : joinO [(⟨#[112, 97, 110, 101]⟩ : ByteArray), sb (sideT w.a_), sb (sideT w.b_), sb (fT w.lead_), sb (fT w.sun_)] (⟨#[32]⟩ : ByteArray) = some (sb (Lib.join (paneP w) [32])) := joinO_sb (xs := paneP w) (s := [32]) (by simp [paneP]) (by omega)
    rw [ej, Option.bind_some, show (⟨#[10]⟩ : ByteArray) = sb [10] from rfl, cat_sb (by simp; omega), Option.bind_some, cat_sb (by simp; omega), Option.bind_some, succI (by omega)]
    rfl) (by rw [g21_L1, if_neg (by simp [ltI])])
  unfold g21
  rw [show (ByteArray.empty : ByteArray) = sb (txt []) from rfl, l3, Option.bind_some]
  unfold g21_j1
  rw [List.nil_append, l2, Option.bind_some]
  unfold g21_j2
  rw [l1]
  rfl

/-! ### Lines and words of the text -/
theorem txt_join (ls : List (List (List UInt8))) : txt ls = Lib.join (ls.map (fun l => Lib.join l [32]) ++ [[]]) [10] := by
  induction ls with
  | nil => simp [txt, Lib.join, List.intercalate]
  | cons l ls ih =>
    have : txt (l :: ls) = lineOf l ++ txt ls := by simp [txt]
    rw [this, ih]
    cases hls : (ls.map (fun l => Lib.join l [32]) ++ [[]]) with
    | nil => simp at hls
    | cons x xs =>
      rw [List.map_cons, List.cons_append, hls, join_cons2]
      rfl
theorem side_no {s : Int} {c : UInt8} (hc : c = 32 ∨ c = 10) : c ∉ sideT s := by
  unfold sideT
  split
  · rcases hc with rfl | rfl <;> decide
  · exact dig_no (by omega) (by rcases hc with rfl | rfl <;> rfl)
theorem words_no {f : T25} {c : UInt8} (hc : c = 32 ∨ c = 10) : ∀ l ∈ linesP f, l ≠ [] ∧ ∀ p ∈ l, c ∉ p := by
  intro l hl
  have hx : ∀ x : F32, c ∉ fT x := fun x => hexT_no _ hc
  unfold linesP at hl
  simp only [List.mem_append, List.mem_map] at hl
  rcases hl with (hl | ⟨w, hw, rfl⟩) | ⟨p, hp, rfl⟩
  · unfold roomsP at hl
    obtain ⟨i, _, rfl⟩ := List.mem_map.1 hl
    refine ⟨by simp [roomP], fun p hp => ?_⟩
    simp only [roomP, List.mem_cons, List.not_mem_nil, or_false] at hp
    rcases hp with rfl | rfl | rfl
    · rcases hc with rfl | rfl <;> decide
    · exact hx _
    · exact hx _
  · refine ⟨by simp [wallP], fun p hp => ?_⟩
    simp only [wallP, List.mem_cons, List.not_mem_nil, or_false] at hp
    rcases hp with rfl | rfl | rfl | rfl | rfl | rfl | rfl | rfl | rfl
    · rcases hc with rfl | rfl <;> decide
    · exact side_no hc
    · exact side_no hc
    all_goals exact hx _
  · refine ⟨by simp [paneP], fun p hp => ?_⟩
    simp only [paneP, List.mem_cons, List.not_mem_nil, or_false] at hp
    rcases hp with rfl | rfl | rfl | rfl | rfl
    · rcases hc with rfl | rfl <;> decide
    · exact side_no hc
    · exact side_no hc
    all_goals exact hx _
theorem flat_cut (f : T25) : cutL 10 (flatT f) = (linesP f).map (fun l => Lib.join l [32]) ++ [[]] := by
  unfold flatT
  rw [txt_join]
  refine cut_of_join (by simp) fun p hp => ?_
  rw [List.mem_append] at hp
  rcases hp with hp | hp
  · obtain ⟨l, hl, rfl⟩ := List.mem_map.1 hp
    exact join_no (by decide) (words_no (.inr rfl) l hl).2
  · simp at hp
    subst hp
    simp
theorem line_cut {f : T25} {l : List (List UInt8)} (h : l ∈ linesP f) : cutL 32 (Lib.join l [32]) = l := by
  obtain ⟨h1, h2⟩ := words_no (.inl rfl) l h
  exact cut_of_join h1 h2
end Go.Proofs.YtbohajclnmmkhaaGreatDoor
