/- Plain laws of reading seasons: both ways of reading find the season whose text it is, or none. -/
import Derived.Test.YtilkneilafpjiaaDoorK7b
import Derived.Test.YtilkneilafpjiaaDoorK7Pr
namespace Go.Proofs.YtilkneilafpjiaaDoor
open Go.VL
set_option linter.unusedSimpArgs false
set_option linter.unusedVariables false
set_option maxHeartbeats 4000000

theorem join_cons2 (x y : List UInt8) (l : List (List UInt8)) (s : List UInt8) : Lib.join (x :: y :: l) s = x ++ s ++ Lib.join (y :: l) s := by simp [Lib.join, List.intercalate]
theorem join_one (x s : List UInt8) : Lib.join [x] s = x := by simp [Lib.join, List.intercalate]
theorem cut_of_join {c : UInt8} : ∀ {ps : List (List UInt8)}, ps ≠ [] → (∀ p ∈ ps, c ∉ p) → cutL c (Lib.join ps [c]) = ps
  | [], h, _ => absurd rfl h
  | [x], _, h => by rw [join_one, cut_none (h x (by simp))]
  | x :: y :: l, _, h => by
    rw [join_cons2, show x ++ [c] ++ Lib.join (y :: l) [c] = x ++ c :: Lib.join (y :: l) [c] by simp, cut_at (h x (by simp)), cut_of_join (by simp) (fun p hp => h p (by simp only [List.mem_cons] at hp ⊢; exact .inr hp))]
theorem join_mem_len {c : UInt8} {p : List UInt8} : ∀ {l : List (List UInt8)}, p ∈ l → p.length ≤ (Lib.join l [c]).length
  | [], h => by cases h
  | [x], h => by simp at h; subst h; rw [join_one]; exact Nat.le_refl _
  | x :: y :: l, h => by
    rw [join_cons2]
    rcases List.mem_cons.1 h with rfl | h
    · simp
    · have := join_mem_len (c := c) h
      simp at this ⊢
      omega
theorem join_num_len {c : UInt8} : ∀ {l : List (List UInt8)}, l ≠ [] → l.length ≤ (Lib.join l [c]).length + 1
  | [], h => absurd rfl h
  | [x], _ => by simp
  | x :: y :: l, _ => by
    have := join_num_len (c := c) (l := y :: l) (by simp)
    rw [join_cons2]
    simp at this ⊢
    omega
theorem piece_len {c : UInt8} {s p : List UInt8} (h : p ∈ cutL c s) : p.length ≤ s.length := by
  have := join_mem_len (c := c) h
  rwa [(cut_join _ s (Nat.le_refl _)).1] at this
theorem pieces_len (c : UInt8) (s : List UInt8) : (cutL c s).length ≤ s.length + 1 := by
  have := join_num_len (c := c) (cut_ne (c := c) s)
  rwa [(cut_join _ s (Nat.le_refl _)).1] at this

/-! ### Words, one after the other -/
theorem int70 {n : Int} (h0 : 0 ≤ n) (h1 : n < 10000) (l : List ByteArray) (b : Bool) (hl : l.length ≤ 2000000) : g70 ⟨sb (Lib.itoa n) :: l, b⟩ = some (n, ⟨l, b⟩) := by
  have pa := parse_itoa h0 (by omega)
  have la := itoa_len h0 h1
  unfold g70 g69 g100 parseIntO
  simp only [List.length_cons, List.tail_cons]
  rw [if_neg (by simp [eqI]; omega), show idx (sb (Lib.itoa n) :: l) 0 = some (sb (Lib.itoa n)) from rfl, Option.bind_some, cutK_of (by omega) (by simp; omega) (by simp), Option.bind_some, Option.bind_some, if_pos ⟨trivial, trivial, by simp; omega⟩, pa, Option.bind_some]
  simp
theorem next69 (w : ByteArray) (l : List ByteArray) (b : Bool) (hl : l.length ≤ 2000000) : g69 ⟨w :: l, b⟩ = some (w, ⟨l, b⟩) := by
  unfold g69
  simp only [List.length_cons, List.tail_cons]
  rw [if_neg (by simp [eqI]; omega), show idx (w :: l) 0 = some w from rfl, Option.bind_some, cutK_of (by omega) (by simp; omega) (by simp), Option.bind_some]
/-- Words of moderate length, not too many. -/
def Mod (r : T129) : Prop := (∀ x ∈ r.list_, x.size ≤ 1048576) ∧ r.list_.length ≤ 2000000
theorem next_any (r : T129) (h : Mod r) : ∃ w r', g69 r = some (w, r') ∧ w.size ≤ 1048576 ∧ Mod r' := by
  obtain ⟨hr, hl⟩ := h
  unfold g69
  cases hc : r.list_ with
  | nil => exact ⟨_, _, rfl, by simp [ByteArray.size], by simp [Mod]⟩
  | cons x t =>
    rw [hc] at hr hl
    rw [if_neg (by simp [eqI]; omega), show idx (x :: t) 0 = some x from rfl, Option.bind_some, cutK_of (by omega) (by simp; omega) (by simp), Option.bind_some]
    exact ⟨_, _, rfl, hr x (by simp), fun y hy => hr y (by simp at hy; simp [hy]), by simp at hl ⊢; omega⟩
theorem int_any (r : T129) (h : Mod r) : ∃ n r', g70 r = some (n, r') ∧ Mod r' := by
  obtain ⟨w, r', e, e1, e2⟩ := next_any r h
  unfold g70 g100 parseIntO
  rw [e, Option.bind_some, if_pos ⟨rfl, rfl, by show w.size ≤ _; omega⟩, Option.bind_some]
  exact ⟨_, _, rfl, e2⟩
theorem mod_cut {s : List UInt8} (hs : s.length ≤ 1048576) (c : UInt8) (b : Bool) : Mod ⟨(cutL c s).map sb, b⟩ := by
  refine ⟨fun x hx => ?_, ?_⟩
  · obtain ⟨p, hp, rfl⟩ := List.mem_map.1 hx
    have := piece_len hp
    simp; omega
  · have := pieces_len c s
    simp; omega

/-! ### The text of a season, in lines -/
def headP (s : T29) : List (List UInt8) := [[115, 101, 97, 115, 111, 110], Lib.itoa s.most_, Lib.itoa s.yield_, Lib.itoa s.store_, Lib.itoa s.first_, Lib.itoa s.loss_]
def lineP (s : T29) (k : Nat) : List (List UInt8) := [Lib.itoa (s.need_.getD k 0), Lib.itoa (s.price_.getD k 0)]
def bodyL (s : T29) (n : Nat) : List (List UInt8) := (List.range n).map fun k => Lib.join (lineP s k) [32]
def allL (s : T29) : List (List UInt8) := Lib.join (headP s) [32] :: (bodyL s s.need_.length ++ [[]])
def seasonT (s : T29) : List UInt8 := linesT s s.need_.length
theorem join_snoc (c : List UInt8) (y : List UInt8) : ∀ {l : List (List UInt8)}, l ≠ [] → Lib.join (l ++ [y]) c = Lib.join l c ++ c ++ y
  | [], h => absurd rfl h
  | [x], _ => by simp [Lib.join, List.intercalate]
  | x :: z :: l, _ => by
    have ih := join_snoc c y (l := z :: l) (by simp)
    rw [List.cons_append, List.cons_append, join_cons2, ← List.cons_append, ih, join_cons2]
    simp
theorem head_text (s : T29) : headT s = Lib.join (headP s) [32] ++ [10] := by
  unfold headT headP
  simp [Lib.join, List.intercalate]
theorem line_text (s : T29) (k : Nat) : lineT s k = Lib.join (lineP s k) [32] ++ [10] := by
  unfold lineT lineP
  simp [Lib.join, List.intercalate]
theorem season_text (s : T29) : seasonT s = Lib.join (allL s) [10] := by
  have key : ∀ n, linesT s n = Lib.join (Lib.join (headP s) [32] :: bodyL s n) [10] ++ [10] := fun n => by
    induction n with
    | zero => simp [linesT, bodyL, head_text, join_one]
    | succ n ih =>
      have : bodyL s (n + 1) = bodyL s n ++ [Lib.join (lineP s n) [32]] := by simp [bodyL, List.range_succ]
      rw [lines_succ, ih, line_text, this, ← List.cons_append, join_snoc _ _ (by simp)]
      simp
  unfold seasonT allL
  rw [key, ← List.cons_append, join_snoc _ _ (by simp)]
  simp
theorem dig_no {n : Int} (h0 : 0 ≤ n) {c : UInt8} (hc : isDig c = false) : c ∉ Lib.itoa n := by
  obtain ⟨a, _⟩ := itoa_num h0
  simp only [numOk, Bool.and_eq_true] at a
  intro h
  have := List.all_eq_true.1 a.1.1 _ h
  rw [hc] at this
  cases this
theorem head_cut {s : T29} (hv : Valid s) : cutL 32 (Lib.join (headP s) [32]) = headP s := by
  obtain ⟨m1, y1, s1, f1, l1⟩ := hv.bnds
  refine cut_of_join (by simp [headP]) fun p hp => ?_
  simp only [headP, List.mem_cons, List.not_mem_nil, or_false] at hp
  rcases hp with rfl | rfl | rfl | rfl | rfl | rfl
  · decide
  · exact dig_no m1.1 rfl
  · exact dig_no (by omega) rfl
  · exact dig_no s1.1 rfl
  · exact dig_no f1.1 rfl
  · exact dig_no l1.1 rfl
theorem line_cut {s : T29} (hv : Valid s) {k : Nat} (hk : k < s.need_.length) : cutL 32 (Lib.join (lineP s k) [32]) = lineP s k := by
  obtain ⟨e1, e2, ⟨a1, a2⟩, b1, b2⟩ := line_vals hv hk
  refine cut_of_join (by simp [lineP]) fun p hp => ?_
  simp only [lineP, List.mem_cons, List.not_mem_nil, or_false] at hp
  rcases hp with rfl | rfl
  · rw [e1]; exact dig_no a1 rfl
  · rw [e2]; exact dig_no b1 rfl
theorem join_no {c : UInt8} : ∀ {l : List (List UInt8)}, c ≠ 32 → (∀ p ∈ l, c ∉ p) → c ∉ Lib.join l [32]
  | [], _, _ => by simp [Lib.join]
  | [x], _, h => by rw [join_one]; exact h x (by simp)
  | x :: y :: l, hc, h => by
    rw [join_cons2]
    have ih := join_no (l := y :: l) hc (fun p hp => h p (by simp only [List.mem_cons] at hp ⊢; exact .inr hp))
    simp only [List.mem_append, List.mem_singleton, not_or]
    exact ⟨⟨h x (by simp), hc⟩, ih⟩
theorem season_cut {s : T29} (hv : Valid s) : cutL 10 (seasonT s) = allL s := by
  obtain ⟨m1, y1, s1, f1, l1⟩ := hv.bnds
  rw [season_text]
  refine cut_of_join (by simp [allL]) fun p hp => ?_
  simp only [allL, List.mem_cons, List.mem_append, List.not_mem_nil, or_false] at hp
  rcases hp with rfl | hp | rfl
  · refine join_no (by decide) fun p hp => ?_
    simp only [headP, List.mem_cons, List.not_mem_nil, or_false] at hp
    rcases hp with rfl | rfl | rfl | rfl | rfl | rfl
    · decide
    · exact dig_no m1.1 rfl
    · exact dig_no (by omega) rfl
    · exact dig_no s1.1 rfl
    · exact dig_no f1.1 rfl
    · exact dig_no l1.1 rfl
  · obtain ⟨k, hk, rfl⟩ := List.mem_map.1 hp
    obtain ⟨e1, e2, ⟨a1, a2⟩, b1, b2⟩ := line_vals hv (List.mem_range.1 hk)
    refine join_no (by decide) fun p hp => ?_
    simp only [lineP, List.mem_cons, List.not_mem_nil, or_false] at hp
    rcases hp with rfl | rfl
    · rw [e1]; exact dig_no a1 rfl
    · rw [e2]; exact dig_no b1 rfl
  · simp

/-! ### The program's reading -/
theorem season27 {t : List UInt8} (hs : t.length ≤ 1048576) : (∃ s, Valid s ∧ Small s ∧ seasonT s = t ∧ g27 (sb t) = some (s, 0)) ∨ ((∀ s, Valid s → Small s → seasonT s ≠ t) ∧ g27 (sb t) = some (⟨[], [], 0, 0, 0, 0, 0⟩, 5)) := by
  have g74e : ∀ t : List UInt8, t.length ≤ 1048576 → t ≠ [] → ∃ last, (cutL 10 t).getLast? = some last ∧ g74 (sb t) = some (((cutL 10 t).map sb).take ((cutL 10 t).length - 1), decide (last = [])) := fun t ht hne => by
    have h1 := pieces_len 10 t
    have h2 := cut_ne (c := 10) t
    have h3 : 1 ≤ (cutL 10 t).length := List.length_pos_iff.2 h2
    refine ⟨(cutL 10 t)[(cutL 10 t).length - 1], by rw [List.getLast?_eq_getElem?, List.getElem?_eq_getElem (by omega)], ?_⟩
    unfold g74 g99
    rw [sb_nil, eqS_sb, if_neg (by simpa using hne), show (⟨#[10]⟩ : ByteArray) = sb [10] from rfl, splitO_cut (by omega), Option.bind_some, sI64 (by simp; omega) (by simp; omega), cutK_of (by omega) (by simp; omega) (by simp; omega), Option.bind_some]
    have e : (((cutL 10 t).map sb).length : Int) - 1 = (((cutL 10 t).length - 1 : Nat) : Int) := by simp; omega
    rw [e, idx_nat (by simp; omega), Option.bind_some, Int.toNat_natCast, List.getElem_map, eqS_sb]
  by_cases hex : ∃ s, Valid s ∧ Small s ∧ seasonT s = t
  · obtain ⟨s, hv, hsm, rfl⟩ := hex
    left
    refine ⟨s, hv, hsm, rfl, ?_⟩
    have hn1 := hv.n1; have hn2 := hv.n2; have hpl := hv.pl
    have hc := season_cut hv
    obtain ⟨m1, y1, s1, f1, l1⟩ := hv.bnds
    have hne : seasonT s ≠ [] := by
      intro e
      rw [e] at hc
      have := congrArg List.length hc
      simp [cutL, allL, bodyL] at this
    obtain ⟨last, q1, q2⟩ := g74e _ hs hne
    have hlast : last = [] := by
      have q3 : (allL s).getLast? = some [] := by unfold allL; rw [← List.cons_append, List.getLast?_append]; simp
      rw [hc, q3] at q1
      exact (Option.some.inj q1).symm
    rw [hlast, hc] at q2
    have hlen : (allL s).length - 1 = s.need_.length + 1 := by simp [allL, bodyL]
    have htk : ((allL s).map sb).take (s.need_.length + 1) = sb (Lib.join (headP s) [32]) :: (bodyL s s.need_.length).map sb := by
      unfold allL
      rw [List.map_cons, List.take_succ_cons, List.map_append, List.take_append_of_le_length (by simp [bodyL]), List.take_of_length_le (by simp [bodyL])]
    rw [hlen, htk] at q2
    have hh : (Lib.join (headP s) [32]).length ≤ 1048576 := by
      have := piece_len (c := 10) (s := seasonT s) (p := Lib.join (headP s) [32]) (by rw [hc]; simp [allL])
      omega
    obtain ⟨b, c1, c2⟩ := g39_eq hsm
    have hb : b = true := c2.2 hv
    subst hb
    have fin : g27_j2 (s.most_, ⟨[], false⟩) (s.yield_, ⟨[], false⟩) (s.store_, ⟨[], false⟩) (s.first_, ⟨[], false⟩) (s.loss_, ⟨[], false⟩) (sb (seasonT s)) true s.need_ s.price_ = some (s, 0) := by
      unfold g27_j2
      have e : (⟨s.need_, s.price_, s.most_, s.yield_, s.store_, s.first_, s.loss_⟩ : T29) = s := by cases s; rfl
      simp only [e]
      rw [if_neg (by simp), c1, Option.bind_some, Option.bind_some, if_neg (by simp), text58 hv hsm]
      simp [seasonT, eqS_self]
    unfold g27
    rw [q2, Option.bind_some]
    simp only [List.length_cons, List.length_map, decide_true]
    have hbl : (bodyL s s.need_.length).length = s.need_.length := by simp [bodyL]
    rw [hbl, if_neg (by simp [ltI]; omega), show idx (sb (Lib.join (headP s) [32]) :: (bodyL s s.need_.length).map sb) 0 = some (sb (Lib.join (headP s) [32])) from rfl, Option.bind_some]
    unfold g99
    rw [show (⟨#[32]⟩ : ByteArray) = sb [32] from rfl, splitO_cut (by omega), Option.bind_some, head_cut hv]
    unfold headP
    simp only [List.map_cons, List.map_nil]
    rw [next69 _ _ _ (by simp), Option.bind_some, show (⟨#[115, 101, 97, 115, 111, 110]⟩ : ByteArray) = sb [115, 101, 97, 115, 111, 110] from rfl, eqS_sb, if_neg (by simp)]
    unfold g27_j1
    rw [int70 m1.1 (by omega) _ _ (by simp), Option.bind_some, int70 (n := s.yield_) (by omega) (by omega) _ _ (by simp), Option.bind_some, int70 s1.1 (by omega) _ _ (by simp), Option.bind_some, int70 f1.1 (by omega) _ _ (by simp), Option.bind_some, int70 l1.1 (by omega) _ _ (by simp), Option.bind_some]
    unfold g71
    rw [Option.bind_some, cutK_of (by omega) (by simp; omega) (by simp), Option.bind_some]
    have hL : loopO (g27_L1 (sb (Lib.join (headP s) [32]) :: (bodyL s s.need_.length).map sb, true)) (true, 0, [], []) = some (true, s.need_, s.price_) := by
      have := loop_run (body := g27_L1 (sb (Lib.join (headP s) [32]) :: (bodyL s s.need_.length).map sb, true)) (fun i => (true, (i : Int), s.need_.take i, s.price_.take i)) s.need_.length (fun i hi => by
        obtain ⟨e1, e2, ⟨a1, a2⟩, b1, b2⟩ := line_vals hv hi
        have hi2 : i < s.price_.length := by omega
        have hll : (Lib.join (lineP s i) [32]).length ≤ 1048576 := by
          have := piece_len (c := 10) (s := seasonT s) (p := Lib.join (lineP s i) [32]) (by rw [hc]; simp only [allL, bodyL, List.mem_cons, List.mem_append, List.mem_map, List.mem_range]; exact .inr (.inl ⟨i, hi, rfl⟩))
          omega
        rw [g27_L1]
        simp only [List.tail_cons, List.length_map, hbl]
        rw [if_pos (by simp [ltI]; omega), idx_nat (by simpa [hbl] using hi), Option.bind_some]
        have hx : ((bodyL s s.need_.length).map sb)[i]'(by simpa [hbl] using hi) = sb (Lib.join (lineP s i) [32]) := by simp [bodyL]
        rw [hx]
        unfold g99
        rw [show (⟨#[32]⟩ : ByteArray) = sb [32] from rfl, splitO_cut (by omega), Option.bind_some, line_cut hv hi]
        unfold lineP
        rw [e1, e2]
        simp only [List.map_cons, List.map_nil]
        rw [int70 a1 a2 _ _ (by simp), Option.bind_some, appK_of (by simp; omega) (by simp; omega), Option.bind_some, int70 b1 b2 _ _ (by simp), Option.bind_some, appK_of (by simp; omega) (by simp; omega), Option.bind_some, if_pos trivial]
        unfold g71
        rw [Option.bind_some, Option.bind_some, succI (by omega), List.take_succ_eq_append_getElem hi, List.take_succ_eq_append_getElem hi2]
        rfl) (r := (true, s.need_, s.price_)) (by
        rw [g27_L1]
        simp only [List.tail_cons, List.length_map, hbl]
        rw [if_neg (by simp [ltI]), List.take_length, List.take_of_length_le (by omega)])
      simpa using this
    have e0 : ((!false) && eqI (([] : List ByteArray).length : Int) 0) = true := rfl
    simp only [e0]
    unfold headP at hL
    rw [hL]
    simp only [Option.bind_some]
    unfold g27_j2 at fin ⊢
    exact fin
  · right
    refine ⟨fun s h1 h2 h3 => hex ⟨s, h1, h2, h3⟩, ?_⟩
    have key : ∀ (A B C D E : Int × T129) (f : Bool) (l1 l2 : List Int), l1.length ≤ 1048576 → l2.length ≤ 1048576 → g27_j2 A B C D E (sb t) f l1 l2 = some (⟨[], [], 0, 0, 0, 0, 0⟩, 5) := fun A B C D E f l1 l2 h1 h2 => by
      unfold g27_j2
      obtain ⟨b, c1, c2⟩ := g39_eq (s := ⟨l1, l2, A.1, B.1, C.1, D.1, E.1⟩) ⟨h1, h2⟩
      by_cases hf : (!f) = true
      · rw [if_pos hf, Option.bind_some, if_pos rfl, Option.bind_some, if_pos rfl]
      · rw [if_neg hf, c1, Option.bind_some, Option.bind_some]
        cases b with
        | false => rfl
        | true =>
          have hv := c2.1 rfl
          rw [if_neg (by simp), text58 hv ⟨h1, h2⟩, Option.bind_some, eqS_sb, Option.bind_some, if_pos]
          simpa using fun e => hex ⟨_, hv, ⟨h1, h2⟩, by simpa [seasonT] using e⟩
    by_cases hne : t = []
    · subst hne
      unfold g27 g74
      rw [sb_nil, eqS_self]
      rfl
    obtain ⟨last, q1, q2⟩ := g74e t hs hne
    have h1 := pieces_len 10 t
    have h2 := cut_ne (c := 10) t
    have h3 : 1 ≤ (cutL 10 t).length := List.length_pos_iff.2 h2
    unfold g27
    rw [q2, Option.bind_some]
    generalize hR : ((cutL 10 t).map sb).take ((cutL 10 t).length - 1) = R
    have hRm : ∀ x ∈ R, ∃ p, x = sb p ∧ p.length ≤ 1048576 := fun x hx => by
      rw [← hR] at hx
      obtain ⟨p, hp, rfl⟩ := List.mem_map.1 (List.mem_of_mem_take hx)
      exact ⟨p, rfl, by have := piece_len hp; omega⟩
    by_cases hcnd : ((!(decide (last = [])) || ltI (R.length : Int) 1) || ltI 25 (R.length : Int)) = true
    · rw [if_pos hcnd]
    rw [if_neg hcnd]
    have hl : 1 ≤ R.length ∧ R.length ≤ 25 := by
      simp [ltI] at hcnd
      omega
    obtain ⟨p0, e0, e0l⟩ := hRm R[0] (List.getElem_mem _)
    have hi0 : idx R 0 = some R[0] := idx_nat (n := 0) (by omega)
    rw [hi0, Option.bind_some, e0]
    unfold g99
    rw [show (⟨#[32]⟩ : ByteArray) = sb [32] from rfl, splitO_cut (by omega), Option.bind_some]
    obtain ⟨w, r1, e1, _, m1⟩ := next_any _ (mod_cut e0l 32 false)
    rw [e1, Option.bind_some]
    have body : ∀ r : T129, Mod r → ∀ b, g27_j1 (R, decide (last = [])) (sb t) r.list_ b = some (⟨[], [], 0, 0, 0, 0, 0⟩, 5) := fun r hm b => by
      unfold g27_j1
      obtain ⟨n1, r1, e1, m1⟩ := int_any ⟨r.list_, b⟩ hm
      obtain ⟨n2, r2, e2, m2⟩ := int_any r1 m1
      obtain ⟨n3, r3, e3, m3⟩ := int_any r2 m2
      obtain ⟨n4, r4, e4, m4⟩ := int_any r3 m3
      obtain ⟨n5, r5, e5, m5⟩ := int_any r4 m4
      rw [e1, Option.bind_some, e2, Option.bind_some, e3, Option.bind_some, e4, Option.bind_some, e5, Option.bind_some]
      unfold g71
      rw [Option.bind_some, cutK_of (by omega) (by simp; omega) (by simp), Option.bind_some]
      obtain ⟨x, ex, hx⟩ := loopO_rule (body := g27_L1 (R, decide (last = []))) (fun st => R.tail.length - st.2.1.toNat)
        (fun st => ∃ (q : Nat) (f : Bool) (l1 l2 : List Int), st = (f, (q : Int), l1, l2) ∧ q ≤ R.tail.length ∧ l1.length = q ∧ l2.length = q) (fun x => x.2.1.length ≤ 1048576 ∧ x.2.2.length ≤ 1048576) (fun st ⟨q, f, l1, l2, e, a1, a2, a3⟩ => by
          subst e
          have htl : R.tail.length ≤ 24 := by simp; omega
          rw [g27_L1]
          by_cases hq : q < R.tail.length
          · left
            obtain ⟨p, ep, epl⟩ := hRm R.tail[q] (List.mem_of_mem_tail (List.getElem_mem hq))
            rw [if_pos (by simp only [ltI, decide_eq_true_eq]; omega), idx_nat hq, Option.bind_some, ep]
            unfold g99
            rw [show (⟨#[32]⟩ : ByteArray) = sb [32] from rfl, splitO_cut (by omega), Option.bind_some]
            obtain ⟨n1, r1, e1, m1⟩ := int_any _ (mod_cut epl 32 false)
            obtain ⟨n2, r2, e2, m2⟩ := int_any r1 m1
            rw [e1, Option.bind_some, appK_of (by simp; omega) (by simp; omega), Option.bind_some, e2, Option.bind_some, appK_of (by simp; omega) (by simp; omega), Option.bind_some]
            unfold g71
            cases f with
            | true =>
              rw [if_pos rfl, Option.bind_some, Option.bind_some, succI (by omega)]
              exact ⟨_, rfl, ⟨q + 1, _, _, _, rfl, by omega, by simp; omega, by simp; omega⟩, by simp only; omega⟩
            | false =>
              rw [if_neg (by simp), Option.bind_some, succI (by omega)]
              exact ⟨_, rfl, ⟨q + 1, _, _, _, rfl, by omega, by simp; omega, by simp; omega⟩, by simp only; omega⟩
          · right
            rw [if_neg (by simp only [ltI, decide_eq_true_eq]; omega)]
            exact ⟨_, rfl, by simp only; omega, by simp only; omega⟩) (s := ((!r5.bad_) && eqI (r5.list_.length : Int) 0, 0, [], [])) ⟨0, _, [], [], rfl, by omega, rfl, rfl⟩
      rw [ex, Option.bind_some]
      exact key _ _ _ _ _ _ _ _ hx.1 hx.2
    split
    · exact body r1 m1 true
    · exact body r1 m1 r1.bad_

/-! ### The reference's reading -/
theorem nums73 {ps : List (List UInt8)} (hl : ps.length ≤ 2000000) : ∃ l, g73 (ps.map sb) = some (l, ps.all fun p => (numR p).2) ∧ ((ps.all fun p => (numR p).2) = true → l = ps.map fun p => (numR p).1) := by
  obtain ⟨r, e, hr⟩ := loopO_rule (body := g73_L1 (ps.map sb)) (fun st => ps.length - st.1.toNat)
    (fun st => ∃ q : Nat, st = ((q : Int), (ps.take q).map fun p => (numR p).1) ∧ q ≤ ps.length ∧ ((ps.take q).all fun p => (numR p).2) = true)
    (fun r => match r with
      | .inl y => (ps.all fun p => (numR p).2) = true ∧ y = ps.map fun p => (numR p).1
      | .inr z => (ps.all fun p => (numR p).2) = false ∧ z.2 = false) (fun st ⟨q, e, q1, q2⟩ => by
      subst e
      rw [g73_L1]
      by_cases hq : q < ps.length
      · have ht : ps.take (q + 1) = ps.take q ++ [ps[q]] := List.take_succ_eq_append_getElem hq
        rw [if_pos (by simp [ltI]; omega), idx_nat (by simpa using hq), Option.bind_some, List.getElem_map, num98, Option.bind_some]
        cases hn : (numR ps[q]).2 with
        | true =>
          left
          rw [if_neg (by simp), appK_of (by simp; omega) (by simp; omega), Option.bind_some, succI (by omega)]
          exact ⟨_, rfl, ⟨q + 1, by rw [ht]; simp only [List.map_append, List.map_cons, List.map_nil], by omega, by rw [ht, List.all_append, q2, List.all_cons, hn]; rfl⟩, by simp only; omega⟩
        | false =>
          right
          rw [if_pos (by simp)]
          refine ⟨_, rfl, ?_, rfl⟩
          rw [List.all_eq_false]
          exact ⟨ps[q], List.getElem_mem hq, by simp [hn]⟩
      · right
        rw [if_neg (by simp [ltI]; omega)]
        have : q = ps.length := by omega
        subst this
        rw [List.take_length] at *
        exact ⟨_, rfl, q2, rfl⟩) (s := (0, [])) ⟨0, rfl, by omega, rfl⟩
  unfold g73
  rw [e, Option.bind_some]
  cases r with
  | inl y =>
    obtain ⟨r1, r2⟩ := hr
    exact ⟨y, by rw [r1]; rfl, fun _ => r2⟩
  | inr z =>
    obtain ⟨r1, r2⟩ := hr
    refine ⟨z.1, ?_, fun h => by rw [r1] at h; cases h⟩
    rw [r1]
    show some z = _
    rw [← r2]
theorem nums_back {ps : List (List UInt8)} (h : (ps.all fun p => (numR p).2) = true) : ps = (ps.map fun p => (numR p).1).map Lib.itoa := by
  rw [List.map_map]
  conv => lhs; rw [← List.map_id ps]
  refine List.map_congr_left fun p hp => ?_
  exact (numR_ok (List.all_eq_true.1 h p hp)).symm

theorem season26 {t : List UInt8} (hs : t.length ≤ 1048576) : (∃ s, Valid s ∧ Small s ∧ seasonT s = t ∧ g26 (sb t) = some (s, 0)) ∨ ((∀ s, Valid s → Small s → seasonT s ≠ t) ∧ g26 (sb t) = some (⟨[], [], 0, 0, 0, 0, 0⟩, 5)) := by
  have e10 : ∀ {u : List UInt8}, u.length ≤ 1048576 → g72 (sb u) 10 = some ((cutL 10 u).map sb) := fun hu => split72 (c := 10) hu
  have e32 : ∀ {u : List UInt8}, u.length ≤ 1048576 → g72 (sb u) 32 = some ((cutL 32 u).map sb) := fun hu => split72 (c := 32) hu
  by_cases hex : ∃ s, Valid s ∧ Small s ∧ seasonT s = t
  · obtain ⟨s, hv, hsm, rfl⟩ := hex
    left
    refine ⟨s, hv, hsm, rfl, ?_⟩
    have hn1 := hv.n1; have hn2 := hv.n2; have hpl := hv.pl
    have hc := season_cut hv
    obtain ⟨m1, y1, s1, f1, l1⟩ := hv.bnds
    have hh : (Lib.join (headP s) [32]).length ≤ 1048576 := by
      have := piece_len (c := 10) (s := seasonT s) (p := Lib.join (headP s) [32]) (by rw [hc]; simp [allL])
      omega
    obtain ⟨b, c1, c2⟩ := g55_eq hsm
    have hb : b = true := c2.2 hv
    subst hb
    have hlen : ((allL s).map sb).length = s.need_.length + 2 := by simp [allL, bodyL]
    obtain ⟨l, d1, d2⟩ := nums73 (ps := [Lib.itoa s.most_, Lib.itoa s.yield_, Lib.itoa s.store_, Lib.itoa s.first_, Lib.itoa s.loss_]) (by simp)
    have dA : ([Lib.itoa s.most_, Lib.itoa s.yield_, Lib.itoa s.store_, Lib.itoa s.first_, Lib.itoa s.loss_].all fun p => (numR p).2) = true := by
      simp only [List.all_cons, List.all_nil, numR_itoa m1.1 (show s.most_ < 10000 by omega), numR_itoa (n := s.yield_) (by omega) (by omega), numR_itoa s1.1 (show s.store_ < 10000 by omega), numR_itoa f1.1 (show s.first_ < 10000 by omega), numR_itoa l1.1 (show s.loss_ < 10000 by omega), Bool.and_self]
    have dl := d2 dA
    simp only [List.map_cons, List.map_nil, numR_itoa m1.1 (show s.most_ < 10000 by omega), numR_itoa (n := s.yield_) (by omega) (by omega), numR_itoa s1.1 (show s.store_ < 10000 by omega), numR_itoa f1.1 (show s.first_ < 10000 by omega), numR_itoa l1.1 (show s.loss_ < 10000 by omega)] at dl
    subst dl
    rw [dA] at d1
    have hL : loopO (g26_L1 ((allL s).map sb)) (1, [], []) = some (.inl (s.need_, s.price_)) := by
      have := loop_run (body := g26_L1 ((allL s).map sb)) (fun i => (((i + 1 : Nat) : Int), s.need_.take i, s.price_.take i)) s.need_.length (fun i hi => by
        obtain ⟨e1, e2, ⟨a1, a2⟩, b1, b2⟩ := line_vals hv hi
        have hi2 : i < s.price_.length := by omega
        have hll : (Lib.join (lineP s i) [32]).length ≤ 1048576 := by
          have := piece_len (c := 10) (s := seasonT s) (p := Lib.join (lineP s i) [32]) (by rw [hc]; simp only [allL, bodyL, List.mem_cons, List.mem_append, List.mem_map, List.mem_range]; exact .inr (.inl ⟨i, hi, rfl⟩))
          omega
        have hx : ((allL s).map sb)[i + 1]'(by rw [hlen]; omega) = sb (Lib.join (lineP s i) [32]) := by
          simp only [allL, List.map_cons, List.getElem_cons_succ, List.map_append]
          rw [List.getElem_append_left (by simp [bodyL]; exact hi)]
          simp [bodyL]
        obtain ⟨l, k1, k2⟩ := nums73 (ps := lineP s i) (by simp [lineP])
        have kA : ((lineP s i).all fun p => (numR p).2) = true := by
          simp only [lineP, e1, e2, List.all_cons, List.all_nil, numR_itoa a1 a2, numR_itoa b1 b2, Bool.and_self]
        have kl := k2 kA
        simp only [lineP, e1, e2, List.map_cons, List.map_nil, numR_itoa a1 a2, numR_itoa b1 b2] at kl
        subst kl
        rw [kA] at k1
        rw [g26_L1, succI (by omega), hlen, if_pos (by simp only [ltI, decide_eq_true_eq]; omega), idx_nat (by rw [hlen]; omega), Option.bind_some, hx, e32 hll, Option.bind_some, line_cut hv hi, k1, Option.bind_some, if_neg (by simp [eqI])]
        simp only
        rw [show idx [s.need_[i], s.price_[i]] 0 = some s.need_[i] from rfl, Option.bind_some, appK_of (by simp; omega) (by simp; omega), Option.bind_some, show idx [s.need_[i], s.price_[i]] 1 = some s.price_[i] from rfl, Option.bind_some, appK_of (by simp; omega) (by simp; omega), Option.bind_some, List.take_succ_eq_append_getElem hi, List.take_succ_eq_append_getElem hi2]) (r := .inl (s.need_, s.price_)) (by
        rw [g26_L1, succI (by omega), hlen, if_neg (by simp only [ltI, decide_eq_true_eq]; omega), List.take_length, List.take_of_length_le (by omega)])
      simpa using this
    unfold g26
    rw [e10 hs, Option.bind_some, hc]
    have i0 : idx ((allL s).map sb) 0 = some (sb (Lib.join (headP s) [32])) := rfl
    rw [i0, Option.bind_some, e32 hh, Option.bind_some, head_cut hv]
    have h6 : ((headP s).map sb).length = 6 := rfl
    have hlast : idx ((allL s).map sb) (sI .i64 (((allL s).map sb).length : Int) 1) = some (sb []) := by
      rw [hlen, sI64 (by omega) (by omega), show ((s.need_.length + 2 : Nat) : Int) - 1 = ((s.need_.length + 1 : Nat) : Int) by omega, idx_nat (by rw [hlen]; omega)]
      simp only [allL, List.map_cons, List.getElem_cons_succ, List.map_append, List.map_nil]
      rw [List.getElem_append_right (by simp [bodyL])]
      simp [bodyL]
    rw [if_neg (by rw [h6]; decide), show idx ((headP s).map sb) 0 = some (sb [115, 101, 97, 115, 111, 110]) from rfl, Option.bind_some, show (⟨#[115, 101, 97, 115, 111, 110]⟩ : ByteArray) = sb [115, 101, 97, 115, 111, 110] from rfl, eqS_self, Option.bind_some, if_neg (by simp), hlast, Option.bind_some, sb_nil, eqS_self, Option.bind_some, if_neg (by simp), h6]
    rw [cutK_of (by omega) (by omega) (by omega), Option.bind_some, show ((headP s).map sb).tail = [Lib.itoa s.most_, Lib.itoa s.yield_, Lib.itoa s.store_, Lib.itoa s.first_, Lib.itoa s.loss_].map sb from rfl, d1, Option.bind_some, if_neg (by simp)]
    rw [show idx [s.most_, s.yield_, s.store_, s.first_, s.loss_] 0 = some s.most_ from rfl, Option.bind_some, show idx [s.most_, s.yield_, s.store_, s.first_, s.loss_] 1 = some s.yield_ from rfl, Option.bind_some, show idx [s.most_, s.yield_, s.store_, s.first_, s.loss_] 2 = some s.store_ from rfl, Option.bind_some, show idx [s.most_, s.yield_, s.store_, s.first_, s.loss_] 3 = some s.first_ from rfl, Option.bind_some, show idx [s.most_, s.yield_, s.store_, s.first_, s.loss_] 4 = some s.loss_ from rfl, Option.bind_some, hL, Option.bind_some]
    unfold g26_j1
    have e : (⟨s.need_, s.price_, s.most_, s.yield_, s.store_, s.first_, s.loss_⟩ : T29) = s := by cases s; rfl
    simp only [e, c1, Option.bind_some]
    rfl
  · right
    refine ⟨fun s h1 h2 h3 => hex ⟨s, h1, h2, h3⟩, ?_⟩
    have h1 := pieces_len 10 t
    have h2 := cut_ne (c := 10) t
    obtain ⟨hj, hno⟩ := cut_join (c := 10) _ t (Nat.le_refl _)
    generalize hP : cutL 10 t = P at *
    have hp1 : 1 ≤ P.length := List.length_pos_iff.2 h2
    have hPm : ∀ p ∈ P, p.length ≤ 1048576 := fun p hp => by
      rw [← hP] at hp
      have := piece_len hp
      omega
    unfold g26
    rw [e10 hs, Option.bind_some, hP, show (0 : Int) = ((0 : Nat) : Int) from rfl, idx_nat (by simp; omega), Option.bind_some, List.getElem_map, e32 (hPm _ (List.getElem_mem _)), Option.bind_some]
    generalize hH : cutL 32 P[0] = H
    have hHj : Lib.join H [32] = P[0] := by rw [← hH]; exact (cut_join (c := 32) _ _ (Nat.le_refl _)).1
    have hl : (P.map sb).length = P.length := by simp
    have hHl : (H.map sb).length = H.length := by simp
    by_cases h6 : H.length = 6
    · have w9 : (if (!eqI ((H.map sb).length : Int) 6) = true then some true else (idx (H.map sb) ((0 : Nat) : Int)).bind fun e7 => some (!eqS e7 (⟨#[115, 101, 97, 115, 111, 110]⟩ : ByteArray))) = some (!decide (H[0] = [115, 101, 97, 115, 111, 110])) := by
        rw [if_neg (by rw [hHl, h6]; decide), idx_nat (by rw [hHl]; omega), Option.bind_some, List.getElem_map, show (⟨#[115, 101, 97, 115, 111, 110]⟩ : ByteArray) = sb [115, 101, 97, 115, 111, 110] from rfl, eqS_sb]
      rw [w9, Option.bind_some]
      by_cases hw : H[0] = [115, 101, 97, 115, 111, 110]
      · have hlst : idx (P.map sb) (sI .i64 ((P.map sb).length : Int) 1) = some (sb P[P.length - 1]) := by
          rw [hl, sI64 (by omega) (by omega), show (P.length : Int) - 1 = ((P.length - 1 : Nat) : Int) by omega, idx_nat (by rw [hl]; omega), List.getElem_map]
        rw [if_neg (by simp [hw]), hlst, Option.bind_some, sb_nil, eqS_sb, Option.bind_some]
        by_cases hlast : P[P.length - 1] = []
        · rw [if_neg (by simp [hlast]), hHl, h6]
          obtain ⟨l, d1, d2⟩ := nums73 (ps := H.tail) (by simp; omega)
          rw [cutK_of (by omega) (by omega) (by omega), Option.bind_some, ← List.map_tail, d1, Option.bind_some]
          cases hA : (H.tail.all fun p => (numR p).2) with
          | false => rw [if_pos (by simp)]
          | true =>
            have dl := d2 hA
            have db := nums_back hA
            rw [← dl] at db
            have l5 : l.length = 5 := by rw [dl]; simp; omega
            rw [if_neg (by simp)]
            match l, l5, db with
            | [a, b, c, d, e], _, db =>
              rw [show idx [a, b, c, d, e] ((0 : Nat) : Int) = some a from rfl, Option.bind_some, show idx [a, b, c, d, e] 1 = some b from rfl, Option.bind_some, show idx [a, b, c, d, e] 2 = some c from rfl, Option.bind_some, show idx [a, b, c, d, e] 3 = some d from rfl, Option.bind_some, show idx [a, b, c, d, e] 4 = some e from rfl, Option.bind_some]
              have hp2 : 2 ≤ P.length := by
                rcases Nat.lt_or_ge P.length 2 with h | h
                · exfalso
                  have h0 : P[0] = [] := by
                    have : P.length - 1 = 0 := by omega
                    simp only [this] at hlast
                    exact hlast
                  rw [h0] at hH
                  rw [← hH] at h6
                  simp [cutL] at h6
                · exact h
              obtain ⟨r, er, hr⟩ := loopO_rule (body := g26_L1 (P.map sb)) (fun st => P.length - st.1.toNat)
                (fun st => ∃ (q : Nat) (l1 l2 : List Int), st = (((q + 1 : Nat) : Int), l1, l2) ∧ q + 2 ≤ P.length ∧ l1.length = q ∧ l2.length = q ∧ ∀ k (h : k + 1 < P.length), k < q → P[k + 1] = Lib.join [Lib.itoa (l1.getD k 0), Lib.itoa (l2.getD k 0)] [32])
                (fun r => match r with
                  | .inl y => y.1.length + 2 = P.length ∧ y.2.length = y.1.length ∧ ∀ k (h : k + 1 < P.length), k < y.1.length → P[k + 1] = Lib.join [Lib.itoa (y.1.getD k 0), Lib.itoa (y.2.getD k 0)] [32]
                  | .inr z => z = (⟨[], [], 0, 0, 0, 0, 0⟩, 5)) (fun st ⟨q, l1, l2, est, a1, a2, a3, a4⟩ => by
                  subst est
                  rw [g26_L1, succI (by omega), hl]
                  by_cases hq : q + 2 < P.length
                  · rw [if_pos (by simp only [ltI, decide_eq_true_eq]; omega), idx_nat (by rw [hl]; omega), Option.bind_some, List.getElem_map, e32 (hPm _ (List.getElem_mem _)), Option.bind_some]
                    have hlc := pieces_len 32 (P[q + 1]'(by omega))
                    have := hPm _ (List.getElem_mem (show q + 1 < P.length by omega))
                    obtain ⟨l, k1, k2⟩ := nums73 (ps := cutL 32 (P[q + 1]'(by omega))) (by omega)
                    rw [k1, Option.bind_some]
                    cases kA : ((cutL 32 (P[q + 1]'(by omega))).all fun p => (numR p).2) with
                    | false =>
                      right
                      rw [if_pos (by simp)]
                      exact ⟨_, rfl, rfl⟩
                    | true =>
                      have kl := k2 kA
                      have kb := nums_back kA
                      rw [← kl] at kb
                      by_cases h2l : l.length = 2
                      · left
                        match l, h2l, kb with
                        | [x, y], _, kb =>
                          have hjx : P[q + 1]'(by omega) = Lib.join [Lib.itoa x, Lib.itoa y] [32] := by
                            have := (cut_join (c := 32) _ (P[q + 1]'(by omega)) (Nat.le_refl _)).1
                            rw [kb] at this
                            exact this.symm
                          rw [if_neg (by simp [eqI])]
                          simp only
                          rw [show idx [x, y] 0 = some x from rfl, Option.bind_some, appK_of (by simp; omega) (by simp; omega), Option.bind_some, show idx [x, y] 1 = some y from rfl, Option.bind_some, appK_of (by simp; omega) (by simp; omega), Option.bind_some]
                          refine ⟨_, rfl, ⟨q + 1, _, _, rfl, by omega, by simp; omega, by simp; omega, fun k hk hkq => ?_⟩, by simp only; omega⟩
                          by_cases hkk : k = q
                          · subst hkk
                            rw [hjx]
                            simp [List.getD, a2, a3]
                          · have hlt : k < q := by omega
                            rw [a4 k hk hlt]
                            simp only [List.getD_eq_getElem?_getD]
                            rw [List.getElem?_append_left (by omega), List.getElem?_append_left (by omega)]
                      · right
                        rw [if_pos (by simp [eqI]; omega)]
                        exact ⟨_, rfl, rfl⟩
                  · right
                    rw [if_neg (by simp only [ltI, decide_eq_true_eq]; omega)]
                    exact ⟨_, rfl, by simp only; omega, by simp only; omega, fun k hk hkq => a4 k hk (by simp only at hkq; omega)⟩) (s := (1, [], [])) ⟨0, [], [], rfl, by omega, rfl, rfl, fun k hk h => by omega⟩
              rw [er, Option.bind_some]
              cases r with
              | inr z => simp only at hr; rw [hr]; rfl
              | inl y =>
                obtain ⟨r1, r2, r3⟩ := hr
                unfold g26_j1
                have hsm : Small (⟨y.1, y.2, a, b, c, d, e⟩ : T29) := ⟨by show y.1.length ≤ _; omega, by show y.2.length ≤ _; omega⟩
                obtain ⟨v, c1, c2⟩ := g55_eq hsm
                simp only [c1, Option.bind_some]
                cases v with
                | false => rfl
                | true =>
                  exfalso
                  refine hex ⟨_, c2.1 rfl, hsm, ?_⟩
                  rw [season_text, ← hj]
                  congr 1
                  -- the lines
                  have hH2 : H = headP (⟨y.1, y.2, a, b, c, d, e⟩ : T29) := by
                    cases H with
                    | nil => simp at h6
                    | cons x xs =>
                      simp only [List.tail_cons] at db
                      simp only [List.getElem_cons_zero] at hw
                      rw [hw, db]
                      rfl
                  apply List.ext_getElem
                  · simp [allL, bodyL]; omega
                  · intro k k1 k2
                    cases k with
                    | zero =>
                      show Lib.join (headP _) [32] = P[0]
                      rw [← hH2, hHj]
                    | succ k =>
                      by_cases hkl : k < y.1.length
                      · rw [r3 k k2 hkl]
                        simp only [allL, List.getElem_cons_succ]
                        rw [List.getElem_append_left (by simp [bodyL]; exact hkl)]
                        simp [bodyL, lineP]
                      · have hk : k + 1 = P.length - 1 := by omega
                        simp only [allL, List.getElem_cons_succ]
                        rw [List.getElem_append_right (by simp [bodyL]; omega)]
                        simp only [hk, hlast]
                        simp
        · rw [if_pos (by simp [hlast])]
      · rw [if_pos (by simp [hw]), Option.bind_some, if_pos rfl]
    · rw [if_pos (by rw [hHl]; simp [eqI]; omega), Option.bind_some, if_pos rfl, Option.bind_some, if_pos rfl]

theorem season_inj {s s' : T29} (hv : Valid s) (hv' : Valid s') (h : seasonT s = seasonT s') : s = s' := by
  have h1 := season_cut hv
  have h2 := season_cut hv'
  rw [h, h2] at h1
  have hn : s'.need_.length = s.need_.length := by
    have := congrArg List.length h1
    simp [allL, bodyL] at this
    exact this
  have inj : ∀ {a b : Int}, 0 ≤ a → 0 ≤ b → Lib.itoa a = Lib.itoa b → a = b := fun ha hb e => by
    have x := (itoa_num ha).2
    have y := (itoa_num hb).2
    rw [e] at x
    omega
  have hh : headP s' = headP s := by
    have := congrArg (fun l => cutL 32 (l.head?.getD [])) h1
    simp only [allL, List.head?_cons, Option.getD_some] at this
    rwa [head_cut hv, head_cut hv'] at this
  obtain ⟨m1, y1, s1, f1, l1⟩ := hv.bnds
  obtain ⟨m2, y2, s2, f2, l2⟩ := hv'.bnds
  simp only [headP, List.cons.injEq, and_true, true_and] at hh
  have lines : ∀ k, k < s.need_.length → lineP s' k = lineP s k := fun k hk => by
    have := congrArg (fun l => cutL 32 (l[k + 1]?.getD [])) h1
    simp only [allL, List.getElem?_cons_succ] at this
    rw [List.getElem?_append_left (by simp [bodyL]; omega), List.getElem?_append_left (by simp [bodyL]; omega)] at this
    simp only [bodyL, List.getElem?_map, List.getElem?_range (show k < s.need_.length by omega), List.getElem?_range (show k < s'.need_.length by omega), Option.map_some, Option.getD_some] at this
    rwa [line_cut hv hk, line_cut hv' (by omega)] at this
  have hp := hv.pl
  have hp' := hv'.pl
  have hneed : s.need_ = s'.need_ := by
    apply List.ext_getElem
    · omega
    · intro k k1 k2
      obtain ⟨e1, e2, ⟨a1, _⟩, _⟩ := line_vals hv k1
      obtain ⟨e1', e2', ⟨a1', _⟩, _⟩ := line_vals hv' k2
      have := lines k k1
      simp only [lineP, e1, e2, e1', e2', List.cons.injEq, and_true] at this
      exact inj a1 a1' this.1.symm
  have hprice : s.price_ = s'.price_ := by
    apply List.ext_getElem
    · omega
    · intro k k1 k2
      obtain ⟨e1, e2, _, b1, _⟩ := line_vals hv (k := k) (by omega)
      obtain ⟨e1', e2', _, b1', _⟩ := line_vals hv' (k := k) (by omega)
      have := lines k (by omega)
      simp only [lineP, e1, e2, e1', e2', List.cons.injEq, and_true] at this
      exact inj b1 b1' this.2.symm
  have q1 := inj m2.1 m1.1 hh.1
  have q2 := inj (show 0 ≤ s'.yield_ by omega) (show 0 ≤ s.yield_ by omega) hh.2.1
  have q3 := inj s2.1 s1.1 hh.2.2.1
  have q4 := inj f2.1 f1.1 hh.2.2.2.1
  have q5 := inj l2.1 l1.1 hh.2.2.2.2
  cases s
  cases s'
  simp only at hneed hprice q1 q2 q3 q4 q5
  subst hneed hprice q1 q2 q3 q4 q5
  rfl

/-- Both read the same. -/
theorem season_same {t : List UInt8} (hs : t.length ≤ 1048576) : ∃ s c, g26 (sb t) = some (s, c) ∧ g27 (sb t) = some (s, c) ∧ Small s := by
  rcases season26 hs with ⟨s, v1, v2, v3, v4⟩ | ⟨v1, v2⟩ <;> rcases season27 hs with ⟨s', u1, u2, u3, u4⟩ | ⟨u1, u2⟩
  · have := season_inj v1 u1 (v3.trans u3.symm)
    subst this
    exact ⟨_, _, v4, u4, v2⟩
  · exact absurd v3 (u1 s v1 v2)
  · exact absurd u3 (v1 s' u1 u2)
  · exact ⟨_, _, v2, u2, by simp [Small]⟩

/-! ### Marks -/
noncomputable def markB : (Int × Int × List Int) → Option ((Int × Int × List Int) ⊕ (Int × List Int))
  | (k, i, l) =>
    if ltI i (l.length : Int) = true then
      (idx l i).bind fun e =>
      some (.inl (aI .i64 k 1, aI .i64 i 1, (l.set i.toNat k)))
    else
      some (.inr (k, l))

theorem mark_eq {l : List Int} {k : Int} (hk : 0 ≤ k) (hk2 : k ≤ 4611686018427387904) (hl : l.length ≤ 1048576) : loopO markB (k, 0, l) = some (k + l.length, marks k l.length) := by
  have hset : ∀ i, i < l.length → (marks k i ++ l.drop i).set i (k + i) = marks k (i + 1) ++ l.drop (i + 1) := fun i hi => by
    apply List.ext_getElem?
    intro j
    rw [List.getElem?_set]
    simp only [List.length_append, marks_length, List.length_drop]
    by_cases hj : i = j
    · subst hj
      rw [if_pos rfl, if_pos (by omega), List.getElem?_append_left (by simp), marks_get (by omega)]
    · rw [if_neg hj]
      by_cases hlt : j < i
      · rw [List.getElem?_append_left (by simpa using hlt), List.getElem?_append_left (by simp; omega), marks_get hlt, marks_get (by omega)]
      · rw [List.getElem?_append_right (by simp; omega), List.getElem?_append_right (by simp; omega)]
        simp only [marks_length, List.getElem?_drop]
        congr 1; omega
  have := loop_run (body := markB) (fun i => (k + i, (i : Int), marks k i ++ l.drop i)) l.length (fun i hi => by
    have hlen : (marks k i ++ l.drop i).length = l.length := by simp; omega
    rw [markB, hlen, if_pos (by simp [ltI]; omega), idx_nat (by omega), Option.bind_some, succI (by omega), aI64 (by omega) (by omega), Int.toNat_natCast, hset i hi]
    congr 3
    omega) (r := (k + l.length, marks k l.length)) (by
    rw [markB]
    have hlen : (marks k l.length ++ l.drop l.length).length = l.length := by simp
    rw [hlen, if_neg (by simp [ltI])]
    simp)
  simpa [marks] using this

theorem held77 {n : Nat} {k : Int} (hk : 0 ≤ k) (hk2 : k ≤ 4611686018427387904) (hl : n ≤ 1048576) : g77 (marks k n) k = some (k + n) := by
  have := loop_run (body := g77_L1 (marks k n)) (fun i => (k + i, (i : Int))) n (fun i hi => by
    rw [g77_L1, marks_length, if_pos (by simp [ltI]; omega), idx_nat (by simpa using hi), Option.bind_some, succI (by omega), aI64 (by omega) (by omega)]
    have : (marks k n)[i]'(by simpa using hi) = k + i := by
      have := marks_get (k := k) hi
      rw [List.getElem?_eq_getElem (by simpa using hi)] at this
      exact Option.some.inj this
    rw [this]
    simp [eqI]
    omega) (r := .inl (k + n)) (by
    rw [g77_L1, marks_length, if_neg (by simp [ltI])])
  unfold g77 g77_j1
  have h0 : loopO (g77_L1 (marks k n)) (k, 0) = some (.inl (k + n)) := by simpa using this
  rw [h0]
  rfl

theorem law7 (aText : ByteArray) (h : aText.size ≤ maxLen) : g7 aText = some true := by
  obtain ⟨t, rfl⟩ : ∃ t, aText = sb t := ⟨_, (sb_self _).symm⟩
  unfold g7
  by_cases hc : ltI 1048576 ((sb t).size : Int) = true
  · rw [if_pos hc]
  rw [if_neg hc]
  have hs : t.length ≤ 1048576 := by simp [ltI] at hc; omega
  obtain ⟨s, c, e1, e2, hsm⟩ := season_same hs
  obtain ⟨n1, n2⟩ := hsm
  rw [e1, Option.bind_some, e2, Option.bind_some]
  simp only
  rw [g17_eq ⟨n1, n2⟩, Option.bind_some, if_neg (by simp [eqI])]
  have m1 : loopO g7_L2 (1, 0, s.need_) = some (1 + (s.need_.length : Int), marks 1 s.need_.length) := mark_eq (by decide) (by decide) n1
  have m2 : loopO g7_L1 (1 + (s.need_.length : Int), 0, s.price_) = some (1 + (s.need_.length : Int) + s.price_.length, marks (1 + (s.need_.length : Int)) s.price_.length) := mark_eq (by omega) (by omega) n2
  have hd : g29 (⟨marks 1 s.need_.length, marks (1 + (s.need_.length : Int)) s.price_.length, s.most_, s.yield_, s.store_, s.first_, s.loss_⟩ : T29) 1 = some (1 + (s.need_.length : Int) + s.price_.length) := by
    unfold g29
    simp only
    rw [held77 (by decide) (by decide) n1, Option.bind_some, if_neg (by simp [ltI]; omega), held77 (by omega) (by omega) n2, Option.bind_some, if_neg (by simp [ltI]; omega)]
  rw [m1, Option.bind_some]
  unfold g7_j1
  simp only
  rw [m2, Option.bind_some]
  unfold g7_j2
  simp only
  rw [hd, Option.bind_some, if_neg (by simp [ltI]; omega), if_neg (by simp [eqI]), e2, Option.bind_some]
  simp only
  rw [g17_eq ⟨n1, n2⟩, Option.bind_some, if_neg (by simp [eqI]), Option.bind_some, if_neg (by simp [ltI]; omega), if_neg (by simp [eqI])]
end Go.Proofs.YtilkneilafpjiaaDoor
