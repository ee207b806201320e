/- Plain law of reading journals: line by line both ways read the same. -/
import Derived.Test.YtilkneilafpjiaaDoorK8a
import Derived.Test.YtilkneilafpjiaaDoorK8Pr
namespace Go.Proofs.YtilkneilafpjiaaDoor
open Go.VL
set_option linter.unusedSimpArgs false
set_option linter.unusedVariables false
set_option maxHeartbeats 4000000

theorem join_cons2J (x y : List UInt8) (l : List (List UInt8)) (s : List UInt8) : Lib.join (x :: y :: l) s = x ++ s ++ Lib.join (y :: l) s := by simp [Lib.join, List.intercalate]
theorem join_oneJ (x s : List UInt8) : Lib.join [x] s = x := by simp [Lib.join, List.intercalate]
theorem join_mem_lenJ {c : UInt8} {p : List UInt8} : ∀ {l : List (List UInt8)}, p ∈ l → p.length ≤ (Lib.join l [c]).length
  | [], h => by cases h
  | [x], h => by simp at h; subst h; rw [join_oneJ]; exact Nat.le_refl _
  | x :: y :: l, h => by
    rw [join_cons2J]
    rcases List.mem_cons.1 h with rfl | h
    · simp
    · have := join_mem_lenJ (c := c) h
      simp at this ⊢
      omega
theorem join_num_lenJ {c : UInt8} : ∀ {l : List (List UInt8)}, l ≠ [] → l.length ≤ (Lib.join l [c]).length + 1
  | [], h => absurd rfl h
  | [x], _ => by simp
  | x :: y :: l, _ => by
    have := join_num_lenJ (c := c) (l := y :: l) (by simp)
    rw [join_cons2J]
    simp at this ⊢
    omega
theorem piece_lenJ {c : UInt8} {s p : List UInt8} (h : p ∈ cutL c s) : p.length ≤ s.length := by
  have := join_mem_lenJ (c := c) h
  rwa [(cut_join _ s (Nat.le_refl _)).1] at this
theorem pieces_lenJ (c : UInt8) (s : List UInt8) : (cutL c s).length ≤ s.length + 1 := by
  have := join_num_lenJ (c := c) (cut_ne (c := c) s)
  rwa [(cut_join _ s (Nat.le_refl _)).1] at this

/-! ### Hexadecimal numbers -/
def hexD (c : UInt8) : Option Nat := if 48 ≤ c.toNat ∧ c.toNat ≤ 57 then some (c.toNat - 48) else if 97 ≤ c.toNat ∧ c.toNat ≤ 102 then some (c.toNat - 87) else none
theorem hexD_lt {c : UInt8} {d : Nat} (h : hexD c = some d) : d < 16 := by
  unfold hexD at h
  split at h
  · cases h; omega
  · split at h
    · cases h; omega
    · cases h
def hexV : List UInt8 → Nat → Option Nat
  | [], n => some n
  | c :: cs, n => match hexD c with
    | some d => hexV cs (16 * n + d)
    | none => none
theorem hexV_cons (c : UInt8) (cs : List UInt8) (n : Nat) : hexV (c :: cs) n = match hexD c with | some d => hexV cs (16 * n + d) | none => none := rfl
theorem hexV_bad {c : UInt8} (hc : hexD c = none) : ∀ {s : List UInt8} (n : Nat), c ∈ s → hexV s n = none
  | x :: xs, n, h => by
    unfold hexV
    rcases List.mem_cons.1 h with rfl | h
    · rw [hc]
    · cases hexD x with
      | none => rfl
      | some d => exact hexV_bad hc _ h
def hexR (s : List UInt8) : Option Nat := if s.length = 8 then hexV s 0 else none
theorem hex_loop {s : List UInt8} (h8 : s.length = 8) {body : Int × Int → Option ((Int × Int) ⊕ (Int ⊕ (Int × Bool)))}
    (h : ∀ (i n : Nat) (hi : i < 8), n < 16 ^ i → body ((n : Int), (i : Int)) = match hexD (s[i]'(by omega)) with | some d => some (.inl (((16 * n + d : Nat) : Int), ((i + 1 : Nat) : Int))) | none => some (.inr (.inr (0, false))))
    (h2 : ∀ n : Nat, body ((n : Int), ((8 : Nat) : Int)) = some (.inr (.inl (n : Int)))) :
    loopO body (0, 0) = some (match hexV s 0 with | some n => .inl (n : Int) | none => .inr (0, false)) := by
  obtain ⟨r, e, hr⟩ := loopO_rule (body := body) (fun st => 8 - st.2.toNat)
    (fun st => ∃ n i : Nat, st = ((n : Int), (i : Int)) ∧ i ≤ 8 ∧ n < 16 ^ i ∧ hexV (s.drop i) n = hexV s 0)
    (fun r => r = match hexV s 0 with | some n => .inl (n : Int) | none => .inr (0, false)) (fun st ⟨n, i, e, q1, q2, q3⟩ => by
      subst e
      by_cases hi : i < 8
      · rw [h i n hi q2]
        rw [List.drop_eq_getElem_cons (by omega)] at q3
        rw [hexV_cons] at q3
        cases hd : hexD (s[i]'(by omega)) with
        | some d =>
          rw [hd] at q3
          have := hexD_lt hd
          left
          refine ⟨_, rfl, ⟨_, _, rfl, by omega, by rw [Nat.pow_succ]; omega, q3⟩, by simp only; omega⟩
        | none =>
          rw [hd] at q3
          right
          refine ⟨_, rfl, ?_⟩
          simp only at q3
          rw [← q3]
      · right
        have hi8 : i = 8 := by omega
        subst hi8
        rw [h2]
        refine ⟨_, rfl, ?_⟩
        rw [List.drop_of_length_le (by omega)] at q3
        rw [← q3]
        rfl) (s := (0, 0)) ⟨0, 0, rfl, by omega, by decide, rfl⟩
  rw [e, hr]

theorem u8all {p : UInt8 → Prop} (h : ∀ n : Fin 256, p (UInt8.ofNat n.val)) (c : UInt8) : p c := by
  have := h ⟨c.toNat, c.toNat_lt⟩
  simpa using this
set_option maxRecDepth 100000 in
theorem index_hex (c : UInt8) : Lib.indexByte [48, 49, 50, 51, 52, 53, 54, 55, 56, 57, 97, 98, 99, 100, 101, 102] c = match hexD c with | some d => (d : Int) | none => -1 := by
  refine u8all (p := fun c => Lib.indexByte [48, 49, 50, 51, 52, 53, 54, 55, 56, 57, 97, 98, 99, 100, 101, 102] c = match hexD c with | some d => (d : Int) | none => -1) ?_ c
  decide
theorem u32a {a : Int} (h0 : 0 ≤ a) (h1 : a < 4294967296) : IntKind.wrap .u32 a = a := by
  unfold IntKind.wrap
  simp [IntKind.bits, IntKind.signed]
  omega
theorem u8a {a : Int} (h0 : 0 ≤ a) (h1 : a < 256) : IntKind.wrap .u8 a = a := by
  unfold IntKind.wrap
  simp [IntKind.bits, IntKind.signed]
  omega
theorem or16 {n d : Nat} (hn : n < 2 ^ 28) (hd : d < 16) : orI .u32 ((16 * n : Nat) : Int) (d : Int) = ((16 * n + d : Nat) : Int) := by
  unfold orI
  have : (BitVec.ofInt IntKind.u32.bits ((16 * n : Nat) : Int) ||| BitVec.ofInt IntKind.u32.bits (d : Int)).toNat = 16 * n + d := by
    rw [BitVec.toNat_or, BitVec.ofInt_natCast, BitVec.ofInt_natCast, BitVec.toNat_ofNat, BitVec.toNat_ofNat]
    show (16 * n) % 4294967296 ||| d % 4294967296 = _
    rw [Nat.mod_eq_of_lt (by omega), Nat.mod_eq_of_lt (by omega)]
    have := Nat.two_pow_add_eq_or_of_lt (i := 4) (b := d) (by omega) n
    simpa using this.symm
  rw [this]
  exact u32a (by omega) (by omega)
theorem hex80 (s : List UInt8) : ∃ n, g80 (sb s) = some (n, (hexR s).isSome) ∧ ∀ m, hexR s = some m → n = (m : Int) := by
  unfold g80 hexR
  by_cases h8 : s.length = 8
  · rw [if_neg (by simp [eqI, h8]), if_pos h8]
    have := hex_loop h8 (body := g80_L1 (sb s)) (fun i n hi hn => by
      have hn' : n < 2 ^ 28 := by
        have : (16 : Nat) ^ i ≤ 16 ^ 7 := Nat.pow_le_pow_right (by omega) (by omega)
        omega
      rw [g80_L1, if_pos (by simp [ltI, h8]; omega), idxS_sb (by omega), Option.bind_some]
      unfold g102 indexByteO indexByteB
      rw [Option.bind_some]
      have e : Lib.indexByte (⟨#[48, 49, 50, 51, 52, 53, 54, 55, 56, 57, 97, 98, 99, 100, 101, 102]⟩ : ByteArray).data.toList (((s[i]'(by omega)).toNat : Int).toNat.toUInt8) = match hexD (s[i]'(by omega)) with | some d => (d : Int) | none => -1 := by
        rw [show (((s[i]'(by omega)).toNat : Int).toNat.toUInt8) = s[i]'(by omega) by simp]
        exact index_hex _
      rw [e]
      cases hd : hexD (s[i]'(by omega)) with
      | none => simp [ltI]
      | some d =>
        have := hexD_lt hd
        simp only
        rw [if_neg (by simp [ltI]), show shlI .u32 (n : Int) 4 = some ((16 * n : Nat) : Int) by
          unfold shlI
          rw [if_neg (by decide)]
          rw [u32a (by simp [IntKind.bits]; omega) (by simp [IntKind.bits]; omega)]
          simp [IntKind.bits]; omega, Option.bind_some, show cI .u32 (d : Int) = d from u32a (by omega) (by omega), or16 hn' this, succI (by omega)]) (fun n => by
      rw [g80_L1, if_neg (by simp [ltI, h8])])
    rw [this]
    cases hexV s 0 with
    | some n => exact ⟨_, rfl, fun m e => by cases e; rfl⟩
    | none => exact ⟨_, rfl, fun m e => by cases e⟩
  · rw [if_pos (by simp [eqI]; omega), if_neg h8]
    exact ⟨0, rfl, fun m e => by cases e⟩
theorem hex78 {s : List UInt8} (hs : s.length ≤ 1048576) : ∃ n, g78 (sb s) = some (n, (hexR s).isSome) ∧ ∀ m, hexR s = some m → n = (m : Int) := by
  unfold g78 hexR
  by_cases h8 : s.length = 8
  · rw [if_pos h8]
    have := hex_loop h8 (body := g78_L1 (sb s)) (fun i n hi hn => by
      have hn' : n < 2 ^ 28 := by
        have : (16 : Nat) ^ i ≤ 16 ^ 7 := Nat.pow_le_pow_right (by omega) (by omega)
        omega
      rw [g78_L1, if_pos (by simp [ltI, h8]; omega), idxS_sb (by omega), Option.bind_some]
      have hc := (s[i]'(by omega)).toNat_lt
      generalize hcc : s[i]'(by omega) = c at *
      unfold hexD
      by_cases h1 : 48 ≤ c.toNat ∧ c.toNat ≤ 57
      · rw [if_pos h1, if_pos (by simp [leI]; omega)]
        have e1 : mI .u32 (n : Int) 16 = ((n * 16 : Nat) : Int) := by unfold mI; rw [u32a (by omega) (by omega)]; simp
        have e2 : sI .u8 (c.toNat : Int) 48 = ((c.toNat - 48 : Nat) : Int) := by unfold sI; rw [u8a (by omega) (by omega)]; omega
        have e3 : cI .u32 ((c.toNat - 48 : Nat) : Int) = ((c.toNat - 48 : Nat) : Int) := u32a (by omega) (by omega)
        have e4 : aI .u32 ((n * 16 : Nat) : Int) ((c.toNat - 48 : Nat) : Int) = ((16 * n + (c.toNat - 48) : Nat) : Int) := by unfold aI; rw [u32a (by omega) (by omega)]; omega
        rw [e1, e2, e3, e4, succI (by omega)]
      · rw [if_neg h1, if_neg (by simp [leI]; omega)]
        by_cases h2 : 97 ≤ c.toNat ∧ c.toNat ≤ 102
        · rw [if_pos h2, if_pos (by simp [leI]; omega)]
          have e1 : mI .u32 (n : Int) 16 = ((n * 16 : Nat) : Int) := by unfold mI; rw [u32a (by omega) (by omega)]; simp
          have e2 : sI .u8 (c.toNat : Int) 97 = ((c.toNat - 97 : Nat) : Int) := by unfold sI; rw [u8a (by omega) (by omega)]; omega
          have e3 : cI .u32 ((c.toNat - 97 : Nat) : Int) = ((c.toNat - 97 : Nat) : Int) := u32a (by omega) (by omega)
          have e4 : aI .u32 ((n * 16 : Nat) : Int) ((c.toNat - 97 : Nat) : Int) = ((16 * n + (c.toNat - 97) : Nat) : Int) := by unfold aI; rw [u32a (by omega) (by omega)]; omega
          have e5 : aI .u32 ((16 * n + (c.toNat - 97) : Nat) : Int) 10 = ((16 * n + (c.toNat - 87) : Nat) : Int) := by unfold aI; rw [u32a (by omega) (by omega)]; omega
          rw [e1, e2, e3, e4, e5, succI (by omega)]
        · rw [if_neg h2, if_neg (by simp [leI]; omega)]) (fun n => by
      rw [g78_L1, if_neg (by simp [ltI, h8])])
    rw [this]
    cases hexV s 0 with
    | some n => exact ⟨(n : Int), by simp [g78_j1, eqI, h8], fun m e => by cases e; rfl⟩
    | none => exact ⟨_, rfl, fun m e => by cases e⟩
  · rw [if_neg h8]
    obtain ⟨r, e, hr⟩ := loopO_rule (body := g78_L1 (sb s)) (fun st => s.length - st.2.toNat) (fun st => ∃ (n : Int) (i : Nat), st = (n, (i : Int)) ∧ i ≤ s.length) (fun r => ∀ z, r = .inr z → z.2 = false) (fun st ⟨n, i, e, q1⟩ => by
      subst e
      rw [g78_L1]
      by_cases hi : i < s.length
      · rw [if_pos (by simp [ltI]; omega), idxS_sb hi, Option.bind_some]
        split
        · left
          rw [succI (by omega)]
          exact ⟨_, rfl, ⟨_, _, rfl, by omega⟩, by simp only; omega⟩
        · split
          · left
            rw [succI (by omega)]
            exact ⟨_, rfl, ⟨_, _, rfl, by omega⟩, by simp only; omega⟩
          · right
            exact ⟨_, rfl, fun z hz => by cases hz; rfl⟩
      · right
        rw [if_neg (by simp [ltI]; omega)]
        exact ⟨_, rfl, fun z hz => by cases hz⟩) (s := (0, 0)) ⟨0, 0, rfl, by omega⟩
    rw [e, Option.bind_some]
    cases r with
    | inl y => exact ⟨y, by simp [g78_j1, eqI]; omega, fun m e => by cases e⟩
    | inr z => exact ⟨z.1, by have := hr z rfl; obtain ⟨z1, z2⟩ := z; simp only at this; subst this; rfl, fun m e => by cases e⟩

/-! ### A line -/
def markW : List UInt8 := [109, 97, 114, 107]
theorem cut79 {p : List UInt8} (hp : p.length ≤ 1048576) : g79 (sb p) ⟨#[109, 97, 114, 107, 32]⟩ = some (if p.take 5 = [109, 97, 114, 107, 32] then (sb (p.drop 5), true) else (sb p, false)) := by
  have hM : (⟨#[109, 97, 114, 107, 32]⟩ : ByteArray) = sb [109, 97, 114, 107, 32] := rfl
  have hs : (sb [109, 97, 114, 107, 32]).size = 5 := rfl
  have hsp : (sb p).size = p.length := by simp
  unfold g79 g101 g113
  rw [hM, hs, hsp]
  by_cases h5 : 5 ≤ p.length
  · rw [if_pos (by simp [leI]; omega), cutK_of (by omega) (by omega) (by omega), Option.bind_some, Option.bind_some, show ((5 : Nat) : Int).toNat = 5 from rfl, ext_sb, ext_sb, eqS_sb]
    simp only [List.drop_zero, Nat.sub_zero]
    by_cases hM5 : p.take 5 = [109, 97, 114, 107, 32]
    · simp only [hM5, decide_true, Bool.not_true, Bool.false_eq_true, if_false, Option.bind_some, if_true]
      rw [cutK_of (by omega) (by omega) (by omega), Option.bind_some, Option.bind_some, List.take_of_length_le (by simp)]
    · simp only [hM5, decide_false, Bool.not_false, if_true, Option.bind_some, if_false]
  · have hM5 : p.take 5 ≠ [109, 97, 114, 107, 32] := fun e => by
      have := congrArg List.length e
      simp at this
      omega
    rw [if_neg (by simp [leI]; omega)]
    simp only [hM5, Bool.not_false, if_true, Option.bind_some, if_false]

noncomputable def lineF (p : List UInt8) : Option T83 :=
  if p.take 5 = [109, 97, 114, 107, 32] then (hexR (p.drop 5)).map fun (n : Nat) => (⟨true, (n : Int), ⟨0, 0, 0⟩⟩ : T83)
  else match g24 (sb p) with
    | some x => if x.2 = 0 then some ⟨false, 0, x.1⟩ else none
    | none => none

theorem body31 {P : List (List UInt8)} (hPl : P.length ≤ 2000000) {b : Bool} {q : Nat} (hq : q < P.length) (hp : P[q].length ≤ 1048576) {l : List T83} (hl : l.length ≤ 1048576) :
    g31_L1 (P.map sb, b) ((q : Int), l) = match lineF P[q] with | some e => some (.inl (((q + 1 : Nat) : Int), l ++ [e])) | none => some (.inr (.inr ([], 5))) := by
  rw [g31_L1]
  rw [if_pos (by simp [ltI]; omega), idx_nat (by simpa using hq), Option.bind_some, List.getElem_map]
  generalize hP : P[q] = p at *
  rw [cut79 hp, Option.bind_some]
  unfold lineF
  have hqb : q < 4611686018427387904 := by omega
  by_cases hM5 : p.take 5 = [109, 97, 114, 107, 32]
  · rw [if_pos hM5, if_pos hM5, if_pos rfl]
    obtain ⟨n, e1, e2⟩ := hex80 (p.drop 5)
    simp only [e1, Option.bind_some]
    cases hR : hexR (p.drop 5) with
    | none => simp
    | some m =>
      have := e2 m hR
      subst this
      simp only [Option.isSome_some, Bool.not_true, Bool.false_eq_true, if_false, Option.map_some]
      rw [appK_of (by simp; omega) (by simp; omega), Option.bind_some, succI hqb]
  · rw [if_neg hM5, if_neg hM5, if_neg (by simp)]
    rcases read24 hp with ⟨a, a1, a2, a3⟩ | ⟨a1, a2⟩
    · rw [a3]
      simp only [Option.bind_some, if_true]
      rw [if_neg (by simp [eqI]), appK_of (by simp; omega) (by simp; omega), Option.bind_some, succI hqb]
    · rw [a2]
      rfl
theorem cut_lenJ {c : UInt8} {s : List UInt8} (h : (cutL c s).length = 1) : c ∉ s := by
  obtain ⟨h1, h2⟩ := cut_join (c := c) _ s (Nat.le_refl _)
  obtain ⟨x, hx⟩ := List.length_eq_one_iff.1 h
  rw [hx, join_oneJ] at h1
  subst h1
  exact h2 _ (by rw [hx]; simp)
theorem body30 {P : List (List UInt8)} (hPl : P.length ≤ 2000000) {n q : Nat} (hq : q < P.length) (hqn : q < n) (hp : P[q].length ≤ 1048576) {l : List T83} (hl : l.length ≤ 1048576) :
    g30_L1 (n : Int) (P.map sb) ((q : Int), l) = match lineF P[q] with | some e => some (.inl (((q + 1 : Nat) : Int), l ++ [e])) | none => some (.inr (.inr ([], 5))) := by
  have e32 : ∀ {u : List UInt8}, u.length ≤ 1048576 → g72 (sb u) 32 = some ((cutL 32 u).map sb) := fun hu => split72 (c := 32) hu
  rw [g30_L1]
  have hi : idx (P.map sb) (q : Int) = some (sb P[q]) := by rw [idx_nat (by simpa using hq), List.getElem_map]
  rw [if_pos (by simp [ltI]; omega), hi, Option.bind_some, e32 hp, Option.bind_some, Option.bind_some]
  generalize hP : P[q] = p at *
  have hqb : q < 4611686018427387904 := by omega
  have hne := cut_ne (c := 32) p
  have hl1 : 1 ≤ (cutL 32 p).length := List.length_pos_iff.2 hne
  have hi0 : idx ((cutL 32 p).map sb) 0 = some (sb ((cutL 32 p)[0]'(by omega))) := by
    have := idx_nat (xs := (cutL 32 p).map sb) (n := 0) (by simp; omega)
    rw [List.getElem_map] at this
    exact this
  rw [hi0, Option.bind_some, show (⟨#[109, 97, 114, 107]⟩ : ByteArray) = sb markW from rfl, eqS_sb]
  unfold lineF
  by_cases hM5 : p.take 5 = [109, 97, 114, 107, 32]
  · have hpd : p = markW ++ 32 :: p.drop 5 := by
      conv => lhs; rw [← List.take_append_drop 5 p, hM5]
      rfl
    have hc : cutL 32 p = markW :: cutL 32 (p.drop 5) := by
      conv => lhs; rw [hpd]
      exact cut_at (by decide)
    have h0 : (cutL 32 p)[0]'(by omega) = markW := by simp only [hc, List.getElem_cons_zero]
    rw [if_pos hM5, if_pos (by rw [h0]; simp)]
    by_cases h2 : (cutL 32 (p.drop 5)).length = 1
    · have hno := cut_lenJ h2
      rw [hc, cut_none hno]
      rw [if_neg (by simp [eqI])]
      rw [show idx ([markW, p.drop 5].map sb) 1 = some (sb (p.drop 5)) from rfl, Option.bind_some]
      obtain ⟨m, e1, e2⟩ := hex78 (s := p.drop 5) (by simp; omega)
      rw [e1]
      simp only [Option.bind_some]
      cases hR : hexR (p.drop 5) with
      | none => simp
      | some k =>
        have := e2 k hR
        subst this
        simp only [Option.isSome_some, Bool.not_true, Bool.false_eq_true, if_false, Option.map_some]
        rw [appK_of (by simp; omega) (by simp; omega), Option.bind_some, succI hqb]
    · rw [if_pos (by rw [hc]; simp [eqI]; omega)]
      have : hexR (p.drop 5) = none := by
        unfold hexR
        split
        · refine hexV_bad (c := 32) (by decide) _ ?_
          apply Decidable.byContradiction
          intro h
          rw [cut_none h] at h2
          exact h2 rfl
        · rfl
      rw [this]
      rfl
  · rw [if_neg hM5]
    by_cases hw : (cutL 32 p)[0]'(by omega) = markW
    · rw [if_pos (by rw [hw]; simp)]
      rcases first_at 32 p with h | ⟨u, v, h1, h2⟩
      · have hc := cut_none h
        have hpm : p = markW := by simpa only [hc, List.getElem_cons_zero] using hw
        rw [if_pos (by rw [hc]; simp [eqI])]
        rcases read24 hp with ⟨a, a1, a2, a3⟩ | ⟨a1, a2⟩
        · have h3 := act_pieces (act_valid a a1).1
          rw [a2, hc] at h3
          have := congrArg List.length h3
          split at this <;> simp at this
        · rw [a2]
          rfl
      · have hc : cutL 32 p = u :: cutL 32 v := by
          conv => lhs; rw [h1]
          exact cut_at h2
        have hu : u = markW := by simpa only [hc, List.getElem_cons_zero] using hw
        subst hu
        exact absurd (by rw [h1]; rfl) hM5
    · rw [if_neg (by simpa using hw)]
      obtain ⟨a, ok, r1, r2, r3⟩ := read66 hp
      rw [r1, Option.bind_some]
      rcases read24 hp with ⟨a', a1, a2, a3⟩ | ⟨a1, a2⟩
      · obtain ⟨e1, e2⟩ := r3 a' a1 a2
        subst e1 e2
        rw [a3]
        simp only [Bool.not_true, Bool.false_eq_true, if_false, if_true]
        rw [appK_of (by simp; omega) (by simp; omega), Option.bind_some, succI hqb]
      · cases ok with
        | true => exact absurd (r2 rfl).2 (a1 a (r2 rfl).1)
        | false => rw [a2]; rfl

/-! ### All lines -/
noncomputable def runL : List (List UInt8) → List T83 → List T83 ⊕ (List T83 × Int)
  | [], l => .inl l
  | p :: ps, l => match lineF p with
    | some e => runL ps (l ++ [e])
    | none => .inr ([], 5)
theorem runL_cons (p : List UInt8) (ps : List (List UInt8)) (l : List T83) : runL (p :: ps) l = match lineF p with | some e => runL ps (l ++ [e]) | none => .inr ([], 5) := rfl
theorem runL_len : ∀ {ps : List (List UInt8)} {l : List T83}, match runL ps l with | .inl y => y.length = l.length + ps.length | .inr z => z = ([], 5)
  | [], l => rfl
  | p :: ps, l => by
    rw [runL_cons]
    cases lineF p with
    | none => rfl
    | some e =>
      have := runL_len (ps := ps) (l := l ++ [e])
      simp only
      cases h : runL ps (l ++ [e]) with
      | inl y => rw [h] at this; simp at this ⊢; omega
      | inr z => rw [h] at this; exact this
theorem lines_loop {P : List (List UInt8)} (hP : P.length ≤ 1048576) {body : Int × List T83 → Option ((Int × List T83) ⊕ (List T83 ⊕ (List T83 × Int)))}
    (h : ∀ (q : Nat) (l : List T83) (hq : q < P.length), l.length = q → body ((q : Int), l) = match lineF P[q] with | some e => some (.inl (((q + 1 : Nat) : Int), l ++ [e])) | none => some (.inr (.inr ([], 5))))
    (h2 : ∀ l, body ((P.length : Int), l) = some (.inr (.inl l))) : loopO body (0, []) = some (runL P []) := by
  obtain ⟨r, e, hr⟩ := loopO_rule (body := body) (fun st => P.length - st.1.toNat)
    (fun st => ∃ (q : Nat) (l : List T83), st = ((q : Int), l) ∧ q ≤ P.length ∧ l.length = q ∧ runL (P.drop q) l = runL P [])
    (fun r => r = runL P []) (fun st ⟨q, l, e, q1, q2, q3⟩ => by
      subst e
      by_cases hi : q < P.length
      · rw [h q l hi q2]
        rw [List.drop_eq_getElem_cons hi, runL_cons] at q3
        cases hd : lineF P[q] with
        | some d =>
          rw [hd] at q3
          left
          exact ⟨_, rfl, ⟨_, _, rfl, by omega, by simp; omega, q3⟩, by simp only; omega⟩
        | none =>
          rw [hd] at q3
          right
          exact ⟨_, rfl, q3⟩
      · right
        have hq : q = P.length := by omega
        subst hq
        rw [h2]
        refine ⟨_, rfl, ?_⟩
        rw [List.drop_length] at q3
        exact q3) (s := (0, [])) ⟨0, [], rfl, by omega, rfl, rfl⟩
  rw [e, hr]

theorem journal_same {t : List UInt8} (hs : t.length ≤ 1048576) : ∃ l c, g30 (sb t) = some (l, c) ∧ g31 (sb t) = some (l, c) ∧ l.length ≤ 150 := by
  have e10 : ∀ {u : List UInt8}, u.length ≤ 1048576 → g72 (sb u) 10 = some ((cutL 10 u).map sb) := fun hu => split72 (c := 10) hu
  by_cases hne : t = []
  · subst hne
    refine ⟨[], 0, ?_, ?_, by simp⟩
    · unfold g30
      rw [sb_nil, eqS_self]
      rfl
    · unfold g31 g74
      rw [sb_nil, eqS_self]
      simp only [if_true, Option.bind_some, List.length_nil]
      rw [if_neg (by simp)]
      unfold g31_j1
      rw [if_neg (by simp [ltI]), if_neg (by simp)]
      have := lines_loop (P := []) (by simp) (body := g31_L1 ([], true)) (fun q l hq => absurd hq (by simp)) (fun l => by rw [g31_L1, if_neg (by simp [ltI])])
      rw [this]
      rfl
  have h1 := pieces_lenJ 10 t
  have h2 := cut_ne (c := 10) t
  have h3 : 1 ≤ (cutL 10 t).length := List.length_pos_iff.2 h2
  have hpm : ∀ p ∈ cutL 10 t, p.length ≤ 1048576 := fun p hp => by have := piece_lenJ hp; omega
  unfold g30 g31 g74 g99
  rw [sb_nil, eqS_sb, if_neg (by simpa using hne), if_neg (by simpa using hne), e10 hs, show (⟨#[10]⟩ : ByteArray) = sb [10] from rfl, splitO_cut (by omega), Option.bind_some, Option.bind_some]
  generalize hP : cutL 10 t = P at *
  have hl : (P.map sb).length = P.length := by simp
  rw [sI64 (by rw [hl]; omega) (by rw [hl]; omega), cutK_of (by omega) (by rw [hl]; omega) (by rw [hl]; omega), Option.bind_some]
  have e : ((P.map sb).length : Int) - 1 = ((P.length - 1 : Nat) : Int) := by rw [hl]; omega
  have hix : idx (P.map sb) ((P.length - 1 : Nat) : Int) = some (sb P[P.length - 1]) := by rw [idx_nat (by rw [hl]; omega), List.getElem_map]
  rw [e, hix]
  simp only [Option.bind_some, eqS_sb, Int.toNat_natCast]
  have htl : ((P.map sb).take (P.length - 1)).length = P.length - 1 := by simp
  by_cases hlast : P[P.length - 1] = []
  · simp only [hlast, decide_true, if_true, Bool.not_true, Bool.false_eq_true, if_false, htl]
    unfold g30_j1 g31_j1
    by_cases hbig : 150 < P.length - 1
    · rw [if_pos (by simp [ltI]; omega), if_pos (by simp [ltI]; omega)]
      exact ⟨_, _, rfl, rfl, by simp⟩
    have hc1 : ¬(ltI 150 ((P.length - 1 : Nat) : Int) = true) := by simp [ltI]; omega
    have hc2 : ¬(eqI ((P.length - 1 : Nat) : Int) ((P.map sb).length : Int) = true) := by rw [hl]; simp [eqI]; omega
    rw [if_neg hc1, if_neg hc1, if_neg hc2]
    simp only [Bool.not_true, Bool.false_eq_true, if_false]
    have hPt : (P.take (P.length - 1)).length = P.length - 1 := by simp
    have l30 := lines_loop (P := P.take (P.length - 1)) (by omega) (body := g30_L1 ((P.length - 1 : Nat) : Int) (P.map sb)) (fun q l hq hlq => by
      rw [List.getElem_take]
      exact body30 (by omega) (by omega) (by omega) (hpm _ (List.getElem_mem _)) (by omega)) (fun l => by rw [hPt, g30_L1, if_neg (by simp [ltI])])
    have l31 := lines_loop (P := P.take (P.length - 1)) (by omega) (body := g31_L1 ((P.map sb).take (P.length - 1), true)) (fun q l hq hlq => by
      rw [← List.map_take]
      exact body31 (by omega) hq (by rw [List.getElem_take]; exact hpm _ (List.getElem_mem _)) (by omega)) (fun l => by rw [hPt, g31_L1, if_neg (by simp [ltI])])
    rw [l30, l31]
    have hlen := runL_len (ps := P.take (P.length - 1)) (l := [])
    cases hr : runL (P.take (P.length - 1)) [] with
    | inl y =>
      rw [hr] at hlen
      exact ⟨y, 0, rfl, rfl, by simp at hlen; omega⟩
    | inr z =>
      rw [hr] at hlen
      simp only at hlen
      subst hlen
      exact ⟨[], 5, rfl, rfl, by simp⟩
  · simp only [hlast, decide_false, if_true, Bool.not_false, Bool.false_eq_true, if_false, htl]
    rw [aI64 (by omega) (by omega), show ((P.length - 1 : Nat) : Int) + 1 = (P.length : Int) by omega, hl]
    unfold g30_j1 g31_j1
    by_cases hbig : 150 < P.length
    · rw [if_pos (by simp [ltI]; omega), if_pos (by simp [ltI]; omega)]
      exact ⟨_, _, rfl, rfl, by simp⟩
    · have hc1 : ¬(ltI 150 (P.length : Int) = true) := by simp [ltI]; omega
      have hc2 : eqI (P.length : Int) ((P.map sb).length : Int) = true := by rw [hl]; simp [eqI]
      rw [if_neg hc1, if_neg hc1, if_pos hc2]
      exact ⟨_, _, rfl, rfl, by simp⟩

/-! ### Marks -/
def mkE (k : Int) : T83 := ⟨eqI (k.tmod 3) 0, cI .u32 (aI .i64 k 1), ⟨aI .i64 (aI .i64 k 1) 1, aI .i64 (aI .i64 (aI .i64 k 1) 1) 1, aI .i64 (aI .i64 (aI .i64 (aI .i64 k 1) 1) 1) 1⟩⟩
theorem rem3 (k : Int) : rI .i64 k 3 = some (k.tmod 3) := by unfold rI; rw [if_neg (by decide)]
theorem five {k : Int} (h0 : 0 ≤ k) (h1 : k ≤ 1000000000) : aI .i64 (aI .i64 (aI .i64 (aI .i64 (aI .i64 k 1) 1) 1) 1) 1 = k + 5 := by
  rw [aI64 (a := k) (by omega) (by omega), aI64 (a := k + 1) (by omega) (by omega), aI64 (a := k + 1 + 1) (by omega) (by omega), aI64 (a := k + 1 + 1 + 1) (by omega) (by omega), aI64 (by omega) (by omega)]
  omega
def mkL (n : Nat) : List T83 := (List.range n).map fun (j : Nat) => mkE (1 + 5 * (j : Int))
theorem mkL_len (n : Nat) : (mkL n).length = n := by simp [mkL]
theorem mkL_get {n i : Nat} (h : i < n) : (mkL n)[i]? = some (mkE (1 + 5 * (i : Int))) := by simp [mkL, h]
theorem mark_entries {l : List T83} (hl : l.length ≤ 1048576) : loopO g8_L1 (1, 0, l) = some (1 + 5 * (l.length : Int), mkL l.length) := by
  have hset : ∀ i, i < l.length → (mkL i ++ l.drop i).set i (mkE (1 + 5 * (i : Int))) = mkL (i + 1) ++ l.drop (i + 1) := fun i hi => by
    apply List.ext_getElem?
    intro j
    rw [List.getElem?_set]
    simp only [List.length_append, mkL_len, List.length_drop]
    by_cases hj : i = j
    · subst hj
      rw [if_pos rfl, if_pos (by omega), List.getElem?_append_left (by rw [mkL_len]; omega), mkL_get (by omega)]
    · rw [if_neg hj]
      by_cases hlt : j < i
      · rw [List.getElem?_append_left (by rw [mkL_len]; omega), List.getElem?_append_left (by rw [mkL_len]; omega), mkL_get hlt, mkL_get (by omega)]
      · rw [List.getElem?_append_right (by rw [mkL_len]; omega), List.getElem?_append_right (by rw [mkL_len]; omega)]
        simp only [mkL_len, List.getElem?_drop]
        congr 1; omega
  have := loop_run (body := g8_L1) (fun i => (1 + 5 * (i : Int), (i : Int), mkL i ++ l.drop i)) l.length (fun i hi => by
    have hlen : (mkL i ++ l.drop i).length = l.length := by simp [mkL_len]; omega
    rw [g8_L1, hlen, if_pos (by simp [ltI]; omega), rem3, Option.bind_some, idx_nat (by omega), Option.bind_some, succI (by omega), five (by omega) (by omega), Int.toNat_natCast]
    have h := hset i hi
    unfold mkE at h
    rw [h]
    congr 3) (r := (1 + 5 * (l.length : Int), mkL l.length)) (by
    have hlen : (mkL l.length ++ l.drop l.length).length = l.length := by simp [mkL_len]
    rw [g8_L1, hlen, if_neg (by simp [ltI])]
    simp)
  simpa [mkL] using this
theorem held33 {n : Nat} (hn : n ≤ 1048576) : g33 (mkL n) 1 = some (1 + 5 * (n : Int)) := by
  have := loop_run (body := g33_L1 (mkL n)) (fun i => (1 + 5 * (i : Int), (i : Int))) n (fun i hi => by
    have hx : idx (mkL n) (i : Int) = some (mkE (1 + 5 * (i : Int))) := by
      rw [idx_nat (by rw [mkL_len]; omega)]
      have := mkL_get hi
      rw [List.getElem?_eq_getElem (by rw [mkL_len]; omega)] at this
      exact this
    rw [g33_L1, mkL_len, if_pos (by simp [ltI]; omega)]
    simp only [hx, rem3, Option.bind_some, mkE, beq_self_eq_true, Bool.not_true, Bool.false_eq_true, if_false, eqI, succI (i := i) (by omega), five (k := 1 + 5 * (i : Int)) (by omega) (by omega)]
    congr 3) (r := .inl (1 + 5 * (n : Int))) (by
    rw [g33_L1, mkL_len, if_neg (by simp [ltI])])
  unfold g33
  have h0 : loopO (g33_L1 (mkL n)) (1, 0) = some (.inl (1 + 5 * (n : Int))) := by simpa using this
  rw [h0]
  rfl
theorem entriesJ {a : List T83} (h : a.length ≤ 1048576) : g22 a a = some true := by
  have hL := loop_scan (body := g22_L1 a a) (n := a.length) (fun _ => none) (.inl ()) (fun i hi => by
    rw [g22_L1]
    simp only [ltI, show ((i : Int) < a.length) = True by simp; omega, decide_true, if_true, idx_nat hi, Option.bind_some, succI (i := i) (by omega), g65, g25, eqI]
    simp) (by rw [g22_L1]; simp [ltI])
  rw [show (List.range a.length).findSome? (fun _ => (none : Option (Unit ⊕ Bool))) = none by simp] at hL
  unfold g22
  rw [hL]
  simp [eqI, g22_j1]

theorem law8 (aText : ByteArray) (h : aText.size ≤ maxLen) : g8 aText = some true := by
  unfold g8
  by_cases hb : ltI 1048576 (aText.size : Int) = true
  · rw [if_pos hb]
  rw [if_neg hb]
  have hs : aText.data.toList.length ≤ 1048576 := by
    have : aText.data.toList.length = aText.size := by rw [Array.length_toList]; rfl
    simp [ltI] at hb
    omega
  obtain ⟨l, c, e1, e2, hl⟩ := journal_same hs
  rw [sb_self] at e1 e2
  rw [e1, Option.bind_some, e2, Option.bind_some]
  simp only
  rw [entriesJ (by omega), Option.bind_some, if_neg (by simp [eqI]), mark_entries (by omega), Option.bind_some]
  unfold g8_j1
  simp only
  rw [held33 (by omega), Option.bind_some, if_neg (by simp [ltI]; omega), if_neg (by simp [eqI]), e2, Option.bind_some]
  simp only
  rw [entriesJ (by omega), Option.bind_some, if_neg (by simp [eqI]), Option.bind_some, if_neg (by simp [ltI]; omega), if_neg (by simp [eqI])]
end Go.Proofs.YtilkneilafpjiaaDoor
