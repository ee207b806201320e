/- Plain law of the text of a journal. -/
import Derived.Test.YtaajogkciipnjaaDoorK5a
import Derived.Test.YtaajogkciipnjaaDoorK5Pt
namespace Go.Proofs.YtaajogkciipnjaaDoor
open Go.VL
set_option linter.unusedSimpArgs false
set_option linter.unusedVariables false

/-! ### Hexadecimal digits -/
def hexS : ByteArray := ⟨#[48, 49, 50, 51, 52, 53, 54, 55, 56, 57, 97, 98, 99, 100, 101, 102]⟩
def hx (d : Int) : Int := (idxS hexS (andI .u32 d 15)).getD 0
theorem and15 (d : Int) : 0 ≤ andI .u32 d 15 ∧ andI .u32 d 15 < 16 := by
  unfold andI
  have h : (BitVec.ofInt IntKind.u32.bits d &&& BitVec.ofInt IntKind.u32.bits 15).toNat ≤ 15 := by
    rw [BitVec.toNat_and]
    exact Nat.and_le_right
  generalize (BitVec.ofInt IntKind.u32.bits d &&& BitVec.ofInt IntKind.u32.bits 15).toNat = k at h
  have : k < 16 := by omega
  match k, this with
  | 0, _ => decide
  | 1, _ => decide
  | 2, _ => decide
  | 3, _ => decide
  | 4, _ => decide
  | 5, _ => decide
  | 6, _ => decide
  | 7, _ => decide
  | 8, _ => decide
  | 9, _ => decide
  | 10, _ => decide
  | 11, _ => decide
  | 12, _ => decide
  | 13, _ => decide
  | 14, _ => decide
  | 15, _ => decide
theorem hx_some (d : Int) : idxS hexS (andI .u32 d 15) = some (hx d) := by
  obtain ⟨h1, h2⟩ := and15 d
  unfold hx
  have : ∃ x, idxS hexS (andI .u32 d 15) = some x := by
    unfold idxS
    rw [if_pos h1]
    have hl : (andI .u32 d 15).toNat < hexS.data.toList.length := by
      show _ < 16
      omega
    exact ⟨_, by rw [List.getElem?_eq_getElem hl]; rfl⟩
  obtain ⟨x, hx⟩ := this
  rw [hx]
  rfl
def hexL (n : Int) : List Int := [hx (n.fdiv (2 ^ 28)), hx (n.fdiv (2 ^ 24)), hx (n.fdiv (2 ^ 20)), hx (n.fdiv (2 ^ 16)), hx (n.fdiv (2 ^ 12)), hx (n.fdiv (2 ^ 8)), hx (n.fdiv (2 ^ 4)), hx (n.fdiv (2 ^ 0))]
theorem hex61 (n : Int) : g33 n = some (strOfNums (hexL n)) := by
  have hs : ∀ k : Nat, k ≤ 28 → shrI .u32 n (k : Int) = some (n.fdiv (2 ^ k)) := fun k hk => by
    unfold shrI
    rw [if_neg (by omega), Int.toNat_natCast, show min k IntKind.u32.bits = k from Nat.min_eq_left (Nat.le_trans hk (by decide))]
  have e : ∀ d, idxS (⟨#[48, 49, 50, 51, 52, 53, 54, 55, 56, 57, 97, 98, 99, 100, 101, 102]⟩ : ByteArray) (andI .u32 d 15) = some (hx d) := hx_some
  have s28 := hs 28 (by decide); have s24 := hs 24 (by decide); have s20 := hs 20 (by decide); have s16 := hs 16 (by decide); have s12 := hs 12 (by decide); have s8 := hs 8 (by decide); have s4 := hs 4 (by decide); have s0 := hs 0 (by decide)
  simp only [Int.cast_ofNat_Int] at s28 s24 s20 s16 s12 s8 s4 s0
  unfold g33 g33_j1
  rw [s28, Option.bind_some, e, Option.bind_some, appK_of (by simp) (by simp), Option.bind_some, s24, Option.bind_some, e, Option.bind_some, appK_of (by simp) (by simp), Option.bind_some,
    s20, Option.bind_some, e, Option.bind_some, appK_of (by simp) (by simp), Option.bind_some, s16, Option.bind_some, e, Option.bind_some, appK_of (by simp) (by simp), Option.bind_some,
    s12, Option.bind_some, e, Option.bind_some, appK_of (by simp) (by simp), Option.bind_some, s8, Option.bind_some, e, Option.bind_some, appK_of (by simp) (by simp), Option.bind_some,
    s4, Option.bind_some, e, Option.bind_some, appK_of (by simp) (by simp), Option.bind_some, s0, Option.bind_some, e, Option.bind_some, appK_of (by simp) (by simp), Option.bind_some]
  rfl
theorem hex64 (n : Int) : g36 n = some (strOfNums (hexL n)) := by
  have hs : ∀ k : Nat, k ≤ 7 → shrI .u32 n (sI .i64 28 (mI .i64 4 (k : Int))) = some (n.fdiv (2 ^ (28 - 4 * k))) := fun k hk => by
    rw [mI64 (by omega) (by omega), sI64 (by omega) (by omega)]
    unfold shrI
    rw [if_neg (by omega), show (28 - 4 * (k : Int)).toNat = 28 - 4 * k by omega, show min (28 - 4 * k) IntKind.u32.bits = 28 - 4 * k from Nat.min_eq_left (Nat.le_trans (show 28 - 4 * k ≤ 28 by omega) (by decide))]
  have e : ∀ d, idxS (⟨#[48, 49, 50, 51, 52, 53, 54, 55, 56, 57, 97, 98, 99, 100, 101, 102]⟩ : ByteArray) (andI .u32 d 15) = some (hx d) := hx_some
  have hL : loopO (g36_L1 n) (0, List.replicate 8 0) = some (hexL n) := by
    have := loop_run (body := g36_L1 n) (fun i => ((i : Int), fill i (hexL n) 0)) 8 (fun i hi => by
      have hl : i < (hexL n).length := hi
      have hk := hs i (by omega)
      have hv : (hexL n)[i]? = some (hx (n.fdiv (2 ^ (28 - 4 * i)))) := by
        match i, hi with
        | 0, _ => rfl
        | 1, _ => rfl
        | 2, _ => rfl
        | 3, _ => rfl
        | 4, _ => rfl
        | 5, _ => rfl
        | 6, _ => rfl
        | 7, _ => rfl
      rw [g36_L1, if_pos (by simp [ltI]; omega), hk, Option.bind_some, e, Option.bind_some, idx_nat (by simpa using hl), Option.bind_some, succI (by omega), Int.toNat_natCast, fill_set hl hv]) (r := hexL n) (by
      rw [g36_L1, if_neg (by simp [ltI])]
      have := fill_all (xs := hexL n) (z := 0)
      rw [show (hexL n).length = 8 from rfl] at this
      rw [this])
    rw [fill_zero] at this
    exact this
  unfold g36 g36_j1
  rw [hL]
  rfl
theorem hex_sb (n : Int) : ∃ l, strOfNums (hexL n) = sb l ∧ l.length = 8 := ⟨(hexL n).map fun n => UInt8.ofNat n.toNat, rfl, by simp [hexL]⟩

/-! ### Entries -/
theorem entry60 (e : T67) : ∃ b, g32 e = some b ∧ g35 e = some b ∧ (b = true → e.mark_ = false → g21 e.act_ = some true ∧ ActOk e.act_) := by
  obtain ⟨b, h1, h2, h3⟩ := act48 e.act_
  unfold g32 g35
  rw [h1, h2]
  cases hm : e.mark_
  · cases hc : eqI e.check_ 0
    · exact ⟨false, by simp, by simp, by simp⟩
    · refine ⟨b, by simp, by simp, fun hb _ => ?_⟩
      subst hb
      exact ⟨rfl, h3 rfl⟩
  · exact ⟨_, rfl, rfl, fun _ h => by cases h⟩
theorem act_len {a : T25} (h : ActOk a) : (actT a).length ≤ 20 := by
  obtain ⟨⟨k1, k2⟩, ⟨a1, a2⟩, b1, b2⟩ := h
  have := (word_at k1 k2).2
  have := itoa_len a1 (by omega)
  have := itoa_len b1 (by omega)
  unfold actT
  split <;> simp <;> omega

theorem journal {j : List T67} : ∃ r, g15 j = some r ∧ g17 j = some r := by
  unfold g15 g17
  by_cases hc : ltI 150 (j.length : Int) = true
  · rw [if_pos hc, if_pos hc]
    exact ⟨_, rfl, rfl⟩
  rw [if_neg hc, if_neg hc]
  have hn : j.length ≤ 150 := by simp [ltI] at hc; omega
  obtain ⟨r, r', h1, h2, h3⟩ := loopO_rel (b1 := g15_L1 j) (b2 := g17_L1 j) (fun s => j.length - s.2.toNat) (fun s s' => s = s' ∧ ∃ (q : Nat) (l : List UInt8), s = (sb l, (q : Int)) ∧ q ≤ j.length ∧ l.length ≤ 40 * q) (fun r r' => r = r') (fun s s' ⟨e, q, l, e2, hq, hl⟩ => by
    subst e
    subst e2
    rw [g15_L1, g17_L1]
    by_cases hlt : q < j.length
    · obtain ⟨b, b1, b2, b3⟩ := entry60 j[q]
      rw [if_pos (by simp [ltI]; omega), if_pos (by simp [ltI]; omega), idx_nat hlt, Option.bind_some, Option.bind_some, b1, b2, Option.bind_some, Option.bind_some]
      cases b with
      | false =>
        right
        exact ⟨_, _, rfl, rfl, rfl⟩
      | true =>
        left
        cases hm : j[q].mark_
        · obtain ⟨c1, c2⟩ := b3 rfl hm
          have := act_len c2
          have k1 := cat_sb (a := actT j[q].act_) (b := [10]) (by simp; omega)
          have k2 := cat_sb (a := l) (b := actT j[q].act_ ++ [10]) (by simp; omega)
          simp only [Bool.not_true, Bool.false_eq_true, if_false, text49 c2, text12 c1 c2, Option.bind_some, show (⟨#[10]⟩ : ByteArray) = sb [10] from rfl, k1, k2, succI (i := q) (by omega)]
          exact ⟨_, _, rfl, rfl, ⟨rfl, q + 1, _, rfl, by omega, by simp; omega⟩, by simp only; omega⟩
        · obtain ⟨h, e1, e2⟩ := hex_sb j[q].check_
          have k1 := cat_sb (a := [109, 97, 114, 107, 32]) (b := h) (by simp; omega)
          have k2 := cat_sb (a := [109, 97, 114, 107, 32] ++ h) (b := [10]) (by simp; omega)
          have k3 := cat_sb (a := l) (b := [109, 97, 114, 107, 32] ++ h ++ [10]) (by simp; omega)
          simp only [Bool.not_true, Bool.false_eq_true, if_false, if_true, hex61, hex64, e1, Option.bind_some, show (⟨#[10]⟩ : ByteArray) = sb [10] from rfl, show (⟨#[109, 97, 114, 107, 32]⟩ : ByteArray) = sb [109, 97, 114, 107, 32] from rfl, k1, k2, k3, succI (i := q) (by omega)]
          exact ⟨_, _, rfl, rfl, ⟨rfl, q + 1, _, rfl, by omega, by simp; omega⟩, by simp only; omega⟩
    · right
      rw [if_neg (by simp [ltI]; omega), if_neg (by simp [ltI]; omega)]
      exact ⟨_, _, rfl, rfl, rfl⟩) (s := (ByteArray.empty, 0)) (s' := (ByteArray.empty, 0)) ⟨rfl, 0, [], rfl, by omega, by simp⟩
  subst h3
  rw [h1, h2]
  cases r <;> exact ⟨_, rfl, rfl⟩

theorem entries20 {a : List T67} (h : a.length ≤ 1048576) : g16 a = some a := by
  have hL : loopO (g16_L1 a) (0, List.replicate (a.length : Int).toNat (⟨false, 0, (⟨0, 0, 0⟩ : T25)⟩ : T67)) = some a := by
    have := loop_run (body := g16_L1 a) (fun i => ((i : Int), fill i a (⟨false, 0, (⟨0, 0, 0⟩ : T25)⟩ : T67))) a.length (fun i hi => by
      rw [g16_L1]
      simp only [ltI, show ((i : Int) < a.length) = True by simp; omega, decide_true, if_true, idx_nat hi, Option.bind_some, succI (i := i) (by omega), g34, g7]
      rw [idx_nat (by simpa using hi)]
      simp only [Option.bind_some, Int.toNat_natCast]
      rw [fill_set hi (List.getElem?_eq_getElem hi)]) (r := a) (by
      rw [g16_L1]
      simp [ltI, fill_all])
    simpa [fill_zero] using this
  unfold g16 g16_j1
  rw [mk_of (by omega) (by simp; omega) (by simp; omega)]
  simp only [Option.bind_some]
  rw [hL]
  rfl
theorem entries22 {a : List T67} (h : a.length ≤ 1048576) : g18 a a = some true := by
  have hL := loop_scan (body := g18_L1 a a) (n := a.length) (fun _ => none) (.inl ()) (fun i hi => by
    rw [g18_L1]
    simp only [ltI, show ((i : Int) < a.length) = True by simp; omega, decide_true, if_true, idx_nat hi, Option.bind_some, succI (i := i) (by omega), g37, g45, eqI]
    simp) (by rw [g18_L1]; simp [ltI])
  rw [show (List.range a.length).findSome? (fun _ => (none : Option (Unit ⊕ Bool))) = none by simp] at hL
  unfold g18
  rw [hL]
  simp [eqI, g18_j1]

theorem law5 (a : List T67) (h : a.length ≤ maxLen) : g5 a = some true := by
  have hm : maxLen = 9223372036854775807 := by decide
  unfold g5 g14
  rw [sI64 (by omega) (by omega)]
  by_cases hc : ltI (1048576 - (a.length : Int)) 0 = true
  · rw [if_pos hc]
    simp [ltI]
  rw [if_neg hc, Option.bind_some]
  have hl : a.length ≤ 1048576 := by simp [ltI] at hc; omega
  rw [if_neg hc]
  obtain ⟨r, e1, e2⟩ := journal (j := a)
  simp only [entries20 hl, Option.bind_some, e1, e2, eqS_self, entries22 hl]
  rfl
end Go.Proofs.YtaajogkciipnjaaDoor

