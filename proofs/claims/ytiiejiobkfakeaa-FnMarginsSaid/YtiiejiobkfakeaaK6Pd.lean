/- Plain laws: seasons that are drawn. -/
import Derived.Test.YtiiejiobkfakeaaK6Pa
import Derived.Test.YtiiejiobkfakeaaK6c
import Derived.Test.YtiiejiobkfakeaaK6c
namespace Go.Proofs.Ytiiejiobkfakeaa
open Go.VL
set_option linter.unusedSimpArgs false
set_option linter.unusedVariables false

/-- A source that can be drawn from. -/
structure SrcOk (s : T85) (n : Int) : Prop where
  bytes : ∀ x ∈ s.code_, 0 ≤ x ∧ x ≤ 255
  len : s.code_.length ≤ 1048576
  at0 : 0 ≤ s.at_
  at1 : s.at_ ≤ n

theorem wrapU {n : Int} (h1 : 0 ≤ n) (h2 : n < 18446744073709551616) : IntKind.u64.wrap n = n := by
  unfold IntKind.wrap
  have e1 : (2 ^ IntKind.u64.bits : Int) = 18446744073709551616 := by decide
  have e3 : IntKind.u64.signed = false := by decide
  simp only [e1, e3, Bool.false_and, Bool.false_eq_true, if_false]
  omega
theorem and255 (x : Int) : 0 ≤ cI .i64 (andI .u64 x 255) ∧ cI .i64 (andI .u64 x 255) ≤ 255 := by
  have h : (BitVec.ofInt IntKind.u64.bits x &&& BitVec.ofInt IntKind.u64.bits 255).toNat ≤ 255 := by
    rw [BitVec.toNat_and]
    refine Nat.le_trans Nat.and_le_right ?_
    decide
  unfold andI
  generalize (BitVec.ofInt IntKind.u64.bits x &&& BitVec.ofInt IntKind.u64.bits 255).toNat = m at h
  have h1 : IntKind.u64.wrap (m : Int) = m := wrapU (by omega) (by omega)
  rw [h1, cI64 (by omega) (by omega)]
  omega

theorem next_eq {s : T85} {n : Int} (h : SrcOk s n) (hn : n ≤ 1048576) : ∃ v s', g63 s = some (v, s') ∧ 0 ≤ v ∧ v ≤ 255 ∧ SrcOk s' (n + 1) := by
  have h1 := h.at0
  have h2 := h.at1
  have h3 := h.len
  have e1 : aI .i64 s.at_ 1 = s.at_ + 1 := aI64 (by omega) (by omega)
  unfold g63
  rw [e1]
  have hsh : ∀ x, shrI .u64 x 40 = some (x.fdiv (2 ^ 40)) := fun x => rfl
  by_cases hlt : s.at_ < s.code_.length
  · have hl : s.at_.toNat < s.code_.length := by omega
    rw [if_pos (by simp [ltI]; omega), idx_of h1 hl, Option.bind_some, if_pos (by simp [leI]; omega)]
    have hb := h.bytes _ (List.getElem_mem hl)
    refine ⟨_, _, rfl, ?_, ?_, h.bytes, h.len, by simp only; omega, by simp only; omega⟩
    · rw [cI64 (by omega) (by omega)]; exact hb.1
    · rw [cI64 (by omega) (by omega)]; exact hb.2
  · rw [if_neg (by simp [ltI]; omega)]
    by_cases hle : s.at_ + 1 ≤ s.code_.length
    · omega
    · rw [if_neg (by simp [leI]; omega), hsh, Option.bind_some]
      exact ⟨_, _, rfl, (and255 _).1, (and255 _).2, h.bytes, h.len, by simp only; omega, by simp only; omega⟩

theorem pick_eq {s : T85} {n : Int} (h : SrcOk s n) (hn : n ≤ 1048576) {k : Int} (k1 : 1 ≤ k) (k2 : k ≤ 200) : ∃ v s', g56 s k = some (v, s') ∧ 0 ≤ v ∧ v < k ∧ SrcOk s' (n + 1) := by
  unfold g56
  by_cases hk : k ≤ 1
  · rw [if_pos (by simp [leI]; omega)]
    exact ⟨_, _, rfl, by omega, by omega, h.bytes, h.len, h.at0, by have := h.at1; omega⟩
  · obtain ⟨v, s', e, v0, v1, hs⟩ := next_eq h hn
    rw [if_neg (by simp [leI]; omega), e, Option.bind_some, if_neg (by simp [ltI]; omega)]
    have : rI .i64 v k = some (v.tmod k) := by unfold rI; rw [if_neg (by omega)]
    rw [this, Option.bind_some]
    refine ⟨_, _, rfl, ?_, ?_, hs⟩
    · exact Int.tmod_nonneg _ v0
    · exact Int.tmod_lt_of_pos _ (by omega)

theorem draw_loop {x : Int} {s : T85} {n : Int} (hx0 : 0 ≤ x) (hx : x ≤ 5) (h : SrcOk s n) (hn : n ≤ 1000) :
    ∃ c a d l m, loopO g23_L1 (x, s.code_, s.at_, s.seed_, [], []) = some (c, a, d, l, m) ∧ (l.length : Int) = x ∧ m.length = l.length ∧ (∀ y ∈ l, 0 ≤ y ∧ y ≤ 29) ∧ ∀ y ∈ m, 0 ≤ y ∧ y ≤ 6 := by
  obtain ⟨r, e, h1, h2, h3, h4⟩ := loopO_rule (body := g23_L1) (fun z => z.1.toNat)
    (fun z => 0 ≤ z.1 ∧ z.1 ≤ 5 ∧ (z.2.2.2.2.1.length : Int) = x - z.1 ∧ z.2.2.2.2.2.length = z.2.2.2.2.1.length ∧ (∀ y ∈ z.2.2.2.2.1, 0 ≤ y ∧ y ≤ 29) ∧ (∀ y ∈ z.2.2.2.2.2, 0 ≤ y ∧ y ≤ 6) ∧ SrcOk ⟨z.2.1, z.2.2.1, z.2.2.2.1⟩ (1010 - 2 * z.1))
    (fun r => (r.2.2.2.1.length : Int) = x ∧ r.2.2.2.2.length = r.2.2.2.1.length ∧ (∀ y ∈ r.2.2.2.1, 0 ≤ y ∧ y ≤ 29) ∧ ∀ y ∈ r.2.2.2.2, 0 ≤ y ∧ y ≤ 6)
    (fun z ⟨a1, a2, a3, a4, a5, a6, a7⟩ => by
      obtain ⟨k, c, a, d, l, m⟩ := z
      simp only at a1 a2 a3 a4 a5 a6 a7
      rw [g23_L1]
      by_cases hk : 0 < k
      · rw [if_pos (by simp [ltI]; omega)]
        obtain ⟨v, s', e, v0, v1, hs⟩ := pick_eq a7 (by omega) (k := 30) (by omega) (by omega)
        rw [e, Option.bind_some]
        simp only
        rw [appK_of (by simp; omega) (by simp; omega), Option.bind_some]
        obtain ⟨v', s'', e', v0', v1', hs'⟩ := pick_eq hs (by omega) (k := 7) (by omega) (by omega)
        rw [e', Option.bind_some]
        simp only
        rw [appK_of (by simp; omega) (by simp; omega), Option.bind_some, sI64 (by omega) (by omega)]
        left
        refine ⟨_, rfl, ⟨by simp only; omega, by simp only; omega, by simp; omega, by simp; omega, ?_, ?_, hs'.bytes, hs'.len, hs'.at0, by have := hs'.at1; simp only; omega⟩, by simp only; omega⟩
        · intro y hy
          rcases List.mem_append.1 hy with hy | hy
          · exact a5 y hy
          · rw [List.mem_singleton.1 hy]; omega
        · intro y hy
          rcases List.mem_append.1 hy with hy | hy
          · exact a6 y hy
          · rw [List.mem_singleton.1 hy]; omega
      · rw [if_neg (by simp [ltI]; omega)]
        right
        exact ⟨_, rfl, by simp only; omega, a4, a5, a6⟩) (s := (x, s.code_, s.at_, s.seed_, [], [])) ⟨hx0, hx, by simp, rfl, by simp, by simp, h.bytes, h.len, h.at0, by have := h.at1; simp only; omega⟩
  obtain ⟨c, a, d, l, m⟩ := r
  exact ⟨c, a, d, l, m, e, h1, h2, h3, h4⟩

/-- A season that is drawn is valid, and small. -/
theorem season_eq {code : List Int} (hb : ∀ x ∈ code, 0 ≤ x ∧ x ≤ 255) (hl : code.length ≤ 1048576) : ∃ s, g23 code = some s ∧ Valid s ∧ ∀ x ∈ s.need_, x ≤ 29 := by
  have h0 : SrcOk ⟨code, 0, 0⟩ 0 := ⟨hb, hl, by simp, by simp⟩
  unfold g23
  obtain ⟨v1, s1, e1, a1, b1, h1⟩ := pick_eq h0 (by omega) (k := 5) (by omega) (by omega)
  rw [e1, Option.bind_some]
  obtain ⟨v2, s2, e2, a2, b2, h2⟩ := pick_eq h1 (by omega) (k := 8) (by omega) (by omega)
  simp only
  rw [e2, Option.bind_some]
  obtain ⟨v3, s3, e3, a3, b3, h3⟩ := pick_eq h2 (by omega) (k := 25) (by omega) (by omega)
  simp only
  rw [e3, Option.bind_some]
  obtain ⟨v4, s4, e4, a4, b4, h4⟩ := pick_eq h3 (by omega) (k := (([0, 0, 10, 25, 50, 100] : List Nat).length : Int)) (by simp) (by simp)
  simp only
  rw [e4, Option.bind_some]
  have hv4 : v4.toNat < ([0, 0, 10, 25, 50, 100] : List Int).length := by simp at b4 ⊢; omega
  simp only
  rw [idx_of a4 hv4, Option.bind_some]
  have hloss : 0 ≤ ([0, 0, 10, 25, 50, 100] : List Int)[v4.toNat] ∧ ([0, 0, 10, 25, 50, 100] : List Int)[v4.toNat] ≤ 100 := by
    have : ∀ y ∈ ([0, 0, 10, 25, 50, 100] : List Int), 0 ≤ y ∧ y ≤ 100 := by decide
    exact this _ (List.getElem_mem hv4)
  generalize ([0, 0, 10, 25, 50, 100] : List Int)[v4.toNat] = loss at hloss
  have hst : aI .i64 v3 1 = v3 + 1 := aI64 (by omega) (by omega)
  obtain ⟨v5, s5, e5, a5, b5, h5⟩ := pick_eq h4 (by omega) (k := v3 + 1) (by omega) (by omega)
  rw [hst, e5, Option.bind_some]
  obtain ⟨v6, s6, e6, a6, b6, h6⟩ := pick_eq h5 (by omega) (k := 5) (by omega) (by omega)
  simp only
  rw [e6, Option.bind_some]
  simp only
  rw [aI64 (a := 1) (b := v6) (by omega) (by omega)]
  obtain ⟨c, a, d, l, m, e, l1, l2, l3, l4⟩ := draw_loop (x := 1 + v6) (by omega) (by omega) h6 (by omega)
  rw [e, Option.bind_some]
  unfold g23_j1
  refine ⟨_, rfl, ⟨by simp only; omega, by simp only; omega, l2, fun x hx => by have := l3 x hx; omega, fun x hx => by have := l4 x hx; omega, ?_, ?_, ?_, ?_, a3, by simp only; omega, a5, by simp only; omega, hloss.1, hloss.2⟩, fun x hx => (l3 x hx).2⟩
  · simp only; rw [aI64 (by omega) (by omega)]; omega
  · simp only; rw [aI64 (by omega) (by omega)]; omega
  · simp only; rw [aI64 (by omega) (by omega)]; omega
  · simp only; rw [aI64 (by omega) (by omega)]; omega

theorem at_eq {more : List Int} (hb : ∀ x ∈ more, 0 ≤ x ∧ x ≤ 255) {n : Int} (n1 : 1 ≤ n) (n2 : n ≤ 1048576) : ∃ v, g24 more 0 n = some v ∧ 0 ≤ v ∧ v < n := by
  unfold g24
  by_cases hl : more = []
  · subst hl
    exact ⟨0, rfl, by omega, by omega⟩
  · have h0 : 0 < more.length := List.length_pos_iff.2 hl
    have hx := hb _ (List.getElem_mem h0)
    have hc : (leI (more.length : Int) 0 || ltI n 1) = false := by rw [Bool.or_eq_false_iff]; exact ⟨decide_eq_false (by omega), decide_eq_false (by omega)⟩
    rw [hc, if_neg (by simp), idx_of (by omega) (by simpa using h0), Option.bind_some, cI64 (by have := hx.1; simp only [Int.toNat_zero] at *; omega) (by have := hx.2; simp only [Int.toNat_zero] at *; omega)]
    have : ∀ v : Int, rI .i64 v n = some (v.tmod n) := fun v => by unfold rI; rw [if_neg (by omega)]
    rw [this, Option.bind_some]
    exact ⟨_, rfl, Int.tmod_nonneg _ hx.1, Int.tmod_lt_of_pos _ (by omega)⟩
end Go.Proofs.Ytiiejiobkfakeaa
