/- Plain lemmas: iterations, and numbers that do not turn round. -/
import Derived.Test.YtboeddbhfnlpaaaVxInl
namespace Go.VL
set_option linter.unusedSimpArgs false
set_option linter.unusedVariables false
section
variable {σ σ' ρ ρ' : Type}
theorem loopO_rule {body : σ → Option (σ ⊕ ρ)} (μ : σ → Nat) (I : σ → Prop) (R : ρ → Prop) (h : ∀ s, I s → (∃ t, body s = some (.inl t) ∧ I t ∧ μ t < μ s) ∨ (∃ r, body s = some (.inr r) ∧ R r)) {s : σ} (hs : I s) : ∃ r, loopO body s = some r ∧ R r := by
  have : ∀ (n : Nat) (s : σ), μ s = n → I s → ∃ r, loopO body s = some r ∧ R r := fun n => by
    induction n using Nat.strongRecOn with
    | _ n ih =>
      intro s hn hs
      rcases h s hs with ⟨t, h1, h2, h3⟩ | ⟨r, h1, h2⟩
      · obtain ⟨r, h4, h5⟩ := ih (μ t) (by omega) t rfl h2
        exact ⟨r, (loopO_inl h1).trans h4, h5⟩
      · exact ⟨r, loopO_inr h1, h2⟩
  exact this _ s rfl hs

theorem loopO_rel {b1 : σ → Option (σ ⊕ ρ)} {b2 : σ' → Option (σ' ⊕ ρ')} (μ : σ → Nat) (I : σ → σ' → Prop) (R : ρ → ρ' → Prop)
    (h : ∀ s s', I s s' → (∃ t t', b1 s = some (.inl t) ∧ b2 s' = some (.inl t') ∧ I t t' ∧ μ t < μ s) ∨ (∃ r r', b1 s = some (.inr r) ∧ b2 s' = some (.inr r') ∧ R r r')) {s : σ} {s' : σ'} (hs : I s s') : ∃ r r', loopO b1 s = some r ∧ loopO b2 s' = some r' ∧ R r r' := by
  have : ∀ (n : Nat) (s : σ) (s' : σ'), μ s = n → I s s' → ∃ r r', loopO b1 s = some r ∧ loopO b2 s' = some r' ∧ R r r' := fun n => by
    induction n using Nat.strongRecOn with
    | _ n ih =>
      intro s s' hn hs
      rcases h s s' hs with ⟨t, t', h1, h1', h2, h3⟩ | ⟨r, r', h1, h1', h2⟩
      · obtain ⟨r, r', h4, h4', h5⟩ := ih (μ t) (by omega) t t' rfl h2
        exact ⟨r, r', (loopO_inl h1).trans h4, (loopO_inl h1').trans h4', h5⟩
      · exact ⟨r, r', loopO_inr h1, loopO_inr h1', h2⟩
  exact this _ s s' rfl hs
end

/-! ### 64 bits -/
section
variable {a b : Int}
theorem aI64 (h1 : -9223372036854775808 ≤ a + b) (h2 : a + b < 9223372036854775808) : aI .i64 a b = a + b := wrap64 h1 h2
theorem sI64 (h1 : -9223372036854775808 ≤ a - b) (h2 : a - b < 9223372036854775808) : sI .i64 a b = a - b := wrap64 h1 h2
theorem mI64 (h1 : -9223372036854775808 ≤ a * b) (h2 : a * b < 9223372036854775808) : mI .i64 a b = a * b := wrap64 h1 h2
theorem cI64 (h1 : -9223372036854775808 ≤ a) (h2 : a < 9223372036854775808) : cI .i64 a = a := wrap64 h1 h2
theorem dI64 (hb : b ≠ 0) (h1 : -9223372036854775808 ≤ a.tdiv b) (h2 : a.tdiv b < 9223372036854775808) : dI .i64 a b = some (a.tdiv b) := by
  unfold dI
  rw [if_neg hb, wrap64 h1 h2]
end

section
variable {α : Type} {xs : List α} {i : Int}
theorem idx_of (h0 : 0 ≤ i) (h : i.toNat < xs.length) : idx xs i = some xs[i.toNat] := by
  unfold idx
  rw [if_pos h0, List.getElem?_eq_getElem h]
theorem idx_nat {n : Nat} (h : n < xs.length) : idx xs (n : Int) = some xs[n] := idx_of (by omega) (by simpa using h)
theorem appK_of {ys : List α} {b : Nat} (h1 : (xs.length + ys.length) * b ≤ 140737488355328) (h2 : xs.length + ys.length ≤ 9223372036854775807) : appK b xs ys = some () := by
  unfold appK
  rw [if_pos ⟨h1, h2⟩]
theorem mk_of {b : Nat} {n : Int} (h0 : 0 ≤ n) (h1 : b * n.toNat ≤ 281474976710656) (h2 : n.toNat ≤ 9223372036854775807) : mk b n = some () := by
  unfold mk
  rw [if_pos ⟨h0, h1, h2⟩]
theorem cutK_of {lo hi : Int} {n : Nat} (h0 : 0 ≤ lo) (h1 : lo ≤ hi) (h2 : hi ≤ n) : cutK lo hi n = some () := by
  unfold cutK
  rw [if_pos ⟨h0, by omega, by omega, by omega⟩]
end

/-- Numbers from k on. -/
def marks (k : Int) : Nat → List Int
  | 0 => []
  | n + 1 => k :: marks (k + 1) n
@[simp] theorem marks_length {k : Int} {n : Nat} : (marks k n).length = n := by
  induction n generalizing k with
  | zero => rfl
  | succ n ih => simp [marks, ih]
theorem marks_get {k : Int} {n i : Nat} (h : i < n) : (marks k n)[i]? = some (k + i) := by
  induction n generalizing k i with
  | zero => omega
  | succ n ih =>
    cases i with
    | zero => simp [marks]
    | succ i =>
      simp only [marks, List.getElem?_cons_succ]
      rw [ih (by omega)]
      congr 1; omega
end Go.VL
namespace Go.VL
section
variable {σ ρ : Type}
theorem loop_run {body : σ → Option (σ ⊕ ρ)} (S : Nat → σ) (n : Nat) (h : ∀ i, i < n → body (S i) = some (.inl (S (i + 1)))) {r : ρ} (hr : body (S n) = some (.inr r)) : loopO body (S 0) = some r := by
  have : ∀ k, k ≤ n → loopO body (S (n - k)) = some r := fun k => by
    induction k with
    | zero => intro _; exact loopO_inr hr
    | succ k ih =>
      intro hk
      rw [loopO_inl (h (n - (k + 1)) (by omega)), show n - (k + 1) + 1 = n - k by omega]
      exact ih (by omega)
  have := this n (Nat.le_refl _)
  rwa [Nat.sub_self] at this

/-- A loop that looks at one after the other. -/
theorem loop_scan {body : Int → Option (Int ⊕ ρ)} {n : Nat} (f : Nat → Option ρ) (done : ρ) (hbody : ∀ i : Nat, i < n → body (i : Int) = some (match f i with | none => .inl ((i + 1 : Nat) : Int) | some r => .inr r)) (hend : body (n : Int) = some (.inr done)) :
    loopO body 0 = some (((List.range n).findSome? f).getD done) := by
  have : ∀ k, k ≤ n → loopO body ((n - k : Nat) : Int) = some (((List.range' (n - k) k).findSome? f).getD done) := fun k => by
    induction k with
    | zero => intro _; simpa using loopO_inr hend
    | succ k ih =>
      intro hk
      rw [List.range'_succ, List.findSome?_cons]
      have hb := hbody (n - (k + 1)) (by omega)
      cases hf : f (n - (k + 1)) with
      | none =>
        rw [hf] at hb
        rw [loopO_inl hb, show n - (k + 1) + 1 = n - k by omega]
        exact ih (by omega)
      | some r =>
        rw [hf] at hb
        simpa using loopO_inr hb
  have := this n (Nat.le_refl _)
  rw [Nat.sub_self] at this
  rw [List.range_eq_range']
  exact this
end
theorem succI {i : Nat} (h : i < 4611686018427387904) : aI .i64 (i : Int) 1 = ((i + 1 : Nat) : Int) := succ64 h
theorem range_none {ρ : Type} {n : Nat} {f : Nat → Option ρ} : (List.range n).findSome? f = none ↔ ∀ i, i < n → f i = none := by
  rw [List.findSome?_eq_none_iff]
  simp
theorem range_some {ρ : Type} : ∀ {n : Nat} {f : Nat → Option ρ} {r : ρ}, (List.range n).findSome? f = some r → ∃ i, i < n ∧ f i = some r ∧ ∀ j, j < i → f j = none := by
  intro n f r h
  rw [List.range_eq_range'] at h
  have : ∀ (k s : Nat), (List.range' s k).findSome? f = some r → ∃ i, s ≤ i ∧ i < s + k ∧ f i = some r ∧ ∀ j, s ≤ j → j < i → f j = none := fun k => by
    induction k with
    | zero => intro s h; simp at h
    | succ k ih =>
      intro s h
      rw [List.range'_succ, List.findSome?_cons] at h
      cases hf : f s with
      | some r' =>
        rw [hf] at h
        simp at h
        subst h
        exact ⟨s, Nat.le_refl _, by omega, hf, fun j h1 h2 => by omega⟩
      | none =>
        rw [hf] at h
        obtain ⟨i, h1, h2, h3, h4⟩ := ih (s + 1) h
        refine ⟨i, by omega, by omega, h3, fun j h5 h6 => ?_⟩
        by_cases hj : j = s
        · subst hj; exact hf
        · exact h4 j (by omega) h6
  obtain ⟨i, _, h2, h3, h4⟩ := this n 0 h
  exact ⟨i, by omega, h3, fun j hj => h4 j (by omega) hj⟩
end Go.VL
