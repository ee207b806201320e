/- Functions of Go's library by their contracts. -/
import Derived.Test.YtbohajclnmmkhaaGreatDoorVxShort
import Derived.Shelf.Strconv.Itoa4
import Derived.Room.Shelf.Join48
import Derived.Lib.AppendIntMem
namespace Go.VL
open Go.RowKit Go.Shelf Go.Proofs
set_option linter.unusedSimpArgs false
set_option linter.unusedVariables false
variable {P : Program} {ρ : Ren}

/-! ### strconv.FormatInt at base 10 -/
def itoaB (n : Int) : ByteArray := ⟨(Lib.itoa n).toArray⟩
def fmtIntO (n b : Int) : Option ByteArray := if b = 10 ∧ -9223372036854775808 ≤ n ∧ n ≤ 9223372036854775807 then some (itoaB n) else none
theorem fmtInt_calls (L : LaysM.n173 P ρ) {g : Nat} (hg : P.globalNamed "internal/strconv.uint64pow10" = some g) {n b : Int} {r : ByteArray} (h : fmtIntO n b = some r) : VCalls P (ρ.f 173) [.i .i64 n, .i .i64 b] (fun x => x = .str r) := by
  unfold fmtIntO at h
  split at h
  · rename_i hc
    obtain ⟨rfl, h0, h1⟩ := hc
    cases h
    intro w us hgl hs
    obtain ⟨u, u', rfl, s1, s2⟩ := hs.two
    cases s1
    cases s2
    refine (Any.strconv_FormatInt_10 L n h0 h1 w (hgl.1 g hg)).mono fun e w' ⟨he, k, os, hw⟩ => ?_
    subst hw
    exact ⟨_, _, [], he, rfl, .pl rfl .str, List.nodup_nil, by simp, Lib.below_grow _ _ (Nat.le_refl _) _ _⟩
  · cases h

/-! ### strings.Join -/
def joinB (xs : List ByteArray) (sep : ByteArray) : ByteArray := ⟨(Lib.join (xs.map (·.data.toList)) sep.data.toList).toArray⟩
def joinO (xs : List ByteArray) (sep : ByteArray) : Option ByteArray := if xs.length ≤ 140737488355328 ∧ (Lib.join (xs.map (·.data.toList)) sep.data.toList).length ≤ 281474976710656 then some (joinB xs sep) else none
theorem Ss.strs {w : World} {O : Nat → Prop} {xs : List ByteArray} {b off : Nat} (h : Ss w O noPl b off (rows (fun x => [V.str x]) xs).flatten) : ∀ (j : Nat) x, xs[j]? = some x → w.cell? ⟨b, off + j, none⟩ = some (.string x) := by
  intro j x hx
  have : (rows (fun x => [V.str x]) xs).flatten[j]? = some (V.str x) := by
    have : (rows (fun x => [V.str x]) xs).flatten = xs.map V.str := by
      clear h hx
      induction xs with
      | nil => rfl
      | cons y ys ih => simp [rows] at ih ⊢; exact ih
    rw [this]
    simp [hx]
  obtain ⟨u, h1, _, h3⟩ := h.get this
  cases h3
  exact h1
theorem join_calls (L : Lays.n156 P ρ) (X : Builder.Extra P ρ) {xs : List ByteArray} {sep r : ByteArray} (h : joinO xs sep = some r) : VCalls P (ρ.f 156) [.sl 1 (rows (fun x => [.str x]) xs), .str sep] (fun x => x = .str r) := by
  unfold joinO at h
  split at h
  · rename_i hc
    cases h
    intro w us hgl hs
    obtain ⟨u, u', rfl, s1, s2⟩ := hs.two
    cases s2
    have fin : ∀ {e w'}, (e = Ending.returned (.string (joinB xs sep)) ∧ Below w.heap.size w w') → ∃ r u F, e = .returned u ∧ r = V.str (joinB xs sep) ∧ RV w' r u F ∧ F.Nodup ∧ (∀ k ∈ F, w.heap.size ≤ k ∧ k < w'.heap.size) ∧ Below w.heap.size w w' :=
      fun ⟨he, hb⟩ => ⟨_, _, [], he, rfl, .pl rfl .str, List.nodup_nil, by simp, hb⟩
    have none_ : ∀ {a : Option Addr} {c : Nat}, xs = [] → Calls P (ρ.f 156) #[.slice a 0 c, .string sep] w (fun e w' => ∃ r u F, e = .returned u ∧ r = V.str (joinB xs sep) ∧ RV w' r u F ∧ F.Nodup ∧ (∀ k ∈ F, w.heap.size ≤ k ∧ k < w'.heap.size) ∧ Below w.heap.size w w') := fun {a c} hx => by
      subst hx
      refine (Any.strings_Join_none L X a c sep w).mono fun e w' ⟨he, hw⟩ => ?_
      subst hw
      exact fin ⟨he, Below.refl _ _⟩
    by_cases hx : xs = []
    · subst hx
      cases s1 with
      | sl hn hl hcc hss =>
        simp at hl
        subst hl
        exact none_ rfl
      | sl0 => exact none_ rfl
      | slnil => exact none_ rfl
    · have hlen : 0 < xs.length := List.length_pos_iff.2 hx
      generalize hr : rows (fun x => [V.str x]) xs = rr at s1
      have hrl : rr.length = xs.length := by rw [← hr]; simp
      cases s1 with
      | sl hn hl hcc hss =>
        rename_i len b off cap
        subst hl
        rw [← hr] at hss
        have hcells := hss.strs
        obtain ⟨x0, hx0⟩ : ∃ x, xs[0]? = some x := ⟨_, List.getElem?_eq_getElem hlen⟩
        have hbk := cell?_lt (hcells 0 x0 hx0)
        rw [hrl]
        exact (Any.strings_Join_48 L X b off cap xs sep w hcells hbk hc.1 (by omega) hc.2).mono fun e w' he => fin he
      | sl0 => simp at hrl; omega
      | slnil => simp at hrl; omega
  · cases h
end Go.VL
