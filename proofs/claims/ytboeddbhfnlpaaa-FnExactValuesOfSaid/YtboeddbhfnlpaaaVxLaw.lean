/- From what a statement says of its arguments to what the value logic takes. -/
import Derived.Test.YtboeddbhfnlpaaaVxDraw
import Derived.ProofKit
import Derived.Laws.Cover2
namespace Go.VL
open Go.RowKit Go.ChangeShapes Go.WideShapes Go.ChangeAt
set_option linter.unusedSimpArgs false
set_option linter.unusedVariables false

/-- What a type's cells look like. -/
inductive Sh where
  | bool
  | int (k : IntKind)
  | float (k : FloatKind)
  | str
  | slice (n : Nat) (e : Sh)
  | rep (c : Nat) (e : Sh)
  | unit
  | seq (a b : Sh)

def shF (P : Program) (rec_ : TypeId → Option Sh) (off : Nat) : List Field → Option (Sh × Nat)
  | [] => some (.unit, off)
  | f :: fs => if f.offset = off then (rec_ f.type).bind fun s => (shF P rec_ (off + P.cellsOf f.type) fs).map fun r => (.seq s r.1, r.2) else none

def shp (P : Program) : Nat → TypeId → Option Sh
  | 0, _ => none
  | d + 1, t => match P.underlying t with
    | some .bool => some .bool
    | some (.int k) => some (.int k)
    | some (.float k) => some (.float k)
    | some .string => some .str
    | some (.slice e) => if P.cellsOf e = 0 then none else (shp P d e).map (.slice (P.cellsOf e))
    | some (.array c e) => if P.cellsOf t = c * P.cellsOf e then (shp P d e).map (.rep c) else none
    | some (.struct fs) => (shF P (shp P d) 0 fs.toList).bind fun r => if r.2 = P.cellsOf t then some r.1 else none
    | _ => none

/-- The cells fit the shape. -/
def Ok : Sh → List V → Prop
  | .bool, vs => ∃ x, vs = [.b x]
  | .int k, vs => ∃ n, vs = [.i k n] ∧ (Lit.int k n).wf = true
  | .float k, vs => ∃ x, vs = [.f k (some x)] ∧ (Lit.float k x).wf = true
  | .str, vs => ∃ s, vs = [.str s] ∧ s.size ≤ maxLen
  | .slice n e, vs => ∃ es : List (List V), vs = [.sl n es] ∧ es.length ≤ maxLen ∧ (∀ x ∈ es, x.length = n) ∧ ∀ x ∈ es, Ok e x
  | .rep c e, vs => ∃ xs : List (List V), vs = xs.flatten ∧ xs.length = c ∧ ∀ x ∈ xs, Ok e x
  | .unit, vs => vs = []
  | .seq a b, vs => ∃ x y, vs = x ++ y ∧ Ok a x ∧ Ok b y

section
variable {P : Program} {w : World}

theorem cells_get {base : Nat} {a : Addr} {n : Nat} {cs : List Value} (h : w.cells? base a n = some cs) : cs.length = n ∧ ∀ i, i < n → w.cell? (a.add i) = cs[i]? := by
  unfold World.cells? at h
  split at h
  · refine ⟨by simpa using mapM_some_length h, fun i hi => mapM_some_get h i i (by simp [hi])⟩
  · cases h

theorem Sl.append' {O : Nat → Prop} {φ : Pl} {a b : List V} {us vs : List Value} (h : Sl w O φ a us) (h' : Sl w O φ b vs) : Sl w O φ (a ++ b) (us ++ vs) := h.append h'

theorem cell_spot {a : Addr} {u : Value} (h : w.cell? a = some u) : a.spot = none := by
  unfold World.cell? at h
  split at h
  · split at h
    · cases h
    · simpa using ‹¬ a.spot.isSome = true›
  · cases h

theorem addr_eq {a : Addr} {i : Nat} (ha : a.spot = none) : a.add i = ⟨a.block, a.off + i, none⟩ := by
  cases a
  simp at ha
  subst ha
  simp [Addr.add]

/-- The elements, one after the other. -/
theorem elems_at {R : List V → Prop} {a : Addr} {n len : Nat} (h : ∀ i, i < len → ∃ (cs : List Value) (vs : List V), w.cells? 0 (a.add (i * n)) n = some cs ∧ vs.length = n ∧ Sl w (fun _ => False) noPl vs cs ∧ R vs) :
    ∀ k, k ≤ len → ∃ es : List (List V), es.length = k ∧ (∀ x ∈ es, x.length = n) ∧ (∀ x ∈ es, R x) ∧ ∀ (i : Nat) (v : V), es.flatten[i]? = some v → ∃ u, w.cell? ⟨a.block, a.off + i, none⟩ = some u ∧ a.spot = none ∧ S w (fun _ => False) noPl v u := by
  intro k
  induction k with
  | zero => intro _; exact ⟨[], by simp⟩
  | succ k ih =>
    intro hk
    obtain ⟨es, h1, h2, h3, h4⟩ := ih (by omega)
    obtain ⟨cs, vs, b1, b2, b3, b4⟩ := h k (by omega)
    obtain ⟨c1, c2⟩ := cells_get b1
    refine ⟨es ++ [vs], by simp [h1], ?_, ?_, ?_⟩
    · intro x hx; simp at hx; rcases hx with hx | rfl
      · exact h2 x hx
      · exact b2
    · intro x hx; simp at hx; rcases hx with hx | rfl
      · exact h3 x hx
      · exact b4
    · intro i v hi
      simp only [List.flatten_append, List.flatten_cons, List.flatten_nil, List.append_nil] at hi
      have hfl : es.flatten.length = k * n := by rw [flatten_length h2, h1]
      by_cases hlt : i < k * n
      · rw [List.getElem?_append_left (by omega)] at hi
        exact h4 i v hi
      · rw [List.getElem?_append_right (by omega), hfl] at hi
        obtain ⟨u, d1, d2⟩ := b3.get hi
        have hin : i - k * n < n := by
          have := (List.getElem?_eq_some_iff.1 hi).1
          omega
        have d3 := c2 (i - k * n) hin
        rw [d1] at d3
        have hs : a.spot = none := by
          have h0 := cell_spot d3
          by_cases hz : i = 0
          · have : k * n = 0 := by omega
            rw [this] at h0
            simpa [hz, Addr.add] using h0
          · have hc0 := c2 0 (by omega)
            have : (cs[0]?).isSome := by simp [c1]; omega
            cases hcs : cs[0]? with
            | none => simp [hcs] at this
            | some u0 =>
              rw [hcs] at hc0
              by_cases hkn : k * n = 0
              · have := cell_spot hc0
                rw [hkn] at this
                simpa [Addr.add] using this
              · -- an earlier element tells
                have hk0 : 0 < k := Nat.pos_of_ne_zero fun h => hkn (by simp [h])
                have hn0 : 0 < n := Nat.pos_of_ne_zero fun h => hkn (by simp [h])
                have hlen0 : 0 < es.flatten.length := by rw [hfl]; exact Nat.mul_pos hk0 hn0
                obtain ⟨_, _, hsp, _⟩ := h4 0 es.flatten[0] (by simp [hlen0])
                exact hsp
        refine ⟨u, ?_, hs, d2⟩
        rw [← d3]
        congr 1
        rw [addr_eq hs, addr_eq rfl]
        congr 1
        simp only
        omega

theorem shF_sound {H : Type} {d : Nat} {tr : TypeId → List Value → Option (DataW H × List MemPlace)} (ih : ∀ (t : TypeId) (cs : List Value) (x : DataW H × List MemPlace) (sh : Sh), tr t cs = some x → shp P d t = some sh → ∃ vs, vs.length = cs.length ∧ Sl w (fun _ => False) noPl vs cs ∧ Ok sh vs) :
    ∀ (fs : List Field) (off : Nat) (cs : List Value) (r : Sh × Nat), shF P (shp P d) off fs = some r → (∀ f ∈ fs, ∃ x, tr f.type ((cs.drop f.offset).take (P.cellsOf f.type)) = some x) → cs.length = r.2 →
      off ≤ r.2 ∧ ∃ vs, vs.length = (cs.drop off).length ∧ Sl w (fun _ => False) noPl vs (cs.drop off) ∧ Ok r.1 vs
  | [], off, cs, r, h, _, hl => by
    simp [shF] at h
    subst h
    have : cs.drop off = [] := List.drop_eq_nil_of_le (by simp at hl; omega)
    exact ⟨Nat.le_refl _, [], by simp [this], by rw [this]; exact .nil, (rfl : ([] : List V) = [])⟩
  | f :: fs, off, cs, r, h, hf, hl => by
    simp only [shF] at h
    split at h
    · rename_i hoff
      cases hs : shp P d f.type with
      | none => simp [hs] at h
      | some s =>
        cases hr : shF P (shp P d) (off + P.cellsOf f.type) fs with
        | none => simp [hs, hr] at h
        | some r' =>
          simp [hs, hr] at h
          subst h
          obtain ⟨hle, vs, a1, a2, a3⟩ := shF_sound ih fs _ cs r' hr (fun g hg => hf g (by simp [hg])) hl
          obtain ⟨x, hx⟩ := hf f (by simp)
          obtain ⟨us, b1, b2, b3⟩ := ih _ _ _ _ hx hs
          rw [hoff] at hx b1 b2
          have hcat : cs.drop off = (cs.drop off).take (P.cellsOf f.type) ++ cs.drop (off + P.cellsOf f.type) := by
            rw [← List.drop_drop]
            exact (List.take_append_drop _ _).symm
          refine ⟨by simp only; omega, us ++ vs, ?_, ?_, us, vs, rfl, b3, a3⟩
          · rw [hcat, List.length_append, List.length_append, b1, a1]
          · rw [hcat]; exact b2.append a2
    · cases h

theorem rep_sound {H : Type} {m : Nat} {tr : List Value → Option (DataW H × List MemPlace)} {sh : Sh} (ih : ∀ (cs : List Value) (x : DataW H × List MemPlace), tr cs = some x → ∃ vs, vs.length = cs.length ∧ Sl w (fun _ => False) noPl vs cs ∧ Ok sh vs) :
    ∀ (c : Nat) (cs : List Value), cs.length = c * m → (∀ i, i < c → ∃ x, tr ((cs.drop (i * m)).take m) = some x) → ∃ xs : List (List V), xs.flatten.length = cs.length ∧ xs.length = c ∧ Sl w (fun _ => False) noPl xs.flatten cs ∧ ∀ x ∈ xs, Ok sh x
  | 0, cs, hl, _ => by
    have : cs = [] := List.eq_nil_of_length_eq_zero (by omega)
    subst this
    exact ⟨[], by simp, rfl, .nil, by simp⟩
  | c + 1, cs, hl, h => by
    rw [Nat.add_mul] at hl
    obtain ⟨xs, a1, a2, a3, a4⟩ := rep_sound (m := m) ih c (cs.drop m) (by simp; omega) fun i hi => by
      obtain ⟨x, hx⟩ := h (i + 1) (by omega)
      exact ⟨x, by rw [List.drop_drop, ← hx, Nat.add_mul]; congr 3; omega⟩
    obtain ⟨x, hx⟩ := h 0 (by omega)
    simp at hx
    obtain ⟨vs, b1, b2, b3⟩ := ih _ _ hx
    refine ⟨vs :: xs, ?_, by simp [a2], ?_, ?_⟩
    · simp [b1] at a1 ⊢; omega
    · rw [List.flatten_cons]
      have := b2.append a3
      rwa [List.take_append_drop] at this
    · intro y hy; simp at hy; rcases hy with rfl | hy
      · exact b3
      · exact a4 y hy

theorem trod_S {H : Type} {enc : TypeId × Value → H} {spare : Nat → Bool} {held : Bool} : ∀ (fuel : Nat) (d : Nat) (t : TypeId) (cs : List Value) (x : DataW H × List MemPlace) (sh : Sh), DataW.trod enc P w 0 spare held fuel t cs = some x → shp P d t = some sh →
    ∃ vs, vs.length = cs.length ∧ Sl w (fun _ => False) noPl vs cs ∧ Ok sh vs
  | 0, _, _, _, _, _, h, _ => by simp [DataW.trod] at h
  | fuel + 1, 0, _, _, _, _, _, h => by simp [shp] at h
  | fuel + 1, d + 1, t, cs, x, sh, h, hsh => by
    have ih := fun (d : Nat) (t : TypeId) (cs : List Value) (x : DataW H × List MemPlace) (sh : Sh) => trod_S (enc := enc) (spare := spare) (held := held) fuel d t cs x sh
    unfold shp at hsh
    split at hsh
    · rename_i ht
      cases hsh
      obtain ⟨b, rfl, _⟩ := DataW.trod_bool ht h
      exact ⟨[.b b], rfl, .cons .b .nil, b, rfl⟩
    · rename_i k ht
      cases hsh
      obtain ⟨b, rfl, _, hw⟩ := DataW.trod_int ht h
      exact ⟨[.i k b], rfl, .cons .i .nil, b, rfl, hw⟩
    · rename_i k ht
      cases hsh
      obtain ⟨b, rfl, hw⟩ : ∃ b, cs = [.float k b] ∧ (Lit.float k b).wf = true := by
        unfold DataW.trod at h
        rw [ht] at h
        split at h <;> simp_all
      exact ⟨[.f k (some b)], rfl, .cons .f .nil, b, rfl, hw⟩
    · rename_i ht
      cases hsh
      obtain ⟨s, rfl, _, hs⟩ := DataW.trod_string ht h
      exact ⟨[.str s], rfl, .cons .str .nil, s, rfl, hs⟩
    · rename_i e ht
      split at hsh
      · cases hsh
      rename_i hne
      cases hse : shp P d e with
      | none => simp [hse] at hsh
      | some se =>
        simp [hse] at hsh
        subst hsh
        rcases DataW.trod_slice ht h with ⟨rfl, _⟩ | ⟨a, len, cap, elems, rest, n, hfu, rfl, rfl, hb, hl, hm, hlen, hel, _, _⟩
        · exact ⟨[.sl (P.cellsOf e) []], rfl, .cons .slnil .nil, [], rfl, Nat.zero_le _, by simp, by simp⟩
        · obtain rfl : fuel = n := by omega
          obtain ⟨es, h1, h2, h3, h4⟩ := elems_at (w := w) (R := Ok se) (a := a) (n := P.cellsOf e) (len := len) (fun i hi => by
            have := hel i hi
            obtain ⟨y, hy⟩ : ∃ y, elems[i]? = some y := ⟨elems[i]'(by omega), by simp [show i < elems.length by omega]⟩
            rw [hy, Option.bind_eq_some_iff] at this
            obtain ⟨cs', c1, c2⟩ := this
            obtain ⟨vs, v1, v2, v3⟩ := ih d e cs' y se c2 hse
            exact ⟨cs', vs, c1, by rw [v1]; exact (cells_get c1).1, v2, v3⟩) len (Nat.le_refl _)
          refine ⟨[.sl (P.cellsOf e) es], rfl, .cons ?_ .nil, es, rfl, by omega, h2, h3⟩
          by_cases hz : es.flatten = []
          · by_cases hes : es = []
            · subst hes
              simp at h1
              subst h1
              exact .sl0
            · -- elements without cells
              exfalso
              cases es with
              | nil => exact hes rfl
              | cons y ys =>
                simp at hz
                have := h2 y (by simp)
                simp [hz.1] at this
                exact hne this.symm
          · have hpos : 0 < es.flatten.length := Nat.pos_of_ne_zero fun h => hz (List.eq_nil_of_length_eq_zero h)
            obtain ⟨_, _, hsp, _⟩ := h4 0 es.flatten[0] (by simp [hpos])
            obtain ⟨ab, ao, as⟩ := a
            simp at hsp
            subst hsp
            exact .sl h2 h1 hl (Ss.of_get (fun _ => id) fun i v hi => by
              obtain ⟨u, a1, _, a3⟩ := h4 i v hi
              exact ⟨u, a1, a3⟩)
    · rename_i c e ht
      split at hsh
      · rename_i hce
        cases hse : shp P d e with
        | none => simp [hse] at hsh
        | some se =>
          simp [hse] at hsh
          subst hsh
          have hh : cs.length = P.cellsOf t ∧ ∃ xs : List (DataW H × List MemPlace), (List.range c).mapM (fun i => DataW.trod enc P w 0 spare held fuel e ((cs.drop (i * P.cellsOf e)).take (P.cellsOf e))) = some xs := by
            unfold DataW.trod at h
            rw [ht] at h
            split at h <;> simp_all
            obtain ⟨_, b, c, _⟩ := h
            exact ⟨b, c⟩
          obtain ⟨hl, xs, hxs⟩ := hh
          obtain ⟨ys, a1, a2, a3, a4⟩ := rep_sound (w := w) (m := P.cellsOf e) (tr := DataW.trod enc P w 0 spare held fuel e) (sh := se) (fun cs' x hx => ih d e cs' x se hx hse) c cs (by omega) fun i hi => by
            have := mapM_some_get hxs i i (by simp [hi])
            have hl' := mapM_some_length hxs
            simp at hl'
            exact ⟨xs[i]'(by omega), by rw [this]; simp [show i < xs.length by omega]⟩
          exact ⟨ys.flatten, a1, a3, ys, rfl, a2, a4⟩
      · cases hsh
    · rename_i fs ht
      cases hsf : shF P (shp P d) 0 fs.toList with
      | none => simp [hsf] at hsh
      | some r =>
        simp only [hsf, Option.bind_some] at hsh
        split at hsh
        · rename_i hr2
          cases hsh
          obtain ⟨xs, n, hfu, rfl, hl, hxl, hf⟩ := DataW.trod_struct ht h
          obtain rfl : fuel = n := by omega
          obtain ⟨_, vs, a1, a2, a3⟩ := shF_sound (P := P) (w := w) (d := d) (tr := DataW.trod enc P w 0 spare held fuel) (fun t cs x sh h1 h2 => ih d t cs x sh h1 h2) fs.toList 0 cs r hsf (fun f hfm => by
            obtain ⟨i, hi⟩ := List.getElem?_of_mem hfm
            have := hf i f (by simpa using hi)
            have hlt : i < fs.size := by have := (List.getElem?_eq_some_iff.1 hi).1; simpa using this
            exact ⟨xs[i]'(by omega), by rw [this]; simp [show i < xs.length by omega]⟩) (by rw [hl, hr2])
          simp at a1 a2
          exact ⟨vs, a1, a2, a3⟩
        · cases hsh
    · cases hsh
end
end Go.VL
