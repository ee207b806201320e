/- A number of single precision is one of double precision. -/
import Derived.Test.YtboeddbhfnlpaaaVxScal
namespace Go.VL
set_option linter.unusedSimpArgs false
set_option linter.unusedVariables false

theorem cut_zero (way : Ieee.Toward) (neg : Bool) (n : Nat) : way.cut neg n 0 = n := by
  unfold Ieee.Toward.cut
  simp [Nat.mod_one]
  cases way <;> simp

theorem read_finite {f : Ieee.Format} {neg : Bool} {r : Nat} (h : r < f.infRung) (h2 : f.infRung ≤ f.signWeight) : (f.read (f.word neg r)).isInfinity = false := by
  have hm : f.word neg r % f.signWeight = r := by
    unfold Ieee.Format.word
    split
    · rw [Nat.add_mod_left]; exact Nat.mod_eq_of_lt (by omega)
    · exact Nat.mod_eq_of_lt (by omega)
  unfold Ieee.Format.read
  simp only [hm]
  split
  · rfl
  · rfl

theorem double_holds {s : Bool} {m : Nat} {e : Int} (hm : m < 2 ^ 24) (h1 : -149 ≤ e) (h2 : e ≤ 104) : (Ieee.double.read (Ieee.double.nearest s m e)).isInfinity = false := by
  have c1 : Ieee.double.fractionBits = 52 := rfl
  have c2 : Ieee.double.leastPlace = -1074 := by decide
  have c3 : Ieee.double.binade = 2 ^ 52 := rfl
  have c4 : Ieee.double.infRung = 2047 * 2 ^ 52 := rfl
  have c5 : Ieee.double.signWeight = 2 ^ 63 := rfl
  unfold Ieee.Format.nearest
  split
  · have hf : 0 < Ieee.double.infRung := by rw [c4]; decide
    have hs : Ieee.double.infRung ≤ Ieee.double.signWeight := by rw [c4, c5]; decide
    exact read_finite hf hs
  · rename_i hz
    have hlog : m.log2 ≤ 23 := by
      have := (Nat.log2_lt hz (k := 24)).2 hm
      omega
    have hmlog : m < 2 ^ (m.log2 + 1) := Nat.lt_log2_self
    rw [c1, c2, c3, c4]
    have hmax : max (e + (m.log2 : Int) - (52 : Nat)) (-1074) = e + (m.log2 : Int) - 52 := by omega
    rw [hmax]
    dsimp only
    have hd : (e + (m.log2 : Int) - 52 - e).toNat = 0 := by omega
    have hu : (e - (e + (m.log2 : Int) - 52)).toNat = 52 - m.log2 := by omega
    rw [hd, hu, cut_zero]
    have hkept : m <<< (52 - m.log2) < 2 ^ 53 := by
      rw [Nat.shiftLeft_eq]
      have : m * 2 ^ (52 - m.log2) < 2 ^ (m.log2 + 1) * 2 ^ (52 - m.log2) := Nat.mul_lt_mul_of_pos_right hmlog (Nat.two_pow_pos _)
      rw [← Nat.pow_add, show m.log2 + 1 + (52 - m.log2) = 53 by omega] at this
      exact this
    have hl : (e + (m.log2 : Int) - 52 - -1074).toNat ≤ 1149 := by omega
    have hr : (e + (m.log2 : Int) - 52 - -1074).toNat * 2 ^ 52 + m <<< (52 - m.log2) < 2047 * 2 ^ 52 := by
      have : (e + (m.log2 : Int) - 52 - -1074).toNat * 2 ^ 52 ≤ 1149 * 2 ^ 52 := Nat.mul_le_mul_right _ hl
      omega
    rw [Nat.min_eq_left (Nat.le_of_lt hr)]
    generalize (e + (m.log2 : Int) - 52 - -1074).toNat * 2 ^ 52 + m <<< (52 - m.log2) = X at hr
    have hf : X < Ieee.double.infRung := by rw [c4]; exact hr
    have hs : Ieee.double.infRung ≤ Ieee.double.signWeight := by rw [c4, c5]; decide
    exact read_finite hf hs

theorem single_read {b : Nat} {s : Bool} {m : Nat} {e : Int} (h : Ieee.single.read b = .number s m e) : m < 2 ^ 24 ∧ -149 ≤ e ∧ e ≤ 104 := by
  have c2 : Ieee.single.leastPlace = -149 := by decide
  have c3 : Ieee.single.binade = 2 ^ 23 := rfl
  have c4 : Ieee.single.infRung = 255 * 2 ^ 23 := rfl
  unfold Ieee.Format.read at h
  simp only [c2, c3, c4] at h
  split at h
  · simp at h
    obtain ⟨_, rfl, rfl⟩ := h
    omega
  · split at h
    · rename_i h1 h2
      simp only [Ieee.Datum.number.injEq] at h
      obtain ⟨_, rfl, rfl⟩ := h
      have hm : (b % Ieee.single.signWeight) % 2 ^ 23 < 2 ^ 23 := Nat.mod_lt _ (by omega)
      have hd : (b % Ieee.single.signWeight) / 2 ^ 23 < 255 := (Nat.div_lt_iff_lt_mul (by omega)).2 h2
      refine ⟨by omega, by omega, by omega⟩
    · split at h <;> cases h

/-- A number of single precision, in double precision. -/
def wide (x : Option Nat) : Option Nat := (fconv .f32 .f64 x).getD none

theorem fconv_wide (x : Option Nat) : fconv .f32 .f64 x = some (wide x) := by
  have : (fconv .f32 .f64 x).isSome = true := by
    unfold fconv
    simp
    cases x with
    | none => rfl
    | some b =>
      simp only
      split
      · rfl
      · rfl
      · rename_i s m e hd
        have hd' : Ieee.single.read b = .number s m e := hd
        obtain ⟨h1, h2, h3⟩ := single_read hd'
        have : (FloatKind.f64.decode (FloatKind.f64.encode (.number s m e))).isInfinity = false := double_holds h1 h2 h3
        simp [this]
  unfold wide
  cases h : fconv .f32 .f64 x with
  | none => simp [h] at this
  | some y => rfl
end Go.VL
