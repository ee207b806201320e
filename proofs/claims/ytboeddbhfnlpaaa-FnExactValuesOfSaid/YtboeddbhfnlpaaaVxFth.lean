/- Floats: what is a number stays one, what is equal to itself, what fits an integer. -/
import Derived.Test.YtboeddbhfnlpaaaVxExt
namespace Go.VL
open Go.RowKit
set_option linter.unusedSimpArgs false
set_option linter.unusedVariables false

theorem word_mod {f : Ieee.Format} {neg : Bool} {r : Nat} (h : r < f.signWeight) : f.word neg r % f.signWeight = r := by
  unfold Ieee.Format.word
  split
  · rw [Nat.add_mod_left]; exact Nat.mod_eq_of_lt h
  · exact Nat.mod_eq_of_lt h

theorem read_num {f : Ieee.Format} {neg : Bool} {r : Nat} (h : r ≤ f.infRung) (h2 : f.infRung < f.signWeight) : (f.read (f.word neg r)).isNaN = false := by
  rw [Bool.eq_false_iff]
  intro hn
  have := read_nan.1 hn
  rw [word_mod (by omega)] at this
  omega

theorem inf_lt (k : FloatKind) : k.format.infRung < k.format.signWeight := by cases k <;> decide

theorem nearest_num (k : FloatKind) (s : Bool) (m : Nat) (e : Int) : (k.decode (k.encode (.number s m e))).isNaN = false := by
  show (k.format.read (k.format.nearest s m e)).isNaN = false
  unfold Ieee.Format.nearest
  split
  · exact read_num (by omega) (inf_lt k)
  · exact read_num (Nat.min_le_right _ _) (inf_lt k)

theorem encode_num {k : FloatKind} {d : Ieee.Datum} (h : d.isNaN = false) : (k.decode (k.encode d)).isNaN = false := by
  cases d with
  | number s m e => exact nearest_num k s m e
  | infinity s => exact read_num (Nat.le_refl _) (inf_lt k)
  | nan s t => cases h

theorem order_self {k : FloatKind} {b : Nat} (h : (k.decode b).isNaN = false) : k.format.order b b = some .eq := by
  have : ∀ d : Ieee.Datum, d.isNaN = false → d.order d = some .eq := fun d hd => by
    cases d with
    | number s m e => simp [Ieee.Datum.order]
    | infinity s => simp [Ieee.Datum.order]
    | nan s t => cases hd
  exact this _ h

theorem ford_self {k : FloatKind} {b : Nat} (h : (k.decode b).isNaN = false) : ford k (some b) (some b) = some .eq := order_self h

theorem sum_num {a b d : Ieee.Datum} (h : a.sum b = some d) : d.isNaN = false := by
  cases a <;> cases b <;> simp [Ieee.Datum.sum] at h
  · subst h; rfl
  · subst h; rfl
  · subst h; rfl
  · obtain ⟨_, rfl⟩ := h; rfl
theorem product_num {a b d : Ieee.Datum} (h : a.product b = some d) : d.isNaN = false := by
  cases a <;> cases b <;> simp [Ieee.Datum.product] at h
  · subst h; rfl
  · obtain ⟨_, rfl⟩ := h; rfl
  · obtain ⟨_, rfl⟩ := h; rfl
  · subst h; rfl
theorem quotient_num {n : Nat} {a b d : Ieee.Datum} (h : a.quotient n b = some d) : d.isNaN = false := by
  cases a <;> cases b <;> simp only [Ieee.Datum.quotient] at h
  all_goals (try split at h)
  all_goals (try split at h)
  all_goals first
    | (cases h; done)
    | (obtain rfl := Option.some.inj h; rfl)

/-- What an operation gives is a number, where it gives one. -/
theorem fop_num {op : BinOp} {k : FloatKind} {x y : Option Nat} {r : Nat} (h : fop op k x y = some r) : (k.decode r).isNaN = false := by
  unfold fop at h
  simp only [Option.bind_eq_some_iff] at h
  obtain ⟨a, _, b, _, h⟩ := h
  cases op <;> simp only [floatBits] at h
  all_goals first
    | (cases h; done)
    | (simp only [Ieee.Format.add, Ieee.Format.sub, Ieee.Format.mul, Ieee.Format.div, Option.map_eq_some_iff] at h
       obtain ⟨d, h1, rfl⟩ := h
       refine encode_num (k := k) (d := d) ?_
       first | exact sum_num h1 | exact product_num h1 | exact quotient_num h1)

theorem wide_num {b : Nat} (h : (FloatKind.f32.decode b).isNaN = false) : ∃ c, wide (some b) = some c ∧ (FloatKind.f64.decode c).isNaN = false := by
  have := fconv_wide (some b)
  unfold fconv at this
  simp only [reduceCtorEq, if_false] at this
  cases hd : FloatKind.f32.decode b with
  | nan s t => rw [hd] at h; cases h
  | infinity s =>
    rw [hd] at this
    simp only [Option.some.injEq] at this
    exact ⟨_, this.symm, encode_num (by rfl)⟩
  | number s m e =>
    rw [hd] at this
    simp only at this
    split at this
    · cases this
    · simp only [Option.some.injEq] at this
      exact ⟨_, this.symm, nearest_num _ _ _ _⟩

theorem roundE_num {b : Nat} (h : (FloatKind.f64.decode b).isNaN = false) : ∃ c, roundE (some b) = some c ∧ (FloatKind.f64.decode c).isNaN = false := by
  unfold roundE
  simp only [Option.bind_some]
  cases hd : FloatKind.f64.decode b with
  | nan s t => rw [hd] at h; cases h
  | infinity s => exact ⟨_, rfl, encode_num (by rfl)⟩
  | number s m e => exact ⟨_, rfl, encode_num (by rfl)⟩

/-! ### What fits an integer -/
theorem cut_zero_le {neg : Bool} {n d : Nat} : Ieee.Toward.zero.cut neg n d * 2 ^ d ≤ n := by
  unfold Ieee.Toward.cut
  simp only [Bool.toNat_false, Nat.add_zero]
  rw [Nat.one_shiftLeft]
  by_cases h : d ≤ n.log2 + 2
  · rw [Nat.min_eq_left h]
    exact Nat.div_mul_le_self n (2 ^ d)
  · rw [Nat.min_eq_right (by omega)]
    have : n < 2 ^ (n.log2 + 2) := Nat.lt_of_lt_of_le Nat.lt_log2_self (Nat.pow_le_pow_right (by omega) (by omega))
    rw [Nat.div_eq_of_lt this]
    simp

/-- The whole part of a number between two whole numbers lies between them. -/
theorem trunc_mag {m C : Nat} {i j : Int} (hj : j ≤ 0) (neg : Bool) (h : m * 2 ^ (i - min i j).toNat ≤ C * 2 ^ (-j).toNat * 2 ^ (j - min i j).toNat) : Ieee.Toward.zero.cut neg (m <<< i.toNat) (-i).toNat ≤ C := by
  have h1 := cut_zero_le (neg := neg) (n := m <<< i.toNat) (d := (-i).toNat)
  generalize Ieee.Toward.zero.cut neg (m <<< i.toNat) (-i).toNat = M at *
  rw [Nat.shiftLeft_eq] at h1
  have h2 : M * 2 ^ ((-i).toNat + (i - min i j).toNat) ≤ C * 2 ^ ((-j).toNat + (j - min i j).toNat + i.toNat) := by
    calc M * 2 ^ ((-i).toNat + (i - min i j).toNat) = M * 2 ^ (-i).toNat * 2 ^ (i - min i j).toNat := by rw [Nat.pow_add, Nat.mul_assoc]
      _ ≤ m * 2 ^ i.toNat * 2 ^ (i - min i j).toNat := Nat.mul_le_mul_right _ h1
      _ = m * 2 ^ (i - min i j).toNat * 2 ^ i.toNat := by rw [Nat.mul_assoc, Nat.mul_comm (2 ^ i.toNat), ← Nat.mul_assoc]
      _ ≤ C * 2 ^ (-j).toNat * 2 ^ (j - min i j).toNat * 2 ^ i.toNat := Nat.mul_le_mul_right _ h
      _ = C * 2 ^ ((-j).toNat + (j - min i j).toNat + i.toNat) := by rw [Nat.pow_add, Nat.pow_add, ← Nat.mul_assoc, ← Nat.mul_assoc]
  have h3 : (-i).toNat + (i - min i j).toNat = (-j).toNat + (j - min i j).toNat + i.toNat := by omega
  rw [h3] at h2
  exact Nat.le_of_mul_le_mul_right h2 (Nat.two_pow_pos _)

/-- Between -(C + 1) and C: it fits. -/
theorem iOfF_some {ks : FloatKind} {k : IntKind} {b lo hi : Nat} {C : Nat} {j jl : Int} (hn : (ks.decode b).isNaN = false) (hhi : ks.decode hi = .number false (C * 2 ^ (-j).toNat) j) (hlo : ks.decode lo = .number true ((C + 1) * 2 ^ (-jl).toNat) jl) (hj : j ≤ 0) (hjl : jl ≤ 0)
    (h1 : gtF ks (some b) (some hi) = false) (h2 : ltF ks (some b) (some lo) = false) (k1 : k.min ≤ -((C : Int) + 1)) (k2 : (C : Int) ≤ k.max) (k3 : k.min ≤ 0) : ∃ n, iOfF ks k (some b) = some n := by
  have h1' : ks.format.order b hi ≠ some .gt := by
    intro h; simp [gtF, ford, h] at h1
  have h2' : ks.format.order b lo ≠ some .lt := by
    intro h; simp [ltF, ford, h] at h2
  have e1 : ks.format.read hi = _ := hhi
  have e2 : ks.format.read lo = _ := hlo
  unfold iOfF
  simp only [Option.bind_some, floatToIntVal]
  simp only [Ieee.Format.order, e1, e2] at h1' h2'
  have hd : ks.decode b = ks.format.read b := rfl
  rw [hd] at hn ⊢
  cases hr : ks.format.read b with
  | nan s t => rw [hr] at hn; cases hn
  | infinity s =>
    rw [hr] at h1' h2'
    cases s <;> simp [Ieee.Datum.order] at h1' h2'
  | number s m i =>
    rw [hr] at h1' h2'
    simp only [Ieee.Datum.order, ne_eq, Option.some.injEq] at h1' h2'
    simp only [Ieee.Datum.toInt, Ieee.Datum.integral]
    have goal : ∀ z : Int, k.min ≤ z → z ≤ k.max → ∃ n, (if k.min ≤ z ∧ z ≤ k.max then some z else none) = some n := fun z a b => ⟨z, if_pos ⟨a, b⟩⟩
    cases s with
    | false =>
      have hle : m * 2 ^ (i - min i j).toNat ≤ C * 2 ^ (-j).toNat * 2 ^ (j - min i j).toNat := by
        rw [Std.compare_eq_gt] at h1'
        simp only [Ieee.signed, Bool.false_eq_true, if_false, Nat.shiftLeft_eq] at h1'
        omega
      have := trunc_mag hj false hle
      refine goal _ ?_ ?_ <;> simp only [Ieee.signed, Bool.false_eq_true, if_false, Nat.shiftLeft_zero] <;> omega
    | true =>
      have hle : m * 2 ^ (i - min i jl).toNat ≤ (C + 1) * 2 ^ (-jl).toNat * 2 ^ (jl - min i jl).toNat := by
        rw [Std.compare_eq_lt] at h2'
        simp only [Ieee.signed, if_true, Nat.shiftLeft_eq] at h2'
        omega
      have := trunc_mag hjl true hle
      refine goal _ ?_ ?_ <;> simp only [Ieee.signed, if_true, Nat.shiftLeft_zero] <;> omega
end Go.VL
