/- Functions that the model carries out by itself, and conversions of floats: what they tell. -/
import Derived.Test.YtboeddbhfnlpaaaVxRec
namespace Go.VL
open Go.RowKit
set_option linter.unusedSimpArgs false
set_option linter.unusedVariables false

theorem TellsX.of {P : Program} {f : FuncId} {F : List V → Option V} {fn : Func} {e : Array Value → Sem Value} (h1 : P.funcs[f]? = some fn) (h2 : (fn.name == "runtime.NumGoroutine") = false) (h3 : fn.body.isNone = true) (h4 : Extern.findNext fn = none) (h5 : Extern.find fn = some e)
    (h : ∀ args r, F args = some r → plainV r = true ∧ ∀ (w : World) (us : List Value), Sl w (fun _ => False) noPl args us → ∃ u n, (e us.toArray).run P w = .ok u (w.drewN n) ∧ S w (fun _ => False) noPl r u) : TellsX P f F := ⟨fn, e, h1, h2, h3, h4, h5, h⟩

theorem Sl.one {w : World} {O : Nat → Prop} {φ : Pl} {v : V} {us : List Value} (h : Sl w O φ [v] us) : ∃ u, us = [u] ∧ S w O φ v u := by
  cases h with
  | cons h hs => cases hs; exact ⟨_, rfl, h⟩
theorem Sl.two {w : World} {O : Nat → Prop} {φ : Pl} {v v' : V} {us : List Value} (h : Sl w O φ [v, v'] us) : ∃ u u', us = [u, u'] ∧ S w O φ v u ∧ S w O φ v' u' := by
  cases h with
  | cons h hs =>
    obtain ⟨u', rfl, h'⟩ := hs.one
    exact ⟨_, _, rfl, h, h'⟩

/-! ### The bits of a float -/
def f32bits (x : Option Nat) : Option Int := x.map fun b => (b : Int)
def FXbits32 : List V → Option V
  | [.f .f32 (some b)] => some (.i .u32 b)
  | _ => none
theorem f32bits_F {x : Option Nat} {v : Int} (h : f32bits x = some v) : FXbits32 [.f .f32 x] = some (.i .u32 v) := by
  cases x with
  | none => cases h
  | some b => cases h; rfl
theorem xbits32 {P : Program} : ∀ args r, FXbits32 args = some r → plainV r = true ∧ ∀ (w : World) (us : List Value), Sl w (fun _ => False) noPl args us → ∃ u n, (Extern.MathFloatBits.float32bits us.toArray).run P w = .ok u (w.drewN n) ∧ S w (fun _ => False) noPl r u := by
  intro args r h
  unfold FXbits32 at h
  split at h
  · cases h
    refine ⟨rfl, fun w us hs => ?_⟩
    obtain ⟨u, rfl, hu⟩ := hs.one
    cases hu
    exact ⟨_, 0, rfl, .i⟩
  · cases h

def f32of (n : Int) : Option Nat := some n.toNat
def FXof32 : List V → Option V
  | [.i .u32 n] => some (.f .f32 (f32of n))
  | _ => none
@[simp] theorem f32of_F {n : Int} : FXof32 [.i .u32 n] = some (.f .f32 (f32of n)) := rfl
theorem xof32 {P : Program} : ∀ args r, FXof32 args = some r → plainV r = true ∧ ∀ (w : World) (us : List Value), Sl w (fun _ => False) noPl args us → ∃ u n, (Extern.MathFloatBits.float32frombits us.toArray).run P w = .ok u (w.drewN n) ∧ S w (fun _ => False) noPl r u := by
  intro args r h
  unfold FXof32 at h
  split at h
  · cases h
    refine ⟨rfl, fun w us hs => ?_⟩
    obtain ⟨u, rfl, hu⟩ := hs.one
    cases hu
    exact ⟨_, 0, rfl, .f⟩
  · cases h

def f64bits (x : Option Nat) : Option Int := x.map fun b => (b : Int)
def FXbits64 : List V → Option V
  | [.f .f64 (some b)] => some (.i .u64 b)
  | _ => none
theorem f64bits_F {x : Option Nat} {v : Int} (h : f64bits x = some v) : FXbits64 [.f .f64 x] = some (.i .u64 v) := by
  cases x with
  | none => cases h
  | some b => cases h; rfl
theorem xbits64 {P : Program} : ∀ args r, FXbits64 args = some r → plainV r = true ∧ ∀ (w : World) (us : List Value), Sl w (fun _ => False) noPl args us → ∃ u n, (Extern.MathFloatBits.float64bits us.toArray).run P w = .ok u (w.drewN n) ∧ S w (fun _ => False) noPl r u := by
  intro args r h
  unfold FXbits64 at h
  split at h
  · cases h
    refine ⟨rfl, fun w us hs => ?_⟩
    obtain ⟨u, rfl, hu⟩ := hs.one
    cases hu
    exact ⟨_, 0, rfl, .i⟩
  · cases h

def f64of (n : Int) : Option Nat := some n.toNat
def FXof64 : List V → Option V
  | [.i .u64 n] => some (.f .f64 (f64of n))
  | _ => none
@[simp] theorem f64of_F {n : Int} : FXof64 [.i .u64 n] = some (.f .f64 (f64of n)) := rfl
theorem xof64 {P : Program} : ∀ args r, FXof64 args = some r → plainV r = true ∧ ∀ (w : World) (us : List Value), Sl w (fun _ => False) noPl args us → ∃ u n, (Extern.MathFloatBits.float64frombits us.toArray).run P w = .ok u (w.drewN n) ∧ S w (fun _ => False) noPl r u := by
  intro args r h
  unfold FXof64 at h
  split at h
  · cases h
    refine ⟨rfl, fun w us hs => ?_⟩
    obtain ⟨u, rfl, hu⟩ := hs.one
    cases hu
    exact ⟨_, 0, rfl, .f⟩
  · cases h

/-! ### The nearest whole number -/
def roundE (x : Option Nat) : Option Nat := x.bind fun b => match FloatKind.f64.decode b with
  | .nan _ _ => none
  | d => some (FloatKind.f64.encode (d.integral .even))
def FXround : List V → Option V
  | [.f .f64 x] => some (.f .f64 (roundE x))
  | _ => none
@[simp] theorem roundE_F {x : Option Nat} : FXround [.f .f64 x] = some (.f .f64 (roundE x)) := rfl

theorem quiet_nan (s : Bool) (t : Nat) : (FloatKind.f64.decode (FloatKind.f64.encode (.nan s (FloatKind.f64.format.quiet t)))).isNaN = true := by
  have h1 : Ieee.double.binade = 2 ^ 52 := rfl
  have h2 : Ieee.double.signWeight = 2 ^ 63 := rfl
  have h3 : Ieee.double.infRung = 2047 * 2 ^ 52 := rfl
  show (Ieee.double.read (Ieee.double.write (.nan s (Ieee.double.quiet t)))).isNaN = true
  refine (read_nan (f := Ieee.double)).2 ?_
  have hq : 0 < (Ieee.double.quiet t) % 2 ^ 52 := by
    show 0 < (t ||| 2 ^ 51) % 2 ^ 52
    rw [Nat.or_mod_two_pow, show (2 ^ 51 % 2 ^ 52 : Nat) = 2 ^ 51 by decide]
    have : 2 ^ 51 ≤ (t % 2 ^ 52 ||| 2 ^ 51) := Nat.right_le_or
    omega
  have hq2 : (Ieee.double.quiet t) % 2 ^ 52 < 2 ^ 52 := Nat.mod_lt _ (by decide)
  unfold Ieee.Format.write Ieee.Format.word
  simp only [h1, h2, h3]
  generalize Ieee.double.quiet t % 2 ^ 52 = q at hq hq2
  split <;> omega

theorem toI_parts (nm : String) (b : Nat) : ∃ K : Ieee.Datum → Sem Value, Extern.MathFloor.toIntegral nm .even #[.float .f64 b] = K (FloatKind.f64.decode b) ∧
    (∀ s m e, K (.number s m e) = pure (.float .f64 (FloatKind.f64.encode ((Ieee.Datum.number s m e).integral .even)))) ∧ (∀ s, K (.infinity s) = pure (.float .f64 (FloatKind.f64.encode ((Ieee.Datum.infinity s).integral .even)))) ∧
    (∀ s t, K (.nan s t) = if FloatKind.f64.format.quiet t = t then pure (.float .f64 b) else (choose (.extern "math.Floor,Ceil,Trunc,RoundToEven.signallingNaN kept" 2)).bind fun kept => pure (.float .f64 (if kept == 1 then b else FloatKind.f64.encode (.nan s (FloatKind.f64.format.quiet t))))) :=
  ⟨fun d => match d with
    | .nan s t => if FloatKind.f64.format.quiet t = t then pure (.float .f64 b) else (choose (.extern "math.Floor,Ceil,Trunc,RoundToEven.signallingNaN kept" 2)).bind fun kept => pure (.float .f64 (if kept == 1 then b else FloatKind.f64.encode (.nan s (FloatKind.f64.format.quiet t))))
    | d => pure (.float .f64 (FloatKind.f64.encode (d.integral .even))), rfl, fun _ _ _ => rfl, fun _ => rfl, fun _ _ => rfl⟩

theorem xround {P : Program} (nm : String) : ∀ args r, FXround args = some r → plainV r = true ∧ ∀ (w : World) (us : List Value), Sl w (fun _ => False) noPl args us → ∃ u n, (Extern.MathFloor.toIntegral nm .even us.toArray).run P w = .ok u (w.drewN n) ∧ S w (fun _ => False) noPl r u := by
  intro args r h
  unfold FXround at h
  split at h
  · cases h
    refine ⟨rfl, fun w us hs => ?_⟩
    obtain ⟨u, rfl, hu⟩ := hs.one
    obtain ⟨b, rfl, hb⟩ := S.fr hu
    obtain ⟨K, k0, k1, k2, k3⟩ := toI_parts nm b
    rw [show [Value.float FloatKind.f64 b].toArray = #[.float .f64 b] from rfl, k0]
    cases hd : FloatKind.f64.decode b with
    | nan s t =>
      have hr : ∀ x, FR .f64 x b → roundE x = none := fun x hx => by
        rcases hx with rfl | ⟨rfl, _⟩
        · simp [roundE, hd]
        · rfl
      rw [hr _ hb, k3]
      split
      · exact ⟨_, 0, rfl, .nan (by rw [hd]; rfl)⟩
      · refine ⟨_, 1, by simp; rfl, .nan ?_⟩
        split
        · rw [hd]; rfl
        · exact quiet_nan s t
    | infinity s =>
      rw [k2]
      rcases hb with rfl | ⟨rfl, hb⟩
      · refine ⟨_, 0, rfl, ?_⟩
        simp only [roundE, hd, Option.bind_some]
        exact .f
      · rw [hd] at hb; cases hb
    | number s m e =>
      rw [k1]
      rcases hb with rfl | ⟨rfl, hb⟩
      · refine ⟨_, 0, rfl, ?_⟩
        simp only [roundE, hd, Option.bind_some]
        exact .f
      · rw [hd] at hb; cases hb
  · cases h

/-! ### Conversions -/
def fOfI (k : FloatKind) (n : Int) : Option Nat := some (k.nearest n)
def iOfF (ks : FloatKind) (k : IntKind) (x : Option Nat) : Option Int := x.bind fun b => floatToIntVal ks b k
@[simp] theorem vc_fi {A : TK} {k : FloatKind} {k' : IntKind} {n : Int} (h : A ≠ .other) : vconv A (.flt k) (.i k' n) = some (.f k (fOfI k n)) := by simp [vconv, h, fOfI]
@[simp] theorem vc_if {A : TK} {k : IntKind} {ks : FloatKind} {x : Option Nat} (h : A ≠ .other) : vconv A (.int k) (.f ks x) = (iOfF ks k x).map (.i k) := by
  simp only [vconv, if_neg h, iOfF]
  cases x.bind fun b => floatToIntVal ks b k <;> rfl
@[simp] theorem vc_wide {A : TK} {x : Option Nat} (h : A ≠ .other) : vconv A (.flt .f64) (.f .f32 x) = some (.f .f64 (wide x)) := by simp [vconv, h, fconv_wide]
@[simp] theorem vc_same {A : TK} {k : FloatKind} {x : Option Nat} (h : A ≠ .other) : vconv A (.flt k) (.f k x) = some (.f k x) := by simp [vconv, h, fconv]
def narrowF (x : Option Nat) : Option (Option Nat) := fconv .f64 .f32 x
@[simp] theorem vc_narrow {A : TK} {x : Option Nat} (h : A ≠ .other) : vconv A (.flt .f32) (.f .f64 x) = (narrowF x).map (.f .f32) := by simp [vconv, h, narrowF]
@[simp] theorem vcm_other {P : Program} {m : VM} {T D : TK} {x : V} (h : ∀ e, T ≠ .slice e) : vconvM P m T D x = vconv T D x := by
  unfold vconvM
  split
  · exact absurd rfl (h _)
  · rfl
@[simp] theorem vcm_bytes {P : Program} {m : VM} {e : Nat} {x : V} (h : tk P e = .int .u8) : vconvM P m (.slice e) .str x = (vbytes m x).map fun ns => .str (strOfNums ns) := by
  simp [vconvM, h]
end Go.VL
