/- Operations on numbers, bools and strings: what they give, apart from memory. -/
import Derived.Test.YtboeddbhfnlpaaaVxBase
import Derived.Deep.Draws
import Derived.Laws.FloatArith
import Derived.Laws.Strings
import Derived.Laws.StructEq
import Derived.WideLaws
namespace Go.VL
open Go.RowKit

/-- What a type is, in short. Fields: offset, cells, whether it is a struct or an array. -/
inductive TK where
  | bool | int (k : IntKind) | flt (k : FloatKind) | str | ptr (e : Nat) | slice (e : Nat) | struct (fs : List (Nat × Nat × Bool)) | arr (len e : Nat) | func | iface | other
  deriving DecidableEq, Inhabited

def aggB (P : Program) (t : TypeId) : Bool :=
  match P.underlying t with
  | some (.struct _) | some (.array _ _) => true
  | _ => false

/-- The cells of a type that is there. -/
def csz (P : Program) (t : TypeId) : Nat := if (P.underlying t).isSome then P.cellsOf t else 0

def tk (P : Program) (t : TypeId) : TK :=
  match P.underlying t with
  | some .bool => .bool
  | some (.int k) => .int k
  | some (.float k) => .flt k
  | some .string => .str
  | some (.pointer e) => .ptr e
  | some (.slice e) => .slice e
  | some (.struct F) => .struct (F.toList.map fun f => (f.offset, csz P f.type, aggB P f.type))
  | some (.array n e) => .arr n e
  | some (.interface _) => .iface
  | some (.func ..) => .func
  | _ => .other

def lift1 : Value → V
  | .int k n => .i k n
  | .bool b => .b b
  | .float k x => .f k (some x)
  | .string s => .str s
  | .slice none 0 0 => .nil
  | v => if scalarB v then .s v else .any

def lift : Value → V
  | .agg cs => .agg (cs.toList.map lift1)
  | v => lift1 v

theorem S.lift1 {w : World} {O : Nat → Prop} {φ : Pl} (v : Value) : S w O φ (lift1 v) v := by
  unfold VL.lift1
  split
  · exact .i
  · exact .b
  · exact .f
  · exact .str
  · exact .nil
  · split
    · rename_i h; exact .s h
    · exact .any

theorem Sl.lift1 {w : World} {O : Nat → Prop} {φ : Pl} : ∀ (l : List Value), Sl w O φ (l.map VL.lift1) l
  | [] => .nil
  | v :: l => .cons (S.lift1 v) (Sl.lift1 l)

theorem S.lift {w : World} {O : Nat → Prop} {φ : Pl} (v : Value) : S w O φ (lift v) v := by
  unfold VL.lift
  split
  · rename_i cs
    have := S.agg (Sl.lift1 (w := w) (O := O) (φ := φ) cs.toList)
    simpa using this
  · exact S.lift1 _

/-- A float operation: 'none': some NaN. -/
def fop (op : BinOp) (k : FloatKind) (x y : Option Nat) : Option Nat := x.bind fun a => y.bind fun b => floatBits op k a b

def ford (k : FloatKind) (x y : Option Nat) : Option Ordering := x.bind fun a => y.bind fun b => k.format.order a b

def isArith : BinOp → Bool
  | .add | .sub | .mul | .quo => true
  | _ => false

def vbinF (op : BinOp) (k : FloatKind) (x y : Option Nat) : Option V :=
  match op with
  | .add | .sub | .mul | .quo => some (.f k (fop op k x y))
  | .eql => some (.b (ford k x y == some .eq))
  | .neq => some (.b (ford k x y != some .eq))
  | .lss => some (.b (ford k x y == some .lt))
  | .leq => some (.b (ford k x y == some .lt || ford k x y == some .eq))
  | .gtr => some (.b (ford k x y == some .gt))
  | .geq => some (.b (ford k x y == some .gt || ford k x y == some .eq))
  | _ => none

def vbinI (op : BinOp) (k : IntKind) (a b : Int) : Option V :=
  match op with
  | .add => some (.i k (k.wrap (a + b)))
  | .sub => some (.i k (k.wrap (a - b)))
  | .mul => some (.i k (k.wrap (a * b)))
  | .quo => if b = 0 then none else some (.i k (k.wrap (a.tdiv b)))
  | .rem => if b = 0 then none else some (.i k (a.tmod b))
  | .and => some (.i k (k.wrap (BitVec.ofInt k.bits a &&& BitVec.ofInt k.bits b).toNat))
  | .or => some (.i k (k.wrap (BitVec.ofInt k.bits a ||| BitVec.ofInt k.bits b).toNat))
  | .xor => some (.i k (k.wrap (BitVec.ofInt k.bits a ^^^ BitVec.ofInt k.bits b).toNat))
  | .andNot => some (.i k (k.wrap (BitVec.ofInt k.bits a &&& ~~~ BitVec.ofInt k.bits b).toNat))
  | .eql => some (.b (a == b))
  | .neq => some (.b (a != b))
  | .lss => some (.b (decide (a < b)))
  | .leq => some (.b (decide (a ≤ b)))
  | .gtr => some (.b (decide (b < a)))
  | .geq => some (.b (decide (b ≤ a)))
  | _ => none

def vbinS (op : BinOp) (a b : ByteArray) : Option V :=
  match op with
  | .add => if a.size + b.size ≤ 9223372036854775807 then some (.str (a ++ b)) else none
  | .eql => some (.b (a.data.toList == b.data.toList))
  | .neq => some (.b (!(a.data.toList == b.data.toList)))
  | _ => none

def vshift (op : BinOp) (k : IntKind) (a b : Int) : Option V :=
  if b < 0 then none else
  match op with
  | .shl => some (.i k (k.wrap (a * 2 ^ (min b.toNat k.bits))))
  | .shr => some (.i k (a.fdiv (2 ^ (min b.toNat k.bits))))
  | _ => none

def isShift : BinOp → Bool
  | .shl | .shr => true
  | _ => false

def vbin (T : TK) (op : BinOp) (x y : V) : Option V :=
  match x, y with
  | .i k a, .i k' b => if isShift op then vshift op k a b else if k = k' then vbinI op k a b else none
  | .f k a, .f k' b => if k = k' then vbinF op k a b else none
  | .str a, .str b => vbinS op a b
  | .b a, .b c => if T = .bool then (match op with | .eql => some (.b (a == c)) | .neq => some (.b (!(a == c))) | _ => none) else none
  | _, _ => none

def vun (op : UnOp) (x : V) : Option V :=
  match op, x with
  | .neg, .i k n => some (.i k (k.wrap (0 - n)))
  | .neg, .f k x => some (.f k (x.map (Op.negFloat k)))
  | .not, .b b => some (.b (!b))
  | _, _ => none

/-- From a float to a float of the other kind: 'none': not told (a number too great); 'some none': some NaN. -/
def fconv (ks kd : FloatKind) (x : Option Nat) : Option (Option Nat) :=
  if ks = kd then some x else
  match x with
  | none => some none
  | some b => match ks.decode b with
    | .nan _ _ => some none
    | .infinity s => some (some (kd.encode (.infinity s)))
    | .number s m e => if (kd.decode (kd.encode (.number s m e))).isInfinity then none else some (some (kd.encode (.number s m e)))

def vconv (A B : TK) (x : V) : Option V :=
  match B, x with
  | .int k, .i _ n => if A = .other then none else some (.i k (k.wrap n))
  | .flt k, .i _ n => if A = .other then none else some (.f k (some (k.nearest n)))
  | .int k, .f ks x => if A = .other then none else match x.bind fun b => floatToIntVal ks b k with | some n => some (.i k n) | none => none
  | .flt k, .f ks x => if A = .other then none else (fconv ks k x).map (.f k)
  | .str, .str s => if A = .other then none else some (.str s)
  | _, _ => none

/-! ### That the model's own operations give these -/

theorem read_nan {f : Ieee.Format} {b : Nat} : (f.read b).isNaN = true ↔ f.binade ≤ b % f.signWeight ∧ f.infRung < b % f.signWeight := by
  unfold Ieee.Format.read
  dsimp only
  split
  · simp [Ieee.Datum.isNaN]; omega
  · split
    · simp [Ieee.Datum.isNaN]; omega
    · split
      · simp [Ieee.Datum.isNaN]; omega
      · simp [Ieee.Datum.isNaN]; omega

theorem nan_word (k : FloatKind) (t : Nat) (b : Nat) (h : b = match k with | .f32 => (t % 2) * 2 ^ 31 + 0x7f800000 + 1 + (t / 2) % (2 ^ 23 - 1) | .f64 => (t % 2) * 2 ^ 63 + 0x7ff0000000000000 + 1 + (t / 2) % (2 ^ 52 - 1)) : (k.decode b).isNaN = true := by
  cases k
  · have h1 : FloatKind.f32.format.binade = 8388608 := by decide
    have h2 : FloatKind.f32.format.signWeight = 2147483648 := by decide
    have h3 : FloatKind.f32.format.infRung = 2139095040 := by decide
    have h' : b = t % 2 * 2 ^ 31 + 0x7f800000 + 1 + t / 2 % (2 ^ 23 - 1) := h
    refine read_nan.2 ?_
    rw [h1, h2, h3, h']
    have hr := Nat.mod_lt (t / 2) (show 0 < 8388607 by decide)
    have hs := Nat.mod_lt t (show 0 < 2 by decide)
    rw [show (2 ^ 23 - 1 : Nat) = 8388607 by decide]
    generalize t / 2 % 8388607 = r at *
    generalize t % 2 = s at *
    omega
  · have h1 : FloatKind.f64.format.binade = 4503599627370496 := by decide
    have h2 : FloatKind.f64.format.signWeight = 9223372036854775808 := by decide
    have h3 : FloatKind.f64.format.infRung = 9218868437227405312 := by decide
    have h' : b = t % 2 * 2 ^ 63 + 0x7ff0000000000000 + 1 + t / 2 % (2 ^ 52 - 1) := h
    refine read_nan.2 ?_
    rw [h1, h2, h3, h']
    have hr := Nat.mod_lt (t / 2) (show 0 < 4503599627370495 by decide)
    have hs := Nat.mod_lt t (show 0 < 2 by decide)
    rw [show (2 ^ 52 - 1 : Nat) = 4503599627370495 by decide]
    generalize t / 2 % 4503599627370495 = r at *
    generalize t % 2 = s at *
    omega

theorem nan_choose (k : FloatKind) (x y t : Nat) : (k.decode ((Question.nanBits k x y).cut t)).isNaN = true := nan_word k t _ (by cases k <;> rfl)

theorem nan_conv (k : FloatKind) (x t : Nat) : (k.decode ((Question.nanConv k x).cut t)).isNaN = true := nan_word k t _ (by cases k <;> rfl)

theorem isNaN_iff {d : Ieee.Datum} (h : d.isNaN = true) : ∃ s m, d = .nan s m := by
  cases d <;> simp [Ieee.Datum.isNaN] at h; exact ⟨_, _, rfl⟩

theorem floatBits_nan_left {op : BinOp} {k : FloatKind} {x y : Nat} (h : (k.decode x).isNaN = true) : floatBits op k x y = none := by
  obtain ⟨s, m, e⟩ := isNaN_iff h
  have e' : k.format.read x = .nan s m := e
  cases op <;> simp [floatBits, Ieee.Format.add, Ieee.Format.sub, Ieee.Format.mul, Ieee.Format.div, e', Ieee.Datum.sum, Ieee.Datum.product, Ieee.Datum.quotient]

theorem floatBits_nan_right {op : BinOp} {k : FloatKind} {x y : Nat} (h : (k.decode y).isNaN = true) : floatBits op k x y = none := by
  obtain ⟨s, m, e⟩ := isNaN_iff h
  have e' : k.format.read y = .nan s m := e
  cases op <;> simp [floatBits, Ieee.Format.add, Ieee.Format.sub, Ieee.Format.mul, Ieee.Format.div, e', Ieee.Datum.opposite] <;> cases k.format.read x <;> simp [Ieee.Datum.sum, Ieee.Datum.product, Ieee.Datum.quotient]

theorem order_nan_left {k : FloatKind} {x y : Nat} (h : (k.decode x).isNaN = true) : k.format.order x y = none := by
  obtain ⟨s, m, e⟩ := isNaN_iff h
  have e' : k.format.read x = .nan s m := e
  simp [Ieee.Format.order, e', Ieee.Datum.order]

theorem order_nan_right {k : FloatKind} {x y : Nat} (h : (k.decode y).isNaN = true) : k.format.order x y = none := by
  obtain ⟨s, m, e⟩ := isNaN_iff h
  have e' : k.format.read y = .nan s m := e
  simp only [Ieee.Format.order, e']
  cases k.format.read x <;> simp [Ieee.Datum.order]

/-- What is known of a float is enough for an operation. -/
def FR (k : FloatKind) (x : Option Nat) (b : Nat) : Prop := x = some b ∨ (x = none ∧ (k.decode b).isNaN = true)

theorem FR.s {w : World} {O : Nat → Prop} {φ : Pl} {k : FloatKind} {x : Option Nat} {b : Nat} (h : FR k x b) : S w O φ (.f k x) (.float k b) := by
  rcases h with rfl | ⟨rfl, h⟩
  · exact .f
  · exact .nan h

theorem S.fr {w : World} {O : Nat → Prop} {φ : Pl} {k : FloatKind} {x : Option Nat} {u : Value} (h : S w O φ (.f k x) u) : ∃ b, u = .float k b ∧ FR k x b := by
  cases h with
  | f => exact ⟨_, rfl, .inl rfl⟩
  | nan h => exact ⟨_, rfl, .inr ⟨rfl, h⟩⟩

theorem fop_fr {op : BinOp} {k : FloatKind} {x y : Option Nat} {a b : Nat} (hx : FR k x a) (hy : FR k y b) : fop op k x y = floatBits op k a b := by
  rcases hx with rfl | ⟨rfl, hx⟩
  · rcases hy with rfl | ⟨rfl, hy⟩
    · rfl
    · rw [floatBits_nan_right hy]; rfl
  · rw [floatBits_nan_left hx]; rfl

theorem ford_fr {k : FloatKind} {x y : Option Nat} {a b : Nat} (hx : FR k x a) (hy : FR k y b) : ford k x y = k.format.order a b := by
  rcases hx with rfl | ⟨rfl, hx⟩
  · rcases hy with rfl | ⟨rfl, hy⟩
    · rfl
    · rw [order_nan_right hy]; rfl
  · rw [order_nan_left hx]; rfl

theorem decode_neg {k : FloatKind} {b : Nat} (h : (k.decode b).isNaN = true) : (k.decode (Op.negFloat k b)).isNaN = true := by
  have hm : Op.negFloat k b % k.format.signWeight = b % k.format.signWeight := by
    show (b ^^^ 2 ^ (k.format.exponentBits + k.format.fractionBits)) % 2 ^ (k.format.exponentBits + k.format.fractionBits) = _
    rw [Nat.xor_mod_two_pow, Nat.mod_self, Nat.xor_zero]
    rfl
  refine read_nan.2 ?_
  rw [hm]
  exact read_nan.1 h

section
variable {P : Program} {w : World} {O : Nat → Prop} {φ : Pl}

/-- The operation gives a value as told; the world but for draws as it was. -/
def Gives (P : Program) (w : World) (O : Nat → Prop) (φ : Pl) (x : Sem Value) (v : V) : Prop := ∃ u n, x.run P w = .ok u (w.drewN n) ∧ S w O φ v u

theorem Gives.mk0 {x : Sem Value} {v : V} {u : Value} (h : x.run P w = .ok u w) (hs : S w O φ v u) : Gives P w O φ x v := ⟨u, 0, by rw [h]; rfl, hs⟩

theorem run_equal_bool {t : TypeId} {a c : Bool} (hu : P.underlying t = some .bool) : (Op.equal t (.bool a) (.bool c)).run P w = .ok (a == c) w := by
  have h : ∀ d, (Op.equalIn (d + 1) t (.bool a) (.bool c)).run P w = .ok (a == c) w := fun d => by
    simp only [Op.equalIn, Sem.run_bind, run_underlying hu, Result.andThen_ok, Sem.run_pure]
  exact h 9999

theorem vbin_sound {t : TypeId} {op : BinOp} {x y : Operand} {a b v : V} {u1 u2 : Value} (h : vbin (tk P t) op a b = some v) (h1 : S w O φ a u1) (h2 : S w O φ b u2) :
    Gives P w O φ (do eqGuard op t x y u1 u2; binOp op t u1 u2) v := by
  unfold vbin at h
  split at h
  · -- ints
    cases h1; cases h2
    rename_i k a k' b
    rw [eqGuard_at_int]
    split at h
    · rename_i hsh
      unfold vshift at h
      split at h
      · cases h
      · rename_i hb
        cases op <;> first | (cases hsh; done) | skip
        all_goals (obtain rfl := Option.some.inj h; refine .mk0 ?_ .i; simp [binOp, Op.shift, hb])
    · rename_i hsh
      split at h
      · rename_i hk
        subst hk
        cases op <;> simp only [vbinI] at h <;> first | (cases h; done) | (cases hsh rfl; done) | skip
        all_goals (try split at h)
        all_goals first | (cases h; done) | (obtain rfl := Option.some.inj h)
        all_goals first
          | (refine .mk0 ?_ .b; simp [binOp, Op.intCmp]; done)
          | (refine .mk0 ?_ .i; simp [binOp, Op.intArith]; done)
          | (refine .mk0 ?_ .i; simp [binOp, Op.intBits]; done)
          | (rename_i hz; refine .mk0 ?_ .i; simp [binOp, Op.intDiv, hz]; done)
      · cases h
  · -- floats
    rename_i k a k' b
    split at h
    · rename_i hk; subst hk
      obtain ⟨x1, rfl, hx⟩ := S.fr h1
      obtain ⟨x2, rfl, hy⟩ := S.fr h2
      rw [eqGuard_at_float]
      cases op <;> simp only [vbinF] at h <;> first | (cases h; done) | skip
      all_goals obtain rfl := Option.some.inj h
      all_goals first
        | (refine .mk0 (u := .bool _) ?_ .b; rw [ford_fr hx hy]; simp [binOp, Op.floatCmp]; done)
        | (rw [fop_fr hx hy]
           cases hr : floatBits _ k x1 x2 with
           | some r => exact .mk0 (by simpa using run_float_arith (P := P) w _ t k x1 x2 r hr) .f
           | none =>
             simp only [floatBits] at hr
             exact ⟨_, 1, by simp [binOp, Op.floatArith, hr, Question.forced]; exact ⟨rfl, rfl⟩, .nan (nan_choose k x1 x2 _)⟩)
    · cases h
  · -- strings
    cases h1; cases h2
    rename_i a b
    rw [eqGuard_at_string]
    cases op <;> simp only [vbinS] at h <;> (try split at h) <;> first | (cases h; done) | (obtain rfl := Option.some.inj h)
    · rename_i hs
      refine .mk0 (u := .string (a ++ b)) ?_ .str
      have : ¬ ((a.size + b.size : Nat) : Int) > IntKind.i64.max := by rw [IntKind.max_i64]; omega
      simp only [binOp, Op.stringOp, if_neg this]
      rfl
    · refine .mk0 ?_ .b; simp [binOp, Op.stringOp, ByteArray.toList_eq]
    · refine .mk0 ?_ .b; simp [binOp, Op.stringOp, ByteArray.toList_eq]
  · -- bools
    cases h1; cases h2
    rename_i a c
    rw [eqGuard_at_bool]
    split at h
    · rename_i hT
      have hu : P.underlying t = some .bool := by
        unfold tk at hT
        split at hT <;> first | assumption | (cases hT; done)
      cases op <;> first | (cases h; done) | (obtain rfl := Option.some.inj h)
      · refine .mk0 ?_ .b; simp [binOp, run_equal_bool hu]
      · refine .mk0 ?_ .b; simp [binOp, run_equal_bool hu]
    · cases h
  · cases h

theorem vun_sound {op : UnOp} {a v : V} {u : Value} (h : vun op a = some v) (h1 : S w O φ a u) : Gives P w O φ (Op.unary op u) v := by
  unfold vun at h
  split at h
  · cases h1; obtain rfl := Option.some.inj h
    refine .mk0 ?_ .i; simp [Op.unary, Op.intArith]
  · obtain ⟨x, rfl, hx⟩ := S.fr h1
    obtain rfl := Option.some.inj h
    refine .mk0 (u := .float _ _) (by simp only [Op.unary]; rfl) ?_
    rcases hx with rfl | ⟨rfl, hx⟩
    · exact .f
    · exact .nan (decode_neg hx)
  · cases h1; obtain rfl := Option.some.inj h
    refine .mk0 ?_ .b; simp [Op.unary]
  · cases h

theorem vconv_sound {s d : TypeId} {a v : V} {u : Value} (h : vconv (tk P s) (tk P d) a = some v) (h1 : S w O φ a u) : Gives P w O φ (convert s d u) v := by
  have und : tk P s ≠ .other → ∃ e, P.underlying s = some e := fun hs => by
    unfold tk at hs
    cases hu : P.underlying s with
    | none => simp [hu] at hs
    | some e => exact ⟨e, rfl⟩
  have undI : ∀ {k : IntKind}, tk P d = .int k → P.underlying d = some (.int k) := fun {k} hT => by
    unfold tk at hT; split at hT <;> first | (cases hT; assumption) | (cases hT; done)
  have undF : ∀ {k : FloatKind}, tk P d = .flt k → P.underlying d = some (.float k) := fun {k} hT => by
    unfold tk at hT; split at hT <;> first | (cases hT; assumption) | (cases hT; done)
  have undS : tk P d = .str → P.underlying d = some .string := fun hT => by
    unfold tk at hT; split at hT <;> first | (cases hT; assumption) | (cases hT; done)
  unfold vconv at h
  split at h
  · rename_i hT
    cases h1
    split at h
    · cases h
    · rename_i hs
      obtain ⟨e, he⟩ := und hs
      obtain rfl := Option.some.inj h
      refine .mk0 ?_ .i; simp [convert, run_underlying he, run_underlying (undI hT), Conv.intToInt]
  · rename_i hT
    cases h1
    split at h
    · cases h
    · rename_i hs
      obtain ⟨e, he⟩ := und hs
      obtain rfl := Option.some.inj h
      refine .mk0 ?_ .f; cases e <;> simp [convert, run_underlying he, run_underlying (undF hT), Conv.intToFloat]
  · rename_i hT
    obtain ⟨b, rfl, hb⟩ := S.fr h1
    split at h
    · cases h
    · rename_i hs
      obtain ⟨e, he⟩ := und hs
      split at h
      · rename_i n hn
        obtain rfl := Option.some.inj h
        rcases hb with rfl | ⟨rfl, hb⟩
        · exact .mk0 (run_convert_float_int w s d _ _ _ _ (by simp [he]) (undI hT) (by simpa using hn)) .i
        · simp at hn
      · cases h
  · rename_i hT
    obtain ⟨b, rfl, hb⟩ := S.fr h1
    split at h
    · cases h
    · rename_i kd ks x hs
      obtain ⟨e, he⟩ := und hs
      have hrun : (convert s d (.float ks b)).run P w = (Conv.floatToFloat ks b kd).run P w := by
        cases e <;> simp [convert, run_underlying he, run_underlying (undF hT)]
      unfold Gives
      rw [hrun]
      cases hf : fconv ks kd x with
      | none => simp [hf] at h
      | some y =>
        simp [hf] at h
        subst h
        unfold fconv at hf
        split at hf
        · rename_i hk
          subst hk
          obtain rfl := Option.some.inj hf
          exact ⟨_, 0, by simp [Conv.floatToFloat]; rfl, hb.s⟩
        · rename_i hk
          rcases hb with rfl | ⟨rfl, hb⟩
          · simp only at hf
            split at hf
            · rename_i _ _ hd
              obtain rfl := Option.some.inj hf
              exact ⟨_, 1, by simp [Conv.floatToFloat, hk, hd, Question.forced]; exact ⟨rfl, rfl⟩, .nan (nan_conv kd b _)⟩
            · rename_i _ hd
              obtain rfl := Option.some.inj hf
              exact ⟨_, 0, by simp [Conv.floatToFloat, hk, hd]; rfl, .f⟩
            · rename_i _ _ _ hd
              split at hf
              · cases hf
              · rename_i hi
                obtain rfl := Option.some.inj hf
                exact ⟨_, 0, by simp [Conv.floatToFloat, hk, hd, hi]; rfl, .f⟩
          · simp only at hf
            obtain rfl := Option.some.inj hf
            obtain ⟨s', m', hd⟩ := isNaN_iff hb
            exact ⟨_, 1, by simp [Conv.floatToFloat, hk, hd, Question.forced]; exact ⟨rfl, rfl⟩, .nan (nan_conv kd b _)⟩
  · rename_i hT
    cases h1
    split at h
    · cases h
    · rename_i hs
      obtain ⟨e, he⟩ := und hs
      obtain rfl := Option.some.inj h
      refine .mk0 ?_ .str; cases e <;> simp [convert, run_underlying he, run_underlying (undS hT)]
  · cases h
end
/-! ### Equality of structs of whole numbers; of interfaces and nil -/
def intFields (P : Program) : List Field → Nat → Bool
  | [], _ => true
  | f :: fs, i => f.name != "_" && f.offset == i && P.plainKey f.type && (match P.underlying f.type with | some (.int _) => true | _ => false) && intFields P fs (i + 1)
/-- A struct of n whole numbers. -/
def aeqOk (P : Program) (t : TypeId) (n : Nat) : Bool := match P.underlying t with
  | some (.struct fs) => fs.size == n && intFields P fs.toList 0 && !P.stoodInHeld t && !P.eqGuardType P.depth t
  | _ => false
def eqIs : List V → List V → Option Bool
  | [], [] => some true
  | .i k a :: xs, .i k' b :: ys => if k = k' then (eqIs xs ys).map fun r => (a == b) && r else none
  | _, _ => none
def vaeq (P : Program) (t : TypeId) (op : BinOp) (xs ys : List V) : Option V :=
  if aeqOk P t xs.length = true then match op with
    | .eql => (eqIs xs ys).map .b
    | .neq => (eqIs xs ys).map fun r => .b (!r)
    | _ => none
  else none
def constB : Operand → Bool
  | .const _ => true
  | _ => false
def ifaceB (P : Program) (t : TypeId) : Bool := match P.underlying t with
  | some (.interface _) => true
  | _ => false
def vnil (P : Program) (t : TypeId) (op : BinOp) (r : Bool) : Option V :=
  if ifaceB P t = true then match op with
    | .eql => some (.b r)
    | .neq => some (.b (!r))
    | _ => none
  else none
/-- An operation on two values, in all. -/
def vbinP (P : Program) (t : TypeId) (op : BinOp) (_x y : Operand) (a b : V) : Option V :=
  match a, b with
  | .agg xs, .agg ys => vaeq P t op xs ys
  | .err, .s .nilIface => vnil P t op false
  | .s .nilIface, .s .nilIface => if constB y = true then vnil P t op true else none
  | a, b => vbin (tk P t) op a b

section
variable {P : Program} {w : World} {O : Nat → Prop} {φ : Pl}
theorem eqFields_ints {d : Nat} {A A' : Array Value} : ∀ {fs : List Field} {i : Nat} {xs ys : List V} {r : Bool}, intFields P fs i = true → fs.length = xs.length → eqIs xs ys = some r → Sl w O φ xs (A.toList.drop i) → Sl w O φ ys (A'.toList.drop i) → (Op.eqFields (d + 1) A A' fs).run P w = .ok r w
  | [], _, [], [], r, _, _, he, _, _ => by
    cases he
    rfl
  | f :: fs, i, x :: xs, y :: ys, r, hf, hl, he, hx, hy => by
    simp only [intFields, Bool.and_eq_true, bne_iff_ne, ne_eq, beq_iff_eq] at hf
    obtain ⟨⟨⟨⟨f1, f2⟩, f3⟩, f4⟩, f5⟩ := hf
    have hu : ∃ k, P.underlying f.type = some (.int k) := by
      split at f4
      · exact ⟨_, ‹_›⟩
      · cases f4
    obtain ⟨k0, hu⟩ := hu
    subst f2
    unfold eqIs at he
    split at he
    · rename_i h; cases h
    · rename_i k a xs' k' b ys' e1 e2
      cases e1
      cases e2
      split at he
      · rename_i hk
        subst hk
        simp only [Option.map_eq_some_iff] at he
        obtain ⟨r', he', rfl⟩ := he
        obtain ⟨u, g1, g2⟩ := hx.get (i := 0) rfl
        obtain ⟨u', g3, g4⟩ := hy.get (i := 0) rfl
        cases g2
        cases g4
        have p1 : A[f.offset]? = some (.int k a) := by simpa using g1
        have p2 : A'[f.offset]? = some (.int k b) := by simpa using g3
        have hx' : Sl w O φ xs (A.toList.drop (f.offset + 1)) := by simpa using hx.drop 1
        have hy' : Sl w O φ ys (A'.toList.drop (f.offset + 1)) := by simpa using hy.drop 1
        have ih := eqFields_ints (d := d) f5 (by simpa using hl) he' hx' hy'
        simp only [Op.eqFields, if_pos f1, Sem.run_bind, run_part_plain w f3 p1, run_part_plain w f3 p2, Result.andThen_ok, run_equalIn_int w d f.type k k0 a b hu, Sem.run_ite]
        cases hab : a == b
        · simp
        · simpa using ih
      · cases he
    · cases he
  | [], _, [], _ :: _, r, _, _, he, _, _ => by cases he
  | [], _, _ :: _, _, r, _, hl, _, _, _ => by simp at hl
  | _ :: _, _, [], _, r, _, hl, _, _, _ => by simp at hl
  | _ :: _, _, x :: _, [], r, _, _, he, _, _ => by cases x <;> cases he

theorem vbinP_sound {t : TypeId} {op : BinOp} {x y : Operand} {a b v : V} {u1 u2 : Value} (h : vbinP P t op x y a b = some v) (h1 : S w O φ a u1) (h2 : S w O φ b u2) :
    Gives P w O φ (do eqGuard op t x y u1 u2; binOp op t u1 u2) v := by
  unfold vbinP at h
  split at h
  · rename_i xs ys
    cases h1 with
    | agg h1 =>
    cases h2 with
    | agg h2 =>
    rename_i us us'
    unfold vaeq at h
    split at h
    · rename_i hok
      unfold aeqOk at hok
      split at hok
      · rename_i fs hu
        simp only [Bool.and_eq_true, beq_iff_eq, Bool.not_eq_true'] at hok
        obtain ⟨⟨⟨k1, k2⟩, k3⟩, k4⟩ := hok
        have hfo : P.fieldsOf t = fs := by unfold Program.fieldsOf; rw [hu]
        have key : ∀ r, eqIs xs ys = some r → (Op.equalIn 10000 t (.agg us.toArray) (.agg us'.toArray)).run P w = .ok r w := fun r hr => by
          rw [run_equalIn_agg w 9999 t _ _ (by rw [hfo]; exact hu) k3, hfo]
          exact eqFields_ints (d := 9998) k2 (by simpa using k1) hr (by simpa using h1) (by simpa using h2)
        split at h
        · simp only [Option.map_eq_some_iff] at h
          obtain ⟨r, hr, rfl⟩ := h
          refine .mk0 (u := .bool r) ?_ .b
          simp only [Sem.run_bind, run_eqGuard_agg w _ t x y _ _ k4, Result.andThen_ok, run_eql_struct, key r hr]
        · simp only [Option.map_eq_some_iff] at h
          obtain ⟨r, hr, rfl⟩ := h
          refine .mk0 (u := .bool (!r)) ?_ .b
          simp only [Sem.run_bind, run_eqGuard_agg w _ t x y _ _ k4, Result.andThen_ok, run_neq_struct, key r hr]
        · cases h
      · cases hok
    · cases h
  · cases h1
    cases h2
    rename_i u tt _
    unfold vnil at h
    split at h
    · rename_i hi
      have hu : P.underlying t = some (.interface (P.methodsAt t)) := by
        unfold ifaceB at hi
        split at hi
        · rename_i ms hm; unfold Program.methodsAt; rw [hm]
        · cases hi
      split at h
      · cases h
        refine .mk0 (u := .bool false) ?_ .b
        rw [eqGuard_at_iface]
        simp [binOp, run_equal_held_nil w t _ _ hu]
      · cases h
        refine .mk0 (u := .bool true) ?_ .b
        rw [eqGuard_at_iface]
        simp [binOp, run_equal_held_nil w t _ _ hu]
      · cases h
    · cases h
  · cases h1
    cases h2
    split at h
    · rename_i hc
      unfold vnil at h
      split at h
      · rename_i hi
        have hu : P.underlying t = some (.interface (P.methodsAt t)) := by
          unfold ifaceB at hi
          split at hi
          · rename_i ms hm; unfold Program.methodsAt; rw [hm]
          · cases hi
        have hg : eqGuard op t x y .nilIface .nilIface = pure () := by
          cases y <;> first | (cases hc; done) | skip
          cases op <;> simp [eqGuard]
        split at h
        · cases h
          refine .mk0 (u := .bool true) ?_ .b
          rw [hg]
          simp [binOp, run_equal_nil_nil w t hu]
        · cases h
          refine .mk0 (u := .bool false) ?_ .b
          rw [hg]
          simp [binOp, run_equal_nil_nil w t hu]
        · cases h
      · cases h
    · cases h
  · exact vbin_sound h h1 h2
end
end Go.VL
