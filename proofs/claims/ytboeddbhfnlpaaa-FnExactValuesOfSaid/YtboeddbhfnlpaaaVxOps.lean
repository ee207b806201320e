/- Operations that leave memory as it is: loads, addresses, parts. -/
import Derived.Test.YtboeddbhfnlpaaaVxMem
namespace Go.VL
set_option linter.unusedSimpArgs false
set_option linter.unusedVariables false
open Go.RowKit

/-- The cells that a pointer leads to, and which of them. -/
def vrd (m : VM) : V → Option (List V × Nat)
  | .ptr b e j => match m[b]? with | some (some (_, es)) => (es[e]?).map fun cs => (cs, j) | _ => none
  | .cptr cs j => some (cs, j)
  | _ => none

/-- What is its own, read. -/
def un1 : V → V
  | .own n es => .sl n (frzE es)
  | v => v
def unT : V → V
  | .agg cs => .agg (cs.map un1)
  | v => un1 v
theorem S.un1 {w : World} {O : Nat → Prop} {φ : Pl} {v : V} {u : Value} (h : S w O φ v u) : S w O φ (VL.un1 v) u := by
  unfold VL.un1
  split
  · cases h with
    | own h => exact h.lax
  · exact h
theorem Sl.un1 {w : World} {O : Nat → Prop} {φ : Pl} : ∀ {vs : List V} {us : List Value}, Sl w O φ vs us → Sl w O φ (vs.map VL.un1) us
  | _, _, .nil => .nil
  | _, _, .cons h hs => .cons h.un1 (Sl.un1 hs)
theorem S.unT {w : World} {O : Nat → Prop} {φ : Pl} {v : V} {u : Value} (h : S w O φ v u) : S w O φ (VL.unT v) u := by
  unfold VL.unT
  split
  · cases h with
    | agg h => exact .agg h.un1
  · exact h.un1

def vload0 (P : Program) (m : VM) (t : TypeId) (x : V) : Option V :=
  (vrd m x).bind fun (cs, j) =>
    match tk P t with
    | .struct _ | .arr _ _ => if j + P.cellsOf t ≤ cs.length then some (.agg ((cs.drop j).take (P.cellsOf t))) else none
    | .other => none
    | _ => cs[j]?

def vload (P : Program) (m : VM) (t : TypeId) (x : V) : Option V := (vload0 P m t x).map unT

def vfieldAddr (T : TK) (x : V) (f : Nat) : Option V :=
  match T with
  | .struct fs => match fs[f]? with
    | some (off, n, _) => if n = 0 then none else match x with
      | .ptr b e j => some (.ptr b e (j + off))
      | .cptr cs j => some (.cptr cs (j + off))
      | _ => none
    | none => none
  | _ => none

def vfield (T : TK) (x : V) (f : Nat) : Option V :=
  match T, x with
  | .struct fs, .agg cs => match fs[f]? with
    | some (off, n, true) => if off + n ≤ cs.length then some (.agg ((cs.drop off).take n)) else none
    | some (off, n, false) => if n = 0 then none else cs[off]?
    | none => none
  | _, _ => none

/-- The address of element k. -/
def vidx (P : Program) (m : VM) (T : TK) (x : V) (k : Nat) : Option V :=
  match T, x with
  | .slice e, .sl n es => if P.cellsOf e = n ∧ n ≠ 0 then (es[k]?).map fun cs => .cptr cs 0 else none
  | .slice e, .ref b e0 len => match m[b]? with
    | some (some (n, _)) => if k < len ∧ P.cellsOf e = n ∧ n ≠ 0 then some (.ptr b (e0 + k) 0) else none
    | _ => none
  | .slice e, .refc b e0 j n len => if k < len ∧ P.cellsOf e = n ∧ n ≠ 0 then some (.ptr b e0 (j + k * n)) else none
  | .arr len e, .ptr b e0 j => if k < len ∧ P.cellsOf e ≠ 0 then some (.ptr b e0 (j + k * P.cellsOf e)) else none
  | .arr len e, .cptr cs j => if k < len ∧ P.cellsOf e ≠ 0 then some (.cptr cs (j + k * P.cellsOf e)) else none
  | _, _ => none

/-- Element k of an array or a string by value. -/
def vindex (P : Program) (T : TK) (x : V) (k : Nat) : Option V :=
  match T, x with
  | .arr len e, .agg cs => if k < len ∧ csz P e ≠ 0 then
      (if aggB P e then (if k * csz P e + csz P e ≤ cs.length then some (.agg ((cs.drop (k * csz P e)).take (csz P e))) else none) else cs[k * csz P e]?) else none
  | .str, .str s => (s.data.toList[k]?).map fun c => .i .u8 c.toNat
  | _, _ => none

def natOf : V → Option Nat
  | .i _ q => if 0 ≤ q then some q.toNat else none
  | _ => none

/-- A bound of a slice expression: its number, or what stands for it. -/
def vbound (x : Option V) (d : Nat) : Option Nat :=
  match x with
  | none => some d
  | some v => natOf v

def chunks (n : Nat) : Nat → List V → List (List V)
  | 0, _ => []
  | k + 1, cs => cs.take n :: chunks n k (cs.drop n)

def vslice (P : Program) (m : VM) (T : TK) (x : V) (lo hi : Option V) : Option V :=
  (vbound lo 0).bind fun l =>
  match T, x with
  | .str, .str s => (vbound hi s.size).bind fun h => if l ≤ h ∧ h ≤ s.size then some (.str (s.extract l h)) else none
  | .slice e, .nil => (vbound hi 0).bind fun h => if P.cellsOf e ≠ 0 ∧ l = 0 ∧ h = 0 then some .nil else none
  | .slice e, .sl n es => (vbound hi es.length).bind fun h => if l ≤ h ∧ h ≤ es.length ∧ P.cellsOf e = n ∧ n ≠ 0 then some (.sl n ((es.drop l).take (h - l))) else none
  | .slice e, .ref b e0 len => match m[b]? with
    | some (some (n, _)) => (vbound hi len).bind fun h => if l ≤ h ∧ h ≤ len ∧ P.cellsOf e = n ∧ n ≠ 0 then some (.ref b (e0 + l) (h - l)) else none
    | _ => none
  | .slice e, .refc b e0 j n len => (vbound hi len).bind fun h => if l ≤ h ∧ h ≤ len ∧ P.cellsOf e = n ∧ n ≠ 0 then some (.refc b e0 (j + l * n) n (h - l)) else none
  | .arr len e, .ptr b e0 j => (vbound hi len).bind fun h => if l ≤ h ∧ h ≤ len ∧ P.cellsOf e ≠ 0 then some (.refc b e0 (j + l * P.cellsOf e) (P.cellsOf e) (h - l)) else none
  | .arr len e, .cptr cs j => (vbound hi len).bind fun h => if l ≤ h ∧ h ≤ len ∧ P.cellsOf e ≠ 0 ∧ j + len * P.cellsOf e ≤ cs.length then some (.sl (P.cellsOf e) (chunks (P.cellsOf e) (h - l) (cs.drop (j + l * P.cellsOf e)))) else none
  | _, _ => none

def vlen (T : TK) (x : V) : Option V :=
  match T, x with
  | .str, .str s => some (.i .i64 s.size)
  | .slice _, .nil => some (.i .i64 0)
  | .slice _, .sl _ es => some (.i .i64 es.length)
  | .slice _, .ref _ _ len => some (.i .i64 len)
  | .slice _, .refc _ _ _ _ len => some (.i .i64 len)
  | .arr n _, _ => some (.i .i64 n)
  | _, _ => none

section
variable {P : Program} {N : Fr} {w : World} {φ : Pl} {m : VM}

theorem tk_struct {t : TypeId} {fs : List (Nat × Nat × Bool)} (h : tk P t = .struct fs) : ∃ F, P.underlying t = some (.struct F) ∧ fs = F.toList.map fun f => (f.offset, csz P f.type, aggB P f.type) := by
  unfold tk at h; split at h <;> first | (cases h; done) | skip
  rename_i F hu
  cases h; exact ⟨F, hu, rfl⟩

theorem tk_slice {t e : TypeId} (h : tk P t = .slice e) : P.underlying t = some (.slice e) := by
  unfold tk at h; split at h <;> first | (cases h; assumption) | (cases h; done)

theorem tk_arr {t e : TypeId} {n : Nat} (h : tk P t = .arr n e) : P.underlying t = some (.array n e) := by
  unfold tk at h; split at h <;> first | (cases h; assumption) | (cases h; done)

theorem tk_str {t : TypeId} (h : tk P t = .str) : P.underlying t = some .string := by
  unfold tk at h; split at h <;> first | (cases h; assumption) | (cases h; done)

theorem tk_agg {t : TypeId} (h : aggB P t = true) : (∃ fs, tk P t = .struct fs) ∨ ∃ n e, tk P t = .arr n e := by
  unfold aggB at h
  split at h
  · rename_i F hu; exact .inl ⟨_, by simp only [tk, hu]; rfl⟩
  · rename_i n e hu; exact .inr ⟨n, e, by simp only [tk, hu]⟩
  · cases h

theorem S.ptr' {O : Nat → Prop} {b e j pb po bn x : Nat} (hφ : φ b = some (pb, po, bn)) (hx : x = po + e * bn + j) : S w O φ (.ptr b e j) (.pointer (some ⟨pb, x, none⟩)) := hx ▸ .ptr hφ
theorem S.cptr' {O : Nat → Prop} {cs : List V} {b j off x : Nat} (h : Ss w O noPl b off cs) (hx : x = off + j) : S w O φ (.cptr cs j) (.pointer (some ⟨b, x, none⟩)) := hx ▸ .cptr h
theorem S.ref' {O : Nat → Prop} {b e len pb po bn cap x : Nat} (hφ : φ b = some (pb, po, bn)) (hc : len ≤ cap) (hr : Room w pb (po + (e + cap) * bn)) (hx : x = po + e * bn) : S w O φ (.ref b e len) (.slice (some ⟨pb, x, none⟩) len cap) := hx ▸ .ref hφ hc hr
theorem S.refc' {O : Nat → Prop} {b e j n len pb po bn cap x : Nat} (hφ : φ b = some (pb, po, bn)) (hc : len ≤ cap) (hx : x = po + e * bn + j) : S w O φ (.refc b e j n len) (.slice (some ⟨pb, x, none⟩) len cap) := hx ▸ .refc hφ hc

theorem run_sizeOf' {e : TypeId} (h : P.cellsOf e ≠ 0) : (sizeOf e).run P w = .ok (P.cellsOf e) w := by
  unfold Program.cellsOf at h
  cases hi : P.info? e with
  | none => simp [hi] at h
  | some i => exact run_sizeOf w hi

theorem csz_some {t : TypeId} (h : csz P t ≠ 0) : csz P t = P.cellsOf t ∧ P.cellsOf t ≠ 0 ∧ ∃ d, P.underlying t = some d := by
  unfold csz at *
  split at h
  · rename_i hs
    exact ⟨if_pos hs, h, Option.isSome_iff_exists.1 hs⟩
  · cases h rfl

theorem csz_of {t : TypeId} {d : TypeDesc} (h : P.underlying t = some d) : csz P t = P.cellsOf t := by
  simp [csz, h]

theorem run_isAgg' {t : TypeId} {d : TypeDesc} (h : P.underlying t = some d) : (isAgg t).run P w = .ok (aggB P t) w := by
  unfold aggB isAgg
  simp only [Sem.run_bind, run_underlying h, Result.andThen_ok, h]
  cases d <;> rfl

/-- Where a pointer's cells lie. -/
theorem vrd_cells {x : V} {cs : List V} {j : Nat} {u : Value} (h : vrd m x = some (cs, j)) (hx : S w (Live φ m) φ x u) (hm : Mem N w φ m) :
    ∃ pb o, u = .pointer (some ⟨pb, o + j, none⟩) ∧ ∀ (i : Nat) (v : V), cs[i]? = some v → ∃ z, w.cell? ⟨pb, o + i, none⟩ = some z ∧ S w (Live φ m) φ v z := by
  unfold vrd at h
  split at h
  · split at h
    · rename_i b e j' _ n es hb
      cases he : es[e]? with
      | none => simp [he] at h
      | some cs' =>
        simp [he] at h
        obtain ⟨rfl, rfl⟩ := h
        cases hx with
        | ptr hφ' =>
          obtain ⟨hl, pb, po, c, t, hφ, hp, hle, hcell⟩ := hm.at_ b n es _ hb hφ'
          rw [hφ] at hφ'
          simp at hφ'
          obtain ⟨rfl, rfl, rfl⟩ := hφ'
          refine ⟨pb, po + e * n, rfl, fun i v hi => ?_⟩
          obtain ⟨z, a1, _, a3⟩ := hcell (e * n + i) v (flatten_get hl he hi)
          refine ⟨z, ?_, a3⟩
          simp [World.cell?, hp]
          rw [show po + e * n + i = po + (e * n + i) by omega]
          exact a1
    · cases h
  · simp at h
    obtain ⟨rfl, rfl⟩ := h
    cases hx with
    | cptr hs =>
      rename_i b off
      refine ⟨b, off, rfl, fun i v hi => ?_⟩
      obtain ⟨z, a1, _, a3⟩ := hs.get hi
      exact ⟨z, a1, a3.lax⟩
  · cases h

theorem vload0_run {t : TypeId} {x v : V} {u : Value} (h : vload0 P m t x = some v) (hx : S w (Live φ m) φ x u) (hm : Mem N w φ m) : ∃ z, (Instr.loadAt t u).run P w = .ok z w ∧ S w (Live φ m) φ v z := by
  unfold vload0 at h
  cases hr : vrd m x with
  | none => simp [hr] at h
  | some p =>
    obtain ⟨cs, j⟩ := p
    simp only [hr, Option.bind_some] at h
    obtain ⟨pb, o, rfl, hc⟩ := vrd_cells hr hx hm
    cases hu : P.underlying t with
    | none => simp [tk, hu] at h
    | some d =>
      have hload : (Instr.loadAt t (.pointer (some ⟨pb, o + j, none⟩))).run P w = (loadVar t ⟨pb, o + j, none⟩).run P w := by
        simp [Instr.loadAt, Instr.sureAddr]
      have agg : aggB P t = true → j + P.cellsOf t ≤ cs.length → ∃ z, (Instr.loadAt t (.pointer (some ⟨pb, o + j, none⟩))).run P w = .ok z w ∧ S w (Live φ m) φ (.agg ((cs.drop j).take (P.cellsOf t))) z := by
        intro ha hle
        obtain ⟨us, h1, h2, h3⟩ := exists_row (Q := fun i z => w.cell? ⟨pb, o + i, none⟩ = some z) (w := w) (O := Live φ m) (φ := φ) ((cs.drop j).take (P.cellsOf t)) j (fun i v hi => by
          rw [List.getElem?_take] at hi
          split at hi
          · rw [List.getElem?_drop] at hi
            exact hc (j + i) v hi
          · cases hi)
        obtain ⟨i, hi⟩ := info_of_underlying hu
        have hlen : us.length = P.cellsOf t := by rw [h1]; simp; omega
        have hrow := run_loadCells_list (P := P) w ⟨pb, o + j, none⟩ us (fun k v hk => by
          rw [Addr.add_lit]
          have := h3 k v hk
          rwa [show o + (j + k) = o + j + k by omega] at this)
        refine ⟨.agg us.toArray, ?_, .agg h2⟩
        rw [hload]
        unfold loadVar
        simp only [Sem.run_bind, run_isAgg' hu, Result.andThen_ok, ha, if_true, run_sizeOf w hi, ← hlen, hrow, Sem.run_pure]
      have one : aggB P t = false → ∀ v, cs[j]? = some v → ∃ z, (Instr.loadAt t (.pointer (some ⟨pb, o + j, none⟩))).run P w = .ok z w ∧ S w (Live φ m) φ v z := by
        intro ha v hv
        obtain ⟨z, a1, a2⟩ := hc j v hv
        refine ⟨z, ?_, a2⟩
        rw [hload]
        unfold loadVar
        simp [run_isAgg' hu, ha, a1]
      split at h
      · split at h
        · obtain rfl := Option.some.inj h
          rename_i hT _
          obtain ⟨F, hF, _⟩ := tk_struct hT
          exact agg (by unfold aggB; rw [hF]) (by assumption)
        · cases h
      · split at h
        · obtain rfl := Option.some.inj h
          rename_i hT _
          exact agg (by unfold aggB; rw [tk_arr hT]) (by assumption)
        · cases h
      · cases h
      · rename_i h1 h2 h3
        refine one ?_ v h
        cases ha : aggB P t with
        | false => rfl
        | true =>
          exfalso
          rcases tk_agg ha with ⟨fs, hT⟩ | ⟨n, e, hT⟩
          · exact h1 fs hT
          · exact h2 n e hT

theorem vload_run {t : TypeId} {x v : V} {u : Value} (h : vload P m t x = some v) (hx : S w (Live φ m) φ x u) (hm : Mem N w φ m) : ∃ z, (Instr.loadAt t u).run P w = .ok z w ∧ S w (Live φ m) φ v z := by
  unfold vload at h
  rw [Option.map_eq_some_iff] at h
  obtain ⟨v0, h0, rfl⟩ := h
  obtain ⟨z, h1, h2⟩ := vload0_run h0 hx hm
  exact ⟨z, h1, h2.unT⟩

theorem vload_sound {t : TypeId} {x v : V} {u : Value} (h : vload P m t x = some v) (hx : S w (Live φ m) φ x u) (hm : Mem N w φ m) : Gives P w (Live φ m) φ (Instr.loadAt t u) v := by
  obtain ⟨z, h1, h2⟩ := vload_run h hx hm
  exact .mk0 h1 h2

theorem vfieldAddr_sound {t : TypeId} {x v : V} {u : Value} {f : Nat} (h : vfieldAddr (tk P t) x f = some v) (hx : S w (Live φ m) φ x u) : Gives P w (Live φ m) φ (Instr.fieldAt t u f) v := by
  unfold vfieldAddr at h
  split at h
  · rename_i fs hT
    obtain ⟨F, hu, rfl⟩ := tk_struct hT
    split at h
    · rename_i off n ag hf
      split at h
      · cases h
      · rename_i hn
        rw [List.getElem?_map] at hf
        cases hF : F[f]? with
        | none => simp [hF] at hf
        | some fd =>
          simp [hF] at hf
          obtain ⟨rfl, rfl, rfl⟩ := hf
          have run : ∀ a : Addr, a.spot = none → (Instr.fieldAt t (.pointer (some a)) f).run P w = .ok (.pointer (some { a with off := a.off + fd.offset })) w := fun a ha => by
            simp [Instr.fieldAt, run_underlying hu, hF, Instr.sureAddr, fieldPlace, run_sizeOf' (csz_some hn).2.1, (csz_some hn).2.1, Addr.add]
            cases a; split <;> simp_all
          split at h
          · obtain rfl := Option.some.inj h
            cases hx with
            | ptr hφ => exact .mk0 (run _ rfl) (.ptr' hφ (by simp only; omega))
          · obtain rfl := Option.some.inj h
            cases hx with
            | cptr hs => exact .mk0 (run _ rfl) (.cptr' hs (by simp only; omega))
          · cases h
    · cases h
  · cases h

theorem vfield_sound {t : TypeId} {x v : V} {u : Value} {f : Nat} (h : vfield (tk P t) x f = some v) (hx : S w (Live φ m) φ x u) : Gives P w (Live φ m) φ (Instr.field t u f) v := by
  unfold vfield at h
  split at h
  · rename_i fs cs hT
    obtain ⟨F, hu, rfl⟩ := tk_struct hT
    cases hx with
    | agg hs =>
      rename_i us
      have key : ∀ fd, F[f]? = some fd → ∀ v, (part fd.type us.toArray fd.offset).run P w = .ok v w → (Instr.field t (.agg us.toArray) f).run P w = .ok v w := fun fd hF v hp => by
        simp [Instr.field, run_underlying hu, hF, asAgg, hp]
      split at h
      · rename_i off n hf
        split at h
        · rename_i hle
          obtain rfl := Option.some.inj h
          rw [List.getElem?_map] at hf
          cases hF : F[f]? with
          | none => simp [hF] at hf
          | some fd =>
            simp [hF] at hf
            obtain ⟨rfl, rfl, ha⟩ := hf
            obtain ⟨d, hd⟩ : ∃ d, P.underlying fd.type = some d := by
              unfold aggB at ha; split at ha <;> first | exact ⟨_, ‹_›⟩ | (cases ha; done)
            obtain ⟨i, hi⟩ := info_of_underlying hd
            rw [csz_of hd]
            refine .mk0 (key fd hF (.agg ((us.drop fd.offset).take (P.cellsOf fd.type)).toArray) ?_) (.agg ((hs.drop _).take _))
            unfold part
            simp only [Sem.run_bind, run_isAgg' hd, Result.andThen_ok, ha, if_true, run_sizeOf w hi, Sem.run_pure]
            congr 2
            apply Array.ext'
            simp [List.take_drop]
        · cases h
      · rename_i off n hf
        split at h
        · cases h
        · rename_i hn
          rw [List.getElem?_map] at hf
          cases hF : F[f]? with
          | none => simp [hF] at hf
          | some fd =>
            simp [hF] at hf
            obtain ⟨rfl, rfl, ha⟩ := hf
            obtain ⟨z, hz, hzs⟩ := hs.get h
            obtain ⟨d, hd⟩ := (csz_some hn).2.2
            refine .mk0 (key fd hF z ?_) hzs
            unfold part
            simp [run_isAgg' hd, ha, hz]
      · cases h
  · cases h

theorem natOf_int {x : V} {n : Nat} {u : Value} (h : natOf x = some n) (hx : S w (Live φ m) φ x u) : ∃ k, u = .int k (n : Int) := by
  unfold natOf at h
  split at h
  · split at h
    · rename_i hq
      obtain rfl := Option.some.inj h
      cases hx
      exact ⟨_, by rw [Int.toNat_of_nonneg hq]⟩
    · cases h
  · cases h

theorem vidx_sound {t : TypeId} {x i v : V} {u ui : Value} {k : Nat} (h : vidx P m (tk P t) x k = some v) (hi : natOf i = some k) (hx : S w (Live φ m) φ x u) (hxi : S w (Live φ m) φ i ui) (hm : Mem N w φ m) : Gives P w (Live φ m) φ (Instr.indexAt t u ui) v := by
  obtain ⟨q, rfl⟩ := natOf_int hi hxi
  have sl : ∀ (e : TypeId) (a : Addr) (len cap : Nat), P.underlying t = some (.slice e) → k < len → P.cellsOf e ≠ 0 → a.spot = none → (Instr.indexAt t (.slice (some a) len cap) (.int q (k : Int))).run P w = .ok (.pointer (some { a with off := a.off + k * P.cellsOf e })) w := fun e a len cap hu hk hn ha => by
    have h1 : (0 : Int) ≤ (k : Int) ∧ (k : Int) < (len : Int) := by omega
    simp [Instr.indexAt, run_underlying hu, asIntOf, hk, run_sizeOf' hn, Addr.add]
    cases a; split <;> simp_all
  have ar : ∀ (e : TypeId) (a : Addr) (len : Nat), P.underlying t = some (.array len e) → k < len → P.cellsOf e ≠ 0 → a.spot = none → (Instr.indexAt t (.pointer (some a)) (.int q (k : Int))).run P w = .ok (.pointer (some { a with off := a.off + k * P.cellsOf e })) w := fun e a len hu hk hn ha => by
    simp [Instr.indexAt, run_underlying hu, asIntOf, hk, run_sizeOf' hn, Addr.add, Instr.sureAddr]
    cases a; split <;> simp_all
  unfold vidx at h
  split at h
  · rename_i e n es hT
    split at h
    · rename_i hn
      obtain ⟨rfl, hn⟩ := hn
      cases he : es[k]? with
      | none => simp [he] at h
      | some cs =>
        simp [he] at h
        subst h
        cases hx with
        | sl hl hlen hc hs =>
          have hk : k < es.length := (List.getElem?_eq_some_iff.1 he).1
          refine .mk0 (sl e _ _ _ (tk_slice hT) (by omega) hn rfl) ?_
          have h2 := (hs.drop (k * P.cellsOf e)).take (P.cellsOf e)
          rw [flatten_drop_take hl he] at h2
          exact .cptr' h2 (by simp)
        | sl0 => simp at he
        | slnil => simp at he
    · cases h
  · rename_i e b e0 len hT
    split at h
    · rename_i n es hb
      split at h
      · rename_i hk
        obtain ⟨hk, rfl, hn⟩ := hk
        obtain rfl := Option.some.inj h
        cases hx with
        | ref hφ' hc hr =>
          obtain ⟨_, pb, po, c, t', hφ, _⟩ := hm.at_ b _ es _ hb hφ'
          rw [hφ] at hφ'
          simp at hφ'
          obtain ⟨rfl, rfl, rfl⟩ := hφ'
          refine .mk0 (sl e _ _ _ (tk_slice hT) hk hn rfl) (.ptr' hφ ?_)
          simp only [Nat.add_mul]; omega
        | ref0 => omega
        | refnil => omega
      · cases h
    · cases h
  · rename_i e b e0 j n len hT
    split at h
    · rename_i hk
      obtain ⟨hk, rfl, hn⟩ := hk
      obtain rfl := Option.some.inj h
      cases hx with
      | refc hφ hc => exact .mk0 (sl e _ _ _ (tk_slice hT) hk hn rfl) (.ptr' hφ (by simp only; omega))
      | refc0 => omega
    · cases h
  · rename_i len e b e0 j hT
    split at h
    · rename_i hk
      obtain ⟨hk, hn⟩ := hk
      obtain rfl := Option.some.inj h
      cases hx with
      | ptr hφ => exact .mk0 (ar e _ _ (tk_arr hT) hk hn rfl) (.ptr' hφ (by simp only; omega))
    · cases h
  · rename_i len e cs j hT
    split at h
    · rename_i hk
      obtain ⟨hk, hn⟩ := hk
      obtain rfl := Option.some.inj h
      cases hx with
      | cptr hs => exact .mk0 (ar e _ _ (tk_arr hT) hk hn rfl) (.cptr' hs (by simp only; omega))
    · cases h
  · cases h

theorem vindex_sound {t : TypeId} {x i v : V} {u ui : Value} {k : Nat} (h : vindex P (tk P t) x k = some v) (hi : natOf i = some k) (hx : S w (Live φ m) φ x u) (hxi : S w (Live φ m) φ i ui) : Gives P w (Live φ m) φ (Instr.index t u ui) v := by
  obtain ⟨q, rfl⟩ := natOf_int hi hxi
  unfold vindex at h
  split at h
  · rename_i len e cs hT
    split at h
    · rename_i hk
      obtain ⟨hk, hn0⟩ := hk
      obtain ⟨hcz, hn, d, hd⟩ := csz_some hn0
      rw [hcz] at h
      cases hx with
      | agg hs =>
        rename_i us
        have key : ∀ v, (part e us.toArray (k * P.cellsOf e)).run P w = .ok v w → (Instr.index t (.agg us.toArray) (.int q (k : Int))).run P w = .ok v w := fun v hp => by
          simp [Instr.index, run_underlying (tk_arr hT), asIntOf, hk, run_sizeOf' hn, hp]
        split at h
        · rename_i ha
          split at h
          · obtain rfl := Option.some.inj h
            refine .mk0 (key (.agg ((us.drop (k * P.cellsOf e)).take (P.cellsOf e)).toArray) ?_) (.agg ((hs.drop _).take _))
            unfold part
            simp only [Sem.run_bind, run_isAgg' hd, Result.andThen_ok, ha, if_true, run_sizeOf' hn, Sem.run_pure]
            congr 2
            apply Array.ext'
            simp [List.take_drop]
          · cases h
        · rename_i ha
          obtain ⟨z, hz, hzs⟩ := hs.get h
          refine .mk0 (key z ?_) hzs
          unfold part
          simp [run_isAgg' hd, ha, hz]
    · cases h
  · rename_i s hT
    cases hx
    cases hc : s.data.toList[k]? with
    | none => simp [hc] at h
    | some c =>
      simp [hc] at h
      subst h
      have hk : k < s.size := by
        have := (List.getElem?_eq_some_iff.1 hc).1
        simpa using this
      have hs : s[k]? = some c := by
        rw [ByteArray.getElem?_lt' s k hk]
        rw [List.getElem?_eq_getElem (by simpa using hk)] at hc
        simp at hc
        exact congrArg some hc
      refine .mk0 ?_ .i
      simp [Instr.index, run_underlying (tk_str hT), asIntOf, hs]
  · cases h

theorem flatten_slice {α : Type} : ∀ (es : List (List α)) (n l k : Nat), (∀ e ∈ es, e.length = n) → ((es.drop l).take k).flatten = (es.flatten.drop (l * n)).take (k * n)
  | [], n, l, k, _ => by simp
  | x :: es, n, 0, 0, h => by simp
  | x :: es, n, 0, k + 1, h => by
    have := flatten_slice es n 0 k (fun e he => h e (by simp [he]))
    simp only [List.drop_zero, Nat.zero_mul] at this
    simp only [List.drop_zero, Nat.zero_mul, List.take_succ_cons, List.flatten_cons, this]
    have hx := h x (by simp)
    rw [show (k + 1) * n = x.length + k * n by rw [Nat.add_mul, hx]; omega, List.take_append]
    rw [List.take_of_length_le (l := x) (by omega), show x.length + k * n - x.length = k * n by omega]
  | x :: es, n, l + 1, k, h => by
    have := flatten_slice es n l k (fun e he => h e (by simp [he]))
    have hx := h x (by simp)
    rw [List.drop_succ_cons, this, List.flatten_cons, show (l + 1) * n = x.length + l * n by rw [Nat.add_mul, hx]; omega, List.drop_append,
      List.drop_eq_nil_of_le (as := x) (by omega), List.nil_append, show x.length + l * n - x.length = l * n by omega]

/-- A value that may be missing. -/
def OS (w : World) (O : Nat → Prop) (φ : Pl) : Option V → Option Value → Prop
  | none, none => True
  | some v, some z => S w O φ v z
  | _, _ => False

theorem vbound_nat {x : Option V} {u : Option Value} {d n : Nat} (h : vbound x d = some n) (hx : OS w (Live φ m) φ x u) :
    (x = none ∧ u = none ∧ n = d) ∨ ∃ k, u = some (.int k (n : Int)) := by
  cases x with
  | none => cases u with
    | none => left; simp [vbound] at h; exact ⟨rfl, rfl, h.symm⟩
    | some z => exact hx.elim
  | some v => cases u with
    | none => exact hx.elim
    | some z =>
      right
      obtain ⟨k, rfl⟩ := natOf_int (by simpa [vbound] using h) hx
      exact ⟨k, rfl⟩

theorem run_bounds {isSlice : Bool} {len cap l h : Nat} {lo hi : Option Value} (hl : lo = none ∧ l = 0 ∨ ∃ k, lo = some (.int k (l : Int))) (hh : hi = none ∧ h = len ∨ ∃ k, hi = some (.int k (h : Int)))
    (h1 : l ≤ h) (h2 : h ≤ cap) : (Instr.sliceBounds isSlice len cap lo hi none).run P w = .ok (l, h, cap) w := by
  have sb : ∀ (k : IntKind) (n y : Nat) (code : BoundsCode), n ≤ y → (Instr.sliceBound (.int k (n : Int)) y code).run P w = .ok n w := fun k n y code hn => by
    simp [Instr.sliceBound, asIntOf, hn]
  rcases hl with ⟨rfl, rfl⟩ | ⟨kl, rfl⟩ <;> rcases hh with ⟨rfl, rfl⟩ | ⟨kh, rfl⟩ <;> simp [Instr.sliceBounds, sb, h1, h2]

theorem chunks_flatten : ∀ (n k : Nat) (cs : List V), k * n ≤ cs.length → (chunks n k cs).flatten = cs.take (k * n) ∧ (∀ e ∈ chunks n k cs, e.length = n) ∧ (chunks n k cs).length = k
  | n, 0, cs, _ => by simp [chunks]
  | n, k + 1, cs, h => by
    have h' : k * n ≤ (cs.drop n).length := by rw [List.length_drop, Nat.add_mul] at *; omega
    obtain ⟨a1, a2, a3⟩ := chunks_flatten n k (cs.drop n) h'
    refine ⟨?_, ?_, by simp [chunks, a3]⟩
    · simp only [chunks, List.flatten_cons, a1]
      rw [show (k + 1) * n = n + k * n by rw [Nat.add_mul]; omega, List.take_add]
    · intro e he
      simp only [chunks, List.mem_cons] at he
      rcases he with rfl | he
      · rw [List.length_take, Nat.add_mul] at *; omega
      · exact a2 e he

theorem vslice_sound {t : TypeId} {x v : V} {u : Value} {lo hi : Option V} {ulo uhi : Option Value} (h : vslice P m (tk P t) x lo hi = some v) (hx : S w (Live φ m) φ x u) (hm : Mem N w φ m)
    (hlo : OS w (Live φ m) φ lo ulo) (hhi : OS w (Live φ m) φ hi uhi) :
    Gives P w (Live φ m) φ (Instr.sliceAt t u ulo uhi none) v := by
  unfold vslice at h
  cases hl : vbound lo 0 with
  | none => simp [hl] at h
  | some l =>
    simp only [hl, Option.bind_some] at h
    have hl' : ulo = none ∧ l = 0 ∨ ∃ k, ulo = some (.int k (l : Int)) := by
      rcases vbound_nat hl hlo with ⟨_, a, b⟩ | b
      · exact .inl ⟨a, b⟩
      · exact .inr b
    have hh' : ∀ d hn, vbound hi d = some hn → uhi = none ∧ hn = d ∨ ∃ k, uhi = some (.int k (hn : Int)) := fun d hn hb => by
      rcases vbound_nat hb hhi with ⟨_, a, b⟩ | b
      · exact .inl ⟨a, b⟩
      · exact .inr b
    have slc : ∀ (e : TypeId) (a : Addr) (len cap hn : Nat), P.underlying t = some (.slice e) → P.cellsOf e ≠ 0 → a.spot = none → (uhi = none ∧ hn = len ∨ ∃ k, uhi = some (.int k (hn : Int))) → l ≤ hn → hn ≤ len → len ≤ cap →
        (Instr.sliceAt t (.slice (some a) len cap) ulo uhi none).run P w = .ok (.slice (some (if cap = l then a else { a with off := a.off + l * P.cellsOf e })) (hn - l) (cap - l)) w := fun e a len cap hn hu hz ha hb h1 h2 h3 => by
      have hr := run_bounds (P := P) (w := w) (isSlice := true) (len := len) (cap := cap) hl' hb h1 (by omega)
      simp [Instr.sliceAt, Instr.slice, run_underlying hu, hr, run_sizeOf' hz]
      split
      · rfl
      · unfold Addr.add; split
        · rename_i hz0; rw [hz0]
          cases a; simp_all
        · cases a; simp_all
    have arr : ∀ (e : TypeId) (a : Addr) (len hn : Nat), P.underlying t = some (.array len e) → P.cellsOf e ≠ 0 → a.spot = none → (uhi = none ∧ hn = len ∨ ∃ k, uhi = some (.int k (hn : Int))) → l ≤ hn → hn ≤ len →
        (Instr.sliceAt t (.pointer (some a)) ulo uhi none).run P w = .ok (.slice (some (if len = l then a else { a with off := a.off + l * P.cellsOf e })) (hn - l) (len - l)) w := fun e a len hn hu hz ha hb h1 h2 => by
      have hr := run_bounds (P := P) (w := w) (isSlice := false) (len := len) (cap := len) hl' hb h1 (by omega)
      simp [Instr.sliceAt, Instr.sureAddr, run_underlying hu, hr, run_sizeOf' hz]
      split
      · rfl
      · unfold Addr.add; split
        · rename_i hz0; rw [hz0]
          cases a; simp_all
        · cases a; simp_all
    have addr : ∀ (a : Addr) (c : Prop) [Decidable c] (k : Nat), a.spot = none → (if c then a else { a with off := a.off + k }) = ⟨a.block, if c then a.off else a.off + k, none⟩ := fun a c _ k ha => by
      cases a; simp at ha; subst ha; split <;> rfl
    split at h
    · rename_i s hT
      cases hx
      cases hb : vbound hi s.size with
      | none => simp [hb] at h
      | some hn =>
        simp only [hb, Option.bind_some] at h
        split at h
        · rename_i hle
          obtain rfl := Option.some.inj h
          have hr := run_bounds (P := P) (w := w) (isSlice := false) (len := s.size) (cap := s.size) hl' (hh' _ _ hb) hle.1 hle.2
          refine .mk0 ?_ .str
          simp [Instr.sliceAt, Instr.slice, run_underlying (tk_str hT), hr]
        · cases h
    · rename_i e hT
      cases hx
      cases hb : vbound hi 0 with
      | none => simp [hb] at h
      | some hn =>
        simp only [hb, Option.bind_some] at h
        split at h
        · rename_i hle
          obtain ⟨hz, rfl, rfl⟩ := hle
          obtain rfl := Option.some.inj h
          have hr := run_bounds (P := P) (w := w) (isSlice := true) (len := 0) (cap := 0) hl' (hh' _ _ hb) (Nat.le_refl _) (Nat.le_refl _)
          refine .mk0 (u := .slice none 0 0) ?_ .nil
          simp [Instr.sliceAt, Instr.slice, run_underlying (tk_slice hT), hr, run_sizeOf' hz]
        · cases h
    · rename_i e n es hT
      cases hx with
      | sl hel hlen hc hs =>
        rename_i len0 b0 off0 cap0
        cases hb : vbound hi es.length with
        | none => simp [hb] at h
        | some hn =>
          simp only [hb, Option.bind_some] at h
          split at h
          · rename_i hle
            obtain ⟨h1, h2, rfl, hz⟩ := hle
            obtain rfl := Option.some.inj h
            have hb' := hh' _ _ hb
            rw [hlen] at hb' h2
            refine .mk0 (slc e _ _ _ hn (tk_slice hT) hz rfl hb' h1 h2 hc) ?_
            rw [addr _ _ _ rfl]
            have hlen' : ((es.drop l).take (hn - l)).length = hn - l := by simp; omega
            have hel' : ∀ x ∈ (es.drop l).take (hn - l), x.length = P.cellsOf e := fun x hx => hel x (List.mem_of_mem_drop (List.mem_of_mem_take hx))
            by_cases hq : cap0 = l
            · have h0 : hn - l = 0 := by omega
              rw [h0]
              exact .sl (by simp) (by simp) (by omega) (by simp; exact .nil)
            · rw [if_neg hq]
              refine .sl hel' hlen' (by omega) ?_
              rw [flatten_slice es _ l _ hel]
              exact (hs.drop _).take _
          · cases h
      | sl0 =>
        simp only [List.length_nil] at h
        cases hb : vbound hi 0 with
        | none => simp [hb] at h
        | some hn =>
          simp only [hb, Option.bind_some] at h
          split at h
          · rename_i hle
            obtain ⟨h1, h2, rfl, hz⟩ := hle
            obtain rfl := Option.some.inj h
            have hb' := hh' _ _ hb
            simp at h2
            have hl0 : l = 0 := by omega
            subst hl0 h2
            rename_i cap a
            have hr := run_bounds (P := P) (w := w) (isSlice := true) (len := 0) (cap := cap) hl' hb' (Nat.le_refl _) (Nat.zero_le _)
            simp only [List.drop_nil, List.take_nil]
            refine .mk0 (u := .slice (some a) 0 cap) ?_ .sl0
            simp [Instr.sliceAt, Instr.slice, run_underlying (tk_slice hT), hr, run_sizeOf' hz, Addr.add]
          · cases h
      | slnil =>
        simp only [List.length_nil] at h
        cases hb : vbound hi 0 with
        | none => simp [hb] at h
        | some hn =>
          simp only [hb, Option.bind_some] at h
          split at h
          · rename_i hle
            obtain ⟨h1, h2, rfl, hz⟩ := hle
            obtain rfl := Option.some.inj h
            have hb' := hh' _ _ hb
            simp at h2
            have hl0 : l = 0 := by omega
            subst hl0 h2
            have hr := run_bounds (P := P) (w := w) (isSlice := true) (len := 0) (cap := 0) hl' hb' (Nat.le_refl _) (Nat.zero_le _)
            simp only [List.drop_nil, List.take_nil]
            refine .mk0 (u := .slice none 0 0) ?_ .slnil
            simp [Instr.sliceAt, Instr.slice, run_underlying (tk_slice hT), hr, run_sizeOf' hz, Addr.add]
          · cases h
    · rename_i e b e0 len hT
      split at h
      · rename_i n es hbl
        cases hb : vbound hi len with
        | none => simp [hb] at h
        | some hn =>
          simp only [hb, Option.bind_some] at h
          split at h
          · rename_i hle
            obtain ⟨h1, h2, rfl, hz⟩ := hle
            obtain rfl := Option.some.inj h
            have hb' := hh' _ _ hb
            cases hx with
            | ref hφ' hc hr =>
              rename_i cap
              obtain ⟨_, pb, po, c, t', hφ, _⟩ := hm.at_ b _ es _ hbl hφ'
              rw [hφ] at hφ'
              simp at hφ'
              obtain ⟨rfl, rfl, rfl⟩ := hφ'
              refine .mk0 (slc e _ _ _ hn (tk_slice hT) hz rfl hb' h1 h2 hc) ?_
              by_cases hq : cap = l
              · have h0 : hn - l = 0 := by omega
                have h00 : cap - l = 0 := by omega
                rw [h0, h00, addr _ _ _ rfl]
                exact .ref0
              · rw [if_neg hq]
                refine .ref' hφ (by omega) ?_ (by simp only [Nat.add_mul]; omega)
                rwa [show e0 + l + (cap - l) = e0 + cap by omega]
            | ref0 =>
              have hl0 : l = 0 := by omega
              have hn0 : hn = 0 := by omega
              subst hl0 hn0
              rename_i pb off
              have hr := run_bounds (P := P) (w := w) (isSlice := true) (len := 0) (cap := 0) hl' hb' (Nat.le_refl _) (Nat.le_refl _)
              refine .mk0 (u := .slice (some ⟨pb, off, none⟩) 0 0) ?_ .ref0
              simp [Instr.sliceAt, Instr.slice, run_underlying (tk_slice hT), hr, run_sizeOf' hz]
            | refnil =>
              have hl0 : l = 0 := by omega
              have hn0 : hn = 0 := by omega
              subst hl0 hn0
              have hr := run_bounds (P := P) (w := w) (isSlice := true) (len := 0) (cap := 0) hl' hb' (Nat.le_refl _) (Nat.le_refl _)
              refine .mk0 (u := .slice none 0 0) ?_ .refnil
              simp [Instr.sliceAt, Instr.slice, run_underlying (tk_slice hT), hr, run_sizeOf' hz]
          · cases h
      · cases h
    · rename_i e b e0 j n len hT
      cases hb : vbound hi len with
      | none => simp [hb] at h
      | some hn =>
        simp only [hb, Option.bind_some] at h
        split at h
        · rename_i hle
          obtain ⟨h1, h2, rfl, hz⟩ := hle
          obtain rfl := Option.some.inj h
          have hb' := hh' _ _ hb
          cases hx with
          | refc hφ hc =>
            rename_i cap
            refine .mk0 (slc e _ _ _ hn (tk_slice hT) hz rfl hb' h1 h2 hc) ?_
            by_cases hq : cap = l
            · have h0 : hn - l = 0 := by omega
              have h00 : cap - l = 0 := by omega
              rw [h0, h00, addr _ _ _ rfl]
              exact .refc0
            · rw [if_neg hq]
              exact .refc' hφ (by omega) (by simp only; omega)
          | refc0 =>
            have hl0 : l = 0 := by omega
            have hn0 : hn = 0 := by omega
            subst hl0 hn0
            rename_i pb off
            have hr := run_bounds (P := P) (w := w) (isSlice := true) (len := 0) (cap := 0) hl' hb' (Nat.le_refl _) (Nat.le_refl _)
            refine .mk0 (u := .slice (some ⟨pb, off, none⟩) 0 0) ?_ .refc0
            simp [Instr.sliceAt, Instr.slice, run_underlying (tk_slice hT), hr, run_sizeOf' hz]
        · cases h
    · rename_i len e b e0 j hT
      cases hb : vbound hi len with
      | none => simp [hb] at h
      | some hn =>
        simp only [hb, Option.bind_some] at h
        split at h
        · rename_i hle
          obtain ⟨h1, h2, hz⟩ := hle
          obtain rfl := Option.some.inj h
          have hb' := hh' _ _ hb
          cases hx with
          | ptr hφ =>
            refine .mk0 (arr e _ _ hn (tk_arr hT) hz rfl hb' h1 h2) ?_
            by_cases hq : len = l
            · have h0 : hn - l = 0 := by omega
              have h00 : len - l = 0 := by omega
              rw [h0, h00, addr _ _ _ rfl]
              exact .refc0
            · rw [if_neg hq]
              exact .refc' hφ (by omega) (by simp only; omega)
        · cases h
    · rename_i len e cs j hT
      cases hb : vbound hi len with
      | none => simp [hb] at h
      | some hn =>
        simp only [hb, Option.bind_some] at h
        split at h
        · rename_i hle
          obtain ⟨h1, h2, hz, hfit⟩ := hle
          obtain rfl := Option.some.inj h
          have hb' := hh' _ _ hb
          cases hx with
          | cptr hs =>
            refine .mk0 (arr e _ _ hn (tk_arr hT) hz rfl hb' h1 h2) ?_
            rw [addr _ _ _ rfl]
            have hmul : (hn - l) * P.cellsOf e + l * P.cellsOf e = hn * P.cellsOf e := by rw [← Nat.add_mul]; congr 1; omega
            have hmul2 : hn * P.cellsOf e ≤ len * P.cellsOf e := Nat.mul_le_mul_right _ h2
            obtain ⟨a1, a2, a3⟩ := chunks_flatten (P.cellsOf e) (hn - l) (cs.drop (j + l * P.cellsOf e)) (by rw [List.length_drop]; omega)
            by_cases hq : len = l
            · have h0 : hn - l = 0 := by omega
              rw [h0]
              exact .sl (by simp [chunks]) (by simp [chunks]) (by omega) (by simp [chunks]; exact .nil)
            · rw [if_neg hq]
              refine .sl a2 a3 (by omega) ?_
              rw [a1]
              have := (hs.drop (j + l * P.cellsOf e)).take ((hn - l) * P.cellsOf e)
              simpa [Nat.add_assoc] using this
        · cases h
    · cases h

theorem vlen_sound {t ty : TypeId} {x v : V} {u : Value} (h : vlen (tk P t) x = some v) (hx : S w (Live φ m) φ x u) : Gives P w (Live φ m) φ (Builtin.len_ #[t] ty #[u]) v := by
  unfold vlen at h
  split at h <;> rename_i hT <;> first
    | (cases h; done)
    | (obtain rfl := Option.some.inj h
       first
         | (cases hx
            refine .mk0 ?_ .i
            simp_all [Builtin.len_, run_underlying (tk_str hT), goInt]; done)
         | (cases hx
            all_goals (refine .mk0 ?_ .i; simp_all [Builtin.len_, run_underlying (tk_slice hT), goInt])
            done)
         | (refine .mk0 ?_ .i
            simp [Builtin.len_, run_underlying (tk_arr hT), goInt]; done))
end
end Go.VL
