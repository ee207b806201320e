/- A law's end: its arguments as data, its answer, and what is left behind. -/
import Derived.Test.YtboeddbhfnlpaaaVxSimp
import Derived.WalkKit
import Derived.OpenShut
import Derived.ChangeOld
import Derived.Below
import Derived.Carry
namespace Go.VL
open Go.RowKit Go.ChangeShapes Go.WideShapes Go.ChangeAt
set_option linter.unusedSimpArgs false
set_option linter.unusedVariables false

/-- An argument fits its type's shape. -/
def OkA (sh : Sh) (agg : Bool) (x : V) : Prop := if agg = true then ∃ cs, x = .agg cs ∧ Ok sh cs else Ok sh [x]

def OkT (P : Program) (t : TypeId) (x : V) : Prop := ∃ sh, shp P 12 t = some sh ∧ OkA sh (aggB P t) x

def shB (P : Program) (t : TypeId) : Bool := (shp P 12 t).isSome && P.readableRec t && decide (t < P.types.size)

section
variable {P : Program}

theorem arg_S {H : Type} {enc : TypeId × Value → H} {w : World} {t : TypeId} {v : Value} {d : DataW H} {ps : List MemPlace} {sh : Sh} (hsh : shp P 12 t = some sh) (hval : Value.okWide P w .any 0 t v) (h : DataW.Trod enc P w 0 (fun _ => true) true t v d ps) :
    ∃ x, S w (fun _ => False) noPl x v ∧ OkT P t x := by
  obtain ⟨fuel, hf⟩ := h
  obtain ⟨vs, h1, h2, h3⟩ := trod_S fuel 12 t _ _ sh hf hsh
  cases ha : aggB P t with
  | true =>
    have : ∃ cs, v = .agg cs := by
      unfold aggB at ha
      unfold Value.okWide at hval
      split at ha
      · rename_i hu; rw [hu] at hval; obtain ⟨cs, h, _⟩ := hval; exact ⟨cs, h⟩
      · rename_i hu; rw [hu] at hval; obtain ⟨cs, h, _⟩ := hval; exact ⟨cs, h⟩
      · cases ha
    obtain ⟨cs, rfl⟩ := this
    refine ⟨.agg vs, ?_, sh, hsh, by rw [ha]; exact ⟨vs, rfl, h3⟩⟩
    have := S.agg h2
    simpa [Value.cells] using this
  | false =>
    have hone : v.cells = #[v] := by
      have hok : Cell.okWide P w .any 0 t v := by
        unfold aggB at ha
        unfold Value.okWide at hval
        split at ha
        · cases ha
        · cases ha
        · rename_i h1 h2
          split at hval
          · rename_i F hu; exact absurd hu (h1 F)
          · rename_i n e hu; exact absurd hu (h2 n e)
          · exact hval
      cases v with
      | agg cs =>
        exfalso
        cases hu : P.underlying t with
        | none => simp [Cell.okWide, Cell.ok, hu] at hok
        | some D => cases D <;> simp [Cell.okWide, Cell.ok, hu] at hok
      | _ => rfl
    rw [hone] at h1 h2
    simp at h1 h2
    cases h2 with
    | cons hv hs =>
      cases hs
      exact ⟨_, hv, sh, hsh, by rw [ha]; exact h3⟩

inductive OkAll (P : Program) : List TypeId → List V → Prop
  | nil : OkAll P [] []
  | cons {t : TypeId} {ts : List TypeId} {x : V} {xs : List V} (h : OkT P t x) (hs : OkAll P ts xs) : OkAll P (t :: ts) (x :: xs)

theorem OkAll.cons_inv {P : Program} {t : TypeId} {ts : List TypeId} {xs : List V} (h : OkAll P (t :: ts) xs) : ∃ y ys, xs = y :: ys ∧ OkT P t y ∧ OkAll P ts ys := by
  cases h with
  | cons h hs => exact ⟨_, _, rfl, h, hs⟩
theorem OkAll.nil_inv {P : Program} {xs : List V} (h : OkAll P [] xs) : xs = [] := by cases h; rfl

theorem args_S {H : Type} {enc : TypeId × Value → H} {w : World} : ∀ {ts : List TypeId} {vs : List Value} {ds : List (DataW H)} {ps : List MemPlace}, ts.all (shB P) = true → (∀ (j : Nat) (t : TypeId) (v : Value), ts[j]? = some t → vs[j]? = some v → Value.okWide P w .any 0 t v) →
    DataW.TrodAll enc P w 0 (fun _ => true) true ts vs ds ps → ∃ xs, Sl w (fun _ => False) noPl xs vs ∧ OkAll P ts xs
  | [], vs, ds, ps, _, _, h => by
    obtain ⟨rfl, _, _⟩ := trodAll_nil h
    exact ⟨[], .nil, .nil⟩
  | t :: ts, vs, ds, ps, hb, hv, h => by
    obtain ⟨v, vs', d, ds', p, q, rfl, rfl, rfl, h1, h2⟩ := trodAll_cons h
    simp only [List.all_cons, Bool.and_eq_true] at hb
    have hsh : ∃ sh, shp P 12 t = some sh := Option.isSome_iff_exists.1 (by have := hb.1; simp only [shB, Bool.and_eq_true] at this; exact this.1.1)
    obtain ⟨sh, hsh⟩ := hsh
    obtain ⟨x, x1, x2⟩ := arg_S hsh (hv 0 t v rfl rfl) h1
    obtain ⟨xs, y1, y2⟩ := args_S hb.2 (fun j t' v' a b => hv (j + 1) t' v' (by simpa using a) (by simpa using b)) h2
    exact ⟨x :: xs, .cons x1 y1, .cons x2 y2⟩

theorem args_behind {H : Type} {enc : TypeId × Value → H} {w w' : World} (hl : laidOutB P = true) (hbel : Below w.heap.size w w') : ∀ {ts : List TypeId} {vs : List Value} {ds : List (DataW H)} {ps : List MemPlace}, ts.all (shB P) = true →
    DataW.TrodAll enc P w 0 (fun _ => true) true ts vs ds ps → DataW.TrodAll enc P w' 0 (fun b => decide (b < w.heap.size)) true ts vs ds ps
  | [], vs, ds, ps, _, h => by
    obtain ⟨rfl, rfl, rfl⟩ := trodAll_nil h
    rfl
  | t :: ts, vs, ds, ps, hb, h => by
    obtain ⟨v, vs', d, ds', p, q, rfl, rfl, rfl, h1, h2⟩ := trodAll_cons h
    simp only [List.all_cons, Bool.and_eq_true] at hb
    have hb1 := hb.1
    simp only [shB, Bool.and_eq_true, decide_eq_true_eq] at hb1
    have hlt : ∀ x ∈ p, x.block < w.heap.size := by
      obtain ⟨m, hm⟩ := h1
      exact DataW.trod_lt m _ _ _ hm
    exact ⟨p, q, Below.trod hl hb1.1.2 hb1.2 h1 hbel hlt, args_behind hl hbel hb.2 h2, rfl⟩

/-- The law's answer. -/
theorem VCalls.law {f : FuncId} {xs : List V} {w : World} {args : Array Value} (h : VCalls P f xs (fun r => r = .b true)) (hs : Sl w (fun _ => False) noPl xs args.toList) (hg : Glob P w) : Calls P f args w (fun e w' => e = .returned (.bool true) ∧ Below w.heap.size w w') := by
  have := h w _ hg hs
  simp only [Array.toArray_toList] at this
  refine this.mono fun e w' ⟨x, u, F, he, hx, hr, _, _, hb⟩ => ?_
  subst hx
  have hS := hr.pinv rfl
  cases hS
  exact ⟨he, hb⟩
end
end Go.VL
