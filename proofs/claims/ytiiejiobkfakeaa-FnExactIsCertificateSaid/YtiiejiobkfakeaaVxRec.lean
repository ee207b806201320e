/- Functions that call themselves, and results that are taken as they stand. -/
import Derived.Test.YtiiejiobkfakeaaVxLast
namespace Go.VL
open Go.RowKit
set_option linter.unusedSimpArgs false
set_option linter.unusedVariables false

/-- So many rounds of a function that calls itself. -/
def iterO {α β : Type} (body : (α → Option β) → α → Option β) : Nat → α → Option β
  | 0 => fun _ => none
  | n + 1 => body (iterO body n)

open Classical in
/-- A function that calls itself: none if that never ends. -/
noncomputable def fixO {α β : Type} (body : (α → Option β) → α → Option β) (a : α) : Option β :=
  if h : ∃ r n, iterO body n a = some r then some h.choose else none

theorem fixO_some {α β : Type} {body : (α → Option β) → α → Option β} {a : α} {r : β} (h : fixO body a = some r) : ∃ n, iterO body n a = some r := by
  unfold fixO at h
  split at h
  · rename_i hh
    cases h
    exact hh.choose_spec
  · cases h

theorem fixO_eq {α β : Type} {body : (α → Option β) → α → Option β} {a : α} {r : β} (n : Nat) (h : iterO body n a = some r) (hu : ∀ n r', iterO body n a = some r' → r' = r) : fixO body a = some r := by
  unfold fixO
  have hh : ∃ r n, iterO body n a = some r := ⟨r, n, h⟩
  rw [dif_pos hh]
  obtain ⟨m, hm⟩ := hh.choose_spec
  rw [hu m _ hm]

theorem Tells.fix {P : Program} {f : FuncId} {α β : Type} {body : (α → Option β) → α → Option β} {eA : α → List V} {eB : β → V} (hinj : ∀ a a', eA a = eA a' → a = a')
    (hf : (P.funcs[f]?).any (fun fn => fn.body.isSome && fn.name != "runtime.NumGoroutine") = true)
    (h : ∀ self, Tells P f (tells self eA eB) → Tells P f (tells (body self) eA eB)) : Tells P f (tells (fixO body) eA eB) := by
  have it : ∀ n, Tells P f (tells (iterO body n) eA eB) := fun n => by
    induction n with
    | zero =>
      refine ⟨hf, fun args r hr => ?_⟩
      unfold tells at hr
      split at hr
      · rename_i hh
        obtain ⟨p, _, hp⟩ := hh
        cases hp
      · cases hr
    | succ n ih => exact h _ ih
  refine ⟨hf, fun args r hr => ?_⟩
  unfold tells at hr
  split at hr
  · rename_i hh
    obtain rfl := Option.some.inj hr
    obtain ⟨h1, h2⟩ := hh.choose_spec
    obtain ⟨n, hn⟩ := fixO_some h2
    have := (it n).2 _ _ (tells_eq hinj hn)
    rwa [h1] at this
  · cases hr

/-- A result that is taken as it stands: nobody writes it. -/
def fzF (F : List V → Option V) : List V → Option V := fun a => (F a).map frz
theorem Tells.fz {P : Program} {f : FuncId} {F : List V → Option V} (h : Tells P f F) : Tells P f (fzF F) := ⟨h.1, fun args r hr => by
  unfold fzF at hr
  rw [Option.map_eq_some_iff] at hr
  obtain ⟨r0, h0, rfl⟩ := hr
  exact fun w us hg hs => (h.2 args r0 h0 w us hg hs).mono fun e w' ⟨x, u, F, h1, h2, h3, h4⟩ => ⟨frz r0, u, F, h1, rfl, by subst h2; exact .fz h3 rfl, h4⟩⟩
theorem fzF_eq {F : List V → Option V} {a : List V} {r : V} (h : F a = some r) : fzF F a = some (frz r) := by simp [fzF, h]
end Go.VL
namespace Go.VL
/-- A float that is given: its bits. -/
def WfF (k : FloatKind) (x : Option Nat) : Prop := ∃ b, x = some b ∧ (Lit.float k b).wf = true
theorem wf_i64 {n : Int} (h : (Lit.int .i64 n).wf = true) : -9223372036854775808 ≤ n ∧ n < 9223372036854775808 := by
  simp only [Lit.wf, decide_eq_true_eq, Bool.and_eq_true] at h
  have e1 : IntKind.i64.min = -9223372036854775808 := by decide
  have e2 : IntKind.i64.max = 9223372036854775807 := by decide
  first
    | (obtain ⟨h1, h2⟩ := h; rw [e1] at h1; rw [e2] at h2; omega)
    | (simp [e1, e2] at h; omega)
end Go.VL
