/- Functions that call themselves, and results that are taken as they stand. -/
import Derived.Test.YtbohajclnmmkhaaGreatDoorVxLast
import Derived.LoopN
namespace Go.VL
open Go.RowKit
set_option linter.unusedSimpArgs false
set_option linter.unusedVariables false

/-- So many rounds of a function that calls itself. -/
def iterO {α β : Type} (body : (α → Option β) → α → Option β) : Nat → α → Option β
  | 0 => fun _ => none
  | n + 1 => body (iterO body n)

open Classical in
/-- A function that calls itself: none if that never ends. -/
noncomputable def fixO {α β : Type} (body : (α → Option β) → α → Option β) (a : α) : Option β :=
  if h : ∃ r n, iterO body n a = some r then some h.choose else none

theorem fixO_some {α β : Type} {body : (α → Option β) → α → Option β} {a : α} {r : β} (h : fixO body a = some r) : ∃ n, iterO body n a = some r := by
  unfold fixO at h
  split at h
  · rename_i hh
    cases h
    exact hh.choose_spec
  · cases h

theorem fixO_eq {α β : Type} {body : (α → Option β) → α → Option β} {a : α} {r : β} (n : Nat) (h : iterO body n a = some r) (hu : ∀ n r', iterO body n a = some r' → r' = r) : fixO body a = some r := by
  unfold fixO
  have hh : ∃ r n, iterO body n a = some r := ⟨r, n, h⟩
  rw [dif_pos hh]
  obtain ⟨m, hm⟩ := hh.choose_spec
  rw [hu m _ hm]

theorem Tells.fix {P : Program} {f : FuncId} {α β : Type} {body : (α → Option β) → α → Option β} {eA : α → List V} {eB : β → V} (hinj : ∀ a a', eA a = eA a' → a = a')
    (hf : (P.funcs[f]?).any (fun fn => fn.body.isSome && fn.name != "runtime.NumGoroutine") = true)
    (h : ∀ self, Tells P f (tells self eA eB) → Tells P f (tells (body self) eA eB)) : Tells P f (tells (fixO body) eA eB) := by
  have it : ∀ n, Tells P f (tells (iterO body n) eA eB) := fun n => by
    induction n with
    | zero =>
      refine ⟨hf, fun args r hr => ?_⟩
      unfold tells at hr
      split at hr
      · rename_i hh
        obtain ⟨p, _, hp⟩ := hh
        cases hp
      · cases hr
    | succ n ih => exact h _ ih
  refine ⟨hf, fun args r hr => ?_⟩
  unfold tells at hr
  split at hr
  · rename_i hh
    obtain rfl := Option.some.inj hr
    obtain ⟨h1, h2⟩ := hh.choose_spec
    obtain ⟨n, hn⟩ := fixO_some h2
    have := (it n).2 _ _ (tells_eq hinj hn)
    rwa [h1] at this
  · cases hr

/-- A result that is taken as it stands: nobody writes it. -/
def fzF (F : List V → Option V) : List V → Option V := fun a => (F a).map frz
theorem Tells.fz {P : Program} {f : FuncId} {F : List V → Option V} (h : Tells P f F) : Tells P f (fzF F) := ⟨h.1, fun args r hr => by
  unfold fzF at hr
  rw [Option.map_eq_some_iff] at hr
  obtain ⟨r0, h0, rfl⟩ := hr
  exact fun w us hg hs => (h.2 args r0 h0 w us hg hs).mono fun e w' ⟨x, u, F, h1, h2, h3, h4⟩ => ⟨frz r0, u, F, h1, rfl, by subst h2; exact .fz h3 rfl, h4⟩⟩
theorem fzF_eq {F : List V → Option V} {a : List V} {r : V} (h : F a = some r) : fzF F a = some (frz r) := by simp [fzF, h]
end Go.VL
namespace Go.VL
/-- A float that is given: its bits. -/
def WfF (k : FloatKind) (x : Option Nat) : Prop := ∃ b, x = some b ∧ (Lit.float k b).wf = true
end Go.VL

/-! ### A loop of a known number of rounds -/
namespace Go.VL
section
variable {P : Program} {C : CEnv} {Q : Exit → VS → Prop} {st : VS}
def VRounds (P : Program) (c : Code) (Q : Exit → VS → Prop) : Nat → VS → Prop
  | 0, _ => False
  | n + 1, st => VW P c (vthen (VRounds P c Q n) Q) st
theorem VRounds.step {c : Code} {n : Nat} (h : VW P c (vthen (VRounds P c Q n) Q) st) : VRounds P c Q (n + 1) st := h
theorem VRounds.rounds {c : Code} : ∀ {n : Nat} {st : VS}, VRounds P c Q n st → ∀ (N : Fr) (w0 : World × List Value) (a : Act) (w : World) (φ : Pl), SR P N w0 st a w φ → Code.rounds P c (fun e a' w' => ∃ st' φ', Q e st' ∧ SR P N w0 st' a' w' φ') n a w
  | 0, _, h, _, _, _, _, _, _ => h.elim
  | n + 1, st, h, N, w0, a, w, φ, hs => by
    rw [rounds_succ]
    refine wp_mono (h N w0 a w φ hs) fun e a' w' ⟨s', φ', h1, h2⟩ => ?_
    cases e with
    | normal => exact VRounds.rounds (n := n) h1 N w0 a' w' φ' h2
    | exit id => exact ⟨s', φ', h1, h2⟩
    | goto l => exact ⟨s', φ', h1, h2⟩
    | ret => exact ⟨s', φ', h1, h2⟩
    | panic c => exact ⟨s', φ', h1, h2⟩
    | outgrown => exact ⟨s', φ', h1, h2⟩
theorem VW.rounds {c : Code} (n : Nat) (h : VRounds P c Q n st) : VW P (.loop c) Q st := fun N w0 a w φ hs => wp_loop_rounds n (h.rounds N w0 a w φ hs)

/-! ### A region in which blocks are made that nothing names behind it -/
/-- Told after a region: its temporaries, and its first blocks. -/
def toStK0 (x : Option VS) (t' : List V) (m' : VM) (g' : List V) : Prop :=
  match x with
  | some s => leL s.t t' ∧ s.m.take m'.length = m' ∧ m'.length ≤ s.m.length ∧ s.g = g'
  | none => False
structure toStK (x : Option VS) (t' : List V) (m' : VM) (g' : List V) : Prop where
  of ::
  out : toStK0 x t' m' g'
@[simp] theorem toStK_some {s : VS} {t' : List V} {m' : VM} {g' : List V} : toStK (some s) t' m' g' = (leL s.t t' ∧ s.m.take m'.length = m' ∧ m'.length ≤ s.m.length ∧ s.g = g') := propext ⟨fun h => h.out, fun h => ⟨h⟩⟩
@[simp] theorem toStK_none {t' : List V} {m' : VM} {g' : List V} : toStK none t' m' g' = False := propext ⟨fun h => h.out, fun h => h.elim⟩
theorem toStK.get {x : Option VS} {t' : List V} {m' : VM} {g' : List V} (h : toStK x t' m' g') : ∃ t m, x = some { t := t, m := m, g := g' } ∧ leL t t' ∧ m.take m'.length = m' ∧ m'.length ≤ m.length := by
  cases x with
  | none => exact h.out.elim
  | some s => obtain ⟨h1, h2, h3, h4⟩ := h.out; subst h4; exact ⟨s.t, s.m, rfl, h1, h2, h3⟩
end
end Go.VL
namespace Go.VL
section
variable {P : Program} {Q : Exit → VS → Prop} {st : VS}
theorem VRounds.join {σ : Type} {c : Code} {n : Nat} (H : σ → VS) (K : σ → Prop) (h : VW P c (vthen (fun s => ∃ v, K v ∧ Ent s (H v)) Q) st) (hj : ∀ v, K v → VRounds P c Q n (H v)) : VRounds P c Q (n + 1) st := by
  refine h.mono fun e s hq => ?_
  cases e with
  | normal =>
    obtain ⟨v, h1, h2⟩ := hq
    have := hj v h1
    cases n with
    | zero => exact this.elim
    | succ n => exact VW.ent h2 this
  | exit id => exact hq
  | goto l => exact hq
  | ret => exact hq
  | panic c => exact hq
  | outgrown => exact hq
end
end Go.VL
/-! ### Rows with nil slices -/
namespace Go.VL
set_option linter.unusedVariables false
set_option linter.unusedSimpArgs false
def nlE : List (List V) → List (List V) → Prop
  | [], [] => True
  | a :: s, b :: t => nlL a b ∧ nlE s t
  | _, _ => False
@[simp] theorem nlE_rep {q : Nat} {a b : List V} (h : nlL a b) : nlE (List.replicate q a) (List.replicate q b) := by
  induction q with
  | zero => exact trivial
  | succ q ih => exact ⟨h, ih⟩
end Go.VL
namespace Go.VL
@[simp high] theorem tm_bnd0 {n k : Nat} : ((tm n []).all (bndT k) = true) = True := eq_true (tm_bnd (by rfl))
end Go.VL
