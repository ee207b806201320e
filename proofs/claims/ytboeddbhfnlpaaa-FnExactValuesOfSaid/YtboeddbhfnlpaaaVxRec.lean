/- Functions that call themselves, and results that are taken as they stand. -/
import Derived.Test.YtboeddbhfnlpaaaVxLast
import Derived.LoopN
namespace Go.VL
open Go.RowKit
set_option linter.unusedSimpArgs false
set_option linter.unusedVariables false

/-- So many rounds of a function that calls itself. -/
def iterO {α β : Type} (body : (α → Option β) → α → Option β) : Nat → α → Option β
  | 0 => fun _ => none
  | n + 1 => body (iterO body n)

open Classical in
/-- A function that calls itself: none if that never ends. -/
noncomputable def fixO {α β : Type} (body : (α → Option β) → α → Option β) (a : α) : Option β :=
  if h : ∃ r n, iterO body n a = some r then some h.choose else none

theorem fixO_some {α β : Type} {body : (α → Option β) → α → Option β} {a : α} {r : β} (h : fixO body a = some r) : ∃ n, iterO body n a = some r := by
  unfold fixO at h
  split at h
  · rename_i hh
    cases h
    exact hh.choose_spec
  · cases h

theorem fixO_eq {α β : Type} {body : (α → Option β) → α → Option β} {a : α} {r : β} (n : Nat) (h : iterO body n a = some r) (hu : ∀ n r', iterO body n a = some r' → r' = r) : fixO body a = some r := by
  unfold fixO
  have hh : ∃ r n, iterO body n a = some r := ⟨r, n, h⟩
  rw [dif_pos hh]
  obtain ⟨m, hm⟩ := hh.choose_spec
  rw [hu m _ hm]

theorem Tells.fix {P : Program} {f : FuncId} {α β : Type} {body : (α → Option β) → α → Option β} {eA : α → List V} {eB : β → V} (hinj : ∀ a a', eA a = eA a' → a = a')
    (hf : (P.funcs[f]?).any (fun fn => fn.body.isSome && fn.name != "runtime.NumGoroutine") = true)
    (h : ∀ self, Tells P f (tells self eA eB) → Tells P f (tells (body self) eA eB)) : Tells P f (tells (fixO body) eA eB) := by
  have it : ∀ n, Tells P f (tells (iterO body n) eA eB) := fun n => by
    induction n with
    | zero =>
      refine ⟨hf, fun args r hr => ?_⟩
      unfold tells at hr
      split at hr
      · rename_i hh
        obtain ⟨p, _, hp⟩ := hh
        cases hp
      · cases hr
    | succ n ih => exact h _ ih
  refine ⟨hf, fun args r hr => ?_⟩
  unfold tells at hr
  split at hr
  · rename_i hh
    obtain rfl := Option.some.inj hr
    obtain ⟨h1, h2⟩ := hh.choose_spec
    obtain ⟨n, hn⟩ := fixO_some h2
    have := (it n).2 _ _ (tells_eq hinj hn)
    rwa [h1] at this
  · cases hr

/-- A result that is taken as it stands: nobody writes it. -/
def fzF (F : List V → Option V) : List V → Option V := fun a => (F a).map frz
theorem Tells.fz {P : Program} {f : FuncId} {F : List V → Option V} (h : Tells P f F) : Tells P f (fzF F) := ⟨h.1, fun args r hr => by
  unfold fzF at hr
  rw [Option.map_eq_some_iff] at hr
  obtain ⟨r0, h0, rfl⟩ := hr
  exact fun w us hg hs => (h.2 args r0 h0 w us hg hs).mono fun e w' ⟨x, u, F, h1, h2, h3, h4⟩ => ⟨frz r0, u, F, h1, rfl, by subst h2; exact .fz h3 rfl, h4⟩⟩
theorem fzF_eq {F : List V → Option V} {a : List V} {r : V} (h : F a = some r) : fzF F a = some (frz r) := by simp [fzF, h]
end Go.VL
namespace Go.VL
/-- A float that is given: its bits. -/
def WfF (k : FloatKind) (x : Option Nat) : Prop := ∃ b, x = some b ∧ (Lit.float k b).wf = true
theorem wf_i64 {n : Int} (h : (Lit.int .i64 n).wf = true) : -9223372036854775808 ≤ n ∧ n < 9223372036854775808 := by
  simp only [Lit.wf, decide_eq_true_eq, Bool.and_eq_true] at h
  have e1 : IntKind.i64.min = -9223372036854775808 := by decide
  have e2 : IntKind.i64.max = 9223372036854775807 := by decide
  first
    | (obtain ⟨h1, h2⟩ := h; rw [e1] at h1; rw [e2] at h2; omega)
    | (simp [e1, e2] at h; omega)
end Go.VL

/-! ### A loop of a known number of rounds -/
namespace Go.VL
section
variable {P : Program} {C : CEnv} {Q : Exit → VS → Prop} {st : VS}
def VRounds (P : Program) (c : Code) (Q : Exit → VS → Prop) : Nat → VS → Prop
  | 0, _ => False
  | n + 1, st => VW P c (vthen (VRounds P c Q n) Q) st
theorem VRounds.step {c : Code} {n : Nat} (h : VW P c (vthen (VRounds P c Q n) Q) st) : VRounds P c Q (n + 1) st := h
theorem VRounds.rounds {c : Code} : ∀ {n : Nat} {st : VS}, VRounds P c Q n st → ∀ (N : Fr) (w0 : World × List Value) (a : Act) (w : World) (φ : Pl), SR P N w0 st a w φ → Code.rounds P c (fun e a' w' => ∃ st' φ', Q e st' ∧ SR P N w0 st' a' w' φ') n a w
  | 0, _, h, _, _, _, _, _, _ => h.elim
  | n + 1, st, h, N, w0, a, w, φ, hs => by
    rw [rounds_succ]
    refine wp_mono (h N w0 a w φ hs) fun e a' w' ⟨s', φ', h1, h2⟩ => ?_
    cases e with
    | normal => exact VRounds.rounds (n := n) h1 N w0 a' w' φ' h2
    | exit id => exact ⟨s', φ', h1, h2⟩
    | goto l => exact ⟨s', φ', h1, h2⟩
    | ret => exact ⟨s', φ', h1, h2⟩
    | panic c => exact ⟨s', φ', h1, h2⟩
    | outgrown => exact ⟨s', φ', h1, h2⟩
theorem VW.rounds {c : Code} (n : Nat) (h : VRounds P c Q n st) : VW P (.loop c) Q st := fun N w0 a w φ hs => wp_loop_rounds n (h.rounds N w0 a w φ hs)

/-! ### A region in which blocks are made that nothing names behind it -/
/-- Told after a region: its temporaries, and its first blocks. -/
def toStK0 (x : Option VS) (t' : List V) (m' : VM) (g' : List V) : Prop :=
  match x with
  | some s => leL s.t t' ∧ s.m.take m'.length = m' ∧ m'.length ≤ s.m.length ∧ s.g = g'
  | none => False
structure toStK (x : Option VS) (t' : List V) (m' : VM) (g' : List V) : Prop where
  of ::
  out : toStK0 x t' m' g'
@[simp] theorem toStK_some {s : VS} {t' : List V} {m' : VM} {g' : List V} : toStK (some s) t' m' g' = (leL s.t t' ∧ s.m.take m'.length = m' ∧ m'.length ≤ s.m.length ∧ s.g = g') := propext ⟨fun h => h.out, fun h => ⟨h⟩⟩
@[simp] theorem toStK_none {t' : List V} {m' : VM} {g' : List V} : toStK none t' m' g' = False := propext ⟨fun h => h.out, fun h => h.elim⟩
theorem toStK.get {x : Option VS} {t' : List V} {m' : VM} {g' : List V} (h : toStK x t' m' g') : ∃ t m, x = some { t := t, m := m, g := g' } ∧ leL t t' ∧ m.take m'.length = m' ∧ m'.length ≤ m.length := by
  cases x with
  | none => exact h.out.elim
  | some s => obtain ⟨h1, h2, h3, h4⟩ := h.out; subst h4; exact ⟨s.t, s.m, rfl, h1, h2, h3⟩
theorem fgt_refl (t : List V) : fgt t t := by
  induction t with
  | nil => simp [fgt]
  | cons v t ih => simp [fgt, ih]
theorem VW.evalK1 {id : Nat} {l : List Oper} (t' : List V) (m' : VM) (g' : List V) (hC : C.Ok P) (hg : guardsOk l.toArray l.length none l = true) (h : toStK (veval P C l.toArray l.length none l st) t' m' g')
    (ht : t'.all (bndT m'.length) = true) (hb : bndM m'.length m' = true) (hgg : g'.all (bndT m'.length) = true) (hQ : Q .normal { t := t', m := m', g := g' }) : VW P (.region id l.toArray false) Q st := by
  obtain ⟨t, m, h1, h2, h3, h4⟩ := h.get
  exact VW.entPost (.eval hC hg h1 ⟨_, (Ent.le h2).trans (Ent.to (t := t') (t' := t') (m := m) (m' := m') m'.length (fgt_refl _) h3 h4 ht hb hgg), hQ⟩)
theorem VW.evalDK1 {id : Nat} {l : List Oper} (t' : List V) (m' : VM) (g' : List V) (hC : C.Ok P) (hm : P.follows .mixedOrders = true) (hc : (orderB l && noStore l && guardsOk l.toArray l.length none l) = true) (h : toStK (veval P C l.toArray l.length none l st) t' m' g')
    (ht : t'.all (bndT m'.length) = true) (hb : bndM m'.length m' = true) (hgg : g'.all (bndT m'.length) = true) (hQ : Q .normal { t := t', m := m', g := g' }) : VW P (.region id l.toArray true) Q st := by
  obtain ⟨t, m, h1, h2, h3, h4⟩ := h.get
  simp only [Bool.and_eq_true] at hc
  exact VW.entPost (.evalD hC hm hc.1.1 hc.1.2 hc.2 h1 ⟨_, (Ent.le h2).trans (Ent.to (t := t') (t' := t') (m := m) (m' := m') m'.length (fgt_refl _) h3 h4 ht hb hgg), hQ⟩)
end
end Go.VL
namespace Go.VL
section
variable {P : Program} {Q : Exit → VS → Prop} {st : VS}
theorem VRounds.join {σ : Type} {c : Code} {n : Nat} (H : σ → VS) (K : σ → Prop) (h : VW P c (vthen (fun s => ∃ v, K v ∧ Ent s (H v)) Q) st) (hj : ∀ v, K v → VRounds P c Q n (H v)) : VRounds P c Q (n + 1) st := by
  refine h.mono fun e s hq => ?_
  cases e with
  | normal =>
    obtain ⟨v, h1, h2⟩ := hq
    have := hj v h1
    cases n with
    | zero => exact this.elim
    | succ n => exact VW.ent h2 this
  | exit id => exact hq
  | goto l => exact hq
  | ret => exact hq
  | panic c => exact hq
  | outgrown => exact hq
end
end Go.VL
/-! ### Rows with nil slices -/
namespace Go.VL
set_option linter.unusedVariables false
set_option linter.unusedSimpArgs false
def nlE : List (List V) → List (List V) → Prop
  | [], [] => True
  | a :: s, b :: t => nlL a b ∧ nlE s t
  | _, _ => False
theorem nlL_get : ∀ {a b : List V}, nlL a b → a.length = b.length ∧ ∀ (i : Nat) (v : V), b[i]? = some v → ∃ v0, a[i]? = some v0 ∧ nl1 v0 v
  | [], [], _ => ⟨rfl, by simp⟩
  | x :: a, y :: b, h => by
    obtain ⟨h1, h2⟩ := nlL_get h.2
    refine ⟨by simp [h1], fun i v hi => ?_⟩
    cases i with
    | zero => simp at hi; subst hi; exact ⟨x, rfl, h.1⟩
    | succ i => exact h2 i v (by simpa using hi)
  | [], _ :: _, h => h.elim
  | _ :: _, [], h => h.elim
theorem nlL_append : ∀ {a b c d : List V}, nlL a b → nlL c d → nlL (a ++ c) (b ++ d)
  | [], [], _, _, _, h => h
  | x :: a, y :: b, _, _, h, k => ⟨h.1, nlL_append h.2 k⟩
  | [], _ :: _, _, _, h, _ => h.elim
  | _ :: _, [], _, _, h, _ => h.elim
theorem nlE_flat : ∀ {a b : List (List V)}, nlE a b → nlL a.flatten b.flatten ∧ a.length = b.length ∧ ∀ n, (∀ l ∈ a, l.length = n) → ∀ l ∈ b, l.length = n
  | [], [], _ => ⟨trivial, rfl, fun _ _ l h => by cases h⟩
  | x :: a, y :: b, h => by
    obtain ⟨h1, h2, h3⟩ := nlE_flat h.2
    refine ⟨nlL_append h.1 h1, by simp [h2], fun n hn l hl => ?_⟩
    rcases List.mem_cons.1 hl with rfl | hl
    · rw [← (nlL_get h.1).1]; exact hn x (by simp)
    · exact h3 n (fun l hl => hn l (by simp [hl])) l hl
  | [], _ :: _, h => h.elim
  | _ :: _, [], h => h.elim
@[simp] theorem nlE_rep {q : Nat} {a b : List V} (h : nlL a b) : nlE (List.replicate q a) (List.replicate q b) := by
  induction q with
  | zero => exact trivial
  | succ q ih => exact ⟨h, ih⟩
theorem nl1_cases {a b : V} (h : nl1 a b) : a = b ∨ (a = .nil ∧ ∃ n, b = .own n []) := by
  unfold nl1 at h
  split at h
  · exact .inr ⟨rfl, _, rfl⟩
  · exact .inl h

theorem Ent.nils {t g : List V} {m : VM} (b : Nat) {n : Nat} {es es' : List (List V)} (m' : VM) (hb : m[b]? = some (some (n, es))) (hE : nlE es es') (hm' : m.set b (some (n, es')) = m') : Ent { t := t, m := m, g := g } { t := t, m := m', g := g } := by
  subst hm'
  intro P N w0 a w φ hs
  have hblt : b < m.length := (List.getElem?_eq_some_iff.1 hb).1
  obtain ⟨f1, f2, f3⟩ := nlE_flat hE
  obtain ⟨f4, f5⟩ := nlL_get f1
  generalize hM : m.set b (some (n, es')) = M
  have hget : ∀ x y, M[x]? = some (some y) → (x = b ∧ y = (n, es') ∨ x ≠ b ∧ m[x]? = some (some y)) := fun x y h => by
    rw [← hM, List.getElem?_set] at h
    split at h
    · rename_i h2
      simp at h; exact .inl ⟨h2.symm, h.symm⟩
    · rename_i h2
      exact .inr ⟨fun e => h2 e.symm, h⟩
  have hO : ∀ k, Live φ M k → Live φ m k := fun k ⟨x, y, po, q, h1, h2⟩ => by
    rcases hget x y h1 with ⟨rfl, _⟩ | ⟨_, h3⟩
    · exact ⟨x, _, po, q, hb, h2⟩
    · exact ⟨x, y, po, q, h3, h2⟩
  have hev : Ev w (Live φ m) φ w (Live φ M) φ := ⟨fun k _ ho => ⟨rfl, fun hl => ho (hO k hl)⟩, fun _ _ h => h, fun _ _ h => h⟩
  refine ⟨φ, hs.defers, hs.size, fun i v hi => ?_, ⟨fun x k es1 p h1 h2 => ?_, hs.mem.new, fun x p h => ?_, hs.mem.inj, ?_⟩, hs.below, hs.start, Sl.ev hev hs.gh, hs.gl⟩
  · obtain ⟨u, u1, u2⟩ := hs.tmps i v hi
    exact ⟨u, u1, u2.ev hev⟩
  · rcases hget x _ h1 with ⟨rfl, h3⟩ | ⟨_, h3⟩
    · simp only [Prod.mk.injEq] at h3
      obtain ⟨rfl, rfl⟩ := h3
      obtain ⟨c1, pb, po, c, ty, c2, c3, c4, c5⟩ := hs.mem.at_ x _ _ _ hb h2
      refine ⟨f3 _ c1, pb, po, c, ty, c2, c3, by rw [← f2]; exact c4, fun i v hi => ?_⟩
      obtain ⟨v0, g1, g2⟩ := f5 i v hi
      obtain ⟨u, d1, d2, d3⟩ := c5 i v0 g1
      refine ⟨u, d1, d2, ?_⟩
      rcases nl1_cases g2 with rfl | ⟨rfl, n', rfl⟩
      · exact d3.ev hev
      · cases d3
        exact .own .slnil
    · obtain ⟨c1, pb, po, c, ty, c2, c3, c4, c5⟩ := hs.mem.at_ x k es1 _ h3 h2
      exact ⟨c1, pb, po, c, ty, c2, c3, c4, fun i v hi => by
        obtain ⟨u, d1, d2, d3⟩ := c5 i v hi
        exact ⟨u, d1, d2, d3.ev hev⟩⟩
  · have := hs.mem.dom x p h
    rw [← hM]; simpa using this
  · obtain ⟨ψ, hψ⟩ := hs.mem.own
    refine ⟨ψ, fun x k es1 pb po bn i n1 e1 h1 h2 h3 => ?_⟩
    rcases hget x _ h1 with ⟨rfl, h4⟩ | ⟨_, h4⟩
    · simp only [Prod.mk.injEq] at h4
      obtain ⟨rfl, rfl⟩ := h4
      obtain ⟨v0, g1, g2⟩ := f5 i _ h3
      rcases nl1_cases g2 with rfl | ⟨rfl, n', hn'⟩
      · obtain ⟨u, F, f1, f2, f3, f4⟩ := hψ x _ es pb po bn i n1 e1 hb h2 g1
        exact ⟨u, F, f1, f2, f3, fun q hq => by
          obtain ⟨a1, a2, a3, a4⟩ := f4 q hq
          exact ⟨a1, a2, a3, fun hl => a4 (hO q hl)⟩⟩
      · cases hn'
        obtain ⟨c1, pb', po', c, ty, c2, c3, c4, c5⟩ := hs.mem.at_ x _ _ _ hb h2
        rw [h2] at c2
        simp at c2
        obtain ⟨rfl, rfl, rfl⟩ := c2
        obtain ⟨u, d1, d2, d3⟩ := c5 i .nil g1
        cases d3
        exact ⟨_, [], cell_of c3 d1, .ownnil, by simp, by simp⟩
    · obtain ⟨u, F, f1, f2, f3, f4⟩ := hψ x k es1 pb po bn i n1 e1 h4 h2 h3
      exact ⟨u, F, f1, f2, f3, fun q hq => by
        obtain ⟨a1, a2, a3, a4⟩ := f4 q hq
        exact ⟨a1, a2, a3, fun hl => a4 (hO q hl)⟩⟩
end Go.VL
namespace Go.VL
@[simp high] theorem tm_bnd0 {n k : Nat} : ((tm n []).all (bndT k) = true) = True := eq_true (tm_bnd (by rfl))
end Go.VL
