/- The logic for functions that are told by a function in Lean: loops as a partial iteration, regions by their outcome, opaque number operations, rows of cells. -/
import Derived.Test.YtboeddbhfnlpaaaVxMore
namespace Go.VL
open Go.RowKit
set_option linter.unusedSimpArgs false
set_option linter.unusedVariables false

/-! ### Loops -/
section
variable {σ ρ : Type}
def loopN (body : σ → Option (σ ⊕ ρ)) : Nat → σ → Option ρ
  | 0, _ => none
  | n + 1, x => (body x).bind fun o => match o with | .inl y => loopN body n y | .inr r => some r

def kN (body : σ → Option (σ ⊕ ρ)) (n : Nat) : σ ⊕ ρ → Option ρ
  | .inl y => loopN body n y
  | .inr r => some r

theorem loopN_succ {body : σ → Option (σ ⊕ ρ)} {n : Nat} {x : σ} : loopN body (n + 1) x = (body x).bind (kN body n) := by
  simp only [loopN]
  congr 1

theorem loopN_more {body : σ → Option (σ ⊕ ρ)} : ∀ {n : Nat} {x : σ} {r : ρ}, loopN body n x = some r → loopN body (n + 1) x = some r
  | 0, _, _, h => by cases h
  | n + 1, x, r, h => by
    rw [loopN_succ] at h ⊢
    cases hb : body x with
    | none => rw [hb] at h; cases h
    | some o =>
      rw [hb] at h
      cases o with
      | inl y => exact loopN_more (n := n) h
      | inr r' => exact h

theorem loopN_le {body : σ → Option (σ ⊕ ρ)} {n m : Nat} {x : σ} {r : ρ} (h : loopN body n x = some r) (hl : n ≤ m) : loopN body m x = some r := by
  induction hl with
  | refl => exact h
  | step _ ih => exact loopN_more ih

open Classical in
/-- What the iteration comes to, if it ends. -/
noncomputable def loopO (body : σ → Option (σ ⊕ ρ)) (x : σ) : Option ρ := if h : ∃ n r, loopN body n x = some r then some h.choose_spec.choose else none

theorem loopO_iff {body : σ → Option (σ ⊕ ρ)} {x : σ} {r : ρ} : loopO body x = some r ↔ ∃ n, loopN body n x = some r := by
  unfold loopO
  constructor
  · intro h
    split at h
    · rename_i hh
      cases h
      exact ⟨_, hh.choose_spec.choose_spec⟩
    · cases h
  · intro ⟨n, h⟩
    have hh : ∃ n r, loopN body n x = some r := ⟨n, r, h⟩
    rw [dif_pos hh]
    have h1 := loopN_le hh.choose_spec.choose_spec (Nat.le_max_left hh.choose n)
    have h2 := loopN_le h (Nat.le_max_right hh.choose n)
    rw [h1] at h2
    exact h2

theorem loopO_inl {body : σ → Option (σ ⊕ ρ)} {x y : σ} (h : body x = some (.inl y)) : loopO body x = loopO body y := by
  apply Option.ext
  intro r
  rw [loopO_iff, loopO_iff]
  constructor
  · intro ⟨n, hn⟩
    cases n with
    | zero => cases hn
    | succ n => rw [loopN_succ, h] at hn; exact ⟨n, hn⟩
  · intro ⟨n, hn⟩
    exact ⟨n + 1, by rw [loopN_succ, h]; exact hn⟩

theorem loopO_inr {body : σ → Option (σ ⊕ ρ)} {x : σ} {r : ρ} (h : body x = some (.inr r)) : loopO body x = some r :=
  loopO_iff.2 ⟨1, by rw [loopN_succ, h]; rfl⟩

theorem leafR {body : σ → Option (σ ⊕ ρ)} {n : Nat} {r o : ρ} (h : (some (.inr r) : Option (σ ⊕ ρ)).bind (kN body n) = some o) : o = r := (Option.some.inj h).symm
theorem leafL {body : σ → Option (σ ⊕ ρ)} {n : Nat} {y : σ} {o : ρ} (h : (some (.inl y) : Option (σ ⊕ ρ)).bind (kN body n) = some o) : loopN body n y = some o := h
theorem leafR' {body : σ → Option (σ ⊕ ρ)} {n : Nat} {r o : ρ} (h : kN body n (.inr r) = some o) : o = r := (Option.some.inj h).symm
theorem leafL' {body : σ → Option (σ ⊕ ρ)} {n : Nat} {y : σ} {o : ρ} (h : kN body n (.inl y) = some o) : loopN body n y = some o := h
theorem leafS {α : Type} {r o : α} (h : (some r).bind some = some o) : o = r := (Option.some.inj h).symm
theorem leafS' {α : Type} {r o : α} (h : some r = some o) : o = r := (Option.some.inj h).symm
theorem bindE {α β γ : Type} {e : Option α} {f : α → Option β} {K : β → Option γ} {o : γ} (h : (e.bind f).bind K = some o) : ∃ v, e = some v ∧ (f v).bind K = some o := by
  cases e with
  | none => cases h
  | some v => exact ⟨v, rfl, h⟩
theorem bindT {β γ : Type} {e : Option β} {K : β → Option γ} {o : γ} (h : e.bind K = some o) : ∃ v, e = some v ∧ K v = some o := by
  cases e with
  | none => cases h
  | some v => exact ⟨v, rfl, h⟩
theorem bindQ {α β : Type} {e : Option α} {f : α → Option β} {o : β} (h : e.bind f = some o) : ∃ v, e = some v ∧ f v = some o := by
  cases e with
  | none => cases h
  | some v => exact ⟨v, rfl, h⟩
theorem bindS {α : Type} {e : Option α} {o : α} (h : e = some o) : e.bind some = some o := by rw [h]; rfl
theorem leafX {σ ρ γ : Type} {L : σ → Option (σ ⊕ ρ)} {n : Nat} {E : Option ρ} {w : ρ} {K : ρ → Option γ} {o : γ} (h : (E.bind fun r => some (.inr r)).bind (kN L n) = some w) (hk : K w = some o) : E.bind K = some o := by
  cases E with
  | none => cases h
  | some v => cases (Option.some.inj h : v = w); exact hk
theorem leafX2 {σ ρ τ γ : Type} {L : σ → Option (σ ⊕ (τ ⊕ ρ))} {n : Nat} {E : Option ρ} {w : τ ⊕ ρ} {J : τ → Option ρ} {K : ρ → Option γ} {o : γ} (h : (E.bind fun r => some (.inr (.inr r))).bind (kN L n) = some w) (hk : (match w with | .inl y => J y | .inr r => some r : Option ρ).bind K = some o) : E.bind K = some o := by
  cases E with
  | none => cases h
  | some v => cases (Option.some.inj h : Sum.inr v = w); exact hk
theorem iteT {γ : Type} {p : Prop} [Decidable p] {a b : Option γ} {δ : Type} {K : γ → Option δ} {o : δ} (hp : p) (h : (if p then a else b).bind K = some o) : a.bind K = some o := by rwa [if_pos hp] at h
theorem iteF {γ : Type} {x : Bool} {a b : Option γ} {δ : Type} {K : γ → Option δ} {o : δ} (hp : x = false) (h : (if x = true then a else b).bind K = some o) : b.bind K = some o := by subst hp; simpa using h

end

/-! ### Rules -/
section
variable {P : Program} {C : CEnv} {Q : Exit → VS → Prop} {st : VS}

theorem VW.entPost {c : Code} (h : VW P c (fun e s => ∃ s', Ent s s' ∧ Q e s') st) : VW P c Q st := fun N w0 a w φ hs =>
  wp_mono (h N w0 a w φ hs) fun e a' w' ⟨s, φ', ⟨s', h1, h2⟩, h3⟩ => by
    obtain ⟨φ'', h4⟩ := h1 P N w0 a' w' φ' h3
    exact ⟨s', φ'', h2, h4⟩

theorem VW.loopO {σ ρ : Type} {body : σ → Option (σ ⊕ ρ)} (H : σ → VS) {x0 : σ} {o : ρ} {c : Code} (h : VL.loopO body x0 = some o) (he : Ent st (H x0))
    (round : ∀ n x, (body x).bind (kN body n) = some o → VW P c (vthen (fun s' => ∃ x', loopN body n x' = some o ∧ Ent s' (H x')) Q) (H x)) : VW P (.loop c) Q st := by
  obtain ⟨n, hn⟩ := loopO_iff.1 h
  refine VW.loop (fun n s => ∃ x, loopN body n x = some o ∧ s = H x) he ⟨x0, hn, rfl⟩ fun n s ⟨x, h1, h2⟩ => ?_
  subst h2
  cases n with
  | zero => cases h1
  | succ n =>
    rw [loopN_succ] at h1
    refine (round n x h1).mono fun e s' hq => ?_
    cases e with
    | normal =>
      obtain ⟨x', h3, h4⟩ := hq
      exact ⟨n, H x', h4, Nat.lt_succ_self n, x', h3, rfl⟩
    | _ => exact hq

/-- Code with one way on. -/
theorem VW.join {σ : Type} (H : σ → VS) (K : σ → Prop) {x y : Code} (h : VW P x (vthen (fun s => ∃ v, K v ∧ Ent s (H v)) Q) st) (hj : ∀ v, K v → VW P y Q (H v)) : VW P (.seq x y) Q st := by
  refine VW.seq (h.mono fun e s hq => ?_)
  cases e with
  | normal =>
    obtain ⟨v, h1, h2⟩ := hq
    exact VW.ent h2 (hj v h1)
  | _ => exact hq

/-- A block with one way on. -/
theorem Ent.fgt' {t t' : List V} {m : VM} (h : t.length = t'.length ∧ ∀ (i : Nat) (v : V), t'[i]? = some v → ∀ (w : World) (φ : Pl) (u : Value), (∃ v', t[i]? = some v' ∧ S w (Live φ m) φ v' u) → S w (Live φ m) φ v u) {g : List V} : Ent { t := t, m := m, g := g } { t := t', m := m, g := g } := by
  intro P N w0 a w φ hs
  refine ⟨φ, hs.defers, by rw [hs.size]; exact h.1, fun i v hi => ?_, hs.mem, hs.below, hs.start, hs.gh, hs.gl⟩
  have hi' : i < t.length := by rw [h.1]; exact (List.getElem?_eq_some_iff.1 hi).1
  obtain ⟨u, h1, h2⟩ := hs.tmps i t[i] (List.getElem?_eq_getElem hi')
  exact ⟨u, h1, h.2 i v hi w φ u ⟨_, List.getElem?_eq_getElem hi', h2⟩⟩

/-- b says no more than a. -/
def le1 : V → V → Prop
  | _, .any => True
  | .nil, .sl _ [] => True
  | a, b => a = b
theorem le1_S {w : World} {O : Nat → Prop} {φ : Pl} {a b : V} {u : Value} (h : le1 a b) (hs : S w O φ a u) : S w O φ b u := by
  unfold le1 at h
  split at h
  · exact .any
  · cases hs; exact .slnil
  · subst h; exact hs
def leL : List V → List V → Prop
  | [], [] => True
  | a :: s, b :: t => le1 a b ∧ leL s t
  | _, _ => False
theorem leL.get : ∀ {s t : List V}, leL s t → s.length = t.length ∧ ∀ (i : Nat) (b : V), t[i]? = some b → ∃ a, s[i]? = some a ∧ le1 a b
  | [], [], _ => ⟨rfl, by simp⟩
  | a :: s, b :: t, h => by
    obtain ⟨h1, h2⟩ := leL.get h.2
    refine ⟨by simp [h1], fun i x hx => ?_⟩
    cases i with
    | zero => simp at hx; subst hx; exact ⟨a, rfl, h.1⟩
    | succ i => simpa using h2 i x (by simpa using hx)
  | [], _ :: _, h => h.elim
  | _ :: _, [], h => h.elim
theorem Ent.le {t t' : List V} {m : VM} (h : leL t t') {g : List V} : Ent { t := t, m := m, g := g } { t := t', m := m, g := g } := by
  obtain ⟨h1, h2⟩ := h.get
  refine Ent.fgt' ⟨h1, fun i v hi w φ u ⟨v', hv, hs⟩ => ?_⟩
  obtain ⟨a, ha, hle⟩ := h2 i v hi
  rw [hv] at ha
  cases ha
  exact le1_S hle hs
@[simp] theorem leL_nil : leL [] [] = True := rfl
@[simp] theorem leL_cons {a b : V} {s t : List V} : leL (a :: s) (b :: t) = (le1 a b ∧ leL s t) := rfl
@[simp] theorem le1_any {a : V} : le1 a .any = True := by unfold le1; split <;> simp_all
@[simp] theorem le1_i {a : V} {k : IntKind} {n : Int} : le1 a (.i k n) = (a = .i k n) := by unfold le1; split <;> simp_all
@[simp] theorem le1_b {a : V} {n : Bool} : le1 a (.b n) = (a = .b n) := by unfold le1; split <;> simp_all
@[simp] theorem le1_f {a : V} {k : FloatKind} {n : Option Nat} : le1 a (.f k n) = (a = .f k n) := by unfold le1; split <;> simp_all
@[simp] theorem le1_str {a : V} {n : ByteArray} : le1 a (.str n) = (a = .str n) := by unfold le1; split <;> simp_all
@[simp] theorem le1_s {a : V} {n : Value} : le1 a (.s n) = (a = .s n) := by unfold le1; split <;> simp_all
@[simp] theorem le1_nil {a : V} : le1 a .nil = (a = .nil) := by unfold le1; split <;> simp_all
@[simp] theorem le1_ref {a : V} {b e n : Nat} : le1 a (.ref b e n) = (a = .ref b e n) := by unfold le1; split <;> simp_all
@[simp] theorem le1_refc {a : V} {b e j q n : Nat} : le1 a (.refc b e j q n) = (a = .refc b e j q n) := by unfold le1; split <;> simp_all
@[simp] theorem le1_ptr {a : V} {b e n : Nat} : le1 a (.ptr b e n) = (a = .ptr b e n) := by unfold le1; split <;> simp_all
@[simp] theorem le1_cptr {a : V} {cs : List V} {n : Nat} : le1 a (.cptr cs n) = (a = .cptr cs n) := by unfold le1; split <;> simp_all
@[simp] theorem le1_agg {a : V} {cs : List V} : le1 a (.agg cs) = (a = .agg cs) := by unfold le1; split <;> simp_all
@[simp] theorem le1_tup {a : V} {cs : List V} : le1 a (.tup cs) = (a = .tup cs) := by unfold le1; split <;> simp_all
@[simp] theorem le1_sl {n : Nat} {es es' : List (List V)} {n' : Nat} : le1 (.sl n es) (.sl n' es') = (n = n' ∧ es = es') := by unfold le1; split <;> simp_all
@[simp] theorem le1_nsl {n' : Nat} : le1 .nil (.sl n' []) = True := by unfold le1; simp

/-- Told after a region: its temporaries and blocks. -/
def toSt0 (x : Option VS) (t' : List V) (m' : VM) (g' : List V) : Prop :=
  match x with
  | some s => leL s.t t' ∧ s.m = m' ∧ s.g = g'
  | none => False
/-- The same behind a name that nothing unfolds. -/
structure toSt (x : Option VS) (t' : List V) (m' : VM) (g' : List V) : Prop where
  of ::
  out : toSt0 x t' m' g'
@[simp] theorem toSt_some {s : VS} {t' : List V} {m' : VM} {g' : List V} : toSt (some s) t' m' g' = (leL s.t t' ∧ s.m = m' ∧ s.g = g') := propext ⟨fun h => h.out, fun h => ⟨h⟩⟩
@[simp] theorem toSt_none {t' : List V} {m' : VM} {g' : List V} : toSt none t' m' g' = False := propext ⟨fun h => h.out, fun h => h.elim⟩
theorem toSt.get {x : Option VS} {t' : List V} {m' : VM} {g' : List V} (h : toSt x t' m' g') : ∃ t, x = some { t := t, m := m', g := g' } ∧ leL t t' := by
  cases x with
  | none => exact h.out.elim
  | some s => obtain ⟨h1, h2, h3⟩ := h.out; subst h2; subst h3; exact ⟨s.t, rfl, h1⟩

theorem VW.evalA {id : Nat} {l : List Oper} (t' : List V) (m' : VM) (g' : List V) (hC : C.Ok P) (hg : guardsOk l.toArray l.length none l = true) (h : toSt (veval P C l.toArray l.length none l st) t' m' g') (hQ : Q .normal { t := t', m := m', g := g' }) : VW P (.region id l.toArray false) Q st := by
  obtain ⟨t, h1, h2⟩ := h.get
  exact VW.entPost (.eval hC hg h1 ⟨_, Ent.le h2, hQ⟩)

theorem VW.evalDA {id : Nat} {l : List Oper} (t' : List V) (m' : VM) (g' : List V) (hC : C.Ok P) (hm : P.follows .mixedOrders = true) (hc : (orderB l && noStore l && guardsOk l.toArray l.length none l) = true) (h : toSt (veval P C l.toArray l.length none l st) t' m' g') (hQ : Q .normal { t := t', m := m', g := g' }) : VW P (.region id l.toArray true) Q st := by
  obtain ⟨t, h1, h2⟩ := h.get
  simp only [Bool.and_eq_true] at hc
  exact VW.entPost (.evalD hC hm hc.1.1 hc.1.2 hc.2 h1 ⟨_, Ent.le h2, hQ⟩)
end

/-! ### A nil slice that is handed back -/
def nl1 : V → V → Prop
  | .nil, .own _ [] => True
  | a, b => a = b
def nlL : List V → List V → Prop
  | [], [] => True
  | a :: s, b :: t => nl1 a b ∧ nlL s t
  | _, _ => False
def nl2 : V → V → Prop
  | .agg s, .agg t => nlL s t
  | a, b => nl1 a b
def nlL2 : List V → List V → Prop
  | [], [] => True
  | a :: s, b :: t => nl2 a b ∧ nlL2 s t
  | _, _ => False
def nl : V → V → Prop
  | .tup s, .tup t => nlL2 s t
  | a, b => nl2 a b
theorem nl1_RV {w : World} {a b : V} {u : Value} {F : List Nat} (h : nl1 a b) (hr : RV w a u F) : RV w b u F := by
  unfold nl1 at h
  split at h
  · have h1 := hr.pF rfl
    have h2 := hr.pinv rfl
    subst h1
    cases h2
    exact .ownnil
  · subst h; exact hr
theorem nlL_RV {w : World} : ∀ {a b : List V} {u : List Value} {F : List Nat}, nlL a b → Rl w a u F → Rl w b u F
  | [], [], _, _, _, hr => hr
  | _ :: _, _ :: _, _, _, h, .cons hv hs => .cons (nl1_RV h.1 hv) (nlL_RV h.2 hs)
  | [], _ :: _, _, _, h, _ => h.elim
  | _ :: _, [], _, _, h, _ => h.elim
theorem nl2_RV {w : World} {a b : V} {u : Value} {F : List Nat} (h : nl2 a b) (hr : RV w a u F) : RV w b u F := by
  unfold nl2 at h
  split at h
  · obtain ⟨us, rfl, hr2⟩ := RV.agg_inv hr _ rfl
    exact .agg (nlL_RV h hr2)
  · exact nl1_RV h hr
theorem nlL2_RV {w : World} : ∀ {a b : List V} {u : List Value} {F : List Nat}, nlL2 a b → Rl w a u F → Rl w b u F
  | [], [], _, _, _, hr => hr
  | _ :: _, _ :: _, _, _, h, .cons hv hs => .cons (nl2_RV h.1 hv) (nlL2_RV h.2 hs)
  | [], _ :: _, _, _, h, _ => h.elim
  | _ :: _, [], _, _, h, _ => h.elim
theorem nl_RV {w : World} {a b : V} {u : Value} {F : List Nat} (h : nl a b) (hr : RV w a u F) : RV w b u F := by
  unfold nl at h
  split at h
  · obtain ⟨us, rfl, hr2⟩ := RV.tup_inv hr _ rfl
    exact .tup (nlL2_RV h hr2)
  · exact nl2_RV h hr
theorem VCalls.nl {P : Program} {f : FuncId} {args : List V} {r : V} (h : VCalls P f args (fun x => nl x r)) : VCalls P f args (fun x => x = r) := fun w us hg hs =>
  (h w us hg hs).mono fun e w' ⟨x, u, F, h1, h2, h3, h4⟩ => ⟨r, u, F, h1, rfl, nl_RV h2 h3, h4⟩
@[simp] theorem nl1_i {a : V} {k : IntKind} {n : Int} : nl1 a (.i k n) = (a = .i k n) := by unfold nl1; split <;> simp_all
@[simp] theorem nl1_b {a : V} {n : Bool} : nl1 a (.b n) = (a = .b n) := by unfold nl1; split <;> simp_all
@[simp] theorem nl1_f {a : V} {k : FloatKind} {n : Option Nat} : nl1 a (.f k n) = (a = .f k n) := by unfold nl1; split <;> simp_all
@[simp] theorem nl1_str {a : V} {n : ByteArray} : nl1 a (.str n) = (a = .str n) := by unfold nl1; split <;> simp_all
@[simp] theorem nl1_s {a : V} {n : Value} : nl1 a (.s n) = (a = .s n) := by unfold nl1; split <;> simp_all
@[simp] theorem nl1_nil {a : V} : nl1 a .nil = (a = .nil) := by unfold nl1; split <;> simp_all
@[simp] theorem nl1_own {n n' : Nat} {es es' : List (List V)} : nl1 (.own n es) (.own n' es') = (n = n' ∧ es = es') := by unfold nl1; split <;> simp_all
@[simp] theorem nl1_nown {n' : Nat} : nl1 .nil (.own n' []) = True := by unfold nl1; simp
@[simp] theorem nlL_nil : nlL [] [] = True := rfl
@[simp] theorem nlL_cons {a b : V} {s t : List V} : nlL (a :: s) (b :: t) = (nl1 a b ∧ nlL s t) := rfl
@[simp] theorem nlL2_nil : nlL2 [] [] = True := rfl
@[simp] theorem nlL2_cons {a b : V} {s t : List V} : nlL2 (a :: s) (b :: t) = (nl2 a b ∧ nlL2 s t) := rfl
@[simp] theorem nl2_agg {s t : List V} : nl2 (.agg s) (.agg t) = nlL s t := rfl
@[simp] theorem nl2_i {a : V} {k : IntKind} {n : Int} : nl2 a (.i k n) = (a = .i k n) := by unfold nl2; split <;> simp_all
@[simp] theorem nl2_b {a : V} {n : Bool} : nl2 a (.b n) = (a = .b n) := by unfold nl2; split <;> simp_all
@[simp] theorem nl2_f {a : V} {k : FloatKind} {n : Option Nat} : nl2 a (.f k n) = (a = .f k n) := by unfold nl2; split <;> simp_all
@[simp] theorem nl2_str {a : V} {n : ByteArray} : nl2 a (.str n) = (a = .str n) := by unfold nl2; split <;> simp_all
@[simp] theorem nl2_own {a : V} {n : Nat} {es : List (List V)} : nl2 a (.own n es) = nl1 a (.own n es) := by unfold nl2; split <;> simp_all
@[simp] theorem nl_tup {s t : List V} : nl (.tup s) (.tup t) = nlL2 s t := rfl
@[simp] theorem nl_agg {s t : List V} : nl (.agg s) (.agg t) = nlL s t := rfl
@[simp] theorem nl_i {a : V} {k : IntKind} {n : Int} : nl a (.i k n) = (a = .i k n) := by unfold nl; split <;> simp_all
@[simp] theorem nl_b {a : V} {n : Bool} : nl a (.b n) = (a = .b n) := by unfold nl; split <;> simp_all
@[simp] theorem nl_f {a : V} {k : FloatKind} {n : Option Nat} : nl a (.f k n) = (a = .f k n) := by unfold nl; split <;> simp_all
@[simp] theorem nl_str {a : V} {n : ByteArray} : nl a (.str n) = (a = .str n) := by unfold nl; split <;> simp_all
@[simp] theorem nl_own {a : V} {n : Nat} {es : List (List V)} : nl a (.own n es) = nl1 a (.own n es) := by unfold nl; split <;> simp_all

/-! ### What a function tells -/
open Classical in
noncomputable def tells {α β : Type} (g : α → Option β) (eA : α → List V) (eB : β → V) : List V → Option V := fun vs =>
  if h : ∃ p : α × β, eA p.1 = vs ∧ g p.1 = some p.2 then some (eB h.choose.2) else none

theorem tells_eq {α β : Type} {g : α → Option β} {eA : α → List V} {eB : β → V} (hinj : ∀ a a', eA a = eA a' → a = a') {a : α} {b : β} (h : g a = some b) : tells g eA eB (eA a) = some (eB b) := by
  unfold tells
  have hh : ∃ p : α × β, eA p.1 = eA a ∧ g p.1 = some p.2 := ⟨(a, b), rfl, h⟩
  rw [dif_pos hh]
  obtain ⟨h1, h2⟩ := hh.choose_spec
  rw [hinj _ _ h1, h] at h2
  exact congrArg (fun x => some (eB x)) (Option.some.inj h2).symm

theorem Tells.of {P : Program} {f : FuncId} {α β : Type} {g : α → Option β} {eA : α → List V} {eB : β → V} (hf : (P.funcs[f]?).any (fun fn => fn.body.isSome && fn.name != "runtime.NumGoroutine") = true)
    (h : ∀ a b, g a = some b → VCalls P f (eA a) (fun x => x = eB b)) : Tells P f (tells g eA eB) := ⟨hf, fun args r hr => by
  unfold tells at hr
  split at hr
  · rename_i hh
    obtain rfl := Option.some.inj hr
    obtain ⟨h1, h2⟩ := hh.choose_spec
    have := h _ _ h2
    rwa [h1] at this
  · cases hr⟩

/-! ### Numbers -/
def aI (k : IntKind) (a b : Int) : Int := k.wrap (a + b)
def sI (k : IntKind) (a b : Int) : Int := k.wrap (a - b)
def mI (k : IntKind) (a b : Int) : Int := k.wrap (a * b)
def dI (k : IntKind) (a b : Int) : Option Int := if b = 0 then none else some (k.wrap (a.tdiv b))
def rI (k : IntKind) (a b : Int) : Option Int := if b = 0 then none else some (a.tmod b)
def andI (k : IntKind) (a b : Int) : Int := k.wrap (BitVec.ofInt k.bits a &&& BitVec.ofInt k.bits b).toNat
def andnI (k : IntKind) (a b : Int) : Int := k.wrap (BitVec.ofInt k.bits a &&& ~~~ BitVec.ofInt k.bits b).toNat
def orI (k : IntKind) (a b : Int) : Int := k.wrap (BitVec.ofInt k.bits a ||| BitVec.ofInt k.bits b).toNat
def xorI (k : IntKind) (a b : Int) : Int := k.wrap (BitVec.ofInt k.bits a ^^^ BitVec.ofInt k.bits b).toNat
def shlI (k : IntKind) (a b : Int) : Option Int := if b < 0 then none else some (k.wrap (a * 2 ^ (min b.toNat k.bits)))
def shrI (k : IntKind) (a b : Int) : Option Int := if b < 0 then none else some (a.fdiv (2 ^ (min b.toNat k.bits)))
def negI (k : IntKind) (a : Int) : Int := k.wrap (0 - a)
def cI (k : IntKind) (a : Int) : Int := k.wrap a
def minI (a b : Int) : Int := if b < a then b else a
def maxI (a b : Int) : Int := if a < b then b else a
def ltI (a b : Int) : Bool := decide (a < b)
def leI (a b : Int) : Bool := decide (a ≤ b)
def eqI (a b : Int) : Bool := a == b
def eqS (a b : ByteArray) : Bool := a.data.toList == b.data.toList
def catS (a b : ByteArray) : Option ByteArray := if a.size + b.size ≤ 9223372036854775807 then some (a ++ b) else none
abbrev F32 := Option Nat
def eqF (k : FloatKind) (a b : F32) : Bool := ford k a b == some .eq
def neF (k : FloatKind) (a b : F32) : Bool := ford k a b != some .eq
def ltF (k : FloatKind) (a b : F32) : Bool := ford k a b == some .lt
def leF (k : FloatKind) (a b : F32) : Bool := ford k a b == some .lt || ford k a b == some .eq
def gtF (k : FloatKind) (a b : F32) : Bool := ford k a b == some .gt
def geF (k : FloatKind) (a b : F32) : Bool := ford k a b == some .gt || ford k a b == some .eq
def addF (k : FloatKind) (a b : F32) : F32 := fop .add k a b
def subF (k : FloatKind) (a b : F32) : F32 := fop .sub k a b
def mulF (k : FloatKind) (a b : F32) : F32 := fop .mul k a b
def quoF (k : FloatKind) (a b : F32) : F32 := fop .quo k a b
def negF (k : FloatKind) (a : F32) : F32 := a.map (Op.negFloat k)
def idx {α : Type} (xs : List α) (i : Int) : Option α := if 0 ≤ i then xs[i.toNat]? else none
def idxS (s : ByteArray) (i : Int) : Option Int := if 0 ≤ i then (s.data.toList[i.toNat]?).map fun c => (c.toNat : Int) else none
/-- Only checks. -/
def mk (bytes : Nat) (n : Int) : Option Unit := if 0 ≤ n ∧ bytes * n.toNat ≤ 281474976710656 ∧ n.toNat ≤ 9223372036854775807 then some () else none
section
variable {k : IntKind} {fk : FloatKind} {a b : Int} {x y : F32} {s t : ByteArray} {T : TK}
@[simp] theorem vbP_i {P : Program} {t : TypeId} {op : BinOp} {x y : Operand} {v : V} : vbinP P t op x y (.i k a) v = vbin (tk P t) op (.i k a) v := by cases v <;> rfl
@[simp] theorem vbP_f {P : Program} {t : TypeId} {op : BinOp} {a b : Operand} {v : V} : vbinP P t op a b (.f fk x) v = vbin (tk P t) op (.f fk x) v := by cases v <;> rfl
@[simp] theorem vbP_str {P : Program} {t' : TypeId} {op : BinOp} {x y : Operand} {v : V} : vbinP P t' op x y (.str s) v = vbin (tk P t') op (.str s) v := by cases v <;> rfl
@[simp] theorem vbP_b {P : Program} {t : TypeId} {op : BinOp} {x y : Operand} {v : V} {c : Bool} : vbinP P t op x y (.b c) v = vbin (tk P t) op (.b c) v := by cases v <;> rfl
@[simp] theorem vbP_agg {P : Program} {t : TypeId} {op : BinOp} {x y : Operand} {xs ys : List V} : vbinP P t op x y (.agg xs) (.agg ys) = vaeq P t op xs ys := rfl
@[simp] theorem vbP_err {P : Program} {t : TypeId} {op : BinOp} {x y : Operand} : vbinP P t op x y .err (.s .nilIface) = vnil P t op false := rfl
@[simp] theorem vbP_nil {P : Program} {t : TypeId} {op : BinOp} {x : Operand} {c : Value} : vbinP P t op x (.const c) (.s .nilIface) (.s .nilIface) = vnil P t op true := rfl
@[simp] theorem vnil_eql {P : Program} {t : TypeId} {r : Bool} (h : ifaceB P t = true) : vnil P t .eql r = some (.b r) := by simp [vnil, h]
@[simp] theorem vnil_neq {P : Program} {t : TypeId} {r : Bool} (h : ifaceB P t = true) : vnil P t .neq r = some (.b (!r)) := by simp [vnil, h]
@[simp] theorem vaeq_eql {P : Program} {t : TypeId} {xs ys : List V} (h : aeqOk P t xs.length = true) : vaeq P t .eql xs ys = (eqIs xs ys).map .b := by simp [vaeq, h]
@[simp] theorem vaeq_neq {P : Program} {t : TypeId} {xs ys : List V} (h : aeqOk P t xs.length = true) : vaeq P t .neq xs ys = (eqIs xs ys).map fun r => .b (!r) := by simp [vaeq, h]
@[simp] theorem eqIs_one : eqIs [.i k a] [.i k b] = some (eqI a b) := by simp [eqIs, eqI]
@[simp] theorem eqIs_cons {x y : V} {xs ys : List V} : eqIs (.i k a :: x :: xs) (.i k b :: y :: ys) = (eqIs (x :: xs) (y :: ys)).map fun r => eqI a b && r := by rw [eqIs, if_pos rfl]; rfl
@[simp] theorem vb_add : vbin T .add (.i k a) (.i k b) = some (.i k (aI k a b)) := by simp [vbin, vbinI, isShift, aI]
@[simp] theorem vb_sub : vbin T .sub (.i k a) (.i k b) = some (.i k (sI k a b)) := by simp [vbin, vbinI, isShift, sI]
@[simp] theorem vb_mul : vbin T .mul (.i k a) (.i k b) = some (.i k (mI k a b)) := by simp [vbin, vbinI, isShift, mI]
@[simp] theorem vb_quo : vbin T .quo (.i k a) (.i k b) = (dI k a b).map (.i k) := by simp [vbin, vbinI, isShift, dI]; split <;> simp
@[simp] theorem vb_rem : vbin T .rem (.i k a) (.i k b) = (rI k a b).map (.i k) := by simp [vbin, vbinI, isShift, rI]; split <;> simp
@[simp] theorem vb_and : vbin T .and (.i k a) (.i k b) = some (.i k (andI k a b)) := by simp [vbin, vbinI, isShift, andI]
@[simp] theorem vb_andn : vbin T .andNot (.i k a) (.i k b) = some (.i k (andnI k a b)) := by simp [vbin, vbinI, isShift, andnI]
@[simp] theorem vb_or : vbin T .or (.i k a) (.i k b) = some (.i k (orI k a b)) := by simp [vbin, vbinI, isShift, orI]
@[simp] theorem vb_xor : vbin T .xor (.i k a) (.i k b) = some (.i k (xorI k a b)) := by simp [vbin, vbinI, isShift, xorI]
@[simp] theorem vb_shl {k' : IntKind} : vbin T .shl (.i k a) (.i k' b) = (shlI k a b).map (.i k) := by simp [vbin, vshift, isShift, shlI]; split <;> simp
@[simp] theorem vb_shr {k' : IntKind} : vbin T .shr (.i k a) (.i k' b) = (shrI k a b).map (.i k) := by simp [vbin, vshift, isShift, shrI]; split <;> simp
@[simp] theorem vb_eql : vbin T .eql (.i k a) (.i k b) = some (.b (eqI a b)) := by simp [vbin, vbinI, isShift, eqI]
@[simp] theorem vb_neq : vbin T .neq (.i k a) (.i k b) = some (.b (!eqI a b)) := by simp [vbin, vbinI, isShift, eqI, bne]
@[simp] theorem vb_lss : vbin T .lss (.i k a) (.i k b) = some (.b (ltI a b)) := by simp [vbin, vbinI, isShift, ltI]
@[simp] theorem vb_leq : vbin T .leq (.i k a) (.i k b) = some (.b (leI a b)) := by simp [vbin, vbinI, isShift, leI]
@[simp] theorem vb_gtr : vbin T .gtr (.i k a) (.i k b) = some (.b (ltI b a)) := by simp [vbin, vbinI, isShift, ltI]
@[simp] theorem vb_geq : vbin T .geq (.i k a) (.i k b) = some (.b (leI b a)) := by simp [vbin, vbinI, isShift, leI]
@[simp] theorem vb_fadd : vbin T .add (.f fk x) (.f fk y) = some (.f fk (addF fk x y)) := by simp [vbin, vbinF, addF]
@[simp] theorem vb_fsub : vbin T .sub (.f fk x) (.f fk y) = some (.f fk (subF fk x y)) := by simp [vbin, vbinF, subF]
@[simp] theorem vb_fmul : vbin T .mul (.f fk x) (.f fk y) = some (.f fk (mulF fk x y)) := by simp [vbin, vbinF, mulF]
@[simp] theorem vb_fquo : vbin T .quo (.f fk x) (.f fk y) = some (.f fk (quoF fk x y)) := by simp [vbin, vbinF, quoF]
@[simp] theorem vb_feql : vbin T .eql (.f fk x) (.f fk y) = some (.b (eqF fk x y)) := by simp [vbin, vbinF, eqF]
@[simp] theorem vb_fneq : vbin T .neq (.f fk x) (.f fk y) = some (.b (neF fk x y)) := by simp [vbin, vbinF, neF]
@[simp] theorem vb_flss : vbin T .lss (.f fk x) (.f fk y) = some (.b (ltF fk x y)) := by simp [vbin, vbinF, ltF]
@[simp] theorem vb_fleq : vbin T .leq (.f fk x) (.f fk y) = some (.b (leF fk x y)) := by simp [vbin, vbinF, leF]
@[simp] theorem vb_fgtr : vbin T .gtr (.f fk x) (.f fk y) = some (.b (gtF fk x y)) := by simp [vbin, vbinF, gtF]
@[simp] theorem vb_fgeq : vbin T .geq (.f fk x) (.f fk y) = some (.b (geF fk x y)) := by simp [vbin, vbinF, geF]
@[simp] theorem vb_sadd : vbin T .add (.str s) (.str t) = (catS s t).map .str := by simp only [vbin, vbinS, catS]; split <;> simp
@[simp] theorem vb_seql : vbin T .eql (.str s) (.str t) = some (.b (eqS s t)) := by simp [vbin, vbinS, eqS]
@[simp] theorem vb_sneq : vbin T .neq (.str s) (.str t) = some (.b (!eqS s t)) := by simp [vbin, vbinS, eqS]
@[simp] theorem vb_beql {c d : Bool} : vbin .bool .eql (.b c) (.b d) = some (.b (c == d)) := by simp [vbin]
@[simp] theorem vb_bneq {c d : Bool} : vbin .bool .neq (.b c) (.b d) = some (.b (!(c == d))) := by simp [vbin]
@[simp] theorem vu_neg : vun .neg (.i k a) = some (.i k (negI k a)) := by simp [vun, negI]
@[simp] theorem vu_fneg : vun .neg (.f fk x) = some (.f fk (negF fk x)) := by simp [vun, negF]
@[simp] theorem vu_not {c : Bool} : vun .not (.b c) = some (.b (!c)) := by simp [vun]
@[simp] theorem vc_int {A : TK} {k' : IntKind} (h : A ≠ .other) : vconv A (.int k) (.i k' a) = some (.i k (cI k a)) := by simp [vconv, h, cI]
@[simp] theorem vc_str {A : TK} (h : A ≠ .other) : vconv A .str (.str s) = some (.str s) := by simp [vconv, h]
end

def appK {α : Type} (bytes : Nat) (xs ys : List α) : Option Unit := if (xs.length + ys.length) * bytes ≤ 140737488355328 ∧ xs.length + ys.length ≤ 9223372036854775807 then some () else none
def cutK (lo hi : Int) (len : Nat) : Option Unit := if 0 ≤ lo ∧ 0 ≤ hi ∧ lo.toNat ≤ hi.toNat ∧ hi.toNat ≤ len then some () else none
theorem appK_some {α : Type} {b : Nat} {xs ys : List α} {u : Unit} (h : appK b xs ys = some u) : (xs.length + ys.length) * b ≤ 140737488355328 ∧ xs.length + ys.length ≤ 9223372036854775807 := by
  unfold appK at h
  split at h
  · assumption
  · cases h
theorem cutK_some {lo hi : Int} {n : Nat} {u : Unit} (h : cutK lo hi n = some u) : 0 ≤ lo ∧ 0 ≤ hi ∧ lo.toNat ≤ hi.toNat ∧ hi.toNat ≤ n := by
  unfold cutK at h
  split at h
  · assumption
  · cases h
theorem min_fold {a b : Int} : (if b < a then b else a) = minI a b := rfl
theorem max_fold {a b : Int} : (if a < b then b else a) = maxI a b := rfl
theorem idx_some {α : Type} {xs : List α} {i : Int} {x : α} (h : idx xs i = some x) : 0 ≤ i ∧ xs[i.toNat]? = some x ∧ i.toNat < xs.length ∧ ∀ h : i.toNat < xs.length, xs[i.toNat] = x := by
  unfold idx at h
  split at h
  · exact ⟨‹_›, h, (List.getElem?_eq_some_iff.1 h).1, fun _ => (List.getElem?_eq_some_iff.1 h).2⟩
  · cases h
theorem idxS_some {s : ByteArray} {i : Int} {x : Int} (h : idxS s i = some x) : 0 ≤ i ∧ ∃ c, s.data.toList[i.toNat]? = some c ∧ (c.toNat : Int) = x := by
  unfold idxS at h
  split at h
  · rw [Option.map_eq_some_iff] at h; exact ⟨‹_›, h⟩
  · cases h
theorem mk_some {b : Nat} {n : Int} {u : Unit} (h : mk b n = some u) : 0 ≤ n ∧ b * n.toNat ≤ 281474976710656 ∧ n.toNat ≤ 9223372036854775807 := by
  unfold mk at h
  split at h
  · assumption
  · cases h
/-! ### Rows -/
/-- The cells of elements, one after the other. -/
def rows {α : Type} (c : α → List V) (xs : List α) : List (List V) := xs.map c
/-- Its cells are numbers and strings. -/
class Pln {α : Type} (c : α → List V) : Prop where
  pl : ∀ x, plainL (c x) = true
/-- Its cells stand for themselves. -/
class Snp {α : Type} (c : α → List V) : Prop where
  sn : ∀ x, snapL (c x) = true
  ce : ∀ x, (c x).all cellV = true
instance {α : Type} {c : α → List V} [h : Pln c] : Snp c := ⟨fun x => plainL_snap (h.pl x), fun x => List.all_eq_true.2 fun v hv => plain_cell (List.all_eq_true.1 (h.pl x) v hv)⟩

section
variable {α : Type} {c : α → List V} {xs ys : List α} {n i : Nat}
@[simp] theorem rows_length : (rows c xs).length = xs.length := by simp [rows]
@[simp] theorem rows_get? : (rows c xs)[i]? = (xs[i]?).map c := by simp [rows]
@[simp] theorem rows_get (h : i < (rows c xs).length) : (rows c xs)[i] = c (xs[i]'(by simpa using h)) := by simp [rows]
@[simp] theorem rows_take : (rows c xs).take n = rows c (xs.take n) := by simp [rows]
@[simp] theorem rows_drop : (rows c xs).drop n = rows c (xs.drop n) := by simp [rows]
@[simp] theorem rows_append : rows c xs ++ rows c ys = rows c (xs ++ ys) := by simp [rows]
@[simp] theorem rows_nil : rows c ([] : List α) = [] := rfl
theorem rows_cons {x : α} : rows c (x :: xs) = c x :: rows c xs := rfl
theorem rows_set {x : α} : (rows c xs).set i (c x) = rows c (xs.set i x) := by simp [rows, List.map_set]
theorem rows_rep {x : α} : List.replicate n (c x) = rows c (List.replicate n x) := by simp [rows]
theorem rows_snoc {x : α} : rows c xs ++ [c x] = rows c (xs ++ [x]) := by simp [rows]
@[simp] theorem rows_plain [h : Pln c] : plainE (rows c xs) = true := plainE_of fun x hx => by
  obtain ⟨y, _, rfl⟩ := List.mem_map.1 hx
  exact h.pl y
@[simp] theorem rows_snap [h : Snp c] : snapE (rows c xs) = true := List.all_eq_true.2 fun x hx => by
  obtain ⟨y, _, rfl⟩ := List.mem_map.1 hx
  exact h.sn y
@[simp] theorem rows_pown [h : Pln c] : pownE (rows c xs) = true := plainE_pown rows_plain
@[simp] theorem rows_kept [h : Pln c] : keptE (rows c xs) = true := List.all_eq_true.2 fun x hx => List.all_eq_true.2 fun v hv => by
  obtain ⟨y, _, rfl⟩ := List.mem_map.1 hx
  have := List.all_eq_true.1 (h.pl y) v hv
  unfold keptV
  split
  · rfl
  · exact this
@[simp] theorem rows_unE [h : Snp c] : unE (rows c xs) = rows c xs := snapE_un rows_snap
@[simp] theorem rows_frz [h : Pln c] : frzE (rows c xs) = rows c xs := frzE_same rows_plain
theorem snap_bnd {k : Nat} {v : V} (h : snapV v = true) : bndV k v = true := by cases v <;> first | rfl | (cases h; done)
theorem snapL_bnd {k : Nat} {l : List V} (h : snapL l = true) : l.all (bndV k) = true := List.all_eq_true.2 fun v hv => snap_bnd (List.all_eq_true.1 h v hv)
theorem snapE_bnd {k : Nat} {l : List (List V)} (h : snapE l = true) : (l.all fun x => x.all (bndV k)) = true := List.all_eq_true.2 fun x hx => snapL_bnd (List.all_eq_true.1 h x hx)
@[simp] theorem rows_bnd [h : Snp c] {k : Nat} : ((rows c xs).all fun x => x.all (bndV k)) = true := snapE_bnd rows_snap
theorem snap_noB {b : Nat} {v : V} (h : snapV v = true) : noBV b v = true := by cases v <;> first | rfl | (cases h; done)
@[simp] theorem rows_noB [h : Snp c] {b : Nat} : noBE b (rows c xs) = true := List.all_eq_true.2 fun x hx => List.all_eq_true.2 fun v hv => by
  obtain ⟨y, _, rfl⟩ := List.mem_map.1 hx
  exact snap_noB (List.all_eq_true.1 (h.sn y) v hv)
@[simp] theorem rows_cellO [h : Snp c] : cellOE (rows c xs) = true := List.all_eq_true.2 fun x hx => List.all_eq_true.2 fun v hv => by
  obtain ⟨y, _, rfl⟩ := List.mem_map.1 hx
  exact cellV_O (List.all_eq_true.1 (h.ce y) v hv)
@[simp] theorem rows_cell [h : Snp c] : cellE (rows c xs) = true := List.all_eq_true.2 fun x hx => by
  obtain ⟨y, _, rfl⟩ := List.mem_map.1 hx
  exact h.ce y
theorem rows_inj (hc : ∀ x y, c x = c y → x = y) : ∀ {xs ys : List α}, rows c xs = rows c ys → xs = ys
  | [], [], _ => rfl
  | x :: xs, y :: ys, h => by
    simp only [rows_cons, List.cons.injEq] at h
    rw [hc _ _ h.1, rows_inj hc h.2]
  | [], _ :: _, h => by simp [rows_cons] at h
  | _ :: _, [], h => by simp [rows_cons] at h
end
/-- Rows are equal only if what they tell is. -/
theorem ri {α : Type} {c : α → List V} (hc : ∀ x y, c x = c y → x = y) {xs ys : List α} : rows c xs = rows c ys ↔ xs = ys := ⟨rows_inj hc, fun h => by rw [h]⟩
abbrev A : V := .any
@[simp] def A4 (l : List V) : List V := A :: A :: A :: A :: l
@[simp] def A16 (l : List V) : List V := A :: A :: A :: A :: A :: A :: A :: A :: A :: A :: A :: A :: A :: A :: A :: A :: l
@[simp] def A64 (l : List V) : List V := A16 (A16 (A16 (A16 l)))
attribute [simp] rows_cons
end Go.VL
