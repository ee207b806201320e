/- A call that is carried out in place: the function called works in the caller's own memory; the caller's temporaries are kept. -/
import Derived.Test.YtboeddbhfnlpaaaVxDec
namespace Go.VL
open Go.RowKit
set_option linter.unusedSimpArgs false
set_option linter.unusedVariables false

theorem Sl.split {w : World} {O : Nat → Prop} {φ : Pl} {vs : List V} {us us' : List Value} (h : Sl w O φ vs (us ++ us')) : Sl w O φ (vs.take us.length) us ∧ Sl w O φ (vs.drop us.length) us' := by
  have h1 := h.take us.length
  have h2 := h.drop us.length
  rw [List.take_left] at h1
  rw [List.drop_left] at h2
  exact ⟨h1, h2⟩

section
variable {P : Program} {C : CEnv} {Q : Exit → VS → Prop} {st : VS}

/-- What must hold where the body of a function that is carried out in place ends. -/
def VIn (P : Program) (rs : List ResultVar) (n : Nat) (dst : Option Tmp) (K : VS → Prop) : Exit → VS → Prop
  | .normal, s | .ret, s => ∃ v, vres P rs s = some v ∧ K { t := putV (s.g.take n) dst v, m := s.m, g := s.g.drop n }
  | _, _ => False

theorem VL.inl {ops : Array Oper} {o : Oper} {l : List Oper} {f : FuncId} {fn : Func} {c : Code} {args : Array Operand} {ats : Array TypeId} (hog : o.guard = none)
    (ho : o.op = .call { callee := .value (.func f), args := args, argTypes := ats }) (hf : P.funcs[f]? = some fn) (hname : (fn.name != "runtime.NumGoroutine") = true) (hb : fn.body = some c)
    (h : VW P c (VIn P fn.results.toList st.t.length o.dst (VL P ops Q l)) { t := args.toList.map (ev st.t) ++ List.replicate (fn.ntmps - args.size) .any, m := st.m, g := st.t ++ st.g }) : VL P ops Q (o :: l) st := by
  intro N w0 a w φ hs
  have hw : vwanted ops st.t o = some true := by unfold vwanted; rw [hog]
  unfold wpList
  rw [vwanted_sound hw hs, if_pos rfl]
  left
  have hargs : Sl w (Live φ st.m) φ (args.toList.map (ev st.t)) (args.toList.map a.eval) := by
    have : ∀ q : List Operand, Sl w (Live φ st.m) φ (q.map (ev st.t)) (q.map a.eval) := fun q => by
      induction q with
      | nil => exact .nil
      | cons x q ih => exact .cons (hs.eval x) ih
    exact this _
  have hrun : (execOp a.eval o).run P w = .ok (.enter f (args.map a.eval)) w := by
    have b3 : fn.body ≠ none := by rw [hb]; simp
    have b2 : ¬ fn.name = "runtime.NumGoroutine" := by simpa using hname
    simp [execOp, ho, resolve, Act.eval, Deferred.ofValue, invoke, callFunc, hf, b2, b3]
  have hlen := hargs.length
  have htm : Sl w (Live φ st.m) φ st.t a.tmps.toList := Sl.of_get (by simpa using hs.size) fun i v u h1 h2 => by
    obtain ⟨u', h3, h4⟩ := hs.tmps i v h1
    have : a.tmps[i]? = some u := by simpa using h2
    rw [this] at h3
    cases h3
    exact h4
  have hsr : SR P N (w0.1, a.tmps.toList ++ w0.2) { t := args.toList.map (ev st.t) ++ List.replicate (fn.ntmps - args.size) .any, m := st.m, g := st.t ++ st.g } { tmps := args.map a.eval ++ Array.replicate (fn.ntmps - (args.map a.eval).size) undef, defers := [] } w φ := by
    refine ⟨rfl, by simp, fun i v hi => ?_, hs.mem, hs.below, hs.start, htm.append hs.gh, hs.gl⟩
    simp only at hi
    rw [List.getElem?_append] at hi
    split at hi
    · rename_i hlt
      obtain ⟨u, a1, a2⟩ := hargs.get hi
      refine ⟨u, ?_, a2⟩
      rw [Array.getElem?_append_left (by simpa using hlt)]
      simpa using a1
    · rename_i hge
      have hlt2 : i - (args.toList.map (ev st.t)).length < fn.ntmps - args.size := by
        have := (List.getElem?_eq_some_iff.1 hi).1
        simpa using this
      have hv : v = .any := (List.mem_replicate.1 (List.mem_of_getElem? hi)).2
      subst hv
      refine ⟨undef, ?_, .any⟩
      rw [Array.getElem?_append_right (by simpa using hge), Array.getElem?_replicate, if_pos (by simpa using hlt2)]
  have hcalls : Calls P f (args.map a.eval) w (fun e w' => ∃ u a' φ' s v, e = .returned u ∧ vres P fn.results.toList s = some v ∧ VL P ops Q l { t := putV (s.g.take st.t.length) o.dst v, m := s.m, g := s.g.drop st.t.length } ∧ SR P N (w0.1, a.tmps.toList ++ w0.2) s a' w' φ' ∧ S w' (Live φ' s.m) φ' v u) := by
    refine calls_of_wp hf hb ?_
    refine wp_mono (h N (w0.1, a.tmps.toList ++ w0.2) _ w φ hsr) fun e a' w' ⟨s, φ', hq, hs'⟩ => ?_
    have key : (∃ v, vres P fn.results.toList s = some v ∧ VL P ops Q l { t := putV (s.g.take st.t.length) o.dst v, m := s.m, g := s.g.drop st.t.length }) → a'.defers = [] ∧ ∃ v, (results fn a'.tmps).run P w' = .ok v w' ∧ ∃ u a' φ' s v', Ending.returned v = .returned u ∧ vres P fn.results.toList s = some v' ∧ VL P ops Q l { t := putV (s.g.take st.t.length) o.dst v', m := s.m, g := s.g.drop st.t.length } ∧ SR P N (w0.1, a.tmps.toList ++ w0.2) s a' w' φ' ∧ S w' (Live φ' s.m) φ' v' u := by
      intro ⟨v, h1, h2⟩
      obtain ⟨u, b1, b2⟩ := vres_sound hs' h1
      exact ⟨hs'.defers, u, b1, u, a', φ', s, v, rfl, h1, h2, hs', b2⟩
    cases e with
    | normal => exact key hq
    | ret => exact key hq
    | exit id => exact hq.elim
    | goto l => exact hq.elim
    | panic c => exact hq.elim
    | outgrown => exact hq.elim
  unfold Oper.wp
  rw [hrun, Oper.upon_enter]
  refine hcalls.mono fun e w' ⟨u, a', φ', s, v, he, h1, h2, hs', hv⟩ => ?_
  subst he
  obtain ⟨g1, g2⟩ := Sl.split hs'.gh
  have hsz : a.tmps.toList.length = st.t.length := by simpa using hs.size
  rw [hsz] at g1 g2
  have hsc : SR P N w0 { t := s.g.take st.t.length, m := s.m, g := s.g.drop st.t.length } a w' φ' := by
    refine ⟨hs.defers, ?_, fun i v hi => ?_, hs'.mem, hs'.below, hs'.start, g2, hs'.gl⟩
    · have := g1.length; simp only; rw [← this]; simp
    · obtain ⟨u, u1, u2⟩ := g1.get hi
      exact ⟨u, by simpa using u1, u2⟩
  exact h2 N w0 _ _ φ' (hsc.put hv hs'.mem (Ev.refl _ _ _) (Bel.refl _ _))

theorem VL.evalP {ops : Array Oper} {l : List Oper} (t' : List V) (m' : VM) (g' : List V) (hC : C.Ok P) (hg : guardsOk ops l.length none l = true) (h : toSt (veval P C ops l.length none l st) t' m' g') (hQ : Q .normal { t := t', m := m', g := g' }) :
    VL P ops (fun e s => ∃ s', Ent s s' ∧ Q e s') l st := by
  obtain ⟨t, h1, h2⟩ := h.get
  have := (veval_ste _ _ _ _ _ h1 hg (fun _ _ h => by cases h)).vl (Q := fun e s => ∃ s', Ent s s' ∧ Q e s') (rest := []) hC (VL.nil ⟨_, Ent.le h2, hQ⟩)
  simpa using this

/-- A region in which calls are carried out in place. -/
theorem VW.inlS {id : Nat} {l : List Oper} (h : VL P l.toArray (fun e s => ∃ s', Ent s s' ∧ Q e s') l st) : VW P (.region id l.toArray false) Q st := VW.entPost (VW.region h)

/-- Operations in a row, of which number i is carried out in place. -/
theorem VL.inlP {ops : Array Oper} {l : List Oper} {o : Oper} {f : FuncId} {fn : Func} {c : Code} {args : Array Operand} {ats : Array TypeId} {n k : Nat} {rs : List ResultVar} (i : Nat) (t1 : List V) (m1 : VM) (g1 : List V) (hio : l[i]? = some o) (hC : C.Ok P)
    (hgp : guardsOk ops (l.take i).length none (l.take i) = true) (hpre : toSt (veval P C ops (l.take i).length none (l.take i) st) t1 m1 g1) (hog : o.guard = none)
    (ho : o.op = .call { callee := .value (.func f), args := args, argTypes := ats }) (hf : P.funcs[f]? = some fn) (hname : (fn.name != "runtime.NumGoroutine") = true) (hb : fn.body = some c) (hn : fn.ntmps - args.size = n) (hr : fn.results.toList = rs) (hk : t1.length = k)
    (h : VW P c (VIn P rs k o.dst (VL P ops (fun e s => ∃ s', Ent s s' ∧ Q e s') (l.drop (i + 1)))) { t := args.toList.map (ev t1) ++ List.replicate n .any, m := m1, g := t1 ++ g1 }) : VL P ops (fun e s => ∃ s', Ent s s' ∧ Q e s') l st := by
  subst hk hn hr
  have hl : l = l.take i ++ o :: l.drop (i + 1) := by
    obtain ⟨h1, h2⟩ := List.getElem?_eq_some_iff.1 hio
    rw [← h2, List.getElem_cons_drop, List.take_append_drop]
  obtain ⟨t, h1, h2⟩ := hpre.get
  have hpost : VL P ops (fun e s => ∃ s', Ent s s' ∧ Q e s') (o :: l.drop (i + 1)) { t := t, m := m1, g := g1 } := VL.ent (Ent.le h2) (VL.inl (st := { t := t1, m := m1, g := g1 }) hog ho hf hname hb h)
  have := (veval_ste _ _ _ _ _ h1 hgp (fun _ _ h => by cases h)).vl (Q := fun e s => ∃ s', Ent s s' ∧ Q e s') (rest := o :: l.drop (i + 1)) hC hpost
  rw [← hl] at this
  exact this

/-- What must hold where the body ends, when all that follows has one way in. -/
def VInJ {σ : Type} (P : Program) (rs : List ResultVar) (n : Nat) (dst : Option Tmp) (H : σ → VS) (Kp : σ → Prop) : Exit → VS → Prop
  | .normal, s | .ret, s => ∃ v, vres P rs s = some v ∧ ∃ x, Kp x ∧ Ent { t := putV (s.g.take n) dst v, m := s.m, g := s.g.drop n } (H x)
  | _, _ => False

theorem VL.inlJ {σ : Type} {ops : Array Oper} {l : List Oper} {o : Oper} {f : FuncId} {fn : Func} {c : Code} {args : Array Operand} {ats : Array TypeId} {n k : Nat} {rs : List ResultVar} (i : Nat) (t1 : List V) (m1 : VM) (g1 : List V) (hio : l[i]? = some o) (hC : C.Ok P)
    (hgp : guardsOk ops (l.take i).length none (l.take i) = true) (hpre : toSt (veval P C ops (l.take i).length none (l.take i) st) t1 m1 g1) (hog : o.guard = none)
    (ho : o.op = .call { callee := .value (.func f), args := args, argTypes := ats }) (hf : P.funcs[f]? = some fn) (hname : (fn.name != "runtime.NumGoroutine") = true) (hb : fn.body = some c) (hn : fn.ntmps - args.size = n) (hr : fn.results.toList = rs) (hk : t1.length = k)
    (H : σ → VS) (Kp : σ → Prop) (h : VW P c (VInJ P rs k o.dst H Kp) { t := args.toList.map (ev t1) ++ List.replicate n .any, m := m1, g := t1 ++ g1 })
    (hj : ∀ x, Kp x → VL P ops (fun e s => ∃ s', Ent s s' ∧ Q e s') (l.drop (i + 1)) (H x)) : VL P ops (fun e s => ∃ s', Ent s s' ∧ Q e s') l st := by
  refine VL.inlP i t1 m1 g1 hio hC hgp hpre hog ho hf hname hb hn hr hk (h.mono fun e s hq => ?_)
  have key : (∃ v, vres P rs s = some v ∧ ∃ x, Kp x ∧ Ent { t := putV (s.g.take k) o.dst v, m := s.m, g := s.g.drop k } (H x)) → ∃ v, vres P rs s = some v ∧ VL P ops (fun e s => ∃ s', Ent s s' ∧ Q e s') (l.drop (i + 1)) { t := putV (s.g.take k) o.dst v, m := s.m, g := s.g.drop k } :=
    fun ⟨v, h1, x, h2, h3⟩ => ⟨v, h1, VL.ent h3 (hj x h2)⟩
  cases e with
  | normal => exact key hq
  | ret => exact key hq
  | exit id => exact hq.elim
  | goto l => exact hq.elim
  | panic c => exact hq.elim
  | outgrown => exact hq.elim

theorem VIn.ret {rs : List ResultVar} {n : Nat} {dst : Option Tmp} {K : VS → Prop} {s : VS} {v : V} (hv : vres P rs s = some v) (h : K { t := putV (s.g.take n) dst v, m := s.m, g := s.g.drop n }) : ∃ v, vres P rs s = some v ∧ K { t := putV (s.g.take n) dst v, m := s.m, g := s.g.drop n } := ⟨v, hv, h⟩
theorem VInJ.ret {σ : Type} {rs : List ResultVar} {n : Nat} {dst : Option Tmp} {H : σ → VS} {Kp : σ → Prop} {s : VS} (v : V) (x : σ) (t' : List V) (hv : vres P rs s = some v) (hk : Kp x) (ht : putV (s.g.take n) dst v = t') (g' : List V) (hg : s.g.drop n = g') (he : Ent { t := t', m := s.m, g := g' } (H x)) :
    ∃ v, vres P rs s = some v ∧ ∃ x, Kp x ∧ Ent { t := putV (s.g.take n) dst v, m := s.m, g := s.g.drop n } (H x) := ⟨v, hv, x, hk, by rw [ht, hg]; exact he⟩
theorem VInJ.retL {σ : Type} {rs : List ResultVar} {n : Nat} {dst : Option Tmp} {H : σ → VS} {Kp : σ → Prop} {s : VS} (v : V) (x : σ) (t' : List V) (hv : vres P rs s = some v) (hk : Kp x) (ht : leL (putV (s.g.take n) dst v) t') (g' : List V) (hg : s.g.drop n = g') (he : Ent { t := t', m := s.m, g := g' } (H x)) :
    ∃ v, vres P rs s = some v ∧ ∃ x, Kp x ∧ Ent { t := putV (s.g.take n) dst v, m := s.m, g := s.g.drop n } (H x) := ⟨v, hv, x, hk, (Ent.le ht).trans (by rw [hg]; exact he)⟩
end
end Go.VL
