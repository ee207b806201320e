/- Calls that work on one block of the caller's, by contract; regions that draw among few orders. -/
import Derived.Test.YtboeddbhfnlpaaaVxFth
namespace Go.VL
open Go.RowKit
set_option linter.unusedSimpArgs false
set_option linter.unusedVariables false

section
variable {P : Program} {C : CEnv} {ops : Array Oper} {Q : Exit → VS → Prop} {st : VS}

theorem wp_mono2 {o : Oper} {a : Act} {w : World} {K K' : Act → World → Prop} {Q Q' : Exit → Act → World → Prop} (h : ∀ a w, K a w → K' a w) (hq : ∀ e a w, e ≠ .normal → Q e a w → Q' e a w) (hh : o.wp P a w K Q) : o.wp P a w K' Q' := by
  unfold Oper.wp at *
  generalize (execOp a.eval o).run P w = r at *
  cases r with
  | ok n w' =>
    cases n <;> simp only [Oper.upon] at hh ⊢ <;>
      first
        | exact h _ _ hh
        | exact Calls.mono hh (fun e w'' he => by cases e <;> first | exact h _ _ he | exact hq _ _ _ (by simp) he | (obtain ⟨a, w, h1⟩ := he; exact ⟨a, w, hq _ _ _ (by simp) h1⟩))
        | exact Rows.mono hh (fun _ _ he => h _ _ he)
  | halt x w' => cases x <;> simp only [Oper.upon] at hh ⊢ <;> first | exact hh | exact hq _ _ _ (by simp) hh

/-- One operation. -/
def VO (P : Program) (ops : Array Oper) (Q : Exit → VS → Prop) (o : Oper) (K : VS → Prop) (st : VS) : Prop := VL P ops (fun e s => (e = .normal ∧ K s) ∨ (e ≠ .normal ∧ Q e s)) [o] st

/-- Operations that are left, in any order. -/
def VA (P : Program) (ops : Array Oper) (Q : Exit → VS → Prop) (n : Nat) (listed : Array Bool) (st : VS) : Prop :=
  ∀ (N : Fr) (w0 : World × List Value) (a : Act) (w : World) (φ : Pl), SR P N w0 st a w φ → wpAny P .any ops (fun e a' w' => ∃ st' φ', Q e st' ∧ SR P N w0 st' a' w' φ') n listed a w

theorem VA.stop {n : Nat} {listed : Array Bool} (h0 : Region.ready .any ops listed = []) (h : Q .normal st) : VA P ops Q n listed st := fun N w0 a w φ hs => by
  cases n with
  | zero => exact ⟨h0, st, φ, h, hs⟩
  | succ n => exact ⟨fun _ => ⟨st, φ, h, hs⟩, fun i hi => by rw [h0] at hi; cases hi⟩

theorem VA.step {n : Nat} {listed : Array Bool} (h0 : Region.ready .any ops listed ≠ []) (h : ∀ i ∈ Region.ready .any ops listed, ∀ o, ops[i]? = some o → VO P ops Q o (VA P ops Q n (listed.setIfInBounds i true)) st) : VA P ops Q (n + 1) listed st := fun N w0 a w φ hs => by
  refine ⟨fun h1 => absurd h1 h0, fun i hi => ?_⟩
  obtain ⟨_, o, ho, _⟩ := mem_ready.1 hi
  have h1 := h i hi o ho N w0 a w φ hs
  unfold wpList at h1
  unfold wpOp
  simp only [ho]
  have key : ∀ a' w', (∃ st' φ', ((Exit.normal = .normal ∧ VA P ops Q n (listed.setIfInBounds i true) st') ∨ (Exit.normal ≠ .normal ∧ Q .normal st')) ∧ SR P N w0 st' a' w' φ') → wpAny P .any ops (fun e a' w' => ∃ st' φ', Q e st' ∧ SR P N w0 st' a' w' φ') n (listed.setIfInBounds i true) a' w' := fun a' w' ⟨s, φ', h2, h3⟩ => by
    rcases h2 with h2 | h2
    · exact h2.2 N w0 a' w' φ' h3
    · exact absurd rfl h2.1
  have keyQ : ∀ e a' w', e ≠ Exit.normal → (∃ st' φ', ((e = .normal ∧ VA P ops Q n (listed.setIfInBounds i true) st') ∨ (e ≠ .normal ∧ Q e st')) ∧ SR P N w0 st' a' w' φ') → ∃ st' φ', Q e st' ∧ SR P N w0 st' a' w' φ' := fun e a' w' he ⟨s, φ', h2, h3⟩ => by
    rcases h2 with h2 | h2
    · exact absurd h2.1 he
    · exact ⟨s, φ', h2.2, h3⟩
  split
  · rename_i hw
    rw [if_pos hw] at h1
    rcases h1 with h1 | ⟨h1, h2⟩
    · exact .inl (wp_mono2 key keyQ h1)
    · refine .inr ⟨h1, ?_⟩
      obtain ⟨a', w', h3⟩ := h2
      exact ⟨a', w', keyQ _ _ _ (by simp) h3⟩
  · rename_i hw
    rw [if_neg hw] at h1
    exact key _ _ h1

theorem VW.any {id : Nat} (hm : P.follows .mixedOrders = true) (h : VA P ops Q ops.size (Array.replicate ops.size false) st) : VW P (.region id ops true) Q st := fun N w0 a w φ hs => by
  refine wp_region_any hm ?_
  have hs1 : SR P N w0 st a (w.drewN 1) φ := by
    obtain ⟨d1, d2⟩ := hs.mem.drewN 1
    exact ⟨hs.defers, hs.size, fun i v hi => by
      obtain ⟨u, b1, b2⟩ := hs.tmps i v hi
      exact ⟨u, b1, b2.ev d2⟩, d1, hs.below.trans (below_drewN N w 1), hs.start, Sl.ev d2 hs.gh, hs.gl⟩
  exact h N w0 a _ φ hs1

/-! ### A function that works on one block of the caller's -/
/-- What must hold where its body ends. -/
def VInE (P : Program) (rs : List ResultVar) (r : V) (m' : VM) (g' : List V) : Exit → VS → Prop
  | .normal, s | .ret, s => vres P rs s = some r ∧ s.m = m' ∧ s.g = g'
  | _, _ => False

theorem VInE.fin {rs : List ResultVar} {r : V} {m' : VM} {g' : List V} {s : VS} (h1 : vres P rs s = some r) (h2 : s.m = m') (h3 : s.g = g') : vres P rs s = some r ∧ s.m = m' ∧ s.g = g' := ⟨h1, h2, h3⟩

def TellsM (P : Program) (f : FuncId) (F : List V → Option V) : Prop :=
  ∃ fn c, P.funcs[f]? = some fn ∧ (fn.name != "runtime.NumGoroutine") = true ∧ fn.body = some c ∧ ∀ cs vs r cs', F (.agg cs :: vs) = some (.tup [r, .agg cs']) →
    ∀ (g : List V) (m : VM) (b n : Nat), m[b]? = some (some (n, [cs])) → VW P c (VInE P fn.results.toList r (m.set b (some (n, [cs']))) g) { t := (.ptr b 0 0 :: vs) ++ List.replicate (fn.ntmps - (vs.length + 1)) .any, m := m, g := g }

theorem TellsM.of {f : FuncId} {α β : Type} {g : α → Option β} {eA : α → List V} {eB : β → V} {fn : Func} {c : Code} {rs : List ResultVar} {k : Nat} (hf : P.funcs[f]? = some fn) (hname : (fn.name != "runtime.NumGoroutine") = true) (hb : fn.body = some c) (hk : fn.ntmps = k) (hr : fn.results.toList = rs)
    (h : ∀ a r, g a = some r → ∀ cs vs v cs', eA a = .agg cs :: vs → eB r = .tup [v, .agg cs'] → ∀ (gg : List V) (m : VM) (b n : Nat), m[b]? = some (some (n, [cs])) →
      VW P c (VInE P rs v (m.set b (some (n, [cs']))) gg) { t := (.ptr b 0 0 :: vs) ++ List.replicate (k - (vs.length + 1)) .any, m := m, g := gg }) : TellsM P f (tells g eA eB) := by
  subst hk hr
  refine ⟨fn, c, hf, hname, hb, fun cs vs r cs' hF => ?_⟩
  unfold tells at hF
  split at hF
  · rename_i hh
    obtain ⟨h1, h2⟩ := hh.choose_spec
    exact h _ _ h2 cs vs r cs' h1 (Option.some.inj hF)
  · cases hF

theorem VL.inM {o : Oper} {l : List Oper} {f : FuncId} {args : Array Operand} {ats : Array TypeId} {F : List V → Option V} {cs cs' vs : List V} {r : V} {b n : Nat} (hog : o.guard = none) (ho : o.op = .call { callee := .value (.func f), args := args, argTypes := ats }) (hF : TellsM P f F)
    (ha : args.toList.map (ev st.t) = .ptr b 0 0 :: vs) (hb : st.m[b]? = some (some (n, [cs]))) (hc : F (.agg cs :: vs) = some (.tup [r, .agg cs']))
    (h : VL P ops Q l { t := putV st.t o.dst r, m := st.m.set b (some (n, [cs'])), g := st.g }) : VL P ops Q (o :: l) st := by
  obtain ⟨fn, c, h1, h2, h3, h4⟩ := hF
  have hsz : args.size = vs.length + 1 := by
    have := congrArg List.length ha
    simpa using this
  have h5 := h4 cs vs r cs' hc (st.t ++ st.g) st.m b n hb
  refine VL.inl hog ho h1 h2 h3 ?_
  rw [ha, hsz]
  refine h5.mono fun e s hq => ?_
  have key : vres P fn.results.toList s = some r ∧ s.m = st.m.set b (some (n, [cs'])) ∧ s.g = st.t ++ st.g → ∃ v, vres P fn.results.toList s = some v ∧ VL P ops Q l { t := putV (s.g.take st.t.length) o.dst v, m := s.m, g := s.g.drop st.t.length } := fun ⟨k1, k2, k3⟩ => by
    refine ⟨r, k1, ?_⟩
    rw [k2, k3, List.take_left, List.drop_left]
    exact h
  cases e with
  | normal => exact key hq
  | ret => exact key hq
  | exit id => exact hq.elim
  | goto l => exact hq.elim
  | panic c => exact hq.elim
  | outgrown => exact hq.elim

/-- Such functions, by number. -/
def CEnv.OkM (P : Program) : CEnv → Prop
  | [] => True
  | (g, F) :: C => TellsM P g F ∧ CEnv.OkM P C
def menv : CEnv → FuncId → Option (List V → Option V)
  | [], _ => none
  | (g, F) :: C, f => if f = g then some F else menv C f
theorem menv_ok : ∀ {C : CEnv} {f : FuncId} {F : List V → Option V}, C.OkM P → menv C f = some F → TellsM P f F
  | [], _, _, _, h => by cases h
  | (g, G) :: C, f, F, hC, h => by
    simp only [menv] at h
    split at h
    · rename_i e; subst e; cases h; exact hC.1
    · exact menv_ok hC.2 h

/-- Its work on the state. -/
def doM (st : VS) (dst : Option Tmp) (F : List V → Option V) (l : List V) : Option VS := match l with
  | .ptr b e j :: vs => if e + j = 0 then (match st.m[b]? with
    | some (some (n, [cs])) => (match F (.agg cs :: vs) with
      | some (.tup [r, .agg cs']) => some { t := putV st.t dst r, m := st.m.set b (some (n, [cs'])), g := st.g }
      | _ => none)
    | _ => none) else none
  | _ => none

/-- Cells may be forgotten. -/
theorem Ent.wk {t g : List V} {m M : VM} (hl : M.length = m.length) (h : ∀ (x n : Nat) (es' : List (List V)), M[x]? = some (some (n, es')) → ∃ es : List (List V), m[x]? = some (some (n, es)) ∧ es'.length = es.length ∧ ((∀ l ∈ es, l.length = n) → ∀ l ∈ es', l.length = n) ∧ ∀ (i : Nat) (v : V), es'.flatten[i]? = some v → ∃ v0, es.flatten[i]? = some v0 ∧ (v0 = v ∨ v = .any)) : Ent { t := t, m := m, g := g } { t := t, m := M, g := g } := by
  intro P N w0 a w φ hs
  have hO : ∀ k, Live φ M k → Live φ m k := fun k ⟨x, y, po, q, h1, h2⟩ => by
    obtain ⟨es, h3, _⟩ := h x y.1 y.2 h1
    exact ⟨x, _, po, q, h3, h2⟩
  have hev : Ev w (Live φ m) φ w (Live φ M) φ := ⟨fun k _ ho => ⟨rfl, fun hl => ho (hO k hl)⟩, fun _ _ h => h, fun _ _ h => h⟩
  refine ⟨φ, hs.defers, hs.size, fun i v hi => ?_, ⟨fun x k es1 p h1 h2 => ?_, hs.mem.new, fun x p h => ?_, hs.mem.inj, ?_⟩, hs.below, hs.start, Sl.ev hev hs.gh, hs.gl⟩
  · obtain ⟨u, u1, u2⟩ := hs.tmps i v hi
    exact ⟨u, u1, u2.ev hev⟩
  · obtain ⟨es, h3, h4, h5, h6⟩ := h x k es1 h1
    obtain ⟨c1, pb, po, c, ty, c2, c3, c4, c5⟩ := hs.mem.at_ x k es _ h3 h2
    refine ⟨h5 c1, pb, po, c, ty, c2, c3, by rw [h4]; exact c4, fun i v hi => ?_⟩
    obtain ⟨v0, g1, g2⟩ := h6 i v hi
    obtain ⟨u, d1, d2, d3⟩ := c5 i v0 g1
    refine ⟨u, d1, d2, ?_⟩
    rcases g2 with rfl | rfl
    · exact d3.ev hev
    · exact .any
  · have := hs.mem.dom x p h
    rw [hl]; exact this
  · obtain ⟨ψ, hψ⟩ := hs.mem.own
    refine ⟨ψ, fun x k es1 pb po bn i n1 e1 h1 h2 h3 => ?_⟩
    obtain ⟨es, k3, k4, k5, k6⟩ := h x k es1 h1
    obtain ⟨v0, g1, g2⟩ := k6 i _ h3
    rcases g2 with rfl | g2
    · obtain ⟨u, F, f1, f2, f3, f4⟩ := hψ x k es pb po bn i n1 e1 k3 h2 g1
      exact ⟨u, F, f1, f2, f3, fun q hq => by
        obtain ⟨a1, a2, a3, a4⟩ := f4 q hq
        exact ⟨a1, a2, a3, fun hl => a4 (hO q hl)⟩⟩
    · cases g2

def killV (b : Nat) (v : V) : V := if noBV b v = true then v else .any
def killE (b : Nat) (es : List (List V)) : List (List V) := if noBE b es = true then es else es.map (·.map (killV b))
/-- What names block b is forgotten. -/
def killM (b : Nat) : VM → VM
  | [] => []
  | none :: m => none :: killM b m
  | some (n, es) :: m => some (n, killE b es) :: killM b m

theorem killM_get (b : Nat) : ∀ (m : VM), (killM b m).length = m.length ∧ ∀ (x n : Nat) (es' : List (List V)), (killM b m)[x]? = some (some (n, es')) → ∃ es : List (List V), m[x]? = some (some (n, es)) ∧ es' = killE b es
  | [] => ⟨rfl, fun x n es' h => by simp [killM] at h⟩
  | none :: m => by
    obtain ⟨h1, h2⟩ := killM_get b m
    refine ⟨by simp [killM, h1], fun x n es' h => ?_⟩
    cases x with
    | zero => simp [killM] at h
    | succ x => exact h2 x n es' (by simpa [killM] using h)
  | some (n0, es0) :: m => by
    obtain ⟨h1, h2⟩ := killM_get b m
    refine ⟨by simp [killM, h1], fun x n es' h => ?_⟩
    cases x with
    | zero =>
      simp [killM] at h
      exact ⟨es0, by simp [h.1], h.2.symm⟩
    | succ x => exact h2 x n es' (by simpa [killM] using h)

theorem Ent.killM {t g : List V} {m : VM} (b : Nat) : Ent { t := t, m := m, g := g } { t := t, m := VL.killM b m, g := g } := by
  obtain ⟨h1, h2⟩ := killM_get b m
  refine Ent.wk h1 fun x n es' h => ?_
  obtain ⟨es, h3, h4⟩ := h2 x n es' h
  refine ⟨es, h3, ?_⟩
  unfold killE at h4
  split at h4
  · subst h4
    exact ⟨rfl, fun h => h, fun i v hv => ⟨v, hv, .inl rfl⟩⟩
  · subst h4
    refine ⟨by simp, fun hn l hl => ?_, fun i v hv => ?_⟩
    · obtain ⟨l0, e1, rfl⟩ := List.mem_map.1 hl
      simpa using hn l0 e1
    · rw [← List.map_flatten] at hv
      simp only [List.getElem?_map, Option.map_eq_some_iff] at hv
      obtain ⟨v0, e1, rfl⟩ := hv
      refine ⟨v0, e1, ?_⟩
      unfold killV
      split
      · exact .inl rfl
      · exact .inr rfl

/-- Before an append: the memory forgets the slice. -/
def preM (st : VS) (o : Oper) : VS := match o.op with
  | .call { callee := .builtin .append, args := args, argTypes := ats } => (match args.toList.map (ev st.t) with
    | .ref b e len :: _ => { t := st.t, m := killM b st.m, g := st.g }
    | _ => st)
  | _ => st
theorem preM_ent (st : VS) (o : Oper) : Ent st (preM st o) := by
  unfold preM
  split
  · split
    · exact Ent.killM _
    · exact fun P N w0 a w φ hs => ⟨φ, hs⟩
  · exact fun P N w0 a w φ hs => ⟨φ, hs⟩
theorem preM_t (st : VS) (o : Oper) : (preM st o).t = st.t := by
  unfold preM
  split
  · split <;> rfl
  · rfl

/-- One operation. -/
def vstepM (P : Program) (C CM : CEnv) (st : VS) (o : Oper) : Option VS :=
  match o.guard with
  | some _ => none
  | none => match o.op with
    | .call { callee := .value (.func f), args := args, argTypes := ats } => match menv CM f with
      | some F => doM st o.dst F (args.toList.map (ev st.t))
      | none => vstep P C st o
    | _ => vstep P C (preM st o) o

theorem VL.stepM {CM : CEnv} {o : Oper} {l : List Oper} {st1 : VS} (hC : C.Ok P) (hM : CM.OkM P) (h : vstepM P C CM st o = some st1) (hr : VL P ops Q l st1) : VL P ops Q (o :: l) st := by
  unfold vstepM at h
  split at h
  · cases h
  · rename_i hg
    have hw : vwanted ops st.t o = some true := by unfold vwanted; rw [hg]
    have old : vstep P C st o = some st1 → VL P ops Q (o :: l) st := fun h => by
      have := (Ste.op hw h .nil).vl (Q := Q) (rest := l) hC hr
      simpa using this
    split at h
    · rename_i f args ats ho
      split at h
      · rename_i F hF
        unfold doM at h
        split at h
        · rename_i b e j vs ha
          split at h
          · rename_i hej
            have he : e = 0 := by omega
            have hj : j = 0 := by omega
            subst he hj
            split at h
            · rename_i n cs hb
              split at h
              · rename_i r cs' hc
                cases h
                exact VL.inM hg ho (menv_ok hM hF) ha hb hc hr
              · cases h
            · cases h
          · cases h
        · cases h
      · exact old h
    · refine VL.ent (preM_ent st o) ?_
      have hw' : vwanted ops (preM st o).t o = some true := by rw [preM_t]; exact hw
      have := (Ste.op hw' h .nil).vl (Q := Q) (rest := l) hC hr
      simpa using this

def vseqM (P : Program) (C CM : CEnv) : List Oper → VS → Option VS
  | [], st => some st
  | o :: l, st => (vstepM P C CM st o).bind (vseqM P C CM l)

theorem VL.seqM {CM : CEnv} (hC : C.Ok P) (hM : CM.OkM P) : ∀ {l l' : List Oper} {st st1 : VS}, vseqM P C CM l st = some st1 → VL P ops Q l' st1 → VL P ops Q (l ++ l') st
  | [], _, _, _, h, hr => by cases h; exact hr
  | o :: l, l', st, st1, h, hr => by
    unfold vseqM at h
    cases h1 : vstepM P C CM st o with
    | none => simp [h1] at h
    | some s => rw [h1] at h; exact VL.stepM hC hM h1 (VL.seqM hC hM h hr)

/-- All of a region's operations, in the text's order. -/
theorem VW.evalM {CM : CEnv} {id : Nat} {l : List Oper} (t' : List V) (m' : VM) (g' : List V) (hC : C.Ok P) (hM : CM.OkM P) (h : toSt (vseqM P C CM l st) t' m' g') (hQ : Q .normal { t := t', m := m', g := g' }) : VW P (.region id l.toArray false) Q st := by
  obtain ⟨t, h1, h2⟩ := h.get
  have := VL.seqM (ops := l.toArray) (Q := fun e s => ∃ s', Ent s s' ∧ Q e s') (l' := []) hC hM h1 (VL.nil ⟨_, Ent.le h2, hQ⟩)
  exact VW.entPost (VW.region (by simpa using this))

/-- Part of them, where others are carried out in place. -/
theorem VL.evalM {CM : CEnv} {l : List Oper} (i : Nat) (t' : List V) (m' : VM) (g' : List V) (hC : C.Ok P) (hM : CM.OkM P) (h : toSt (vseqM P C CM (l.take i) st) t' m' g') (hQ : VL P ops (fun e s => ∃ s', Ent s s' ∧ Q e s') (l.drop i) { t := t', m := m', g := g' }) : VL P ops (fun e s => ∃ s', Ent s s' ∧ Q e s') l st := by
  obtain ⟨t, h1, h2⟩ := h.get
  have := VL.seqM (ops := ops) (Q := fun e s => ∃ s', Ent s s' ∧ Q e s') (l' := l.drop i) hC hM h1 (VL.ent (Ent.le h2) hQ)
  rwa [List.take_append_drop] at this

/-- Every order there is. -/
def exts (ops : Array Oper) : Nat → Array Bool → List (List Nat)
  | 0, _ => [[]]
  | n + 1, listed => match Region.ready .any ops listed with
    | [] => [[]]
    | is => is.flatMap fun i => (exts ops n (listed.setIfInBounds i true)).map (i :: ·)

theorem exts_ne (ops : Array Oper) : ∀ (n : Nat) (listed : Array Bool), exts ops n listed ≠ []
  | 0, _ => by simp [exts]
  | n + 1, listed => by
    unfold exts
    split
    · simp
    · rename_i h
      cases hr : Region.ready .any ops listed with
      | nil => exact absurd hr h
      | cons i is' =>
        simp only [List.flatMap_cons, ne_eq, List.append_eq_nil_iff, List.map_eq_nil_iff, not_and]
        intro h1
        exact absurd h1 (exts_ne ops n _)

def opsAt (l : List Oper) : List Nat → List Oper
  | [] => []
  | i :: p => match l[i]? with
    | some o => o :: opsAt l p
    | none => []

theorem VA.of {CM : CEnv} {l : List Oper} (hC : C.Ok P) (hM : CM.OkM P) : ∀ (n : Nat) (listed : Array Bool) (st : VS), (List.range l.length).countP (fun j => !listed.getD j true) ≤ n → (∀ p ∈ exts l.toArray n listed, ∃ s, vseqM P C CM (opsAt l p) st = some s ∧ Q .normal s) → VA P l.toArray Q n listed st := by
  intro n
  induction n with
  | zero =>
    intro listed st hc h
    obtain ⟨s, h1, h2⟩ := h [] (by simp [exts])
    cases h1
    refine VA.stop ?_ h2
    rw [List.eq_nil_iff_forall_not_mem]
    intro i hi
    obtain ⟨b, o, ho, _⟩ := mem_ready.1 hi
    have h3 := List.countP_eq_zero.1 (Nat.le_zero.1 hc) i (List.mem_range.2 (by simpa using (Array.getElem?_eq_some_iff.1 ho).1))
    rw [b] at h3
    simp at h3
  | succ n ih =>
    intro listed st hc h
    by_cases hr : Region.ready .any l.toArray listed = []
    · unfold exts at h
      rw [hr] at h
      obtain ⟨s, h1, h2⟩ := h [] (by simp)
      cases h1
      exact VA.stop hr h2
    · refine VA.step hr fun i hi o ho => ?_
      have hex : ∀ q ∈ exts l.toArray n (listed.setIfInBounds i true), i :: q ∈ exts l.toArray (n + 1) listed := fun q hq => by
        rw [exts]
        split
        · rename_i e; exact absurd e hr
        · exact List.mem_flatMap.2 ⟨i, hi, List.mem_map.2 ⟨q, hq, rfl⟩⟩
      have hol : l[i]? = some o := by simpa using ho
      have hstep : ∀ q ∈ exts l.toArray n (listed.setIfInBounds i true), ∃ s, (vstepM P C CM st o).bind (vseqM P C CM (opsAt l q)) = some s ∧ Q .normal s := fun q hq => by
        have := h _ (hex q hq)
        unfold opsAt at this
        rw [hol] at this
        exact this
      obtain ⟨q0, hq0⟩ := List.exists_mem_of_ne_nil _ (exts_ne l.toArray n (listed.setIfInBounds i true))
      cases hs : vstepM P C CM st o with
      | none =>
        obtain ⟨s, e, _⟩ := hstep q0 hq0
        rw [hs] at e
        cases e
      | some st1 =>
        rw [hs] at hstep
        refine VL.stepM hC hM hs (VL.nil (.inl ⟨rfl, ih _ _ ?_ fun q hq => hstep q hq⟩))
        have hl : i < l.length := by simpa using (Array.getElem?_eq_some_iff.1 ho).1
        have hli := (mem_ready.1 hi).1
        have h4 := count_put (L := fun j => listed.getD j true) hli l.length hl
        have h5 : (List.range l.length).countP (fun j => !(listed.setIfInBounds i true).getD j true) = (List.range l.length).countP (fun j => !(listed.getD j true || j == i)) := by
          refine List.countP_congr fun j hj => ?_
          by_cases hji : i = j
          · subst hji
            have : (listed.setIfInBounds i true).getD i true = true := by
              rw [Array.getD_eq_getD_getElem?]
              by_cases hlt : i < listed.size
              · simp [hlt]
              · simp [hlt]
            rw [this]
            simp
          · rw [getD_set_ne true hji]
            have : (j == i) = false := by simp; exact fun h => hji h.symm
            rw [this]
            simp
        omega

/-- A region that draws among few orders. -/
theorem VW.evalMA {CM : CEnv} {id : Nat} {l : List Oper} (ps : List (List Nat)) (t' : List V) (m' : VM) (g' : List V) (hC : C.Ok P) (hM : CM.OkM P) (hm : P.follows .mixedOrders = true) (he : exts l.toArray l.length (Array.replicate l.length false) = ps)
    (h : ∀ p ∈ ps, toSt (vseqM P C CM (opsAt l p) st) t' m' g') (hQ : Q .normal { t := t', m := m', g := g' }) : VW P (.region id l.toArray true) Q st := by
  refine VW.entPost (VW.any hm ?_)
  have := VA.of (P := P) (Q := fun e s => ∃ s', Ent s s' ∧ Q e s') hC hM l.length (Array.replicate l.length false) st (by
    exact Nat.le_trans (List.countP_le_length (l := List.range l.length)) (by simp)) (fun p hp => by
    rw [he] at hp
    obtain ⟨t, h1, h2⟩ := (h p hp).get
    exact ⟨_, h1, _, Ent.le h2, hQ⟩)
  simpa using this

theorem count_listed {l : List Oper} {listed : Array Bool} {i : Nat} (hi : i ∈ Region.ready .any l.toArray listed) : (List.range l.length).countP (fun j => !listed.getD j true) = (List.range l.length).countP (fun j => !(listed.setIfInBounds i true).getD j true) + 1 := by
  obtain ⟨b, o, ho, _⟩ := mem_ready.1 hi
  have hl : i < l.length := by simpa using (Array.getElem?_eq_some_iff.1 ho).1
  rw [count_put (L := fun j => listed.getD j true) b l.length hl]
  congr 1
  refine List.countP_congr fun j hj => ?_
  by_cases hji : i = j
  · subst hji
    have : (listed.setIfInBounds i true).getD i true = true := by
      rw [Array.getD_eq_getD_getElem?]
      by_cases hlt : i < listed.size
      · simp [hlt]
      · simp [hlt]
    rw [this]
    simp
  · rw [getD_set_ne true hji]
    have : (j == i) = false := by simp; exact fun h => hji h.symm
    rw [this]
    simp

theorem chain_wp {l : List Oper} {Q : Exit → Act → World → Prop} : ∀ (n : Nat) (p : List Nat) (listed : Array Bool) (a : Act) (w : World), exts l.toArray n listed = [p] → (List.range l.length).countP (fun j => !listed.getD j true) ≤ n → wpList P l.toArray Q (opsAt l p) a w → wpAny P .any l.toArray Q n listed a w := by
  intro n
  induction n with
  | zero =>
    intro p listed a w he hc h
    cases he
    refine ⟨?_, h⟩
    rw [List.eq_nil_iff_forall_not_mem]
    intro i hi
    have := count_listed hi
    omega
  | succ n ih =>
    intro p listed a w he hc h
    unfold exts at he
    split at he
    · rename_i hr
      cases he
      exact ⟨fun _ => h, fun i hi => by rw [hr] at hi; cases hi⟩
    · rename_i hr
      refine ⟨fun h' => absurd h' hr, fun i hi => ?_⟩
      obtain ⟨_, o, ho, _⟩ := mem_ready.1 hi
      have hol : l[i]? = some o := by simpa using ho
      obtain ⟨q, hq⟩ := List.exists_mem_of_ne_nil _ (exts_ne l.toArray n (listed.setIfInBounds i true))
      have key : ∀ q ∈ exts l.toArray n (listed.setIfInBounds i true), i :: q = p := fun q hq => by
        have : i :: q ∈ [p] := he ▸ List.mem_flatMap.2 ⟨i, hi, List.mem_map.2 ⟨q, hq, rfl⟩⟩
        simpa using this
      have hp := key q hq
      subst hp
      have hone : exts l.toArray n (listed.setIfInBounds i true) = [q] := by
        have hlen : (exts l.toArray n (listed.setIfInBounds i true)).length ≤ 1 := by
          have h1 := congrArg List.length he
          have h2 : ((exts l.toArray n (listed.setIfInBounds i true)).map (i :: ·)).Sublist ((Region.ready .any l.toArray listed).flatMap fun i => (exts l.toArray n (listed.setIfInBounds i true)).map (i :: ·)) := by
            obtain ⟨s, t, hst⟩ := List.append_of_mem hi
            rw [hst, List.flatMap_append, List.flatMap_cons]
            exact (List.sublist_append_left _ _).trans (List.sublist_append_right _ _)
          have h3 := h2.length_le
          rw [h1] at h3
          simpa using h3
        match hx : exts l.toArray n (listed.setIfInBounds i true), hlen, hq with
        | [], _, hq => cases hq
        | [x], _, hq => simp at hq; rw [hq]
        | _ :: _ :: _, hlen, _ => simp at hlen
      have hcl := count_listed hi
      have go := fun a w => ih q (listed.setIfInBounds i true) a w hone (by omega)
      unfold opsAt at h
      rw [hol] at h
      simp only at h
      unfold wpList at h
      unfold wpOp
      simp only [ho]
      split
      · rename_i hw
        rw [if_pos hw] at h
        exact h.imp (Oper.wp_mono go) id
      · rename_i hw
        rw [if_neg hw] at h
        exact go _ _ h

theorem opsAt_range (l : List Oper) : opsAt l (List.range l.length) = l := by
  have : ∀ (n k : Nat), k + n = l.length → opsAt l (List.range' k n) = l.drop k := by
    intro n
    induction n with
    | zero => intro k hk; simp [opsAt]; omega
    | succ n ih =>
      intro k hk
      rw [List.range'_succ, opsAt]
      have : l[k]? = some l[k] := by simp
      rw [this]
      simp only
      rw [ih (k + 1) (by omega)]
      exact List.getElem_cons_drop (by omega)
  rw [List.range_eq_range', this _ _ (by omega), List.drop_zero]

/-- A region that could draw, but has one order only. -/
theorem VW.chain {id : Nat} {l : List Oper} (hm : P.follows .mixedOrders = true) (hc : exts l.toArray l.length (Array.replicate l.length false) = [List.range l.length]) (h : VL P l.toArray (fun e s => ∃ s', Ent s s' ∧ Q e s') l st) : VW P (.region id l.toArray true) Q st := by
  refine VW.entPost (VW.any hm fun N w0 a w φ hs => ?_)
  have := chain_wp (P := P) (l := l) (Q := fun e a' w' => ∃ st' φ', (∃ s', Ent st' s' ∧ Q e s') ∧ SR P N w0 st' a' w' φ') l.length _ (Array.replicate l.length false) a w hc (Nat.le_trans (List.countP_le_length (l := List.range l.length)) (by simp)) (by rw [opsAt_range]; exact h N w0 a w φ hs)
  simpa using this

theorem at_set {m : VM} {b : Nat} (h : b < m.length) (x : Option (Nat × List (List V))) : (m.set b x)[b]? = some x := by simp [h]
theorem set_self {m : VM} {b : Nat} {x : Option (Nat × List (List V))} (h : m[b]? = some x) : m = m.set b x := by
  refine (List.ext_getElem? fun i => ?_)
  rw [List.getElem?_set]
  split
  · rename_i e; subst e
    have := (List.getElem?_eq_some_iff.1 h).1
    rw [if_pos this]; exact h
  · rfl

end

/-! ### Nil slices, taken as slices of a block that is not there yet -/
def nr1 (a b : V) : Prop := a = b ∨ (a = .nil ∧ ∃ k, b = .ref k 0 0)
theorem nr1_cases {a b : V} (h : nr1 a b) : a = b ∨ (a = .nil ∧ ∃ k, b = .ref k 0 0) := h
@[simp] theorem nr1_self {a : V} : nr1 a a := .inl rfl
@[simp] theorem nr1_nil {k : Nat} : nr1 .nil (.ref k 0 0) := .inr ⟨rfl, k, rfl⟩
def nrL : List V → List V → Prop
  | [], [] => True
  | a :: s, b :: t => nr1 a b ∧ nrL s t
  | _, _ => False
def nrE : List (List V) → List (List V) → Prop
  | [], [] => True
  | a :: s, b :: t => nrL a b ∧ nrE s t
  | _, _ => False
attribute [simp] nrL nrE
theorem nrL_get : ∀ {a b : List V}, nrL a b → a.length = b.length ∧ ∀ (i : Nat) (v : V), b[i]? = some v → ∃ v0, a[i]? = some v0 ∧ nr1 v0 v
  | [], [], _ => ⟨rfl, fun i v h => by simp at h⟩
  | x :: a, y :: b, h => by
    obtain ⟨h1, h2⟩ := nrL_get h.2
    refine ⟨by simp [h1], fun i v hi => ?_⟩
    cases i with
    | zero => simp at hi; subst hi; exact ⟨x, rfl, h.1⟩
    | succ i => exact h2 i v (by simpa using hi)
  | [], _ :: _, h => h.elim
  | _ :: _, [], h => h.elim
theorem nrL_append : ∀ {a b c d : List V}, nrL a b → nrL c d → nrL (a ++ c) (b ++ d)
  | [], [], _, _, _, h => h
  | x :: a, y :: b, _, _, h, k => ⟨h.1, nrL_append h.2 k⟩
  | [], _ :: _, _, _, h, _ => h.elim
  | _ :: _, [], _, _, h, _ => h.elim
theorem nrE_flat : ∀ {a b : List (List V)}, nrE a b → nrL a.flatten b.flatten ∧ a.length = b.length ∧ ∀ n, (∀ l ∈ a, l.length = n) → ∀ l ∈ b, l.length = n
  | [], [], _ => ⟨trivial, rfl, fun _ _ l h => by cases h⟩
  | x :: a, y :: b, h => by
    obtain ⟨h1, h2, h3⟩ := nrE_flat h.2
    refine ⟨nrL_append h.1 h1, by simp [h2], fun n hn l hl => ?_⟩
    rcases List.mem_cons.1 hl with rfl | hl
    · rw [← (nrL_get h.1).1]; exact hn x (by simp)
    · exact h3 n (fun l hl => hn l (by simp [hl])) l hl
  | [], _ :: _, h => h.elim
  | _ :: _, [], h => h.elim

theorem Ent.nilr {t g : List V} {m : VM} (b : Nat) {n : Nat} {es es' : List (List V)} (m' : VM) (hb : m[b]? = some (some (n, es))) (hE : nrE es es') (hm' : m.set b (some (n, es')) = m') : Ent { t := t, m := m, g := g } { t := t, m := m', g := g } := by
  subst hm'
  intro P N w0 a w φ hs
  have hblt : b < m.length := (List.getElem?_eq_some_iff.1 hb).1
  obtain ⟨f1, f2, f3⟩ := nrE_flat hE
  obtain ⟨f4, f5⟩ := nrL_get f1
  generalize hM : m.set b (some (n, es')) = M
  have hget : ∀ x y, M[x]? = some (some y) → (x = b ∧ y = (n, es') ∨ x ≠ b ∧ m[x]? = some (some y)) := fun x y h => by
    rw [← hM, List.getElem?_set] at h
    split at h
    · rename_i h2
      simp at h; exact .inl ⟨h2.symm, h.symm⟩
    · rename_i h2
      exact .inr ⟨fun e => h2 e.symm, h⟩
  have hO : ∀ k, Live φ M k → Live φ m k := fun k ⟨x, y, po, q, h1, h2⟩ => by
    rcases hget x y h1 with ⟨rfl, _⟩ | ⟨_, h3⟩
    · exact ⟨x, _, po, q, hb, h2⟩
    · exact ⟨x, y, po, q, h3, h2⟩
  have hev : Ev w (Live φ m) φ w (Live φ M) φ := ⟨fun k _ ho => ⟨rfl, fun hl => ho (hO k hl)⟩, fun _ _ h => h, fun _ _ h => h⟩
  refine ⟨φ, hs.defers, hs.size, fun i v hi => ?_, ⟨fun x k es1 p h1 h2 => ?_, hs.mem.new, fun x p h => ?_, hs.mem.inj, ?_⟩, hs.below, hs.start, Sl.ev hev hs.gh, hs.gl⟩
  · obtain ⟨u, u1, u2⟩ := hs.tmps i v hi
    exact ⟨u, u1, u2.ev hev⟩
  · rcases hget x _ h1 with ⟨rfl, h3⟩ | ⟨_, h3⟩
    · simp only [Prod.mk.injEq] at h3
      obtain ⟨rfl, rfl⟩ := h3
      obtain ⟨c1, pb, po, c, ty, c2, c3, c4, c5⟩ := hs.mem.at_ x _ _ _ hb h2
      refine ⟨f3 _ c1, pb, po, c, ty, c2, c3, by rw [← f2]; exact c4, fun i v hi => ?_⟩
      obtain ⟨v0, g1, g2⟩ := f5 i v hi
      obtain ⟨u, d1, d2, d3⟩ := c5 i v0 g1
      refine ⟨u, d1, d2, ?_⟩
      rcases nr1_cases g2 with rfl | ⟨rfl, k', rfl⟩
      · exact d3.ev hev
      · cases d3
        exact .refnil
    · obtain ⟨c1, pb, po, c, ty, c2, c3, c4, c5⟩ := hs.mem.at_ x k es1 _ h3 h2
      exact ⟨c1, pb, po, c, ty, c2, c3, c4, fun i v hi => by
        obtain ⟨u, d1, d2, d3⟩ := c5 i v hi
        exact ⟨u, d1, d2, d3.ev hev⟩⟩
  · have := hs.mem.dom x p h
    rw [← hM]; simpa using this
  · obtain ⟨ψ, hψ⟩ := hs.mem.own
    refine ⟨ψ, fun x k es1 pb po bn i n1 e1 h1 h2 h3 => ?_⟩
    rcases hget x _ h1 with ⟨rfl, h4⟩ | ⟨_, h4⟩
    · simp only [Prod.mk.injEq] at h4
      obtain ⟨rfl, rfl⟩ := h4
      obtain ⟨v0, g1, g2⟩ := f5 i _ h3
      rcases nr1_cases g2 with rfl | ⟨rfl, k', hk'⟩
      · obtain ⟨u, F, f1, f2, f3, f4⟩ := hψ x _ es pb po bn i n1 e1 hb h2 g1
        exact ⟨u, F, f1, f2, f3, fun q hq => by
          obtain ⟨a1, a2, a3, a4⟩ := f4 q hq
          exact ⟨a1, a2, a3, fun hl => a4 (hO q hl)⟩⟩
      · cases hk'
    · obtain ⟨u, F, f1, f2, f3, f4⟩ := hψ x k es1 pb po bn i n1 e1 h4 h2 h3
      exact ⟨u, F, f1, f2, f3, fun q hq => by
        obtain ⟨a1, a2, a3, a4⟩ := f4 q hq
        exact ⟨a1, a2, a3, fun hl => a4 (hO q hl)⟩⟩

/-- A block that is not there yet. -/
theorem Ent.more {t g : List V} {m : VM} (l m' : VM) (h : m ++ l = m') : Ent { t := t, m := m, g := g } { t := t, m := m', g := g } := fun P N w0 a w φ hs => ⟨φ, by subst h; exact hs.more l⟩
/-- A cell's nil slice becomes a slice of such a block. -/
theorem Ent.nilref {t g : List V} {m : VM} (b n' : Nat) {n : Nat} {es es' : List (List V)} (m' : VM) (hb : m[b]? = some (some (n, es))) (hE : nrE es es') (hm' : m.set b (some (n, es')) ++ [some (n', [])] = m') : Ent { t := t, m := m, g := g } { t := t, m := m', g := g } :=
  (Ent.nilr b _ hb hE rfl).trans (Ent.more _ _ hm')
theorem row_at {α : Type} {c : α → List V} {xs : List α} {i : Nat} {x : α} (h : ∀ h : i < xs.length, xs[i] = x) : ∀ h : i < (rows c xs).length, (rows c xs)[i] = c x := fun h1 => by rw [rows_get, h]
attribute [simp] vseqM vstepM doM menv opsAt preM killM killE killV CEnv.OkM
end Go.VL
