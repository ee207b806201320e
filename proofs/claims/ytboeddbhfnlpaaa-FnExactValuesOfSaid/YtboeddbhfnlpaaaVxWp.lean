/- The logic of code: rules for operations, calls, and the forms of code. -/
import Derived.Test.YtboeddbhfnlpaaaVxCalls2
import Derived.Laws.Externs
namespace Go.VL
open Go.RowKit
set_option linter.unusedSimpArgs false
set_option linter.unusedVariables false

def ev (t : List V) : Operand → V
  | .tmp i => t.getD i .any
  | .const v => lift v
  | .global _ => .any
  | .func f => .s (.func (.func f) #[] #[])

def putV (t : List V) (dst : Option Tmp) (v : V) : List V :=
  match dst with
  | some d => t.set d v
  | none => t

/-- Operation o yields r, whatever world it meets; its blocks are numbers k to k + cnt - 1 of m. -/
def OpY (P : Program) (o : Oper) (m : VM) (ρ : Operand → V) (r : V) (k cnt : Nat) : Prop :=
  ∀ (N : Fr) (a : Act) (w : World) (φ : Pl) (K : Act → World → Prop) (Q : Exit → Act → World → Prop), N.bd w → Glob P w → Mem N w φ m → (∀ x, x ∈ o.op.operands → S w (Live φ m) φ (ρ x) (a.eval x)) → (∀ i, i < cnt → φ (k + i) = none) →
    (∀ u w' φ', S w' (Live φ' m) φ' r u → Mem N w' φ' m → Ev w (Live φ m) φ w' (Live φ' m) φ' → Bel N w w' → (∀ b p, φ' b = some p → φ b = some p ∨ (k ≤ b ∧ b < k + cnt)) → K (a.put o.dst u) w') → o.wp P a w K Q

theorem below_drewN (N : Fr) (w : World) (n : Nat) : Bel N w (w.drewN n) := ⟨rfl, rfl, rfl, Nat.le_refl _, fun _ _ => rfl⟩

open Classical in
/-- The same, and nothing known beside the operands. -/
noncomputable def only (o : Op) (ρ : Operand → V) (x : Operand) : V := if x ∈ o.operands then ρ x else .any

theorem only_in {o : Op} {ρ : Operand → V} {x : Operand} (h : x ∈ o.operands) : only o ρ x = ρ x := if_pos h

theorem only_sound {w : World} {O : Nat → Prop} {φ : Pl} {o : Op} {ρ : Operand → V} {ρu : Operand → Value} (h : ∀ x, x ∈ o.operands → S w O φ (ρ x) (ρu x)) (x : Operand) : S w O φ (only o ρ x) (ρu x) := by
  unfold only
  split
  · exact h x ‹_›
  · exact .any

theorem vq_only {P : Program} {m : VM} {o : Op} {ρ : Operand → V} : vq P m (only o ρ) o = vq P m ρ o := by
  have h : ∀ x, x ∈ o.operands → only o ρ x = ρ x := fun x hx => only_in hx
  generalize only o ρ = ρ' at h
  have pairs : ∀ ps : Array (Nat × Operand), (∀ x ∈ ps.toList.map (·.2), ρ' x = ρ x) → ps.toList.map (fun p => (p.1, ρ' p.2)) = ps.toList.map fun p => (p.1, ρ p.2) := fun ps hp =>
    List.map_congr_left fun p hm => by rw [hp p.2 (List.mem_map.2 ⟨p, hm, rfl⟩)]
  unfold vq
  split <;> simp only [Op.operands, Call.operands] at h
  · rw [h _ (by simp)]
  · rw [h _ (by simp)]
  · rename_i c a b; rw [h c (by simp), h a (by simp), h b (by simp)]
  · rw [h _ (by simp)]
  · rename_i x; rw [h x (by simp)]
  · rename_i op t x y _; rw [h x (by simp), h y (by simp)]
  · rw [h _ (by simp)]
  · rw [h _ (by simp)]
  · rename_i t ps; rw [pairs ps fun x hx => h x (by simpa using hx)]
  · rename_i t x lo hi
    rw [h x (by simp)]
    cases lo <;> cases hi <;> simp at h <;> simp [h]
  · rw [h _ (by simp)]
  · rw [h _ (by simp)]
  · rename_i t x i; rw [h x (by simp), h i (by simp)]
  · rename_i t x i; rw [h x (by simp), h i (by simp)]
  · rename_i x i; rw [h x (by simp)]
  · rename_i args ats
    split
    · rename_i x t ha ht
      have ha' : args = #[x] := Array.ext' (by simpa using ha)
      subst ha'
      rw [h x (by simp)]
    · rfl
  · rename_i args ats
    split
    · rename_i x y ha
      have ha' : args = #[x, y] := Array.ext' (by simpa using ha)
      subst ha'
      rw [h x (by simp), h y (by simp)]
    · rfl
  · rename_i args ats
    split
    · rename_i x y ha
      have ha' : args = #[x, y] := Array.ext' (by simpa using ha)
      subst ha'
      rw [h x (by simp), h y (by simp)]
    · rfl
  · rfl

theorem valloc_only {P : Program} {k : Nat} {o : Op} {ρ : Operand → V} : valloc P k (only o ρ) o = valloc P k ρ o := by
  have h : ∀ x, x ∈ o.operands → only o ρ x = ρ x := fun x hx => only_in hx
  generalize only o ρ = ρ' at h
  have pairs : ∀ ps : Array (Nat × Operand), (∀ x ∈ ps.toList.map (·.2), ρ' x = ρ x) → ps.toList.map (fun p => (p.1, ρ' p.2)) = ps.toList.map fun p => (p.1, ρ p.2) := fun ps hp =>
    List.map_congr_left fun p hm => by rw [hp p.2 (List.mem_map.2 ⟨p, hm, rfl⟩)]
  unfold valloc
  split <;> simp only [Op.operands, Call.operands] at h
  · rfl
  · rw [h _ (by simp)]
  · rename_i t len ps; rw [pairs ps fun x hx => h x (by simpa using hx)]
  · rename_i t l c; rw [h l (by simp), h c (by simp)]
  · rfl

theorem OpY.quiet {P : Program} {o : Oper} {m : VM} {ρ : Operand → V} {r : V} {k : Nat} (h : vq P m ρ o.op = some r) : OpY P o m ρ r k 0 := by
  intro N a w φ K Q hN hg hm hρ hφ hK
  obtain ⟨u, n, h1, h2⟩ := vq_sound (o := o) (by rw [vq_only]; exact h) (only_sound hρ) hm
  obtain ⟨d1, d2⟩ := hm.drewN n
  unfold Oper.wp
  rw [h1, Oper.upon_value]
  exact hK u _ φ (h2.ev d2) d1 d2 (below_drewN N w n) (fun b p hb => .inl hb)

theorem OpY.alloc {P : Program} {o : Oper} {m : VM} {ρ : Operand → V} {r : V} {k n : Nat} {es : List (List V)} (h : valloc P k ρ o.op = some (r, n, es)) (hm' : m[k]? = some (some (n, es))) : OpY P o m ρ r k 1 := by
  intro N a w φ K Q hN hg hm hρ hφ hK
  obtain ⟨u, c, t, us, h1, h2, h3, h4, h5, h6, h7⟩ := valloc_sound (o := o) (w := w) (by rw [valloc_only]; exact h) (only_sound hρ)
  have hφ0 : φ k = none := by simpa using hφ 0 (by omega)
  obtain ⟨d1, d2⟩ := hm.map hN hm' hφ0 h2 h3 h4 h5 (w' := w.alloc (.cells c t)) rfl h6 (cell_noOwn (valloc_cell h))
  unfold Oper.wp
  rw [h1, Oper.upon_value]
  refine hK u _ _ (h7 _ _ (by simp [ext])) d1 d2 ((Bel.refl N w).alloc hN _) (fun b p hb => ?_)
  unfold ext at hb
  split at hb
  · right; omega
  · exact .inl hb

/-- A call of a function of the program, by its contract. -/
theorem OpY.call {P : Program} {o : Oper} {m : VM} {ρ : Operand → V} {f : FuncId} {args : Array Operand} {ats : Array TypeId} {vs : List V} {r r' : V} {k : Nat} {l : VM} (ho : o.op = .call { callee := .value (.func f), args := args, argTypes := ats })
    (hf : (P.funcs[f]?).any (fun fn => fn.body.isSome && fn.name != "runtime.NumGoroutine") = true) (hre : ReL m (args.toList.map ρ) vs) (hc : VCalls P f vs (fun x => x = r)) (hx : Ex k r r' l) (hl : ∀ i x, l[i]? = some x → m[k + i]? = some x) : OpY P o m ρ r' k l.length := by
  intro N a w φ K Q hN hg hm hρ hφ hK
  have hargs : Sl w (Live φ m) φ (args.toList.map ρ) (args.toList.map a.eval) := by
    have : ∀ q : List Operand, (∀ x ∈ q, x ∈ o.op.operands) → Sl w (Live φ m) φ (q.map ρ) (q.map a.eval) := fun q => by
      induction q with
      | nil => exact fun _ => .nil
      | cons x q ih => exact fun hq => .cons (hρ x (hq x (by simp))) (ih fun y hy => hq y (by simp [hy]))
    exact this _ fun x hx => by simp [ho, Op.operands, Call.operands]; right; simpa using hx
  have hcalls := hc w _ hg (ReL.soundL hm hre hargs)
  have hrun : (execOp a.eval o).run P w = .ok (.enter f (args.map a.eval)) w := by
    cases hfn : P.funcs[f]? with
    | none => simp [hfn] at hf
    | some fn =>
      simp [hfn] at hf
      obtain ⟨b1, b2⟩ := hf
      have b3 : fn.body ≠ none := by simpa [Option.isSome_iff_ne_none] using b1
      simp [execOp, ho, resolve, Act.eval, Deferred.ofValue, invoke, callFunc, hfn, b2, b3]
  unfold Oper.wp
  rw [hrun, Oper.upon_enter]
  have : (args.toList.map a.eval).toArray = args.map a.eval := by apply Array.ext'; simp
  rw [this] at hcalls
  refine hcalls.mono fun e w' ⟨x, u, F, he, hx', hr, hnd, hF, hb⟩ => ?_
  subst he
  subst hx'
  obtain ⟨φ', a1, a2, a3, a4⟩ := hm.result hN hb hr hnd hF hx hl hφ
  exact hK u w' φ' a1 a2 a3 (Bel.of hb hN) a4

/-- F tells what function f, which the model carries out by itself, returns. -/
def TellsX (P : Program) (f : FuncId) (F : List V → Option V) : Prop :=
  ∃ fn e, P.funcs[f]? = some fn ∧ (fn.name == "runtime.NumGoroutine") = false ∧ fn.body.isNone = true ∧ Extern.findNext fn = none ∧ Extern.find fn = some e ∧
    ∀ args r, F args = some r → plainV r = true ∧ ∀ (w : World) (us : List Value), Sl w (fun _ => False) noPl args us → ∃ u n, (e us.toArray).run P w = .ok u (w.drewN n) ∧ S w (fun _ => False) noPl r u

theorem OpY.extern {P : Program} {o : Oper} {m : VM} {ρ : Operand → V} {f : FuncId} {args : Array Operand} {ats : Array TypeId} {vs : List V} {r : V} {k : Nat} {F : List V → Option V} (ho : o.op = .call { callee := .value (.func f), args := args, argTypes := ats })
    (hX : TellsX P f F) (hre : ReL m (args.toList.map ρ) vs) (hc : F vs = some r) : OpY P o m ρ r k 0 := by
  intro N a w φ K Q hN hg hm hρ hφ hK
  obtain ⟨fn, e, x1, x2, x3, x4, x5, x6⟩ := hX
  have hargs : Sl w (Live φ m) φ (args.toList.map ρ) (args.toList.map a.eval) := by
    have : ∀ q : List Operand, (∀ x ∈ q, x ∈ o.op.operands) → Sl w (Live φ m) φ (q.map ρ) (q.map a.eval) := fun q => by
      induction q with
      | nil => exact fun _ => .nil
      | cons x q ih => exact fun hq => .cons (hρ x (hq x (by simp))) (ih fun y hy => hq y (by simp [hy]))
    exact this _ fun x hx => by simp [ho, Op.operands, Call.operands]; right; simpa using hx
  obtain ⟨hp, hrun0⟩ := x6 vs r hc
  obtain ⟨u, n, h1, h2⟩ := hrun0 w _ (ReL.soundL hm hre hargs)
  have harr : (args.toList.map a.eval).toArray = args.map a.eval := by apply Array.ext'; simp
  rw [harr] at h1
  obtain ⟨d1, d2⟩ := hm.drewN n
  have hrun : (execOp a.eval o).run P w = .ok (.value u) (w.drewN n) := by
    have := run_callFunc_extern x1 x2 x3 x4 x5 (args.map a.eval) w
    rw [h1] at this
    simp [execOp, ho, resolve, Act.eval, Deferred.ofValue, invoke, this]
  unfold Oper.wp
  rw [hrun, Oper.upon_value]
  exact hK u _ φ (h2.plain hp) d1 d2 (below_drewN N w n) (fun b p hb => .inl hb)

section
variable {P : Program} {N : Fr} {w0 : World × List Value}

theorem SR.eval {st : VS} {a : Act} {w : World} {φ : Pl} (h : SR P N w0 st a w φ) (x : Operand) : S w (Live φ st.m) φ (ev st.t x) (a.eval x) := by
  cases x with
  | tmp i =>
    simp only [ev, Act.eval]
    cases hi : st.t[i]? with
    | none => simp [List.getD, hi]; exact .any
    | some v =>
      obtain ⟨u, h1, h2⟩ := h.tmps i v hi
      simp [List.getD, hi, Array.getD, Array.getElem?_eq_some_iff] at h1 ⊢
      obtain ⟨hlt, h1⟩ := h1
      simp [hlt, h1]
      exact h2
  | const v => exact S.lift v
  | global g => exact .any
  | func f => exact .s rfl

theorem SR.put {st : VS} {m' : VM} {a : Act} {w w' : World} {φ φ' : Pl} {dst : Option Tmp} {v : V} {u : Value} (h : SR P N w0 st a w φ) (hv : S w' (Live φ' m') φ' v u) (hm : Mem N w' φ' m') (he : Ev w (Live φ st.m) φ w' (Live φ' m') φ') (hb : Bel N w w') :
    SR P N w0 { t := putV st.t dst v, m := m', g := st.g } (a.put dst u) w' φ' := by
  refine ⟨?_, ?_, fun i x hi => ?_, hm, h.below.trans hb, h.start.trans hb.size, Sl.ev he h.gh, h.gl⟩
  · cases dst <;> exact h.defers
  · cases dst with
    | none => exact h.size
    | some d => simp [putV, Act.put, h.size]
  · cases dst with
    | none =>
      obtain ⟨z, a1, a2⟩ := h.tmps i x hi
      exact ⟨z, a1, a2.ev he⟩
    | some d =>
      simp only [putV, Act.put] at hi ⊢
      rw [List.getElem?_set] at hi
      split at hi
      · rename_i hd
        subst hd
        split at hi
        · rename_i hlt
          obtain rfl := Option.some.inj hi
          have : d < a.tmps.size := by rw [h.size]; exact hlt
          exact ⟨u, by simp [Array.getElem?_setIfInBounds, this], hv⟩
        · cases hi
      · rename_i hd
        obtain ⟨z, a1, a2⟩ := h.tmps i x hi
        exact ⟨z, by rw [Array.getElem?_setIfInBounds_ne hd]; exact a1, a2.ev he⟩

/-- More blocks, which have no place yet. -/
theorem SR.more {st : VS} {a : Act} {w : World} {φ : Pl} (h : SR P N w0 st a w φ) (l : VM) : SR P N w0 { t := st.t, m := st.m ++ l, g := st.g } a w φ := by
  obtain ⟨h1, h2⟩ := h.mem.more l
  exact ⟨h.defers, h.size, fun i v hi => by
    obtain ⟨u, a1, a2⟩ := h.tmps i v hi
    exact ⟨u, a1, a2.ev h2⟩, h1, h.below, h.start, Sl.ev h2 h.gh, h.gl⟩

/-- What an operation leaves that is not carried out. -/
abbrev und : V := .tup []

theorem S.und {w : World} {O : Nat → Prop} {φ : Pl} : S w O φ und undef := .tup .nil

/-- Is the operation carried out? 'none': not known. -/
def vwanted (ops : Array Oper) (t : List V) (o : Oper) : Option Bool :=
  match o.guard with
  | none => some true
  | some (j, want) => match (ops[j]?).bind (·.dst) with
    | some d => match t[d]? with
      | some (.b x) => some (x == want)
      | some (.tup _) => some false
      | none => some false
      | _ => none
    | none => none

theorem vwanted_sound {ops : Array Oper} {st : VS} {o : Oper} {a : Act} {w : World} {φ : Pl} {x : Bool} (h : vwanted ops st.t o = some x) (hs : SR P N w0 st a w φ) : Region.wanted o (yielded ops a.tmps) = x := by
  unfold vwanted at h
  unfold Region.wanted
  split at h
  · rename_i hg
    simp [hg]; simpa using h.symm
  · rename_i j want hg
    split at h
    · rename_i d hd
      split at h
      · rename_i y hy
        obtain ⟨u, a1, a2⟩ := hs.tmps d _ hy
        cases a2
        simp [hg, yielded, hd, a1]
        simpa using h
      · rename_i vs hy
        obtain ⟨u, a1, a2⟩ := hs.tmps d _ hy
        cases a2
        simp [hg, yielded, hd, a1]
        simpa using h
      · rename_i hy
        have : a.tmps[d]? = none := by
          rw [List.getElem?_eq_none_iff] at hy
          rw [Array.getElem?_eq_none_iff, hs.size]; exact hy
        simp [hg, yielded, hd, this]
        simpa using h
      · cases h
    · cases h

/-- A judgement on operations in a row. -/
def VL (P : Program) (ops : Array Oper) (Q : Exit → VS → Prop) (l : List Oper) (st : VS) : Prop :=
  ∀ (N : Fr) (w0 : World × List Value) (a : Act) (w : World) (φ : Pl), SR P N w0 st a w φ → wpList P ops (fun e a' w' => ∃ st' φ', Q e st' ∧ SR P N w0 st' a' w' φ') l a w

theorem VL.nil {ops : Array Oper} {Q : Exit → VS → Prop} {st : VS} (h : Q .normal st) : VL P ops Q [] st := fun N w0 a w φ hs => ⟨st, φ, h, hs⟩

theorem VL.skip {ops : Array Oper} {Q : Exit → VS → Prop} {st : VS} {o : Oper} {l : List Oper} (hw : vwanted ops st.t o = some false) (h : VL P ops Q l { t := putV st.t o.dst und, m := st.m, g := st.g }) : VL P ops Q (o :: l) st := by
  intro N w0 a w φ hs
  unfold wpList
  rw [vwanted_sound hw hs, if_neg (by simp)]
  exact h N w0 _ _ φ (hs.put S.und hs.mem (Ev.refl _ _ _) (Bel.refl _ _))

theorem VL.op {ops : Array Oper} {Q : Exit → VS → Prop} {st : VS} {o : Oper} {l : List Oper} {r : V} {bl : VM} (hw : vwanted ops st.t o = some true) (ho : OpY P o (st.m ++ bl) (ev st.t) r st.m.length bl.length)
    (h : VL P ops Q l { t := putV st.t o.dst r, m := st.m ++ bl, g := st.g }) : VL P ops Q (o :: l) st := by
  intro N w0 a w φ hs
  unfold wpList
  rw [vwanted_sound hw hs, if_pos rfl]
  left
  have hs' := hs.more bl
  refine ho N a w φ _ _ hs.start hs.glob hs'.mem (fun x _ => hs'.eval x) (fun i hi => hs.mem.fresh (by omega)) fun u w' φ' h1 h2 h3 h4 _ => h N w0 _ _ φ' (hs'.put h1 h2 h3 h4)

theorem VL.store {ops : Array Oper} {Q : Exit → VS → Prop} {st : VS} {o : Oper} {l : List Oper} {t : TypeId} {x y : Operand} {m' : VM} (hw : vwanted ops st.t o = some true) (ho : o.op = .store t x y) (hm : vstore P st.m t (ev st.t x) (ev st.t y) = some m')
    (h : VL P ops Q l { t := putV st.t o.dst .any, m := m', g := st.g }) : VL P ops Q (o :: l) st := by
  intro N w0 a w φ hs
  unfold wpList
  rw [vwanted_sound hw hs, if_pos rfl]
  left
  obtain ⟨w', h1, h2, h3, h4⟩ := vstore_sound hm (hs.eval x) (hs.eval y) hs.mem
  unfold Oper.wp
  have hrun : (execOp a.eval o).run P w = .ok .skip w' := by simp [execOp, ho, h1]
  rw [hrun, Oper.upon_skip]
  exact h N w0 _ _ φ (hs.put .any h2 h3 h4)

/-- One operation that needs no contract. -/
def vop1 (P : Program) (st : VS) (o : Oper) : Option VS :=
  match vq P st.m (ev st.t) o.op with
  | some v => some { t := putV st.t o.dst v, m := st.m, g := st.g }
  | none => match valloc P st.m.length (ev st.t) o.op with
    | some (v, n, es) => some { t := putV st.t o.dst v, m := st.m ++ [some (n, es)], g := st.g }
    | none => match o.op with
      | .store t x y => (vstore P st.m t (ev st.t x) (ev st.t y)).map fun m' => { t := putV st.t o.dst .any, m := m', g := st.g }
      | _ => none

/-- Operations in a row that need no contract. -/
def vops (P : Program) (ops : Array Oper) : List Oper → VS → Option VS
  | [], st => some st
  | o :: l, st => match vwanted ops st.t o with
    | some true => (vop1 P st o).bind (vops P ops l)
    | some false => vops P ops l { t := putV st.t o.dst und, m := st.m, g := st.g }
    | none => none

theorem VL.run {ops : Array Oper} {Q : Exit → VS → Prop} {rest : List Oper} : ∀ {l : List Oper} {st st' : VS}, vops P ops l st = some st' → VL P ops Q rest st' → VL P ops Q (l ++ rest) st
  | [], st, st', h, hr => by simp [vops] at h; subst h; exact hr
  | o :: l, st, st', h, hr => by
    simp only [vops] at h
    split at h
    · rename_i hw
      cases h1 : vop1 P st o with
      | none => simp [h1] at h
      | some st1 =>
        simp only [h1, Option.bind_some] at h
        have ih := VL.run (Q := Q) h hr
        unfold vop1 at h1
        split at h1
        · rename_i v hv
          obtain rfl := Option.some.inj h1
          exact VL.op (bl := []) hw (by simpa using OpY.quiet hv) (by simpa using ih)
        · split at h1
          · rename_i v n es hv
            obtain rfl := Option.some.inj h1
            exact VL.op (bl := [some (n, es)]) hw (OpY.alloc hv (by simp)) ih
          · split at h1
            · rename_i t x y ho
              cases hm : vstore P st.m t (ev st.t x) (ev st.t y) with
              | none => simp [hm] at h1
              | some m' =>
                simp [hm] at h1
                subst h1
                exact VL.store hw ho hm ih
            · cases h1
    · rename_i hw
      exact VL.skip hw (VL.run h hr)
    · cases h

/-- A call: by its contract; 'Q'' tells the result; for each, the caller says what it makes of it. -/
theorem VL.call {ops : Array Oper} {Q : Exit → VS → Prop} {st : VS} {o : Oper} {l : List Oper} {f : FuncId} {args : Array Operand} {ats : Array TypeId} {vs : List V} {R : V → Prop} (hw : vwanted ops st.t o = some true)
    (ho : o.op = .call { callee := .value (.func f), args := args, argTypes := ats }) (hf : (P.funcs[f]?).any (fun fn => fn.body.isSome && fn.name != "runtime.NumGoroutine") = true) (hre : ReL st.m (args.toList.map (ev st.t)) vs) (hc : VCalls P f vs R)
    (h : ∀ r, R r → ∃ r' bl, Ex st.m.length r r' bl ∧ VL P ops Q l { t := putV st.t o.dst r', m := st.m ++ bl, g := st.g }) : VL P ops Q (o :: l) st := by
  intro N w0 a w φ hs
  unfold wpList
  rw [vwanted_sound hw hs, if_pos rfl]
  left
  have hargs : Sl w (Live φ st.m) φ (args.toList.map (ev st.t)) (args.toList.map a.eval) := by
    have : ∀ q : List Operand, Sl w (Live φ st.m) φ (q.map (ev st.t)) (q.map a.eval) := fun q => by
      induction q with
      | nil => exact .nil
      | cons x q ih => exact .cons (hs.eval x) ih
    exact this _
  have hcalls := hc w _ hs.glob (ReL.soundL hs.mem hre hargs)
  have hrun : (execOp a.eval o).run P w = .ok (.enter f (args.map a.eval)) w := by
    cases hfn : P.funcs[f]? with
    | none => simp [hfn] at hf
    | some fn =>
      simp [hfn] at hf
      obtain ⟨b1, b2⟩ := hf
      have b3 : fn.body ≠ none := by simpa [Option.isSome_iff_ne_none] using b1
      simp [execOp, ho, resolve, Act.eval, Deferred.ofValue, invoke, callFunc, hfn, b2, b3]
  unfold Oper.wp
  rw [hrun, Oper.upon_enter]
  have : (args.toList.map a.eval).toArray = args.map a.eval := by apply Array.ext'; simp
  rw [this] at hcalls
  refine hcalls.mono fun e w' ⟨x, u, F, he, hx', hr, hnd, hF, hb⟩ => ?_
  subst he
  obtain ⟨r', bl, hx, hVL⟩ := h x hx'
  have hs' := hs.more bl
  obtain ⟨φ', a1, a2, a3, a4⟩ := hs'.mem.result hs.start hb hr hnd hF hx (fun i y hi => by rw [List.getElem?_append_right (by omega)]; rw [show st.m.length + i - st.m.length = i by omega]; exact hi) (fun i hi => hs.mem.fresh (by omega))
  exact hVL N w0 _ _ φ' (hs'.put a1 a2 a3 (Bel.of hb hs.start))
end
end Go.VL
