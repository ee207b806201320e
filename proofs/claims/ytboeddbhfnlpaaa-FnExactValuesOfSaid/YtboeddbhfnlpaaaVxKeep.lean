/- A pointer that is kept by its value alone: what it points to is told anew where it is wanted. -/
import Derived.Test.YtboeddbhfnlpaaaVxOrd
namespace Go.VL
open Go.RowKit
set_option linter.unusedSimpArgs false
set_option linter.unusedVariables false

/-- As VW, for given blocks that are kept. -/
def VWf (N : Fr) (w0 : World × List Value) (P : Program) (c : Code) (Q : Exit → VS → Prop) (st : VS) : Prop :=
  ∀ (a : Act) (w : World) (φ : Pl), SR P N w0 st a w φ → c.wp P (fun e a' w' => ∃ st' φ', Q e st' ∧ SR P N w0 st' a' w' φ') a w
section
variable {N : Fr} {w0 : World × List Value} {P : Program} {c : Code} {Q : Exit → VS → Prop} {st s : VS}
theorem VWf.of (h : VW P c Q st) : VWf N w0 P c Q st := fun a w φ hs => h N w0 a w φ hs
theorem VWf.ent (he : Ent st s) (h : VWf N w0 P c Q s) : VWf N w0 P c Q st := fun a w φ hs => by
  obtain ⟨φ', hs'⟩ := he P N w0 a w φ hs
  exact h a w φ' hs'
theorem VWf.mono {Q' : Exit → VS → Prop} (h : VWf N w0 P c Q st) (hq : ∀ e s, Q e s → Q' e s) : VWf N w0 P c Q' st := fun a w φ hs =>
  wp_mono (h a w φ hs) fun e a' w' ⟨s, φ', h1, h2⟩ => ⟨s, φ', hq _ _ h1, h2⟩
theorem VWf.sq {x y : Code} (h : VWf N w0 P x (vthen (VWf N w0 P y Q) Q) st) : VWf N w0 P (.seq x y) Q st := fun a w φ hs => by
  refine wp_seq (wp_mono (h a w φ hs) fun e a' w' ⟨s, φ', h1, h2⟩ => ?_)
  cases e with
  | normal => exact h1 a' w' φ' h2
  | exit id => exact ⟨s, φ', h1, h2⟩
  | goto l => exact ⟨s, φ', h1, h2⟩
  | ret => exact ⟨s, φ', h1, h2⟩
  | panic c => exact ⟨s, φ', h1, h2⟩
  | outgrown => exact ⟨s, φ', h1, h2⟩
theorem VWf.join {σ : Type} (H : σ → VS) (K : σ → Prop) {x y : Code} (h : VWf N w0 P x (vthen (fun s => ∃ v, K v ∧ Ent s (H v)) Q) st) (hj : ∀ v, K v → VWf N w0 P y Q (H v)) : VWf N w0 P (.seq x y) Q st := by
  refine VWf.sq (h.mono fun e s hq => ?_)
  cases e with
  | normal =>
    obtain ⟨v, h1, h2⟩ := hq
    exact VWf.ent h2 (hj v h1)
  | exit id => exact hq
  | goto l => exact hq
  | ret => exact hq
  | panic c => exact hq
  | outgrown => exact hq
end

/-! ### What is told in blocks that are kept stays told -/
section
variable {w w' : World} {O O' : Nat → Prop}
mutual
theorem S.evN (hk : ∀ k, k < w.heap.size → ¬ O k → w'.heap[k]? = w.heap[k]? ∧ ¬ O' k) : ∀ {φ φ' : Pl} {v : V} {u : Value}, φ = noPl → S w O φ v u → S w' O' φ' v u
  | _, _, _, _, _, .i => .i
  | _, _, _, _, _, .b => .b
  | _, _, _, _, _, .f => .f
  | _, _, _, _, _, .nan h => .nan h
  | _, _, _, _, _, .str => .str
  | _, _, _, _, _, .s h => .s h
  | _, _, _, _, _, .nil => .nil
  | _, _, _, _, h0, .sl hn hl hc h => .sl hn hl hc (Ss.evN hk rfl h)
  | _, _, _, _, _, .sl0 => .sl0
  | _, _, _, _, _, .slnil => .slnil
  | _, _, _, _, _, .refnil => .refnil
  | _, _, _, _, h0, .ref hφ hc hr => by rw [h0] at hφ; cases hφ
  | _, _, _, _, _, .ref0 => .ref0
  | _, _, _, _, h0, .refc hφ hc => by rw [h0] at hφ; cases hφ
  | _, _, _, _, _, .refc0 => .refc0
  | _, _, _, _, h0, .ptr hφ => by rw [h0] at hφ; cases hφ
  | _, _, _, _, h0, .cptr h => .cptr (Ss.evN hk rfl h)
  | _, _, _, _, h0, .agg h => .agg (Sl.evN hk h0 h)
  | _, _, _, _, h0, .tup h => .tup (Sl.evN hk h0 h)
  | _, _, _, _, h0, .own h => .own (S.evN hk rfl h)
  | _, _, _, _, _, .err => .err
  | _, _, _, _, _, .any => .any
theorem Ss.evN (hk : ∀ k, k < w.heap.size → ¬ O k → w'.heap[k]? = w.heap[k]? ∧ ¬ O' k) : ∀ {φ φ' : Pl} {b off : Nat} {vs : List V}, φ = noPl → Ss w O φ b off vs → Ss w' O' φ' b off vs
  | _, _, _, _, _, _, .nil => .nil
  | _, _, _, _, _, h0, .cons ho hc hv hs => .cons (hk _ (cell?_lt hc) ho).2 ((cell?_same (hk _ (cell?_lt hc) ho).1).trans hc) (S.evN hk h0 hv) (Ss.evN hk h0 hs)
theorem Sl.evN (hk : ∀ k, k < w.heap.size → ¬ O k → w'.heap[k]? = w.heap[k]? ∧ ¬ O' k) : ∀ {φ φ' : Pl} {vs : List V} {us : List Value}, φ = noPl → Sl w O φ vs us → Sl w' O' φ' vs us
  | _, _, _, _, _, .nil => .nil
  | _, _, _, _, h0, .cons hv hs => .cons (S.evN hk h0 hv) (Sl.evN hk h0 hs)
end
end

/-- u is as v tells, in blocks that are kept. -/
def KN (N : Fr) (w0 : World × List Value) (v : V) (u : Value) : Prop := scalarB u = true ∧ N.bd w0.1 ∧ S w0.1 (fun k => ¬ N k) noPl v u
theorem KN.now {P : Program} {N : Fr} {w0 : World × List Value} {v : V} {u : Value} {st : VS} {a : Act} {w : World} {φ : Pl} (h : KN N w0 v u) (hs : SR P N w0 st a w φ) : S w (Live φ st.m) φ v u :=
  S.evN (fun k hk ho => by
    have hN : N k := Classical.byContradiction ho
    refine ⟨hs.below.block k hN, fun hl => (Live.lt hs.mem hl).1 hN⟩) rfl h.2.2

/-! ### A temporary that is not written stays -/
theorem put_keeps {a : Act} {dst : Option Tmp} {d : Nat} {u v : Value} (hd : dst ≠ some d) (ha : a.tmps[d]? = some u) : (a.put dst v).tmps[d]? = some u := by
  unfold Act.put
  cases dst with
  | none => exact ha
  | some e =>
    have : e ≠ d := fun h => hd (by rw [h])
    simp only
    rw [Array.getElem?_setIfInBounds_ne this]
    exact ha
theorem Oper.frame {P : Program} {o : Oper} {a : Act} {w : World} {K : Act → World → Prop} {Q : Exit → Act → World → Prop} {d : Nat} {u : Value} (hd : o.dst ≠ some d) (ha : a.tmps[d]? = some u) (hh : o.wp P a w K Q) : o.wp P a w (fun a' w' => K a' w' ∧ a'.tmps[d]? = some u) Q := by
  unfold Oper.wp at *
  generalize (execOp a.eval o).run P w = r at *
  cases r with
  | ok n w' =>
    cases n <;> simp only [Oper.upon] at hh ⊢ <;>
      first
        | exact ⟨hh, put_keeps hd ha⟩
        | exact Calls.mono hh (fun e w'' he => by cases e <;> first | exact ⟨he, put_keeps hd ha⟩ | exact he)
        | exact Rows.mono hh (fun _ _ he => ⟨he, put_keeps hd ha⟩)
  | halt x w' => cases x <;> simp only [Oper.upon] at hh ⊢ <;> exact hh
def FrQ (d : Nat) (u : Value) (Q : Exit → Act → World → Prop) : Exit → Act → World → Prop := fun e a w => Q e a w ∧ (e = .normal → a.tmps[d]? = some u)
theorem FrQ.out {d : Nat} {u : Value} {Q : Exit → Act → World → Prop} {e : Exit} {a : Act} {w : World} (he : e ≠ .normal) (h : Q e a w) : FrQ d u Q e a w := ⟨h, fun h1 => absurd h1 he⟩
theorem wpList_frame {P : Program} {ops : Array Oper} {Q : Exit → Act → World → Prop} {d : Nat} {u : Value} : ∀ (l : List Oper) (a : Act) (w : World), (∀ o ∈ l, o.dst ≠ some d) → a.tmps[d]? = some u → wpList P ops Q l a w → wpList P ops (FrQ d u Q) l a w
  | [], a, w, _, ha, h => ⟨h, fun _ => ha⟩
  | o :: l, a, w, hd, ha, h => by
    have hd0 := hd o (by simp)
    have hdl : ∀ o ∈ l, o.dst ≠ some d := fun x hx => hd x (by simp [hx])
    unfold wpList at h ⊢
    split at h
    · rename_i hw
      rw [if_pos hw]
      rcases h with h | ⟨h1, h2⟩
      · exact .inl (wp_mono2 (fun a' w' ⟨k1, k2⟩ => wpList_frame l a' w' hdl k2 k1) (fun e a' w' he hq => FrQ.out he hq) (Oper.frame hd0 ha h))
      · obtain ⟨a', w', h3⟩ := h2
        exact .inr ⟨h1, a', w', FrQ.out (by simp) h3⟩
    · rename_i hw
      rw [if_neg hw]
      exact wpList_frame l _ w hdl (put_keeps hd0 ha) h
theorem wpAny_frame {P : Program} {ops : Array Oper} {Q : Exit → Act → World → Prop} {d : Nat} {u : Value} (hd : ∀ (i : Nat) (o : Oper), ops[i]? = some o → o.dst ≠ some d) : ∀ (n : Nat) (listed : Array Bool) (a : Act) (w : World), a.tmps[d]? = some u → wpAny P .any ops Q n listed a w → wpAny P .any ops (FrQ d u Q) n listed a w
  | 0, listed, a, w, ha, h => ⟨h.1, h.2, fun _ => ha⟩
  | n + 1, listed, a, w, ha, h => ⟨fun hr => ⟨h.1 hr, fun _ => ha⟩, fun i hi => by
    have hh := h.2 i hi
    unfold wpOp at hh ⊢
    split
    · rename_i ho
      rw [ho] at hh
      exact wpAny_frame hd n _ a w ha hh
    · rename_i o ho
      rw [ho] at hh
      simp only at hh
      have hd0 := hd i o ho
      split at hh
      · rename_i hw
        rw [if_pos hw]
        rcases hh with h1 | ⟨h1, h2⟩
        · exact .inl (wp_mono2 (fun a' w' ⟨k1, k2⟩ => wpAny_frame hd n _ a' w' k2 k1) (fun e a' w' he hq => FrQ.out he hq) (Oper.frame hd0 ha h1))
        · obtain ⟨a', w', h3⟩ := h2
          exact .inr ⟨h1, a', w', FrQ.out (by simp) h3⟩
      · rename_i hw
        rw [if_neg hw]
        exact wpAny_frame hd n _ _ w (put_keeps hd0 ha) hh⟩

section
variable {N : Fr} {w0 : World × List Value} {P : Program} {C : CEnv} {Q : Exit → VS → Prop} {st : VS} {u0 : Value} {v : V}
/-- The pointer's value, told by what it points to; and back. -/
theorem SR.told {a : Act} {w : World} {φ : Pl} (hK : KN N w0 v u0) (hs : SR P N w0 st a w φ) {d : Nat} (hd : st.t[d]? = some (.s u0)) : a.tmps[d]? = some u0 ∧ SR P N w0 { t := st.t.set d v, m := st.m, g := st.g } a w φ := by
  obtain ⟨u, h1, h2⟩ := hs.tmps d _ hd
  have hu : u = u0 := by cases h2; rfl
  subst hu
  refine ⟨h1, hs.defers, by simpa using hs.size, fun i x hi => ?_, hs.mem, hs.below, hs.start, hs.gh, hs.gl⟩
  rw [List.getElem?_set] at hi
  split at hi
  · rename_i e
    subst e
    split at hi
    · cases hi
      exact ⟨u, h1, KN.now (st := st) hK hs⟩
    · cases hi
  · exact hs.tmps i x hi
theorem SR.untold {a : Act} {w : World} {φ : Pl} (hsc : scalarB u0 = true) (hs : SR P N w0 st a w φ) {d : Nat} (ha : a.tmps[d]? = some u0) : SR P N w0 { t := st.t.set d (.s u0), m := st.m, g := st.g } a w φ := by
  refine ⟨hs.defers, by simpa using hs.size, fun i x hi => ?_, hs.mem, hs.below, hs.start, hs.gh, hs.gl⟩
  rw [List.getElem?_set] at hi
  split at hi
  · rename_i e
    subst e
    split at hi
    · cases hi
      exact ⟨u0, ha, .s hsc⟩
    · cases hi
  · exact hs.tmps i x hi
def noDst (d : Nat) (l : List Oper) : Bool := l.all fun o => match o.dst with
  | some e => !(e == d)
  | none => true
theorem noDst_spec {d : Nat} {l : List Oper} (h : noDst d l = true) : ∀ o ∈ l, o.dst ≠ some d := fun o ho he => by
  have := List.all_eq_true.1 h o ho
  rw [he] at this
  simp at this
/-- A region that reads what the kept pointer points to. -/
theorem VWf.rK {id : Nat} {l : List Oper} {d : Nat} (t' : List V) (m' : VM) (g' t'' : List V) (hC : C.Ok P) (hK : KN N w0 v u0) (hQ : Q .normal { t := t'', m := m', g := g' }) (hl : st.t[d]? = some (.s u0)) (hn : noDst d l = true) (ht : t'.set d (.s u0) = t'')
    (h : toSt (veval P C l.toArray l.length none l { t := st.t.set d v, m := st.m, g := st.g }) t' m' g') (hg : guardsOk l.toArray l.length none l = true) : VWf N w0 P (.region id l.toArray false) Q st := fun a w φ hs => by
  obtain ⟨ha, hs'⟩ := SR.told hK hs hl
  obtain ⟨t, h1, h2⟩ := h.get
  have hste := veval_ste _ _ _ _ _ h1 hg (fun _ _ h => by cases h)
  have hvl : VL P l.toArray (fun e s => e = .normal ∧ s = { t := t, m := m', g := g' }) l { t := st.t.set d v, m := st.m, g := st.g } := by
    simpa using hste.vl (rest := []) hC (VL.nil ⟨rfl, rfl⟩)
  have hw := wpList_frame l a w (noDst_spec hn) ha (hvl N w0 a w φ hs')
  refine wp_mono (wp_region_lit hw) fun e a' w' hq => ?_
  obtain ⟨⟨s, φ', ⟨rfl, rfl⟩, h4⟩, h5⟩ := hq
  obtain ⟨φ2, h6⟩ := Ent.le (g := g') (m := m') h2 P N w0 a' w' φ' h4
  subst ht
  exact ⟨_, φ2, hQ, SR.untold hK.1 h6 (h5 rfl)⟩
/-- The same, where it draws its order. -/
theorem VWf.rKD {id : Nat} {l : List Oper} {d : Nat} (ps : List (List Nat)) (t' : List V) (m' : VM) (g' t'' : List V) (hC : C.Ok P) (hm : P.follows .mixedOrders = true) (hK : KN N w0 v u0) (hQ : Q .normal { t := t'', m := m', g := g' }) (hl : st.t[d]? = some (.s u0)) (hn : noDst d l = true) (ht : t'.set d (.s u0) = t'')
    (he : exts l.toArray l.length (Array.replicate l.length false) = ps) (h : ∀ p ∈ ps, toSt (vseqG P C l.toArray (opsAt l p) { t := st.t.set d v, m := st.m, g := st.g }) t' m' g') : VWf N w0 P (.region id l.toArray true) Q st := fun a w φ hs => by
  obtain ⟨ha, hs'⟩ := SR.told hK hs hl
  have hva := VA.ofG (P := P) (l := l) (Q := fun e s => e = .normal ∧ Ent s { t := t', m := m', g := g' }) hC l.length (Array.replicate l.length false) { t := st.t.set d v, m := st.m, g := st.g } (by
    exact Nat.le_trans (List.countP_le_length (l := List.range l.length)) (by simp)) (fun p hp => by
    rw [he] at hp
    obtain ⟨t, h1, h2⟩ := (h p hp).get
    exact ⟨_, h1, rfl, Ent.le h2⟩)
  have hs1 : SR P N w0 { t := st.t.set d v, m := st.m, g := st.g } a (w.drewN 1) φ := by
    obtain ⟨d1, d2⟩ := hs'.mem.drewN 1
    exact ⟨hs'.defers, hs'.size, fun i v hi => by
      obtain ⟨u, b1, b2⟩ := hs'.tmps i v hi
      exact ⟨u, b1, b2.ev d2⟩, d1, hs'.below.trans (below_drewN N w 1), hs'.start, Sl.ev d2 hs'.gh, hs'.gl⟩
  have hw := wpAny_frame (d := d) (u := u0) (fun i o ho => noDst_spec hn o (by
    have : l[i]? = some o := by simpa using ho
    exact List.mem_of_getElem? this)) _ _ a _ ha (hva N w0 a _ φ hs1)
  have e : l.toArray.size = l.length := by simp
  refine wp_mono (wp_region_any (P := P) (id := id) (ops := l.toArray) hm (by rw [e]; exact hw)) fun e a' w' hq => ?_
  obtain ⟨⟨s, φ', ⟨rfl, h3⟩, h4⟩, h5⟩ := hq
  obtain ⟨φ2, h6⟩ := h3 P N w0 a' w' φ' h4
  subst ht
  exact ⟨_, φ2, hQ, SR.untold hK.1 h6 (h5 rfl)⟩
/-- From here on what it points to is told. -/
theorem VWf.tell {c : Code} {d : Nat} (t'' : List V) (hK : KN N w0 v u0) (h : VWf N w0 P c Q { t := t'', m := st.m, g := st.g }) (hl : st.t[d]? = some (.s u0)) (ht : st.t.set d v = t'') : VWf N w0 P c Q st := fun a w φ hs => by
  subst ht
  exact h a w φ (SR.told hK hs hl).2
end

/-! ### A block is given up, and kept from then on -/
def frzV (v : V) : Bool := match v with
  | .sl _ _ => true
  | v => plainV v
def anyV : V → Bool
  | .any => true
  | v => plainV v
theorem tm_all {n : Nat} {l : List (Nat × V)} {f : V → Bool} (h0 : f .any = true) (h : (l.all fun p => f p.2) = true) : (tm n l).all f = true := by
  refine List.all_eq_true.2 fun x hx => ?_
  obtain ⟨i, hi, rfl⟩ := List.getElem_of_mem hx
  rw [tm_getElem]
  clear hx
  induction l with
  | nil => exact h0
  | cons p l ih =>
    obtain ⟨k, v⟩ := p
    simp only [List.all_cons, Bool.and_eq_true] at h
    rw [look_cons]
    split
    · exact h.1
    · exact ih h.2 (by simpa using hi)
theorem ptr_inv {w : World} {O : Nat → Prop} {φ : Pl} {b e j : Nat} {u : Value} (h : S w O φ (.ptr b e j) u) : ∃ pb po q, φ b = some (pb, po, q) ∧ u = .pointer (some ⟨pb, po + e * q + j, none⟩) := by
  cases h
  exact ⟨_, _, _, ‹_›, rfl⟩
theorem VW.retire {P : Program} {c : Code} {Q : Exit → VS → Prop} {t : List V} {n d : Nat} {cs : List V} (t' t'' : Value → List V) (hd : t[d]? = some (.ptr 0 0 0)) (hcs : cs.all frzV = true) (hf : ∀ u, fgt t (t' u)) (hp : ∀ u, (t' u).all anyV = true) (ht : ∀ u, (t' u).set d (.s u) = t'' u)
    (h : ∀ (N : Fr) (w0 : World × List Value) (u0 : Value), KN N w0 (.cptr cs 0) u0 → VWf N w0 P c Q { t := t'' u0, m := [none], g := [] }) : VW P c Q { t := t, m := [some (n, [cs])], g := [] } := fun N w0 a w φ hs => by
  obtain ⟨u0, a1, a2⟩ := hs.tmps d _ hd
  obtain ⟨pb, po, q, hφ, rfl⟩ := ptr_inv a2
  obtain ⟨b1, pb', po', ca, ty, b2, b3, b4, b5⟩ := hs.mem.at_ 0 n [cs] _ rfl hφ
  rw [hφ] at b2
  simp only [Option.some.injEq, Prod.mk.injEq] at b2
  obtain ⟨e1, e2, e3⟩ := b2
  rw [← e1] at b3
  rw [← e2] at b5
  have hnl : pb < w.heap.size := (hs.mem.new 0 pb po q hφ).2
  have hS : S w (fun k => ¬ (k < w.heap.size)) noPl (.cptr cs 0) (.pointer (some ⟨pb, po + 0 * q + 0, none⟩)) := by
    refine .cptr (Ss.of_get (fun _ h => h hnl) fun i v hi => ?_)
    obtain ⟨u, c1, c2, c3⟩ := b5 i v (by simpa using hi)
    refine ⟨u, ?_, ?_⟩
    · rw [Nat.zero_mul, Nat.add_zero]
      exact cell_of b3 c1
    · have hv := List.all_eq_true.1 hcs v (List.mem_of_getElem? hi)
      unfold frzV at hv
      split at hv
      · have hk : ∀ k, k < w.heap.size → ¬ Live φ [some (n, [cs])] k → w.heap[k]? = w.heap[k]? ∧ ¬ ¬ k < w.heap.size := fun k hk _ => ⟨rfl, fun h => h hk⟩
        cases c3 with
        | sl hn hl hc hh => exact .sl hn hl hc (Ss.evN hk rfl hh)
        | sl0 => exact .sl0
        | slnil => exact .slnil
      · exact c3.plain hv
  have hK : KN (fun k => k < w.heap.size) (w, []) (.cptr cs 0) (.pointer (some ⟨pb, po + 0 * q + 0, none⟩)) := ⟨rfl, fun k hk => hk, hS⟩
  obtain ⟨f1, f2⟩ := fgt.get (hf (.pointer (some ⟨pb, po + 0 * q + 0, none⟩)))
  have hlen : (t' (.pointer (some ⟨pb, po + 0 * q + 0, none⟩))).length = t.length := f1.symm
  have hsr : SR P (fun k => k < w.heap.size) (w, []) { t := t'' (.pointer (some ⟨pb, po + 0 * q + 0, none⟩)), m := [none], g := [] } a w (fun _ => none) := by
    refine ⟨hs.defers, ?_, fun i v hi => ?_, ⟨fun b n es p h1 h2 => (by cases h2), fun b k po n h => (by cases h), fun b p h => (by cases h), fun b b' k po po' n n' h => (by cases h), fun _ => none, fun b n es pb po bn i n' es' h1 h2 => (by cases h2)⟩, Bel.refl _ _, fun k hk => hk, .nil, hs.glob, ?_⟩
    · rw [← ht, List.length_set, hlen]
      exact hs.size
    · rw [← ht, List.getElem?_set] at hi
      split at hi
      · rename_i e
        subst e
        split at hi
        · cases hi
          exact ⟨_, a1, .s rfl⟩
        · cases hi
      · have hv := List.all_eq_true.1 (hp _) v (List.mem_of_getElem? hi)
        rcases f2 i v hi with rfl | h3
        · obtain ⟨u, hu⟩ : ∃ u, a.tmps[i]? = some u := by
            have h1 := (List.getElem?_eq_some_iff.1 hi).1
            have h2 := hs.size
            simp only at h2
            exact ⟨a.tmps[i]'(by omega), by simp [show i < a.tmps.size by omega]⟩
          exact ⟨u, hu, .any⟩
        · obtain ⟨u, g1, g2⟩ := hs.tmps i v h3
          refine ⟨u, g1, ?_⟩
          by_cases hpl : plainV v = true
          · exact g2.plain hpl
          · cases v <;> first | exact .any | exact absurd hv hpl
    · obtain ⟨k1, k2, k3, k4⟩ := hs.gl.2
      exact ⟨fun g hg => hs.start g (k1 g hg), fun g hg => hs.start g (k2 g hg), fun g hg => hs.start g (k3 g hg), fun g hg => hs.start g (k4 g hg)⟩
  refine wp_mono (h _ _ _ hK a w _ hsr) fun e a' w' ⟨st', φ', q1, q2⟩ => ⟨st', φ', q1, ?_⟩
  have hb : Bel N w w' := ⟨q2.below.os, q2.below.tape, q2.below.output, q2.below.size, fun k hk => q2.below.block k (hs.start k hk)⟩
  have hg0 : st'.g = [] := by
    have := q2.gh.length
    exact List.length_eq_zero_iff.1 (by simpa using this.symm)
  have hw0 : w0.2 = [] := by
    have := hs.gh.length
    exact List.length_eq_zero_iff.1 (by simpa using this)
  obtain ⟨m1, m2, m3, m4, ψ, m5⟩ := q2.mem
  refine ⟨q2.defers, q2.size, q2.tmps, ⟨m1, fun b k po n h => ⟨fun hN => (m2 b k po n h).1 (hs.start k hN), (m2 b k po n h).2⟩, m3, m4, ψ, fun b n es pb po bn i n' es' h1 h2 h3 => ?_⟩, hs.below.trans hb, hs.start.trans hb.size, ?_, hs.gl⟩
  · obtain ⟨u, F, g1, g2, g3, g4⟩ := m5 b n es pb po bn i n' es' h1 h2 h3
    exact ⟨u, F, g1, g2, g3, fun k hk => by
      obtain ⟨e1, e2, e3, e4⟩ := g4 k hk
      exact ⟨e1, fun hN => e2 (hs.start k hN), e3, e4⟩⟩
  · rw [hg0, hw0]
    exact .nil
end Go.VL
