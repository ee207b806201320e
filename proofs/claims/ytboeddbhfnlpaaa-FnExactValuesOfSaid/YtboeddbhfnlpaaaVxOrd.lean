/- Regions that draw among few orders: all of them, one after the other; operations under guards too. -/
import Derived.Test.YtboeddbhfnlpaaaVxShort
namespace Go.VL
open Go.RowKit
set_option linter.unusedSimpArgs false
set_option linter.unusedVariables false
section
variable {P : Program} {C : CEnv} {Q : Exit → VS → Prop} {st : VS} {ops : Array Oper}

/-- One operation, carried out or left out. -/
def vstepG (P : Program) (C : CEnv) (ops : Array Oper) (st : VS) (o : Oper) : Option VS :=
  match vwanted ops st.t o with
  | some true => vstep P C st o
  | some false => some { t := putV st.t o.dst und, m := st.m, g := st.g }
  | none => none
theorem VL.stepG {o : Oper} {l : List Oper} {st1 : VS} (hC : C.Ok P) (h : vstepG P C ops st o = some st1) (hr : VL P ops Q l st1) : VL P ops Q (o :: l) st := by
  unfold vstepG at h
  split at h
  · rename_i hw
    have := (Ste.op hw h .nil).vl (Q := Q) (rest := l) hC hr
    simpa using this
  · rename_i hw
    cases h
    exact VL.skip hw hr
  · cases h
def vseqG (P : Program) (C : CEnv) (ops : Array Oper) : List Oper → VS → Option VS
  | [], st => some st
  | o :: l, st => (vstepG P C ops st o).bind (vseqG P C ops l)
theorem VA.ofG {l : List Oper} (hC : C.Ok P) : ∀ (n : Nat) (listed : Array Bool) (st : VS), (List.range l.length).countP (fun j => !listed.getD j true) ≤ n → (∀ p ∈ exts l.toArray n listed, ∃ s, vseqG P C l.toArray (opsAt l p) st = some s ∧ Q .normal s) → VA P l.toArray Q n listed st := by
  intro n
  induction n with
  | zero =>
    intro listed st hc h
    obtain ⟨s, h1, h2⟩ := h [] (by simp [exts])
    cases h1
    refine VA.stop ?_ h2
    rw [List.eq_nil_iff_forall_not_mem]
    intro i hi
    obtain ⟨b, o, ho, _⟩ := mem_ready.1 hi
    have h3 := List.countP_eq_zero.1 (Nat.le_zero.1 hc) i (List.mem_range.2 (by simpa using (Array.getElem?_eq_some_iff.1 ho).1))
    rw [b] at h3
    simp at h3
  | succ n ih =>
    intro listed st hc h
    by_cases hr : Region.ready .any l.toArray listed = []
    · unfold exts at h
      rw [hr] at h
      obtain ⟨s, h1, h2⟩ := h [] (by simp)
      cases h1
      exact VA.stop hr h2
    · refine VA.step hr fun i hi o ho => ?_
      have hex : ∀ q ∈ exts l.toArray n (listed.setIfInBounds i true), i :: q ∈ exts l.toArray (n + 1) listed := fun q hq => by
        rw [exts]
        split
        · rename_i e; exact absurd e hr
        · exact List.mem_flatMap.2 ⟨i, hi, List.mem_map.2 ⟨q, hq, rfl⟩⟩
      have hol : l[i]? = some o := by simpa using ho
      have hstep : ∀ q ∈ exts l.toArray n (listed.setIfInBounds i true), ∃ s, (vstepG P C l.toArray st o).bind (vseqG P C l.toArray (opsAt l q)) = some s ∧ Q .normal s := fun q hq => by
        have := h _ (hex q hq)
        unfold opsAt at this
        rw [hol] at this
        exact this
      obtain ⟨q0, hq0⟩ := List.exists_mem_of_ne_nil _ (exts_ne l.toArray n (listed.setIfInBounds i true))
      cases hs : vstepG P C l.toArray st o with
      | none =>
        obtain ⟨s, e, _⟩ := hstep q0 hq0
        rw [hs] at e
        cases e
      | some st1 =>
        rw [hs] at hstep
        refine VL.stepG hC hs (VL.nil (.inl ⟨rfl, ih _ _ ?_ fun q hq => hstep q hq⟩))
        have hl : i < l.length := by simpa using (Array.getElem?_eq_some_iff.1 ho).1
        have hli := (mem_ready.1 hi).1
        have h4 := count_put (L := fun j => listed.getD j true) hli l.length hl
        have h5 : (List.range l.length).countP (fun j => !(listed.setIfInBounds i true).getD j true) = (List.range l.length).countP (fun j => !(listed.getD j true || j == i)) := by
          refine List.countP_congr fun j hj => ?_
          by_cases hji : i = j
          · subst hji
            have : (listed.setIfInBounds i true).getD i true = true := by
              rw [Array.getD_eq_getD_getElem?]
              by_cases hlt : i < listed.size
              · simp [hlt]
              · simp [hlt]
            rw [this]
            simp
          · rw [getD_set_ne true hji]
            have : (j == i) = false := by simp; exact fun h => hji h.symm
            rw [this]
            simp
        omega

/-- A region that draws among few orders, with guards. -/
theorem VW.evalGA {id : Nat} {l : List Oper} (ps : List (List Nat)) (t' : List V) (m' : VM) (g' : List V) (hC : C.Ok P) (hm : P.follows .mixedOrders = true) (he : exts l.toArray l.length (Array.replicate l.length false) = ps)
    (h : ∀ p ∈ ps, toSt (vseqG P C l.toArray (opsAt l p) st) t' m' g') (hQ : Q .normal { t := t', m := m', g := g' }) : VW P (.region id l.toArray true) Q st := by
  refine VW.entPost (VW.any hm ?_)
  have := VA.ofG (P := P) (Q := fun e s => ∃ s', Ent s s' ∧ Q e s') hC l.length (Array.replicate l.length false) st (by
    exact Nat.le_trans (List.countP_le_length (l := List.range l.length)) (by simp)) (fun p hp => by
    rw [he] at hp
    obtain ⟨t, h1, h2⟩ := (h p hp).get
    exact ⟨_, h1, _, Ent.le h2, hQ⟩)
  simpa using this
attribute [simp] vseqG vstepG vwanted
end
end Go.VL
