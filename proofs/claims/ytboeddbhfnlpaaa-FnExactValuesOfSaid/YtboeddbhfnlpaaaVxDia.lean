/- Regions that draw among many orders: not all orders, but all sets of operations that can have been done, each with the state behind it. -/
import Derived.Test.YtboeddbhfnlpaaaVxInM
namespace Go.VL
open Go.RowKit
set_option linter.unusedSimpArgs false
set_option linter.unusedVariables false
section
variable {P : Program} {C : CEnv} {Q : Exit → VS → Prop} {st : VS}

theorem VA.dia {CM : CEnv} {l : List Oper} (hC : C.Ok P) (hM : CM.OkM P) (R : Array Bool → VS → Prop)
    (hstep : ∀ listed st i o, R listed st → i ∈ Region.ready .any l.toArray listed → l[i]? = some o → ∃ s, vstepM P C CM st o = some s ∧ R (listed.setIfInBounds i true) s)
    (hstop : ∀ listed st, R listed st → Region.ready .any l.toArray listed = [] → Q .normal st) :
    ∀ (n : Nat) (listed : Array Bool) (st : VS), (List.range l.length).countP (fun j => !listed.getD j true) ≤ n → R listed st → VA P l.toArray Q n listed st := by
  intro n
  induction n with
  | zero =>
    intro listed st hc h
    have hr : Region.ready .any l.toArray listed = [] := by
      rw [List.eq_nil_iff_forall_not_mem]
      intro i hi
      obtain ⟨b, o, ho, _⟩ := mem_ready.1 hi
      have h3 := List.countP_eq_zero.1 (Nat.le_zero.1 hc) i (List.mem_range.2 (by simpa using (Array.getElem?_eq_some_iff.1 ho).1))
      rw [b] at h3
      simp at h3
    exact VA.stop hr (hstop listed st h hr)
  | succ n ih =>
    intro listed st hc h
    by_cases hr : Region.ready .any l.toArray listed = []
    · exact VA.stop hr (hstop listed st h hr)
    · refine VA.step hr fun i hi o ho => ?_
      have hol : l[i]? = some o := by simpa using ho
      obtain ⟨st1, hs, hR⟩ := hstep listed st i o h hi hol
      refine VL.stepM hC hM hs (VL.nil (.inl ⟨rfl, ih _ _ ?_ hR⟩))
      have hl : i < l.length := by simpa using (Array.getElem?_eq_some_iff.1 ho).1
      have hli := (mem_ready.1 hi).1
      have h4 := count_put (L := fun j => listed.getD j true) hli l.length hl
      have h5 : (List.range l.length).countP (fun j => !(listed.setIfInBounds i true).getD j true) = (List.range l.length).countP (fun j => !(listed.getD j true || j == i)) := by
        refine List.countP_congr fun j hj => ?_
        by_cases hji : i = j
        · subst hji
          have : (listed.setIfInBounds i true).getD i true = true := by
            rw [Array.getD_eq_getD_getElem?]
            by_cases hlt : i < listed.size
            · simp [hlt]
            · simp [hlt]
          rw [this]
          simp
        · rw [getD_set_ne true hji]
          have : (j == i) = false := by simp; exact fun h => hji h.symm
          rw [this]
          simp
      omega

/-- Which of n are done. -/
def arrOf (n : Nat) (p : List Nat) : Array Bool := ((List.range n).map fun j => p.contains j).toArray
def insN (i : Nat) : List Nat → List Nat
  | [] => [i]
  | j :: p => if i < j then i :: j :: p else j :: insN i p
def bEq (a b : Array Bool) : Bool := a.toList == b.toList
def nEq (a b : List Nat) : Bool := a == b
/-- All sets that can have been done: what can come next leads to one of them. -/
def diaOk (ops : Array Oper) (Ds : List (List Nat)) : Bool :=
  Ds.any (nEq []) && bEq (arrOf ops.size []) (Array.replicate ops.size false) && Ds.all fun p => match Region.ready .any ops (arrOf ops.size p) with
    | [] => nEq p (List.range ops.size)
    | r => r.all fun i => Ds.any (nEq (insN i p)) && bEq ((arrOf ops.size p).setIfInBounds i true) (arrOf ops.size (insN i p))
/-- What can come next. -/
def diaPs (ops : Array Oper) (Ds : List (List Nat)) : List (List Nat × Nat) := Ds.flatMap fun p => (Region.ready .any ops (arrOf ops.size p)).map fun i => (p, i)
theorem nEq_spec {a b : List Nat} (h : nEq a b = true) : a = b := by simpa [nEq] using h
theorem bEq_spec {a b : Array Bool} (h : bEq a b = true) : a = b := by
  have : a.toList = b.toList := by simpa [bEq] using h
  cases a; cases b
  simpa using this

def stepAt (P : Program) (C CM : CEnv) (l : List Oper) (i : Nat) (st : VS) : Option VS := match l[i]? with
  | some o => vstepM P C CM st o
  | none => none
/-- A region that draws: each set that can have been done has its state. -/
theorem VW.evalMD {CM : CEnv} {id : Nat} {l : List Oper} (Ds : List (List Nat)) (ps : List (List Nat × Nat)) (t' : List V) (m' : VM) (g' : List V) (hC : C.Ok P) (hM : CM.OkM P) (hm : P.follows .mixedOrders = true) (hd : diaOk l.toArray Ds = true) (he : diaPs l.toArray Ds = ps)
    (h : ∀ x ∈ ps, ∃ s, (vseqM P C CM (opsAt l x.1) st).bind (stepAt P C CM l x.2) = some s ∧ vseqM P C CM (opsAt l (insN x.2 x.1)) st = some s) (hf : toSt (vseqM P C CM (opsAt l (List.range l.length)) st) t' m' g') (hQ : Q .normal { t := t', m := m', g := g' }) : VW P (.region id l.toArray true) Q st := by
  refine VW.entPost (VW.any hm ?_)
  unfold diaOk at hd
  simp only [Bool.and_eq_true, List.all_eq_true, List.any_eq_true] at hd
  obtain ⟨⟨⟨e, he1, he2⟩, hd1⟩, hd2⟩ := hd
  have e0 := nEq_spec he2
  subst e0
  have hsz : l.toArray.size = l.length := by simp
  have := VA.dia (P := P) (C := C) (Q := fun e s => ∃ s', Ent s s' ∧ Q e s') hC hM (fun listed s => ∃ p ∈ Ds, listed = arrOf l.toArray.size p ∧ vseqM P C CM (opsAt l p) st = some s) (fun listed s i o ⟨p, hp, hl, hs⟩ hi ho => by
    subst hl
    have h1 := hd2 p hp
    have hne : Region.ready .any l.toArray (arrOf l.toArray.size p) ≠ [] := List.ne_nil_of_mem hi
    have h2 : (Ds.any (nEq (insN i p)) && bEq ((arrOf l.toArray.size p).setIfInBounds i true) (arrOf l.toArray.size (insN i p))) = true := by
      split at h1
      · rename_i hr; exact absurd hr hne
      · exact List.all_eq_true.1 h1 i hi
    simp only [Bool.and_eq_true, List.any_eq_true] at h2
    obtain ⟨⟨q, hq, hqe⟩, h3⟩ := h2
    have e1 := nEq_spec hqe
    subst e1
    obtain ⟨s', g1, g2⟩ := h (p, i) (by rw [← he]; exact List.mem_flatMap.2 ⟨p, hp, List.mem_map.2 ⟨i, hi, rfl⟩⟩)
    refine ⟨s', ?_, _, hq, bEq_spec h3, g2⟩
    rw [hs, Option.bind_some] at g1
    unfold stepAt at g1
    rw [ho] at g1
    exact g1) (fun listed s ⟨p, hp, hl, hs⟩ hr => by
    subst hl
    have h1 := hd2 p hp
    rw [hr] at h1
    have e1 := nEq_spec h1
    subst e1
    rw [hsz] at hs
    obtain ⟨t, g1, g2⟩ := hf.get
    rw [hs] at g1
    cases g1
    exact ⟨_, Ent.le g2, hQ⟩) l.length (Array.replicate l.length false) st (Nat.le_trans (List.countP_le_length (l := List.range l.length)) (by simp)) ⟨[], he1, by rw [bEq_spec hd1, hsz], by rw [opsAt, vseqM]⟩
  simpa using this
end
attribute [simp] insN stepAt
end Go.VL
