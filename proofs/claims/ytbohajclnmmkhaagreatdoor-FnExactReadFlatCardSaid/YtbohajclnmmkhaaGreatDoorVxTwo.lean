/- Regions that draw their order, whose last operation waits for all the others, and in which one more may write. -/
import Derived.Test.YtbohajclnmmkhaaGreatDoorVxInM
namespace Go.VL
open Go.RowKit
set_option linter.unusedSimpArgs false
set_option linter.unusedVariables false

section
variable {P : Program} {ops : Array Oper} {tr : List Row} {t0 : List V}

/-- Simple operations in the text's order: those of U look at m0 only. -/
def vs0 (P : Program) (U : List Nat) (m0 : VM) : Nat → List Oper → VS → Option VS
  | _, [], st => some st
  | j, o :: l, st => match o.guard with
    | some _ => none
    | none => match vq P (if memN j U = true then m0 else st.m) (ev st.t) o.op with
      | some v => vs0 P U m0 (j + 1) l { t := putV st.t o.dst v, m := st.m, g := st.g }
      | none => if memN j U = true then none else match valloc P st.m.length (ev st.t) o.op with
        | some (v, n, es) => vs0 P U m0 (j + 1) l { t := putV st.t o.dst v, m := st.m ++ [some (n, es)], g := st.g }
        | none => none

/-- What they tell. -/
inductive D2 (P : Program) (ops : Array Oper) (M0 M1 : VM) (U : List Nat) : Nat → List Oper → List V → Nat → List Row → List V → Prop
  | nil {j k : Nat} {t : List V} : D2 P ops M0 M1 U j [] t k [] t
  | op {j k cnt : Nat} {o : Oper} {l : List Oper} {t tf : List V} {r : V} {tr : List Row} (hg : o.guard = none) (ho : OpY P o M0 (ev t) r k cnt) (ho1 : memN j U = true → OpY P o M1 (ev t) r k cnt) (h : D2 P ops M0 M1 U (j + 1) l (putV t o.dst r) (k + cnt) tr tf) : D2 P ops M0 M1 U j (o :: l) t k ((r, k, cnt) :: tr) tf

theorem D2.rows {M0 M1 : VM} {U : List Nat} : ∀ {l : List Oper} {t tf : List V} {k n : Nat} {tr' : List Row}, D2 P ops M0 M1 U n l t k tr' tf → (∀ j, j < l.length → l[j]? = ops[n + j]?) → (∀ j, j < l.length → tr'[j]? = tr[n + j]?) → t = TL ops tr t0 (fun _ => true) n →
    l.length = tr'.length ∧ (∀ (j : Nat) (o : Oper) (r : Row), l[j]? = some o → tr'[j]? = some r → RowOk P ops M0 tr t0 (n + j) o r ∧ (memN (n + j) U = true → RowOk P ops M1 tr t0 (n + j) o r)) ∧ (∀ (j : Nat) (r : Row), tr'[j]? = some r → k ≤ r.2.1) ∧ (∀ (i j : Nat) (r s : Row), i < j → tr'[i]? = some r → tr'[j]? = some s → r.2.1 + r.2.2 ≤ s.2.1) ∧ tf = TL ops tr t0 (fun _ => true) (n + l.length)
  | _, _, _, _, _, _, .nil, _, _, ht => by simp [ht]
  | _, _, _, k, n, _, .op (o := o) (l := l) (tr := tr') (r := r0) (cnt := cnt) hg ho0 ho1 h, hl, htr, ht => by
    have h0 := hl 0 (by simp)
    have h1 := htr 0 (by simp)
    simp at h0 h1
    have hstep : putV (TL ops tr t0 (fun _ => true) n) o.dst r0 = TL ops tr t0 (fun _ => true) (n + 1) := by simp [TL, ← h0, ← h1]
    obtain ⟨a1, a2, a3, a4, a5⟩ := D2.rows (n := n + 1) h (fun j hj => by have := hl (j + 1) (by simpa using hj); simpa [Nat.add_assoc, Nat.add_comm 1] using this) (fun j hj => by have := htr (j + 1) (by simpa using hj); simpa [Nat.add_assoc, Nat.add_comm 1] using this) (by rw [ht]; exact hstep)
    have hw : vwanted ops (TL ops tr t0 (fun _ => true) n) o = some true := by unfold vwanted; rw [hg]
    refine ⟨by simp [a1], fun j o' r ho hr => ?_, fun j r hr => ?_, fun i j r s hij hr hs => ?_, ?_⟩
    · cases j with
      | zero =>
        simp at ho hr
        subst ho
        subst hr
        rw [Nat.add_zero]
        exact ⟨.inr ⟨hw, by rw [← ht]; exact ho0⟩, fun hU => .inr ⟨hw, by rw [← ht]; exact ho1 hU⟩⟩
      | succ j => have := a2 j o' r (by simpa using ho) (by simpa using hr); rwa [show n + 1 + j = n + (j + 1) by omega] at this
    · cases j with
      | zero => simp at hr; subst hr; exact Nat.le_refl _
      | succ j => have := a3 j r (by simpa using hr); omega
    · cases j with
      | zero => omega
      | succ j =>
        cases i with
        | zero => simp at hr; subst hr; exact a3 j s (by simpa using hs)
        | succ i => exact a4 i j r s (by omega) (by simpa using hr) (by simpa using hs)
    · rw [a5, List.length_cons]
      congr 1
      omega

theorem D2.len {M0 M1 : VM} {U : List Nat} : ∀ {l : List Oper} {t tf : List V} {k n : Nat} {tr' : List Row}, D2 P ops M0 M1 U n l t k tr' tf → l.length = tr'.length
  | _, _, _, _, _, _, .nil => rfl
  | _, _, _, _, _, _, .op _ _ _ h => by simp [h.len]

def waitsOn (o : Oper) (i : Nat) : Bool := o.after.any fun e => Region.binds .any e && e.on == i
theorem waitsOn_spec {o : Oper} {i : Nat} (h : waitsOn o i = true) : ∃ e ∈ o.after, Region.binds .any e = true ∧ e.on = i := by
  obtain ⟨j, hj, e⟩ := Array.any_eq_true.1 h
  simp only [Bool.and_eq_true, beq_iff_eq] at e
  exact ⟨_, Array.getElem_mem hj, e.1, e.2⟩

/-- The last operation waits for all the others, the last but one for all but those of U. -/
def twoOk (U : List Nat) (l1 : List Oper) (po last : Oper) : Bool :=
  (List.range (l1.length + 1)).all (fun i => waitsOn last i) && (List.range l1.length).all (fun i => memN i U || waitsOn po i)

def eval2 (P : Program) (U : List Nat) (ops : Array Oper) (l1 : List Oper) (po last : Oper) (st : VS) : Option VS :=
  match po.guard with
  | some _ => none
  | none => match vs0 P U st.m 0 l1 st with
    | none => none
    | some st1 => match po.op with
      | .store ty sx sy => match ev st1.t sx with
        | .ptr b e j => if st.m.length ≤ b then (match vstore P st1.m ty (.ptr b e j) (ev st1.t sy) with
          | some m1 => (match last.guard with
            | some _ => none
            | none => vop1 P { t := putV st1.t po.dst .any, m := m1, g := st1.g } last)
          | none => none) else none
        | _ => none
      | _ => none

attribute [simp] vs0 eval2 memN
end
end Go.VL
