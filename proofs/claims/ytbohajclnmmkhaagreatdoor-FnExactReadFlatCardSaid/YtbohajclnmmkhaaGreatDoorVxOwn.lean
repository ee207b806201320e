/- Slices of slices: an own slice that is put into a cell of another becomes that cell's own. -/
import Derived.Test.YtbohajclnmmkhaaGreatDoorVxInl
namespace Go.VL
open Go.RowKit
set_option linter.unusedSimpArgs false
set_option linter.unusedVariables false

open Classical in
section
variable {P : Program} {C : CEnv} {Q : Exit → VS → Prop} {st s2 : VS}
theorem VW.evalE {id : Nat} {l : List Oper} (t' : List V) (m' : VM) (g' : List V) (hC : C.Ok P) (hg : guardsOk l.toArray l.length none l = true) (h : toSt (veval P C l.toArray l.length none l st) t' m' g') (he : Ent { t := t', m := m', g := g' } s2) (hQ : Q .normal s2) : VW P (.region id l.toArray false) Q st :=
  VW.entPost (VW.evalA t' m' g' hC hg h ⟨_, he, hQ⟩)
end

/-- Its cells are plain, or own. -/
class Pow {α : Type} (c : α → List V) : Prop where
  po : ∀ x, (c x).all pownV = true
section
variable {α : Type} {c : α → List V} {xs : List α}
@[simp] theorem rows_pow [h : Pow c] : pownE (rows c xs) = true := List.all_eq_true.2 fun x hx => by
  obtain ⟨y, _, rfl⟩ := List.mem_map.1 hx
  exact h.po y
@[simp] theorem rows_keptO [h : Pow c] : keptE (rows c xs) = true := List.all_eq_true.2 fun x hx => List.all_eq_true.2 fun v hv => by
  obtain ⟨y, _, rfl⟩ := List.mem_map.1 hx
  have := List.all_eq_true.1 (h.po y) v hv
  unfold pownV at this
  unfold keptV
  exact this
theorem pown_bnd {k : Nat} {v : V} (h : pownV v = true) : bndV k v = true := by cases v <;> first | rfl | (cases h; done)
theorem pown_noB {k : Nat} {v : V} (h : pownV v = true) : noBV k v = true := by cases v <;> first | rfl | (cases h; done)
@[simp] theorem rows_pbnd [h : Pow c] {k : Nat} : ((rows c xs).all fun x => x.all (bndV k)) = true := List.all_eq_true.2 fun x hx => List.all_eq_true.2 fun v hv => by
  obtain ⟨y, _, rfl⟩ := List.mem_map.1 hx
  exact pown_bnd (List.all_eq_true.1 (h.po y) v hv)
@[simp] theorem rows_pnoB [h : Pow c] {b : Nat} : noBE b (rows c xs) = true := List.all_eq_true.2 fun x hx => List.all_eq_true.2 fun v hv => by
  obtain ⟨y, _, rfl⟩ := List.mem_map.1 hx
  exact pown_noB (List.all_eq_true.1 (h.po y) v hv)
@[simp] theorem rows_set_bnd [h : Pow c] {k b i n : Nat} (hb : b < k) : (((rows c xs).set i [.ref b 0 n]).all fun x => x.all (bndV k)) = true := List.all_eq_true.2 fun x hx => by
  rcases List.mem_or_eq_of_mem_set hx with h1 | rfl
  · exact List.all_eq_true.1 (rows_pbnd (c := c) (xs := xs) (k := k)) x h1
  · simp [bndV, hb]
@[simp] theorem rows_set_noB [h : Pow c] {k b i n : Nat} (hb : b ≠ k) : noBE k ((rows c xs).set i [.ref b 0 n]) = true := List.all_eq_true.2 fun x hx => by
  rcases List.mem_or_eq_of_mem_set hx with h1 | rfl
  · exact List.all_eq_true.1 (rows_pnoB (c := c) (xs := xs) (b := k)) x h1
  · simp [noBV, hb]
@[simp] theorem noBV_own {b n : Nat} {es : List (List V)} : noBV b (.own n es) = true := rfl
attribute [simp] List.take_of_length_le
end
end Go.VL
