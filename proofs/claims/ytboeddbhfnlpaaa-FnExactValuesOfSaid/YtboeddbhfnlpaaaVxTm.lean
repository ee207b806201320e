/- Temporaries, told sparsely: only those of which something is known. -/
import Derived.Test.YtboeddbhfnlpaaaVxMv
namespace Go.VL
open Go.RowKit
set_option linter.unusedSimpArgs false
set_option linter.unusedVariables false

def look : List (Nat × V) → Nat → V
  | [], _ => .any
  | (k, v) :: r, i => cond (i == k) v (look r i)
def lookB (b : Bool) (v : V) (l : List (Nat × V)) (i : Nat) : V := cond b v (look l i)
/-- n temporaries, of which l tells. -/
def tm (n : Nat) (l : List (Nat × V)) : List V := (List.range n).map (look l)
def en : Nat → List V → List (Nat × V)
  | _, [] => []
  | i, v :: l => (i, v) :: en (i + 1) l

section
variable {n i k : Nat} {l l1 l2 : List (Nat × V)} {v : V} {g : List V}
@[simp] theorem look_nil : look [] i = .any := rfl
@[simp] theorem look_b : look ((k, v) :: l) i = lookB (i == k) v l i := rfl
@[simp] theorem lookB_true : lookB true v l i = v := rfl
@[simp] theorem lookB_false : lookB false v l i = look l i := rfl
theorem look_cons : look ((k, v) :: l) i = if i = k then v else look l i := by
  show cond (i == k) v (look l i) = _
  by_cases h : i = k
  · subst h; simp
  · rw [if_neg h, show (i == k) = false by simpa using h]; rfl
@[simp] theorem tm_length : (tm n l).length = n := by simp [tm]
theorem tm_get (h : i < n) : (tm n l)[i]? = some (look l i) := by simp [tm, h]
@[simp] theorem tm_get? (h : i < n) : (tm n l)[i]? = some (look l i) := tm_get h
@[simp] theorem tm_getElem (h : i < (tm n l).length) : (tm n l)[i] = look l i := by simp [tm]
@[simp] theorem tm_getD (h : i < n) : (tm n l).getD i .any = look l i := by simp [List.getD, tm_get h]
@[simp] theorem tm_getD' (h : i < n) : (tm n l)[i]?.getD .any = look l i := by simp [tm_get h]
@[simp] theorem tm_set (h : i < n) : (tm n l).set i v = tm n ((i, v) :: l) := by
  apply List.ext_getElem?
  intro j
  rw [List.getElem?_set]
  by_cases hj : i = j
  · subst hj
    rw [if_pos rfl, if_pos (by simpa using h), tm_get h]
    simp
  · rw [if_neg hj]
    by_cases hlt : j < n
    · rw [tm_get hlt, tm_get hlt, look_cons, if_neg (fun e => hj e.symm)]
    · rw [List.getElem?_eq_none (by simpa using hlt), List.getElem?_eq_none (by simpa using hlt)]
theorem look_en : ∀ {args : List V} {s i : Nat}, look (en s args) i = if s ≤ i then (args[i - s]?).getD .any else .any
  | [], s, i => by simp [en]
  | a :: args, s, i => by
    rw [en, look_cons, look_en]
    by_cases h1 : i = s
    · subst h1; simp
    · by_cases h2 : s ≤ i
      · rw [if_neg h1, if_pos (by omega), if_pos h2, show i - s = (i - (s + 1)) + 1 by omega]
        rfl
      · rw [if_neg h1, if_neg (by omega), if_neg h2]
theorem tm_init {args : List V} {k : Nat} : args ++ List.replicate k .any = tm (args.length + k) (en 0 args) := by
  apply List.ext_getElem?
  intro j
  by_cases hlt : j < args.length + k
  · rw [tm_get hlt, look_en, if_pos (Nat.zero_le _), Nat.sub_zero]
    by_cases h1 : j < args.length
    · rw [List.getElem?_append_left h1, List.getElem?_eq_getElem h1]; rfl
    · rw [List.getElem?_append_right (by omega), List.getElem?_replicate, if_pos (by omega), List.getElem?_eq_none (by omega)]; rfl
  · rw [List.getElem?_eq_none (by simpa using hlt), List.getElem?_eq_none (by simpa using hlt)]

theorem look_map {f : V → V} (hf : f .any = .any) : ∀ {l : List (Nat × V)}, look (l.map fun p => (p.1, f p.2)) i = f (look l i)
  | [] => hf.symm
  | (k, v) :: l => by
    rw [List.map_cons, look_cons, look_cons, look_map hf]
    split <;> rfl
@[simp] theorem tm_kill {b : Nat} : (tm n l).map (kill b) = tm n (l.map fun p => (p.1, kill b p.2)) := by
  unfold tm
  rw [List.map_map]
  refine List.map_congr_left fun i _ => ?_
  rw [look_map (f := kill b) (by simp [kill, noBT, noBA, noBV])]
  rfl

def hasK (l : List (Nat × V)) (i : Nat) : Bool := l.any fun p => p.1 == i
def mrgA (c : Bool) (l1 l2 : List (Nat × V)) : List (Nat × V) := l1.map (fun p => (p.1, mrg2 c p.2 (look l2 p.1))) ++ (l2.filter fun p => !hasK l1 p.1).map fun p => (p.1, mrg2 c .any p.2)
theorem look_app : ∀ {a b : List (Nat × V)}, look (a ++ b) i = if hasK a i = true then look a i else look b i
  | [], b => by simp [hasK]
  | (k, v) :: a, b => by
    rw [List.cons_append, look_cons, look_cons, look_app]
    by_cases h : i = k
    · subst h; simp [hasK]
    · rw [if_neg h, if_neg h]
      have : hasK ((k, v) :: a) i = hasK a i := by
        simp only [hasK, List.any_cons]
        have : (k == i) = false := by simpa using fun e => h e.symm
        rw [this]; rfl
      rw [this]
theorem look_noK : ∀ {l : List (Nat × V)}, hasK l i = false → look l i = .any
  | [], _ => rfl
  | (k, v) :: l, h => by
    simp only [hasK, List.any_cons, Bool.or_eq_false_iff] at h
    rw [look_cons, if_neg (by have := h.1; simp at this; exact fun e => this e.symm)]
    exact look_noK h.2
theorem look_mrgA {c : Bool} : look (mrgA c l1 l2) i = mrg2 c (look l1 i) (look l2 i) := by
  unfold mrgA
  rw [look_app]
  have hk : hasK (l1.map fun p => (p.1, mrg2 c p.2 (look l2 p.1))) i = hasK l1 i := by simp [hasK, Function.comp_def]
  rw [hk]
  by_cases h : hasK l1 i = true
  · rw [if_pos h]
    clear hk
    induction l1 with
    | nil => simp [hasK] at h
    | cons p r ih =>
      obtain ⟨k, v⟩ := p
      rw [List.map_cons, look_cons, look_cons]
      by_cases hi : i = k
      · subst hi; simp
      · rw [if_neg hi, if_neg hi]
        refine ih ?_
        simp only [hasK, List.any_cons, Bool.or_eq_true] at h
        rcases h with h | h
        · simp at h; exact absurd h.symm hi
        · exact h
  · have h' : hasK l1 i = false := by simpa using h
    have e1 : look l1 i = .any := look_noK h'
    rw [if_neg h, e1]
    clear hk e1
    induction l2 with
    | nil => simp [mrg2]
    | cons p r ih =>
      obtain ⟨k, v⟩ := p
      by_cases hi : i = k
      · subst hi
        rw [List.filter_cons, if_pos (by simp [h'])]
        simp
      · rw [look_cons, if_neg hi, List.filter_cons]
        split
        · rw [List.map_cons, look_cons, if_neg hi]; exact ih
        · exact ih
@[simp] theorem tm_mrg {c : Bool} : mrgT c (tm n l1) (tm n l2) = tm n (mrgA c l1 l2) := by
  rw [mrgT_eq]
  apply List.ext_getElem?
  intro j
  by_cases hlt : j < n
  · rw [tm_get hlt, look_mrgA]
    unfold mrg2
    split <;> rw [tm_get hlt]
  · have : ∀ l, (tm n l)[j]? = none := fun l => List.getElem?_eq_none (by simpa using hlt)
    split <;> rw [this, this]
attribute [simp] mrgA hasK en

def leA (l : List (Nat × V)) : List (Nat × V) → Prop
  | [] => True
  | (k, v) :: r => le1 (look l k) v ∧ leA l r
@[simp] theorem leA_nil : leA l [] = True := propext Iff.rfl
@[simp] theorem leA_cons {r : List (Nat × V)} : leA l ((k, v) :: r) = (le1 (look l k) v ∧ leA l r) := propext Iff.rfl
theorem leL_of : ∀ {s t : List V}, s.length = t.length → (∀ (i : Nat) (a b : V), s[i]? = some a → t[i]? = some b → le1 a b) → leL s t
  | [], [], _, _ => trivial
  | a :: s, b :: t, hl, h => ⟨h 0 a b rfl rfl, leL_of (by simpa using hl) fun i a b h1 h2 => h (i + 1) a b (by simpa using h1) (by simpa using h2)⟩
  | [], _ :: _, hl, _ => by simp at hl
  | _ :: _, [], hl, _ => by simp at hl
theorem leA_look : ∀ {l' : List (Nat × V)}, leA l l' → ∀ i, le1 (look l i) (look l' i)
  | [], _, i => by simp
  | (k, v) :: r, h, i => by
    rw [look_cons]
    split
    · rename_i hi; subst hi; exact h.1
    · exact leA_look h.2 i
@[simp] theorem tm_le {l' : List (Nat × V)} (h : leA l l') : leL (tm n l) (tm n l') := leL_of (by simp) fun i a b h1 h2 => by
  have hi : i < n := by have := (List.getElem?_eq_some_iff.1 h1).1; simpa using this
  rw [tm_get hi] at h1 h2
  cases h1
  cases h2
  exact leA_look h i

def fgA (l : List (Nat × V)) : List (Nat × V) → Prop
  | [] => True
  | (k, v) :: r => (v = .any ∨ look l k = v) ∧ fgA l r
@[simp] theorem fgA_nil : fgA l [] = True := propext Iff.rfl
@[simp] theorem fgA_cons {r : List (Nat × V)} : fgA l ((k, v) :: r) = ((v = .any ∨ look l k = v) ∧ fgA l r) := propext Iff.rfl
theorem fgt_of : ∀ {s t : List V}, s.length = t.length → (∀ (i : Nat) (a b : V), s[i]? = some a → t[i]? = some b → b = .any ∨ a = b) → fgt s t
  | [], [], _, _ => trivial
  | a :: s, b :: t, hl, h => ⟨h 0 a b rfl rfl, fgt_of (by simpa using hl) fun i a b h1 h2 => h (i + 1) a b (by simpa using h1) (by simpa using h2)⟩
  | [], _ :: _, hl, _ => by simp at hl
  | _ :: _, [], hl, _ => by simp at hl
theorem fgA_look : ∀ {l' : List (Nat × V)}, fgA l l' → ∀ i, look l' i = .any ∨ look l i = look l' i
  | [], _, i => .inl rfl
  | (k, v) :: r, h, i => by
    rw [look_cons]
    split
    · rename_i hi; subst hi; exact h.1
    · exact fgA_look h.2 i
@[simp] theorem tm_fgt {l' : List (Nat × V)} (h : fgA l l') : fgt (tm n l) (tm n l') := fgt_of (by simp) fun i a b h1 h2 => by
  have hi : i < n := by have := (List.getElem?_eq_some_iff.1 h1).1; simpa using this
  rw [tm_get hi] at h1 h2
  cases h1
  cases h2
  exact fgA_look h i
theorem look_all {p : V → Bool} (hp : p .any = true) : ∀ {l : List (Nat × V)}, (l.all fun x => p x.2) = true → ∀ i, p (look l i) = true
  | [], _, i => hp
  | (k, v) :: r, h, i => by
    simp only [List.all_cons, Bool.and_eq_true] at h
    rw [look_cons]
    split
    · exact h.1
    · exact look_all hp h.2 i
@[simp] theorem tm_bnd {k : Nat} (h : (l.all fun x => bndT k x.2) = true) : (tm n l).all (bndT k) = true := List.all_eq_true.2 fun v hv => by
  obtain ⟨i, _, rfl⟩ := List.mem_map.1 hv
  exact look_all (by simp [bndT, bndV]) h i
@[simp] theorem tm_noB {b : Nat} (h : (l.all fun x => noBT b x.2) = true) : (tm n l).all (noBT b) = true := List.all_eq_true.2 fun v hv => by
  obtain ⟨i, _, rfl⟩ := List.mem_map.1 hv
  exact look_all (by simp [noBT, noBA, noBV]) h i
@[simp] theorem tm_take {g : List V} : (tm n l ++ g).take n = tm n l := by rw [List.take_append_of_le_length (by simp), List.take_of_length_le (by simp)]
@[simp] theorem tm_drop {g : List V} : (tm n l ++ g).drop n = g := by rw [List.drop_append_of_le_length (by simp), List.drop_of_length_le (by simp)]; rfl

def mvA (b0 b1 : Nat) (l : List (Nat × V)) : List (Nat × V) → Prop
  | [] => True
  | (k, v) :: r => mv1 b0 b1 (look l k) v ∧ mvA b0 b1 l r
@[simp] theorem mvA_nil {b0 b1 : Nat} : mvA b0 b1 l [] = True := propext Iff.rfl
@[simp] theorem mvA_cons {b0 b1 : Nat} {r : List (Nat × V)} : mvA b0 b1 l ((k, v) :: r) = (mv1 b0 b1 (look l k) v ∧ mvA b0 b1 l r) := propext Iff.rfl
theorem mvL_of {b0 b1 : Nat} : ∀ {s t : List V}, s.length = t.length → (∀ (i : Nat) (a b : V), s[i]? = some a → t[i]? = some b → mv1 b0 b1 a b) → mvL b0 b1 s t
  | [], [], _, _ => trivial
  | a :: s, b :: t, hl, h => ⟨h 0 a b rfl rfl, mvL_of (by simpa using hl) fun i a b h1 h2 => h (i + 1) a b (by simpa using h1) (by simpa using h2)⟩
  | [], _ :: _, hl, _ => by simp at hl
  | _ :: _, [], hl, _ => by simp at hl
theorem mvA_look {b0 b1 : Nat} : ∀ {l' : List (Nat × V)}, mvA b0 b1 l l' → ∀ i, mv1 b0 b1 (look l i) (look l' i)
  | [], _, i => by simp
  | (k, v) :: r, h, i => by
    rw [look_cons]
    split
    · rename_i hi; subst hi; exact h.1
    · exact mvA_look h.2 i
@[simp] theorem tm_mv {b0 b1 : Nat} {l' : List (Nat × V)} (h : mvA b0 b1 l l') : mvL b0 b1 (tm n l) (tm n l') := mvL_of (by simp) fun i a b h1 h2 => by
  have hi : i < n := by have := (List.getElem?_eq_some_iff.1 h1).1; simpa using this
  rw [tm_get hi] at h1 h2
  cases h1
  cases h2
  exact mvA_look h i
end
theorem Ent.eqs {t t' g g' : List V} {m m' : VM} (h1 : t = t') (h2 : m = m') (h3 : g = g') : Ent { t := t, m := m, g := g } { t := t', m := m', g := g' } := by
  subst h1 h2 h3; exact Ent.refl _
end Go.VL
