/- A slice takes the place of another: block b1 is from now on number b0. -/
import Derived.Test.YtboeddbhfnlpaaaVxOwn
namespace Go.VL
open Go.RowKit
set_option linter.unusedSimpArgs false
set_option linter.unusedVariables false

/-- What it is called behind the move. -/
def mv1 (b0 b1 : Nat) (v v' : V) : Prop :=
  match v' with
  | .any => True
  | v' => (∃ e len, v = .ref b1 e len ∧ v' = .ref b0 e len) ∨ (v = v' ∧ noBT b0 v = true ∧ noBT b1 v = true)
def mvL (b0 b1 : Nat) : List V → List V → Prop
  | [], [] => True
  | v :: s, v' :: s' => mv1 b0 b1 v v' ∧ mvL b0 b1 s s'
  | _, _ => False
theorem mvL.get {b0 b1 : Nat} : ∀ {s t : List V}, mvL b0 b1 s t → s.length = t.length ∧ ∀ (i : Nat) (b : V), t[i]? = some b → ∃ a, s[i]? = some a ∧ mv1 b0 b1 a b
  | [], [], _ => ⟨rfl, by simp⟩
  | a :: s, b :: t, h => by
    obtain ⟨h1, h2⟩ := mvL.get h.2
    refine ⟨by simp [h1], fun i x hx => ?_⟩
    cases i with
    | zero => simp at hx; subst hx; exact ⟨a, rfl, h.1⟩
    | succ i => simpa using h2 i x (by simpa using hx)
  | [], _ :: _, h => h.elim
  | _ :: _, [], h => h.elim
@[simp] theorem mvL_nil {b0 b1 : Nat} : mvL b0 b1 [] [] = True := rfl
@[simp] theorem mvL_cons {b0 b1 : Nat} {a b : V} {s t : List V} : mvL b0 b1 (a :: s) (b :: t) = (mv1 b0 b1 a b ∧ mvL b0 b1 s t) := rfl
@[simp] theorem mv1_any {b0 b1 : Nat} {a : V} : mv1 b0 b1 a .any = True := rfl

section
variable {w : World} {O O' : Nat → Prop} {φ φ' : Pl} {b0 b1 : Nat}
theorem mv_S (hO : ∀ x, O' x → O x) (hφ : ∀ b, b ≠ b0 → b ≠ b1 → φ' b = φ b) {v : V} {u : Value} (h0 : noBV b0 v = true) (h1 : noBV b1 v = true) (h : S w O φ v u) : S w O' φ' v u := by
  have hev : Ev w O noPl w O' noPl := ⟨fun k _ ho => ⟨rfl, fun h => ho (hO k h)⟩, fun _ _ h => h, fun _ _ h => h⟩
  cases h <;> simp only [noBV, decide_eq_true_eq] at h0 h1
  case i => exact .i
  case b => exact .b
  case f => exact .f
  case nan h => exact .nan h
  case str => exact .str
  case s h => exact .s h
  case nil => exact .nil
  case sl hn hl hc h => exact .sl hn hl hc (h.ev hev)
  case sl0 => exact .sl0
  case slnil => exact .slnil
  case ref => exact .ref ((hφ _ h0 h1).trans ‹_›) ‹_› ‹_›
  case ref0 => exact .ref0
  case refnil => exact .refnil
  case refc => exact .refc ((hφ _ h0 h1).trans ‹_›) ‹_›
  case refc0 => exact .refc0
  case ptr => exact .ptr ((hφ _ h0 h1).trans ‹_›)
  case cptr h => exact .cptr (h.ev hev)
  case own h => exact .own (h.ev hev)
  case err => exact .err
  case any => exact .any
  all_goals cases h0
theorem mv_Sl (hO : ∀ x, O' x → O x) (hφ : ∀ b, b ≠ b0 → b ≠ b1 → φ' b = φ b) : ∀ {vs : List V} {us : List Value}, vs.all (noBV b0) = true → vs.all (noBV b1) = true → Sl w O φ vs us → Sl w O' φ' vs us
  | _, _, _, _, .nil => .nil
  | _, _, h0, h1, .cons h hs => by
    simp only [List.all_cons, Bool.and_eq_true] at h0 h1
    exact .cons (mv_S hO hφ h0.1 h1.1 h) (mv_Sl hO hφ h0.2 h1.2 hs)
theorem mv_SA (hO : ∀ x, O' x → O x) (hφ : ∀ b, b ≠ b0 → b ≠ b1 → φ' b = φ b) {v : V} {u : Value} (h0 : noBA b0 v = true) (h1 : noBA b1 v = true) (h : S w O φ v u) : S w O' φ' v u := by
  unfold noBA at h0 h1
  split at h0
  · cases h with
    | agg h => exact .agg (mv_Sl hO hφ h0 h1 h)
  · rename_i hv
    exact mv_S hO hφ h0 (by split at h1 <;> first | exact absurd rfl (hv _) | exact h1) h
theorem mv_SAl (hO : ∀ x, O' x → O x) (hφ : ∀ b, b ≠ b0 → b ≠ b1 → φ' b = φ b) : ∀ {vs : List V} {us : List Value}, vs.all (noBA b0) = true → vs.all (noBA b1) = true → Sl w O φ vs us → Sl w O' φ' vs us
  | _, _, _, _, .nil => .nil
  | _, _, h0, h1, .cons h hs => by
    simp only [List.all_cons, Bool.and_eq_true] at h0 h1
    exact .cons (mv_SA hO hφ h0.1 h1.1 h) (mv_SAl hO hφ h0.2 h1.2 hs)
theorem mv_ST (hO : ∀ x, O' x → O x) (hφ : ∀ b, b ≠ b0 → b ≠ b1 → φ' b = φ b) {v : V} {u : Value} (h0 : noBT b0 v = true) (h1 : noBT b1 v = true) (h : S w O φ v u) : S w O' φ' v u := by
  unfold noBT at h0 h1
  split at h0
  · cases h with
    | tup h => exact .tup (mv_SAl hO hφ h0 h1 h)
  · rename_i hv
    exact mv_SA hO hφ h0 (by split at h1 <;> first | exact absurd rfl (hv _) | exact h1) h
theorem mv_STl (hO : ∀ x, O' x → O x) (hφ : ∀ b, b ≠ b0 → b ≠ b1 → φ' b = φ b) : ∀ {vs : List V} {us : List Value}, vs.all (noBT b0) = true → vs.all (noBT b1) = true → Sl w O φ vs us → Sl w O' φ' vs us
  | _, _, _, _, .nil => .nil
  | _, _, h0, h1, .cons h hs => by
    simp only [List.all_cons, Bool.and_eq_true] at h0 h1
    exact .cons (mv_ST hO hφ h0.1 h1.1 h) (mv_STl hO hφ h0.2 h1.2 hs)
end

theorem Ent.mv {t t' g : List V} {m : VM} (b0 b1 n1 : Nat) (es1 : List (List V)) (m' : VM) (hne : b0 ≠ b1) (hlt : b0 < m.length) (hb1 : m[b1]? = some (some (n1, es1))) (hpl : plainE es1 = true) (ht : mvL b0 b1 t t') (hg0 : g.all (noBT b0) = true) (hg1 : g.all (noBT b1) = true)
    (hm0 : noBM b0 ((m.set b0 none).set b1 none) = true) (hm1 : noBM b1 ((m.set b0 none).set b1 none) = true) (hm' : (m.set b0 (some (n1, es1))).set b1 none = m') : Ent { t := t, m := m, g := g } { t := t', m := m', g := g } := by
  subst hm'
  intro P N w0 a w φ hs
  generalize hM : (m.set b0 (some (n1, es1))).set b1 none = M
  obtain ⟨f1, f2⟩ := ht.get
  have hlt1 : b1 < m.length := (List.getElem?_eq_some_iff.1 hb1).1
  let φ' : Pl := fun b => if b = b0 then φ b1 else if b = b1 then none else φ b
  have p0 : φ' b0 = φ b1 := by simp [φ']
  have p1 : φ' b1 = none := by simp [φ', Ne.symm hne]
  have pe : ∀ b, b ≠ b0 → b ≠ b1 → φ' b = φ b := fun b h0 h1 => by simp [φ', h0, h1]
  have hget : ∀ x y, M[x]? = some (some y) → (x = b0 ∧ y = (n1, es1)) ∨ (x ≠ b0 ∧ x ≠ b1 ∧ m[x]? = some (some y)) := fun x y h => by
    rw [← hM, List.getElem?_set] at h
    split at h
    · split at h <;> simp at h
    · rename_i h1
      rw [List.getElem?_set] at h
      split at h
      · rename_i h2
        simp [h2.symm ▸ hlt] at h
        exact .inl ⟨h2.symm, h.symm⟩
      · rename_i h2
        exact .inr ⟨fun e => h2 e.symm, fun e => h1 e.symm, h⟩
  have hO : ∀ k, Live φ' M k → Live φ m k := fun k ⟨x, y, po, q, h1, h2⟩ => by
    rcases hget x y h1 with ⟨rfl, _⟩ | ⟨h3, h4, h5⟩
    · rw [p0] at h2
      exact ⟨b1, _, po, q, hb1, h2⟩
    · rw [pe x h3 h4] at h2
      exact ⟨x, y, po, q, h5, h2⟩
  have hplm : ∀ v ∈ es1.flatten, plainV v = true := fun v hv => by
    obtain ⟨l, l1, l2⟩ := List.mem_flatten.1 hv
    exact plainE_iff.1 hpl l l1 v l2
  have hnoM : ∀ x k es, x ≠ b0 → x ≠ b1 → m[x]? = some (some (k, es)) → ∀ v ∈ es.flatten, noBV b0 v = true ∧ noBV b1 v = true := fun x k es h0 h1 h v hv => by
    obtain ⟨l, l1, l2⟩ := List.mem_flatten.1 hv
    have hmem : some (k, es) ∈ (m.set b0 none).set b1 none := by
      refine List.mem_of_getElem? (i := x) ?_
      rw [List.getElem?_set_ne (Ne.symm h1), List.getElem?_set_ne (Ne.symm h0)]
      exact h
    unfold noBM at hm0 hm1
    have g0 := List.all_eq_true.1 hm0 _ hmem
    have g1 := List.all_eq_true.1 hm1 _ hmem
    exact ⟨List.all_eq_true.1 (List.all_eq_true.1 g0 l l1) v l2, List.all_eq_true.1 (List.all_eq_true.1 g1 l l1) v l2⟩
  refine ⟨φ', hs.defers, by rw [hs.size]; exact f1, fun i v hi => ?_, ⟨fun x k es p h1 h2 => ?_, fun x k po n h => ?_, fun x p h => ?_, fun x y k po po' n n' h h' => ?_, ?_⟩, hs.below, hs.start, mv_STl hO pe hg0 hg1 hs.gh, hs.gl⟩
  · obtain ⟨v0, h1, h2⟩ := f2 i v hi
    obtain ⟨u, u1, u2⟩ := hs.tmps i v0 h1
    refine ⟨u, u1, ?_⟩
    unfold mv1 at h2
    split at h2
    · exact .any
    · rcases h2 with ⟨e, len, rfl, rfl⟩ | ⟨rfl, h3, h4⟩
      · cases u2 with
        | ref hφ hc hr => exact .ref (p0.trans hφ) hc hr
        | ref0 => exact .ref0
        | refnil => exact .refnil
      · exact mv_ST hO pe h3 h4 u2
  · rcases hget x _ h1 with ⟨rfl, h3⟩ | ⟨h3, h4, h5⟩
    · cases h3
      rw [p0] at h2
      obtain ⟨c1, pb, po, c, ty, c2, c3, c4, c5⟩ := hs.mem.at_ b1 n1 es1 _ hb1 h2
      exact ⟨c1, pb, po, c, ty, p0.trans c2, c3, c4, fun i v hi => by
        obtain ⟨u, d1, d2, d3⟩ := c5 i v hi
        exact ⟨u, d1, d2, d3.plain (hplm v (List.mem_of_getElem? hi))⟩⟩
    · rw [pe x h3 h4] at h2
      obtain ⟨c1, pb, po, c, ty, c2, c3, c4, c5⟩ := hs.mem.at_ x k es _ h5 h2
      exact ⟨c1, pb, po, c, ty, (pe x h3 h4).trans c2, c3, c4, fun i v hi => by
        obtain ⟨u, d1, d2, d3⟩ := c5 i v hi
        obtain ⟨e0, e1⟩ := hnoM x k es h3 h4 h5 v (List.mem_of_getElem? hi)
        exact ⟨u, d1, d2, mv_S hO pe e0 e1 d3⟩⟩
  · by_cases h0 : x = b0
    · subst h0; rw [p0] at h; exact hs.mem.new b1 k po n h
    · by_cases h1 : x = b1
      · subst h1; rw [p1] at h; cases h
      · rw [pe x h0 h1] at h; exact hs.mem.new x k po n h
  · have hl : M.length = m.length := by rw [← hM]; simp
    rw [show ({ t := t', m := M, g := g } : VS).m.length = m.length from hl]
    by_cases h0 : x = b0
    · subst h0; exact hlt
    · by_cases h1 : x = b1
      · subst h1; exact hlt1
      · rw [pe x h0 h1] at h; exact hs.mem.dom x p h
  · have key : ∀ x k po n, φ' x = some (k, po, n) → ∃ y, φ y = some (k, po, n) ∧ (x = b0 ∧ y = b1 ∨ x ≠ b0 ∧ x ≠ b1 ∧ y = x) := fun x k po n h => by
      by_cases h0 : x = b0
      · subst h0; rw [p0] at h; exact ⟨b1, h, .inl ⟨rfl, rfl⟩⟩
      · by_cases h1 : x = b1
        · subst h1; rw [p1] at h; cases h
        · rw [pe x h0 h1] at h; exact ⟨x, h, .inr ⟨h0, h1, rfl⟩⟩
    obtain ⟨x1, e1, e2⟩ := key x k po n h
    obtain ⟨y1, e3, e4⟩ := key y k po' n' h'
    have := hs.mem.inj x1 y1 k po po' n n' e1 e3
    subst this
    rcases e2 with ⟨rfl, e5⟩ | ⟨e5, e6, e7⟩ <;> rcases e4 with ⟨rfl, e8⟩ | ⟨e8, e9, e10⟩
    · rfl
    · exact absurd (e10.symm.trans e5) e9
    · exact absurd (e7.symm.trans e8) e6
    · exact e7.symm.trans e10
  · obtain ⟨ψ, hψ⟩ := hs.mem.own
    refine ⟨ψ, hψ.keep (Nat.le_refl _) (fun k _ ho => ⟨rfl, fun hl => ho (hO k hl)⟩) fun x k es pb po bn i n' e' h1 h2 h3 => ?_⟩
    rcases hget x _ h1 with ⟨rfl, h4⟩ | ⟨h4, h5, h6⟩
    · cases h4
      have := hplm _ (List.mem_of_getElem? h3)
      cases this
    · rw [pe x h4 h5] at h2
      exact ⟨k, es, pb, po, bn, h6, h2, h3, fun u hu => hu⟩
end Go.VL
