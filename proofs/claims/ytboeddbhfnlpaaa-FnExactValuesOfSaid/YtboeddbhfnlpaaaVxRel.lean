/- A slice that lies in a cell of another is taken out of it: it is a block of the call's own from then on, until it is put back (Ent.absorb). -/
import Derived.Test.YtboeddbhfnlpaaaVxTm
namespace Go.VL
open Go.RowKit
set_option linter.unusedSimpArgs false
set_option linter.unusedVariables false

def refLive (m : VM) (b : Nat) : Bool := match m[b]? with
  | some (some _) => true
  | _ => false
/-- It tells of no memory that is not the call's own, and that is written under its own name alone. -/
def rl0 (m : VM) : V → Bool
  | .ref b _ _ | .refc b _ _ _ _ | .ptr b _ _ => refLive m b
  | .sl _ _ | .own _ _ | .cptr _ _ | .agg _ | .tup _ => false
  | _ => true
def rlA (m : VM) : V → Bool
  | .agg cs => cs.all (rl0 m)
  | v => rl0 m v
def rlT (m : VM) : V → Bool
  | .tup cs => cs.all (rlA m)
  | v => rlA m v
def ownB : V → Bool
  | .own _ _ => true
  | _ => false
def rlE (m : VM) (es : List (List V)) : Bool := es.all fun c => c.all fun v => rl0 m v || ownB v
def rlX (m : VM) : Option (Nat × List (List V)) → Bool
  | none => true
  | some y => rlE m y.2
def rlM (m : VM) : Bool := m.all (rlX m)
/-- What is still told behind it. -/
def rel1 (m : VM) (v v' : V) : Prop :=
  match v' with
  | .any => True
  | v' => v = v' ∧ rlT m v = true
def relL (m : VM) : List V → List V → Prop
  | [], [] => True
  | v :: s, v' :: s' => rel1 m v v' ∧ relL m s s'
  | _, _ => False
theorem relL.get {m : VM} : ∀ {s t : List V}, relL m s t → s.length = t.length ∧ ∀ (i : Nat) (b : V), t[i]? = some b → ∃ a, s[i]? = some a ∧ rel1 m a b
  | [], [], _ => ⟨rfl, by simp⟩
  | a :: s, b :: t, h => by
    obtain ⟨h1, h2⟩ := relL.get h.2
    refine ⟨by simp [h1], fun i x hx => ?_⟩
    cases i with
    | zero => simp at hx; subst hx; exact ⟨a, rfl, h.1⟩
    | succ i => simpa using h2 i x (by simpa using hx)
  | [], _ :: _, h => h.elim
  | _ :: _, [], h => h.elim
@[simp] theorem relL_nil {m : VM} : relL m [] [] = True := rfl
@[simp] theorem relL_cons {m : VM} {a b : V} {s t : List V} : relL m (a :: s) (b :: t) = (rel1 m a b ∧ relL m s t) := rfl
@[simp] theorem rel1_any {m : VM} {a : V} : rel1 m a .any = True := rfl

section
variable {w : World} {O O' : Nat → Prop} {φ φ' : Pl} {m : VM}
theorem rl_S (hφ : ∀ b, refLive m b = true → φ' b = φ b) {v : V} {u : Value} (h0 : rl0 m v = true) (h : S w O φ v u) : S w O' φ' v u := by
  cases h <;> simp only [rl0] at h0
  case i => exact .i
  case b => exact .b
  case f => exact .f
  case nan h => exact .nan h
  case str => exact .str
  case s h => exact .s h
  case nil => exact .nil
  case ref => exact .ref ((hφ _ h0).trans ‹_›) ‹_› ‹_›
  case ref0 => exact .ref0
  case refnil => exact .refnil
  case refc => exact .refc ((hφ _ h0).trans ‹_›) ‹_›
  case refc0 => exact .refc0
  case ptr => exact .ptr ((hφ _ h0).trans ‹_›)
  case err => exact .err
  case any => exact .any
  all_goals cases h0
theorem rl_Sl (hφ : ∀ b, refLive m b = true → φ' b = φ b) : ∀ {vs : List V} {us : List Value}, vs.all (rl0 m) = true → Sl w O φ vs us → Sl w O' φ' vs us
  | _, _, _, .nil => .nil
  | _, _, h0, .cons h hs => by
    simp only [List.all_cons, Bool.and_eq_true] at h0
    exact .cons (rl_S hφ h0.1 h) (rl_Sl hφ h0.2 hs)
theorem rl_SA (hφ : ∀ b, refLive m b = true → φ' b = φ b) {v : V} {u : Value} (h0 : rlA m v = true) (h : S w O φ v u) : S w O' φ' v u := by
  unfold rlA at h0
  split at h0
  · cases h with
    | agg h => exact .agg (rl_Sl hφ h0 h)
  · exact rl_S hφ h0 h
theorem rl_SAl (hφ : ∀ b, refLive m b = true → φ' b = φ b) : ∀ {vs : List V} {us : List Value}, vs.all (rlA m) = true → Sl w O φ vs us → Sl w O' φ' vs us
  | _, _, _, .nil => .nil
  | _, _, h0, .cons h hs => by
    simp only [List.all_cons, Bool.and_eq_true] at h0
    exact .cons (rl_SA hφ h0.1 h) (rl_SAl hφ h0.2 hs)
theorem rl_ST (hφ : ∀ b, refLive m b = true → φ' b = φ b) {v : V} {u : Value} (h0 : rlT m v = true) (h : S w O φ v u) : S w O' φ' v u := by
  unfold rlT at h0
  split at h0
  · cases h with
    | tup h => exact .tup (rl_SAl hφ h0 h)
  · exact rl_SA hφ h0 h
theorem rel1_S (hφ : ∀ b, refLive m b = true → φ' b = φ b) {v v' : V} {u : Value} (h0 : rel1 m v v') (h : S w O φ v u) : S w O' φ' v' u := by
  unfold rel1 at h0
  split at h0
  · exact .any
  · obtain ⟨rfl, h1⟩ := h0
    exact rl_ST hφ h1 h
theorem relL_Sl (hφ : ∀ b, refLive m b = true → φ' b = φ b) : ∀ {vs vs' : List V} {us : List Value}, relL m vs vs' → Sl w O φ vs us → Sl w O' φ' vs' us
  | [], [], _, _, .nil => .nil
  | _ :: _, _ :: _, _, h0, .cons h hs => .cons (rel1_S hφ h0.1 h) (relL_Sl hφ h0.2 hs)
end

theorem RV.own_inv {w : World} {n : Nat} {es : List (List V)} {u : Value} {F : List Nat} (h : RV w (.own n es) u F) :
    (es = [] ∧ F = [] ∧ ((∃ b off, u = .slice (some ⟨b, off, none⟩) 0 0) ∨ u = .slice none 0 0)) ∨
    ∃ b off cap c ty G, u = .slice (some ⟨b, off, none⟩) es.length cap ∧ F = b :: G ∧ (∀ x ∈ es, x.length = n) ∧ es.length ≤ cap ∧ w.heap[b]? = some (.cells c ty (0, 0)) ∧ off + cap * n ≤ c.size ∧ Rs w c off es.flatten G := by
  generalize hv : V.own n es = v at h
  cases h with
  | pl hp h => subst hv; cases hp
  | own0 => cases hv; exact .inl ⟨rfl, rfl, .inl ⟨_, _, rfl⟩⟩
  | ownnil => cases hv; exact .inl ⟨rfl, rfl, .inr rfl⟩
  | own hn hl hc hb hr hs => cases hv; subst hl; exact .inr ⟨_, _, _, _, _, _, rfl, rfl, hn, hc, hb, hr, hs⟩
  | agg h => cases hv
  | tup h => cases hv
  | fz h e => subst hv; rename_i v0; cases v0 <;> simp [frz] at e

theorem Rs.plainGet {w : World} : ∀ {c : Array Value} {off : Nat} {vs : List V} {F : List Nat}, Rs w c off vs F → (∀ v ∈ vs, plainV v = true) → ∀ {i : Nat} {v : V}, vs[i]? = some v → ∃ u, c[off + i]? = some u ∧ u.oneCell' = true ∧ S w (fun _ => False) noPl v u
  | _, _, _, _, .nil, _, i, v, h => by simp at h
  | c, off, _, _, .cons hc h1 hv hs, hp, 0, v, h => by
    simp at h; subst h
    exact ⟨_, by simpa using hc, h1, hv.pinv (hp _ (by simp))⟩
  | c, off, _, _, .cons hc h1 hv hs, hp, i + 1, v, h => by
    obtain ⟨u, a1, a2, a3⟩ := Rs.plainGet hs (fun x hx => hp x (by simp [hx])) (i := i) (v := v) (by simpa using h)
    exact ⟨u, by rw [← a1]; congr 1; omega, a2, a3⟩

theorem Ent.release {t t' g g' : List V} {m : VM} (b e j b' : Nat) {n n' : Nat} {es es' : List (List V)} {cs : List V} (m' : VM) (hb : m[b]? = some (some (n, es))) (he : es[e]? = some cs) (hj : cs[j]? = some (.own n' es'))
    (hb' : m[b']? = some none) (hpl : plainE es' = true) (hm : rlM m = true) (ht : relL m t t') (hg : relL m g g')
    (hm' : (m.set b (some (n, es.set e (cs.set j (.ref b' 0 es'.length))))).set b' (some (n', es')) = m') : Ent { t := t, m := m, g := g } { t := t', m := m', g := g' } := by
  subst hm'
  intro P N w0 a w φ hs
  have hblt : b < m.length := (List.getElem?_eq_some_iff.1 hb).1
  have hblt' : b' < m.length := (List.getElem?_eq_some_iff.1 hb').1
  have hne : b ≠ b' := fun h => by subst h; rw [hb] at hb'; cases hb'
  have hlb : refLive m b = true := by unfold refLive; rw [hb]
  have hlb' : refLive m b' = false := by unfold refLive; rw [hb']
  obtain ⟨ψ, hψ⟩ := hs.mem.own
  have hplm : ∀ v ∈ es'.flatten, plainV v = true := fun v hv => by
    obtain ⟨l, l1, l2⟩ := List.mem_flatten.1 hv
    exact plainE_iff.1 hpl l l1 v l2
  -- what lies in the cell
  have key : ∃ p0 : Option (Nat × Nat × Nat),
      (∀ pb po bn, p0 = some (pb, po, bn) → ¬ N pb ∧ pb < w.heap.size ∧ ¬ Live φ m pb ∧ ψ pb = some (b, e * n + j) ∧ bn = n' ∧ (∀ x ∈ es', x.length = n') ∧ ∃ c ty, w.heap[pb]? = some (.cells c ty (0, 0)) ∧ po + es'.length * n' ≤ c.size ∧ ∀ (i : Nat) (v : V), es'.flatten[i]? = some v → ∃ u, c[po + i]? = some u ∧ u.oneCell' = true ∧ S w (fun _ => False) noPl v u) ∧
      ∀ pb po bn, φ b = some (pb, po, bn) → ∃ u, w.cell? ⟨pb, po + (e * n + j), none⟩ = some u ∧ ∀ (O : Nat → Prop) (φ' : Pl), φ' b' = p0 → S w O φ' (.ref b' 0 es'.length) u := by
    cases hφ : φ b with
    | none => exact ⟨none, fun _ _ _ h => (by cases h), fun _ _ _ h => (by cases h)⟩
    | some p =>
      obtain ⟨pk, ok, nk⟩ := p
      obtain ⟨hn, _⟩ := hs.mem.at_ b n es _ hb hφ
      obtain ⟨u, F, f1, f2, f3, f4⟩ := hψ b n es pk ok nk (e * n + j) n' es' hb hφ (flatten_get hn he hj)
      rcases f2.own_inv with ⟨rfl, rfl, h⟩ | ⟨pb, off, cap, c, ty, G, rfl, rfl, h1, h2, h3, h4, h5⟩
      · refine ⟨none, fun _ _ _ h => (by cases h), fun pb po bn h => ?_⟩
        cases h
        refine ⟨u, f1, fun O φ' _ => ?_⟩
        rcases h with ⟨b1, off, rfl⟩ | rfl
        · exact .ref0
        · exact .refnil
      · obtain ⟨a1, a2, a3, a4⟩ := f4 pb (by simp)
        have hcap : es'.length * n' ≤ cap * n' := Nat.mul_le_mul_right _ h2
        refine ⟨some (pb, off, n'), fun _ _ _ h => ?_, fun _ _ _ h => ?_⟩
        · cases h
          exact ⟨a2, a3, a4, a1, rfl, h1, c, ty, h3, by omega, fun i v hi => h5.plainGet hplm hi⟩
        · cases h
          refine ⟨_, f1, fun O φ' hφ' => ?_⟩
          have := S.ref (w := w) (O := O) (φ := φ') (b := b') (e := 0) (len := es'.length) (cap := cap) hφ' h2 ⟨c, ty, (0, 0), h3, by rw [Nat.zero_add]; exact h4⟩
          simpa using this
  obtain ⟨p0, k1, k2⟩ := key
  let φ' : Pl := fun x => if x = b' then p0 else if refLive m x = true then φ x else none
  have q0 : φ' b' = p0 := by simp [φ']
  have q1 : ∀ x, refLive m x = true → φ' x = φ x := fun x hx => by
    have : x ≠ b' := fun h => by subst h; rw [hlb'] at hx; cases hx
    simp [φ', this, hx]
  have q2 : ∀ x p, φ' x = some p → x = b' ∧ p0 = some p ∨ x ≠ b' ∧ refLive m x = true ∧ φ x = some p := fun x p h => by
    by_cases hx : x = b'
    · subst hx; exact .inl ⟨rfl, by rw [← q0]; exact h⟩
    · right
      refine ⟨hx, ?_⟩
      simp only [φ', hx, if_false] at h
      split at h
      · exact ⟨‹_›, h⟩
      · cases h
  generalize hM : (m.set b (some (n, es.set e (cs.set j (.ref b' 0 es'.length))))).set b' (some (n', es')) = M
  have hget : ∀ x y, M[x]? = some (some y) → (x = b' ∧ y = (n', es')) ∨ (x ≠ b' ∧ x = b ∧ y = (n, es.set e (cs.set j (.ref b' 0 es'.length)))) ∨ (x ≠ b' ∧ x ≠ b ∧ m[x]? = some (some y)) := fun x y h => by
    rw [← hM, List.getElem?_set] at h
    split at h
    · rename_i h1
      subst h1
      simp [hblt'] at h
      exact .inl ⟨rfl, h.symm⟩
    · rename_i h1
      rw [List.getElem?_set] at h
      split at h
      · rename_i h2
        subst h2
        simp [hblt] at h
        exact .inr (.inl ⟨fun e => h1 e.symm, rfl, h.symm⟩)
      · rename_i h2
        exact .inr (.inr ⟨fun e => h1 e.symm, fun e => h2 e.symm, h⟩)
  have hlive : ∀ x y, m[x]? = some (some y) → refLive m x = true := fun x y h => by unfold refLive; rw [h]
  have hL : ∀ k, Live φ' M k → Live φ m k ∨ ∃ po bn, p0 = some (k, po, bn) := fun k ⟨x, y, po, q, h1, h2⟩ => by
    rcases hget x y h1 with ⟨rfl, _⟩ | ⟨hx, rfl, _⟩ | ⟨hx, hx2, h3⟩
    · rw [q0] at h2; exact .inr ⟨po, q, h2⟩
    · rw [q1 x hlb] at h2; exact .inl ⟨x, _, po, q, hb, h2⟩
    · rw [q1 x (hlive x y h3)] at h2; exact .inl ⟨x, y, po, q, h3, h2⟩
  -- a cell that is not the one
  have hcell : ∀ (x k : Nat) (es1 : List (List V)) (pb po bn i : Nat) (v : V) (u : Value), m[x]? = some (some (k, es1)) → φ x = some (pb, po, bn) → es1.flatten[i]? = some v → ¬ (x = b ∧ i = e * n + j) → w.cell? ⟨pb, po + i, none⟩ = some u → S w (Live φ m) φ v u →
      S w (Live φ' M) φ' v u ∧ ∀ n1 e1, v = .own n1 e1 → ∃ F, RV w v u F ∧ F.Nodup ∧ ∀ k ∈ F, ψ k = some (x, i) ∧ ¬ N k ∧ k < w.heap.size ∧ ¬ Live φ' M k := fun x k es1 pb po bn i v u h1 h2 h3 h4 h5 h6 => by
    have hv : (rl0 m v || ownB v) = true := by
      unfold rlM at hm
      have := List.all_eq_true.1 hm _ (List.mem_of_getElem? h1)
      unfold rlX rlE at this
      obtain ⟨l, l1, l2⟩ := List.mem_flatten.1 (List.mem_of_getElem? h3)
      exact List.all_eq_true.1 (List.all_eq_true.1 this l l1) v l2
    have hown : ∀ n1 e1, v = .own n1 e1 → ∃ F, RV w v u F ∧ F.Nodup ∧ ∀ k ∈ F, ψ k = some (x, i) ∧ ¬ N k ∧ k < w.heap.size ∧ ¬ Live φ' M k := fun n1 e1 hv1 => by
      subst hv1
      obtain ⟨u1, F, f1, f2, f3, f4⟩ := hψ x k es1 pb po bn i n1 e1 h1 h2 h3
      rw [h5] at f1
      obtain rfl := Option.some.inj f1
      refine ⟨F, f2, f3, fun q hq => ?_⟩
      obtain ⟨a1, a2, a3, a4⟩ := f4 q hq
      refine ⟨a1, a2, a3, fun hl => ?_⟩
      rcases hL q hl with h | ⟨po', bn', h⟩
      · exact a4 h
      · obtain ⟨_, _, _, b4, _⟩ := k1 q po' bn' h
        rw [a1] at b4
        simp only [Option.some.injEq, Prod.mk.injEq] at b4
        exact h4 b4
    refine ⟨?_, hown⟩
    cases hr : rl0 m v with
    | true => exact rl_S q1 hr h6
    | false =>
      rw [hr, Bool.false_or] at hv
      cases v <;> try (cases hv; done)
      rename_i n1 e1
      obtain ⟨F, f1, f2, f3⟩ := hown n1 e1 rfl
      exact f1.keptS (.inr ⟨_, _, rfl⟩) fun k hk => (f3 k hk).2.2.2
  obtain ⟨tl1, tl2⟩ := ht.get
  refine ⟨φ', hs.defers, by rw [hs.size]; exact tl1, fun i v hi => ?_, ⟨fun x k es1 p h1 h2 => ?_, fun x k po q h => ?_, fun x p h => ?_, fun x y k po po' q q' h h' => ?_, ψ, fun x k es1 pb po bn i n1 e1 h1 h2 h3 => ?_⟩, hs.below, hs.start, relL_Sl q1 hg hs.gh, hs.gl⟩
  · obtain ⟨v0, g1, g2⟩ := tl2 i v hi
    obtain ⟨u, u1, u2⟩ := hs.tmps i v0 g1
    exact ⟨u, u1, rel1_S q1 g2 u2⟩
  · rcases hget x _ h1 with ⟨rfl, h3⟩ | ⟨hx, rfl, h3⟩ | ⟨hx, hx2, h3⟩
    · cases h3
      rw [q0] at h2
      obtain ⟨pb, po, bn⟩ := p
      obtain ⟨_, _, _, _, rfl, b6, c, ty, b7, b8, b9⟩ := k1 pb po bn h2
      exact ⟨b6, pb, po, c, ty, by rw [q0, h2], b7, b8, fun i v hi => by
        obtain ⟨u, d1, d2, d3⟩ := b9 i v hi
        exact ⟨u, d1, d2, d3.plain (hplm v (List.mem_of_getElem? hi))⟩⟩
    · cases h3
      rw [q1 x hlb] at h2
      obtain ⟨c1, pb, po, c, ty, c2, c3, c4, c5⟩ := hs.mem.at_ x n es _ hb h2
      have hjn : j < n := by rw [← c1 cs (List.mem_of_getElem? he)]; exact (List.getElem?_eq_some_iff.1 hj).1
      have hcsl : cs.length = n := c1 cs (List.mem_of_getElem? he)
      refine ⟨fun y hy => ?_, pb, po, c, ty, (q1 x hlb).trans c2, c3, by simpa using c4, fun i v hi => ?_⟩
      · rcases List.mem_or_eq_of_mem_set hy with h | rfl
        · exact c1 y h
        · simpa using hcsl
      · rw [flatten_set1 es n e j cs _ c1 he hjn, List.getElem?_set] at hi
        split at hi
        · rename_i h4
          split at hi
          · cases hi
            obtain ⟨u, d1, d2, d3⟩ := c5 (e * n + j) _ (flatten_get c1 he hj)
            obtain ⟨u1, r1, r2⟩ := k2 pb po n c2
            rw [cell_of c3 d1] at r1
            obtain rfl := Option.some.inj r1
            exact ⟨u, by rw [← h4]; exact d1, d2, r2 _ _ q0⟩
          · cases hi
        · rename_i h4
          obtain ⟨u, d1, d2, d3⟩ := c5 i v hi
          exact ⟨u, d1, d2, (hcell x n es pb po n i v u hb c2 hi (fun h => h4 h.2.symm) (cell_of c3 d1) d3).1⟩
    · rw [q1 x (hlive x _ h3)] at h2
      obtain ⟨c1, pb, po, c, ty, c2, c3, c4, c5⟩ := hs.mem.at_ x k es1 _ h3 h2
      exact ⟨c1, pb, po, c, ty, (q1 x (hlive x _ h3)).trans c2, c3, c4, fun i v hi => by
        obtain ⟨u, d1, d2, d3⟩ := c5 i v hi
        exact ⟨u, d1, d2, (hcell x k es1 pb po k i v u h3 c2 hi (fun h => hx2 h.1) (cell_of c3 d1) d3).1⟩⟩
  · rcases q2 x _ h with ⟨rfl, h1⟩ | ⟨_, _, h1⟩
    · obtain ⟨a1, a2, _⟩ := k1 k po q h1
      exact ⟨a1, a2⟩
    · exact hs.mem.new x k po q h1
  · have hl : M.length = m.length := by rw [← hM]; simp
    rw [show ({ t := t', m := M, g := g' } : VS).m.length = m.length from hl]
    rcases q2 x _ h with ⟨rfl, h1⟩ | ⟨_, _, h1⟩
    · exact hblt'
    · exact hs.mem.dom x p h1
  · have hno : ∀ x k po q po' q', p0 = some (k, po, q) → refLive m x = true → φ x = some (k, po', q') → False := fun x k po q po' q' h1 h2 h3 => by
      unfold refLive at h2
      split at h2
      · rename_i y hy
        exact (k1 k po q h1).2.2.1 ⟨x, y, po', q', hy, h3⟩
      · cases h2
    rcases q2 x _ h with ⟨rfl, h1⟩ | ⟨a1, a2, h1⟩ <;> rcases q2 y _ h' with ⟨rfl, h3⟩ | ⟨b1, b2, h3⟩
    · rfl
    · exact (hno y k po q po' q' h1 b2 h3).elim
    · exact (hno x k po' q' po q h3 a2 h1).elim
    · exact hs.mem.inj x y k po po' q q' h1 h3
  · rcases hget x _ h1 with ⟨rfl, h4⟩ | ⟨hx, rfl, h4⟩ | ⟨hx, hx2, h4⟩
    · cases h4
      have := hplm _ (List.mem_of_getElem? h3)
      cases this
    · simp only [Prod.mk.injEq] at h4
      obtain ⟨rfl, rfl⟩ := h4
      rw [q1 x hlb] at h2
      obtain ⟨c1, pb', po', c, ty, c2, c3, c4, c5⟩ := hs.mem.at_ x k es _ hb h2
      rw [h2] at c2
      simp at c2
      obtain ⟨rfl, rfl, rfl⟩ := c2
      have hjn : j < bn := by rw [← c1 cs (List.mem_of_getElem? he)]; exact (List.getElem?_eq_some_iff.1 hj).1
      rw [flatten_set1 es bn e j cs _ c1 he hjn, List.getElem?_set] at h3
      split at h3
      · split at h3 <;> cases h3
      · rename_i h5
        obtain ⟨u, d1, d2, d3⟩ := c5 i _ h3
        obtain ⟨F, f1, f2, f3⟩ := (hcell x bn es pb po bn i _ u hb h2 h3 (fun h => h5 h.2.symm) (cell_of c3 d1) d3).2 n1 e1 rfl
        exact ⟨u, F, cell_of c3 d1, f1, f2, f3⟩
    · rw [q1 x (hlive x _ h4)] at h2
      obtain ⟨c1, pb', po', c, ty, c2, c3, c4, c5⟩ := hs.mem.at_ x k es1 _ h4 h2
      rw [h2] at c2
      simp at c2
      obtain ⟨rfl, rfl, rfl⟩ := c2
      obtain ⟨u, d1, d2, d3⟩ := c5 i _ h3
      obtain ⟨F, f1, f2, f3⟩ := (hcell x bn es1 pb po bn i _ u h4 h2 h3 (fun h => hx2 h.1) (cell_of c3 d1) d3).2 n1 e1 rfl
      exact ⟨u, F, cell_of c3 d1, f1, f2, f3⟩

/-- A number more, for a block that is not there yet. -/
theorem Ent.grow {t g : List V} {m : VM} (m' : VM) (h : m ++ [none] = m') : Ent { t := t, m := m, g := g } { t := t, m := m', g := g } := by
  subst h
  exact fun P N w0 a w φ hs => ⟨φ, hs.more [none]⟩
/-- What is still told, of temporaries that are told sparsely. -/
def relK (m : VM) (l : List (Nat × V)) : List (Nat × V) → Prop
  | [] => True
  | (k, v) :: r => rel1 m (look l k) v ∧ relK m l r
@[simp] theorem relK_nil {m : VM} {l : List (Nat × V)} : relK m l [] = True := rfl
@[simp] theorem relK_cons {m : VM} {l r : List (Nat × V)} {k : Nat} {v : V} : relK m l ((k, v) :: r) = (rel1 m (look l k) v ∧ relK m l r) := rfl
theorem relK.look {m : VM} {l : List (Nat × V)} {i : Nat} : ∀ {r : List (Nat × V)}, relK m l r → rel1 m (look l i) (look r i)
  | [], _ => trivial
  | (k, v) :: r, h => by
    rw [look_cons]
    by_cases hi : i = k
    · rw [if_pos hi, hi]; exact h.1
    · rw [if_neg hi]; exact relK.look h.2
theorem relL.of {m : VM} : ∀ {s t : List V}, s.length = t.length → (∀ (i : Nat) (a b : V), s[i]? = some a → t[i]? = some b → rel1 m a b) → relL m s t
  | [], [], _, _ => trivial
  | a :: s, b :: t, hl, h => ⟨h 0 a b rfl rfl, relL.of (by simpa using hl) fun i x y h1 h2 => h (i + 1) x y (by simpa using h1) (by simpa using h2)⟩
  | [], _ :: _, hl, _ => by simp at hl
  | _ :: _, [], hl, _ => by simp at hl
theorem tm_rel {m : VM} {n : Nat} {l l' : List (Nat × V)} (h : relK m l l') : relL m (tm n l) (tm n l') := relL.of (by simp) fun i a b h1 h2 => by
  have hi : i < n := by
    have := (List.getElem?_eq_some_iff.1 h1).1
    simpa using this
  rw [tm_get hi] at h1 h2
  cases h1
  cases h2
  exact h.look
theorem relL.app {m : VM} : ∀ {s t s' t' : List V}, relL m s t → relL m s' t' → relL m (s ++ s') (t ++ t')
  | [], [], _, _, _, h => h
  | _ :: _, _ :: _, _, _, h, h' => ⟨h.1, relL.app h.2 h'⟩
  | [], _ :: _, _, _, h, _ => h.elim
  | _ :: _, [], _, _, h, _ => h.elim
@[simp] theorem rel1_of {m : VM} {v : V} : rel1 m v v = (v = .any ∨ rlT m v = true) := by
  unfold rel1
  cases v <;> simp
theorem plain_rl {m : VM} {v : V} (h : plainV v = true) : rl0 m v = true := by cases v <;> first | rfl | (cases h; done)
theorem pown_rl {m : VM} {v : V} (h : pownV v = true) : (rl0 m v || ownB v) = true := by
  cases v <;> first | rfl | (cases h; done)
@[simp] theorem rlE_nil {m : VM} : rlE m [] = true := rfl
@[simp] theorem rlE_cons {m : VM} {c : List V} {es : List (List V)} : rlE m (c :: es) = (c.all (fun v => rl0 m v || ownB v) && rlE m es) := rfl
@[simp] theorem rows_rl {α : Type} {c : α → List V} [h : Pow c] {m : VM} {xs : List α} : rlE m (rows c xs) = true := List.all_eq_true.2 fun x hx => by
  obtain ⟨y, _, rfl⟩ := List.mem_map.1 hx
  exact List.all_eq_true.2 fun v hv => pown_rl (List.all_eq_true.1 (h.po y) v hv)
@[simp] theorem rows_rlp {α : Type} {c : α → List V} [h : Pln c] {m : VM} {xs : List α} : rlE m (rows c xs) = true := List.all_eq_true.2 fun x hx => by
  obtain ⟨y, _, rfl⟩ := List.mem_map.1 hx
  refine List.all_eq_true.2 fun v hv => ?_
  rw [plain_rl (List.all_eq_true.1 (h.pl y) v hv)]
  rfl
section
variable {α : Type} {c : α → List V} {xs : List α} {x y : List V}
@[simp] theorem rows_set_last : (rows c xs ++ [x]).set xs.length y = rows c xs ++ [y] := by
  have h : (rows c xs).length = xs.length := by simp
  rw [List.set_append_right _ _ (by omega), h, Nat.sub_self]
  rfl
@[simp] theorem rows_get_last : (rows c xs ++ [x])[xs.length]? = some x := by
  have h : (rows c xs).length = xs.length := by simp
  rw [List.getElem?_append_right (by omega), h, Nat.sub_self]
  rfl
end
attribute [simp] rlM rlX rl0 rlA rlT refLive ownB
end Go.VL
