/- Loop heads: what is no longer needed is forgotten. -/
import Derived.Test.YtboeddbhfnlpaaaVxEnd
namespace Go.VL
open Go.RowKit
set_option linter.unusedSimpArgs false
set_option linter.unusedVariables false

def fgt : List V → List V → Prop
  | [], [] => True
  | a :: s, b :: t => (b = .any ∨ a = b) ∧ fgt s t
  | _, _ => False

theorem fgt.get : ∀ {s t : List V}, fgt s t → s.length = t.length ∧ ∀ (i : Nat) (v : V), t[i]? = some v → v = .any ∨ s[i]? = some v
  | [], [], _ => ⟨rfl, by simp⟩
  | a :: s, b :: t, h => by
    obtain ⟨h1, h2⟩ := fgt.get h.2
    refine ⟨by simp [h1], fun i v hi => ?_⟩
    cases i with
    | zero =>
      simp at hi
      subst hi
      rcases h.1 with h | h
      · exact .inl h
      · subst h; exact .inr rfl
    | succ i => simpa using h2 i v (by simpa using hi)
  | [], _ :: _, h => h.elim
  | _ :: _, [], h => h.elim

/-- No block from k on. -/
def bndV (k : Nat) (v : V) : Bool :=
  match v with
  | .ref b _ _ | .refc b _ _ _ _ | .ptr b _ _ => decide (b < k)
  | .own _ _ => true
  | v => snapV v

def bndT (k : Nat) (v : V) : Bool :=
  match v with
  | .agg cs | .tup cs => cs.all (bndV k)
  | v => bndV k v

def bndM (k : Nat) (m : VM) : Bool := m.all fun x => match x with
  | some (_, es) => es.all fun l => l.all (bndV k)
  | none => true

section
variable {w : World} {O O' : Nat → Prop} {φ φ' : Pl} {k : Nat}
theorem bndV_S (hO : ∀ x, O' x → O x) (hφ : ∀ b, b < k → φ' b = φ b) {v : V} {u : Value} (hb : bndV k v = true) (h : S w O φ v u) : S w O' φ' v u := by
  have hev : Ev w O noPl w O' noPl := ⟨fun x _ ho => ⟨rfl, fun h' => ho (hO x h')⟩, fun _ _ h => h, fun _ _ h => h⟩
  cases h <;> simp only [bndV, decide_eq_true_eq, snapV, plainV] at hb
  case i => exact .i
  case b => exact .b
  case f => exact .f
  case nan h => exact .nan h
  case str => exact .str
  case s h => exact .s h
  case nil => exact .nil
  case sl hn hl hc h => exact .sl hn hl hc (h.ev hev)
  case sl0 => exact .sl0
  case slnil => exact .slnil
  case ref => exact .ref ((hφ _ hb).trans ‹_›) ‹_› ‹_›
  case ref0 => exact .ref0
  case refnil => exact .refnil
  case refc => exact .refc ((hφ _ hb).trans ‹_›) ‹_›
  case refc0 => exact .refc0
  case ptr h1 => exact .ptr ((hφ _ hb).trans h1)
  case cptr h => exact .cptr (h.ev hev)
  case own h => exact .own (h.ev hev)
  case err => exact .err
  case any => exact .any
  all_goals cases hb

theorem bndV_Sl (hO : ∀ x, O' x → O x) (hφ : ∀ b, b < k → φ' b = φ b) : ∀ {vs : List V} {us : List Value}, vs.all (bndV k) = true → Sl w O φ vs us → Sl w O' φ' vs us
  | _, _, _, .nil => .nil
  | _, _, hb, .cons h hs => by
    simp only [List.all_cons, Bool.and_eq_true] at hb
    exact .cons (bndV_S hO hφ hb.1 h) (bndV_Sl hO hφ hb.2 hs)

theorem bndT_S (hO : ∀ x, O' x → O x) (hφ : ∀ b, b < k → φ' b = φ b) {v : V} {u : Value} (hb : bndT k v = true) (h : S w O φ v u) : S w O' φ' v u := by
  unfold bndT at hb
  split at hb
  · cases h with
    | agg h => exact .agg (bndV_Sl hO hφ hb h)
  · cases h with
    | tup h => exact .tup (bndV_Sl hO hφ hb h)
  · exact bndV_S hO hφ hb h
theorem bndT_Sl (hO : ∀ x, O' x → O x) (hφ : ∀ b, b < k → φ' b = φ b) : ∀ {vs : List V} {us : List Value}, vs.all (bndT k) = true → Sl w O φ vs us → Sl w O' φ' vs us
  | _, _, _, .nil => .nil
  | _, _, hb, .cons h hs => by
    simp only [List.all_cons, Bool.and_eq_true] at hb
    exact .cons (bndT_S hO hφ hb.1 h) (bndT_Sl hO hφ hb.2 hs)
end

/-- At a loop's head: temporaries are forgotten, and blocks from k on. -/
theorem Ent.to {t t' : List V} {m m' : VM} (k : Nat) (hf : fgt t t') (hm : m.take k = m') (hk : k ≤ m.length) (ht : t'.all (bndT k) = true) (hb : bndM k m' = true) {g : List V} (hgg : g.all (bndT k) = true := by rfl) : Ent { t := t, m := m, g := g } { t := t', m := m', g := g } := by
  intro P N w0 a w φ hs
  obtain ⟨f1, f2⟩ := fgt.get hf
  subst hm
  have hlen : (m.take k).length = k := by simp; omega
  have hget : ∀ b x, (m.take k)[b]? = some x → m[b]? = some x ∧ b < k := fun b x h => by
    rw [List.getElem?_take] at h
    split at h
    · exact ⟨h, ‹_›⟩
    · cases h
  refine ⟨fun b => if b < k then φ b else none, hs.defers, by rw [hs.size]; exact f1, fun i v hi => ?_, ⟨fun b n es p hbk hp => ?_, fun b q po n h => ?_, fun b p h => ?_, fun b b' q po po' n n' h h' => ?_, ?_⟩, hs.below, hs.start, ?_, hs.gl⟩
  · have hO : ∀ x, Live (fun b => if b < k then φ b else none) (m.take k) x → Live φ m x := fun x ⟨b, y, po, n, h1, h2⟩ => by
      obtain ⟨h3, h4⟩ := hget b _ h1
      simp only [h4, if_true] at h2
      exact ⟨b, y, po, n, h3, h2⟩
    rcases f2 i v hi with rfl | h
    · obtain ⟨u, hu⟩ : ∃ u, a.tmps[i]? = some u := by
        have : i < a.tmps.size := by rw [hs.size]; simp only; rw [f1]; exact (List.getElem?_eq_some_iff.1 hi).1
        exact ⟨a.tmps[i], by simp [this]⟩
      exact ⟨u, hu, .any⟩
    · obtain ⟨u, a1, a2⟩ := hs.tmps i v h
      refine ⟨u, a1, bndT_S (k := k) hO (fun b hb => by simp [hb]) ?_ a2⟩
      have := List.all_eq_true.1 ht v (List.mem_of_getElem? hi)
      exact this
  · have hO : ∀ x, Live (fun b => if b < k then φ b else none) (m.take k) x → Live φ m x := fun x ⟨b, y, po, n, h1, h2⟩ => by
      obtain ⟨h3, h4⟩ := hget b _ h1
      simp only [h4, if_true] at h2
      exact ⟨b, y, po, n, h3, h2⟩
    obtain ⟨h3, h4⟩ := hget b _ hbk
    simp only [h4, if_true] at hp
    obtain ⟨c1, pb, po, c, e, c2, c3, c4, c5⟩ := hs.mem.at_ b n es p h3 hp
    refine ⟨c1, pb, po, c, e, by simp only [h4, if_true]; exact c2, c3, c4, fun i v hi => ?_⟩
    obtain ⟨u, d1, d2, d3⟩ := c5 i v hi
    refine ⟨u, d1, d2, bndV_S (k := k) hO (fun b hb => by simp [hb]) ?_ d3⟩
    unfold bndM at hb
    have h5 := List.all_eq_true.1 hb _ (List.mem_of_getElem? hbk)
    simp only at h5
    obtain ⟨l, l1, l2⟩ := List.mem_flatten.1 (List.mem_of_getElem? hi)
    exact List.all_eq_true.1 (List.all_eq_true.1 h5 l l1) v l2
  · split at h
    · exact hs.mem.new b q po n h
    · cases h
  · split at h
    · rw [hlen]; assumption
    · cases h
  · split at h
    · split at h'
      · exact hs.mem.inj b b' q po po' n n' h h'
      · cases h'
    · cases h
  · have hO : ∀ x, Live (fun b => if b < k then φ b else none) (m.take k) x → Live φ m x := fun x ⟨b, y, po, n, h1, h2⟩ => by
      obtain ⟨h3, h4⟩ := hget b _ h1
      simp only [h4, if_true] at h2
      exact ⟨b, y, po, n, h3, h2⟩
    obtain ⟨ψ, hψ⟩ := hs.mem.own
    refine ⟨ψ, hψ.keep (Nat.le_refl _) (fun q _ ho => ⟨rfl, fun hl => ho (hO q hl)⟩) fun b n es pb po bn i n' es' h1 h2 h3 => ?_⟩
    obtain ⟨h4, h5⟩ := hget b _ h1
    simp only [h5, if_true] at h2
    exact ⟨n, es, pb, po, bn, h4, h2, h3, fun u hu => hu⟩
  · have hO : ∀ x, Live (fun b => if b < k then φ b else none) (m.take k) x → Live φ m x := fun x ⟨b, y, po, n, h1, h2⟩ => by
      obtain ⟨h3, h4⟩ := hget b _ h1
      simp only [h4, if_true] at h2
      exact ⟨b, y, po, n, h3, h2⟩
    exact bndT_Sl (k := k) hO (fun b hb => by simp [hb]) hgg hs.gh

/-! Rows that are filled one after the other -/
def fill {α : Type} (i : Nat) (xs : List α) (z : α) : List α := xs.take i ++ List.replicate (xs.length - i) z

section
variable {α : Type} {xs : List α} {z : α} {i : Nat}
theorem fill_zero : fill 0 xs z = List.replicate xs.length z := by simp [fill]
theorem fill_all : fill xs.length xs z = xs := by simp [fill]
@[simp] theorem fill_length : (fill i xs z).length = xs.length := by simp [fill]; omega
theorem fill_get (h : i < xs.length) : (fill i xs z)[i]? = some z := by
  unfold fill
  rw [List.getElem?_append_right (by simp; omega), List.getElem?_replicate, if_pos (by simp; omega)]
theorem fill_set (h : i < xs.length) {x : α} (hx : xs[i]? = some x) : (fill i xs z).set i x = fill (i + 1) xs z := by
  apply List.ext_getElem?
  intro j
  rw [List.getElem?_set]
  unfold fill
  by_cases hj : i = j
  · subst hj
    rw [if_pos rfl, if_pos (by simp; omega), List.getElem?_append_left (by simp; omega), List.getElem?_take, if_pos (by omega), hx]
  · rw [if_neg hj]
    by_cases hlt : j < i
    · rw [List.getElem?_append_left (by simp; omega), List.getElem?_append_left (by simp; omega), List.getElem?_take, List.getElem?_take, if_pos hlt, if_pos (by omega)]
    · rw [List.getElem?_append_right (by simp; omega), List.getElem?_append_right (by simp; omega)]
      simp only [List.length_take, List.getElem?_replicate]
      split <;> split <;> first | rfl | omega
end

theorem plain_bnd {k : Nat} {v : V} (h : plainV v = true) : bndV k v = true := by cases v <;> first | rfl | (cases h; done)
theorem plainL_bnd {k : Nat} {l : List V} (h : plainL l = true) : l.all (bndV k) = true := List.all_eq_true.2 fun v hv => plain_bnd (List.all_eq_true.1 h v hv)
theorem plainE_bnd {k : Nat} {l : List (List V)} (h : plainE l = true) : (l.all fun x => x.all (bndV k)) = true := List.all_eq_true.2 fun x hx => plainL_bnd (List.all_eq_true.1 h x hx)
theorem fill_plain {es : List (List V)} {z : List V} {i : Nat} (h : plainE es = true) (hz : plainL z = true) : plainE (fill i es z) = true := by
  unfold plainE at h ⊢
  unfold fill
  rw [List.all_append, Bool.and_eq_true]
  refine ⟨List.all_eq_true.2 fun x hx => List.all_eq_true.1 h x (List.mem_of_mem_take hx), List.all_eq_true.2 fun x hx => ?_⟩
  rw [(List.mem_replicate.1 hx).2]
  exact hz
theorem fill_bnd {es : List (List V)} {z : List V} {i k : Nat} (h : plainE es = true) (hz : plainL z = true) : ((fill i es z).all fun x => x.all (bndV k)) = true := plainE_bnd (fill_plain h hz)
theorem plainE_of {es : List (List V)} (h : ∀ x ∈ es, plainL x = true) : plainE es = true := List.all_eq_true.2 h

theorem wrap64 {n : Int} (h1 : -9223372036854775808 ≤ n) (h2 : n < 9223372036854775808) : IntKind.i64.wrap n = n := by
  unfold IntKind.wrap
  have e1 : (2 ^ IntKind.i64.bits : Int) = 18446744073709551616 := by decide
  have e2 : (2 ^ (IntKind.i64.bits - 1) : Int) = 9223372036854775808 := by decide
  have e3 : IntKind.i64.signed = true := by decide
  simp only [e1, e2, e3, Bool.true_and, decide_eq_true_eq]
  split <;> omega
end Go.VL
