/- Slices of slices: an own slice that is put into a cell of another becomes that cell's own. -/
import Derived.Test.YtboeddbhfnlpaaaVxInl
namespace Go.VL
open Go.RowKit
set_option linter.unusedSimpArgs false
set_option linter.unusedVariables false

theorem flatten_set1 {α : Type} : ∀ (es : List (List α)) (n e j : Nat) (cs : List α) (v : α), (∀ y ∈ es, y.length = n) → es[e]? = some cs → j < n → (es.set e (cs.set j v)).flatten = es.flatten.set (e * n + j) v
  | [], _, _, _, _, _, _, h, _ => by simp at h
  | y :: es, n, 0, j, cs, v, hn, he, hj => by
    simp at he
    subst he
    have hy := hn y (by simp)
    simp only [List.set_cons_zero, List.flatten_cons, Nat.zero_mul, Nat.zero_add]
    rw [List.set_append_left _ _ (by omega)]
  | y :: es, n, e + 1, j, cs, v, hn, he, hj => by
    have hy := hn y (by simp)
    simp only [List.set_cons_succ, List.flatten_cons]
    rw [flatten_set1 es n e j cs v (fun z hz => hn z (by simp [hz])) (by simpa using he) hj, List.set_append_right _ _ (by rw [hy, Nat.add_mul]; omega)]
    congr 2
    rw [hy, Nat.add_mul]
    omega

open Classical in
theorem Ent.absorb {t g : List V} {m : VM} (b e j b' len : Nat) {n n' : Nat} {es es' : List (List V)} {cs : List V} (m' : VM) (hb : m[b]? = some (some (n, es))) (he : es[e]? = some cs) (hj : cs[j]? = some (.ref b' 0 len))
    (hb' : m[b']? = some (some (n', es'))) (hne : b ≠ b') (hlen : es'.length = len) (hpl : plainE es' = true) (hm' : (m.set b (some (n, es.set e (cs.set j (.own n' es'))))).set b' none = m') : Ent { t := t, m := m, g := g } { t := t, m := m', g := g } := by
  subst hm'
  intro P N w0 a w φ hs
  have hblt : b < m.length := (List.getElem?_eq_some_iff.1 hb).1
  have hblt' : b' < m.length := (List.getElem?_eq_some_iff.1 hb').1
  generalize hM : (m.set b (some (n, es.set e (cs.set j (.own n' es'))))).set b' none = M
  have hget : ∀ x y, M[x]? = some (some y) → x ≠ b' ∧ (x = b ∧ y = (n, es.set e (cs.set j (.own n' es'))) ∨ x ≠ b ∧ m[x]? = some (some y)) := fun x y h => by
    rw [← hM, List.getElem?_set] at h
    split at h
    · split at h <;> simp at h
    · rename_i h1
      refine ⟨fun e => h1 e.symm, ?_⟩
      rw [List.getElem?_set] at h
      split at h
      · rename_i h2
        simp at h; exact .inl ⟨h2.symm, h.symm⟩
      · rename_i h2
        exact .inr ⟨fun e => h2 e.symm, h⟩
  have hO : ∀ k, Live φ M k → Live φ m k := fun k ⟨x, y, po, q, h1, h2⟩ => by
    rcases (hget x y h1).2 with ⟨rfl, _⟩ | ⟨_, h3⟩
    · exact ⟨x, _, po, q, hb, h2⟩
    · exact ⟨x, y, po, q, h3, h2⟩
  have hev : Ev w (Live φ m) φ w (Live φ M) φ := ⟨fun k _ ho => ⟨rfl, fun hl => ho (hO k hl)⟩, fun _ _ h => h, fun _ _ h => h⟩
  have hdead : ∀ p po q, φ b' = some (p, po, q) → ¬ Live φ M p := fun p po q hp ⟨x, y, po', q', h1, h2⟩ => by
    exact (hget x y h1).1 (hs.mem.inj x b' p po' po q' q h2 hp)
  have hpl' : frzE es' = es' := frzE_same hpl
  -- the cell
  have hcell : ∀ u, S w (Live φ m) φ (.ref b' 0 len) u → S w (Live φ M) φ (.own n' es') u ∧ ∃ F, RV w (.own n' es') u F ∧ F.Nodup ∧ ∀ k ∈ F, ∃ po q, φ b' = some (k, po, q) := fun u hu => by
    cases hu with
    | ref hφ hc hroom =>
      obtain ⟨hn, pb, po, c, ty, hφ', hp, hfit, hcells⟩ := hs.mem.at_ b' n' es' _ hb' hφ
      rw [hφ] at hφ'
      simp at hφ'
      obtain ⟨rfl, rfl, rfl⟩ := hφ'
      rename_i pb po bn cap
      have hcells0 : ∀ (i : Nat) (v : V), es'.flatten[i]? = some v → ∃ u, c[po + 0 * bn + i]? = some u ∧ u.oneCell' = true ∧ S w (Live φ m) φ v u := fun i v hi => by
        rw [Nat.zero_mul, Nat.add_zero]; exact hcells i v hi
      have hplm : ∀ v ∈ es'.flatten, plainV v = true := fun v hv => by
        obtain ⟨l, l1, l2⟩ := List.mem_flatten.1 hv
        exact plainE_iff.1 hpl l l1 v l2
      obtain ⟨c', ty', fr', hp', hroom'⟩ := hroom
      rw [hp] at hp'
      cases hp'
      refine ⟨.own ?_, [pb], .own hn hlen hc hp (by rw [Nat.add_mul] at hroom'; omega) (plainRs hplm hcells0), by simp, fun k hk => ?_⟩
      · rw [hpl']
        refine .sl hn hlen hc (Ss.of_get (fun _ => hdead pb po bn hφ) fun i v hi => ?_)
        obtain ⟨u, u1, u2, u3⟩ := hcells0 i v hi
        exact ⟨u, cell_of hp u1, u3.plain (hplm v (List.mem_of_getElem? hi))⟩
      · simp at hk
        subst hk
        exact ⟨_, _, hφ⟩
    | ref0 =>
      have : es' = [] := List.eq_nil_of_length_eq_zero hlen
      subst this
      exact ⟨.own (by rw [hpl']; exact .sl0), [], .own0, by simp, by simp⟩
    | refnil =>
      have : es' = [] := List.eq_nil_of_length_eq_zero hlen
      subst this
      exact ⟨.own (by rw [hpl']; exact .slnil), [], .ownnil, by simp, by simp⟩
  refine ⟨φ, hs.defers, hs.size, fun i v hi => ?_, ⟨fun x k es1 p h1 h2 => ?_, hs.mem.new, fun x p h => ?_, hs.mem.inj, ?_⟩, hs.below, hs.start, Sl.ev hev hs.gh, hs.gl⟩
  · obtain ⟨u, u1, u2⟩ := hs.tmps i v hi
    exact ⟨u, u1, u2.ev hev⟩
  · rcases (hget x _ h1).2 with ⟨rfl, h3⟩ | ⟨_, h3⟩
    · simp only [Prod.mk.injEq] at h3
      obtain ⟨rfl, rfl⟩ := h3
      obtain ⟨c1, pb, po, c, ty, c2, c3, c4, c5⟩ := hs.mem.at_ x k es _ hb h2
      have hjn : j < k := by rw [← c1 cs (List.mem_of_getElem? he)]; exact (List.getElem?_eq_some_iff.1 hj).1
      have hcsl : cs.length = k := c1 cs (List.mem_of_getElem? he)
      refine ⟨fun y hy => ?_, pb, po, c, ty, c2, c3, by simpa using c4, fun i v hi => ?_⟩
      · rcases List.mem_or_eq_of_mem_set hy with h | rfl
        · exact c1 y h
        · simpa using hcsl
      · rw [flatten_set1 es k e j cs _ c1 he hjn, List.getElem?_set] at hi
        split at hi
        · rename_i h4
          split at hi
          · cases hi
            obtain ⟨u, d1, d2, d3⟩ := c5 (e * k + j) _ (flatten_get c1 he hj)
            exact ⟨u, by rw [← h4]; exact d1, d2, (hcell u d3).1⟩
          · cases hi
        · obtain ⟨u, d1, d2, d3⟩ := c5 i v hi
          exact ⟨u, d1, d2, d3.ev hev⟩
    · obtain ⟨c1, pb, po, c, ty, c2, c3, c4, c5⟩ := hs.mem.at_ x k es1 _ h3 h2
      exact ⟨c1, pb, po, c, ty, c2, c3, c4, fun i v hi => by
        obtain ⟨u, d1, d2, d3⟩ := c5 i v hi
        exact ⟨u, d1, d2, d3.ev hev⟩⟩
  · have := hs.mem.dom x p h
    rw [← hM]; simpa using this
  · obtain ⟨ψ, hψ⟩ := hs.mem.own
    refine ⟨fun k => if ∃ po q, φ b' = some (k, po, q) then some (b, e * n + j) else ψ k, fun x k es1 pb po bn i n1 e1 h1 h2 h3 => ?_⟩
    have hold : ∀ (x k : Nat) (es1 : List (List V)), m[x]? = some (some (k, es1)) → φ x = some (pb, po, bn) → es1.flatten[i]? = some (.own n1 e1) → ∃ u F, w.cell? ⟨pb, po + i, none⟩ = some u ∧ RV w (.own n1 e1) u F ∧ F.Nodup ∧ ∀ k ∈ F, (if ∃ po q, φ b' = some (k, po, q) then some (b, e * n + j) else ψ k) = some (x, i) ∧ ¬ N k ∧ k < w.heap.size ∧ ¬ Live φ M k := fun x k es1 g1 g2 g3 => by
      obtain ⟨u, F, f1, f2, f3, f4⟩ := hψ x k es1 pb po bn i n1 e1 g1 g2 g3
      refine ⟨u, F, f1, f2, f3, fun q hq => ?_⟩
      obtain ⟨a1, a2, a3, a4⟩ := f4 q hq
      have hnp : ¬ ∃ po q', φ b' = some (q, po, q') := fun ⟨po', q', hp⟩ => a4 ⟨b', _, po', q', hb', hp⟩
      exact ⟨by rw [if_neg hnp]; exact a1, a2, a3, fun hl => a4 (hO q hl)⟩
    rcases (hget x _ h1).2 with ⟨rfl, h4⟩ | ⟨_, h4⟩
    · simp only [Prod.mk.injEq] at h4
      obtain ⟨rfl, rfl⟩ := h4
      obtain ⟨c1, pb', po', c, ty, c2, c3, c4, c5⟩ := hs.mem.at_ x k es _ hb h2
      rw [h2] at c2
      simp at c2
      obtain ⟨rfl, rfl, rfl⟩ := c2
      have hjn : j < bn := by rw [← c1 cs (List.mem_of_getElem? he)]; exact (List.getElem?_eq_some_iff.1 hj).1
      rw [flatten_set1 es bn e j cs _ c1 he hjn, List.getElem?_set] at h3
      split at h3
      · rename_i h5
        split at h3
        · cases h3
          subst h5
          obtain ⟨u, d1, d2, d3⟩ := c5 (e * bn + j) _ (flatten_get c1 he hj)
          obtain ⟨_, F, f1, f2, f3⟩ := hcell u d3
          refine ⟨u, F, cell_of c3 d1, f1, f2, fun q hq => ?_⟩
          obtain ⟨po', q', hp⟩ := f3 q hq
          have hnew := hs.mem.new b' q po' q' hp
          exact ⟨(if_pos ⟨po', q', hp⟩ : (if ∃ po q', φ b' = some (q, po, q') then some (x, e * bn + j) else ψ q) = some (x, e * bn + j)), hnew.1, hnew.2, hdead q po' q' hp⟩
        · cases h3
      · exact hold x bn es hb h2 h3
    · exact hold x k es1 h4 h2 h3

section
variable {P : Program} {C : CEnv} {Q : Exit → VS → Prop} {st s2 : VS}
theorem VW.evalE {id : Nat} {l : List Oper} (t' : List V) (m' : VM) (g' : List V) (hC : C.Ok P) (hg : guardsOk l.toArray l.length none l = true) (h : toSt (veval P C l.toArray l.length none l st) t' m' g') (he : Ent { t := t', m := m', g := g' } s2) (hQ : Q .normal s2) : VW P (.region id l.toArray false) Q st :=
  VW.entPost (VW.evalA t' m' g' hC hg h ⟨_, he, hQ⟩)
theorem VW.evalDE {id : Nat} {l : List Oper} (t' : List V) (m' : VM) (g' : List V) (hC : C.Ok P) (hm : P.follows .mixedOrders = true) (hc : (orderB l && noStore l && guardsOk l.toArray l.length none l) = true) (h : toSt (veval P C l.toArray l.length none l st) t' m' g') (he : Ent { t := t', m := m', g := g' } s2) (hQ : Q .normal s2) : VW P (.region id l.toArray true) Q st :=
  VW.entPost (VW.evalDA t' m' g' hC hm hc h ⟨_, he, hQ⟩)
end

/-- A row of nil slices is one of own slices without elements. -/
theorem Ent.nilown {t g : List V} {m : VM} (b q n' : Nat) (m' : VM) (hb : m[b]? = some (some (1, List.replicate q [.nil]))) (hm' : m.set b (some (1, List.replicate q [.own n' []])) = m') : Ent { t := t, m := m, g := g } { t := t, m := m', g := g } := by
  subst hm'
  intro P N w0 a w φ hs
  have hblt : b < m.length := (List.getElem?_eq_some_iff.1 hb).1
  generalize hM : m.set b (some (1, List.replicate q [.own n' []])) = M
  have hget : ∀ x y, M[x]? = some (some y) → (x = b ∧ y = (1, List.replicate q [.own n' []]) ∨ x ≠ b ∧ m[x]? = some (some y)) := fun x y h => by
    rw [← hM, List.getElem?_set] at h
    split at h
    · rename_i h2
      simp at h; exact .inl ⟨h2.symm, h.symm⟩
    · rename_i h2
      exact .inr ⟨fun e => h2 e.symm, h⟩
  have hO : ∀ k, Live φ M k → Live φ m k := fun k ⟨x, y, po, q, h1, h2⟩ => by
    rcases hget x y h1 with ⟨rfl, _⟩ | ⟨_, h3⟩
    · exact ⟨x, _, po, q, hb, h2⟩
    · exact ⟨x, y, po, q, h3, h2⟩
  have hev : Ev w (Live φ m) φ w (Live φ M) φ := ⟨fun k _ ho => ⟨rfl, fun hl => ho (hO k hl)⟩, fun _ _ h => h, fun _ _ h => h⟩
  have fl : ∀ (v : V) (q : Nat), (List.replicate q [v]).flatten = List.replicate q v := fun v q => by
    induction q with
    | zero => rfl
    | succ q ih => simp [List.replicate_succ, ih]
  refine ⟨φ, hs.defers, hs.size, fun i v hi => ?_, ⟨fun x k es1 p h1 h2 => ?_, hs.mem.new, fun x p h => ?_, hs.mem.inj, ?_⟩, hs.below, hs.start, Sl.ev hev hs.gh, hs.gl⟩
  · obtain ⟨u, u1, u2⟩ := hs.tmps i v hi
    exact ⟨u, u1, u2.ev hev⟩
  · rcases hget x _ h1 with ⟨rfl, h3⟩ | ⟨_, h3⟩
    · simp only [Prod.mk.injEq] at h3
      obtain ⟨rfl, rfl⟩ := h3
      obtain ⟨c1, pb, po, c, ty, c2, c3, c4, c5⟩ := hs.mem.at_ x 1 _ _ hb h2
      refine ⟨fun y hy => by rw [(List.mem_replicate.1 hy).2]; rfl, pb, po, c, ty, c2, c3, by simpa using c4, fun i v hi => ?_⟩
      rw [fl, List.getElem?_replicate] at hi
      split at hi
      · cases hi
        obtain ⟨u, d1, d2, d3⟩ := c5 i .nil (by rw [fl, List.getElem?_replicate, if_pos ‹_›])
        cases d3
        exact ⟨_, d1, d2, .own .slnil⟩
      · cases hi
    · obtain ⟨c1, pb, po, c, ty, c2, c3, c4, c5⟩ := hs.mem.at_ x k es1 _ h3 h2
      exact ⟨c1, pb, po, c, ty, c2, c3, c4, fun i v hi => by
        obtain ⟨u, d1, d2, d3⟩ := c5 i v hi
        exact ⟨u, d1, d2, d3.ev hev⟩⟩
  · have := hs.mem.dom x p h
    rw [← hM]; simpa using this
  · obtain ⟨ψ, hψ⟩ := hs.mem.own
    refine ⟨ψ, fun x k es1 pb po bn i n1 e1 h1 h2 h3 => ?_⟩
    rcases hget x _ h1 with ⟨rfl, h4⟩ | ⟨_, h4⟩
    · simp only [Prod.mk.injEq] at h4
      obtain ⟨rfl, rfl⟩ := h4
      obtain ⟨c1, pb', po', c, ty, c2, c3, c4, c5⟩ := hs.mem.at_ x 1 _ _ hb h2
      rw [h2] at c2
      simp at c2
      obtain ⟨rfl, rfl, rfl⟩ := c2
      rw [fl, List.getElem?_replicate] at h3
      split at h3
      · cases h3
        obtain ⟨u, d1, d2, d3⟩ := c5 i .nil (by rw [fl, List.getElem?_replicate, if_pos ‹_›])
        cases d3
        exact ⟨_, [], cell_of c3 d1, .ownnil, by simp, by simp⟩
      · cases h3
    · obtain ⟨u, F, f1, f2, f3, f4⟩ := hψ x k es1 pb po bn i n1 e1 h4 h2 h3
      exact ⟨u, F, f1, f2, f3, fun q hq => by
        obtain ⟨a1, a2, a3, a4⟩ := f4 q hq
        exact ⟨a1, a2, a3, fun hl => a4 (hO q hl)⟩⟩

theorem succ_ne {k : Int} (h : 0 ≤ k) (h' : 0 ≤ aI .i64 k 1) : (k.toNat = (aI .i64 k 1).toNat) = False := by
  refine eq_false fun he => ?_
  have he' : k = aI .i64 k 1 := by omega
  unfold aI IntKind.wrap at he'
  have e1 : (2 ^ IntKind.i64.bits : Int) = 18446744073709551616 := by decide
  have e2 : (2 ^ (IntKind.i64.bits - 1) : Int) = 9223372036854775808 := by decide
  have e3 : IntKind.i64.signed = true := by decide
  simp only [e1, e2, e3, Bool.true_and, decide_eq_true_eq] at he'
  split at he' <;> omega

/-- Its cells are plain, or own. -/
class Pow {α : Type} (c : α → List V) : Prop where
  po : ∀ x, (c x).all pownV = true
section
variable {α : Type} {c : α → List V} {xs : List α}
@[simp] theorem rows_pow [h : Pow c] : pownE (rows c xs) = true := List.all_eq_true.2 fun x hx => by
  obtain ⟨y, _, rfl⟩ := List.mem_map.1 hx
  exact h.po y
@[simp] theorem rows_keptO [h : Pow c] : keptE (rows c xs) = true := List.all_eq_true.2 fun x hx => List.all_eq_true.2 fun v hv => by
  obtain ⟨y, _, rfl⟩ := List.mem_map.1 hx
  have := List.all_eq_true.1 (h.po y) v hv
  unfold pownV at this
  unfold keptV
  exact this
theorem pown_cellO {v : V} (h : pownV v = true) : cellO v = true := by cases v <;> first | rfl | (cases h; done)
@[simp] theorem rows_powO [h : Pow c] : cellOE (rows c xs) = true := List.all_eq_true.2 fun x hx => List.all_eq_true.2 fun v hv => by
  obtain ⟨y, _, rfl⟩ := List.mem_map.1 hx
  exact pown_cellO (List.all_eq_true.1 (h.po y) v hv)
theorem pown_bnd {k : Nat} {v : V} (h : pownV v = true) : bndV k v = true := by cases v <;> first | rfl | (cases h; done)
theorem pown_noB {k : Nat} {v : V} (h : pownV v = true) : noBV k v = true := by cases v <;> first | rfl | (cases h; done)
@[simp] theorem rows_pbnd [h : Pow c] {k : Nat} : ((rows c xs).all fun x => x.all (bndV k)) = true := List.all_eq_true.2 fun x hx => List.all_eq_true.2 fun v hv => by
  obtain ⟨y, _, rfl⟩ := List.mem_map.1 hx
  exact pown_bnd (List.all_eq_true.1 (h.po y) v hv)
@[simp] theorem rows_pnoB [h : Pow c] {b : Nat} : noBE b (rows c xs) = true := List.all_eq_true.2 fun x hx => List.all_eq_true.2 fun v hv => by
  obtain ⟨y, _, rfl⟩ := List.mem_map.1 hx
  exact pown_noB (List.all_eq_true.1 (h.po y) v hv)
@[simp] theorem rows_set_bnd [h : Pow c] {k b i n : Nat} (hb : b < k) : (((rows c xs).set i [.ref b 0 n]).all fun x => x.all (bndV k)) = true := List.all_eq_true.2 fun x hx => by
  rcases List.mem_or_eq_of_mem_set hx with h1 | rfl
  · exact List.all_eq_true.1 (rows_pbnd (c := c) (xs := xs) (k := k)) x h1
  · simp [bndV, hb]
@[simp] theorem rows_set_noB [h : Pow c] {k b i n : Nat} (hb : b ≠ k) : noBE k ((rows c xs).set i [.ref b 0 n]) = true := List.all_eq_true.2 fun x hx => by
  rcases List.mem_or_eq_of_mem_set hx with h1 | rfl
  · exact List.all_eq_true.1 (rows_pnoB (c := c) (xs := xs) (b := k)) x h1
  · simp [noBV, hb]
@[simp] theorem noBV_own {b n : Nat} {es : List (List V)} : noBV b (.own n es) = true := rfl
attribute [simp] List.take_of_length_le
end
end Go.VL
