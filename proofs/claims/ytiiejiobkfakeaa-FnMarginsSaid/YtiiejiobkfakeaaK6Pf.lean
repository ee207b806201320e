/- Plain laws: one more of need, and the least store, in seasons that are drawn. -/
import Derived.Test.YtiiejiobkfakeaaK6Pd
import Derived.Test.YtiiejiobkfakeaaK6Pm
import Derived.Test.YtiiejiobkfakeaaK6Py
import Derived.Test.YtiiejiobkfakeaaK6Px
import Derived.Test.YtiiejiobkfakeaaK6Pw
import Derived.Test.YtiiejiobkfakeaaK6c
namespace Go.Proofs.Ytiiejiobkfakeaa
open Go.VL
set_option linter.unusedSimpArgs false
set_option linter.unusedVariables false

section
variable {s t : T30}
theorem keep_mono {L h1 h2 : Int} (l0 : 0 ≤ L) (l1 : L ≤ 100) (h0 : 0 ≤ h1) (h : h1 ≤ h2) : h1 - (h1 * L).tdiv 100 ≤ h2 - (h2 * L).tdiv 100 := by
  have a0 : 0 ≤ h1 * L := Int.mul_nonneg h0 l0
  have b0 : 0 ≤ h2 * L := Int.mul_nonneg (by omega) l0
  rw [Int.tdiv_eq_ediv_of_nonneg a0, Int.tdiv_eq_ediv_of_nonneg b0]
  have e : h2 * L = h1 * L + (h2 - h1) * L := by rw [← Int.add_mul]; congr 1; omega
  have f : (h2 - h1) * L ≤ (h2 - h1) * 100 := Int.mul_le_mul_of_nonneg_left l1 (by omega)
  omega

theorem aft_mono (hv : Valid s) (hy : t.yield_ = s.yield_) (hl : t.loss_ = s.loss_) (hst : t.store_ = s.store_) {k : Nat} (hn : nd s k ≤ nd t k) {i i' x v' : Int} (h : i' ≤ i) (ha : aft t k i' x = some v') : ∃ v, aft s k i x = some v ∧ v' ≤ v := by
  unfold aft at ha ⊢
  have hle : left t k i' x ≤ left s k i x := by unfold left; rw [hy]; omega
  split at ha
  · cases ha
  · rename_i hge
    rw [if_neg (by omega)]
    refine ⟨_, rfl, ?_⟩
    have := keep_mono hv.loss0 hv.loss1 (h1 := left t k i' x) (h2 := left s k i x) (by omega) hle
    have e := Option.some.inj ha
    rw [← e, hl, hst]
    unfold minI
    split <;> split <;> omega

theorem tab_mono (hv : Valid s) (hv' : Valid t) (hy : t.yield_ = s.yield_) (hl : t.loss_ = s.loss_) (hst : t.store_ = s.store_) (hm : t.most_ = s.most_) (hp : t.price_ = s.price_) (hlen : t.need_.length = s.need_.length) (hn : ∀ k, nd s k ≤ nd t k)
    {T T' : List (List Int)} (h : TabOk s T 0) (h' : TabOk t T' 0) : ∀ (d : Nat), d ≤ s.need_.length → ∀ i i', 0 ≤ i' → i' ≤ i → i ≤ s.store_ → cellAt T' (s.need_.length - d) i' ≠ -1 → cellAt T (s.need_.length - d) i ≠ -1 ∧ cellAt T (s.need_.length - d) i ≤ cellAt T' (s.need_.length - d) i' := by
  intro d
  induction d with
  | zero =>
    intro _ i i' h0 h1 h2 hne
    rw [Nat.sub_zero] at hne ⊢
    rw [h.last i (by omega) h2]
    have := h'.last i' h0 (by rw [hst]; omega)
    rw [hlen] at this
    rw [this]
    exact ⟨by omega, Int.le_refl _⟩
  | succ d ih =>
    intro hd i i' h0 h1 h2 hne
    have hk : s.need_.length - (d + 1) + 1 = s.need_.length - d := by omega
    generalize hK : s.need_.length - (d + 1) = k at *
    obtain ⟨hb, _⟩ := h'.cell k (by omega) (by omega) i' h0 (by rw [hst]; omega)
    rcases hb with hb | ⟨_, x, v', hx0, hx1, ha, hne', hc⟩
    · exact absurd hb hne
    · obtain ⟨v, ha2, hle⟩ := aft_mono hv hy hl hst (hn k) h1 ha
      rw [hk] at hne' hc
      have hr' := aft_range hv' ha
      have hr := aft_range hv ha2
      obtain ⟨j1, j2⟩ := ih (by omega) v v' hr'.1 hle hr.2 hne'
      rw [← hk] at j1
      obtain ⟨q1, q2⟩ := (h.cell k (by omega) (by omega) i (by omega) h2).low x v hx0 (by rw [← hm]; exact hx1) ha2 j1
      refine ⟨q1, ?_⟩
      rw [hk] at q2
      have hpr : pr t k = pr s k := by unfold pr; rw [hp]
      rw [hpr] at hc
      omega

/-- Both ways to the cheapest plan. -/
theorem plan_of (hv : Valid s) (hs : Small s) : ∃ T l l', g48 s = some T ∧ TabOk s T 0 ∧ idx T 0 = some (T.getD 0 []) ∧ idx (T.getD 0 []) s.first_ = some (cellAt T 0 s.first_) ∧ g46 s = some (l', cellAt T 0 s.first_) ∧ g27 s = some (if cellAt T 0 s.first_ = -1 then ([], 0, 6) else (l, cellAt T 0 s.first_, 0)) := by
  obtain ⟨T, t1, hT⟩ := tab_ok hv
  obtain ⟨T2, t2, t3, hR⟩ := values_eq hv
  rw [t1] at t2
  cases t2
  obtain ⟨h0, h1, f1, f2⟩ := first_of hv hR
  obtain ⟨l, l1, l2, l3⟩ := plan_rel hv hR
  have hc : T[0][s.first_.toNat] = cellAt T 0 s.first_ := cellAt_eq h0 h1
  rw [hc] at f2
  have hd : T.getD 0 [] = T[0] := by simp [List.getD, h0]
  obtain ⟨b2, e2, i2⟩ := g42_eq hs
  refine ⟨T, l, if cellAt T 0 s.first_ = -1 then [] else l, t1, hT, by rw [hd]; exact f1, by rw [hd]; exact f2, ?_, ?_⟩
  · unfold g46 g46_j1
    rw [t3, Option.bind_some, f1, Option.bind_some, f2, Option.bind_some]
    by_cases hm : cellAt T 0 s.first_ = -1
    · rw [if_pos (by simp [eqI, hm]), if_pos hm]
    · rw [if_neg (by simp [eqI, hm]), l1, Option.bind_some, if_neg hm]
  · unfold g27
    rw [e2, Option.bind_some, i2.2 hv, if_neg (by simp), t1, Option.bind_some, f1, Option.bind_some, f2, Option.bind_some]
    by_cases hm : cellAt T 0 s.first_ = -1
    · rw [if_pos (by simp [eqI, hm]), if_pos hm]
    · rw [if_neg (by simp [eqI, hm]), l2, Option.bind_some, if_neg hm]
      unfold g27_j1
      rw [f1, Option.bind_some, f2, Option.bind_some]

def atStore (s : T30) (k : Int) : T30 := ⟨s.need_, s.price_, s.most_, s.yield_, k, s.first_, s.loss_⟩
def Stuck (s : T30) : Prop := g27 s = some ([], 0, 6)
def Goes (s : T30) : Prop := ∃ l c, g27 s = some (l, c, 0)

theorem plan_cost (hv : Valid s) (hs : Small s) : ∃ l c, g46 s = some (l, c) ∧ (c = -1 → Stuck s) ∧ (c ≠ -1 → Goes s) := by
  obtain ⟨T, l, l', t1, _, _, _, t3, t4⟩ := plan_of hv hs
  refine ⟨l', _, t3, fun h => ?_, fun h => ?_⟩
  · unfold Stuck; rw [t4, if_pos h]
  · refine ⟨l, cellAt T 0 s.first_, ?_⟩; rw [t4, if_neg h]

theorem least_of (hv : Valid s) (hs : Small s) : ∃ r, g28 s = some r ∧ g29 s = some r ∧ ((r = (0, 6) ∧ ∀ k, s.first_ ≤ k → k ≤ 60 → Stuck (atStore s k)) ∨ (r.2 = 0 ∧ s.first_ ≤ r.1 ∧ r.1 ≤ 60 ∧ Goes (atStore s r.1) ∧ ∀ k, s.first_ ≤ k → k < r.1 → Stuck (atStore s k))) := by
  obtain ⟨r, r2, r1⟩ := least_eq hs
  refine ⟨r, r1, r2, ?_⟩
  have f0 := hv.first0
  have f1 := hv.first1
  have s1 := hv.store1
  obtain ⟨b, e1, i1⟩ := g39_eq hs
  unfold g29 at r2
  rw [e1, Option.bind_some, i1.2 hv, if_neg (by simp)] at r2
  obtain ⟨q, h1, h2⟩ := loopO_rule (body := g29_L1 s) (fun z => (61 - z.1).toNat) (fun z => s.first_ ≤ z.1 ∧ z.1 ≤ 61 ∧ ∀ k, s.first_ ≤ k → k < z.1 → Stuck (atStore s k))
    (fun q => match q with
      | .inl _ => ∀ k, s.first_ ≤ k → k ≤ 60 → Stuck (atStore s k)
      | .inr p => p.2 = 0 ∧ s.first_ ≤ p.1 ∧ p.1 ≤ 60 ∧ Goes (atStore s p.1) ∧ ∀ k, s.first_ ≤ k → k < p.1 → Stuck (atStore s k))
    (fun z ⟨a1, a2, a3⟩ => by
      obtain ⟨k, y⟩ := z
      simp only at a1 a2 a3
      rw [g29_L1]
      by_cases hk : k ≤ 60
      · rw [if_pos (by simp [leI]; omega)]
        obtain ⟨l, c, e, c1, c2⟩ := plan_cost (valid_store hv a1 hk) hs
        rw [e, Option.bind_some]
        by_cases hc : c = -1
        · left
          rw [if_neg (by simp [eqI, hc]), aI64 (by omega) (by omega)]
          refine ⟨_, rfl, ⟨by simp only; omega, by simp only; omega, fun j j0 j1 => ?_⟩, by simp only; omega⟩
          by_cases hj : j = k
          · rw [hj]; exact c1 hc
          · exact a3 j j0 (by simp only at j1; omega)
        · right
          rw [if_pos (by simp [eqI, hc])]
          exact ⟨_, rfl, rfl, a1, hk, c2 hc, a3⟩
      · right
        rw [if_neg (by simp [leI]; omega)]
        exact ⟨_, rfl, fun j j0 j1 => a3 j j0 (by omega)⟩) (s := (s.first_, s.store_)) ⟨Int.le_refl _, by simp only; omega, fun k k0 k1 => by simp only at k1; omega⟩
  rw [h1, Option.bind_some] at r2
  cases q with
  | inl y =>
    have : r = (0, 6) := (Option.some.inj r2).symm
    exact .inl ⟨this, h2⟩
  | inr p =>
    have : r = p := (Option.some.inj r2).symm
    subst this
    exact .inr h2

theorem law6 (code more : List Int) (hc : code.length ≤ maxLen ∧ (∀ y ∈ code, (Lit.int .u8 y).wf = true)) (hm : more.length ≤ maxLen ∧ (∀ y ∈ more, (Lit.int .u8 y).wf = true)) : g6 code more = some true := by
  have bytes : ∀ l : List Int, (∀ y ∈ l, (Lit.int .u8 y).wf = true) → ∀ y ∈ l, 0 ≤ y ∧ y ≤ 255 := fun l h y hy => by
    have h1 := h y hy
    simp only [Lit.wf, decide_eq_true_eq, Bool.and_eq_true] at h1
    have e1 : IntKind.u8.min = 0 := by decide
    have e2 : IntKind.u8.max = 255 := by decide
    rw [e1, e2] at h1
    exact h1
  unfold g6
  have h22 : g22 code more = some (ltI 3000 (code.length : Int) || ltI 3000 (more.length : Int)) := rfl
  rw [h22, Option.bind_some]
  cases hlong : (ltI 3000 (code.length : Int) || ltI 3000 (more.length : Int))
  rotate_left
  · rw [if_pos rfl]
  rw [if_neg (by simp)]
  simp [ltI] at hlong
  obtain ⟨s, e23, hv, hsmall⟩ := season_eq (bytes _ hc.2) (by omega)
  have n1 := hv.n1
  have n2 := hv.n2
  have f0 := hv.first0
  have f1 := hv.first1
  have st1 := hv.store1
  have hs : Small s := ⟨by omega, by have := hv.pl; omega⟩
  rw [e23, Option.bind_some]
  obtain ⟨p, e24, p0, p1⟩ := at_eq (bytes _ hm.2) (n := (s.need_.length : Int)) (by omega) (by omega)
  rw [e24, Option.bind_some]
  have hlt : p.toNat < s.need_.length := by omega
  obtain ⟨r, m2, m1⟩ := margin_eq hs p
  have hb := hv.need _ (List.getElem_mem hlt)
  have hb2 := hsmall _ (List.getElem_mem hlt)
  have hne : s.need_[p.toNat] ≠ 200 := by omega
  have hvt := valid_more hv hlt hne
  obtain ⟨T, l, l0, t1, hT, i1, i2, _, t4⟩ := plan_of hv hs
  obtain ⟨T', l', l0', t1', hT', i1', i2', _, t4'⟩ := plan_of hvt ⟨by simpa using hs.1, hs.2⟩
  have ha : aI .i64 s.need_[p.toNat] 1 = s.need_[p.toNat] + 1 := aI64 (by omega) (by omega)
  have happ : appK 8 [] s.need_ = some () := appK_of (by simp; omega) (by simp; omega)
  rw [m1, Option.bind_some, m2, Option.bind_some, t4, Option.bind_some, happ, Option.bind_some, idx_of p0 hlt, Option.bind_some, ha, t4', Option.bind_some]
  -- what the margin is
  have hr : r = if cellAt T 0 s.first_ = -1 then (0, 6) else if cellAt T' 0 s.first_ = -1 then (0, 4) else (sI .i64 (cellAt T' 0 s.first_) (cellAt T 0 s.first_), 0) := by
    obtain ⟨b2, e2, q2⟩ := g42_eq hs
    unfold g25 at m1
    have c2 : (ltI p 0 || leI (s.need_.length : Int) p) = false := by rw [Bool.eq_false_iff]; simp [ltI, leI]; omega
    have hq : eqI s.need_[p.toNat] 200 = false := by simp [eqI]; exact hne
    rw [e2, Option.bind_some, q2.2 hv, if_neg (by simp), c2] at m1
    simp only [Bool.false_eq_true, if_false, idx_of p0 hlt, Option.bind_some, hq, t1, i1, i2, happ, ha] at m1
    by_cases h1 : cellAt T 0 s.first_ = -1
    · rw [if_pos (by simp [eqI, h1])] at m1
      rw [if_pos h1]
      exact (Option.some.inj m1).symm
    · rw [if_neg (by simp [eqI, h1]), t1', Option.bind_some, i1', Option.bind_some] at m1
      simp only at i2'
      rw [i2', Option.bind_some] at m1
      rw [if_neg h1]
      by_cases h2 : cellAt T' 0 s.first_ = -1
      · rw [if_pos (by simp [eqI, h2])] at m1
        rw [if_pos h2]
        exact (Option.some.inj m1).symm
      · rw [if_neg (by simp [eqI, h2])] at m1
        rw [if_neg h2]
        exact (Option.some.inj m1).symm
  have hsame : ((!eqI r.2 r.2) || (!eqI r.1 r.1)) = false := by simp [eqI]
  rw [hsame, if_neg (by simp)]
  have hbT := hT.bnd 0 (Nat.le_refl _) (by omega) s.first_ f0 f1
  have hbT' := hT'.bnd 0 (Nat.le_refl _) (by omega) s.first_ f0 f1
  simp only [List.length_set] at hbT'
  have hmono : cellAt T' 0 s.first_ ≠ -1 → cellAt T 0 s.first_ ≠ -1 ∧ cellAt T 0 s.first_ ≤ cellAt T' 0 s.first_ := by
    have := tab_mono hv hvt rfl rfl rfl rfl rfl (by simp) (fun k => by
      unfold nd
      simp only [List.getD, List.getElem?_set]
      by_cases hk : p.toNat = k
      · subst hk
        simp [hlt]
        omega
      · simp [hk]) hT hT' s.need_.length (Nat.le_refl _) s.first_ s.first_ f0 (Int.le_refl _) f1
    rw [Nat.sub_self] at this
    exact this
  have hbad : (((eqI r.2 0 && ((((!eqI (if cellAt T 0 s.first_ = -1 then ([], 0, 6) else (l, cellAt T 0 s.first_, 0) : List Int × Int × Int).2.2 0) || (!eqI (if cellAt T' 0 s.first_ = -1 then ([], 0, 6) else (l', cellAt T' 0 s.first_, 0) : List Int × Int × Int).2.2 0)) || (!eqI (sI .i64 (if cellAt T' 0 s.first_ = -1 then ([], 0, 6) else (l', cellAt T' 0 s.first_, 0) : List Int × Int × Int).2.1 (if cellAt T 0 s.first_ = -1 then ([], 0, 6) else (l, cellAt T 0 s.first_, 0) : List Int × Int × Int).2.1) r.1)) || ltI r.1 0)) || (eqI r.2 6 && (!eqI (if cellAt T 0 s.first_ = -1 then ([], 0, 6) else (l, cellAt T 0 s.first_, 0) : List Int × Int × Int).2.2 6))) || (eqI r.2 4 && ((!eqI (if cellAt T 0 s.first_ = -1 then ([], 0, 6) else (l, cellAt T 0 s.first_, 0) : List Int × Int × Int).2.2 0) || (!eqI (if cellAt T' 0 s.first_ = -1 then ([], 0, 6) else (l', cellAt T' 0 s.first_, 0) : List Int × Int × Int).2.2 6)))) = false := by
    rw [hr]
    by_cases h1 : cellAt T 0 s.first_ = -1
    · simp [h1, eqI]
    · by_cases h2 : cellAt T' 0 s.first_ = -1
      · simp [h1, h2, eqI]
      · obtain ⟨_, h3⟩ := hmono h2
        have hsub : sI .i64 (cellAt T' 0 s.first_) (cellAt T 0 s.first_) = cellAt T' 0 s.first_ - cellAt T 0 s.first_ := sI64 (by omega) (by omega)
        simp [h1, h2, eqI, ltI, hsub]
        omega
  simp only at hbad ⊢
  rw [hbad, if_neg (by simp)]
  obtain ⟨q, g28e, g29e, hq⟩ := least_of hv hs
  rw [g28e, Option.bind_some, g29e, Option.bind_some]
  have hsame' : ((!eqI q.2 q.2) || (!eqI q.1 q.1)) = false := by simp [eqI]
  rw [hsame', if_neg (by simp)]
  rcases hq with ⟨rfl, hstk⟩ | ⟨q1, q2, q3, q4, q5⟩
  · have : Stuck s := hstk s.store_ f1 st1
    unfold Stuck at this
    rw [t4] at this
    have e := Option.some.inj this
    rw [if_pos (by simp [eqI]), e]
    simp [eqI]
  · rw [if_neg (by simp [eqI, q1])]
    obtain ⟨l1, c1, e1⟩ := q4
    unfold atStore at e1
    rw [e1, Option.bind_some, if_neg (by simp [eqI])]
    by_cases hlt2 : s.first_ < q.1
    · rw [if_pos (by simp [ltI]; omega), sI64 (by omega) (by omega)]
      have := q5 (q.1 - 1) (by omega) (by omega)
      unfold Stuck atStore at this
      rw [this, Option.bind_some]
      simp [eqI]
    · rw [if_neg (by simp [ltI]; omega)]
end
end Go.Proofs.Ytiiejiobkfakeaa
