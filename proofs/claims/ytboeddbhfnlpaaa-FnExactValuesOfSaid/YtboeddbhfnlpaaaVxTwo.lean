/- Regions that draw their order, whose last operation waits for all the others, and in which one more may write. -/
import Derived.Test.YtboeddbhfnlpaaaVxInM
namespace Go.VL
open Go.RowKit
set_option linter.unusedSimpArgs false
set_option linter.unusedVariables false

section
variable {P : Program} {ops : Array Oper} {tr : List Row} {t0 : List V}

theorem draw_two {Q : Exit → VS → Prop} {g0 : List V} {N : Fr} {w0 : World × List Value} {k0 n p : Nat} {last po : Oper} {M0 M1 : VM} {ty : TypeId} {sx sy : Operand} (hlex : orderB ops.toList = true) (hsz0 : ops.size = n + 1) (hlen : tr.length = n) (hlast : ops[n]? = some last)
    (hwait : ∀ i, i < n → ∃ e ∈ last.after, Region.binds .any e = true ∧ e.on = i)
    (hpn : p < n) (hpo : ops[p]? = some po) (hpg : po.guard = none) (hst : po.op = .store ty sx sy) (hpr : ∀ r, tr[p]? = some r → r.1 = .any) (hvs : vstore P M0 ty (ev (TL ops tr t0 (fun _ => true) p) sx) (ev (TL ops tr t0 (fun _ => true) p) sy) = some M1)
    (hrows : ∀ (j : Nat) (o : Oper) (r : Row), j ≠ p → ops[j]? = some o → tr[j]? = some r → RowOk P ops M0 tr t0 j o r) (hrows1 : ∀ (j : Nat) (o : Oper) (r : Row), j ≠ p → (¬ ∃ e ∈ po.after, Region.binds .any e = true ∧ e.on = j) → ops[j]? = some o → tr[j]? = some r → RowOk P ops M1 tr t0 j o r) (hk0 : ∀ (j : Nat) (r : Row), tr[j]? = some r → k0 ≤ r.2.1) (hdis : ∀ (i j : Nat) (r s : Row), i < j → tr[i]? = some r → tr[j]? = some s → r.2.1 + r.2.2 ≤ s.2.1)
    (hQ : VL P ops Q [last] { t := TL ops tr t0 (fun _ => true) n, m := M1, g := g0 }) :
    ∀ (fuel : Nat) (listed : Array Bool) (L : Nat → Bool), listed.size = ops.size → (∀ j, j < ops.size → listed.getD j true = L j) → (List.range ops.size).countP (fun j => !L j) = fuel → L n = false →
      (∀ j oj, L j = true → ops[j]? = some oj → ∀ e ∈ oj.after, Region.binds .any e = true → L e.on = true) →
      ∀ (a : Act) (w : World) (φ : Pl), SR P N w0 { t := TL ops tr t0 L ops.size, m := if L p = true then M1 else M0, g := g0 } a w φ → Dom tr k0 L φ →
        wpAny P .any ops (fun e a' w' => ∃ st' φ', Q e st' ∧ SR P N w0 st' a' w' φ') fuel listed a w := by
  have spec := orderB_spec hlex
  have hn0 : n < ops.size := by omega
  have allL : ∀ (listed : Array Bool) (L : Nat → Bool), listed.size = ops.size → (∀ j, j < ops.size → listed.getD j true = L j) → Region.ready .any ops listed = [] → ∀ j, j < ops.size → L j = true := by
    intro listed L hsz hL hr j
    induction j using Nat.strongRecOn with
    | ind j ih =>
      intro hj
      cases hLj : L j with
      | true => rfl
      | false =>
        exfalso
        obtain ⟨oj, hoj⟩ : ∃ oj, ops[j]? = some oj := ⟨ops[j], by simp [hj]⟩
        have : j ∈ Region.ready .any ops listed := mem_ready.2 ⟨(hL j hj).trans hLj, oj, hoj, fun e he hb => by
          have hlt := (spec j oj hoj).1 e he hb
          have h1 := ih e.on hlt (by omega)
          rw [← hL e.on (by omega)] at h1
          have : e.on < listed.size := by omega
          simpa [this] using h1⟩
        rw [hr] at this
        cases this
  intro fuel
  induction fuel with
  | zero =>
    intro listed L hsz hL hc hLn hW a w φ hs hd
    have := List.countP_eq_zero.1 hc n (List.mem_range.2 hn0)
    rw [hLn] at this
    simp at this
  | succ fuel ih =>
    intro listed L hsz hL hc hLn hW a w φ hs hd
    refine ⟨fun hr => ?_, fun i hi => ?_⟩
    · have := allL listed L hsz hL hr n hn0
      rw [hLn] at this
      cases this
    obtain ⟨b1, o, hoi, b3⟩ := mem_ready.1 hi
    have hlt := (Array.getElem?_eq_some_iff.1 hoi).1
    have hLi : L i = false := by rw [← hL i hlt]; exact b1
    have hready : ∀ e ∈ o.after, Region.binds .any e = true → L e.on = true := fun e he hb => by
      have h1 := b3 e he hb
      have hlt' : e.on < ops.size := Nat.lt_trans ((spec i o hoi).1 e he hb) hlt
      have h2 := hL e.on hlt'
      have : e.on < listed.size := by omega
      simp [this] at h1 h2
      rw [h1] at h2
      exact h2.symm
    by_cases hin : i = n
    · subst hin
      rw [hlast] at hoi
      cases hoi
      have hall : ∀ j, j < i → L j = true := fun j hj => by
        obtain ⟨e, he, hb, heq⟩ := hwait j hj
        rw [← heq]; exact hready e he hb
      have htl : TL ops tr t0 L ops.size = TL ops tr t0 (fun _ => true) i := by
        have e1 : ∀ m, m ≤ i → TL ops tr t0 L m = TL ops tr t0 (fun _ => true) m := by
          intro m
          induction m with
          | zero => intro _; rfl
          | succ m ih => intro hle; simp only [TL, ih (by omega), hall m (by omega)]
        rw [hsz0, ← e1 i (Nat.le_refl _)]
        have : tr[i]? = none := List.getElem?_eq_none (by omega)
        simp only [TL, this]
        split <;> first | rfl | (rename_i h; cases h)
      rw [htl, if_pos (hall p hpn)] at hs
      have hq := hQ N w0 a w φ hs
      have hc0 : fuel = 0 := by
        have h0 := count_put hLi ops.size hlt
        have h1 : (List.range ops.size).countP (fun j => !(L j || j == i)) = 0 := by
          refine List.countP_eq_zero.2 fun j hj => ?_
          have hj' := List.mem_range.1 hj
          by_cases hji : j = i
          · subst hji; simp
          · rw [hall j (by omega)]; simp
        omega
      subst hc0
      unfold wpOp
      simp only [hlast]
      have hfin : ∀ a' w', (∃ st' φ', Q .normal st' ∧ SR P N w0 st' a' w' φ') → wpAny P .any ops (fun e a' w' => ∃ st' φ', Q e st' ∧ SR P N w0 st' a' w' φ') 0 (listed.setIfInBounds i true) a' w' := fun a' w' h => by
        refine ⟨?_, h⟩
        cases hr : Region.ready .any ops (listed.setIfInBounds i true) with
        | nil => rfl
        | cons j rest =>
          exfalso
          have hj : j ∈ Region.ready .any ops (listed.setIfInBounds i true) := by rw [hr]; simp
          obtain ⟨c1, oj, c2, c3⟩ := mem_ready.1 hj
          have hjs := (Array.getElem?_eq_some_iff.1 c2).1
          by_cases hji : i = j
          · subst hji
            have : i < listed.size := by omega
            simp [this] at c1
          · rw [getD_set_ne true hji, hL j hjs, hall j (by omega)] at c1
            cases c1
      unfold wpList at hq
      split at hq
      · rename_i hwant
        rw [if_pos hwant]
        rcases hq with hq | hq
        · exact .inl (Oper.wp_mono (fun a' w' h => hfin a' w' h) hq)
        · exact .inr hq
      · rename_i hwant
        rw [if_neg hwant]
        exact hfin _ _ hq
    have hin' : i < n := by omega
    obtain ⟨r, hri⟩ : ∃ r, tr[i]? = some r := ⟨tr[i]'(by omega), by simp [show i < tr.length by omega]⟩
    -- earlier ones that have not been carried out are apart
    have early : ∀ j oj, j < i → ops[j]? = some oj → L j = false → oj.apart ops o = true := fun j oj hj hoj hLj => by
      rcases (spec j oj hoj).2 i o hj hoi with ⟨e, he, hb, heq⟩ | h
      · have := hready e he hb
        rw [heq, hLj] at this
        cases this
      · exact h
    have late : ∀ j oj, i < j → ops[j]? = some oj → L j = true → o.apart ops oj = true := fun j oj hj hoj hLj => by
      rcases (spec i o hoi).2 j oj hj hoj with ⟨e, he, hb, heq⟩ | h
      · have := hW j oj hLj hoj e he hb
        rw [heq, hLi] at this
        cases this
      · exact h
    have agree : ∀ d, d ∈ o.looksAt ops → (TL ops tr t0 L ops.size)[d]? = (TL ops tr t0 (fun _ => true) i)[d]? := fun d hd =>
      TL_agree (fun j oj hj hoj hjd => by
        cases hLj : L j with
        | true => rfl
        | false => exact absurd hd ((Oper.apart_spec (early j oj hj hoj hLj)).1 d hjd)) (Nat.le_of_lt hlt) fun j oj hj hjn hLj hoj hjd => by
        by_cases hji : i = j
        · subst hji; rw [hLi] at hLj; cases hLj
        · exact (Oper.apart_spec (late j oj (by omega) hoj hLj)).2.2 d hjd hd
    obtain ⟨e1, e2⟩ := eval_agree (ops := ops) agree
    have hput : TL ops tr t0 (fun x => L x || x == i) ops.size = putV (TL ops tr t0 L ops.size) o.dst r.1 :=
      TL_put hoi hri hLi hlt fun j oj h1 h2 h3 h4 d hd => (Oper.apart_spec (late j oj h1 h4 h3)).2.1 d hd
    have cont : ∀ (a' : Act) (w' : World) (φ' : Pl), SR P N w0 { t := putV (TL ops tr t0 L ops.size) o.dst r.1, m := if (L p || p == i) = true then M1 else M0, g := g0 } a' w' φ' → Dom tr k0 (fun x => L x || x == i) φ' →
        wpAny P .any ops (fun e a' w' => ∃ st' φ', Q e st' ∧ SR P N w0 st' a' w' φ') fuel (listed.setIfInBounds i true) a' w' := fun a' w' φ' hs' hd' => by
      refine ih (listed.setIfInBounds i true) (fun x => L x || x == i) (by simp [hsz]) (fun j hj => ?_) ?_ ?_ (fun j oj hLj hoj e he hb => ?_) a' w' φ' (by rw [hput]; exact hs') hd'
      · by_cases hij : i = j
        · subst hij
          have : i < listed.size := by omega
          simp [this]
        · rw [getD_set_ne true hij, hL j hj]
          simp [show (j == i) = false by simp; omega]
      · have := count_put hLi ops.size hlt
        omega
      · simp only [hLn, Bool.false_or]
        simp; omega
      · by_cases hij : j = i
        · subst hij
          rw [hoi] at hoj
          cases hoj
          simp [hready e he hb]
        · have hLj' : L j = true := by simpa [hij] using hLj
          simp [hW j oj hLj' hoj e he hb]
    unfold wpOp
    simp only [hoi]
    have hmono : ∀ φ', (∀ b p, φ' b = some p → φ b = some p ∨ (r.2.1 ≤ b ∧ b < r.2.1 + r.2.2)) → Dom tr k0 (fun x => L x || x == i) φ' := fun φ' h b p hb => by
      rcases h b p hb with h | ⟨h1, h2⟩
      · rcases hd b p h with h | ⟨j, s, a1, a2, a3, a4⟩
        · exact .inl h
        · exact .inr ⟨j, s, by simp [a1], a2, a3, a4⟩
      · exact .inr ⟨i, r, by simp, hri, h1, h2⟩
    by_cases hip : i = p
    · subst hip
      rw [hpo] at hoi
      cases hoi
      have hw : vwanted ops (TL ops tr t0 L ops.size) po = some true := by unfold vwanted; rw [hpg]
      rw [vwanted_sound hw hs, if_pos rfl]
      left
      rw [hLi, if_neg (by simp)] at hs
      have ex : ev (TL ops tr t0 L ops.size) sx = ev (TL ops tr t0 (fun _ => true) i) sx := e1 sx (by rw [hst]; simp [Op.operands])
      have ey : ev (TL ops tr t0 L ops.size) sy = ev (TL ops tr t0 (fun _ => true) i) sy := e1 sy (by rw [hst]; simp [Op.operands])
      obtain ⟨w', h1, h2, h3, h4⟩ := vstore_sound (by rw [← ex, ← ey] at hvs; exact hvs) (hs.eval sx) (hs.eval sy) hs.mem
      unfold Oper.wp
      have hrun : (execOp a.eval po).run P w = .ok .skip w' := by simp [execOp, hst, h1]
      rw [hrun, Oper.upon_skip]
      refine cont _ _ φ ?_ (hmono φ fun b p hb => .inl hb)
      rw [if_pos (by simp), hpr r hri]
      exact hs.put .any h2 h3 h4
    have hpi : (p == i) = false := by simp; exact fun e => hip e.symm
    rw [hpi, Bool.or_false] at cont
    have hrow : RowOk P ops (if L p = true then M1 else M0) tr t0 i o r := by
      by_cases hLp : L p = true
      · rw [if_pos hLp]
        refine hrows1 i o r hip (fun ⟨e, he, hb, heq⟩ => ?_) hoi hri
        have := hW p po hLp hpo e he hb
        rw [heq, hLi] at this
        cases this
      · rw [if_neg hLp]
        exact hrows i o r hip hoi hri
    rcases hrow with ⟨hw, hr1, hr2⟩ | ⟨hw, ho⟩
    · rw [vwanted_sound (e2.trans hw) hs, if_neg (by simp)]
      refine cont _ w φ ?_ (hmono φ fun b p hb => .inl hb)
      rw [hr1]
      exact hs.put S.und hs.mem (Ev.refl _ _ _) (Bel.refl _ _)
    · rw [vwanted_sound (e2.trans hw) hs, if_pos rfl]
      left
      refine ho N a w φ _ _ hs.start hs.glob hs.mem (fun x hx => by rw [← e1 x hx]; exact hs.eval x) (fun x hx => ?_) fun u w' φ' h1 h2 h3 h4 h5 => cont _ w' φ' (hs.put h1 h2 h3 h4) (hmono φ' h5)
      cases hφ : φ (r.2.1 + x) with
      | none => rfl
      | some p =>
        exfalso
        rcases hd _ p hφ with h | ⟨j, s, a1, a2, a3, a4⟩
        · have := hk0 i r hri
          omega
        · rcases Nat.lt_trichotomy i j with h | h | h
          · have := hdis i j r s h hri a2; omega
          · subst h; rw [hLi] at a1; cases a1
          · have := hdis j i s r h a2 hri; omega


/-- Simple operations in the text's order: those of U look at m0 only. -/
def vs0 (P : Program) (U : List Nat) (m0 : VM) : Nat → List Oper → VS → Option VS
  | _, [], st => some st
  | j, o :: l, st => match o.guard with
    | some _ => none
    | none => match vq P (if memN j U = true then m0 else st.m) (ev st.t) o.op with
      | some v => vs0 P U m0 (j + 1) l { t := putV st.t o.dst v, m := st.m, g := st.g }
      | none => if memN j U = true then none else match valloc P st.m.length (ev st.t) o.op with
        | some (v, n, es) => vs0 P U m0 (j + 1) l { t := putV st.t o.dst v, m := st.m ++ [some (n, es)], g := st.g }
        | none => none

/-- What they tell. -/
inductive D2 (P : Program) (ops : Array Oper) (M0 M1 : VM) (U : List Nat) : Nat → List Oper → List V → Nat → List Row → List V → Prop
  | nil {j k : Nat} {t : List V} : D2 P ops M0 M1 U j [] t k [] t
  | op {j k cnt : Nat} {o : Oper} {l : List Oper} {t tf : List V} {r : V} {tr : List Row} (hg : o.guard = none) (ho : OpY P o M0 (ev t) r k cnt) (ho1 : memN j U = true → OpY P o M1 (ev t) r k cnt) (h : D2 P ops M0 M1 U (j + 1) l (putV t o.dst r) (k + cnt) tr tf) : D2 P ops M0 M1 U j (o :: l) t k ((r, k, cnt) :: tr) tf

theorem vs0_more {U : List Nat} {m0 : VM} : ∀ {l : List Oper} {j : Nat} {st st1 : VS}, vs0 P U m0 j l st = some st1 → st1.g = st.g ∧ ∃ bl, st1.m = st.m ++ bl
  | [], _, _, _, h => by cases h; exact ⟨rfl, [], by simp⟩
  | o :: l, j, st, st1, h => by
    unfold vs0 at h
    split at h
    · cases h
    · split at h
      · have := vs0_more h
        simpa using this
      · split at h
        · cases h
        · split at h
          · rename_i v n es _
            obtain ⟨h1, bl, h2⟩ := vs0_more h
            exact ⟨h1, some (n, es) :: bl, by rw [h2]; simp⟩
          · cases h

theorem vs0_d2 {U : List Nat} {m0 M0 M1 : VM} (h0 : ∃ b, M0 = m0 ++ b) (h0' : ∃ b, M1 = m0 ++ b) : ∀ {l : List Oper} {j : Nat} {st st1 : VS}, vs0 P U m0 j l st = some st1 → (∃ bl, M0 = st1.m ++ bl) → ∃ tr, D2 P ops M0 M1 U j l st.t st.m.length tr st1.t
  | [], _, _, _, h, _ => by cases h; exact ⟨[], .nil⟩
  | o :: l, j, st, st1, h, hM => by
    unfold vs0 at h
    split at h
    · cases h
    · rename_i hg
      split at h
      · rename_i v hv
        obtain ⟨tr, h1⟩ := vs0_d2 h0 h0' h hM
        obtain ⟨_, bl, h2⟩ := vs0_more h
        obtain ⟨bl', h3⟩ := hM
        simp only at h2
        have hall : ∀ M, (∃ b, M = (if memN j U = true then m0 else st.m) ++ b) → OpY P o M (ev st.t) v st.m.length 0 := fun M ⟨b, hb⟩ => by
          rw [hb]; exact OpY.quiet (vq_more b hv)
        refine ⟨_, .op (cnt := 0) hg (hall M0 ?_) (fun hU => hall M1 (by rw [if_pos hU]; exact h0')) (by simpa using h1)⟩
        by_cases hU : memN j U = true
        · rw [if_pos hU]; exact h0
        · exact ⟨bl ++ bl', by rw [if_neg hU, h3, h2, List.append_assoc]⟩
      · split at h
        · cases h
        · rename_i hU
          split at h
          · rename_i v n es hv
            obtain ⟨tr, h1⟩ := vs0_d2 h0 h0' h hM
            obtain ⟨_, bl, h2⟩ := vs0_more h
            obtain ⟨bl', h3⟩ := hM
            simp only at h2
            refine ⟨_, .op (cnt := 1) hg (OpY.alloc hv ?_) (fun hU' => absurd hU' hU) (by simpa using h1)⟩
            rw [h3, h2]
            simp
          · cases h

theorem D2.rows {M0 M1 : VM} {U : List Nat} : ∀ {l : List Oper} {t tf : List V} {k n : Nat} {tr' : List Row}, D2 P ops M0 M1 U n l t k tr' tf → (∀ j, j < l.length → l[j]? = ops[n + j]?) → (∀ j, j < l.length → tr'[j]? = tr[n + j]?) → t = TL ops tr t0 (fun _ => true) n →
    l.length = tr'.length ∧ (∀ (j : Nat) (o : Oper) (r : Row), l[j]? = some o → tr'[j]? = some r → RowOk P ops M0 tr t0 (n + j) o r ∧ (memN (n + j) U = true → RowOk P ops M1 tr t0 (n + j) o r)) ∧ (∀ (j : Nat) (r : Row), tr'[j]? = some r → k ≤ r.2.1) ∧ (∀ (i j : Nat) (r s : Row), i < j → tr'[i]? = some r → tr'[j]? = some s → r.2.1 + r.2.2 ≤ s.2.1) ∧ tf = TL ops tr t0 (fun _ => true) (n + l.length)
  | _, _, _, _, _, _, .nil, _, _, ht => by simp [ht]
  | _, _, _, k, n, _, .op (o := o) (l := l) (tr := tr') (r := r0) (cnt := cnt) hg ho0 ho1 h, hl, htr, ht => by
    have h0 := hl 0 (by simp)
    have h1 := htr 0 (by simp)
    simp at h0 h1
    have hstep : putV (TL ops tr t0 (fun _ => true) n) o.dst r0 = TL ops tr t0 (fun _ => true) (n + 1) := by simp [TL, ← h0, ← h1]
    obtain ⟨a1, a2, a3, a4, a5⟩ := D2.rows (n := n + 1) h (fun j hj => by have := hl (j + 1) (by simpa using hj); simpa [Nat.add_assoc, Nat.add_comm 1] using this) (fun j hj => by have := htr (j + 1) (by simpa using hj); simpa [Nat.add_assoc, Nat.add_comm 1] using this) (by rw [ht]; exact hstep)
    have hw : vwanted ops (TL ops tr t0 (fun _ => true) n) o = some true := by unfold vwanted; rw [hg]
    refine ⟨by simp [a1], fun j o' r ho hr => ?_, fun j r hr => ?_, fun i j r s hij hr hs => ?_, ?_⟩
    · cases j with
      | zero =>
        simp at ho hr
        subst ho
        subst hr
        rw [Nat.add_zero]
        exact ⟨.inr ⟨hw, by rw [← ht]; exact ho0⟩, fun hU => .inr ⟨hw, by rw [← ht]; exact ho1 hU⟩⟩
      | succ j => have := a2 j o' r (by simpa using ho) (by simpa using hr); rwa [show n + 1 + j = n + (j + 1) by omega] at this
    · cases j with
      | zero => simp at hr; subst hr; exact Nat.le_refl _
      | succ j => have := a3 j r (by simpa using hr); omega
    · cases j with
      | zero => omega
      | succ j =>
        cases i with
        | zero => simp at hr; subst hr; exact a3 j s (by simpa using hs)
        | succ i => exact a4 i j r s (by omega) (by simpa using hr) (by simpa using hs)
    · rw [a5, List.length_cons]
      congr 1
      omega

theorem D2.len {M0 M1 : VM} {U : List Nat} : ∀ {l : List Oper} {t tf : List V} {k n : Nat} {tr' : List Row}, D2 P ops M0 M1 U n l t k tr' tf → l.length = tr'.length
  | _, _, _, _, _, _, .nil => rfl
  | _, _, _, _, _, _, .op _ _ _ h => by simp [h.len]

def waitsOn (o : Oper) (i : Nat) : Bool := o.after.any fun e => Region.binds .any e && e.on == i
theorem waitsOn_spec {o : Oper} {i : Nat} (h : waitsOn o i = true) : ∃ e ∈ o.after, Region.binds .any e = true ∧ e.on = i := by
  obtain ⟨j, hj, e⟩ := Array.any_eq_true.1 h
  simp only [Bool.and_eq_true, beq_iff_eq] at e
  exact ⟨_, Array.getElem_mem hj, e.1, e.2⟩

/-- The last operation waits for all the others, the last but one for all but those of U. -/
def twoOk (U : List Nat) (l1 : List Oper) (po last : Oper) : Bool :=
  (List.range (l1.length + 1)).all (fun i => waitsOn last i) && (List.range l1.length).all (fun i => memN i U || waitsOn po i)

def eval2 (P : Program) (U : List Nat) (ops : Array Oper) (l1 : List Oper) (po last : Oper) (st : VS) : Option VS :=
  match po.guard with
  | some _ => none
  | none => match vs0 P U st.m 0 l1 st with
    | none => none
    | some st1 => match po.op with
      | .store ty sx sy => match ev st1.t sx with
        | .ptr b e j => if st.m.length ≤ b then (match vstore P st1.m ty (.ptr b e j) (ev st1.t sy) with
          | some m1 => (match last.guard with
            | some _ => none
            | none => vop1 P { t := putV st1.t po.dst .any, m := m1, g := st1.g } last)
          | none => none) else none
        | _ => none
      | _ => none

theorem vstore_ptr {m m1 : VM} {t : TypeId} {b e j : Nat} {y : V} (h : vstore P m t (.ptr b e j) y = some m1) : ∃ x, m1 = m.set b x := by
  unfold vstore at h
  simp only at h
  split at h
  · split at h
    · split at h
      · cases h; exact ⟨_, rfl⟩
      · cases h
    · cases h
  · cases h

theorem le_sum : ∀ {l : List Nat} {x : Nat}, x ∈ l → x ≤ l.sum
  | y :: l, x, h => by
    rcases List.mem_cons.1 h with rfl | h
    · simp
    · have := le_sum h
      simp
      omega

/-- A region that draws its order, with two stores at its end. -/
theorem VW.evalD2 {id : Nat} {l : List Oper} {st : VS} {Q : Exit → VS → Prop} (U : List Nat) (l1 : List Oper) (po last : Oper) (t' : List V) (m' : VM) (g' : List V) (hl : l = l1 ++ [po, last]) (hm : P.follows .mixedOrders = true) (hc : (orderB l && twoOk U l1 po last) = true)
    (h : toSt (eval2 P U l.toArray l1 po last st) t' m' g') (hQ : Q .normal { t := t', m := m', g := g' }) : VW P (.region id l.toArray true) Q st := by
  obtain ⟨t, h1, h2⟩ := h.get
  simp only [Bool.and_eq_true, twoOk, List.all_eq_true, List.mem_range, Bool.or_eq_true] at hc
  obtain ⟨hord, hw1, hw2⟩ := hc
  unfold eval2 at h1
  split at h1
  · cases h1
  rename_i hpg
  split at h1
  · cases h1
  rename_i st1 hv
  split at h1
  rotate_left
  · cases h1
  rename_i ty sx sy hst
  split at h1
  rotate_left
  · cases h1
  rename_i pb pe pj hptr
  split at h1
  rotate_left
  · cases h1
  rename_i hge
  split at h1
  rotate_left
  · cases h1
  rename_i m1 hvs
  split at h1
  · cases h1
  rename_i hlg
  replace h1 : vops P l.toArray [last] { t := putV st1.t po.dst .any, m := m1, g := st1.g } = some { t := t, m := m', g := g' } := by
    have hw : vwanted l.toArray (putV st1.t po.dst .any) last = some true := by unfold vwanted; rw [hlg]
    rw [vops]
    simp only [hw]
    rw [h1]
    rfl
  obtain ⟨px, hset⟩ := vstore_ptr hvs
  refine VW.entPost fun N w0 a w φ hs => ?_
  obtain ⟨hg, bl, hbl⟩ := vs0_more hv
  obtain ⟨tr1, hd⟩ := vs0_d2 (P := P) (ops := l.toArray) (M0 := st1.m) (M1 := m1) ⟨bl, hbl⟩ ⟨bl.set (pb - st.m.length) px, by rw [hset, hbl, List.set_append_right _ _ hge]⟩ hv ⟨[], by simp⟩
  let tr : List Row := tr1 ++ [(.any, (tr1.map fun r => r.2.1 + r.2.2).sum + st.m.length, 0)]
  have hlen1 : l.length = l1.length + 2 := by rw [hl]; simp
  have hat : ∀ j, j < l1.length → l1[j]? = l.toArray[0 + j]? := fun j hj => by rw [hl]; simp [List.getElem?_append_left hj]
  have htr1 : l1.length = tr1.length := hd.len
  obtain ⟨_, r2, r3, r4, r5⟩ := D2.rows (tr := tr) (t0 := st.t) hd hat (fun j hj => by simp only [tr]; rw [List.getElem?_append_left (by omega), Nat.zero_add]) rfl
  have hpo : l.toArray[l1.length]? = some po := by rw [hl]; simp
  have hlast : l.toArray[l1.length + 1]? = some last := by rw [hl]; simp
  have hrowp : tr[l1.length]? = some (.any, (tr1.map fun r => r.2.1 + r.2.2).sum + st.m.length, 0) := by simp only [tr]; rw [htr1]; simp
  have hget : ∀ j r, j ≠ l1.length → tr[j]? = some r → j < l1.length ∧ tr1[j]? = some r := fun j r hne hr => by
    simp only [tr] at hr
    rcases Nat.lt_or_ge j tr1.length with h | h
    · rw [List.getElem?_append_left h] at hr
      exact ⟨by omega, hr⟩
    · rw [List.getElem?_append_right h] at hr
      have := (List.getElem?_eq_some_iff.1 hr).1
      simp at this
      omega
  have hop : ∀ j o, j < l1.length → l.toArray[j]? = some o → l1[j]? = some o := fun j o hj ho => by rw [hat j hj, Nat.zero_add]; exact ho
  rw [Nat.zero_add] at r5
  refine wp_region_any hm ?_
  have hs1 : SR P N w0 st a (w.drewN 1) φ := by
    obtain ⟨d1, d2⟩ := hs.mem.drewN 1
    exact ⟨hs.defers, hs.size, fun i v hi => by
      obtain ⟨u, b1, b2⟩ := hs.tmps i v hi
      exact ⟨u, b1, b2.ev d2⟩, d1, hs.below.trans (below_drewN N w 1), hs.start, Sl.ev d2 hs.gh, hs.gl⟩
  have hs2 := hs1.more bl
  have htl : TL l.toArray tr st.t (fun _ => false) l.toArray.size = st.t := by
    have : ∀ n, TL l.toArray tr st.t (fun _ => false) n = st.t := fun n => by
      induction n with
      | zero => rfl
      | succ n ih => simp only [TL]; split <;> simp [ih]
    exact this _
  have hfin : TL l.toArray tr st.t (fun _ => true) (l1.length + 1) = putV st1.t po.dst .any := by
    simp only [TL, hpo, hrowp, if_true]
    rw [← r5]
  have hQ1 : VL P l.toArray (fun e s => ∃ s', Ent s s' ∧ Q e s') [last] { t := TL l.toArray tr st.t (fun _ => true) (l1.length + 1), m := m1, g := st.g } := by
    rw [hfin, ← hg]
    have := VL.run (P := P) (ops := l.toArray) (Q := fun e s => ∃ s', Ent s s' ∧ Q e s') (rest := []) h1 (VL.nil ⟨_, Ent.le h2, hQ⟩)
    simpa using this
  refine draw_two (tr := tr) (t0 := st.t) (M0 := st1.m) (M1 := m1) (k0 := st.m.length) (n := l1.length + 1) (p := l1.length) (last := last) (po := po) (ty := ty) (sx := sx) (sy := sy) (by simpa using hord) (by simp [hlen1]) (by simp [tr, htr1]) hlast (fun i hi => waitsOn_spec (hw1 i hi)) (by omega) hpo hpg hst (fun r hr => by rw [hrowp] at hr; cases hr; rfl) (by rw [← r5, hptr]; exact hvs)
    (fun j o r hne ho hr => ?_) (fun j o r hne hnw ho hr => ?_) (fun j r hr => ?_) (fun i j r s hij hr hs => ?_) hQ1 _ _ (fun _ => false) (by simp) (fun j hj => by simp at hj; simp [hj]) (by simp) rfl (fun j oj h => by cases h) a _ φ (by rw [htl, if_neg (by simp), hbl]; exact hs2) fun b p hb => .inl (hs.mem.dom b p hb)
  · obtain ⟨h3, h4⟩ := hget j r hne hr
    have := (r2 j o r (hop j o h3 ho) h4).1
    rwa [Nat.zero_add] at this
  · obtain ⟨h3, h4⟩ := hget j r hne hr
    have := (r2 j o r (hop j o h3 ho) h4).2
    rw [Nat.zero_add] at this
    rcases hw2 j h3 with h5 | h5
    · exact this h5
    · exact absurd (waitsOn_spec h5) hnw
  · by_cases hj : j = l1.length
    · subst hj; rw [hrowp] at hr; cases hr; simp
    · exact r3 j r (hget j r hj hr).2
  · by_cases hj : j = l1.length
    · subst hj
      rw [hrowp] at hs
      cases hs
      have h3 := hget i r (by omega) hr
      have : r.2.1 + r.2.2 ∈ tr1.map fun r => r.2.1 + r.2.2 := List.mem_map.2 ⟨r, List.mem_of_getElem? h3.2, rfl⟩
      have := le_sum this
      simp only
      omega
    · have h4 := hget j s hj hs
      have h3 := hget i r (by omega) hr
      exact r4 i j r s hij h3.2 h4.2
theorem VW.evalD2k {id : Nat} {l : List Oper} {st : VS} {Q : Exit → VS → Prop} {po last : Oper} (U : List Nat) (k : Nat) (t' : List V) (m' : VM) (g' : List V) (h1 : l[k]? = some po) (h2 : l[k + 1]? = some last) (h3 : l.length = k + 2) (hm : P.follows .mixedOrders = true) (hc : (orderB l && twoOk U (l.take k) po last) = true)
    (h : toSt (eval2 P U l.toArray (l.take k) po last st) t' m' g') (hQ : Q .normal { t := t', m := m', g := g' }) : VW P (.region id l.toArray true) Q st := by
  refine VW.evalD2 U (l.take k) po last t' m' g' ?_ hm hc h hQ
  obtain ⟨a1, a2⟩ := List.getElem?_eq_some_iff.1 h1
  obtain ⟨b1, b2⟩ := List.getElem?_eq_some_iff.1 h2
  have e1 : l.drop k = [po, last] := by
    rw [← List.getElem_cons_drop a1, ← List.getElem_cons_drop b1, a2, b2, List.drop_of_length_le (by omega)]
  rw [← e1, List.take_append_drop]
attribute [simp] vs0 eval2 memN
end
end Go.VL
