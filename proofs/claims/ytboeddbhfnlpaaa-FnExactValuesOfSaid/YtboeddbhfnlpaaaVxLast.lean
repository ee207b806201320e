/- Regions that draw their order and whose last operation waits for all the others: that one may write. -/
import Derived.Test.YtboeddbhfnlpaaaVxTm
namespace Go.VL
open Go.RowKit
set_option linter.unusedSimpArgs false
set_option linter.unusedVariables false

section
variable {P : Program} {ops : Array Oper} {tr : List Row} {t0 : List V} {M : VM}

theorem draw_last {Q : Exit → VS → Prop} {g0 : List V} {N : Fr} {w0 : World × List Value} {k0 n : Nat} {last : Oper} (hlex : orderB ops.toList = true) (hsz0 : ops.size = n + 1) (hlen : tr.length = n) (hlast : ops[n]? = some last)
    (hwait : ∀ i, i < n → ∃ e ∈ last.after, Region.binds .any e = true ∧ e.on = i)
    (hrows : ∀ (j : Nat) (o : Oper) (r : Row), ops[j]? = some o → tr[j]? = some r → RowOk P ops M tr t0 j o r) (hk0 : ∀ (j : Nat) (r : Row), tr[j]? = some r → k0 ≤ r.2.1) (hdis : ∀ (i j : Nat) (r s : Row), i < j → tr[i]? = some r → tr[j]? = some s → r.2.1 + r.2.2 ≤ s.2.1)
    (hQ : VL P ops Q [last] { t := TL ops tr t0 (fun _ => true) n, m := M, g := g0 }) :
    ∀ (fuel : Nat) (listed : Array Bool) (L : Nat → Bool), listed.size = ops.size → (∀ j, j < ops.size → listed.getD j true = L j) → (List.range ops.size).countP (fun j => !L j) = fuel → L n = false →
      (∀ j oj, L j = true → ops[j]? = some oj → ∀ e ∈ oj.after, Region.binds .any e = true → L e.on = true) →
      ∀ (a : Act) (w : World) (φ : Pl), SR P N w0 { t := TL ops tr t0 L ops.size, m := M, g := g0 } a w φ → Dom tr k0 L φ →
        wpAny P .any ops (fun e a' w' => ∃ st' φ', Q e st' ∧ SR P N w0 st' a' w' φ') fuel listed a w := by
  have spec := orderB_spec hlex
  have hn0 : n < ops.size := by omega
  have allL : ∀ (listed : Array Bool) (L : Nat → Bool), listed.size = ops.size → (∀ j, j < ops.size → listed.getD j true = L j) → Region.ready .any ops listed = [] → ∀ j, j < ops.size → L j = true := by
    intro listed L hsz hL hr j
    induction j using Nat.strongRecOn with
    | ind j ih =>
      intro hj
      cases hLj : L j with
      | true => rfl
      | false =>
        exfalso
        obtain ⟨oj, hoj⟩ : ∃ oj, ops[j]? = some oj := ⟨ops[j], by simp [hj]⟩
        have : j ∈ Region.ready .any ops listed := mem_ready.2 ⟨(hL j hj).trans hLj, oj, hoj, fun e he hb => by
          have hlt := (spec j oj hoj).1 e he hb
          have h1 := ih e.on hlt (by omega)
          rw [← hL e.on (by omega)] at h1
          have : e.on < listed.size := by omega
          simpa [this] using h1⟩
        rw [hr] at this
        cases this
  intro fuel
  induction fuel with
  | zero =>
    intro listed L hsz hL hc hLn hW a w φ hs hd
    have := List.countP_eq_zero.1 hc n (List.mem_range.2 hn0)
    rw [hLn] at this
    simp at this
  | succ fuel ih =>
    intro listed L hsz hL hc hLn hW a w φ hs hd
    refine ⟨fun hr => ?_, fun i hi => ?_⟩
    · have := allL listed L hsz hL hr n hn0
      rw [hLn] at this
      cases this
    obtain ⟨b1, o, hoi, b3⟩ := mem_ready.1 hi
    have hlt := (Array.getElem?_eq_some_iff.1 hoi).1
    have hLi : L i = false := by rw [← hL i hlt]; exact b1
    have hready : ∀ e ∈ o.after, Region.binds .any e = true → L e.on = true := fun e he hb => by
      have h1 := b3 e he hb
      have hlt' : e.on < ops.size := Nat.lt_trans ((spec i o hoi).1 e he hb) hlt
      have h2 := hL e.on hlt'
      have : e.on < listed.size := by omega
      simp [this] at h1 h2
      rw [h1] at h2
      exact h2.symm
    by_cases hin : i = n
    · subst hin
      rw [hlast] at hoi
      cases hoi
      have hall : ∀ j, j < i → L j = true := fun j hj => by
        obtain ⟨e, he, hb, heq⟩ := hwait j hj
        rw [← heq]; exact hready e he hb
      have htl : TL ops tr t0 L ops.size = TL ops tr t0 (fun _ => true) i := by
        have e1 : ∀ m, m ≤ i → TL ops tr t0 L m = TL ops tr t0 (fun _ => true) m := by
          intro m
          induction m with
          | zero => intro _; rfl
          | succ m ih => intro hle; simp only [TL, ih (by omega), hall m (by omega)]
        rw [hsz0, ← e1 i (Nat.le_refl _)]
        have : tr[i]? = none := List.getElem?_eq_none (by omega)
        simp only [TL, this]
        split <;> first | rfl | (rename_i h; cases h)
      rw [htl] at hs
      have hq := hQ N w0 a w φ hs
      have hc0 : fuel = 0 := by
        have h0 := count_put hLi ops.size hlt
        have h1 : (List.range ops.size).countP (fun j => !(L j || j == i)) = 0 := by
          refine List.countP_eq_zero.2 fun j hj => ?_
          have hj' := List.mem_range.1 hj
          by_cases hji : j = i
          · subst hji; simp
          · rw [hall j (by omega)]; simp
        omega
      subst hc0
      unfold wpOp
      simp only [hlast]
      have hfin : ∀ a' w', (∃ st' φ', Q .normal st' ∧ SR P N w0 st' a' w' φ') → wpAny P .any ops (fun e a' w' => ∃ st' φ', Q e st' ∧ SR P N w0 st' a' w' φ') 0 (listed.setIfInBounds i true) a' w' := fun a' w' h => by
        refine ⟨?_, h⟩
        cases hr : Region.ready .any ops (listed.setIfInBounds i true) with
        | nil => rfl
        | cons j rest =>
          exfalso
          have hj : j ∈ Region.ready .any ops (listed.setIfInBounds i true) := by rw [hr]; simp
          obtain ⟨c1, oj, c2, c3⟩ := mem_ready.1 hj
          have hjs := (Array.getElem?_eq_some_iff.1 c2).1
          by_cases hji : i = j
          · subst hji
            have : i < listed.size := by omega
            simp [this] at c1
          · rw [getD_set_ne true hji, hL j hjs, hall j (by omega)] at c1
            cases c1
      unfold wpList at hq
      split at hq
      · rename_i hwant
        rw [if_pos hwant]
        rcases hq with hq | hq
        · exact .inl (Oper.wp_mono (fun a' w' h => hfin a' w' h) hq)
        · exact .inr hq
      · rename_i hwant
        rw [if_neg hwant]
        exact hfin _ _ hq
    have hin' : i < n := by omega
    obtain ⟨r, hri⟩ : ∃ r, tr[i]? = some r := ⟨tr[i]'(by omega), by simp [show i < tr.length by omega]⟩
    -- earlier ones that have not been carried out are apart
    have early : ∀ j oj, j < i → ops[j]? = some oj → L j = false → oj.apart ops o = true := fun j oj hj hoj hLj => by
      rcases (spec j oj hoj).2 i o hj hoi with ⟨e, he, hb, heq⟩ | h
      · have := hready e he hb
        rw [heq, hLj] at this
        cases this
      · exact h
    have late : ∀ j oj, i < j → ops[j]? = some oj → L j = true → o.apart ops oj = true := fun j oj hj hoj hLj => by
      rcases (spec i o hoi).2 j oj hj hoj with ⟨e, he, hb, heq⟩ | h
      · have := hW j oj hLj hoj e he hb
        rw [heq, hLi] at this
        cases this
      · exact h
    have agree : ∀ d, d ∈ o.looksAt ops → (TL ops tr t0 L ops.size)[d]? = (TL ops tr t0 (fun _ => true) i)[d]? := fun d hd =>
      TL_agree (fun j oj hj hoj hjd => by
        cases hLj : L j with
        | true => rfl
        | false => exact absurd hd ((Oper.apart_spec (early j oj hj hoj hLj)).1 d hjd)) (Nat.le_of_lt hlt) fun j oj hj hjn hLj hoj hjd => by
        by_cases hji : i = j
        · subst hji; rw [hLi] at hLj; cases hLj
        · exact (Oper.apart_spec (late j oj (by omega) hoj hLj)).2.2 d hjd hd
    obtain ⟨e1, e2⟩ := eval_agree (ops := ops) agree
    have hput : TL ops tr t0 (fun x => L x || x == i) ops.size = putV (TL ops tr t0 L ops.size) o.dst r.1 :=
      TL_put hoi hri hLi hlt fun j oj h1 h2 h3 h4 d hd => (Oper.apart_spec (late j oj h1 h4 h3)).2.1 d hd
    have cont : ∀ (a' : Act) (w' : World) (φ' : Pl), SR P N w0 { t := putV (TL ops tr t0 L ops.size) o.dst r.1, m := M, g := g0 } a' w' φ' → Dom tr k0 (fun x => L x || x == i) φ' →
        wpAny P .any ops (fun e a' w' => ∃ st' φ', Q e st' ∧ SR P N w0 st' a' w' φ') fuel (listed.setIfInBounds i true) a' w' := fun a' w' φ' hs' hd' => by
      refine ih (listed.setIfInBounds i true) (fun x => L x || x == i) (by simp [hsz]) (fun j hj => ?_) ?_ ?_ (fun j oj hLj hoj e he hb => ?_) a' w' φ' (by rw [hput]; exact hs') hd'
      · by_cases hij : i = j
        · subst hij
          have : i < listed.size := by omega
          simp [this]
        · rw [getD_set_ne true hij, hL j hj]
          simp [show (j == i) = false by simp; omega]
      · have := count_put hLi ops.size hlt
        omega
      · simp only [hLn, Bool.false_or]
        simp; omega
      · by_cases hij : j = i
        · subst hij
          rw [hoi] at hoj
          cases hoj
          simp [hready e he hb]
        · have hLj' : L j = true := by simpa [hij] using hLj
          simp [hW j oj hLj' hoj e he hb]
    unfold wpOp
    simp only [hoi]
    have hmono : ∀ φ', (∀ b p, φ' b = some p → φ b = some p ∨ (r.2.1 ≤ b ∧ b < r.2.1 + r.2.2)) → Dom tr k0 (fun x => L x || x == i) φ' := fun φ' h b p hb => by
      rcases h b p hb with h | ⟨h1, h2⟩
      · rcases hd b p h with h | ⟨j, s, a1, a2, a3, a4⟩
        · exact .inl h
        · exact .inr ⟨j, s, by simp [a1], a2, a3, a4⟩
      · exact .inr ⟨i, r, by simp, hri, h1, h2⟩
    rcases hrows i o r hoi hri with ⟨hw, hr1, hr2⟩ | ⟨hw, ho⟩
    · rw [vwanted_sound (e2.trans hw) hs, if_neg (by simp)]
      refine cont _ w φ ?_ (hmono φ fun b p hb => .inl hb)
      rw [hr1]
      exact hs.put S.und hs.mem (Ev.refl _ _ _) (Bel.refl _ _)
    · rw [vwanted_sound (e2.trans hw) hs, if_pos rfl]
      left
      refine ho N a w φ _ _ hs.start hs.glob hs.mem (fun x hx => by rw [← e1 x hx]; exact hs.eval x) (fun x hx => ?_) fun u w' φ' h1 h2 h3 h4 h5 => cont _ w' φ' (hs.put h1 h2 h3 h4) (hmono φ' h5)
      cases hφ : φ (r.2.1 + x) with
      | none => rfl
      | some p =>
        exfalso
        rcases hd _ p hφ with h | ⟨j, s, a1, a2, a3, a4⟩
        · have := hk0 i r hri
          omega
        · rcases Nat.lt_trichotomy i j with h | h | h
          · have := hdis i j r s h hri a2; omega
          · subst h; rw [hLi] at a1; cases a1
          · have := hdis j i s r h a2 hri; omega

theorem DT.rows' : ∀ {l : List Oper} {t : List V} {k n : Nat} {tr' : List Row}, DT P ops M l t k tr' → (∀ j, j < l.length → l[j]? = ops[n + j]?) → (∀ j, tr'[j]? = tr[n + j]?) → t = TL ops tr t0 (fun _ => true) n →
    l.length = tr'.length ∧ (∀ (j : Nat) (o : Oper) (r : Row), l[j]? = some o → tr'[j]? = some r → RowOk P ops M tr t0 (n + j) o r) ∧ (∀ (j : Nat) (r : Row), tr'[j]? = some r → k ≤ r.2.1) ∧ (∀ (i j : Nat) (r s : Row), i < j → tr'[i]? = some r → tr'[j]? = some s → r.2.1 + r.2.2 ≤ s.2.1)
  | _, _, _, _, _, .nil, _, _, _ => by simp
  | _, _, k, n, _, .skip (o := o) (l := l) (tr := tr') hw h, hl, htr, ht => by
    have h0 := hl 0 (by simp)
    have h1 := htr 0
    simp at h0 h1
    have hstep : putV (TL ops tr t0 (fun _ => true) n) o.dst und = TL ops tr t0 (fun _ => true) (n + 1) := by simp [TL, ← h0, ← h1]
    obtain ⟨a1, a2, a3, a4⟩ := DT.rows' (n := n + 1) h (fun j hj => by have := hl (j + 1) (by simpa using hj); simpa [Nat.add_assoc, Nat.add_comm 1] using this) (fun j => by have := htr (j + 1); simpa [Nat.add_assoc, Nat.add_comm 1] using this) (by rw [ht]; exact hstep)
    refine ⟨by simp [a1], fun j o' r ho hr => ?_, fun j r hr => ?_, fun i j r s hij hr hs => ?_⟩
    · cases j with
      | zero => simp at ho hr; subst ho; subst hr; exact .inl ⟨by rw [Nat.add_zero, ← ht]; exact hw, rfl, rfl⟩
      | succ j => have := a2 j o' r (by simpa using ho) (by simpa using hr); rwa [show n + 1 + j = n + (j + 1) by omega] at this
    · cases j with
      | zero => simp at hr; subst hr; exact Nat.le_refl _
      | succ j => exact a3 j r (by simpa using hr)
    · cases j with
      | zero => omega
      | succ j =>
        cases i with
        | zero => simp at hr; subst hr; exact a3 j s (by simpa using hs)
        | succ i => exact a4 i j r s (by omega) (by simpa using hr) (by simpa using hs)
  | _, _, k, n, _, .op (o := o) (l := l) (tr := tr') (r := r0) (cnt := cnt) hw ho0 h, hl, htr, ht => by
    have h0 := hl 0 (by simp)
    have h1 := htr 0
    simp at h0 h1
    have hstep : putV (TL ops tr t0 (fun _ => true) n) o.dst r0 = TL ops tr t0 (fun _ => true) (n + 1) := by simp [TL, ← h0, ← h1]
    obtain ⟨a1, a2, a3, a4⟩ := DT.rows' (n := n + 1) h (fun j hj => by have := hl (j + 1) (by simpa using hj); simpa [Nat.add_assoc, Nat.add_comm 1] using this) (fun j => by have := htr (j + 1); simpa [Nat.add_assoc, Nat.add_comm 1] using this) (by rw [ht]; exact hstep)
    refine ⟨by simp [a1], fun j o' r ho hr => ?_, fun j r hr => ?_, fun i j r s hij hr hs => ?_⟩
    · cases j with
      | zero => simp at ho hr; subst ho; subst hr; exact .inr ⟨by rw [Nat.add_zero, ← ht]; exact hw, by rw [Nat.add_zero, ← ht]; exact ho0⟩
      | succ j => have := a2 j o' r (by simpa using ho) (by simpa using hr); rwa [show n + 1 + j = n + (j + 1) by omega] at this
    · cases j with
      | zero => simp at hr; subst hr; exact Nat.le_refl _
      | succ j => have := a3 j r (by simpa using hr); omega
    · cases j with
      | zero => omega
      | succ j =>
        cases i with
        | zero => simp at hr; subst hr; exact a3 j s (by simpa using hs)
        | succ i => exact a4 i j r s (by omega) (by simpa using hr) (by simpa using hs)

theorem DE.final' : ∀ {l : List Oper} {tr' : List Row} {t tf : List V}, DE l tr' t tf → ∀ n, (∀ j, j < l.length → l[j]? = ops[n + j]?) → (∀ j, tr'[j]? = tr[n + j]?) → t = TL ops tr t0 (fun _ => true) n → tf = TL ops tr t0 (fun _ => true) (n + l.length)
  | _, _, _, _, .nil, n, _, _, ht => ht
  | _, _, t, tf, .cons (o := o) (l := l) (r := r) (tr := tr') h, n, hl, htr, ht => by
    have h0 := hl 0 (by simp)
    have h1 := htr 0
    simp at h0 h1
    have hstep : putV (TL ops tr t0 (fun _ => true) n) o.dst r.1 = TL ops tr t0 (fun _ => true) (n + 1) := by simp [TL, ← h0, ← h1]
    have := DE.final' h (n + 1) (fun j hj => by have := hl (j + 1) (by simpa using hj); simpa [Nat.add_assoc, Nat.add_comm 1] using this) (fun j => by have := htr (j + 1); simpa [Nat.add_assoc, Nat.add_comm 1] using this) (by rw [ht]; exact hstep)
    rw [this, List.length_cons]
    congr 1
    omega

theorem VW.drawL {id : Nat} {l : List Oper} {o : Oper} {Q : Exit → VS → Prop} {st st1 : VS} (hm : P.follows .mixedOrders = true) (hlex : orderB (l ++ [o]) = true) (hwait : ∀ i, i < l.length → ∃ e ∈ o.after, Region.binds .any e = true ∧ e.on = i)
    (h : DL P (l ++ [o]).toArray l st st1) (hQ : VL P (l ++ [o]).toArray Q [o] st1) : VW P (.region id (l ++ [o]).toArray true) Q st := fun N w0 a w φ hs => by
  obtain ⟨hg, bl, hbl, h'⟩ := h
  obtain ⟨tr, h, hde⟩ := h' []
  rw [List.append_nil, hbl] at h
  have hget : ∀ j, j < l.length → l[j]? = (l ++ [o]).toArray[0 + j]? := fun j hj => by simp [List.getElem?_append_left hj]
  obtain ⟨h1, h2, h3, h4⟩ := DT.rows' (tr := tr) (n := 0) (t0 := st.t) h hget (fun j => by simp) rfl
  have hfin := DE.final' (ops := (l ++ [o]).toArray) (tr := tr) (t0 := st.t) hde 0 hget (fun j => by simp) rfl
  refine wp_region_any hm ?_
  have hs1 : SR P N w0 st a (w.drewN 1) φ := by
    obtain ⟨d1, d2⟩ := hs.mem.drewN 1
    exact ⟨hs.defers, hs.size, fun i v hi => by
      obtain ⟨u, b1, b2⟩ := hs.tmps i v hi
      exact ⟨u, b1, b2.ev d2⟩, d1, hs.below.trans (below_drewN N w 1), hs.start, Sl.ev d2 hs.gh, hs.gl⟩
  have hs2 := hs1.more bl
  have htl : TL (l ++ [o]).toArray tr st.t (fun _ => false) (l ++ [o]).toArray.size = st.t := by
    have : ∀ n, TL (l ++ [o]).toArray tr st.t (fun _ => false) n = st.t := fun n => by
      induction n with
      | zero => rfl
      | succ n ih => simp only [TL]; split <;> simp [ih]
    exact this _
  have hst' : st1 = { t := TL (l ++ [o]).toArray tr st.t (fun _ => true) l.length, m := st.m ++ bl, g := st.g } := by
    cases st1
    simp only at hbl hfin hg
    subst hbl
    subst hfin
    subst hg
    simp
  refine draw_last (tr := tr) (t0 := st.t) (M := st.m ++ bl) (k0 := st.m.length) (n := l.length) (last := o) hlex (by simp) h1.symm (by simp) hwait (fun j oj r ho hr => ?_) h3 h4 (by rw [← hst']; exact hQ) _ _ (fun _ => false) (by simp) (fun j hj => by simp at hj; simp [hj]) (by simp) rfl (fun j oj h => by cases h) a _ φ (by rw [htl]; exact hs2) fun b p hb => .inl (hs.mem.dom b p hb)
  have hj : j < l.length := by rw [h1]; exact (List.getElem?_eq_some_iff.1 hr).1
  have e := hget j hj
  rw [Nat.zero_add, ho] at e
  have := h2 j oj r e hr
  simpa using this

/-- The last operation waits for all the others, and only it writes. -/
def lastOk (l : List Oper) : Bool :=
  match l.getLast? with
  | none => false
  | some o => noStore l.dropLast && (List.range l.dropLast.length).all fun i => o.after.any fun e => Region.binds .any e && e.on == i

theorem Ste.split {C : CEnv} : ∀ {l l' : List Oper} {a c : VS}, Ste P C ops (l ++ l') a c → ∃ b, Ste P C ops l a b ∧ Ste P C ops l' b c
  | [], _, a, _, h => ⟨a, .nil, h⟩
  | o :: l, l', a, c, h => by
    cases h with
    | skip hw h => obtain ⟨b, h1, h2⟩ := Ste.split (l := l) h; exact ⟨b, .skip hw h1, h2⟩
    | op hw h1 h => obtain ⟨b, h2, h3⟩ := Ste.split (l := l) h; exact ⟨b, .op hw h1 h2, h3⟩

theorem VW.evalDLA {C : CEnv} {id : Nat} {l : List Oper} {st : VS} {Q : Exit → VS → Prop} (t' : List V) (m' : VM) (g' : List V) (hC : C.Ok P) (hm : P.follows .mixedOrders = true) (hc : (orderB l && lastOk l && guardsOk l.toArray l.length none l) = true) (h : toSt (veval P C l.toArray l.length none l st) t' m' g') (hQ : Q .normal { t := t', m := m', g := g' }) : VW P (.region id l.toArray true) Q st := by
  obtain ⟨t, h1, h2⟩ := h.get
  simp only [Bool.and_eq_true] at hc
  obtain ⟨⟨c1, c2⟩, c3⟩ := hc
  have hste := veval_ste _ _ _ _ _ h1 c3 (fun _ _ h => by cases h)
  unfold lastOk at c2
  split at c2
  · cases c2
  · rename_i o ho
    obtain ⟨l1, rfl⟩ : ∃ l1, l = l1 ++ [o] := by
      rcases List.eq_nil_or_concat l with rfl | ⟨L, b, rfl⟩
      · cases ho
      · rw [List.concat_eq_append, List.getLast?_concat] at ho
        exact ⟨L, by rw [List.concat_eq_append, Option.some.inj ho]⟩
    rw [List.dropLast_concat] at c2
    simp only [Bool.and_eq_true] at c2
    obtain ⟨b, s1, s2⟩ := hste.split
    refine VW.entPost (VW.drawL hm c1 (fun i hi => ?_) (by simpa using s1.dl (rest := []) hC c2.1 DL.nil) (Q := fun e s => ∃ s', Ent s s' ∧ Q e s') ?_)
    · have := List.all_eq_true.1 c2.2 i (List.mem_range.2 hi)
      obtain ⟨j, hj, e⟩ := Array.any_eq_true.1 this
      simp only [Bool.and_eq_true, beq_iff_eq] at e
      exact ⟨_, Array.getElem_mem hj, e.1, e.2⟩
    · have := s2.vl (Q := fun e s => ∃ s', Ent s s' ∧ Q e s') (rest := []) hC (VL.nil ⟨_, Ent.le h2, hQ⟩)
      simpa using this
theorem VW.evalDLE {C : CEnv} {id : Nat} {l : List Oper} {st s2 : VS} {Q : Exit → VS → Prop} (t' : List V) (m' : VM) (g' : List V) (hC : C.Ok P) (hm : P.follows .mixedOrders = true) (hc : (orderB l && lastOk l && guardsOk l.toArray l.length none l) = true) (h : toSt (veval P C l.toArray l.length none l st) t' m' g') (he : Ent { t := t', m := m', g := g' } s2) (hQ : Q .normal s2) : VW P (.region id l.toArray true) Q st :=
  VW.entPost (VW.evalDLA t' m' g' hC hm hc h ⟨_, he, hQ⟩)
end
end Go.VL
