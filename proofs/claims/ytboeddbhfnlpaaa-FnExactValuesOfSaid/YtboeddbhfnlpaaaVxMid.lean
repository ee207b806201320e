/- Regions that draw their order, in which one operation may do anything, and all behind it wait for it. -/
import Derived.Test.YtboeddbhfnlpaaaVxTwo
import Derived.Test.YtboeddbhfnlpaaaVxDia
namespace Go.VL
open Go.RowKit
set_option linter.unusedSimpArgs false
set_option linter.unusedVariables false

section
variable {P : Program} {ops : Array Oper} {tr : List Row} {t0 : List V}

theorem draw_mid {Q : Exit → VS → Prop} {g0 : List V} {N : Fr} {w0 : World × List Value} {k0 p : Nat} {po : Oper} {M0 : VM} (hlex : orderB ops.toList = true) (hlen : tr.length = p) (hpo : ops[p]? = some po)
    (hrest : ∀ j o, p < j → ops[j]? = some o → ∃ e ∈ o.after, Region.binds .any e = true ∧ e.on = p)
    (hrows : ∀ (j : Nat) (o : Oper) (r : Row), ops[j]? = some o → tr[j]? = some r → RowOk P ops M0 tr t0 j o r) (hk0 : ∀ (j : Nat) (r : Row), tr[j]? = some r → k0 ≤ r.2.1) (hdis : ∀ (i j : Nat) (r s : Row), i < j → tr[i]? = some r → tr[j]? = some s → r.2.1 + r.2.2 ≤ s.2.1)
    (hQ : ∀ (fuel : Nat) (listed : Array Bool) (L : Nat → Bool), listed.size = ops.size → (∀ j, j < ops.size → listed.getD j true = L j) → (List.range ops.size).countP (fun j => !L j) = fuel + 1 → (∀ j, p ≤ j → L j = false) → (∀ e ∈ po.after, Region.binds .any e = true → L e.on = true) → (∀ j oj, L j = true → ops[j]? = some oj → ∀ e ∈ oj.after, Region.binds .any e = true → L e.on = true) →
      VO P ops Q po (VA P ops Q fuel (listed.setIfInBounds p true)) { t := TL ops tr t0 L ops.size, m := M0, g := g0 }) :
    ∀ (fuel : Nat) (listed : Array Bool) (L : Nat → Bool), listed.size = ops.size → (∀ j, j < ops.size → listed.getD j true = L j) → (List.range ops.size).countP (fun j => !L j) = fuel → (∀ j, p ≤ j → L j = false) →
      (∀ j oj, L j = true → ops[j]? = some oj → ∀ e ∈ oj.after, Region.binds .any e = true → L e.on = true) →
      ∀ (a : Act) (w : World) (φ : Pl), SR P N w0 { t := TL ops tr t0 L ops.size, m := M0, g := g0 } a w φ → Dom tr k0 L φ →
        wpAny P .any ops (fun e a' w' => ∃ st' φ', Q e st' ∧ SR P N w0 st' a' w' φ') fuel listed a w := by
  have spec := orderB_spec hlex
  have hp0 : p < ops.size := (Array.getElem?_eq_some_iff.1 hpo).1
  intro fuel
  induction fuel with
  | zero =>
    intro listed L hsz hL hc hLp hW a w φ hs hd
    have := List.countP_eq_zero.1 hc p (List.mem_range.2 hp0)
    rw [hLp p (Nat.le_refl _)] at this
    simp at this
  | succ fuel ih =>
    intro listed L hsz hL hc hLp hW a w φ hs hd
    refine ⟨fun hr => ?_, fun i hi => ?_⟩
    · exfalso
      have allL : ∀ j, j < ops.size → L j = true := by
        intro j
        induction j using Nat.strongRecOn with
        | ind j ih =>
          intro hj
          cases hLj : L j with
          | true => rfl
          | false =>
            exfalso
            obtain ⟨oj, hoj⟩ : ∃ oj, ops[j]? = some oj := ⟨ops[j], by simp [hj]⟩
            have : j ∈ Region.ready .any ops listed := mem_ready.2 ⟨(hL j hj).trans hLj, oj, hoj, fun e he hb => by
              have hlt := (spec j oj hoj).1 e he hb
              have h1 := ih e.on hlt (by omega)
              rw [← hL e.on (by omega)] at h1
              have : e.on < listed.size := by omega
              simpa [this] using h1⟩
            rw [hr] at this
            cases this
      have := allL p hp0
      rw [hLp p (Nat.le_refl _)] at this
      cases this
    obtain ⟨b1, o, hoi, b3⟩ := mem_ready.1 hi
    have hlt := (Array.getElem?_eq_some_iff.1 hoi).1
    have hLi : L i = false := by rw [← hL i hlt]; exact b1
    have hready : ∀ e ∈ o.after, Region.binds .any e = true → L e.on = true := fun e he hb => by
      have h1 := b3 e he hb
      have hlt' : e.on < ops.size := Nat.lt_trans ((spec i o hoi).1 e he hb) hlt
      have h2 := hL e.on hlt'
      have : e.on < listed.size := by omega
      simp [this] at h1 h2
      rw [h1] at h2
      exact h2.symm
    by_cases hip : i = p
    · subst hip
      rw [hpo] at hoi
      cases hoi
      have hq := hQ fuel listed L hsz hL hc hLp hready hW N w0 a w φ hs
      unfold wpOp
      simp only [hpo]
      unfold wpList at hq
      have key : ∀ a' w', (∃ st' φ', ((Exit.normal = .normal ∧ VA P ops Q fuel (listed.setIfInBounds i true) st') ∨ (Exit.normal ≠ .normal ∧ Q .normal st')) ∧ SR P N w0 st' a' w' φ') → wpAny P .any ops (fun e a' w' => ∃ st' φ', Q e st' ∧ SR P N w0 st' a' w' φ') fuel (listed.setIfInBounds i true) a' w' := fun a' w' ⟨s, φ', h2, h3⟩ => by
        rcases h2 with h2 | h2
        · exact h2.2 N w0 a' w' φ' h3
        · exact absurd rfl h2.1
      have keyQ : ∀ e a' w', e ≠ Exit.normal → (∃ st' φ', ((e = .normal ∧ VA P ops Q fuel (listed.setIfInBounds i true) st') ∨ (e ≠ .normal ∧ Q e st')) ∧ SR P N w0 st' a' w' φ') → ∃ st' φ', Q e st' ∧ SR P N w0 st' a' w' φ' := fun e a' w' he ⟨s, φ', h2, h3⟩ => by
        rcases h2 with h2 | h2
        · exact absurd h2.1 he
        · exact ⟨s, φ', h2.2, h3⟩
      split
      · rename_i hw
        rw [if_pos hw] at hq
        rcases hq with h1 | ⟨h1, h2⟩
        · exact .inl (wp_mono2 key keyQ h1)
        · refine .inr ⟨h1, ?_⟩
          obtain ⟨a', w', h3⟩ := h2
          exact ⟨a', w', keyQ _ _ _ (by simp) h3⟩
      · rename_i hw
        rw [if_neg hw] at hq
        exact key _ _ hq
    have hin' : i < p := by
      rcases Nat.lt_or_ge i p with h | h
      · exact h
      · exfalso
        obtain ⟨e, he, hb, heq⟩ := hrest i o (by omega) hoi
        have := hready e he hb
        rw [heq, hLp p (Nat.le_refl _)] at this
        cases this
    obtain ⟨r, hri⟩ : ∃ r, tr[i]? = some r := ⟨tr[i]'(by omega), by simp [show i < tr.length by omega]⟩
    -- earlier ones that have not been carried out are apart
    have early : ∀ j oj, j < i → ops[j]? = some oj → L j = false → oj.apart ops o = true := fun j oj hj hoj hLj => by
      rcases (spec j oj hoj).2 i o hj hoi with ⟨e, he, hb, heq⟩ | h
      · have := hready e he hb
        rw [heq, hLj] at this
        cases this
      · exact h
    have late : ∀ j oj, i < j → ops[j]? = some oj → L j = true → o.apart ops oj = true := fun j oj hj hoj hLj => by
      rcases (spec i o hoi).2 j oj hj hoj with ⟨e, he, hb, heq⟩ | h
      · have := hW j oj hLj hoj e he hb
        rw [heq, hLi] at this
        cases this
      · exact h
    have agree : ∀ d, d ∈ o.looksAt ops → (TL ops tr t0 L ops.size)[d]? = (TL ops tr t0 (fun _ => true) i)[d]? := fun d hd =>
      TL_agree (fun j oj hj hoj hjd => by
        cases hLj : L j with
        | true => rfl
        | false => exact absurd hd ((Oper.apart_spec (early j oj hj hoj hLj)).1 d hjd)) (Nat.le_of_lt hlt) fun j oj hj hjn hLj hoj hjd => by
        by_cases hji : i = j
        · subst hji; rw [hLi] at hLj; cases hLj
        · exact (Oper.apart_spec (late j oj (by omega) hoj hLj)).2.2 d hjd hd
    obtain ⟨e1, e2⟩ := eval_agree (ops := ops) agree
    have hput : TL ops tr t0 (fun x => L x || x == i) ops.size = putV (TL ops tr t0 L ops.size) o.dst r.1 :=
      TL_put hoi hri hLi hlt fun j oj h1 h2 h3 h4 d hd => (Oper.apart_spec (late j oj h1 h4 h3)).2.1 d hd
    have cont : ∀ (a' : Act) (w' : World) (φ' : Pl), SR P N w0 { t := putV (TL ops tr t0 L ops.size) o.dst r.1, m := M0, g := g0 } a' w' φ' → Dom tr k0 (fun x => L x || x == i) φ' →
        wpAny P .any ops (fun e a' w' => ∃ st' φ', Q e st' ∧ SR P N w0 st' a' w' φ') fuel (listed.setIfInBounds i true) a' w' := fun a' w' φ' hs' hd' => by
      refine ih (listed.setIfInBounds i true) (fun x => L x || x == i) (by simp [hsz]) (fun j hj => ?_) ?_ ?_ (fun j oj hLj hoj e he hb => ?_) a' w' φ' (by rw [hput]; exact hs') hd'
      · by_cases hij : i = j
        · subst hij
          have : i < listed.size := by omega
          simp [this]
        · rw [getD_set_ne true hij, hL j hj]
          simp [show (j == i) = false by simp; omega]
      · have := count_put hLi ops.size hlt
        omega
      · intro j hj
        rw [hLp j hj, Bool.false_or]
        simp; omega
      · by_cases hij : j = i
        · subst hij
          rw [hoi] at hoj
          cases hoj
          simp [hready e he hb]
        · have hLj' : L j = true := by simpa [hij] using hLj
          simp [hW j oj hLj' hoj e he hb]
    unfold wpOp
    simp only [hoi]
    have hmono : ∀ φ', (∀ b p, φ' b = some p → φ b = some p ∨ (r.2.1 ≤ b ∧ b < r.2.1 + r.2.2)) → Dom tr k0 (fun x => L x || x == i) φ' := fun φ' h b p hb => by
      rcases h b p hb with h | ⟨h1, h2⟩
      · rcases hd b p h with h | ⟨j, s, a1, a2, a3, a4⟩
        · exact .inl h
        · exact .inr ⟨j, s, by simp [a1], a2, a3, a4⟩
      · exact .inr ⟨i, r, by simp, hri, h1, h2⟩
    have hrow := hrows i o r hoi hri
    rcases hrow with ⟨hw, hr1, hr2⟩ | ⟨hw, ho⟩
    · rw [vwanted_sound (e2.trans hw) hs, if_neg (by simp)]
      refine cont _ w φ ?_ (hmono φ fun b p hb => .inl hb)
      rw [hr1]
      exact hs.put S.und hs.mem (Ev.refl _ _ _) (Bel.refl _ _)
    · rw [vwanted_sound (e2.trans hw) hs, if_pos rfl]
      left
      refine ho N a w φ _ _ hs.start hs.glob hs.mem (fun x hx => by rw [← e1 x hx]; exact hs.eval x) (fun x hx => ?_) fun u w' φ' h1 h2 h3 h4 h5 => cont _ w' φ' (hs.put h1 h2 h3 h4) (hmono φ' h5)
      cases hφ : φ (r.2.1 + x) with
      | none => rfl
      | some p =>
        exfalso
        rcases hd _ p hφ with h | ⟨j, s, a1, a2, a3, a4⟩
        · have := hk0 i r hri
          omega
        · rcases Nat.lt_trichotomy i j with h | h | h
          · have := hdis i j r s h hri a2; omega
          · subst h; rw [hLi] at a1; cases a1
          · have := hdis j i s r h a2 hri; omega

/-- What was there before. -/
def resetV (l : List Oper) (t0 t : List V) : List Nat → List V
  | [] => t
  | i :: S => match l[i]? with
    | some o => putV (resetV l t0 t S) o.dst (match o.dst with | some d => t0.getD d .any | none => .any)
    | none => resetV l t0 t S

theorem putV_len (t : List V) (d : Option Tmp) (v : V) : (putV t d v).length = t.length := by
  unfold putV
  split <;> simp
theorem putV_get (t : List V) (d : Option Tmp) (v : V) (x : Nat) : (putV t d v)[x]? = if d = some x ∧ x < t.length then some v else t[x]? := by
  unfold putV
  split
  · rename_i d
    rw [List.getElem?_set]
    by_cases h : d = x
    · subst h
      by_cases h2 : d < t.length
      · simp [h2]
      · simp [h2]
    · simp [h]
  · simp
theorem resetV_len (l : List Oper) (t0 t : List V) : ∀ (S : List Nat), (resetV l t0 t S).length = t.length
  | [] => rfl
  | i :: S => by
    unfold resetV
    split
    · rw [putV_len, resetV_len l t0 t S]
    · exact resetV_len l t0 t S
theorem resetV_in (l : List Oper) (t0 t : List V) (hl : t.length = t0.length) (x : Nat) : ∀ (S : List Nat), (∃ i ∈ S, ∃ o, l[i]? = some o ∧ o.dst = some x) → (resetV l t0 t S)[x]? = t0[x]?
  | [], h => by obtain ⟨i, h, _⟩ := h; cases h
  | i :: S, h => by
    unfold resetV
    have hx : x < t0.length → some (t0.getD x .any) = t0[x]? := fun h => by rw [List.getD_eq_getElem?_getD, List.getElem?_eq_getElem h]; rfl
    have hn : ¬ x < t0.length → t0[x]? = none := fun h => List.getElem?_eq_none (by omega)
    have rec0 : (∃ i ∈ S, ∃ o, l[i]? = some o ∧ o.dst = some x) → (resetV l t0 t S)[x]? = t0[x]? := resetV_in l t0 t hl x S
    split
    · rename_i o ho
      rw [putV_get, resetV_len, hl]
      by_cases hd : o.dst = some x
      · simp only [hd, true_and]
        split
        · rename_i h1; exact hx h1
        · rename_i h1
          rw [hn h1]
          exact List.getElem?_eq_none (by rw [resetV_len, hl]; omega)
      · simp only [hd, false_and, if_false]
        refine rec0 ?_
        obtain ⟨j, hj, oj, e1, e2⟩ := h
        rcases List.mem_cons.1 hj with rfl | hj
        · rw [ho] at e1; cases e1; exact absurd e2 hd
        · exact ⟨j, hj, oj, e1, e2⟩
    · rename_i ho
      refine rec0 ?_
      obtain ⟨j, hj, oj, e1, e2⟩ := h
      rcases List.mem_cons.1 hj with rfl | hj
      · rw [ho] at e1; cases e1
      · exact ⟨j, hj, oj, e1, e2⟩
theorem resetV_out (l : List Oper) (t0 t : List V) (x : Nat) : ∀ (S : List Nat), (¬ ∃ i ∈ S, ∃ o, l[i]? = some o ∧ o.dst = some x) → (resetV l t0 t S)[x]? = t[x]?
  | [], h => rfl
  | i :: S, h => by
    unfold resetV
    have rec0 := resetV_out l t0 t x S fun ⟨j, hj, e⟩ => h ⟨j, List.mem_cons_of_mem _ hj, e⟩
    split
    · rename_i o ho
      rw [putV_get, rec0]
      by_cases hd : o.dst = some x
      · exact absurd ⟨i, List.mem_cons_self .., o, ho, hd⟩ h
      · simp [hd]
    · exact rec0

theorem TL_len (L : Nat → Bool) : ∀ n, (TL ops tr t0 L n).length = t0.length
  | 0 => rfl
  | n + 1 => by
    simp only [TL]
    split
    · split
      · rw [putV_len, TL_len L n]
      · exact TL_len L n
    · exact TL_len L n

def subsN : List Nat → List (List Nat)
  | [] => [[]]
  | x :: l => subsN l ++ (subsN l).map (x :: ·)
theorem filter_subsN (f : Nat → Bool) : ∀ (l : List Nat), l.filter f ∈ subsN l
  | [] => by simp [subsN]
  | x :: l => by
    have := filter_subsN f l
    unfold subsN
    cases hf : f x with
    | true => rw [List.filter_cons_of_pos hf]; exact List.mem_append_right _ (List.mem_map.2 ⟨_, this, rfl⟩)
    | false => rw [List.filter_cons_of_neg (by simp [hf])]; exact List.mem_append_left _ this

/-- Those that must be done ahead of the p-th. -/
def needL (l : List Oper) (po : Oper) (p : Nat) : Nat → List Nat
  | 0 => []
  | n + 1 =>
    if (waitsOn po (p - (n + 1)) || (needL l po p n).any fun k => match l[k]? with | some o => waitsOn o (p - (n + 1)) | none => false) = true then (p - (n + 1)) :: needL l po p n else needL l po p n
theorem needL_done {l : List Oper} {po : Oper} {p : Nat} {L : Nat → Bool} (hready : ∀ e ∈ po.after, Region.binds .any e = true → L e.on = true) (hW : ∀ j oj, L j = true → l[j]? = some oj → ∀ e ∈ oj.after, Region.binds .any e = true → L e.on = true) : ∀ n, ∀ j ∈ needL l po p n, L j = true
  | 0, j, h => by cases h
  | n + 1, j, h => by
    have ih := needL_done (p := p) (L := L) hready hW n
    unfold needL at h
    split at h
    · rename_i hc
      rcases List.mem_cons.1 h with rfl | h
      · rw [Bool.or_eq_true] at hc
        rcases hc with hc | hc
        · obtain ⟨e, e1, e2, e3⟩ := waitsOn_spec hc
          rw [← e3]; exact hready e e1 e2
        · obtain ⟨k, hk, h2⟩ := List.any_eq_true.1 hc
          split at h2
          · rename_i o ho
            obtain ⟨e, e1, e2, e3⟩ := waitsOn_spec h2
            rw [← e3]; exact hW k o (ih k hk) ho e e1 e2
          · cases h2
      · exact ih j h
    · exact ih j h
/-- Those that the p-th does not wait for. -/
def freeOf (l : List Oper) (p : Nat) (po : Oper) : List Nat := (List.range p).filter fun i => !memN i (needL l po p p)
/-- All but S up to p. -/
def arrM (n p : Nat) (S : List Nat) : Array Bool := ((List.range n).map fun j => decide (j ≤ p) && !memN j S).toArray
def midPs (l : List Oper) (p : Nat) (Ss : List (List Nat)) : List (List Nat × List Nat) :=
  Ss.flatMap fun S => (exts l.toArray ((List.range l.length).countP fun j => !(arrM l.length p S).getD j true) (arrM l.length p S)).map fun q => (S, q)
def dstNe (o o' : Oper) : Bool := match o.dst, o'.dst with
  | some d, some d' => !(d == d')
  | _, _ => true
def midOk (l : List Oper) (p : Nat) : Bool := match l[p]? with
  | none => false
  | some po => (List.range l.length).all (fun j => decide (j ≤ p) || match l[j]? with | some o => waitsOn o p | none => true) &&
    (freeOf l p po).all fun u => (List.range p).all fun j => j == u || match l[j]?, l[u]? with | some o, some o' => dstNe o o' | _, _ => true
def freeL (l : List Oper) (p : Nat) : List Nat := match l[p]? with
  | none => []
  | some po => freeOf l p po

theorem memN_iff {x : Nat} : ∀ {l : List Nat}, memN x l = true ↔ x ∈ l
  | [] => by simp [memN]
  | y :: l => by
    have ih := memN_iff (x := x) (l := l)
    unfold memN
    rw [List.mem_cons]
    cases h : Nat.beq x y with
    | true =>
      have := Nat.eq_of_beq_eq_true h
      exact ⟨fun _ => .inl this, fun _ => rfl⟩
    | false =>
      refine ⟨fun h1 => .inr (ih.1 h1), fun h1 => ih.2 ?_⟩
      rcases h1 with h1 | h1
      · exact absurd h1 (Nat.ne_of_beq_eq_false h)
      · exact h1

/-- A region that draws, in which the p-th operation may do anything and all behind it wait for it. -/
theorem VW.evalMid {C CM : CEnv} {id : Nat} {l : List Oper} {st : VS} {Q : Exit → VS → Prop} (p : Nat) (ps : List (List Nat × List Nat)) (t' : List V) (m' : VM) (g' : List V) (hC : C.Ok P) (hM : CM.OkM P) (hm : P.follows .mixedOrders = true)
    (hc : (orderB l && midOk l p && noStore (l.take p) && guardsOk l.toArray l.length none (l.take p)) = true) (he : midPs l p (subsN (freeL l p)) = ps)
    (h : ∀ x ∈ ps, toSt ((veval P C l.toArray l.length none (l.take p) st).bind fun s => vseqM P C CM (opsAt l (p :: x.2)) { t := resetV l st.t s.t x.1, m := s.m, g := s.g }) t' m' g') (hQ : Q .normal { t := t', m := m', g := g' }) : VW P (.region id l.toArray true) Q st := by
  simp only [Bool.and_eq_true] at hc
  obtain ⟨⟨⟨c1, c2⟩, c3⟩, c4⟩ := hc
  unfold midOk at c2
  split at c2
  · cases c2
  rename_i po hpo
  simp only [Bool.and_eq_true, List.all_eq_true, List.mem_range, Bool.or_eq_true, decide_eq_true_eq, beq_iff_eq] at c2
  obtain ⟨c5, c6⟩ := c2
  have hfree : freeL l p = freeOf l p po := by unfold freeL; rw [hpo]
  rw [hfree] at he
  have hpl : p < l.length := (List.getElem?_eq_some_iff.1 hpo).1
  have hp1 : (l.take p).length = p := by simp; omega
  cases hv : veval P C l.toArray l.length none (l.take p) st with
  | none =>
    exfalso
    have hne : ps ≠ [] := by
      rw [← he]
      unfold midPs
      intro hh
      have h1 := List.flatMap_eq_nil_iff.1 hh _ (filter_subsN (fun _ => true) (freeOf l p po))
      rw [List.map_eq_nil_iff] at h1
      exact exts_ne _ _ _ h1
    obtain ⟨x, hx⟩ := List.exists_mem_of_ne_nil _ hne
    obtain ⟨t, h1, _⟩ := (h x hx).get
    rw [hv] at h1
    cases h1
  | some st1 =>
    have hste := veval_ste _ _ _ _ _ hv c4 (fun _ _ h => by cases h)
    have hdl : DL P l.toArray (l.take p) st st1 := by simpa using hste.dl (rest := []) hC c3 DL.nil
    refine VW.entPost fun N w0 a w φ hs => ?_
    obtain ⟨hg, bl, hbl, h'⟩ := hdl
    obtain ⟨tr, hd, hde⟩ := h' []
    rw [List.append_nil, hbl] at hd
    have hget : ∀ j, j < (l.take p).length → (l.take p)[j]? = l.toArray[0 + j]? := fun j hj => by
      rw [hp1] at hj
      simp [List.getElem?_take, hj]
    obtain ⟨h1, h2, h3, h4⟩ := DT.rows' (tr := tr) (n := 0) (t0 := st.t) hd hget (fun j => by simp) rfl
    have hfin := DE.final' (ops := l.toArray) (tr := tr) (t0 := st.t) hde 0 hget (fun j => by simp) rfl
    rw [hp1, Nat.zero_add] at hfin
    rw [hp1] at h1
    refine wp_region_any hm ?_
    have hs1 : SR P N w0 st a (w.drewN 1) φ := by
      obtain ⟨d1, d2⟩ := hs.mem.drewN 1
      exact ⟨hs.defers, hs.size, fun i v hi => by
        obtain ⟨u, b1, b2⟩ := hs.tmps i v hi
        exact ⟨u, b1, b2.ev d2⟩, d1, hs.below.trans (below_drewN N w 1), hs.start, Sl.ev d2 hs.gh, hs.gl⟩
    have hs2 := hs1.more bl
    have htl : TL l.toArray tr st.t (fun _ => false) l.toArray.size = st.t := by
      have : ∀ n, TL l.toArray tr st.t (fun _ => false) n = st.t := fun n => by
        induction n with
        | zero => rfl
        | succ n ih => simp only [TL]; split <;> simp [ih]
      exact this _
    have htlp : ∀ (L : Nat → Bool) n, p ≤ n → TL l.toArray tr st.t L n = TL l.toArray tr st.t L p := fun L n => by
      induction n with
      | zero => intro hn; rw [show p = 0 by omega]
      | succ n ih =>
        intro hn
        rcases Nat.lt_or_ge n p with hlt | hge
        · rw [show p = n + 1 by omega]
        · have : tr[n]? = none := List.getElem?_eq_none (by omega)
          simp only [TL, this]
          rw [← ih hge]
          split <;> first | rfl | (rename_i h; cases h)
    refine draw_mid (Q := fun e s => ∃ s', Ent s s' ∧ Q e s') (tr := tr) (t0 := st.t) (M0 := st.m ++ bl) (k0 := st.m.length) (p := p) (po := po) (by simpa using c1) h1.symm (by simpa using hpo) (fun j o hj ho => ?_) (fun j oj r ho hr => ?_) h3 h4 (fun fuel listed L hsz hL hcnt hLp hready hW => ?_) _ _ (fun _ => false) (by simp) (fun j hj => by simp at hj; simp [hj]) (by simp) (fun _ _ => rfl) (fun j oj h => by cases h) a _ φ (by rw [htl]; exact hs2) fun b p hb => .inl (hs.mem.dom b p hb)
    · have ho' : l[j]? = some o := by simpa using ho
      rcases c5 j (List.getElem?_eq_some_iff.1 ho').1 with h | h
      · omega
      · rw [ho'] at h
        exact waitsOn_spec h
    · have hj : j < p := by rw [h1]; exact (List.getElem?_eq_some_iff.1 hr).1
      have e := hget j (by omega)
      rw [Nat.zero_add, ho] at e
      have := h2 j oj r e hr
      simpa using this
    · -- all but S
      have hnl : l.toArray.size = l.length := by simp
      rw [hnl] at hsz
      have hS : (freeOf l p po).filter (fun j => !L j) ∈ subsN (freeOf l p po) := filter_subsN _ _
      generalize hSe : (freeOf l p po).filter (fun j => !L j) = S at hS
      have hmS : ∀ j, j < p → (memN j S = true ↔ L j = false) := fun j hj => by
        rw [memN_iff, ← hSe, List.mem_filter]
        constructor
        · intro ⟨_, h⟩; simpa using h
        · intro hLj
          refine ⟨?_, by simp [hLj]⟩
          unfold freeOf
          rw [List.mem_filter]
          refine ⟨List.mem_range.2 hj, ?_⟩
          cases hw : memN j (needL l po p p) with
          | false => rfl
          | true =>
            exfalso
            have := needL_done (L := L) hready (fun j oj h1 h2 => hW j oj h1 (by simpa using h2)) p j (memN_iff.1 hw)
            rw [hLj] at this
            cases this
      have hSp : ∀ j, memN j S = true → j < p := fun j hj => by
        rw [memN_iff, ← hSe, List.mem_filter] at hj
        unfold freeOf at hj
        exact List.mem_range.1 (List.mem_filter.1 hj.1).1
      have hlist : listed.setIfInBounds p true = arrM l.length p S := by
        refine Array.ext_getElem? fun j => ?_
        by_cases hj : j < l.length
        · have e1 : listed.getD j true = L j := hL j (by simpa using hj)
          rw [Array.getD_eq_getD_getElem?, Array.getElem?_eq_getElem (by omega)] at e1
          simp only [Option.getD_some] at e1
          rw [Array.getElem?_setIfInBounds]
          unfold arrM
          by_cases hjp : p = j
          · subst hjp
            have : memN p S = false := by
              cases hm : memN p S with
              | false => rfl
              | true => exact absurd (hSp p hm) (by omega)
            simp [this, hj, hsz]
          · rw [if_neg hjp, Array.getElem?_eq_getElem (by omega), e1]
            simp only [List.getElem?_toArray, List.getElem?_map]
            rw [List.getElem?_range hj]
            simp only [Option.map_some]
            rcases Nat.lt_or_ge j p with hlt | hge
            · have := hmS j hlt
              cases hLj : L j with
              | true =>
                have : memN j S = false := by
                  cases hm : memN j S with
                  | false => rfl
                  | true => rw [(hmS j hlt).1 hm] at hLj; cases hLj
                simp [this]; omega
              | false => simp [(hmS j hlt).2 hLj]
            · rw [hLp j hge]
              have : ¬ j ≤ p := by omega
              simp [this]
        · rw [Array.getElem?_eq_none (by simp; omega), Array.getElem?_eq_none (by simp [arrM]; omega)]
      have hfuel : fuel = (List.range l.length).countP fun j => !(arrM l.length p S).getD j true := by
        have hLpp := hLp p (Nat.le_refl _)
        have e1 := count_put (L := L) hLpp l.length hpl
        rw [hnl] at hcnt
        have e2 : (List.range l.length).countP (fun j => !(L j || j == p)) = (List.range l.length).countP fun j => !(arrM l.length p S).getD j true := by
          refine List.countP_congr fun j hj => ?_
          rw [← hlist]
          have hj' := List.mem_range.1 hj
          by_cases hjp : p = j
          · subst hjp
            rw [Array.getD_eq_getD_getElem?]
            simp [hsz, hj']
          · rw [getD_set_ne true hjp, hL j (by simpa using hj')]
            have : (j == p) = false := by simp; exact fun h => hjp h.symm
            rw [this]
            simp
        omega
      have hT : TL l.toArray tr st.t L l.toArray.size = resetV l st.t st1.t S := by
        rw [htlp L _ (by simp; omega)]
        refine List.ext_getElem? fun x => ?_
        by_cases hx : ∃ i ∈ S, ∃ o, l[i]? = some o ∧ o.dst = some x
        · rw [resetV_in l st.t st1.t (by rw [hfin, TL_len]) x S hx]
          have := TL_agree (ops := l.toArray) (tr := tr) (t0 := st.t) (L := L) (i := 0) (d := x) (fun j oj hj => absurd hj (Nat.not_lt_zero j)) (n := p) (Nat.zero_le _) (fun j oj _ hjp hLj hoj hjx => by
            obtain ⟨i, hi, o, ho, hox⟩ := hx
            have hiS := memN_iff.2 hi
            have hip := hSp i hiS
            have hiF : i ∈ freeOf l p po := by
              have hh := hi
              rw [← hSe, List.mem_filter] at hh
              exact hh.1
            rcases c6 i hiF j hjp with h | h
            · subst h
              rw [(hmS j hjp).1 hiS] at hLj
              cases hLj
            · have hoj' : l[j]? = some oj := by simpa using hoj
              rw [hoj', ho] at h
              simp [dstNe, hjx, hox] at h)
          rw [this]
          rfl
        · rw [resetV_out l st.t st1.t x S hx, hfin]
          refine TL_agree (fun j oj hj hoj hjx => ?_) (Nat.le_refl _) (fun j oj h1 h2 => absurd h1 (by omega))
          cases hLj : L j with
          | true => rfl
          | false => exact absurd ⟨j, memN_iff.1 ((hmS j hj).2 hLj), oj, by simpa using hoj, hjx⟩ hx
      rw [hT, hlist, hfuel, ← hbl, ← hg]
      -- the p-th, and what follows
      have hall : ∀ q ∈ exts l.toArray ((List.range l.length).countP fun j => !(arrM l.length p S).getD j true) (arrM l.length p S), ∃ s, vseqM P C CM (opsAt l (p :: q)) { t := resetV l st.t st1.t S, m := st1.m, g := st1.g } = some s ∧ ∃ s', Ent s s' ∧ Q .normal s' := fun q hq => by
        have hmem : (S, q) ∈ ps := by
          rw [← he]
          exact List.mem_flatMap.2 ⟨S, hS, List.mem_map.2 ⟨q, hq, rfl⟩⟩
        obtain ⟨t, g1, g2⟩ := (h _ hmem).get
        rw [hv, Option.bind_some] at g1
        exact ⟨_, g1, _, Ent.le g2, hQ⟩
      obtain ⟨q0, hq0⟩ := List.exists_mem_of_ne_nil _ (exts_ne l.toArray ((List.range l.length).countP fun j => !(arrM l.length p S).getD j true) (arrM l.length p S))
      unfold VO
      simp only [opsAt, hpo, vseqM] at hall
      cases hs3 : vstepM P C CM { t := resetV l st.t st1.t S, m := st1.m, g := st1.g } po with
      | none =>
        obtain ⟨s, g1, _⟩ := hall q0 hq0
        rw [hs3] at g1
        cases g1
      | some st2 =>
        rw [hs3] at hall
        simp only [Option.bind_some] at hall
        exact VL.stepM hC hM hs3 (VL.nil (.inl ⟨rfl, VA.of hC hM _ _ _ (Nat.le_refl _) hall⟩))
attribute [simp] resetV
end
end Go.VL
