/- Regions that draw their order: whatever the order, the same values. -/
import Derived.Test.YtboeddbhfnlpaaaVxCode
import Derived.Still
namespace Go.VL
open Go.RowKit
set_option linter.unusedSimpArgs false
set_option linter.unusedVariables false

/-! ### What needs the memory needs no less of it -/
section
variable {P : Program} {m : VM}

theorem at_more (l : VM) {b : Nat} {x : Option (Nat × List (List V))} (h : m[b]? = some x) : (m ++ l)[b]? = some x := by
  rw [List.getElem?_append_left (List.getElem?_eq_some_iff.1 h).1]; exact h

theorem vrd_more (l : VM) {x : V} {r : List V × Nat} (h : vrd m x = some r) : vrd (m ++ l) x = some r := by
  unfold vrd at h ⊢
  split at h
  · split at h
    · rename_i hb; rw [at_more l hb]; exact h
    · cases h
  · exact h
  · cases h

theorem vload0_more (l : VM) {t : TypeId} {x v : V} (h : vload0 P m t x = some v) : vload0 P (m ++ l) t x = some v := by
  unfold vload0 at h ⊢
  cases hr : vrd m x with
  | none => simp [hr] at h
  | some r => rw [hr] at h; rw [vrd_more l hr]; exact h

theorem vload_more (l : VM) {t : TypeId} {x v : V} (h : vload P m t x = some v) : vload P (m ++ l) t x = some v := by
  unfold vload at h ⊢
  rw [Option.map_eq_some_iff] at h ⊢
  obtain ⟨v0, h0, rfl⟩ := h
  exact ⟨v0, vload0_more l h0, rfl⟩
theorem vidx_more (l : VM) {T : TK} {x v : V} {k : Nat} (h : vidx P m T x k = some v) : vidx P (m ++ l) T x k = some v := by
  unfold vidx at h ⊢
  split at h
  · exact h
  · split at h
    · rename_i hb; simp only [at_more l hb]; exact h
    · cases h
  · exact h
  · exact h
  · exact h
  · cases h

theorem vslice_more (l : VM) {T : TK} {x v : V} {lo hi : Option V} (h : vslice P m T x lo hi = some v) : vslice P (m ++ l) T x lo hi = some v := by
  unfold vslice at h ⊢
  cases hl : vbound lo 0 with
  | none => simp [hl] at h
  | some q =>
    simp only [hl, Option.bind_some] at h ⊢
    split at h
    · exact h
    · exact h
    · exact h
    · split at h
      · rename_i hb; simp only [at_more l hb]; exact h
      · cases h
    · exact h
    · exact h
    · exact h
    · cases h

theorem vbytes_more (l : VM) {x : V} {ns : List Int} (h : vbytes m x = some ns) : vbytes (m ++ l) x = some ns := by
  unfold vbytes at h ⊢
  split at h
  · exact h
  · exact h
  · split at h
    · rename_i hb; simp only [at_more l hb]; exact h
    · cases h
  · split at h
    · rename_i hb; simp only [at_more l hb]; exact h
    · cases h
  · cases h

theorem vconvM_more (l : VM) {T D : TK} {x v : V} (h : vconvM P m T D x = some v) : vconvM P (m ++ l) T D x = some v := by
  unfold vconvM at h ⊢
  split at h
  · split at h
    · rename_i hc
      rw [Option.map_eq_some_iff] at h
      obtain ⟨ns, h0, rfl⟩ := h
      rw [if_pos hc, vbytes_more l h0]
      rfl
    · cases h
  · exact h

theorem vq_more (l : VM) {ρ : Operand → V} {op : Op} {v : V} (h : vq P m ρ op = some v) : vq P (m ++ l) ρ op = some v := by
  unfold vq at h ⊢
  split at h <;> try exact h
  · exact vload_more l h
  · exact vconvM_more l h
  · exact vslice_more l h
  · rename_i t x i
    cases hn : natOf (ρ i) with
    | none => simp [hn] at h
    | some k => simp only [hn, Option.bind_some] at h ⊢; exact vidx_more l h
end

/-! ### The trace in the text's order -/
abbrev Row := V × Nat × Nat

/-- 'DT P ops M l t k tr': in the text's order, from temporaries t and next block k on, the operations l yield what the rows tr tell (value, first block, number of blocks), all blocks being told by M. -/
inductive DT (P : Program) (ops : Array Oper) (M : VM) : List Oper → List V → Nat → List Row → Prop
  | nil {t : List V} {k : Nat} : DT P ops M [] t k []
  | skip {o : Oper} {l : List Oper} {t : List V} {k : Nat} {tr : List Row} (hw : vwanted ops t o = some false) (h : DT P ops M l (putV t o.dst und) k tr) : DT P ops M (o :: l) t k ((und, k, 0) :: tr)
  | op {o : Oper} {l : List Oper} {t : List V} {k cnt : Nat} {r : V} {tr : List Row} (hw : vwanted ops t o = some true) (ho : OpY P o M (ev t) r k cnt) (h : DT P ops M l (putV t o.dst r) (k + cnt) tr) : DT P ops M (o :: l) t k ((r, k, cnt) :: tr)

/-- The temporaries when of the first n operations those in L have been carried out. -/
def TL (ops : Array Oper) (tr : List Row) (t0 : List V) (L : Nat → Bool) : Nat → List V
  | 0 => t0
  | n + 1 => match ops[n]?, tr[n]? with
    | some o, some r => if L n then putV (TL ops tr t0 L n) o.dst r.1 else TL ops tr t0 L n
    | _, _ => TL ops tr t0 L n

section
variable {P : Program} {ops : Array Oper} {tr : List Row} {t0 : List V} {M : VM}

/-- What the trace says of operation i. -/
def RowOk (P : Program) (ops : Array Oper) (M : VM) (tr : List Row) (t0 : List V) (i : Nat) (o : Oper) (r : Row) : Prop :=
  (vwanted ops (TL ops tr t0 (fun _ => true) i) o = some false ∧ r.1 = und ∧ r.2.2 = 0) ∨
  (vwanted ops (TL ops tr t0 (fun _ => true) i) o = some true ∧ OpY P o M (ev (TL ops tr t0 (fun _ => true) i)) r.1 r.2.1 r.2.2)

theorem DT.rows : ∀ {l : List Oper} {t : List V} {k n : Nat} {tr' : List Row}, DT P ops M l t k tr' → (∀ j, l[j]? = ops[n + j]?) → (∀ j, tr'[j]? = tr[n + j]?) → t = TL ops tr t0 (fun _ => true) n →
    l.length = tr'.length ∧ (∀ (j : Nat) (o : Oper) (r : Row), l[j]? = some o → tr'[j]? = some r → RowOk P ops M tr t0 (n + j) o r) ∧ (∀ (j : Nat) (r : Row), tr'[j]? = some r → k ≤ r.2.1) ∧ (∀ (i j : Nat) (r s : Row), i < j → tr'[i]? = some r → tr'[j]? = some s → r.2.1 + r.2.2 ≤ s.2.1)
  | _, _, _, _, _, .nil, _, _, _ => by simp
  | _, _, k, n, _, .skip (o := o) (l := l) (tr := tr') hw h, hl, htr, ht => by
    have h0 := hl 0
    have h1 := htr 0
    simp at h0 h1
    have hstep : putV (TL ops tr t0 (fun _ => true) n) o.dst und = TL ops tr t0 (fun _ => true) (n + 1) := by simp [TL, ← h0, ← h1]
    obtain ⟨a1, a2, a3, a4⟩ := DT.rows (n := n + 1) h (fun j => by have := hl (j + 1); simpa [Nat.add_assoc, Nat.add_comm 1] using this) (fun j => by have := htr (j + 1); simpa [Nat.add_assoc, Nat.add_comm 1] using this) (by rw [ht]; exact hstep)
    refine ⟨by simp [a1], fun j o' r ho hr => ?_, fun j r hr => ?_, fun i j r s hij hr hs => ?_⟩
    · cases j with
      | zero => simp at ho hr; subst ho; subst hr; exact .inl ⟨by rw [Nat.add_zero, ← ht]; exact hw, rfl, rfl⟩
      | succ j => have := a2 j o' r (by simpa using ho) (by simpa using hr); rwa [show n + 1 + j = n + (j + 1) by omega] at this
    · cases j with
      | zero => simp at hr; subst hr; exact Nat.le_refl _
      | succ j => exact a3 j r (by simpa using hr)
    · cases j with
      | zero => omega
      | succ j =>
        cases i with
        | zero => simp at hr; subst hr; exact a3 j s (by simpa using hs)
        | succ i => exact a4 i j r s (by omega) (by simpa using hr) (by simpa using hs)
  | _, _, k, n, _, .op (o := o) (l := l) (tr := tr') (r := r0) (cnt := cnt) hw ho0 h, hl, htr, ht => by
    have h0 := hl 0
    have h1 := htr 0
    simp at h0 h1
    have hstep : putV (TL ops tr t0 (fun _ => true) n) o.dst r0 = TL ops tr t0 (fun _ => true) (n + 1) := by simp [TL, ← h0, ← h1]
    obtain ⟨a1, a2, a3, a4⟩ := DT.rows (n := n + 1) h (fun j => by have := hl (j + 1); simpa [Nat.add_assoc, Nat.add_comm 1] using this) (fun j => by have := htr (j + 1); simpa [Nat.add_assoc, Nat.add_comm 1] using this) (by rw [ht]; exact hstep)
    refine ⟨by simp [a1], fun j o' r ho hr => ?_, fun j r hr => ?_, fun i j r s hij hr hs => ?_⟩
    · cases j with
      | zero => simp at ho hr; subst ho; subst hr; exact .inr ⟨by rw [Nat.add_zero, ← ht]; exact hw, by rw [Nat.add_zero, ← ht]; exact ho0⟩
      | succ j => have := a2 j o' r (by simpa using ho) (by simpa using hr); rwa [show n + 1 + j = n + (j + 1) by omega] at this
    · cases j with
      | zero => simp at hr; subst hr; exact Nat.le_refl _
      | succ j => have := a3 j r (by simpa using hr); omega
    · cases j with
      | zero => omega
      | succ j =>
        cases i with
        | zero => simp at hr; subst hr; exact a3 j s (by simpa using hs)
        | succ i => exact a4 i j r s (by omega) (by simpa using hr) (by simpa using hs)

theorem TL_length (L : Nat → Bool) (n : Nat) : (TL ops tr t0 L n).length = t0.length := by
  induction n with
  | zero => rfl
  | succ n ih =>
    simp only [TL]
    split
    · split
      · rename_i o r _ _ _; cases ho : o.dst <;> simp [putV, ho, ih]
      · exact ih
    · exact ih

theorem putV_comm (t : List V) {x y : Option Tmp} (u v : V) (h : ∀ d, x = some d → y ≠ some d) : putV (putV t x u) y v = putV (putV t y v) x u := by
  cases x with
  | none => rfl
  | some d =>
    cases y with
    | none => rfl
    | some e =>
      have hne : d ≠ e := fun he => h d rfl (he ▸ rfl)
      simp [putV, List.set_comm _ _ hne]

/-- One more has been carried out. -/
theorem TL_put {L : Nat → Bool} {i : Nat} {o : Oper} {r : Row} (hi : ops[i]? = some o) (hr : tr[i]? = some r) (hL : L i = false) {n : Nat} (hn : i < n) (hap : ∀ j oj, i < j → j < n → L j = true → ops[j]? = some oj → ∀ d, o.dst = some d → oj.dst ≠ some d) :
    TL ops tr t0 (fun x => L x || x == i) n = putV (TL ops tr t0 L n) o.dst r.1 := by
  have same : ∀ n, n ≤ i → TL ops tr t0 (fun x => L x || x == i) n = TL ops tr t0 L n := by
    intro n
    induction n with
    | zero => intro _; rfl
    | succ n ih =>
      intro hle
      simp only [TL, ih (by omega), show (n == i) = false by simp; omega, Bool.or_false]
  induction n with
  | zero => omega
  | succ n ih =>
    by_cases hni : n = i
    · subst hni
      simp [TL, hi, hr, same n (Nat.le_refl _), hL]
    · have ih' := ih (by omega) fun j oj h1 h2 => hap j oj h1 (by omega)
      simp only [TL, ih', show (n == i) = false by simp; omega, Bool.or_false]
      split
      · rename_i oj rj hoj hrj
        split
        · rename_i hLn
          exact putV_comm _ _ _ fun d hd => hap n oj (by omega) (by omega) hLn hoj d hd
        · rfl
      · rfl

/-- What operation i looks at is as in the text's order. -/
theorem TL_agree {L : Nat → Bool} {i d : Nat} (h1 : ∀ j oj, j < i → ops[j]? = some oj → oj.dst = some d → L j = true) {n : Nat} (hn : i ≤ n) (h2 : ∀ j oj, i ≤ j → j < n → L j = true → ops[j]? = some oj → oj.dst ≠ some d) :
    (TL ops tr t0 L n)[d]? = (TL ops tr t0 (fun _ => true) i)[d]? := by
  have low : ∀ n, n ≤ i → (TL ops tr t0 L n)[d]? = (TL ops tr t0 (fun _ => true) n)[d]? := by
    intro n
    induction n with
    | zero => intro _; rfl
    | succ n ih =>
      intro hle
      have ih' := ih (by omega)
      simp only [TL]
      cases ho : ops[n]? with
      | none => exact ih'
      | some o =>
        cases hr : tr[n]? with
        | none => exact ih'
        | some r =>
          simp only [if_true]
          by_cases hd : o.dst = some d
          · rw [if_pos (h1 n o (by omega) ho hd)]
            simp [putV, hd, List.getElem?_set, TL_length]
          · have keep : ∀ t : List V, (putV t o.dst r.1)[d]? = t[d]? := fun t => by
              cases hod : o.dst with
              | none => rfl
              | some e => simp only [putV]; rw [List.getElem?_set_ne]; intro he; exact hd (he ▸ hod)
            split
            · rw [keep, keep, ih']
            · rw [keep, ih']
  have high : ∀ k, i + k ≤ n → (TL ops tr t0 L (i + k))[d]? = (TL ops tr t0 (fun _ => true) i)[d]? := by
    intro k
    induction k with
    | zero => intro _; exact low i (Nat.le_refl _)
    | succ k ih =>
      intro hle
      have ih' := ih (by omega)
      rw [show i + (k + 1) = i + k + 1 by omega]
      simp only [TL]
      cases ho : ops[i + k]? with
      | none => exact ih'
      | some o =>
        cases hr : tr[i + k]? with
        | none => exact ih'
        | some r =>
          by_cases hL : L (i + k) = true
          · have hd := h2 (i + k) o (by omega) (by omega) hL ho
            rw [← ih']
            simp only [hL, if_true]
            cases hod : o.dst with
            | none => rfl
            | some e => simp only [putV]; rw [List.getElem?_set_ne]; intro he; exact hd (he ▸ hod)
          · simp only [hL]; exact ih'
  have := high (n - i) (by omega)
  rwa [show i + (n - i) = n by omega] at this

/-! ### What the order's check tells -/
theorem lexFrom_spec {md : Region.Mode} : ∀ (fuel k : Nat) (listed : Array Bool), Region.lexFrom md ops fuel k listed = true → (∀ j, listed.getD j true = false ↔ (k ≤ j ∧ j < ops.size)) → (∀ j, listed.getD j false = true ↔ j < k) → listed.size = ops.size → k + fuel = ops.size →
    ∀ i oi, k ≤ i → ops[i]? = some oi → (∀ e ∈ oi.after, Region.binds md e = true → e.on < i) ∧ (∀ j oj, i < j → ops[j]? = some oj → (∃ e ∈ oj.after, Region.binds md e = true ∧ e.on = i) ∨ oi.apart ops oj = true)
  | 0, k, listed, _, _, _, _, hk, i, oi, hi, ho => by
    have := (Array.getElem?_eq_some_iff.1 ho).1
    omega
  | fuel + 1, k, listed, h, hL, hL', hsz, hk, i, oi, hi, ho => by
    simp only [Region.lexFrom, Bool.and_eq_true] at h
    obtain ⟨⟨h1, h2⟩, h3⟩ := h
    by_cases hik : i = k
    · subst hik
      have hr : i ∈ Region.ready md ops listed := by simpa using h1
      obtain ⟨b1, o, b2, b3⟩ := mem_ready.1 hr
      rw [ho] at b2
      cases b2
      refine ⟨fun e he hb => (hL' _).1 (b3 e he hb), fun j oj hj hoj => ?_⟩
      by_cases hw : ∃ e ∈ oj.after, Region.binds md e = true ∧ e.on = i
      · exact .inl hw
      · exact .inr (Region.free_spec ho h2 j oj hoj (by omega) ((hL j).2 ⟨by omega, (Array.getElem?_eq_some_iff.1 hoj).1⟩) fun e he hb heq => hw ⟨e, he, hb, heq⟩)
    · refine lexFrom_spec fuel (k + 1) _ h3 (fun j => ?_) (fun j => ?_) (by simp [hsz]) (by omega) i oi (by omega) ho
      · by_cases hjk : k = j
        · subst hjk
          have : k < listed.size := by omega
          simp [this]
          omega
        · rw [getD_set_ne true hjk, hL]; omega
      · by_cases hjk : k = j
        · subst hjk
          have : k < listed.size := by omega
          simp [this]
        · rw [getD_set_ne false hjk, hL']; omega

theorem lexB_spec {md : Region.Mode} (h : Region.lexB md ops = true) : ∀ i oi, ops[i]? = some oi → (∀ e ∈ oi.after, Region.binds md e = true → e.on < i) ∧ (∀ j oj, i < j → ops[j]? = some oj → (∃ e ∈ oj.after, Region.binds md e = true ∧ e.on = i) ∨ oi.apart ops oj = true) := by
  intro i oi ho
  unfold Region.lexB at h
  simp only [Bool.and_eq_true] at h
  refine lexFrom_spec ops.size 0 _ h.2 (fun j => ?_) (fun j => ?_) (by simp) (by omega) i oi (by omega) ho
  · by_cases hj : j < ops.size
    · simp [hj]
    · simp [hj]
  · by_cases hj : j < ops.size
    · simp [hj]
    · simp [hj]

/-! ### The order's check, quick to compute -/
def memN (d : Nat) : List Nat → Bool
  | [] => false
  | e :: l => match Nat.beq d e with
    | true => true
    | false => memN d l

theorem memN_spec {d : Nat} : ∀ {l : List Nat}, memN d l = true ↔ d ∈ l
  | [] => by simp [memN]
  | e :: l => by
    unfold memN
    cases h : Nat.beq d e with
    | true => have := Nat.eq_of_beq_eq_true h; simp [this]
    | false => have := Nat.ne_of_beq_eq_false h; simp [this, memN_spec]

def disjN : List Nat → List Nat → Bool
  | [], _ => true
  | d :: l, m => match memN d m with
    | true => false
    | false => disjN l m

theorem disjN_spec {m : List Nat} : ∀ {l : List Nat}, disjN l m = true → ∀ d ∈ l, d ∉ m
  | [], _, d, hd => by cases hd
  | e :: l, h, d, hd => by
    unfold disjN at h
    cases hm : memN e m with
    | true => rw [hm] at h; cases h
    | false =>
      rw [hm] at h
      rcases List.mem_cons.1 hd with rfl | hd
      · intro hc; rw [memN_spec.2 hc] at hm; cases hm
      · exact disjN_spec h d hd

def ltN (i : Nat) : List Nat → Bool
  | [] => true
  | e :: l => match Nat.ble (e + 1) i with
    | true => ltN i l
    | false => false

theorem ltN_spec {i : Nat} : ∀ {l : List Nat}, ltN i l = true → ∀ e ∈ l, e < i
  | [], _, d, hd => by cases hd
  | e :: l, h, d, hd => by
    unfold ltN at h
    cases hm : Nat.ble (e + 1) i with
    | false => rw [hm] at h; cases h
    | true =>
      rw [hm] at h
      rcases List.mem_cons.1 hd with rfl | hd
      · exact Nat.le_of_ble_eq_true hm
      · exact ltN_spec h d hd

def forceL {α : Type} : List Nat → (List Nat → α) → α
  | [], k => k []
  | e :: l, k => forceL l fun l => k (e :: l)

theorem forceL_eq {α : Type} : ∀ (l : List Nat) (k : List Nat → α), forceL l k = k l
  | [], _ => rfl
  | e :: l, k => by unfold forceL; rw [forceL_eq l]

def dstN (o : Oper) : List Nat := match o.dst with
  | some d => [d]
  | none => []
def tmpsN : List Operand → List Nat
  | [] => []
  | .tmp t :: l => t :: tmpsN l
  | _ :: l => tmpsN l
def dstAt (g : Nat) : List Oper → List Nat
  | [] => []
  | o :: l => match g with
    | 0 => dstN o
    | g + 1 => dstAt g l
def looksN (ops : List Oper) (o : Oper) : List Nat := match o.guard with
  | none => tmpsN o.op.operands.toList
  | some (g, _) => dstAt g ops ++ tmpsN o.op.operands.toList
def afterN : List Edge → List Nat
  | [] => []
  | e :: l => match e.ground with
    | .textOnly _ => afterN l
    | .gcOnly _ => afterN l
    | _ => e.on :: afterN l

theorem tmpsN_mem {d : Nat} : ∀ {l : List Operand}, .tmp d ∈ l → d ∈ tmpsN l
  | x :: l, h => by
    rcases List.mem_cons.1 h with h | h
    · subst h; exact List.mem_cons_self
    · have := tmpsN_mem h
      cases x <;> simp only [tmpsN] <;> first | exact this | exact List.mem_cons_of_mem _ this
theorem dstAt_mem {d : Nat} {o : Oper} (hd : o.dst = some d) : ∀ (g : Nat) (l : List Oper), l[g]? = some o → d ∈ dstAt g l := by
  intro g
  induction g with
  | zero =>
    intro l h
    cases l with
    | nil => simp at h
    | cons x l => simp at h; subst h; simp [dstAt, dstN, hd]
  | succ g ih =>
    intro l h
    cases l with
    | nil => simp at h
    | cons x l => exact ih l (by simpa using h)
theorem looksN_mem {ops : Array Oper} {o : Oper} {d : Nat} (h : d ∈ o.looksAt ops) : d ∈ looksN ops.toList o := by
  unfold Oper.looksAt at h
  rcases List.mem_append.1 h with h | h
  · obtain ⟨x, hx, he⟩ := List.mem_filterMap.1 h
    have : d ∈ tmpsN o.op.operands.toList := by
      cases x <;> simp at he
      subst he
      exact tmpsN_mem hx
    unfold looksN
    cases o.guard with
    | none => exact this
    | some g => exact List.mem_append_right _ this
  · cases hg : o.guard with
    | none => rw [hg] at h; cases h
    | some gw =>
      obtain ⟨g, w⟩ := gw
      rw [hg] at h
      unfold looksN
      rw [hg]
      refine List.mem_append_left _ ?_
      simp only at h
      cases ho : ops[g]? with
      | none => simp [ho] at h
      | some og =>
        simp [ho] at h
        exact dstAt_mem h _ _ (by simpa using ho)
theorem afterN_spec {d : Nat} : ∀ {l : List Edge}, d ∈ afterN l ↔ ∃ e ∈ l, Region.binds .any e = true ∧ e.on = d
  | [] => by simp [afterN]
  | e :: l => by
    have ih := @afterN_spec d l
    unfold afterN
    constructor
    · intro h
      have up : d ∈ afterN l → ∃ x ∈ e :: l, Region.binds .any x = true ∧ x.on = d := fun h => by
        obtain ⟨x, h1, h2⟩ := ih.1 h
        exact ⟨x, List.mem_cons_of_mem _ h1, h2⟩
      have on : Region.binds .any e = true → d ∈ e.on :: afterN l → ∃ x ∈ e :: l, Region.binds .any x = true ∧ x.on = d := fun hb h => by
        rcases List.mem_cons.1 h with h | h
        · exact ⟨e, List.mem_cons_self, hb, h.symm⟩
        · exact up h
      cases hg : e.ground <;> rw [hg] at h <;> simp only at h <;> first | exact up h | exact on (by simp [Region.binds, hg]) h
    · rintro ⟨x, h1, h2, h3⟩
      rcases List.mem_cons.1 h1 with rfl | h1
      · cases hg : x.ground <;> simp [Region.binds, hg] at h2 ⊢ <;> first | exact .inl h3.symm | (cases h2)
      · have := ih.2 ⟨x, h1, h2, h3⟩
        cases hg : e.ground <;> simp only <;> first | exact this | exact List.mem_cons_of_mem _ this

structure RowN where
  dst : List Nat
  looks : List Nat
  after : List Nat
def rowsN (ops : List Oper) : List Oper → (List RowN → Bool) → Bool
  | [], k => k []
  | o :: l, k => forceL (dstN o) fun d => forceL (looksN ops o) fun s => forceL (afterN o.after.toList) fun a => rowsN ops l fun rs => k (⟨d, s, a⟩ :: rs)
def rowN (ops : List Oper) (o : Oper) : RowN := ⟨dstN o, looksN ops o, afterN o.after.toList⟩
theorem rowsN_eq (ops : List Oper) : ∀ (l : List Oper) (k : List RowN → Bool), rowsN ops l k = k (l.map (rowN ops))
  | [], _ => rfl
  | o :: l, k => by unfold rowsN; rw [forceL_eq, forceL_eq, forceL_eq, rowsN_eq ops l]; rfl
def laterN (i : Nat) (d s : List Nat) : List RowN → Bool
  | [] => true
  | ⟨d2, s2, a2⟩ :: l => match memN i a2 with
    | true => laterN i d s l
    | false => match disjN d s2 && disjN d d2 && disjN d2 s with
      | true => laterN i d s l
      | false => false
def ordN : Nat → List RowN → Bool
  | _, [] => true
  | i, ⟨d, s, a⟩ :: l => match ltN i a && laterN i d s l with
    | true => ordN (i + 1) l
    | false => false
/-- In a region, the text's own order stands for any. -/
def orderB (l : List Oper) : Bool := rowsN l l fun rs => ordN 0 rs

theorem laterN_spec {i : Nat} {d s : List Nat} : ∀ {l : List RowN}, laterN i d s l = true → ∀ r ∈ l, i ∈ r.after ∨ (disjN d r.looks = true ∧ disjN d r.dst = true ∧ disjN r.dst s = true)
  | [], _, r, hr => by cases hr
  | ⟨d2, s2, a2⟩ :: l, h, r, hr => by
    unfold laterN at h
    have key : laterN i d s l = true ∧ (i ∈ a2 ∨ (disjN d s2 = true ∧ disjN d d2 = true ∧ disjN d2 s = true)) := by
      cases hm : memN i a2 with
      | true => rw [hm] at h; exact ⟨h, .inl (memN_spec.1 hm)⟩
      | false =>
        rw [hm] at h
        cases hc : (disjN d s2 && disjN d d2 && disjN d2 s) with
        | false => rw [hc] at h; cases h
        | true =>
          rw [hc] at h
          simp only [Bool.and_eq_true] at hc
          exact ⟨h, .inr ⟨hc.1.1, hc.1.2, hc.2⟩⟩
    rcases List.mem_cons.1 hr with rfl | hr
    · exact key.2
    · exact laterN_spec key.1 r hr

theorem ordN_spec : ∀ {l : List RowN} {k : Nat}, ordN k l = true → ∀ i r, l[i]? = some r → ltN (k + i) r.after = true ∧ ∀ j r', i < j → l[j]? = some r' → (k + i ∈ r'.after ∨ (disjN r.dst r'.looks = true ∧ disjN r.dst r'.dst = true ∧ disjN r'.dst r.looks = true))
  | [], k, _, i, r, hi => by simp at hi
  | ⟨d, s, a⟩ :: l, k, h, i, r, hi => by
    unfold ordN at h
    cases hc : (ltN k a && laterN k d s l) with
    | false => rw [hc] at h; cases h
    | true =>
      rw [hc] at h
      simp only [Bool.and_eq_true] at hc
      cases i with
      | zero =>
        simp at hi
        subst hi
        refine ⟨hc.1, fun j r' hj hr' => ?_⟩
        cases j with
        | zero => omega
        | succ j => exact laterN_spec hc.2 r' (List.mem_of_getElem? (by simpa using hr'))
      | succ i =>
        have ih := ordN_spec (k := k + 1) h i r (by simpa using hi)
        rw [show k + 1 + i = k + (i + 1) by omega] at ih
        refine ⟨ih.1, fun j r' hj hr' => ?_⟩
        cases j with
        | zero => omega
        | succ j => exact ih.2 j r' (by omega) (by simpa using hr')

theorem orderB_spec {ops : Array Oper} (h : orderB ops.toList = true) : ∀ i oi, ops[i]? = some oi → (∀ e ∈ oi.after, Region.binds .any e = true → e.on < i) ∧ (∀ j oj, i < j → ops[j]? = some oj → (∃ e ∈ oj.after, Region.binds .any e = true ∧ e.on = i) ∨ oi.apart ops oj = true) := by
  intro i oi ho
  unfold orderB at h
  rw [rowsN_eq] at h
  obtain ⟨h1, h2⟩ := ordN_spec h i (rowN ops.toList oi) (by simp [ho])
  rw [Nat.zero_add] at h1 h2
  refine ⟨fun e he hb => ltN_spec h1 _ (afterN_spec.2 ⟨e, by simpa using he, hb, rfl⟩), fun j oj hj hoj => ?_⟩
  rcases h2 j (rowN ops.toList oj) hj (by simp [hoj]) with h3 | ⟨h3, h4, h5⟩
  · obtain ⟨e, e1, e2, e3⟩ := afterN_spec.1 h3
    exact .inl ⟨e, by simpa using e1, e2, e3⟩
  · refine .inr ?_
    have k3 := disjN_spec h3
    have k4 := disjN_spec h4
    have k5 := disjN_spec h5
    unfold Oper.apart
    rw [Bool.and_eq_true]
    constructor
    · cases hd : oi.dst with
      | none => rfl
      | some d =>
        have m1 : d ∈ (rowN ops.toList oi).dst := by simp [rowN, dstN, hd]
        simp only [Bool.and_eq_true, Bool.not_eq_true', bne_iff_ne, ne_eq]
        refine ⟨?_, fun hc => k4 d m1 (by simp [rowN, dstN, hc])⟩
        cases hcc : (oj.looksAt ops).contains d with
        | false => rfl
        | true => exact absurd (looksN_mem (by simpa using hcc)) (k3 d m1)
    · cases hd : oj.dst with
      | none => rfl
      | some d =>
        have m1 : d ∈ (rowN ops.toList oj).dst := by simp [rowN, dstN, hd]
        simp only [Bool.not_eq_true']
        cases hcc : (oi.looksAt ops).contains d with
        | false => rfl
        | true => exact absurd (looksN_mem (by simpa using hcc)) (k5 d m1)

/-! ### Whatever the order -/
/-- Blocks that have a place: those from before, and those of operations that have been carried out. -/
def Dom (tr : List Row) (k0 : Nat) (L : Nat → Bool) (φ : Pl) : Prop := ∀ b p, φ b = some p → b < k0 ∨ ∃ j r, L j = true ∧ tr[j]? = some r ∧ r.2.1 ≤ b ∧ b < r.2.1 + r.2.2

theorem eval_agree {t t' : List V} {o : Oper} (h : ∀ d, d ∈ o.looksAt ops → t[d]? = t'[d]?) : (∀ x, x ∈ o.op.operands → ev t x = ev t' x) ∧ vwanted ops t o = vwanted ops t' o := by
  refine ⟨fun x hx => ?_, ?_⟩
  · cases x with
    | tmp d =>
      have := h d (List.mem_append_left _ (List.mem_filterMap.2 ⟨.tmp d, by simpa using hx, rfl⟩))
      simp [ev, List.getD, this]
    | _ => rfl
  · unfold vwanted
    cases hg : o.guard with
    | none => rfl
    | some gw =>
      obtain ⟨g, want⟩ := gw
      cases ht : (ops[g]?).bind (·.dst) with
      | none => simp [ht]
      | some d =>
        have := h d (by simp [Oper.looksAt, hg, ht])
        simp [ht, this]

theorem count_put {L : Nat → Bool} {i : Nat} (hL : L i = false) : ∀ n, i < n → (List.range n).countP (fun j => !L j) = (List.range n).countP (fun j => !(L j || j == i)) + 1 := by
  have same : ∀ n, n ≤ i → (List.range n).countP (fun j => !L j) = (List.range n).countP (fun j => !(L j || j == i)) := fun n hn => by
    refine List.countP_congr fun j hj => ?_
    have := List.mem_range.1 hj
    simp [show (j == i) = false by simp; omega]
  intro n
  induction n with
  | zero => intro h; omega
  | succ n ih =>
    intro h
    rw [List.range_succ, List.countP_append, List.countP_append]
    by_cases hni : n = i
    · subst hni
      rw [same n (Nat.le_refl _)]
      simp [hL]
    · rw [ih (by omega)]
      simp [show (n == i) = false by simp; omega]
      omega

theorem draw_sound {Q : Exit → VS → Prop} {g0 : List V} {N : Fr} {w0 : World × List Value} {k0 : Nat} (hlex : orderB ops.toList = true) (hlen : ops.size = tr.length)
    (hrows : ∀ (j : Nat) (o : Oper) (r : Row), ops[j]? = some o → tr[j]? = some r → RowOk P ops M tr t0 j o r) (hk0 : ∀ (j : Nat) (r : Row), tr[j]? = some r → k0 ≤ r.2.1) (hdis : ∀ (i j : Nat) (r s : Row), i < j → tr[i]? = some r → tr[j]? = some s → r.2.1 + r.2.2 ≤ s.2.1)
    (hQ : Q .normal { t := TL ops tr t0 (fun _ => true) ops.size, m := M, g := g0 }) :
    ∀ (fuel : Nat) (listed : Array Bool) (L : Nat → Bool), listed.size = ops.size → (∀ j, j < ops.size → listed.getD j true = L j) → (List.range ops.size).countP (fun j => !L j) = fuel →
      (∀ j oj, L j = true → ops[j]? = some oj → ∀ e ∈ oj.after, Region.binds .any e = true → L e.on = true) →
      ∀ (a : Act) (w : World) (φ : Pl), SR P N w0 { t := TL ops tr t0 L ops.size, m := M, g := g0 } a w φ → Dom tr k0 L φ →
        wpAny P .any ops (fun e a' w' => ∃ st' φ', Q e st' ∧ SR P N w0 st' a' w' φ') fuel listed a w := by
  have spec := orderB_spec hlex
  have allL : ∀ (listed : Array Bool) (L : Nat → Bool), listed.size = ops.size → (∀ j, j < ops.size → listed.getD j true = L j) → Region.ready .any ops listed = [] → ∀ j, j < ops.size → L j = true := by
    intro listed L hsz hL hr j
    induction j using Nat.strongRecOn with
    | ind j ih =>
      intro hj
      cases hLj : L j with
      | true => rfl
      | false =>
        exfalso
        obtain ⟨oj, hoj⟩ : ∃ oj, ops[j]? = some oj := ⟨ops[j], by simp [hj]⟩
        have : j ∈ Region.ready .any ops listed := mem_ready.2 ⟨(hL j hj).trans hLj, oj, hoj, fun e he hb => by
          have hlt := (spec j oj hoj).1 e he hb
          have h1 := ih e.on hlt (by omega)
          rw [← hL e.on (by omega)] at h1
          have : e.on < listed.size := by omega
          simpa [this] using h1⟩
        rw [hr] at this
        cases this
  have finish : ∀ (listed : Array Bool) (L : Nat → Bool), listed.size = ops.size → (∀ j, j < ops.size → listed.getD j true = L j) → Region.ready .any ops listed = [] → TL ops tr t0 L ops.size = TL ops tr t0 (fun _ => true) ops.size := by
    intro listed L hsz hL hr
    have h := allL listed L hsz hL hr
    have : ∀ n, n ≤ ops.size → TL ops tr t0 L n = TL ops tr t0 (fun _ => true) n := by
      intro n
      induction n with
      | zero => intro _; rfl
      | succ n ih => intro hle; simp only [TL, ih (by omega), h n (by omega)]
    exact this _ (Nat.le_refl _)
  intro fuel
  induction fuel with
  | zero =>
    intro listed L hsz hL hc hW a w φ hs hd
    have hr : Region.ready .any ops listed = [] := by
      cases h : Region.ready .any ops listed with
      | nil => rfl
      | cons i rest =>
        exfalso
        have hi : i ∈ Region.ready .any ops listed := by rw [h]; simp
        obtain ⟨b1, o, b2, b3⟩ := mem_ready.1 hi
        have hlt := (Array.getElem?_eq_some_iff.1 b2).1
        have := List.countP_eq_zero.1 hc i (List.mem_range.2 hlt)
        rw [hL i hlt] at b1
        simp [b1] at this
    refine ⟨hr, _, φ, hQ, ?_⟩
    rw [finish listed L hsz hL hr] at hs
    exact hs
  | succ fuel ih =>
    intro listed L hsz hL hc hW a w φ hs hd
    refine ⟨fun hr => ⟨_, φ, hQ, by rw [finish listed L hsz hL hr] at hs; exact hs⟩, fun i hi => ?_⟩
    obtain ⟨b1, o, hoi, b3⟩ := mem_ready.1 hi
    have hlt := (Array.getElem?_eq_some_iff.1 hoi).1
    have hLi : L i = false := by rw [← hL i hlt]; exact b1
    obtain ⟨r, hri⟩ : ∃ r, tr[i]? = some r := ⟨tr[i]'(by omega), by simp [show i < tr.length by omega]⟩
    have hready : ∀ e ∈ o.after, Region.binds .any e = true → L e.on = true := fun e he hb => by
      have h1 := b3 e he hb
      have hlt' : e.on < ops.size := Nat.lt_trans ((spec i o hoi).1 e he hb) hlt
      have h2 := hL e.on hlt'
      have : e.on < listed.size := by omega
      simp [this] at h1 h2
      rw [h1] at h2
      exact h2.symm
    -- earlier ones that have not been carried out are apart
    have early : ∀ j oj, j < i → ops[j]? = some oj → L j = false → oj.apart ops o = true := fun j oj hj hoj hLj => by
      rcases (spec j oj hoj).2 i o hj hoi with ⟨e, he, hb, heq⟩ | h
      · have := hready e he hb
        rw [heq, hLj] at this
        cases this
      · exact h
    have late : ∀ j oj, i < j → ops[j]? = some oj → L j = true → o.apart ops oj = true := fun j oj hj hoj hLj => by
      rcases (spec i o hoi).2 j oj hj hoj with ⟨e, he, hb, heq⟩ | h
      · have := hW j oj hLj hoj e he hb
        rw [heq, hLi] at this
        cases this
      · exact h
    have agree : ∀ d, d ∈ o.looksAt ops → (TL ops tr t0 L ops.size)[d]? = (TL ops tr t0 (fun _ => true) i)[d]? := fun d hd =>
      TL_agree (fun j oj hj hoj hjd => by
        cases hLj : L j with
        | true => rfl
        | false => exact absurd hd ((Oper.apart_spec (early j oj hj hoj hLj)).1 d hjd)) (Nat.le_of_lt hlt) fun j oj hj hjn hLj hoj hjd => by
        by_cases hji : i = j
        · subst hji; rw [hLi] at hLj; cases hLj
        · exact (Oper.apart_spec (late j oj (by omega) hoj hLj)).2.2 d hjd hd
    obtain ⟨e1, e2⟩ := eval_agree (ops := ops) agree
    have hput : TL ops tr t0 (fun x => L x || x == i) ops.size = putV (TL ops tr t0 L ops.size) o.dst r.1 :=
      TL_put hoi hri hLi hlt fun j oj h1 h2 h3 h4 d hd => (Oper.apart_spec (late j oj h1 h4 h3)).2.1 d hd
    have cont : ∀ (a' : Act) (w' : World) (φ' : Pl), SR P N w0 { t := putV (TL ops tr t0 L ops.size) o.dst r.1, m := M, g := g0 } a' w' φ' → Dom tr k0 (fun x => L x || x == i) φ' →
        wpAny P .any ops (fun e a' w' => ∃ st' φ', Q e st' ∧ SR P N w0 st' a' w' φ') fuel (listed.setIfInBounds i true) a' w' := fun a' w' φ' hs' hd' => by
      refine ih (listed.setIfInBounds i true) (fun x => L x || x == i) (by simp [hsz]) (fun j hj => ?_) ?_ (fun j oj hLj hoj e he hb => ?_) a' w' φ' (by rw [hput]; exact hs') hd'
      · by_cases hij : i = j
        · subst hij
          have : i < listed.size := by omega
          simp [this]
        · rw [getD_set_ne true hij, hL j hj]
          simp [show (j == i) = false by simp; omega]
      · have := count_put hLi ops.size hlt
        omega
      · by_cases hij : j = i
        · subst hij
          rw [hoi] at hoj
          cases hoj
          simp [hready e he hb]
        · have hLj' : L j = true := by simpa [hij] using hLj
          simp [hW j oj hLj' hoj e he hb]
    unfold wpOp
    simp only [hoi]
    have hmono : ∀ φ', (∀ b p, φ' b = some p → φ b = some p ∨ (r.2.1 ≤ b ∧ b < r.2.1 + r.2.2)) → Dom tr k0 (fun x => L x || x == i) φ' := fun φ' h b p hb => by
      rcases h b p hb with h | ⟨h1, h2⟩
      · rcases hd b p h with h | ⟨j, s, a1, a2, a3, a4⟩
        · exact .inl h
        · exact .inr ⟨j, s, by simp [a1], a2, a3, a4⟩
      · exact .inr ⟨i, r, by simp, hri, h1, h2⟩
    rcases hrows i o r hoi hri with ⟨hw, hr1, hr2⟩ | ⟨hw, ho⟩
    · rw [vwanted_sound (e2.trans hw) hs, if_neg (by simp)]
      refine cont _ w φ ?_ (hmono φ fun b p hb => .inl hb)
      rw [hr1]
      exact hs.put S.und hs.mem (Ev.refl _ _ _) (Bel.refl _ _)
    · rw [vwanted_sound (e2.trans hw) hs, if_pos rfl]
      left
      refine ho N a w φ _ _ hs.start hs.glob hs.mem (fun x hx => by rw [← e1 x hx]; exact hs.eval x) (fun x hx => ?_) fun u w' φ' h1 h2 h3 h4 h5 => cont _ w' φ' (hs.put h1 h2 h3 h4) (hmono φ' h5)
      cases hφ : φ (r.2.1 + x) with
      | none => rfl
      | some p =>
        exfalso
        rcases hd _ p hφ with h | ⟨j, s, a1, a2, a3, a4⟩
        · have := hk0 i r hri
          omega
        · rcases Nat.lt_trichotomy i j with h | h | h
          · have := hdis i j r s h hri a2; omega
          · subst h; rw [hLi] at a1; cases a1
          · have := hdis j i s r h a2 hri; omega

/-- The temporaries behind the last operation. -/
inductive DE : List Oper → List Row → List V → List V → Prop
  | nil {t : List V} : DE [] [] t t
  | cons {o : Oper} {l : List Oper} {r : Row} {tr : List Row} {t tf : List V} (h : DE l tr (putV t o.dst r.1) tf) : DE (o :: l) (r :: tr) t tf

theorem DE.final : ∀ {l : List Oper} {tr' : List Row} {t tf : List V}, DE l tr' t tf → ∀ n, (∀ j, l[j]? = ops[n + j]?) → (∀ j, tr'[j]? = tr[n + j]?) → t = TL ops tr t0 (fun _ => true) n → tf = TL ops tr t0 (fun _ => true) (n + l.length)
  | _, _, _, _, .nil, n, _, _, ht => ht
  | _, _, t, tf, .cons (o := o) (l := l) (r := r) (tr := tr') h, n, hl, htr, ht => by
    have h0 := hl 0
    have h1 := htr 0
    simp at h0 h1
    have hstep : putV (TL ops tr t0 (fun _ => true) n) o.dst r.1 = TL ops tr t0 (fun _ => true) (n + 1) := by simp [TL, ← h0, ← h1]
    have := DE.final h (n + 1) (fun j => by have := hl (j + 1); simpa [Nat.add_assoc, Nat.add_comm 1] using this) (fun j => by have := htr (j + 1); simpa [Nat.add_assoc, Nat.add_comm 1] using this) (by rw [ht]; exact hstep)
    rw [this, List.length_cons]
    congr 1
    omega

/-- In the text's order the operations l lead from st to st'; none writes what was there. -/
def DL (P : Program) (ops : Array Oper) (l : List Oper) (st st' : VS) : Prop :=
  st'.g = st.g ∧ ∃ bl, st'.m = st.m ++ bl ∧ ∀ more, ∃ tr, DT P ops (st'.m ++ more) l st.t st.m.length tr ∧ DE l tr st.t st'.t

theorem DL.nil {st : VS} : DL P ops [] st st := ⟨rfl, [], by simp, fun more => ⟨[], .nil, .nil⟩⟩

theorem DL.skip {o : Oper} {l : List Oper} {st st' : VS} (hw : vwanted ops st.t o = some false) (h : DL P ops l { t := putV st.t o.dst und, m := st.m, g := st.g } st') : DL P ops (o :: l) st st' := by
  obtain ⟨hg, bl, h1, h2⟩ := h
  refine ⟨hg, bl, h1, fun more => ?_⟩
  obtain ⟨tr, h3, h4⟩ := h2 more
  exact ⟨_, .skip hw h3, .cons h4⟩

theorem DL.op {o : Oper} {l : List Oper} {st st' : VS} {r : V} {bl : VM} (hw : vwanted ops st.t o = some true) (ho : ∀ more, OpY P o (st.m ++ bl ++ more) (ev st.t) r st.m.length bl.length) (h : DL P ops l { t := putV st.t o.dst r, m := st.m ++ bl, g := st.g } st') : DL P ops (o :: l) st st' := by
  obtain ⟨hg, bl', h1, h2⟩ := h
  refine ⟨hg, bl ++ bl', by simp [h1], fun more => ?_⟩
  obtain ⟨tr, h3, h4⟩ := h2 more
  refine ⟨(r, st.m.length, bl.length) :: tr, .op hw ?_ (by simpa using h3), .cons h4⟩
  have := ho (bl' ++ more)
  simp only at h1
  rw [h1]
  simpa using this

def noStore (l : List Oper) : Bool := l.all fun o => match o.op with | .store .. => false | .call { callee := .builtin .append, .. } => false | _ => true

theorem DL.run {rest : List Oper} : ∀ {l : List Oper} {st st1 st' : VS}, noStore l = true → vops P ops l st = some st1 → DL P ops rest st1 st' → DL P ops (l ++ rest) st st'
  | [], st, st1, st', _, h, hr => by simp [vops] at h; subst h; exact hr
  | o :: l, st, st1, st', hn, h, hr => by
    simp only [noStore, List.all_cons, Bool.and_eq_true] at hn
    simp only [vops] at h
    split at h
    · rename_i hw
      cases h1 : vop1 P st o with
      | none => simp [h1] at h
      | some st2 =>
        simp only [h1, Option.bind_some] at h
        have ih := DL.run (by simpa [noStore] using hn.2) h hr
        unfold vop1 at h1
        split at h1
        · rename_i v hv
          obtain rfl := Option.some.inj h1
          exact DL.op (bl := []) hw (fun more => by simpa using OpY.quiet (vq_more more hv)) (by simpa using ih)
        · split at h1
          · rename_i v n es hv
            obtain rfl := Option.some.inj h1
            exact DL.op (bl := [some (n, es)]) hw (fun more => OpY.alloc hv (by simp)) ih
          · split at h1
            · rename_i t x y ho
              simp [ho] at hn
            · cases h1
    · rename_i hw
      exact DL.skip hw (DL.run (by simpa [noStore] using hn.2) h hr)
    · cases h

mutual
theorem Re.more {m : VM} (l : VM) : ∀ {v v' : V}, Re m v v' → Re (m ++ l) v v'
  | _, _, .pl hp => .pl hp
  | _, _, .sl => .sl
  | _, _, .cptr => .cptr
  | _, _, .any => .any
  | _, _, .own => .own
  | _, _, .ref hb hle h => .ref (at_more l hb) hle (ReE.more l h)
  | _, _, .ptr hb he h => .ptr (at_more l hb) he (ReL.more l h)
  | _, _, .refc hb he hle h => .refc (at_more l hb) he hle (ReL.more l h)
  | _, _, .agg h => .agg (ReL.more l h)
  | _, _, .cut h => .cut (Re.more l h)
theorem ReL.more {m : VM} (l : VM) : ∀ {v v' : List V}, ReL m v v' → ReL (m ++ l) v v'
  | _, _, .nil => .nil
  | _, _, .cons h hs => .cons (Re.more l h) (ReL.more l hs)
theorem ReE.more {m : VM} (l : VM) : ∀ {v v' : List (List V)}, ReE m v v' → ReE (m ++ l) v v'
  | _, _, .nil => .nil
  | _, _, .cons h hs => .cons (ReL.more l h) (ReE.more l hs)
end

/-- A call, by a contract that tells the result. -/
theorem DL.call {st st' : VS} {o : Oper} {l : List Oper} {f : FuncId} {args : Array Operand} {ats : Array TypeId} {vs : List V} {r r' : V} {bl : VM} (hw : vwanted ops st.t o = some true)
    (ho : o.op = .call { callee := .value (.func f), args := args, argTypes := ats }) (hf : (P.funcs[f]?).any (fun fn => fn.body.isSome && fn.name != "runtime.NumGoroutine") = true) (hre : ReL st.m (args.toList.map (ev st.t)) vs) (hc : VCalls P f vs (fun x => x = r)) (hx : Ex st.m.length r r' bl)
    (h : DL P ops l { t := putV st.t o.dst r', m := st.m ++ bl, g := st.g } st') : DL P ops (o :: l) st st' :=
  .op (bl := bl) hw (fun more => OpY.call ho hf (by rw [List.append_assoc]; exact ReL.more _ hre) hc hx fun i x hi => by
    rw [List.append_assoc, List.getElem?_append_right (by omega), show st.m.length + i - st.m.length = i by omega]
    exact at_more more hi) h

/-- A region that draws its order. -/
theorem VW.draw {id : Nat} {l : List Oper} {Q : Exit → VS → Prop} {st st' : VS} (hm : P.follows .mixedOrders = true) (hlex : orderB l = true) (h : DL P l.toArray l st st') (hQ : Q .normal st') : VW P (.region id l.toArray true) Q st := fun N w0 a w φ hs => by
  obtain ⟨hg, bl, hbl, h'⟩ := h
  obtain ⟨tr, h, hde⟩ := h' []
  rw [List.append_nil, hbl] at h
  obtain ⟨h1, h2, h3, h4⟩ := DT.rows (tr := tr) (n := 0) (t0 := st.t) h (fun j => by simp) (fun j => by simp) rfl
  have hfin := DE.final (ops := l.toArray) (tr := tr) (t0 := st.t) hde 0 (fun j => by simp) (fun j => by simp) rfl
  refine wp_region_any hm ?_
  have hs1 : SR P N w0 st a (w.drewN 1) φ := by
    obtain ⟨d1, d2⟩ := hs.mem.drewN 1
    exact ⟨hs.defers, hs.size, fun i v hi => by
      obtain ⟨u, b1, b2⟩ := hs.tmps i v hi
      exact ⟨u, b1, b2.ev d2⟩, d1, hs.below.trans (below_drewN N w 1), hs.start, Sl.ev d2 hs.gh, hs.gl⟩
  have hs2 := hs1.more bl
  have htl : TL l.toArray tr st.t (fun _ => false) l.toArray.size = st.t := by
    have : ∀ n, TL l.toArray tr st.t (fun _ => false) n = st.t := fun n => by
      induction n with
      | zero => rfl
      | succ n ih => simp only [TL]; split <;> simp [ih]
    exact this _
  have hst' : st' = { t := TL l.toArray tr st.t (fun _ => true) l.toArray.size, m := st.m ++ bl, g := st.g } := by
    cases st'
    simp only at hbl hfin hg
    subst hbl
    subst hfin
    subst hg
    simp
  refine draw_sound (tr := tr) (t0 := st.t) (M := st.m ++ bl) (k0 := st.m.length) hlex (by simpa using h1) (fun j o r ho hr => by have := h2 j o r (by simpa using ho) hr; simpa using this) h3 h4 (by rw [← hst']; exact hQ) _ _ (fun _ => false) (by simp) (fun j hj => by simp at hj; simp [hj]) (by simp) (fun j oj h => by cases h) a _ φ (by rw [htl]; exact hs2) fun b p hb => .inl (hs.mem.dom b p hb)
end
end Go.VL
