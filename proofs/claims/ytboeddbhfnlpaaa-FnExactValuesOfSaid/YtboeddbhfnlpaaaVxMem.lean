/- What a new block, and a write into a block of the call's own, do to the state. -/
import Derived.Test.YtboeddbhfnlpaaaVxScal
import Derived.Laws.AppendOwn
import Derived.Laws.MakeOwn
namespace Go.VL
set_option linter.unusedSimpArgs false
set_option linter.unusedVariables false
open Go.RowKit

/-- A value that fits one cell. -/
def cellV : V → Bool
  | .any | .agg _ | .tup _ | .own _ _ => false
  | _ => true

def vcells : V → Option (List V)
  | .agg cs => if cs.all cellV then some cs else none
  | v => if cellV v then some [v] else none

section
variable {w : World} {O : Nat → Prop} {φ : Pl}

theorem S.oneCell {v : V} {u : Value} (h : S w O φ v u) (hc : cellV v = true) : u.oneCell' = true := by
  cases h <;> first | rfl | (cases hc; done) | skip
  rename_i h
  cases u <;> first | rfl | (cases h; done)

theorem Sl.oneCell : ∀ {vs : List V} {us : List Value}, Sl w O φ vs us → vs.all cellV = true → ∀ u ∈ us, u.oneCell' = true
  | _, _, .nil, _, u, hu => by cases hu
  | _, _, .cons hv hs, hc, u, hu => by
    simp only [List.all_cons, Bool.and_eq_true] at hc
    rcases List.mem_cons.1 hu with rfl | hu
    · exact hv.oneCell hc.1
    · exact hs.oneCell hc.2 u hu

theorem S.cells {v : V} {u : Value} {cs : List V} (h : S w O φ v u) (hc : vcells v = some cs) : Sl w O φ cs u.cells.toList ∧ (∀ x ∈ u.cells.toList, x.oneCell' = true) := by
  unfold vcells at hc
  split at hc
  · split at hc
    · rename_i ha
      obtain rfl := Option.some.inj hc
      cases h with
      | agg h => simpa [Value.cells] using And.intro h (h.oneCell ha)
    · cases hc
  · split at hc
    · rename_i ha
      obtain rfl := Option.some.inj hc
      have h1 := h.oneCell ha
      have : u.cells = #[u] := by cases u <;> first | rfl | (cases h1; done)
      rw [this]
      exact ⟨.cons h .nil, by simpa using h1⟩
    · cases hc
end

theorem exists_row {Q : Nat → Value → Prop} {w : World} {O : Nat → Prop} {φ : Pl} : ∀ (vs : List V) (k : Nat), (∀ (i : Nat) (v : V), vs[i]? = some v → ∃ u, Q (k + i) u ∧ S w O φ v u) →
    ∃ us : List Value, us.length = vs.length ∧ Sl w O φ vs us ∧ ∀ (i : Nat) (u : Value), us[i]? = some u → Q (k + i) u
  | [], _, _ => ⟨[], rfl, .nil, by simp⟩
  | v :: vs, k, h => by
    obtain ⟨u, h1, h2⟩ := h 0 v rfl
    obtain ⟨us, h3, h4, h5⟩ := exists_row vs (k + 1) fun i v hi => by
      obtain ⟨u, h1, h2⟩ := h (i + 1) v (by simpa using hi)
      exact ⟨u, by rwa [show k + 1 + i = k + (i + 1) by omega], h2⟩
    refine ⟨u :: us, by simp [h3], .cons h2 h4, fun i u hi => ?_⟩
    cases i with
    | zero => simp at hi; subst hi; exact h1
    | succ i => have := h5 i u (by simpa using hi); rwa [show k + 1 + i = k + (i + 1) by omega] at this

/-- One place more. -/
def ext (φ : Pl) (b : Nat) (p : Nat × Nat × Nat) : Pl := fun x => if x = b then some p else φ x

theorem Room.lt {w : World} {k n : Nat} (h : Room w k n) : k < w.heap.size := by
  obtain ⟨c, e, fr, h, _⟩ := h
  exact (Array.getElem?_eq_some_iff.1 h).1

theorem Live.lt {N : Fr} {w : World} {φ : Pl} {m : VM} (h : Mem N w φ m) {k : Nat} (hk : Live φ m k) : ¬ N k ∧ k < w.heap.size := by
  obtain ⟨b, x, po, n, _, hφ⟩ := hk
  exact h.new b k po n hφ

theorem Mem.fresh {N : Fr} {w : World} {φ : Pl} {m : VM} (h : Mem N w φ m) {b : Nat} (hb : m.length ≤ b) : φ b = none := by
  cases hφ : φ b with
  | none => rfl
  | some p => have := h.dom b p hφ; omega

/-- A new block for number b, which had no place. -/
theorem Mem.map {N : Fr} {w w' : World} {φ : Pl} {m : VM} (h : Mem N w φ m) (hN : N.bd w) {b n : Nat} {es : List (List V)} (hb : m[b]? = some (some (n, es))) (hφ0 : φ b = none) (hn : ∀ e ∈ es, e.length = n) {us : List Value} (hs : Sl w (Live φ m) φ es.flatten us)
    (h1 : ∀ u ∈ us, u.oneCell' = true) {c : Array Value} {t : TypeId} (hc : ∀ i, i < us.length → c[i]? = us[i]?) (hw : w'.heap = w.heap.push (.cells c t)) (hcs : us.length ≤ c.size) (hno : ∀ (i n' : Nat) (es' : List (List V)), es.flatten[i]? ≠ some (.own n' es')) :
    Mem N w' (ext φ b (w.heap.size, 0, n)) m ∧ Ev w (Live φ m) φ w' (Live (ext φ b (w.heap.size, 0, n)) m) (ext φ b (w.heap.size, 0, n)) := by
  have hold : ∀ k, k < w.heap.size → w'.heap[k]? = w.heap[k]? := fun k hk => by rw [hw, Array.getElem?_push, if_neg (by omega)]
  have hnew : w'.heap[w.heap.size]? = some (.cells c t (0, 0)) := by rw [hw, Array.getElem?_push, if_pos rfl]
  have hplace : ∀ b' p, φ b' = some p → ext φ b (w.heap.size, 0, n) b' = some p := fun b' p hb' => by
    unfold ext
    rw [if_neg (fun e => by rw [e, hφ0] at hb'; cases hb')]; exact hb'
  have hev : Ev w (Live φ m) φ w' (Live (ext φ b (w.heap.size, 0, n)) m) (ext φ b (w.heap.size, 0, n)) := by
    refine ⟨fun k hk ho => ⟨hold k hk, fun ⟨b', x, po, q, hb', hφ⟩ => ?_⟩, hplace, fun k n' ⟨c', e', fr, hc', hle⟩ => ⟨c', e', fr, by rw [hold k (Array.getElem?_eq_some_iff.1 hc').1]; exact hc', hle⟩⟩
    unfold ext at hφ
    split at hφ
    · have := Option.some.inj hφ
      simp at this
      omega
    · exact ho ⟨b', x, po, q, hb', hφ⟩
  refine ⟨⟨fun b' n' es' p hb' hp => ?_, fun b' k po q hφ => ?_, fun b' p hφ => ?_, fun b1 b2 k po po' q q' hφ hφ' => ?_, ?_⟩, hev⟩
  · by_cases hbb : b' = b
    · subst hbb
      rw [hb] at hb'
      simp at hb'
      obtain ⟨rfl, rfl⟩ := hb'
      refine ⟨hn, w.heap.size, 0, c, t, by simp [ext], hnew, ?_, fun i v hi => ?_⟩
      · have := hs.length
        rw [flatten_length hn] at this
        omega
      · obtain ⟨u, a1, a2⟩ := hs.get hi
        have hlt : i < us.length := (List.getElem?_eq_some_iff.1 a1).1
        exact ⟨u, by rw [Nat.zero_add, hc i hlt]; exact a1, h1 u (List.mem_of_getElem? a1), a2.ev hev⟩
    · have hp' : φ b' = some p := by simpa [ext, hbb] using hp
      obtain ⟨hl, pb, po, c', e', hφ, hp, hle, hcell⟩ := h.at_ b' n' es' p hb' hp'
      refine ⟨hl, pb, po, c', e', hplace _ _ hφ, by rw [hold pb (h.new b' pb po n' hφ).2]; exact hp, hle, fun i v hi => ?_⟩
      obtain ⟨u, a1, a2, a3⟩ := hcell i v hi
      exact ⟨u, a1, a2, a3.ev hev⟩
  · unfold ext at hφ
    split at hφ
    · have := Option.some.inj hφ
      simp at this
      exact ⟨fun hk => by have := hN _ hk; omega, by rw [hw]; simp; omega⟩
    · have := h.new b' k po q hφ
      exact ⟨this.1, by rw [hw]; simp; omega⟩
  · unfold ext at hφ
    split at hφ
    · rename_i e; subst e; exact (List.getElem?_eq_some_iff.1 hb).1
    · exact h.dom b' p hφ
  · unfold ext at hφ hφ'
    split at hφ <;> split at hφ'
    · omega
    · have := Option.some.inj hφ
      simp at this
      have := h.new b2 k po' q' hφ'
      omega
    · have := Option.some.inj hφ'
      simp at this
      have := h.new b1 k po q hφ
      omega
    · exact h.inj b1 b2 k po po' q q' hφ hφ'
  · obtain ⟨ψ, hψ⟩ := h.own
    refine ⟨ψ, hψ.keep (by rw [hw]; simp) (fun k hk ho => hev.keep k hk ho) fun b' n1 es1 pb po bn i n' es' h1 h2 h3 => ?_⟩
    by_cases hbb : b' = b
    · subst hbb
      rw [hb] at h1
      simp at h1
      obtain ⟨rfl, rfl⟩ := h1
      exact absurd h3 (hno i n' es')
    · have h2' : φ b' = some (pb, po, bn) := by simpa [ext, hbb] using h2
      exact ⟨n1, es1, pb, po, bn, h1, h2', h3, fun u hu => by rw [cell?_same (hold pb (h.new b' pb po bn h2').2)]; exact hu⟩

/-- More blocks that have no place yet. -/
theorem Mem.more {N : Fr} {w : World} {φ : Pl} {m : VM} (h : Mem N w φ m) (l : VM) : Mem N w φ (m ++ l) ∧ Ev w (Live φ m) φ w (Live φ (m ++ l)) φ := by
  have hget : ∀ b p, φ b = some p → (m ++ l)[b]? = m[b]? := fun b p hp => List.getElem?_append_left (h.dom b p hp)
  have hlive : ∀ k, Live φ (m ++ l) k → Live φ m k := fun k ⟨b, x, po, q, hb, hφ⟩ => ⟨b, x, po, q, by rw [← hget b _ hφ]; exact hb, hφ⟩
  have hev : Ev w (Live φ m) φ w (Live φ (m ++ l)) φ := ⟨fun k _ ho => ⟨rfl, fun hl => ho (hlive k hl)⟩, fun _ _ hp => hp, fun _ _ hr => hr⟩
  refine ⟨⟨fun b n es p hb hp => ?_, h.new, fun b p hp => by have := h.dom b p hp; simp; omega, h.inj, ?_⟩, hev⟩
  · obtain ⟨hl, pb, po, c, e, hφ, hp', hle, hcell⟩ := h.at_ b n es p (by rw [← hget b p hp]; exact hb) hp
    exact ⟨hl, pb, po, c, e, hφ, hp', hle, fun i v hi => by
      obtain ⟨u, a1, a2, a3⟩ := hcell i v hi
      exact ⟨u, a1, a2, a3.ev hev⟩⟩
  · obtain ⟨ψ, hψ⟩ := h.own
    exact ⟨ψ, hψ.keep (Nat.le_refl _) (fun k hk ho => hev.keep k hk ho) fun b n es pb po bn i n' es' h1 h2 h3 => ⟨n, es, pb, po, bn, by rw [← hget b _ h2]; exact h1, h2, h3, fun u hu => hu⟩⟩

/-- A write into block b. -/
theorem Mem.write {N : Fr} {w w' : World} {φ : Pl} {m : VM} (h : Mem N w φ m) {b n pb po : Nat} {es es' : List (List V)} (hb : m[b]? = some (some (n, es))) (hφ : φ b = some (pb, po, n)) {c c' : Array Value} {t : TypeId}
    (hc : w.heap[pb]? = some (.cells c t (0, 0))) (hw : w'.heap[pb]? = some (.cells c' t (0, 0))) (hsz : c'.size = c.size) (hoth : ∀ k, k ≠ pb → w'.heap[k]? = w.heap[k]?) (hsize : w'.heap.size = w.heap.size)
    (hn : ∀ e ∈ es', e.length = n) (hlen : po + es'.length * n ≤ c.size) (hcells : ∀ (i : Nat) (v : V), es'.flatten[i]? = some v → ∃ u, c'[po + i]? = some u ∧ u.oneCell' = true ∧ S w (Live φ m) φ v u)
    (hown : ∀ (i n' : Nat) (e' : List (List V)), es'.flatten[i]? = some (.own n' e') → es.flatten[i]? = some (.own n' e') ∧ c'[po + i]? = c[po + i]?) :
    Mem N w' φ (m.set b (some (n, es'))) ∧ Ev w (Live φ m) φ w' (Live φ (m.set b (some (n, es')))) φ := by
  have hblt : b < m.length := (List.getElem?_eq_some_iff.1 hb).1
  have hlive : ∀ k, Live φ (m.set b (some (n, es'))) k → Live φ m k := fun k ⟨b', x, po', q, hb', hφ'⟩ => by
    rw [List.getElem?_set] at hb'
    split at hb'
    · rename_i e; subst e
      exact ⟨b, (n, es), po', q, hb, hφ'⟩
    · exact ⟨b', x, po', q, hb', hφ'⟩
  have hpb : Live φ m pb := ⟨b, (n, es), po, n, hb, hφ⟩
  have hev : Ev w (Live φ m) φ w' (Live φ (m.set b (some (n, es')))) φ :=
    ⟨fun k hk ho => ⟨hoth k (fun e => ho (e ▸ hpb)), fun hl => ho (hlive k hl)⟩, fun _ _ hp => hp, fun k n' ⟨c1, e1, fr, h1, h2⟩ => by
      by_cases hk : k = pb
      · subst hk
        rw [hc] at h1
        cases h1
        exact ⟨c', t, _, hw, by omega⟩
      · exact ⟨c1, e1, fr, by rw [hoth k hk]; exact h1, h2⟩⟩
  refine ⟨⟨fun b' n' es'' p' hb' hp' => ?_, fun b' k po' q hφ' => by rw [hsize]; exact h.new b' k po' q hφ', fun b' p hφ' => by simpa using h.dom b' p hφ', h.inj, ?_⟩, hev⟩
  rotate_left
  · obtain ⟨ψ, hψ⟩ := h.own
    refine ⟨ψ, hψ.keep (by omega) (fun k hk ho => hev.keep k hk ho) fun b' n1 es1 pb1 po1 bn i n' e' h1 h2 h3 => ?_⟩
    rw [List.getElem?_set] at h1
    split at h1
    · rename_i e; subst e
      simp at h1
      obtain ⟨rfl, rfl⟩ := h1
      rw [hφ] at h2
      simp at h2
      obtain ⟨rfl, rfl, rfl⟩ := h2
      obtain ⟨g1, g2⟩ := hown i n' e' h3
      exact ⟨n, es, pb, po, n, hb, hφ, g1, fun u hu => by
        unfold World.cell? at hu ⊢
        simp only [hc, hw] at hu ⊢
        rw [g2]; exact hu⟩
    · rename_i hne
      have hpne : pb1 ≠ pb := fun e => hne (by subst e; exact h.inj b b' pb1 po po1 n bn hφ h2)
      exact ⟨n1, es1, pb1, po1, bn, h1, h2, h3, fun u hu => by rw [cell?_same (hoth pb1 hpne)]; exact hu⟩
  rw [List.getElem?_set] at hb'
  split at hb'
  · rename_i e; subst e
    simp at hb'
    obtain ⟨rfl, rfl⟩ := hb'
    refine ⟨hn, pb, po, c', t, hφ, hw, by omega, fun i v hi => ?_⟩
    obtain ⟨u, a1, a2, a3⟩ := hcells i v hi
    exact ⟨u, a1, a2, a3.ev hev⟩
  · rename_i hne
    obtain ⟨hl, pb', po', c1, e1, hφ', hp, hle, hcell⟩ := h.at_ b' n' es'' p' hb' hp'
    have hpne : pb' ≠ pb := fun e => hne (by subst e; exact h.inj b b' pb' po po' n n' hφ hφ')
    refine ⟨hl, pb', po', c1, e1, hφ', by rw [hoth pb' hpne]; exact hp, hle, fun i v hi => ?_⟩
    obtain ⟨u, a1, a2, a3⟩ := hcell i v hi
    exact ⟨u, a1, a2, a3.ev hev⟩

/-- Draws turn nothing. -/
theorem Mem.drewN {N : Fr} {w : World} {φ : Pl} {m : VM} (h : Mem N w φ m) (k : Nat) : Mem N (w.drewN k) φ m ∧ Ev w (Live φ m) φ (w.drewN k) (Live φ m) φ := by
  have hev : Ev w (Live φ m) φ (w.drewN k) (Live φ m) φ := ⟨fun _ _ ho => ⟨rfl, ho⟩, fun _ _ hp => hp, fun _ _ hr => hr⟩
  refine ⟨⟨fun b n es p hb hp' => ?_, h.new, h.dom, h.inj, (by
    obtain ⟨ψ, hψ⟩ := h.own
    exact ⟨ψ, hψ.keep (Nat.le_refl _) (fun k hk ho => hev.keep k hk ho) fun b n es pb po bn i n' es' h1 h2 h3 => ⟨n, es, pb, po, bn, h1, h2, h3, fun u hu => hu⟩⟩)⟩, hev⟩
  obtain ⟨hl, pb, po, c, e, hφ, hp, hle, hcell⟩ := h.at_ b n es p hb hp'
  exact ⟨hl, pb, po, c, e, hφ, hp, hle, fun i v hi => by
    obtain ⟨u, a1, a2, a3⟩ := hcell i v hi
    exact ⟨u, a1, a2, a3.ev hev⟩⟩

/-- Blocks that the call has not made are as they were: another call did its work. -/
theorem Mem.called {N : Fr} {w w' : World} {φ : Pl} {m : VM} (h : Mem N w φ m) (hb : Below w.heap.size w w') : Mem N w' φ m ∧ Ev w (Live φ m) φ w' (Live φ m) φ := by
  have hev : Ev w (Live φ m) φ w' (Live φ m) φ := ⟨fun k hk ho => ⟨hb.block k hk, ho⟩, fun _ _ hp => hp, fun k n ⟨c, e, fr, h1, h2⟩ => ⟨c, e, fr, by rw [hb.block k (Array.getElem?_eq_some_iff.1 h1).1]; exact h1, h2⟩⟩
  refine ⟨⟨fun b n es p hb' hp' => ?_, fun b k po n hφ => ?_, h.dom, h.inj, (by
    obtain ⟨ψ, hψ⟩ := h.own
    exact ⟨ψ, hψ.keep hb.size (fun k hk ho => hev.keep k hk ho) fun b n es pb po bn i n' es' h1 h2 h3 => ⟨n, es, pb, po, bn, h1, h2, h3, fun u hu => by rw [cell?_same (hb.block pb (h.new b pb po bn h2).2)]; exact hu⟩⟩)⟩, hev⟩
  · obtain ⟨hl, pb, po, c, e, hφ, hp, hle, hcell⟩ := h.at_ b n es p hb' hp'
    exact ⟨hl, pb, po, c, e, hφ, by rw [hb.block pb (h.new b pb po n hφ).2]; exact hp, hle, fun i v hi => by
      obtain ⟨u, a1, a2, a3⟩ := hcell i v hi
      exact ⟨u, a1, a2, a3.ev hev⟩⟩
  · have := h.new b k po n hφ
    exact ⟨this.1, Nat.lt_of_lt_of_le this.2 hb.size⟩
end Go.VL
