/- Operations that make or write blocks. -/
import Derived.Test.YtboeddbhfnlpaaaVxStep
namespace Go.VL
set_option linter.unusedSimpArgs false
set_option linter.unusedVariables false
open Go.RowKit

/-- What an operation with an effect on memory does: its value, and the blocks behind it. -/
def Does (P : Program) (N : Fr) (w : World) (φ : Pl) (m : VM) (s : Sem Next) (v : V) (m' : VM) : Prop :=
  ∃ φ' u w', (s.run P w = .ok (.value u) w' ∨ (s.run P w = .ok .skip w' ∧ u = undef)) ∧ S w' (Live φ' m') φ' v u ∧ Mem N w' φ' m' ∧ Ev w (Live φ m) φ w' (Live φ' m') φ' ∧ Bel N w w'

def vstore (P : Program) (m : VM) (t : TypeId) (x y : V) : Option VM :=
  match x with
  | .ptr b e j => match m[b]?, vcells y with
    | some (some (n, es)), some cs => match es[e]? with
      | some old => if cs.length = P.cellsOf t ∧ P.cellsOf t ≠ 0 ∧ j + cs.length ≤ old.length then some (m.set b (some (n, es.set e (old.take j ++ cs ++ old.drop (j + cs.length))))) else none
      | none => none
    | _, _ => none
  | _ => none

section
variable {P : Program} {N : Fr} {w : World} {φ : Pl} {m : VM}

/-- Cells fit one cell each. -/
theorem vcells_all {x : V} {cs : List V} (h : vcells x = some cs) : cs.all cellV = true := by
  unfold vcells at h
  split at h
  · split at h
    · rename_i ha; obtain rfl := Option.some.inj h; exact ha
    · cases h
  · split at h
    · rename_i ha; obtain rfl := Option.some.inj h; simpa using ha
    · cases h

theorem flatten_set {α : Type} : ∀ (es : List (List α)) (n e : Nat) (x : List α), (∀ y ∈ es, y.length = n) → e < es.length → x.length = n → (es.set e x).flatten = es.flatten.take (e * n) ++ x ++ es.flatten.drop (e * n + n)
  | [], _, _, _, _, h, _ => by simp at h
  | y :: es, n, 0, x, hn, _, hx => by
    have hy := hn y (by simp)
    simp [← hy]
  | y :: es, n, e + 1, x, hn, he, hx => by
    have hy := hn y (by simp)
    have ih := flatten_set es n e x (fun z hz => hn z (by simp [hz])) (by simpa using he) hx
    have e1 : (e + 1) * n = y.length + e * n := by rw [Nat.add_mul, hy]; omega
    simp only [List.set_cons_succ, List.flatten_cons, ih, e1]
    rw [List.take_append, List.take_of_length_le (l := y) (by omega), show y.length + e * n - y.length = e * n by omega,
      show y.length + e * n + n = y.length + (e * n + n) by omega, List.drop_append, List.drop_eq_nil_of_le (as := y) (by omega), List.nil_append, show y.length + (e * n + n) - y.length = e * n + n by omega]
    simp [List.append_assoc]

theorem splice_get {α : Type} (l x : List α) (k i : Nat) (h : k + x.length ≤ l.length) : (l.take k ++ x ++ l.drop (k + x.length))[i]? = if i < k then l[i]? else if i < k + x.length then x[i - k]? else l[i]? := by
  have hk : (l.take k).length = k := by rw [List.length_take]; omega
  by_cases h1 : i < k
  · rw [if_pos h1, List.append_assoc, List.getElem?_append_left (by omega), List.getElem?_take, if_pos h1]
  · rw [if_neg h1]
    by_cases h2 : i < k + x.length
    · rw [if_pos h2, List.getElem?_append_left (by rw [List.length_append]; omega), List.getElem?_append_right (by omega), hk]
    · rw [if_neg h2, List.getElem?_append_right (by rw [List.length_append]; omega), List.getElem?_drop, List.length_append, hk]
      congr 1; omega

theorem vstore_sound {t : TypeId} {x y : V} {ux uy : Value} {m' : VM} (h : vstore P m t x y = some m') (hx : S w (Live φ m) φ x ux) (hy : S w (Live φ m) φ y uy) (hm : Mem N w φ m) :
    ∃ w', (Instr.storeAt t ux uy).run P w = .ok () w' ∧ Mem N w' φ m' ∧ Ev w (Live φ m) φ w' (Live φ m') φ ∧ Bel N w w' := by
  unfold vstore at h
  split at h
  · rename_i b e j
    split at h
    · rename_i n es cs hb hcs
      split at h
      · rename_i old he
        split at h
        · rename_i hc
          obtain ⟨hlen, hz, hfit⟩ := hc
          obtain rfl := Option.some.inj h
          cases hx with
          | ptr hφ' =>
            obtain ⟨hl, pb, po, c, ty, hφ, hp, hle, hcell⟩ := hm.at_ b n es _ hb hφ'
            rw [hφ] at hφ'
            simp at hφ'
            obtain ⟨rfl, rfl, rfl⟩ := hφ'
            obtain ⟨hsl, h1⟩ := hy.cells hcs
            have hul : uy.cells.toList.length = cs.length := hsl.length
            have hold : old.length = n := hl old (List.mem_of_getElem? he)
            have helt : e < es.length := (List.getElem?_eq_some_iff.1 he).1
            have hmul : (e + 1) * n ≤ es.length * n := Nat.mul_le_mul_right _ helt
            rw [Nat.add_mul] at hmul
            have hst := run_storeCells_at P pb (po + e * n + j) ty uy.cells.toList 0 c w hp (by omega) h1
            simp only [Nat.add_zero] at hst
            have hsz : uy.cells.size = P.cellsOf t := by rw [← hlen, ← hul]; simp
            have hrun : (Instr.storeAt t (.pointer (some ⟨pb, po + e * n + j, none⟩)) uy).run P w = .ok () (w.setRow pb (c.toList.take (po + e * n + j) ++ uy.cells.toList ++ c.toList.drop (po + e * n + j + uy.cells.toList.length)).toArray) := by
              simp only [Instr.storeAt, Instr.sureAddr, Sem.run_bind, Sem.run_pure, Result.andThen_ok, storeVar, run_sizeOf' hz, hsz, ne_eq, not_true_eq_false, if_false]
              exact hst
            refine ⟨_, hrun, ?_⟩
            · have hc'size : (c.toList.take (po + e * n + j) ++ uy.cells.toList ++ c.toList.drop (po + e * n + j + uy.cells.toList.length)).toArray.size = c.size := by
                simp only [List.size_toArray, List.length_append, List.length_take, List.length_drop, Array.length_toList]; omega
              have hnew : (old.take j ++ cs ++ old.drop (j + cs.length)).length = n := by simp; omega
              have hw := hm.write (es' := es.set e (old.take j ++ cs ++ old.drop (j + cs.length))) hb hφ hp (setRow_heap w pb c _ ty _ hp) hc'size (fun k hk => setRow_other w pb k _ hk) (by simp [World.setRow])
                (fun x hx => by
                  rcases List.mem_or_eq_of_mem_set hx with h | rfl
                  · exact hl x h
                  · exact hnew) (by simpa using hle) (fun i v hi => ?_) (fun i n' e' hi => ?_)
              · exact ⟨hw.1, hw.2, rfl, rfl, rfl, by simp [World.setRow], fun k hk => setRow_other w pb k _ (fun e => (hm.new b pb po n hφ).1 (e ▸ hk))⟩
              · -- the cells behind the write
                rw [flatten_set es n e _ hl helt hnew] at hi
                have hfl := flatten_length hl
                have hX := hnew
                have hfl := flatten_length hl
                have hcl : c.toList.length = c.size := Array.length_toList
                have hget : ∀ q, (c.toList.take (po + e * n + j) ++ uy.cells.toList ++ c.toList.drop (po + e * n + j + uy.cells.toList.length)).toArray[q]? =
                    if q < po + e * n + j then c[q]? else if q < po + e * n + j + cs.length then uy.cells.toList[q - (po + e * n + j)]? else c[q]? := by
                  intro q
                  rw [List.getElem?_toArray, splice_get _ _ _ _ (by omega), hul]
                  simp
                rw [hget]
                have hi' := hi
                rw [← hX, splice_get _ _ _ _ (by rw [hX]; omega), hX] at hi'
                have hoe : ∀ q v, old[q]? = some v → es.flatten[e * n + q]? = some v := fun q v hq => flatten_get hl he hq
                by_cases c1 : i < e * n
                · rw [if_pos c1] at hi'
                  rw [if_pos (by omega)]
                  exact hcell i v hi'
                · rw [if_neg c1] at hi'
                  by_cases c2 : i < e * n + n
                  · rw [if_pos c2, splice_get _ _ _ _ hfit] at hi'
                    by_cases c3 : i - e * n < j
                    · rw [if_pos c3] at hi'
                      rw [if_pos (by omega)]
                      have := hoe _ _ hi'
                      rw [show e * n + (i - e * n) = i by omega] at this
                      exact hcell i v this
                    · rw [if_neg c3] at hi'
                      by_cases c4 : i - e * n < j + cs.length
                      · rw [if_pos c4] at hi'
                        rw [if_neg (by omega), if_pos (by omega)]
                        obtain ⟨u, a1, a2⟩ := hsl.get hi'
                        refine ⟨u, ?_, h1 u (List.mem_of_getElem? a1), a2⟩
                        rw [← a1]; congr 1; omega
                      · rw [if_neg c4] at hi'
                        rw [if_neg (by omega), if_neg (by omega)]
                        have := hoe _ _ hi'
                        rw [show e * n + (i - e * n) = i by omega] at this
                        exact hcell i v this
                  · rw [if_neg c2] at hi'
                    rw [if_neg (by omega), if_neg (by omega)]
                    exact hcell i v hi'
              · -- own slices are where they were
                rw [flatten_set es n e _ hl helt hnew] at hi
                have hfl := flatten_length hl
                have hX := hnew
                have hcl : c.toList.length = c.size := Array.length_toList
                have hget : ∀ q, (c.toList.take (po + e * n + j) ++ uy.cells.toList ++ c.toList.drop (po + e * n + j + uy.cells.toList.length)).toArray[q]? =
                    if q < po + e * n + j then c[q]? else if q < po + e * n + j + cs.length then uy.cells.toList[q - (po + e * n + j)]? else c[q]? := by
                  intro q
                  rw [List.getElem?_toArray, splice_get _ _ _ _ (by omega), hul]
                  simp
                rw [hget]
                have hi' := hi
                rw [← hX, splice_get _ _ _ _ (by rw [hX]; omega), hX] at hi'
                have hoe : ∀ q v, old[q]? = some v → es.flatten[e * n + q]? = some v := fun q v hq => flatten_get hl he hq
                by_cases c1 : i < e * n
                · rw [if_pos c1] at hi'
                  rw [if_pos (by omega)]
                  exact ⟨hi', rfl⟩
                · rw [if_neg c1] at hi'
                  by_cases c2 : i < e * n + n
                  · rw [if_pos c2, splice_get _ _ _ _ hfit] at hi'
                    by_cases c3 : i - e * n < j
                    · rw [if_pos c3] at hi'
                      rw [if_pos (by omega)]
                      have := hoe _ _ hi'
                      rw [show e * n + (i - e * n) = i by omega] at this
                      exact ⟨this, rfl⟩
                    · rw [if_neg c3] at hi'
                      by_cases c4 : i - e * n < j + cs.length
                      · rw [if_pos c4] at hi'
                        have := List.all_eq_true.1 (vcells_all hcs) _ (List.mem_of_getElem? hi')
                        cases this
                      · rw [if_neg c4] at hi'
                        rw [if_neg (by omega), if_neg (by omega)]
                        have := hoe _ _ hi'
                        rw [show e * n + (i - e * n) = i by omega] at this
                        exact ⟨this, rfl⟩
                  · rw [if_neg c2] at hi'
                    rw [if_neg (by omega), if_neg (by omega)]
                    exact ⟨hi', rfl⟩
        · cases h
      · cases h
    · cases h
  · cases h
end
end Go.VL
