/- 'append' to an own slice: the block keeps its number, wherever it lies afterwards. -/
import Derived.Test.YtboeddbhfnlpaaaVxLaw
import Derived.ArgAppend
import Derived.Laws.AppendOwn
namespace Go.VL
open Go.RowKit
set_option linter.unusedSimpArgs false
set_option linter.unusedVariables false

/-- Nothing in it leads to block b. -/
def noBV (b : Nat) (v : V) : Bool :=
  match v with
  | .ref b' _ _ | .refc b' _ _ _ _ | .ptr b' _ _ => decide (b' ≠ b)
  | .agg _ | .tup _ => false
  | _ => true

def noBA (b : Nat) (v : V) : Bool :=
  match v with
  | .agg cs => cs.all (noBV b)
  | v => noBV b v

def noBT (b : Nat) (v : V) : Bool :=
  match v with
  | .tup cs => cs.all (noBA b)
  | v => noBA b v

def noBE (b : Nat) (es : List (List V)) : Bool := es.all fun l => l.all (noBV b)
def cellE (es : List (List V)) : Bool := es.all fun l => l.all cellV
/-- Cells, or own slices in cells. -/
def cellO (v : V) : Bool := match v with
  | .own _ _ => true
  | v => cellV v
def cellOE (es : List (List V)) : Bool := es.all fun l => l.all cellO

def noBM (b : Nat) (m : VM) : Bool := m.all fun x => match x with
  | some (_, es) => es.all fun l => l.all (noBV b)
  | none => true

/-- What leads to block b is forgotten. -/
def kill (b : Nat) (v : V) : V := if noBT b v = true then v else .any

section
variable {w w' : World} {O O' : Nat → Prop} {φ φ' : Pl} {b : Nat}
theorem noBV_S (hkeep : ∀ k, k < w.heap.size → ¬ O k → w'.heap[k]? = w.heap[k]? ∧ ¬ O' k) (hφ : ∀ b' p, b' ≠ b → φ b' = some p → φ' b' = some p) (hroom : ∀ k n, Room w k n → Room w' k n) {v : V} {u : Value} (hb : noBV b v = true) (h : S w O φ v u) : S w' O' φ' v u := by
  have hev : Ev w O noPl w' O' noPl := ⟨hkeep, fun _ _ h => h, hroom⟩
  cases h <;> simp only [noBV, decide_eq_true_eq] at hb
  case i => exact .i
  case b => exact .b
  case f => exact .f
  case nan h => exact .nan h
  case str => exact .str
  case s h => exact .s h
  case nil => exact .nil
  case sl hn hl hc h => exact .sl hn hl hc (h.ev hev)
  case sl0 => exact .sl0
  case slnil => exact .slnil
  case ref => exact .ref (hφ _ _ hb ‹_›) ‹_› (hroom _ _ ‹_›)
  case ref0 => exact .ref0
  case refnil => exact .refnil
  case refc => exact .refc (hφ _ _ hb ‹_›) ‹_›
  case refc0 => exact .refc0
  case ptr => exact .ptr (hφ _ _ hb ‹_›)
  case cptr h => exact .cptr (h.ev hev)
  case own h => exact .own (h.ev hev)
  case err => exact .err
  case any => exact .any
  all_goals cases hb

theorem noBV_Sl (hkeep : ∀ k, k < w.heap.size → ¬ O k → w'.heap[k]? = w.heap[k]? ∧ ¬ O' k) (hφ : ∀ b' p, b' ≠ b → φ b' = some p → φ' b' = some p) (hroom : ∀ k n, Room w k n → Room w' k n) : ∀ {vs : List V} {us : List Value}, vs.all (noBV b) = true → Sl w O φ vs us → Sl w' O' φ' vs us
  | _, _, _, .nil => .nil
  | _, _, hb, .cons h hs => by
    simp only [List.all_cons, Bool.and_eq_true] at hb
    exact .cons (noBV_S hkeep hφ hroom hb.1 h) (noBV_Sl hkeep hφ hroom hb.2 hs)

theorem noBA_S (hkeep : ∀ k, k < w.heap.size → ¬ O k → w'.heap[k]? = w.heap[k]? ∧ ¬ O' k) (hφ : ∀ b' p, b' ≠ b → φ b' = some p → φ' b' = some p) (hroom : ∀ k n, Room w k n → Room w' k n) {v : V} {u : Value} (hb : noBA b v = true) (h : S w O φ v u) : S w' O' φ' v u := by
  unfold noBA at hb
  split at hb
  · cases h with
    | agg h => exact .agg (noBV_Sl hkeep hφ hroom hb h)
  · exact noBV_S hkeep hφ hroom hb h

theorem noBA_Sl (hkeep : ∀ k, k < w.heap.size → ¬ O k → w'.heap[k]? = w.heap[k]? ∧ ¬ O' k) (hφ : ∀ b' p, b' ≠ b → φ b' = some p → φ' b' = some p) (hroom : ∀ k n, Room w k n → Room w' k n) : ∀ {vs : List V} {us : List Value}, vs.all (noBA b) = true → Sl w O φ vs us → Sl w' O' φ' vs us
  | _, _, _, .nil => .nil
  | _, _, hb, .cons h hs => by
    simp only [List.all_cons, Bool.and_eq_true] at hb
    exact .cons (noBA_S hkeep hφ hroom hb.1 h) (noBA_Sl hkeep hφ hroom hb.2 hs)

theorem kill_S (hkeep : ∀ k, k < w.heap.size → ¬ O k → w'.heap[k]? = w.heap[k]? ∧ ¬ O' k) (hφ : ∀ b' p, b' ≠ b → φ b' = some p → φ' b' = some p) (hroom : ∀ k n, Room w k n → Room w' k n) {v : V} {u : Value} (h : S w O φ v u) : S w' O' φ' (kill b v) u := by
  unfold kill
  split
  · rename_i hb
    unfold noBT at hb
    split at hb
    · cases h with
      | tup h => exact .tup (noBA_Sl hkeep hφ hroom hb h)
    · exact noBA_S hkeep hφ hroom hb h
  · exact .any
theorem kill_Sl (hkeep : ∀ k, k < w.heap.size → ¬ O k → w'.heap[k]? = w.heap[k]? ∧ ¬ O' k) (hφ : ∀ b' p, b' ≠ b → φ b' = some p → φ' b' = some p) (hroom : ∀ k n, Room w k n → Room w' k n) : ∀ {vs : List V} {us : List Value}, Sl w O φ vs us → Sl w' O' φ' (vs.map (kill b)) us
  | _, _, .nil => .nil
  | _, _, .cons h hs => .cons (kill_S hkeep hφ hroom h) (kill_Sl hkeep hφ hroom hs)
end

/-- The block lies elsewhere now. -/
theorem Mem.moved {N : Fr} {w w' : World} {φ : Pl} {m : VM} (h : Mem N w φ m) (hN : N.bd w) {b n : Nat} {es es' : List (List V)} (hb : m[b]? = some (some (n, es))) (hold : ∀ k, k < w.heap.size → w'.heap[k]? = w.heap[k]?) {q : Nat} {c : Array Value} {t : TypeId}
    (hq : w.heap.size ≤ q) (hnew : w'.heap[q]? = some (.cells c t (0, 0))) (hn : ∀ e ∈ es', e.length = n) (hfit : es'.length * n ≤ c.size) (hcell : ∀ (i : Nat) (v : V), es'.flatten[i]? = some v → ∃ u, c[i]? = some u ∧ u.oneCell' = true ∧ S w (Live φ m) φ v u)
    (hnb : noBM b m = true) (hnb' : (es'.all fun l => l.all (noBV b)) = true) (hno : ∀ (i n' : Nat) (e' : List (List V)), es'.flatten[i]? = some (.own n' e') → ∃ pb po bn u, φ b = some (pb, po, bn) ∧ es.flatten[i]? = some (.own n' e') ∧ w.cell? ⟨pb, po + i, none⟩ = some u ∧ c[i]? = some u) :
    Mem N w' (ext φ b (q, 0, n)) (m.set b (some (n, es'))) ∧ (∀ k, k < w.heap.size → ¬ Live φ m k → w'.heap[k]? = w.heap[k]? ∧ ¬ Live (ext φ b (q, 0, n)) (m.set b (some (n, es'))) k) ∧ (∀ b' p, b' ≠ b → φ b' = some p → ext φ b (q, 0, n) b' = some p) ∧ (∀ k n, Room w k n → Room w' k n) := by
  have hblt : b < m.length := (List.getElem?_eq_some_iff.1 hb).1
  have hqlt : q < w'.heap.size := (Array.getElem?_eq_some_iff.1 hnew).1
  have hφ : ∀ b' p, b' ≠ b → φ b' = some p → ext φ b (q, 0, n) b' = some p := fun b' p hne hp => by simp [ext, hne, hp]
  have hroom : ∀ k n, Room w k n → Room w' k n := fun k n hr => by
    have hk := hr.lt
    obtain ⟨c, e, fr, h1, h2⟩ := hr
    exact ⟨c, e, fr, by rw [hold k hk]; exact h1, h2⟩
  have hkeep : ∀ k, k < w.heap.size → ¬ Live φ m k → w'.heap[k]? = w.heap[k]? ∧ ¬ Live (ext φ b (q, 0, n)) (m.set b (some (n, es'))) k := fun k hk hl => by
    refine ⟨hold k hk, fun ⟨b', x, po, n', h1, h2⟩ => ?_⟩
    by_cases hbb : b' = b
    · subst hbb
      simp only [ext, if_true, Option.some.injEq, Prod.mk.injEq] at h2
      omega
    · simp only [ext, hbb, if_false] at h2
      rw [List.getElem?_set_ne (Ne.symm hbb)] at h1
      exact hl ⟨b', x, po, n', h1, h2⟩
  refine ⟨⟨fun b' n' es'' p h1 h2 => ?_, fun b' k po n' h1 => ?_, fun b' p h1 => ?_, fun b1 b2 k po po' n1 n2 h1 h2 => ?_, ?_⟩, hkeep, hφ, hroom⟩
  · by_cases hbb : b' = b
    · subst hbb
      rw [List.getElem?_set_self hblt] at h1
      cases h1
      refine ⟨hn, q, 0, c, t, by simp [ext], hnew, by omega, fun i v hi => ?_⟩
      obtain ⟨u, a1, a2, a3⟩ := hcell i v hi
      refine ⟨u, by rw [Nat.zero_add]; exact a1, a2, noBV_S hkeep hφ hroom ?_ a3⟩
      obtain ⟨l, l1, l2⟩ := List.mem_flatten.1 (List.mem_of_getElem? hi)
      exact List.all_eq_true.1 (List.all_eq_true.1 hnb' l l1) v l2
    · rw [List.getElem?_set_ne (Ne.symm hbb)] at h1
      simp only [ext, hbb, if_false] at h2
      obtain ⟨c1, pb, po, c', e, c2, c3, c4, c5⟩ := h.at_ b' n' es'' p h1 h2
      have hpb : pb < w.heap.size := (h.new b' pb po n' c2).2
      refine ⟨c1, pb, po, c', e, hφ b' _ hbb c2, by rw [hold pb hpb]; exact c3, c4, fun i v hi => ?_⟩
      obtain ⟨u, a1, a2, a3⟩ := c5 i v hi
      refine ⟨u, a1, a2, noBV_S hkeep hφ hroom ?_ a3⟩
      unfold noBM at hnb
      have h5 := List.all_eq_true.1 hnb _ (List.mem_of_getElem? h1)
      simp only at h5
      obtain ⟨l, l1, l2⟩ := List.mem_flatten.1 (List.mem_of_getElem? hi)
      exact List.all_eq_true.1 (List.all_eq_true.1 h5 l l1) v l2
  · by_cases hbb : b' = b
    · subst hbb
      simp only [ext, if_true, Option.some.injEq, Prod.mk.injEq] at h1
      exact ⟨fun hk => by have := hN _ hk; omega, by omega⟩
    · simp only [ext, hbb, if_false] at h1
      have h2 := h.new b' k po n' h1
      have h3 : w.heap.size ≤ w'.heap.size := by omega
      exact ⟨h2.1, by omega⟩
  · by_cases hbb : b' = b
    · subst hbb; simpa using hblt
    · simp only [ext, hbb, if_false] at h1
      simpa using h.dom b' p h1
  · by_cases hb1 : b1 = b
    · by_cases hb2 : b2 = b
      · rw [hb1, hb2]
      · subst hb1
        simp only [ext, if_true, Option.some.injEq, Prod.mk.injEq, hb2, if_false] at h1 h2
        have := h.new b2 k po' n2 h2
        omega
    · by_cases hb2 : b2 = b
      · subst hb2
        simp only [ext, if_true, Option.some.injEq, Prod.mk.injEq, hb1, if_false] at h1 h2
        have := h.new b1 k po n1 h1
        omega
      · simp only [ext, hb1, hb2, if_false] at h1 h2
        exact h.inj b1 b2 k po po' n1 n2 h1 h2
  · obtain ⟨ψ, hψ⟩ := h.own
    refine ⟨ψ, hψ.keep (by omega) (fun k hk ho => hkeep k hk ho) fun b' n1 es1 pb po bn i n' e' h1 h2 h3 => ?_⟩
    by_cases hbb : b' = b
    · subst hbb
      rw [List.getElem?_set_self hblt] at h1
      cases h1
      simp only [ext, if_true, Option.some.injEq, Prod.mk.injEq] at h2
      obtain ⟨rfl, rfl, rfl⟩ := h2
      obtain ⟨pb0, po0, bn0, u0, g1, g2, g3, g4⟩ := hno i n' e' h3
      refine ⟨n, es, pb0, po0, bn0, hb, g1, g2, fun u hu => ?_⟩
      rw [g3] at hu
      cases hu
      rw [Nat.zero_add]
      exact cell_of hnew g4
    · rw [List.getElem?_set_ne (Ne.symm hbb)] at h1
      simp only [ext, hbb, if_false] at h2
      exact ⟨n1, es1, pb, po, bn, h1, h2, h3, fun u hu => by rw [cell?_same (hold pb (h.new b' pb po bn h2).2)]; exact hu⟩

/-- What a slice holds, elements of n cells. -/
def vcont (m : VM) (n : Nat) (v : V) : Option (List (List V)) :=
  match v with
  | .sl n' es => if n' = n then some es else none
  | .nil => some []
  | .ref b e len => match m[b]? with
    | some (some (n', es)) => if n' = n ∧ e + len ≤ es.length then some ((es.drop e).take len) else none
    | _ => none
  | _ => none

theorem vcont_sound {N : Fr} {w : World} {φ : Pl} {m : VM} {n : Nat} {y : V} {ys : List (List V)} {u : Value} (hm : Mem N w φ m) (h : vcont m n y = some ys) (hy : S w (Live φ m) φ y u) :
    (u = .slice none 0 0 ∧ ys = []) ∨ ∃ a c us, u = .slice (some a) ys.length c ∧ (∀ e ∈ ys, e.length = n) ∧ Sl w (Live φ m) φ ys.flatten us ∧ ∀ (j : Nat) (x : Value), us[j]? = some x → w.cell? (a.add j) = some x := by
  unfold vcont at h
  split at h
  · split at h
    · rename_i hn
      subst hn
      cases h
      cases hy with
      | sl hn hl hc hs =>
        obtain ⟨us, a1, a2, a3⟩ := hs.cells
        refine .inr ⟨_, _, us, by rw [hl], hn, ?_, fun j x hx => by rw [addr_eq rfl]; exact a3 j x hx⟩
        exact Sl.of_get a2.length fun i v u h1 h2 => by
          obtain ⟨u', b1, b2⟩ := a2.get h1
          rw [h2] at b1
          cases b1
          exact b2.lax
      | sl0 => exact .inr ⟨_, _, [], rfl, by simp, .nil, by simp⟩
      | slnil => exact .inl ⟨rfl, rfl⟩
    · cases h
  · cases h
    cases hy
    exact .inl ⟨rfl, rfl⟩
  · rename_i b e len
    split at h
    · rename_i n' es hb
      split at h
      · rename_i hc
        obtain ⟨rfl, hle⟩ := hc
        cases h
        have hlen : ((es.drop e).take len).length = len := by simp; omega
        cases hy with
        | ref hφ hc hr =>
          obtain ⟨hn, pb, po, c, ty, hφ', hp, hfit, hcell⟩ := hm.at_ b _ es _ hb hφ
          rw [hφ] at hφ'
          simp at hφ'
          obtain ⟨rfl, rfl, rfl⟩ := hφ'
          have hcell' : ∀ (i : Nat) (v : V), es.flatten[i]? = some v → ∃ u, w.cell? ⟨_, _ + i, none⟩ = some u ∧ S w (Live φ m) φ v u := fun i v hi => by
            obtain ⟨u, a1, _, a3⟩ := hcell i v hi
            exact ⟨u, cell_of hp a1, a3⟩
          have hfc := flat_cells hn hcell' e len
          obtain ⟨us, a1, a2, a3⟩ := exists_row (Q := fun j u => w.cell? ⟨_, _ + j, none⟩ = some u) (w := w) (O := Live φ m) (φ := φ) ((es.drop e).take len).flatten 0 (fun i v hi => by
            obtain ⟨u, b1, b2⟩ := hfc i v hi
            exact ⟨u, by rw [Nat.zero_add]; exact b1, b2⟩)
          exact .inr ⟨_, _, us, by rw [hlen], fun x hx => hn x (List.mem_of_mem_drop (List.mem_of_mem_take hx)), a2, fun j x hx => by
            rw [addr_eq rfl]
            have := a3 j x hx
            rwa [Nat.zero_add] at this⟩
        | ref0 =>
          rename_i pb off
          exact .inr ⟨⟨pb, off, none⟩, 0, [], by simp, by simp, by simp; exact .nil, by simp⟩
        | refnil => exact .inl ⟨rfl, by simp⟩
      · cases h
    · cases h
  · cases h

theorem run_append_empty {P : Program} {w : World} {t ty e : TypeId} {i : TypeInfo} (ht : P.underlying t = some (.slice e)) (hi : P.info? e = some i) {base : Option Addr} {len cap : Nat} (hc : len ≤ cap) {y : Value} (hy : y = .slice none 0 0 ∨ ∃ a c, y = .slice (some a) 0 c) :
    (Builtin.append_ #[t, t] ty #[.slice base len cap, y]).run P w = .ok (.slice base len cap) w := by
  have hf : ∀ a c, (Builtin.firstCells i.size 0 (.slice (some a) 0 c)).run P w = .ok #[] w := fun a c => run_firstCells_some (P := P) w i.size 0 a 0 c [] (by simp) (by simp)
  rcases hy with rfl | ⟨a, c, rfl⟩
  · cases base <;> simp [Builtin.append_, run_underlying ht, sizeOf, typeInfo, hi, Builtin.lenOf, hc, run_firstCells_none, storeCells]
  · cases base <;> simp [Builtin.append_, run_underlying ht, sizeOf, typeInfo, hi, Builtin.lenOf, hc, hf, storeCells]

theorem run_append_row {P : Program} {w : World} {t ty e : TypeId} {i : TypeInfo} (ht : P.underlying t = some (.slice e)) (hi : P.info? e = some i) {pb po sLen sCap : Nat} {cur : Array Value} {te : TypeId} (hg : w.heap[pb]? = some (.cells cur te (0, 0)))
    {a : Addr} {m c : Nat} {news : List Value} (hl : news.length = m * i.size) (hnews : ∀ j u, news[j]? = some u → w.cell? (a.add j) = some u) (h1 : ∀ u ∈ news, u.oneCell' = true) (hroom : sLen + m ≤ sCap) (hfit : po + sLen * i.size + news.length ≤ cur.size) :
    (Builtin.append_ #[t, t] ty #[.slice (some ⟨pb, po, none⟩) sLen sCap, .slice (some a) m c]).run P w =
      .ok (.slice (some ⟨pb, po, none⟩) (sLen + m) sCap) (w.setRow pb (cur.toList.take (po + sLen * i.size) ++ news ++ cur.toList.drop (po + sLen * i.size + news.length)).toArray) := by
  have hf := run_firstCells_some (P := P) w i.size m a m c news hl hnews
  have hst := run_storeCells_at P pb (po + sLen * i.size) te news 0 cur w hg (by simpa using hfit) h1
  simp only [Nat.add_zero] at hst
  simp [Builtin.append_, run_underlying ht, sizeOf, typeInfo, hi, Builtin.lenOf, hroom, hf, Addr.add_lit, hst]

/-- 'append(s, y...)' where s is the whole of an own block. -/
def vapp (P : Program) (st : VS) (dst : Option Tmp) (t : TypeId) (s y : V) : Option VS :=
  match tk P t, s with
  | .slice e, .ref b 0 len => match st.m[b]?, vcont st.m (P.cellsOf e) y, zeroV P e with
    | some (some (n, es)), some ys, some z =>
      if n = P.cellsOf e ∧ n ≠ 0 ∧ z.length = n ∧ es.length = len ∧ (len + ys.length) * P.bytesOf e ≤ 140737488355328 ∧ len + ys.length ≤ 9223372036854775807 ∧ cellE ys = true ∧ noBE b ys = true ∧ noBM b st.m = true ∧ cellOE es = true then
        some { t := putV (st.t.map (kill b)) dst (.ref b 0 (len + ys.length)), m := st.m.set b (some (n, es ++ ys)), g := st.g.map (kill b) }
      else none
    | _, _, _ => none
  | _, _ => none

theorem zeroV_info {P : Program} {e : TypeId} {zl : List Value} (h : zeroV P e = some zl) : ∃ i z, P.info? e = some i ∧ i.zero = some z ∧ z.cells.toList = zl ∧ P.cellsOf e = i.size ∧ P.bytesOf e = i.bytes := by
  unfold zeroV at h
  cases hi : P.info? e with
  | none => simp [hi] at h
  | some i =>
    cases hz : i.zero with
    | none => simp [hi, hz] at h
    | some z =>
      simp [hi, hz] at h
      exact ⟨i, z, rfl, hz, h, by simp [Program.cellsOf, hi], by simp [Program.bytesOf, hi]⟩

theorem vapp_sound {P : Program} {N : Fr} {w0 : World × List Value} {st st' : VS} {o : Oper} {s y : Operand} {t : TypeId} {a : Act} {w : World} {φ : Pl} {K : Act → World → Prop} {Q : Exit → Act → World → Prop}
    (ho : o.op = .call { callee := .builtin .append, args := #[s, y], argTypes := #[t, t] }) (h : vapp P st o.dst t (ev st.t s) (ev st.t y) = some st') (hs : SR P N w0 st a w φ) (hK : ∀ a' w' φ', SR P N w0 st' a' w' φ' → K a' w') : o.wp P a w K Q := by
  have hsv := hs.eval s
  have hyv := hs.eval y
  unfold vapp at h
  split at h
  rotate_left
  · cases h
  rename_i e b len hT hsE
  split at h
  rotate_left
  · cases h
  rename_i n es ys zl hb hyc hz
  split at h
  rotate_left
  · cases h
  rename_i hc
  obtain ⟨hn, hn0, hzl, hlen, hbytes, h63, hcv, hnb, hnm, hce⟩ := hc
  have hynown : ∀ (i n' : Nat) (e' : List (List V)), ys.flatten[i]? ≠ some (.own n' e') := cell_noOwn (List.all_eq_true.2 fun v hv => by
    obtain ⟨l, l1, l2⟩ := List.mem_flatten.1 hv
    exact List.all_eq_true.1 (List.all_eq_true.1 hcv l l1) v l2)
  have hnown : ∀ (i n' : Nat) (e' : List (List V)), (es ++ ys).flatten[i]? = some (.own n' e') → i < es.flatten.length ∧ es.flatten[i]? = some (.own n' e') := fun i n' e' hi => by
    rw [List.flatten_append] at hi
    by_cases hlt : i < es.flatten.length
    · rw [List.getElem?_append_left hlt] at hi
      exact ⟨hlt, hi⟩
    · rw [List.getElem?_append_right (by omega)] at hi
      exact absurd hi (hynown _ _ _)
  cases h
  unfold cellE at hcv
  unfold noBE at hnb
  have ht := tk_slice hT
  obtain ⟨i, z, hi, hzz, hzc, hsize, hby⟩ := zeroV_info hz
  rw [hsE] at hsv
  have hys := vcont_sound hs.mem hyc hyv
  have hblt : b < st.m.length := (List.getElem?_eq_some_iff.1 hb).1
  have hrun : ∀ (r : Result Value), (Builtin.append_ #[t, t] o.type #[a.eval s, a.eval y]).run P w = r → (execOp a.eval o).run P w = r.andThen fun v w' => .ok (.value v) w' := fun r hr => by
    simp [execOp, ho, resolve, invoke, builtin, hr]
  have hfl : ∀ x ∈ es ++ ys, True := fun _ _ => trivial
  -- after a growth
  have grow : ∀ (v' : Value) (w' : World), (∀ x ∈ es, x.length = n) → (∀ x ∈ ys, x.length = n) → ∀ (g cap : Nat) (cur : Array Value), v' = .slice (some ⟨g, 0, none⟩) (len + ys.length) cap → w.heap.size ≤ g → w'.heap[g]? = some (.cells cur e (0, 0)) → len + ys.length ≤ cap → cur.size = cap * n →
      (∀ (i : Nat) (v : V), (es ++ ys).flatten[i]? = some v → ∃ u, cur[i]? = some u ∧ u.oneCell' = true ∧ S w (Live φ st.m) φ v u) → (∀ (i n' : Nat) (e' : List (List V)), es.flatten[i]? = some (.own n' e') → ∃ pb po bn u, φ b = some (pb, po, bn) ∧ w.cell? ⟨pb, po + i, none⟩ = some u ∧ cur[i]? = some u) → w.grownBy w' none → K (a.put o.dst v') w' := by
    intro v' w' hesn hyn g cap cur hv' hg hgc hcap hcs hcell hcown hgr
    have hold : ∀ k, k < w.heap.size → w'.heap[k]? = w.heap[k]? := fun k hk => hgr.block k hk (by simp)
    have hesb : (es.all fun l => l.all (noBV b)) = true := by
      unfold noBM at hnm
      have := List.all_eq_true.1 hnm _ (List.mem_of_getElem? hb)
      simpa using this
    have hfit : (es ++ ys).length * n ≤ cur.size := by
      rw [hcs, List.length_append, hlen]
      exact Nat.mul_le_mul_right _ hcap
    obtain ⟨m1, m2, m3, m4⟩ := hs.mem.moved hs.start hb hold hg hgc (es' := es ++ ys) (fun x hx => by
      rcases List.mem_append.1 hx with hx | hx
      · exact hesn x hx
      · exact hyn x hx) hfit hcell hnm (by rw [List.all_append, hesb, hnb]; rfl) (fun i n' e' hi => by
      obtain ⟨_, h2⟩ := hnown i n' e' hi
      obtain ⟨pb, po, bn, u, c1, c2, c3⟩ := hcown i n' e' h2
      exact ⟨pb, po, bn, u, c1, h2, c2, c3⟩)
    have hbel : Bel N w w' := ⟨hgr.os, hgr.tape, hgr.output, hgr.size, fun k hk => hold k (hs.start k hk)⟩
    have h1 : SR P N w0 { t := st.t.map (kill b), m := st.m.set b (some (n, es ++ ys)), g := st.g.map (kill b) } a w' (ext φ b (g, 0, n)) := by
      refine ⟨hs.defers, by simpa using hs.size, fun j v hj => ?_, m1, hs.below.trans hbel, hs.start.trans hgr.size, kill_Sl m2 m3 m4 hs.gh, hs.gl⟩
      simp only [List.getElem?_map, Option.map_eq_some_iff] at hj
      obtain ⟨v0, hj, rfl⟩ := hj
      obtain ⟨u, u1, u2⟩ := hs.tmps j v0 hj
      exact ⟨u, u1, kill_S m2 m3 m4 u2⟩
    refine hK _ w' _ (h1.put (u := v') ?_ m1 (Ev.refl _ _ _) (Bel.refl _ _))
    rw [hv']
    exact .ref' (pb := g) (po := 0) (bn := n) (by simp [ext]) hcap ⟨cur, e, _, hgc, by rw [hcs]; simp⟩ (by simp)
  have killed : ∀ (w' : World) (φ' : Pl) (m' : VM), SR P N w0 { t := st.t, m := m', g := st.g } a w' φ' → SR P N w0 { t := st.t.map (kill b), m := m', g := st.g.map (kill b) } a w' φ' := fun w' φ' m' h' =>
    ⟨h'.defers, by simpa using h'.size, fun j v hj => by
      simp only [List.getElem?_map, Option.map_eq_some_iff] at hj
      obtain ⟨v0, hj, rfl⟩ := hj
      obtain ⟨u, u1, u2⟩ := h'.tmps j v0 hj
      exact ⟨u, u1, kill_S (fun _ _ h => ⟨rfl, h⟩) (fun _ _ _ h => h) (fun _ _ h => h) u2⟩, h'.mem, h'.below, h'.start, kill_Sl (fun _ _ h => ⟨rfl, h⟩) (fun _ _ _ h => h) (fun _ _ h => h) h'.gh, h'.gl⟩
  -- nothing is appended
  have empty : ∀ (y0 : a.eval y = .slice none 0 0 ∨ ∃ ad c, a.eval y = .slice (some ad) 0 c) (hys0 : ys = []) {base : Option Addr} {cap : Nat} (hsvv : a.eval s = .slice base len cap) (hcap : len ≤ cap), o.wp P a w K Q := by
    intro y0 hys0 base cap hsvv hcap
    subst hys0
    have hr := run_append_empty (P := P) (w := w) (ty := o.type) ht hi (base := base) hcap y0
    unfold Oper.wp
    have hr' : (Builtin.append_ #[t, t] o.type #[a.eval s, a.eval y]).run P w = .ok (.slice base len cap) w := by rw [hsvv]; exact hr
    rw [hrun _ hr']
    simp only [Result.andThen, Oper.upon_value]
    have hm : st.m.set b (some (n, es ++ [])) = st.m := by
      rw [List.append_nil]
      apply List.ext_getElem?
      intro j
      by_cases hj : b = j
      · subst hj; rw [List.getElem?_set_self hblt, hb]
      · rw [List.getElem?_set_ne hj]
    refine hK _ w φ ?_
    rw [hm]
    refine (killed w φ st.m hs).put ?_ hs.mem (Ev.refl _ _ _) (Bel.refl _ _)
    rw [← hsvv]
    exact hsv
  -- growth of a slice that is there
  have growS : ∀ (sa : Addr) (cap : Nat) (hsvv : a.eval s = .slice (some sa) len cap) (ad : Addr) (c : Nat) (us : List Value) (hyv' : a.eval y = .slice (some ad) ys.length c) (hyn : ∀ x ∈ ys, x.length = n) (husl : Sl w (Live φ st.m) φ ys.flatten us) (hus : ∀ (j : Nat) (x : Value), us[j]? = some x → w.cell? (ad.add j) = some x)
      (hesn : ∀ x ∈ es, x.length = n) (olds : List Value) (holdsl : Sl w (Live φ st.m) φ es.flatten olds) (ho1 : ∀ u ∈ olds, u.oneCell' = true) (holds : ∀ (j : Nat) (x : Value), olds[j]? = some x → w.cell? (sa.add j) = some x) (hpl : ∀ (i n' : Nat) (e' : List (List V)), es.flatten[i]? = some (.own n' e') → ∃ pb po bn, φ b = some (pb, po, bn) ∧ (⟨pb, po + i, none⟩ : Addr) = sa.add i), cap < len + ys.length → o.wp P a w K Q := by
    intro sa cap hsvv ad c us hyv' hyn husl hus hesn olds holdsl ho1 holds hpl hg
    have hul : us.length = ys.length * n := by rw [husl.length, flatten_length hyn]
    have hol : olds.length = len * n := by rw [holdsl.length, flatten_length hesn, hlen]
    have h1u : ∀ u ∈ us, u.oneCell' = true := husl.oneCell (List.all_eq_true.2 fun v hv => by
      obtain ⟨l, l1, l2⟩ := List.mem_flatten.1 hv
      exact List.all_eq_true.1 (List.all_eq_true.1 hcv l l1) v l2)
    have hzs : z.cells.size = n := by rw [← hzl, ← hzc]; simp
    obtain ⟨v', w', r1, r2, r3⟩ := run_append_arg_grows (P := P) w t o.type e i z n (P.bytesOf e) ht hi hzz (by rw [← hsize, ← hn]) hby.symm hzs (by omega) sa len cap olds hol holds ad ys.length c us hul hus hg h63 hbytes
    unfold Oper.wp
    have r1' : (Builtin.append_ #[t, t] o.type #[a.eval s, a.eval y]).run P w = .ok v' w' := by rw [hsvv, hyv']; exact r1
    rw [hrun _ r1']
    simp only [Result.andThen, Oper.upon_value]
    obtain ⟨q1, q2⟩ := r2
    rcases q2 with ⟨_, q3⟩ | ⟨g, cap', cur, q3, q4, q5, q6, q7, q8, q9⟩
    · omega
    · refine grow v' w' hesn hyn g cap' cur q3 q4 q5 q6 q8 (fun j v hj => ?_) (fun i n' e' hi => ?_) r3
      rotate_left
      · obtain ⟨pb, po, bn, g1, g2⟩ := hpl i n' e' hi
        obtain ⟨u, u1, u2⟩ := holdsl.get hi
        have hju : i < len * n := by
          have := (List.getElem?_eq_some_iff.1 u1).1
          omega
        refine ⟨pb, po, bn, u, g1, by rw [g2]; exact holds i u u1, ?_⟩
        have hju2 : i < (len + ys.length) * n := by rw [Nat.add_mul]; omega
        have e1 : (olds ++ us)[i]? = some u := by rw [List.getElem?_append_left (by omega)]; exact u1
        rw [← q9, List.getElem?_take, if_pos hju2] at e1
        simpa using e1
      have hall : Sl w (Live φ st.m) φ (es ++ ys).flatten (olds ++ us) := by rw [List.flatten_append]; exact holdsl.append husl
      obtain ⟨u, u1, u2⟩ := hall.get hj
      have hju : j < (len + ys.length) * n := by
        have := (List.getElem?_eq_some_iff.1 u1).1
        rw [q1] at this
        exact this
      refine ⟨u, ?_, ?_, u2⟩
      · rw [← q9, List.getElem?_take, if_pos hju] at u1
        simpa using u1
      · rcases List.mem_append.1 (List.mem_of_getElem? u1) with hx | hx
        · exact ho1 u hx
        · exact h1u u hx
  have hzero : es = [] → ∀ x ∈ es, x.length = n := fun h => by subst h; simp
  generalize hsv' : a.eval s = sv at hsv
  generalize hyv' : a.eval y = yv at hys
  cases hsv with
  | ref hφ hcap hroom =>
    rename_i pb po bn cap
    obtain ⟨hesn, pb', po', cu, te, hφ', hp, hfit, hcell⟩ := hs.mem.at_ b n es _ hb hφ
    rw [hφ] at hφ'
    simp at hφ'
    obtain ⟨rfl, rfl, rfl⟩ := hφ'
    rcases hys with ⟨rfl, hys0⟩ | ⟨ad, c, us, rfl, hyn, husl, hus⟩
    · exact empty (.inl hyv') hys0 hsv' hcap
    · by_cases hr : len + ys.length ≤ cap
      · -- in place
        have hyn' : ∀ x ∈ ys, x.length = bn := fun x hx => (hyn x hx).trans hn.symm
        have hul : us.length = ys.length * bn := by rw [husl.length, flatten_length hyn']
        have h1u : ∀ u ∈ us, u.oneCell' = true := husl.oneCell (List.all_eq_true.2 fun v hv => by
          obtain ⟨l, l1, l2⟩ := List.mem_flatten.1 hv
          exact List.all_eq_true.1 (List.all_eq_true.1 hcv l l1) v l2)
        obtain ⟨cu2, te2, fr2, hp2, hroom2⟩ := hroom
        rw [hp] at hp2
        cases hp2
        have hmul : (len + ys.length) * bn ≤ cap * bn := Nat.mul_le_mul_right _ hr
        rw [Nat.add_mul] at hmul
        rw [Nat.zero_add] at hroom2
        have hsz : i.size = bn := by rw [← hsize, ← hn]
        have hr1 := run_append_row (P := P) (w := w) (ty := o.type) ht hi (po := po) (sLen := len) (sCap := cap) hp (a := ad) (m := ys.length) (c := c) (news := us) (by rw [hsz]; exact hul) hus h1u hr (by rw [hsz]; omega)
        rw [hsz] at hr1
        generalize hA : (cu.toList.take (po + len * bn) ++ us ++ cu.toList.drop (po + len * bn + us.length)).toArray = A at hr1
        have hr' : (Builtin.append_ #[t, t] o.type #[a.eval s, a.eval y]).run P w = .ok (.slice (some ⟨pb, po, none⟩) (len + ys.length) cap) (w.setRow pb A) := by
          rw [hsv', hyv', Nat.zero_mul, Nat.add_zero]
          exact hr1
        unfold Oper.wp
        rw [hrun _ hr']
        simp only [Result.andThen, Oper.upon_value]
        have hcl : cu.toList.length = cu.size := Array.length_toList
        have hget : ∀ q, A[q]? = if q < po + len * bn then cu[q]? else if q < po + len * bn + us.length then us[q - (po + len * bn)]? else cu[q]? := by
          intro q
          rw [← hA, List.getElem?_toArray, splice_get _ _ _ _ (by omega)]
          simp
        have hsize' : A.size = cu.size := by
          rw [← hA]
          simp only [List.size_toArray, List.length_append, List.length_take, List.length_drop, Array.length_toList]; omega
        have hef : es.flatten.length = len * bn := by rw [flatten_length hesn, hlen]
        have hw := hs.mem.write (es' := es ++ ys) hb hφ hp (setRow_heap w pb cu _ te _ hp) hsize' (fun k hk => setRow_other w pb k _ hk) (by simp [World.setRow])
          (fun x hx => by
            rcases List.mem_append.1 hx with h | h
            · exact hesn x h
            · exact hyn' x h) (by rw [List.length_append, hlen, Nat.add_mul]; omega) (fun j v hj => by
            rw [List.flatten_append] at hj
            rw [hget]
            by_cases hjl : j < len * bn
            · rw [List.getElem?_append_left (by omega)] at hj
              rw [if_pos (by omega)]
              exact hcell j v hj
            · rw [List.getElem?_append_right (by omega), hef] at hj
              obtain ⟨u, u1, u2⟩ := husl.get hj
              have := (List.getElem?_eq_some_iff.1 u1).1
              rw [if_neg (by omega), if_pos (by omega)]
              refine ⟨u, ?_, h1u u (List.mem_of_getElem? u1), u2⟩
              rw [← u1]; congr 1; omega) (fun i n' e' hi => by
            obtain ⟨h1, h2⟩ := hnown i n' e' hi
            refine ⟨h2, ?_⟩
            rw [hget, if_pos (by omega)])
        have hbel : Bel N w (w.setRow pb A) :=
          ⟨rfl, rfl, rfl, by simp [World.setRow], fun k hk => setRow_other w pb k _ (fun e => (hs.mem.new b pb po bn hφ).1 (e ▸ hk))⟩
        have h2 : SR P N w0 { t := st.t, m := st.m.set b (some (bn, es ++ ys)), g := st.g } a (w.setRow pb A) φ :=
          ⟨hs.defers, hs.size, fun j v hj => by
            obtain ⟨u, u1, u2⟩ := hs.tmps j v hj
            exact ⟨u, u1, u2.ev hw.2⟩, hw.1, hs.below.trans hbel, hs.start.trans hbel.size, Sl.ev hw.2 hs.gh, hs.gl⟩
        refine hK _ _ φ ((killed _ φ _ h2).put ?_ hw.1 (Ev.refl _ _ _) (Bel.refl _ _))
        exact .ref' hφ hr (hw.2.room _ _ ⟨cu, te, _, hp, by rw [Nat.zero_add]; exact hroom2⟩) (by simp)
      · obtain ⟨olds, a1, a2, a3⟩ := exists_row (Q := fun j u => cu[po + j]? = some u ∧ u.oneCell' = true) (w := w) (O := Live φ st.m) (φ := φ) es.flatten 0 (fun j v hj => by
          obtain ⟨u, b1, b2, b3⟩ := hcell j v hj
          exact ⟨u, by rw [Nat.zero_add]; exact ⟨b1, b2⟩, b3⟩)
        refine growS _ cap hsv' ad c us hyv' (fun x hx => (hyn x hx).trans hn.symm) husl hus hesn olds a2 (fun u hu => ?_) (fun j x hx => ?_) (fun i n' e' hi => ?_) (by omega)
        · obtain ⟨j, hj⟩ := List.getElem?_of_mem hu
          exact (a3 j u hj).2
        · rw [addr_eq rfl]
          have := (a3 j x hx).1
          rw [Nat.zero_add] at this
          simp only [Nat.zero_mul, Nat.add_zero]
          exact cell_of hp this
        · rw [addr_eq rfl]
          exact ⟨pb, po, bn, hφ, by simp⟩
  | ref0 =>
    have hes0 : es = [] := List.eq_nil_of_length_eq_zero hlen
    rcases hys with ⟨rfl, hys0⟩ | ⟨ad, c, us, rfl, hyn, husl, hus⟩
    · exact empty (.inl hyv') hys0 hsv' (Nat.le_refl _)
    · by_cases hr : ys = []
      · refine empty (.inr ⟨ad, c, ?_⟩) hr hsv' (Nat.le_refl _)
        rw [hyv', hr]; rfl
      · have : 0 < ys.length := List.length_pos_iff.2 hr
        exact growS _ 0 hsv' ad c us hyv' (fun x hx => (hyn x hx).trans hn.symm) husl hus (hzero hes0) [] (by rw [hes0]; exact .nil) (by simp) (by simp) (fun i n' e' hi => by rw [hes0] at hi; simp at hi) (by omega)
  | refnil =>
    have hes0 : es = [] := List.eq_nil_of_length_eq_zero hlen
    rcases hys with ⟨rfl, hys0⟩ | ⟨ad, c, us, rfl, hyn, husl, hus⟩
    · exact empty (.inl hyv') hys0 hsv' (Nat.le_refl _)
    · by_cases hr : ys = []
      · refine empty (.inr ⟨ad, c, ?_⟩) hr hsv' (Nat.le_refl _)
        rw [hyv', hr]; rfl
      · have hpos : 0 < ys.length := List.length_pos_iff.2 hr
        have hyn' : ∀ x ∈ ys, x.length = n := fun x hx => (hyn x hx).trans hn.symm
        have hul : us.length = ys.length * n := by rw [husl.length, flatten_length hyn']
        have h1u : ∀ u ∈ us, u.oneCell' = true := husl.oneCell (List.all_eq_true.2 fun v hv => by
          obtain ⟨l, l1, l2⟩ := List.mem_flatten.1 hv
          exact List.all_eq_true.1 (List.all_eq_true.1 hcv l l1) v l2)
        have hzs : z.cells.size = n := by rw [← hzl, ← hzc]; simp
        obtain ⟨v', w', r1, r2, r3, _⟩ := run_append_own (P := P) w w.heap.size t o.type e i z n (P.bytesOf e) ht hi hzz (by rw [← hsize, ← hn]) hby.symm hzs (by omega) (.slice none 0 0) 0 [] (World.ownsRow_nil w _ e n) ad ys.length c us hul hus h1u (by simp only [maxLen]; omega) (by simpa using hbytes) (Nat.le_refl _)
        unfold Oper.wp
        have r1' : (Builtin.append_ #[t, t] o.type #[a.eval s, a.eval y]).run P w = .ok v' w' := by rw [hsv', hyv']; exact r1
        rw [hrun _ r1']
        simp only [Result.andThen, Oper.upon_value]
        obtain ⟨q1, q2⟩ := r2
        rcases q2 with ⟨_, q3⟩ | ⟨g, cap', cur, q3, q4, q5, q6, q7, q8, q9⟩
        · omega
        · refine grow v' w' (hzero hes0) hyn' g cap' cur q3 q4 q5 q6 q8 (fun j v hj => ?_) (fun i n' e' hi => by rw [hes0] at hi; simp at hi) r3
          rw [hes0, List.nil_append] at hj
          obtain ⟨u, u1, u2⟩ := husl.get hj
          have hju : j < (0 + ys.length) * n := by
            have := (List.getElem?_eq_some_iff.1 u1).1
            rw [hul] at this
            simpa using this
          refine ⟨u, ?_, h1u u (List.mem_of_getElem? u1), u2⟩
          have q9' : cur.toList.take ((0 + ys.length) * n) = us := by simpa using q9
          rw [← q9', List.getElem?_take, if_pos hju] at u1
          simpa using u1
end Go.VL
