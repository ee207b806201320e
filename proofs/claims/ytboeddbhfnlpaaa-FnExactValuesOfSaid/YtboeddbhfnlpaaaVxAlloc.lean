/- Operations that make a block. -/
import Derived.Test.YtboeddbhfnlpaaaVxWrite
namespace Go.VL
set_option linter.unusedSimpArgs false
set_option linter.unusedVariables false
open Go.RowKit

/-- What a making operation gives, the new block being number k: its value, the block's cells an element, its elements. -/
def valloc (P : Program) (k : Nat) (ρ : Operand → V) : Op → Option (V × Nat × List (List V))
  | .alloc t => (zeroV P t).bind fun z => if (z.map lift1).all cellV then some (.ptr k 0 0, z.length, [z.map lift1]) else none
  | .box _ x => (vcells (ρ x)).map fun cs => (.ptr k 0 0, cs.length, [cs])
  | .buildSlice t len parts => match tk P t with
    | .slice e => (zeroV P e).bind fun z =>
        if z.length = P.cellsOf e ∧ P.cellsOf e ≠ 0 ∧ len * P.cellsOf e ≤ 16777216 ∧ (z.map lift1).all cellV then
          (vfill (fun i => some (i * P.cellsOf e, P.cellsOf e)) (List.replicate len (z.map lift1)).flatten (parts.toList.map fun p => (p.1, ρ p.2))).map fun fs => (.ref k 0 len, P.cellsOf e, chunks (P.cellsOf e) len fs)
        else none
    | _ => none
  | .makeSlice t l c => match tk P t, natOf (ρ l), natOf (ρ c) with
    | .slice e, some q, some q' => (zeroV P e).bind fun z =>
        if z.length = P.cellsOf e ∧ P.cellsOf e ≠ 0 ∧ q = q' ∧ P.bytesOf e * q ≤ 281474976710656 ∧ q ≤ 9223372036854775807 ∧ (z.map lift1).all cellV then
          some (.ref k 0 q, P.cellsOf e, List.replicate q (z.map lift1))
        else none
    | _, _, _ => none
  | _ => none

section
variable {P : Program} {N : Fr} {w : World} {φ : Pl} {m : VM}

/-- What the soundness of a making operation says. -/
def Makes (P : Program) (w : World) (O : Nat → Prop) (φ : Pl) (s : Sem Next) (k : Nat) (v : V) (n : Nat) (es : List (List V)) : Prop :=
  ∃ u c t us, s.run P w = .ok (.value u) (w.alloc (.cells c t)) ∧ (∀ e ∈ es, e.length = n) ∧ Sl w O φ es.flatten us ∧ (∀ x ∈ us, x.oneCell' = true) ∧ (∀ i, i < us.length → c[i]? = us[i]?) ∧ us.length ≤ c.size ∧
    ∀ O' φ', φ' k = some (w.heap.size, 0, n) → S (w.alloc (.cells c t)) O' φ' v u

theorem made_get (z : Array Value) (n i : Nat) (hi : i < n) (hz : 0 < z.size) : ((Array.range n).map (z[· % z.size]!))[i]? = z[i % z.size]? := by
  have hm : i % z.size < z.size := Nat.mod_lt _ hz
  simp [hi, hm]

theorem rep_get {α : Type} (z : List α) (q i : Nat) (hi : i < q * z.length) : (List.replicate q z).flatten[i]? = z[i % z.length]? := by
  have hz : 0 < z.length := by rcases Nat.eq_zero_or_pos z.length with h | h; (rw [h, Nat.mul_zero] at hi; omega); exact h
  have hd : i / z.length < q := Nat.div_lt_of_lt_mul (by rwa [Nat.mul_comm])
  have hm : i % z.length < z.length := Nat.mod_lt _ hz
  have := flatten_get (es := List.replicate q z) (n := z.length) (fun e he => by rw [(List.mem_replicate.1 he).2]) (i := i / z.length) (j := i % z.length) (e := z) (x := z[i % z.length]) (by simp [hd]) (by simp [hm])
  rw [Nat.mul_comm, Nat.div_add_mod] at this
  rw [this]; simp [hm]

theorem rep_length {α : Type} (z : List α) (q : Nat) : (List.replicate q z).flatten.length = q * z.length := by
  simp

theorem room_new (w : World) (c : Array Value) (t : TypeId) (n : Nat) (h : n ≤ c.size) : Room (w.alloc (.cells c t)) w.heap.size n :=
  ⟨c, t, (0, 0), heap_alloc_new w _, h⟩

theorem Sl_rep {O : Nat → Prop} (z : List Value) : ∀ q, Sl w O φ (List.replicate q (z.map VL.lift1)).flatten (List.replicate q z).flatten
  | 0 => by simp; exact .nil
  | q + 1 => by
    simp only [List.replicate_succ, List.flatten_cons]
    exact (Sl.lift1 z).append (Sl_rep z q)

theorem vfill_keeps {place : Nat → Option (Nat × Nat)} : ∀ (parts : List (Nat × V)) (cs r : List V), vfill place cs parts = some r → r.length = cs.length ∧ (cs.all cellV = true → r.all cellV = true)
  | [], cs, r, h => by simp [vfill] at h; subst h; exact ⟨rfl, id⟩
  | (i, x) :: parts, cs, r, h => by
    simp only [vfill] at h
    split at h
    · rename_i off n xs hp hxs
      split at h
      · rename_i hle
        obtain ⟨h1, h2⟩ := vfill_keeps parts _ r h
        refine ⟨by rw [h1]; simp; omega, fun hc => h2 ?_⟩
        simp only [List.all_append, Bool.and_eq_true]
        refine ⟨⟨?_, vcells_all hxs⟩, ?_⟩
        · exact List.all_eq_true.2 fun y hy => List.all_eq_true.1 hc y (List.mem_of_mem_take hy)
        · exact List.all_eq_true.2 fun y hy => List.all_eq_true.1 hc y (List.mem_of_mem_drop hy)
      · cases h
    · cases h

theorem all_rep {z : List V} (h : z.all cellV = true) (q : Nat) : (List.replicate q z).flatten.all cellV = true := by
  refine List.all_eq_true.2 fun y hy => ?_
  obtain ⟨l, hl, hy⟩ := List.mem_flatten.1 hy
  rw [(List.mem_replicate.1 hl).2] at hy
  exact List.all_eq_true.1 h y hy

theorem natOf_int' {O : Nat → Prop} {x : V} {n : Nat} {u : Value} (h : natOf x = some n) (hx : S w O φ x u) : ∃ k, u = .int k (n : Int) := by
  unfold natOf at h
  split at h
  · split at h
    · rename_i hq
      obtain rfl := Option.some.inj h
      cases hx
      exact ⟨_, by rw [Int.toNat_of_nonneg hq]⟩
    · cases h
  · cases h

theorem valloc_sound {O : Nat → Prop} {ρ : Operand → V} {ρu : Operand → Value} {o : Oper} {k n : Nat} {es : List (List V)} {v : V} (h : valloc P k ρ o.op = some (v, n, es)) (hρ : ∀ x, S w O φ (ρ x) (ρu x)) :
    Makes P w O φ (execOp ρu o) k v n es := by
  obtain ⟨dst, op, ty, pos, after, guard⟩ := o
  unfold execOp
  unfold valloc at h
  simp only at h ⊢
  split at h
  · rename_i t
    cases hz : zeroV P t with
    | none => simp [hz] at h
    | some z =>
      simp only [hz, Option.bind_some] at h
      split at h
      · rename_i hc
        simp at h
        obtain ⟨rfl, rfl, rfl⟩ := h
        obtain ⟨zv, hz1, hz2⟩ := zeroV_some (P := P) (w := w) hz
        have hs : Sl w O φ (z.map lift1) z := Sl.lift1 z
        refine ⟨_, zv.cells, t, z, ?_, by simp, by simpa using hs, hs.oneCell hc, fun i hi => by simp [← hz2], by simp [← hz2], fun O' φ' hφ => .ptr' hφ (by simp; rfl)⟩
        simp [Instr.alloc, hz1, newVar, newRow]
      · cases h
  · rename_i t x
    cases hc : vcells (ρ x) with
    | none => simp [hc] at h
    | some cs =>
      simp [hc] at h
      obtain ⟨rfl, rfl, rfl⟩ := h
      obtain ⟨hs, h1⟩ := (hρ x).cells hc
      refine ⟨_, (ρu x).cells, t, (ρu x).cells.toList, ?_, by simp, by simpa using hs, h1, fun i hi => by simp, by simp, fun O' φ' hφ => .ptr' hφ (by simp; rfl)⟩
      simp [Instr.box, newVar, newRow]
  · rename_i t len parts
    split at h
    · rename_i e hT
      cases hz : zeroV P e with
      | none => simp [hz] at h
      | some z =>
        simp only [hz, Option.bind_some] at h
        split at h
        · rename_i hc
          obtain ⟨hzl, hn, h24, hcell⟩ := hc
          cases hf : vfill (fun i => some (i * P.cellsOf e, P.cellsOf e)) (List.replicate len (z.map lift1)).flatten (parts.toList.map fun p => (p.1, ρ p.2)) with
          | none => rw [hf] at h; cases h
          | some fs =>
            rw [hf] at h
            simp at h
            obtain ⟨rfl, rfl, rfl⟩ := h
            obtain ⟨zv, hz1, hz2⟩ := zeroV_some (P := P) (w := w) hz
            have hza : zv.cells = z.toArray := by rw [← hz2]
            have hzpos : 0 < z.toArray.size := by simp; omega
            have hcells : (Array.range (len * P.cellsOf e)).map (z.toArray[· % z.toArray.size]!) = (List.replicate len z).flatten.toArray := by
              apply Array.ext_getElem?
              intro i
              by_cases hi : i < len * P.cellsOf e
              · rw [made_get _ _ _ hi hzpos, List.getElem?_toArray, List.getElem?_toArray, rep_get z len i (by rw [hzl]; exact hi)]; simp
              · rw [Array.getElem?_eq_none (by simp; omega), Array.getElem?_eq_none (by simp [hzl]; omega)]
            obtain ⟨c, hc, hs⟩ := vfill_sound (pl := fun i => some (i * P.cellsOf e, P.cellsOf e)) (fun i p hp => hp) (parts.toList.map fun p => (p.1, ρ p.2)) (parts.toList.map fun p => (p.1, ρu p.2)) _ (List.replicate len z).flatten _ (Sl_rep (w := w) (O := O) (φ := φ) z len) (by simp)
              (by
                simp only [List.map_map]
                have : ∀ l : List (Nat × Operand), Sl w O φ (l.map ((fun x => x.2) ∘ fun p => (p.1, ρ p.2))) (l.map ((fun x => x.2) ∘ fun x => (x.1, ρu x.2))) := fun l => by
                  induction l with
                  | nil => exact .nil
                  | cons p l ih => exact .cons (hρ _) ih
                exact this _) hf
            obtain ⟨hk1, hk2⟩ := vfill_keeps _ _ _ hf
            have hlen : fs.length = len * P.cellsOf e := by rw [hk1, rep_length]; simp [hzl]
            obtain ⟨a1, a2, a3⟩ := chunks_flatten (P.cellsOf e) len fs (by omega)
            have hcl : c.toList.length = fs.length := hs.length
            have hcs : c.size = len * P.cellsOf e := by rw [← hlen, ← hcl]; simp
            have hrun : (Instr.buildSlice t len (parts.map fun (i, x) => (i, ρu x))).run P w = .ok (.slice (some ⟨w.heap.size, 0, none⟩) len len) (w.alloc (.cells c e)) := by
              have hparts : (parts.map fun (i, x) => (i, ρu x)).toList = parts.toList.map fun p => (p.1, ρu p.2) := by simp
              have hno : ¬ len * P.cellsOf e > 2 ^ 24 := by omega
              by_cases h0 : len * P.cellsOf e = 0
              · have hz0 : (List.replicate len z).flatten.toArray = #[] := by
                  rw [← hcells, h0]; simp
                rw [hz0] at hc
                simp only [Instr.buildSlice, Sem.run_bind, run_underlying (tk_slice hT), Result.andThen_ok, run_sizeOf' hn, hno, if_false, h0, if_true, Sem.run_pure, Array.range_zero', Array.map_empty, hparts, hc]
                simp [newRow]
              · simp only [Instr.buildSlice, Sem.run_bind, run_underlying (tk_slice hT), Result.andThen_ok, run_sizeOf' hn, hno, if_false, h0, hz1, Sem.run_pure, hza, hcells, hparts, hc]
                simp [newRow]
            refine ⟨_, c, e, c.toList, by rw [Sem.run_bind, hrun]; rfl, a2, ?_, hs.oneCell (hk2 (all_rep hcell len)), fun i _ => by simp, by simp, fun O' φ' hφ => .ref' hφ (Nat.le_refl _) (by rw [Nat.zero_add, Nat.zero_add]; exact room_new w c e _ (by omega)) (by simp)⟩
            rw [a1, List.take_of_length_le (by omega)]
            exact hs
        · cases h
    · cases h
  · rename_i t l c
    split at h
    · rename_i e q q' hT hq hq'
      cases hz : zeroV P e with
      | none => simp [hz] at h
      | some z =>
        simp only [hz, Option.bind_some] at h
        split at h
        · rename_i hc
          obtain ⟨hzl, hn, rfl, hby, h63, hcell⟩ := hc
          simp at h
          obtain ⟨rfl, rfl, rfl⟩ := h
          obtain ⟨zv, hz1, hz2⟩ := zeroV_some (P := P) (w := w) hz
          unfold zeroV at hz
          cases hi : P.info? e with
          | none => simp [hi] at hz
          | some i =>
            cases hzz : i.zero with
            | none => simp [hi, hzz] at hz
            | some zv' =>
              simp [hi, hzz] at hz
              have hsize : i.size = P.cellsOf e := by simp [Program.cellsOf, hi]
              have hbytes : i.bytes = P.bytesOf e := by simp [Program.bytesOf, hi]
              obtain ⟨kl, hul⟩ := natOf_int' hq (hρ l)
              obtain ⟨kc, huc⟩ := natOf_int' hq' (hρ c)
              have hr := run_make (P := P) w t e i zv' (tk_slice hT) hi hzz kl kc q q (by omega) (Int.le_refl _) (by
                have h : ((P.bytesOf e * q : Nat) : Int) ≤ 281474976710656 := by omega
                rw [hbytes]; rwa [Int.natCast_mul] at h) (by omega)
              simp only [Int.toNat_natCast] at hr
              have hza : zv'.cells = z.toArray := by rw [← hz]
              have hzpos : 0 < z.toArray.size := by simp; omega
              refine ⟨_, madeCells zv'.cells (q * i.size), e, (List.replicate q z).flatten, by simp only [hul, huc, Sem.run_bind, hr, Result.andThen_ok, Sem.run_pure]; rfl, ?_, Sl_rep z q, (Sl_rep (w := w) (O := O) (φ := φ) z q).oneCell (all_rep hcell q), fun i' hi' => ?_, by simp [madeCells, hsize, hzl], fun O' φ' hφ => .ref' hφ (Nat.le_refl _) (by rw [Nat.zero_add, Nat.zero_add]; exact room_new w _ e _ (by simp [madeCells, hsize])) (by simp)⟩
              · intro x hx
                rw [(List.mem_replicate.1 hx).2]; simpa using hzl
              · rw [rep_length, hzl] at hi'
                unfold madeCells
                rw [hza, hsize, made_get _ _ _ hi' hzpos, rep_get z q i' (by rw [hzl]; exact hi')]; simp
        · cases h
    · cases h
  · cases h

theorem chunks_cell : ∀ (n k : Nat) (cs : List V), cs.all cellV = true → (chunks n k cs).flatten.all cellV = true
  | _, 0, _, _ => rfl
  | n, k + 1, cs, h => by
    simp only [chunks, List.flatten_cons, List.all_append, Bool.and_eq_true]
    exact ⟨List.all_eq_true.2 fun v hv => List.all_eq_true.1 h v (List.mem_of_mem_take hv), chunks_cell n k _ (List.all_eq_true.2 fun v hv => List.all_eq_true.1 h v (List.mem_of_mem_drop hv))⟩

/-- What is made holds no slice of its own. -/
theorem valloc_cell {ρ : Operand → V} {op : Op} {k n : Nat} {es : List (List V)} {v : V} (h : valloc P k ρ op = some (v, n, es)) : es.flatten.all cellV = true := by
  unfold valloc at h
  split at h
  · simp only [Option.bind_eq_some_iff] at h
    obtain ⟨z, _, h⟩ := h
    split at h
    · rename_i hz; cases h; rw [List.flatten_singleton]; exact hz
    · cases h
  · rw [Option.map_eq_some_iff] at h
    obtain ⟨cs, h1, h2⟩ := h
    cases h2
    simpa using vcells_all h1
  · split at h
    · simp only [Option.bind_eq_some_iff] at h
      obtain ⟨z, _, h⟩ := h
      split at h
      · rename_i hc
        rw [Option.map_eq_some_iff] at h
        obtain ⟨fs, h1, h2⟩ := h
        cases h2
        exact chunks_cell _ _ _ ((vfill_keeps _ _ _ h1).2 (all_rep hc.2.2.2 _))
      · cases h
    · cases h
  · split at h
    · simp only [Option.bind_eq_some_iff] at h
      obtain ⟨z, _, h⟩ := h
      split at h
      · rename_i hc
        cases h
        exact all_rep hc.2.2.2.2.2 _
      · cases h
    · cases h
  · cases h
theorem cell_noOwn {es : List (List V)} (h : es.flatten.all cellV = true) (i n' : Nat) (es' : List (List V)) : es.flatten[i]? ≠ some (.own n' es') := fun hi => by
  have := List.all_eq_true.1 h _ (List.mem_of_getElem? hi)
  cases this
end
end Go.VL
