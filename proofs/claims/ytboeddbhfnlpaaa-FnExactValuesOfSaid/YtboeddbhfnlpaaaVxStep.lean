/- One operation: what it gives, and the blocks behind it. -/
import Derived.Test.YtboeddbhfnlpaaaVxOps
import Derived.Laws.BytesArg
namespace Go.VL
set_option linter.unusedSimpArgs false
set_option linter.unusedVariables false
open Go.RowKit

/-- The cells of a type's zero value. -/
def zeroV (P : Program) (t : TypeId) : Option (List Value) := ((P.info? t).bind (·.zero)).map fun z => z.cells.toList

/-- Parts laid over cells. -/
def vfill (place : Nat → Option (Nat × Nat)) : List V → List (Nat × V) → Option (List V)
  | cs, [] => some cs
  | cs, (i, x) :: rest =>
    match place i, vcells x with
    | some (off, n), some xs => if xs.length = n ∧ off + n ≤ cs.length then vfill place (cs.take off ++ xs ++ cs.drop (off + n)) rest else none
    | _, _ => none

def vbuild (P : Program) (t : TypeId) (parts : List (Nat × V)) : Option V :=
  (zeroV P t).bind fun z =>
    match tk P t with
    | .struct fs => if fs.all (fun f => decide (f.2.1 ≠ 0)) then (vfill (fun i => (fs[i]?).bind fun f => if f.2.1 = 0 then none else some (f.1, f.2.1)) (z.map lift1) parts).map .agg else none
    | .arr _ e => if P.cellsOf e = 0 then none else (vfill (fun i => some (i * P.cellsOf e, P.cellsOf e)) (z.map lift1) parts).map .agg
    | _ => none

def rep (k : Nat) (z : List V) : List V := (List.replicate k z).flatten

def vpick (x : Bool) (a b : V) : V := if x = true then a else b

def numOf : List V → Option Int
  | [.i .u8 n] => some n
  | _ => none

/-- The numbers of bytes, one a row. -/
def numsOf : List (List V) → Option (List Int)
  | [] => some []
  | e :: es => (numOf e).bind fun n => (numsOf es).map (n :: ·)

/-- The bytes of a slice. -/
def vbytes (m : VM) (x : V) : Option (List Int) :=
  match x with
  | .nil => some []
  | .sl _ es => numsOf es
  | .ref b e len => match m[b]? with
    | some (some (_, es)) => if e + len ≤ es.length then numsOf ((es.drop e).take len) else none
    | _ => none
  | .refc b e j n len => match m[b]? with
    | some (some (_, es)) => (es[e]?).bind fun cs => if n = 1 ∧ j + len ≤ cs.length then numsOf (((cs.drop j).take len).map fun v => [v]) else none
    | _ => none
  | _ => none

/-- A conversion: of bytes to a string, or of a number. -/
def vconvM (P : Program) (m : VM) (T : TK) (D : TK) (x : V) : Option V :=
  match T with
  | .slice e => if tk P e = .int .u8 ∧ D = .str then (vbytes m x).map fun ns => .str (strOfNums ns) else none
  | T => vconv T D x

def vq (P : Program) (m : VM) (ρ : Operand → V) : Op → Option V
  | .move x | .assign x => some (ρ x)
  | .pick c a b => match ρ c with | .b t => some (vpick t (ρ a) (ρ b)) | _ => none
  | .load t x => vload P m t (ρ x)
  | .nilCheck x => match ρ x with | .ptr b e j => some (.ptr b e j) | .cptr cs j => some (.cptr cs j) | .s (.func f a c) => some (.s (.func f a c)) | _ => none
  | .binOp op t x y _ => vbinP P t op x y (ρ x) (ρ y)
  | .unOp op _ x => vun op (ρ x)
  | .convert s d x => vconvM P m (tk P s) (tk P d) (ρ x)
  | .build t parts => vbuild P t (parts.toList.map fun p => (p.1, ρ p.2))
  | .slice t x lo hi none => vslice P m (tk P t) (ρ x) (lo.map ρ) (hi.map ρ)
  | .fieldAddr t x f => vfieldAddr (tk P t) (ρ x) f
  | .field t x f => vfield (tk P t) (ρ x) f
  | .indexAddr t x i => (natOf (ρ i)).bind fun k => vidx P m (tk P t) (ρ x) k
  | .index t x i => (natOf (ρ i)).bind fun k => vindex P (tk P t) (ρ x) k
  | .extract x i => match ρ x with | .tup vs => vs[i]? | _ => none
  | .call { callee := .builtin .len, args, argTypes } => match args.toList, argTypes.toList with | [x], [t] => vlen (tk P t) (ρ x) | _, _ => none
  | .call { callee := .builtin .min, args, argTypes := _ } => match args.toList with
    | [x, y] => (match ρ x, ρ y with | .i k a, .i _ b => some (.i k (if b < a then b else a)) | _, _ => none)
    | _ => none
  | .call { callee := .builtin .max, args, argTypes := _ } => match args.toList with
    | [x, y] => (match ρ x, ρ y with | .i k a, .i _ b => some (.i k (if a < b then b else a)) | _, _ => none)
    | _ => none
  | _ => none

section
variable {P : Program} {N : Fr} {w : World} {φ : Pl} {m : VM}

theorem vfill_sound {O : Nat → Prop} {place : Nat → Option (Nat × Nat)} {pl : Nat → Option (Nat × Nat)} (hpl : ∀ i p, place i = some p → pl i = some p) : ∀ (parts : List (Nat × V)) (uparts : List (Nat × Value)) (cs : List V) (us : List Value) (r : List V),
    Sl w O φ cs us → uparts.map (·.1) = parts.map (·.1) → Sl w O φ (parts.map (·.2)) (uparts.map (·.2)) → vfill place cs parts = some r → ∃ c : Array Value, Instr.fill pl us.toArray uparts = some c ∧ Sl w O φ r c.toList
  | [], [], cs, us, r, h, _, _, hr => by
    simp [vfill] at hr; subst hr
    exact ⟨_, rfl, by simpa using h⟩
  | (i, x) :: parts, [], cs, us, r, h, h1, _, hr => by simp at h1
  | [], y :: _, cs, us, r, h, h1, _, hr => by simp at h1
  | (i, x) :: parts, (i', u) :: uparts, cs, us, r, h, h1, h2, hr => by
    simp at h1
    obtain ⟨rfl, h1⟩ := h1
    cases h2 with
    | cons hx h2 =>
      simp only [vfill] at hr
      split at hr
      · rename_i off n xs hp hxs
        split at hr
        · rename_i hle
          obtain ⟨hn, hle⟩ := hle
          obtain ⟨hc, h1c⟩ := hx.cells hxs
          have hul : u.cells.toList.length = n := by rw [hc.length, hn]
          have hlen := h.length
          have hul' : u.cells.size = n := by simpa using hul
          have hover : ∀ (l : List Value) (k : Nat) (A : Array Value), (l.zipIdx k).foldl (fun cs (p : Value × Nat) => cs.setIfInBounds (off + p.2) p.1) A =
              if off + k + l.length ≤ A.size then (A.toList.take (off + k) ++ l ++ A.toList.drop (off + k + l.length)).toArray else (l.zipIdx k).foldl (fun cs (p : Value × Nat) => cs.setIfInBounds (off + p.2) p.1) A := by
            intro l
            induction l with
            | nil => intro k A; simp
            | cons a l ih =>
              intro k A
              split
              · rename_i hk
                simp only [List.length_cons] at hk
                simp only [List.zipIdx_cons, List.foldl_cons]
                rw [ih (k + 1) _, if_pos (by simp; omega)]
                congr 1
                have := list_seg_step A.toList (off + k) a l (by simp; omega)
                simp only [List.length_cons] at this ⊢
                rw [← this]
                simp [Nat.add_assoc, Nat.add_comm, Nat.add_left_comm]
              · rfl
          have hfold : (u.cells.zipIdx.foldl (fun cs (p : Value × Nat) => cs.setIfInBounds (off + p.2) p.1) us.toArray) = (us.take off ++ u.cells.toList ++ us.drop (off + n)).toArray := by
            have := hover u.cells.toList 0 us.toArray
            rw [if_pos (by simp; omega)] at this
            simp only [Nat.add_zero, hul] at this
            rw [← this, ← Array.foldl_toList]
            congr 1
            simp
          have ih := vfill_sound hpl parts uparts (cs.take off ++ xs ++ cs.drop (off + n)) (us.take off ++ u.cells.toList ++ us.drop (off + n)) r (((h.take off).append hc).append (h.drop _)) h1 h2 hr
          obtain ⟨c, hf, hs⟩ := ih
          refine ⟨c, ?_, hs⟩
          have hsz : ¬ (u.cells.size ≠ n ∨ us.length < off + u.cells.size) := by omega
          simp only [Instr.fill, hpl _ _ hp]
          rw [← hf, ← hfold]
          simp [hul']
          omega
        · cases hr
      · cases hr

theorem zeroV_some {t : TypeId} {z : List Value} (h : zeroV P t = some z) : ∃ v, (zeroValue t).run P w = .ok v w ∧ v.cells.toList = z := by
  unfold zeroV at h
  cases hi : P.info? t with
  | none => simp [hi] at h
  | some i =>
    cases hz : i.zero with
    | none => simp [hi, hz] at h
    | some v =>
      simp [hi, hz] at h
      exact ⟨v, by simp [zeroValue, run_typeInfo w hi, hz], h⟩

theorem run_places : ∀ (l : List Field), (l.all fun f => decide (csz P f.type ≠ 0)) = true → (l.mapM (m := Sem) fun f => do pure (f.offset, ← sizeOf f.type)).run P w = .ok (l.map fun f => (f.offset, P.cellsOf f.type)) w
  | [], _ => by simp
  | f :: l, h => by
    simp only [List.all_cons, Bool.and_eq_true, decide_eq_true_eq] at h
    have ih := run_places l h.2
    simp only [List.mapM_cons, Sem.run_bind, run_sizeOf' (csz_some h.1).2.1, Result.andThen_ok, Sem.run_pure, ih, List.map_cons]

theorem vbuild_sound {O : Nat → Prop} {t : TypeId} {parts : List (Nat × V)} {uparts : Array (Nat × Value)} {v : V} (h : vbuild P t parts = some v) (h1 : uparts.toList.map (·.1) = parts.map (·.1)) (h2 : Sl w O φ (parts.map (·.2)) (uparts.toList.map (·.2))) :
    Gives P w O φ (Instr.build t uparts) v := by
  unfold vbuild at h
  cases hz : zeroV P t with
  | none => simp [hz] at h
  | some z =>
    simp only [hz, Option.bind_some] at h
    obtain ⟨zv, hz1, hz2⟩ := zeroV_some (P := P) (w := w) hz
    have hzs : Sl w O φ (z.map lift1) z := Sl.lift1 z
    have hza : zv.cells = z.toArray := by rw [← hz2]
    split at h
    · rename_i fs hT
      obtain ⟨F, hu, rfl⟩ := tk_struct hT
      split at h
      · rename_i hall
        cases hf : vfill (fun i => ((F.toList.map fun f => (f.offset, csz P f.type, aggB P f.type))[i]?).bind fun f => if f.2.1 = 0 then none else some (f.1, f.2.1)) (z.map lift1) parts with
        | none => rw [hf] at h; cases h
        | some r =>
          simp only [hf, Option.map_some, Option.some.injEq] at h
          subst h
          have hall' : (F.toList.all fun f => decide (csz P f.type ≠ 0)) = true := by
            rw [List.all_map] at hall
            exact hall
          obtain ⟨c, hc, hs⟩ := vfill_sound (pl := fun i => (F.map fun f => (f.offset, P.cellsOf f.type))[i]?) (fun i p hp => by
            simp only [List.getElem?_map] at hp
            cases hF : F.toList[i]? with
            | none => simp [hF] at hp
            | some fd =>
              simp [hF] at hp
              obtain ⟨hp1, hp2⟩ := hp
              have hF' : F[i]? = some fd := by simpa using hF
              simp [hF']
              rw [← (csz_some hp1).1]; exact hp2) parts uparts.toList _ z _ hzs h1 h2 hf
          refine .mk0 (u := .agg c) ?_ (by simpa using S.agg hs)
          have hm := run_places (P := P) (w := w) F.toList hall'
          simp only [Instr.build, Sem.run_bind, hz1, Result.andThen_ok, run_underlying hu, Array.mapM_eq_mapM_toList, Sem.run_map, hm, hza]
          have hmap : (List.map (fun f => (f.offset, P.cellsOf f.type)) F.toList).toArray = F.map fun f => (f.offset, P.cellsOf f.type) := by
            apply Array.ext'; simp
          rw [hmap, hc]
          rfl
      · cases h
    · rename_i n e hT
      split at h
      · cases h
      · rename_i hn
        cases hf : vfill (fun i => some (i * P.cellsOf e, P.cellsOf e)) (z.map lift1) parts with
        | none => rw [hf] at h; cases h
        | some r =>
          simp only [hf, Option.map_some, Option.some.injEq] at h
          subst h
          obtain ⟨c, hc, hs⟩ := vfill_sound (pl := fun i => some (i * P.cellsOf e, P.cellsOf e)) (fun i p hp => hp) parts uparts.toList _ z _ hzs h1 h2 hf
          refine .mk0 (u := .agg c) ?_ (by simpa using S.agg hs)
          simp only [Instr.build, Sem.run_bind, hz1, Result.andThen_ok, run_underlying (tk_arr hT), run_sizeOf' hn, hza, hc]
          rfl
    · cases h

theorem Gives.next {O : Nat → Prop} {x : Sem Value} {v : V} (h : Gives P w O φ x v) : ∃ u n, (do pure (Next.value (← x)) : Sem Next).run P w = .ok (.value u) (w.drewN n) ∧ S w O φ v u := by
  obtain ⟨u, n, h1, h2⟩ := h
  exact ⟨u, n, by simp [h1], h2⟩

theorem cell_at {b off : Nat} {c : Array Value} {e : TypeId} {fr : Nat × Nat} {u : Value} (hb : w.heap[b]? = some (.cells c e fr)) (hc : c[off]? = some u) : w.cell? ⟨b, off, none⟩ = some u := by
  simp [World.cell?, hb, hc]

theorem numsOf_spec : ∀ {es : List (List V)} {ns : List Int}, numsOf es = some ns → es.flatten = ns.map (.i .u8) ∧ ns.length = es.length ∧ ∀ e ∈ es, e.length = 1
  | [], ns, h => by cases h; simp
  | e :: es, ns, h => by
    simp only [numsOf, Option.bind_eq_some_iff, Option.map_eq_some_iff] at h
    obtain ⟨n, h1, ns', h2, rfl⟩ := h
    obtain ⟨g1, g2, g3⟩ := numsOf_spec h2
    unfold numOf at h1
    split at h1
    · cases h1
      refine ⟨by simp [g1], by simp [g2], fun x hx => ?_⟩
      rcases List.mem_cons.1 hx with rfl | hx
      · rfl
      · exact g3 x hx
    · cases h1

theorem numsOf_single : ∀ {cs : List V} {ns : List Int}, numsOf (cs.map fun v => [v]) = some ns → cs = ns.map (.i .u8)
  | [], ns, h => by cases h; rfl
  | c :: cs, ns, h => by
    simp only [List.map_cons, numsOf, Option.bind_eq_some_iff, Option.map_eq_some_iff] at h
    obtain ⟨n, h1, ns', h2, rfl⟩ := h
    unfold numOf at h1
    split at h1
    · rename_i heq
      cases h1
      simp only [List.cons.injEq, and_true] at heq
      rw [heq, numsOf_single h2, List.map_cons]
    · cases h1

theorem vconvM_sound {s d : TypeId} {a v : V} {u : Value} (h : vconvM P m (tk P s) (tk P d) a = some v) (h1 : S w (Live φ m) φ a u) (hm : Mem N w φ m) : Gives P w (Live φ m) φ (convert s d u) v := by
  unfold vconvM at h
  split at h
  · rename_i e hT
    split at h
    · rename_i hc
      obtain ⟨hc1, hc2⟩ := hc
      simp only [Option.map_eq_some_iff] at h
      obtain ⟨ns, hb, rfl⟩ := h
      have hs := tk_slice hT
      have he : P.underlying e = some (.int .u8) := by
        unfold tk at hc1; split at hc1 <;> first | (cases hc1; assumption) | (cases hc1; done)
      have hd := tk_str hc2
      have key : ∀ (b off len cap : Nat), ns.length = len → (∀ (i : Nat) (n : Int), ns[i]? = some n → w.cell? ⟨b, off + i, none⟩ = some (.int .u8 n)) → Gives P w (Live φ m) φ (convert s d (.slice (some ⟨b, off, none⟩) len cap)) (.str (strOfNums ns)) := fun b off len cap hl hcell => by
        refine .mk0 (run_convert_bytes_arg w s e hs he b off len cap ns hl (fun i hi => ?_) d hd) .str
        have hlt : i < ns.length := by omega
        rw [hcell i ns[i] (List.getElem?_eq_getElem hlt)]
        simp [List.getD, List.getElem?_eq_getElem hlt]
      have empty : ∀ (a : Option Addr) (cap : Nat), ns = [] → Gives P w (Live φ m) φ (convert s d (.slice a 0 cap)) (.str (strOfNums ns)) := fun a cap hn => by
        subst hn
        cases a with
        | none =>
          refine .mk0 (run_convert_bytes_nil w s e hs he 0 cap d hd) ?_
          exact .str
        | some a =>
          refine .mk0 (u := .string (strOfNums [])) ?_ .str
          rw [run_convert_bytes_string w s d e _ 0 cap hs he hd, run_bytesToString w a 0 cap [] (by simpa using run_loadCells_list (P := P) w a [] (fun k v hk => by simp at hk)), foldl_push_bytes]
          rfl
      have cellI : ∀ {n : Int} {z : Value}, S w (Live φ m) φ (.i .u8 n) z → z = .int .u8 n := fun h => by cases h; rfl
      have cellN : ∀ {O : Nat → Prop} {φ : Pl} {n : Int} {z : Value}, S w O φ (.i .u8 n) z → z = .int .u8 n := fun h => by cases h; rfl
      unfold vbytes at hb
      split at hb
      · cases hb; cases h1
        exact empty _ _ rfl
      · obtain ⟨g1, g2, g3⟩ := numsOf_spec hb
        cases h1 with
        | sl hn hl hcap hss =>
          refine key _ _ _ _ (by omega) fun i n hi => ?_
          rw [g1] at hss
          obtain ⟨z, z1, _, z3⟩ := hss.get (i := i) (v := .i .u8 n) (by simp [hi])
          rw [z1, cellN z3]
        | sl0 => exact empty _ _ (by simpa using g2)
        | slnil => exact empty _ _ (by simpa using g2)
      · split at hb
        · rename_i b e0 len _ n es hbl
          split at hb
          · rename_i hle
            obtain ⟨g1, g2, g3⟩ := numsOf_spec hb
            have hlen : ns.length = len := by rw [g2]; simp; omega
            cases h1 with
            | ref hφ' hc hr =>
              obtain ⟨hn, pb, po, c, t, hφ, hp, hfit, hcell⟩ := hm.at_ b n es _ hbl hφ'
              rw [hφ] at hφ'
              simp at hφ'
              obtain ⟨rfl, rfl, rfl⟩ := hφ'
              refine key _ _ _ _ hlen fun i q hi => ?_
              have hflat : ((es.drop e0).take len).flatten[i]? = some (.i .u8 q) := by rw [g1]; simp [hi]
              rw [flatten_slice es n e0 len hn, List.getElem?_take] at hflat
              split at hflat
              · rw [List.getElem?_drop] at hflat
                obtain ⟨z, z1, _, z3⟩ := hcell _ _ hflat
                rw [cellI z3] at z1
                have := cell_at (w := w) hp z1
                rw [Nat.add_assoc]; exact this
              · cases hflat
            | ref0 => exact empty _ _ (List.eq_nil_of_length_eq_zero hlen)
            | refnil => exact empty _ _ (List.eq_nil_of_length_eq_zero hlen)
          · cases hb
        · cases hb
      · split at hb
        · rename_i b e0 j q len _ n es hbl
          simp only [Option.bind_eq_some_iff] at hb
          obtain ⟨cs, hcs, hb⟩ := hb
          split at hb
          · rename_i hle
            obtain ⟨rfl, hle⟩ := hle
            have g1 := numsOf_single hb
            have hlen : ns.length = len := by
              have := congrArg List.length g1
              simp at this; omega
            cases h1 with
            | refc hφ' hc =>
              obtain ⟨hn, pb, po, c, t, hφ, hp, hfit, hcell⟩ := hm.at_ b n es _ hbl hφ'
              rw [hφ] at hφ'
              simp at hφ'
              obtain ⟨rfl, rfl, rfl⟩ := hφ'
              refine key _ _ _ _ hlen fun i x hi => ?_
              have hx : ((cs.drop j).take len)[i]? = some (.i .u8 x) := by rw [g1]; simp [hi]
              rw [List.getElem?_take] at hx
              split at hx
              · rw [List.getElem?_drop] at hx
                obtain ⟨z, z1, _, z3⟩ := hcell _ _ (flatten_get hn hcs hx)
                rw [cellI z3] at z1
                have := cell_at (w := w) hp z1
                rw [show po + e0 * n + j + i = po + (e0 * n + (j + i)) by omega]; exact this
              · cases hx
            | refc0 => exact empty _ _ (List.eq_nil_of_length_eq_zero hlen)
          · cases hb
        · cases hb
      · cases hb
    · cases h
  · exact vconv_sound h h1

theorem vq_sound {ρ : Operand → V} {ρu : Operand → Value} {o : Oper} {v : V} (h : vq P m ρ o.op = some v) (hρ : ∀ x, S w (Live φ m) φ (ρ x) (ρu x)) (hm : Mem N w φ m) :
    ∃ u n, (execOp ρu o).run P w = .ok (.value u) (w.drewN n) ∧ S w (Live φ m) φ v u := by
  obtain ⟨dst, op, ty, pos, after, guard⟩ := o
  have mk : ∀ {u : Value} {v : V} {s : Sem Next}, s.run P w = .ok (.value u) w → S w (Live φ m) φ v u → ∃ u n, s.run P w = .ok (.value u) (w.drewN n) ∧ S w (Live φ m) φ v u := fun {u v s} h1 h2 => ⟨u, 0, by rw [h1]; rfl, h2⟩
  unfold execOp
  unfold vq at h
  simp only at h ⊢
  split at h
  · obtain rfl := Option.some.inj h; exact mk rfl (hρ _)
  · obtain rfl := Option.some.inj h; exact mk rfl (hρ _)
  · rename_i c a b
    split at h
    · rename_i t ht
      have hc := hρ c
      rw [ht] at hc
      generalize hu : ρu c = uc at hc
      cases hc
      cases t
      · obtain rfl := Option.some.inj h
        exact mk (u := ρu b) (by simp [hu, asBool]) (hρ b)
      · obtain rfl := Option.some.inj h
        exact mk (u := ρu a) (by simp [hu, asBool]) (hρ a)
    · cases h
  · exact (vload_sound h (hρ _) hm).next
  · rename_i x
    have hx := hρ x
    dsimp only
    split at h
    · rename_i b e j hr
      rw [hr] at hx
      obtain rfl := Option.some.inj h
      generalize ρu x = u at hx ⊢
      cases hx with
      | ptr hφ => exact mk rfl (.ptr hφ)
    · rename_i cs j hr
      rw [hr] at hx
      obtain rfl := Option.some.inj h
      generalize ρu x = u at hx ⊢
      cases hx with
      | cptr hs => exact mk rfl (.cptr hs)
    · rename_i f a c hr
      rw [hr] at hx
      obtain rfl := Option.some.inj h
      generalize ρu x = u at hx ⊢
      cases hx with
      | s hs =>
        cases f <;> first | (cases hs; done) | skip
        exact mk rfl (.s hs)
    · cases h
  · exact (vbinP_sound h (hρ _) (hρ _)).next
  · exact (vun_sound h (hρ _)).next
  · exact (vconvM_sound h (hρ _) hm).next
  · rename_i t parts
    refine (vbuild_sound (uparts := parts.map fun (i, x) => (i, ρu x)) h (by simp) ?_).next
    simp only [List.map_map, Array.toList_map]
    have : ∀ l : List (Nat × Operand), Sl w (Live φ m) φ (l.map ((fun x => x.2) ∘ fun p => (p.1, ρ p.2))) (l.map ((fun x => x.2) ∘ fun x => (x.1, ρu x.2))) := fun l => by
      induction l with
      | nil => exact .nil
      | cons p l ih => exact .cons (hρ _) ih
    exact this _
  · rename_i t x lo hi
    exact (vslice_sound (ulo := lo.map ρu) (uhi := hi.map ρu) h (hρ _) hm (by cases lo <;> simp [OS, hρ]) (by cases hi <;> simp [OS, hρ])).next
  · exact (vfieldAddr_sound h (hρ _)).next
  · exact (vfield_sound h (hρ _)).next
  · rename_i t x i
    cases hk : natOf (ρ i) with
    | none => simp [hk] at h
    | some k =>
      simp only [hk, Option.bind_some] at h
      exact (vidx_sound h hk (hρ _) (hρ _) hm).next
  · rename_i t x i
    cases hk : natOf (ρ i) with
    | none => simp [hk] at h
    | some k =>
      simp only [hk, Option.bind_some] at h
      exact (vindex_sound h hk (hρ _) (hρ _)).next
  · rename_i x i
    have hx := hρ x
    split at h
    · rename_i vs hr
      rw [hr] at hx
      dsimp only
      generalize ρu x = u at hx ⊢
      cases hx with
      | tup hs =>
        rename_i us
        obtain ⟨z, h1, h2⟩ := hs.get h
        refine (Gives.mk0 (u := z) ?_ h2).next
        simp [Instr.extract, h1]
    · cases h
  · rename_i args argTypes
    split at h
    · rename_i x t ha ht
      obtain ⟨u, n, h1, h2⟩ := vlen_sound (ty := ty) h (hρ x)
      have ha' : args = #[x] := Array.ext' (by simpa using ha)
      have ht' : argTypes = #[t] := Array.ext' (by simpa using ht)
      subst ha' ht'
      exact ⟨u, n, by simp [resolve, invoke, builtin, h1], h2⟩
    · cases h
  · rename_i args argTypes
    split at h
    · rename_i x y ha
      have ha' : args = #[x, y] := Array.ext' (by simpa using ha)
      subst ha'
      have hx := hρ x
      have hy := hρ y
      split at h
      · rename_i k a k' b hrx hry
        rw [hrx] at hx
        rw [hry] at hy
        obtain rfl := Option.some.inj h
        generalize hux : ρu x = ux at hx
        generalize huy : ρu y = uy at hy
        cases hx; cases hy
        exact mk (u := .int k (if b < a then b else a)) (by simp [resolve, invoke, builtin, Builtin.min_, Builtin.min2, hux, huy]) .i
      · cases h
    · cases h
  · rename_i args argTypes
    split at h
    · rename_i x y ha
      have ha' : args = #[x, y] := Array.ext' (by simpa using ha)
      subst ha'
      have hx := hρ x
      have hy := hρ y
      split at h
      · rename_i k a k' b hrx hry
        rw [hrx] at hx
        rw [hry] at hy
        obtain rfl := Option.some.inj h
        generalize hux : ρu x = ux at hx
        generalize huy : ρu y = uy at hy
        cases hx; cases hy
        exact mk (u := .int k (if a < b then b else a)) (by simp [resolve, invoke, builtin, Builtin.max_, Builtin.max2, hux, huy]) .i
      · cases h
    · cases h
  · cases h
end
end Go.VL
