/- Functions of Go's library that take texts apart, by their contracts. -/
import Derived.Test.YtbohajclnmmkhaaGreatDoorVxLib
import Derived.Test.YtbohajclnmmkhaaGreatDoorVxOrd
import Derived.Shelf.Strconv.ErrVarParseInt
import Derived.Shelf.Strings.Split
import Derived.Shelf.Small.Strs
namespace Go.VL
open Go.RowKit Go.Shelf Go.Proofs
set_option linter.unusedSimpArgs false
set_option linter.unusedVariables false
variable {P : Program} {ρ : Ren}

/-! ### An error, or none -/
def errV (e : Bool) : V := if e = true then .err else .s .nilIface
section
variable {e : Bool} {b k : Nat} {m : VM} {a : V}
@[simp high] theorem errV_plain : plainV (errV e) = true := by cases e <;> rfl
@[simp high] theorem errV_snap : snapV (errV e) = true := by cases e <;> rfl
@[simp high] theorem errV_un1 : un1 (errV e) = errV e := by cases e <;> rfl
@[simp high] theorem errV_unT : unT (errV e) = errV e := by cases e <;> rfl
@[simp high] theorem errV_pown : pownV (errV e) = true := by cases e <;> rfl
@[simp high] theorem errV_noB : noBV b (errV e) = true := by cases e <;> rfl
@[simp high] theorem errV_bnd : bndV k (errV e) = true := by cases e <;> rfl
@[simp high] theorem errV_bndT : bndT k (errV e) = true := by cases e <;> rfl
@[simp] theorem errV_le1 : le1 a (errV e) = (a = errV e) := by
  cases e <;> simp only [errV, if_true, Bool.false_eq_true, if_false] <;> unfold le1 <;> split <;> simp_all
@[simp ↓ high] theorem errV_vex1a : vex1a k (errV e) = (errV e, []) := by cases e <;> rfl
@[simp ↓ high] theorem errV_vex1 : vex1 k (errV e) = (errV e, []) := by cases e <;> rfl
@[simp ↓ high] theorem errV_frz : frz (errV e) = errV e := by cases e <;> rfl
@[simp] theorem errV_neq {t : TypeId} {x : Operand} {c : Value} (h : ifaceB P t = true) : vbinP P t .neq x (.const c) (errV e) (.s .nilIface) = some (.b e) := by
  cases e
  · show vnil P t .neq true = _
    rw [vnil_neq h]; rfl
  · show vnil P t .neq false = _
    rw [vnil_neq h]; rfl
@[simp] theorem errV_eql {t : TypeId} {x : Operand} {c : Value} (h : ifaceB P t = true) : vbinP P t .eql x (.const c) (errV e) (.s .nilIface) = some (.b (!e)) := by
  cases e
  · show vnil P t .eql true = _
    rw [vnil_eql h]; rfl
  · show vnil P t .eql false = _
    rw [vnil_eql h]; rfl
end

/-- The first part of an own slice, handed back. -/
@[simp] theorem vfin1_pre {α : Type} {c : α → List V} [Pln c] {m : VM} {b n k : Nat} {xs : List α} (h : m[b]? = some (some (n, rows c xs))) (hk : k ≤ xs.length) : vfin1 m (.ref b 0 k) = some (.own n (rows c (xs.take k)), [b]) := by
  unfold vfin1
  simp only [h]
  split
  · rename_i hc
    have : xs.length = k := by simpa using hc.2.1
    subst this
    rw [List.take_length]
  · rw [if_pos ⟨by simpa using hk, by simp⟩]
    simp

@[simp] theorem if_take' {α : Type} {c : α → List V} {xs : List α} {k n : Nat} {l : List Nat} : (if xs.length = k then some (V.own n (rows c xs), l) else some (V.own n (rows c (xs.take k)), l)) = some (V.own n (rows c (xs.take k)), l) := by
  split
  · rename_i h; subst h; rw [List.take_length]
  · rfl

/-! ### strings.IndexByte -/
def indexByteB (s : ByteArray) (c : Int) : Int := Lib.indexByte s.data.toList c.toNat.toUInt8
def indexByteO (s : ByteArray) (c : Int) : Option Int := some (indexByteB s c)
theorem indexByte_calls (L : Lays.n137 P ρ) {s : ByteArray} {c r : Int} (h : indexByteO s c = some r) : VCalls P (ρ.f 137) [.str s, .i .u8 c] (fun x => x = .i .i64 r) := by
  cases h
  intro w us hgl hs
  obtain ⟨u, u', rfl, s1, s2⟩ := hs.two
  cases s1
  cases s2
  refine (Any.strings_IndexByte L s c w).mono fun e w' ⟨he, hw⟩ => ?_
  subst hw
  exact ⟨_, _, [], he, rfl, .pl rfl .i, List.nodup_nil, by simp, Below.refl _ _⟩

/-! ### strings.Split -/
def splitOf (s sep : ByteArray) : List ByteArray := Lib.splitB sep 0 (Lib.countB s sep) s
def splitO (s sep : ByteArray) : Option (List ByteArray) := if s.size < 4294967281 ∧ 1 ≤ sep.size then some (splitOf s sep) else none
theorem Rs.strs {w : World} {c : Array Value} : ∀ {xs : List ByteArray} {off : Nat}, (∀ (j : Nat) x, xs[j]? = some x → c[off + j]? = some (.string x)) → Rs w c off (rows (fun x => [V.str x]) xs).flatten []
  | [], _, _ => .nil
  | x :: xs, off, h => by
    have h0 := h 0 x rfl
    have : Rs w c (off + 1) (rows (fun x => [V.str x]) xs).flatten [] := Rs.strs fun j y hy => by
      have := h (j + 1) y (by simpa using hy)
      rw [← this]
      congr 1
      omega
    have hv : RV w (.str x) (.string x) [] := .pl rfl .str
    exact Rs.cons (by simpa using h0) rfl hv this
theorem split_calls (L : Lays.n146 P ρ) (hi9 : (P.info? (ρ.t 9)).map (fun i => (i.zero, i.size, i.bytes)) = some (some (.string ByteArray.empty), 1, 16)) (hg : P.globalNamed "internal/bytealg.MaxLen" = some (ρ.g 1)) {s sep : ByteArray} {r : List ByteArray} (h : splitO s sep = some r) :
    VCalls P (ρ.f 146) [.str s, .str sep] (fun x => x = .own 1 (rows (fun x => [.str x]) r)) := by
  unfold splitO at h
  split at h
  · rename_i hc
    cases h
    intro w us hgl hs
    obtain ⟨u, u', rfl, s1, s2⟩ := hs.two
    cases s1
    cases s2
    obtain ⟨m, hm⟩ := hgl.2.2.2 _ hg
    refine (Any.strings_Split L hi9 s sep m w hc.1 hm hc.2).mono fun e w' ⟨he, hw⟩ => ?_
    subst hw
    have hlen : (splitOf s sep).length = Lib.countB s sep + 1 := Lib.splitB_all sep hc.2 0 _ s rfl
    refine ⟨_, _, [w.heap.size], he, rfl, ?_, by simp, by simp, (Below.refl _ _).alloc (Nat.le_refl _) _⟩
    refine RV.own (n := 1) (es := rows (fun x => [V.str x]) (splitOf s sep)) (c := ((splitOf s sep).map Value.string).toArray) (e := ρ.t 9) (F := []) (fun x hx => ?_) (by simpa using hlen) (Nat.le_refl _) ?_ (by simp [hlen]) (Rs.strs fun j x hx => ?_)
    · obtain ⟨y, _, rfl⟩ := List.mem_map.1 hx
      rfl
    · show (w.heap.push _)[w.heap.size]? = _
      simp [splitOf]
    · simpa using hx
  · cases h

/-! ### strconv.ParseInt(s, 10, 64) -/
def parseOf (s : ByteArray) : Int × Bool := match Lib.parseIntB 64 s.data.toList with
  | .ok v => (v, false)
  | .range => (Lib.intSat 64 s.data.toList, true)
  | _ => (0, true)
def parseIntO (s : ByteArray) (base bits : Int) : Option (Int × Bool) := if base = 10 ∧ bits = 64 ∧ s.size ≤ 281474976710656 then some (parseOf s) else none
theorem parseInt_calls (L : LaysC.n174 P ρ) {g1 g2 : Nat} (h1 : P.globalNamed "strconv.ErrSyntax" = some g1) (h2 : P.globalNamed "strconv.ErrRange" = some g2) {s : ByteArray} {base bits : Int} {r : Int × Bool} (h : parseIntO s base bits = some r) :
    VCalls P (ρ.f 174) [.str s, .i .i64 base, .i .i64 bits] (fun x => x = .tup [.i .i64 r.1, errV r.2]) := by
  unfold parseIntO at h
  split at h
  · rename_i hc
    obtain ⟨rfl, rfl, hs⟩ := hc
    cases h
    intro w us hgl hsl
    cases hsl with
    | cons s1 hsl =>
    obtain ⟨u, u', rfl, s2, s3⟩ := hsl.two
    cases s1
    cases s2
    cases s3
    have tup : ∀ {w' : World} {n : Int} {b : Bool} {v : Value}, S w' (fun _ => False) noPl (errV b) v → RV w' (.tup [.i .i64 n, errV b]) (.tuple #[.int .i64 n, v]) [] := fun hv =>
      .tup (us := [_, _]) (.cons (F := []) (.pl rfl .i) (.cons (F := []) (.pl (by simp) hv) .nil))
    obtain ⟨tp1, p1, v1⟩ := hgl.2.1 _ h1
    obtain ⟨tp2, p2, v2⟩ := hgl.2.2.1 _ h2
    have ok : ∀ v, Lib.parseIntB 64 s.data.toList = .ok v → Calls P (ρ.f 174) #[.string s, .int .i64 10, .int .i64 64] w fun e w' => ∃ r u F, e = .returned u ∧ r = V.tup [.i .i64 (parseOf s).1, errV (parseOf s).2] ∧ RV w' r u F ∧ F.Nodup ∧ (∀ k ∈ F, w.heap.size ≤ k ∧ k < w'.heap.size) ∧ Below w.heap.size w w' := fun v hp => by
      refine (Any.strconv_ParseInt_10_at64_ok L s (by omega) v hp w).mono fun e w' ⟨he, hw⟩ => ?_
      have hb : Below w.heap.size w w' := by
        rcases hw with rfl | ⟨t, rfl⟩
        · exact Below.refl _ _
        · exact Lib.bytesWorld_below _ _ _
      refine ⟨_, _, [], he, rfl, ?_, List.nodup_nil, by simp, hb⟩
      unfold parseOf
      rw [hp]
      exact tup (b := false) (.s rfl)
    cases hp : Lib.parseIntB 64 s.data.toList
    · exact ok _ hp
    · refine (Any.strconv_ParseInt_10_at64_syntax_var L s hs hp tp1 p1 w v1).mono fun e w' ⟨N, he, _, _, hb⟩ => ?_
      refine ⟨_, _, [], he, rfl, ?_, List.nodup_nil, by simp, hb⟩
      unfold parseOf
      rw [hp]
      exact tup (b := true) .err
    · refine (Any.strconv_ParseInt_10_at64_range_var L s hs hp tp2 p2 w v2).mono fun e w' ⟨N, he, _, _, hb⟩ => ?_
      refine ⟨_, _, [], he, rfl, ?_, List.nodup_nil, by simp, hb⟩
      unfold parseOf
      rw [hp]
      exact tup (b := true) .err
  · cases h
end Go.VL
