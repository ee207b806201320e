/- Contracts of the functions that the law FnExactLastMark reaches. -/
import Derived.Test.YtfklolheleffpaaVxLoop
import Derived.Test.YtfklolheleffpaaProg
import Derived.KernelRfl
namespace Go.Proofs.Ytfklolheleffpaa
open Go.RowKit Go.VL
set_option linter.unusedSimpArgs false
set_option linter.unusedVariables false
@[simp] theorem tk_2 : tk Try.prog 2 = .int .i64 := by kernel_rfl
@[simp] theorem co_2 : Try.prog.cellsOf 2 = 1 := by kernel_rfl
@[simp] theorem cz_2 : csz Try.prog 2 = 1 := by kernel_rfl
@[simp] theorem ag_2 : aggB Try.prog 2 = false := by kernel_rfl
@[simp] theorem ze_2 : zeroV Try.prog 2 = some [.int .i64 0] := by kernel_rfl
@[simp] theorem by_2 : Try.prog.bytesOf 2 = 8 := by kernel_rfl
@[simp] theorem tk_3 : tk Try.prog 3 = .int .i64 := by kernel_rfl
@[simp] theorem co_3 : Try.prog.cellsOf 3 = 1 := by kernel_rfl
@[simp] theorem cz_3 : csz Try.prog 3 = 1 := by kernel_rfl
@[simp] theorem ag_3 : aggB Try.prog 3 = false := by kernel_rfl
@[simp] theorem ze_3 : zeroV Try.prog 3 = some [.int .i64 0] := by kernel_rfl
@[simp] theorem by_3 : Try.prog.bytesOf 3 = 8 := by kernel_rfl
@[simp] theorem tk_4 : tk Try.prog 4 = .bool := by kernel_rfl
@[simp] theorem co_4 : Try.prog.cellsOf 4 = 1 := by kernel_rfl
@[simp] theorem cz_4 : csz Try.prog 4 = 1 := by kernel_rfl
@[simp] theorem ag_4 : aggB Try.prog 4 = false := by kernel_rfl
@[simp] theorem ze_4 : zeroV Try.prog 4 = some [.bool false] := by kernel_rfl
@[simp] theorem by_4 : Try.prog.bytesOf 4 = 1 := by kernel_rfl
@[simp] theorem tk_29 : tk Try.prog 29 = .struct [(0, 1, false), (1, 1, false), (2, 1, false)] := by kernel_rfl
@[simp] theorem co_29 : Try.prog.cellsOf 29 = 3 := by kernel_rfl
@[simp] theorem cz_29 : csz Try.prog 29 = 3 := by kernel_rfl
@[simp] theorem ag_29 : aggB Try.prog 29 = true := by kernel_rfl
@[simp] theorem ze_29 : zeroV Try.prog 29 = some [.int .i64 0, .int .i64 0, .int .i64 0] := by kernel_rfl
@[simp] theorem by_29 : Try.prog.bytesOf 29 = 24 := by kernel_rfl
@[simp] theorem tk_31 : tk Try.prog 31 = .struct [(0, 1, false), (1, 1, false), (2, 1, false)] := by kernel_rfl
@[simp] theorem co_31 : Try.prog.cellsOf 31 = 3 := by kernel_rfl
@[simp] theorem cz_31 : csz Try.prog 31 = 3 := by kernel_rfl
@[simp] theorem ag_31 : aggB Try.prog 31 = true := by kernel_rfl
@[simp] theorem ze_31 : zeroV Try.prog 31 = some [.int .i64 0, .int .i64 0, .int .i64 0] := by kernel_rfl
@[simp] theorem by_31 : Try.prog.bytesOf 31 = 24 := by kernel_rfl
@[simp] theorem tk_36 : tk Try.prog 36 = .slice 53 := by kernel_rfl
@[simp] theorem co_36 : Try.prog.cellsOf 36 = 1 := by kernel_rfl
@[simp] theorem cz_36 : csz Try.prog 36 = 1 := by kernel_rfl
@[simp] theorem ag_36 : aggB Try.prog 36 = false := by kernel_rfl
@[simp] theorem ze_36 : zeroV Try.prog 36 = some [.slice none 0 0] := by kernel_rfl
@[simp] theorem by_36 : Try.prog.bytesOf 36 = 24 := by kernel_rfl
@[simp] theorem tk_40 : tk Try.prog 40 = .slice 50 := by kernel_rfl
@[simp] theorem co_40 : Try.prog.cellsOf 40 = 1 := by kernel_rfl
@[simp] theorem cz_40 : csz Try.prog 40 = 1 := by kernel_rfl
@[simp] theorem ag_40 : aggB Try.prog 40 = false := by kernel_rfl
@[simp] theorem ze_40 : zeroV Try.prog 40 = some [.slice none 0 0] := by kernel_rfl
@[simp] theorem by_40 : Try.prog.bytesOf 40 = 24 := by kernel_rfl
@[simp] theorem tk_48 : tk Try.prog 48 = .int .u32 := by kernel_rfl
@[simp] theorem co_48 : Try.prog.cellsOf 48 = 1 := by kernel_rfl
@[simp] theorem cz_48 : csz Try.prog 48 = 1 := by kernel_rfl
@[simp] theorem ag_48 : aggB Try.prog 48 = false := by kernel_rfl
@[simp] theorem ze_48 : zeroV Try.prog 48 = some [.int .u32 0] := by kernel_rfl
@[simp] theorem by_48 : Try.prog.bytesOf 48 = 4 := by kernel_rfl
@[simp] theorem tk_50 : tk Try.prog 50 = .struct [(0, 1, false), (1, 1, false), (2, 3, true)] := by kernel_rfl
@[simp] theorem co_50 : Try.prog.cellsOf 50 = 5 := by kernel_rfl
@[simp] theorem cz_50 : csz Try.prog 50 = 5 := by kernel_rfl
@[simp] theorem ag_50 : aggB Try.prog 50 = true := by kernel_rfl
@[simp] theorem ze_50 : zeroV Try.prog 50 = some [.bool false, .int .u32 0, .int .i64 0, .int .i64 0, .int .i64 0] := by kernel_rfl
@[simp] theorem by_50 : Try.prog.bytesOf 50 = 32 := by kernel_rfl
@[simp] theorem tk_53 : tk Try.prog 53 = .struct [(0, 1, false), (1, 1, false), (2, 3, true)] := by kernel_rfl
@[simp] theorem co_53 : Try.prog.cellsOf 53 = 5 := by kernel_rfl
@[simp] theorem cz_53 : csz Try.prog 53 = 5 := by kernel_rfl
@[simp] theorem ag_53 : aggB Try.prog 53 = true := by kernel_rfl
@[simp] theorem ze_53 : zeroV Try.prog 53 = some [.bool false, .int .u32 0, .int .i64 0, .int .i64 0, .int .i64 0] := by kernel_rfl
@[simp] theorem by_53 : Try.prog.bytesOf 53 = 32 := by kernel_rfl
theorem mixed : Try.prog.follows .mixedOrders = true := by kernel_rfl

def isEntry (e : List V) : Prop := ∃ m c a b d, e = [.b m, .i .u32 c, .i .i64 a, .i .i64 b, .i .i64 d]
def Entries (es : List (List V)) : Prop := es.length ≤ 1048576 ∧ ∀ x ∈ es, isEntry x
def zEntry : List V := [.b false, .i .u32 0, .i .i64 0, .i .i64 0, .i .i64 0]
theorem Entries.plain {es : List (List V)} (h : Entries es) : plainE es = true := plainE_of fun x hx => by
  obtain ⟨m, c, a, b, d, rfl⟩ := h.2 x hx
  rfl
@[simp] def act3 : List V → Option V
  | [.agg [.i .i64 a, .i .i64 b, .i .i64 c]] => some (.agg [.i .i64 a, .i .i64 b, .i .i64 c])
  | _ => none
@[simp] def toEntryF : List V → Option V
  | [.agg [.b m, .i .u32 c, .i .i64 a, .i .i64 b, .i .i64 d]] => some (.agg [.b m, .i .u32 c, .i .i64 a, .i .i64 b, .i .i64 d])
  | _ => none
@[simp] def eqActF : List V → Option V
  | [.agg [.i .i64 a, .i .i64 b, .i .i64 c], .agg [.i .i64 a', .i .i64 b', .i .i64 c']] => some (.b (a == a' && b == b' && c == c'))
  | _ => none
@[simp] def eqEntryF : List V → Option V
  | [.agg [.b m, .i .u32 c, .i .i64 a, .i .i64 b, .i .i64 d], .agg [.b m', .i .u32 c', .i .i64 a', .i .i64 b', .i .i64 d']] => some (.b (m == m' && c == c' && (a == a' && b == b' && d == d')))
  | _ => none
open Classical in
@[simp] noncomputable def szF : List V → Option V
  | [.sl 5 es, .i .i64 n] => if es.length ≤ maxLen ∧ n = 1048576 then some (.i .i64 (if es.length ≤ 1048576 then 1048576 - es.length else -1)) else none
  | _ => none
open Classical in
@[simp] noncomputable def toEntrySF : List V → Option V
  | [.sl 5 es] => if Entries es then some (.own 5 es) else none
  | _ => none
open Classical in
@[simp] noncomputable def eqEntrySF : List V → Option V
  | [.sl 5 es, .sl 5 es'] => if Entries es ∧ es = es' then some (.b true) else none
  | _ => none
def lmFrom (es : List (List V)) : Nat → Int × Int
  | 0 => (0, 6)
  | k + 1 => match es[k]? with
    | some (.b true :: _) => (k, 0)
    | _ => lmFrom es k
def lastP (es : List (List V)) : Int × Int := if 150 < es.length then (0, 2) else lmFrom es es.length
open Classical in
@[simp] noncomputable def lastF : List V → Option V
  | [.sl 5 es] => if Entries es then some (.tup [.i .i64 (lastP es).1, .i .i64 (lastP es).2]) else none
  | _ => none
set_option maxRecDepth 100000 in
/- loop.example/g01229/laws.toAct -/
theorem ok11 : Tells Try.prog 11 act3 := by
  refine ⟨by kernel_rfl, fun args r h => ?_⟩
  unfold act3 at h
  split at h <;> cases h
  refine VCalls.of Try.func11 rfl rfl rfl ?_
  simp only [List.reduceReplicate, List.cons_append, List.nil_append, List.length_cons, List.length_nil, Nat.reduceAdd, Nat.reduceSub]
  repeat' first
    | refine VW.seq ?_
    | (refine VW.evalK (C := []) trivial (by kernel_rfl) ?_; simp)
    | (refine VW.evalDK (C := []) trivial mixed (by kernel_rfl) ?_; simp)
    | (refine VW.ret (VRet.fin ?_); simp)
    | refine VW.condT rfl ?_
    | refine VW.condF rfl ?_
    | (refine VW.condB rfl (fun h => ?_) (fun h => ?_))
    | (refine VW.skip ?_; simp only [vthen, vblock])
    | refine VW.block ?_
    | (refine VW.exit ?_; simp only [vthen, vblock, if_true])
  all_goals (first | (simp_all; done) | grind)
set_option maxRecDepth 100000 in
/- loop.example/g01229/laws.toEntry -/
theorem ok24 : Tells Try.prog 24 toEntryF := by
  refine ⟨by kernel_rfl, fun args r h => ?_⟩
  unfold toEntryF at h
  split at h <;> cases h
  refine VCalls.of Try.func24 rfl rfl rfl ?_
  simp only [List.reduceReplicate, List.cons_append, List.nil_append, List.length_cons, List.length_nil, Nat.reduceAdd, Nat.reduceSub]
  repeat' first
    | refine VW.seq ?_
    | (refine VW.evalK (C := [(11, act3)]) ⟨ok11, trivial⟩ (by kernel_rfl) ?_; simp)
    | (refine VW.evalDK (C := [(11, act3)]) ⟨ok11, trivial⟩ mixed (by kernel_rfl) ?_; simp)
    | (refine VW.ret (VRet.fin ?_); simp)
    | refine VW.condT rfl ?_
    | refine VW.condF rfl ?_
    | (refine VW.condB rfl (fun h => ?_) (fun h => ?_))
    | (refine VW.skip ?_; simp only [vthen, vblock])
    | refine VW.block ?_
    | (refine VW.exit ?_; simp only [vthen, vblock, if_true])
  all_goals (first | (simp_all; done) | grind)
set_option maxRecDepth 100000 in
/- loop.example/g01229/laws.eqAct -/
theorem ok28 : Tells Try.prog 28 eqActF := by
  refine ⟨by kernel_rfl, fun args r h => ?_⟩
  unfold eqActF at h
  split at h <;> cases h
  refine VCalls.of Try.func28 rfl rfl rfl ?_
  simp only [List.reduceReplicate, List.cons_append, List.nil_append, List.length_cons, List.length_nil, Nat.reduceAdd, Nat.reduceSub]
  repeat' first
    | refine VW.seq ?_
    | (refine VW.evalK (C := []) trivial (by kernel_rfl) ?_; simp)
    | (refine VW.evalDK (C := []) trivial mixed (by kernel_rfl) ?_; simp)
    | (refine VW.ret (VRet.fin ?_); simp)
    | refine VW.condT rfl ?_
    | refine VW.condF rfl ?_
    | (refine VW.condB rfl (fun h => ?_) (fun h => ?_))
    | (refine VW.skip ?_; simp only [vthen, vblock])
    | refine VW.block ?_
    | (refine VW.exit ?_; simp only [vthen, vblock, if_true])
  all_goals (first | (simp_all; done) | grind)
set_option maxRecDepth 100000 in
/- loop.example/g01229/laws.eqEntry -/
theorem ok25 : Tells Try.prog 25 eqEntryF := by
  refine ⟨by kernel_rfl, fun args r h => ?_⟩
  unfold eqEntryF at h
  split at h <;> cases h
  refine VCalls.of Try.func25 rfl rfl rfl ?_
  simp only [List.reduceReplicate, List.cons_append, List.nil_append, List.length_cons, List.length_nil, Nat.reduceAdd, Nat.reduceSub]
  repeat' first
    | refine VW.seq ?_
    | (refine VW.evalK (C := [(28, eqActF)]) ⟨ok28, trivial⟩ (by kernel_rfl) ?_; simp)
    | (refine VW.evalDK (C := [(28, eqActF)]) ⟨ok28, trivial⟩ mixed (by kernel_rfl) ?_; simp)
    | (refine VW.ret (VRet.fin ?_); simp)
    | refine VW.condT rfl ?_
    | refine VW.condF rfl ?_
    | (refine VW.condB rfl (fun h => ?_) (fun h => ?_))
    | (refine VW.skip ?_; simp only [vthen, vblock])
    | refine VW.block ?_
    | (refine VW.exit ?_; simp only [vthen, vblock, if_true])
  all_goals (first | (simp_all; done) | grind)
set_option maxRecDepth 100000 in
/- loop.example/g01229/laws.szEntryS -/
theorem ok15 : Tells Try.prog 15 szF := by
  refine ⟨by kernel_rfl, fun args r h => ?_⟩
  unfold szF at h
  split at h
  rotate_left
  · cases h
  rename_i es n
  split at h
  rotate_left
  · cases h
  rename_i hE
  cases h
  obtain ⟨hle, rfl⟩ := hE
  have hm : maxLen = 9223372036854775807 := by decide
  have hw : IntKind.i64.wrap (1048576 - (es.length : Int)) = 1048576 - (es.length : Int) := wrap64 (by omega) (by omega)
  refine VCalls.of Try.func15 rfl rfl rfl ?_
  simp only [List.reduceReplicate, List.cons_append, List.nil_append, List.length_cons, List.length_nil, Nat.reduceAdd, Nat.reduceSub]
  repeat' first
    | refine VW.seq ?_
    | (refine VW.evalK (C := []) trivial (by kernel_rfl) ?_; simp [hw])
    | (refine VW.evalDK (C := []) trivial mixed (by kernel_rfl) ?_; simp [hw])
    | (refine VW.ret (VRet.fin ?_); simp [hw])
    | refine VW.condT rfl ?_
    | refine VW.condF rfl ?_
    | (refine VW.condB rfl (fun h => ?_) (fun h => ?_))
    | (refine VW.skip ?_; simp only [vthen, vblock])
    | refine VW.block ?_
    | (refine VW.exit ?_; simp only [vthen, vblock, if_true])
  all_goals (simp at h; try omega)
set_option maxRecDepth 100000 in
/- loop.example/g01229/laws.toEntryS -/
theorem ok17 : Tells Try.prog 17 toEntrySF := by
  refine ⟨by kernel_rfl, fun args r h => ?_⟩
  unfold toEntrySF at h
  split at h
  rotate_left
  · cases h
  rename_i es
  split at h
  rotate_left
  · cases h
  rename_i hE
  cases h
  have hp := hE.plain
  obtain ⟨hlen, hall⟩ := hE
  have hb1 : 32 * es.length ≤ 281474976710656 := by omega
  have hb2 : es.length ≤ 9223372036854775807 := by omega
  refine VCalls.of Try.func17 rfl rfl rfl ?_
  simp only [List.reduceReplicate, List.cons_append, List.nil_append, List.length_cons, List.length_nil, Nat.reduceAdd, Nat.reduceSub]
  repeat' first
    | refine VW.seq ?_
    | (refine VW.evalK (C := [(24, toEntryF)]) ⟨ok24, trivial⟩ (by kernel_rfl) ?_; simp [hb1, hb2])
    | (refine VW.evalDK (C := [(24, toEntryF)]) ⟨ok24, trivial⟩ mixed (by kernel_rfl) ?_; simp [hb1, hb2])
    | (refine VW.ret (VRet.fin ?_); simp [hb1, hb2])
    | refine VW.condT rfl ?_
    | refine VW.condF rfl ?_
    | (refine VW.condB rfl (fun h => ?_) (fun h => ?_))
    | (refine VW.skip ?_; simp only [vthen, vblock])
    | refine VW.block ?_
    | (refine VW.exit ?_; simp only [vthen, vblock, if_true])
  refine VW.loop (fun n s => ∃ i, i ≤ es.length ∧ n = es.length - i ∧ s = { t := [.sl 5 es, .any, .nil, .ref 0 0 es.length, .i .i64 ((i : Nat) : Int), .any, .any, .any, .any, .any, .any, .any, .any, .any, .any, .any, .any, .any, .any, .any, .any, .any, .any], m := [some (5, fill i es zEntry)] }) (n0 := es.length) (s0 := { t := [.sl 5 es, .any, .nil, .ref 0 0 es.length, .i .i64 ((0 : Nat) : Int), .any, .any, .any, .any, .any, .any, .any, .any, .any, .any, .any, .any, .any, .any, .any, .any, .any, .any], m := [some (5, fill 0 es zEntry)] }) (Ent.to 1 ?_ ?_ ?_ ?_ ?_) ⟨0, by omega, by omega, rfl⟩ ?_
  · simp [fgt]
  · simp [fill_zero, zEntry]
  · simp
  · simp [bndT, bndV]
  · simp [bndM]; simpa using fill_bnd (i := 0) (k := 1) (z := zEntry) hp rfl
  intro n s ⟨i, hi, hn, hs⟩
  subst hs
  rcases Nat.lt_or_ge i es.length with hlt | hge
  · obtain ⟨m, c, a, b, d, he⟩ := hall es[i] (List.getElem_mem hlt)
    have hk : es[i]? = some [.b m, .i .u32 c, .i .i64 a, .i .i64 b, .i .i64 d] := by rw [List.getElem?_eq_getElem hlt, he]
    have hz : (fill i es zEntry)[i]? = some [.b false, .i .u32 0, .i .i64 0, .i .i64 0, .i .i64 0] := fill_get hlt
    have hz' : ∀ h : i < (fill i es zEntry).length, (fill i es zEntry)[i] = [.b false, .i .u32 0, .i .i64 0, .i .i64 0, .i .i64 0] := fun h => by rw [List.getElem?_eq_getElem h] at hz; exact Option.some.inj hz
    have hst := fill_set (z := zEntry) hlt hk
    have hw : IntKind.i64.wrap ((i : Int) + 1) = ((i + 1 : Nat) : Int) := by rw [wrap64 (by omega) (by omega)]; rfl
    repeat' first
      | refine VW.seq ?_
      | (refine VW.evalK (C := [(24, toEntryF)]) ⟨ok24, trivial⟩ (by kernel_rfl) ?_; simp [hlt, hk, he, hz, hz', hst, hw])
      | (refine VW.evalDK (C := [(24, toEntryF)]) ⟨ok24, trivial⟩ mixed (by kernel_rfl) ?_; simp [hlt, hk, he, hz, hz', hst, hw])
      | (refine VW.ret (VRet.fin ?_); simp [hlt, hk, he, hz, hz', hst, hw])
      | refine VW.condT rfl ?_
      | refine VW.condF rfl ?_
      | (refine VW.condB rfl (fun h => ?_) (fun h => ?_))
      | (refine VW.skip ?_; simp only [vthen, vblock])
      | refine VW.block ?_
      | (refine VW.exit ?_; simp only [vthen, vblock, if_true])
    refine ⟨es.length - (i + 1), { t := [.sl 5 es, .any, .nil, .ref 0 0 es.length, .i .i64 (((i + 1) : Nat) : Int), .any, .any, .any, .any, .any, .any, .any, .any, .any, .any, .any, .any, .any, .any, .any, .any, .any, .any], m := [some (5, fill (i + 1) es zEntry)] }, Ent.to 1 ?_ ?_ ?_ ?_ ?_, by omega, i + 1, by omega, rfl, rfl⟩
    · simp [fgt]
    · simp
    · simp
    · simp [bndT, bndV]
    · simp [bndM]; simpa using fill_bnd (i := i + 1) (k := 1) (z := zEntry) hp rfl
  · obtain rfl : i = es.length := by omega
    have hp' : ∀ x ∈ es, ∀ v ∈ x, plainV v = true := plainE_iff.1 hp
    repeat' first
      | refine VW.seq ?_
      | (refine VW.evalK (C := [(24, toEntryF)]) ⟨ok24, trivial⟩ (by kernel_rfl) ?_; simp [fill_all, hp, hp'])
      | (refine VW.evalDK (C := [(24, toEntryF)]) ⟨ok24, trivial⟩ mixed (by kernel_rfl) ?_; simp [fill_all, hp, hp'])
      | (refine VW.ret (VRet.fin ?_); simp [fill_all, hp, hp'])
      | refine VW.condT rfl ?_
      | refine VW.condF rfl ?_
      | (refine VW.condB rfl (fun h => ?_) (fun h => ?_))
      | (refine VW.skip ?_; simp only [vthen, vblock])
      | refine VW.block ?_
      | (refine VW.exit ?_; simp only [vthen, vblock, if_true])
    all_goals trace_state
set_option maxRecDepth 100000 in
/- loop.example/g01229/laws.eqEntryS -/
theorem ok19 : Tells Try.prog 19 eqEntrySF := by
  refine ⟨by kernel_rfl, fun args r h => ?_⟩
  unfold eqEntrySF at h
  split at h
  rotate_left
  · cases h
  rename_i es es'
  split at h
  rotate_left
  · cases h
  rename_i hE
  cases h
  obtain ⟨hE, rfl⟩ := hE
  have hp := hE.plain
  obtain ⟨hlen, hall⟩ := hE
  refine VCalls.of Try.func19 rfl rfl rfl ?_
  simp only [List.reduceReplicate, List.cons_append, List.nil_append, List.length_cons, List.length_nil, Nat.reduceAdd, Nat.reduceSub]
  repeat' first
    | refine VW.seq ?_
    | (refine VW.evalK (C := [(25, eqEntryF)]) ⟨ok25, trivial⟩ (by kernel_rfl) ?_; simp)
    | (refine VW.evalDK (C := [(25, eqEntryF)]) ⟨ok25, trivial⟩ mixed (by kernel_rfl) ?_; simp)
    | (refine VW.ret (VRet.fin ?_); simp)
    | refine VW.condT rfl ?_
    | refine VW.condF rfl ?_
    | (refine VW.condB rfl (fun h => ?_) (fun h => ?_))
    | (refine VW.skip ?_; simp only [vthen, vblock])
    | refine VW.block ?_
    | (refine VW.exit ?_; simp only [vthen, vblock, if_true])
  refine VW.loop (fun n s => ∃ i, i ≤ es.length ∧ n = es.length - i ∧ s = { t := [.sl 5 es, .sl 5 es, .any, .any, .b false, .i .i64 ((i : Nat) : Int), .any, .any, .any, .any, .any, .any, .any, .any, .any, .any, .any, .any, .any, .any, .any, .any, .any, .any, .any, .any, .any], m := [] }) (n0 := es.length) (s0 := { t := [.sl 5 es, .sl 5 es, .any, .any, .b false, .i .i64 ((0 : Nat) : Int), .any, .any, .any, .any, .any, .any, .any, .any, .any, .any, .any, .any, .any, .any, .any, .any, .any, .any, .any, .any, .any], m := [] }) (Ent.to 0 ?_ ?_ ?_ ?_ ?_) ⟨0, by omega, by omega, rfl⟩ ?_
  · simp [fgt]
  · simp
  · simp
  · simp [bndT, bndV]
  · simp [bndM]
  intro n s ⟨i, hi, hn, hs⟩
  subst hs
  rcases Nat.lt_or_ge i es.length with hlt | hge
  · obtain ⟨m, c, a, b, d, he⟩ := hall es[i] (List.getElem_mem hlt)
    have hk : es[i]? = some [.b m, .i .u32 c, .i .i64 a, .i .i64 b, .i .i64 d] := by rw [List.getElem?_eq_getElem hlt, he]
    have hw : IntKind.i64.wrap ((i : Int) + 1) = ((i + 1 : Nat) : Int) := by rw [wrap64 (by omega) (by omega)]; rfl
    repeat' first
      | refine VW.seq ?_
      | (refine VW.evalK (C := [(25, eqEntryF)]) ⟨ok25, trivial⟩ (by kernel_rfl) ?_; simp [hlt, hk, he, hw])
      | (refine VW.evalDK (C := [(25, eqEntryF)]) ⟨ok25, trivial⟩ mixed (by kernel_rfl) ?_; simp [hlt, hk, he, hw])
      | (refine VW.ret (VRet.fin ?_); simp [hlt, hk, he, hw])
      | refine VW.condT rfl ?_
      | refine VW.condF rfl ?_
      | (refine VW.condB rfl (fun h => ?_) (fun h => ?_))
      | (refine VW.skip ?_; simp only [vthen, vblock])
      | refine VW.block ?_
      | (refine VW.exit ?_; simp only [vthen, vblock, if_true])
    refine ⟨es.length - (i + 1), { t := [.sl 5 es, .sl 5 es, .any, .any, .b false, .i .i64 (((i + 1) : Nat) : Int), .any, .any, .any, .any, .any, .any, .any, .any, .any, .any, .any, .any, .any, .any, .any, .any, .any, .any, .any, .any, .any], m := [] }, Ent.to 0 ?_ ?_ ?_ ?_ ?_, by omega, i + 1, by omega, rfl, rfl⟩
    · simp [fgt]
    · simp
    · simp
    · simp [bndT, bndV]
    · simp [bndM]
  · obtain rfl : i = es.length := by omega
    repeat' first
      | refine VW.seq ?_
      | (refine VW.evalK (C := [(25, eqEntryF)]) ⟨ok25, trivial⟩ (by kernel_rfl) ?_; simp)
      | (refine VW.evalDK (C := [(25, eqEntryF)]) ⟨ok25, trivial⟩ mixed (by kernel_rfl) ?_; simp)
      | (refine VW.ret (VRet.fin ?_); simp)
      | refine VW.condT rfl ?_
      | refine VW.condF rfl ?_
      | (refine VW.condB rfl (fun h => ?_) (fun h => ?_))
      | (refine VW.skip ?_; simp only [vthen, vblock])
      | refine VW.block ?_
      | (refine VW.exit ?_; simp only [vthen, vblock, if_true])
set_option maxRecDepth 100000 in
/- loop.example/g01229/spec.LastMark -/
theorem ok16 : Tells Try.prog 16 lastF := by
  refine ⟨by kernel_rfl, fun args r h => ?_⟩
  unfold lastF at h
  split at h
  rotate_left
  · cases h
  rename_i es
  split at h
  rotate_left
  · cases h
  rename_i hE
  cases h
  have hp := hE.plain
  obtain ⟨hlen, hall⟩ := hE
  have hw0 : IntKind.i64.wrap ((es.length : Int) - 1) = (es.length : Int) - 1 := wrap64 (by omega) (by omega)
  refine VCalls.of Try.func16 rfl rfl rfl ?_
  simp only [List.reduceReplicate, List.cons_append, List.nil_append, List.length_cons, List.length_nil, Nat.reduceAdd, Nat.reduceSub]
  rcases Nat.lt_or_ge 150 es.length with hbig | hsmall
  · have hbig' : (150 : Int) < (es.length : Int) := by omega
    have hres : lastP es = (0, 2) := by simp [lastP, hbig]
    rw [hres]
    repeat' first
      | refine VW.seq ?_
      | (refine VW.evalK (C := []) trivial (by kernel_rfl) ?_; simp [hbig, hbig'])
      | (refine VW.evalDK (C := []) trivial mixed (by kernel_rfl) ?_; simp [hbig, hbig'])
      | (refine VW.ret (VRet.fin ?_); simp [hbig, hbig'])
      | refine VW.condT rfl ?_
      | refine VW.condF rfl ?_
      | (refine VW.condB rfl (fun h => ?_) (fun h => ?_))
      | (refine VW.skip ?_; simp only [vthen, vblock])
      | refine VW.block ?_
      | (refine VW.exit ?_; simp only [vthen, vblock, if_true])
  have hsmall' : ¬ (150 : Int) < (es.length : Int) := by omega
  have hres : lastP es = lmFrom es es.length := by simp [lastP, Nat.not_lt.2 hsmall]
  rw [hres]
  repeat' first
    | refine VW.seq ?_
    | (refine VW.evalK (C := []) trivial (by kernel_rfl) ?_; simp [hw0, hsmall, hsmall'])
    | (refine VW.evalDK (C := []) trivial mixed (by kernel_rfl) ?_; simp [hw0, hsmall, hsmall'])
    | (refine VW.ret (VRet.fin ?_); simp [hw0, hsmall, hsmall'])
    | refine VW.condT rfl ?_
    | refine VW.condF rfl ?_
    | (refine VW.condB rfl (fun h => ?_) (fun h => ?_))
    | (refine VW.skip ?_; simp only [vthen, vblock])
    | refine VW.block ?_
    | (refine VW.exit ?_; simp only [vthen, vblock, if_true])
  refine VW.loop (fun n s => ∃ k, k ≤ es.length ∧ n = k ∧ lmFrom es es.length = lmFrom es k ∧ s = { t := [.sl 5 es, .any, .i .i64 0, .i .i64 0, .i .i64 (((k : Nat) : Int) - 1), .any, .any, .any, .any, .any, .any, .any, .any, .any, .any, .any, .any, .any, .any, .any, .any], m := [] }) (n0 := es.length) (s0 := { t := [.sl 5 es, .any, .i .i64 0, .i .i64 0, .i .i64 (((es.length : Nat) : Int) - 1), .any, .any, .any, .any, .any, .any, .any, .any, .any, .any, .any, .any, .any, .any, .any, .any], m := [] }) (Ent.to 0 ?_ ?_ ?_ ?_ ?_) ⟨es.length, by omega, rfl, rfl, rfl⟩ ?_
  · simp [fgt]
  · simp
  · simp
  · simp [bndT, bndV]
  · simp [bndM]
  intro n s ⟨k, hi, hn, hl, hs⟩
  subst hs
  rw [hl]
  cases k with
  | zero =>
    repeat' first
      | refine VW.seq ?_
      | (refine VW.evalK (C := []) trivial (by kernel_rfl) ?_; simp [lmFrom])
      | (refine VW.evalDK (C := []) trivial mixed (by kernel_rfl) ?_; simp [lmFrom])
      | (refine VW.ret (VRet.fin ?_); simp [lmFrom])
      | refine VW.condT rfl ?_
      | refine VW.condF rfl ?_
      | (refine VW.condB rfl (fun h => ?_) (fun h => ?_))
      | (refine VW.skip ?_; simp only [vthen, vblock])
      | refine VW.block ?_
      | (refine VW.exit ?_; simp only [vthen, vblock, if_true])
  | succ i =>
    have hlt : i < es.length := by omega
    obtain ⟨m, c, a, b, d, he⟩ := hall es[i] (List.getElem_mem hlt)
    have hk : es[i]? = some [.b m, .i .u32 c, .i .i64 a, .i .i64 b, .i .i64 d] := by rw [List.getElem?_eq_getElem hlt, he]
    have hi1 : ((i + 1 : Nat) : Int) - 1 = (i : Int) := by omega
    have hw : IntKind.i64.wrap ((i : Int) - 1) = (i : Int) - 1 := wrap64 (by omega) (by omega)
    rw [hi1]
    cases m
    · have hl' : lmFrom es (i + 1) = lmFrom es i := by simp [lmFrom, hk]
      repeat' first
        | refine VW.seq ?_
        | (refine VW.evalK (C := []) trivial (by kernel_rfl) ?_; simp [hlt, hk, he, hw, hl'])
        | (refine VW.evalDK (C := []) trivial mixed (by kernel_rfl) ?_; simp [hlt, hk, he, hw, hl'])
        | (refine VW.ret (VRet.fin ?_); simp [hlt, hk, he, hw, hl'])
        | refine VW.condT rfl ?_
        | refine VW.condF rfl ?_
        | (refine VW.condB rfl (fun h => ?_) (fun h => ?_))
        | (refine VW.skip ?_; simp only [vthen, vblock])
        | refine VW.block ?_
        | (refine VW.exit ?_; simp only [vthen, vblock, if_true])
      refine ⟨i, { t := [.sl 5 es, .any, .i .i64 0, .i .i64 0, .i .i64 (((i : Nat) : Int) - 1), .any, .any, .any, .any, .any, .any, .any, .any, .any, .any, .any, .any, .any, .any, .any, .any], m := [] }, Ent.to 0 ?_ ?_ ?_ ?_ ?_, by omega, i, by omega, rfl, by first | rfl | rw [hl, hl'], rfl⟩
      · simp [fgt]
      · simp
      · simp
      · simp [bndT, bndV]
      · simp [bndM]
    · have hl' : lmFrom es (i + 1) = ((i : Int), 0) := by simp [lmFrom, hk]
      rw [hl']
      repeat' first
        | refine VW.seq ?_
        | (refine VW.evalK (C := []) trivial (by kernel_rfl) ?_; simp [hlt, hk, he, hw])
        | (refine VW.evalDK (C := []) trivial mixed (by kernel_rfl) ?_; simp [hlt, hk, he, hw])
        | (refine VW.ret (VRet.fin ?_); simp [hlt, hk, he, hw])
        | refine VW.condT rfl ?_
        | refine VW.condF rfl ?_
        | (refine VW.condB rfl (fun h => ?_) (fun h => ?_))
        | (refine VW.skip ?_; simp only [vthen, vblock])
        | refine VW.block ?_
        | (refine VW.exit ?_; simp only [vthen, vblock, if_true])
set_option maxRecDepth 100000 in
/- loop.example/g01229/impl.LastMark -/
theorem ok18 : Tells Try.prog 18 lastF := by
  refine ⟨by kernel_rfl, fun args r h => ?_⟩
  unfold lastF at h
  split at h
  rotate_left
  · cases h
  rename_i es
  split at h
  rotate_left
  · cases h
  rename_i hE
  cases h
  have hp := hE.plain
  obtain ⟨hlen, hall⟩ := hE
  have hw0 : IntKind.i64.wrap ((es.length : Int) - 1) = (es.length : Int) - 1 := wrap64 (by omega) (by omega)
  refine VCalls.of Try.func18 rfl rfl rfl ?_
  simp only [List.reduceReplicate, List.cons_append, List.nil_append, List.length_cons, List.length_nil, Nat.reduceAdd, Nat.reduceSub]
  rcases Nat.lt_or_ge 150 es.length with hbig | hsmall
  · have hbig' : (150 : Int) < (es.length : Int) := by omega
    have hres : lastP es = (0, 2) := by simp [lastP, hbig]
    rw [hres]
    repeat' first
      | refine VW.seq ?_
      | (refine VW.evalK (C := []) trivial (by kernel_rfl) ?_; simp [hbig, hbig'])
      | (refine VW.evalDK (C := []) trivial mixed (by kernel_rfl) ?_; simp [hbig, hbig'])
      | (refine VW.ret (VRet.fin ?_); simp [hbig, hbig'])
      | refine VW.condT rfl ?_
      | refine VW.condF rfl ?_
      | (refine VW.condB rfl (fun h => ?_) (fun h => ?_))
      | (refine VW.skip ?_; simp only [vthen, vblock])
      | refine VW.block ?_
      | (refine VW.exit ?_; simp only [vthen, vblock, if_true])
  have hsmall' : ¬ (150 : Int) < (es.length : Int) := by omega
  have hres : lastP es = lmFrom es es.length := by simp [lastP, Nat.not_lt.2 hsmall]
  rw [hres]
  repeat' first
    | refine VW.seq ?_
    | (refine VW.evalK (C := []) trivial (by kernel_rfl) ?_; simp [hw0, hsmall, hsmall'])
    | (refine VW.evalDK (C := []) trivial mixed (by kernel_rfl) ?_; simp [hw0, hsmall, hsmall'])
    | (refine VW.ret (VRet.fin ?_); simp [hw0, hsmall, hsmall'])
    | refine VW.condT rfl ?_
    | refine VW.condF rfl ?_
    | (refine VW.condB rfl (fun h => ?_) (fun h => ?_))
    | (refine VW.skip ?_; simp only [vthen, vblock])
    | refine VW.block ?_
    | (refine VW.exit ?_; simp only [vthen, vblock, if_true])
  refine VW.loop (fun n s => ∃ k, k ≤ es.length ∧ n = k ∧ lmFrom es es.length = lmFrom es k ∧ s = { t := [.sl 5 es, .any, .i .i64 0, .i .i64 0, .i .i64 (((k : Nat) : Int) - 1), .any, .any, .any, .any, .any, .any, .any, .any, .any, .any, .any, .any, .any, .any, .any, .any], m := [] }) (n0 := es.length) (s0 := { t := [.sl 5 es, .any, .i .i64 0, .i .i64 0, .i .i64 (((es.length : Nat) : Int) - 1), .any, .any, .any, .any, .any, .any, .any, .any, .any, .any, .any, .any, .any, .any, .any, .any], m := [] }) (Ent.to 0 ?_ ?_ ?_ ?_ ?_) ⟨es.length, by omega, rfl, rfl, rfl⟩ ?_
  · simp [fgt]
  · simp
  · simp
  · simp [bndT, bndV]
  · simp [bndM]
  intro n s ⟨k, hi, hn, hl, hs⟩
  subst hs
  rw [hl]
  cases k with
  | zero =>
    repeat' first
      | refine VW.seq ?_
      | (refine VW.evalK (C := []) trivial (by kernel_rfl) ?_; simp [lmFrom])
      | (refine VW.evalDK (C := []) trivial mixed (by kernel_rfl) ?_; simp [lmFrom])
      | (refine VW.ret (VRet.fin ?_); simp [lmFrom])
      | refine VW.condT rfl ?_
      | refine VW.condF rfl ?_
      | (refine VW.condB rfl (fun h => ?_) (fun h => ?_))
      | (refine VW.skip ?_; simp only [vthen, vblock])
      | refine VW.block ?_
      | (refine VW.exit ?_; simp only [vthen, vblock, if_true])
  | succ i =>
    have hlt : i < es.length := by omega
    obtain ⟨m, c, a, b, d, he⟩ := hall es[i] (List.getElem_mem hlt)
    have hk : es[i]? = some [.b m, .i .u32 c, .i .i64 a, .i .i64 b, .i .i64 d] := by rw [List.getElem?_eq_getElem hlt, he]
    have hi1 : ((i + 1 : Nat) : Int) - 1 = (i : Int) := by omega
    have hw : IntKind.i64.wrap ((i : Int) - 1) = (i : Int) - 1 := wrap64 (by omega) (by omega)
    rw [hi1]
    cases m
    · have hl' : lmFrom es (i + 1) = lmFrom es i := by simp [lmFrom, hk]
      repeat' first
        | refine VW.seq ?_
        | (refine VW.evalK (C := []) trivial (by kernel_rfl) ?_; simp [hlt, hk, he, hw, hl'])
        | (refine VW.evalDK (C := []) trivial mixed (by kernel_rfl) ?_; simp [hlt, hk, he, hw, hl'])
        | (refine VW.ret (VRet.fin ?_); simp [hlt, hk, he, hw, hl'])
        | refine VW.condT rfl ?_
        | refine VW.condF rfl ?_
        | (refine VW.condB rfl (fun h => ?_) (fun h => ?_))
        | (refine VW.skip ?_; simp only [vthen, vblock])
        | refine VW.block ?_
        | (refine VW.exit ?_; simp only [vthen, vblock, if_true])
      refine ⟨i, { t := [.sl 5 es, .any, .i .i64 0, .i .i64 0, .i .i64 (((i : Nat) : Int) - 1), .any, .any, .any, .any, .any, .any, .any, .any, .any, .any, .any, .any, .any, .any, .any, .any], m := [] }, Ent.to 0 ?_ ?_ ?_ ?_ ?_, by omega, i, by omega, rfl, by first | rfl | rw [hl, hl'], rfl⟩
      · simp [fgt]
      · simp
      · simp
      · simp [bndT, bndV]
      · simp [bndM]
    · have hl' : lmFrom es (i + 1) = ((i : Int), 0) := by simp [lmFrom, hk]
      rw [hl']
      repeat' first
        | refine VW.seq ?_
        | (refine VW.evalK (C := []) trivial (by kernel_rfl) ?_; simp [hlt, hk, he, hw])
        | (refine VW.evalDK (C := []) trivial mixed (by kernel_rfl) ?_; simp [hlt, hk, he, hw])
        | (refine VW.ret (VRet.fin ?_); simp [hlt, hk, he, hw])
        | refine VW.condT rfl ?_
        | refine VW.condF rfl ?_
        | (refine VW.condB rfl (fun h => ?_) (fun h => ?_))
        | (refine VW.skip ?_; simp only [vthen, vblock])
        | refine VW.block ?_
        | (refine VW.exit ?_; simp only [vthen, vblock, if_true])

theorem own : ownKnob Try.prog.godebug = none := by kernel_rfl
theorem laidOut : laidOutB Try.prog = true := by kernel_rfl
end Go.Proofs.Ytfklolheleffpaa
