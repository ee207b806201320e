/- The types of the seat, and contracts of the functions on seasons that the laws share. -/
import Derived.Test.YteggncgiflgopaaVxMore
import Derived.Test.YteggncgiflgopaaProg
import Derived.KernelRfl
namespace Go.Proofs.Yteggncgiflgopaa
open Go.RowKit Go.VL
set_option linter.unusedSimpArgs false
set_option linter.unusedVariables false
@[simp] theorem tk_2 : tk Try.prog 2 = .int .i64 := by kernel_rfl
@[simp] theorem co_2 : Try.prog.cellsOf 2 = 1 := by kernel_rfl
@[simp] theorem cz_2 : csz Try.prog 2 = 1 := by kernel_rfl
@[simp] theorem ag_2 : aggB Try.prog 2 = false := by kernel_rfl
@[simp] theorem ze_2 : zeroV Try.prog 2 = some [.int .i64 0] := by kernel_rfl
@[simp] theorem by_2 : Try.prog.bytesOf 2 = 8 := by kernel_rfl
@[simp] theorem tk_3 : tk Try.prog 3 = .int .i64 := by kernel_rfl
@[simp] theorem co_3 : Try.prog.cellsOf 3 = 1 := by kernel_rfl
@[simp] theorem cz_3 : csz Try.prog 3 = 1 := by kernel_rfl
@[simp] theorem ag_3 : aggB Try.prog 3 = false := by kernel_rfl
@[simp] theorem ze_3 : zeroV Try.prog 3 = some [.int .i64 0] := by kernel_rfl
@[simp] theorem by_3 : Try.prog.bytesOf 3 = 8 := by kernel_rfl
@[simp] theorem tk_4 : tk Try.prog 4 = .bool := by kernel_rfl
@[simp] theorem co_4 : Try.prog.cellsOf 4 = 1 := by kernel_rfl
@[simp] theorem cz_4 : csz Try.prog 4 = 1 := by kernel_rfl
@[simp] theorem ag_4 : aggB Try.prog 4 = false := by kernel_rfl
@[simp] theorem ze_4 : zeroV Try.prog 4 = some [.bool false] := by kernel_rfl
@[simp] theorem by_4 : Try.prog.bytesOf 4 = 1 := by kernel_rfl
@[simp] theorem tk_22 : tk Try.prog 22 = .slice 2 := by kernel_rfl
@[simp] theorem co_22 : Try.prog.cellsOf 22 = 1 := by kernel_rfl
@[simp] theorem cz_22 : csz Try.prog 22 = 1 := by kernel_rfl
@[simp] theorem ag_22 : aggB Try.prog 22 = false := by kernel_rfl
@[simp] theorem ze_22 : zeroV Try.prog 22 = some [.slice none 0 0] := by kernel_rfl
@[simp] theorem by_22 : Try.prog.bytesOf 22 = 24 := by kernel_rfl
@[simp] theorem tk_24 : tk Try.prog 24 = .struct [(0, 1, false), (1, 1, false), (2, 1, false), (3, 1, false), (4, 1, false), (5, 1, false), (6, 1, false)] := by kernel_rfl
@[simp] theorem co_24 : Try.prog.cellsOf 24 = 7 := by kernel_rfl
@[simp] theorem cz_24 : csz Try.prog 24 = 7 := by kernel_rfl
@[simp] theorem ag_24 : aggB Try.prog 24 = true := by kernel_rfl
@[simp] theorem ze_24 : zeroV Try.prog 24 = some [.slice none 0 0, .slice none 0 0, .int .i64 0, .int .i64 0, .int .i64 0, .int .i64 0, .int .i64 0] := by kernel_rfl
@[simp] theorem by_24 : Try.prog.bytesOf 24 = 88 := by kernel_rfl
@[simp] theorem tk_27 : tk Try.prog 27 = .struct [(0, 1, false), (1, 1, false), (2, 1, false), (3, 1, false), (4, 1, false), (5, 1, false), (6, 1, false)] := by kernel_rfl
@[simp] theorem co_27 : Try.prog.cellsOf 27 = 7 := by kernel_rfl
@[simp] theorem cz_27 : csz Try.prog 27 = 7 := by kernel_rfl
@[simp] theorem ag_27 : aggB Try.prog 27 = true := by kernel_rfl
@[simp] theorem ze_27 : zeroV Try.prog 27 = some [.slice none 0 0, .slice none 0 0, .int .i64 0, .int .i64 0, .int .i64 0, .int .i64 0, .int .i64 0] := by kernel_rfl
@[simp] theorem by_27 : Try.prog.bytesOf 27 = 88 := by kernel_rfl
@[simp] theorem tk_49 : tk Try.prog 49 = .slice 22 := by kernel_rfl
@[simp] theorem co_49 : Try.prog.cellsOf 49 = 1 := by kernel_rfl
@[simp] theorem cz_49 : csz Try.prog 49 = 1 := by kernel_rfl
@[simp] theorem ag_49 : aggB Try.prog 49 = false := by kernel_rfl
@[simp] theorem ze_49 : zeroV Try.prog 49 = some [.slice none 0 0] := by kernel_rfl
@[simp] theorem by_49 : Try.prog.bytesOf 49 = 24 := by kernel_rfl
@[simp] theorem tk_56 : tk Try.prog 56 = .ptr 27 := by kernel_rfl
@[simp] theorem co_56 : Try.prog.cellsOf 56 = 1 := by kernel_rfl
@[simp] theorem cz_56 : csz Try.prog 56 = 1 := by kernel_rfl
@[simp] theorem ag_56 : aggB Try.prog 56 = false := by kernel_rfl
@[simp] theorem ze_56 : zeroV Try.prog 56 = some [.pointer none] := by kernel_rfl
@[simp] theorem by_56 : Try.prog.bytesOf 56 = 8 := by kernel_rfl
theorem mixed : Try.prog.follows .mixedOrders = true := by kernel_rfl

structure Sea where
  need : List Int
  price : List Int
  most : Int
  yield : Int
  store : Int
  first : Int
  loss : Int

/-- The two lists are lists of numbers, and short. -/
def Two (a b : List (List V)) : Prop := isInts a ∧ isInts b ∧ a.length ≤ 1048576 ∧ b.length ≤ 1048576
def One (a : List (List V)) : Prop := isInts a ∧ a.length ≤ 1048576
@[simp] theorem Two_ints {xs ys : List Int} : Two (ints xs) (ints ys) ↔ xs.length ≤ 1048576 ∧ ys.length ≤ 1048576 := by simp [Two]
@[simp] theorem One_ints {xs : List Int} : One (ints xs) ↔ xs.length ≤ 1048576 := by simp [One]

open Classical in
@[simp] noncomputable def szI : List V → Option V
  | [.sl 1 a, .i .i64 n] => if a.length ≤ maxLen ∧ 0 ≤ n ∧ n ≤ 1048576 then some (.i .i64 (if (a.length : Int) ≤ n then n - a.length else -1)) else none
  | _ => none
open Classical in
@[simp] noncomputable def szS : List V → Option V
  | [.agg [.sl 1 a, .sl 1 b, .i .i64 m, .i .i64 y, .i .i64 st, .i .i64 f, .i .i64 l], .i .i64 n] => if a.length ≤ maxLen ∧ b.length ≤ maxLen ∧ 0 ≤ n ∧ n ≤ 1048576 then some (.i .i64 (if (a.length : Int) + b.length ≤ n then n - a.length - b.length else -1)) else none
  | _ => none
open Classical in
@[simp] noncomputable def toI : List V → Option V
  | [.sl 1 a] => if One a then some (.own 1 a) else none
  | _ => none
open Classical in
@[simp] noncomputable def toS : List V → Option V
  | [.agg [.sl 1 a, .sl 1 b, .i .i64 m, .i .i64 y, .i .i64 st, .i .i64 f, .i .i64 l]] => if Two a b then some (.agg [.own 1 a, .own 1 b, .i .i64 m, .i .i64 y, .i .i64 st, .i .i64 f, .i .i64 l]) else none
  | _ => none
open Classical in
@[simp] noncomputable def eqI : List V → Option V
  | [.sl 1 a, .sl 1 b] => if One a ∧ a = b then some (.b true) else none
  | _ => none
open Classical in
@[simp] noncomputable def eqS : List V → Option V
  | [.agg [.sl 1 a, .sl 1 b, .i .i64 m, .i .i64 y, .i .i64 st, .i .i64 f, .i .i64 l], .agg x] => if Two a b ∧ x = [.sl 1 a, .sl 1 b, .i .i64 m, .i .i64 y, .i .i64 st, .i .i64 f, .i .i64 l] then some (.b true) else none
  | _ => none
@[simp] def inF : List V → Option V
  | [.i .i64 n, .i .i64 lo, .i .i64 hi] => some (.b (decide (lo ≤ n) && decide (n ≤ hi)))
  | _ => none
def bnd (xs : List Int) (most : Int) : Bool := xs.all fun x => decide (0 ≤ x) && decide (x ≤ most)
open Classical in
@[simp] noncomputable def bndF : List V → Option V
  | [.sl 1 a, .i .i64 most] => if One a then some (.b (bnd (dec a) most)) else none
  | _ => none
def valid (s : Sea) : Bool := decide (1 ≤ (s.need.length : Int)) && decide ((s.need.length : Int) ≤ 24) && (s.price.length == s.need.length) && bnd s.need 200 && bnd s.price 1000 && (decide (0 ≤ s.most) && decide (s.most ≤ 20)) && (decide (1 ≤ s.yield) && decide (s.yield ≤ 40)) && (decide (0 ≤ s.store) && decide (s.store ≤ 60)) && (decide (0 ≤ s.first) && decide (s.first ≤ s.store)) && (decide (0 ≤ s.loss) && decide (s.loss ≤ 100))
open Classical in
@[simp] noncomputable def validF : List V → Option V
  | [.agg [.sl 1 a, .sl 1 b, .i .i64 m, .i .i64 y, .i .i64 st, .i .i64 f, .i .i64 l]] => if Two a b then some (.b (valid ⟨dec a, dec b, m, y, st, f, l⟩)) else none
  | _ => none
open Classical in
@[simp] noncomputable def validP : List V → Option V
  | [.cptr [.sl 1 a, .sl 1 b, .i .i64 m, .i .i64 y, .i .i64 st, .i .i64 f, .i .i64 l] 0] => if Two a b then some (.b (valid ⟨dec a, dec b, m, y, st, f, l⟩)) else none
  | _ => none
set_option maxRecDepth 100000 in
set_option maxHeartbeats 4000000 in
/- loop.example/g01229/laws.szInt64S -/
theorem ok50 : Tells Try.prog 50 szI := by
  refine ⟨by kernel_rfl, fun args r h => ?_⟩
  unfold szI at h
  split at h
  rotate_left
  · cases h
  rename_i a n
  split at h
  rotate_left
  · cases h
  rename_i hE
  cases h
  obtain ⟨h1, h2, h3⟩ := hE
  have hm : maxLen = 9223372036854775807 := by decide
  have hw : IntKind.i64.wrap (n - (a.length : Int)) = n - (a.length : Int) := wrap64 (by omega) (by omega)
  by_cases hc : (a.length : Int) ≤ n
  · have hc' : ¬ (n - (a.length : Int) < 0) := by omega
    simp only [hc, if_true]
    refine VCalls.of Try.func50 rfl rfl rfl ?_
    simp only [List.reduceReplicate, List.cons_append, List.nil_append, List.length_cons, List.length_nil, Nat.reduceAdd, Nat.reduceSub]
    repeat' first
      | refine VW.seq ?_
      | (refine VW.evalK (C := []) trivial (by kernel_rfl) ?_; simp [hw, hc'])
      | (refine VW.evalDK (C := []) trivial mixed (by kernel_rfl) ?_; simp [hw, hc'])
      | (refine VW.ret (VRet.fin ?_); simp [hw, hc'])
      | refine VW.condT rfl ?_
      | refine VW.condF rfl ?_
      | (refine VW.condB rfl (fun h => ?_) (fun h => ?_))
      | (refine VW.skip ?_; simp only [vthen, vblock])
      | refine VW.block ?_
      | (refine VW.exit ?_; simp only [vthen, vblock, if_true])
  · have hc' : n - (a.length : Int) < 0 := by omega
    simp only [hc, if_false]
    refine VCalls.of Try.func50 rfl rfl rfl ?_
    simp only [List.reduceReplicate, List.cons_append, List.nil_append, List.length_cons, List.length_nil, Nat.reduceAdd, Nat.reduceSub]
    repeat' first
      | refine VW.seq ?_
      | (refine VW.evalK (C := []) trivial (by kernel_rfl) ?_; simp [hw, hc'])
      | (refine VW.evalDK (C := []) trivial mixed (by kernel_rfl) ?_; simp [hw, hc'])
      | (refine VW.ret (VRet.fin ?_); simp [hw, hc'])
      | refine VW.condT rfl ?_
      | refine VW.condF rfl ?_
      | (refine VW.condB rfl (fun h => ?_) (fun h => ?_))
      | (refine VW.skip ?_; simp only [vthen, vblock])
      | refine VW.block ?_
      | (refine VW.exit ?_; simp only [vthen, vblock, if_true])
set_option maxRecDepth 100000 in
set_option maxHeartbeats 4000000 in
/- loop.example/g01229/laws.szSeason -/
theorem ok15 : Tells Try.prog 15 szS := by
  refine ⟨by kernel_rfl, fun args r h => ?_⟩
  unfold szS at h
  split at h
  rotate_left
  · cases h
  rename_i a b m y st f l n
  split at h
  rotate_left
  · cases h
  rename_i hE
  cases h
  obtain ⟨h1, h2, h0, h3⟩ := hE
  have hm : maxLen = 9223372036854775807 := by decide
  refine VCalls.of Try.func15 rfl rfl rfl ?_
  simp only [List.reduceReplicate, List.cons_append, List.nil_append, List.length_cons, List.length_nil, Nat.reduceAdd, Nat.reduceSub]
  by_cases hc : (a.length : Int) ≤ n
  · by_cases hd : (b.length : Int) ≤ n - a.length
    · have e2 : ¬ (n - (a.length : Int) < 0) := by omega
      have e4 : ¬ (n - (a.length : Int) - b.length < 0) := by omega
      have e5 : (a.length : Int) + b.length ≤ n := by omega
      have e6 : (0 : Int) ≤ n - a.length := by omega
      have e7 : n - (a.length : Int) ≤ 1048576 := by omega
      repeat' first
        | refine VW.seq ?_
        | (refine VW.evalK (C := [(50, szI)]) ⟨ok50, trivial⟩ (by kernel_rfl) ?_; simp [h0, h1, h2, h3, hc, hd, e2, e4, e5, e6, e7])
        | (refine VW.evalDK (C := [(50, szI)]) ⟨ok50, trivial⟩ mixed (by kernel_rfl) ?_; simp [h0, h1, h2, h3, hc, hd, e2, e4, e5, e6, e7])
        | (refine VW.ret (VRet.fin ?_); simp [h0, h1, h2, h3, hc, hd, e2, e4, e5, e6, e7])
        | refine VW.condT rfl ?_
        | refine VW.condF rfl ?_
        | (refine VW.condB rfl (fun h => ?_) (fun h => ?_))
        | (refine VW.skip ?_; simp only [vthen, vblock])
        | refine VW.block ?_
        | (refine VW.exit ?_; simp only [vthen, vblock, if_true])
    · have e2 : ¬ (n - (a.length : Int) < 0) := by omega
      have e5 : ¬ ((a.length : Int) + b.length ≤ n) := by omega
      have e6 : (0 : Int) ≤ n - a.length := by omega
      have e7 : n - (a.length : Int) ≤ 1048576 := by omega
      repeat' first
        | refine VW.seq ?_
        | (refine VW.evalK (C := [(50, szI)]) ⟨ok50, trivial⟩ (by kernel_rfl) ?_; simp [h0, h1, h2, h3, hc, hd, e2, e5, e6, e7])
        | (refine VW.evalDK (C := [(50, szI)]) ⟨ok50, trivial⟩ mixed (by kernel_rfl) ?_; simp [h0, h1, h2, h3, hc, hd, e2, e5, e6, e7])
        | (refine VW.ret (VRet.fin ?_); simp [h0, h1, h2, h3, hc, hd, e2, e5, e6, e7])
        | refine VW.condT rfl ?_
        | refine VW.condF rfl ?_
        | (refine VW.condB rfl (fun h => ?_) (fun h => ?_))
        | (refine VW.skip ?_; simp only [vthen, vblock])
        | refine VW.block ?_
        | (refine VW.exit ?_; simp only [vthen, vblock, if_true])
  · have e5 : ¬ ((a.length : Int) + b.length ≤ n) := by omega
    repeat' first
      | refine VW.seq ?_
      | (refine VW.evalK (C := [(50, szI)]) ⟨ok50, trivial⟩ (by kernel_rfl) ?_; simp [h0, h1, h2, h3, hc, e5])
      | (refine VW.evalDK (C := [(50, szI)]) ⟨ok50, trivial⟩ mixed (by kernel_rfl) ?_; simp [h0, h1, h2, h3, hc, e5])
      | (refine VW.ret (VRet.fin ?_); simp [h0, h1, h2, h3, hc, e5])
      | refine VW.condT rfl ?_
      | refine VW.condF rfl ?_
      | (refine VW.condB rfl (fun h => ?_) (fun h => ?_))
      | (refine VW.skip ?_; simp only [vthen, vblock])
      | refine VW.block ?_
      | (refine VW.exit ?_; simp only [vthen, vblock, if_true])
set_option maxRecDepth 100000 in
set_option maxHeartbeats 4000000 in
/- loop.example/g01229/laws.toInt64S -/
theorem ok25 : Tells Try.prog 25 toI := by
  refine ⟨by kernel_rfl, fun args r h => ?_⟩
  unfold toI at h
  split at h
  rotate_left
  · cases h
  rename_i a
  split at h
  rotate_left
  · cases h
  rename_i hE
  cases h
  obtain ⟨ha, la⟩ := hE
  obtain ⟨xs, rfl⟩ := ha.get
  simp only [ints_length, dec_ints] at *
  have hb1 : 8 * xs.length ≤ 281474976710656 := by omega
  have hb2 : xs.length ≤ 9223372036854775807 := by omega
  refine VCalls.of Try.func25 rfl rfl rfl ?_
  simp only [List.reduceReplicate, List.cons_append, List.nil_append, List.length_cons, List.length_nil, Nat.reduceAdd, Nat.reduceSub]
  repeat' first
    | refine VW.seq ?_
    | (refine VW.evalK (C := []) trivial (by kernel_rfl) ?_; simp [hb1, hb2])
    | (refine VW.evalDK (C := []) trivial mixed (by kernel_rfl) ?_; simp [hb1, hb2])
    | (refine VW.ret (VRet.fin ?_); simp [hb1, hb2])
    | refine VW.condT rfl ?_
    | refine VW.condF rfl ?_
    | (refine VW.condB rfl (fun h => ?_) (fun h => ?_))
    | (refine VW.skip ?_; simp only [vthen, vblock])
    | refine VW.block ?_
    | (refine VW.exit ?_; simp only [vthen, vblock, if_true])
  refine VW.loop (fun n s => ∃ i, i ≤ xs.length ∧ n = xs.length - i ∧ s = { t := [.sl 1 (ints xs), .any, .nil, .ref 0 0 xs.length, .i .i64 ((i : Nat) : Int), .any, .any, .any, .any, .any, .any, .any, .any, .any, .any, .any, .any, .any, .any, .any, .any, .any], m := [some (1, ints (fill i xs 0))] }) (n0 := xs.length) (s0 := { t := [.sl 1 (ints xs), .any, .nil, .ref 0 0 xs.length, .i .i64 ((0 : Nat) : Int), .any, .any, .any, .any, .any, .any, .any, .any, .any, .any, .any, .any, .any, .any, .any, .any, .any], m := [some (1, ints (fill 0 xs 0))] }) (Ent.to 1 ?_ ?_ ?_ ?_ ?_) ⟨0, by omega, by omega, rfl⟩ ?_
  · simp [fgt]
  · simp [fill_zero, ints_replicate]
  · simp
  · simp [bndT, bndV]
  · simp [bndM, ints_bnd, bndV]
  intro n s ⟨i, hi, hn, hs⟩
  subst hs
  rcases Nat.lt_or_ge i xs.length with hlt | hge
  · have hk : xs[i]? = some xs[i] := List.getElem?_eq_getElem hlt
    have hz : (fill i xs 0)[i]? = some 0 := fill_get hlt
    have hz' : ∀ h : i < (fill i xs 0).length, (fill i xs 0)[i] = 0 := fun h => by rw [List.getElem?_eq_getElem h] at hz; exact Option.some.inj hz
    have hst := fill_set (z := 0) hlt hk
    have hw := succ64 (i := i) (by omega)
    repeat' first
      | refine VW.seq ?_
      | (refine VW.evalK (C := []) trivial (by kernel_rfl) ?_; simp [hlt, hk, hz, hz', hst, hw, ints_set])
      | (refine VW.evalDK (C := []) trivial mixed (by kernel_rfl) ?_; simp [hlt, hk, hz, hz', hst, hw, ints_set])
      | (refine VW.ret (VRet.fin ?_); simp [hlt, hk, hz, hz', hst, hw, ints_set])
      | refine VW.condT rfl ?_
      | refine VW.condF rfl ?_
      | (refine VW.condB rfl (fun h => ?_) (fun h => ?_))
      | (refine VW.skip ?_; simp only [vthen, vblock])
      | refine VW.block ?_
      | (refine VW.exit ?_; simp only [vthen, vblock, if_true])
    refine ⟨xs.length - (i + 1), { t := [.sl 1 (ints xs), .any, .nil, .ref 0 0 xs.length, .i .i64 (((i + 1) : Nat) : Int), .any, .any, .any, .any, .any, .any, .any, .any, .any, .any, .any, .any, .any, .any, .any, .any, .any], m := [some (1, ints (fill (i + 1) xs 0))] }, Ent.to 1 ?_ ?_ ?_ ?_ ?_, by omega, i + 1, by omega, rfl, rfl⟩
    · simp [fgt]
    · simp
    · simp
    · simp [bndT, bndV]
    · simp [bndM, ints_bnd, bndV]
  · obtain rfl : i = xs.length := by omega
    repeat' first
      | refine VW.seq ?_
      | (refine VW.evalK (C := []) trivial (by kernel_rfl) ?_; simp [fill_all])
      | (refine VW.evalDK (C := []) trivial mixed (by kernel_rfl) ?_; simp [fill_all])
      | (refine VW.ret (VRet.fin ?_); simp [fill_all])
      | refine VW.condT rfl ?_
      | refine VW.condF rfl ?_
      | (refine VW.condB rfl (fun h => ?_) (fun h => ?_))
      | (refine VW.skip ?_; simp only [vthen, vblock])
      | refine VW.block ?_
      | (refine VW.exit ?_; simp only [vthen, vblock, if_true])
set_option maxRecDepth 100000 in
set_option maxHeartbeats 4000000 in
/- loop.example/g01229/laws.toSeason -/
theorem ok17 : Tells Try.prog 17 toS := by
  refine ⟨by kernel_rfl, fun args r h => ?_⟩
  unfold toS at h
  split at h
  rotate_left
  · cases h
  rename_i a b m y st f l
  split at h
  rotate_left
  · cases h
  rename_i hE
  cases h
  obtain ⟨ha, hb, la, lb⟩ := hE
  obtain ⟨need, rfl⟩ := ha.get
  obtain ⟨price, rfl⟩ := hb.get
  simp only [ints_length, dec_ints] at *
  refine VCalls.of Try.func17 rfl rfl rfl ?_
  simp only [List.reduceReplicate, List.cons_append, List.nil_append, List.length_cons, List.length_nil, Nat.reduceAdd, Nat.reduceSub]
  repeat' first
    | refine VW.seq ?_
    | (refine VW.evalK (C := [(25, toI)]) ⟨ok25, trivial⟩ (by kernel_rfl) ?_; simp [la, lb])
    | (refine VW.evalDK (C := [(25, toI)]) ⟨ok25, trivial⟩ mixed (by kernel_rfl) ?_; simp [la, lb])
    | (refine VW.ret (VRet.fin ?_); simp [la, lb])
    | refine VW.condT rfl ?_
    | refine VW.condF rfl ?_
    | (refine VW.condB rfl (fun h => ?_) (fun h => ?_))
    | (refine VW.skip ?_; simp only [vthen, vblock])
    | refine VW.block ?_
    | (refine VW.exit ?_; simp only [vthen, vblock, if_true])
set_option maxRecDepth 100000 in
set_option maxHeartbeats 4000000 in
/- loop.example/g01229/laws.eqInt64S -/
theorem ok27 : Tells Try.prog 27 eqI := by
  refine ⟨by kernel_rfl, fun args r h => ?_⟩
  unfold eqI at h
  split at h
  rotate_left
  · cases h
  rename_i a b
  split at h
  rotate_left
  · cases h
  rename_i hE
  cases h
  obtain ⟨⟨ha, la⟩, rfl⟩ := hE
  obtain ⟨xs, rfl⟩ := ha.get
  simp only [ints_length, dec_ints] at *
  refine VCalls.of Try.func27 rfl rfl rfl ?_
  simp only [List.reduceReplicate, List.cons_append, List.nil_append, List.length_cons, List.length_nil, Nat.reduceAdd, Nat.reduceSub]
  repeat' first
    | refine VW.seq ?_
    | (refine VW.evalK (C := []) trivial (by kernel_rfl) ?_; simp)
    | (refine VW.evalDK (C := []) trivial mixed (by kernel_rfl) ?_; simp)
    | (refine VW.ret (VRet.fin ?_); simp)
    | refine VW.condT rfl ?_
    | refine VW.condF rfl ?_
    | (refine VW.condB rfl (fun h => ?_) (fun h => ?_))
    | (refine VW.skip ?_; simp only [vthen, vblock])
    | refine VW.block ?_
    | (refine VW.exit ?_; simp only [vthen, vblock, if_true])
  refine VW.loop (fun n s => ∃ i, i ≤ xs.length ∧ n = xs.length - i ∧ s = { t := [.sl 1 (ints xs), .sl 1 (ints xs), .any, .any, .b false, .i .i64 ((i : Nat) : Int), .any, .any, .any, .any, .any, .any, .any, .any, .any, .any, .any, .any, .any, .any, .any, .any, .any, .any, .any, .any], m := [] }) (n0 := xs.length) (s0 := { t := [.sl 1 (ints xs), .sl 1 (ints xs), .any, .any, .b false, .i .i64 ((0 : Nat) : Int), .any, .any, .any, .any, .any, .any, .any, .any, .any, .any, .any, .any, .any, .any, .any, .any, .any, .any, .any, .any], m := [] }) (Ent.to 0 ?_ ?_ ?_ ?_ ?_) ⟨0, by omega, by omega, rfl⟩ ?_
  · simp [fgt]
  · simp
  · simp
  · simp [bndT, bndV]
  · simp [bndM, ints_bnd, bndV]
  intro n s ⟨i, hi, hn, hs⟩
  subst hs
  rcases Nat.lt_or_ge i xs.length with hlt | hge
  · have hk : xs[i]? = some xs[i] := List.getElem?_eq_getElem hlt
    have hw := succ64 (i := i) (by omega)
    repeat' first
      | refine VW.seq ?_
      | (refine VW.evalK (C := []) trivial (by kernel_rfl) ?_; simp [hlt, hk, hw])
      | (refine VW.evalDK (C := []) trivial mixed (by kernel_rfl) ?_; simp [hlt, hk, hw])
      | (refine VW.ret (VRet.fin ?_); simp [hlt, hk, hw])
      | refine VW.condT rfl ?_
      | refine VW.condF rfl ?_
      | (refine VW.condB rfl (fun h => ?_) (fun h => ?_))
      | (refine VW.skip ?_; simp only [vthen, vblock])
      | refine VW.block ?_
      | (refine VW.exit ?_; simp only [vthen, vblock, if_true])
    refine ⟨xs.length - (i + 1), { t := [.sl 1 (ints xs), .sl 1 (ints xs), .any, .any, .b false, .i .i64 (((i + 1) : Nat) : Int), .any, .any, .any, .any, .any, .any, .any, .any, .any, .any, .any, .any, .any, .any, .any, .any, .any, .any, .any, .any], m := [] }, Ent.to 0 ?_ ?_ ?_ ?_ ?_, by omega, i + 1, by omega, rfl, rfl⟩
    · simp [fgt]
    · simp
    · simp
    · simp [bndT, bndV]
    · simp [bndM, ints_bnd, bndV]
  · obtain rfl : i = xs.length := by omega
    repeat' first
      | refine VW.seq ?_
      | (refine VW.evalK (C := []) trivial (by kernel_rfl) ?_; simp)
      | (refine VW.evalDK (C := []) trivial mixed (by kernel_rfl) ?_; simp)
      | (refine VW.ret (VRet.fin ?_); simp)
      | refine VW.condT rfl ?_
      | refine VW.condF rfl ?_
      | (refine VW.condB rfl (fun h => ?_) (fun h => ?_))
      | (refine VW.skip ?_; simp only [vthen, vblock])
      | refine VW.block ?_
      | (refine VW.exit ?_; simp only [vthen, vblock, if_true])
set_option maxRecDepth 100000 in
set_option maxHeartbeats 4000000 in
/- loop.example/g01229/laws.eqSeason -/
theorem ok19 : Tells Try.prog 19 eqS := by
  refine ⟨by kernel_rfl, fun args r h => ?_⟩
  unfold eqS at h
  split at h
  rotate_left
  · cases h
  rename_i a b m y st f l x
  split at h
  rotate_left
  · cases h
  rename_i hE
  cases h
  obtain ⟨⟨ha, hb, la, lb⟩, rfl⟩ := hE
  obtain ⟨need, rfl⟩ := ha.get
  obtain ⟨price, rfl⟩ := hb.get
  simp only [ints_length, dec_ints] at *
  refine VCalls.of Try.func19 rfl rfl rfl ?_
  simp only [List.reduceReplicate, List.cons_append, List.nil_append, List.length_cons, List.length_nil, Nat.reduceAdd, Nat.reduceSub]
  repeat' first
    | refine VW.seq ?_
    | (refine VW.evalK (C := [(27, eqI)]) ⟨ok27, trivial⟩ (by kernel_rfl) ?_; simp [la, lb])
    | (refine VW.evalDK (C := [(27, eqI)]) ⟨ok27, trivial⟩ mixed (by kernel_rfl) ?_; simp [la, lb])
    | (refine VW.ret (VRet.fin ?_); simp [la, lb])
    | refine VW.condT rfl ?_
    | refine VW.condF rfl ?_
    | (refine VW.condB rfl (fun h => ?_) (fun h => ?_))
    | (refine VW.skip ?_; simp only [vthen, vblock])
    | refine VW.block ?_
    | (refine VW.exit ?_; simp only [vthen, vblock, if_true])
set_option maxRecDepth 100000 in
set_option maxHeartbeats 4000000 in
/- loop.example/g01229/spec.l00In -/
theorem ok54 : Tells Try.prog 54 inF := by
  refine ⟨by kernel_rfl, fun args r h => ?_⟩
  unfold inF at h
  split at h <;> cases h
  refine VCalls.of Try.func54 rfl rfl rfl ?_
  simp only [List.reduceReplicate, List.cons_append, List.nil_append, List.length_cons, List.length_nil, Nat.reduceAdd, Nat.reduceSub]
  repeat' first
    | refine VW.seq ?_
    | (refine VW.evalK (C := []) trivial (by kernel_rfl) ?_; simp)
    | (refine VW.evalDK (C := []) trivial mixed (by kernel_rfl) ?_; simp)
    | (refine VW.ret (VRet.fin ?_); simp)
    | refine VW.condT rfl ?_
    | refine VW.condF rfl ?_
    | (refine VW.condB rfl (fun h => ?_) (fun h => ?_))
    | (refine VW.skip ?_; simp only [vthen, vblock])
    | refine VW.block ?_
    | (refine VW.exit ?_; simp only [vthen, vblock, if_true])
  all_goals simp_all
set_option maxRecDepth 100000 in
set_option maxHeartbeats 4000000 in
/- loop.example/g01229/spec.l07Bounded -/
theorem ok66 : Tells Try.prog 66 bndF := by
  refine ⟨by kernel_rfl, fun args r h => ?_⟩
  unfold bndF at h
  split at h
  rotate_left
  · cases h
  rename_i a most
  split at h
  rotate_left
  · cases h
  rename_i hE
  cases h
  obtain ⟨ha, la⟩ := hE
  obtain ⟨xs, rfl⟩ := ha.get
  simp only [ints_length, dec_ints] at *
  refine VCalls.of Try.func66 rfl rfl rfl ?_
  simp only [List.reduceReplicate, List.cons_append, List.nil_append, List.length_cons, List.length_nil, Nat.reduceAdd, Nat.reduceSub]
  repeat' first
    | refine VW.seq ?_
    | (refine VW.evalK (C := [(54, inF)]) ⟨ok54, trivial⟩ (by kernel_rfl) ?_; simp)
    | (refine VW.evalDK (C := [(54, inF)]) ⟨ok54, trivial⟩ mixed (by kernel_rfl) ?_; simp)
    | (refine VW.ret (VRet.fin ?_); simp)
    | refine VW.condT rfl ?_
    | refine VW.condF rfl ?_
    | (refine VW.condB rfl (fun h => ?_) (fun h => ?_))
    | (refine VW.skip ?_; simp only [vthen, vblock])
    | refine VW.block ?_
    | (refine VW.exit ?_; simp only [vthen, vblock, if_true])
  refine VW.loop (fun n s => ∃ i, i ≤ xs.length ∧ bnd xs most = bnd (xs.drop i) most ∧ n = xs.length - i ∧ s = { t := [.sl 1 (ints xs), .i .i64 most, .any, .any, .b false, .i .i64 ((i : Nat) : Int), .any, .any, .any, .any, .any, .any, .any, .any, .any, .any, .any, .any, .any], m := [] }) (n0 := xs.length) (s0 := { t := [.sl 1 (ints xs), .i .i64 most, .any, .any, .b false, .i .i64 ((0 : Nat) : Int), .any, .any, .any, .any, .any, .any, .any, .any, .any, .any, .any, .any, .any], m := [] }) (Ent.to 0 ?_ ?_ ?_ ?_ ?_) ⟨0, by omega, by simp, by omega, rfl⟩ ?_
  · simp [fgt]
  · simp
  · simp
  · simp [bndT, bndV]
  · simp [bndM, ints_bnd, bndV]
  intro n s ⟨i, hi, hl, hn, hs⟩
  subst hs
  rw [hl]
  rcases Nat.lt_or_ge i xs.length with hlt | hge
  · have hk : xs[i]? = some xs[i] := List.getElem?_eq_getElem hlt
    have hw := succ64 (i := i) (by omega)
    have hd : bnd (xs.drop i) most = ((decide (0 ≤ xs[i]) && decide (xs[i] ≤ most)) && bnd (xs.drop (i + 1)) most) := all_drop hlt
    cases hx : (decide (0 ≤ xs[i]) && decide (xs[i] ≤ most))
    · have hd' : bnd (xs.drop i) most = false := by rw [hd, hx]; rfl
      rw [hd']
      repeat' first
        | refine VW.seq ?_
        | (refine VW.evalK (C := [(54, inF)]) ⟨ok54, trivial⟩ (by kernel_rfl) ?_; simp [hlt, hk, hw, hx])
        | (refine VW.evalDK (C := [(54, inF)]) ⟨ok54, trivial⟩ mixed (by kernel_rfl) ?_; simp [hlt, hk, hw, hx])
        | (refine VW.ret (VRet.fin ?_); simp [hlt, hk, hw, hx])
        | refine VW.condT rfl ?_
        | refine VW.condF rfl ?_
        | (refine VW.condB rfl (fun h => ?_) (fun h => ?_))
        | (refine VW.skip ?_; simp only [vthen, vblock])
        | refine VW.block ?_
        | (refine VW.exit ?_; simp only [vthen, vblock, if_true])
    · have hd' : bnd (xs.drop i) most = bnd (xs.drop (i + 1)) most := by rw [hd, hx]; rfl
      repeat' first
        | refine VW.seq ?_
        | (refine VW.evalK (C := [(54, inF)]) ⟨ok54, trivial⟩ (by kernel_rfl) ?_; simp [hlt, hk, hw, hx])
        | (refine VW.evalDK (C := [(54, inF)]) ⟨ok54, trivial⟩ mixed (by kernel_rfl) ?_; simp [hlt, hk, hw, hx])
        | (refine VW.ret (VRet.fin ?_); simp [hlt, hk, hw, hx])
        | refine VW.condT rfl ?_
        | refine VW.condF rfl ?_
        | (refine VW.condB rfl (fun h => ?_) (fun h => ?_))
        | (refine VW.skip ?_; simp only [vthen, vblock])
        | refine VW.block ?_
        | (refine VW.exit ?_; simp only [vthen, vblock, if_true])
      refine ⟨xs.length - (i + 1), { t := [.sl 1 (ints xs), .i .i64 most, .any, .any, .b false, .i .i64 (((i + 1) : Nat) : Int), .any, .any, .any, .any, .any, .any, .any, .any, .any, .any, .any, .any, .any], m := [] }, Ent.to 0 ?_ ?_ ?_ ?_ ?_, by omega, i + 1, by omega, by first | exact hl.trans hd' | exact hd', rfl, rfl⟩
      · simp [fgt]
      · simp
      · simp
      · simp [bndT, bndV]
      · simp [bndM, ints_bnd, bndV]
  · obtain rfl : i = xs.length := by omega
    repeat' first
      | refine VW.seq ?_
      | (refine VW.evalK (C := [(54, inF)]) ⟨ok54, trivial⟩ (by kernel_rfl) ?_; simp [bnd])
      | (refine VW.evalDK (C := [(54, inF)]) ⟨ok54, trivial⟩ mixed (by kernel_rfl) ?_; simp [bnd])
      | (refine VW.ret (VRet.fin ?_); simp [bnd])
      | refine VW.condT rfl ?_
      | refine VW.condF rfl ?_
      | (refine VW.condB rfl (fun h => ?_) (fun h => ?_))
      | (refine VW.skip ?_; simp only [vthen, vblock])
      | refine VW.block ?_
      | (refine VW.exit ?_; simp only [vthen, vblock, if_true])
set_option maxRecDepth 100000 in
set_option maxHeartbeats 4000000 in
/- loop.example/g01229/spec.l07Ok -/
theorem ok51 : Tells Try.prog 51 validP := by
  refine ⟨by kernel_rfl, fun args r h => ?_⟩
  unfold validP at h
  split at h
  rotate_left
  · cases h
  rename_i a b m y st f l
  split at h
  rotate_left
  · cases h
  rename_i hE
  cases h
  obtain ⟨ha, hb, la, lb⟩ := hE
  obtain ⟨need, rfl⟩ := ha.get
  obtain ⟨price, rfl⟩ := hb.get
  simp only [ints_length, dec_ints] at *
  refine VCalls.of Try.func51 rfl rfl rfl ?_
  simp only [List.reduceReplicate, List.cons_append, List.nil_append, List.length_cons, List.length_nil, Nat.reduceAdd, Nat.reduceSub]
  repeat' first
    | refine VW.seq ?_
    | (refine VW.evalK (C := [(54, inF), (66, bndF)]) ⟨ok54, ok66, trivial⟩ (by kernel_rfl) ?_; simp [la, lb])
    | (refine VW.evalDK (C := [(54, inF), (66, bndF)]) ⟨ok54, ok66, trivial⟩ mixed (by kernel_rfl) ?_; simp [la, lb])
    | (refine VW.ret (VRet.fin ?_); simp [la, lb])
    | refine VW.condT rfl ?_
    | refine VW.condF rfl ?_
    | (refine VW.condB rfl (fun h => ?_) (fun h => ?_))
    | (refine VW.skip ?_; simp only [vthen, vblock])
    | refine VW.block ?_
    | (refine VW.exit ?_; simp only [vthen, vblock, if_true])
  all_goals (simp [valid]; try grind)
set_option maxRecDepth 100000 in
set_option maxHeartbeats 4000000 in
/- loop.example/g01229/spec.ValidSeason -/
theorem ok16 : Tells Try.prog 16 validF := by
  refine ⟨by kernel_rfl, fun args r h => ?_⟩
  unfold validF at h
  split at h
  rotate_left
  · cases h
  rename_i a b m y st f l
  split at h
  rotate_left
  · cases h
  rename_i hE
  cases h
  obtain ⟨ha, hb, la, lb⟩ := hE
  obtain ⟨need, rfl⟩ := ha.get
  obtain ⟨price, rfl⟩ := hb.get
  simp only [ints_length, dec_ints] at *
  refine VCalls.of Try.func16 rfl rfl rfl ?_
  simp only [List.reduceReplicate, List.cons_append, List.nil_append, List.length_cons, List.length_nil, Nat.reduceAdd, Nat.reduceSub]
  repeat' first
    | refine VW.seq ?_
    | (refine VW.evalK (C := [(51, validP)]) ⟨ok51, trivial⟩ (by kernel_rfl) ?_; simp [la, lb])
    | (refine VW.evalDK (C := [(51, validP)]) ⟨ok51, trivial⟩ mixed (by kernel_rfl) ?_; simp [la, lb])
    | (refine VW.ret (VRet.fin ?_); simp [la, lb])
    | refine VW.condT rfl ?_
    | refine VW.condF rfl ?_
    | (refine VW.condB rfl (fun h => ?_) (fun h => ?_))
    | (refine VW.skip ?_; simp only [vthen, vblock])
    | refine VW.block ?_
    | (refine VW.exit ?_; simp only [vthen, vblock, if_true])
end Go.Proofs.Yteggncgiflgopaa
