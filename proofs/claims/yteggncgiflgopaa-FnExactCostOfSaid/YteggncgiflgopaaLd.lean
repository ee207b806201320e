/- The law FnExactCostOf holds for every input: the program's function returns what the reference's returns. No conditions. -/
import Derived.Test.YteggncgiflgopaaBf
import Derived.Test.YteggncgiflgopaaRows
import Derived.ProofKit
namespace Go.Proofs.Yteggncgiflgopaa
open Go.ChangeShapes Go.WideShapes Go.ChangeAt Go.RowKit Go.VL
set_option linter.unusedVariables false
set_option linter.unusedSimpArgs false

theorem own : ownKnob Try.prog.godebug = none := by kernel_rfl
theorem laidOut : laidOutB Try.prog = true := by kernel_rfl
theorem shp_22 : shp Try.prog 12 22 = some (.slice 1 (.int .i64)) := by kernel_rfl
theorem shp_24 : shp Try.prog 12 24 = some (.seq (.slice 1 (.int .i64)) (.seq (.slice 1 (.int .i64)) (.seq (.int .i64) (.seq (.int .i64) (.seq (.int .i64) (.seq (.int .i64) (.seq (.int .i64) (.unit)))))))) := by kernel_rfl
set_option maxRecDepth 100000 in
set_option maxHeartbeats 4000000 in
theorem FnExactCostOf_walk (xs : List V) (h : OkAll Try.prog [24, 22] xs) : VCalls Try.prog 6 xs (fun r => r = .b true) := by
  obtain ⟨y0, ys0, rfl, h0, k0⟩ := h.cons_inv
  obtain ⟨y1, ys1, rfl, h1, k1⟩ := k0.cons_inv
  obtain rfl := k1.nil_inv
  obtain ⟨sh0, s0, h0⟩ := h0
  rw [shp_24] at s0
  cases s0
  rw [ag_24] at h0
  obtain ⟨_, rfl, _, _, rfl, ⟨s_0, rfl, hls_0, hns_0, hes_0⟩, ⟨_, _, rfl, ⟨s_1, rfl, hls_1, hns_1, hes_1⟩, ⟨_, _, rfl, ⟨s_2, rfl, hs_2⟩, ⟨_, _, rfl, ⟨s_3, rfl, hs_3⟩, ⟨_, _, rfl, ⟨s_4, rfl, hs_4⟩, ⟨_, _, rfl, ⟨s_5, rfl, hs_5⟩, ⟨_, _, rfl, ⟨s_6, rfl, hs_6⟩, rfl⟩⟩⟩⟩⟩⟩⟩ := h0
  obtain ⟨sh1, s1, h1⟩ := h1
  rw [shp_22] at s1
  cases s1
  rw [ag_22] at h1
  obtain ⟨p, q1, hlp, hnp, hep⟩ := h1
  cases q1
  refine VCalls.of Try.func6 rfl rfl rfl ?_
  simp only [List.reduceReplicate, List.cons_append, List.nil_append, List.length_cons, List.length_nil, Nat.reduceAdd, Nat.reduceSub]
  obtain ⟨need, rfl, hwn⟩ := ints_of hes_0
  obtain ⟨price, rfl, hwp⟩ := ints_of hes_1
  obtain ⟨plan, rfl, hwpl⟩ := ints_of hep
  simp only [ints_length] at *
  rcases Int.lt_or_le 1048576 (plan.length : Int) with hbigp | hlp0
  · repeat' first
      | refine VW.seq ?_
      | (refine VW.evalK (C := [(15, szS), (17, toS), (19, eqS), (24, costF), (25, toI), (26, costF), (27, eqI)]) ⟨ok15, ok17, ok19, ok24, ok25, ok26, ok27, trivial⟩ (by kernel_rfl) ?_; simp [hbigp])
      | (refine VW.evalDK (C := [(15, szS), (17, toS), (19, eqS), (24, costF), (25, toI), (26, costF), (27, eqI)]) ⟨ok15, ok17, ok19, ok24, ok25, ok26, ok27, trivial⟩ mixed (by kernel_rfl) ?_; simp [hbigp])
      | (refine VW.ret (VRet.fin ?_); simp [hbigp])
      | refine VW.condT rfl ?_
      | refine VW.condF rfl ?_
      | (refine VW.condB rfl (fun h => ?_) (fun h => ?_))
      | (refine VW.skip ?_; simp only [vthen, vblock])
      | refine VW.block ?_
      | (refine VW.exit ?_; simp only [vthen, vblock, if_true])
  have hlp' : ¬ ((1048576 : Int) < (plan.length : Int)) := by omega
  have lp : plan.length ≤ 1048576 := by omega
  rcases Int.lt_or_le 1048576 ((need.length : Int) + price.length) with hbig | hsmall
  · have hb1 : ¬ ((need.length : Int) + price.length ≤ 1048576) := by omega
    repeat' first
      | refine VW.seq ?_
      | (refine VW.evalK (C := [(15, szS), (17, toS), (19, eqS), (24, costF), (25, toI), (26, costF), (27, eqI)]) ⟨ok15, ok17, ok19, ok24, ok25, ok26, ok27, trivial⟩ (by kernel_rfl) ?_; simp [hls_0, hls_1, hb1, hlp'])
      | (refine VW.evalDK (C := [(15, szS), (17, toS), (19, eqS), (24, costF), (25, toI), (26, costF), (27, eqI)]) ⟨ok15, ok17, ok19, ok24, ok25, ok26, ok27, trivial⟩ mixed (by kernel_rfl) ?_; simp [hls_0, hls_1, hb1, hlp'])
      | (refine VW.ret (VRet.fin ?_); simp [hls_0, hls_1, hb1, hlp'])
      | refine VW.condT rfl ?_
      | refine VW.condF rfl ?_
      | (refine VW.condB rfl (fun h => ?_) (fun h => ?_))
      | (refine VW.skip ?_; simp only [vthen, vblock])
      | refine VW.block ?_
      | (refine VW.exit ?_; simp only [vthen, vblock, if_true])
  have la : need.length ≤ 1048576 := by omega
  have lb : price.length ≤ 1048576 := by omega
  have hpos : ¬ (1048576 - (need.length : Int) - (price.length : Int) < 0) := by omega
  repeat' first
    | refine VW.seq ?_
    | (refine VW.evalK (C := [(15, szS), (17, toS), (19, eqS), (24, costF), (25, toI), (26, costF), (27, eqI)]) ⟨ok15, ok17, ok19, ok24, ok25, ok26, ok27, trivial⟩ (by kernel_rfl) ?_; simp [hls_0, hls_1, la, lb, lp, hlp', hsmall, hpos])
    | (refine VW.evalDK (C := [(15, szS), (17, toS), (19, eqS), (24, costF), (25, toI), (26, costF), (27, eqI)]) ⟨ok15, ok17, ok19, ok24, ok25, ok26, ok27, trivial⟩ mixed (by kernel_rfl) ?_; simp [hls_0, hls_1, la, lb, lp, hlp', hsmall, hpos])
    | (refine VW.ret (VRet.fin ?_); simp [hls_0, hls_1, la, lb, lp, hlp', hsmall, hpos])
    | refine VW.condT rfl ?_
    | refine VW.condF rfl ?_
    | (refine VW.condB rfl (fun h => ?_) (fun h => ?_))
    | (refine VW.skip ?_; simp only [vthen, vblock])
    | refine VW.block ?_
    | (refine VW.exit ?_; simp only [vthen, vblock, if_true])

set_option maxRecDepth 100000 in
theorem FnExactCostOf_lifted (os : Os) (started : os.Started) (H : Type) (enc : TypeId × Value → H) :
    ReturnsInHanded {} Try.checked os 6 .any (Rows.fnExactCostOfSpec.pre6 enc Try.prog Try.f6 Rows.fnExactCostOfRow.domain false) (Rows.fnExactCostOfSpec.post enc Try.prog Try.f6 false true false false) := by
  refine returnsInHanded_of_change (C := Try.checked) own started (by kernel_rfl) Try.func6
    (ChangeSpec.witness6 (enc := enc) (C := Try.checked) false ⟨#[], #[.agg #[.slice none 0 0, .slice none 0 0, .int .i64 0, .int .i64 0, .int .i64 0, .int .i64 0, .int .i64 0], .slice none 0 0], []⟩ 8 (by kernel_rfl) (by kernel_rfl) (by kernel_rfl) (by kernel_rfl)) ?_
  intro W base args ds gs before hval0 hW hcnd _
  have hval : ∀ (j : Nat) t v, Try.f6.params[j]? = some t → args[j]? = some v → Value.okWide Try.prog W .any base t v := hval0
  have hW' := hW
  obtain ⟨p, q, hA0, hV, rfl, hfz, hnd⟩ := hW
  have hA : DataW.TrodAll enc Try.prog W 0 (fun _ => true) true Try.f6.params.toList args.toList ds p := hA0
  rw [Try.params6] at hA hval
  obtain ⟨xs, hS, hOk⟩ := args_S (by kernel_rfl) (fun j t v a b => hval j t v (by simpa using a) (by simpa using b)) hA
  obtain ⟨rfl, rfl⟩ := trodVars_none hV
  have hlen : ds.length = 2 := by
    obtain ⟨v0, vs0, d0, ds0, p0, q0, _, hds, _, _, r0⟩ := trodAll_cons hA
    obtain ⟨v1, vs1, d1, ds1, p1, q1, _, rfl, _, _, r1⟩ := trodAll_cons r0
    obtain ⟨_, rfl, _⟩ := trodAll_nil r1
    rw [hds]; rfl
  refine ((FnExactCostOf_walk xs hOk).law hS).mono fun e W' ⟨he, bel⟩ => ?_
  subst he
  have hB := args_behind laidOut bel (by kernel_rfl) hA
  have hds : ∃ d0 d1, ds = [d0, d1] := by
    match ds, hlen with
    | [d0, d1], _ => exact ⟨d0, d1, rfl⟩
  obtain ⟨d0, d1, rfl⟩ := hds
  exact ⟨_, rfl, _, _, _, [], _, [], hW', trodAll_mk1 (shut_bool Try.underlying4 _), hB, rfl, bel.frame _, fun h => by cases h⟩

theorem FnExactCostOf_proved : Rows.FnExactCostOfSaid :=
  OpenClaim.holds_of_wide 6 Try.f6 rfl rfl rfl rfl rfl rfl rfl ⟨rfl, rfl, rfl, rfl, rfl⟩ rfl rfl rfl rfl rfl (by kernel_rfl) Try.func6 (by kernel_rfl)
    (of_decide_eq_true (by kernel_rfl)) (by unfold Func.isWrapper; first | (rw [if_pos (by decide +kernel)]; kernel_rfl) | (rw [if_neg (by decide +kernel)]; exact ⟨rfl, rfl⟩))
    (fun os started H enc _ => FnExactCostOf_lifted os started H enc)

end Go.Proofs.Yteggncgiflgopaa
