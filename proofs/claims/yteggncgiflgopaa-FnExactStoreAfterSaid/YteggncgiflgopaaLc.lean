/- The law FnExactStoreAfter holds for every input: the program's function returns what the reference's returns. No conditions. -/
import Derived.Test.YteggncgiflgopaaBd
import Derived.Test.YteggncgiflgopaaRows
import Derived.ProofKit
namespace Go.Proofs.Yteggncgiflgopaa
open Go.ChangeShapes Go.WideShapes Go.ChangeAt Go.RowKit Go.VL
set_option linter.unusedVariables false
set_option linter.unusedSimpArgs false

theorem own : ownKnob Try.prog.godebug = none := by kernel_rfl
theorem laidOut : laidOutB Try.prog = true := by kernel_rfl
theorem shp_2 : shp Try.prog 12 2 = some (.int .i64) := by kernel_rfl
theorem shp_24 : shp Try.prog 12 24 = some (.seq (.slice 1 (.int .i64)) (.seq (.slice 1 (.int .i64)) (.seq (.int .i64) (.seq (.int .i64) (.seq (.int .i64) (.seq (.int .i64) (.seq (.int .i64) (.unit)))))))) := by kernel_rfl
set_option maxRecDepth 100000 in
set_option maxHeartbeats 4000000 in
theorem FnExactStoreAfter_walk (xs : List V) (h : OkAll Try.prog [24, 2, 2, 2] xs) : VCalls Try.prog 5 xs (fun r => r = .b true) := by
  obtain ⟨y0, ys0, rfl, h0, k0⟩ := h.cons_inv
  obtain ⟨y1, ys1, rfl, h1, k1⟩ := k0.cons_inv
  obtain ⟨y2, ys2, rfl, h2, k2⟩ := k1.cons_inv
  obtain ⟨y3, ys3, rfl, h3, k3⟩ := k2.cons_inv
  obtain rfl := k3.nil_inv
  obtain ⟨sh0, s0, h0⟩ := h0
  rw [shp_24] at s0
  cases s0
  rw [ag_24] at h0
  obtain ⟨_, rfl, _, _, rfl, ⟨s_0, rfl, hls_0, hns_0, hes_0⟩, ⟨_, _, rfl, ⟨s_1, rfl, hls_1, hns_1, hes_1⟩, ⟨_, _, rfl, ⟨s_2, rfl, hs_2⟩, ⟨_, _, rfl, ⟨s_3, rfl, hs_3⟩, ⟨_, _, rfl, ⟨s_4, rfl, hs_4⟩, ⟨_, _, rfl, ⟨s_5, rfl, hs_5⟩, ⟨_, _, rfl, ⟨s_6, rfl, hs_6⟩, rfl⟩⟩⟩⟩⟩⟩⟩ := h0
  obtain ⟨sh1, s1, h1⟩ := h1
  rw [shp_2] at s1
  cases s1
  rw [ag_2] at h1
  obtain ⟨slot, q1, hslot⟩ := h1
  cases q1
  obtain ⟨sh2, s2, h2⟩ := h2
  rw [shp_2] at s2
  cases s2
  rw [ag_2] at h2
  obtain ⟨store, q2, hstore⟩ := h2
  cases q2
  obtain ⟨sh3, s3, h3⟩ := h3
  rw [shp_2] at s3
  cases s3
  rw [ag_2] at h3
  obtain ⟨logs, q3, hlogs⟩ := h3
  cases q3
  refine VCalls.of Try.func5 rfl rfl rfl ?_
  simp only [List.reduceReplicate, List.cons_append, List.nil_append, List.length_cons, List.length_nil, Nat.reduceAdd, Nat.reduceSub]
  obtain ⟨need, rfl, hwn⟩ := ints_of hes_0
  obtain ⟨price, rfl, hwp⟩ := ints_of hes_1
  simp only [ints_length] at *
  rcases Int.lt_or_le 1048576 ((need.length : Int) + price.length) with hbig | hsmall
  · have hb1 : ¬ ((need.length : Int) + price.length ≤ 1048576) := by omega
    repeat' first
      | refine VW.seq ?_
      | (refine VW.evalK (C := [(15, szS), (17, toS), (19, eqS), (22, storeF), (23, storeF)]) ⟨ok15, ok17, ok19, ok22, ok23, trivial⟩ (by kernel_rfl) ?_; simp [hls_0, hls_1, hb1])
      | (refine VW.evalDK (C := [(15, szS), (17, toS), (19, eqS), (22, storeF), (23, storeF)]) ⟨ok15, ok17, ok19, ok22, ok23, trivial⟩ mixed (by kernel_rfl) ?_; simp [hls_0, hls_1, hb1])
      | (refine VW.ret (VRet.fin ?_); simp [hls_0, hls_1, hb1])
      | refine VW.condT rfl ?_
      | refine VW.condF rfl ?_
      | (refine VW.condB rfl (fun h => ?_) (fun h => ?_))
      | (refine VW.skip ?_; simp only [vthen, vblock])
      | refine VW.block ?_
      | (refine VW.exit ?_; simp only [vthen, vblock, if_true])
  have la : need.length ≤ 1048576 := by omega
  have lb : price.length ≤ 1048576 := by omega
  have hpos : ¬ (1048576 - (need.length : Int) - (price.length : Int) < 0) := by omega
  repeat' first
    | refine VW.seq ?_
    | (refine VW.evalK (C := [(15, szS), (17, toS), (19, eqS), (22, storeF), (23, storeF)]) ⟨ok15, ok17, ok19, ok22, ok23, trivial⟩ (by kernel_rfl) ?_; simp [hls_0, hls_1, la, lb, hsmall, hpos])
    | (refine VW.evalDK (C := [(15, szS), (17, toS), (19, eqS), (22, storeF), (23, storeF)]) ⟨ok15, ok17, ok19, ok22, ok23, trivial⟩ mixed (by kernel_rfl) ?_; simp [hls_0, hls_1, la, lb, hsmall, hpos])
    | (refine VW.ret (VRet.fin ?_); simp [hls_0, hls_1, la, lb, hsmall, hpos])
    | refine VW.condT rfl ?_
    | refine VW.condF rfl ?_
    | (refine VW.condB rfl (fun h => ?_) (fun h => ?_))
    | (refine VW.skip ?_; simp only [vthen, vblock])
    | refine VW.block ?_
    | (refine VW.exit ?_; simp only [vthen, vblock, if_true])

set_option maxRecDepth 100000 in
theorem FnExactStoreAfter_lifted (os : Os) (started : os.Started) (H : Type) (enc : TypeId × Value → H) :
    ReturnsInHanded {} Try.checked os 5 .any (Rows.fnExactStoreAfterSpec.pre6 enc Try.prog Try.f5 Rows.fnExactStoreAfterRow.domain false) (Rows.fnExactStoreAfterSpec.post enc Try.prog Try.f5 false true false false) := by
  refine returnsInHanded_of_change (C := Try.checked) own started (by kernel_rfl) Try.func5
    (ChangeSpec.witness6 (enc := enc) (C := Try.checked) false ⟨#[], #[.agg #[.slice none 0 0, .slice none 0 0, .int .i64 0, .int .i64 0, .int .i64 0, .int .i64 0, .int .i64 0], .int .i64 0, .int .i64 0, .int .i64 0], []⟩ 8 (by kernel_rfl) (by kernel_rfl) (by kernel_rfl) (by kernel_rfl)) ?_
  intro W base args ds gs before hval0 hW hcnd _
  have hval : ∀ (j : Nat) t v, Try.f5.params[j]? = some t → args[j]? = some v → Value.okWide Try.prog W .any base t v := hval0
  have hW' := hW
  obtain ⟨p, q, hA0, hV, rfl, hfz, hnd⟩ := hW
  have hA : DataW.TrodAll enc Try.prog W 0 (fun _ => true) true Try.f5.params.toList args.toList ds p := hA0
  rw [Try.params5] at hA hval
  obtain ⟨xs, hS, hOk⟩ := args_S (by kernel_rfl) (fun j t v a b => hval j t v (by simpa using a) (by simpa using b)) hA
  obtain ⟨rfl, rfl⟩ := trodVars_none hV
  have hlen : ds.length = 4 := by
    obtain ⟨v0, vs0, d0, ds0, p0, q0, _, hds, _, _, r0⟩ := trodAll_cons hA
    obtain ⟨v1, vs1, d1, ds1, p1, q1, _, rfl, _, _, r1⟩ := trodAll_cons r0
    obtain ⟨v2, vs2, d2, ds2, p2, q2, _, rfl, _, _, r2⟩ := trodAll_cons r1
    obtain ⟨v3, vs3, d3, ds3, p3, q3, _, rfl, _, _, r3⟩ := trodAll_cons r2
    obtain ⟨_, rfl, _⟩ := trodAll_nil r3
    rw [hds]; rfl
  refine ((FnExactStoreAfter_walk xs hOk).law hS).mono fun e W' ⟨he, bel⟩ => ?_
  subst he
  have hB := args_behind laidOut bel (by kernel_rfl) hA
  have hds : ∃ d0 d1 d2 d3, ds = [d0, d1, d2, d3] := by
    match ds, hlen with
    | [d0, d1, d2, d3], _ => exact ⟨d0, d1, d2, d3, rfl⟩
  obtain ⟨d0, d1, d2, d3, rfl⟩ := hds
  exact ⟨_, rfl, _, _, _, [], _, [], hW', trodAll_mk1 (shut_bool Try.underlying4 _), hB, rfl, bel.frame _, fun h => by cases h⟩

theorem FnExactStoreAfter_proved : Rows.FnExactStoreAfterSaid :=
  OpenClaim.holds_of_wide 5 Try.f5 rfl rfl rfl rfl rfl rfl rfl ⟨rfl, rfl, rfl, rfl, rfl⟩ rfl rfl rfl rfl rfl (by kernel_rfl) Try.func5 (by kernel_rfl)
    (of_decide_eq_true (by kernel_rfl)) (by unfold Func.isWrapper; first | (rw [if_pos (by decide +kernel)]; kernel_rfl) | (rw [if_neg (by decide +kernel)]; exact ⟨rfl, rfl⟩))
    (fun os started H enc _ => FnExactStoreAfter_lifted os started H enc)

end Go.Proofs.Yteggncgiflgopaa
