/- The law FnExactLastMark holds for every input: the program's function returns what the reference's returns. No conditions. -/
import Derived.Test.YtfklolheleffpaaAd
import Derived.Test.YtfklolheleffpaaRows
import Derived.ProofKit
namespace Go.Proofs.Ytfklolheleffpaa
open Go.ChangeShapes Go.WideShapes Go.ChangeAt Go.RowKit Go.VL
set_option linter.unusedVariables false
set_option linter.unusedSimpArgs false

theorem shp_36 : shp Try.prog 12 36 = some (.slice 5 (.seq (.bool) (.seq (.int .u32) (.seq (.seq (.int .i64) (.seq (.int .i64) (.seq (.int .i64) (.unit)))) (.unit))))) := by kernel_rfl
set_option maxRecDepth 100000 in
theorem FnExactLastMark_walk (xs : List V) (h : OkAll Try.prog [36] xs) : VCalls Try.prog 6 xs (fun r => r = .b true) := by
  obtain ⟨y0, ys0, rfl, h0, k0⟩ := h.cons_inv
  obtain rfl := k0.nil_inv
  obtain ⟨sh0, s0, h0⟩ := h0
  rw [shp_36] at s0
  cases s0
  rw [ag_36] at h0
  obtain ⟨es, q0, hles, hnes, hees⟩ := h0
  cases q0
  refine VCalls.of Try.func6 rfl rfl rfl ?_
  simp only [List.reduceReplicate, List.cons_append, List.nil_append, List.length_cons, List.length_nil, Nat.reduceAdd, Nat.reduceSub]
  have hen : ∀ x ∈ es, isEntry x := fun x hx => by
    obtain ⟨_, _, rfl, ⟨m, rfl⟩, _, _, rfl, ⟨c, rfl, _⟩, _, _, rfl, ⟨_, _, rfl, ⟨a, rfl, _⟩, _, _, rfl, ⟨b, rfl, _⟩, _, _, rfl, ⟨d, rfl, _⟩, rfl⟩, rfl⟩ := hees x hx
    exact ⟨m, c, a, b, d, rfl⟩
  rcases Nat.lt_or_ge 1048576 es.length with hbig | hsmall
  · have hb1 : ¬ es.length ≤ 1048576 := by omega
    repeat' first
      | refine VW.seq ?_
      | (refine VW.evalK (C := [(15, szF), (16, lastF), (17, toEntrySF), (18, lastF), (19, eqEntrySF)]) ⟨ok15, ok16, ok17, ok18, ok19, trivial⟩ (by kernel_rfl) ?_; simp [hles, hb1])
      | (refine VW.evalDK (C := [(15, szF), (16, lastF), (17, toEntrySF), (18, lastF), (19, eqEntrySF)]) ⟨ok15, ok16, ok17, ok18, ok19, trivial⟩ mixed (by kernel_rfl) ?_; simp [hles, hb1])
      | (refine VW.ret (VRet.fin ?_); simp [hles, hb1])
      | refine VW.condT rfl ?_
      | refine VW.condF rfl ?_
      | (refine VW.condB rfl (fun h => ?_) (fun h => ?_))
      | (refine VW.skip ?_; simp only [vthen, vblock])
      | refine VW.block ?_
      | (refine VW.exit ?_; simp only [vthen, vblock, if_true])
  have hE : Entries es := ⟨hsmall, hen⟩
  have hp := hE.plain
  have hfr := frzE_same hp
  have hsn := plainE_snap hp
  have hpos : ¬ (1048576 - (es.length : Int) < 0) := by omega
  repeat' first
    | refine VW.seq ?_
    | (refine VW.evalK (C := [(15, szF), (16, lastF), (17, toEntrySF), (18, lastF), (19, eqEntrySF)]) ⟨ok15, ok16, ok17, ok18, ok19, trivial⟩ (by kernel_rfl) ?_; simp [hles, hsmall, hpos, hE, hp, hfr, hsn])
    | (refine VW.evalDK (C := [(15, szF), (16, lastF), (17, toEntrySF), (18, lastF), (19, eqEntrySF)]) ⟨ok15, ok16, ok17, ok18, ok19, trivial⟩ mixed (by kernel_rfl) ?_; simp [hles, hsmall, hpos, hE, hp, hfr, hsn])
    | (refine VW.ret (VRet.fin ?_); simp [hles, hsmall, hpos, hE, hp, hfr, hsn])
    | refine VW.condT rfl ?_
    | refine VW.condF rfl ?_
    | (refine VW.condB rfl (fun h => ?_) (fun h => ?_))
    | (refine VW.skip ?_; simp only [vthen, vblock])
    | refine VW.block ?_
    | (refine VW.exit ?_; simp only [vthen, vblock, if_true])

set_option maxRecDepth 100000 in
theorem FnExactLastMark_lifted (os : Os) (started : os.Started) (H : Type) (enc : TypeId × Value → H) :
    ReturnsInHanded {} Try.checked os 6 .any (Rows.fnExactLastMarkSpec.pre6 enc Try.prog Try.f6 Rows.fnExactLastMarkRow.domain false) (Rows.fnExactLastMarkSpec.post enc Try.prog Try.f6 false true false false) := by
  refine returnsInHanded_of_change (C := Try.checked) own started (by kernel_rfl) Try.func6
    (ChangeSpec.witness6 (enc := enc) (C := Try.checked) false ⟨#[], #[.slice none 0 0], []⟩ 8 (by kernel_rfl) (by kernel_rfl) (by kernel_rfl) (by kernel_rfl)) ?_
  intro W base args ds gs before hval0 hW hcnd _
  have hval : ∀ (j : Nat) t v, Try.f6.params[j]? = some t → args[j]? = some v → Value.okWide Try.prog W .any base t v := hval0
  have hW' := hW
  obtain ⟨p, q, hA0, hV, rfl, hfz, hnd⟩ := hW
  have hA : DataW.TrodAll enc Try.prog W 0 (fun _ => true) true Try.f6.params.toList args.toList ds p := hA0
  rw [Try.params6] at hA hval
  obtain ⟨xs, hS, hOk⟩ := args_S (by kernel_rfl) (fun j t v a b => hval j t v (by simpa using a) (by simpa using b)) hA
  obtain ⟨rfl, rfl⟩ := trodVars_none hV
  have hlen : ds.length = 1 := by
    obtain ⟨v0, vs0, d0, ds0, p0, q0, _, hds, _, _, r0⟩ := trodAll_cons hA
    obtain ⟨_, rfl, _⟩ := trodAll_nil r0
    rw [hds]; rfl
  refine ((FnExactLastMark_walk xs hOk).law hS).mono fun e W' ⟨he, bel⟩ => ?_
  subst he
  have hB := args_behind laidOut bel (by kernel_rfl) hA
  have hds : ∃ d0, ds = [d0] := by
    match ds, hlen with
    | [d0], _ => exact ⟨d0, rfl⟩
  obtain ⟨d0, rfl⟩ := hds
  exact ⟨_, rfl, _, _, _, [], _, [], hW', trodAll_mk1 (shut_bool Try.underlying4 _), hB, rfl, bel.frame _, fun h => by cases h⟩

theorem FnExactLastMark_proved : Rows.FnExactLastMarkSaid :=
  OpenClaim.holds_of_wide 6 Try.f6 rfl rfl rfl rfl rfl rfl rfl ⟨rfl, rfl, rfl, rfl, rfl⟩ rfl rfl rfl rfl rfl (by kernel_rfl) Try.func6 (by kernel_rfl)
    (of_decide_eq_true (by kernel_rfl)) (by unfold Func.isWrapper; first | (rw [if_pos (by decide +kernel)]; kernel_rfl) | (rw [if_neg (by decide +kernel)]; exact ⟨rfl, rfl⟩))
    (fun os started H enc _ => FnExactLastMark_lifted os started H enc)

end Go.Proofs.Ytfklolheleffpaa
