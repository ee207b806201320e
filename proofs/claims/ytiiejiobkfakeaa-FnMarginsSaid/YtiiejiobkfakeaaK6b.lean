/- Contracts of the functions that the law reaches: what each tells, as a function in Lean. -/
import Derived.Test.YtiiejiobkfakeaaK6a
import Derived.KernelRfl
namespace Go.Proofs.Ytiiejiobkfakeaa
open Go.RowKit Go.VL
set_option linter.unusedSimpArgs false
set_option linter.unusedVariables false
set_option maxHeartbeats 1000000
noncomputable def g39 (s : T30) : Option (Bool) :=
  (g51 (s.need_.length : Int) 1 24).bind fun r1 =>
  (if (r1 && eqI (s.price_.length : Int) (s.need_.length : Int)) = true then (g57 s.need_ 200).bind fun r3 => some r3 else some false).bind fun w5 =>
  (if w5 = true then (g57 s.price_ 1000).bind fun r6 => some r6 else some false).bind fun w8 =>
  (if w8 = true then (g51 s.most_ 0 20).bind fun r9 => some r9 else some false).bind fun w11 =>
  (if w11 = true then (g51 s.yield_ 1 40).bind fun r12 => some r12 else some false).bind fun w14 =>
  (if w14 = true then (g51 s.store_ 0 60).bind fun r15 => some r15 else some false).bind fun w17 =>
  (if w17 = true then (g51 s.first_ 0 s.store_).bind fun r18 => some r18 else some false).bind fun w20 =>
  (if w20 = true then (g51 s.loss_ 0 100).bind fun r21 => some r21 else some false).bind fun w23 =>
  some w23
def eA39 (a : T30) : List V := [.cptr (pT30 a) 0]
def eB39 (r : Bool) : V := .b r
theorem inj39 (a a' : T30) (h : eA39 a = eA39 a') : a = a' := by
  obtain ⟨i115, i116, i117, i118, i119, i120, i121⟩ := a
  obtain ⟨i122, i123, i124, i125, i126, i127, i128⟩ := a'
  simp only [eA39, pT30, List.cons.injEq, V.i.injEq, V.b.injEq, V.f.injEq, V.str.injEq, V.sl.injEq, V.agg.injEq, V.cptr.injEq, true_and, and_true] at h
  simp_all [ri ci_i64_inj]
noncomputable def F39 : List V → Option V := tells (fun a => g39 a) eA39 eB39
set_option maxRecDepth 100000 in
set_option maxHeartbeats 4000000 in
/- loop.example/g01229/spec.l07Ok -/
theorem ok39 : Tells Try.prog 39 F39 := by
  refine Tells.of (by kernel_rfl) ?_
  rintro s r h
  refine VCalls.nl (VCalls.of Try.func39 rfl rfl rfl ?_)
  rw [tm_init]
  simp only [eA39, en, List.length_cons, List.length_nil, Nat.reduceAdd, Nat.reduceSub]
  replace h : (g39 s).bind some = some r := bindS h
  rw [g39] at h
  refine VW.seq ?_
  refine VW.evalA (C := [(51, F51), (57, F57)]) (tm 75 [(0, .cptr (pT30 s) 0)]) [] [] ⟨.inl ok51, .inl ok57, trivial⟩ (by kernel_rfl) (by first | (simp -implicitDefEqProofs; done) | simp -implicitDefEqProofs [pT30]) ?_
  refine VW.seq ?_
  obtain ⟨r1, q2, h⟩ := bindE h
  have c2 : F51 [.i .i64 (s.need_.length : Int), .i .i64 1, .i .i64 24] = some (.b r1) := tells_eq inj51 (a := ((s.need_.length : Int), 1, 24)) q2
  obtain ⟨w5, q24, h⟩ := bindE h
  obtain ⟨w8, q25, h⟩ := bindE h
  obtain ⟨w11, q26, h⟩ := bindE h
  obtain ⟨w14, q27, h⟩ := bindE h
  obtain ⟨w17, q28, h⟩ := bindE h
  obtain ⟨w20, q29, h⟩ := bindE h
  obtain ⟨w23, q30, h⟩ := bindE h
  refine VW.evalDA (C := [(51, F51), (57, F57)]) (tm 75 [(2, .b w23)]) [] [] ⟨.inl ok51, .inl ok57, trivial⟩ mixed (by kernel_rfl) (by
      rcases Bool.eq_false_or_eq_true (r1 && eqI (s.price_.length : Int) (s.need_.length : Int)) with q31 | q31
      · first
        | (simp at q31; done)
        | (rw [if_pos q31] at q24
           obtain ⟨r3, q4, q24⟩ := bindQ q24
           have c4 : F57 [.sl 1 (rows ci_i64 s.need_), .i .i64 200] = some (.b r3) := tells_eq inj57 (a := (s.need_, 200)) q4
           have d32 : w5 = _ := (Option.some.inj q24).symm
           rcases Bool.eq_false_or_eq_true w5 with q33 | q33
           · first
             | (simp [d32] at q33; done)
             | (rw [if_pos q33] at q25
                try simp only [d32] at q33
                obtain ⟨r6, q7, q25⟩ := bindQ q25
                have c7 : F57 [.sl 1 (rows ci_i64 s.price_), .i .i64 1000] = some (.b r6) := tells_eq inj57 (a := (s.price_, 1000)) q7
                have d34 : w8 = _ := (Option.some.inj q25).symm
                rcases Bool.eq_false_or_eq_true w8 with q35 | q35
                · first
                  | (simp [d32, d34] at q35; done)
                  | (rw [if_pos q35] at q26
                     try simp only [d32, d34] at q35
                     obtain ⟨r9, q10, q26⟩ := bindQ q26
                     have c10 : F51 [.i .i64 s.most_, .i .i64 0, .i .i64 20] = some (.b r9) := tells_eq inj51 (a := (s.most_, 0, 20)) q10
                     have d36 : w11 = _ := (Option.some.inj q26).symm
                     rcases Bool.eq_false_or_eq_true w11 with q37 | q37
                     · first
                       | (simp [d32, d34, d36] at q37; done)
                       | (rw [if_pos q37] at q27
                          try simp only [d32, d34, d36] at q37
                          obtain ⟨r12, q13, q27⟩ := bindQ q27
                          have c13 : F51 [.i .i64 s.yield_, .i .i64 1, .i .i64 40] = some (.b r12) := tells_eq inj51 (a := (s.yield_, 1, 40)) q13
                          have d38 : w14 = _ := (Option.some.inj q27).symm
                          rcases Bool.eq_false_or_eq_true w14 with q39 | q39
                          · first
                            | (simp [d32, d34, d36, d38] at q39; done)
                            | (rw [if_pos q39] at q28
                               try simp only [d32, d34, d36, d38] at q39
                               obtain ⟨r15, q16, q28⟩ := bindQ q28
                               have c16 : F51 [.i .i64 s.store_, .i .i64 0, .i .i64 60] = some (.b r15) := tells_eq inj51 (a := (s.store_, 0, 60)) q16
                               have d40 : w17 = _ := (Option.some.inj q28).symm
                               rcases Bool.eq_false_or_eq_true w17 with q41 | q41
                               · first
                                 | (simp [d32, d34, d36, d38, d40] at q41; done)
                                 | (rw [if_pos q41] at q29
                                    try simp only [d32, d34, d36, d38, d40] at q41
                                    obtain ⟨r18, q19, q29⟩ := bindQ q29
                                    have c19 : F51 [.i .i64 s.first_, .i .i64 0, .i .i64 s.store_] = some (.b r18) := tells_eq inj51 (a := (s.first_, 0, s.store_)) q19
                                    have d42 : w20 = _ := (Option.some.inj q29).symm
                                    rcases Bool.eq_false_or_eq_true w20 with q43 | q43
                                    · first
                                      | (simp [d32, d34, d36, d38, d40, d42] at q43; done)
                                      | (rw [if_pos q43] at q30
                                         try simp only [d32, d34, d36, d38, d40, d42] at q43
                                         obtain ⟨r21, q22, q30⟩ := bindQ q30
                                         have c22 : F51 [.i .i64 s.loss_, .i .i64 0, .i .i64 100] = some (.b r21) := tells_eq inj51 (a := (s.loss_, 0, 100)) q22
                                         have d44 : w23 = _ := (Option.some.inj q30).symm
                                         first | (simp -implicitDefEqProofs [c2, q31, c4, d32, q33, c7, d34, q35, c10, d36, q37, c13, d38, q39, c16, d40, q41, c19, d42, q43, c22, d44]; done) | simp -implicitDefEqProofs [c2, q31, c4, d32, q33, c7, d34, q35, c10, d36, q37, c13, d38, q39, c16, d40, q41, c19, d42, q43, c22, d44, pT30])
                                    · first
                                      | (simp [d32, d34, d36, d38, d40, d42] at q43; done)
                                      | (rw [if_neg (by rw [q43]; exact Bool.false_ne_true)] at q30
                                         try simp only [d32, d34, d36, d38, d40, d42] at q43
                                         have d45 : w23 = _ := (Option.some.inj q30).symm
                                         first | (simp -implicitDefEqProofs [c2, q31, c4, d32, q33, c7, d34, q35, c10, d36, q37, c13, d38, q39, c16, d40, q41, c19, d42, q43, d45]; done) | simp -implicitDefEqProofs [c2, q31, c4, d32, q33, c7, d34, q35, c10, d36, q37, c13, d38, q39, c16, d40, q41, c19, d42, q43, d45, pT30]))
                               · first
                                 | (simp [d32, d34, d36, d38, d40] at q41; done)
                                 | (rw [if_neg (by rw [q41]; exact Bool.false_ne_true)] at q29
                                    try simp only [d32, d34, d36, d38, d40] at q41
                                    have d46 : w20 = _ := (Option.some.inj q29).symm
                                    rcases Bool.eq_false_or_eq_true w20 with q47 | q47
                                    · first
                                      | (simp [d32, d34, d36, d38, d40, d46] at q47; done)
                                      | (rw [if_pos q47] at q30
                                         try simp only [d32, d34, d36, d38, d40, d46] at q47
                                         obtain ⟨r21, q22, q30⟩ := bindQ q30
                                         have c22 : F51 [.i .i64 s.loss_, .i .i64 0, .i .i64 100] = some (.b r21) := tells_eq inj51 (a := (s.loss_, 0, 100)) q22
                                         have d48 : w23 = _ := (Option.some.inj q30).symm
                                         first | (simp -implicitDefEqProofs [c2, q31, c4, d32, q33, c7, d34, q35, c10, d36, q37, c13, d38, q39, c16, d40, q41, d46, q47, c22, d48]; done) | simp -implicitDefEqProofs [c2, q31, c4, d32, q33, c7, d34, q35, c10, d36, q37, c13, d38, q39, c16, d40, q41, d46, q47, c22, d48, pT30])
                                    · first
                                      | (simp [d32, d34, d36, d38, d40, d46] at q47; done)
                                      | (rw [if_neg (by rw [q47]; exact Bool.false_ne_true)] at q30
                                         try simp only [d32, d34, d36, d38, d40, d46] at q47
                                         have d49 : w23 = _ := (Option.some.inj q30).symm
                                         first | (simp -implicitDefEqProofs [c2, q31, c4, d32, q33, c7, d34, q35, c10, d36, q37, c13, d38, q39, c16, d40, q41, d46, q47, d49]; done) | simp -implicitDefEqProofs [c2, q31, c4, d32, q33, c7, d34, q35, c10, d36, q37, c13, d38, q39, c16, d40, q41, d46, q47, d49, pT30])))
                          · first
                            | (simp [d32, d34, d36, d38] at q39; done)
                            | (rw [if_neg (by rw [q39]; exact Bool.false_ne_true)] at q28
                               try simp only [d32, d34, d36, d38] at q39
                               have d50 : w17 = _ := (Option.some.inj q28).symm
                               rcases Bool.eq_false_or_eq_true w17 with q51 | q51
                               · first
                                 | (simp [d32, d34, d36, d38, d50] at q51; done)
                                 | (rw [if_pos q51] at q29
                                    try simp only [d32, d34, d36, d38, d50] at q51
                                    obtain ⟨r18, q19, q29⟩ := bindQ q29
                                    have c19 : F51 [.i .i64 s.first_, .i .i64 0, .i .i64 s.store_] = some (.b r18) := tells_eq inj51 (a := (s.first_, 0, s.store_)) q19
                                    have d52 : w20 = _ := (Option.some.inj q29).symm
                                    rcases Bool.eq_false_or_eq_true w20 with q53 | q53
                                    · first
                                      | (simp [d32, d34, d36, d38, d50, d52] at q53; done)
                                      | (rw [if_pos q53] at q30
                                         try simp only [d32, d34, d36, d38, d50, d52] at q53
                                         obtain ⟨r21, q22, q30⟩ := bindQ q30
                                         have c22 : F51 [.i .i64 s.loss_, .i .i64 0, .i .i64 100] = some (.b r21) := tells_eq inj51 (a := (s.loss_, 0, 100)) q22
                                         have d54 : w23 = _ := (Option.some.inj q30).symm
                                         first | (simp -implicitDefEqProofs [c2, q31, c4, d32, q33, c7, d34, q35, c10, d36, q37, c13, d38, q39, d50, q51, c19, d52, q53, c22, d54]; done) | simp -implicitDefEqProofs [c2, q31, c4, d32, q33, c7, d34, q35, c10, d36, q37, c13, d38, q39, d50, q51, c19, d52, q53, c22, d54, pT30])
                                    · first
                                      | (simp [d32, d34, d36, d38, d50, d52] at q53; done)
                                      | (rw [if_neg (by rw [q53]; exact Bool.false_ne_true)] at q30
                                         try simp only [d32, d34, d36, d38, d50, d52] at q53
                                         have d55 : w23 = _ := (Option.some.inj q30).symm
                                         first | (simp -implicitDefEqProofs [c2, q31, c4, d32, q33, c7, d34, q35, c10, d36, q37, c13, d38, q39, d50, q51, c19, d52, q53, d55]; done) | simp -implicitDefEqProofs [c2, q31, c4, d32, q33, c7, d34, q35, c10, d36, q37, c13, d38, q39, d50, q51, c19, d52, q53, d55, pT30]))
                               · first
                                 | (simp [d32, d34, d36, d38, d50] at q51; done)
                                 | (rw [if_neg (by rw [q51]; exact Bool.false_ne_true)] at q29
                                    try simp only [d32, d34, d36, d38, d50] at q51
                                    have d56 : w20 = _ := (Option.some.inj q29).symm
                                    rcases Bool.eq_false_or_eq_true w20 with q57 | q57
                                    · first
                                      | (simp [d32, d34, d36, d38, d50, d56] at q57; done)
                                      | (rw [if_pos q57] at q30
                                         try simp only [d32, d34, d36, d38, d50, d56] at q57
                                         obtain ⟨r21, q22, q30⟩ := bindQ q30
                                         have c22 : F51 [.i .i64 s.loss_, .i .i64 0, .i .i64 100] = some (.b r21) := tells_eq inj51 (a := (s.loss_, 0, 100)) q22
                                         have d58 : w23 = _ := (Option.some.inj q30).symm
                                         first | (simp -implicitDefEqProofs [c2, q31, c4, d32, q33, c7, d34, q35, c10, d36, q37, c13, d38, q39, d50, q51, d56, q57, c22, d58]; done) | simp -implicitDefEqProofs [c2, q31, c4, d32, q33, c7, d34, q35, c10, d36, q37, c13, d38, q39, d50, q51, d56, q57, c22, d58, pT30])
                                    · first
                                      | (simp [d32, d34, d36, d38, d50, d56] at q57; done)
                                      | (rw [if_neg (by rw [q57]; exact Bool.false_ne_true)] at q30
                                         try simp only [d32, d34, d36, d38, d50, d56] at q57
                                         have d59 : w23 = _ := (Option.some.inj q30).symm
                                         first | (simp -implicitDefEqProofs [c2, q31, c4, d32, q33, c7, d34, q35, c10, d36, q37, c13, d38, q39, d50, q51, d56, q57, d59]; done) | simp -implicitDefEqProofs [c2, q31, c4, d32, q33, c7, d34, q35, c10, d36, q37, c13, d38, q39, d50, q51, d56, q57, d59, pT30]))))
                     · first
                       | (simp [d32, d34, d36] at q37; done)
                       | (rw [if_neg (by rw [q37]; exact Bool.false_ne_true)] at q27
                          try simp only [d32, d34, d36] at q37
                          have d60 : w14 = _ := (Option.some.inj q27).symm
                          rcases Bool.eq_false_or_eq_true w14 with q61 | q61
                          · first
                            | (simp [d32, d34, d36, d60] at q61; done)
                            | (rw [if_pos q61] at q28
                               try simp only [d32, d34, d36, d60] at q61
                               obtain ⟨r15, q16, q28⟩ := bindQ q28
                               have c16 : F51 [.i .i64 s.store_, .i .i64 0, .i .i64 60] = some (.b r15) := tells_eq inj51 (a := (s.store_, 0, 60)) q16
                               have d62 : w17 = _ := (Option.some.inj q28).symm
                               rcases Bool.eq_false_or_eq_true w17 with q63 | q63
                               · first
                                 | (simp [d32, d34, d36, d60, d62] at q63; done)
                                 | (rw [if_pos q63] at q29
                                    try simp only [d32, d34, d36, d60, d62] at q63
                                    obtain ⟨r18, q19, q29⟩ := bindQ q29
                                    have c19 : F51 [.i .i64 s.first_, .i .i64 0, .i .i64 s.store_] = some (.b r18) := tells_eq inj51 (a := (s.first_, 0, s.store_)) q19
                                    have d64 : w20 = _ := (Option.some.inj q29).symm
                                    rcases Bool.eq_false_or_eq_true w20 with q65 | q65
                                    · first
                                      | (simp [d32, d34, d36, d60, d62, d64] at q65; done)
                                      | (rw [if_pos q65] at q30
                                         try simp only [d32, d34, d36, d60, d62, d64] at q65
                                         obtain ⟨r21, q22, q30⟩ := bindQ q30
                                         have c22 : F51 [.i .i64 s.loss_, .i .i64 0, .i .i64 100] = some (.b r21) := tells_eq inj51 (a := (s.loss_, 0, 100)) q22
                                         have d66 : w23 = _ := (Option.some.inj q30).symm
                                         first | (simp -implicitDefEqProofs [c2, q31, c4, d32, q33, c7, d34, q35, c10, d36, q37, d60, q61, c16, d62, q63, c19, d64, q65, c22, d66]; done) | simp -implicitDefEqProofs [c2, q31, c4, d32, q33, c7, d34, q35, c10, d36, q37, d60, q61, c16, d62, q63, c19, d64, q65, c22, d66, pT30])
                                    · first
                                      | (simp [d32, d34, d36, d60, d62, d64] at q65; done)
                                      | (rw [if_neg (by rw [q65]; exact Bool.false_ne_true)] at q30
                                         try simp only [d32, d34, d36, d60, d62, d64] at q65
                                         have d67 : w23 = _ := (Option.some.inj q30).symm
                                         first | (simp -implicitDefEqProofs [c2, q31, c4, d32, q33, c7, d34, q35, c10, d36, q37, d60, q61, c16, d62, q63, c19, d64, q65, d67]; done) | simp -implicitDefEqProofs [c2, q31, c4, d32, q33, c7, d34, q35, c10, d36, q37, d60, q61, c16, d62, q63, c19, d64, q65, d67, pT30]))
                               · first
                                 | (simp [d32, d34, d36, d60, d62] at q63; done)
                                 | (rw [if_neg (by rw [q63]; exact Bool.false_ne_true)] at q29
                                    try simp only [d32, d34, d36, d60, d62] at q63
                                    have d68 : w20 = _ := (Option.some.inj q29).symm
                                    rcases Bool.eq_false_or_eq_true w20 with q69 | q69
                                    · first
                                      | (simp [d32, d34, d36, d60, d62, d68] at q69; done)
                                      | (rw [if_pos q69] at q30
                                         try simp only [d32, d34, d36, d60, d62, d68] at q69
                                         obtain ⟨r21, q22, q30⟩ := bindQ q30
                                         have c22 : F51 [.i .i64 s.loss_, .i .i64 0, .i .i64 100] = some (.b r21) := tells_eq inj51 (a := (s.loss_, 0, 100)) q22
                                         have d70 : w23 = _ := (Option.some.inj q30).symm
                                         first | (simp -implicitDefEqProofs [c2, q31, c4, d32, q33, c7, d34, q35, c10, d36, q37, d60, q61, c16, d62, q63, d68, q69, c22, d70]; done) | simp -implicitDefEqProofs [c2, q31, c4, d32, q33, c7, d34, q35, c10, d36, q37, d60, q61, c16, d62, q63, d68, q69, c22, d70, pT30])
                                    · first
                                      | (simp [d32, d34, d36, d60, d62, d68] at q69; done)
                                      | (rw [if_neg (by rw [q69]; exact Bool.false_ne_true)] at q30
                                         try simp only [d32, d34, d36, d60, d62, d68] at q69
                                         have d71 : w23 = _ := (Option.some.inj q30).symm
                                         first | (simp -implicitDefEqProofs [c2, q31, c4, d32, q33, c7, d34, q35, c10, d36, q37, d60, q61, c16, d62, q63, d68, q69, d71]; done) | simp -implicitDefEqProofs [c2, q31, c4, d32, q33, c7, d34, q35, c10, d36, q37, d60, q61, c16, d62, q63, d68, q69, d71, pT30])))
                          · first
                            | (simp [d32, d34, d36, d60] at q61; done)
                            | (rw [if_neg (by rw [q61]; exact Bool.false_ne_true)] at q28
                               try simp only [d32, d34, d36, d60] at q61
                               have d72 : w17 = _ := (Option.some.inj q28).symm
                               rcases Bool.eq_false_or_eq_true w17 with q73 | q73
                               · first
                                 | (simp [d32, d34, d36, d60, d72] at q73; done)
                                 | (rw [if_pos q73] at q29
                                    try simp only [d32, d34, d36, d60, d72] at q73
                                    obtain ⟨r18, q19, q29⟩ := bindQ q29
                                    have c19 : F51 [.i .i64 s.first_, .i .i64 0, .i .i64 s.store_] = some (.b r18) := tells_eq inj51 (a := (s.first_, 0, s.store_)) q19
                                    have d74 : w20 = _ := (Option.some.inj q29).symm
                                    rcases Bool.eq_false_or_eq_true w20 with q75 | q75
                                    · first
                                      | (simp [d32, d34, d36, d60, d72, d74] at q75; done)
                                      | (rw [if_pos q75] at q30
                                         try simp only [d32, d34, d36, d60, d72, d74] at q75
                                         obtain ⟨r21, q22, q30⟩ := bindQ q30
                                         have c22 : F51 [.i .i64 s.loss_, .i .i64 0, .i .i64 100] = some (.b r21) := tells_eq inj51 (a := (s.loss_, 0, 100)) q22
                                         have d76 : w23 = _ := (Option.some.inj q30).symm
                                         first | (simp -implicitDefEqProofs [c2, q31, c4, d32, q33, c7, d34, q35, c10, d36, q37, d60, q61, d72, q73, c19, d74, q75, c22, d76]; done) | simp -implicitDefEqProofs [c2, q31, c4, d32, q33, c7, d34, q35, c10, d36, q37, d60, q61, d72, q73, c19, d74, q75, c22, d76, pT30])
                                    · first
                                      | (simp [d32, d34, d36, d60, d72, d74] at q75; done)
                                      | (rw [if_neg (by rw [q75]; exact Bool.false_ne_true)] at q30
                                         try simp only [d32, d34, d36, d60, d72, d74] at q75
                                         have d77 : w23 = _ := (Option.some.inj q30).symm
                                         first | (simp -implicitDefEqProofs [c2, q31, c4, d32, q33, c7, d34, q35, c10, d36, q37, d60, q61, d72, q73, c19, d74, q75, d77]; done) | simp -implicitDefEqProofs [c2, q31, c4, d32, q33, c7, d34, q35, c10, d36, q37, d60, q61, d72, q73, c19, d74, q75, d77, pT30]))
                               · first
                                 | (simp [d32, d34, d36, d60, d72] at q73; done)
                                 | (rw [if_neg (by rw [q73]; exact Bool.false_ne_true)] at q29
                                    try simp only [d32, d34, d36, d60, d72] at q73
                                    have d78 : w20 = _ := (Option.some.inj q29).symm
                                    rcases Bool.eq_false_or_eq_true w20 with q79 | q79
                                    · first
                                      | (simp [d32, d34, d36, d60, d72, d78] at q79; done)
                                      | (rw [if_pos q79] at q30
                                         try simp only [d32, d34, d36, d60, d72, d78] at q79
                                         obtain ⟨r21, q22, q30⟩ := bindQ q30
                                         have c22 : F51 [.i .i64 s.loss_, .i .i64 0, .i .i64 100] = some (.b r21) := tells_eq inj51 (a := (s.loss_, 0, 100)) q22
                                         have d80 : w23 = _ := (Option.some.inj q30).symm
                                         first | (simp -implicitDefEqProofs [c2, q31, c4, d32, q33, c7, d34, q35, c10, d36, q37, d60, q61, d72, q73, d78, q79, c22, d80]; done) | simp -implicitDefEqProofs [c2, q31, c4, d32, q33, c7, d34, q35, c10, d36, q37, d60, q61, d72, q73, d78, q79, c22, d80, pT30])
                                    · first
                                      | (simp [d32, d34, d36, d60, d72, d78] at q79; done)
                                      | (rw [if_neg (by rw [q79]; exact Bool.false_ne_true)] at q30
                                         try simp only [d32, d34, d36, d60, d72, d78] at q79
                                         have d81 : w23 = _ := (Option.some.inj q30).symm
                                         first | (simp -implicitDefEqProofs [c2, q31, c4, d32, q33, c7, d34, q35, c10, d36, q37, d60, q61, d72, q73, d78, q79, d81]; done) | simp -implicitDefEqProofs [c2, q31, c4, d32, q33, c7, d34, q35, c10, d36, q37, d60, q61, d72, q73, d78, q79, d81, pT30])))))
                · first
                  | (simp [d32, d34] at q35; done)
                  | (rw [if_neg (by rw [q35]; exact Bool.false_ne_true)] at q26
                     try simp only [d32, d34] at q35
                     have d82 : w11 = _ := (Option.some.inj q26).symm
                     rcases Bool.eq_false_or_eq_true w11 with q83 | q83
                     · first
                       | (simp [d32, d34, d82] at q83; done)
                       | (rw [if_pos q83] at q27
                          try simp only [d32, d34, d82] at q83
                          obtain ⟨r12, q13, q27⟩ := bindQ q27
                          have c13 : F51 [.i .i64 s.yield_, .i .i64 1, .i .i64 40] = some (.b r12) := tells_eq inj51 (a := (s.yield_, 1, 40)) q13
                          have d84 : w14 = _ := (Option.some.inj q27).symm
                          rcases Bool.eq_false_or_eq_true w14 with q85 | q85
                          · first
                            | (simp [d32, d34, d82, d84] at q85; done)
                            | (rw [if_pos q85] at q28
                               try simp only [d32, d34, d82, d84] at q85
                               obtain ⟨r15, q16, q28⟩ := bindQ q28
                               have c16 : F51 [.i .i64 s.store_, .i .i64 0, .i .i64 60] = some (.b r15) := tells_eq inj51 (a := (s.store_, 0, 60)) q16
                               have d86 : w17 = _ := (Option.some.inj q28).symm
                               rcases Bool.eq_false_or_eq_true w17 with q87 | q87
                               · first
                                 | (simp [d32, d34, d82, d84, d86] at q87; done)
                                 | (rw [if_pos q87] at q29
                                    try simp only [d32, d34, d82, d84, d86] at q87
                                    obtain ⟨r18, q19, q29⟩ := bindQ q29
                                    have c19 : F51 [.i .i64 s.first_, .i .i64 0, .i .i64 s.store_] = some (.b r18) := tells_eq inj51 (a := (s.first_, 0, s.store_)) q19
                                    have d88 : w20 = _ := (Option.some.inj q29).symm
                                    rcases Bool.eq_false_or_eq_true w20 with q89 | q89
                                    · first
                                      | (simp [d32, d34, d82, d84, d86, d88] at q89; done)
                                      | (rw [if_pos q89] at q30
                                         try simp only [d32, d34, d82, d84, d86, d88] at q89
                                         obtain ⟨r21, q22, q30⟩ := bindQ q30
                                         have c22 : F51 [.i .i64 s.loss_, .i .i64 0, .i .i64 100] = some (.b r21) := tells_eq inj51 (a := (s.loss_, 0, 100)) q22
                                         have d90 : w23 = _ := (Option.some.inj q30).symm
                                         first | (simp -implicitDefEqProofs [c2, q31, c4, d32, q33, c7, d34, q35, d82, q83, c13, d84, q85, c16, d86, q87, c19, d88, q89, c22, d90]; done) | simp -implicitDefEqProofs [c2, q31, c4, d32, q33, c7, d34, q35, d82, q83, c13, d84, q85, c16, d86, q87, c19, d88, q89, c22, d90, pT30])
                                    · first
                                      | (simp [d32, d34, d82, d84, d86, d88] at q89; done)
                                      | (rw [if_neg (by rw [q89]; exact Bool.false_ne_true)] at q30
                                         try simp only [d32, d34, d82, d84, d86, d88] at q89
                                         have d91 : w23 = _ := (Option.some.inj q30).symm
                                         first | (simp -implicitDefEqProofs [c2, q31, c4, d32, q33, c7, d34, q35, d82, q83, c13, d84, q85, c16, d86, q87, c19, d88, q89, d91]; done) | simp -implicitDefEqProofs [c2, q31, c4, d32, q33, c7, d34, q35, d82, q83, c13, d84, q85, c16, d86, q87, c19, d88, q89, d91, pT30]))
                               · first
                                 | (simp [d32, d34, d82, d84, d86] at q87; done)
                                 | (rw [if_neg (by rw [q87]; exact Bool.false_ne_true)] at q29
                                    try simp only [d32, d34, d82, d84, d86] at q87
                                    have d92 : w20 = _ := (Option.some.inj q29).symm
                                    rcases Bool.eq_false_or_eq_true w20 with q93 | q93
                                    · first
                                      | (simp [d32, d34, d82, d84, d86, d92] at q93; done)
                                      | (rw [if_pos q93] at q30
                                         try simp only [d32, d34, d82, d84, d86, d92] at q93
                                         obtain ⟨r21, q22, q30⟩ := bindQ q30
                                         have c22 : F51 [.i .i64 s.loss_, .i .i64 0, .i .i64 100] = some (.b r21) := tells_eq inj51 (a := (s.loss_, 0, 100)) q22
                                         have d94 : w23 = _ := (Option.some.inj q30).symm
                                         first | (simp -implicitDefEqProofs [c2, q31, c4, d32, q33, c7, d34, q35, d82, q83, c13, d84, q85, c16, d86, q87, d92, q93, c22, d94]; done) | simp -implicitDefEqProofs [c2, q31, c4, d32, q33, c7, d34, q35, d82, q83, c13, d84, q85, c16, d86, q87, d92, q93, c22, d94, pT30])
                                    · first
                                      | (simp [d32, d34, d82, d84, d86, d92] at q93; done)
                                      | (rw [if_neg (by rw [q93]; exact Bool.false_ne_true)] at q30
                                         try simp only [d32, d34, d82, d84, d86, d92] at q93
                                         have d95 : w23 = _ := (Option.some.inj q30).symm
                                         first | (simp -implicitDefEqProofs [c2, q31, c4, d32, q33, c7, d34, q35, d82, q83, c13, d84, q85, c16, d86, q87, d92, q93, d95]; done) | simp -implicitDefEqProofs [c2, q31, c4, d32, q33, c7, d34, q35, d82, q83, c13, d84, q85, c16, d86, q87, d92, q93, d95, pT30])))
                          · first
                            | (simp [d32, d34, d82, d84] at q85; done)
                            | (rw [if_neg (by rw [q85]; exact Bool.false_ne_true)] at q28
                               try simp only [d32, d34, d82, d84] at q85
                               have d96 : w17 = _ := (Option.some.inj q28).symm
                               rcases Bool.eq_false_or_eq_true w17 with q97 | q97
                               · first
                                 | (simp [d32, d34, d82, d84, d96] at q97; done)
                                 | (rw [if_pos q97] at q29
                                    try simp only [d32, d34, d82, d84, d96] at q97
                                    obtain ⟨r18, q19, q29⟩ := bindQ q29
                                    have c19 : F51 [.i .i64 s.first_, .i .i64 0, .i .i64 s.store_] = some (.b r18) := tells_eq inj51 (a := (s.first_, 0, s.store_)) q19
                                    have d98 : w20 = _ := (Option.some.inj q29).symm
                                    rcases Bool.eq_false_or_eq_true w20 with q99 | q99
                                    · first
                                      | (simp [d32, d34, d82, d84, d96, d98] at q99; done)
                                      | (rw [if_pos q99] at q30
                                         try simp only [d32, d34, d82, d84, d96, d98] at q99
                                         obtain ⟨r21, q22, q30⟩ := bindQ q30
                                         have c22 : F51 [.i .i64 s.loss_, .i .i64 0, .i .i64 100] = some (.b r21) := tells_eq inj51 (a := (s.loss_, 0, 100)) q22
                                         have d100 : w23 = _ := (Option.some.inj q30).symm
                                         first | (simp -implicitDefEqProofs [c2, q31, c4, d32, q33, c7, d34, q35, d82, q83, c13, d84, q85, d96, q97, c19, d98, q99, c22, d100]; done) | simp -implicitDefEqProofs [c2, q31, c4, d32, q33, c7, d34, q35, d82, q83, c13, d84, q85, d96, q97, c19, d98, q99, c22, d100, pT30])
                                    · first
                                      | (simp [d32, d34, d82, d84, d96, d98] at q99; done)
                                      | (rw [if_neg (by rw [q99]; exact Bool.false_ne_true)] at q30
                                         try simp only [d32, d34, d82, d84, d96, d98] at q99
                                         have d101 : w23 = _ := (Option.some.inj q30).symm
                                         first | (simp -implicitDefEqProofs [c2, q31, c4, d32, q33, c7, d34, q35, d82, q83, c13, d84, q85, d96, q97, c19, d98, q99, d101]; done) | simp -implicitDefEqProofs [c2, q31, c4, d32, q33, c7, d34, q35, d82, q83, c13, d84, q85, d96, q97, c19, d98, q99, d101, pT30]))
                               · first
                                 | (simp [d32, d34, d82, d84, d96] at q97; done)
                                 | (rw [if_neg (by rw [q97]; exact Bool.false_ne_true)] at q29
                                    try simp only [d32, d34, d82, d84, d96] at q97
                                    have d102 : w20 = _ := (Option.some.inj q29).symm
                                    rcases Bool.eq_false_or_eq_true w20 with q103 | q103
                                    · first
                                      | (simp [d32, d34, d82, d84, d96, d102] at q103; done)
                                      | (rw [if_pos q103] at q30
                                         try simp only [d32, d34, d82, d84, d96, d102] at q103
                                         obtain ⟨r21, q22, q30⟩ := bindQ q30
                                         have c22 : F51 [.i .i64 s.loss_, .i .i64 0, .i .i64 100] = some (.b r21) := tells_eq inj51 (a := (s.loss_, 0, 100)) q22
                                         have d104 : w23 = _ := (Option.some.inj q30).symm
                                         first | (simp -implicitDefEqProofs [c2, q31, c4, d32, q33, c7, d34, q35, d82, q83, c13, d84, q85, d96, q97, d102, q103, c22, d104]; done) | simp -implicitDefEqProofs [c2, q31, c4, d32, q33, c7, d34, q35, d82, q83, c13, d84, q85, d96, q97, d102, q103, c22, d104, pT30])
                                    · first
                                      | (simp [d32, d34, d82, d84, d96, d102] at q103; done)
                                      | (rw [if_neg (by rw [q103]; exact Bool.false_ne_true)] at q30
                                         try simp only [d32, d34, d82, d84, d96, d102] at q103
                                         have d105 : w23 = _ := (Option.some.inj q30).symm
                                         first | (simp -implicitDefEqProofs [c2, q31, c4, d32, q33, c7, d34, q35, d82, q83, c13, d84, q85, d96, q97, d102, q103, d105]; done) | simp -implicitDefEqProofs [c2, q31, c4, d32, q33, c7, d34, q35, d82, q83, c13, d84, q85, d96, q97, d102, q103, d105, pT30]))))
                     · first
                       | (simp [d32, d34, d82] at q83; done)
                       | (rw [if_neg (by rw [q83]; exact Bool.false_ne_true)] at q27
                          try simp only [d32, d34, d82] at q83
                          have d106 : w14 = _ := (Option.some.inj q27).symm
                          rcases Bool.eq_false_or_eq_true w14 with q107 | q107
                          · first
                            | (simp [d32, d34, d82, d106] at q107; done)
                            | (rw [if_pos q107] at q28
                               try simp only [d32, d34, d82, d106] at q107
                               obtain ⟨r15, q16, q28⟩ := bindQ q28
                               have c16 : F51 [.i .i64 s.store_, .i .i64 0, .i .i64 60] = some (.b r15) := tells_eq inj51 (a := (s.store_, 0, 60)) q16
                               have d108 : w17 = _ := (Option.some.inj q28).symm
                               rcases Bool.eq_false_or_eq_true w17 with q109 | q109
                               · first
                                 | (simp [d32, d34, d82, d106, d108] at q109; done)
                                 | (rw [if_pos q109] at q29
                                    try simp only [d32, d34, d82, d106, d108] at q109
                                    obtain ⟨r18, q19, q29⟩ := bindQ q29
                                    have c19 : F51 [.i .i64 s.first_, .i .i64 0, .i .i64 s.store_] = some (.b r18) := tells_eq inj51 (a := (s.first_, 0, s.store_)) q19
                                    have d110 : w20 = _ := (Option.some.inj q29).symm
                                    rcases Bool.eq_false_or_eq_true w20 with q111 | q111
                                    · first
                                      | (simp [d32, d34, d82, d106, d108, d110] at q111; done)
                                      | (rw [if_pos q111] at q30
                                         try simp only [d32, d34, d82, d106, d108, d110] at q111
                                         obtain ⟨r21, q22, q30⟩ := bindQ q30
                                         have c22 : F51 [.i .i64 s.loss_, .i .i64 0, .i .i64 100] = some (.b r21) := tells_eq inj51 (a := (s.loss_, 0, 100)) q22
                                         have d112 : w23 = _ := (Option.some.inj q30).symm
                                         first | (simp -implicitDefEqProofs [c2, q31, c4, d32, q33, c7, d34, q35, d82, q83, d106, q107, c16, d108, q109, c19, d110, q111, c22, d112]; done) | simp -implicitDefEqProofs [c2, q31, c4, d32, q33, c7, d34, q35, d82, q83, d106, q107, c16, d108, q109, c19, d110, q111, c22, d112, pT30])
                                    · first
                                      | (simp [d32, d34, d82, d106, d108, d110] at q111; done)
                                      | (rw [if_neg (by rw [q111]; exact Bool.false_ne_true)] at q30
                                         try simp only [d32, d34, d82, d106, d108, d110] at q111
                                         have d113 : w23 = _ := (Option.some.inj q30).symm
                                         first | (simp -implicitDefEqProofs [c2, q31, c4, d32, q33, c7, d34, q35, d82, q83, d106, q107, c16, d108, q109, c19, d110, q111, d113]; done) | simp -implicitDefEqProofs [c2, q31, c4, d32, q33, c7, d34, q35, d82, q83, d106, q107, c16, d108, q109, c19, d110, q111, d113, pT30]))
                               · first
                                 | (simp [d32, d34, d82, d106, d108] at q109; done)
                                 | (rw [if_neg (by rw [q109]; exact Bool.false_ne_true)] at q29
                                    try simp only [d32, d34, d82, d106, d108] at q109
                                    have d114 : w20 = _ := (Option.some.inj q29).symm
                                    rcases Bool.eq_false_or_eq_true w20 with q115 | q115
                                    · first
                                      | (simp [d32, d34, d82, d106, d108, d114] at q115; done)
                                      | (rw [if_pos q115] at q30
                                         try simp only [d32, d34, d82, d106, d108, d114] at q115
                                         obtain ⟨r21, q22, q30⟩ := bindQ q30
                                         have c22 : F51 [.i .i64 s.loss_, .i .i64 0, .i .i64 100] = some (.b r21) := tells_eq inj51 (a := (s.loss_, 0, 100)) q22
                                         have d116 : w23 = _ := (Option.some.inj q30).symm
                                         first | (simp -implicitDefEqProofs [c2, q31, c4, d32, q33, c7, d34, q35, d82, q83, d106, q107, c16, d108, q109, d114, q115, c22, d116]; done) | simp -implicitDefEqProofs [c2, q31, c4, d32, q33, c7, d34, q35, d82, q83, d106, q107, c16, d108, q109, d114, q115, c22, d116, pT30])
                                    · first
                                      | (simp [d32, d34, d82, d106, d108, d114] at q115; done)
                                      | (rw [if_neg (by rw [q115]; exact Bool.false_ne_true)] at q30
                                         try simp only [d32, d34, d82, d106, d108, d114] at q115
                                         have d117 : w23 = _ := (Option.some.inj q30).symm
                                         first | (simp -implicitDefEqProofs [c2, q31, c4, d32, q33, c7, d34, q35, d82, q83, d106, q107, c16, d108, q109, d114, q115, d117]; done) | simp -implicitDefEqProofs [c2, q31, c4, d32, q33, c7, d34, q35, d82, q83, d106, q107, c16, d108, q109, d114, q115, d117, pT30])))
                          · first
                            | (simp [d32, d34, d82, d106] at q107; done)
                            | (rw [if_neg (by rw [q107]; exact Bool.false_ne_true)] at q28
                               try simp only [d32, d34, d82, d106] at q107
                               have d118 : w17 = _ := (Option.some.inj q28).symm
                               rcases Bool.eq_false_or_eq_true w17 with q119 | q119
                               · first
                                 | (simp [d32, d34, d82, d106, d118] at q119; done)
                                 | (rw [if_pos q119] at q29
                                    try simp only [d32, d34, d82, d106, d118] at q119
                                    obtain ⟨r18, q19, q29⟩ := bindQ q29
                                    have c19 : F51 [.i .i64 s.first_, .i .i64 0, .i .i64 s.store_] = some (.b r18) := tells_eq inj51 (a := (s.first_, 0, s.store_)) q19
                                    have d120 : w20 = _ := (Option.some.inj q29).symm
                                    rcases Bool.eq_false_or_eq_true w20 with q121 | q121
                                    · first
                                      | (simp [d32, d34, d82, d106, d118, d120] at q121; done)
                                      | (rw [if_pos q121] at q30
                                         try simp only [d32, d34, d82, d106, d118, d120] at q121
                                         obtain ⟨r21, q22, q30⟩ := bindQ q30
                                         have c22 : F51 [.i .i64 s.loss_, .i .i64 0, .i .i64 100] = some (.b r21) := tells_eq inj51 (a := (s.loss_, 0, 100)) q22
                                         have d122 : w23 = _ := (Option.some.inj q30).symm
                                         first | (simp -implicitDefEqProofs [c2, q31, c4, d32, q33, c7, d34, q35, d82, q83, d106, q107, d118, q119, c19, d120, q121, c22, d122]; done) | simp -implicitDefEqProofs [c2, q31, c4, d32, q33, c7, d34, q35, d82, q83, d106, q107, d118, q119, c19, d120, q121, c22, d122, pT30])
                                    · first
                                      | (simp [d32, d34, d82, d106, d118, d120] at q121; done)
                                      | (rw [if_neg (by rw [q121]; exact Bool.false_ne_true)] at q30
                                         try simp only [d32, d34, d82, d106, d118, d120] at q121
                                         have d123 : w23 = _ := (Option.some.inj q30).symm
                                         first | (simp -implicitDefEqProofs [c2, q31, c4, d32, q33, c7, d34, q35, d82, q83, d106, q107, d118, q119, c19, d120, q121, d123]; done) | simp -implicitDefEqProofs [c2, q31, c4, d32, q33, c7, d34, q35, d82, q83, d106, q107, d118, q119, c19, d120, q121, d123, pT30]))
                               · first
                                 | (simp [d32, d34, d82, d106, d118] at q119; done)
                                 | (rw [if_neg (by rw [q119]; exact Bool.false_ne_true)] at q29
                                    try simp only [d32, d34, d82, d106, d118] at q119
                                    have d124 : w20 = _ := (Option.some.inj q29).symm
                                    rcases Bool.eq_false_or_eq_true w20 with q125 | q125
                                    · first
                                      | (simp [d32, d34, d82, d106, d118, d124] at q125; done)
                                      | (rw [if_pos q125] at q30
                                         try simp only [d32, d34, d82, d106, d118, d124] at q125
                                         obtain ⟨r21, q22, q30⟩ := bindQ q30
                                         have c22 : F51 [.i .i64 s.loss_, .i .i64 0, .i .i64 100] = some (.b r21) := tells_eq inj51 (a := (s.loss_, 0, 100)) q22
                                         have d126 : w23 = _ := (Option.some.inj q30).symm
                                         first | (simp -implicitDefEqProofs [c2, q31, c4, d32, q33, c7, d34, q35, d82, q83, d106, q107, d118, q119, d124, q125, c22, d126]; done) | simp -implicitDefEqProofs [c2, q31, c4, d32, q33, c7, d34, q35, d82, q83, d106, q107, d118, q119, d124, q125, c22, d126, pT30])
                                    · first
                                      | (simp [d32, d34, d82, d106, d118, d124] at q125; done)
                                      | (rw [if_neg (by rw [q125]; exact Bool.false_ne_true)] at q30
                                         try simp only [d32, d34, d82, d106, d118, d124] at q125
                                         have d127 : w23 = _ := (Option.some.inj q30).symm
                                         first | (simp -implicitDefEqProofs [c2, q31, c4, d32, q33, c7, d34, q35, d82, q83, d106, q107, d118, q119, d124, q125, d127]; done) | simp -implicitDefEqProofs [c2, q31, c4, d32, q33, c7, d34, q35, d82, q83, d106, q107, d118, q119, d124, q125, d127, pT30]))))))
           · first
             | (simp [d32] at q33; done)
             | (rw [if_neg (by rw [q33]; exact Bool.false_ne_true)] at q25
                try simp only [d32] at q33
                have d128 : w8 = _ := (Option.some.inj q25).symm
                rcases Bool.eq_false_or_eq_true w8 with q129 | q129
                · first
                  | (simp [d32, d128] at q129; done)
                  | (rw [if_pos q129] at q26
                     try simp only [d32, d128] at q129
                     obtain ⟨r9, q10, q26⟩ := bindQ q26
                     have c10 : F51 [.i .i64 s.most_, .i .i64 0, .i .i64 20] = some (.b r9) := tells_eq inj51 (a := (s.most_, 0, 20)) q10
                     have d130 : w11 = _ := (Option.some.inj q26).symm
                     rcases Bool.eq_false_or_eq_true w11 with q131 | q131
                     · first
                       | (simp [d32, d128, d130] at q131; done)
                       | (rw [if_pos q131] at q27
                          try simp only [d32, d128, d130] at q131
                          obtain ⟨r12, q13, q27⟩ := bindQ q27
                          have c13 : F51 [.i .i64 s.yield_, .i .i64 1, .i .i64 40] = some (.b r12) := tells_eq inj51 (a := (s.yield_, 1, 40)) q13
                          have d132 : w14 = _ := (Option.some.inj q27).symm
                          rcases Bool.eq_false_or_eq_true w14 with q133 | q133
                          · first
                            | (simp [d32, d128, d130, d132] at q133; done)
                            | (rw [if_pos q133] at q28
                               try simp only [d32, d128, d130, d132] at q133
                               obtain ⟨r15, q16, q28⟩ := bindQ q28
                               have c16 : F51 [.i .i64 s.store_, .i .i64 0, .i .i64 60] = some (.b r15) := tells_eq inj51 (a := (s.store_, 0, 60)) q16
                               have d134 : w17 = _ := (Option.some.inj q28).symm
                               rcases Bool.eq_false_or_eq_true w17 with q135 | q135
                               · first
                                 | (simp [d32, d128, d130, d132, d134] at q135; done)
                                 | (rw [if_pos q135] at q29
                                    try simp only [d32, d128, d130, d132, d134] at q135
                                    obtain ⟨r18, q19, q29⟩ := bindQ q29
                                    have c19 : F51 [.i .i64 s.first_, .i .i64 0, .i .i64 s.store_] = some (.b r18) := tells_eq inj51 (a := (s.first_, 0, s.store_)) q19
                                    have d136 : w20 = _ := (Option.some.inj q29).symm
                                    rcases Bool.eq_false_or_eq_true w20 with q137 | q137
                                    · first
                                      | (simp [d32, d128, d130, d132, d134, d136] at q137; done)
                                      | (rw [if_pos q137] at q30
                                         try simp only [d32, d128, d130, d132, d134, d136] at q137
                                         obtain ⟨r21, q22, q30⟩ := bindQ q30
                                         have c22 : F51 [.i .i64 s.loss_, .i .i64 0, .i .i64 100] = some (.b r21) := tells_eq inj51 (a := (s.loss_, 0, 100)) q22
                                         have d138 : w23 = _ := (Option.some.inj q30).symm
                                         first | (simp -implicitDefEqProofs [c2, q31, c4, d32, q33, d128, q129, c10, d130, q131, c13, d132, q133, c16, d134, q135, c19, d136, q137, c22, d138]; done) | simp -implicitDefEqProofs [c2, q31, c4, d32, q33, d128, q129, c10, d130, q131, c13, d132, q133, c16, d134, q135, c19, d136, q137, c22, d138, pT30])
                                    · first
                                      | (simp [d32, d128, d130, d132, d134, d136] at q137; done)
                                      | (rw [if_neg (by rw [q137]; exact Bool.false_ne_true)] at q30
                                         try simp only [d32, d128, d130, d132, d134, d136] at q137
                                         have d139 : w23 = _ := (Option.some.inj q30).symm
                                         first | (simp -implicitDefEqProofs [c2, q31, c4, d32, q33, d128, q129, c10, d130, q131, c13, d132, q133, c16, d134, q135, c19, d136, q137, d139]; done) | simp -implicitDefEqProofs [c2, q31, c4, d32, q33, d128, q129, c10, d130, q131, c13, d132, q133, c16, d134, q135, c19, d136, q137, d139, pT30]))
                               · first
                                 | (simp [d32, d128, d130, d132, d134] at q135; done)
                                 | (rw [if_neg (by rw [q135]; exact Bool.false_ne_true)] at q29
                                    try simp only [d32, d128, d130, d132, d134] at q135
                                    have d140 : w20 = _ := (Option.some.inj q29).symm
                                    rcases Bool.eq_false_or_eq_true w20 with q141 | q141
                                    · first
                                      | (simp [d32, d128, d130, d132, d134, d140] at q141; done)
                                      | (rw [if_pos q141] at q30
                                         try simp only [d32, d128, d130, d132, d134, d140] at q141
                                         obtain ⟨r21, q22, q30⟩ := bindQ q30
                                         have c22 : F51 [.i .i64 s.loss_, .i .i64 0, .i .i64 100] = some (.b r21) := tells_eq inj51 (a := (s.loss_, 0, 100)) q22
                                         have d142 : w23 = _ := (Option.some.inj q30).symm
                                         first | (simp -implicitDefEqProofs [c2, q31, c4, d32, q33, d128, q129, c10, d130, q131, c13, d132, q133, c16, d134, q135, d140, q141, c22, d142]; done) | simp -implicitDefEqProofs [c2, q31, c4, d32, q33, d128, q129, c10, d130, q131, c13, d132, q133, c16, d134, q135, d140, q141, c22, d142, pT30])
                                    · first
                                      | (simp [d32, d128, d130, d132, d134, d140] at q141; done)
                                      | (rw [if_neg (by rw [q141]; exact Bool.false_ne_true)] at q30
                                         try simp only [d32, d128, d130, d132, d134, d140] at q141
                                         have d143 : w23 = _ := (Option.some.inj q30).symm
                                         first | (simp -implicitDefEqProofs [c2, q31, c4, d32, q33, d128, q129, c10, d130, q131, c13, d132, q133, c16, d134, q135, d140, q141, d143]; done) | simp -implicitDefEqProofs [c2, q31, c4, d32, q33, d128, q129, c10, d130, q131, c13, d132, q133, c16, d134, q135, d140, q141, d143, pT30])))
                          · first
                            | (simp [d32, d128, d130, d132] at q133; done)
                            | (rw [if_neg (by rw [q133]; exact Bool.false_ne_true)] at q28
                               try simp only [d32, d128, d130, d132] at q133
                               have d144 : w17 = _ := (Option.some.inj q28).symm
                               rcases Bool.eq_false_or_eq_true w17 with q145 | q145
                               · first
                                 | (simp [d32, d128, d130, d132, d144] at q145; done)
                                 | (rw [if_pos q145] at q29
                                    try simp only [d32, d128, d130, d132, d144] at q145
                                    obtain ⟨r18, q19, q29⟩ := bindQ q29
                                    have c19 : F51 [.i .i64 s.first_, .i .i64 0, .i .i64 s.store_] = some (.b r18) := tells_eq inj51 (a := (s.first_, 0, s.store_)) q19
                                    have d146 : w20 = _ := (Option.some.inj q29).symm
                                    rcases Bool.eq_false_or_eq_true w20 with q147 | q147
                                    · first
                                      | (simp [d32, d128, d130, d132, d144, d146] at q147; done)
                                      | (rw [if_pos q147] at q30
                                         try simp only [d32, d128, d130, d132, d144, d146] at q147
                                         obtain ⟨r21, q22, q30⟩ := bindQ q30
                                         have c22 : F51 [.i .i64 s.loss_, .i .i64 0, .i .i64 100] = some (.b r21) := tells_eq inj51 (a := (s.loss_, 0, 100)) q22
                                         have d148 : w23 = _ := (Option.some.inj q30).symm
                                         first | (simp -implicitDefEqProofs [c2, q31, c4, d32, q33, d128, q129, c10, d130, q131, c13, d132, q133, d144, q145, c19, d146, q147, c22, d148]; done) | simp -implicitDefEqProofs [c2, q31, c4, d32, q33, d128, q129, c10, d130, q131, c13, d132, q133, d144, q145, c19, d146, q147, c22, d148, pT30])
                                    · first
                                      | (simp [d32, d128, d130, d132, d144, d146] at q147; done)
                                      | (rw [if_neg (by rw [q147]; exact Bool.false_ne_true)] at q30
                                         try simp only [d32, d128, d130, d132, d144, d146] at q147
                                         have d149 : w23 = _ := (Option.some.inj q30).symm
                                         first | (simp -implicitDefEqProofs [c2, q31, c4, d32, q33, d128, q129, c10, d130, q131, c13, d132, q133, d144, q145, c19, d146, q147, d149]; done) | simp -implicitDefEqProofs [c2, q31, c4, d32, q33, d128, q129, c10, d130, q131, c13, d132, q133, d144, q145, c19, d146, q147, d149, pT30]))
                               · first
                                 | (simp [d32, d128, d130, d132, d144] at q145; done)
                                 | (rw [if_neg (by rw [q145]; exact Bool.false_ne_true)] at q29
                                    try simp only [d32, d128, d130, d132, d144] at q145
                                    have d150 : w20 = _ := (Option.some.inj q29).symm
                                    rcases Bool.eq_false_or_eq_true w20 with q151 | q151
                                    · first
                                      | (simp [d32, d128, d130, d132, d144, d150] at q151; done)
                                      | (rw [if_pos q151] at q30
                                         try simp only [d32, d128, d130, d132, d144, d150] at q151
                                         obtain ⟨r21, q22, q30⟩ := bindQ q30
                                         have c22 : F51 [.i .i64 s.loss_, .i .i64 0, .i .i64 100] = some (.b r21) := tells_eq inj51 (a := (s.loss_, 0, 100)) q22
                                         have d152 : w23 = _ := (Option.some.inj q30).symm
                                         first | (simp -implicitDefEqProofs [c2, q31, c4, d32, q33, d128, q129, c10, d130, q131, c13, d132, q133, d144, q145, d150, q151, c22, d152]; done) | simp -implicitDefEqProofs [c2, q31, c4, d32, q33, d128, q129, c10, d130, q131, c13, d132, q133, d144, q145, d150, q151, c22, d152, pT30])
                                    · first
                                      | (simp [d32, d128, d130, d132, d144, d150] at q151; done)
                                      | (rw [if_neg (by rw [q151]; exact Bool.false_ne_true)] at q30
                                         try simp only [d32, d128, d130, d132, d144, d150] at q151
                                         have d153 : w23 = _ := (Option.some.inj q30).symm
                                         first | (simp -implicitDefEqProofs [c2, q31, c4, d32, q33, d128, q129, c10, d130, q131, c13, d132, q133, d144, q145, d150, q151, d153]; done) | simp -implicitDefEqProofs [c2, q31, c4, d32, q33, d128, q129, c10, d130, q131, c13, d132, q133, d144, q145, d150, q151, d153, pT30]))))
                     · first
                       | (simp [d32, d128, d130] at q131; done)
                       | (rw [if_neg (by rw [q131]; exact Bool.false_ne_true)] at q27
                          try simp only [d32, d128, d130] at q131
                          have d154 : w14 = _ := (Option.some.inj q27).symm
                          rcases Bool.eq_false_or_eq_true w14 with q155 | q155
                          · first
                            | (simp [d32, d128, d130, d154] at q155; done)
                            | (rw [if_pos q155] at q28
                               try simp only [d32, d128, d130, d154] at q155
                               obtain ⟨r15, q16, q28⟩ := bindQ q28
                               have c16 : F51 [.i .i64 s.store_, .i .i64 0, .i .i64 60] = some (.b r15) := tells_eq inj51 (a := (s.store_, 0, 60)) q16
                               have d156 : w17 = _ := (Option.some.inj q28).symm
                               rcases Bool.eq_false_or_eq_true w17 with q157 | q157
                               · first
                                 | (simp [d32, d128, d130, d154, d156] at q157; done)
                                 | (rw [if_pos q157] at q29
                                    try simp only [d32, d128, d130, d154, d156] at q157
                                    obtain ⟨r18, q19, q29⟩ := bindQ q29
                                    have c19 : F51 [.i .i64 s.first_, .i .i64 0, .i .i64 s.store_] = some (.b r18) := tells_eq inj51 (a := (s.first_, 0, s.store_)) q19
                                    have d158 : w20 = _ := (Option.some.inj q29).symm
                                    rcases Bool.eq_false_or_eq_true w20 with q159 | q159
                                    · first
                                      | (simp [d32, d128, d130, d154, d156, d158] at q159; done)
                                      | (rw [if_pos q159] at q30
                                         try simp only [d32, d128, d130, d154, d156, d158] at q159
                                         obtain ⟨r21, q22, q30⟩ := bindQ q30
                                         have c22 : F51 [.i .i64 s.loss_, .i .i64 0, .i .i64 100] = some (.b r21) := tells_eq inj51 (a := (s.loss_, 0, 100)) q22
                                         have d160 : w23 = _ := (Option.some.inj q30).symm
                                         first | (simp -implicitDefEqProofs [c2, q31, c4, d32, q33, d128, q129, c10, d130, q131, d154, q155, c16, d156, q157, c19, d158, q159, c22, d160]; done) | simp -implicitDefEqProofs [c2, q31, c4, d32, q33, d128, q129, c10, d130, q131, d154, q155, c16, d156, q157, c19, d158, q159, c22, d160, pT30])
                                    · first
                                      | (simp [d32, d128, d130, d154, d156, d158] at q159; done)
                                      | (rw [if_neg (by rw [q159]; exact Bool.false_ne_true)] at q30
                                         try simp only [d32, d128, d130, d154, d156, d158] at q159
                                         have d161 : w23 = _ := (Option.some.inj q30).symm
                                         first | (simp -implicitDefEqProofs [c2, q31, c4, d32, q33, d128, q129, c10, d130, q131, d154, q155, c16, d156, q157, c19, d158, q159, d161]; done) | simp -implicitDefEqProofs [c2, q31, c4, d32, q33, d128, q129, c10, d130, q131, d154, q155, c16, d156, q157, c19, d158, q159, d161, pT30]))
                               · first
                                 | (simp [d32, d128, d130, d154, d156] at q157; done)
                                 | (rw [if_neg (by rw [q157]; exact Bool.false_ne_true)] at q29
                                    try simp only [d32, d128, d130, d154, d156] at q157
                                    have d162 : w20 = _ := (Option.some.inj q29).symm
                                    rcases Bool.eq_false_or_eq_true w20 with q163 | q163
                                    · first
                                      | (simp [d32, d128, d130, d154, d156, d162] at q163; done)
                                      | (rw [if_pos q163] at q30
                                         try simp only [d32, d128, d130, d154, d156, d162] at q163
                                         obtain ⟨r21, q22, q30⟩ := bindQ q30
                                         have c22 : F51 [.i .i64 s.loss_, .i .i64 0, .i .i64 100] = some (.b r21) := tells_eq inj51 (a := (s.loss_, 0, 100)) q22
                                         have d164 : w23 = _ := (Option.some.inj q30).symm
                                         first | (simp -implicitDefEqProofs [c2, q31, c4, d32, q33, d128, q129, c10, d130, q131, d154, q155, c16, d156, q157, d162, q163, c22, d164]; done) | simp -implicitDefEqProofs [c2, q31, c4, d32, q33, d128, q129, c10, d130, q131, d154, q155, c16, d156, q157, d162, q163, c22, d164, pT30])
                                    · first
                                      | (simp [d32, d128, d130, d154, d156, d162] at q163; done)
                                      | (rw [if_neg (by rw [q163]; exact Bool.false_ne_true)] at q30
                                         try simp only [d32, d128, d130, d154, d156, d162] at q163
                                         have d165 : w23 = _ := (Option.some.inj q30).symm
                                         first | (simp -implicitDefEqProofs [c2, q31, c4, d32, q33, d128, q129, c10, d130, q131, d154, q155, c16, d156, q157, d162, q163, d165]; done) | simp -implicitDefEqProofs [c2, q31, c4, d32, q33, d128, q129, c10, d130, q131, d154, q155, c16, d156, q157, d162, q163, d165, pT30])))
                          · first
                            | (simp [d32, d128, d130, d154] at q155; done)
                            | (rw [if_neg (by rw [q155]; exact Bool.false_ne_true)] at q28
                               try simp only [d32, d128, d130, d154] at q155
                               have d166 : w17 = _ := (Option.some.inj q28).symm
                               rcases Bool.eq_false_or_eq_true w17 with q167 | q167
                               · first
                                 | (simp [d32, d128, d130, d154, d166] at q167; done)
                                 | (rw [if_pos q167] at q29
                                    try simp only [d32, d128, d130, d154, d166] at q167
                                    obtain ⟨r18, q19, q29⟩ := bindQ q29
                                    have c19 : F51 [.i .i64 s.first_, .i .i64 0, .i .i64 s.store_] = some (.b r18) := tells_eq inj51 (a := (s.first_, 0, s.store_)) q19
                                    have d168 : w20 = _ := (Option.some.inj q29).symm
                                    rcases Bool.eq_false_or_eq_true w20 with q169 | q169
                                    · first
                                      | (simp [d32, d128, d130, d154, d166, d168] at q169; done)
                                      | (rw [if_pos q169] at q30
                                         try simp only [d32, d128, d130, d154, d166, d168] at q169
                                         obtain ⟨r21, q22, q30⟩ := bindQ q30
                                         have c22 : F51 [.i .i64 s.loss_, .i .i64 0, .i .i64 100] = some (.b r21) := tells_eq inj51 (a := (s.loss_, 0, 100)) q22
                                         have d170 : w23 = _ := (Option.some.inj q30).symm
                                         first | (simp -implicitDefEqProofs [c2, q31, c4, d32, q33, d128, q129, c10, d130, q131, d154, q155, d166, q167, c19, d168, q169, c22, d170]; done) | simp -implicitDefEqProofs [c2, q31, c4, d32, q33, d128, q129, c10, d130, q131, d154, q155, d166, q167, c19, d168, q169, c22, d170, pT30])
                                    · first
                                      | (simp [d32, d128, d130, d154, d166, d168] at q169; done)
                                      | (rw [if_neg (by rw [q169]; exact Bool.false_ne_true)] at q30
                                         try simp only [d32, d128, d130, d154, d166, d168] at q169
                                         have d171 : w23 = _ := (Option.some.inj q30).symm
                                         first | (simp -implicitDefEqProofs [c2, q31, c4, d32, q33, d128, q129, c10, d130, q131, d154, q155, d166, q167, c19, d168, q169, d171]; done) | simp -implicitDefEqProofs [c2, q31, c4, d32, q33, d128, q129, c10, d130, q131, d154, q155, d166, q167, c19, d168, q169, d171, pT30]))
                               · first
                                 | (simp [d32, d128, d130, d154, d166] at q167; done)
                                 | (rw [if_neg (by rw [q167]; exact Bool.false_ne_true)] at q29
                                    try simp only [d32, d128, d130, d154, d166] at q167
                                    have d172 : w20 = _ := (Option.some.inj q29).symm
                                    rcases Bool.eq_false_or_eq_true w20 with q173 | q173
                                    · first
                                      | (simp [d32, d128, d130, d154, d166, d172] at q173; done)
                                      | (rw [if_pos q173] at q30
                                         try simp only [d32, d128, d130, d154, d166, d172] at q173
                                         obtain ⟨r21, q22, q30⟩ := bindQ q30
                                         have c22 : F51 [.i .i64 s.loss_, .i .i64 0, .i .i64 100] = some (.b r21) := tells_eq inj51 (a := (s.loss_, 0, 100)) q22
                                         have d174 : w23 = _ := (Option.some.inj q30).symm
                                         first | (simp -implicitDefEqProofs [c2, q31, c4, d32, q33, d128, q129, c10, d130, q131, d154, q155, d166, q167, d172, q173, c22, d174]; done) | simp -implicitDefEqProofs [c2, q31, c4, d32, q33, d128, q129, c10, d130, q131, d154, q155, d166, q167, d172, q173, c22, d174, pT30])
                                    · first
                                      | (simp [d32, d128, d130, d154, d166, d172] at q173; done)
                                      | (rw [if_neg (by rw [q173]; exact Bool.false_ne_true)] at q30
                                         try simp only [d32, d128, d130, d154, d166, d172] at q173
                                         have d175 : w23 = _ := (Option.some.inj q30).symm
                                         first | (simp -implicitDefEqProofs [c2, q31, c4, d32, q33, d128, q129, c10, d130, q131, d154, q155, d166, q167, d172, q173, d175]; done) | simp -implicitDefEqProofs [c2, q31, c4, d32, q33, d128, q129, c10, d130, q131, d154, q155, d166, q167, d172, q173, d175, pT30])))))
                · first
                  | (simp [d32, d128] at q129; done)
                  | (rw [if_neg (by rw [q129]; exact Bool.false_ne_true)] at q26
                     try simp only [d32, d128] at q129
                     have d176 : w11 = _ := (Option.some.inj q26).symm
                     rcases Bool.eq_false_or_eq_true w11 with q177 | q177
                     · first
                       | (simp [d32, d128, d176] at q177; done)
                       | (rw [if_pos q177] at q27
                          try simp only [d32, d128, d176] at q177
                          obtain ⟨r12, q13, q27⟩ := bindQ q27
                          have c13 : F51 [.i .i64 s.yield_, .i .i64 1, .i .i64 40] = some (.b r12) := tells_eq inj51 (a := (s.yield_, 1, 40)) q13
                          have d178 : w14 = _ := (Option.some.inj q27).symm
                          rcases Bool.eq_false_or_eq_true w14 with q179 | q179
                          · first
                            | (simp [d32, d128, d176, d178] at q179; done)
                            | (rw [if_pos q179] at q28
                               try simp only [d32, d128, d176, d178] at q179
                               obtain ⟨r15, q16, q28⟩ := bindQ q28
                               have c16 : F51 [.i .i64 s.store_, .i .i64 0, .i .i64 60] = some (.b r15) := tells_eq inj51 (a := (s.store_, 0, 60)) q16
                               have d180 : w17 = _ := (Option.some.inj q28).symm
                               rcases Bool.eq_false_or_eq_true w17 with q181 | q181
                               · first
                                 | (simp [d32, d128, d176, d178, d180] at q181; done)
                                 | (rw [if_pos q181] at q29
                                    try simp only [d32, d128, d176, d178, d180] at q181
                                    obtain ⟨r18, q19, q29⟩ := bindQ q29
                                    have c19 : F51 [.i .i64 s.first_, .i .i64 0, .i .i64 s.store_] = some (.b r18) := tells_eq inj51 (a := (s.first_, 0, s.store_)) q19
                                    have d182 : w20 = _ := (Option.some.inj q29).symm
                                    rcases Bool.eq_false_or_eq_true w20 with q183 | q183
                                    · first
                                      | (simp [d32, d128, d176, d178, d180, d182] at q183; done)
                                      | (rw [if_pos q183] at q30
                                         try simp only [d32, d128, d176, d178, d180, d182] at q183
                                         obtain ⟨r21, q22, q30⟩ := bindQ q30
                                         have c22 : F51 [.i .i64 s.loss_, .i .i64 0, .i .i64 100] = some (.b r21) := tells_eq inj51 (a := (s.loss_, 0, 100)) q22
                                         have d184 : w23 = _ := (Option.some.inj q30).symm
                                         first | (simp -implicitDefEqProofs [c2, q31, c4, d32, q33, d128, q129, d176, q177, c13, d178, q179, c16, d180, q181, c19, d182, q183, c22, d184]; done) | simp -implicitDefEqProofs [c2, q31, c4, d32, q33, d128, q129, d176, q177, c13, d178, q179, c16, d180, q181, c19, d182, q183, c22, d184, pT30])
                                    · first
                                      | (simp [d32, d128, d176, d178, d180, d182] at q183; done)
                                      | (rw [if_neg (by rw [q183]; exact Bool.false_ne_true)] at q30
                                         try simp only [d32, d128, d176, d178, d180, d182] at q183
                                         have d185 : w23 = _ := (Option.some.inj q30).symm
                                         first | (simp -implicitDefEqProofs [c2, q31, c4, d32, q33, d128, q129, d176, q177, c13, d178, q179, c16, d180, q181, c19, d182, q183, d185]; done) | simp -implicitDefEqProofs [c2, q31, c4, d32, q33, d128, q129, d176, q177, c13, d178, q179, c16, d180, q181, c19, d182, q183, d185, pT30]))
                               · first
                                 | (simp [d32, d128, d176, d178, d180] at q181; done)
                                 | (rw [if_neg (by rw [q181]; exact Bool.false_ne_true)] at q29
                                    try simp only [d32, d128, d176, d178, d180] at q181
                                    have d186 : w20 = _ := (Option.some.inj q29).symm
                                    rcases Bool.eq_false_or_eq_true w20 with q187 | q187
                                    · first
                                      | (simp [d32, d128, d176, d178, d180, d186] at q187; done)
                                      | (rw [if_pos q187] at q30
                                         try simp only [d32, d128, d176, d178, d180, d186] at q187
                                         obtain ⟨r21, q22, q30⟩ := bindQ q30
                                         have c22 : F51 [.i .i64 s.loss_, .i .i64 0, .i .i64 100] = some (.b r21) := tells_eq inj51 (a := (s.loss_, 0, 100)) q22
                                         have d188 : w23 = _ := (Option.some.inj q30).symm
                                         first | (simp -implicitDefEqProofs [c2, q31, c4, d32, q33, d128, q129, d176, q177, c13, d178, q179, c16, d180, q181, d186, q187, c22, d188]; done) | simp -implicitDefEqProofs [c2, q31, c4, d32, q33, d128, q129, d176, q177, c13, d178, q179, c16, d180, q181, d186, q187, c22, d188, pT30])
                                    · first
                                      | (simp [d32, d128, d176, d178, d180, d186] at q187; done)
                                      | (rw [if_neg (by rw [q187]; exact Bool.false_ne_true)] at q30
                                         try simp only [d32, d128, d176, d178, d180, d186] at q187
                                         have d189 : w23 = _ := (Option.some.inj q30).symm
                                         first | (simp -implicitDefEqProofs [c2, q31, c4, d32, q33, d128, q129, d176, q177, c13, d178, q179, c16, d180, q181, d186, q187, d189]; done) | simp -implicitDefEqProofs [c2, q31, c4, d32, q33, d128, q129, d176, q177, c13, d178, q179, c16, d180, q181, d186, q187, d189, pT30])))
                          · first
                            | (simp [d32, d128, d176, d178] at q179; done)
                            | (rw [if_neg (by rw [q179]; exact Bool.false_ne_true)] at q28
                               try simp only [d32, d128, d176, d178] at q179
                               have d190 : w17 = _ := (Option.some.inj q28).symm
                               rcases Bool.eq_false_or_eq_true w17 with q191 | q191
                               · first
                                 | (simp [d32, d128, d176, d178, d190] at q191; done)
                                 | (rw [if_pos q191] at q29
                                    try simp only [d32, d128, d176, d178, d190] at q191
                                    obtain ⟨r18, q19, q29⟩ := bindQ q29
                                    have c19 : F51 [.i .i64 s.first_, .i .i64 0, .i .i64 s.store_] = some (.b r18) := tells_eq inj51 (a := (s.first_, 0, s.store_)) q19
                                    have d192 : w20 = _ := (Option.some.inj q29).symm
                                    rcases Bool.eq_false_or_eq_true w20 with q193 | q193
                                    · first
                                      | (simp [d32, d128, d176, d178, d190, d192] at q193; done)
                                      | (rw [if_pos q193] at q30
                                         try simp only [d32, d128, d176, d178, d190, d192] at q193
                                         obtain ⟨r21, q22, q30⟩ := bindQ q30
                                         have c22 : F51 [.i .i64 s.loss_, .i .i64 0, .i .i64 100] = some (.b r21) := tells_eq inj51 (a := (s.loss_, 0, 100)) q22
                                         have d194 : w23 = _ := (Option.some.inj q30).symm
                                         first | (simp -implicitDefEqProofs [c2, q31, c4, d32, q33, d128, q129, d176, q177, c13, d178, q179, d190, q191, c19, d192, q193, c22, d194]; done) | simp -implicitDefEqProofs [c2, q31, c4, d32, q33, d128, q129, d176, q177, c13, d178, q179, d190, q191, c19, d192, q193, c22, d194, pT30])
                                    · first
                                      | (simp [d32, d128, d176, d178, d190, d192] at q193; done)
                                      | (rw [if_neg (by rw [q193]; exact Bool.false_ne_true)] at q30
                                         try simp only [d32, d128, d176, d178, d190, d192] at q193
                                         have d195 : w23 = _ := (Option.some.inj q30).symm
                                         first | (simp -implicitDefEqProofs [c2, q31, c4, d32, q33, d128, q129, d176, q177, c13, d178, q179, d190, q191, c19, d192, q193, d195]; done) | simp -implicitDefEqProofs [c2, q31, c4, d32, q33, d128, q129, d176, q177, c13, d178, q179, d190, q191, c19, d192, q193, d195, pT30]))
                               · first
                                 | (simp [d32, d128, d176, d178, d190] at q191; done)
                                 | (rw [if_neg (by rw [q191]; exact Bool.false_ne_true)] at q29
                                    try simp only [d32, d128, d176, d178, d190] at q191
                                    have d196 : w20 = _ := (Option.some.inj q29).symm
                                    rcases Bool.eq_false_or_eq_true w20 with q197 | q197
                                    · first
                                      | (simp [d32, d128, d176, d178, d190, d196] at q197; done)
                                      | (rw [if_pos q197] at q30
                                         try simp only [d32, d128, d176, d178, d190, d196] at q197
                                         obtain ⟨r21, q22, q30⟩ := bindQ q30
                                         have c22 : F51 [.i .i64 s.loss_, .i .i64 0, .i .i64 100] = some (.b r21) := tells_eq inj51 (a := (s.loss_, 0, 100)) q22
                                         have d198 : w23 = _ := (Option.some.inj q30).symm
                                         first | (simp -implicitDefEqProofs [c2, q31, c4, d32, q33, d128, q129, d176, q177, c13, d178, q179, d190, q191, d196, q197, c22, d198]; done) | simp -implicitDefEqProofs [c2, q31, c4, d32, q33, d128, q129, d176, q177, c13, d178, q179, d190, q191, d196, q197, c22, d198, pT30])
                                    · first
                                      | (simp [d32, d128, d176, d178, d190, d196] at q197; done)
                                      | (rw [if_neg (by rw [q197]; exact Bool.false_ne_true)] at q30
                                         try simp only [d32, d128, d176, d178, d190, d196] at q197
                                         have d199 : w23 = _ := (Option.some.inj q30).symm
                                         first | (simp -implicitDefEqProofs [c2, q31, c4, d32, q33, d128, q129, d176, q177, c13, d178, q179, d190, q191, d196, q197, d199]; done) | simp -implicitDefEqProofs [c2, q31, c4, d32, q33, d128, q129, d176, q177, c13, d178, q179, d190, q191, d196, q197, d199, pT30]))))
                     · first
                       | (simp [d32, d128, d176] at q177; done)
                       | (rw [if_neg (by rw [q177]; exact Bool.false_ne_true)] at q27
                          try simp only [d32, d128, d176] at q177
                          have d200 : w14 = _ := (Option.some.inj q27).symm
                          rcases Bool.eq_false_or_eq_true w14 with q201 | q201
                          · first
                            | (simp [d32, d128, d176, d200] at q201; done)
                            | (rw [if_pos q201] at q28
                               try simp only [d32, d128, d176, d200] at q201
                               obtain ⟨r15, q16, q28⟩ := bindQ q28
                               have c16 : F51 [.i .i64 s.store_, .i .i64 0, .i .i64 60] = some (.b r15) := tells_eq inj51 (a := (s.store_, 0, 60)) q16
                               have d202 : w17 = _ := (Option.some.inj q28).symm
                               rcases Bool.eq_false_or_eq_true w17 with q203 | q203
                               · first
                                 | (simp [d32, d128, d176, d200, d202] at q203; done)
                                 | (rw [if_pos q203] at q29
                                    try simp only [d32, d128, d176, d200, d202] at q203
                                    obtain ⟨r18, q19, q29⟩ := bindQ q29
                                    have c19 : F51 [.i .i64 s.first_, .i .i64 0, .i .i64 s.store_] = some (.b r18) := tells_eq inj51 (a := (s.first_, 0, s.store_)) q19
                                    have d204 : w20 = _ := (Option.some.inj q29).symm
                                    rcases Bool.eq_false_or_eq_true w20 with q205 | q205
                                    · first
                                      | (simp [d32, d128, d176, d200, d202, d204] at q205; done)
                                      | (rw [if_pos q205] at q30
                                         try simp only [d32, d128, d176, d200, d202, d204] at q205
                                         obtain ⟨r21, q22, q30⟩ := bindQ q30
                                         have c22 : F51 [.i .i64 s.loss_, .i .i64 0, .i .i64 100] = some (.b r21) := tells_eq inj51 (a := (s.loss_, 0, 100)) q22
                                         have d206 : w23 = _ := (Option.some.inj q30).symm
                                         first | (simp -implicitDefEqProofs [c2, q31, c4, d32, q33, d128, q129, d176, q177, d200, q201, c16, d202, q203, c19, d204, q205, c22, d206]; done) | simp -implicitDefEqProofs [c2, q31, c4, d32, q33, d128, q129, d176, q177, d200, q201, c16, d202, q203, c19, d204, q205, c22, d206, pT30])
                                    · first
                                      | (simp [d32, d128, d176, d200, d202, d204] at q205; done)
                                      | (rw [if_neg (by rw [q205]; exact Bool.false_ne_true)] at q30
                                         try simp only [d32, d128, d176, d200, d202, d204] at q205
                                         have d207 : w23 = _ := (Option.some.inj q30).symm
                                         first | (simp -implicitDefEqProofs [c2, q31, c4, d32, q33, d128, q129, d176, q177, d200, q201, c16, d202, q203, c19, d204, q205, d207]; done) | simp -implicitDefEqProofs [c2, q31, c4, d32, q33, d128, q129, d176, q177, d200, q201, c16, d202, q203, c19, d204, q205, d207, pT30]))
                               · first
                                 | (simp [d32, d128, d176, d200, d202] at q203; done)
                                 | (rw [if_neg (by rw [q203]; exact Bool.false_ne_true)] at q29
                                    try simp only [d32, d128, d176, d200, d202] at q203
                                    have d208 : w20 = _ := (Option.some.inj q29).symm
                                    rcases Bool.eq_false_or_eq_true w20 with q209 | q209
                                    · first
                                      | (simp [d32, d128, d176, d200, d202, d208] at q209; done)
                                      | (rw [if_pos q209] at q30
                                         try simp only [d32, d128, d176, d200, d202, d208] at q209
                                         obtain ⟨r21, q22, q30⟩ := bindQ q30
                                         have c22 : F51 [.i .i64 s.loss_, .i .i64 0, .i .i64 100] = some (.b r21) := tells_eq inj51 (a := (s.loss_, 0, 100)) q22
                                         have d210 : w23 = _ := (Option.some.inj q30).symm
                                         first | (simp -implicitDefEqProofs [c2, q31, c4, d32, q33, d128, q129, d176, q177, d200, q201, c16, d202, q203, d208, q209, c22, d210]; done) | simp -implicitDefEqProofs [c2, q31, c4, d32, q33, d128, q129, d176, q177, d200, q201, c16, d202, q203, d208, q209, c22, d210, pT30])
                                    · first
                                      | (simp [d32, d128, d176, d200, d202, d208] at q209; done)
                                      | (rw [if_neg (by rw [q209]; exact Bool.false_ne_true)] at q30
                                         try simp only [d32, d128, d176, d200, d202, d208] at q209
                                         have d211 : w23 = _ := (Option.some.inj q30).symm
                                         first | (simp -implicitDefEqProofs [c2, q31, c4, d32, q33, d128, q129, d176, q177, d200, q201, c16, d202, q203, d208, q209, d211]; done) | simp -implicitDefEqProofs [c2, q31, c4, d32, q33, d128, q129, d176, q177, d200, q201, c16, d202, q203, d208, q209, d211, pT30])))
                          · first
                            | (simp [d32, d128, d176, d200] at q201; done)
                            | (rw [if_neg (by rw [q201]; exact Bool.false_ne_true)] at q28
                               try simp only [d32, d128, d176, d200] at q201
                               have d212 : w17 = _ := (Option.some.inj q28).symm
                               rcases Bool.eq_false_or_eq_true w17 with q213 | q213
                               · first
                                 | (simp [d32, d128, d176, d200, d212] at q213; done)
                                 | (rw [if_pos q213] at q29
                                    try simp only [d32, d128, d176, d200, d212] at q213
                                    obtain ⟨r18, q19, q29⟩ := bindQ q29
                                    have c19 : F51 [.i .i64 s.first_, .i .i64 0, .i .i64 s.store_] = some (.b r18) := tells_eq inj51 (a := (s.first_, 0, s.store_)) q19
                                    have d214 : w20 = _ := (Option.some.inj q29).symm
                                    rcases Bool.eq_false_or_eq_true w20 with q215 | q215
                                    · first
                                      | (simp [d32, d128, d176, d200, d212, d214] at q215; done)
                                      | (rw [if_pos q215] at q30
                                         try simp only [d32, d128, d176, d200, d212, d214] at q215
                                         obtain ⟨r21, q22, q30⟩ := bindQ q30
                                         have c22 : F51 [.i .i64 s.loss_, .i .i64 0, .i .i64 100] = some (.b r21) := tells_eq inj51 (a := (s.loss_, 0, 100)) q22
                                         have d216 : w23 = _ := (Option.some.inj q30).symm
                                         first | (simp -implicitDefEqProofs [c2, q31, c4, d32, q33, d128, q129, d176, q177, d200, q201, d212, q213, c19, d214, q215, c22, d216]; done) | simp -implicitDefEqProofs [c2, q31, c4, d32, q33, d128, q129, d176, q177, d200, q201, d212, q213, c19, d214, q215, c22, d216, pT30])
                                    · first
                                      | (simp [d32, d128, d176, d200, d212, d214] at q215; done)
                                      | (rw [if_neg (by rw [q215]; exact Bool.false_ne_true)] at q30
                                         try simp only [d32, d128, d176, d200, d212, d214] at q215
                                         have d217 : w23 = _ := (Option.some.inj q30).symm
                                         first | (simp -implicitDefEqProofs [c2, q31, c4, d32, q33, d128, q129, d176, q177, d200, q201, d212, q213, c19, d214, q215, d217]; done) | simp -implicitDefEqProofs [c2, q31, c4, d32, q33, d128, q129, d176, q177, d200, q201, d212, q213, c19, d214, q215, d217, pT30]))
                               · first
                                 | (simp [d32, d128, d176, d200, d212] at q213; done)
                                 | (rw [if_neg (by rw [q213]; exact Bool.false_ne_true)] at q29
                                    try simp only [d32, d128, d176, d200, d212] at q213
                                    have d218 : w20 = _ := (Option.some.inj q29).symm
                                    rcases Bool.eq_false_or_eq_true w20 with q219 | q219
                                    · first
                                      | (simp [d32, d128, d176, d200, d212, d218] at q219; done)
                                      | (rw [if_pos q219] at q30
                                         try simp only [d32, d128, d176, d200, d212, d218] at q219
                                         obtain ⟨r21, q22, q30⟩ := bindQ q30
                                         have c22 : F51 [.i .i64 s.loss_, .i .i64 0, .i .i64 100] = some (.b r21) := tells_eq inj51 (a := (s.loss_, 0, 100)) q22
                                         have d220 : w23 = _ := (Option.some.inj q30).symm
                                         first | (simp -implicitDefEqProofs [c2, q31, c4, d32, q33, d128, q129, d176, q177, d200, q201, d212, q213, d218, q219, c22, d220]; done) | simp -implicitDefEqProofs [c2, q31, c4, d32, q33, d128, q129, d176, q177, d200, q201, d212, q213, d218, q219, c22, d220, pT30])
                                    · first
                                      | (simp [d32, d128, d176, d200, d212, d218] at q219; done)
                                      | (rw [if_neg (by rw [q219]; exact Bool.false_ne_true)] at q30
                                         try simp only [d32, d128, d176, d200, d212, d218] at q219
                                         have d221 : w23 = _ := (Option.some.inj q30).symm
                                         first | (simp -implicitDefEqProofs [c2, q31, c4, d32, q33, d128, q129, d176, q177, d200, q201, d212, q213, d218, q219, d221]; done) | simp -implicitDefEqProofs [c2, q31, c4, d32, q33, d128, q129, d176, q177, d200, q201, d212, q213, d218, q219, d221, pT30])))))))
      · first
        | (simp at q31; done)
        | (rw [if_neg (by rw [q31]; exact Bool.false_ne_true)] at q24
           have d222 : w5 = _ := (Option.some.inj q24).symm
           rcases Bool.eq_false_or_eq_true w5 with q223 | q223
           · first
             | (simp [d222] at q223; done)
             | (rw [if_pos q223] at q25
                try simp only [d222] at q223
                obtain ⟨r6, q7, q25⟩ := bindQ q25
                have c7 : F57 [.sl 1 (rows ci_i64 s.price_), .i .i64 1000] = some (.b r6) := tells_eq inj57 (a := (s.price_, 1000)) q7
                have d224 : w8 = _ := (Option.some.inj q25).symm
                rcases Bool.eq_false_or_eq_true w8 with q225 | q225
                · first
                  | (simp [d222, d224] at q225; done)
                  | (rw [if_pos q225] at q26
                     try simp only [d222, d224] at q225
                     obtain ⟨r9, q10, q26⟩ := bindQ q26
                     have c10 : F51 [.i .i64 s.most_, .i .i64 0, .i .i64 20] = some (.b r9) := tells_eq inj51 (a := (s.most_, 0, 20)) q10
                     have d226 : w11 = _ := (Option.some.inj q26).symm
                     rcases Bool.eq_false_or_eq_true w11 with q227 | q227
                     · first
                       | (simp [d222, d224, d226] at q227; done)
                       | (rw [if_pos q227] at q27
                          try simp only [d222, d224, d226] at q227
                          obtain ⟨r12, q13, q27⟩ := bindQ q27
                          have c13 : F51 [.i .i64 s.yield_, .i .i64 1, .i .i64 40] = some (.b r12) := tells_eq inj51 (a := (s.yield_, 1, 40)) q13
                          have d228 : w14 = _ := (Option.some.inj q27).symm
                          rcases Bool.eq_false_or_eq_true w14 with q229 | q229
                          · first
                            | (simp [d222, d224, d226, d228] at q229; done)
                            | (rw [if_pos q229] at q28
                               try simp only [d222, d224, d226, d228] at q229
                               obtain ⟨r15, q16, q28⟩ := bindQ q28
                               have c16 : F51 [.i .i64 s.store_, .i .i64 0, .i .i64 60] = some (.b r15) := tells_eq inj51 (a := (s.store_, 0, 60)) q16
                               have d230 : w17 = _ := (Option.some.inj q28).symm
                               rcases Bool.eq_false_or_eq_true w17 with q231 | q231
                               · first
                                 | (simp [d222, d224, d226, d228, d230] at q231; done)
                                 | (rw [if_pos q231] at q29
                                    try simp only [d222, d224, d226, d228, d230] at q231
                                    obtain ⟨r18, q19, q29⟩ := bindQ q29
                                    have c19 : F51 [.i .i64 s.first_, .i .i64 0, .i .i64 s.store_] = some (.b r18) := tells_eq inj51 (a := (s.first_, 0, s.store_)) q19
                                    have d232 : w20 = _ := (Option.some.inj q29).symm
                                    rcases Bool.eq_false_or_eq_true w20 with q233 | q233
                                    · first
                                      | (simp [d222, d224, d226, d228, d230, d232] at q233; done)
                                      | (rw [if_pos q233] at q30
                                         try simp only [d222, d224, d226, d228, d230, d232] at q233
                                         obtain ⟨r21, q22, q30⟩ := bindQ q30
                                         have c22 : F51 [.i .i64 s.loss_, .i .i64 0, .i .i64 100] = some (.b r21) := tells_eq inj51 (a := (s.loss_, 0, 100)) q22
                                         have d234 : w23 = _ := (Option.some.inj q30).symm
                                         first | (simp -implicitDefEqProofs [c2, q31, d222, q223, c7, d224, q225, c10, d226, q227, c13, d228, q229, c16, d230, q231, c19, d232, q233, c22, d234]; done) | simp -implicitDefEqProofs [c2, q31, d222, q223, c7, d224, q225, c10, d226, q227, c13, d228, q229, c16, d230, q231, c19, d232, q233, c22, d234, pT30])
                                    · first
                                      | (simp [d222, d224, d226, d228, d230, d232] at q233; done)
                                      | (rw [if_neg (by rw [q233]; exact Bool.false_ne_true)] at q30
                                         try simp only [d222, d224, d226, d228, d230, d232] at q233
                                         have d235 : w23 = _ := (Option.some.inj q30).symm
                                         first | (simp -implicitDefEqProofs [c2, q31, d222, q223, c7, d224, q225, c10, d226, q227, c13, d228, q229, c16, d230, q231, c19, d232, q233, d235]; done) | simp -implicitDefEqProofs [c2, q31, d222, q223, c7, d224, q225, c10, d226, q227, c13, d228, q229, c16, d230, q231, c19, d232, q233, d235, pT30]))
                               · first
                                 | (simp [d222, d224, d226, d228, d230] at q231; done)
                                 | (rw [if_neg (by rw [q231]; exact Bool.false_ne_true)] at q29
                                    try simp only [d222, d224, d226, d228, d230] at q231
                                    have d236 : w20 = _ := (Option.some.inj q29).symm
                                    rcases Bool.eq_false_or_eq_true w20 with q237 | q237
                                    · first
                                      | (simp [d222, d224, d226, d228, d230, d236] at q237; done)
                                      | (rw [if_pos q237] at q30
                                         try simp only [d222, d224, d226, d228, d230, d236] at q237
                                         obtain ⟨r21, q22, q30⟩ := bindQ q30
                                         have c22 : F51 [.i .i64 s.loss_, .i .i64 0, .i .i64 100] = some (.b r21) := tells_eq inj51 (a := (s.loss_, 0, 100)) q22
                                         have d238 : w23 = _ := (Option.some.inj q30).symm
                                         first | (simp -implicitDefEqProofs [c2, q31, d222, q223, c7, d224, q225, c10, d226, q227, c13, d228, q229, c16, d230, q231, d236, q237, c22, d238]; done) | simp -implicitDefEqProofs [c2, q31, d222, q223, c7, d224, q225, c10, d226, q227, c13, d228, q229, c16, d230, q231, d236, q237, c22, d238, pT30])
                                    · first
                                      | (simp [d222, d224, d226, d228, d230, d236] at q237; done)
                                      | (rw [if_neg (by rw [q237]; exact Bool.false_ne_true)] at q30
                                         try simp only [d222, d224, d226, d228, d230, d236] at q237
                                         have d239 : w23 = _ := (Option.some.inj q30).symm
                                         first | (simp -implicitDefEqProofs [c2, q31, d222, q223, c7, d224, q225, c10, d226, q227, c13, d228, q229, c16, d230, q231, d236, q237, d239]; done) | simp -implicitDefEqProofs [c2, q31, d222, q223, c7, d224, q225, c10, d226, q227, c13, d228, q229, c16, d230, q231, d236, q237, d239, pT30])))
                          · first
                            | (simp [d222, d224, d226, d228] at q229; done)
                            | (rw [if_neg (by rw [q229]; exact Bool.false_ne_true)] at q28
                               try simp only [d222, d224, d226, d228] at q229
                               have d240 : w17 = _ := (Option.some.inj q28).symm
                               rcases Bool.eq_false_or_eq_true w17 with q241 | q241
                               · first
                                 | (simp [d222, d224, d226, d228, d240] at q241; done)
                                 | (rw [if_pos q241] at q29
                                    try simp only [d222, d224, d226, d228, d240] at q241
                                    obtain ⟨r18, q19, q29⟩ := bindQ q29
                                    have c19 : F51 [.i .i64 s.first_, .i .i64 0, .i .i64 s.store_] = some (.b r18) := tells_eq inj51 (a := (s.first_, 0, s.store_)) q19
                                    have d242 : w20 = _ := (Option.some.inj q29).symm
                                    rcases Bool.eq_false_or_eq_true w20 with q243 | q243
                                    · first
                                      | (simp [d222, d224, d226, d228, d240, d242] at q243; done)
                                      | (rw [if_pos q243] at q30
                                         try simp only [d222, d224, d226, d228, d240, d242] at q243
                                         obtain ⟨r21, q22, q30⟩ := bindQ q30
                                         have c22 : F51 [.i .i64 s.loss_, .i .i64 0, .i .i64 100] = some (.b r21) := tells_eq inj51 (a := (s.loss_, 0, 100)) q22
                                         have d244 : w23 = _ := (Option.some.inj q30).symm
                                         first | (simp -implicitDefEqProofs [c2, q31, d222, q223, c7, d224, q225, c10, d226, q227, c13, d228, q229, d240, q241, c19, d242, q243, c22, d244]; done) | simp -implicitDefEqProofs [c2, q31, d222, q223, c7, d224, q225, c10, d226, q227, c13, d228, q229, d240, q241, c19, d242, q243, c22, d244, pT30])
                                    · first
                                      | (simp [d222, d224, d226, d228, d240, d242] at q243; done)
                                      | (rw [if_neg (by rw [q243]; exact Bool.false_ne_true)] at q30
                                         try simp only [d222, d224, d226, d228, d240, d242] at q243
                                         have d245 : w23 = _ := (Option.some.inj q30).symm
                                         first | (simp -implicitDefEqProofs [c2, q31, d222, q223, c7, d224, q225, c10, d226, q227, c13, d228, q229, d240, q241, c19, d242, q243, d245]; done) | simp -implicitDefEqProofs [c2, q31, d222, q223, c7, d224, q225, c10, d226, q227, c13, d228, q229, d240, q241, c19, d242, q243, d245, pT30]))
                               · first
                                 | (simp [d222, d224, d226, d228, d240] at q241; done)
                                 | (rw [if_neg (by rw [q241]; exact Bool.false_ne_true)] at q29
                                    try simp only [d222, d224, d226, d228, d240] at q241
                                    have d246 : w20 = _ := (Option.some.inj q29).symm
                                    rcases Bool.eq_false_or_eq_true w20 with q247 | q247
                                    · first
                                      | (simp [d222, d224, d226, d228, d240, d246] at q247; done)
                                      | (rw [if_pos q247] at q30
                                         try simp only [d222, d224, d226, d228, d240, d246] at q247
                                         obtain ⟨r21, q22, q30⟩ := bindQ q30
                                         have c22 : F51 [.i .i64 s.loss_, .i .i64 0, .i .i64 100] = some (.b r21) := tells_eq inj51 (a := (s.loss_, 0, 100)) q22
                                         have d248 : w23 = _ := (Option.some.inj q30).symm
                                         first | (simp -implicitDefEqProofs [c2, q31, d222, q223, c7, d224, q225, c10, d226, q227, c13, d228, q229, d240, q241, d246, q247, c22, d248]; done) | simp -implicitDefEqProofs [c2, q31, d222, q223, c7, d224, q225, c10, d226, q227, c13, d228, q229, d240, q241, d246, q247, c22, d248, pT30])
                                    · first
                                      | (simp [d222, d224, d226, d228, d240, d246] at q247; done)
                                      | (rw [if_neg (by rw [q247]; exact Bool.false_ne_true)] at q30
                                         try simp only [d222, d224, d226, d228, d240, d246] at q247
                                         have d249 : w23 = _ := (Option.some.inj q30).symm
                                         first | (simp -implicitDefEqProofs [c2, q31, d222, q223, c7, d224, q225, c10, d226, q227, c13, d228, q229, d240, q241, d246, q247, d249]; done) | simp -implicitDefEqProofs [c2, q31, d222, q223, c7, d224, q225, c10, d226, q227, c13, d228, q229, d240, q241, d246, q247, d249, pT30]))))
                     · first
                       | (simp [d222, d224, d226] at q227; done)
                       | (rw [if_neg (by rw [q227]; exact Bool.false_ne_true)] at q27
                          try simp only [d222, d224, d226] at q227
                          have d250 : w14 = _ := (Option.some.inj q27).symm
                          rcases Bool.eq_false_or_eq_true w14 with q251 | q251
                          · first
                            | (simp [d222, d224, d226, d250] at q251; done)
                            | (rw [if_pos q251] at q28
                               try simp only [d222, d224, d226, d250] at q251
                               obtain ⟨r15, q16, q28⟩ := bindQ q28
                               have c16 : F51 [.i .i64 s.store_, .i .i64 0, .i .i64 60] = some (.b r15) := tells_eq inj51 (a := (s.store_, 0, 60)) q16
                               have d252 : w17 = _ := (Option.some.inj q28).symm
                               rcases Bool.eq_false_or_eq_true w17 with q253 | q253
                               · first
                                 | (simp [d222, d224, d226, d250, d252] at q253; done)
                                 | (rw [if_pos q253] at q29
                                    try simp only [d222, d224, d226, d250, d252] at q253
                                    obtain ⟨r18, q19, q29⟩ := bindQ q29
                                    have c19 : F51 [.i .i64 s.first_, .i .i64 0, .i .i64 s.store_] = some (.b r18) := tells_eq inj51 (a := (s.first_, 0, s.store_)) q19
                                    have d254 : w20 = _ := (Option.some.inj q29).symm
                                    rcases Bool.eq_false_or_eq_true w20 with q255 | q255
                                    · first
                                      | (simp [d222, d224, d226, d250, d252, d254] at q255; done)
                                      | (rw [if_pos q255] at q30
                                         try simp only [d222, d224, d226, d250, d252, d254] at q255
                                         obtain ⟨r21, q22, q30⟩ := bindQ q30
                                         have c22 : F51 [.i .i64 s.loss_, .i .i64 0, .i .i64 100] = some (.b r21) := tells_eq inj51 (a := (s.loss_, 0, 100)) q22
                                         have d256 : w23 = _ := (Option.some.inj q30).symm
                                         first | (simp -implicitDefEqProofs [c2, q31, d222, q223, c7, d224, q225, c10, d226, q227, d250, q251, c16, d252, q253, c19, d254, q255, c22, d256]; done) | simp -implicitDefEqProofs [c2, q31, d222, q223, c7, d224, q225, c10, d226, q227, d250, q251, c16, d252, q253, c19, d254, q255, c22, d256, pT30])
                                    · first
                                      | (simp [d222, d224, d226, d250, d252, d254] at q255; done)
                                      | (rw [if_neg (by rw [q255]; exact Bool.false_ne_true)] at q30
                                         try simp only [d222, d224, d226, d250, d252, d254] at q255
                                         have d257 : w23 = _ := (Option.some.inj q30).symm
                                         first | (simp -implicitDefEqProofs [c2, q31, d222, q223, c7, d224, q225, c10, d226, q227, d250, q251, c16, d252, q253, c19, d254, q255, d257]; done) | simp -implicitDefEqProofs [c2, q31, d222, q223, c7, d224, q225, c10, d226, q227, d250, q251, c16, d252, q253, c19, d254, q255, d257, pT30]))
                               · first
                                 | (simp [d222, d224, d226, d250, d252] at q253; done)
                                 | (rw [if_neg (by rw [q253]; exact Bool.false_ne_true)] at q29
                                    try simp only [d222, d224, d226, d250, d252] at q253
                                    have d258 : w20 = _ := (Option.some.inj q29).symm
                                    rcases Bool.eq_false_or_eq_true w20 with q259 | q259
                                    · first
                                      | (simp [d222, d224, d226, d250, d252, d258] at q259; done)
                                      | (rw [if_pos q259] at q30
                                         try simp only [d222, d224, d226, d250, d252, d258] at q259
                                         obtain ⟨r21, q22, q30⟩ := bindQ q30
                                         have c22 : F51 [.i .i64 s.loss_, .i .i64 0, .i .i64 100] = some (.b r21) := tells_eq inj51 (a := (s.loss_, 0, 100)) q22
                                         have d260 : w23 = _ := (Option.some.inj q30).symm
                                         first | (simp -implicitDefEqProofs [c2, q31, d222, q223, c7, d224, q225, c10, d226, q227, d250, q251, c16, d252, q253, d258, q259, c22, d260]; done) | simp -implicitDefEqProofs [c2, q31, d222, q223, c7, d224, q225, c10, d226, q227, d250, q251, c16, d252, q253, d258, q259, c22, d260, pT30])
                                    · first
                                      | (simp [d222, d224, d226, d250, d252, d258] at q259; done)
                                      | (rw [if_neg (by rw [q259]; exact Bool.false_ne_true)] at q30
                                         try simp only [d222, d224, d226, d250, d252, d258] at q259
                                         have d261 : w23 = _ := (Option.some.inj q30).symm
                                         first | (simp -implicitDefEqProofs [c2, q31, d222, q223, c7, d224, q225, c10, d226, q227, d250, q251, c16, d252, q253, d258, q259, d261]; done) | simp -implicitDefEqProofs [c2, q31, d222, q223, c7, d224, q225, c10, d226, q227, d250, q251, c16, d252, q253, d258, q259, d261, pT30])))
                          · first
                            | (simp [d222, d224, d226, d250] at q251; done)
                            | (rw [if_neg (by rw [q251]; exact Bool.false_ne_true)] at q28
                               try simp only [d222, d224, d226, d250] at q251
                               have d262 : w17 = _ := (Option.some.inj q28).symm
                               rcases Bool.eq_false_or_eq_true w17 with q263 | q263
                               · first
                                 | (simp [d222, d224, d226, d250, d262] at q263; done)
                                 | (rw [if_pos q263] at q29
                                    try simp only [d222, d224, d226, d250, d262] at q263
                                    obtain ⟨r18, q19, q29⟩ := bindQ q29
                                    have c19 : F51 [.i .i64 s.first_, .i .i64 0, .i .i64 s.store_] = some (.b r18) := tells_eq inj51 (a := (s.first_, 0, s.store_)) q19
                                    have d264 : w20 = _ := (Option.some.inj q29).symm
                                    rcases Bool.eq_false_or_eq_true w20 with q265 | q265
                                    · first
                                      | (simp [d222, d224, d226, d250, d262, d264] at q265; done)
                                      | (rw [if_pos q265] at q30
                                         try simp only [d222, d224, d226, d250, d262, d264] at q265
                                         obtain ⟨r21, q22, q30⟩ := bindQ q30
                                         have c22 : F51 [.i .i64 s.loss_, .i .i64 0, .i .i64 100] = some (.b r21) := tells_eq inj51 (a := (s.loss_, 0, 100)) q22
                                         have d266 : w23 = _ := (Option.some.inj q30).symm
                                         first | (simp -implicitDefEqProofs [c2, q31, d222, q223, c7, d224, q225, c10, d226, q227, d250, q251, d262, q263, c19, d264, q265, c22, d266]; done) | simp -implicitDefEqProofs [c2, q31, d222, q223, c7, d224, q225, c10, d226, q227, d250, q251, d262, q263, c19, d264, q265, c22, d266, pT30])
                                    · first
                                      | (simp [d222, d224, d226, d250, d262, d264] at q265; done)
                                      | (rw [if_neg (by rw [q265]; exact Bool.false_ne_true)] at q30
                                         try simp only [d222, d224, d226, d250, d262, d264] at q265
                                         have d267 : w23 = _ := (Option.some.inj q30).symm
                                         first | (simp -implicitDefEqProofs [c2, q31, d222, q223, c7, d224, q225, c10, d226, q227, d250, q251, d262, q263, c19, d264, q265, d267]; done) | simp -implicitDefEqProofs [c2, q31, d222, q223, c7, d224, q225, c10, d226, q227, d250, q251, d262, q263, c19, d264, q265, d267, pT30]))
                               · first
                                 | (simp [d222, d224, d226, d250, d262] at q263; done)
                                 | (rw [if_neg (by rw [q263]; exact Bool.false_ne_true)] at q29
                                    try simp only [d222, d224, d226, d250, d262] at q263
                                    have d268 : w20 = _ := (Option.some.inj q29).symm
                                    rcases Bool.eq_false_or_eq_true w20 with q269 | q269
                                    · first
                                      | (simp [d222, d224, d226, d250, d262, d268] at q269; done)
                                      | (rw [if_pos q269] at q30
                                         try simp only [d222, d224, d226, d250, d262, d268] at q269
                                         obtain ⟨r21, q22, q30⟩ := bindQ q30
                                         have c22 : F51 [.i .i64 s.loss_, .i .i64 0, .i .i64 100] = some (.b r21) := tells_eq inj51 (a := (s.loss_, 0, 100)) q22
                                         have d270 : w23 = _ := (Option.some.inj q30).symm
                                         first | (simp -implicitDefEqProofs [c2, q31, d222, q223, c7, d224, q225, c10, d226, q227, d250, q251, d262, q263, d268, q269, c22, d270]; done) | simp -implicitDefEqProofs [c2, q31, d222, q223, c7, d224, q225, c10, d226, q227, d250, q251, d262, q263, d268, q269, c22, d270, pT30])
                                    · first
                                      | (simp [d222, d224, d226, d250, d262, d268] at q269; done)
                                      | (rw [if_neg (by rw [q269]; exact Bool.false_ne_true)] at q30
                                         try simp only [d222, d224, d226, d250, d262, d268] at q269
                                         have d271 : w23 = _ := (Option.some.inj q30).symm
                                         first | (simp -implicitDefEqProofs [c2, q31, d222, q223, c7, d224, q225, c10, d226, q227, d250, q251, d262, q263, d268, q269, d271]; done) | simp -implicitDefEqProofs [c2, q31, d222, q223, c7, d224, q225, c10, d226, q227, d250, q251, d262, q263, d268, q269, d271, pT30])))))
                · first
                  | (simp [d222, d224] at q225; done)
                  | (rw [if_neg (by rw [q225]; exact Bool.false_ne_true)] at q26
                     try simp only [d222, d224] at q225
                     have d272 : w11 = _ := (Option.some.inj q26).symm
                     rcases Bool.eq_false_or_eq_true w11 with q273 | q273
                     · first
                       | (simp [d222, d224, d272] at q273; done)
                       | (rw [if_pos q273] at q27
                          try simp only [d222, d224, d272] at q273
                          obtain ⟨r12, q13, q27⟩ := bindQ q27
                          have c13 : F51 [.i .i64 s.yield_, .i .i64 1, .i .i64 40] = some (.b r12) := tells_eq inj51 (a := (s.yield_, 1, 40)) q13
                          have d274 : w14 = _ := (Option.some.inj q27).symm
                          rcases Bool.eq_false_or_eq_true w14 with q275 | q275
                          · first
                            | (simp [d222, d224, d272, d274] at q275; done)
                            | (rw [if_pos q275] at q28
                               try simp only [d222, d224, d272, d274] at q275
                               obtain ⟨r15, q16, q28⟩ := bindQ q28
                               have c16 : F51 [.i .i64 s.store_, .i .i64 0, .i .i64 60] = some (.b r15) := tells_eq inj51 (a := (s.store_, 0, 60)) q16
                               have d276 : w17 = _ := (Option.some.inj q28).symm
                               rcases Bool.eq_false_or_eq_true w17 with q277 | q277
                               · first
                                 | (simp [d222, d224, d272, d274, d276] at q277; done)
                                 | (rw [if_pos q277] at q29
                                    try simp only [d222, d224, d272, d274, d276] at q277
                                    obtain ⟨r18, q19, q29⟩ := bindQ q29
                                    have c19 : F51 [.i .i64 s.first_, .i .i64 0, .i .i64 s.store_] = some (.b r18) := tells_eq inj51 (a := (s.first_, 0, s.store_)) q19
                                    have d278 : w20 = _ := (Option.some.inj q29).symm
                                    rcases Bool.eq_false_or_eq_true w20 with q279 | q279
                                    · first
                                      | (simp [d222, d224, d272, d274, d276, d278] at q279; done)
                                      | (rw [if_pos q279] at q30
                                         try simp only [d222, d224, d272, d274, d276, d278] at q279
                                         obtain ⟨r21, q22, q30⟩ := bindQ q30
                                         have c22 : F51 [.i .i64 s.loss_, .i .i64 0, .i .i64 100] = some (.b r21) := tells_eq inj51 (a := (s.loss_, 0, 100)) q22
                                         have d280 : w23 = _ := (Option.some.inj q30).symm
                                         first | (simp -implicitDefEqProofs [c2, q31, d222, q223, c7, d224, q225, d272, q273, c13, d274, q275, c16, d276, q277, c19, d278, q279, c22, d280]; done) | simp -implicitDefEqProofs [c2, q31, d222, q223, c7, d224, q225, d272, q273, c13, d274, q275, c16, d276, q277, c19, d278, q279, c22, d280, pT30])
                                    · first
                                      | (simp [d222, d224, d272, d274, d276, d278] at q279; done)
                                      | (rw [if_neg (by rw [q279]; exact Bool.false_ne_true)] at q30
                                         try simp only [d222, d224, d272, d274, d276, d278] at q279
                                         have d281 : w23 = _ := (Option.some.inj q30).symm
                                         first | (simp -implicitDefEqProofs [c2, q31, d222, q223, c7, d224, q225, d272, q273, c13, d274, q275, c16, d276, q277, c19, d278, q279, d281]; done) | simp -implicitDefEqProofs [c2, q31, d222, q223, c7, d224, q225, d272, q273, c13, d274, q275, c16, d276, q277, c19, d278, q279, d281, pT30]))
                               · first
                                 | (simp [d222, d224, d272, d274, d276] at q277; done)
                                 | (rw [if_neg (by rw [q277]; exact Bool.false_ne_true)] at q29
                                    try simp only [d222, d224, d272, d274, d276] at q277
                                    have d282 : w20 = _ := (Option.some.inj q29).symm
                                    rcases Bool.eq_false_or_eq_true w20 with q283 | q283
                                    · first
                                      | (simp [d222, d224, d272, d274, d276, d282] at q283; done)
                                      | (rw [if_pos q283] at q30
                                         try simp only [d222, d224, d272, d274, d276, d282] at q283
                                         obtain ⟨r21, q22, q30⟩ := bindQ q30
                                         have c22 : F51 [.i .i64 s.loss_, .i .i64 0, .i .i64 100] = some (.b r21) := tells_eq inj51 (a := (s.loss_, 0, 100)) q22
                                         have d284 : w23 = _ := (Option.some.inj q30).symm
                                         first | (simp -implicitDefEqProofs [c2, q31, d222, q223, c7, d224, q225, d272, q273, c13, d274, q275, c16, d276, q277, d282, q283, c22, d284]; done) | simp -implicitDefEqProofs [c2, q31, d222, q223, c7, d224, q225, d272, q273, c13, d274, q275, c16, d276, q277, d282, q283, c22, d284, pT30])
                                    · first
                                      | (simp [d222, d224, d272, d274, d276, d282] at q283; done)
                                      | (rw [if_neg (by rw [q283]; exact Bool.false_ne_true)] at q30
                                         try simp only [d222, d224, d272, d274, d276, d282] at q283
                                         have d285 : w23 = _ := (Option.some.inj q30).symm
                                         first | (simp -implicitDefEqProofs [c2, q31, d222, q223, c7, d224, q225, d272, q273, c13, d274, q275, c16, d276, q277, d282, q283, d285]; done) | simp -implicitDefEqProofs [c2, q31, d222, q223, c7, d224, q225, d272, q273, c13, d274, q275, c16, d276, q277, d282, q283, d285, pT30])))
                          · first
                            | (simp [d222, d224, d272, d274] at q275; done)
                            | (rw [if_neg (by rw [q275]; exact Bool.false_ne_true)] at q28
                               try simp only [d222, d224, d272, d274] at q275
                               have d286 : w17 = _ := (Option.some.inj q28).symm
                               rcases Bool.eq_false_or_eq_true w17 with q287 | q287
                               · first
                                 | (simp [d222, d224, d272, d274, d286] at q287; done)
                                 | (rw [if_pos q287] at q29
                                    try simp only [d222, d224, d272, d274, d286] at q287
                                    obtain ⟨r18, q19, q29⟩ := bindQ q29
                                    have c19 : F51 [.i .i64 s.first_, .i .i64 0, .i .i64 s.store_] = some (.b r18) := tells_eq inj51 (a := (s.first_, 0, s.store_)) q19
                                    have d288 : w20 = _ := (Option.some.inj q29).symm
                                    rcases Bool.eq_false_or_eq_true w20 with q289 | q289
                                    · first
                                      | (simp [d222, d224, d272, d274, d286, d288] at q289; done)
                                      | (rw [if_pos q289] at q30
                                         try simp only [d222, d224, d272, d274, d286, d288] at q289
                                         obtain ⟨r21, q22, q30⟩ := bindQ q30
                                         have c22 : F51 [.i .i64 s.loss_, .i .i64 0, .i .i64 100] = some (.b r21) := tells_eq inj51 (a := (s.loss_, 0, 100)) q22
                                         have d290 : w23 = _ := (Option.some.inj q30).symm
                                         first | (simp -implicitDefEqProofs [c2, q31, d222, q223, c7, d224, q225, d272, q273, c13, d274, q275, d286, q287, c19, d288, q289, c22, d290]; done) | simp -implicitDefEqProofs [c2, q31, d222, q223, c7, d224, q225, d272, q273, c13, d274, q275, d286, q287, c19, d288, q289, c22, d290, pT30])
                                    · first
                                      | (simp [d222, d224, d272, d274, d286, d288] at q289; done)
                                      | (rw [if_neg (by rw [q289]; exact Bool.false_ne_true)] at q30
                                         try simp only [d222, d224, d272, d274, d286, d288] at q289
                                         have d291 : w23 = _ := (Option.some.inj q30).symm
                                         first | (simp -implicitDefEqProofs [c2, q31, d222, q223, c7, d224, q225, d272, q273, c13, d274, q275, d286, q287, c19, d288, q289, d291]; done) | simp -implicitDefEqProofs [c2, q31, d222, q223, c7, d224, q225, d272, q273, c13, d274, q275, d286, q287, c19, d288, q289, d291, pT30]))
                               · first
                                 | (simp [d222, d224, d272, d274, d286] at q287; done)
                                 | (rw [if_neg (by rw [q287]; exact Bool.false_ne_true)] at q29
                                    try simp only [d222, d224, d272, d274, d286] at q287
                                    have d292 : w20 = _ := (Option.some.inj q29).symm
                                    rcases Bool.eq_false_or_eq_true w20 with q293 | q293
                                    · first
                                      | (simp [d222, d224, d272, d274, d286, d292] at q293; done)
                                      | (rw [if_pos q293] at q30
                                         try simp only [d222, d224, d272, d274, d286, d292] at q293
                                         obtain ⟨r21, q22, q30⟩ := bindQ q30
                                         have c22 : F51 [.i .i64 s.loss_, .i .i64 0, .i .i64 100] = some (.b r21) := tells_eq inj51 (a := (s.loss_, 0, 100)) q22
                                         have d294 : w23 = _ := (Option.some.inj q30).symm
                                         first | (simp -implicitDefEqProofs [c2, q31, d222, q223, c7, d224, q225, d272, q273, c13, d274, q275, d286, q287, d292, q293, c22, d294]; done) | simp -implicitDefEqProofs [c2, q31, d222, q223, c7, d224, q225, d272, q273, c13, d274, q275, d286, q287, d292, q293, c22, d294, pT30])
                                    · first
                                      | (simp [d222, d224, d272, d274, d286, d292] at q293; done)
                                      | (rw [if_neg (by rw [q293]; exact Bool.false_ne_true)] at q30
                                         try simp only [d222, d224, d272, d274, d286, d292] at q293
                                         have d295 : w23 = _ := (Option.some.inj q30).symm
                                         first | (simp -implicitDefEqProofs [c2, q31, d222, q223, c7, d224, q225, d272, q273, c13, d274, q275, d286, q287, d292, q293, d295]; done) | simp -implicitDefEqProofs [c2, q31, d222, q223, c7, d224, q225, d272, q273, c13, d274, q275, d286, q287, d292, q293, d295, pT30]))))
                     · first
                       | (simp [d222, d224, d272] at q273; done)
                       | (rw [if_neg (by rw [q273]; exact Bool.false_ne_true)] at q27
                          try simp only [d222, d224, d272] at q273
                          have d296 : w14 = _ := (Option.some.inj q27).symm
                          rcases Bool.eq_false_or_eq_true w14 with q297 | q297
                          · first
                            | (simp [d222, d224, d272, d296] at q297; done)
                            | (rw [if_pos q297] at q28
                               try simp only [d222, d224, d272, d296] at q297
                               obtain ⟨r15, q16, q28⟩ := bindQ q28
                               have c16 : F51 [.i .i64 s.store_, .i .i64 0, .i .i64 60] = some (.b r15) := tells_eq inj51 (a := (s.store_, 0, 60)) q16
                               have d298 : w17 = _ := (Option.some.inj q28).symm
                               rcases Bool.eq_false_or_eq_true w17 with q299 | q299
                               · first
                                 | (simp [d222, d224, d272, d296, d298] at q299; done)
                                 | (rw [if_pos q299] at q29
                                    try simp only [d222, d224, d272, d296, d298] at q299
                                    obtain ⟨r18, q19, q29⟩ := bindQ q29
                                    have c19 : F51 [.i .i64 s.first_, .i .i64 0, .i .i64 s.store_] = some (.b r18) := tells_eq inj51 (a := (s.first_, 0, s.store_)) q19
                                    have d300 : w20 = _ := (Option.some.inj q29).symm
                                    rcases Bool.eq_false_or_eq_true w20 with q301 | q301
                                    · first
                                      | (simp [d222, d224, d272, d296, d298, d300] at q301; done)
                                      | (rw [if_pos q301] at q30
                                         try simp only [d222, d224, d272, d296, d298, d300] at q301
                                         obtain ⟨r21, q22, q30⟩ := bindQ q30
                                         have c22 : F51 [.i .i64 s.loss_, .i .i64 0, .i .i64 100] = some (.b r21) := tells_eq inj51 (a := (s.loss_, 0, 100)) q22
                                         have d302 : w23 = _ := (Option.some.inj q30).symm
                                         first | (simp -implicitDefEqProofs [c2, q31, d222, q223, c7, d224, q225, d272, q273, d296, q297, c16, d298, q299, c19, d300, q301, c22, d302]; done) | simp -implicitDefEqProofs [c2, q31, d222, q223, c7, d224, q225, d272, q273, d296, q297, c16, d298, q299, c19, d300, q301, c22, d302, pT30])
                                    · first
                                      | (simp [d222, d224, d272, d296, d298, d300] at q301; done)
                                      | (rw [if_neg (by rw [q301]; exact Bool.false_ne_true)] at q30
                                         try simp only [d222, d224, d272, d296, d298, d300] at q301
                                         have d303 : w23 = _ := (Option.some.inj q30).symm
                                         first | (simp -implicitDefEqProofs [c2, q31, d222, q223, c7, d224, q225, d272, q273, d296, q297, c16, d298, q299, c19, d300, q301, d303]; done) | simp -implicitDefEqProofs [c2, q31, d222, q223, c7, d224, q225, d272, q273, d296, q297, c16, d298, q299, c19, d300, q301, d303, pT30]))
                               · first
                                 | (simp [d222, d224, d272, d296, d298] at q299; done)
                                 | (rw [if_neg (by rw [q299]; exact Bool.false_ne_true)] at q29
                                    try simp only [d222, d224, d272, d296, d298] at q299
                                    have d304 : w20 = _ := (Option.some.inj q29).symm
                                    rcases Bool.eq_false_or_eq_true w20 with q305 | q305
                                    · first
                                      | (simp [d222, d224, d272, d296, d298, d304] at q305; done)
                                      | (rw [if_pos q305] at q30
                                         try simp only [d222, d224, d272, d296, d298, d304] at q305
                                         obtain ⟨r21, q22, q30⟩ := bindQ q30
                                         have c22 : F51 [.i .i64 s.loss_, .i .i64 0, .i .i64 100] = some (.b r21) := tells_eq inj51 (a := (s.loss_, 0, 100)) q22
                                         have d306 : w23 = _ := (Option.some.inj q30).symm
                                         first | (simp -implicitDefEqProofs [c2, q31, d222, q223, c7, d224, q225, d272, q273, d296, q297, c16, d298, q299, d304, q305, c22, d306]; done) | simp -implicitDefEqProofs [c2, q31, d222, q223, c7, d224, q225, d272, q273, d296, q297, c16, d298, q299, d304, q305, c22, d306, pT30])
                                    · first
                                      | (simp [d222, d224, d272, d296, d298, d304] at q305; done)
                                      | (rw [if_neg (by rw [q305]; exact Bool.false_ne_true)] at q30
                                         try simp only [d222, d224, d272, d296, d298, d304] at q305
                                         have d307 : w23 = _ := (Option.some.inj q30).symm
                                         first | (simp -implicitDefEqProofs [c2, q31, d222, q223, c7, d224, q225, d272, q273, d296, q297, c16, d298, q299, d304, q305, d307]; done) | simp -implicitDefEqProofs [c2, q31, d222, q223, c7, d224, q225, d272, q273, d296, q297, c16, d298, q299, d304, q305, d307, pT30])))
                          · first
                            | (simp [d222, d224, d272, d296] at q297; done)
                            | (rw [if_neg (by rw [q297]; exact Bool.false_ne_true)] at q28
                               try simp only [d222, d224, d272, d296] at q297
                               have d308 : w17 = _ := (Option.some.inj q28).symm
                               rcases Bool.eq_false_or_eq_true w17 with q309 | q309
                               · first
                                 | (simp [d222, d224, d272, d296, d308] at q309; done)
                                 | (rw [if_pos q309] at q29
                                    try simp only [d222, d224, d272, d296, d308] at q309
                                    obtain ⟨r18, q19, q29⟩ := bindQ q29
                                    have c19 : F51 [.i .i64 s.first_, .i .i64 0, .i .i64 s.store_] = some (.b r18) := tells_eq inj51 (a := (s.first_, 0, s.store_)) q19
                                    have d310 : w20 = _ := (Option.some.inj q29).symm
                                    rcases Bool.eq_false_or_eq_true w20 with q311 | q311
                                    · first
                                      | (simp [d222, d224, d272, d296, d308, d310] at q311; done)
                                      | (rw [if_pos q311] at q30
                                         try simp only [d222, d224, d272, d296, d308, d310] at q311
                                         obtain ⟨r21, q22, q30⟩ := bindQ q30
                                         have c22 : F51 [.i .i64 s.loss_, .i .i64 0, .i .i64 100] = some (.b r21) := tells_eq inj51 (a := (s.loss_, 0, 100)) q22
                                         have d312 : w23 = _ := (Option.some.inj q30).symm
                                         first | (simp -implicitDefEqProofs [c2, q31, d222, q223, c7, d224, q225, d272, q273, d296, q297, d308, q309, c19, d310, q311, c22, d312]; done) | simp -implicitDefEqProofs [c2, q31, d222, q223, c7, d224, q225, d272, q273, d296, q297, d308, q309, c19, d310, q311, c22, d312, pT30])
                                    · first
                                      | (simp [d222, d224, d272, d296, d308, d310] at q311; done)
                                      | (rw [if_neg (by rw [q311]; exact Bool.false_ne_true)] at q30
                                         try simp only [d222, d224, d272, d296, d308, d310] at q311
                                         have d313 : w23 = _ := (Option.some.inj q30).symm
                                         first | (simp -implicitDefEqProofs [c2, q31, d222, q223, c7, d224, q225, d272, q273, d296, q297, d308, q309, c19, d310, q311, d313]; done) | simp -implicitDefEqProofs [c2, q31, d222, q223, c7, d224, q225, d272, q273, d296, q297, d308, q309, c19, d310, q311, d313, pT30]))
                               · first
                                 | (simp [d222, d224, d272, d296, d308] at q309; done)
                                 | (rw [if_neg (by rw [q309]; exact Bool.false_ne_true)] at q29
                                    try simp only [d222, d224, d272, d296, d308] at q309
                                    have d314 : w20 = _ := (Option.some.inj q29).symm
                                    rcases Bool.eq_false_or_eq_true w20 with q315 | q315
                                    · first
                                      | (simp [d222, d224, d272, d296, d308, d314] at q315; done)
                                      | (rw [if_pos q315] at q30
                                         try simp only [d222, d224, d272, d296, d308, d314] at q315
                                         obtain ⟨r21, q22, q30⟩ := bindQ q30
                                         have c22 : F51 [.i .i64 s.loss_, .i .i64 0, .i .i64 100] = some (.b r21) := tells_eq inj51 (a := (s.loss_, 0, 100)) q22
                                         have d316 : w23 = _ := (Option.some.inj q30).symm
                                         first | (simp -implicitDefEqProofs [c2, q31, d222, q223, c7, d224, q225, d272, q273, d296, q297, d308, q309, d314, q315, c22, d316]; done) | simp -implicitDefEqProofs [c2, q31, d222, q223, c7, d224, q225, d272, q273, d296, q297, d308, q309, d314, q315, c22, d316, pT30])
                                    · first
                                      | (simp [d222, d224, d272, d296, d308, d314] at q315; done)
                                      | (rw [if_neg (by rw [q315]; exact Bool.false_ne_true)] at q30
                                         try simp only [d222, d224, d272, d296, d308, d314] at q315
                                         have d317 : w23 = _ := (Option.some.inj q30).symm
                                         first | (simp -implicitDefEqProofs [c2, q31, d222, q223, c7, d224, q225, d272, q273, d296, q297, d308, q309, d314, q315, d317]; done) | simp -implicitDefEqProofs [c2, q31, d222, q223, c7, d224, q225, d272, q273, d296, q297, d308, q309, d314, q315, d317, pT30]))))))
           · first
             | (simp [d222] at q223; done)
             | (rw [if_neg (by rw [q223]; exact Bool.false_ne_true)] at q25
                try simp only [d222] at q223
                have d318 : w8 = _ := (Option.some.inj q25).symm
                rcases Bool.eq_false_or_eq_true w8 with q319 | q319
                · first
                  | (simp [d222, d318] at q319; done)
                  | (rw [if_pos q319] at q26
                     try simp only [d222, d318] at q319
                     obtain ⟨r9, q10, q26⟩ := bindQ q26
                     have c10 : F51 [.i .i64 s.most_, .i .i64 0, .i .i64 20] = some (.b r9) := tells_eq inj51 (a := (s.most_, 0, 20)) q10
                     have d320 : w11 = _ := (Option.some.inj q26).symm
                     rcases Bool.eq_false_or_eq_true w11 with q321 | q321
                     · first
                       | (simp [d222, d318, d320] at q321; done)
                       | (rw [if_pos q321] at q27
                          try simp only [d222, d318, d320] at q321
                          obtain ⟨r12, q13, q27⟩ := bindQ q27
                          have c13 : F51 [.i .i64 s.yield_, .i .i64 1, .i .i64 40] = some (.b r12) := tells_eq inj51 (a := (s.yield_, 1, 40)) q13
                          have d322 : w14 = _ := (Option.some.inj q27).symm
                          rcases Bool.eq_false_or_eq_true w14 with q323 | q323
                          · first
                            | (simp [d222, d318, d320, d322] at q323; done)
                            | (rw [if_pos q323] at q28
                               try simp only [d222, d318, d320, d322] at q323
                               obtain ⟨r15, q16, q28⟩ := bindQ q28
                               have c16 : F51 [.i .i64 s.store_, .i .i64 0, .i .i64 60] = some (.b r15) := tells_eq inj51 (a := (s.store_, 0, 60)) q16
                               have d324 : w17 = _ := (Option.some.inj q28).symm
                               rcases Bool.eq_false_or_eq_true w17 with q325 | q325
                               · first
                                 | (simp [d222, d318, d320, d322, d324] at q325; done)
                                 | (rw [if_pos q325] at q29
                                    try simp only [d222, d318, d320, d322, d324] at q325
                                    obtain ⟨r18, q19, q29⟩ := bindQ q29
                                    have c19 : F51 [.i .i64 s.first_, .i .i64 0, .i .i64 s.store_] = some (.b r18) := tells_eq inj51 (a := (s.first_, 0, s.store_)) q19
                                    have d326 : w20 = _ := (Option.some.inj q29).symm
                                    rcases Bool.eq_false_or_eq_true w20 with q327 | q327
                                    · first
                                      | (simp [d222, d318, d320, d322, d324, d326] at q327; done)
                                      | (rw [if_pos q327] at q30
                                         try simp only [d222, d318, d320, d322, d324, d326] at q327
                                         obtain ⟨r21, q22, q30⟩ := bindQ q30
                                         have c22 : F51 [.i .i64 s.loss_, .i .i64 0, .i .i64 100] = some (.b r21) := tells_eq inj51 (a := (s.loss_, 0, 100)) q22
                                         have d328 : w23 = _ := (Option.some.inj q30).symm
                                         first | (simp -implicitDefEqProofs [c2, q31, d222, q223, d318, q319, c10, d320, q321, c13, d322, q323, c16, d324, q325, c19, d326, q327, c22, d328]; done) | simp -implicitDefEqProofs [c2, q31, d222, q223, d318, q319, c10, d320, q321, c13, d322, q323, c16, d324, q325, c19, d326, q327, c22, d328, pT30])
                                    · first
                                      | (simp [d222, d318, d320, d322, d324, d326] at q327; done)
                                      | (rw [if_neg (by rw [q327]; exact Bool.false_ne_true)] at q30
                                         try simp only [d222, d318, d320, d322, d324, d326] at q327
                                         have d329 : w23 = _ := (Option.some.inj q30).symm
                                         first | (simp -implicitDefEqProofs [c2, q31, d222, q223, d318, q319, c10, d320, q321, c13, d322, q323, c16, d324, q325, c19, d326, q327, d329]; done) | simp -implicitDefEqProofs [c2, q31, d222, q223, d318, q319, c10, d320, q321, c13, d322, q323, c16, d324, q325, c19, d326, q327, d329, pT30]))
                               · first
                                 | (simp [d222, d318, d320, d322, d324] at q325; done)
                                 | (rw [if_neg (by rw [q325]; exact Bool.false_ne_true)] at q29
                                    try simp only [d222, d318, d320, d322, d324] at q325
                                    have d330 : w20 = _ := (Option.some.inj q29).symm
                                    rcases Bool.eq_false_or_eq_true w20 with q331 | q331
                                    · first
                                      | (simp [d222, d318, d320, d322, d324, d330] at q331; done)
                                      | (rw [if_pos q331] at q30
                                         try simp only [d222, d318, d320, d322, d324, d330] at q331
                                         obtain ⟨r21, q22, q30⟩ := bindQ q30
                                         have c22 : F51 [.i .i64 s.loss_, .i .i64 0, .i .i64 100] = some (.b r21) := tells_eq inj51 (a := (s.loss_, 0, 100)) q22
                                         have d332 : w23 = _ := (Option.some.inj q30).symm
                                         first | (simp -implicitDefEqProofs [c2, q31, d222, q223, d318, q319, c10, d320, q321, c13, d322, q323, c16, d324, q325, d330, q331, c22, d332]; done) | simp -implicitDefEqProofs [c2, q31, d222, q223, d318, q319, c10, d320, q321, c13, d322, q323, c16, d324, q325, d330, q331, c22, d332, pT30])
                                    · first
                                      | (simp [d222, d318, d320, d322, d324, d330] at q331; done)
                                      | (rw [if_neg (by rw [q331]; exact Bool.false_ne_true)] at q30
                                         try simp only [d222, d318, d320, d322, d324, d330] at q331
                                         have d333 : w23 = _ := (Option.some.inj q30).symm
                                         first | (simp -implicitDefEqProofs [c2, q31, d222, q223, d318, q319, c10, d320, q321, c13, d322, q323, c16, d324, q325, d330, q331, d333]; done) | simp -implicitDefEqProofs [c2, q31, d222, q223, d318, q319, c10, d320, q321, c13, d322, q323, c16, d324, q325, d330, q331, d333, pT30])))
                          · first
                            | (simp [d222, d318, d320, d322] at q323; done)
                            | (rw [if_neg (by rw [q323]; exact Bool.false_ne_true)] at q28
                               try simp only [d222, d318, d320, d322] at q323
                               have d334 : w17 = _ := (Option.some.inj q28).symm
                               rcases Bool.eq_false_or_eq_true w17 with q335 | q335
                               · first
                                 | (simp [d222, d318, d320, d322, d334] at q335; done)
                                 | (rw [if_pos q335] at q29
                                    try simp only [d222, d318, d320, d322, d334] at q335
                                    obtain ⟨r18, q19, q29⟩ := bindQ q29
                                    have c19 : F51 [.i .i64 s.first_, .i .i64 0, .i .i64 s.store_] = some (.b r18) := tells_eq inj51 (a := (s.first_, 0, s.store_)) q19
                                    have d336 : w20 = _ := (Option.some.inj q29).symm
                                    rcases Bool.eq_false_or_eq_true w20 with q337 | q337
                                    · first
                                      | (simp [d222, d318, d320, d322, d334, d336] at q337; done)
                                      | (rw [if_pos q337] at q30
                                         try simp only [d222, d318, d320, d322, d334, d336] at q337
                                         obtain ⟨r21, q22, q30⟩ := bindQ q30
                                         have c22 : F51 [.i .i64 s.loss_, .i .i64 0, .i .i64 100] = some (.b r21) := tells_eq inj51 (a := (s.loss_, 0, 100)) q22
                                         have d338 : w23 = _ := (Option.some.inj q30).symm
                                         first | (simp -implicitDefEqProofs [c2, q31, d222, q223, d318, q319, c10, d320, q321, c13, d322, q323, d334, q335, c19, d336, q337, c22, d338]; done) | simp -implicitDefEqProofs [c2, q31, d222, q223, d318, q319, c10, d320, q321, c13, d322, q323, d334, q335, c19, d336, q337, c22, d338, pT30])
                                    · first
                                      | (simp [d222, d318, d320, d322, d334, d336] at q337; done)
                                      | (rw [if_neg (by rw [q337]; exact Bool.false_ne_true)] at q30
                                         try simp only [d222, d318, d320, d322, d334, d336] at q337
                                         have d339 : w23 = _ := (Option.some.inj q30).symm
                                         first | (simp -implicitDefEqProofs [c2, q31, d222, q223, d318, q319, c10, d320, q321, c13, d322, q323, d334, q335, c19, d336, q337, d339]; done) | simp -implicitDefEqProofs [c2, q31, d222, q223, d318, q319, c10, d320, q321, c13, d322, q323, d334, q335, c19, d336, q337, d339, pT30]))
                               · first
                                 | (simp [d222, d318, d320, d322, d334] at q335; done)
                                 | (rw [if_neg (by rw [q335]; exact Bool.false_ne_true)] at q29
                                    try simp only [d222, d318, d320, d322, d334] at q335
                                    have d340 : w20 = _ := (Option.some.inj q29).symm
                                    rcases Bool.eq_false_or_eq_true w20 with q341 | q341
                                    · first
                                      | (simp [d222, d318, d320, d322, d334, d340] at q341; done)
                                      | (rw [if_pos q341] at q30
                                         try simp only [d222, d318, d320, d322, d334, d340] at q341
                                         obtain ⟨r21, q22, q30⟩ := bindQ q30
                                         have c22 : F51 [.i .i64 s.loss_, .i .i64 0, .i .i64 100] = some (.b r21) := tells_eq inj51 (a := (s.loss_, 0, 100)) q22
                                         have d342 : w23 = _ := (Option.some.inj q30).symm
                                         first | (simp -implicitDefEqProofs [c2, q31, d222, q223, d318, q319, c10, d320, q321, c13, d322, q323, d334, q335, d340, q341, c22, d342]; done) | simp -implicitDefEqProofs [c2, q31, d222, q223, d318, q319, c10, d320, q321, c13, d322, q323, d334, q335, d340, q341, c22, d342, pT30])
                                    · first
                                      | (simp [d222, d318, d320, d322, d334, d340] at q341; done)
                                      | (rw [if_neg (by rw [q341]; exact Bool.false_ne_true)] at q30
                                         try simp only [d222, d318, d320, d322, d334, d340] at q341
                                         have d343 : w23 = _ := (Option.some.inj q30).symm
                                         first | (simp -implicitDefEqProofs [c2, q31, d222, q223, d318, q319, c10, d320, q321, c13, d322, q323, d334, q335, d340, q341, d343]; done) | simp -implicitDefEqProofs [c2, q31, d222, q223, d318, q319, c10, d320, q321, c13, d322, q323, d334, q335, d340, q341, d343, pT30]))))
                     · first
                       | (simp [d222, d318, d320] at q321; done)
                       | (rw [if_neg (by rw [q321]; exact Bool.false_ne_true)] at q27
                          try simp only [d222, d318, d320] at q321
                          have d344 : w14 = _ := (Option.some.inj q27).symm
                          rcases Bool.eq_false_or_eq_true w14 with q345 | q345
                          · first
                            | (simp [d222, d318, d320, d344] at q345; done)
                            | (rw [if_pos q345] at q28
                               try simp only [d222, d318, d320, d344] at q345
                               obtain ⟨r15, q16, q28⟩ := bindQ q28
                               have c16 : F51 [.i .i64 s.store_, .i .i64 0, .i .i64 60] = some (.b r15) := tells_eq inj51 (a := (s.store_, 0, 60)) q16
                               have d346 : w17 = _ := (Option.some.inj q28).symm
                               rcases Bool.eq_false_or_eq_true w17 with q347 | q347
                               · first
                                 | (simp [d222, d318, d320, d344, d346] at q347; done)
                                 | (rw [if_pos q347] at q29
                                    try simp only [d222, d318, d320, d344, d346] at q347
                                    obtain ⟨r18, q19, q29⟩ := bindQ q29
                                    have c19 : F51 [.i .i64 s.first_, .i .i64 0, .i .i64 s.store_] = some (.b r18) := tells_eq inj51 (a := (s.first_, 0, s.store_)) q19
                                    have d348 : w20 = _ := (Option.some.inj q29).symm
                                    rcases Bool.eq_false_or_eq_true w20 with q349 | q349
                                    · first
                                      | (simp [d222, d318, d320, d344, d346, d348] at q349; done)
                                      | (rw [if_pos q349] at q30
                                         try simp only [d222, d318, d320, d344, d346, d348] at q349
                                         obtain ⟨r21, q22, q30⟩ := bindQ q30
                                         have c22 : F51 [.i .i64 s.loss_, .i .i64 0, .i .i64 100] = some (.b r21) := tells_eq inj51 (a := (s.loss_, 0, 100)) q22
                                         have d350 : w23 = _ := (Option.some.inj q30).symm
                                         first | (simp -implicitDefEqProofs [c2, q31, d222, q223, d318, q319, c10, d320, q321, d344, q345, c16, d346, q347, c19, d348, q349, c22, d350]; done) | simp -implicitDefEqProofs [c2, q31, d222, q223, d318, q319, c10, d320, q321, d344, q345, c16, d346, q347, c19, d348, q349, c22, d350, pT30])
                                    · first
                                      | (simp [d222, d318, d320, d344, d346, d348] at q349; done)
                                      | (rw [if_neg (by rw [q349]; exact Bool.false_ne_true)] at q30
                                         try simp only [d222, d318, d320, d344, d346, d348] at q349
                                         have d351 : w23 = _ := (Option.some.inj q30).symm
                                         first | (simp -implicitDefEqProofs [c2, q31, d222, q223, d318, q319, c10, d320, q321, d344, q345, c16, d346, q347, c19, d348, q349, d351]; done) | simp -implicitDefEqProofs [c2, q31, d222, q223, d318, q319, c10, d320, q321, d344, q345, c16, d346, q347, c19, d348, q349, d351, pT30]))
                               · first
                                 | (simp [d222, d318, d320, d344, d346] at q347; done)
                                 | (rw [if_neg (by rw [q347]; exact Bool.false_ne_true)] at q29
                                    try simp only [d222, d318, d320, d344, d346] at q347
                                    have d352 : w20 = _ := (Option.some.inj q29).symm
                                    rcases Bool.eq_false_or_eq_true w20 with q353 | q353
                                    · first
                                      | (simp [d222, d318, d320, d344, d346, d352] at q353; done)
                                      | (rw [if_pos q353] at q30
                                         try simp only [d222, d318, d320, d344, d346, d352] at q353
                                         obtain ⟨r21, q22, q30⟩ := bindQ q30
                                         have c22 : F51 [.i .i64 s.loss_, .i .i64 0, .i .i64 100] = some (.b r21) := tells_eq inj51 (a := (s.loss_, 0, 100)) q22
                                         have d354 : w23 = _ := (Option.some.inj q30).symm
                                         first | (simp -implicitDefEqProofs [c2, q31, d222, q223, d318, q319, c10, d320, q321, d344, q345, c16, d346, q347, d352, q353, c22, d354]; done) | simp -implicitDefEqProofs [c2, q31, d222, q223, d318, q319, c10, d320, q321, d344, q345, c16, d346, q347, d352, q353, c22, d354, pT30])
                                    · first
                                      | (simp [d222, d318, d320, d344, d346, d352] at q353; done)
                                      | (rw [if_neg (by rw [q353]; exact Bool.false_ne_true)] at q30
                                         try simp only [d222, d318, d320, d344, d346, d352] at q353
                                         have d355 : w23 = _ := (Option.some.inj q30).symm
                                         first | (simp -implicitDefEqProofs [c2, q31, d222, q223, d318, q319, c10, d320, q321, d344, q345, c16, d346, q347, d352, q353, d355]; done) | simp -implicitDefEqProofs [c2, q31, d222, q223, d318, q319, c10, d320, q321, d344, q345, c16, d346, q347, d352, q353, d355, pT30])))
                          · first
                            | (simp [d222, d318, d320, d344] at q345; done)
                            | (rw [if_neg (by rw [q345]; exact Bool.false_ne_true)] at q28
                               try simp only [d222, d318, d320, d344] at q345
                               have d356 : w17 = _ := (Option.some.inj q28).symm
                               rcases Bool.eq_false_or_eq_true w17 with q357 | q357
                               · first
                                 | (simp [d222, d318, d320, d344, d356] at q357; done)
                                 | (rw [if_pos q357] at q29
                                    try simp only [d222, d318, d320, d344, d356] at q357
                                    obtain ⟨r18, q19, q29⟩ := bindQ q29
                                    have c19 : F51 [.i .i64 s.first_, .i .i64 0, .i .i64 s.store_] = some (.b r18) := tells_eq inj51 (a := (s.first_, 0, s.store_)) q19
                                    have d358 : w20 = _ := (Option.some.inj q29).symm
                                    rcases Bool.eq_false_or_eq_true w20 with q359 | q359
                                    · first
                                      | (simp [d222, d318, d320, d344, d356, d358] at q359; done)
                                      | (rw [if_pos q359] at q30
                                         try simp only [d222, d318, d320, d344, d356, d358] at q359
                                         obtain ⟨r21, q22, q30⟩ := bindQ q30
                                         have c22 : F51 [.i .i64 s.loss_, .i .i64 0, .i .i64 100] = some (.b r21) := tells_eq inj51 (a := (s.loss_, 0, 100)) q22
                                         have d360 : w23 = _ := (Option.some.inj q30).symm
                                         first | (simp -implicitDefEqProofs [c2, q31, d222, q223, d318, q319, c10, d320, q321, d344, q345, d356, q357, c19, d358, q359, c22, d360]; done) | simp -implicitDefEqProofs [c2, q31, d222, q223, d318, q319, c10, d320, q321, d344, q345, d356, q357, c19, d358, q359, c22, d360, pT30])
                                    · first
                                      | (simp [d222, d318, d320, d344, d356, d358] at q359; done)
                                      | (rw [if_neg (by rw [q359]; exact Bool.false_ne_true)] at q30
                                         try simp only [d222, d318, d320, d344, d356, d358] at q359
                                         have d361 : w23 = _ := (Option.some.inj q30).symm
                                         first | (simp -implicitDefEqProofs [c2, q31, d222, q223, d318, q319, c10, d320, q321, d344, q345, d356, q357, c19, d358, q359, d361]; done) | simp -implicitDefEqProofs [c2, q31, d222, q223, d318, q319, c10, d320, q321, d344, q345, d356, q357, c19, d358, q359, d361, pT30]))
                               · first
                                 | (simp [d222, d318, d320, d344, d356] at q357; done)
                                 | (rw [if_neg (by rw [q357]; exact Bool.false_ne_true)] at q29
                                    try simp only [d222, d318, d320, d344, d356] at q357
                                    have d362 : w20 = _ := (Option.some.inj q29).symm
                                    rcases Bool.eq_false_or_eq_true w20 with q363 | q363
                                    · first
                                      | (simp [d222, d318, d320, d344, d356, d362] at q363; done)
                                      | (rw [if_pos q363] at q30
                                         try simp only [d222, d318, d320, d344, d356, d362] at q363
                                         obtain ⟨r21, q22, q30⟩ := bindQ q30
                                         have c22 : F51 [.i .i64 s.loss_, .i .i64 0, .i .i64 100] = some (.b r21) := tells_eq inj51 (a := (s.loss_, 0, 100)) q22
                                         have d364 : w23 = _ := (Option.some.inj q30).symm
                                         first | (simp -implicitDefEqProofs [c2, q31, d222, q223, d318, q319, c10, d320, q321, d344, q345, d356, q357, d362, q363, c22, d364]; done) | simp -implicitDefEqProofs [c2, q31, d222, q223, d318, q319, c10, d320, q321, d344, q345, d356, q357, d362, q363, c22, d364, pT30])
                                    · first
                                      | (simp [d222, d318, d320, d344, d356, d362] at q363; done)
                                      | (rw [if_neg (by rw [q363]; exact Bool.false_ne_true)] at q30
                                         try simp only [d222, d318, d320, d344, d356, d362] at q363
                                         have d365 : w23 = _ := (Option.some.inj q30).symm
                                         first | (simp -implicitDefEqProofs [c2, q31, d222, q223, d318, q319, c10, d320, q321, d344, q345, d356, q357, d362, q363, d365]; done) | simp -implicitDefEqProofs [c2, q31, d222, q223, d318, q319, c10, d320, q321, d344, q345, d356, q357, d362, q363, d365, pT30])))))
                · first
                  | (simp [d222, d318] at q319; done)
                  | (rw [if_neg (by rw [q319]; exact Bool.false_ne_true)] at q26
                     try simp only [d222, d318] at q319
                     have d366 : w11 = _ := (Option.some.inj q26).symm
                     rcases Bool.eq_false_or_eq_true w11 with q367 | q367
                     · first
                       | (simp [d222, d318, d366] at q367; done)
                       | (rw [if_pos q367] at q27
                          try simp only [d222, d318, d366] at q367
                          obtain ⟨r12, q13, q27⟩ := bindQ q27
                          have c13 : F51 [.i .i64 s.yield_, .i .i64 1, .i .i64 40] = some (.b r12) := tells_eq inj51 (a := (s.yield_, 1, 40)) q13
                          have d368 : w14 = _ := (Option.some.inj q27).symm
                          rcases Bool.eq_false_or_eq_true w14 with q369 | q369
                          · first
                            | (simp [d222, d318, d366, d368] at q369; done)
                            | (rw [if_pos q369] at q28
                               try simp only [d222, d318, d366, d368] at q369
                               obtain ⟨r15, q16, q28⟩ := bindQ q28
                               have c16 : F51 [.i .i64 s.store_, .i .i64 0, .i .i64 60] = some (.b r15) := tells_eq inj51 (a := (s.store_, 0, 60)) q16
                               have d370 : w17 = _ := (Option.some.inj q28).symm
                               rcases Bool.eq_false_or_eq_true w17 with q371 | q371
                               · first
                                 | (simp [d222, d318, d366, d368, d370] at q371; done)
                                 | (rw [if_pos q371] at q29
                                    try simp only [d222, d318, d366, d368, d370] at q371
                                    obtain ⟨r18, q19, q29⟩ := bindQ q29
                                    have c19 : F51 [.i .i64 s.first_, .i .i64 0, .i .i64 s.store_] = some (.b r18) := tells_eq inj51 (a := (s.first_, 0, s.store_)) q19
                                    have d372 : w20 = _ := (Option.some.inj q29).symm
                                    rcases Bool.eq_false_or_eq_true w20 with q373 | q373
                                    · first
                                      | (simp [d222, d318, d366, d368, d370, d372] at q373; done)
                                      | (rw [if_pos q373] at q30
                                         try simp only [d222, d318, d366, d368, d370, d372] at q373
                                         obtain ⟨r21, q22, q30⟩ := bindQ q30
                                         have c22 : F51 [.i .i64 s.loss_, .i .i64 0, .i .i64 100] = some (.b r21) := tells_eq inj51 (a := (s.loss_, 0, 100)) q22
                                         have d374 : w23 = _ := (Option.some.inj q30).symm
                                         first | (simp -implicitDefEqProofs [c2, q31, d222, q223, d318, q319, d366, q367, c13, d368, q369, c16, d370, q371, c19, d372, q373, c22, d374]; done) | simp -implicitDefEqProofs [c2, q31, d222, q223, d318, q319, d366, q367, c13, d368, q369, c16, d370, q371, c19, d372, q373, c22, d374, pT30])
                                    · first
                                      | (simp [d222, d318, d366, d368, d370, d372] at q373; done)
                                      | (rw [if_neg (by rw [q373]; exact Bool.false_ne_true)] at q30
                                         try simp only [d222, d318, d366, d368, d370, d372] at q373
                                         have d375 : w23 = _ := (Option.some.inj q30).symm
                                         first | (simp -implicitDefEqProofs [c2, q31, d222, q223, d318, q319, d366, q367, c13, d368, q369, c16, d370, q371, c19, d372, q373, d375]; done) | simp -implicitDefEqProofs [c2, q31, d222, q223, d318, q319, d366, q367, c13, d368, q369, c16, d370, q371, c19, d372, q373, d375, pT30]))
                               · first
                                 | (simp [d222, d318, d366, d368, d370] at q371; done)
                                 | (rw [if_neg (by rw [q371]; exact Bool.false_ne_true)] at q29
                                    try simp only [d222, d318, d366, d368, d370] at q371
                                    have d376 : w20 = _ := (Option.some.inj q29).symm
                                    rcases Bool.eq_false_or_eq_true w20 with q377 | q377
                                    · first
                                      | (simp [d222, d318, d366, d368, d370, d376] at q377; done)
                                      | (rw [if_pos q377] at q30
                                         try simp only [d222, d318, d366, d368, d370, d376] at q377
                                         obtain ⟨r21, q22, q30⟩ := bindQ q30
                                         have c22 : F51 [.i .i64 s.loss_, .i .i64 0, .i .i64 100] = some (.b r21) := tells_eq inj51 (a := (s.loss_, 0, 100)) q22
                                         have d378 : w23 = _ := (Option.some.inj q30).symm
                                         first | (simp -implicitDefEqProofs [c2, q31, d222, q223, d318, q319, d366, q367, c13, d368, q369, c16, d370, q371, d376, q377, c22, d378]; done) | simp -implicitDefEqProofs [c2, q31, d222, q223, d318, q319, d366, q367, c13, d368, q369, c16, d370, q371, d376, q377, c22, d378, pT30])
                                    · first
                                      | (simp [d222, d318, d366, d368, d370, d376] at q377; done)
                                      | (rw [if_neg (by rw [q377]; exact Bool.false_ne_true)] at q30
                                         try simp only [d222, d318, d366, d368, d370, d376] at q377
                                         have d379 : w23 = _ := (Option.some.inj q30).symm
                                         first | (simp -implicitDefEqProofs [c2, q31, d222, q223, d318, q319, d366, q367, c13, d368, q369, c16, d370, q371, d376, q377, d379]; done) | simp -implicitDefEqProofs [c2, q31, d222, q223, d318, q319, d366, q367, c13, d368, q369, c16, d370, q371, d376, q377, d379, pT30])))
                          · first
                            | (simp [d222, d318, d366, d368] at q369; done)
                            | (rw [if_neg (by rw [q369]; exact Bool.false_ne_true)] at q28
                               try simp only [d222, d318, d366, d368] at q369
                               have d380 : w17 = _ := (Option.some.inj q28).symm
                               rcases Bool.eq_false_or_eq_true w17 with q381 | q381
                               · first
                                 | (simp [d222, d318, d366, d368, d380] at q381; done)
                                 | (rw [if_pos q381] at q29
                                    try simp only [d222, d318, d366, d368, d380] at q381
                                    obtain ⟨r18, q19, q29⟩ := bindQ q29
                                    have c19 : F51 [.i .i64 s.first_, .i .i64 0, .i .i64 s.store_] = some (.b r18) := tells_eq inj51 (a := (s.first_, 0, s.store_)) q19
                                    have d382 : w20 = _ := (Option.some.inj q29).symm
                                    rcases Bool.eq_false_or_eq_true w20 with q383 | q383
                                    · first
                                      | (simp [d222, d318, d366, d368, d380, d382] at q383; done)
                                      | (rw [if_pos q383] at q30
                                         try simp only [d222, d318, d366, d368, d380, d382] at q383
                                         obtain ⟨r21, q22, q30⟩ := bindQ q30
                                         have c22 : F51 [.i .i64 s.loss_, .i .i64 0, .i .i64 100] = some (.b r21) := tells_eq inj51 (a := (s.loss_, 0, 100)) q22
                                         have d384 : w23 = _ := (Option.some.inj q30).symm
                                         first | (simp -implicitDefEqProofs [c2, q31, d222, q223, d318, q319, d366, q367, c13, d368, q369, d380, q381, c19, d382, q383, c22, d384]; done) | simp -implicitDefEqProofs [c2, q31, d222, q223, d318, q319, d366, q367, c13, d368, q369, d380, q381, c19, d382, q383, c22, d384, pT30])
                                    · first
                                      | (simp [d222, d318, d366, d368, d380, d382] at q383; done)
                                      | (rw [if_neg (by rw [q383]; exact Bool.false_ne_true)] at q30
                                         try simp only [d222, d318, d366, d368, d380, d382] at q383
                                         have d385 : w23 = _ := (Option.some.inj q30).symm
                                         first | (simp -implicitDefEqProofs [c2, q31, d222, q223, d318, q319, d366, q367, c13, d368, q369, d380, q381, c19, d382, q383, d385]; done) | simp -implicitDefEqProofs [c2, q31, d222, q223, d318, q319, d366, q367, c13, d368, q369, d380, q381, c19, d382, q383, d385, pT30]))
                               · first
                                 | (simp [d222, d318, d366, d368, d380] at q381; done)
                                 | (rw [if_neg (by rw [q381]; exact Bool.false_ne_true)] at q29
                                    try simp only [d222, d318, d366, d368, d380] at q381
                                    have d386 : w20 = _ := (Option.some.inj q29).symm
                                    rcases Bool.eq_false_or_eq_true w20 with q387 | q387
                                    · first
                                      | (simp [d222, d318, d366, d368, d380, d386] at q387; done)
                                      | (rw [if_pos q387] at q30
                                         try simp only [d222, d318, d366, d368, d380, d386] at q387
                                         obtain ⟨r21, q22, q30⟩ := bindQ q30
                                         have c22 : F51 [.i .i64 s.loss_, .i .i64 0, .i .i64 100] = some (.b r21) := tells_eq inj51 (a := (s.loss_, 0, 100)) q22
                                         have d388 : w23 = _ := (Option.some.inj q30).symm
                                         first | (simp -implicitDefEqProofs [c2, q31, d222, q223, d318, q319, d366, q367, c13, d368, q369, d380, q381, d386, q387, c22, d388]; done) | simp -implicitDefEqProofs [c2, q31, d222, q223, d318, q319, d366, q367, c13, d368, q369, d380, q381, d386, q387, c22, d388, pT30])
                                    · first
                                      | (simp [d222, d318, d366, d368, d380, d386] at q387; done)
                                      | (rw [if_neg (by rw [q387]; exact Bool.false_ne_true)] at q30
                                         try simp only [d222, d318, d366, d368, d380, d386] at q387
                                         have d389 : w23 = _ := (Option.some.inj q30).symm
                                         first | (simp -implicitDefEqProofs [c2, q31, d222, q223, d318, q319, d366, q367, c13, d368, q369, d380, q381, d386, q387, d389]; done) | simp -implicitDefEqProofs [c2, q31, d222, q223, d318, q319, d366, q367, c13, d368, q369, d380, q381, d386, q387, d389, pT30]))))
                     · first
                       | (simp [d222, d318, d366] at q367; done)
                       | (rw [if_neg (by rw [q367]; exact Bool.false_ne_true)] at q27
                          try simp only [d222, d318, d366] at q367
                          have d390 : w14 = _ := (Option.some.inj q27).symm
                          rcases Bool.eq_false_or_eq_true w14 with q391 | q391
                          · first
                            | (simp [d222, d318, d366, d390] at q391; done)
                            | (rw [if_pos q391] at q28
                               try simp only [d222, d318, d366, d390] at q391
                               obtain ⟨r15, q16, q28⟩ := bindQ q28
                               have c16 : F51 [.i .i64 s.store_, .i .i64 0, .i .i64 60] = some (.b r15) := tells_eq inj51 (a := (s.store_, 0, 60)) q16
                               have d392 : w17 = _ := (Option.some.inj q28).symm
                               rcases Bool.eq_false_or_eq_true w17 with q393 | q393
                               · first
                                 | (simp [d222, d318, d366, d390, d392] at q393; done)
                                 | (rw [if_pos q393] at q29
                                    try simp only [d222, d318, d366, d390, d392] at q393
                                    obtain ⟨r18, q19, q29⟩ := bindQ q29
                                    have c19 : F51 [.i .i64 s.first_, .i .i64 0, .i .i64 s.store_] = some (.b r18) := tells_eq inj51 (a := (s.first_, 0, s.store_)) q19
                                    have d394 : w20 = _ := (Option.some.inj q29).symm
                                    rcases Bool.eq_false_or_eq_true w20 with q395 | q395
                                    · first
                                      | (simp [d222, d318, d366, d390, d392, d394] at q395; done)
                                      | (rw [if_pos q395] at q30
                                         try simp only [d222, d318, d366, d390, d392, d394] at q395
                                         obtain ⟨r21, q22, q30⟩ := bindQ q30
                                         have c22 : F51 [.i .i64 s.loss_, .i .i64 0, .i .i64 100] = some (.b r21) := tells_eq inj51 (a := (s.loss_, 0, 100)) q22
                                         have d396 : w23 = _ := (Option.some.inj q30).symm
                                         first | (simp -implicitDefEqProofs [c2, q31, d222, q223, d318, q319, d366, q367, d390, q391, c16, d392, q393, c19, d394, q395, c22, d396]; done) | simp -implicitDefEqProofs [c2, q31, d222, q223, d318, q319, d366, q367, d390, q391, c16, d392, q393, c19, d394, q395, c22, d396, pT30])
                                    · first
                                      | (simp [d222, d318, d366, d390, d392, d394] at q395; done)
                                      | (rw [if_neg (by rw [q395]; exact Bool.false_ne_true)] at q30
                                         try simp only [d222, d318, d366, d390, d392, d394] at q395
                                         have d397 : w23 = _ := (Option.some.inj q30).symm
                                         first | (simp -implicitDefEqProofs [c2, q31, d222, q223, d318, q319, d366, q367, d390, q391, c16, d392, q393, c19, d394, q395, d397]; done) | simp -implicitDefEqProofs [c2, q31, d222, q223, d318, q319, d366, q367, d390, q391, c16, d392, q393, c19, d394, q395, d397, pT30]))
                               · first
                                 | (simp [d222, d318, d366, d390, d392] at q393; done)
                                 | (rw [if_neg (by rw [q393]; exact Bool.false_ne_true)] at q29
                                    try simp only [d222, d318, d366, d390, d392] at q393
                                    have d398 : w20 = _ := (Option.some.inj q29).symm
                                    rcases Bool.eq_false_or_eq_true w20 with q399 | q399
                                    · first
                                      | (simp [d222, d318, d366, d390, d392, d398] at q399; done)
                                      | (rw [if_pos q399] at q30
                                         try simp only [d222, d318, d366, d390, d392, d398] at q399
                                         obtain ⟨r21, q22, q30⟩ := bindQ q30
                                         have c22 : F51 [.i .i64 s.loss_, .i .i64 0, .i .i64 100] = some (.b r21) := tells_eq inj51 (a := (s.loss_, 0, 100)) q22
                                         have d400 : w23 = _ := (Option.some.inj q30).symm
                                         first | (simp -implicitDefEqProofs [c2, q31, d222, q223, d318, q319, d366, q367, d390, q391, c16, d392, q393, d398, q399, c22, d400]; done) | simp -implicitDefEqProofs [c2, q31, d222, q223, d318, q319, d366, q367, d390, q391, c16, d392, q393, d398, q399, c22, d400, pT30])
                                    · first
                                      | (simp [d222, d318, d366, d390, d392, d398] at q399; done)
                                      | (rw [if_neg (by rw [q399]; exact Bool.false_ne_true)] at q30
                                         try simp only [d222, d318, d366, d390, d392, d398] at q399
                                         have d401 : w23 = _ := (Option.some.inj q30).symm
                                         first | (simp -implicitDefEqProofs [c2, q31, d222, q223, d318, q319, d366, q367, d390, q391, c16, d392, q393, d398, q399, d401]; done) | simp -implicitDefEqProofs [c2, q31, d222, q223, d318, q319, d366, q367, d390, q391, c16, d392, q393, d398, q399, d401, pT30])))
                          · first
                            | (simp [d222, d318, d366, d390] at q391; done)
                            | (rw [if_neg (by rw [q391]; exact Bool.false_ne_true)] at q28
                               try simp only [d222, d318, d366, d390] at q391
                               have d402 : w17 = _ := (Option.some.inj q28).symm
                               rcases Bool.eq_false_or_eq_true w17 with q403 | q403
                               · first
                                 | (simp [d222, d318, d366, d390, d402] at q403; done)
                                 | (rw [if_pos q403] at q29
                                    try simp only [d222, d318, d366, d390, d402] at q403
                                    obtain ⟨r18, q19, q29⟩ := bindQ q29
                                    have c19 : F51 [.i .i64 s.first_, .i .i64 0, .i .i64 s.store_] = some (.b r18) := tells_eq inj51 (a := (s.first_, 0, s.store_)) q19
                                    have d404 : w20 = _ := (Option.some.inj q29).symm
                                    rcases Bool.eq_false_or_eq_true w20 with q405 | q405
                                    · first
                                      | (simp [d222, d318, d366, d390, d402, d404] at q405; done)
                                      | (rw [if_pos q405] at q30
                                         try simp only [d222, d318, d366, d390, d402, d404] at q405
                                         obtain ⟨r21, q22, q30⟩ := bindQ q30
                                         have c22 : F51 [.i .i64 s.loss_, .i .i64 0, .i .i64 100] = some (.b r21) := tells_eq inj51 (a := (s.loss_, 0, 100)) q22
                                         have d406 : w23 = _ := (Option.some.inj q30).symm
                                         first | (simp -implicitDefEqProofs [c2, q31, d222, q223, d318, q319, d366, q367, d390, q391, d402, q403, c19, d404, q405, c22, d406]; done) | simp -implicitDefEqProofs [c2, q31, d222, q223, d318, q319, d366, q367, d390, q391, d402, q403, c19, d404, q405, c22, d406, pT30])
                                    · first
                                      | (simp [d222, d318, d366, d390, d402, d404] at q405; done)
                                      | (rw [if_neg (by rw [q405]; exact Bool.false_ne_true)] at q30
                                         try simp only [d222, d318, d366, d390, d402, d404] at q405
                                         have d407 : w23 = _ := (Option.some.inj q30).symm
                                         first | (simp -implicitDefEqProofs [c2, q31, d222, q223, d318, q319, d366, q367, d390, q391, d402, q403, c19, d404, q405, d407]; done) | simp -implicitDefEqProofs [c2, q31, d222, q223, d318, q319, d366, q367, d390, q391, d402, q403, c19, d404, q405, d407, pT30]))
                               · first
                                 | (simp [d222, d318, d366, d390, d402] at q403; done)
                                 | (rw [if_neg (by rw [q403]; exact Bool.false_ne_true)] at q29
                                    try simp only [d222, d318, d366, d390, d402] at q403
                                    have d408 : w20 = _ := (Option.some.inj q29).symm
                                    rcases Bool.eq_false_or_eq_true w20 with q409 | q409
                                    · first
                                      | (simp [d222, d318, d366, d390, d402, d408] at q409; done)
                                      | (rw [if_pos q409] at q30
                                         try simp only [d222, d318, d366, d390, d402, d408] at q409
                                         obtain ⟨r21, q22, q30⟩ := bindQ q30
                                         have c22 : F51 [.i .i64 s.loss_, .i .i64 0, .i .i64 100] = some (.b r21) := tells_eq inj51 (a := (s.loss_, 0, 100)) q22
                                         have d410 : w23 = _ := (Option.some.inj q30).symm
                                         first | (simp -implicitDefEqProofs [c2, q31, d222, q223, d318, q319, d366, q367, d390, q391, d402, q403, d408, q409, c22, d410]; done) | simp -implicitDefEqProofs [c2, q31, d222, q223, d318, q319, d366, q367, d390, q391, d402, q403, d408, q409, c22, d410, pT30])
                                    · first
                                      | (simp [d222, d318, d366, d390, d402, d408] at q409; done)
                                      | (rw [if_neg (by rw [q409]; exact Bool.false_ne_true)] at q30
                                         try simp only [d222, d318, d366, d390, d402, d408] at q409
                                         have d411 : w23 = _ := (Option.some.inj q30).symm
                                         first | (simp -implicitDefEqProofs [c2, q31, d222, q223, d318, q319, d366, q367, d390, q391, d402, q403, d408, q409, d411]; done) | simp -implicitDefEqProofs [c2, q31, d222, q223, d318, q319, d366, q367, d390, q391, d402, q403, d408, q409, d411, pT30])))))))) ?_
  obtain rfl := leafS h
  refine VW.ret (VRet.fin ?_)
  first | (simp [eB39]; done) | simp [eB39, pT30]
noncomputable def g64 (a : Int) (b : Int) : Option (Int) :=
  if ltI b a = true then
    some b
  else
    some a
def eA64 (a : Int × Int) : List V := [.i .i64 a.1, .i .i64 a.2]
def eB64 (r : Int) : V := .i .i64 r
theorem inj64 (a a' : Int × Int) (h : eA64 a = eA64 a') : a = a' := by
  obtain ⟨i129, i130⟩ := a
  obtain ⟨i131, i132⟩ := a'
  simp only [eA64, List.cons.injEq, V.i.injEq, V.b.injEq, V.f.injEq, V.str.injEq, V.sl.injEq, V.agg.injEq, V.cptr.injEq, true_and, and_true] at h
  simp_all
noncomputable def F64 : List V → Option V := tells (fun a => g64 a.1 a.2) eA64 eB64
set_option maxRecDepth 100000 in
set_option maxHeartbeats 4000000 in
/- loop.example/g01229/spec.l07Least -/
theorem ok64 : Tells Try.prog 64 F64 := by
  refine Tells.of (by kernel_rfl) ?_
  rintro ⟨a, b⟩ r h
  refine VCalls.nl (VCalls.of Try.func64 rfl rfl rfl ?_)
  rw [tm_init]
  simp only [eA64, en, List.length_cons, List.length_nil, Nat.reduceAdd, Nat.reduceSub]
  replace h : (g64 a b).bind some = some r := bindS h
  rw [g64] at h
  refine VW.seq ?_
  refine VW.evalA (C := []) (tm 10 [(0, .i .i64 a), (1, .i .i64 b)]) [] [] trivial (by kernel_rfl) (by simp -implicitDefEqProofs) ?_
  refine VW.seq ?_
  refine VW.seq ?_
  refine VW.evalA (C := []) (tm 10 [(0, .i .i64 a), (1, .i .i64 b), (7, .b (ltI b a))]) [] [] trivial (by kernel_rfl) (by simp -implicitDefEqProofs) ?_
  refine VW.condB (b := ltI b a) (by simp) (fun g1 => ?_) (fun g1 => ?_)
  · replace h := iteT g1 h
    refine VW.seq ?_
    refine VW.evalA (C := []) (tm 10 [(4, .i .i64 b)]) [] [] trivial (by kernel_rfl) (by simp -implicitDefEqProofs) ?_
    obtain rfl := leafS h
    refine VW.ret (VRet.fin ?_)
    simp [eB64]
  · replace h := iteF g1 h
    refine VW.skip ?_
    refine VW.seq ?_
    refine VW.evalA (C := []) (tm 10 [(4, .i .i64 a)]) [] [] trivial (by kernel_rfl) (by simp -implicitDefEqProofs) ?_
    obtain rfl := leafS h
    refine VW.ret (VRet.fin ?_)
    simp [eB64]
noncomputable def g58 (s : T30) (slot : Int) (store : Int) (logs : Int) : Option (Int) :=
  (idx s.need_ slot).bind fun e1 =>
  if ltI (sI .i64 (aI .i64 store (mI .i64 logs s.yield_)) e1) 0 = true then
    some (-1)
  else
    (dI .i64 (mI .i64 (sI .i64 (aI .i64 store (mI .i64 logs s.yield_)) e1) s.loss_) 100).bind fun d4 =>
    (g64 (sI .i64 (sI .i64 (aI .i64 store (mI .i64 logs s.yield_)) e1) d4) s.store_).bind fun r6 =>
    some r6
def eA58 (a : T30 × Int × Int × Int) : List V := [.cptr (pT30 a.1) 0, .i .i64 a.2.1, .i .i64 a.2.2.1, .i .i64 a.2.2.2]
def eB58 (r : Int) : V := .i .i64 r
theorem inj58 (a a' : T30 × Int × Int × Int) (h : eA58 a = eA58 a') : a = a' := by
  obtain ⟨⟨i133, i134, i135, i136, i137, i138, i139⟩, i140, i141, i142⟩ := a
  obtain ⟨⟨i143, i144, i145, i146, i147, i148, i149⟩, i150, i151, i152⟩ := a'
  simp only [eA58, pT30, List.cons.injEq, V.i.injEq, V.b.injEq, V.f.injEq, V.str.injEq, V.sl.injEq, V.agg.injEq, V.cptr.injEq, true_and, and_true] at h
  simp_all [ri ci_i64_inj]
noncomputable def F58 : List V → Option V := tells (fun a => g58 a.1 a.2.1 a.2.2.1 a.2.2.2) eA58 eB58
set_option maxRecDepth 100000 in
set_option maxHeartbeats 4000000 in
/- loop.example/g01229/spec.l07After -/
theorem ok58 : Tells Try.prog 58 F58 := by
  refine Tells.of (by kernel_rfl) ?_
  rintro ⟨s, slot, store, logs⟩ r h
  refine VCalls.nl (VCalls.of Try.func58 rfl rfl rfl ?_)
  rw [tm_init]
  simp only [eA58, en, List.length_cons, List.length_nil, Nat.reduceAdd, Nat.reduceSub]
  replace h : (g58 s slot store logs).bind some = some r := bindS h
  rw [g58] at h
  refine VW.seq ?_
  refine VW.evalA (C := [(64, F64)]) (tm 42 [(0, .cptr (pT30 s) 0), (1, .i .i64 slot), (2, .i .i64 store), (3, .i .i64 logs)]) [] [] ⟨.inl ok64, trivial⟩ (by kernel_rfl) (by first | (simp -implicitDefEqProofs; done) | simp -implicitDefEqProofs [pT30]) ?_
  refine VW.seq ?_
  obtain ⟨e1, q2, h⟩ := bindE h
  obtain ⟨f2a, f2b, f2c, f2d⟩ := idx_some q2
  refine VW.evalDA (C := [(64, F64)]) (tm 42 [(0, .cptr (pT30 s) 0), (9, .i .i64 (sI .i64 (aI .i64 store (mI .i64 logs s.yield_)) e1))]) [] [] ⟨.inl ok64, trivial⟩ mixed (by kernel_rfl) (by first | (simp -implicitDefEqProofs [f2a, f2b, f2c, f2d]; done) | simp -implicitDefEqProofs [f2a, f2b, f2c, f2d, pT30]) ?_
  refine VW.seq ?_
  refine VW.seq ?_
  refine VW.evalA (C := [(64, F64)]) (tm 42 [(0, .cptr (pT30 s) 0), (9, .i .i64 (sI .i64 (aI .i64 store (mI .i64 logs s.yield_)) e1)), (27, .b (ltI (sI .i64 (aI .i64 store (mI .i64 logs s.yield_)) e1) 0))]) [] [] ⟨.inl ok64, trivial⟩ (by kernel_rfl) (by first | (simp -implicitDefEqProofs; done) | simp -implicitDefEqProofs [pT30]) ?_
  refine VW.condB (b := ltI (sI .i64 (aI .i64 store (mI .i64 logs s.yield_)) e1) 0) (by simp) (fun g3 => ?_) (fun g3 => ?_)
  · replace h := iteT g3 h
    refine VW.seq ?_
    refine VW.evalA (C := [(64, F64)]) (tm 42 [(8, .i .i64 (-1))]) [] [] ⟨.inl ok64, trivial⟩ (by kernel_rfl) (by first | (simp -implicitDefEqProofs; done) | simp -implicitDefEqProofs [pT30]) ?_
    obtain rfl := leafS h
    refine VW.ret (VRet.fin ?_)
    first | (simp [eB58]; done) | simp [eB58, pT30]
  · replace h := iteF g3 h
    refine VW.skip ?_
    refine VW.seq ?_
    obtain ⟨d4, q5, h⟩ := bindE h
    obtain ⟨r6, q7, h⟩ := bindE h
    have c7 : F64 [.i .i64 (sI .i64 (sI .i64 (aI .i64 store (mI .i64 logs s.yield_)) e1) d4), .i .i64 s.store_] = some (.i .i64 r6) := tells_eq inj64 (a := (sI .i64 (sI .i64 (aI .i64 store (mI .i64 logs s.yield_)) e1) d4, s.store_)) q7
    refine VW.evalDA (C := [(64, F64)]) (tm 42 [(8, .i .i64 r6)]) [] [] ⟨.inl ok64, trivial⟩ mixed (by kernel_rfl) (by first | (simp -implicitDefEqProofs [q5, c7]; done) | simp -implicitDefEqProofs [q5, c7, pT30]) ?_
    obtain rfl := leafS h
    refine VW.ret (VRet.fin ?_)
    first | (simp [eB58]; done) | simp [eB58, pT30]
noncomputable def g54_j1 (l9443 : List (List Int)) : Option (List (List Int)) :=
  some l9443
noncomputable def g54_j2 (k_15734 : Int) (l17308 : List (List Int)) : Option ((Int × (List (List Int))) ⊕ (List (List Int))) :=
  some (.inl (sI .i64 k_15734 1, l17308))
noncomputable def g54_j3 (l15735 : List (List Int)) (k_15734 : Int) (l18093 : List Int) : Option ((Int × (List (List Int))) ⊕ (List (List Int))) :=
  (idx l15735 k_15734).bind fun e18094 =>
  g54_j2 k_15734 (l15735.set k_15734.toNat l18093)
noncomputable def g54_j4 (i_18618 : Int) (l18750 : List Int) : Option ((Int × (List Int)) ⊕ (List Int)) :=
  some (.inl (aI .i64 i_18618 1, l18750))
noncomputable def g54_j5 (l18619 : List Int) (i_18618 : Int) (least_18814 : Int) : Option ((Int × (List Int)) ⊕ (List Int)) :=
  (appK 8 l18619 [least_18814]).bind fun u18815 =>
  g54_j4 i_18618 (l18619 ++ [least_18814])
noncomputable def g54_L3 (s : T30) (k_15734 : Int) (i_18618 : Int) (l15735 : List (List Int)) : (Int × Int) → Option ((Int × Int) ⊕ (Int))
  | (least_18858, logs_18859) =>
    if leI logs_18859 s.most_ = true then
      (g58 s k_15734 i_18618 logs_18859).bind fun r18861 =>
      (if ltI r18861 0 = true then some true else (idx l15735 (aI .i64 k_15734 1)).bind fun e18863 => (idx e18863 r18861).bind fun e18865 => some (eqI e18865 (-1))).bind fun w18867 =>
      if w18867 = true then
        some (.inl (least_18858, aI .i64 logs_18859 1))
      else
        (idx s.price_ k_15734).bind fun e18869 =>
        (idx l15735 (aI .i64 k_15734 1)).bind fun e18871 =>
        (idx e18871 r18861).bind fun e18873 =>
        if (eqI least_18858 (-1) || ltI (aI .i64 (mI .i64 e18869 logs_18859) e18873) least_18858) = true then
          some (.inl (aI .i64 (mI .i64 e18869 logs_18859) e18873, aI .i64 logs_18859 1))
        else
          some (.inl (least_18858, aI .i64 logs_18859 1))
    else
      some (.inr least_18858)
noncomputable def g54_L2 (s : T30) (k_15734 : Int) (l15735 : List (List Int)) : (Int × (List Int)) → Option ((Int × (List Int)) ⊕ (List Int))
  | (i_18618, l18619) =>
    if leI i_18618 s.store_ = true then
      (loopO (g54_L3 s k_15734 i_18618 l15735) ((-1), 0)).bind fun w => g54_j5 l18619 i_18618 w
    else
      some (.inr l18619)
noncomputable def g54_L1 (s : T30) : (Int × (List (List Int))) → Option ((Int × (List (List Int))) ⊕ (List (List Int)))
  | (k_15734, l15735) =>
    if leI 0 k_15734 = true then
      (loopO (g54_L2 s k_15734 l15735) (0, [])).bind fun w => g54_j3 l15735 k_15734 w
    else
      some (.inr l15735)
noncomputable def g54 (s : T30) : Option (List (List Int)) :=
  (mk 24 (aI .i64 (s.need_.length : Int) 1)).bind fun u1 =>
  (mk 8 (aI .i64 s.store_ 1)).bind fun u3 =>
  (idx (List.replicate (aI .i64 (s.need_.length : Int) 1).toNat ([] : List Int)) (s.need_.length : Int)).bind fun e5 =>
  (loopO (g54_L1 s) (sI .i64 (s.need_.length : Int) 1, ((List.replicate (aI .i64 (s.need_.length : Int) 1).toNat ([] : List Int)).set ((s.need_.length : Int).toNat) (List.replicate (aI .i64 s.store_ 1).toNat 0)))).bind fun w => g54_j1 w
def eA54 (a : T30) : List V := [.cptr (pT30 a) 0]
def eB54 (r : List (List Int)) : V := .own 1 (rows cl_ci_i64o r)
theorem inj54 (a a' : T30) (h : eA54 a = eA54 a') : a = a' := by
  obtain ⟨i153, i154, i155, i156, i157, i158, i159⟩ := a
  obtain ⟨i160, i161, i162, i163, i164, i165, i166⟩ := a'
  simp only [eA54, pT30, List.cons.injEq, V.i.injEq, V.b.injEq, V.f.injEq, V.str.injEq, V.sl.injEq, V.agg.injEq, V.cptr.injEq, true_and, and_true] at h
  simp_all [ri ci_i64_inj]
noncomputable def F54 : List V → Option V := tells (fun a => g54 a) eA54 eB54
set_option maxRecDepth 100000 in
set_option maxHeartbeats 4000000 in
/- loop.example/g01229/spec.l07Values -/
theorem ok54 : Tells Try.prog 54 F54 := by
  refine Tells.of (by kernel_rfl) ?_
  rintro s r h
  refine VCalls.nl (VCalls.of Try.func54 rfl rfl rfl ?_)
  rw [tm_init]
  simp only [eA54, en, List.length_cons, List.length_nil, Nat.reduceAdd, Nat.reduceSub]
  replace h : (g54 s).bind some = some r := bindS h
  rw [g54] at h
  refine VW.seq ?_
  refine VW.evalA (C := [(58, F58)]) (tm 105 [(0, .cptr (pT30 s) 0)]) [] [] ⟨.inl ok58, trivial⟩ (by kernel_rfl) (by first | (simp -implicitDefEqProofs; done) | simp -implicitDefEqProofs [pT30]) ?_
  refine VW.seq ?_
  refine VW.evalA (C := [(58, F58)]) (tm 105 [(0, .cptr (pT30 s) 0), (3, .i .i64 (s.need_.length : Int))]) [] [] ⟨.inl ok58, trivial⟩ (by kernel_rfl) (by first | (simp -implicitDefEqProofs; done) | simp -implicitDefEqProofs [pT30]) ?_
  refine VW.seq ?_
  obtain ⟨u1, q2, h⟩ := bindE h
  obtain ⟨f2a, f2b, f2c⟩ := mk_some q2
  try simp only [Int.toNat_natCast, Int.reduceToNat, List.length_cons, List.length_nil, Nat.reduceAdd, Nat.zero_add] at f2a f2b f2c
  refine VW.evalE (C := [(58, F58)]) (tm 105 [(0, .cptr (pT30 s) 0), (3, .i .i64 (s.need_.length : Int)), (4, .ref 0 0 (List.replicate (aI .i64 (s.need_.length : Int) 1).toNat ([] : List Int)).length)]) [some (1, List.replicate (aI .i64 (s.need_.length : Int) 1).toNat [.nil])] [] ⟨.inl ok58, trivial⟩ (by kernel_rfl) (by first | (simp -implicitDefEqProofs [f2a, f2b, f2c]; done) | simp -implicitDefEqProofs [f2a, f2b, f2c, pT30]) (Ent.nilown (m := [some (1, List.replicate (aI .i64 (s.need_.length : Int) 1).toNat [.nil])]) 0 ((aI .i64 (s.need_.length : Int) 1).toNat) 1 [some (1, rows cl_ci_i64o (List.replicate (aI .i64 (s.need_.length : Int) 1).toNat ([] : List Int)))] (by simp) (by simp)) ?_
  refine VW.seq ?_
  obtain ⟨u3, q4, h⟩ := bindE h
  obtain ⟨f4a, f4b, f4c⟩ := mk_some q4
  try simp only [Int.toNat_natCast, Int.reduceToNat, List.length_cons, List.length_nil, Nat.reduceAdd, Nat.zero_add] at f4a f4b f4c
  obtain ⟨e5, q6, h⟩ := bindE h
  obtain ⟨f6a, f6b, f6c, f6d⟩ := idx_some q6
  have f6s := f6c
  simp at f6s
  try simp only [Int.toNat_natCast, Int.reduceToNat] at f6a f6b f6c f6d
  refine VW.evalE (C := [(58, F58)]) (tm 105 [(0, .cptr (pT30 s) 0), (3, .i .i64 (s.need_.length : Int)), (4, .ref 0 0 (List.replicate (aI .i64 (s.need_.length : Int) 1).toNat ([] : List Int)).length)]) [some (1, (rows cl_ci_i64o (List.replicate (aI .i64 (s.need_.length : Int) 1).toNat ([] : List Int))).set ((s.need_.length : Int).toNat) [.ref 1 0 (List.replicate (aI .i64 s.store_ 1).toNat 0).length]), some (1, rows ci_i64 (List.replicate (aI .i64 s.store_ 1).toNat 0))] [] ⟨.inl ok58, trivial⟩ (by kernel_rfl) (by first | (simp -implicitDefEqProofs [f4a, f4b, f4c, f6a, f6b, f6c, f6d, f6s]; done) | simp -implicitDefEqProofs [f4a, f4b, f4c, f6a, f6b, f6c, f6d, f6s, pT30]) (Ent.absorb (m := [some (1, (rows cl_ci_i64o (List.replicate (aI .i64 (s.need_.length : Int) 1).toNat ([] : List Int))).set ((s.need_.length : Int).toNat) [.ref 1 0 (List.replicate (aI .i64 s.store_ 1).toNat 0).length]), some (1, rows ci_i64 (List.replicate (aI .i64 s.store_ 1).toNat 0))]) (n := 1) (n' := 1) (es := (rows cl_ci_i64o (List.replicate (aI .i64 (s.need_.length : Int) 1).toNat ([] : List Int))).set ((s.need_.length : Int).toNat) [.ref 1 0 (List.replicate (aI .i64 s.store_ 1).toNat 0).length]) (es' := rows ci_i64 (List.replicate (aI .i64 s.store_ 1).toNat 0)) (cs := [.ref 1 0 (List.replicate (aI .i64 s.store_ 1).toNat 0).length]) 0 ((s.need_.length : Int).toNat) 0 1 (List.replicate (aI .i64 s.store_ 1).toNat 0).length [some (1, rows cl_ci_i64o ((List.replicate (aI .i64 (s.need_.length : Int) 1).toNat ([] : List Int)).set ((s.need_.length : Int).toNat) (List.replicate (aI .i64 s.store_ 1).toNat 0))), none] rfl (by simp [f6a, f6b, f6c, f6d, f6s]) rfl rfl (by decide) (by simp) (by simp) (by simp)) ?_
  refine VW.join (fun (v : List (List Int)) => (⟨(tm 105 [(4, .ref 0 0 v.length)]), [some (1, rows cl_ci_i64o v), none], []⟩ : VS)) (fun v => (g54_j1 (v)).bind some = some r) ?_ ?_
  · refine VW.seq ?_
    refine VW.evalA (C := [(58, F58)]) (tm 105 [(0, .cptr (pT30 s) 0), (4, .ref 0 0 ((List.replicate (aI .i64 (s.need_.length : Int) 1).toNat ([] : List Int)).set ((s.need_.length : Int).toNat) (List.replicate (aI .i64 s.store_ 1).toNat 0)).length), (5, .i .i64 (sI .i64 (s.need_.length : Int) 1))]) [some (1, rows cl_ci_i64o ((List.replicate (aI .i64 (s.need_.length : Int) 1).toNat ([] : List Int)).set ((s.need_.length : Int).toNat) (List.replicate (aI .i64 s.store_ 1).toNat 0))), none] [] ⟨.inl ok58, trivial⟩ (by kernel_rfl) (by first | (simp -implicitDefEqProofs; done) | simp -implicitDefEqProofs [pT30]) ?_
    refine VW.block ?_
    obtain ⟨w_1, hw_1, h⟩ := bindE h
    refine VW.loopO (fun (x : Int × (List (List Int))) => (⟨(tm 105 [(0, .cptr (pT30 s) 0), (4, .ref 0 0 x.2.length), (5, .i .i64 x.1)]), [some (1, rows cl_ci_i64o x.2), none], []⟩ : VS)) hw_1 (Ent.to 2 (by simp [fgt]) (by first | (simp; done) | simp [pT30]) (by simp) (by simp [bndT, bndV]) (by simp [bndM, bndV])) ?_
    rintro n_1 ⟨k_15734, l15735⟩ h1
    rw [g54_L1] at h1
    refine VW.seq ?_
    refine VW.seq ?_
    refine VW.evalA (C := [(58, F58)]) (tm 105 [(0, .cptr (pT30 s) 0), (4, .ref 0 0 l15735.length), (5, .i .i64 k_15734), (32, .b (leI 0 k_15734))]) [some (1, rows cl_ci_i64o l15735), none] [] ⟨.inl ok58, trivial⟩ (by kernel_rfl) (by first | (simp -implicitDefEqProofs; done) | simp -implicitDefEqProofs [pT30]) ?_
    refine VW.condB (b := leI 0 k_15734) (by simp) (fun g15736 => ?_) (fun g15736 => ?_)
    · replace h1 := iteT g15736 h1
      refine VW.skip ?_
      refine VW.join (fun (v : List (List Int)) => (⟨(tm 105 [(0, .cptr (pT30 s) 0), (4, .ref 0 0 v.length), (5, .i .i64 k_15734)]), [some (1, rows cl_ci_i64o v), none], []⟩ : VS)) (fun v => (g54_j2 k_15734 (v)).bind (kN (g54_L1 s) n_1) = some w_1) ?_ ?_
      · refine VW.block ?_
        refine VW.seq ?_
        refine VW.evalA (C := [(58, F58)]) (tm 105 [(0, .cptr (pT30 s) 0), (4, .ref 0 0 l15735.length), (5, .i .i64 k_15734), (6, .ref 2 0 0)]) [some (1, rows cl_ci_i64o l15735), none, some (1, rows ci_i64 [])] [] ⟨.inl ok58, trivial⟩ (by kernel_rfl) (by first | (simp -implicitDefEqProofs; done) | simp -implicitDefEqProofs [pT30]) ?_
        refine VW.join (fun (v : List Int) => (⟨(tm 105 [(0, .cptr (pT30 s) 0), (4, .ref 0 0 l15735.length), (5, .i .i64 k_15734), (6, .ref 2 0 v.length)]), [some (1, rows cl_ci_i64o l15735), none, some (1, rows ci_i64 v)], []⟩ : VS)) (fun v => (g54_j3 l15735 k_15734 (v)).bind (kN (g54_L1 s) n_1) = some w_1) ?_ ?_
        · refine VW.seq ?_
          refine VW.evalA (C := [(58, F58)]) (tm 105 [(0, .cptr (pT30 s) 0), (4, .ref 0 0 l15735.length), (5, .i .i64 k_15734), (6, .ref 2 0 0), (7, .i .i64 0)]) [some (1, rows cl_ci_i64o l15735), none, some (1, rows ci_i64 [])] [] ⟨.inl ok58, trivial⟩ (by kernel_rfl) (by first | (simp -implicitDefEqProofs; done) | simp -implicitDefEqProofs [pT30]) ?_
          refine VW.block ?_
          obtain ⟨w_2, hw_2, h1⟩ := bindE h1
          refine VW.loopO (fun (x : Int × (List Int)) => (⟨(tm 105 [(0, .cptr (pT30 s) 0), (4, .ref 0 0 l15735.length), (5, .i .i64 k_15734), (6, .ref 2 0 x.2.length), (7, .i .i64 x.1)]), [some (1, rows cl_ci_i64o l15735), none, some (1, rows ci_i64 x.2)], []⟩ : VS)) hw_2 (Ent.to 3 (by simp [fgt]) (by first | (simp; done) | simp [pT30]) (by simp) (by simp [bndT, bndV]) (by simp [bndM, bndV])) ?_
          rintro n_2 ⟨i_18618, l18619⟩ h2
          rw [g54_L2] at h2
          refine VW.seq ?_
          refine VW.seq ?_
          refine VW.evalA (C := [(58, F58)]) (tm 105 [(0, .cptr (pT30 s) 0), (4, .ref 0 0 l15735.length), (5, .i .i64 k_15734), (6, .ref 2 0 l18619.length), (7, .i .i64 i_18618), (41, .b (leI i_18618 s.store_))]) [some (1, rows cl_ci_i64o l15735), none, some (1, rows ci_i64 l18619)] [] ⟨.inl ok58, trivial⟩ (by kernel_rfl) (by first | (simp -implicitDefEqProofs; done) | simp -implicitDefEqProofs [pT30]) ?_
          refine VW.condB (b := leI i_18618 s.store_) (by simp) (fun g18620 => ?_) (fun g18620 => ?_)
          · replace h2 := iteT g18620 h2
            refine VW.skip ?_
            refine VW.join (fun (v : List Int) => (⟨(tm 105 [(0, .cptr (pT30 s) 0), (4, .ref 0 0 l15735.length), (5, .i .i64 k_15734), (6, .ref 2 0 v.length), (7, .i .i64 i_18618)]), [some (1, rows cl_ci_i64o l15735), none, some (1, rows ci_i64 v)], []⟩ : VS)) (fun v => (g54_j4 i_18618 (v)).bind (kN (g54_L2 s k_15734 l15735) n_2) = some w_2) ?_ ?_
            · refine VW.block ?_
              refine VW.seq ?_
              refine VW.evalA (C := [(58, F58)]) (tm 105 [(0, .cptr (pT30 s) 0), (4, .ref 0 0 l15735.length), (5, .i .i64 k_15734), (6, .ref 2 0 l18619.length), (7, .i .i64 i_18618), (8, .i .i64 (-1))]) [some (1, rows cl_ci_i64o l15735), none, some (1, rows ci_i64 l18619)] [] ⟨.inl ok58, trivial⟩ (by kernel_rfl) (by first | (simp -implicitDefEqProofs; done) | simp -implicitDefEqProofs [pT30]) ?_
              refine VW.join (fun (v : Int) => (⟨(tm 105 [(0, .cptr (pT30 s) 0), (4, .ref 0 0 l15735.length), (5, .i .i64 k_15734), (6, .ref 2 0 l18619.length), (7, .i .i64 i_18618), (8, .i .i64 v)]), [some (1, rows cl_ci_i64o l15735), none, some (1, rows ci_i64 l18619)], []⟩ : VS)) (fun v => (g54_j5 l18619 i_18618 (v)).bind (kN (g54_L2 s k_15734 l15735) n_2) = some w_2) ?_ ?_
              · refine VW.seq ?_
                refine VW.evalA (C := [(58, F58)]) (tm 105 [(0, .cptr (pT30 s) 0), (4, .ref 0 0 l15735.length), (5, .i .i64 k_15734), (6, .ref 2 0 l18619.length), (7, .i .i64 i_18618), (8, .i .i64 (-1)), (9, .i .i64 0)]) [some (1, rows cl_ci_i64o l15735), none, some (1, rows ci_i64 l18619)] [] ⟨.inl ok58, trivial⟩ (by kernel_rfl) (by first | (simp -implicitDefEqProofs; done) | simp -implicitDefEqProofs [pT30]) ?_
                refine VW.block ?_
                obtain ⟨w_3, hw_3, h2⟩ := bindE h2
                refine VW.loopO (fun (x : Int × Int) => (⟨(tm 105 [(0, .cptr (pT30 s) 0), (4, .ref 0 0 l15735.length), (5, .i .i64 k_15734), (6, .ref 2 0 l18619.length), (7, .i .i64 i_18618), (8, .i .i64 x.1), (9, .i .i64 x.2)]), [some (1, rows cl_ci_i64o l15735), none, some (1, rows ci_i64 l18619)], []⟩ : VS)) hw_3 (Ent.to 3 (by simp [fgt]) (by first | (simp; done) | simp [pT30]) (by simp) (by simp [bndT, bndV]) (by simp [bndM, bndV])) ?_
                rintro n_3 ⟨least_18858, logs_18859⟩ h3
                rw [g54_L3] at h3
                refine VW.seq ?_
                refine VW.seq ?_
                refine VW.evalA (C := [(58, F58)]) (tm 105 [(0, .cptr (pT30 s) 0), (4, .ref 0 0 l15735.length), (5, .i .i64 k_15734), (6, .ref 2 0 l18619.length), (7, .i .i64 i_18618), (8, .i .i64 least_18858), (9, .i .i64 logs_18859), (49, .b (leI logs_18859 s.most_))]) [some (1, rows cl_ci_i64o l15735), none, some (1, rows ci_i64 l18619)] [] ⟨.inl ok58, trivial⟩ (by kernel_rfl) (by first | (simp -implicitDefEqProofs; done) | simp -implicitDefEqProofs [pT30]) ?_
                refine VW.condB (b := leI logs_18859 s.most_) (by simp) (fun g18860 => ?_) (fun g18860 => ?_)
                · replace h3 := iteT g18860 h3
                  refine VW.skip ?_
                  refine VW.seq ?_
                  refine VW.block ?_
                  refine VW.seq ?_
                  obtain ⟨r18861, q18862, h3⟩ := bindE h3
                  have c18862 : F58 [.cptr (pT30 s) 0, .i .i64 k_15734, .i .i64 i_18618, .i .i64 logs_18859] = some (.i .i64 r18861) := tells_eq inj58 (a := (s, k_15734, i_18618, logs_18859)) q18862
                  refine VW.evalA (C := [(58, F58)]) (tm 105 [(0, .cptr (pT30 s) 0), (4, .ref 0 0 l15735.length), (5, .i .i64 k_15734), (6, .ref 2 0 l18619.length), (7, .i .i64 i_18618), (8, .i .i64 least_18858), (9, .i .i64 logs_18859), (10, .i .i64 r18861)]) [some (1, rows cl_ci_i64o l15735), none, some (1, rows ci_i64 l18619)] [] ⟨.inl ok58, trivial⟩ (by kernel_rfl) (by first | (simp -implicitDefEqProofs [c18862]; done) | simp -implicitDefEqProofs [c18862, pT30]) ?_
                  refine VW.seq ?_
                  refine VW.seq ?_
                  obtain ⟨w18867, q18876, h3⟩ := bindE h3
                  refine VW.evalA (C := [(58, F58)]) (tm 105 [(0, .cptr (pT30 s) 0), (4, .ref 0 0 l15735.length), (5, .i .i64 k_15734), (6, .ref 2 0 l18619.length), (7, .i .i64 i_18618), (8, .i .i64 least_18858), (9, .i .i64 logs_18859), (10, .i .i64 r18861), (69, .b w18867)]) [some (1, rows cl_ci_i64o l15735), none, some (1, rows ci_i64 l18619)] [] ⟨.inl ok58, trivial⟩ (by kernel_rfl) (by
                      rcases Bool.eq_false_or_eq_true (ltI r18861 0) with q18877 | q18877
                      · first
                        | (simp at q18877; done)
                        | (rw [if_pos q18877] at q18876
                           have d18878 : w18867 = _ := (Option.some.inj q18876).symm
                           first | (simp -implicitDefEqProofs [q18877, d18878]; done) | simp -implicitDefEqProofs [q18877, d18878, pT30])
                      · first
                        | (simp at q18877; done)
                        | (rw [if_neg (by rw [q18877]; exact Bool.false_ne_true)] at q18876
                           obtain ⟨e18863, q18864, q18876⟩ := bindQ q18876
                           obtain ⟨f18864a, f18864b, f18864c, f18864d⟩ := idx_some q18864
                           obtain ⟨e18865, q18866, q18876⟩ := bindQ q18876
                           obtain ⟨f18866a, f18866b, f18866c, f18866d⟩ := idx_some q18866
                           have d18879 : w18867 = _ := (Option.some.inj q18876).symm
                           first | (simp -implicitDefEqProofs [q18877, f18864a, f18864b, f18864c, f18864d, f18866a, f18866b, f18866c, f18866d, d18879]; done) | simp -implicitDefEqProofs [q18877, f18864a, f18864b, f18864c, f18864d, f18866a, f18866b, f18866c, f18866d, d18879, pT30])) ?_
                  refine VW.condB (b := w18867) (by simp) (fun g18868 => ?_) (fun g18868 => ?_)
                  · replace h3 := iteT g18868 h3
                    refine VW.exit ?_
                    refine VW.evalA (C := [(58, F58)]) (tm 105 [(0, .cptr (pT30 s) 0), (4, .ref 0 0 l15735.length), (5, .i .i64 k_15734), (6, .ref 2 0 l18619.length), (7, .i .i64 i_18618), (8, .i .i64 least_18858), (9, .i .i64 (aI .i64 logs_18859 1))]) [some (1, rows cl_ci_i64o l15735), none, some (1, rows ci_i64 l18619)] [] ⟨.inl ok58, trivial⟩ (by kernel_rfl) (by first | (simp -implicitDefEqProofs; done) | simp -implicitDefEqProofs [pT30]) ?_
                    exact (show ∃ _, _ from ⟨(least_18858, aI .i64 logs_18859 1), leafL h3, (Ent.to 3 (by simp [fgt]) (by first | (simp; done) | simp [pT30]) (by simp) (by simp [bndT, bndV]) (by simp [bndM, bndV]))⟩)
                  · replace h3 := iteF g18868 h3
                    refine VW.skip ?_
                    refine VW.seq ?_
                    obtain ⟨e18869, q18870, h3⟩ := bindE h3
                    obtain ⟨f18870a, f18870b, f18870c, f18870d⟩ := idx_some q18870
                    obtain ⟨e18871, q18872, h3⟩ := bindE h3
                    obtain ⟨f18872a, f18872b, f18872c, f18872d⟩ := idx_some q18872
                    obtain ⟨e18873, q18874, h3⟩ := bindE h3
                    obtain ⟨f18874a, f18874b, f18874c, f18874d⟩ := idx_some q18874
                    refine VW.evalDA (C := [(58, F58)]) (tm 105 [(0, .cptr (pT30 s) 0), (4, .ref 0 0 l15735.length), (5, .i .i64 k_15734), (6, .ref 2 0 l18619.length), (7, .i .i64 i_18618), (8, .i .i64 least_18858), (9, .i .i64 logs_18859), (11, .i .i64 (aI .i64 (mI .i64 e18869 logs_18859) e18873))]) [some (1, rows cl_ci_i64o l15735), none, some (1, rows ci_i64 l18619)] [] ⟨.inl ok58, trivial⟩ mixed (by kernel_rfl) (by first | (simp -implicitDefEqProofs [f18870a, f18870b, f18870c, f18870d, f18872a, f18872b, f18872c, f18872d, f18874a, f18874b, f18874c, f18874d]; done) | simp -implicitDefEqProofs [f18870a, f18870b, f18870c, f18870d, f18872a, f18872b, f18872c, f18872d, f18874a, f18874b, f18874c, f18874d, pT30]) ?_
                    refine VW.seq ?_
                    refine VW.evalA (C := [(58, F58)]) (tm 105 [(0, .cptr (pT30 s) 0), (4, .ref 0 0 l15735.length), (5, .i .i64 k_15734), (6, .ref 2 0 l18619.length), (7, .i .i64 i_18618), (8, .i .i64 least_18858), (9, .i .i64 logs_18859), (11, .i .i64 (aI .i64 (mI .i64 e18869 logs_18859) e18873)), (94, .b (eqI least_18858 (-1) || ltI (aI .i64 (mI .i64 e18869 logs_18859) e18873) least_18858))]) [some (1, rows cl_ci_i64o l15735), none, some (1, rows ci_i64 l18619)] [] ⟨.inl ok58, trivial⟩ (by kernel_rfl) (by first | (simp -implicitDefEqProofs; done) | simp -implicitDefEqProofs [pT30]) ?_
                    refine VW.condB (b := (eqI least_18858 (-1) || ltI (aI .i64 (mI .i64 e18869 logs_18859) e18873) least_18858)) (by simp) (fun g18875 => ?_) (fun g18875 => ?_)
                    · replace h3 := iteT g18875 h3
                      refine VW.evalA (C := [(58, F58)]) (tm 105 [(0, .cptr (pT30 s) 0), (4, .ref 0 0 l15735.length), (5, .i .i64 k_15734), (6, .ref 2 0 l18619.length), (7, .i .i64 i_18618), (8, .i .i64 (aI .i64 (mI .i64 e18869 logs_18859) e18873)), (9, .i .i64 logs_18859)]) [some (1, rows cl_ci_i64o l15735), none, some (1, rows ci_i64 l18619)] [] ⟨.inl ok58, trivial⟩ (by kernel_rfl) (by first | (simp -implicitDefEqProofs; done) | simp -implicitDefEqProofs [pT30]) ?_
                      refine VW.evalA (C := [(58, F58)]) (tm 105 [(0, .cptr (pT30 s) 0), (4, .ref 0 0 l15735.length), (5, .i .i64 k_15734), (6, .ref 2 0 l18619.length), (7, .i .i64 i_18618), (8, .i .i64 (aI .i64 (mI .i64 e18869 logs_18859) e18873)), (9, .i .i64 (aI .i64 logs_18859 1))]) [some (1, rows cl_ci_i64o l15735), none, some (1, rows ci_i64 l18619)] [] ⟨.inl ok58, trivial⟩ (by kernel_rfl) (by first | (simp -implicitDefEqProofs; done) | simp -implicitDefEqProofs [pT30]) ?_
                      exact (show ∃ _, _ from ⟨(aI .i64 (mI .i64 e18869 logs_18859) e18873, aI .i64 logs_18859 1), leafL h3, (Ent.to 3 (by simp [fgt]) (by first | (simp; done) | simp [pT30]) (by simp) (by simp [bndT, bndV]) (by simp [bndM, bndV]))⟩)
                    · replace h3 := iteF g18875 h3
                      refine VW.skip ?_
                      refine VW.evalA (C := [(58, F58)]) (tm 105 [(0, .cptr (pT30 s) 0), (4, .ref 0 0 l15735.length), (5, .i .i64 k_15734), (6, .ref 2 0 l18619.length), (7, .i .i64 i_18618), (8, .i .i64 least_18858), (9, .i .i64 (aI .i64 logs_18859 1))]) [some (1, rows cl_ci_i64o l15735), none, some (1, rows ci_i64 l18619)] [] ⟨.inl ok58, trivial⟩ (by kernel_rfl) (by first | (simp -implicitDefEqProofs; done) | simp -implicitDefEqProofs [pT30]) ?_
                      exact (show ∃ _, _ from ⟨(least_18858, aI .i64 logs_18859 1), leafL h3, (Ent.to 3 (by simp [fgt]) (by first | (simp; done) | simp [pT30]) (by simp) (by simp [bndT, bndV]) (by simp [bndM, bndV]))⟩)
                · replace h3 := iteF g18860 h3
                  refine VW.exit ?_
                  have e_ := leafR h3
                  subst w_3
                  exact (show ∃ _, _ from ⟨least_18858, h2, (Ent.to 3 (by simp [fgt]) (by first | (simp; done) | simp [pT30]) (by simp) (by simp [bndT, bndV]) (by simp [bndM, bndV]))⟩)
              · rintro least_18814 h2
                replace h2 : (g54_j5 l18619 i_18618 least_18814).bind _ = _ := h2
                rw [g54_j5] at h2
                obtain ⟨u18815, q18816, h2⟩ := bindE h2
                obtain ⟨f18816a, f18816b⟩ := appK_some q18816
                try simp only [Int.toNat_natCast, Int.reduceToNat, List.length_cons, List.length_nil, Nat.reduceAdd, Nat.zero_add] at f18816a f18816b
                refine VW.evalA (C := [(58, F58)]) (tm 105 [(0, .cptr (pT30 s) 0), (4, .ref 0 0 l15735.length), (5, .i .i64 k_15734), (6, .ref 2 0 (l18619 ++ [least_18814]).length), (7, .i .i64 i_18618)]) [some (1, rows cl_ci_i64o l15735), none, some (1, rows ci_i64 (l18619 ++ [least_18814])), some (1, rows ci_i64 [least_18814])] [] ⟨.inl ok58, trivial⟩ (by kernel_rfl) (by first | (simp -implicitDefEqProofs [f18816a, f18816b]; done) | simp -implicitDefEqProofs [f18816a, f18816b, pT30]) ?_
                exact (show ∃ _, _ from ⟨(l18619 ++ [least_18814]), h2, (Ent.to 3 (by simp [fgt]) (by first | (simp; done) | simp [pT30]) (by simp) (by simp [bndT, bndV]) (by simp [bndM, bndV]))⟩)
            · rintro l18750 h2
              replace h2 : (g54_j4 i_18618 l18750).bind _ = _ := h2
              rw [g54_j4] at h2
              refine VW.evalA (C := [(58, F58)]) (tm 105 [(0, .cptr (pT30 s) 0), (4, .ref 0 0 l15735.length), (5, .i .i64 k_15734), (6, .ref 2 0 l18750.length), (7, .i .i64 (aI .i64 i_18618 1))]) [some (1, rows cl_ci_i64o l15735), none, some (1, rows ci_i64 l18750)] [] ⟨.inl ok58, trivial⟩ (by kernel_rfl) (by first | (simp -implicitDefEqProofs; done) | simp -implicitDefEqProofs [pT30]) ?_
              exact (show ∃ _, _ from ⟨(aI .i64 i_18618 1, l18750), leafL h2, (Ent.to 3 (by simp [fgt]) (by first | (simp; done) | simp [pT30]) (by simp) (by simp [bndT, bndV]) (by simp [bndM, bndV]))⟩)
          · replace h2 := iteF g18620 h2
            refine VW.exit ?_
            have e_ := leafR h2
            subst w_2
            exact (show ∃ _, _ from ⟨l18619, h1, (Ent.to 3 (by simp [fgt]) (by first | (simp; done) | simp [pT30]) (by simp) (by simp [bndT, bndV]) (by simp [bndM, bndV]))⟩)
        · rintro l18093 h1
          replace h1 : (g54_j3 l15735 k_15734 l18093).bind _ = _ := h1
          rw [g54_j3] at h1
          obtain ⟨e18094, q18095, h1⟩ := bindE h1
          obtain ⟨f18095a, f18095b, f18095c, f18095d⟩ := idx_some q18095
          refine VW.evalE (C := [(58, F58)]) (tm 105 [(0, .cptr (pT30 s) 0), (4, .ref 0 0 l15735.length), (5, .i .i64 k_15734)]) [some (1, (rows cl_ci_i64o l15735).set k_15734.toNat [.ref 2 0 l18093.length]), none, some (1, rows ci_i64 l18093)] [] ⟨.inl ok58, trivial⟩ (by kernel_rfl) (by first | (simp -implicitDefEqProofs [f18095a, f18095b, f18095c, f18095d]; done) | simp -implicitDefEqProofs [f18095a, f18095b, f18095c, f18095d, pT30]) (Ent.absorb (m := [some (1, (rows cl_ci_i64o l15735).set k_15734.toNat [.ref 2 0 l18093.length]), none, some (1, rows ci_i64 l18093)]) (n := 1) (n' := 1) (es := (rows cl_ci_i64o l15735).set k_15734.toNat [.ref 2 0 l18093.length]) (es' := rows ci_i64 l18093) (cs := [.ref 2 0 l18093.length]) 0 k_15734.toNat 0 2 l18093.length [some (1, rows cl_ci_i64o (l15735.set k_15734.toNat l18093)), none, none] rfl (by simp [f18095a, f18095b, f18095c, f18095d]) rfl rfl (by decide) (by simp) (by simp) (by simp)) ?_
          exact (show ∃ _, _ from ⟨(l15735.set k_15734.toNat l18093), h1, (Ent.to 2 (by simp [fgt]) (by first | (simp; done) | simp [pT30]) (by simp) (by simp [bndT, bndV]) (by simp [bndM, bndV]))⟩)
      · rintro l17308 h1
        replace h1 : (g54_j2 k_15734 l17308).bind _ = _ := h1
        rw [g54_j2] at h1
        refine VW.evalA (C := [(58, F58)]) (tm 105 [(0, .cptr (pT30 s) 0), (4, .ref 0 0 l17308.length), (5, .i .i64 (sI .i64 k_15734 1))]) [some (1, rows cl_ci_i64o l17308), none] [] ⟨.inl ok58, trivial⟩ (by kernel_rfl) (by first | (simp -implicitDefEqProofs; done) | simp -implicitDefEqProofs [pT30]) ?_
        exact (show ∃ _, _ from ⟨(sI .i64 k_15734 1, l17308), leafL h1, (Ent.to 2 (by simp [fgt]) (by first | (simp; done) | simp [pT30]) (by simp) (by simp [bndT, bndV]) (by simp [bndM, bndV]))⟩)
    · replace h1 := iteF g15736 h1
      refine VW.exit ?_
      have e_ := leafR h1
      subst w_1
      exact (show ∃ _, _ from ⟨l15735, h, (Ent.to 2 (by simp [fgt]) (by first | (simp; done) | simp [pT30]) (by simp) (by simp [bndT, bndV]) (by simp [bndM, bndV]))⟩)
  · rintro l9443 h
    replace h : (g54_j1 l9443).bind _ = _ := h
    rw [g54_j1] at h
    refine VW.seq ?_
    refine VW.evalA (C := [(58, F58)]) (tm 105 [(2, .ref 0 0 l9443.length)]) [some (1, rows cl_ci_i64o l9443), none] [] ⟨.inl ok58, trivial⟩ (by kernel_rfl) (by first | (simp -implicitDefEqProofs; done) | simp -implicitDefEqProofs [pT30]) ?_
    obtain rfl := leafS h
    refine VW.ret (VRet.fin ?_)
    first | (simp [eB54]; done) | simp [eB54, pT30]
noncomputable def g46_j1 (e5 : Int) (l665 : List Int) : Option ((List Int) × Int) :=
  some (l665, e5)
noncomputable def g46_j2 (k_1104 : Int) (at_1214 : Int) (l1215 : List Int) : Option ((Int × Int × (List Int)) ⊕ (List Int)) :=
  some (.inl (at_1214, aI .i64 k_1104 1, l1215))
noncomputable def g46_L2 (s : T30) (k_1104 : Int) (at_1103 : Int) (r1 : List (List Int)) (l1105 : List Int) : (Int) → Option ((Int) ⊕ (Int × (List Int)))
  | logs_1287 =>
    if leI logs_1287 s.most_ = true then
      (g58 s k_1104 at_1103 logs_1287).bind fun r1289 =>
      (if leI 0 r1289 = true then (idx r1 (aI .i64 k_1104 1)).bind fun e1291 => (idx e1291 r1289).bind fun e1293 => some (!eqI e1293 (-1)) else some false).bind fun w1295 =>
      (if w1295 = true then (idx s.price_ k_1104).bind fun e1296 => (idx r1 (aI .i64 k_1104 1)).bind fun e1298 => (idx e1298 r1289).bind fun e1300 => (idx r1 k_1104).bind fun e1302 => (idx e1302 at_1103).bind fun e1304 => some (eqI (aI .i64 (mI .i64 e1296 logs_1287) e1300) e1304) else some false).bind fun w1306 =>
      if w1306 = true then
        (appK 8 l1105 [logs_1287]).bind fun u1308 =>
        some (.inr (r1289, (l1105 ++ [logs_1287])))
      else
        some (.inl (aI .i64 logs_1287 1))
    else
      some (.inr (at_1103, l1105))
noncomputable def g46_L1 (s : T30) (r1 : List (List Int)) : (Int × Int × (List Int)) → Option ((Int × Int × (List Int)) ⊕ (List Int))
  | (at_1103, k_1104, l1105) =>
    if ltI k_1104 (s.need_.length : Int) = true then
      (loopO (g46_L2 s k_1104 at_1103 r1 l1105) 0).bind fun w => g46_j2 k_1104 w.1 w.2
    else
      some (.inr l1105)
noncomputable def g46 (s : T30) : Option ((List Int) × Int) :=
  (g54 s).bind fun r1 =>
  (idx r1 0).bind fun e3 =>
  (idx e3 s.first_).bind fun e5 =>
  if eqI e5 (-1) = true then
    some ([], e5)
  else
    (loopO (g46_L1 s r1) (s.first_, 0, [])).bind fun w => g46_j1 e5 w
def eA46 (a : T30) : List V := [.cptr (pT30 a) 0]
def eB46 (r : (List Int) × Int) : V := .tup [.own 1 (rows ci_i64 r.1), .i .i64 r.2]
theorem inj46 (a a' : T30) (h : eA46 a = eA46 a') : a = a' := by
  obtain ⟨i167, i168, i169, i170, i171, i172, i173⟩ := a
  obtain ⟨i174, i175, i176, i177, i178, i179, i180⟩ := a'
  simp only [eA46, pT30, List.cons.injEq, V.i.injEq, V.b.injEq, V.f.injEq, V.str.injEq, V.sl.injEq, V.agg.injEq, V.cptr.injEq, true_and, and_true] at h
  simp_all [ri ci_i64_inj]
noncomputable def F46 : List V → Option V := tells (fun a => g46 a) eA46 eB46
set_option maxRecDepth 100000 in
set_option maxHeartbeats 4000000 in
/- loop.example/g01229/spec.l07Best -/
theorem ok46 : Tells Try.prog 46 F46 := by
  refine Tells.of (by kernel_rfl) ?_
  rintro s r h
  refine VCalls.nl (VCalls.of Try.func46 rfl rfl rfl ?_)
  rw [tm_init]
  simp only [eA46, en, List.length_cons, List.length_nil, Nat.reduceAdd, Nat.reduceSub]
  replace h : (g46 s).bind some = some r := bindS h
  rw [g46] at h
  refine VW.seq ?_
  refine VW.evalA (C := [(54, F54), (58, F58)]) (tm 101 [(0, .cptr (pT30 s) 0)]) [] [] ⟨.inl ok54, .inl ok58, trivial⟩ (by kernel_rfl) (by first | (simp -implicitDefEqProofs; done) | simp -implicitDefEqProofs [pT30]) ?_
  refine VW.seq ?_
  obtain ⟨r1, q2, h⟩ := bindE h
  have c2 : F54 [.cptr (pT30 s) 0] = some (.own 1 (rows cl_ci_i64o r1)) := tells_eq inj54 (a := s) q2
  refine VW.evalA (C := [(54, F54), (58, F58)]) (tm 101 [(0, .cptr (pT30 s) 0), (4, .ref 0 0 r1.length)]) [some (1, rows cl_ci_i64o r1)] [] ⟨.inl ok54, .inl ok58, trivial⟩ (by kernel_rfl) (by first | (simp -implicitDefEqProofs [c2]; done) | simp -implicitDefEqProofs [c2, pT30]) ?_
  refine VW.seq ?_
  obtain ⟨e3, q4, h⟩ := bindE h
  obtain ⟨f4a, f4b, f4c, f4d⟩ := idx_some q4
  try simp only [Int.toNat_natCast, Int.reduceToNat] at f4a f4b f4c f4d
  obtain ⟨e5, q6, h⟩ := bindE h
  obtain ⟨f6a, f6b, f6c, f6d⟩ := idx_some q6
  refine VW.evalDA (C := [(54, F54), (58, F58)]) (tm 101 [(0, .cptr (pT30 s) 0), (4, .ref 0 0 r1.length), (5, .i .i64 e5)]) [some (1, rows cl_ci_i64o r1)] [] ⟨.inl ok54, .inl ok58, trivial⟩ mixed (by kernel_rfl) (by first | (simp -implicitDefEqProofs [f4a, f4b, f4c, f4d, f6a, f6b, f6c, f6d]; done) | simp -implicitDefEqProofs [f4a, f4b, f4c, f4d, f6a, f6b, f6c, f6d, pT30]) ?_
  refine VW.seq ?_
  refine VW.evalA (C := [(54, F54), (58, F58)]) (tm 101 [(0, .cptr (pT30 s) 0), (4, .ref 0 0 r1.length), (5, .i .i64 e5), (6, .ref 1 0 0)]) [some (1, rows cl_ci_i64o r1), some (1, rows ci_i64 [])] [] ⟨.inl ok54, .inl ok58, trivial⟩ (by kernel_rfl) (by first | (simp -implicitDefEqProofs; done) | simp -implicitDefEqProofs [pT30]) ?_
  refine VW.seq ?_
  refine VW.seq ?_
  refine VW.evalA (C := [(54, F54), (58, F58)]) (tm 101 [(0, .cptr (pT30 s) 0), (4, .ref 0 0 r1.length), (5, .i .i64 e5), (6, .ref 1 0 0), (24, .b (eqI e5 (-1)))]) [some (1, rows cl_ci_i64o r1), some (1, rows ci_i64 [])] [] ⟨.inl ok54, .inl ok58, trivial⟩ (by kernel_rfl) (by first | (simp -implicitDefEqProofs; done) | simp -implicitDefEqProofs [pT30]) ?_
  refine VW.condB (b := eqI e5 (-1)) (by simp) (fun g7 => ?_) (fun g7 => ?_)
  · replace h := iteT g7 h
    refine VW.seq ?_
    refine VW.evalA (C := [(54, F54), (58, F58)]) (tm 101 [(2, .ref 1 0 0), (3, .i .i64 e5)]) [some (1, rows cl_ci_i64o r1), some (1, rows ci_i64 [])] [] ⟨.inl ok54, .inl ok58, trivial⟩ (by kernel_rfl) (by first | (simp -implicitDefEqProofs; done) | simp -implicitDefEqProofs [pT30]) ?_
    obtain rfl := leafS h
    refine VW.ret (VRet.fin ?_)
    first | (simp [eB46]; done) | simp [eB46, pT30]
  · replace h := iteF g7 h
    refine VW.skip ?_
    refine VW.seq ?_
    refine VW.evalA (C := [(54, F54), (58, F58)]) (tm 101 [(0, .cptr (pT30 s) 0), (4, .ref 0 0 r1.length), (5, .i .i64 e5), (6, .ref 1 0 0), (7, .i .i64 s.first_)]) [some (1, rows cl_ci_i64o r1), some (1, rows ci_i64 [])] [] ⟨.inl ok54, .inl ok58, trivial⟩ (by kernel_rfl) (by first | (simp -implicitDefEqProofs; done) | simp -implicitDefEqProofs [pT30]) ?_
    refine VW.join (fun (v : List Int) => (⟨(tm 101 [(5, .i .i64 e5), (6, .ref 1 0 v.length)]), [some (1, rows cl_ci_i64o r1), some (1, rows ci_i64 v)], []⟩ : VS)) (fun v => (g46_j1 e5 (v)).bind some = some r) ?_ ?_
    · refine VW.seq ?_
      refine VW.evalA (C := [(54, F54), (58, F58)]) (tm 101 [(0, .cptr (pT30 s) 0), (4, .ref 0 0 r1.length), (5, .i .i64 e5), (6, .ref 1 0 0), (7, .i .i64 s.first_), (8, .i .i64 0)]) [some (1, rows cl_ci_i64o r1), some (1, rows ci_i64 [])] [] ⟨.inl ok54, .inl ok58, trivial⟩ (by kernel_rfl) (by first | (simp -implicitDefEqProofs; done) | simp -implicitDefEqProofs [pT30]) ?_
      refine VW.block ?_
      obtain ⟨w_1, hw_1, h⟩ := bindE h
      refine VW.loopO (fun (x : Int × Int × (List Int)) => (⟨(tm 101 [(0, .cptr (pT30 s) 0), (4, .ref 0 0 r1.length), (5, .i .i64 e5), (6, .ref 1 0 x.2.2.length), (7, .i .i64 x.1), (8, .i .i64 x.2.1)]), [some (1, rows cl_ci_i64o r1), some (1, rows ci_i64 x.2.2)], []⟩ : VS)) hw_1 (Ent.to 2 (by simp [fgt]) (by first | (simp; done) | simp [pT30]) (by simp) (by simp [bndT, bndV]) (by simp [bndM, bndV])) ?_
      rintro n_1 ⟨at_1103, k_1104, l1105⟩ h1
      rw [g46_L1] at h1
      refine VW.seq ?_
      refine VW.seq ?_
      refine VW.evalA (C := [(54, F54), (58, F58)]) (tm 101 [(0, .cptr (pT30 s) 0), (4, .ref 0 0 r1.length), (5, .i .i64 e5), (6, .ref 1 0 l1105.length), (7, .i .i64 at_1103), (8, .i .i64 k_1104), (37, .b (ltI k_1104 (s.need_.length : Int)))]) [some (1, rows cl_ci_i64o r1), some (1, rows ci_i64 l1105)] [] ⟨.inl ok54, .inl ok58, trivial⟩ (by kernel_rfl) (by first | (simp -implicitDefEqProofs; done) | simp -implicitDefEqProofs [pT30]) ?_
      refine VW.condB (b := ltI k_1104 (s.need_.length : Int)) (by simp) (fun g1106 => ?_) (fun g1106 => ?_)
      · replace h1 := iteT g1106 h1
        refine VW.skip ?_
        refine VW.join (fun (v : Int × (List Int)) => (⟨(tm 101 [(0, .cptr (pT30 s) 0), (4, .ref 0 0 r1.length), (5, .i .i64 e5), (6, .ref 1 0 v.2.length), (7, .i .i64 v.1), (8, .i .i64 k_1104)]), [some (1, rows cl_ci_i64o r1), some (1, rows ci_i64 v.2)], []⟩ : VS)) (fun v => (g46_j2 k_1104 (v.1) (v.2)).bind (kN (g46_L1 s r1) n_1) = some w_1) ?_ ?_
        · refine VW.block ?_
          refine VW.seq ?_
          refine VW.evalA (C := [(54, F54), (58, F58)]) (tm 101 [(0, .cptr (pT30 s) 0), (4, .ref 0 0 r1.length), (5, .i .i64 e5), (6, .ref 1 0 l1105.length), (7, .i .i64 at_1103), (8, .i .i64 k_1104), (9, .i .i64 0)]) [some (1, rows cl_ci_i64o r1), some (1, rows ci_i64 l1105)] [] ⟨.inl ok54, .inl ok58, trivial⟩ (by kernel_rfl) (by first | (simp -implicitDefEqProofs; done) | simp -implicitDefEqProofs [pT30]) ?_
          refine VW.block ?_
          obtain ⟨w_2, hw_2, h1⟩ := bindE h1
          refine VW.loopO (fun (x : Int) => (⟨(tm 101 [(0, .cptr (pT30 s) 0), (4, .ref 0 0 r1.length), (5, .i .i64 e5), (6, .ref 1 0 l1105.length), (7, .i .i64 at_1103), (8, .i .i64 k_1104), (9, .i .i64 x)]), [some (1, rows cl_ci_i64o r1), some (1, rows ci_i64 l1105)], []⟩ : VS)) hw_2 (Ent.to 2 (by simp [fgt]) (by first | (simp; done) | simp [pT30]) (by simp) (by simp [bndT, bndV]) (by simp [bndM, bndV])) ?_
          rintro n_2 logs_1287 h2
          rw [g46_L2] at h2
          refine VW.seq ?_
          refine VW.seq ?_
          refine VW.evalA (C := [(54, F54), (58, F58)]) (tm 101 [(0, .cptr (pT30 s) 0), (4, .ref 0 0 r1.length), (5, .i .i64 e5), (6, .ref 1 0 l1105.length), (7, .i .i64 at_1103), (8, .i .i64 k_1104), (9, .i .i64 logs_1287), (45, .b (leI logs_1287 s.most_))]) [some (1, rows cl_ci_i64o r1), some (1, rows ci_i64 l1105)] [] ⟨.inl ok54, .inl ok58, trivial⟩ (by kernel_rfl) (by first | (simp -implicitDefEqProofs; done) | simp -implicitDefEqProofs [pT30]) ?_
          refine VW.condB (b := leI logs_1287 s.most_) (by simp) (fun g1288 => ?_) (fun g1288 => ?_)
          · replace h2 := iteT g1288 h2
            refine VW.skip ?_
            refine VW.seq ?_
            refine VW.block ?_
            refine VW.seq ?_
            obtain ⟨r1289, q1290, h2⟩ := bindE h2
            have c1290 : F58 [.cptr (pT30 s) 0, .i .i64 k_1104, .i .i64 at_1103, .i .i64 logs_1287] = some (.i .i64 r1289) := tells_eq inj58 (a := (s, k_1104, at_1103, logs_1287)) q1290
            refine VW.evalA (C := [(54, F54), (58, F58)]) (tm 101 [(0, .cptr (pT30 s) 0), (4, .ref 0 0 r1.length), (5, .i .i64 e5), (6, .ref 1 0 l1105.length), (7, .i .i64 at_1103), (8, .i .i64 k_1104), (9, .i .i64 logs_1287), (10, .i .i64 r1289)]) [some (1, rows cl_ci_i64o r1), some (1, rows ci_i64 l1105)] [] ⟨.inl ok54, .inl ok58, trivial⟩ (by kernel_rfl) (by first | (simp -implicitDefEqProofs [c1290]; done) | simp -implicitDefEqProofs [c1290, pT30]) ?_
            refine VW.seq ?_
            obtain ⟨w1295, q1310, h2⟩ := bindE h2
            obtain ⟨w1306, q1311, h2⟩ := bindE h2
            refine VW.evalDA (C := [(54, F54), (58, F58)]) (tm 101 [(0, .cptr (pT30 s) 0), (4, .ref 0 0 r1.length), (5, .i .i64 e5), (6, .ref 1 0 l1105.length), (7, .i .i64 at_1103), (8, .i .i64 k_1104), (9, .i .i64 logs_1287), (10, .i .i64 r1289), (93, .b w1306)]) [some (1, rows cl_ci_i64o r1), some (1, rows ci_i64 l1105)] [] ⟨.inl ok54, .inl ok58, trivial⟩ mixed (by kernel_rfl) (by
                rcases Bool.eq_false_or_eq_true (leI 0 r1289) with q1312 | q1312
                · first
                  | (simp at q1312; done)
                  | (rw [if_pos q1312] at q1310
                     obtain ⟨e1291, q1292, q1310⟩ := bindQ q1310
                     obtain ⟨f1292a, f1292b, f1292c, f1292d⟩ := idx_some q1292
                     obtain ⟨e1293, q1294, q1310⟩ := bindQ q1310
                     obtain ⟨f1294a, f1294b, f1294c, f1294d⟩ := idx_some q1294
                     have d1313 : w1295 = _ := (Option.some.inj q1310).symm
                     rcases Bool.eq_false_or_eq_true w1295 with q1314 | q1314
                     · first
                       | (simp [d1313] at q1314; done)
                       | (rw [if_pos q1314] at q1311
                          try simp only [d1313] at q1314
                          obtain ⟨e1296, q1297, q1311⟩ := bindQ q1311
                          obtain ⟨f1297a, f1297b, f1297c, f1297d⟩ := idx_some q1297
                          obtain ⟨e1298, q1299, q1311⟩ := bindQ q1311
                          have d1315 : e1298 = e1291 := Option.some.inj (q1299.symm.trans q1292)
                          obtain ⟨e1300, q1301, q1311⟩ := bindQ q1311
                          have d1316 : e1300 = e1293 := by have t_ := q1301; simp only [d1315] at t_; exact Option.some.inj (t_.symm.trans q1294)
                          obtain ⟨e1302, q1303, q1311⟩ := bindQ q1311
                          obtain ⟨f1303a, f1303b, f1303c, f1303d⟩ := idx_some q1303
                          obtain ⟨e1304, q1305, q1311⟩ := bindQ q1311
                          obtain ⟨f1305a, f1305b, f1305c, f1305d⟩ := idx_some q1305
                          have d1317 : w1306 = _ := (Option.some.inj q1311).symm
                          first | (simp -implicitDefEqProofs [q1312, f1292a, f1292b, f1292c, f1292d, f1294a, f1294b, f1294c, f1294d, d1313, q1314, f1297a, f1297b, f1297c, f1297d, d1315, d1316, f1303a, f1303b, f1303c, f1303d, f1305a, f1305b, f1305c, f1305d, d1317]; done) | simp -implicitDefEqProofs [q1312, f1292a, f1292b, f1292c, f1292d, f1294a, f1294b, f1294c, f1294d, d1313, q1314, f1297a, f1297b, f1297c, f1297d, d1315, d1316, f1303a, f1303b, f1303c, f1303d, f1305a, f1305b, f1305c, f1305d, d1317, pT30])
                     · first
                       | (simp [d1313] at q1314; done)
                       | (rw [if_neg (by rw [q1314]; exact Bool.false_ne_true)] at q1311
                          try simp only [d1313] at q1314
                          have d1318 : w1306 = _ := (Option.some.inj q1311).symm
                          first | (simp -implicitDefEqProofs [q1312, f1292a, f1292b, f1292c, f1292d, f1294a, f1294b, f1294c, f1294d, d1313, q1314, d1318]; done) | simp -implicitDefEqProofs [q1312, f1292a, f1292b, f1292c, f1292d, f1294a, f1294b, f1294c, f1294d, d1313, q1314, d1318, pT30]))
                · first
                  | (simp at q1312; done)
                  | (rw [if_neg (by rw [q1312]; exact Bool.false_ne_true)] at q1310
                     have d1319 : w1295 = _ := (Option.some.inj q1310).symm
                     rcases Bool.eq_false_or_eq_true w1295 with q1320 | q1320
                     · first
                       | (simp [d1319] at q1320; done)
                       | (rw [if_pos q1320] at q1311
                          try simp only [d1319] at q1320
                          obtain ⟨e1296, q1297, q1311⟩ := bindQ q1311
                          obtain ⟨f1297a, f1297b, f1297c, f1297d⟩ := idx_some q1297
                          obtain ⟨e1298, q1299, q1311⟩ := bindQ q1311
                          obtain ⟨f1299a, f1299b, f1299c, f1299d⟩ := idx_some q1299
                          obtain ⟨e1300, q1301, q1311⟩ := bindQ q1311
                          obtain ⟨f1301a, f1301b, f1301c, f1301d⟩ := idx_some q1301
                          obtain ⟨e1302, q1303, q1311⟩ := bindQ q1311
                          obtain ⟨f1303a, f1303b, f1303c, f1303d⟩ := idx_some q1303
                          obtain ⟨e1304, q1305, q1311⟩ := bindQ q1311
                          obtain ⟨f1305a, f1305b, f1305c, f1305d⟩ := idx_some q1305
                          have d1321 : w1306 = _ := (Option.some.inj q1311).symm
                          first | (simp -implicitDefEqProofs [q1312, d1319, q1320, f1297a, f1297b, f1297c, f1297d, f1299a, f1299b, f1299c, f1299d, f1301a, f1301b, f1301c, f1301d, f1303a, f1303b, f1303c, f1303d, f1305a, f1305b, f1305c, f1305d, d1321]; done) | simp -implicitDefEqProofs [q1312, d1319, q1320, f1297a, f1297b, f1297c, f1297d, f1299a, f1299b, f1299c, f1299d, f1301a, f1301b, f1301c, f1301d, f1303a, f1303b, f1303c, f1303d, f1305a, f1305b, f1305c, f1305d, d1321, pT30])
                     · first
                       | (simp [d1319] at q1320; done)
                       | (rw [if_neg (by rw [q1320]; exact Bool.false_ne_true)] at q1311
                          try simp only [d1319] at q1320
                          have d1322 : w1306 = _ := (Option.some.inj q1311).symm
                          first | (simp -implicitDefEqProofs [q1312, d1319, q1320, d1322]; done) | simp -implicitDefEqProofs [q1312, d1319, q1320, d1322, pT30]))) ?_
            refine VW.condB (b := w1306) (by simp) (fun g1307 => ?_) (fun g1307 => ?_)
            · replace h2 := iteT g1307 h2
              refine VW.seq ?_
              obtain ⟨u1308, q1309, h2⟩ := bindE h2
              obtain ⟨f1309a, f1309b⟩ := appK_some q1309
              try simp only [Int.toNat_natCast, Int.reduceToNat, List.length_cons, List.length_nil, Nat.reduceAdd, Nat.zero_add] at f1309a f1309b
              refine VW.evalA (C := [(54, F54), (58, F58)]) (tm 101 [(0, .cptr (pT30 s) 0), (4, .ref 0 0 r1.length), (5, .i .i64 e5), (6, .ref 1 0 (l1105 ++ [logs_1287]).length), (8, .i .i64 k_1104), (10, .i .i64 r1289)]) [some (1, rows cl_ci_i64o r1), some (1, rows ci_i64 (l1105 ++ [logs_1287])), some (1, rows ci_i64 [logs_1287])] [] ⟨.inl ok54, .inl ok58, trivial⟩ (by kernel_rfl) (by first | (simp -implicitDefEqProofs [f1309a, f1309b]; done) | simp -implicitDefEqProofs [f1309a, f1309b, pT30]) ?_
              refine VW.seq ?_
              refine VW.evalA (C := [(54, F54), (58, F58)]) (tm 101 [(0, .cptr (pT30 s) 0), (4, .ref 0 0 r1.length), (5, .i .i64 e5), (6, .ref 1 0 (l1105 ++ [logs_1287]).length), (7, .i .i64 r1289), (8, .i .i64 k_1104)]) [some (1, rows cl_ci_i64o r1), some (1, rows ci_i64 (l1105 ++ [logs_1287])), some (1, rows ci_i64 [logs_1287])] [] ⟨.inl ok54, .inl ok58, trivial⟩ (by kernel_rfl) (by first | (simp -implicitDefEqProofs; done) | simp -implicitDefEqProofs [pT30]) ?_
              refine VW.exit ?_
              have e_ := leafR h2
              subst w_2
              exact (show ∃ _, _ from ⟨(r1289, (l1105 ++ [logs_1287])), h1, (Ent.to 2 (by simp [fgt]) (by first | (simp; done) | simp [pT30]) (by simp) (by simp [bndT, bndV]) (by simp [bndM, bndV]))⟩)
            · replace h2 := iteF g1307 h2
              refine VW.skip ?_
              refine VW.evalA (C := [(54, F54), (58, F58)]) (tm 101 [(0, .cptr (pT30 s) 0), (4, .ref 0 0 r1.length), (5, .i .i64 e5), (6, .ref 1 0 l1105.length), (7, .i .i64 at_1103), (8, .i .i64 k_1104), (9, .i .i64 (aI .i64 logs_1287 1))]) [some (1, rows cl_ci_i64o r1), some (1, rows ci_i64 l1105)] [] ⟨.inl ok54, .inl ok58, trivial⟩ (by kernel_rfl) (by first | (simp -implicitDefEqProofs; done) | simp -implicitDefEqProofs [pT30]) ?_
              exact (show ∃ _, _ from ⟨aI .i64 logs_1287 1, leafL h2, (Ent.to 2 (by simp [fgt]) (by first | (simp; done) | simp [pT30]) (by simp) (by simp [bndT, bndV]) (by simp [bndM, bndV]))⟩)
          · replace h2 := iteF g1288 h2
            refine VW.exit ?_
            have e_ := leafR h2
            subst w_2
            exact (show ∃ _, _ from ⟨(at_1103, l1105), h1, (Ent.to 2 (by simp [fgt]) (by first | (simp; done) | simp [pT30]) (by simp) (by simp [bndT, bndV]) (by simp [bndM, bndV]))⟩)
        · rintro ⟨at_1214, l1215⟩ h1
          replace h1 : (g46_j2 k_1104 at_1214 l1215).bind _ = _ := h1
          rw [g46_j2] at h1
          refine VW.evalA (C := [(54, F54), (58, F58)]) (tm 101 [(0, .cptr (pT30 s) 0), (4, .ref 0 0 r1.length), (5, .i .i64 e5), (6, .ref 1 0 l1215.length), (7, .i .i64 at_1214), (8, .i .i64 (aI .i64 k_1104 1))]) [some (1, rows cl_ci_i64o r1), some (1, rows ci_i64 l1215)] [] ⟨.inl ok54, .inl ok58, trivial⟩ (by kernel_rfl) (by first | (simp -implicitDefEqProofs; done) | simp -implicitDefEqProofs [pT30]) ?_
          exact (show ∃ _, _ from ⟨(at_1214, aI .i64 k_1104 1, l1215), leafL h1, (Ent.to 2 (by simp [fgt]) (by first | (simp; done) | simp [pT30]) (by simp) (by simp [bndT, bndV]) (by simp [bndM, bndV]))⟩)
      · replace h1 := iteF g1106 h1
        refine VW.exit ?_
        have e_ := leafR h1
        subst w_1
        exact (show ∃ _, _ from ⟨l1105, h, (Ent.to 2 (by simp [fgt]) (by first | (simp; done) | simp [pT30]) (by simp) (by simp [bndT, bndV]) (by simp [bndM, bndV]))⟩)
    · rintro l665 h
      replace h : (g46_j1 e5 l665).bind _ = _ := h
      rw [g46_j1] at h
      refine VW.seq ?_
      refine VW.evalA (C := [(54, F54), (58, F58)]) (tm 101 [(2, .ref 1 0 l665.length), (3, .i .i64 e5)]) [some (1, rows cl_ci_i64o r1), some (1, rows ci_i64 l665)] [] ⟨.inl ok54, .inl ok58, trivial⟩ (by kernel_rfl) (by first | (simp -implicitDefEqProofs; done) | simp -implicitDefEqProofs [pT30]) ?_
      obtain rfl := leafS h
      refine VW.ret (VRet.fin ?_)
      first | (simp [eB46]; done) | simp [eB46, pT30]
noncomputable def g52 (list : List Int) : Option (List Int) :=
  (appK 8 [] list).bind fun u1 =>
  some list
def eA52 (a : List Int) : List V := [.sl 1 (rows ci_i64 a)]
def eB52 (r : List Int) : V := .own 1 (rows ci_i64 r)
theorem inj52 (a a' : List Int) (h : eA52 a = eA52 a') : a = a' := by
  obtain i181 := a
  obtain i182 := a'
  simp only [eA52, List.cons.injEq, V.i.injEq, V.b.injEq, V.f.injEq, V.str.injEq, V.sl.injEq, V.agg.injEq, V.cptr.injEq, true_and, and_true] at h
  simp_all [ri ci_i64_inj]
noncomputable def F52 : List V → Option V := tells (fun a => g52 a) eA52 eB52
set_option maxRecDepth 100000 in
set_option maxHeartbeats 4000000 in
/- loop.example/g01229/spec.l00Own -/
theorem ok52 : Tells Try.prog 52 F52 := by
  refine Tells.of (by kernel_rfl) ?_
  rintro list r h
  refine VCalls.nl (VCalls.of Try.func52 rfl rfl rfl ?_)
  rw [tm_init]
  simp only [eA52, en, List.length_cons, List.length_nil, Nat.reduceAdd, Nat.reduceSub]
  replace h : (g52 list).bind some = some r := bindS h
  rw [g52] at h
  refine VW.seq ?_
  refine VW.evalA (C := []) (tm 6 [(0, .sl 1 (rows ci_i64 list))]) [] [] trivial (by kernel_rfl) (by simp -implicitDefEqProofs) ?_
  refine VW.seq ?_
  obtain ⟨u1, q2, h⟩ := bindE h
  obtain ⟨f2a, f2b⟩ := appK_some q2
  try simp only [Int.toNat_natCast, Int.reduceToNat, List.length_cons, List.length_nil, Nat.reduceAdd, Nat.zero_add] at f2a f2b
  refine VW.evalA (C := []) (tm 6 [(2, .ref 0 0 list.length)]) [some (1, rows ci_i64 list)] [] trivial (by kernel_rfl) (by simp -implicitDefEqProofs [f2a, f2b]) ?_
  obtain rfl := leafS h
  refine VW.ret (VRet.fin ?_)
  simp [eB52]
noncomputable def g26 (s : T30) (slot : Int) : Option (Int × Int) :=
  (g39 s).bind fun r1 =>
  if (!r1) = true then
    some (0, 1)
  else
    (g51 slot 0 (sI .i64 (s.need_.length : Int) 1)).bind fun r4 =>
    (if (!r4) = true then some true else (idx s.need_ slot).bind fun e6 => some (eqI e6 200)).bind fun w8 =>
    if w8 = true then
      some (0, 2)
    else
      (g46 s).bind fun r10 =>
      if eqI r10.2 (-1) = true then
        some (0, 6)
      else
        (g52 s.need_).bind fun r13 =>
        (idx r13 slot).bind fun e15 =>
        (g46 (⟨(r13.set slot.toNat (aI .i64 e15 1)), s.price_, s.most_, s.yield_, s.store_, s.first_, s.loss_⟩ : T30)).bind fun r17 =>
        if eqI r17.2 (-1) = true then
          some (0, 4)
        else
          some (sI .i64 r17.2 r10.2, 0)
def eA26 (a : T30 × Int) : List V := [.agg (pT30 a.1), .i .i64 a.2]
def eB26 (r : Int × Int) : V := .tup [.i .i64 r.1, .i .i64 r.2]
theorem inj26 (a a' : T30 × Int) (h : eA26 a = eA26 a') : a = a' := by
  obtain ⟨⟨i183, i184, i185, i186, i187, i188, i189⟩, i190⟩ := a
  obtain ⟨⟨i191, i192, i193, i194, i195, i196, i197⟩, i198⟩ := a'
  simp only [eA26, pT30, List.cons.injEq, V.i.injEq, V.b.injEq, V.f.injEq, V.str.injEq, V.sl.injEq, V.agg.injEq, V.cptr.injEq, true_and, and_true] at h
  simp_all [ri ci_i64_inj]
noncomputable def F26 : List V → Option V := tells (fun a => g26 a.1 a.2) eA26 eB26
set_option maxRecDepth 100000 in
set_option maxHeartbeats 4000000 in
/- loop.example/g01229/spec.MarginOf -/
theorem ok26 : Tells Try.prog 26 F26 := by
  refine Tells.of (by kernel_rfl) ?_
  rintro ⟨s, slot⟩ r h
  refine VCalls.nl (VCalls.of Try.func26 rfl rfl rfl ?_)
  rw [tm_init]
  simp only [eA26, en, List.length_cons, List.length_nil, Nat.reduceAdd, Nat.reduceSub]
  replace h : (g26 s slot).bind some = some r := bindS h
  rw [g26] at h
  refine VW.seq ?_
  refine VW.evalA (C := [(39, F39), (46, F46), (51, F51), (52, F52)]) (tm 53 [(1, .i .i64 slot), (2, .ptr 0 0 0)]) [some (7, [(pT30 s)])] [] ⟨.inl ok39, .inl ok46, .inl ok51, .inl ok52, trivial⟩ (by kernel_rfl) (by first | (simp -implicitDefEqProofs; done) | simp -implicitDefEqProofs [pT30]) ?_
  refine VW.seq ?_
  refine VW.seq ?_
  obtain ⟨r1, q2, h⟩ := bindE h
  have c2 : F39 [.cptr (pT30 s) 0] = some (.b r1) := tells_eq inj39 (a := s) q2
  refine VW.evalA (C := [(39, F39), (46, F46), (51, F51), (52, F52)]) (tm 53 [(1, .i .i64 slot), (2, .ptr 0 0 0), (11, .b (!r1))]) [some (7, [(pT30 s)])] [] ⟨.inl ok39, .inl ok46, .inl ok51, .inl ok52, trivial⟩ (by kernel_rfl) (by first | (simp -implicitDefEqProofs [c2]; done) | simp -implicitDefEqProofs [c2, pT30]) ?_
  refine VW.condB (b := (!r1)) (by simp) (fun g3 => ?_) (fun g3 => ?_)
  · replace h := iteT g3 h
    refine VW.seq ?_
    refine VW.evalA (C := [(39, F39), (46, F46), (51, F51), (52, F52)]) (tm 53 [(4, .i .i64 0), (5, .i .i64 1)]) [some (7, [(pT30 s)])] [] ⟨.inl ok39, .inl ok46, .inl ok51, .inl ok52, trivial⟩ (by kernel_rfl) (by first | (simp -implicitDefEqProofs; done) | simp -implicitDefEqProofs [pT30]) ?_
    obtain rfl := leafS h
    refine VW.ret (VRet.fin ?_)
    first | (simp [eB26]; done) | simp [eB26, pT30]
  · replace h := iteF g3 h
    refine VW.skip ?_
    refine VW.seq ?_
    refine VW.seq ?_
    obtain ⟨r4, q5, h⟩ := bindE h
    have c5 : F51 [.i .i64 slot, .i .i64 0, .i .i64 (sI .i64 (s.need_.length : Int) 1)] = some (.b r4) := tells_eq inj51 (a := (slot, 0, sI .i64 (s.need_.length : Int) 1)) q5
    obtain ⟨w8, q20, h⟩ := bindE h
    refine VW.evalA (C := [(39, F39), (46, F46), (51, F51), (52, F52)]) (tm 53 [(1, .i .i64 slot), (2, .ptr 0 0 0), (26, .b w8)]) [some (7, [(pT30 s)])] [] ⟨.inl ok39, .inl ok46, .inl ok51, .inl ok52, trivial⟩ (by kernel_rfl) (by
        rcases Bool.eq_false_or_eq_true (!r4) with q21 | q21
        · first
          | (simp at q21; done)
          | (rw [if_pos q21] at q20
             have d22 : w8 = _ := (Option.some.inj q20).symm
             first | (simp -implicitDefEqProofs [c5, q21, d22]; done) | simp -implicitDefEqProofs [c5, q21, d22, pT30])
        · first
          | (simp at q21; done)
          | (rw [if_neg (by rw [q21]; exact Bool.false_ne_true)] at q20
             obtain ⟨e6, q7, q20⟩ := bindQ q20
             obtain ⟨f7a, f7b, f7c, f7d⟩ := idx_some q7
             have d23 : w8 = _ := (Option.some.inj q20).symm
             first | (simp -implicitDefEqProofs [c5, q21, f7a, f7b, f7c, f7d, d23]; done) | simp -implicitDefEqProofs [c5, q21, f7a, f7b, f7c, f7d, d23, pT30])) ?_
    refine VW.condB (b := w8) (by simp) (fun g9 => ?_) (fun g9 => ?_)
    · replace h := iteT g9 h
      refine VW.seq ?_
      refine VW.evalA (C := [(39, F39), (46, F46), (51, F51), (52, F52)]) (tm 53 [(4, .i .i64 0), (5, .i .i64 2)]) [some (7, [(pT30 s)])] [] ⟨.inl ok39, .inl ok46, .inl ok51, .inl ok52, trivial⟩ (by kernel_rfl) (by first | (simp -implicitDefEqProofs; done) | simp -implicitDefEqProofs [pT30]) ?_
      obtain rfl := leafS h
      refine VW.ret (VRet.fin ?_)
      first | (simp [eB26]; done) | simp [eB26, pT30]
    · replace h := iteF g9 h
      refine VW.skip ?_
      refine VW.seq ?_
      obtain ⟨r10, q11, h⟩ := bindE h
      have c11 : F46 [.cptr (pT30 s) 0] = some (.tup [.own 1 (rows ci_i64 r10.1), .i .i64 r10.2]) := tells_eq inj46 (a := s) q11
      refine VW.evalA (C := [(39, F39), (46, F46), (51, F51), (52, F52)]) (tm 53 [(1, .i .i64 slot), (2, .ptr 0 0 0), (7, .i .i64 r10.2)]) [some (7, [(pT30 s)]), some (1, rows ci_i64 r10.1)] [] ⟨.inl ok39, .inl ok46, .inl ok51, .inl ok52, trivial⟩ (by kernel_rfl) (by first | (simp -implicitDefEqProofs [c11]; done) | simp -implicitDefEqProofs [c11, pT30]) ?_
      refine VW.seq ?_
      refine VW.seq ?_
      refine VW.evalA (C := [(39, F39), (46, F46), (51, F51), (52, F52)]) (tm 53 [(1, .i .i64 slot), (2, .ptr 0 0 0), (7, .i .i64 r10.2), (32, .b (eqI r10.2 (-1)))]) [some (7, [(pT30 s)]), some (1, rows ci_i64 r10.1)] [] ⟨.inl ok39, .inl ok46, .inl ok51, .inl ok52, trivial⟩ (by kernel_rfl) (by first | (simp -implicitDefEqProofs; done) | simp -implicitDefEqProofs [pT30]) ?_
      refine VW.condB (b := eqI r10.2 (-1)) (by simp) (fun g12 => ?_) (fun g12 => ?_)
      · replace h := iteT g12 h
        refine VW.seq ?_
        refine VW.evalA (C := [(39, F39), (46, F46), (51, F51), (52, F52)]) (tm 53 [(4, .i .i64 0), (5, .i .i64 6)]) [some (7, [(pT30 s)]), some (1, rows ci_i64 r10.1)] [] ⟨.inl ok39, .inl ok46, .inl ok51, .inl ok52, trivial⟩ (by kernel_rfl) (by first | (simp -implicitDefEqProofs; done) | simp -implicitDefEqProofs [pT30]) ?_
        obtain rfl := leafS h
        refine VW.ret (VRet.fin ?_)
        first | (simp [eB26]; done) | simp [eB26, pT30]
      · replace h := iteF g12 h
        refine VW.skip ?_
        refine VW.seq ?_
        obtain ⟨r13, q14, h⟩ := bindE h
        have c14 : F52 [.sl 1 (rows ci_i64 s.need_)] = some (.own 1 (rows ci_i64 r13)) := tells_eq inj52 (a := s.need_) q14
        refine VW.evalA (C := [(39, F39), (46, F46), (51, F51), (52, F52)]) (tm 53 [(1, .i .i64 slot), (2, .ptr 0 0 0), (7, .i .i64 r10.2)]) [some (7, [[.ref 2 0 r13.length, .sl 1 (rows ci_i64 s.price_), .i .i64 s.most_, .i .i64 s.yield_, .i .i64 s.store_, .i .i64 s.first_, .i .i64 s.loss_]]), some (1, rows ci_i64 r10.1), some (1, rows ci_i64 r13)] [] ⟨.inl ok39, .inl ok46, .inl ok51, .inl ok52, trivial⟩ (by kernel_rfl) (by simp -implicitDefEqProofs [c14, pT30]) ?_
        refine VW.seq ?_
        obtain ⟨e15, q16, h⟩ := bindE h
        obtain ⟨f16a, f16b, f16c, f16d⟩ := idx_some q16
        refine VW.evalA (C := [(39, F39), (46, F46), (51, F51), (52, F52)]) (tm 53 [(2, .ptr 0 0 0), (7, .i .i64 r10.2)]) [some (7, [[.ref 2 0 (r13.set slot.toNat (aI .i64 e15 1)).length, .sl 1 (rows ci_i64 s.price_), .i .i64 s.most_, .i .i64 s.yield_, .i .i64 s.store_, .i .i64 s.first_, .i .i64 s.loss_]]), some (1, rows ci_i64 r10.1), some (1, rows ci_i64 (r13.set slot.toNat (aI .i64 e15 1)))] [] ⟨.inl ok39, .inl ok46, .inl ok51, .inl ok52, trivial⟩ (by kernel_rfl) (by first | (simp -implicitDefEqProofs [f16a, f16b, f16c, f16d]; done) | simp -implicitDefEqProofs [f16a, f16b, f16c, f16d, pT30]) ?_
        refine VW.seq ?_
        obtain ⟨r17, q18, h⟩ := bindE h
        have c18 : F46 [.cptr [.sl 1 (rows ci_i64 ((⟨(r13.set slot.toNat (aI .i64 e15 1)), s.price_, s.most_, s.yield_, s.store_, s.first_, s.loss_⟩ : T30).need_)), .sl 1 (rows ci_i64 ((⟨(r13.set slot.toNat (aI .i64 e15 1)), s.price_, s.most_, s.yield_, s.store_, s.first_, s.loss_⟩ : T30).price_)), .i .i64 ((⟨(r13.set slot.toNat (aI .i64 e15 1)), s.price_, s.most_, s.yield_, s.store_, s.first_, s.loss_⟩ : T30).most_), .i .i64 ((⟨(r13.set slot.toNat (aI .i64 e15 1)), s.price_, s.most_, s.yield_, s.store_, s.first_, s.loss_⟩ : T30).yield_), .i .i64 ((⟨(r13.set slot.toNat (aI .i64 e15 1)), s.price_, s.most_, s.yield_, s.store_, s.first_, s.loss_⟩ : T30).store_), .i .i64 ((⟨(r13.set slot.toNat (aI .i64 e15 1)), s.price_, s.most_, s.yield_, s.store_, s.first_, s.loss_⟩ : T30).first_), .i .i64 ((⟨(r13.set slot.toNat (aI .i64 e15 1)), s.price_, s.most_, s.yield_, s.store_, s.first_, s.loss_⟩ : T30).loss_)] 0] = some (.tup [.own 1 (rows ci_i64 r17.1), .i .i64 r17.2]) := tells_eq inj46 (a := (⟨(r13.set slot.toNat (aI .i64 e15 1)), s.price_, s.most_, s.yield_, s.store_, s.first_, s.loss_⟩ : T30)) q18
        refine VW.evalA (C := [(39, F39), (46, F46), (51, F51), (52, F52)]) (tm 53 [(7, .i .i64 r10.2), (9, .i .i64 r17.2)]) [some (7, [[.ref 2 0 (r13.set slot.toNat (aI .i64 e15 1)).length, .sl 1 (rows ci_i64 s.price_), .i .i64 s.most_, .i .i64 s.yield_, .i .i64 s.store_, .i .i64 s.first_, .i .i64 s.loss_]]), some (1, rows ci_i64 r10.1), some (1, rows ci_i64 (r13.set slot.toNat (aI .i64 e15 1))), some (1, rows ci_i64 r17.1)] [] ⟨.inl ok39, .inl ok46, .inl ok51, .inl ok52, trivial⟩ (by kernel_rfl) (by first | (simp -implicitDefEqProofs [c18]; done) | simp -implicitDefEqProofs [c18, pT30]) ?_
        refine VW.seq ?_
        refine VW.seq ?_
        refine VW.evalA (C := [(39, F39), (46, F46), (51, F51), (52, F52)]) (tm 53 [(7, .i .i64 r10.2), (9, .i .i64 r17.2), (49, .b (eqI r17.2 (-1)))]) [some (7, [[.ref 2 0 (r13.set slot.toNat (aI .i64 e15 1)).length, .sl 1 (rows ci_i64 s.price_), .i .i64 s.most_, .i .i64 s.yield_, .i .i64 s.store_, .i .i64 s.first_, .i .i64 s.loss_]]), some (1, rows ci_i64 r10.1), some (1, rows ci_i64 (r13.set slot.toNat (aI .i64 e15 1))), some (1, rows ci_i64 r17.1)] [] ⟨.inl ok39, .inl ok46, .inl ok51, .inl ok52, trivial⟩ (by kernel_rfl) (by first | (simp -implicitDefEqProofs; done) | simp -implicitDefEqProofs [pT30]) ?_
        refine VW.condB (b := eqI r17.2 (-1)) (by simp) (fun g19 => ?_) (fun g19 => ?_)
        · replace h := iteT g19 h
          refine VW.seq ?_
          refine VW.evalA (C := [(39, F39), (46, F46), (51, F51), (52, F52)]) (tm 53 [(4, .i .i64 0), (5, .i .i64 4)]) [some (7, [[.ref 2 0 (r13.set slot.toNat (aI .i64 e15 1)).length, .sl 1 (rows ci_i64 s.price_), .i .i64 s.most_, .i .i64 s.yield_, .i .i64 s.store_, .i .i64 s.first_, .i .i64 s.loss_]]), some (1, rows ci_i64 r10.1), some (1, rows ci_i64 (r13.set slot.toNat (aI .i64 e15 1))), some (1, rows ci_i64 r17.1)] [] ⟨.inl ok39, .inl ok46, .inl ok51, .inl ok52, trivial⟩ (by kernel_rfl) (by first | (simp -implicitDefEqProofs; done) | simp -implicitDefEqProofs [pT30]) ?_
          obtain rfl := leafS h
          refine VW.ret (VRet.fin ?_)
          first | (simp [eB26]; done) | simp [eB26, pT30]
        · replace h := iteF g19 h
          refine VW.skip ?_
          refine VW.seq ?_
          refine VW.evalA (C := [(39, F39), (46, F46), (51, F51), (52, F52)]) (tm 53 [(4, .i .i64 (sI .i64 r17.2 r10.2)), (5, .i .i64 0)]) [some (7, [[.ref 2 0 (r13.set slot.toNat (aI .i64 e15 1)).length, .sl 1 (rows ci_i64 s.price_), .i .i64 s.most_, .i .i64 s.yield_, .i .i64 s.store_, .i .i64 s.first_, .i .i64 s.loss_]]), some (1, rows ci_i64 r10.1), some (1, rows ci_i64 (r13.set slot.toNat (aI .i64 e15 1))), some (1, rows ci_i64 r17.1)] [] ⟨.inl ok39, .inl ok46, .inl ok51, .inl ok52, trivial⟩ (by kernel_rfl) (by first | (simp -implicitDefEqProofs; done) | simp -implicitDefEqProofs [pT30]) ?_
          obtain rfl := leafS h
          refine VW.ret (VRet.fin ?_)
          first | (simp [eB26]; done) | simp [eB26, pT30]
end Go.Proofs.Ytiiejiobkfakeaa
