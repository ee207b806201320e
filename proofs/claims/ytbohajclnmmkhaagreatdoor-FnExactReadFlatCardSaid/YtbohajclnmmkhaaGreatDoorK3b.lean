/- Contracts of the functions that the law reaches: what each tells, as a function in Lean. -/
import Derived.Test.YtbohajclnmmkhaaGreatDoorK3a
import Derived.KernelRfl
namespace Go.Proofs.YtbohajclnmmkhaaGreatDoor
open Go.RowKit Go.VL
set_option linter.unusedSimpArgs false
set_option linter.unusedVariables false
set_option maxHeartbeats 40000000
set_option maxRecDepth 100000
noncomputable def g21_j3 (out_423 : ByteArray) : Option (ByteArray) :=
some out_423
noncomputable def g21_L1 (f : T25) : (ByteArray × Int) → Option ((ByteArray × Int) ⊕ (ByteArray))
| (out_460, x_461) =>
if ltI x_461 (f.panes_.length : Int) = true then
(idx f.panes_ x_461).bind fun e463 =>
(g50 e463.a_ 10).bind fun r465 =>
(g51 e463.b_).bind fun r467 =>
(g49 e463.lead_).bind fun r469 =>
(g49 e463.sun_).bind fun r471 =>
(g52 [(⟨#[112, 97, 110, 101]⟩ : ByteArray), r465, r467, r469, r471] (⟨#[32]⟩ : ByteArray)).bind fun r473 =>
(catS r473 (⟨#[10]⟩ : ByteArray)).bind fun z475 =>
(catS out_460 z475).bind fun z477 =>
some (.inl (z477, aI .i64 x_461 1))
else
some (.inr out_460)
noncomputable def g21_j2 (f : T25) (out_367 : ByteArray) : Option (ByteArray) :=
(loopO (g21_L1 f) (out_367, 0)).bind fun w => g21_j3 w
noncomputable def g21_j4 (x_682 : Int) (out_733 : ByteArray) : Option ((ByteArray × Int) ⊕ (ByteArray)) :=
some (.inl (out_733, aI .i64 x_682 1))
noncomputable def g21_j5 (out_681 : ByteArray) (x_682 : Int) (l760 : List ByteArray) : Option ((ByteArray × Int) ⊕ (ByteArray)) :=
(g52 l760 (⟨#[32]⟩ : ByteArray)).bind fun r761 =>
(catS r761 (⟨#[10]⟩ : ByteArray)).bind fun z763 =>
(catS out_681 z763).bind fun z765 =>
g21_j4 x_682 z765
noncomputable def g21_L2 (f : T25) : (ByteArray × Int) → Option ((ByteArray × Int) ⊕ (ByteArray))
| (out_681, x_682) =>
if ltI x_682 (f.walls_.length : Int) = true then
(idx f.walls_ x_682).bind fun e734 =>
(g50 e734.a_ 10).bind fun r736 =>
(g51 e734.b_).bind fun r738 =>
(g49 e734.lead_).bind fun r740 =>
(g49 e734.store_).bind fun r742 =>
(g49 e734.heat_.a0_).bind fun r767 =>
(appK 16 [(⟨#[119, 97, 108, 108]⟩ : ByteArray), r736, r738, r740, r742] [r767]).bind fun u769 =>
(g49 e734.heat_.a1_).bind fun r771 =>
(appK 16 ([(⟨#[119, 97, 108, 108]⟩ : ByteArray), r736, r738, r740, r742] ++ [r767]) [r771]).bind fun u773 =>
(g49 e734.heat_.a2_).bind fun r775 =>
(appK 16 (([(⟨#[119, 97, 108, 108]⟩ : ByteArray), r736, r738, r740, r742] ++ [r767]) ++ [r771]) [r775]).bind fun u777 =>
(g49 e734.heat_.a3_).bind fun r779 =>
(appK 16 ((([(⟨#[119, 97, 108, 108]⟩ : ByteArray), r736, r738, r740, r742] ++ [r767]) ++ [r771]) ++ [r775]) [r779]).bind fun u781 =>
g21_j5 out_681 x_682 (((([(⟨#[119, 97, 108, 108]⟩ : ByteArray), r736, r738, r740, r742] ++ [r767]) ++ [r771]) ++ [r775]) ++ [r779])
else
some (.inr out_681)
noncomputable def g21_j1 (f : T25) (out_62 : ByteArray) : Option (ByteArray) :=
(loopO (g21_L2 f) (out_62, 0)).bind fun w => g21_j2 f w
noncomputable def g21_L3 (f : T25) : (ByteArray × Int) → Option ((ByteArray × Int) ⊕ (ByteArray))
| (out_823, x_824) =>
if ltI x_824 (f.heat_.length : Int) = true then
(idx f.heat_ x_824).bind fun e826 =>
(g49 e826).bind fun r828 =>
(catS (⟨#[114, 111, 111, 109, 32]⟩ : ByteArray) r828).bind fun z830 =>
(catS z830 (⟨#[32]⟩ : ByteArray)).bind fun z832 =>
(idx f.store_ x_824).bind fun e834 =>
(g49 e834).bind fun r836 =>
(catS z832 r836).bind fun z838 =>
(catS z838 (⟨#[10]⟩ : ByteArray)).bind fun z840 =>
(catS out_823 z840).bind fun z842 =>
some (.inl (z842, aI .i64 x_824 1))
else
some (.inr out_823)
noncomputable def g21 (f : T25) : Option (ByteArray) :=
(loopO (g21_L3 f) (ByteArray.empty, 0)).bind fun w => g21_j1 f w
def eA21 (a : T25) : List V := [.agg (pT25 a)]
def eB21 (r : ByteArray) : V := .str r
theorem inj21 (a a' : T25) (h : eA21 a = eA21 a') : a = a' := by
  obtain ⟨i213, i214, i215, i216⟩ := a
  obtain ⟨i217, i218, i219, i220⟩ := a'
  simp only [eA21, pT25, List.cons.injEq, V.i.injEq, V.b.injEq, V.f.injEq, V.str.injEq, V.sl.injEq, V.agg.injEq, V.cptr.injEq, true_and, and_true] at h
  simp_all [ri cT47_inj, ri cT49_inj, ri cf_f32_inj]
noncomputable def F21 : List V → Option V := tells (fun a => g21 a) eA21 eB21
/- loop.example/g01229/impl.flatText -/
theorem ok21 : Tells Tryz.prog 21 F21 := by
 refine Tells.go 99 Tryz.func21 rfl rfl rfl (by kernel_rfl) (fun _ => rfl) ?_
 rintro f r h
 simp only [eA21, en, Nat.reduceAdd]
 replace h : (g21 f).bind some = some r := bindS h
 rw [g21] at h
 have hC : CEnv.Ok Tryz.prog [(49, F49), (50, F50), (51, F51), (52, F52)] := ⟨.inl ok49, .inl ok50, .inl ok51, .inl ok52, trivial⟩
 refine VW.seq (VW.rA (tm 99 [(1, .ptr 0 0 0)]) [some (4, [(pT25 f)])] [] hC (VW.seq (VW.rA (tm 99 [(1, .ptr 0 0 0), (3, .str ByteArray.empty)]) [some (4, [(pT25 f)])] [] hC (VW.join (fun (v : ByteArray) => (⟨(tm 99 [(1, .ptr 0 0 0), (3, .str v)]), [some (4, [(pT25 f)])], []⟩ : VS)) (fun v => (g21_j1 f (v)).bind some = some r) ?_ ?_))))
 · refine VW.seq (VW.rA (tm 99 [(1, .ptr 0 0 0), (3, .str ByteArray.empty), (14, .sl 1 (rows cf_f32 f.heat_)), (15, .i .i64 (f.heat_.length : Int)), (16, .i .i64 0)]) [some (4, [(pT25 f)])] [] hC (VW.block ?_))
   obtain ⟨w_3, hw_3, h⟩ := bindE h
   refine VW.loopO (fun (x : ByteArray × Int) => (⟨(tm 99 [(1, .ptr 0 0 0), (3, .str x.1), (14, .sl 1 (rows cf_f32 f.heat_)), (15, .i .i64 (f.heat_.length : Int)), (16, .i .i64 x.2)]), [some (4, [(pT25 f)])], []⟩ : VS)) hw_3 (Ent.tu 1) ?_
   rintro n_3 ⟨out_823, x_824⟩ h1
   rw [g21_L3] at h1
   refine VW.seq (VW.rA (tm 99 [(1, .ptr 0 0 0), (3, .str out_823), (14, .sl 1 (rows cf_f32 f.heat_)), (15, .i .i64 (f.heat_.length : Int)), (16, .i .i64 x_824), (17, .b (ltI x_824 (f.heat_.length : Int)))]) [some (4, [(pT25 f)])] [] hC (VW.seq (VW.condJ h1 (fun h1 => ?_) (fun h1 => ?_))))
   · refine VW.exit ?_
     have e_ := leafR h1
     subst w_3
     exact vnext out_823 h (Ent.tu 1)
   refine VW.skip (VW.seq (VW.block (VW.seq ?_)))
   obtain ⟨e826, ⟨f827a, f827b, f827c, f827d⟩, h1⟩ := bindI h1
   refine VW.rA (tm 99 [(1, .ptr 0 0 0), (3, .str out_823), (4, .i .i64 x_824), (5, .f .f32 e826), (14, .sl 1 (rows cf_f32 f.heat_)), (15, .i .i64 (f.heat_.length : Int)), (16, .i .i64 x_824)]) [some (4, [(pT25 f)])] [] hC ?_ (h := by simp -implicitDefEqProofs [f827a, f827b, f827c, f827d])
   obtain ⟨r828, q829, h1⟩ := bindE h1
   have c829 := tl49 q829
   obtain ⟨z830, q831, h1⟩ := bindE h1
   obtain ⟨z832, q833, h1⟩ := bindE h1
   obtain ⟨e834, ⟨f835a, f835b, f835c, f835d⟩, h1⟩ := bindI h1
   obtain ⟨r836, q837, h1⟩ := bindE h1
   have c837 := tl49 q837
   obtain ⟨z838, q839, h1⟩ := bindE h1
   obtain ⟨z840, q841, h1⟩ := bindE h1
   obtain ⟨z842, q843, h1⟩ := bindE h1
   exact VW.rD (tm 99 [(1, .ptr 0 0 0), (3, .str z842), (14, .sl 1 (rows cf_f32 f.heat_)), (15, .i .i64 (f.heat_.length : Int)), (16, .i .i64 x_824)]) [some (4, [(pT25 f)])] [] hC mixed (VW.rA (tm 99 [(1, .ptr 0 0 0), (3, .str z842), (14, .sl 1 (rows cf_f32 f.heat_)), (15, .i .i64 (f.heat_.length : Int)), (16, .i .i64 (aI .i64 x_824 1))]) [some (4, [(pT25 f)])] [] hC (vnext (z842, aI .i64 x_824 1) (leafL h1) (Ent.tu 1))) (h := by simp -implicitDefEqProofs [c829, q831, q833, f835a, f835b, f835c, f835d, c837, q839, q841, q843])
 rintro out_62 h
 replace h : (g21_j1 f out_62).bind _ = _ := h
 rw [g21_j1] at h
 refine VW.join (fun (v : ByteArray) => (⟨(tm 99 [(1, .ptr 0 0 0), (3, .str v)]), [some (4, [(pT25 f)])], []⟩ : VS)) (fun v => (g21_j2 f (v)).bind some = some r) ?_ ?_
 · refine VW.seq (VW.rA (tm 99 [(1, .ptr 0 0 0), (3, .str out_62), (37, .sl 8 (rows cT47 f.walls_)), (38, .i .i64 (f.walls_.length : Int)), (39, .i .i64 0)]) [some (4, [(pT25 f)])] [] hC (VW.block ?_))
   obtain ⟨w_2, hw_2, h⟩ := bindE h
   refine VW.loopO (fun (x : ByteArray × Int) => (⟨(tm 99 [(1, .ptr 0 0 0), (3, .str x.1), (37, .sl 8 (rows cT47 f.walls_)), (38, .i .i64 (f.walls_.length : Int)), (39, .i .i64 x.2)]), [some (4, [(pT25 f)])], []⟩ : VS)) hw_2 (Ent.tu 1) ?_
   rintro n_2 ⟨out_681, x_682⟩ h1
   rw [g21_L2] at h1
   refine VW.seq (VW.rA (tm 99 [(1, .ptr 0 0 0), (3, .str out_681), (37, .sl 8 (rows cT47 f.walls_)), (38, .i .i64 (f.walls_.length : Int)), (39, .i .i64 x_682), (40, .b (ltI x_682 (f.walls_.length : Int)))]) [some (4, [(pT25 f)])] [] hC (VW.seq (VW.condJ h1 (fun h1 => ?_) (fun h1 => ?_))))
   · refine VW.exit ?_
     have e_ := leafR h1
     subst w_2
     exact vnext out_681 h (Ent.tu 1)
   refine VW.skip (VW.join (fun (v : ByteArray) => (⟨(tm 99 [(1, .ptr 0 0 0), (3, .str v), (37, .sl 8 (rows cT47 f.walls_)), (38, .i .i64 (f.walls_.length : Int)), (39, .i .i64 x_682)]), [some (4, [(pT25 f)])], []⟩ : VS)) (fun v => (g21_j4 x_682 (v)).bind (kN (g21_L2 f) n_2) = some w_2) ?_ ?_)
   · refine VW.block (VW.seq ?_)
     obtain ⟨e734, ⟨f735a, f735b, f735c, f735d⟩, h1⟩ := bindI h1
     refine VW.rA (tm 99 [(1, .ptr 0 0 0), (3, .str out_681), (7, .ptr 1 0 0), (37, .sl 8 (rows cT47 f.walls_)), (38, .i .i64 (f.walls_.length : Int)), (39, .i .i64 x_682)]) [some (4, [(pT25 f)]), some (8, [[.i .i64 e734.a_, .i .i64 e734.b_, .f .f32 e734.lead_, .f .f32 e734.store_, .f .f32 e734.heat_.a0_, .f .f32 e734.heat_.a1_, .f .f32 e734.heat_.a2_, .f .f32 e734.heat_.a3_]])] [] hC (VW.seq ?_) (h := by simp -implicitDefEqProofs [f735a, f735b, f735c, f735d])
     obtain ⟨r736, q737, h1⟩ := bindE h1
     have c737 := tl50 q737
     obtain ⟨r738, q739, h1⟩ := bindE h1
     have c739 := tl51 q739
     obtain ⟨r740, q741, h1⟩ := bindE h1
     have c741 := tl49 q741
     obtain ⟨r742, q743, h1⟩ := bindE h1
     have c743 := tl49 q743
     refine VW.rD (tm 99 [(1, .ptr 0 0 0), (3, .str out_681), (7, .ptr 1 0 0), (8, .ref 2 0 [(⟨#[119, 97, 108, 108]⟩ : ByteArray), r736, r738, r740, r742].length), (37, .sl 8 (rows cT47 f.walls_)), (38, .i .i64 (f.walls_.length : Int)), (39, .i .i64 x_682)]) [some (4, [(pT25 f)]), some (8, [[.i .i64 e734.a_, .i .i64 e734.b_, .f .f32 e734.lead_, .f .f32 e734.store_, .f .f32 e734.heat_.a0_, .f .f32 e734.heat_.a1_, .f .f32 e734.heat_.a2_, .f .f32 e734.heat_.a3_]]), some (1, rows cs_ [(⟨#[119, 97, 108, 108]⟩ : ByteArray), r736, r738, r740, r742])] [] hC mixed (VW.join (fun (v : List ByteArray) => (⟨(tm 99 [(1, .ptr 0 0 0), (3, .str out_681), (8, .ref 2 0 v.length), (37, .sl 8 (rows cT47 f.walls_)), (38, .i .i64 (f.walls_.length : Int)), (39, .i .i64 x_682)]), [some (4, [(pT25 f)]), some (8, [[.i .i64 e734.a_, .i .i64 e734.b_, .f .f32 e734.lead_, .f .f32 e734.store_, .f .f32 e734.heat_.a0_, .f .f32 e734.heat_.a1_, .f .f32 e734.heat_.a2_, .f .f32 e734.heat_.a3_]]), some (1, rows cs_ v)], []⟩ : VS)) (fun v => (g21_j5 out_681 x_682 (v)).bind (kN (g21_L2 f) n_2) = some w_2) ?_ ?_) (h := by simp -implicitDefEqProofs [c737, c739, c741, c743])
     · refine VW.seq (VW.rA (tm 99 [(1, .ptr 0 0 0), (3, .str out_681), (8, .ref 2 0 [(⟨#[119, 97, 108, 108]⟩ : ByteArray), r736, r738, r740, r742].length), (37, .sl 8 (rows cT47 f.walls_)), (38, .i .i64 (f.walls_.length : Int)), (39, .i .i64 x_682), (57, .agg [.f .f32 e734.heat_.a0_, .f .f32 e734.heat_.a1_, .f .f32 e734.heat_.a2_, .f .f32 e734.heat_.a3_]), (58, .i .i64 0)]) [some (4, [(pT25 f)]), some (8, [[.i .i64 e734.a_, .i .i64 e734.b_, .f .f32 e734.lead_, .f .f32 e734.store_, .f .f32 e734.heat_.a0_, .f .f32 e734.heat_.a1_, .f .f32 e734.heat_.a2_, .f .f32 e734.heat_.a3_]]), some (1, rows cs_ [(⟨#[119, 97, 108, 108]⟩ : ByteArray), r736, r738, r740, r742])] [] hC (VW.block (VW.rounds 6 (VRounds.step (VW.seq (VW.rA (tm 99 [(1, .ptr 0 0 0), (3, .str out_681), (8, .ref 2 0 [(⟨#[119, 97, 108, 108]⟩ : ByteArray), r736, r738, r740, r742].length), (37, .sl 8 (rows cT47 f.walls_)), (38, .i .i64 (f.walls_.length : Int)), (39, .i .i64 x_682), (57, .agg [.f .f32 e734.heat_.a0_, .f .f32 e734.heat_.a1_, .f .f32 e734.heat_.a2_, .f .f32 e734.heat_.a3_]), (58, .i .i64 0), (59, .b true)]) [some (4, [(pT25 f)]), some (8, [[.i .i64 e734.a_, .i .i64 e734.b_, .f .f32 e734.lead_, .f .f32 e734.store_, .f .f32 e734.heat_.a0_, .f .f32 e734.heat_.a1_, .f .f32 e734.heat_.a2_, .f .f32 e734.heat_.a3_]]), some (1, rows cs_ [(⟨#[119, 97, 108, 108]⟩ : ByteArray), r736, r738, r740, r742])] [] hC (VW.seq (VW.condT (by simp) (VW.skip (VW.seq (VW.block (VW.seq (VW.rA (tm 99 [(1, .ptr 0 0 0), (3, .str out_681), (8, .ref 2 0 [(⟨#[119, 97, 108, 108]⟩ : ByteArray), r736, r738, r740, r742].length), (10, .f .f32 e734.heat_.a0_), (37, .sl 8 (rows cT47 f.walls_)), (38, .i .i64 (f.walls_.length : Int)), (39, .i .i64 x_682), (57, .agg [.f .f32 e734.heat_.a0_, .f .f32 e734.heat_.a1_, .f .f32 e734.heat_.a2_, .f .f32 e734.heat_.a3_]), (58, .i .i64 0)]) [some (4, [(pT25 f)]), some (8, [[.i .i64 e734.a_, .i .i64 e734.b_, .f .f32 e734.lead_, .f .f32 e734.store_, .f .f32 e734.heat_.a0_, .f .f32 e734.heat_.a1_, .f .f32 e734.heat_.a2_, .f .f32 e734.heat_.a3_]]), some (1, rows cs_ [(⟨#[119, 97, 108, 108]⟩ : ByteArray), r736, r738, r740, r742])] [] hC ?_))))))) (h := by simp -implicitDefEqProofs [(by decide : ltI 0 4 = true)])))))))
       obtain ⟨r767, q768, h1⟩ := bindE h1
       have c768 := tl49 q768
       obtain ⟨u769, ⟨f770a, f770b⟩, h1⟩ := bindP h1
       try simp only [Int.toNat_natCast, Int.reduceToNat, List.length_cons, List.length_nil, Nat.reduceAdd, Nat.zero_add] at f770a f770b
       refine VW.rA (tm 99 [(1, .ptr 0 0 0), (3, .str out_681), (8, .ref 2 0 ([(⟨#[119, 97, 108, 108]⟩ : ByteArray), r736, r738, r740, r742] ++ [r767]).length), (37, .sl 8 (rows cT47 f.walls_)), (38, .i .i64 (f.walls_.length : Int)), (39, .i .i64 x_682), (57, .agg [.f .f32 e734.heat_.a0_, .f .f32 e734.heat_.a1_, .f .f32 e734.heat_.a2_, .f .f32 e734.heat_.a3_]), (58, .i .i64 0)]) [some (4, [(pT25 f)]), some (8, [[.i .i64 e734.a_, .i .i64 e734.b_, .f .f32 e734.lead_, .f .f32 e734.store_, .f .f32 e734.heat_.a0_, .f .f32 e734.heat_.a1_, .f .f32 e734.heat_.a2_, .f .f32 e734.heat_.a3_]]), some (1, rows cs_ ([(⟨#[119, 97, 108, 108]⟩ : ByteArray), r736, r738, r740, r742] ++ [r767])), some (1, rows cs_ [r767])] [] hC (VW.rA (tm 99 [(1, .ptr 0 0 0), (3, .str out_681), (8, .ref 2 0 ([(⟨#[119, 97, 108, 108]⟩ : ByteArray), r736, r738, r740, r742] ++ [r767]).length), (37, .sl 8 (rows cT47 f.walls_)), (38, .i .i64 (f.walls_.length : Int)), (39, .i .i64 x_682), (57, .agg [.f .f32 e734.heat_.a0_, .f .f32 e734.heat_.a1_, .f .f32 e734.heat_.a2_, .f .f32 e734.heat_.a3_]), (58, .i .i64 1)]) [some (4, [(pT25 f)]), some (8, [[.i .i64 e734.a_, .i .i64 e734.b_, .f .f32 e734.lead_, .f .f32 e734.store_, .f .f32 e734.heat_.a0_, .f .f32 e734.heat_.a1_, .f .f32 e734.heat_.a2_, .f .f32 e734.heat_.a3_]]), some (1, rows cs_ ([(⟨#[119, 97, 108, 108]⟩ : ByteArray), r736, r738, r740, r742] ++ [r767])), some (1, rows cs_ [r767])] [] hC (VRounds.step (VW.seq (VW.rA (tm 99 [(1, .ptr 0 0 0), (3, .str out_681), (8, .ref 2 0 ([(⟨#[119, 97, 108, 108]⟩ : ByteArray), r736, r738, r740, r742] ++ [r767]).length), (37, .sl 8 (rows cT47 f.walls_)), (38, .i .i64 (f.walls_.length : Int)), (39, .i .i64 x_682), (57, .agg [.f .f32 e734.heat_.a0_, .f .f32 e734.heat_.a1_, .f .f32 e734.heat_.a2_, .f .f32 e734.heat_.a3_]), (58, .i .i64 1), (59, .b true)]) [some (4, [(pT25 f)]), some (8, [[.i .i64 e734.a_, .i .i64 e734.b_, .f .f32 e734.lead_, .f .f32 e734.store_, .f .f32 e734.heat_.a0_, .f .f32 e734.heat_.a1_, .f .f32 e734.heat_.a2_, .f .f32 e734.heat_.a3_]]), some (1, rows cs_ ([(⟨#[119, 97, 108, 108]⟩ : ByteArray), r736, r738, r740, r742] ++ [r767])), some (1, rows cs_ [r767])] [] hC (VW.seq (VW.condT (by simp) (VW.skip (VW.seq (VW.block (VW.seq (VW.rA (tm 99 [(1, .ptr 0 0 0), (3, .str out_681), (8, .ref 2 0 ([(⟨#[119, 97, 108, 108]⟩ : ByteArray), r736, r738, r740, r742] ++ [r767]).length), (10, .f .f32 e734.heat_.a1_), (37, .sl 8 (rows cT47 f.walls_)), (38, .i .i64 (f.walls_.length : Int)), (39, .i .i64 x_682), (57, .agg [.f .f32 e734.heat_.a0_, .f .f32 e734.heat_.a1_, .f .f32 e734.heat_.a2_, .f .f32 e734.heat_.a3_]), (58, .i .i64 1)]) [some (4, [(pT25 f)]), some (8, [[.i .i64 e734.a_, .i .i64 e734.b_, .f .f32 e734.lead_, .f .f32 e734.store_, .f .f32 e734.heat_.a0_, .f .f32 e734.heat_.a1_, .f .f32 e734.heat_.a2_, .f .f32 e734.heat_.a3_]]), some (1, rows cs_ ([(⟨#[119, 97, 108, 108]⟩ : ByteArray), r736, r738, r740, r742] ++ [r767])), some (1, rows cs_ [r767])] [] hC ?_))))))) (h := by simp -implicitDefEqProofs [(by decide : ltI 1 4 = true)])))) (h := by simp -implicitDefEqProofs [(by decide : aI .i64 0 1 = 1)])) (h := by simp -implicitDefEqProofs [c768, f770a, f770b])
       obtain ⟨r771, q772, h1⟩ := bindE h1
       have c772 := tl49 q772
       obtain ⟨u773, ⟨f774a, f774b⟩, h1⟩ := bindP h1
       try simp only [Int.toNat_natCast, Int.reduceToNat, List.length_cons, List.length_nil, Nat.reduceAdd, Nat.zero_add] at f774a f774b
       refine VW.rA (tm 99 [(1, .ptr 0 0 0), (3, .str out_681), (8, .ref 2 0 (([(⟨#[119, 97, 108, 108]⟩ : ByteArray), r736, r738, r740, r742] ++ [r767]) ++ [r771]).length), (37, .sl 8 (rows cT47 f.walls_)), (38, .i .i64 (f.walls_.length : Int)), (39, .i .i64 x_682), (57, .agg [.f .f32 e734.heat_.a0_, .f .f32 e734.heat_.a1_, .f .f32 e734.heat_.a2_, .f .f32 e734.heat_.a3_]), (58, .i .i64 1)]) [some (4, [(pT25 f)]), some (8, [[.i .i64 e734.a_, .i .i64 e734.b_, .f .f32 e734.lead_, .f .f32 e734.store_, .f .f32 e734.heat_.a0_, .f .f32 e734.heat_.a1_, .f .f32 e734.heat_.a2_, .f .f32 e734.heat_.a3_]]), some (1, rows cs_ (([(⟨#[119, 97, 108, 108]⟩ : ByteArray), r736, r738, r740, r742] ++ [r767]) ++ [r771])), some (1, rows cs_ [r767]), some (1, rows cs_ [r771])] [] hC (VW.rA (tm 99 [(1, .ptr 0 0 0), (3, .str out_681), (8, .ref 2 0 (([(⟨#[119, 97, 108, 108]⟩ : ByteArray), r736, r738, r740, r742] ++ [r767]) ++ [r771]).length), (37, .sl 8 (rows cT47 f.walls_)), (38, .i .i64 (f.walls_.length : Int)), (39, .i .i64 x_682), (57, .agg [.f .f32 e734.heat_.a0_, .f .f32 e734.heat_.a1_, .f .f32 e734.heat_.a2_, .f .f32 e734.heat_.a3_]), (58, .i .i64 2)]) [some (4, [(pT25 f)]), some (8, [[.i .i64 e734.a_, .i .i64 e734.b_, .f .f32 e734.lead_, .f .f32 e734.store_, .f .f32 e734.heat_.a0_, .f .f32 e734.heat_.a1_, .f .f32 e734.heat_.a2_, .f .f32 e734.heat_.a3_]]), some (1, rows cs_ (([(⟨#[119, 97, 108, 108]⟩ : ByteArray), r736, r738, r740, r742] ++ [r767]) ++ [r771])), some (1, rows cs_ [r767]), some (1, rows cs_ [r771])] [] hC (VRounds.step (VW.seq (VW.rA (tm 99 [(1, .ptr 0 0 0), (3, .str out_681), (8, .ref 2 0 (([(⟨#[119, 97, 108, 108]⟩ : ByteArray), r736, r738, r740, r742] ++ [r767]) ++ [r771]).length), (37, .sl 8 (rows cT47 f.walls_)), (38, .i .i64 (f.walls_.length : Int)), (39, .i .i64 x_682), (57, .agg [.f .f32 e734.heat_.a0_, .f .f32 e734.heat_.a1_, .f .f32 e734.heat_.a2_, .f .f32 e734.heat_.a3_]), (58, .i .i64 2), (59, .b true)]) [some (4, [(pT25 f)]), some (8, [[.i .i64 e734.a_, .i .i64 e734.b_, .f .f32 e734.lead_, .f .f32 e734.store_, .f .f32 e734.heat_.a0_, .f .f32 e734.heat_.a1_, .f .f32 e734.heat_.a2_, .f .f32 e734.heat_.a3_]]), some (1, rows cs_ (([(⟨#[119, 97, 108, 108]⟩ : ByteArray), r736, r738, r740, r742] ++ [r767]) ++ [r771])), some (1, rows cs_ [r767]), some (1, rows cs_ [r771])] [] hC (VW.seq (VW.condT (by simp) (VW.skip (VW.seq (VW.block (VW.seq (VW.rA (tm 99 [(1, .ptr 0 0 0), (3, .str out_681), (8, .ref 2 0 (([(⟨#[119, 97, 108, 108]⟩ : ByteArray), r736, r738, r740, r742] ++ [r767]) ++ [r771]).length), (10, .f .f32 e734.heat_.a2_), (37, .sl 8 (rows cT47 f.walls_)), (38, .i .i64 (f.walls_.length : Int)), (39, .i .i64 x_682), (57, .agg [.f .f32 e734.heat_.a0_, .f .f32 e734.heat_.a1_, .f .f32 e734.heat_.a2_, .f .f32 e734.heat_.a3_]), (58, .i .i64 2)]) [some (4, [(pT25 f)]), some (8, [[.i .i64 e734.a_, .i .i64 e734.b_, .f .f32 e734.lead_, .f .f32 e734.store_, .f .f32 e734.heat_.a0_, .f .f32 e734.heat_.a1_, .f .f32 e734.heat_.a2_, .f .f32 e734.heat_.a3_]]), some (1, rows cs_ (([(⟨#[119, 97, 108, 108]⟩ : ByteArray), r736, r738, r740, r742] ++ [r767]) ++ [r771])), some (1, rows cs_ [r767]), some (1, rows cs_ [r771])] [] hC ?_))))))) (h := by simp -implicitDefEqProofs [(by decide : ltI 2 4 = true)])))) (h := by simp -implicitDefEqProofs [(by decide : aI .i64 1 1 = 2)])) (h := by simp -implicitDefEqProofs [c772, f774a, f774b])
       obtain ⟨r775, q776, h1⟩ := bindE h1
       have c776 := tl49 q776
       obtain ⟨u777, ⟨f778a, f778b⟩, h1⟩ := bindP h1
       try simp only [Int.toNat_natCast, Int.reduceToNat, List.length_cons, List.length_nil, Nat.reduceAdd, Nat.zero_add] at f778a f778b
       refine VW.rA (tm 99 [(1, .ptr 0 0 0), (3, .str out_681), (8, .ref 2 0 ((([(⟨#[119, 97, 108, 108]⟩ : ByteArray), r736, r738, r740, r742] ++ [r767]) ++ [r771]) ++ [r775]).length), (37, .sl 8 (rows cT47 f.walls_)), (38, .i .i64 (f.walls_.length : Int)), (39, .i .i64 x_682), (57, .agg [.f .f32 e734.heat_.a0_, .f .f32 e734.heat_.a1_, .f .f32 e734.heat_.a2_, .f .f32 e734.heat_.a3_]), (58, .i .i64 2)]) [some (4, [(pT25 f)]), some (8, [[.i .i64 e734.a_, .i .i64 e734.b_, .f .f32 e734.lead_, .f .f32 e734.store_, .f .f32 e734.heat_.a0_, .f .f32 e734.heat_.a1_, .f .f32 e734.heat_.a2_, .f .f32 e734.heat_.a3_]]), some (1, rows cs_ ((([(⟨#[119, 97, 108, 108]⟩ : ByteArray), r736, r738, r740, r742] ++ [r767]) ++ [r771]) ++ [r775])), some (1, rows cs_ [r767]), some (1, rows cs_ [r771]), some (1, rows cs_ [r775])] [] hC (VW.rA (tm 99 [(1, .ptr 0 0 0), (3, .str out_681), (8, .ref 2 0 ((([(⟨#[119, 97, 108, 108]⟩ : ByteArray), r736, r738, r740, r742] ++ [r767]) ++ [r771]) ++ [r775]).length), (37, .sl 8 (rows cT47 f.walls_)), (38, .i .i64 (f.walls_.length : Int)), (39, .i .i64 x_682), (57, .agg [.f .f32 e734.heat_.a0_, .f .f32 e734.heat_.a1_, .f .f32 e734.heat_.a2_, .f .f32 e734.heat_.a3_]), (58, .i .i64 3)]) [some (4, [(pT25 f)]), some (8, [[.i .i64 e734.a_, .i .i64 e734.b_, .f .f32 e734.lead_, .f .f32 e734.store_, .f .f32 e734.heat_.a0_, .f .f32 e734.heat_.a1_, .f .f32 e734.heat_.a2_, .f .f32 e734.heat_.a3_]]), some (1, rows cs_ ((([(⟨#[119, 97, 108, 108]⟩ : ByteArray), r736, r738, r740, r742] ++ [r767]) ++ [r771]) ++ [r775])), some (1, rows cs_ [r767]), some (1, rows cs_ [r771]), some (1, rows cs_ [r775])] [] hC (VRounds.step (VW.seq (VW.rA (tm 99 [(1, .ptr 0 0 0), (3, .str out_681), (8, .ref 2 0 ((([(⟨#[119, 97, 108, 108]⟩ : ByteArray), r736, r738, r740, r742] ++ [r767]) ++ [r771]) ++ [r775]).length), (37, .sl 8 (rows cT47 f.walls_)), (38, .i .i64 (f.walls_.length : Int)), (39, .i .i64 x_682), (57, .agg [.f .f32 e734.heat_.a0_, .f .f32 e734.heat_.a1_, .f .f32 e734.heat_.a2_, .f .f32 e734.heat_.a3_]), (58, .i .i64 3), (59, .b true)]) [some (4, [(pT25 f)]), some (8, [[.i .i64 e734.a_, .i .i64 e734.b_, .f .f32 e734.lead_, .f .f32 e734.store_, .f .f32 e734.heat_.a0_, .f .f32 e734.heat_.a1_, .f .f32 e734.heat_.a2_, .f .f32 e734.heat_.a3_]]), some (1, rows cs_ ((([(⟨#[119, 97, 108, 108]⟩ : ByteArray), r736, r738, r740, r742] ++ [r767]) ++ [r771]) ++ [r775])), some (1, rows cs_ [r767]), some (1, rows cs_ [r771]), some (1, rows cs_ [r775])] [] hC (VW.seq (VW.condT (by simp) (VW.skip (VW.seq (VW.block (VW.seq (VW.rA (tm 99 [(1, .ptr 0 0 0), (3, .str out_681), (8, .ref 2 0 ((([(⟨#[119, 97, 108, 108]⟩ : ByteArray), r736, r738, r740, r742] ++ [r767]) ++ [r771]) ++ [r775]).length), (10, .f .f32 e734.heat_.a3_), (37, .sl 8 (rows cT47 f.walls_)), (38, .i .i64 (f.walls_.length : Int)), (39, .i .i64 x_682), (57, .agg [.f .f32 e734.heat_.a0_, .f .f32 e734.heat_.a1_, .f .f32 e734.heat_.a2_, .f .f32 e734.heat_.a3_]), (58, .i .i64 3)]) [some (4, [(pT25 f)]), some (8, [[.i .i64 e734.a_, .i .i64 e734.b_, .f .f32 e734.lead_, .f .f32 e734.store_, .f .f32 e734.heat_.a0_, .f .f32 e734.heat_.a1_, .f .f32 e734.heat_.a2_, .f .f32 e734.heat_.a3_]]), some (1, rows cs_ ((([(⟨#[119, 97, 108, 108]⟩ : ByteArray), r736, r738, r740, r742] ++ [r767]) ++ [r771]) ++ [r775])), some (1, rows cs_ [r767]), some (1, rows cs_ [r771]), some (1, rows cs_ [r775])] [] hC ?_))))))) (h := by simp -implicitDefEqProofs [(by decide : ltI 3 4 = true)])))) (h := by simp -implicitDefEqProofs [(by decide : aI .i64 2 1 = 3)])) (h := by simp -implicitDefEqProofs [c776, f778a, f778b])
       obtain ⟨r779, q780, h1⟩ := bindE h1
       have c780 := tl49 q780
       obtain ⟨u781, ⟨f782a, f782b⟩, h1⟩ := bindP h1
       try simp only [Int.toNat_natCast, Int.reduceToNat, List.length_cons, List.length_nil, Nat.reduceAdd, Nat.zero_add] at f782a f782b
       exact VW.rA (tm 99 [(1, .ptr 0 0 0), (3, .str out_681), (8, .ref 2 0 (((([(⟨#[119, 97, 108, 108]⟩ : ByteArray), r736, r738, r740, r742] ++ [r767]) ++ [r771]) ++ [r775]) ++ [r779]).length), (37, .sl 8 (rows cT47 f.walls_)), (38, .i .i64 (f.walls_.length : Int)), (39, .i .i64 x_682), (57, .agg [.f .f32 e734.heat_.a0_, .f .f32 e734.heat_.a1_, .f .f32 e734.heat_.a2_, .f .f32 e734.heat_.a3_]), (58, .i .i64 3)]) [some (4, [(pT25 f)]), some (8, [[.i .i64 e734.a_, .i .i64 e734.b_, .f .f32 e734.lead_, .f .f32 e734.store_, .f .f32 e734.heat_.a0_, .f .f32 e734.heat_.a1_, .f .f32 e734.heat_.a2_, .f .f32 e734.heat_.a3_]]), some (1, rows cs_ (((([(⟨#[119, 97, 108, 108]⟩ : ByteArray), r736, r738, r740, r742] ++ [r767]) ++ [r771]) ++ [r775]) ++ [r779])), some (1, rows cs_ [r767]), some (1, rows cs_ [r771]), some (1, rows cs_ [r775]), some (1, rows cs_ [r779])] [] hC (VW.rA (tm 99 [(1, .ptr 0 0 0), (3, .str out_681), (8, .ref 2 0 (((([(⟨#[119, 97, 108, 108]⟩ : ByteArray), r736, r738, r740, r742] ++ [r767]) ++ [r771]) ++ [r775]) ++ [r779]).length), (37, .sl 8 (rows cT47 f.walls_)), (38, .i .i64 (f.walls_.length : Int)), (39, .i .i64 x_682), (57, .agg [.f .f32 e734.heat_.a0_, .f .f32 e734.heat_.a1_, .f .f32 e734.heat_.a2_, .f .f32 e734.heat_.a3_]), (58, .i .i64 4)]) [some (4, [(pT25 f)]), some (8, [[.i .i64 e734.a_, .i .i64 e734.b_, .f .f32 e734.lead_, .f .f32 e734.store_, .f .f32 e734.heat_.a0_, .f .f32 e734.heat_.a1_, .f .f32 e734.heat_.a2_, .f .f32 e734.heat_.a3_]]), some (1, rows cs_ (((([(⟨#[119, 97, 108, 108]⟩ : ByteArray), r736, r738, r740, r742] ++ [r767]) ++ [r771]) ++ [r775]) ++ [r779])), some (1, rows cs_ [r767]), some (1, rows cs_ [r771]), some (1, rows cs_ [r775]), some (1, rows cs_ [r779])] [] hC (VRounds.step (VW.seq (VW.rA (tm 99 [(1, .ptr 0 0 0), (3, .str out_681), (8, .ref 2 0 (((([(⟨#[119, 97, 108, 108]⟩ : ByteArray), r736, r738, r740, r742] ++ [r767]) ++ [r771]) ++ [r775]) ++ [r779]).length), (37, .sl 8 (rows cT47 f.walls_)), (38, .i .i64 (f.walls_.length : Int)), (39, .i .i64 x_682), (57, .agg [.f .f32 e734.heat_.a0_, .f .f32 e734.heat_.a1_, .f .f32 e734.heat_.a2_, .f .f32 e734.heat_.a3_]), (58, .i .i64 4), (59, .b false)]) [some (4, [(pT25 f)]), some (8, [[.i .i64 e734.a_, .i .i64 e734.b_, .f .f32 e734.lead_, .f .f32 e734.store_, .f .f32 e734.heat_.a0_, .f .f32 e734.heat_.a1_, .f .f32 e734.heat_.a2_, .f .f32 e734.heat_.a3_]]), some (1, rows cs_ (((([(⟨#[119, 97, 108, 108]⟩ : ByteArray), r736, r738, r740, r742] ++ [r767]) ++ [r771]) ++ [r775]) ++ [r779])), some (1, rows cs_ [r767]), some (1, rows cs_ [r771]), some (1, rows cs_ [r775]), some (1, rows cs_ [r779])] [] hC (VW.seq (VW.condF (by simp) (VW.exit (vnext (((([(⟨#[119, 97, 108, 108]⟩ : ByteArray), r736, r738, r740, r742] ++ [r767]) ++ [r771]) ++ [r775]) ++ [r779]) h1 (Ent.tu 3))))) (h := by simp -implicitDefEqProofs [(by decide : ltI 4 4 = false)])))) (h := by simp -implicitDefEqProofs [(by decide : aI .i64 3 1 = 4)])) (h := by simp -implicitDefEqProofs [c780, f782a, f782b])
     rintro l760 h1
     replace h1 : (g21_j5 out_681 x_682 l760).bind _ = _ := h1
     rw [g21_j5] at h1
     obtain ⟨r761, q762, h1⟩ := bindE h1
     have c762 := tl52 q762
     obtain ⟨z763, q764, h1⟩ := bindE h1
     obtain ⟨z765, q766, h1⟩ := bindE h1
     exact VW.rA (tm 99 [(1, .ptr 0 0 0), (3, .str z765), (37, .sl 8 (rows cT47 f.walls_)), (38, .i .i64 (f.walls_.length : Int)), (39, .i .i64 x_682)]) [some (4, [(pT25 f)]), some (8, [[.i .i64 e734.a_, .i .i64 e734.b_, .f .f32 e734.lead_, .f .f32 e734.store_, .f .f32 e734.heat_.a0_, .f .f32 e734.heat_.a1_, .f .f32 e734.heat_.a2_, .f .f32 e734.heat_.a3_]]), some (1, rows cs_ l760)] [] hC (vnext z765 h1 (Ent.tu 1)) (h := by simp -implicitDefEqProofs [c762, q764, q766])
   rintro out_733 h1
   replace h1 : (g21_j4 x_682 out_733).bind _ = _ := h1
   rw [g21_j4] at h1
   exact VW.rA (tm 99 [(1, .ptr 0 0 0), (3, .str out_733), (37, .sl 8 (rows cT47 f.walls_)), (38, .i .i64 (f.walls_.length : Int)), (39, .i .i64 (aI .i64 x_682 1))]) [some (4, [(pT25 f)])] [] hC (vnext (out_733, aI .i64 x_682 1) (leafL h1) (Ent.tu 1))
 rintro out_367 h
 replace h : (g21_j2 f out_367).bind _ = _ := h
 rw [g21_j2] at h
 refine VW.join (fun (v : ByteArray) => (⟨(tm 99 [(3, .str v)]), [some (4, [(pT25 f)])], []⟩ : VS)) (fun v => (g21_j3 (v)).bind some = some r) ?_ ?_
 · refine VW.seq (VW.rA (tm 99 [(3, .str out_367), (74, .sl 4 (rows cT49 f.panes_)), (75, .i .i64 (f.panes_.length : Int)), (76, .i .i64 0)]) [some (4, [(pT25 f)])] [] hC (VW.block ?_))
   obtain ⟨w_1, hw_1, h⟩ := bindE h
   refine VW.loopO (fun (x : ByteArray × Int) => (⟨(tm 99 [(3, .str x.1), (74, .sl 4 (rows cT49 f.panes_)), (75, .i .i64 (f.panes_.length : Int)), (76, .i .i64 x.2)]), [some (4, [(pT25 f)])], []⟩ : VS)) hw_1 (Ent.tu 1) ?_
   rintro n_1 ⟨out_460, x_461⟩ h1
   rw [g21_L1] at h1
   refine VW.seq (VW.rA (tm 99 [(3, .str out_460), (74, .sl 4 (rows cT49 f.panes_)), (75, .i .i64 (f.panes_.length : Int)), (76, .i .i64 x_461), (77, .b (ltI x_461 (f.panes_.length : Int)))]) [some (4, [(pT25 f)])] [] hC (VW.seq (VW.condJ h1 (fun h1 => ?_) (fun h1 => ?_))))
   · refine VW.exit ?_
     have e_ := leafR h1
     subst w_1
     exact vnext out_460 h (Ent.tu 1)
   refine VW.skip (VW.seq (VW.block (VW.seq ?_)))
   obtain ⟨e463, ⟨f464a, f464b, f464c, f464d⟩, h1⟩ := bindI h1
   refine VW.rA (tm 99 [(3, .str out_460), (12, .ptr 1 0 0), (74, .sl 4 (rows cT49 f.panes_)), (75, .i .i64 (f.panes_.length : Int)), (76, .i .i64 x_461)]) [some (4, [(pT25 f)]), some (4, [[.i .i64 e463.a_, .i .i64 e463.b_, .f .f32 e463.lead_, .f .f32 e463.sun_]])] [] hC ?_ (h := by simp -implicitDefEqProofs [f464a, f464b, f464c, f464d])
   obtain ⟨r465, q466, h1⟩ := bindE h1
   have c466 := tl50 q466
   obtain ⟨r467, q468, h1⟩ := bindE h1
   have c468 := tl51 q468
   obtain ⟨r469, q470, h1⟩ := bindE h1
   have c470 := tl49 q470
   obtain ⟨r471, q472, h1⟩ := bindE h1
   have c472 := tl49 q472
   obtain ⟨r473, q474, h1⟩ := bindE h1
   have c474 : F52 [.sl 1 [[.str (⟨#[112, 97, 110, 101]⟩ : ByteArray)], [.str r465], [.str r467], [.str r469], [.str r471]], .str (⟨#[32]⟩ : ByteArray)] = some (.str r473) := tells_eq inj52 (a := ([(⟨#[112, 97, 110, 101]⟩ : ByteArray), r465, r467, r469, r471], (⟨#[32]⟩ : ByteArray))) q474
   obtain ⟨z475, q476, h1⟩ := bindE h1
   obtain ⟨z477, q478, h1⟩ := bindE h1
   exact VW.rD (tm 99 [(3, .str z477), (74, .sl 4 (rows cT49 f.panes_)), (75, .i .i64 (f.panes_.length : Int)), (76, .i .i64 x_461)]) [some (4, [(pT25 f)]), some (4, [[.i .i64 e463.a_, .i .i64 e463.b_, .f .f32 e463.lead_, .f .f32 e463.sun_]]), some (1, rows cs_ [(⟨#[112, 97, 110, 101]⟩ : ByteArray), r465, r467, r469, r471])] [] hC mixed (VW.rA (tm 99 [(3, .str z477), (74, .sl 4 (rows cT49 f.panes_)), (75, .i .i64 (f.panes_.length : Int)), (76, .i .i64 (aI .i64 x_461 1))]) [some (4, [(pT25 f)]), some (4, [[.i .i64 e463.a_, .i .i64 e463.b_, .f .f32 e463.lead_, .f .f32 e463.sun_]]), some (1, rows cs_ [(⟨#[112, 97, 110, 101]⟩ : ByteArray), r465, r467, r469, r471])] [] hC (vnext (z477, aI .i64 x_461 1) (leafL h1) (Ent.tu 1))) (h := by simp -implicitDefEqProofs [c466, c468, c470, c472, c474, q476, q478])
 rintro out_423 h
 replace h : (g21_j3 out_423).bind _ = _ := h
 rw [g21_j3] at h
 refine VW.seq (VW.rA (tm 99 [(2, .str out_423)]) [some (4, [(pT25 f)])] [] hC ?_)
 obtain rfl := leafS h
 exact VW.ret (VRet.fin (by simp [eB21]))
theorem tl21 {f : T25} {r : ByteArray} (h : g21 f = some r) : F21 [.agg [.sl 1 (rows cf_f32 f.heat_), .sl 1 (rows cf_f32 f.store_), .sl 8 (rows cT47 f.walls_), .sl 4 (rows cT49 f.panes_)]] = some (.str r) := tells_eq inj21 (a := f) h
noncomputable def g5_j1 (text : ByteArray) (l779 : List F32) (l780 : List F32) (l781 : List T47) (l782 : List T49) : Option (T25 × Int) :=
(g20 (⟨l779, l780, l781, l782⟩ : T25)).bind fun r783 =>
(if (!r783) = true then some true else (g21 (⟨l779, l780, l781, l782⟩ : T25)).bind fun r785 => some (!eqS r785 text)).bind fun w787 =>
if w787 = true then
some ((⟨[], [], [], []⟩ : T25), 5)
else
some ((⟨l779, l780, l781, l782⟩ : T25), 0)
noncomputable def g5_j2 (x_1306 : Int) (l1437 : List F32) (l1438 : List F32) (l1439 : List T47) (l1440 : List T49) : Option ((Int × (List F32) × (List F32) × (List T47) × (List T49)) ⊕ (((List F32) × (List F32) × (List T47) × (List T49)) ⊕ (T25 × Int))) :=
some (.inl (aI .i64 x_1306 1, l1437, l1438, l1439, l1440))
noncomputable def g5_j3 (x_1306 : Int) (l1502 : List F32) (l1503 : List F32) (l1504 : List T47) (l1505 : List T49) (y1506 : List ByteArray) (y1507 : Bool) : Option ((Int × (List F32) × (List F32) × (List T47) × (List T49)) ⊕ (((List F32) × (List F32) × (List T47) × (List T49)) ⊕ (T25 × Int))) :=
(g19 (⟨y1506, y1507⟩ : T73)).bind fun r1508 =>
if (!r1508) = true then
some (.inr (.inr ((⟨[], [], [], []⟩ : T25), 5)))
else
g5_j2 x_1306 l1502 l1503 l1504 l1505
noncomputable def g5_j4 (l1309 : List T47) (r1523 : Int × T73) (r1525 : Int × T73) (r1527 : F32 × T73) (r1529 : F32 × T73) (x_1306 : Int) (l1307 : List F32) (l1308 : List F32) (l1310 : List T49) (y1539 : List ByteArray) (y1540 : Bool) (y1541 : F32) (y1542 : F32) (y1543 : F32) (y1544 : F32) : Option ((Int × (List F32) × (List F32) × (List T47) × (List T49)) ⊕ (((List F32) × (List F32) × (List T47) × (List T49)) ⊕ (T25 × Int))) :=
(appK 40 l1309 [(⟨r1523.1, r1525.1, r1527.1, r1529.1, (⟨y1541, y1542, y1543, y1544⟩ : T46)⟩ : T47)]).bind fun u1545 =>
g5_j3 x_1306 l1307 l1308 (l1309 ++ [(⟨r1523.1, r1525.1, r1527.1, r1529.1, (⟨y1541, y1542, y1543, y1544⟩ : T46)⟩ : T47)]) l1310 y1539 y1540
noncomputable def g5_L1 (r1 : (List ByteArray) × Bool) : (Int × (List F32) × (List F32) × (List T47) × (List T49)) → Option ((Int × (List F32) × (List F32) × (List T47) × (List T49)) ⊕ (((List F32) × (List F32) × (List T47) × (List T49)) ⊕ (T25 × Int)))
| (x_1306, l1307, l1308, l1309, l1310) =>
if ltI x_1306 (r1.1.length : Int) = true then
(idx r1.1 x_1306).bind fun e1441 =>
(g40 e1441 (⟨#[32]⟩ : ByteArray)).bind fun r1445 =>
(g15 (⟨r1445, false⟩ : T73)).bind fun r1511 =>
if eqS r1511.1 (⟨#[114, 111, 111, 109]⟩ : ByteArray) = true then
(g16 r1511.2).bind fun r1514 =>
(appK 4 l1307 [r1514.1]).bind fun u1516 =>
(g16 r1514.2).bind fun r1518 =>
(appK 4 l1308 [r1518.1]).bind fun u1520 =>
g5_j3 x_1306 (l1307 ++ [r1514.1]) (l1308 ++ [r1518.1]) l1309 l1310 r1518.2.list_ r1518.2.bad_
else
if eqS r1511.1 (⟨#[119, 97, 108, 108]⟩ : ByteArray) = true then
(g17 r1511.2).bind fun r1523 =>
(g18 r1523.2).bind fun r1525 =>
(g16 r1525.2).bind fun r1527 =>
(g16 r1527.2).bind fun r1529 =>
(g16 r1529.2).bind fun r1547 =>
(g16 r1547.2).bind fun r1549 =>
(g16 r1549.2).bind fun r1551 =>
(g16 r1551.2).bind fun r1553 =>
g5_j4 l1309 r1523 r1525 r1527 r1529 x_1306 l1307 l1308 l1310 r1553.2.list_ r1553.2.bad_ r1547.1 r1549.1 r1551.1 r1553.1
else
if eqS r1511.1 (⟨#[112, 97, 110, 101]⟩ : ByteArray) = true then
(g17 r1511.2).bind fun r1556 =>
(g18 r1556.2).bind fun r1558 =>
(g16 r1558.2).bind fun r1560 =>
(g16 r1560.2).bind fun r1562 =>
(appK 24 l1310 [(⟨r1556.1, r1558.1, r1560.1, r1562.1⟩ : T49)]).bind fun u1564 =>
g5_j3 x_1306 l1307 l1308 l1309 (l1310 ++ [(⟨r1556.1, r1558.1, r1560.1, r1562.1⟩ : T49)]) r1562.2.list_ r1562.2.bad_
else
some (.inr (.inr ((⟨[], [], [], []⟩ : T25), 5)))
else
some (.inr (.inl (l1307, l1308, l1309, l1310)))
noncomputable def g5 (text : ByteArray) : Option (T25 × Int) :=
(g13 text).bind fun r1 =>
if ((!r1.2) || ltI 23 (r1.1.length : Int)) = true then
some ((⟨[], [], [], []⟩ : T25), 5)
else
(loopO (g5_L1 r1) (0, [], [], [], [])).bind fun w => match w with
| .inl y => g5_j1 text y.1 y.2.1 y.2.2.1 y.2.2.2
| .inr r => some r
def eA5 (a : ByteArray) : List V := [.str a]
def eB5 (r : T25 × Int) : V := .tup [.agg [.own 1 (rows cf_f32 r.1.heat_), .own 1 (rows cf_f32 r.1.store_), .own 8 (rows cT47 r.1.walls_), .own 4 (rows cT49 r.1.panes_)], .i .i64 r.2]
theorem inj5 (a a' : ByteArray) (h : eA5 a = eA5 a') : a = a' := by
  obtain i221 := a
  obtain i222 := a'
  simp only [eA5, List.cons.injEq, V.i.injEq, V.b.injEq, V.f.injEq, V.str.injEq, V.sl.injEq, V.agg.injEq, V.cptr.injEq, true_and, and_true] at h
  simp_all
noncomputable def F5 : List V → Option V := tells (fun a => g5 a) eA5 eB5
/- loop.example/g01229/impl.ReadFlat -/
theorem ok5 : Tells Tryz.prog 5 F5 := by
 refine Tells.go 119 Tryz.func5 rfl rfl rfl (by kernel_rfl) (fun _ => rfl) ?_
 rintro text r h
 simp only [eA5, en, Nat.reduceAdd]
 replace h : (g5 text).bind some = some r := bindS h
 rw [g5] at h
 have hC : CEnv.Ok Tryz.prog [(13, fzF F13), (19, F19), (20, F20), (21, F21), (40, fzF F40)] := ⟨.inl ok13.fz, .inl ok19, .inl ok20, .inl ok21, .inl ok40.fz, trivial⟩
 refine VW.seq (VW.rE (tm 119 [(0, .str text), (2, .ptr 0 0 0)]) [some (4, [[.nil, .nil, .nil, .nil]])] [] hC (Ent.trans (Ent.nilref (m := [some (4, [[.nil, .nil, .nil, .nil]])]) 0 1 [some (4, [[.ref 1 0 0, .nil, .nil, .nil]]), some (1, rows cf_f32 [])] rfl (by simp) rfl) (Ent.trans (Ent.nilref (m := [some (4, [[.ref 1 0 0, .nil, .nil, .nil]]), some (1, rows cf_f32 [])]) 0 1 [some (4, [[.ref 1 0 0, .ref 2 0 0, .nil, .nil]]), some (1, rows cf_f32 []), some (1, rows cf_f32 [])] rfl (by simp) rfl) (Ent.trans (Ent.nilref (m := [some (4, [[.ref 1 0 0, .ref 2 0 0, .nil, .nil]]), some (1, rows cf_f32 []), some (1, rows cf_f32 [])]) 0 8 [some (4, [[.ref 1 0 0, .ref 2 0 0, .ref 3 0 0, .nil]]), some (1, rows cf_f32 []), some (1, rows cf_f32 []), some (8, rows cT47 [])] rfl (by simp) rfl) (Ent.nilref (m := [some (4, [[.ref 1 0 0, .ref 2 0 0, .ref 3 0 0, .nil]]), some (1, rows cf_f32 []), some (1, rows cf_f32 []), some (8, rows cT47 [])]) 0 4 [some (4, [[.ref 1 0 0, .ref 2 0 0, .ref 3 0 0, .ref 4 0 0]]), some (1, rows cf_f32 []), some (1, rows cf_f32 []), some (8, rows cT47 []), some (4, rows cT49 [])] rfl (by simp) rfl) ) ) ) (VW.seq ?_))
 obtain ⟨r1, q2, h⟩ := bindE h
 have c2 := tl13 q2
 replace c2 : fzF F13 [.str text] = some (.tup [.sl 1 (rows cs_ r1.1), .b r1.2]) := (fzF_eq c2).trans (by simp)
 refine VW.rA (tm 119 [(0, .str text), (2, .ptr 0 0 0), (4, .sl 1 (rows cs_ r1.1)), (5, .b r1.2)]) [some (4, [[.ref 1 0 0, .ref 2 0 0, .ref 3 0 0, .ref 4 0 0]]), some (1, rows cf_f32 []), some (1, rows cf_f32 []), some (8, rows cT47 []), some (4, rows cT49 [])] [] hC (VW.seq (VW.seq (VW.rA (tm 119 [(0, .str text), (2, .ptr 0 0 0), (4, .sl 1 (rows cs_ r1.1)), (24, .b ((!r1.2) || ltI 23 (r1.1.length : Int)))]) [some (4, [[.ref 1 0 0, .ref 2 0 0, .ref 3 0 0, .ref 4 0 0]]), some (1, rows cf_f32 []), some (1, rows cf_f32 []), some (8, rows cT47 []), some (4, rows cT49 [])] [] hC (VW.condI h (fun h => ?_) (fun h => ?_))))) (h := by simp -implicitDefEqProofs [c2])
 · refine VW.seq (VW.rE (tm 119 [(2, .ptr 0 0 0), (3, .i .i64 5)]) [some (4, [[.nil, .nil, .nil, .nil]]), some (1, rows cf_f32 []), some (1, rows cf_f32 []), some (8, rows cT47 []), some (4, rows cT49 [])] [] hC (Ent.trans (Ent.nilref (m := [some (4, [[.nil, .nil, .nil, .nil]]), some (1, rows cf_f32 []), some (1, rows cf_f32 []), some (8, rows cT47 []), some (4, rows cT49 [])]) 0 1 [some (4, [[.ref 5 0 0, .nil, .nil, .nil]]), some (1, rows cf_f32 []), some (1, rows cf_f32 []), some (8, rows cT47 []), some (4, rows cT49 []), some (1, rows cf_f32 [])] rfl (by simp) rfl) (Ent.trans (Ent.nilref (m := [some (4, [[.ref 5 0 0, .nil, .nil, .nil]]), some (1, rows cf_f32 []), some (1, rows cf_f32 []), some (8, rows cT47 []), some (4, rows cT49 []), some (1, rows cf_f32 [])]) 0 1 [some (4, [[.ref 5 0 0, .ref 6 0 0, .nil, .nil]]), some (1, rows cf_f32 []), some (1, rows cf_f32 []), some (8, rows cT47 []), some (4, rows cT49 []), some (1, rows cf_f32 []), some (1, rows cf_f32 [])] rfl (by simp) rfl) (Ent.trans (Ent.nilref (m := [some (4, [[.ref 5 0 0, .ref 6 0 0, .nil, .nil]]), some (1, rows cf_f32 []), some (1, rows cf_f32 []), some (8, rows cT47 []), some (4, rows cT49 []), some (1, rows cf_f32 []), some (1, rows cf_f32 [])]) 0 8 [some (4, [[.ref 5 0 0, .ref 6 0 0, .ref 7 0 0, .nil]]), some (1, rows cf_f32 []), some (1, rows cf_f32 []), some (8, rows cT47 []), some (4, rows cT49 []), some (1, rows cf_f32 []), some (1, rows cf_f32 []), some (8, rows cT47 [])] rfl (by simp) rfl) (Ent.nilref (m := [some (4, [[.ref 5 0 0, .ref 6 0 0, .ref 7 0 0, .nil]]), some (1, rows cf_f32 []), some (1, rows cf_f32 []), some (8, rows cT47 []), some (4, rows cT49 []), some (1, rows cf_f32 []), some (1, rows cf_f32 []), some (8, rows cT47 [])]) 0 4 [some (4, [[.ref 5 0 0, .ref 6 0 0, .ref 7 0 0, .ref 8 0 0]]), some (1, rows cf_f32 []), some (1, rows cf_f32 []), some (8, rows cT47 []), some (4, rows cT49 []), some (1, rows cf_f32 []), some (1, rows cf_f32 []), some (8, rows cT47 []), some (4, rows cT49 [])] rfl (by simp) rfl) ) ) ) ?_)
   obtain rfl := leafS h
   exact VW.ret (VRet.fin (by simp [eB5]))
 refine VW.skip (VW.seq (VW.rE (tm 119 [(0, .str text), (2, .ptr 0 0 0), (4, .sl 1 (rows cs_ r1.1)), (6, .ptr 5 0 0)]) [some (4, [[.ref 1 0 0, .ref 2 0 0, .ref 3 0 0, .ref 4 0 0]]), some (1, rows cf_f32 []), some (1, rows cf_f32 []), some (8, rows cT47 []), some (4, rows cT49 []), some (4, [[.nil, .nil, .nil, .nil]])] [] hC (Ent.trans (Ent.nilref (m := [some (4, [[.ref 1 0 0, .ref 2 0 0, .ref 3 0 0, .ref 4 0 0]]), some (1, rows cf_f32 []), some (1, rows cf_f32 []), some (8, rows cT47 []), some (4, rows cT49 []), some (4, [[.nil, .nil, .nil, .nil]])]) 5 1 [some (4, [[.ref 1 0 0, .ref 2 0 0, .ref 3 0 0, .ref 4 0 0]]), some (1, rows cf_f32 []), some (1, rows cf_f32 []), some (8, rows cT47 []), some (4, rows cT49 []), some (4, [[.ref 6 0 0, .nil, .nil, .nil]]), some (1, rows cf_f32 [])] rfl (by simp) rfl) (Ent.trans (Ent.nilref (m := [some (4, [[.ref 1 0 0, .ref 2 0 0, .ref 3 0 0, .ref 4 0 0]]), some (1, rows cf_f32 []), some (1, rows cf_f32 []), some (8, rows cT47 []), some (4, rows cT49 []), some (4, [[.ref 6 0 0, .nil, .nil, .nil]]), some (1, rows cf_f32 [])]) 5 1 [some (4, [[.ref 1 0 0, .ref 2 0 0, .ref 3 0 0, .ref 4 0 0]]), some (1, rows cf_f32 []), some (1, rows cf_f32 []), some (8, rows cT47 []), some (4, rows cT49 []), some (4, [[.ref 6 0 0, .ref 7 0 0, .nil, .nil]]), some (1, rows cf_f32 []), some (1, rows cf_f32 [])] rfl (by simp) rfl) (Ent.trans (Ent.nilref (m := [some (4, [[.ref 1 0 0, .ref 2 0 0, .ref 3 0 0, .ref 4 0 0]]), some (1, rows cf_f32 []), some (1, rows cf_f32 []), some (8, rows cT47 []), some (4, rows cT49 []), some (4, [[.ref 6 0 0, .ref 7 0 0, .nil, .nil]]), some (1, rows cf_f32 []), some (1, rows cf_f32 [])]) 5 8 [some (4, [[.ref 1 0 0, .ref 2 0 0, .ref 3 0 0, .ref 4 0 0]]), some (1, rows cf_f32 []), some (1, rows cf_f32 []), some (8, rows cT47 []), some (4, rows cT49 []), some (4, [[.ref 6 0 0, .ref 7 0 0, .ref 8 0 0, .nil]]), some (1, rows cf_f32 []), some (1, rows cf_f32 []), some (8, rows cT47 [])] rfl (by simp) rfl) (Ent.nilref (m := [some (4, [[.ref 1 0 0, .ref 2 0 0, .ref 3 0 0, .ref 4 0 0]]), some (1, rows cf_f32 []), some (1, rows cf_f32 []), some (8, rows cT47 []), some (4, rows cT49 []), some (4, [[.ref 6 0 0, .ref 7 0 0, .ref 8 0 0, .nil]]), some (1, rows cf_f32 []), some (1, rows cf_f32 []), some (8, rows cT47 [])]) 5 4 [some (4, [[.ref 1 0 0, .ref 2 0 0, .ref 3 0 0, .ref 4 0 0]]), some (1, rows cf_f32 []), some (1, rows cf_f32 []), some (8, rows cT47 []), some (4, rows cT49 []), some (4, [[.ref 6 0 0, .ref 7 0 0, .ref 8 0 0, .ref 9 0 0]]), some (1, rows cf_f32 []), some (1, rows cf_f32 []), some (8, rows cT47 []), some (4, rows cT49 [])] rfl (by simp) rfl) ) ) ) (VW.join (fun (v : (List F32) × (List F32) × (List T47) × (List T49)) => (⟨(tm 119 [(0, .str text), (2, .ptr 0 0 0), (6, .ptr 5 0 0)]), [some (4, [[.ref 1 0 0, .ref 2 0 0, .ref 3 0 0, .ref 4 0 0]]), some (1, rows cf_f32 []), some (1, rows cf_f32 []), some (8, rows cT47 []), some (4, rows cT49 []), some (4, [[.ref 6 0 v.1.length, .ref 7 0 v.2.1.length, .ref 8 0 v.2.2.1.length, .ref 9 0 v.2.2.2.length]]), some (1, rows cf_f32 v.1), some (1, rows cf_f32 v.2.1), some (8, rows cT47 v.2.2.1), some (4, rows cT49 v.2.2.2)], []⟩ : VS)) (fun v => (g5_j1 text (v.1) (v.2.1) (v.2.2.1) (v.2.2.2)).bind some = some r) ?_ ?_)))
 · refine VW.seq (VW.rA (tm 119 [(0, .str text), (2, .ptr 0 0 0), (6, .ptr 5 0 0), (27, .sl 1 (rows cs_ r1.1)), (28, .i .i64 (r1.1.length : Int)), (29, .i .i64 0)]) [some (4, [[.ref 1 0 0, .ref 2 0 0, .ref 3 0 0, .ref 4 0 0]]), some (1, rows cf_f32 []), some (1, rows cf_f32 []), some (8, rows cT47 []), some (4, rows cT49 []), some (4, [[.ref 6 0 0, .ref 7 0 0, .ref 8 0 0, .ref 9 0 0]]), some (1, rows cf_f32 []), some (1, rows cf_f32 []), some (8, rows cT47 []), some (4, rows cT49 [])] [] hC (VW.block ?_))
   obtain ⟨w_1, hw_1, h⟩ := bindE h
   refine VW.loopO (fun (x : Int × (List F32) × (List F32) × (List T47) × (List T49)) => (⟨(tm 119 [(0, .str text), (2, .ptr 0 0 0), (6, .ptr 5 0 0), (27, .sl 1 (rows cs_ r1.1)), (28, .i .i64 (r1.1.length : Int)), (29, .i .i64 x.1)]), [some (4, [[.ref 1 0 0, .ref 2 0 0, .ref 3 0 0, .ref 4 0 0]]), some (1, rows cf_f32 []), some (1, rows cf_f32 []), some (8, rows cT47 []), some (4, rows cT49 []), some (4, [[.ref 6 0 x.2.1.length, .ref 7 0 x.2.2.1.length, .ref 8 0 x.2.2.2.1.length, .ref 9 0 x.2.2.2.2.length]]), some (1, rows cf_f32 x.2.1), some (1, rows cf_f32 x.2.2.1), some (8, rows cT47 x.2.2.2.1), some (4, rows cT49 x.2.2.2.2)], []⟩ : VS)) hw_1 (Ent.tu 10) ?_
   rintro n_1 ⟨x_1306, l1307, l1308, l1309, l1310⟩ h1
   rw [g5_L1] at h1
   refine VW.seq (VW.rA (tm 119 [(0, .str text), (2, .ptr 0 0 0), (6, .ptr 5 0 0), (27, .sl 1 (rows cs_ r1.1)), (28, .i .i64 (r1.1.length : Int)), (29, .i .i64 x_1306), (30, .b (ltI x_1306 (r1.1.length : Int)))]) [some (4, [[.ref 1 0 0, .ref 2 0 0, .ref 3 0 0, .ref 4 0 0]]), some (1, rows cf_f32 []), some (1, rows cf_f32 []), some (8, rows cT47 []), some (4, rows cT49 []), some (4, [[.ref 6 0 l1307.length, .ref 7 0 l1308.length, .ref 8 0 l1309.length, .ref 9 0 l1310.length]]), some (1, rows cf_f32 l1307), some (1, rows cf_f32 l1308), some (8, rows cT47 l1309), some (4, rows cT49 l1310)] [] hC (VW.seq (VW.condJ h1 (fun h1 => ?_) (fun h1 => ?_))))
   · refine VW.exit ?_
     have e_ := leafR h1
     subst w_1
     exact vnext (l1307, l1308, l1309, l1310) h (Ent.tu 10)
   refine VW.skip (VW.join (fun (v : (List F32) × (List F32) × (List T47) × (List T49)) => (⟨(tm 119 [(0, .str text), (2, .ptr 0 0 0), (6, .ptr 5 0 0), (27, .sl 1 (rows cs_ r1.1)), (28, .i .i64 (r1.1.length : Int)), (29, .i .i64 x_1306)]), [some (4, [[.ref 1 0 0, .ref 2 0 0, .ref 3 0 0, .ref 4 0 0]]), some (1, rows cf_f32 []), some (1, rows cf_f32 []), some (8, rows cT47 []), some (4, rows cT49 []), some (4, [[.ref 6 0 v.1.length, .ref 7 0 v.2.1.length, .ref 8 0 v.2.2.1.length, .ref 9 0 v.2.2.2.length]]), some (1, rows cf_f32 v.1), some (1, rows cf_f32 v.2.1), some (8, rows cT47 v.2.2.1), some (4, rows cT49 v.2.2.2)], []⟩ : VS)) (fun v => (g5_j2 x_1306 (v.1) (v.2.1) (v.2.2.1) (v.2.2.2)).bind (kN (g5_L1 r1) n_1) = some w_1) ?_ ?_)
   · refine VW.block (VW.seq ?_)
     obtain ⟨e1441, ⟨f1442a, f1442b, f1442c, f1442d⟩, h1⟩ := bindI h1
     refine VW.rA (tm 119 [(0, .str text), (2, .ptr 0 0 0), (6, .ptr 5 0 0), (8, .str e1441), (27, .sl 1 (rows cs_ r1.1)), (28, .i .i64 (r1.1.length : Int)), (29, .i .i64 x_1306)]) [some (4, [[.ref 1 0 0, .ref 2 0 0, .ref 3 0 0, .ref 4 0 0]]), some (1, rows cf_f32 []), some (1, rows cf_f32 []), some (8, rows cT47 []), some (4, rows cT49 []), some (4, [[.ref 6 0 l1307.length, .ref 7 0 l1308.length, .ref 8 0 l1309.length, .ref 9 0 l1310.length]]), some (1, rows cf_f32 l1307), some (1, rows cf_f32 l1308), some (8, rows cT47 l1309), some (4, rows cT49 l1310)] [] hC (VW.seq (VW.inlS (VL.inlP 1 (tm 119 [(0, .str text), (2, .ptr 0 0 0), (6, .ptr 5 0 0), (27, .sl 1 (rows cs_ r1.1)), (28, .i .i64 (r1.1.length : Int)), (29, .i .i64 x_1306), (33, .str e1441)]) [some (4, [[.ref 1 0 0, .ref 2 0 0, .ref 3 0 0, .ref 4 0 0]]), some (1, rows cf_f32 []), some (1, rows cf_f32 []), some (8, rows cT47 []), some (4, rows cT49 []), some (4, [[.ref 6 0 l1307.length, .ref 7 0 l1308.length, .ref 8 0 l1309.length, .ref 9 0 l1310.length]]), some (1, rows cf_f32 l1307), some (1, rows cf_f32 l1308), some (8, rows cT47 l1309), some (4, rows cT49 l1310)] [] rfl hC (by kernel_rfl) (by simp -implicitDefEqProofs) rfl rfl Tryz.func14 rfl rfl rfl rfl (tm_length) (VW.ent (s := (⟨(tm 7 [(0, .str e1441)]), [some (4, [[.ref 1 0 0, .ref 2 0 0, .ref 3 0 0, .ref 4 0 0]]), some (1, rows cf_f32 []), some (1, rows cf_f32 []), some (8, rows cT47 []), some (4, rows cT49 []), some (4, [[.ref 6 0 l1307.length, .ref 7 0 l1308.length, .ref 8 0 l1309.length, .ref 9 0 l1310.length]]), some (1, rows cf_f32 l1307), some (1, rows cf_f32 l1308), some (8, rows cT47 l1309), some (4, rows cT49 l1310)], ((tm 119 [(0, .str text), (2, .ptr 0 0 0), (6, .ptr 5 0 0), (27, .sl 1 (rows cs_ r1.1)), (28, .i .i64 (r1.1.length : Int)), (29, .i .i64 x_1306), (33, .str e1441)]) ++ [])⟩ : VS)) (Ent.eqs (by rw [tm_init]; simp) rfl (by simp)) (VW.seq (VW.rA (tm 7 [(0, .str e1441)]) [some (4, [[.ref 1 0 0, .ref 2 0 0, .ref 3 0 0, .ref 4 0 0]]), some (1, rows cf_f32 []), some (1, rows cf_f32 []), some (8, rows cT47 []), some (4, rows cT49 []), some (4, [[.ref 6 0 l1307.length, .ref 7 0 l1308.length, .ref 8 0 l1309.length, .ref 9 0 l1310.length]]), some (1, rows cf_f32 l1307), some (1, rows cf_f32 l1308), some (8, rows cT47 l1309), some (4, rows cT49 l1310)] ((tm 119 [(0, .str text), (2, .ptr 0 0 0), (6, .ptr 5 0 0), (27, .sl 1 (rows cs_ r1.1)), (28, .i .i64 (r1.1.length : Int)), (29, .i .i64 x_1306), (33, .str e1441)]) ++ []) hC (VW.seq ?_))))))) (h := by simp -implicitDefEqProofs [f1442a, f1442b, f1442c, f1442d])
     obtain ⟨r1445, q1446, h1⟩ := bindE h1
     have c1446 := tl40 q1446
     replace c1446 : fzF F40 [.str e1441, .str (⟨#[32]⟩ : ByteArray)] = some (.sl 1 (rows cs_ r1445)) := (fzF_eq c1446).trans (by simp)
     refine VW.rA (tm 7 [(2, .ptr 10 0 0)]) [some (4, [[.ref 1 0 0, .ref 2 0 0, .ref 3 0 0, .ref 4 0 0]]), some (1, rows cf_f32 []), some (1, rows cf_f32 []), some (8, rows cT47 []), some (4, rows cT49 []), some (4, [[.ref 6 0 l1307.length, .ref 7 0 l1308.length, .ref 8 0 l1309.length, .ref 9 0 l1310.length]]), some (1, rows cf_f32 l1307), some (1, rows cf_f32 l1308), some (8, rows cT47 l1309), some (4, rows cT49 l1310), some (2, [[.sl 1 (rows cs_ r1445), .b false]])] ((tm 119 [(0, .str text), (2, .ptr 0 0 0), (6, .ptr 5 0 0), (27, .sl 1 (rows cs_ r1.1)), (28, .i .i64 (r1.1.length : Int)), (29, .i .i64 x_1306), (33, .str e1441)]) ++ []) hC (VW.ret (VIn.ret (v := .ptr 10 0 0) (by simp) (VL.evalP (tm 119 [(0, .str text), (2, .ptr 0 0 0), (6, .ptr 5 0 0), (9, .ptr 10 0 0), (27, .sl 1 (rows cs_ r1.1)), (28, .i .i64 (r1.1.length : Int)), (29, .i .i64 x_1306)]) [some (4, [[.ref 1 0 0, .ref 2 0 0, .ref 3 0 0, .ref 4 0 0]]), some (1, rows cf_f32 []), some (1, rows cf_f32 []), some (8, rows cT47 []), some (4, rows cT49 []), some (4, [[.ref 6 0 l1307.length, .ref 7 0 l1308.length, .ref 8 0 l1309.length, .ref 9 0 l1310.length]]), some (1, rows cf_f32 l1307), some (1, rows cf_f32 l1308), some (8, rows cT47 l1309), some (4, rows cT49 l1310), some (2, [[.sl 1 (rows cs_ r1445), .b false]])] [] hC (by kernel_rfl) (by simp -implicitDefEqProofs) (VW.join (fun (v : (List F32) × (List F32) × (List T47) × (List T49) × (List ByteArray) × Bool) => (⟨(tm 119 [(0, .str text), (2, .ptr 0 0 0), (6, .ptr 5 0 0), (9, .ptr 10 0 0), (27, .sl 1 (rows cs_ r1.1)), (28, .i .i64 (r1.1.length : Int)), (29, .i .i64 x_1306)]), [some (4, [[.ref 1 0 0, .ref 2 0 0, .ref 3 0 0, .ref 4 0 0]]), some (1, rows cf_f32 []), some (1, rows cf_f32 []), some (8, rows cT47 []), some (4, rows cT49 []), some (4, [[.ref 6 0 v.1.length, .ref 7 0 v.2.1.length, .ref 8 0 v.2.2.1.length, .ref 9 0 v.2.2.2.1.length]]), some (1, rows cf_f32 v.1), some (1, rows cf_f32 v.2.1), some (8, rows cT47 v.2.2.1), some (4, rows cT49 v.2.2.2.1), some (2, [[.sl 1 (rows cs_ v.2.2.2.2.1), .b v.2.2.2.2.2]])], []⟩ : VS)) (fun v => (g5_j3 x_1306 (v.1) (v.2.1) (v.2.2.1) (v.2.2.2.1) (v.2.2.2.2.1) (v.2.2.2.2.2)).bind (kN (g5_L1 r1) n_1) = some w_1) ?_ ?_)))) (h := by simp -implicitDefEqProofs [c1446])
     · refine VW.seq ?_
       obtain ⟨r1511, q1512, h1⟩ := bindE h1
       have c1512 : F15 [.agg [.sl 1 (rows cs_ r1445), .b false]] = some (.tup [.str r1511.1, .agg [.sl 1 (rows cs_ r1511.2.list_), .b r1511.2.bad_]]) := tells_eq inj15 (a := (⟨r1445, false⟩ : T73)) q1512
       refine VW.evalM (CM := [(15, F15), (16, F16), (17, F17), (18, F18)]) (tm 119 [(0, .str text), (2, .ptr 0 0 0), (6, .ptr 5 0 0), (9, .ptr 10 0 0), (27, .sl 1 (rows cs_ r1.1)), (28, .i .i64 (r1.1.length : Int)), (29, .i .i64 x_1306), (36, .str r1511.1)]) [some (4, [[.ref 1 0 0, .ref 2 0 0, .ref 3 0 0, .ref 4 0 0]]), some (1, rows cf_f32 []), some (1, rows cf_f32 []), some (8, rows cT47 []), some (4, rows cT49 []), some (4, [[.ref 6 0 l1307.length, .ref 7 0 l1308.length, .ref 8 0 l1309.length, .ref 9 0 l1310.length]]), some (1, rows cf_f32 l1307), some (1, rows cf_f32 l1308), some (8, rows cT47 l1309), some (4, rows cT49 l1310), some (2, [[.sl 1 (rows cs_ r1511.2.list_), .b r1511.2.bad_]])] [] hC ⟨ok15, ok16, ok17, ok18, trivial⟩ (by simp -implicitDefEqProofs [c1512]) (VW.block (VW.seq (VW.rA (tm 119 [(0, .str text), (2, .ptr 0 0 0), (6, .ptr 5 0 0), (9, .ptr 10 0 0), (27, .sl 1 (rows cs_ r1.1)), (28, .i .i64 (r1.1.length : Int)), (29, .i .i64 x_1306), (36, .str r1511.1), (38, .b (eqS r1511.1 (⟨#[114, 111, 111, 109]⟩ : ByteArray)))]) [some (4, [[.ref 1 0 0, .ref 2 0 0, .ref 3 0 0, .ref 4 0 0]]), some (1, rows cf_f32 []), some (1, rows cf_f32 []), some (8, rows cT47 []), some (4, rows cT49 []), some (4, [[.ref 6 0 l1307.length, .ref 7 0 l1308.length, .ref 8 0 l1309.length, .ref 9 0 l1310.length]]), some (1, rows cf_f32 l1307), some (1, rows cf_f32 l1308), some (8, rows cT47 l1309), some (4, rows cT49 l1310), some (2, [[.sl 1 (rows cs_ r1511.2.list_), .b r1511.2.bad_]])] [] hC (VW.condI h1 (fun h1 => ?_) (fun h1 => ?_)))))
       · refine VW.seq ?_
         obtain ⟨r1514, q1515, h1⟩ := bindE h1
         have c1515 : F16 [.agg [.sl 1 (rows cs_ r1511.2.list_), .b r1511.2.bad_]] = some (.tup [.f .f32 r1514.1, .agg [.sl 1 (rows cs_ r1514.2.list_), .b r1514.2.bad_]]) := tells_eq inj16 (a := r1511.2) q1515
         obtain ⟨u1516, ⟨f1517a, f1517b⟩, h1⟩ := bindP h1
         try simp only [Int.toNat_natCast, Int.reduceToNat, List.length_cons, List.length_nil, Nat.reduceAdd, Nat.zero_add] at f1517a f1517b
         refine VW.evalMA (CM := [(15, F15), (16, F16), (17, F17), (18, F18)]) [[0, 1, 2, 3, 4, 5, 6, 7], [0, 2, 1, 3, 4, 5, 6, 7], [0, 2, 3, 1, 4, 5, 6, 7], [0, 2, 3, 4, 1, 5, 6, 7], [2, 0, 1, 3, 4, 5, 6, 7], [2, 0, 3, 1, 4, 5, 6, 7], [2, 0, 3, 4, 1, 5, 6, 7], [2, 3, 0, 1, 4, 5, 6, 7], [2, 3, 0, 4, 1, 5, 6, 7], [2, 3, 4, 0, 1, 5, 6, 7]] (tm 119 [(0, .str text), (2, .ptr 0 0 0), (6, .ptr 5 0 0), (9, .ptr 10 0 0), (27, .sl 1 (rows cs_ r1.1)), (28, .i .i64 (r1.1.length : Int)), (29, .i .i64 x_1306)]) [some (4, [[.ref 1 0 0, .ref 2 0 0, .ref 3 0 0, .ref 4 0 0]]), some (1, rows cf_f32 []), some (1, rows cf_f32 []), some (8, rows cT47 []), some (4, rows cT49 []), some (4, [[.ref 6 0 (l1307 ++ [r1514.1]).length, .ref 7 0 l1308.length, .ref 8 0 l1309.length, .ref 9 0 l1310.length]]), some (1, rows cf_f32 (l1307 ++ [r1514.1])), some (1, rows cf_f32 l1308), some (8, rows cT47 l1309), some (4, rows cT49 l1310), some (2, [[.sl 1 (rows cs_ r1514.2.list_), .b r1514.2.bad_]]), some (1, rows cf_f32 [r1514.1])] [] hC ⟨ok15, ok16, ok17, ok18, trivial⟩ mixed (by kernel_rfl) (by simp -implicitDefEqProofs [c1515, f1517a, f1517b]) ?_
         obtain ⟨r1518, q1519, h1⟩ := bindE h1
         have c1519 : F16 [.agg [.sl 1 (rows cs_ r1514.2.list_), .b r1514.2.bad_]] = some (.tup [.f .f32 r1518.1, .agg [.sl 1 (rows cs_ r1518.2.list_), .b r1518.2.bad_]]) := tells_eq inj16 (a := r1514.2) q1519
         obtain ⟨u1520, ⟨f1521a, f1521b⟩, h1⟩ := bindP h1
         try simp only [Int.toNat_natCast, Int.reduceToNat, List.length_cons, List.length_nil, Nat.reduceAdd, Nat.zero_add] at f1521a f1521b
         exact VW.evalMA (CM := [(15, F15), (16, F16), (17, F17), (18, F18)]) [[0, 1, 2, 3, 4, 5, 6, 7], [0, 2, 1, 3, 4, 5, 6, 7], [0, 2, 3, 1, 4, 5, 6, 7], [0, 2, 3, 4, 1, 5, 6, 7], [2, 0, 1, 3, 4, 5, 6, 7], [2, 0, 3, 1, 4, 5, 6, 7], [2, 0, 3, 4, 1, 5, 6, 7], [2, 3, 0, 1, 4, 5, 6, 7], [2, 3, 0, 4, 1, 5, 6, 7], [2, 3, 4, 0, 1, 5, 6, 7]] (tm 119 [(0, .str text), (2, .ptr 0 0 0), (6, .ptr 5 0 0), (9, .ptr 10 0 0), (27, .sl 1 (rows cs_ r1.1)), (28, .i .i64 (r1.1.length : Int)), (29, .i .i64 x_1306)]) [some (4, [[.ref 1 0 0, .ref 2 0 0, .ref 3 0 0, .ref 4 0 0]]), some (1, rows cf_f32 []), some (1, rows cf_f32 []), some (8, rows cT47 []), some (4, rows cT49 []), some (4, [[.ref 6 0 (l1307 ++ [r1514.1]).length, .ref 7 0 (l1308 ++ [r1518.1]).length, .ref 8 0 l1309.length, .ref 9 0 l1310.length]]), some (1, rows cf_f32 (l1307 ++ [r1514.1])), some (1, rows cf_f32 (l1308 ++ [r1518.1])), some (8, rows cT47 l1309), some (4, rows cT49 l1310), some (2, [[.sl 1 (rows cs_ r1518.2.list_), .b r1518.2.bad_]]), some (1, rows cf_f32 [r1514.1]), some (1, rows cf_f32 [r1518.1])] [] hC ⟨ok15, ok16, ok17, ok18, trivial⟩ mixed (by kernel_rfl) (by simp -implicitDefEqProofs [c1519, f1521a, f1521b]) (vnext ((l1307 ++ [r1514.1]), (l1308 ++ [r1518.1]), l1309, l1310, r1518.2.list_, r1518.2.bad_) h1 (Ent.tu 11))
       refine VW.seq (VW.rA (tm 119 [(0, .str text), (2, .ptr 0 0 0), (6, .ptr 5 0 0), (9, .ptr 10 0 0), (27, .sl 1 (rows cs_ r1.1)), (28, .i .i64 (r1.1.length : Int)), (29, .i .i64 x_1306), (36, .str r1511.1), (54, .b (eqS r1511.1 (⟨#[119, 97, 108, 108]⟩ : ByteArray)))]) [some (4, [[.ref 1 0 0, .ref 2 0 0, .ref 3 0 0, .ref 4 0 0]]), some (1, rows cf_f32 []), some (1, rows cf_f32 []), some (8, rows cT47 []), some (4, rows cT49 []), some (4, [[.ref 6 0 l1307.length, .ref 7 0 l1308.length, .ref 8 0 l1309.length, .ref 9 0 l1310.length]]), some (1, rows cf_f32 l1307), some (1, rows cf_f32 l1308), some (8, rows cT47 l1309), some (4, rows cT49 l1310), some (2, [[.sl 1 (rows cs_ r1511.2.list_), .b r1511.2.bad_]])] [] hC (VW.condJ h1 (fun h1 => ?_) (fun h1 => ?_)))
       · refine VW.seq (VW.rA (tm 119 [(0, .str text), (2, .ptr 0 0 0), (6, .ptr 5 0 0), (9, .ptr 10 0 0), (27, .sl 1 (rows cs_ r1.1)), (28, .i .i64 (r1.1.length : Int)), (29, .i .i64 x_1306), (83, .b (eqS r1511.1 (⟨#[112, 97, 110, 101]⟩ : ByteArray)))]) [some (4, [[.ref 1 0 0, .ref 2 0 0, .ref 3 0 0, .ref 4 0 0]]), some (1, rows cf_f32 []), some (1, rows cf_f32 []), some (8, rows cT47 []), some (4, rows cT49 []), some (4, [[.ref 6 0 l1307.length, .ref 7 0 l1308.length, .ref 8 0 l1309.length, .ref 9 0 l1310.length]]), some (1, rows cf_f32 l1307), some (1, rows cf_f32 l1308), some (8, rows cT47 l1309), some (4, rows cT49 l1310), some (2, [[.sl 1 (rows cs_ r1511.2.list_), .b r1511.2.bad_]])] [] hC (VW.condJ h1 (fun h1 => ?_) (fun h1 => ?_)))
         · refine VW.seq (VW.rE (tm 119 [(2, .ptr 0 0 0), (3, .i .i64 5)]) [some (4, [[.nil, .nil, .nil, .nil]]), some (1, rows cf_f32 []), some (1, rows cf_f32 []), some (8, rows cT47 []), some (4, rows cT49 []), some (4, [[.ref 6 0 l1307.length, .ref 7 0 l1308.length, .ref 8 0 l1309.length, .ref 9 0 l1310.length]]), some (1, rows cf_f32 l1307), some (1, rows cf_f32 l1308), some (8, rows cT47 l1309), some (4, rows cT49 l1310), some (2, [[.sl 1 (rows cs_ r1511.2.list_), .b r1511.2.bad_]])] [] hC (Ent.trans (Ent.nilref (m := [some (4, [[.nil, .nil, .nil, .nil]]), some (1, rows cf_f32 []), some (1, rows cf_f32 []), some (8, rows cT47 []), some (4, rows cT49 []), some (4, [[.ref 6 0 l1307.length, .ref 7 0 l1308.length, .ref 8 0 l1309.length, .ref 9 0 l1310.length]]), some (1, rows cf_f32 l1307), some (1, rows cf_f32 l1308), some (8, rows cT47 l1309), some (4, rows cT49 l1310), some (2, [[.sl 1 (rows cs_ r1511.2.list_), .b r1511.2.bad_]])]) 0 1 [some (4, [[.ref 11 0 0, .nil, .nil, .nil]]), some (1, rows cf_f32 []), some (1, rows cf_f32 []), some (8, rows cT47 []), some (4, rows cT49 []), some (4, [[.ref 6 0 l1307.length, .ref 7 0 l1308.length, .ref 8 0 l1309.length, .ref 9 0 l1310.length]]), some (1, rows cf_f32 l1307), some (1, rows cf_f32 l1308), some (8, rows cT47 l1309), some (4, rows cT49 l1310), some (2, [[.sl 1 (rows cs_ r1511.2.list_), .b r1511.2.bad_]]), some (1, rows cf_f32 [])] rfl (by simp) rfl) (Ent.trans (Ent.nilref (m := [some (4, [[.ref 11 0 0, .nil, .nil, .nil]]), some (1, rows cf_f32 []), some (1, rows cf_f32 []), some (8, rows cT47 []), some (4, rows cT49 []), some (4, [[.ref 6 0 l1307.length, .ref 7 0 l1308.length, .ref 8 0 l1309.length, .ref 9 0 l1310.length]]), some (1, rows cf_f32 l1307), some (1, rows cf_f32 l1308), some (8, rows cT47 l1309), some (4, rows cT49 l1310), some (2, [[.sl 1 (rows cs_ r1511.2.list_), .b r1511.2.bad_]]), some (1, rows cf_f32 [])]) 0 1 [some (4, [[.ref 11 0 0, .ref 12 0 0, .nil, .nil]]), some (1, rows cf_f32 []), some (1, rows cf_f32 []), some (8, rows cT47 []), some (4, rows cT49 []), some (4, [[.ref 6 0 l1307.length, .ref 7 0 l1308.length, .ref 8 0 l1309.length, .ref 9 0 l1310.length]]), some (1, rows cf_f32 l1307), some (1, rows cf_f32 l1308), some (8, rows cT47 l1309), some (4, rows cT49 l1310), some (2, [[.sl 1 (rows cs_ r1511.2.list_), .b r1511.2.bad_]]), some (1, rows cf_f32 []), some (1, rows cf_f32 [])] rfl (by simp) rfl) (Ent.trans (Ent.nilref (m := [some (4, [[.ref 11 0 0, .ref 12 0 0, .nil, .nil]]), some (1, rows cf_f32 []), some (1, rows cf_f32 []), some (8, rows cT47 []), some (4, rows cT49 []), some (4, [[.ref 6 0 l1307.length, .ref 7 0 l1308.length, .ref 8 0 l1309.length, .ref 9 0 l1310.length]]), some (1, rows cf_f32 l1307), some (1, rows cf_f32 l1308), some (8, rows cT47 l1309), some (4, rows cT49 l1310), some (2, [[.sl 1 (rows cs_ r1511.2.list_), .b r1511.2.bad_]]), some (1, rows cf_f32 []), some (1, rows cf_f32 [])]) 0 8 [some (4, [[.ref 11 0 0, .ref 12 0 0, .ref 13 0 0, .nil]]), some (1, rows cf_f32 []), some (1, rows cf_f32 []), some (8, rows cT47 []), some (4, rows cT49 []), some (4, [[.ref 6 0 l1307.length, .ref 7 0 l1308.length, .ref 8 0 l1309.length, .ref 9 0 l1310.length]]), some (1, rows cf_f32 l1307), some (1, rows cf_f32 l1308), some (8, rows cT47 l1309), some (4, rows cT49 l1310), some (2, [[.sl 1 (rows cs_ r1511.2.list_), .b r1511.2.bad_]]), some (1, rows cf_f32 []), some (1, rows cf_f32 []), some (8, rows cT47 [])] rfl (by simp) rfl) (Ent.nilref (m := [some (4, [[.ref 11 0 0, .ref 12 0 0, .ref 13 0 0, .nil]]), some (1, rows cf_f32 []), some (1, rows cf_f32 []), some (8, rows cT47 []), some (4, rows cT49 []), some (4, [[.ref 6 0 l1307.length, .ref 7 0 l1308.length, .ref 8 0 l1309.length, .ref 9 0 l1310.length]]), some (1, rows cf_f32 l1307), some (1, rows cf_f32 l1308), some (8, rows cT47 l1309), some (4, rows cT49 l1310), some (2, [[.sl 1 (rows cs_ r1511.2.list_), .b r1511.2.bad_]]), some (1, rows cf_f32 []), some (1, rows cf_f32 []), some (8, rows cT47 [])]) 0 4 [some (4, [[.ref 11 0 0, .ref 12 0 0, .ref 13 0 0, .ref 14 0 0]]), some (1, rows cf_f32 []), some (1, rows cf_f32 []), some (8, rows cT47 []), some (4, rows cT49 []), some (4, [[.ref 6 0 l1307.length, .ref 7 0 l1308.length, .ref 8 0 l1309.length, .ref 9 0 l1310.length]]), some (1, rows cf_f32 l1307), some (1, rows cf_f32 l1308), some (8, rows cT47 l1309), some (4, rows cT49 l1310), some (2, [[.sl 1 (rows cs_ r1511.2.list_), .b r1511.2.bad_]]), some (1, rows cf_f32 []), some (1, rows cf_f32 []), some (8, rows cT47 []), some (4, rows cT49 [])] rfl (by simp) rfl) ) ) ) ?_)
           have e_ := leafR h1
           subst w_1
           obtain rfl := leafS h
           exact VW.ret (VRet.fin (by simp [eB5]))
         refine VW.seq ?_
         obtain ⟨r1556, q1557, h1⟩ := bindE h1
         have c1557 : F17 [.agg [.sl 1 (rows cs_ r1511.2.list_), .b r1511.2.bad_]] = some (.tup [.i .i64 r1556.1, .agg [.sl 1 (rows cs_ r1556.2.list_), .b r1556.2.bad_]]) := tells_eq inj17 (a := r1511.2) q1557
         refine VW.evalM (CM := [(15, F15), (16, F16), (17, F17), (18, F18)]) (tm 119 [(0, .str text), (2, .ptr 0 0 0), (6, .ptr 5 0 0), (9, .ptr 10 0 0), (12, .ptr 11 0 0), (27, .sl 1 (rows cs_ r1.1)), (28, .i .i64 (r1.1.length : Int)), (29, .i .i64 x_1306)]) [some (4, [[.ref 1 0 0, .ref 2 0 0, .ref 3 0 0, .ref 4 0 0]]), some (1, rows cf_f32 []), some (1, rows cf_f32 []), some (8, rows cT47 []), some (4, rows cT49 []), some (4, [[.ref 6 0 l1307.length, .ref 7 0 l1308.length, .ref 8 0 l1309.length, .ref 9 0 l1310.length]]), some (1, rows cf_f32 l1307), some (1, rows cf_f32 l1308), some (8, rows cT47 l1309), some (4, rows cT49 l1310), some (2, [[.sl 1 (rows cs_ r1556.2.list_), .b r1556.2.bad_]]), some (4, [[.i .i64 r1556.1, .i .i64 0, .f .f32 (some 0), .f .f32 (some 0)]])] [] hC ⟨ok15, ok16, ok17, ok18, trivial⟩ (by simp -implicitDefEqProofs [c1557]) (VW.seq ?_)
         obtain ⟨r1558, q1559, h1⟩ := bindE h1
         have c1559 : F18 [.agg [.sl 1 (rows cs_ r1556.2.list_), .b r1556.2.bad_]] = some (.tup [.i .i64 r1558.1, .agg [.sl 1 (rows cs_ r1558.2.list_), .b r1558.2.bad_]]) := tells_eq inj18 (a := r1556.2) q1559
         refine VW.evalM (CM := [(15, F15), (16, F16), (17, F17), (18, F18)]) (tm 119 [(0, .str text), (2, .ptr 0 0 0), (6, .ptr 5 0 0), (9, .ptr 10 0 0), (12, .ptr 11 0 0), (27, .sl 1 (rows cs_ r1.1)), (28, .i .i64 (r1.1.length : Int)), (29, .i .i64 x_1306)]) [some (4, [[.ref 1 0 0, .ref 2 0 0, .ref 3 0 0, .ref 4 0 0]]), some (1, rows cf_f32 []), some (1, rows cf_f32 []), some (8, rows cT47 []), some (4, rows cT49 []), some (4, [[.ref 6 0 l1307.length, .ref 7 0 l1308.length, .ref 8 0 l1309.length, .ref 9 0 l1310.length]]), some (1, rows cf_f32 l1307), some (1, rows cf_f32 l1308), some (8, rows cT47 l1309), some (4, rows cT49 l1310), some (2, [[.sl 1 (rows cs_ r1558.2.list_), .b r1558.2.bad_]]), some (4, [[.i .i64 r1556.1, .i .i64 r1558.1, .f .f32 (some 0), .f .f32 (some 0)]])] [] hC ⟨ok15, ok16, ok17, ok18, trivial⟩ (by simp -implicitDefEqProofs [c1559]) (VW.seq ?_)
         obtain ⟨r1560, q1561, h1⟩ := bindE h1
         have c1561 : F16 [.agg [.sl 1 (rows cs_ r1558.2.list_), .b r1558.2.bad_]] = some (.tup [.f .f32 r1560.1, .agg [.sl 1 (rows cs_ r1560.2.list_), .b r1560.2.bad_]]) := tells_eq inj16 (a := r1558.2) q1561
         refine VW.evalM (CM := [(15, F15), (16, F16), (17, F17), (18, F18)]) (tm 119 [(0, .str text), (2, .ptr 0 0 0), (6, .ptr 5 0 0), (9, .ptr 10 0 0), (12, .ptr 11 0 0), (27, .sl 1 (rows cs_ r1.1)), (28, .i .i64 (r1.1.length : Int)), (29, .i .i64 x_1306)]) [some (4, [[.ref 1 0 0, .ref 2 0 0, .ref 3 0 0, .ref 4 0 0]]), some (1, rows cf_f32 []), some (1, rows cf_f32 []), some (8, rows cT47 []), some (4, rows cT49 []), some (4, [[.ref 6 0 l1307.length, .ref 7 0 l1308.length, .ref 8 0 l1309.length, .ref 9 0 l1310.length]]), some (1, rows cf_f32 l1307), some (1, rows cf_f32 l1308), some (8, rows cT47 l1309), some (4, rows cT49 l1310), some (2, [[.sl 1 (rows cs_ r1560.2.list_), .b r1560.2.bad_]]), some (4, [[.i .i64 r1556.1, .i .i64 r1558.1, .f .f32 r1560.1, .f .f32 (some 0)]])] [] hC ⟨ok15, ok16, ok17, ok18, trivial⟩ (by simp -implicitDefEqProofs [c1561]) (VW.seq ?_)
         obtain ⟨r1562, q1563, h1⟩ := bindE h1
         have c1563 : F16 [.agg [.sl 1 (rows cs_ r1560.2.list_), .b r1560.2.bad_]] = some (.tup [.f .f32 r1562.1, .agg [.sl 1 (rows cs_ r1562.2.list_), .b r1562.2.bad_]]) := tells_eq inj16 (a := r1560.2) q1563
         refine VW.evalM (CM := [(15, F15), (16, F16), (17, F17), (18, F18)]) (tm 119 [(0, .str text), (2, .ptr 0 0 0), (6, .ptr 5 0 0), (9, .ptr 10 0 0), (12, .ptr 11 0 0), (27, .sl 1 (rows cs_ r1.1)), (28, .i .i64 (r1.1.length : Int)), (29, .i .i64 x_1306)]) [some (4, [[.ref 1 0 0, .ref 2 0 0, .ref 3 0 0, .ref 4 0 0]]), some (1, rows cf_f32 []), some (1, rows cf_f32 []), some (8, rows cT47 []), some (4, rows cT49 []), some (4, [[.ref 6 0 l1307.length, .ref 7 0 l1308.length, .ref 8 0 l1309.length, .ref 9 0 l1310.length]]), some (1, rows cf_f32 l1307), some (1, rows cf_f32 l1308), some (8, rows cT47 l1309), some (4, rows cT49 l1310), some (2, [[.sl 1 (rows cs_ r1562.2.list_), .b r1562.2.bad_]]), some (4, [[.i .i64 r1556.1, .i .i64 r1558.1, .f .f32 r1560.1, .f .f32 r1562.1]])] [] hC ⟨ok15, ok16, ok17, ok18, trivial⟩ (by simp -implicitDefEqProofs [c1563]) ?_
         obtain ⟨u1564, ⟨f1565a, f1565b⟩, h1⟩ := bindP h1
         try simp only [Int.toNat_natCast, Int.reduceToNat, List.length_cons, List.length_nil, Nat.reduceAdd, Nat.zero_add] at f1565a f1565b
         exact VW.evalM (CM := [(15, F15), (16, F16), (17, F17), (18, F18)]) (tm 119 [(0, .str text), (2, .ptr 0 0 0), (6, .ptr 5 0 0), (9, .ptr 10 0 0), (27, .sl 1 (rows cs_ r1.1)), (28, .i .i64 (r1.1.length : Int)), (29, .i .i64 x_1306)]) [some (4, [[.ref 1 0 0, .ref 2 0 0, .ref 3 0 0, .ref 4 0 0]]), some (1, rows cf_f32 []), some (1, rows cf_f32 []), some (8, rows cT47 []), some (4, rows cT49 []), some (4, [[.ref 6 0 l1307.length, .ref 7 0 l1308.length, .ref 8 0 l1309.length, .ref 9 0 (l1310 ++ [(⟨r1556.1, r1558.1, r1560.1, r1562.1⟩ : T49)]).length]]), some (1, rows cf_f32 l1307), some (1, rows cf_f32 l1308), some (8, rows cT47 l1309), some (4, rows cT49 (l1310 ++ [(⟨r1556.1, r1558.1, r1560.1, r1562.1⟩ : T49)])), some (2, [[.sl 1 (rows cs_ r1562.2.list_), .b r1562.2.bad_]]), some (4, [[.i .i64 r1556.1, .i .i64 r1558.1, .f .f32 r1560.1, .f .f32 r1562.1]]), some (4, rows cT49 [(⟨r1556.1, r1558.1, r1560.1, r1562.1⟩ : T49)])] [] hC ⟨ok15, ok16, ok17, ok18, trivial⟩ (by simp -implicitDefEqProofs [f1565a, f1565b]) (vnext (l1307, l1308, l1309, (l1310 ++ [(⟨r1556.1, r1558.1, r1560.1, r1562.1⟩ : T49)]), r1562.2.list_, r1562.2.bad_) h1 (Ent.tu 11))
       refine VW.seq ?_
       obtain ⟨r1523, q1524, h1⟩ := bindE h1
       have c1524 : F17 [.agg [.sl 1 (rows cs_ r1511.2.list_), .b r1511.2.bad_]] = some (.tup [.i .i64 r1523.1, .agg [.sl 1 (rows cs_ r1523.2.list_), .b r1523.2.bad_]]) := tells_eq inj17 (a := r1511.2) q1524
       refine VW.evalM (CM := [(15, F15), (16, F16), (17, F17), (18, F18)]) (tm 119 [(0, .str text), (2, .ptr 0 0 0), (6, .ptr 5 0 0), (9, .ptr 10 0 0), (10, .ptr 11 0 0), (27, .sl 1 (rows cs_ r1.1)), (28, .i .i64 (r1.1.length : Int)), (29, .i .i64 x_1306)]) [some (4, [[.ref 1 0 0, .ref 2 0 0, .ref 3 0 0, .ref 4 0 0]]), some (1, rows cf_f32 []), some (1, rows cf_f32 []), some (8, rows cT47 []), some (4, rows cT49 []), some (4, [[.ref 6 0 l1307.length, .ref 7 0 l1308.length, .ref 8 0 l1309.length, .ref 9 0 l1310.length]]), some (1, rows cf_f32 l1307), some (1, rows cf_f32 l1308), some (8, rows cT47 l1309), some (4, rows cT49 l1310), some (2, [[.sl 1 (rows cs_ r1523.2.list_), .b r1523.2.bad_]]), some (8, [[.i .i64 r1523.1, .i .i64 0, .f .f32 (some 0), .f .f32 (some 0), .f .f32 (some 0), .f .f32 (some 0), .f .f32 (some 0), .f .f32 (some 0)]])] [] hC ⟨ok15, ok16, ok17, ok18, trivial⟩ (by simp -implicitDefEqProofs [c1524]) (VW.seq ?_)
       obtain ⟨r1525, q1526, h1⟩ := bindE h1
       have c1526 : F18 [.agg [.sl 1 (rows cs_ r1523.2.list_), .b r1523.2.bad_]] = some (.tup [.i .i64 r1525.1, .agg [.sl 1 (rows cs_ r1525.2.list_), .b r1525.2.bad_]]) := tells_eq inj18 (a := r1523.2) q1526
       refine VW.evalM (CM := [(15, F15), (16, F16), (17, F17), (18, F18)]) (tm 119 [(0, .str text), (2, .ptr 0 0 0), (6, .ptr 5 0 0), (9, .ptr 10 0 0), (10, .ptr 11 0 0), (27, .sl 1 (rows cs_ r1.1)), (28, .i .i64 (r1.1.length : Int)), (29, .i .i64 x_1306)]) [some (4, [[.ref 1 0 0, .ref 2 0 0, .ref 3 0 0, .ref 4 0 0]]), some (1, rows cf_f32 []), some (1, rows cf_f32 []), some (8, rows cT47 []), some (4, rows cT49 []), some (4, [[.ref 6 0 l1307.length, .ref 7 0 l1308.length, .ref 8 0 l1309.length, .ref 9 0 l1310.length]]), some (1, rows cf_f32 l1307), some (1, rows cf_f32 l1308), some (8, rows cT47 l1309), some (4, rows cT49 l1310), some (2, [[.sl 1 (rows cs_ r1525.2.list_), .b r1525.2.bad_]]), some (8, [[.i .i64 r1523.1, .i .i64 r1525.1, .f .f32 (some 0), .f .f32 (some 0), .f .f32 (some 0), .f .f32 (some 0), .f .f32 (some 0), .f .f32 (some 0)]])] [] hC ⟨ok15, ok16, ok17, ok18, trivial⟩ (by simp -implicitDefEqProofs [c1526]) (VW.seq ?_)
       obtain ⟨r1527, q1528, h1⟩ := bindE h1
       have c1528 : F16 [.agg [.sl 1 (rows cs_ r1525.2.list_), .b r1525.2.bad_]] = some (.tup [.f .f32 r1527.1, .agg [.sl 1 (rows cs_ r1527.2.list_), .b r1527.2.bad_]]) := tells_eq inj16 (a := r1525.2) q1528
       refine VW.evalM (CM := [(15, F15), (16, F16), (17, F17), (18, F18)]) (tm 119 [(0, .str text), (2, .ptr 0 0 0), (6, .ptr 5 0 0), (9, .ptr 10 0 0), (10, .ptr 11 0 0), (27, .sl 1 (rows cs_ r1.1)), (28, .i .i64 (r1.1.length : Int)), (29, .i .i64 x_1306)]) [some (4, [[.ref 1 0 0, .ref 2 0 0, .ref 3 0 0, .ref 4 0 0]]), some (1, rows cf_f32 []), some (1, rows cf_f32 []), some (8, rows cT47 []), some (4, rows cT49 []), some (4, [[.ref 6 0 l1307.length, .ref 7 0 l1308.length, .ref 8 0 l1309.length, .ref 9 0 l1310.length]]), some (1, rows cf_f32 l1307), some (1, rows cf_f32 l1308), some (8, rows cT47 l1309), some (4, rows cT49 l1310), some (2, [[.sl 1 (rows cs_ r1527.2.list_), .b r1527.2.bad_]]), some (8, [[.i .i64 r1523.1, .i .i64 r1525.1, .f .f32 r1527.1, .f .f32 (some 0), .f .f32 (some 0), .f .f32 (some 0), .f .f32 (some 0), .f .f32 (some 0)]])] [] hC ⟨ok15, ok16, ok17, ok18, trivial⟩ (by simp -implicitDefEqProofs [c1528]) (VW.seq ?_)
       obtain ⟨r1529, q1530, h1⟩ := bindE h1
       have c1530 : F16 [.agg [.sl 1 (rows cs_ r1527.2.list_), .b r1527.2.bad_]] = some (.tup [.f .f32 r1529.1, .agg [.sl 1 (rows cs_ r1529.2.list_), .b r1529.2.bad_]]) := tells_eq inj16 (a := r1527.2) q1530
       refine VW.evalM (CM := [(15, F15), (16, F16), (17, F17), (18, F18)]) (tm 119 [(0, .str text), (2, .ptr 0 0 0), (6, .ptr 5 0 0), (9, .ptr 10 0 0), (10, .ptr 11 0 0), (27, .sl 1 (rows cs_ r1.1)), (28, .i .i64 (r1.1.length : Int)), (29, .i .i64 x_1306)]) [some (4, [[.ref 1 0 0, .ref 2 0 0, .ref 3 0 0, .ref 4 0 0]]), some (1, rows cf_f32 []), some (1, rows cf_f32 []), some (8, rows cT47 []), some (4, rows cT49 []), some (4, [[.ref 6 0 l1307.length, .ref 7 0 l1308.length, .ref 8 0 l1309.length, .ref 9 0 l1310.length]]), some (1, rows cf_f32 l1307), some (1, rows cf_f32 l1308), some (8, rows cT47 l1309), some (4, rows cT49 l1310), some (2, [[.sl 1 (rows cs_ r1529.2.list_), .b r1529.2.bad_]]), some (8, [[.i .i64 r1523.1, .i .i64 r1525.1, .f .f32 r1527.1, .f .f32 r1529.1, .f .f32 (some 0), .f .f32 (some 0), .f .f32 (some 0), .f .f32 (some 0)]])] [] hC ⟨ok15, ok16, ok17, ok18, trivial⟩ (by simp -implicitDefEqProofs [c1530]) (VW.join (fun (v : (List ByteArray) × Bool × F32 × F32 × F32 × F32) => (⟨(tm 119 [(0, .str text), (2, .ptr 0 0 0), (6, .ptr 5 0 0), (9, .ptr 10 0 0), (10, .ptr 11 0 0), (27, .sl 1 (rows cs_ r1.1)), (28, .i .i64 (r1.1.length : Int)), (29, .i .i64 x_1306)]), [some (4, [[.ref 1 0 0, .ref 2 0 0, .ref 3 0 0, .ref 4 0 0]]), some (1, rows cf_f32 []), some (1, rows cf_f32 []), some (8, rows cT47 []), some (4, rows cT49 []), some (4, [[.ref 6 0 l1307.length, .ref 7 0 l1308.length, .ref 8 0 l1309.length, .ref 9 0 l1310.length]]), some (1, rows cf_f32 l1307), some (1, rows cf_f32 l1308), some (8, rows cT47 l1309), some (4, rows cT49 l1310), some (2, [[.sl 1 (rows cs_ v.1), .b v.2.1]]), some (8, [[.i .i64 r1523.1, .i .i64 r1525.1, .f .f32 r1527.1, .f .f32 r1529.1, .f .f32 v.2.2.1, .f .f32 v.2.2.2.1, .f .f32 v.2.2.2.2.1, .f .f32 v.2.2.2.2.2]])], []⟩ : VS)) (fun v => (g5_j4 l1309 r1523 r1525 r1527 r1529 x_1306 l1307 l1308 l1310 (v.1) (v.2.1) (v.2.2.1) (v.2.2.2.1) (v.2.2.2.2.1) (v.2.2.2.2.2)).bind (kN (g5_L1 r1) n_1) = some w_1) ?_ ?_)
       · refine VW.seq (VW.rA (tm 119 [(0, .str text), (2, .ptr 0 0 0), (6, .ptr 5 0 0), (9, .ptr 10 0 0), (10, .ptr 11 0 0), (27, .sl 1 (rows cs_ r1.1)), (28, .i .i64 (r1.1.length : Int)), (29, .i .i64 x_1306), (68, .i .i64 0)]) [some (4, [[.ref 1 0 0, .ref 2 0 0, .ref 3 0 0, .ref 4 0 0]]), some (1, rows cf_f32 []), some (1, rows cf_f32 []), some (8, rows cT47 []), some (4, rows cT49 []), some (4, [[.ref 6 0 l1307.length, .ref 7 0 l1308.length, .ref 8 0 l1309.length, .ref 9 0 l1310.length]]), some (1, rows cf_f32 l1307), some (1, rows cf_f32 l1308), some (8, rows cT47 l1309), some (4, rows cT49 l1310), some (2, [[.sl 1 (rows cs_ r1529.2.list_), .b r1529.2.bad_]]), some (8, [[.i .i64 r1523.1, .i .i64 r1525.1, .f .f32 r1527.1, .f .f32 r1529.1, .f .f32 (some 0), .f .f32 (some 0), .f .f32 (some 0), .f .f32 (some 0)]])] [] hC (VW.block (VW.rounds 6 (VRounds.step (VW.seq (VW.rA (tm 119 [(0, .str text), (2, .ptr 0 0 0), (6, .ptr 5 0 0), (9, .ptr 10 0 0), (10, .ptr 11 0 0), (27, .sl 1 (rows cs_ r1.1)), (28, .i .i64 (r1.1.length : Int)), (29, .i .i64 x_1306), (68, .i .i64 0), (69, .b true)]) [some (4, [[.ref 1 0 0, .ref 2 0 0, .ref 3 0 0, .ref 4 0 0]]), some (1, rows cf_f32 []), some (1, rows cf_f32 []), some (8, rows cT47 []), some (4, rows cT49 []), some (4, [[.ref 6 0 l1307.length, .ref 7 0 l1308.length, .ref 8 0 l1309.length, .ref 9 0 l1310.length]]), some (1, rows cf_f32 l1307), some (1, rows cf_f32 l1308), some (8, rows cT47 l1309), some (4, rows cT49 l1310), some (2, [[.sl 1 (rows cs_ r1529.2.list_), .b r1529.2.bad_]]), some (8, [[.i .i64 r1523.1, .i .i64 r1525.1, .f .f32 r1527.1, .f .f32 r1529.1, .f .f32 (some 0), .f .f32 (some 0), .f .f32 (some 0), .f .f32 (some 0)]])] [] hC (VW.seq (VW.condT (by simp) (VW.skip (VW.seq (VW.block (VW.seq (VW.rA (tm 119 [(0, .str text), (2, .ptr 0 0 0), (6, .ptr 5 0 0), (9, .ptr 10 0 0), (10, .ptr 11 0 0), (11, .i .i64 0), (27, .sl 1 (rows cs_ r1.1)), (28, .i .i64 (r1.1.length : Int)), (29, .i .i64 x_1306), (68, .i .i64 0)]) [some (4, [[.ref 1 0 0, .ref 2 0 0, .ref 3 0 0, .ref 4 0 0]]), some (1, rows cf_f32 []), some (1, rows cf_f32 []), some (8, rows cT47 []), some (4, rows cT49 []), some (4, [[.ref 6 0 l1307.length, .ref 7 0 l1308.length, .ref 8 0 l1309.length, .ref 9 0 l1310.length]]), some (1, rows cf_f32 l1307), some (1, rows cf_f32 l1308), some (8, rows cT47 l1309), some (4, rows cT49 l1310), some (2, [[.sl 1 (rows cs_ r1529.2.list_), .b r1529.2.bad_]]), some (8, [[.i .i64 r1523.1, .i .i64 r1525.1, .f .f32 r1527.1, .f .f32 r1529.1, .f .f32 (some 0), .f .f32 (some 0), .f .f32 (some 0), .f .f32 (some 0)]])] [] hC ?_))))))) (h := by simp -implicitDefEqProofs [(by decide : ltI 0 4 = true)])))))))
         obtain ⟨r1547, q1548, h1⟩ := bindE h1
         have c1548 : F16 [.agg [.sl 1 (rows cs_ r1529.2.list_), .b r1529.2.bad_]] = some (.tup [.f .f32 r1547.1, .agg [.sl 1 (rows cs_ r1547.2.list_), .b r1547.2.bad_]]) := tells_eq inj16 (a := r1529.2) q1548
         refine VW.evalM (CM := [(15, F15), (16, F16), (17, F17), (18, F18)]) (tm 119 [(0, .str text), (2, .ptr 0 0 0), (6, .ptr 5 0 0), (9, .ptr 10 0 0), (10, .ptr 11 0 0), (27, .sl 1 (rows cs_ r1.1)), (28, .i .i64 (r1.1.length : Int)), (29, .i .i64 x_1306), (68, .i .i64 0)]) [some (4, [[.ref 1 0 0, .ref 2 0 0, .ref 3 0 0, .ref 4 0 0]]), some (1, rows cf_f32 []), some (1, rows cf_f32 []), some (8, rows cT47 []), some (4, rows cT49 []), some (4, [[.ref 6 0 l1307.length, .ref 7 0 l1308.length, .ref 8 0 l1309.length, .ref 9 0 l1310.length]]), some (1, rows cf_f32 l1307), some (1, rows cf_f32 l1308), some (8, rows cT47 l1309), some (4, rows cT49 l1310), some (2, [[.sl 1 (rows cs_ r1547.2.list_), .b r1547.2.bad_]]), some (8, [[.i .i64 r1523.1, .i .i64 r1525.1, .f .f32 r1527.1, .f .f32 r1529.1, .f .f32 r1547.1, .f .f32 (some 0), .f .f32 (some 0), .f .f32 (some 0)]])] [] hC ⟨ok15, ok16, ok17, ok18, trivial⟩ (by simp -implicitDefEqProofs [c1548]) (VW.rA (tm 119 [(0, .str text), (2, .ptr 0 0 0), (6, .ptr 5 0 0), (9, .ptr 10 0 0), (10, .ptr 11 0 0), (27, .sl 1 (rows cs_ r1.1)), (28, .i .i64 (r1.1.length : Int)), (29, .i .i64 x_1306), (68, .i .i64 1)]) [some (4, [[.ref 1 0 0, .ref 2 0 0, .ref 3 0 0, .ref 4 0 0]]), some (1, rows cf_f32 []), some (1, rows cf_f32 []), some (8, rows cT47 []), some (4, rows cT49 []), some (4, [[.ref 6 0 l1307.length, .ref 7 0 l1308.length, .ref 8 0 l1309.length, .ref 9 0 l1310.length]]), some (1, rows cf_f32 l1307), some (1, rows cf_f32 l1308), some (8, rows cT47 l1309), some (4, rows cT49 l1310), some (2, [[.sl 1 (rows cs_ r1547.2.list_), .b r1547.2.bad_]]), some (8, [[.i .i64 r1523.1, .i .i64 r1525.1, .f .f32 r1527.1, .f .f32 r1529.1, .f .f32 r1547.1, .f .f32 (some 0), .f .f32 (some 0), .f .f32 (some 0)]])] [] hC (VRounds.step (VW.seq (VW.rA (tm 119 [(0, .str text), (2, .ptr 0 0 0), (6, .ptr 5 0 0), (9, .ptr 10 0 0), (10, .ptr 11 0 0), (27, .sl 1 (rows cs_ r1.1)), (28, .i .i64 (r1.1.length : Int)), (29, .i .i64 x_1306), (68, .i .i64 1), (69, .b true)]) [some (4, [[.ref 1 0 0, .ref 2 0 0, .ref 3 0 0, .ref 4 0 0]]), some (1, rows cf_f32 []), some (1, rows cf_f32 []), some (8, rows cT47 []), some (4, rows cT49 []), some (4, [[.ref 6 0 l1307.length, .ref 7 0 l1308.length, .ref 8 0 l1309.length, .ref 9 0 l1310.length]]), some (1, rows cf_f32 l1307), some (1, rows cf_f32 l1308), some (8, rows cT47 l1309), some (4, rows cT49 l1310), some (2, [[.sl 1 (rows cs_ r1547.2.list_), .b r1547.2.bad_]]), some (8, [[.i .i64 r1523.1, .i .i64 r1525.1, .f .f32 r1527.1, .f .f32 r1529.1, .f .f32 r1547.1, .f .f32 (some 0), .f .f32 (some 0), .f .f32 (some 0)]])] [] hC (VW.seq (VW.condT (by simp) (VW.skip (VW.seq (VW.block (VW.seq (VW.rA (tm 119 [(0, .str text), (2, .ptr 0 0 0), (6, .ptr 5 0 0), (9, .ptr 10 0 0), (10, .ptr 11 0 0), (11, .i .i64 1), (27, .sl 1 (rows cs_ r1.1)), (28, .i .i64 (r1.1.length : Int)), (29, .i .i64 x_1306), (68, .i .i64 1)]) [some (4, [[.ref 1 0 0, .ref 2 0 0, .ref 3 0 0, .ref 4 0 0]]), some (1, rows cf_f32 []), some (1, rows cf_f32 []), some (8, rows cT47 []), some (4, rows cT49 []), some (4, [[.ref 6 0 l1307.length, .ref 7 0 l1308.length, .ref 8 0 l1309.length, .ref 9 0 l1310.length]]), some (1, rows cf_f32 l1307), some (1, rows cf_f32 l1308), some (8, rows cT47 l1309), some (4, rows cT49 l1310), some (2, [[.sl 1 (rows cs_ r1547.2.list_), .b r1547.2.bad_]]), some (8, [[.i .i64 r1523.1, .i .i64 r1525.1, .f .f32 r1527.1, .f .f32 r1529.1, .f .f32 r1547.1, .f .f32 (some 0), .f .f32 (some 0), .f .f32 (some 0)]])] [] hC ?_))))))) (h := by simp -implicitDefEqProofs [(by decide : ltI 1 4 = true)])))) (h := by simp -implicitDefEqProofs [(by decide : aI .i64 0 1 = 1)]))
         obtain ⟨r1549, q1550, h1⟩ := bindE h1
         have c1550 : F16 [.agg [.sl 1 (rows cs_ r1547.2.list_), .b r1547.2.bad_]] = some (.tup [.f .f32 r1549.1, .agg [.sl 1 (rows cs_ r1549.2.list_), .b r1549.2.bad_]]) := tells_eq inj16 (a := r1547.2) q1550
         refine VW.evalM (CM := [(15, F15), (16, F16), (17, F17), (18, F18)]) (tm 119 [(0, .str text), (2, .ptr 0 0 0), (6, .ptr 5 0 0), (9, .ptr 10 0 0), (10, .ptr 11 0 0), (27, .sl 1 (rows cs_ r1.1)), (28, .i .i64 (r1.1.length : Int)), (29, .i .i64 x_1306), (68, .i .i64 1)]) [some (4, [[.ref 1 0 0, .ref 2 0 0, .ref 3 0 0, .ref 4 0 0]]), some (1, rows cf_f32 []), some (1, rows cf_f32 []), some (8, rows cT47 []), some (4, rows cT49 []), some (4, [[.ref 6 0 l1307.length, .ref 7 0 l1308.length, .ref 8 0 l1309.length, .ref 9 0 l1310.length]]), some (1, rows cf_f32 l1307), some (1, rows cf_f32 l1308), some (8, rows cT47 l1309), some (4, rows cT49 l1310), some (2, [[.sl 1 (rows cs_ r1549.2.list_), .b r1549.2.bad_]]), some (8, [[.i .i64 r1523.1, .i .i64 r1525.1, .f .f32 r1527.1, .f .f32 r1529.1, .f .f32 r1547.1, .f .f32 r1549.1, .f .f32 (some 0), .f .f32 (some 0)]])] [] hC ⟨ok15, ok16, ok17, ok18, trivial⟩ (by simp -implicitDefEqProofs [c1550]) (VW.rA (tm 119 [(0, .str text), (2, .ptr 0 0 0), (6, .ptr 5 0 0), (9, .ptr 10 0 0), (10, .ptr 11 0 0), (27, .sl 1 (rows cs_ r1.1)), (28, .i .i64 (r1.1.length : Int)), (29, .i .i64 x_1306), (68, .i .i64 2)]) [some (4, [[.ref 1 0 0, .ref 2 0 0, .ref 3 0 0, .ref 4 0 0]]), some (1, rows cf_f32 []), some (1, rows cf_f32 []), some (8, rows cT47 []), some (4, rows cT49 []), some (4, [[.ref 6 0 l1307.length, .ref 7 0 l1308.length, .ref 8 0 l1309.length, .ref 9 0 l1310.length]]), some (1, rows cf_f32 l1307), some (1, rows cf_f32 l1308), some (8, rows cT47 l1309), some (4, rows cT49 l1310), some (2, [[.sl 1 (rows cs_ r1549.2.list_), .b r1549.2.bad_]]), some (8, [[.i .i64 r1523.1, .i .i64 r1525.1, .f .f32 r1527.1, .f .f32 r1529.1, .f .f32 r1547.1, .f .f32 r1549.1, .f .f32 (some 0), .f .f32 (some 0)]])] [] hC (VRounds.step (VW.seq (VW.rA (tm 119 [(0, .str text), (2, .ptr 0 0 0), (6, .ptr 5 0 0), (9, .ptr 10 0 0), (10, .ptr 11 0 0), (27, .sl 1 (rows cs_ r1.1)), (28, .i .i64 (r1.1.length : Int)), (29, .i .i64 x_1306), (68, .i .i64 2), (69, .b true)]) [some (4, [[.ref 1 0 0, .ref 2 0 0, .ref 3 0 0, .ref 4 0 0]]), some (1, rows cf_f32 []), some (1, rows cf_f32 []), some (8, rows cT47 []), some (4, rows cT49 []), some (4, [[.ref 6 0 l1307.length, .ref 7 0 l1308.length, .ref 8 0 l1309.length, .ref 9 0 l1310.length]]), some (1, rows cf_f32 l1307), some (1, rows cf_f32 l1308), some (8, rows cT47 l1309), some (4, rows cT49 l1310), some (2, [[.sl 1 (rows cs_ r1549.2.list_), .b r1549.2.bad_]]), some (8, [[.i .i64 r1523.1, .i .i64 r1525.1, .f .f32 r1527.1, .f .f32 r1529.1, .f .f32 r1547.1, .f .f32 r1549.1, .f .f32 (some 0), .f .f32 (some 0)]])] [] hC (VW.seq (VW.condT (by simp) (VW.skip (VW.seq (VW.block (VW.seq (VW.rA (tm 119 [(0, .str text), (2, .ptr 0 0 0), (6, .ptr 5 0 0), (9, .ptr 10 0 0), (10, .ptr 11 0 0), (11, .i .i64 2), (27, .sl 1 (rows cs_ r1.1)), (28, .i .i64 (r1.1.length : Int)), (29, .i .i64 x_1306), (68, .i .i64 2)]) [some (4, [[.ref 1 0 0, .ref 2 0 0, .ref 3 0 0, .ref 4 0 0]]), some (1, rows cf_f32 []), some (1, rows cf_f32 []), some (8, rows cT47 []), some (4, rows cT49 []), some (4, [[.ref 6 0 l1307.length, .ref 7 0 l1308.length, .ref 8 0 l1309.length, .ref 9 0 l1310.length]]), some (1, rows cf_f32 l1307), some (1, rows cf_f32 l1308), some (8, rows cT47 l1309), some (4, rows cT49 l1310), some (2, [[.sl 1 (rows cs_ r1549.2.list_), .b r1549.2.bad_]]), some (8, [[.i .i64 r1523.1, .i .i64 r1525.1, .f .f32 r1527.1, .f .f32 r1529.1, .f .f32 r1547.1, .f .f32 r1549.1, .f .f32 (some 0), .f .f32 (some 0)]])] [] hC ?_))))))) (h := by simp -implicitDefEqProofs [(by decide : ltI 2 4 = true)])))) (h := by simp -implicitDefEqProofs [(by decide : aI .i64 1 1 = 2)]))
         obtain ⟨r1551, q1552, h1⟩ := bindE h1
         have c1552 : F16 [.agg [.sl 1 (rows cs_ r1549.2.list_), .b r1549.2.bad_]] = some (.tup [.f .f32 r1551.1, .agg [.sl 1 (rows cs_ r1551.2.list_), .b r1551.2.bad_]]) := tells_eq inj16 (a := r1549.2) q1552
         refine VW.evalM (CM := [(15, F15), (16, F16), (17, F17), (18, F18)]) (tm 119 [(0, .str text), (2, .ptr 0 0 0), (6, .ptr 5 0 0), (9, .ptr 10 0 0), (10, .ptr 11 0 0), (27, .sl 1 (rows cs_ r1.1)), (28, .i .i64 (r1.1.length : Int)), (29, .i .i64 x_1306), (68, .i .i64 2)]) [some (4, [[.ref 1 0 0, .ref 2 0 0, .ref 3 0 0, .ref 4 0 0]]), some (1, rows cf_f32 []), some (1, rows cf_f32 []), some (8, rows cT47 []), some (4, rows cT49 []), some (4, [[.ref 6 0 l1307.length, .ref 7 0 l1308.length, .ref 8 0 l1309.length, .ref 9 0 l1310.length]]), some (1, rows cf_f32 l1307), some (1, rows cf_f32 l1308), some (8, rows cT47 l1309), some (4, rows cT49 l1310), some (2, [[.sl 1 (rows cs_ r1551.2.list_), .b r1551.2.bad_]]), some (8, [[.i .i64 r1523.1, .i .i64 r1525.1, .f .f32 r1527.1, .f .f32 r1529.1, .f .f32 r1547.1, .f .f32 r1549.1, .f .f32 r1551.1, .f .f32 (some 0)]])] [] hC ⟨ok15, ok16, ok17, ok18, trivial⟩ (by simp -implicitDefEqProofs [c1552]) (VW.rA (tm 119 [(0, .str text), (2, .ptr 0 0 0), (6, .ptr 5 0 0), (9, .ptr 10 0 0), (10, .ptr 11 0 0), (27, .sl 1 (rows cs_ r1.1)), (28, .i .i64 (r1.1.length : Int)), (29, .i .i64 x_1306), (68, .i .i64 3)]) [some (4, [[.ref 1 0 0, .ref 2 0 0, .ref 3 0 0, .ref 4 0 0]]), some (1, rows cf_f32 []), some (1, rows cf_f32 []), some (8, rows cT47 []), some (4, rows cT49 []), some (4, [[.ref 6 0 l1307.length, .ref 7 0 l1308.length, .ref 8 0 l1309.length, .ref 9 0 l1310.length]]), some (1, rows cf_f32 l1307), some (1, rows cf_f32 l1308), some (8, rows cT47 l1309), some (4, rows cT49 l1310), some (2, [[.sl 1 (rows cs_ r1551.2.list_), .b r1551.2.bad_]]), some (8, [[.i .i64 r1523.1, .i .i64 r1525.1, .f .f32 r1527.1, .f .f32 r1529.1, .f .f32 r1547.1, .f .f32 r1549.1, .f .f32 r1551.1, .f .f32 (some 0)]])] [] hC (VRounds.step (VW.seq (VW.rA (tm 119 [(0, .str text), (2, .ptr 0 0 0), (6, .ptr 5 0 0), (9, .ptr 10 0 0), (10, .ptr 11 0 0), (27, .sl 1 (rows cs_ r1.1)), (28, .i .i64 (r1.1.length : Int)), (29, .i .i64 x_1306), (68, .i .i64 3), (69, .b true)]) [some (4, [[.ref 1 0 0, .ref 2 0 0, .ref 3 0 0, .ref 4 0 0]]), some (1, rows cf_f32 []), some (1, rows cf_f32 []), some (8, rows cT47 []), some (4, rows cT49 []), some (4, [[.ref 6 0 l1307.length, .ref 7 0 l1308.length, .ref 8 0 l1309.length, .ref 9 0 l1310.length]]), some (1, rows cf_f32 l1307), some (1, rows cf_f32 l1308), some (8, rows cT47 l1309), some (4, rows cT49 l1310), some (2, [[.sl 1 (rows cs_ r1551.2.list_), .b r1551.2.bad_]]), some (8, [[.i .i64 r1523.1, .i .i64 r1525.1, .f .f32 r1527.1, .f .f32 r1529.1, .f .f32 r1547.1, .f .f32 r1549.1, .f .f32 r1551.1, .f .f32 (some 0)]])] [] hC (VW.seq (VW.condT (by simp) (VW.skip (VW.seq (VW.block (VW.seq (VW.rA (tm 119 [(0, .str text), (2, .ptr 0 0 0), (6, .ptr 5 0 0), (9, .ptr 10 0 0), (10, .ptr 11 0 0), (11, .i .i64 3), (27, .sl 1 (rows cs_ r1.1)), (28, .i .i64 (r1.1.length : Int)), (29, .i .i64 x_1306), (68, .i .i64 3)]) [some (4, [[.ref 1 0 0, .ref 2 0 0, .ref 3 0 0, .ref 4 0 0]]), some (1, rows cf_f32 []), some (1, rows cf_f32 []), some (8, rows cT47 []), some (4, rows cT49 []), some (4, [[.ref 6 0 l1307.length, .ref 7 0 l1308.length, .ref 8 0 l1309.length, .ref 9 0 l1310.length]]), some (1, rows cf_f32 l1307), some (1, rows cf_f32 l1308), some (8, rows cT47 l1309), some (4, rows cT49 l1310), some (2, [[.sl 1 (rows cs_ r1551.2.list_), .b r1551.2.bad_]]), some (8, [[.i .i64 r1523.1, .i .i64 r1525.1, .f .f32 r1527.1, .f .f32 r1529.1, .f .f32 r1547.1, .f .f32 r1549.1, .f .f32 r1551.1, .f .f32 (some 0)]])] [] hC ?_))))))) (h := by simp -implicitDefEqProofs [(by decide : ltI 3 4 = true)])))) (h := by simp -implicitDefEqProofs [(by decide : aI .i64 2 1 = 3)]))
         obtain ⟨r1553, q1554, h1⟩ := bindE h1
         have c1554 : F16 [.agg [.sl 1 (rows cs_ r1551.2.list_), .b r1551.2.bad_]] = some (.tup [.f .f32 r1553.1, .agg [.sl 1 (rows cs_ r1553.2.list_), .b r1553.2.bad_]]) := tells_eq inj16 (a := r1551.2) q1554
         exact VW.evalM (CM := [(15, F15), (16, F16), (17, F17), (18, F18)]) (tm 119 [(0, .str text), (2, .ptr 0 0 0), (6, .ptr 5 0 0), (9, .ptr 10 0 0), (10, .ptr 11 0 0), (27, .sl 1 (rows cs_ r1.1)), (28, .i .i64 (r1.1.length : Int)), (29, .i .i64 x_1306), (68, .i .i64 3)]) [some (4, [[.ref 1 0 0, .ref 2 0 0, .ref 3 0 0, .ref 4 0 0]]), some (1, rows cf_f32 []), some (1, rows cf_f32 []), some (8, rows cT47 []), some (4, rows cT49 []), some (4, [[.ref 6 0 l1307.length, .ref 7 0 l1308.length, .ref 8 0 l1309.length, .ref 9 0 l1310.length]]), some (1, rows cf_f32 l1307), some (1, rows cf_f32 l1308), some (8, rows cT47 l1309), some (4, rows cT49 l1310), some (2, [[.sl 1 (rows cs_ r1553.2.list_), .b r1553.2.bad_]]), some (8, [[.i .i64 r1523.1, .i .i64 r1525.1, .f .f32 r1527.1, .f .f32 r1529.1, .f .f32 r1547.1, .f .f32 r1549.1, .f .f32 r1551.1, .f .f32 r1553.1]])] [] hC ⟨ok15, ok16, ok17, ok18, trivial⟩ (by simp -implicitDefEqProofs [c1554]) (VW.rA (tm 119 [(0, .str text), (2, .ptr 0 0 0), (6, .ptr 5 0 0), (9, .ptr 10 0 0), (10, .ptr 11 0 0), (27, .sl 1 (rows cs_ r1.1)), (28, .i .i64 (r1.1.length : Int)), (29, .i .i64 x_1306), (68, .i .i64 4)]) [some (4, [[.ref 1 0 0, .ref 2 0 0, .ref 3 0 0, .ref 4 0 0]]), some (1, rows cf_f32 []), some (1, rows cf_f32 []), some (8, rows cT47 []), some (4, rows cT49 []), some (4, [[.ref 6 0 l1307.length, .ref 7 0 l1308.length, .ref 8 0 l1309.length, .ref 9 0 l1310.length]]), some (1, rows cf_f32 l1307), some (1, rows cf_f32 l1308), some (8, rows cT47 l1309), some (4, rows cT49 l1310), some (2, [[.sl 1 (rows cs_ r1553.2.list_), .b r1553.2.bad_]]), some (8, [[.i .i64 r1523.1, .i .i64 r1525.1, .f .f32 r1527.1, .f .f32 r1529.1, .f .f32 r1547.1, .f .f32 r1549.1, .f .f32 r1551.1, .f .f32 r1553.1]])] [] hC (VRounds.step (VW.seq (VW.rA (tm 119 [(0, .str text), (2, .ptr 0 0 0), (6, .ptr 5 0 0), (9, .ptr 10 0 0), (10, .ptr 11 0 0), (27, .sl 1 (rows cs_ r1.1)), (28, .i .i64 (r1.1.length : Int)), (29, .i .i64 x_1306), (68, .i .i64 4), (69, .b false)]) [some (4, [[.ref 1 0 0, .ref 2 0 0, .ref 3 0 0, .ref 4 0 0]]), some (1, rows cf_f32 []), some (1, rows cf_f32 []), some (8, rows cT47 []), some (4, rows cT49 []), some (4, [[.ref 6 0 l1307.length, .ref 7 0 l1308.length, .ref 8 0 l1309.length, .ref 9 0 l1310.length]]), some (1, rows cf_f32 l1307), some (1, rows cf_f32 l1308), some (8, rows cT47 l1309), some (4, rows cT49 l1310), some (2, [[.sl 1 (rows cs_ r1553.2.list_), .b r1553.2.bad_]]), some (8, [[.i .i64 r1523.1, .i .i64 r1525.1, .f .f32 r1527.1, .f .f32 r1529.1, .f .f32 r1547.1, .f .f32 r1549.1, .f .f32 r1551.1, .f .f32 r1553.1]])] [] hC (VW.seq (VW.condF (by simp) (VW.exit (vnext (r1553.2.list_, r1553.2.bad_, r1547.1, r1549.1, r1551.1, r1553.1) h1 (Ent.tu 12))))) (h := by simp -implicitDefEqProofs [(by decide : ltI 4 4 = false)])))) (h := by simp -implicitDefEqProofs [(by decide : aI .i64 3 1 = 4)]))
       rintro ⟨y1539, y1540, y1541, y1542, y1543, y1544⟩ h1
       replace h1 : (g5_j4 l1309 r1523 r1525 r1527 r1529 x_1306 l1307 l1308 l1310 y1539 y1540 y1541 y1542 y1543 y1544).bind _ = _ := h1
       rw [g5_j4] at h1
       obtain ⟨u1545, ⟨f1546a, f1546b⟩, h1⟩ := bindP h1
       try simp only [Int.toNat_natCast, Int.reduceToNat, List.length_cons, List.length_nil, Nat.reduceAdd, Nat.zero_add] at f1546a f1546b
       exact VW.evalM (CM := [(15, F15), (16, F16), (17, F17), (18, F18)]) (tm 119 [(0, .str text), (2, .ptr 0 0 0), (6, .ptr 5 0 0), (9, .ptr 10 0 0), (27, .sl 1 (rows cs_ r1.1)), (28, .i .i64 (r1.1.length : Int)), (29, .i .i64 x_1306)]) [some (4, [[.ref 1 0 0, .ref 2 0 0, .ref 3 0 0, .ref 4 0 0]]), some (1, rows cf_f32 []), some (1, rows cf_f32 []), some (8, rows cT47 []), some (4, rows cT49 []), some (4, [[.ref 6 0 l1307.length, .ref 7 0 l1308.length, .ref 8 0 (l1309 ++ [(⟨r1523.1, r1525.1, r1527.1, r1529.1, (⟨y1541, y1542, y1543, y1544⟩ : T46)⟩ : T47)]).length, .ref 9 0 l1310.length]]), some (1, rows cf_f32 l1307), some (1, rows cf_f32 l1308), some (8, rows cT47 (l1309 ++ [(⟨r1523.1, r1525.1, r1527.1, r1529.1, (⟨y1541, y1542, y1543, y1544⟩ : T46)⟩ : T47)])), some (4, rows cT49 l1310), some (2, [[.sl 1 (rows cs_ y1539), .b y1540]]), some (8, [[.i .i64 r1523.1, .i .i64 r1525.1, .f .f32 r1527.1, .f .f32 r1529.1, .f .f32 y1541, .f .f32 y1542, .f .f32 y1543, .f .f32 y1544]]), some (8, rows cT47 [(⟨r1523.1, r1525.1, r1527.1, r1529.1, (⟨y1541, y1542, y1543, y1544⟩ : T46)⟩ : T47)])] [] hC ⟨ok15, ok16, ok17, ok18, trivial⟩ (by simp -implicitDefEqProofs [f1546a, f1546b]) (vnext (l1307, l1308, (l1309 ++ [(⟨r1523.1, r1525.1, r1527.1, r1529.1, (⟨y1541, y1542, y1543, y1544⟩ : T46)⟩ : T47)]), l1310, y1539, y1540) h1 (Ent.tu 11))
     rintro ⟨l1502, l1503, l1504, l1505, y1506, y1507⟩ h1
     replace h1 : (g5_j3 x_1306 l1502 l1503 l1504 l1505 y1506 y1507).bind _ = _ := h1
     rw [g5_j3] at h1
     refine VW.seq ?_
     obtain ⟨r1508, q1509, h1⟩ := bindE h1
     have c1509 : F19 [.cptr [.sl 1 (rows cs_ ((⟨y1506, y1507⟩ : T73).list_)), .b ((⟨y1506, y1507⟩ : T73).bad_)] 0] = some (.b r1508) := tells_eq inj19 (a := (⟨y1506, y1507⟩ : T73)) q1509
     refine VW.rA (tm 119 [(0, .str text), (2, .ptr 0 0 0), (6, .ptr 5 0 0), (27, .sl 1 (rows cs_ r1.1)), (28, .i .i64 (r1.1.length : Int)), (29, .i .i64 x_1306), (105, .b (!r1508))]) [some (4, [[.ref 1 0 0, .ref 2 0 0, .ref 3 0 0, .ref 4 0 0]]), some (1, rows cf_f32 []), some (1, rows cf_f32 []), some (8, rows cT47 []), some (4, rows cT49 []), some (4, [[.ref 6 0 l1502.length, .ref 7 0 l1503.length, .ref 8 0 l1504.length, .ref 9 0 l1505.length]]), some (1, rows cf_f32 l1502), some (1, rows cf_f32 l1503), some (8, rows cT47 l1504), some (4, rows cT49 l1505), some (2, [[.sl 1 (rows cs_ y1506), .b y1507]])] [] hC (VW.condJ h1 (fun h1 => ?_) (fun h1 => ?_)) (h := by simp -implicitDefEqProofs [c1509])
     · exact VW.skip (vnext (l1502, l1503, l1504, l1505) h1 (Ent.tu 10))
     refine VW.seq (VW.rE (tm 119 [(2, .ptr 0 0 0), (3, .i .i64 5)]) [some (4, [[.nil, .nil, .nil, .nil]]), some (1, rows cf_f32 []), some (1, rows cf_f32 []), some (8, rows cT47 []), some (4, rows cT49 []), some (4, [[.ref 6 0 l1502.length, .ref 7 0 l1503.length, .ref 8 0 l1504.length, .ref 9 0 l1505.length]]), some (1, rows cf_f32 l1502), some (1, rows cf_f32 l1503), some (8, rows cT47 l1504), some (4, rows cT49 l1505), some (2, [[.sl 1 (rows cs_ y1506), .b y1507]])] [] hC (Ent.trans (Ent.nilref (m := [some (4, [[.nil, .nil, .nil, .nil]]), some (1, rows cf_f32 []), some (1, rows cf_f32 []), some (8, rows cT47 []), some (4, rows cT49 []), some (4, [[.ref 6 0 l1502.length, .ref 7 0 l1503.length, .ref 8 0 l1504.length, .ref 9 0 l1505.length]]), some (1, rows cf_f32 l1502), some (1, rows cf_f32 l1503), some (8, rows cT47 l1504), some (4, rows cT49 l1505), some (2, [[.sl 1 (rows cs_ y1506), .b y1507]])]) 0 1 [some (4, [[.ref 11 0 0, .nil, .nil, .nil]]), some (1, rows cf_f32 []), some (1, rows cf_f32 []), some (8, rows cT47 []), some (4, rows cT49 []), some (4, [[.ref 6 0 l1502.length, .ref 7 0 l1503.length, .ref 8 0 l1504.length, .ref 9 0 l1505.length]]), some (1, rows cf_f32 l1502), some (1, rows cf_f32 l1503), some (8, rows cT47 l1504), some (4, rows cT49 l1505), some (2, [[.sl 1 (rows cs_ y1506), .b y1507]]), some (1, rows cf_f32 [])] rfl (by simp) rfl) (Ent.trans (Ent.nilref (m := [some (4, [[.ref 11 0 0, .nil, .nil, .nil]]), some (1, rows cf_f32 []), some (1, rows cf_f32 []), some (8, rows cT47 []), some (4, rows cT49 []), some (4, [[.ref 6 0 l1502.length, .ref 7 0 l1503.length, .ref 8 0 l1504.length, .ref 9 0 l1505.length]]), some (1, rows cf_f32 l1502), some (1, rows cf_f32 l1503), some (8, rows cT47 l1504), some (4, rows cT49 l1505), some (2, [[.sl 1 (rows cs_ y1506), .b y1507]]), some (1, rows cf_f32 [])]) 0 1 [some (4, [[.ref 11 0 0, .ref 12 0 0, .nil, .nil]]), some (1, rows cf_f32 []), some (1, rows cf_f32 []), some (8, rows cT47 []), some (4, rows cT49 []), some (4, [[.ref 6 0 l1502.length, .ref 7 0 l1503.length, .ref 8 0 l1504.length, .ref 9 0 l1505.length]]), some (1, rows cf_f32 l1502), some (1, rows cf_f32 l1503), some (8, rows cT47 l1504), some (4, rows cT49 l1505), some (2, [[.sl 1 (rows cs_ y1506), .b y1507]]), some (1, rows cf_f32 []), some (1, rows cf_f32 [])] rfl (by simp) rfl) (Ent.trans (Ent.nilref (m := [some (4, [[.ref 11 0 0, .ref 12 0 0, .nil, .nil]]), some (1, rows cf_f32 []), some (1, rows cf_f32 []), some (8, rows cT47 []), some (4, rows cT49 []), some (4, [[.ref 6 0 l1502.length, .ref 7 0 l1503.length, .ref 8 0 l1504.length, .ref 9 0 l1505.length]]), some (1, rows cf_f32 l1502), some (1, rows cf_f32 l1503), some (8, rows cT47 l1504), some (4, rows cT49 l1505), some (2, [[.sl 1 (rows cs_ y1506), .b y1507]]), some (1, rows cf_f32 []), some (1, rows cf_f32 [])]) 0 8 [some (4, [[.ref 11 0 0, .ref 12 0 0, .ref 13 0 0, .nil]]), some (1, rows cf_f32 []), some (1, rows cf_f32 []), some (8, rows cT47 []), some (4, rows cT49 []), some (4, [[.ref 6 0 l1502.length, .ref 7 0 l1503.length, .ref 8 0 l1504.length, .ref 9 0 l1505.length]]), some (1, rows cf_f32 l1502), some (1, rows cf_f32 l1503), some (8, rows cT47 l1504), some (4, rows cT49 l1505), some (2, [[.sl 1 (rows cs_ y1506), .b y1507]]), some (1, rows cf_f32 []), some (1, rows cf_f32 []), some (8, rows cT47 [])] rfl (by simp) rfl) (Ent.nilref (m := [some (4, [[.ref 11 0 0, .ref 12 0 0, .ref 13 0 0, .nil]]), some (1, rows cf_f32 []), some (1, rows cf_f32 []), some (8, rows cT47 []), some (4, rows cT49 []), some (4, [[.ref 6 0 l1502.length, .ref 7 0 l1503.length, .ref 8 0 l1504.length, .ref 9 0 l1505.length]]), some (1, rows cf_f32 l1502), some (1, rows cf_f32 l1503), some (8, rows cT47 l1504), some (4, rows cT49 l1505), some (2, [[.sl 1 (rows cs_ y1506), .b y1507]]), some (1, rows cf_f32 []), some (1, rows cf_f32 []), some (8, rows cT47 [])]) 0 4 [some (4, [[.ref 11 0 0, .ref 12 0 0, .ref 13 0 0, .ref 14 0 0]]), some (1, rows cf_f32 []), some (1, rows cf_f32 []), some (8, rows cT47 []), some (4, rows cT49 []), some (4, [[.ref 6 0 l1502.length, .ref 7 0 l1503.length, .ref 8 0 l1504.length, .ref 9 0 l1505.length]]), some (1, rows cf_f32 l1502), some (1, rows cf_f32 l1503), some (8, rows cT47 l1504), some (4, rows cT49 l1505), some (2, [[.sl 1 (rows cs_ y1506), .b y1507]]), some (1, rows cf_f32 []), some (1, rows cf_f32 []), some (8, rows cT47 []), some (4, rows cT49 [])] rfl (by simp) rfl) ) ) ) ?_)
     have e_ := leafR h1
     subst w_1
     obtain rfl := leafS h
     exact VW.ret (VRet.fin (by simp [eB5]))
   rintro ⟨l1437, l1438, l1439, l1440⟩ h1
   replace h1 : (g5_j2 x_1306 l1437 l1438 l1439 l1440).bind _ = _ := h1
   rw [g5_j2] at h1
   exact VW.rA (tm 119 [(0, .str text), (2, .ptr 0 0 0), (6, .ptr 5 0 0), (27, .sl 1 (rows cs_ r1.1)), (28, .i .i64 (r1.1.length : Int)), (29, .i .i64 (aI .i64 x_1306 1))]) [some (4, [[.ref 1 0 0, .ref 2 0 0, .ref 3 0 0, .ref 4 0 0]]), some (1, rows cf_f32 []), some (1, rows cf_f32 []), some (8, rows cT47 []), some (4, rows cT49 []), some (4, [[.ref 6 0 l1437.length, .ref 7 0 l1438.length, .ref 8 0 l1439.length, .ref 9 0 l1440.length]]), some (1, rows cf_f32 l1437), some (1, rows cf_f32 l1438), some (8, rows cT47 l1439), some (4, rows cT49 l1440)] [] hC (vnext (aI .i64 x_1306 1, l1437, l1438, l1439, l1440) (leafL h1) (Ent.tu 10))
 rintro ⟨l779, l780, l781, l782⟩ h
 replace h : (g5_j1 text l779 l780 l781 l782).bind _ = _ := h
 rw [g5_j1] at h
 refine VW.seq (VW.seq ?_)
 obtain ⟨r783, q784, h⟩ := bindE h
 have c784 : F20 [.agg [.sl 1 (rows cf_f32 ((⟨l779, l780, l781, l782⟩ : T25).heat_)), .sl 1 (rows cf_f32 ((⟨l779, l780, l781, l782⟩ : T25).store_)), .sl 8 (rows cT47 ((⟨l779, l780, l781, l782⟩ : T25).walls_)), .sl 4 (rows cT49 ((⟨l779, l780, l781, l782⟩ : T25).panes_))]] = some (.b r783) := tells_eq inj20 (a := (⟨l779, l780, l781, l782⟩ : T25)) q784
 obtain ⟨w787, q789, h⟩ := bindE h
 refine VW.evalA (tm 119 [(2, .ptr 0 0 0), (6, .ptr 5 0 0), (116, .b w787)]) [some (4, [[.ref 1 0 0, .ref 2 0 0, .ref 3 0 0, .ref 4 0 0]]), some (1, rows cf_f32 []), some (1, rows cf_f32 []), some (8, rows cT47 []), some (4, rows cT49 []), some (4, [[.ref 6 0 l779.length, .ref 7 0 l780.length, .ref 8 0 l781.length, .ref 9 0 l782.length]]), some (1, rows cf_f32 l779), some (1, rows cf_f32 l780), some (8, rows cT47 l781), some (4, rows cT49 l782)] [] hC (by kernel_rfl) (by
     obtain ⟨q790, q789⟩ | ⟨q790, rfl⟩ := gdF q789
     · obtain ⟨r785, q786, q789⟩ := bindQ q789
       have c786 : F21 [.agg [.sl 1 (rows cf_f32 ((⟨l779, l780, l781, l782⟩ : T25).heat_)), .sl 1 (rows cf_f32 ((⟨l779, l780, l781, l782⟩ : T25).store_)), .sl 8 (rows cT47 ((⟨l779, l780, l781, l782⟩ : T25).walls_)), .sl 4 (rows cT49 ((⟨l779, l780, l781, l782⟩ : T25).panes_))]] = some (.str r785) := tells_eq inj21 (a := (⟨l779, l780, l781, l782⟩ : T25)) q786
       obtain rfl := Option.some.inj q789
       simp -implicitDefEqProofs [c784, q790, c786]
     simp -implicitDefEqProofs [c784, q790]) ?_
 refine VW.condJ h (fun h => ?_) (fun h => ?_)
 · refine VW.skip (VW.seq (VW.rA (tm 119 [(2, .ptr 0 0 0), (3, .i .i64 0)]) [some (4, [[.ref 6 0 l779.length, .ref 7 0 l780.length, .ref 8 0 l781.length, .ref 9 0 l782.length]]), some (1, rows cf_f32 []), some (1, rows cf_f32 []), some (8, rows cT47 []), some (4, rows cT49 []), some (4, [[.ref 6 0 l779.length, .ref 7 0 l780.length, .ref 8 0 l781.length, .ref 9 0 l782.length]]), some (1, rows cf_f32 l779), some (1, rows cf_f32 l780), some (8, rows cT47 l781), some (4, rows cT49 l782)] [] hC ?_))
   obtain rfl := leafS h
   exact VW.ret (VRet.fin (by simp [eB5]))
 refine VW.seq (VW.rE (tm 119 [(2, .ptr 0 0 0), (3, .i .i64 5)]) [some (4, [[.nil, .nil, .nil, .nil]]), some (1, rows cf_f32 []), some (1, rows cf_f32 []), some (8, rows cT47 []), some (4, rows cT49 []), some (4, [[.ref 6 0 l779.length, .ref 7 0 l780.length, .ref 8 0 l781.length, .ref 9 0 l782.length]]), some (1, rows cf_f32 l779), some (1, rows cf_f32 l780), some (8, rows cT47 l781), some (4, rows cT49 l782)] [] hC (Ent.trans (Ent.nilref (m := [some (4, [[.nil, .nil, .nil, .nil]]), some (1, rows cf_f32 []), some (1, rows cf_f32 []), some (8, rows cT47 []), some (4, rows cT49 []), some (4, [[.ref 6 0 l779.length, .ref 7 0 l780.length, .ref 8 0 l781.length, .ref 9 0 l782.length]]), some (1, rows cf_f32 l779), some (1, rows cf_f32 l780), some (8, rows cT47 l781), some (4, rows cT49 l782)]) 0 1 [some (4, [[.ref 10 0 0, .nil, .nil, .nil]]), some (1, rows cf_f32 []), some (1, rows cf_f32 []), some (8, rows cT47 []), some (4, rows cT49 []), some (4, [[.ref 6 0 l779.length, .ref 7 0 l780.length, .ref 8 0 l781.length, .ref 9 0 l782.length]]), some (1, rows cf_f32 l779), some (1, rows cf_f32 l780), some (8, rows cT47 l781), some (4, rows cT49 l782), some (1, rows cf_f32 [])] rfl (by simp) rfl) (Ent.trans (Ent.nilref (m := [some (4, [[.ref 10 0 0, .nil, .nil, .nil]]), some (1, rows cf_f32 []), some (1, rows cf_f32 []), some (8, rows cT47 []), some (4, rows cT49 []), some (4, [[.ref 6 0 l779.length, .ref 7 0 l780.length, .ref 8 0 l781.length, .ref 9 0 l782.length]]), some (1, rows cf_f32 l779), some (1, rows cf_f32 l780), some (8, rows cT47 l781), some (4, rows cT49 l782), some (1, rows cf_f32 [])]) 0 1 [some (4, [[.ref 10 0 0, .ref 11 0 0, .nil, .nil]]), some (1, rows cf_f32 []), some (1, rows cf_f32 []), some (8, rows cT47 []), some (4, rows cT49 []), some (4, [[.ref 6 0 l779.length, .ref 7 0 l780.length, .ref 8 0 l781.length, .ref 9 0 l782.length]]), some (1, rows cf_f32 l779), some (1, rows cf_f32 l780), some (8, rows cT47 l781), some (4, rows cT49 l782), some (1, rows cf_f32 []), some (1, rows cf_f32 [])] rfl (by simp) rfl) (Ent.trans (Ent.nilref (m := [some (4, [[.ref 10 0 0, .ref 11 0 0, .nil, .nil]]), some (1, rows cf_f32 []), some (1, rows cf_f32 []), some (8, rows cT47 []), some (4, rows cT49 []), some (4, [[.ref 6 0 l779.length, .ref 7 0 l780.length, .ref 8 0 l781.length, .ref 9 0 l782.length]]), some (1, rows cf_f32 l779), some (1, rows cf_f32 l780), some (8, rows cT47 l781), some (4, rows cT49 l782), some (1, rows cf_f32 []), some (1, rows cf_f32 [])]) 0 8 [some (4, [[.ref 10 0 0, .ref 11 0 0, .ref 12 0 0, .nil]]), some (1, rows cf_f32 []), some (1, rows cf_f32 []), some (8, rows cT47 []), some (4, rows cT49 []), some (4, [[.ref 6 0 l779.length, .ref 7 0 l780.length, .ref 8 0 l781.length, .ref 9 0 l782.length]]), some (1, rows cf_f32 l779), some (1, rows cf_f32 l780), some (8, rows cT47 l781), some (4, rows cT49 l782), some (1, rows cf_f32 []), some (1, rows cf_f32 []), some (8, rows cT47 [])] rfl (by simp) rfl) (Ent.nilref (m := [some (4, [[.ref 10 0 0, .ref 11 0 0, .ref 12 0 0, .nil]]), some (1, rows cf_f32 []), some (1, rows cf_f32 []), some (8, rows cT47 []), some (4, rows cT49 []), some (4, [[.ref 6 0 l779.length, .ref 7 0 l780.length, .ref 8 0 l781.length, .ref 9 0 l782.length]]), some (1, rows cf_f32 l779), some (1, rows cf_f32 l780), some (8, rows cT47 l781), some (4, rows cT49 l782), some (1, rows cf_f32 []), some (1, rows cf_f32 []), some (8, rows cT47 [])]) 0 4 [some (4, [[.ref 10 0 0, .ref 11 0 0, .ref 12 0 0, .ref 13 0 0]]), some (1, rows cf_f32 []), some (1, rows cf_f32 []), some (8, rows cT47 []), some (4, rows cT49 []), some (4, [[.ref 6 0 l779.length, .ref 7 0 l780.length, .ref 8 0 l781.length, .ref 9 0 l782.length]]), some (1, rows cf_f32 l779), some (1, rows cf_f32 l780), some (8, rows cT47 l781), some (4, rows cT49 l782), some (1, rows cf_f32 []), some (1, rows cf_f32 []), some (8, rows cT47 []), some (4, rows cT49 [])] rfl (by simp) rfl) ) ) ) ?_)
 obtain rfl := leafS h
 exact VW.ret (VRet.fin (by simp [eB5]))
theorem tl5 {text : ByteArray} {r : T25 × Int} (h : g5 text = some r) : F5 [.str text] = some (.tup [.agg [.own 1 (rows cf_f32 r.1.heat_), .own 1 (rows cf_f32 r.1.store_), .own 8 (rows cT47 r.1.walls_), .own 4 (rows cT49 r.1.panes_)], .i .i64 r.2]) := tells_eq inj5 (a := text) h
noncomputable def g53 (a : F32) (b : F32) : Option (Bool) :=
if (neF .f64 a a || neF .f64 b b) = true then
some (neF .f64 a a && neF .f64 b b)
else
if (eqF .f64 a (some 0) && eqF .f64 b (some 0)) = true then
some ((gtF .f64 (quoF .f64 (some 4607182418800017408) a) (some 0)) == (gtF .f64 (quoF .f64 (some 4607182418800017408) b) (some 0)))
else
some (eqF .f64 a b)
def eA53 (a : F32 × F32) : List V := [.f .f64 a.1, .f .f64 a.2]
def eB53 (r : Bool) : V := .b r
theorem inj53 (a a' : F32 × F32) (h : eA53 a = eA53 a') : a = a' := by
  obtain ⟨i223, i224⟩ := a
  obtain ⟨i225, i226⟩ := a'
  simp only [eA53, List.cons.injEq, V.i.injEq, V.b.injEq, V.f.injEq, V.str.injEq, V.sl.injEq, V.agg.injEq, V.cptr.injEq, true_and, and_true] at h
  simp_all
noncomputable def F53 : List V → Option V := tells (fun a => g53 a.1 a.2) eA53 eB53
/- loop.example/g01229/laws.sameFloat -/
theorem ok53 : Tells Tryz.prog 53 F53 := by
 refine Tells.go 37 Tryz.func53 rfl rfl rfl (by kernel_rfl) (fun _ => rfl) ?_
 rintro ⟨a, b⟩ r h
 simp only [eA53, en, Nat.reduceAdd]
 replace h : (g53 a b).bind some = some r := bindS h
 rw [g53] at h
 have hC : CEnv.Ok Tryz.prog [] := trivial
 refine VW.seq (VW.rA (tm 37 [(0, .f .f64 a), (1, .f .f64 b)]) [] [] hC (VW.seq (VW.seq (VW.rA (tm 37 [(0, .f .f64 a), (1, .f .f64 b), (12, .b (neF .f64 a a || neF .f64 b b))]) [] [] hC (VW.condI h (fun h => ?_) (fun h => ?_))))))
 · refine VW.seq (VW.rA (tm 37 [(4, .b (neF .f64 a a && neF .f64 b b))]) [] [] hC ?_)
   obtain rfl := leafS h
   exact VW.ret (VRet.fin (by simp [eB53]))
 refine VW.skip (VW.seq (VW.seq (VW.rA (tm 37 [(0, .f .f64 a), (1, .f .f64 b), (26, .b (eqF .f64 a (some 0) && eqF .f64 b (some 0)))]) [] [] hC (VW.condJ h (fun h => ?_) (fun h => ?_)))))
 · refine VW.skip (VW.seq (VW.rA (tm 37 [(4, .b (eqF .f64 a b))]) [] [] hC ?_))
   obtain rfl := leafS h
   exact VW.ret (VRet.fin (by simp [eB53]))
 refine VW.seq (VW.rA (tm 37 [(4, .b ((gtF .f64 (quoF .f64 (some 4607182418800017408) a) (some 0)) == (gtF .f64 (quoF .f64 (some 4607182418800017408) b) (some 0))))]) [] [] hC ?_)
 obtain rfl := leafS h
 exact VW.ret (VRet.fin (by simp [eB53]))
theorem tl53 {a : F32} {b : F32} {r : Bool} (h : g53 a b = some r) : F53 [.f .f64 a, .f .f64 b] = some (.b r) := tells_eq inj53 (a := (a, b)) h
noncomputable def g22_j1 : Option (Bool) :=
some true
noncomputable def g22_L1 (a : List F32) (b : List F32) : (Int) → Option ((Int) ⊕ ((Unit) ⊕ (Bool)))
| i_45 =>
if ltI i_45 (a.length : Int) = true then
(idx a i_45).bind fun e47 =>
(idx b i_45).bind fun e49 =>
(g53 (wide e47) (wide e49)).bind fun r51 =>
if (!r51) = true then
some (.inr (.inr false))
else
some (.inl (aI .i64 i_45 1))
else
some (.inr (.inl ()))
noncomputable def g22 (a : List F32) (b : List F32) : Option (Bool) :=
if (!eqI (a.length : Int) (b.length : Int)) = true then
some false
else
(loopO (g22_L1 a b) 0).bind fun w => match w with
| .inl y => g22_j1
| .inr r => some r
def eA22 (a : (List F32) × (List F32)) : List V := [.sl 1 (rows cf_f32 a.1), .sl 1 (rows cf_f32 a.2)]
def eB22 (r : Bool) : V := .b r
theorem inj22 (a a' : (List F32) × (List F32)) (h : eA22 a = eA22 a') : a = a' := by
  obtain ⟨i227, i228⟩ := a
  obtain ⟨i229, i230⟩ := a'
  simp only [eA22, List.cons.injEq, V.i.injEq, V.b.injEq, V.f.injEq, V.str.injEq, V.sl.injEq, V.agg.injEq, V.cptr.injEq, true_and, and_true] at h
  simp_all [ri cf_f32_inj]
noncomputable def F22 : List V → Option V := tells (fun a => g22 a.1 a.2) eA22 eB22
/- loop.example/g01229/laws.eqFloat32S -/
theorem ok22 : Tells Tryz.prog 22 F22 := by
 refine Tells.go 29 Tryz.func22 rfl rfl rfl (by kernel_rfl) (fun _ => rfl) ?_
 rintro ⟨a, b⟩ r h
 simp only [eA22, en, Nat.reduceAdd]
 replace h : (g22 a b).bind some = some r := bindS h
 rw [g22] at h
 have hC : CEnv.Ok Tryz.prog [(53, F53)] := ⟨.inl ok53, trivial⟩
 refine VW.seq (VW.rA (tm 29 [(0, .sl 1 (rows cf_f32 a)), (1, .sl 1 (rows cf_f32 b))]) [] [] hC (VW.seq (VW.seq (VW.rA (tm 29 [(0, .sl 1 (rows cf_f32 a)), (1, .sl 1 (rows cf_f32 b)), (10, .b (!eqI (a.length : Int) (b.length : Int)))]) [] [] hC (VW.condI h (fun h => ?_) (fun h => ?_))))))
 · refine VW.seq (VW.rA (tm 29 [(4, .b false)]) [] [] hC ?_)
   obtain rfl := leafS h
   exact VW.ret (VRet.fin (by simp [eB22]))
 refine VW.skip (VW.join (fun (v : Unit) => (⟨(tm 29 []), [], []⟩ : VS)) (fun v => (g22_j1).bind some = some r) ?_ ?_)
 · refine VW.seq (VW.rA (tm 29 [(0, .sl 1 (rows cf_f32 a)), (1, .sl 1 (rows cf_f32 b)), (5, .i .i64 0)]) [] [] hC (VW.block ?_))
   obtain ⟨w_1, hw_1, h⟩ := bindE h
   refine VW.loopO (fun (x : Int) => (⟨(tm 29 [(0, .sl 1 (rows cf_f32 a)), (1, .sl 1 (rows cf_f32 b)), (5, .i .i64 x)]), [], []⟩ : VS)) hw_1 (Ent.tu 0) ?_
   rintro n_1 i_45 h1
   rw [g22_L1] at h1
   refine VW.seq (VW.seq (VW.rA (tm 29 [(0, .sl 1 (rows cf_f32 a)), (1, .sl 1 (rows cf_f32 b)), (5, .i .i64 i_45), (14, .b (ltI i_45 (a.length : Int)))]) [] [] hC (VW.condJ h1 (fun h1 => ?_) (fun h1 => ?_))))
   · refine VW.exit ?_
     have e_ := leafR h1
     subst w_1
     exact vnext () h (Ent.tu 0)
   refine VW.skip (VW.seq (VW.block (VW.seq ?_)))
   obtain ⟨e47, ⟨f48a, f48b, f48c, f48d⟩, h1⟩ := bindI h1
   obtain ⟨e49, ⟨f50a, f50b, f50c, f50d⟩, h1⟩ := bindI h1
   obtain ⟨r51, q52, h1⟩ := bindE h1
   have c52 := tl53 q52
   refine VW.rD (tm 29 [(0, .sl 1 (rows cf_f32 a)), (1, .sl 1 (rows cf_f32 b)), (5, .i .i64 i_45), (28, .b (!r51))]) [] [] hC mixed (VW.condI h1 (fun h1 => ?_) (fun h1 => ?_)) (h := by simp -implicitDefEqProofs [f48a, f48b, f48c, f48d, f50a, f50b, f50c, f50d, c52])
   · refine VW.seq (VW.rA (tm 29 [(4, .b false)]) [] [] hC ?_)
     have e_ := leafR h1
     subst w_1
     obtain rfl := leafS h
     exact VW.ret (VRet.fin (by simp [eB22]))
   exact VW.skip (VW.rA (tm 29 [(0, .sl 1 (rows cf_f32 a)), (1, .sl 1 (rows cf_f32 b)), (5, .i .i64 (aI .i64 i_45 1))]) [] [] hC (vnext (aI .i64 i_45 1) (leafL h1) (Ent.tu 0)))
 rintro _ h
 replace h : (g22_j1).bind _ = _ := h
 rw [g22_j1] at h
 refine VW.seq (VW.rA (tm 29 [(4, .b true)]) [] [] hC ?_)
 obtain rfl := leafS h
 exact VW.ret (VRet.fin (by simp [eB22]))
theorem tl22 {a : List F32} {b : List F32} {r : Bool} (h : g22 a b = some r) : F22 [.sl 1 (rows cf_f32 a), .sl 1 (rows cf_f32 b)] = some (.b r) := tells_eq inj22 (a := (a, b)) h
noncomputable def g74_j1 : Option (Bool) :=
some true
noncomputable def g74 (a : T46) (b : T46) : Option (Bool) :=
(g53 (wide a.a0_) (wide b.a0_)).bind fun r13 =>
if (!r13) = true then
some false
else
(g53 (wide a.a1_) (wide b.a1_)).bind fun r16 =>
if (!r16) = true then
some false
else
(g53 (wide a.a2_) (wide b.a2_)).bind fun r19 =>
if (!r19) = true then
some false
else
(g53 (wide a.a3_) (wide b.a3_)).bind fun r22 =>
if (!r22) = true then
some false
else
g74_j1
def eA74 (a : T46 × T46) : List V := [.agg (pT46 a.1), .agg (pT46 a.2)]
def eB74 (r : Bool) : V := .b r
theorem inj74 (a a' : T46 × T46) (h : eA74 a = eA74 a') : a = a' := by
  obtain ⟨⟨i239, i240, i241, i242⟩, ⟨i243, i244, i245, i246⟩⟩ := a
  obtain ⟨⟨i247, i248, i249, i250⟩, ⟨i251, i252, i253, i254⟩⟩ := a'
  simp only [eA74, pT46, List.cons.injEq, V.i.injEq, V.b.injEq, V.f.injEq, V.str.injEq, V.sl.injEq, V.agg.injEq, V.cptr.injEq, true_and, and_true] at h
  simp_all
noncomputable def F74 : List V → Option V := tells (fun a => g74 a.1 a.2) eA74 eB74
/- loop.example/g01229/laws.eqFloat32A4 -/
theorem ok74 : Tells Tryz.prog 74 F74 := by
 refine Tells.go 20 Tryz.func74 rfl rfl rfl (by kernel_rfl) (fun _ => rfl) ?_
 rintro ⟨a, b⟩ r h
 simp only [eA74, en, Nat.reduceAdd]
 replace h : (g74 a b).bind some = some r := bindS h
 rw [g74] at h
 have hC : CEnv.Ok Tryz.prog [(53, F53)] := ⟨.inl ok53, trivial⟩
 refine VW.seq (VW.rA (tm 20 [(2, .ptr 0 0 0), (3, .ptr 1 0 0)]) [some (4, [(pT46 a)]), some (4, [(pT46 b)])] [] hC (VW.join (fun (v : Unit) => (⟨(tm 20 []), [some (4, [(pT46 a)]), some (4, [(pT46 b)])], []⟩ : VS)) (fun v => (g74_j1).bind some = some r) ?_ ?_))
 · refine VW.seq (VW.rA (tm 20 [(2, .ptr 0 0 0), (3, .ptr 1 0 0), (5, .i .i64 0)]) [some (4, [(pT46 a)]), some (4, [(pT46 b)])] [] hC (VW.block (VW.rounds 6 (VRounds.step (VW.seq (VW.seq (VW.rA (tm 20 [(2, .ptr 0 0 0), (3, .ptr 1 0 0), (5, .i .i64 0), (7, .b true)]) [some (4, [(pT46 a)]), some (4, [(pT46 b)])] [] hC (VW.condT (by simp) (VW.skip (VW.seq (VW.block (VW.seq ?_))))) (h := by simp -implicitDefEqProofs [(by decide : ltI 0 4 = true)]))))))))
   obtain ⟨r13, q14, h⟩ := bindE h
   have c14 := tl53 q14
   refine VW.rD (tm 20 [(2, .ptr 0 0 0), (3, .ptr 1 0 0), (5, .i .i64 0), (19, .b (!r13))]) [some (4, [(pT46 a)]), some (4, [(pT46 b)])] [] hC mixed (VW.condI h (fun h => ?_) (fun h => ?_)) (h := by simp -implicitDefEqProofs [c14])
   · refine VW.seq (VW.rA (tm 20 [(4, .b false)]) [some (4, [(pT46 a)]), some (4, [(pT46 b)])] [] hC ?_)
     obtain rfl := leafS h
     exact VW.ret (VRet.fin (by simp [eB74]))
   refine VW.skip (VW.rA (tm 20 [(2, .ptr 0 0 0), (3, .ptr 1 0 0), (5, .i .i64 1)]) [some (4, [(pT46 a)]), some (4, [(pT46 b)])] [] hC (VRounds.step (VW.seq (VW.seq (VW.rA (tm 20 [(2, .ptr 0 0 0), (3, .ptr 1 0 0), (5, .i .i64 1), (7, .b true)]) [some (4, [(pT46 a)]), some (4, [(pT46 b)])] [] hC (VW.condT (by simp) (VW.skip (VW.seq (VW.block (VW.seq ?_))))) (h := by simp -implicitDefEqProofs [(by decide : ltI 1 4 = true)]))))) (h := by simp -implicitDefEqProofs [(by decide : aI .i64 0 1 = 1)]))
   obtain ⟨r16, q17, h⟩ := bindE h
   have c17 := tl53 q17
   refine VW.rD (tm 20 [(2, .ptr 0 0 0), (3, .ptr 1 0 0), (5, .i .i64 1), (19, .b (!r16))]) [some (4, [(pT46 a)]), some (4, [(pT46 b)])] [] hC mixed (VW.condI h (fun h => ?_) (fun h => ?_)) (h := by simp -implicitDefEqProofs [c17])
   · refine VW.seq (VW.rA (tm 20 [(4, .b false)]) [some (4, [(pT46 a)]), some (4, [(pT46 b)])] [] hC ?_)
     obtain rfl := leafS h
     exact VW.ret (VRet.fin (by simp [eB74]))
   refine VW.skip (VW.rA (tm 20 [(2, .ptr 0 0 0), (3, .ptr 1 0 0), (5, .i .i64 2)]) [some (4, [(pT46 a)]), some (4, [(pT46 b)])] [] hC (VRounds.step (VW.seq (VW.seq (VW.rA (tm 20 [(2, .ptr 0 0 0), (3, .ptr 1 0 0), (5, .i .i64 2), (7, .b true)]) [some (4, [(pT46 a)]), some (4, [(pT46 b)])] [] hC (VW.condT (by simp) (VW.skip (VW.seq (VW.block (VW.seq ?_))))) (h := by simp -implicitDefEqProofs [(by decide : ltI 2 4 = true)]))))) (h := by simp -implicitDefEqProofs [(by decide : aI .i64 1 1 = 2)]))
   obtain ⟨r19, q20, h⟩ := bindE h
   have c20 := tl53 q20
   refine VW.rD (tm 20 [(2, .ptr 0 0 0), (3, .ptr 1 0 0), (5, .i .i64 2), (19, .b (!r19))]) [some (4, [(pT46 a)]), some (4, [(pT46 b)])] [] hC mixed (VW.condI h (fun h => ?_) (fun h => ?_)) (h := by simp -implicitDefEqProofs [c20])
   · refine VW.seq (VW.rA (tm 20 [(4, .b false)]) [some (4, [(pT46 a)]), some (4, [(pT46 b)])] [] hC ?_)
     obtain rfl := leafS h
     exact VW.ret (VRet.fin (by simp [eB74]))
   refine VW.skip (VW.rA (tm 20 [(2, .ptr 0 0 0), (3, .ptr 1 0 0), (5, .i .i64 3)]) [some (4, [(pT46 a)]), some (4, [(pT46 b)])] [] hC (VRounds.step (VW.seq (VW.seq (VW.rA (tm 20 [(2, .ptr 0 0 0), (3, .ptr 1 0 0), (5, .i .i64 3), (7, .b true)]) [some (4, [(pT46 a)]), some (4, [(pT46 b)])] [] hC (VW.condT (by simp) (VW.skip (VW.seq (VW.block (VW.seq ?_))))) (h := by simp -implicitDefEqProofs [(by decide : ltI 3 4 = true)]))))) (h := by simp -implicitDefEqProofs [(by decide : aI .i64 2 1 = 3)]))
   obtain ⟨r22, q23, h⟩ := bindE h
   have c23 := tl53 q23
   refine VW.rD (tm 20 [(2, .ptr 0 0 0), (3, .ptr 1 0 0), (5, .i .i64 3), (19, .b (!r22))]) [some (4, [(pT46 a)]), some (4, [(pT46 b)])] [] hC mixed (VW.condI h (fun h => ?_) (fun h => ?_)) (h := by simp -implicitDefEqProofs [c23])
   · refine VW.seq (VW.rA (tm 20 [(4, .b false)]) [some (4, [(pT46 a)]), some (4, [(pT46 b)])] [] hC ?_)
     obtain rfl := leafS h
     exact VW.ret (VRet.fin (by simp [eB74]))
   exact VW.skip (VW.rA (tm 20 [(2, .ptr 0 0 0), (3, .ptr 1 0 0), (5, .i .i64 4)]) [some (4, [(pT46 a)]), some (4, [(pT46 b)])] [] hC (VRounds.step (VW.seq (VW.seq (VW.rA (tm 20 [(2, .ptr 0 0 0), (3, .ptr 1 0 0), (5, .i .i64 4), (7, .b false)]) [some (4, [(pT46 a)]), some (4, [(pT46 b)])] [] hC (VW.condF (by simp) (VW.exit (vnext () h (Ent.tu 2)))) (h := by simp -implicitDefEqProofs [(by decide : ltI 4 4 = false)]))))) (h := by simp -implicitDefEqProofs [(by decide : aI .i64 3 1 = 4)]))
 rintro _ h
 replace h : (g74_j1).bind _ = _ := h
 rw [g74_j1] at h
 refine VW.seq (VW.rA (tm 20 [(4, .b true)]) [some (4, [(pT46 a)]), some (4, [(pT46 b)])] [] hC ?_)
 obtain rfl := leafS h
 exact VW.ret (VRet.fin (by simp [eB74]))
theorem tl74 {a : T46} {b : T46} {r : Bool} (h : g74 a b = some r) : F74 [.agg [.f .f32 a.a0_, .f .f32 a.a1_, .f .f32 a.a2_, .f .f32 a.a3_], .agg [.f .f32 b.a0_, .f .f32 b.a1_, .f .f32 b.a2_, .f .f32 b.a3_]] = some (.b r) := tells_eq inj74 (a := (a, b)) h
noncomputable def g54 (a : T47) (b : T47) : Option (Bool) :=
if (!eqI a.a_ b.a_) = true then
some false
else
if (!eqI a.b_ b.b_) = true then
some false
else
(g53 (wide a.lead_) (wide b.lead_)).bind fun r3 =>
if (!r3) = true then
some false
else
(g53 (wide a.store_) (wide b.store_)).bind fun r6 =>
if (!r6) = true then
some false
else
(g74 a.heat_ b.heat_).bind fun r9 =>
if (!r9) = true then
some false
else
some true
def eA54 (a : T47 × T47) : List V := [.agg (pT47 a.1), .agg (pT47 a.2)]
def eB54 (r : Bool) : V := .b r
theorem inj54 (a a' : T47 × T47) (h : eA54 a = eA54 a') : a = a' := by
  obtain ⟨⟨i255, i256, i257, i258, ⟨i259, i260, i261, i262⟩⟩, ⟨i263, i264, i265, i266, ⟨i267, i268, i269, i270⟩⟩⟩ := a
  obtain ⟨⟨i271, i272, i273, i274, ⟨i275, i276, i277, i278⟩⟩, ⟨i279, i280, i281, i282, ⟨i283, i284, i285, i286⟩⟩⟩ := a'
  simp only [eA54, pT47, List.cons.injEq, V.i.injEq, V.b.injEq, V.f.injEq, V.str.injEq, V.sl.injEq, V.agg.injEq, V.cptr.injEq, true_and, and_true] at h
  simp_all
noncomputable def F54 : List V → Option V := tells (fun a => g54 a.1 a.2) eA54 eB54
/- loop.example/g01229/laws.eqWall -/
theorem ok54 : Tells Tryz.prog 54 F54 := by
 refine Tells.go 37 Tryz.func54 rfl rfl rfl (by kernel_rfl) (fun _ => rfl) ?_
 rintro ⟨a, b⟩ r h
 simp only [eA54, en, Nat.reduceAdd]
 replace h : (g54 a b).bind some = some r := bindS h
 rw [g54] at h
 have hC : CEnv.Ok Tryz.prog [(53, F53), (74, F74)] := ⟨.inl ok53, .inl ok74, trivial⟩
 refine VW.seq (VW.rA (tm 37 [(2, .ptr 0 0 0), (3, .ptr 1 0 0)]) [some (8, [(pT47 a)]), some (8, [(pT47 b)])] [] hC (VW.seq (VW.seq (VW.rA (tm 37 [(2, .ptr 0 0 0), (3, .ptr 1 0 0), (9, .b (!eqI a.a_ b.a_))]) [some (8, [(pT47 a)]), some (8, [(pT47 b)])] [] hC (VW.condI h (fun h => ?_) (fun h => ?_))))))
 · refine VW.seq (VW.rA (tm 37 [(4, .b false)]) [some (8, [(pT47 a)]), some (8, [(pT47 b)])] [] hC ?_)
   obtain rfl := leafS h
   exact VW.ret (VRet.fin (by simp [eB54]))
 refine VW.skip (VW.seq (VW.seq (VW.rA (tm 37 [(2, .ptr 0 0 0), (3, .ptr 1 0 0), (14, .b (!eqI a.b_ b.b_))]) [some (8, [(pT47 a)]), some (8, [(pT47 b)])] [] hC (VW.condI h (fun h => ?_) (fun h => ?_)))))
 · refine VW.seq (VW.rA (tm 37 [(4, .b false)]) [some (8, [(pT47 a)]), some (8, [(pT47 b)])] [] hC ?_)
   obtain rfl := leafS h
   exact VW.ret (VRet.fin (by simp [eB54]))
 refine VW.skip (VW.seq (VW.seq ?_))
 obtain ⟨r3, q4, h⟩ := bindE h
 have c4 := tl53 q4
 refine VW.rA (tm 37 [(2, .ptr 0 0 0), (3, .ptr 1 0 0), (22, .b (!r3))]) [some (8, [(pT47 a)]), some (8, [(pT47 b)])] [] hC (VW.condI h (fun h => ?_) (fun h => ?_)) (h := by simp -implicitDefEqProofs [c4])
 · refine VW.seq (VW.rA (tm 37 [(4, .b false)]) [some (8, [(pT47 a)]), some (8, [(pT47 b)])] [] hC ?_)
   obtain rfl := leafS h
   exact VW.ret (VRet.fin (by simp [eB54]))
 refine VW.skip (VW.seq (VW.seq ?_))
 obtain ⟨r6, q7, h⟩ := bindE h
 have c7 := tl53 q7
 refine VW.rA (tm 37 [(2, .ptr 0 0 0), (3, .ptr 1 0 0), (30, .b (!r6))]) [some (8, [(pT47 a)]), some (8, [(pT47 b)])] [] hC (VW.condI h (fun h => ?_) (fun h => ?_)) (h := by simp -implicitDefEqProofs [c7])
 · refine VW.seq (VW.rA (tm 37 [(4, .b false)]) [some (8, [(pT47 a)]), some (8, [(pT47 b)])] [] hC ?_)
   obtain rfl := leafS h
   exact VW.ret (VRet.fin (by simp [eB54]))
 refine VW.skip (VW.seq (VW.seq ?_))
 obtain ⟨r9, q10, h⟩ := bindE h
 have c10 := tl74 q10
 refine VW.rA (tm 37 [(36, .b (!r9))]) [some (8, [(pT47 a)]), some (8, [(pT47 b)])] [] hC (VW.condI h (fun h => ?_) (fun h => ?_)) (h := by simp -implicitDefEqProofs [c10])
 · refine VW.seq (VW.rA (tm 37 [(4, .b false)]) [some (8, [(pT47 a)]), some (8, [(pT47 b)])] [] hC ?_)
   obtain rfl := leafS h
   exact VW.ret (VRet.fin (by simp [eB54]))
 refine VW.skip (VW.seq (VW.rA (tm 37 [(4, .b true)]) [some (8, [(pT47 a)]), some (8, [(pT47 b)])] [] hC ?_))
 obtain rfl := leafS h
 exact VW.ret (VRet.fin (by simp [eB54]))
theorem tl54 {a : T47} {b : T47} {r : Bool} (h : g54 a b = some r) : F54 [.agg [.i .i64 a.a_, .i .i64 a.b_, .f .f32 a.lead_, .f .f32 a.store_, .f .f32 a.heat_.a0_, .f .f32 a.heat_.a1_, .f .f32 a.heat_.a2_, .f .f32 a.heat_.a3_], .agg [.i .i64 b.a_, .i .i64 b.b_, .f .f32 b.lead_, .f .f32 b.store_, .f .f32 b.heat_.a0_, .f .f32 b.heat_.a1_, .f .f32 b.heat_.a2_, .f .f32 b.heat_.a3_]] = some (.b r) := tells_eq inj54 (a := (a, b)) h
noncomputable def g23_j1 : Option (Bool) :=
some true
noncomputable def g23_L1 (a : List T47) (b : List T47) : (Int) → Option ((Int) ⊕ ((Unit) ⊕ (Bool)))
| i_45 =>
if ltI i_45 (a.length : Int) = true then
(idx a i_45).bind fun e47 =>
(idx b i_45).bind fun e49 =>
(g54 e47 e49).bind fun r51 =>
if (!r51) = true then
some (.inr (.inr false))
else
some (.inl (aI .i64 i_45 1))
else
some (.inr (.inl ()))
noncomputable def g23 (a : List T47) (b : List T47) : Option (Bool) :=
if (!eqI (a.length : Int) (b.length : Int)) = true then
some false
else
(loopO (g23_L1 a b) 0).bind fun w => match w with
| .inl y => g23_j1
| .inr r => some r
def eA23 (a : (List T47) × (List T47)) : List V := [.sl 8 (rows cT47 a.1), .sl 8 (rows cT47 a.2)]
def eB23 (r : Bool) : V := .b r
theorem inj23 (a a' : (List T47) × (List T47)) (h : eA23 a = eA23 a') : a = a' := by
  obtain ⟨i287, i288⟩ := a
  obtain ⟨i289, i290⟩ := a'
  simp only [eA23, List.cons.injEq, V.i.injEq, V.b.injEq, V.f.injEq, V.str.injEq, V.sl.injEq, V.agg.injEq, V.cptr.injEq, true_and, and_true] at h
  simp_all [ri cT47_inj]
noncomputable def F23 : List V → Option V := tells (fun a => g23 a.1 a.2) eA23 eB23
/- loop.example/g01229/laws.eqWallS -/
theorem ok23 : Tells Tryz.prog 23 F23 := by
 refine Tells.go 27 Tryz.func23 rfl rfl rfl (by kernel_rfl) (fun _ => rfl) ?_
 rintro ⟨a, b⟩ r h
 simp only [eA23, en, Nat.reduceAdd]
 replace h : (g23 a b).bind some = some r := bindS h
 rw [g23] at h
 have hC : CEnv.Ok Tryz.prog [(54, F54)] := ⟨.inl ok54, trivial⟩
 refine VW.seq (VW.rA (tm 27 [(0, .sl 8 (rows cT47 a)), (1, .sl 8 (rows cT47 b))]) [] [] hC (VW.seq (VW.seq (VW.rA (tm 27 [(0, .sl 8 (rows cT47 a)), (1, .sl 8 (rows cT47 b)), (10, .b (!eqI (a.length : Int) (b.length : Int)))]) [] [] hC (VW.condI h (fun h => ?_) (fun h => ?_))))))
 · refine VW.seq (VW.rA (tm 27 [(4, .b false)]) [] [] hC ?_)
   obtain rfl := leafS h
   exact VW.ret (VRet.fin (by simp [eB23]))
 refine VW.skip (VW.join (fun (v : Unit) => (⟨(tm 27 []), [], []⟩ : VS)) (fun v => (g23_j1).bind some = some r) ?_ ?_)
 · refine VW.seq (VW.rA (tm 27 [(0, .sl 8 (rows cT47 a)), (1, .sl 8 (rows cT47 b)), (5, .i .i64 0)]) [] [] hC (VW.block ?_))
   obtain ⟨w_1, hw_1, h⟩ := bindE h
   refine VW.loopO (fun (x : Int) => (⟨(tm 27 [(0, .sl 8 (rows cT47 a)), (1, .sl 8 (rows cT47 b)), (5, .i .i64 x)]), [], []⟩ : VS)) hw_1 (Ent.tu 0) ?_
   rintro n_1 i_45 h1
   rw [g23_L1] at h1
   refine VW.seq (VW.seq (VW.rA (tm 27 [(0, .sl 8 (rows cT47 a)), (1, .sl 8 (rows cT47 b)), (5, .i .i64 i_45), (14, .b (ltI i_45 (a.length : Int)))]) [] [] hC (VW.condJ h1 (fun h1 => ?_) (fun h1 => ?_))))
   · refine VW.exit ?_
     have e_ := leafR h1
     subst w_1
     exact vnext () h (Ent.tu 0)
   refine VW.skip (VW.seq (VW.block (VW.seq ?_)))
   obtain ⟨e47, ⟨f48a, f48b, f48c, f48d⟩, h1⟩ := bindI h1
   obtain ⟨e49, ⟨f50a, f50b, f50c, f50d⟩, h1⟩ := bindI h1
   obtain ⟨r51, q52, h1⟩ := bindE h1
   have c52 := tl54 q52
   refine VW.rD (tm 27 [(0, .sl 8 (rows cT47 a)), (1, .sl 8 (rows cT47 b)), (5, .i .i64 i_45), (26, .b (!r51))]) [] [] hC mixed (VW.condI h1 (fun h1 => ?_) (fun h1 => ?_)) (h := by simp -implicitDefEqProofs [f48a, f48b, f48c, f48d, f50a, f50b, f50c, f50d, c52])
   · refine VW.seq (VW.rA (tm 27 [(4, .b false)]) [] [] hC ?_)
     have e_ := leafR h1
     subst w_1
     obtain rfl := leafS h
     exact VW.ret (VRet.fin (by simp [eB23]))
   exact VW.skip (VW.rA (tm 27 [(0, .sl 8 (rows cT47 a)), (1, .sl 8 (rows cT47 b)), (5, .i .i64 (aI .i64 i_45 1))]) [] [] hC (vnext (aI .i64 i_45 1) (leafL h1) (Ent.tu 0)))
 rintro _ h
 replace h : (g23_j1).bind _ = _ := h
 rw [g23_j1] at h
 refine VW.seq (VW.rA (tm 27 [(4, .b true)]) [] [] hC ?_)
 obtain rfl := leafS h
 exact VW.ret (VRet.fin (by simp [eB23]))
theorem tl23 {a : List T47} {b : List T47} {r : Bool} (h : g23 a b = some r) : F23 [.sl 8 (rows cT47 a), .sl 8 (rows cT47 b)] = some (.b r) := tells_eq inj23 (a := (a, b)) h
noncomputable def g55 (a : T49) (b : T49) : Option (Bool) :=
if (!eqI a.a_ b.a_) = true then
some false
else
if (!eqI a.b_ b.b_) = true then
some false
else
(g53 (wide a.lead_) (wide b.lead_)).bind fun r3 =>
if (!r3) = true then
some false
else
(g53 (wide a.sun_) (wide b.sun_)).bind fun r6 =>
if (!r6) = true then
some false
else
some true
def eA55 (a : T49 × T49) : List V := [.agg (pT49 a.1), .agg (pT49 a.2)]
def eB55 (r : Bool) : V := .b r
theorem inj55 (a a' : T49 × T49) (h : eA55 a = eA55 a') : a = a' := by
  obtain ⟨⟨i291, i292, i293, i294⟩, ⟨i295, i296, i297, i298⟩⟩ := a
  obtain ⟨⟨i299, i300, i301, i302⟩, ⟨i303, i304, i305, i306⟩⟩ := a'
  simp only [eA55, pT49, List.cons.injEq, V.i.injEq, V.b.injEq, V.f.injEq, V.str.injEq, V.sl.injEq, V.agg.injEq, V.cptr.injEq, true_and, and_true] at h
  simp_all
noncomputable def F55 : List V → Option V := tells (fun a => g55 a.1 a.2) eA55 eB55
/- loop.example/g01229/laws.eqPane -/
theorem ok55 : Tells Tryz.prog 55 F55 := by
 refine Tells.go 31 Tryz.func55 rfl rfl rfl (by kernel_rfl) (fun _ => rfl) ?_
 rintro ⟨a, b⟩ r h
 simp only [eA55, en, Nat.reduceAdd]
 replace h : (g55 a b).bind some = some r := bindS h
 rw [g55] at h
 have hC : CEnv.Ok Tryz.prog [(53, F53)] := ⟨.inl ok53, trivial⟩
 refine VW.seq (VW.rA (tm 31 [(2, .ptr 0 0 0), (3, .ptr 1 0 0)]) [some (4, [(pT49 a)]), some (4, [(pT49 b)])] [] hC (VW.seq (VW.seq (VW.rA (tm 31 [(2, .ptr 0 0 0), (3, .ptr 1 0 0), (9, .b (!eqI a.a_ b.a_))]) [some (4, [(pT49 a)]), some (4, [(pT49 b)])] [] hC (VW.condI h (fun h => ?_) (fun h => ?_))))))
 · refine VW.seq (VW.rA (tm 31 [(4, .b false)]) [some (4, [(pT49 a)]), some (4, [(pT49 b)])] [] hC ?_)
   obtain rfl := leafS h
   exact VW.ret (VRet.fin (by simp [eB55]))
 refine VW.skip (VW.seq (VW.seq (VW.rA (tm 31 [(2, .ptr 0 0 0), (3, .ptr 1 0 0), (14, .b (!eqI a.b_ b.b_))]) [some (4, [(pT49 a)]), some (4, [(pT49 b)])] [] hC (VW.condI h (fun h => ?_) (fun h => ?_)))))
 · refine VW.seq (VW.rA (tm 31 [(4, .b false)]) [some (4, [(pT49 a)]), some (4, [(pT49 b)])] [] hC ?_)
   obtain rfl := leafS h
   exact VW.ret (VRet.fin (by simp [eB55]))
 refine VW.skip (VW.seq (VW.seq ?_))
 obtain ⟨r3, q4, h⟩ := bindE h
 have c4 := tl53 q4
 refine VW.rA (tm 31 [(2, .ptr 0 0 0), (3, .ptr 1 0 0), (22, .b (!r3))]) [some (4, [(pT49 a)]), some (4, [(pT49 b)])] [] hC (VW.condI h (fun h => ?_) (fun h => ?_)) (h := by simp -implicitDefEqProofs [c4])
 · refine VW.seq (VW.rA (tm 31 [(4, .b false)]) [some (4, [(pT49 a)]), some (4, [(pT49 b)])] [] hC ?_)
   obtain rfl := leafS h
   exact VW.ret (VRet.fin (by simp [eB55]))
 refine VW.skip (VW.seq (VW.seq ?_))
 obtain ⟨r6, q7, h⟩ := bindE h
 have c7 := tl53 q7
 refine VW.rA (tm 31 [(30, .b (!r6))]) [some (4, [(pT49 a)]), some (4, [(pT49 b)])] [] hC (VW.condI h (fun h => ?_) (fun h => ?_)) (h := by simp -implicitDefEqProofs [c7])
 · refine VW.seq (VW.rA (tm 31 [(4, .b false)]) [some (4, [(pT49 a)]), some (4, [(pT49 b)])] [] hC ?_)
   obtain rfl := leafS h
   exact VW.ret (VRet.fin (by simp [eB55]))
 refine VW.skip (VW.seq (VW.rA (tm 31 [(4, .b true)]) [some (4, [(pT49 a)]), some (4, [(pT49 b)])] [] hC ?_))
 obtain rfl := leafS h
 exact VW.ret (VRet.fin (by simp [eB55]))
theorem tl55 {a : T49} {b : T49} {r : Bool} (h : g55 a b = some r) : F55 [.agg [.i .i64 a.a_, .i .i64 a.b_, .f .f32 a.lead_, .f .f32 a.sun_], .agg [.i .i64 b.a_, .i .i64 b.b_, .f .f32 b.lead_, .f .f32 b.sun_]] = some (.b r) := tells_eq inj55 (a := (a, b)) h
noncomputable def g24_j1 : Option (Bool) :=
some true
noncomputable def g24_L1 (a : List T49) (b : List T49) : (Int) → Option ((Int) ⊕ ((Unit) ⊕ (Bool)))
| i_45 =>
if ltI i_45 (a.length : Int) = true then
(idx a i_45).bind fun e47 =>
(idx b i_45).bind fun e49 =>
(g55 e47 e49).bind fun r51 =>
if (!r51) = true then
some (.inr (.inr false))
else
some (.inl (aI .i64 i_45 1))
else
some (.inr (.inl ()))
noncomputable def g24 (a : List T49) (b : List T49) : Option (Bool) :=
if (!eqI (a.length : Int) (b.length : Int)) = true then
some false
else
(loopO (g24_L1 a b) 0).bind fun w => match w with
| .inl y => g24_j1
| .inr r => some r
def eA24 (a : (List T49) × (List T49)) : List V := [.sl 4 (rows cT49 a.1), .sl 4 (rows cT49 a.2)]
def eB24 (r : Bool) : V := .b r
theorem inj24 (a a' : (List T49) × (List T49)) (h : eA24 a = eA24 a') : a = a' := by
  obtain ⟨i307, i308⟩ := a
  obtain ⟨i309, i310⟩ := a'
  simp only [eA24, List.cons.injEq, V.i.injEq, V.b.injEq, V.f.injEq, V.str.injEq, V.sl.injEq, V.agg.injEq, V.cptr.injEq, true_and, and_true] at h
  simp_all [ri cT49_inj]
noncomputable def F24 : List V → Option V := tells (fun a => g24 a.1 a.2) eA24 eB24
/- loop.example/g01229/laws.eqPaneS -/
theorem ok24 : Tells Tryz.prog 24 F24 := by
 refine Tells.go 27 Tryz.func24 rfl rfl rfl (by kernel_rfl) (fun _ => rfl) ?_
 rintro ⟨a, b⟩ r h
 simp only [eA24, en, Nat.reduceAdd]
 replace h : (g24 a b).bind some = some r := bindS h
 rw [g24] at h
 have hC : CEnv.Ok Tryz.prog [(55, F55)] := ⟨.inl ok55, trivial⟩
 refine VW.seq (VW.rA (tm 27 [(0, .sl 4 (rows cT49 a)), (1, .sl 4 (rows cT49 b))]) [] [] hC (VW.seq (VW.seq (VW.rA (tm 27 [(0, .sl 4 (rows cT49 a)), (1, .sl 4 (rows cT49 b)), (10, .b (!eqI (a.length : Int) (b.length : Int)))]) [] [] hC (VW.condI h (fun h => ?_) (fun h => ?_))))))
 · refine VW.seq (VW.rA (tm 27 [(4, .b false)]) [] [] hC ?_)
   obtain rfl := leafS h
   exact VW.ret (VRet.fin (by simp [eB24]))
 refine VW.skip (VW.join (fun (v : Unit) => (⟨(tm 27 []), [], []⟩ : VS)) (fun v => (g24_j1).bind some = some r) ?_ ?_)
 · refine VW.seq (VW.rA (tm 27 [(0, .sl 4 (rows cT49 a)), (1, .sl 4 (rows cT49 b)), (5, .i .i64 0)]) [] [] hC (VW.block ?_))
   obtain ⟨w_1, hw_1, h⟩ := bindE h
   refine VW.loopO (fun (x : Int) => (⟨(tm 27 [(0, .sl 4 (rows cT49 a)), (1, .sl 4 (rows cT49 b)), (5, .i .i64 x)]), [], []⟩ : VS)) hw_1 (Ent.tu 0) ?_
   rintro n_1 i_45 h1
   rw [g24_L1] at h1
   refine VW.seq (VW.seq (VW.rA (tm 27 [(0, .sl 4 (rows cT49 a)), (1, .sl 4 (rows cT49 b)), (5, .i .i64 i_45), (14, .b (ltI i_45 (a.length : Int)))]) [] [] hC (VW.condJ h1 (fun h1 => ?_) (fun h1 => ?_))))
   · refine VW.exit ?_
     have e_ := leafR h1
     subst w_1
     exact vnext () h (Ent.tu 0)
   refine VW.skip (VW.seq (VW.block (VW.seq ?_)))
   obtain ⟨e47, ⟨f48a, f48b, f48c, f48d⟩, h1⟩ := bindI h1
   obtain ⟨e49, ⟨f50a, f50b, f50c, f50d⟩, h1⟩ := bindI h1
   obtain ⟨r51, q52, h1⟩ := bindE h1
   have c52 := tl55 q52
   refine VW.rD (tm 27 [(0, .sl 4 (rows cT49 a)), (1, .sl 4 (rows cT49 b)), (5, .i .i64 i_45), (26, .b (!r51))]) [] [] hC mixed (VW.condI h1 (fun h1 => ?_) (fun h1 => ?_)) (h := by simp -implicitDefEqProofs [f48a, f48b, f48c, f48d, f50a, f50b, f50c, f50d, c52])
   · refine VW.seq (VW.rA (tm 27 [(4, .b false)]) [] [] hC ?_)
     have e_ := leafR h1
     subst w_1
     obtain rfl := leafS h
     exact VW.ret (VRet.fin (by simp [eB24]))
   exact VW.skip (VW.rA (tm 27 [(0, .sl 4 (rows cT49 a)), (1, .sl 4 (rows cT49 b)), (5, .i .i64 (aI .i64 i_45 1))]) [] [] hC (vnext (aI .i64 i_45 1) (leafL h1) (Ent.tu 0)))
 rintro _ h
 replace h : (g24_j1).bind _ = _ := h
 rw [g24_j1] at h
 refine VW.seq (VW.rA (tm 27 [(4, .b true)]) [] [] hC ?_)
 obtain rfl := leafS h
 exact VW.ret (VRet.fin (by simp [eB24]))
theorem tl24 {a : List T49} {b : List T49} {r : Bool} (h : g24 a b = some r) : F24 [.sl 4 (rows cT49 a), .sl 4 (rows cT49 b)] = some (.b r) := tells_eq inj24 (a := (a, b)) h
noncomputable def g6 (a : T25) (b : T25) : Option (Bool) :=
(g22 a.heat_ b.heat_).bind fun r1 =>
if (!r1) = true then
some false
else
(g22 a.store_ b.store_).bind fun r4 =>
if (!r4) = true then
some false
else
(g23 a.walls_ b.walls_).bind fun r7 =>
if (!r7) = true then
some false
else
(g24 a.panes_ b.panes_).bind fun r10 =>
if (!r10) = true then
some false
else
some true
def eA6 (a : T25 × T25) : List V := [.agg (pT25 a.1), .agg (pT25 a.2)]
def eB6 (r : Bool) : V := .b r
theorem inj6 (a a' : T25 × T25) (h : eA6 a = eA6 a') : a = a' := by
  obtain ⟨⟨i311, i312, i313, i314⟩, ⟨i315, i316, i317, i318⟩⟩ := a
  obtain ⟨⟨i319, i320, i321, i322⟩, ⟨i323, i324, i325, i326⟩⟩ := a'
  simp only [eA6, pT25, List.cons.injEq, V.i.injEq, V.b.injEq, V.f.injEq, V.str.injEq, V.sl.injEq, V.agg.injEq, V.cptr.injEq, true_and, and_true] at h
  simp_all [ri cT47_inj, ri cT49_inj, ri cf_f32_inj]
noncomputable def F6 : List V → Option V := tells (fun a => g6 a.1 a.2) eA6 eB6
/- loop.example/g01229/laws.eqFlat -/
theorem ok6 : Tells Tryz.prog 6 F6 := by
 refine Tells.go 29 Tryz.func6 rfl rfl rfl (by kernel_rfl) (fun _ => rfl) ?_
 rintro ⟨a, b⟩ r h
 simp only [eA6, en, Nat.reduceAdd]
 replace h : (g6 a b).bind some = some r := bindS h
 rw [g6] at h
 have hC : CEnv.Ok Tryz.prog [(22, F22), (23, F23), (24, F24)] := ⟨.inl ok22, .inl ok23, .inl ok24, trivial⟩
 refine VW.seq (VW.rA (tm 29 [(2, .ptr 0 0 0), (3, .ptr 1 0 0)]) [some (4, [(pT25 a)]), some (4, [(pT25 b)])] [] hC (VW.seq (VW.seq ?_)))
 obtain ⟨r1, q2, h⟩ := bindE h
 have c2 := tl22 q2
 refine VW.rA (tm 29 [(2, .ptr 0 0 0), (3, .ptr 1 0 0), (10, .b (!r1))]) [some (4, [(pT25 a)]), some (4, [(pT25 b)])] [] hC (VW.condI h (fun h => ?_) (fun h => ?_)) (h := by simp -implicitDefEqProofs [c2])
 · refine VW.seq (VW.rA (tm 29 [(4, .b false)]) [some (4, [(pT25 a)]), some (4, [(pT25 b)])] [] hC ?_)
   obtain rfl := leafS h
   exact VW.ret (VRet.fin (by simp [eB6]))
 refine VW.skip (VW.seq (VW.seq ?_))
 obtain ⟨r4, q5, h⟩ := bindE h
 have c5 := tl22 q5
 refine VW.rA (tm 29 [(2, .ptr 0 0 0), (3, .ptr 1 0 0), (16, .b (!r4))]) [some (4, [(pT25 a)]), some (4, [(pT25 b)])] [] hC (VW.condI h (fun h => ?_) (fun h => ?_)) (h := by simp -implicitDefEqProofs [c5])
 · refine VW.seq (VW.rA (tm 29 [(4, .b false)]) [some (4, [(pT25 a)]), some (4, [(pT25 b)])] [] hC ?_)
   obtain rfl := leafS h
   exact VW.ret (VRet.fin (by simp [eB6]))
 refine VW.skip (VW.seq (VW.seq ?_))
 obtain ⟨r7, q8, h⟩ := bindE h
 have c8 := tl23 q8
 refine VW.rA (tm 29 [(2, .ptr 0 0 0), (3, .ptr 1 0 0), (22, .b (!r7))]) [some (4, [(pT25 a)]), some (4, [(pT25 b)])] [] hC (VW.condI h (fun h => ?_) (fun h => ?_)) (h := by simp -implicitDefEqProofs [c8])
 · refine VW.seq (VW.rA (tm 29 [(4, .b false)]) [some (4, [(pT25 a)]), some (4, [(pT25 b)])] [] hC ?_)
   obtain rfl := leafS h
   exact VW.ret (VRet.fin (by simp [eB6]))
 refine VW.skip (VW.seq (VW.seq ?_))
 obtain ⟨r10, q11, h⟩ := bindE h
 have c11 := tl24 q11
 refine VW.rA (tm 29 [(28, .b (!r10))]) [some (4, [(pT25 a)]), some (4, [(pT25 b)])] [] hC (VW.condI h (fun h => ?_) (fun h => ?_)) (h := by simp -implicitDefEqProofs [c11])
 · refine VW.seq (VW.rA (tm 29 [(4, .b false)]) [some (4, [(pT25 a)]), some (4, [(pT25 b)])] [] hC ?_)
   obtain rfl := leafS h
   exact VW.ret (VRet.fin (by simp [eB6]))
 refine VW.skip (VW.seq (VW.rA (tm 29 [(4, .b true)]) [some (4, [(pT25 a)]), some (4, [(pT25 b)])] [] hC ?_))
 obtain rfl := leafS h
 exact VW.ret (VRet.fin (by simp [eB6]))
theorem tl6 {a : T25} {b : T25} {r : Bool} (h : g6 a b = some r) : F6 [.agg [.sl 1 (rows cf_f32 a.heat_), .sl 1 (rows cf_f32 a.store_), .sl 8 (rows cT47 a.walls_), .sl 4 (rows cT49 a.panes_)], .agg [.sl 1 (rows cf_f32 b.heat_), .sl 1 (rows cf_f32 b.store_), .sl 8 (rows cT47 b.walls_), .sl 4 (rows cT49 b.panes_)]] = some (.b r) := tells_eq inj6 (a := (a, b)) h
noncomputable def g28_j1 (k_17 : Int) : Option (Int) :=
some k_17
noncomputable def g28_L1 (a : List F32) : (Int × Int) → Option ((Int × Int) ⊕ ((Int) ⊕ (Int)))
| (k_28, i_29) =>
if ltI i_29 (a.length : Int) = true then
(idx a i_29).bind fun e31 =>
if neF .f32 e31 (fOfI .f32 k_28) = true then
some (.inr (.inr (-1)))
else
some (.inl (aI .i64 k_28 1, aI .i64 i_29 1))
else
some (.inr (.inl k_28))
noncomputable def g28 (a : List F32) (k : Int) : Option (Int) :=
(loopO (g28_L1 a) (k, 0)).bind fun w => match w with
| .inl y => g28_j1 y
| .inr r => some r
def eA28 (a : (List F32) × Int) : List V := [.sl 1 (rows cf_f32 a.1), .i .i64 a.2]
def eB28 (r : Int) : V := .i .i64 r
theorem inj28 (a a' : (List F32) × Int) (h : eA28 a = eA28 a') : a = a' := by
  obtain ⟨i327, i328⟩ := a
  obtain ⟨i329, i330⟩ := a'
  simp only [eA28, List.cons.injEq, V.i.injEq, V.b.injEq, V.f.injEq, V.str.injEq, V.sl.injEq, V.agg.injEq, V.cptr.injEq, true_and, and_true] at h
  simp_all [ri cf_f32_inj]
noncomputable def F28 : List V → Option V := tells (fun a => g28 a.1 a.2) eA28 eB28
/- loop.example/g01229/laws.heldFloat32S -/
theorem ok28 : Tells Tryz.prog 28 F28 := by
 refine Tells.go 22 Tryz.func28 rfl rfl rfl (by kernel_rfl) (fun _ => rfl) ?_
 rintro ⟨a, k⟩ r h
 simp only [eA28, en, Nat.reduceAdd]
 replace h : (g28 a k).bind some = some r := bindS h
 rw [g28] at h
 have hC : CEnv.Ok Tryz.prog [] := trivial
 refine VW.seq (VW.rA (tm 22 [(0, .sl 1 (rows cf_f32 a)), (1, .i .i64 k)]) [] [] hC (VW.join (fun (v : Int) => (⟨(tm 22 [(1, .i .i64 v)]), [], []⟩ : VS)) (fun v => (g28_j1 (v)).bind some = some r) ?_ ?_))
 · refine VW.seq (VW.rA (tm 22 [(0, .sl 1 (rows cf_f32 a)), (1, .i .i64 k), (5, .i .i64 0)]) [] [] hC (VW.block ?_))
   obtain ⟨w_1, hw_1, h⟩ := bindE h
   refine VW.loopO (fun (x : Int × Int) => (⟨(tm 22 [(0, .sl 1 (rows cf_f32 a)), (1, .i .i64 x.1), (5, .i .i64 x.2)]), [], []⟩ : VS)) hw_1 (Ent.tu 0) ?_
   rintro n_1 ⟨k_28, i_29⟩ h1
   rw [g28_L1] at h1
   refine VW.seq (VW.seq (VW.rA (tm 22 [(0, .sl 1 (rows cf_f32 a)), (1, .i .i64 k_28), (5, .i .i64 i_29), (9, .b (ltI i_29 (a.length : Int)))]) [] [] hC (VW.condJ h1 (fun h1 => ?_) (fun h1 => ?_))))
   · refine VW.exit ?_
     have e_ := leafR h1
     subst w_1
     exact vnext k_28 h (Ent.tu 0)
   refine VW.skip (VW.seq (VW.block (VW.seq (VW.seq ?_))))
   obtain ⟨e31, ⟨f32a, f32b, f32c, f32d⟩, h1⟩ := bindI h1
   refine VW.rA (tm 22 [(0, .sl 1 (rows cf_f32 a)), (1, .i .i64 k_28), (5, .i .i64 i_29), (18, .b (neF .f32 e31 (fOfI .f32 k_28)))]) [] [] hC (VW.condI h1 (fun h1 => ?_) (fun h1 => ?_)) (h := by simp -implicitDefEqProofs [f32a, f32b, f32c, f32d])
   · refine VW.seq (VW.rA (tm 22 [(4, .i .i64 (-1))]) [] [] hC ?_)
     have e_ := leafR h1
     subst w_1
     obtain rfl := leafS h
     exact VW.ret (VRet.fin (by simp [eB28]))
   exact VW.skip (VW.rA (tm 22 [(0, .sl 1 (rows cf_f32 a)), (1, .i .i64 (aI .i64 k_28 1)), (5, .i .i64 i_29)]) [] [] hC (VW.rA (tm 22 [(0, .sl 1 (rows cf_f32 a)), (1, .i .i64 (aI .i64 k_28 1)), (5, .i .i64 (aI .i64 i_29 1))]) [] [] hC (vnext (aI .i64 k_28 1, aI .i64 i_29 1) (leafL h1) (Ent.tu 0))))
 rintro k_17 h
 replace h : (g28_j1 k_17).bind _ = _ := h
 rw [g28_j1] at h
 refine VW.seq (VW.rA (tm 22 [(4, .i .i64 k_17)]) [] [] hC ?_)
 obtain rfl := leafS h
 exact VW.ret (VRet.fin (by simp [eB28]))
theorem tl28 {a : List F32} {k : Int} {r : Int} (h : g28 a k = some r) : F28 [.sl 1 (rows cf_f32 a), .i .i64 k] = some (.i .i64 r) := tells_eq inj28 (a := (a, k)) h
noncomputable def g29_j1 (k_152 : Int) : Option (Int) :=
some k_152
noncomputable def g29_j2 (k_253 : Int) (i_254 : Int) : Option ((Int × Int) ⊕ ((Int) ⊕ (Int))) :=
some (.inl (aI .i64 (aI .i64 (aI .i64 (aI .i64 (aI .i64 (aI .i64 (aI .i64 (aI .i64 k_253 1) 1) 1) 1) 1) 1) 1) 1, aI .i64 i_254 1))
noncomputable def g29_L1 (a : List T47) : (Int × Int) → Option ((Int × Int) ⊕ ((Int) ⊕ (Int)))
| (k_253, i_254) =>
if ltI i_254 (a.length : Int) = true then
(idx a i_254).bind fun e280 =>
if (!eqI e280.a_ k_253) = true then
some (.inr (.inr (-1)))
else
(idx a i_254).bind fun e283 =>
if (!eqI e283.b_ (aI .i64 k_253 1)) = true then
some (.inr (.inr (-1)))
else
(idx a i_254).bind fun e286 =>
if neF .f32 e286.lead_ (fOfI .f32 (aI .i64 (aI .i64 k_253 1) 1)) = true then
some (.inr (.inr (-1)))
else
(idx a i_254).bind fun e289 =>
if neF .f32 e289.store_ (fOfI .f32 (aI .i64 (aI .i64 (aI .i64 k_253 1) 1) 1)) = true then
some (.inr (.inr (-1)))
else
(idx a i_254).bind fun e292 =>
if neF .f32 e292.heat_.a0_ (fOfI .f32 (aI .i64 (aI .i64 (aI .i64 (aI .i64 k_253 1) 1) 1) 1)) = true then
some (.inr (.inr (-1)))
else
(idx a i_254).bind fun e295 =>
if neF .f32 e295.heat_.a1_ (fOfI .f32 (aI .i64 (aI .i64 (aI .i64 (aI .i64 (aI .i64 k_253 1) 1) 1) 1) 1)) = true then
some (.inr (.inr (-1)))
else
(idx a i_254).bind fun e298 =>
if neF .f32 e298.heat_.a2_ (fOfI .f32 (aI .i64 (aI .i64 (aI .i64 (aI .i64 (aI .i64 (aI .i64 k_253 1) 1) 1) 1) 1) 1)) = true then
some (.inr (.inr (-1)))
else
(idx a i_254).bind fun e301 =>
if neF .f32 e301.heat_.a3_ (fOfI .f32 (aI .i64 (aI .i64 (aI .i64 (aI .i64 (aI .i64 (aI .i64 (aI .i64 k_253 1) 1) 1) 1) 1) 1) 1)) = true then
some (.inr (.inr (-1)))
else
g29_j2 k_253 i_254
else
some (.inr (.inl k_253))
noncomputable def g29 (a : List T47) (k : Int) : Option (Int) :=
(loopO (g29_L1 a) (k, 0)).bind fun w => match w with
| .inl y => g29_j1 y
| .inr r => some r
def eA29 (a : (List T47) × Int) : List V := [.sl 8 (rows cT47 a.1), .i .i64 a.2]
def eB29 (r : Int) : V := .i .i64 r
theorem inj29 (a a' : (List T47) × Int) (h : eA29 a = eA29 a') : a = a' := by
  obtain ⟨i331, i332⟩ := a
  obtain ⟨i333, i334⟩ := a'
  simp only [eA29, List.cons.injEq, V.i.injEq, V.b.injEq, V.f.injEq, V.str.injEq, V.sl.injEq, V.agg.injEq, V.cptr.injEq, true_and, and_true] at h
  simp_all [ri cT47_inj]
noncomputable def F29 : List V → Option V := tells (fun a => g29 a.1 a.2) eA29 eB29
/- loop.example/g01229/laws.heldWallS -/
theorem ok29 : Tells Tryz.prog 29 F29 := by
 refine Tells.go 68 Tryz.func29 rfl rfl rfl (by kernel_rfl) (fun _ => rfl) ?_
 rintro ⟨a, k⟩ r h
 simp only [eA29, en, Nat.reduceAdd]
 replace h : (g29 a k).bind some = some r := bindS h
 rw [g29] at h
 have hC : CEnv.Ok Tryz.prog [] := trivial
 refine VW.seq (VW.rA (tm 68 [(0, .sl 8 (rows cT47 a)), (1, .i .i64 k)]) [] [] hC (VW.join (fun (v : Int) => (⟨(tm 68 [(1, .i .i64 v)]), [], []⟩ : VS)) (fun v => (g29_j1 (v)).bind some = some r) ?_ ?_))
 · refine VW.seq (VW.rA (tm 68 [(0, .sl 8 (rows cT47 a)), (1, .i .i64 k), (5, .i .i64 0)]) [] [] hC (VW.block ?_))
   obtain ⟨w_1, hw_1, h⟩ := bindE h
   refine VW.loopO (fun (x : Int × Int) => (⟨(tm 68 [(0, .sl 8 (rows cT47 a)), (1, .i .i64 x.1), (5, .i .i64 x.2)]), [], []⟩ : VS)) hw_1 (Ent.tu 0) ?_
   rintro n_1 ⟨k_253, i_254⟩ h1
   rw [g29_L1] at h1
   refine VW.seq (VW.seq (VW.rA (tm 68 [(0, .sl 8 (rows cT47 a)), (1, .i .i64 k_253), (5, .i .i64 i_254), (10, .b (ltI i_254 (a.length : Int)))]) [] [] hC (VW.condJ h1 (fun h1 => ?_) (fun h1 => ?_))))
   · refine VW.exit ?_
     have e_ := leafR h1
     subst w_1
     exact vnext k_253 h (Ent.tu 0)
   refine VW.skip (VW.join (fun (v : Unit) => (⟨(tm 68 [(0, .sl 8 (rows cT47 a)), (1, .i .i64 (aI .i64 (aI .i64 (aI .i64 (aI .i64 (aI .i64 (aI .i64 (aI .i64 (aI .i64 k_253 1) 1) 1) 1) 1) 1) 1) 1)), (5, .i .i64 i_254)]), [], []⟩ : VS)) (fun v => (g29_j2 k_253 i_254).bind (kN (g29_L1 a) n_1) = some w_1) ?_ ?_)
   · refine VW.block (VW.seq (VW.seq ?_))
     obtain ⟨e280, ⟨f281a, f281b, f281c, f281d⟩, h1⟩ := bindI h1
     refine VW.rA (tm 68 [(0, .sl 8 (rows cT47 a)), (1, .i .i64 k_253), (5, .i .i64 i_254), (19, .b (!eqI e280.a_ k_253))]) [] [] hC (VW.condI h1 (fun h1 => ?_) (fun h1 => ?_)) (h := by simp -implicitDefEqProofs [f281a, f281b, f281c, f281d])
     · refine VW.seq (VW.rA (tm 68 [(4, .i .i64 (-1))]) [] [] hC ?_)
       have e_ := leafR h1
       subst w_1
       obtain rfl := leafS h
       exact VW.ret (VRet.fin (by simp [eB29]))
     refine VW.skip (VW.seq (VW.rA (tm 68 [(0, .sl 8 (rows cT47 a)), (1, .i .i64 (aI .i64 k_253 1)), (5, .i .i64 i_254)]) [] [] hC (VW.seq (VW.seq ?_))))
     obtain ⟨e283, ⟨f284a, f284b, f284c, f284d⟩, h1⟩ := bindI h1
     refine VW.rA (tm 68 [(0, .sl 8 (rows cT47 a)), (1, .i .i64 (aI .i64 k_253 1)), (5, .i .i64 i_254), (28, .b (!eqI e283.b_ (aI .i64 k_253 1)))]) [] [] hC (VW.condI h1 (fun h1 => ?_) (fun h1 => ?_)) (h := by simp -implicitDefEqProofs [f284a, f284b, f284c, f284d])
     · refine VW.seq (VW.rA (tm 68 [(4, .i .i64 (-1))]) [] [] hC ?_)
       have e_ := leafR h1
       subst w_1
       obtain rfl := leafS h
       exact VW.ret (VRet.fin (by simp [eB29]))
     refine VW.skip (VW.seq (VW.rA (tm 68 [(0, .sl 8 (rows cT47 a)), (1, .i .i64 (aI .i64 (aI .i64 k_253 1) 1)), (5, .i .i64 i_254)]) [] [] hC (VW.seq (VW.seq ?_))))
     obtain ⟨e286, ⟨f287a, f287b, f287c, f287d⟩, h1⟩ := bindI h1
     refine VW.rA (tm 68 [(0, .sl 8 (rows cT47 a)), (1, .i .i64 (aI .i64 (aI .i64 k_253 1) 1)), (5, .i .i64 i_254), (38, .b (neF .f32 e286.lead_ (fOfI .f32 (aI .i64 (aI .i64 k_253 1) 1))))]) [] [] hC (VW.condI h1 (fun h1 => ?_) (fun h1 => ?_)) (h := by simp -implicitDefEqProofs [f287a, f287b, f287c, f287d])
     · refine VW.seq (VW.rA (tm 68 [(4, .i .i64 (-1))]) [] [] hC ?_)
       have e_ := leafR h1
       subst w_1
       obtain rfl := leafS h
       exact VW.ret (VRet.fin (by simp [eB29]))
     refine VW.skip (VW.seq (VW.rA (tm 68 [(0, .sl 8 (rows cT47 a)), (1, .i .i64 (aI .i64 (aI .i64 (aI .i64 k_253 1) 1) 1)), (5, .i .i64 i_254)]) [] [] hC (VW.seq (VW.seq ?_))))
     obtain ⟨e289, ⟨f290a, f290b, f290c, f290d⟩, h1⟩ := bindI h1
     refine VW.rA (tm 68 [(0, .sl 8 (rows cT47 a)), (1, .i .i64 (aI .i64 (aI .i64 (aI .i64 k_253 1) 1) 1)), (5, .i .i64 i_254), (48, .b (neF .f32 e289.store_ (fOfI .f32 (aI .i64 (aI .i64 (aI .i64 k_253 1) 1) 1))))]) [] [] hC (VW.condI h1 (fun h1 => ?_) (fun h1 => ?_)) (h := by simp -implicitDefEqProofs [f290a, f290b, f290c, f290d])
     · refine VW.seq (VW.rA (tm 68 [(4, .i .i64 (-1))]) [] [] hC ?_)
       have e_ := leafR h1
       subst w_1
       obtain rfl := leafS h
       exact VW.ret (VRet.fin (by simp [eB29]))
     refine VW.skip (VW.seq (VW.rA (tm 68 [(0, .sl 8 (rows cT47 a)), (1, .i .i64 (aI .i64 (aI .i64 (aI .i64 (aI .i64 k_253 1) 1) 1) 1)), (5, .i .i64 i_254)]) [] [] hC (VW.seq (VW.rA (tm 68 [(0, .sl 8 (rows cT47 a)), (1, .i .i64 (aI .i64 (aI .i64 (aI .i64 (aI .i64 k_253 1) 1) 1) 1)), (5, .i .i64 i_254), (6, .i .i64 0)]) [] [] hC (VW.block (VW.rounds 6 (VRounds.step (VW.seq (VW.seq (VW.rA (tm 68 [(0, .sl 8 (rows cT47 a)), (1, .i .i64 (aI .i64 (aI .i64 (aI .i64 (aI .i64 k_253 1) 1) 1) 1)), (5, .i .i64 i_254), (6, .i .i64 0), (52, .b true)]) [] [] hC (VW.condT (by simp) (VW.skip (VW.seq (VW.block (VW.seq (VW.seq ?_)))))) (h := by simp -implicitDefEqProofs [(by decide : ltI 0 4 = true)])))))))))))
     obtain ⟨e292, ⟨f293a, f293b, f293c, f293d⟩, h1⟩ := bindI h1
     refine VW.rA (tm 68 [(0, .sl 8 (rows cT47 a)), (1, .i .i64 (aI .i64 (aI .i64 (aI .i64 (aI .i64 k_253 1) 1) 1) 1)), (5, .i .i64 i_254), (6, .i .i64 0), (64, .b (neF .f32 e292.heat_.a0_ (fOfI .f32 (aI .i64 (aI .i64 (aI .i64 (aI .i64 k_253 1) 1) 1) 1))))]) [] [] hC (VW.condI h1 (fun h1 => ?_) (fun h1 => ?_)) (h := by simp -implicitDefEqProofs [f293a, f293b, f293c, f293d])
     · refine VW.seq (VW.rA (tm 68 [(4, .i .i64 (-1))]) [] [] hC ?_)
       have e_ := leafR h1
       subst w_1
       obtain rfl := leafS h
       exact VW.ret (VRet.fin (by simp [eB29]))
     refine VW.skip (VW.rA (tm 68 [(0, .sl 8 (rows cT47 a)), (1, .i .i64 (aI .i64 (aI .i64 (aI .i64 (aI .i64 (aI .i64 k_253 1) 1) 1) 1) 1)), (5, .i .i64 i_254), (6, .i .i64 0)]) [] [] hC (VW.rA (tm 68 [(0, .sl 8 (rows cT47 a)), (1, .i .i64 (aI .i64 (aI .i64 (aI .i64 (aI .i64 (aI .i64 k_253 1) 1) 1) 1) 1)), (5, .i .i64 i_254), (6, .i .i64 1)]) [] [] hC (VRounds.step (VW.seq (VW.seq (VW.rA (tm 68 [(0, .sl 8 (rows cT47 a)), (1, .i .i64 (aI .i64 (aI .i64 (aI .i64 (aI .i64 (aI .i64 k_253 1) 1) 1) 1) 1)), (5, .i .i64 i_254), (6, .i .i64 1), (52, .b true)]) [] [] hC (VW.condT (by simp) (VW.skip (VW.seq (VW.block (VW.seq (VW.seq ?_)))))) (h := by simp -implicitDefEqProofs [(by decide : ltI 1 4 = true)]))))) (h := by simp -implicitDefEqProofs [(by decide : aI .i64 0 1 = 1)])))
     obtain ⟨e295, ⟨f296a, f296b, f296c, f296d⟩, h1⟩ := bindI h1
     refine VW.rA (tm 68 [(0, .sl 8 (rows cT47 a)), (1, .i .i64 (aI .i64 (aI .i64 (aI .i64 (aI .i64 (aI .i64 k_253 1) 1) 1) 1) 1)), (5, .i .i64 i_254), (6, .i .i64 1), (64, .b (neF .f32 e295.heat_.a1_ (fOfI .f32 (aI .i64 (aI .i64 (aI .i64 (aI .i64 (aI .i64 k_253 1) 1) 1) 1) 1))))]) [] [] hC (VW.condI h1 (fun h1 => ?_) (fun h1 => ?_)) (h := by simp -implicitDefEqProofs [f296a, f296b, f296c, f296d])
     · refine VW.seq (VW.rA (tm 68 [(4, .i .i64 (-1))]) [] [] hC ?_)
       have e_ := leafR h1
       subst w_1
       obtain rfl := leafS h
       exact VW.ret (VRet.fin (by simp [eB29]))
     refine VW.skip (VW.rA (tm 68 [(0, .sl 8 (rows cT47 a)), (1, .i .i64 (aI .i64 (aI .i64 (aI .i64 (aI .i64 (aI .i64 (aI .i64 k_253 1) 1) 1) 1) 1) 1)), (5, .i .i64 i_254), (6, .i .i64 1)]) [] [] hC (VW.rA (tm 68 [(0, .sl 8 (rows cT47 a)), (1, .i .i64 (aI .i64 (aI .i64 (aI .i64 (aI .i64 (aI .i64 (aI .i64 k_253 1) 1) 1) 1) 1) 1)), (5, .i .i64 i_254), (6, .i .i64 2)]) [] [] hC (VRounds.step (VW.seq (VW.seq (VW.rA (tm 68 [(0, .sl 8 (rows cT47 a)), (1, .i .i64 (aI .i64 (aI .i64 (aI .i64 (aI .i64 (aI .i64 (aI .i64 k_253 1) 1) 1) 1) 1) 1)), (5, .i .i64 i_254), (6, .i .i64 2), (52, .b true)]) [] [] hC (VW.condT (by simp) (VW.skip (VW.seq (VW.block (VW.seq (VW.seq ?_)))))) (h := by simp -implicitDefEqProofs [(by decide : ltI 2 4 = true)]))))) (h := by simp -implicitDefEqProofs [(by decide : aI .i64 1 1 = 2)])))
     obtain ⟨e298, ⟨f299a, f299b, f299c, f299d⟩, h1⟩ := bindI h1
     refine VW.rA (tm 68 [(0, .sl 8 (rows cT47 a)), (1, .i .i64 (aI .i64 (aI .i64 (aI .i64 (aI .i64 (aI .i64 (aI .i64 k_253 1) 1) 1) 1) 1) 1)), (5, .i .i64 i_254), (6, .i .i64 2), (64, .b (neF .f32 e298.heat_.a2_ (fOfI .f32 (aI .i64 (aI .i64 (aI .i64 (aI .i64 (aI .i64 (aI .i64 k_253 1) 1) 1) 1) 1) 1))))]) [] [] hC (VW.condI h1 (fun h1 => ?_) (fun h1 => ?_)) (h := by simp -implicitDefEqProofs [f299a, f299b, f299c, f299d])
     · refine VW.seq (VW.rA (tm 68 [(4, .i .i64 (-1))]) [] [] hC ?_)
       have e_ := leafR h1
       subst w_1
       obtain rfl := leafS h
       exact VW.ret (VRet.fin (by simp [eB29]))
     refine VW.skip (VW.rA (tm 68 [(0, .sl 8 (rows cT47 a)), (1, .i .i64 (aI .i64 (aI .i64 (aI .i64 (aI .i64 (aI .i64 (aI .i64 (aI .i64 k_253 1) 1) 1) 1) 1) 1) 1)), (5, .i .i64 i_254), (6, .i .i64 2)]) [] [] hC (VW.rA (tm 68 [(0, .sl 8 (rows cT47 a)), (1, .i .i64 (aI .i64 (aI .i64 (aI .i64 (aI .i64 (aI .i64 (aI .i64 (aI .i64 k_253 1) 1) 1) 1) 1) 1) 1)), (5, .i .i64 i_254), (6, .i .i64 3)]) [] [] hC (VRounds.step (VW.seq (VW.seq (VW.rA (tm 68 [(0, .sl 8 (rows cT47 a)), (1, .i .i64 (aI .i64 (aI .i64 (aI .i64 (aI .i64 (aI .i64 (aI .i64 (aI .i64 k_253 1) 1) 1) 1) 1) 1) 1)), (5, .i .i64 i_254), (6, .i .i64 3), (52, .b true)]) [] [] hC (VW.condT (by simp) (VW.skip (VW.seq (VW.block (VW.seq (VW.seq ?_)))))) (h := by simp -implicitDefEqProofs [(by decide : ltI 3 4 = true)]))))) (h := by simp -implicitDefEqProofs [(by decide : aI .i64 2 1 = 3)])))
     obtain ⟨e301, ⟨f302a, f302b, f302c, f302d⟩, h1⟩ := bindI h1
     refine VW.rA (tm 68 [(0, .sl 8 (rows cT47 a)), (1, .i .i64 (aI .i64 (aI .i64 (aI .i64 (aI .i64 (aI .i64 (aI .i64 (aI .i64 k_253 1) 1) 1) 1) 1) 1) 1)), (5, .i .i64 i_254), (6, .i .i64 3), (64, .b (neF .f32 e301.heat_.a3_ (fOfI .f32 (aI .i64 (aI .i64 (aI .i64 (aI .i64 (aI .i64 (aI .i64 (aI .i64 k_253 1) 1) 1) 1) 1) 1) 1))))]) [] [] hC (VW.condI h1 (fun h1 => ?_) (fun h1 => ?_)) (h := by simp -implicitDefEqProofs [f302a, f302b, f302c, f302d])
     · refine VW.seq (VW.rA (tm 68 [(4, .i .i64 (-1))]) [] [] hC ?_)
       have e_ := leafR h1
       subst w_1
       obtain rfl := leafS h
       exact VW.ret (VRet.fin (by simp [eB29]))
     exact VW.skip (VW.rA (tm 68 [(0, .sl 8 (rows cT47 a)), (1, .i .i64 (aI .i64 (aI .i64 (aI .i64 (aI .i64 (aI .i64 (aI .i64 (aI .i64 (aI .i64 k_253 1) 1) 1) 1) 1) 1) 1) 1)), (5, .i .i64 i_254), (6, .i .i64 3)]) [] [] hC (VW.rA (tm 68 [(0, .sl 8 (rows cT47 a)), (1, .i .i64 (aI .i64 (aI .i64 (aI .i64 (aI .i64 (aI .i64 (aI .i64 (aI .i64 (aI .i64 k_253 1) 1) 1) 1) 1) 1) 1) 1)), (5, .i .i64 i_254), (6, .i .i64 4)]) [] [] hC (VRounds.step (VW.seq (VW.seq (VW.rA (tm 68 [(0, .sl 8 (rows cT47 a)), (1, .i .i64 (aI .i64 (aI .i64 (aI .i64 (aI .i64 (aI .i64 (aI .i64 (aI .i64 (aI .i64 k_253 1) 1) 1) 1) 1) 1) 1) 1)), (5, .i .i64 i_254), (6, .i .i64 4), (52, .b false)]) [] [] hC (VW.condF (by simp) (VW.exit (vnext () h1 (Ent.tu 0)))) (h := by simp -implicitDefEqProofs [(by decide : ltI 4 4 = false)]))))) (h := by simp -implicitDefEqProofs [(by decide : aI .i64 3 1 = 4)])))
   rintro _ h1
   replace h1 : (g29_j2 k_253 i_254).bind _ = _ := h1
   rw [g29_j2] at h1
   exact VW.rA (tm 68 [(0, .sl 8 (rows cT47 a)), (1, .i .i64 (aI .i64 (aI .i64 (aI .i64 (aI .i64 (aI .i64 (aI .i64 (aI .i64 (aI .i64 k_253 1) 1) 1) 1) 1) 1) 1) 1)), (5, .i .i64 (aI .i64 i_254 1))]) [] [] hC (vnext (aI .i64 (aI .i64 (aI .i64 (aI .i64 (aI .i64 (aI .i64 (aI .i64 (aI .i64 k_253 1) 1) 1) 1) 1) 1) 1) 1, aI .i64 i_254 1) (leafL h1) (Ent.tu 0))
 rintro k_152 h
 replace h : (g29_j1 k_152).bind _ = _ := h
 rw [g29_j1] at h
 refine VW.seq (VW.rA (tm 68 [(4, .i .i64 k_152)]) [] [] hC ?_)
 obtain rfl := leafS h
 exact VW.ret (VRet.fin (by simp [eB29]))
theorem tl29 {a : List T47} {k : Int} {r : Int} (h : g29 a k = some r) : F29 [.sl 8 (rows cT47 a), .i .i64 k] = some (.i .i64 r) := tells_eq inj29 (a := (a, k)) h
noncomputable def g30_j1 (k_44 : Int) : Option (Int) :=
some k_44
noncomputable def g30_L1 (a : List T49) : (Int × Int) → Option ((Int × Int) ⊕ ((Int) ⊕ (Int)))
| (k_73, i_74) =>
if ltI i_74 (a.length : Int) = true then
(idx a i_74).bind fun e76 =>
if (!eqI e76.a_ k_73) = true then
some (.inr (.inr (-1)))
else
(idx a i_74).bind fun e79 =>
if (!eqI e79.b_ (aI .i64 k_73 1)) = true then
some (.inr (.inr (-1)))
else
(idx a i_74).bind fun e82 =>
if neF .f32 e82.lead_ (fOfI .f32 (aI .i64 (aI .i64 k_73 1) 1)) = true then
some (.inr (.inr (-1)))
else
(idx a i_74).bind fun e85 =>
if neF .f32 e85.sun_ (fOfI .f32 (aI .i64 (aI .i64 (aI .i64 k_73 1) 1) 1)) = true then
some (.inr (.inr (-1)))
else
some (.inl (aI .i64 (aI .i64 (aI .i64 (aI .i64 k_73 1) 1) 1) 1, aI .i64 i_74 1))
else
some (.inr (.inl k_73))
noncomputable def g30 (a : List T49) (k : Int) : Option (Int) :=
(loopO (g30_L1 a) (k, 0)).bind fun w => match w with
| .inl y => g30_j1 y
| .inr r => some r
def eA30 (a : (List T49) × Int) : List V := [.sl 4 (rows cT49 a.1), .i .i64 a.2]
def eB30 (r : Int) : V := .i .i64 r
theorem inj30 (a a' : (List T49) × Int) (h : eA30 a = eA30 a') : a = a' := by
  obtain ⟨i335, i336⟩ := a
  obtain ⟨i337, i338⟩ := a'
  simp only [eA30, List.cons.injEq, V.i.injEq, V.b.injEq, V.f.injEq, V.str.injEq, V.sl.injEq, V.agg.injEq, V.cptr.injEq, true_and, and_true] at h
  simp_all [ri cT49_inj]
noncomputable def F30 : List V → Option V := tells (fun a => g30 a.1 a.2) eA30 eB30
/- loop.example/g01229/laws.heldPaneS -/
theorem ok30 : Tells Tryz.prog 30 F30 := by
 refine Tells.go 51 Tryz.func30 rfl rfl rfl (by kernel_rfl) (fun _ => rfl) ?_
 rintro ⟨a, k⟩ r h
 simp only [eA30, en, Nat.reduceAdd]
 replace h : (g30 a k).bind some = some r := bindS h
 rw [g30] at h
 have hC : CEnv.Ok Tryz.prog [] := trivial
 refine VW.seq (VW.rA (tm 51 [(0, .sl 4 (rows cT49 a)), (1, .i .i64 k)]) [] [] hC (VW.join (fun (v : Int) => (⟨(tm 51 [(1, .i .i64 v)]), [], []⟩ : VS)) (fun v => (g30_j1 (v)).bind some = some r) ?_ ?_))
 · refine VW.seq (VW.rA (tm 51 [(0, .sl 4 (rows cT49 a)), (1, .i .i64 k), (5, .i .i64 0)]) [] [] hC (VW.block ?_))
   obtain ⟨w_1, hw_1, h⟩ := bindE h
   refine VW.loopO (fun (x : Int × Int) => (⟨(tm 51 [(0, .sl 4 (rows cT49 a)), (1, .i .i64 x.1), (5, .i .i64 x.2)]), [], []⟩ : VS)) hw_1 (Ent.tu 0) ?_
   rintro n_1 ⟨k_73, i_74⟩ h1
   rw [g30_L1] at h1
   refine VW.seq (VW.seq (VW.rA (tm 51 [(0, .sl 4 (rows cT49 a)), (1, .i .i64 k_73), (5, .i .i64 i_74), (9, .b (ltI i_74 (a.length : Int)))]) [] [] hC (VW.condJ h1 (fun h1 => ?_) (fun h1 => ?_))))
   · refine VW.exit ?_
     have e_ := leafR h1
     subst w_1
     exact vnext k_73 h (Ent.tu 0)
   refine VW.skip (VW.seq (VW.block (VW.seq (VW.seq ?_))))
   obtain ⟨e76, ⟨f77a, f77b, f77c, f77d⟩, h1⟩ := bindI h1
   refine VW.rA (tm 51 [(0, .sl 4 (rows cT49 a)), (1, .i .i64 k_73), (5, .i .i64 i_74), (18, .b (!eqI e76.a_ k_73))]) [] [] hC (VW.condI h1 (fun h1 => ?_) (fun h1 => ?_)) (h := by simp -implicitDefEqProofs [f77a, f77b, f77c, f77d])
   · refine VW.seq (VW.rA (tm 51 [(4, .i .i64 (-1))]) [] [] hC ?_)
     have e_ := leafR h1
     subst w_1
     obtain rfl := leafS h
     exact VW.ret (VRet.fin (by simp [eB30]))
   refine VW.skip (VW.seq (VW.rA (tm 51 [(0, .sl 4 (rows cT49 a)), (1, .i .i64 (aI .i64 k_73 1)), (5, .i .i64 i_74)]) [] [] hC (VW.seq (VW.seq ?_))))
   obtain ⟨e79, ⟨f80a, f80b, f80c, f80d⟩, h1⟩ := bindI h1
   refine VW.rA (tm 51 [(0, .sl 4 (rows cT49 a)), (1, .i .i64 (aI .i64 k_73 1)), (5, .i .i64 i_74), (27, .b (!eqI e79.b_ (aI .i64 k_73 1)))]) [] [] hC (VW.condI h1 (fun h1 => ?_) (fun h1 => ?_)) (h := by simp -implicitDefEqProofs [f80a, f80b, f80c, f80d])
   · refine VW.seq (VW.rA (tm 51 [(4, .i .i64 (-1))]) [] [] hC ?_)
     have e_ := leafR h1
     subst w_1
     obtain rfl := leafS h
     exact VW.ret (VRet.fin (by simp [eB30]))
   refine VW.skip (VW.seq (VW.rA (tm 51 [(0, .sl 4 (rows cT49 a)), (1, .i .i64 (aI .i64 (aI .i64 k_73 1) 1)), (5, .i .i64 i_74)]) [] [] hC (VW.seq (VW.seq ?_))))
   obtain ⟨e82, ⟨f83a, f83b, f83c, f83d⟩, h1⟩ := bindI h1
   refine VW.rA (tm 51 [(0, .sl 4 (rows cT49 a)), (1, .i .i64 (aI .i64 (aI .i64 k_73 1) 1)), (5, .i .i64 i_74), (37, .b (neF .f32 e82.lead_ (fOfI .f32 (aI .i64 (aI .i64 k_73 1) 1))))]) [] [] hC (VW.condI h1 (fun h1 => ?_) (fun h1 => ?_)) (h := by simp -implicitDefEqProofs [f83a, f83b, f83c, f83d])
   · refine VW.seq (VW.rA (tm 51 [(4, .i .i64 (-1))]) [] [] hC ?_)
     have e_ := leafR h1
     subst w_1
     obtain rfl := leafS h
     exact VW.ret (VRet.fin (by simp [eB30]))
   refine VW.skip (VW.seq (VW.rA (tm 51 [(0, .sl 4 (rows cT49 a)), (1, .i .i64 (aI .i64 (aI .i64 (aI .i64 k_73 1) 1) 1)), (5, .i .i64 i_74)]) [] [] hC (VW.seq (VW.seq ?_))))
   obtain ⟨e85, ⟨f86a, f86b, f86c, f86d⟩, h1⟩ := bindI h1
   refine VW.rA (tm 51 [(0, .sl 4 (rows cT49 a)), (1, .i .i64 (aI .i64 (aI .i64 (aI .i64 k_73 1) 1) 1)), (5, .i .i64 i_74), (47, .b (neF .f32 e85.sun_ (fOfI .f32 (aI .i64 (aI .i64 (aI .i64 k_73 1) 1) 1))))]) [] [] hC (VW.condI h1 (fun h1 => ?_) (fun h1 => ?_)) (h := by simp -implicitDefEqProofs [f86a, f86b, f86c, f86d])
   · refine VW.seq (VW.rA (tm 51 [(4, .i .i64 (-1))]) [] [] hC ?_)
     have e_ := leafR h1
     subst w_1
     obtain rfl := leafS h
     exact VW.ret (VRet.fin (by simp [eB30]))
   exact VW.skip (VW.rA (tm 51 [(0, .sl 4 (rows cT49 a)), (1, .i .i64 (aI .i64 (aI .i64 (aI .i64 (aI .i64 k_73 1) 1) 1) 1)), (5, .i .i64 i_74)]) [] [] hC (VW.rA (tm 51 [(0, .sl 4 (rows cT49 a)), (1, .i .i64 (aI .i64 (aI .i64 (aI .i64 (aI .i64 k_73 1) 1) 1) 1)), (5, .i .i64 (aI .i64 i_74 1))]) [] [] hC (vnext (aI .i64 (aI .i64 (aI .i64 (aI .i64 k_73 1) 1) 1) 1, aI .i64 i_74 1) (leafL h1) (Ent.tu 0))))
 rintro k_44 h
 replace h : (g30_j1 k_44).bind _ = _ := h
 rw [g30_j1] at h
 refine VW.seq (VW.rA (tm 51 [(4, .i .i64 k_44)]) [] [] hC ?_)
 obtain rfl := leafS h
 exact VW.ret (VRet.fin (by simp [eB30]))
theorem tl30 {a : List T49} {k : Int} {r : Int} (h : g30 a k = some r) : F30 [.sl 4 (rows cT49 a), .i .i64 k] = some (.i .i64 r) := tells_eq inj30 (a := (a, k)) h
noncomputable def g8 (a : T25) (k : Int) : Option (Int) :=
(g28 a.heat_ k).bind fun r1 =>
if ltI r1 0 = true then
some (-1)
else
(g28 a.store_ r1).bind fun r4 =>
if ltI r4 0 = true then
some (-1)
else
(g29 a.walls_ r4).bind fun r7 =>
if ltI r7 0 = true then
some (-1)
else
(g30 a.panes_ r7).bind fun r10 =>
if ltI r10 0 = true then
some (-1)
else
some r10
def eA8 (a : T25 × Int) : List V := [.agg (pT25 a.1), .i .i64 a.2]
def eB8 (r : Int) : V := .i .i64 r
theorem inj8 (a a' : T25 × Int) (h : eA8 a = eA8 a') : a = a' := by
  obtain ⟨⟨i339, i340, i341, i342⟩, i343⟩ := a
  obtain ⟨⟨i344, i345, i346, i347⟩, i348⟩ := a'
  simp only [eA8, pT25, List.cons.injEq, V.i.injEq, V.b.injEq, V.f.injEq, V.str.injEq, V.sl.injEq, V.agg.injEq, V.cptr.injEq, true_and, and_true] at h
  simp_all [ri cT47_inj, ri cT49_inj, ri cf_f32_inj]
noncomputable def F8 : List V → Option V := tells (fun a => g8 a.1 a.2) eA8 eB8
/- loop.example/g01229/laws.heldFlat -/
theorem ok8 : Tells Tryz.prog 8 F8 := by
 refine Tells.go 30 Tryz.func8 rfl rfl rfl (by kernel_rfl) (fun _ => rfl) ?_
 rintro ⟨a, k⟩ r h
 simp only [eA8, en, Nat.reduceAdd]
 replace h : (g8 a k).bind some = some r := bindS h
 rw [g8] at h
 have hC : CEnv.Ok Tryz.prog [(28, F28), (29, F29), (30, F30)] := ⟨.inl ok28, .inl ok29, .inl ok30, trivial⟩
 refine VW.seq (VW.rA (tm 30 [(1, .i .i64 k), (2, .ptr 0 0 0)]) [some (4, [(pT25 a)])] [] hC (VW.seq ?_))
 obtain ⟨r1, q2, h⟩ := bindE h
 have c2 := tl28 q2
 refine VW.rA (tm 30 [(1, .i .i64 r1), (2, .ptr 0 0 0)]) [some (4, [(pT25 a)])] [] hC (VW.seq (VW.seq (VW.rA (tm 30 [(1, .i .i64 r1), (2, .ptr 0 0 0), (10, .b (ltI r1 0))]) [some (4, [(pT25 a)])] [] hC (VW.condI h (fun h => ?_) (fun h => ?_))))) (h := by simp -implicitDefEqProofs [c2])
 · refine VW.seq (VW.rA (tm 30 [(4, .i .i64 (-1))]) [some (4, [(pT25 a)])] [] hC ?_)
   obtain rfl := leafS h
   exact VW.ret (VRet.fin (by simp [eB8]))
 refine VW.skip (VW.seq ?_)
 obtain ⟨r4, q5, h⟩ := bindE h
 have c5 := tl28 q5
 refine VW.rA (tm 30 [(1, .i .i64 r4), (2, .ptr 0 0 0)]) [some (4, [(pT25 a)])] [] hC (VW.seq (VW.seq (VW.rA (tm 30 [(1, .i .i64 r4), (2, .ptr 0 0 0), (16, .b (ltI r4 0))]) [some (4, [(pT25 a)])] [] hC (VW.condI h (fun h => ?_) (fun h => ?_))))) (h := by simp -implicitDefEqProofs [c5])
 · refine VW.seq (VW.rA (tm 30 [(4, .i .i64 (-1))]) [some (4, [(pT25 a)])] [] hC ?_)
   obtain rfl := leafS h
   exact VW.ret (VRet.fin (by simp [eB8]))
 refine VW.skip (VW.seq ?_)
 obtain ⟨r7, q8, h⟩ := bindE h
 have c8 := tl29 q8
 refine VW.rA (tm 30 [(1, .i .i64 r7), (2, .ptr 0 0 0)]) [some (4, [(pT25 a)])] [] hC (VW.seq (VW.seq (VW.rA (tm 30 [(1, .i .i64 r7), (2, .ptr 0 0 0), (22, .b (ltI r7 0))]) [some (4, [(pT25 a)])] [] hC (VW.condI h (fun h => ?_) (fun h => ?_))))) (h := by simp -implicitDefEqProofs [c8])
 · refine VW.seq (VW.rA (tm 30 [(4, .i .i64 (-1))]) [some (4, [(pT25 a)])] [] hC ?_)
   obtain rfl := leafS h
   exact VW.ret (VRet.fin (by simp [eB8]))
 refine VW.skip (VW.seq ?_)
 obtain ⟨r10, q11, h⟩ := bindE h
 have c11 := tl30 q11
 refine VW.rA (tm 30 [(1, .i .i64 r10)]) [some (4, [(pT25 a)])] [] hC (VW.seq (VW.seq (VW.rA (tm 30 [(1, .i .i64 r10), (28, .b (ltI r10 0))]) [some (4, [(pT25 a)])] [] hC (VW.condI h (fun h => ?_) (fun h => ?_))))) (h := by simp -implicitDefEqProofs [c11])
 · refine VW.seq (VW.rA (tm 30 [(4, .i .i64 (-1))]) [some (4, [(pT25 a)])] [] hC ?_)
   obtain rfl := leafS h
   exact VW.ret (VRet.fin (by simp [eB8]))
 refine VW.skip (VW.seq (VW.rA (tm 30 [(4, .i .i64 r10)]) [some (4, [(pT25 a)])] [] hC ?_))
 obtain rfl := leafS h
 exact VW.ret (VRet.fin (by simp [eB8]))
theorem tl8 {a : T25} {k : Int} {r : Int} (h : g8 a k = some r) : F8 [.agg [.sl 1 (rows cf_f32 a.heat_), .sl 1 (rows cf_f32 a.store_), .sl 8 (rows cT47 a.walls_), .sl 4 (rows cT49 a.panes_)], .i .i64 k] = some (.i .i64 r) := tells_eq inj8 (a := (a, k)) h
end Go.Proofs.YtbohajclnmmkhaaGreatDoor
