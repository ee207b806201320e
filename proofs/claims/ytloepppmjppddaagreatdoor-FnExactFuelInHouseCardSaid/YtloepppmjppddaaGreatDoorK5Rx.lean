/- Plain laws: FuelInHouse. -/
import Derived.Test.YtloepppmjppddaaGreatDoorK5Qb
import Derived.Test.YtloepppmjppddaaGreatDoorK5c
import Derived.Test.YtloepppmjppddaaGreatDoorVxGi
namespace Go.Proofs.YtloepppmjppddaaGreatDoor
open Go.VL
set_option linter.unusedSimpArgs false
set_option linter.unusedVariables false
set_option maxHeartbeats 4000000
theorem ten_fits {x : F32} (hx : Hs x) (ha : Wu x = true) (h : Qa .f32 x (some 1092616192) = true) : Jq 4 x:=by
 obtain ⟨b,rfl,hb⟩:=hx
 have h1 : b < 2139095040:=by simpa [Wu,amt] using ha
 exact fits_le (k:=4) (by decide) h1 (show Ieee.single.read 1092616192 = .number false 10485760 (-20) by decide) (by decide) (by decide) h
theorem Gb {a h f : F32} (hf : Hs f) (h1 : layF a h f = true) : Jq 4 f:=by
 unfold layF at h1
 simp only [Bool.and_eq_true] at h1
 exact ten_fits hf h1.1.2.1 h1.1.2.2
def sumF (r : T148) : F32:=Ws .f32 (Ws .f32 (Ws .f32 (Ws .f32 (Ws .f32 r.a0_ r.a1_) r.a2_) r.a3_) r.a4_) r.a5_
theorem sum_spec (r : T148) : g91 r = some (sumF r):=rfl
theorem sum_impl (r : T148) : g93 [r.a0_,r.a1_,r.a2_,r.a3_,r.a4_,r.a5_] = some (sumF r):=by
 have hL:=Ua (body:=g93_L1 [r.a0_,r.a1_,r.a2_,r.a3_,r.a4_,r.a5_]) (fun i => ((match i with
  | 0 => r.a0_
  | 1 => Ws .f32 r.a0_ r.a1_
  | 2 => Ws .f32 (Ws .f32 r.a0_ r.a1_) r.a2_
  | 3 => Ws .f32 (Ws .f32 (Ws .f32 r.a0_ r.a1_) r.a2_) r.a3_
  | 4 => Ws .f32 (Ws .f32 (Ws .f32 (Ws .f32 r.a0_ r.a1_) r.a2_) r.a3_) r.a4_
  | _ => sumF r : F32),(i : Int))) 5 (fun i hi => by
   rcases (by omega : i = 0∨i = 1∨i = 2∨i = 3∨i = 4) with rfl | rfl | rfl | rfl | rfl <;> rfl) (r:=sumF r) rfl
 unfold g93
 have e1 : Wp [r.a0_,r.a1_,r.a2_,r.a3_,r.a4_,r.a5_] 0 = some r.a0_:=rfl
 rw [e1,Option.bind_some,Uq (by omega) (by simp) (by simp),Option.bind_some]
 have : loopO (g93_L1 [r.a0_,r.a1_,r.a2_,r.a3_,r.a4_,r.a5_]) (r.a0_,0) = some (sumF r):=hL
 rw [this]
 rfl
theorem sum_fits {w : T149} (hw : WdOk w) (h : woodF w = true) : Jq 9 (sumF w.fuel_):=by
 obtain ⟨_,_,f0,f1,f2,f3,f4,f5⟩:=hw
 unfold woodF at h
 simp only [Bool.and_eq_true] at h
 obtain ⟨⟨⟨⟨⟨l0,l1⟩,l2⟩,l3⟩,l4⟩,l5⟩:=h
 unfold sumF
 have a1:=Gp (k:=4) (by decide) (Gb f0 l0) (Gb f1 l1)
 have a2:=Gp (k:=5) (by decide) a1 ((Gb f2 l2).mono (by decide))
 have a3:=Gp (k:=6) (by decide) a2 ((Gb f3 l3).mono (by decide))
 have a4:=Gp (k:=7) (by decide) a3 ((Gb f4 l4).mono (by decide))
 exact Gp (k:=8) (by decide) a4 ((Gb f5 l5).mono (by decide))
def Hd (l : List T149) : F32:=l.foldl (fun a w => Ws .f32 a (sumF w.fuel_)) (some 0)
theorem fold_take {α β : Type} (f : β→α→β) (b : β) (l : List α) {i : Nat} (h : i < l.length) : (l.take (i + 1)).foldl f b = f ((l.take i).foldl f b) l[i]:=by
 rw [List.take_succ_eq_append_getElem h,List.foldl_append]
 rfl
theorem fuel_spec (s : T85) (hl : s.logs_.length≤1048576) : loopO (g46_L1 s) (some 0,0) = some (Hd s.logs_):=by
 have:=Ua (body:=g46_L1 s) (fun i => ((s.logs_.take i).foldl (fun a w => Ws .f32 a (sumF w.fuel_)) (some 0),(i : Int))) s.logs_.length (fun i hi => by
  rw [g46_L1,if_pos (by simp [Zo]; omega),Yh hi,Option.bind_some,sum_spec,Option.bind_some,Xd (by omega),fold_take _ _ _ hi]) (r:=Hd s.logs_) (by
  rw [g46_L1,if_neg (by simp [Zo]),List.take_length]
  rfl)
 simpa using this
theorem fuel_impl (s : T85) (hl : s.logs_.length≤1048576) : g48 s = some (Hd s.logs_):=by
 have:=Ua (body:=g48_L1 s) (fun i => ((s.logs_.take i).foldl (fun a w => Ws .f32 a (sumF w.fuel_)) (some 0),(i : Int))) s.logs_.length (fun i hi => by
  rw [g48_L1,if_pos (by simp [Zo]; omega),Yh hi,Option.bind_some,sum_impl,Option.bind_some,Xd (by omega),fold_take _ _ _ hi]) (r:=Hd s.logs_) (by
  rw [g48_L1,if_neg (by simp [Zo]),List.take_length]
  rfl)
 unfold g48
 have h2 : loopO (g48_L1 s) (some 0,0) = some (Hd s.logs_):=by simpa using this
 rw [h2]
 rfl
theorem fold_fits {α : Type} (f : α→F32) (k : Nat) : ∀ (l : List α) (j : Nat) (a : F32),k≤j→j + l.length≤100→Jq j a→(∀ x ∈ l,Jq k (f x))→Jq (j + l.length) (l.foldl (fun a w => Ws .f32 a (f w)) a)
 | [],j,a,_,_,h,_ => h
 | x :: l,j,a,h1,h2,h3,h4 => by
  simp only [List.length_cons] at h2
  have:=fold_fits f k l (j + 1) (Ws .f32 a (f x)) (by omega) (by omega) (Gp (by omega) h3 ((h4 x (by simp)).mono h1)) (fun y hy => h4 y (by simp [hy]))
  rw [List.length_cons,show j + (l.length + 1) = j + 1 + l.length by omega]
  exact this
theorem fuel_fits {s : T85} (h : StOk s) (hl : s.logs_.length≤6) (hw : ∀ w ∈ s.logs_,woodF w = true) : Jq 15 (Hd s.logs_):=by
 have:=fold_fits (fun w : T149 => sumF w.fuel_) 9 s.logs_ 9 (some 0) (by omega) (by omega) (fits_zero 9) (fun w hw' => sum_fits (h.logs w hw') (hw w hw'))
 exact this.mono (by omega)
theorem fits_fin {k : Nat} (hk : k≤119) {x : F32} (h : Jq k x) : Hs x∧Kw x = true:=by
 obtain ⟨b,rfl,hb⟩:=h
 refine ⟨⟨b,rfl,by omega⟩,?_⟩
 show finB b = true
 unfold finB
 have : b % 2147483648 = b:=Nat.mod_eq_of_lt (by omega)
 rw [this]
 simp
 omega
theorem each_stove {h : T34} (hk : HOk h) (hs : SmallHouse h) (hf : Facts h) : ∀ x ∈ h.hearths_,g90 x.stove_ = some true∧x.stove_.logs_.length≤6∧∀ w ∈ x.stove_.logs_,woodF w = true:=by
 intro x hx
 obtain ⟨i,hi,rfl⟩:=List.getElem_of_mem hx
 have he:=hf.each i hi
 obtain ⟨b,s1,_,s3⟩:=stove_both (hk.stoves _ hx) (hs.logs _ hx)
 cases b with
 | true => exact ⟨s1,(s3 rfl).1,(s3 rfl).2.1⟩
 | false =>
  exfalso
  rw [g22_L1,if_pos (by simp [Zo]; omega),Yh hi,Option.bind_some] at he
  unfold g59 at he
  rw [s1] at he
  simp at he
theorem law5 (aH : T34) (h : HypH aH) : g5 aH = some true:=by
 unfold g5
 obtain ⟨r1,e1,k1⟩:=z7 (len_of h) (n:=1048576) (by omega) (by omega)
 rw [e1,Option.bind_some]
 rcases k1 with rfl | ⟨a1,b1,sH⟩
 ·rw [if_pos (by simp [Zo])]
 rw [if_neg (by simp [Zo]; omega)]
 obtain ⟨b,h1,h2,h3⟩:=valid_both (hok_of h) sH
 unfold g14 g15
 simp only [c9 sH,Option.bind_some,h1,h2,q11 sH]
 cases b with
 | false => simp [q59,Yx]
 | true =>
  have hF:=h3 rfl
  have hall:=each_stove (hok_of h) sH hF
  have hnum:=hF.hearths
  have l1 : loopO (g14_L1 aH) (some 0,0) = some (.inl (aH.hearths_.foldl (fun a x => Ws .f32 a (Hd x.stove_.logs_)) (some 0))):=by
   have:=Ua (body:=g14_L1 aH) (fun i => ((aH.hearths_.take i).foldl (fun a x => Ws .f32 a (Hd x.stove_.logs_)) (some 0),(i : Int))) aH.hearths_.length (fun i hi => by
    have hx:=hall _ (List.getElem_mem hi)
    rw [g14_L1,if_pos (by simp [Zo]; omega),Yh hi,Option.bind_some]
    unfold g46
    rw [hx.1,Option.bind_some,if_neg (by simp),fuel_spec _ (by omega),Option.bind_some]
    simp only [g46_j1,Option.bind_some]
    rw [if_neg (by simp [Yx]),Xd (by omega),fold_take _ _ _ hi]) (r:=.inl (aH.hearths_.foldl (fun a x => Ws .f32 a (Hd x.stove_.logs_)) (some 0))) (by
    rw [g14_L1,if_neg (by simp [Zo]),List.take_length])
   simpa using this
  have l2 : loopO (g15_L1 aH) (some 0,0) = some (aH.hearths_.foldl (fun a x => Ws .f32 a (Hd x.stove_.logs_)) (some 0)):=by
   have:=Ua (body:=g15_L1 aH) (fun i => ((aH.hearths_.take i).foldl (fun a x => Ws .f32 a (Hd x.stove_.logs_)) (some 0),(i : Int))) aH.hearths_.length (fun i hi => by
    have hx:=hall _ (List.getElem_mem hi)
    rw [g15_L1,if_pos (by simp [Zo]; omega),Yh hi,Option.bind_some,fuel_impl _ (by omega),Option.bind_some,Xd (by omega),fold_take _ _ _ hi]) (r:=(aH.hearths_.foldl (fun a x => Ws .f32 a (Hd x.stove_.logs_)) (some 0))) (by
    rw [g15_L1,if_neg (by simp [Zo]),List.take_length])
   simpa using this
  have hfit:=fold_fits (fun x : T87 => Hd x.stove_.logs_) 15 aH.hearths_ 15 (some 0) (by omega) (by omega) (fits_zero 15) (fun x hx => fuel_fits ((hok_of h).stoves x hx) (hall x hx).2.1 (hall x hx).2.2)
  obtain ⟨f1,f2⟩:=fits_fin (by omega) hfit
  have l3 : g47 (aH.hearths_.foldl (fun a x => Ws .f32 a (Hd x.stove_.logs_)) (some 0)) = some (aH.hearths_.foldl (fun a x => Ws .f32 a (Hd x.stove_.logs_)) (some 0),0):=by
   unfold g47
   rw [fin_spec f1,f2]
   rfl
  simp [l1,l2,g14_j1,g15_j1,l3,q59,Yx]
end Go.Proofs.YtloepppmjppddaaGreatDoor
