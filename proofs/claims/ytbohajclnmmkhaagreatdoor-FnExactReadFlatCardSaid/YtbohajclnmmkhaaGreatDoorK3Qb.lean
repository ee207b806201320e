/- Plain laws of reading flats: the reference finds the valid flat whose text it is, or none. Plain laws of reading flats: the reference answers on every text. Plain laws of reading flats: the program finds the valid flat whose text it is, or none. Plain law of reading flats: both ways read the same, and the results are memory of their own. -/
import Derived.Test.YtbohajclnmmkhaaGreatDoorK3c
import Derived.Test.YtbohajclnmmkhaaGreatDoorK3Qa
import Derived.Test.YtbohajclnmmkhaaGreatDoorK3c
import Derived.Test.YtbohajclnmmkhaaGreatDoorK3c
namespace Go.Proofs.YtbohajclnmmkhaaGreatDoor
open Go.VL
set_option linter.unusedSimpArgs false
set_option linter.unusedVariables false
set_option maxHeartbeats 4000000

/-- A number that is none of the others. -/
def NumOk (x : F32) : Prop := ∃ b, x = some b ∧ b < 4294967296 ∧ nanB b = false
theorem heat_ok {x : F32} (h : FOk x) (hv : heatF x = true) : NumOk x := by
  obtain ⟨b, rfl, hb⟩ := h
  exact ⟨b, rfl, hb, heat_num hb hv⟩
theorem amt_ok {x : F32} (h : FOk x) (hv : amtF x = true) : NumOk x := by
  obtain ⟨b, rfl, hb⟩ := h
  exact ⟨b, rfl, hb, amt_num hv⟩
theorem store_ok {x : F32} (h : FOk x) (hv : storeF x = true) : NumOk x := by
  unfold storeF at hv
  simp only [Bool.and_eq_true] at hv
  exact amt_ok h hv.1.1
theorem wall_ok {n : Nat} {w : T47} (h : WOk w) (hv : wallV n w = true) : NumOk w.lead_ ∧ NumOk w.store_ ∧ NumOk w.heat_.a0_ ∧ NumOk w.heat_.a1_ ∧ NumOk w.heat_.a2_ ∧ NumOk w.heat_.a3_ := by
  obtain ⟨h1, h2, h3, h4, h5, h6⟩ := h
  unfold wallV at hv
  simp only [Bool.and_eq_true] at hv
  obtain ⟨⟨⟨⟨a, b⟩, c⟩, d⟩, ⟨⟨⟨_, e⟩, _⟩, _⟩, g⟩ := hv
  exact ⟨amt_ok h1 e, store_ok h2 g, heat_ok h3 a, heat_ok h4 b, heat_ok h5 c, heat_ok h6 d⟩
theorem pane_ok {n : Nat} {p : T49} (h : POk p) (hv : paneV n p = true) : NumOk p.lead_ ∧ NumOk p.sun_ := by
  unfold paneV at hv
  simp only [Bool.and_eq_true] at hv
  exact ⟨amt_ok h.1 hv.1.2.1, amt_ok h.2 hv.2.1⟩
theorem fT_num {b : Nat} (h : nanB b = false) : fT (some b) = hexT b := by
  unfold fT canon
  simp [h]
theorem num56 {x : F32} (h : NumOk x) : g56 (sb (fT x)) = some (x, true) := by
  obtain ⟨b, rfl, hb, hn⟩ := h
  rw [fT_num hn]
  exact read56 hb hn
theorem nums31 {xs : List F32} (hl : xs.length ≤ 1000) (h : ∀ x ∈ xs, NumOk x) : g31 (xs.map fun x => sb (fT x)) = some (xs, true) := by
  have hL : loopO (g31_L1 (xs.map fun x => sb (fT x))) (0, []) = some (.inl xs) := by
    have := loop_run (body := g31_L1 (xs.map fun x => sb (fT x))) (fun i => ((i : Int), xs.take i)) xs.length (fun i hi => by
      rw [g31_L1, if_pos (by simp [ltI]; omega), idx_nat (by simpa using hi), Option.bind_some, List.getElem_map, num56 (h _ (List.getElem_mem hi)), Option.bind_some]
      rw [if_neg (by simp), appK_of (by simp; omega) (by simp; omega), Option.bind_some, succI (by omega), List.take_succ_eq_append_getElem hi]) (r := .inl xs) (by
      rw [g31_L1, if_neg (by simp [ltI]), List.take_length])
    simpa using this
  unfold g31
  rw [hL]
  rfl
theorem any31 {ws : List ByteArray} (hl : ws.length ≤ 2000000) : ∃ l ok, g31 ws = some (l, ok) ∧ (∀ x ∈ l, FOk x) ∧ (ok = true → l.length = ws.length) := by
  obtain ⟨r, e, hr⟩ := loopO_rule (body := g31_L1 ws) (fun st => ws.length - st.1.toNat) (fun st => ∃ (q : Nat) (l : List F32), st = ((q : Int), l) ∧ q ≤ ws.length ∧ l.length = q ∧ ∀ x ∈ l, FOk x)
    (fun r => match r with
      | .inl y => y.length = ws.length ∧ ∀ x ∈ y, FOk x
      | .inr z => z = ([], false)) (fun st ⟨q, l, e, q1, q2, q3⟩ => by
    subst e
    rw [g31_L1]
    by_cases hq : q < ws.length
    · rw [if_pos (by simp [ltI]; omega), idx_nat hq, Option.bind_some]
      obtain ⟨k, b, e1, e2⟩ := any56 ws[q].data.toList
      rw [sb_self] at e1
      rw [e1, Option.bind_some]
      cases b with
      | false => exact .inr ⟨_, by rw [if_pos (by simp)], rfl⟩
      | true =>
        left
        rw [if_neg (by simp), appK_of (by simp; omega) (by simp; omega), Option.bind_some, succI (by omega)]
        refine ⟨_, rfl, ⟨q + 1, _, rfl, by omega, by simp; omega, fun x hx => ?_⟩, by simp only; omega⟩
        rcases List.mem_append.1 hx with hx | hx
        · exact q3 x hx
        · simp at hx; subst hx; exact ⟨k, rfl, e2⟩
    · right
      rw [if_neg (by simp [ltI]; omega)]
      exact ⟨_, rfl, by omega, q3⟩) (s := (0, [])) ⟨0, [], rfl, by omega, rfl, by simp⟩
  unfold g31
  rw [e, Option.bind_some]
  cases r with
  | inl y => exact ⟨y, true, rfl, hr.2, fun _ => hr.1⟩
  | inr z => simp only at hr; subst hr; exact ⟨[], false, rfl, by simp, fun h => by cases h⟩
theorem itoa_minus {n : Int} (h : 0 ≤ n) : Lib.itoa n ≠ [45] := fun e => by
  have := dig_no (c := 45) h rfl
  rw [e] at this
  simp at this
theorem read32 {s : Int} (h0 : -1 ≤ s) (h1 : s < 100) : g32 (sb (sideT s)) = some (s, true) := by
  unfold g32 sideT
  rw [show (⟨#[45]⟩ : ByteArray) = sb [45] from rfl, eqS_sb]
  by_cases h : s < 0
  · have : s = -1 := by omega
    subst this
    rfl
  · rw [if_neg h, if_neg (by simpa using itoa_minus (by omega)), num98, Option.bind_some, numR_itoa (by omega) (by omega)]
theorem any32 (s : ByteArray) : ∃ n b, g32 s = some (n, b) := by
  unfold g32
  split
  · exact ⟨_, _, rfl⟩
  · have := num98 s.data.toList
    rw [sb_self] at this
    rw [this]
    exact ⟨_, _, rfl⟩

/-- The part of a flat that its first lines tell. -/
theorem line_at {f : T25} {i : Nat} (hm : f.store_.length = f.heat_.length) (hi : i < (linesP f).length) :
    (∃ (h1 : i < f.heat_.length) (h2 : i < f.store_.length), (linesP f)[i] = roomP f.heat_[i] f.store_[i]) ∨ (f.heat_.length ≤ i ∧ ∃ h : i - f.heat_.length < f.walls_.length, (linesP f)[i] = wallP f.walls_[i - f.heat_.length]) ∨ (f.heat_.length + f.walls_.length ≤ i ∧ ∃ h : i - f.heat_.length - f.walls_.length < f.panes_.length, (linesP f)[i] = paneP f.panes_[i - f.heat_.length - f.walls_.length]) := by
  have hl := linesP_len f
  by_cases c1 : i < f.heat_.length
  · left
    refine ⟨c1, by omega, ?_⟩
    simp only [linesP]
    rw [List.getElem_append_left (by simp [rooms_len]; omega), List.getElem_append_left (by rw [rooms_len]; exact c1)]
    simp [roomsP, c1, show i < f.store_.length by omega]
  · right
    by_cases c2 : i < f.heat_.length + f.walls_.length
    · left
      refine ⟨by omega, by omega, ?_⟩
      simp only [linesP]
      rw [List.getElem_append_left (by simp [rooms_len]; omega), List.getElem_append_right (by rw [rooms_len]; omega)]
      simp [rooms_len]
    · right
      refine ⟨by omega, by omega, ?_⟩
      simp only [linesP]
      rw [List.getElem_append_right (by simp [rooms_len]; omega)]
      simp [rooms_len, Nat.sub_sub]
def stepS (f : T25) (i : Nat) : Int × List F32 × List F32 × List T47 × List T49 := ((i : Int), f.heat_.take i, f.store_.take i, f.walls_.take (i - f.heat_.length), f.panes_.take (i - f.heat_.length - f.walls_.length))

theorem exact4 {f : T25} (hf : FlOk f) (hv : flatV f = true) : g4 (sb (flatT f)) = some (f, 0) := by
  obtain ⟨⟨n1, n2⟩, n3, n4, n5, v1, v2, v3, v4⟩ := flatV_of hv
  have hfo := hf
  obtain ⟨q1, q2, q3, q4⟩ := hf
  have hlen := (flat_len hv).1
  have hN := linesP_len f
  have hc : g9 (sb (flatT f)) 10 = some ((cutL 10 (flatT f)).map sb) := split72 (c := 10) (by omega)
  rw [flat_cut, List.map_append] at hc
  have hcl : ((((linesP f).map fun l => Lib.join l [32]).map sb) ++ [[]].map sb).length = (linesP f).length + 1 := by simp
  have hlast : idx ((((linesP f).map fun l => Lib.join l [32]).map sb) ++ [[]].map sb) ((linesP f).length : Int) = some (sb []) := by
    rw [idx_nat (by rw [hcl]; omega), List.getElem_append_right (by simp)]
    simp
  have hat : ∀ i (hi : i < (linesP f).length), idx ((((linesP f).map fun l => Lib.join l [32]).map sb) ++ [[]].map sb) (i : Int) = some (sb (Lib.join (linesP f)[i] [32])) := fun i hi => by
    rw [idx_nat (by rw [hcl]; omega), List.getElem_append_left (by simpa using hi)]
    simp
  have hjl : ∀ i (hi : i < (linesP f).length), (Lib.join (linesP f)[i] [32]).length ≤ 1048576 := fun i hi => by
    have := lines_len hv _ (List.getElem_mem hi)
    unfold lineOf at this
    simp at this
    omega
  have hw9 : ∀ i (hi : i < (linesP f).length), g9 (sb (Lib.join (linesP f)[i] [32])) 32 = some ((linesP f)[i].map sb) := fun i hi => by
    have := split72 (c := 32) (hjl i hi)
    rw [line_cut (List.getElem_mem hi)] at this
    exact this
  unfold g4
  rw [hc, Option.bind_some]
  generalize hr : (((linesP f).map fun l => Lib.join l [32]).map sb) ++ [[]].map sb = r1 at *
  have hs : sI .i64 (r1.length : Int) 1 = ((linesP f).length : Int) := by rw [hcl, sI64 (by omega) (by omega)]; omega
  rw [hs, hlast, Option.bind_some, if_neg (by rw [sb_nil, eqS_sb, hcl]; simp [ltI]; omega)]
  have hL : loopO (g4_L1 r1) (0, [], [], [], []) = some (.inl (f.heat_, f.store_, f.walls_, f.panes_)) := by
    have := loop_run (body := g4_L1 r1) (stepS f) (linesP f).length (fun i hi => by
      unfold stepS
      rw [g4_L1, hs, if_pos (by simp [ltI]; omega), hat i hi, Option.bind_some, hw9 i hi, Option.bind_some]
      have hsu := succI (i := i) (by omega)
      rcases line_at n3 hi with ⟨c1, c2, e⟩ | ⟨c0, c1, e⟩ | ⟨c0, c1, e⟩
      · rw [e]
        have k1 := heat_ok (q1 _ (List.getElem_mem c1)) (v1 _ (List.getElem_mem c1))
        have k2 := store_ok (q2 _ (List.getElem_mem c2)) (v2 _ (List.getElem_mem c2))
        have hg := nums31 (xs := [f.heat_[i], f.store_[i]]) (by simp) (by simp [k1, k2])
        simp only [List.map_cons, List.map_nil] at hg
        unfold roomP
        simp only [List.map_cons, List.map_nil, List.length_cons, List.length_nil, List.tail_cons]
        rw [show idx [sb [114, 111, 111, 109], sb (fT f.heat_[i]), sb (fT f.store_[i])] 0 = some (sb [114, 111, 111, 109]) from rfl, Option.bind_some, show (⟨#[114, 111, 111, 109]⟩ : ByteArray) = sb [114, 111, 111, 109] from rfl, eqS_self, if_pos rfl, cutK_of (by omega) (by omega) (by omega), Option.bind_some, hg, Option.bind_some, if_neg (by simp [eqI])]
        simp only
        rw [show idx [f.heat_[i], f.store_[i]] 0 = some f.heat_[i] from rfl, Option.bind_some, appK_of (by simp; omega) (by simp; omega), Option.bind_some, show idx [f.heat_[i], f.store_[i]] 1 = some f.store_[i] from rfl, Option.bind_some, appK_of (by simp; omega) (by simp; omega), Option.bind_some]
        unfold g4_j2
        rw [if_neg (by simp), hsu, List.take_succ_eq_append_getElem c1, List.take_succ_eq_append_getElem c2, show i - f.heat_.length = 0 by omega, show i + 1 - f.heat_.length = 0 by omega]
      · rw [e]
        have hm := List.getElem_mem c1
        obtain ⟨k1, k2, k3, k4, k5, k6⟩ := wall_ok (q3 _ hm) (v3 _ hm)
        obtain ⟨⟨s1, s2⟩, s3, s4⟩ := wall_sides (v3 _ hm) n2
        have ht1 : f.walls_.take (i + 1 - f.heat_.length) = f.walls_.take (i - f.heat_.length) ++ [f.walls_[i - f.heat_.length]] := by
          rw [show i + 1 - f.heat_.length = (i - f.heat_.length) + 1 by omega, List.take_succ_eq_append_getElem c1]
        rw [ht1]
        generalize f.walls_[i - f.heat_.length] = w at *
        have hg := nums31 (xs := [w.lead_, w.store_, w.heat_.a0_, w.heat_.a1_, w.heat_.a2_, w.heat_.a3_]) (by simp) (by simp [k1, k2, k3, k4, k5, k6])
        simp only [List.map_cons, List.map_nil] at hg
        unfold wallP
        simp only [List.map_cons, List.map_nil, List.length_cons, List.length_nil, List.drop_succ_cons, List.drop_zero]
        rw [show ∀ (x : ByteArray) (l : List ByteArray), idx (x :: l) 0 = some x from fun _ _ => rfl, Option.bind_some, show (⟨#[114, 111, 111, 109]⟩ : ByteArray) = sb [114, 111, 111, 109] from rfl, eqS_sb, if_neg (by decide), Option.bind_some, show (⟨#[119, 97, 108, 108]⟩ : ByteArray) = sb [119, 97, 108, 108] from rfl, show (⟨#[112, 97, 110, 101]⟩ : ByteArray) = sb [112, 97, 110, 101] from rfl, eqS_self, eqS_sb, if_neg (by simp [ltI]),
          show ∀ (x y : ByteArray) (l : List ByteArray), idx (x :: y :: l) 1 = some y from fun _ _ _ => rfl, Option.bind_some, read32 (by omega) (by omega), Option.bind_some, show ∀ (x y z : ByteArray) (l : List ByteArray), idx (x :: y :: z :: l) 2 = some z from fun _ _ _ _ => rfl, Option.bind_some, read32 (by omega) (by omega), Option.bind_some, cutK_of (by omega) (by omega) (by omega), Option.bind_some, hg, Option.bind_some, if_neg (by simp), Option.bind_some, eqS_sb, if_neg (by decide), if_neg (by simp [eqI])]
        simp only
        generalize hxs : [w.lead_, w.store_, w.heat_.a0_, w.heat_.a1_, w.heat_.a2_, w.heat_.a3_] = xs
        have x0 : idx xs 0 = some w.lead_ := by rw [← hxs]; rfl
        have x1 : idx xs 1 = some w.store_ := by rw [← hxs]; rfl
        have x2 : idx xs 2 = some w.heat_.a0_ := by rw [← hxs]; rfl
        have x3 : idx xs 3 = some w.heat_.a1_ := by rw [← hxs]; rfl
        have x4 : idx xs 4 = some w.heat_.a2_ := by rw [← hxs]; rfl
        have x5 : idx xs 5 = some w.heat_.a3_ := by rw [← hxs]; rfl
        rw [x0, Option.bind_some, x1, Option.bind_some, x2, Option.bind_some, x3, Option.bind_some, x4, Option.bind_some, x5, Option.bind_some]
        unfold g4_j3 g4_j2
        simp only
        rw [appK_of (by simp; omega) (by simp; omega), Option.bind_some, if_neg (by simp), hsu, List.take_of_length_le (i := i) (by omega), List.take_of_length_le (i := i) (by omega), List.take_of_length_le (i := i + 1) (by omega), List.take_of_length_le (i := i + 1) (by omega), show i - f.heat_.length - f.walls_.length = 0 by omega, show i + 1 - f.heat_.length - f.walls_.length = 0 by omega]
      · rw [e]
        have hm := List.getElem_mem c1
        obtain ⟨k1, k2⟩ := pane_ok (q4 _ hm) (v4 _ hm)
        obtain ⟨⟨s1, s2⟩, s3, s4⟩ := pane_sides (v4 _ hm) n2
        have ht1 : f.panes_.take (i + 1 - f.heat_.length - f.walls_.length) = f.panes_.take (i - f.heat_.length - f.walls_.length) ++ [f.panes_[i - f.heat_.length - f.walls_.length]] := by
          rw [show i + 1 - f.heat_.length - f.walls_.length = (i - f.heat_.length - f.walls_.length) + 1 by omega, List.take_succ_eq_append_getElem c1]
        rw [ht1]
        generalize f.panes_[i - f.heat_.length - f.walls_.length] = w at *
        have hg := nums31 (xs := [w.lead_, w.sun_]) (by simp) (by simp [k1, k2])
        simp only [List.map_cons, List.map_nil] at hg
        unfold paneP
        simp only [List.map_cons, List.map_nil, List.length_cons, List.length_nil, List.drop_succ_cons, List.drop_zero]
        rw [show ∀ (x : ByteArray) (l : List ByteArray), idx (x :: l) 0 = some x from fun _ _ => rfl, Option.bind_some, show (⟨#[114, 111, 111, 109]⟩ : ByteArray) = sb [114, 111, 111, 109] from rfl, eqS_sb, if_neg (by decide), Option.bind_some, show (⟨#[119, 97, 108, 108]⟩ : ByteArray) = sb [119, 97, 108, 108] from rfl, show (⟨#[112, 97, 110, 101]⟩ : ByteArray) = sb [112, 97, 110, 101] from rfl, eqS_self, eqS_sb, if_neg (by simp [ltI]),
          show ∀ (x y : ByteArray) (l : List ByteArray), idx (x :: y :: l) 1 = some y from fun _ _ _ => rfl, Option.bind_some, read32 (by omega) (by omega), Option.bind_some, show ∀ (x y z : ByteArray) (l : List ByteArray), idx (x :: y :: z :: l) 2 = some z from fun _ _ _ _ => rfl, Option.bind_some, read32 (by omega) (by omega), Option.bind_some, cutK_of (by omega) (by omega) (by omega), Option.bind_some, hg, Option.bind_some, if_neg (by simp), Option.bind_some, eqS_self, if_pos rfl]
        simp only
        rw [show idx [w.lead_, w.sun_] 0 = some w.lead_ from rfl, Option.bind_some, show idx [w.lead_, w.sun_] 1 = some w.sun_ from rfl, Option.bind_some, appK_of (by simp; omega) (by simp; omega), Option.bind_some]
        unfold g4_j2
        rw [if_neg (by simp [eqI]), hsu, List.take_of_length_le (i := i) (by omega), List.take_of_length_le (i := i) (by omega), List.take_of_length_le (i := i + 1) (by omega), List.take_of_length_le (i := i + 1) (by omega), List.take_of_length_le (i := i - f.heat_.length) (by omega), List.take_of_length_le (i := i + 1 - f.heat_.length) (by omega)]) (r := .inl (f.heat_, f.store_, f.walls_, f.panes_)) (by
      unfold stepS
      rw [g4_L1, hs, if_neg (by simp [ltI]), List.take_of_length_le (by omega), List.take_of_length_le (by omega), List.take_of_length_le (by omega), List.take_of_length_le (by omega)])
    simpa [stepS] using this
  rw [hL, Option.bind_some]
  unfold g4_j1
  have hff : (⟨f.heat_, f.store_, f.walls_, f.panes_⟩ : T25) = f := by cases f; rfl
  simp only [hff]
  rw [flat11 hfo (by omega) (by omega) (by omega) (by omega), Option.bind_some, hv, if_neg (by simp), text12 hfo hv, Option.bind_some, Option.bind_some, eqS_self]
  rfl
end Go.Proofs.YtbohajclnmmkhaaGreatDoor
namespace Go.Proofs.YtbohajclnmmkhaaGreatDoor
open Go.VL
set_option linter.unusedSimpArgs false
set_option linter.unusedVariables false
set_option maxHeartbeats 4000000

theorem idx_mem {α : Type} {l : List α} {i : Int} (h0 : 0 ≤ i) (h : i.toNat < l.length) : ∃ e, idx l i = some e ∧ e ∈ l := ⟨_, idx_of h0 h, List.getElem_mem h⟩
abbrev St := Int × List F32 × List F32 × List T47 × List T49
/-- What a line may do. -/
def Good (q : Nat) (r : St ⊕ ((List F32 × List F32 × List T47 × List T49) ⊕ (T25 × Int))) : Prop := match r with
  | .inl st => ∃ l1 l2 l3 l4, st = (((q + 1 : Nat) : Int), l1, l2, l3, l4) ∧ (l1.length ≤ q + 1 ∧ l2.length ≤ q + 1 ∧ l3.length ≤ q + 1 ∧ l4.length ≤ q + 1) ∧ FlOk ⟨l1, l2, l3, l4⟩
  | .inr (.inl _) => False
  | .inr (.inr z) => z = (⟨[], [], [], []⟩, 5)
theorem good_j2 {q : Nat} {b : Bool} {l1 l2 : List F32} {l3 : List T47} {l4 : List T49} (hq : q ≤ 1000) (hl : l1.length ≤ q + 1 ∧ l2.length ≤ q + 1 ∧ l3.length ≤ q + 1 ∧ l4.length ≤ q + 1) (hf : FlOk ⟨l1, l2, l3, l4⟩) : ∃ r, g4_j2 (q : Int) b l1 l2 l3 l4 = some r ∧ Good q r := by
  unfold g4_j2
  cases b with
  | false => exact ⟨_, if_pos (by simp), rfl⟩
  | true =>
    rw [if_neg (by simp), succI (by omega)]
    exact ⟨_, rfl, l1, l2, l3, l4, rfl, hl, hf⟩
theorem body4 {P : List (List UInt8)} (hP : P.length ≤ 24) (hp : ∀ p ∈ P, p.length ≤ 1048576) {q : Nat} (hq : q + 1 < P.length) {l1 l2 : List F32} {l3 : List T47} {l4 : List T49} (hl : l1.length ≤ q ∧ l2.length ≤ q ∧ l3.length ≤ q ∧ l4.length ≤ q) (hf : FlOk ⟨l1, l2, l3, l4⟩) :
    ∃ r, g4_L1 (P.map sb) ((q : Int), l1, l2, l3, l4) = some r ∧ Good q r := by
  obtain ⟨o1, o2, o3, o4⟩ := hl
  obtain ⟨f1, f2, f3, f4⟩ := hf
  have hf : FlOk ⟨l1, l2, l3, l4⟩ := ⟨f1, f2, f3, f4⟩
  have hq0 : q < P.length := by omega
  have hpl := hp _ (List.getElem_mem hq0)
  have hsp : g9 (sb P[q]) 32 = some ((cutL 32 P[q]).map sb) := split72 (c := 32) hpl
  have hne := cut_ne (c := 32) P[q]
  have hwl := pieces_len 32 P[q]
  have hw1 : 1 ≤ (cutL 32 P[q]).length := List.length_pos_iff.2 hne
  rw [g4_L1, sI64 (by omega) (by simp; omega), if_pos (by simp [ltI]; omega), idx_nat (by simpa using hq0), Option.bind_some, List.getElem_map, hsp, Option.bind_some]
  have hW : ((cutL 32 P[q]).map sb).length = (cutL 32 P[q]).length := by simp
  generalize (cutL 32 P[q]).map sb = W at hW
  have hW1 : 1 ≤ W.length := by omega
  have hW2 : W.length ≤ 1048577 := by omega
  obtain ⟨w0, e0, _⟩ := idx_mem (l := W) (i := 0) (by decide) (by simp; omega)
  have fls : ∃ r, g4_j2 (q : Int) false l1 l2 l3 l4 = some r ∧ Good q r := good_j2 (by omega) ⟨by omega, by omega, by omega, by omega⟩ hf
  rw [e0, Option.bind_some]
  split
  · rw [cutK_of (by omega) (by omega) (by omega), Option.bind_some]
    obtain ⟨l, ok, a1, a2, a3⟩ := any31 (ws := W.tail) (by simp; omega)
    rw [a1, Option.bind_some]
    split
    · exact fls
    · rename_i hc
      simp only [eqI, Bool.or_eq_true, Bool.not_eq_true', not_or, Bool.not_eq_false] at hc
      have h2 : l.length = 2 := by have := hc.2; simp at this; omega
      obtain ⟨x, x1, x2⟩ := idx_mem (l := l) (i := 0) (by decide) (by simp; omega)
      obtain ⟨y, y1, y2⟩ := idx_mem (l := l) (i := 1) (by decide) (by simp; omega)
      simp only
      rw [x1, Option.bind_some, appK_of (by simp; omega) (by simp; omega), Option.bind_some, y1, Option.bind_some, appK_of (by simp; omega) (by simp; omega), Option.bind_some]
      refine good_j2 (by omega) ⟨by simp; omega, by simp; omega, by omega, by omega⟩ ⟨fun z hz => ?_, fun z hz => ?_, f3, f4⟩
      · rcases List.mem_append.1 hz with hz | hz
        · exact f1 z hz
        · simp at hz; subst hz; exact a2 _ x2
      · rcases List.mem_append.1 hz with hz | hz
        · exact f2 z hz
        · simp at hz; subst hz; exact a2 _ y2
  · rw [Option.bind_some]
    split
    · exact fls
    · rename_i hc
      have h5 : 5 ≤ W.length := by
        simp only [Bool.or_eq_true, not_or] at hc
        have := hc.2
        simp [ltI] at this
        omega
      obtain ⟨w1, e1, _⟩ := idx_mem (l := W) (i := 1) (by decide) (by simp; omega)
      obtain ⟨w2, e2, _⟩ := idx_mem (l := W) (i := 2) (by decide) (by simp; omega)
      obtain ⟨n1, b1, r1⟩ := any32 w1
      obtain ⟨n2, b2, r2⟩ := any32 w2
      obtain ⟨l, ok, a1, a2, a3⟩ := any31 (ws := W.drop 3) (by simp; omega)
      rw [e1, Option.bind_some, r1, Option.bind_some, e2, Option.bind_some, r2, Option.bind_some, cutK_of (by omega) (by omega) (by omega), Option.bind_some, a1, Option.bind_some]
      split
      · exact fls
      · rename_i hc2
        have hok : ok = true := by
          cases ok with
          | true => rfl
          | false => exfalso; apply hc2; simp
        have hll := a3 hok
        simp at hll
        rw [Option.bind_some]
        obtain ⟨x, x1, x2⟩ := idx_mem (l := l) (i := 0) (by decide) (by simp; omega)
        obtain ⟨y, y1, y2⟩ := idx_mem (l := l) (i := 1) (by decide) (by simp; omega)
        simp only
        split
        · rw [x1, Option.bind_some, y1, Option.bind_some, appK_of (by simp; omega) (by simp; omega), Option.bind_some]
          refine good_j2 (by omega) ⟨by omega, by omega, by omega, by simp; omega⟩ ⟨f1, f2, f3, fun z hz => ?_⟩
          rcases List.mem_append.1 hz with hz | hz
          · exact f4 z hz
          · simp at hz; subst hz; exact ⟨a2 _ x2, a2 _ y2⟩
        · split
          · exact fls
          · rename_i hc3
            have h6 : l.length = 6 := by simp [eqI] at hc3; omega
            obtain ⟨h0, i0, j0⟩ := idx_mem (l := l) (i := 2) (by decide) (by simp; omega)
            obtain ⟨h1, i1, j1⟩ := idx_mem (l := l) (i := 3) (by decide) (by simp; omega)
            obtain ⟨h2, i2, j2⟩ := idx_mem (l := l) (i := 4) (by decide) (by simp; omega)
            obtain ⟨h3, i3, j3⟩ := idx_mem (l := l) (i := 5) (by decide) (by simp; omega)
            rw [x1, Option.bind_some, y1, Option.bind_some, i0, Option.bind_some, i1, Option.bind_some, i2, Option.bind_some, i3, Option.bind_some]
            unfold g4_j3
            rw [appK_of (by simp; omega) (by simp; omega), Option.bind_some]
            refine good_j2 (by omega) ⟨by omega, by omega, by simp; omega, by omega⟩ ⟨f1, f2, fun z hz => ?_, f4⟩
            rcases List.mem_append.1 hz with hz | hz
            · exact f3 z hz
            · simp at hz; subst hz; exact ⟨a2 _ x2, a2 _ y2, a2 _ j0, a2 _ j1, a2 _ j2, a2 _ j3⟩

/-- What reading may answer. -/
def Ans (t : List UInt8) (z : T25 × Int) : Prop := (z.2 = 0 ∧ FlOk z.1 ∧ flatV z.1 = true ∧ flatT z.1 = t) ∨ z = (⟨[], [], [], []⟩, 5)
theorem run_lines {body : St → Option (St ⊕ ((List F32 × List F32 × List T47 × List T49) ⊕ (T25 × Int)))} {n : Nat} (hn : n ≤ 24)
    (h : ∀ (q : Nat) l1 l2 l3 l4, q < n → (l1.length ≤ q ∧ l2.length ≤ q ∧ l3.length ≤ q ∧ l4.length ≤ q) → FlOk ⟨l1, l2, l3, l4⟩ → ∃ r, body ((q : Int), l1, l2, l3, l4) = some r ∧ Good q r)
    (h2 : ∀ l1 l2 l3 l4, body ((n : Int), l1, l2, l3, l4) = some (.inr (.inl (l1, l2, l3, l4)))) :
    ∃ r, loopO body (0, [], [], [], []) = some r ∧ (match r with
      | .inl y => (y.1.length ≤ 24 ∧ y.2.1.length ≤ 24 ∧ y.2.2.1.length ≤ 24 ∧ y.2.2.2.length ≤ 24) ∧ FlOk ⟨y.1, y.2.1, y.2.2.1, y.2.2.2⟩
      | .inr z => z = (⟨[], [], [], []⟩, 5)) := by
  refine loopO_rule (body := body) (fun st => n - st.1.toNat) (fun st => ∃ (q : Nat) (l1 l2 : List F32) (l3 : List T47) (l4 : List T49), st = ((q : Int), l1, l2, l3, l4) ∧ q ≤ n ∧ (l1.length ≤ q ∧ l2.length ≤ q ∧ l3.length ≤ q ∧ l4.length ≤ q) ∧ FlOk ⟨l1, l2, l3, l4⟩)
    (fun r => match r with
      | .inl y => (y.1.length ≤ 24 ∧ y.2.1.length ≤ 24 ∧ y.2.2.1.length ≤ 24 ∧ y.2.2.2.length ≤ 24) ∧ FlOk ⟨y.1, y.2.1, y.2.2.1, y.2.2.2⟩
      | .inr z => z = (⟨[], [], [], []⟩, 5)) (fun st ⟨q, l1, l2, l3, l4, e, hq, hl, hf⟩ => ?_) ⟨0, [], [], [], [], rfl, by omega, by simp, by simp [FlOk]⟩
  subst e
  by_cases hqn : q < n
  · obtain ⟨r, e1, e2⟩ := h q l1 l2 l3 l4 hqn hl hf
    rw [e1]
    match r, e2 with
    | .inl st', e2 =>
      obtain ⟨m1, m2, m3, m4, rfl, k1, k2⟩ := e2
      exact .inl ⟨_, rfl, ⟨q + 1, m1, m2, m3, m4, rfl, by omega, k1, k2⟩, by simp only; omega⟩
    | .inr (.inr z), e2 => exact .inr ⟨_, rfl, e2⟩
  · have : q = n := by omega
    subst this
    right
    rw [h2]
    exact ⟨_, rfl, ⟨Nat.le_trans hl.1 hn, Nat.le_trans hl.2.1 hn, Nat.le_trans hl.2.2.1 hn, Nat.le_trans hl.2.2.2 hn⟩, hf⟩

theorem tot4 {t : List UInt8} (ht : t.length ≤ 1048576) : ∃ z, g4 (sb t) = some z ∧ Ans t z := by
  have hc : g9 (sb t) 10 = some ((cutL 10 t).map sb) := split72 (c := 10) ht
  have h1 := pieces_len 10 t
  have h2 := cut_ne (c := 10) t
  have h3 : 1 ≤ (cutL 10 t).length := List.length_pos_iff.2 h2
  have hpm : ∀ p ∈ cutL 10 t, p.length ≤ 1048576 := fun p hp => by have := piece_len hp; omega
  unfold g4
  rw [hc, Option.bind_some]
  generalize cutL 10 t = P at *
  have hl : (P.map sb).length = P.length := by simp
  have hs : sI .i64 ((P.map sb).length : Int) 1 = ((P.length - 1 : Nat) : Int) := by rw [hl, sI64 (by omega) (by omega)]; omega
  rw [hs, idx_nat (by rw [hl]; omega), Option.bind_some]
  split
  · exact ⟨_, rfl, .inr rfl⟩
  · rename_i hcc
    have hP : P.length ≤ 24 := by
      simp only [Bool.or_eq_true, not_or] at hcc
      have := hcc.2
      simp [ltI] at this
      omega
    obtain ⟨r, e, hr⟩ := run_lines (body := g4_L1 (P.map sb)) (n := P.length - 1) (by omega) (fun q l1 l2 l3 l4 hq hl hf => body4 hP hpm (by omega) hl hf) (fun l1 l2 l3 l4 => by rw [g4_L1, hs, if_neg (by simp [ltI])])
    rw [e, Option.bind_some]
    match r, hr with
    | .inr z, hr => exact ⟨z, rfl, .inr hr⟩
    | .inl (l1, l2, l3, l4), hr =>
      obtain ⟨⟨k1, k2, k3, k4⟩, hf⟩ := hr
      simp only at k1 k2 k3 k4 hf
      unfold g4_j1
      simp only
      rw [flat11 hf (by show l1.length ≤ _; omega) (by show l2.length ≤ _; omega) (by show l3.length ≤ _; omega) (by show l4.length ≤ _; omega), Option.bind_some]
      cases hv : flatV ⟨l1, l2, l3, l4⟩ with
      | false => exact ⟨_, rfl, .inr rfl⟩
      | true =>
        rw [text12 hf hv]
        simp only [Bool.not_true, Bool.false_eq_true, if_false, Option.bind_some, eqS_sb]
        by_cases ht : flatT ⟨l1, l2, l3, l4⟩ = t
        · rw [if_neg (by simp [ht])]
          exact ⟨_, rfl, .inl ⟨rfl, hf, hv, ht⟩⟩
        · rw [if_pos (by simp [ht])]
          exact ⟨_, rfl, .inr rfl⟩
end Go.Proofs.YtbohajclnmmkhaaGreatDoor
namespace Go.Proofs.YtbohajclnmmkhaaGreatDoor
open Go.VL
set_option linter.unusedSimpArgs false
set_option linter.unusedVariables false
set_option maxHeartbeats 4000000

theorem num16 {x : F32} (h : NumOk x) {l : List ByteArray} {b : Bool} (hl : l.length ≤ 2000000) : g16 ⟨sb (fT x) :: l, b⟩ = some (x, ⟨l, b⟩) := by
  obtain ⟨k, rfl, hk, hn⟩ := h
  unfold g16
  rw [next69 _ _ _ hl, Option.bind_some, fT_num hn]
  simp only
  rw [read41 hk hn, Option.bind_some]
  simp [eqI]
theorem int17 {s : Int} (h0 : 0 ≤ s) (h1 : s < 100) {l : List ByteArray} {b : Bool} (hl : l.length ≤ 2000000) : g17 ⟨sb (sideT s) :: l, b⟩ = some (s, ⟨l, b⟩) := by
  unfold sideT
  rw [if_neg (by omega)]
  exact int70 h0 (by omega) _ _ hl
theorem side18 {s : Int} (h0 : -1 ≤ s) (h1 : s < 100) {l : List ByteArray} {b : Bool} (hl : l.length ≤ 2000000) : g18 ⟨sb (sideT s) :: l, b⟩ = some (s, ⟨l, b⟩) := by
  unfold g18
  simp only [List.length_cons]
  rw [if_pos (by simp [ltI]), show idx (sb (sideT s) :: l) 0 = some (sb (sideT s)) from rfl, Option.bind_some, Option.bind_some, show (⟨#[45]⟩ : ByteArray) = sb [45] from rfl, eqS_sb]
  by_cases h : s < 0
  · have : s = -1 := by omega
    subst this
    rw [if_pos (by decide), next69 _ _ _ hl]
    rfl
  · rw [if_neg (by unfold sideT; rw [if_neg h]; simpa using itoa_minus (by omega)), int17 (by omega) h1 hl]
    rfl
theorem num_any (r : T73) (h : Mod r) : ∃ k r', g16 r = some (some k, r') ∧ k < 4294967296 ∧ Mod r' := by
  obtain ⟨w, r', e, e1, e2⟩ := next_any r h
  obtain ⟨k, c, a1, a2⟩ := any41 w.data.toList
  rw [sb_self] at a1
  unfold g16
  rw [e, Option.bind_some]
  simp only
  rw [a1, Option.bind_some]
  exact ⟨k, _, rfl, a2, e2⟩
theorem side_any (r : T73) (h : Mod r) : ∃ n r', g18 r = some (n, r') ∧ Mod r' := by
  obtain ⟨w, r1, e, e1, e2⟩ := next_any r h
  obtain ⟨n, r2, e3, e4⟩ := int_any r h
  have hw : ∃ w3, (if ltI 0 (r.list_.length : Int) = true then (idx r.list_ 0).bind fun e1 => some (eqS e1 (⟨#[45]⟩ : ByteArray)) else some false) = some w3 := by
    split
    · rename_i hc
      obtain ⟨x, x1, _⟩ := idx_mem (l := r.list_) (i := 0) (by decide) (by simp [ltI] at hc ⊢; omega)
      rw [x1]
      exact ⟨_, rfl⟩
    · exact ⟨_, rfl⟩
  obtain ⟨w3, hw⟩ := hw
  unfold g18
  rw [hw, Option.bind_some]
  split
  · rw [e]; exact ⟨_, _, rfl, e2⟩
  · rw [e3]; exact ⟨_, _, rfl, e4⟩

theorem exact5 {f : T25} (hf : FlOk f) (hv : flatV f = true) : g5 (sb (flatT f)) = some (f, 0) := by
  obtain ⟨⟨n1, n2⟩, n3, n4, n5, v1, v2, v3, v4⟩ := flatV_of hv
  have hfo := hf
  obtain ⟨q1, q2, q3, q4⟩ := hf
  have hlen := (flat_len hv).1
  have hN := linesP_len f
  have hjl : ∀ i (hi : i < (linesP f).length), (Lib.join (linesP f)[i] [32]).length ≤ 1048576 := fun i hi => by
    have := lines_len hv _ (List.getElem_mem hi)
    unfold lineOf at this
    simp at this
    omega
  have hw9 : ∀ i (hi : i < (linesP f).length), g40 (sb (Lib.join (linesP f)[i] [32])) (⟨#[32]⟩ : ByteArray) = some ((linesP f)[i].map sb) := fun i hi => by
    have := hjl i hi
    unfold g40
    rw [show (⟨#[32]⟩ : ByteArray) = sb [32] from rfl, splitO_cut (by omega), line_cut (List.getElem_mem hi)]
  have hne : flatT f ≠ [] := fun e => by
    have := congrArg List.length (flat_cut f)
    rw [e] at this
    simp [cutL] at this
    rw [this] at hN
    simp at hN
    omega
  have h13 : g13 (sb (flatT f)) = some (((linesP f).map fun l => Lib.join l [32]).map sb, true) := by
    unfold g13 g40
    rw [sb_nil, eqS_sb, if_neg (by simpa using hne), show (⟨#[10]⟩ : ByteArray) = sb [10] from rfl, splitO_cut (by omega), flat_cut, Option.bind_some, List.map_append]
    have hcl : ((((linesP f).map fun l => Lib.join l [32]).map sb) ++ [[]].map sb).length = (linesP f).length + 1 := by simp
    have hs : sI .i64 (((((linesP f).map fun l => Lib.join l [32]).map sb) ++ [[]].map sb).length : Int) 1 = ((linesP f).length : Int) := by rw [hcl, sI64 (by omega) (by omega)]; omega
    have hlast : idx ((((linesP f).map fun l => Lib.join l [32]).map sb) ++ [[]].map sb) ((linesP f).length : Int) = some (sb []) := by
      rw [idx_nat (by rw [hcl]; omega), List.getElem_append_right (by simp)]
      simp
    rw [hs, cutK_of (by omega) (by omega) (by rw [hcl]; omega), Option.bind_some, hlast, Option.bind_some, eqS_self, Int.toNat_natCast, List.take_left' (by simp)]
  unfold g5
  rw [h13, Option.bind_some]
  have hrl : ((((linesP f).map fun l => Lib.join l [32]).map sb)).length = (linesP f).length := by simp
  have hat : ∀ i (hi : i < (linesP f).length), idx (((linesP f).map fun l => Lib.join l [32]).map sb) (i : Int) = some (sb (Lib.join (linesP f)[i] [32])) := fun i hi => by
    rw [idx_nat (by rw [hrl]; exact hi)]
    simp
  simp only
  generalize (((linesP f).map fun l => Lib.join l [32]).map sb) = r1 at *
  rw [if_neg (by simp [ltI]; omega)]
  have hL : loopO (g5_L1 (r1, true)) (0, [], [], [], []) = some (.inl (f.heat_, f.store_, f.walls_, f.panes_)) := by
    have := loop_run (body := g5_L1 (r1, true)) (stepS f) (linesP f).length (fun i hi => by
      unfold stepS
      rw [g5_L1]
      simp only
      rw [if_pos (by simp [ltI]; omega), hat i hi, Option.bind_some, hw9 i hi, Option.bind_some]
      have hsu := succI (i := i) (by omega)
      have e0 : ((!false) && eqI (([] : List ByteArray).length : Int) 0) = true := rfl
      rcases line_at n3 hi with ⟨c1, c2, e⟩ | ⟨c0, c1, e⟩ | ⟨c0, c1, e⟩
      · rw [e]
        have k1 := heat_ok (q1 _ (List.getElem_mem c1)) (v1 _ (List.getElem_mem c1))
        have k2 := store_ok (q2 _ (List.getElem_mem c2)) (v2 _ (List.getElem_mem c2))
        unfold roomP
        simp only [List.map_cons, List.map_nil]
        rw [next69 _ _ _ (by simp), Option.bind_some, show (⟨#[114, 111, 111, 109]⟩ : ByteArray) = sb [114, 111, 111, 109] from rfl]
        simp only
        rw [eqS_self, if_pos rfl, num16 k1 (by simp), Option.bind_some, appK_of (by simp; omega) (by simp; omega), Option.bind_some]
        simp only
        rw [num16 k2 (by simp), Option.bind_some, appK_of (by simp; omega) (by simp; omega), Option.bind_some]
        unfold g5_j3 g5_j2 g19
        simp only
        rw [Option.bind_some, e0, if_neg (by simp), hsu, List.take_succ_eq_append_getElem c1, List.take_succ_eq_append_getElem c2, show i - f.heat_.length = 0 by omega, show i + 1 - f.heat_.length = 0 by omega]
      · rw [e]
        have hm := List.getElem_mem c1
        obtain ⟨k1, k2, k3, k4, k5, k6⟩ := wall_ok (q3 _ hm) (v3 _ hm)
        obtain ⟨⟨s1, s2⟩, s3, s4⟩ := wall_sides (v3 _ hm) n2
        have ht1 : f.walls_.take (i + 1 - f.heat_.length) = f.walls_.take (i - f.heat_.length) ++ [f.walls_[i - f.heat_.length]] := by
          rw [show i + 1 - f.heat_.length = (i - f.heat_.length) + 1 by omega, List.take_succ_eq_append_getElem c1]
        rw [ht1]
        generalize f.walls_[i - f.heat_.length] = w at *
        unfold wallP
        simp only [List.map_cons, List.map_nil]
        rw [next69 _ _ _ (by simp), Option.bind_some, show (⟨#[114, 111, 111, 109]⟩ : ByteArray) = sb [114, 111, 111, 109] from rfl, show (⟨#[119, 97, 108, 108]⟩ : ByteArray) = sb [119, 97, 108, 108] from rfl]
        simp only
        rw [eqS_sb, if_neg (by decide), eqS_self, if_pos rfl, int17 s1 (by omega) (by simp), Option.bind_some]
        simp only
        rw [side18 s3 (by omega) (by simp), Option.bind_some]
        simp only
        rw [num16 k1 (by simp), Option.bind_some]
        simp only
        rw [num16 k2 (by simp), Option.bind_some]
        simp only
        rw [num16 k3 (by simp), Option.bind_some]
        simp only
        rw [num16 k4 (by simp), Option.bind_some]
        simp only
        rw [num16 k5 (by simp), Option.bind_some]
        simp only
        rw [num16 k6 (by simp), Option.bind_some]
        unfold g5_j4
        simp only
        rw [appK_of (by simp; omega) (by simp; omega), Option.bind_some]
        unfold g5_j3 g5_j2 g19
        simp only
        rw [Option.bind_some, e0, if_neg (by simp), hsu, List.take_of_length_le (i := i) (by omega), List.take_of_length_le (i := i) (by omega), List.take_of_length_le (i := i + 1) (by omega), List.take_of_length_le (i := i + 1) (by omega), show i - f.heat_.length - f.walls_.length = 0 by omega, show i + 1 - f.heat_.length - f.walls_.length = 0 by omega]
      · rw [e]
        have hm := List.getElem_mem c1
        obtain ⟨k1, k2⟩ := pane_ok (q4 _ hm) (v4 _ hm)
        obtain ⟨⟨s1, s2⟩, s3, s4⟩ := pane_sides (v4 _ hm) n2
        have ht1 : f.panes_.take (i + 1 - f.heat_.length - f.walls_.length) = f.panes_.take (i - f.heat_.length - f.walls_.length) ++ [f.panes_[i - f.heat_.length - f.walls_.length]] := by
          rw [show i + 1 - f.heat_.length - f.walls_.length = (i - f.heat_.length - f.walls_.length) + 1 by omega, List.take_succ_eq_append_getElem c1]
        rw [ht1]
        generalize f.panes_[i - f.heat_.length - f.walls_.length] = w at *
        unfold paneP
        simp only [List.map_cons, List.map_nil]
        rw [next69 _ _ _ (by simp), Option.bind_some, show (⟨#[114, 111, 111, 109]⟩ : ByteArray) = sb [114, 111, 111, 109] from rfl, show (⟨#[119, 97, 108, 108]⟩ : ByteArray) = sb [119, 97, 108, 108] from rfl, show (⟨#[112, 97, 110, 101]⟩ : ByteArray) = sb [112, 97, 110, 101] from rfl]
        simp only
        rw [eqS_sb, if_neg (by decide), eqS_sb, if_neg (by decide), eqS_self, if_pos rfl, int17 s1 (by omega) (by simp), Option.bind_some]
        simp only
        rw [side18 s3 (by omega) (by simp), Option.bind_some]
        simp only
        rw [num16 k1 (by simp), Option.bind_some]
        simp only
        rw [num16 k2 (by simp), Option.bind_some]
        simp only
        rw [appK_of (by simp; omega) (by simp; omega), Option.bind_some]
        unfold g5_j3 g5_j2 g19
        simp only
        rw [Option.bind_some, e0, if_neg (by simp), hsu, List.take_of_length_le (i := i) (by omega), List.take_of_length_le (i := i) (by omega), List.take_of_length_le (i := i + 1) (by omega), List.take_of_length_le (i := i + 1) (by omega), List.take_of_length_le (i := i - f.heat_.length) (by omega), List.take_of_length_le (i := i + 1 - f.heat_.length) (by omega)]) (r := .inl (f.heat_, f.store_, f.walls_, f.panes_)) (by
      unfold stepS
      rw [g5_L1]
      simp only
      rw [if_neg (by simp [ltI]; omega), List.take_of_length_le (by omega), List.take_of_length_le (by omega), List.take_of_length_le (by omega), List.take_of_length_le (by omega)])
    simpa [stepS] using this
  rw [hL, Option.bind_some]
  unfold g5_j1
  have hff : (⟨f.heat_, f.store_, f.walls_, f.panes_⟩ : T25) = f := by cases f; rfl
  simp only [hff]
  rw [flat20 hfo (by omega) (by omega) (by omega) (by omega), Option.bind_some, hv, if_neg (by simp), text21 hfo hv, Option.bind_some, Option.bind_some, eqS_self]
  rfl

theorem good_j3 {q : Nat} {y : List ByteArray} {b : Bool} {l1 l2 : List F32} {l3 : List T47} {l4 : List T49} (hq : q ≤ 1000) (hl : l1.length ≤ q + 1 ∧ l2.length ≤ q + 1 ∧ l3.length ≤ q + 1 ∧ l4.length ≤ q + 1) (hf : FlOk ⟨l1, l2, l3, l4⟩) : ∃ r, g5_j3 (q : Int) l1 l2 l3 l4 y b = some r ∧ Good q r := by
  unfold g5_j3 g5_j2 g19
  rw [Option.bind_some]
  split
  · exact ⟨_, rfl, rfl⟩
  · rw [succI (by omega)]
    exact ⟨_, rfl, l1, l2, l3, l4, rfl, hl, hf⟩
theorem body5 {L : List ByteArray} {ok : Bool} (hL : L.length ≤ 24) (hp : ∀ p ∈ L, p.size ≤ 1048576) {q : Nat} (hq : q < L.length) {l1 l2 : List F32} {l3 : List T47} {l4 : List T49} (hl : l1.length ≤ q ∧ l2.length ≤ q ∧ l3.length ≤ q ∧ l4.length ≤ q) (hf : FlOk ⟨l1, l2, l3, l4⟩) :
    ∃ r, g5_L1 (L, ok) ((q : Int), l1, l2, l3, l4) = some r ∧ Good q r := by
  obtain ⟨o1, o2, o3, o4⟩ := hl
  obtain ⟨f1, f2, f3, f4⟩ := hf
  have hf : FlOk ⟨l1, l2, l3, l4⟩ := ⟨f1, f2, f3, f4⟩
  have hps := hp _ (List.getElem_mem hq)
  have hsz : L[q].data.toList.length = L[q].size := by rw [Array.length_toList]; rfl
  have hsp : g40 L[q] (⟨#[32]⟩ : ByteArray) = some ((cutL 32 L[q].data.toList).map sb) := by
    have := splitO_cut (s := L[q].data.toList) (c := 32) (by omega)
    rw [sb_self] at this
    exact this
  have hmod := mod_cut (s := L[q].data.toList) (by omega) 32 false
  rw [g5_L1]
  simp only
  rw [if_pos (by simp [ltI]; omega), idx_nat hq, Option.bind_some, hsp, Option.bind_some]
  generalize (cutL 32 L[q].data.toList).map sb = W at hmod
  obtain ⟨w, r0, e0, _, m0⟩ := next_any _ hmod
  rw [e0, Option.bind_some]
  simp only
  split
  · obtain ⟨x, r1, e1, x1, m1⟩ := num_any _ m0
    obtain ⟨y, r2, e2, y1, m2⟩ := num_any _ m1
    rw [e1, Option.bind_some]
    simp only
    rw [appK_of (by simp; omega) (by simp; omega), Option.bind_some, e2, Option.bind_some]
    simp only
    rw [appK_of (by simp; omega) (by simp; omega), Option.bind_some]
    refine good_j3 (by omega) ⟨by simp; omega, by simp; omega, by omega, by omega⟩ ⟨fun z hz => ?_, fun z hz => ?_, f3, f4⟩
    · rcases List.mem_append.1 hz with hz | hz
      · exact f1 z hz
      · simp at hz; subst hz; exact ⟨_, rfl, x1⟩
    · rcases List.mem_append.1 hz with hz | hz
      · exact f2 z hz
      · simp at hz; subst hz; exact ⟨_, rfl, y1⟩
  · split
    · obtain ⟨a, r1, e1, m1⟩ := int_any _ m0
      obtain ⟨b, r2, e2, m2⟩ := side_any _ m1
      obtain ⟨x, r3, e3, x1, m3⟩ := num_any _ m2
      obtain ⟨y, r4, e4, y1, m4⟩ := num_any _ m3
      obtain ⟨h0, r5, e5, z0, m5⟩ := num_any _ m4
      obtain ⟨h1, r6, e6, z1, m6⟩ := num_any _ m5
      obtain ⟨h2, r7, e7, z2, m7⟩ := num_any _ m6
      obtain ⟨h3, r8, e8, z3, m8⟩ := num_any _ m7
      simp only [e1, e2, e3, e4, e5, e6, e7, e8, Option.bind_some]
      unfold g5_j4
      rw [appK_of (by simp; omega) (by simp; omega), Option.bind_some]
      refine good_j3 (by omega) ⟨by omega, by omega, by simp; omega, by omega⟩ ⟨f1, f2, fun z hz => ?_, f4⟩
      rcases List.mem_append.1 hz with hz | hz
      · exact f3 z hz
      · simp at hz; subst hz; exact ⟨⟨_, rfl, x1⟩, ⟨_, rfl, y1⟩, ⟨_, rfl, z0⟩, ⟨_, rfl, z1⟩, ⟨_, rfl, z2⟩, ⟨_, rfl, z3⟩⟩
    · split
      · obtain ⟨a, r1, e1, m1⟩ := int_any _ m0
        obtain ⟨b, r2, e2, m2⟩ := side_any _ m1
        obtain ⟨x, r3, e3, x1, m3⟩ := num_any _ m2
        obtain ⟨y, r4, e4, y1, m4⟩ := num_any _ m3
        simp only [e1, e2, e3, e4, Option.bind_some]
        rw [appK_of (by simp; omega) (by simp; omega), Option.bind_some]
        refine good_j3 (by omega) ⟨by omega, by omega, by omega, by simp; omega⟩ ⟨f1, f2, f3, fun z hz => ?_⟩
        rcases List.mem_append.1 hz with hz | hz
        · exact f4 z hz
        · simp at hz; subst hz; exact ⟨⟨_, rfl, x1⟩, ⟨_, rfl, y1⟩⟩
      · exact ⟨_, rfl, rfl⟩

theorem tot5 {t : List UInt8} (ht : t.length ≤ 1048576) : ∃ z, g5 (sb t) = some z ∧ Ans t z := by
  have h13 : ∃ L ok, g13 (sb t) = some (L, ok) ∧ ∀ p ∈ L, p.size ≤ 1048576 := by
    unfold g13 g40
    rw [sb_nil, eqS_sb]
    split
    · exact ⟨_, _, rfl, by simp⟩
    · have h1 := pieces_len 10 t
      have h2 := cut_ne (c := 10) t
      have h3 : 1 ≤ (cutL 10 t).length := List.length_pos_iff.2 h2
      have hpm : ∀ p ∈ cutL 10 t, p.length ≤ 1048576 := fun p hp => by have := piece_len hp; omega
      rw [show (⟨#[10]⟩ : ByteArray) = sb [10] from rfl, splitO_cut (by omega), Option.bind_some]
      generalize cutL 10 t = P at *
      have hl : (P.map sb).length = P.length := by simp
      have hs : sI .i64 ((P.map sb).length : Int) 1 = ((P.length - 1 : Nat) : Int) := by rw [hl, sI64 (by omega) (by omega)]; omega
      rw [hs, cutK_of (by omega) (by omega) (by rw [hl]; omega), Option.bind_some, idx_nat (by rw [hl]; omega), Option.bind_some]
      refine ⟨_, _, rfl, fun p hp => ?_⟩
      obtain ⟨x, hx, rfl⟩ := List.mem_map.1 (List.mem_of_mem_take hp)
      rw [sb_size]
      exact hpm x hx
  obtain ⟨L, ok, e13, hp⟩ := h13
  unfold g5
  rw [e13, Option.bind_some]
  simp only
  split
  · exact ⟨_, rfl, .inr rfl⟩
  · rename_i hcc
    have hL : L.length ≤ 23 := by
      simp only [Bool.or_eq_true, not_or] at hcc
      have := hcc.2
      simp [ltI] at this
      omega
    obtain ⟨r, e, hr⟩ := run_lines (body := g5_L1 (L, ok)) (n := L.length) (by omega) (fun q l1 l2 l3 l4 hq hl hf => body5 (by omega) hp hq hl hf) (fun l1 l2 l3 l4 => by rw [g5_L1]; simp only; rw [if_neg (by simp [ltI])])
    rw [e, Option.bind_some]
    match r, hr with
    | .inr z, hr => exact ⟨z, rfl, .inr hr⟩
    | .inl (l1, l2, l3, l4), hr =>
      obtain ⟨⟨k1, k2, k3, k4⟩, hf⟩ := hr
      simp only at k1 k2 k3 k4 hf
      unfold g5_j1
      simp only
      rw [flat20 hf (by show l1.length ≤ _; omega) (by show l2.length ≤ _; omega) (by show l3.length ≤ _; omega) (by show l4.length ≤ _; omega), Option.bind_some]
      cases hv : flatV ⟨l1, l2, l3, l4⟩ with
      | false => exact ⟨_, rfl, .inr rfl⟩
      | true =>
        rw [text21 hf hv]
        simp only [Bool.not_true, Bool.false_eq_true, if_false, Option.bind_some, eqS_sb]
        by_cases ht : flatT ⟨l1, l2, l3, l4⟩ = t
        · rw [if_neg (by simp [ht])]
          exact ⟨_, rfl, .inl ⟨rfl, hf, hv, ht⟩⟩
        · rw [if_pos (by simp [ht])]
          exact ⟨_, rfl, .inr rfl⟩

/-- Both read the same. -/
theorem flat_same {t : List UInt8} (ht : t.length ≤ 1048576) : ∃ f c, g4 (sb t) = some (f, c) ∧ g5 (sb t) = some (f, c) ∧ (f.heat_.length ≤ 1000 ∧ f.store_.length ≤ 1000 ∧ f.walls_.length ≤ 1000 ∧ f.panes_.length ≤ 1000) := by
  by_cases hex : ∃ f, FlOk f ∧ flatV f = true ∧ flatT f = t
  · obtain ⟨f, h1, h2, rfl⟩ := hex
    obtain ⟨⟨n1, n2⟩, n3, n4, n5, _⟩ := flatV_of h2
    exact ⟨f, 0, exact4 h1 h2, exact5 h1 h2, by omega, by omega, by omega, by omega⟩
  · obtain ⟨z, e1, a1⟩ := tot4 ht
    obtain ⟨y, e2, a2⟩ := tot5 ht
    rcases a1 with ⟨_, b1, b2, b3⟩ | rfl
    · exact absurd ⟨_, b1, b2, b3⟩ hex
    rcases a2 with ⟨_, b1, b2, b3⟩ | rfl
    · exact absurd ⟨_, b1, b2, b3⟩ hex
    exact ⟨_, _, e1, e2, by simp⟩
end Go.Proofs.YtbohajclnmmkhaaGreatDoor
namespace Go.Proofs.YtbohajclnmmkhaaGreatDoor
open Go.VL
set_option linter.unusedSimpArgs false
set_option linter.unusedVariables false
set_option maxHeartbeats 4000000

/-! ### A flat is the same as itself -/
theorem same53 (x : F32) : g53 x x = some true := by
  unfold g53
  have h : eqF .f64 x x = !neF .f64 x x := by simp [eqF, neF, bne]
  rw [h]
  cases neF .f64 x x <;> simp
theorem same22 {a : List F32} (h : a.length ≤ 1000) : g22 a a = some true := by
  have hL := loop_all (body := g22_L1 a a) (n := a.length) (fun _ => true) (fun i hi => by
    rw [g22_L1, if_pos (by simp [ltI]; omega), idx_nat hi, Option.bind_some, Option.bind_some, same53, Option.bind_some, if_neg (by simp), succI (by omega)]
    rfl) (by rw [g22_L1, if_neg (by simp [ltI])])
  unfold g22
  rw [if_neg (by simp [eqI]), hL]
  simp [g22_j1]
theorem same74 (a : T46) : g74 a a = some true := by
  unfold g74
  simp [same53, g74_j1]
theorem same54 (a : T47) : g54 a a = some true := by
  unfold g54
  simp [same53, same74, eqI]
theorem same55 (a : T49) : g55 a a = some true := by
  unfold g55
  simp [same53, eqI]
theorem same23 {a : List T47} (h : a.length ≤ 1000) : g23 a a = some true := by
  have hL := loop_all (body := g23_L1 a a) (n := a.length) (fun _ => true) (fun i hi => by
    rw [g23_L1, if_pos (by simp [ltI]; omega), idx_nat hi, Option.bind_some, Option.bind_some, same54, Option.bind_some, if_neg (by simp), succI (by omega)]
    rfl) (by rw [g23_L1, if_neg (by simp [ltI])])
  unfold g23
  rw [if_neg (by simp [eqI]), hL]
  simp [g23_j1]
theorem same24 {a : List T49} (h : a.length ≤ 1000) : g24 a a = some true := by
  have hL := loop_all (body := g24_L1 a a) (n := a.length) (fun _ => true) (fun i hi => by
    rw [g24_L1, if_pos (by simp [ltI]; omega), idx_nat hi, Option.bind_some, Option.bind_some, same55, Option.bind_some, if_neg (by simp), succI (by omega)]
    rfl) (by rw [g24_L1, if_neg (by simp [ltI])])
  unfold g24
  rw [if_neg (by simp [eqI]), hL]
  simp [g24_j1]
theorem same6 {f : T25} (h : f.heat_.length ≤ 1000 ∧ f.store_.length ≤ 1000 ∧ f.walls_.length ≤ 1000 ∧ f.panes_.length ≤ 1000) : g6 f f = some true := by
  unfold g6
  simp [same22 h.1, same22 h.2.1, same23 h.2.2.1, same24 h.2.2.2]

/-! ### Marks -/
theorem of_self (n : Int) : neF .f32 (fOfI .f32 n) (fOfI .f32 n) = false := by
  have : (FloatKind.f32.decode (FloatKind.f32.nearest n)).isNaN = false := nearest_num .f32 _ _ _
  have := ford_self (k := .f32) this
  simp [neF, fOfI, this]
def mkL {α : Type} (k : Int) (s : Nat) (mk : Int → α) (n : Nat) : List α := (List.range n).map fun (j : Nat) => mk (k + s * (j : Int))
theorem mkL_len {α : Type} {k : Int} {s : Nat} {mk : Int → α} {n : Nat} : (mkL k s mk n).length = n := by simp [mkL]
theorem mkL_get {α : Type} {k : Int} {s : Nat} {mk : Int → α} {n i : Nat} (h : i < n) : (mkL k s mk n)[i]? = some (mk (k + s * (i : Int))) := by simp [mkL, h]
theorem mark_gen {α : Type} {mk : Int → α} {s : Nat} {body : Int × Int × List α → Option ((Int × Int × List α) ⊕ (Int × List α))} {l : List α} {k : Int}
    (hb : ∀ (i : Nat) (l' : List α), l'.length = l.length → i < l.length → body (k + s * (i : Int), (i : Int), l') = some (.inl (k + s * ((i + 1 : Nat) : Int), ((i + 1 : Nat) : Int), l'.set i (mk (k + s * (i : Int))))))
    (he : ∀ l' : List α, l'.length = l.length → body (k + s * (l.length : Int), (l.length : Int), l') = some (.inr (k + s * (l.length : Int), l'))) : loopO body (k, 0, l) = some (k + s * (l.length : Int), mkL k s mk l.length) := by
  have hset : ∀ i, i < l.length → (mkL k s mk i ++ l.drop i).set i (mk (k + s * (i : Int))) = mkL k s mk (i + 1) ++ l.drop (i + 1) := fun i hi => by
    apply List.ext_getElem?
    intro j
    rw [List.getElem?_set]
    simp only [List.length_append, mkL_len, List.length_drop]
    by_cases hj : i = j
    · subst hj
      rw [if_pos rfl, if_pos (by omega), List.getElem?_append_left (by rw [mkL_len]; omega), mkL_get (by omega)]
    · rw [if_neg hj]
      by_cases hlt : j < i
      · rw [List.getElem?_append_left (by rw [mkL_len]; omega), List.getElem?_append_left (by rw [mkL_len]; omega), mkL_get hlt, mkL_get (by omega)]
      · rw [List.getElem?_append_right (by rw [mkL_len]; omega), List.getElem?_append_right (by rw [mkL_len]; omega)]
        simp only [mkL_len, List.getElem?_drop]
        congr 1; omega
  have := loop_run (body := body) (fun i => (k + s * (i : Int), (i : Int), mkL k s mk i ++ l.drop i)) l.length (fun i hi => by
    rw [hb i _ (by simp [mkL_len]; omega) hi, hset i hi]) (r := (k + s * (l.length : Int), mkL k s mk l.length)) (by
    rw [he _ (by simp [mkL_len])]
    simp)
  simpa [mkL] using this
theorem held_gen {α : Type} {mk : Int → α} {s n : Nat} {body : Int × Int → Option ((Int × Int) ⊕ (Int ⊕ Int))} {k : Int}
    (hb : ∀ (i : Nat), i < n → idx (mkL k s mk n) (i : Int) = some (mk (k + s * (i : Int))) → body (k + s * (i : Int), (i : Int)) = some (.inl (k + s * ((i + 1 : Nat) : Int), ((i + 1 : Nat) : Int))))
    (he : body (k + s * (n : Int), (n : Int)) = some (.inr (.inl (k + s * (n : Int))))) : loopO body (k, 0) = some (.inl (k + s * (n : Int))) := by
  have := loop_run (body := body) (fun i => (k + s * (i : Int), (i : Int))) n (fun i hi => hb i hi (by
    rw [idx_nat (by rw [mkL_len]; exact hi)]
    have := mkL_get (k := k) (s := s) (mk := mk) hi
    rwa [List.getElem?_eq_getElem (by rw [mkL_len]; exact hi)] at this)) he
  simpa using this
theorem inc {k : Int} {s i : Nat} (hk : 0 ≤ k) (h : k ≤ 1000000000) (hs : s ≤ 8) (hi : i ≤ 1000) : k + s * ((i + 1 : Nat) : Int) = k + s * (i : Int) + s ∧ 0 ≤ k + s * (i : Int) ∧ k + s * (i : Int) ≤ 1000008000 := by
  have h1 : (s : Int) * (i : Int) ≤ 8 * 1000 := Int.mul_le_mul (by omega) (by omega) (by omega) (by omega)
  have h2 : 0 ≤ (s : Int) * (i : Int) := Int.mul_nonneg (by omega) (by omega)
  refine ⟨?_, by omega, by omega⟩
  rw [show ((i + 1 : Nat) : Int) = (i : Int) + 1 by omega, Int.mul_add]
  omega
theorem a1 {k : Int} (h0 : 0 ≤ k) (h1 : k ≤ 2000000000) : aI .i64 k 1 = k + 1 := aI64 (by omega) (by omega)
def mkF (k : Int) : F32 := fOfI .f32 k
def mkP (k : Int) : T49 := ⟨k, k + 1, fOfI .f32 (k + 1 + 1), fOfI .f32 (k + 1 + 1 + 1)⟩
def mkW (k : Int) : T47 := ⟨k, k + 1, fOfI .f32 (k + 1 + 1), fOfI .f32 (k + 1 + 1 + 1), ⟨fOfI .f32 (k + 1 + 1 + 1 + 1), fOfI .f32 (k + 1 + 1 + 1 + 1 + 1), fOfI .f32 (k + 1 + 1 + 1 + 1 + 1 + 1), fOfI .f32 (k + 1 + 1 + 1 + 1 + 1 + 1 + 1)⟩⟩

theorem mark4 {l : List F32} {k : Int} (hl : l.length ≤ 1000) (h0 : 0 ≤ k) (h1 : k ≤ 1000000000) : loopO g3_L4 (k, 0, l) = some (k + (1 : Nat) * (l.length : Int), mkL k 1 mkF l.length) := mark_gen (fun i l' hl' hi => by
  obtain ⟨e, b1, b2⟩ := inc (s := 1) (i := i) h0 h1 (by decide) (by omega)
  rw [e]
  generalize k + ((1 : Nat) : Int) * (i : Int) = m at *
  rw [g3_L4, hl', if_pos (by simp [ltI]; omega), idx_nat (by omega), Option.bind_some, succI (by omega), a1 b1 (by omega), Int.toNat_natCast]
  rfl) (fun l' hl' => by rw [g3_L4, hl', if_neg (by simp [ltI])])
theorem mark3 {l : List F32} {k : Int} (hl : l.length ≤ 1000) (h0 : 0 ≤ k) (h1 : k ≤ 1000000000) : loopO g3_L3 (k, 0, l) = some (k + (1 : Nat) * (l.length : Int), mkL k 1 mkF l.length) := mark_gen (fun i l' hl' hi => by
  obtain ⟨e, b1, b2⟩ := inc (s := 1) (i := i) h0 h1 (by decide) (by omega)
  rw [e]
  generalize k + ((1 : Nat) : Int) * (i : Int) = m at *
  rw [g3_L3, hl', if_pos (by simp [ltI]; omega), idx_nat (by omega), Option.bind_some, succI (by omega), a1 b1 (by omega), Int.toNat_natCast]
  rfl) (fun l' hl' => by rw [g3_L3, hl', if_neg (by simp [ltI])])
theorem mark2 {l : List T47} {k : Int} (hl : l.length ≤ 1000) (h0 : 0 ≤ k) (h1 : k ≤ 1000000000) : loopO g3_L2 (k, 0, l) = some (k + (8 : Nat) * (l.length : Int), mkL k 8 mkW l.length) := mark_gen (fun i l' hl' hi => by
  obtain ⟨e, b1, b2⟩ := inc (s := 8) (i := i) h0 h1 (by decide) (by omega)
  rw [e]
  generalize k + ((8 : Nat) : Int) * (i : Int) = m at *
  rw [g3_L2, hl', if_pos (by simp [ltI]; omega), idx_nat (by omega), Option.bind_some]
  unfold g3_j5
  rw [succI (by omega), a1 b1 (by omega), a1 (k := m + 1) (by omega) (by omega), a1 (k := m + 1 + 1) (by omega) (by omega), a1 (k := m + 1 + 1 + 1) (by omega) (by omega), a1 (k := m + 1 + 1 + 1 + 1) (by omega) (by omega), a1 (k := m + 1 + 1 + 1 + 1 + 1) (by omega) (by omega), a1 (k := m + 1 + 1 + 1 + 1 + 1 + 1) (by omega) (by omega), a1 (k := m + 1 + 1 + 1 + 1 + 1 + 1 + 1) (by omega) (by omega), Int.toNat_natCast, show m + 1 + 1 + 1 + 1 + 1 + 1 + 1 + 1 = m + ((8 : Nat) : Int) by omega]
  rfl) (fun l' hl' => by rw [g3_L2, hl', if_neg (by simp [ltI])])
theorem mark1 {l : List T49} {k : Int} (hl : l.length ≤ 1000) (h0 : 0 ≤ k) (h1 : k ≤ 1000000000) : loopO g3_L1 (k, 0, l) = some (k + (4 : Nat) * (l.length : Int), mkL k 4 mkP l.length) := mark_gen (fun i l' hl' hi => by
  obtain ⟨e, b1, b2⟩ := inc (s := 4) (i := i) h0 h1 (by decide) (by omega)
  rw [e]
  generalize k + ((4 : Nat) : Int) * (i : Int) = m at *
  rw [g3_L1, hl', if_pos (by simp [ltI]; omega), idx_nat (by omega), Option.bind_some]
  rw [succI (by omega), a1 b1 (by omega), a1 (k := m + 1) (by omega) (by omega), a1 (k := m + 1 + 1) (by omega) (by omega), a1 (k := m + 1 + 1 + 1) (by omega) (by omega), Int.toNat_natCast, show m + 1 + 1 + 1 + 1 = m + ((4 : Nat) : Int) by omega]
  rfl) (fun l' hl' => by rw [g3_L1, hl', if_neg (by simp [ltI])])
theorem held28 {n : Nat} {k : Int} (hn : n ≤ 1000) (h0 : 0 ≤ k) (h1 : k ≤ 1000000000) : g28 (mkL k 1 mkF n) k = some (k + (1 : Nat) * (n : Int)) := by
  have := held_gen (mk := mkF) (s := 1) (n := n) (k := k) (body := g28_L1 (mkL k 1 mkF n)) (fun i hi hx => by
    obtain ⟨e, b1, b2⟩ := inc (s := 1) (i := i) h0 h1 (by decide) (by omega)
    rw [g28_L1, mkL_len, if_pos (by simp [ltI]; omega), hx, Option.bind_some, e]
    generalize k + ((1 : Nat) : Int) * (i : Int) = m at *
    unfold mkF
    rw [of_self, if_neg (by simp), succI (by omega), a1 b1 (by omega)]
    rfl) (by rw [g28_L1, mkL_len, if_neg (by simp [ltI])])
  unfold g28
  rw [this]
  rfl
theorem held29 {n : Nat} {k : Int} (hn : n ≤ 1000) (h0 : 0 ≤ k) (h1 : k ≤ 1000000000) : g29 (mkL k 8 mkW n) k = some (k + (8 : Nat) * (n : Int)) := by
  have := held_gen (mk := mkW) (s := 8) (n := n) (k := k) (body := g29_L1 (mkL k 8 mkW n)) (fun i hi hx => by
    obtain ⟨e, b1, b2⟩ := inc (s := 8) (i := i) h0 h1 (by decide) (by omega)
    rw [g29_L1, mkL_len, if_pos (by simp [ltI]; omega), e]
    simp only [hx, Option.bind_some]
    generalize k + ((8 : Nat) : Int) * (i : Int) = m at *
    have c1 := a1 b1 (by omega)
    have c2 := a1 (k := m + 1) (by omega) (by omega)
    have c3 := a1 (k := m + 1 + 1) (by omega) (by omega)
    have c4 := a1 (k := m + 1 + 1 + 1) (by omega) (by omega)
    have c5 := a1 (k := m + 1 + 1 + 1 + 1) (by omega) (by omega)
    have c6 := a1 (k := m + 1 + 1 + 1 + 1 + 1) (by omega) (by omega)
    have c7 := a1 (k := m + 1 + 1 + 1 + 1 + 1 + 1) (by omega) (by omega)
    have c8 := a1 (k := m + 1 + 1 + 1 + 1 + 1 + 1 + 1) (by omega) (by omega)
    simp only [mkW, g29_j2, c1, c2, c3, c4, c5, c6, c7, c8, of_self, eqI, beq_self_eq_true, Bool.not_true, Bool.false_eq_true, if_false, succI (i := i) (show i < 4611686018427387904 by omega)]
    rw [show m + 1 + 1 + 1 + 1 + 1 + 1 + 1 + 1 = m + ((8 : Nat) : Int) by omega]) (by rw [g29_L1, mkL_len, if_neg (by simp [ltI])])
  unfold g29
  rw [this]
  rfl
theorem held30 {n : Nat} {k : Int} (hn : n ≤ 1000) (h0 : 0 ≤ k) (h1 : k ≤ 1000000000) : g30 (mkL k 4 mkP n) k = some (k + (4 : Nat) * (n : Int)) := by
  have := held_gen (mk := mkP) (s := 4) (n := n) (k := k) (body := g30_L1 (mkL k 4 mkP n)) (fun i hi hx => by
    obtain ⟨e, b1, b2⟩ := inc (s := 4) (i := i) h0 h1 (by decide) (by omega)
    rw [g30_L1, mkL_len, if_pos (by simp [ltI]; omega), e]
    simp only [hx, Option.bind_some]
    generalize k + ((4 : Nat) : Int) * (i : Int) = m at *
    have c1 := a1 b1 (by omega)
    have c2 := a1 (k := m + 1) (by omega) (by omega)
    have c3 := a1 (k := m + 1 + 1) (by omega) (by omega)
    have c4 := a1 (k := m + 1 + 1 + 1) (by omega) (by omega)
    simp only [mkP, c1, c2, c3, c4, of_self, eqI, beq_self_eq_true, Bool.not_true, Bool.false_eq_true, if_false, succI (i := i) (show i < 4611686018427387904 by omega)]
    rw [show m + 1 + 1 + 1 + 1 = m + ((4 : Nat) : Int) by omega]) (by rw [g30_L1, mkL_len, if_neg (by simp [ltI])])
  unfold g30
  rw [this]
  rfl

theorem law3 (aText : ByteArray) (h : aText.size ≤ maxLen) : g3 aText = some true := by
  obtain ⟨t, rfl⟩ : ∃ t, aText = sb t := ⟨_, (sb_self _).symm⟩
  unfold g3
  by_cases hc : ltI 1048576 ((sb t).size : Int) = true
  · rw [if_pos hc]
  rw [if_neg hc]
  have hs : t.length ≤ 1048576 := by simp [ltI] at hc; omega
  obtain ⟨f, c, e1, e2, hb⟩ := flat_same hs
  obtain ⟨n1, n2, n3, n4⟩ := hb
  have hsame := same6 (f := f) ⟨n1, n2, n3, n4⟩
  rw [e1, Option.bind_some, e2, Option.bind_some]
  simp only
  rw [hsame, Option.bind_some, if_neg (by simp [eqI]), mark4 n1 (by decide) (by decide), Option.bind_some]
  simp only
  unfold g3_j1
  simp only
  generalize hk1 : (1 : Int) + (1 : Nat) * (f.heat_.length : Int) = k1
  have b1 : 1 ≤ k1 ∧ k1 ≤ 10000 := by omega
  rw [mark3 n2 (by omega) (by omega), Option.bind_some]
  unfold g3_j2
  simp only
  generalize hk2 : k1 + (1 : Nat) * (f.store_.length : Int) = k2
  have b2 : 1 ≤ k2 ∧ k2 ≤ 20000 := by omega
  rw [mark2 n3 (by omega) (by omega), Option.bind_some]
  unfold g3_j3
  simp only
  generalize hk3 : k2 + (8 : Nat) * (f.walls_.length : Int) = k3
  have b3 : 1 ≤ k3 ∧ k3 ≤ 40000 := by omega
  rw [mark1 n4 (by omega) (by omega), Option.bind_some]
  unfold g3_j4
  simp only
  have hd : g8 (⟨mkL 1 1 mkF f.heat_.length, mkL k1 1 mkF f.store_.length, mkL k2 8 mkW f.walls_.length, mkL k3 4 mkP f.panes_.length⟩ : T25) 1 = some (k3 + (4 : Nat) * (f.panes_.length : Int)) := by
    unfold g8
    simp only
    rw [held28 n1 (by decide) (by decide), hk1, Option.bind_some, if_neg (by simp [ltI]; omega), held28 n2 (by omega) (by omega), hk2, Option.bind_some, if_neg (by simp [ltI]; omega), held29 n3 (by omega) (by omega), hk3, Option.bind_some, if_neg (by simp [ltI]; omega), held30 n4 (by omega) (by omega), Option.bind_some, if_neg (by simp [ltI]; omega)]
  rw [hd, Option.bind_some, if_neg (by simp [ltI]; omega), if_neg (by simp [eqI]), e2, Option.bind_some]
  simp only
  rw [hsame, Option.bind_some, if_neg (by simp [eqI]), Option.bind_some, if_neg (by simp [ltI]; omega), if_neg (by simp [eqI])]
end Go.Proofs.YtbohajclnmmkhaaGreatDoor
