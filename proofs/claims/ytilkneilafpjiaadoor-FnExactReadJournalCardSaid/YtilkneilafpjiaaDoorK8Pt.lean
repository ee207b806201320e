/- Plain laws of the texts of acts and seasons. -/
import Derived.Test.YtilkneilafpjiaaDoorK8a
import Derived.Test.YtilkneilafpjiaaDoorK8a
import Derived.Test.YtilkneilafpjiaaDoorK8a
import Derived.Test.YtilkneilafpjiaaDoorK8a
import Derived.Test.YtilkneilafpjiaaDoorK8a
import Derived.Test.YtilkneilafpjiaaDoorK8a
import Derived.Test.YtilkneilafpjiaaDoorK8a
import Derived.Test.YtilkneilafpjiaaDoorK8a
import Derived.Test.YtilkneilafpjiaaDoorK8a
import Derived.Test.YtilkneilafpjiaaDoorK8a
import Derived.Test.YtilkneilafpjiaaDoorK8a
import Derived.Test.YtilkneilafpjiaaDoorK8a
import Derived.Test.YtilkneilafpjiaaDoorK8Pa
import Derived.Test.YtilkneilafpjiaaDoorVxStr
namespace Go.Proofs.YtilkneilafpjiaaDoor
open Go.VL
set_option linter.unusedSimpArgs false
set_option linter.unusedVariables false

theorem dec53 {list : List Int} (hl : list.length ≤ 1000) (h : ∀ n ∈ list, 0 ≤ n ∧ n < 10000) : g53 list = some (sb (Lib.join (list.map Lib.itoa) [32])) := by
  have hL : loopO (g53_L1 list) (0, []) = some (list.map fun n => sb (Lib.itoa n)) := by
    have := loop_run (body := g53_L1 list) (fun i => ((i : Int), (list.take i).map fun n => sb (Lib.itoa n))) list.length (fun i hi => by
      obtain ⟨a1, a2⟩ := h list[i] (List.getElem_mem hi)
      rw [g53_L1, if_pos (by simp [ltI]; omega), idx_nat hi, Option.bind_some]
      unfold g96
      rw [fmtInt_sb (by omega) (by omega), Option.bind_some, appK_of (by simp; omega) (by simp; omega), Option.bind_some, succI (by omega), List.take_succ_eq_append_getElem hi, List.map_append]
      rfl) (r := list.map fun n => sb (Lib.itoa n)) (by
      rw [g53_L1, if_neg (by simp [ltI]), List.take_length])
    simpa using this
  have hm : (list.map fun n => sb (Lib.itoa n)) = (list.map Lib.itoa).map sb := by simp
  have hj : (Lib.join (list.map Lib.itoa) [32]).length ≤ 5000 := by
    have := join_len [32] 4 (list.map Lib.itoa) (fun x hx => by
      obtain ⟨n, hn, rfl⟩ := List.mem_map.1 hx
      exact itoa_len (h n hn).1 (h n hn).2)
    simp at this
    omega
  unfold g53 g53_j1 g97
  rw [hL, Option.bind_some, hm, show (⟨#[32]⟩ : ByteArray) = sb [32] from rfl, joinO_sb (by simp; omega) (by omega), Option.bind_some]

/-- A valid act. -/
def ActOk (a : T22) : Prop := (1 ≤ a.kind_ ∧ a.kind_ ≤ 9) ∧ (0 ≤ a.a_ ∧ a.a_ ≤ 999) ∧ 0 ≤ a.b_ ∧ a.b_ ≤ 999
theorem act48 (a : T22) : ∃ b, g48 a = some b ∧ g50 a = some b ∧ (b = true → ActOk a) := by
  unfold g48 g50 g92 g93 g51 ActOk
  simp only [Option.bind_some]
  by_cases h1 : 1 ≤ a.kind_ <;> by_cases h2 : a.kind_ ≤ 9 <;> by_cases h3 : 0 ≤ a.a_ <;> by_cases h4 : a.a_ ≤ 999 <;> by_cases h5 : 0 ≤ a.b_ <;> by_cases h6 : a.b_ ≤ 999 <;> by_cases h7 : a.b_ = 0 <;> simp [leI, eqI, h1, h2, h3, h4, h5, h6, h7]

def wordsL : List (List UInt8) := [[], [108, 111, 97, 100], [107, 105, 110, 100, 108, 101], [114, 97, 107, 101], [99, 108, 101, 97, 110], [112, 97, 110, 101], [98, 114, 97, 105, 110], [109, 117, 116, 101], [100, 97, 109, 112, 101, 114], [119, 97, 105, 116]]
theorem words94 : g94 = some (wordsL.map sb) := rfl
theorem words52 : g52 = some (wordsL.map sb) := rfl
def wordL (k : Int) : List UInt8 := wordsL.getD k.toNat []
/-- The text of an act. -/
def actT (a : T22) : List UInt8 := wordL a.kind_ ++ [32] ++ Lib.itoa a.a_ ++ (if (((eqI a.kind_ 1 || eqI a.kind_ 5) || eqI a.kind_ 6) || eqI a.kind_ 8) = true then [32] ++ Lib.itoa a.b_ else [])
theorem word_at {k : Int} (h1 : 1 ≤ k) (h2 : k ≤ 9) : idx (wordsL.map sb) k = some (sb (wordL k)) ∧ (wordL k).length ≤ 6 := by
  obtain ⟨n, rfl⟩ := Int.eq_ofNat_of_zero_le (show 0 ≤ k by omega)
  have : n < 10 := by omega
  match n, this with
  | 0, _ => exact ⟨rfl, by decide⟩
  | 1, _ => exact ⟨rfl, by decide⟩
  | 2, _ => exact ⟨rfl, by decide⟩
  | 3, _ => exact ⟨rfl, by decide⟩
  | 4, _ => exact ⟨rfl, by decide⟩
  | 5, _ => exact ⟨rfl, by decide⟩
  | 6, _ => exact ⟨rfl, by decide⟩
  | 7, _ => exact ⟨rfl, by decide⟩
  | 8, _ => exact ⟨rfl, by decide⟩
  | 9, _ => exact ⟨rfl, by decide⟩
theorem text12 {a : T22} (h : g50 a = some true) (ho : ActOk a) : g12 a = some (sb (actT a)) := by
  obtain ⟨⟨k1, k2⟩, ⟨a1, a2⟩, b1, b2⟩ := ho
  obtain ⟨w1, w2⟩ := word_at k1 k2
  have la := itoa_len a1 (by omega)
  have lb := itoa_len b1 (by omega)
  have e1 := dec53 (list := [a.a_]) (by simp) (by simp; omega)
  have e2 := dec53 (list := [a.a_, a.b_]) (by simp) (by simp; omega)
  simp only [List.map_cons, List.map_nil, join_two] at e1 e2
  have j1 : Lib.join [Lib.itoa a.a_] [32] = Lib.itoa a.a_ := by simp [Lib.join, List.intercalate]
  rw [j1] at e1
  unfold g12 actT g51
  rw [h, Option.bind_some, if_neg (by simp), Option.bind_some]
  split
  · rw [words52, Option.bind_some, w1, Option.bind_some, show (⟨#[32]⟩ : ByteArray) = sb [32] from rfl, cat_sb (by simp; omega), Option.bind_some, e2, Option.bind_some, cat_sb (by simp; omega), Option.bind_some]
    simp
  · rw [words52, Option.bind_some, w1, Option.bind_some, show (⟨#[32]⟩ : ByteArray) = sb [32] from rfl, cat_sb (by simp; omega), Option.bind_some, e1, Option.bind_some, cat_sb (by simp; omega), Option.bind_some]
    simp

def lineT (s : T29) (k : Nat) : List UInt8 := Lib.itoa (s.need_.getD k 0) ++ [32] ++ Lib.itoa (s.price_.getD k 0) ++ [10]
def headT (s : T29) : List UInt8 := [115, 101, 97, 115, 111, 110, 32] ++ Lib.itoa s.most_ ++ [32] ++ Lib.itoa s.yield_ ++ [32] ++ Lib.itoa s.store_ ++ [32] ++ Lib.itoa s.first_ ++ [32] ++ Lib.itoa s.loss_ ++ [10]
def linesT (s : T29) (k : Nat) : List UInt8 := headT s ++ (List.range k).flatMap (lineT s)
theorem lines_succ (s : T29) (k : Nat) : linesT s (k + 1) = linesT s k ++ lineT s k := by
  unfold linesT
  rw [List.range_succ, List.flatMap_append]
  simp
theorem Valid.bnds {s : T29} (hv : Valid s) : (0 ≤ s.most_ ∧ s.most_ ≤ 20) ∧ (1 ≤ s.yield_ ∧ s.yield_ ≤ 40) ∧ (0 ≤ s.store_ ∧ s.store_ ≤ 60) ∧ (0 ≤ s.first_ ∧ s.first_ ≤ s.store_) ∧ 0 ≤ s.loss_ ∧ s.loss_ ≤ 100 := ⟨⟨hv.most0, hv.most1⟩, ⟨hv.yield0, hv.yield1⟩, ⟨hv.store0, hv.store1⟩, ⟨hv.first0, hv.first1⟩, hv.loss0, hv.loss1⟩
theorem head_len {s : T29} (hv : Valid s) : (headT s).length ≤ 100 := by
  obtain ⟨m1, y1, s1, f1, l1⟩ := hv.bnds
  have lm := itoa_len m1.1 (by omega)
  have ly := itoa_len (n := s.yield_) (by omega) (by omega)
  have ls := itoa_len s1.1 (by omega)
  have lf := itoa_len f1.1 (by omega)
  have ll := itoa_len l1.1 (by omega)
  unfold headT
  simp
  omega
theorem line_vals {s : T29} (hv : Valid s) {k : Nat} (h : k < s.need_.length) : s.need_.getD k 0 = s.need_[k] ∧ s.price_.getD k 0 = s.price_[k]'(by have := hv.pl; omega) ∧ (0 ≤ s.need_[k] ∧ s.need_[k] < 10000) ∧ 0 ≤ s.price_[k]'(by have := hv.pl; omega) ∧ s.price_[k]'(by have := hv.pl; omega) < 10000 := by
  have hp : k < s.price_.length := by have := hv.pl; omega
  have h1 := hv.need _ (List.getElem_mem h)
  have h2 := hv.price _ (List.getElem_mem hp)
  exact ⟨by simp [List.getD, h], by simp [List.getD, hp], ⟨h1.1, by omega⟩, h2.1, by omega⟩
theorem lines_len {s : T29} (hv : Valid s) : ∀ k, k ≤ s.need_.length → (linesT s k).length ≤ 100 + 10 * k
  | 0, _ => by have := head_len hv; simpa [linesT] using this
  | k + 1, h => by
    have h1 := lines_len hv k (by omega)
    obtain ⟨e1, e2, ⟨a1, a2⟩, b1, b2⟩ := line_vals hv (k := k) (by omega)
    have := itoa_len a1 a2
    have := itoa_len b1 b2
    rw [lines_succ]
    unfold lineT
    rw [e1, e2]
    simp
    omega
theorem text58 {s : T29} (hv : Valid s) (hs : Small s) : g58 s = some (sb (linesT s s.need_.length)) := by
  obtain ⟨m1, y1, s1, f1, l1⟩ := hv.bnds
  have lm := itoa_len m1.1 (by omega)
  have ly := itoa_len (n := s.yield_) (by omega) (by omega)
  have ls := itoa_len s1.1 (by omega)
  have lf := itoa_len f1.1 (by omega)
  have ll := itoa_len l1.1 (by omega)
  have hL : loopO (g58_L1 s) (sb (headT s), 0) = some (sb (linesT s s.need_.length)) := by
    have := loop_run (body := g58_L1 s) (fun i => (sb (linesT s i), (i : Int))) s.need_.length (fun i hi => by
      obtain ⟨e1, e2, ⟨a1, a2⟩, b1, b2⟩ := line_vals hv hi
      have hp : i < s.price_.length := by have := hv.pl; omega
      have la := itoa_len a1 a2
      have lb := itoa_len b1 b2
      have hl := lines_len hv i (by omega)
      have hsm := hs.1
      have e3 := dec53 (list := [s.need_[i], s.price_[i]]) (by simp) (by simp; omega)
      simp only [List.map_cons, List.map_nil, join_two] at e3
      rw [g58_L1, if_pos (by simp [ltI]; omega), idx_nat hi, Option.bind_some, idx_nat hp, Option.bind_some, e3, Option.bind_some, show (⟨#[10]⟩ : ByteArray) = sb [10] from rfl, cat_sb (by simp; omega), Option.bind_some, cat_sb (by simp; omega), Option.bind_some, succI (by omega), lines_succ]
      unfold lineT
      rw [e1, e2]) (r := sb (linesT s s.need_.length)) (by
      rw [g58_L1, if_neg (by simp [ltI])])
    simpa [linesT] using this
  have e5 := dec53 (list := [s.most_, s.yield_, s.store_, s.first_, s.loss_]) (by simp) (by simp; omega)
  have j5 : Lib.join [Lib.itoa s.most_, Lib.itoa s.yield_, Lib.itoa s.store_, Lib.itoa s.first_, Lib.itoa s.loss_] [32] = Lib.itoa s.most_ ++ [32] ++ Lib.itoa s.yield_ ++ [32] ++ Lib.itoa s.store_ ++ [32] ++ Lib.itoa s.first_ ++ [32] ++ Lib.itoa s.loss_ := by simp [Lib.join, List.intercalate]
  simp only [List.map_cons, List.map_nil, j5] at e5
  unfold g58 g58_j1
  rw [show (⟨#[10]⟩ : ByteArray) = sb [10] from rfl, show (⟨#[115, 101, 97, 115, 111, 110, 32]⟩ : ByteArray) = sb [115, 101, 97, 115, 111, 110, 32] from rfl]
  rw [e5, Option.bind_some, cat_sb (by simp; omega), Option.bind_some, cat_sb (by simp; omega), Option.bind_some]
  have hh : [115, 101, 97, 115, 111, 110, 32] ++ (Lib.itoa s.most_ ++ [32] ++ Lib.itoa s.yield_ ++ [32] ++ Lib.itoa s.store_ ++ [32] ++ Lib.itoa s.first_ ++ [32] ++ Lib.itoa s.loss_) ++ [10] = headT s := by simp [headT]
  rw [hh, hL]
  rfl

end Go.Proofs.YtilkneilafpjiaaDoor
