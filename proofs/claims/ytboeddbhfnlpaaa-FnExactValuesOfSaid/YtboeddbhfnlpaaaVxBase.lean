/- A value logic over the model: what a value reads as, apart from where it lies. Definitions, and their stability under what a call does to memory. -/
import Derived.Below
import Derived.Tactics2
import Derived.ChangeKeysEq
import Derived.Lib.LaidTab
import Derived.Lib.ItoaNum
namespace Go.VL
open Go.RowKit

/-- What is known of a value. 'i', 'b', 'f', 'str': the numbers themselves ('f k none': some NaN). 's': another value without an address. 'nil': the nil slice. 'sl n es': a slice in memory that stays as it is, its elements 'es' of n cells each. 'own': the same in memory of its own. 'ref b e len': a slice over the call's own block b, from element e on. 'refc b e j n len': a slice inside its element e, from cell j on, elements of n cells. 'ptr b e j': a pointer to cell j of element e. 'cptr cs j': a pointer to cell j of cells that stay as they are. 'err': an interface that is not nil. -/
inductive V where
  | i (k : IntKind) (n : Int)
  | b (x : Bool)
  | f (k : FloatKind) (x : Option Nat)
  | str (s : ByteArray)
  | s (v : Value)
  | nil
  | sl (n : Nat) (es : List (List V))
  | own (n : Nat) (es : List (List V))
  | ref (b e len : Nat)
  | refc (b e j n len : Nat)
  | ptr (b e j : Nat)
  | cptr (cs : List V) (j : Nat)
  | agg (cs : List V)
  | tup (vs : List V)
  | err
  | any
  deriving Inhabited

def plainV : V → Bool
  | .i _ _ | .b _ | .f _ _ | .str _ | .s _ | .nil | .err => true
  | _ => false

mutual
/-- What is its own, taken as memory that stays as it is. -/
def frz : V → V
  | .own n es => .sl n (frzE es)
  | .agg cs => .agg (frzL cs)
  | .tup cs => .tup (frzL cs)
  | v => v
def frzL : List V → List V
  | [] => []
  | v :: vs => frz v :: frzL vs
def frzE : List (List V) → List (List V)
  | [] => []
  | l :: ls => frzL l :: frzE ls
end

/-- Block k holds at least n cells. -/
def Room (w : World) (k n : Nat) : Prop := ∃ c e fr, w.heap[k]? = some (.cells c e fr) ∧ n ≤ c.size

def scalarB : Value → Bool
  | .nilIface | .nilFunc => true
  | .pointer _ => true
  | .func (.func _) first captured => first.isEmpty && captured.isEmpty
  | _ => false

/-- Where a block of the call's own lies: block, first cell, cells an element. -/
abbrev Pl := Nat → Option (Nat × Nat × Nat)

/-- No place at all. -/
def noPl : Pl := fun _ => none

mutual
/-- 'S w O φ v u': the value u is as v tells. O: the blocks that may still be written; φ: where the call's own blocks lie. -/
inductive S (w : World) (O : Nat → Prop) : Pl → V → Value → Prop
  | i {φ : Pl} {k : IntKind} {n : Int} : S w O φ (.i k n) (.int k n)
  | b {φ : Pl} {x : Bool} : S w O φ (.b x) (.bool x)
  | f {φ : Pl} {k : FloatKind} {x : Nat} : S w O φ (.f k (some x)) (.float k x)
  | nan {φ : Pl} {k : FloatKind} {x : Nat} (h : (k.decode x).isNaN = true) : S w O φ (.f k none) (.float k x)
  | str {φ : Pl} {s : ByteArray} : S w O φ (.str s) (.string s)
  | s {φ : Pl} {v : Value} (h : scalarB v = true) : S w O φ (.s v) v
  | nil {φ : Pl} : S w O φ .nil (.slice none 0 0)
  | sl {φ : Pl} {n len : Nat} {es : List (List V)} {b off cap : Nat} (hn : ∀ e ∈ es, e.length = n) (hl : es.length = len) (hc : len ≤ cap) (h : Ss w O noPl b off es.flatten) : S w O φ (.sl n es) (.slice (some ⟨b, off, none⟩) len cap)
  | sl0 {φ : Pl} {n cap : Nat} {a : Addr} : S w O φ (.sl n []) (.slice (some a) 0 cap)
  | slnil {φ : Pl} {n : Nat} : S w O φ (.sl n []) (.slice none 0 0)
  | ref {φ : Pl} {b e len pb po bn cap : Nat} (hφ : φ b = some (pb, po, bn)) (hc : len ≤ cap) (hr : Room w pb (po + (e + cap) * bn)) : S w O φ (.ref b e len) (.slice (some ⟨pb, po + e * bn, none⟩) len cap)
  | ref0 {φ : Pl} {b e pb off : Nat} : S w O φ (.ref b e 0) (.slice (some ⟨pb, off, none⟩) 0 0)
  | refnil {φ : Pl} {b e : Nat} : S w O φ (.ref b e 0) (.slice none 0 0)
  | refc {φ : Pl} {b e j n len pb po bn cap : Nat} (hφ : φ b = some (pb, po, bn)) (hc : len ≤ cap) : S w O φ (.refc b e j n len) (.slice (some ⟨pb, po + e * bn + j, none⟩) len cap)
  | refc0 {φ : Pl} {b e j n pb off : Nat} : S w O φ (.refc b e j n 0) (.slice (some ⟨pb, off, none⟩) 0 0)
  | ptr {φ : Pl} {b e j pb po bn : Nat} (hφ : φ b = some (pb, po, bn)) : S w O φ (.ptr b e j) (.pointer (some ⟨pb, po + e * bn + j, none⟩))
  | cptr {φ : Pl} {cs : List V} {j b off : Nat} (h : Ss w O noPl b off cs) : S w O φ (.cptr cs j) (.pointer (some ⟨b, off + j, none⟩))
  | agg {φ : Pl} {cs : List V} {us : List Value} (h : Sl w O φ cs us) : S w O φ (.agg cs) (.agg us.toArray)
  | tup {φ : Pl} {cs : List V} {us : List Value} (h : Sl w O φ cs us) : S w O φ (.tup cs) (.tuple us.toArray)
  | own {φ : Pl} {n : Nat} {es : List (List V)} {u : Value} (h : S w O noPl (.sl n (frzE es)) u) : S w O φ (.own n es) u
  | err {φ : Pl} {t : TypeId} {u : Value} : S w O φ .err (.iface t u)
  | any {φ : Pl} {u : Value} : S w O φ .any u
/-- Cells from 'off' on in a block that stays as it is. -/
inductive Ss (w : World) (O : Nat → Prop) : Pl → Nat → Nat → List V → Prop
  | nil {φ : Pl} {b off : Nat} : Ss w O φ b off []
  | cons {φ : Pl} {b off : Nat} {v : V} {u : Value} {vs : List V} (ho : ¬ O b) (hc : w.cell? ⟨b, off, none⟩ = some u) (hv : S w O φ v u) (hs : Ss w O φ b (off + 1) vs) : Ss w O φ b off (v :: vs)
/-- Values in a row. -/
inductive Sl (w : World) (O : Nat → Prop) : Pl → List V → List Value → Prop
  | nil {φ : Pl} : Sl w O φ [] []
  | cons {φ : Pl} {v : V} {u : Value} {vs : List V} {us : List Value} (hv : S w O φ v u) (hs : Sl w O φ vs us) : Sl w O φ (v :: vs) (u :: us)
end

/-- What a step may do: blocks that were there and were not to be written stay, and stay out of what may be written; places stay; blocks keep their room. -/
structure Ev (w : World) (O : Nat → Prop) (φ : Pl) (w' : World) (O' : Nat → Prop) (φ' : Pl) : Prop where
  keep : ∀ k, k < w.heap.size → ¬ O k → w'.heap[k]? = w.heap[k]? ∧ ¬ O' k
  place : ∀ b p, φ b = some p → φ' b = some p
  room : ∀ k n, Room w k n → Room w' k n

theorem cell?_lt {w : World} {a : Addr} {u : Value} (h : w.cell? a = some u) : a.block < w.heap.size := by
  unfold World.cell? at h
  rcases Nat.lt_or_ge a.block w.heap.size with h' | h'
  · exact h'
  · simp [Array.getElem?_eq_none h'] at h

theorem cell?_same {w w' : World} {b off : Nat} (h : w'.heap[b]? = w.heap[b]?) : w'.cell? ⟨b, off, none⟩ = w.cell? ⟨b, off, none⟩ := by
  unfold World.cell?
  simp only [h]

theorem Ev.none {w w' : World} {O O' : Nat → Prop} {φ φ' : Pl} (h : Ev w O φ w' O' φ') : Ev w O noPl w' O' noPl := ⟨h.keep, fun _ _ hb => (by cases hb), h.room⟩

section
variable {w w' : World} {O O' : Nat → Prop}
mutual
theorem S.ev : ∀ {φ φ' : Pl} {v : V} {u : Value}, Ev w O φ w' O' φ' → S w O φ v u → S w' O' φ' v u
  | _, _, _, _, _, .i => .i
  | _, _, _, _, _, .b => .b
  | _, _, _, _, _, .f => .f
  | _, _, _, _, _, .nan h => .nan h
  | _, _, _, _, _, .str => .str
  | _, _, _, _, _, .s h => .s h
  | _, _, _, _, _, .nil => .nil
  | _, _, _, _, hE, .sl hn hl hc h => .sl hn hl hc (Ss.ev hE.none h)
  | _, _, _, _, _, .sl0 => .sl0
  | _, _, _, _, _, .slnil => .slnil
  | _, _, _, _, _, .refnil => .refnil
  | _, _, _, _, hE, .ref hφ hc hr => .ref (hE.place _ _ hφ) hc (hE.room _ _ hr)
  | _, _, _, _, _, .ref0 => .ref0
  | _, _, _, _, hE, .refc hφ hc => .refc (hE.place _ _ hφ) hc
  | _, _, _, _, _, .refc0 => .refc0
  | _, _, _, _, hE, .ptr hφ => .ptr (hE.place _ _ hφ)
  | _, _, _, _, hE, .cptr h => .cptr (Ss.ev hE.none h)
  | _, _, _, _, hE, .agg h => .agg (Sl.ev hE h)
  | _, _, _, _, hE, .tup h => .tup (Sl.ev hE h)
  | _, _, _, _, hE, .own h => .own (S.ev hE.none h)
  | _, _, _, _, _, .err => .err
  | _, _, _, _, _, .any => .any
theorem Ss.ev : ∀ {φ φ' : Pl} {b off : Nat} {vs : List V}, Ev w O φ w' O' φ' → Ss w O φ b off vs → Ss w' O' φ' b off vs
  | _, _, _, _, _, _, .nil => .nil
  | _, _, _, _, _, hE, .cons ho hc hv hs => .cons (hE.keep _ (cell?_lt hc) ho).2 ((cell?_same (hE.keep _ (cell?_lt hc) ho).1).trans hc) (S.ev hE hv) (Ss.ev hE hs)
theorem Sl.ev : ∀ {φ φ' : Pl} {vs : List V} {us : List Value}, Ev w O φ w' O' φ' → Sl w O φ vs us → Sl w' O' φ' vs us
  | _, _, _, _, _, .nil => .nil
  | _, _, _, _, hE, .cons hv hs => .cons (S.ev hE hv) (Sl.ev hE hs)
end

/-- What holds without a place holds with any. -/
theorem S.lax {O : Nat → Prop} {φ : Pl} {v : V} {u : Value} (h : S w O noPl v u) : S w O φ v u := h.ev ⟨fun _ _ ho => ⟨rfl, ho⟩, fun _ _ hb => (by cases hb), fun _ _ hr => hr⟩
end

theorem Ev.refl (w : World) (O : Nat → Prop) (φ : Pl) : Ev w O φ w O φ := ⟨fun _ _ h => ⟨rfl, h⟩, fun _ _ h => h, fun _ _ h => h⟩

theorem Ev.trans {w1 w2 w3 : World} {O1 O2 O3 : Nat → Prop} {φ1 φ2 φ3 : Pl} (hs : w1.heap.size ≤ w2.heap.size) (h : Ev w1 O1 φ1 w2 O2 φ2) (k : Ev w2 O2 φ2 w3 O3 φ3) : Ev w1 O1 φ1 w3 O3 φ3 :=
  ⟨fun i hi ho => by
    obtain ⟨h1, h2⟩ := h.keep i hi ho
    obtain ⟨h3, h4⟩ := k.keep i (by omega) h2
    exact ⟨h3.trans h1, h4⟩, fun b p hb => k.place b p (h.place b p hb), fun i n hr => k.room i n (h.room i n hr)⟩

section
variable {w : World} {O : Nat → Prop} {φ : Pl}
theorem Sl.length : ∀ {vs : List V} {us : List Value}, Sl w O φ vs us → us.length = vs.length
  | _, _, .nil => rfl
  | _, _, .cons _ hs => by simp [hs.length]

theorem Sl.get : ∀ {vs : List V} {us : List Value}, Sl w O φ vs us → ∀ {i : Nat} {v : V}, vs[i]? = some v → ∃ u, us[i]? = some u ∧ S w O φ v u
  | _, _, .nil, i, v, h => by simp at h
  | _, _, .cons hv hs, 0, v, h => by simp at h; subst h; exact ⟨_, rfl, hv⟩
  | _, _, .cons hv hs, i + 1, v, h => by simp at h; simpa using hs.get h

theorem Sl.drop : ∀ {vs : List V} {us : List Value}, Sl w O φ vs us → ∀ i, Sl w O φ (vs.drop i) (us.drop i)
  | _, _, .nil, i => by simp; exact .nil
  | _, _, h, 0 => by simpa using h
  | _, _, .cons hv hs, i + 1 => by simpa using hs.drop i

theorem Sl.take : ∀ {vs : List V} {us : List Value}, Sl w O φ vs us → ∀ i, Sl w O φ (vs.take i) (us.take i)
  | _, _, .nil, i => by simp; exact .nil
  | _, _, h, 0 => by simp; exact .nil
  | _, _, .cons hv hs, i + 1 => by simpa using .cons hv (hs.take i)

theorem Sl.append : ∀ {vs : List V} {us : List Value}, Sl w O φ vs us → ∀ {vs' : List V} {us' : List Value}, Sl w O φ vs' us' → Sl w O φ (vs ++ vs') (us ++ us')
  | _, _, .nil, _, _, h => by simpa using h
  | _, _, .cons hv hs, _, _, h => by simpa using .cons hv (hs.append h)

theorem Sl.of_get : ∀ {vs : List V} {us : List Value}, us.length = vs.length → (∀ (i : Nat) (v : V) (u : Value), vs[i]? = some v → us[i]? = some u → S w O φ v u) → Sl w O φ vs us
  | [], [], _, _ => .nil
  | v :: vs, u :: us, hl, h => .cons (h 0 v u rfl rfl) (Sl.of_get (by simpa using hl) fun i v u h1 h2 => h (i + 1) v u (by simpa using h1) (by simpa using h2))
  | [], _ :: _, hl, _ => by simp at hl
  | _ :: _, [], hl, _ => by simp at hl

theorem Ss.get : ∀ {b off : Nat} {vs : List V}, Ss w O φ b off vs → ∀ {i : Nat} {v : V}, vs[i]? = some v → ∃ u, w.cell? ⟨b, off + i, none⟩ = some u ∧ ¬ O b ∧ S w O φ v u
  | _, _, _, .nil, i, v, h => by simp at h
  | _, _, _, .cons ho hc hv hs, 0, v, h => by simp at h; subst h; exact ⟨_, hc, ho, hv⟩
  | _, _, _, .cons ho hc hv hs, i + 1, v, h => by
    simp at h
    obtain ⟨u, h1, h2, h3⟩ := hs.get h
    exact ⟨u, by rw [← h1]; congr 2; omega, h2, h3⟩

theorem Ss.of_get : ∀ {vs : List V} {b off : Nat}, (vs ≠ [] → ¬ O b) → (∀ (i : Nat) (v : V), vs[i]? = some v → ∃ u, w.cell? ⟨b, off + i, none⟩ = some u ∧ S w O φ v u) → Ss w O φ b off vs
  | [], _, _, _, _ => .nil
  | v :: vs, b, off, ho, h => by
    obtain ⟨u, h1, h2⟩ := h 0 v rfl
    exact .cons (ho (by simp)) h1 h2 (Ss.of_get (fun _ => ho (by simp)) fun i v hi => by
      obtain ⟨u, h1, h2⟩ := h (i + 1) v (by simpa using hi)
      exact ⟨u, by rw [← h1]; congr 2; omega, h2⟩)

theorem Ss.drop : ∀ {b off : Nat} {vs : List V}, Ss w O φ b off vs → ∀ i, Ss w O φ b (off + i) (vs.drop i)
  | _, _, _, .nil, i => by simp; exact .nil
  | _, _, _, h, 0 => by simpa using h
  | b, off, _, .cons ho hc hv hs, i + 1 => by
    have := hs.drop i
    simp only [List.drop_succ_cons]
    rwa [show off + (i + 1) = off + 1 + i by omega]

theorem Ss.take : ∀ {b off : Nat} {vs : List V}, Ss w O φ b off vs → ∀ i, Ss w O φ b off (vs.take i)
  | _, _, _, .nil, i => by simp; exact .nil
  | _, _, _, h, 0 => by simp; exact .nil
  | b, off, _, .cons ho hc hv hs, i + 1 => by simp only [List.take_succ_cons]; exact .cons ho hc hv (hs.take i)

/-- The cells from 'i' on, 'n' of them, in memory: their values in a row. -/
theorem Ss.cells : ∀ {b off : Nat} {vs : List V}, Ss w O φ b off vs → ∃ us : List Value, us.length = vs.length ∧ Sl w O φ vs us ∧ ∀ (j : Nat) (u : Value), us[j]? = some u → w.cell? ⟨b, off + j, none⟩ = some u
  | _, _, _, .nil => ⟨[], rfl, .nil, by simp⟩
  | _, _, _, .cons ho hc hv hs => by
    obtain ⟨us, h1, h2, h3⟩ := hs.cells
    refine ⟨_ :: us, by simp [h1], .cons hv h2, fun j u hj => ?_⟩
    cases j with
    | zero => simp at hj; subst hj; exact hc
    | succ j => rw [← h3 j u (by simpa using hj)]; congr 2; omega
end

/-- The elements of a slice, cell by cell: element i begins at i * n. -/
theorem flatten_drop_take {α : Type} : ∀ {es : List (List α)} {n : Nat}, (∀ e ∈ es, e.length = n) → ∀ {i : Nat} {e : List α}, es[i]? = some e → (es.flatten.drop (i * n)).take n = e
  | [], _, _, i, e, h => by simp at h
  | x :: es, n, hn, 0, e, h => by
    simp at h; subst h
    have := hn x (by simp)
    simp [← this]
  | x :: es, n, hn, i + 1, e, h => by
    have hx := hn x (by simp)
    have := flatten_drop_take (es := es) (n := n) (fun e he => hn e (by simp [he])) (i := i) (e := e) (by simpa using h)
    rw [List.flatten_cons, show (i + 1) * n = x.length + i * n by rw [Nat.add_mul, hx]; omega, List.drop_append]
    rw [List.drop_eq_nil_of_le (by omega), List.nil_append, show x.length + i * n - x.length = i * n by omega]
    exact this

theorem flatten_length {α : Type} : ∀ {es : List (List α)} {n : Nat}, (∀ e ∈ es, e.length = n) → es.flatten.length = es.length * n
  | [], n, _ => by simp
  | x :: es, n, hn => by
    rw [List.flatten_cons, List.length_append, flatten_length (es := es) (n := n) (fun e he => hn e (by simp [he])), hn x (by simp), List.length_cons, Nat.add_mul]; omega

theorem flatten_get {α : Type} {es : List (List α)} {n : Nat} (hn : ∀ e ∈ es, e.length = n) {i j : Nat} {e : List α} {x : α} (h : es[i]? = some e) (hj : e[j]? = some x) : es.flatten[i * n + j]? = some x := by
  have := flatten_drop_take hn h
  have hlt : j < e.length := (List.getElem?_eq_some_iff.1 hj).1
  have hm : e.length = n := hn e (List.mem_of_getElem? h)
  rw [← this, List.getElem?_take, if_pos (by omega), List.getElem?_drop] at hj
  exact hj

theorem S.plain {w w' : World} {O O' : Nat → Prop} {φ φ' : Pl} {v : V} {u : Value} (h : S w O φ v u) (hp : plainV v = true) : S w' O' φ' v u := by
  cases h <;> first | (cases hp; done) | skip
  · exact .i
  · exact .b
  · exact .f
  · exact .nan ‹_›
  · exact .str
  · exact .s ‹_›
  · exact .nil
  · exact .err

mutual
/-- A result: 'F' are the blocks that are its own. -/
inductive RV (w : World) : V → Value → List Nat → Prop
  | pl {v : V} {u : Value} (hp : plainV v = true) (h : S w (fun _ => False) noPl v u) : RV w v u []
  | own0 {n b off : Nat} : RV w (.own n []) (.slice (some ⟨b, off, none⟩) 0 0) []
  | ownnil {n : Nat} : RV w (.own n []) (.slice none 0 0) []
  | own {n len : Nat} {es : List (List V)} {b off cap : Nat} {c : Array Value} {e : TypeId} {F : List Nat} (hn : ∀ x ∈ es, x.length = n) (hl : es.length = len) (hc : len ≤ cap) (hb : w.heap[b]? = some (.cells c e (0, 0)))
      (hr : off + cap * n ≤ c.size) (hs : Rs w c off es.flatten F) : RV w (.own n es) (.slice (some ⟨b, off, none⟩) len cap) (b :: F)
  | agg {cs : List V} {us : List Value} {F : List Nat} (h : Rl w cs us F) : RV w (.agg cs) (.agg us.toArray) F
  | tup {cs : List V} {us : List Value} {F : List Nat} (h : Rl w cs us F) : RV w (.tup cs) (.tuple us.toArray) F
  | fz {v v' : V} {u : Value} {F : List Nat} (h : RV w v u F) (e : v' = frz v) : RV w v' u F
inductive Rs (w : World) : Array Value → Nat → List V → List Nat → Prop
  | nil {c : Array Value} {off : Nat} : Rs w c off [] []
  | cons {c : Array Value} {off : Nat} {v : V} {u : Value} {vs : List V} {F G : List Nat} (hc : c[off]? = some u) (h1 : u.oneCell' = true) (hv : RV w v u F) (hs : Rs w c (off + 1) vs G) : Rs w c off (v :: vs) (F ++ G)
inductive Rl (w : World) : List V → List Value → List Nat → Prop
  | nil : Rl w [] [] []
  | cons {v : V} {u : Value} {vs : List V} {us : List Value} {F G : List Nat} (hv : RV w v u F) (hs : Rl w vs us G) : Rl w (v :: vs) (u :: us) (F ++ G)
end


mutual
/-- A result stays one where its blocks stay. -/
theorem RV.keep {w w' : World} : ∀ {v : V} {u : Value} {F : List Nat}, RV w v u F → (∀ k ∈ F, w'.heap[k]? = w.heap[k]?) → RV w' v u F
  | _, _, _, .pl hp h, _ => .pl hp (h.plain hp)
  | _, _, _, .own0, _ => .own0
  | _, _, _, .ownnil, _ => .ownnil
  | _, _, _, .own hn hl hc hb hr hs, hk => .own hn hl hc ((hk _ (by simp)).trans hb) hr (Rs.keep hs fun k h => hk k (by simp [h]))
  | _, _, _, .agg h, hk => .agg (Rl.keep h hk)
  | _, _, _, .tup h, hk => .tup (Rl.keep h hk)
  | _, _, _, .fz h e, hk => .fz (RV.keep h hk) e
theorem Rs.keep {w w' : World} : ∀ {c : Array Value} {off : Nat} {vs : List V} {F : List Nat}, Rs w c off vs F → (∀ k ∈ F, w'.heap[k]? = w.heap[k]?) → Rs w' c off vs F
  | _, _, _, _, .nil, _ => .nil
  | _, _, _, _, .cons hc h1 hv hs, hk => .cons hc h1 (RV.keep hv fun k h => hk k (by simp [h])) (Rs.keep hs fun k h => hk k (by simp [h]))
theorem Rl.keep {w w' : World} : ∀ {vs : List V} {us : List Value} {F : List Nat}, Rl w vs us F → (∀ k ∈ F, w'.heap[k]? = w.heap[k]?) → Rl w' vs us F
  | _, _, _, .nil, _ => .nil
  | _, _, _, .cons hv hs, hk => .cons (RV.keep hv fun k h => hk k (by simp [h])) (Rl.keep hs fun k h => hk k (by simp [h]))
end

/-- The blocks that a call keeps. -/
abbrev Fr := Nat → Prop
/-- All of them are there. -/
def Fr.bd (N : Fr) (w : World) : Prop := ∀ k, N k → k < w.heap.size

/-- The blocks of N are as they were; so are the streams; no block has gone. -/
structure Bel (N : Fr) (w w' : World) : Prop where
  os : w'.os = w.os
  tape : w'.tape = w.tape
  output : w'.output = w.output
  size : w.heap.size ≤ w'.heap.size
  block : ∀ k, N k → w'.heap[k]? = w.heap[k]?

theorem Bel.refl (N : Fr) (w : World) : Bel N w w := ⟨rfl, rfl, rfl, Nat.le_refl _, fun _ _ => rfl⟩
theorem Bel.trans {N : Fr} {a b c : World} (h : Bel N a b) (k : Bel N b c) : Bel N a c :=
  ⟨k.os.trans h.os, k.tape.trans h.tape, k.output.trans h.output, Nat.le_trans h.size k.size, fun i hi => (k.block i hi).trans (h.block i hi)⟩
theorem Bel.of {N : Fr} {w w' : World} (h : Below w.heap.size w w') (hN : N.bd w) : Bel N w w' := ⟨h.os, h.tape, h.output, h.size, fun k hk => h.block k (hN k hk)⟩
theorem Bel.mono {N N' : Fr} {w w' : World} (h : Bel N w w') (hN : ∀ k, N' k → N k) : Bel N' w w' := ⟨h.os, h.tape, h.output, h.size, fun k hk => h.block k (hN k hk)⟩
theorem Bel.alloc {N : Fr} {a w : World} (h : Bel N a w) (hB : N.bd w) (o : Obj) : Bel N a (w.alloc o) :=
  h.trans ⟨rfl, rfl, rfl, by simp, fun k hk => Below.heap_alloc _ _ _ (hB k hk)⟩
theorem Fr.bd.trans {N : Fr} {w w' : World} (h : N.bd w) (hs : w.heap.size ≤ w'.heap.size) : N.bd w' := fun k hk => Nat.lt_of_lt_of_le (h k hk) hs

/-- The state: what the temporaries hold, and the call's own blocks ('none': given up): cells an element, the elements. -/
structure VS where
  t : List V
  m : List (Option (Nat × List (List V)))
  g : List V := []

abbrev VM := List (Option (Nat × List (List V)))

/-- The call's own blocks that may be written, under 'φ'. -/
def Live (φ : Pl) (m : VM) (k : Nat) : Prop := ∃ b x po n, m[b]? = some (some x) ∧ φ b = some (k, po, n)

/-- Own block b, with elements es, lies as φ says, and can be written. -/
def BlkAt (w : World) (O : Nat → Prop) (φ : Pl) (b n : Nat) (es : List (List V)) : Prop :=
  (∀ e ∈ es, e.length = n) ∧ ∃ pb po c e, φ b = some (pb, po, n) ∧ w.heap[pb]? = some (.cells c e (0, 0)) ∧ po + es.length * n ≤ c.size ∧ ∀ (i : Nat) (v : V), es.flatten[i]? = some v → ∃ u, c[po + i]? = some u ∧ u.oneCell' = true ∧ S w O φ v u

/-- Own slices in cells: their blocks are theirs alone (ψ tells whose), and nobody writes them. -/
def OwnC (N : Fr) (w : World) (φ : Pl) (m : VM) (ψ : Nat → Option (Nat × Nat)) : Prop :=
  ∀ (b n : Nat) (es : List (List V)) (pb po bn i n' : Nat) (es' : List (List V)), m[b]? = some (some (n, es)) → φ b = some (pb, po, bn) → es.flatten[i]? = some (.own n' es') →
    ∃ u F, w.cell? ⟨pb, po + i, none⟩ = some u ∧ RV w (.own n' es') u F ∧ F.Nodup ∧ ∀ k ∈ F, ψ k = some (b, i) ∧ ¬ N k ∧ k < w.heap.size ∧ ¬ Live φ m k

theorem OwnC.keep {N : Fr} {w w' : World} {φ φ' : Pl} {m m' : VM} {ψ : Nat → Option (Nat × Nat)} (h : OwnC N w φ m ψ) (hsz : w.heap.size ≤ w'.heap.size) (hk : ∀ k, k < w.heap.size → ¬ Live φ m k → w'.heap[k]? = w.heap[k]? ∧ ¬ Live φ' m' k)
    (hc : ∀ (b n : Nat) (es : List (List V)) (pb po bn i n' : Nat) (es' : List (List V)), m'[b]? = some (some (n, es)) → φ' b = some (pb, po, bn) → es.flatten[i]? = some (.own n' es') →
      ∃ n0 es0 pb0 po0 bn0, m[b]? = some (some (n0, es0)) ∧ φ b = some (pb0, po0, bn0) ∧ es0.flatten[i]? = some (.own n' es') ∧ ∀ u, w.cell? ⟨pb0, po0 + i, none⟩ = some u → w'.cell? ⟨pb, po + i, none⟩ = some u) : OwnC N w' φ' m' ψ := by
  intro b n es pb po bn i n' es' h1 h2 h3
  obtain ⟨n0, es0, pb0, po0, bn0, g1, g2, g3, g4⟩ := hc b n es pb po bn i n' es' h1 h2 h3
  obtain ⟨u, F, f1, f2, f3, f4⟩ := h b n0 es0 pb0 po0 bn0 i n' es' g1 g2 g3
  exact ⟨u, F, g4 u f1, f2.keep fun k hkF => (hk k (f4 k hkF).2.2.1 (f4 k hkF).2.2.2).1, f3, fun k hkF => by
    obtain ⟨a1, a2, a3, a4⟩ := f4 k hkF
    exact ⟨a1, a2, by omega, (hk k a3 a4).2⟩⟩

structure Mem (N : Fr) (w : World) (φ : Pl) (m : VM) : Prop where
  at_ : ∀ b n es p, m[b]? = some (some (n, es)) → φ b = some p → BlkAt w (Live φ m) φ b n es
  new : ∀ b k po n, φ b = some (k, po, n) → ¬ N k ∧ k < w.heap.size
  dom : ∀ b p, φ b = some p → b < m.length
  inj : ∀ b b' k po po' n n', φ b = some (k, po, n) → φ b' = some (k, po', n') → b = b'
  own : ∃ ψ, OwnC N w φ m ψ

/-- What the library's package-level variables hold, those that the program has. -/
def Glob (P : Program) (w : World) : Prop :=
  (∀ g, P.globalNamed "internal/strconv.uint64pow10" = some g → Lib.TabIs P w "internal/strconv.uint64pow10" .u64 Lib.pow10Tab) ∧
  (∀ g, P.globalNamed "strconv.ErrSyntax" = some g → ∃ tp p, w.var? P "strconv.ErrSyntax" = some #[.iface tp p]) ∧
  (∀ g, P.globalNamed "strconv.ErrRange" = some g → ∃ tp p, w.var? P "strconv.ErrRange" = some #[.iface tp p]) ∧
  (∀ g, P.globalNamed "internal/bytealg.MaxLen" = some g → ∃ m, w.cell? ⟨g, 0, none⟩ = some (.int .i64 m))

theorem var_lt {P : Program} {w : World} {n : String} {cs : Array Value} (h : w.var? P n = some cs) : ∀ g, P.globalNamed n = some g → g < w.heap.size := fun g hg => by
  unfold World.var? at h
  simp only [hg, Option.bind_some] at h
  rcases Nat.lt_or_ge g w.heap.size with h' | h'
  · exact h'
  · simp [Array.getElem?_eq_none h'] at h

theorem var_below {P : Program} {w0 w : World} {N : Fr} {n : String} {cs : Array Value} (h : w0.var? P n = some cs) (hb : Bel N w0 w) (hN : ∀ g, P.globalNamed n = some g → N g) : w.var? P n = some cs := by
  unfold World.var? at h ⊢
  cases hg : P.globalNamed n with
  | none => simp [hg] at h
  | some g =>
    simp only [hg, Option.bind_some] at h ⊢
    rw [hb.block g (hN g hg)]
    exact h

/-- The call keeps them. -/
def GK (P : Program) (N : Fr) : Prop :=
  (∀ g, P.globalNamed "internal/strconv.uint64pow10" = some g → N g) ∧ (∀ g, P.globalNamed "strconv.ErrSyntax" = some g → N g) ∧ (∀ g, P.globalNamed "strconv.ErrRange" = some g → N g) ∧ (∀ g, P.globalNamed "internal/bytealg.MaxLen" = some g → N g)
theorem Glob.gk {P : Program} {w : World} (h : Glob P w) : GK P (fun k => k < w.heap.size) :=
  ⟨fun g hg => var_lt (h.1 g hg) g hg, fun g hg => by
    obtain ⟨tp, p, h1⟩ := h.2.1 g hg
    exact var_lt h1 g hg, fun g hg => by
    obtain ⟨tp, p, h1⟩ := h.2.2.1 g hg
    exact var_lt h1 g hg, fun g hg => by
    obtain ⟨m, h1⟩ := h.2.2.2 g hg
    exact cell?_lt h1⟩

/-- A program without these variables. -/
theorem Glob.none {P : Program} (h1 : P.globalNamed "internal/strconv.uint64pow10" = Option.none) (h2 : P.globalNamed "strconv.ErrSyntax" = Option.none) (h3 : P.globalNamed "strconv.ErrRange" = Option.none) (h4 : P.globalNamed "internal/bytealg.MaxLen" = Option.none) (w : World) : Glob P w :=
  ⟨fun g hg => (by rw [h1] at hg; cases hg), fun g hg => (by rw [h2] at hg; cases hg), fun g hg => (by rw [h3] at hg; cases hg), fun g hg => (by rw [h4] at hg; cases hg)⟩

theorem Glob.below {P : Program} {w0 w : World} {N : Fr} (h : Glob P w0) (hb : Bel N w0 w) (hN : GK P N) : Glob P w :=
  ⟨fun g hg => var_below (h.1 g hg) hb hN.1, fun g hg => by
    obtain ⟨tp, p, h1⟩ := h.2.1 g hg
    exact ⟨tp, p, var_below h1 hb hN.2.1⟩, fun g hg => by
    obtain ⟨tp, p, h1⟩ := h.2.2.1 g hg
    exact ⟨tp, p, var_below h1 hb hN.2.2.1⟩, fun g hg => by
    obtain ⟨m, h1⟩ := h.2.2.2 g hg
    exact ⟨m, (cell?_same (hb.block g (hN.2.2.2 g hg))).trans h1⟩⟩

/-- The relation of states: N: the blocks that the call keeps, since world w0.1; w0.2: values that are kept for a caller, of which st.g tells. -/
structure SR (P : Program) (N : Fr) (w0 : World × List Value) (st : VS) (a : Act) (w : World) (φ : Pl) : Prop where
  defers : a.defers = []
  size : a.tmps.size = st.t.length
  tmps : ∀ (i : Nat) (v : V), st.t[i]? = some v → ∃ u, a.tmps[i]? = some u ∧ S w (Live φ st.m) φ v u
  mem : Mem N w φ st.m
  below : Bel N w0.1 w
  start : N.bd w
  gh : Sl w (Live φ st.m) φ st.g w0.2
  gl : Glob P w0.1 ∧ GK P N

theorem SR.glob {P : Program} {N : Fr} {w0 : World × List Value} {st : VS} {a : Act} {w : World} {φ : Pl} (h : SR P N w0 st a w φ) : Glob P w := h.gl.1.below h.below h.gl.2

end Go.VL
