/- A value logic over the model: what a value reads as, apart from where it lies. Definitions, and their stability under what a call does to memory. -/
import Derived.Below
import Derived.Tactics2
import Derived.ChangeKeysEq
import Derived.Lib.LaidTab
import Derived.Lib.ItoaNum
import Derived.Deep.Draws
import Derived.Laws.FloatArith
import Derived.Laws.Strings
import Derived.Laws.StructEq
import Derived.WideLaws
import Derived.Laws.AppendOwn
import Derived.Laws.MakeOwn
namespace Go.VL
open Go.RowKit
inductive V where
 | i (k : IntKind) (n : Int)
 | b (x : Bool)
 | f (k : FloatKind) (x : Option Nat)
 | str (s : ByteArray)
 | s (v : Value)
 | nil
 | sl (n : Nat) (es : List (List V))
 | own (n : Nat) (es : List (List V))
 | ref (b e len : Nat)
 | refc (b e j n len : Nat)
 | ptr (b e j : Nat)
 | cptr (cs : List V) (j : Nat)
 | agg (cs : List V)
 | tup (vs : List V)
 | err
 | any
 deriving Inhabited
def Yn : V→Bool
 | .i _ _ | .b _ | .f _ _ | .str _ | .s _ | .nil | .err => true
 | _ => false
mutual
def frz : V→V
 | .own n es => .sl n (Jj es)
 | .agg cs => .agg (Qw cs)
 | .tup cs => .tup (Qw cs)
 | v => v
def Qw : List V→List V
 | [] => []
 | v :: vs => frz v :: Qw vs
def Jj : List (List V)→List (List V)
 | [] => []
 | l :: ls => Qw l :: Jj ls
end
def Room (w : World) (k n : Nat) : Prop:=∃ c e fr,w.heap[k]? = some (.cells c e fr)∧n≤c.size
def scalarB : Value→Bool
 | .nilIface | .nilFunc => true
 | .pointer _ => true
 | .func (.func _) first captured => first.isEmpty && captured.isEmpty
 | _ => false
abbrev Pl:=Nat→Option (Nat × Nat × Nat)
def Wi : Pl:=fun _ => none
mutual
inductive S (w : World) (O : Nat→Prop) : Pl→V→Value→Prop
 | i {φ : Pl} {k : IntKind} {n : Int} : S w O φ (.i k n) (.int k n)
 | b {φ : Pl} {x : Bool} : S w O φ (.b x) (.bool x)
 | f {φ : Pl} {k : FloatKind} {x : Nat} : S w O φ (.f k (some x)) (.float k x)
 | nan {φ : Pl} {k : FloatKind} {x : Nat} (h : (k.decode x).isNaN = true) : S w O φ (.f k none) (.float k x)
 | str {φ : Pl} {s : ByteArray} : S w O φ (.str s) (.string s)
 | s {φ : Pl} {v : Value} (h : scalarB v = true) : S w O φ (.s v) v
 | nil {φ : Pl} : S w O φ .nil (.slice none 0 0)
 | sl {φ : Pl} {n len : Nat} {es : List (List V)} {b off cap : Nat} (hn : ∀ e ∈ es,e.length = n) (hl : es.length = len) (hc : len≤cap) (h : Ss w O Wi b off es.flatten) : S w O φ (.sl n es) (.slice (some ⟨b,off,none⟩) len cap)
 | sl0 {φ : Pl} {n cap : Nat} {a : Addr} : S w O φ (.sl n []) (.slice (some a) 0 cap)
 | slnil {φ : Pl} {n : Nat} : S w O φ (.sl n []) (.slice none 0 0)
 | ref {φ : Pl} {b e len pb po bn cap : Nat} (hφ : φ b = some (pb,po,bn)) (hc : len≤cap) (hr : Room w pb (po + (e + cap) * bn)) : S w O φ (.ref b e len) (.slice (some ⟨pb,po + e * bn,none⟩) len cap)
 | ref0 {φ : Pl} {b e pb off : Nat} : S w O φ (.ref b e 0) (.slice (some ⟨pb,off,none⟩) 0 0)
 | refnil {φ : Pl} {b e : Nat} : S w O φ (.ref b e 0) (.slice none 0 0)
 | refc {φ : Pl} {b e j n len pb po bn cap : Nat} (hφ : φ b = some (pb,po,bn)) (hc : len≤cap) : S w O φ (.refc b e j n len) (.slice (some ⟨pb,po + e * bn + j,none⟩) len cap)
 | refc0 {φ : Pl} {b e j n pb off : Nat} : S w O φ (.refc b e j n 0) (.slice (some ⟨pb,off,none⟩) 0 0)
 | ptr {φ : Pl} {b e j pb po bn : Nat} (hφ : φ b = some (pb,po,bn)) : S w O φ (.ptr b e j) (.pointer (some ⟨pb,po + e * bn + j,none⟩))
 | cptr {φ : Pl} {cs : List V} {j b off : Nat} (h : Ss w O Wi b off cs) : S w O φ (.cptr cs j) (.pointer (some ⟨b,off + j,none⟩))
 | agg {φ : Pl} {cs : List V} {us : List Value} (h : Sl w O φ cs us) : S w O φ (.agg cs) (.agg us.toArray)
 | tup {φ : Pl} {cs : List V} {us : List Value} (h : Sl w O φ cs us) : S w O φ (.tup cs) (.tuple us.toArray)
 | own {φ : Pl} {n : Nat} {es : List (List V)} {u : Value} (h : S w O Wi (.sl n (Jj es)) u) : S w O φ (.own n es) u
 | err {φ : Pl} {t : TypeId} {u : Value} : S w O φ .err (.iface t u)
 | any {φ : Pl} {u : Value} : S w O φ .any u
inductive Ss (w : World) (O : Nat→Prop) : Pl→Nat→Nat→List V→Prop
 | nil {φ : Pl} {b off : Nat} : Ss w O φ b off []
 | cons {φ : Pl} {b off : Nat} {v : V} {u : Value} {vs : List V} (ho : ¬ O b) (hc : w.cell? ⟨b,off,none⟩ = some u) (hv : S w O φ v u) (hs : Ss w O φ b (off + 1) vs) : Ss w O φ b off (v :: vs)
inductive Sl (w : World) (O : Nat→Prop) : Pl→List V→List Value→Prop
 | nil {φ : Pl} : Sl w O φ [] []
 | cons {φ : Pl} {v : V} {u : Value} {vs : List V} {us : List Value} (hv : S w O φ v u) (hs : Sl w O φ vs us) : Sl w O φ (v :: vs) (u :: us)
end
structure Ev (w : World) (O : Nat→Prop) (φ : Pl) (w' : World) (O' : Nat→Prop) (φ' : Pl) : Prop where
 keep : ∀ k,k < w.heap.size→¬ O k→w'.heap[k]? = w.heap[k]?∧¬ O' k
 place : ∀ b p,φ b = some p→φ' b = some p
 room : ∀ k n,Room w k n→Room w' k n
theorem cell?_lt {w : World} {a : Addr} {u : Value} (h : w.cell? a = some u) : a.block < w.heap.size:=by
 unfold World.cell? at h
 rcases Nat.lt_or_ge a.block w.heap.size with h' | h'
 ·exact h'
 ·simp [Array.getElem?_eq_none h'] at h
theorem cell?_same {w w' : World} {b off : Nat} (h : w'.heap[b]? = w.heap[b]?) : w'.cell? ⟨b,off,none⟩ = w.cell? ⟨b,off,none⟩:=by
 unfold World.cell?
 simp only [h]
theorem Ev.none {w w' : World} {O O' : Nat→Prop} {φ φ' : Pl} (h : Ev w O φ w' O' φ') : Ev w O Wi w' O' Wi:=⟨h.keep,fun _ _ hb => (by cases hb),h.room⟩
section
variable {w w' : World} {O O' : Nat→Prop}
mutual
theorem S.ev : ∀ {φ φ' : Pl} {v : V} {u : Value},Ev w O φ w' O' φ'→S w O φ v u→S w' O' φ' v u
 | _,_,_,_,_,.i => .i
 | _,_,_,_,_,.b => .b
 | _,_,_,_,_,.f => .f
 | _,_,_,_,_,.nan h => .nan h
 | _,_,_,_,_,.str => .str
 | _,_,_,_,_,.s h => .s h
 | _,_,_,_,_,.nil => .nil
 | _,_,_,_,hE,.sl hn hl hc h => .sl hn hl hc (Ss.ev hE.none h)
 | _,_,_,_,_,.sl0 => .sl0
 | _,_,_,_,_,.slnil => .slnil
 | _,_,_,_,_,.refnil => .refnil
 | _,_,_,_,hE,.ref hφ hc hr => .ref (hE.place _ _ hφ) hc (hE.room _ _ hr)
 | _,_,_,_,_,.ref0 => .ref0
 | _,_,_,_,hE,.refc hφ hc => .refc (hE.place _ _ hφ) hc
 | _,_,_,_,_,.refc0 => .refc0
 | _,_,_,_,hE,.ptr hφ => .ptr (hE.place _ _ hφ)
 | _,_,_,_,hE,.cptr h => .cptr (Ss.ev hE.none h)
 | _,_,_,_,hE,.agg h => .agg (Sl.ev hE h)
 | _,_,_,_,hE,.tup h => .tup (Sl.ev hE h)
 | _,_,_,_,hE,.own h => .own (S.ev hE.none h)
 | _,_,_,_,_,.err => .err
 | _,_,_,_,_,.any => .any
theorem Ss.ev : ∀ {φ φ' : Pl} {b off : Nat} {vs : List V},Ev w O φ w' O' φ'→Ss w O φ b off vs→Ss w' O' φ' b off vs
 | _,_,_,_,_,_,.nil => .nil
 | _,_,_,_,_,hE,.cons ho hc hv hs => .cons (hE.keep _ (cell?_lt hc) ho).2 ((cell?_same (hE.keep _ (cell?_lt hc) ho).1).trans hc) (S.ev hE hv) (Ss.ev hE hs)
theorem Sl.ev : ∀ {φ φ' : Pl} {vs : List V} {us : List Value},Ev w O φ w' O' φ'→Sl w O φ vs us→Sl w' O' φ' vs us
 | _,_,_,_,_,.nil => .nil
 | _,_,_,_,hE,.cons hv hs => .cons (S.ev hE hv) (Sl.ev hE hs)
end
theorem S.lax {O : Nat→Prop} {φ : Pl} {v : V} {u : Value} (h : S w O Wi v u) : S w O φ v u:=h.ev ⟨fun _ _ ho => ⟨rfl,ho⟩,fun _ _ hb => (by cases hb),fun _ _ hr => hr⟩
end
theorem Ev.refl (w : World) (O : Nat→Prop) (φ : Pl) : Ev w O φ w O φ:=⟨fun _ _ h => ⟨rfl,h⟩,fun _ _ h => h,fun _ _ h => h⟩
theorem Ev.trans {w1 w2 w3 : World} {O1 O2 O3 : Nat→Prop} {φ1 φ2 φ3 : Pl} (hs : w1.heap.size≤w2.heap.size) (h : Ev w1 O1 φ1 w2 O2 φ2) (k : Ev w2 O2 φ2 w3 O3 φ3) : Ev w1 O1 φ1 w3 O3 φ3 :=
 ⟨fun i hi ho => by
  obtain ⟨h1,h2⟩:=h.keep i hi ho
  obtain ⟨h3,h4⟩:=k.keep i (by omega) h2
  exact ⟨h3.trans h1,h4⟩,fun b p hb => k.place b p (h.place b p hb),fun i n hr => k.room i n (h.room i n hr)⟩
section
variable {w : World} {O : Nat→Prop} {φ : Pl}
theorem Sl.length : ∀ {vs : List V} {us : List Value},Sl w O φ vs us→us.length = vs.length
 | _,_,.nil => rfl
 | _,_,.cons _ hs => by simp [hs.length]
theorem Sl.get : ∀ {vs : List V} {us : List Value},Sl w O φ vs us→∀ {i : Nat} {v : V},vs[i]? = some v→∃ u,us[i]? = some u∧S w O φ v u
 | _,_,.nil,i,v,h => by simp at h
 | _,_,.cons hv hs,0,v,h => by simp at h; subst h; exact ⟨_,rfl,hv⟩
 | _,_,.cons hv hs,i + 1,v,h => by simp at h; simpa using hs.get h
theorem Sl.drop : ∀ {vs : List V} {us : List Value},Sl w O φ vs us→∀ i,Sl w O φ (vs.drop i) (us.drop i)
 | _,_,.nil,i => by simp; exact .nil
 | _,_,h,0 => by simpa using h
 | _,_,.cons hv hs,i + 1 => by simpa using hs.drop i
theorem Sl.take : ∀ {vs : List V} {us : List Value},Sl w O φ vs us→∀ i,Sl w O φ (vs.take i) (us.take i)
 | _,_,.nil,i => by simp; exact .nil
 | _,_,h,0 => by simp; exact .nil
 | _,_,.cons hv hs,i + 1 => by simpa using .cons hv (hs.take i)
theorem Sl.append : ∀ {vs : List V} {us : List Value},Sl w O φ vs us→∀ {vs' : List V} {us' : List Value},Sl w O φ vs' us'→Sl w O φ (vs ++ vs') (us ++ us')
 | _,_,.nil,_,_,h => by simpa using h
 | _,_,.cons hv hs,_,_,h => by simpa using .cons hv (hs.append h)
theorem Sl.of_get : ∀ {vs : List V} {us : List Value},us.length = vs.length→(∀ (i : Nat) (v : V) (u : Value),vs[i]? = some v→us[i]? = some u→S w O φ v u)→Sl w O φ vs us
 | [],[],_,_ => .nil
 | v :: vs,u :: us,hl,h => .cons (h 0 v u rfl rfl) (Sl.of_get (by simpa using hl) fun i v u h1 h2 => h (i + 1) v u (by simpa using h1) (by simpa using h2))
 | [],_ :: _,hl,_ => by simp at hl
 | _ :: _,[],hl,_ => by simp at hl
theorem Ss.get : ∀ {b off : Nat} {vs : List V},Ss w O φ b off vs→∀ {i : Nat} {v : V},vs[i]? = some v→∃ u,w.cell? ⟨b,off + i,none⟩ = some u∧¬ O b∧S w O φ v u
 | _,_,_,.nil,i,v,h => by simp at h
 | _,_,_,.cons ho hc hv hs,0,v,h => by simp at h; subst h; exact ⟨_,hc,ho,hv⟩
 | _,_,_,.cons ho hc hv hs,i + 1,v,h => by
  simp at h
  obtain ⟨u,h1,h2,h3⟩:=hs.get h
  exact ⟨u,by rw [← h1]; congr 2; omega,h2,h3⟩
theorem Ss.of_get : ∀ {vs : List V} {b off : Nat},(vs ≠ []→¬ O b)→(∀ (i : Nat) (v : V),vs[i]? = some v→∃ u,w.cell? ⟨b,off + i,none⟩ = some u∧S w O φ v u)→Ss w O φ b off vs
 | [],_,_,_,_ => .nil
 | v :: vs,b,off,ho,h => by
  obtain ⟨u,h1,h2⟩:=h 0 v rfl
  exact .cons (ho (by simp)) h1 h2 (Ss.of_get (fun _ => ho (by simp)) fun i v hi => by
   obtain ⟨u,h1,h2⟩:=h (i + 1) v (by simpa using hi)
   exact ⟨u,by rw [← h1]; congr 2; omega,h2⟩)
theorem Ss.drop : ∀ {b off : Nat} {vs : List V},Ss w O φ b off vs→∀ i,Ss w O φ b (off + i) (vs.drop i)
 | _,_,_,.nil,i => by simp; exact .nil
 | _,_,_,h,0 => by simpa using h
 | b,off,_,.cons ho hc hv hs,i + 1 => by
  have:=hs.drop i
  simp only [List.drop_succ_cons]
  rwa [show off + (i + 1) = off + 1 + i by omega]
theorem Ss.take : ∀ {b off : Nat} {vs : List V},Ss w O φ b off vs→∀ i,Ss w O φ b off (vs.take i)
 | _,_,_,.nil,i => by simp; exact .nil
 | _,_,_,h,0 => by simp; exact .nil
 | b,off,_,.cons ho hc hv hs,i + 1 => by simp only [List.take_succ_cons]; exact .cons ho hc hv (hs.take i)
theorem Ss.cells : ∀ {b off : Nat} {vs : List V},Ss w O φ b off vs→∃ us : List Value,us.length = vs.length∧Sl w O φ vs us∧∀ (j : Nat) (u : Value),us[j]? = some u→w.cell? ⟨b,off + j,none⟩ = some u
 | _,_,_,.nil => ⟨[],rfl,.nil,by simp⟩
 | _,_,_,.cons ho hc hv hs => by
  obtain ⟨us,h1,h2,h3⟩:=hs.cells
  refine ⟨_ :: us,by simp [h1],.cons hv h2,fun j u hj => ?_⟩
  cases j with
  | zero => simp at hj; subst hj; exact hc
  | succ j => rw [← h3 j u (by simpa using hj)]; congr 2; omega
end
theorem Kg {α : Type} : ∀ {es : List (List α)} {n : Nat},(∀ e ∈ es,e.length = n)→∀ {i : Nat} {e : List α},es[i]? = some e→(es.flatten.drop (i * n)).take n = e
 | [],_,_,i,e,h => by simp at h
 | x :: es,n,hn,0,e,h => by
  simp at h; subst h
  have:=hn x (by simp)
  simp [← this]
 | x :: es,n,hn,i + 1,e,h => by
  have hx:=hn x (by simp)
  have:=Kg (es:=es) (n:=n) (fun e he => hn e (by simp [he])) (i:=i) (e:=e) (by simpa using h)
  rw [List.flatten_cons,show (i + 1) * n = x.length + i * n by rw [Nat.add_mul,hx]; omega,List.drop_append]
  rw [List.drop_eq_nil_of_le (by omega),List.nil_append,show x.length + i * n - x.length = i * n by omega]
  exact this
theorem Xv {α : Type} : ∀ {es : List (List α)} {n : Nat},(∀ e ∈ es,e.length = n)→es.flatten.length = es.length * n
 | [],n,_ => by simp
 | x :: es,n,hn => by
  rw [List.flatten_cons,List.length_append,Xv (es:=es) (n:=n) (fun e he => hn e (by simp [he])),hn x (by simp),List.length_cons,Nat.add_mul]; omega
theorem Ui {α : Type} {es : List (List α)} {n : Nat} (hn : ∀ e ∈ es,e.length = n) {i j : Nat} {e : List α} {x : α} (h : es[i]? = some e) (hj : e[j]? = some x) : es.flatten[i * n + j]? = some x:=by
 have:=Kg hn h
 have hlt : j < e.length:=(List.getElem?_eq_some_iff.1 hj).1
 have hm : e.length = n:=hn e (List.mem_of_getElem? h)
 rw [← this,List.getElem?_take,if_pos (by omega),List.getElem?_drop] at hj
 exact hj
theorem S.plain {w w' : World} {O O' : Nat→Prop} {φ φ' : Pl} {v : V} {u : Value} (h : S w O φ v u) (hp : Yn v = true) : S w' O' φ' v u:=by
 cases h <;> first | (cases hp; done) | skip
 ·exact .i
 ·exact .b
 ·exact .f
 ·exact .nan ‹_›
 ·exact .str
 ·exact .s ‹_›
 ·exact .nil
 ·exact .err
mutual
inductive RV (w : World) : V→Value→List Nat→Prop
 | pl {v : V} {u : Value} (hp : Yn v = true) (h : S w (fun _ => False) Wi v u) : RV w v u []
 | own0 {n b off : Nat} : RV w (.own n []) (.slice (some ⟨b,off,none⟩) 0 0) []
 | ownnil {n : Nat} : RV w (.own n []) (.slice none 0 0) []
 | own {n len : Nat} {es : List (List V)} {b off cap : Nat} {c : Array Value} {e : TypeId} {F : List Nat} (hn : ∀ x ∈ es,x.length = n) (hl : es.length = len) (hc : len≤cap) (hb : w.heap[b]? = some (.cells c e (0,0)))
   (hr : off + cap * n≤c.size) (hs : Rs w c off es.flatten F) : RV w (.own n es) (.slice (some ⟨b,off,none⟩) len cap) (b :: F)
 | agg {cs : List V} {us : List Value} {F : List Nat} (h : Rl w cs us F) : RV w (.agg cs) (.agg us.toArray) F
 | tup {cs : List V} {us : List Value} {F : List Nat} (h : Rl w cs us F) : RV w (.tup cs) (.tuple us.toArray) F
 | fz {v v' : V} {u : Value} {F : List Nat} (h : RV w v u F) (e : v' = frz v) : RV w v' u F
inductive Rs (w : World) : Array Value→Nat→List V→List Nat→Prop
 | nil {c : Array Value} {off : Nat} : Rs w c off [] []
 | cons {c : Array Value} {off : Nat} {v : V} {u : Value} {vs : List V} {F G : List Nat} (hc : c[off]? = some u) (h1 : u.oneCell' = true) (hv : RV w v u F) (hs : Rs w c (off + 1) vs G) : Rs w c off (v :: vs) (F ++ G)
inductive Rl (w : World) : List V→List Value→List Nat→Prop
 | nil : Rl w [] [] []
 | cons {v : V} {u : Value} {vs : List V} {us : List Value} {F G : List Nat} (hv : RV w v u F) (hs : Rl w vs us G) : Rl w (v :: vs) (u :: us) (F ++ G)
end
mutual
theorem RV.keep {w w' : World} : ∀ {v : V} {u : Value} {F : List Nat},RV w v u F→(∀ k ∈ F,w'.heap[k]? = w.heap[k]?)→RV w' v u F
 | _,_,_,.pl hp h,_ => .pl hp (h.plain hp)
 | _,_,_,.own0,_ => .own0
 | _,_,_,.ownnil,_ => .ownnil
 | _,_,_,.own hn hl hc hb hr hs,hk => .own hn hl hc ((hk _ (by simp)).trans hb) hr (Rs.keep hs fun k h => hk k (by simp [h]))
 | _,_,_,.agg h,hk => .agg (Rl.keep h hk)
 | _,_,_,.tup h,hk => .tup (Rl.keep h hk)
 | _,_,_,.fz h e,hk => .fz (RV.keep h hk) e
theorem Rs.keep {w w' : World} : ∀ {c : Array Value} {off : Nat} {vs : List V} {F : List Nat},Rs w c off vs F→(∀ k ∈ F,w'.heap[k]? = w.heap[k]?)→Rs w' c off vs F
 | _,_,_,_,.nil,_ => .nil
 | _,_,_,_,.cons hc h1 hv hs,hk => .cons hc h1 (RV.keep hv fun k h => hk k (by simp [h])) (Rs.keep hs fun k h => hk k (by simp [h]))
theorem Rl.keep {w w' : World} : ∀ {vs : List V} {us : List Value} {F : List Nat},Rl w vs us F→(∀ k ∈ F,w'.heap[k]? = w.heap[k]?)→Rl w' vs us F
 | _,_,_,.nil,_ => .nil
 | _,_,_,.cons hv hs,hk => .cons (RV.keep hv fun k h => hk k (by simp [h])) (Rl.keep hs fun k h => hk k (by simp [h]))
end
abbrev Fr:=Nat→Prop
def Fr.bd (N : Fr) (w : World) : Prop:=∀ k,N k→k < w.heap.size
structure Bel (N : Fr) (w w' : World) : Prop where
 os : w'.os = w.os
 tape : w'.tape = w.tape
 output : w'.output = w.output
 size : w.heap.size≤w'.heap.size
 block : ∀ k,N k→w'.heap[k]? = w.heap[k]?
theorem Bel.refl (N : Fr) (w : World) : Bel N w w:=⟨rfl,rfl,rfl,Nat.le_refl _,fun _ _ => rfl⟩
theorem Bel.trans {N : Fr} {a b c : World} (h : Bel N a b) (k : Bel N b c) : Bel N a c :=
 ⟨k.os.trans h.os,k.tape.trans h.tape,k.output.trans h.output,Nat.le_trans h.size k.size,fun i hi => (k.block i hi).trans (h.block i hi)⟩
theorem Bel.of {N : Fr} {w w' : World} (h : Below w.heap.size w w') (hN : N.bd w) : Bel N w w':=⟨h.os,h.tape,h.output,h.size,fun k hk => h.block k (hN k hk)⟩
theorem Bel.mono {N N' : Fr} {w w' : World} (h : Bel N w w') (hN : ∀ k,N' k→N k) : Bel N' w w':=⟨h.os,h.tape,h.output,h.size,fun k hk => h.block k (hN k hk)⟩
theorem Bel.alloc {N : Fr} {a w : World} (h : Bel N a w) (hB : N.bd w) (o : Obj) : Bel N a (w.alloc o) :=
 h.trans ⟨rfl,rfl,rfl,by simp,fun k hk => Below.heap_alloc _ _ _ (hB k hk)⟩
theorem Fr.bd.trans {N : Fr} {w w' : World} (h : N.bd w) (hs : w.heap.size≤w'.heap.size) : N.bd w':=fun k hk => Nat.lt_of_lt_of_le (h k hk) hs
structure VS where
 t : List V
 m : List (Option (Nat × List (List V)))
 g : List V:=[]
abbrev VM:=List (Option (Nat × List (List V)))
def Yf (φ : Pl) (m : VM) (k : Nat) : Prop:=∃ b x po n,m[b]? = some (some x)∧φ b = some (k,po,n)
def BlkAt (w : World) (O : Nat→Prop) (φ : Pl) (b n : Nat) (es : List (List V)) : Prop :=
 (∀ e ∈ es,e.length = n)∧∃ pb po c e,φ b = some (pb,po,n)∧w.heap[pb]? = some (.cells c e (0,0))∧po + es.length * n≤c.size∧∀ (i : Nat) (v : V),es.flatten[i]? = some v→∃ u,c[po + i]? = some u∧u.oneCell' = true∧S w O φ v u
def OwnC (N : Fr) (w : World) (φ : Pl) (m : VM) (ψ : Nat→Option (Nat × Nat)) : Prop :=
 ∀ (b n : Nat) (es : List (List V)) (pb po bn i n' : Nat) (es' : List (List V)),m[b]? = some (some (n,es))→φ b = some (pb,po,bn)→es.flatten[i]? = some (.own n' es') →
  ∃ u F,w.cell? ⟨pb,po + i,none⟩ = some u∧RV w (.own n' es') u F∧F.Nodup∧∀ k ∈ F,ψ k = some (b,i)∧¬ N k∧k < w.heap.size∧¬ Yf φ m k
theorem OwnC.keep {N : Fr} {w w' : World} {φ φ' : Pl} {m m' : VM} {ψ : Nat→Option (Nat × Nat)} (h : OwnC N w φ m ψ) (hsz : w.heap.size≤w'.heap.size) (hk : ∀ k,k < w.heap.size→¬ Yf φ m k→w'.heap[k]? = w.heap[k]?∧¬ Yf φ' m' k)
  (hc : ∀ (b n : Nat) (es : List (List V)) (pb po bn i n' : Nat) (es' : List (List V)),m'[b]? = some (some (n,es))→φ' b = some (pb,po,bn)→es.flatten[i]? = some (.own n' es') →
   ∃ n0 es0 pb0 po0 bn0,m[b]? = some (some (n0,es0))∧φ b = some (pb0,po0,bn0)∧es0.flatten[i]? = some (.own n' es')∧∀ u,w.cell? ⟨pb0,po0 + i,none⟩ = some u→w'.cell? ⟨pb,po + i,none⟩ = some u) : OwnC N w' φ' m' ψ:=by
 intro b n es pb po bn i n' es' h1 h2 h3
 obtain ⟨n0,es0,pb0,po0,bn0,g1,g2,g3,g4⟩:=hc b n es pb po bn i n' es' h1 h2 h3
 obtain ⟨u,F,f1,f2,f3,f4⟩:=h b n0 es0 pb0 po0 bn0 i n' es' g1 g2 g3
 exact ⟨u,F,g4 u f1,f2.keep fun k hkF => (hk k (f4 k hkF).2.2.1 (f4 k hkF).2.2.2).1,f3,fun k hkF => by
  obtain ⟨a1,a2,a3,a4⟩:=f4 k hkF
  exact ⟨a1,a2,by omega,(hk k a3 a4).2⟩⟩
structure Mem (N : Fr) (w : World) (φ : Pl) (m : VM) : Prop where
 at_ : ∀ b n es p,m[b]? = some (some (n,es))→φ b = some p→BlkAt w (Yf φ m) φ b n es
 new : ∀ b k po n,φ b = some (k,po,n)→¬ N k∧k < w.heap.size
 dom : ∀ b p,φ b = some p→b < m.length
 inj : ∀ b b' k po po' n n',φ b = some (k,po,n)→φ b' = some (k,po',n')→b = b'
 own : ∃ ψ,OwnC N w φ m ψ
def Glob (P : Program) (w : World) : Prop :=
 (∀ g,P.globalNamed "internal/strconv.uint64pow10" = some g→Lib.TabIs P w "internal/strconv.uint64pow10" .u64 Lib.pow10Tab) ∧
 (∀ g,P.globalNamed "strconv.ErrSyntax" = some g→∃ tp p,w.var? P "strconv.ErrSyntax" = some #[.iface tp p]) ∧
 (∀ g,P.globalNamed "strconv.ErrRange" = some g→∃ tp p,w.var? P "strconv.ErrRange" = some #[.iface tp p]) ∧
 (∀ g,P.globalNamed "internal/bytealg.MaxLen" = some g→∃ m,w.cell? ⟨g,0,none⟩ = some (.int .i64 m))
theorem var_lt {P : Program} {w : World} {n : String} {cs : Array Value} (h : w.var? P n = some cs) : ∀ g,P.globalNamed n = some g→g < w.heap.size:=fun g hg => by
 unfold World.var? at h
 simp only [hg,Option.bind_some] at h
 rcases Nat.lt_or_ge g w.heap.size with h' | h'
 ·exact h'
 ·simp [Array.getElem?_eq_none h'] at h
theorem var_below {P : Program} {w0 w : World} {N : Fr} {n : String} {cs : Array Value} (h : w0.var? P n = some cs) (hb : Bel N w0 w) (hN : ∀ g,P.globalNamed n = some g→N g) : w.var? P n = some cs:=by
 unfold World.var? at h ⊢
 cases hg : P.globalNamed n with
 | none => simp [hg] at h
 | some g =>
  simp only [hg,Option.bind_some] at h ⊢
  rw [hb.block g (hN g hg)]
  exact h
def GK (P : Program) (N : Fr) : Prop :=
 (∀ g,P.globalNamed "internal/strconv.uint64pow10" = some g→N g)∧(∀ g,P.globalNamed "strconv.ErrSyntax" = some g→N g)∧(∀ g,P.globalNamed "strconv.ErrRange" = some g→N g)∧(∀ g,P.globalNamed "internal/bytealg.MaxLen" = some g→N g)
theorem Glob.gk {P : Program} {w : World} (h : Glob P w) : GK P (fun k => k < w.heap.size) :=
 ⟨fun g hg => var_lt (h.1 g hg) g hg,fun g hg => by
  obtain ⟨tp,p,h1⟩:=h.2.1 g hg
  exact var_lt h1 g hg,fun g hg => by
  obtain ⟨tp,p,h1⟩:=h.2.2.1 g hg
  exact var_lt h1 g hg,fun g hg => by
  obtain ⟨m,h1⟩:=h.2.2.2 g hg
  exact cell?_lt h1⟩
theorem Glob.none {P : Program} (h1 : P.globalNamed "internal/strconv.uint64pow10" = Option.none) (h2 : P.globalNamed "strconv.ErrSyntax" = Option.none) (h3 : P.globalNamed "strconv.ErrRange" = Option.none) (h4 : P.globalNamed "internal/bytealg.MaxLen" = Option.none) (w : World) : Glob P w :=
 ⟨fun g hg => (by rw [h1] at hg; cases hg),fun g hg => (by rw [h2] at hg; cases hg),fun g hg => (by rw [h3] at hg; cases hg),fun g hg => (by rw [h4] at hg; cases hg)⟩
theorem Glob.below {P : Program} {w0 w : World} {N : Fr} (h : Glob P w0) (hb : Bel N w0 w) (hN : GK P N) : Glob P w :=
 ⟨fun g hg => var_below (h.1 g hg) hb hN.1,fun g hg => by
  obtain ⟨tp,p,h1⟩:=h.2.1 g hg
  exact ⟨tp,p,var_below h1 hb hN.2.1⟩,fun g hg => by
  obtain ⟨tp,p,h1⟩:=h.2.2.1 g hg
  exact ⟨tp,p,var_below h1 hb hN.2.2.1⟩,fun g hg => by
  obtain ⟨m,h1⟩:=h.2.2.2 g hg
  exact ⟨m,(cell?_same (hb.block g (hN.2.2.2 g hg))).trans h1⟩⟩
structure SR (P : Program) (N : Fr) (w0 : World × List Value) (st : VS) (a : Act) (w : World) (φ : Pl) : Prop where
 defers : a.defers = []
 size : a.tmps.size = st.t.length
 tmps : ∀ (i : Nat) (v : V),st.t[i]? = some v→∃ u,a.tmps[i]? = some u∧S w (Yf φ st.m) φ v u
 mem : Mem N w φ st.m
 below : Bel N w0.1 w
 start : N.bd w
 gh : Sl w (Yf φ st.m) φ st.g w0.2
 gl : Glob P w0.1∧GK P N
theorem SR.glob {P : Program} {N : Fr} {w0 : World × List Value} {st : VS} {a : Act} {w : World} {φ : Pl} (h : SR P N w0 st a w φ) : Glob P w:=h.gl.1.below h.below h.gl.2
end Go.VL

namespace Go.VL
open Go.RowKit
inductive TK where
  | bool | int (k : IntKind) | flt (k : FloatKind) | str | ptr (e : Nat) | slice (e : Nat) | struct (fs : List (Nat × Nat × Bool)) | arr (len e : Nat) | func | iface | other
  deriving DecidableEq,Inhabited
def Xe (P : Program) (t : TypeId) : Bool :=
  match P.underlying t with
  | some (.struct _) | some (.array _ _) => true
  | _ => false
def Uu (P : Program) (t : TypeId) : Nat:=if (P.underlying t).isSome then P.cellsOf t else 0
def tk (P : Program) (t : TypeId) : TK :=
  match P.underlying t with
  | some .bool => .bool
  | some (.int k) => .int k
  | some (.float k) => .flt k
  | some .string => .str
  | some (.pointer e) => .ptr e
  | some (.slice e) => .slice e
  | some (.struct F) => .struct (F.toList.map fun f => (f.offset,Uu P f.type,Xe P f.type))
  | some (.array n e) => .arr n e
  | some (.interface _) => .iface
  | some (.func ..) => .func
  | _ => .other
def lift1 : Value→V
  | .int k n => .i k n
  | .bool b => .b b
  | .float k x => .f k (some x)
  | .string s => .str s
  | .slice none 0 0 => .nil
  | v => if scalarB v then .s v else .any
def lift : Value→V
  | .agg cs => .agg (cs.toList.map lift1)
  | v => lift1 v
theorem S.lift1 {w : World} {O : Nat→Prop} {φ : Pl} (v : Value) : S w O φ (lift1 v) v:=by
  unfold VL.lift1
  split
  · exact .i
  · exact .b
  · exact .f
  · exact .str
  · exact .nil
  · split
    · rename_i h; exact .s h
    · exact .any
theorem Sl.lift1 {w : World} {O : Nat→Prop} {φ : Pl} : ∀ (l : List Value),Sl w O φ (l.map VL.lift1) l
  | [] => .nil
  | v :: l => .cons (S.lift1 v) (Sl.lift1 l)
theorem S.lift {w : World} {O : Nat→Prop} {φ : Pl} (v : Value) : S w O φ (lift v) v:=by
  unfold VL.lift
  split
  · rename_i cs
    have:=S.agg (Sl.lift1 (w:=w) (O:=O) (φ:=φ) cs.toList)
    simpa using this
  · exact S.lift1 _
def fop (op : BinOp) (k : FloatKind) (x y : Option Nat) : Option Nat:=x.bind fun a => y.bind fun b => floatBits op k a b
def Hh (k : FloatKind) (x y : Option Nat) : Option Ordering:=x.bind fun a => y.bind fun b => k.format.order a b
def vbinF (op : BinOp) (k : FloatKind) (x y : Option Nat) : Option V :=
  match op with
  | .add | .sub | .mul | .quo => some (.f k (fop op k x y))
  | .eql => some (.b (Hh k x y == some .eq))
  | .neq => some (.b (Hh k x y != some .eq))
  | .lss => some (.b (Hh k x y == some .lt))
  | .leq => some (.b (Hh k x y == some .lt || Hh k x y == some .eq))
  | .gtr => some (.b (Hh k x y == some .gt))
  | .geq => some (.b (Hh k x y == some .gt || Hh k x y == some .eq))
  | _ => none
def Jd (op : BinOp) (k : IntKind) (a b : Int) : Option V :=
  match op with
  | .add => some (.i k (k.wrap (a + b)))
  | .sub => some (.i k (k.wrap (a - b)))
  | .mul => some (.i k (k.wrap (a * b)))
  | .quo => if b = 0 then none else some (.i k (k.wrap (a.tdiv b)))
  | .rem => if b = 0 then none else some (.i k (a.tmod b))
  | .and => some (.i k (k.wrap (BitVec.ofInt k.bits a &&& BitVec.ofInt k.bits b).toNat))
  | .or => some (.i k (k.wrap (BitVec.ofInt k.bits a ||| BitVec.ofInt k.bits b).toNat))
  | .xor => some (.i k (k.wrap (BitVec.ofInt k.bits a ^^^ BitVec.ofInt k.bits b).toNat))
  | .andNot => some (.i k (k.wrap (BitVec.ofInt k.bits a &&& ~~~ BitVec.ofInt k.bits b).toNat))
  | .eql => some (.b (a == b))
  | .neq => some (.b (a != b))
  | .lss => some (.b (decide (a < b)))
  | .leq => some (.b (decide (a≤b)))
  | .gtr => some (.b (decide (b < a)))
  | .geq => some (.b (decide (b≤a)))
  | _ => none
def vbinS (op : BinOp) (a b : ByteArray) : Option V :=
  match op with
  | .add => if a.size + b.size≤9223372036854775807 then some (.str (a ++ b)) else none
  | .eql => some (.b (a.data.toList == b.data.toList))
  | .neq => some (.b (!(a.data.toList == b.data.toList)))
  | _ => none
def vshift (op : BinOp) (k : IntKind) (a b : Int) : Option V :=
  if b < 0 then none else
  match op with
  | .shl => some (.i k (k.wrap (a * 2 ^ (min b.toNat k.bits))))
  | .shr => some (.i k (a.fdiv (2 ^ (min b.toNat k.bits))))
  | _ => none
def Ue : BinOp→Bool
  | .shl | .shr => true
  | _ => false
def Xu (T : TK) (op : BinOp) (x y : V) : Option V :=
  match x,y with
  | .i k a,.i k' b => if Ue op then vshift op k a b else if k = k' then Jd op k a b else none
  | .f k a,.f k' b => if k = k' then vbinF op k a b else none
  | .str a,.str b => vbinS op a b
  | .b a,.b c => if T = .bool then (match op with | .eql => some (.b (a == c)) | .neq => some (.b (!(a == c))) | _ => none) else none
  | _,_ => none
def vun (op : UnOp) (x : V) : Option V :=
  match op,x with
  | .neg,.i k n => some (.i k (k.wrap (0 - n)))
  | .neg,.f k x => some (.f k (x.map (Op.negFloat k)))
  | .not,.b b => some (.b (!b))
  | _,_ => none
def Gd (ks kd : FloatKind) (x : Option Nat) : Option (Option Nat) :=
  if ks = kd then some x else
  match x with
  | none => some none
  | some b => match ks.decode b with
    | .nan _ _ => some none
    | .infinity s => some (some (kd.encode (.infinity s)))
    | .number s m e => if (kd.decode (kd.encode (.number s m e))).isInfinity then none else some (some (kd.encode (.number s m e)))
def Kq (A B : TK) (x : V) : Option V :=
  match B,x with
  | .int k,.i _ n => if A = .other then none else some (.i k (k.wrap n))
  | .flt k,.i _ n => if A = .other then none else some (.f k (some (k.nearest n)))
  | .int k,.f ks x => if A = .other then none else match x.bind fun b => floatToIntVal ks b k with | some n => some (.i k n) | none => none
  | .flt k,.f ks x => if A = .other then none else (Gd ks k x).map (.f k)
  | .str,.str s => if A = .other then none else some (.str s)
  | _,_ => none
theorem read_nan {f : Ieee.Format} {b : Nat} : (f.read b).isNaN = true ↔ f.binade≤b % f.signWeight∧f.infRung < b % f.signWeight:=by
  unfold Ieee.Format.read
  dsimp only
  split
  · simp [Ieee.Datum.isNaN]; omega
  · split
    · simp [Ieee.Datum.isNaN]; omega
    · split
      · simp [Ieee.Datum.isNaN]; omega
      · simp [Ieee.Datum.isNaN]; omega
theorem nan_word (k : FloatKind) (t : Nat) (b : Nat) (h : b = match k with | .f32 => (t % 2) * 2 ^ 31 + 0x7f800000 + 1 + (t / 2) % (2 ^ 23 - 1) | .f64 => (t % 2) * 2 ^ 63 + 0x7ff0000000000000 + 1 + (t / 2) % (2 ^ 52 - 1)) : (k.decode b).isNaN = true:=by
  cases k
  · have h1 : FloatKind.f32.format.binade = 8388608:=by decide
    have h2 : FloatKind.f32.format.signWeight = 2147483648:=by decide
    have h3 : FloatKind.f32.format.infRung = 2139095040:=by decide
    have h' : b = t % 2 * 2 ^ 31 + 0x7f800000 + 1 + t / 2 % (2 ^ 23 - 1):=h
    refine read_nan.2 ?_
    rw [h1,h2,h3,h']
    have hr:=Nat.mod_lt (t / 2) (show 0 < 8388607 by decide)
    have hs:=Nat.mod_lt t (show 0 < 2 by decide)
    rw [show (2 ^ 23 - 1 : Nat) = 8388607 by decide]
    generalize t / 2 % 8388607 = r at *
    generalize t % 2 = s at *
    omega
  · have h1 : FloatKind.f64.format.binade = 4503599627370496:=by decide
    have h2 : FloatKind.f64.format.signWeight = 9223372036854775808:=by decide
    have h3 : FloatKind.f64.format.infRung = 9218868437227405312:=by decide
    have h' : b = t % 2 * 2 ^ 63 + 0x7ff0000000000000 + 1 + t / 2 % (2 ^ 52 - 1):=h
    refine read_nan.2 ?_
    rw [h1,h2,h3,h']
    have hr:=Nat.mod_lt (t / 2) (show 0 < 4503599627370495 by decide)
    have hs:=Nat.mod_lt t (show 0 < 2 by decide)
    rw [show (2 ^ 52 - 1 : Nat) = 4503599627370495 by decide]
    generalize t / 2 % 4503599627370495 = r at *
    generalize t % 2 = s at *
    omega
theorem nan_choose (k : FloatKind) (x y t : Nat) : (k.decode ((Question.nanBits k x y).cut t)).isNaN = true:=nan_word k t _ (by cases k <;> rfl)
theorem nan_conv (k : FloatKind) (x t : Nat) : (k.decode ((Question.nanConv k x).cut t)).isNaN = true:=nan_word k t _ (by cases k <;> rfl)
theorem Gc {d : Ieee.Datum} (h : d.isNaN = true) : ∃ s m,d = .nan s m:=by
  cases d <;> simp [Ieee.Datum.isNaN] at h; exact ⟨_,_,rfl⟩
theorem floatBits_nan_left {op : BinOp} {k : FloatKind} {x y : Nat} (h : (k.decode x).isNaN = true) : floatBits op k x y = none:=by
  obtain ⟨s,m,e⟩:=Gc h
  have e' : k.format.read x = .nan s m:=e
  cases op <;> simp [floatBits,Ieee.Format.add,Ieee.Format.sub,Ieee.Format.mul,Ieee.Format.div,e',Ieee.Datum.sum,Ieee.Datum.product,Ieee.Datum.quotient]
theorem floatBits_nan_right {op : BinOp} {k : FloatKind} {x y : Nat} (h : (k.decode y).isNaN = true) : floatBits op k x y = none:=by
  obtain ⟨s,m,e⟩:=Gc h
  have e' : k.format.read y = .nan s m:=e
  cases op <;> simp [floatBits,Ieee.Format.add,Ieee.Format.sub,Ieee.Format.mul,Ieee.Format.div,e',Ieee.Datum.opposite] <;> cases k.format.read x <;> simp [Ieee.Datum.sum,Ieee.Datum.product,Ieee.Datum.quotient]
theorem order_nan_left {k : FloatKind} {x y : Nat} (h : (k.decode x).isNaN = true) : k.format.order x y = none:=by
  obtain ⟨s,m,e⟩:=Gc h
  have e' : k.format.read x = .nan s m:=e
  simp [Ieee.Format.order,e',Ieee.Datum.order]
theorem order_nan_right {k : FloatKind} {x y : Nat} (h : (k.decode y).isNaN = true) : k.format.order x y = none:=by
  obtain ⟨s,m,e⟩:=Gc h
  have e' : k.format.read y = .nan s m:=e
  simp only [Ieee.Format.order,e']
  cases k.format.read x <;> simp [Ieee.Datum.order]
def FR (k : FloatKind) (x : Option Nat) (b : Nat) : Prop:=x = some b∨(x = none∧(k.decode b).isNaN = true)
theorem FR.s {w : World} {O : Nat→Prop} {φ : Pl} {k : FloatKind} {x : Option Nat} {b : Nat} (h : FR k x b) : S w O φ (.f k x) (.float k b):=by
  rcases h with rfl | ⟨rfl,h⟩
  · exact .f
  · exact .nan h
theorem S.fr {w : World} {O : Nat→Prop} {φ : Pl} {k : FloatKind} {x : Option Nat} {u : Value} (h : S w O φ (.f k x) u) : ∃ b,u = .float k b∧FR k x b:=by
  cases h with
  | f => exact ⟨_,rfl,.inl rfl⟩
  | nan h => exact ⟨_,rfl,.inr ⟨rfl,h⟩⟩
theorem fop_fr {op : BinOp} {k : FloatKind} {x y : Option Nat} {a b : Nat} (hx : FR k x a) (hy : FR k y b) : fop op k x y = floatBits op k a b:=by
  rcases hx with rfl | ⟨rfl,hx⟩
  · rcases hy with rfl | ⟨rfl,hy⟩
    · rfl
    · rw [floatBits_nan_right hy]; rfl
  · rw [floatBits_nan_left hx]; rfl
theorem ford_fr {k : FloatKind} {x y : Option Nat} {a b : Nat} (hx : FR k x a) (hy : FR k y b) : Hh k x y = k.format.order a b:=by
  rcases hx with rfl | ⟨rfl,hx⟩
  · rcases hy with rfl | ⟨rfl,hy⟩
    · rfl
    · rw [order_nan_right hy]; rfl
  · rw [order_nan_left hx]; rfl
theorem decode_neg {k : FloatKind} {b : Nat} (h : (k.decode b).isNaN = true) : (k.decode (Op.negFloat k b)).isNaN = true:=by
  have hm : Op.negFloat k b % k.format.signWeight = b % k.format.signWeight:=by
    show (b ^^^ 2 ^ (k.format.exponentBits + k.format.fractionBits)) % 2 ^ (k.format.exponentBits + k.format.fractionBits) = _
    rw [Nat.xor_mod_two_pow,Nat.mod_self,Nat.xor_zero]
    rfl
  refine read_nan.2 ?_
  rw [hm]
  exact read_nan.1 h
section
variable {P : Program} {w : World} {O : Nat→Prop} {φ : Pl}
def Kt (P : Program) (w : World) (O : Nat→Prop) (φ : Pl) (x : Sem Value) (v : V) : Prop:=∃ u n,x.run P w = .ok u (w.drewN n)∧S w O φ v u
theorem Kt.mk0 {x : Sem Value} {v : V} {u : Value} (h : x.run P w = .ok u w) (hs : S w O φ v u) : Kt P w O φ x v:=⟨u,0,by rw [h]; rfl,hs⟩
theorem run_equal_bool {t : TypeId} {a c : Bool} (hu : P.underlying t = some .bool) : (Op.equal t (.bool a) (.bool c)).run P w = .ok (a == c) w:=by
  have h : ∀ d,(Op.equalIn (d + 1) t (.bool a) (.bool c)).run P w = .ok (a == c) w:=fun d => by
    simp only [Op.equalIn,Sem.run_bind,run_underlying hu,Result.andThen_ok,Sem.run_pure]
  exact h 9999
theorem vbin_sound {t : TypeId} {op : BinOp} {x y : Operand} {a b v : V} {u1 u2 : Value} (h : Xu (tk P t) op a b = some v) (h1 : S w O φ a u1) (h2 : S w O φ b u2) :
    Kt P w O φ (do eqGuard op t x y u1 u2; binOp op t u1 u2) v:=by
  unfold Xu at h
  split at h
  · -- Qg
    cases h1; cases h2
    rename_i k a k' b
    rw [eqGuard_at_int]
    split at h
    · rename_i hsh
      unfold vshift at h
      split at h
      · cases h
      · rename_i hb
        cases op <;> first | (cases hsh; done) | skip
        all_goals (obtain rfl:=Option.some.inj h; refine .mk0 ?_ .i; simp [binOp,Op.shift,hb])
    · rename_i hsh
      split at h
      · rename_i hk
        subst hk
        cases op <;> simp only [Jd] at h <;> first | (cases h; done) | (cases hsh rfl; done) | skip
        all_goals (try split at h)
        all_goals first | (cases h; done) | (obtain rfl:=Option.some.inj h)
        all_goals first
          | (refine .mk0 ?_ .b; simp [binOp,Op.intCmp]; done)
          | (refine .mk0 ?_ .i; simp [binOp,Op.intArith]; done)
          | (refine .mk0 ?_ .i; simp [binOp,Op.intBits]; done)
          | (rename_i hz; refine .mk0 ?_ .i; simp [binOp,Op.intDiv,hz]; done)
      · cases h
  · -- floats
    rename_i k a k' b
    split at h
    · rename_i hk; subst hk
      obtain ⟨x1,rfl,hx⟩:=S.fr h1
      obtain ⟨x2,rfl,hy⟩:=S.fr h2
      rw [eqGuard_at_float]
      cases op <;> simp only [vbinF] at h <;> first | (cases h; done) | skip
      all_goals obtain rfl:=Option.some.inj h
      all_goals first
        | (refine .mk0 (u:=.bool _) ?_ .b; rw [ford_fr hx hy]; simp [binOp,Op.floatCmp]; done)
        | (rw [fop_fr hx hy]
           cases hr : floatBits _ k x1 x2 with
           | some r => exact .mk0 (by simpa using run_float_arith (P:=P) w _ t k x1 x2 r hr) .f
           | none =>
             simp only [floatBits] at hr
             exact ⟨_,1,by simp [binOp,Op.floatArith,hr,Question.forced]; exact ⟨rfl,rfl⟩,.nan (nan_choose k x1 x2 _)⟩)
    · cases h
  · -- strings
    cases h1; cases h2
    rename_i a b
    rw [eqGuard_at_string]
    cases op <;> simp only [vbinS] at h <;> (try split at h) <;> first | (cases h; done) | (obtain rfl:=Option.some.inj h)
    · rename_i hs
      refine .mk0 (u:=.string (a ++ b)) ?_ .str
      have : ¬ ((a.size + b.size : Nat) : Int) > IntKind.i64.max:=by rw [IntKind.max_i64]; omega
      simp only [binOp,Op.stringOp,if_neg this]
      rfl
    · refine .mk0 ?_ .b; simp [binOp,Op.stringOp,ByteArray.toList_eq]
    · refine .mk0 ?_ .b; simp [binOp,Op.stringOp,ByteArray.toList_eq]
  · -- bools
    cases h1; cases h2
    rename_i a c
    rw [eqGuard_at_bool]
    split at h
    · rename_i hT
      have hu : P.underlying t = some .bool:=by
        unfold tk at hT
        split at hT <;> first | assumption | (cases hT; done)
      cases op <;> first | (cases h; done) | (obtain rfl:=Option.some.inj h)
      · refine .mk0 ?_ .b; simp [binOp,run_equal_bool hu]
      · refine .mk0 ?_ .b; simp [binOp,run_equal_bool hu]
    · cases h
  · cases h
theorem vun_sound {op : UnOp} {a v : V} {u : Value} (h : vun op a = some v) (h1 : S w O φ a u) : Kt P w O φ (Op.unary op u) v:=by
  unfold vun at h
  split at h
  · cases h1; obtain rfl:=Option.some.inj h
    refine .mk0 ?_ .i; simp [Op.unary,Op.intArith]
  · obtain ⟨x,rfl,hx⟩:=S.fr h1
    obtain rfl:=Option.some.inj h
    refine .mk0 (u:=.float _ _) (by simp only [Op.unary]; rfl) ?_
    rcases hx with rfl | ⟨rfl,hx⟩
    · exact .f
    · exact .nan (decode_neg hx)
  · cases h1; obtain rfl:=Option.some.inj h
    refine .mk0 ?_ .b; simp [Op.unary]
  · cases h
theorem vconv_sound {s d : TypeId} {a v : V} {u : Value} (h : Kq (tk P s) (tk P d) a = some v) (h1 : S w O φ a u) : Kt P w O φ (convert s d u) v:=by
  have und : tk P s ≠ .other→∃ e,P.underlying s = some e:=fun hs => by
    unfold tk at hs
    cases hu : P.underlying s with
    | none => simp [hu] at hs
    | some e => exact ⟨e,rfl⟩
  have undI : ∀ {k : IntKind},tk P d = .int k→P.underlying d = some (.int k):=fun {k} hT => by
    unfold tk at hT; split at hT <;> first | (cases hT; assumption) | (cases hT; done)
  have undF : ∀ {k : FloatKind},tk P d = .flt k→P.underlying d = some (.float k):=fun {k} hT => by
    unfold tk at hT; split at hT <;> first | (cases hT; assumption) | (cases hT; done)
  have undS : tk P d = .str→P.underlying d = some .string:=fun hT => by
    unfold tk at hT; split at hT <;> first | (cases hT; assumption) | (cases hT; done)
  unfold Kq at h
  split at h
  · rename_i hT
    cases h1
    split at h
    · cases h
    · rename_i hs
      obtain ⟨e,he⟩:=und hs
      obtain rfl:=Option.some.inj h
      refine .mk0 ?_ .i; simp [convert,run_underlying he,run_underlying (undI hT),Conv.intToInt]
  · rename_i hT
    cases h1
    split at h
    · cases h
    · rename_i hs
      obtain ⟨e,he⟩:=und hs
      obtain rfl:=Option.some.inj h
      refine .mk0 ?_ .f; cases e <;> simp [convert,run_underlying he,run_underlying (undF hT),Conv.intToFloat]
  · rename_i hT
    obtain ⟨b,rfl,hb⟩:=S.fr h1
    split at h
    · cases h
    · rename_i hs
      obtain ⟨e,he⟩:=und hs
      split at h
      · rename_i n hn
        obtain rfl:=Option.some.inj h
        rcases hb with rfl | ⟨rfl,hb⟩
        · exact .mk0 (run_convert_float_int w s d _ _ _ _ (by simp [he]) (undI hT) (by simpa using hn)) .i
        · simp at hn
      · cases h
  · rename_i hT
    obtain ⟨b,rfl,hb⟩:=S.fr h1
    split at h
    · cases h
    · rename_i kd ks x hs
      obtain ⟨e,he⟩:=und hs
      have hrun : (convert s d (.float ks b)).run P w = (Conv.floatToFloat ks b kd).run P w:=by
        cases e <;> simp [convert,run_underlying he,run_underlying (undF hT)]
      unfold Kt
      rw [hrun]
      cases hf : Gd ks kd x with
      | none => simp [hf] at h
      | some y =>
        simp [hf] at h
        subst h
        unfold Gd at hf
        split at hf
        · rename_i hk
          subst hk
          obtain rfl:=Option.some.inj hf
          exact ⟨_,0,by simp [Conv.floatToFloat]; rfl,hb.s⟩
        · rename_i hk
          rcases hb with rfl | ⟨rfl,hb⟩
          · simp only at hf
            split at hf
            · rename_i _ _ hd
              obtain rfl:=Option.some.inj hf
              exact ⟨_,1,by simp [Conv.floatToFloat,hk,hd,Question.forced]; exact ⟨rfl,rfl⟩,.nan (nan_conv kd b _)⟩
            · rename_i _ hd
              obtain rfl:=Option.some.inj hf
              exact ⟨_,0,by simp [Conv.floatToFloat,hk,hd]; rfl,.f⟩
            · rename_i _ _ _ hd
              split at hf
              · cases hf
              · rename_i hi
                obtain rfl:=Option.some.inj hf
                exact ⟨_,0,by simp [Conv.floatToFloat,hk,hd,hi]; rfl,.f⟩
          · simp only at hf
            obtain rfl:=Option.some.inj hf
            obtain ⟨s',m',hd⟩:=Gc hb
            exact ⟨_,1,by simp [Conv.floatToFloat,hk,hd,Question.forced]; exact ⟨rfl,rfl⟩,.nan (nan_conv kd b _)⟩
  · rename_i hT
    cases h1
    split at h
    · cases h
    · rename_i hs
      obtain ⟨e,he⟩:=und hs
      obtain rfl:=Option.some.inj h
      refine .mk0 ?_ .str; cases e <;> simp [convert,run_underlying he,run_underlying (undS hT)]
  · cases h
end
def intFields (P : Program) : List Field→Nat→Bool
  | [],_ => true
  | f :: fs,i => f.name != "_" && f.offset == i && P.plainKey f.type && (match P.underlying f.type with | some (.int _) => true | _ => false) && intFields P fs (i + 1)
def aeqOk (P : Program) (t : TypeId) (n : Nat) : Bool:=match P.underlying t with
  | some (.struct fs) => fs.size == n && intFields P fs.toList 0 && !P.stoodInHeld t && !P.eqGuardType P.depth t
  | _ => false
def eqIs : List V→List V→Option Bool
  | [],[] => some true
  | .i k a :: xs,.i k' b :: ys => if k = k' then (eqIs xs ys).map fun r => (a == b) && r else none
  | _,_ => none
def vaeq (P : Program) (t : TypeId) (op : BinOp) (xs ys : List V) : Option V :=
  if aeqOk P t xs.length = true then match op with
    | .eql => (eqIs xs ys).map .b
    | .neq => (eqIs xs ys).map fun r => .b (!r)
    | _ => none
  else none
def constB : Operand→Bool
  | .const _ => true
  | _ => false
def ifaceB (P : Program) (t : TypeId) : Bool:=match P.underlying t with
  | some (.interface _) => true
  | _ => false
def vnil (P : Program) (t : TypeId) (op : BinOp) (r : Bool) : Option V :=
  if ifaceB P t = true then match op with
    | .eql => some (.b r)
    | .neq => some (.b (!r))
    | _ => none
  else none
def vbinP (P : Program) (t : TypeId) (op : BinOp) (_x y : Operand) (a b : V) : Option V :=
  match a,b with
  | .agg xs,.agg ys => vaeq P t op xs ys
  | .err,.s .nilIface => vnil P t op false
  | .s .nilIface,.s .nilIface => if constB y = true then vnil P t op true else none
  | a,b => Xu (tk P t) op a b
section
variable {P : Program} {w : World} {O : Nat→Prop} {φ : Pl}
theorem eqFields_ints {d : Nat} {A A' : Array Value} : ∀ {fs : List Field} {i : Nat} {xs ys : List V} {r : Bool},intFields P fs i = true→fs.length = xs.length→eqIs xs ys = some r→Sl w O φ xs (A.toList.drop i)→Sl w O φ ys (A'.toList.drop i)→(Op.eqFields (d + 1) A A' fs).run P w = .ok r w
  | [],_,[],[],r,_,_,he,_,_ => by
    cases he
    rfl
  | f :: fs,i,x :: xs,y :: ys,r,hf,hl,he,hx,hy => by
    simp only [intFields,Bool.and_eq_true,bne_iff_ne,ne_eq,beq_iff_eq] at hf
    obtain ⟨⟨⟨⟨f1,f2⟩,f3⟩,f4⟩,f5⟩:=hf
    have hu : ∃ k,P.underlying f.type = some (.int k):=by
      split at f4
      · exact ⟨_,‹_›⟩
      · cases f4
    obtain ⟨k0,hu⟩:=hu
    subst f2
    unfold eqIs at he
    split at he
    · rename_i h; cases h
    · rename_i k a xs' k' b ys' e1 e2
      cases e1
      cases e2
      split at he
      · rename_i hk
        subst hk
        simp only [Option.map_eq_some_iff] at he
        obtain ⟨r',he',rfl⟩:=he
        obtain ⟨u,g1,g2⟩:=hx.get (i:=0) rfl
        obtain ⟨u',g3,g4⟩:=hy.get (i:=0) rfl
        cases g2
        cases g4
        have p1 : A[f.offset]? = some (.int k a):=by simpa using g1
        have p2 : A'[f.offset]? = some (.int k b):=by simpa using g3
        have hx' : Sl w O φ xs (A.toList.drop (f.offset + 1)):=by simpa using hx.drop 1
        have hy' : Sl w O φ ys (A'.toList.drop (f.offset + 1)):=by simpa using hy.drop 1
        have ih:=eqFields_ints (d:=d) f5 (by simpa using hl) he' hx' hy'
        simp only [Op.eqFields,if_pos f1,Sem.run_bind,run_part_plain w f3 p1,run_part_plain w f3 p2,Result.andThen_ok,run_equalIn_int w d f.type k k0 a b hu,Sem.run_ite]
        cases hab : a == b
        · simp
        · simpa using ih
      · cases he
    · cases he
  | [],_,[],_ :: _,r,_,_,he,_,_ => by cases he
  | [],_,_ :: _,_,r,_,hl,_,_,_ => by simp at hl
  | _ :: _,_,[],_,r,_,hl,_,_,_ => by simp at hl
  | _ :: _,_,x :: _,[],r,_,_,he,_,_ => by cases x <;> cases he
theorem vbinP_sound {t : TypeId} {op : BinOp} {x y : Operand} {a b v : V} {u1 u2 : Value} (h : vbinP P t op x y a b = some v) (h1 : S w O φ a u1) (h2 : S w O φ b u2) :
    Kt P w O φ (do eqGuard op t x y u1 u2; binOp op t u1 u2) v:=by
  unfold vbinP at h
  split at h
  · rename_i xs ys
    cases h1 with
    | agg h1 =>
    cases h2 with
    | agg h2 =>
    rename_i us us'
    unfold vaeq at h
    split at h
    · rename_i hok
      unfold aeqOk at hok
      split at hok
      · rename_i fs hu
        simp only [Bool.and_eq_true,beq_iff_eq,Bool.not_eq_true'] at hok
        obtain ⟨⟨⟨k1,k2⟩,k3⟩,k4⟩:=hok
        have hfo : P.fieldsOf t = fs:=by unfold Program.fieldsOf; rw [hu]
        have key : ∀ r,eqIs xs ys = some r→(Op.equalIn 10000 t (.agg us.toArray) (.agg us'.toArray)).run P w = .ok r w:=fun r hr => by
          rw [run_equalIn_agg w 9999 t _ _ (by rw [hfo]; exact hu) k3,hfo]
          exact eqFields_ints (d:=9998) k2 (by simpa using k1) hr (by simpa using h1) (by simpa using h2)
        split at h
        · simp only [Option.map_eq_some_iff] at h
          obtain ⟨r,hr,rfl⟩:=h
          refine .mk0 (u:=.bool r) ?_ .b
          simp only [Sem.run_bind,run_eqGuard_agg w _ t x y _ _ k4,Result.andThen_ok,run_eql_struct,key r hr]
        · simp only [Option.map_eq_some_iff] at h
          obtain ⟨r,hr,rfl⟩:=h
          refine .mk0 (u:=.bool (!r)) ?_ .b
          simp only [Sem.run_bind,run_eqGuard_agg w _ t x y _ _ k4,Result.andThen_ok,run_neq_struct,key r hr]
        · cases h
      · cases hok
    · cases h
  · cases h1
    cases h2
    rename_i u tt _
    unfold vnil at h
    split at h
    · rename_i hi
      have hu : P.underlying t = some (.interface (P.methodsAt t)):=by
        unfold ifaceB at hi
        split at hi
        · rename_i ms hm; unfold Program.methodsAt; rw [hm]
        · cases hi
      split at h
      · cases h
        refine .mk0 (u:=.bool false) ?_ .b
        rw [eqGuard_at_iface]
        simp [binOp,run_equal_held_nil w t _ _ hu]
      · cases h
        refine .mk0 (u:=.bool true) ?_ .b
        rw [eqGuard_at_iface]
        simp [binOp,run_equal_held_nil w t _ _ hu]
      · cases h
    · cases h
  · cases h1
    cases h2
    split at h
    · rename_i hc
      unfold vnil at h
      split at h
      · rename_i hi
        have hu : P.underlying t = some (.interface (P.methodsAt t)):=by
          unfold ifaceB at hi
          split at hi
          · rename_i ms hm; unfold Program.methodsAt; rw [hm]
          · cases hi
        have hg : eqGuard op t x y .nilIface .nilIface = pure ():=by
          cases y <;> first | (cases hc; done) | skip
          cases op <;> simp [eqGuard]
        split at h
        · cases h
          refine .mk0 (u:=.bool true) ?_ .b
          rw [hg]
          simp [binOp,run_equal_nil_nil w t hu]
        · cases h
          refine .mk0 (u:=.bool false) ?_ .b
          rw [hg]
          simp [binOp,run_equal_nil_nil w t hu]
        · cases h
      · cases h
    · cases h
  · exact vbin_sound h h1 h2
end
end Go.VL

namespace Go.VL
set_option linter.unusedSimpArgs false
set_option linter.unusedVariables false
open Go.RowKit
def Wn : V→Bool
 | .any | .agg _ | .tup _ | .own _ _ => false
 | _ => true
def Un : V→Option (List V)
 | .agg cs => if cs.all Wn then some cs else none
 | v => if Wn v then some [v] else none
section
variable {w : World} {O : Nat→Prop} {φ : Pl}
theorem S.oneCell {v : V} {u : Value} (h : S w O φ v u) (hc : Wn v = true) : u.oneCell' = true:=by
 cases h <;> first | rfl | (cases hc; done) | skip
 rename_i h
 cases u <;> first | rfl | (cases h; done)
theorem Sl.oneCell : ∀ {vs : List V} {us : List Value},Sl w O φ vs us→vs.all Wn = true→∀ u ∈ us,u.oneCell' = true
 | _,_,.nil,_,u,hu => by cases hu
 | _,_,.cons hv hs,hc,u,hu => by
  simp only [List.all_cons,Bool.and_eq_true] at hc
  rcases List.mem_cons.1 hu with rfl | hu
  ·exact hv.oneCell hc.1
  ·exact hs.oneCell hc.2 u hu
theorem S.cells {v : V} {u : Value} {cs : List V} (h : S w O φ v u) (hc : Un v = some cs) : Sl w O φ cs u.cells.toList∧(∀ x ∈ u.cells.toList,x.oneCell' = true):=by
 unfold Un at hc
 split at hc
 ·split at hc
  ·rename_i ha
   obtain rfl:=Option.some.inj hc
   cases h with
   | agg h => simpa [Value.cells] using And.intro h (h.oneCell ha)
  ·cases hc
 ·split at hc
  ·rename_i ha
   obtain rfl:=Option.some.inj hc
   have h1:=h.oneCell ha
   have : u.cells = #[u]:=by cases u <;> first | rfl | (cases h1; done)
   rw [this]
   exact ⟨.cons h .nil,by simpa using h1⟩
  ·cases hc
end
theorem exists_row {Q : Nat→Value→Prop} {w : World} {O : Nat→Prop} {φ : Pl} : ∀ (vs : List V) (k : Nat),(∀ (i : Nat) (v : V),vs[i]? = some v→∃ u,Q (k + i) u∧S w O φ v u) →
  ∃ us : List Value,us.length = vs.length∧Sl w O φ vs us∧∀ (i : Nat) (u : Value),us[i]? = some u→Q (k + i) u
 | [],_,_ => ⟨[],rfl,.nil,by simp⟩
 | v :: vs,k,h => by
  obtain ⟨u,h1,h2⟩:=h 0 v rfl
  obtain ⟨us,h3,h4,h5⟩:=exists_row vs (k + 1) fun i v hi => by
   obtain ⟨u,h1,h2⟩:=h (i + 1) v (by simpa using hi)
   exact ⟨u,by rwa [show k + 1 + i = k + (i + 1) by omega],h2⟩
  refine ⟨u :: us,by simp [h3],.cons h2 h4,fun i u hi => ?_⟩
  cases i with
  | zero => simp at hi; subst hi; exact h1
  | succ i => have:=h5 i u (by simpa using hi); rwa [show k + 1 + i = k + (i + 1) by omega] at this
def ext (φ : Pl) (b : Nat) (p : Nat × Nat × Nat) : Pl:=fun x => if x = b then some p else φ x
theorem Room.lt {w : World} {k n : Nat} (h : Room w k n) : k < w.heap.size:=by
 obtain ⟨c,e,fr,h,_⟩:=h
 exact (Array.getElem?_eq_some_iff.1 h).1
theorem Yf.lt {N : Fr} {w : World} {φ : Pl} {m : VM} (h : Mem N w φ m) {k : Nat} (hk : Yf φ m k) : ¬ N k∧k < w.heap.size:=by
 obtain ⟨b,x,po,n,_,hφ⟩:=hk
 exact h.new b k po n hφ
theorem Mem.fresh {N : Fr} {w : World} {φ : Pl} {m : VM} (h : Mem N w φ m) {b : Nat} (hb : m.length≤b) : φ b = none:=by
 cases hφ : φ b with
 | none => rfl
 | some p => have:=h.dom b p hφ; omega
theorem Mem.map {N : Fr} {w w' : World} {φ : Pl} {m : VM} (h : Mem N w φ m) (hN : N.bd w) {b n : Nat} {es : List (List V)} (hb : m[b]? = some (some (n,es))) (hφ0 : φ b = none) (hn : ∀ e ∈ es,e.length = n) {us : List Value} (hs : Sl w (Yf φ m) φ es.flatten us)
  (h1 : ∀ u ∈ us,u.oneCell' = true) {c : Array Value} {t : TypeId} (hc : ∀ i,i < us.length→c[i]? = us[i]?) (hw : w'.heap = w.heap.push (.cells c t)) (hcs : us.length≤c.size) (hno : ∀ (i n' : Nat) (es' : List (List V)),es.flatten[i]? ≠ some (.own n' es')) :
  Mem N w' (ext φ b (w.heap.size,0,n)) m∧Ev w (Yf φ m) φ w' (Yf (ext φ b (w.heap.size,0,n)) m) (ext φ b (w.heap.size,0,n)):=by
 have hold : ∀ k,k < w.heap.size→w'.heap[k]? = w.heap[k]?:=fun k hk => by rw [hw,Array.getElem?_push,if_neg (by omega)]
 have hnew : w'.heap[w.heap.size]? = some (.cells c t (0,0)):=by rw [hw,Array.getElem?_push,if_pos rfl]
 have hplace : ∀ b' p,φ b' = some p→ext φ b (w.heap.size,0,n) b' = some p:=fun b' p hb' => by
  unfold ext
  rw [if_neg (fun e => by rw [e,hφ0] at hb'; cases hb')]; exact hb'
 have hev : Ev w (Yf φ m) φ w' (Yf (ext φ b (w.heap.size,0,n)) m) (ext φ b (w.heap.size,0,n)):=by
  refine ⟨fun k hk ho => ⟨hold k hk,fun ⟨b',x,po,q,hb',hφ⟩ => ?_⟩,hplace,fun k n' ⟨c',e',fr,hc',hle⟩ => ⟨c',e',fr,by rw [hold k (Array.getElem?_eq_some_iff.1 hc').1]; exact hc',hle⟩⟩
  unfold ext at hφ
  split at hφ
  ·have:=Option.some.inj hφ
   simp at this
   omega
  ·exact ho ⟨b',x,po,q,hb',hφ⟩
 refine ⟨⟨fun b' n' es' p hb' hp => ?_,fun b' k po q hφ => ?_,fun b' p hφ => ?_,fun b1 b2 k po po' q q' hφ hφ' => ?_,?_⟩,hev⟩
 ·by_cases hbb : b' = b
  ·subst hbb
   rw [hb] at hb'
   simp at hb'
   obtain ⟨rfl,rfl⟩:=hb'
   refine ⟨hn,w.heap.size,0,c,t,by simp [ext],hnew,?_,fun i v hi => ?_⟩
   ·have:=hs.length
    rw [Xv hn] at this
    omega
   ·obtain ⟨u,a1,a2⟩:=hs.get hi
    have hlt : i < us.length:=(List.getElem?_eq_some_iff.1 a1).1
    exact ⟨u,by rw [Nat.zero_add,hc i hlt]; exact a1,h1 u (List.mem_of_getElem? a1),a2.ev hev⟩
  ·have hp' : φ b' = some p:=by simpa [ext,hbb] using hp
   obtain ⟨hl,pb,po,c',e',hφ,hp,hle,hcell⟩:=h.at_ b' n' es' p hb' hp'
   refine ⟨hl,pb,po,c',e',hplace _ _ hφ,by rw [hold pb (h.new b' pb po n' hφ).2]; exact hp,hle,fun i v hi => ?_⟩
   obtain ⟨u,a1,a2,a3⟩:=hcell i v hi
   exact ⟨u,a1,a2,a3.ev hev⟩
 ·unfold ext at hφ
  split at hφ
  ·have:=Option.some.inj hφ
   simp at this
   exact ⟨fun hk => by have:=hN _ hk; omega,by rw [hw]; simp; omega⟩
  ·have:=h.new b' k po q hφ
   exact ⟨this.1,by rw [hw]; simp; omega⟩
 ·unfold ext at hφ
  split at hφ
  ·rename_i e; subst e; exact (List.getElem?_eq_some_iff.1 hb).1
  ·exact h.dom b' p hφ
 ·unfold ext at hφ hφ'
  split at hφ <;> split at hφ'
  ·omega
  ·have:=Option.some.inj hφ
   simp at this
   have:=h.new b2 k po' q' hφ'
   omega
  ·have:=Option.some.inj hφ'
   simp at this
   have:=h.new b1 k po q hφ
   omega
  ·exact h.inj b1 b2 k po po' q q' hφ hφ'
 ·obtain ⟨ψ,hψ⟩:=h.own
  refine ⟨ψ,hψ.keep (by rw [hw]; simp) (fun k hk ho => hev.keep k hk ho) fun b' n1 es1 pb po bn i n' es' h1 h2 h3 => ?_⟩
  by_cases hbb : b' = b
  ·subst hbb
   rw [hb] at h1
   simp at h1
   obtain ⟨rfl,rfl⟩:=h1
   exact absurd h3 (hno i n' es')
  ·have h2' : φ b' = some (pb,po,bn):=by simpa [ext,hbb] using h2
   exact ⟨n1,es1,pb,po,bn,h1,h2',h3,fun u hu => by rw [cell?_same (hold pb (h.new b' pb po bn h2').2)]; exact hu⟩
theorem Mem.more {N : Fr} {w : World} {φ : Pl} {m : VM} (h : Mem N w φ m) (l : VM) : Mem N w φ (m ++ l)∧Ev w (Yf φ m) φ w (Yf φ (m ++ l)) φ:=by
 have hget : ∀ b p,φ b = some p→(m ++ l)[b]? = m[b]?:=fun b p hp => List.getElem?_append_left (h.dom b p hp)
 have hlive : ∀ k,Yf φ (m ++ l) k→Yf φ m k:=fun k ⟨b,x,po,q,hb,hφ⟩ => ⟨b,x,po,q,by rw [← hget b _ hφ]; exact hb,hφ⟩
 have hev : Ev w (Yf φ m) φ w (Yf φ (m ++ l)) φ:=⟨fun k _ ho => ⟨rfl,fun hl => ho (hlive k hl)⟩,fun _ _ hp => hp,fun _ _ hr => hr⟩
 refine ⟨⟨fun b n es p hb hp => ?_,h.new,fun b p hp => by have:=h.dom b p hp; simp; omega,h.inj,?_⟩,hev⟩
 ·obtain ⟨hl,pb,po,c,e,hφ,hp',hle,hcell⟩:=h.at_ b n es p (by rw [← hget b p hp]; exact hb) hp
  exact ⟨hl,pb,po,c,e,hφ,hp',hle,fun i v hi => by
   obtain ⟨u,a1,a2,a3⟩:=hcell i v hi
   exact ⟨u,a1,a2,a3.ev hev⟩⟩
 ·obtain ⟨ψ,hψ⟩:=h.own
  exact ⟨ψ,hψ.keep (Nat.le_refl _) (fun k hk ho => hev.keep k hk ho) fun b n es pb po bn i n' es' h1 h2 h3 => ⟨n,es,pb,po,bn,by rw [← hget b _ h2]; exact h1,h2,h3,fun u hu => hu⟩⟩
theorem Mem.write {N : Fr} {w w' : World} {φ : Pl} {m : VM} (h : Mem N w φ m) {b n pb po : Nat} {es es' : List (List V)} (hb : m[b]? = some (some (n,es))) (hφ : φ b = some (pb,po,n)) {c c' : Array Value} {t : TypeId}
  (hc : w.heap[pb]? = some (.cells c t (0,0))) (hw : w'.heap[pb]? = some (.cells c' t (0,0))) (hsz : c'.size = c.size) (hoth : ∀ k,k ≠ pb→w'.heap[k]? = w.heap[k]?) (hsize : w'.heap.size = w.heap.size)
  (hn : ∀ e ∈ es',e.length = n) (hlen : po + es'.length * n≤c.size) (hcells : ∀ (i : Nat) (v : V),es'.flatten[i]? = some v→∃ u,c'[po + i]? = some u∧u.oneCell' = true∧S w (Yf φ m) φ v u)
  (hown : ∀ (i n' : Nat) (e' : List (List V)),es'.flatten[i]? = some (.own n' e')→es.flatten[i]? = some (.own n' e')∧c'[po + i]? = c[po + i]?) :
  Mem N w' φ (m.set b (some (n,es')))∧Ev w (Yf φ m) φ w' (Yf φ (m.set b (some (n,es')))) φ:=by
 have hblt : b < m.length:=(List.getElem?_eq_some_iff.1 hb).1
 have hlive : ∀ k,Yf φ (m.set b (some (n,es'))) k→Yf φ m k:=fun k ⟨b',x,po',q,hb',hφ'⟩ => by
  rw [List.getElem?_set] at hb'
  split at hb'
  ·rename_i e; subst e
   exact ⟨b,(n,es),po',q,hb,hφ'⟩
  ·exact ⟨b',x,po',q,hb',hφ'⟩
 have hpb : Yf φ m pb:=⟨b,(n,es),po,n,hb,hφ⟩
 have hev : Ev w (Yf φ m) φ w' (Yf φ (m.set b (some (n,es')))) φ :=
  ⟨fun k hk ho => ⟨hoth k (fun e => ho (e ▸ hpb)),fun hl => ho (hlive k hl)⟩,fun _ _ hp => hp,fun k n' ⟨c1,e1,fr,h1,h2⟩ => by
   by_cases hk : k = pb
   ·subst hk
    rw [hc] at h1
    cases h1
    exact ⟨c',t,_,hw,by omega⟩
   ·exact ⟨c1,e1,fr,by rw [hoth k hk]; exact h1,h2⟩⟩
 refine ⟨⟨fun b' n' es'' p' hb' hp' => ?_,fun b' k po' q hφ' => by rw [hsize]; exact h.new b' k po' q hφ',fun b' p hφ' => by simpa using h.dom b' p hφ',h.inj,?_⟩,hev⟩
 rotate_left
 ·obtain ⟨ψ,hψ⟩:=h.own
  refine ⟨ψ,hψ.keep (by omega) (fun k hk ho => hev.keep k hk ho) fun b' n1 es1 pb1 po1 bn i n' e' h1 h2 h3 => ?_⟩
  rw [List.getElem?_set] at h1
  split at h1
  ·rename_i e; subst e
   simp at h1
   obtain ⟨rfl,rfl⟩:=h1
   rw [hφ] at h2
   simp at h2
   obtain ⟨rfl,rfl,rfl⟩:=h2
   obtain ⟨g1,g2⟩:=hown i n' e' h3
   exact ⟨n,es,pb,po,n,hb,hφ,g1,fun u hu => by
    unfold World.cell? at hu ⊢
    simp only [hc,hw] at hu ⊢
    rw [g2]; exact hu⟩
  ·rename_i hne
   have hpne : pb1 ≠ pb:=fun e => hne (by subst e; exact h.inj b b' pb1 po po1 n bn hφ h2)
   exact ⟨n1,es1,pb1,po1,bn,h1,h2,h3,fun u hu => by rw [cell?_same (hoth pb1 hpne)]; exact hu⟩
 rw [List.getElem?_set] at hb'
 split at hb'
 ·rename_i e; subst e
  simp at hb'
  obtain ⟨rfl,rfl⟩:=hb'
  refine ⟨hn,pb,po,c',t,hφ,hw,by omega,fun i v hi => ?_⟩
  obtain ⟨u,a1,a2,a3⟩:=hcells i v hi
  exact ⟨u,a1,a2,a3.ev hev⟩
 ·rename_i hne
  obtain ⟨hl,pb',po',c1,e1,hφ',hp,hle,hcell⟩:=h.at_ b' n' es'' p' hb' hp'
  have hpne : pb' ≠ pb:=fun e => hne (by subst e; exact h.inj b b' pb' po po' n n' hφ hφ')
  refine ⟨hl,pb',po',c1,e1,hφ',by rw [hoth pb' hpne]; exact hp,hle,fun i v hi => ?_⟩
  obtain ⟨u,a1,a2,a3⟩:=hcell i v hi
  exact ⟨u,a1,a2,a3.ev hev⟩
theorem Mem.drewN {N : Fr} {w : World} {φ : Pl} {m : VM} (h : Mem N w φ m) (k : Nat) : Mem N (w.drewN k) φ m∧Ev w (Yf φ m) φ (w.drewN k) (Yf φ m) φ:=by
 have hev : Ev w (Yf φ m) φ (w.drewN k) (Yf φ m) φ:=⟨fun _ _ ho => ⟨rfl,ho⟩,fun _ _ hp => hp,fun _ _ hr => hr⟩
 refine ⟨⟨fun b n es p hb hp' => ?_,h.new,h.dom,h.inj,(by
  obtain ⟨ψ,hψ⟩:=h.own
  exact ⟨ψ,hψ.keep (Nat.le_refl _) (fun k hk ho => hev.keep k hk ho) fun b n es pb po bn i n' es' h1 h2 h3 => ⟨n,es,pb,po,bn,h1,h2,h3,fun u hu => hu⟩⟩)⟩,hev⟩
 obtain ⟨hl,pb,po,c,e,hφ,hp,hle,hcell⟩:=h.at_ b n es p hb hp'
 exact ⟨hl,pb,po,c,e,hφ,hp,hle,fun i v hi => by
  obtain ⟨u,a1,a2,a3⟩:=hcell i v hi
  exact ⟨u,a1,a2,a3.ev hev⟩⟩
end Go.VL
