/- Regions that draw their order: whatever the order, the same values. -/
import Derived.Test.YtloepppmjppddaaGreatDoorVxGc
import Derived.Still
import Derived.ProofKit
import Derived.Laws.Cover2
import Derived.ArgAppend
import Derived.Laws.AppendOwn
namespace Go.VL
open Go.RowKit
set_option linter.unusedSimpArgs false
set_option linter.unusedVariables false
section
variable {P : Program} {m : VM}
theorem Jx (l : VM) {b : Nat} {x : Option (Nat × List (List V))} (h : m[b]? = some x) : (m ++ l)[b]? = some x:=by
 rw [List.getElem?_append_left (List.getElem?_eq_some_iff.1 h).1]; exact h
theorem vrd_more (l : VM) {x : V} {r : List V × Nat} (h : vrd m x = some r) : vrd (m ++ l) x = some r:=by
 unfold vrd at h ⊢
 split at h
 ·split at h
  ·rename_i hb; rw [Jx l hb]; exact h
  ·cases h
 ·exact h
 ·cases h
theorem vload0_more (l : VM) {t : TypeId} {x v : V} (h : vload0 P m t x = some v) : vload0 P (m ++ l) t x = some v:=by
 unfold vload0 at h ⊢
 cases hr : vrd m x with
 | none => simp [hr] at h
 | some r => rw [hr] at h; rw [vrd_more l hr]; exact h
theorem vload_more (l : VM) {t : TypeId} {x v : V} (h : vload P m t x = some v) : vload P (m ++ l) t x = some v:=by
 unfold vload at h ⊢
 rw [Option.map_eq_some_iff] at h ⊢
 obtain ⟨v0,h0,rfl⟩:=h
 exact ⟨v0,vload0_more l h0,rfl⟩
theorem vidx_more (l : VM) {T : TK} {x v : V} {k : Nat} (h : vidx P m T x k = some v) : vidx P (m ++ l) T x k = some v:=by
 unfold vidx at h ⊢
 split at h
 ·exact h
 ·split at h
  ·rename_i hb; simp only [Jx l hb]; exact h
  ·cases h
 ·exact h
 ·exact h
 ·exact h
 ·cases h
theorem vslice_more (l : VM) {T : TK} {x v : V} {lo hi : Option V} (h : vslice P m T x lo hi = some v) : vslice P (m ++ l) T x lo hi = some v:=by
 unfold vslice at h ⊢
 cases hl : Wv lo 0 with
 | none => simp [hl] at h
 | some q =>
  simp only [hl,Option.bind_some] at h ⊢
  split at h
  ·exact h
  ·exact h
  ·exact h
  ·split at h
   ·rename_i hb; simp only [Jx l hb]; exact h
   ·cases h
  ·exact h
  ·exact h
  ·exact h
  ·cases h
theorem vbytes_more (l : VM) {x : V} {ns : List Int} (h : vbytes m x = some ns) : vbytes (m ++ l) x = some ns:=by
 unfold vbytes at h ⊢
 split at h
 ·exact h
 ·exact h
 ·split at h
  ·rename_i hb; simp only [Jx l hb]; exact h
  ·cases h
 ·split at h
  ·rename_i hb; simp only [Jx l hb]; exact h
  ·cases h
 ·cases h
theorem vconvM_more (l : VM) {T D : TK} {x v : V} (h : Ht P m T D x = some v) : Ht P (m ++ l) T D x = some v:=by
 unfold Ht at h ⊢
 split at h
 ·split at h
  ·rename_i hc
   rw [Option.map_eq_some_iff] at h
   obtain ⟨ns,h0,rfl⟩:=h
   rw [if_pos hc,vbytes_more l h0]
   rfl
  ·cases h
 ·exact h
theorem vq_more (l : VM) {ρ : Operand→V} {op : Op} {v : V} (h : vq P m ρ op = some v) : vq P (m ++ l) ρ op = some v:=by
 unfold vq at h ⊢
 split at h <;> try exact h
 ·exact vload_more l h
 ·exact vconvM_more l h
 ·exact vslice_more l h
 ·rename_i t x i
  cases hn : Jz (ρ i) with
  | none => simp [hn] at h
  | some k => simp only [hn,Option.bind_some] at h ⊢; exact vidx_more l h
end
abbrev Hi:=V × Nat × Nat
inductive DT (P : Program) (ops : Array Oper) (M : VM) : List Oper→List V→Nat→List Hi→Prop
 | nil {t : List V} {k : Nat} : DT P ops M [] t k []
 | skip {o : Oper} {l : List Oper} {t : List V} {k : Nat} {tr : List Hi} (hw : Zm ops t o = some false) (h : DT P ops M l (Xh t o.dst und) k tr) : DT P ops M (o :: l) t k ((und,k,0) :: tr)
 | op {o : Oper} {l : List Oper} {t : List V} {k cnt : Nat} {r : V} {tr : List Hi} (hw : Zm ops t o = some true) (ho : OpY P o M (ev t) r k cnt) (h : DT P ops M l (Xh t o.dst r) (k + cnt) tr) : DT P ops M (o :: l) t k ((r,k,cnt) :: tr)
def TL (ops : Array Oper) (tr : List Hi) (t0 : List V) (L : Nat→Bool) : Nat→List V
 | 0 => t0
 | n + 1 => match ops[n]?,tr[n]? with
  | some o,some r => if L n then Xh (TL ops tr t0 L n) o.dst r.1 else TL ops tr t0 L n
  | _,_ => TL ops tr t0 L n
section
variable {P : Program} {ops : Array Oper} {tr : List Hi} {t0 : List V} {M : VM}
def RowOk (P : Program) (ops : Array Oper) (M : VM) (tr : List Hi) (t0 : List V) (i : Nat) (o : Oper) (r : Hi) : Prop :=
 (Zm ops (TL ops tr t0 (fun _ => true) i) o = some false∧r.1 = und∧r.2.2 = 0) ∨
 (Zm ops (TL ops tr t0 (fun _ => true) i) o = some true∧OpY P o M (ev (TL ops tr t0 (fun _ => true) i)) r.1 r.2.1 r.2.2)
theorem DT.rows : ∀ {l : List Oper} {t : List V} {k n : Nat} {tr' : List Hi},DT P ops M l t k tr'→(∀ j,l[j]? = ops[n + j]?)→(∀ j,tr'[j]? = tr[n + j]?)→t = TL ops tr t0 (fun _ => true) n →
  l.length = tr'.length∧(∀ (j : Nat) (o : Oper) (r : Hi),l[j]? = some o→tr'[j]? = some r→RowOk P ops M tr t0 (n + j) o r)∧(∀ (j : Nat) (r : Hi),tr'[j]? = some r→k≤r.2.1)∧(∀ (i j : Nat) (r s : Hi),i < j→tr'[i]? = some r→tr'[j]? = some s→r.2.1 + r.2.2≤s.2.1)
 | _,_,_,_,_,.nil,_,_,_ => by simp
 | _,_,k,n,_,.skip (o:=o) (l:=l) (tr:=tr') hw h,hl,htr,ht => by
  have h0:=hl 0
  have h1:=htr 0
  simp at h0 h1
  have hstep : Xh (TL ops tr t0 (fun _ => true) n) o.dst und = TL ops tr t0 (fun _ => true) (n + 1):=by simp [TL,← h0,← h1]
  obtain ⟨a1,a2,a3,a4⟩:=DT.rows (n:=n + 1) h (fun j => by have:=hl (j + 1); simpa [Nat.add_assoc,Nat.add_comm 1] using this) (fun j => by have:=htr (j + 1); simpa [Nat.add_assoc,Nat.add_comm 1] using this) (by rw [ht]; exact hstep)
  refine ⟨by simp [a1],fun j o' r ho hr => ?_,fun j r hr => ?_,fun i j r s hij hr hs => ?_⟩
  ·cases j with
   | zero => simp at ho hr; subst ho; subst hr; exact .inl ⟨by rw [Nat.add_zero,← ht]; exact hw,rfl,rfl⟩
   | succ j => have:=a2 j o' r (by simpa using ho) (by simpa using hr); rwa [show n + 1 + j = n + (j + 1) by omega] at this
  ·cases j with
   | zero => simp at hr; subst hr; exact Nat.le_refl _
   | succ j => exact a3 j r (by simpa using hr)
  ·cases j with
   | zero => omega
   | succ j =>
    cases i with
    | zero => simp at hr; subst hr; exact a3 j s (by simpa using hs)
    | succ i => exact a4 i j r s (by omega) (by simpa using hr) (by simpa using hs)
 | _,_,k,n,_,.op (o:=o) (l:=l) (tr:=tr') (r:=r0) (cnt:=cnt) hw ho0 h,hl,htr,ht => by
  have h0:=hl 0
  have h1:=htr 0
  simp at h0 h1
  have hstep : Xh (TL ops tr t0 (fun _ => true) n) o.dst r0 = TL ops tr t0 (fun _ => true) (n + 1):=by simp [TL,← h0,← h1]
  obtain ⟨a1,a2,a3,a4⟩:=DT.rows (n:=n + 1) h (fun j => by have:=hl (j + 1); simpa [Nat.add_assoc,Nat.add_comm 1] using this) (fun j => by have:=htr (j + 1); simpa [Nat.add_assoc,Nat.add_comm 1] using this) (by rw [ht]; exact hstep)
  refine ⟨by simp [a1],fun j o' r ho hr => ?_,fun j r hr => ?_,fun i j r s hij hr hs => ?_⟩
  ·cases j with
   | zero => simp at ho hr; subst ho; subst hr; exact .inr ⟨by rw [Nat.add_zero,← ht]; exact hw,by rw [Nat.add_zero,← ht]; exact ho0⟩
   | succ j => have:=a2 j o' r (by simpa using ho) (by simpa using hr); rwa [show n + 1 + j = n + (j + 1) by omega] at this
  ·cases j with
   | zero => simp at hr; subst hr; exact Nat.le_refl _
   | succ j => have:=a3 j r (by simpa using hr); omega
  ·cases j with
   | zero => omega
   | succ j =>
    cases i with
    | zero => simp at hr; subst hr; exact a3 j s (by simpa using hs)
    | succ i => exact a4 i j r s (by omega) (by simpa using hr) (by simpa using hs)
theorem TL_length (L : Nat→Bool) (n : Nat) : (TL ops tr t0 L n).length = t0.length:=by
 induction n with
 | zero => rfl
 | succ n ih =>
  simp only [TL]
  split
  ·split
   ·rename_i o r _ _ _; cases ho : o.dst <;> simp [Xh,ho,ih]
   ·exact ih
  ·exact ih
theorem putV_comm (t : List V) {x y : Option Tmp} (u v : V) (h : ∀ d,x = some d→y ≠ some d) : Xh (Xh t x u) y v = Xh (Xh t y v) x u:=by
 cases x with
 | none => rfl
 | some d =>
  cases y with
  | none => rfl
  | some e =>
   have hne : d ≠ e:=fun he => h d rfl (he ▸ rfl)
   simp [Xh,List.set_comm _ _ hne]
theorem TL_put {L : Nat→Bool} {i : Nat} {o : Oper} {r : Hi} (hi : ops[i]? = some o) (hr : tr[i]? = some r) (hL : L i = false) {n : Nat} (hn : i < n) (hap : ∀ j oj,i < j→j < n→L j = true→ops[j]? = some oj→∀ d,o.dst = some d→oj.dst ≠ some d) :
  TL ops tr t0 (fun x => L x || x == i) n = Xh (TL ops tr t0 L n) o.dst r.1:=by
 have same : ∀ n,n≤i→TL ops tr t0 (fun x => L x || x == i) n = TL ops tr t0 L n:=by
  intro n
  induction n with
  | zero => intro _; rfl
  | succ n ih =>
   intro hle
   simp only [TL,ih (by omega),show (n == i) = false by simp; omega,Bool.or_false]
 induction n with
 | zero => omega
 | succ n ih =>
  by_cases hni : n = i
  ·subst hni
   simp [TL,hi,hr,same n (Nat.le_refl _),hL]
  ·have ih':=ih (by omega) fun j oj h1 h2 => hap j oj h1 (by omega)
   simp only [TL,ih',show (n == i) = false by simp; omega,Bool.or_false]
   split
   ·rename_i oj rj hoj hrj
    split
    ·rename_i hLn
     exact putV_comm _ _ _ fun d hd => hap n oj (by omega) (by omega) hLn hoj d hd
    ·rfl
   ·rfl
theorem TL_agree {L : Nat→Bool} {i d : Nat} (h1 : ∀ j oj,j < i→ops[j]? = some oj→oj.dst = some d→L j = true) {n : Nat} (hn : i≤n) (h2 : ∀ j oj,i≤j→j < n→L j = true→ops[j]? = some oj→oj.dst ≠ some d) :
  (TL ops tr t0 L n)[d]? = (TL ops tr t0 (fun _ => true) i)[d]?:=by
 have low : ∀ n,n≤i→(TL ops tr t0 L n)[d]? = (TL ops tr t0 (fun _ => true) n)[d]?:=by
  intro n
  induction n with
  | zero => intro _; rfl
  | succ n ih =>
   intro hle
   have ih':=ih (by omega)
   simp only [TL]
   cases ho : ops[n]? with
   | none => exact ih'
   | some o =>
    cases hr : tr[n]? with
    | none => exact ih'
    | some r =>
     simp only [if_true]
     by_cases hd : o.dst = some d
     ·rw [if_pos (h1 n o (by omega) ho hd)]
      simp [Xh,hd,List.getElem?_set,TL_length]
     ·have keep : ∀ t : List V,(Xh t o.dst r.1)[d]? = t[d]?:=fun t => by
       cases hod : o.dst with
       | none => rfl
       | some e => simp only [Xh]; rw [List.getElem?_set_ne]; intro he; exact hd (he ▸ hod)
      split
      ·rw [keep,keep,ih']
      ·rw [keep,ih']
 have high : ∀ k,i + k≤n→(TL ops tr t0 L (i + k))[d]? = (TL ops tr t0 (fun _ => true) i)[d]?:=by
  intro k
  induction k with
  | zero => intro _; exact low i (Nat.le_refl _)
  | succ k ih =>
   intro hle
   have ih':=ih (by omega)
   rw [show i + (k + 1) = i + k + 1 by omega]
   simp only [TL]
   cases ho : ops[i + k]? with
   | none => exact ih'
   | some o =>
    cases hr : tr[i + k]? with
    | none => exact ih'
    | some r =>
     by_cases hL : L (i + k) = true
     ·have hd:=h2 (i + k) o (by omega) (by omega) hL ho
      rw [← ih']
      simp only [hL,if_true]
      cases hod : o.dst with
      | none => rfl
      | some e => simp only [Xh]; rw [List.getElem?_set_ne]; intro he; exact hd (he ▸ hod)
     ·simp only [hL]; exact ih'
 have:=high (n - i) (by omega)
 rwa [show i + (n - i) = n by omega] at this
def Ji (d : Nat) : List Nat→Bool
 | [] => false
 | e :: l => match Nat.beq d e with
  | true => true
  | false => Ji d l
theorem memN_spec {d : Nat} : ∀ {l : List Nat},Ji d l = true ↔ d ∈ l
 | [] => by simp [Ji]
 | e :: l => by
  unfold Ji
  cases h : Nat.beq d e with
  | true => have:=Nat.eq_of_beq_eq_true h; simp [this]
  | false => have:=Nat.ne_of_beq_eq_false h; simp [this,memN_spec]
def Ks : List Nat→List Nat→Bool
 | [],_ => true
 | d :: l,m => match Ji d m with
  | true => false
  | false => Ks l m
theorem disjN_spec {m : List Nat} : ∀ {l : List Nat},Ks l m = true→∀ d ∈ l,d ∉ m
 | [],_,d,hd => by cases hd
 | e :: l,h,d,hd => by
  unfold Ks at h
  cases hm : Ji e m with
  | true => rw [hm] at h; cases h
  | false =>
   rw [hm] at h
   rcases List.mem_cons.1 hd with rfl | hd
   ·intro hc; rw [memN_spec.2 hc] at hm; cases hm
   ·exact disjN_spec h d hd
def ltN (i : Nat) : List Nat→Bool
 | [] => true
 | e :: l => match Nat.ble (e + 1) i with
  | true => ltN i l
  | false => false
theorem ltN_spec {i : Nat} : ∀ {l : List Nat},ltN i l = true→∀ e ∈ l,e < i
 | [],_,d,hd => by cases hd
 | e :: l,h,d,hd => by
  unfold ltN at h
  cases hm : Nat.ble (e + 1) i with
  | false => rw [hm] at h; cases h
  | true =>
   rw [hm] at h
   rcases List.mem_cons.1 hd with rfl | hd
   ·exact Nat.le_of_ble_eq_true hm
   ·exact ltN_spec h d hd
def forceL {α : Type} : List Nat→(List Nat→α)→α
 | [],k => k []
 | e :: l,k => forceL l fun l => k (e :: l)
theorem forceL_eq {α : Type} : ∀ (l : List Nat) (k : List Nat→α),forceL l k = k l
 | [],_ => rfl
 | e :: l,k => by unfold forceL; rw [forceL_eq l]
def dstN (o : Oper) : List Nat:=match o.dst with
 | some d => [d]
 | none => []
def tmpsN : List Operand→List Nat
 | [] => []
 | .tmp t :: l => t :: tmpsN l
 | _ :: l => tmpsN l
def dstAt (g : Nat) : List Oper→List Nat
 | [] => []
 | o :: l => match g with
  | 0 => dstN o
  | g + 1 => dstAt g l
def looksN (ops : List Oper) (o : Oper) : List Nat:=match o.guard with
 | none => tmpsN o.op.operands.toList
 | some (g,_) => dstAt g ops ++ tmpsN o.op.operands.toList
def Hw : List Edge→List Nat
 | [] => []
 | e :: l => match e.ground with
  | .textOnly _ => Hw l
  | .gcOnly _ => Hw l
  | _ => e.on :: Hw l
theorem tmpsN_mem {d : Nat} : ∀ {l : List Operand},.tmp d ∈ l→d ∈ tmpsN l
 | x :: l,h => by
  rcases List.mem_cons.1 h with h | h
  ·subst h; exact List.mem_cons_self
  ·have:=tmpsN_mem h
   cases x <;> simp only [tmpsN] <;> first | exact this | exact List.mem_cons_of_mem _ this
theorem dstAt_mem {d : Nat} {o : Oper} (hd : o.dst = some d) : ∀ (g : Nat) (l : List Oper),l[g]? = some o→d ∈ dstAt g l:=by
 intro g
 induction g with
 | zero =>
  intro l h
  cases l with
  | nil => simp at h
  | cons x l => simp at h; subst h; simp [dstAt,dstN,hd]
 | succ g ih =>
  intro l h
  cases l with
  | nil => simp at h
  | cons x l => exact ih l (by simpa using h)
theorem looksN_mem {ops : Array Oper} {o : Oper} {d : Nat} (h : d ∈ o.looksAt ops) : d ∈ looksN ops.toList o:=by
 unfold Oper.looksAt at h
 rcases List.mem_append.1 h with h | h
 ·obtain ⟨x,hx,he⟩:=List.mem_filterMap.1 h
  have : d ∈ tmpsN o.op.operands.toList:=by
   cases x <;> simp at he
   subst he
   exact tmpsN_mem hx
  unfold looksN
  cases o.guard with
  | none => exact this
  | some g => exact List.mem_append_right _ this
 ·cases hg : o.guard with
  | none => rw [hg] at h; cases h
  | some gw =>
   obtain ⟨g,w⟩:=gw
   rw [hg] at h
   unfold looksN
   rw [hg]
   refine List.mem_append_left _ ?_
   simp only at h
   cases ho : ops[g]? with
   | none => simp [ho] at h
   | some og =>
    simp [ho] at h
    exact dstAt_mem h _ _ (by simpa using ho)
theorem afterN_spec {d : Nat} : ∀ {l : List Edge},d ∈ Hw l ↔ ∃ e ∈ l,Region.binds .any e = true∧e.on = d
 | [] => by simp [Hw]
 | e :: l => by
  have ih:=@afterN_spec d l
  unfold Hw
  constructor
  ·intro h
   have up : d ∈ Hw l→∃ x ∈ e :: l,Region.binds .any x = true∧x.on = d:=fun h => by
    obtain ⟨x,h1,h2⟩:=ih.1 h
    exact ⟨x,List.mem_cons_of_mem _ h1,h2⟩
   have on : Region.binds .any e = true→d ∈ e.on :: Hw l→∃ x ∈ e :: l,Region.binds .any x = true∧x.on = d:=fun hb h => by
    rcases List.mem_cons.1 h with h | h
    ·exact ⟨e,List.mem_cons_self,hb,h.symm⟩
    ·exact up h
   cases hg : e.ground <;> rw [hg] at h <;> simp only at h <;> first | exact up h | exact on (by simp [Region.binds,hg]) h
  ·rintro ⟨x,h1,h2,h3⟩
   rcases List.mem_cons.1 h1 with rfl | h1
   ·cases hg : x.ground <;> simp [Region.binds,hg] at h2 ⊢ <;> first | exact .inl h3.symm | (cases h2)
   ·have:=ih.2 ⟨x,h1,h2,h3⟩
    cases hg : e.ground <;> simp only <;> first | exact this | exact List.mem_cons_of_mem _ this
structure RowN where
 dst : List Nat
 looks : List Nat
 after : List Nat
def rowsN (ops : List Oper) : List Oper→(List RowN→Bool)→Bool
 | [],k => k []
 | o :: l,k => forceL (dstN o) fun d => forceL (looksN ops o) fun s => forceL (Hw o.after.toList) fun a => rowsN ops l fun rs => k (⟨d,s,a⟩ :: rs)
def rowN (ops : List Oper) (o : Oper) : RowN:=⟨dstN o,looksN ops o,Hw o.after.toList⟩
theorem rowsN_eq (ops : List Oper) : ∀ (l : List Oper) (k : List RowN→Bool),rowsN ops l k = k (l.map (rowN ops))
 | [],_ => rfl
 | o :: l,k => by unfold rowsN; rw [forceL_eq,forceL_eq,forceL_eq,rowsN_eq ops l]; rfl
def laterN (i : Nat) (d s : List Nat) : List RowN→Bool
 | [] => true
 | ⟨d2,s2,a2⟩ :: l => match Ji i a2 with
  | true => laterN i d s l
  | false => match Ks d s2 && Ks d d2 && Ks d2 s with
   | true => laterN i d s l
   | false => false
def ordN : Nat→List RowN→Bool
 | _,[] => true
 | i,⟨d,s,a⟩ :: l => match ltN i a && laterN i d s l with
  | true => ordN (i + 1) l
  | false => false
def Qu (l : List Oper) : Bool:=rowsN l l fun rs => ordN 0 rs
theorem laterN_spec {i : Nat} {d s : List Nat} : ∀ {l : List RowN},laterN i d s l = true→∀ r ∈ l,i ∈ r.after∨(Ks d r.looks = true∧Ks d r.dst = true∧Ks r.dst s = true)
 | [],_,r,hr => by cases hr
 | ⟨d2,s2,a2⟩ :: l,h,r,hr => by
  unfold laterN at h
  have key : laterN i d s l = true∧(i ∈ a2∨(Ks d s2 = true∧Ks d d2 = true∧Ks d2 s = true)):=by
   cases hm : Ji i a2 with
   | true => rw [hm] at h; exact ⟨h,.inl (memN_spec.1 hm)⟩
   | false =>
    rw [hm] at h
    cases hc : (Ks d s2 && Ks d d2 && Ks d2 s) with
    | false => rw [hc] at h; cases h
    | true =>
     rw [hc] at h
     simp only [Bool.and_eq_true] at hc
     exact ⟨h,.inr ⟨hc.1.1,hc.1.2,hc.2⟩⟩
  rcases List.mem_cons.1 hr with rfl | hr
  ·exact key.2
  ·exact laterN_spec key.1 r hr
theorem ordN_spec : ∀ {l : List RowN} {k : Nat},ordN k l = true→∀ i r,l[i]? = some r→ltN (k + i) r.after = true∧∀ j r',i < j→l[j]? = some r'→(k + i ∈ r'.after∨(Ks r.dst r'.looks = true∧Ks r.dst r'.dst = true∧Ks r'.dst r.looks = true))
 | [],k,_,i,r,hi => by simp at hi
 | ⟨d,s,a⟩ :: l,k,h,i,r,hi => by
  unfold ordN at h
  cases hc : (ltN k a && laterN k d s l) with
  | false => rw [hc] at h; cases h
  | true =>
   rw [hc] at h
   simp only [Bool.and_eq_true] at hc
   cases i with
   | zero =>
    simp at hi
    subst hi
    refine ⟨hc.1,fun j r' hj hr' => ?_⟩
    cases j with
    | zero => omega
    | succ j => exact laterN_spec hc.2 r' (List.mem_of_getElem? (by simpa using hr'))
   | succ i =>
    have ih:=ordN_spec (k:=k + 1) h i r (by simpa using hi)
    rw [show k + 1 + i = k + (i + 1) by omega] at ih
    refine ⟨ih.1,fun j r' hj hr' => ?_⟩
    cases j with
    | zero => omega
    | succ j => exact ih.2 j r' (by omega) (by simpa using hr')
theorem Ho {ops : Array Oper} (h : Qu ops.toList = true) : ∀ i oi,ops[i]? = some oi→(∀ e ∈ oi.after,Region.binds .any e = true→e.on < i)∧(∀ j oj,i < j→ops[j]? = some oj→(∃ e ∈ oj.after,Region.binds .any e = true∧e.on = i)∨oi.apart ops oj = true):=by
 intro i oi ho
 unfold Qu at h
 rw [rowsN_eq] at h
 obtain ⟨h1,h2⟩:=ordN_spec h i (rowN ops.toList oi) (by simp [ho])
 rw [Nat.zero_add] at h1 h2
 refine ⟨fun e he hb => ltN_spec h1 _ (afterN_spec.2 ⟨e,by simpa using he,hb,rfl⟩),fun j oj hj hoj => ?_⟩
 rcases h2 j (rowN ops.toList oj) hj (by simp [hoj]) with h3 | ⟨h3,h4,h5⟩
 ·obtain ⟨e,e1,e2,e3⟩:=afterN_spec.1 h3
  exact .inl ⟨e,by simpa using e1,e2,e3⟩
 ·refine .inr ?_
  have k3:=disjN_spec h3
  have k4:=disjN_spec h4
  have k5:=disjN_spec h5
  unfold Oper.apart
  rw [Bool.and_eq_true]
  constructor
  ·cases hd : oi.dst with
   | none => rfl
   | some d =>
    have m1 : d ∈ (rowN ops.toList oi).dst:=by simp [rowN,dstN,hd]
    simp only [Bool.and_eq_true,Bool.not_eq_true',bne_iff_ne,ne_eq]
    refine ⟨?_,fun hc => k4 d m1 (by simp [rowN,dstN,hc])⟩
    cases hcc : (oj.looksAt ops).contains d with
    | false => rfl
    | true => exact absurd (looksN_mem (by simpa using hcc)) (k3 d m1)
  ·cases hd : oj.dst with
   | none => rfl
   | some d =>
    have m1 : d ∈ (rowN ops.toList oj).dst:=by simp [rowN,dstN,hd]
    simp only [Bool.not_eq_true']
    cases hcc : (oi.looksAt ops).contains d with
    | false => rfl
    | true => exact absurd (looksN_mem (by simpa using hcc)) (k5 d m1)
def Dom (tr : List Hi) (k0 : Nat) (L : Nat→Bool) (φ : Pl) : Prop:=∀ b p,φ b = some p→b < k0∨∃ j r,L j = true∧tr[j]? = some r∧r.2.1≤b∧b < r.2.1 + r.2.2
theorem eval_agree {t t' : List V} {o : Oper} (h : ∀ d,d ∈ o.looksAt ops→t[d]? = t'[d]?) : (∀ x,x ∈ o.op.operands→ev t x = ev t' x)∧Zm ops t o = Zm ops t' o:=by
 refine ⟨fun x hx => ?_,?_⟩
 ·cases x with
  | tmp d =>
   have:=h d (List.mem_append_left _ (List.mem_filterMap.2 ⟨.tmp d,by simpa using hx,rfl⟩))
   simp [ev,List.getD,this]
  | _ => rfl
 ·unfold Zm
  cases hg : o.guard with
  | none => rfl
  | some gw =>
   obtain ⟨g,want⟩:=gw
   cases ht : (ops[g]?).bind (·.dst) with
   | none => simp [ht]
   | some d =>
    have:=h d (by simp [Oper.looksAt,hg,ht])
    simp [ht,this]
theorem Gh {L : Nat→Bool} {i : Nat} (hL : L i = false) : ∀ n,i < n→(List.range n).countP (fun j => !L j) = (List.range n).countP (fun j => !(L j || j == i)) + 1:=by
 have same : ∀ n,n≤i→(List.range n).countP (fun j => !L j) = (List.range n).countP (fun j => !(L j || j == i)):=fun n hn => by
  refine List.countP_congr fun j hj => ?_
  have:=List.mem_range.1 hj
  simp [show (j == i) = false by simp; omega]
 intro n
 induction n with
 | zero => intro h; omega
 | succ n ih =>
  intro h
  rw [List.range_succ,List.countP_append,List.countP_append]
  by_cases hni : n = i
  ·subst hni
   rw [same n (Nat.le_refl _)]
   simp [hL]
  ·rw [ih (by omega)]
   simp [show (n == i) = false by simp; omega]
   omega
theorem draw_sound {Q : Exit→VS→Prop} {g0 : List V} {N : Fr} {w0 : World × List Value} {k0 : Nat} (hlex : Qu ops.toList = true) (hlen : ops.size = tr.length)
  (hrows : ∀ (j : Nat) (o : Oper) (r : Hi),ops[j]? = some o→tr[j]? = some r→RowOk P ops M tr t0 j o r) (hk0 : ∀ (j : Nat) (r : Hi),tr[j]? = some r→k0≤r.2.1) (hdis : ∀ (i j : Nat) (r s : Hi),i < j→tr[i]? = some r→tr[j]? = some s→r.2.1 + r.2.2≤s.2.1)
  (hQ : Q .normal { t:=TL ops tr t0 (fun _ => true) ops.size,m:=M,g:=g0 }) :
  ∀ (fuel : Nat) (listed : Array Bool) (L : Nat→Bool),listed.size = ops.size→(∀ j,j < ops.size→listed.getD j true = L j)→(List.range ops.size).countP (fun j => !L j) = fuel →
   (∀ j oj,L j = true→ops[j]? = some oj→∀ e ∈ oj.after,Region.binds .any e = true→L e.on = true) →
   ∀ (a : Act) (w : World) (φ : Pl),SR P N w0 { t:=TL ops tr t0 L ops.size,m:=M,g:=g0 } a w φ→Dom tr k0 L φ →
    wpAny P .any ops (fun e a' w' => ∃ st' φ',Q e st'∧SR P N w0 st' a' w' φ') fuel listed a w:=by
 have spec:=Ho hlex
 have allL : ∀ (listed : Array Bool) (L : Nat→Bool),listed.size = ops.size→(∀ j,j < ops.size→listed.getD j true = L j)→Region.ready .any ops listed = []→∀ j,j < ops.size→L j = true:=by
  intro listed L hsz hL hr j
  induction j using Nat.strongRecOn with
  | ind j ih =>
   intro hj
   cases hLj : L j with
   | true => rfl
   | false =>
    exfalso
    obtain ⟨oj,hoj⟩ : ∃ oj,ops[j]? = some oj:=⟨ops[j],by simp [hj]⟩
    have : j ∈ Region.ready .any ops listed:=mem_ready.2 ⟨(hL j hj).trans hLj,oj,hoj,fun e he hb => by
     have hlt:=(spec j oj hoj).1 e he hb
     have h1:=ih e.on hlt (by omega)
     rw [← hL e.on (by omega)] at h1
     have : e.on < listed.size:=by omega
     simpa [this] using h1⟩
    rw [hr] at this
    cases this
 have finish : ∀ (listed : Array Bool) (L : Nat→Bool),listed.size = ops.size→(∀ j,j < ops.size→listed.getD j true = L j)→Region.ready .any ops listed = []→TL ops tr t0 L ops.size = TL ops tr t0 (fun _ => true) ops.size:=by
  intro listed L hsz hL hr
  have h:=allL listed L hsz hL hr
  have : ∀ n,n≤ops.size→TL ops tr t0 L n = TL ops tr t0 (fun _ => true) n:=by
   intro n
   induction n with
   | zero => intro _; rfl
   | succ n ih => intro hle; simp only [TL,ih (by omega),h n (by omega)]
  exact this _ (Nat.le_refl _)
 intro fuel
 induction fuel with
 | zero =>
  intro listed L hsz hL hc hW a w φ hs hd
  have hr : Region.ready .any ops listed = []:=by
   cases h : Region.ready .any ops listed with
   | nil => rfl
   | cons i rest =>
    exfalso
    have hi : i ∈ Region.ready .any ops listed:=by rw [h]; simp
    obtain ⟨b1,o,b2,b3⟩:=mem_ready.1 hi
    have hlt:=(Array.getElem?_eq_some_iff.1 b2).1
    have:=List.countP_eq_zero.1 hc i (List.mem_range.2 hlt)
    rw [hL i hlt] at b1
    simp [b1] at this
  refine ⟨hr,_,φ,hQ,?_⟩
  rw [finish listed L hsz hL hr] at hs
  exact hs
 | succ fuel ih =>
  intro listed L hsz hL hc hW a w φ hs hd
  refine ⟨fun hr => ⟨_,φ,hQ,by rw [finish listed L hsz hL hr] at hs; exact hs⟩,fun i hi => ?_⟩
  obtain ⟨b1,o,hoi,b3⟩:=mem_ready.1 hi
  have hlt:=(Array.getElem?_eq_some_iff.1 hoi).1
  have hLi : L i = false:=by rw [← hL i hlt]; exact b1
  obtain ⟨r,hri⟩ : ∃ r,tr[i]? = some r:=⟨tr[i]'(by omega),by simp [show i < tr.length by omega]⟩
  have hready : ∀ e ∈ o.after,Region.binds .any e = true→L e.on = true:=fun e he hb => by
   have h1:=b3 e he hb
   have hlt' : e.on < ops.size:=Nat.lt_trans ((spec i o hoi).1 e he hb) hlt
   have h2:=hL e.on hlt'
   have : e.on < listed.size:=by omega
   simp [this] at h1 h2
   rw [h1] at h2
   exact h2.symm
  have early : ∀ j oj,j < i→ops[j]? = some oj→L j = false→oj.apart ops o = true:=fun j oj hj hoj hLj => by
   rcases (spec j oj hoj).2 i o hj hoi with ⟨e,he,hb,heq⟩ | h
   ·have:=hready e he hb
    rw [heq,hLj] at this
    cases this
   ·exact h
  have late : ∀ j oj,i < j→ops[j]? = some oj→L j = true→o.apart ops oj = true:=fun j oj hj hoj hLj => by
   rcases (spec i o hoi).2 j oj hj hoj with ⟨e,he,hb,heq⟩ | h
   ·have:=hW j oj hLj hoj e he hb
    rw [heq,hLi] at this
    cases this
   ·exact h
  have agree : ∀ d,d ∈ o.looksAt ops→(TL ops tr t0 L ops.size)[d]? = (TL ops tr t0 (fun _ => true) i)[d]?:=fun d hd =>
   TL_agree (fun j oj hj hoj hjd => by
    cases hLj : L j with
    | true => rfl
    | false => exact absurd hd ((Oper.apart_spec (early j oj hj hoj hLj)).1 d hjd)) (Nat.le_of_lt hlt) fun j oj hj hjn hLj hoj hjd => by
    by_cases hji : i = j
    ·subst hji; rw [hLi] at hLj; cases hLj
    ·exact (Oper.apart_spec (late j oj (by omega) hoj hLj)).2.2 d hjd hd
  obtain ⟨e1,e2⟩:=eval_agree (ops:=ops) agree
  have hput : TL ops tr t0 (fun x => L x || x == i) ops.size = Xh (TL ops tr t0 L ops.size) o.dst r.1 :=
   TL_put hoi hri hLi hlt fun j oj h1 h2 h3 h4 d hd => (Oper.apart_spec (late j oj h1 h4 h3)).2.1 d hd
  have cont : ∀ (a' : Act) (w' : World) (φ' : Pl),SR P N w0 { t:=Xh (TL ops tr t0 L ops.size) o.dst r.1,m:=M,g:=g0 } a' w' φ'→Dom tr k0 (fun x => L x || x == i) φ' →
    wpAny P .any ops (fun e a' w' => ∃ st' φ',Q e st'∧SR P N w0 st' a' w' φ') fuel (listed.setIfInBounds i true) a' w':=fun a' w' φ' hs' hd' => by
   refine ih (listed.setIfInBounds i true) (fun x => L x || x == i) (by simp [hsz]) (fun j hj => ?_) ?_ (fun j oj hLj hoj e he hb => ?_) a' w' φ' (by rw [hput]; exact hs') hd'
   ·by_cases hij : i = j
    ·subst hij
     have : i < listed.size:=by omega
     simp [this]
    ·rw [getD_set_ne true hij,hL j hj]
     simp [show (j == i) = false by simp; omega]
   ·have:=Gh hLi ops.size hlt
    omega
   ·by_cases hij : j = i
    ·subst hij
     rw [hoi] at hoj
     cases hoj
     simp [hready e he hb]
    ·have hLj' : L j = true:=by simpa [hij] using hLj
     simp [hW j oj hLj' hoj e he hb]
  unfold wpOp
  simp only [hoi]
  have hmono : ∀ φ',(∀ b p,φ' b = some p→φ b = some p∨(r.2.1≤b∧b < r.2.1 + r.2.2))→Dom tr k0 (fun x => L x || x == i) φ':=fun φ' h b p hb => by
   rcases h b p hb with h | ⟨h1,h2⟩
   ·rcases hd b p h with h | ⟨j,s,a1,a2,a3,a4⟩
    ·exact .inl h
    ·exact .inr ⟨j,s,by simp [a1],a2,a3,a4⟩
   ·exact .inr ⟨i,r,by simp,hri,h1,h2⟩
  rcases hrows i o r hoi hri with ⟨hw,hr1,hr2⟩ | ⟨hw,ho⟩
  ·rw [Xj (e2.trans hw) hs,if_neg (by simp)]
   refine cont _ w φ ?_ (hmono φ fun b p hb => .inl hb)
   rw [hr1]
   exact hs.put S.und hs.mem (Ev.refl _ _ _) (Bel.refl _ _)
  ·rw [Xj (e2.trans hw) hs,if_pos rfl]
   left
   refine ho N a w φ _ _ hs.start hs.glob hs.mem (fun x hx => by rw [← e1 x hx]; exact hs.eval x) (fun x hx => ?_) fun u w' φ' h1 h2 h3 h4 h5 => cont _ w' φ' (hs.put h1 h2 h3 h4) (hmono φ' h5)
   cases hφ : φ (r.2.1 + x) with
   | none => rfl
   | some p =>
    exfalso
    rcases hd _ p hφ with h | ⟨j,s,a1,a2,a3,a4⟩
    ·have:=hk0 i r hri
     omega
    ·rcases Nat.lt_trichotomy i j with h | h | h
     ·have:=hdis i j r s h hri a2; omega
     ·subst h; rw [hLi] at a1; cases a1
     ·have:=hdis j i s r h a2 hri; omega
inductive DE : List Oper→List Hi→List V→List V→Prop
 | nil {t : List V} : DE [] [] t t
 | cons {o : Oper} {l : List Oper} {r : Hi} {tr : List Hi} {t tf : List V} (h : DE l tr (Xh t o.dst r.1) tf) : DE (o :: l) (r :: tr) t tf
theorem DE.final : ∀ {l : List Oper} {tr' : List Hi} {t tf : List V},DE l tr' t tf→∀ n,(∀ j,l[j]? = ops[n + j]?)→(∀ j,tr'[j]? = tr[n + j]?)→t = TL ops tr t0 (fun _ => true) n→tf = TL ops tr t0 (fun _ => true) (n + l.length)
 | _,_,_,_,.nil,n,_,_,ht => ht
 | _,_,t,tf,.cons (o:=o) (l:=l) (r:=r) (tr:=tr') h,n,hl,htr,ht => by
  have h0:=hl 0
  have h1:=htr 0
  simp at h0 h1
  have hstep : Xh (TL ops tr t0 (fun _ => true) n) o.dst r.1 = TL ops tr t0 (fun _ => true) (n + 1):=by simp [TL,← h0,← h1]
  have:=DE.final h (n + 1) (fun j => by have:=hl (j + 1); simpa [Nat.add_assoc,Nat.add_comm 1] using this) (fun j => by have:=htr (j + 1); simpa [Nat.add_assoc,Nat.add_comm 1] using this) (by rw [ht]; exact hstep)
  rw [this,List.length_cons]
  congr 1
  omega
def DL (P : Program) (ops : Array Oper) (l : List Oper) (st st' : VS) : Prop :=
 st'.g = st.g∧∃ bl,st'.m = st.m ++ bl∧∀ more,∃ tr,DT P ops (st'.m ++ more) l st.t st.m.length tr∧DE l tr st.t st'.t
theorem DL.nil {st : VS} : DL P ops [] st st:=⟨rfl,[],by simp,fun more => ⟨[],.nil,.nil⟩⟩
theorem DL.skip {o : Oper} {l : List Oper} {st st' : VS} (hw : Zm ops st.t o = some false) (h : DL P ops l { t:=Xh st.t o.dst und,m:=st.m,g:=st.g } st') : DL P ops (o :: l) st st':=by
 obtain ⟨hg,bl,h1,h2⟩:=h
 refine ⟨hg,bl,h1,fun more => ?_⟩
 obtain ⟨tr,h3,h4⟩:=h2 more
 exact ⟨_,.skip hw h3,.cons h4⟩
theorem DL.op {o : Oper} {l : List Oper} {st st' : VS} {r : V} {bl : VM} (hw : Zm ops st.t o = some true) (ho : ∀ more,OpY P o (st.m ++ bl ++ more) (ev st.t) r st.m.length bl.length) (h : DL P ops l { t:=Xh st.t o.dst r,m:=st.m ++ bl,g:=st.g } st') : DL P ops (o :: l) st st':=by
 obtain ⟨hg,bl',h1,h2⟩:=h
 refine ⟨hg,bl ++ bl',by simp [h1],fun more => ?_⟩
 obtain ⟨tr,h3,h4⟩:=h2 more
 refine ⟨(r,st.m.length,bl.length) :: tr,.op hw ?_ (by simpa using h3),.cons h4⟩
 have:=ho (bl' ++ more)
 simp only at h1
 rw [h1]
 simpa using this
def Ud (l : List Oper) : Bool:=l.all fun o => match o.op with | .store .. => false | .call { callee:=.builtin .append,.. } => false | _ => true
theorem DL.run {rest : List Oper} : ∀ {l : List Oper} {st st1 st' : VS},Ud l = true→vops P ops l st = some st1→DL P ops rest st1 st'→DL P ops (l ++ rest) st st'
 | [],st,st1,st',_,h,hr => by simp [vops] at h; subst h; exact hr
 | o :: l,st,st1,st',hn,h,hr => by
  simp only [Ud,List.all_cons,Bool.and_eq_true] at hn
  simp only [vops] at h
  split at h
  ·rename_i hw
   cases h1 : vop1 P st o with
   | none => simp [h1] at h
   | some st2 =>
    simp only [h1,Option.bind_some] at h
    have ih:=DL.run (by simpa [Ud] using hn.2) h hr
    unfold vop1 at h1
    split at h1
    ·rename_i v hv
     obtain rfl:=Option.some.inj h1
     exact DL.op (bl:=[]) hw (fun more => by simpa using OpY.quiet (vq_more more hv)) (by simpa using ih)
    ·split at h1
     ·rename_i v n es hv
      obtain rfl:=Option.some.inj h1
      exact DL.op (bl:=[some (n,es)]) hw (fun more => OpY.alloc hv (by simp)) ih
     ·split at h1
      ·rename_i t x y ho
       simp [ho] at hn
      ·cases h1
  ·rename_i hw
   exact DL.skip hw (DL.run (by simpa [Ud] using hn.2) h hr)
  ·cases h
mutual
theorem Re.more {m : VM} (l : VM) : ∀ {v v' : V},Re m v v'→Re (m ++ l) v v'
 | _,_,.pl hp => .pl hp
 | _,_,.sl => .sl
 | _,_,.cptr => .cptr
 | _,_,.any => .any
 | _,_,.own => .own
 | _,_,.ref hb hle h => .ref (Jx l hb) hle (ReE.more l h)
 | _,_,.ptr hb he h => .ptr (Jx l hb) he (ReL.more l h)
 | _,_,.refc hb he hle h => .refc (Jx l hb) he hle (ReL.more l h)
 | _,_,.agg h => .agg (ReL.more l h)
 | _,_,.cut h => .cut (Re.more l h)
theorem ReL.more {m : VM} (l : VM) : ∀ {v v' : List V},ReL m v v'→ReL (m ++ l) v v'
 | _,_,.nil => .nil
 | _,_,.cons h hs => .cons (Re.more l h) (ReL.more l hs)
theorem ReE.more {m : VM} (l : VM) : ∀ {v v' : List (List V)},ReE m v v'→ReE (m ++ l) v v'
 | _,_,.nil => .nil
 | _,_,.cons h hs => .cons (ReL.more l h) (ReE.more l hs)
end
theorem DL.call {st st' : VS} {o : Oper} {l : List Oper} {f : FuncId} {args : Array Operand} {ats : Array TypeId} {vs : List V} {r r' : V} {bl : VM} (hw : Zm ops st.t o = some true)
  (ho : o.op = .call { callee:=.value (.func f),args:=args,argTypes:=ats }) (hf : (P.funcs[f]?).any (fun fn => fn.body.isSome && fn.name != "runtime.NumGoroutine") = true) (hre : ReL st.m (args.toList.map (ev st.t)) vs) (hc : Qk P f vs (fun x => x = r)) (hx : Ex st.m.length r r' bl)
  (h : DL P ops l { t:=Xh st.t o.dst r',m:=st.m ++ bl,g:=st.g } st') : DL P ops (o :: l) st st' :=
 .op (bl:=bl) hw (fun more => OpY.call ho hf (by rw [List.append_assoc]; exact ReL.more _ hre) hc hx fun i x hi => by
  rw [List.append_assoc,List.getElem?_append_right (by omega),show st.m.length + i - st.m.length = i by omega]
  exact Jx more hi) h
theorem VW.draw {id : Nat} {l : List Oper} {Q : Exit→VS→Prop} {st st' : VS} (hm : P.follows .mixedOrders = true) (hlex : Qu l = true) (h : DL P l.toArray l st st') (hQ : Q .normal st') : VW P (.region id l.toArray true) Q st:=fun N w0 a w φ hs => by
 obtain ⟨hg,bl,hbl,h'⟩:=h
 obtain ⟨tr,h,hde⟩:=h' []
 rw [List.append_nil,hbl] at h
 obtain ⟨h1,h2,h3,h4⟩:=DT.rows (tr:=tr) (n:=0) (t0:=st.t) h (fun j => by simp) (fun j => by simp) rfl
 have hfin:=DE.final (ops:=l.toArray) (tr:=tr) (t0:=st.t) hde 0 (fun j => by simp) (fun j => by simp) rfl
 refine wp_region_any hm ?_
 have hs1 : SR P N w0 st a (w.drewN 1) φ:=by
  obtain ⟨d1,d2⟩:=hs.mem.drewN 1
  exact ⟨hs.defers,hs.size,fun i v hi => by
   obtain ⟨u,b1,b2⟩:=hs.tmps i v hi
   exact ⟨u,b1,b2.ev d2⟩,d1,hs.below.trans (Jg N w 1),hs.start,Sl.ev d2 hs.gh,hs.gl⟩
 have hs2:=hs1.more bl
 have htl : TL l.toArray tr st.t (fun _ => false) l.toArray.size = st.t:=by
  have : ∀ n,TL l.toArray tr st.t (fun _ => false) n = st.t:=fun n => by
   induction n with
   | zero => rfl
   | succ n ih => simp only [TL]; split <;> simp [ih]
  exact this _
 have hst' : st' = { t:=TL l.toArray tr st.t (fun _ => true) l.toArray.size,m:=st.m ++ bl,g:=st.g }:=by
  cases st'
  simp only at hbl hfin hg
  subst hbl
  subst hfin
  subst hg
  simp
 refine draw_sound (tr:=tr) (t0:=st.t) (M:=st.m ++ bl) (k0:=st.m.length) hlex (by simpa using h1) (fun j o r ho hr => by have:=h2 j o r (by simpa using ho) hr; simpa using this) h3 h4 (by rw [← hst']; exact hQ) _ _ (fun _ => false) (by simp) (fun j hj => by simp at hj; simp [hj]) (by simp) (fun j oj h => by cases h) a _ φ (by rw [htl]; exact hs2) fun b p hb => .inl (hs.mem.dom b p hb)
end
end Go.VL

namespace Go.VL
open Go.RowKit Go.ChangeShapes Go.WideShapes Go.ChangeAt
set_option linter.unusedSimpArgs false
set_option linter.unusedVariables false
inductive Sh where
 | bool
 | int (k : IntKind)
 | float (k : FloatKind)
 | str
 | slice (n : Nat) (e : Sh)
 | rep (c : Nat) (e : Sh)
 | unit
 | seq (a b : Sh)
def shF (P : Program) (rec_ : TypeId→Option Sh) (off : Nat) : List Field→Option (Sh × Nat)
 | [] => some (.unit,off)
 | f :: fs => if f.offset = off then (rec_ f.type).bind fun s => (shF P rec_ (off + P.cellsOf f.type) fs).map fun r => (.seq s r.1,r.2) else none
def shp (P : Program) : Nat→TypeId→Option Sh
 | 0,_ => none
 | d + 1,t => match P.underlying t with
  | some .bool => some .bool
  | some (.int k) => some (.int k)
  | some (.float k) => some (.float k)
  | some .string => some .str
  | some (.slice e) => if P.cellsOf e = 0 then none else (shp P d e).map (.slice (P.cellsOf e))
  | some (.array c e) => if P.cellsOf t = c * P.cellsOf e then (shp P d e).map (.rep c) else none
  | some (.struct fs) => (shF P (shp P d) 0 fs.toList).bind fun r => if r.2 = P.cellsOf t then some r.1 else none
  | _ => none
def Ok : Sh→List V→Prop
 | .bool,vs => ∃ x,vs = [.b x]
 | .int k,vs => ∃ n,vs = [.i k n]∧(Lit.int k n).wf = true
 | .float k,vs => ∃ x,vs = [.f k (some x)]∧(Lit.float k x).wf = true
 | .str,vs => ∃ s,vs = [.str s]∧s.size≤maxLen
 | .slice n e,vs => ∃ es : List (List V),vs = [.sl n es]∧es.length≤maxLen∧(∀ x ∈ es,x.length = n)∧∀ x ∈ es,Ok e x
 | .rep c e,vs => ∃ xs : List (List V),vs = xs.flatten∧xs.length = c∧∀ x ∈ xs,Ok e x
 | .unit,vs => vs = []
 | .seq a b,vs => ∃ x y,vs = x ++ y∧Ok a x∧Ok b y
section
variable {P : Program} {w : World}
theorem cells_get {base : Nat} {a : Addr} {n : Nat} {cs : List Value} (h : w.cells? base a n = some cs) : cs.length = n∧∀ i,i < n→w.cell? (a.add i) = cs[i]?:=by
 unfold World.cells? at h
 split at h
 ·refine ⟨by simpa using mapM_some_length h,fun i hi => mapM_some_get h i i (by simp [hi])⟩
 ·cases h
theorem cell_spot {a : Addr} {u : Value} (h : w.cell? a = some u) : a.spot = none:=by
 unfold World.cell? at h
 split at h
 ·split at h
  ·cases h
  ·simpa using ‹¬ a.spot.isSome = true›
 ·cases h
theorem addr_eq {a : Addr} {i : Nat} (ha : a.spot = none) : a.add i = ⟨a.block,a.off + i,none⟩:=by
 cases a
 simp at ha
 subst ha
 simp [Addr.add]
theorem elems_at {R : List V→Prop} {a : Addr} {n len : Nat} (h : ∀ i,i < len→∃ (cs : List Value) (vs : List V),w.cells? 0 (a.add (i * n)) n = some cs∧vs.length = n∧Sl w (fun _ => False) Wi vs cs∧R vs) :
  ∀ k,k≤len→∃ es : List (List V),es.length = k∧(∀ x ∈ es,x.length = n)∧(∀ x ∈ es,R x)∧∀ (i : Nat) (v : V),es.flatten[i]? = some v→∃ u,w.cell? ⟨a.block,a.off + i,none⟩ = some u∧a.spot = none∧S w (fun _ => False) Wi v u:=by
 intro k
 induction k with
 | zero => intro _; exact ⟨[],by simp⟩
 | succ k ih =>
  intro hk
  obtain ⟨es,h1,h2,h3,h4⟩:=ih (by omega)
  obtain ⟨cs,vs,b1,b2,b3,b4⟩:=h k (by omega)
  obtain ⟨c1,c2⟩:=cells_get b1
  refine ⟨es ++ [vs],by simp [h1],?_,?_,?_⟩
  ·intro x hx; simp at hx; rcases hx with hx | rfl
   ·exact h2 x hx
   ·exact b2
  ·intro x hx; simp at hx; rcases hx with hx | rfl
   ·exact h3 x hx
   ·exact b4
  ·intro i v hi
   simp only [List.flatten_append,List.flatten_cons,List.flatten_nil,List.append_nil] at hi
   have hfl : es.flatten.length = k * n:=by rw [Xv h2,h1]
   by_cases hlt : i < k * n
   ·rw [List.getElem?_append_left (by omega)] at hi
    exact h4 i v hi
   ·rw [List.getElem?_append_right (by omega),hfl] at hi
    obtain ⟨u,d1,d2⟩:=b3.get hi
    have hin : i - k * n < n:=by
     have:=(List.getElem?_eq_some_iff.1 hi).1
     omega
    have d3:=c2 (i - k * n) hin
    rw [d1] at d3
    have hs : a.spot = none:=by
     have h0:=cell_spot d3
     by_cases hz : i = 0
     ·have : k * n = 0:=by omega
      rw [this] at h0
      simpa [hz,Addr.add] using h0
     ·have hc0:=c2 0 (by omega)
      have : (cs[0]?).isSome:=by simp [c1]; omega
      cases hcs : cs[0]? with
      | none => simp [hcs] at this
      | some u0 =>
       rw [hcs] at hc0
       by_cases hkn : k * n = 0
       ·have:=cell_spot hc0
        rw [hkn] at this
        simpa [Addr.add] using this
       ·-- an earlier element tells
        have hk0 : 0 < k:=Nat.pos_of_ne_zero fun h => hkn (by simp [h])
        have hn0 : 0 < n:=Nat.pos_of_ne_zero fun h => hkn (by simp [h])
        have hlen0 : 0 < es.flatten.length:=by rw [hfl]; exact Nat.mul_pos hk0 hn0
        obtain ⟨_,_,hsp,_⟩:=h4 0 es.flatten[0] (by simp [hlen0])
        exact hsp
    refine ⟨u,?_,hs,d2⟩
    rw [← d3]
    congr 1
    rw [addr_eq hs,addr_eq rfl]
    congr 1
    simp only
    omega
theorem shF_sound {H : Type} {d : Nat} {tr : TypeId→List Value→Option (DataW H × List MemPlace)} (ih : ∀ (t : TypeId) (cs : List Value) (x : DataW H × List MemPlace) (sh : Sh),tr t cs = some x→shp P d t = some sh→∃ vs,vs.length = cs.length∧Sl w (fun _ => False) Wi vs cs∧Ok sh vs) :
  ∀ (fs : List Field) (off : Nat) (cs : List Value) (r : Sh × Nat),shF P (shp P d) off fs = some r→(∀ f ∈ fs,∃ x,tr f.type ((cs.drop f.offset).take (P.cellsOf f.type)) = some x)→cs.length = r.2 →
   off≤r.2∧∃ vs,vs.length = (cs.drop off).length∧Sl w (fun _ => False) Wi vs (cs.drop off)∧Ok r.1 vs
 | [],off,cs,r,h,_,hl => by
  simp [shF] at h
  subst h
  have : cs.drop off = []:=List.drop_eq_nil_of_le (by simp at hl; omega)
  exact ⟨Nat.le_refl _,[],by simp [this],by rw [this]; exact .nil,(rfl : ([] : List V) = [])⟩
 | f :: fs,off,cs,r,h,hf,hl => by
  simp only [shF] at h
  split at h
  ·rename_i hoff
   cases hs : shp P d f.type with
   | none => simp [hs] at h
   | some s =>
    cases hr : shF P (shp P d) (off + P.cellsOf f.type) fs with
    | none => simp [hs,hr] at h
    | some r' =>
     simp [hs,hr] at h
     subst h
     obtain ⟨hle,vs,a1,a2,a3⟩:=shF_sound ih fs _ cs r' hr (fun g hg => hf g (by simp [hg])) hl
     obtain ⟨x,hx⟩:=hf f (by simp)
     obtain ⟨us,b1,b2,b3⟩:=ih _ _ _ _ hx hs
     rw [hoff] at hx b1 b2
     have hcat : cs.drop off = (cs.drop off).take (P.cellsOf f.type) ++ cs.drop (off + P.cellsOf f.type):=by
      rw [← List.drop_drop]
      exact (List.take_append_drop _ _).symm
     refine ⟨by simp only; omega,us ++ vs,?_,?_,us,vs,rfl,b3,a3⟩
     ·rw [hcat,List.length_append,List.length_append,b1,a1]
     ·rw [hcat]; exact b2.append a2
  ·cases h
theorem rep_sound {H : Type} {m : Nat} {tr : List Value→Option (DataW H × List MemPlace)} {sh : Sh} (ih : ∀ (cs : List Value) (x : DataW H × List MemPlace),tr cs = some x→∃ vs,vs.length = cs.length∧Sl w (fun _ => False) Wi vs cs∧Ok sh vs) :
  ∀ (c : Nat) (cs : List Value),cs.length = c * m→(∀ i,i < c→∃ x,tr ((cs.drop (i * m)).take m) = some x)→∃ xs : List (List V),xs.flatten.length = cs.length∧xs.length = c∧Sl w (fun _ => False) Wi xs.flatten cs∧∀ x ∈ xs,Ok sh x
 | 0,cs,hl,_ => by
  have : cs = []:=List.eq_nil_of_length_eq_zero (by omega)
  subst this
  exact ⟨[],by simp,rfl,.nil,by simp⟩
 | c + 1,cs,hl,h => by
  rw [Nat.add_mul] at hl
  obtain ⟨xs,a1,a2,a3,a4⟩:=rep_sound (m:=m) ih c (cs.drop m) (by simp; omega) fun i hi => by
   obtain ⟨x,hx⟩:=h (i + 1) (by omega)
   exact ⟨x,by rw [List.drop_drop,← hx,Nat.add_mul]; congr 3; omega⟩
  obtain ⟨x,hx⟩:=h 0 (by omega)
  simp at hx
  obtain ⟨vs,b1,b2,b3⟩:=ih _ _ hx
  refine ⟨vs :: xs,?_,by simp [a2],?_,?_⟩
  ·simp [b1] at a1 ⊢; omega
  ·rw [List.flatten_cons]
   have:=b2.append a3
   rwa [List.take_append_drop] at this
  ·intro y hy; simp at hy; rcases hy with rfl | hy
   ·exact b3
   ·exact a4 y hy
theorem trod_S {H : Type} {enc : TypeId × Value→H} {spare : Nat→Bool} {held : Bool} : ∀ (fuel : Nat) (d : Nat) (t : TypeId) (cs : List Value) (x : DataW H × List MemPlace) (sh : Sh),DataW.trod enc P w 0 spare held fuel t cs = some x→shp P d t = some sh →
  ∃ vs,vs.length = cs.length∧Sl w (fun _ => False) Wi vs cs∧Ok sh vs
 | 0,_,_,_,_,_,h,_ => by simp [DataW.trod] at h
 | fuel + 1,0,_,_,_,_,_,h => by simp [shp] at h
 | fuel + 1,d + 1,t,cs,x,sh,h,hsh => by
  have ih:=fun (d : Nat) (t : TypeId) (cs : List Value) (x : DataW H × List MemPlace) (sh : Sh) => trod_S (enc:=enc) (spare:=spare) (held:=held) fuel d t cs x sh
  unfold shp at hsh
  split at hsh
  ·rename_i ht
   cases hsh
   obtain ⟨b,rfl,_⟩:=DataW.trod_bool ht h
   exact ⟨[.b b],rfl,.cons .b .nil,b,rfl⟩
  ·rename_i k ht
   cases hsh
   obtain ⟨b,rfl,_,hw⟩:=DataW.trod_int ht h
   exact ⟨[.i k b],rfl,.cons .i .nil,b,rfl,hw⟩
  ·rename_i k ht
   cases hsh
   obtain ⟨b,rfl,hw⟩ : ∃ b,cs = [.float k b]∧(Lit.float k b).wf = true:=by
    unfold DataW.trod at h
    rw [ht] at h
    split at h <;> simp_all
   exact ⟨[.f k (some b)],rfl,.cons .f .nil,b,rfl,hw⟩
  ·rename_i ht
   cases hsh
   obtain ⟨s,rfl,_,hs⟩:=DataW.trod_string ht h
   exact ⟨[.str s],rfl,.cons .str .nil,s,rfl,hs⟩
  ·rename_i e ht
   split at hsh
   ·cases hsh
   rename_i hne
   cases hse : shp P d e with
   | none => simp [hse] at hsh
   | some se =>
    simp [hse] at hsh
    subst hsh
    rcases DataW.trod_slice ht h with ⟨rfl,_⟩ | ⟨a,len,cap,elems,rest,n,hfu,rfl,rfl,hb,hl,hm,hlen,hel,_,_⟩
    ·exact ⟨[.sl (P.cellsOf e) []],rfl,.cons .slnil .nil,[],rfl,Nat.zero_le _,by simp,by simp⟩
    ·obtain rfl : fuel = n:=by omega
     obtain ⟨es,h1,h2,h3,h4⟩:=elems_at (w:=w) (R:=Ok se) (a:=a) (n:=P.cellsOf e) (len:=len) (fun i hi => by
      have:=hel i hi
      obtain ⟨y,hy⟩ : ∃ y,elems[i]? = some y:=⟨elems[i]'(by omega),by simp [show i < elems.length by omega]⟩
      rw [hy,Option.bind_eq_some_iff] at this
      obtain ⟨cs',c1,c2⟩:=this
      obtain ⟨vs,v1,v2,v3⟩:=ih d e cs' y se c2 hse
      exact ⟨cs',vs,c1,by rw [v1]; exact (cells_get c1).1,v2,v3⟩) len (Nat.le_refl _)
     refine ⟨[.sl (P.cellsOf e) es],rfl,.cons ?_ .nil,es,rfl,by omega,h2,h3⟩
     by_cases hz : es.flatten = []
     ·by_cases hes : es = []
      ·subst hes
       simp at h1
       subst h1
       exact .sl0
      ·-- elements without cells
       exfalso
       cases es with
       | nil => exact hes rfl
       | cons y ys =>
        simp at hz
        have:=h2 y (by simp)
        simp [hz.1] at this
        exact hne this.symm
     ·have hpos : 0 < es.flatten.length:=Nat.pos_of_ne_zero fun h => hz (List.eq_nil_of_length_eq_zero h)
      obtain ⟨_,_,hsp,_⟩:=h4 0 es.flatten[0] (by simp [hpos])
      obtain ⟨ab,ao,as⟩:=a
      simp at hsp
      subst hsp
      exact .sl h2 h1 hl (Ss.of_get (fun _ => id) fun i v hi => by
       obtain ⟨u,a1,_,a3⟩:=h4 i v hi
       exact ⟨u,a1,a3⟩)
  ·rename_i c e ht
   split at hsh
   ·rename_i hce
    cases hse : shp P d e with
    | none => simp [hse] at hsh
    | some se =>
     simp [hse] at hsh
     subst hsh
     have hh : cs.length = P.cellsOf t∧∃ xs : List (DataW H × List MemPlace),(List.range c).mapM (fun i => DataW.trod enc P w 0 spare held fuel e ((cs.drop (i * P.cellsOf e)).take (P.cellsOf e))) = some xs:=by
      unfold DataW.trod at h
      rw [ht] at h
      split at h <;> simp_all
      obtain ⟨_,b,c,_⟩:=h
      exact ⟨b,c⟩
     obtain ⟨hl,xs,hxs⟩:=hh
     obtain ⟨ys,a1,a2,a3,a4⟩:=rep_sound (w:=w) (m:=P.cellsOf e) (tr:=DataW.trod enc P w 0 spare held fuel e) (sh:=se) (fun cs' x hx => ih d e cs' x se hx hse) c cs (by omega) fun i hi => by
      have:=mapM_some_get hxs i i (by simp [hi])
      have hl':=mapM_some_length hxs
      simp at hl'
      exact ⟨xs[i]'(by omega),by rw [this]; simp [show i < xs.length by omega]⟩
     exact ⟨ys.flatten,a1,a3,ys,rfl,a2,a4⟩
   ·cases hsh
  ·rename_i fs ht
   cases hsf : shF P (shp P d) 0 fs.toList with
   | none => simp [hsf] at hsh
   | some r =>
    simp only [hsf,Option.bind_some] at hsh
    split at hsh
    ·rename_i hr2
     cases hsh
     obtain ⟨xs,n,hfu,rfl,hl,hxl,hf⟩:=DataW.trod_struct ht h
     obtain rfl : fuel = n:=by omega
     obtain ⟨_,vs,a1,a2,a3⟩:=shF_sound (P:=P) (w:=w) (d:=d) (tr:=DataW.trod enc P w 0 spare held fuel) (fun t cs x sh h1 h2 => ih d t cs x sh h1 h2) fs.toList 0 cs r hsf (fun f hfm => by
      obtain ⟨i,hi⟩:=List.getElem?_of_mem hfm
      have:=hf i f (by simpa using hi)
      have hlt : i < fs.size:=by have:=(List.getElem?_eq_some_iff.1 hi).1; simpa using this
      exact ⟨xs[i]'(by omega),by rw [this]; simp [show i < xs.length by omega]⟩) (by rw [hl,hr2])
     simp at a1 a2
     exact ⟨vs,a1,a2,a3⟩
    ·cases hsh
  ·cases hsh
end
end Go.VL

namespace Go.VL
open Go.RowKit
set_option linter.unusedSimpArgs false
set_option linter.unusedVariables false
def Wo (b : Nat) (v : V) : Bool :=
 match v with
 | .ref b' _ _ | .refc b' _ _ _ _ | .ptr b' _ _ => decide (b' ≠ b)
 | .agg _ | .tup _ => false
 | _ => true
def noBA (b : Nat) (v : V) : Bool :=
 match v with
 | .agg cs => cs.all (Wo b)
 | v => Wo b v
def noBT (b : Nat) (v : V) : Bool :=
 match v with
 | .tup cs => cs.all (noBA b)
 | v => noBA b v
def noBE (b : Nat) (es : List (List V)) : Bool:=es.all fun l => l.all (Wo b)
def cellE (es : List (List V)) : Bool:=es.all fun l => l.all Wn
def cellO (v : V) : Bool:=match v with
 | .own _ _ => true
 | v => Wn v
def cellOE (es : List (List V)) : Bool:=es.all fun l => l.all cellO
def noBM (b : Nat) (m : VM) : Bool:=m.all fun x => match x with
 | some (_,es) => es.all fun l => l.all (Wo b)
 | none => true
def Uf (b : Nat) (v : V) : V:=if noBT b v = true then v else .any
section
variable {w w' : World} {O O' : Nat→Prop} {φ φ' : Pl} {b : Nat}
theorem noBV_S (hkeep : ∀ k,k < w.heap.size→¬ O k→w'.heap[k]? = w.heap[k]?∧¬ O' k) (hφ : ∀ b' p,b' ≠ b→φ b' = some p→φ' b' = some p) (hroom : ∀ k n,Room w k n→Room w' k n) {v : V} {u : Value} (hb : Wo b v = true) (h : S w O φ v u) : S w' O' φ' v u:=by
 have hev : Ev w O Wi w' O' Wi:=⟨hkeep,fun _ _ h => h,hroom⟩
 cases h <;> simp only [Wo,decide_eq_true_eq] at hb
 case i => exact .i
 case b => exact .b
 case f => exact .f
 case nan h => exact .nan h
 case str => exact .str
 case s h => exact .s h
 case nil => exact .nil
 case sl hn hl hc h => exact .sl hn hl hc (h.ev hev)
 case sl0 => exact .sl0
 case slnil => exact .slnil
 case ref => exact .ref (hφ _ _ hb ‹_›) ‹_› (hroom _ _ ‹_›)
 case ref0 => exact .ref0
 case refnil => exact .refnil
 case refc => exact .refc (hφ _ _ hb ‹_›) ‹_›
 case refc0 => exact .refc0
 case ptr => exact .ptr (hφ _ _ hb ‹_›)
 case cptr h => exact .cptr (h.ev hev)
 case own h => exact .own (h.ev hev)
 case err => exact .err
 case any => exact .any
 all_goals cases hb
theorem noBV_Sl (hkeep : ∀ k,k < w.heap.size→¬ O k→w'.heap[k]? = w.heap[k]?∧¬ O' k) (hφ : ∀ b' p,b' ≠ b→φ b' = some p→φ' b' = some p) (hroom : ∀ k n,Room w k n→Room w' k n) : ∀ {vs : List V} {us : List Value},vs.all (Wo b) = true→Sl w O φ vs us→Sl w' O' φ' vs us
 | _,_,_,.nil => .nil
 | _,_,hb,.cons h hs => by
  simp only [List.all_cons,Bool.and_eq_true] at hb
  exact .cons (noBV_S hkeep hφ hroom hb.1 h) (noBV_Sl hkeep hφ hroom hb.2 hs)
theorem noBA_S (hkeep : ∀ k,k < w.heap.size→¬ O k→w'.heap[k]? = w.heap[k]?∧¬ O' k) (hφ : ∀ b' p,b' ≠ b→φ b' = some p→φ' b' = some p) (hroom : ∀ k n,Room w k n→Room w' k n) {v : V} {u : Value} (hb : noBA b v = true) (h : S w O φ v u) : S w' O' φ' v u:=by
 unfold noBA at hb
 split at hb
 ·cases h with
  | agg h => exact .agg (noBV_Sl hkeep hφ hroom hb h)
 ·exact noBV_S hkeep hφ hroom hb h
theorem noBA_Sl (hkeep : ∀ k,k < w.heap.size→¬ O k→w'.heap[k]? = w.heap[k]?∧¬ O' k) (hφ : ∀ b' p,b' ≠ b→φ b' = some p→φ' b' = some p) (hroom : ∀ k n,Room w k n→Room w' k n) : ∀ {vs : List V} {us : List Value},vs.all (noBA b) = true→Sl w O φ vs us→Sl w' O' φ' vs us
 | _,_,_,.nil => .nil
 | _,_,hb,.cons h hs => by
  simp only [List.all_cons,Bool.and_eq_true] at hb
  exact .cons (noBA_S hkeep hφ hroom hb.1 h) (noBA_Sl hkeep hφ hroom hb.2 hs)
theorem kill_S (hkeep : ∀ k,k < w.heap.size→¬ O k→w'.heap[k]? = w.heap[k]?∧¬ O' k) (hφ : ∀ b' p,b' ≠ b→φ b' = some p→φ' b' = some p) (hroom : ∀ k n,Room w k n→Room w' k n) {v : V} {u : Value} (h : S w O φ v u) : S w' O' φ' (Uf b v) u:=by
 unfold Uf
 split
 ·rename_i hb
  unfold noBT at hb
  split at hb
  ·cases h with
   | tup h => exact .tup (noBA_Sl hkeep hφ hroom hb h)
  ·exact noBA_S hkeep hφ hroom hb h
 ·exact .any
theorem kill_Sl (hkeep : ∀ k,k < w.heap.size→¬ O k→w'.heap[k]? = w.heap[k]?∧¬ O' k) (hφ : ∀ b' p,b' ≠ b→φ b' = some p→φ' b' = some p) (hroom : ∀ k n,Room w k n→Room w' k n) : ∀ {vs : List V} {us : List Value},Sl w O φ vs us→Sl w' O' φ' (vs.map (Uf b)) us
 | _,_,.nil => .nil
 | _,_,.cons h hs => .cons (kill_S hkeep hφ hroom h) (kill_Sl hkeep hφ hroom hs)
end
theorem Mem.moved {N : Fr} {w w' : World} {φ : Pl} {m : VM} (h : Mem N w φ m) (hN : N.bd w) {b n : Nat} {es es' : List (List V)} (hb : m[b]? = some (some (n,es))) (hold : ∀ k,k < w.heap.size→w'.heap[k]? = w.heap[k]?) {q : Nat} {c : Array Value} {t : TypeId}
  (hq : w.heap.size≤q) (hnew : w'.heap[q]? = some (.cells c t (0,0))) (hn : ∀ e ∈ es',e.length = n) (hfit : es'.length * n≤c.size) (hcell : ∀ (i : Nat) (v : V),es'.flatten[i]? = some v→∃ u,c[i]? = some u∧u.oneCell' = true∧S w (Yf φ m) φ v u)
  (hnb : noBM b m = true) (hnb' : (es'.all fun l => l.all (Wo b)) = true) (hno : ∀ (i n' : Nat) (e' : List (List V)),es'.flatten[i]? = some (.own n' e')→∃ pb po bn u,φ b = some (pb,po,bn)∧es.flatten[i]? = some (.own n' e')∧w.cell? ⟨pb,po + i,none⟩ = some u∧c[i]? = some u) :
  Mem N w' (ext φ b (q,0,n)) (m.set b (some (n,es')))∧(∀ k,k < w.heap.size→¬ Yf φ m k→w'.heap[k]? = w.heap[k]?∧¬ Yf (ext φ b (q,0,n)) (m.set b (some (n,es'))) k)∧(∀ b' p,b' ≠ b→φ b' = some p→ext φ b (q,0,n) b' = some p)∧(∀ k n,Room w k n→Room w' k n):=by
 have hblt : b < m.length:=(List.getElem?_eq_some_iff.1 hb).1
 have hqlt : q < w'.heap.size:=(Array.getElem?_eq_some_iff.1 hnew).1
 have hφ : ∀ b' p,b' ≠ b→φ b' = some p→ext φ b (q,0,n) b' = some p:=fun b' p hne hp => by simp [ext,hne,hp]
 have hroom : ∀ k n,Room w k n→Room w' k n:=fun k n hr => by
  have hk:=hr.lt
  obtain ⟨c,e,fr,h1,h2⟩:=hr
  exact ⟨c,e,fr,by rw [hold k hk]; exact h1,h2⟩
 have hkeep : ∀ k,k < w.heap.size→¬ Yf φ m k→w'.heap[k]? = w.heap[k]?∧¬ Yf (ext φ b (q,0,n)) (m.set b (some (n,es'))) k:=fun k hk hl => by
  refine ⟨hold k hk,fun ⟨b',x,po,n',h1,h2⟩ => ?_⟩
  by_cases hbb : b' = b
  ·subst hbb
   simp only [ext,if_true,Option.some.injEq,Prod.mk.injEq] at h2
   omega
  ·simp only [ext,hbb,if_false] at h2
   rw [List.getElem?_set_ne (Ne.symm hbb)] at h1
   exact hl ⟨b',x,po,n',h1,h2⟩
 refine ⟨⟨fun b' n' es'' p h1 h2 => ?_,fun b' k po n' h1 => ?_,fun b' p h1 => ?_,fun b1 b2 k po po' n1 n2 h1 h2 => ?_,?_⟩,hkeep,hφ,hroom⟩
 ·by_cases hbb : b' = b
  ·subst hbb
   rw [List.getElem?_set_self hblt] at h1
   cases h1
   refine ⟨hn,q,0,c,t,by simp [ext],hnew,by omega,fun i v hi => ?_⟩
   obtain ⟨u,a1,a2,a3⟩:=hcell i v hi
   refine ⟨u,by rw [Nat.zero_add]; exact a1,a2,noBV_S hkeep hφ hroom ?_ a3⟩
   obtain ⟨l,l1,l2⟩:=List.mem_flatten.1 (List.mem_of_getElem? hi)
   exact List.all_eq_true.1 (List.all_eq_true.1 hnb' l l1) v l2
  ·rw [List.getElem?_set_ne (Ne.symm hbb)] at h1
   simp only [ext,hbb,if_false] at h2
   obtain ⟨c1,pb,po,c',e,c2,c3,c4,c5⟩:=h.at_ b' n' es'' p h1 h2
   have hpb : pb < w.heap.size:=(h.new b' pb po n' c2).2
   refine ⟨c1,pb,po,c',e,hφ b' _ hbb c2,by rw [hold pb hpb]; exact c3,c4,fun i v hi => ?_⟩
   obtain ⟨u,a1,a2,a3⟩:=c5 i v hi
   refine ⟨u,a1,a2,noBV_S hkeep hφ hroom ?_ a3⟩
   unfold noBM at hnb
   have h5:=List.all_eq_true.1 hnb _ (List.mem_of_getElem? h1)
   simp only at h5
   obtain ⟨l,l1,l2⟩:=List.mem_flatten.1 (List.mem_of_getElem? hi)
   exact List.all_eq_true.1 (List.all_eq_true.1 h5 l l1) v l2
 ·by_cases hbb : b' = b
  ·subst hbb
   simp only [ext,if_true,Option.some.injEq,Prod.mk.injEq] at h1
   exact ⟨fun hk => by have:=hN _ hk; omega,by omega⟩
  ·simp only [ext,hbb,if_false] at h1
   have h2:=h.new b' k po n' h1
   have h3 : w.heap.size≤w'.heap.size:=by omega
   exact ⟨h2.1,by omega⟩
 ·by_cases hbb : b' = b
  ·subst hbb; simpa using hblt
  ·simp only [ext,hbb,if_false] at h1
   simpa using h.dom b' p h1
 ·by_cases hb1 : b1 = b
  ·by_cases hb2 : b2 = b
   ·rw [hb1,hb2]
   ·subst hb1
    simp only [ext,if_true,Option.some.injEq,Prod.mk.injEq,hb2,if_false] at h1 h2
    have:=h.new b2 k po' n2 h2
    omega
  ·by_cases hb2 : b2 = b
   ·subst hb2
    simp only [ext,if_true,Option.some.injEq,Prod.mk.injEq,hb1,if_false] at h1 h2
    have:=h.new b1 k po n1 h1
    omega
   ·simp only [ext,hb1,hb2,if_false] at h1 h2
    exact h.inj b1 b2 k po po' n1 n2 h1 h2
 ·obtain ⟨ψ,hψ⟩:=h.own
  refine ⟨ψ,hψ.keep (by omega) (fun k hk ho => hkeep k hk ho) fun b' n1 es1 pb po bn i n' e' h1 h2 h3 => ?_⟩
  by_cases hbb : b' = b
  ·subst hbb
   rw [List.getElem?_set_self hblt] at h1
   cases h1
   simp only [ext,if_true,Option.some.injEq,Prod.mk.injEq] at h2
   obtain ⟨rfl,rfl,rfl⟩:=h2
   obtain ⟨pb0,po0,bn0,u0,g1,g2,g3,g4⟩:=hno i n' e' h3
   refine ⟨n,es,pb0,po0,bn0,hb,g1,g2,fun u hu => ?_⟩
   rw [g3] at hu
   cases hu
   rw [Nat.zero_add]
   exact Kk hnew g4
  ·rw [List.getElem?_set_ne (Ne.symm hbb)] at h1
   simp only [ext,hbb,if_false] at h2
   exact ⟨n1,es1,pb,po,bn,h1,h2,h3,fun u hu => by rw [cell?_same (hold pb (h.new b' pb po bn h2).2)]; exact hu⟩
def vcont (m : VM) (n : Nat) (v : V) : Option (List (List V)) :=
 match v with
 | .sl n' es => if n' = n then some es else none
 | .nil => some []
 | .ref b e len => match m[b]? with
  | some (some (n',es)) => if n' = n∧e + len≤es.length then some ((es.drop e).take len) else none
  | _ => none
 | _ => none
theorem vcont_sound {N : Fr} {w : World} {φ : Pl} {m : VM} {n : Nat} {y : V} {ys : List (List V)} {u : Value} (hm : Mem N w φ m) (h : vcont m n y = some ys) (hy : S w (Yf φ m) φ y u) :
  (u = .slice none 0 0∧ys = [])∨∃ a c us,u = .slice (some a) ys.length c∧(∀ e ∈ ys,e.length = n)∧Sl w (Yf φ m) φ ys.flatten us∧∀ (j : Nat) (x : Value),us[j]? = some x→w.cell? (a.add j) = some x:=by
 unfold vcont at h
 split at h
 ·split at h
  ·rename_i hn
   subst hn
   cases h
   cases hy with
   | sl hn hl hc hs =>
    obtain ⟨us,a1,a2,a3⟩:=hs.cells
    refine .inr ⟨_,_,us,by rw [hl],hn,?_,fun j x hx => by rw [addr_eq rfl]; exact a3 j x hx⟩
    exact Sl.of_get a2.length fun i v u h1 h2 => by
     obtain ⟨u',b1,b2⟩:=a2.get h1
     rw [h2] at b1
     cases b1
     exact b2.lax
   | sl0 => exact .inr ⟨_,_,[],rfl,by simp,.nil,by simp⟩
   | slnil => exact .inl ⟨rfl,rfl⟩
  ·cases h
 ·cases h
  cases hy
  exact .inl ⟨rfl,rfl⟩
 ·rename_i b e len
  split at h
  ·rename_i n' es hb
   split at h
   ·rename_i hc
    obtain ⟨rfl,hle⟩:=hc
    cases h
    have hlen : ((es.drop e).take len).length = len:=by simp; omega
    cases hy with
    | ref hφ hc hr =>
     obtain ⟨hn,pb,po,c,ty,hφ',hp,hfit,hcell⟩:=hm.at_ b _ es _ hb hφ
     rw [hφ] at hφ'
     simp at hφ'
     obtain ⟨rfl,rfl,rfl⟩:=hφ'
     have hcell' : ∀ (i : Nat) (v : V),es.flatten[i]? = some v→∃ u,w.cell? ⟨_,_ + i,none⟩ = some u∧S w (Yf φ m) φ v u:=fun i v hi => by
      obtain ⟨u,a1,_,a3⟩:=hcell i v hi
      exact ⟨u,Kk hp a1,a3⟩
     have hfc:=flat_cells hn hcell' e len
     obtain ⟨us,a1,a2,a3⟩:=exists_row (Q:=fun j u => w.cell? ⟨_,_ + j,none⟩ = some u) (w:=w) (O:=Yf φ m) (φ:=φ) ((es.drop e).take len).flatten 0 (fun i v hi => by
      obtain ⟨u,b1,b2⟩:=hfc i v hi
      exact ⟨u,by rw [Nat.zero_add]; exact b1,b2⟩)
     exact .inr ⟨_,_,us,by rw [hlen],fun x hx => hn x (List.mem_of_mem_drop (List.mem_of_mem_take hx)),a2,fun j x hx => by
      rw [addr_eq rfl]
      have:=a3 j x hx
      rwa [Nat.zero_add] at this⟩
    | ref0 =>
     rename_i pb off
     exact .inr ⟨⟨pb,off,none⟩,0,[],by simp,by simp,by simp; exact .nil,by simp⟩
    | refnil => exact .inl ⟨rfl,by simp⟩
   ·cases h
  ·cases h
 ·cases h
theorem run_append_empty {P : Program} {w : World} {t ty e : TypeId} {i : TypeInfo} (ht : P.underlying t = some (.slice e)) (hi : P.info? e = some i) {base : Option Addr} {len cap : Nat} (hc : len≤cap) {y : Value} (hy : y = .slice none 0 0∨∃ a c,y = .slice (some a) 0 c) :
  (Builtin.append_ #[t,t] ty #[.slice base len cap,y]).run P w = .ok (.slice base len cap) w:=by
 have hf : ∀ a c,(Builtin.firstCells i.size 0 (.slice (some a) 0 c)).run P w = .ok #[] w:=fun a c => run_firstCells_some (P:=P) w i.size 0 a 0 c [] (by simp) (by simp)
 rcases hy with rfl | ⟨a,c,rfl⟩
 ·cases base <;> simp [Builtin.append_,run_underlying ht,sizeOf,typeInfo,hi,Builtin.lenOf,hc,run_firstCells_none,storeCells]
 ·cases base <;> simp [Builtin.append_,run_underlying ht,sizeOf,typeInfo,hi,Builtin.lenOf,hc,hf,storeCells]
theorem run_append_row {P : Program} {w : World} {t ty e : TypeId} {i : TypeInfo} (ht : P.underlying t = some (.slice e)) (hi : P.info? e = some i) {pb po sLen sCap : Nat} {cur : Array Value} {te : TypeId} (hg : w.heap[pb]? = some (.cells cur te (0,0)))
  {a : Addr} {m c : Nat} {news : List Value} (hl : news.length = m * i.size) (hnews : ∀ j u,news[j]? = some u→w.cell? (a.add j) = some u) (h1 : ∀ u ∈ news,u.oneCell' = true) (hroom : sLen + m≤sCap) (hfit : po + sLen * i.size + news.length≤cur.size) :
  (Builtin.append_ #[t,t] ty #[.slice (some ⟨pb,po,none⟩) sLen sCap,.slice (some a) m c]).run P w =
   .ok (.slice (some ⟨pb,po,none⟩) (sLen + m) sCap) (w.setRow pb (cur.toList.take (po + sLen * i.size) ++ news ++ cur.toList.drop (po + sLen * i.size + news.length)).toArray):=by
 have hf:=run_firstCells_some (P:=P) w i.size m a m c news hl hnews
 have hst:=run_storeCells_at P pb (po + sLen * i.size) te news 0 cur w hg (by simpa using hfit) h1
 simp only [Nat.add_zero] at hst
 simp [Builtin.append_,run_underlying ht,sizeOf,typeInfo,hi,Builtin.lenOf,hroom,hf,Addr.add_lit,hst]
def vapp (P : Program) (st : VS) (dst : Option Tmp) (t : TypeId) (s y : V) : Option VS :=
 match tk P t,s with
 | .slice e,.ref b 0 len => match st.m[b]?,vcont st.m (P.cellsOf e) y,Yo P e with
  | some (some (n,es)),some ys,some z =>
   if n = P.cellsOf e∧n ≠ 0∧z.length = n∧es.length = len∧(len + ys.length) * P.bytesOf e≤140737488355328∧len + ys.length≤9223372036854775807∧cellE ys = true∧noBE b ys = true∧noBM b st.m = true∧cellOE es = true then
    some { t:=Xh (st.t.map (Uf b)) dst (.ref b 0 (len + ys.length)),m:=st.m.set b (some (n,es ++ ys)),g:=st.g.map (Uf b) }
   else none
  | _,_,_ => none
 | _,_ => none
theorem zeroV_info {P : Program} {e : TypeId} {zl : List Value} (h : Yo P e = some zl) : ∃ i z,P.info? e = some i∧i.zero = some z∧z.cells.toList = zl∧P.cellsOf e = i.size∧P.bytesOf e = i.bytes:=by
 unfold Yo at h
 cases hi : P.info? e with
 | none => simp [hi] at h
 | some i =>
  cases hz : i.zero with
  | none => simp [hi,hz] at h
  | some z =>
   simp [hi,hz] at h
   exact ⟨i,z,rfl,hz,h,by simp [Program.cellsOf,hi],by simp [Program.bytesOf,hi]⟩
theorem vapp_sound {P : Program} {N : Fr} {w0 : World × List Value} {st st' : VS} {o : Oper} {s y : Operand} {t : TypeId} {a : Act} {w : World} {φ : Pl} {K : Act→World→Prop} {Q : Exit→Act→World→Prop}
  (ho : o.op = .call { callee:=.builtin .append,args:=#[s,y],argTypes:=#[t,t] }) (h : vapp P st o.dst t (ev st.t s) (ev st.t y) = some st') (hs : SR P N w0 st a w φ) (hK : ∀ a' w' φ',SR P N w0 st' a' w' φ'→K a' w') : o.wp P a w K Q:=by
 have hsv:=hs.eval s
 have hyv:=hs.eval y
 unfold vapp at h
 split at h
 rotate_left
 ·cases h
 rename_i e b len hT hsE
 split at h
 rotate_left
 ·cases h
 rename_i n es ys zl hb hyc hz
 split at h
 rotate_left
 ·cases h
 rename_i hc
 obtain ⟨hn,hn0,hzl,hlen,hbytes,h63,hcv,hnb,hnm,hce⟩:=hc
 have hynown : ∀ (i n' : Nat) (e' : List (List V)),ys.flatten[i]? ≠ some (.own n' e'):=cell_noOwn (List.all_eq_true.2 fun v hv => by
  obtain ⟨l,l1,l2⟩:=List.mem_flatten.1 hv
  exact List.all_eq_true.1 (List.all_eq_true.1 hcv l l1) v l2)
 have hnown : ∀ (i n' : Nat) (e' : List (List V)),(es ++ ys).flatten[i]? = some (.own n' e')→i < es.flatten.length∧es.flatten[i]? = some (.own n' e'):=fun i n' e' hi => by
  rw [List.flatten_append] at hi
  by_cases hlt : i < es.flatten.length
  ·rw [List.getElem?_append_left hlt] at hi
   exact ⟨hlt,hi⟩
  ·rw [List.getElem?_append_right (by omega)] at hi
   exact absurd hi (hynown _ _ _)
 cases h
 unfold cellE at hcv
 unfold noBE at hnb
 have ht:=Wh hT
 obtain ⟨i,z,hi,hzz,hzc,hsize,hby⟩:=zeroV_info hz
 rw [hsE] at hsv
 have hys:=vcont_sound hs.mem hyc hyv
 have hblt : b < st.m.length:=(List.getElem?_eq_some_iff.1 hb).1
 have hrun : ∀ (r : Result Value),(Builtin.append_ #[t,t] o.type #[a.eval s,a.eval y]).run P w = r→(execOp a.eval o).run P w = r.andThen fun v w' => .ok (.value v) w':=fun r hr => by
  simp [execOp,ho,resolve,invoke,builtin,hr]
 have hfl : ∀ x ∈ es ++ ys,True:=fun _ _ => trivial
 have grow : ∀ (v' : Value) (w' : World),(∀ x ∈ es,x.length = n)→(∀ x ∈ ys,x.length = n)→∀ (g cap : Nat) (cur : Array Value),v' = .slice (some ⟨g,0,none⟩) (len + ys.length) cap→w.heap.size≤g→w'.heap[g]? = some (.cells cur e (0,0))→len + ys.length≤cap→cur.size = cap * n →
   (∀ (i : Nat) (v : V),(es ++ ys).flatten[i]? = some v→∃ u,cur[i]? = some u∧u.oneCell' = true∧S w (Yf φ st.m) φ v u)→(∀ (i n' : Nat) (e' : List (List V)),es.flatten[i]? = some (.own n' e')→∃ pb po bn u,φ b = some (pb,po,bn)∧w.cell? ⟨pb,po + i,none⟩ = some u∧cur[i]? = some u)→w.grownBy w' none→K (a.put o.dst v') w':=by
  intro v' w' hesn hyn g cap cur hv' hg hgc hcap hcs hcell hcown hgr
  have hold : ∀ k,k < w.heap.size→w'.heap[k]? = w.heap[k]?:=fun k hk => hgr.block k hk (by simp)
  have hesb : (es.all fun l => l.all (Wo b)) = true:=by
   unfold noBM at hnm
   have:=List.all_eq_true.1 hnm _ (List.mem_of_getElem? hb)
   simpa using this
  have hfit : (es ++ ys).length * n≤cur.size:=by
   rw [hcs,List.length_append,hlen]
   exact Nat.mul_le_mul_right _ hcap
  obtain ⟨m1,m2,m3,m4⟩:=hs.mem.moved hs.start hb hold hg hgc (es':=es ++ ys) (fun x hx => by
   rcases List.mem_append.1 hx with hx | hx
   ·exact hesn x hx
   ·exact hyn x hx) hfit hcell hnm (by rw [List.all_append,hesb,hnb]; rfl) (fun i n' e' hi => by
   obtain ⟨_,h2⟩:=hnown i n' e' hi
   obtain ⟨pb,po,bn,u,c1,c2,c3⟩:=hcown i n' e' h2
   exact ⟨pb,po,bn,u,c1,h2,c2,c3⟩)
  have hbel : Bel N w w':=⟨hgr.os,hgr.tape,hgr.output,hgr.size,fun k hk => hold k (hs.start k hk)⟩
  have h1 : SR P N w0 { t:=st.t.map (Uf b),m:=st.m.set b (some (n,es ++ ys)),g:=st.g.map (Uf b) } a w' (ext φ b (g,0,n)):=by
   refine ⟨hs.defers,by simpa using hs.size,fun j v hj => ?_,m1,hs.below.trans hbel,hs.start.trans hgr.size,kill_Sl m2 m3 m4 hs.gh,hs.gl⟩
   simp only [List.getElem?_map,Option.map_eq_some_iff] at hj
   obtain ⟨v0,hj,rfl⟩:=hj
   obtain ⟨u,u1,u2⟩:=hs.tmps j v0 hj
   exact ⟨u,u1,kill_S m2 m3 m4 u2⟩
  refine hK _ w' _ (h1.put (u:=v') ?_ m1 (Ev.refl _ _ _) (Bel.refl _ _))
  rw [hv']
  exact .ref' (pb:=g) (po:=0) (bn:=n) (by simp [ext]) hcap ⟨cur,e,_,hgc,by rw [hcs]; simp⟩ (by simp)
 have killed : ∀ (w' : World) (φ' : Pl) (m' : VM),SR P N w0 { t:=st.t,m:=m',g:=st.g } a w' φ'→SR P N w0 { t:=st.t.map (Uf b),m:=m',g:=st.g.map (Uf b) } a w' φ':=fun w' φ' m' h' =>
  ⟨h'.defers,by simpa using h'.size,fun j v hj => by
   simp only [List.getElem?_map,Option.map_eq_some_iff] at hj
   obtain ⟨v0,hj,rfl⟩:=hj
   obtain ⟨u,u1,u2⟩:=h'.tmps j v0 hj
   exact ⟨u,u1,kill_S (fun _ _ h => ⟨rfl,h⟩) (fun _ _ _ h => h) (fun _ _ h => h) u2⟩,h'.mem,h'.below,h'.start,kill_Sl (fun _ _ h => ⟨rfl,h⟩) (fun _ _ _ h => h) (fun _ _ h => h) h'.gh,h'.gl⟩
 have empty : ∀ (y0 : a.eval y = .slice none 0 0∨∃ ad c,a.eval y = .slice (some ad) 0 c) (hys0 : ys = []) {base : Option Addr} {cap : Nat} (hsvv : a.eval s = .slice base len cap) (hcap : len≤cap),o.wp P a w K Q:=by
  intro y0 hys0 base cap hsvv hcap
  subst hys0
  have hr:=run_append_empty (P:=P) (w:=w) (ty:=o.type) ht hi (base:=base) hcap y0
  unfold Oper.wp
  have hr' : (Builtin.append_ #[t,t] o.type #[a.eval s,a.eval y]).run P w = .ok (.slice base len cap) w:=by rw [hsvv]; exact hr
  rw [hrun _ hr']
  simp only [Result.andThen,Oper.upon_value]
  have hm : st.m.set b (some (n,es ++ [])) = st.m:=by
   rw [List.append_nil]
   apply List.ext_getElem?
   intro j
   by_cases hj : b = j
   ·subst hj; rw [List.getElem?_set_self hblt,hb]
   ·rw [List.getElem?_set_ne hj]
  refine hK _ w φ ?_
  rw [hm]
  refine (killed w φ st.m hs).put ?_ hs.mem (Ev.refl _ _ _) (Bel.refl _ _)
  rw [← hsvv]
  exact hsv
 have growS : ∀ (sa : Addr) (cap : Nat) (hsvv : a.eval s = .slice (some sa) len cap) (ad : Addr) (c : Nat) (us : List Value) (hyv' : a.eval y = .slice (some ad) ys.length c) (hyn : ∀ x ∈ ys,x.length = n) (husl : Sl w (Yf φ st.m) φ ys.flatten us) (hus : ∀ (j : Nat) (x : Value),us[j]? = some x→w.cell? (ad.add j) = some x)
   (hesn : ∀ x ∈ es,x.length = n) (olds : List Value) (holdsl : Sl w (Yf φ st.m) φ es.flatten olds) (ho1 : ∀ u ∈ olds,u.oneCell' = true) (holds : ∀ (j : Nat) (x : Value),olds[j]? = some x→w.cell? (sa.add j) = some x) (hpl : ∀ (i n' : Nat) (e' : List (List V)),es.flatten[i]? = some (.own n' e')→∃ pb po bn,φ b = some (pb,po,bn)∧(⟨pb,po + i,none⟩ : Addr) = sa.add i),cap < len + ys.length→o.wp P a w K Q:=by
  intro sa cap hsvv ad c us hyv' hyn husl hus hesn olds holdsl ho1 holds hpl hg
  have hul : us.length = ys.length * n:=by rw [husl.length,Xv hyn]
  have hol : olds.length = len * n:=by rw [holdsl.length,Xv hesn,hlen]
  have h1u : ∀ u ∈ us,u.oneCell' = true:=husl.oneCell (List.all_eq_true.2 fun v hv => by
   obtain ⟨l,l1,l2⟩:=List.mem_flatten.1 hv
   exact List.all_eq_true.1 (List.all_eq_true.1 hcv l l1) v l2)
  have hzs : z.cells.size = n:=by rw [← hzl,← hzc]; simp
  obtain ⟨v',w',r1,r2,r3⟩:=run_append_arg_grows (P:=P) w t o.type e i z n (P.bytesOf e) ht hi hzz (by rw [← hsize,← hn]) hby.symm hzs (by omega) sa len cap olds hol holds ad ys.length c us hul hus hg h63 hbytes
  unfold Oper.wp
  have r1' : (Builtin.append_ #[t,t] o.type #[a.eval s,a.eval y]).run P w = .ok v' w':=by rw [hsvv,hyv']; exact r1
  rw [hrun _ r1']
  simp only [Result.andThen,Oper.upon_value]
  obtain ⟨q1,q2⟩:=r2
  rcases q2 with ⟨_,q3⟩ | ⟨g,cap',cur,q3,q4,q5,q6,q7,q8,q9⟩
  ·omega
  ·refine grow v' w' hesn hyn g cap' cur q3 q4 q5 q6 q8 (fun j v hj => ?_) (fun i n' e' hi => ?_) r3
   rotate_left
   ·obtain ⟨pb,po,bn,g1,g2⟩:=hpl i n' e' hi
    obtain ⟨u,u1,u2⟩:=holdsl.get hi
    have hju : i < len * n:=by
     have:=(List.getElem?_eq_some_iff.1 u1).1
     omega
    refine ⟨pb,po,bn,u,g1,by rw [g2]; exact holds i u u1,?_⟩
    have hju2 : i < (len + ys.length) * n:=by rw [Nat.add_mul]; omega
    have e1 : (olds ++ us)[i]? = some u:=by rw [List.getElem?_append_left (by omega)]; exact u1
    rw [← q9,List.getElem?_take,if_pos hju2] at e1
    simpa using e1
   have hall : Sl w (Yf φ st.m) φ (es ++ ys).flatten (olds ++ us):=by rw [List.flatten_append]; exact holdsl.append husl
   obtain ⟨u,u1,u2⟩:=hall.get hj
   have hju : j < (len + ys.length) * n:=by
    have:=(List.getElem?_eq_some_iff.1 u1).1
    rw [q1] at this
    exact this
   refine ⟨u,?_,?_,u2⟩
   ·rw [← q9,List.getElem?_take,if_pos hju] at u1
    simpa using u1
   ·rcases List.mem_append.1 (List.mem_of_getElem? u1) with hx | hx
    ·exact ho1 u hx
    ·exact h1u u hx
 have hzero : es = []→∀ x ∈ es,x.length = n:=fun h => by subst h; simp
 generalize hsv' : a.eval s = sv at hsv
 generalize hyv' : a.eval y = yv at hys
 cases hsv with
 | ref hφ hcap hroom =>
  rename_i pb po bn cap
  obtain ⟨hesn,pb',po',cu,te,hφ',hp,hfit,hcell⟩:=hs.mem.at_ b n es _ hb hφ
  rw [hφ] at hφ'
  simp at hφ'
  obtain ⟨rfl,rfl,rfl⟩:=hφ'
  rcases hys with ⟨rfl,hys0⟩ | ⟨ad,c,us,rfl,hyn,husl,hus⟩
  ·exact empty (.inl hyv') hys0 hsv' hcap
  ·by_cases hr : len + ys.length≤cap
   ·-- in place
    have hyn' : ∀ x ∈ ys,x.length = bn:=fun x hx => (hyn x hx).trans hn.symm
    have hul : us.length = ys.length * bn:=by rw [husl.length,Xv hyn']
    have h1u : ∀ u ∈ us,u.oneCell' = true:=husl.oneCell (List.all_eq_true.2 fun v hv => by
     obtain ⟨l,l1,l2⟩:=List.mem_flatten.1 hv
     exact List.all_eq_true.1 (List.all_eq_true.1 hcv l l1) v l2)
    obtain ⟨cu2,te2,fr2,hp2,hroom2⟩:=hroom
    rw [hp] at hp2
    cases hp2
    have hmul : (len + ys.length) * bn≤cap * bn:=Nat.mul_le_mul_right _ hr
    rw [Nat.add_mul] at hmul
    rw [Nat.zero_add] at hroom2
    have hsz : i.size = bn:=by rw [← hsize,← hn]
    have hr1:=run_append_row (P:=P) (w:=w) (ty:=o.type) ht hi (po:=po) (sLen:=len) (sCap:=cap) hp (a:=ad) (m:=ys.length) (c:=c) (news:=us) (by rw [hsz]; exact hul) hus h1u hr (by rw [hsz]; omega)
    rw [hsz] at hr1
    generalize hA : (cu.toList.take (po + len * bn) ++ us ++ cu.toList.drop (po + len * bn + us.length)).toArray = A at hr1
    have hr' : (Builtin.append_ #[t,t] o.type #[a.eval s,a.eval y]).run P w = .ok (.slice (some ⟨pb,po,none⟩) (len + ys.length) cap) (w.setRow pb A):=by
     rw [hsv',hyv',Nat.zero_mul,Nat.add_zero]
     exact hr1
    unfold Oper.wp
    rw [hrun _ hr']
    simp only [Result.andThen,Oper.upon_value]
    have hcl : cu.toList.length = cu.size:=Array.length_toList
    have hget : ∀ q,A[q]? = if q < po + len * bn then cu[q]? else if q < po + len * bn + us.length then us[q - (po + len * bn)]? else cu[q]?:=by
     intro q
     rw [← hA,List.getElem?_toArray,Qt _ _ _ _ (by omega)]
     simp
    have hsize' : A.size = cu.size:=by
     rw [← hA]
     simp only [List.size_toArray,List.length_append,List.length_take,List.length_drop,Array.length_toList]; omega
    have hef : es.flatten.length = len * bn:=by rw [Xv hesn,hlen]
    have hw:=hs.mem.write (es':=es ++ ys) hb hφ hp (setRow_heap w pb cu _ te _ hp) hsize' (fun k hk => setRow_other w pb k _ hk) (by simp [World.setRow])
     (fun x hx => by
      rcases List.mem_append.1 hx with h | h
      ·exact hesn x h
      ·exact hyn' x h) (by rw [List.length_append,hlen,Nat.add_mul]; omega) (fun j v hj => by
      rw [List.flatten_append] at hj
      rw [hget]
      by_cases hjl : j < len * bn
      ·rw [List.getElem?_append_left (by omega)] at hj
       rw [if_pos (by omega)]
       exact hcell j v hj
      ·rw [List.getElem?_append_right (by omega),hef] at hj
       obtain ⟨u,u1,u2⟩:=husl.get hj
       have:=(List.getElem?_eq_some_iff.1 u1).1
       rw [if_neg (by omega),if_pos (by omega)]
       refine ⟨u,?_,h1u u (List.mem_of_getElem? u1),u2⟩
       rw [← u1]; congr 1; omega) (fun i n' e' hi => by
      obtain ⟨h1,h2⟩:=hnown i n' e' hi
      refine ⟨h2,?_⟩
      rw [hget,if_pos (by omega)])
    have hbel : Bel N w (w.setRow pb A) :=
     ⟨rfl,rfl,rfl,by simp [World.setRow],fun k hk => setRow_other w pb k _ (fun e => (hs.mem.new b pb po bn hφ).1 (e ▸ hk))⟩
    have h2 : SR P N w0 { t:=st.t,m:=st.m.set b (some (bn,es ++ ys)),g:=st.g } a (w.setRow pb A) φ :=
     ⟨hs.defers,hs.size,fun j v hj => by
      obtain ⟨u,u1,u2⟩:=hs.tmps j v hj
      exact ⟨u,u1,u2.ev hw.2⟩,hw.1,hs.below.trans hbel,hs.start.trans hbel.size,Sl.ev hw.2 hs.gh,hs.gl⟩
    refine hK _ _ φ ((killed _ φ _ h2).put ?_ hw.1 (Ev.refl _ _ _) (Bel.refl _ _))
    exact .ref' hφ hr (hw.2.room _ _ ⟨cu,te,_,hp,by rw [Nat.zero_add]; exact hroom2⟩) (by simp)
   ·obtain ⟨olds,a1,a2,a3⟩:=exists_row (Q:=fun j u => cu[po + j]? = some u∧u.oneCell' = true) (w:=w) (O:=Yf φ st.m) (φ:=φ) es.flatten 0 (fun j v hj => by
     obtain ⟨u,b1,b2,b3⟩:=hcell j v hj
     exact ⟨u,by rw [Nat.zero_add]; exact ⟨b1,b2⟩,b3⟩)
    refine growS _ cap hsv' ad c us hyv' (fun x hx => (hyn x hx).trans hn.symm) husl hus hesn olds a2 (fun u hu => ?_) (fun j x hx => ?_) (fun i n' e' hi => ?_) (by omega)
    ·obtain ⟨j,hj⟩:=List.getElem?_of_mem hu
     exact (a3 j u hj).2
    ·rw [addr_eq rfl]
     have:=(a3 j x hx).1
     rw [Nat.zero_add] at this
     simp only [Nat.zero_mul,Nat.add_zero]
     exact Kk hp this
    ·rw [addr_eq rfl]
     exact ⟨pb,po,bn,hφ,by simp⟩
 | ref0 =>
  have hes0 : es = []:=List.eq_nil_of_length_eq_zero hlen
  rcases hys with ⟨rfl,hys0⟩ | ⟨ad,c,us,rfl,hyn,husl,hus⟩
  ·exact empty (.inl hyv') hys0 hsv' (Nat.le_refl _)
  ·by_cases hr : ys = []
   ·refine empty (.inr ⟨ad,c,?_⟩) hr hsv' (Nat.le_refl _)
    rw [hyv',hr]; rfl
   ·have : 0 < ys.length:=List.length_pos_iff.2 hr
    exact growS _ 0 hsv' ad c us hyv' (fun x hx => (hyn x hx).trans hn.symm) husl hus (hzero hes0) [] (by rw [hes0]; exact .nil) (by simp) (by simp) (fun i n' e' hi => by rw [hes0] at hi; simp at hi) (by omega)
 | refnil =>
  have hes0 : es = []:=List.eq_nil_of_length_eq_zero hlen
  rcases hys with ⟨rfl,hys0⟩ | ⟨ad,c,us,rfl,hyn,husl,hus⟩
  ·exact empty (.inl hyv') hys0 hsv' (Nat.le_refl _)
  ·by_cases hr : ys = []
   ·refine empty (.inr ⟨ad,c,?_⟩) hr hsv' (Nat.le_refl _)
    rw [hyv',hr]; rfl
   ·have hpos : 0 < ys.length:=List.length_pos_iff.2 hr
    have hyn' : ∀ x ∈ ys,x.length = n:=fun x hx => (hyn x hx).trans hn.symm
    have hul : us.length = ys.length * n:=by rw [husl.length,Xv hyn']
    have h1u : ∀ u ∈ us,u.oneCell' = true:=husl.oneCell (List.all_eq_true.2 fun v hv => by
     obtain ⟨l,l1,l2⟩:=List.mem_flatten.1 hv
     exact List.all_eq_true.1 (List.all_eq_true.1 hcv l l1) v l2)
    have hzs : z.cells.size = n:=by rw [← hzl,← hzc]; simp
    obtain ⟨v',w',r1,r2,r3,_⟩:=run_append_own (P:=P) w w.heap.size t o.type e i z n (P.bytesOf e) ht hi hzz (by rw [← hsize,← hn]) hby.symm hzs (by omega) (.slice none 0 0) 0 [] (World.ownsRow_nil w _ e n) ad ys.length c us hul hus h1u (by simp only [maxLen]; omega) (by simpa using hbytes) (Nat.le_refl _)
    unfold Oper.wp
    have r1' : (Builtin.append_ #[t,t] o.type #[a.eval s,a.eval y]).run P w = .ok v' w':=by rw [hsv',hyv']; exact r1
    rw [hrun _ r1']
    simp only [Result.andThen,Oper.upon_value]
    obtain ⟨q1,q2⟩:=r2
    rcases q2 with ⟨_,q3⟩ | ⟨g,cap',cur,q3,q4,q5,q6,q7,q8,q9⟩
    ·omega
    ·refine grow v' w' (hzero hes0) hyn' g cap' cur q3 q4 q5 q6 q8 (fun j v hj => ?_) (fun i n' e' hi => by rw [hes0] at hi; simp at hi) r3
     rw [hes0,List.nil_append] at hj
     obtain ⟨u,u1,u2⟩:=husl.get hj
     have hju : j < (0 + ys.length) * n:=by
      have:=(List.getElem?_eq_some_iff.1 u1).1
      rw [hul] at this
      simpa using this
     refine ⟨u,?_,h1u u (List.mem_of_getElem? u1),u2⟩
     have q9' : cur.toList.take ((0 + ys.length) * n) = us:=by simpa using q9
     rw [← q9',List.getElem?_take,if_pos hju] at u1
     simpa using u1
end Go.VL
