/- Short forms of the rules: what is settled by one tactic is settled by itself. -/
import Derived.Test.YtloepppmjppddaaGreatDoorVxGg
import Derived.Test.YtloepppmjppddaaGreatDoorVxGf
import Derived.KernelRfl
import Derived.Shelf.Strconv.Itoa4
import Derived.Room.Shelf.Join48
import Derived.Lib.AppendIntMem
import Derived.Handed
import Derived.SizedLaws
import Derived.Shelf.Vars
import Derived.Shelf.Strconv.ErrVarParseInt
import Derived.Shelf.Strings.Split
import Derived.Shelf.Small.Strs
import Derived.Lib.ParseIntBTie
import Derived.Lib.ParseIntBCases
import Derived.Shelf.Strconv.Itoa3
import Derived.Shelf.Strconv.Atoi
import Derived.Laws.FloatBits
namespace Go.VL
open Go.RowKit
set_option linter.unusedSimpArgs false
set_option linter.unusedVariables false
@[simp] theorem vbytes_nil {m : VM} : vbytes m .nil = some []:=rfl
@[simp] theorem vbytes_sl {m : VM} {n : Nat} {es : List (List V)} : vbytes m (.sl n es) = Kd es:=rfl
@[simp] theorem vbytes_ref {m : VM} {b e len : Nat} : vbytes m (.ref b e len) = (match m[b]? with
  | some (some (_,es)) => if e + len≤es.length then Kd ((es.drop e).take len) else none
  | _ => none):=rfl
@[simp] theorem numsOf_nil : Kd [] = some []:=rfl
@[simp] theorem numsOf_cons {n : Int} {es : List (List V)} : Kd ([.i .u8 n] :: es) = (Kd es).map (n :: ·):=by
 simp only [Kd,numOf,Option.bind_some]
@[simp] theorem ev_nilIface {t : List V} : ev t (.const .nilIface) = .s .nilIface:=rfl
@[simp] theorem str_empty : (⟨#[]⟩ : ByteArray) = ByteArray.empty:=rfl
section
variable {P : Program} {C : Qc} {Q : Exit→VS→Prop} {st s2 : VS}
theorem VW.rA {id : Nat} {l : List Oper} (t' : List V) (m' : VM) (g' : List V) (hC : C.Ok P) (hQ : Q .normal { t:=t',m:=m',g:=g' }) (h : toSt (Wj P C l.toArray l.length none l st) t' m' g':=by simp -implicitDefEqProofs) (hg : Xp l.toArray l.length none l = true:=by kernel_rfl) : VW P (.region id l.toArray false) Q st:=Yg t' m' g' hC hg h hQ
theorem VW.rD {id : Nat} {l : List Oper} (t' : List V) (m' : VM) (g' : List V) (hC : C.Ok P) (hm : P.follows .mixedOrders = true) (hQ : Q .normal { t:=t',m:=m',g:=g' }) (h : toSt (Wj P C l.toArray l.length none l st) t' m' g':=by simp -implicitDefEqProofs) (hc : (Qu l && Ud l && Xp l.toArray l.length none l) = true:=by kernel_rfl) : VW P (.region id l.toArray true) Q st:=Ug t' m' g' hC hm hc h hQ
theorem VW.rE {id : Nat} {l : List Oper} (t' : List V) (m' : VM) (g' : List V) (hC : C.Ok P) (he : Qm { t:=t',m:=m',g:=g' } s2) (hQ : Q .normal s2) (h : toSt (Wj P C l.toArray l.length none l st) t' m' g':=by simp -implicitDefEqProofs) (hg : Xp l.toArray l.length none l = true:=by kernel_rfl) : VW P (.region id l.toArray false) Q st:=VW.evalE t' m' g' hC hg h he hQ
theorem VW.rDE {id : Nat} {l : List Oper} (t' : List V) (m' : VM) (g' : List V) (hC : C.Ok P) (hm : P.follows .mixedOrders = true) (he : Qm { t:=t',m:=m',g:=g' } s2) (hQ : Q .normal s2) (h : toSt (Wj P C l.toArray l.length none l st) t' m' g':=by simp -implicitDefEqProofs) (hc : (Qu l && Ud l && Xp l.toArray l.length none l) = true:=by kernel_rfl) : VW P (.region id l.toArray true) Q st:=VW.evalDE t' m' g' hC hm hc h he hQ
theorem Zd {γ δ : Type} {c : Operand} {x y : Code} {b : Bool} {A B : Option γ} {K : γ→Option δ} {o : δ} (h : (if b = true then A else B).bind K = some o) (h1 : A.bind K = some o→VW P x Q st) (h2 : B.bind K = some o→VW P y Q st) (hc : ev st.t c = .b b:=by simp) : VW P (.cond c x y) Q st :=
 VW.condB hc (fun hb => h1 (iteT hb h)) (fun hb => h2 (iteF hb h))
theorem Zk {γ δ : Type} {c : Operand} {x y : Code} {b : Bool} {A B : Option γ} {K : γ→Option δ} {o : δ} (h : (if b = true then A else B).bind K = some o) (h2 : B.bind K = some o→VW P y Q st) (h1 : A.bind K = some o→VW P x Q st) (hc : ev st.t c = .b b:=by simp) : VW P (.cond c x y) Q st :=
 Zd h h1 h2 hc
theorem Ze {t t' : List V} {m m' : VM} {g : List V} (k : Nat) (hm : m.take k = m':=by simp) (hf : fgt t t':=by simp [fgt]) (hk : k≤m.length:=by simp) (ht : t'.all (Zx k) = true:=by simp [Zx,Zs]) (hb : bndM k m' = true:=by simp [bndM,Zs]) (hgg : g.all (Zx k) = true:=by first | rfl | simp [Zx,Zs]) : Qm { t:=t,m:=m,g:=g } { t:=t',m:=m',g:=g }:=Qm.to k hf hm hk ht hb hgg
theorem Zn {σ : Type} {p : σ→Prop} {H : σ→VS} {s : VS} (x : σ) (h : p x) (he : Qm s (H x)) : ∃ x',p x'∧Qm s (H x'):=⟨x,h,he⟩
end
section
variable {α β γ : Type} {f : α→Option β} {u : Unit→Option β} {K : β→Option γ} {o : γ}
theorem Ys {xs : List α} {i : Int} (h : ((Wp xs i).bind f).bind K = some o) : ∃ v,(0≤i∧xs[i.toNat]? = some v∧i.toNat < xs.length∧∀ h : i.toNat < xs.length,xs[i.toNat] = v)∧(f v).bind K = some o:=by
 obtain ⟨v,h1,h2⟩:=Zc h
 exact ⟨v,Kf h1,h2⟩
theorem Xq {s : ByteArray} {i x : Int} (h : Wg s i = some x) : 0≤i∧∃ c,s.data.toList[i.toNat]? = some c∧(c.toNat : Int) = x∧s.data[i.toNat]? = some c:=by
 obtain ⟨h1,c,h2,h3⟩:=idxS_some h
 exact ⟨h1,c,h2,h3,by simpa using h2⟩
theorem cutK_some2 {lo hi : Int} {n : Nat} {u : Unit} (h : Jw lo hi n = some u) : 0≤lo∧0≤hi∧lo.toNat≤hi.toNat∧hi.toNat≤n∧max lo 0≤hi:=by
 obtain ⟨h1,h2,h3,h4⟩:=cutK_some h
 exact ⟨h1,h2,h3,h4,by omega⟩
theorem bindIS {f : Int→Option β} {s : ByteArray} {i : Int} (h : ((Wg s i).bind f).bind K = some o) : ∃ x,(0≤i∧∃ c,s.data.toList[i.toNat]? = some c∧(c.toNat : Int) = x∧s.data[i.toNat]? = some c)∧(f x).bind K = some o:=by
 obtain ⟨v,h1,h2⟩:=Zc h
 exact ⟨v,Xq h1,h2⟩
theorem bindM {b : Nat} {n : Int} (h : ((mk b n).bind u).bind K = some o) : ∃ v,(0≤n∧b * n.toNat≤281474976710656∧n.toNat≤9223372036854775807)∧(u v).bind K = some o:=by
 obtain ⟨v,h1,h2⟩:=Zc h
 exact ⟨v,mk_some h1,h2⟩
theorem Jp {b : Nat} {xs ys : List α} (h : ((Jm b xs ys).bind u).bind K = some o) : ∃ v,((xs.length + ys.length) * b≤140737488355328∧xs.length + ys.length≤9223372036854775807)∧(u v).bind K = some o:=by
 obtain ⟨v,h1,h2⟩:=Zc h
 exact ⟨v,appK_some h1,h2⟩
theorem Gj {lo hi : Int} {n : Nat} (h : ((Jw lo hi n).bind u).bind K = some o) : ∃ v,(0≤lo∧0≤hi∧lo.toNat≤hi.toNat∧hi.toNat≤n∧max lo 0≤hi)∧(u v).bind K = some o:=by
 obtain ⟨v,h1,h2⟩:=Zc h
 exact ⟨v,cutK_some2 h1,h2⟩
theorem Ux {g : Bool} {A : Option α} {d w : α} (h : (if g = true then A else some d) = some w) : (g = true∧A = some w)∨(g = false∧w = d):=by
 cases g
 ·exact .inr ⟨rfl,(Option.some.inj h).symm⟩
 ·exact .inl ⟨rfl,h⟩
theorem Uh {g : Bool} {A : Option α} {d w : α} (h : (if g = true then some d else A) = some w) : (g = false∧A = some w)∨(g = true∧w = d):=by
 cases g
 ·exact .inl ⟨rfl,h⟩
 ·exact .inr ⟨rfl,(Option.some.inj h).symm⟩
end
theorem Zz.go {P : Program} {f : FuncId} {fn : Func} {c : Code} {α β : Type} {g : α→Option β} {eA : α→List V} {eB : β→V} {rs : List ResultVar} (n : Nat) (hf : P.funcs[f]? = some fn) (hb : fn.body = some c) (hn : fn.ntmps = n) (hr : fn.results.toList = rs)
  (hx : (P.funcs[f]?).any (fun fn => fn.body.isSome && fn.name != "runtime.NumGoroutine") = true) (hk : ∀ a,(eA a).length.ble n = true)
  (h : ∀ a b,g a = some b→VW P c (VRet P rs (fun x => nl x (eB b))) { t:=tm n (en 0 (eA a)),m:=[] }) : Zz P f (tells g eA eB) :=
 Zz.of hx fun a b h1 => Qk.nl (Qk.of hf hb hn hr (by
  have:=h a b h1
  have h2:=Nat.le_of_ble_eq_true (hk a)
  rw [Wd,show (eA a).length + (n - (eA a).length) = n by omega]
  exact this))
end Go.VL

namespace Go.VL
open Go.RowKit
set_option linter.unusedSimpArgs false
set_option linter.unusedVariables false
section
variable {P : Program} {C : Qc} {Q : Exit→VS→Prop} {st : VS} {ops : Array Oper}
def vstepG (P : Program) (C : Qc) (ops : Array Oper) (st : VS) (o : Oper) : Option VS :=
 match Zm ops st.t o with
 | some true => vstep P C st o
 | some false => some { t:=Xh st.t o.dst und,m:=st.m,g:=st.g }
 | none => none
def vseqG (P : Program) (C : Qc) (ops : Array Oper) : List Oper→VS→Option VS
 | [],st => some st
 | o :: l,st => (vstepG P C ops st o).bind (vseqG P C ops l)
attribute [simp] vseqG vstepG Zm
end
end Go.VL

namespace Go.VL
open Go.RowKit Go.Shelf Go.Proofs
set_option linter.unusedSimpArgs false
set_option linter.unusedVariables false
variable {P : Program} {ρ : Ren}
def itoaB (n : Int) : ByteArray:=⟨(Lib.itoa n).toArray⟩
theorem Ss.strs {w : World} {O : Nat→Prop} {xs : List ByteArray} {b off : Nat} (h : Ss w O Wi b off (rows (fun x => [V.str x]) xs).flatten) : ∀ (j : Nat) x,xs[j]? = some x→w.cell? ⟨b,off + j,none⟩ = some (.string x):=by
 intro j x hx
 have : (rows (fun x => [V.str x]) xs).flatten[j]? = some (V.str x):=by
  have : (rows (fun x => [V.str x]) xs).flatten = xs.map V.str:=by
   clear h hx
   induction xs with
   | nil => rfl
   | cons y ys ih => simp [rows] at ih ⊢; exact ih
  rw [this]
  simp [hx]
 obtain ⟨u,h1,_,h3⟩:=h.get this
 cases h3
 exact h1
end Go.VL

namespace Go.VL
open Go.RowKit
set_option linter.unusedSimpArgs false
set_option linter.unusedVariables false
def sb (l : List UInt8) : ByteArray:=⟨l.toArray⟩
@[simp] theorem sb_size {l : List UInt8} : (sb l).size = l.length:=by simp [sb,ByteArray.size]
@[simp] theorem sb_data {l : List UInt8} : (sb l).data.toList = l:=by simp [sb]
theorem sb_self (s : ByteArray) : sb s.data.toList = s:=by cases s; simp [sb]
theorem itoaB_sb (n : Int) : itoaB n = sb (Lib.itoa n):=rfl
theorem dec_len : ∀ (k u : Nat),u < 10 ^ (k + 1)→(Lib.decDigits u).length≤k + 1
 | 0,u,h => by
  rw [Lib.decDigits,dif_pos (by simpa using h)]
  simp
 | k + 1,u,h => by
  rw [Lib.decDigits]
  split
  ·simp
  ·have:=dec_len k (u / 10) (by rw [Nat.div_lt_iff_lt_mul (by decide)]; rw [Nat.pow_succ] at h; exact h)
   simp
   omega
theorem itoa_nat {n : Int} (h : 0≤n) : Lib.itoa n = Lib.decDigits n.toNat:=by
 unfold Lib.itoa
 rw [if_neg (by omega)]
theorem itoa_len {n : Int} (h0 : 0≤n) (h1 : n < 10000) : (Lib.itoa n).length≤4:=by
 rw [itoa_nat h0]
 exact dec_len 3 _ (by omega)
end Go.VL

namespace Go.VL
variable {H : Type} {enc : TypeId × Value→H}
theorem handed_laid {os : Os} {C : Checked} {f : FuncId} {fn : Func} {s : ChangeSpec} {X : World→Array Value→Prop} {apart fresh handsOn again : Bool} {a : Assume}
  (hX : ∀ (w w' : World) (args : Array Value),w.heap = w'.heap→X w args→X w' args) (ho : ownKnob C.prog.godebug = none) (hs : os.Started) (hn : C.prog.inits.idxOf? f = none) (hf : C.prog.funcs[f]? = some fn)
  (wit : ∃ (w : World) (tape : Tape) (i : Input),w.os = os∧(w.forCall tape i).Shaped C.prog∧i.vars = []∧Input.okWide C.prog (w.forCall tape i) .any w.heap.size f i ∧
   ((s.pre enc C.prog fn [] apart (w.forCall tape i).memory i.args∧X (w.forCall tape i).memory i.args)∧sizedMet enc C.prog fn (OpenSpec.ofChange s) apart (w.forCall tape i).memory i.args)∧a.holds C.prog (lone (Frame.enter C.prog f i.args .normal) [] (w.forCall tape i)))
  (con : ∀ (W : World) (base : Nat) (args : Array Value) (ds gs : List (DataW H)) (before : List MemPlace),X W args→W.ShapedOpen C.prog →
   (∀ (j : Nat) t v,fn.params[j]? = some t→args[j]? = some v→Value.okWide C.prog W .any base t v)→DataW.Whole enc C.prog fn.params.toList s.vars apart W args.toList ds gs before →
   Calls C.prog f args W fun e W' => ∃ v,e = .returned v∧s.post enc C.prog fn apart fresh handsOn again W args v W') :
  ReturnsInHanded a C os f .any (fun w args => (s.pre enc C.prog fn [] apart w args∧X w args)∧sizedMet enc C.prog fn (OpenSpec.ofChange s) apart w args) (s.post enc C.prog fn apart fresh handsOn again) :=
 returnsInHanded_of_calls ho hs hn wit fun w tape i _ shape _ ok pre _ => by
  obtain ⟨_,_,_,fn',h1,_,_,_,_,hv⟩:=ok
  cases h1.symm.trans hf
  obtain ⟨⟨⟨ds,gs,before,hw,_⟩,hx⟩,_⟩:=pre
  refine (con (w.forCall tape i) w.heap.size i.args ds gs before (hX _ (w.forCall tape i) _ (by rfl) hx) shape hv (DataW.Whole.of_heap (w':=w.forCall tape i) (by rfl) hw)).mono fun e W' ⟨v,he,hp⟩ => ?_
  subst he
  exact ChangeSpec.post_blind hp
theorem int_var {P : Program} {w : World} {n : String} {g0 t : Nat} {z : Int} (h : w.ShapedOpen P) (hn : P.globalNamed n = some g0) (hg : (g0 + 1).ble P.globals.size = true) (h0 : ((begin P (fun _ _ => 0) default).world.heap[g0]?).bind Obj.row? = some (#[.int .i64 z],t))
  (hb : P.buildable t = true) (hc : P.cellTypes P.depth t = some [t]) (hu : P.underlying t = some (.int .i64)) : ∀ g,P.globalNamed n = some g→∃ m,w.cell? ⟨g,0,none⟩ = some (.int .i64 m):=fun g hg' => by
 obtain rfl:=Option.some.inj (hg'.symm.trans hn)
 exact Go.Proofs.cell_of_shapedOpen_int h (Nat.le_of_ble_eq_true hg) h0 rfl hb hc hu
end Go.VL

namespace Go.VL
open Go.RowKit Go.Shelf Go.Proofs
set_option linter.unusedSimpArgs false
set_option linter.unusedVariables false
variable {P : Program} {ρ : Ren}
def Jv (e : Bool) : V:=if e = true then .err else .s .nilIface
section
variable {e : Bool} {b k : Nat} {m : VM} {a : V}
@[simp high] theorem errV_plain : Yn (Jv e) = true:=by cases e <;> rfl
@[simp high] theorem errV_snap : Us (Jv e) = true:=by cases e <;> rfl
@[simp high] theorem errV_un1 : un1 (Jv e) = Jv e:=by cases e <;> rfl
@[simp high] theorem errV_unT : unT (Jv e) = Jv e:=by cases e <;> rfl
@[simp high] theorem errV_pown : Kc (Jv e) = true:=by cases e <;> rfl
@[simp high] theorem errV_noB : Wo b (Jv e) = true:=by cases e <;> rfl
@[simp high] theorem errV_bnd : Zs k (Jv e) = true:=by cases e <;> rfl
@[simp high] theorem errV_bndT : Zx k (Jv e) = true:=by cases e <;> rfl
@[simp] theorem errV_le1 : Hu a (Jv e) = (a = Jv e):=by
 cases e <;> simp only [Jv,if_true,Bool.false_eq_true,if_false] <;> unfold Hu <;> split <;> simp_all
@[simp ↓ high] theorem errV_vex1a : vex1a k (Jv e) = (Jv e,[]):=by cases e <;> rfl
@[simp ↓ high] theorem errV_vex1 : vex1 k (Jv e) = (Jv e,[]):=by cases e <;> rfl
@[simp ↓ high] theorem errV_frz : frz (Jv e) = Jv e:=by cases e <;> rfl
@[simp] theorem errV_neq {t : TypeId} {x : Operand} {c : Value} (h : ifaceB P t = true) : vbinP P t .neq x (.const c) (Jv e) (.s .nilIface) = some (.b e):=by
 cases e
 ·show vnil P t .neq true = _
  rw [vnil_neq h]; rfl
 ·show vnil P t .neq false = _
  rw [vnil_neq h]; rfl
@[simp] theorem errV_eql {t : TypeId} {x : Operand} {c : Value} (h : ifaceB P t = true) : vbinP P t .eql x (.const c) (Jv e) (.s .nilIface) = some (.b (!e)):=by
 cases e
 ·show vnil P t .eql true = _
  rw [vnil_eql h]; rfl
 ·show vnil P t .eql false = _
  rw [vnil_eql h]; rfl
end
@[simp] theorem vfin1_pre {α : Type} {c : α→List V} [Pln c] {m : VM} {b n k : Nat} {xs : List α} (h : m[b]? = some (some (n,rows c xs))) (hk : k≤xs.length) : vfin1 m (.ref b 0 k) = some (.own n (rows c (xs.take k)),[b]):=by
 unfold vfin1
 simp only [h]
 split
 ·rename_i hc
  have : xs.length = k:=by simpa using hc.2.1
  subst this
  rw [List.take_length]
 ·rw [if_pos ⟨by simpa using hk,by simp⟩]
  simp
@[simp] theorem if_take' {α : Type} {c : α→List V} {xs : List α} {k n : Nat} {l : List Nat} : (if xs.length = k then some (V.own n (rows c xs),l) else some (V.own n (rows c (xs.take k)),l)) = some (V.own n (rows c (xs.take k)),l):=by
 split
 ·rename_i h; subst h; rw [List.take_length]
 ·rfl
def splitOf (s sep : ByteArray) : List ByteArray:=Lib.splitB sep 0 (Lib.countB s sep) s
def splitO (s sep : ByteArray) : Option (List ByteArray):=if s.size < 4294967281∧1≤sep.size then some (splitOf s sep) else none
theorem Rs.strs {w : World} {c : Array Value} : ∀ {xs : List ByteArray} {off : Nat},(∀ (j : Nat) x,xs[j]? = some x→c[off + j]? = some (.string x))→Rs w c off (rows (fun x => [V.str x]) xs).flatten []
 | [],_,_ => .nil
 | x :: xs,off,h => by
  have h0:=h 0 x rfl
  have : Rs w c (off + 1) (rows (fun x => [V.str x]) xs).flatten []:=Rs.strs fun j y hy => by
   have:=h (j + 1) y (by simpa using hy)
   rw [← this]
   congr 1
   omega
  have hv : RV w (.str x) (.string x) []:=.pl rfl .str
  exact Rs.cons (by simpa using h0) rfl hv this
theorem split_calls (L : Lays.n146 P ρ) (hi9 : (P.info? (ρ.t 9)).map (fun i => (i.zero,i.size,i.bytes)) = some (some (.string ByteArray.empty),1,16)) (hg : P.globalNamed "internal/bytealg.MaxLen" = some (ρ.g 1)) {s sep : ByteArray} {r : List ByteArray} (h : splitO s sep = some r) :
  Qk P (ρ.f 146) [.str s,.str sep] (fun x => x = .own 1 (rows (fun x => [.str x]) r)):=by
 unfold splitO at h
 split at h
 ·rename_i hc
  cases h
  intro w us hgl hs
  obtain ⟨u,u',rfl,s1,s2⟩:=hs.two
  cases s1
  cases s2
  obtain ⟨m,hm⟩:=hgl.2.2.2 _ hg
  refine (Any.strings_Split L hi9 s sep m w hc.1 hm hc.2).mono fun e w' ⟨he,hw⟩ => ?_
  subst hw
  have hlen : (splitOf s sep).length = Lib.countB s sep + 1:=Lib.splitB_all sep hc.2 0 _ s rfl
  refine ⟨_,_,[w.heap.size],he,rfl,?_,by simp,by simp,(Below.refl _ _).alloc (Nat.le_refl _) _⟩
  refine RV.own (n:=1) (es:=rows (fun x => [V.str x]) (splitOf s sep)) (c:=((splitOf s sep).map Value.string).toArray) (e:=ρ.t 9) (F:=[]) (fun x hx => ?_) (by simpa using hlen) (Nat.le_refl _) ?_ (by simp [hlen]) (Rs.strs fun j x hx => ?_)
  ·obtain ⟨y,_,rfl⟩:=List.mem_map.1 hx
   rfl
  ·show (w.heap.push _)[w.heap.size]? = _
   simp [splitOf]
  ·simpa using hx
 ·cases h
end Go.VL

namespace Go.VL
open Go.RowKit
set_option linter.unusedSimpArgs false
set_option linter.unusedVariables false
def Qx (c : UInt8) : List UInt8→List (List UInt8)
 | [] => [[]]
 | b :: l => if b = c then [] :: Qx c l else match Qx c l with
  | [] => [[b]]
  | p :: ps => (b :: p) :: ps
theorem Gf {c : UInt8} : ∀ {s : List UInt8},c ∉ s→Qx c s = [s]
 | [],_ => rfl
 | b :: l,h => by
  have h1 : c ≠ b:=fun e => h (by simp [e])
  have h2 : c ∉ l:=fun e => h (by simp [e])
  rw [Qx,if_neg (Ne.symm h1),Gf h2]
theorem cut_at {c : UInt8} {q : List UInt8} : ∀ {p : List UInt8},c ∉ p→Qx c (p ++ c :: q) = p :: Qx c q
 | [],_ => by simp [Qx]
 | b :: l,h => by
  have h1 : c ≠ b:=fun e => h (by simp [e])
  have h2 : c ∉ l:=fun e => h (by simp [e])
  rw [List.cons_append,Qx,if_neg (Ne.symm h1),cut_at h2]
theorem cut_ne {c : UInt8} (s : List UInt8) : Qx c s ≠ []:=by
 cases s with
 | nil => simp [Qx]
 | cons b l =>
  rw [Qx]
  split
  ·simp
  ·split <;> simp
theorem first_at (c : UInt8) : ∀ s : List UInt8,c ∉ s∨∃ p q,s = p ++ c :: q∧c ∉ p
 | [] => .inl (by simp)
 | b :: l => by
  by_cases hb : b = c
  ·subst hb; exact .inr ⟨[],l,rfl,by simp⟩
  ·rcases first_at c l with h | ⟨p,q,h1,h2⟩
   ·exact .inl (by simp [h,Ne.symm hb])
   ·exact .inr ⟨b :: p,q,by simp [h1],by simp [h2,Ne.symm hb]⟩
theorem cut_join {c : UInt8} : ∀ (n : Nat) (s : List UInt8),s.length≤n→Lib.join (Qx c s) [c] = s∧∀ p ∈ Qx c s,c ∉ p:=by
 intro n
 induction n with
 | zero =>
  intro s h
  have : s = []:=List.length_eq_zero_iff.1 (by omega)
  subst this
  simp [Qx,Lib.join]
 | succ n ih =>
  intro s h
  rcases first_at c s with hs | ⟨p,q,rfl,hp⟩
  ·rw [Gf hs]
   simp [Lib.join,List.intercalate,hs]
  ·obtain ⟨i1,i2⟩:=ih q (by simp at h; omega)
   rw [cut_at hp]
   refine ⟨?_,fun x hx => ?_⟩
   ·cases hc : Qx c q with
    | nil => exact absurd hc (cut_ne q)
    | cons a b =>
     rw [hc] at i1
     have e : Lib.join (p :: a :: b) [c] = p ++ [c] ++ Lib.join (a :: b) [c]:=by simp [Lib.join,List.intercalate]
     rw [e,i1]
     simp
   ·rcases List.mem_cons.1 hx with rfl | hx
    ·exact hp
    ·exact i2 x hx
theorem index_of_first {c : UInt8} : ∀ {p q : List UInt8},c ∉ p→Lib.indexByte (p ++ c :: q) c = p.length
 | [],q,_ => by simp [Lib.indexByte]
 | b :: l,q,h => by
  have h1 : b ≠ c:=fun e => h (by simp [e])
  have h2 : c ∉ l:=fun e => h (by simp [e])
  have ih:=index_of_first (q:=q) h2
  rw [List.cons_append,Lib.indexByte,ih]
  have hb : (b == c) = false:=by simpa using h1
  simp [hb]
theorem index_of_none {c : UInt8} : ∀ {p : List UInt8},c ∉ p→Lib.indexByte p c = -1
 | [],_ => rfl
 | b :: l,h => by
  have h1 : b ≠ c:=fun e => h (by simp [e])
  have h2 : c ∉ l:=fun e => h (by simp [e])
  have hb : (b == c) = false:=by simpa using h1
  rw [Lib.indexByte,index_of_none h2]
  simp [hb]
theorem splitK_cut {c : UInt8} : ∀ (n : Nat) (s : List UInt8),s.length≤n→Lib.splitK [c] 0 (Lib.count s [c]) s = Qx c s:=by
 intro n
 induction n with
 | zero =>
  intro s h
  have : s = []:=List.length_eq_zero_iff.1 (by omega)
  subst this
  rw [Lib.count_miss (by rw [Lib.index_one]; rfl)]
  rfl
 | succ n ih =>
  intro s h
  rcases first_at c s with hs | ⟨p,q,rfl,hp⟩
  ·rw [Gf hs,Lib.count_miss (by rw [Lib.index_one,index_of_none hs])]
   rfl
  ·have hi : Lib.index (p ++ c :: q) [c] = p.length:=by rw [Lib.index_one,index_of_first hp]
   rw [cut_at hp,Lib.count_hit (by simp) hi,show (p ++ c :: q).drop (p.length + [c].length) = q by simp,Nat.add_comm 1,Lib.splitK,hi]
   rw [if_neg (by first | (simp; done) | (simp; omega))]
   have i1:=ih q (by simp at h; omega)
   simp
   exact i1
theorem split_cut {s : List UInt8} {c : UInt8} : splitOf (sb s) (sb [c]) = (Qx c s).map sb:=by
 have h:=Lib.splitB_data (sb [c]) 0 (Lib.countB (sb s) (sb [c])) (sb s)
 have h2 : Lib.countB (sb s) (sb [c]) = Lib.count s [c]:=by simp [Lib.countB]
 simp only [sb_data] at h
 rw [h2,splitK_cut _ s (Nat.le_refl _)] at h
 unfold splitOf
 rw [h2]
 have : ∀ xs : List ByteArray,(xs.map (·.data.toList)).map sb = xs:=fun xs => by
  rw [List.map_map]
  have e : (sb ∘ (·.data.toList) : ByteArray→ByteArray) = id:=by funext x; exact sb_self x
  rw [e,List.map_id]
 rw [← h,this]
theorem splitO_cut {s : List UInt8} {c : UInt8} (h : s.length < 4294967281) : splitO (sb s) (sb [c]) = some ((Qx c s).map sb):=by
 unfold splitO
 rw [if_pos ⟨by simpa using h,by simp⟩,split_cut]
theorem ext_sb {s : List UInt8} {a b : Nat} : (sb s).extract a b = sb ((s.drop a).take (b - a)):=by
 apply ByteArray.ext
 apply Array.ext'
 simp [sb]
theorem Ja {s : List UInt8} {i : Nat} (h : i < s.length) : Wg (sb s) (i : Int) = some (s[i].toNat : Int):=by
 unfold Wg
 rw [if_pos (by omega),sb_data,Int.toNat_natCast,List.getElem?_eq_getElem h]
 rfl
theorem u8_eq {a b : UInt8} : Yx (a.toNat : Int) (b.toNat : Int) = decide (a = b):=by
 unfold Yx
 by_cases h : a = b
 ·subst h; simp
 ·have : (a.toNat : Int) ≠ (b.toNat : Int):=fun e => h (UInt8.toNat_inj.1 (by omega))
  simp [h,this]
theorem Kx {a b : List UInt8} : Jb (sb a) (sb b) = decide (a = b):=by
 unfold Jb
 simp only [sb_data]
 by_cases h : a = b
 ·subst h; simp
 ·simp [h]
def Zh (c : UInt8) : Bool:=48≤c.toNat && c.toNat≤57
def Kn (acc : Nat) : List UInt8→Nat
 | [] => acc
 | c :: l => Kn (acc * 10 + (c.toNat - 48)) l
theorem valL_append (a b : List UInt8) : ∀ acc,Kn acc (a ++ b) = Kn (Kn acc a) b:=by
 induction a with
 | nil => intro acc; rfl
 | cons c l ih => intro acc; exact ih _
theorem dig_dec : ∀ (n u : Nat),u≤n→(Lib.decDigits u).all Zh = true∧Kn 0 (Lib.decDigits u) = u∧1≤(Lib.decDigits u).length:=by
 have d : ∀ k,k < 10→Zh (UInt8.ofNat (48 + k)) = true∧(UInt8.ofNat (48 + k)).toNat - 48 = k:=by decide
 intro n
 induction n with
 | zero =>
  intro u h
  obtain ⟨d1,d2⟩:=d u (by omega)
  rw [Lib.decDigits,dif_pos (by omega)]
  refine ⟨by rw [List.all_cons,d1]; rfl,?_,by simp⟩
  show 0 * 10 + ((UInt8.ofNat (48 + u)).toNat - 48) = u
  omega
 | succ n ih =>
  intro u h
  rw [Lib.decDigits]
  split
  ·obtain ⟨d1,d2⟩:=d u (by omega)
   refine ⟨by rw [List.all_cons,d1]; rfl,?_,by simp⟩
   show 0 * 10 + ((UInt8.ofNat (48 + u)).toNat - 48) = u
   omega
  ·obtain ⟨i1,i2,i3⟩:=ih (u / 10) (by omega)
   obtain ⟨d1,d2⟩:=d (u % 10) (by omega)
   refine ⟨by rw [List.all_append,i1,List.all_cons,d1]; rfl,?_,by simp⟩
   rw [valL_append,i2]
   show u / 10 * 10 + ((UInt8.ofNat (48 + u % 10)).toNat - 48) = u
   omega
def Kr (s : List UInt8) : Bool:=s.all Zh && 1≤s.length && !(s.head? == some 48 && 1 < s.length)
theorem valL_lt (l : List UInt8) : ∀ (acc : Nat),l.all Zh = true→Kn acc l < (acc + 1) * 10 ^ l.length:=by
 induction l with
 | nil =>
  intro acc _
  have e : (acc + 1) * 10 ^ ([] : List UInt8).length = acc + 1:=Nat.mul_one _
  rw [e]
  exact Nat.lt_succ_self acc
 | cons c l ihl =>
  intro acc h
  simp only [List.all_cons,Bool.and_eq_true,Zh,decide_eq_true_eq] at h
  have ih:=ihl (acc * 10 + (c.toNat - 48)) h.2
  have hm : (acc * 10 + (c.toNat - 48) + 1) * 10 ^ l.length≤((acc + 1) * 10) * 10 ^ l.length:=Nat.mul_le_mul_right _ (by omega)
  have e : (acc + 1) * 10 ^ (c :: l).length = ((acc + 1) * 10) * 10 ^ l.length:=by
   rw [List.length_cons,Nat.pow_succ,Nat.mul_comm (10 ^ l.length) 10,Nat.mul_assoc]
  rw [e]
  exact Nat.lt_of_lt_of_le ih hm
theorem num_dec : ∀ (n : Nat) (s : List UInt8),s.length≤n→Kr s = true→Lib.decDigits (Kn 0 s) = s:=by
 intro n
 induction n with
 | zero =>
  intro s h hs
  simp only [Kr,Bool.and_eq_true,decide_eq_true_eq] at hs
  omega
 | succ n ih =>
  intro s h hs
  simp only [Kr,Bool.and_eq_true,decide_eq_true_eq,Bool.not_eq_true'] at hs
  obtain ⟨⟨h1,h2⟩,h3⟩:=hs
  rcases List.eq_nil_or_concat s with rfl | ⟨t,d,rfl⟩
  ·simp at h2
  ·rw [List.concat_eq_append] at *
   simp only [List.all_append,List.all_cons,List.all_nil,Bool.and_true,Bool.and_eq_true] at h1
   obtain ⟨ht,hd⟩:=h1
   have hd' : 48≤d.toNat∧d.toNat≤57:=by simpa [Zh] using hd
   have back : UInt8.ofNat (48 + (d.toNat - 48)) = d:=by
    rw [show 48 + (d.toNat - 48) = d.toNat by omega]
    simp
   cases t with
   | nil =>
    show Lib.decDigits (0 * 10 + (d.toNat - 48)) = [d]
    rw [Lib.decDigits,dif_pos (by omega),show 48 + (0 * 10 + (d.toNat - 48)) = 48 + (d.toNat - 48) by omega,back]
   | cons a t =>
    have hn : Kr (a :: t) = true:=by
     simp only [Kr,Bool.and_eq_true,decide_eq_true_eq,Bool.not_eq_true']
     refine ⟨⟨ht,by simp⟩,?_⟩
     simp at h3 ⊢
     intro e
     exact absurd e h3
    have i1:=ih (a :: t) (by simp at h ⊢; omega) hn
    have hpos : 1≤Kn 0 (a :: t):=by
     have ha : 48≤a.toNat∧a.toNat≤57:=by
      simp only [List.all_cons,Bool.and_eq_true] at ht
      simpa [Zh] using ht.1
     have hne : a.toNat ≠ 48:=fun e => by
      have : a = 48:=UInt8.toNat_inj.1 (by rw [e]; rfl)
      simp [this] at h3
     have ge : ∀ (l : List UInt8) (x : Nat),x≤Kn x l:=fun l => by
      induction l with
      | nil => intro x; exact Nat.le_refl _
      | cons d l ih => intro x; exact Nat.le_trans (by omega) (ih _)
     have:=ge t (0 * 10 + (a.toNat - 48))
     show 1≤Kn (0 * 10 + (a.toNat - 48)) t
     omega
    rw [valL_append]
    show Lib.decDigits (Kn 0 (a :: t) * 10 + (d.toNat - 48)) = _
    rw [Lib.decDigits,dif_neg (by omega),show (Kn 0 (a :: t) * 10 + (d.toNat - 48)) / 10 = Kn 0 (a :: t) by omega,show (Kn 0 (a :: t) * 10 + (d.toNat - 48)) % 10 = d.toNat - 48 by omega,i1,back]
theorem num_itoa {s : List UInt8} (h : Kr s = true) : Lib.itoa (Kn 0 s : Nat) = s:=by
 rw [itoa_nat (by omega),Int.toNat_natCast,num_dec _ s (Nat.le_refl _) h]
theorem itoa_num {n : Int} (h0 : 0≤n) : Kr (Lib.itoa n) = true∧(Kn 0 (Lib.itoa n) : Int) = n:=by
 obtain ⟨k,rfl⟩:=Int.eq_ofNat_of_zero_le h0
 rw [itoa_nat h0,Int.toNat_natCast]
 obtain ⟨a1,a2,a3⟩:=dig_dec k k (Nat.le_refl _)
 refine ⟨?_,by omega⟩
 simp only [Kr,Bool.and_eq_true,decide_eq_true_eq,Bool.not_eq_true']
 refine ⟨⟨a1,a3⟩,?_⟩
 have key : ∀ (n u : Nat),u≤n→1 < (Lib.decDigits u).length→(Lib.decDigits u).head? ≠ some 48:=by
  have d : ∀ k,k < 10→1≤k→UInt8.ofNat (48 + k) ≠ 48:=by decide
  intro n
  induction n with
  | zero => intro u h hl; rw [Lib.decDigits,dif_pos (by omega)] at hl; simp at hl
  | succ n ih =>
   intro u h hl
   rw [Lib.decDigits] at hl ⊢
   split at hl
   ·simp at hl
   ·rename_i hu
    rw [dif_neg hu]
    by_cases h10 : u / 10 < 10
    ·rw [Lib.decDigits,dif_pos h10]
     simp only [List.cons_append,List.nil_append,List.head?_cons,ne_eq,Option.some.injEq]
     exact d _ h10 (by omega)
    ·have h1 : 1 < (Lib.decDigits (u / 10)).length:=by
      rw [Lib.decDigits,dif_neg h10]
      have:=(dig_dec (u / 10 / 10) (u / 10 / 10) (Nat.le_refl _)).2.2
      simp
      omega
     have:=ih (u / 10) (by omega) h1
     cases hd : Lib.decDigits (u / 10) with
     | nil => rw [hd] at h1; simp at h1
     | cons a b => rw [hd] at this; simpa using this
 by_cases hl : 1 < (Lib.decDigits k).length
 ·have:=key k k (Nat.le_refl _) hl
  simp [this,hl]
 ·simp [hl]
end Go.VL

namespace Go.VL
open Go.RowKit
set_option linter.unusedSimpArgs false
set_option linter.unusedVariables false
def Xr (P : Program) (f : FuncId) {α β : Type} (g : α→Option β) (eT : α→List V) (eX : α→VM) (eR : β→V) (eY : α→β→VM) (cl : V→V) (nb : Nat) : Prop :=
 ∃ fn c,P.funcs[f]? = some fn∧(fn.name != "runtime.NumGoroutine") = true∧fn.body = some c∧∀ a r,g a = some r→∀ gg : List V,gg.map cl = gg→gg.all (Zx nb) = true →
  VW P c (VInE P fn.results.toList (eR r) (eY a r) gg) { t:=eT a ++ List.replicate (fn.ntmps - (eT a).length) .any,m:=eX a,g:=gg }
section
variable {P : Program} {C : Qc} {f : FuncId} {α β : Type} {g : α→Option β} {eT : α→List V} {eX : α→VM} {eR : β→V} {eY : α→β→VM} {cl : V→V} {nb : Nat}
def VInX (P : Program) (rs : List ResultVar) (r : V) (m' : VM) (g' : List V) : Exit→VS→Prop
 | .normal,s | .ret,s => ∃ s',Qm s s'∧Qn P rs s' = some r∧s'.m = m'∧s'.g = g'
 | _,_ => False
theorem VInX.fin {rs : List ResultVar} {r : V} {m' : VM} {g' : List V} {s s' : VS} (he : Qm s s') (h1 : Qn P rs s' = some r) (h2 : s'.m = m') (h3 : s'.g = g') : ∃ s',Qm s s'∧Qn P rs s' = some r∧s'.m = m'∧s'.g = g':=⟨s',he,h1,h2,h3⟩
theorem Xr.of {fn : Func} {c : Code} {rs : List ResultVar} {k : Nat} (hf : P.funcs[f]? = some fn) (hname : (fn.name != "runtime.NumGoroutine") = true) (hb : fn.body = some c) (hk : fn.ntmps = k) (hr : fn.results.toList = rs)
  (h : ∀ a r,g a = some r→∀ gg : List V,gg.map cl = gg→gg.all (Zx nb) = true→VW P c (VInX P rs (eR r) (eY a r) gg) { t:=eT a ++ List.replicate (k - (eT a).length) .any,m:=eX a,g:=gg }) : Xr P f g eT eX eR eY cl nb:=by
 subst hk hr
 refine ⟨fn,c,hf,hname,hb,fun a r hg gg h1 h2 => Uc ((h a r hg gg h1 h2).mono fun e s hq => ?_)⟩
 cases e with
 | normal => obtain ⟨s',k1,k2⟩:=hq; exact ⟨s',k1,k2⟩
 | ret => obtain ⟨s',k1,k2⟩:=hq; exact ⟨s',k1,k2⟩
 | exit id => exact hq.elim
 | goto l => exact hq.elim
 | panic c => exact hq.elim
 | outgrown => exact hq.elim
variable {ops : Array Oper} {Q : Exit→VS→Prop} {st : VS} {o : Oper} {l : List Oper}
theorem VL.unguard (hw : Zm ops st.t o = some true) (h : VL P ops Q ({ o with guard:=none } :: l) st) : VL P ops Q (o :: l) st:=by
 intro N w0 a w φ hs
 have h1:=h N w0 a w φ hs
 have hw2 : Zm ops st.t { o with guard:=none } = some true:=by unfold Zm; rfl
 unfold wpList at h1 ⊢
 rw [Xj hw hs,if_pos rfl]
 rw [Xj hw2 hs,if_pos rfl] at h1
 exact h1
theorem Zq {args : Array Operand} {ats : Array TypeId} (hT : Xr P f g eT eX eR eY cl nb) (a : α) (r : β) (hg : g a = some r) (hw : Zm ops st.t o = some true)
  (ho : o.op = .call { callee:=.value (.func f),args:=args,argTypes:=ats }) (ha : args.toList.map (ev st.t) = eT a) (hm : st.m = eX a) (hcl : (st.t ++ st.g).map cl = st.t ++ st.g) (hbd : (st.t ++ st.g).all (Zx nb) = true)
  (h : VL P ops Q l { t:=Xh st.t o.dst (eR r),m:=eY a r,g:=st.g }) : VL P ops Q (o :: l) st:=by
 obtain ⟨fn,c,h1,h2,h3,h4⟩:=hT
 refine VL.unguard hw ?_
 have hsz : args.size = (eT a).length:=by
  have:=congrArg List.length ha
  simpa using this
 have h5:=h4 a r hg (st.t ++ st.g) hcl hbd
 refine VL.inl (o:={ o with guard:=none }) rfl ho h1 h2 h3 ?_
 rw [ha,hsz,hm]
 refine h5.mono fun e s hq => ?_
 have key : Qn P fn.results.toList s = some (eR r)∧s.m = eY a r∧s.g = st.t ++ st.g→∃ v,Qn P fn.results.toList s = some v∧VL P ops Q l { t:=Xh (s.g.take st.t.length) o.dst v,m:=s.m,g:=s.g.drop st.t.length }:=fun ⟨k1,k2,k3⟩ => by
  refine ⟨_,k1,?_⟩
  rw [k2,k3,List.take_left,List.drop_left]
  exact h
 cases e with
 | normal => exact key hq
 | ret => exact key hq
 | exit id => exact hq.elim
 | goto l => exact hq.elim
 | panic c => exact hq.elim
 | outgrown => exact hq.elim
theorem Zv {l : List Oper} (i : Nat) (t1 : List V) (m1 : VM) (g1 : List V) (hC : C.Ok P) (hgp : Xp ops ((l.take i).length + 3) none (l.take i) = true) (hpre : toSt (Wj P C ops ((l.take i).length + 3) none (l.take i) st) t1 m1 g1)
  (h : VL P ops (fun e s => ∃ s',Qm s s'∧Q e s') (l.drop i) { t:=t1,m:=m1,g:=g1 }) : VL P ops (fun e s => ∃ s',Qm s s'∧Q e s') l st:=by
 obtain ⟨t,h1,h2⟩:=hpre.get
 have hpost : VL P ops (fun e s => ∃ s',Qm s s'∧Q e s') (l.drop i) { t:=t,m:=m1,g:=g1 }:=VL.ent (Km h2) h
 have:=(Ur _ _ _ _ _ h1 hgp (fun _ _ h => by cases h)).vl (Q:=fun e s => ∃ s',Qm s s'∧Q e s') (rest:=l.drop i) hC hpost
 rwa [List.take_append_drop] at this
theorem ifB {γ δ : Type} {b : Bool} {A B : Option γ} {K : γ→Option δ} {o : δ} (h : (if b = true then A else B).bind K = some o) : (b = true∧A.bind K = some o)∨(b = false∧B.bind K = some o):=by
 cases b
 ·exact .inr ⟨rfl,h⟩
 ·exact .inl ⟨rfl,h⟩
theorem bndV_le {n k : Nat} (h : n≤k) {v : V} (hv : Zs n v = true) : Zs k v = true:=by
 unfold Zs at *
 split at hv <;> first | (simp only [decide_eq_true_eq] at *; omega) | exact hv
theorem bndT_le {n k : Nat} (h : n≤k) {v : V} (hv : Zx n v = true) : Zx k v = true:=by
 unfold Zx at *
 split at hv
 ·rw [List.all_eq_true] at *
  exact fun x hx => bndV_le h (hv x hx)
 ·rw [List.all_eq_true] at *
  exact fun x hx => bndV_le h (hv x hx)
 ·exact bndV_le h hv
theorem Yy {n k : Nat} {gg : List V} (hg : gg.all (Zx n) = true) (h : n≤k) : gg.all (Zx k) = true:=by
 rw [List.all_eq_true] at *
 exact fun x hx => bndT_le h (hg x hx)
end
end Go.VL

namespace Go.VL
open Go.RowKit
set_option linter.unusedSimpArgs false
set_option linter.unusedVariables false
section
variable {P : Program} {ops : Array Oper} {tr : List Hi} {t0 : List V} {M : VM}
theorem draw_sound2 (p : Nat) {Q : Exit→VS→Prop} {g0 : List V} {N : Fr} {w0 : World × List Value} {k0 : Nat} (hlex : Qu ops.toList = true) (hlen : ops.size = tr.length)
  (hrows : ∀ (j : Nat) (o : Oper) (r : Hi),p≤j→ops[j]? = some o→tr[j]? = some r→RowOk P ops M tr t0 j o r) (hk0 : ∀ (j : Nat) (r : Hi),tr[j]? = some r→k0≤r.2.1) (hdis : ∀ (i j : Nat) (r s : Hi),i < j→tr[i]? = some r→tr[j]? = some s→r.2.1 + r.2.2≤s.2.1)
  (hQ : Q .normal { t:=TL ops tr t0 (fun _ => true) ops.size,m:=M,g:=g0 }) :
  ∀ (fuel : Nat) (listed : Array Bool) (L : Nat→Bool),(∀ j,j < p→L j = true)→listed.size = ops.size→(∀ j,j < ops.size→listed.getD j true = L j)→(List.range ops.size).countP (fun j => !L j) = fuel →
   (∀ j oj,L j = true→ops[j]? = some oj→∀ e ∈ oj.after,Region.binds .any e = true→L e.on = true) →
   ∀ (a : Act) (w : World) (φ : Pl),SR P N w0 { t:=TL ops tr t0 L ops.size,m:=M,g:=g0 } a w φ→Dom tr k0 L φ →
    wpAny P .any ops (fun e a' w' => ∃ st' φ',Q e st'∧SR P N w0 st' a' w' φ') fuel listed a w:=by
 have spec:=Ho hlex
 have allL : ∀ (listed : Array Bool) (L : Nat→Bool),listed.size = ops.size→(∀ j,j < ops.size→listed.getD j true = L j)→Region.ready .any ops listed = []→∀ j,j < ops.size→L j = true:=by
  intro listed L hsz hL hr j
  induction j using Nat.strongRecOn with
  | ind j ih =>
   intro hj
   cases hLj : L j with
   | true => rfl
   | false =>
    exfalso
    obtain ⟨oj,hoj⟩ : ∃ oj,ops[j]? = some oj:=⟨ops[j],by simp [hj]⟩
    have : j ∈ Region.ready .any ops listed:=mem_ready.2 ⟨(hL j hj).trans hLj,oj,hoj,fun e he hb => by
     have hlt:=(spec j oj hoj).1 e he hb
     have h1:=ih e.on hlt (by omega)
     rw [← hL e.on (by omega)] at h1
     have : e.on < listed.size:=by omega
     simpa [this] using h1⟩
    rw [hr] at this
    cases this
 have finish : ∀ (listed : Array Bool) (L : Nat→Bool),listed.size = ops.size→(∀ j,j < ops.size→listed.getD j true = L j)→Region.ready .any ops listed = []→TL ops tr t0 L ops.size = TL ops tr t0 (fun _ => true) ops.size:=by
  intro listed L hsz hL hr
  have h:=allL listed L hsz hL hr
  have : ∀ n,n≤ops.size→TL ops tr t0 L n = TL ops tr t0 (fun _ => true) n:=by
   intro n
   induction n with
   | zero => intro _; rfl
   | succ n ih => intro hle; simp only [TL,ih (by omega),h n (by omega)]
  exact this _ (Nat.le_refl _)
 intro fuel
 induction fuel with
 | zero =>
  intro listed L hpL hsz hL hc hW a w φ hs hd
  have hr : Region.ready .any ops listed = []:=by
   cases h : Region.ready .any ops listed with
   | nil => rfl
   | cons i rest =>
    exfalso
    have hi : i ∈ Region.ready .any ops listed:=by rw [h]; simp
    obtain ⟨b1,o,b2,b3⟩:=mem_ready.1 hi
    have hlt:=(Array.getElem?_eq_some_iff.1 b2).1
    have:=List.countP_eq_zero.1 hc i (List.mem_range.2 hlt)
    rw [hL i hlt] at b1
    simp [b1] at this
  refine ⟨hr,_,φ,hQ,?_⟩
  rw [finish listed L hsz hL hr] at hs
  exact hs
 | succ fuel ih =>
  intro listed L hpL hsz hL hc hW a w φ hs hd
  refine ⟨fun hr => ⟨_,φ,hQ,by rw [finish listed L hsz hL hr] at hs; exact hs⟩,fun i hi => ?_⟩
  obtain ⟨b1,o,hoi,b3⟩:=mem_ready.1 hi
  have hlt:=(Array.getElem?_eq_some_iff.1 hoi).1
  have hLi : L i = false:=by rw [← hL i hlt]; exact b1
  obtain ⟨r,hri⟩ : ∃ r,tr[i]? = some r:=⟨tr[i]'(by omega),by simp [show i < tr.length by omega]⟩
  have hready : ∀ e ∈ o.after,Region.binds .any e = true→L e.on = true:=fun e he hb => by
   have h1:=b3 e he hb
   have hlt' : e.on < ops.size:=Nat.lt_trans ((spec i o hoi).1 e he hb) hlt
   have h2:=hL e.on hlt'
   have : e.on < listed.size:=by omega
   simp [this] at h1 h2
   rw [h1] at h2
   exact h2.symm
  have early : ∀ j oj,j < i→ops[j]? = some oj→L j = false→oj.apart ops o = true:=fun j oj hj hoj hLj => by
   rcases (spec j oj hoj).2 i o hj hoi with ⟨e,he,hb,heq⟩ | h
   ·have:=hready e he hb
    rw [heq,hLj] at this
    cases this
   ·exact h
  have late : ∀ j oj,i < j→ops[j]? = some oj→L j = true→o.apart ops oj = true:=fun j oj hj hoj hLj => by
   rcases (spec i o hoi).2 j oj hj hoj with ⟨e,he,hb,heq⟩ | h
   ·have:=hW j oj hLj hoj e he hb
    rw [heq,hLi] at this
    cases this
   ·exact h
  have agree : ∀ d,d ∈ o.looksAt ops→(TL ops tr t0 L ops.size)[d]? = (TL ops tr t0 (fun _ => true) i)[d]?:=fun d hd =>
   TL_agree (fun j oj hj hoj hjd => by
    cases hLj : L j with
    | true => rfl
    | false => exact absurd hd ((Oper.apart_spec (early j oj hj hoj hLj)).1 d hjd)) (Nat.le_of_lt hlt) fun j oj hj hjn hLj hoj hjd => by
    by_cases hji : i = j
    ·subst hji; rw [hLi] at hLj; cases hLj
    ·exact (Oper.apart_spec (late j oj (by omega) hoj hLj)).2.2 d hjd hd
  obtain ⟨e1,e2⟩:=eval_agree (ops:=ops) agree
  have hput : TL ops tr t0 (fun x => L x || x == i) ops.size = Xh (TL ops tr t0 L ops.size) o.dst r.1 :=
   TL_put hoi hri hLi hlt fun j oj h1 h2 h3 h4 d hd => (Oper.apart_spec (late j oj h1 h4 h3)).2.1 d hd
  have cont : ∀ (a' : Act) (w' : World) (φ' : Pl),SR P N w0 { t:=Xh (TL ops tr t0 L ops.size) o.dst r.1,m:=M,g:=g0 } a' w' φ'→Dom tr k0 (fun x => L x || x == i) φ' →
    wpAny P .any ops (fun e a' w' => ∃ st' φ',Q e st'∧SR P N w0 st' a' w' φ') fuel (listed.setIfInBounds i true) a' w':=fun a' w' φ' hs' hd' => by
   refine ih (listed.setIfInBounds i true) (fun x => L x || x == i) (fun j hj => by simp [hpL j hj]) (by simp [hsz]) (fun j hj => ?_) ?_ (fun j oj hLj hoj e he hb => ?_) a' w' φ' (by rw [hput]; exact hs') hd'
   ·by_cases hij : i = j
    ·subst hij
     have : i < listed.size:=by omega
     simp [this]
    ·rw [getD_set_ne true hij,hL j hj]
     simp [show (j == i) = false by simp; omega]
   ·have:=Gh hLi ops.size hlt
    omega
   ·by_cases hij : j = i
    ·subst hij
     rw [hoi] at hoj
     cases hoj
     simp [hready e he hb]
    ·have hLj' : L j = true:=by simpa [hij] using hLj
     simp [hW j oj hLj' hoj e he hb]
  unfold wpOp
  simp only [hoi]
  have hmono : ∀ φ',(∀ b p,φ' b = some p→φ b = some p∨(r.2.1≤b∧b < r.2.1 + r.2.2))→Dom tr k0 (fun x => L x || x == i) φ':=fun φ' h b p hb => by
   rcases h b p hb with h | ⟨h1,h2⟩
   ·rcases hd b p h with h | ⟨j,s,a1,a2,a3,a4⟩
    ·exact .inl h
    ·exact .inr ⟨j,s,by simp [a1],a2,a3,a4⟩
   ·exact .inr ⟨i,r,by simp,hri,h1,h2⟩
  rcases hrows i o r (Nat.le_of_not_lt fun h => by rw [hpL i h] at hLi; cases hLi) hoi hri with ⟨hw,hr1,hr2⟩ | ⟨hw,ho⟩
  ·rw [Xj (e2.trans hw) hs,if_neg (by simp)]
   refine cont _ w φ ?_ (hmono φ fun b p hb => .inl hb)
   rw [hr1]
   exact hs.put S.und hs.mem (Ev.refl _ _ _) (Bel.refl _ _)
  ·rw [Xj (e2.trans hw) hs,if_pos rfl]
   left
   refine ho N a w φ _ _ hs.start hs.glob hs.mem (fun x hx => by rw [← e1 x hx]; exact hs.eval x) (fun x hx => ?_) fun u w' φ' h1 h2 h3 h4 h5 => cont _ w' φ' (hs.put h1 h2 h3 h4) (hmono φ' h5)
   cases hφ : φ (r.2.1 + x) with
   | none => rfl
   | some p =>
    exfalso
    rcases hd _ p hφ with h | ⟨j,s,a1,a2,a3,a4⟩
    ·have:=hk0 i r hri
     omega
    ·rcases Nat.lt_trichotomy i j with h | h | h
     ·have:=hdis i j r s h hri a2; omega
     ·subst h; rw [hLi] at a1; cases a1
     ·have:=hdis j i s r h a2 hri; omega
end
def Gk (n p : Nat) : Array Bool:=((List.range n).map fun j => decide (j < p)).toArray
theorem arrP_get {n p j : Nat} (h : j < n) : (Gk n p).getD j true = decide (j < p):=by simp [Gk,h]
theorem arrP_zero {n : Nat} : Gk n 0 = Array.replicate n false:=by
 apply Array.ext
 ·simp [Gk]
 ·intro i h1 h2; simp [Gk]
theorem arrP_set {n p : Nat} (h : p < n) : (Gk n p).setIfInBounds p true = Gk n (p + 1):=by
 apply Array.ext
 ·simp [Gk]
 ·intro i h1 h2
  rw [Array.getElem_setIfInBounds]
  ·simp only [Gk,List.getElem_toArray,List.getElem_map,List.getElem_range]
   by_cases hi : p = i
   ·subst hi; simp
   ·rw [if_neg hi]; congr 1; simp; omega
  ·simpa [Gk] using h1
section
variable {P : Program} {C : Qc} {Q : Exit→VS→Prop} {st : VS}
theorem VA.ent {ops : Array Oper} {n : Nat} {listed : Array Bool} {st s : VS} (he : Qm st s) (h : VA P ops Q n listed s) : VA P ops Q n listed st:=fun N w0 a w φ hs => by
 obtain ⟨φ',hs'⟩:=he P N w0 a w φ hs
 exact h N w0 a w φ' hs'
theorem countP_lt (p : Nat) : ∀ n,(List.range n).countP (fun j => !decide (j < p)) = n - p
 | 0 => by simp
 | n + 1 => by
  rw [List.range_succ,List.countP_append,countP_lt p n]
  by_cases h : n < p
  ·simp [h]; omega
  ·simp [h]; omega
theorem wpList_monoQ {ops : Array Oper} {Q Q' : Exit→Act→World→Prop} (hq : ∀ e a w,Q e a w→Q' e a w) : ∀ {l : List Oper} {a : Act} {w : World},wpList P ops Q l a w→wpList P ops Q' l a w
 | [],_,_,h => hq _ _ _ h
 | o :: l,a,w,h => by
  unfold wpList at h ⊢
  split
  ·rename_i hw
   rw [if_pos hw] at h
   rcases h with h | ⟨h1,a',w',h2⟩
   ·exact .inl (wp_mono2 (fun _ _ k => wpList_monoQ hq k) (fun e a w _ k => hq e a w k) h)
   ·exact .inr ⟨h1,a',w',hq _ _ _ h2⟩
  ·rename_i hw
   rw [if_neg hw] at h
   exact wpList_monoQ hq h
theorem TL_same {ops : Array Oper} {tr : List Hi} {t : List V} {L : Nat→Bool} {p : Nat} (hr : ∀ j o r,j < p→ops[j]? = some o→tr[j]? = some r→∀ d,o.dst = some d→d < t.length→t[d]? = some r.1) : ∀ n,n≤p→TL ops tr t L n = t
 | 0,_ => rfl
 | n + 1,hn => by
  have ih:=TL_same (L:=L) hr n (by omega)
  simp only [TL]
  split
  ·rename_i o r ho hrr
   rw [ih]
   split
   ·apply List.ext_getElem?
    intro d
    rw [putV_get]
    split
    ·rename_i h; exact (hr n o r (by omega) ho hrr d h.1 h.2).symm
    ·rfl
   ·rfl
  ·exact ih
theorem VA.draw {l : List Oper} {st' : VS} (p : Nat) (hlex : Qu l = true) (hp : p≤l.length) (h : DL P l.toArray (l.drop p) st st') (hQ : Q .normal st') : VA P l.toArray Q (l.length - p) (Gk l.length p) st:=fun N w0 a w φ hs => by
 obtain ⟨hg,bl,hbl,h'⟩:=h
 obtain ⟨tr',h,hde⟩:=h' []
 rw [List.append_nil,hbl] at h
 generalize htr : (l.take p).map (fun o => ((match o.dst with | some d => st.t.getD d .any | none => .any,st.m.length,0) : Hi)) ++ tr' = tr
 have hlen1 : ((l.take p).map (fun o => ((match o.dst with | some d => st.t.getD d .any | none => .any,st.m.length,0) : Hi))).length = p:=by simp; omega
 have htr1 : ∀ j,tr'[j]? = tr[p + j]?:=fun j => by
  rw [← htr,List.getElem?_append_right (by omega),hlen1]; congr 1; omega
 have htr0 : ∀ j r,j < p→tr[j]? = some r→∃ o,l[j]? = some o∧r = (match o.dst with | some d => st.t.getD d .any | none => .any,st.m.length,0):=fun j r hj hr => by
  rw [← htr,List.getElem?_append_left (by omega),List.getElem?_map,List.getElem?_take,if_pos hj] at hr
  cases hl : l[j]? with
  | none => rw [hl] at hr; cases hr
  | some o => rw [hl] at hr; exact ⟨o,rfl,(Option.some.inj hr).symm⟩
 have same : ∀ L n,n≤p→TL l.toArray tr st.t L n = st.t:=fun L n hn => TL_same (p:=p) (fun j o r hj ho hr d hd hlt => by
  obtain ⟨o',h1,h2⟩:=htr0 j r hj hr
  have : l[j]? = some o:=by simpa using ho
  rw [this] at h1
  cases h1
  rw [h2,hd]
  simp [List.getD,hlt]) n hn
 obtain ⟨h1,h2,h3,h4⟩:=DT.rows (tr:=tr) (n:=p) (t0:=st.t) h (fun j => by simp) htr1 (same _ p (Nat.le_refl _)).symm
 have hfin:=DE.final (ops:=l.toArray) (tr:=tr) (t0:=st.t) hde p (fun j => by simp) htr1 (same _ p (Nat.le_refl _)).symm
 have hs2:=hs.more bl
 have hsz : l.toArray.size = l.length:=by simp
 have htl : TL l.toArray tr st.t (fun j => decide (j < p)) l.toArray.size = st.t:=by
  have : ∀ n,p≤n→TL l.toArray tr st.t (fun j => decide (j < p)) n = st.t:=fun n hn => by
   induction n with
   | zero => exact same _ 0 (by omega)
   | succ n ih =>
    by_cases hpn : p≤n
    ·simp only [TL]
     split
     ·rw [if_neg (by simp; omega)]; exact ih hpn
     ·exact ih hpn
    ·exact same _ (n + 1) (by omega)
  exact this _ (by omega)
 have hst' : st' = { t:=TL l.toArray tr st.t (fun _ => true) l.toArray.size,m:=st.m ++ bl,g:=st.g }:=by
  have e : p + (l.drop p).length = l.toArray.size:=by simp; omega
  rw [e] at hfin
  cases st'
  simp only at hbl hfin hg
  subst hbl
  subst hfin
  subst hg
  rfl
 have hcount : (List.range l.toArray.size).countP (fun j => !decide (j < p)) = l.length - p:=by
  rw [hsz]
  exact countP_lt p _
 refine draw_sound2 (tr:=tr) (t0:=st.t) (M:=st.m ++ bl) (k0:=st.m.length) p hlex (by rw [← htr]; simp at h1 ⊢; omega) (fun j o r hj ho hr => ?_) (fun j r hr => ?_) (fun i j r s hij hr hs' => ?_) (by rw [← hst']; exact hQ) _ _ (fun j => decide (j < p)) (fun j hj => by simpa using hj) (by simp [Gk]) (fun j hj => arrP_get (by simpa using hj)) hcount (fun j oj hj ho e he hb => ?_) a w φ (by rw [htl]; exact hs2) fun b q hb => .inl (hs.mem.dom b q hb)
 ·have:=h2 (j - p) o r (by simpa [show p + (j - p) = j by omega] using ho) (by rw [htr1,show p + (j - p) = j by omega]; exact hr)
  rwa [show p + (j - p) = j by omega] at this
 ·by_cases hj : j < p
  ·obtain ⟨o,_,h6⟩:=htr0 j r hj hr
   rw [h6]; exact Nat.le_refl _
  ·exact h3 (j - p) r (by rw [htr1,show p + (j - p) = j by omega]; exact hr)
 ·by_cases hj : j < p
  ·obtain ⟨o,_,h6⟩:=htr0 i r (by omega) hr
   obtain ⟨o',_,h7⟩:=htr0 j s hj hs'
   rw [h6,h7]; exact Nat.le_refl _
  ·by_cases hi : i < p
   ·obtain ⟨o,_,h6⟩:=htr0 i r hi hr
    have:=h3 (j - p) s (by rw [htr1,show p + (j - p) = j by omega]; exact hs')
    rw [h6]; exact this
   ·exact h4 (i - p) (j - p) r s (by omega) (by rw [htr1,show p + (i - p) = i by omega]; exact hr) (by rw [htr1,show p + (j - p) = j by omega]; exact hs')
 ·have h5:=(Ho (ops:=l.toArray) (by simpa using hlex) j oj ho).1 e he hb
  have : j < p:=by simpa using hj
  simp; omega
theorem chain_wpP {l : List Oper} {Q : Exit→Act→World→Prop} (p : Nat) (hp : p≤l.length) (hr : ∀ k,k < p→Region.ready .any l.toArray (Gk l.length k) = [k]) : ∀ (q k : Nat),k + q = p→∀ (a : Act) (w : World),
  wpList P l.toArray (fun e a w => (e = .normal∧wpAny P .any l.toArray Q (l.length - p) (Gk l.length p) a w)∨(e ≠ .normal∧Q e a w)) ((l.take p).drop k) a w→wpAny P .any l.toArray Q (l.length - k) (Gk l.length k) a w:=by
 intro q
 induction q with
 | zero =>
  intro k hk a w h
  have : k = p:=by omega
  subst this
  rw [List.drop_eq_nil_of_le (by simp; omega)] at h
  rcases h with h | h
  ·exact h.2
  ·exact absurd rfl h.1
 | succ q ih =>
  intro k hk a w h
  have hlt : k < l.length:=by omega
  have hlk : k < (l.take p).length:=by simp; omega
  rw [show l.length - k = (l.length - (k + 1)) + 1 by omega]
  refine ⟨fun h' => absurd h' (by rw [hr k (by omega)]; simp),fun i hi => ?_⟩
  rw [hr k (by omega)] at hi
  have hik : i = k:=by simpa using hi
  subst hik
  rw [← List.getElem_cons_drop hlk] at h
  have ho : l.toArray[i]? = some l[i]:=by simp
  have e1 : (l.take p)[i] = l[i]:=by simp
  rw [e1] at h
  have go:=ih (i + 1) (by omega)
  unfold wpList at h
  unfold wpOp
  simp only [ho]
  have go2 : ∀ a' w',wpList P l.toArray (fun e a w => (e = .normal∧wpAny P .any l.toArray Q (l.length - p) (Gk l.length p) a w)∨(e ≠ .normal∧Q e a w)) ((l.take p).drop (i + 1)) a' w'→wpAny P .any l.toArray Q (l.length - (i + 1)) ((Gk l.length i).setIfInBounds i true) a' w':=fun a' w' hh => by
   rw [arrP_set hlt]
   exact go a' w' hh
  have keyQ : ∀ e a' w',e ≠ Exit.normal→((e = .normal∧wpAny P .any l.toArray Q (l.length - p) (Gk l.length p) a' w')∨(e ≠ .normal∧Q e a' w'))→Q e a' w':=fun e a' w' he hh => by
   rcases hh with hh | hh
   ·exact absurd hh.1 he
   ·exact hh.2
  split
  ·rename_i hw
   rw [if_pos hw] at h
   rcases h with h | ⟨h1,h2⟩
   ·exact .inl (wp_mono2 go2 keyQ h)
   ·refine .inr ⟨h1,?_⟩
    obtain ⟨a',w',h3⟩:=h2
    exact ⟨a',w',keyQ _ _ _ (by simp) h3⟩
  ·rename_i hw
   rw [if_neg hw] at h
   exact go2 _ _ h
def PreQ (P : Program) (l : List Oper) (p : Nat) (Q : Exit→VS→Prop) : Exit→VS→Prop:=fun e s => (e = .normal∧VA P l.toArray (fun e s => ∃ s',Qm s s'∧Q e s') (l.length - p) (Gk l.length p) s)∨(e ≠ .normal∧∃ s',Qm s s'∧Q e s')
def readyOk (l : List Oper) (p : Nat) : Bool:=decide (p≤l.length) && (List.range p).all fun k => Region.ready .any l.toArray (Gk l.length k) == [k]
theorem VW.chainP {id : Nat} {l : List Oper} (p : Nat) (hm : P.follows .mixedOrders = true) (hc : readyOk l p = true) (h : VL P l.toArray (fun e s => ∃ s',Qm s s'∧PreQ P l p Q e s') (l.take p) st) : VW P (.region id l.toArray true) Q st:=by
 refine Uc (VW.any hm fun N w0 a w φ hs => ?_)
 simp only [readyOk,Bool.and_eq_true,decide_eq_true_eq,List.all_eq_true,List.mem_range,beq_iff_eq] at hc
 have:=chain_wpP (P:=P) (l:=l) (Q:=fun e a' w' => ∃ st' φ',(∃ s',Qm st' s'∧Q e s')∧SR P N w0 st' a' w' φ') p hc.1 hc.2 p 0 (by omega) a w (by
  rw [List.drop_zero]
  refine wpList_monoQ ?_ (h N w0 a w φ hs)
  rintro e a' w' ⟨s1,φ1,⟨s2,he,h1⟩,h2⟩
  obtain ⟨φ2,h3⟩:=he P N w0 a' w' φ1 h2
  rcases h1 with ⟨rfl,h1⟩ | ⟨h0,s3,h4,h5⟩
  ·exact .inl ⟨rfl,h1 N w0 a' w' φ2 h3⟩
  ·exact .inr ⟨h0,s2,φ2,⟨s3,h4,h5⟩,h3⟩)
 simpa [arrP_zero] using this
theorem VL.endP {ops : Array Oper} {l : List Oper} (p : Nat) (t' : List V) (m' : VM) (g' : List V) (hC : C.Ok P) (hlex : Qu l = true) (hp : (decide (p≤l.length) && Ud (l.drop p) && Xp l.toArray ((l.drop p).length + 3) none (l.drop p)) = true)
  (h : toSt (Wj P C l.toArray ((l.drop p).length + 3) none (l.drop p) st) t' m' g') (hQ : Q .normal { t:=t',m:=m',g:=g' }) : VL P ops (fun e s => ∃ s',Qm s s'∧PreQ P l p Q e s') [] st:=by
 obtain ⟨t,h1,h2⟩:=h.get
 simp only [Bool.and_eq_true,decide_eq_true_eq] at hp
 refine VL.nil ⟨_,Qm.refl _,.inl ⟨rfl,VA.draw p hlex hp.1.1 ?_ ⟨_,Km h2,hQ⟩⟩⟩
 have:=(Ur _ _ _ _ _ h1 hp.2 (fun _ _ h => by cases h)).dl (rest:=[]) hC hp.1.2 DL.nil
 simpa using this
end
end Go.VL

namespace Go.VL
set_option linter.unusedSimpArgs false
set_option linter.unusedVariables false
open Go.RowKit
theorem Qm.killTo {t g : List V} {m m' : VM} (b : Nat) (h : VL.killM b m = m') : Qm { t:=t,m:=m,g:=g } { t:=t,m:=m',g:=g }:=by
 subst h; exact Qm.killM b
theorem Zu {P : Program} {ops : Array Oper} {Q : Exit→VS→Prop} {l : List Oper} {st : VS} {t' g' : List V} {m' : VM} (ht : leL st.t t') (hm : st.m = m') (hg : st.g = g') (h : VL P ops Q l { t:=t',m:=m',g:=g' }) : VL P ops Q l st:=by
 subst hm hg
 exact VL.ent (Km ht) h
theorem Xr.iter2 {P : Program} {f : FuncId} {cl : V→V} {nb : Nat} {κ α β : Type} {eT : κ × α→List V} {eX : κ × α→VM} {eR : β→V} {eY : κ × α→β→VM} {body : (α→Option β)→α→Option β} (n : Nat) (hf : (P.funcs[f]?).any (fun fn => fn.body.isSome && fn.name != "runtime.NumGoroutine") = true)
  (h : ∀ self : α→Option β,Xr P f (fun a : κ × α => self a.2) eT eX eR eY cl nb→Xr P f (fun a : κ × α => body self a.2) eT eX eR eY cl nb) : Xr P f (fun a : κ × α => iterO body n a.2) eT eX eR eY cl nb:=by
 obtain ⟨fn,h1,h2⟩ : ∃ fn,P.funcs[f]? = some fn∧(fn.body.isSome && fn.name != "runtime.NumGoroutine") = true:=by
  cases hh : P.funcs[f]? with
  | none => rw [hh] at hf; simp at hf
  | some fn => rw [hh] at hf; exact ⟨fn,rfl,by simpa using hf⟩
 simp only [Bool.and_eq_true] at h2
 obtain ⟨c,hc⟩:=Option.isSome_iff_exists.1 h2.1
 induction n with
 | zero => exact ⟨fn,c,h1,h2.2,hc,fun a r hr => by cases hr⟩
 | succ n ih => exact h _ ih
theorem Qm.mvC {t t' g : List V} {m : VM} (b0 b1 n1 c n : Nat) (cs cs' : List V) (es1 : List (List V)) (m' : VM) (hne : b0 ≠ b1) (hlt : b0 < m.length) (hb1 : m[b1]? = some (some (n1,es1))) (hc0 : c ≠ b0) (hc1 : c ≠ b1) (hc : m[c]? = some (some (n,[cs]))) (hcs : mvL b0 b1 cs cs') (hpl : Qp es1 = true) (ht : mvL b0 b1 t t') (hg0 : g.all (noBT b0) = true) (hg1 : g.all (noBT b1) = true)
  (hm0 : noBM b0 (((m.set b0 none).set b1 none).set c none) = true) (hm1 : noBM b1 (((m.set b0 none).set b1 none).set c none) = true) (hm' : ((m.set b0 (some (n1,es1))).set b1 none).set c (some (n,[cs'])) = m') : Qm { t:=t,m:=m,g:=g } { t:=t',m:=m',g:=g }:=by
 subst hm'
 intro P N w0 a w φ hs
 generalize hM : ((m.set b0 (some (n1,es1))).set b1 none).set c (some (n,[cs'])) = M
 obtain ⟨q1,q2⟩:=hcs.get
 have hltc : c < m.length:=(List.getElem?_eq_some_iff.1 hc).1
 obtain ⟨f1,f2⟩:=ht.get
 have hlt1 : b1 < m.length:=(List.getElem?_eq_some_iff.1 hb1).1
 let φ' : Pl:=fun b => if b = b0 then φ b1 else if b = b1 then none else φ b
 have p0 : φ' b0 = φ b1:=by simp [φ']
 have p1 : φ' b1 = none:=by simp [φ',Ne.symm hne]
 have pe : ∀ b,b ≠ b0→b ≠ b1→φ' b = φ b:=fun b h0 h1 => by simp [φ',h0,h1]
 have hget : ∀ x y,M[x]? = some (some y)→(x = c∧y = (n,[cs']))∨(x = b0∧y = (n1,es1))∨(x ≠ b0∧x ≠ b1∧x ≠ c∧m[x]? = some (some y)):=fun x y h => by
  rw [← hM,List.getElem?_set] at h
  split at h
  ·rename_i h0
   split at h
   ·simp at h; exact .inl ⟨h0.symm,h.symm⟩
   ·simp at h
  ·rename_i h0
   rw [List.getElem?_set] at h
   split at h
   ·split at h <;> simp at h
   ·rename_i h1
    rw [List.getElem?_set] at h
    split at h
    ·rename_i h2
     simp [h2.symm ▸ hlt] at h
     exact .inr (.inl ⟨h2.symm,h.symm⟩)
    ·rename_i h2
     exact .inr (.inr ⟨fun e => h2 e.symm,fun e => h1 e.symm,fun e => h0 e.symm,h⟩)
 have pc : φ' c = φ c:=pe c hc0 hc1
 have hO : ∀ k,Yf φ' M k→Yf φ m k:=fun k ⟨x,y,po,q,h1,h2⟩ => by
  rcases hget x y h1 with ⟨rfl,_⟩ | ⟨rfl,_⟩ | ⟨h3,h4,h30,h5⟩
  ·rw [pc] at h2
   exact ⟨x,_,po,q,hc,h2⟩
  ·rw [p0] at h2
   exact ⟨b1,_,po,q,hb1,h2⟩
  ·rw [pe x h3 h4] at h2
   exact ⟨x,y,po,q,h5,h2⟩
 have hmvS : ∀ {v0 v : V} {u : Value},mv1 b0 b1 v0 v→S w (Yf φ m) φ v0 u→S w (Yf φ' M) φ' v u:=fun {v0 v u} h2 u2 => by
  unfold mv1 at h2
  split at h2
  ·exact .any
  ·rcases h2 with ⟨e,len,rfl,rfl⟩ | ⟨rfl,h3,h4⟩
   ·cases u2 with
    | ref hφ hc hr => exact .ref (p0.trans hφ) hc hr
    | ref0 => exact .ref0
    | refnil => exact .refnil
   ·exact mv_ST hO pe h3 h4 u2
 have hplm : ∀ v ∈ es1.flatten,Yn v = true:=fun v hv => by
  obtain ⟨l,l1,l2⟩:=List.mem_flatten.1 hv
  exact plainE_iff.1 hpl l l1 v l2
 have hnoM : ∀ x k es,x ≠ b0→x ≠ b1→x ≠ c→m[x]? = some (some (k,es))→∀ v ∈ es.flatten,Wo b0 v = true∧Wo b1 v = true:=fun x k es h0 h1 h9 h v hv => by
  obtain ⟨l,l1,l2⟩:=List.mem_flatten.1 hv
  have hmem : some (k,es) ∈ ((m.set b0 none).set b1 none).set c none:=by
   refine List.mem_of_getElem? (i:=x) ?_
   rw [List.getElem?_set_ne (Ne.symm h9),List.getElem?_set_ne (Ne.symm h1),List.getElem?_set_ne (Ne.symm h0)]
   exact h
  unfold noBM at hm0 hm1
  have g0:=List.all_eq_true.1 hm0 _ hmem
  have g1:=List.all_eq_true.1 hm1 _ hmem
  exact ⟨List.all_eq_true.1 (List.all_eq_true.1 g0 l l1) v l2,List.all_eq_true.1 (List.all_eq_true.1 g1 l l1) v l2⟩
 refine ⟨φ',hs.defers,by rw [hs.size]; exact f1,fun i v hi => ?_,⟨fun x k es p h1 h2 => ?_,fun x k po n h => ?_,fun x p h => ?_,fun x y k po po' n n' h h' => ?_,?_⟩,hs.below,hs.start,mv_STl hO pe hg0 hg1 hs.gh,hs.gl⟩
 ·obtain ⟨v0,h1,h2⟩:=f2 i v hi
  obtain ⟨u,u1,u2⟩:=hs.tmps i v0 h1
  exact ⟨u,u1,hmvS h2 u2⟩
 ·rcases hget x _ h1 with ⟨rfl,h3⟩ | ⟨rfl,h3⟩ | ⟨h3,h4,h30,h5⟩
  ·cases h3
   rw [pc] at h2
   obtain ⟨c1,pb,po,c',ty,c2,c3,c4,c5⟩:=hs.mem.at_ x n [cs] _ hc h2
   refine ⟨fun l hl => ?_,pb,po,c',ty,pc.trans c2,c3,by simpa using c4,fun i v hi => ?_⟩
   ·simp only [List.mem_singleton] at hl
    subst hl
    rw [← q1]
    exact c1 cs (by simp)
   ·obtain ⟨v0,g1,g2⟩:=q2 i v (by simpa using hi)
    obtain ⟨u,d1,d2,d3⟩:=c5 i v0 (by simpa using g1)
    exact ⟨u,d1,d2,hmvS g2 d3⟩
  ·cases h3
   rw [p0] at h2
   obtain ⟨c1,pb,po,c,ty,c2,c3,c4,c5⟩:=hs.mem.at_ b1 n1 es1 _ hb1 h2
   exact ⟨c1,pb,po,c,ty,p0.trans c2,c3,c4,fun i v hi => by
    obtain ⟨u,d1,d2,d3⟩:=c5 i v hi
    exact ⟨u,d1,d2,d3.plain (hplm v (List.mem_of_getElem? hi))⟩⟩
  ·rw [pe x h3 h4] at h2
   obtain ⟨c1,pb,po,c,ty,c2,c3,c4,c5⟩:=hs.mem.at_ x k es _ h5 h2
   exact ⟨c1,pb,po,c,ty,(pe x h3 h4).trans c2,c3,c4,fun i v hi => by
    obtain ⟨u,d1,d2,d3⟩:=c5 i v hi
    obtain ⟨e0,e1⟩:=hnoM x k es h3 h4 h30 h5 v (List.mem_of_getElem? hi)
    exact ⟨u,d1,d2,mv_S hO pe e0 e1 d3⟩⟩
 ·by_cases h0 : x = b0
  ·subst h0; rw [p0] at h; exact hs.mem.new b1 k po n h
  ·by_cases h1 : x = b1
   ·subst h1; rw [p1] at h; cases h
   ·rw [pe x h0 h1] at h; exact hs.mem.new x k po n h
 ·have hl : M.length = m.length:=by rw [← hM]; simp
  rw [show ({ t:=t',m:=M,g:=g } : VS).m.length = m.length from hl]
  by_cases h0 : x = b0
  ·subst h0; exact hlt
  ·by_cases h1 : x = b1
   ·subst h1; exact hlt1
   ·rw [pe x h0 h1] at h; exact hs.mem.dom x p h
 ·have key : ∀ x k po n,φ' x = some (k,po,n)→∃ y,φ y = some (k,po,n)∧(x = b0∧y = b1∨x ≠ b0∧x ≠ b1∧y = x):=fun x k po n h => by
   by_cases h0 : x = b0
   ·subst h0; rw [p0] at h; exact ⟨b1,h,.inl ⟨rfl,rfl⟩⟩
   ·by_cases h1 : x = b1
    ·subst h1; rw [p1] at h; cases h
    ·rw [pe x h0 h1] at h; exact ⟨x,h,.inr ⟨h0,h1,rfl⟩⟩
  obtain ⟨x1,e1,e2⟩:=key x k po n h
  obtain ⟨y1,e3,e4⟩:=key y k po' n' h'
  have:=hs.mem.inj x1 y1 k po po' n n' e1 e3
  subst this
  rcases e2 with ⟨rfl,e5⟩ | ⟨e5,e6,e7⟩ <;> rcases e4 with ⟨rfl,e8⟩ | ⟨e8,e9,e10⟩
  ·rfl
  ·exact absurd (e10.symm.trans e5) e9
  ·exact absurd (e7.symm.trans e8) e6
  ·exact e7.symm.trans e10
 ·obtain ⟨ψ,hψ⟩:=hs.mem.own
  refine ⟨ψ,hψ.keep (Nat.le_refl _) (fun k _ ho => ⟨rfl,fun hl => ho (hO k hl)⟩) fun x k es pb po bn i n' e' h1 h2 h3 => ?_⟩
  rcases hget x _ h1 with ⟨rfl,h4⟩ | ⟨rfl,h4⟩ | ⟨h4,h5,h50,h6⟩
  ·cases h4
   rw [pc] at h2
   obtain ⟨v0,g1,g2⟩:=q2 i _ (by simpa using h3)
   unfold mv1 at g2
   rcases g2 with ⟨e,len,_,h7⟩ | ⟨rfl,_,_⟩
   ·cases h7
   ·exact ⟨_,[cs],pb,po,bn,hc,h2,by simpa using g1,fun u hu => hu⟩
  ·cases h4
   have:=hplm _ (List.mem_of_getElem? h3)
   cases this
  ·rw [pe x h4 h5] at h2
   exact ⟨k,es,pb,po,bn,h6,h2,h3,fun u hu => hu⟩
end Go.VL

namespace Go.VL
open Go.RowKit Go.Shelf Go.Proofs
set_option linter.unusedSimpArgs false
set_option linter.unusedVariables false
variable {P : Program} {ρ : Ren}
def itoaO (n : Int) : Option ByteArray:=if -9223372036854775808≤n∧n≤9223372036854775807 then some (itoaB n) else none
theorem itoa_calls (L : LaysM.n171 P ρ) {g : Nat} (hg : P.globalNamed "internal/strconv.uint64pow10" = some g) {n : Int} {r : ByteArray} (h : itoaO n = some r) : Qk P (ρ.f 171) [.i .i64 n] (fun x => x = .str r):=by
 unfold itoaO at h
 split at h
 ·rename_i hc
  obtain ⟨h0,h1⟩:=hc
  cases h
  intro w us hgl hs
  cases hs with
  | cons s1 hs =>
  cases hs
  cases s1
  refine (Any.strconv_Itoa L n h0 h1 w (hgl.1 g hg)).mono fun e w' ⟨he,k,os,hw⟩ => ?_
  subst hw
  exact ⟨_,_,[],he,rfl,.pl rfl .str,List.nodup_nil,by simp,Lib.below_grow _ _ (Nat.le_refl _) _ _⟩
 ·cases h
def atoiO (s : ByteArray) : Option (Int × Bool):=if s.size≤18 then (Lib.atoi s.data.toList).map fun n => (n,false) else none
theorem atoi_calls (L : Lays.n172 P ρ) {s : ByteArray} {r : Int × Bool} (h : atoiO s = some r) : Qk P (ρ.f 172) [.str s] (fun x => x = .tup [.i .i64 r.1,Jv r.2]):=by
 unfold atoiO at h
 split at h
 ·rename_i hc
  rw [Option.map_eq_some_iff] at h
  obtain ⟨n,hn,rfl⟩:=h
  intro w us hgl hs
  cases hs with
  | cons s1 hs =>
  cases hs
  cases s1
  refine (Any.strconv_Atoi L s n hc hn w).mono fun e w' ⟨he,t,hw⟩ => ?_
  subst hw
  exact ⟨_,_,[],he,rfl,.tup (us:=[_,_]) (.cons (F:=[]) (.pl rfl .i) (.cons (F:=[]) (.pl (by simp) (.s rfl)) .nil)),List.nodup_nil,by simp,Lib.bytesWorld_below _ _ _⟩
 ·cases h
end Go.VL

namespace Go.VL
set_option linter.unusedSimpArgs false
set_option linter.unusedVariables false
def rne (n g : Nat) : Nat:=n / g + (decide (g < 2 * (n % g)) || (g == 2 * (n % g) && n / g % 2 == 1)).toNat
theorem cut_rne (s : Bool) (n d : Nat) : Ieee.Toward.even.cut s n d = rne n (2 ^ d):=by
 unfold Ieee.Toward.cut rne
 simp only [Nat.one_shiftLeft]
 by_cases h : d≤n.log2 + 2
 ·rw [Nat.min_eq_left h]
 ·have hm : min d (n.log2 + 2) = n.log2 + 2:=by omega
  rw [hm]
  have hn : n < 2 ^ (n.log2 + 1):=Nat.lt_log2_self
  have h2 : 2 ^ (n.log2 + 2) = 2 * 2 ^ (n.log2 + 1):=by rw [Nat.pow_succ]; omega
  have h3 : 2 ^ (n.log2 + 2)≤2 ^ d:=Nat.pow_le_pow_right (by decide) (by omega)
  have e1 : n / 2 ^ (n.log2 + 2) = 0:=Nat.div_eq_of_lt (by omega)
  have e2 : n / 2 ^ d = 0:=Nat.div_eq_of_lt (by omega)
  have e3 : n % 2 ^ (n.log2 + 2) = n:=Nat.mod_eq_of_lt (by omega)
  have e4 : n % 2 ^ d = n:=Nat.mod_eq_of_lt (by omega)
  rw [e1,e2,e3,e4]
  have a1 : decide (2 ^ (n.log2 + 2) < 2 * n) = false:=by simp; omega
  have a2 : decide (2 ^ d < 2 * n) = false:=by simp; omega
  rw [a1,a2]
  simp
theorem rne_mul (n g p : Nat) (hp : 0 < p) : rne (n * p) (g * p) = rne n g:=by
 unfold rne
 rw [Nat.mul_div_mul_right _ _ hp,Nat.mul_mod_mul_right]
 have e1 : decide (g * p < 2 * (n % g * p)) = decide (g < 2 * (n % g)):=by
  rw [← Nat.mul_assoc]
  exact decide_eq_decide.2 (Nat.mul_lt_mul_right hp)
 have e2 : (g * p == 2 * (n % g * p)) = (g == 2 * (n % g)):=by
  rw [← Nat.mul_assoc,Bool.eq_iff_iff,beq_iff_eq,beq_iff_eq]
  exact Nat.mul_right_cancel_iff hp
 rw [e1,e2]
theorem rne_one (n : Nat) : rne n 1 = n:=by simp [rne,Nat.mod_one]
theorem log2_shift {m : Nat} (hm : m ≠ 0) (j : Nat) : (m * 2 ^ j).log2 = m.log2 + j:=by
 have hp : 0 < 2 ^ j:=Nat.two_pow_pos _
 have h0 : m * 2 ^ j ≠ 0:=Nat.mul_ne_zero hm (by omega)
 rw [Nat.log2_eq_iff h0]
 have h1 : 2 ^ m.log2≤m:=Nat.log2_self_le hm
 have h2 : m < 2 ^ (m.log2 + 1):=Nat.lt_log2_self
 constructor
 ·rw [Nat.pow_add]; exact Nat.mul_le_mul_right _ h1
 ·rw [show m.log2 + j + 1 = (m.log2 + 1) + j by omega,Nat.pow_add]
  exact Nat.mul_lt_mul_of_pos_right h2 hp
theorem kept_shift (s : Bool) (m j : Nat) (i l : Int) :
  Ieee.Toward.even.cut s ((m * 2 ^ j) <<< (i - j - l).toNat) (l - (i - j)).toNat = Ieee.Toward.even.cut s (m <<< (i - l).toNat) (l - i).toNat:=by
 rw [cut_rne,cut_rne,Nat.shiftLeft_eq,Nat.shiftLeft_eq]
 by_cases h1 : i - l ≥ j
 ·rw [show (l - (i - j)).toNat = 0 by omega,show (l - i).toNat = 0 by omega,Nat.mul_assoc,← Nat.pow_add,show j + (i - j - l).toNat = (i - l).toNat by omega]
 ·by_cases h2 : 0≤i - l
  ·rw [show (l - i).toNat = 0 by omega,show (i - j - l).toNat = 0 by omega,Nat.pow_zero,Nat.mul_one]
   have : m * 2 ^ j = m * 2 ^ (i - l).toNat * 2 ^ (l - (i - j)).toNat:=by
    rw [Nat.mul_assoc,← Nat.pow_add,show (i - l).toNat + (l - (i - j)).toNat = j by omega]
   rw [this]
   have:=rne_mul (m * 2 ^ (i - l).toNat) 1 (2 ^ (l - (i - j)).toNat) (Nat.two_pow_pos _)
   rwa [Nat.one_mul] at this
  ·rw [show (i - j - l).toNat = 0 by omega,show (i - l).toNat = 0 by omega,Nat.pow_zero,Nat.mul_one,Nat.mul_one,show (l - (i - j)).toNat = (l - i).toNat + j by omega,Nat.pow_add]
   exact rne_mul m _ _ (Nat.two_pow_pos _)
theorem nearest_shift (f : Ieee.Format) (s : Bool) (m j : Nat) (i : Int) : f.nearest s (m * 2 ^ j) (i - j) = f.nearest s m i:=by
 unfold Ieee.Format.nearest
 by_cases hm : m = 0
 ·subst hm; simp
 ·have hp : 0 < 2 ^ j:=Nat.two_pow_pos _
  have h0 : m * 2 ^ j ≠ 0:=Nat.mul_ne_zero hm (by omega)
  rw [if_neg h0,if_neg hm,log2_shift hm]
  have : (i - (j : Int) + ((m.log2 + j : Nat) : Int) - f.fractionBits) = i + m.log2 - f.fractionBits:=by push_cast; omega
  rw [this]
  simp only [kept_shift]
theorem write_read {f : Ieee.Format} {x : Nat} (hw : x < 2 * f.signWeight) (hs : f.infRung < f.signWeight) (hbi : f.binade≤f.infRung) (h : (f.read x).isNaN = false) : f.write (f.read x) = x:=by
 have hb : 0 < f.binade:=Nat.two_pow_pos _
 have hsp : 0 < f.signWeight:=by omega
 have hword : ∀ r,r = x % f.signWeight→f.word (x / f.signWeight % 2 == 1) r = x:=by
  intro r hr
  subst hr
  have hd : x / f.signWeight < 2:=(Nat.div_lt_iff_lt_mul hsp).2 hw
  have:=Nat.div_add_mod x f.signWeight
  unfold Ieee.Format.word
  generalize x / f.signWeight = q at hd this ⊢
  generalize x % f.signWeight = r at this ⊢
  rcases (by omega : q = 0∨q = 1) with h1 | h1
  ·subst h1; simp at this ⊢; omega
  ·subst h1; simp at this ⊢; omega
 unfold Ieee.Format.read at h ⊢
 simp only at h ⊢
 split
 ·rename_i h1
  show f.nearest _ _ _ = x
  unfold Ieee.Format.nearest
  by_cases h0 : x % f.signWeight = 0
  ·rw [if_pos h0]
   exact hword 0 h0.symm
  ·rw [if_neg h0]
   have hl : (x % f.signWeight).log2 < f.fractionBits:=by
    have : 2 ^ (x % f.signWeight).log2≤x % f.signWeight:=Nat.log2_self_le h0
    apply Decidable.byContradiction
    intro hc
    have : f.binade≤2 ^ (x % f.signWeight).log2:=Nat.pow_le_pow_right (by decide) (by omega)
    omega
   have hmax : max (f.leastPlace + ((x % f.signWeight).log2 : Int) - f.fractionBits) f.leastPlace = f.leastPlace:=by omega
   simp only [hmax,Int.sub_self,Int.toNat_zero,Nat.zero_mul,Nat.zero_add,cut_rne,Nat.pow_zero,rne_one,Nat.shiftLeft_zero]
   refine hword _ ?_
   apply Nat.min_eq_left
   omega
 ·rename_i h1
  rw [if_neg h1] at h
  split
  ·rename_i h2
   show f.nearest _ _ _ = x
   unfold Ieee.Format.nearest
   have hr : x % f.signWeight % f.binade < f.binade:=Nat.mod_lt _ hb
   rw [if_neg (by omega)]
   have hl : (f.binade + x % f.signWeight % f.binade).log2 = f.fractionBits:=by
    rw [Nat.log2_eq_iff (by omega)]
    have : 2 ^ (f.fractionBits + 1) = 2 * f.binade:=by unfold Ieee.Format.binade; rw [Nat.pow_succ]; omega
    have h4 : 2 ^ f.fractionBits = f.binade:=rfl
    omega
   rw [hl]
   have hmax : ∀ k : Nat,max (f.leastPlace + (k : Int) + (f.fractionBits : Int) - f.fractionBits) f.leastPlace = f.leastPlace + (k : Int):=fun k => by omega
   simp only [hmax]
   have e1 : ∀ k : Nat,(f.leastPlace + (k : Int) - (f.leastPlace + (k : Int))).toNat = 0:=fun k => by omega
   have e2 : ∀ k : Nat,(f.leastPlace + (k : Int) - f.leastPlace).toNat = k:=fun k => by omega
   simp only [e1,e2,cut_rne,Nat.pow_zero,rne_one,Nat.shiftLeft_zero]
   refine hword _ ?_
   have hd:=Nat.div_add_mod (x % f.signWeight) f.binade
   have hq : 1≤x % f.signWeight / f.binade:=(Nat.le_div_iff_mul_le hb).2 (by omega)
   have : (x % f.signWeight / f.binade - 1) * f.binade + (f.binade + x % f.signWeight % f.binade) = x % f.signWeight:=by
    obtain ⟨q,hq'⟩ : ∃ q,x % f.signWeight / f.binade = q + 1:=⟨_,(Nat.sub_add_cancel hq).symm⟩
    rw [hq'] at hd ⊢
    rw [Nat.add_sub_cancel]
    rw [Nat.mul_add,Nat.mul_one,Nat.mul_comm] at hd
    omega
   rw [this]
   omega
  ·rename_i h2
   rw [if_neg h2] at h
   split
   ·rename_i h3
    exact hword _ h3.symm
   ·rename_i h3
    rw [if_neg h3] at h
    cases h
theorem read_one : Ieee.single.read 1065353216 = .number false 8388608 (-23):=by decide
theorem div_one {x : Nat} (hx : x < 4294967296) (h : (Ieee.single.read x).isNaN = false) : Ieee.single.div x 1065353216 = some x:=by
 have hc : Ieee.single.signWeight = 2147483648:=by decide
 have hwr:=write_read (f:=Ieee.single) (x:=x) (by rw [hc]; omega) (by decide) (by decide) h
 unfold Ieee.Format.div
 rw [read_one]
 cases hd : Ieee.single.read x with
 | nan s t => rw [hd] at h; cases h
 | infinity s =>
  rw [hd] at hwr
  simp only [Ieee.Datum.quotient,Bool.xor_false,Option.map_some,hwr]
 | number s m i =>
  rw [hd] at hwr
  have h23 : (8388608 : Nat).log2 = 23:=by decide
  simp only [Ieee.Datum.quotient,Bool.xor_false,h23,if_neg (show ¬ (8388608 : Nat) = 0 by decide),Option.map_some,Option.some.injEq]
  have hl : m.log2 < 25:=by
   by_cases hm : m = 0
   ·subst hm; decide
   ·have : m < 33554432:=by
     have h1:=hd
     unfold Ieee.Format.read at h1
     have c2 : Ieee.single.binade = 8388608:=by decide
     have c3 : Ieee.single.infRung = 2139095040:=by decide
     simp only [hc,c2,c3] at h1
     split at h1
     ·cases h1; omega
     ·split at h1
      ·cases h1
       have : x % 2147483648 % 8388608 < 8388608:=Nat.mod_lt _ (by decide)
       omega
      ·split at h1 <;> cases h1
    rw [Nat.log2_lt hm]
    exact this
  have hfb : Ieee.single.fractionBits = 23:=rfl
  obtain ⟨j,hj⟩ : ∃ j,25 + 23 - m.log2 = 23 + j:=⟨25 - m.log2,by omega⟩
  rw [hfb,show 23 + 2 + 23 - m.log2 = 23 + j by omega]
  have e1 : m <<< (23 + j) = m * 2 ^ j * 8388608:=by
   rw [Nat.shiftLeft_eq,show 23 + j = j + 23 by omega,Nat.pow_add,← Nat.mul_assoc]
  rw [e1,Nat.mul_div_cancel _ (by decide),Nat.mul_mod_left]
  have e2 : 2 * (m * 2 ^ j) + (0 != 0).toNat = m * 2 ^ (j + 1):=by
   rw [show (0 != 0).toNat = 0 from rfl,Nat.add_zero,Nat.pow_succ,Nat.mul_left_comm,Nat.mul_comm 2]
  rw [e2]
  show Ieee.single.nearest s _ _ = x
  have e3 : i - (-23) - ((23 + j : Nat) : Int) - 1 = i - ((j + 1 : Nat) : Int):=by push_cast; omega
  rw [e3,nearest_shift]
  exact hwr
theorem quo_one {x : Nat} (hx : x < 4294967296) (h : (FloatKind.f32.decode x).isNaN = false) : quoF .f32 (some x) (Ge .f32 1) = some x:=by
 show fop .quo .f32 (some x) (some _) = _
 exact div_one hx h
theorem quo_one_int (n : Int) : quoF .f32 (Ge .f32 n) (Ge .f32 1) = Ge .f32 n :=
 quo_one (Ieee.Format.nearest_lt Ieee.single _ _ _) (nearest_num .f32 _ _ _)
end Go.VL
