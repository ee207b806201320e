/- Short forms of the rules: what is settled by one tactic is settled by itself. -/
import Derived.Test.YtboeddbhfnlpaaaVxTwo
import Derived.Test.YtboeddbhfnlpaaaVxMid
import Derived.Test.YtboeddbhfnlpaaaVxRel
import Derived.KernelRfl
namespace Go.VL
open Go.RowKit
set_option linter.unusedSimpArgs false
set_option linter.unusedVariables false

@[simp] theorem vbytes_nil {m : VM} : vbytes m .nil = some [] := rfl
@[simp] theorem vbytes_sl {m : VM} {n : Nat} {es : List (List V)} : vbytes m (.sl n es) = numsOf es := rfl
@[simp] theorem vbytes_ref {m : VM} {b e len : Nat} : vbytes m (.ref b e len) = (match m[b]? with
    | some (some (_, es)) => if e + len ≤ es.length then numsOf ((es.drop e).take len) else none
    | _ => none) := rfl
@[simp] theorem numsOf_nil : numsOf [] = some [] := rfl
@[simp] theorem numsOf_cons {n : Int} {es : List (List V)} : numsOf ([.i .u8 n] :: es) = (numsOf es).map (n :: ·) := by
  simp only [numsOf, numOf, Option.bind_some]
@[simp] theorem ev_nilIface {t : List V} : ev t (.const .nilIface) = .s .nilIface := rfl
@[simp] theorem str_empty : (⟨#[]⟩ : ByteArray) = ByteArray.empty := rfl
section
variable {P : Program} {C : CEnv} {Q : Exit → VS → Prop} {st s2 : VS}
theorem VW.rA {id : Nat} {l : List Oper} (t' : List V) (m' : VM) (g' : List V) (hC : C.Ok P) (hQ : Q .normal { t := t', m := m', g := g' }) (h : toSt (veval P C l.toArray l.length none l st) t' m' g' := by simp -implicitDefEqProofs) (hg : guardsOk l.toArray l.length none l = true := by kernel_rfl) : VW P (.region id l.toArray false) Q st := VW.evalA t' m' g' hC hg h hQ
theorem VW.rD {id : Nat} {l : List Oper} (t' : List V) (m' : VM) (g' : List V) (hC : C.Ok P) (hm : P.follows .mixedOrders = true) (hQ : Q .normal { t := t', m := m', g := g' }) (h : toSt (veval P C l.toArray l.length none l st) t' m' g' := by simp -implicitDefEqProofs) (hc : (orderB l && noStore l && guardsOk l.toArray l.length none l) = true := by kernel_rfl) : VW P (.region id l.toArray true) Q st := VW.evalDA t' m' g' hC hm hc h hQ
theorem VW.rE {id : Nat} {l : List Oper} (t' : List V) (m' : VM) (g' : List V) (hC : C.Ok P) (he : Ent { t := t', m := m', g := g' } s2) (hQ : Q .normal s2) (h : toSt (veval P C l.toArray l.length none l st) t' m' g' := by simp -implicitDefEqProofs) (hg : guardsOk l.toArray l.length none l = true := by kernel_rfl) : VW P (.region id l.toArray false) Q st := VW.evalE t' m' g' hC hg h he hQ
theorem VW.rDE {id : Nat} {l : List Oper} (t' : List V) (m' : VM) (g' : List V) (hC : C.Ok P) (hm : P.follows .mixedOrders = true) (he : Ent { t := t', m := m', g := g' } s2) (hQ : Q .normal s2) (h : toSt (veval P C l.toArray l.length none l st) t' m' g' := by simp -implicitDefEqProofs) (hc : (orderB l && noStore l && guardsOk l.toArray l.length none l) = true := by kernel_rfl) : VW P (.region id l.toArray true) Q st := VW.evalDE t' m' g' hC hm hc h he hQ
theorem VW.condI {γ δ : Type} {c : Operand} {x y : Code} {b : Bool} {A B : Option γ} {K : γ → Option δ} {o : δ} (h : (if b = true then A else B).bind K = some o) (h1 : A.bind K = some o → VW P x Q st) (h2 : B.bind K = some o → VW P y Q st) (hc : ev st.t c = .b b := by simp) : VW P (.cond c x y) Q st :=
  VW.condB hc (fun hb => h1 (iteT hb h)) (fun hb => h2 (iteF hb h))
theorem VW.condJ {γ δ : Type} {c : Operand} {x y : Code} {b : Bool} {A B : Option γ} {K : γ → Option δ} {o : δ} (h : (if b = true then A else B).bind K = some o) (h2 : B.bind K = some o → VW P y Q st) (h1 : A.bind K = some o → VW P x Q st) (hc : ev st.t c = .b b := by simp) : VW P (.cond c x y) Q st :=
  VW.condI h h1 h2 hc
theorem Ent.tu {t t' : List V} {m m' : VM} {g : List V} (k : Nat) (hm : m.take k = m' := by simp) (hf : fgt t t' := by simp [fgt]) (hk : k ≤ m.length := by simp) (ht : t'.all (bndT k) = true := by simp [bndT, bndV]) (hb : bndM k m' = true := by simp [bndM, bndV]) (hgg : g.all (bndT k) = true := by first | rfl | simp [bndT, bndV]) : Ent { t := t, m := m, g := g } { t := t', m := m', g := g } := Ent.to k hf hm hk ht hb hgg
theorem vnext {σ : Type} {p : σ → Prop} {H : σ → VS} {s : VS} (x : σ) (h : p x) (he : Ent s (H x)) : ∃ x', p x' ∧ Ent s (H x') := ⟨x, h, he⟩
end
section
variable {α β γ : Type} {f : α → Option β} {u : Unit → Option β} {K : β → Option γ} {o : γ}
theorem bindI {xs : List α} {i : Int} (h : ((idx xs i).bind f).bind K = some o) : ∃ v, (0 ≤ i ∧ xs[i.toNat]? = some v ∧ i.toNat < xs.length ∧ ∀ h : i.toNat < xs.length, xs[i.toNat] = v) ∧ (f v).bind K = some o := by
  obtain ⟨v, h1, h2⟩ := bindE h
  exact ⟨v, idx_some h1, h2⟩
theorem idxS_some2 {s : ByteArray} {i x : Int} (h : idxS s i = some x) : 0 ≤ i ∧ ∃ c, s.data.toList[i.toNat]? = some c ∧ (c.toNat : Int) = x ∧ s.data[i.toNat]? = some c := by
  obtain ⟨h1, c, h2, h3⟩ := idxS_some h
  exact ⟨h1, c, h2, h3, by simpa using h2⟩
theorem cutK_some2 {lo hi : Int} {n : Nat} {u : Unit} (h : cutK lo hi n = some u) : 0 ≤ lo ∧ 0 ≤ hi ∧ lo.toNat ≤ hi.toNat ∧ hi.toNat ≤ n ∧ max lo 0 ≤ hi := by
  obtain ⟨h1, h2, h3, h4⟩ := cutK_some h
  exact ⟨h1, h2, h3, h4, by omega⟩
theorem bindIS {f : Int → Option β} {s : ByteArray} {i : Int} (h : ((idxS s i).bind f).bind K = some o) : ∃ x, (0 ≤ i ∧ ∃ c, s.data.toList[i.toNat]? = some c ∧ (c.toNat : Int) = x ∧ s.data[i.toNat]? = some c) ∧ (f x).bind K = some o := by
  obtain ⟨v, h1, h2⟩ := bindE h
  exact ⟨v, idxS_some2 h1, h2⟩
theorem bindM {b : Nat} {n : Int} (h : ((mk b n).bind u).bind K = some o) : ∃ v, (0 ≤ n ∧ b * n.toNat ≤ 281474976710656 ∧ n.toNat ≤ 9223372036854775807) ∧ (u v).bind K = some o := by
  obtain ⟨v, h1, h2⟩ := bindE h
  exact ⟨v, mk_some h1, h2⟩
theorem bindP {b : Nat} {xs ys : List α} (h : ((appK b xs ys).bind u).bind K = some o) : ∃ v, ((xs.length + ys.length) * b ≤ 140737488355328 ∧ xs.length + ys.length ≤ 9223372036854775807) ∧ (u v).bind K = some o := by
  obtain ⟨v, h1, h2⟩ := bindE h
  exact ⟨v, appK_some h1, h2⟩
theorem bindC {lo hi : Int} {n : Nat} (h : ((cutK lo hi n).bind u).bind K = some o) : ∃ v, (0 ≤ lo ∧ 0 ≤ hi ∧ lo.toNat ≤ hi.toNat ∧ hi.toNat ≤ n ∧ max lo 0 ≤ hi) ∧ (u v).bind K = some o := by
  obtain ⟨v, h1, h2⟩ := bindE h
  exact ⟨v, cutK_some2 h1, h2⟩
/-- A guard, both ways. -/
theorem gdT {g : Bool} {A : Option α} {d w : α} (h : (if g = true then A else some d) = some w) : (g = true ∧ A = some w) ∨ (g = false ∧ w = d) := by
  cases g
  · exact .inr ⟨rfl, (Option.some.inj h).symm⟩
  · exact .inl ⟨rfl, h⟩
theorem gdF {g : Bool} {A : Option α} {d w : α} (h : (if g = true then some d else A) = some w) : (g = false ∧ A = some w) ∨ (g = true ∧ w = d) := by
  cases g
  · exact .inl ⟨rfl, h⟩
  · exact .inr ⟨rfl, (Option.some.inj h).symm⟩
end
theorem Tells.go {P : Program} {f : FuncId} {fn : Func} {c : Code} {α β : Type} {g : α → Option β} {eA : α → List V} {eB : β → V} {rs : List ResultVar} (n : Nat) (hf : P.funcs[f]? = some fn) (hb : fn.body = some c) (hn : fn.ntmps = n) (hr : fn.results.toList = rs)
    (hx : (P.funcs[f]?).any (fun fn => fn.body.isSome && fn.name != "runtime.NumGoroutine") = true) (hk : ∀ a, (eA a).length.ble n = true)
    (h : ∀ a b, g a = some b → VW P c (VRet P rs (fun x => nl x (eB b))) { t := tm n (en 0 (eA a)), m := [] }) : Tells P f (tells g eA eB) :=
  Tells.of hx fun a b h1 => VCalls.nl (VCalls.of hf hb hn hr (by
    have := h a b h1
    have h2 := Nat.le_of_ble_eq_true (hk a)
    rw [tm_init, show (eA a).length + (n - (eA a).length) = n by omega]
    exact this))
end Go.VL
