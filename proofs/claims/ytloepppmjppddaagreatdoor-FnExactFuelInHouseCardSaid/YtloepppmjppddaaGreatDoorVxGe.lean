/- Operations in a row, evaluated: with calls by contract, and guards that are merged. -/
import Derived.Test.YtloepppmjppddaaGreatDoorVxGd
import Derived.Test.YtloepppmjppddaaGreatDoorVxGa
import Derived.WalkKit
import Derived.OpenShut
import Derived.ChangeOld
import Derived.Below
import Derived.Carry
namespace Go.VL
open Go.RowKit
set_option linter.unusedSimpArgs false
set_option linter.unusedVariables false
def Us : V→Bool
 | .sl _ _ | .cptr _ _ | .any => true
 | v => Yn v
def Uv (l : List V) : Bool:=l.all Us
def Hn (l : List (List V)) : Bool:=l.all Uv
theorem Re.snap {m : VM} {v : V} (h : Us v = true) : Re m v v:=by
 cases v <;> first | exact .sl | exact .cptr | exact .any | exact .pl h | (cases h; done)
theorem ReL.snap {m : VM} : ∀ {l : List V},Uv l = true→ReL m l l
 | [],_ => .nil
 | v :: l,h => by
  simp only [Uv,List.all_cons,Bool.and_eq_true] at h
  exact .cons (.snap h.1) (ReL.snap h.2)
theorem ReE.snap {m : VM} : ∀ {l : List (List V)},Hn l = true→ReE m l l
 | [],_ => .nil
 | v :: l,h => by
  simp only [Hn,List.all_cons,Bool.and_eq_true] at h
  exact .cons (.snap h.1) (ReE.snap h.2)
def unE (es : List (List V)) : List (List V):=es.map fun l => l.map un1
theorem Re.un1 {m : VM} {v : V} (h : Us (VL.un1 v) = true) : Re m v (VL.un1 v):=by
 unfold VL.un1 at h ⊢
 split
 ·exact .own
 ·rename_i hv
  exact Re.snap (by simpa using h)
theorem ReL.un1 {m : VM} : ∀ {l : List V},Uv (l.map VL.un1) = true→ReL m l (l.map VL.un1)
 | [],_ => .nil
 | v :: l,h => by
  simp only [Uv,List.map_cons,List.all_cons,Bool.and_eq_true] at h
  exact .cons (Re.un1 h.1) (ReL.un1 h.2)
theorem ReE.un1 {m : VM} : ∀ {l : List (List V)},Hn (unE l) = true→ReE m l (unE l)
 | [],_ => .nil
 | v :: l,h => by
  simp only [unE,Hn,List.map_cons,List.all_cons,Bool.and_eq_true] at h
  exact .cons (ReL.un1 h.1) (ReE.un1 (by simpa [Hn,unE] using h.2))
def vre1 (m : VM) (v : V) : Option V :=
 match v with
 | .ref b e len => match m[b]? with
  | some (some (n,es)) => if e + len≤es.length∧Hn (unE ((es.drop e).take len)) = true then some (.sl n (unE ((es.drop e).take len))) else none
  | _ => none
 | .ptr b e j => match m[b]? with
  | some (some (_,es)) => (es[e]?).bind fun cs => if Uv cs = true then some (.cptr cs j) else none
  | _ => none
 | .refc b e j n len => match m[b]? with
  | some (some (_,es)) => (es[e]?).bind fun cs => if Uv cs = true∧j + len * n≤cs.length then some (.sl n (Xz n len (cs.drop j))) else none
  | _ => none
 | .own n es => some (.sl n (Jj es))
 | v => if Us v = true then some v else none
theorem vre1_sound {m : VM} {v v' : V} (h : vre1 m v = some v') : Re m v v':=by
 unfold vre1 at h
 split at h
 ·split at h
  ·rename_i hb
   split at h
   ·rename_i hc; cases h; exact .ref hb hc.1 (ReE.un1 hc.2)
   ·cases h
  ·cases h
 ·split at h
  ·rename_i hb
   simp only [Option.bind_eq_some_iff] at h
   obtain ⟨cs,h1,h2⟩:=h
   split at h2
   ·rename_i hc; cases h2; exact .ptr hb h1 (ReL.snap hc)
   ·cases h2
  ·cases h
 ·split at h
  ·rename_i hb
   simp only [Option.bind_eq_some_iff] at h
   obtain ⟨cs,h1,h2⟩:=h
   split at h2
   ·rename_i hc; cases h2; exact .refc hb h1 hc.2 (ReL.snap hc.1)
   ·cases h2
  ·cases h
 ·cases h; exact .own
 ·split at h
  ·rename_i hc; cases h; exact .snap hc
  ·cases h
def Ko (m : VM) : List V→Option (List V)
 | [] => some []
 | v :: l => (vre1 m v).bind fun v' => (Ko m l).map (v' :: ·)
theorem vreL1_sound {m : VM} : ∀ {l l' : List V},Ko m l = some l'→ReL m l l'
 | [],_,h => by cases h; exact .nil
 | v :: l,l',h => by
  simp only [Ko,Option.bind_eq_some_iff,Option.map_eq_some_iff] at h
  obtain ⟨v',h1,l2,h2,rfl⟩:=h
  exact .cons (vre1_sound h1) (vreL1_sound h2)
def vre (m : VM) (v : V) : Option V :=
 match v with
 | .agg cs => (Ko m cs).map .agg
 | .ptr b e j => match m[b]? with
  | some (some (_,es)) => (es[e]?).bind fun cs => (Ko m cs).map fun cs' => .cptr cs' j
  | _ => none
 | v => vre1 m v
theorem vre_sound {m : VM} {v v' : V} (h : vre m v = some v') : Re m v v':=by
 unfold vre at h
 split at h
 ·simp only [Option.map_eq_some_iff] at h
  obtain ⟨cs,h1,rfl⟩:=h
  exact .agg (vreL1_sound h1)
 ·split at h
  ·rename_i hb
   simp only [Option.bind_eq_some_iff,Option.map_eq_some_iff] at h
   obtain ⟨cs,h1,cs',h2,rfl⟩:=h
   exact .ptr hb h1 (vreL1_sound h2)
  ·cases h
 ·exact vre1_sound h
def vcut (n : Nat) (v : V) : V:=match v with | .cptr cs j => .cptr ((cs.drop j).take n) 0 | v => v
theorem vcut_re {m : VM} {v v' : V} {n : Nat} (h : Re m v v') : Re m v (vcut n v'):=by
 unfold vcut
 split
 ·exact .cut h
 ·exact h
def vreA (P : Program) (m : VM) (t : TypeId) (v : V) : Option V :=
 match tk P t with
 | .ptr e => (vre m v).map (vcut (P.cellsOf e))
 | _ => vre m v
theorem vreA_sound {P : Program} {m : VM} {t : TypeId} {v v' : V} (h : vreA P m t v = some v') : Re m v v':=by
 unfold vreA at h
 split at h
 ·simp only [Option.map_eq_some_iff] at h
  obtain ⟨x,h1,rfl⟩:=h
  exact vcut_re (vre_sound h1)
 ·exact vre_sound h
def vreLA (P : Program) (m : VM) : List TypeId→List V→Option (List V)
 | t :: ts,v :: l => (vreA P m t v).bind fun v' => (vreLA P m ts l).map (v' :: ·)
 | _,[] => some []
 | [],_ :: _ => none
theorem Jc {P : Program} {m : VM} : ∀ {ts : List TypeId} {l l' : List V},vreLA P m ts l = some l'→ReL m l l'
 | t :: ts,v :: l,l',h => by
  simp only [vreLA,Option.bind_eq_some_iff,Option.map_eq_some_iff] at h
  obtain ⟨v',h1,l2,h2,rfl⟩:=h
  exact .cons (vreA_sound h1) (Jc h2)
 | [],[],l',h => by cases h; exact .nil
 | _ :: _,[],l',h => by cases h; exact .nil
 | [],_ :: _,_,h => by cases h
def vreL (m : VM) : List V→Option (List V)
 | [] => some []
 | v :: l => (vre m v).bind fun v' => (vreL m l).map (v' :: ·)
def keptV (v : V) : Bool:=match v with | .own _ _ => true | v => Yn v
def keptE (l : List (List V)) : Bool:=l.all fun l => l.all keptV
theorem keptE_iff {es : List (List V)} (h : keptE es = true) : ∀ l ∈ es,∀ v ∈ l,Yn v = true∨∃ n' es',v = .own n' es':=fun l hl v hv => by
 have:=List.all_eq_true.1 (List.all_eq_true.1 h l hl) v hv
 unfold keptV at this
 split at this
 ·exact .inr ⟨_,_,rfl⟩
 ·exact .inl this
def vex1 (k : Nat) (v : V) : V × VM :=
 match v with
 | .own n es => if keptE es = true then (.ref k 0 es.length,[some (n,es)]) else (.ref k 0 es.length,[some (n,Jj es)])
 | v => (frz v,[])
theorem vex1_sound (k : Nat) (v : V) : Ex k v (vex1 k v).1 (vex1 k v).2:=by
 unfold vex1
 split
 ·split
  ·rename_i h
   exact .kept (keptE_iff h)
  ·exact .own
 ·exact .fz
def vexL (k : Nat) : List V→List V × VM
 | [] => ([],[])
 | v :: l => ((vex1 k v).1 :: (vexL (k + (vex1 k v).2.length) l).1,(vex1 k v).2 ++ (vexL (k + (vex1 k v).2.length) l).2)
theorem vexL_sound (k : Nat) : ∀ l : List V,ExL k l (vexL k l).1 (vexL k l).2
 | [] => .nil
 | v :: l => .cons (vex1_sound k v) (vexL_sound _ l)
def vex1a (k : Nat) (v : V) : V × VM :=
 match v with
 | .agg cs => (.agg (vexL k cs).1,(vexL k cs).2)
 | v => vex1 k v
theorem vex1a_sound (k : Nat) (v : V) : Ex k v (vex1a k v).1 (vex1a k v).2:=by
 unfold vex1a
 split
 ·exact .agg (vexL_sound k _)
 ·exact vex1_sound k v
def vexT (k : Nat) : List V→List V × VM
 | [] => ([],[])
 | v :: l => ((vex1a k v).1 :: (vexT (k + (vex1a k v).2.length) l).1,(vex1a k v).2 ++ (vexT (k + (vex1a k v).2.length) l).2)
theorem vexT_sound (k : Nat) : ∀ l : List V,ExL k l (vexT k l).1 (vexT k l).2
 | [] => .nil
 | v :: l => .cons (vex1a_sound k v) (vexT_sound _ l)
def vex (k : Nat) (v : V) : V × VM :=
 match v with
 | .agg cs => (.agg (vexL k cs).1,(vexL k cs).2)
 | .tup cs => (.tup (vexT k cs).1,(vexT k cs).2)
 | v => vex1 k v
theorem vex_sound (k : Nat) (v : V) : Ex k v (vex k v).1 (vex k v).2:=by
 unfold vex
 split
 ·exact .agg (vexL_sound k _)
 ·exact .tup (vexT_sound k _)
 ·exact vex1_sound k v
def Zz (P : Program) (f : FuncId) (F : List V→Option V) : Prop :=
 (P.funcs[f]?).any (fun fn => fn.body.isSome && fn.name != "runtime.NumGoroutine") = true∧∀ args r,F args = some r→Qk P f args (fun x => x = r)
abbrev Qc:=List (FuncId × (List V→Option V))
def cenv : Qc→FuncId→List V→Option V
 | [],_,_ => none
 | (g,F) :: C,f,args => if f = g then F args else cenv C f args
def Qc.Ok (P : Program) : Qc→Prop
 | [] => True
 | (g,F) :: C => (Zz P g F∨TellsX P g F)∧Qc.Ok P C
theorem cenv_ok {P : Program} : ∀ {C : Qc} {f : FuncId} {args : List V} {r : V},C.Ok P→cenv C f args = some r→((P.funcs[f]?).any (fun fn => fn.body.isSome && fn.name != "runtime.NumGoroutine") = true∧Qk P f args (fun x => x = r))∨∃ F,TellsX P f F∧F args = some r
 | [],_,_,_,_,h => by cases h
 | (g,F) :: C,f,args,r,hC,h => by
  simp only [cenv] at h
  split at h
  ·rename_i hf; subst hf
   rcases hC.1 with h1 | h1
   ·exact .inl ⟨h1.1,h1.2 _ _ h⟩
   ·exact .inr ⟨F,h1,h⟩
  ·exact cenv_ok hC.2 h
theorem vex_plain {k : Nat} {r : V} (h : Yn r = true) : vex k r = (r,[]):=by cases r <;> first | rfl | (cases h; done)
def vstep (P : Program) (C : Qc) (st : VS) (o : Oper) : Option VS :=
 match o.op with
 | .call { callee:=.value (.func f),args:=args,argTypes:=ats } =>
  (vreLA P st.m ats.toList (args.toList.map (ev st.t))).bind fun vs => (cenv C f vs).map fun r => { t:=Xh st.t o.dst (vex st.m.length r).1,m:=st.m ++ (vex st.m.length r).2,g:=st.g }
 | .call { callee:=.builtin .append,args:=args,argTypes:=ats } => match args.toList,ats.toList with
  | [s,y],[t,t'] => if t = t' then vapp P st o.dst t (ev st.t s) (ev st.t y) else none
  | _,_ => none
 | _ => vop1 P st o
inductive Ste (P : Program) (C : Qc) (ops : Array Oper) : List Oper→VS→VS→Prop
 | nil {st : VS} : Ste P C ops [] st st
 | skip {o : Oper} {l : List Oper} {st st' : VS} (hw : Zm ops st.t o = some false) (h : Ste P C ops l { t:=Xh st.t o.dst und,m:=st.m,g:=st.g } st') : Ste P C ops (o :: l) st st'
 | op {o : Oper} {l : List Oper} {st st1 st' : VS} (hw : Zm ops st.t o = some true) (h1 : vstep P C st o = some st1) (h : Ste P C ops l st1 st') : Ste P C ops (o :: l) st st'
section
variable {P : Program} {C : Qc} {ops : Array Oper}
theorem Ste.append : ∀ {l l' : List Oper} {a b c : VS},Ste P C ops l a b→Ste P C ops l' b c→Ste P C ops (l ++ l') a c
 | _,_,_,_,_,.nil,h => h
 | _,_,_,_,_,.skip hw h,k => .skip hw (h.append k)
 | _,_,_,_,_,.op hw h1 h,k => .op hw h1 (h.append k)
theorem Ste.vl (hC : C.Ok P) {Q : Exit→VS→Prop} : ∀ {l rest : List Oper} {st st' : VS},Ste P C ops l st st'→VL P ops Q rest st'→VL P ops Q (l ++ rest) st
 | _,_,_,_,.nil,h => h
 | _,_,_,_,.skip hw h,k => VL.skip hw (h.vl hC k)
 | _,rest,st,st',.op (o:=o) (l:=l) (st1:=st1) hw h1 h,k => by
  have ih:=h.vl hC k
  unfold vstep at h1
  split at h1
  ·rename_i f args ats ho
   simp only [Option.bind_eq_some_iff,Option.map_eq_some_iff] at h1
   obtain ⟨vs,a1,r,a2,rfl⟩:=h1
   rcases cenv_ok hC a2 with ⟨b1,b2⟩ | ⟨F,b1,b2⟩
   ·exact VL.call hw ho b1 (Jc a1) b2 fun r' hr' => by subst hr'; exact ⟨_,_,vex_sound _ _,ih⟩
   ·have hp : Yn r = true:=by obtain ⟨_,_,_,_,_,_,_,hx⟩:=b1; exact (hx _ _ b2).1
    rw [vex_plain hp] at ih
    exact VL.op (bl:=[]) hw (by simpa using OpY.extern ho b1 (Jc a1) b2) ih
  ·rename_i args ats ho
   split at h1
   ·rename_i s y t t' ha ht
    split at h1
    ·rename_i htt
     subst htt
     have ha' : args = #[s,y]:=Array.ext' (by simpa using ha)
     have ht' : ats = #[t,t]:=Array.ext' (by simpa using ht)
     subst ha' ht'
     intro N w0 a w φ hs
     rw [List.cons_append]
     unfold wpList
     rw [Xj hw hs,if_pos rfl]
     left
     exact vapp_sound ho h1 hs fun a' w' φ' hs' => ih N w0 a' w' φ' hs'
    ·cases h1
   ·cases h1
  ·have:=VL.run (P:=P) (ops:=ops) (Q:=Q) (rest:=l ++ rest) (l:=[o]) (st:=st) (st':=st1) (by simp [vops,hw,h1]) ih
   simpa using this
theorem Ste.dl (hC : C.Ok P) : ∀ {l rest : List Oper} {st st' st'' : VS},Ste P C ops l st st'→Ud l = true→DL P ops rest st' st''→DL P ops (l ++ rest) st st''
 | _,_,_,_,_,.nil,_,h => h
 | _,_,_,_,_,.skip hw h,hn,k => DL.skip hw (h.dl hC (by simp only [Ud,List.all_cons,Bool.and_eq_true] at hn; simpa [Ud] using hn.2) k)
 | _,rest,st,st',st'',.op (o:=o) (l:=l) (st1:=st1) hw h1 h,hn,k => by
  have hn':=hn
  simp only [Ud,List.all_cons,Bool.and_eq_true] at hn'
  have ih:=h.dl hC (by simpa [Ud] using hn'.2) k
  unfold vstep at h1
  split at h1
  ·rename_i f args ats ho
   simp only [Option.bind_eq_some_iff,Option.map_eq_some_iff] at h1
   obtain ⟨vs,a1,r,a2,rfl⟩:=h1
   rcases cenv_ok hC a2 with ⟨b1,b2⟩ | ⟨F,b1,b2⟩
   ·exact DL.call hw ho b1 (Jc a1) b2 (vex_sound _ _) ih
   ·have hp : Yn r = true:=by obtain ⟨_,_,_,_,_,_,_,hx⟩:=b1; exact (hx _ _ b2).1
    rw [vex_plain hp] at ih
    exact DL.op (bl:=[]) hw (fun more => by
     have:=OpY.extern (m:=st.m ++ more) (k:=st.m.length) ho b1 (ReL.more more (Jc a1)) b2
     simpa using this) ih
  ·rename_i args ats ho
   simp [ho] at hn'
  ·have:=DL.run (P:=P) (ops:=ops) (rest:=l ++ rest) (l:=[o]) (st:=st) (st1:=st1) (st':=st'') (by simp only [Ud,List.all_cons,List.all_nil,Bool.and_true]; exact hn'.1) (by simp [vops,hw,h1]) ih
   simpa using this
def mrg2 (g : Bool) (a b : V) : V:=if g = true then a else b
def mrgT (g : Bool) : List V→List V→List V
 | a :: s,b :: t => mrg2 g a b :: mrgT g s t
 | s,t => if g = true then s else t
theorem mrgT_eq (g : Bool) : ∀ s t : List V,mrgT g s t = if g = true then s else t
 | [],[] => by simp [mrgT]
 | [],b :: t => by simp [mrgT]
 | a :: s,[] => by simp [mrgT]
 | a :: s,b :: t => by
  simp only [mrgT,mrg2,mrgT_eq g s t]
  split <;> rfl
def bn (x : Bool) : Bool:=!x
def geq (x want : Bool) : Bool:=x == want
theorem geq_true (x : Bool) : geq x true = x:=by cases x <;> rfl
theorem geq_false (x : Bool) : geq x false = bn x:=by cases x <;> rfl
def skipT : List Oper→List V→List V
 | [],t => t
 | o :: l,t => skipT l (Xh t o.dst und)
def gate (g : Bool) (A : Option VS) (st : VS) (blk : List Oper) : Option VS:=if g = true then A else some { t:=skipT blk st.t,m:=st.m,g:=st.g }
theorem gate_congr {g g' : Bool} {A A' : Option VS} {st : VS} {blk : List Oper} (hg : g = g') (h : g' = true→A = A') : gate g A st blk = gate g' A' st blk:=by
 subst hg
 unfold gate
 split
 ·exact h ‹_›
 ·rfl
theorem gate_true (A : Option VS) (st : VS) (blk : List Oper) : gate true A st blk = A:=rfl
theorem gate_false (A : Option VS) (st : VS) (blk : List Oper) : gate false A st blk = some { t:=skipT blk st.t,m:=st.m,g:=st.g }:=rfl
theorem gate_some (g : Bool) (t1 t gg : List V) (m : VM) (blk : List Oper) : gate g (some { t:=t1,m:=m,g:=gg }) { t:=t,m:=m,g:=gg } blk = some { t:=mrgT g t1 (skipT blk t),m:=m,g:=gg }:=by
 unfold gate
 rw [mrgT_eq]
 split <;> rfl
def guardV (ops : Array Oper) (t : List V) (j : Nat) : Option (Tmp × V):=((ops[j]?).bind (·.dst)).bind fun d => (t[d]?).map fun v => (d,v)
def Wj (P : Program) (C : Qc) (ops : Array Oper) : Nat→Option (Nat × Bool)→List Oper→VS→Option VS
 | _,_,[],st => some st
 | 0,_,_ :: _,_ => none
 | n + 1,cur,o :: l,st =>
  if o.guard = cur then (vstep P C st o).bind (Wj P C ops n cur l)
  else match o.guard with
   | none => none
   | some (j,want) => match guardV ops st.t j with
    | some (d,.b x) => (gate (geq x want) (Wj P C ops n (some (j,want)) (o :: l.takeWhile fun o' => o'.guard != cur) { t:=st.t.set d (.b want),m:=st.m,g:=st.g }) st (o :: l.takeWhile fun o' => o'.guard != cur)).bind (Wj P C ops n cur (l.dropWhile fun o' => o'.guard != cur))
    | some (_,.tup _) => Wj P C ops n cur (l.dropWhile fun o' => o'.guard != cur) { t:=skipT (o :: l.takeWhile fun o' => o'.guard != cur) st.t,m:=st.m,g:=st.g }
    | _ => none
def outB (ops : Array Oper) (j : Nat) (want : Bool) (seen : List Tmp) (o : Oper) : Bool :=
 match o.guard with
 | none => false
 | some (j',w) => (j' == j && w == want) || (match (ops[j']?).bind (·.dst) with | some d' => seen.contains d' | none => false)
def skipOk (ops : Array Oper) (j : Nat) (want : Bool) (d : Tmp) : List Oper→List Tmp→Bool
 | [],_ => true
 | o :: l,seen => outB ops j want seen o && o.dst != some d && skipOk ops j want d l (match o.dst with | some d' => d' :: seen | none => seen)
def Xp (ops : Array Oper) : Nat→Option (Nat × Bool)→List Oper→Bool
 | _,_,[] => true
 | 0,_,_ :: _ => false
 | n + 1,cur,o :: l =>
  if o.guard = cur then Xp ops n cur l
  else match o.guard with
   | none => false
   | some (j,want) => match (ops[j]?).bind (·.dst) with
    | some d => skipOk ops j want d (o :: l.takeWhile fun o' => o'.guard != cur) [] && Xp ops n (some (j,want)) (o :: l.takeWhile fun o' => o'.guard != cur) && Xp ops n cur (l.dropWhile fun o' => o'.guard != cur)
    | none => false
def Fails (want : Bool) : Option V→Prop
 | some (.b y) => y ≠ want
 | some (.tup _) => True
 | none => True
 | _ => False
theorem skip_all {j : Nat} {want : Bool} {d : Tmp} (hd : (ops[j]?).bind (·.dst) = some d) : ∀ {l : List Oper} {seen : List Tmp} {st : VS},skipOk ops j want d l seen = true→Fails want st.t[d]?→(∀ d',d' ∈ seen→∀ v,st.t[d']? = some v→v = und) →
  Ste P C ops l st { t:=skipT l st.t,m:=st.m,g:=st.g }
 | [],_,_,_,_,_ => .nil
 | o :: l,seen,st,h,hv,hs => by
  simp only [skipOk,Bool.and_eq_true] at h
  obtain ⟨⟨h1,h2⟩,h3⟩:=h
  have hw : Zm ops st.t o = some false:=by
   unfold outB at h1
   unfold Zm
   cases hg : o.guard with
   | none => simp [hg] at h1
   | some g =>
    obtain ⟨j',w⟩:=g
    simp only [hg,Bool.or_eq_true,Bool.and_eq_true,beq_iff_eq] at h1
    rcases h1 with ⟨rfl,rfl⟩ | h1
    ·simp only [hd]
     cases ht : st.t[d]? with
     | none => rfl
     | some v =>
      rw [ht] at hv
      cases v <;> simp only [Fails] at hv
      ·simp; exact hv
      ·rfl
    ·split at h1
     ·rename_i d' hd'
      simp only [hd']
      have hm : d' ∈ seen:=by simpa using h1
      cases ht : st.t[d']? with
      | none => rfl
      | some v => rw [hs d' hm v ht]
     ·cases h1
  refine .skip hw ?_
  have hne : o.dst ≠ some d:=by simpa using h2
  have hput : ∀ (t : List V) (x : Nat),o.dst ≠ some x→(Xh t o.dst und)[x]? = t[x]?:=fun t x hx => by
   cases ho : o.dst with
   | none => rfl
   | some e => simp only [Xh]; rw [List.getElem?_set_ne]; intro he; exact hx (he ▸ ho)
  have:=skip_all hd (st:={ t:=Xh st.t o.dst und,m:=st.m,g:=st.g }) h3 (by simp only; rw [hput _ _ hne]; exact hv) (fun d' hd' v hv' => by
   by_cases hx : o.dst = some d'
   ·simp only [Xh,hx,List.getElem?_set] at hv'
    simp at hv'
    exact hv'.2.symm
   ·rw [hput _ _ hx] at hv'
    have : d' ∈ seen:=by
     cases ho : o.dst with
     | none => simpa [ho] using hd'
     | some e =>
      simp only [ho,List.mem_cons] at hd'
      rcases hd' with rfl | hd'
      ·exact absurd ho hx
      ·exact hd'
    exact hs d' this v hv')
  simpa [skipT] using this
theorem guard_wanted {st : VS} {o : Oper} {j : Nat} {want : Bool} {d : Tmp} (hg : o.guard = some (j,want)) (hd : (ops[j]?).bind (·.dst) = some d) (hv : st.t[d]? = some (.b want)) : Zm ops st.t o = some true:=by
 unfold Zm
 simp [hg,hd,hv]
theorem putV_keeps {t : List V} {dst : Option Tmp} {v : V} {d : Nat} (hd : dst ≠ some d) : (Xh t dst v)[d]? = t[d]?:=by
 cases ho : dst with
 | none => rfl
 | some e => simp only [Xh]; rw [List.getElem?_set_ne]; intro he; exact hd (he ▸ ho)
theorem vstep_keeps {st st1 : VS} {o : Oper} (h : vstep P C st o = some st1) (d : Nat) (hd : o.dst ≠ some d) {x : Bool} (hx : st.t[d]? = some (.b x)) : st1.t[d]? = some (.b x):=by
 have hput : ∀ (v : V),(Xh st.t o.dst v)[d]? = some (.b x):=fun v => (putV_keeps hd).trans hx
 unfold vstep at h
 split at h
 ·simp only [Option.bind_eq_some_iff,Option.map_eq_some_iff] at h
  obtain ⟨_,_,_,_,rfl⟩:=h
  exact hput _
 ·split at h
  ·split at h
   ·unfold vapp at h
    split at h
    ·split at h
     ·split at h
      ·cases h
       simp only
       rw [putV_keeps hd,List.getElem?_map,hx]
       rfl
      ·cases h
     ·cases h
    ·cases h
   ·cases h
  ·cases h
 ·unfold vop1 at h
  split at h
  ·cases h; exact hput _
  ·split at h
   ·cases h; exact hput _
   ·split at h
    ·simp only [Option.map_eq_some_iff] at h
     obtain ⟨_,_,rfl⟩:=h
     exact hput _
    ·cases h
theorem Ste.keeps {d : Nat} {x : Bool} : ∀ {l : List Oper} {st st' : VS},Ste P C ops l st st'→(∀ o ∈ l,o.dst ≠ some d)→st.t[d]? = some (.b x)→st'.t[d]? = some (.b x)
 | _,_,_,.nil,_,h => h
 | _,_,_,.skip hw h,hd,hx => h.keeps (fun o ho => hd o (by simp [ho])) ((putV_keeps (hd _ (by simp))).trans hx)
 | _,_,_,.op hw h1 h,hd,hx => h.keeps (fun o ho => hd o (by simp [ho])) (vstep_keeps h1 d (hd _ (by simp)) hx)
theorem skipOk_dst {j : Nat} {want : Bool} {d : Tmp} : ∀ {l : List Oper} {seen : List Tmp},skipOk ops j want d l seen = true→∀ o ∈ l,o.dst ≠ some d
 | [],_,_,o,ho => by simp at ho
 | x :: l,seen,h,o,ho => by
  simp only [skipOk,Bool.and_eq_true] at h
  rcases List.mem_cons.1 ho with rfl | ho
  ·simpa using h.1.2
  ·exact skipOk_dst h.2 o ho
theorem Ur : ∀ (n : Nat) (cur : Option (Nat × Bool)) (l : List Oper) (st st' : VS),Wj P C ops n cur l st = some st'→Xp ops n cur l = true →
  (∀ j want,cur = some (j,want)→∃ d,(ops[j]?).bind (·.dst) = some d∧st.t[d]? = some (.b want)∧∀ o ∈ l,o.dst ≠ some d)→Ste P C ops l st st'
 | n,cur,[],st,st',h,_,_ => by
  have : st = st':=by cases n <;> simpa [Wj] using h
  subst this
  exact .nil
 | 0,_,_ :: _,_,_,h,_,_ => by simp [Wj] at h
 | n + 1,cur,o :: l,st,st',h,hg,hc => by
  simp only [Wj] at h
  simp only [Xp] at hg
  by_cases hcur : o.guard = cur
  ·rw [if_pos hcur] at h hg
   simp only [Option.bind_eq_some_iff] at h
   obtain ⟨st1,h1,h2⟩:=h
   have hw : Zm ops st.t o = some true:=by
    cases hcu : cur with
    | none => unfold Zm; simp [hcur,hcu]
    | some g =>
     obtain ⟨j,want⟩:=g
     obtain ⟨d,d1,d2,_⟩:=hc j want hcu
     exact guard_wanted (hcur.trans hcu) d1 d2
   refine .op hw h1 (Ur n cur l st1 st' h2 hg fun j want hcu => ?_)
   obtain ⟨d,d1,d2,d3⟩:=hc j want hcu
   exact ⟨d,d1,vstep_keeps h1 d (d3 o (by simp)) d2,fun o' ho' => d3 o' (by simp [ho'])⟩
  ·rw [if_neg hcur] at h hg
   cases hog : o.guard with
   | none => simp [hog] at h
   | some g =>
    obtain ⟨j,want⟩:=g
    simp only [hog] at h hg
    cases hd : (ops[j]?).bind (·.dst) with
    | none => simp [hd] at hg
    | some d =>
     simp only [hd,Bool.and_eq_true] at hg
     obtain ⟨⟨g1,g2⟩,g3⟩:=hg
     have hsplit : o :: l = (o :: l.takeWhile fun o' => o'.guard != cur) ++ l.dropWhile fun o' => o'.guard != cur:=by
      simp [List.takeWhile_append_dropWhile]
     have hkeep : ∀ (s1 : VS),Ste P C ops (o :: l.takeWhile fun o' => o'.guard != cur) st s1→∀ j want,cur = some (j,want)→∃ d,(ops[j]?).bind (·.dst) = some d∧s1.t[d]? = some (.b want)∧∀ o' ∈ l.dropWhile (fun o' => o'.guard != cur),o'.dst ≠ some d:=fun s1 hs1 j want hcu => by
      obtain ⟨d,d1,d2,d3⟩:=hc j want hcu
      exact ⟨d,d1,hs1.keeps (fun o' ho' => d3 o' (by rw [hsplit]; simp only [List.mem_append]; exact .inl ho')) d2,fun o' ho' => d3 o' (by rw [hsplit]; simp only [List.mem_append]; exact .inr ho')⟩
     have hdst:=skipOk_dst g1
     cases hv : st.t[d]? with
     | none => simp [guardV,hd,hv] at h
     | some v =>
      cases v with
      | b x =>
       simp only [guardV,hd,hv,Option.bind_some,Option.map_some] at h
       simp only [Option.bind_eq_some_iff] at h
       obtain ⟨s1,h1,h2⟩:=h
       have hs1 : Ste P C ops (o :: l.takeWhile fun o' => o'.guard != cur) st s1:=by
        cases hgx : geq x want with
        | true =>
         have hx : x = want:=by simpa [geq] using hgx
         subst hx
         rw [hgx,gate_true] at h1
         have hset : st.t.set d (.b x) = st.t:=by
          apply List.ext_getElem?
          intro i
          rw [List.getElem?_set]
          split
          ·rename_i hi
           subst hi
           split
           ·exact hv.symm
           ·rename_i hlt
            exact absurd (List.getElem?_eq_some_iff.1 hv).1 hlt
          ·rfl
         rw [hset] at h1
         exact Ur n (some (j,x)) _ st s1 h1 g2 fun j' want' he => by
          cases he
          exact ⟨d,hd,hv,hdst⟩
        | false =>
         have hx : x ≠ want:=by simpa [geq] using hgx
         rw [hgx,gate_false] at h1
         cases h1
         exact skip_all hd g1 (by rw [hv]; exact hx) (by simp)
       rw [hsplit]
       exact hs1.append (Ur n cur _ s1 st' h2 g3 (hkeep s1 hs1))
      | tup vs =>
       simp only [guardV,hd,hv,Option.bind_some,Option.map_some] at h
       have hs1 : Ste P C ops (o :: l.takeWhile fun o' => o'.guard != cur) st { t:=skipT (o :: l.takeWhile fun o' => o'.guard != cur) st.t,m:=st.m,g:=st.g }:=skip_all hd g1 (by rw [hv]; trivial) (by simp)
       rw [hsplit]
       exact hs1.append (Ur n cur _ _ st' h g3 (hkeep _ hs1))
      | _ => simp [guardV,hd,hv] at h
theorem VW.eval {id : Nat} {l : List Oper} {Q : Exit→VS→Prop} {st st' : VS} (hC : C.Ok P) (hg : Xp l.toArray l.length none l = true) (h : Wj P C l.toArray l.length none l st = some st') (hQ : Q .normal st') : VW P (.region id l.toArray false) Q st :=
 .region (by simpa using (Ur _ _ _ _ _ h hg (fun _ _ h => by cases h)).vl (rest:=[]) hC (VL.nil hQ))
theorem VW.evalD {id : Nat} {l : List Oper} {Q : Exit→VS→Prop} {st st' : VS} (hC : C.Ok P) (hm : P.follows .mixedOrders = true) (hlex : Qu l = true) (hn : Ud l = true) (hg : Xp l.toArray l.length none l = true) (h : Wj P C l.toArray l.length none l st = some st') (hQ : Q .normal st') : VW P (.region id l.toArray true) Q st :=
 .draw hm hlex (by simpa using (Ur _ _ _ _ _ h hg (fun _ _ h => by cases h)).dl (rest:=[]) hC hn DL.nil) hQ
end
end Go.VL

namespace Go.VL
set_option linter.unusedSimpArgs false
set_option linter.unusedVariables false
theorem cut_zero (way : Ieee.Toward) (neg : Bool) (n : Nat) : way.cut neg n 0 = n:=by
 unfold Ieee.Toward.cut
 simp [Nat.mod_one]
 cases way <;> simp
theorem read_finite {f : Ieee.Format} {neg : Bool} {r : Nat} (h : r < f.infRung) (h2 : f.infRung≤f.signWeight) : (f.read (f.word neg r)).isInfinity = false:=by
 have hm : f.word neg r % f.signWeight = r:=by
  unfold Ieee.Format.word
  split
  ·rw [Nat.add_mod_left]; exact Nat.mod_eq_of_lt (by omega)
  ·exact Nat.mod_eq_of_lt (by omega)
 unfold Ieee.Format.read
 simp only [hm]
 split
 ·rfl
 ·rfl
theorem double_holds {s : Bool} {m : Nat} {e : Int} (hm : m < 2 ^ 24) (h1 : -149≤e) (h2 : e≤104) : (Ieee.double.read (Ieee.double.nearest s m e)).isInfinity = false:=by
 have c1 : Ieee.double.fractionBits = 52:=rfl
 have c2 : Ieee.double.leastPlace = -1074:=by decide
 have c3 : Ieee.double.binade = 2 ^ 52:=rfl
 have c4 : Ieee.double.infRung = 2047 * 2 ^ 52:=rfl
 have c5 : Ieee.double.signWeight = 2 ^ 63:=rfl
 unfold Ieee.Format.nearest
 split
 ·have hf : 0 < Ieee.double.infRung:=by rw [c4]; decide
  have hs : Ieee.double.infRung≤Ieee.double.signWeight:=by rw [c4,c5]; decide
  exact read_finite hf hs
 ·rename_i hz
  have hlog : m.log2≤23:=by
   have:=(Nat.log2_lt hz (k:=24)).2 hm
   omega
  have hmlog : m < 2 ^ (m.log2 + 1):=Nat.lt_log2_self
  rw [c1,c2,c3,c4]
  have hmax : max (e + (m.log2 : Int) - (52 : Nat)) (-1074) = e + (m.log2 : Int) - 52:=by omega
  rw [hmax]
  dsimp only
  have hd : (e + (m.log2 : Int) - 52 - e).toNat = 0:=by omega
  have hu : (e - (e + (m.log2 : Int) - 52)).toNat = 52 - m.log2:=by omega
  rw [hd,hu,cut_zero]
  have hkept : m <<< (52 - m.log2) < 2 ^ 53:=by
   rw [Nat.shiftLeft_eq]
   have : m * 2 ^ (52 - m.log2) < 2 ^ (m.log2 + 1) * 2 ^ (52 - m.log2):=Nat.mul_lt_mul_of_pos_right hmlog (Nat.two_pow_pos _)
   rw [← Nat.pow_add,show m.log2 + 1 + (52 - m.log2) = 53 by omega] at this
   exact this
  have hl : (e + (m.log2 : Int) - 52 - -1074).toNat≤1149:=by omega
  have hr : (e + (m.log2 : Int) - 52 - -1074).toNat * 2 ^ 52 + m <<< (52 - m.log2) < 2047 * 2 ^ 52:=by
   have : (e + (m.log2 : Int) - 52 - -1074).toNat * 2 ^ 52≤1149 * 2 ^ 52:=Nat.mul_le_mul_right _ hl
   omega
  rw [Nat.min_eq_left (Nat.le_of_lt hr)]
  generalize (e + (m.log2 : Int) - 52 - -1074).toNat * 2 ^ 52 + m <<< (52 - m.log2) = X at hr
  have hf : X < Ieee.double.infRung:=by rw [c4]; exact hr
  have hs : Ieee.double.infRung≤Ieee.double.signWeight:=by rw [c4,c5]; decide
  exact read_finite hf hs
theorem single_read {b : Nat} {s : Bool} {m : Nat} {e : Int} (h : Ieee.single.read b = .number s m e) : m < 2 ^ 24∧-149≤e∧e≤104:=by
 have c2 : Ieee.single.leastPlace = -149:=by decide
 have c3 : Ieee.single.binade = 2 ^ 23:=rfl
 have c4 : Ieee.single.infRung = 255 * 2 ^ 23:=rfl
 unfold Ieee.Format.read at h
 simp only [c2,c3,c4] at h
 split at h
 ·simp at h
  obtain ⟨_,rfl,rfl⟩:=h
  omega
 ·split at h
  ·rename_i h1 h2
   simp only [Ieee.Datum.number.injEq] at h
   obtain ⟨_,rfl,rfl⟩:=h
   have hm : (b % Ieee.single.signWeight) % 2 ^ 23 < 2 ^ 23:=Nat.mod_lt _ (by omega)
   have hd : (b % Ieee.single.signWeight) / 2 ^ 23 < 255:=(Nat.div_lt_iff_lt_mul (by omega)).2 h2
   refine ⟨by omega,by omega,by omega⟩
  ·split at h <;> cases h
def Xm (x : Option Nat) : Option Nat:=(Gd .f32 .f64 x).getD none
theorem fconv_wide (x : Option Nat) : Gd .f32 .f64 x = some (Xm x):=by
 have : (Gd .f32 .f64 x).isSome = true:=by
  unfold Gd
  simp
  cases x with
  | none => rfl
  | some b =>
   simp only
   split
   ·rfl
   ·rfl
   ·rename_i s m e hd
    have hd' : Ieee.single.read b = .number s m e:=hd
    obtain ⟨h1,h2,h3⟩:=single_read hd'
    have : (FloatKind.f64.decode (FloatKind.f64.encode (.number s m e))).isInfinity = false:=double_holds h1 h2 h3
    simp [this]
 unfold Xm
 cases h : Gd .f32 .f64 x with
 | none => simp [h] at this
 | some y => rfl
end Go.VL

namespace Go.VL
open Go.RowKit
set_option linter.unusedSimpArgs false
set_option linter.unusedVariables false
def holds (x : Option VS) (K : VS→Prop) : Prop :=
 match x with
 | some s => K s
 | none => False
@[simp] theorem holds_some {s : VS} {K : VS→Prop} : holds (some s) K = K s:=rfl
section
variable {P : Program} {C : Qc} {Q : Exit→VS→Prop} {st : VS}
theorem Qk.of {f : FuncId} {fn : Func} {c : Code} {args : List V} {R : V→Prop} {n : Nat} {rs : List ResultVar} (hf : P.funcs[f]? = some fn) (hb : fn.body = some c) (hn : fn.ntmps = n) (hr : fn.results.toList = rs) (h : VW P c (VRet P rs R) { t:=args ++ List.replicate (n - args.length) .any,m:=[] }) : Qk P f args R:=by
 subst hn
 subst hr
 exact .of_body hf hb h
def condK (v : V) (A B : Prop) : Prop :=
 match v with
 | .b x => (x = true→A)∧(x = false→B)
 | _ => False
@[simp] theorem condK_b {x : Bool} {A B : Prop} : condK (.b x) A B = ((x = true→A)∧(x = false→B)):=rfl
def plainL (l : List V) : Bool:=l.all Yn
def Qp (l : List (List V)) : Bool:=l.all plainL
theorem plainE_iff {l : List (List V)} : Qp l = true ↔ ∀ x ∈ l,∀ v ∈ x,Yn v = true:=by simp [Qp,plainL]
def Kc (v : V) : Bool:=match v with | .own _ _ => true | v => Yn v
def pownE (l : List (List V)) : Bool:=l.all fun l => l.all Kc
theorem pownV_iff {v : V} (h : Kc v = true) : Yn v = true∨∃ n es,v = .own n es:=by
 unfold Kc at h
 split at h
 ·exact .inr ⟨_,_,rfl⟩
 ·exact .inl h
def vfin1 (m : VM) (v : V) : Option (V × List Nat) :=
 match v with
 | .ref b e len => match m[b]? with
  | some (some (n,es)) => if e = 0∧es.length = len∧pownE es = true then some (.own n es,[b]) else
   if e + len≤es.length∧Qp ((es.drop e).take len) = true then some (.own n ((es.drop e).take len),[b]) else none
  | _ => none
 | v => if Yn v = true then some (v,[]) else none
theorem vfin1_sound {m : VM} {v r : V} {ids : List Nat} (h : vfin1 m v = some (r,ids)) : Fin m v r ids:=by
 unfold vfin1 at h
 split at h
 ·split at h
  ·rename_i hb
   split at h
   ·rename_i hc
    obtain ⟨rfl,h1,h2⟩:=hc
    cases h
    exact .tab hb h1 fun l hl v hv => pownV_iff (List.all_eq_true.1 (List.all_eq_true.1 h2 l hl) v hv)
   ·split at h
    ·rename_i hc; cases h; exact .refp hb hc.1 (plainE_iff.1 hc.2)
    ·cases h
  ·cases h
 ·split at h
  ·rename_i hc; cases h; exact .pl hc
  ·cases h
def vfinL1 (m : VM) : List V→Option (List V × List Nat)
 | [] => some ([],[])
 | v :: l => (vfin1 m v).bind fun x => (vfinL1 m l).map fun y => (x.1 :: y.1,x.2 ++ y.2)
theorem vfinL1_sound {m : VM} : ∀ {l r : List V} {ids : List Nat},vfinL1 m l = some (r,ids)→FinL m l r ids
 | [],_,_,h => by cases h; exact .nil
 | v :: l,_,_,h => by
  simp only [vfinL1,Option.bind_eq_some_iff,Option.map_eq_some_iff] at h
  obtain ⟨⟨x1,x2⟩,h1,⟨y1,y2⟩,h2,h3⟩:=h
  cases h3
  exact .cons (vfin1_sound h1) (vfinL1_sound h2)
def vfin2 (m : VM) (v : V) : Option (V × List Nat) :=
 match v with
 | .agg cs => (vfinL1 m cs).map fun x => (.agg x.1,x.2)
 | v => vfin1 m v
theorem vfin2_sound {m : VM} {v r : V} {ids : List Nat} (h : vfin2 m v = some (r,ids)) : Fin m v r ids:=by
 unfold vfin2 at h
 split at h
 ·simp only [Option.map_eq_some_iff] at h
  obtain ⟨⟨x1,x2⟩,h1,h2⟩:=h
  cases h2
  exact .agg (vfinL1_sound h1)
 ·exact vfin1_sound h
def vfinL2 (m : VM) : List V→Option (List V × List Nat)
 | [] => some ([],[])
 | v :: l => (vfin2 m v).bind fun x => (vfinL2 m l).map fun y => (x.1 :: y.1,x.2 ++ y.2)
theorem vfinL2_sound {m : VM} : ∀ {l r : List V} {ids : List Nat},vfinL2 m l = some (r,ids)→FinL m l r ids
 | [],_,_,h => by cases h; exact .nil
 | v :: l,_,_,h => by
  simp only [vfinL2,Option.bind_eq_some_iff,Option.map_eq_some_iff] at h
  obtain ⟨⟨x1,x2⟩,h1,⟨y1,y2⟩,h2,h3⟩:=h
  cases h3
  exact .cons (vfin2_sound h1) (vfinL2_sound h2)
def vfin (m : VM) (v : V) : Option (V × List Nat) :=
 match v with
 | .tup cs => (vfinL2 m cs).map fun x => (.tup x.1,x.2)
 | v => vfin2 m v
theorem vfin_sound {m : VM} {v r : V} {ids : List Nat} (h : vfin m v = some (r,ids)) : Fin m v r ids:=by
 unfold vfin at h
 split at h
 ·simp only [Option.map_eq_some_iff] at h
  obtain ⟨⟨x1,x2⟩,h1,h2⟩:=h
  cases h2
  exact .tup (vfinL2_sound h1)
 ·exact vfin2_sound h
def resK (x : Option (V × List Nat)) (R : V→Prop) : Prop :=
 match x with
 | some (v,ids) => ids.Nodup∧R v
 | none => False
@[simp] theorem resK_some {v : V} {ids : List Nat} {R : V→Prop} : resK (some (v,ids)) R = (ids.Nodup∧R v):=rfl
theorem VRet.fin {rs : List ResultVar} {R : V→Prop} {s : VS} (h : resK ((Qn P rs s).bind (vfin s.m)) R) : ∃ v r ids,Qn P rs s = some v∧Fin s.m v r ids∧ids.Nodup∧R r:=by
 cases hv : Qn P rs s with
 | none => rw [hv] at h; exact h.elim
 | some v =>
  rw [hv] at h
  simp only [Option.bind_some] at h
  cases hf : vfin s.m v with
  | none => rw [hf] at h; exact h.elim
  | some x =>
   obtain ⟨r,ids⟩:=x
   rw [hf] at h
   exact ⟨v,r,ids,rfl,vfin_sound hf,h.1,h.2⟩
end
section
variable {P : Program} {C : Qc} {m : VM} {t : List V} {ρ : Operand→V}
@[simp] theorem ev_tmp {i : Nat} : ev t (.tmp i) = t.getD i .any:=rfl
@[simp] theorem ev_func {f : FuncId} : ev t (.func f) = .s (.func (.func f) #[] #[]):=rfl
@[simp] theorem ev_int {k : IntKind} {n : Int} : ev t (.const (.int k n)) = .i k n:=rfl
@[simp] theorem ev_bool {b : Bool} : ev t (.const (.bool b)) = .b b:=rfl
@[simp] theorem ev_float {k : FloatKind} {b : Nat} : ev t (.const (.float k b)) = .f k (some b):=rfl
@[simp] theorem ev_str {s : ByteArray} : ev t (.const (.string s)) = .str s:=rfl
@[simp] theorem ev_nilslice : ev t (.const (.slice none 0 0)) = .nil:=rfl
@[simp] theorem putV_some {d : Tmp} {v : V} : Xh t (some d) v = t.set d v:=rfl
@[simp] theorem putV_none {v : V} : Xh t none v = t:=rfl
@[simp] theorem vpick_true {a b : V} : vpick true a b = a:=rfl
@[simp] theorem vpick_false {a b : V} : vpick false a b = b:=rfl
@[simp] theorem vpick_and {x y : Bool} {u : V} : vpick x (mrg2 x (.b y) u) (.b false) = .b (x && y):=by cases x <;> rfl
@[simp] theorem vpick_or {x y : Bool} {u : V} : vpick x (.b true) (mrg2 (bn x) (.b y) u) = .b (x || y):=by cases x <;> rfl
@[simp] theorem vpick_bb {x y z : Bool} : vpick x (.b y) (.b z) = .b (if x = true then y else z):=by cases x <;> rfl
@[simp] theorem mrg2_same {g : Bool} {v : V} : mrg2 g v v = v:=by cases g <;> rfl
@[simp] theorem mrg2_true {a b : V} : mrg2 true a b = a:=rfl
@[simp] theorem mrg2_false {a b : V} : mrg2 false a b = b:=rfl
@[simp] theorem mrg2_self {x : Bool} : mrg2 x (.b true) (.b x) = .b x:=by cases x <;> rfl
@[simp] theorem mrg2_nself {x : Bool} : mrg2 (bn x) (.b false) (.b x) = .b x:=by cases x <;> rfl
@[simp] theorem bn_true : bn true = false:=rfl
@[simp] theorem bn_false : bn false = true:=rfl
attribute [simp] geq_true geq_false gate_true gate_false
theorem gate_cond {g g' : Bool} {A : Option VS} {st : VS} {blk : List Oper} (hg : g = g') : gate g A st blk = gate g' A st blk:=by rw [hg]
attribute [congr] gate_cond
def gate2 (g : Bool) (A : Option VS) (st : VS) (blk : List Oper) : Option VS:=gate g A st blk
theorem gate2_congr {g g' : Bool} {A A' : Option VS} {st : VS} {blk : List Oper} (hg : g = g') (h : g' = true→A = A') : gate2 g A st blk = gate2 g' A' st blk:=gate_congr hg h
attribute [congr] gate2_congr
@[simp low] theorem gate_go {g : Bool} {A : Option VS} {st : VS} {blk : List Oper} : gate g A st blk = gate2 g A st blk:=rfl
@[simp] theorem gate2_some {g : Bool} {t1 t gg : List V} {m : VM} {blk : List Oper} : gate2 g (some { t:=t1,m:=m,g:=gg }) { t:=t,m:=m,g:=gg } blk = some { t:=mrgT g t1 (skipT blk t),m:=m,g:=gg }:=gate_some g t1 t gg m blk
def obind (x : Option VS) (f : VS→Option VS) : Option VS:=x.bind f
theorem obind_congr {x y : Option VS} {f : VS→Option VS} (h : x = y) : obind x f = obind y f:=by rw [h]
attribute [congr] obind_congr
@[simp] theorem obind_some {s : VS} {f : VS→Option VS} : obind (some s) f = f s:=rfl
@[simp] theorem obind_none {f : VS→Option VS} : obind none f = none:=rfl
section
variable {P : Program} {C : Qc} {ops : Array Oper} {cur : Option (Nat × Bool)} {st : VS} {n : Nat} {o : Oper} {l : List Oper}
@[simp] theorem veval_nil : Wj P C ops n cur [] st = some st:=by cases n <;> rfl
@[simp] theorem veval_cons : Wj P C ops (n + 1) cur (o :: l) st =
  if o.guard = cur then obind (vstep P C st o) (Wj P C ops n cur l)
  else match o.guard with
   | none => none
   | some (j,want) => match guardV ops st.t j with
    | some (d,.b x) => obind (gate (geq x want) (Wj P C ops n (some (j,want)) (o :: l.takeWhile fun o' => o'.guard != cur) { t:=st.t.set d (.b want),m:=st.m,g:=st.g }) st (o :: l.takeWhile fun o' => o'.guard != cur)) (Wj P C ops n cur (l.dropWhile fun o' => o'.guard != cur))
    | some (_,.tup _) => Wj P C ops n cur (l.dropWhile fun o' => o'.guard != cur) { t:=skipT (o :: l.takeWhile fun o' => o'.guard != cur) st.t,m:=st.m,g:=st.g }
    | _ => none:=rfl
end
attribute [simp] vthen vblock vfin1 vfinL1 vfin2 vfinL2 vfin Qn vres1 guardV mrgT skipT Ko vreL vreLA vreA vcut Xz vre1 vre vex1 vex1a vexL vexT vex frz Qw Jj cenv Qc.Ok
@[simp] theorem plainV_i {k : IntKind} {n : Int} : Yn (.i k n) = true:=rfl
@[simp] theorem plainV_b {x : Bool} : Yn (.b x) = true:=rfl
@[simp] theorem plainV_f {k : FloatKind} {x : Option Nat} : Yn (.f k x) = true:=rfl
@[simp] theorem plainV_str {x : ByteArray} : Yn (.str x) = true:=rfl
@[simp] theorem plainV_s {x : Value} : Yn (.s x) = true:=rfl
@[simp] theorem plainV_nil : Yn .nil = true:=rfl
@[simp] theorem plainV_sl {n : Nat} {es : List (List V)} : Yn (.sl n es) = false:=rfl
@[simp] theorem plainV_own {n : Nat} {es : List (List V)} : Yn (.own n es) = false:=rfl
@[simp] theorem plainV_ref {b e n : Nat} : Yn (.ref b e n) = false:=rfl
@[simp] theorem plainV_refc {b e j q n : Nat} : Yn (.refc b e j q n) = false:=rfl
@[simp] theorem plainV_ptr {b e n : Nat} : Yn (.ptr b e n) = false:=rfl
@[simp] theorem plainV_cptr {cs : List V} {j : Nat} : Yn (.cptr cs j) = false:=rfl
@[simp] theorem plainV_agg {cs : List V} : Yn (.agg cs) = false:=rfl
@[simp] theorem plainV_tup {cs : List V} : Yn (.tup cs) = false:=rfl
@[simp] theorem plainV_any : Yn .any = false:=rfl
@[simp] theorem snapV_i {k : IntKind} {n : Int} : Us (.i k n) = true:=rfl
@[simp] theorem snapV_b {x : Bool} : Us (.b x) = true:=rfl
@[simp] theorem snapV_f {k : FloatKind} {x : Option Nat} : Us (.f k x) = true:=rfl
@[simp] theorem snapV_str {x : ByteArray} : Us (.str x) = true:=rfl
@[simp] theorem snapV_s {x : Value} : Us (.s x) = true:=rfl
@[simp] theorem snapV_nil : Us .nil = true:=rfl
@[simp] theorem snapV_sl {n : Nat} {es : List (List V)} : Us (.sl n es) = true:=rfl
@[simp] theorem snapV_own {n : Nat} {es : List (List V)} : Us (.own n es) = false:=rfl
@[simp] theorem snapV_ref {b e n : Nat} : Us (.ref b e n) = false:=rfl
@[simp] theorem snapV_refc {b e j q n : Nat} : Us (.refc b e j q n) = false:=rfl
@[simp] theorem snapV_ptr {b e n : Nat} : Us (.ptr b e n) = false:=rfl
@[simp] theorem snapV_cptr {cs : List V} {j : Nat} : Us (.cptr cs j) = true:=rfl
@[simp] theorem snapV_agg {cs : List V} : Us (.agg cs) = false:=rfl
@[simp] theorem snapV_tup {cs : List V} : Us (.tup cs) = false:=rfl
@[simp] theorem snapV_any : Us .any = true:=rfl
@[simp] theorem un1_i {k : IntKind} {n : Int} : un1 (.i k n) = .i k n:=rfl
@[simp] theorem un1_b {x : Bool} : un1 (.b x) = .b x:=rfl
@[simp] theorem un1_f {k : FloatKind} {x : Option Nat} : un1 (.f k x) = .f k x:=rfl
@[simp] theorem un1_str {x : ByteArray} : un1 (.str x) = .str x:=rfl
@[simp] theorem un1_s {x : Value} : un1 (.s x) = .s x:=rfl
@[simp] theorem un1_nil : un1 .nil = .nil:=rfl
@[simp] theorem un1_any : un1 .any = .any:=rfl
@[simp] theorem un1_sl {n : Nat} {es : List (List V)} : un1 (.sl n es) = .sl n es:=rfl
@[simp] theorem un1_own {n : Nat} {es : List (List V)} : un1 (.own n es) = .sl n (Jj es):=rfl
@[simp] theorem un1_ref {b e n : Nat} : un1 (.ref b e n) = .ref b e n:=rfl
@[simp] theorem un1_refc {b e j q n : Nat} : un1 (.refc b e j q n) = .refc b e j q n:=rfl
@[simp] theorem un1_ptr {b e n : Nat} : un1 (.ptr b e n) = .ptr b e n:=rfl
@[simp] theorem un1_cptr {cs : List V} {j : Nat} : un1 (.cptr cs j) = .cptr cs j:=rfl
@[simp] theorem unT_agg {cs : List V} : unT (.agg cs) = .agg (cs.map un1):=rfl
@[simp] theorem unT_i {k : IntKind} {n : Int} : unT (.i k n) = .i k n:=rfl
@[simp] theorem unT_b {x : Bool} : unT (.b x) = .b x:=rfl
@[simp] theorem unT_f {k : FloatKind} {x : Option Nat} : unT (.f k x) = .f k x:=rfl
@[simp] theorem unT_str {x : ByteArray} : unT (.str x) = .str x:=rfl
@[simp] theorem unT_s {x : Value} : unT (.s x) = .s x:=rfl
@[simp] theorem unT_nil : unT .nil = .nil:=rfl
@[simp] theorem unT_any : unT .any = .any:=rfl
@[simp] theorem unT_sl {n : Nat} {es : List (List V)} : unT (.sl n es) = .sl n es:=rfl
@[simp] theorem unT_own {n : Nat} {es : List (List V)} : unT (.own n es) = .sl n (Jj es):=rfl
@[simp] theorem unT_ref {b e n : Nat} : unT (.ref b e n) = .ref b e n:=rfl
@[simp] theorem unT_refc {b e j q n : Nat} : unT (.refc b e j q n) = .refc b e j q n:=rfl
@[simp] theorem unT_ptr {b e n : Nat} : unT (.ptr b e n) = .ptr b e n:=rfl
@[simp] theorem unT_cptr {cs : List V} {j : Nat} : unT (.cptr cs j) = .cptr cs j:=rfl
@[simp] theorem unE_nil : unE [] = []:=rfl
@[simp] theorem unE_cons {l : List V} {es : List (List V)} : unE (l :: es) = l.map un1 :: unE es:=rfl
@[simp] theorem pownE_nil : pownE [] = true:=rfl
@[simp] theorem pownE_cons {l : List V} {es : List (List V)} : pownE (l :: es) = (l.all Kc && pownE es):=rfl
@[simp] theorem pownV_own {n : Nat} {es : List (List V)} : Kc (.own n es) = true:=rfl
@[simp] theorem pownV_i {k : IntKind} {n : Int} : Kc (.i k n) = true:=rfl
@[simp] theorem pownV_b {x : Bool} : Kc (.b x) = true:=rfl
@[simp] theorem pownV_f {k : FloatKind} {x : Option Nat} : Kc (.f k x) = true:=rfl
@[simp] theorem pownV_str {x : ByteArray} : Kc (.str x) = true:=rfl
@[simp] theorem pownV_nil : Kc .nil = true:=rfl
@[simp] theorem pownV_s {x : Value} : Kc (.s x) = true:=rfl
theorem plain_pown {v : V} (h : Yn v = true) : Kc v = true:=by cases v <;> first | exact h | rfl
theorem plainE_pown {l : List (List V)} (h : Qp l = true) : pownE l = true:=List.all_eq_true.2 fun x hx => List.all_eq_true.2 fun v hv => plain_pown (List.all_eq_true.1 (List.all_eq_true.1 h x hx) v hv)
theorem snap_un1 {v : V} (h : Us v = true) : un1 v = v:=by cases v <;> first | rfl | (cases h; done)
theorem snapE_un {l : List (List V)} (h : Hn l = true) : unE l = l:=by
 unfold unE
 conv => rhs; rw [← List.map_id l]
 refine List.map_congr_left fun x hx => ?_
 conv => rhs; rw [id,← List.map_id x]
 exact List.map_congr_left fun v hv => snap_un1 (List.all_eq_true.1 (List.all_eq_true.1 h x hx) v hv)
@[simp] theorem plainL_nil : plainL [] = true:=rfl
@[simp] theorem plainL_cons {v : V} {l : List V} : plainL (v :: l) = (Yn v && plainL l):=rfl
@[simp] theorem plainE_nil : Qp [] = true:=rfl
@[simp] theorem plainE_cons {v : List V} {l : List (List V)} : Qp (v :: l) = (plainL v && Qp l):=rfl
@[simp] theorem snapL_nil : Uv [] = true:=rfl
@[simp] theorem snapL_cons {v : V} {l : List V} : Uv (v :: l) = (Us v && Uv l):=rfl
@[simp] theorem snapE_nil : Hn [] = true:=rfl
@[simp] theorem snapE_cons {v : List V} {l : List (List V)} : Hn (v :: l) = (Uv v && Hn l):=rfl
theorem plain_snap {v : V} (h : Yn v = true) : Us v = true:=by cases v <;> first | rfl | (cases h; done)
theorem plainL_snap {l : List V} (h : plainL l = true) : Uv l = true:=List.all_eq_true.2 fun v hv => plain_snap (List.all_eq_true.1 h v hv)
theorem plainE_snap {l : List (List V)} (h : Qp l = true) : Hn l = true:=List.all_eq_true.2 fun x hx => plainL_snap (List.all_eq_true.1 h x hx)
theorem frzE_same {l : List (List V)} (h : Qp l = true) : Jj l = l:=frzE_plain (plainE_iff.1 h)
@[simp] theorem noBM_nil {b : Nat} : noBM b [] = true:=rfl
@[simp] theorem noBM_none {b : Nat} {m : VM} : noBM b (none :: m) = noBM b m:=by simp [noBM]
@[simp] theorem noBM_some {b n : Nat} {es : List (List V)} {m : VM} : noBM b (some (n,es) :: m) = (noBE b es && noBM b m):=by simp [noBM,noBE]
@[simp] theorem noBE_nil {b : Nat} : noBE b [] = true:=rfl
@[simp] theorem noBE_cons {b : Nat} {l : List V} {es : List (List V)} : noBE b (l :: es) = (l.all (Wo b) && noBE b es):=rfl
@[simp] theorem cellE_nil : cellE [] = true:=rfl
@[simp] theorem cellOE_nil : cellOE [] = true:=rfl
@[simp] theorem cellOE_cons {l : List V} {es : List (List V)} : cellOE (l :: es) = (l.all cellO && cellOE es):=rfl
theorem cellV_O {v : V} (h : Wn v = true) : cellO v = true:=by cases v <;> first | rfl | exact h
theorem cellE_O {es : List (List V)} (h : cellE es = true) : cellOE es = true:=List.all_eq_true.2 fun x hx => List.all_eq_true.2 fun v hv => cellV_O (List.all_eq_true.1 (List.all_eq_true.1 h x hx) v hv)
@[simp] theorem cellE_cons {l : List V} {es : List (List V)} : cellE (l :: es) = (l.all Wn && cellE es):=rfl
theorem plain_noB {b : Nat} {v : V} (h : Yn v = true) : Wo b v = true:=by cases v <;> first | rfl | (cases h; done)
theorem plainE_noB {b : Nat} {l : List (List V)} (h : Qp l = true) : noBE b l = true:=List.all_eq_true.2 fun x hx => List.all_eq_true.2 fun v hv => plain_noB (plainE_iff.1 h x hx v hv)
theorem plain_cell {v : V} (h : Yn v = true) : Wn v = true:=by cases v <;> first | rfl | (cases h; done)
theorem plainE_cell {l : List (List V)} (h : Qp l = true) : cellE l = true:=List.all_eq_true.2 fun x hx => List.all_eq_true.2 fun v hv => plain_cell (plainE_iff.1 h x hx v hv)
@[simp] theorem noBV_i {b : Nat} {k : IntKind} {n : Int} : Wo b (.i k n) = true:=rfl
@[simp] theorem noBV_b {b : Nat} {x : Bool} : Wo b (.b x) = true:=rfl
@[simp] theorem noBV_f {b : Nat} {k : FloatKind} {x : Option Nat} : Wo b (.f k x) = true:=rfl
@[simp] theorem noBV_str {b : Nat} {x : ByteArray} : Wo b (.str x) = true:=rfl
@[simp] theorem noBV_s {b : Nat} {x : Value} : Wo b (.s x) = true:=rfl
@[simp] theorem noBV_nil {b : Nat} : Wo b .nil = true:=rfl
@[simp] theorem noBV_any {b : Nat} : Wo b .any = true:=rfl
@[simp] theorem noBV_sl {b n : Nat} {es : List (List V)} : Wo b (.sl n es) = true:=rfl
@[simp] theorem noBV_cptr {b j : Nat} {cs : List V} : Wo b (.cptr cs j) = true:=rfl
@[simp] theorem noBV_ref {b b' e n : Nat} : Wo b (.ref b' e n) = decide (b' ≠ b):=rfl
@[simp] theorem noBV_refc {b b' e j q n : Nat} : Wo b (.refc b' e j q n) = decide (b' ≠ b):=rfl
@[simp] theorem noBV_ptr {b b' e n : Nat} : Wo b (.ptr b' e n) = decide (b' ≠ b):=rfl
@[simp] theorem noBV_agg {b : Nat} {cs : List V} : Wo b (.agg cs) = false:=rfl
@[simp] theorem noBV_tup {b : Nat} {cs : List V} : Wo b (.tup cs) = false:=rfl
attribute [simp] vapp vcont Uf noBT noBA
attribute [simp] vq vop1 vstep Jy vstore vload vload0 vrd vfieldAddr vfield vidx vindex Jz Wv vslice vlen Wn cellO Un vbuild Hm lift1 scalarB Xz
end
end Go.VL

namespace Go.VL
open Go.RowKit Go.ChangeShapes Go.WideShapes Go.ChangeAt
set_option linter.unusedSimpArgs false
set_option linter.unusedVariables false
def OkA (sh : Sh) (agg : Bool) (x : V) : Prop:=if agg = true then ∃ cs,x = .agg cs∧Ok sh cs else Ok sh [x]
def OkT (P : Program) (t : TypeId) (x : V) : Prop:=∃ sh,shp P 12 t = some sh∧OkA sh (Xe P t) x
def shB (P : Program) (t : TypeId) : Bool:=(shp P 12 t).isSome && P.readableRec t && decide (t < P.types.size)
section
variable {P : Program}
theorem arg_S {H : Type} {enc : TypeId × Value→H} {w : World} {t : TypeId} {v : Value} {d : DataW H} {ps : List MemPlace} {sh : Sh} (hsh : shp P 12 t = some sh) (hval : Value.okWide P w .any 0 t v) (h : DataW.Trod enc P w 0 (fun _ => true) true t v d ps) :
  ∃ x,S w (fun _ => False) Wi x v∧OkT P t x:=by
 obtain ⟨fuel,hf⟩:=h
 obtain ⟨vs,h1,h2,h3⟩:=trod_S fuel 12 t _ _ sh hf hsh
 cases ha : Xe P t with
 | true =>
  have : ∃ cs,v = .agg cs:=by
   unfold Xe at ha
   unfold Value.okWide at hval
   split at ha
   ·rename_i hu; rw [hu] at hval; obtain ⟨cs,h,_⟩:=hval; exact ⟨cs,h⟩
   ·rename_i hu; rw [hu] at hval; obtain ⟨cs,h,_⟩:=hval; exact ⟨cs,h⟩
   ·cases ha
  obtain ⟨cs,rfl⟩:=this
  refine ⟨.agg vs,?_,sh,hsh,by rw [ha]; exact ⟨vs,rfl,h3⟩⟩
  have:=S.agg h2
  simpa [Value.cells] using this
 | false =>
  have hone : v.cells = #[v]:=by
   have hok : Cell.okWide P w .any 0 t v:=by
    unfold Xe at ha
    unfold Value.okWide at hval
    split at ha
    ·cases ha
    ·cases ha
    ·rename_i h1 h2
     split at hval
     ·rename_i F hu; exact absurd hu (h1 F)
     ·rename_i n e hu; exact absurd hu (h2 n e)
     ·exact hval
   cases v with
   | agg cs =>
    exfalso
    cases hu : P.underlying t with
    | none => simp [Cell.okWide,Cell.ok,hu] at hok
    | some D => cases D <;> simp [Cell.okWide,Cell.ok,hu] at hok
   | _ => rfl
  rw [hone] at h1 h2
  simp at h1 h2
  cases h2 with
  | cons hv hs =>
   cases hs
   exact ⟨_,hv,sh,hsh,by rw [ha]; exact h3⟩
inductive OkAll (P : Program) : List TypeId→List V→Prop
 | nil : OkAll P [] []
 | cons {t : TypeId} {ts : List TypeId} {x : V} {xs : List V} (h : OkT P t x) (hs : OkAll P ts xs) : OkAll P (t :: ts) (x :: xs)
theorem OkAll.cons_inv {P : Program} {t : TypeId} {ts : List TypeId} {xs : List V} (h : OkAll P (t :: ts) xs) : ∃ y ys,xs = y :: ys∧OkT P t y∧OkAll P ts ys:=by
 cases h with
 | cons h hs => exact ⟨_,_,rfl,h,hs⟩
theorem OkAll.nil_inv {P : Program} {xs : List V} (h : OkAll P [] xs) : xs = []:=by cases h; rfl
theorem args_S {H : Type} {enc : TypeId × Value→H} {w : World} : ∀ {ts : List TypeId} {vs : List Value} {ds : List (DataW H)} {ps : List MemPlace},ts.all (shB P) = true→(∀ (j : Nat) (t : TypeId) (v : Value),ts[j]? = some t→vs[j]? = some v→Value.okWide P w .any 0 t v) →
  DataW.TrodAll enc P w 0 (fun _ => true) true ts vs ds ps→∃ xs,Sl w (fun _ => False) Wi xs vs∧OkAll P ts xs
 | [],vs,ds,ps,_,_,h => by
  obtain ⟨rfl,_,_⟩:=trodAll_nil h
  exact ⟨[],.nil,.nil⟩
 | t :: ts,vs,ds,ps,hb,hv,h => by
  obtain ⟨v,vs',d,ds',p,q,rfl,rfl,rfl,h1,h2⟩:=trodAll_cons h
  simp only [List.all_cons,Bool.and_eq_true] at hb
  have hsh : ∃ sh,shp P 12 t = some sh:=Option.isSome_iff_exists.1 (by have:=hb.1; simp only [shB,Bool.and_eq_true] at this; exact this.1.1)
  obtain ⟨sh,hsh⟩:=hsh
  obtain ⟨x,x1,x2⟩:=arg_S hsh (hv 0 t v rfl rfl) h1
  obtain ⟨xs,y1,y2⟩:=args_S hb.2 (fun j t' v' a b => hv (j + 1) t' v' (by simpa using a) (by simpa using b)) h2
  exact ⟨x :: xs,.cons x1 y1,.cons x2 y2⟩
theorem args_behind {H : Type} {enc : TypeId × Value→H} {w w' : World} (hl : laidOutB P = true) (hbel : Below w.heap.size w w') : ∀ {ts : List TypeId} {vs : List Value} {ds : List (DataW H)} {ps : List MemPlace},ts.all (shB P) = true →
  DataW.TrodAll enc P w 0 (fun _ => true) true ts vs ds ps→DataW.TrodAll enc P w' 0 (fun b => decide (b < w.heap.size)) true ts vs ds ps
 | [],vs,ds,ps,_,h => by
  obtain ⟨rfl,rfl,rfl⟩:=trodAll_nil h
  rfl
 | t :: ts,vs,ds,ps,hb,h => by
  obtain ⟨v,vs',d,ds',p,q,rfl,rfl,rfl,h1,h2⟩:=trodAll_cons h
  simp only [List.all_cons,Bool.and_eq_true] at hb
  have hb1:=hb.1
  simp only [shB,Bool.and_eq_true,decide_eq_true_eq] at hb1
  have hlt : ∀ x ∈ p,x.block < w.heap.size:=by
   obtain ⟨m,hm⟩:=h1
   exact DataW.trod_lt m _ _ _ hm
  exact ⟨p,q,Below.trod hl hb1.1.2 hb1.2 h1 hbel hlt,args_behind hl hbel hb.2 h2,rfl⟩
theorem Qk.law {f : FuncId} {xs : List V} {w : World} {args : Array Value} (h : Qk P f xs (fun r => r = .b true)) (hs : Sl w (fun _ => False) Wi xs args.toList) (hg : Glob P w) : Calls P f args w (fun e w' => e = .returned (.bool true)∧Below w.heap.size w w'):=by
 have:=h w _ hg hs
 simp only [Array.toArray_toList] at this
 refine this.mono fun e w' ⟨x,u,F,he,hx,hr,_,_,hb⟩ => ?_
 subst hx
 have hS:=hr.pinv rfl
 cases hS
 exact ⟨he,hb⟩
end
end Go.VL

namespace Go.VL
open Go.RowKit
set_option linter.unusedSimpArgs false
set_option linter.unusedVariables false
def fgt : List V→List V→Prop
 | [],[] => True
 | a :: s,b :: t => (b = .any∨a = b)∧fgt s t
 | _,_ => False
theorem fgt.get : ∀ {s t : List V},fgt s t→s.length = t.length∧∀ (i : Nat) (v : V),t[i]? = some v→v = .any∨s[i]? = some v
 | [],[],_ => ⟨rfl,by simp⟩
 | a :: s,b :: t,h => by
  obtain ⟨h1,h2⟩:=fgt.get h.2
  refine ⟨by simp [h1],fun i v hi => ?_⟩
  cases i with
  | zero =>
   simp at hi
   subst hi
   rcases h.1 with h | h
   ·exact .inl h
   ·subst h; exact .inr rfl
  | succ i => simpa using h2 i v (by simpa using hi)
 | [],_ :: _,h => h.elim
 | _ :: _,[],h => h.elim
def Zs (k : Nat) (v : V) : Bool :=
 match v with
 | .ref b _ _ | .refc b _ _ _ _ | .ptr b _ _ => decide (b < k)
 | .own _ _ => true
 | v => Us v
def Zx (k : Nat) (v : V) : Bool :=
 match v with
 | .agg cs | .tup cs => cs.all (Zs k)
 | v => Zs k v
def bndM (k : Nat) (m : VM) : Bool:=m.all fun x => match x with
 | some (_,es) => es.all fun l => l.all (Zs k)
 | none => true
section
variable {w : World} {O O' : Nat→Prop} {φ φ' : Pl} {k : Nat}
theorem bndV_S (hO : ∀ x,O' x→O x) (hφ : ∀ b,b < k→φ' b = φ b) {v : V} {u : Value} (hb : Zs k v = true) (h : S w O φ v u) : S w O' φ' v u:=by
 have hev : Ev w O Wi w O' Wi:=⟨fun x _ ho => ⟨rfl,fun h' => ho (hO x h')⟩,fun _ _ h => h,fun _ _ h => h⟩
 cases h <;> simp only [Zs,decide_eq_true_eq,Us,Yn] at hb
 case i => exact .i
 case b => exact .b
 case f => exact .f
 case nan h => exact .nan h
 case str => exact .str
 case s h => exact .s h
 case nil => exact .nil
 case sl hn hl hc h => exact .sl hn hl hc (h.ev hev)
 case sl0 => exact .sl0
 case slnil => exact .slnil
 case ref => exact .ref ((hφ _ hb).trans ‹_›) ‹_› ‹_›
 case ref0 => exact .ref0
 case refnil => exact .refnil
 case refc => exact .refc ((hφ _ hb).trans ‹_›) ‹_›
 case refc0 => exact .refc0
 case ptr h1 => exact .ptr ((hφ _ hb).trans h1)
 case cptr h => exact .cptr (h.ev hev)
 case own h => exact .own (h.ev hev)
 case err => exact .err
 case any => exact .any
 all_goals cases hb
theorem bndV_Sl (hO : ∀ x,O' x→O x) (hφ : ∀ b,b < k→φ' b = φ b) : ∀ {vs : List V} {us : List Value},vs.all (Zs k) = true→Sl w O φ vs us→Sl w O' φ' vs us
 | _,_,_,.nil => .nil
 | _,_,hb,.cons h hs => by
  simp only [List.all_cons,Bool.and_eq_true] at hb
  exact .cons (bndV_S hO hφ hb.1 h) (bndV_Sl hO hφ hb.2 hs)
theorem bndT_S (hO : ∀ x,O' x→O x) (hφ : ∀ b,b < k→φ' b = φ b) {v : V} {u : Value} (hb : Zx k v = true) (h : S w O φ v u) : S w O' φ' v u:=by
 unfold Zx at hb
 split at hb
 ·cases h with
  | agg h => exact .agg (bndV_Sl hO hφ hb h)
 ·cases h with
  | tup h => exact .tup (bndV_Sl hO hφ hb h)
 ·exact bndV_S hO hφ hb h
theorem bndT_Sl (hO : ∀ x,O' x→O x) (hφ : ∀ b,b < k→φ' b = φ b) : ∀ {vs : List V} {us : List Value},vs.all (Zx k) = true→Sl w O φ vs us→Sl w O' φ' vs us
 | _,_,_,.nil => .nil
 | _,_,hb,.cons h hs => by
  simp only [List.all_cons,Bool.and_eq_true] at hb
  exact .cons (bndT_S hO hφ hb.1 h) (bndT_Sl hO hφ hb.2 hs)
end
theorem Qm.to {t t' : List V} {m m' : VM} (k : Nat) (hf : fgt t t') (hm : m.take k = m') (hk : k≤m.length) (ht : t'.all (Zx k) = true) (hb : bndM k m' = true) {g : List V} (hgg : g.all (Zx k) = true:=by rfl) : Qm { t:=t,m:=m,g:=g } { t:=t',m:=m',g:=g }:=by
 intro P N w0 a w φ hs
 obtain ⟨f1,f2⟩:=fgt.get hf
 subst hm
 have hlen : (m.take k).length = k:=by simp; omega
 have hget : ∀ b x,(m.take k)[b]? = some x→m[b]? = some x∧b < k:=fun b x h => by
  rw [List.getElem?_take] at h
  split at h
  ·exact ⟨h,‹_›⟩
  ·cases h
 refine ⟨fun b => if b < k then φ b else none,hs.defers,by rw [hs.size]; exact f1,fun i v hi => ?_,⟨fun b n es p hbk hp => ?_,fun b q po n h => ?_,fun b p h => ?_,fun b b' q po po' n n' h h' => ?_,?_⟩,hs.below,hs.start,?_,hs.gl⟩
 ·have hO : ∀ x,Yf (fun b => if b < k then φ b else none) (m.take k) x→Yf φ m x:=fun x ⟨b,y,po,n,h1,h2⟩ => by
   obtain ⟨h3,h4⟩:=hget b _ h1
   simp only [h4,if_true] at h2
   exact ⟨b,y,po,n,h3,h2⟩
  rcases f2 i v hi with rfl | h
  ·obtain ⟨u,hu⟩ : ∃ u,a.tmps[i]? = some u:=by
    have : i < a.tmps.size:=by rw [hs.size]; simp only; rw [f1]; exact (List.getElem?_eq_some_iff.1 hi).1
    exact ⟨a.tmps[i],by simp [this]⟩
   exact ⟨u,hu,.any⟩
  ·obtain ⟨u,a1,a2⟩:=hs.tmps i v h
   refine ⟨u,a1,bndT_S (k:=k) hO (fun b hb => by simp [hb]) ?_ a2⟩
   have:=List.all_eq_true.1 ht v (List.mem_of_getElem? hi)
   exact this
 ·have hO : ∀ x,Yf (fun b => if b < k then φ b else none) (m.take k) x→Yf φ m x:=fun x ⟨b,y,po,n,h1,h2⟩ => by
   obtain ⟨h3,h4⟩:=hget b _ h1
   simp only [h4,if_true] at h2
   exact ⟨b,y,po,n,h3,h2⟩
  obtain ⟨h3,h4⟩:=hget b _ hbk
  simp only [h4,if_true] at hp
  obtain ⟨c1,pb,po,c,e,c2,c3,c4,c5⟩:=hs.mem.at_ b n es p h3 hp
  refine ⟨c1,pb,po,c,e,by simp only [h4,if_true]; exact c2,c3,c4,fun i v hi => ?_⟩
  obtain ⟨u,d1,d2,d3⟩:=c5 i v hi
  refine ⟨u,d1,d2,bndV_S (k:=k) hO (fun b hb => by simp [hb]) ?_ d3⟩
  unfold bndM at hb
  have h5:=List.all_eq_true.1 hb _ (List.mem_of_getElem? hbk)
  simp only at h5
  obtain ⟨l,l1,l2⟩:=List.mem_flatten.1 (List.mem_of_getElem? hi)
  exact List.all_eq_true.1 (List.all_eq_true.1 h5 l l1) v l2
 ·split at h
  ·exact hs.mem.new b q po n h
  ·cases h
 ·split at h
  ·rw [hlen]; assumption
  ·cases h
 ·split at h
  ·split at h'
   ·exact hs.mem.inj b b' q po po' n n' h h'
   ·cases h'
  ·cases h
 ·have hO : ∀ x,Yf (fun b => if b < k then φ b else none) (m.take k) x→Yf φ m x:=fun x ⟨b,y,po,n,h1,h2⟩ => by
   obtain ⟨h3,h4⟩:=hget b _ h1
   simp only [h4,if_true] at h2
   exact ⟨b,y,po,n,h3,h2⟩
  obtain ⟨ψ,hψ⟩:=hs.mem.own
  refine ⟨ψ,hψ.keep (Nat.le_refl _) (fun q _ ho => ⟨rfl,fun hl => ho (hO q hl)⟩) fun b n es pb po bn i n' es' h1 h2 h3 => ?_⟩
  obtain ⟨h4,h5⟩:=hget b _ h1
  simp only [h5,if_true] at h2
  exact ⟨n,es,pb,po,bn,h4,h2,h3,fun u hu => hu⟩
 ·have hO : ∀ x,Yf (fun b => if b < k then φ b else none) (m.take k) x→Yf φ m x:=fun x ⟨b,y,po,n,h1,h2⟩ => by
   obtain ⟨h3,h4⟩:=hget b _ h1
   simp only [h4,if_true] at h2
   exact ⟨b,y,po,n,h3,h2⟩
  exact bndT_Sl (k:=k) hO (fun b hb => by simp [hb]) hgg hs.gh
def fill {α : Type} (i : Nat) (xs : List α) (z : α) : List α:=xs.take i ++ List.replicate (xs.length - i) z
section
variable {α : Type} {xs : List α} {z : α} {i : Nat}
theorem Qz : fill 0 xs z = List.replicate xs.length z:=by simp [fill]
theorem Jf : fill xs.length xs z = xs:=by simp [fill]
@[simp] theorem fill_length : (fill i xs z).length = xs.length:=by simp [fill]; omega
theorem Je (h : i < xs.length) {x : α} (hx : xs[i]? = some x) : (fill i xs z).set i x = fill (i + 1) xs z:=by
 apply List.ext_getElem?
 intro j
 rw [List.getElem?_set]
 unfold fill
 by_cases hj : i = j
 ·subst hj
  rw [if_pos rfl,if_pos (by simp; omega),List.getElem?_append_left (by simp; omega),List.getElem?_take,if_pos (by omega),hx]
 ·rw [if_neg hj]
  by_cases hlt : j < i
  ·rw [List.getElem?_append_left (by simp; omega),List.getElem?_append_left (by simp; omega),List.getElem?_take,List.getElem?_take,if_pos hlt,if_pos (by omega)]
  ·rw [List.getElem?_append_right (by simp; omega),List.getElem?_append_right (by simp; omega)]
   simp only [List.length_take,List.getElem?_replicate]
   split <;> split <;> first | rfl | omega
end
theorem plainE_of {es : List (List V)} (h : ∀ x ∈ es,plainL x = true) : Qp es = true:=List.all_eq_true.2 h
theorem wrap64 {n : Int} (h1 : -9223372036854775808≤n) (h2 : n < 9223372036854775808) : IntKind.i64.wrap n = n:=by
 unfold IntKind.wrap
 have e1 : (2 ^ IntKind.i64.bits : Int) = 18446744073709551616:=by decide
 have e2 : (2 ^ (IntKind.i64.bits - 1) : Int) = 9223372036854775808:=by decide
 have e3 : IntKind.i64.signed = true:=by decide
 simp only [e1,e2,e3,Bool.true_and,decide_eq_true_eq]
 split <;> omega
end Go.VL

namespace Go.VL
open Go.RowKit
set_option linter.unusedSimpArgs false
set_option linter.unusedVariables false
def Qg (xs : List Int) : List (List V):=xs.map fun x => [.i .i64 x]
def dec (es : List (List V)) : List Int:=es.map fun e => match e with | [.i _ n] => n | _ => 0
def isInts (es : List (List V)) : Prop:=es = Qg (dec es)
@[simp] theorem dec_ints {xs : List Int} : dec (Qg xs) = xs:=by
 simp [dec,Qg,Function.comp_def]
@[simp] theorem isInts_ints {xs : List Int} : isInts (Qg xs) = True:=by simp [isInts]
@[simp] theorem ints_length {xs : List Int} : (Qg xs).length = xs.length:=by simp [Qg]
@[simp] theorem ints_get? {xs : List Int} {i : Nat} : (Qg xs)[i]? = (xs[i]?).map fun x => [.i .i64 x]:=by simp [Qg]
@[simp] theorem ints_get {xs : List Int} {i : Nat} (h : i < (Qg xs).length) : (Qg xs)[i] = [.i .i64 (xs[i]'(by simpa using h))]:=by simp [Qg]
@[simp] theorem Hc {xs : List Int} : Qp (Qg xs) = true:=plainE_of fun x hx => by
 obtain ⟨n,_,rfl⟩:=List.mem_map.1 hx
 rfl
@[simp] theorem ints_snap {xs : List Int} : Hn (Qg xs) = true:=plainE_snap Hc
@[simp] theorem ints_frz {xs : List Int} : Jj (Qg xs) = Qg xs:=frzE_same Hc
@[simp] theorem ints_inj {xs ys : List Int} : Qg xs = Qg ys ↔ xs = ys:=by
 constructor
 ·intro h
  have:=congrArg dec h
  simpa using this
 ·intro h; rw [h]
@[simp] theorem ints_take {xs : List Int} {n : Nat} : (Qg xs).take n = Qg (xs.take n):=by simp [Qg]
@[simp] theorem ints_drop {xs : List Int} {n : Nat} : (Qg xs).drop n = Qg (xs.drop n):=by simp [Qg]
@[simp] theorem ints_append {xs ys : List Int} : Qg xs ++ Qg ys = Qg (xs ++ ys):=by simp [Qg]
@[simp] theorem ints_noB {xs : List Int} {b : Nat} : noBE b (Qg xs) = true:=plainE_noB Hc
@[simp] theorem ints_cellO {xs : List Int} : cellOE (Qg xs) = true:=cellE_O (plainE_cell Hc)
@[simp] theorem ints_cell {xs : List Int} : cellE (Qg xs) = true:=plainE_cell Hc
@[simp] theorem ints_nil : Qg [] = []:=rfl
@[simp] theorem ints_snoc {xs : List Int} {v : Int} : Qg xs ++ [[V.i .i64 v]] = Qg (xs ++ [v]):=by simp [Qg]
theorem isInts.get {es : List (List V)} (h : isInts es) : ∃ xs,es = Qg xs:=⟨_,h⟩
theorem succ64 {i : Nat} (h : i < 4611686018427387904) : IntKind.i64.wrap ((i : Int) + 1) = ((i + 1 : Nat) : Int):=by rw [wrap64 (by omega) (by omega)]; rfl
end Go.VL
