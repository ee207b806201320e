/- Operations that leave memory as it is: loads, addresses, parts. -/
import Derived.Test.YtloepppmjppddaaGreatDoorVxGa
import Derived.Laws.BytesArg
namespace Go.VL
set_option linter.unusedSimpArgs false
set_option linter.unusedVariables false
open Go.RowKit
def vrd (m : VM) : V→Option (List V × Nat)
  | .ptr b e j => match m[b]? with | some (some (_,es)) => (es[e]?).map fun cs => (cs,j) | _ => none
  | .cptr cs j => some (cs,j)
  | _ => none
def un1 : V→V
  | .own n es => .sl n (Jj es)
  | v => v
def unT : V→V
  | .agg cs => .agg (cs.map un1)
  | v => un1 v
theorem S.un1 {w : World} {O : Nat→Prop} {φ : Pl} {v : V} {u : Value} (h : S w O φ v u) : S w O φ (VL.un1 v) u:=by
  unfold VL.un1
  split
  · cases h with
    | own h => exact h.lax
  · exact h
theorem Sl.un1 {w : World} {O : Nat→Prop} {φ : Pl} : ∀ {vs : List V} {us : List Value},Sl w O φ vs us→Sl w O φ (vs.map VL.un1) us
  | _,_,.nil => .nil
  | _,_,.cons h hs => .cons h.un1 (Sl.un1 hs)
theorem S.unT {w : World} {O : Nat→Prop} {φ : Pl} {v : V} {u : Value} (h : S w O φ v u) : S w O φ (VL.unT v) u:=by
  unfold VL.unT
  split
  · cases h with
    | agg h => exact .agg h.un1
  · exact h.un1
def vload0 (P : Program) (m : VM) (t : TypeId) (x : V) : Option V :=
  (vrd m x).bind fun (cs,j) =>
    match tk P t with
    | .struct _ | .arr _ _ => if j + P.cellsOf t≤cs.length then some (.agg ((cs.drop j).take (P.cellsOf t))) else none
    | .other => none
    | _ => cs[j]?
def vload (P : Program) (m : VM) (t : TypeId) (x : V) : Option V:=(vload0 P m t x).map unT
def vfieldAddr (T : TK) (x : V) (f : Nat) : Option V :=
  match T with
  | .struct fs => match fs[f]? with
    | some (off,n,_) => if n = 0 then none else match x with
      | .ptr b e j => some (.ptr b e (j + off))
      | .cptr cs j => some (.cptr cs (j + off))
      | _ => none
    | none => none
  | _ => none
def vfield (T : TK) (x : V) (f : Nat) : Option V :=
  match T,x with
  | .struct fs,.agg cs => match fs[f]? with
    | some (off,n,true) => if off + n≤cs.length then some (.agg ((cs.drop off).take n)) else none
    | some (off,n,false) => if n = 0 then none else cs[off]?
    | none => none
  | _,_ => none
def vidx (P : Program) (m : VM) (T : TK) (x : V) (k : Nat) : Option V :=
  match T,x with
  | .slice e,.sl n es => if P.cellsOf e = n∧n ≠ 0 then (es[k]?).map fun cs => .cptr cs 0 else none
  | .slice e,.ref b e0 len => match m[b]? with
    | some (some (n,_)) => if k < len∧P.cellsOf e = n∧n ≠ 0 then some (.ptr b (e0 + k) 0) else none
    | _ => none
  | .slice e,.refc b e0 j n len => if k < len∧P.cellsOf e = n∧n ≠ 0 then some (.ptr b e0 (j + k * n)) else none
  | .arr len e,.ptr b e0 j => if k < len∧P.cellsOf e ≠ 0 then some (.ptr b e0 (j + k * P.cellsOf e)) else none
  | .arr len e,.cptr cs j => if k < len∧P.cellsOf e ≠ 0 then some (.cptr cs (j + k * P.cellsOf e)) else none
  | _,_ => none
def vindex (P : Program) (T : TK) (x : V) (k : Nat) : Option V :=
  match T,x with
  | .arr len e,.agg cs => if k < len∧Uu P e ≠ 0 then
      (if Xe P e then (if k * Uu P e + Uu P e≤cs.length then some (.agg ((cs.drop (k * Uu P e)).take (Uu P e))) else none) else cs[k * Uu P e]?) else none
  | .str,.str s => (s.data.toList[k]?).map fun c => .i .u8 c.toNat
  | _,_ => none
def Jz : V→Option Nat
  | .i _ q => if 0≤q then some q.toNat else none
  | _ => none
def Wv (x : Option V) (d : Nat) : Option Nat :=
  match x with
  | none => some d
  | some v => Jz v
def Xz (n : Nat) : Nat→List V→List (List V)
  | 0,_ => []
  | k + 1,cs => cs.take n :: Xz n k (cs.drop n)
def vslice (P : Program) (m : VM) (T : TK) (x : V) (lo hi : Option V) : Option V :=
  (Wv lo 0).bind fun l =>
  match T,x with
  | .str,.str s => (Wv hi s.size).bind fun h => if l≤h∧h≤s.size then some (.str (s.extract l h)) else none
  | .slice e,.nil => (Wv hi 0).bind fun h => if P.cellsOf e ≠ 0∧l = 0∧h = 0 then some .nil else none
  | .slice e,.sl n es => (Wv hi es.length).bind fun h => if l≤h∧h≤es.length∧P.cellsOf e = n∧n ≠ 0 then some (.sl n ((es.drop l).take (h - l))) else none
  | .slice e,.ref b e0 len => match m[b]? with
    | some (some (n,_)) => (Wv hi len).bind fun h => if l≤h∧h≤len∧P.cellsOf e = n∧n ≠ 0 then some (.ref b (e0 + l) (h - l)) else none
    | _ => none
  | .slice e,.refc b e0 j n len => (Wv hi len).bind fun h => if l≤h∧h≤len∧P.cellsOf e = n∧n ≠ 0 then some (.refc b e0 (j + l * n) n (h - l)) else none
  | .arr len e,.ptr b e0 j => (Wv hi len).bind fun h => if l≤h∧h≤len∧P.cellsOf e ≠ 0 then some (.refc b e0 (j + l * P.cellsOf e) (P.cellsOf e) (h - l)) else none
  | .arr len e,.cptr cs j => (Wv hi len).bind fun h => if l≤h∧h≤len∧P.cellsOf e ≠ 0∧j + len * P.cellsOf e≤cs.length then some (.sl (P.cellsOf e) (Xz (P.cellsOf e) (h - l) (cs.drop (j + l * P.cellsOf e)))) else none
  | _,_ => none
def vlen (T : TK) (x : V) : Option V :=
  match T,x with
  | .str,.str s => some (.i .i64 s.size)
  | .slice _,.nil => some (.i .i64 0)
  | .slice _,.sl _ es => some (.i .i64 es.length)
  | .slice _,.ref _ _ len => some (.i .i64 len)
  | .slice _,.refc _ _ _ _ len => some (.i .i64 len)
  | .arr n _,_ => some (.i .i64 n)
  | _,_ => none
section
variable {P : Program} {N : Fr} {w : World} {φ : Pl} {m : VM}
theorem tk_struct {t : TypeId} {fs : List (Nat × Nat × Bool)} (h : tk P t = .struct fs) : ∃ F,P.underlying t = some (.struct F)∧fs = F.toList.map fun f => (f.offset,Uu P f.type,Xe P f.type):=by
  unfold tk at h; split at h <;> first | (cases h; done) | skip
  rename_i F hu
  cases h; exact ⟨F,hu,rfl⟩
theorem Wh {t e : TypeId} (h : tk P t = .slice e) : P.underlying t = some (.slice e):=by
  unfold tk at h; split at h <;> first | (cases h; assumption) | (cases h; done)
theorem tk_arr {t e : TypeId} {n : Nat} (h : tk P t = .arr n e) : P.underlying t = some (.array n e):=by
  unfold tk at h; split at h <;> first | (cases h; assumption) | (cases h; done)
theorem tk_str {t : TypeId} (h : tk P t = .str) : P.underlying t = some .string:=by
  unfold tk at h; split at h <;> first | (cases h; assumption) | (cases h; done)
theorem tk_agg {t : TypeId} (h : Xe P t = true) : (∃ fs,tk P t = .struct fs)∨∃ n e,tk P t = .arr n e:=by
  unfold Xe at h
  split at h
  · rename_i F hu; exact .inl ⟨_,by simp only [tk,hu]; rfl⟩
  · rename_i n e hu; exact .inr ⟨n,e,by simp only [tk,hu]⟩
  · cases h
theorem S.ptr' {O : Nat→Prop} {b e j pb po bn x : Nat} (hφ : φ b = some (pb,po,bn)) (hx : x = po + e * bn + j) : S w O φ (.ptr b e j) (.pointer (some ⟨pb,x,none⟩)):=hx ▸ .ptr hφ
theorem S.cptr' {O : Nat→Prop} {cs : List V} {b j off x : Nat} (h : Ss w O Wi b off cs) (hx : x = off + j) : S w O φ (.cptr cs j) (.pointer (some ⟨b,x,none⟩)):=hx ▸ .cptr h
theorem S.ref' {O : Nat→Prop} {b e len pb po bn cap x : Nat} (hφ : φ b = some (pb,po,bn)) (hc : len≤cap) (hr : Room w pb (po + (e + cap) * bn)) (hx : x = po + e * bn) : S w O φ (.ref b e len) (.slice (some ⟨pb,x,none⟩) len cap):=hx ▸ .ref hφ hc hr
theorem S.refc' {O : Nat→Prop} {b e j n len pb po bn cap x : Nat} (hφ : φ b = some (pb,po,bn)) (hc : len≤cap) (hx : x = po + e * bn + j) : S w O φ (.refc b e j n len) (.slice (some ⟨pb,x,none⟩) len cap):=hx ▸ .refc hφ hc
theorem Xf {e : TypeId} (h : P.cellsOf e ≠ 0) : (sizeOf e).run P w = .ok (P.cellsOf e) w:=by
  unfold Program.cellsOf at h
  cases hi : P.info? e with
  | none => simp [hi] at h
  | some i => exact run_sizeOf w hi
theorem Gg {t : TypeId} (h : Uu P t ≠ 0) : Uu P t = P.cellsOf t∧P.cellsOf t ≠ 0∧∃ d,P.underlying t = some d:=by
  unfold Uu at *
  split at h
  · rename_i hs
    exact ⟨if_pos hs,h,Option.isSome_iff_exists.1 hs⟩
  · cases h rfl
theorem csz_of {t : TypeId} {d : TypeDesc} (h : P.underlying t = some d) : Uu P t = P.cellsOf t:=by
  simp [Uu,h]
theorem Ku {t : TypeId} {d : TypeDesc} (h : P.underlying t = some d) : (isAgg t).run P w = .ok (Xe P t) w:=by
  unfold Xe isAgg
  simp only [Sem.run_bind,run_underlying h,Result.andThen_ok,h]
  cases d <;> rfl
theorem vrd_cells {x : V} {cs : List V} {j : Nat} {u : Value} (h : vrd m x = some (cs,j)) (hx : S w (Yf φ m) φ x u) (hm : Mem N w φ m) :
    ∃ pb o,u = .pointer (some ⟨pb,o + j,none⟩)∧∀ (i : Nat) (v : V),cs[i]? = some v→∃ z,w.cell? ⟨pb,o + i,none⟩ = some z∧S w (Yf φ m) φ v z:=by
  unfold vrd at h
  split at h
  · split at h
    · rename_i b e j' _ n es hb
      cases he : es[e]? with
      | none => simp [he] at h
      | some cs' =>
        simp [he] at h
        obtain ⟨rfl,rfl⟩:=h
        cases hx with
        | ptr hφ' =>
          obtain ⟨hl,pb,po,c,t,hφ,hp,hle,hcell⟩:=hm.at_ b n es _ hb hφ'
          rw [hφ] at hφ'
          simp at hφ'
          obtain ⟨rfl,rfl,rfl⟩:=hφ'
          refine ⟨pb,po + e * n,rfl,fun i v hi => ?_⟩
          obtain ⟨z,a1,_,a3⟩:=hcell (e * n + i) v (Ui hl he hi)
          refine ⟨z,?_,a3⟩
          simp [World.cell?,hp]
          rw [show po + e * n + i = po + (e * n + i) by omega]
          exact a1
    · cases h
  · simp at h
    obtain ⟨rfl,rfl⟩:=h
    cases hx with
    | cptr hs =>
      rename_i b off
      refine ⟨b,off,rfl,fun i v hi => ?_⟩
      obtain ⟨z,a1,_,a3⟩:=hs.get hi
      exact ⟨z,a1,a3.lax⟩
  · cases h
theorem vload0_run {t : TypeId} {x v : V} {u : Value} (h : vload0 P m t x = some v) (hx : S w (Yf φ m) φ x u) (hm : Mem N w φ m) : ∃ z,(Instr.loadAt t u).run P w = .ok z w∧S w (Yf φ m) φ v z:=by
  unfold vload0 at h
  cases hr : vrd m x with
  | none => simp [hr] at h
  | some p =>
    obtain ⟨cs,j⟩:=p
    simp only [hr,Option.bind_some] at h
    obtain ⟨pb,o,rfl,hc⟩:=vrd_cells hr hx hm
    cases hu : P.underlying t with
    | none => simp [tk,hu] at h
    | some d =>
      have hload : (Instr.loadAt t (.pointer (some ⟨pb,o + j,none⟩))).run P w = (loadVar t ⟨pb,o + j,none⟩).run P w:=by
        simp [Instr.loadAt,Instr.sureAddr]
      have agg : Xe P t = true→j + P.cellsOf t≤cs.length→∃ z,(Instr.loadAt t (.pointer (some ⟨pb,o + j,none⟩))).run P w = .ok z w∧S w (Yf φ m) φ (.agg ((cs.drop j).take (P.cellsOf t))) z:=by
        intro ha hle
        obtain ⟨us,h1,h2,h3⟩:=exists_row (Q:=fun i z => w.cell? ⟨pb,o + i,none⟩ = some z) (w:=w) (O:=Yf φ m) (φ:=φ) ((cs.drop j).take (P.cellsOf t)) j (fun i v hi => by
          rw [List.getElem?_take] at hi
          split at hi
          · rw [List.getElem?_drop] at hi
            exact hc (j + i) v hi
          · cases hi)
        obtain ⟨i,hi⟩:=info_of_underlying hu
        have hlen : us.length = P.cellsOf t:=by rw [h1]; simp; omega
        have hrow:=run_loadCells_list (P:=P) w ⟨pb,o + j,none⟩ us (fun k v hk => by
          rw [Addr.add_lit]
          have:=h3 k v hk
          rwa [show o + (j + k) = o + j + k by omega] at this)
        refine ⟨.agg us.toArray,?_,.agg h2⟩
        rw [hload]
        unfold loadVar
        simp only [Sem.run_bind,Ku hu,Result.andThen_ok,ha,if_true,run_sizeOf w hi,← hlen,hrow,Sem.run_pure]
      have one : Xe P t = false→∀ v,cs[j]? = some v→∃ z,(Instr.loadAt t (.pointer (some ⟨pb,o + j,none⟩))).run P w = .ok z w∧S w (Yf φ m) φ v z:=by
        intro ha v hv
        obtain ⟨z,a1,a2⟩:=hc j v hv
        refine ⟨z,?_,a2⟩
        rw [hload]
        unfold loadVar
        simp [Ku hu,ha,a1]
      split at h
      · split at h
        · obtain rfl:=Option.some.inj h
          rename_i hT _
          obtain ⟨F,hF,_⟩:=tk_struct hT
          exact agg (by unfold Xe; rw [hF]) (by assumption)
        · cases h
      · split at h
        · obtain rfl:=Option.some.inj h
          rename_i hT _
          exact agg (by unfold Xe; rw [tk_arr hT]) (by assumption)
        · cases h
      · cases h
      · rename_i h1 h2 h3
        refine one ?_ v h
        cases ha : Xe P t with
        | false => rfl
        | true =>
          exfalso
          rcases tk_agg ha with ⟨fs,hT⟩ | ⟨n,e,hT⟩
          · exact h1 fs hT
          · exact h2 n e hT
theorem vload_run {t : TypeId} {x v : V} {u : Value} (h : vload P m t x = some v) (hx : S w (Yf φ m) φ x u) (hm : Mem N w φ m) : ∃ z,(Instr.loadAt t u).run P w = .ok z w∧S w (Yf φ m) φ v z:=by
  unfold vload at h
  rw [Option.map_eq_some_iff] at h
  obtain ⟨v0,h0,rfl⟩:=h
  obtain ⟨z,h1,h2⟩:=vload0_run h0 hx hm
  exact ⟨z,h1,h2.unT⟩
theorem vload_sound {t : TypeId} {x v : V} {u : Value} (h : vload P m t x = some v) (hx : S w (Yf φ m) φ x u) (hm : Mem N w φ m) : Kt P w (Yf φ m) φ (Instr.loadAt t u) v:=by
  obtain ⟨z,h1,h2⟩:=vload_run h hx hm
  exact .mk0 h1 h2
theorem vfieldAddr_sound {t : TypeId} {x v : V} {u : Value} {f : Nat} (h : vfieldAddr (tk P t) x f = some v) (hx : S w (Yf φ m) φ x u) : Kt P w (Yf φ m) φ (Instr.fieldAt t u f) v:=by
  unfold vfieldAddr at h
  split at h
  · rename_i fs hT
    obtain ⟨F,hu,rfl⟩:=tk_struct hT
    split at h
    · rename_i off n ag hf
      split at h
      · cases h
      · rename_i hn
        rw [List.getElem?_map] at hf
        cases hF : F[f]? with
        | none => simp [hF] at hf
        | some fd =>
          simp [hF] at hf
          obtain ⟨rfl,rfl,rfl⟩:=hf
          have run : ∀ a : Addr,a.spot = none→(Instr.fieldAt t (.pointer (some a)) f).run P w = .ok (.pointer (some { a with off:=a.off + fd.offset })) w:=fun a ha => by
            simp [Instr.fieldAt,run_underlying hu,hF,Instr.sureAddr,fieldPlace,Xf (Gg hn).2.1,(Gg hn).2.1,Addr.add]
            cases a; split <;> simp_all
          split at h
          · obtain rfl:=Option.some.inj h
            cases hx with
            | ptr hφ => exact .mk0 (run _ rfl) (.ptr' hφ (by simp only; omega))
          · obtain rfl:=Option.some.inj h
            cases hx with
            | cptr hs => exact .mk0 (run _ rfl) (.cptr' hs (by simp only; omega))
          · cases h
    · cases h
  · cases h
theorem vfield_sound {t : TypeId} {x v : V} {u : Value} {f : Nat} (h : vfield (tk P t) x f = some v) (hx : S w (Yf φ m) φ x u) : Kt P w (Yf φ m) φ (Instr.field t u f) v:=by
  unfold vfield at h
  split at h
  · rename_i fs cs hT
    obtain ⟨F,hu,rfl⟩:=tk_struct hT
    cases hx with
    | agg hs =>
      rename_i us
      have key : ∀ fd,F[f]? = some fd→∀ v,(part fd.type us.toArray fd.offset).run P w = .ok v w→(Instr.field t (.agg us.toArray) f).run P w = .ok v w:=fun fd hF v hp => by
        simp [Instr.field,run_underlying hu,hF,asAgg,hp]
      split at h
      · rename_i off n hf
        split at h
        · rename_i hle
          obtain rfl:=Option.some.inj h
          rw [List.getElem?_map] at hf
          cases hF : F[f]? with
          | none => simp [hF] at hf
          | some fd =>
            simp [hF] at hf
            obtain ⟨rfl,rfl,ha⟩:=hf
            obtain ⟨d,hd⟩ : ∃ d,P.underlying fd.type = some d:=by
              unfold Xe at ha; split at ha <;> first | exact ⟨_,‹_›⟩ | (cases ha; done)
            obtain ⟨i,hi⟩:=info_of_underlying hd
            rw [csz_of hd]
            refine .mk0 (key fd hF (.agg ((us.drop fd.offset).take (P.cellsOf fd.type)).toArray) ?_) (.agg ((hs.drop _).take _))
            unfold part
            simp only [Sem.run_bind,Ku hd,Result.andThen_ok,ha,if_true,run_sizeOf w hi,Sem.run_pure]
            congr 2
            apply Array.ext'
            simp [List.take_drop]
        · cases h
      · rename_i off n hf
        split at h
        · cases h
        · rename_i hn
          rw [List.getElem?_map] at hf
          cases hF : F[f]? with
          | none => simp [hF] at hf
          | some fd =>
            simp [hF] at hf
            obtain ⟨rfl,rfl,ha⟩:=hf
            obtain ⟨z,hz,hzs⟩:=hs.get h
            obtain ⟨d,hd⟩:=(Gg hn).2.2
            refine .mk0 (key fd hF z ?_) hzs
            unfold part
            simp [Ku hd,ha,hz]
      · cases h
  · cases h
theorem natOf_int {x : V} {n : Nat} {u : Value} (h : Jz x = some n) (hx : S w (Yf φ m) φ x u) : ∃ k,u = .int k (n : Int):=by
  unfold Jz at h
  split at h
  · split at h
    · rename_i hq
      obtain rfl:=Option.some.inj h
      cases hx
      exact ⟨_,by rw [Int.toNat_of_nonneg hq]⟩
    · cases h
  · cases h
theorem vidx_sound {t : TypeId} {x i v : V} {u ui : Value} {k : Nat} (h : vidx P m (tk P t) x k = some v) (hi : Jz i = some k) (hx : S w (Yf φ m) φ x u) (hxi : S w (Yf φ m) φ i ui) (hm : Mem N w φ m) : Kt P w (Yf φ m) φ (Instr.indexAt t u ui) v:=by
  obtain ⟨q,rfl⟩:=natOf_int hi hxi
  have sl : ∀ (e : TypeId) (a : Addr) (len cap : Nat),P.underlying t = some (.slice e)→k < len→P.cellsOf e ≠ 0→a.spot = none→(Instr.indexAt t (.slice (some a) len cap) (.int q (k : Int))).run P w = .ok (.pointer (some { a with off:=a.off + k * P.cellsOf e })) w:=fun e a len cap hu hk hn ha => by
    have h1 : (0 : Int)≤(k : Int)∧(k : Int) < (len : Int):=by omega
    simp [Instr.indexAt,run_underlying hu,asIntOf,hk,Xf hn,Addr.add]
    cases a; split <;> simp_all
  have ar : ∀ (e : TypeId) (a : Addr) (len : Nat),P.underlying t = some (.array len e)→k < len→P.cellsOf e ≠ 0→a.spot = none→(Instr.indexAt t (.pointer (some a)) (.int q (k : Int))).run P w = .ok (.pointer (some { a with off:=a.off + k * P.cellsOf e })) w:=fun e a len hu hk hn ha => by
    simp [Instr.indexAt,run_underlying hu,asIntOf,hk,Xf hn,Addr.add,Instr.sureAddr]
    cases a; split <;> simp_all
  unfold vidx at h
  split at h
  · rename_i e n es hT
    split at h
    · rename_i hn
      obtain ⟨rfl,hn⟩:=hn
      cases he : es[k]? with
      | none => simp [he] at h
      | some cs =>
        simp [he] at h
        subst h
        cases hx with
        | sl hl hlen hc hs =>
          have hk : k < es.length:=(List.getElem?_eq_some_iff.1 he).1
          refine .mk0 (sl e _ _ _ (Wh hT) (by omega) hn rfl) ?_
          have h2:=(hs.drop (k * P.cellsOf e)).take (P.cellsOf e)
          rw [Kg hl he] at h2
          exact .cptr' h2 (by simp)
        | sl0 => simp at he
        | slnil => simp at he
    · cases h
  · rename_i e b e0 len hT
    split at h
    · rename_i n es hb
      split at h
      · rename_i hk
        obtain ⟨hk,rfl,hn⟩:=hk
        obtain rfl:=Option.some.inj h
        cases hx with
        | ref hφ' hc hr =>
          obtain ⟨_,pb,po,c,t',hφ,_⟩:=hm.at_ b _ es _ hb hφ'
          rw [hφ] at hφ'
          simp at hφ'
          obtain ⟨rfl,rfl,rfl⟩:=hφ'
          refine .mk0 (sl e _ _ _ (Wh hT) hk hn rfl) (.ptr' hφ ?_)
          simp only [Nat.add_mul]; omega
        | ref0 => omega
        | refnil => omega
      · cases h
    · cases h
  · rename_i e b e0 j n len hT
    split at h
    · rename_i hk
      obtain ⟨hk,rfl,hn⟩:=hk
      obtain rfl:=Option.some.inj h
      cases hx with
      | refc hφ hc => exact .mk0 (sl e _ _ _ (Wh hT) hk hn rfl) (.ptr' hφ (by simp only; omega))
      | refc0 => omega
    · cases h
  · rename_i len e b e0 j hT
    split at h
    · rename_i hk
      obtain ⟨hk,hn⟩:=hk
      obtain rfl:=Option.some.inj h
      cases hx with
      | ptr hφ => exact .mk0 (ar e _ _ (tk_arr hT) hk hn rfl) (.ptr' hφ (by simp only; omega))
    · cases h
  · rename_i len e cs j hT
    split at h
    · rename_i hk
      obtain ⟨hk,hn⟩:=hk
      obtain rfl:=Option.some.inj h
      cases hx with
      | cptr hs => exact .mk0 (ar e _ _ (tk_arr hT) hk hn rfl) (.cptr' hs (by simp only; omega))
    · cases h
  · cases h
theorem vindex_sound {t : TypeId} {x i v : V} {u ui : Value} {k : Nat} (h : vindex P (tk P t) x k = some v) (hi : Jz i = some k) (hx : S w (Yf φ m) φ x u) (hxi : S w (Yf φ m) φ i ui) : Kt P w (Yf φ m) φ (Instr.index t u ui) v:=by
  obtain ⟨q,rfl⟩:=natOf_int hi hxi
  unfold vindex at h
  split at h
  · rename_i len e cs hT
    split at h
    · rename_i hk
      obtain ⟨hk,hn0⟩:=hk
      obtain ⟨hcz,hn,d,hd⟩:=Gg hn0
      rw [hcz] at h
      cases hx with
      | agg hs =>
        rename_i us
        have key : ∀ v,(part e us.toArray (k * P.cellsOf e)).run P w = .ok v w→(Instr.index t (.agg us.toArray) (.int q (k : Int))).run P w = .ok v w:=fun v hp => by
          simp [Instr.index,run_underlying (tk_arr hT),asIntOf,hk,Xf hn,hp]
        split at h
        · rename_i ha
          split at h
          · obtain rfl:=Option.some.inj h
            refine .mk0 (key (.agg ((us.drop (k * P.cellsOf e)).take (P.cellsOf e)).toArray) ?_) (.agg ((hs.drop _).take _))
            unfold part
            simp only [Sem.run_bind,Ku hd,Result.andThen_ok,ha,if_true,Xf hn,Sem.run_pure]
            congr 2
            apply Array.ext'
            simp [List.take_drop]
          · cases h
        · rename_i ha
          obtain ⟨z,hz,hzs⟩:=hs.get h
          refine .mk0 (key z ?_) hzs
          unfold part
          simp [Ku hd,ha,hz]
    · cases h
  · rename_i s hT
    cases hx
    cases hc : s.data.toList[k]? with
    | none => simp [hc] at h
    | some c =>
      simp [hc] at h
      subst h
      have hk : k < s.size:=by
        have:=(List.getElem?_eq_some_iff.1 hc).1
        simpa using this
      have hs : s[k]? = some c:=by
        rw [ByteArray.getElem?_lt' s k hk]
        rw [List.getElem?_eq_getElem (by simpa using hk)] at hc
        simp at hc
        exact congrArg some hc
      refine .mk0 ?_ .i
      simp [Instr.index,run_underlying (tk_str hT),asIntOf,hs]
  · cases h
theorem Uo {α : Type} : ∀ (es : List (List α)) (n l k : Nat),(∀ e ∈ es,e.length = n)→((es.drop l).take k).flatten = (es.flatten.drop (l * n)).take (k * n)
  | [],n,l,k,_ => by simp
  | x :: es,n,0,0,h => by simp
  | x :: es,n,0,k + 1,h => by
    have:=Uo es n 0 k (fun e he => h e (by simp [he]))
    simp only [List.drop_zero,Nat.zero_mul] at this
    simp only [List.drop_zero,Nat.zero_mul,List.take_succ_cons,List.flatten_cons,this]
    have hx:=h x (by simp)
    rw [show (k + 1) * n = x.length + k * n by rw [Nat.add_mul,hx]; omega,List.take_append]
    rw [List.take_of_length_le (l:=x) (by omega),show x.length + k * n - x.length = k * n by omega]
  | x :: es,n,l + 1,k,h => by
    have:=Uo es n l k (fun e he => h e (by simp [he]))
    have hx:=h x (by simp)
    rw [List.drop_succ_cons,this,List.flatten_cons,show (l + 1) * n = x.length + l * n by rw [Nat.add_mul,hx]; omega,List.drop_append,
      List.drop_eq_nil_of_le (as:=x) (by omega),List.nil_append,show x.length + l * n - x.length = l * n by omega]
def OS (w : World) (O : Nat→Prop) (φ : Pl) : Option V→Option Value→Prop
  | none,none => True
  | some v,some z => S w O φ v z
  | _,_ => False
theorem vbound_nat {x : Option V} {u : Option Value} {d n : Nat} (h : Wv x d = some n) (hx : OS w (Yf φ m) φ x u) :
    (x = none∧u = none∧n = d)∨∃ k,u = some (.int k (n : Int)):=by
  cases x with
  | none => cases u with
    | none => left; simp [Wv] at h; exact ⟨rfl,rfl,h.symm⟩
    | some z => exact hx.elim
  | some v => cases u with
    | none => exact hx.elim
    | some z =>
      right
      obtain ⟨k,rfl⟩:=natOf_int (by simpa [Wv] using h) hx
      exact ⟨k,rfl⟩
theorem Uw {isSlice : Bool} {len cap l h : Nat} {lo hi : Option Value} (hl : lo = none∧l = 0∨∃ k,lo = some (.int k (l : Int))) (hh : hi = none∧h = len∨∃ k,hi = some (.int k (h : Int)))
    (h1 : l≤h) (h2 : h≤cap) : (Instr.sliceBounds isSlice len cap lo hi none).run P w = .ok (l,h,cap) w:=by
  have sb : ∀ (k : IntKind) (n y : Nat) (code : BoundsCode),n≤y→(Instr.sliceBound (.int k (n : Int)) y code).run P w = .ok n w:=fun k n y code hn => by
    simp [Instr.sliceBound,asIntOf,hn]
  rcases hl with ⟨rfl,rfl⟩ | ⟨kl,rfl⟩ <;> rcases hh with ⟨rfl,rfl⟩ | ⟨kh,rfl⟩ <;> simp [Instr.sliceBounds,sb,h1,h2]
theorem Kj : ∀ (n k : Nat) (cs : List V),k * n≤cs.length→(Xz n k cs).flatten = cs.take (k * n)∧(∀ e ∈ Xz n k cs,e.length = n)∧(Xz n k cs).length = k
  | n,0,cs,_ => by simp [Xz]
  | n,k + 1,cs,h => by
    have h' : k * n≤(cs.drop n).length:=by rw [List.length_drop,Nat.add_mul] at *; omega
    obtain ⟨a1,a2,a3⟩:=Kj n k (cs.drop n) h'
    refine ⟨?_,?_,by simp [Xz,a3]⟩
    · simp only [Xz,List.flatten_cons,a1]
      rw [show (k + 1) * n = n + k * n by rw [Nat.add_mul]; omega,List.take_add]
    · intro e he
      simp only [Xz,List.mem_cons] at he
      rcases he with rfl | he
      · rw [List.length_take,Nat.add_mul] at *; omega
      · exact a2 e he
theorem vslice_sound {t : TypeId} {x v : V} {u : Value} {lo hi : Option V} {ulo uhi : Option Value} (h : vslice P m (tk P t) x lo hi = some v) (hx : S w (Yf φ m) φ x u) (hm : Mem N w φ m)
    (hlo : OS w (Yf φ m) φ lo ulo) (hhi : OS w (Yf φ m) φ hi uhi) :
    Kt P w (Yf φ m) φ (Instr.sliceAt t u ulo uhi none) v:=by
  unfold vslice at h
  cases hl : Wv lo 0 with
  | none => simp [hl] at h
  | some l =>
    simp only [hl,Option.bind_some] at h
    have hl' : ulo = none∧l = 0∨∃ k,ulo = some (.int k (l : Int)):=by
      rcases vbound_nat hl hlo with ⟨_,a,b⟩ | b
      · exact .inl ⟨a,b⟩
      · exact .inr b
    have hh' : ∀ d hn,Wv hi d = some hn→uhi = none∧hn = d∨∃ k,uhi = some (.int k (hn : Int)):=fun d hn hb => by
      rcases vbound_nat hb hhi with ⟨_,a,b⟩ | b
      · exact .inl ⟨a,b⟩
      · exact .inr b
    have slc : ∀ (e : TypeId) (a : Addr) (len cap hn : Nat),P.underlying t = some (.slice e)→P.cellsOf e ≠ 0→a.spot = none→(uhi = none∧hn = len∨∃ k,uhi = some (.int k (hn : Int)))→l≤hn→hn≤len→len≤cap →
        (Instr.sliceAt t (.slice (some a) len cap) ulo uhi none).run P w = .ok (.slice (some (if cap = l then a else { a with off:=a.off + l * P.cellsOf e })) (hn - l) (cap - l)) w:=fun e a len cap hn hu hz ha hb h1 h2 h3 => by
      have hr:=Uw (P:=P) (w:=w) (isSlice:=true) (len:=len) (cap:=cap) hl' hb h1 (by omega)
      simp [Instr.sliceAt,Instr.slice,run_underlying hu,hr,Xf hz]
      split
      · rfl
      · unfold Addr.add; split
        · rename_i hz0; rw [hz0]
          cases a; simp_all
        · cases a; simp_all
    have arr : ∀ (e : TypeId) (a : Addr) (len hn : Nat),P.underlying t = some (.array len e)→P.cellsOf e ≠ 0→a.spot = none→(uhi = none∧hn = len∨∃ k,uhi = some (.int k (hn : Int)))→l≤hn→hn≤len →
        (Instr.sliceAt t (.pointer (some a)) ulo uhi none).run P w = .ok (.slice (some (if len = l then a else { a with off:=a.off + l * P.cellsOf e })) (hn - l) (len - l)) w:=fun e a len hn hu hz ha hb h1 h2 => by
      have hr:=Uw (P:=P) (w:=w) (isSlice:=false) (len:=len) (cap:=len) hl' hb h1 (by omega)
      simp [Instr.sliceAt,Instr.sureAddr,run_underlying hu,hr,Xf hz]
      split
      · rfl
      · unfold Addr.add; split
        · rename_i hz0; rw [hz0]
          cases a; simp_all
        · cases a; simp_all
    have addr : ∀ (a : Addr) (c : Prop) [Decidable c] (k : Nat),a.spot = none→(if c then a else { a with off:=a.off + k }) = ⟨a.block,if c then a.off else a.off + k,none⟩:=fun a c _ k ha => by
      cases a; simp at ha; subst ha; split <;> rfl
    split at h
    · rename_i s hT
      cases hx
      cases hb : Wv hi s.size with
      | none => simp [hb] at h
      | some hn =>
        simp only [hb,Option.bind_some] at h
        split at h
        · rename_i hle
          obtain rfl:=Option.some.inj h
          have hr:=Uw (P:=P) (w:=w) (isSlice:=false) (len:=s.size) (cap:=s.size) hl' (hh' _ _ hb) hle.1 hle.2
          refine .mk0 ?_ .str
          simp [Instr.sliceAt,Instr.slice,run_underlying (tk_str hT),hr]
        · cases h
    · rename_i e hT
      cases hx
      cases hb : Wv hi 0 with
      | none => simp [hb] at h
      | some hn =>
        simp only [hb,Option.bind_some] at h
        split at h
        · rename_i hle
          obtain ⟨hz,rfl,rfl⟩:=hle
          obtain rfl:=Option.some.inj h
          have hr:=Uw (P:=P) (w:=w) (isSlice:=true) (len:=0) (cap:=0) hl' (hh' _ _ hb) (Nat.le_refl _) (Nat.le_refl _)
          refine .mk0 (u:=.slice none 0 0) ?_ .nil
          simp [Instr.sliceAt,Instr.slice,run_underlying (Wh hT),hr,Xf hz]
        · cases h
    · rename_i e n es hT
      cases hx with
      | sl hel hlen hc hs =>
        rename_i len0 b0 off0 cap0
        cases hb : Wv hi es.length with
        | none => simp [hb] at h
        | some hn =>
          simp only [hb,Option.bind_some] at h
          split at h
          · rename_i hle
            obtain ⟨h1,h2,rfl,hz⟩:=hle
            obtain rfl:=Option.some.inj h
            have hb':=hh' _ _ hb
            rw [hlen] at hb' h2
            refine .mk0 (slc e _ _ _ hn (Wh hT) hz rfl hb' h1 h2 hc) ?_
            rw [addr _ _ _ rfl]
            have hlen' : ((es.drop l).take (hn - l)).length = hn - l:=by simp; omega
            have hel' : ∀ x ∈ (es.drop l).take (hn - l),x.length = P.cellsOf e:=fun x hx => hel x (List.mem_of_mem_drop (List.mem_of_mem_take hx))
            by_cases hq : cap0 = l
            · have h0 : hn - l = 0:=by omega
              rw [h0]
              exact .sl (by simp) (by simp) (by omega) (by simp; exact .nil)
            · rw [if_neg hq]
              refine .sl hel' hlen' (by omega) ?_
              rw [Uo es _ l _ hel]
              exact (hs.drop _).take _
          · cases h
      | sl0 =>
        simp only [List.length_nil] at h
        cases hb : Wv hi 0 with
        | none => simp [hb] at h
        | some hn =>
          simp only [hb,Option.bind_some] at h
          split at h
          · rename_i hle
            obtain ⟨h1,h2,rfl,hz⟩:=hle
            obtain rfl:=Option.some.inj h
            have hb':=hh' _ _ hb
            simp at h2
            have hl0 : l = 0:=by omega
            subst hl0 h2
            rename_i cap a
            have hr:=Uw (P:=P) (w:=w) (isSlice:=true) (len:=0) (cap:=cap) hl' hb' (Nat.le_refl _) (Nat.zero_le _)
            simp only [List.drop_nil,List.take_nil]
            refine .mk0 (u:=.slice (some a) 0 cap) ?_ .sl0
            simp [Instr.sliceAt,Instr.slice,run_underlying (Wh hT),hr,Xf hz,Addr.add]
          · cases h
      | slnil =>
        simp only [List.length_nil] at h
        cases hb : Wv hi 0 with
        | none => simp [hb] at h
        | some hn =>
          simp only [hb,Option.bind_some] at h
          split at h
          · rename_i hle
            obtain ⟨h1,h2,rfl,hz⟩:=hle
            obtain rfl:=Option.some.inj h
            have hb':=hh' _ _ hb
            simp at h2
            have hl0 : l = 0:=by omega
            subst hl0 h2
            have hr:=Uw (P:=P) (w:=w) (isSlice:=true) (len:=0) (cap:=0) hl' hb' (Nat.le_refl _) (Nat.zero_le _)
            simp only [List.drop_nil,List.take_nil]
            refine .mk0 (u:=.slice none 0 0) ?_ .slnil
            simp [Instr.sliceAt,Instr.slice,run_underlying (Wh hT),hr,Xf hz,Addr.add]
          · cases h
    · rename_i e b e0 len hT
      split at h
      · rename_i n es hbl
        cases hb : Wv hi len with
        | none => simp [hb] at h
        | some hn =>
          simp only [hb,Option.bind_some] at h
          split at h
          · rename_i hle
            obtain ⟨h1,h2,rfl,hz⟩:=hle
            obtain rfl:=Option.some.inj h
            have hb':=hh' _ _ hb
            cases hx with
            | ref hφ' hc hr =>
              rename_i cap
              obtain ⟨_,pb,po,c,t',hφ,_⟩:=hm.at_ b _ es _ hbl hφ'
              rw [hφ] at hφ'
              simp at hφ'
              obtain ⟨rfl,rfl,rfl⟩:=hφ'
              refine .mk0 (slc e _ _ _ hn (Wh hT) hz rfl hb' h1 h2 hc) ?_
              by_cases hq : cap = l
              · have h0 : hn - l = 0:=by omega
                have h00 : cap - l = 0:=by omega
                rw [h0,h00,addr _ _ _ rfl]
                exact .ref0
              · rw [if_neg hq]
                refine .ref' hφ (by omega) ?_ (by simp only [Nat.add_mul]; omega)
                rwa [show e0 + l + (cap - l) = e0 + cap by omega]
            | ref0 =>
              have hl0 : l = 0:=by omega
              have hn0 : hn = 0:=by omega
              subst hl0 hn0
              rename_i pb off
              have hr:=Uw (P:=P) (w:=w) (isSlice:=true) (len:=0) (cap:=0) hl' hb' (Nat.le_refl _) (Nat.le_refl _)
              refine .mk0 (u:=.slice (some ⟨pb,off,none⟩) 0 0) ?_ .ref0
              simp [Instr.sliceAt,Instr.slice,run_underlying (Wh hT),hr,Xf hz]
            | refnil =>
              have hl0 : l = 0:=by omega
              have hn0 : hn = 0:=by omega
              subst hl0 hn0
              have hr:=Uw (P:=P) (w:=w) (isSlice:=true) (len:=0) (cap:=0) hl' hb' (Nat.le_refl _) (Nat.le_refl _)
              refine .mk0 (u:=.slice none 0 0) ?_ .refnil
              simp [Instr.sliceAt,Instr.slice,run_underlying (Wh hT),hr,Xf hz]
          · cases h
      · cases h
    · rename_i e b e0 j n len hT
      cases hb : Wv hi len with
      | none => simp [hb] at h
      | some hn =>
        simp only [hb,Option.bind_some] at h
        split at h
        · rename_i hle
          obtain ⟨h1,h2,rfl,hz⟩:=hle
          obtain rfl:=Option.some.inj h
          have hb':=hh' _ _ hb
          cases hx with
          | refc hφ hc =>
            rename_i cap
            refine .mk0 (slc e _ _ _ hn (Wh hT) hz rfl hb' h1 h2 hc) ?_
            by_cases hq : cap = l
            · have h0 : hn - l = 0:=by omega
              have h00 : cap - l = 0:=by omega
              rw [h0,h00,addr _ _ _ rfl]
              exact .refc0
            · rw [if_neg hq]
              exact .refc' hφ (by omega) (by simp only; omega)
          | refc0 =>
            have hl0 : l = 0:=by omega
            have hn0 : hn = 0:=by omega
            subst hl0 hn0
            rename_i pb off
            have hr:=Uw (P:=P) (w:=w) (isSlice:=true) (len:=0) (cap:=0) hl' hb' (Nat.le_refl _) (Nat.le_refl _)
            refine .mk0 (u:=.slice (some ⟨pb,off,none⟩) 0 0) ?_ .refc0
            simp [Instr.sliceAt,Instr.slice,run_underlying (Wh hT),hr,Xf hz]
        · cases h
    · rename_i len e b e0 j hT
      cases hb : Wv hi len with
      | none => simp [hb] at h
      | some hn =>
        simp only [hb,Option.bind_some] at h
        split at h
        · rename_i hle
          obtain ⟨h1,h2,hz⟩:=hle
          obtain rfl:=Option.some.inj h
          have hb':=hh' _ _ hb
          cases hx with
          | ptr hφ =>
            refine .mk0 (arr e _ _ hn (tk_arr hT) hz rfl hb' h1 h2) ?_
            by_cases hq : len = l
            · have h0 : hn - l = 0:=by omega
              have h00 : len - l = 0:=by omega
              rw [h0,h00,addr _ _ _ rfl]
              exact .refc0
            · rw [if_neg hq]
              exact .refc' hφ (by omega) (by simp only; omega)
        · cases h
    · rename_i len e cs j hT
      cases hb : Wv hi len with
      | none => simp [hb] at h
      | some hn =>
        simp only [hb,Option.bind_some] at h
        split at h
        · rename_i hle
          obtain ⟨h1,h2,hz,hfit⟩:=hle
          obtain rfl:=Option.some.inj h
          have hb':=hh' _ _ hb
          cases hx with
          | cptr hs =>
            refine .mk0 (arr e _ _ hn (tk_arr hT) hz rfl hb' h1 h2) ?_
            rw [addr _ _ _ rfl]
            have hmul : (hn - l) * P.cellsOf e + l * P.cellsOf e = hn * P.cellsOf e:=by rw [← Nat.add_mul]; congr 1; omega
            have hmul2 : hn * P.cellsOf e≤len * P.cellsOf e:=Nat.mul_le_mul_right _ h2
            obtain ⟨a1,a2,a3⟩:=Kj (P.cellsOf e) (hn - l) (cs.drop (j + l * P.cellsOf e)) (by rw [List.length_drop]; omega)
            by_cases hq : len = l
            · have h0 : hn - l = 0:=by omega
              rw [h0]
              exact .sl (by simp [Xz]) (by simp [Xz]) (by omega) (by simp [Xz]; exact .nil)
            · rw [if_neg hq]
              refine .sl a2 a3 (by omega) ?_
              rw [a1]
              have:=(hs.drop (j + l * P.cellsOf e)).take ((hn - l) * P.cellsOf e)
              simpa [Nat.add_assoc] using this
        · cases h
    · cases h
theorem vlen_sound {t ty : TypeId} {x v : V} {u : Value} (h : vlen (tk P t) x = some v) (hx : S w (Yf φ m) φ x u) : Kt P w (Yf φ m) φ (Builtin.len_ #[t] ty #[u]) v:=by
  unfold vlen at h
  split at h <;> rename_i hT <;> first
    | (cases h; done)
    | (obtain rfl:=Option.some.inj h
       first
         | (cases hx
            refine .mk0 ?_ .i
            simp_all [Builtin.len_,run_underlying (tk_str hT),goInt]; done)
         | (cases hx
            all_goals (refine .mk0 ?_ .i; simp_all [Builtin.len_,run_underlying (Wh hT),goInt])
            done)
         | (refine .mk0 ?_ .i
            simp [Builtin.len_,run_underlying (tk_arr hT),goInt]; done))
end
end Go.VL

namespace Go.VL
set_option linter.unusedSimpArgs false
set_option linter.unusedVariables false
open Go.RowKit
def Yo (P : Program) (t : TypeId) : Option (List Value):=((P.info? t).bind (·.zero)).map fun z => z.cells.toList
def Hm (place : Nat→Option (Nat × Nat)) : List V→List (Nat × V)→Option (List V)
 | cs,[] => some cs
 | cs,(i,x) :: rest =>
  match place i,Un x with
  | some (off,n),some xs => if xs.length = n∧off + n≤cs.length then Hm place (cs.take off ++ xs ++ cs.drop (off + n)) rest else none
  | _,_ => none
def vbuild (P : Program) (t : TypeId) (parts : List (Nat × V)) : Option V :=
 (Yo P t).bind fun z =>
  match tk P t with
  | .struct fs => if fs.all (fun f => decide (f.2.1 ≠ 0)) then (Hm (fun i => (fs[i]?).bind fun f => if f.2.1 = 0 then none else some (f.1,f.2.1)) (z.map lift1) parts).map .agg else none
  | .arr _ e => if P.cellsOf e = 0 then none else (Hm (fun i => some (i * P.cellsOf e,P.cellsOf e)) (z.map lift1) parts).map .agg
  | _ => none
def rep (k : Nat) (z : List V) : List V:=(List.replicate k z).flatten
def vpick (x : Bool) (a b : V) : V:=if x = true then a else b
def numOf : List V→Option Int
 | [.i .u8 n] => some n
 | _ => none
def Kd : List (List V)→Option (List Int)
 | [] => some []
 | e :: es => (numOf e).bind fun n => (Kd es).map (n :: ·)
def vbytes (m : VM) (x : V) : Option (List Int) :=
 match x with
 | .nil => some []
 | .sl _ es => Kd es
 | .ref b e len => match m[b]? with
  | some (some (_,es)) => if e + len≤es.length then Kd ((es.drop e).take len) else none
  | _ => none
 | .refc b e j n len => match m[b]? with
  | some (some (_,es)) => (es[e]?).bind fun cs => if n = 1∧j + len≤cs.length then Kd (((cs.drop j).take len).map fun v => [v]) else none
  | _ => none
 | _ => none
def Ht (P : Program) (m : VM) (T : TK) (D : TK) (x : V) : Option V :=
 match T with
 | .slice e => if tk P e = .int .u8∧D = .str then (vbytes m x).map fun ns => .str (strOfNums ns) else none
 | T => Kq T D x
def vq (P : Program) (m : VM) (ρ : Operand→V) : Op→Option V
 | .move x | .assign x => some (ρ x)
 | .pick c a b => match ρ c with | .b t => some (vpick t (ρ a) (ρ b)) | _ => none
 | .load t x => vload P m t (ρ x)
 | .nilCheck x => match ρ x with | .ptr b e j => some (.ptr b e j) | .cptr cs j => some (.cptr cs j) | .s (.func f a c) => some (.s (.func f a c)) | _ => none
 | .binOp op t x y _ => vbinP P t op x y (ρ x) (ρ y)
 | .unOp op _ x => vun op (ρ x)
 | .convert s d x => Ht P m (tk P s) (tk P d) (ρ x)
 | .build t parts => vbuild P t (parts.toList.map fun p => (p.1,ρ p.2))
 | .slice t x lo hi none => vslice P m (tk P t) (ρ x) (lo.map ρ) (hi.map ρ)
 | .fieldAddr t x f => vfieldAddr (tk P t) (ρ x) f
 | .field t x f => vfield (tk P t) (ρ x) f
 | .indexAddr t x i => (Jz (ρ i)).bind fun k => vidx P m (tk P t) (ρ x) k
 | .index t x i => (Jz (ρ i)).bind fun k => vindex P (tk P t) (ρ x) k
 | .extract x i => match ρ x with | .tup vs => vs[i]? | _ => none
 | .call { callee:=.builtin .len,args,argTypes } => match args.toList,argTypes.toList with | [x],[t] => vlen (tk P t) (ρ x) | _,_ => none
 | .call { callee:=.builtin .min,args,argTypes:=_ } => match args.toList with
  | [x,y] => (match ρ x,ρ y with | .i k a,.i _ b => some (.i k (if b < a then b else a)) | _,_ => none)
  | _ => none
 | .call { callee:=.builtin .max,args,argTypes:=_ } => match args.toList with
  | [x,y] => (match ρ x,ρ y with | .i k a,.i _ b => some (.i k (if a < b then b else a)) | _,_ => none)
  | _ => none
 | _ => none
section
variable {P : Program} {N : Fr} {w : World} {φ : Pl} {m : VM}
theorem Hk {O : Nat→Prop} {place : Nat→Option (Nat × Nat)} {pl : Nat→Option (Nat × Nat)} (hpl : ∀ i p,place i = some p→pl i = some p) : ∀ (parts : List (Nat × V)) (uparts : List (Nat × Value)) (cs : List V) (us : List Value) (r : List V),
  Sl w O φ cs us→uparts.map (·.1) = parts.map (·.1)→Sl w O φ (parts.map (·.2)) (uparts.map (·.2))→Hm place cs parts = some r→∃ c : Array Value,Instr.fill pl us.toArray uparts = some c∧Sl w O φ r c.toList
 | [],[],cs,us,r,h,_,_,hr => by
  simp [Hm] at hr; subst hr
  exact ⟨_,rfl,by simpa using h⟩
 | (i,x) :: parts,[],cs,us,r,h,h1,_,hr => by simp at h1
 | [],y :: _,cs,us,r,h,h1,_,hr => by simp at h1
 | (i,x) :: parts,(i',u) :: uparts,cs,us,r,h,h1,h2,hr => by
  simp at h1
  obtain ⟨rfl,h1⟩:=h1
  cases h2 with
  | cons hx h2 =>
   simp only [Hm] at hr
   split at hr
   ·rename_i off n xs hp hxs
    split at hr
    ·rename_i hle
     obtain ⟨hn,hle⟩:=hle
     obtain ⟨hc,h1c⟩:=hx.cells hxs
     have hul : u.cells.toList.length = n:=by rw [hc.length,hn]
     have hlen:=h.length
     have hul' : u.cells.size = n:=by simpa using hul
     have hover : ∀ (l : List Value) (k : Nat) (A : Array Value),(l.zipIdx k).foldl (fun cs (p : Value × Nat) => cs.setIfInBounds (off + p.2) p.1) A =
       if off + k + l.length≤A.size then (A.toList.take (off + k) ++ l ++ A.toList.drop (off + k + l.length)).toArray else (l.zipIdx k).foldl (fun cs (p : Value × Nat) => cs.setIfInBounds (off + p.2) p.1) A:=by
      intro l
      induction l with
      | nil => intro k A; simp
      | cons a l ih =>
       intro k A
       split
       ·rename_i hk
        simp only [List.length_cons] at hk
        simp only [List.zipIdx_cons,List.foldl_cons]
        rw [ih (k + 1) _,if_pos (by simp; omega)]
        congr 1
        have:=list_seg_step A.toList (off + k) a l (by simp; omega)
        simp only [List.length_cons] at this ⊢
        rw [← this]
        simp [Nat.add_assoc,Nat.add_comm,Nat.add_left_comm]
       ·rfl
     have hfold : (u.cells.zipIdx.foldl (fun cs (p : Value × Nat) => cs.setIfInBounds (off + p.2) p.1) us.toArray) = (us.take off ++ u.cells.toList ++ us.drop (off + n)).toArray:=by
      have:=hover u.cells.toList 0 us.toArray
      rw [if_pos (by simp; omega)] at this
      simp only [Nat.add_zero,hul] at this
      rw [← this,← Array.foldl_toList]
      congr 1
      simp
     have ih:=Hk hpl parts uparts (cs.take off ++ xs ++ cs.drop (off + n)) (us.take off ++ u.cells.toList ++ us.drop (off + n)) r (((h.take off).append hc).append (h.drop _)) h1 h2 hr
     obtain ⟨c,hf,hs⟩:=ih
     refine ⟨c,?_,hs⟩
     have hsz : ¬ (u.cells.size ≠ n∨us.length < off + u.cells.size):=by omega
     simp only [Instr.fill,hpl _ _ hp]
     rw [← hf,← hfold]
     simp [hul']
     omega
    ·cases hr
   ·cases hr
theorem zeroV_some {t : TypeId} {z : List Value} (h : Yo P t = some z) : ∃ v,(zeroValue t).run P w = .ok v w∧v.cells.toList = z:=by
 unfold Yo at h
 cases hi : P.info? t with
 | none => simp [hi] at h
 | some i =>
  cases hz : i.zero with
  | none => simp [hi,hz] at h
  | some v =>
   simp [hi,hz] at h
   exact ⟨v,by simp [zeroValue,run_typeInfo w hi,hz],h⟩
theorem run_places : ∀ (l : List Field),(l.all fun f => decide (Uu P f.type ≠ 0)) = true→(l.mapM (m:=Sem) fun f => do pure (f.offset,← sizeOf f.type)).run P w = .ok (l.map fun f => (f.offset,P.cellsOf f.type)) w
 | [],_ => by simp
 | f :: l,h => by
  simp only [List.all_cons,Bool.and_eq_true,decide_eq_true_eq] at h
  have ih:=run_places l h.2
  simp only [List.mapM_cons,Sem.run_bind,Xf (Gg h.1).2.1,Result.andThen_ok,Sem.run_pure,ih,List.map_cons]
theorem vbuild_sound {O : Nat→Prop} {t : TypeId} {parts : List (Nat × V)} {uparts : Array (Nat × Value)} {v : V} (h : vbuild P t parts = some v) (h1 : uparts.toList.map (·.1) = parts.map (·.1)) (h2 : Sl w O φ (parts.map (·.2)) (uparts.toList.map (·.2))) :
  Kt P w O φ (Instr.build t uparts) v:=by
 unfold vbuild at h
 cases hz : Yo P t with
 | none => simp [hz] at h
 | some z =>
  simp only [hz,Option.bind_some] at h
  obtain ⟨zv,hz1,hz2⟩:=zeroV_some (P:=P) (w:=w) hz
  have hzs : Sl w O φ (z.map lift1) z:=Sl.lift1 z
  have hza : zv.cells = z.toArray:=by rw [← hz2]
  split at h
  ·rename_i fs hT
   obtain ⟨F,hu,rfl⟩:=tk_struct hT
   split at h
   ·rename_i hall
    cases hf : Hm (fun i => ((F.toList.map fun f => (f.offset,Uu P f.type,Xe P f.type))[i]?).bind fun f => if f.2.1 = 0 then none else some (f.1,f.2.1)) (z.map lift1) parts with
    | none => rw [hf] at h; cases h
    | some r =>
     simp only [hf,Option.map_some,Option.some.injEq] at h
     subst h
     have hall' : (F.toList.all fun f => decide (Uu P f.type ≠ 0)) = true:=by
      rw [List.all_map] at hall
      exact hall
     obtain ⟨c,hc,hs⟩:=Hk (pl:=fun i => (F.map fun f => (f.offset,P.cellsOf f.type))[i]?) (fun i p hp => by
      simp only [List.getElem?_map] at hp
      cases hF : F.toList[i]? with
      | none => simp [hF] at hp
      | some fd =>
       simp [hF] at hp
       obtain ⟨hp1,hp2⟩:=hp
       have hF' : F[i]? = some fd:=by simpa using hF
       simp [hF']
       rw [← (Gg hp1).1]; exact hp2) parts uparts.toList _ z _ hzs h1 h2 hf
     refine .mk0 (u:=.agg c) ?_ (by simpa using S.agg hs)
     have hm:=run_places (P:=P) (w:=w) F.toList hall'
     simp only [Instr.build,Sem.run_bind,hz1,Result.andThen_ok,run_underlying hu,Array.mapM_eq_mapM_toList,Sem.run_map,hm,hza]
     have hmap : (List.map (fun f => (f.offset,P.cellsOf f.type)) F.toList).toArray = F.map fun f => (f.offset,P.cellsOf f.type):=by
      apply Array.ext'; simp
     rw [hmap,hc]
     rfl
   ·cases h
  ·rename_i n e hT
   split at h
   ·cases h
   ·rename_i hn
    cases hf : Hm (fun i => some (i * P.cellsOf e,P.cellsOf e)) (z.map lift1) parts with
    | none => rw [hf] at h; cases h
    | some r =>
     simp only [hf,Option.map_some,Option.some.injEq] at h
     subst h
     obtain ⟨c,hc,hs⟩:=Hk (pl:=fun i => some (i * P.cellsOf e,P.cellsOf e)) (fun i p hp => hp) parts uparts.toList _ z _ hzs h1 h2 hf
     refine .mk0 (u:=.agg c) ?_ (by simpa using S.agg hs)
     simp only [Instr.build,Sem.run_bind,hz1,Result.andThen_ok,run_underlying (tk_arr hT),Xf hn,hza,hc]
     rfl
  ·cases h
theorem Kt.next {O : Nat→Prop} {x : Sem Value} {v : V} (h : Kt P w O φ x v) : ∃ u n,(do pure (Next.value (← x)) : Sem Next).run P w = .ok (.value u) (w.drewN n)∧S w O φ v u:=by
 obtain ⟨u,n,h1,h2⟩:=h
 exact ⟨u,n,by simp [h1],h2⟩
theorem cell_at {b off : Nat} {c : Array Value} {e : TypeId} {fr : Nat × Nat} {u : Value} (hb : w.heap[b]? = some (.cells c e fr)) (hc : c[off]? = some u) : w.cell? ⟨b,off,none⟩ = some u:=by
 simp [World.cell?,hb,hc]
theorem numsOf_spec : ∀ {es : List (List V)} {ns : List Int},Kd es = some ns→es.flatten = ns.map (.i .u8)∧ns.length = es.length∧∀ e ∈ es,e.length = 1
 | [],ns,h => by cases h; simp
 | e :: es,ns,h => by
  simp only [Kd,Option.bind_eq_some_iff,Option.map_eq_some_iff] at h
  obtain ⟨n,h1,ns',h2,rfl⟩:=h
  obtain ⟨g1,g2,g3⟩:=numsOf_spec h2
  unfold numOf at h1
  split at h1
  ·cases h1
   refine ⟨by simp [g1],by simp [g2],fun x hx => ?_⟩
   rcases List.mem_cons.1 hx with rfl | hx
   ·rfl
   ·exact g3 x hx
  ·cases h1
theorem numsOf_single : ∀ {cs : List V} {ns : List Int},Kd (cs.map fun v => [v]) = some ns→cs = ns.map (.i .u8)
 | [],ns,h => by cases h; rfl
 | c :: cs,ns,h => by
  simp only [List.map_cons,Kd,Option.bind_eq_some_iff,Option.map_eq_some_iff] at h
  obtain ⟨n,h1,ns',h2,rfl⟩:=h
  unfold numOf at h1
  split at h1
  ·rename_i heq
   cases h1
   simp only [List.cons.injEq,and_true] at heq
   rw [heq,numsOf_single h2,List.map_cons]
  ·cases h1
theorem vconvM_sound {s d : TypeId} {a v : V} {u : Value} (h : Ht P m (tk P s) (tk P d) a = some v) (h1 : S w (Yf φ m) φ a u) (hm : Mem N w φ m) : Kt P w (Yf φ m) φ (convert s d u) v:=by
 unfold Ht at h
 split at h
 ·rename_i e hT
  split at h
  ·rename_i hc
   obtain ⟨hc1,hc2⟩:=hc
   simp only [Option.map_eq_some_iff] at h
   obtain ⟨ns,hb,rfl⟩:=h
   have hs:=Wh hT
   have he : P.underlying e = some (.int .u8):=by
    unfold tk at hc1; split at hc1 <;> first | (cases hc1; assumption) | (cases hc1; done)
   have hd:=tk_str hc2
   have key : ∀ (b off len cap : Nat),ns.length = len→(∀ (i : Nat) (n : Int),ns[i]? = some n→w.cell? ⟨b,off + i,none⟩ = some (.int .u8 n))→Kt P w (Yf φ m) φ (convert s d (.slice (some ⟨b,off,none⟩) len cap)) (.str (strOfNums ns)):=fun b off len cap hl hcell => by
    refine .mk0 (run_convert_bytes_arg w s e hs he b off len cap ns hl (fun i hi => ?_) d hd) .str
    have hlt : i < ns.length:=by omega
    rw [hcell i ns[i] (List.getElem?_eq_getElem hlt)]
    simp [List.getD,List.getElem?_eq_getElem hlt]
   have empty : ∀ (a : Option Addr) (cap : Nat),ns = []→Kt P w (Yf φ m) φ (convert s d (.slice a 0 cap)) (.str (strOfNums ns)):=fun a cap hn => by
    subst hn
    cases a with
    | none =>
     refine .mk0 (run_convert_bytes_nil w s e hs he 0 cap d hd) ?_
     exact .str
    | some a =>
     refine .mk0 (u:=.string (strOfNums [])) ?_ .str
     rw [run_convert_bytes_string w s d e _ 0 cap hs he hd,run_bytesToString w a 0 cap [] (by simpa using run_loadCells_list (P:=P) w a [] (fun k v hk => by simp at hk)),foldl_push_bytes]
     rfl
   have cellI : ∀ {n : Int} {z : Value},S w (Yf φ m) φ (.i .u8 n) z→z = .int .u8 n:=fun h => by cases h; rfl
   have cellN : ∀ {O : Nat→Prop} {φ : Pl} {n : Int} {z : Value},S w O φ (.i .u8 n) z→z = .int .u8 n:=fun h => by cases h; rfl
   unfold vbytes at hb
   split at hb
   ·cases hb; cases h1
    exact empty _ _ rfl
   ·obtain ⟨g1,g2,g3⟩:=numsOf_spec hb
    cases h1 with
    | sl hn hl hcap hss =>
     refine key _ _ _ _ (by omega) fun i n hi => ?_
     rw [g1] at hss
     obtain ⟨z,z1,_,z3⟩:=hss.get (i:=i) (v:=.i .u8 n) (by simp [hi])
     rw [z1,cellN z3]
    | sl0 => exact empty _ _ (by simpa using g2)
    | slnil => exact empty _ _ (by simpa using g2)
   ·split at hb
    ·rename_i b e0 len _ n es hbl
     split at hb
     ·rename_i hle
      obtain ⟨g1,g2,g3⟩:=numsOf_spec hb
      have hlen : ns.length = len:=by rw [g2]; simp; omega
      cases h1 with
      | ref hφ' hc hr =>
       obtain ⟨hn,pb,po,c,t,hφ,hp,hfit,hcell⟩:=hm.at_ b n es _ hbl hφ'
       rw [hφ] at hφ'
       simp at hφ'
       obtain ⟨rfl,rfl,rfl⟩:=hφ'
       refine key _ _ _ _ hlen fun i q hi => ?_
       have hflat : ((es.drop e0).take len).flatten[i]? = some (.i .u8 q):=by rw [g1]; simp [hi]
       rw [Uo es n e0 len hn,List.getElem?_take] at hflat
       split at hflat
       ·rw [List.getElem?_drop] at hflat
        obtain ⟨z,z1,_,z3⟩:=hcell _ _ hflat
        rw [cellI z3] at z1
        have:=cell_at (w:=w) hp z1
        rw [Nat.add_assoc]; exact this
       ·cases hflat
      | ref0 => exact empty _ _ (List.eq_nil_of_length_eq_zero hlen)
      | refnil => exact empty _ _ (List.eq_nil_of_length_eq_zero hlen)
     ·cases hb
    ·cases hb
   ·split at hb
    ·rename_i b e0 j q len _ n es hbl
     simp only [Option.bind_eq_some_iff] at hb
     obtain ⟨cs,hcs,hb⟩:=hb
     split at hb
     ·rename_i hle
      obtain ⟨rfl,hle⟩:=hle
      have g1:=numsOf_single hb
      have hlen : ns.length = len:=by
       have:=congrArg List.length g1
       simp at this; omega
      cases h1 with
      | refc hφ' hc =>
       obtain ⟨hn,pb,po,c,t,hφ,hp,hfit,hcell⟩:=hm.at_ b n es _ hbl hφ'
       rw [hφ] at hφ'
       simp at hφ'
       obtain ⟨rfl,rfl,rfl⟩:=hφ'
       refine key _ _ _ _ hlen fun i x hi => ?_
       have hx : ((cs.drop j).take len)[i]? = some (.i .u8 x):=by rw [g1]; simp [hi]
       rw [List.getElem?_take] at hx
       split at hx
       ·rw [List.getElem?_drop] at hx
        obtain ⟨z,z1,_,z3⟩:=hcell _ _ (Ui hn hcs hx)
        rw [cellI z3] at z1
        have:=cell_at (w:=w) hp z1
        rw [show po + e0 * n + j + i = po + (e0 * n + (j + i)) by omega]; exact this
       ·cases hx
      | refc0 => exact empty _ _ (List.eq_nil_of_length_eq_zero hlen)
     ·cases hb
    ·cases hb
   ·cases hb
  ·cases h
 ·exact vconv_sound h h1
theorem vq_sound {ρ : Operand→V} {ρu : Operand→Value} {o : Oper} {v : V} (h : vq P m ρ o.op = some v) (hρ : ∀ x,S w (Yf φ m) φ (ρ x) (ρu x)) (hm : Mem N w φ m) :
  ∃ u n,(execOp ρu o).run P w = .ok (.value u) (w.drewN n)∧S w (Yf φ m) φ v u:=by
 obtain ⟨dst,op,ty,pos,after,guard⟩:=o
 have mk : ∀ {u : Value} {v : V} {s : Sem Next},s.run P w = .ok (.value u) w→S w (Yf φ m) φ v u→∃ u n,s.run P w = .ok (.value u) (w.drewN n)∧S w (Yf φ m) φ v u:=fun {u v s} h1 h2 => ⟨u,0,by rw [h1]; rfl,h2⟩
 unfold execOp
 unfold vq at h
 simp only at h ⊢
 split at h
 ·obtain rfl:=Option.some.inj h; exact mk rfl (hρ _)
 ·obtain rfl:=Option.some.inj h; exact mk rfl (hρ _)
 ·rename_i c a b
  split at h
  ·rename_i t ht
   have hc:=hρ c
   rw [ht] at hc
   generalize hu : ρu c = uc at hc
   cases hc
   cases t
   ·obtain rfl:=Option.some.inj h
    exact mk (u:=ρu b) (by simp [hu,asBool]) (hρ b)
   ·obtain rfl:=Option.some.inj h
    exact mk (u:=ρu a) (by simp [hu,asBool]) (hρ a)
  ·cases h
 ·exact (vload_sound h (hρ _) hm).next
 ·rename_i x
  have hx:=hρ x
  dsimp only
  split at h
  ·rename_i b e j hr
   rw [hr] at hx
   obtain rfl:=Option.some.inj h
   generalize ρu x = u at hx ⊢
   cases hx with
   | ptr hφ => exact mk rfl (.ptr hφ)
  ·rename_i cs j hr
   rw [hr] at hx
   obtain rfl:=Option.some.inj h
   generalize ρu x = u at hx ⊢
   cases hx with
   | cptr hs => exact mk rfl (.cptr hs)
  ·rename_i f a c hr
   rw [hr] at hx
   obtain rfl:=Option.some.inj h
   generalize ρu x = u at hx ⊢
   cases hx with
   | s hs =>
    cases f <;> first | (cases hs; done) | skip
    exact mk rfl (.s hs)
  ·cases h
 ·exact (vbinP_sound h (hρ _) (hρ _)).next
 ·exact (vun_sound h (hρ _)).next
 ·exact (vconvM_sound h (hρ _) hm).next
 ·rename_i t parts
  refine (vbuild_sound (uparts:=parts.map fun (i,x) => (i,ρu x)) h (by simp) ?_).next
  simp only [List.map_map,Array.toList_map]
  have : ∀ l : List (Nat × Operand),Sl w (Yf φ m) φ (l.map ((fun x => x.2) ∘ fun p => (p.1,ρ p.2))) (l.map ((fun x => x.2) ∘ fun x => (x.1,ρu x.2))):=fun l => by
   induction l with
   | nil => exact .nil
   | cons p l ih => exact .cons (hρ _) ih
  exact this _
 ·rename_i t x lo hi
  exact (vslice_sound (ulo:=lo.map ρu) (uhi:=hi.map ρu) h (hρ _) hm (by cases lo <;> simp [OS,hρ]) (by cases hi <;> simp [OS,hρ])).next
 ·exact (vfieldAddr_sound h (hρ _)).next
 ·exact (vfield_sound h (hρ _)).next
 ·rename_i t x i
  cases hk : Jz (ρ i) with
  | none => simp [hk] at h
  | some k =>
   simp only [hk,Option.bind_some] at h
   exact (vidx_sound h hk (hρ _) (hρ _) hm).next
 ·rename_i t x i
  cases hk : Jz (ρ i) with
  | none => simp [hk] at h
  | some k =>
   simp only [hk,Option.bind_some] at h
   exact (vindex_sound h hk (hρ _) (hρ _)).next
 ·rename_i x i
  have hx:=hρ x
  split at h
  ·rename_i vs hr
   rw [hr] at hx
   dsimp only
   generalize ρu x = u at hx ⊢
   cases hx with
   | tup hs =>
    rename_i us
    obtain ⟨z,h1,h2⟩:=hs.get h
    refine (Kt.mk0 (u:=z) ?_ h2).next
    simp [Instr.extract,h1]
  ·cases h
 ·rename_i args argTypes
  split at h
  ·rename_i x t ha ht
   obtain ⟨u,n,h1,h2⟩:=vlen_sound (ty:=ty) h (hρ x)
   have ha' : args = #[x]:=Array.ext' (by simpa using ha)
   have ht' : argTypes = #[t]:=Array.ext' (by simpa using ht)
   subst ha' ht'
   exact ⟨u,n,by simp [resolve,invoke,builtin,h1],h2⟩
  ·cases h
 ·rename_i args argTypes
  split at h
  ·rename_i x y ha
   have ha' : args = #[x,y]:=Array.ext' (by simpa using ha)
   subst ha'
   have hx:=hρ x
   have hy:=hρ y
   split at h
   ·rename_i k a k' b hrx hry
    rw [hrx] at hx
    rw [hry] at hy
    obtain rfl:=Option.some.inj h
    generalize hux : ρu x = ux at hx
    generalize huy : ρu y = uy at hy
    cases hx; cases hy
    exact mk (u:=.int k (if b < a then b else a)) (by simp [resolve,invoke,builtin,Builtin.min_,Builtin.min2,hux,huy]) .i
   ·cases h
  ·cases h
 ·rename_i args argTypes
  split at h
  ·rename_i x y ha
   have ha' : args = #[x,y]:=Array.ext' (by simpa using ha)
   subst ha'
   have hx:=hρ x
   have hy:=hρ y
   split at h
   ·rename_i k a k' b hrx hry
    rw [hrx] at hx
    rw [hry] at hy
    obtain rfl:=Option.some.inj h
    generalize hux : ρu x = ux at hx
    generalize huy : ρu y = uy at hy
    cases hx; cases hy
    exact mk (u:=.int k (if a < b then b else a)) (by simp [resolve,invoke,builtin,Builtin.max_,Builtin.max2,hux,huy]) .i
   ·cases h
  ·cases h
 ·cases h
end
end Go.VL

namespace Go.VL
set_option linter.unusedSimpArgs false
set_option linter.unusedVariables false
open Go.RowKit
def vstore (P : Program) (m : VM) (t : TypeId) (x y : V) : Option VM :=
 match x with
 | .ptr b e j => match m[b]?,Un y with
  | some (some (n,es)),some cs => match es[e]? with
   | some old => if cs.length = P.cellsOf t∧P.cellsOf t ≠ 0∧j + cs.length≤old.length then some (m.set b (some (n,es.set e (old.take j ++ cs ++ old.drop (j + cs.length))))) else none
   | none => none
  | _,_ => none
 | _ => none
section
variable {P : Program} {N : Fr} {w : World} {φ : Pl} {m : VM}
theorem vcells_all {x : V} {cs : List V} (h : Un x = some cs) : cs.all Wn = true:=by
 unfold Un at h
 split at h
 ·split at h
  ·rename_i ha; obtain rfl:=Option.some.inj h; exact ha
  ·cases h
 ·split at h
  ·rename_i ha; obtain rfl:=Option.some.inj h; simpa using ha
  ·cases h
theorem flatten_set {α : Type} : ∀ (es : List (List α)) (n e : Nat) (x : List α),(∀ y ∈ es,y.length = n)→e < es.length→x.length = n→(es.set e x).flatten = es.flatten.take (e * n) ++ x ++ es.flatten.drop (e * n + n)
 | [],_,_,_,_,h,_ => by simp at h
 | y :: es,n,0,x,hn,_,hx => by
  have hy:=hn y (by simp)
  simp [← hy]
 | y :: es,n,e + 1,x,hn,he,hx => by
  have hy:=hn y (by simp)
  have ih:=flatten_set es n e x (fun z hz => hn z (by simp [hz])) (by simpa using he) hx
  have e1 : (e + 1) * n = y.length + e * n:=by rw [Nat.add_mul,hy]; omega
  simp only [List.set_cons_succ,List.flatten_cons,ih,e1]
  rw [List.take_append,List.take_of_length_le (l:=y) (by omega),show y.length + e * n - y.length = e * n by omega,
   show y.length + e * n + n = y.length + (e * n + n) by omega,List.drop_append,List.drop_eq_nil_of_le (as:=y) (by omega),List.nil_append,show y.length + (e * n + n) - y.length = e * n + n by omega]
  simp [List.append_assoc]
theorem Qt {α : Type} (l x : List α) (k i : Nat) (h : k + x.length≤l.length) : (l.take k ++ x ++ l.drop (k + x.length))[i]? = if i < k then l[i]? else if i < k + x.length then x[i - k]? else l[i]?:=by
 have hk : (l.take k).length = k:=by rw [List.length_take]; omega
 by_cases h1 : i < k
 ·rw [if_pos h1,List.append_assoc,List.getElem?_append_left (by omega),List.getElem?_take,if_pos h1]
 ·rw [if_neg h1]
  by_cases h2 : i < k + x.length
  ·rw [if_pos h2,List.getElem?_append_left (by rw [List.length_append]; omega),List.getElem?_append_right (by omega),hk]
  ·rw [if_neg h2,List.getElem?_append_right (by rw [List.length_append]; omega),List.getElem?_drop,List.length_append,hk]
   congr 1; omega
theorem vstore_sound {t : TypeId} {x y : V} {ux uy : Value} {m' : VM} (h : vstore P m t x y = some m') (hx : S w (Yf φ m) φ x ux) (hy : S w (Yf φ m) φ y uy) (hm : Mem N w φ m) :
  ∃ w',(Instr.storeAt t ux uy).run P w = .ok () w'∧Mem N w' φ m'∧Ev w (Yf φ m) φ w' (Yf φ m') φ∧Bel N w w':=by
 unfold vstore at h
 split at h
 ·rename_i b e j
  split at h
  ·rename_i n es cs hb hcs
   split at h
   ·rename_i old he
    split at h
    ·rename_i hc
     obtain ⟨hlen,hz,hfit⟩:=hc
     obtain rfl:=Option.some.inj h
     cases hx with
     | ptr hφ' =>
      obtain ⟨hl,pb,po,c,ty,hφ,hp,hle,hcell⟩:=hm.at_ b n es _ hb hφ'
      rw [hφ] at hφ'
      simp at hφ'
      obtain ⟨rfl,rfl,rfl⟩:=hφ'
      obtain ⟨hsl,h1⟩:=hy.cells hcs
      have hul : uy.cells.toList.length = cs.length:=hsl.length
      have hold : old.length = n:=hl old (List.mem_of_getElem? he)
      have helt : e < es.length:=(List.getElem?_eq_some_iff.1 he).1
      have hmul : (e + 1) * n≤es.length * n:=Nat.mul_le_mul_right _ helt
      rw [Nat.add_mul] at hmul
      have hst:=run_storeCells_at P pb (po + e * n + j) ty uy.cells.toList 0 c w hp (by omega) h1
      simp only [Nat.add_zero] at hst
      have hsz : uy.cells.size = P.cellsOf t:=by rw [← hlen,← hul]; simp
      have hrun : (Instr.storeAt t (.pointer (some ⟨pb,po + e * n + j,none⟩)) uy).run P w = .ok () (w.setRow pb (c.toList.take (po + e * n + j) ++ uy.cells.toList ++ c.toList.drop (po + e * n + j + uy.cells.toList.length)).toArray):=by
       simp only [Instr.storeAt,Instr.sureAddr,Sem.run_bind,Sem.run_pure,Result.andThen_ok,storeVar,Xf hz,hsz,ne_eq,not_true_eq_false,if_false]
       exact hst
      refine ⟨_,hrun,?_⟩
      ·have hc'size : (c.toList.take (po + e * n + j) ++ uy.cells.toList ++ c.toList.drop (po + e * n + j + uy.cells.toList.length)).toArray.size = c.size:=by
        simp only [List.size_toArray,List.length_append,List.length_take,List.length_drop,Array.length_toList]; omega
       have hnew : (old.take j ++ cs ++ old.drop (j + cs.length)).length = n:=by simp; omega
       have hw:=hm.write (es':=es.set e (old.take j ++ cs ++ old.drop (j + cs.length))) hb hφ hp (setRow_heap w pb c _ ty _ hp) hc'size (fun k hk => setRow_other w pb k _ hk) (by simp [World.setRow])
        (fun x hx => by
         rcases List.mem_or_eq_of_mem_set hx with h | rfl
         ·exact hl x h
         ·exact hnew) (by simpa using hle) (fun i v hi => ?_) (fun i n' e' hi => ?_)
       ·exact ⟨hw.1,hw.2,rfl,rfl,rfl,by simp [World.setRow],fun k hk => setRow_other w pb k _ (fun e => (hm.new b pb po n hφ).1 (e ▸ hk))⟩
       ·-- the cells behind the write
        rw [flatten_set es n e _ hl helt hnew] at hi
        have hfl:=Xv hl
        have hX:=hnew
        have hfl:=Xv hl
        have hcl : c.toList.length = c.size:=Array.length_toList
        have hget : ∀ q,(c.toList.take (po + e * n + j) ++ uy.cells.toList ++ c.toList.drop (po + e * n + j + uy.cells.toList.length)).toArray[q]? =
          if q < po + e * n + j then c[q]? else if q < po + e * n + j + cs.length then uy.cells.toList[q - (po + e * n + j)]? else c[q]?:=by
         intro q
         rw [List.getElem?_toArray,Qt _ _ _ _ (by omega),hul]
         simp
        rw [hget]
        have hi':=hi
        rw [← hX,Qt _ _ _ _ (by rw [hX]; omega),hX] at hi'
        have hoe : ∀ q v,old[q]? = some v→es.flatten[e * n + q]? = some v:=fun q v hq => Ui hl he hq
        by_cases c1 : i < e * n
        ·rw [if_pos c1] at hi'
         rw [if_pos (by omega)]
         exact hcell i v hi'
        ·rw [if_neg c1] at hi'
         by_cases c2 : i < e * n + n
         ·rw [if_pos c2,Qt _ _ _ _ hfit] at hi'
          by_cases c3 : i - e * n < j
          ·rw [if_pos c3] at hi'
           rw [if_pos (by omega)]
           have:=hoe _ _ hi'
           rw [show e * n + (i - e * n) = i by omega] at this
           exact hcell i v this
          ·rw [if_neg c3] at hi'
           by_cases c4 : i - e * n < j + cs.length
           ·rw [if_pos c4] at hi'
            rw [if_neg (by omega),if_pos (by omega)]
            obtain ⟨u,a1,a2⟩:=hsl.get hi'
            refine ⟨u,?_,h1 u (List.mem_of_getElem? a1),a2⟩
            rw [← a1]; congr 1; omega
           ·rw [if_neg c4] at hi'
            rw [if_neg (by omega),if_neg (by omega)]
            have:=hoe _ _ hi'
            rw [show e * n + (i - e * n) = i by omega] at this
            exact hcell i v this
         ·rw [if_neg c2] at hi'
          rw [if_neg (by omega),if_neg (by omega)]
          exact hcell i v hi'
       ·-- own slices are where they were
        rw [flatten_set es n e _ hl helt hnew] at hi
        have hfl:=Xv hl
        have hX:=hnew
        have hcl : c.toList.length = c.size:=Array.length_toList
        have hget : ∀ q,(c.toList.take (po + e * n + j) ++ uy.cells.toList ++ c.toList.drop (po + e * n + j + uy.cells.toList.length)).toArray[q]? =
          if q < po + e * n + j then c[q]? else if q < po + e * n + j + cs.length then uy.cells.toList[q - (po + e * n + j)]? else c[q]?:=by
         intro q
         rw [List.getElem?_toArray,Qt _ _ _ _ (by omega),hul]
         simp
        rw [hget]
        have hi':=hi
        rw [← hX,Qt _ _ _ _ (by rw [hX]; omega),hX] at hi'
        have hoe : ∀ q v,old[q]? = some v→es.flatten[e * n + q]? = some v:=fun q v hq => Ui hl he hq
        by_cases c1 : i < e * n
        ·rw [if_pos c1] at hi'
         rw [if_pos (by omega)]
         exact ⟨hi',rfl⟩
        ·rw [if_neg c1] at hi'
         by_cases c2 : i < e * n + n
         ·rw [if_pos c2,Qt _ _ _ _ hfit] at hi'
          by_cases c3 : i - e * n < j
          ·rw [if_pos c3] at hi'
           rw [if_pos (by omega)]
           have:=hoe _ _ hi'
           rw [show e * n + (i - e * n) = i by omega] at this
           exact ⟨this,rfl⟩
          ·rw [if_neg c3] at hi'
           by_cases c4 : i - e * n < j + cs.length
           ·rw [if_pos c4] at hi'
            have:=List.all_eq_true.1 (vcells_all hcs) _ (List.mem_of_getElem? hi')
            cases this
           ·rw [if_neg c4] at hi'
            rw [if_neg (by omega),if_neg (by omega)]
            have:=hoe _ _ hi'
            rw [show e * n + (i - e * n) = i by omega] at this
            exact ⟨this,rfl⟩
         ·rw [if_neg c2] at hi'
          rw [if_neg (by omega),if_neg (by omega)]
          exact ⟨hi',rfl⟩
    ·cases h
   ·cases h
  ·cases h
 ·cases h
end
end Go.VL

namespace Go.VL
set_option linter.unusedSimpArgs false
set_option linter.unusedVariables false
open Go.RowKit
def Jy (P : Program) (k : Nat) (ρ : Operand→V) : Op→Option (V × Nat × List (List V))
 | .alloc t => (Yo P t).bind fun z => if (z.map lift1).all Wn then some (.ptr k 0 0,z.length,[z.map lift1]) else none
 | .box _ x => (Un (ρ x)).map fun cs => (.ptr k 0 0,cs.length,[cs])
 | .buildSlice t len parts => match tk P t with
  | .slice e => (Yo P e).bind fun z =>
    if z.length = P.cellsOf e∧P.cellsOf e ≠ 0∧len * P.cellsOf e≤16777216∧(z.map lift1).all Wn then
     (Hm (fun i => some (i * P.cellsOf e,P.cellsOf e)) (List.replicate len (z.map lift1)).flatten (parts.toList.map fun p => (p.1,ρ p.2))).map fun fs => (.ref k 0 len,P.cellsOf e,Xz (P.cellsOf e) len fs)
    else none
  | _ => none
 | .makeSlice t l c => match tk P t,Jz (ρ l),Jz (ρ c) with
  | .slice e,some q,some q' => (Yo P e).bind fun z =>
    if z.length = P.cellsOf e∧P.cellsOf e ≠ 0∧q = q'∧P.bytesOf e * q≤281474976710656∧q≤9223372036854775807∧(z.map lift1).all Wn then
     some (.ref k 0 q,P.cellsOf e,List.replicate q (z.map lift1))
    else none
  | _,_,_ => none
 | _ => none
section
variable {P : Program} {N : Fr} {w : World} {φ : Pl} {m : VM}
def Makes (P : Program) (w : World) (O : Nat→Prop) (φ : Pl) (s : Sem Next) (k : Nat) (v : V) (n : Nat) (es : List (List V)) : Prop :=
 ∃ u c t us,s.run P w = .ok (.value u) (w.alloc (.cells c t))∧(∀ e ∈ es,e.length = n)∧Sl w O φ es.flatten us∧(∀ x ∈ us,x.oneCell' = true)∧(∀ i,i < us.length→c[i]? = us[i]?)∧us.length≤c.size ∧
  ∀ O' φ',φ' k = some (w.heap.size,0,n)→S (w.alloc (.cells c t)) O' φ' v u
theorem made_get (z : Array Value) (n i : Nat) (hi : i < n) (hz : 0 < z.size) : ((Array.range n).map (z[· % z.size]!))[i]? = z[i % z.size]?:=by
 have hm : i % z.size < z.size:=Nat.mod_lt _ hz
 simp [hi,hm]
theorem rep_get {α : Type} (z : List α) (q i : Nat) (hi : i < q * z.length) : (List.replicate q z).flatten[i]? = z[i % z.length]?:=by
 have hz : 0 < z.length:=by rcases Nat.eq_zero_or_pos z.length with h | h; (rw [h,Nat.mul_zero] at hi; omega); exact h
 have hd : i / z.length < q:=Nat.div_lt_of_lt_mul (by rwa [Nat.mul_comm])
 have hm : i % z.length < z.length:=Nat.mod_lt _ hz
 have:=Ui (es:=List.replicate q z) (n:=z.length) (fun e he => by rw [(List.mem_replicate.1 he).2]) (i:=i / z.length) (j:=i % z.length) (e:=z) (x:=z[i % z.length]) (by simp [hd]) (by simp [hm])
 rw [Nat.mul_comm,Nat.div_add_mod] at this
 rw [this]; simp [hm]
theorem rep_length {α : Type} (z : List α) (q : Nat) : (List.replicate q z).flatten.length = q * z.length:=by
 simp
theorem room_new (w : World) (c : Array Value) (t : TypeId) (n : Nat) (h : n≤c.size) : Room (w.alloc (.cells c t)) w.heap.size n :=
 ⟨c,t,(0,0),heap_alloc_new w _,h⟩
theorem Sl_rep {O : Nat→Prop} (z : List Value) : ∀ q,Sl w O φ (List.replicate q (z.map VL.lift1)).flatten (List.replicate q z).flatten
 | 0 => by simp; exact .nil
 | q + 1 => by
  simp only [List.replicate_succ,List.flatten_cons]
  exact (Sl.lift1 z).append (Sl_rep z q)
theorem vfill_keeps {place : Nat→Option (Nat × Nat)} : ∀ (parts : List (Nat × V)) (cs r : List V),Hm place cs parts = some r→r.length = cs.length∧(cs.all Wn = true→r.all Wn = true)
 | [],cs,r,h => by simp [Hm] at h; subst h; exact ⟨rfl,id⟩
 | (i,x) :: parts,cs,r,h => by
  simp only [Hm] at h
  split at h
  ·rename_i off n xs hp hxs
   split at h
   ·rename_i hle
    obtain ⟨h1,h2⟩:=vfill_keeps parts _ r h
    refine ⟨by rw [h1]; simp; omega,fun hc => h2 ?_⟩
    simp only [List.all_append,Bool.and_eq_true]
    refine ⟨⟨?_,vcells_all hxs⟩,?_⟩
    ·exact List.all_eq_true.2 fun y hy => List.all_eq_true.1 hc y (List.mem_of_mem_take hy)
    ·exact List.all_eq_true.2 fun y hy => List.all_eq_true.1 hc y (List.mem_of_mem_drop hy)
   ·cases h
  ·cases h
theorem all_rep {z : List V} (h : z.all Wn = true) (q : Nat) : (List.replicate q z).flatten.all Wn = true:=by
 refine List.all_eq_true.2 fun y hy => ?_
 obtain ⟨l,hl,hy⟩:=List.mem_flatten.1 hy
 rw [(List.mem_replicate.1 hl).2] at hy
 exact List.all_eq_true.1 h y hy
theorem natOf_int' {O : Nat→Prop} {x : V} {n : Nat} {u : Value} (h : Jz x = some n) (hx : S w O φ x u) : ∃ k,u = .int k (n : Int):=by
 unfold Jz at h
 split at h
 ·split at h
  ·rename_i hq
   obtain rfl:=Option.some.inj h
   cases hx
   exact ⟨_,by rw [Int.toNat_of_nonneg hq]⟩
  ·cases h
 ·cases h
theorem valloc_sound {O : Nat→Prop} {ρ : Operand→V} {ρu : Operand→Value} {o : Oper} {k n : Nat} {es : List (List V)} {v : V} (h : Jy P k ρ o.op = some (v,n,es)) (hρ : ∀ x,S w O φ (ρ x) (ρu x)) :
  Makes P w O φ (execOp ρu o) k v n es:=by
 obtain ⟨dst,op,ty,pos,after,guard⟩:=o
 unfold execOp
 unfold Jy at h
 simp only at h ⊢
 split at h
 ·rename_i t
  cases hz : Yo P t with
  | none => simp [hz] at h
  | some z =>
   simp only [hz,Option.bind_some] at h
   split at h
   ·rename_i hc
    simp at h
    obtain ⟨rfl,rfl,rfl⟩:=h
    obtain ⟨zv,hz1,hz2⟩:=zeroV_some (P:=P) (w:=w) hz
    have hs : Sl w O φ (z.map lift1) z:=Sl.lift1 z
    refine ⟨_,zv.cells,t,z,?_,by simp,by simpa using hs,hs.oneCell hc,fun i hi => by simp [← hz2],by simp [← hz2],fun O' φ' hφ => .ptr' hφ (by simp; rfl)⟩
    simp [Instr.alloc,hz1,newVar,newRow]
   ·cases h
 ·rename_i t x
  cases hc : Un (ρ x) with
  | none => simp [hc] at h
  | some cs =>
   simp [hc] at h
   obtain ⟨rfl,rfl,rfl⟩:=h
   obtain ⟨hs,h1⟩:=(hρ x).cells hc
   refine ⟨_,(ρu x).cells,t,(ρu x).cells.toList,?_,by simp,by simpa using hs,h1,fun i hi => by simp,by simp,fun O' φ' hφ => .ptr' hφ (by simp; rfl)⟩
   simp [Instr.box,newVar,newRow]
 ·rename_i t len parts
  split at h
  ·rename_i e hT
   cases hz : Yo P e with
   | none => simp [hz] at h
   | some z =>
    simp only [hz,Option.bind_some] at h
    split at h
    ·rename_i hc
     obtain ⟨hzl,hn,h24,hcell⟩:=hc
     cases hf : Hm (fun i => some (i * P.cellsOf e,P.cellsOf e)) (List.replicate len (z.map lift1)).flatten (parts.toList.map fun p => (p.1,ρ p.2)) with
     | none => rw [hf] at h; cases h
     | some fs =>
      rw [hf] at h
      simp at h
      obtain ⟨rfl,rfl,rfl⟩:=h
      obtain ⟨zv,hz1,hz2⟩:=zeroV_some (P:=P) (w:=w) hz
      have hza : zv.cells = z.toArray:=by rw [← hz2]
      have hzpos : 0 < z.toArray.size:=by simp; omega
      have hcells : (Array.range (len * P.cellsOf e)).map (z.toArray[· % z.toArray.size]!) = (List.replicate len z).flatten.toArray:=by
       apply Array.ext_getElem?
       intro i
       by_cases hi : i < len * P.cellsOf e
       ·rw [made_get _ _ _ hi hzpos,List.getElem?_toArray,List.getElem?_toArray,rep_get z len i (by rw [hzl]; exact hi)]; simp
       ·rw [Array.getElem?_eq_none (by simp; omega),Array.getElem?_eq_none (by simp [hzl]; omega)]
      obtain ⟨c,hc,hs⟩:=Hk (pl:=fun i => some (i * P.cellsOf e,P.cellsOf e)) (fun i p hp => hp) (parts.toList.map fun p => (p.1,ρ p.2)) (parts.toList.map fun p => (p.1,ρu p.2)) _ (List.replicate len z).flatten _ (Sl_rep (w:=w) (O:=O) (φ:=φ) z len) (by simp)
       (by
        simp only [List.map_map]
        have : ∀ l : List (Nat × Operand),Sl w O φ (l.map ((fun x => x.2) ∘ fun p => (p.1,ρ p.2))) (l.map ((fun x => x.2) ∘ fun x => (x.1,ρu x.2))):=fun l => by
         induction l with
         | nil => exact .nil
         | cons p l ih => exact .cons (hρ _) ih
        exact this _) hf
      obtain ⟨hk1,hk2⟩:=vfill_keeps _ _ _ hf
      have hlen : fs.length = len * P.cellsOf e:=by rw [hk1,rep_length]; simp [hzl]
      obtain ⟨a1,a2,a3⟩:=Kj (P.cellsOf e) len fs (by omega)
      have hcl : c.toList.length = fs.length:=hs.length
      have hcs : c.size = len * P.cellsOf e:=by rw [← hlen,← hcl]; simp
      have hrun : (Instr.buildSlice t len (parts.map fun (i,x) => (i,ρu x))).run P w = .ok (.slice (some ⟨w.heap.size,0,none⟩) len len) (w.alloc (.cells c e)):=by
       have hparts : (parts.map fun (i,x) => (i,ρu x)).toList = parts.toList.map fun p => (p.1,ρu p.2):=by simp
       have hno : ¬ len * P.cellsOf e > 2 ^ 24:=by omega
       by_cases h0 : len * P.cellsOf e = 0
       ·have hz0 : (List.replicate len z).flatten.toArray = #[]:=by
         rw [← hcells,h0]; simp
        rw [hz0] at hc
        simp only [Instr.buildSlice,Sem.run_bind,run_underlying (Wh hT),Result.andThen_ok,Xf hn,hno,if_false,h0,if_true,Sem.run_pure,Array.range_zero',Array.map_empty,hparts,hc]
        simp [newRow]
       ·simp only [Instr.buildSlice,Sem.run_bind,run_underlying (Wh hT),Result.andThen_ok,Xf hn,hno,if_false,h0,hz1,Sem.run_pure,hza,hcells,hparts,hc]
        simp [newRow]
      refine ⟨_,c,e,c.toList,by rw [Sem.run_bind,hrun]; rfl,a2,?_,hs.oneCell (hk2 (all_rep hcell len)),fun i _ => by simp,by simp,fun O' φ' hφ => .ref' hφ (Nat.le_refl _) (by rw [Nat.zero_add,Nat.zero_add]; exact room_new w c e _ (by omega)) (by simp)⟩
      rw [a1,List.take_of_length_le (by omega)]
      exact hs
    ·cases h
  ·cases h
 ·rename_i t l c
  split at h
  ·rename_i e q q' hT hq hq'
   cases hz : Yo P e with
   | none => simp [hz] at h
   | some z =>
    simp only [hz,Option.bind_some] at h
    split at h
    ·rename_i hc
     obtain ⟨hzl,hn,rfl,hby,h63,hcell⟩:=hc
     simp at h
     obtain ⟨rfl,rfl,rfl⟩:=h
     obtain ⟨zv,hz1,hz2⟩:=zeroV_some (P:=P) (w:=w) hz
     unfold Yo at hz
     cases hi : P.info? e with
     | none => simp [hi] at hz
     | some i =>
      cases hzz : i.zero with
      | none => simp [hi,hzz] at hz
      | some zv' =>
       simp [hi,hzz] at hz
       have hsize : i.size = P.cellsOf e:=by simp [Program.cellsOf,hi]
       have hbytes : i.bytes = P.bytesOf e:=by simp [Program.bytesOf,hi]
       obtain ⟨kl,hul⟩:=natOf_int' hq (hρ l)
       obtain ⟨kc,huc⟩:=natOf_int' hq' (hρ c)
       have hr:=run_make (P:=P) w t e i zv' (Wh hT) hi hzz kl kc q q (by omega) (Int.le_refl _) (by
        have h : ((P.bytesOf e * q : Nat) : Int)≤281474976710656:=by omega
        rw [hbytes]; rwa [Int.natCast_mul] at h) (by omega)
       simp only [Int.toNat_natCast] at hr
       have hza : zv'.cells = z.toArray:=by rw [← hz]
       have hzpos : 0 < z.toArray.size:=by simp; omega
       refine ⟨_,madeCells zv'.cells (q * i.size),e,(List.replicate q z).flatten,by simp only [hul,huc,Sem.run_bind,hr,Result.andThen_ok,Sem.run_pure]; rfl,?_,Sl_rep z q,(Sl_rep (w:=w) (O:=O) (φ:=φ) z q).oneCell (all_rep hcell q),fun i' hi' => ?_,by simp [madeCells,hsize,hzl],fun O' φ' hφ => .ref' hφ (Nat.le_refl _) (by rw [Nat.zero_add,Nat.zero_add]; exact room_new w _ e _ (by simp [madeCells,hsize])) (by simp)⟩
       ·intro x hx
        rw [(List.mem_replicate.1 hx).2]; simpa using hzl
       ·rw [rep_length,hzl] at hi'
        unfold madeCells
        rw [hza,hsize,made_get _ _ _ hi' hzpos,rep_get z q i' (by rw [hzl]; exact hi')]; simp
    ·cases h
  ·cases h
 ·cases h
theorem chunks_cell : ∀ (n k : Nat) (cs : List V),cs.all Wn = true→(Xz n k cs).flatten.all Wn = true
 | _,0,_,_ => rfl
 | n,k + 1,cs,h => by
  simp only [Xz,List.flatten_cons,List.all_append,Bool.and_eq_true]
  exact ⟨List.all_eq_true.2 fun v hv => List.all_eq_true.1 h v (List.mem_of_mem_take hv),chunks_cell n k _ (List.all_eq_true.2 fun v hv => List.all_eq_true.1 h v (List.mem_of_mem_drop hv))⟩
theorem valloc_cell {ρ : Operand→V} {op : Op} {k n : Nat} {es : List (List V)} {v : V} (h : Jy P k ρ op = some (v,n,es)) : es.flatten.all Wn = true:=by
 unfold Jy at h
 split at h
 ·simp only [Option.bind_eq_some_iff] at h
  obtain ⟨z,_,h⟩:=h
  split at h
  ·rename_i hz; cases h; rw [List.flatten_singleton]; exact hz
  ·cases h
 ·rw [Option.map_eq_some_iff] at h
  obtain ⟨cs,h1,h2⟩:=h
  cases h2
  simpa using vcells_all h1
 ·split at h
  ·simp only [Option.bind_eq_some_iff] at h
   obtain ⟨z,_,h⟩:=h
   split at h
   ·rename_i hc
    rw [Option.map_eq_some_iff] at h
    obtain ⟨fs,h1,h2⟩:=h
    cases h2
    exact chunks_cell _ _ _ ((vfill_keeps _ _ _ h1).2 (all_rep hc.2.2.2 _))
   ·cases h
  ·cases h
 ·split at h
  ·simp only [Option.bind_eq_some_iff] at h
   obtain ⟨z,_,h⟩:=h
   split at h
   ·rename_i hc
    cases h
    exact all_rep hc.2.2.2.2.2 _
   ·cases h
  ·cases h
 ·cases h
theorem cell_noOwn {es : List (List V)} (h : es.flatten.all Wn = true) (i n' : Nat) (es' : List (List V)) : es.flatten[i]? ≠ some (.own n' es'):=fun hi => by
 have:=List.all_eq_true.1 h _ (List.mem_of_getElem? hi)
 cases this
end
end Go.VL
