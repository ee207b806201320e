/- Calls: arguments as data, results with memory of their own. -/
import Derived.Test.YtloepppmjppddaaGreatDoorVxGb
import Derived.Laws.Externs
import Derived.Deep.LoopGhost
namespace Go.VL
open Go.RowKit
set_option linter.unusedSimpArgs false
set_option linter.unusedVariables false
theorem frz_plain {v : V} (h : Yn v = true) : frz v = v:=by cases v <;> first | rfl | (cases h; done)
theorem frzL_plain : ∀ {l : List V},(∀ v ∈ l,Yn v = true)→Qw l = l
 | [],_ => rfl
 | v :: l,h => by rw [Qw,frz_plain (h v (by simp)),frzL_plain fun x hx => h x (by simp [hx])]
theorem frzE_plain : ∀ {l : List (List V)},(∀ e ∈ l,∀ v ∈ e,Yn v = true)→Jj l = l
 | [],_ => rfl
 | v :: l,h => by rw [Jj,frzL_plain (h v (by simp)),frzE_plain fun x hx => h x (by simp [hx])]
theorem frzL_length : ∀ l,(Qw l).length = l.length
 | [] => rfl
 | v :: l => by simp [Qw,frzL_length l]
theorem frzL_append : ∀ a b,Qw (a ++ b) = Qw a ++ Qw b
 | [],b => rfl
 | v :: a,b => by simp [Qw,frzL_append a b]
theorem frzE_spec : ∀ l,(Jj l).length = l.length∧(Jj l).flatten = Qw l.flatten∧∀ n,(∀ e ∈ l,e.length = n)→∀ e ∈ Jj l,e.length = n
 | [] => ⟨rfl,rfl,fun _ _ e he => by cases he⟩
 | x :: l => by
  obtain ⟨h1,h2,h3⟩:=frzE_spec l
  refine ⟨by simp [Jj,h1],by simp [Jj,h2,frzL_append],fun n hn e he => ?_⟩
  simp only [Jj,List.mem_cons] at he
  rcases he with rfl | he
  ·rw [frzL_length]; exact hn x (by simp)
  ·exact h3 n (fun e he => hn e (by simp [he])) e he
mutual
theorem frz_frz : ∀ v : V,frz (frz v) = frz v
 | .own n es => rfl
 | .agg cs => by simp only [frz]; rw [frzL_frzL cs]
 | .tup cs => by simp only [frz]; rw [frzL_frzL cs]
 | .i _ _ => rfl
 | .b _ => rfl
 | .f _ _ => rfl
 | .str _ => rfl
 | .s _ => rfl
 | .nil => rfl
 | .sl _ _ => rfl
 | .ref _ _ _ => rfl
 | .refc _ _ _ _ _ => rfl
 | .ptr _ _ _ => rfl
 | .cptr _ _ => rfl
 | .err => rfl
 | .any => rfl
theorem frzL_frzL : ∀ l : List V,Qw (Qw l) = Qw l
 | [] => rfl
 | v :: l => by simp only [Qw]; rw [frz_frz v,frzL_frzL l]
end
theorem Kk {w : World} {b off : Nat} {c : Array Value} {e : TypeId} {fr : Nat × Nat} {u : Value} (hb : w.heap[b]? = some (.cells c e fr)) (hc : c[off]? = some u) : w.cell? ⟨b,off,none⟩ = some u:=by
 simp [World.cell?,hb,hc]
section
variable {w : World} {O : Nat→Prop}
mutual
theorem RV.frz : ∀ {v : V} {u : Value} {F : List Nat} {φ : Pl},RV w v u F→(∀ k ∈ F,¬ O k)→S w O φ (VL.frz v) u
 | _,_,_,_,.pl hp h,_ => by rw [frz_plain hp]; exact h.plain hp
 | _,_,_,_,.own0,_ => S.sl (es:=[]) (len:=0) (cap:=0) (fun _ h => by cases h) rfl (Nat.le_refl _) .nil
 | _,_,_,_,.ownnil,_ => S.slnil
 | _,_,_,_,.own (n:=n) (es:=es) (b:=b) hn hl hc hb hr hs,hF => by
  obtain ⟨h1,h2,h3⟩:=frzE_spec es
  refine .sl (h3 n hn) (by rw [h1]; exact hl) hc ?_
  rw [h2]
  exact Rs.frz hs hb (fun k hk => hF k (by simp [hk])) (hF b (by simp))
 | _,_,_,_,.agg h,hF => .agg (Rl.frz h hF)
 | _,_,_,_,.tup h,hF => .tup (Rl.frz h hF)
 | _,_,_,_,.fz h e,hF => by
  subst e
  rw [frz_frz]
  exact RV.frz h hF
theorem Rs.frz : ∀ {c : Array Value} {off : Nat} {vs : List V} {F : List Nat} {φ : Pl} {b : Nat} {e : TypeId},Rs w c off vs F→w.heap[b]? = some (.cells c e (0,0))→(∀ k ∈ F,¬ O k)→¬ O b→Ss w O φ b off (Qw vs)
 | _,_,_,_,_,_,_,.nil,_,_,_ => .nil
 | _,_,_,_,_,_,_,.cons hc h1 hv hs,hb,hF,hO => .cons hO (Kk hb hc) (RV.frz hv fun k hk => hF k (by simp [hk])) (Rs.frz hs hb (fun k hk => hF k (by simp [hk])) hO)
theorem Rl.frz : ∀ {vs : List V} {us : List Value} {F : List Nat} {φ : Pl},Rl w vs us F→(∀ k ∈ F,¬ O k)→Sl w O φ (Qw vs) us
 | _,_,_,_,.nil,_ => .nil
 | _,_,_,_,.cons hv hs,hF => .cons (RV.frz hv fun k hk => hF k (by simp [hk])) (Rl.frz hs fun k hk => hF k (by simp [hk]))
end
end
section
variable {w : World}
theorem RV.pinv {v : V} {u : Value} {F : List Nat} (h : RV w v u F) (hp : Yn v = true) : S w (fun _ => False) Wi v u:=by
 have:=h.frz (O:=fun _ => False) (φ:=Wi) fun _ _ h => h
 rwa [frz_plain hp] at this
theorem RV.pF : ∀ {v : V} {u : Value} {F : List Nat},RV w v u F→Yn v = true→F = []
 | _,_,_,.pl _ _,_ => rfl
 | _,_,_,.own0,_ => rfl
 | _,_,_,.ownnil,_ => rfl
 | _,_,_,.own _ _ _ _ _ _,hp => by cases hp
 | _,_,_,.agg _,hp => by cases hp
 | _,_,_,.tup _,hp => by cases hp
 | _,_,_,.fz (v:=v) h e,hp => by
  subst e
  exact RV.pF h (by cases v <;> first | exact hp | (cases hp; done))
theorem frz_agg {v : V} {cs : List V} (h : .agg cs = frz v) : ∃ cs0,v = .agg cs0∧cs = Qw cs0:=by
 cases v <;> simp [frz] at h
 exact ⟨_,rfl,h⟩
theorem frz_tup {v : V} {cs : List V} (h : .tup cs = frz v) : ∃ cs0,v = .tup cs0∧cs = Qw cs0:=by
 cases v <;> simp [frz] at h
 exact ⟨_,rfl,h⟩
theorem Rl.fz : ∀ {vs : List V} {us : List Value} {F : List Nat},Rl w vs us F→Rl w (Qw vs) us F
 | _,_,_,.nil => .nil
 | _,_,_,.cons hv hs => .cons (.fz hv rfl) (Rl.fz hs)
theorem RV.agg_inv : ∀ {v : V} {u : Value} {F : List Nat},RV w v u F→∀ cs,v = .agg cs→∃ us : List Value,u = .agg us.toArray∧Rl w cs us F
 | _,_,_,.pl hp _,cs,e => by subst e; cases hp
 | _,_,_,.own0,cs,e => by cases e
 | _,_,_,.ownnil,cs,e => by cases e
 | _,_,_,.own _ _ _ _ _ _,cs,e => by cases e
 | _,_,_,.agg h,cs,e => by cases e; exact ⟨_,rfl,h⟩
 | _,_,_,.tup _,cs,e => by cases e
 | _,_,_,.fz h e',cs,e => by
  subst e
  obtain ⟨cs0,e1,e2⟩:=frz_agg e'
  obtain ⟨us,h1,h2⟩:=RV.agg_inv h cs0 e1
  subst e2
  exact ⟨us,h1,h2.fz⟩
theorem RV.tup_inv : ∀ {v : V} {u : Value} {F : List Nat},RV w v u F→∀ cs,v = .tup cs→∃ us : List Value,u = .tuple us.toArray∧Rl w cs us F
 | _,_,_,.pl hp _,cs,e => by subst e; cases hp
 | _,_,_,.own0,cs,e => by cases e
 | _,_,_,.ownnil,cs,e => by cases e
 | _,_,_,.own _ _ _ _ _ _,cs,e => by cases e
 | _,_,_,.agg _,cs,e => by cases e
 | _,_,_,.tup h,cs,e => by cases e; exact ⟨_,rfl,h⟩
 | _,_,_,.fz h e',cs,e => by
  subst e
  obtain ⟨cs0,e1,e2⟩:=frz_tup e'
  obtain ⟨us,h1,h2⟩:=RV.tup_inv h cs0 e1
  subst e2
  exact ⟨us,h1,h2.fz⟩
theorem frz_own {v : V} {n : Nat} {es : List (List V)} (h : .own n es = frz v) : False:=by cases v <;> simp [frz] at h
end
mutual
inductive Ex : Nat→V→V→VM→Prop
 | pl {k : Nat} {v : V} (hp : Yn v = true) : Ex k v v []
 | own {k n : Nat} {es : List (List V)} : Ex k (.own n es) (.ref k 0 es.length) [some (n,Jj es)]
 | kept {k n : Nat} {es : List (List V)} (hp : ∀ l ∈ es,∀ v ∈ l,Yn v = true∨∃ n' es',v = .own n' es') : Ex k (.own n es) (.ref k 0 es.length) [some (n,es)]
 | fz {k : Nat} {v : V} : Ex k v (frz v) []
 | agg {k : Nat} {cs cs' : List V} {l : VM} (h : ExL k cs cs' l) : Ex k (.agg cs) (.agg cs') l
 | tup {k : Nat} {cs cs' : List V} {l : VM} (h : ExL k cs cs' l) : Ex k (.tup cs) (.tup cs') l
inductive ExL : Nat→List V→List V→VM→Prop
 | nil {k : Nat} : ExL k [] [] []
 | cons {k : Nat} {v v' : V} {vs vs' : List V} {l l' : VM} (h : Ex k v v' l) (hs : ExL (k + l.length) vs vs' l') : ExL k (v :: vs) (v' :: vs') (l ++ l')
end
abbrev Places:=List (Option (Nat × Nat × Nat))
def Fits (w : World) (O : Nat→Prop) (φ : Pl) (k : Nat) (l : VM) (pl : Places) : Prop :=
 ∀ (i n : Nat) (es : List (List V)) (p : Nat × Nat × Nat),l[i]? = some (some (n,es))→pl[i]? = some (some p)→p.2.2 = n∧(∀ e ∈ es,e.length = n) ∧
  ∃ c e,w.heap[p.1]? = some (.cells c e (0,0))∧p.2.1 + es.length * n≤c.size∧∀ (i : Nat) (v : V),es.flatten[i]? = some v→∃ u,c[p.2.1 + i]? = some u∧u.oneCell' = true∧S w O φ v u
def Ym (pl : Places) : List Nat:=pl.filterMap fun p => p.map (·.1)
theorem Rs.get {w : World} {O : Nat→Prop} {φ : Pl} : ∀ {c : Array Value} {off : Nat} {vs : List V} {F : List Nat},Rs w c off vs F→(∀ k ∈ F,¬ O k)→∀ {i : Nat} {v : V},(Qw vs)[i]? = some v→∃ u,c[off + i]? = some u∧u.oneCell' = true∧S w O φ v u
 | _,_,_,_,.nil,_,i,v,h => by simp [Qw] at h
 | _,_,_,_,.cons hc h1 hv hs,hF,0,v,h => by
  simp [Qw] at h; subst h
  exact ⟨_,hc,h1,hv.frz fun k hk => hF k (by simp [hk])⟩
 | _,_,_,_,.cons hc h1 hv hs,hF,i + 1,v,h => by
  simp [Qw] at h
  obtain ⟨u,a1,a2⟩:=Rs.get hs (fun k hk => hF k (by simp [hk])) h
  exact ⟨u,by rw [← a1]; congr 1; omega,a2⟩
section
variable {w : World}
theorem RV.keptS {O : Nat→Prop} {φ : Pl} {v : V} {u : Value} {F : List Nat} (h : RV w v u F) (hp : Yn v = true∨∃ n' es',v = .own n' es') (hF : ∀ k ∈ F,¬ O k) : S w O φ v u:=by
 rcases hp with hp | ⟨n,es,rfl⟩
 ·exact (h.pinv hp).plain hp
 ·exact .own (h.frz (φ:=Wi) hF)
theorem Rs.keptGet {O : Nat→Prop} {φ : Pl} : ∀ {c : Array Value} {off : Nat} {vs : List V} {F : List Nat},Rs w c off vs F→(∀ v ∈ vs,Yn v = true∨∃ n' es',v = .own n' es')→(∀ k ∈ F,¬ O k)→∀ {i : Nat} {v : V},vs[i]? = some v→∃ u,c[off + i]? = some u∧u.oneCell' = true∧S w O φ v u
 | _,_,_,_,.nil,_,_,i,v,h => by simp at h
 | _,_,_,_,.cons hc h1 hv hs,hp,hF,0,v,h => by
  simp at h; subst h
  exact ⟨_,hc,h1,hv.keptS (hp _ (by simp)) fun k hk => hF k (by simp [hk])⟩
 | _,_,_,_,.cons hc h1 hv hs,hp,hF,i + 1,v,h => by
  simp at h
  obtain ⟨u,a1,a2⟩:=Rs.keptGet hs (fun v hv => hp v (by simp [hv])) (fun k hk => hF k (by simp [hk])) h
  exact ⟨u,by rw [← a1]; congr 1; omega,a2⟩
open Classical in
theorem Rs.owns : ∀ {c : Array Value} {off : Nat} {vs : List V} {F : List Nat},Rs w c off vs F→F.Nodup→∃ χ : Nat→Option Nat,∀ (i n' : Nat) (es' : List (List V)),vs[i]? = some (.own n' es') →
  ∃ u Fi,c[off + i]? = some u∧RV w (.own n' es') u Fi∧Fi.Nodup∧∀ q ∈ Fi,q ∈ F∧χ q = some i
 | _,_,_,_,.nil,_ => ⟨fun _ => none,fun i n' es' h => by simp at h⟩
 | _,off,_,_,.cons (F:=F) (G:=G) hc h1 hv hs,hnd => by
  obtain ⟨hF,hG,hdis⟩:=List.nodup_append.1 hnd
  obtain ⟨χ,hχ⟩:=Rs.owns hs hG
  refine ⟨fun q => if q ∈ F then some 0 else (χ q).map (· + 1),fun i n' es' h => ?_⟩
  cases i with
  | zero =>
   simp at h
   subst h
   exact ⟨_,F,hc,hv,hF,fun q hq => ⟨by simp [hq],by simp [hq]⟩⟩
  | succ i =>
   simp at h
   obtain ⟨u,Fi,a1,a2,a3,a4⟩:=hχ i n' es' h
   refine ⟨u,Fi,by rw [← a1]; congr 1; omega,a2,a3,fun q hq => ?_⟩
   obtain ⟨b1,b2⟩:=a4 q hq
   have : ¬ q ∈ F:=fun h => hdis q h q b1 rfl
   exact ⟨by simp [b1],by simp [this,b2]⟩
def Owns (w : World) (k : Nat) (l : VM) (pl : Places) (F : List Nat) (χ : Nat→Option (Nat × Nat)) : Prop :=
 ∀ (x n : Nat) (es : List (List V)) (p : Nat × Nat × Nat) (i n' : Nat) (es' : List (List V)),l[x]? = some (some (n,es))→pl[x]? = some (some p)→es.flatten[i]? = some (.own n' es') →
  ∃ u Fi,w.cell? ⟨p.1,p.2.1 + i,none⟩ = some u∧RV w (.own n' es') u Fi∧Fi.Nodup∧∀ q ∈ Fi,χ q = some (k + x,i)∧q ∈ F∧q ∉ Ym pl
end
theorem frz_noOwn (v : V) (n : Nat) (es : List (List V)) : frz v ≠ .own n es:=by cases v <;> simp [frz]
theorem frzL_noOwn : ∀ (l : List V) (v : V),v ∈ Qw l→∀ n es,v ≠ .own n es
 | [],v,h => by simp [Qw] at h
 | x :: l,v,h => by
  simp only [Qw,List.mem_cons] at h
  rcases h with rfl | h
  ·exact frz_noOwn x
  ·exact frzL_noOwn l v h
section
variable {w : World}
mutual
theorem Ex.place : ∀ {k : Nat} {v v' : V} {l : VM} {u : Value} {F : List Nat},Ex k v v' l→RV w v u F→F.Nodup →
  ∃ (pl : Places) (χ : Nat→Option (Nat × Nat)),pl.length = l.length∧(Ym pl).Nodup∧(∀ b ∈ Ym pl,b ∈ F∧b < w.heap.size)∧Owns w k l pl F χ ∧
   ∀ (O : Nat→Prop) (φ : Pl),(∀ i p,pl[i]? = some (some p)→φ (k + i) = some p)→(∀ b ∈ F,O b→b ∈ Ym pl)→S w O φ v' u∧Fits w O φ k l pl
 | _,_,_,_,_,_,.pl hp,hr,_ => by
  refine ⟨[],fun _ => none,rfl,.nil,by simp [Ym],fun x n es p i n' es' h => by simp at h,fun O φ _ _ => ⟨?_,fun i n es p hi => by simp at hi⟩⟩
  exact (hr.pinv hp).plain hp
 | k,_,_,_,_,_,.own,hr,hnd => by
  cases hr with
  | pl hp _ => cases hp
  | fz _ e => exact (frz_own e).elim
  | own0 =>
   refine ⟨[none],fun _ => none,rfl,by simp [Ym],by simp [Ym],fun x n es p i n' es' _ h => by (rcases x with _ | x <;> simp at h),fun O φ _ _ => ⟨.ref0,fun i n es p hi hp => ?_⟩⟩
   rcases i with _ | i
   ·simp at hp
   ·simp at hi
  | ownnil =>
   refine ⟨[none],fun _ => none,rfl,by simp [Ym],by simp [Ym],fun x n es p i n' es' _ h => by (rcases x with _ | x <;> simp at h),fun O φ _ _ => ⟨.refnil,fun i n es p hi hp => ?_⟩⟩
   rcases i with _ | i
   ·simp at hp
   ·simp at hi
  | own hn hl hc hb hr hs =>
   rename_i n es len b off cap c e F
   obtain ⟨h1,h2,h3⟩:=frzE_spec es
   refine ⟨[some (b,off,n)],fun _ => none,rfl,by simp [Ym],fun b' hb' => ?_,fun x n1 es1 p i n' es' hx _ hi => ?_,fun O φ hφ hO => ⟨?_,fun i n' es' p hi hp => ?_⟩⟩
   ·simp [Ym] at hb'
    subst hb'
    exact ⟨by simp,(Array.getElem?_eq_some_iff.1 hb).1⟩
   ·rcases x with _ | x
    ·simp at hx
     obtain ⟨rfl,rfl⟩:=hx
     rw [h2] at hi
     exact absurd rfl (frzL_noOwn _ _ (List.mem_of_getElem? hi) _ _)
    ·simp at hx
   ·have:=hφ 0 _ rfl
    rw [Nat.add_zero] at this
    rw [hl]
    refine .ref' this hc ⟨c,e,_,hb,?_⟩ (by simp)
    rw [Nat.zero_add]; exact hr
   ·rcases i with _ | i
    ·simp at hi hp
     obtain ⟨rfl,rfl⟩:=hi
     subst hp
     refine ⟨rfl,h3 _ hn,c,e,hb,?_,fun i v hi => ?_⟩
     ·rw [h1,hl]
      have:=Nat.mul_le_mul_right n hc
      dsimp only
      omega
     ·rw [h2] at hi
      refine Rs.get hs (fun k hk hOk => ?_) hi
      have:=hO k (by simp [hk]) hOk
      simp [Ym] at this
      subst this
      simp at hnd
      exact hnd.1 hk
    ·simp at hi
 | k,_,_,_,_,_,.kept hkp,hr,hnd => by
  cases hr with
  | pl hp _ => cases hp
  | fz _ e => exact (frz_own e).elim
  | own0 =>
   refine ⟨[none],fun _ => none,rfl,by simp [Ym],by simp [Ym],fun x n es p i n' es' _ h => by (rcases x with _ | x <;> simp at h),fun O φ _ _ => ⟨.ref0,fun i n es p hi hp => ?_⟩⟩
   rcases i with _ | i
   ·simp at hp
   ·simp at hi
  | ownnil =>
   refine ⟨[none],fun _ => none,rfl,by simp [Ym],by simp [Ym],fun x n es p i n' es' _ h => by (rcases x with _ | x <;> simp at h),fun O φ _ _ => ⟨.refnil,fun i n es p hi hp => ?_⟩⟩
   rcases i with _ | i
   ·simp at hp
   ·simp at hi
  | own hn hl hc hb hr hs =>
   rename_i n es len b off cap c e F
   obtain ⟨χ,hχ⟩:=Rs.owns hs (List.nodup_cons.1 hnd).2
   have hkp' : ∀ v ∈ es.flatten,Yn v = true∨∃ n' es',v = .own n' es':=fun v hv => by
    obtain ⟨l,l1,l2⟩:=List.mem_flatten.1 hv
    exact hkp l l1 v l2
   refine ⟨[some (b,off,n)],fun q => (χ q).map fun i => (k,i),rfl,by simp [Ym],fun b' hb' => ?_,fun x n1 es1 p i n' es' hx hpx hi => ?_,fun O φ hφ hO => ⟨?_,fun i n' es' p hi hp => ?_⟩⟩
   ·simp [Ym] at hb'
    subst hb'
    exact ⟨by simp,(Array.getElem?_eq_some_iff.1 hb).1⟩
   ·rcases x with _ | x
    ·simp at hx hpx
     obtain ⟨rfl,rfl⟩:=hx
     subst hpx
     obtain ⟨u,Fi,a1,a2,a3,a4⟩:=hχ i n' es' hi
     refine ⟨u,Fi,Kk hb a1,a2,a3,fun q hq => ?_⟩
     obtain ⟨b1,b2⟩:=a4 q hq
     refine ⟨by simp [b2],by simp [b1],?_⟩
     simp only [Ym,List.filterMap_cons,Option.map_some,List.filterMap_nil,List.mem_singleton]
     intro he
     subst he
     exact (List.nodup_cons.1 hnd).1 b1
    ·simp at hx
   ·have:=hφ 0 _ rfl
    rw [Nat.add_zero] at this
    rw [hl]
    refine .ref' this hc ⟨c,e,_,hb,?_⟩ (by simp)
    rw [Nat.zero_add]; exact hr
   ·rcases i with _ | i
    ·simp at hi hp
     obtain ⟨rfl,rfl⟩:=hi
     subst hp
     refine ⟨rfl,hn,c,e,hb,?_,fun i v hi => ?_⟩
     ·rw [hl]
      have:=Nat.mul_le_mul_right n hc
      dsimp only
      omega
     ·refine Rs.keptGet hs hkp' (fun k hk hOk => ?_) hi
      have:=hO k (by simp [hk]) hOk
      simp [Ym] at this
      subst this
      simp at hnd
      exact hnd.1 hk
    ·simp at hi
 | _,_,_,_,_,_,.fz,hr,_ => by
  refine ⟨[],fun _ => none,rfl,.nil,by simp [Ym],fun x n es p i n' es' h => by simp at h,fun O φ _ hO => ⟨hr.frz fun k hk hOk => ?_,fun i n es p hi => by simp at hi⟩⟩
  have:=hO k hk hOk
  simp [Ym] at this
 | _,_,_,_,_,_,.agg h,hr,hnd => by
  obtain ⟨us,rfl,hs⟩:=RV.agg_inv hr _ rfl
  ·obtain ⟨pl,χ,h1,h2,h3,h5,h4⟩:=ExL.place h hs hnd
   exact ⟨pl,χ,h1,h2,h3,h5,fun O φ a b => ⟨.agg (h4 O φ a b).1,(h4 O φ a b).2⟩⟩
 | _,_,_,_,_,_,.tup h,hr,hnd => by
  obtain ⟨us,rfl,hs⟩:=RV.tup_inv hr _ rfl
  ·obtain ⟨pl,χ,h1,h2,h3,h5,h4⟩:=ExL.place h hs hnd
   exact ⟨pl,χ,h1,h2,h3,h5,fun O φ a b => ⟨.tup (h4 O φ a b).1,(h4 O φ a b).2⟩⟩
theorem ExL.place : ∀ {k : Nat} {vs vs' : List V} {l : VM} {us : List Value} {F : List Nat},ExL k vs vs' l→Rl w vs us F→F.Nodup →
  ∃ (pl : Places) (χ : Nat→Option (Nat × Nat)),pl.length = l.length∧(Ym pl).Nodup∧(∀ b ∈ Ym pl,b ∈ F∧b < w.heap.size)∧Owns w k l pl F χ ∧
   ∀ (O : Nat→Prop) (φ : Pl),(∀ i p,pl[i]? = some (some p)→φ (k + i) = some p)→(∀ b ∈ F,O b→b ∈ Ym pl)→Sl w O φ vs' us∧Fits w O φ k l pl
 | _,_,_,_,_,_,.nil,.nil,_ => by
  exact ⟨[],fun _ => none,rfl,.nil,by simp [Ym],fun x n es p i n' es' h => by simp at h,fun O φ _ _ => ⟨.nil,fun i n es p hi => by simp at hi⟩⟩
 | k,_,_,_,_,_,.cons (l:=l) (l':=l') h hs,.cons (F:=F) (G:=G) hv hvs,hnd => by
  obtain ⟨hF,hG,hdis⟩:=List.nodup_append.1 hnd
  obtain ⟨pl,χ,h1,h2,h3,h5,h4⟩:=Ex.place h hv hF
  obtain ⟨pl',χ',g1,g2,g3,g5,g4⟩:=ExL.place hs hvs hG
  have hbl : Ym (pl ++ pl') = Ym pl ++ Ym pl':=by simp [Ym]
  refine ⟨pl ++ pl',fun q => if F.contains q then χ q else χ' q,by simp [h1,g1],?_,fun b hb => ?_,fun x n es p i n' es' hx hp hi => ?_,fun O φ hφ hO => ?_⟩
  ·rw [hbl]
   exact List.nodup_append.2 ⟨h2,g2,fun a ha b hb => hdis a (h3 a ha).1 b (g3 b hb).1⟩
  ·rw [hbl,List.mem_append] at hb
   rcases hb with hb | hb
   ·exact ⟨by simp [(h3 b hb).1],(h3 b hb).2⟩
   ·exact ⟨by simp [(g3 b hb).1],(g3 b hb).2⟩
  ·by_cases hlt : x < l.length
   ·rw [List.getElem?_append_left hlt] at hx
    rw [List.getElem?_append_left (by omega)] at hp
    obtain ⟨u,Fi,a1,a2,a3,a4⟩:=h5 x n es p i n' es' hx hp hi
    refine ⟨u,Fi,a1,a2,a3,fun q hq => ?_⟩
    obtain ⟨b1,b2,b3⟩:=a4 q hq
    refine ⟨by simp [b2,b1],by simp [b2],?_⟩
    rw [hbl,List.mem_append]
    rintro (h | h)
    ·exact b3 h
    ·exact hdis q b2 q (g3 q h).1 rfl
   ·rw [List.getElem?_append_right (by omega)] at hx
    rw [List.getElem?_append_right (by omega),h1] at hp
    obtain ⟨u,Fi,a1,a2,a3,a4⟩:=g5 _ n es p i n' es' hx hp hi
    refine ⟨u,Fi,a1,a2,a3,fun q hq => ?_⟩
    obtain ⟨b1,b2,b3⟩:=a4 q hq
    have hnq : ¬ q ∈ F:=fun h => hdis q h q b2 rfl
    refine ⟨?_,by simp [b2],?_⟩
    ·have : F.contains q = false:=by simpa using hnq
     simp only [this,Bool.false_eq_true,if_false]
     rw [b1]
     congr 2
     omega
    ·rw [hbl,List.mem_append]
     rintro (h | h)
     ·exact hnq (h3 q h).1
     ·exact b3 h
  ·have a1:=h4 O φ (fun i p hp => hφ i p (by
    have hlt : i < pl.length:=(List.getElem?_eq_some_iff.1 hp).1
    rw [List.getElem?_append_left hlt]; exact hp)) (fun b hb hOb => by
    have:=hO b (by simp [hb]) hOb
    rw [hbl,List.mem_append] at this
    rcases this with h | h
    ·exact h
    ·exact absurd rfl (hdis b hb b (g3 b h).1))
   have a2:=g4 O φ (fun i p hp => by
    have:=hφ (l.length + i) p (by rw [← h1,List.getElem?_append_right (by omega)]; rw [show pl.length + i - pl.length = i by omega]; exact hp)
    rwa [show k + (l.length + i) = k + l.length + i by omega] at this) (fun b hb hOb => by
    have:=hO b (by simp [hb]) hOb
    rw [hbl,List.mem_append] at this
    rcases this with h | h
    ·exact absurd rfl (hdis b (h3 b h).1 b hb)
    ·exact h)
   refine ⟨.cons a1.1 a2.1,fun i n es p hi hp => ?_⟩
   by_cases hlt : i < l.length
   ·rw [List.getElem?_append_left hlt] at hi
    rw [List.getElem?_append_left (by omega)] at hp
    exact a1.2 i n es p hi hp
   ·rw [List.getElem?_append_right (by omega)] at hi
    rw [List.getElem?_append_right (by omega),h1] at hp
    exact a2.2 _ n es p hi hp
end
end
end Go.VL

namespace Go.VL
open Go.RowKit
set_option linter.unusedSimpArgs false
set_option linter.unusedVariables false
def Qk (P : Program) (f : FuncId) (args : List V) (Q : V→Prop) : Prop :=
 ∀ (w : World) (us : List Value),Glob P w→Sl w (fun _ => False) Wi args us →
  Calls P f us.toArray w fun e w' => ∃ r u F,e = .returned u∧Q r∧RV w' r u F∧F.Nodup∧(∀ k ∈ F,w.heap.size≤k∧k < w'.heap.size)∧Below w.heap.size w w'
theorem Qk.mono {P : Program} {f : FuncId} {args : List V} {Q Q' : V→Prop} (h : Qk P f args Q) (hq : ∀ r,Q r→Q' r) : Qk P f args Q' :=
 fun w us hg hs => (h w us hg hs).mono fun e w' ⟨r,u,F,a,b,c⟩ => ⟨r,u,F,a,hq r b,c⟩
def phi (φ : Pl) (k : Nat) (pl : Places) : Pl:=fun x => if k≤x∧x < k + pl.length then (pl[x - k]?).join else φ x
theorem blocks_inj : ∀ {pl : Places} {i j : Nat} {p q : Nat × Nat × Nat},(Ym pl).Nodup→pl[i]? = some (some p)→pl[j]? = some (some q)→p.1 = q.1→i = j
 | [],i,j,p,q,_,h,_,_ => by simp at h
 | x :: pl,i,j,p,q,hnd,hi,hj,e => by
  have hmem : ∀ {l : Places} {a : Nat} {r : Nat × Nat × Nat},l[a]? = some (some r)→r.1 ∈ Ym l:=fun {l a r} h => by
   simp only [Ym,List.mem_filterMap]
   exact ⟨some r,List.mem_of_getElem? h,rfl⟩
  have hnd' : (Ym pl).Nodup:=by
   cases x with
   | none => simpa [Ym] using hnd
   | some y => simp [Ym] at hnd; simpa [Ym] using hnd.2
  rcases i with _ | i <;> rcases j with _ | j
  ·rfl
  ·simp at hi hj
   subst hi
   have:=hmem hj
   rw [← e] at this
   simp only [Ym,List.filterMap_cons,Option.map_some,List.nodup_cons] at hnd
   exact absurd this hnd.1
  ·simp at hi hj
   subst hj
   have:=hmem hi
   rw [e] at this
   simp only [Ym,List.filterMap_cons,Option.map_some,List.nodup_cons] at hnd
   exact absurd this hnd.1
  ·simp at hi hj
   rw [blocks_inj hnd' hi hj e]
theorem Mem.result {N : Fr} {w w' : World} {φ : Pl} {m : VM} (h : Mem N w φ m) (hN : N.bd w) (hb : Below w.heap.size w w') {r r' : V} {u : Value} {F : List Nat} {k : Nat} {l : VM} (hr : RV w' r u F) (hnd : F.Nodup)
  (hF : ∀ b ∈ F,w.heap.size≤b∧b < w'.heap.size) (hx : Ex k r r' l) (hl : ∀ i x,l[i]? = some x→m[k + i]? = some x) (hφ : ∀ i,i < l.length→φ (k + i) = none) :
  ∃ φ',S w' (Yf φ' m) φ' r' u∧Mem N w' φ' m∧Ev w (Yf φ m) φ w' (Yf φ' m) φ'∧(∀ b p,φ' b = some p→φ b = some p∨(k≤b∧b < k + l.length)):=by
 obtain ⟨pl,χ,h1,h2,h3,hown,h4⟩:=Ex.place hx hr hnd
 have hin : ∀ i p,pl[i]? = some (some p)→phi φ k pl (k + i) = some p:=fun i p hp => by
  have hlt : i < pl.length:=(List.getElem?_eq_some_iff.1 hp).1
  unfold phi
  rw [if_pos ⟨by omega,by omega⟩,show k + i - k = i by omega,hp]
  rfl
 have hcase : ∀ b p,phi φ k pl b = some p→(∃ i,b = k + i∧pl[i]? = some (some p))∨(φ b = some p∧¬ (k≤b∧b < k + pl.length)):=fun b p hp => by
  unfold phi at hp
  split at hp
  ·rename_i hlt
   left
   refine ⟨b - k,by omega,?_⟩
   cases hg : pl[b - k]? with
   | none => simp [hg] at hp
   | some y =>
    cases y with
    | none => simp [hg] at hp
    | some y => simp [hg] at hp; rw [hp]
  ·rename_i hlt
   exact .inr ⟨hp,hlt⟩
 have hmemb : ∀ i (p : Nat × Nat × Nat),pl[i]? = some (some p)→p.1 ∈ Ym pl:=fun i p hp => by
  simp only [Ym,List.mem_filterMap]
  exact ⟨some p,List.mem_of_getElem? hp,rfl⟩
 have hplace : ∀ b p,φ b = some p→phi φ k pl b = some p:=fun b p hp => by
  unfold phi
  split
  ·rename_i hlt
   have:=hφ (b - k) (by omega)
   rw [show k + (b - k) = b by omega,hp] at this
   cases this
  ·exact hp
 have hev : Ev w (Yf φ m) φ w' (Yf (phi φ k pl) m) (phi φ k pl):=by
  refine ⟨fun q hq ho => ⟨hb.block q hq,fun ⟨b,x,po,n,hbm,hp⟩ => ?_⟩,hplace,fun q n ⟨c,e,fr,a1,a2⟩ => ⟨c,e,fr,by rw [hb.block q (Array.getElem?_eq_some_iff.1 a1).1]; exact a1,a2⟩⟩
  rcases hcase _ _ hp with ⟨i,rfl,hi⟩ | ⟨hp',_⟩
  ·have:=(hF _ (h3 _ (hmemb i _ hi)).1).1
   simp only at this
   omega
  ·exact ho ⟨b,x,po,n,hbm,hp'⟩
 have hO : ∀ b ∈ F,Yf (phi φ k pl) m b→b ∈ Ym pl:=fun b hbF ⟨b',x,po,n,hbm,hp⟩ => by
  rcases hcase _ _ hp with ⟨i,rfl,hi⟩ | ⟨hp',_⟩
  ·exact hmemb i _ hi
  ·have a1:=(h.new b' b po n hp').2
   have a2:=(hF b hbF).1
   omega
 obtain ⟨hS,hfit⟩:=h4 (Yf (phi φ k pl) m) (phi φ k pl) hin hO
 refine ⟨phi φ k pl,hS,⟨fun b n es p hbm hp => ?_,fun b q po n hp => ?_,fun b p hp => ?_,fun b b' q po po' n n' hp hp' => ?_,?_⟩,hev,fun b p hp => ?_⟩
 ·rcases hcase _ _ hp with ⟨i,rfl,hi⟩ | ⟨hp',_⟩
  ·have hlt : i < l.length:=by rw [← h1]; exact (List.getElem?_eq_some_iff.1 hi).1
   have hli : l[i]? = some (some (n,es)):=by
    have:=hl i l[i] (by simp [hlt])
    rw [hbm] at this
    rw [List.getElem?_eq_getElem hlt,← this]
   obtain ⟨a1,a2,c,e,a3,a4,a5⟩:=hfit i n es p hli hi
   obtain ⟨p1,p2,p3⟩:=p
   simp only at a1
   subst a1
   exact ⟨a2,p1,p2,c,e,hp,a3,a4,a5⟩
  ·obtain ⟨hln,pb,po,c,e,hpφ,hpb,hle,hcell⟩:=h.at_ b n es p hbm hp'
   exact ⟨hln,pb,po,c,e,hplace _ _ hpφ,by rw [hb.block pb (h.new b pb po n hpφ).2]; exact hpb,hle,fun i v hi => by
    obtain ⟨u,a1,a2,a3⟩:=hcell i v hi
    exact ⟨u,a1,a2,a3.ev hev⟩⟩
 ·rcases hcase _ _ hp with ⟨i,rfl,hi⟩ | ⟨hp',_⟩
  ·have:=hF _ (h3 _ (hmemb i _ hi)).1
   simp only at this
   exact ⟨fun hk => by have:=hN _ hk; omega,this.2⟩
  ·have:=h.new b q po n hp'
   exact ⟨this.1,Nat.lt_of_lt_of_le this.2 hb.size⟩
 ·rcases hcase _ _ hp with ⟨i,rfl,hi⟩ | ⟨hp',_⟩
  ·have hlt : i < l.length:=by rw [← h1]; exact (List.getElem?_eq_some_iff.1 hi).1
   have:=hl i l[i] (by simp [hlt])
   exact (List.getElem?_eq_some_iff.1 this).1
  ·exact h.dom b p hp'
 ·rcases hcase _ _ hp with ⟨i,rfl,hi⟩ | ⟨hq,_⟩ <;> rcases hcase _ _ hp' with ⟨j,rfl,hj⟩ | ⟨hq',_⟩
  ·rw [blocks_inj h2 hi hj rfl]
  ·have a1:=(hF _ (h3 _ (hmemb i _ hi)).1).1
   have a2:=(h.new b' q po' n' hq').2
   simp only at a1
   omega
  ·have a1:=(hF _ (h3 _ (hmemb j _ hj)).1).1
   have a2:=(h.new b q po n hq).2
   simp only at a1
   omega
  ·exact h.inj b b' q po po' n n' hq hq'
 ·obtain ⟨ψ,hψ⟩:=h.own
  refine ⟨fun q => if F.contains q then χ q else ψ q,fun b n es pb po bn i n' es' h5 h6 h7 => ?_⟩
  rcases hcase _ _ h6 with ⟨x,rfl,hi⟩ | ⟨hp',_⟩
  ·have hlt : x < l.length:=by rw [← h1]; exact (List.getElem?_eq_some_iff.1 hi).1
   have hli : l[x]? = some (some (n,es)):=by
    have:=hl x l[x] (by simp [hlt])
    rw [h5] at this
    rw [List.getElem?_eq_getElem hlt,← this]
   obtain ⟨u,Fi,a1,a2,a3,a4⟩:=hown x n es _ i n' es' hli hi h7
   refine ⟨u,Fi,a1,a2,a3,fun q hq => ?_⟩
   obtain ⟨b1,b2,b3⟩:=a4 q hq
   have c1:=hF q b2
   exact ⟨by simp [b2,b1],fun hk => by have:=hN _ hk; omega,c1.2,fun hL => b3 (hO q b2 hL)⟩
  ·obtain ⟨u,Fi,a1,a2,a3,a4⟩:=hψ b n es pb po bn i n' es' h5 hp' h7
   refine ⟨u,Fi,by rw [cell?_same (hb.block pb (h.new b pb po bn hp').2)]; exact a1,a2.keep fun q hq => hb.block q (a4 q hq).2.2.1,a3,fun q hq => ?_⟩
   obtain ⟨b1,b2,b3,b4⟩:=a4 q hq
   have hnq : F.contains q = false:=by
    rw [Bool.eq_false_iff]
    intro hc
    have:=(hF q (by simpa using hc)).1
    omega
   exact ⟨by simp only [hnq,Bool.false_eq_true,if_false]; exact b1,b2,Nat.lt_of_lt_of_le b3 hb.size,(hev.keep q b3 b4).2⟩
 ·rcases hcase _ _ hp with ⟨i,rfl,hi⟩ | ⟨hq,_⟩
  ·right
   have : i < pl.length:=(List.getElem?_eq_some_iff.1 hi).1
   omega
  ·exact .inl hq
mutual
inductive Re (m : VM) : V→V→Prop
 | pl {v : V} (hp : Yn v = true) : Re m v v
 | sl {n : Nat} {es : List (List V)} : Re m (.sl n es) (.sl n es)
 | cptr {cs : List V} {j : Nat} : Re m (.cptr cs j) (.cptr cs j)
 | any : Re m .any .any
 | own {n : Nat} {es : List (List V)} : Re m (.own n es) (.sl n (Jj es))
 | ref {b e len n : Nat} {es es' : List (List V)} (hb : m[b]? = some (some (n,es))) (hle : e + len≤es.length) (h : ReE m ((es.drop e).take len) es') : Re m (.ref b e len) (.sl n es')
 | ptr {b e j n : Nat} {es : List (List V)} {cs cs' : List V} (hb : m[b]? = some (some (n,es))) (he : es[e]? = some cs) (h : ReL m cs cs') : Re m (.ptr b e j) (.cptr cs' j)
 | refc {b e j q len n : Nat} {es : List (List V)} {cs cs' : List V} (hb : m[b]? = some (some (n,es))) (he : es[e]? = some cs) (hle : j + len * q≤cs.length) (h : ReL m cs cs') : Re m (.refc b e j q len) (.sl q (Xz q len (cs'.drop j)))
 | agg {cs cs' : List V} (h : ReL m cs cs') : Re m (.agg cs) (.agg cs')
 | cut {v : V} {cs : List V} {j n : Nat} (h : Re m v (.cptr cs j)) : Re m v (.cptr ((cs.drop j).take n) 0)
inductive ReL (m : VM) : List V→List V→Prop
 | nil : ReL m [] []
 | cons {v v' : V} {vs vs' : List V} (h : Re m v v') (hs : ReL m vs vs') : ReL m (v :: vs) (v' :: vs')
inductive ReE (m : VM) : List (List V)→List (List V)→Prop
 | nil : ReE m [] []
 | cons {l l' : List V} {ls ls' : List (List V)} (h : ReL m l l') (hs : ReE m ls ls') : ReE m (l :: ls) (l' :: ls')
end
theorem ReL.length {m : VM} : ∀ {a b : List V},ReL m a b→b.length = a.length
 | _,_,.nil => rfl
 | _,_,.cons _ hs => by simp [hs.length]
theorem ReE.spec {m : VM} : ∀ {a b : List (List V)},ReE m a b→b.length = a.length∧ReL m a.flatten b.flatten∧∀ n,(∀ e ∈ a,e.length = n)→∀ e ∈ b,e.length = n
 | _,_,.nil => ⟨rfl,.nil,fun _ h => h⟩
 | _,_,.cons h hs => by
  obtain ⟨h1,h2,h3⟩:=hs.spec
  have app : ∀ {a b c d : List V},ReL m a b→ReL m c d→ReL m (a ++ c) (b ++ d):=fun {a b c d} h k => by
   induction a generalizing b with
   | nil => cases h; exact k
   | cons x a ih => cases h with | cons h hs => exact .cons h (ih hs)
  refine ⟨by simp [h1],by simpa using app h h2,fun n hn e he => ?_⟩
  simp only [List.mem_cons] at he
  rcases he with rfl | he
  ·rw [h.length]; exact hn _ (by simp)
  ·exact h3 n (fun e he => hn e (by simp [he])) e he
theorem ReL.plain {m : VM} : ∀ {a : List V},(∀ v ∈ a,Yn v = true)→ReL m a a
 | [],_ => .nil
 | v :: a,h => .cons (.pl (h v (by simp))) (ReL.plain fun x hx => h x (by simp [hx]))
theorem ReE.plain {m : VM} : ∀ {a : List (List V)},(∀ e ∈ a,∀ v ∈ e,Yn v = true)→ReE m a a
 | [],_ => .nil
 | v :: a,h => .cons (ReL.plain (h v (by simp))) (ReE.plain fun x hx => h x (by simp [hx]))
section
variable {N : Fr} {w : World} {φ : Pl} {m : VM}
theorem S.free {O : Nat→Prop} {v : V} {u : Value} (h : S w O Wi v u) : S w (fun _ => False) Wi v u:=h.ev ⟨fun _ _ _ => ⟨rfl,id⟩,fun _ _ hb => hb,fun _ _ hr => hr⟩
theorem Ss.free {O : Nat→Prop} {b off : Nat} {vs : List V} (h : Ss w O Wi b off vs) : Ss w (fun _ => False) Wi b off vs:=h.ev ⟨fun _ _ _ => ⟨rfl,id⟩,fun _ _ hb => hb,fun _ _ hr => hr⟩
theorem flat_cells {es : List (List V)} {n : Nat} (hn : ∀ e ∈ es,e.length = n) {b po : Nat} (hcell : ∀ (i : Nat) (v : V),es.flatten[i]? = some v→∃ u,w.cell? ⟨b,po + i,none⟩ = some u∧S w (Yf φ m) φ v u) (e len : Nat) :
  ∀ (i : Nat) (v : V),((es.drop e).take len).flatten[i]? = some v→∃ u,w.cell? ⟨b,po + e * n + i,none⟩ = some u∧S w (Yf φ m) φ v u:=by
 intro i v hi
 rw [Uo es n e len hn,List.getElem?_take] at hi
 split at hi
 ·rw [List.getElem?_drop] at hi
  rw [Nat.add_assoc]
  exact hcell _ v hi
 ·cases hi
mutual
theorem Re.sound (hm : Mem N w φ m) : ∀ {v v' : V} {u : Value},Re m v v'→S w (Yf φ m) φ v u→S w (fun _ => False) Wi v' u
 | _,_,_,.pl hp,h => h.plain hp
 | _,_,_,.sl,h => by
  cases h with
  | sl hn hl hc hs => exact .sl hn hl hc hs.free
  | sl0 => exact .sl0
  | slnil => exact .slnil
 | _,_,_,.cptr,h => by
  cases h with
  | cptr hs => exact .cptr hs.free
 | _,_,_,.any,_ => .any
 | _,_,_,.own,h => by
  cases h with
  | own h => exact h.free
 | _,_,_,.ref (b:=b) (e:=e) (len:=len) (n:=n) (es:=es) hb hle hr,h => by
  obtain ⟨h1,h2,h3⟩:=hr.spec
  cases h with
  | ref hφ hc hroom =>
   obtain ⟨hn,pb,po,c,ty,hφ',hp,hfit,hcell⟩:=hm.at_ b n es _ hb hφ
   rw [hφ] at hφ'
   simp at hφ'
   obtain ⟨rfl,rfl,rfl⟩:=hφ'
   have hcell' : ∀ (i : Nat) (v : V),es.flatten[i]? = some v→∃ u,w.cell? ⟨_,_ + i,none⟩ = some u∧S w (Yf φ m) φ v u:=fun i v hi => by
    obtain ⟨u,a1,_,a3⟩:=hcell i v hi
    exact ⟨u,Kk hp a1,a3⟩
   have hlen : ((es.drop e).take len).length = len:=by simp; omega
   exact .sl (h3 _ fun x hx => hn x (List.mem_of_mem_drop (List.mem_of_mem_take hx))) (by rw [h1,hlen]) hc (ReE.sound hm hr (flat_cells hn hcell' e len))
  | ref0 =>
   have : ∀ {x : List (List V)},ReE m ((es.drop e).take 0) x→x = []:=fun {x} hx => by simp at hx; cases hx; rfl
   rw [this hr]
   exact .sl (by simp) rfl (Nat.le_refl _) .nil
  | refnil =>
   have : ∀ {x : List (List V)},ReE m ((es.drop e).take 0) x→x = []:=fun {x} hx => by simp at hx; cases hx; rfl
   rw [this hr]
   exact .slnil
 | _,_,_,.ptr (b:=b) (e:=e) (j:=j) (n:=n) (es:=es) (cs:=cs) hb he hr,h => by
  cases h with
  | ptr hφ =>
   obtain ⟨hn,pb,po,c,ty,hφ',hp,hfit,hcell⟩:=hm.at_ b n es _ hb hφ
   rw [hφ] at hφ'
   simp at hφ'
   obtain ⟨rfl,rfl,rfl⟩:=hφ'
   exact .cptr (ReL.sound hm hr fun i v hi => by
    obtain ⟨u,a1,_,a3⟩:=hcell _ v (Ui hn he hi)
    exact ⟨u,by rw [Nat.add_assoc]; exact Kk hp a1,a3⟩)
 | _,_,_,.refc (b:=b) (e:=e) (j:=j) (q:=q) (len:=len) (n:=n) (es:=es) (cs:=cs) (cs':=cs') hb he hle hr,h => by
  obtain ⟨a1,a2,a3⟩:=Kj q len (cs'.drop j) (by rw [List.length_drop,hr.length]; omega)
  cases h with
  | refc hφ hc =>
   obtain ⟨hn,pb,po,c,ty,hφ',hp,hfit,hcell⟩:=hm.at_ b n es _ hb hφ
   rw [hφ] at hφ'
   simp at hφ'
   obtain ⟨rfl,rfl,rfl⟩:=hφ'
   refine .sl a2 a3 hc ?_
   rw [a1]
   have:=ReL.sound hm hr fun i v hi => by
    obtain ⟨u,a1,_,a3⟩:=hcell _ v (Ui hn he hi)
    exact ⟨u,by rw [← Nat.add_assoc] at a1; exact Kk hp a1,a3⟩
   exact (this.drop j).take _
  | refc0 =>
   exact .sl (by simp [Xz]) (by simp [Xz]) (Nat.le_refl _) (by simp [Xz]; exact .nil)
 | _,_,_,.agg hr,h => by
  cases h with
  | agg hs => exact .agg (Hf hm hr hs)
 | _,_,_,.cut hr,h => by
  have:=Re.sound hm hr h
  cases this with
  | cptr hs => exact .cptr' ((hs.drop _).take _) (by simp)
theorem ReL.sound (hm : Mem N w φ m) : ∀ {vs vs' : List V} {b off : Nat},ReL m vs vs'→(∀ (i : Nat) (v : V),vs[i]? = some v→∃ u,w.cell? ⟨b,off + i,none⟩ = some u∧S w (Yf φ m) φ v u)→Ss w (fun _ => False) Wi b off vs'
 | _,_,_,_,.nil,_ => .nil
 | _,_,b,off,.cons h hs,hc => by
  obtain ⟨u,a1,a2⟩:=hc 0 _ rfl
  refine .cons id a1 (Re.sound hm h a2) (ReL.sound hm hs fun i v hi => ?_)
  obtain ⟨u,b1,b2⟩:=hc (i + 1) v (by simpa using hi)
  exact ⟨u,by rw [← b1]; congr 2; omega,b2⟩
theorem ReE.sound (hm : Mem N w φ m) : ∀ {vs vs' : List (List V)} {b off : Nat},ReE m vs vs'→(∀ (i : Nat) (v : V),vs.flatten[i]? = some v→∃ u,w.cell? ⟨b,off + i,none⟩ = some u∧S w (Yf φ m) φ v u)→Ss w (fun _ => False) Wi b off vs'.flatten
 | _,_,_,_,.nil,_ => .nil
 | _,_,b,off,.cons (l:=l) (l':=l') h hs,hc => by
  have a1:=ReL.sound hm h (b:=b) (off:=off) fun i v hi => hc i v (by
   have : i < l.length:=(List.getElem?_eq_some_iff.1 hi).1
   rw [List.flatten_cons,List.getElem?_append_left this]; exact hi)
  have a2:=ReE.sound hm hs (b:=b) (off:=off + l.length) fun i v hi => by
   obtain ⟨u,b1,b2⟩:=hc (l.length + i) v (by rw [List.flatten_cons,List.getElem?_append_right (by omega)]; rw [show l.length + i - l.length = i by omega]; exact hi)
   exact ⟨u,by rw [← b1]; congr 2; omega,b2⟩
  have app : ∀ {x y : List V} {off : Nat},Ss w (fun _ => False) Wi b off x→Ss w (fun _ => False) Wi b (off + x.length) y→Ss w (fun _ => False) Wi b off (x ++ y):=fun {x y off} hx hy => by
   induction x generalizing off with
   | nil => simpa using hy
   | cons v x ih =>
    cases hx with
    | cons ho hc hv hs => exact .cons ho hc hv (ih hs (by simpa [Nat.add_assoc,Nat.add_comm 1] using hy))
  rw [List.flatten_cons]
  exact app a1 (by rw [h.length]; exact a2)
theorem Hf (hm : Mem N w φ m) : ∀ {vs vs' : List V} {us : List Value},ReL m vs vs'→Sl w (Yf φ m) φ vs us→Sl w (fun _ => False) Wi vs' us
 | _,_,_,.nil,.nil => .nil
 | _,_,_,.cons h hs,.cons hv hvs => .cons (Re.sound hm h hv) (Hf hm hs hvs)
end
end
end Go.VL

namespace Go.VL
open Go.RowKit
set_option linter.unusedSimpArgs false
set_option linter.unusedVariables false
def ev (t : List V) : Operand→V
 | .tmp i => t.getD i .any
 | .const v => lift v
 | .global _ => .any
 | .func f => .s (.func (.func f) #[] #[])
def Xh (t : List V) (dst : Option Tmp) (v : V) : List V :=
 match dst with
 | some d => t.set d v
 | none => t
def OpY (P : Program) (o : Oper) (m : VM) (ρ : Operand→V) (r : V) (k cnt : Nat) : Prop :=
 ∀ (N : Fr) (a : Act) (w : World) (φ : Pl) (K : Act→World→Prop) (Q : Exit→Act→World→Prop),N.bd w→Glob P w→Mem N w φ m→(∀ x,x ∈ o.op.operands→S w (Yf φ m) φ (ρ x) (a.eval x))→(∀ i,i < cnt→φ (k + i) = none) →
  (∀ u w' φ',S w' (Yf φ' m) φ' r u→Mem N w' φ' m→Ev w (Yf φ m) φ w' (Yf φ' m) φ'→Bel N w w'→(∀ b p,φ' b = some p→φ b = some p∨(k≤b∧b < k + cnt))→K (a.put o.dst u) w')→o.wp P a w K Q
theorem Jg (N : Fr) (w : World) (n : Nat) : Bel N w (w.drewN n):=⟨rfl,rfl,rfl,Nat.le_refl _,fun _ _ => rfl⟩
open Classical in
noncomputable def only (o : Op) (ρ : Operand→V) (x : Operand) : V:=if x ∈ o.operands then ρ x else .any
theorem only_in {o : Op} {ρ : Operand→V} {x : Operand} (h : x ∈ o.operands) : only o ρ x = ρ x:=if_pos h
theorem only_sound {w : World} {O : Nat→Prop} {φ : Pl} {o : Op} {ρ : Operand→V} {ρu : Operand→Value} (h : ∀ x,x ∈ o.operands→S w O φ (ρ x) (ρu x)) (x : Operand) : S w O φ (only o ρ x) (ρu x):=by
 unfold only
 split
 ·exact h x ‹_›
 ·exact .any
theorem vq_only {P : Program} {m : VM} {o : Op} {ρ : Operand→V} : vq P m (only o ρ) o = vq P m ρ o:=by
 have h : ∀ x,x ∈ o.operands→only o ρ x = ρ x:=fun x hx => only_in hx
 generalize only o ρ = ρ' at h
 have pairs : ∀ ps : Array (Nat × Operand),(∀ x ∈ ps.toList.map (·.2),ρ' x = ρ x)→ps.toList.map (fun p => (p.1,ρ' p.2)) = ps.toList.map fun p => (p.1,ρ p.2):=fun ps hp =>
  List.map_congr_left fun p hm => by rw [hp p.2 (List.mem_map.2 ⟨p,hm,rfl⟩)]
 unfold vq
 split <;> simp only [Op.operands,Call.operands] at h
 ·rw [h _ (by simp)]
 ·rw [h _ (by simp)]
 ·rename_i c a b; rw [h c (by simp),h a (by simp),h b (by simp)]
 ·rw [h _ (by simp)]
 ·rename_i x; rw [h x (by simp)]
 ·rename_i op t x y _; rw [h x (by simp),h y (by simp)]
 ·rw [h _ (by simp)]
 ·rw [h _ (by simp)]
 ·rename_i t ps; rw [pairs ps fun x hx => h x (by simpa using hx)]
 ·rename_i t x lo hi
  rw [h x (by simp)]
  cases lo <;> cases hi <;> simp at h <;> simp [h]
 ·rw [h _ (by simp)]
 ·rw [h _ (by simp)]
 ·rename_i t x i; rw [h x (by simp),h i (by simp)]
 ·rename_i t x i; rw [h x (by simp),h i (by simp)]
 ·rename_i x i; rw [h x (by simp)]
 ·rename_i args ats
  split
  ·rename_i x t ha ht
   have ha' : args = #[x]:=Array.ext' (by simpa using ha)
   subst ha'
   rw [h x (by simp)]
  ·rfl
 ·rename_i args ats
  split
  ·rename_i x y ha
   have ha' : args = #[x,y]:=Array.ext' (by simpa using ha)
   subst ha'
   rw [h x (by simp),h y (by simp)]
  ·rfl
 ·rename_i args ats
  split
  ·rename_i x y ha
   have ha' : args = #[x,y]:=Array.ext' (by simpa using ha)
   subst ha'
   rw [h x (by simp),h y (by simp)]
  ·rfl
 ·rfl
theorem valloc_only {P : Program} {k : Nat} {o : Op} {ρ : Operand→V} : Jy P k (only o ρ) o = Jy P k ρ o:=by
 have h : ∀ x,x ∈ o.operands→only o ρ x = ρ x:=fun x hx => only_in hx
 generalize only o ρ = ρ' at h
 have pairs : ∀ ps : Array (Nat × Operand),(∀ x ∈ ps.toList.map (·.2),ρ' x = ρ x)→ps.toList.map (fun p => (p.1,ρ' p.2)) = ps.toList.map fun p => (p.1,ρ p.2):=fun ps hp =>
  List.map_congr_left fun p hm => by rw [hp p.2 (List.mem_map.2 ⟨p,hm,rfl⟩)]
 unfold Jy
 split <;> simp only [Op.operands,Call.operands] at h
 ·rfl
 ·rw [h _ (by simp)]
 ·rename_i t len ps; rw [pairs ps fun x hx => h x (by simpa using hx)]
 ·rename_i t l c; rw [h l (by simp),h c (by simp)]
 ·rfl
theorem OpY.quiet {P : Program} {o : Oper} {m : VM} {ρ : Operand→V} {r : V} {k : Nat} (h : vq P m ρ o.op = some r) : OpY P o m ρ r k 0:=by
 intro N a w φ K Q hN hg hm hρ hφ hK
 obtain ⟨u,n,h1,h2⟩:=vq_sound (o:=o) (by rw [vq_only]; exact h) (only_sound hρ) hm
 obtain ⟨d1,d2⟩:=hm.drewN n
 unfold Oper.wp
 rw [h1,Oper.upon_value]
 exact hK u _ φ (h2.ev d2) d1 d2 (Jg N w n) (fun b p hb => .inl hb)
theorem OpY.alloc {P : Program} {o : Oper} {m : VM} {ρ : Operand→V} {r : V} {k n : Nat} {es : List (List V)} (h : Jy P k ρ o.op = some (r,n,es)) (hm' : m[k]? = some (some (n,es))) : OpY P o m ρ r k 1:=by
 intro N a w φ K Q hN hg hm hρ hφ hK
 obtain ⟨u,c,t,us,h1,h2,h3,h4,h5,h6,h7⟩:=valloc_sound (o:=o) (w:=w) (by rw [valloc_only]; exact h) (only_sound hρ)
 have hφ0 : φ k = none:=by simpa using hφ 0 (by omega)
 obtain ⟨d1,d2⟩:=hm.map hN hm' hφ0 h2 h3 h4 h5 (w':=w.alloc (.cells c t)) rfl h6 (cell_noOwn (valloc_cell h))
 unfold Oper.wp
 rw [h1,Oper.upon_value]
 refine hK u _ _ (h7 _ _ (by simp [ext])) d1 d2 ((Bel.refl N w).alloc hN _) (fun b p hb => ?_)
 unfold ext at hb
 split at hb
 ·right; omega
 ·exact .inl hb
theorem OpY.call {P : Program} {o : Oper} {m : VM} {ρ : Operand→V} {f : FuncId} {args : Array Operand} {ats : Array TypeId} {vs : List V} {r r' : V} {k : Nat} {l : VM} (ho : o.op = .call { callee:=.value (.func f),args:=args,argTypes:=ats })
  (hf : (P.funcs[f]?).any (fun fn => fn.body.isSome && fn.name != "runtime.NumGoroutine") = true) (hre : ReL m (args.toList.map ρ) vs) (hc : Qk P f vs (fun x => x = r)) (hx : Ex k r r' l) (hl : ∀ i x,l[i]? = some x→m[k + i]? = some x) : OpY P o m ρ r' k l.length:=by
 intro N a w φ K Q hN hg hm hρ hφ hK
 have hargs : Sl w (Yf φ m) φ (args.toList.map ρ) (args.toList.map a.eval):=by
  have : ∀ q : List Operand,(∀ x ∈ q,x ∈ o.op.operands)→Sl w (Yf φ m) φ (q.map ρ) (q.map a.eval):=fun q => by
   induction q with
   | nil => exact fun _ => .nil
   | cons x q ih => exact fun hq => .cons (hρ x (hq x (by simp))) (ih fun y hy => hq y (by simp [hy]))
  exact this _ fun x hx => by simp [ho,Op.operands,Call.operands]; right; simpa using hx
 have hcalls:=hc w _ hg (Hf hm hre hargs)
 have hrun : (execOp a.eval o).run P w = .ok (.enter f (args.map a.eval)) w:=by
  cases hfn : P.funcs[f]? with
  | none => simp [hfn] at hf
  | some fn =>
   simp [hfn] at hf
   obtain ⟨b1,b2⟩:=hf
   have b3 : fn.body ≠ none:=by simpa [Option.isSome_iff_ne_none] using b1
   simp [execOp,ho,resolve,Act.eval,Deferred.ofValue,invoke,callFunc,hfn,b2,b3]
 unfold Oper.wp
 rw [hrun,Oper.upon_enter]
 have : (args.toList.map a.eval).toArray = args.map a.eval:=by apply Array.ext'; simp
 rw [this] at hcalls
 refine hcalls.mono fun e w' ⟨x,u,F,he,hx',hr,hnd,hF,hb⟩ => ?_
 subst he
 subst hx'
 obtain ⟨φ',a1,a2,a3,a4⟩:=hm.result hN hb hr hnd hF hx hl hφ
 exact hK u w' φ' a1 a2 a3 (Bel.of hb hN) a4
def TellsX (P : Program) (f : FuncId) (F : List V→Option V) : Prop :=
 ∃ fn e,P.funcs[f]? = some fn∧(fn.name == "runtime.NumGoroutine") = false∧fn.body.isNone = true∧Extern.findNext fn = none∧Extern.find fn = some e ∧
  ∀ args r,F args = some r→Yn r = true∧∀ (w : World) (us : List Value),Sl w (fun _ => False) Wi args us→∃ u n,(e us.toArray).run P w = .ok u (w.drewN n)∧S w (fun _ => False) Wi r u
theorem OpY.extern {P : Program} {o : Oper} {m : VM} {ρ : Operand→V} {f : FuncId} {args : Array Operand} {ats : Array TypeId} {vs : List V} {r : V} {k : Nat} {F : List V→Option V} (ho : o.op = .call { callee:=.value (.func f),args:=args,argTypes:=ats })
  (hX : TellsX P f F) (hre : ReL m (args.toList.map ρ) vs) (hc : F vs = some r) : OpY P o m ρ r k 0:=by
 intro N a w φ K Q hN hg hm hρ hφ hK
 obtain ⟨fn,e,x1,x2,x3,x4,x5,x6⟩:=hX
 have hargs : Sl w (Yf φ m) φ (args.toList.map ρ) (args.toList.map a.eval):=by
  have : ∀ q : List Operand,(∀ x ∈ q,x ∈ o.op.operands)→Sl w (Yf φ m) φ (q.map ρ) (q.map a.eval):=fun q => by
   induction q with
   | nil => exact fun _ => .nil
   | cons x q ih => exact fun hq => .cons (hρ x (hq x (by simp))) (ih fun y hy => hq y (by simp [hy]))
  exact this _ fun x hx => by simp [ho,Op.operands,Call.operands]; right; simpa using hx
 obtain ⟨hp,hrun0⟩:=x6 vs r hc
 obtain ⟨u,n,h1,h2⟩:=hrun0 w _ (Hf hm hre hargs)
 have harr : (args.toList.map a.eval).toArray = args.map a.eval:=by apply Array.ext'; simp
 rw [harr] at h1
 obtain ⟨d1,d2⟩:=hm.drewN n
 have hrun : (execOp a.eval o).run P w = .ok (.value u) (w.drewN n):=by
  have:=run_callFunc_extern x1 x2 x3 x4 x5 (args.map a.eval) w
  rw [h1] at this
  simp [execOp,ho,resolve,Act.eval,Deferred.ofValue,invoke,this]
 unfold Oper.wp
 rw [hrun,Oper.upon_value]
 exact hK u _ φ (h2.plain hp) d1 d2 (Jg N w n) (fun b p hb => .inl hb)
section
variable {P : Program} {N : Fr} {w0 : World × List Value}
theorem SR.eval {st : VS} {a : Act} {w : World} {φ : Pl} (h : SR P N w0 st a w φ) (x : Operand) : S w (Yf φ st.m) φ (ev st.t x) (a.eval x):=by
 cases x with
 | tmp i =>
  simp only [ev,Act.eval]
  cases hi : st.t[i]? with
  | none => simp [List.getD,hi]; exact .any
  | some v =>
   obtain ⟨u,h1,h2⟩:=h.tmps i v hi
   simp [List.getD,hi,Array.getD,Array.getElem?_eq_some_iff] at h1 ⊢
   obtain ⟨hlt,h1⟩:=h1
   simp [hlt,h1]
   exact h2
 | const v => exact S.lift v
 | global g => exact .any
 | func f => exact .s rfl
theorem SR.put {st : VS} {m' : VM} {a : Act} {w w' : World} {φ φ' : Pl} {dst : Option Tmp} {v : V} {u : Value} (h : SR P N w0 st a w φ) (hv : S w' (Yf φ' m') φ' v u) (hm : Mem N w' φ' m') (he : Ev w (Yf φ st.m) φ w' (Yf φ' m') φ') (hb : Bel N w w') :
  SR P N w0 { t:=Xh st.t dst v,m:=m',g:=st.g } (a.put dst u) w' φ':=by
 refine ⟨?_,?_,fun i x hi => ?_,hm,h.below.trans hb,h.start.trans hb.size,Sl.ev he h.gh,h.gl⟩
 ·cases dst <;> exact h.defers
 ·cases dst with
  | none => exact h.size
  | some d => simp [Xh,Act.put,h.size]
 ·cases dst with
  | none =>
   obtain ⟨z,a1,a2⟩:=h.tmps i x hi
   exact ⟨z,a1,a2.ev he⟩
  | some d =>
   simp only [Xh,Act.put] at hi ⊢
   rw [List.getElem?_set] at hi
   split at hi
   ·rename_i hd
    subst hd
    split at hi
    ·rename_i hlt
     obtain rfl:=Option.some.inj hi
     have : d < a.tmps.size:=by rw [h.size]; exact hlt
     exact ⟨u,by simp [Array.getElem?_setIfInBounds,this],hv⟩
    ·cases hi
   ·rename_i hd
    obtain ⟨z,a1,a2⟩:=h.tmps i x hi
    exact ⟨z,by rw [Array.getElem?_setIfInBounds_ne hd]; exact a1,a2.ev he⟩
theorem SR.more {st : VS} {a : Act} {w : World} {φ : Pl} (h : SR P N w0 st a w φ) (l : VM) : SR P N w0 { t:=st.t,m:=st.m ++ l,g:=st.g } a w φ:=by
 obtain ⟨h1,h2⟩:=h.mem.more l
 exact ⟨h.defers,h.size,fun i v hi => by
  obtain ⟨u,a1,a2⟩:=h.tmps i v hi
  exact ⟨u,a1,a2.ev h2⟩,h1,h.below,h.start,Sl.ev h2 h.gh,h.gl⟩
abbrev und : V:=.tup []
theorem S.und {w : World} {O : Nat→Prop} {φ : Pl} : S w O φ und undef:=.tup .nil
def Zm (ops : Array Oper) (t : List V) (o : Oper) : Option Bool :=
 match o.guard with
 | none => some true
 | some (j,want) => match (ops[j]?).bind (·.dst) with
  | some d => match t[d]? with
   | some (.b x) => some (x == want)
   | some (.tup _) => some false
   | none => some false
   | _ => none
  | none => none
theorem Xj {ops : Array Oper} {st : VS} {o : Oper} {a : Act} {w : World} {φ : Pl} {x : Bool} (h : Zm ops st.t o = some x) (hs : SR P N w0 st a w φ) : Region.wanted o (yielded ops a.tmps) = x:=by
 unfold Zm at h
 unfold Region.wanted
 split at h
 ·rename_i hg
  simp [hg]; simpa using h.symm
 ·rename_i j want hg
  split at h
  ·rename_i d hd
   split at h
   ·rename_i y hy
    obtain ⟨u,a1,a2⟩:=hs.tmps d _ hy
    cases a2
    simp [hg,yielded,hd,a1]
    simpa using h
   ·rename_i vs hy
    obtain ⟨u,a1,a2⟩:=hs.tmps d _ hy
    cases a2
    simp [hg,yielded,hd,a1]
    simpa using h
   ·rename_i hy
    have : a.tmps[d]? = none:=by
     rw [List.getElem?_eq_none_iff] at hy
     rw [Array.getElem?_eq_none_iff,hs.size]; exact hy
    simp [hg,yielded,hd,this]
    simpa using h
   ·cases h
  ·cases h
def VL (P : Program) (ops : Array Oper) (Q : Exit→VS→Prop) (l : List Oper) (st : VS) : Prop :=
 ∀ (N : Fr) (w0 : World × List Value) (a : Act) (w : World) (φ : Pl),SR P N w0 st a w φ→wpList P ops (fun e a' w' => ∃ st' φ',Q e st'∧SR P N w0 st' a' w' φ') l a w
theorem VL.nil {ops : Array Oper} {Q : Exit→VS→Prop} {st : VS} (h : Q .normal st) : VL P ops Q [] st:=fun N w0 a w φ hs => ⟨st,φ,h,hs⟩
theorem VL.skip {ops : Array Oper} {Q : Exit→VS→Prop} {st : VS} {o : Oper} {l : List Oper} (hw : Zm ops st.t o = some false) (h : VL P ops Q l { t:=Xh st.t o.dst und,m:=st.m,g:=st.g }) : VL P ops Q (o :: l) st:=by
 intro N w0 a w φ hs
 unfold wpList
 rw [Xj hw hs,if_neg (by simp)]
 exact h N w0 _ _ φ (hs.put S.und hs.mem (Ev.refl _ _ _) (Bel.refl _ _))
theorem VL.op {ops : Array Oper} {Q : Exit→VS→Prop} {st : VS} {o : Oper} {l : List Oper} {r : V} {bl : VM} (hw : Zm ops st.t o = some true) (ho : OpY P o (st.m ++ bl) (ev st.t) r st.m.length bl.length)
  (h : VL P ops Q l { t:=Xh st.t o.dst r,m:=st.m ++ bl,g:=st.g }) : VL P ops Q (o :: l) st:=by
 intro N w0 a w φ hs
 unfold wpList
 rw [Xj hw hs,if_pos rfl]
 left
 have hs':=hs.more bl
 refine ho N a w φ _ _ hs.start hs.glob hs'.mem (fun x _ => hs'.eval x) (fun i hi => hs.mem.fresh (by omega)) fun u w' φ' h1 h2 h3 h4 _ => h N w0 _ _ φ' (hs'.put h1 h2 h3 h4)
theorem VL.store {ops : Array Oper} {Q : Exit→VS→Prop} {st : VS} {o : Oper} {l : List Oper} {t : TypeId} {x y : Operand} {m' : VM} (hw : Zm ops st.t o = some true) (ho : o.op = .store t x y) (hm : vstore P st.m t (ev st.t x) (ev st.t y) = some m')
  (h : VL P ops Q l { t:=Xh st.t o.dst .any,m:=m',g:=st.g }) : VL P ops Q (o :: l) st:=by
 intro N w0 a w φ hs
 unfold wpList
 rw [Xj hw hs,if_pos rfl]
 left
 obtain ⟨w',h1,h2,h3,h4⟩:=vstore_sound hm (hs.eval x) (hs.eval y) hs.mem
 unfold Oper.wp
 have hrun : (execOp a.eval o).run P w = .ok .skip w':=by simp [execOp,ho,h1]
 rw [hrun,Oper.upon_skip]
 exact h N w0 _ _ φ (hs.put .any h2 h3 h4)
def vop1 (P : Program) (st : VS) (o : Oper) : Option VS :=
 match vq P st.m (ev st.t) o.op with
 | some v => some { t:=Xh st.t o.dst v,m:=st.m,g:=st.g }
 | none => match Jy P st.m.length (ev st.t) o.op with
  | some (v,n,es) => some { t:=Xh st.t o.dst v,m:=st.m ++ [some (n,es)],g:=st.g }
  | none => match o.op with
   | .store t x y => (vstore P st.m t (ev st.t x) (ev st.t y)).map fun m' => { t:=Xh st.t o.dst .any,m:=m',g:=st.g }
   | _ => none
def vops (P : Program) (ops : Array Oper) : List Oper→VS→Option VS
 | [],st => some st
 | o :: l,st => match Zm ops st.t o with
  | some true => (vop1 P st o).bind (vops P ops l)
  | some false => vops P ops l { t:=Xh st.t o.dst und,m:=st.m,g:=st.g }
  | none => none
theorem VL.run {ops : Array Oper} {Q : Exit→VS→Prop} {rest : List Oper} : ∀ {l : List Oper} {st st' : VS},vops P ops l st = some st'→VL P ops Q rest st'→VL P ops Q (l ++ rest) st
 | [],st,st',h,hr => by simp [vops] at h; subst h; exact hr
 | o :: l,st,st',h,hr => by
  simp only [vops] at h
  split at h
  ·rename_i hw
   cases h1 : vop1 P st o with
   | none => simp [h1] at h
   | some st1 =>
    simp only [h1,Option.bind_some] at h
    have ih:=VL.run (Q:=Q) h hr
    unfold vop1 at h1
    split at h1
    ·rename_i v hv
     obtain rfl:=Option.some.inj h1
     exact VL.op (bl:=[]) hw (by simpa using OpY.quiet hv) (by simpa using ih)
    ·split at h1
     ·rename_i v n es hv
      obtain rfl:=Option.some.inj h1
      exact VL.op (bl:=[some (n,es)]) hw (OpY.alloc hv (by simp)) ih
     ·split at h1
      ·rename_i t x y ho
       cases hm : vstore P st.m t (ev st.t x) (ev st.t y) with
       | none => simp [hm] at h1
       | some m' =>
        simp [hm] at h1
        subst h1
        exact VL.store hw ho hm ih
      ·cases h1
  ·rename_i hw
   exact VL.skip hw (VL.run h hr)
  ·cases h
theorem VL.call {ops : Array Oper} {Q : Exit→VS→Prop} {st : VS} {o : Oper} {l : List Oper} {f : FuncId} {args : Array Operand} {ats : Array TypeId} {vs : List V} {R : V→Prop} (hw : Zm ops st.t o = some true)
  (ho : o.op = .call { callee:=.value (.func f),args:=args,argTypes:=ats }) (hf : (P.funcs[f]?).any (fun fn => fn.body.isSome && fn.name != "runtime.NumGoroutine") = true) (hre : ReL st.m (args.toList.map (ev st.t)) vs) (hc : Qk P f vs R)
  (h : ∀ r,R r→∃ r' bl,Ex st.m.length r r' bl∧VL P ops Q l { t:=Xh st.t o.dst r',m:=st.m ++ bl,g:=st.g }) : VL P ops Q (o :: l) st:=by
 intro N w0 a w φ hs
 unfold wpList
 rw [Xj hw hs,if_pos rfl]
 left
 have hargs : Sl w (Yf φ st.m) φ (args.toList.map (ev st.t)) (args.toList.map a.eval):=by
  have : ∀ q : List Operand,Sl w (Yf φ st.m) φ (q.map (ev st.t)) (q.map a.eval):=fun q => by
   induction q with
   | nil => exact .nil
   | cons x q ih => exact .cons (hs.eval x) ih
  exact this _
 have hcalls:=hc w _ hs.glob (Hf hs.mem hre hargs)
 have hrun : (execOp a.eval o).run P w = .ok (.enter f (args.map a.eval)) w:=by
  cases hfn : P.funcs[f]? with
  | none => simp [hfn] at hf
  | some fn =>
   simp [hfn] at hf
   obtain ⟨b1,b2⟩:=hf
   have b3 : fn.body ≠ none:=by simpa [Option.isSome_iff_ne_none] using b1
   simp [execOp,ho,resolve,Act.eval,Deferred.ofValue,invoke,callFunc,hfn,b2,b3]
 unfold Oper.wp
 rw [hrun,Oper.upon_enter]
 have : (args.toList.map a.eval).toArray = args.map a.eval:=by apply Array.ext'; simp
 rw [this] at hcalls
 refine hcalls.mono fun e w' ⟨x,u,F,he,hx',hr,hnd,hF,hb⟩ => ?_
 subst he
 obtain ⟨r',bl,hx,hVL⟩:=h x hx'
 have hs':=hs.more bl
 obtain ⟨φ',a1,a2,a3,a4⟩:=hs'.mem.result hs.start hb hr hnd hF hx (fun i y hi => by rw [List.getElem?_append_right (by omega)]; rw [show st.m.length + i - st.m.length = i by omega]; exact hi) (fun i hi => hs.mem.fresh (by omega))
 exact hVL N w0 _ _ φ' (hs'.put a1 a2 a3 (Bel.of hb hs.start))
end
end Go.VL

namespace Go.VL
open Go.RowKit
set_option linter.unusedSimpArgs false
set_option linter.unusedVariables false
def vthen (next : VS→Prop) (Q : Exit→VS→Prop) : Exit→VS→Prop
 | .normal,s => next s
 | e,s => Q e s
def vblock (id : Nat) (Q : Exit→VS→Prop) : Exit→VS→Prop
 | .exit i,s => if i = id then Q .normal s else Q (.exit i) s
 | e,s => Q e s
def VW (P : Program) (c : Code) (Q : Exit→VS→Prop) (st : VS) : Prop :=
 ∀ (N : Fr) (w0 : World × List Value) (a : Act) (w : World) (φ : Pl),SR P N w0 st a w φ→c.wp P (fun e a' w' => ∃ st' φ',Q e st'∧SR P N w0 st' a' w' φ') a w
def Qm (s s' : VS) : Prop:=∀ (P : Program) (N : Fr) (w0 : World × List Value) (a : Act) (w : World) (φ : Pl),SR P N w0 s a w φ→∃ φ',SR P N w0 s' a w φ'
theorem Qm.refl (s : VS) : Qm s s:=fun _ _ _ _ _ φ h => ⟨φ,h⟩
theorem Qm.trans {a b c : VS} (h : Qm a b) (k : Qm b c) : Qm a c:=fun P N w0 x w φ hs => by
 obtain ⟨φ',h1⟩:=h P N w0 x w φ hs
 exact k P N w0 x w φ' h1
section
variable {P : Program} {Q : Exit→VS→Prop} {st : VS}
theorem VW.ent {c : Code} {s : VS} (he : Qm st s) (h : VW P c Q s) : VW P c Q st:=fun N w0 a w φ hs => by
 obtain ⟨φ',hs'⟩:=he P N w0 a w φ hs
 exact h N w0 a w φ' hs'
theorem VL.ent {ops : Array Oper} {l : List Oper} {s : VS} (he : Qm st s) (h : VL P ops Q l s) : VL P ops Q l st:=fun N w0 a w φ hs => by
 obtain ⟨φ',hs'⟩:=he P N w0 a w φ hs
 exact h N w0 a w φ' hs'
theorem VW.mono {c : Code} {Q' : Exit→VS→Prop} (h : VW P c Q st) (hq : ∀ e s,Q e s→Q' e s) : VW P c Q' st:=fun N w0 a w φ hs =>
 wp_mono (h N w0 a w φ hs) fun e a' w' ⟨s,φ',h1,h2⟩ => ⟨s,φ',hq e s h1,h2⟩
theorem VW.skip (h : Q .normal st) : VW P .skip Q st:=fun N w0 a w φ hs => wp_skip ⟨st,φ,h,hs⟩
theorem VW.exit {id : Nat} (h : Q (.exit id) st) : VW P (.exit id) Q st:=fun N w0 a w φ hs => wp_exit ⟨st,φ,h,hs⟩
theorem VW.ret (h : Q .ret st) : VW P .ret Q st:=fun N w0 a w φ hs => wp_ret ⟨st,φ,h,hs⟩
theorem VW.seq {x y : Code} (h : VW P x (vthen (VW P y Q) Q) st) : VW P (.seq x y) Q st:=fun N w0 a w φ hs => by
 refine wp_seq (wp_mono (h N w0 a w φ hs) fun e a' w' ⟨s,φ',h1,h2⟩ => ?_)
 cases e with
 | normal => exact h1 N w0 a' w' φ' h2
 | exit id => exact ⟨s,φ',h1,h2⟩
 | goto l => exact ⟨s,φ',h1,h2⟩
 | ret => exact ⟨s,φ',h1,h2⟩
 | panic c => exact ⟨s,φ',h1,h2⟩
 | outgrown => exact ⟨s,φ',h1,h2⟩
theorem VW.cond {c : Operand} {x y : Code} {b : Bool} (hc : ev st.t c = .b b) (h : VW P (if b then x else y) Q st) : VW P (.cond c x y) Q st:=fun N w0 a w φ hs => by
 have:=hs.eval c
 rw [hc] at this
 generalize hu : a.eval c = u at this
 cases this
 exact wp_cond hu (h N w0 a w φ hs)
theorem Ye {c : Operand} {x y : Code} (hc : ev st.t c = .b true) (h : VW P x Q st) : VW P (.cond c x y) Q st:=.cond hc h
theorem Qj {c : Operand} {x y : Code} (hc : ev st.t c = .b false) (h : VW P y Q st) : VW P (.cond c x y) Q st:=.cond hc h
theorem VW.condB {c : Operand} {x y : Code} {b : Bool} (hc : ev st.t c = .b b) (h1 : b = true→VW P x Q st) (h2 : b = false→VW P y Q st) : VW P (.cond c x y) Q st:=by
 cases b
 ·exact .cond hc (h2 rfl)
 ·exact .cond hc (h1 rfl)
theorem VW.block {id : Nat} {c : Code} (h : VW P c (vblock id Q) st) : VW P (.block id c) Q st:=fun N w0 a w φ hs => by
 refine wp_block (wp_mono (h N w0 a w φ hs) fun e a' w' ⟨s,φ',h1,h2⟩ => ?_)
 cases e with
 | exit i =>
  simp only [Exit.inBlock,vblock] at h1 ⊢
  split
  ·rename_i hi; rw [if_pos hi] at h1; exact ⟨s,φ',h1,h2⟩
  ·rename_i hi; rw [if_neg hi] at h1; exact ⟨s,φ',h1,h2⟩
 | normal => exact ⟨s,φ',h1,h2⟩
 | goto l => exact ⟨s,φ',h1,h2⟩
 | ret => exact ⟨s,φ',h1,h2⟩
 | panic c => exact ⟨s,φ',h1,h2⟩
 | outgrown => exact ⟨s,φ',h1,h2⟩
theorem VW.loop {c : Code} (J : Nat→VS→Prop) {n0 : Nat} {s0 : VS} (he : Qm st s0) (h0 : J n0 s0) (round : ∀ n s,J n s→VW P c (vthen (fun s' => ∃ n' s'',Qm s' s''∧n' < n∧J n' s'') Q) s) : VW P (.loop c) Q st:=fun N w0 a w φ hs => by
 obtain ⟨φ0,hs0⟩:=he P N w0 a w φ hs
 refine wp_loop_ghost (fun n a w => ∃ s φ,J n s∧SR P N w0 s a w φ) n0 ⟨s0,φ0,h0,hs0⟩ fun n a w ⟨s,φ,hJ,hs⟩ => ?_
 refine wp_mono (round n s hJ N w0 a w φ hs) fun e a' w' ⟨s',φ',h1,h2⟩ => ?_
 cases e with
 | normal =>
  obtain ⟨n',s'',he',hlt,hJ'⟩:=h1
  obtain ⟨φ'',hs''⟩:=he' P N w0 a' w' φ' h2
  exact ⟨n',hlt,s'',φ'',hJ',hs''⟩
 | exit id => exact ⟨s',φ',h1,h2⟩
 | goto l => exact ⟨s',φ',h1,h2⟩
 | ret => exact ⟨s',φ',h1,h2⟩
 | panic c => exact ⟨s',φ',h1,h2⟩
 | outgrown => exact ⟨s',φ',h1,h2⟩
theorem VW.region {id : Nat} {l : List Oper} (h : VL P l.toArray Q l st) : VW P (.region id l.toArray false) Q st:=fun N w0 a w φ hs =>
 wp_region_lit (h N w0 a w φ hs)
end
mutual
inductive Fin (m : VM) : V→V→List Nat→Prop
 | pl {v : V} (hp : Yn v = true) : Fin m v v []
 | ref {b e len n : Nat} {es es' : List (List V)} {ids : List Nat} (hb : m[b]? = some (some (n,es))) (hle : e + len≤es.length) (h : FinL m ((es.drop e).take len).flatten es'.flatten ids) (hn : ∀ x ∈ es',x.length = n) (hl : es'.length = len) : Fin m (.ref b e len) (.own n es') (b :: ids)
 | refp {b e len n : Nat} {es : List (List V)} (hb : m[b]? = some (some (n,es))) (hle : e + len≤es.length) (h : ∀ l ∈ (es.drop e).take len,∀ v ∈ l,Yn v = true) : Fin m (.ref b e len) (.own n ((es.drop e).take len)) [b]
 | tab {b len n : Nat} {es : List (List V)} (hb : m[b]? = some (some (n,es))) (hl : es.length = len) (h : ∀ l ∈ es,∀ v ∈ l,Yn v = true∨∃ n' es',v = .own n' es') : Fin m (.ref b 0 len) (.own n es) [b]
 | agg {cs cs' : List V} {ids : List Nat} (h : FinL m cs cs' ids) : Fin m (.agg cs) (.agg cs') ids
 | tup {cs cs' : List V} {ids : List Nat} (h : FinL m cs cs' ids) : Fin m (.tup cs) (.tup cs') ids
inductive FinL (m : VM) : List V→List V→List Nat→Prop
 | nil : FinL m [] [] []
 | cons {v v' : V} {vs vs' : List V} {a b : List Nat} (h : Fin m v v' a) (hs : FinL m vs vs' b) : FinL m (v :: vs) (v' :: vs') (a ++ b)
end
theorem FinL.plain {m : VM} : ∀ {a : List V},(∀ v ∈ a,Yn v = true)→FinL m a a []
 | [],_ => .nil
 | v :: a,h => .cons (a:=[]) (b:=[]) (.pl (h v (by simp))) (FinL.plain fun x hx => h x (by simp [hx]))
section
variable {N : Fr} {w : World} {φ : Pl} {m : VM}
def Ow (N : Fr) (w : World) (φ : Pl) (m : VM) (ψ : Nat→Option (Nat × Nat)) (k b : Nat) : Prop :=
 (∃ p x,φ b = some p∧p.1 = k∧m[b]? = some (some x))∨(∃ i,ψ k = some (b,i)∧¬ N k∧k < w.heap.size∧¬ Yf φ m k)
theorem Ow.inj {ψ : Nat→Option (Nat × Nat)} (hm : Mem N w φ m) {k b b' : Nat} (h : Ow N w φ m ψ k b) (h' : Ow N w φ m ψ k b') : b = b':=by
 rcases h with ⟨⟨p1,p2,p3⟩,x,h1,rfl,h2⟩ | ⟨i,h1,_,_,h2⟩ <;> rcases h' with ⟨⟨q1,q2,q3⟩,y,g1,g3,g2⟩ | ⟨j,g1,_,_,g2⟩
 ·simp only at g3
  subst g3
  exact hm.inj b b' q1 p2 q2 p3 q3 h1 g1
 ·exact absurd ⟨b,x,p2,p3,h2,h1⟩ g2
 ·simp only at g3
  subst g3
  exact absurd ⟨b',y,q2,q3,g2,g1⟩ h2
 ·rw [h1] at g1
  cases g1
  rfl
theorem Ow.new {ψ : Nat→Option (Nat × Nat)} (hm : Mem N w φ m) {k b : Nat} (h : Ow N w φ m ψ k b) : ¬ N k:=by
 rcases h with ⟨⟨p1,p2,p3⟩,x,h1,rfl,h2⟩ | ⟨i,_,h1,_⟩
 ·exact (hm.new b p1 p2 p3 h1).1
 ·exact h1
theorem Ow.lt {ψ : Nat→Option (Nat × Nat)} (hm : Mem N w φ m) {k b : Nat} (h : Ow N w φ m ψ k b) : k < w.heap.size:=by
 rcases h with ⟨⟨p1,p2,p3⟩,x,h1,rfl,h2⟩ | ⟨i,_,_,h1,_⟩
 ·exact (hm.new b p1 p2 p3 h1).2
 ·exact h1
theorem join_nodup {ψ : Nat→Option (Nat × Nat)} (hm : Mem N w φ m) {A B F G : List Nat} (hAB : (A ++ B).Nodup) (hF : ∀ k ∈ F,∃ b ∈ A,Ow N w φ m ψ k b) (hG : ∀ k ∈ G,∃ b ∈ B,Ow N w φ m ψ k b) (nF : F.Nodup) (nG : G.Nodup) : (F ++ G).Nodup:=by
 refine List.nodup_append.2 ⟨nF,nG,fun x hx y hy e => ?_⟩
 subst e
 obtain ⟨b,hb,h1⟩:=hF x hx
 obtain ⟨b',hb',h2⟩:=hG _ hy
 have:=h1.inj hm h2
 subst this
 exact (List.nodup_append.1 hAB).2.2 b hb b hb' rfl
theorem tabRs {ψ : Nat→Option (Nat × Nat)} {b : Nat} {c : Array Value} : ∀ {vs : List V} {off x : Nat},(∀ v ∈ vs,Yn v = true∨∃ n' es',v = .own n' es') →
  (∀ (i : Nat) (v : V),vs[i]? = some v→∃ u,c[off + i]? = some u∧u.oneCell' = true∧S w (Yf φ m) φ v u) →
  (∀ (i n' : Nat) (es' : List (List V)),vs[i]? = some (.own n' es')→∃ u F,c[off + i]? = some u∧RV w (.own n' es') u F∧F.Nodup∧∀ k ∈ F,ψ k = some (b,x + i)∧¬ N k∧k < w.heap.size∧¬ Yf φ m k) →
  ∃ F,Rs w c off vs F∧F.Nodup∧∀ k ∈ F,∃ i,ψ k = some (b,x + i)∧¬ N k∧k < w.heap.size∧¬ Yf φ m k
 | [],_,_,_,_,_ => ⟨[],.nil,.nil,by simp⟩
 | v :: vs,off,x,hp,hc,ho => by
  obtain ⟨u,u1,u2,u3⟩:=hc 0 v rfl
  obtain ⟨G,b1,b2,b3⟩:=tabRs (vs:=vs) (off:=off + 1) (x:=x + 1) (ψ:=ψ) (b:=b) (c:=c) (fun y hy => hp y (by simp [hy])) (fun i v hi => by
   obtain ⟨u,x1,x2⟩:=hc (i + 1) v (by simpa using hi)
   exact ⟨u,by rw [← x1]; congr 1; omega,x2⟩) (fun i n' es' hi => by
   obtain ⟨u,F,x1,x2,x3,x4⟩:=ho (i + 1) n' es' (by simpa using hi)
   exact ⟨u,F,by rw [← x1]; congr 1; omega,x2,x3,fun k hk => by
    have:=x4 k hk
    rwa [show x + (i + 1) = x + 1 + i by omega] at this⟩)
  have b3' : ∀ k ∈ G,∃ i,ψ k = some (b,x + i)∧¬ N k∧k < w.heap.size∧¬ Yf φ m k:=fun k hk => by
   obtain ⟨i,h⟩:=b3 k hk
   exact ⟨i + 1,by rwa [show x + (i + 1) = x + 1 + i by omega]⟩
  rcases hp v (by simp) with hpl | ⟨n',es',rfl⟩
  ·exact ⟨[] ++ G,.cons u1 u2 (.pl hpl (u3.plain hpl)) b1,b2,b3'⟩
  ·obtain ⟨u',F,x1,x2,x3,x4⟩:=ho 0 n' es' rfl
   rw [u1] at x1
   cases x1
   refine ⟨F ++ G,.cons u1 u2 x2 b1,List.nodup_append.2 ⟨x3,b2,fun y hy z hz e => ?_⟩,fun k hk => ?_⟩
   ·subst e
    have e1:=(x4 y hy).1
    obtain ⟨i,e2,_⟩:=b3 y hz
    rw [e1] at e2
    simp at e2
    omega
   ·rcases List.mem_append.1 hk with hk | hk
    ·exact ⟨0,x4 k hk⟩
    ·exact b3' k hk
theorem plainRs : ∀ {vs : List V} {c : Array Value} {off : Nat},(∀ v ∈ vs,Yn v = true)→(∀ (i : Nat) (v : V),vs[i]? = some v→∃ u,c[off + i]? = some u∧u.oneCell' = true∧S w (Yf φ m) φ v u)→Rs w c off vs []
 | [],_,_,_,_ => .nil
 | v :: vs,c,off,hp,hc => by
  obtain ⟨u,u1,u2,u3⟩:=hc 0 v rfl
  have:=plainRs (vs:=vs) (c:=c) (off:=off + 1) (fun x hx => hp x (by simp [hx])) fun i v hi => by
   obtain ⟨u,x1,x2⟩:=hc (i + 1) v (by simpa using hi)
   exact ⟨u,by rw [← x1]; congr 1; omega,x2⟩
  exact .cons (F:=[]) (G:=[]) u1 u2 (.pl (hp v (by simp)) (u3.plain (hp v (by simp)))) this
mutual
theorem Fin.sound {ψ : Nat→Option (Nat × Nat)} (hm : Mem N w φ m) (hψ : OwnC N w φ m ψ) : ∀ {v r : V} {ids : List Nat} {u : Value},Fin m v r ids→S w (Yf φ m) φ v u→ids.Nodup→∃ F,RV w r u F∧F.Nodup∧∀ k ∈ F,∃ b ∈ ids,Ow N w φ m ψ k b
 | _,_,_,_,.pl hp,h,_ => ⟨[],.pl hp (h.plain hp),.nil,by simp⟩
 | _,_,_,_,.ref (b:=b) (e:=e) (len:=len) (n:=n) (es:=es) (es':=es') (ids:=ids) hb hle hf hn' hl,h,hnd => by
  cases h with
  | ref hφ hc hroom =>
   obtain ⟨hn,pb,po,c,ty,hφ',hp,hfit,hcell⟩:=hm.at_ b n es _ hb hφ
   rw [hφ] at hφ'
   simp at hφ'
   obtain ⟨rfl,rfl,rfl⟩:=hφ'
   rename_i pb po n cap
   have hcells : ∀ (i : Nat) (v : V),((es.drop e).take len).flatten[i]? = some v→∃ u,c[po + e * n + i]? = some u∧u.oneCell' = true∧S w (Yf φ m) φ v u:=by
    intro i v hi
    rw [Uo es n e len hn,List.getElem?_take] at hi
    split at hi
    ·rw [List.getElem?_drop] at hi
     rw [Nat.add_assoc]
     exact hcell _ v hi
    ·cases hi
   obtain ⟨h1,h2⟩:=List.nodup_cons.1 hnd
   obtain ⟨F,a1,a2,a3⟩:=FinL.soundC hm hψ hf hcells h2
   obtain ⟨c',ty',fr',hp',hroom'⟩:=hroom
   rw [hp] at hp'
   cases hp'
   refine ⟨pb :: F,.own hn' hl hc hp (by rw [Nat.add_mul] at hroom'; omega) a1,List.nodup_cons.2 ⟨fun hk => ?_,a2⟩,fun k hk => ?_⟩
   ·obtain ⟨b',hb',hq⟩:=a3 pb hk
    have:=Ow.inj hm (.inl ⟨_,_,hφ,rfl,hb⟩) hq
    subst this
    exact h1 hb'
   ·rcases List.mem_cons.1 hk with rfl | hk
    ·exact ⟨b,by simp,.inl ⟨_,_,hφ,rfl,hb⟩⟩
    ·obtain ⟨b',hb',hp1⟩:=a3 k hk
     exact ⟨b',by simp [hb'],hp1⟩
  | ref0 =>
   have he : es' = []:=List.eq_nil_of_length_eq_zero hl
   subst he
   exact ⟨[],.own0,.nil,by simp⟩
  | refnil =>
   have he : es' = []:=List.eq_nil_of_length_eq_zero hl
   subst he
   exact ⟨[],.ownnil,.nil,by simp⟩
 | _,_,_,_,.refp (b:=b) (e:=e) (len:=len) (n:=n) (es:=es) hb hle hp',h,hnd => by
  cases h with
  | ref hφ hc hroom =>
   obtain ⟨hn,pb,po,c,ty,hφ',hp,hfit,hcell⟩:=hm.at_ b n es _ hb hφ
   rw [hφ] at hφ'
   simp at hφ'
   obtain ⟨rfl,rfl,rfl⟩:=hφ'
   rename_i pb po n cap
   have hcells : ∀ (i : Nat) (v : V),((es.drop e).take len).flatten[i]? = some v→∃ u,c[po + e * n + i]? = some u∧u.oneCell' = true∧S w (Yf φ m) φ v u:=by
    intro i v hi
    rw [Uo es n e len hn,List.getElem?_take] at hi
    split at hi
    ·rw [List.getElem?_drop] at hi
     rw [Nat.add_assoc]
     exact hcell _ v hi
    ·cases hi
   have a1 : Rs w c (po + e * n) ((es.drop e).take len).flatten []:=plainRs (fun v hv => by
    obtain ⟨l,h1,h2⟩:=List.mem_flatten.1 hv
    exact hp' l h1 v h2) hcells
   obtain ⟨c',ty',fr',hp'',hroom'⟩:=hroom
   rw [hp] at hp''
   cases hp''
   have hlen : ((es.drop e).take len).length = len:=by simp; omega
   refine ⟨[pb],.own (fun x hx => hn x (List.mem_of_mem_drop (List.mem_of_mem_take hx))) hlen hc hp (by rw [Nat.add_mul] at hroom'; omega) a1,by simp,fun k hk => ?_⟩
   simp at hk
   subst hk
   exact ⟨b,by simp,.inl ⟨_,_,hφ,rfl,hb⟩⟩
  | ref0 =>
   simp only [List.take_zero]
   exact ⟨[],.own0,.nil,by simp⟩
  | refnil =>
   simp only [List.take_zero]
   exact ⟨[],.ownnil,.nil,by simp⟩
 | _,_,_,_,.tab (b:=b) (len:=len) (n:=n) (es:=es) hb hlen hp',h,hnd => by
  cases h with
  | ref hφ hc hroom =>
   obtain ⟨hn,pb,po,c,ty,hφ',hp,hfit,hcell⟩:=hm.at_ b n es _ hb hφ
   rw [hφ] at hφ'
   simp at hφ'
   obtain ⟨rfl,rfl,rfl⟩:=hφ'
   rename_i pb po n cap
   obtain ⟨F,a1,a2,a3⟩:=tabRs (ψ:=ψ) (b:=b) (c:=c) (off:=po) (x:=0) (N:=N) (fun v hv => by
    obtain ⟨l,h1,h2⟩:=List.mem_flatten.1 hv
    exact hp' l h1 v h2) hcell (fun i n' es' hi => by
    obtain ⟨u,F,x1,x2,x3,x4⟩:=hψ b n es pb po n i n' es' hb hφ hi
    refine ⟨u,F,?_,x2,x3,fun k hk => by rw [Nat.zero_add]; exact x4 k hk⟩
    unfold World.cell? at x1
    simp only [hp] at x1
    exact x1)
   obtain ⟨c',ty',fr',hp'',hroom'⟩:=hroom
   rw [hp] at hp''
   cases hp''
   have ha1 : Rs w c (po + 0 * n) es.flatten F:=by simpa using a1
   refine ⟨pb :: F,.own hn hlen hc hp (by rw [Nat.zero_add] at hroom'; omega) ha1,List.nodup_cons.2 ⟨fun hk => ?_,a2⟩,fun k hk => ?_⟩
   ·obtain ⟨i,_,_,_,e⟩:=a3 pb hk
    exact e ⟨b,_,_,_,hb,hφ⟩
   ·rcases List.mem_cons.1 hk with rfl | hk
    ·exact ⟨b,by simp,.inl ⟨_,_,hφ,rfl,hb⟩⟩
    ·obtain ⟨i,e1,e2⟩:=a3 k hk
     exact ⟨b,by simp,.inr ⟨_,e1,e2⟩⟩
  | ref0 =>
   have he : es = []:=List.eq_nil_of_length_eq_zero hlen
   subst he
   exact ⟨[],.own0,.nil,by simp⟩
  | refnil =>
   have he : es = []:=List.eq_nil_of_length_eq_zero hlen
   subst he
   exact ⟨[],.ownnil,.nil,by simp⟩
 | _,_,_,_,.agg hf,h,hnd => by
  cases h with
  | agg hs =>
   obtain ⟨F,a1,a2,a3⟩:=FinL.sound hm hψ hf hs hnd
   exact ⟨F,.agg a1,a2,a3⟩
 | _,_,_,_,.tup hf,h,hnd => by
  cases h with
  | tup hs =>
   obtain ⟨F,a1,a2,a3⟩:=FinL.sound hm hψ hf hs hnd
   exact ⟨F,.tup a1,a2,a3⟩
theorem FinL.sound {ψ : Nat→Option (Nat × Nat)} (hm : Mem N w φ m) (hψ : OwnC N w φ m ψ) : ∀ {vs rs : List V} {ids : List Nat} {us : List Value},FinL m vs rs ids→Sl w (Yf φ m) φ vs us→ids.Nodup→∃ F,Rl w rs us F∧F.Nodup∧∀ k ∈ F,∃ b ∈ ids,Ow N w φ m ψ k b
 | _,_,_,_,.nil,.nil,_ => ⟨[],.nil,.nil,by simp⟩
 | _,_,_,_,.cons h hs,.cons hv hvs,hnd => by
  have hnd':=List.nodup_append.1 hnd
  obtain ⟨F,a1,a2,a3⟩:=Fin.sound hm hψ h hv hnd'.1
  obtain ⟨G,b1,b2,b3⟩:=FinL.sound hm hψ hs hvs hnd'.2.1
  refine ⟨F ++ G,.cons a1 b1,join_nodup hm hnd a3 b3 a2 b2,fun k hk => ?_⟩
  rcases List.mem_append.1 hk with hk | hk
  ·obtain ⟨b,hb,x⟩:=a3 k hk; exact ⟨b,by simp [hb],x⟩
  ·obtain ⟨b,hb,x⟩:=b3 k hk; exact ⟨b,by simp [hb],x⟩
theorem FinL.soundC {ψ : Nat→Option (Nat × Nat)} (hm : Mem N w φ m) (hψ : OwnC N w φ m ψ) : ∀ {vs rs : List V} {ids : List Nat} {c : Array Value} {off : Nat},FinL m vs rs ids→(∀ (i : Nat) (v : V),vs[i]? = some v→∃ u,c[off + i]? = some u∧u.oneCell' = true∧S w (Yf φ m) φ v u)→ids.Nodup →
  ∃ F,Rs w c off rs F∧F.Nodup∧∀ k ∈ F,∃ b ∈ ids,Ow N w φ m ψ k b
 | _,_,_,_,_,.nil,_,_ => ⟨[],.nil,.nil,by simp⟩
 | _,_,_,c,off,.cons h hs,hc,hnd => by
  have hnd':=List.nodup_append.1 hnd
  obtain ⟨u,u1,u2,u3⟩:=hc 0 _ rfl
  obtain ⟨F,a1,a2,a3⟩:=Fin.sound hm hψ h u3 hnd'.1
  obtain ⟨G,b1,b2,b3⟩:=FinL.soundC hm hψ hs (c:=c) (off:=off + 1) (fun i v hi => by
   obtain ⟨u,x1,x2⟩:=hc (i + 1) v (by simpa using hi)
   exact ⟨u,by rw [← x1]; congr 1; omega,x2⟩) hnd'.2.1
  refine ⟨F ++ G,.cons u1 u2 a1 b1,join_nodup hm hnd a3 b3 a2 b2,fun k hk => ?_⟩
  rcases List.mem_append.1 hk with hk | hk
  ·obtain ⟨b,hb,x⟩:=a3 k hk; exact ⟨b,by simp [hb],x⟩
  ·obtain ⟨b,hb,x⟩:=b3 k hk; exact ⟨b,by simp [hb],x⟩
end
end
def vres1 (P : Program) (st : VS) : ResultVar→Option V
 | .tmp t => some (st.t.getD t .any)
 | .cell a ty => vload P st.m ty (st.t.getD a .any)
def Qn (P : Program) (rs : List ResultVar) (st : VS) : Option V :=
 (rs.mapM (vres1 P st)).map fun vs => match vs with
  | [v] => v
  | vs => .tup vs
def resOne (tmps : Array Value) : ResultVar→Sem Value
 | .tmp t => pure (tmps.getD t undef)
 | .cell a t => do loadVar t (← asAddr (tmps.getD a undef))
theorem results_eq (fn : Func) (tmps : Array Value) : results fn tmps = (do
  let vs ← fn.results.mapM (resOne tmps)
  pure (if h : vs.size = 1 then vs[0] else .tuple vs)):=by
 unfold results
 congr 1
theorem vres_sound {P : Program} {N : Fr} {w0 : World × List Value} {w : World} {st : VS} {a : Act} {φ : Pl} {fn : Func} {v : V} (hs : SR P N w0 st a w φ) (h : Qn P fn.results.toList st = some v) : ∃ u,(results fn a.tmps).run P w = .ok u w∧S w (Yf φ st.m) φ v u:=by
 have one : ∀ (r : ResultVar) (v : V),vres1 P st r = some v→∃ u,(resOne a.tmps r).run P w = .ok u w∧S w (Yf φ st.m) φ v u:=fun r v h => by
  cases r with
  | tmp t =>
   simp only [vres1,Option.some.injEq] at h
   subst h
   exact ⟨_,rfl,hs.eval (.tmp t)⟩
  | cell x t =>
   obtain ⟨z,h1,h2⟩:=vload_run h (hs.eval (.tmp x)) hs.mem
   refine ⟨z,?_,h2⟩
   simp only [Act.eval] at h1
   show (asAddr (a.tmps.getD x undef) >>= fun y => loadVar t y).run P w = _
   generalize a.tmps.getD x undef = u at h1 ⊢
   cases u <;> simp [Instr.loadAt,Instr.sureAddr] at h1
   rename_i p
   cases p with
   | none => simp at h1
   | some p => simpa [asAddr] using h1
 have all : ∀ (l : List ResultVar) (vs : List V),l.mapM (vres1 P st) = some vs→∃ us,(l.mapM (m:=Sem) (resOne a.tmps)).run P w = .ok us w∧Sl w (Yf φ st.m) φ vs us:=by
  intro l
  induction l with
  | nil => intro vs h; simp at h; subst h; exact ⟨[],by simp,.nil⟩
  | cons r l ih =>
   intro vs h
   simp only [List.mapM_cons,Option.bind_eq_bind,Option.bind_eq_some_iff,Option.pure_def,Option.some.injEq] at h
   obtain ⟨v,h1,vs',h2,rfl⟩:=h
   obtain ⟨u,a1,a2⟩:=one r v h1
   obtain ⟨us,b1,b2⟩:=ih vs' h2
   refine ⟨u :: us,?_,.cons a2 b2⟩
   simp only [List.mapM_cons,Sem.run_bind,a1,Result.andThen_ok,b1,Sem.run_pure]
 unfold Qn at h
 cases hm : fn.results.toList.mapM (vres1 P st) with
 | none => simp [hm] at h
 | some vs =>
  simp only [hm,Option.map_some,Option.some.injEq] at h
  obtain ⟨us,h1,h2⟩:=all _ vs hm
  have hrun : (results fn a.tmps).run P w = .ok (if h : us.toArray.size = 1 then us.toArray[0] else .tuple us.toArray) w:=by
   rw [results_eq,Sem.run_bind,Array.mapM_eq_mapM_toList,Sem.run_map,h1]
   rfl
  refine ⟨_,hrun,?_⟩
  have hl:=h2.length
  match vs,us,h2,h with
  | [],[],_,h => subst h; exact .tup .nil
  | [v],[u],.cons hv _,h => subst h; exact hv
  | v1 :: v2 :: vs,u1 :: u2 :: us,h2,h => subst h; exact .tup h2
  | [],_ :: _,h2,_ => cases h2
  | [_],[],h2,_ => cases h2
  | [_],_ :: _ :: _,.cons _ h2,_ => cases h2
  | _ :: _ :: _,[],h2,_ => cases h2
  | _ :: _ :: _,[_],.cons _ h2,_ => cases h2
def VRet (P : Program) (rs : List ResultVar) (Q : V→Prop) : Exit→VS→Prop
 | .normal,s | .ret,s => ∃ v r ids,Qn P rs s = some v∧Fin s.m v r ids∧ids.Nodup∧Q r
 | _,_ => False
theorem Qk.of_body {P : Program} {f : FuncId} {fn : Func} {c : Code} {args : List V} {Q : V→Prop} (hf : P.funcs[f]? = some fn) (hb : fn.body = some c) (h : VW P c (VRet P fn.results.toList Q) { t:=args ++ List.replicate (fn.ntmps - args.length) .any,m:=[] }) : Qk P f args Q:=by
 intro w us hglob hs
 refine calls_of_wp hf hb ?_
 have hlen:=hs.length
 have hmem : Mem (fun k => k < w.heap.size) w Wi []:=by
  refine ⟨fun b n es p hb _ => ?_,fun b k po n h => ?_,fun b p h => ?_,fun b b' k po po' n n' h => ?_,⟨fun _ => none,fun b n es pb po bn i n' es' h => by simp at h⟩⟩
  ·simp at hb
  ·cases h
  ·cases h
  ·cases h
 have hev : Ev w (fun _ => False) Wi w (Yf Wi []) Wi:=⟨fun k _ _ => ⟨rfl,fun ⟨b,x,po,n,hb,_⟩ => by simp at hb⟩,fun _ _ h => h,fun _ _ h => h⟩
 have hsr : SR P (fun k => k < w.heap.size) (w,[]) { t:=args ++ List.replicate (fn.ntmps - args.length) .any,m:=[] } { tmps:=us.toArray ++ Array.replicate (fn.ntmps - us.toArray.size) undef,defers:=[] } w Wi:=by
  refine ⟨rfl,by simp [hlen],fun i v hi => ?_,hmem,Bel.refl _ _,fun _ h => h,.nil,hglob,hglob.gk⟩
  simp only at hi
  rw [List.getElem?_append] at hi
  split at hi
  ·rename_i hlt
   obtain ⟨u,a1,a2⟩:=hs.get hi
   refine ⟨u,?_,a2.ev hev⟩
   rw [Array.getElem?_append_left (by simp; omega)]
   simpa using a1
  ·rename_i hge
   have hlt2 : i - args.length < fn.ntmps - args.length:=by
    have:=(List.getElem?_eq_some_iff.1 hi).1
    simpa using this
   have hv : v = .any:=by
    have:=List.mem_of_getElem? hi
    exact (List.mem_replicate.1 this).2
   subst hv
   refine ⟨undef,?_,.any⟩
   rw [Array.getElem?_append_right (by simp; omega)]
   have hus : us.toArray.size = args.length:=by simp [hlen]
   rw [hus,Array.getElem?_replicate,if_pos hlt2]
 refine wp_mono (h (fun k => k < w.heap.size) (w,[]) _ w Wi hsr) fun e a' w' ⟨s,φ',hq,hs'⟩ => ?_
 have key : (∃ v r ids,Qn P fn.results.toList s = some v∧Fin s.m v r ids∧ids.Nodup∧Q r)→a'.defers = []∧∃ v,(results fn a'.tmps).run P w' = .ok v w'∧∃ r u F,Ending.returned v = .returned u∧Q r∧RV w' r u F∧F.Nodup∧(∀ k ∈ F,w.heap.size≤k∧k < w'.heap.size)∧Below w.heap.size w w':=by
  intro ⟨v,r,ids,h1,h2,h3,h4⟩
  obtain ⟨u,b1,b2⟩:=vres_sound hs' h1
  obtain ⟨ψ,hψ⟩:=hs'.mem.own
  obtain ⟨F,c1,c2,c3⟩:=h2.sound hs'.mem hψ b2 h3
  exact ⟨hs'.defers,u,b1,r,u,F,rfl,h4,c1,c2,fun k hk => by
   obtain ⟨b,_,hp⟩:=c3 k hk
   exact ⟨Nat.not_lt.1 (hp.new hs'.mem),hp.lt hs'.mem⟩,⟨hs'.below.os,hs'.below.tape,hs'.below.output,hs'.below.size,hs'.below.block⟩⟩
 cases e with
 | normal => exact key hq
 | ret => exact key hq
 | exit id => exact hq.elim
 | goto l => exact hq.elim
 | panic c => exact hq.elim
 | outgrown => exact hq.elim
end Go.VL
