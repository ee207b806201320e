/- Calls: arguments as data, results with memory of their own. -/
import Derived.Test.YtboeddbhfnlpaaaVxAlloc
namespace Go.VL
open Go.RowKit
set_option linter.unusedSimpArgs false
set_option linter.unusedVariables false

theorem frz_plain {v : V} (h : plainV v = true) : frz v = v := by cases v <;> first | rfl | (cases h; done)

theorem frzL_plain : ∀ {l : List V}, (∀ v ∈ l, plainV v = true) → frzL l = l
  | [], _ => rfl
  | v :: l, h => by rw [frzL, frz_plain (h v (by simp)), frzL_plain fun x hx => h x (by simp [hx])]

theorem frzE_plain : ∀ {l : List (List V)}, (∀ e ∈ l, ∀ v ∈ e, plainV v = true) → frzE l = l
  | [], _ => rfl
  | v :: l, h => by rw [frzE, frzL_plain (h v (by simp)), frzE_plain fun x hx => h x (by simp [hx])]

theorem frzL_length : ∀ l, (frzL l).length = l.length
  | [] => rfl
  | v :: l => by simp [frzL, frzL_length l]

theorem frzL_append : ∀ a b, frzL (a ++ b) = frzL a ++ frzL b
  | [], b => rfl
  | v :: a, b => by simp [frzL, frzL_append a b]

theorem frzE_spec : ∀ l, (frzE l).length = l.length ∧ (frzE l).flatten = frzL l.flatten ∧ ∀ n, (∀ e ∈ l, e.length = n) → ∀ e ∈ frzE l, e.length = n
  | [] => ⟨rfl, rfl, fun _ _ e he => by cases he⟩
  | x :: l => by
    obtain ⟨h1, h2, h3⟩ := frzE_spec l
    refine ⟨by simp [frzE, h1], by simp [frzE, h2, frzL_append], fun n hn e he => ?_⟩
    simp only [frzE, List.mem_cons] at he
    rcases he with rfl | he
    · rw [frzL_length]; exact hn x (by simp)
    · exact h3 n (fun e he => hn e (by simp [he])) e he

mutual
theorem frz_frz : ∀ v : V, frz (frz v) = frz v
  | .own n es => rfl
  | .agg cs => by simp only [frz]; rw [frzL_frzL cs]
  | .tup cs => by simp only [frz]; rw [frzL_frzL cs]
  | .i _ _ => rfl
  | .b _ => rfl
  | .f _ _ => rfl
  | .str _ => rfl
  | .s _ => rfl
  | .nil => rfl
  | .sl _ _ => rfl
  | .ref _ _ _ => rfl
  | .refc _ _ _ _ _ => rfl
  | .ptr _ _ _ => rfl
  | .cptr _ _ => rfl
  | .err => rfl
  | .any => rfl
theorem frzL_frzL : ∀ l : List V, frzL (frzL l) = frzL l
  | [] => rfl
  | v :: l => by simp only [frzL]; rw [frz_frz v, frzL_frzL l]
end

theorem cell_of {w : World} {b off : Nat} {c : Array Value} {e : TypeId} {fr : Nat × Nat} {u : Value} (hb : w.heap[b]? = some (.cells c e fr)) (hc : c[off]? = some u) : w.cell? ⟨b, off, none⟩ = some u := by
  simp [World.cell?, hb, hc]

section
variable {w : World} {O : Nat → Prop}
mutual
theorem RV.frz : ∀ {v : V} {u : Value} {F : List Nat} {φ : Pl}, RV w v u F → (∀ k ∈ F, ¬ O k) → S w O φ (VL.frz v) u
  | _, _, _, _, .pl hp h, _ => by rw [frz_plain hp]; exact h.plain hp
  | _, _, _, _, .own0, _ => S.sl (es := []) (len := 0) (cap := 0) (fun _ h => by cases h) rfl (Nat.le_refl _) .nil
  | _, _, _, _, .ownnil, _ => S.slnil
  | _, _, _, _, .own (n := n) (es := es) (b := b) hn hl hc hb hr hs, hF => by
    obtain ⟨h1, h2, h3⟩ := frzE_spec es
    refine .sl (h3 n hn) (by rw [h1]; exact hl) hc ?_
    rw [h2]
    exact Rs.frz hs hb (fun k hk => hF k (by simp [hk])) (hF b (by simp))
  | _, _, _, _, .agg h, hF => .agg (Rl.frz h hF)
  | _, _, _, _, .tup h, hF => .tup (Rl.frz h hF)
  | _, _, _, _, .fz h e, hF => by
    subst e
    rw [frz_frz]
    exact RV.frz h hF
theorem Rs.frz : ∀ {c : Array Value} {off : Nat} {vs : List V} {F : List Nat} {φ : Pl} {b : Nat} {e : TypeId}, Rs w c off vs F → w.heap[b]? = some (.cells c e (0, 0)) → (∀ k ∈ F, ¬ O k) → ¬ O b → Ss w O φ b off (frzL vs)
  | _, _, _, _, _, _, _, .nil, _, _, _ => .nil
  | _, _, _, _, _, _, _, .cons hc h1 hv hs, hb, hF, hO => .cons hO (cell_of hb hc) (RV.frz hv fun k hk => hF k (by simp [hk])) (Rs.frz hs hb (fun k hk => hF k (by simp [hk])) hO)
theorem Rl.frz : ∀ {vs : List V} {us : List Value} {F : List Nat} {φ : Pl}, Rl w vs us F → (∀ k ∈ F, ¬ O k) → Sl w O φ (frzL vs) us
  | _, _, _, _, .nil, _ => .nil
  | _, _, _, _, .cons hv hs, hF => .cons (RV.frz hv fun k hk => hF k (by simp [hk])) (Rl.frz hs fun k hk => hF k (by simp [hk]))
end
end

section
variable {w : World}
theorem RV.pinv {v : V} {u : Value} {F : List Nat} (h : RV w v u F) (hp : plainV v = true) : S w (fun _ => False) noPl v u := by
  have := h.frz (O := fun _ => False) (φ := noPl) fun _ _ h => h
  rwa [frz_plain hp] at this
theorem RV.pF : ∀ {v : V} {u : Value} {F : List Nat}, RV w v u F → plainV v = true → F = []
  | _, _, _, .pl _ _, _ => rfl
  | _, _, _, .own0, _ => rfl
  | _, _, _, .ownnil, _ => rfl
  | _, _, _, .own _ _ _ _ _ _, hp => by cases hp
  | _, _, _, .agg _, hp => by cases hp
  | _, _, _, .tup _, hp => by cases hp
  | _, _, _, .fz (v := v) h e, hp => by
    subst e
    exact RV.pF h (by cases v <;> first | exact hp | (cases hp; done))
theorem frz_agg {v : V} {cs : List V} (h : .agg cs = frz v) : ∃ cs0, v = .agg cs0 ∧ cs = frzL cs0 := by
  cases v <;> simp [frz] at h
  exact ⟨_, rfl, h⟩
theorem frz_tup {v : V} {cs : List V} (h : .tup cs = frz v) : ∃ cs0, v = .tup cs0 ∧ cs = frzL cs0 := by
  cases v <;> simp [frz] at h
  exact ⟨_, rfl, h⟩
theorem Rl.fz : ∀ {vs : List V} {us : List Value} {F : List Nat}, Rl w vs us F → Rl w (frzL vs) us F
  | _, _, _, .nil => .nil
  | _, _, _, .cons hv hs => .cons (.fz hv rfl) (Rl.fz hs)
theorem RV.agg_inv : ∀ {v : V} {u : Value} {F : List Nat}, RV w v u F → ∀ cs, v = .agg cs → ∃ us : List Value, u = .agg us.toArray ∧ Rl w cs us F
  | _, _, _, .pl hp _, cs, e => by subst e; cases hp
  | _, _, _, .own0, cs, e => by cases e
  | _, _, _, .ownnil, cs, e => by cases e
  | _, _, _, .own _ _ _ _ _ _, cs, e => by cases e
  | _, _, _, .agg h, cs, e => by cases e; exact ⟨_, rfl, h⟩
  | _, _, _, .tup _, cs, e => by cases e
  | _, _, _, .fz h e', cs, e => by
    subst e
    obtain ⟨cs0, e1, e2⟩ := frz_agg e'
    obtain ⟨us, h1, h2⟩ := RV.agg_inv h cs0 e1
    subst e2
    exact ⟨us, h1, h2.fz⟩
theorem RV.tup_inv : ∀ {v : V} {u : Value} {F : List Nat}, RV w v u F → ∀ cs, v = .tup cs → ∃ us : List Value, u = .tuple us.toArray ∧ Rl w cs us F
  | _, _, _, .pl hp _, cs, e => by subst e; cases hp
  | _, _, _, .own0, cs, e => by cases e
  | _, _, _, .ownnil, cs, e => by cases e
  | _, _, _, .own _ _ _ _ _ _, cs, e => by cases e
  | _, _, _, .agg _, cs, e => by cases e
  | _, _, _, .tup h, cs, e => by cases e; exact ⟨_, rfl, h⟩
  | _, _, _, .fz h e', cs, e => by
    subst e
    obtain ⟨cs0, e1, e2⟩ := frz_tup e'
    obtain ⟨us, h1, h2⟩ := RV.tup_inv h cs0 e1
    subst e2
    exact ⟨us, h1, h2.fz⟩
theorem frz_own {v : V} {n : Nat} {es : List (List V)} (h : .own n es = frz v) : False := by cases v <;> simp [frz] at h
end

/-! ### What the caller makes of a result -/
mutual
/-- 'Ex k v v' l': the result v is taken as v'; l are the new blocks, the first being number k. -/
inductive Ex : Nat → V → V → VM → Prop
  | pl {k : Nat} {v : V} (hp : plainV v = true) : Ex k v v []
  | own {k n : Nat} {es : List (List V)} : Ex k (.own n es) (.ref k 0 es.length) [some (n, frzE es)]
  | kept {k n : Nat} {es : List (List V)} (hp : ∀ l ∈ es, ∀ v ∈ l, plainV v = true ∨ ∃ n' es', v = .own n' es') : Ex k (.own n es) (.ref k 0 es.length) [some (n, es)]
  | fz {k : Nat} {v : V} : Ex k v (frz v) []
  | agg {k : Nat} {cs cs' : List V} {l : VM} (h : ExL k cs cs' l) : Ex k (.agg cs) (.agg cs') l
  | tup {k : Nat} {cs cs' : List V} {l : VM} (h : ExL k cs cs' l) : Ex k (.tup cs) (.tup cs') l
inductive ExL : Nat → List V → List V → VM → Prop
  | nil {k : Nat} : ExL k [] [] []
  | cons {k : Nat} {v v' : V} {vs vs' : List V} {l l' : VM} (h : Ex k v v' l) (hs : ExL (k + l.length) vs vs' l') : ExL k (v :: vs) (v' :: vs') (l ++ l')
end

theorem Ex.own_plain {k n : Nat} {es : List (List V)} (h : ∀ e ∈ es, ∀ v ∈ e, plainV v = true) : Ex k (.own n es) (.ref k 0 es.length) [some (n, es)] := by
  have := Ex.own (k := k) (n := n) (es := es)
  rwa [frzE_plain h] at this

/-- The places of the new blocks: 'none': a block that needs none. -/
abbrev Places := List (Option (Nat × Nat × Nat))

/-- The places 'pl' fit the blocks 'l' in world w. -/
def Fits (w : World) (O : Nat → Prop) (φ : Pl) (k : Nat) (l : VM) (pl : Places) : Prop :=
  ∀ (i n : Nat) (es : List (List V)) (p : Nat × Nat × Nat), l[i]? = some (some (n, es)) → pl[i]? = some (some p) → p.2.2 = n ∧ (∀ e ∈ es, e.length = n) ∧
    ∃ c e, w.heap[p.1]? = some (.cells c e (0, 0)) ∧ p.2.1 + es.length * n ≤ c.size ∧ ∀ (i : Nat) (v : V), es.flatten[i]? = some v → ∃ u, c[p.2.1 + i]? = some u ∧ u.oneCell' = true ∧ S w O φ v u

def blocksOf (pl : Places) : List Nat := pl.filterMap fun p => p.map (·.1)

theorem Rs.get {w : World} {O : Nat → Prop} {φ : Pl} : ∀ {c : Array Value} {off : Nat} {vs : List V} {F : List Nat}, Rs w c off vs F → (∀ k ∈ F, ¬ O k) → ∀ {i : Nat} {v : V}, (frzL vs)[i]? = some v → ∃ u, c[off + i]? = some u ∧ u.oneCell' = true ∧ S w O φ v u
  | _, _, _, _, .nil, _, i, v, h => by simp [frzL] at h
  | _, _, _, _, .cons hc h1 hv hs, hF, 0, v, h => by
    simp [frzL] at h; subst h
    exact ⟨_, hc, h1, hv.frz fun k hk => hF k (by simp [hk])⟩
  | _, _, _, _, .cons hc h1 hv hs, hF, i + 1, v, h => by
    simp [frzL] at h
    obtain ⟨u, a1, a2⟩ := Rs.get hs (fun k hk => hF k (by simp [hk])) h
    exact ⟨u, by rw [← a1]; congr 1; omega, a2⟩

section
variable {w : World}
theorem RV.keptS {O : Nat → Prop} {φ : Pl} {v : V} {u : Value} {F : List Nat} (h : RV w v u F) (hp : plainV v = true ∨ ∃ n' es', v = .own n' es') (hF : ∀ k ∈ F, ¬ O k) : S w O φ v u := by
  rcases hp with hp | ⟨n, es, rfl⟩
  · exact (h.pinv hp).plain hp
  · exact .own (h.frz (φ := noPl) hF)
theorem Rs.keptGet {O : Nat → Prop} {φ : Pl} : ∀ {c : Array Value} {off : Nat} {vs : List V} {F : List Nat}, Rs w c off vs F → (∀ v ∈ vs, plainV v = true ∨ ∃ n' es', v = .own n' es') → (∀ k ∈ F, ¬ O k) → ∀ {i : Nat} {v : V}, vs[i]? = some v → ∃ u, c[off + i]? = some u ∧ u.oneCell' = true ∧ S w O φ v u
  | _, _, _, _, .nil, _, _, i, v, h => by simp at h
  | _, _, _, _, .cons hc h1 hv hs, hp, hF, 0, v, h => by
    simp at h; subst h
    exact ⟨_, hc, h1, hv.keptS (hp _ (by simp)) fun k hk => hF k (by simp [hk])⟩
  | _, _, _, _, .cons hc h1 hv hs, hp, hF, i + 1, v, h => by
    simp at h
    obtain ⟨u, a1, a2⟩ := Rs.keptGet hs (fun v hv => hp v (by simp [hv])) (fun k hk => hF k (by simp [hk])) h
    exact ⟨u, by rw [← a1]; congr 1; omega, a2⟩

open Classical in
/-- Whose the blocks behind a row of cells are. -/
theorem Rs.owns : ∀ {c : Array Value} {off : Nat} {vs : List V} {F : List Nat}, Rs w c off vs F → F.Nodup → ∃ χ : Nat → Option Nat, ∀ (i n' : Nat) (es' : List (List V)), vs[i]? = some (.own n' es') →
    ∃ u Fi, c[off + i]? = some u ∧ RV w (.own n' es') u Fi ∧ Fi.Nodup ∧ ∀ q ∈ Fi, q ∈ F ∧ χ q = some i
  | _, _, _, _, .nil, _ => ⟨fun _ => none, fun i n' es' h => by simp at h⟩
  | _, off, _, _, .cons (F := F) (G := G) hc h1 hv hs, hnd => by
    obtain ⟨hF, hG, hdis⟩ := List.nodup_append.1 hnd
    obtain ⟨χ, hχ⟩ := Rs.owns hs hG
    refine ⟨fun q => if q ∈ F then some 0 else (χ q).map (· + 1), fun i n' es' h => ?_⟩
    cases i with
    | zero =>
      simp at h
      subst h
      exact ⟨_, F, hc, hv, hF, fun q hq => ⟨by simp [hq], by simp [hq]⟩⟩
    | succ i =>
      simp at h
      obtain ⟨u, Fi, a1, a2, a3, a4⟩ := hχ i n' es' h
      refine ⟨u, Fi, by rw [← a1]; congr 1; omega, a2, a3, fun q hq => ?_⟩
      obtain ⟨b1, b2⟩ := a4 q hq
      have : ¬ q ∈ F := fun h => hdis q h q b1 rfl
      exact ⟨by simp [b1], by simp [this, b2]⟩

/-- Whose the blocks are that stay closed behind a result. -/
def Owns (w : World) (k : Nat) (l : VM) (pl : Places) (F : List Nat) (χ : Nat → Option (Nat × Nat)) : Prop :=
  ∀ (x n : Nat) (es : List (List V)) (p : Nat × Nat × Nat) (i n' : Nat) (es' : List (List V)), l[x]? = some (some (n, es)) → pl[x]? = some (some p) → es.flatten[i]? = some (.own n' es') →
    ∃ u Fi, w.cell? ⟨p.1, p.2.1 + i, none⟩ = some u ∧ RV w (.own n' es') u Fi ∧ Fi.Nodup ∧ ∀ q ∈ Fi, χ q = some (k + x, i) ∧ q ∈ F ∧ q ∉ blocksOf pl
end

theorem frz_noOwn (v : V) (n : Nat) (es : List (List V)) : frz v ≠ .own n es := by cases v <;> simp [frz]
theorem frzL_noOwn : ∀ (l : List V) (v : V), v ∈ frzL l → ∀ n es, v ≠ .own n es
  | [], v, h => by simp [frzL] at h
  | x :: l, v, h => by
    simp only [frzL, List.mem_cons] at h
    rcases h with rfl | h
    · exact frz_noOwn x
    · exact frzL_noOwn l v h

section
variable {w : World}
mutual
theorem Ex.place : ∀ {k : Nat} {v v' : V} {l : VM} {u : Value} {F : List Nat}, Ex k v v' l → RV w v u F → F.Nodup →
    ∃ (pl : Places) (χ : Nat → Option (Nat × Nat)), pl.length = l.length ∧ (blocksOf pl).Nodup ∧ (∀ b ∈ blocksOf pl, b ∈ F ∧ b < w.heap.size) ∧ Owns w k l pl F χ ∧
      ∀ (O : Nat → Prop) (φ : Pl), (∀ i p, pl[i]? = some (some p) → φ (k + i) = some p) → (∀ b ∈ F, O b → b ∈ blocksOf pl) → S w O φ v' u ∧ Fits w O φ k l pl
  | _, _, _, _, _, _, .pl hp, hr, _ => by
    refine ⟨[], fun _ => none, rfl, .nil, by simp [blocksOf], fun x n es p i n' es' h => by simp at h, fun O φ _ _ => ⟨?_, fun i n es p hi => by simp at hi⟩⟩
    exact (hr.pinv hp).plain hp
  | k, _, _, _, _, _, .own, hr, hnd => by
    cases hr with
    | pl hp _ => cases hp
    | fz _ e => exact (frz_own e).elim
    | own0 =>
      refine ⟨[none], fun _ => none, rfl, by simp [blocksOf], by simp [blocksOf], fun x n es p i n' es' _ h => by (rcases x with _ | x <;> simp at h), fun O φ _ _ => ⟨.ref0, fun i n es p hi hp => ?_⟩⟩
      rcases i with _ | i
      · simp at hp
      · simp at hi
    | ownnil =>
      refine ⟨[none], fun _ => none, rfl, by simp [blocksOf], by simp [blocksOf], fun x n es p i n' es' _ h => by (rcases x with _ | x <;> simp at h), fun O φ _ _ => ⟨.refnil, fun i n es p hi hp => ?_⟩⟩
      rcases i with _ | i
      · simp at hp
      · simp at hi
    | own hn hl hc hb hr hs =>
      rename_i n es len b off cap c e F
      obtain ⟨h1, h2, h3⟩ := frzE_spec es
      refine ⟨[some (b, off, n)], fun _ => none, rfl, by simp [blocksOf], fun b' hb' => ?_, fun x n1 es1 p i n' es' hx _ hi => ?_, fun O φ hφ hO => ⟨?_, fun i n' es' p hi hp => ?_⟩⟩
      · simp [blocksOf] at hb'
        subst hb'
        exact ⟨by simp, (Array.getElem?_eq_some_iff.1 hb).1⟩
      · rcases x with _ | x
        · simp at hx
          obtain ⟨rfl, rfl⟩ := hx
          rw [h2] at hi
          exact absurd rfl (frzL_noOwn _ _ (List.mem_of_getElem? hi) _ _)
        · simp at hx
      · have := hφ 0 _ rfl
        rw [Nat.add_zero] at this
        rw [hl]
        refine .ref' this hc ⟨c, e, _, hb, ?_⟩ (by simp)
        rw [Nat.zero_add]; exact hr
      · rcases i with _ | i
        · simp at hi hp
          obtain ⟨rfl, rfl⟩ := hi
          subst hp
          refine ⟨rfl, h3 _ hn, c, e, hb, ?_, fun i v hi => ?_⟩
          · rw [h1, hl]
            have := Nat.mul_le_mul_right n hc
            dsimp only
            omega
          · rw [h2] at hi
            refine Rs.get hs (fun k hk hOk => ?_) hi
            have := hO k (by simp [hk]) hOk
            simp [blocksOf] at this
            subst this
            simp at hnd
            exact hnd.1 hk
        · simp at hi
  | k, _, _, _, _, _, .kept hkp, hr, hnd => by
    cases hr with
    | pl hp _ => cases hp
    | fz _ e => exact (frz_own e).elim
    | own0 =>
      refine ⟨[none], fun _ => none, rfl, by simp [blocksOf], by simp [blocksOf], fun x n es p i n' es' _ h => by (rcases x with _ | x <;> simp at h), fun O φ _ _ => ⟨.ref0, fun i n es p hi hp => ?_⟩⟩
      rcases i with _ | i
      · simp at hp
      · simp at hi
    | ownnil =>
      refine ⟨[none], fun _ => none, rfl, by simp [blocksOf], by simp [blocksOf], fun x n es p i n' es' _ h => by (rcases x with _ | x <;> simp at h), fun O φ _ _ => ⟨.refnil, fun i n es p hi hp => ?_⟩⟩
      rcases i with _ | i
      · simp at hp
      · simp at hi
    | own hn hl hc hb hr hs =>
      rename_i n es len b off cap c e F
      obtain ⟨χ, hχ⟩ := Rs.owns hs (List.nodup_cons.1 hnd).2
      have hkp' : ∀ v ∈ es.flatten, plainV v = true ∨ ∃ n' es', v = .own n' es' := fun v hv => by
        obtain ⟨l, l1, l2⟩ := List.mem_flatten.1 hv
        exact hkp l l1 v l2
      refine ⟨[some (b, off, n)], fun q => (χ q).map fun i => (k, i), rfl, by simp [blocksOf], fun b' hb' => ?_, fun x n1 es1 p i n' es' hx hpx hi => ?_, fun O φ hφ hO => ⟨?_, fun i n' es' p hi hp => ?_⟩⟩
      · simp [blocksOf] at hb'
        subst hb'
        exact ⟨by simp, (Array.getElem?_eq_some_iff.1 hb).1⟩
      · rcases x with _ | x
        · simp at hx hpx
          obtain ⟨rfl, rfl⟩ := hx
          subst hpx
          obtain ⟨u, Fi, a1, a2, a3, a4⟩ := hχ i n' es' hi
          refine ⟨u, Fi, cell_of hb a1, a2, a3, fun q hq => ?_⟩
          obtain ⟨b1, b2⟩ := a4 q hq
          refine ⟨by simp [b2], by simp [b1], ?_⟩
          simp only [blocksOf, List.filterMap_cons, Option.map_some, List.filterMap_nil, List.mem_singleton]
          intro he
          subst he
          exact (List.nodup_cons.1 hnd).1 b1
        · simp at hx
      · have := hφ 0 _ rfl
        rw [Nat.add_zero] at this
        rw [hl]
        refine .ref' this hc ⟨c, e, _, hb, ?_⟩ (by simp)
        rw [Nat.zero_add]; exact hr
      · rcases i with _ | i
        · simp at hi hp
          obtain ⟨rfl, rfl⟩ := hi
          subst hp
          refine ⟨rfl, hn, c, e, hb, ?_, fun i v hi => ?_⟩
          · rw [hl]
            have := Nat.mul_le_mul_right n hc
            dsimp only
            omega
          · refine Rs.keptGet hs hkp' (fun k hk hOk => ?_) hi
            have := hO k (by simp [hk]) hOk
            simp [blocksOf] at this
            subst this
            simp at hnd
            exact hnd.1 hk
        · simp at hi
  | _, _, _, _, _, _, .fz, hr, _ => by
    refine ⟨[], fun _ => none, rfl, .nil, by simp [blocksOf], fun x n es p i n' es' h => by simp at h, fun O φ _ hO => ⟨hr.frz fun k hk hOk => ?_, fun i n es p hi => by simp at hi⟩⟩
    have := hO k hk hOk
    simp [blocksOf] at this
  | _, _, _, _, _, _, .agg h, hr, hnd => by
    obtain ⟨us, rfl, hs⟩ := RV.agg_inv hr _ rfl
    · obtain ⟨pl, χ, h1, h2, h3, h5, h4⟩ := ExL.place h hs hnd
      exact ⟨pl, χ, h1, h2, h3, h5, fun O φ a b => ⟨.agg (h4 O φ a b).1, (h4 O φ a b).2⟩⟩
  | _, _, _, _, _, _, .tup h, hr, hnd => by
    obtain ⟨us, rfl, hs⟩ := RV.tup_inv hr _ rfl
    · obtain ⟨pl, χ, h1, h2, h3, h5, h4⟩ := ExL.place h hs hnd
      exact ⟨pl, χ, h1, h2, h3, h5, fun O φ a b => ⟨.tup (h4 O φ a b).1, (h4 O φ a b).2⟩⟩
theorem ExL.place : ∀ {k : Nat} {vs vs' : List V} {l : VM} {us : List Value} {F : List Nat}, ExL k vs vs' l → Rl w vs us F → F.Nodup →
    ∃ (pl : Places) (χ : Nat → Option (Nat × Nat)), pl.length = l.length ∧ (blocksOf pl).Nodup ∧ (∀ b ∈ blocksOf pl, b ∈ F ∧ b < w.heap.size) ∧ Owns w k l pl F χ ∧
      ∀ (O : Nat → Prop) (φ : Pl), (∀ i p, pl[i]? = some (some p) → φ (k + i) = some p) → (∀ b ∈ F, O b → b ∈ blocksOf pl) → Sl w O φ vs' us ∧ Fits w O φ k l pl
  | _, _, _, _, _, _, .nil, .nil, _ => by
    exact ⟨[], fun _ => none, rfl, .nil, by simp [blocksOf], fun x n es p i n' es' h => by simp at h, fun O φ _ _ => ⟨.nil, fun i n es p hi => by simp at hi⟩⟩
  | k, _, _, _, _, _, .cons (l := l) (l' := l') h hs, .cons (F := F) (G := G) hv hvs, hnd => by
    obtain ⟨hF, hG, hdis⟩ := List.nodup_append.1 hnd
    obtain ⟨pl, χ, h1, h2, h3, h5, h4⟩ := Ex.place h hv hF
    obtain ⟨pl', χ', g1, g2, g3, g5, g4⟩ := ExL.place hs hvs hG
    have hbl : blocksOf (pl ++ pl') = blocksOf pl ++ blocksOf pl' := by simp [blocksOf]
    refine ⟨pl ++ pl', fun q => if F.contains q then χ q else χ' q, by simp [h1, g1], ?_, fun b hb => ?_, fun x n es p i n' es' hx hp hi => ?_, fun O φ hφ hO => ?_⟩
    · rw [hbl]
      exact List.nodup_append.2 ⟨h2, g2, fun a ha b hb => hdis a (h3 a ha).1 b (g3 b hb).1⟩
    · rw [hbl, List.mem_append] at hb
      rcases hb with hb | hb
      · exact ⟨by simp [(h3 b hb).1], (h3 b hb).2⟩
      · exact ⟨by simp [(g3 b hb).1], (g3 b hb).2⟩
    · by_cases hlt : x < l.length
      · rw [List.getElem?_append_left hlt] at hx
        rw [List.getElem?_append_left (by omega)] at hp
        obtain ⟨u, Fi, a1, a2, a3, a4⟩ := h5 x n es p i n' es' hx hp hi
        refine ⟨u, Fi, a1, a2, a3, fun q hq => ?_⟩
        obtain ⟨b1, b2, b3⟩ := a4 q hq
        refine ⟨by simp [b2, b1], by simp [b2], ?_⟩
        rw [hbl, List.mem_append]
        rintro (h | h)
        · exact b3 h
        · exact hdis q b2 q (g3 q h).1 rfl
      · rw [List.getElem?_append_right (by omega)] at hx
        rw [List.getElem?_append_right (by omega), h1] at hp
        obtain ⟨u, Fi, a1, a2, a3, a4⟩ := g5 _ n es p i n' es' hx hp hi
        refine ⟨u, Fi, a1, a2, a3, fun q hq => ?_⟩
        obtain ⟨b1, b2, b3⟩ := a4 q hq
        have hnq : ¬ q ∈ F := fun h => hdis q h q b2 rfl
        refine ⟨?_, by simp [b2], ?_⟩
        · have : F.contains q = false := by simpa using hnq
          simp only [this, Bool.false_eq_true, if_false]
          rw [b1]
          congr 2
          omega
        · rw [hbl, List.mem_append]
          rintro (h | h)
          · exact hnq (h3 q h).1
          · exact b3 h
    · have a1 := h4 O φ (fun i p hp => hφ i p (by
        have hlt : i < pl.length := (List.getElem?_eq_some_iff.1 hp).1
        rw [List.getElem?_append_left hlt]; exact hp)) (fun b hb hOb => by
        have := hO b (by simp [hb]) hOb
        rw [hbl, List.mem_append] at this
        rcases this with h | h
        · exact h
        · exact absurd rfl (hdis b hb b (g3 b h).1))
      have a2 := g4 O φ (fun i p hp => by
        have := hφ (l.length + i) p (by rw [← h1, List.getElem?_append_right (by omega)]; rw [show pl.length + i - pl.length = i by omega]; exact hp)
        rwa [show k + (l.length + i) = k + l.length + i by omega] at this) (fun b hb hOb => by
        have := hO b (by simp [hb]) hOb
        rw [hbl, List.mem_append] at this
        rcases this with h | h
        · exact absurd rfl (hdis b (h3 b h).1 b hb)
        · exact h)
      refine ⟨.cons a1.1 a2.1, fun i n es p hi hp => ?_⟩
      by_cases hlt : i < l.length
      · rw [List.getElem?_append_left hlt] at hi
        rw [List.getElem?_append_left (by omega)] at hp
        exact a1.2 i n es p hi hp
      · rw [List.getElem?_append_right (by omega)] at hi
        rw [List.getElem?_append_right (by omega), h1] at hp
        exact a2.2 _ n es p hi hp
end
end
end Go.VL
