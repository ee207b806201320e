/- The logic of code: sequences, branches, loops; a function by its body. -/
import Derived.Test.YtboeddbhfnlpaaaVxWp
import Derived.Deep.LoopGhost
namespace Go.VL
open Go.RowKit
set_option linter.unusedSimpArgs false
set_option linter.unusedVariables false

def vthen (next : VS → Prop) (Q : Exit → VS → Prop) : Exit → VS → Prop
  | .normal, s => next s
  | e, s => Q e s

def vblock (id : Nat) (Q : Exit → VS → Prop) : Exit → VS → Prop
  | .exit i, s => if i = id then Q .normal s else Q (.exit i) s
  | e, s => Q e s

/-- A judgement on code. -/
def VW (P : Program) (c : Code) (Q : Exit → VS → Prop) (st : VS) : Prop :=
  ∀ (N : Fr) (w0 : World × List Value) (a : Act) (w : World) (φ : Pl), SR P N w0 st a w φ → c.wp P (fun e a' w' => ∃ st' φ', Q e st' ∧ SR P N w0 st' a' w' φ') a w

/-- Whatever fits s fits s'. -/
def Ent (s s' : VS) : Prop := ∀ (P : Program) (N : Fr) (w0 : World × List Value) (a : Act) (w : World) (φ : Pl), SR P N w0 s a w φ → ∃ φ', SR P N w0 s' a w φ'

theorem Ent.refl (s : VS) : Ent s s := fun _ _ _ _ _ φ h => ⟨φ, h⟩
theorem Ent.trans {a b c : VS} (h : Ent a b) (k : Ent b c) : Ent a c := fun P N w0 x w φ hs => by
  obtain ⟨φ', h1⟩ := h P N w0 x w φ hs
  exact k P N w0 x w φ' h1

section
variable {P : Program} {Q : Exit → VS → Prop} {st : VS}

theorem VW.ent {c : Code} {s : VS} (he : Ent st s) (h : VW P c Q s) : VW P c Q st := fun N w0 a w φ hs => by
  obtain ⟨φ', hs'⟩ := he P N w0 a w φ hs
  exact h N w0 a w φ' hs'

theorem VL.ent {ops : Array Oper} {l : List Oper} {s : VS} (he : Ent st s) (h : VL P ops Q l s) : VL P ops Q l st := fun N w0 a w φ hs => by
  obtain ⟨φ', hs'⟩ := he P N w0 a w φ hs
  exact h N w0 a w φ' hs'

theorem VW.mono {c : Code} {Q' : Exit → VS → Prop} (h : VW P c Q st) (hq : ∀ e s, Q e s → Q' e s) : VW P c Q' st := fun N w0 a w φ hs =>
  wp_mono (h N w0 a w φ hs) fun e a' w' ⟨s, φ', h1, h2⟩ => ⟨s, φ', hq e s h1, h2⟩

theorem VW.skip (h : Q .normal st) : VW P .skip Q st := fun N w0 a w φ hs => wp_skip ⟨st, φ, h, hs⟩

theorem VW.exit {id : Nat} (h : Q (.exit id) st) : VW P (.exit id) Q st := fun N w0 a w φ hs => wp_exit ⟨st, φ, h, hs⟩

theorem VW.ret (h : Q .ret st) : VW P .ret Q st := fun N w0 a w φ hs => wp_ret ⟨st, φ, h, hs⟩

theorem VW.seq {x y : Code} (h : VW P x (vthen (VW P y Q) Q) st) : VW P (.seq x y) Q st := fun N w0 a w φ hs => by
  refine wp_seq (wp_mono (h N w0 a w φ hs) fun e a' w' ⟨s, φ', h1, h2⟩ => ?_)
  cases e with
  | normal => exact h1 N w0 a' w' φ' h2
  | exit id => exact ⟨s, φ', h1, h2⟩
  | goto l => exact ⟨s, φ', h1, h2⟩
  | ret => exact ⟨s, φ', h1, h2⟩
  | panic c => exact ⟨s, φ', h1, h2⟩
  | outgrown => exact ⟨s, φ', h1, h2⟩

theorem VW.cond {c : Operand} {x y : Code} {b : Bool} (hc : ev st.t c = .b b) (h : VW P (if b then x else y) Q st) : VW P (.cond c x y) Q st := fun N w0 a w φ hs => by
  have := hs.eval c
  rw [hc] at this
  generalize hu : a.eval c = u at this
  cases this
  exact wp_cond hu (h N w0 a w φ hs)

theorem VW.condT {c : Operand} {x y : Code} (hc : ev st.t c = .b true) (h : VW P x Q st) : VW P (.cond c x y) Q st := .cond hc h
theorem VW.condF {c : Operand} {x y : Code} (hc : ev st.t c = .b false) (h : VW P y Q st) : VW P (.cond c x y) Q st := .cond hc h
theorem VW.condB {c : Operand} {x y : Code} {b : Bool} (hc : ev st.t c = .b b) (h1 : b = true → VW P x Q st) (h2 : b = false → VW P y Q st) : VW P (.cond c x y) Q st := by
  cases b
  · exact .cond hc (h2 rfl)
  · exact .cond hc (h1 rfl)

theorem VW.block {id : Nat} {c : Code} (h : VW P c (vblock id Q) st) : VW P (.block id c) Q st := fun N w0 a w φ hs => by
  refine wp_block (wp_mono (h N w0 a w φ hs) fun e a' w' ⟨s, φ', h1, h2⟩ => ?_)
  cases e with
  | exit i =>
    simp only [Exit.inBlock, vblock] at h1 ⊢
    split
    · rename_i hi; rw [if_pos hi] at h1; exact ⟨s, φ', h1, h2⟩
    · rename_i hi; rw [if_neg hi] at h1; exact ⟨s, φ', h1, h2⟩
  | normal => exact ⟨s, φ', h1, h2⟩
  | goto l => exact ⟨s, φ', h1, h2⟩
  | ret => exact ⟨s, φ', h1, h2⟩
  | panic c => exact ⟨s, φ', h1, h2⟩
  | outgrown => exact ⟨s, φ', h1, h2⟩

/-- A loop: an invariant that bears a number, which every round lowers. -/
theorem VW.loop {c : Code} (J : Nat → VS → Prop) {n0 : Nat} {s0 : VS} (he : Ent st s0) (h0 : J n0 s0) (round : ∀ n s, J n s → VW P c (vthen (fun s' => ∃ n' s'', Ent s' s'' ∧ n' < n ∧ J n' s'') Q) s) : VW P (.loop c) Q st := fun N w0 a w φ hs => by
  obtain ⟨φ0, hs0⟩ := he P N w0 a w φ hs
  refine wp_loop_ghost (fun n a w => ∃ s φ, J n s ∧ SR P N w0 s a w φ) n0 ⟨s0, φ0, h0, hs0⟩ fun n a w ⟨s, φ, hJ, hs⟩ => ?_
  refine wp_mono (round n s hJ N w0 a w φ hs) fun e a' w' ⟨s', φ', h1, h2⟩ => ?_
  cases e with
  | normal =>
    obtain ⟨n', s'', he', hlt, hJ'⟩ := h1
    obtain ⟨φ'', hs''⟩ := he' P N w0 a' w' φ' h2
    exact ⟨n', hlt, s'', φ'', hJ', hs''⟩
  | exit id => exact ⟨s', φ', h1, h2⟩
  | goto l => exact ⟨s', φ', h1, h2⟩
  | ret => exact ⟨s', φ', h1, h2⟩
  | panic c => exact ⟨s', φ', h1, h2⟩
  | outgrown => exact ⟨s', φ', h1, h2⟩

theorem VW.region {id : Nat} {l : List Oper} (h : VL P l.toArray Q l st) : VW P (.region id l.toArray false) Q st := fun N w0 a w φ hs =>
  wp_region_lit (h N w0 a w φ hs)

/-- A region without a call. -/
theorem VW.ops {id : Nat} {l : List Oper} {s : VS} (h : vops P l.toArray l st = some s) (hq : Q .normal s) : VW P (.region id l.toArray false) Q st :=
  .region (by simpa using VL.run (rest := []) h (VL.nil hq))
end

/-! ### A function -/
mutual
/-- 'Fin m v r ids': in the call's own memory m, v is handed back as r, which takes the blocks 'ids' with it. -/
inductive Fin (m : VM) : V → V → List Nat → Prop
  | pl {v : V} (hp : plainV v = true) : Fin m v v []
  | ref {b e len n : Nat} {es es' : List (List V)} {ids : List Nat} (hb : m[b]? = some (some (n, es))) (hle : e + len ≤ es.length) (h : FinL m ((es.drop e).take len).flatten es'.flatten ids) (hn : ∀ x ∈ es', x.length = n) (hl : es'.length = len) : Fin m (.ref b e len) (.own n es') (b :: ids)
  | refp {b e len n : Nat} {es : List (List V)} (hb : m[b]? = some (some (n, es))) (hle : e + len ≤ es.length) (h : ∀ l ∈ (es.drop e).take len, ∀ v ∈ l, plainV v = true) : Fin m (.ref b e len) (.own n ((es.drop e).take len)) [b]
  | tab {b len n : Nat} {es : List (List V)} (hb : m[b]? = some (some (n, es))) (hl : es.length = len) (h : ∀ l ∈ es, ∀ v ∈ l, plainV v = true ∨ ∃ n' es', v = .own n' es') : Fin m (.ref b 0 len) (.own n es) [b]
  | agg {cs cs' : List V} {ids : List Nat} (h : FinL m cs cs' ids) : Fin m (.agg cs) (.agg cs') ids
  | tup {cs cs' : List V} {ids : List Nat} (h : FinL m cs cs' ids) : Fin m (.tup cs) (.tup cs') ids
inductive FinL (m : VM) : List V → List V → List Nat → Prop
  | nil : FinL m [] [] []
  | cons {v v' : V} {vs vs' : List V} {a b : List Nat} (h : Fin m v v' a) (hs : FinL m vs vs' b) : FinL m (v :: vs) (v' :: vs') (a ++ b)
end

theorem FinL.plain {m : VM} : ∀ {a : List V}, (∀ v ∈ a, plainV v = true) → FinL m a a []
  | [], _ => .nil
  | v :: a, h => .cons (a := []) (b := []) (.pl (h v (by simp))) (FinL.plain fun x hx => h x (by simp [hx]))

/-- A slice of numbers and strings, whole. -/
theorem Fin.whole {m : VM} {b n : Nat} {es : List (List V)} (hb : m[b]? = some (some (n, es))) (hn : ∀ x ∈ es, x.length = n) (hp : ∀ x ∈ es, ∀ v ∈ x, plainV v = true) : Fin m (.ref b 0 es.length) (.own n es) [b] := by
  refine .ref hb (by omega) ?_ hn rfl
  simp only [List.drop_zero, List.take_length]
  exact FinL.plain fun v hv => by
    obtain ⟨l, h1, h2⟩ := List.mem_flatten.1 hv
    exact hp l h1 v h2

section
variable {N : Fr} {w : World} {φ : Pl} {m : VM}
/-- Block k is of own block b: its place, or one of those that lie behind it. -/
def Ow (N : Fr) (w : World) (φ : Pl) (m : VM) (ψ : Nat → Option (Nat × Nat)) (k b : Nat) : Prop :=
  (∃ p x, φ b = some p ∧ p.1 = k ∧ m[b]? = some (some x)) ∨ (∃ i, ψ k = some (b, i) ∧ ¬ N k ∧ k < w.heap.size ∧ ¬ Live φ m k)

theorem Ow.inj {ψ : Nat → Option (Nat × Nat)} (hm : Mem N w φ m) {k b b' : Nat} (h : Ow N w φ m ψ k b) (h' : Ow N w φ m ψ k b') : b = b' := by
  rcases h with ⟨⟨p1, p2, p3⟩, x, h1, rfl, h2⟩ | ⟨i, h1, _, _, h2⟩ <;> rcases h' with ⟨⟨q1, q2, q3⟩, y, g1, g3, g2⟩ | ⟨j, g1, _, _, g2⟩
  · simp only at g3
    subst g3
    exact hm.inj b b' q1 p2 q2 p3 q3 h1 g1
  · exact absurd ⟨b, x, p2, p3, h2, h1⟩ g2
  · simp only at g3
    subst g3
    exact absurd ⟨b', y, q2, q3, g2, g1⟩ h2
  · rw [h1] at g1
    cases g1
    rfl

theorem Ow.new {ψ : Nat → Option (Nat × Nat)} (hm : Mem N w φ m) {k b : Nat} (h : Ow N w φ m ψ k b) : ¬ N k := by
  rcases h with ⟨⟨p1, p2, p3⟩, x, h1, rfl, h2⟩ | ⟨i, _, h1, _⟩
  · exact (hm.new b p1 p2 p3 h1).1
  · exact h1
theorem Ow.lt {ψ : Nat → Option (Nat × Nat)} (hm : Mem N w φ m) {k b : Nat} (h : Ow N w φ m ψ k b) : k < w.heap.size := by
  rcases h with ⟨⟨p1, p2, p3⟩, x, h1, rfl, h2⟩ | ⟨i, _, _, h1, _⟩
  · exact (hm.new b p1 p2 p3 h1).2
  · exact h1

theorem join_nodup {ψ : Nat → Option (Nat × Nat)} (hm : Mem N w φ m) {A B F G : List Nat} (hAB : (A ++ B).Nodup) (hF : ∀ k ∈ F, ∃ b ∈ A, Ow N w φ m ψ k b) (hG : ∀ k ∈ G, ∃ b ∈ B, Ow N w φ m ψ k b) (nF : F.Nodup) (nG : G.Nodup) : (F ++ G).Nodup := by
  refine List.nodup_append.2 ⟨nF, nG, fun x hx y hy e => ?_⟩
  subst e
  obtain ⟨b, hb, h1⟩ := hF x hx
  obtain ⟨b', hb', h2⟩ := hG _ hy
  have := h1.inj hm h2
  subst this
  exact (List.nodup_append.1 hAB).2.2 b hb b hb' rfl

/-- Cells that are plain, or own. -/
theorem tabRs {ψ : Nat → Option (Nat × Nat)} {b : Nat} {c : Array Value} : ∀ {vs : List V} {off x : Nat}, (∀ v ∈ vs, plainV v = true ∨ ∃ n' es', v = .own n' es') →
    (∀ (i : Nat) (v : V), vs[i]? = some v → ∃ u, c[off + i]? = some u ∧ u.oneCell' = true ∧ S w (Live φ m) φ v u) →
    (∀ (i n' : Nat) (es' : List (List V)), vs[i]? = some (.own n' es') → ∃ u F, c[off + i]? = some u ∧ RV w (.own n' es') u F ∧ F.Nodup ∧ ∀ k ∈ F, ψ k = some (b, x + i) ∧ ¬ N k ∧ k < w.heap.size ∧ ¬ Live φ m k) →
    ∃ F, Rs w c off vs F ∧ F.Nodup ∧ ∀ k ∈ F, ∃ i, ψ k = some (b, x + i) ∧ ¬ N k ∧ k < w.heap.size ∧ ¬ Live φ m k
  | [], _, _, _, _, _ => ⟨[], .nil, .nil, by simp⟩
  | v :: vs, off, x, hp, hc, ho => by
    obtain ⟨u, u1, u2, u3⟩ := hc 0 v rfl
    obtain ⟨G, b1, b2, b3⟩ := tabRs (vs := vs) (off := off + 1) (x := x + 1) (ψ := ψ) (b := b) (c := c) (fun y hy => hp y (by simp [hy])) (fun i v hi => by
      obtain ⟨u, x1, x2⟩ := hc (i + 1) v (by simpa using hi)
      exact ⟨u, by rw [← x1]; congr 1; omega, x2⟩) (fun i n' es' hi => by
      obtain ⟨u, F, x1, x2, x3, x4⟩ := ho (i + 1) n' es' (by simpa using hi)
      exact ⟨u, F, by rw [← x1]; congr 1; omega, x2, x3, fun k hk => by
        have := x4 k hk
        rwa [show x + (i + 1) = x + 1 + i by omega] at this⟩)
    have b3' : ∀ k ∈ G, ∃ i, ψ k = some (b, x + i) ∧ ¬ N k ∧ k < w.heap.size ∧ ¬ Live φ m k := fun k hk => by
      obtain ⟨i, h⟩ := b3 k hk
      exact ⟨i + 1, by rwa [show x + (i + 1) = x + 1 + i by omega]⟩
    rcases hp v (by simp) with hpl | ⟨n', es', rfl⟩
    · exact ⟨[] ++ G, .cons u1 u2 (.pl hpl (u3.plain hpl)) b1, b2, b3'⟩
    · obtain ⟨u', F, x1, x2, x3, x4⟩ := ho 0 n' es' rfl
      rw [u1] at x1
      cases x1
      refine ⟨F ++ G, .cons u1 u2 x2 b1, List.nodup_append.2 ⟨x3, b2, fun y hy z hz e => ?_⟩, fun k hk => ?_⟩
      · subst e
        have e1 := (x4 y hy).1
        obtain ⟨i, e2, _⟩ := b3 y hz
        rw [e1] at e2
        simp at e2
        omega
      · rcases List.mem_append.1 hk with hk | hk
        · exact ⟨0, x4 k hk⟩
        · exact b3' k hk

theorem plainRs : ∀ {vs : List V} {c : Array Value} {off : Nat}, (∀ v ∈ vs, plainV v = true) → (∀ (i : Nat) (v : V), vs[i]? = some v → ∃ u, c[off + i]? = some u ∧ u.oneCell' = true ∧ S w (Live φ m) φ v u) → Rs w c off vs []
  | [], _, _, _, _ => .nil
  | v :: vs, c, off, hp, hc => by
    obtain ⟨u, u1, u2, u3⟩ := hc 0 v rfl
    have := plainRs (vs := vs) (c := c) (off := off + 1) (fun x hx => hp x (by simp [hx])) fun i v hi => by
      obtain ⟨u, x1, x2⟩ := hc (i + 1) v (by simpa using hi)
      exact ⟨u, by rw [← x1]; congr 1; omega, x2⟩
    exact .cons (F := []) (G := []) u1 u2 (.pl (hp v (by simp)) (u3.plain (hp v (by simp)))) this

mutual
theorem Fin.sound {ψ : Nat → Option (Nat × Nat)} (hm : Mem N w φ m) (hψ : OwnC N w φ m ψ) : ∀ {v r : V} {ids : List Nat} {u : Value}, Fin m v r ids → S w (Live φ m) φ v u → ids.Nodup → ∃ F, RV w r u F ∧ F.Nodup ∧ ∀ k ∈ F, ∃ b ∈ ids, Ow N w φ m ψ k b
  | _, _, _, _, .pl hp, h, _ => ⟨[], .pl hp (h.plain hp), .nil, by simp⟩
  | _, _, _, _, .ref (b := b) (e := e) (len := len) (n := n) (es := es) (es' := es') (ids := ids) hb hle hf hn' hl, h, hnd => by
    cases h with
    | ref hφ hc hroom =>
      obtain ⟨hn, pb, po, c, ty, hφ', hp, hfit, hcell⟩ := hm.at_ b n es _ hb hφ
      rw [hφ] at hφ'
      simp at hφ'
      obtain ⟨rfl, rfl, rfl⟩ := hφ'
      rename_i pb po n cap
      have hcells : ∀ (i : Nat) (v : V), ((es.drop e).take len).flatten[i]? = some v → ∃ u, c[po + e * n + i]? = some u ∧ u.oneCell' = true ∧ S w (Live φ m) φ v u := by
        intro i v hi
        rw [flatten_slice es n e len hn, List.getElem?_take] at hi
        split at hi
        · rw [List.getElem?_drop] at hi
          rw [Nat.add_assoc]
          exact hcell _ v hi
        · cases hi
      obtain ⟨h1, h2⟩ := List.nodup_cons.1 hnd
      obtain ⟨F, a1, a2, a3⟩ := FinL.soundC hm hψ hf hcells h2
      obtain ⟨c', ty', fr', hp', hroom'⟩ := hroom
      rw [hp] at hp'
      cases hp'
      refine ⟨pb :: F, .own hn' hl hc hp (by rw [Nat.add_mul] at hroom'; omega) a1, List.nodup_cons.2 ⟨fun hk => ?_, a2⟩, fun k hk => ?_⟩
      · obtain ⟨b', hb', hq⟩ := a3 pb hk
        have := Ow.inj hm (.inl ⟨_, _, hφ, rfl, hb⟩) hq
        subst this
        exact h1 hb'
      · rcases List.mem_cons.1 hk with rfl | hk
        · exact ⟨b, by simp, .inl ⟨_, _, hφ, rfl, hb⟩⟩
        · obtain ⟨b', hb', hp1⟩ := a3 k hk
          exact ⟨b', by simp [hb'], hp1⟩
    | ref0 =>
      have he : es' = [] := List.eq_nil_of_length_eq_zero hl
      subst he
      exact ⟨[], .own0, .nil, by simp⟩
    | refnil =>
      have he : es' = [] := List.eq_nil_of_length_eq_zero hl
      subst he
      exact ⟨[], .ownnil, .nil, by simp⟩
  | _, _, _, _, .refp (b := b) (e := e) (len := len) (n := n) (es := es) hb hle hp', h, hnd => by
    cases h with
    | ref hφ hc hroom =>
      obtain ⟨hn, pb, po, c, ty, hφ', hp, hfit, hcell⟩ := hm.at_ b n es _ hb hφ
      rw [hφ] at hφ'
      simp at hφ'
      obtain ⟨rfl, rfl, rfl⟩ := hφ'
      rename_i pb po n cap
      have hcells : ∀ (i : Nat) (v : V), ((es.drop e).take len).flatten[i]? = some v → ∃ u, c[po + e * n + i]? = some u ∧ u.oneCell' = true ∧ S w (Live φ m) φ v u := by
        intro i v hi
        rw [flatten_slice es n e len hn, List.getElem?_take] at hi
        split at hi
        · rw [List.getElem?_drop] at hi
          rw [Nat.add_assoc]
          exact hcell _ v hi
        · cases hi
      have a1 : Rs w c (po + e * n) ((es.drop e).take len).flatten [] := plainRs (fun v hv => by
        obtain ⟨l, h1, h2⟩ := List.mem_flatten.1 hv
        exact hp' l h1 v h2) hcells
      obtain ⟨c', ty', fr', hp'', hroom'⟩ := hroom
      rw [hp] at hp''
      cases hp''
      have hlen : ((es.drop e).take len).length = len := by simp; omega
      refine ⟨[pb], .own (fun x hx => hn x (List.mem_of_mem_drop (List.mem_of_mem_take hx))) hlen hc hp (by rw [Nat.add_mul] at hroom'; omega) a1, by simp, fun k hk => ?_⟩
      simp at hk
      subst hk
      exact ⟨b, by simp, .inl ⟨_, _, hφ, rfl, hb⟩⟩
    | ref0 =>
      simp only [List.take_zero]
      exact ⟨[], .own0, .nil, by simp⟩
    | refnil =>
      simp only [List.take_zero]
      exact ⟨[], .ownnil, .nil, by simp⟩
  | _, _, _, _, .tab (b := b) (len := len) (n := n) (es := es) hb hlen hp', h, hnd => by
    cases h with
    | ref hφ hc hroom =>
      obtain ⟨hn, pb, po, c, ty, hφ', hp, hfit, hcell⟩ := hm.at_ b n es _ hb hφ
      rw [hφ] at hφ'
      simp at hφ'
      obtain ⟨rfl, rfl, rfl⟩ := hφ'
      rename_i pb po n cap
      obtain ⟨F, a1, a2, a3⟩ := tabRs (ψ := ψ) (b := b) (c := c) (off := po) (x := 0) (N := N) (fun v hv => by
        obtain ⟨l, h1, h2⟩ := List.mem_flatten.1 hv
        exact hp' l h1 v h2) hcell (fun i n' es' hi => by
        obtain ⟨u, F, x1, x2, x3, x4⟩ := hψ b n es pb po n i n' es' hb hφ hi
        refine ⟨u, F, ?_, x2, x3, fun k hk => by rw [Nat.zero_add]; exact x4 k hk⟩
        unfold World.cell? at x1
        simp only [hp] at x1
        exact x1)
      obtain ⟨c', ty', fr', hp'', hroom'⟩ := hroom
      rw [hp] at hp''
      cases hp''
      have ha1 : Rs w c (po + 0 * n) es.flatten F := by simpa using a1
      refine ⟨pb :: F, .own hn hlen hc hp (by rw [Nat.zero_add] at hroom'; omega) ha1, List.nodup_cons.2 ⟨fun hk => ?_, a2⟩, fun k hk => ?_⟩
      · obtain ⟨i, _, _, _, e⟩ := a3 pb hk
        exact e ⟨b, _, _, _, hb, hφ⟩
      · rcases List.mem_cons.1 hk with rfl | hk
        · exact ⟨b, by simp, .inl ⟨_, _, hφ, rfl, hb⟩⟩
        · obtain ⟨i, e1, e2⟩ := a3 k hk
          exact ⟨b, by simp, .inr ⟨_, e1, e2⟩⟩
    | ref0 =>
      have he : es = [] := List.eq_nil_of_length_eq_zero hlen
      subst he
      exact ⟨[], .own0, .nil, by simp⟩
    | refnil =>
      have he : es = [] := List.eq_nil_of_length_eq_zero hlen
      subst he
      exact ⟨[], .ownnil, .nil, by simp⟩
  | _, _, _, _, .agg hf, h, hnd => by
    cases h with
    | agg hs =>
      obtain ⟨F, a1, a2, a3⟩ := FinL.sound hm hψ hf hs hnd
      exact ⟨F, .agg a1, a2, a3⟩
  | _, _, _, _, .tup hf, h, hnd => by
    cases h with
    | tup hs =>
      obtain ⟨F, a1, a2, a3⟩ := FinL.sound hm hψ hf hs hnd
      exact ⟨F, .tup a1, a2, a3⟩
theorem FinL.sound {ψ : Nat → Option (Nat × Nat)} (hm : Mem N w φ m) (hψ : OwnC N w φ m ψ) : ∀ {vs rs : List V} {ids : List Nat} {us : List Value}, FinL m vs rs ids → Sl w (Live φ m) φ vs us → ids.Nodup → ∃ F, Rl w rs us F ∧ F.Nodup ∧ ∀ k ∈ F, ∃ b ∈ ids, Ow N w φ m ψ k b
  | _, _, _, _, .nil, .nil, _ => ⟨[], .nil, .nil, by simp⟩
  | _, _, _, _, .cons h hs, .cons hv hvs, hnd => by
    have hnd' := List.nodup_append.1 hnd
    obtain ⟨F, a1, a2, a3⟩ := Fin.sound hm hψ h hv hnd'.1
    obtain ⟨G, b1, b2, b3⟩ := FinL.sound hm hψ hs hvs hnd'.2.1
    refine ⟨F ++ G, .cons a1 b1, join_nodup hm hnd a3 b3 a2 b2, fun k hk => ?_⟩
    rcases List.mem_append.1 hk with hk | hk
    · obtain ⟨b, hb, x⟩ := a3 k hk; exact ⟨b, by simp [hb], x⟩
    · obtain ⟨b, hb, x⟩ := b3 k hk; exact ⟨b, by simp [hb], x⟩
theorem FinL.soundC {ψ : Nat → Option (Nat × Nat)} (hm : Mem N w φ m) (hψ : OwnC N w φ m ψ) : ∀ {vs rs : List V} {ids : List Nat} {c : Array Value} {off : Nat}, FinL m vs rs ids → (∀ (i : Nat) (v : V), vs[i]? = some v → ∃ u, c[off + i]? = some u ∧ u.oneCell' = true ∧ S w (Live φ m) φ v u) → ids.Nodup →
    ∃ F, Rs w c off rs F ∧ F.Nodup ∧ ∀ k ∈ F, ∃ b ∈ ids, Ow N w φ m ψ k b
  | _, _, _, _, _, .nil, _, _ => ⟨[], .nil, .nil, by simp⟩
  | _, _, _, c, off, .cons h hs, hc, hnd => by
    have hnd' := List.nodup_append.1 hnd
    obtain ⟨u, u1, u2, u3⟩ := hc 0 _ rfl
    obtain ⟨F, a1, a2, a3⟩ := Fin.sound hm hψ h u3 hnd'.1
    obtain ⟨G, b1, b2, b3⟩ := FinL.soundC hm hψ hs (c := c) (off := off + 1) (fun i v hi => by
      obtain ⟨u, x1, x2⟩ := hc (i + 1) v (by simpa using hi)
      exact ⟨u, by rw [← x1]; congr 1; omega, x2⟩) hnd'.2.1
    refine ⟨F ++ G, .cons u1 u2 a1 b1, join_nodup hm hnd a3 b3 a2 b2, fun k hk => ?_⟩
    rcases List.mem_append.1 hk with hk | hk
    · obtain ⟨b, hb, x⟩ := a3 k hk; exact ⟨b, by simp [hb], x⟩
    · obtain ⟨b, hb, x⟩ := b3 k hk; exact ⟨b, by simp [hb], x⟩
end
end

def vres1 (P : Program) (st : VS) : ResultVar → Option V
  | .tmp t => some (st.t.getD t .any)
  | .cell a ty => vload P st.m ty (st.t.getD a .any)

def vres (P : Program) (rs : List ResultVar) (st : VS) : Option V :=
  (rs.mapM (vres1 P st)).map fun vs => match vs with
    | [v] => v
    | vs => .tup vs

def resOne (tmps : Array Value) : ResultVar → Sem Value
  | .tmp t => pure (tmps.getD t undef)
  | .cell a t => do loadVar t (← asAddr (tmps.getD a undef))

theorem results_eq (fn : Func) (tmps : Array Value) : results fn tmps = (do
    let vs ← fn.results.mapM (resOne tmps)
    pure (if h : vs.size = 1 then vs[0] else .tuple vs)) := by
  unfold results
  congr 1

theorem vres_sound {P : Program} {N : Fr} {w0 : World × List Value} {w : World} {st : VS} {a : Act} {φ : Pl} {fn : Func} {v : V} (hs : SR P N w0 st a w φ) (h : vres P fn.results.toList st = some v) : ∃ u, (results fn a.tmps).run P w = .ok u w ∧ S w (Live φ st.m) φ v u := by
  have one : ∀ (r : ResultVar) (v : V), vres1 P st r = some v → ∃ u, (resOne a.tmps r).run P w = .ok u w ∧ S w (Live φ st.m) φ v u := fun r v h => by
    cases r with
    | tmp t =>
      simp only [vres1, Option.some.injEq] at h
      subst h
      exact ⟨_, rfl, hs.eval (.tmp t)⟩
    | cell x t =>
      obtain ⟨z, h1, h2⟩ := vload_run h (hs.eval (.tmp x)) hs.mem
      refine ⟨z, ?_, h2⟩
      simp only [Act.eval] at h1
      show (asAddr (a.tmps.getD x undef) >>= fun y => loadVar t y).run P w = _
      generalize a.tmps.getD x undef = u at h1 ⊢
      cases u <;> simp [Instr.loadAt, Instr.sureAddr] at h1
      rename_i p
      cases p with
      | none => simp at h1
      | some p => simpa [asAddr] using h1
  have all : ∀ (l : List ResultVar) (vs : List V), l.mapM (vres1 P st) = some vs → ∃ us, (l.mapM (m := Sem) (resOne a.tmps)).run P w = .ok us w ∧ Sl w (Live φ st.m) φ vs us := by
    intro l
    induction l with
    | nil => intro vs h; simp at h; subst h; exact ⟨[], by simp, .nil⟩
    | cons r l ih =>
      intro vs h
      simp only [List.mapM_cons, Option.bind_eq_bind, Option.bind_eq_some_iff, Option.pure_def, Option.some.injEq] at h
      obtain ⟨v, h1, vs', h2, rfl⟩ := h
      obtain ⟨u, a1, a2⟩ := one r v h1
      obtain ⟨us, b1, b2⟩ := ih vs' h2
      refine ⟨u :: us, ?_, .cons a2 b2⟩
      simp only [List.mapM_cons, Sem.run_bind, a1, Result.andThen_ok, b1, Sem.run_pure]
  unfold vres at h
  cases hm : fn.results.toList.mapM (vres1 P st) with
  | none => simp [hm] at h
  | some vs =>
    simp only [hm, Option.map_some, Option.some.injEq] at h
    obtain ⟨us, h1, h2⟩ := all _ vs hm
    have hrun : (results fn a.tmps).run P w = .ok (if h : us.toArray.size = 1 then us.toArray[0] else .tuple us.toArray) w := by
      rw [results_eq, Sem.run_bind, Array.mapM_eq_mapM_toList, Sem.run_map, h1]
      rfl
    refine ⟨_, hrun, ?_⟩
    have hl := h2.length
    match vs, us, h2, h with
    | [], [], _, h => subst h; exact .tup .nil
    | [v], [u], .cons hv _, h => subst h; exact hv
    | v1 :: v2 :: vs, u1 :: u2 :: us, h2, h => subst h; exact .tup h2
    | [], _ :: _, h2, _ => cases h2
    | [_], [], h2, _ => cases h2
    | [_], _ :: _ :: _, .cons _ h2, _ => cases h2
    | _ :: _ :: _, [], h2, _ => cases h2
    | _ :: _ :: _, [_], .cons _ h2, _ => cases h2

/-- What must hold where the body ends. -/
def VRet (P : Program) (rs : List ResultVar) (Q : V → Prop) : Exit → VS → Prop
  | .normal, s | .ret, s => ∃ v r ids, vres P rs s = some v ∧ Fin s.m v r ids ∧ ids.Nodup ∧ Q r
  | _, _ => False

/-- A function's contract, by its body. -/
theorem VCalls.of_body {P : Program} {f : FuncId} {fn : Func} {c : Code} {args : List V} {Q : V → Prop} (hf : P.funcs[f]? = some fn) (hb : fn.body = some c) (h : VW P c (VRet P fn.results.toList Q) { t := args ++ List.replicate (fn.ntmps - args.length) .any, m := [] }) : VCalls P f args Q := by
  intro w us hglob hs
  refine calls_of_wp hf hb ?_
  have hlen := hs.length
  have hmem : Mem (fun k => k < w.heap.size) w noPl [] := by
    refine ⟨fun b n es p hb _ => ?_, fun b k po n h => ?_, fun b p h => ?_, fun b b' k po po' n n' h => ?_, ⟨fun _ => none, fun b n es pb po bn i n' es' h => by simp at h⟩⟩
    · simp at hb
    · cases h
    · cases h
    · cases h
  have hev : Ev w (fun _ => False) noPl w (Live noPl []) noPl := ⟨fun k _ _ => ⟨rfl, fun ⟨b, x, po, n, hb, _⟩ => by simp at hb⟩, fun _ _ h => h, fun _ _ h => h⟩
  have hsr : SR P (fun k => k < w.heap.size) (w, []) { t := args ++ List.replicate (fn.ntmps - args.length) .any, m := [] } { tmps := us.toArray ++ Array.replicate (fn.ntmps - us.toArray.size) undef, defers := [] } w noPl := by
    refine ⟨rfl, by simp [hlen], fun i v hi => ?_, hmem, Bel.refl _ _, fun _ h => h, .nil, hglob, hglob.gk⟩
    simp only at hi
    rw [List.getElem?_append] at hi
    split at hi
    · rename_i hlt
      obtain ⟨u, a1, a2⟩ := hs.get hi
      refine ⟨u, ?_, a2.ev hev⟩
      rw [Array.getElem?_append_left (by simp; omega)]
      simpa using a1
    · rename_i hge
      have hlt2 : i - args.length < fn.ntmps - args.length := by
        have := (List.getElem?_eq_some_iff.1 hi).1
        simpa using this
      have hv : v = .any := by
        have := List.mem_of_getElem? hi
        exact (List.mem_replicate.1 this).2
      subst hv
      refine ⟨undef, ?_, .any⟩
      rw [Array.getElem?_append_right (by simp; omega)]
      have hus : us.toArray.size = args.length := by simp [hlen]
      rw [hus, Array.getElem?_replicate, if_pos hlt2]
  refine wp_mono (h (fun k => k < w.heap.size) (w, []) _ w noPl hsr) fun e a' w' ⟨s, φ', hq, hs'⟩ => ?_
  have key : (∃ v r ids, vres P fn.results.toList s = some v ∧ Fin s.m v r ids ∧ ids.Nodup ∧ Q r) → a'.defers = [] ∧ ∃ v, (results fn a'.tmps).run P w' = .ok v w' ∧ ∃ r u F, Ending.returned v = .returned u ∧ Q r ∧ RV w' r u F ∧ F.Nodup ∧ (∀ k ∈ F, w.heap.size ≤ k ∧ k < w'.heap.size) ∧ Below w.heap.size w w' := by
    intro ⟨v, r, ids, h1, h2, h3, h4⟩
    obtain ⟨u, b1, b2⟩ := vres_sound hs' h1
    obtain ⟨ψ, hψ⟩ := hs'.mem.own
    obtain ⟨F, c1, c2, c3⟩ := h2.sound hs'.mem hψ b2 h3
    exact ⟨hs'.defers, u, b1, r, u, F, rfl, h4, c1, c2, fun k hk => by
      obtain ⟨b, _, hp⟩ := c3 k hk
      exact ⟨Nat.not_lt.1 (hp.new hs'.mem), hp.lt hs'.mem⟩, ⟨hs'.below.os, hs'.below.tape, hs'.below.output, hs'.below.size, hs'.below.block⟩⟩
  cases e with
  | normal => exact key hq
  | ret => exact key hq
  | exit id => exact hq.elim
  | goto l => exact hq.elim
  | panic c => exact hq.elim
  | outgrown => exact hq.elim
end Go.VL
