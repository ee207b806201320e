/- The contract of a call, and the state behind it. -/
import Derived.Test.YtboeddbhfnlpaaaVxCall
namespace Go.VL
open Go.RowKit
set_option linter.unusedSimpArgs false
set_option linter.unusedVariables false

/-- The contract of a call: 'args': what is known of the arguments, in memory that the call leaves as it is; the result, which Q tells, has memory of its own. -/
def VCalls (P : Program) (f : FuncId) (args : List V) (Q : V → Prop) : Prop :=
  ∀ (w : World) (us : List Value), Glob P w → Sl w (fun _ => False) noPl args us →
    Calls P f us.toArray w fun e w' => ∃ r u F, e = .returned u ∧ Q r ∧ RV w' r u F ∧ F.Nodup ∧ (∀ k ∈ F, w.heap.size ≤ k ∧ k < w'.heap.size) ∧ Below w.heap.size w w'

theorem VCalls.mono {P : Program} {f : FuncId} {args : List V} {Q Q' : V → Prop} (h : VCalls P f args Q) (hq : ∀ r, Q r → Q' r) : VCalls P f args Q' :=
  fun w us hg hs => (h w us hg hs).mono fun e w' ⟨r, u, F, a, b, c⟩ => ⟨r, u, F, a, hq r b, c⟩

/-- The places behind a result. -/
def phi (φ : Pl) (k : Nat) (pl : Places) : Pl := fun x => if k ≤ x ∧ x < k + pl.length then (pl[x - k]?).join else φ x

theorem blocks_inj : ∀ {pl : Places} {i j : Nat} {p q : Nat × Nat × Nat}, (blocksOf pl).Nodup → pl[i]? = some (some p) → pl[j]? = some (some q) → p.1 = q.1 → i = j
  | [], i, j, p, q, _, h, _, _ => by simp at h
  | x :: pl, i, j, p, q, hnd, hi, hj, e => by
    have hmem : ∀ {l : Places} {a : Nat} {r : Nat × Nat × Nat}, l[a]? = some (some r) → r.1 ∈ blocksOf l := fun {l a r} h => by
      simp only [blocksOf, List.mem_filterMap]
      exact ⟨some r, List.mem_of_getElem? h, rfl⟩
    have hnd' : (blocksOf pl).Nodup := by
      cases x with
      | none => simpa [blocksOf] using hnd
      | some y => simp [blocksOf] at hnd; simpa [blocksOf] using hnd.2
    rcases i with _ | i <;> rcases j with _ | j
    · rfl
    · simp at hi hj
      subst hi
      have := hmem hj
      rw [← e] at this
      simp only [blocksOf, List.filterMap_cons, Option.map_some, List.nodup_cons] at hnd
      exact absurd this hnd.1
    · simp at hi hj
      subst hj
      have := hmem hi
      rw [e] at this
      simp only [blocksOf, List.filterMap_cons, Option.map_some, List.nodup_cons] at hnd
      exact absurd this hnd.1
    · simp at hi hj
      rw [blocks_inj hnd' hi hj e]

theorem Mem.result {N : Fr} {w w' : World} {φ : Pl} {m : VM} (h : Mem N w φ m) (hN : N.bd w) (hb : Below w.heap.size w w') {r r' : V} {u : Value} {F : List Nat} {k : Nat} {l : VM} (hr : RV w' r u F) (hnd : F.Nodup)
    (hF : ∀ b ∈ F, w.heap.size ≤ b ∧ b < w'.heap.size) (hx : Ex k r r' l) (hl : ∀ i x, l[i]? = some x → m[k + i]? = some x) (hφ : ∀ i, i < l.length → φ (k + i) = none) :
    ∃ φ', S w' (Live φ' m) φ' r' u ∧ Mem N w' φ' m ∧ Ev w (Live φ m) φ w' (Live φ' m) φ' ∧ (∀ b p, φ' b = some p → φ b = some p ∨ (k ≤ b ∧ b < k + l.length)) := by
  obtain ⟨pl, χ, h1, h2, h3, hown, h4⟩ := Ex.place hx hr hnd
  have hin : ∀ i p, pl[i]? = some (some p) → phi φ k pl (k + i) = some p := fun i p hp => by
    have hlt : i < pl.length := (List.getElem?_eq_some_iff.1 hp).1
    unfold phi
    rw [if_pos ⟨by omega, by omega⟩, show k + i - k = i by omega, hp]
    rfl
  have hcase : ∀ b p, phi φ k pl b = some p → (∃ i, b = k + i ∧ pl[i]? = some (some p)) ∨ (φ b = some p ∧ ¬ (k ≤ b ∧ b < k + pl.length)) := fun b p hp => by
    unfold phi at hp
    split at hp
    · rename_i hlt
      left
      refine ⟨b - k, by omega, ?_⟩
      cases hg : pl[b - k]? with
      | none => simp [hg] at hp
      | some y =>
        cases y with
        | none => simp [hg] at hp
        | some y => simp [hg] at hp; rw [hp]
    · rename_i hlt
      exact .inr ⟨hp, hlt⟩
  have hmemb : ∀ i (p : Nat × Nat × Nat), pl[i]? = some (some p) → p.1 ∈ blocksOf pl := fun i p hp => by
    simp only [blocksOf, List.mem_filterMap]
    exact ⟨some p, List.mem_of_getElem? hp, rfl⟩
  have hplace : ∀ b p, φ b = some p → phi φ k pl b = some p := fun b p hp => by
    unfold phi
    split
    · rename_i hlt
      have := hφ (b - k) (by omega)
      rw [show k + (b - k) = b by omega, hp] at this
      cases this
    · exact hp
  have hev : Ev w (Live φ m) φ w' (Live (phi φ k pl) m) (phi φ k pl) := by
    refine ⟨fun q hq ho => ⟨hb.block q hq, fun ⟨b, x, po, n, hbm, hp⟩ => ?_⟩, hplace, fun q n ⟨c, e, fr, a1, a2⟩ => ⟨c, e, fr, by rw [hb.block q (Array.getElem?_eq_some_iff.1 a1).1]; exact a1, a2⟩⟩
    rcases hcase _ _ hp with ⟨i, rfl, hi⟩ | ⟨hp', _⟩
    · have := (hF _ (h3 _ (hmemb i _ hi)).1).1
      simp only at this
      omega
    · exact ho ⟨b, x, po, n, hbm, hp'⟩
  have hO : ∀ b ∈ F, Live (phi φ k pl) m b → b ∈ blocksOf pl := fun b hbF ⟨b', x, po, n, hbm, hp⟩ => by
    rcases hcase _ _ hp with ⟨i, rfl, hi⟩ | ⟨hp', _⟩
    · exact hmemb i _ hi
    · have a1 := (h.new b' b po n hp').2
      have a2 := (hF b hbF).1
      omega
  obtain ⟨hS, hfit⟩ := h4 (Live (phi φ k pl) m) (phi φ k pl) hin hO
  refine ⟨phi φ k pl, hS, ⟨fun b n es p hbm hp => ?_, fun b q po n hp => ?_, fun b p hp => ?_, fun b b' q po po' n n' hp hp' => ?_, ?_⟩, hev, fun b p hp => ?_⟩
  · rcases hcase _ _ hp with ⟨i, rfl, hi⟩ | ⟨hp', _⟩
    · have hlt : i < l.length := by rw [← h1]; exact (List.getElem?_eq_some_iff.1 hi).1
      have hli : l[i]? = some (some (n, es)) := by
        have := hl i l[i] (by simp [hlt])
        rw [hbm] at this
        rw [List.getElem?_eq_getElem hlt, ← this]
      obtain ⟨a1, a2, c, e, a3, a4, a5⟩ := hfit i n es p hli hi
      obtain ⟨p1, p2, p3⟩ := p
      simp only at a1
      subst a1
      exact ⟨a2, p1, p2, c, e, hp, a3, a4, a5⟩
    · obtain ⟨hln, pb, po, c, e, hpφ, hpb, hle, hcell⟩ := h.at_ b n es p hbm hp'
      exact ⟨hln, pb, po, c, e, hplace _ _ hpφ, by rw [hb.block pb (h.new b pb po n hpφ).2]; exact hpb, hle, fun i v hi => by
        obtain ⟨u, a1, a2, a3⟩ := hcell i v hi
        exact ⟨u, a1, a2, a3.ev hev⟩⟩
  · rcases hcase _ _ hp with ⟨i, rfl, hi⟩ | ⟨hp', _⟩
    · have := hF _ (h3 _ (hmemb i _ hi)).1
      simp only at this
      exact ⟨fun hk => by have := hN _ hk; omega, this.2⟩
    · have := h.new b q po n hp'
      exact ⟨this.1, Nat.lt_of_lt_of_le this.2 hb.size⟩
  · rcases hcase _ _ hp with ⟨i, rfl, hi⟩ | ⟨hp', _⟩
    · have hlt : i < l.length := by rw [← h1]; exact (List.getElem?_eq_some_iff.1 hi).1
      have := hl i l[i] (by simp [hlt])
      exact (List.getElem?_eq_some_iff.1 this).1
    · exact h.dom b p hp'
  · rcases hcase _ _ hp with ⟨i, rfl, hi⟩ | ⟨hq, _⟩ <;> rcases hcase _ _ hp' with ⟨j, rfl, hj⟩ | ⟨hq', _⟩
    · rw [blocks_inj h2 hi hj rfl]
    · have a1 := (hF _ (h3 _ (hmemb i _ hi)).1).1
      have a2 := (h.new b' q po' n' hq').2
      simp only at a1
      omega
    · have a1 := (hF _ (h3 _ (hmemb j _ hj)).1).1
      have a2 := (h.new b q po n hq).2
      simp only at a1
      omega
    · exact h.inj b b' q po po' n n' hq hq'
  · obtain ⟨ψ, hψ⟩ := h.own
    refine ⟨fun q => if F.contains q then χ q else ψ q, fun b n es pb po bn i n' es' h5 h6 h7 => ?_⟩
    rcases hcase _ _ h6 with ⟨x, rfl, hi⟩ | ⟨hp', _⟩
    · have hlt : x < l.length := by rw [← h1]; exact (List.getElem?_eq_some_iff.1 hi).1
      have hli : l[x]? = some (some (n, es)) := by
        have := hl x l[x] (by simp [hlt])
        rw [h5] at this
        rw [List.getElem?_eq_getElem hlt, ← this]
      obtain ⟨u, Fi, a1, a2, a3, a4⟩ := hown x n es _ i n' es' hli hi h7
      refine ⟨u, Fi, a1, a2, a3, fun q hq => ?_⟩
      obtain ⟨b1, b2, b3⟩ := a4 q hq
      have c1 := hF q b2
      exact ⟨by simp [b2, b1], fun hk => by have := hN _ hk; omega, c1.2, fun hL => b3 (hO q b2 hL)⟩
    · obtain ⟨u, Fi, a1, a2, a3, a4⟩ := hψ b n es pb po bn i n' es' h5 hp' h7
      refine ⟨u, Fi, by rw [cell?_same (hb.block pb (h.new b pb po bn hp').2)]; exact a1, a2.keep fun q hq => hb.block q (a4 q hq).2.2.1, a3, fun q hq => ?_⟩
      obtain ⟨b1, b2, b3, b4⟩ := a4 q hq
      have hnq : F.contains q = false := by
        rw [Bool.eq_false_iff]
        intro hc
        have := (hF q (by simpa using hc)).1
        omega
      exact ⟨by simp only [hnq, Bool.false_eq_true, if_false]; exact b1, b2, Nat.lt_of_lt_of_le b3 hb.size, (hev.keep q b3 b4).2⟩
  · rcases hcase _ _ hp with ⟨i, rfl, hi⟩ | ⟨hq, _⟩
    · right
      have : i < pl.length := (List.getElem?_eq_some_iff.1 hi).1
      omega
    · exact .inl hq

/-! ### Arguments as data -/
mutual
/-- 'Re m v v'': in the call's own memory m, v reads as v', which names no block of the call's own. -/
inductive Re (m : VM) : V → V → Prop
  | pl {v : V} (hp : plainV v = true) : Re m v v
  | sl {n : Nat} {es : List (List V)} : Re m (.sl n es) (.sl n es)
  | cptr {cs : List V} {j : Nat} : Re m (.cptr cs j) (.cptr cs j)
  | any : Re m .any .any
  | own {n : Nat} {es : List (List V)} : Re m (.own n es) (.sl n (frzE es))
  | ref {b e len n : Nat} {es es' : List (List V)} (hb : m[b]? = some (some (n, es))) (hle : e + len ≤ es.length) (h : ReE m ((es.drop e).take len) es') : Re m (.ref b e len) (.sl n es')
  | ptr {b e j n : Nat} {es : List (List V)} {cs cs' : List V} (hb : m[b]? = some (some (n, es))) (he : es[e]? = some cs) (h : ReL m cs cs') : Re m (.ptr b e j) (.cptr cs' j)
  | refc {b e j q len n : Nat} {es : List (List V)} {cs cs' : List V} (hb : m[b]? = some (some (n, es))) (he : es[e]? = some cs) (hle : j + len * q ≤ cs.length) (h : ReL m cs cs') : Re m (.refc b e j q len) (.sl q (chunks q len (cs'.drop j)))
  | agg {cs cs' : List V} (h : ReL m cs cs') : Re m (.agg cs) (.agg cs')
  | cut {v : V} {cs : List V} {j n : Nat} (h : Re m v (.cptr cs j)) : Re m v (.cptr ((cs.drop j).take n) 0)
inductive ReL (m : VM) : List V → List V → Prop
  | nil : ReL m [] []
  | cons {v v' : V} {vs vs' : List V} (h : Re m v v') (hs : ReL m vs vs') : ReL m (v :: vs) (v' :: vs')
inductive ReE (m : VM) : List (List V) → List (List V) → Prop
  | nil : ReE m [] []
  | cons {l l' : List V} {ls ls' : List (List V)} (h : ReL m l l') (hs : ReE m ls ls') : ReE m (l :: ls) (l' :: ls')
end

theorem ReL.length {m : VM} : ∀ {a b : List V}, ReL m a b → b.length = a.length
  | _, _, .nil => rfl
  | _, _, .cons _ hs => by simp [hs.length]

theorem ReE.spec {m : VM} : ∀ {a b : List (List V)}, ReE m a b → b.length = a.length ∧ ReL m a.flatten b.flatten ∧ ∀ n, (∀ e ∈ a, e.length = n) → ∀ e ∈ b, e.length = n
  | _, _, .nil => ⟨rfl, .nil, fun _ h => h⟩
  | _, _, .cons h hs => by
    obtain ⟨h1, h2, h3⟩ := hs.spec
    have app : ∀ {a b c d : List V}, ReL m a b → ReL m c d → ReL m (a ++ c) (b ++ d) := fun {a b c d} h k => by
      induction a generalizing b with
      | nil => cases h; exact k
      | cons x a ih => cases h with | cons h hs => exact .cons h (ih hs)
    refine ⟨by simp [h1], by simpa using app h h2, fun n hn e he => ?_⟩
    simp only [List.mem_cons] at he
    rcases he with rfl | he
    · rw [h.length]; exact hn _ (by simp)
    · exact h3 n (fun e he => hn e (by simp [he])) e he

theorem ReL.plain {m : VM} : ∀ {a : List V}, (∀ v ∈ a, plainV v = true) → ReL m a a
  | [], _ => .nil
  | v :: a, h => .cons (.pl (h v (by simp))) (ReL.plain fun x hx => h x (by simp [hx]))

theorem ReE.plain {m : VM} : ∀ {a : List (List V)}, (∀ e ∈ a, ∀ v ∈ e, plainV v = true) → ReE m a a
  | [], _ => .nil
  | v :: a, h => .cons (ReL.plain (h v (by simp))) (ReE.plain fun x hx => h x (by simp [hx]))

section
variable {N : Fr} {w : World} {φ : Pl} {m : VM}
theorem S.free {O : Nat → Prop} {v : V} {u : Value} (h : S w O noPl v u) : S w (fun _ => False) noPl v u := h.ev ⟨fun _ _ _ => ⟨rfl, id⟩, fun _ _ hb => hb, fun _ _ hr => hr⟩
theorem Ss.free {O : Nat → Prop} {b off : Nat} {vs : List V} (h : Ss w O noPl b off vs) : Ss w (fun _ => False) noPl b off vs := h.ev ⟨fun _ _ _ => ⟨rfl, id⟩, fun _ _ hb => hb, fun _ _ hr => hr⟩

theorem flat_cells {es : List (List V)} {n : Nat} (hn : ∀ e ∈ es, e.length = n) {b po : Nat} (hcell : ∀ (i : Nat) (v : V), es.flatten[i]? = some v → ∃ u, w.cell? ⟨b, po + i, none⟩ = some u ∧ S w (Live φ m) φ v u) (e len : Nat) :
    ∀ (i : Nat) (v : V), ((es.drop e).take len).flatten[i]? = some v → ∃ u, w.cell? ⟨b, po + e * n + i, none⟩ = some u ∧ S w (Live φ m) φ v u := by
  intro i v hi
  rw [flatten_slice es n e len hn, List.getElem?_take] at hi
  split at hi
  · rw [List.getElem?_drop] at hi
    rw [Nat.add_assoc]
    exact hcell _ v hi
  · cases hi

mutual
theorem Re.sound (hm : Mem N w φ m) : ∀ {v v' : V} {u : Value}, Re m v v' → S w (Live φ m) φ v u → S w (fun _ => False) noPl v' u
  | _, _, _, .pl hp, h => h.plain hp
  | _, _, _, .sl, h => by
    cases h with
    | sl hn hl hc hs => exact .sl hn hl hc hs.free
    | sl0 => exact .sl0
    | slnil => exact .slnil
  | _, _, _, .cptr, h => by
    cases h with
    | cptr hs => exact .cptr hs.free
  | _, _, _, .any, _ => .any
  | _, _, _, .own, h => by
    cases h with
    | own h => exact h.free
  | _, _, _, .ref (b := b) (e := e) (len := len) (n := n) (es := es) hb hle hr, h => by
    obtain ⟨h1, h2, h3⟩ := hr.spec
    cases h with
    | ref hφ hc hroom =>
      obtain ⟨hn, pb, po, c, ty, hφ', hp, hfit, hcell⟩ := hm.at_ b n es _ hb hφ
      rw [hφ] at hφ'
      simp at hφ'
      obtain ⟨rfl, rfl, rfl⟩ := hφ'
      have hcell' : ∀ (i : Nat) (v : V), es.flatten[i]? = some v → ∃ u, w.cell? ⟨_, _ + i, none⟩ = some u ∧ S w (Live φ m) φ v u := fun i v hi => by
        obtain ⟨u, a1, _, a3⟩ := hcell i v hi
        exact ⟨u, cell_of hp a1, a3⟩
      have hlen : ((es.drop e).take len).length = len := by simp; omega
      exact .sl (h3 _ fun x hx => hn x (List.mem_of_mem_drop (List.mem_of_mem_take hx))) (by rw [h1, hlen]) hc (ReE.sound hm hr (flat_cells hn hcell' e len))
    | ref0 =>
      have : ∀ {x : List (List V)}, ReE m ((es.drop e).take 0) x → x = [] := fun {x} hx => by simp at hx; cases hx; rfl
      rw [this hr]
      exact .sl (by simp) rfl (Nat.le_refl _) .nil
    | refnil =>
      have : ∀ {x : List (List V)}, ReE m ((es.drop e).take 0) x → x = [] := fun {x} hx => by simp at hx; cases hx; rfl
      rw [this hr]
      exact .slnil
  | _, _, _, .ptr (b := b) (e := e) (j := j) (n := n) (es := es) (cs := cs) hb he hr, h => by
    cases h with
    | ptr hφ =>
      obtain ⟨hn, pb, po, c, ty, hφ', hp, hfit, hcell⟩ := hm.at_ b n es _ hb hφ
      rw [hφ] at hφ'
      simp at hφ'
      obtain ⟨rfl, rfl, rfl⟩ := hφ'
      exact .cptr (ReL.sound hm hr fun i v hi => by
        obtain ⟨u, a1, _, a3⟩ := hcell _ v (flatten_get hn he hi)
        exact ⟨u, by rw [Nat.add_assoc]; exact cell_of hp a1, a3⟩)
  | _, _, _, .refc (b := b) (e := e) (j := j) (q := q) (len := len) (n := n) (es := es) (cs := cs) (cs' := cs') hb he hle hr, h => by
    obtain ⟨a1, a2, a3⟩ := chunks_flatten q len (cs'.drop j) (by rw [List.length_drop, hr.length]; omega)
    cases h with
    | refc hφ hc =>
      obtain ⟨hn, pb, po, c, ty, hφ', hp, hfit, hcell⟩ := hm.at_ b n es _ hb hφ
      rw [hφ] at hφ'
      simp at hφ'
      obtain ⟨rfl, rfl, rfl⟩ := hφ'
      refine .sl a2 a3 hc ?_
      rw [a1]
      have := ReL.sound hm hr fun i v hi => by
        obtain ⟨u, a1, _, a3⟩ := hcell _ v (flatten_get hn he hi)
        exact ⟨u, by rw [← Nat.add_assoc] at a1; exact cell_of hp a1, a3⟩
      exact (this.drop j).take _
    | refc0 =>
      exact .sl (by simp [chunks]) (by simp [chunks]) (Nat.le_refl _) (by simp [chunks]; exact .nil)
  | _, _, _, .agg hr, h => by
    cases h with
    | agg hs => exact .agg (ReL.soundL hm hr hs)
  | _, _, _, .cut hr, h => by
    have := Re.sound hm hr h
    cases this with
    | cptr hs => exact .cptr' ((hs.drop _).take _) (by simp)
theorem ReL.sound (hm : Mem N w φ m) : ∀ {vs vs' : List V} {b off : Nat}, ReL m vs vs' → (∀ (i : Nat) (v : V), vs[i]? = some v → ∃ u, w.cell? ⟨b, off + i, none⟩ = some u ∧ S w (Live φ m) φ v u) → Ss w (fun _ => False) noPl b off vs'
  | _, _, _, _, .nil, _ => .nil
  | _, _, b, off, .cons h hs, hc => by
    obtain ⟨u, a1, a2⟩ := hc 0 _ rfl
    refine .cons id a1 (Re.sound hm h a2) (ReL.sound hm hs fun i v hi => ?_)
    obtain ⟨u, b1, b2⟩ := hc (i + 1) v (by simpa using hi)
    exact ⟨u, by rw [← b1]; congr 2; omega, b2⟩
theorem ReE.sound (hm : Mem N w φ m) : ∀ {vs vs' : List (List V)} {b off : Nat}, ReE m vs vs' → (∀ (i : Nat) (v : V), vs.flatten[i]? = some v → ∃ u, w.cell? ⟨b, off + i, none⟩ = some u ∧ S w (Live φ m) φ v u) → Ss w (fun _ => False) noPl b off vs'.flatten
  | _, _, _, _, .nil, _ => .nil
  | _, _, b, off, .cons (l := l) (l' := l') h hs, hc => by
    have a1 := ReL.sound hm h (b := b) (off := off) fun i v hi => hc i v (by
      have : i < l.length := (List.getElem?_eq_some_iff.1 hi).1
      rw [List.flatten_cons, List.getElem?_append_left this]; exact hi)
    have a2 := ReE.sound hm hs (b := b) (off := off + l.length) fun i v hi => by
      obtain ⟨u, b1, b2⟩ := hc (l.length + i) v (by rw [List.flatten_cons, List.getElem?_append_right (by omega)]; rw [show l.length + i - l.length = i by omega]; exact hi)
      exact ⟨u, by rw [← b1]; congr 2; omega, b2⟩
    have app : ∀ {x y : List V} {off : Nat}, Ss w (fun _ => False) noPl b off x → Ss w (fun _ => False) noPl b (off + x.length) y → Ss w (fun _ => False) noPl b off (x ++ y) := fun {x y off} hx hy => by
      induction x generalizing off with
      | nil => simpa using hy
      | cons v x ih =>
        cases hx with
        | cons ho hc hv hs => exact .cons ho hc hv (ih hs (by simpa [Nat.add_assoc, Nat.add_comm 1] using hy))
    rw [List.flatten_cons]
    exact app a1 (by rw [h.length]; exact a2)
theorem ReL.soundL (hm : Mem N w φ m) : ∀ {vs vs' : List V} {us : List Value}, ReL m vs vs' → Sl w (Live φ m) φ vs us → Sl w (fun _ => False) noPl vs' us
  | _, _, _, .nil, .nil => .nil
  | _, _, _, .cons h hs, .cons hv hvs => .cons (Re.sound hm h hv) (ReL.soundL hm hs hvs)
end
end
end Go.VL
