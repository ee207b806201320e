/- The step from a contract to a row that lists variables, the world's shape kept. -/
import Derived.Handed
import Derived.SizedLaws
import Derived.Shelf.Vars
namespace Go.VL
variable {H : Type} {enc : TypeId × Value → H}

/-- The contract may lean on the condition X and on the world's shape. -/
theorem handed_laid {os : Os} {C : Checked} {f : FuncId} {fn : Func} {s : ChangeSpec} {X : World → Array Value → Prop} {apart fresh handsOn again : Bool} {a : Assume}
    (hX : ∀ (w w' : World) (args : Array Value), w.heap = w'.heap → X w args → X w' args) (ho : ownKnob C.prog.godebug = none) (hs : os.Started) (hn : C.prog.inits.idxOf? f = none) (hf : C.prog.funcs[f]? = some fn)
    (wit : ∃ (w : World) (tape : Tape) (i : Input), w.os = os ∧ (w.forCall tape i).Shaped C.prog ∧ i.vars = [] ∧ Input.okWide C.prog (w.forCall tape i) .any w.heap.size f i ∧
      ((s.pre enc C.prog fn [] apart (w.forCall tape i).memory i.args ∧ X (w.forCall tape i).memory i.args) ∧ sizedMet enc C.prog fn (OpenSpec.ofChange s) apart (w.forCall tape i).memory i.args) ∧ a.holds C.prog (lone (Frame.enter C.prog f i.args .normal) [] (w.forCall tape i)))
    (con : ∀ (W : World) (base : Nat) (args : Array Value) (ds gs : List (DataW H)) (before : List MemPlace), X W args → W.ShapedOpen C.prog →
      (∀ (j : Nat) t v, fn.params[j]? = some t → args[j]? = some v → Value.okWide C.prog W .any base t v) → DataW.Whole enc C.prog fn.params.toList s.vars apart W args.toList ds gs before →
      Calls C.prog f args W fun e W' => ∃ v, e = .returned v ∧ s.post enc C.prog fn apart fresh handsOn again W args v W') :
    ReturnsInHanded a C os f .any (fun w args => (s.pre enc C.prog fn [] apart w args ∧ X w args) ∧ sizedMet enc C.prog fn (OpenSpec.ofChange s) apart w args) (s.post enc C.prog fn apart fresh handsOn again) :=
  returnsInHanded_of_calls ho hs hn wit fun w tape i _ shape _ ok pre _ => by
    obtain ⟨_, _, _, fn', h1, _, _, _, _, hv⟩ := ok
    cases h1.symm.trans hf
    obtain ⟨⟨⟨ds, gs, before, hw, _⟩, hx⟩, _⟩ := pre
    refine (con (w.forCall tape i) w.heap.size i.args ds gs before (hX _ (w.forCall tape i) _ (by rfl) hx) shape hv (DataW.Whole.of_heap (w' := w.forCall tape i) (by rfl) hw)).mono fun e W' ⟨v, he, hp⟩ => ?_
    subst he
    exact ChangeSpec.post_blind hp
/-- A whole number among the library's variables. -/
theorem int_var {P : Program} {w : World} {n : String} {g0 t : Nat} {z : Int} (h : w.ShapedOpen P) (hn : P.globalNamed n = some g0) (hg : (g0 + 1).ble P.globals.size = true) (h0 : ((begin P (fun _ _ => 0) default).world.heap[g0]?).bind Obj.row? = some (#[.int .i64 z], t))
    (hb : P.buildable t = true) (hc : P.cellTypes P.depth t = some [t]) (hu : P.underlying t = some (.int .i64)) : ∀ g, P.globalNamed n = some g → ∃ m, w.cell? ⟨g, 0, none⟩ = some (.int .i64 m) := fun g hg' => by
  obtain rfl := Option.some.inj (hg'.symm.trans hn)
  exact Go.Proofs.cell_of_shapedOpen_int h (Nat.le_of_ble_eq_true hg) h0 rfl hb hc hu
end Go.VL
