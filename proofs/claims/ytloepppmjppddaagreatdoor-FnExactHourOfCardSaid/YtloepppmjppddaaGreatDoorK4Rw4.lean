/- Plain law: HourOf. -/
import Derived.Test.YtloepppmjppddaaGreatDoorK4Qb
import Derived.Test.YtloepppmjppddaaGreatDoorK4c
namespace Go.Proofs.YtloepppmjppddaaGreatDoor
open Go.VL
set_option linter.unusedSimpArgs false
set_option linter.unusedVariables false
set_option maxHeartbeats 4000000
theorem hour_tot {h : T34} (hf : Facts h) : ∃ x,g44 h = some x∧g45 h = some x:=by
 unfold g44 g45
 obtain ⟨h1,h2⟩:=hf.hours
 obtain ⟨t1,t2⟩:=hf.tick
 have hr : rI .i64 h.tick_ (h.hours_.length : Int) = some (h.tick_.tmod (h.hours_.length : Int)):=by
  unfold rI
  rw [if_neg (by omega)]
 have e : h.tick_.tmod (h.hours_.length : Int) = h.tick_ % (h.hours_.length : Int):=Int.tmod_eq_emod_of_nonneg t1
 have m1:=Int.emod_nonneg h.tick_ (show (h.hours_.length : Int) ≠ 0 by omega)
 have m2:=Int.emod_lt_of_pos h.tick_ (show 0 < (h.hours_.length : Int) by omega)
 rw [hr,Option.bind_some,e,idx_of m1 (by omega)]
 exact ⟨_,rfl,rfl⟩
theorem Ho (a : T51) : g13 a a = some true:=by
 unfold g13
 simp [q59]
theorem law4 (aH : T34) (h : HypH aH) : g4 aH = some true:=by
 unfold g4
 obtain ⟨r1,e1,k1⟩:=z7 (len_of h) (n:=1048576) (by omega) (by omega)
 rw [e1,Option.bind_some]
 rcases k1 with rfl | ⟨a1,b1,sH⟩
 ·rw [if_pos (by simp [Zq])]
 rw [if_neg (by simp [Zq]; omega)]
 obtain ⟨b,h1,h2,h3⟩:=valid_both (hok_of h) sH
 unfold g11 g12
 simp only [c9 sH,Option.bind_some,h1,h2,q11 sH]
 cases b with
 | false => simp [Ho,Yx]
 | true =>
  obtain ⟨x,x1,x2⟩:=hour_tot (h3 rfl)
  simp [x1,x2,Ho,Yx]
end Go.Proofs.YtloepppmjppddaaGreatDoor
