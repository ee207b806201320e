/- Plain law: ValidHouse. -/
import Derived.Test.YtloepppmjppddaaGreatDoorK3Qb
import Derived.Test.YtloepppmjppddaaGreatDoorK3c
namespace Go.Proofs.YtloepppmjppddaaGreatDoor
open Go.VL
set_option linter.unusedSimpArgs false
set_option linter.unusedVariables false
set_option maxHeartbeats 4000000
theorem law3 (aH : T34) (h : HypH aH) : g3 aH = some true:=by
 unfold g3
 obtain ⟨r1,e1,k1⟩:=z7 (len_of h) (n:=1048576) (by omega) (by omega)
 rw [e1,Option.bind_some]
 rcases k1 with rfl | ⟨a1,b1,sH⟩
 ·rw [if_pos (by simp [Zq])]
 rw [if_neg (by simp [Zq]; omega)]
 obtain ⟨b,h1,h2,_⟩:=valid_both (hok_of h) sH
 unfold g7
 simp only [c9 sH,Option.bind_some,h1,h2,q11 sH]
 cases b <;> rfl
end Go.Proofs.YtloepppmjppddaaGreatDoor
