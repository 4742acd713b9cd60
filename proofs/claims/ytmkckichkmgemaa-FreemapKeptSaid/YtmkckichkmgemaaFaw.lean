/- What must come at any rate ('awake') of layer 12, comes. -/
import Derived.Test.YtmkckichkmgemaaFl2
namespace Go.Proofs.Ytmkckichkmgemaa
open Go.RowKit
namespace Fl

set_option maxHeartbeats 1000000 in
set_option maxRecDepth 100000 in
theorem awake_any (w : World) : Calls Try.prog 9 #[] w fun e w' => e = .returned (.bool true) ∧ Below w.heap.size w w' := by
  go_enter Try.func9, Try.ntmps9
  go_wp2_with fail
  refine (Fm.new_yes 4 _ (by omega)).mono ?_
  rintro e w1 ⟨rfl, a1, b1⟩
  rw [show Fm.zeros 4 = [0, 0, 0, 0] from rfl] at a1
  go_wp2_with fail
  refine (Fm.use_any _ _ [0, 0, 0, 0] 0 _ a1).mono ?_
  rintro e w2 ⟨rfl, a2, k2⟩
  rw [show Fm.use [0, 0, 0, 0] 0 = [1, 0, 0, 0] by decide] at a2
  rw [show Fm.useE [0, 0, 0, 0] 0 = 0 by decide]
  go_wp2_with fail
  refine (Fm.take_any _ _ [1, 0, 0, 0] _ a2).mono ?_
  rintro e w3 ⟨rfl, a3, k3⟩
  rw [show Fm.take [1, 0, 0, 0] = [1, 2, 0, 0] by decide] at a3
  rw [show Fm.takeI [1, 0, 0, 0] = 1 by decide, show Fm.takeE [1, 0, 0, 0] = 0 by decide]
  go_wp2_with fail
  refine (Fm.leave_any _ _ [1, 2, 0, 0] 0 _ a3).mono ?_
  rintro e w4 ⟨rfl, a4, k4⟩
  rw [show Fm.leave [1, 2, 0, 0] 0 = [3, 2, 0, 0] by decide] at a4
  rw [show Fm.leaveE [1, 2, 0, 0] 0 = 0 by decide]
  go_wp2_with fail
  refine (Fm.take_any _ _ [3, 2, 0, 0] _ a4).mono ?_
  rintro e w5 ⟨rfl, a5, k5⟩
  rw [show Fm.take [3, 2, 0, 0] = [3, 2, 2, 0] by decide] at a5
  rw [show Fm.takeI [3, 2, 0, 0] = 2 by decide, show Fm.takeE [3, 2, 0, 0] = 0 by decide]
  go_wp2_with fail
  refine (Fm.commit_any _ _ [3, 2, 2, 0] _ a5).mono ?_
  rintro e w6 ⟨rfl, a6, k6⟩
  rw [show Fm.turn 0 1 [3, 2, 2, 0] = [0, 1, 1, 0] by decide] at a6
  go_wp2_with fail
  refine (Fm.take_any _ _ [0, 1, 1, 0] _ a6).mono ?_
  rintro e w7 ⟨rfl, a7, k7⟩
  rw [show Fm.take [0, 1, 1, 0] = [2, 1, 1, 0] by decide] at a7
  rw [show Fm.takeI [0, 1, 1, 0] = 0 by decide, show Fm.takeE [0, 1, 1, 0] = 0 by decide]
  have b7 : Below w.heap.size w w7 := by
    have s := b1.size
    exact b1.trans (((((((k2.trans k3).trans k4).trans k5).trans k6).trans k7).below (B := w.heap.size) (by rintro k rfl; omega) s))
  clear k2 k3 k4 k5 k6 k7 b1 a1 a2 a3 a4 a5 a6
  go_wp2_with fail
  refine (Fm.free_any _ _ [2, 1, 1, 0] _ a7).mono ?_
  rintro e w8 ⟨rfl, b8⟩
  have a8 := a7.below b8
  rw [show Fm.places [2, 1, 1, 0] 0 = [3] by decide]
  go_wp2_with fail
  refine (Fm.fresh_any _ _ [2, 1, 1, 0] 0 _ a8).mono ?_
  rintro e w' ⟨rfl, rfl⟩
  rw [show Fm.fresh [2, 1, 1, 0] 0 = true by decide]
  go_wp2_with fail
  refine (Fm.fresh_any _ _ [2, 1, 1, 0] 1 _ a8).mono ?_
  rintro e w' ⟨rfl, rfl⟩
  rw [show Fm.fresh [2, 1, 1, 0] 1 = false by decide]
  go_wp2_with fail
  go_ret
  exact ⟨rfl, Fm.Below.next b7 b8⟩

end Fl
end Go.Proofs.Ytmkckichkmgemaa
