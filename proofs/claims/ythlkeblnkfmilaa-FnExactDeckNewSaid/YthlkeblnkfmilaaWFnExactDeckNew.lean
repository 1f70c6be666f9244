/-
  For all arguments the law FnExactDeckNew of the given program returns true, and each argument reads as before. No condition.
-/
import Derived.Test.YthlkeblnkfmilaaCardsB
import Derived.Test.YthlkeblnkfmilaaRepeat
namespace Go.Proofs.Ythlkeblnkfmilaa.fnExactDeckNew
open Go.RowKit
set_option maxHeartbeats 2000000 in
theorem walk {w : World} (y0 : Int) (wy0 : (Lit.int .i64 y0).wf = true) :
    Calls Try.prog 6 #[.int .i64 y0] w fun e w' => e = .returned (.bool true) ∧ Fr w.heap.size none w w' := by
  clear wy0
  go_enter Try.func6, Try.ntmps6
  have z0 : w.heap.size ≤ w.heap.size := Nat.le_refl _
  have hR0 : (newDeckI y0).length ≤ 1048576 := newDeckI_le y0
  go_wp2_with fail
  refine (specDeckNew_any y0 _ ).mono ?_; rintro e w1 ⟨vas0, vcs0, rfl, o_, F1⟩
  have z1 := F1.size
  have G1 := Lib.hid ((Fr.refl w.heap.size none w).and F1)
  clear F1
  have Ls0 := Lib.hid (Own.lt o_)
  have Os0_1 := Lib.hid o_; clear o_
  go_wp2_with fail
  refine (implDeckNew_any y0 _ ).mono ?_; rintro e w2 ⟨var0, vcr0, rfl, o_, F2⟩
  have z2 := F2.size
  have Os0_2 := Lib.hid (Own.keep Os0_1.out F2)
  have G2 := Lib.hid (G1.out.and F2)
  clear F2
  have Lr0 := Lib.hid (Own.lt o_)
  have Or0_2 := Lib.hid o_; clear o_
  go_wp2_with fail
  refine (eqCardS_any _ _ _ _ (newDeckI y0) _ (Own.sl Or0_2.out) (Own.sl Os0_2.out) hR0).mono ?_; rintro e w3 ⟨rfl, F3⟩
  have z3 := F3.size
  have Os0_3 := Lib.hid (Own.keep Os0_2.out F3)
  have Or0_3 := Lib.hid (Own.keep Or0_2.out F3)
  have G3 := Lib.hid (G2.out.and F3)
  clear F3
  go_wp2_with fail
  refine (markCardS_any _ _ (newDeckI y0) (1) _ _ Or0_3.out hR0 (by omega) (by omega)).mono ?_; rintro e w4 ⟨rfl, o_, F4⟩
  have z4 := F4.size
  have Os0_4 := Lib.hid (Own.frB Os0_3.out F4 (apart Ls0.out Lr0.out (by omega) (by omega)))
  have Or0_4 := Lib.hid o_; clear o_
  have G4 := Lib.hid (mark_up G3.out F4 Lr0.out (by omega) (by omega))
  clear F4
  go_wp2_with fail
  refine (heldCardS_any _ _ ((newDeckI y0).length) (1) _ (Own.sl Or0_4.out) hR0 (by omega) (by omega)).mono ?_; rintro e w5 ⟨rfl, F5⟩
  have z5 := F5.size
  have Os0_5 := Lib.hid (Own.keep Os0_4.out F5)
  have Or0_5 := Lib.hid (Own.keep Or0_4.out F5)
  have G5 := Lib.hid (G4.out.and F5)
  clear F5
  go_wp2_with fail
  refine (implDeckNew_any y0 _ ).mono ?_; rintro e w6 ⟨vau0, vcu0, rfl, o_, F6⟩
  have z6 := F6.size
  have Os0_6 := Lib.hid (Own.keep Os0_5.out F6)
  have Or0_6 := Lib.hid (Own.keep Or0_5.out F6)
  have G6 := Lib.hid (G5.out.and F6)
  clear F6
  have Lu0 := Lib.hid (Own.lt o_)
  have Ou0_6 := Lib.hid o_; clear o_
  go_wp2_with fail
  refine (eqCardS_any _ _ _ _ (newDeckI y0) _ (Own.sl Ou0_6.out) (Own.sl Os0_6.out) hR0).mono ?_; rintro e w7 ⟨rfl, F7⟩
  have z7 := F7.size
  have Os0_7 := Lib.hid (Own.keep Os0_6.out F7)
  have Or0_7 := Lib.hid (Own.keep Or0_6.out F7)
  have Ou0_7 := Lib.hid (Own.keep Ou0_6.out F7)
  have G7 := Lib.hid (G6.out.and F7)
  clear F7
  go_wp2_with fail
  refine (heldCardS_any _ _ ((newDeckI y0).length) (1) _ (Own.sl Or0_7.out) hR0 (by omega) (by omega)).mono ?_; rintro e w8 ⟨rfl, F8⟩
  have z8 := F8.size
  have Os0_8 := Lib.hid (Own.keep Os0_7.out F8)
  have Or0_8 := Lib.hid (Own.keep Or0_7.out F8)
  have Ou0_8 := Lib.hid (Own.keep Ou0_7.out F8)
  have G8 := Lib.hid (G7.out.and F8)
  clear F8
  go_wp2
  go_ret
  exact ⟨rfl, G8.out⟩
end Go.Proofs.Ythlkeblnkfmilaa.fnExactDeckNew
