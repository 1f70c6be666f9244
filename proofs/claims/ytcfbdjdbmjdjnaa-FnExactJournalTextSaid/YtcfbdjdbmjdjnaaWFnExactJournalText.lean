/-
  For all arguments the law FnExactJournalText of the given program returns true, and each argument reads as before. No condition.
-/
import Derived.Test.YtcfbdjdbmjdjnaaDeedB
import Derived.Test.YtcfbdjdbmjdjnaaJournal
namespace Go.Proofs.Ytcfbdjdbmjdjnaa.fnExactJournalText
open Go.RowKit
set_option maxHeartbeats 2000000 in
theorem walk {w : World} (a0 : Option Addr) (c0 : Nat) (x0 : List Dd) (hs0 : Sl w a0 (deeds x0)) (hb0 : x0.length ≤ 9223372036854775807 ∧ BigD x0) :
    Calls Try.prog 5 #[.slice a0 x0.length c0] w fun e w' => e = .returned (.bool true) ∧ Fr w.heap.size none w w' := by
  have HS0 : Hid (Sl w a0 (deeds x0)) := hs0
  clear hs0
  go_enter Try.func5, Try.ntmps5
  have z0 : w.heap.size ≤ w.heap.size := Nat.le_refl _
  go_wp2_with fail
  refine (szDeedS_any a0 c0 x0 1048576 _ (HS0.out.fr (Fr.refl w.heap.size none w)) hb0.1 hb0.2 (by omega) (by omega)).mono ?_; rintro e w1 ⟨⟨l0, rfl, hl0⟩, F1⟩
  have z1 := F1.size
  have G1 := Lib.hid ((Fr.refl w.heap.size none w).and F1)
  clear F1
  rcases hl0 with rfl | ⟨l0a, l0b, hn0, hsm0_⟩
  · go_wp2
    go_ret
    exact ⟨rfl, G1.out⟩
  have hsm0 := Lib.hid hsm0_; clear hsm0_
  go_wp2_with fail
  refine (toDeedS_any a0 c0 x0 _ (HS0.out.fr G1.out) hn0).mono ?_; rintro e w2 ⟨gp0, rfl, o_, F2⟩
  have z2 := F2.size
  have G2 := Lib.hid (G1.out.and F2)
  clear F2
  have o_ := Own.of o_
  have Lp0 := Lib.hid (Own.lt o_)
  have Op0_2 := Lib.hid o_; clear o_
  go_wp2_with fail
  refine (specJournal_any _ _ x0 _ (Own.sl Op0_2.out) hn0 hsm0.out).mono ?_; rintro e w3 ⟨rfl, F3⟩
  have z3 := F3.size
  have Op0_3 := Lib.hid (Own.keep Op0_2.out F3)
  have G3 := Lib.hid (G2.out.and F3)
  clear F3
  go_wp2_with fail
  refine (toDeedS_any a0 c0 x0 _ (HS0.out.fr G3.out) hn0).mono ?_; rintro e w4 ⟨gx0, rfl, o_, F4⟩
  have z4 := F4.size
  have G4 := Lib.hid (G3.out.and F4)
  clear F4
  have o_ := Own.of o_
  have Lx0 := Lib.hid (Own.lt o_)
  have Ox0_4 := Lib.hid o_; clear o_
  go_wp2_with fail
  refine (implJournal_any _ _ x0 _ (Own.sl Ox0_4.out) hn0 hsm0.out).mono ?_; rintro e w5 ⟨rfl, F5⟩
  have z5 := F5.size
  have Ox0_5 := Lib.hid (Own.keep Ox0_4.out F5)
  have G5 := Lib.hid (G4.out.and F5)
  clear F5
  go_wp2_with fail
  refine (toDeedS_any a0 c0 x0 _ (HS0.out.fr G5.out) hn0).mono ?_; rintro e w6 ⟨gt0, rfl, o_, F6⟩
  have z6 := F6.size
  have Ox0_6 := Lib.hid (Own.keep Ox0_5.out F6)
  have G6 := Lib.hid (G5.out.and F6)
  clear F6
  have o_ := Own.of o_
  have Lt0 := Lib.hid (Own.lt o_)
  have Ot0_6 := Lib.hid o_; clear o_
  go_wp2_with fail
  refine (eqDeedS_any _ _ _ _ (x0) _ (Own.sl Ox0_6.out) (Own.sl Ot0_6.out) hn0).mono ?_; rintro e w7 ⟨rfl, F7⟩
  have z7 := F7.size
  have Ox0_7 := Lib.hid (Own.keep Ox0_6.out F7)
  have Ot0_7 := Lib.hid (Own.keep Ot0_6.out F7)
  have G7 := Lib.hid (G6.out.and F7)
  clear F7
  go_wp2
  go_ret
  exact ⟨rfl, G7.out⟩
end Go.Proofs.Ytcfbdjdbmjdjnaa.fnExactJournalText
