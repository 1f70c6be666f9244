/-
  For all arguments the law FnExactBoardRun of the given program returns true, and each argument reads as before. No condition.
-/
import Derived.Test.YtcfbdjdbmjdjnaaTestF
import Derived.Test.YtcfbdjdbmjdjnaaDeedB
import Derived.Test.YtcfbdjdbmjdjnaaBoardC
import Derived.Test.YtcfbdjdbmjdjnaaDeedC
import Derived.Test.YtcfbdjdbmjdjnaaTestE
import Derived.Test.YtcfbdjdbmjdjnaaTestD
namespace Go.Proofs.Ytcfbdjdbmjdjnaa.fnExactBoardRun
open Go.RowKit
set_option maxHeartbeats 2000000 in
theorem walk {w : World} (a0 : Option Addr) (c0 : Nat) (x0 : List Tst) (hs0 : Sl w a0 (tests x0)) (hb0 : x0.length ≤ 9223372036854775807 ∧ Big x0) (a1 : Option Addr) (c1 : Nat) (x1 : List Dd) (hs1 : Sl w a1 (deeds x1)) (hb1 : x1.length ≤ 9223372036854775807 ∧ BigD x1) :
    Calls Try.prog 8 #[.slice a0 x0.length c0, .slice a1 x1.length c1] w fun e w' => e = .returned (.bool true) ∧ Fr w.heap.size none w w' := by
  have HS0 : Hid (Sl w a0 (tests x0)) := hs0
  clear hs0
  have HS1 : Hid (Sl w a1 (deeds x1)) := hs1
  clear hs1
  go_enter Try.func8, Try.ntmps8
  have z0 : w.heap.size ≤ w.heap.size := Nat.le_refl _
  go_wp2_with fail
  refine (szTestS_any a0 c0 x0 1048576 _ (HS0.out.fr (Fr.refl w.heap.size none w)) hb0.1 hb0.2 (by omega) (by omega)).mono ?_; rintro e w1 ⟨⟨l0, rfl, hl0⟩, F1⟩
  have z1 := F1.size
  have G1 := Lib.hid ((Fr.refl w.heap.size none w).and F1)
  clear F1
  rcases hl0 with rfl | ⟨l0a, l0b, hn0, hsm0_⟩
  · go_wp2
    go_ret
    exact ⟨rfl, G1.out⟩
  have hsm0 := Lib.hid hsm0_; clear hsm0_
  go_wp2_with fail
  refine (szDeedS_any a1 c1 x1 l0 _ (HS1.out.fr G1.out) hb1.1 hb1.2 (by omega) (by omega)).mono ?_; rintro e w2 ⟨⟨l1, rfl, hl1⟩, F2⟩
  have z2 := F2.size
  have G2 := Lib.hid (G1.out.and F2)
  clear F2
  rcases hl1 with rfl | ⟨l1a, l1b, hn1, hsm1_⟩
  · go_wp2
    go_ret
    exact ⟨rfl, G2.out⟩
  have hsm1 := Lib.hid hsm1_; clear hsm1_
  have hR0 : (runC x0 x1).length ≤ 1048576 := runC_le hn0 hn1
  go_wp2_with fail
  refine (toTestS_any a0 c0 x0 _ (HS0.out.fr G2.out) hn0).mono ?_; rintro e w3 ⟨gp0, rfl, o_, F3⟩
  have z3 := F3.size
  have G3 := Lib.hid (G2.out.and F3)
  clear F3
  have o_ := Own.of o_
  have Lp0 := Lib.hid (Own.lt o_)
  have Op0_3 := Lib.hid o_; clear o_
  go_wp2_with fail
  refine (toDeedS_any a1 c1 x1 _ (HS1.out.fr G3.out) hn1).mono ?_; rintro e w4 ⟨gp1, rfl, o_, F4⟩
  have z4 := F4.size
  have Op0_4 := Lib.hid (Own.keep Op0_3.out F4)
  have G4 := Lib.hid (G3.out.and F4)
  clear F4
  have o_ := Own.of o_
  have Lp1 := Lib.hid (Own.lt o_)
  have Op1_4 := Lib.hid o_; clear o_
  go_wp2_with fail
  refine (specBoardRun_any _ _ x0 _ _ x1 _ (Own.sl Op0_4.out) hn0 hsm0.out (Own.sl Op1_4.out) hn1 hsm1.out (by simp)).mono ?_; rintro e w5 ⟨vas0, vcs0, rfl, o_, F5⟩
  have z5 := F5.size
  have Op0_5 := Lib.hid (Own.keep Op0_4.out F5)
  have Op1_5 := Lib.hid (Own.keep Op1_4.out F5)
  have G5 := Lib.hid (G4.out.and F5)
  clear F5
  have Ls0 := Lib.hid (Own.lt o_)
  have Os0_5 := Lib.hid o_; clear o_
  go_wp2_with fail
  refine (toTestS_any a0 c0 x0 _ (HS0.out.fr G5.out) hn0).mono ?_; rintro e w6 ⟨gx0, rfl, o_, F6⟩
  have z6 := F6.size
  have Os0_6 := Lib.hid (Own.keep Os0_5.out F6)
  have G6 := Lib.hid (G5.out.and F6)
  clear F6
  have o_ := Own.of o_
  have Lx0 := Lib.hid (Own.lt o_)
  have Ox0_6 := Lib.hid o_; clear o_
  go_wp2_with fail
  refine (toDeedS_any a1 c1 x1 _ (HS1.out.fr G6.out) hn1).mono ?_; rintro e w7 ⟨gx1, rfl, o_, F7⟩
  have z7 := F7.size
  have Os0_7 := Lib.hid (Own.keep Os0_6.out F7)
  have Ox0_7 := Lib.hid (Own.keep Ox0_6.out F7)
  have G7 := Lib.hid (G6.out.and F7)
  clear F7
  have o_ := Own.of o_
  have Lx1 := Lib.hid (Own.lt o_)
  have Ox1_7 := Lib.hid o_; clear o_
  go_wp2_with fail
  refine (implBoardRun_any _ _ x0 _ _ x1 _ (Own.sl Ox0_7.out) hn0 hsm0.out (Own.sl Ox1_7.out) hn1 hsm1.out).mono ?_; rintro e w8 ⟨var0, vcr0, rfl, o_, F8⟩
  have z8 := F8.size
  have Os0_8 := Lib.hid (Own.keep Os0_7.out F8)
  have Ox0_8 := Lib.hid (Own.keep Ox0_7.out F8)
  have Ox1_8 := Lib.hid (Own.keep Ox1_7.out F8)
  have G8 := Lib.hid (G7.out.and F8)
  clear F8
  have Lr0 := Lib.hid (Own.lt o_)
  have Or0_8 := Lib.hid o_; clear o_
  go_wp2_with fail
  refine (eqTestS_any _ _ _ _ (runC x0 x1) _ (Own.sl Or0_8.out) (Own.sl Os0_8.out) hR0).mono ?_; rintro e w9 ⟨rfl, F9⟩
  have z9 := F9.size
  have Os0_9 := Lib.hid (Own.keep Os0_8.out F9)
  have Ox0_9 := Lib.hid (Own.keep Ox0_8.out F9)
  have Ox1_9 := Lib.hid (Own.keep Ox1_8.out F9)
  have Or0_9 := Lib.hid (Own.keep Or0_8.out F9)
  have G9 := Lib.hid (G8.out.and F9)
  clear F9
  go_wp2_with fail
  refine (toTestS_any a0 c0 x0 _ (HS0.out.fr G9.out) hn0).mono ?_; rintro e w10 ⟨gt0, rfl, o_, F10⟩
  have z10 := F10.size
  have Os0_10 := Lib.hid (Own.keep Os0_9.out F10)
  have Ox0_10 := Lib.hid (Own.keep Ox0_9.out F10)
  have Ox1_10 := Lib.hid (Own.keep Ox1_9.out F10)
  have Or0_10 := Lib.hid (Own.keep Or0_9.out F10)
  have G10 := Lib.hid (G9.out.and F10)
  clear F10
  have o_ := Own.of o_
  have Lt0 := Lib.hid (Own.lt o_)
  have Ot0_10 := Lib.hid o_; clear o_
  go_wp2_with fail
  refine (eqTestS_any _ _ _ _ (x0) _ (Own.sl Ox0_10.out) (Own.sl Ot0_10.out) hn0).mono ?_; rintro e w11 ⟨rfl, F11⟩
  have z11 := F11.size
  have Os0_11 := Lib.hid (Own.keep Os0_10.out F11)
  have Ox0_11 := Lib.hid (Own.keep Ox0_10.out F11)
  have Ox1_11 := Lib.hid (Own.keep Ox1_10.out F11)
  have Or0_11 := Lib.hid (Own.keep Or0_10.out F11)
  have Ot0_11 := Lib.hid (Own.keep Ot0_10.out F11)
  have G11 := Lib.hid (G10.out.and F11)
  clear F11
  go_wp2_with fail
  refine (toDeedS_any a1 c1 x1 _ (HS1.out.fr G11.out) hn1).mono ?_; rintro e w12 ⟨gt1, rfl, o_, F12⟩
  have z12 := F12.size
  have Os0_12 := Lib.hid (Own.keep Os0_11.out F12)
  have Ox0_12 := Lib.hid (Own.keep Ox0_11.out F12)
  have Ox1_12 := Lib.hid (Own.keep Ox1_11.out F12)
  have Or0_12 := Lib.hid (Own.keep Or0_11.out F12)
  have G12 := Lib.hid (G11.out.and F12)
  clear F12
  have o_ := Own.of o_
  have Lt1 := Lib.hid (Own.lt o_)
  have Ot1_12 := Lib.hid o_; clear o_
  go_wp2_with fail
  refine (eqDeedS_any _ _ _ _ (x1) _ (Own.sl Ox1_12.out) (Own.sl Ot1_12.out) hn1).mono ?_; rintro e w13 ⟨rfl, F13⟩
  have z13 := F13.size
  have Os0_13 := Lib.hid (Own.keep Os0_12.out F13)
  have Ox0_13 := Lib.hid (Own.keep Ox0_12.out F13)
  have Ox1_13 := Lib.hid (Own.keep Ox1_12.out F13)
  have Or0_13 := Lib.hid (Own.keep Or0_12.out F13)
  have Ot1_13 := Lib.hid (Own.keep Ot1_12.out F13)
  have G13 := Lib.hid (G12.out.and F13)
  clear F13
  go_wp2_with fail
  refine (markTestS_any _ _ (x0) (1) _ _ Ox0_13.out hn0 (by omega) (by omega)).mono ?_; rintro e w14 ⟨rfl, o_, F14⟩
  have z14 := F14.size
  have Os0_14 := Lib.hid (Own.frB Os0_13.out F14 (apart Ls0.out Lx0.out (by omega) (by omega)))
  have Ox0_14 := Lib.hid o_; clear o_
  have Ox1_14 := Lib.hid (Own.frB Ox1_13.out F14 (apart Lx1.out Lx0.out (by omega) (by omega)))
  have Or0_14 := Lib.hid (Own.frB Or0_13.out F14 (apart Lr0.out Lx0.out (by omega) (by omega)))
  have G14 := Lib.hid (mark_up G13.out F14 Lx0.out (by omega) (by omega))
  clear F14
  go_wp2_with fail
  refine (markDeedS_any _ _ (x1) (1 + 3 * (x0.length : Int)) _ _ Ox1_14.out hn1 (by omega) (by omega)).mono ?_; rintro e w15 ⟨rfl, o_, F15⟩
  have z15 := F15.size
  have Os0_15 := Lib.hid (Own.frB Os0_14.out F15 (apart Ls0.out Lx1.out (by omega) (by omega)))
  have Ox0_15 := Lib.hid (Own.frB Ox0_14.out F15 (apart Lx0.out Lx1.out (by omega) (by omega)))
  have Ox1_15 := Lib.hid o_; clear o_
  have Or0_15 := Lib.hid (Own.frB Or0_14.out F15 (apart Lr0.out Lx1.out (by omega) (by omega)))
  have G15 := Lib.hid (mark_up G14.out F15 Lx1.out (by omega) (by omega))
  clear F15
  go_wp2_with fail
  refine (eqTestS_any _ _ _ _ (runC x0 x1) _ (Own.sl Or0_15.out) (Own.sl Os0_15.out) hR0).mono ?_; rintro e w16 ⟨rfl, F16⟩
  have z16 := F16.size
  have Os0_16 := Lib.hid (Own.keep Os0_15.out F16)
  have Ox0_16 := Lib.hid (Own.keep Ox0_15.out F16)
  have Ox1_16 := Lib.hid (Own.keep Ox1_15.out F16)
  have Or0_16 := Lib.hid (Own.keep Or0_15.out F16)
  have G16 := Lib.hid (G15.out.and F16)
  clear F16
  go_wp2_with fail
  refine (markTestS_any _ _ (runC x0 x1) (1) _ _ Or0_16.out hR0 (by omega) (by omega)).mono ?_; rintro e w17 ⟨rfl, o_, F17⟩
  have z17 := F17.size
  have Os0_17 := Lib.hid (Own.frB Os0_16.out F17 (apart Ls0.out Lr0.out (by omega) (by omega)))
  have Or0_17 := Lib.hid o_; clear o_
  have G17 := Lib.hid (mark_up G16.out F17 Lr0.out (by omega) (by omega))
  clear F17
  go_wp2_with fail
  refine (heldTestS_any _ _ ((runC x0 x1).length) (1) _ (Own.sl Or0_17.out) hR0 (by omega) (by omega)).mono ?_; rintro e w18 ⟨rfl, F18⟩
  have z18 := F18.size
  have Os0_18 := Lib.hid (Own.keep Os0_17.out F18)
  have Or0_18 := Lib.hid (Own.keep Or0_17.out F18)
  have G18 := Lib.hid (G17.out.and F18)
  clear F18
  go_wp2_with fail
  refine (toTestS_any a0 c0 x0 _ (HS0.out.fr G18.out) hn0).mono ?_; rintro e w19 ⟨gh0, rfl, o_, F19⟩
  have z19 := F19.size
  have Os0_19 := Lib.hid (Own.keep Os0_18.out F19)
  have Or0_19 := Lib.hid (Own.keep Or0_18.out F19)
  have G19 := Lib.hid (G18.out.and F19)
  clear F19
  have o_ := Own.of o_
  have Lh0 := Lib.hid (Own.lt o_)
  have Oh0_19 := Lib.hid o_; clear o_
  go_wp2_with fail
  refine (toDeedS_any a1 c1 x1 _ (HS1.out.fr G19.out) hn1).mono ?_; rintro e w20 ⟨gh1, rfl, o_, F20⟩
  have z20 := F20.size
  have Os0_20 := Lib.hid (Own.keep Os0_19.out F20)
  have Or0_20 := Lib.hid (Own.keep Or0_19.out F20)
  have Oh0_20 := Lib.hid (Own.keep Oh0_19.out F20)
  have G20 := Lib.hid (G19.out.and F20)
  clear F20
  have o_ := Own.of o_
  have Lh1 := Lib.hid (Own.lt o_)
  have Oh1_20 := Lib.hid o_; clear o_
  go_wp2_with fail
  refine (implBoardRun_any _ _ x0 _ _ x1 _ (Own.sl Oh0_20.out) hn0 hsm0.out (Own.sl Oh1_20.out) hn1 hsm1.out).mono ?_; rintro e w21 ⟨vau0, vcu0, rfl, o_, F21⟩
  have z21 := F21.size
  have Os0_21 := Lib.hid (Own.keep Os0_20.out F21)
  have Or0_21 := Lib.hid (Own.keep Or0_20.out F21)
  have Oh0_21 := Lib.hid (Own.keep Oh0_20.out F21)
  have Oh1_21 := Lib.hid (Own.keep Oh1_20.out F21)
  have G21 := Lib.hid (G20.out.and F21)
  clear F21
  have Lu0 := Lib.hid (Own.lt o_)
  have Ou0_21 := Lib.hid o_; clear o_
  go_wp2_with fail
  refine (eqTestS_any _ _ _ _ (runC x0 x1) _ (Own.sl Ou0_21.out) (Own.sl Os0_21.out) hR0).mono ?_; rintro e w22 ⟨rfl, F22⟩
  have z22 := F22.size
  have Os0_22 := Lib.hid (Own.keep Os0_21.out F22)
  have Or0_22 := Lib.hid (Own.keep Or0_21.out F22)
  have Ou0_22 := Lib.hid (Own.keep Ou0_21.out F22)
  have G22 := Lib.hid (G21.out.and F22)
  clear F22
  go_wp2_with fail
  refine (heldTestS_any _ _ ((runC x0 x1).length) (1) _ (Own.sl Or0_22.out) hR0 (by omega) (by omega)).mono ?_; rintro e w23 ⟨rfl, F23⟩
  have z23 := F23.size
  have Os0_23 := Lib.hid (Own.keep Os0_22.out F23)
  have Or0_23 := Lib.hid (Own.keep Or0_22.out F23)
  have Ou0_23 := Lib.hid (Own.keep Ou0_22.out F23)
  have G23 := Lib.hid (G22.out.and F23)
  clear F23
  go_wp2
  go_ret
  exact ⟨rfl, G23.out⟩
end Go.Proofs.Ytcfbdjdbmjdjnaa.fnExactBoardRun
