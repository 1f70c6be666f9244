/-
  For all arguments the law FnExactAfterDays of the given program returns true, and each argument reads as before. No condition.
-/
import Derived.Test.YtoedenmimcmkoaaCardsB
import Derived.Test.YtoedenmimcmkoaaInts
import Derived.Test.YtoedenmimcmkoaaDaysC
namespace Go.Proofs.Ytoedenmimcmkoaa.fnExactAfterDays
open Go.RowKit
set_option maxHeartbeats 2000000 in
theorem walk {w : World} (a0 : Option Addr) (c0 : Nat) (x0 : List (Int × Int)) (hs0 : Sl w a0 (cards x0)) (hb0 : x0.length ≤ 9223372036854775807) (y1 : Int) (wy1 : (Lit.int .i64 y1).wf = true) (y2 : Int) (wy2 : (Lit.int .i64 y2).wf = true) (a3 : Option Addr) (c3 : Nat) (x3 : List Int) (hs3 : Sl w a3 (x3.map (Value.int .i64))) (hw3 : ∀ n ∈ x3, (Lit.int .i64 n).wf = true) :
    Calls Try.prog 6 #[.slice a0 x0.length c0, .int .i64 y1, .int .i64 y2, .slice a3 x3.length c3] w fun e w' => e = .returned (.bool true) ∧ Fr w.heap.size none w w' := by
  clear hw3
  clear wy1
  clear wy2
  have HS0 : Hid (Sl w a0 (cards x0)) := hs0
  clear hs0
  have HS3 : Hid (Sl w a3 (ints x3)) := hs3
  clear hs3
  by_cases hn3 : x3.length ≤ 1048576
  rotate_left
  · have hl : (1048576 : Int) < x3.length := by omega
    go_enter Try.func6, Try.ntmps6
    go_wp2
    go_ret
    exact ⟨rfl, Fr.refl _ _ _⟩
  by_cases hz0 : (x0.length : Int) ≤ 1048576
  rotate_left
  · go_enter Try.func6, Try.ntmps6
    go_wp2_with fail
    refine (szCardS_no _ _ _ _ _ (by omega) (by omega) (by omega)).mono ?_; rintro e w' ⟨rfl, rfl⟩
    go_wp2
    go_ret
    exact ⟨rfl, Fr.refl _ _ _⟩
  have hn0 : x0.length ≤ 1048576 := by omega
  go_enter Try.func6, Try.ntmps6
  go_wp2_with fail
  refine (szCardS_yes _ _ _ _ _ (by omega) (by omega)).mono ?_; rintro e w' ⟨rfl, rfl⟩
  have z0 : w.heap.size ≤ w.heap.size := Nat.le_refl _
  have hR0 : (daysC x0 y1 y2 x3).length ≤ 1048576 := daysC_len x0 y1 y2 x3
  go_wp2_with fail
  refine (toCardS_any a0 c0 x0 _ (HS0.out.fr (Fr.refl w.heap.size none w)) hn0).mono ?_; rintro e w1 ⟨gp0, rfl, o_, F1⟩
  have z1 := F1.size
  have G1 := Lib.hid ((Fr.refl w.heap.size none w).and F1)
  clear F1
  have o_ := Own.of o_
  have Lp0 := Lib.hid (Own.lt o_)
  have Op0_1 := Lib.hid o_; clear o_
  go_wp2_with fail
  refine (toIntS_any a3 c3 x3 _ (HS3.out.fr G1.out) hn3).mono ?_; rintro e w2 ⟨gp3, rfl, o_, F2⟩
  have z2 := F2.size
  have Op0_2 := Lib.hid (Own.keep Op0_1.out F2)
  have G2 := Lib.hid (G1.out.and F2)
  clear F2
  have o_ := Own.of o_
  have Lp3 := Lib.hid (Own.lt o_)
  have Op3_2 := Lib.hid o_; clear o_
  go_wp2_with fail
  refine (specAfterDays_any _ _ x0 y1 y2 _ _ x3 _ (Own.sl Op0_2.out) hn0 (Own.sl Op3_2.out) hn3).mono ?_; rintro e w3 ⟨vas0, vcs0, rfl, o_, F3⟩
  have z3 := F3.size
  have Op0_3 := Lib.hid (Own.keep Op0_2.out F3)
  have Op3_3 := Lib.hid (Own.keep Op3_2.out F3)
  have G3 := Lib.hid (G2.out.and F3)
  clear F3
  have Ls0 := Lib.hid (Own.lt o_)
  have Os0_3 := Lib.hid o_; clear o_
  go_wp2_with fail
  refine (toCardS_any a0 c0 x0 _ (HS0.out.fr G3.out) hn0).mono ?_; rintro e w4 ⟨gx0, rfl, o_, F4⟩
  have z4 := F4.size
  have Os0_4 := Lib.hid (Own.keep Os0_3.out F4)
  have G4 := Lib.hid (G3.out.and F4)
  clear F4
  have o_ := Own.of o_
  have Lx0 := Lib.hid (Own.lt o_)
  have Ox0_4 := Lib.hid o_; clear o_
  go_wp2_with fail
  refine (toIntS_any a3 c3 x3 _ (HS3.out.fr G4.out) hn3).mono ?_; rintro e w5 ⟨gx3, rfl, o_, F5⟩
  have z5 := F5.size
  have Os0_5 := Lib.hid (Own.keep Os0_4.out F5)
  have Ox0_5 := Lib.hid (Own.keep Ox0_4.out F5)
  have G5 := Lib.hid (G4.out.and F5)
  clear F5
  have o_ := Own.of o_
  have Lx3 := Lib.hid (Own.lt o_)
  have Ox3_5 := Lib.hid o_; clear o_
  go_wp2_with fail
  refine (implAfterDays_any _ _ x0 y1 y2 _ _ x3 _ (Own.sl Ox0_5.out) hn0 (Own.sl Ox3_5.out) hn3).mono ?_; rintro e w6 ⟨var0, vcr0, rfl, o_, F6⟩
  have z6 := F6.size
  have Os0_6 := Lib.hid (Own.keep Os0_5.out F6)
  have Ox0_6 := Lib.hid (Own.keep Ox0_5.out F6)
  have Ox3_6 := Lib.hid (Own.keep Ox3_5.out F6)
  have G6 := Lib.hid (G5.out.and F6)
  clear F6
  have Lr0 := Lib.hid (Own.lt o_)
  have Or0_6 := Lib.hid o_; clear o_
  go_wp2_with fail
  refine (eqCardS_any _ _ _ _ (daysC x0 y1 y2 x3) _ (Own.sl Or0_6.out) (Own.sl Os0_6.out) hR0).mono ?_; rintro e w7 ⟨rfl, F7⟩
  have z7 := F7.size
  have Os0_7 := Lib.hid (Own.keep Os0_6.out F7)
  have Ox0_7 := Lib.hid (Own.keep Ox0_6.out F7)
  have Ox3_7 := Lib.hid (Own.keep Ox3_6.out F7)
  have Or0_7 := Lib.hid (Own.keep Or0_6.out F7)
  have G7 := Lib.hid (G6.out.and F7)
  clear F7
  go_wp2_with fail
  refine (toCardS_any a0 c0 x0 _ (HS0.out.fr G7.out) hn0).mono ?_; rintro e w8 ⟨gt0, rfl, o_, F8⟩
  have z8 := F8.size
  have Os0_8 := Lib.hid (Own.keep Os0_7.out F8)
  have Ox0_8 := Lib.hid (Own.keep Ox0_7.out F8)
  have Ox3_8 := Lib.hid (Own.keep Ox3_7.out F8)
  have Or0_8 := Lib.hid (Own.keep Or0_7.out F8)
  have G8 := Lib.hid (G7.out.and F8)
  clear F8
  have o_ := Own.of o_
  have Lt0 := Lib.hid (Own.lt o_)
  have Ot0_8 := Lib.hid o_; clear o_
  go_wp2_with fail
  refine (eqCardS_any _ _ _ _ (x0) _ (Own.sl Ox0_8.out) (Own.sl Ot0_8.out) hn0).mono ?_; rintro e w9 ⟨rfl, F9⟩
  have z9 := F9.size
  have Os0_9 := Lib.hid (Own.keep Os0_8.out F9)
  have Ox0_9 := Lib.hid (Own.keep Ox0_8.out F9)
  have Ox3_9 := Lib.hid (Own.keep Ox3_8.out F9)
  have Or0_9 := Lib.hid (Own.keep Or0_8.out F9)
  have Ot0_9 := Lib.hid (Own.keep Ot0_8.out F9)
  have G9 := Lib.hid (G8.out.and F9)
  clear F9
  go_wp2_with fail
  refine (toIntS_any a3 c3 x3 _ (HS3.out.fr G9.out) hn3).mono ?_; rintro e w10 ⟨gt3, rfl, o_, F10⟩
  have z10 := F10.size
  have Os0_10 := Lib.hid (Own.keep Os0_9.out F10)
  have Ox0_10 := Lib.hid (Own.keep Ox0_9.out F10)
  have Ox3_10 := Lib.hid (Own.keep Ox3_9.out F10)
  have Or0_10 := Lib.hid (Own.keep Or0_9.out F10)
  have G10 := Lib.hid (G9.out.and F10)
  clear F10
  have o_ := Own.of o_
  have Lt3 := Lib.hid (Own.lt o_)
  have Ot3_10 := Lib.hid o_; clear o_
  go_wp2_with fail
  refine (eqIntS_any _ _ _ _ (x3) _ (Own.sl Ox3_10.out) (Own.sl Ot3_10.out) hn3).mono ?_; rintro e w11 ⟨rfl, F11⟩
  have z11 := F11.size
  have Os0_11 := Lib.hid (Own.keep Os0_10.out F11)
  have Ox0_11 := Lib.hid (Own.keep Ox0_10.out F11)
  have Ox3_11 := Lib.hid (Own.keep Ox3_10.out F11)
  have Or0_11 := Lib.hid (Own.keep Or0_10.out F11)
  have Ot3_11 := Lib.hid (Own.keep Ot3_10.out F11)
  have G11 := Lib.hid (G10.out.and F11)
  clear F11
  go_wp2_with fail
  refine (markCardS_any _ _ (x0) (1) _ _ Ox0_11.out hn0 (by omega) (by omega)).mono ?_; rintro e w12 ⟨rfl, o_, F12⟩
  have z12 := F12.size
  have Os0_12 := Lib.hid (Own.frB Os0_11.out F12 (apart Ls0.out Lx0.out (by omega) (by omega)))
  have Ox0_12 := Lib.hid o_; clear o_
  have Ox3_12 := Lib.hid (Own.frB Ox3_11.out F12 (apart Lx3.out Lx0.out (by omega) (by omega)))
  have Or0_12 := Lib.hid (Own.frB Or0_11.out F12 (apart Lr0.out Lx0.out (by omega) (by omega)))
  have G12 := Lib.hid (mark_up G11.out F12 Lx0.out (by omega) (by omega))
  clear F12
  go_wp2_with fail
  refine (markIntS_any _ _ (x3) (1 + 2 * (x0.length : Int)) _ _ Ox3_12.out hn3 (by omega) (by omega)).mono ?_; rintro e w13 ⟨rfl, o_, F13⟩
  have z13 := F13.size
  have Os0_13 := Lib.hid (Own.frB Os0_12.out F13 (apart Ls0.out Lx3.out (by omega) (by omega)))
  have Ox0_13 := Lib.hid (Own.frB Ox0_12.out F13 (apart Lx0.out Lx3.out (by omega) (by omega)))
  have Ox3_13 := Lib.hid o_; clear o_
  have Or0_13 := Lib.hid (Own.frB Or0_12.out F13 (apart Lr0.out Lx3.out (by omega) (by omega)))
  have G13 := Lib.hid (mark_up G12.out F13 Lx3.out (by omega) (by omega))
  clear F13
  go_wp2_with fail
  refine (eqCardS_any _ _ _ _ (daysC x0 y1 y2 x3) _ (Own.sl Or0_13.out) (Own.sl Os0_13.out) hR0).mono ?_; rintro e w14 ⟨rfl, F14⟩
  have z14 := F14.size
  have Os0_14 := Lib.hid (Own.keep Os0_13.out F14)
  have Ox0_14 := Lib.hid (Own.keep Ox0_13.out F14)
  have Ox3_14 := Lib.hid (Own.keep Ox3_13.out F14)
  have Or0_14 := Lib.hid (Own.keep Or0_13.out F14)
  have G14 := Lib.hid (G13.out.and F14)
  clear F14
  go_wp2_with fail
  refine (markCardS_any _ _ (daysC x0 y1 y2 x3) (1) _ _ Or0_14.out hR0 (by omega) (by omega)).mono ?_; rintro e w15 ⟨rfl, o_, F15⟩
  have z15 := F15.size
  have Os0_15 := Lib.hid (Own.frB Os0_14.out F15 (apart Ls0.out Lr0.out (by omega) (by omega)))
  have Or0_15 := Lib.hid o_; clear o_
  have G15 := Lib.hid (mark_up G14.out F15 Lr0.out (by omega) (by omega))
  clear F15
  go_wp2_with fail
  refine (heldCardS_any _ _ ((daysC x0 y1 y2 x3).length) (1) _ (Own.sl Or0_15.out) hR0 (by omega) (by omega)).mono ?_; rintro e w16 ⟨rfl, F16⟩
  have z16 := F16.size
  have Os0_16 := Lib.hid (Own.keep Os0_15.out F16)
  have Or0_16 := Lib.hid (Own.keep Or0_15.out F16)
  have G16 := Lib.hid (G15.out.and F16)
  clear F16
  go_wp2_with fail
  refine (toCardS_any a0 c0 x0 _ (HS0.out.fr G16.out) hn0).mono ?_; rintro e w17 ⟨gh0, rfl, o_, F17⟩
  have z17 := F17.size
  have Os0_17 := Lib.hid (Own.keep Os0_16.out F17)
  have Or0_17 := Lib.hid (Own.keep Or0_16.out F17)
  have G17 := Lib.hid (G16.out.and F17)
  clear F17
  have o_ := Own.of o_
  have Lh0 := Lib.hid (Own.lt o_)
  have Oh0_17 := Lib.hid o_; clear o_
  go_wp2_with fail
  refine (toIntS_any a3 c3 x3 _ (HS3.out.fr G17.out) hn3).mono ?_; rintro e w18 ⟨gh3, rfl, o_, F18⟩
  have z18 := F18.size
  have Os0_18 := Lib.hid (Own.keep Os0_17.out F18)
  have Or0_18 := Lib.hid (Own.keep Or0_17.out F18)
  have Oh0_18 := Lib.hid (Own.keep Oh0_17.out F18)
  have G18 := Lib.hid (G17.out.and F18)
  clear F18
  have o_ := Own.of o_
  have Lh3 := Lib.hid (Own.lt o_)
  have Oh3_18 := Lib.hid o_; clear o_
  go_wp2_with fail
  refine (implAfterDays_any _ _ x0 y1 y2 _ _ x3 _ (Own.sl Oh0_18.out) hn0 (Own.sl Oh3_18.out) hn3).mono ?_; rintro e w19 ⟨vau0, vcu0, rfl, o_, F19⟩
  have z19 := F19.size
  have Os0_19 := Lib.hid (Own.keep Os0_18.out F19)
  have Or0_19 := Lib.hid (Own.keep Or0_18.out F19)
  have Oh0_19 := Lib.hid (Own.keep Oh0_18.out F19)
  have Oh3_19 := Lib.hid (Own.keep Oh3_18.out F19)
  have G19 := Lib.hid (G18.out.and F19)
  clear F19
  have Lu0 := Lib.hid (Own.lt o_)
  have Ou0_19 := Lib.hid o_; clear o_
  go_wp2_with fail
  refine (eqCardS_any _ _ _ _ (daysC x0 y1 y2 x3) _ (Own.sl Ou0_19.out) (Own.sl Os0_19.out) hR0).mono ?_; rintro e w20 ⟨rfl, F20⟩
  have z20 := F20.size
  have Os0_20 := Lib.hid (Own.keep Os0_19.out F20)
  have Or0_20 := Lib.hid (Own.keep Or0_19.out F20)
  have Ou0_20 := Lib.hid (Own.keep Ou0_19.out F20)
  have G20 := Lib.hid (G19.out.and F20)
  clear F20
  go_wp2_with fail
  refine (heldCardS_any _ _ ((daysC x0 y1 y2 x3).length) (1) _ (Own.sl Or0_20.out) hR0 (by omega) (by omega)).mono ?_; rintro e w21 ⟨rfl, F21⟩
  have z21 := F21.size
  have Os0_21 := Lib.hid (Own.keep Os0_20.out F21)
  have Or0_21 := Lib.hid (Own.keep Or0_20.out F21)
  have Ou0_21 := Lib.hid (Own.keep Ou0_20.out F21)
  have G21 := Lib.hid (G20.out.and F21)
  clear F21
  go_wp2
  go_ret
  exact ⟨rfl, G21.out⟩
end Go.Proofs.Ytoedenmimcmkoaa.fnExactAfterDays
