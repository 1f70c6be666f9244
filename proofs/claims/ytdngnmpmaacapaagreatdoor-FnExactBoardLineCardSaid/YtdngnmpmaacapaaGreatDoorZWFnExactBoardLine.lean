import Derived.Test.YtdngnmpmaacapaaGreatDoorMTestE
import Derived.Test.YtdngnmpmaacapaaGreatDoorMSay
set_option linter.unusedVariables false
set_option linter.unusedSimpArgs false
/-
  For all arguments the law FnExactBoardLine of the given program returns true, and each argument reads as before: the tied card of its row. Package-level variables that the row lists start as the program's text lays them.
-/
namespace Go.Proofs.YtdngnmpmaacapaaGreatDoor.fnExactBoardLine
open Go.RowKit
set_option maxHeartbeats 2000000 in
set_option maxRecDepth 100000 in
theorem walk {w : World} (m : Int) (hm : w.cell? ⟨0, 0, none⟩ = some (.int .i64 m)) (hT : Tab w) (a0 : Option Addr) (c0 : Nat) (x0 : List Tst) (hs0 : Sl w a0 (tests x0)) (hb0 : x0.length ≤ 9223372036854775807 ∧ Big x0) (y1 : ByteArray) (hb1 : y1.size ≤ maxLen) :
    Calls Tryz.prog 7 #[.slice a0 x0.length c0, .string y1] w fun e w' => e = .returned (.bool true) ∧ Fr w.heap.size none w w' := by
  have hb0_ := World.block_lt_of_cell? w _ hm
  dsimp only at hb0_
  have HM := Lib.hid hm; clear hm
  have TAB := Lib.hid hT; clear hT
  have HS0 : Hid (Sl w a0 (tests x0)) := hs0
  clear hs0
  unfold maxLen at hb1
  by_cases hn1 : y1.size ≤ 1048576
  rotate_left
  · have hl : (1048576 : Int) < y1.size := by omega
    go_enter Tryz.func7, Tryz.ntmps7
    go_wp2
    go_ret
    exact ⟨rfl, Fr.refl _ _ _⟩
  go_enter Tryz.func7, Tryz.ntmps7
  have z0 : w.heap.size ≤ w.heap.size := Nat.le_refl _
  go_wp2_with fail
  refine (szTestS_any a0 c0 x0 1048576 _ (HS0.out.fr (Fr.refl w.heap.size none w)) hb0.1 hb0.2 (by omega) (by omega)).mono ?_; rintro e w1 ⟨⟨l0, rfl, hl0⟩, F1⟩
  have z1 := F1.size
  have G1 := Lib.hid ((Fr.refl w.heap.size none w).and F1)
  clear F1
  rcases hl0 with rfl | ⟨l0a, l0b, hn0, hsm0_⟩
  · go_wp2
    go_ret
    exact ⟨rfl, G1.out⟩
  have hsm0 := Lib.hid hsm0_; clear hsm0_
  have hR0 : ((boardLineI x0 y1).1).length ≤ 1048576 := lineE_le hn0
  go_wp2_with fail
  refine (toTestS_any a0 c0 x0 _ (HS0.out.fr G1.out) hn0).mono ?_; rintro e w2 ⟨gp0, rfl, o_, F2⟩
  have z2 := F2.size
  have G2 := Lib.hid (G1.out.and F2)
  clear F2
  have o_ := Own.of o_
  have Lp0 := Lib.hid (Own.lt o_)
  have Op0_2 := Lib.hid o_; clear o_
  go_wp2_with fail
  refine (specLineE _ _ x0 y1 _ (Own.sl Op0_2.out) hn0 hsm0.out hn1 (by simp)).mono ?_; rintro e w3 ⟨vas0, vcs0, rfl, o_, F3⟩
  have z3 := F3.size
  have Op0_3 := Lib.hid (Own.keep Op0_2.out F3)
  have G3 := Lib.hid (G2.out.and F3)
  clear F3
  have Ls0 := Lib.hid (Own.lt o_)
  have Os0_3 := Lib.hid o_; clear o_
  go_wp2_with fail
  refine (toTestS_any a0 c0 x0 _ (HS0.out.fr G3.out) hn0).mono ?_; rintro e w4 ⟨gx0, rfl, o_, F4⟩
  have z4 := F4.size
  have Os0_4 := Lib.hid (Own.keep Os0_3.out F4)
  have G4 := Lib.hid (G3.out.and F4)
  clear F4
  have o_ := Own.of o_
  have Lx0 := Lib.hid (Own.lt o_)
  have Ox0_4 := Lib.hid o_; clear o_
  go_wp2_with fail
  refine (implLineE _ _ x0 y1 _ (Own.sl Ox0_4.out) hn0 hsm0.out hn1 (Nat.le_refl _) (TAB.out.fr G4.out) ((G4.out.cell (p := ⟨0, 0, none⟩) hb0_ (by simp)).trans HM.out)).mono ?_; rintro e w5 ⟨var0, vcr0, rfl, o_, F5⟩
  have z5 := F5.size
  have Os0_5 := Lib.hid (Own.keep Os0_4.out F5)
  have Ox0_5 := Lib.hid (Own.keep Ox0_4.out F5)
  have G5 := Lib.hid (G4.out.and F5)
  clear F5
  have Lr0 := Lib.hid (Own.lt o_)
  have Or0_5 := Lib.hid o_; clear o_
  go_wp2_with fail
  refine (eqTestS_any _ _ _ _ ((boardLineI x0 y1).1) _ (Own.sl Or0_5.out) (Own.sl Os0_5.out) hR0).mono ?_; rintro e w6 ⟨rfl, F6⟩
  have z6 := F6.size
  have Os0_6 := Lib.hid (Own.keep Os0_5.out F6)
  have Ox0_6 := Lib.hid (Own.keep Ox0_5.out F6)
  have Or0_6 := Lib.hid (Own.keep Or0_5.out F6)
  have G6 := Lib.hid (G5.out.and F6)
  clear F6
  go_wp2_with fail
  refine (toTestS_any a0 c0 x0 _ (HS0.out.fr G6.out) hn0).mono ?_; rintro e w7 ⟨gt0, rfl, o_, F7⟩
  have z7 := F7.size
  have Os0_7 := Lib.hid (Own.keep Os0_6.out F7)
  have Ox0_7 := Lib.hid (Own.keep Ox0_6.out F7)
  have Or0_7 := Lib.hid (Own.keep Or0_6.out F7)
  have G7 := Lib.hid (G6.out.and F7)
  clear F7
  have o_ := Own.of o_
  have Lt0 := Lib.hid (Own.lt o_)
  have Ot0_7 := Lib.hid o_; clear o_
  go_wp2_with fail
  refine (eqTestS_any _ _ _ _ (x0) _ (Own.sl Ox0_7.out) (Own.sl Ot0_7.out) hn0).mono ?_; rintro e w8 ⟨rfl, F8⟩
  have z8 := F8.size
  have Os0_8 := Lib.hid (Own.keep Os0_7.out F8)
  have Ox0_8 := Lib.hid (Own.keep Ox0_7.out F8)
  have Or0_8 := Lib.hid (Own.keep Or0_7.out F8)
  have Ot0_8 := Lib.hid (Own.keep Ot0_7.out F8)
  have G8 := Lib.hid (G7.out.and F8)
  clear F8
  go_wp2_with fail
  refine (markTestS_any _ _ (x0) (1) _ _ Ox0_8.out hn0 (by omega) (by omega)).mono ?_; rintro e w9 ⟨rfl, o_, F9⟩
  have z9 := F9.size
  have Os0_9 := Lib.hid (Own.frB Os0_8.out F9 (apart Ls0.out Lx0.out (by omega) (by omega)))
  have Ox0_9 := Lib.hid o_; clear o_
  have Or0_9 := Lib.hid (Own.frB Or0_8.out F9 (apart Lr0.out Lx0.out (by omega) (by omega)))
  have G9 := Lib.hid (mark_up G8.out F9 Lx0.out (by omega) (by omega))
  clear F9
  go_wp2_with fail
  refine (eqTestS_any _ _ _ _ ((boardLineI x0 y1).1) _ (Own.sl Or0_9.out) (Own.sl Os0_9.out) hR0).mono ?_; rintro e w10 ⟨rfl, F10⟩
  have z10 := F10.size
  have Os0_10 := Lib.hid (Own.keep Os0_9.out F10)
  have Ox0_10 := Lib.hid (Own.keep Ox0_9.out F10)
  have Or0_10 := Lib.hid (Own.keep Or0_9.out F10)
  have G10 := Lib.hid (G9.out.and F10)
  clear F10
  go_wp2_with fail
  refine (markTestS_any _ _ ((boardLineI x0 y1).1) (1) _ _ Or0_10.out hR0 (by omega) (by omega)).mono ?_; rintro e w11 ⟨rfl, o_, F11⟩
  have z11 := F11.size
  have Os0_11 := Lib.hid (Own.frB Os0_10.out F11 (apart Ls0.out Lr0.out (by omega) (by omega)))
  have Or0_11 := Lib.hid o_; clear o_
  have G11 := Lib.hid (mark_up G10.out F11 Lr0.out (by omega) (by omega))
  clear F11
  go_wp2_with fail
  refine (heldTestS_any _ _ (((boardLineI x0 y1).1).length) (1) _ (Own.sl Or0_11.out) hR0 (by omega) (by omega)).mono ?_; rintro e w12 ⟨rfl, F12⟩
  have z12 := F12.size
  have Os0_12 := Lib.hid (Own.keep Os0_11.out F12)
  have Or0_12 := Lib.hid (Own.keep Or0_11.out F12)
  have G12 := Lib.hid (G11.out.and F12)
  clear F12
  go_wp2_with fail
  refine (toTestS_any a0 c0 x0 _ (HS0.out.fr G12.out) hn0).mono ?_; rintro e w13 ⟨gh0, rfl, o_, F13⟩
  have z13 := F13.size
  have Os0_13 := Lib.hid (Own.keep Os0_12.out F13)
  have Or0_13 := Lib.hid (Own.keep Or0_12.out F13)
  have G13 := Lib.hid (G12.out.and F13)
  clear F13
  have o_ := Own.of o_
  have Lh0 := Lib.hid (Own.lt o_)
  have Oh0_13 := Lib.hid o_; clear o_
  go_wp2_with fail
  refine (implLineE _ _ x0 y1 _ (Own.sl Oh0_13.out) hn0 hsm0.out hn1 (Nat.le_refl _) (TAB.out.fr G13.out) ((G13.out.cell (p := ⟨0, 0, none⟩) hb0_ (by simp)).trans HM.out)).mono ?_; rintro e w14 ⟨vau0, vcu0, rfl, o_, F14⟩
  have z14 := F14.size
  have Os0_14 := Lib.hid (Own.keep Os0_13.out F14)
  have Or0_14 := Lib.hid (Own.keep Or0_13.out F14)
  have Oh0_14 := Lib.hid (Own.keep Oh0_13.out F14)
  have G14 := Lib.hid (G13.out.and F14)
  clear F14
  have Lu0 := Lib.hid (Own.lt o_)
  have Ou0_14 := Lib.hid o_; clear o_
  go_wp2_with fail
  refine (eqTestS_any _ _ _ _ ((boardLineI x0 y1).1) _ (Own.sl Ou0_14.out) (Own.sl Os0_14.out) hR0).mono ?_; rintro e w15 ⟨rfl, F15⟩
  have z15 := F15.size
  have Os0_15 := Lib.hid (Own.keep Os0_14.out F15)
  have Or0_15 := Lib.hid (Own.keep Or0_14.out F15)
  have Ou0_15 := Lib.hid (Own.keep Ou0_14.out F15)
  have G15 := Lib.hid (G14.out.and F15)
  clear F15
  go_wp2_with fail
  refine (heldTestS_any _ _ (((boardLineI x0 y1).1).length) (1) _ (Own.sl Or0_15.out) hR0 (by omega) (by omega)).mono ?_; rintro e w16 ⟨rfl, F16⟩
  have z16 := F16.size
  have Os0_16 := Lib.hid (Own.keep Os0_15.out F16)
  have Or0_16 := Lib.hid (Own.keep Or0_15.out F16)
  have Ou0_16 := Lib.hid (Own.keep Ou0_15.out F16)
  have G16 := Lib.hid (G15.out.and F16)
  clear F16
  go_wp2
  go_ret
  exact ⟨rfl, G16.out⟩
end Go.Proofs.YtdngnmpmaacapaaGreatDoor.fnExactBoardLine
