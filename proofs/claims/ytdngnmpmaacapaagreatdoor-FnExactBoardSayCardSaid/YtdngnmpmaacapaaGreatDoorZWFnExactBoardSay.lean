import Derived.Test.YtdngnmpmaacapaaGreatDoorMTestE
import Derived.Test.YtdngnmpmaacapaaGreatDoorMSay
set_option linter.unusedVariables false
set_option linter.unusedSimpArgs false
/-
  For all arguments the law FnExactBoardSay of the given program returns true, and each argument reads as before: the tied card of its row. Package-level variables that the row lists start as the program's text lays them.
-/
namespace Go.Proofs.YtdngnmpmaacapaaGreatDoor.fnExactBoardSay
open Go.RowKit
set_option maxHeartbeats 2000000 in
set_option maxRecDepth 100000 in
theorem walk {w : World} (m : Int) (hm : w.cell? ⟨0, 0, none⟩ = some (.int .i64 m)) (hT : Tab w) (a0 : Option Addr) (c0 : Nat) (x0 : List Tst) (hs0 : Sl w a0 (tests x0)) (hb0 : x0.length ≤ 9223372036854775807 ∧ Big x0) (a1 : Option Addr) (c1 : Nat) (x1 : List ByteArray) (hs1 : Sl w a1 (strs x1)) (hb1 : x1.length ≤ 9223372036854775807 ∧ BigT x1) :
    Calls Tryz.prog 4 #[.slice a0 x0.length c0, .slice a1 x1.length c1] w fun e w' => e = .returned (.bool true) ∧ Fr w.heap.size none w w' := by
  have hb0_ := World.block_lt_of_cell? w _ hm
  dsimp only at hb0_
  have HM := Lib.hid hm; clear hm
  have TAB := Lib.hid hT; clear hT
  have HS0 : Hid (Sl w a0 (tests x0)) := hs0
  clear hs0
  have HS1 : Hid (Sl w a1 (strs x1)) := hs1
  clear hs1
  go_enter Tryz.func4, Tryz.ntmps4
  have z0 : w.heap.size ≤ w.heap.size := Nat.le_refl _
  go_wp2_with fail
  refine (szTestS_any a0 c0 x0 1048576 _ (HS0.out.fr (Fr.refl w.heap.size none w)) hb0.1 hb0.2 (by omega) (by omega)).mono ?_; rintro e w1 ⟨⟨l0, rfl, hl0⟩, F1⟩
  have z1 := F1.size
  have G1 := Lib.hid ((Fr.refl w.heap.size none w).and F1)
  clear F1
  rcases hl0 with rfl | ⟨l0a, l0b, hn0, hsm0_⟩
  · go_wp2
    go_ret
    exact ⟨rfl, G1.out⟩
  have hsm0 := Lib.hid hsm0_; clear hsm0_
  go_wp2_with fail
  refine (szStringS_any a1 c1 x1 l0 _ (HS1.out.fr G1.out) hb1.1 hb1.2 (by omega) (by omega)).mono ?_; rintro e w2 ⟨⟨l1, rfl, hl1⟩, F2⟩
  have z2 := F2.size
  have G2 := Lib.hid (G1.out.and F2)
  clear F2
  rcases hl1 with rfl | ⟨l1a, l1b, hn1, hsm1_⟩
  · go_wp2
    go_ret
    exact ⟨rfl, G2.out⟩
  have hsm1 := Lib.hid hsm1_; clear hsm1_
  have hR0 : ((boardSayI x0 x1).1).length ≤ 1048576 := sayE_le
  have hR1 : ((boardSayI x0 x1).2).length ≤ 1048576 := sayE_le2
  go_wp2_with fail
  refine (toTestS_any a0 c0 x0 _ (HS0.out.fr G2.out) hn0).mono ?_; rintro e w3 ⟨gp0, rfl, o_, F3⟩
  have z3 := F3.size
  have G3 := Lib.hid (G2.out.and F3)
  clear F3
  have o_ := Own.of o_
  have Lp0 := Lib.hid (Own.lt o_)
  have Op0_3 := Lib.hid o_; clear o_
  go_wp2_with fail
  refine (toStringS_any a1 c1 x1 _ (HS1.out.fr G3.out) hn1).mono ?_; rintro e w4 ⟨gp1, rfl, o_, F4⟩
  have z4 := F4.size
  have Op0_4 := Lib.hid (Own.keep Op0_3.out F4)
  have G4 := Lib.hid (G3.out.and F4)
  clear F4
  have o_ := Own.of o_
  have Lp1 := Lib.hid (Own.lt o_)
  have Op1_4 := Lib.hid o_; clear o_
  go_wp2_with fail
  refine (specSayE _ _ x0 _ _ x1 _ (Own.sl Op0_4.out) hn0 hsm0.out (Own.sl Op1_4.out) hn1 hsm1.out (by simp)).mono ?_; rintro e w5 ⟨vas0, vcs0, vas1, vcs1, rfl, o0_, o1_, F5⟩
  have z5 := F5.size
  have Op0_5 := Lib.hid (Own.keep Op0_4.out F5)
  have Op1_5 := Lib.hid (Own.keep Op1_4.out F5)
  have G5 := Lib.hid (G4.out.and F5)
  clear F5
  have Ls0 := Lib.hid (Own.lt o0_)
  have Os0_5 := Lib.hid o0_; clear o0_
  have Ls1 := Lib.hid (Own.lt o1_)
  have Os1_5 := Lib.hid o1_; clear o1_
  go_wp2_with fail
  refine (toTestS_any a0 c0 x0 _ (HS0.out.fr G5.out) hn0).mono ?_; rintro e w6 ⟨gx0, rfl, o_, F6⟩
  have z6 := F6.size
  have Os0_6 := Lib.hid (Own.keep Os0_5.out F6)
  have Os1_6 := Lib.hid (Own.keep Os1_5.out F6)
  have G6 := Lib.hid (G5.out.and F6)
  clear F6
  have o_ := Own.of o_
  have Lx0 := Lib.hid (Own.lt o_)
  have Ox0_6 := Lib.hid o_; clear o_
  go_wp2_with fail
  refine (toStringS_any a1 c1 x1 _ (HS1.out.fr G6.out) hn1).mono ?_; rintro e w7 ⟨gx1, rfl, o_, F7⟩
  have z7 := F7.size
  have Os0_7 := Lib.hid (Own.keep Os0_6.out F7)
  have Os1_7 := Lib.hid (Own.keep Os1_6.out F7)
  have Ox0_7 := Lib.hid (Own.keep Ox0_6.out F7)
  have G7 := Lib.hid (G6.out.and F7)
  clear F7
  have o_ := Own.of o_
  have Lx1 := Lib.hid (Own.lt o_)
  have Ox1_7 := Lib.hid o_; clear o_
  go_wp2_with fail
  refine (implSayE _ _ x0 _ _ x1 _ (Own.sl Ox0_7.out) hn0 hsm0.out (Own.sl Ox1_7.out) hn1 hsm1.out (TAB.out.fr G7.out) ((G7.out.cell (p := ⟨0, 0, none⟩) hb0_ (by simp)).trans HM.out)).mono ?_; rintro e w8 ⟨var0, vcr0, var1, vcr1, rfl, o0_, o1_, F8⟩
  have z8 := F8.size
  have Os0_8 := Lib.hid (Own.keep Os0_7.out F8)
  have Os1_8 := Lib.hid (Own.keep Os1_7.out F8)
  have Ox0_8 := Lib.hid (Own.keep Ox0_7.out F8)
  have Ox1_8 := Lib.hid (Own.keep Ox1_7.out F8)
  have G8 := Lib.hid (G7.out.and F8)
  clear F8
  have Lr0 := Lib.hid (Own.lt o0_)
  have Or0_8 := Lib.hid o0_; clear o0_
  have Lr1 := Lib.hid (Own.lt o1_)
  have Or1_8 := Lib.hid o1_; clear o1_
  go_wp2_with fail
  refine (eqTestS_any _ _ _ _ ((boardSayI x0 x1).1) _ (Own.sl Or0_8.out) (Own.sl Os0_8.out) hR0).mono ?_; rintro e w9 ⟨rfl, F9⟩
  have z9 := F9.size
  have Os0_9 := Lib.hid (Own.keep Os0_8.out F9)
  have Os1_9 := Lib.hid (Own.keep Os1_8.out F9)
  have Ox0_9 := Lib.hid (Own.keep Ox0_8.out F9)
  have Ox1_9 := Lib.hid (Own.keep Ox1_8.out F9)
  have Or0_9 := Lib.hid (Own.keep Or0_8.out F9)
  have Or1_9 := Lib.hid (Own.keep Or1_8.out F9)
  have G9 := Lib.hid (G8.out.and F9)
  clear F9
  go_wp2_with fail
  refine (eqStringS_any _ _ _ _ ((boardSayI x0 x1).2) _ (Own.sl Or1_9.out) (Own.sl Os1_9.out) hR1).mono ?_; rintro e w10 ⟨rfl, F10⟩
  have z10 := F10.size
  have Os0_10 := Lib.hid (Own.keep Os0_9.out F10)
  have Os1_10 := Lib.hid (Own.keep Os1_9.out F10)
  have Ox0_10 := Lib.hid (Own.keep Ox0_9.out F10)
  have Ox1_10 := Lib.hid (Own.keep Ox1_9.out F10)
  have Or0_10 := Lib.hid (Own.keep Or0_9.out F10)
  have Or1_10 := Lib.hid (Own.keep Or1_9.out F10)
  have G10 := Lib.hid (G9.out.and F10)
  clear F10
  go_wp2_with fail
  refine (toTestS_any a0 c0 x0 _ (HS0.out.fr G10.out) hn0).mono ?_; rintro e w11 ⟨gt0, rfl, o_, F11⟩
  have z11 := F11.size
  have Os0_11 := Lib.hid (Own.keep Os0_10.out F11)
  have Os1_11 := Lib.hid (Own.keep Os1_10.out F11)
  have Ox0_11 := Lib.hid (Own.keep Ox0_10.out F11)
  have Ox1_11 := Lib.hid (Own.keep Ox1_10.out F11)
  have Or0_11 := Lib.hid (Own.keep Or0_10.out F11)
  have Or1_11 := Lib.hid (Own.keep Or1_10.out F11)
  have G11 := Lib.hid (G10.out.and F11)
  clear F11
  have o_ := Own.of o_
  have Lt0 := Lib.hid (Own.lt o_)
  have Ot0_11 := Lib.hid o_; clear o_
  go_wp2_with fail
  refine (eqTestS_any _ _ _ _ (x0) _ (Own.sl Ox0_11.out) (Own.sl Ot0_11.out) hn0).mono ?_; rintro e w12 ⟨rfl, F12⟩
  have z12 := F12.size
  have Os0_12 := Lib.hid (Own.keep Os0_11.out F12)
  have Os1_12 := Lib.hid (Own.keep Os1_11.out F12)
  have Ox0_12 := Lib.hid (Own.keep Ox0_11.out F12)
  have Ox1_12 := Lib.hid (Own.keep Ox1_11.out F12)
  have Or0_12 := Lib.hid (Own.keep Or0_11.out F12)
  have Or1_12 := Lib.hid (Own.keep Or1_11.out F12)
  have Ot0_12 := Lib.hid (Own.keep Ot0_11.out F12)
  have G12 := Lib.hid (G11.out.and F12)
  clear F12
  go_wp2_with fail
  refine (toStringS_any a1 c1 x1 _ (HS1.out.fr G12.out) hn1).mono ?_; rintro e w13 ⟨gt1, rfl, o_, F13⟩
  have z13 := F13.size
  have Os0_13 := Lib.hid (Own.keep Os0_12.out F13)
  have Os1_13 := Lib.hid (Own.keep Os1_12.out F13)
  have Ox0_13 := Lib.hid (Own.keep Ox0_12.out F13)
  have Ox1_13 := Lib.hid (Own.keep Ox1_12.out F13)
  have Or0_13 := Lib.hid (Own.keep Or0_12.out F13)
  have Or1_13 := Lib.hid (Own.keep Or1_12.out F13)
  have G13 := Lib.hid (G12.out.and F13)
  clear F13
  have o_ := Own.of o_
  have Lt1 := Lib.hid (Own.lt o_)
  have Ot1_13 := Lib.hid o_; clear o_
  go_wp2_with fail
  refine (eqStringS_any _ _ _ _ (x1) _ (Own.sl Ox1_13.out) (Own.sl Ot1_13.out) hn1).mono ?_; rintro e w14 ⟨rfl, F14⟩
  have z14 := F14.size
  have Os0_14 := Lib.hid (Own.keep Os0_13.out F14)
  have Os1_14 := Lib.hid (Own.keep Os1_13.out F14)
  have Ox0_14 := Lib.hid (Own.keep Ox0_13.out F14)
  have Ox1_14 := Lib.hid (Own.keep Ox1_13.out F14)
  have Or0_14 := Lib.hid (Own.keep Or0_13.out F14)
  have Or1_14 := Lib.hid (Own.keep Or1_13.out F14)
  have Ot1_14 := Lib.hid (Own.keep Ot1_13.out F14)
  have G14 := Lib.hid (G13.out.and F14)
  clear F14
  go_wp2_with fail
  refine (markTestS_any _ _ (x0) (1) _ _ Ox0_14.out hn0 (by omega) (by omega)).mono ?_; rintro e w15 ⟨rfl, o_, F15⟩
  have z15 := F15.size
  have Os0_15 := Lib.hid (Own.frB Os0_14.out F15 (apart Ls0.out Lx0.out (by omega) (by omega)))
  have Os1_15 := Lib.hid (Own.frB Os1_14.out F15 (apart Ls1.out Lx0.out (by omega) (by omega)))
  have Ox0_15 := Lib.hid o_; clear o_
  have Ox1_15 := Lib.hid (Own.frB Ox1_14.out F15 (apart Lx1.out Lx0.out (by omega) (by omega)))
  have Or0_15 := Lib.hid (Own.frB Or0_14.out F15 (apart Lr0.out Lx0.out (by omega) (by omega)))
  have Or1_15 := Lib.hid (Own.frB Or1_14.out F15 (apart Lr1.out Lx0.out (by omega) (by omega)))
  have G15 := Lib.hid (mark_up G14.out F15 Lx0.out (by omega) (by omega))
  clear F15
  go_wp2_with fail
  refine (markStringS_any _ _ (x1) (1 + 3 * (x0.length : Int)) _ _ Ox1_15.out hn1 (by omega) (by omega)).mono ?_; rintro e w16 ⟨rfl, o_, F16⟩
  have z16 := F16.size
  have Os0_16 := Lib.hid (Own.frB Os0_15.out F16 (apart Ls0.out Lx1.out (by omega) (by omega)))
  have Os1_16 := Lib.hid (Own.frB Os1_15.out F16 (apart Ls1.out Lx1.out (by omega) (by omega)))
  have Ox0_16 := Lib.hid (Own.frB Ox0_15.out F16 (apart Lx0.out Lx1.out (by omega) (by omega)))
  have Ox1_16 := Lib.hid o_; clear o_
  have Or0_16 := Lib.hid (Own.frB Or0_15.out F16 (apart Lr0.out Lx1.out (by omega) (by omega)))
  have Or1_16 := Lib.hid (Own.frB Or1_15.out F16 (apart Lr1.out Lx1.out (by omega) (by omega)))
  have G16 := Lib.hid (mark_up G15.out F16 Lx1.out (by omega) (by omega))
  clear F16
  go_wp2_with fail
  refine (eqTestS_any _ _ _ _ ((boardSayI x0 x1).1) _ (Own.sl Or0_16.out) (Own.sl Os0_16.out) hR0).mono ?_; rintro e w17 ⟨rfl, F17⟩
  have z17 := F17.size
  have Os0_17 := Lib.hid (Own.keep Os0_16.out F17)
  have Os1_17 := Lib.hid (Own.keep Os1_16.out F17)
  have Ox0_17 := Lib.hid (Own.keep Ox0_16.out F17)
  have Ox1_17 := Lib.hid (Own.keep Ox1_16.out F17)
  have Or0_17 := Lib.hid (Own.keep Or0_16.out F17)
  have Or1_17 := Lib.hid (Own.keep Or1_16.out F17)
  have G17 := Lib.hid (G16.out.and F17)
  clear F17
  go_wp2_with fail
  refine (eqStringS_any _ _ _ _ ((boardSayI x0 x1).2) _ (Own.sl Or1_17.out) (Own.sl Os1_17.out) hR1).mono ?_; rintro e w18 ⟨rfl, F18⟩
  have z18 := F18.size
  have Os0_18 := Lib.hid (Own.keep Os0_17.out F18)
  have Os1_18 := Lib.hid (Own.keep Os1_17.out F18)
  have Ox0_18 := Lib.hid (Own.keep Ox0_17.out F18)
  have Ox1_18 := Lib.hid (Own.keep Ox1_17.out F18)
  have Or0_18 := Lib.hid (Own.keep Or0_17.out F18)
  have Or1_18 := Lib.hid (Own.keep Or1_17.out F18)
  have G18 := Lib.hid (G17.out.and F18)
  clear F18
  go_wp2_with fail
  refine (markTestS_any _ _ ((boardSayI x0 x1).1) (1) _ _ Or0_18.out hR0 (by omega) (by omega)).mono ?_; rintro e w19 ⟨rfl, o_, F19⟩
  have z19 := F19.size
  have Os0_19 := Lib.hid (Own.frB Os0_18.out F19 (apart Ls0.out Lr0.out (by omega) (by omega)))
  have Os1_19 := Lib.hid (Own.frB Os1_18.out F19 (apart Ls1.out Lr0.out (by omega) (by omega)))
  have Or0_19 := Lib.hid o_; clear o_
  have Or1_19 := Lib.hid (Own.frB Or1_18.out F19 (apartT Or1_18.out Or0_18.out (by decide)))
  have G19 := Lib.hid (mark_up G18.out F19 Lr0.out (by omega) (by omega))
  clear F19
  go_wp2_with fail
  refine (markStringS_any _ _ ((boardSayI x0 x1).2) (1 + 3 * (((boardSayI x0 x1).1).length : Int)) _ _ Or1_19.out hR1 (by omega) (by omega)).mono ?_; rintro e w20 ⟨rfl, o_, F20⟩
  have z20 := F20.size
  have Os0_20 := Lib.hid (Own.frB Os0_19.out F20 (apart Ls0.out Lr1.out (by omega) (by omega)))
  have Os1_20 := Lib.hid (Own.frB Os1_19.out F20 (apart Ls1.out Lr1.out (by omega) (by omega)))
  have Or0_20 := Lib.hid (Own.frB Or0_19.out F20 (apartT Or0_19.out Or1_19.out (by decide)))
  have Or1_20 := Lib.hid o_; clear o_
  have G20 := Lib.hid (mark_up G19.out F20 Lr1.out (by omega) (by omega))
  clear F20
  go_wp2_with fail
  refine (heldTestS_any _ _ (((boardSayI x0 x1).1).length) (1) _ (Own.sl Or0_20.out) hR0 (by omega) (by omega)).mono ?_; rintro e w21 ⟨rfl, F21⟩
  have z21 := F21.size
  have Os0_21 := Lib.hid (Own.keep Os0_20.out F21)
  have Os1_21 := Lib.hid (Own.keep Os1_20.out F21)
  have Or0_21 := Lib.hid (Own.keep Or0_20.out F21)
  have Or1_21 := Lib.hid (Own.keep Or1_20.out F21)
  have G21 := Lib.hid (G20.out.and F21)
  clear F21
  go_wp2_with fail
  refine (heldStringS_any _ _ (((boardSayI x0 x1).2).length) (1 + 3 * (((boardSayI x0 x1).1).length : Int)) _ (Own.sl Or1_21.out) hR1 (by omega) (by omega)).mono ?_; rintro e w22 ⟨rfl, F22⟩
  have z22 := F22.size
  have Os0_22 := Lib.hid (Own.keep Os0_21.out F22)
  have Os1_22 := Lib.hid (Own.keep Os1_21.out F22)
  have Or0_22 := Lib.hid (Own.keep Or0_21.out F22)
  have Or1_22 := Lib.hid (Own.keep Or1_21.out F22)
  have G22 := Lib.hid (G21.out.and F22)
  clear F22
  go_wp2_with fail
  refine (toTestS_any a0 c0 x0 _ (HS0.out.fr G22.out) hn0).mono ?_; rintro e w23 ⟨gh0, rfl, o_, F23⟩
  have z23 := F23.size
  have Os0_23 := Lib.hid (Own.keep Os0_22.out F23)
  have Os1_23 := Lib.hid (Own.keep Os1_22.out F23)
  have Or0_23 := Lib.hid (Own.keep Or0_22.out F23)
  have Or1_23 := Lib.hid (Own.keep Or1_22.out F23)
  have G23 := Lib.hid (G22.out.and F23)
  clear F23
  have o_ := Own.of o_
  have Lh0 := Lib.hid (Own.lt o_)
  have Oh0_23 := Lib.hid o_; clear o_
  go_wp2_with fail
  refine (toStringS_any a1 c1 x1 _ (HS1.out.fr G23.out) hn1).mono ?_; rintro e w24 ⟨gh1, rfl, o_, F24⟩
  have z24 := F24.size
  have Os0_24 := Lib.hid (Own.keep Os0_23.out F24)
  have Os1_24 := Lib.hid (Own.keep Os1_23.out F24)
  have Or0_24 := Lib.hid (Own.keep Or0_23.out F24)
  have Or1_24 := Lib.hid (Own.keep Or1_23.out F24)
  have Oh0_24 := Lib.hid (Own.keep Oh0_23.out F24)
  have G24 := Lib.hid (G23.out.and F24)
  clear F24
  have o_ := Own.of o_
  have Lh1 := Lib.hid (Own.lt o_)
  have Oh1_24 := Lib.hid o_; clear o_
  go_wp2_with fail
  refine (implSayE _ _ x0 _ _ x1 _ (Own.sl Oh0_24.out) hn0 hsm0.out (Own.sl Oh1_24.out) hn1 hsm1.out (TAB.out.fr G24.out) ((G24.out.cell (p := ⟨0, 0, none⟩) hb0_ (by simp)).trans HM.out)).mono ?_; rintro e w25 ⟨vau0, vcu0, vau1, vcu1, rfl, o0_, o1_, F25⟩
  have z25 := F25.size
  have Os0_25 := Lib.hid (Own.keep Os0_24.out F25)
  have Os1_25 := Lib.hid (Own.keep Os1_24.out F25)
  have Or0_25 := Lib.hid (Own.keep Or0_24.out F25)
  have Or1_25 := Lib.hid (Own.keep Or1_24.out F25)
  have Oh0_25 := Lib.hid (Own.keep Oh0_24.out F25)
  have Oh1_25 := Lib.hid (Own.keep Oh1_24.out F25)
  have G25 := Lib.hid (G24.out.and F25)
  clear F25
  have Lu0 := Lib.hid (Own.lt o0_)
  have Ou0_25 := Lib.hid o0_; clear o0_
  have Lu1 := Lib.hid (Own.lt o1_)
  have Ou1_25 := Lib.hid o1_; clear o1_
  go_wp2_with fail
  refine (eqTestS_any _ _ _ _ ((boardSayI x0 x1).1) _ (Own.sl Ou0_25.out) (Own.sl Os0_25.out) hR0).mono ?_; rintro e w26 ⟨rfl, F26⟩
  have z26 := F26.size
  have Os0_26 := Lib.hid (Own.keep Os0_25.out F26)
  have Os1_26 := Lib.hid (Own.keep Os1_25.out F26)
  have Or0_26 := Lib.hid (Own.keep Or0_25.out F26)
  have Or1_26 := Lib.hid (Own.keep Or1_25.out F26)
  have Ou0_26 := Lib.hid (Own.keep Ou0_25.out F26)
  have Ou1_26 := Lib.hid (Own.keep Ou1_25.out F26)
  have G26 := Lib.hid (G25.out.and F26)
  clear F26
  go_wp2_with fail
  refine (eqStringS_any _ _ _ _ ((boardSayI x0 x1).2) _ (Own.sl Ou1_26.out) (Own.sl Os1_26.out) hR1).mono ?_; rintro e w27 ⟨rfl, F27⟩
  have z27 := F27.size
  have Os0_27 := Lib.hid (Own.keep Os0_26.out F27)
  have Os1_27 := Lib.hid (Own.keep Os1_26.out F27)
  have Or0_27 := Lib.hid (Own.keep Or0_26.out F27)
  have Or1_27 := Lib.hid (Own.keep Or1_26.out F27)
  have Ou0_27 := Lib.hid (Own.keep Ou0_26.out F27)
  have Ou1_27 := Lib.hid (Own.keep Ou1_26.out F27)
  have G27 := Lib.hid (G26.out.and F27)
  clear F27
  go_wp2_with fail
  refine (heldTestS_any _ _ (((boardSayI x0 x1).1).length) (1) _ (Own.sl Or0_27.out) hR0 (by omega) (by omega)).mono ?_; rintro e w28 ⟨rfl, F28⟩
  have z28 := F28.size
  have Os0_28 := Lib.hid (Own.keep Os0_27.out F28)
  have Os1_28 := Lib.hid (Own.keep Os1_27.out F28)
  have Or0_28 := Lib.hid (Own.keep Or0_27.out F28)
  have Or1_28 := Lib.hid (Own.keep Or1_27.out F28)
  have Ou0_28 := Lib.hid (Own.keep Ou0_27.out F28)
  have Ou1_28 := Lib.hid (Own.keep Ou1_27.out F28)
  have G28 := Lib.hid (G27.out.and F28)
  clear F28
  go_wp2_with fail
  refine (heldStringS_any _ _ (((boardSayI x0 x1).2).length) (1 + 3 * (((boardSayI x0 x1).1).length : Int)) _ (Own.sl Or1_28.out) hR1 (by omega) (by omega)).mono ?_; rintro e w29 ⟨rfl, F29⟩
  have z29 := F29.size
  have Os0_29 := Lib.hid (Own.keep Os0_28.out F29)
  have Os1_29 := Lib.hid (Own.keep Os1_28.out F29)
  have Or0_29 := Lib.hid (Own.keep Or0_28.out F29)
  have Or1_29 := Lib.hid (Own.keep Or1_28.out F29)
  have Ou0_29 := Lib.hid (Own.keep Ou0_28.out F29)
  have Ou1_29 := Lib.hid (Own.keep Ou1_28.out F29)
  have G29 := Lib.hid (G28.out.and F29)
  clear F29
  go_wp2
  go_ret
  exact ⟨rfl, G29.out⟩
end Go.Proofs.YtdngnmpmaacapaaGreatDoor.fnExactBoardSay
