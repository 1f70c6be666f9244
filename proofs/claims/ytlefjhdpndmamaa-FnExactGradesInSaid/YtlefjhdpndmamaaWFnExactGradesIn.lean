/-
  For all arguments the law FnExactGradesIn of the given program returns true, and each argument reads as before. No condition.
-/
import Derived.Test.YtlefjhdpndmamaaInts
import Derived.Test.YtlefjhdpndmamaaMarksF
namespace Go.Proofs.Ytlefjhdpndmamaa.fnExactGradesIn
open Go.RowKit
set_option maxHeartbeats 1000000 in
theorem walk {w : World} (a0 : Option Addr) (c0 : Nat) (x0 : List Int) (hs0 : Sl w a0 (x0.map (Value.int .i64))) (hw0 : ∀ n ∈ x0, (Lit.int .i64 n).wf = true) (a1 : Option Addr) (c1 : Nat) (x1 : List Int) (hs1 : Sl w a1 (x1.map (Value.int .i64))) (hw1 : ∀ n ∈ x1, (Lit.int .i64 n).wf = true) :
    Calls Try.prog 13 #[.slice a0 x0.length c0, .slice a1 x1.length c1] w fun e w' => e = .returned (.bool true) ∧ Fr w.heap.size none w w' := by
  clear hw0
  clear hw1
  have HS0 : Hid (Sl w a0 (ints x0)) := hs0
  clear hs0
  have HS1 : Hid (Sl w a1 (ints x1)) := hs1
  clear hs1
  by_cases hn0 : x0.length ≤ 1048576
  rotate_left
  · have hl : (1048576 : Int) < x0.length := by omega
    go_enter Try.func13, Try.ntmps13
    go_wp2
    go_ret
    exact ⟨rfl, Fr.refl _ _ _⟩
  by_cases hn1 : x1.length ≤ 1048576
  rotate_left
  · have hl : (1048576 : Int) < x1.length := by omega
    go_enter Try.func13, Try.ntmps13
    go_wp2
    go_ret
    exact ⟨rfl, Fr.refl _ _ _⟩
  go_enter Try.func13, Try.ntmps13
  have z0 : w.heap.size ≤ w.heap.size := Nat.le_refl _
  have hR : (gradesI x0 x1).length ≤ 1048576 := gradesI_le x0 x1
  go_wp2_with fail
  refine (toIntS_any a0 c0 x0 _ (HS0.out.fr (Fr.refl w.heap.size none w)) hn0).mono ?_; rintro e w1 ⟨gp0, rfl, o_, F1⟩
  have z1 := F1.size
  have G1 := Lib.hid ((Fr.refl w.heap.size none w).and F1)
  clear F1
  have Lp0 := Lib.hid (own_lt o_)
  have Op0_1 := Lib.hid o_; clear o_
  go_wp2_with fail
  refine (toIntS_any a1 c1 x1 _ (HS1.out.fr G1.out) hn1).mono ?_; rintro e w2 ⟨gp1, rfl, o_, F2⟩
  have z2 := F2.size
  have Op0_2 := Lib.hid (own_keep Op0_1.out F2)
  have G2 := Lib.hid (G1.out.and F2)
  clear F2
  have Lp1 := Lib.hid (own_lt o_)
  have Op1_2 := Lib.hid o_; clear o_
  go_wp2_with fail
  refine (specGradesIn_any _ _ x0 _ _ x1 _ (own_sl Op0_2.out) hn0 (own_sl Op1_2.out) hn1).mono ?_; rintro e w3 ⟨vas, vcs, rfl, o_, F3⟩
  have z3 := F3.size
  have Op0_3 := Lib.hid (own_keep Op0_2.out F3)
  have Op1_3 := Lib.hid (own_keep Op1_2.out F3)
  have G3 := Lib.hid (G2.out.and F3)
  clear F3
  have Ls := Lib.hid (own_lt o_)
  have Os_3 := Lib.hid o_; clear o_
  go_wp2_with fail
  refine (toIntS_any a0 c0 x0 _ (HS0.out.fr G3.out) hn0).mono ?_; rintro e w4 ⟨gx0, rfl, o_, F4⟩
  have z4 := F4.size
  have Os_4 := Lib.hid (own_keep Os_3.out F4)
  have G4 := Lib.hid (G3.out.and F4)
  clear F4
  have Lx0 := Lib.hid (own_lt o_)
  have Ox0_4 := Lib.hid o_; clear o_
  go_wp2_with fail
  refine (toIntS_any a1 c1 x1 _ (HS1.out.fr G4.out) hn1).mono ?_; rintro e w5 ⟨gx1, rfl, o_, F5⟩
  have z5 := F5.size
  have Os_5 := Lib.hid (own_keep Os_4.out F5)
  have Ox0_5 := Lib.hid (own_keep Ox0_4.out F5)
  have G5 := Lib.hid (G4.out.and F5)
  clear F5
  have Lx1 := Lib.hid (own_lt o_)
  have Ox1_5 := Lib.hid o_; clear o_
  go_wp2_with fail
  refine (implGradesIn_any _ _ x0 _ _ x1 _ (own_sl Ox0_5.out) hn0 (own_sl Ox1_5.out) hn1).mono ?_; rintro e w6 ⟨var, vcr, rfl, o_, F6⟩
  have z6 := F6.size
  have Os_6 := Lib.hid (own_keep Os_5.out F6)
  have Ox0_6 := Lib.hid (own_keep Ox0_5.out F6)
  have Ox1_6 := Lib.hid (own_keep Ox1_5.out F6)
  have G6 := Lib.hid (G5.out.and F6)
  clear F6
  have Lr := Lib.hid (own_lt o_)
  have Or_6 := Lib.hid o_; clear o_
  go_wp2_with fail
  refine (eqIntS_any _ _ _ _ (gradesI x0 x1) _ (own_sl Or_6.out) (own_sl Os_6.out) hR).mono ?_; rintro e w7 ⟨rfl, F7⟩
  have z7 := F7.size
  have Os_7 := Lib.hid (own_keep Os_6.out F7)
  have Ox0_7 := Lib.hid (own_keep Ox0_6.out F7)
  have Ox1_7 := Lib.hid (own_keep Ox1_6.out F7)
  have Or_7 := Lib.hid (own_keep Or_6.out F7)
  have G7 := Lib.hid (G6.out.and F7)
  clear F7
  go_wp2_with fail
  refine (toIntS_any a0 c0 x0 _ (HS0.out.fr G7.out) hn0).mono ?_; rintro e w8 ⟨gt0, rfl, o_, F8⟩
  have z8 := F8.size
  have Os_8 := Lib.hid (own_keep Os_7.out F8)
  have Ox0_8 := Lib.hid (own_keep Ox0_7.out F8)
  have Ox1_8 := Lib.hid (own_keep Ox1_7.out F8)
  have Or_8 := Lib.hid (own_keep Or_7.out F8)
  have G8 := Lib.hid (G7.out.and F8)
  clear F8
  have Lt0 := Lib.hid (own_lt o_)
  have Ot0_8 := Lib.hid o_; clear o_
  go_wp2_with fail
  refine (eqIntS_any _ _ _ _ (x0) _ (own_sl Ox0_8.out) (own_sl Ot0_8.out) hn0).mono ?_; rintro e w9 ⟨rfl, F9⟩
  have z9 := F9.size
  have Os_9 := Lib.hid (own_keep Os_8.out F9)
  have Ox0_9 := Lib.hid (own_keep Ox0_8.out F9)
  have Ox1_9 := Lib.hid (own_keep Ox1_8.out F9)
  have Or_9 := Lib.hid (own_keep Or_8.out F9)
  have Ot0_9 := Lib.hid (own_keep Ot0_8.out F9)
  have G9 := Lib.hid (G8.out.and F9)
  clear F9
  go_wp2_with fail
  refine (toIntS_any a1 c1 x1 _ (HS1.out.fr G9.out) hn1).mono ?_; rintro e w10 ⟨gt1, rfl, o_, F10⟩
  have z10 := F10.size
  have Os_10 := Lib.hid (own_keep Os_9.out F10)
  have Ox0_10 := Lib.hid (own_keep Ox0_9.out F10)
  have Ox1_10 := Lib.hid (own_keep Ox1_9.out F10)
  have Or_10 := Lib.hid (own_keep Or_9.out F10)
  have G10 := Lib.hid (G9.out.and F10)
  clear F10
  have Lt1 := Lib.hid (own_lt o_)
  have Ot1_10 := Lib.hid o_; clear o_
  go_wp2_with fail
  refine (eqIntS_any _ _ _ _ (x1) _ (own_sl Ox1_10.out) (own_sl Ot1_10.out) hn1).mono ?_; rintro e w11 ⟨rfl, F11⟩
  have z11 := F11.size
  have Os_11 := Lib.hid (own_keep Os_10.out F11)
  have Ox0_11 := Lib.hid (own_keep Ox0_10.out F11)
  have Ox1_11 := Lib.hid (own_keep Ox1_10.out F11)
  have Or_11 := Lib.hid (own_keep Or_10.out F11)
  have Ot1_11 := Lib.hid (own_keep Ot1_10.out F11)
  have G11 := Lib.hid (G10.out.and F11)
  clear F11
  go_wp2_with fail
  refine (markIntS_any _ _ (x0) (1) _ _ Ox0_11.out hn0 (by omega) (by omega)).mono ?_; rintro e w12 ⟨rfl, o_, F12⟩
  have z12 := F12.size
  have Os_12 := Lib.hid (own_frB Os_11.out F12 (apart Ls.out Lx0.out (by omega) (by omega)))
  have Ox0_12 := Lib.hid o_; clear o_
  have Ox1_12 := Lib.hid (own_frB Ox1_11.out F12 (apart Lx1.out Lx0.out (by omega) (by omega)))
  have Or_12 := Lib.hid (own_frB Or_11.out F12 (apart Lr.out Lx0.out (by omega) (by omega)))
  have G12 := Lib.hid (mark_up G11.out F12 Lx0.out (by omega) (by omega))
  clear F12
  go_wp2_with fail
  refine (markIntS_any _ _ (x1) (1 + x0.length) _ _ Ox1_12.out hn1 (by omega) (by omega)).mono ?_; rintro e w13 ⟨rfl, o_, F13⟩
  have z13 := F13.size
  have Os_13 := Lib.hid (own_frB Os_12.out F13 (apart Ls.out Lx1.out (by omega) (by omega)))
  have Ox0_13 := Lib.hid (own_frB Ox0_12.out F13 (apart Lx0.out Lx1.out (by omega) (by omega)))
  have Ox1_13 := Lib.hid o_; clear o_
  have Or_13 := Lib.hid (own_frB Or_12.out F13 (apart Lr.out Lx1.out (by omega) (by omega)))
  have G13 := Lib.hid (mark_up G12.out F13 Lx1.out (by omega) (by omega))
  clear F13
  go_wp2_with fail
  refine (eqIntS_any _ _ _ _ (gradesI x0 x1) _ (own_sl Or_13.out) (own_sl Os_13.out) hR).mono ?_; rintro e w14 ⟨rfl, F14⟩
  have z14 := F14.size
  have Os_14 := Lib.hid (own_keep Os_13.out F14)
  have Ox0_14 := Lib.hid (own_keep Ox0_13.out F14)
  have Ox1_14 := Lib.hid (own_keep Ox1_13.out F14)
  have Or_14 := Lib.hid (own_keep Or_13.out F14)
  have G14 := Lib.hid (G13.out.and F14)
  clear F14
  go_wp2_with fail
  refine (markIntS_any _ _ (gradesI x0 x1) 1 _ _ Or_14.out hR (by omega) (by omega)).mono ?_; rintro e w15 ⟨rfl, o_, F15⟩
  have z15 := F15.size
  have Os_15 := Lib.hid (own_frB Os_14.out F15 (apart Ls.out Lr.out (by omega) (by omega)))
  have Or_15 := Lib.hid o_; clear o_
  have G15 := Lib.hid (mark_up G14.out F15 Lr.out (by omega) (by omega))
  clear F15
  go_wp2_with fail
  refine (heldIntS_any _ _ (gradesI x0 x1).length 1 _ (own_sl Or_15.out) hR (by omega) (by omega)).mono ?_; rintro e w16 ⟨rfl, F16⟩
  have z16 := F16.size
  have Os_16 := Lib.hid (own_keep Os_15.out F16)
  have Or_16 := Lib.hid (own_keep Or_15.out F16)
  have G16 := Lib.hid (G15.out.and F16)
  clear F16
  go_wp2_with fail
  refine (toIntS_any a0 c0 x0 _ (HS0.out.fr G16.out) hn0).mono ?_; rintro e w17 ⟨gh0, rfl, o_, F17⟩
  have z17 := F17.size
  have Os_17 := Lib.hid (own_keep Os_16.out F17)
  have Or_17 := Lib.hid (own_keep Or_16.out F17)
  have G17 := Lib.hid (G16.out.and F17)
  clear F17
  have Lh0 := Lib.hid (own_lt o_)
  have Oh0_17 := Lib.hid o_; clear o_
  go_wp2_with fail
  refine (toIntS_any a1 c1 x1 _ (HS1.out.fr G17.out) hn1).mono ?_; rintro e w18 ⟨gh1, rfl, o_, F18⟩
  have z18 := F18.size
  have Os_18 := Lib.hid (own_keep Os_17.out F18)
  have Or_18 := Lib.hid (own_keep Or_17.out F18)
  have Oh0_18 := Lib.hid (own_keep Oh0_17.out F18)
  have G18 := Lib.hid (G17.out.and F18)
  clear F18
  have Lh1 := Lib.hid (own_lt o_)
  have Oh1_18 := Lib.hid o_; clear o_
  go_wp2_with fail
  refine (implGradesIn_any _ _ x0 _ _ x1 _ (own_sl Oh0_18.out) hn0 (own_sl Oh1_18.out) hn1).mono ?_; rintro e w19 ⟨vau, vcu, rfl, o_, F19⟩
  have z19 := F19.size
  have Os_19 := Lib.hid (own_keep Os_18.out F19)
  have Or_19 := Lib.hid (own_keep Or_18.out F19)
  have Oh0_19 := Lib.hid (own_keep Oh0_18.out F19)
  have Oh1_19 := Lib.hid (own_keep Oh1_18.out F19)
  have G19 := Lib.hid (G18.out.and F19)
  clear F19
  have Lu := Lib.hid (own_lt o_)
  have Ou_19 := Lib.hid o_; clear o_
  go_wp2_with fail
  refine (eqIntS_any _ _ _ _ (gradesI x0 x1) _ (own_sl Ou_19.out) (own_sl Os_19.out) hR).mono ?_; rintro e w20 ⟨rfl, F20⟩
  have z20 := F20.size
  have Os_20 := Lib.hid (own_keep Os_19.out F20)
  have Or_20 := Lib.hid (own_keep Or_19.out F20)
  have Ou_20 := Lib.hid (own_keep Ou_19.out F20)
  have G20 := Lib.hid (G19.out.and F20)
  clear F20
  go_wp2_with fail
  refine (heldIntS_any _ _ (gradesI x0 x1).length 1 _ (own_sl Or_20.out) hR (by omega) (by omega)).mono ?_; rintro e w21 ⟨rfl, F21⟩
  have z21 := F21.size
  have Os_21 := Lib.hid (own_keep Os_20.out F21)
  have Or_21 := Lib.hid (own_keep Or_20.out F21)
  have Ou_21 := Lib.hid (own_keep Ou_20.out F21)
  have G21 := Lib.hid (G20.out.and F21)
  clear F21
  go_wp2
  go_ret
  exact ⟨rfl, G21.out⟩
end Go.Proofs.Ytlefjhdpndmamaa.fnExactGradesIn
