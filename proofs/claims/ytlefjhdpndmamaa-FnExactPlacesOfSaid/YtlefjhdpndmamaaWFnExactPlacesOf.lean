/-
  For all arguments the law FnExactPlacesOf of the given program returns true, and each argument reads as before. No condition.
-/
import Derived.Test.YtlefjhdpndmamaaInts
import Derived.Test.YtlefjhdpndmamaaMarksE
namespace Go.Proofs.Ytlefjhdpndmamaa.fnExactPlacesOf
open Go.RowKit
set_option maxHeartbeats 1000000 in
theorem walk {w : World} (a0 : Option Addr) (c0 : Nat) (x0 : List Int) (hs0 : Sl w a0 (x0.map (Value.int .i64))) (hw0 : ∀ n ∈ x0, (Lit.int .i64 n).wf = true) :
    Calls Try.prog 11 #[.slice a0 x0.length c0] w fun e w' => e = .returned (.bool true) ∧ Fr w.heap.size none w w' := by
  clear hw0
  have HS0 : Hid (Sl w a0 (ints x0)) := hs0
  clear hs0
  by_cases hn0 : x0.length ≤ 1048576
  rotate_left
  · have hl : (1048576 : Int) < x0.length := by omega
    go_enter Try.func11, Try.ntmps11
    go_wp2
    go_ret
    exact ⟨rfl, Fr.refl _ _ _⟩
  go_enter Try.func11, Try.ntmps11
  have z0 : w.heap.size ≤ w.heap.size := Nat.le_refl _
  have hR : (placesI x0).length ≤ 1048576 := placesI_le x0
  go_wp2_with fail
  refine (toIntS_any a0 c0 x0 _ (HS0.out.fr (Fr.refl w.heap.size none w)) hn0).mono ?_; rintro e w1 ⟨gp0, rfl, o_, F1⟩
  have z1 := F1.size
  have G1 := Lib.hid ((Fr.refl w.heap.size none w).and F1)
  clear F1
  have Lp0 := Lib.hid (own_lt o_)
  have Op0_1 := Lib.hid o_; clear o_
  go_wp2_with fail
  refine (specPlacesOf_any _ _ x0 _ (own_sl Op0_1.out) hn0).mono ?_; rintro e w2 ⟨vas, vcs, rfl, o_, F2⟩
  have z2 := F2.size
  have Op0_2 := Lib.hid (own_keep Op0_1.out F2)
  have G2 := Lib.hid (G1.out.and F2)
  clear F2
  have Ls := Lib.hid (own_lt o_)
  have Os_2 := Lib.hid o_; clear o_
  go_wp2_with fail
  refine (toIntS_any a0 c0 x0 _ (HS0.out.fr G2.out) hn0).mono ?_; rintro e w3 ⟨gx0, rfl, o_, F3⟩
  have z3 := F3.size
  have Os_3 := Lib.hid (own_keep Os_2.out F3)
  have G3 := Lib.hid (G2.out.and F3)
  clear F3
  have Lx0 := Lib.hid (own_lt o_)
  have Ox0_3 := Lib.hid o_; clear o_
  go_wp2_with fail
  refine (implPlacesOf_any _ _ x0 _ (own_sl Ox0_3.out) hn0).mono ?_; rintro e w4 ⟨var, vcr, rfl, o_, F4⟩
  have z4 := F4.size
  have Os_4 := Lib.hid (own_keep Os_3.out F4)
  have Ox0_4 := Lib.hid (own_keep Ox0_3.out F4)
  have G4 := Lib.hid (G3.out.and F4)
  clear F4
  have Lr := Lib.hid (own_lt o_)
  have Or_4 := Lib.hid o_; clear o_
  go_wp2_with fail
  refine (eqIntS_any _ _ _ _ (placesI x0) _ (own_sl Or_4.out) (own_sl Os_4.out) hR).mono ?_; rintro e w5 ⟨rfl, F5⟩
  have z5 := F5.size
  have Os_5 := Lib.hid (own_keep Os_4.out F5)
  have Ox0_5 := Lib.hid (own_keep Ox0_4.out F5)
  have Or_5 := Lib.hid (own_keep Or_4.out F5)
  have G5 := Lib.hid (G4.out.and F5)
  clear F5
  go_wp2_with fail
  refine (toIntS_any a0 c0 x0 _ (HS0.out.fr G5.out) hn0).mono ?_; rintro e w6 ⟨gt0, rfl, o_, F6⟩
  have z6 := F6.size
  have Os_6 := Lib.hid (own_keep Os_5.out F6)
  have Ox0_6 := Lib.hid (own_keep Ox0_5.out F6)
  have Or_6 := Lib.hid (own_keep Or_5.out F6)
  have G6 := Lib.hid (G5.out.and F6)
  clear F6
  have Lt0 := Lib.hid (own_lt o_)
  have Ot0_6 := Lib.hid o_; clear o_
  go_wp2_with fail
  refine (eqIntS_any _ _ _ _ (x0) _ (own_sl Ox0_6.out) (own_sl Ot0_6.out) hn0).mono ?_; rintro e w7 ⟨rfl, F7⟩
  have z7 := F7.size
  have Os_7 := Lib.hid (own_keep Os_6.out F7)
  have Ox0_7 := Lib.hid (own_keep Ox0_6.out F7)
  have Or_7 := Lib.hid (own_keep Or_6.out F7)
  have Ot0_7 := Lib.hid (own_keep Ot0_6.out F7)
  have G7 := Lib.hid (G6.out.and F7)
  clear F7
  go_wp2_with fail
  refine (markIntS_any _ _ (x0) (1) _ _ Ox0_7.out hn0 (by omega) (by omega)).mono ?_; rintro e w8 ⟨rfl, o_, F8⟩
  have z8 := F8.size
  have Os_8 := Lib.hid (own_frB Os_7.out F8 (apart Ls.out Lx0.out (by omega) (by omega)))
  have Ox0_8 := Lib.hid o_; clear o_
  have Or_8 := Lib.hid (own_frB Or_7.out F8 (apart Lr.out Lx0.out (by omega) (by omega)))
  have G8 := Lib.hid (mark_up G7.out F8 Lx0.out (by omega) (by omega))
  clear F8
  go_wp2_with fail
  refine (eqIntS_any _ _ _ _ (placesI x0) _ (own_sl Or_8.out) (own_sl Os_8.out) hR).mono ?_; rintro e w9 ⟨rfl, F9⟩
  have z9 := F9.size
  have Os_9 := Lib.hid (own_keep Os_8.out F9)
  have Ox0_9 := Lib.hid (own_keep Ox0_8.out F9)
  have Or_9 := Lib.hid (own_keep Or_8.out F9)
  have G9 := Lib.hid (G8.out.and F9)
  clear F9
  go_wp2_with fail
  refine (markIntS_any _ _ (placesI x0) 1 _ _ Or_9.out hR (by omega) (by omega)).mono ?_; rintro e w10 ⟨rfl, o_, F10⟩
  have z10 := F10.size
  have Os_10 := Lib.hid (own_frB Os_9.out F10 (apart Ls.out Lr.out (by omega) (by omega)))
  have Or_10 := Lib.hid o_; clear o_
  have G10 := Lib.hid (mark_up G9.out F10 Lr.out (by omega) (by omega))
  clear F10
  go_wp2_with fail
  refine (heldIntS_any _ _ (placesI x0).length 1 _ (own_sl Or_10.out) hR (by omega) (by omega)).mono ?_; rintro e w11 ⟨rfl, F11⟩
  have z11 := F11.size
  have Os_11 := Lib.hid (own_keep Os_10.out F11)
  have Or_11 := Lib.hid (own_keep Or_10.out F11)
  have G11 := Lib.hid (G10.out.and F11)
  clear F11
  go_wp2_with fail
  refine (toIntS_any a0 c0 x0 _ (HS0.out.fr G11.out) hn0).mono ?_; rintro e w12 ⟨gh0, rfl, o_, F12⟩
  have z12 := F12.size
  have Os_12 := Lib.hid (own_keep Os_11.out F12)
  have Or_12 := Lib.hid (own_keep Or_11.out F12)
  have G12 := Lib.hid (G11.out.and F12)
  clear F12
  have Lh0 := Lib.hid (own_lt o_)
  have Oh0_12 := Lib.hid o_; clear o_
  go_wp2_with fail
  refine (implPlacesOf_any _ _ x0 _ (own_sl Oh0_12.out) hn0).mono ?_; rintro e w13 ⟨vau, vcu, rfl, o_, F13⟩
  have z13 := F13.size
  have Os_13 := Lib.hid (own_keep Os_12.out F13)
  have Or_13 := Lib.hid (own_keep Or_12.out F13)
  have Oh0_13 := Lib.hid (own_keep Oh0_12.out F13)
  have G13 := Lib.hid (G12.out.and F13)
  clear F13
  have Lu := Lib.hid (own_lt o_)
  have Ou_13 := Lib.hid o_; clear o_
  go_wp2_with fail
  refine (eqIntS_any _ _ _ _ (placesI x0) _ (own_sl Ou_13.out) (own_sl Os_13.out) hR).mono ?_; rintro e w14 ⟨rfl, F14⟩
  have z14 := F14.size
  have Os_14 := Lib.hid (own_keep Os_13.out F14)
  have Or_14 := Lib.hid (own_keep Or_13.out F14)
  have Ou_14 := Lib.hid (own_keep Ou_13.out F14)
  have G14 := Lib.hid (G13.out.and F14)
  clear F14
  go_wp2_with fail
  refine (heldIntS_any _ _ (placesI x0).length 1 _ (own_sl Or_14.out) hR (by omega) (by omega)).mono ?_; rintro e w15 ⟨rfl, F15⟩
  have z15 := F15.size
  have Os_15 := Lib.hid (own_keep Os_14.out F15)
  have Or_15 := Lib.hid (own_keep Or_14.out F15)
  have Ou_15 := Lib.hid (own_keep Ou_14.out F15)
  have G15 := Lib.hid (G14.out.and F15)
  clear F15
  go_wp2
  go_ret
  exact ⟨rfl, G15.out⟩
end Go.Proofs.Ytlefjhdpndmamaa.fnExactPlacesOf
