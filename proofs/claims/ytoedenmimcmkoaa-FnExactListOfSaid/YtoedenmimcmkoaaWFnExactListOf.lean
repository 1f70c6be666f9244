/-
  For all arguments the law FnExactListOf of the given program returns true, and each argument reads as before. No condition.
-/
import Derived.Test.YtoedenmimcmkoaaInts
import Derived.Test.YtoedenmimcmkoaaListB
namespace Go.Proofs.Ytoedenmimcmkoaa.fnExactListOf
open Go.RowKit
set_option maxHeartbeats 2000000 in
theorem walk {w : World} (a0 : Option Addr) (c0 : Nat) (x0 : List Int) (hs0 : Sl w a0 (x0.map (Value.int .i64))) (hw0 : ∀ n ∈ x0, (Lit.int .i64 n).wf = true) :
    Calls Try.prog 8 #[.slice a0 x0.length c0] w fun e w' => e = .returned (.bool true) ∧ Fr w.heap.size none w w' := by
  clear hw0
  have HS0 : Hid (Sl w a0 (ints x0)) := hs0
  clear hs0
  by_cases hn0 : x0.length ≤ 1048576
  rotate_left
  · have hl : (1048576 : Int) < x0.length := by omega
    go_enter Try.func8, Try.ntmps8
    go_wp2
    go_ret
    exact ⟨rfl, Fr.refl _ _ _⟩
  go_enter Try.func8, Try.ntmps8
  have z0 : w.heap.size ≤ w.heap.size := Nat.le_refl _
  have hR0 : (listI x0).length ≤ 1048576 := listI_le x0
  go_wp2_with fail
  refine (toIntS_any a0 c0 x0 _ (HS0.out.fr (Fr.refl w.heap.size none w)) hn0).mono ?_; rintro e w1 ⟨gp0, rfl, o_, F1⟩
  have z1 := F1.size
  have G1 := Lib.hid ((Fr.refl w.heap.size none w).and F1)
  clear F1
  have o_ := Own.of o_
  have Lp0 := Lib.hid (Own.lt o_)
  have Op0_1 := Lib.hid o_; clear o_
  go_wp2_with fail
  refine (specListOf_any _ _ x0 _ (Own.sl Op0_1.out) hn0).mono ?_; rintro e w2 ⟨vas0, vcs0, rfl, o_, F2⟩
  have z2 := F2.size
  have Op0_2 := Lib.hid (Own.keep Op0_1.out F2)
  have G2 := Lib.hid (G1.out.and F2)
  clear F2
  have o_ := Own.of o_
  have Ls0 := Lib.hid (Own.lt o_)
  have Os0_2 := Lib.hid o_; clear o_
  go_wp2_with fail
  refine (toIntS_any a0 c0 x0 _ (HS0.out.fr G2.out) hn0).mono ?_; rintro e w3 ⟨gx0, rfl, o_, F3⟩
  have z3 := F3.size
  have Os0_3 := Lib.hid (Own.keep Os0_2.out F3)
  have G3 := Lib.hid (G2.out.and F3)
  clear F3
  have o_ := Own.of o_
  have Lx0 := Lib.hid (Own.lt o_)
  have Ox0_3 := Lib.hid o_; clear o_
  go_wp2_with fail
  refine (implListOf_any _ _ x0 _ (Own.sl Ox0_3.out) hn0).mono ?_; rintro e w4 ⟨var0, vcr0, rfl, o_, F4⟩
  have z4 := F4.size
  have Os0_4 := Lib.hid (Own.keep Os0_3.out F4)
  have Ox0_4 := Lib.hid (Own.keep Ox0_3.out F4)
  have G4 := Lib.hid (G3.out.and F4)
  clear F4
  have o_ := Own.of o_
  have Lr0 := Lib.hid (Own.lt o_)
  have Or0_4 := Lib.hid o_; clear o_
  go_wp2_with fail
  refine (eqIntS_any _ _ _ _ (listI x0) _ (Own.sl Or0_4.out) (Own.sl Os0_4.out) hR0).mono ?_; rintro e w5 ⟨rfl, F5⟩
  have z5 := F5.size
  have Os0_5 := Lib.hid (Own.keep Os0_4.out F5)
  have Ox0_5 := Lib.hid (Own.keep Ox0_4.out F5)
  have Or0_5 := Lib.hid (Own.keep Or0_4.out F5)
  have G5 := Lib.hid (G4.out.and F5)
  clear F5
  go_wp2_with fail
  refine (toIntS_any a0 c0 x0 _ (HS0.out.fr G5.out) hn0).mono ?_; rintro e w6 ⟨gt0, rfl, o_, F6⟩
  have z6 := F6.size
  have Os0_6 := Lib.hid (Own.keep Os0_5.out F6)
  have Ox0_6 := Lib.hid (Own.keep Ox0_5.out F6)
  have Or0_6 := Lib.hid (Own.keep Or0_5.out F6)
  have G6 := Lib.hid (G5.out.and F6)
  clear F6
  have o_ := Own.of o_
  have Lt0 := Lib.hid (Own.lt o_)
  have Ot0_6 := Lib.hid o_; clear o_
  go_wp2_with fail
  refine (eqIntS_any _ _ _ _ (x0) _ (Own.sl Ox0_6.out) (Own.sl Ot0_6.out) hn0).mono ?_; rintro e w7 ⟨rfl, F7⟩
  have z7 := F7.size
  have Os0_7 := Lib.hid (Own.keep Os0_6.out F7)
  have Ox0_7 := Lib.hid (Own.keep Ox0_6.out F7)
  have Or0_7 := Lib.hid (Own.keep Or0_6.out F7)
  have Ot0_7 := Lib.hid (Own.keep Ot0_6.out F7)
  have G7 := Lib.hid (G6.out.and F7)
  clear F7
  go_wp2_with fail
  refine (markIntS_any _ _ (x0) (1) _ _ Ox0_7.out hn0 (by omega) (by omega)).mono ?_; rintro e w8 ⟨rfl, o_, F8⟩
  have z8 := F8.size
  have Os0_8 := Lib.hid (Own.frB Os0_7.out F8 (apart Ls0.out Lx0.out (by omega) (by omega)))
  have Ox0_8 := Lib.hid o_; clear o_
  have Or0_8 := Lib.hid (Own.frB Or0_7.out F8 (apart Lr0.out Lx0.out (by omega) (by omega)))
  have G8 := Lib.hid (mark_up G7.out F8 Lx0.out (by omega) (by omega))
  clear F8
  go_wp2_with fail
  refine (eqIntS_any _ _ _ _ (listI x0) _ (Own.sl Or0_8.out) (Own.sl Os0_8.out) hR0).mono ?_; rintro e w9 ⟨rfl, F9⟩
  have z9 := F9.size
  have Os0_9 := Lib.hid (Own.keep Os0_8.out F9)
  have Ox0_9 := Lib.hid (Own.keep Ox0_8.out F9)
  have Or0_9 := Lib.hid (Own.keep Or0_8.out F9)
  have G9 := Lib.hid (G8.out.and F9)
  clear F9
  go_wp2_with fail
  refine (markIntS_any _ _ (listI x0) (1) _ _ Or0_9.out hR0 (by omega) (by omega)).mono ?_; rintro e w10 ⟨rfl, o_, F10⟩
  have z10 := F10.size
  have Os0_10 := Lib.hid (Own.frB Os0_9.out F10 (apart Ls0.out Lr0.out (by omega) (by omega)))
  have Or0_10 := Lib.hid o_; clear o_
  have G10 := Lib.hid (mark_up G9.out F10 Lr0.out (by omega) (by omega))
  clear F10
  go_wp2_with fail
  refine (heldIntS_any _ _ ((listI x0).length) (1) _ (Own.sl Or0_10.out) hR0 (by omega) (by omega)).mono ?_; rintro e w11 ⟨rfl, F11⟩
  have z11 := F11.size
  have Os0_11 := Lib.hid (Own.keep Os0_10.out F11)
  have Or0_11 := Lib.hid (Own.keep Or0_10.out F11)
  have G11 := Lib.hid (G10.out.and F11)
  clear F11
  go_wp2_with fail
  refine (toIntS_any a0 c0 x0 _ (HS0.out.fr G11.out) hn0).mono ?_; rintro e w12 ⟨gh0, rfl, o_, F12⟩
  have z12 := F12.size
  have Os0_12 := Lib.hid (Own.keep Os0_11.out F12)
  have Or0_12 := Lib.hid (Own.keep Or0_11.out F12)
  have G12 := Lib.hid (G11.out.and F12)
  clear F12
  have o_ := Own.of o_
  have Lh0 := Lib.hid (Own.lt o_)
  have Oh0_12 := Lib.hid o_; clear o_
  go_wp2_with fail
  refine (implListOf_any _ _ x0 _ (Own.sl Oh0_12.out) hn0).mono ?_; rintro e w13 ⟨vau0, vcu0, rfl, o_, F13⟩
  have z13 := F13.size
  have Os0_13 := Lib.hid (Own.keep Os0_12.out F13)
  have Or0_13 := Lib.hid (Own.keep Or0_12.out F13)
  have Oh0_13 := Lib.hid (Own.keep Oh0_12.out F13)
  have G13 := Lib.hid (G12.out.and F13)
  clear F13
  have o_ := Own.of o_
  have Lu0 := Lib.hid (Own.lt o_)
  have Ou0_13 := Lib.hid o_; clear o_
  go_wp2_with fail
  refine (eqIntS_any _ _ _ _ (listI x0) _ (Own.sl Ou0_13.out) (Own.sl Os0_13.out) hR0).mono ?_; rintro e w14 ⟨rfl, F14⟩
  have z14 := F14.size
  have Os0_14 := Lib.hid (Own.keep Os0_13.out F14)
  have Or0_14 := Lib.hid (Own.keep Or0_13.out F14)
  have Ou0_14 := Lib.hid (Own.keep Ou0_13.out F14)
  have G14 := Lib.hid (G13.out.and F14)
  clear F14
  go_wp2_with fail
  refine (heldIntS_any _ _ ((listI x0).length) (1) _ (Own.sl Or0_14.out) hR0 (by omega) (by omega)).mono ?_; rintro e w15 ⟨rfl, F15⟩
  have z15 := F15.size
  have Os0_15 := Lib.hid (Own.keep Os0_14.out F15)
  have Or0_15 := Lib.hid (Own.keep Or0_14.out F15)
  have Ou0_15 := Lib.hid (Own.keep Ou0_14.out F15)
  have G15 := Lib.hid (G14.out.and F15)
  clear F15
  go_wp2
  go_ret
  exact ⟨rfl, G15.out⟩
end Go.Proofs.Ytoedenmimcmkoaa.fnExactListOf
