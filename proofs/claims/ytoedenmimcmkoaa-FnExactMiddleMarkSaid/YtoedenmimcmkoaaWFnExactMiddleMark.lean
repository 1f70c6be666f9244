/-
  For all arguments the law FnExactMiddleMark of the given program returns true, and each argument reads as before. No condition.
-/
import Derived.Test.YtoedenmimcmkoaaInts
import Derived.Test.YtoedenmimcmkoaaListC
namespace Go.Proofs.Ytoedenmimcmkoaa.fnExactMiddleMark
open Go.RowKit
set_option maxHeartbeats 2000000 in
theorem walk {w : World} (a0 : Option Addr) (c0 : Nat) (x0 : List Int) (hs0 : Sl w a0 (x0.map (Value.int .i64))) (hw0 : ∀ n ∈ x0, (Lit.int .i64 n).wf = true) :
    Calls Try.prog 7 #[.slice a0 x0.length c0] w fun e w' => e = .returned (.bool true) ∧ Fr w.heap.size none w w' := by
  clear hw0
  have HS0 : Hid (Sl w a0 (ints x0)) := hs0
  clear hs0
  by_cases hn0 : x0.length ≤ 1048576
  rotate_left
  · have hl : (1048576 : Int) < x0.length := by omega
    go_enter Try.func7, Try.ntmps7
    go_wp2
    go_ret
    exact ⟨rfl, Fr.refl _ _ _⟩
  go_enter Try.func7, Try.ntmps7
  have z0 : w.heap.size ≤ w.heap.size := Nat.le_refl _
  go_wp2_with fail
  refine (toIntS_any a0 c0 x0 _ (HS0.out.fr (Fr.refl w.heap.size none w)) hn0).mono ?_; rintro e w1 ⟨gp0, rfl, o_, F1⟩
  have z1 := F1.size
  have G1 := Lib.hid ((Fr.refl w.heap.size none w).and F1)
  clear F1
  have o_ := Own.of o_
  have Lp0 := Lib.hid (Own.lt o_)
  have Op0_1 := Lib.hid o_; clear o_
  go_wp2_with fail
  refine (specMiddleMark_any _ _ x0 _ (Own.sl Op0_1.out) hn0).mono ?_; rintro e w2 ⟨rfl, F2⟩
  have z2 := F2.size
  have Op0_2 := Lib.hid (Own.keep Op0_1.out F2)
  have G2 := Lib.hid (G1.out.and F2)
  clear F2
  go_wp2_with fail
  refine (toIntS_any a0 c0 x0 _ (HS0.out.fr G2.out) hn0).mono ?_; rintro e w3 ⟨gx0, rfl, o_, F3⟩
  have z3 := F3.size
  have G3 := Lib.hid (G2.out.and F3)
  clear F3
  have o_ := Own.of o_
  have Lx0 := Lib.hid (Own.lt o_)
  have Ox0_3 := Lib.hid o_; clear o_
  go_wp2_with fail
  refine (implMiddleMark_any _ _ x0 _ (Own.sl Ox0_3.out) hn0).mono ?_; rintro e w4 ⟨rfl, F4⟩
  have z4 := F4.size
  have Ox0_4 := Lib.hid (Own.keep Ox0_3.out F4)
  have G4 := Lib.hid (G3.out.and F4)
  clear F4
  go_wp2_with fail
  refine (toIntS_any a0 c0 x0 _ (HS0.out.fr G4.out) hn0).mono ?_; rintro e w5 ⟨gt0, rfl, o_, F5⟩
  have z5 := F5.size
  have Ox0_5 := Lib.hid (Own.keep Ox0_4.out F5)
  have G5 := Lib.hid (G4.out.and F5)
  clear F5
  have o_ := Own.of o_
  have Lt0 := Lib.hid (Own.lt o_)
  have Ot0_5 := Lib.hid o_; clear o_
  go_wp2_with fail
  refine (eqIntS_any _ _ _ _ (x0) _ (Own.sl Ox0_5.out) (Own.sl Ot0_5.out) hn0).mono ?_; rintro e w6 ⟨rfl, F6⟩
  have z6 := F6.size
  have Ox0_6 := Lib.hid (Own.keep Ox0_5.out F6)
  have Ot0_6 := Lib.hid (Own.keep Ot0_5.out F6)
  have G6 := Lib.hid (G5.out.and F6)
  clear F6
  go_wp2
  go_ret
  exact ⟨rfl, G6.out⟩
end Go.Proofs.Ytoedenmimcmkoaa.fnExactMiddleMark
