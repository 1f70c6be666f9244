/-
  Whatever the text, the law FnExactReadJournal of the given program returns true, if the library's MaxLen holds a number.
-/
import Derived.Test.YtcfbdjdbmjdjnaaDoorDeedE
import Derived.Test.YtcfbdjdbmjdjnaaDoorReadJ
namespace Go.Proofs.YtcfbdjdbmjdjnaaDoor.fnExactReadJournal
open Go.RowKit
set_option maxHeartbeats 2000000 in
theorem walk {w : World} (m : Int) (hm : w.cell? ⟨0, 0, none⟩ = some (.int .i64 m)) (s : ByteArray) (_ : s.size ≤ maxLen) :
    Calls Tryd.prog 4 #[.string s] w fun e w' => e = .returned (.bool true) ∧ Fr w.heap.size none w w' := by
  have hb0 := World.block_lt_of_cell? w _ hm
  have HM := Lib.hid hm; clear hm
  by_cases h : s.size ≤ 1048576
  · have hl : (readJ s).1.length ≤ 1048576 := by have := readJ_len s; omega
    have CS := Lib.hid (fun W => specReadJ_any s W h)
    have CI := Lib.hid (fun W hW => implReadJ_any s m W h hW)
    generalize readJ s = T at *
    obtain ⟨X, n⟩ := T
    dsimp only at *
    go_enter Tryd.func4, Tryd.ntmps4
    go_wp2_with fail
    refine (CS.out _).mono ?_; rintro e w1 ⟨sa, sc, rfl, so, F1⟩
    have G1 := Lib.hid F1
    have S1 := Lib.hid so
    have LS := Lib.hid (Own.lt so)
    have z1 := F1.size
    clear so F1
    have hm1 := (G1.out.cell (p := ⟨0, 0, none⟩) hb0 (by simp)).trans HM.out
    go_wp2_with fail
    refine (CI.out _ hm1).mono ?_; rintro e w2 ⟨ra, rc, rfl, ro, F2⟩
    have G2 := Lib.hid (G1.out.and F2)
    have S2 := Lib.hid (Own.keep S1.out F2)
    have R2 := Lib.hid ro
    have LR := Lib.hid (Own.lt ro)
    have z2 := F2.size
    clear ro F2 hm1
    go_wp2_with fail
    refine (eqDeedS_any _ _ _ _ X _ R2.out.sl S2.out.sl hl).mono ?_; rintro e w3 ⟨rfl, F3⟩
    have G3 := Lib.hid (G2.out.and F3)
    have S3 := Lib.hid (Own.keep S2.out F3)
    have R3 := Lib.hid (Own.keep R2.out F3)
    have z3 := F3.size
    clear F3
    go_wp2_with fail
    refine (markDeedS_any _ _ X 1 _ _ R3.out hl (by omega) (by omega)).mono ?_; rintro e w4 ⟨rfl, o_, F4⟩
    have S4 := Lib.hid (Own.frB S3.out F4 (apart LS.out LR.out (by omega) (by omega)))
    have R4 := Lib.hid o_
    have G4 := Lib.hid (mark_up G3.out F4 LR.out (by omega) (by omega))
    have z4 := F4.size
    clear o_ F4
    go_wp2_with fail
    refine (heldDeedS_any _ _ X.length 1 _ R4.out.sl hl (by omega) (by omega)).mono ?_; rintro e w5 ⟨rfl, F5⟩
    have G5 := Lib.hid (G4.out.and F5)
    have S5 := Lib.hid (Own.keep S4.out F5)
    have R5 := Lib.hid (Own.keep R4.out F5)
    have z5 := F5.size
    clear F5
    have hm5 := (G5.out.cell (p := ⟨0, 0, none⟩) hb0 (by simp)).trans HM.out
    go_wp2_with fail
    refine (CI.out _ hm5).mono ?_; rintro e w6 ⟨ua, uc, rfl, uo, F6⟩
    have G6 := Lib.hid (G5.out.and F6)
    have S6 := Lib.hid (Own.keep S5.out F6)
    have R6 := Lib.hid (Own.keep R5.out F6)
    have U6 := Lib.hid uo
    have z6 := F6.size
    clear uo F6 hm5
    go_wp2_with fail
    refine (eqDeedS_any _ _ _ _ X _ U6.out.sl S6.out.sl hl).mono ?_; rintro e w7 ⟨rfl, F7⟩
    have G7 := Lib.hid (G6.out.and F7)
    have R7 := Lib.hid (Own.keep R6.out F7)
    clear F7
    go_wp2_with fail
    refine (heldDeedS_any _ _ X.length 1 _ R7.out.sl hl (by omega) (by omega)).mono ?_; rintro e w8 ⟨rfl, F8⟩
    have G8 := Lib.hid (G7.out.and F8)
    clear F8
    go_wp2
    go_ret
    exact ⟨rfl, G8.out⟩
  · go_enter Tryd.func4, Tryd.ntmps4
    go_wp2
    go_ret
    exact ⟨rfl, Fr.refl _ _ _⟩
end Go.Proofs.YtcfbdjdbmjdjnaaDoor.fnExactReadJournal
