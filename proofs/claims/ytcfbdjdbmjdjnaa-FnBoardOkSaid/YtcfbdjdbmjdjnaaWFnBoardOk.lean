/-
  For every code the law FnBoardOk of the given program returns true, and the code reads as before. No condition.
-/
import Derived.Test.YtcfbdjdbmjdjnaaDrawBoardC
import Derived.Test.YtcfbdjdbmjdjnaaNum
namespace Go.Proofs.Ytcfbdjdbmjdjnaa.fnBoardOk
open Go.RowKit
theorem implBoard_nil (a : Option Addr) (c : Nat) (W : World) : Calls Try.prog 17 #[.slice a 0 c] W fun e w' => e = .returned (.bool true) ∧ Fr W.heap.size none W w' :=
  implBoard_val (xs := []) (Sl.nil W a) (by simp) small_nil (by decide)
set_option maxHeartbeats 800000 in
theorem walk {w : World} (a : Option Addr) (cap : Nat) (bs : List Int) (hs : Sl w a (bs.map (Value.int .u8))) (hb : ∀ x ∈ bs, 0 ≤ x ∧ x ≤ 255) (hcap : bs.length ≤ cap) :
    Calls Try.prog 6 #[.slice a bs.length cap] w fun e w' => e = .returned (.bool true) ∧ Fr w.heap.size none w w' := by
  have HS : Hid (Sl w a (u8s bs)) := hs
  have HB := Lib.hid hb; clear hs hb
  by_cases hn : bs.length ≤ 1048576
  · go_enter Try.func6, Try.ntmps6
    go_wp2_with fail
    refine (drawBoardOk_any a cap bs _ HS.out HB.out hn hcap).mono ?_; rintro e w1 ⟨v, rfl, ⟨va, vc, xs, rfl, ho, hl, hT⟩, hF⟩
    have G1 := Lib.hid hF
    have O1 := Lib.hid ho; have T1 := Lib.hid hT.small; clear hF ho hT
    cases h : boardOkB xs
    · have H := Lib.hid h; clear h
      go_wp2_with fail
      refine (implBoard_val (own_sl O1.out) (by omega) T1.out H.out).mono ?_; rintro e w2 ⟨rfl, hF2⟩
      have O2 := Lib.hid (own_keep O1.out hF2)
      have G2 := Lib.hid (G1.out.and hF2); clear hF2
      go_wp2_with fail
      refine (specBoard_val (own_sl O2.out) (by omega) T1.out H.out).mono ?_; rintro e w' ⟨rfl, m, rfl⟩
      go_wp2_with fail
      refine (implBoard_nil _ _ _).mono ?_; rintro e w3 ⟨rfl, hF3⟩
      have G3 := Lib.hid (((G2.out.drewN m).alloc (G2.out.drewN m).size _).and hF3); clear hF3
      go_wp2_with (go_at_call 25; refine (alive_any _).mono ?_; rintro e w' ⟨rfl, rfl⟩)
      go_ret
      exact ⟨rfl, G3.out⟩
    · by_cases h0 : xs.length = 0
      · have hz : ((xs.length : Int) == 0) = true := by rw [h0]; rfl
        have H := Lib.hid h; clear h h0
        go_wp2_with fail
        refine (implBoard_val (own_sl O1.out) (by omega) T1.out H.out).mono ?_; rintro e w2 ⟨rfl, hF2⟩
        have O2 := Lib.hid (own_keep O1.out hF2)
        have G2 := Lib.hid (G1.out.and hF2); clear hF2
        go_wp2_with fail
        refine (specBoard_val (own_sl O2.out) (by omega) T1.out H.out).mono ?_; rintro e w' ⟨rfl, m, rfl⟩
        go_wp2_with fail
        refine (implBoard_nil _ _ _).mono ?_; rintro e w3 ⟨rfl, hF3⟩
        have G3 := Lib.hid (((G2.out.drewN m).alloc (G2.out.drewN m).size _).and hF3); clear hF3
        go_wp2_with (go_at_call 25; refine (alive_any _).mono ?_; rintro e w' ⟨rfl, rfl⟩)
        go_ret
        exact ⟨rfl, G3.out⟩
      · have hz : ((xs.length : Int) == 0) = false := by rw [beq_eq_false_iff_ne]; omega
        have hp : 0 < xs.length := by omega
        have hlen := Lib.hid (show (xs.take (xs.length - 1)).length = xs.length - 1 by simp)
        have hvc := own_lecap (Own.of O1.out)
        have hsub : ∀ W, Sl W va (tests (xs.take (xs.length - 1))) → Calls Try.prog 17 #[.slice va (xs.length - 1) vc] W fun e w' => e = .returned (.bool true) ∧ Fr W.heap.size none W w' := by
          intro W hW
          have := implBoard_val (a := va) (cap := vc) (xs := xs.take (xs.length - 1)) (w := W) (r := true) hW (by rw [hlen.out]; omega) (small_take T1.out _) (board_take h _)
          rw [hlen.out] at this; exact this
        have HSUB := Lib.hid hsub
        have H := Lib.hid h; clear h h0 hsub hlen
        go_wp2_with fail
        refine (implBoard_val (own_sl O1.out) (by omega) T1.out H.out).mono ?_; rintro e w2 ⟨rfl, hF2⟩
        have O2 := Lib.hid (own_keep O1.out hF2)
        have G2 := Lib.hid (G1.out.and hF2); clear hF2
        go_wp2_with fail
        refine (specBoard_val (own_sl O2.out) (by omega) T1.out H.out).mono ?_; rintro e w' ⟨rfl, m, rfl⟩
        go_wp2_with fail
        refine (implBoard_nil _ _ _).mono ?_; rintro e w3 ⟨rfl, hF3⟩
        have O3 := Lib.hid (own_keep ((own_drewN O2.out m).alloc _) hF3)
        have G3 := Lib.hid (((G2.out.drewN m).alloc (G2.out.drewN m).size _).and hF3); clear hF3
        have S3 := Lib.hid (Own.sl (own_take (Own.of O3.out) (Nat.sub_le xs.length 1)))
        go_wp2_with fail
        refine (HSUB.out _ S3.out).mono ?_; rintro e w4 ⟨rfl, hF4⟩
        have G4 := Lib.hid (G3.out.and hF4); clear hF4
        go_wp2_with (go_at_call 25; refine (alive_any _).mono ?_; rintro e w' ⟨rfl, rfl⟩)
        go_ret
        exact ⟨rfl, G4.out⟩
  · go_enter Try.func6, Try.ntmps6
    go_wp2
    go_ret
    exact ⟨rfl, Fr.refl _ _ _⟩
end Go.Proofs.Ytcfbdjdbmjdjnaa.fnBoardOk
