/-
  For every code the law FnQuestionsUpTo of the given program returns true, and the code reads as before. No condition.
-/
import Derived.Test.YtoedenmimcmkoaaDaysD
import Derived.Test.YtoedenmimcmkoaaDrawDays
import Derived.Test.YtoedenmimcmkoaaNum
namespace Go.Proofs.Ytoedenmimcmkoaa.fnQuestionsUpTo
open Go.RowKit
set_option maxHeartbeats 800000 in
theorem walk {w : World} (a : Option Addr) (cap : Nat) (bs : List Int) (hs : Sl w a (bs.map (Value.int .u8))) (hb : ∀ x ∈ bs, 0 ≤ x ∧ x ≤ 255) (hcap : bs.length ≤ cap) :
    Calls Try.prog 9 #[.slice a bs.length cap] w fun e w' => e = .returned (.bool true) ∧ Fr w.heap.size none w w' := by
  have HS : Hid (Sl w a (u8s bs)) := hs
  have HB := Lib.hid hb; clear hs hb
  by_cases hn : bs.length ≤ 1048576
  · go_enter Try.func9, Try.ntmps9
    go_wp2_with fail
    refine (drawQuestionsUpTo_any a cap bs _ HS.out HB.out hn hcap).mono ?_; rintro e w1 ⟨d, k, rfl, d0, d1, k0, k1, hF⟩
    have G1 := Lib.hid hF; clear hF
    have L := Lib.hid (quest_law d k)
    go_wp2_with fail
    refine (implQuest_any d k _).mono ?_; rintro e w2 ⟨rfl, hF2⟩
    have G2 := Lib.hid (G1.out.and hF2); clear hF2
    have C2 := Lib.hid (specQuest_any d k w2)
    obtain ⟨n, hn2⟩ : ∃ n, n = questI d k := ⟨_, rfl⟩
    have l2 := L.out
    rw [← hn2] at l2 C2 ⊢
    have NN := Lib.hid hn2; clear L hn2
    rcases l2 with rfl | ⟨e0, e1, rfl, rfl⟩ | ⟨e0, e1, rfl, n0, n1, n2⟩
    · go_wp2_with fail
      refine C2.out.mono ?_; rintro e w3 ⟨rfl, hF3⟩
      have G3 := Lib.hid (G2.out.and hF3); clear hF3
      go_wp2_with (go_at_call 16; refine (alive_any _).mono ?_; rintro e w' ⟨rfl, rfl⟩)
      go_ret
      exact ⟨rfl, G3.out⟩
    · go_wp2_with fail
      refine C2.out.mono ?_; rintro e w3 ⟨rfl, hF3⟩
      have G3 := Lib.hid (G2.out.and hF3); clear hF3
      go_wp2
      go_ret
      exact ⟨rfl, G3.out⟩
    · go_wp2_with fail
      refine C2.out.mono ?_; rintro e w3 ⟨rfl, hF3⟩
      have G3 := Lib.hid (G2.out.and hF3); clear hF3
      go_wp2
      go_ret
      exact ⟨rfl, G3.out⟩
  · have hl : (1048576 : Int) < bs.length := by omega
    go_enter Try.func9, Try.ntmps9
    go_wp2
    go_ret
    exact ⟨rfl, Fr.refl _ _ _⟩
end Go.Proofs.Ytoedenmimcmkoaa.fnQuestionsUpTo
