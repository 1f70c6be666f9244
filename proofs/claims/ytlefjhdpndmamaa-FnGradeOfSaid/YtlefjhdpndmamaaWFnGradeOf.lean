/-
  For every code the law FnGradeOf of the given program returns true, and the code reads as before. No condition.
-/
import Derived.Test.YtlefjhdpndmamaaMarksD
import Derived.Test.YtlefjhdpndmamaaDrawM2
import Derived.Test.YtlefjhdpndmamaaNum
namespace Go.Proofs.Ytlefjhdpndmamaa.fnGradeOf
open Go.RowKit
theorem fewer (xs : List Int) (m : Int) : aboveN xs (m + 1) ≤ aboveN xs m := by
  unfold aboveN
  exact List.countP_mono_left (fun x _ h => by simp at h ⊢; omega)
theorem noneAbove {xs : List Int} (h : boundsOkB xs = true) : aboveN xs 100 = 0 := by
  simp only [boundsOkB, Bool.and_eq_true, boundsTo, allTo_iff] at h
  unfold aboveN
  rw [List.countP_eq_zero]
  intro x hx
  obtain ⟨k, hk, rfl⟩ := List.getElem_of_mem hx
  have := h.1 k hk
  simp only [bOk, Bool.and_eq_true, inB_true, List.getD_eq_getElem?_getD, List.getElem?_eq_getElem hk, Option.getD_some] at this
  simp; omega
theorem walk {w : World} (a : Option Addr) (cap : Nat) (bs : List Int) (hs : Sl w a (bs.map (Value.int .u8))) (hb : ∀ x ∈ bs, 0 ≤ x ∧ x ≤ 255) (hcap : bs.length ≤ cap) :
    Calls Try.prog 12 #[.slice a bs.length cap] w fun e w' => e = .returned (.bool true) ∧ Fr w.heap.size none w w' := by
  have HS : Hid (Sl w a (u8s bs)) := hs
  have HB := Lib.hid hb; clear hs hb
  by_cases hn : bs.length ≤ 1048576
  · go_enter Try.func12, Try.ntmps12
    go_wp2_with fail
    refine (drawGradeOf_any a cap bs _ HS.out HB.out hn hcap).mono ?_; rintro e w1 ⟨va, vc, xs, m, rfl, ho, hl, hm0, hm1, hF⟩
    have HF := Lib.hid hF
    have HO := Lib.hid ho; clear hF ho
    by_cases hok : boundsOkB xs = true ∧ inB m 0 100 = true
    · obtain ⟨h1, h2⟩ := hok
      have hm := inB_true.1 h2
      have p1 := fun W hs => implGradeOf_any va vc xs m W hs (by omega)
      have p2 := fun W hs => specGradeOf_any va vc xs m W hs (by omega)
      have p3 := fun W hs => implGradeOf_any va vc xs 100 W hs (by omega)
      rw [← gradeOf_yes h1 h2] at p1 p2
      rw [← gradeOf_yes h1 (by decide), noneAbove h1] at p3
      have hle := aboveN_le xs m
      have P1 := Lib.hid p1; have P2 := Lib.hid p2; have P3 := Lib.hid p3; clear p1 p2 p3
      obtain ⟨hma, hmb⟩ := hm
      by_cases h100 : m = 100
      · subst h100
        clear h1 h2
        generalize aboveN xs 100 = n at *
        go_wp2_with fail
        refine (P1.out _ (own_sl HO.out)).mono ?_; rintro e w' ⟨rfl, rfl⟩
        go_wp2_with fail
        refine (P2.out _ (own_sl HO.out)).mono ?_; rintro e w' ⟨rfl, q, rfl⟩
        go_wp2_with fail
        refine (P3.out _ ((own_sl HO.out).drewN q)).mono ?_; rintro e w' ⟨rfl, rfl⟩
        go_wp2
        go_ret
        exact ⟨rfl, HF.out.drewN q⟩
      · have p4 := fun W hs => implGradeOf_any va vc xs (m + 1) W hs (by omega)
        rw [← gradeOf_yes h1 (inB_true.2 ⟨by omega, by omega⟩)] at p4
        have P4 := Lib.hid p4; clear p4
        have hfew := fewer xs m
        have hz : (m == 100) = false := by rw [beq_eq_false_iff_ne]; exact h100
        clear h1 h2 h100
        generalize aboveN xs m = n at *
        generalize aboveN xs (m + 1) = n2 at *
        go_wp2_with fail
        refine (P1.out _ (own_sl HO.out)).mono ?_; rintro e w' ⟨rfl, rfl⟩
        go_wp2_with fail
        refine (P2.out _ (own_sl HO.out)).mono ?_; rintro e w' ⟨rfl, q, rfl⟩
        go_wp2_with fail
        refine (P4.out _ ((own_sl HO.out).drewN q)).mono ?_; rintro e w' ⟨rfl, rfl⟩
        go_wp2_with fail
        refine (P3.out _ ((own_sl HO.out).drewN q)).mono ?_; rintro e w' ⟨rfl, rfl⟩
        go_wp2
        go_ret
        exact ⟨rfl, HF.out.drewN q⟩
    · have hz : gradeOfZ xs m = -1 := by
        cases h1 : boundsOkB xs
        · exact (gradeOf_no1 h1).symm
        · cases h2 : inB m 0 100
          · exact (gradeOf_no2 h2).symm
          · exact absurd ⟨h1, h2⟩ hok
      have p1 := fun W hs => implGradeOf_any va vc xs m W hs (by omega)
      have p2 := fun W hs => specGradeOf_any va vc xs m W hs (by omega)
      rw [hz] at p1 p2
      have P1 := Lib.hid p1; have P2 := Lib.hid p2; clear p1 p2 hz hok
      go_wp2_with fail
      refine (P1.out _ (own_sl HO.out)).mono ?_; rintro e w' ⟨rfl, rfl⟩
      go_wp2_with fail
      refine (P2.out _ (own_sl HO.out)).mono ?_; rintro e w' ⟨rfl, q, rfl⟩
      go_wp2_with (go_at_call 24; refine (alive_any _).mono ?_; rintro e w' ⟨rfl, rfl⟩)
      go_ret
      exact ⟨rfl, HF.out.drewN q⟩
  · have hl : (1048576 : Int) < bs.length := by omega
    go_enter Try.func12, Try.ntmps12
    go_wp2
    go_ret
    exact ⟨rfl, Fr.refl _ _ _⟩
end Go.Proofs.Ytlefjhdpndmamaa.fnGradeOf
