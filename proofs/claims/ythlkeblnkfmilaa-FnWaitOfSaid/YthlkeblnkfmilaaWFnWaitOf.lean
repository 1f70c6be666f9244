/-
  For every code the law FnWaitOf of the given program returns true, and the code reads as before. No condition.
-/
import Derived.Test.YthlkeblnkfmilaaDeckA
import Derived.Test.YthlkeblnkfmilaaNum
namespace Go.Proofs.Ythlkeblnkfmilaa.fnWaitOf
open Go.RowKit
theorem next {b : Int} (h : inB b 1 5 = true) (h5 : b ≠ 5) : waitOfZ (b + 1) = 2 * waitOfZ b := by
  rcases five h with rfl | rfl | rfl | rfl | rfl <;> first | decide | omega
theorem walk {w : World} (a : Option Addr) (cap : Nat) (bs : List Int) (hs : Sl w a (bs.map (Value.int .u8))) (hb : ∀ x ∈ bs, 0 ≤ x ∧ x ≤ 255) (hcap : bs.length ≤ cap) :
    Calls Try.prog 3 #[.slice a bs.length cap] w fun e w' => e = .returned (.bool true) ∧ Fr w.heap.size none w w' := by
  have HS : Hid (Sl w a (u8s bs)) := hs
  have HB := Lib.hid hb; clear hs hb
  by_cases hn : bs.length ≤ 1048576
  · go_enter Try.func3, Try.ntmps3
    go_wp2_with fail
    refine (drawWaitOf_any a cap bs _ HS.out HB.out hn hcap).mono ?_; rintro e w1 ⟨r, rfl, hr0, hr6, hF⟩
    have HF := Lib.hid hF; clear hF
    cases h : inB r 1 5
    · have hw : waitOfZ r = -1 := (waitOf_no h).symm
      have h1 := fun W => implWaitOf_any r W
      have h2 := fun W => specWaitOf_any r W
      rw [hw] at h1 h2
      have H1 := Lib.hid h1; have H2 := Lib.hid h2; clear h1 h2 hw h
      go_wp2_with (first | (go_at_call 16; refine (H1.out _).mono ?_; rintro e w' ⟨rfl, rfl⟩) | (go_at_call 17; refine (H2.out _).mono ?_; rintro e w' ⟨rfl, rfl⟩) | (go_at_call 18; refine (alive_any _).mono ?_; rintro e w' ⟨rfl, rfl⟩))
      go_ret
      exact ⟨rfl, HF.out⟩
    · have hone : waitOfZ 1 = 1 := by decide
      have hpos : 1 ≤ waitOfZ r ∧ waitOfZ r ≤ 16 := by rcases five h with rfl | rfl | rfl | rfl | rfl <;> decide
      obtain ⟨hr1, hr5⟩ := inB_true.1 h
      have hnext := @next r h
      have h1 := fun W => implWaitOf_any r W
      have h2 := fun W => specWaitOf_any r W
      have h3 := fun W => implWaitOf_any 1 W
      have h4 := fun W => implWaitOf_any (r + 1) W
      rw [hone] at h3
      have H3 := Lib.hid h3; clear h3 hone h
      by_cases h5 : r = 5
      · have h5' : (r == 5) = true := by rw [beq_iff_eq]; exact h5
        clear h5 h4 hnext
        generalize waitOfZ r = n at *
        obtain ⟨hn1, hn16⟩ := hpos
        have hm1 : (n == -1) = false := by rw [beq_eq_false_iff_ne]; omega
        have H1 := Lib.hid h1; have H2 := Lib.hid h2; clear h1 h2
        go_wp2_with fail
        refine (H1.out _).mono ?_; rintro e w' ⟨rfl, rfl⟩
        go_wp2_with fail
        refine (H2.out _).mono ?_; rintro e w' ⟨rfl, rfl⟩
        go_wp2_with fail
        refine (H3.out _).mono ?_; rintro e w' ⟨rfl, rfl⟩
        go_wp2
        go_ret
        exact ⟨rfl, HF.out⟩
      · have h5' : (r == 5) = false := by rw [beq_eq_false_iff_ne]; exact h5
        rw [hnext h5] at h4
        clear h5 hnext
        generalize waitOfZ r = n at *
        obtain ⟨hn1, hn16⟩ := hpos
        have hm1 : (n == -1) = false := by rw [beq_eq_false_iff_ne]; omega
        have H1 := Lib.hid h1; have H2 := Lib.hid h2; have H4 := Lib.hid h4; clear h1 h2 h4
        go_wp2_with fail
        refine (H1.out _).mono ?_; rintro e w' ⟨rfl, rfl⟩
        go_wp2_with fail
        refine (H2.out _).mono ?_; rintro e w' ⟨rfl, rfl⟩
        go_wp2_with fail
        refine (H3.out _).mono ?_; rintro e w' ⟨rfl, rfl⟩
        go_wp2_with fail
        refine (H4.out _).mono ?_; rintro e w' ⟨rfl, rfl⟩
        go_wp2
        go_ret
        exact ⟨rfl, HF.out⟩
  · have hl : (1048576 : Int) < bs.length := by omega
    go_enter Try.func3, Try.ntmps3
    go_wp2
    go_ret
    exact ⟨rfl, Fr.refl _ _ _⟩
end Go.Proofs.Ythlkeblnkfmilaa.fnWaitOf
