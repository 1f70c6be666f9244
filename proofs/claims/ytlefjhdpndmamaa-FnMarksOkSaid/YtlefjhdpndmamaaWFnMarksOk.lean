/-
  For every code the law FnMarksOk of the given program returns true, and the code reads as before. No condition.
-/
import Derived.Test.YtlefjhdpndmamaaMarksE
import Derived.Test.YtlefjhdpndmamaaDrawM2
import Derived.Test.YtlefjhdpndmamaaNum
namespace Go.Proofs.Ytlefjhdpndmamaa.fnMarksOk
open Go.RowKit
theorem shorter {xs : List Int} (h : marksOkB xs = true) : marksOkB (xs.drop 1) = true := by
  simp only [marksOkB, Bool.and_eq_true, decide_eq_true_eq, List.all_eq_true] at *
  exact ⟨fun n hn => h.1 n (List.mem_of_mem_drop hn), by have := h.2; simp; omega⟩
theorem implMarks_nil (a : Option Addr) (c : Nat) (W : World) : Calls Try.prog 22 #[.slice a 0 c] W fun e w' => e = .returned (.bool true) ∧ W = w' :=
  implMarks_val (xs := []) (Sl.nil W a) (by simp) (by decide)
set_option maxHeartbeats 400000 in
theorem walk {w : World} (a : Option Addr) (cap : Nat) (bs : List Int) (hs : Sl w a (bs.map (Value.int .u8))) (hb : ∀ x ∈ bs, 0 ≤ x ∧ x ≤ 255) (hcap : bs.length ≤ cap) :
    Calls Try.prog 9 #[.slice a bs.length cap] w fun e w' => e = .returned (.bool true) ∧ Fr w.heap.size none w w' := by
  have HS : Hid (Sl w a (u8s bs)) := hs
  have HB := Lib.hid hb; clear hs hb
  by_cases hn : bs.length ≤ 1048576
  · go_enter Try.func9, Try.ntmps9
    go_wp2_with fail
    refine (drawMarksOk_any a cap bs _ HS.out HB.out hn hcap).mono ?_; rintro e w1 ⟨va, vc, xs, rfl, ho, hl, _, hF⟩
    have HF := Lib.hid hF
    obtain ⟨_, _, hv, hvc, _⟩ := own_slice ho
    cases hv
    have HO := Lib.hid ho; clear hF ho
    cases h : marksOkB xs
    · have H := Lib.hid h; clear h
      go_wp2_with fail
      refine (implMarks_val (own_sl HO.out) (by omega) H.out).mono ?_; rintro e w' ⟨rfl, rfl⟩
      go_wp2_with fail
      refine (specMarks_val (own_sl HO.out) (by omega) H.out).mono ?_; rintro e w' ⟨rfl, rfl⟩
      go_wp2_with (first | (go_at_call 22; refine (implMarks_nil _ _ _).mono ?_; rintro e w' ⟨rfl, rfl⟩) | (go_at_call 24; refine (alive_any _).mono ?_; rintro e w' ⟨rfl, rfl⟩))
      go_ret
      exact ⟨rfl, HF.out.alloc HF.out.size _⟩
    · by_cases h0 : xs.length = 0
      · have hz : ((xs.length : Int) == 0) = true := by rw [h0]; rfl
        have H := Lib.hid h; clear h h0
        go_wp2_with fail
        refine (implMarks_val (own_sl HO.out) (by omega) H.out).mono ?_; rintro e w' ⟨rfl, rfl⟩
        go_wp2_with fail
        refine (specMarks_val (own_sl HO.out) (by omega) H.out).mono ?_; rintro e w' ⟨rfl, rfl⟩
        go_wp2_with (first | (go_at_call 22; refine (implMarks_nil _ _ _).mono ?_; rintro e w' ⟨rfl, rfl⟩) | (go_at_call 24; refine (alive_any _).mono ?_; rintro e w' ⟨rfl, rfl⟩))
        go_ret
        exact ⟨rfl, HF.out.alloc HF.out.size _⟩
      · have hz : ((xs.length : Int) == 0) = false := by rw [beq_eq_false_iff_ne]; omega
        have hp : 0 < xs.length := by omega
        have hsh := Lib.hid (shorter h)
        have hlen := Lib.hid (show (xs.drop 1).length = xs.length - 1 by simp)
        have H := Lib.hid h; clear h h0
        obtain ⟨g, rfl⟩ : ∃ g, va = some ⟨g, 0, none⟩ := by
          rcases HO.out.2 with ⟨h', h0⟩ | ⟨g, cap', cur, h', _⟩
          · omega
          · simp only [Value.slice.injEq] at h'; exact ⟨g, h'.1⟩
        have hsub : ∀ W b, (b = (⟨g, 0, none⟩ : Addr) ∧ vc = 1 ∨ b = ⟨g, 1, none⟩) → W.ownsRow w.heap.size 3 1 (.slice (some ⟨g, 0, none⟩) xs.length vc) xs.length (ints xs) → Calls Try.prog 22 #[.slice (some b) (xs.length - 1) (vc - 1)] W fun e w' => e = .returned (.bool true) ∧ W = w' := by
          intro W b hb hW
          have := implMarks_val (a := some b) (cap := vc - 1) (xs := xs.drop 1) (w := W) (b := true) ?_ (by rw [hlen.out]; omega) hsh.out
          · rw [hlen.out] at this; exact this
          · intro j hj
            have hj' : j < xs.length - 1 := by rw [ints_length, hlen.out] at hj; exact hj
            rcases hb with ⟨_, h1⟩ | rfl
            · omega
            · obtain ⟨b2, off, e1, e2⟩ := own_sl hW (j + 1) (by rw [ints_length]; omega)
              cases e1
              refine ⟨g, 1, rfl, ?_⟩
              rw [show 1 + j = 0 + (j + 1) by omega, e2]; simp [ints, Nat.add_comm]
        have HSUB := Lib.hid hsub; clear hsub
        by_cases hv1 : vc = 1
        · subst hv1
          go_wp2_with fail
          refine (implMarks_val (own_sl HO.out) (by omega) H.out).mono ?_; rintro e w' ⟨rfl, rfl⟩
          go_wp2_with fail
          refine (specMarks_val (own_sl HO.out) (by omega) H.out).mono ?_; rintro e w' ⟨rfl, rfl⟩
          go_wp2_with fail
          refine (implMarks_nil _ _ _).mono ?_; rintro e w' ⟨rfl, rfl⟩
          go_wp2_with fail
          refine (implMarks_nil _ _ _).mono ?_; rintro e w' ⟨rfl, rfl⟩
          go_wp2_with fail
          refine (alive_any _).mono ?_; rintro e w' ⟨rfl, rfl⟩
          go_wp2
          go_ret
          exact ⟨rfl, HF.out.alloc HF.out.size _⟩
        · go_wp2_with fail
          refine (implMarks_val (own_sl HO.out) (by omega) H.out).mono ?_; rintro e w' ⟨rfl, rfl⟩
          go_wp2_with fail
          refine (specMarks_val (own_sl HO.out) (by omega) H.out).mono ?_; rintro e w' ⟨rfl, rfl⟩
          go_wp2_with fail
          refine (implMarks_nil _ _ _).mono ?_; rintro e w' ⟨rfl, rfl⟩
          go_wp2_with fail
          refine (HSUB.out _ _ (.inr rfl) (HO.out.alloc _)).mono ?_; rintro e w' ⟨rfl, rfl⟩
          go_wp2_with fail
          refine (alive_any _).mono ?_; rintro e w' ⟨rfl, rfl⟩
          go_wp2
          go_ret
          exact ⟨rfl, HF.out.alloc HF.out.size _⟩
  · have hl : (1048576 : Int) < bs.length := by omega
    go_enter Try.func9, Try.ntmps9
    go_wp2
    go_ret
    exact ⟨rfl, Fr.refl _ _ _⟩
end Go.Proofs.Ytlefjhdpndmamaa.fnMarksOk
