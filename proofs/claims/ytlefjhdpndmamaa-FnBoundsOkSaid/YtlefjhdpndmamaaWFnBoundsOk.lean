/-
  For every code the law FnBoundsOk of the given program returns true, and the code reads as before. No condition.
-/
import Derived.Test.YtlefjhdpndmamaaMarksD
import Derived.Test.YtlefjhdpndmamaaDrawM2
import Derived.Test.YtlefjhdpndmamaaNum
namespace Go.Proofs.Ytlefjhdpndmamaa.fnBoundsOk
open Go.RowKit
theorem shorter {xs : List Int} (h : boundsOkB xs = true) (n : Nat) : boundsOkB (xs.take n) = true := by
  simp only [boundsOkB, Bool.and_eq_true, decide_eq_true_eq, boundsTo, allTo_iff] at *
  refine ⟨fun k hk => ?_, by have := h.2; simp; omega⟩
  have hk' : k < n ∧ k < xs.length := by simp at hk; omega
  have := h.1 k hk'.2
  simp only [bOk, List.getD_eq_getElem?_getD, List.getElem?_take] at *
  rw [if_pos hk'.1, if_pos (by omega : k - 1 < n)]
  exact this
theorem implBounds_nil (a : Option Addr) (c : Nat) (W : World) : Calls Try.prog 19 #[.slice a 0 c] W fun e w' => e = .returned (.bool true) ∧ W = w' :=
  implBounds_val (xs := []) (Sl.nil W a) (by simp) (by decide)
theorem walk {w : World} (a : Option Addr) (cap : Nat) (bs : List Int) (hs : Sl w a (bs.map (Value.int .u8))) (hb : ∀ x ∈ bs, 0 ≤ x ∧ x ≤ 255) (hcap : bs.length ≤ cap) :
    Calls Try.prog 8 #[.slice a bs.length cap] w fun e w' => e = .returned (.bool true) ∧ Fr w.heap.size none w w' := by
  have HS : Hid (Sl w a (u8s bs)) := hs
  have HB := Lib.hid hb; clear hs hb
  by_cases hn : bs.length ≤ 1048576
  · go_enter Try.func8, Try.ntmps8
    go_wp2_with fail
    refine (drawBoundsOk_any a cap bs _ HS.out HB.out hn hcap).mono ?_; rintro e w1 ⟨va, vc, xs, rfl, ho, hl, _, hF⟩
    have HF := Lib.hid hF
    obtain ⟨_, _, hv, hvc, _⟩ := own_slice ho
    cases hv
    have HO := Lib.hid ho; clear hF ho
    cases h : boundsOkB xs
    · have H := Lib.hid h; clear h
      go_wp2_with fail
      refine (implBounds_val (own_sl HO.out) (by omega) H.out).mono ?_; rintro e w' ⟨rfl, rfl⟩
      go_wp2_with fail
      refine (specBounds_val (own_sl HO.out) (by omega) H.out).mono ?_; rintro e w' ⟨rfl, m, rfl⟩
      go_wp2_with (first | (go_at_call 19; refine (implBounds_nil _ _ _).mono ?_; rintro e w' ⟨rfl, rfl⟩) | (go_at_call 24; refine (alive_any _).mono ?_; rintro e w' ⟨rfl, rfl⟩))
      go_ret
      exact ⟨rfl, (HF.out.drewN m).alloc HF.out.size _⟩
    · by_cases h0 : xs.length = 0
      · have hz : ((xs.length : Int) == 0) = true := by rw [h0]; rfl
        have H := Lib.hid h; clear h h0
        go_wp2_with fail
        refine (implBounds_val (own_sl HO.out) (by omega) H.out).mono ?_; rintro e w' ⟨rfl, rfl⟩
        go_wp2_with fail
        refine (specBounds_val (own_sl HO.out) (by omega) H.out).mono ?_; rintro e w' ⟨rfl, m, rfl⟩
        go_wp2_with (first | (go_at_call 19; refine (implBounds_nil _ _ _).mono ?_; rintro e w' ⟨rfl, rfl⟩) | (go_at_call 24; refine (alive_any _).mono ?_; rintro e w' ⟨rfl, rfl⟩))
        go_ret
        exact ⟨rfl, (HF.out.drewN m).alloc HF.out.size _⟩
      · have hz : ((xs.length : Int) == 0) = false := by rw [beq_eq_false_iff_ne]; omega
        have hp : 0 < xs.length := by omega
        have hsh := Lib.hid (shorter h (xs.length - 1))
        have hlen := Lib.hid (show (xs.take (xs.length - 1)).length = xs.length - 1 by rw [List.length_take]; omega)
        have H := Lib.hid h; clear h h0
        obtain ⟨g, rfl⟩ : ∃ g, va = some ⟨g, 0, none⟩ := by
          rcases HO.out.2 with ⟨h', h0⟩ | ⟨g, cap', cur, h', _⟩
          · omega
          · simp only [Value.slice.injEq] at h'; exact ⟨g, h'.1⟩
        have hsub : ∀ W, W.ownsRow w.heap.size 3 1 (.slice (some ⟨g, 0, none⟩) xs.length vc) xs.length (ints xs) → Calls Try.prog 19 #[.slice (some ⟨g, 0, none⟩) (xs.length - 1) vc] W fun e w' => e = .returned (.bool true) ∧ W = w' := by
          intro W hW
          have := implBounds_val (a := some ⟨g, 0, none⟩) (cap := vc) (xs := xs.take (xs.length - 1)) (w := W) (b := true) ?_ (by rw [hlen.out]; omega) hsh.out
          · rw [hlen.out] at this; exact this
          · intro j hj
            have hj' : j < xs.length - 1 := by rw [ints_length, hlen.out] at hj; exact hj
            obtain ⟨b, off, e1, e2⟩ := own_sl hW j (by rw [ints_length]; omega)
            exact ⟨b, off, e1, by rw [e2]; simp [ints]⟩
        have HSUB := Lib.hid hsub; clear hsub
        go_wp2_with fail
        refine (implBounds_val (own_sl HO.out) (by omega) H.out).mono ?_; rintro e w' ⟨rfl, rfl⟩
        go_wp2_with fail
        refine (specBounds_val (own_sl HO.out) (by omega) H.out).mono ?_; rintro e w' ⟨rfl, m, rfl⟩
        go_wp2_with fail
        refine (implBounds_nil _ _ _).mono ?_; rintro e w' ⟨rfl, rfl⟩
        go_wp2_with fail
        refine (HSUB.out _ ((own_drewN HO.out m).alloc _)).mono ?_; rintro e w' ⟨rfl, rfl⟩
        go_wp2_with fail
        refine (alive_any _).mono ?_; rintro e w' ⟨rfl, rfl⟩
        go_wp2
        go_ret
        exact ⟨rfl, (HF.out.drewN m).alloc HF.out.size _⟩
  · have hl : (1048576 : Int) < bs.length := by omega
    go_enter Try.func8, Try.ntmps8
    go_wp2
    go_ret
    exact ⟨rfl, Fr.refl _ _ _⟩
end Go.Proofs.Ytlefjhdpndmamaa.fnBoundsOk
