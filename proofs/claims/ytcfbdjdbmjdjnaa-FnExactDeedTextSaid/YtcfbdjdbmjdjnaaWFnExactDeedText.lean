/-
  For all arguments the law FnExactDeedText of the given program returns true, and each argument reads as before. No condition.
-/
import Derived.Test.YtcfbdjdbmjdjnaaDeedB
import Derived.Test.YtcfbdjdbmjdjnaaDeedT
namespace Go.Proofs.Ytcfbdjdbmjdjnaa.fnExactDeedText
open Go.RowKit
set_option maxHeartbeats 2000000 in
theorem walk {w : World} (y0 : Dd) (hb0 : big y0.2) :
    Calls Try.prog 3 #[.agg #[.bool y0.1, .string y0.2.1, .string y0.2.2.1, .string y0.2.2.2]] w fun e w' => e = .returned (.bool true) ∧ Fr w.heap.size none w w' := by
  go_enter Try.func3, Try.ntmps3
  go_wp2_with fail
  obtain ⟨w0, hw0⟩ : ∃ w0, w0 = w.alloc (.cells #[.bool y0.1, .string y0.2.1, .string y0.2.2.1, .string y0.2.2.2] 25) := ⟨_, rfl⟩
  have G00 := Lib.hid (show Fr w.heap.size none w w0 by rw [hw0]; exact (Fr.refl _ _ _).alloc (Nat.le_refl _) _)
  have Q0 := Lib.hid (show w0.cell? ⟨w.heap.size, 0, none⟩ = some (.bool y0.1) by rw [hw0]; go_simp)
  have Q1 := Lib.hid (show w0.cell? ⟨w.heap.size, 1, none⟩ = some (.string y0.2.1) by rw [hw0]; go_simp)
  have Q2 := Lib.hid (show w0.cell? ⟨w.heap.size, 2, none⟩ = some (.string y0.2.2.1) by rw [hw0]; go_simp)
  have Q3 := Lib.hid (show w0.cell? ⟨w.heap.size, 3, none⟩ = some (.string y0.2.2.2) by rw [hw0]; go_simp)
  have hbx : w.heap.size < w0.heap.size := by rw [hw0]; simp
  rw [← hw0]
  clear hw0
  have z0 : w0.heap.size ≤ w0.heap.size := Nat.le_refl _
  have q0_ := ((Fr.refl w0.heap.size none w0).cell (p := ⟨w.heap.size, 0, none⟩) hbx (by simp)).trans Q0.out
  have q1_ := ((Fr.refl w0.heap.size none w0).cell (p := ⟨w.heap.size, 1, none⟩) hbx (by simp)).trans Q1.out
  have q2_ := ((Fr.refl w0.heap.size none w0).cell (p := ⟨w.heap.size, 2, none⟩) hbx (by simp)).trans Q2.out
  have q3_ := ((Fr.refl w0.heap.size none w0).cell (p := ⟨w.heap.size, 3, none⟩) hbx (by simp)).trans Q3.out
  clear q0_ q1_ q2_ q3_
  refine (szDeed_any y0 1048576 _ (by omega) (by omega) hb0).mono ?_; rintro e w1 ⟨⟨l0, rfl, hl0⟩, F1⟩
  have z1 := F1.size
  have G1 := Lib.hid ((Fr.refl w0.heap.size none w0).and F1)
  clear F1
  rcases hl0 with rfl | ⟨l0a, l0b, hsm0_⟩
  · go_wp2
    go_ret
    exact ⟨rfl, G00.out.and G1.out⟩
  have hsm0 := Lib.hid hsm0_; clear hsm0_
  have q0_ := (G1.out.cell (p := ⟨w.heap.size, 0, none⟩) hbx (by simp)).trans Q0.out
  have q1_ := (G1.out.cell (p := ⟨w.heap.size, 1, none⟩) hbx (by simp)).trans Q1.out
  have q2_ := (G1.out.cell (p := ⟨w.heap.size, 2, none⟩) hbx (by simp)).trans Q2.out
  have q3_ := (G1.out.cell (p := ⟨w.heap.size, 3, none⟩) hbx (by simp)).trans Q3.out
  go_wp2_with fail
  clear q0_ q1_ q2_ q3_
  refine (toDeed_any y0 _).mono ?_; rintro e w2 ⟨rfl, F2⟩
  have z2 := F2.size
  have G2 := Lib.hid (G1.out.and F2)
  clear F2
  go_wp2_with fail
  refine (specDeedText_any y0 _ hsm0.out).mono ?_; rintro e w3 ⟨rfl, F3⟩
  have z3 := F3.size
  have G3 := Lib.hid (G2.out.and F3)
  clear F3
  have q0_ := (G3.out.cell (p := ⟨w.heap.size, 0, none⟩) hbx (by simp)).trans Q0.out
  have q1_ := (G3.out.cell (p := ⟨w.heap.size, 1, none⟩) hbx (by simp)).trans Q1.out
  have q2_ := (G3.out.cell (p := ⟨w.heap.size, 2, none⟩) hbx (by simp)).trans Q2.out
  have q3_ := (G3.out.cell (p := ⟨w.heap.size, 3, none⟩) hbx (by simp)).trans Q3.out
  go_wp2_with fail
  clear q0_ q1_ q2_ q3_
  refine (toDeed_any y0 _).mono ?_; rintro e w4 ⟨rfl, F4⟩
  have z4 := F4.size
  have G4 := Lib.hid (G3.out.and F4)
  clear F4
  go_wp2_with fail
  refine (implDeedText_any y0 _ hsm0.out).mono ?_; rintro e w5 ⟨rfl, F5⟩
  have z5 := F5.size
  have G5 := Lib.hid (G4.out.and F5)
  clear F5
  go_wp2
  go_ret
  exact ⟨rfl, G00.out.and G5.out⟩
end Go.Proofs.Ytcfbdjdbmjdjnaa.fnExactDeedText
