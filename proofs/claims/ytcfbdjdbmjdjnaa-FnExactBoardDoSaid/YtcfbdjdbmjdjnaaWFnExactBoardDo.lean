/-
  For all arguments the law FnExactBoardDo of the given program returns true, and each argument reads as before. No condition.
-/
import Derived.Test.YtcfbdjdbmjdjnaaTestF
import Derived.Test.YtcfbdjdbmjdjnaaDeedB
import Derived.Test.YtcfbdjdbmjdjnaaBoardB
namespace Go.Proofs.Ytcfbdjdbmjdjnaa.fnExactBoardDo
open Go.RowKit
set_option maxHeartbeats 2000000 in
theorem walk {w : World} (a0 : Option Addr) (c0 : Nat) (x0 : List Tst) (hs0 : Sl w a0 (tests x0)) (hb0 : x0.length ≤ 9223372036854775807 ∧ Big x0) (y1 : Dd) (hb1 : big y1.2) :
    Calls Try.prog 7 #[.slice a0 x0.length c0, .agg #[.bool y1.1, .string y1.2.1, .string y1.2.2.1, .string y1.2.2.2]] w fun e w' => e = .returned (.bool true) ∧ Fr w.heap.size none w w' := by
  have HS0 : Hid (Sl w a0 (tests x0)) := hs0
  clear hs0
  go_enter Try.func7, Try.ntmps7
  go_wp2_with fail
  obtain ⟨w0, hw0⟩ : ∃ w0, w0 = w.alloc (.cells #[.bool y1.1, .string y1.2.1, .string y1.2.2.1, .string y1.2.2.2] 25) := ⟨_, rfl⟩
  have G00 := Lib.hid (show Fr w.heap.size none w w0 by rw [hw0]; exact (Fr.refl _ _ _).alloc (Nat.le_refl _) _)
  have Q0 := Lib.hid (show w0.cell? ⟨w.heap.size, 0, none⟩ = some (.bool y1.1) by rw [hw0]; go_simp)
  have Q1 := Lib.hid (show w0.cell? ⟨w.heap.size, 1, none⟩ = some (.string y1.2.1) by rw [hw0]; go_simp)
  have Q2 := Lib.hid (show w0.cell? ⟨w.heap.size, 2, none⟩ = some (.string y1.2.2.1) by rw [hw0]; go_simp)
  have Q3 := Lib.hid (show w0.cell? ⟨w.heap.size, 3, none⟩ = some (.string y1.2.2.2) by rw [hw0]; go_simp)
  have hbx : w.heap.size < w0.heap.size := by rw [hw0]; simp
  have HS0 := Lib.hid (HS0.out.fr G00.out)
  rw [← hw0]
  clear hw0
  have z0 : w0.heap.size ≤ w0.heap.size := Nat.le_refl _
  refine (szTestS_any a0 c0 x0 1048576 _ (HS0.out.fr (Fr.refl w0.heap.size none w0)) hb0.1 hb0.2 (by omega) (by omega)).mono ?_; rintro e w1 ⟨⟨l0, rfl, hl0⟩, F1⟩
  have z1 := F1.size
  have G1 := Lib.hid ((Fr.refl w0.heap.size none w0).and F1)
  clear F1
  rcases hl0 with rfl | ⟨l0a, l0b, hn0, hsm0_⟩
  · go_wp2
    go_ret
    exact ⟨rfl, G00.out.and G1.out⟩
  have hsm0 := Lib.hid hsm0_; clear hsm0_
  have q0_ := (G1.out.cell (p := ⟨w.heap.size, 0, none⟩) hbx (by simp)).trans Q0.out
  have q1_ := (G1.out.cell (p := ⟨w.heap.size, 1, none⟩) hbx (by simp)).trans Q1.out
  have q2_ := (G1.out.cell (p := ⟨w.heap.size, 2, none⟩) hbx (by simp)).trans Q2.out
  have q3_ := (G1.out.cell (p := ⟨w.heap.size, 3, none⟩) hbx (by simp)).trans Q3.out
  go_wp2_with fail
  clear q0_ q1_ q2_ q3_
  refine (szDeed_any y1 l0 _ (by omega) (by omega) hb1).mono ?_; rintro e w2 ⟨⟨l1, rfl, hl1⟩, F2⟩
  have z2 := F2.size
  have G2 := Lib.hid (G1.out.and F2)
  clear F2
  rcases hl1 with rfl | ⟨l1a, l1b, hsm1_⟩
  · go_wp2
    go_ret
    exact ⟨rfl, G00.out.and G2.out⟩
  have hsm1 := Lib.hid hsm1_; clear hsm1_
  have hR0 : ((boardDoI x0 y1).1).length ≤ 1048576 := boardDo_le hn0
  go_wp2_with fail
  have q0_ := (G2.out.cell (p := ⟨w.heap.size, 0, none⟩) hbx (by simp)).trans Q0.out
  have q1_ := (G2.out.cell (p := ⟨w.heap.size, 1, none⟩) hbx (by simp)).trans Q1.out
  have q2_ := (G2.out.cell (p := ⟨w.heap.size, 2, none⟩) hbx (by simp)).trans Q2.out
  have q3_ := (G2.out.cell (p := ⟨w.heap.size, 3, none⟩) hbx (by simp)).trans Q3.out
  go_region_held3 (fun w' => w'.cell? ⟨w.heap.size, 0, none⟩ = some (.bool y1.1) ∧ w'.cell? ⟨w.heap.size, 1, none⟩ = some (.string y1.2.1) ∧ w'.cell? ⟨w.heap.size, 2, none⟩ = some (.string y1.2.2.1) ∧ w'.cell? ⟨w.heap.size, 3, none⟩ = some (.string y1.2.2.2))
    (first
      | go_keep
      | (go_split_ands; refine ⟨?_, ?_, ?_, ?_⟩ <;> (rw [F3.cell (Nat.lt_of_lt_of_le hbx (G2.out).size) (by simp)]; assumption))
      | (go_split_ands; refine ⟨?_, ?_, ?_, ?_⟩ <;> (rw [F4.cell (Nat.lt_of_lt_of_le hbx (G2.out).size) (by simp)]; assumption))
      | (go_split_ands; refine ⟨?_, ?_, ?_, ?_⟩ <;> (rw [F4.cell (Nat.lt_of_lt_of_le hbx (Nat.le_trans (G2.out).size F3.size)) (by simp)]; assumption))
      | (go_split_ands; refine ⟨?_, ?_, ?_, ?_⟩ <;> (rw [F3.cell (Nat.lt_of_lt_of_le hbx (Nat.le_trans (G2.out).size F4.size)) (by simp)]; assumption))
      | (go_split_ands; refine ⟨?_, ?_, ?_, ?_⟩ <;> (rw [F5.cell (Nat.lt_of_lt_of_le hbx (Nat.le_trans (Nat.le_trans (G2.out).size F3.size) F4.size)) (by simp)]; assumption))
      | (go_split_ands; refine ⟨?_, ?_, ?_, ?_⟩ <;> (rw [F5.cell (Nat.lt_of_lt_of_le hbx (Nat.le_trans (Nat.le_trans (G2.out).size F4.size) F3.size)) (by simp)]; assumption)))
    (first
      | (go_at_call 16; refine (toTestS_any a0 c0 x0 _ (by first | exact HS0.out.fr (G2.out).drew | exact HS0.out.fr ((G2.out).drew.and F4)) hn0).mono ?_; rintro e w3 ⟨gp0, rfl, o_, F3⟩)
      | (go_at_call 12; refine (toDeed_any y1 _).mono ?_; rintro e w4 ⟨rfl, F4⟩)
      | (go_at_call 26; refine (specBoardDo_any _ _ x0 y1 _ (by first | exact Own.sl (Own.keep (Own.of o_) F4) | exact Own.sl (Own.of o_)) hn0 hsm0.out hsm1.out (by simp)).mono ?_; rintro e w5 ⟨vas0, vcs0, rfl, os_, F5⟩))
  all_goals
    have G5 := Lib.hid (show Fr w0.heap.size none w0 w5 by first | exact (((G2.out).drew.and F3).and F4).and F5 | exact (((G2.out).drew.and F4).and F3).and F5)
    have z5 : w2.heap.size ≤ w5.heap.size := by first | exact Nat.le_trans (Nat.le_trans F3.size F4.size) F5.size | exact Nat.le_trans (Nat.le_trans F4.size F3.size) F5.size
    have os_ := Own.base_le (base' := w0.heap.size) os_ (by first | exact Nat.le_trans (Nat.le_trans (G2.out).size F3.size) F4.size | exact Nat.le_trans (Nat.le_trans (G2.out).size F4.size) F3.size)
    have Ls0 := Lib.hid (Own.lt os_)
    have Os0_5 := Lib.hid os_
    clear os_ o_ F3 F4 F5 q0_ q1_ q2_ q3_
    go_wp2_with fail
    refine (toTestS_any a0 c0 x0 _ (HS0.out.fr G5.out) hn0).mono ?_; rintro e w6 ⟨gx0, rfl, o_, F6⟩
    have z6 := F6.size
    have Os0_6 := Lib.hid (Own.keep Os0_5.out F6)
    have G6 := Lib.hid (G5.out.and F6)
    clear F6
    have o_ := Own.of o_
    have Lx0 := Lib.hid (Own.lt o_)
    have Ox0_6 := Lib.hid o_; clear o_
    have q0_ := (G6.out.cell (p := ⟨w.heap.size, 0, none⟩) hbx (by simp)).trans Q0.out
    have q1_ := (G6.out.cell (p := ⟨w.heap.size, 1, none⟩) hbx (by simp)).trans Q1.out
    have q2_ := (G6.out.cell (p := ⟨w.heap.size, 2, none⟩) hbx (by simp)).trans Q2.out
    have q3_ := (G6.out.cell (p := ⟨w.heap.size, 3, none⟩) hbx (by simp)).trans Q3.out
    go_wp2_with fail
    clear q0_ q1_ q2_ q3_
    refine (toDeed_any y1 _).mono ?_; rintro e w7 ⟨rfl, F7⟩
    have z7 := F7.size
    have Os0_7 := Lib.hid (Own.keep Os0_6.out F7)
    have Ox0_7 := Lib.hid (Own.keep Ox0_6.out F7)
    have G7 := Lib.hid (G6.out.and F7)
    clear F7
    go_wp2_with fail
    refine (implBoardDo_any _ _ x0 y1 _ (Own.sl Ox0_7.out) hn0 hsm0.out hsm1.out (Nat.le_refl _)).mono ?_; rintro e w8 ⟨var0, vcr0, rfl, o_, F8⟩
    have z8 := F8.size
    have Os0_8 := Lib.hid (Own.keep Os0_7.out F8)
    have Ox0_8 := Lib.hid (Own.keep Ox0_7.out F8)
    have G8 := Lib.hid (G7.out.and F8)
    clear F8
    have Lr0 := Lib.hid (Own.lt o_)
    have Or0_8 := Lib.hid o_; clear o_
    go_wp2_with fail
    refine (eqTestS_any _ _ _ _ ((boardDoI x0 y1).1) _ (Own.sl Or0_8.out) (Own.sl Os0_8.out) hR0).mono ?_; rintro e w9 ⟨rfl, F9⟩
    have z9 := F9.size
    have Os0_9 := Lib.hid (Own.keep Os0_8.out F9)
    have Ox0_9 := Lib.hid (Own.keep Ox0_8.out F9)
    have Or0_9 := Lib.hid (Own.keep Or0_8.out F9)
    have G9 := Lib.hid (G8.out.and F9)
    clear F9
    go_wp2_with fail
    refine (toTestS_any a0 c0 x0 _ (HS0.out.fr G9.out) hn0).mono ?_; rintro e w10 ⟨gt0, rfl, o_, F10⟩
    have z10 := F10.size
    have Os0_10 := Lib.hid (Own.keep Os0_9.out F10)
    have Ox0_10 := Lib.hid (Own.keep Ox0_9.out F10)
    have Or0_10 := Lib.hid (Own.keep Or0_9.out F10)
    have G10 := Lib.hid (G9.out.and F10)
    clear F10
    have o_ := Own.of o_
    have Lt0 := Lib.hid (Own.lt o_)
    have Ot0_10 := Lib.hid o_; clear o_
    go_wp2_with fail
    refine (eqTestS_any _ _ _ _ (x0) _ (Own.sl Ox0_10.out) (Own.sl Ot0_10.out) hn0).mono ?_; rintro e w11 ⟨rfl, F11⟩
    have z11 := F11.size
    have Os0_11 := Lib.hid (Own.keep Os0_10.out F11)
    have Ox0_11 := Lib.hid (Own.keep Ox0_10.out F11)
    have Or0_11 := Lib.hid (Own.keep Or0_10.out F11)
    have Ot0_11 := Lib.hid (Own.keep Ot0_10.out F11)
    have G11 := Lib.hid (G10.out.and F11)
    clear F11
    go_wp2_with fail
    refine (markTestS_any _ _ (x0) (1) _ _ Ox0_11.out hn0 (by omega) (by omega)).mono ?_; rintro e w12 ⟨rfl, o_, F12⟩
    have z12 := F12.size
    have Os0_12 := Lib.hid (Own.frB Os0_11.out F12 (apart Ls0.out Lx0.out (by omega) (by omega)))
    have Ox0_12 := Lib.hid o_; clear o_
    have Or0_12 := Lib.hid (Own.frB Or0_11.out F12 (apart Lr0.out Lx0.out (by omega) (by omega)))
    have G12 := Lib.hid (mark_up G11.out F12 Lx0.out (by omega) (by omega))
    clear F12
    go_wp2_with fail
    refine (eqTestS_any _ _ _ _ ((boardDoI x0 y1).1) _ (Own.sl Or0_12.out) (Own.sl Os0_12.out) hR0).mono ?_; rintro e w13 ⟨rfl, F13⟩
    have z13 := F13.size
    have Os0_13 := Lib.hid (Own.keep Os0_12.out F13)
    have Ox0_13 := Lib.hid (Own.keep Ox0_12.out F13)
    have Or0_13 := Lib.hid (Own.keep Or0_12.out F13)
    have G13 := Lib.hid (G12.out.and F13)
    clear F13
    go_wp2_with fail
    refine (markTestS_any _ _ ((boardDoI x0 y1).1) (1) _ _ Or0_13.out hR0 (by omega) (by omega)).mono ?_; rintro e w14 ⟨rfl, o_, F14⟩
    have z14 := F14.size
    have Os0_14 := Lib.hid (Own.frB Os0_13.out F14 (apart Ls0.out Lr0.out (by omega) (by omega)))
    have Or0_14 := Lib.hid o_; clear o_
    have G14 := Lib.hid (mark_up G13.out F14 Lr0.out (by omega) (by omega))
    clear F14
    go_wp2_with fail
    refine (heldTestS_any _ _ (((boardDoI x0 y1).1).length) (1) _ (Own.sl Or0_14.out) hR0 (by omega) (by omega)).mono ?_; rintro e w15 ⟨rfl, F15⟩
    have z15 := F15.size
    have Os0_15 := Lib.hid (Own.keep Os0_14.out F15)
    have Or0_15 := Lib.hid (Own.keep Or0_14.out F15)
    have G15 := Lib.hid (G14.out.and F15)
    clear F15
    go_wp2_with fail
    have q0_ := (G15.out.cell (p := ⟨w.heap.size, 0, none⟩) hbx (by simp)).trans Q0.out
    have q1_ := (G15.out.cell (p := ⟨w.heap.size, 1, none⟩) hbx (by simp)).trans Q1.out
    have q2_ := (G15.out.cell (p := ⟨w.heap.size, 2, none⟩) hbx (by simp)).trans Q2.out
    have q3_ := (G15.out.cell (p := ⟨w.heap.size, 3, none⟩) hbx (by simp)).trans Q3.out
    go_region_held3 (fun w' => w'.cell? ⟨w.heap.size, 0, none⟩ = some (.bool y1.1) ∧ w'.cell? ⟨w.heap.size, 1, none⟩ = some (.string y1.2.1) ∧ w'.cell? ⟨w.heap.size, 2, none⟩ = some (.string y1.2.2.1) ∧ w'.cell? ⟨w.heap.size, 3, none⟩ = some (.string y1.2.2.2))
      (first
        | go_keep
        | (go_split_ands; refine ⟨?_, ?_, ?_, ?_⟩ <;> (rw [F16.cell (Nat.lt_of_lt_of_le hbx (G15.out).size) (by simp)]; assumption))
        | (go_split_ands; refine ⟨?_, ?_, ?_, ?_⟩ <;> (rw [F17.cell (Nat.lt_of_lt_of_le hbx (G15.out).size) (by simp)]; assumption))
        | (go_split_ands; refine ⟨?_, ?_, ?_, ?_⟩ <;> (rw [F17.cell (Nat.lt_of_lt_of_le hbx (Nat.le_trans (G15.out).size F16.size)) (by simp)]; assumption))
        | (go_split_ands; refine ⟨?_, ?_, ?_, ?_⟩ <;> (rw [F16.cell (Nat.lt_of_lt_of_le hbx (Nat.le_trans (G15.out).size F17.size)) (by simp)]; assumption))
        | (go_split_ands; refine ⟨?_, ?_, ?_, ?_⟩ <;> (rw [F18.cell (Nat.lt_of_lt_of_le hbx (Nat.le_trans (Nat.le_trans (G15.out).size F16.size) F17.size)) (by simp)]; assumption))
        | (go_split_ands; refine ⟨?_, ?_, ?_, ?_⟩ <;> (rw [F18.cell (Nat.lt_of_lt_of_le hbx (Nat.le_trans (Nat.le_trans (G15.out).size F17.size) F16.size)) (by simp)]; assumption)))
      (first
        | (go_at_call 16; refine (toTestS_any a0 c0 x0 _ (by first | exact HS0.out.fr (G15.out).drew | exact HS0.out.fr ((G15.out).drew.and F17)) hn0).mono ?_; rintro e w16 ⟨gp0, rfl, o_, F16⟩)
        | (go_at_call 12; refine (toDeed_any y1 _).mono ?_; rintro e w17 ⟨rfl, F17⟩)
        | (go_at_call 27; refine (implBoardDo_any _ _ x0 y1 _ (by first | exact Own.sl (Own.keep (Own.of o_) F17) | exact Own.sl (Own.of o_)) hn0 hsm0.out hsm1.out (Nat.le_refl _)).mono ?_; rintro e w18 ⟨vau0, vcu0, rfl, os_, F18⟩))
    all_goals
      have G18 := Lib.hid (show Fr w0.heap.size none w0 w18 by first | exact (((G15.out).drew.and F16).and F17).and F18 | exact (((G15.out).drew.and F17).and F16).and F18)
      have z18 : w15.heap.size ≤ w18.heap.size := by first | exact Nat.le_trans (Nat.le_trans F16.size F17.size) F18.size | exact Nat.le_trans (Nat.le_trans F17.size F16.size) F18.size
      have Os0_18 := Lib.hid (by first | exact Own.keep (Own.keep (Own.keep (Own.drewN (Os0_15.out) 1) F16) F17) F18 | exact Own.keep (Own.keep (Own.keep (Own.drewN (Os0_15.out) 1) F17) F16) F18)
      have Or0_18 := Lib.hid (by first | exact Own.keep (Own.keep (Own.keep (Own.drewN (Or0_15.out) 1) F16) F17) F18 | exact Own.keep (Own.keep (Own.keep (Own.drewN (Or0_15.out) 1) F17) F16) F18)
      have os_ := Own.base_le (base' := w0.heap.size) os_ (by first | exact Nat.le_trans (Nat.le_trans (G15.out).size F16.size) F17.size | exact Nat.le_trans (Nat.le_trans (G15.out).size F17.size) F16.size)
      have Lu0 := Lib.hid (Own.lt os_)
      have Ou0_18 := Lib.hid os_
      clear os_ o_ F16 F17 F18 q0_ q1_ q2_ q3_
      go_wp2_with fail
      refine (eqTestS_any _ _ _ _ ((boardDoI x0 y1).1) _ (Own.sl Ou0_18.out) (Own.sl Os0_18.out) hR0).mono ?_; rintro e w19 ⟨rfl, F19⟩
      have z19 := F19.size
      have Os0_19 := Lib.hid (Own.keep Os0_18.out F19)
      have Or0_19 := Lib.hid (Own.keep Or0_18.out F19)
      have Ou0_19 := Lib.hid (Own.keep Ou0_18.out F19)
      have G19 := Lib.hid (G18.out.and F19)
      clear F19
      go_wp2_with fail
      refine (heldTestS_any _ _ (((boardDoI x0 y1).1).length) (1) _ (Own.sl Or0_19.out) hR0 (by omega) (by omega)).mono ?_; rintro e w20 ⟨rfl, F20⟩
      have z20 := F20.size
      have Os0_20 := Lib.hid (Own.keep Os0_19.out F20)
      have Or0_20 := Lib.hid (Own.keep Or0_19.out F20)
      have Ou0_20 := Lib.hid (Own.keep Ou0_19.out F20)
      have G20 := Lib.hid (G19.out.and F20)
      clear F20
      go_wp2
      go_ret
      exact ⟨rfl, G00.out.and G20.out⟩
end Go.Proofs.Ytcfbdjdbmjdjnaa.fnExactBoardDo
