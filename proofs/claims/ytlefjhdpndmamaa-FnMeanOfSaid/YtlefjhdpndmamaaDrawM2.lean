/-
  Contracts: the draws of marks and bounds that the laws call.
-/
import Derived.Test.YtlefjhdpndmamaaDrawBounds
namespace Go.Proofs.Ytlefjhdpndmamaa
open Go.RowKit

/-- A new slice of numbers is drawn. -/
def DrawnInts (w : World) (e : Ending) (w' : World) : Prop :=
  ∃ a cap, ∃ xs : List Int, e = .returned (.slice a xs.length cap) ∧ w'.ownsRow w.heap.size 3 1 (.slice a xs.length cap) xs.length (ints xs) ∧ xs.length ≤ 13 ∧ (∀ x ∈ xs, -1 ≤ x ∧ x ≤ 101) ∧ Fr w.heap.size none w w'

theorem drawBoundsOk_any (a : Option Addr) (cap : Nat) (bs : List Int) (w : World) (hs : Sl w a (u8s bs)) (hb : ∀ x ∈ bs, 0 ≤ x ∧ x ≤ 255) (hn : bs.length ≤ 1048576) (hcap : bs.length ≤ cap) :
    Calls Try.prog 27 #[.slice a bs.length cap] w (DrawnInts w) := by
  have HS := Lib.hid hs; have HB := Lib.hid hb; clear hs hb
  go_enter Try.func27, Try.ntmps27
  go_wp2_with fail
  refine (l20Open_any a cap bs _ HS.out HB.out hn hcap).mono ?_; rintro e w1 ⟨B, rfl, hB, hR, hF⟩
  go_wp2_with fail
  refine (l20Bounds_any B 0 _ _ hR (by omega) (by omega)).mono ?_; rintro e w2 ⟨va, vc, xs, rfl, ho, hl, hbd, hR2, hF2⟩
  have HF := Lib.hid (hF.trans (hF2.up (B' := w.heap.size) hF.size (by intro g hg; cases hg; exact hB)))
  have HO := Lib.hid (own_base ho hF.size)
  have HBD := Lib.hid hbd
  clear hF hF2 hR hR2 ho hbd
  go_wp2
  go_ret
  exact ⟨_, _, xs, rfl, HO.out, hl, HBD.out, HF.out⟩

theorem drawMarksOk_any (a : Option Addr) (cap : Nat) (bs : List Int) (w : World) (hs : Sl w a (u8s bs)) (hb : ∀ x ∈ bs, 0 ≤ x ∧ x ≤ 255) (hn : bs.length ≤ 1048576) (hcap : bs.length ≤ cap) :
    Calls Try.prog 28 #[.slice a bs.length cap] w (DrawnInts w) := by
  have HS := Lib.hid hs; have HB := Lib.hid hb; clear hs hb
  go_enter Try.func28, Try.ntmps28
  go_wp2_with fail
  refine (l20Open_any a cap bs _ HS.out HB.out hn hcap).mono ?_; rintro e w1 ⟨B, rfl, hB, hR, hF⟩
  go_wp2_with fail
  refine (l20Marks_any B 0 _ _ hR (by omega) (by omega)).mono ?_; rintro e w2 ⟨va, vc, xs, rfl, ho, hl, hbd, hR2, hF2⟩
  have HF := Lib.hid (hF.trans (hF2.up (B' := w.heap.size) hF.size (by intro g hg; cases hg; exact hB)))
  have HO := Lib.hid (own_base ho hF.size)
  have HBD := Lib.hid hbd
  clear hF hF2 hR hR2 ho hbd
  go_wp2
  go_ret
  exact ⟨_, _, xs, rfl, HO.out, hl, HBD.out, HF.out⟩

theorem drawMeanOf_any (a : Option Addr) (cap : Nat) (bs : List Int) (w : World) (hs : Sl w a (u8s bs)) (hb : ∀ x ∈ bs, 0 ≤ x ∧ x ≤ 255) (hn : bs.length ≤ 1048576) (hcap : bs.length ≤ cap) :
    Calls Try.prog 38 #[.slice a bs.length cap] w (DrawnInts w) := by
  have HS := Lib.hid hs; have HB := Lib.hid hb; clear hs hb
  go_enter Try.func38, Try.ntmps38
  go_wp2_with fail
  refine (l20Open_any a cap bs _ HS.out HB.out hn hcap).mono ?_; rintro e w1 ⟨B, rfl, hB, hR, hF⟩
  go_wp2_with fail
  refine (l20Marks_any B 0 _ _ hR (by omega) (by omega)).mono ?_; rintro e w2 ⟨va, vc, xs, rfl, ho, hl, hbd, hR2, hF2⟩
  have HF := Lib.hid (hF.trans (hF2.up (B' := w.heap.size) hF.size (by intro g hg; cases hg; exact hB)))
  have HO := Lib.hid (own_base ho hF.size)
  have HBD := Lib.hid hbd
  clear hF hF2 hR hR2 ho hbd
  go_wp2
  go_ret
  exact ⟨_, _, xs, rfl, HO.out, hl, HBD.out, HF.out⟩




/-- Bounds and a mark are drawn. -/
def DrawnGrade (w : World) (e : Ending) (w' : World) : Prop :=
  ∃ a cap, ∃ (xs : List Int) (m : Int), e = .returned (.tuple #[.slice a xs.length cap, .int .i64 m]) ∧ w'.ownsRow w.heap.size 3 1 (.slice a xs.length cap) xs.length (ints xs) ∧ xs.length ≤ 13 ∧ -1 ≤ m ∧ m ≤ 101 ∧ Fr w.heap.size none w w'
theorem drawGradeOf_any (a : Option Addr) (cap : Nat) (bs : List Int) (w : World) (hs : Sl w a (u8s bs)) (hb : ∀ x ∈ bs, 0 ≤ x ∧ x ≤ 255) (hn : bs.length ≤ 1048576) (hcap : bs.length ≤ cap) :
    Calls Try.prog 35 #[.slice a bs.length cap] w (DrawnGrade w) := by
  have HS := Lib.hid hs; have HB := Lib.hid hb; clear hs hb
  go_enter Try.func35, Try.ntmps35
  go_wp2_with fail
  refine (l20Open_any a cap bs _ HS.out HB.out hn hcap).mono ?_; rintro e w1 ⟨B, rfl, hB, hR, hF⟩
  have z1 := hF.size
  go_wp2_with fail
  refine (l20Bounds_any B 0 _ _ hR (by omega) (by omega)).mono ?_; rintro e w2 ⟨va, vc, xs, rfl, ho, hl, hbd, hR2, hF2⟩
  have HF := Lib.hid (hF.trans (hF2.up (B' := w.heap.size) hF.size (by intro g hg; cases hg; exact hB)))
  have z2 := hF2.size
  have hBl := hR.lt
  have HO := Lib.hid ho
  clear hF hF2 hR ho hbd
  go_wp2_with fail
  refine (pick_any B _ _ _ hR2 (by omega)).mono ?_; rintro e w3 ⟨p, rfl, hp, hR3, hF3⟩
  have HF3 := Lib.hid (HF.out.trans (hF3.up (B' := w.heap.size) (by omega) (by intro g hg; cases hg; exact hB)))
  have HO3 := Lib.hid (own_past HO.out hF3 hBl)
  have z3 := hF3.size
  obtain ⟨p1, p2, _⟩ := hp
  have p3 := p2 (by omega)
  clear hF3 hR2 p2
  go_wp2_with fail
  refine (pick_any B _ _ _ hR3 (by omega)).mono ?_; rintro e w4 ⟨q, rfl, hq, hR4, hF4⟩
  have HF4 := Lib.hid (HF3.out.trans (hF4.up (B' := w.heap.size) (by omega) (by intro g hg; cases hg; exact hB)))
  have HO4 := Lib.hid (own_base (own_past HO3.out hF4 hBl) z1)
  obtain ⟨q1, q2, _⟩ := hq
  have q3 := q2 (by omega)
  clear hF4 hR3 hR4 q2
  go_wp2
  go_ret2
  exact ⟨_, _, xs, _, rfl, HO4.out, hl, by omega, by omega, HF4.out⟩

/-- Two numbers are drawn. -/
def DrawnTwo (w : World) (e : Ending) (w' : World) : Prop := ∃ r x : Int, e = .returned (.tuple #[.int .i64 r, .int .i64 x]) ∧ -1000 ≤ r ∧ r ≤ 1000 ∧ -1000 ≤ x ∧ x ≤ 1000 ∧ Fr w.heap.size none w w'
theorem drawMarkOf_any (a : Option Addr) (cap : Nat) (bs : List Int) (w : World) (hs : Sl w a (u8s bs)) (hb : ∀ x ∈ bs, 0 ≤ x ∧ x ≤ 255) (hn : bs.length ≤ 1048576) (hcap : bs.length ≤ cap) :
    Calls Try.prog 23 #[.slice a bs.length cap] w (DrawnTwo w) := by
  have HS := Lib.hid hs; have HB := Lib.hid hb; clear hs hb
  go_enter Try.func23, Try.ntmps23
  go_wp2_with fail
  refine (l20Open_any a cap bs _ HS.out HB.out hn hcap).mono ?_; rintro e w1 ⟨B, rfl, hB, hR, hF⟩
  have z1 := hF.size
  have HF := Lib.hid hF; clear hF
  go_wp2_with fail
  refine (pick_any B _ _ _ hR (by omega)).mono ?_; rintro e w2 ⟨p2, rfl, hp2, hR2, hF2⟩
  have HF2 := Lib.hid (HF.out.trans (hF2.up (B' := w.heap.size) (by omega) (by intro g hg; cases hg; exact hB)))
  have z2 := hF2.size
  obtain ⟨a2, b2, _⟩ := hp2
  have c2 := b2 (by omega)
  clear hF2 hR b2
  go_wp2_with fail
  refine (pick_any B _ _ _ hR2 (by omega)).mono ?_; rintro e w3 ⟨p3, rfl, hp3, hR3, hF3⟩
  have HF3 := Lib.hid (HF2.out.trans (hF3.up (B' := w.heap.size) (by omega) (by intro g hg; cases hg; exact hB)))
  have z3 := hF3.size
  obtain ⟨a3, b3, _⟩ := hp3
  have c3 := b3 (by omega)
  clear hF3 hR2 b3
  go_wp2_with fail
  refine (pick_any B _ _ _ hR3 (by omega)).mono ?_; rintro e w4 ⟨p4, rfl, hp4, hR4, hF4⟩
  have HF4 := Lib.hid (HF3.out.trans (hF4.up (B' := w.heap.size) (by omega) (by intro g hg; cases hg; exact hB)))
  have z4 := hF4.size
  obtain ⟨a4, b4, _⟩ := hp4
  have c4 := b4 (by omega)
  clear hF4 hR3 b4
  go_wp2_with fail
  refine (pick_any B _ _ _ hR4 (by omega)).mono ?_; rintro e w5 ⟨p5, rfl, hp5, hR5, hF5⟩
  have HF5 := Lib.hid (HF4.out.trans (hF5.up (B' := w.heap.size) (by omega) (by intro g hg; cases hg; exact hB)))
  have z5 := hF5.size
  obtain ⟨a5, b5, _⟩ := hp5
  have c5 := b5 (by omega)
  clear hF5 hR4 b5
  go_wp2_with fail
  refine (pick_any B _ _ _ hR5 (by omega)).mono ?_; rintro e w6 ⟨p6, rfl, hp6, hR6, hF6⟩
  have HF6 := Lib.hid (HF5.out.trans (hF6.up (B' := w.heap.size) (by omega) (by intro g hg; cases hg; exact hB)))
  have z6 := hF6.size
  obtain ⟨a6, b6, _⟩ := hp6
  have c6 := b6 (by omega)
  clear hF6 hR5 b6
  go_wp2
  go_ret2
  exact ⟨_, _, rfl, by omega, by omega, by omega, by omega, HF6.out⟩
end Go.Proofs.Ytlefjhdpndmamaa
