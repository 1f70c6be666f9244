/-
  Contracts: the draws of marks and bounds that the laws call.
-/
import Derived.Test.YtoedenmimcmkoaaDrawBounds
namespace Go.Proofs.Ytoedenmimcmkoaa
open Go.RowKit

/-- A new slice of numbers is drawn. -/
def DrawnInts (w : World) (e : Ending) (w' : World) : Prop :=
  ∃ a cap, ∃ xs : List Int, e = .returned (.slice a xs.length cap) ∧ w'.ownsRow w.heap.size 3 1 (.slice a xs.length cap) xs.length (ints xs) ∧ xs.length ≤ 13 ∧ (∀ x ∈ xs, -1 ≤ x ∧ x ≤ 101) ∧ Fr w.heap.size none w w'




theorem drawPlacesOf_any (a : Option Addr) (cap : Nat) (bs : List Int) (w : World) (hs : Sl w a (u8s bs)) (hb : ∀ x ∈ bs, 0 ≤ x ∧ x ≤ 255) (hn : bs.length ≤ 1048576) (hcap : bs.length ≤ cap) :
    Calls Try.prog 12 #[.slice a bs.length cap] w (DrawnInts w) := by
  have HS := Lib.hid hs; have HB := Lib.hid hb; clear hs hb
  go_enter Try.func12, Try.ntmps12
  go_wp2_with fail
  refine (l20Open_any a cap bs _ HS.out HB.out hn hcap).mono ?_; rintro e w1 ⟨B, rfl, hB, hR, hF⟩
  go_wp2_with fail
  refine (l20Marks_any B 0 _ _ hR (by omega) (by omega)).mono ?_; rintro e w2 ⟨va, vc, xs, rfl, ho, hl, hbd, hR2, hF2⟩
  have HF := Lib.hid (hF.trans (hF2.up (B' := w.heap.size) hF.size (by intro g hg; cases hg; exact hB)))
  have HO := Lib.hid (own_base ho hF.size)
  have HBD := Lib.hid hbd
  clear hF hF2 hR hR2 ho hbd
  go_wp2
  go_ret
  exact ⟨_, _, xs, rfl, HO.out, hl, HBD.out, HF.out⟩

theorem drawListOf_any (a : Option Addr) (cap : Nat) (bs : List Int) (w : World) (hs : Sl w a (u8s bs)) (hb : ∀ x ∈ bs, 0 ≤ x ∧ x ≤ 255) (hn : bs.length ≤ 1048576) (hcap : bs.length ≤ cap) :
    Calls Try.prog 44 #[.slice a bs.length cap] w (DrawnInts w) := by
  have HS := Lib.hid hs; have HB := Lib.hid hb; clear hs hb
  go_enter Try.func44, Try.ntmps44
  go_wp2_with fail
  refine (l20Open_any a cap bs _ HS.out HB.out hn hcap).mono ?_; rintro e w1 ⟨B, rfl, hB, hR, hF⟩
  go_wp2_with fail
  refine (l20Marks_any B 0 _ _ hR (by omega) (by omega)).mono ?_; rintro e w2 ⟨va, vc, xs, rfl, ho, hl, hbd, hR2, hF2⟩
  have HF := Lib.hid (hF.trans (hF2.up (B' := w.heap.size) hF.size (by intro g hg; cases hg; exact hB)))
  have HO := Lib.hid (own_base ho hF.size)
  have HBD := Lib.hid hbd
  clear hF hF2 hR hR2 ho hbd
  go_wp2
  go_ret
  exact ⟨_, _, xs, rfl, HO.out, hl, HBD.out, HF.out⟩

theorem drawMiddleMark_any (a : Option Addr) (cap : Nat) (bs : List Int) (w : World) (hs : Sl w a (u8s bs)) (hb : ∀ x ∈ bs, 0 ≤ x ∧ x ≤ 255) (hn : bs.length ≤ 1048576) (hcap : bs.length ≤ cap) :
    Calls Try.prog 43 #[.slice a bs.length cap] w (DrawnInts w) := by
  have HS := Lib.hid hs; have HB := Lib.hid hb; clear hs hb
  go_enter Try.func43, Try.ntmps43
  go_wp2_with fail
  refine (l20Open_any a cap bs _ HS.out HB.out hn hcap).mono ?_; rintro e w1 ⟨B, rfl, hB, hR, hF⟩
  go_wp2_with fail
  refine (l20Marks_any B 0 _ _ hR (by omega) (by omega)).mono ?_; rintro e w2 ⟨va, vc, xs, rfl, ho, hl, hbd, hR2, hF2⟩
  have HF := Lib.hid (hF.trans (hF2.up (B' := w.heap.size) hF.size (by intro g hg; cases hg; exact hB)))
  have HO := Lib.hid (own_base ho hF.size)
  have HBD := Lib.hid hbd
  clear hF hF2 hR hR2 ho hbd
  go_wp2
  go_ret
  exact ⟨_, _, xs, rfl, HO.out, hl, HBD.out, HF.out⟩


/-- Bounds and marks are drawn. -/
def DrawnTwoInts (w : World) (e : Ending) (w' : World) : Prop :=
  ∃ a cap, ∃ xs : List Int, ∃ b cb, ∃ ys : List Int, e = .returned (.tuple #[.slice a xs.length cap, .slice b ys.length cb]) ∧ w'.ownsRow w.heap.size 3 1 (.slice a xs.length cap) xs.length (ints xs) ∧ w'.ownsRow w.heap.size 3 1 (.slice b ys.length cb) ys.length (ints ys) ∧ xs.length ≤ 13 ∧ ys.length ≤ 13 ∧ (∀ x ∈ xs, -1 ≤ x ∧ x ≤ 101) ∧ (∀ x ∈ ys, -1 ≤ x ∧ x ≤ 101) ∧ Fr w.heap.size none w w'

theorem drawGradesIn_any (a : Option Addr) (cap : Nat) (bs : List Int) (w : World) (hs : Sl w a (u8s bs)) (hb : ∀ x ∈ bs, 0 ≤ x ∧ x ≤ 255) (hn : bs.length ≤ 1048576) (hcap : bs.length ≤ cap) :
    Calls Try.prog 19 #[.slice a bs.length cap] w (DrawnTwoInts w) := by
  have HS := Lib.hid hs; have HB := Lib.hid hb; clear hs hb
  go_enter Try.func19, Try.ntmps19
  go_wp2_with fail
  refine (l20Open_any a cap bs _ HS.out HB.out hn hcap).mono ?_; rintro e w1 ⟨B, rfl, hB, hR, hF⟩
  have z1 := hF.size
  go_wp2_with fail
  refine (l20Bounds_any B 0 _ _ hR (by omega) (by omega)).mono ?_; rintro e w2 ⟨va, vc, xs, rfl, ho, hl, hbd, hR2, hF2⟩
  have HF := Lib.hid (hF.trans (hF2.up (B' := w.heap.size) hF.size (by intro g hg; cases hg; exact hB)))
  have z2 := hF2.size
  have hBl := hR.lt
  have HO := Lib.hid ho
  have BD := Lib.hid hbd
  clear hF hF2 hR ho hbd
  go_wp2_with fail
  refine (l20Marks_any B _ _ _ hR2 (by omega) (by omega)).mono ?_; rintro e w3 ⟨ya, yc, ys, rfl, yo, yl, ybd, hR3, hF3⟩
  have HF3 := Lib.hid (HF.out.trans (hF3.up (B' := w.heap.size) (by omega) (by intro g hg; cases hg; exact hB)))
  have HO3 := Lib.hid (own_base (own_past HO.out hF3 hBl) z1)
  have YO := Lib.hid (own_base yo (by omega : w.heap.size ≤ w2.heap.size))
  have YD := Lib.hid ybd
  clear hF3 hR2 hR3 yo ybd
  go_wp2
  go_ret2
  exact ⟨_, _, xs, _, _, ys, rfl, HO3.out, YO.out, hl, yl, BD.out, YD.out, HF3.out⟩
end Go.Proofs.Ytoedenmimcmkoaa
