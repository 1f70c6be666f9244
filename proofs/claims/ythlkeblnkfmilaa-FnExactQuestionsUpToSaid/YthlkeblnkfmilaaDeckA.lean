/-
  Contracts: wait and WaitOf, DrawWaitOf, DrawDeckNew.
-/
import Derived.Test.YthlkeblnkfmilaaCore
import Derived.Test.YthlkeblnkfmilaaDraw
namespace Go.Proofs.Ythlkeblnkfmilaa
open Go.RowKit

def waitZ (b : Int) : Int := if b = 1 then 1 else if b = 2 then 2 else if b = 3 then 4 else if b = 4 then 8 else 16
def waitOfZ (b : Int) : Int := if inB b 1 5 then waitZ b else -1
theorem five {b : Int} (h : inB b 1 5 = true) : b = 1 ∨ b = 2 ∨ b = 3 ∨ b = 4 ∨ b = 5 := by have := inB_true.1 h; omega

theorem wait_any (b : Int) (w : World) (h : inB b 1 5 = true) : Calls Try.prog 53 #[.int .i64 b] w fun e w' => e = .returned (.int .i64 (waitZ b)) ∧ w = w' := by
  rcases five h with rfl | rfl | rfl | rfl | rfl
  all_goals
    clear h
    go_enter Try.func53, Try.ntmps53
    go_wp2
    go_ret
    exact ⟨rfl, rfl⟩
theorem waitOf_yes {b : Int} (h : inB b 1 5 = true) : waitZ b = waitOfZ b := by simp [waitOfZ, h]
theorem waitOf_no {b : Int} (h : inB b 1 5 = false) : -1 = waitOfZ b := by simp [waitOfZ, h]
theorem implWaitOf_any (b : Int) (w : World) : Calls Try.prog 16 #[.int .i64 b] w fun e w' => e = .returned (.int .i64 (waitOfZ b)) ∧ w = w' := by
  cases h : inB b 1 5
  · have hf := Lib.hid (waitOf_no h); have H := Lib.hid h; clear h
    go_enter Try.func16, Try.ntmps16
    go_wp2_with (go_at_call 52; refine (in_val H.out _).mono ?_; rintro e w' ⟨rfl, rfl⟩)
    go_ret
    exact ⟨ret_int hf.out, rfl⟩
  · have hf := Lib.hid (waitOf_yes h); have H := Lib.hid h; clear h
    go_enter Try.func16, Try.ntmps16
    go_wp2_with (first | (go_at_call 52; refine (in_val H.out _).mono ?_; rintro e w' ⟨rfl, rfl⟩) | (go_at_call 53; refine (wait_any _ _ H.out).mono ?_; rintro e w' ⟨rfl, rfl⟩))
    go_ret
    exact ⟨ret_int hf.out, rfl⟩
theorem specWaitOf_any (b : Int) (w : World) : Calls Try.prog 17 #[.int .i64 b] w fun e w' => e = .returned (.int .i64 (waitOfZ b)) ∧ w = w' := by
  cases h : inB b 1 5
  · have hf := Lib.hid (waitOf_no h); have H := Lib.hid h; clear h
    go_enter Try.func17, Try.ntmps17
    go_wp2_with (go_at_call 54; refine (l1In_val H.out _).mono ?_; rintro e w' ⟨rfl, rfl⟩)
    go_ret
    exact ⟨ret_int hf.out, rfl⟩
  · rcases five h with rfl | rfl | rfl | rfl | rfl
    all_goals
      have H := Lib.hid h; clear h
      go_enter Try.func17, Try.ntmps17
      go_wp2_with (go_at_call 54; refine (l1In_val H.out _).mono ?_; rintro e w' ⟨rfl, rfl⟩)
      go_ret
      exact ⟨rfl, rfl⟩

/-- A number is drawn, in the given bounds. -/
def DrawInt (lo hi : Int) (w : World) (e : Ending) (w' : World) : Prop := ∃ r : Int, e = .returned (.int .i64 r) ∧ lo ≤ r ∧ r ≤ hi ∧ Fr w.heap.size none w w'
theorem drawWaitOf_any (a : Option Addr) (cap : Nat) (bs : List Int) (w : World) (hs : Sl w a (u8s bs)) (hb : ∀ x ∈ bs, 0 ≤ x ∧ x ≤ 255) (hn : bs.length ≤ 1048576) (hcap : bs.length ≤ cap) :
    Calls Try.prog 15 #[.slice a bs.length cap] w (DrawInt 0 6 w) := by
  have HS := Lib.hid hs; have HB := Lib.hid hb; clear hs hb
  go_enter Try.func15, Try.ntmps15
  go_wp2_with fail
  refine (l20Open_any a cap bs _ HS.out HB.out hn hcap).mono ?_; rintro e w1 ⟨B, rfl, hB, hR, hF⟩
  go_wp2_with fail
  refine (pick_any B 0 _ _ hR (by omega)).mono ?_; rintro e w2 ⟨r, rfl, hr, hR2, hF2⟩
  have hr2 := hr.2.1 (by omega)
  have hr1 := hr.1
  have HF := Lib.hid (hF.trans (hF2.up (B' := w.heap.size) hF.size (by intro g hg; cases hg; exact hB)))
  clear hr hF hF2 hR hR2
  go_wp2
  go_ret
  exact ⟨_, rfl, hr1, by omega, HF.out⟩
theorem drawDeckNew_any (a : Option Addr) (cap : Nat) (bs : List Int) (w : World) (hs : Sl w a (u8s bs)) (hb : ∀ x ∈ bs, 0 ≤ x ∧ x ≤ 255) (hn : bs.length ≤ 1048576) (hcap : bs.length ≤ cap) :
    Calls Try.prog 42 #[.slice a bs.length cap] w (DrawInt (-1) 9 w) := by
  have HS := Lib.hid hs; have HB := Lib.hid hb; clear hs hb
  go_enter Try.func42, Try.ntmps42
  go_wp2_with fail
  refine (l20Open_any a cap bs _ HS.out HB.out hn hcap).mono ?_; rintro e w1 ⟨B, rfl, hB, hR, hF⟩
  go_wp2_with fail
  refine (pick_any B 0 _ _ hR (by omega)).mono ?_; rintro e w2 ⟨r, rfl, hr, hR2, hF2⟩
  have hr2 := hr.2.1 (by omega)
  have hr1 := hr.1
  have HF := Lib.hid (hF.trans (hF2.up (B' := w.heap.size) hF.size (by intro g hg; cases hg; exact hB)))
  clear hr hF hF2 hR hR2
  go_wp2
  go_ret
  exact ⟨_, rfl, by omega, by omega, HF.out⟩
end Go.Proofs.Ythlkeblnkfmilaa
