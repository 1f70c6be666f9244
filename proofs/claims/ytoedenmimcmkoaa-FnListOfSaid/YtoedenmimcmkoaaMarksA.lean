/-
  Contracts of the program's and the reference's checks of marks and bounds: in, isMark, above, MarksOk, BoundsOk.
-/
import Derived.Test.YtoedenmimcmkoaaCore
import Derived.Test.YtoedenmimcmkoaaProg
import Derived.KernelRfl
namespace Go.Proofs.Ytoedenmimcmkoaa
open Go.RowKit

theorem isMark_any (n : Int) (w : World) : Calls Try.prog 52 #[.int .i64 n] w fun e w' => e = .returned (.bool (inB n 0 100)) ∧ w = w' := by
  go_enter Try.func52, Try.ntmps52
  go_wp2_with (go_at_call 62; refine (in_any _ _ _ _).mono ?_; rintro e w' ⟨rfl, rfl⟩)
  go_ret
  exact ⟨rfl, rfl⟩
theorem isMark_val {n : Int} {b : Bool} (h : inB n 0 100 = b) (w : World) : Calls Try.prog 52 #[.int .i64 n] w fun e w' => e = .returned (.bool b) ∧ w = w' := h ▸ isMark_any n w

def aboveN (xs : List Int) (n : Int) : Nat := xs.countP fun x => decide (n < x)
theorem aboveN_take (xs : List Int) (n : Int) (k : Nat) (h : k < xs.length) : aboveN (xs.take (k+1)) n = aboveN (xs.take k) n + if n < xs.getD k 0 then 1 else 0 := by
  unfold aboveN
  rw [List.take_succ_eq_append_getElem h, List.countP_append]
  simp [List.countP_cons, List.getD_eq_getElem?_getD, h]
theorem aboveN_le (xs : List Int) (n : Int) : aboveN xs n ≤ xs.length := List.countP_le_length

theorem above_any (a : Option Addr) (cap : Nat) (xs : List Int) (n : Int) (w : World) (hs : Sl w a (ints xs)) (hm : xs.length ≤ 1048576) :
    Calls Try.prog 47 #[.slice a xs.length cap, .int .i64 n] w fun e w' => e = .returned (.int .i64 (aboveN xs n)) ∧ w = w' := by
  have HC := Lib.hid hs; clear hs
  go_enter Try.func47, Try.ntmps47
  go_wp2
  go_loop [5, 10] (fun c i => ∃ k : Nat, k ≤ xs.length ∧ i = .int .i64 k ∧ c = .int .i64 (aboveN (xs.take k) n)) (fun _ i => xs.length - (intOf i).toNat)
  case atStart => exact ⟨0, Nat.zero_le _, rfl, rfl⟩
  case round =>
    obtain ⟨k, hk, rfl, rfl⟩ := hrel
    have hle := aboveN_le (xs.take k) n
    have hl : (xs.take k).length ≤ k := List.length_take_le _ _
    by_cases hlt : k < xs.length
    · obtain ⟨b, off, rfl, hcell⟩ := HC.out.int k hlt
      have hst := Lib.hid (aboveN_take xs n k hlt)
      generalize xs.getD k 0 = x at *
      go_wp2
      all_goals
        go_round
        case rel => exact ⟨k + 1, by omega, by go_num, by rw [hst.out]; first | rw [if_pos ‹_›]; go_num | (rw [if_neg (by omega)]; rfl)⟩
        case measure => simp [intOf]; omega
    · have hkk : k = xs.length := by omega
      have hst := Lib.hid (show aboveN (xs.take k) n = aboveN xs n by rw [hkk, List.take_length])
      clear hkk
      go_wp2
      go_ret
      exact ⟨ret_int (by rw [hst.out]), rfl⟩

def marksOkB (xs : List Int) : Bool := (xs.all fun n => inB n 0 100) && decide (xs.length ≤ 12)
def marksTo (xs : List Int) (k : Nat) : Bool := allTo (fun j => inB (xs.getD j 0) 0 100) k
theorem marksOkB_to (xs : List Int) : marksOkB xs = (marksTo xs xs.length && decide (xs.length ≤ 12)) := by
  unfold marksOkB marksTo; rw [all_allTo]

theorem specMarksOk_any (a : Option Addr) (cap : Nat) (xs : List Int) (w : World) (hs : Sl w a (ints xs)) (hm : xs.length ≤ 1048576) :
    Calls Try.prog 48 #[.slice a xs.length cap] w fun e w' => e = .returned (.bool (marksOkB xs)) ∧ w = w' := by
  have HC := Lib.hid hs; clear hs
  rw [marksOkB_to]
  go_enter Try.func48, Try.ntmps48
  go_wp2
  go_loop [3] (fun i => ∃ k : Nat, k ≤ xs.length ∧ i = .int .i64 k ∧ Hid (marksTo xs k = true)) (fun i => xs.length - (intOf i).toNat)
  case atStart => exact ⟨0, Nat.zero_le _, rfl, rfl⟩
  case round =>
    obtain ⟨k, hk, rfl, hT⟩ := hrel
    by_cases hlt : k < xs.length
    · obtain ⟨b, off, rfl, hcell⟩ := HC.out.int k hlt
      cases hb : inB (xs.getD k 0) 0 100
      · have HB := Lib.hid hb; clear hb
        have hfin := Lib.hid (show (marksTo xs xs.length && decide (xs.length ≤ 12)) = false by rw [show marksTo xs xs.length = false from allTo_false hlt HB.out]; rfl)
        generalize xs.getD k 0 = x at *
        go_wp2_with (go_at_call 65; refine (l1In_val HB.out _).mono ?_; rintro e w' ⟨rfl, rfl⟩)
        go_ret
        exact ⟨ret_bool hfin.out.symm, rfl⟩
      · have HB := Lib.hid hb; clear hb
        have hT' := Lib.hid (show marksTo xs (k+1) = true by unfold marksTo; rw [allTo_succ]; simp only [Bool.and_eq_true]; exact ⟨hT.out, HB.out⟩)
        generalize xs.getD k 0 = x at *
        go_wp2_with (go_at_call 65; refine (l1In_val HB.out _).mono ?_; rintro e w' ⟨rfl, rfl⟩)
        go_round
        case rel => exact ⟨k + 1, by omega, by go_num, hT'⟩
        case measure => simp [intOf]; omega
    · have hkk : k = xs.length := by omega
      have hfin := Lib.hid (show (marksTo xs xs.length && decide (xs.length ≤ 12)) = decide ((xs.length : Int) ≤ 12) by rw [← hkk, show marksTo xs k = true from hT.out]; simp; omega)
      clear hkk
      go_wp2
      all_goals go_ret
      all_goals exact ⟨ret_bool (by rw [hfin.out]; try simp [*]), rfl⟩
end Go.Proofs.Ytoedenmimcmkoaa
