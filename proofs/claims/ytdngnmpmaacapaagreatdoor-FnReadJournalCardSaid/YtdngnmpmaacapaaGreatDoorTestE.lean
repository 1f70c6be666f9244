/-
  Exercises: contract of heldTestS.
-/
import Derived.Test.YtdngnmpmaacapaaGreatDoorTestC
import Derived.Deep.RegionHeld3
namespace Go.Proofs.YtdngnmpmaacapaaGreatDoor
open Go.RowKit

theorem heldTestS_any (a : Option Addr) (cap n : Nat) (q : Int) (w : World) (hs : Sl w a (tests (markedT n q))) (hn : n ≤ 1048576) (hq : 0 ≤ q) (hq2 : q ≤ 549755813888) :
    Calls Tryz.prog 25 #[.slice a n cap, .int .i64 q] w fun e w' => e = .returned (.int .i64 (q + 3 * (n : Int))) ∧ Fr w.heap.size none w w' := by
  have HS := Lib.hid hs; clear hs
  go_enter Tryz.func25, Tryz.ntmps25
  go_wp2
  go_loopw [1, 5] (fun c i wr => ∃ k : Nat, k ≤ n ∧ i = .int .i64 k ∧ c = .int .i64 (q + 3 * (k : Int)) ∧ Fr w.heap.size none w wr) (fun _ i _ => n - (intOf i).toNat)
  case atStart => exact ⟨0, Nat.zero_le _, rfl, by go_num, Fr.refl _ _ _⟩
  case round =>
    obtain ⟨k, hk, rfl, rfl, hF⟩ := hrel
    have HF := Lib.hid hF; clear hF
    by_cases hlt : k < n
    · obtain ⟨b, off, rfl, hc0, hc1, hc2, hc1', hc2'⟩ := HS.out.test k (by rw [markedT_length]; exact hlt)
      rw [markedT_getD n q k hlt] at hc0 hc1' hc2'
      simp only at hc0 hc1' hc2'
      have hbw := World.block_lt_of_cell? w _ hc0
      have hbl : b < wr.heap.size := Nat.lt_of_lt_of_le hbw HF.out.size
      rw [← HF.out.cell (p := ⟨b, off + k * 3, none⟩) hbw (by simp)] at hc0
      rw [← HF.out.cell (p := ⟨b, off + k * 3 + 1, none⟩) hbw (by simp)] at hc1'
      rw [← HF.out.cell (p := ⟨b, off + k * 3 + 2, none⟩) hbw (by simp)] at hc2'
      clear hc1 hc2
      have k0 : (0 : Int) ≤ (k : Int) := by omega
      have k1 : (k : Int) < (n : Int) := by omega
      have c1wr := hc1'
      have c2wr := hc2'
      have hbwr := hbl
      clear hc1' hc2' hbl
      go_wp2
      go_region_held3 (fun w' => w'.cell? ⟨b, off + k * 3, none⟩ = some (.string (markS (q + 3 * (k : Int))))) (first | go_keep | (rw [hw2.cell (by first | exact hbwr | simpa using hbwr) (by simp)]; assumption))
        (first | (go_at_call 64; refine (markText_any (q + 3 * (k : Int)) (by omega) (by omega) _).mono ?_; rintro e w2 ⟨rfl, hw2⟩))
      have F2 := Lib.hid (HF.out.drew.trans (hw2.mono HF.out.size))
      have c1w2 : w2.cell? ⟨b, off + k * 3 + 1, none⟩ = some (.string (markS (q + 3 * (k : Int) + 1))) := (hw2.cell (p := ⟨b, off + k * 3 + 1, none⟩) hbwr (by simp)).trans c1wr
      have c2w2 : w2.cell? ⟨b, off + k * 3 + 2, none⟩ = some (.string (markS (q + 3 * (k : Int) + 1 + 1))) := (hw2.cell (p := ⟨b, off + k * 3 + 2, none⟩) hbwr (by simp)).trans c2wr
      have hbw2 : b < w2.heap.size := Nat.lt_of_lt_of_le hbwr hw2.size
      clear hw2
      clear c1wr c2wr
      go_wp2
      go_region_held3 (fun w' => w'.cell? ⟨b, off + k * 3 + 1, none⟩ = some (.string (markS (q + 3 * (k : Int) + 1)))) (first | go_keep | (rw [hw4.cell (by first | exact hbw2 | simpa using hbw2) (by simp)]; assumption))
        (first | (go_at_call 64; refine (markText_any (q + 3 * (k : Int) + 1) (by omega) (by omega) _).mono ?_; rintro e w4 ⟨rfl, hw4⟩))
      have F4 := Lib.hid (F2.out.drew.trans (hw4.mono F2.out.size))
      have c2w4 : w4.cell? ⟨b, off + k * 3 + 2, none⟩ = some (.string (markS (q + 3 * (k : Int) + 1 + 1))) := (hw4.cell (p := ⟨b, off + k * 3 + 2, none⟩) hbw2 (by simp)).trans c2w2
      have hbw4 : b < w4.heap.size := Nat.lt_of_lt_of_le hbw2 hw4.size
      clear hw4
      clear c1w2 c2w2
      go_wp2
      go_region_held3 (fun w' => w'.cell? ⟨b, off + k * 3 + 2, none⟩ = some (.string (markS (q + 3 * (k : Int) + 1 + 1)))) (first | go_keep | (rw [hw6.cell (by first | exact hbw4 | simpa using hbw4) (by simp)]; assumption))
        (first | (go_at_call 64; refine (markText_any (q + 3 * (k : Int) + 1 + 1) (by omega) (by omega) _).mono ?_; rintro e w6 ⟨rfl, hw6⟩))
      have F6 := Lib.hid (F4.out.drew.trans (hw6.mono F4.out.size))
      clear hw6
      go_wp2
      go_roundw
      case rel => exact ⟨k + 1, by omega, by go_num, by go_num, F6.out⟩
      case measure => simp [intOf]; omega
    · have hq' := Lib.hid (show q + 3 * (k : Int) = q + 3 * (n : Int) by omega)
      go_wp2
      go_ret
      exact ⟨ret_int hq'.out, HF.out⟩
end Go.Proofs.YtdngnmpmaacapaaGreatDoor
