/-
  Contracts: MeanOf, of the program and of the reference.
-/
import Derived.Test.YtlefjhdpndmamaaMarksF
import Derived.Test.YtlefjhdpndmamaaSame
import Derived.RegionTactic
namespace Go.Proofs.Ytlefjhdpndmamaa
open Go.RowKit

/-- The greatest common divisor of the sum and of the number. -/
def meanG (ms : List Int) : Nat := Nat.gcd (isum ms).toNat ms.length
def meanI (ms : List Int) : List Int := if marksOkB ms && decide (ms.length ≠ 0) then [isum ms / meanG ms, (ms.length : Int) / meanG ms] else []
theorem mean_no1 {ms : List Int} (h : marksOkB ms = false) : [] = meanI ms := by simp [meanI, h]
theorem mean_no2 {ms : List Int} (h : ms.length = 0) : [] = meanI ms := by simp [meanI, h]
theorem mean_yes {ms : List Int} (h : marksOkB ms = true) (h2 : 0 < ms.length) : [Value.int .i64 (isum ms / (meanG ms : Int)), Value.int .i64 ((ms.length : Int) / (meanG ms : Int))] = ints (meanI ms) := by
  have : ms ≠ [] := by intro e; simp [e] at h2
  simp [meanI, h, this, ints]
theorem meanG_pos {ms : List Int} (h2 : 0 < ms.length) : 0 < meanG ms := Nat.gcd_pos_of_pos_right _ h2

theorem specMeanOf_any (a : Option Addr) (cap : Nat) (ms : List Int) (w : World) (hs : Sl w a (ints ms)) (hm : ms.length ≤ 1048576) :
    Calls Try.prog 29 #[.slice a ms.length cap] w (NewInts (meanI ms) w) := by
  have HS := Lib.hid hs; clear hs
  cases h : marksOkB ms
  · have hf := Lib.hid (mean_no1 h); have H := Lib.hid h; clear h
    go_enter Try.func29, Try.ntmps29
    go_wp2_with (go_at_call 21; refine (specMarks_val HS.out hm H.out).mono ?_; rintro e w' ⟨rfl, rfl⟩)
    go_ret
    exact newInts_of (cap := 0) (n := 0) (cs := []) (World.ownsRow_made _ _ _ (Nat.le_refl _) (by simp [maxLen]) (by simp)) (by rw [← hf.out]; rfl) ((Fr.refl _ _ _).alloc (Nat.le_refl _) _)
  · by_cases h0 : ms.length = 0
    · have hf := Lib.hid (mean_no2 h0); have H := Lib.hid h; clear h
      have hz : ((ms.length : Int) == 0) = true := by simp [h0]
      clear h0
      go_enter Try.func29, Try.ntmps29
      go_wp2_with (go_at_call 21; refine (specMarks_val HS.out hm H.out).mono ?_; rintro e w' ⟨rfl, rfl⟩)
      go_ret
      exact newInts_of (cap := 0) (n := 0) (cs := []) (World.ownsRow_made _ _ _ (Nat.le_refl _) (by simp [maxLen]) (by simp)) (by rw [← hf.out]; rfl) ((Fr.refl _ _ _).alloc (Nat.le_refl _) _)
    · have hp : 0 < ms.length := by omega
      have hz : ((ms.length : Int) == 0) = false := by rw [beq_eq_false_iff_ne]; omega
      clear h0
      have hl := marks_len h
      have hin := Lib.hid (marks_in h)
      have hf := Lib.hid (mean_yes h hp); have H := Lib.hid h; clear h
      obtain ⟨hb0, hb1⟩ := isum_bd ms hin.out
      go_enter Try.func29, Try.ntmps29
      go_wp2_with (go_at_call 21; refine (specMarks_val HS.out hm H.out).mono ?_; rintro e w' ⟨rfl, rfl⟩)
      go_loop [3, 4] (fun s i => ∃ k : Nat, k ≤ ms.length ∧ i = .int .i64 k ∧ s = .int .i64 (isum (ms.take k))) (fun _ i => ms.length - (intOf i).toNat)
      case atStart => exact ⟨0, Nat.zero_le _, rfl, rfl⟩
      case round =>
        obtain ⟨k, hk, rfl, rfl⟩ := hrel
        obtain ⟨hc0, hc1⟩ := isum_bd (ms.take k) (fun n hn => hin.out n (List.mem_of_mem_take hn))
        have hlk : (ms.take k).length ≤ k := List.length_take_le _ _
        by_cases hlt : k < ms.length
        · obtain ⟨b, off, rfl, hcell⟩ := HS.out.int k hlt
          have hst := Lib.hid (isum_take ms k hlt)
          have hx := hin.out (ms.getD k 0) (by simp [List.getD_eq_getElem?_getD, hlt])
          generalize ms.getD k 0 = x at *
          obtain ⟨hx0, hx1⟩ := hx
          go_wp2
          go_round
          case rel => exact ⟨k + 1, by omega, by go_num, by rw [hst.out]⟩
          case measure => simp [intOf]; omega
        · have hkk : k = ms.length := by omega
          have hst := Lib.hid (show isum (ms.take k) = isum ms by rw [hkk, List.take_length])
          clear hkk
          rw [hst.out]
          have hS := Lib.hid (show (((isum ms).toNat : Nat) : Int) = isum ms by omega)
          have hG := Lib.hid (show meanG ms = Nat.gcd (isum ms).toNat ms.length from rfl)
          have hGp := meanG_pos hp
          generalize isum ms = S at *
          go_wp2
          go_loop [5, 6] (fun x y => ∃ p q : Nat, x = .int .i64 p ∧ y = .int .i64 q ∧ p ≤ 1200 ∧ q ≤ 12 ∧ Hid (Nat.gcd p q = meanG ms)) (fun _ y => (intOf y).toNat)
          case atStart => exact ⟨S.toNat, ms.length, by rw [hS.out], rfl, by omega, hl, hG.out.symm⟩
          case round =>
            obtain ⟨p, q, rfl, rfl, hp1, hq1, hg⟩ := hrel
            by_cases hq : 0 < q
            · have hr : p % q < q := Nat.mod_lt _ hq
              have hst2 := Lib.hid (show Nat.gcd q (p % q) = meanG ms by rw [← hg.out, Nat.gcd_comm p q, Nat.gcd_rec q p, Nat.gcd_comm])
              have hcast := Lib.hid (show (p : Int) % (q : Int) = ((p % q : Nat) : Int) by simp)
              go_wp2
              go_round
              case rel => exact ⟨q, p % q, rfl, by rw [hcast.out], by omega, by omega, hst2⟩
              case measure => simp [intOf]; omega
            · have hq0 : q = 0 := by omega
              have hp2 := Lib.hid (show p = meanG ms by rw [← hg.out, hq0, Nat.gcd_zero_right])
              clear hg
              subst hq0
              rw [hp2.out]
              go_wp2
              have hg1 : (1 : Int) ≤ (meanG ms : Int) := by omega
              have hg2 : ((meanG ms : Int) == 0) = false := by rw [beq_eq_false_iff_ne]; omega
              have hg3 : 0 ≤ (ms.length : Int) / (meanG ms : Int) := Int.ediv_nonneg (by omega) (by omega)
              have hg4 : (ms.length : Int) / (meanG ms : Int) ≤ 12 := Int.le_trans (Int.ediv_le_self _ (by omega)) (by omega)
              generalize meanG ms = G at *
              go_region
              all_goals (try go_wp2)
              all_goals go_ret
              all_goals exact newInts_of (n := 2) (cap := 2) (World.ownsRow_lit (size := 1) (e := 3) w.drew #[.int .i64 (S / (G : Int)), .int .i64 ((ms.length : Int) / (G : Int))] 2 (Nat.le_refl _) (by simp [maxLen]) rfl) hf.out (((Fr.refl _ _ _).alloc (Nat.le_refl _) _).drew)
theorem implMeanOf_any (a : Option Addr) (cap : Nat) (ms : List Int) (w : World) (hs : Sl w a (ints ms)) (hm : ms.length ≤ 1048576) :
    Calls Try.prog 30 #[.slice a ms.length cap] w (NewInts (meanI ms) w) := by
  have HS := Lib.hid hs; clear hs
  cases h : marksOkB ms
  · have hf := Lib.hid (mean_no1 h); have H := Lib.hid h; clear h
    go_enter Try.func30, Try.ntmps30
    go_wp2_with (go_at_call 22; refine (implMarks_val HS.out hm H.out).mono ?_; rintro e w' ⟨rfl, rfl⟩)
    go_ret
    exact newInts_nil hf.out (Fr.refl _ _ _)
  · by_cases h0 : ms.length = 0
    · have hf := Lib.hid (mean_no2 h0); have H := Lib.hid h; clear h
      have hz : ((ms.length : Int) == 0) = true := by simp [h0]
      clear h0
      go_enter Try.func30, Try.ntmps30
      go_wp2_with (go_at_call 22; refine (implMarks_val HS.out hm H.out).mono ?_; rintro e w' ⟨rfl, rfl⟩)
      go_ret
      exact newInts_nil hf.out (Fr.refl _ _ _)
    · have hp : 0 < ms.length := by omega
      have hz : ((ms.length : Int) == 0) = false := by rw [beq_eq_false_iff_ne]; omega
      clear h0
      have hl := marks_len h
      have hin := Lib.hid (marks_in h)
      have hf := Lib.hid (mean_yes h hp); have H := Lib.hid h; clear h
      obtain ⟨hb0, hb1⟩ := isum_bd ms hin.out
      go_enter Try.func30, Try.ntmps30
      go_wp2_with (go_at_call 22; refine (implMarks_val HS.out hm H.out).mono ?_; rintro e w' ⟨rfl, rfl⟩)
      go_loop [3, 18] (fun s i => ∃ k : Nat, k ≤ ms.length ∧ i = .int .i64 k ∧ s = .int .i64 (isum (ms.take k))) (fun _ i => ms.length - (intOf i).toNat)
      case atStart => exact ⟨0, Nat.zero_le _, rfl, rfl⟩
      case round =>
        obtain ⟨k, hk, rfl, rfl⟩ := hrel
        obtain ⟨hc0, hc1⟩ := isum_bd (ms.take k) (fun n hn => hin.out n (List.mem_of_mem_take hn))
        have hlk : (ms.take k).length ≤ k := List.length_take_le _ _
        by_cases hlt : k < ms.length
        · obtain ⟨b, off, rfl, hcell⟩ := HS.out.int k hlt
          have hst := Lib.hid (isum_take ms k hlt)
          have hx := hin.out (ms.getD k 0) (by simp [List.getD_eq_getElem?_getD, hlt])
          generalize ms.getD k 0 = x at *
          obtain ⟨hx0, hx1⟩ := hx
          go_wp2
          go_round
          case rel => exact ⟨k + 1, by omega, by go_num, by rw [hst.out]⟩
          case measure => simp [intOf]; omega
        · have hkk : k = ms.length := by omega
          have hst := Lib.hid (show isum (ms.take k) = isum ms by rw [hkk, List.take_length])
          clear hkk
          rw [hst.out]
          have hS := Lib.hid (show (((isum ms).toNat : Nat) : Int) = isum ms by omega)
          have hG := Lib.hid (show meanG ms = Nat.gcd (isum ms).toNat ms.length from rfl)
          have hGp := meanG_pos hp
          generalize isum ms = S at *
          go_wp2
          go_loopw [6, 7] (fun x y wr => ∃ p q m : Nat, x = .int .i64 p ∧ y = .int .i64 q ∧ p ≤ 1200 ∧ q ≤ 12 ∧ Hid (Nat.gcd p q = meanG ms) ∧ wr = w.drewN m) (fun _ y _ => (intOf y).toNat)
          case atStart => exact ⟨S.toNat, ms.length, 0, by rw [hS.out], rfl, by omega, hl, hG.out.symm, rfl⟩
          case round =>
            obtain ⟨p, q, m, rfl, rfl, hp1, hq1, hg, rfl⟩ := hrel
            by_cases hq : 0 < q
            · have hr : p % q < q := Nat.mod_lt _ hq
              have hst2 := Lib.hid (show Nat.gcd q (p % q) = meanG ms by rw [← hg.out, Nat.gcd_comm p q, Nat.gcd_rec q p, Nat.gcd_comm])
              have hcast := Lib.hid (show (p : Int) % (q : Int) = ((p % q : Nat) : Int) by simp)
              have hq1 : (1 : Int) ≤ (q : Int) := by omega
              have hq2 : ((q : Int) == 0) = false := by rw [beq_eq_false_iff_ne]; omega
              go_wp2
              go_quiet (fail)
              go_wp2
              go_roundw
              case rel => exact ⟨q, p % q, _, rfl, by rw [hcast.out], by omega, by omega, hst2, by first | rfl | exact World.drewN_drewN ..⟩
              case measure => simp [intOf]; omega
            · have hq0 : q = 0 := by omega
              have hp2 := Lib.hid (show p = meanG ms by rw [← hg.out, hq0, Nat.gcd_zero_right])
              clear hg
              subst hq0
              rw [hp2.out]
              go_wp2
              have hg1 : (1 : Int) ≤ (meanG ms : Int) := by omega
              have hg2 : ((meanG ms : Int) == 0) = false := by rw [beq_eq_false_iff_ne]; omega
              have hg3 : 0 ≤ (ms.length : Int) / (meanG ms : Int) := Int.ediv_nonneg (by omega) (by omega)
              have hg4 : (ms.length : Int) / (meanG ms : Int) ≤ 12 := Int.le_trans (Int.ediv_le_self _ (by omega)) (by omega)
              generalize meanG ms = G at *
              go_region
              all_goals (try go_wp2)
              all_goals go_ret
              all_goals exact newInts_of (n := 2) (cap := 2) (World.ownsRow_lit (size := 1) (e := 3) (w.drewN (m+1)) #[.int .i64 (S / (G : Int)), .int .i64 ((ms.length : Int) / (G : Int))] 2 (Nat.le_refl _) (by simp [maxLen]) rfl) hf.out (((Fr.refl _ _ w).drewN (m+1)).alloc (Nat.le_refl _) _)
theorem meanI_le (ms : List Int) : (meanI ms).length ≤ 1048576 := by unfold meanI; split <;> simp
end Go.Proofs.Ytlefjhdpndmamaa
