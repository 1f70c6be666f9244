/-
  Merged: ValC.
-/
import Derived.Test.YtdngnmpmaacapaaGreatDoorMShelfJ
import Derived.Test.YtdngnmpmaacapaaGreatDoorMValP
import Derived.Test.YtdngnmpmaacapaaGreatDoorMOrdP
import Derived.Lib.SmallJoins
set_option linter.unusedVariables false
set_option linter.unusedSimpArgs false
/-
  Contracts: ValueOf of both.
-/
namespace Go.Proofs.YtdngnmpmaacapaaGreatDoor
open Go.RowKit

theorem atoi_any (s : ByteArray) (w : World) (h : numOk s = true) : Calls Tryz.prog 157 #[.string s] w fun e w' => e = .returned (.tuple #[.int .i64 (valI s), .nilIface]) ∧ Fr w.heap.size none w w' := by
  have hl := num_len h
  have hv : (valN s : Int) = valI s := by unfold valI; rw [if_pos h]
  refine (atoiLib s (valN s : Int) (by omega) (val_atoi h) w).mono ?_
  rintro e w' ⟨rfl, t, rfl⟩
  exact ⟨by rw [hv], Fr.of_below (Joins.below_bytesWorld _ _ _ _ (Nat.le_refl _))⟩
set_option maxRecDepth 100000 in
theorem implValue_any (s : ByteArray) (w : World) (hs : s.size ≤ 1048576) : Calls Tryz.prog 120 #[.string s] w fun e w' => e = .returned (.int .i64 (valI s)) ∧ Fr w.heap.size none w w' := by
  cases h : numOk s
  · have hr := Lib.hid (show -1 = valI s by unfold valI; rw [h]; rfl)
    have H := Lib.hid h; clear h
    go_enter Tryz.func120, Tryz.ntmps120
    go_wp2_with fail
    refine (num_val hs H.out _).mono ?_; rintro e w' ⟨rfl, rfl⟩
    go_wp2
    go_ret
    exact ⟨ret_int hr.out, Fr.refl _ _ _⟩
  · have CA := Lib.hid (fun W => atoi_any s W h)
    have H := Lib.hid h; clear h
    go_enter Tryz.func120, Tryz.ntmps120
    go_wp2_with fail
    refine (num_val hs H.out _).mono ?_; rintro e w' ⟨rfl, rfl⟩
    go_wp2_with fail
    refine (CA.out _).mono ?_; rintro e w1 ⟨rfl, hF1⟩
    go_wp2
    go_ret
    exact ⟨rfl, hF1⟩
set_option maxRecDepth 100000 in
theorem specValue_any (s : ByteArray) (w : World) (hs : s.size ≤ 1048576) : Calls Tryz.prog 93 #[.string s] w fun e w' => e = .returned (.int .i64 (valI s)) ∧ w = w' := by
  cases h : numOk s
  · have hr := Lib.hid (show -1 = valI s by unfold valI; rw [h]; rfl)
    have H := Lib.hid h; clear h
    go_enter Tryz.func93, Tryz.ntmps93
    go_wp2
    go_loop [3, 4] (fun v i => v = .int .i64 0 ∧ i = .int .i64 0) (fun _ _ => 0)
    case atStart => exact ⟨rfl, rfl⟩
    case round =>
      obtain ⟨rfl, rfl⟩ := hrel
      by_cases h0 : 0 < s.size
      · have h0' : (0 : Int) < (s.size : Int) := by omega
        go_wp2_with fail
        refine (numS_val hs H.out _).mono ?_; rintro e w' ⟨rfl, rfl⟩
        go_wp2_with fail
        refine (numS_val hs H.out _).mono ?_; rintro e w' ⟨rfl, rfl⟩
        go_wp2
        go_ret
        exact ⟨ret_int hr.out, rfl⟩
      · have h0' : (s.size : Int) ≤ 0 := by omega
        go_wp2_with fail
        refine (numS_val hs H.out _).mono ?_; rintro e w' ⟨rfl, rfl⟩
        go_wp2
        go_ret
        exact ⟨ret_int hr.out, rfl⟩
  · have hr := Lib.hid (show (valK s s.size : Int) = valI s by unfold valI; rw [if_pos h, valK_end])
    have VS := Lib.hid (fun k hk => valK_succ s k hk)
    have VB := Lib.hid (fun k => valK_bd h k)
    have DB := Lib.hid (fun k hk => dig_byte h k hk)
    have H := Lib.hid h; clear h
    go_enter Tryz.func93, Tryz.ntmps93
    go_wp2
    go_loop [3, 4] (fun v i => ∃ (k n : Nat), k ≤ s.size ∧ i = .int .i64 k ∧ v = .int .i64 n ∧ Hid (valK s k = n)) (fun _ i => s.size - (intOf i).toNat)
    case atStart => exact ⟨0, 0, Nat.zero_le _, rfl, rfl, Lib.hid (valK_zero s)⟩
    case round =>
      obtain ⟨k, n, hk, rfl, rfl, hN⟩ := hrel
      have nb := VB.out k
      rw [hN.out] at nb
      by_cases hlt : k < s.size
      · have hlt' : (k : Int) < (s.size : Int) := by omega
        have k0 : (0 : Int) ≤ (k : Int) := by omega
        have db := DB.out k hlt
        have e1 := VS.out k hlt
        rw [hN.out] at e1
        generalize hx : s[k].toNat = x at *
        obtain ⟨y, rfl⟩ : ∃ y, x = 48 + y := ⟨x - 48, by omega⟩
        have e2 := Lib.hid (show valK s (k + 1) = n * 10 + y by rw [e1]; omega)
        clear e1
        have y9 : y ≤ 9 := by omega
        go_wp2_with fail
        refine (numS_val hs H.out _).mono ?_; rintro e w' ⟨rfl, rfl⟩
        go_wp2
        go_round
        case rel => exact ⟨k + 1, n * 10 + y, by omega, by go_num, by first | go_num | (congr 1; omega), e2⟩
        case measure => simp [intOf]; omega
      · have hke : k = s.size := by omega
        have hge : (s.size : Int) ≤ (k : Int) := by omega
        have e1 := Lib.hid (show (n : Int) = valI s by rw [← hr.out, ← hke, hN.out])
        clear hke hN
        go_wp2_with fail
        refine (numS_val hs H.out _).mono ?_; rintro e w' ⟨rfl, rfl⟩
        go_wp2
        go_ret
        exact ⟨ret_int e1.out, rfl⟩
end Go.Proofs.YtdngnmpmaacapaaGreatDoor
