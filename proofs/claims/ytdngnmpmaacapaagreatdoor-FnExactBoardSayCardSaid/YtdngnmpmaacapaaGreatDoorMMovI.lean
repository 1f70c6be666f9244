/-
  Merged: MovI.
-/
import Derived.Test.YtdngnmpmaacapaaGreatDoorMShelfJ
import Derived.Test.YtdngnmpmaacapaaGreatDoorMSumI
import Derived.Test.YtdngnmpmaacapaaGreatDoorMWroteS
set_option linter.unusedVariables false
set_option linter.unusedSimpArgs false
/-
  Contracts: MovedBy, TotalOf of the program; strings.Repeat at noughts.
-/
namespace Go.Proofs.YtdngnmpmaacapaaGreatDoor
open Go.RowKit

theorem rep_zeros (p : Nat) : (⟨(Lib.repeatL (⟨#[48]⟩ : ByteArray).data.toList p).toArray⟩ : ByteArray) = zerosB p := by
  have h : ∀ p, Lib.repeatL [48] p = List.replicate p 48 := by
    intro p
    induction p with
    | zero => rfl
    | succ p ih => simp [Lib.repeatL, ih, List.replicate_succ]
  show mkL (Lib.repeatL [48] p) = _
  rw [h]; rfl
theorem zerosB_size (p : Nat) : (zerosB p).size = p := by unfold zerosB; rw [mkL_size, List.length_replicate]
theorem repeat_any (p : Nat) (w : World) (hp : p ≤ 9) : Calls Tryz.prog 222 #[.string ⟨#[48]⟩, .int .i64 (p : Int)] w fun e w' => e = .returned (.string (zerosB p)) ∧ Fr w.heap.size none w w' := by
  refine (repeatLib ⟨#[48]⟩ p w (by omega) (by show 1 * p ≤ _; omega)).mono ?_
  rintro e w' ⟨rfl, hB⟩
  exact ⟨by rw [rep_zeros], Fr.of_below hB⟩
set_option maxRecDepth 100000 in
theorem implMoved_any (s : ByteArray) (p : Nat) (w : World) (hs : s.size ≤ 1048576) (hp : p ≤ 8) :
    Calls Tryz.prog 191 #[.string s, .int .i64 (p : Int)] w fun e w' => e = .returned (.tuple #[.string (movI s p).1, .bool (movI s p).2]) ∧ Fr w.heap.size none w w' := by
  have p0 : (0 : Int) ≤ (p : Int) := by omega
  cases h : numOk s
  · have hr := Lib.hid (show ((⟨#[]⟩ : ByteArray), false) = movI s p by simp [movI, h])
    have H := Lib.hid h; clear h
    go_enter Tryz.func191, Tryz.ntmps191
    go_wp2_with fail
    refine (num_val hs H.out _).mono ?_; rintro e w' ⟨rfl, rfl⟩
    go_wp2
    go_ret2
    exact ⟨ret_pair hr.out, Fr.refl _ _ _⟩
  · by_cases hz : s = zeroS
    · subst hz
      have hr := Lib.hid (show (zeroS, true) = movI zeroS p by simp [movI, h])
      have H := Lib.hid h; clear h
      unfold zeroS at H hr
      dsimp only [zeroS]
      go_enter Tryz.func191, Tryz.ntmps191
      go_wp2_with fail
      refine (num_val (by decide) H.out _).mono ?_; rintro e w' ⟨rfl, rfl⟩
      go_wp2
      go_ret2
      exact ⟨ret_pair hr.out, Fr.refl _ _ _⟩
    · have hl := num_len h
      have hzl : (s.toList == [48]) = false := lit_ne (l := [48]) hz
      have hr := Lib.hid (show (if s.size + p ≤ 9 then (s ++ zerosB p, true) else ((⟨#[]⟩ : ByteArray), false)) = movI s p by simp [movI, h, hz])
      have H := Lib.hid h; clear h
      have HZ := Lib.hid hz; clear hz
      have hzs := zerosB_size p
      by_cases h9 : s.size + p ≤ 9
      · have hle : (p : Int) ≤ 9 - (s.size : Int) := by omega
        have hr2 := Lib.hid (show (s ++ zerosB p, true) = movI s p by rw [← hr.out, if_pos h9])
        have CR := Lib.hid (fun W => repeat_any p W (by omega))
        have hno : ¬ 9223372036854775807 < s.size + (zerosB p).size := by omega
        have HZS := Lib.hid hzs; clear hzs
        generalize zerosB p = Z at *
        go_enter Tryz.func191, Tryz.ntmps191
        go_wp2_with fail
        refine (num_val hs H.out _).mono ?_; rintro e w' ⟨rfl, rfl⟩
        go_wp2_with fail
        refine (CR.out _).mono ?_; rintro e w1 ⟨rfl, hF1⟩
        go_wp2
        go_ret2
        exact ⟨ret_pair hr2.out, hF1⟩
      · have hle : 9 - (s.size : Int) < (p : Int) := by omega
        have hr2 := Lib.hid (show ((⟨#[]⟩ : ByteArray), false) = movI s p by rw [← hr.out, if_neg h9])
        clear hzs
        go_enter Tryz.func191, Tryz.ntmps191
        go_wp2_with fail
        refine (num_val hs H.out _).mono ?_; rintro e w' ⟨rfl, rfl⟩
        go_wp2
        go_ret2
        exact ⟨ret_pair hr2.out, Fr.refl _ _ _⟩
set_option maxHeartbeats 1000000 in
set_option maxRecDepth 100000 in
theorem implTotal_any (a : Option Addr) (cap : Nat) (xs : List ByteArray) (w : World) (hs : Sl w a (strs xs)) (hn : xs.length ≤ 9) (hz : ∀ k, k < xs.length → (xs.getD k noS).size ≤ 1048576) :
    Calls Tryz.prog 154 #[.slice a xs.length cap] w fun e w' => e = .returned (.tuple #[.string (totI xs).1, .bool (totI xs).2]) ∧ Fr w.heap.size none w w' := by
  have HS := Lib.hid hs; have HZ := Lib.hid hz; clear hs hz
  have k9 : ¬ (9 : Int) < (xs.length : Int) := by omega
  go_enter Tryz.func154, Tryz.ntmps154
  go_wp2
  go_loopw [4, 14] (fun v i wr => ∃ (k : Nat) (now : ByteArray), k ≤ xs.length ∧ i = .int .i64 k ∧ v = .string now ∧ now.size ≤ 9 ∧ Hid (totF (xs.drop k) now = totI xs) ∧ Fr w.heap.size none w wr) (fun _ i _ => xs.length - (intOf i).toNat)
  case atStart => exact ⟨0, ⟨#[48]⟩, Nat.zero_le _, rfl, rfl, by decide, rfl, Fr.refl _ _ _⟩
  case round =>
    obtain ⟨k, now, hk, rfl, rfl, hsz, hT, hF⟩ := hrel
    have HF := Lib.hid hF; clear hF
    by_cases hlt : k < xs.length
    · obtain ⟨b, off, rfl, hc⟩ := (HS.out.fr HF.out).str k hlt
      have hzk := HZ.out k hlt
      have e1 := hT.out
      rw [drop_str hlt] at e1
      generalize xs.getD k noS = u at *
      have CS := Lib.hid (fun W => implSum_any now u W (by omega) hzk)
      have SZ := Lib.hid (fun h => sumI_size (s := now) (t := u) h)
      simp only [totF] at e1
      have E1 := Lib.hid e1
      clear e1 hT
      generalize sumI now u = r at *
      obtain ⟨r1, r2⟩ := r
      dsimp only at *
      have k0 : (0 : Int) ≤ (k : Int) := by omega
      have k1 : (k : Int) < (xs.length : Int) := by omega
      cases r2
      · have hr := Lib.hid (show ((⟨#[]⟩ : ByteArray), false) = totI xs by rw [← E1.out]; simp)
        go_wp2_with fail
        refine (CS.out _).mono ?_; rintro e w2 ⟨rfl, hF2⟩
        have F2 := Lib.hid (HF.out.and hF2); clear hF2
        go_wp2
        go_ret2
        exact ⟨ret_pair hr.out, F2.out⟩
      · have hr := Lib.hid (show totF (xs.drop (k + 1)) r1 = totI xs by rw [← E1.out]; simp)
        have hsz2 := SZ.out rfl
        clear E1 SZ
        go_wp2_with fail
        refine (CS.out _).mono ?_; rintro e w2 ⟨rfl, hF2⟩
        have F2 := Lib.hid (HF.out.and hF2); clear hF2
        go_wp2
        go_roundw
        case rel => exact ⟨k + 1, r1, by omega, by go_num, rfl, hsz2, hr, F2.out⟩
        case measure => simp [intOf]; omega
    · have hke : k = xs.length := by omega
      have hge : (xs.length : Int) ≤ (k : Int) := by omega
      have hr := Lib.hid (show (now, true) = totI xs by rw [← hT.out, hke, List.drop_length]; rfl)
      clear hke
      go_wp2
      go_ret2
      exact ⟨ret_pair hr.out, HF.out⟩
end Go.Proofs.YtdngnmpmaacapaaGreatDoor
