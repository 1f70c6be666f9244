/-
  Whatever the codes, the law FnReadJournal of the given program returns true, if the library's MaxLen holds a number.
-/
import Derived.Test.YtdngnmpmaacapaaGreatDoorLineD
import Derived.Test.YtdngnmpmaacapaaGreatDoorDrawRJ
import Derived.Test.YtdngnmpmaacapaaGreatDoorDrawBoardC
import Derived.Test.YtdngnmpmaacapaaGreatDoorBoardC
import Derived.Test.YtdngnmpmaacapaaGreatDoorNum
import Derived.Deep.Cut
import Derived.Lib.QuietBelow
namespace Go.Proofs.YtdngnmpmaacapaaGreatDoor.fnReadJournal
open Go.RowKit Go.Sort

theorem deeds_take {w : World} {a : Option Addr} {ds : List Dd} (h : Sl w a (deeds ds)) (j : Nat) : Sl w a (deeds (ds.take j)) := by
  intro i hi
  have e : deeds ds = deeds (ds.take j) ++ deeds (ds.drop j) := by rw [deeds, deeds, deeds, ← rows_append, List.take_append_drop]
  have hi' : i < (deeds ds).length := by rw [e, List.length_append]; omega
  obtain ⟨b, off, h1, h2⟩ := h i hi'
  refine ⟨b, off, h1, ?_⟩
  rw [h2]
  congr 1
  have : (deeds ds)[i]? = (deeds (ds.take j))[i]? := by rw [e, List.getElem?_append_left hi]
  rw [List.getElem?_eq_getElem hi', List.getElem?_eq_getElem hi] at this
  exact Option.some.inj this
theorem has_at {ds : List Dd} (h : ∀ d ∈ ds, deedT d ≠ ⟨#[]⟩) (k : Nat) (hk : k < ds.length) : deedT (ds.getD k noDeed) ≠ ⟨#[]⟩ := by
  have e : ds.getD k noDeed = ds[k] := by simp [List.getD_eq_getElem?_getD, hk]
  rw [e]; exact h _ (List.getElem_mem hk)
theorem len_at (xs : List Tst) (ds : List Dd) (h : xs.length ≤ 4) (hb : boardOkB xs = true) (k : Nat) : (runTo xs ds k).1.length ≤ 6 := runTo_len hb k

set_option maxHeartbeats 8000000 in
set_option maxRecDepth 100000 in
theorem walk {w : World} (m : Int) (hm : w.cell? ⟨0, 0, none⟩ = some (.int .i64 m)) (a : Option Addr) (cap : Nat) (bs : List Int) (hs : Sl w a (bs.map (Value.int .u8))) (hb : ∀ x ∈ bs, 0 ≤ x ∧ x ≤ 255) (hcap : bs.length ≤ cap)
    (a' : Option Addr) (cap' : Nat) (bs' : List Int) (hs' : Sl w a' (bs'.map (Value.int .u8))) (hb' : ∀ x ∈ bs', 0 ≤ x ∧ x ≤ 255) (hcap' : bs'.length ≤ cap') :
    Calls Tryz.prog 6 #[.slice a bs.length cap, .slice a' bs'.length cap'] w fun e w' => e = .returned (.bool true) ∧ Fr w.heap.size none w w' := by
  have hb0 := World.block_lt_of_cell? w _ hm
  dsimp only at hb0
  have HM := Lib.hid hm; clear hm
  have HS : Hid (Sl w a (u8s bs)) := hs
  have HB := Lib.hid hb; clear hs hb
  have HS' : Hid (Sl w a' (u8s bs')) := hs'
  have HB' := Lib.hid hb'; clear hs' hb'
  by_cases hn : bs.length ≤ 1048576
  · by_cases hn' : bs'.length ≤ 1048576
    · go_enter Tryz.func6, Tryz.ntmps6
      go_wp2_with fail
      refine (drawReadJ_any a cap bs _ HS.out HB.out hn hcap).mono ?_; rintro e w1 ⟨⟨s, rfl, hsz⟩, hF1⟩
      have G1 := Lib.hid hF1; clear hF1
      have PRE := Lib.hid (fun k hk => readJ_pre s k hk)
      have hrl := readJ_len s
      have hnl := readJ_le s
      have TD := Lib.hid (readJ_tiny s)
      have HT := Lib.hid (readJ_has s)
      have BK := Lib.hid (readJ_back s)
      have CR := Lib.hid (fun W hW => implReadJ_any s m W (by omega) hW)
      have CP := Lib.hid (fun W => specReadJ_any s W (by omega))
      generalize readJ s = r at *
      obtain ⟨ds, n⟩ := r
      dsimp only at *
      have M1 := Lib.hid ((G1.out.cell (p := ⟨0, 0, none⟩) hb0 (by simp)).trans HM.out)
      go_wp2_with fail
      refine (CR.out _ M1.out).mono ?_; rintro e w2 ⟨a2, c2, rfl, ho2, hF2⟩
      have G2 := Lib.hid (G1.out.and hF2)
      have D2 := Lib.hid ho2
      clear hF2 ho2 CR
      go_wp2_with fail
      refine (CP.out _).mono ?_; rintro e w3 ⟨a3, c3, rfl, ho3, hF3⟩
      have G3 := Lib.hid (G2.out.and hF3)
      have D3 := Lib.hid (Own.keep D2.out hF3)
      have E3 := Lib.hid ho3
      clear hF3 ho3 CP
      go_wp2_with fail
      refine (sameDeeds_any _ _ _ _ ds _ D3.out.sl E3.out.sl (by omega)).mono ?_; rintro e w4 ⟨rfl, hF4⟩
      have G4 := Lib.hid (G3.out.and hF4)
      have D4 := Lib.hid (Own.keep D3.out hF4)
      clear hF4
      have hcd := own_lecap D4.out
      have M4 := Lib.hid ((G4.out.cell (p := ⟨0, 0, none⟩) hb0 (by simp)).trans HM.out)
      have hb4 : 0 < w4.heap.size := Nat.lt_of_lt_of_le hb0 G4.out.size
      go_wp2
      go_loopw [10] (fun i wr => ∃ k : Nat, k ≤ s.size + 1 ∧ i = .int .i64 k ∧ Fr w4.heap.size none w4 wr) (fun i _ => s.size + 1 - (intOf i).toNat)
      case atStart => exact ⟨0, Nat.zero_le _, rfl, Fr.refl _ _ _⟩
      case round =>
        obtain ⟨k, hk, rfl, hF⟩ := hrel
        have HF := Lib.hid hF; clear hF
        by_cases hlt : k ≤ s.size
        · have hlt' : (k : Int) ≤ (s.size : Int) := by omega
          have k0 : (0 : Int) ≤ (k : Int) := by omega
          have MR := Lib.hid ((HF.out.cell (p := ⟨0, 0, none⟩) hb4 (by simp)).trans M4.out)
          have pk := PRE.out k hlt
          have CK := Lib.hid (fun W hW => implReadJ_any (s.extract 0 k) m W (by rw [ByteArray.size_extract]; omega) hW)
          generalize readJ (s.extract 0 k) = r2 at *
          obtain ⟨ys, mk⟩ := r2
          dsimp only at *
          obtain ⟨⟨j, hj, hys, hyl⟩, hmk⟩ := pk
          have HYS := Lib.hid hys; clear hys
          have hle : (ys.length : Int) ≤ (ds.length : Int) := by omega
          have hmin : min (ys.length : Int) (ds.length : Int) = (ys.length : Int) := by omega
          have hmk' : (mk : Int) ≤ (k : Int) := by omega
          have hyc : (ys.length : Int) ≤ (c2 : Int) := by omega
          have hyl2 : ys.length ≤ 3000 := by omega
          clear hyl hj hmk
          go_wp2_with fail
          refine (CK.out _ MR.out).mono ?_; rintro e w5 ⟨a5, c5, rfl, ho5, hF5⟩
          have F5 := Lib.hid (HF.out.and hF5)
          have Y5 := Lib.hid ho5
          have D5 := Lib.hid (deeds_take (Own.sl (Own.keep D4.out F5.out)) j)
          rw [← HYS.out] at D5
          clear hF5 ho5 CK
          go_wp2_with fail
          refine (sameDeeds_any _ _ _ _ ys _ Y5.out.sl D5.out (by omega)).mono ?_; rintro e w6 ⟨rfl, hF6⟩
          have F6 := Lib.hid (F5.out.and hF6)
          clear hF6
          go_wp2
          go_roundw
          case rel => exact ⟨k + 1, by omega, by go_num, F6.out⟩
          case measure => simp [intOf]; omega
        · have hgt : (s.size : Int) < (k : Int) := by omega
          clear hlt
          go_wp2_with fail
          refine (drawBoardRun_any a' cap' bs' _ ((HS'.out.fr G4.out).fr HF.out) HB'.out hn' hcap').mono ?_; rintro e w5 ⟨v, u, rfl, ⟨a5, c5, xs, rfl, hx, hxl, hxT⟩, ⟨g5, d5, ds5, rfl, _, _, _⟩, hF5⟩
          have F5 := Lib.hid (HF.out.and hF5)
          have G5 := Lib.hid (G4.out.and F5.out)
          have X5 := Lib.hid (Own.of hx)
          have D5 := Lib.hid (Own.keep D4.out F5.out)
          have XT := Lib.hid hxT.small
          have hxc := own_lecap X5.out
          have M5 := Lib.hid ((G5.out.cell (p := ⟨0, 0, none⟩) hb0 (by simp)).trans HM.out)
          have hb5 : 0 < w5.heap.size := Nat.lt_of_lt_of_le hb0 G5.out.size
          clear hF5 hx hxT PRE M4 M1 HF D4 D3 D2 E3 G1 G2 G3
          cases hB : boardOkB xs
          · have HBX := Lib.hid hB; clear hB
            go_wp2
            go_loopw [15, 16] (fun v i wr => v = .slice a5 xs.length c5 ∧ i = .int .i64 0 ∧ wr = w5) (fun _ _ _ => 0)
            case atStart => exact ⟨rfl, rfl, rfl⟩
            case round =>
              obtain ⟨rfl, rfl, rfl⟩ := hrel
              by_cases hlt2 : 0 < ds.length
              · have hlt' : (0 : Int) < (ds.length : Int) := by omega
                go_wp2_with (go_at_call 12; refine (specBoard_val (Own.sl X5.out) (by omega) XT.out HBX.out).mono ?_; rintro e w6' ⟨rfl, mb0, rfl⟩)
                have SX := Lib.hid (Sl.drewN (Own.sl X5.out) mb0)
                have SD := Lib.hid (Sl.drewN (Own.sl D5.out) mb0)
                have GR := Lib.hid (G5.out.drewN mb0)
                refine (implBoardRun_any _ _ xs _ _ ds _ SX.out (by omega) XT.out SD.out (by omega) TD.out.small).mono ?_; rintro e w6 ⟨a6, c6, rfl, ho6, hF6⟩
                have G6 := Lib.hid (GR.out.and hF6)
                have X6 := Lib.hid (SX.out.fr hF6)
                have D6 := Lib.hid (SD.out.fr hF6)
                have SZ6 := Lib.hid (fun a c W hW => implJournal_any a c ds W hW (by omega) TD.out.small)
                have hnl' : (n : Int) ≤ (s.size : Int) := by omega
                have n0 : (0 : Int) ≤ (n : Int) := by omega
                rw [BK.out] at SZ6
                clear hF6 ho6
                go_upto_region 24 with fail
                have BW := Lib.hid (fun d os => Fr.of_below (below_regrown w6 d os))
                have cJ := fun c d os => Calls.regrown_of (w := w6) (d := d) (os := os) ((SZ6.out _ c _ (D6.out.fr (BW.out d os))).mono fun e w' ⟨he, hF⟩ => ⟨he, hF.below⟩)
                have cB := fun c d os => Calls.regrown_of (w := w6) (d := d) (os := os) ((specBoard_val (cap := c) (X6.out.fr (BW.out d os)) (by omega) XT.out HBX.out).mono fun e w' ⟨he, mb, hw⟩ => ⟨he, by rw [hw]; exact ((Fr.refl _ _ _).drewN mb).below⟩)
                have cA := fun d os => Calls.regrown_of (w := w6) (d := d) (os := os) ((alive_any _).mono fun e w' ⟨he, hw⟩ => ⟨he, by rw [← hw]; exact (Fr.refl _ _ _).below⟩)
                refine wp_region_quiet_below (by kernel_rfl) (by kernel_rfl) ?_
                repeat (quiet_step (first | (go_at_call 36; exact cJ _ _ _) | (go_at_call 12; exact cB _ _ _) | (go_at_call 13; exact cA _ _)))
                refine wpQuiet_nil ?_
                intro _ hw'
                obtain ⟨⟨dq, osq⟩, hw2⟩ := hw'
                subst hw2
                have FE := Lib.hid (G6.out.and (BW.out dq osq))
                go_wp2
                go_ret
                exact ⟨rfl, FE.out⟩
              · have hge : (ds.length : Int) ≤ 0 := by omega
                have SX := Lib.hid (Own.sl X5.out)
                have SD := Lib.hid (Own.sl D5.out)
                have GR := Lib.hid G5.out
                go_wp2_with fail
                refine (implBoardRun_any _ _ xs _ _ ds _ SX.out (by omega) XT.out SD.out (by omega) TD.out.small).mono ?_; rintro e w6 ⟨a6, c6, rfl, ho6, hF6⟩
                have G6 := Lib.hid (GR.out.and hF6)
                have X6 := Lib.hid (SX.out.fr hF6)
                have D6 := Lib.hid (SD.out.fr hF6)
                have SZ6 := Lib.hid (fun a c W hW => implJournal_any a c ds W hW (by omega) TD.out.small)
                have hnl' : (n : Int) ≤ (s.size : Int) := by omega
                have n0 : (0 : Int) ≤ (n : Int) := by omega
                rw [BK.out] at SZ6
                clear hF6 ho6
                go_upto_region 24 with fail
                have BW := Lib.hid (fun d os => Fr.of_below (below_regrown w6 d os))
                have cJ := fun c d os => Calls.regrown_of (w := w6) (d := d) (os := os) ((SZ6.out _ c _ (D6.out.fr (BW.out d os))).mono fun e w' ⟨he, hF⟩ => ⟨he, hF.below⟩)
                have cB := fun c d os => Calls.regrown_of (w := w6) (d := d) (os := os) ((specBoard_val (cap := c) (X6.out.fr (BW.out d os)) (by omega) XT.out HBX.out).mono fun e w' ⟨he, mb, hw⟩ => ⟨he, by rw [hw]; exact ((Fr.refl _ _ _).drewN mb).below⟩)
                have cA := fun d os => Calls.regrown_of (w := w6) (d := d) (os := os) ((alive_any _).mono fun e w' ⟨he, hw⟩ => ⟨he, by rw [← hw]; exact (Fr.refl _ _ _).below⟩)
                refine wp_region_quiet_below (by kernel_rfl) (by kernel_rfl) ?_
                repeat (quiet_step (first | (go_at_call 36; exact cJ _ _ _) | (go_at_call 12; exact cB _ _ _) | (go_at_call 13; exact cA _ _)))
                refine wpQuiet_nil ?_
                intro _ hw'
                obtain ⟨⟨dq, osq⟩, hw2⟩ := hw'
                subst hw2
                have FE := Lib.hid (G6.out.and (BW.out dq osq))
                go_wp2
                go_ret
                exact ⟨rfl, FE.out⟩
          · have HBX := Lib.hid hB
            have RL := Lib.hid (fun k => runTo_len (ds := ds) hB k)
            have RO := Lib.hid (fun k => runTo_ok (ds := ds) hB k)
            clear hB
            have RS := Lib.hid (fun k => runTo_small (xs := xs) (ds := ds) XT.out TD.out.small k)
            go_wp2
            go_loopw [15, 16] (fun v i wr => ∃ (k : Nat) (an : Option Addr) (cn : Nat) (ys : List Tst), k ≤ ds.length ∧ i = .int .i64 k ∧ v = .slice an ys.length cn ∧ Hid ((runTo xs ds k).1 = ys) ∧ ys.length ≤ cn ∧ Hid (Sl wr an (tests ys)) ∧ Fr w5.heap.size none w5 wr) (fun _ i _ => ds.length - (intOf i).toNat)
            case atStart => exact ⟨0, a5, c5, xs, Nat.zero_le _, rfl, rfl, rfl, hxc, Own.sl X5.out, Fr.refl _ _ _⟩
            case round =>
              obtain ⟨k, an, cn, ys, hk2, rfl, rfl, hY, hyc, hS, hF⟩ := hrel
              have HF := Lib.hid hF; clear hF
              by_cases hlt2 : k < ds.length
              · have hlt' : (k : Int) < (ds.length : Int) := by omega
                have k0 : (0 : Int) ≤ (k : Int) := by omega
                obtain ⟨b, off, rfl, hc0, ⟨hc1, hc2, hc3⟩, hc1', hc2', hc3'⟩ := ((Own.sl D5.out).fr HF.out).deed k hlt2
                have htx := has_at HT.out k hlt2
                have hrd := readD_text htx
                have hstep := Lib.hid (fun d h => run_step (xs := xs) (ds := ds) (k := k) (d := d) h)
                have hds := Lib.hid (deedT_size (ds.getD k noDeed))
                have hdz := Lib.hid (TD.out.small.at k)
                have hyz := RS.out k; have hyo := RO.out k; have hyl := RL.out k
                rw [hY.out] at hyz hyo hyl
                obtain ⟨d, hde⟩ : ∃ d, ds.getD k noDeed = d := ⟨_, rfl⟩
                have f1 := hstep.out d hde
                rw [hY.out] at f1
                have f1 := Lib.hid f1
                rw [hde] at hc0 hc1 hc2 hc3 hc1' hc2' hc3' hdz hds hrd
                have HDZ := Lib.hid hdz.out
                have HYZ := Lib.hid hyz; have HYO := Lib.hid hyo; have HRD := Lib.hid hrd
                have CT := Lib.hid (fun W => implDeedText_any d W HDZ.out)
                have MR := Lib.hid ((HF.out.cell (p := ⟨0, 0, none⟩) hb5 (by simp)).trans M5.out)
                have CL := Lib.hid (fun W hW hM' => lineDeed_any an cn ys d (deedT d) m W hW HYZ.out HDZ.out hyc HYO.out HRD.out (by have := hds.out; omega) hM')
                clear hde hstep htx hrd hyz hyo hdz
                obtain ⟨ys2, hys2⟩ : ∃ z, (runTo xs ds (k + 1)).1 = z := ⟨_, rfl⟩
                have Y2 := Lib.hid hys2
                have f2 := Lib.hid (f1.out.trans hys2)
                clear hys2 f1
                have CL2 : Hid (∀ W, Sl W an (tests ys) → W.cell? ⟨0, 0, none⟩ = some (.int .i64 m) → Calls Tryz.prog 9 #[.slice an ys.length cn, .string (deedT d)] W (NewTS ys2 (okS (doI ys d).2) W)) := Lib.hid (by rw [← f2.out]; exact CL.out)
                clear CL f2
                generalize (doI ys d).2 = bo at *
                generalize deedT d = t at *
                obtain ⟨d0, x1, x2, x3⟩ := d
                dsimp only at *
                go_wp2_with (go_at_call 12; refine (specBoard_val ((Own.sl X5.out).fr HF.out) (by omega) XT.out HBX.out).mono ?_; rintro e w6 ⟨rfl, mb, rfl⟩)
                have SM := Lib.hid (Sl.drewN hS.out mb)
                have MM := Lib.hid (show (wr.drewN mb).cell? ⟨0, 0, none⟩ = some (.int .i64 m) from MR.out)
                have FM := Lib.hid (HF.out.drewN mb)
                go_wp2_with fail
                refine (CT.out _).mono ?_; rintro e w7 ⟨rfl, hF7⟩
                have S7 := Lib.hid (SM.out.fr hF7)
                have M7 := Lib.hid ((hF7.cell (p := ⟨0, 0, none⟩) (by show 0 < wr.heap.size; exact Nat.lt_of_lt_of_le hb5 HF.out.size) (by simp)).trans MM.out)
                have F7 := Lib.hid (FM.out.and hF7)
                clear hF7 hc0 hc1 hc2 hc3 hc1' hc2' hc3'
                go_wp2_with fail
                refine (CL2.out _ S7.out M7.out).mono ?_; rintro e w8 ⟨an2, cn2, rfl, ho8, hF8⟩
                have F8 := Lib.hid (F7.out.and hF8)
                have S8 := Lib.hid (Own.sl ho8)
                have hc8 := own_lecap ho8
                clear hF8 ho8 CL2 CT
                cases bo
                · rw [show okS false = (⟨#[110, 111]⟩ : ByteArray) from rfl]
                  go_wp2
                  go_roundw
                  case rel => exact ⟨k + 1, an2, cn2, ys2, by omega, by go_num, rfl, Y2, hc8, S8, F8.out⟩
                  case measure => simp [intOf]; omega
                · rw [show okS true = (⟨#[111, 107]⟩ : ByteArray) from rfl]
                  go_wp2
                  go_roundw
                  case rel => exact ⟨k + 1, an2, cn2, ys2, by omega, by go_num, rfl, Y2, hc8, S8, F8.out⟩
                  case measure => simp [intOf]; omega
              · have hke : k = ds.length := by omega
                have hge : (ds.length : Int) ≤ (k : Int) := by omega
                have SX := Lib.hid ((Own.sl X5.out).fr HF.out)
                have SD := Lib.hid ((Own.sl D5.out).fr HF.out)
                have GR := Lib.hid (G5.out.and HF.out)
                rw [hke] at hY
                clear hke
                by_cases h40 : ds.length ≤ 40
                · have hrc := Lib.hid (show runC xs ds = ys by rw [← runC_yes (xs := xs) (ds := ds) (by simp [runOk, HBX.out, h40]), hY.out])
                  have h40' : decide (40 < (ds.length : Int)) = false := by simp; omega
                  have hyl : ys.length ≤ 6 := by have := RL.out ds.length; rw [hY.out] at this; exact this
                  clear RL RO RS
                  go_wp2_with fail
                  refine (implBoardRun_any _ _ xs _ _ ds _ SX.out (by omega) XT.out SD.out (by omega) TD.out.small).mono ?_; rintro e w6 ⟨a6, c6, rfl, ho6, hF6⟩
                  have G6 := Lib.hid (GR.out.and hF6)
                  have X6 := Lib.hid (SX.out.fr hF6)
                  have D6 := Lib.hid (SD.out.fr hF6)
                  have SZ6 := Lib.hid (fun a c W hW => implJournal_any a c ds W hW (by omega) TD.out.small)
                  have hnl' : (n : Int) ≤ (s.size : Int) := by omega
                  have n0 : (0 : Int) ≤ (n : Int) := by omega
                  rw [BK.out] at SZ6
                  have N6 := Lib.hid (hS.out.fr hF6)
                  have E6 := Lib.hid (Own.sl ho6)
                  clear hF6 ho6
                  rw [hrc.out] at E6 ⊢
                  clear hrc
                  go_upto_region 24 with fail
                  have BW := Lib.hid (fun d os => Fr.of_below (below_regrown w6 d os))
                  have cJ := fun c d os => Calls.regrown_of (w := w6) (d := d) (os := os) ((SZ6.out _ c _ (D6.out.fr (BW.out d os))).mono fun e w' ⟨he, hF⟩ => ⟨he, hF.below⟩)
                  have cB := fun c d os => Calls.regrown_of (w := w6) (d := d) (os := os) ((specBoard_val (cap := c) (X6.out.fr (BW.out d os)) (by omega) XT.out HBX.out).mono fun e w' ⟨he, mb, hw⟩ => ⟨he, by rw [hw]; exact ((Fr.refl _ _ _).drewN mb).below⟩)
                  have cA := fun d os => Calls.regrown_of (w := w6) (d := d) (os := os) ((alive_any _).mono fun e w' ⟨he, hw⟩ => ⟨he, by rw [← hw]; exact (Fr.refl _ _ _).below⟩)
                  have cS := fun c1 c2 d os => Calls.regrown_of (w := w6) (d := d) (os := os) ((sameTests_any _ _ c1 c2 ys _ (N6.out.fr (BW.out d os)) (E6.out.fr (BW.out d os)) (by omega)).mono fun e w' ⟨he, hF⟩ => ⟨he, hF.below⟩)
                  refine wp_region_quiet_below (by kernel_rfl) (by kernel_rfl) ?_
                  repeat (quiet_step (first | (go_at_call 36; exact cJ _ _ _) | (go_at_call 12; exact cB _ _ _) | (go_at_call 13; exact cA _ _) | (go_at_call 11; exact cS _ _ _ _)))
                  refine wpQuiet_nil ?_
                  intro _ hw'
                  obtain ⟨⟨dq, osq⟩, hw2⟩ := hw'
                  subst hw2
                  have FE := Lib.hid (G6.out.and (BW.out dq osq))
                  go_wp2
                  go_ret
                  exact ⟨rfl, FE.out⟩
                · have h40' : decide (40 < (ds.length : Int)) = true := by simp; omega
                  clear RL RO RS
                  go_wp2_with fail
                  refine (implBoardRun_any _ _ xs _ _ ds _ SX.out (by omega) XT.out SD.out (by omega) TD.out.small).mono ?_; rintro e w6 ⟨a6, c6, rfl, ho6, hF6⟩
                  have G6 := Lib.hid (GR.out.and hF6)
                  have X6 := Lib.hid (SX.out.fr hF6)
                  have D6 := Lib.hid (SD.out.fr hF6)
                  have SZ6 := Lib.hid (fun a c W hW => implJournal_any a c ds W hW (by omega) TD.out.small)
                  have hnl' : (n : Int) ≤ (s.size : Int) := by omega
                  have n0 : (0 : Int) ≤ (n : Int) := by omega
                  rw [BK.out] at SZ6
                  clear hF6 ho6
                  go_upto_region 24 with fail
                  have BW := Lib.hid (fun d os => Fr.of_below (below_regrown w6 d os))
                  have cJ := fun c d os => Calls.regrown_of (w := w6) (d := d) (os := os) ((SZ6.out _ c _ (D6.out.fr (BW.out d os))).mono fun e w' ⟨he, hF⟩ => ⟨he, hF.below⟩)
                  have cB := fun c d os => Calls.regrown_of (w := w6) (d := d) (os := os) ((specBoard_val (cap := c) (X6.out.fr (BW.out d os)) (by omega) XT.out HBX.out).mono fun e w' ⟨he, mb, hw⟩ => ⟨he, by rw [hw]; exact ((Fr.refl _ _ _).drewN mb).below⟩)
                  have cA := fun d os => Calls.regrown_of (w := w6) (d := d) (os := os) ((alive_any _).mono fun e w' ⟨he, hw⟩ => ⟨he, by rw [← hw]; exact (Fr.refl _ _ _).below⟩)
                  refine wp_region_quiet_below (by kernel_rfl) (by kernel_rfl) ?_
                  repeat (quiet_step (first | (go_at_call 36; exact cJ _ _ _) | (go_at_call 12; exact cB _ _ _) | (go_at_call 13; exact cA _ _)))
                  refine wpQuiet_nil ?_
                  intro _ hw'
                  obtain ⟨⟨dq, osq⟩, hw2⟩ := hw'
                  subst hw2
                  have FE := Lib.hid (G6.out.and (BW.out dq osq))
                  go_wp2
                  go_ret
                  exact ⟨rfl, FE.out⟩
    · go_enter Tryz.func6, Tryz.ntmps6
      go_wp2
      go_ret
      exact ⟨rfl, Fr.refl _ _ _⟩
  · go_enter Tryz.func6, Tryz.ntmps6
    go_wp2
    go_ret
    exact ⟨rfl, Fr.refl _ _ _⟩
end Go.Proofs.YtdngnmpmaacapaaGreatDoor.fnReadJournal
