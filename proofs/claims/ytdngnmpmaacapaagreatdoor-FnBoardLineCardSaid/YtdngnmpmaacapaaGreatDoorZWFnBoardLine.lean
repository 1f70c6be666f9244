import Derived.Test.YtdngnmpmaacapaaGreatDoorMReckI
import Derived.Test.YtdngnmpmaacapaaGreatDoorMRowsC
import Derived.Test.YtdngnmpmaacapaaGreatDoorMDrawBoard
import Derived.Test.YtdngnmpmaacapaaGreatDoorMCore
set_option linter.unusedVariables false
set_option linter.unusedSimpArgs false
/-
  Whatever the code, the law FnBoardLine of the given program returns true, if the library's MaxLen holds a number and the table of powers of ten its numbers.
-/
namespace Go.Proofs.YtdngnmpmaacapaaGreatDoor.fnBoardLine
open Go.RowKit

theorem what_line {xs : List Tst} (h : boardOkB xs = true) : boardLineI xs ⟨#[32]⟩ = (xs, whatS) := by
  have h1 : readD ⟨#[32]⟩ = (noDeed, false) := by decide
  have h2 : askI xs ⟨#[32]⟩ = none := by
    unfold askI
    rw [if_neg (by decide), if_neg (by decide), if_neg (by decide), if_neg (by decide), if_neg (by decide), if_neg (by decide)]
  have h3 : reckI (wordsB ⟨#[32]⟩) = whatS := by
    have e : wordsB ⟨#[32]⟩ = [noS, noS] := by decide
    rw [e]
    unfold reckI
    rw [if_neg (by decide), if_neg (by decide), if_neg (by decide), if_neg (by decide), if_neg (by decide), if_neg (by decide)]
  unfold boardLineI lineI sayI
  rw [if_pos h, h1, h2, h3]
  rfl
theorem line_cases {xs ys : List Tst} {s t : ByteArray} (h : boardLineI xs s = (ys, t)) (hz : Small xs) :
    (boardOkB xs = false ∧ ys = [] ∧ t = ⟨#[]⟩) ∨ (boardOkB xs = true ∧ boardOkB ys = true ∧ Small ys ∧ ys.length ≤ xs.length + 1 ∧ (t = ⟨#[111, 107]⟩ ∨ ys = xs)) := by
  unfold boardLineI at h
  split at h
  · next hb =>
    refine .inr ⟨hb, ?_⟩
    have h1 := line_ok hb s
    rw [h] at h1
    unfold lineI at h
    split at h
    · next hd =>
      have e1 : (doI xs (readD s).1).1 = ys := congrArg Prod.fst h
      have e2 : okS (doI xs (readD s).1).2 = t := congrArg Prod.snd h
      have hsm : small (readD s).1.2 := by
        rcases readD_twoWays s with ⟨_, hd⟩ | hn
        · exact hd
        · rw [hn] at hd; cases hd
      refine ⟨h1, e1 ▸ do_small hz hsm, e1 ▸ do_len _, ?_⟩
      cases hb2 : (doI xs (readD s).1).2
      · exact .inr (e1 ▸ do_no hb2)
      · rw [hb2] at e2; exact .inl e2.symm
    · cases h
      exact ⟨h1, hz, by omega, .inr rfl⟩
  · next hb =>
    cases h
    exact .inl ⟨by simpa using hb, rfl, rfl⟩

set_option maxHeartbeats 4000000 in
set_option maxRecDepth 100000 in
theorem walk {w : World} (m : Int) (hm : w.cell? ⟨0, 0, none⟩ = some (.int .i64 m)) (hT : Tab w) (a : Option Addr) (cap : Nat) (bs : List Int) (hs : Sl w a (bs.map (Value.int .u8))) (hb : ∀ x ∈ bs, 0 ≤ x ∧ x ≤ 255) (hcap : bs.length ≤ cap) :
    Calls Tryz.prog 3 #[.slice a bs.length cap] w fun e w' => e = .returned (.bool true) ∧ Fr w.heap.size none w w' := by
  have hb0 := World.block_lt_of_cell? w _ hm
  dsimp only at hb0
  have HM := Lib.hid hm; clear hm
  have TAB := Lib.hid hT; clear hT
  have HS : Hid (Sl w a (u8s bs)) := hs
  have HB := Lib.hid hb; clear hs hb
  by_cases hn : bs.length ≤ 1048576
  · go_enter Tryz.func3, Tryz.ntmps3
    go_wp2_with fail
    refine (drawBoardLine_any a cap bs _ HS.out HB.out hn hcap).mono ?_; rintro e w1 ⟨v, s, rfl, ⟨a1, c1, xs, rfl, ho, hl, hTX⟩, hsz, hF⟩
    have G1 := Lib.hid hF
    have O1 := Lib.hid (Own.of ho)
    have TX := Lib.hid hTX.small
    have hc1 := own_lecap O1.out
    have CI := Lib.hid (fun W hT hM hS => implLine_any a1 c1 xs s m W hT hM hS (by omega) TX.out hc1 (by omega))
    have CP := Lib.hid (fun W hS => specLine_any a1 c1 xs s W hS (by omega) TX.out (fun h => (own_hnone O1.out h).2) (by omega))
    have CW := Lib.hid (fun hok W hT hM hS => (what_line hok) ▸ implLine_any a1 c1 xs ⟨#[32]⟩ m W hT hM hS (by omega) TX.out hc1 (by decide))
    obtain ⟨⟨ys, t⟩, hR⟩ : ∃ r, boardLineI xs s = r := ⟨_, rfl⟩
    rw [hR] at CI CP
    have CS := Lib.hid (line_cases hR TX.out)
    dsimp only at *
    have M1 := Lib.hid ((G1.out.cell (p := ⟨0, 0, none⟩) hb0 (by simp)).trans HM.out)
    have T1 := Lib.hid (TAB.out.fr G1.out)
    clear hF ho hTX hR hsz
    go_wp2_with fail
    refine (CI.out _ T1.out M1.out (Own.sl O1.out)).mono ?_; rintro e w2 ⟨a2, c2, rfl, ho2, hF2⟩
    have G2 := Lib.hid (G1.out.and hF2)
    have O2 := Lib.hid (Own.keep O1.out hF2)
    have Y2 := Lib.hid ho2
    clear hF2 ho2
    go_wp2_with fail
    refine (CP.out _ (Own.sl O2.out)).mono ?_; rintro e w3 ⟨a3, c3, rfl, ho3, hF3⟩
    have G3 := Lib.hid (G2.out.and hF3)
    have O3 := Lib.hid (Own.keep O2.out hF3)
    have Y3 := Lib.hid (Own.keep Y2.out hF3)
    have Z3 := Lib.hid ho3
    clear hF3 ho3 CI CP
    have hyl : ys.length ≤ 5 := by rcases CS.out with ⟨_, h, _⟩ | ⟨_, _, _, h, _⟩ <;> (try rw [h]) <;> first | omega | simp
    go_wp2_with fail
    refine (sameTests_any _ _ _ _ ys _ (Own.sl Y3.out) (Own.sl Z3.out) (by omega)).mono ?_; rintro e w4 ⟨rfl, hF4⟩
    have G4 := Lib.hid (G3.out.and hF4)
    have O4 := Lib.hid (Own.keep O3.out hF4)
    have Y4 := Lib.hid (Own.keep Y3.out hF4)
    clear hF4
    rcases CS.out with ⟨hbx, h0, rfl⟩ | ⟨hbx, hby, hsy, hlen, htt⟩
    · have HBX := Lib.hid hbx
      subst h0
      clear CS hbx CW
      go_wp2_with fail
      refine (specBoard_val (Own.sl O4.out) (by omega) TX.out HBX.out).mono ?_; rintro e w5 ⟨rfl, mm, rfl⟩
      have G5 := Lib.hid (G4.out.drewN mm)
      go_wp2_with fail
      refine (alive_any _).mono ?_; rintro e w' ⟨rfl, rfl⟩
      go_wp2
      go_ret
      exact ⟨rfl, G5.out⟩
    · have HBX := Lib.hid hbx
      have HBY := Lib.hid hby
      have SY := Lib.hid hsy
      have CW := Lib.hid (CW.out hbx)
      clear CS hbx hby hsy hlen
      go_wp2_with fail
      refine (specBoard_val (Own.sl O4.out) (by omega) TX.out HBX.out).mono ?_; rintro e w5' ⟨rfl, mm, rfl⟩
      obtain ⟨w5, hw5⟩ : ∃ w5, w5 = w4.drewN mm := ⟨_, rfl⟩
      have K5 := Lib.hid (show Fr w4.heap.size none w4 w5 by rw [hw5]; exact (Fr.refl _ _ _).drewN mm)
      have G5 := Lib.hid (G4.out.and K5.out)
      have O5 := Lib.hid (Own.keep O4.out K5.out)
      have Y5 := Lib.hid (Own.keep Y4.out K5.out)
      have M5 := Lib.hid ((G5.out.cell (p := ⟨0, 0, none⟩) hb0 (by simp)).trans HM.out)
      have T5 := Lib.hid (TAB.out.fr G5.out)
      rw [← hw5]
      clear hw5 K5
      go_wp2_with fail
      refine (CW.out _ T5.out M5.out (Own.sl O5.out)).mono ?_; rintro e w6 ⟨a6, c6, rfl, ho6, hF6⟩
      have G6 := Lib.hid (G5.out.and hF6)
      have O6 := Lib.hid (Own.keep O5.out hF6)
      have Y6 := Lib.hid (Own.keep Y5.out hF6)
      have X6 := Lib.hid ho6
      clear hF6 ho6 CW
      dsimp only at *
      have hwq : (whatS.toList == [119, 104, 97, 116]) = true := by rw [ByteArray.toList_eq]; decide
      go_wp2_with fail
      refine (implBoard_val (Own.sl Y6.out) (by omega) SY.out HBY.out).mono ?_; rintro e w7 ⟨rfl, hF7⟩
      have G7 := Lib.hid (G6.out.and hF7)
      have O7 := Lib.hid (Own.keep O6.out hF7)
      have Y7 := Lib.hid (Own.keep Y6.out hF7)
      have X7 := Lib.hid (Own.keep X6.out hF7)
      clear hF7
      by_cases ht : t = ⟨#[111, 107]⟩
      · subst ht
        clear htt
        go_wp2_with fail
        refine (sameTests_any _ _ _ _ xs _ (Own.sl X7.out) (Own.sl O7.out) (by omega)).mono ?_; rintro e w8 ⟨rfl, hF8⟩
        have G8 := Lib.hid (G7.out.and hF8)
        clear hF8
        go_wp2
        go_ret
        exact ⟨rfl, G8.out⟩
      · have hyx : ys = xs := htt.resolve_left ht
        subst hyx
        have e0 : (t.toList == [111, 107]) = false := lit_ne (l := [111, 107]) ht
        clear htt ht
        go_wp2_with fail
        refine (sameTests_any _ _ _ _ ys _ (Own.sl Y7.out) (Own.sl O7.out) (by omega)).mono ?_; rintro e w8 ⟨rfl, hF8⟩
        have G8 := Lib.hid (G7.out.and hF8)
        have O8 := Lib.hid (Own.keep O7.out hF8)
        have X8 := Lib.hid (Own.keep X7.out hF8)
        clear hF8
        go_wp2_with fail
        refine (sameTests_any _ _ _ _ ys _ (Own.sl X8.out) (Own.sl O8.out) (by omega)).mono ?_; rintro e w9 ⟨rfl, hF9⟩
        have G9 := Lib.hid (G8.out.and hF9)
        clear hF9
        go_wp2
        go_ret
        exact ⟨rfl, G9.out⟩
  · go_enter Tryz.func3, Tryz.ntmps3
    go_wp2
    go_ret
    exact ⟨rfl, Fr.refl _ _ _⟩
end Go.Proofs.YtdngnmpmaacapaaGreatDoor.fnBoardLine
