/-
  Merged: LineD DrawLine.
-/
import Derived.Test.YtdngnmpmaacapaaGreatDoorMDrawJ
import Derived.Test.YtdngnmpmaacapaaGreatDoorMBoardB
import Derived.Test.YtdngnmpmaacapaaGreatDoorMDrawBoard
import Derived.Test.YtdngnmpmaacapaaGreatDoorMReadB
import Derived.Test.YtdngnmpmaacapaaGreatDoorMOrdP
import Derived.Test.YtdngnmpmaacapaaGreatDoorMCore
set_option linter.unusedVariables false
set_option linter.unusedSimpArgs false
/-
  Contracts: BoardLine of the program, on the text of a deed.
-/
namespace Go.Proofs.YtdngnmpmaacapaaGreatDoor
open Go.RowKit

def okS (b : Bool) : ByteArray := if b then ⟨#[111, 107]⟩ else ⟨#[110, 111]⟩
/-- A new slice of exercises, and an answer. -/
def NewTS (ys : List Tst) (s : ByteArray) (w : World) (e : Ending) (w' : World) : Prop :=
  ∃ a cap, e = .returned (.tuple #[.slice a ys.length cap, .string s]) ∧ Own w' w.heap.size 52 3 (.slice a ys.length cap) ys.length (tests ys) ∧ Fr w.heap.size none w w'
set_option maxHeartbeats 1000000 in
set_option maxRecDepth 100000 in
theorem answerDeed_any (a : Option Addr) (ca : Nat) (xs : List Tst) (d : Dd) (s : ByteArray) (m : Int) (w : World) (hs : Sl w a (tests xs)) (hm : xs.length ≤ 1048575) (hz : Small xs) (hd : small d.2) (hc : xs.length ≤ ca) (hr : readD s = (d, true)) (hsz : s.size ≤ 1048576) (hM : w.cell? ⟨0, 0, none⟩ = some (.int .i64 m)) :
    Calls Tryz.prog 40 #[.slice a xs.length ca, .string s] w (NewTS (doI xs d).1 (okS (doI xs d).2) w) := by
  have HS := Lib.hid hs; clear hs
  have CR := implReadDeed_any s m w hsz hM
  unfold ReadPost at CR; rw [hr] at CR
  dsimp only [deedV] at CR
  have CR := Lib.hid CR
  have CD := Lib.hid (fun W hW => implDo_any a ca xs d W hW hm hc hz hd)
  clear hr
  obtain ⟨d0, x1, x2, x3⟩ := d
  go_enter Tryz.func40, Tryz.ntmps40
  go_wp2_with fail
  refine CR.out.mono ?_; rintro e w1 ⟨rfl, hF1⟩
  have F1 := Lib.hid hF1
  have S1 := Lib.hid (HS.out.fr hF1)
  clear hF1 CR
  dsimp only at *
  have F2 := Lib.hid (F1.out.alloc F1.out.size (.cells #[.bool d0, .string x1, .string x2, .string x3] 54))
  have S2 := Lib.hid (S1.out.fr ((Fr.refl w1.heap.size none w1).alloc (Nat.le_refl _) (.cells #[.bool d0, .string x1, .string x2, .string x3] 54)))
  go_wp2_with fail
  refine (CD.out _ S2.out).mono ?_; rintro e w2 ⟨a2, c2, rfl, ho2, hF2⟩
  have F3 := Lib.hid (F2.out.and hF2)
  have O2 := Lib.hid (ho2.base_le F2.out.size)
  clear ho2 hF2 CD
  cases hb : (doI xs (d0, x1, x2, x3)).2
  · have HB := Lib.hid hb; clear hb
    go_wp2
    go_ret2
    exact ⟨a2, c2, by first | rfl | (rw [HB.out]; rfl), O2.out, F3.out⟩
  · have HB := Lib.hid hb; clear hb
    go_wp2
    go_ret2
    exact ⟨a2, c2, by first | rfl | (rw [HB.out]; rfl), O2.out, F3.out⟩
theorem lineDeed_any (a : Option Addr) (ca : Nat) (xs : List Tst) (d : Dd) (s : ByteArray) (m : Int) (w : World) (hs : Sl w a (tests xs)) (hz : Small xs) (hd : small d.2) (hc : xs.length ≤ ca) (hok : boardOkB xs = true) (hr : readD s = (d, true)) (hsz : s.size ≤ 1048576) (hM : w.cell? ⟨0, 0, none⟩ = some (.int .i64 m)) :
    Calls Tryz.prog 9 #[.slice a xs.length ca, .string s] w (NewTS (doI xs d).1 (okS (doI xs d).2) w) := by
  have hl := board_le hok
  have HOK := Lib.hid hok; clear hok
  have HS := Lib.hid hs; clear hs
  have hb0 := World.block_lt_of_cell? w _ hM
  dsimp only at hb0
  have CA := Lib.hid (fun W hW hM' => answerDeed_any a ca xs d s m W hW (by omega) hz hd hc hr hsz hM')
  have HM := Lib.hid hM
  clear hr hM
  generalize doI xs d = r at *
  obtain ⟨r1, r2⟩ := r
  dsimp only at *
  go_enter Tryz.func9, Tryz.ntmps9
  go_wp2_with fail
  refine (implBoard_val HS.out (by omega) hz HOK.out).mono ?_; rintro e w1 ⟨rfl, hF1⟩
  have F1 := Lib.hid hF1
  have S1 := Lib.hid (HS.out.fr hF1)
  have M1 := Lib.hid ((hF1.cell (p := ⟨0, 0, none⟩) hb0 (by simp)).trans HM.out)
  clear hF1
  go_wp2_with fail
  refine (CA.out _ S1.out M1.out).mono ?_; rintro e w2 ⟨a2, c2, rfl, ho2, hF2⟩
  have F2 := Lib.hid (F1.out.and hF2)
  have O2 := Lib.hid (ho2.base_le F1.out.size)
  clear ho2 hF2
  go_wp2
  go_ret2
  exact ⟨a2, c2, rfl, O2.out, F2.out⟩
end Go.Proofs.YtdngnmpmaacapaaGreatDoor
/-
  Contracts: the draws of lines. (Printed by gen_drawline.py.)
-/
namespace Go.Proofs.YtdngnmpmaacapaaGreatDoor
open Go.RowKit

theorem lit_cell {B : Nat} {w1 w2 : World} (ls : List ByteArray) (m q : Nat) (hB : B < w1.heap.size) (hF : Fr (w1.alloc (.cells (strs ls).toArray 9)).heap.size (some B) (w1.alloc (.cells (strs ls).toArray 9)) w2) (hq : q < ls.length) (hm : ls.all (fun x => decide (x.size ≤ m)) = true) :
    ∃ x : ByteArray, w2.cell? ⟨w1.heap.size, q, none⟩ = some (.string x) ∧ x.size ≤ m := by
  refine ⟨ls[q], ?_, ?_⟩
  · rw [hF.cell (p := ⟨w1.heap.size, q, none⟩) (by simp) (by simp; omega), block_cells (heap_alloc_new w1 _)]
    simp [strs, hq]
  · have := List.all_eq_true.1 hm ls[q] (List.getElem_mem hq)
    simpa using this
theorem lit_at (ls : List ByteArray) (q m : Nat) (hq : q < ls.length) (hm : ls.all (fun x => decide (x.size ≤ m)) = true) : ∃ x : ByteArray, (strs ls).toArray[q]? = some (.string x) ∧ x.size ≤ m := by
  refine ⟨ls[q], by simp [strs, hq], ?_⟩
  have := List.all_eq_true.1 hm ls[q] (List.getElem_mem hq)
  simpa using this

set_option maxHeartbeats 4000000 in
set_option maxRecDepth 100000 in
theorem l20Line_any (B N : Nat) (w : World) (h : Rdr w B N) (hN : N ≤ 700000) : Calls Tryz.prog 39 #[.pointer (some ⟨B, 0, none⟩)] w (RdStr B (N + 500) 60 w) := by
  have hBl := h.lt
  have R0 := Lib.hid h; clear h
  go_enter Tryz.func39, Tryz.ntmps39
  go_wp2_with fail
  refine (pick_any B N 6 _ R0.out (by omega)).mono ?_; rintro e w1 ⟨q, rfl, ⟨q0, q1, _⟩, hR1, hF1⟩
  have R1 := Lib.hid hR1; have F1 := Lib.hid hF1; have q2 := q1 (by omega); clear hR1 hF1 q1
  have hB1 := R1.out.lt
  have hqq : q = 0 ∨ q = 1 ∨ q = 2 ∨ q = 3 ∨ q = 4 ∨ q = 5 := by omega
  clear q0 q2
  rcases hqq with rfl | rfl | rfl | rfl | rfl | rfl
  · have RA := Lib.hid (rdr_alloc R1.out (.cells #[.string ⟨#[115, 99, 111, 114, 101]⟩, .string ⟨#[109, 97, 114, 107]⟩, .string ⟨#[119, 97, 121, 115]⟩, .string ⟨#[115, 105, 109, 112, 108, 101, 115, 116]⟩, .string ⟨#[97, 112, 97, 114, 116]⟩, .string ⟨#[109, 97, 110, 121]⟩] 9))
    have FA := Lib.hid (F1.out.alloc F1.out.size (.cells #[.string ⟨#[115, 99, 111, 114, 101]⟩, .string ⟨#[109, 97, 114, 107]⟩, .string ⟨#[119, 97, 121, 115]⟩, .string ⟨#[115, 105, 109, 112, 108, 101, 115, 116]⟩, .string ⟨#[97, 112, 97, 114, 116]⟩, .string ⟨#[109, 97, 110, 121]⟩] 9))
    go_wp2_with fail
    refine (pick_any B _ 6 _ RA.out (by omega)).mono ?_; rintro e w2 ⟨p, rfl, ⟨p0, p1, _⟩, hR2, hF2⟩
    have R2 := Lib.hid hR2; have F2 := Lib.hid (fr_rd FA.out hF2); have p2 := p1 (by omega)
    obtain ⟨pn, rfl⟩ := Int.eq_ofNat_of_zero_le p0
    obtain ⟨x, hx, hxs⟩ := lit_cell [⟨#[115, 99, 111, 114, 101]⟩, ⟨#[109, 97, 114, 107]⟩, ⟨#[119, 97, 121, 115]⟩, ⟨#[115, 105, 109, 112, 108, 101, 115, 116]⟩, ⟨#[97, 112, 97, 114, 116]⟩, ⟨#[109, 97, 110, 121]⟩] 20 pn hB1 hF2 (by simp; omega) (by decide)
    clear hR2 hF2 p1
    go_wp2
    go_ret
    exact ⟨x, rfl, by omega, R2.out.mono (by omega), F2.out⟩
  · have RA := Lib.hid (rdr_alloc R1.out (.cells #[.string ⟨#[115, 99, 111, 114, 101]⟩, .string ⟨#[109, 97, 114, 107]⟩, .string ⟨#[119, 97, 121, 115]⟩, .string ⟨#[115, 105, 109, 112, 108, 101, 115, 116]⟩, .string ⟨#[97, 112, 97, 114, 116]⟩, .string ⟨#[109, 97, 110, 121]⟩] 9))
    have FA := Lib.hid (F1.out.alloc F1.out.size (.cells #[.string ⟨#[115, 99, 111, 114, 101]⟩, .string ⟨#[109, 97, 114, 107]⟩, .string ⟨#[119, 97, 121, 115]⟩, .string ⟨#[115, 105, 109, 112, 108, 101, 115, 116]⟩, .string ⟨#[97, 112, 97, 114, 116]⟩, .string ⟨#[109, 97, 110, 121]⟩] 9))
    go_wp2_with fail
    refine (pick_any B _ 6 _ RA.out (by omega)).mono ?_; rintro e w2 ⟨p, rfl, ⟨p0, p1, _⟩, hR2, hF2⟩
    have R2 := Lib.hid hR2; have F2 := Lib.hid (fr_rd FA.out hF2); have p2 := p1 (by omega)
    obtain ⟨pn, rfl⟩ := Int.eq_ofNat_of_zero_le p0
    obtain ⟨x, hx, hxs⟩ := lit_cell [⟨#[115, 99, 111, 114, 101]⟩, ⟨#[109, 97, 114, 107]⟩, ⟨#[119, 97, 121, 115]⟩, ⟨#[115, 105, 109, 112, 108, 101, 115, 116]⟩, ⟨#[97, 112, 97, 114, 116]⟩, ⟨#[109, 97, 110, 121]⟩] 20 pn hB1 hF2 (by simp; omega) (by decide)
    clear hR2 hF2 p1
    go_wp2
    go_ret
    exact ⟨x, rfl, by omega, R2.out.mono (by omega), F2.out⟩
  · have RA := Lib.hid (rdr_alloc R1.out (.cells #[.string ⟨#[]⟩, .string ⟨#[116, 97, 107, 101]⟩, .string ⟨#[116, 97, 107, 101, 32, 53, 32, 51]⟩, .string ⟨#[116, 97, 107, 101, 32, 53, 32, 51, 32, 48, 50]⟩, .string ⟨#[115, 117, 109]⟩, .string ⟨#[115, 117, 109, 32, 49]⟩, .string ⟨#[115, 117, 109, 32, 49, 32, 120]⟩, .string ⟨#[100, 105, 118, 105, 100, 101, 32, 55, 32, 48]⟩, .string ⟨#[100, 105, 118, 105, 100, 101, 32, 55, 32, 49, 48, 48]⟩, .string ⟨#[110, 105, 110, 101]⟩, .string ⟨#[110, 105, 110, 101, 32]⟩, .string ⟨#[32, 115, 99, 111, 114, 101]⟩, .string ⟨#[98, 97, 99, 107, 32, 49]⟩] 9))
    have FA := Lib.hid (F1.out.alloc F1.out.size (.cells #[.string ⟨#[]⟩, .string ⟨#[116, 97, 107, 101]⟩, .string ⟨#[116, 97, 107, 101, 32, 53, 32, 51]⟩, .string ⟨#[116, 97, 107, 101, 32, 53, 32, 51, 32, 48, 50]⟩, .string ⟨#[115, 117, 109]⟩, .string ⟨#[115, 117, 109, 32, 49]⟩, .string ⟨#[115, 117, 109, 32, 49, 32, 120]⟩, .string ⟨#[100, 105, 118, 105, 100, 101, 32, 55, 32, 48]⟩, .string ⟨#[100, 105, 118, 105, 100, 101, 32, 55, 32, 49, 48, 48]⟩, .string ⟨#[110, 105, 110, 101]⟩, .string ⟨#[110, 105, 110, 101, 32]⟩, .string ⟨#[32, 115, 99, 111, 114, 101]⟩, .string ⟨#[98, 97, 99, 107, 32, 49]⟩] 9))
    go_wp2_with fail
    refine (pick_any B _ 13 _ RA.out (by omega)).mono ?_; rintro e w2 ⟨p, rfl, ⟨p0, p1, _⟩, hR2, hF2⟩
    have R2 := Lib.hid hR2; have F2 := Lib.hid (fr_rd FA.out hF2); have p2 := p1 (by omega)
    obtain ⟨pn, rfl⟩ := Int.eq_ofNat_of_zero_le p0
    obtain ⟨x, hx, hxs⟩ := lit_cell [⟨#[]⟩, ⟨#[116, 97, 107, 101]⟩, ⟨#[116, 97, 107, 101, 32, 53, 32, 51]⟩, ⟨#[116, 97, 107, 101, 32, 53, 32, 51, 32, 48, 50]⟩, ⟨#[115, 117, 109]⟩, ⟨#[115, 117, 109, 32, 49]⟩, ⟨#[115, 117, 109, 32, 49, 32, 120]⟩, ⟨#[100, 105, 118, 105, 100, 101, 32, 55, 32, 48]⟩, ⟨#[100, 105, 118, 105, 100, 101, 32, 55, 32, 49, 48, 48]⟩, ⟨#[110, 105, 110, 101]⟩, ⟨#[110, 105, 110, 101, 32]⟩, ⟨#[32, 115, 99, 111, 114, 101]⟩, ⟨#[98, 97, 99, 107, 32, 49]⟩] 20 pn hB1 hF2 (by simp; omega) (by decide)
    clear hR2 hF2 p1
    go_wp2
    go_ret
    exact ⟨x, rfl, by omega, R2.out.mono (by omega), F2.out⟩
  · go_wp2_with fail
    refine (l20Both_any B _ 4 _ R1.out (by omega) (by omega)).mono ?_; rintro e w2 ⟨s, t, rfl, hs, ht, hR2, hF2⟩
    have R2 := Lib.hid hR2; have F2 := Lib.hid (fr_rd F1.out hF2); clear hR2 hF2
    have hB2 := R2.out.lt
    have RA := Lib.hid (rdr_alloc R2.out (.cells #[.string ⟨#[115, 117, 109, 32]⟩, .string ⟨#[108, 101, 102, 116, 32]⟩, .string ⟨#[112, 114, 111, 100, 117, 99, 116, 32]⟩, .string ⟨#[100, 105, 118, 105, 100, 101, 32]⟩] 9))
    have FA := Lib.hid (F2.out.alloc F2.out.size (.cells #[.string ⟨#[115, 117, 109, 32]⟩, .string ⟨#[108, 101, 102, 116, 32]⟩, .string ⟨#[112, 114, 111, 100, 117, 99, 116, 32]⟩, .string ⟨#[100, 105, 118, 105, 100, 101, 32]⟩] 9))
    go_wp2_with fail
    refine (pick_any B _ 4 _ RA.out (by omega)).mono ?_; rintro e w3 ⟨p, rfl, ⟨p0, p1, _⟩, hR3, hF3⟩
    have R3 := Lib.hid hR3; have F3 := Lib.hid (fr_rd FA.out hF3); have p2 := p1 (by omega)
    obtain ⟨pn, rfl⟩ := Int.eq_ofNat_of_zero_le p0
    obtain ⟨x, hx, hxs⟩ := lit_cell [⟨#[115, 117, 109, 32]⟩, ⟨#[108, 101, 102, 116, 32]⟩, ⟨#[112, 114, 111, 100, 117, 99, 116, 32]⟩, ⟨#[100, 105, 118, 105, 100, 101, 32]⟩] 20 pn hB2 hF3 (by simp; omega) (by decide)
    have t1 : (⟨#[32]⟩ : ByteArray).size = 1 := rfl
    have s1 : (x ++ s).size ≤ 30 := by rw [ByteArray.size_append]; omega
    have s2 : (x ++ s ++ (⟨#[32]⟩ : ByteArray)).size ≤ 31 := by rw [ByteArray.size_append]; omega
    have s3 : (x ++ s ++ (⟨#[32]⟩ : ByteArray) ++ t).size ≤ 41 := by rw [ByteArray.size_append]; omega
    have a1 := fun W => run_string_add_sum (P := Tryz.prog) W x s (by omega)
    have a2 := fun W => run_string_add_sum (P := Tryz.prog) W (x ++ s) ⟨#[32]⟩ (by omega)
    have a3 := fun W => run_string_add_sum (P := Tryz.prog) W (x ++ s ++ (⟨#[32]⟩ : ByteArray)) t (by omega)
    clear hR3 hF3 p1
    go_wp2
    go_ret
    exact ⟨_, rfl, by omega, R3.out.mono (by omega), F3.out⟩
  · go_wp2
    go_region_with (first
      | (go_at_call 65; go_loud (refine (pick_any B (N + 1) 2 _ (by first | exact R1.out | exact rdr_alloc R1.out _) (by omega)).mono ?_; rintro e w4 ⟨p, rfl, ⟨p0, p1, _⟩, hR4, hF4⟩; (
        have p2 := p1 (by omega)
        obtain ⟨pn, rfl⟩ := Int.eq_ofNat_of_zero_le p0
        obtain ⟨x, hx, hxs⟩ := lit_at [⟨#[110, 105, 110, 101, 32]⟩, ⟨#[101, 108, 101, 118, 101, 110, 32]⟩] pn 20 (by simp; omega) (by decide)
        have A2 : ∀ W : World, (W.alloc (.cells #[.string ⟨#[110, 105, 110, 101, 32]⟩, .string ⟨#[101, 108, 101, 118, 101, 110, 32]⟩] 9)).cell? ⟨W.heap.size, pn, none⟩ = some (.string x) := fun W => (block_cells (heap_alloc_new W (.cells #[.string ⟨#[110, 105, 110, 101, 32]⟩, .string ⟨#[101, 108, 101, 118, 101, 110, 32]⟩] 9)) pn).trans hx
        have A3 : ∀ W : World, Fr (W.alloc (.cells #[.string ⟨#[110, 105, 110, 101, 32]⟩, .string ⟨#[101, 108, 101, 118, 101, 110, 32]⟩] 9)).drew.heap.size (some B) (W.alloc (.cells #[.string ⟨#[110, 105, 110, 101, 32]⟩, .string ⟨#[101, 108, 101, 118, 101, 110, 32]⟩] 9)).drew w4 → B < W.heap.size → w4.cell? ⟨W.heap.size, pn, none⟩ = some (.string x) := fun W hW hB => (hW.cell (p := ⟨W.heap.size, pn, none⟩) (by simp) (by simp; omega)).trans (A2 W)
        try have A1 : w4.cell? ⟨w1.heap.size, pn, none⟩ = some (.string x) := A3 w1 hF4 R1.out.lt
        have p3 : (pn : Int) < 2 := by omega
        have p4 : (0 : Int) ≤ (pn : Int) := by omega
        have R4 := Lib.hid hR4
        have FF := Lib.hid (show Fr w.heap.size (some B) w w4 by first | exact fr_rd F1.out.drew hF4 | exact fr_rd (fr_any F1.out ((Fr.refl w1.heap.size none w1).alloc (Nat.le_refl _) _)) hF4 | exact fr_rd ((fr_any F1.out ((Fr.refl w1.heap.size none w1).alloc (Nat.le_refl _) _)).drew) hF4)
        clear hR4 hF4 p1 A3)))
      | (go_at_call 79; go_loud (refine (l20Numeral_any B (N + 2) 6 12 _ (by first | exact R4.out | exact rdr_alloc R4.out _) (by omega) (by omega) (by omega)).mono ?_; rintro e w5 ⟨s, rfl, hs, hR5, hF5⟩; (
        have R5 := Lib.hid hR5
        try have A1 : w5.cell? ⟨w4.heap.size, pn, none⟩ = some (.string x) := (hF5.cell (p := ⟨w4.heap.size, pn, none⟩) (by simp) (by have := R4.out.lt; simp; omega)).trans (A2 w4)
        try have A1 : w5.cell? ⟨w1.heap.size, pn, none⟩ = some (.string x) := (hF5.cell (p := ⟨w1.heap.size, pn, none⟩) (by have := World.block_lt_of_cell? w4 _ A1; simpa using this) (by have := R1.out.lt; simp; omega)).trans A1
        have s3 : (x ++ s).size ≤ 30 := by rw [ByteArray.size_append]; omega
        have ad := fun W => run_string_add_sum (P := Tryz.prog) W x s (by omega)
        have F5 := Lib.hid (show Fr w.heap.size (some B) w w5 by first | exact fr_rd FF.out hF5 | exact fr_rd (fr_any FF.out ((Fr.refl w4.heap.size none w4).alloc (Nat.le_refl _) _)) hF5)
        clear hR5 hF5))))
    all_goals go_wp2
    all_goals go_ret
    all_goals first
      | exact ⟨_, rfl, by omega, R5.out.mono (by omega), F5.out⟩
      | exact ⟨_, rfl, by omega, (rdr_alloc R5.out _).mono (by omega), F5.out.alloc F5.out.size _⟩
  · go_wp2_with fail
    refine (l20Deed_any B _ _ R1.out (by omega)).mono ?_; rintro e w2 ⟨d, rfl, ht, hR2, hF2⟩
    have R2 := Lib.hid hR2; have F2 := Lib.hid (fr_rd F1.out hF2); clear hR2 hF2
    have ts := tiny_text ht
    have CT := Lib.hid (fun W => specDeedText_any d W (tiny_small ht))
    clear ht
    generalize deedT d = s at *
    go_wp2_with fail
    refine (CT.out _).mono ?_; rintro e w3 ⟨rfl, hF3⟩
    have R3 := Lib.hid (rdr_keep R2.out hF3)
    have F3 := Lib.hid (fr_any F2.out hF3)
    clear hF3
    go_wp2
    go_ret
    exact ⟨s, rfl, by omega, R3.out.mono (by omega), F3.out⟩
end Go.Proofs.YtdngnmpmaacapaaGreatDoor
