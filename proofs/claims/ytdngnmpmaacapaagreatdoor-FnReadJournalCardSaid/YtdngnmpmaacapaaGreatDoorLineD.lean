/-
  Contracts: BoardLine of the program, on the text of a deed.
-/
import Derived.Test.YtdngnmpmaacapaaGreatDoorReadQ
import Derived.Test.YtdngnmpmaacapaaGreatDoorBoardB
namespace Go.Proofs.YtdngnmpmaacapaaGreatDoor
open Go.RowKit

def okS (b : Bool) : ByteArray := if b then ⟨#[111, 107]⟩ else ⟨#[110, 111]⟩
/-- A new slice of exercises, and an answer. -/
def NewTS (ys : List Tst) (s : ByteArray) (w : World) (e : Ending) (w' : World) : Prop :=
  ∃ a cap, e = .returned (.tuple #[.slice a ys.length cap, .string s]) ∧ Own w' w.heap.size 52 3 (.slice a ys.length cap) ys.length (tests ys) ∧ Fr w.heap.size none w w'
set_option maxHeartbeats 1000000 in
set_option maxRecDepth 100000 in
theorem answerDeed_any (a : Option Addr) (ca : Nat) (xs : List Tst) (d : Dd) (s : ByteArray) (m : Int) (w : World) (hs : Sl w a (tests xs)) (hm : xs.length ≤ 1048575) (hz : Small xs) (hd : small d.2) (hc : xs.length ≤ ca) (hr : readD s = (d, true)) (hsz : s.size ≤ 1048576) (hM : w.cell? ⟨0, 0, none⟩ = some (.int .i64 m)) :
    Calls Tryz.prog 40 #[.slice a xs.length ca, .string s] w (NewTS (doI xs d).1 (okS (doI xs d).2) w) := by
  have HS := Lib.hid hs; clear hs
  have CR := implReadDeed_any s m w hsz hM
  unfold ReadPost at CR; rw [hr] at CR
  dsimp only [deedV] at CR
  have CR := Lib.hid CR
  have CD := Lib.hid (fun W hW => implDo_any a ca xs d W hW hm hc hz hd)
  clear hr
  obtain ⟨d0, x1, x2, x3⟩ := d
  go_enter Tryz.func40, Tryz.ntmps40
  go_wp2_with fail
  refine CR.out.mono ?_; rintro e w1 ⟨rfl, hF1⟩
  have F1 := Lib.hid hF1
  have S1 := Lib.hid (HS.out.fr hF1)
  clear hF1 CR
  dsimp only at *
  have F2 := Lib.hid (F1.out.alloc F1.out.size (.cells #[.bool d0, .string x1, .string x2, .string x3] 54))
  have S2 := Lib.hid (S1.out.fr ((Fr.refl w1.heap.size none w1).alloc (Nat.le_refl _) (.cells #[.bool d0, .string x1, .string x2, .string x3] 54)))
  go_wp2_with fail
  refine (CD.out _ S2.out).mono ?_; rintro e w2 ⟨a2, c2, rfl, ho2, hF2⟩
  have F3 := Lib.hid (F2.out.and hF2)
  have O2 := Lib.hid (ho2.base_le F2.out.size)
  clear ho2 hF2 CD
  cases hb : (doI xs (d0, x1, x2, x3)).2
  · have HB := Lib.hid hb; clear hb
    go_wp2
    go_ret2
    exact ⟨a2, c2, by first | rfl | (rw [HB.out]; rfl), O2.out, F3.out⟩
  · have HB := Lib.hid hb; clear hb
    go_wp2
    go_ret2
    exact ⟨a2, c2, by first | rfl | (rw [HB.out]; rfl), O2.out, F3.out⟩
theorem lineDeed_any (a : Option Addr) (ca : Nat) (xs : List Tst) (d : Dd) (s : ByteArray) (m : Int) (w : World) (hs : Sl w a (tests xs)) (hz : Small xs) (hd : small d.2) (hc : xs.length ≤ ca) (hok : boardOkB xs = true) (hr : readD s = (d, true)) (hsz : s.size ≤ 1048576) (hM : w.cell? ⟨0, 0, none⟩ = some (.int .i64 m)) :
    Calls Tryz.prog 9 #[.slice a xs.length ca, .string s] w (NewTS (doI xs d).1 (okS (doI xs d).2) w) := by
  have hl := board_le hok
  have HOK := Lib.hid hok; clear hok
  have HS := Lib.hid hs; clear hs
  have hb0 := World.block_lt_of_cell? w _ hM
  dsimp only at hb0
  have CA := Lib.hid (fun W hW hM' => answerDeed_any a ca xs d s m W hW (by omega) hz hd hc hr hsz hM')
  have HM := Lib.hid hM
  clear hr hM
  generalize doI xs d = r at *
  obtain ⟨r1, r2⟩ := r
  dsimp only at *
  go_enter Tryz.func9, Tryz.ntmps9
  go_wp2_with fail
  refine (implBoard_val HS.out (by omega) hz HOK.out).mono ?_; rintro e w1 ⟨rfl, hF1⟩
  have F1 := Lib.hid hF1
  have S1 := Lib.hid (HS.out.fr hF1)
  have M1 := Lib.hid ((hF1.cell (p := ⟨0, 0, none⟩) hb0 (by simp)).trans HM.out)
  clear hF1
  go_wp2_with fail
  refine (CA.out _ S1.out M1.out).mono ?_; rintro e w2 ⟨a2, c2, rfl, ho2, hF2⟩
  have F2 := Lib.hid (F1.out.and hF2)
  have O2 := Lib.hid (ho2.base_le F1.out.size)
  clear ho2 hF2
  go_wp2
  go_ret2
  exact ⟨a2, c2, rfl, O2.out, F2.out⟩
end Go.Proofs.YtdngnmpmaacapaaGreatDoor
