/-
  Whatever the code, the law FnBoardDo of the given program returns true, and the code reads as before.
-/
import Derived.Test.YtjcjkdhfmdgjhaaDoorDrawDo
import Derived.Test.YtjcjkdhfmdgjhaaDoorWaysF
import Derived.Test.YtjcjkdhfmdgjhaaDoorBoardB
import Derived.Test.YtjcjkdhfmdgjhaaDoorNum
import Derived.Deep.Cut
namespace Go.Proofs.YtjcjkdhfmdgjhaaDoor.fnBoardDo
open Go.RowKit

/-- What the deeds of a board come to. -/
theorem do_cases {xs ys : List Tst} {d : Dd} {ok : Bool} (h : boardDoI xs d = (ys, ok)) :
    (ok = false ∧ ys = xs) ∨ (ok = false ∧ boardOkB xs = false ∧ ys = [] ∧ ys.length ≠ xs.length) ∨
      (ok = true ∧ d.1 = true ∧ boardOkB ys = true ∧ ys.length + 1 = xs.length) ∨
      (ok = true ∧ d.1 = false ∧ boardOkB ys = true ∧ ys = xs ++ [d.2] ∧ boardDoI ys (true, noTest) = (xs, true)) := by
  unfold boardDoI at h
  split at h
  · next hb =>
    have hok := do_ok hb d
    rw [h] at hok
    dsimp only at hok
    cases ok
    · have := do_no (xs := xs) (d := d) (by rw [h])
      rw [h] at this
      exact .inl ⟨rfl, this⟩
    · obtain ⟨d0, x⟩ := d
      cases d0
      · right; right; right
        have hy : ys = xs ++ [x] := by
          by_cases hc : boardOkB (xs ++ [x]) = true
          · rw [← do_take_yes hc] at h; cases h; rfl
          · rw [← do_take_no (by simpa using hc)] at h; cases h
        refine ⟨rfl, rfl, hok, hy, ?_⟩
        have hl : 0 < ys.length := by rw [hy]; simp
        rw [← boardDo_yes hok, ← do_back_yes rfl hl]
        congr 1
        rw [hy]; simp
      · right; right; left
        by_cases h1 : x = noTest
        · by_cases h2 : 0 < xs.length
          · rw [← do_back_yes h1 h2] at h
            cases h
            refine ⟨rfl, rfl, hok, ?_⟩
            rw [List.length_take]; omega
          · rw [← do_back_no2 h2] at h; cases h
        · rw [← do_back_no1 h1] at h; cases h
  · next hb =>
    cases h
    refine .inr (.inl ⟨rfl, by simpa using hb, rfl, ?_⟩)
    intro e
    have : xs = [] := List.eq_nil_of_length_eq_zero e.symm
    rw [this] at hb
    exact hb rfl
theorem board_small {xs : List Tst} {d : Dd} {ys : List Tst} {ok : Bool} (h : boardDoI xs d = (ys, ok)) (hx : Small xs) (hd : small d.2) : Small ys := by
  unfold boardDoI at h
  split at h
  · have := do_small hx hd; rw [h] at this; exact this
  · cases h; exact small_nil
theorem board_len {xs : List Tst} {d : Dd} {ys : List Tst} {ok : Bool} (h : boardDoI xs d = (ys, ok)) : ys.length ≤ xs.length + 1 := by
  unfold boardDoI at h
  split at h
  · have := do_len (xs := xs) d; rw [h] at this; exact this
  · cases h; simp
theorem own_cap {w : World} {B n cap : Nat} {E : TypeId} {z : Nat} {a : Option Addr} {cs : List Value} (h : Own w B E z (.slice a n cap) n cs) : n ≤ cap := by
  obtain ⟨a', c', e, h1, _⟩ := h.slice
  cases e; exact h1

set_option maxHeartbeats 4000000 in
set_option maxRecDepth 100000 in
theorem walk {w : World} (a : Option Addr) (cap : Nat) (bs : List Int) (hs : Sl w a (bs.map (Value.int .u8))) (hb : ∀ x ∈ bs, 0 ≤ x ∧ x ≤ 255) (hcap : bs.length ≤ cap) :
    Calls Tryd.prog 3 #[.slice a bs.length cap] w fun e w' => e = .returned (.bool true) ∧ Fr w.heap.size none w w' := by
  have HS : Hid (Sl w a (u8s bs)) := hs
  have HB := Lib.hid hb; clear hs hb
  by_cases hn : bs.length ≤ 1048576
  · go_enter Tryd.func3, Tryd.ntmps3
    go_wp2_with fail
    refine (drawBoardDo_any a cap bs _ HS.out HB.out hn hcap).mono ?_; rintro e w1 ⟨v, ⟨d0, x1, x2, x3⟩, rfl, ⟨a1, c1, xs, rfl, ho, hl, hT⟩, ht, hF⟩
    have G1 := Lib.hid hF
    have O1 := Lib.hid (Own.of ho)
    have TX := Lib.hid hT.small
    have TD := Lib.hid (tiny_small ht)
    obtain ⟨⟨ys, ok⟩, hR⟩ : ∃ r, boardDoI xs (d0, x1, x2, x3) = r := ⟨_, rfl⟩
    have hyl := board_len hR
    have TY := Lib.hid (board_small hR hT.small (tiny_small ht))
    have CS := Lib.hid (do_cases hR)
    have hc1 := own_cap O1.out
    have CI := Lib.hid (fun W (hS : Sl W a1 (tests xs)) => (implBoardDo_any a1 c1 xs (d0, x1, x2, x3) W hS (by omega) TX.out TD.out hc1).mono fun e w' h => newTB_as hR h)
    have CP := Lib.hid (fun W (hS : Sl W a1 (tests xs)) => (specBoardDo_any a1 c1 xs (d0, x1, x2, x3) W hS (by omega) TX.out TD.out (fun h => (own_hnone O1.out h).2)).mono fun e w' h => newTB_as hR h)
    dsimp only at CI CP CS
    have z1 := G1.out.size
    clear hF ht ho hT hR
    go_upto_region 4 with fail
    obtain ⟨w2, hw2⟩ : ∃ w2, w2 = w1.alloc (.cells #[.bool d0, .string x1, .string x2, .string x3] 27) := ⟨_, rfl⟩
    have K2 := Lib.hid (show Fr w1.heap.size none w1 w2 by rw [hw2]; exact (Fr.refl _ _ _).alloc (Nat.le_refl _) _)
    have e0 : w2.cell? ⟨w1.heap.size, 0, none⟩ = some (.bool d0) := by rw [hw2]; go_simp
    have e1 : w2.cell? ⟨w1.heap.size, 1, none⟩ = some (.string x1) := by rw [hw2]; go_simp
    have e2 : w2.cell? ⟨w1.heap.size, 2, none⟩ = some (.string x2) := by rw [hw2]; go_simp
    have e3 : w2.cell? ⟨w1.heap.size, 3, none⟩ = some (.string x3) := by rw [hw2]; go_simp
    have hlt : w1.heap.size < w2.heap.size := by rw [hw2]; simp
    have O2 := Lib.hid (Own.keep O1.out K2.out)
    have G2 := Lib.hid (G1.out.and K2.out)
    rw [← hw2]
    clear hw2 K2
    go_wp2_with fail
    refine (CI.out _ (Own.sl O2.out)).mono ?_; rintro e w3 ⟨a3, c3, rfl, ho3, hF3⟩
    have G3 := Lib.hid (G2.out.and hF3)
    have O3 := Lib.hid (Own.keep O2.out hF3)
    have Y3 := Lib.hid ho3
    have f0 : w3.cell? ⟨w1.heap.size, 0, none⟩ = some (.bool d0) := (hF3.cell hlt (by simp)).trans e0
    have f1 : w3.cell? ⟨w1.heap.size, 1, none⟩ = some (.string x1) := (hF3.cell hlt (by simp)).trans e1
    have f2 : w3.cell? ⟨w1.heap.size, 2, none⟩ = some (.string x2) := (hF3.cell hlt (by simp)).trans e2
    have f3 : w3.cell? ⟨w1.heap.size, 3, none⟩ = some (.string x3) := (hF3.cell hlt (by simp)).trans e3
    have hlt3 : w1.heap.size < w3.heap.size := Nat.lt_of_lt_of_le hlt hF3.size
    clear hF3 ho3 e0 e1 e2 e3
    dsimp only at *
    go_wp2_with fail
    refine (CP.out _ (Own.sl O3.out)).mono ?_; rintro e w4 ⟨a4, c4, rfl, ho4, hF4⟩
    have G4 := Lib.hid (G3.out.and hF4)
    have O4 := Lib.hid (Own.keep O3.out hF4)
    have Y4 := Lib.hid (Own.keep Y3.out hF4)
    have S4 := Lib.hid ho4
    have g0 : w4.cell? ⟨w1.heap.size, 0, none⟩ = some (.bool d0) := (hF4.cell hlt3 (by simp)).trans f0
    have hlt4 : w1.heap.size < w4.heap.size := Nat.lt_of_lt_of_le hlt3 hF4.size
    clear hF4 ho4 f0 f1 f2 f3
    dsimp only at *
    go_wp2_with fail
    refine (sameTests_any _ _ _ _ ys _ (Own.sl Y4.out) (Own.sl S4.out) (by omega)).mono ?_; rintro e w5 ⟨rfl, hF5⟩
    have G5 := Lib.hid (G4.out.and hF5)
    have O5 := Lib.hid (Own.keep O4.out hF5)
    have Y5 := Lib.hid (Own.keep Y4.out hF5)
    have k0 : w5.cell? ⟨w1.heap.size, 0, none⟩ = some (.bool d0) := (hF5.cell hlt4 (by simp)).trans g0
    have hlt5 : w1.heap.size < w5.heap.size := Nat.lt_of_lt_of_le hlt4 hF5.size
    clear hF5 g0 CI CP
    rcases CS.out with ⟨rfl, rfl⟩ | ⟨rfl, hbx, h0, hne⟩ | ⟨rfl, rfl, hby, hlen⟩ | ⟨rfl, rfl, hby, hys, hbk⟩
    · clear CS TY
      go_wp2_with fail
      refine (sameTests_any _ _ _ _ ys _ (Own.sl Y5.out) (Own.sl O5.out) (by omega)).mono ?_; rintro e w6 ⟨rfl, hF6⟩
      have G6 := Lib.hid (G5.out.and hF6); clear hF6
      go_wp2_with fail
      refine (alive_any _).mono ?_; rintro e w' ⟨rfl, rfl⟩
      go_wp2
      go_ret
      exact ⟨rfl, G6.out⟩
    · have HBX := Lib.hid hbx
      clear CS TY hbx h0
      have hne' := Lib.hid hne; clear hne
      go_wp2_with fail
      refine (sameTests_no _ _ _ _ _ _ _ hne'.out).mono ?_; rintro e w' ⟨rfl, rfl⟩
      go_wp2_with fail
      refine (implBoard_val (Own.sl O5.out) (by omega) TX.out HBX.out).mono ?_; rintro e w6 ⟨rfl, hF6⟩
      have G6 := Lib.hid (G5.out.and hF6); clear hF6
      go_wp2_with fail
      refine (alive_any _).mono ?_; rintro e w' ⟨rfl, rfl⟩
      go_wp2
      go_ret
      exact ⟨rfl, G6.out⟩
    · have HBY := Lib.hid hby
      have hle : ((ys.length : Int) == (xs.length : Int) - 1) = true := by rw [beq_iff_eq]; omega
      clear CS hby hlen
      go_wp2_with fail
      refine (implBoard_val (Own.sl Y5.out) (by omega) TY.out HBY.out).mono ?_; rintro e w6 ⟨rfl, hF6⟩
      have G6 := Lib.hid (G5.out.and hF6); clear hF6
      go_wp2
      go_ret
      exact ⟨rfl, G6.out⟩
    · have HBY := Lib.hid hby
      have hcy := own_cap Y5.out
      have CB := Lib.hid (fun W (hS : Sl W a3 (tests ys)) => (implBoardDo_any a3 c3 ys (true, noTest) W hS (by omega) TY.out (by simp [small, noTest]) hcy).mono fun e w' h => newTB_as hbk h)
      have WL : (waysI ys 16).length ≤ (waysI xs 16).length := by rw [hys]; exact waysI_less xs _ 16
      have CW := Lib.hid (fun a c W hS => waysFor_any a c ys W hS (by omega) TY.out)
      have CX := Lib.hid (fun a c W hS => waysFor_any a c xs W hS (by omega) TX.out)
      have wb := waysI_len xs 16
      generalize (waysI ys 16).length = p at *
      generalize (waysI xs 16).length = q at *
      have hpq : (p : Int) ≤ (q : Int) := by omega
      dsimp only [noTest] at CB
      clear CS hby hys hbk
      go_wp2_with fail
      refine (CB.out _ (Own.sl Y5.out)).mono ?_; rintro e w6 ⟨a6, c6, rfl, ho6, hF6⟩
      have G6 := Lib.hid (G5.out.and hF6)
      have O6 := Lib.hid (Own.keep O5.out hF6)
      have Y6 := Lib.hid (Own.keep Y5.out hF6)
      have B6 := Lib.hid ho6
      clear hF6 ho6 CB
      dsimp only at *
      go_wp2_with fail
      refine (implBoard_val (Own.sl Y6.out) (by omega) TY.out HBY.out).mono ?_; rintro e w7 ⟨rfl, hF7⟩
      have G7 := Lib.hid (G6.out.and hF7)
      have O7 := Lib.hid (Own.keep O6.out hF7)
      have Y7 := Lib.hid (Own.keep Y6.out hF7)
      have B7 := Lib.hid (Own.keep B6.out hF7)
      clear hF7
      go_wp2_with fail
      refine (sameTests_any _ _ _ _ xs _ (Own.sl B7.out) (Own.sl O7.out) (by omega)).mono ?_; rintro e w8 ⟨rfl, hF8⟩
      have G8 := Lib.hid (G7.out.and hF8)
      have O8 := Lib.hid (Own.keep O7.out hF8)
      have Y8 := Lib.hid (Own.keep Y7.out hF8)
      clear hF8
      go_wp2_with fail
      refine (CW.out _ _ _ (Own.sl Y8.out)).mono ?_; rintro e w9 ⟨⟨a9, c9, rfl⟩, hF9⟩
      have G9 := Lib.hid (G8.out.and hF9)
      have O9 := Lib.hid (Own.keep O8.out hF9)
      clear hF9
      go_wp2_with fail
      refine (CX.out _ _ _ (Own.sl O9.out)).mono ?_; rintro e w10 ⟨⟨a10, c10, rfl⟩, hF10⟩
      have G10 := Lib.hid (G9.out.and hF10)
      clear hF10
      go_wp2
      go_ret
      exact ⟨rfl, G10.out⟩
  · go_enter Tryd.func3, Tryd.ntmps3
    go_wp2
    go_ret
    exact ⟨rfl, Fr.refl _ _ _⟩
end Go.Proofs.YtjcjkdhfmdgjhaaDoor.fnBoardDo
