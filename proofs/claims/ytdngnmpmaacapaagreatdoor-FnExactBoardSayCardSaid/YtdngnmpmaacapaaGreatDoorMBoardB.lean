/-
  Merged: BoardB BoardC DrawTest.
-/
import Derived.Test.YtdngnmpmaacapaaGreatDoorMBoardA
import Derived.Laws.AppendOwnNone
import Derived.Test.YtdngnmpmaacapaaGreatDoorMOrdP
import Derived.Test.YtdngnmpmaacapaaGreatDoorMCore
set_option linter.unusedVariables false
set_option linter.unusedSimpArgs false
/-
  Contracts: BoardDo, of the program and of the reference.
-/
namespace Go.Proofs.YtdngnmpmaacapaaGreatDoor
open Go.RowKit

theorem boardDo_no {xs : List Tst} {d : Dd} (h : boardOkB xs = false) : ([], false) = boardDoI xs d := by simp [boardDoI, h]
theorem boardDo_yes {xs : List Tst} {d : Dd} (h : boardOkB xs = true) : doI xs d = boardDoI xs d := by simp [boardDoI, h]
theorem boardDo_le {xs : List Tst} {d : Dd} (h : xs.length ≤ 1048576) : (boardDoI xs d).1.length ≤ 1048576 := by
  unfold boardDoI
  split
  · next h2 => have := do_len (xs := xs) d; have := board_le h2; omega
  · simp
theorem newTB_as {r r' : List Tst × Bool} {w : World} {e : Ending} {w' : World} (h : r = r') (hN : NewTB r.1 r.2 w e w') : NewTB r'.1 r'.2 w e w' := h ▸ hN
theorem newTB_box {ys : List Tst} {b : Bool} {w w1 : World} {e : Ending} {w' : World} (hF : Fr w.heap.size none w w1) (hN : NewTB ys b w1 e w') : NewTB ys b w e w' := by
  obtain ⟨a, cap, rfl, ho, h2⟩ := hN
  exact ⟨a, cap, rfl, ho.base_le hF.size, hF.and h2⟩

theorem appAllO {ops : Array Oper} {rest : List Oper} {o : Oper} {a : Act} {Q : Exit → Act → World → Prop} {wr : World}
    (hgd : o.guard = none) (s x : Operand) (ho : o.op = .call { callee := .builtin .append, args := #[s, x], argTypes := #[23, 23] })
    {B : Nat} {v : Value} {n : Nat} {cs : List Value} (p : Option Addr) (c : Nat) (xs : List Tst) (hown : wr.ownsRow B 52 3 v n cs) (hs : a.eval s = v) (hx : a.eval x = .slice p xs.length c)
    (hp : p = none → c = 0) (hsl : Sl wr p (tests xs)) (hn : n + xs.length ≤ 1099511627776) (hB : B ≤ wr.heap.size)
    (h : ∀ v' w', w'.ownsRow B 52 3 v' (n + xs.length) (cs ++ tests xs) → Fr wr.heap.size v.ownBlock wr w' → wpList Tryz.prog ops Q rest (a.put o.dst v') w') :
    wpList Tryz.prog ops Q (o :: rest) a wr := by
  cases p with
  | none =>
    have h0 : xs = [] := by
      cases xs with
      | nil => rfl
      | cons c r => obtain ⟨b, off, e, _⟩ := hsl 0 (by rw [tests_length]; simp); cases e
    subst h0
    have hc := hp rfl
    subst hc
    obtain ⟨i0, hi, hz0, hz1, hz2⟩ := info_parts infoTest
    refine wpList_append_own_none hgd s x 23 ho B 52 i0 3 Tryz.underlying23 hi v n cs hs hown hx ?_
    exact h v wr (by simpa [tests, rows] using hown) (Fr.refl _ _ _)
  | some q =>
    exact appAll 23 52 (.agg #[.string ByteArray.empty, .string ByteArray.empty, .string ByteArray.empty]) 3 48 Tryz.underlying23 infoTest rfl (by decide) (by decide) hgd s x ho q xs.length c (tests xs) hown hs hx (tests_length xs) hsl (cells_oneT xs) hn hB h

theorem own_take {w : World} {B n cap k : Nat} {a : Option Addr} {xs : List Tst} (h : Own w B 52 3 (.slice a n cap) n (tests xs)) (hk : k ≤ n) : Own w B 52 3 (.slice a k cap) k (tests (xs.take k)) := by
  have hl := h.1
  rw [tests_length] at hl
  refine ⟨by rw [tests_length, List.length_take]; omega, ?_⟩
  rcases h.2 with ⟨h', h0⟩ | ⟨g, cap', cur, h', hb, hg, hnc, hcm, hcs, ht⟩
  · simp only [Value.slice.injEq] at h'
    obtain ⟨rfl, _, rfl⟩ := h'
    exact .inl ⟨by congr 1; omega, by omega⟩
  · simp only [Value.slice.injEq] at h'
    obtain ⟨rfl, _, rfl⟩ := h'
    refine .inr ⟨g, cap, cur, rfl, hb, hg, by omega, hcm, hcs, ?_⟩
    have e : tests xs = tests (xs.take k) ++ tests (xs.drop k) := by rw [tests, tests, tests, ← rows_append, List.take_append_drop]
    have h3 : (tests (xs.take k)).length = k * 3 := by rw [tests_length, List.length_take]; congr 1; omega
    have : cur.toList.take (k * 3) = (cur.toList.take (n * 3)).take (k * 3) := by rw [List.take_take]; congr 1; omega
    rw [this, ht, e, ← h3, List.take_left']
    rfl
theorem madeNil {w : World} {B g : Nat} (hB : B ≤ w.heap.size) (hg : g = w.heap.size) : Own (w.alloc (.cells #[] 52)) B 52 3 (.slice (some ⟨g, 0, none⟩) 0 0) 0 (tests []) := by
  subst hg
  exact Own.of (World.ownsRow_made w #[] 0 hB (by simp [maxLen]) (by simp))
set_option maxHeartbeats 2000000 in
set_option maxRecDepth 100000 in
theorem specBoardDo_any (a : Option Addr) (ca : Nat) (xs : List Tst) (d : Dd) (w : World) (hs : Sl w a (tests xs)) (hm : xs.length ≤ 1048576) (hz : Small xs) (hd : small d.2) (hp : a = none → ca = 0) :
    Calls Tryz.prog 42 #[.slice a xs.length ca, .agg #[.bool d.1, .string d.2.1, .string d.2.2.1, .string d.2.2.2]] w (NewTB (boardDoI xs d).1 (boardDoI xs d).2 w) := by
  have HP := Lib.hid hp; clear hp
  have S1 := Lib.hid (hs.fr ((Fr.refl w.heap.size none w).alloc (Nat.le_refl _) (.cells #[.bool d.1, .string d.2.1, .string d.2.2.1, .string d.2.2.2] 54)))
  have F1 := Lib.hid ((Fr.refl w.heap.size none w).alloc (Nat.le_refl _) (.cells #[.bool d.1, .string d.2.1, .string d.2.2.1, .string d.2.2.2] 54))
  clear hs
  obtain ⟨d0, x1, x2, x3⟩ := d
  cases h : boardOkB xs
  · have hr := Lib.hid (boardDo_no (d := (d0, x1, x2, x3)) h)
    have H := Lib.hid h; clear h
    go_enter Tryz.func42, Tryz.ntmps42
    go_wp2_with fail
    refine (specBoard_val S1.out hm hz H.out).mono ?_; rintro e w2 ⟨rfl, m, rfl⟩
    have F2 := Lib.hid (F1.out.drewN m)
    go_wp2
    go_ret2
    exact newTB_as hr.out ⟨_, 0, rfl, madeNil F2.out.size (by simp), F2.out.alloc F2.out.size _⟩
  · have hr := Lib.hid (boardDo_yes (d := (d0, x1, x2, x3)) h)
    have hl := board_le h
    have H := Lib.hid h; clear h
    cases d0
    · dsimp only at hd S1 F1 ⊢
      cases hb : boardOkB (xs ++ [(x1, x2, x3)])
      · have hq := Lib.hid (do_take_no hb)
        have HB := Lib.hid hb; clear hb
        go_enter Tryz.func42, Tryz.ntmps42
        go_wp2_with fail
        refine (specBoard_val S1.out hm hz H.out).mono ?_; rintro e w2 ⟨rfl, m, rfl⟩
        have F2 := Lib.hid (F1.out.drewN m)
        have S2 := Lib.hid (Sl.drewN S1.out m)
        obtain ⟨w1, hw1⟩ : ∃ w1, w1 = (w.alloc (.cells #[.bool false, .string x1, .string x2, .string x3] 54)).drewN m := ⟨_, rfl⟩
        have q0 : w1.cell? ⟨w.heap.size, 0, none⟩ = some (.bool false) := by rw [hw1]; go_simp
        have q1 : w1.cell? ⟨w.heap.size, 1, none⟩ = some (.string x1) := by rw [hw1]; go_simp
        have q2 : w1.cell? ⟨w.heap.size, 2, none⟩ = some (.string x2) := by rw [hw1]; go_simp
        have q3 : w1.cell? ⟨w.heap.size, 3, none⟩ = some (.string x3) := by rw [hw1]; go_simp
        rw [← hw1] at F2 S2 ⊢
        have hbl : w.heap.size < w1.heap.size := World.block_lt_of_cell? w1 _ q0
        clear hw1
        have SW := Lib.hid (S2.out.fr ((Fr.refl w1.heap.size none w1).alloc (Nat.le_refl _) (.cells #[] 52)))
        have q0' := Lib.hid q0; have q1' := Lib.hid q1; have q2' := Lib.hid q2; have q3' := Lib.hid q3
        clear q0 q1 q2 q3
        go_wp2_with (first
          | (at_builtin; refine appAllO rfl _ _ rfl a ca xs (World.ownsRow_made (base := w1.heap.size) w1 #[] 0 (Nat.le_refl _) (by simp [maxLen]) (by simp)) rfl rfl HP.out SW.out (by omega) (by simp) ?_; intro v' w3 ho3 hF3; (
            have K3 := Lib.hid (((Fr.refl w1.heap.size none w1).alloc (Nat.le_refl _) (.cells #[] 52)).trans (hF3.up (B' := w1.heap.size) (by simp) (by intro g hg; cases hg; exact Nat.le_refl _)))
            clear hF3
            have G3 := Lib.hid (F2.out.and K3.out)
            have S3 := Lib.hid (S2.out.fr K3.out)
            have r0 := (K3.out.cell (p := ⟨w.heap.size, 0, none⟩) hbl (by simp)).trans q0'.out
            have r1 := (K3.out.cell (p := ⟨w.heap.size, 1, none⟩) hbl (by simp)).trans q1'.out
            have r2 := (K3.out.cell (p := ⟨w.heap.size, 2, none⟩) hbl (by simp)).trans q2'.out
            have r3 := (K3.out.cell (p := ⟨w.heap.size, 3, none⟩) hbl (by simp)).trans q3'.out
            have hb3 : w.heap.size < w3.heap.size := Nat.lt_of_lt_of_le hbl K3.out.size
            obtain ⟨a', c', rfl, hc', hcm⟩ := own_slice ho3
            rw [Nat.zero_add] at ho3 hc'
            rw [List.nil_append] at ho3
            have O3 := Lib.hid ho3; clear ho3))
          | (at_builtin; refine app1 23 52 (.agg #[.string ByteArray.empty, .string ByteArray.empty, .string ByteArray.empty]) 3 48 Tryz.underlying23 infoTest rfl (by decide) (by decide) rfl _ _ rfl [.string x1, .string x2, .string x3] O3.out rfl rfl rfl (by simp [Value.oneCell']) (by omega) (K3.out.size) ?_; intro v' w4 ho4 hF4; (
              have K4 := Lib.hid (app_frame K3.out O3.out hF4 K3.out.size)
              have G4 := Lib.hid (F2.out.and K4.out)
              have S4 := Lib.hid (S2.out.fr K4.out)
              clear hF4 r0 r1 r2 r3
              obtain ⟨a4, c4, rfl, hc4, hcm4⟩ := own_slice ho4
              have hN : Sl w4 a4 (tests (xs ++ [(x1, x2, x3)])) := by rw [tests, rows_append, rows_one]; exact own_sl ho4
              have HN := Lib.hid hN
              have ho5 : Own w4 w1.heap.size 52 3 (.slice a4 (xs.length + 1) c4) (xs.length + 1) (tests (xs ++ [(x1, x2, x3)])) := by rw [tests, rows_append, rows_one]; exact Own.of ho4
              have O4 := Lib.hid ho5
              have CB := fun W hs => specBoard_val (a := a4) (cap := c4) (xs := xs ++ [(x1, x2, x3)]) (w := W) hs (by simp; omega) (small_snoc hz hd) HB.out
              simp only [List.length_append, List.length_cons, List.length_nil, Nat.zero_add] at CB
              have CB := Lib.hid CB
              clear hN ho4 ho5))
          | (go_at_call 12; refine (CB.out _ HN.out).mono ?_; rintro e w5' ⟨rfl, m5, rfl⟩; (
              obtain ⟨w5, hw5⟩ : ∃ w5, w5 = w4.drewN m5 := ⟨_, rfl⟩
              have G5 := Lib.hid (show Fr w.heap.size none w w5 by rw [hw5]; exact G4.out.drewN m5)
              have S5 := Lib.hid (show Sl w5 a (tests xs) by rw [hw5]; exact Sl.drewN S4.out m5)
              rw [← hw5]
              clear hw5
              have SW5 := Lib.hid (S5.out.fr ((Fr.refl w5.heap.size none w5).alloc (Nat.le_refl _) (.cells #[] 52)))))
          | (at_builtin; refine appAllO rfl _ _ rfl a ca xs (World.ownsRow_made (base := w5.heap.size) w5 #[] 0 (Nat.le_refl _) (by simp [maxLen]) (by simp)) rfl rfl HP.out SW5.out (by omega) (by simp) ?_; intro v' w6 ho6 hF6; (
              have G6 := Lib.hid (G5.out.and (((Fr.refl w5.heap.size none w5).alloc (Nat.le_refl _) (.cells #[] 52)).trans (hF6.up (B' := w5.heap.size) (by simp) (by intro g hg; cases hg; exact Nat.le_refl _))))
              clear hF6
              obtain ⟨a6, c6, rfl, hc6, hcm6⟩ := own_slice ho6
              rw [Nat.zero_add] at ho6
              rw [List.nil_append] at ho6
              have O6 := Lib.hid (Own.of ho6); clear ho6)))
        go_ret2
        exact newTB_as hr.out (newTB_of hq.out O6.out G5.out.size G6.out)
      · have hq := Lib.hid (do_take_yes hb)
        have HB := Lib.hid hb; clear hb
        have hlen := Lib.hid (show (xs ++ [(x1, x2, x3)]).length = xs.length + 1 by simp)
        go_enter Tryz.func42, Tryz.ntmps42
        go_wp2_with fail
        refine (specBoard_val S1.out hm hz H.out).mono ?_; rintro e w2 ⟨rfl, m, rfl⟩
        have F2 := Lib.hid (F1.out.drewN m)
        have S2 := Lib.hid (Sl.drewN S1.out m)
        obtain ⟨w1, hw1⟩ : ∃ w1, w1 = (w.alloc (.cells #[.bool false, .string x1, .string x2, .string x3] 54)).drewN m := ⟨_, rfl⟩
        have q0 : w1.cell? ⟨w.heap.size, 0, none⟩ = some (.bool false) := by rw [hw1]; go_simp
        have q1 : w1.cell? ⟨w.heap.size, 1, none⟩ = some (.string x1) := by rw [hw1]; go_simp
        have q2 : w1.cell? ⟨w.heap.size, 2, none⟩ = some (.string x2) := by rw [hw1]; go_simp
        have q3 : w1.cell? ⟨w.heap.size, 3, none⟩ = some (.string x3) := by rw [hw1]; go_simp
        rw [← hw1] at F2 S2 ⊢
        have hbl : w.heap.size < w1.heap.size := World.block_lt_of_cell? w1 _ q0
        clear hw1
        have SW := Lib.hid (S2.out.fr ((Fr.refl w1.heap.size none w1).alloc (Nat.le_refl _) (.cells #[] 52)))
        have q0' := Lib.hid q0; have q1' := Lib.hid q1; have q2' := Lib.hid q2; have q3' := Lib.hid q3
        clear q0 q1 q2 q3
        go_wp2_with (first
          | (at_builtin; refine appAllO rfl _ _ rfl a ca xs (World.ownsRow_made (base := w1.heap.size) w1 #[] 0 (Nat.le_refl _) (by simp [maxLen]) (by simp)) rfl rfl HP.out SW.out (by omega) (by simp) ?_; intro v' w3 ho3 hF3; (
            have K3 := Lib.hid (((Fr.refl w1.heap.size none w1).alloc (Nat.le_refl _) (.cells #[] 52)).trans (hF3.up (B' := w1.heap.size) (by simp) (by intro g hg; cases hg; exact Nat.le_refl _)))
            clear hF3
            have G3 := Lib.hid (F2.out.and K3.out)
            have S3 := Lib.hid (S2.out.fr K3.out)
            have r0 := (K3.out.cell (p := ⟨w.heap.size, 0, none⟩) hbl (by simp)).trans q0'.out
            have r1 := (K3.out.cell (p := ⟨w.heap.size, 1, none⟩) hbl (by simp)).trans q1'.out
            have r2 := (K3.out.cell (p := ⟨w.heap.size, 2, none⟩) hbl (by simp)).trans q2'.out
            have r3 := (K3.out.cell (p := ⟨w.heap.size, 3, none⟩) hbl (by simp)).trans q3'.out
            have hb3 : w.heap.size < w3.heap.size := Nat.lt_of_lt_of_le hbl K3.out.size
            obtain ⟨a', c', rfl, hc', hcm⟩ := own_slice ho3
            rw [Nat.zero_add] at ho3 hc'
            rw [List.nil_append] at ho3
            have O3 := Lib.hid ho3; clear ho3))
          | (at_builtin; refine app1 23 52 (.agg #[.string ByteArray.empty, .string ByteArray.empty, .string ByteArray.empty]) 3 48 Tryz.underlying23 infoTest rfl (by decide) (by decide) rfl _ _ rfl [.string x1, .string x2, .string x3] O3.out rfl rfl rfl (by simp [Value.oneCell']) (by omega) (K3.out.size) ?_; intro v' w4 ho4 hF4; (
              have K4 := Lib.hid (app_frame K3.out O3.out hF4 K3.out.size)
              have G4 := Lib.hid (F2.out.and K4.out)
              have S4 := Lib.hid (S2.out.fr K4.out)
              clear hF4 r0 r1 r2 r3
              obtain ⟨a4, c4, rfl, hc4, hcm4⟩ := own_slice ho4
              have hN : Sl w4 a4 (tests (xs ++ [(x1, x2, x3)])) := by rw [tests, rows_append, rows_one]; exact own_sl ho4
              have HN := Lib.hid hN
              have ho5 : Own w4 w1.heap.size 52 3 (.slice a4 (xs.length + 1) c4) (xs.length + 1) (tests (xs ++ [(x1, x2, x3)])) := by rw [tests, rows_append, rows_one]; exact Own.of ho4
              have O4 := Lib.hid ho5
              have CB := fun W hs => specBoard_val (a := a4) (cap := c4) (xs := xs ++ [(x1, x2, x3)]) (w := W) hs (by simp; omega) (small_snoc hz hd) HB.out
              simp only [List.length_append, List.length_cons, List.length_nil, Nat.zero_add] at CB
              have CB := Lib.hid CB
              clear hN ho4 ho5))
          | (go_at_call 12; refine (CB.out _ HN.out).mono ?_; rintro e w5 ⟨rfl, m5, rfl⟩; (
              have O5 := Lib.hid (O4.out.drewN m5)
              have G5 := Lib.hid (G4.out.drewN m5))))
        go_ret2
        exact newTB_as hr.out (newTB_len hq.out hlen.out O5.out F2.out.size G5.out)
    · dsimp only at hd S1 F1 ⊢
      by_cases hx : (x1, x2, x3) = noTest
      · by_cases h0 : 0 < xs.length
        · have hq := Lib.hid (do_back_yes hx h0)
          simp only [noTest, Prod.mk.injEq] at hx
          obtain ⟨rfl, rfl, rfl⟩ := hx
          have hzl : ((xs.length : Int) == 0) = false := by rw [beq_eq_false_iff_ne]; omega
          have hln := Lib.hid (show (xs.take (xs.length - 1)).length = xs.length - 1 by rw [List.length_take]; omega)
          have hcast : ((xs.length : Int) - 1).toNat = xs.length - 1 := by omega
          go_enter Tryz.func42, Tryz.ntmps42
          go_wp2_with fail
          refine (specBoard_val S1.out hm hz H.out).mono ?_; rintro e w2 ⟨rfl, m, rfl⟩
          have F2 := Lib.hid (F1.out.drewN m)
          have S2 := Lib.hid (Sl.drewN S1.out m)
          obtain ⟨w1, hw1⟩ : ∃ w1, w1 = (w.alloc (.cells #[.bool true, .string ByteArray.empty, .string ByteArray.empty, .string ByteArray.empty] 54)).drewN m := ⟨_, rfl⟩
          have q0 : w1.cell? ⟨w.heap.size, 0, none⟩ = some (.bool true) := by rw [hw1]; go_simp
          have q1 : w1.cell? ⟨w.heap.size, 1, none⟩ = some (.string ByteArray.empty) := by rw [hw1]; go_simp
          have q2 : w1.cell? ⟨w.heap.size, 2, none⟩ = some (.string ByteArray.empty) := by rw [hw1]; go_simp
          have q3 : w1.cell? ⟨w.heap.size, 3, none⟩ = some (.string ByteArray.empty) := by rw [hw1]; go_simp
          rw [← hw1] at F2 S2 ⊢
          have hbl : w.heap.size < w1.heap.size := World.block_lt_of_cell? w1 _ q0
          clear hw1
          have SW := Lib.hid (S2.out.fr ((Fr.refl w1.heap.size none w1).alloc (Nat.le_refl _) (.cells #[] 52)))
          have q0' := Lib.hid q0; have q1' := Lib.hid q1; have q2' := Lib.hid q2; have q3' := Lib.hid q3
          clear q0 q1 q2 q3
          go_wp2_with (at_builtin; refine appAllO rfl _ _ rfl a ca xs (World.ownsRow_made (base := w1.heap.size) w1 #[] 0 (Nat.le_refl _) (by simp [maxLen]) (by simp)) rfl rfl HP.out SW.out (by omega) (by simp) ?_; intro v' w3 ho3 hF3; (
              have K3 := Lib.hid (((Fr.refl w1.heap.size none w1).alloc (Nat.le_refl _) (.cells #[] 52)).trans (hF3.up (B' := w1.heap.size) (by simp) (by intro g hg; cases hg; exact Nat.le_refl _)))
              clear hF3
              have G3 := Lib.hid (F2.out.and K3.out)
              have S3 := Lib.hid (S2.out.fr K3.out)
              have r0 := (K3.out.cell (p := ⟨w.heap.size, 0, none⟩) hbl (by simp)).trans q0'.out
              have r1 := (K3.out.cell (p := ⟨w.heap.size, 1, none⟩) hbl (by simp)).trans q1'.out
              have r2 := (K3.out.cell (p := ⟨w.heap.size, 2, none⟩) hbl (by simp)).trans q2'.out
              have r3 := (K3.out.cell (p := ⟨w.heap.size, 3, none⟩) hbl (by simp)).trans q3'.out
              have hb3 : w.heap.size < w3.heap.size := Nat.lt_of_lt_of_le hbl K3.out.size
              obtain ⟨a', c', rfl, hc', hcm⟩ := own_slice ho3
              rw [Nat.zero_add] at ho3 hc'
              rw [List.nil_append] at ho3
              have O3 := Lib.hid ho3; clear ho3))
          have O6 := Lib.hid (own_take (k := xs.length - 1) (Own.of O3.out) (by omega))
          go_ret2
          exact newTB_as hr.out (newTB_len hq.out hln.out O6.out F2.out.size G3.out)
        · have hq := Lib.hid (do_back_no2 (x := (x1, x2, x3)) h0)
          simp only [noTest, Prod.mk.injEq] at hx
          obtain ⟨rfl, rfl, rfl⟩ := hx
          have hzl : ((xs.length : Int) == 0) = true := by rw [beq_iff_eq]; omega
          clear h0
          go_enter Tryz.func42, Tryz.ntmps42
          go_wp2_with fail
          refine (specBoard_val S1.out hm hz H.out).mono ?_; rintro e w2 ⟨rfl, m, rfl⟩
          have F2 := Lib.hid (F1.out.drewN m)
          have S2 := Lib.hid (Sl.drewN S1.out m)
          obtain ⟨w1, hw1⟩ : ∃ w1, w1 = (w.alloc (.cells #[.bool true, .string ByteArray.empty, .string ByteArray.empty, .string ByteArray.empty] 54)).drewN m := ⟨_, rfl⟩
          have q0 : w1.cell? ⟨w.heap.size, 0, none⟩ = some (.bool true) := by rw [hw1]; go_simp
          have q1 : w1.cell? ⟨w.heap.size, 1, none⟩ = some (.string ByteArray.empty) := by rw [hw1]; go_simp
          have q2 : w1.cell? ⟨w.heap.size, 2, none⟩ = some (.string ByteArray.empty) := by rw [hw1]; go_simp
          have q3 : w1.cell? ⟨w.heap.size, 3, none⟩ = some (.string ByteArray.empty) := by rw [hw1]; go_simp
          rw [← hw1] at F2 S2 ⊢
          have hbl : w.heap.size < w1.heap.size := World.block_lt_of_cell? w1 _ q0
          clear hw1
          have SW := Lib.hid (S2.out.fr ((Fr.refl w1.heap.size none w1).alloc (Nat.le_refl _) (.cells #[] 52)))
          have q0' := Lib.hid q0; have q1' := Lib.hid q1; have q2' := Lib.hid q2; have q3' := Lib.hid q3
          clear q0 q1 q2 q3
          go_wp2_with (at_builtin; refine appAllO rfl _ _ rfl a ca xs (World.ownsRow_made (base := w1.heap.size) w1 #[] 0 (Nat.le_refl _) (by simp [maxLen]) (by simp)) rfl rfl HP.out SW.out (by omega) (by simp) ?_; intro v' w3 ho3 hF3; (
              have K3 := Lib.hid (((Fr.refl w1.heap.size none w1).alloc (Nat.le_refl _) (.cells #[] 52)).trans (hF3.up (B' := w1.heap.size) (by simp) (by intro g hg; cases hg; exact Nat.le_refl _)))
              clear hF3
              have G3 := Lib.hid (F2.out.and K3.out)
              have S3 := Lib.hid (S2.out.fr K3.out)
              have r0 := (K3.out.cell (p := ⟨w.heap.size, 0, none⟩) hbl (by simp)).trans q0'.out
              have r1 := (K3.out.cell (p := ⟨w.heap.size, 1, none⟩) hbl (by simp)).trans q1'.out
              have r2 := (K3.out.cell (p := ⟨w.heap.size, 2, none⟩) hbl (by simp)).trans q2'.out
              have r3 := (K3.out.cell (p := ⟨w.heap.size, 3, none⟩) hbl (by simp)).trans q3'.out
              have hb3 : w.heap.size < w3.heap.size := Nat.lt_of_lt_of_le hbl K3.out.size
              obtain ⟨a', c', rfl, hc', hcm⟩ := own_slice ho3
              rw [Nat.zero_add] at ho3 hc'
              rw [List.nil_append] at ho3
              have O3 := Lib.hid ho3; clear ho3))
          go_ret2
          exact newTB_as hr.out (newTB_of hq.out (Own.of O3.out) F2.out.size G3.out)
      · have hq := Lib.hid (do_back_no1 (xs := xs) hx)
        have HX := Lib.hid hx; clear hx
        go_enter Tryz.func42, Tryz.ntmps42
        go_wp2_with fail
        refine (specBoard_val S1.out hm hz H.out).mono ?_; rintro e w2 ⟨rfl, m, rfl⟩
        have F2 := Lib.hid (F1.out.drewN m)
        have S2 := Lib.hid (Sl.drewN S1.out m)
        obtain ⟨w1, hw1⟩ : ∃ w1, w1 = (w.alloc (.cells #[.bool true, .string x1, .string x2, .string x3] 54)).drewN m := ⟨_, rfl⟩
        have q0 : w1.cell? ⟨w.heap.size, 0, none⟩ = some (.bool true) := by rw [hw1]; go_simp
        have q1 : w1.cell? ⟨w.heap.size, 1, none⟩ = some (.string x1) := by rw [hw1]; go_simp
        have q2 : w1.cell? ⟨w.heap.size, 2, none⟩ = some (.string x2) := by rw [hw1]; go_simp
        have q3 : w1.cell? ⟨w.heap.size, 3, none⟩ = some (.string x3) := by rw [hw1]; go_simp
        rw [← hw1] at F2 S2 ⊢
        have hbl : w.heap.size < w1.heap.size := World.block_lt_of_cell? w1 _ q0
        clear hw1
        have SW := Lib.hid (S2.out.fr ((Fr.refl w1.heap.size none w1).alloc (Nat.le_refl _) (.cells #[] 52)))
        have q0' := Lib.hid q0; have q1' := Lib.hid q1; have q2' := Lib.hid q2; have q3' := Lib.hid q3
        clear q0 q1 q2 q3
        go_wp2_with (at_builtin; refine appAllO rfl _ _ rfl a ca xs (World.ownsRow_made (base := w1.heap.size) w1 #[] 0 (Nat.le_refl _) (by simp [maxLen]) (by simp)) rfl rfl HP.out SW.out (by omega) (by simp) ?_; intro v' w3 ho3 hF3; (
            have K3 := Lib.hid (((Fr.refl w1.heap.size none w1).alloc (Nat.le_refl _) (.cells #[] 52)).trans (hF3.up (B' := w1.heap.size) (by simp) (by intro g hg; cases hg; exact Nat.le_refl _)))
            clear hF3
            have G3 := Lib.hid (F2.out.and K3.out)
            have S3 := Lib.hid (S2.out.fr K3.out)
            have r0 := (K3.out.cell (p := ⟨w.heap.size, 0, none⟩) hbl (by simp)).trans q0'.out
            have r1 := (K3.out.cell (p := ⟨w.heap.size, 1, none⟩) hbl (by simp)).trans q1'.out
            have r2 := (K3.out.cell (p := ⟨w.heap.size, 2, none⟩) hbl (by simp)).trans q2'.out
            have r3 := (K3.out.cell (p := ⟨w.heap.size, 3, none⟩) hbl (by simp)).trans q3'.out
            have hb3 : w.heap.size < w3.heap.size := Nat.lt_of_lt_of_le hbl K3.out.size
            obtain ⟨a', c', rfl, hc', hcm⟩ := own_slice ho3
            rw [Nat.zero_add] at ho3 hc'
            rw [List.nil_append] at ho3
            have O3 := Lib.hid ho3; clear ho3))
        all_goals first
          | (exfalso; apply HX.out; simp only [noTest, Prod.mk.injEq]; refine ⟨?_, ?_, ?_⟩ <;> (rw [← toList_nil_iff_emptyBytes]; assumption))
          | (go_ret2; exact newTB_as hr.out (newTB_of hq.out (Own.of O3.out) F2.out.size G3.out))
end Go.Proofs.YtdngnmpmaacapaaGreatDoor
/-
  Contracts: BoardRun, of the program and of the reference.
-/
namespace Go.Proofs.YtdngnmpmaacapaaGreatDoor
open Go.RowKit

theorem runTo_len {xs : List Tst} {ds : List Dd} (h : boardOkB xs = true) (k : Nat) : (runTo xs ds k).1.length ≤ 6 := board_le (runTo_ok h k)
theorem runC_le {xs : List Tst} {ds : List Dd} (h : xs.length ≤ 1048576) (_h2 : ds.length ≤ 1048576) : (runC xs ds).length ≤ 1048576 := by
  unfold runC
  split
  · next h1 => simp only [runOk, Bool.and_eq_true] at h1; have := runTo_len (ds := ds) h1.1 ds.length; omega
  · simp
theorem runC_no {xs : List Tst} {ds : List Dd} (h : runOk xs ds = false) : [] = runC xs ds := by simp [runC, h]
theorem runN_no {xs : List Tst} {ds : List Dd} (h : runOk xs ds = false) : 0 = runN xs ds := by simp [runN, h]
theorem runC_yes {xs : List Tst} {ds : List Dd} (h : runOk xs ds = true) : (runTo xs ds ds.length).1 = runC xs ds := by simp [runC, h]
theorem runN_yes {xs : List Tst} {ds : List Dd} (h : runOk xs ds = true) : ((runTo xs ds ds.length).2 : Int) = runN xs ds := by simp [runN, h]
/-- A new slice of exercises, and a number. -/
def NewTI (ys : List Tst) (n : Int) (w : World) (e : Ending) (w' : World) : Prop :=
  ∃ a cap, e = .returned (.tuple #[.slice a ys.length cap, .int .i64 n]) ∧ Own w' w.heap.size 52 3 (.slice a ys.length cap) ys.length (tests ys) ∧ Fr w.heap.size none w w'
theorem newTI_nil {ys : List Tst} {n : Int} {w w' : World} {a : Option Addr} (h : [] = ys) (hn : 0 = n) (ho : Own w' w.heap.size 52 3 (.slice a 0 0) 0 (tests [])) (hF : Fr w.heap.size none w w') : NewTI ys n w (.returned (.tuple #[.slice a 0 0, .int .i64 0])) w' := by
  subst h; subst hn; exact ⟨a, 0, rfl, ho, hF⟩
theorem newTI_of {xs ys : List Tst} {m n : Int} {w w' : World} {a : Option Addr} {cap : Nat} (h : xs = ys) (hn : m = n) (ho : Own w' w.heap.size 52 3 (.slice a xs.length cap) xs.length (tests xs)) (hF : Fr w.heap.size none w w') : NewTI ys n w (.returned (.tuple #[.slice a xs.length cap, .int .i64 m])) w' := by
  subst h; subst hn; exact ⟨a, cap, rfl, ho, hF⟩
theorem own_lecap {w : World} {B n cap : Nat} {E : TypeId} {z : Nat} {a : Option Addr} {cs : List Value} (h : Own w B E z (.slice a n cap) n cs) : n ≤ cap := by
  obtain ⟨a', c', e, h1, _⟩ := h.slice
  cases e; exact h1
theorem run_step {xs : List Tst} {ds : List Dd} {k : Nat} {d : Dd} (h : ds.getD k noDeed = d) : (doI (runTo xs ds k).1 d).1 = (runTo xs ds (k + 1)).1 := by rw [← h]; rfl
theorem run_stepN {xs : List Tst} {ds : List Dd} {k : Nat} {d : Dd} (h : ds.getD k noDeed = d) (h2 : (doI (runTo xs ds k).1 d).2 = true) : (runTo xs ds k).2 + 1 = (runTo xs ds (k + 1)).2 := by
  rw [← h] at h2; simp only [runTo]; rw [h2]; rfl
theorem run_stepZ {xs : List Tst} {ds : List Dd} {k : Nat} {d : Dd} (h : ds.getD k noDeed = d) (h2 : (doI (runTo xs ds k).1 d).2 = false) : (runTo xs ds k).2 = (runTo xs ds (k + 1)).2 := by
  rw [← h] at h2; simp only [runTo]; rw [h2]; rfl

set_option maxHeartbeats 2000000 in
theorem implBoardRun_any (a : Option Addr) (ca : Nat) (xs : List Tst) (b : Option Addr) (cb : Nat) (ds : List Dd) (w : World) (hs : Sl w a (tests xs)) (hm : xs.length ≤ 1048576) (hz : Small xs) (hk : Sl w b (deeds ds)) (hm2 : ds.length ≤ 1048576) (hz2 : SmallD ds) :
    Calls Tryz.prog 35 #[.slice a xs.length ca, .slice b ds.length cb] w (NewTI (runC xs ds) (runN xs ds) w) := by
  have HS := Lib.hid hs; have HK := Lib.hid hk; clear hs hk
  have HZ2 := Lib.hid hz2; clear hz2
  cases h : boardOkB xs
  · have hr1 := Lib.hid (runC_no (xs := xs) (ds := ds) (by simp [runOk, h])); have hr2 := Lib.hid (runN_no (xs := xs) (ds := ds) (by simp [runOk, h]))
    have H := Lib.hid h; clear h
    go_enter Tryz.func35, Tryz.ntmps35
    go_wp2_with fail
    refine (implBoard_val HS.out hm hz H.out).mono ?_; rintro e w1 ⟨rfl, hF1⟩
    have F1 := Lib.hid hF1; clear hF1
    go_wp2
    go_ret2
    exact newTI_nil hr1.out hr2.out (Own.nil _ _ _ _) F1.out
  · by_cases hd : ds.length ≤ 40
    · have hl := board_le h
      have hok : runOk xs ds = true := by simp [runOk, h, hd]
      have hr1 := Lib.hid (runC_yes hok); have hr2 := Lib.hid (runN_yes hok)
      have RS := Lib.hid (fun k => runTo_small (xs := xs) (ds := ds) hz HZ2.out k)
      have RL := Lib.hid (fun k => runTo_len (ds := ds) h k)
      have RN := Lib.hid (fun k => runTo_le xs ds k)
      clear hok
      have H := Lib.hid h; clear h
      go_enter Tryz.func35, Tryz.ntmps35
      go_wp2_with fail
      refine (implBoard_val HS.out hm hz H.out).mono ?_; rintro e w1 ⟨rfl, hF1⟩
      have F1 := Lib.hid hF1
      have S1 := Lib.hid (HS.out.fr hF1)
      clear hF1
      go_wp2_with fail
      refine (cloneT_any a ca xs _ S1.out hm).mono ?_; rintro e w2 ⟨a2, rfl, ho2, hF2⟩
      have F2 := Lib.hid (F1.out.and hF2)
      have K2 := Lib.hid (HK.out.fr F2.out)
      have O2 := Lib.hid (Own.base_le ho2 F1.out.size)
      have z2 := F2.out.size
      clear ho2 hF2
      go_wp2
      go_loopw [6, 7, 24] (fun o n i wr => ∃ k : Nat, k ≤ ds.length ∧ i = .int .i64 k ∧ (∃ a c, o = .slice a (runTo xs ds k).1.length c ∧ Own wr w.heap.size 52 3 (.slice a (runTo xs ds k).1.length c) (runTo xs ds k).1.length (tests (runTo xs ds k).1)) ∧ n = .int .i64 ((runTo xs ds k).2 : Int) ∧ Fr w.heap.size none w wr) (fun _ _ i _ => ds.length - (intOf i).toNat)
      case atStart => exact ⟨0, Nat.zero_le _, rfl, ⟨a2, xs.length, rfl, O2.out⟩, rfl, F2.out⟩
      case round =>
        obtain ⟨k, hk, rfl, ⟨ao, co, rfl, ho⟩, rfl, hF⟩ := hrel
        have HO := Lib.hid ho; have HF := Lib.hid hF; clear ho hF
        have rl := RL.out k
        have rn := RN.out k
        by_cases hlt : k < ds.length
        · obtain ⟨b1, off1, rfl, hc0, ⟨hc1, hc2, hc3⟩, hc1', hc2', hc3'⟩ := (HK.out.fr HF.out).deed k hlt
          have e1 := Lib.hid (fun d h => run_step (xs := xs) (ds := ds) (k := k) (d := d) h)
          have e2 := Lib.hid (fun d h => run_stepN (xs := xs) (ds := ds) (k := k) (d := d) h)
          have e3 := Lib.hid (fun d h => run_stepZ (xs := xs) (ds := ds) (k := k) (d := d) h)
          have hdz := Lib.hid (HZ2.out.at k)
          have hrz := Lib.hid (RS.out k)
          obtain ⟨d, hde⟩ : ∃ d, ds.getD k noDeed = d := ⟨_, rfl⟩
          have f1 := Lib.hid (e1.out d hde); have f2 := Lib.hid (e2.out d hde); have f3 := Lib.hid (e3.out d hde)
          rw [hde] at hc0 hc1 hc2 hc3 hc1' hc2' hc3' hdz
          clear e1 e2 e3 hde
          generalize runTo xs ds k = r at *
          obtain ⟨r1, rn1⟩ := r
          obtain ⟨d0, x1, x2, x3⟩ := d
          dsimp only at *
          have hrl := own_lecap HO.out
          go_wp2_with fail
          refine (implDo_any ao co r1 (d0, x1, x2, x3) _ ((Own.sl HO.out).fr ((Fr.refl _ _ wr).alloc (Nat.le_refl _) _)) (by omega) hrl hrz.out hdz.out).mono ?_; rintro e w4 ⟨a4, c4, rfl, ho4, hF4⟩
          have F4 := Lib.hid ((HF.out.alloc HF.out.size _).and hF4)
          have ho5 := ho4.base_le (base' := w.heap.size) (by simp; have := HF.out.size; omega)
          rw [f1.out] at ho5 ⊢
          have O5 := Lib.hid ho5
          clear ho4 ho5 hF4
          cases hd2 : (doI r1 (d0, x1, x2, x3)).2
          · have g := Lib.hid (f3.out hd2)
            clear hd2 f2 f3
            go_wp2
            go_roundw
            case rel => exact ⟨k + 1, by omega, by go_num, ⟨a4, c4, rfl, O5.out⟩, by rw [g.out], F4.out⟩
            case measure => simp [intOf]; omega
          · have g := Lib.hid (f2.out hd2)
            clear hd2 f2 f3
            go_wp2
            go_roundw
            case rel => exact ⟨k + 1, by omega, by go_num, ⟨a4, c4, rfl, O5.out⟩, by rw [← g.out]; go_num, F4.out⟩
            case measure => simp [intOf]; omega
        · have hkk : k = ds.length := by omega
          subst hkk
          go_wp2
          go_ret2
          exact newTI_of hr1.out hr2.out HO.out HF.out
    · have hok : runOk xs ds = false := by simp [runOk, hd]
      have hr1 := Lib.hid (runC_no hok); have hr2 := Lib.hid (runN_no hok)
      have hgt : (40 : Int) < (ds.length : Int) := by omega
      clear hok hd
      have H := Lib.hid h; clear h
      go_enter Tryz.func35, Tryz.ntmps35
      go_wp2_with fail
      refine (implBoard_val HS.out hm hz H.out).mono ?_; rintro e w1 ⟨rfl, hF1⟩
      have F1 := Lib.hid hF1; clear hF1
      go_wp2
      go_ret2
      exact newTI_nil hr1.out hr2.out (Own.nil _ _ _ _) F1.out
end Go.Proofs.YtdngnmpmaacapaaGreatDoor
/-
  Contracts: the draws of exercises and boards: a short new slice of short exercises.
-/
namespace Go.Proofs.YtdngnmpmaacapaaGreatDoor
open Go.RowKit

def Tiny (xs : List Tst) : Prop := ∀ x ∈ xs, tiny x
theorem tiny_nil : Tiny [] := by intro x hx; simp at hx
theorem tiny_snoc {xs : List Tst} {x : Tst} (h : Tiny xs) (hx : tiny x) : Tiny (xs ++ [x]) := by
  intro y hy; rcases List.mem_append.1 hy with h1 | h1
  · exact h y h1
  · simp at h1; subst h1; exact hx
theorem Tiny.small {xs : List Tst} (h : Tiny xs) : Small xs := fun x hx => tiny_small (h x hx)
theorem Tiny.at {xs : List Tst} (h : Tiny xs) (k : Nat) : tiny (xs.getD k noTest) := by
  by_cases hk : k < xs.length
  · have : xs.getD k noTest = xs[k] := by simp [List.getD_eq_getElem?_getD, hk]
    rw [this]; exact h _ (List.getElem_mem hk)
  · have : xs.getD k noTest = noTest := by simp [List.getD_eq_getElem?_getD, Nat.le_of_not_lt hk]
    rw [this]; exact ⟨Nat.zero_le _, Nat.zero_le _, Nat.zero_le _⟩
def setAns (xs : List Tst) (k : Nat) (u : ByteArray) : List Tst := xs.set k ((xs.getD k noTest).1, (xs.getD k noTest).2.1, u)
theorem setAns_len (xs : List Tst) (k : Nat) (u : ByteArray) : (setAns xs k u).length = xs.length := by simp [setAns]
theorem tests_set : ∀ (xs : List Tst) (k : Nat) (u : ByteArray), k < xs.length → (tests xs).set (k * 3 + 2) (.string u) = tests (setAns xs k u)
  | [], k, u, h => by simp at h
  | x :: xs, 0, u, _ => rfl
  | x :: xs, k + 1, u, h => by
    have h1 : tests (x :: xs) = [.string x.1, .string x.2.1, .string x.2.2] ++ tests xs := rfl
    have h2 : setAns (x :: xs) (k + 1) u = x :: setAns xs k u := by simp [setAns]
    have h3 : tests (x :: setAns xs k u) = [.string x.1, .string x.2.1, .string x.2.2] ++ tests (setAns xs k u) := rfl
    rw [h1, h2, h3, ← tests_set xs k u (by simpa using h), show (k + 1) * 3 + 2 = k * 3 + 2 + 1 + 1 + 1 by omega]
    rfl
theorem setAns_tiny {xs : List Tst} (h : Tiny xs) (k : Nat) {u : ByteArray} (hu : u.size ≤ 10) : Tiny (setAns xs k u) := by
  intro x hx
  rcases List.mem_or_eq_of_mem_set hx with h1 | h1
  · exact h x h1
  · subst h1; exact ⟨(h.at k).1, (h.at k).2.1, hu⟩
theorem row_past {w w' : World} {base : Nat} {e : TypeId} {k n B : Nat} {v : Value} {cs : List Value} (h : w.ownsRow base e k v n cs) (hF : Fr w.heap.size (some B) w w') (hB : B < base) : w'.ownsRow base e k v n cs :=
  own_frB h hF fun g hg => by have := h.lt g hg; exact ⟨this.2, by simp; omega⟩
theorem row_keep {w w' : World} {base : Nat} {e : TypeId} {k n : Nat} {v : Value} {cs : List Value} (h : w.ownsRow base e k v n cs) (hF : Fr w.heap.size none w w') : w'.ownsRow base e k v n cs :=
  own_frB h hF fun g hg => by have := h.lt g hg; exact ⟨this.2, by simp⟩
theorem row_stored {w : World} {base : Nat} {e : TypeId} {size n cap g : Nat} {cs : List Value} (h : w.ownsRow base e size (.slice (some ⟨g, 0, none⟩) n cap) n cs) (j : Nat) (u : Value) : (w.setCell ⟨g, j, none⟩ u).ownsRow base e size (.slice (some ⟨g, 0, none⟩) n cap) n (cs.set j u) := by
  refine ⟨by simpa using h.1, ?_⟩
  rcases h.2 with ⟨h', _⟩ | ⟨g', cap', cur, h', hb, hg, hnc, hcm, hcs, htake⟩
  · simp at h'
  · simp only [Value.slice.injEq, Option.some.injEq, Addr.mk.injEq, and_true, true_and] at h'
    obtain ⟨rfl, rfl⟩ := h'
    refine .inr ⟨g, cap, cur.setIfInBounds j u, rfl, hb, heap_setCell_same w g j cur e u hg, hnc, hcm, by simpa using hcs, ?_⟩
    rw [Array.toList_setIfInBounds, List.take_set, htake]
/-- A new slice of short exercises. -/
def NewTiny (m : Nat) (w : World) (base : Nat) (v : Value) : Prop := ∃ a cap, ∃ ys : List Tst, v = .slice a ys.length cap ∧ w.ownsRow base 52 3 (.slice a ys.length cap) ys.length (tests ys) ∧ ys.length ≤ m ∧ Tiny ys
theorem app_tests {w' : World} {base : Nat} {v' : Value} {xs : List Tst} {x1 x2 x3 : ByteArray} (h : w'.ownsRow base 52 3 v' (xs.length + 1) (tests xs ++ [.string x1, .string x2, .string x3])) :
    ∃ a c, v' = .slice a (xs ++ [(x1, x2, x3)]).length c ∧ w'.ownsRow base 52 3 (.slice a (xs ++ [(x1, x2, x3)]).length c) (xs ++ [(x1, x2, x3)]).length (tests (xs ++ [(x1, x2, x3)])) := by
  have hl : (xs ++ [(x1, x2, x3)]).length = xs.length + 1 := by simp
  obtain ⟨a, c, rfl, _, _⟩ := own_slice h
  exact ⟨a, c, by rw [hl], by rw [hl, tests, rows_append, rows_one]; exact h⟩

theorem stepOwn {ops : Array Oper} {o : Oper} {a : Act} {w : World} {K : Act → World → Prop} {Q : Exit → Act → World → Prop} {E : Prop} {B : Nat}
    (hg : o.guard = none) (s x : Operand) (hop : o.op = Op.call { callee := Callee.builtin Builtin.append, args := #[s, x], argTypes := #[23, 23] })
    (v : Value) (n : Nat) (xs : List Tst) (x1 x2 x3 : ByteArray) (g : Nat) (hs : a.eval s = v) (ho : w.ownsRow B 52 3 v n (tests xs)) (hx : a.eval x = .slice (some ⟨g, 0, none⟩) 1 1)
    (hb : w.heap[g]? = some (.cells #[.string x1, .string x2, .string x3] 52 (0, 0))) (hn : n ≤ 1048575) (hB : B ≤ w.heap.size)
    (hK : ∀ v' w', w'.ownsRow B 52 3 v' (n + 1) (tests xs ++ [.string x1, .string x2, .string x3]) → Fr w.heap.size v.ownBlock w w' → K (a.put o.dst v') w') :
    if Region.wanted o (yielded ops a.tmps) = true then Oper.wp Tryz.prog o a w K Q else E := by
  have hw : Region.wanted o (yielded ops a.tmps) = true := by simp [Region.wanted, hg]
  rw [if_pos hw]
  obtain ⟨i0, hi, hz0, hz1, hz2⟩ := info_parts infoTest
  refine wp_append_own w s x 23 hop B 52 i0 (.agg #[.string ByteArray.empty, .string ByteArray.empty, .string ByteArray.empty]) 3 48 Tryz.underlying23 hi hz0 hz1 hz2 rfl (by decide) v n (tests xs) hs ho ⟨g, 0, none⟩ 1 1 [.string x1, .string x2, .string x3] hx rfl (World.news_of_block (cs := #[.string x1, .string x2, .string x3]) (t := 52) (fr := (0, 0)) hb) (by simp [Value.oneCell']) (by simp [maxLen]; omega) (by omega) hB ?_
  intro v' w' hown hgrow _
  exact hK v' w' hown ((Fr.refl _ _ w).grown hgrow (Nat.le_refl _) (fun k hk => .inr hk.symm))

set_option maxHeartbeats 2000000 in
set_option maxRecDepth 100000 in
theorem answeredBy_any (a : Option Addr) (cap : Nat) (xs : List Tst) (way : Int) (w : World) (hs : Sl w a (tests xs)) (hm : xs.length ≤ 20) (hz : Tiny xs) :
    Calls Tryz.prog 89 #[.slice a xs.length cap, .int .i64 way] w fun e w' => ∃ v, e = .returned v ∧ NewTiny xs.length w' w.heap.size v ∧ Fr w.heap.size none w w' := by
  have HS := Lib.hid hs; have HZ := Lib.hid hz; clear hs hz
  obtain ⟨r1, hr1⟩ : ∃ r, testsOkB xs = r := ⟨_, rfl⟩
  obtain ⟨r2, hr2⟩ : ∃ r, inB way 0 15 = r := ⟨_, rfl⟩
  have R1 := Lib.hid hr1; have R2 := Lib.hid hr2; clear hr1 hr2
  go_enter Tryz.func89, Tryz.ntmps89
  go_wp2
  go_loopw [5, 6] (fun v i wr => ∃ (k : Nat) (a' : Option Addr) (c' : Nat) (ys : List Tst), k ≤ xs.length ∧ i = .int .i64 k ∧ v = .slice a' ys.length c' ∧ wr.ownsRow w.heap.size 52 3 (.slice a' ys.length c') ys.length (tests ys) ∧ ys.length = k ∧ Hid (Tiny ys) ∧ Fr w.heap.size none w wr) (fun _ i _ => xs.length - (intOf i).toNat)
  case atStart => exact ⟨0, some ⟨w.heap.size, 0, none⟩, 0, [], Nat.zero_le _, rfl, rfl, World.ownsRow_made (e := 52) (size := 3) (base := w.heap.size) w #[] 0 (Nat.le_refl _) (by simp [maxLen]) (by simp), rfl, tiny_nil, (Fr.refl w.heap.size none w).alloc (Nat.le_refl _) _⟩
  case round =>
    obtain ⟨k, a', c', ys, hk, rfl, rfl, ho, hl, hT, hF⟩ := hrel
    have HO := Lib.hid ho; have HF := Lib.hid hF; have hz := hF.size; have HL := Lib.hid hl; have hl2 : ys.length ≤ xs.length := by omega
    clear ho hF hl
    by_cases hlt : k < xs.length
    · cases r1
      · have hlt' : (k : Int) < (xs.length : Int) := by omega
        go_wp2_with (go_at_call 54; refine (specTests_val (HS.out.fr HF.out) (by omega) HZ.out.small R1.out).mono ?_; rintro e w2 ⟨rfl, m, rfl⟩)
        go_ret
        exact ⟨_, rfl, ⟨a', c', ys, rfl, HO.out, hl2, hT.out⟩, HF.out.drewN m⟩
      · cases r2
        · have hlt' : (k : Int) < (xs.length : Int) := by omega
          go_wp2_with (first | (go_at_call 54; refine (specTests_val (HS.out.fr HF.out) (by omega) HZ.out.small R1.out).mono ?_; rintro e w2 ⟨rfl, m, rfl⟩) | (go_at_call 86; refine (l1In_val R2.out _).mono ?_; rintro e w' ⟨rfl, rfl⟩))
          go_ret
          exact ⟨_, rfl, ⟨a', c', ys, rfl, HO.out, hl2, hT.out⟩, HF.out.drewN m⟩
        · have hlt' : (k : Int) < (xs.length : Int) := by omega
          go_wp2_with (first | (go_at_call 54; refine (specTests_val (HS.out.fr HF.out) (by omega) HZ.out.small R1.out).mono ?_; rintro e w2 ⟨rfl, m, rfl⟩) | (go_at_call 86; refine (l1In_val R2.out _).mono ?_; rintro e w' ⟨rfl, rfl⟩))
          obtain ⟨w1, hw1⟩ : ∃ w1, w1 = wr.drewN m := ⟨_, rfl⟩
          have F1 := Lib.hid (show Fr w.heap.size none w w1 by rw [hw1]; exact HF.out.drewN m)
          have O1 := Lib.hid (show w1.ownsRow w.heap.size 52 3 (.slice a' ys.length c') ys.length (tests ys) by rw [hw1]; exact own_drewN HO.out m)
          have z1 := F1.out.size
          rw [← hw1]; clear hw1
          have hlo : ∀ q, a = some q → q.block < w.heap.size := by
            intro q hq
            obtain ⟨b', off', e', h0', _⟩ := HS.out.test k hlt
            rw [e'] at hq; cases hq
            exact World.block_lt_of_cell? w ⟨b', off' + k * 3, none⟩ h0'
          obtain ⟨b, off, rfl, hc0, _, _, hc1, hc2⟩ := (HS.out.fr F1.out).test k hlt
          have hbw : b < w.heap.size := hlo _ rfl
          clear hlo
          obtain ⟨t1, t2, t3⟩ := HZ.out.at k
          generalize xs.getD k noTest = x at *
          obtain ⟨x1, x2, x3⟩ := x
          dsimp only at *
          have hb := World.block_lt_of_cell? w1 _ hc0
          have k0 : (0 : Int) ≤ (k : Int) := by omega
          go_wp2
          go_region_held3 (fun w' => w'.cell? ⟨b, off + k * 3, none⟩ = some (.string x1) ∧ w'.cell? ⟨b, off + k * 3 + 1, none⟩ = some (.string x2))
            (first | go_keep | (go_split_ands; refine ⟨?_, ?_⟩ <;> (rw [hF2.cell (by first | (simpa using hb) | (simp; omega)) (by simp)]; assumption)))
            (first | (go_at_call 106; refine (takenBy_any x1 x2 way _ (by omega) (by omega)).mono ?_; rintro e w2 ⟨⟨y, by_, rfl, hy⟩, hF2⟩))
          have F2 := Lib.hid (F1.out.and (((Fr.refl w1.heap.size none w1).drew).and hF2))
          have O2 := Lib.hid (row_keep O1.out (((Fr.refl w1.heap.size none w1).drew).and hF2))
          have d0 : w2.cell? ⟨b, off + k * 3, none⟩ = some (.string x1) := (hF2.cell (p := ⟨b, off + k * 3, none⟩) hb (by simp)).trans hc0
          have d1 : w2.cell? ⟨b, off + k * 3 + 1, none⟩ = some (.string x2) := (hF2.cell (p := ⟨b, off + k * 3 + 1, none⟩) hb (by simp)).trans hc1
          have z2 := F2.out.size
          have hne : some b ≠ (Value.slice a' ys.length c').ownBlock := fun e => by have := (own_lt O2.out b e.symm).1; omega
          have hne := Lib.hid hne
          clear hF2 hc0 hc1 hc2
          go_wp2
          go_region_held3 (fun w' => w'.cell? ⟨b, off + k * 3, none⟩ = some (.string x1) ∧ w'.cell? ⟨b, off + k * 3 + 1, none⟩ = some (.string x2))
            (first | go_keep | (go_split_ands; refine ⟨?_, ?_⟩ <;> (rw [hF'.cell (by simp; omega) (by first | exact hne.out | simpa using hne.out)]; assumption)))
            (first | (refine stepOwn (by rfl) (.tmp 39) (.tmp 52) (by rfl) _ ys.length ys x1 x2 y w2.heap.size (by rfl) ((own_drewN O2.out 1).alloc _) (by rfl) (heap_alloc_new _ _) (by omega) (by simp; omega) ?_; intro v' w' ho' hF'))
          have F3 := Lib.hid (app_frame (F2.out.drew.alloc z2 _) ((own_drewN O2.out 1).alloc _) hF' (by simp; omega))
          obtain ⟨a3, c3, rfl, ho3⟩ := app_tests ho'
          have O3 := Lib.hid ho3
          have T3 := Lib.hid (tiny_snoc hT.out (x := (x1, x2, y)) ⟨t1, t2, by show y.size ≤ 10; omega⟩)
          have L3 := Lib.hid (show (ys ++ [(x1, x2, y)]).length = k + 1 by rw [List.length_append, HL.out]; rfl)
          clear ho' hF' ho3
          go_wp2
          go_roundw
          case rel => exact ⟨k + 1, a3, c3, _, by omega, by go_num, rfl, O3.out, L3.out, T3, F3.out⟩
          case measure => simp [intOf]; omega
    · have hge : (xs.length : Int) ≤ (k : Int) := by omega
      go_wp2
      go_ret
      exact ⟨_, rfl, ⟨a', c', ys, rfl, HO.out, hl2, hT.out⟩, HF.out⟩
end Go.Proofs.YtdngnmpmaacapaaGreatDoor
