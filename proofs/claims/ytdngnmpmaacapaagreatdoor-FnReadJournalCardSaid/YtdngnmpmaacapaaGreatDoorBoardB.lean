/-
  Contracts: BoardDo, of the program and of the reference.
-/
import Derived.Test.YtdngnmpmaacapaaGreatDoorBoardA
import Derived.Laws.AppendOwnNone
namespace Go.Proofs.YtdngnmpmaacapaaGreatDoor
open Go.RowKit

theorem boardDo_no {xs : List Tst} {d : Dd} (h : boardOkB xs = false) : ([], false) = boardDoI xs d := by simp [boardDoI, h]
theorem boardDo_yes {xs : List Tst} {d : Dd} (h : boardOkB xs = true) : doI xs d = boardDoI xs d := by simp [boardDoI, h]
theorem boardDo_le {xs : List Tst} {d : Dd} (h : xs.length ≤ 1048576) : (boardDoI xs d).1.length ≤ 1048576 := by
  unfold boardDoI
  split
  · next h2 => have := do_len (xs := xs) d; have := board_le h2; omega
  · simp
theorem newTB_as {r r' : List Tst × Bool} {w : World} {e : Ending} {w' : World} (h : r = r') (hN : NewTB r.1 r.2 w e w') : NewTB r'.1 r'.2 w e w' := h ▸ hN
theorem newTB_box {ys : List Tst} {b : Bool} {w w1 : World} {e : Ending} {w' : World} (hF : Fr w.heap.size none w w1) (hN : NewTB ys b w1 e w') : NewTB ys b w e w' := by
  obtain ⟨a, cap, rfl, ho, h2⟩ := hN
  exact ⟨a, cap, rfl, ho.base_le hF.size, hF.and h2⟩

theorem appAllO {ops : Array Oper} {rest : List Oper} {o : Oper} {a : Act} {Q : Exit → Act → World → Prop} {wr : World}
    (hgd : o.guard = none) (s x : Operand) (ho : o.op = .call { callee := .builtin .append, args := #[s, x], argTypes := #[23, 23] })
    {B : Nat} {v : Value} {n : Nat} {cs : List Value} (p : Option Addr) (c : Nat) (xs : List Tst) (hown : wr.ownsRow B 52 3 v n cs) (hs : a.eval s = v) (hx : a.eval x = .slice p xs.length c)
    (hp : p = none → c = 0) (hsl : Sl wr p (tests xs)) (hn : n + xs.length ≤ 1099511627776) (hB : B ≤ wr.heap.size)
    (h : ∀ v' w', w'.ownsRow B 52 3 v' (n + xs.length) (cs ++ tests xs) → Fr wr.heap.size v.ownBlock wr w' → wpList Tryz.prog ops Q rest (a.put o.dst v') w') :
    wpList Tryz.prog ops Q (o :: rest) a wr := by
  cases p with
  | none =>
    have h0 : xs = [] := by
      cases xs with
      | nil => rfl
      | cons c r => obtain ⟨b, off, e, _⟩ := hsl 0 (by rw [tests_length]; simp); cases e
    subst h0
    have hc := hp rfl
    subst hc
    obtain ⟨i0, hi, hz0, hz1, hz2⟩ := info_parts infoTest
    refine wpList_append_own_none hgd s x 23 ho B 52 i0 3 Tryz.underlying23 hi v n cs hs hown hx ?_
    exact h v wr (by simpa [tests, rows] using hown) (Fr.refl _ _ _)
  | some q =>
    exact appAll 23 52 (.agg #[.string ByteArray.empty, .string ByteArray.empty, .string ByteArray.empty]) 3 48 Tryz.underlying23 infoTest rfl (by decide) (by decide) hgd s x ho q xs.length c (tests xs) hown hs hx (tests_length xs) hsl (cells_oneT xs) hn hB h

theorem own_take {w : World} {B n cap k : Nat} {a : Option Addr} {xs : List Tst} (h : Own w B 52 3 (.slice a n cap) n (tests xs)) (hk : k ≤ n) : Own w B 52 3 (.slice a k cap) k (tests (xs.take k)) := by
  have hl := h.1
  rw [tests_length] at hl
  refine ⟨by rw [tests_length, List.length_take]; omega, ?_⟩
  rcases h.2 with ⟨h', h0⟩ | ⟨g, cap', cur, h', hb, hg, hnc, hcm, hcs, ht⟩
  · simp only [Value.slice.injEq] at h'
    obtain ⟨rfl, _, rfl⟩ := h'
    exact .inl ⟨by congr 1; omega, by omega⟩
  · simp only [Value.slice.injEq] at h'
    obtain ⟨rfl, _, rfl⟩ := h'
    refine .inr ⟨g, cap, cur, rfl, hb, hg, by omega, hcm, hcs, ?_⟩
    have e : tests xs = tests (xs.take k) ++ tests (xs.drop k) := by rw [tests, tests, tests, ← rows_append, List.take_append_drop]
    have h3 : (tests (xs.take k)).length = k * 3 := by rw [tests_length, List.length_take]; congr 1; omega
    have : cur.toList.take (k * 3) = (cur.toList.take (n * 3)).take (k * 3) := by rw [List.take_take]; congr 1; omega
    rw [this, ht, e, ← h3, List.take_left']
    rfl
theorem madeNil {w : World} {B g : Nat} (hB : B ≤ w.heap.size) (hg : g = w.heap.size) : Own (w.alloc (.cells #[] 52)) B 52 3 (.slice (some ⟨g, 0, none⟩) 0 0) 0 (tests []) := by
  subst hg
  exact Own.of (World.ownsRow_made w #[] 0 hB (by simp [maxLen]) (by simp))
set_option maxHeartbeats 2000000 in
set_option maxRecDepth 100000 in
theorem specBoardDo_any (a : Option Addr) (ca : Nat) (xs : List Tst) (d : Dd) (w : World) (hs : Sl w a (tests xs)) (hm : xs.length ≤ 1048576) (hz : Small xs) (hd : small d.2) (hp : a = none → ca = 0) :
    Calls Tryz.prog 42 #[.slice a xs.length ca, .agg #[.bool d.1, .string d.2.1, .string d.2.2.1, .string d.2.2.2]] w (NewTB (boardDoI xs d).1 (boardDoI xs d).2 w) := by
  have HP := Lib.hid hp; clear hp
  have S1 := Lib.hid (hs.fr ((Fr.refl w.heap.size none w).alloc (Nat.le_refl _) (.cells #[.bool d.1, .string d.2.1, .string d.2.2.1, .string d.2.2.2] 54)))
  have F1 := Lib.hid ((Fr.refl w.heap.size none w).alloc (Nat.le_refl _) (.cells #[.bool d.1, .string d.2.1, .string d.2.2.1, .string d.2.2.2] 54))
  clear hs
  obtain ⟨d0, x1, x2, x3⟩ := d
  cases h : boardOkB xs
  · have hr := Lib.hid (boardDo_no (d := (d0, x1, x2, x3)) h)
    have H := Lib.hid h; clear h
    go_enter Tryz.func42, Tryz.ntmps42
    go_wp2_with fail
    refine (specBoard_val S1.out hm hz H.out).mono ?_; rintro e w2 ⟨rfl, m, rfl⟩
    have F2 := Lib.hid (F1.out.drewN m)
    go_wp2
    go_ret2
    exact newTB_as hr.out ⟨_, 0, rfl, madeNil F2.out.size (by simp), F2.out.alloc F2.out.size _⟩
  · have hr := Lib.hid (boardDo_yes (d := (d0, x1, x2, x3)) h)
    have hl := board_le h
    have H := Lib.hid h; clear h
    cases d0
    · dsimp only at hd S1 F1 ⊢
      cases hb : boardOkB (xs ++ [(x1, x2, x3)])
      · have hq := Lib.hid (do_take_no hb)
        have HB := Lib.hid hb; clear hb
        go_enter Tryz.func42, Tryz.ntmps42
        go_wp2_with fail
        refine (specBoard_val S1.out hm hz H.out).mono ?_; rintro e w2 ⟨rfl, m, rfl⟩
        have F2 := Lib.hid (F1.out.drewN m)
        have S2 := Lib.hid (Sl.drewN S1.out m)
        obtain ⟨w1, hw1⟩ : ∃ w1, w1 = (w.alloc (.cells #[.bool false, .string x1, .string x2, .string x3] 54)).drewN m := ⟨_, rfl⟩
        have q0 : w1.cell? ⟨w.heap.size, 0, none⟩ = some (.bool false) := by rw [hw1]; go_simp
        have q1 : w1.cell? ⟨w.heap.size, 1, none⟩ = some (.string x1) := by rw [hw1]; go_simp
        have q2 : w1.cell? ⟨w.heap.size, 2, none⟩ = some (.string x2) := by rw [hw1]; go_simp
        have q3 : w1.cell? ⟨w.heap.size, 3, none⟩ = some (.string x3) := by rw [hw1]; go_simp
        rw [← hw1] at F2 S2 ⊢
        have hbl : w.heap.size < w1.heap.size := World.block_lt_of_cell? w1 _ q0
        clear hw1
        have SW := Lib.hid (S2.out.fr ((Fr.refl w1.heap.size none w1).alloc (Nat.le_refl _) (.cells #[] 52)))
        have q0' := Lib.hid q0; have q1' := Lib.hid q1; have q2' := Lib.hid q2; have q3' := Lib.hid q3
        clear q0 q1 q2 q3
        go_wp2_with (first
          | (at_builtin; refine appAllO rfl _ _ rfl a ca xs (World.ownsRow_made (base := w1.heap.size) w1 #[] 0 (Nat.le_refl _) (by simp [maxLen]) (by simp)) rfl rfl HP.out SW.out (by omega) (by simp) ?_; intro v' w3 ho3 hF3; (
            have K3 := Lib.hid (((Fr.refl w1.heap.size none w1).alloc (Nat.le_refl _) (.cells #[] 52)).trans (hF3.up (B' := w1.heap.size) (by simp) (by intro g hg; cases hg; exact Nat.le_refl _)))
            clear hF3
            have G3 := Lib.hid (F2.out.and K3.out)
            have S3 := Lib.hid (S2.out.fr K3.out)
            have r0 := (K3.out.cell (p := ⟨w.heap.size, 0, none⟩) hbl (by simp)).trans q0'.out
            have r1 := (K3.out.cell (p := ⟨w.heap.size, 1, none⟩) hbl (by simp)).trans q1'.out
            have r2 := (K3.out.cell (p := ⟨w.heap.size, 2, none⟩) hbl (by simp)).trans q2'.out
            have r3 := (K3.out.cell (p := ⟨w.heap.size, 3, none⟩) hbl (by simp)).trans q3'.out
            have hb3 : w.heap.size < w3.heap.size := Nat.lt_of_lt_of_le hbl K3.out.size
            obtain ⟨a', c', rfl, hc', hcm⟩ := own_slice ho3
            rw [Nat.zero_add] at ho3 hc'
            rw [List.nil_append] at ho3
            have O3 := Lib.hid ho3; clear ho3))
          | (at_builtin; refine app1 23 52 (.agg #[.string ByteArray.empty, .string ByteArray.empty, .string ByteArray.empty]) 3 48 Tryz.underlying23 infoTest rfl (by decide) (by decide) rfl _ _ rfl [.string x1, .string x2, .string x3] O3.out rfl rfl rfl (by simp [Value.oneCell']) (by omega) (K3.out.size) ?_; intro v' w4 ho4 hF4; (
              have K4 := Lib.hid (app_frame K3.out O3.out hF4 K3.out.size)
              have G4 := Lib.hid (F2.out.and K4.out)
              have S4 := Lib.hid (S2.out.fr K4.out)
              clear hF4 r0 r1 r2 r3
              obtain ⟨a4, c4, rfl, hc4, hcm4⟩ := own_slice ho4
              have hN : Sl w4 a4 (tests (xs ++ [(x1, x2, x3)])) := by rw [tests, rows_append, rows_one]; exact own_sl ho4
              have HN := Lib.hid hN
              have ho5 : Own w4 w1.heap.size 52 3 (.slice a4 (xs.length + 1) c4) (xs.length + 1) (tests (xs ++ [(x1, x2, x3)])) := by rw [tests, rows_append, rows_one]; exact Own.of ho4
              have O4 := Lib.hid ho5
              have CB := fun W hs => specBoard_val (a := a4) (cap := c4) (xs := xs ++ [(x1, x2, x3)]) (w := W) hs (by simp; omega) (small_snoc hz hd) HB.out
              simp only [List.length_append, List.length_cons, List.length_nil, Nat.zero_add] at CB
              have CB := Lib.hid CB
              clear hN ho4 ho5))
          | (go_at_call 12; refine (CB.out _ HN.out).mono ?_; rintro e w5' ⟨rfl, m5, rfl⟩; (
              obtain ⟨w5, hw5⟩ : ∃ w5, w5 = w4.drewN m5 := ⟨_, rfl⟩
              have G5 := Lib.hid (show Fr w.heap.size none w w5 by rw [hw5]; exact G4.out.drewN m5)
              have S5 := Lib.hid (show Sl w5 a (tests xs) by rw [hw5]; exact Sl.drewN S4.out m5)
              rw [← hw5]
              clear hw5
              have SW5 := Lib.hid (S5.out.fr ((Fr.refl w5.heap.size none w5).alloc (Nat.le_refl _) (.cells #[] 52)))))
          | (at_builtin; refine appAllO rfl _ _ rfl a ca xs (World.ownsRow_made (base := w5.heap.size) w5 #[] 0 (Nat.le_refl _) (by simp [maxLen]) (by simp)) rfl rfl HP.out SW5.out (by omega) (by simp) ?_; intro v' w6 ho6 hF6; (
              have G6 := Lib.hid (G5.out.and (((Fr.refl w5.heap.size none w5).alloc (Nat.le_refl _) (.cells #[] 52)).trans (hF6.up (B' := w5.heap.size) (by simp) (by intro g hg; cases hg; exact Nat.le_refl _))))
              clear hF6
              obtain ⟨a6, c6, rfl, hc6, hcm6⟩ := own_slice ho6
              rw [Nat.zero_add] at ho6
              rw [List.nil_append] at ho6
              have O6 := Lib.hid (Own.of ho6); clear ho6)))
        go_ret2
        exact newTB_as hr.out (newTB_of hq.out O6.out G5.out.size G6.out)
      · have hq := Lib.hid (do_take_yes hb)
        have HB := Lib.hid hb; clear hb
        have hlen := Lib.hid (show (xs ++ [(x1, x2, x3)]).length = xs.length + 1 by simp)
        go_enter Tryz.func42, Tryz.ntmps42
        go_wp2_with fail
        refine (specBoard_val S1.out hm hz H.out).mono ?_; rintro e w2 ⟨rfl, m, rfl⟩
        have F2 := Lib.hid (F1.out.drewN m)
        have S2 := Lib.hid (Sl.drewN S1.out m)
        obtain ⟨w1, hw1⟩ : ∃ w1, w1 = (w.alloc (.cells #[.bool false, .string x1, .string x2, .string x3] 54)).drewN m := ⟨_, rfl⟩
        have q0 : w1.cell? ⟨w.heap.size, 0, none⟩ = some (.bool false) := by rw [hw1]; go_simp
        have q1 : w1.cell? ⟨w.heap.size, 1, none⟩ = some (.string x1) := by rw [hw1]; go_simp
        have q2 : w1.cell? ⟨w.heap.size, 2, none⟩ = some (.string x2) := by rw [hw1]; go_simp
        have q3 : w1.cell? ⟨w.heap.size, 3, none⟩ = some (.string x3) := by rw [hw1]; go_simp
        rw [← hw1] at F2 S2 ⊢
        have hbl : w.heap.size < w1.heap.size := World.block_lt_of_cell? w1 _ q0
        clear hw1
        have SW := Lib.hid (S2.out.fr ((Fr.refl w1.heap.size none w1).alloc (Nat.le_refl _) (.cells #[] 52)))
        have q0' := Lib.hid q0; have q1' := Lib.hid q1; have q2' := Lib.hid q2; have q3' := Lib.hid q3
        clear q0 q1 q2 q3
        go_wp2_with (first
          | (at_builtin; refine appAllO rfl _ _ rfl a ca xs (World.ownsRow_made (base := w1.heap.size) w1 #[] 0 (Nat.le_refl _) (by simp [maxLen]) (by simp)) rfl rfl HP.out SW.out (by omega) (by simp) ?_; intro v' w3 ho3 hF3; (
            have K3 := Lib.hid (((Fr.refl w1.heap.size none w1).alloc (Nat.le_refl _) (.cells #[] 52)).trans (hF3.up (B' := w1.heap.size) (by simp) (by intro g hg; cases hg; exact Nat.le_refl _)))
            clear hF3
            have G3 := Lib.hid (F2.out.and K3.out)
            have S3 := Lib.hid (S2.out.fr K3.out)
            have r0 := (K3.out.cell (p := ⟨w.heap.size, 0, none⟩) hbl (by simp)).trans q0'.out
            have r1 := (K3.out.cell (p := ⟨w.heap.size, 1, none⟩) hbl (by simp)).trans q1'.out
            have r2 := (K3.out.cell (p := ⟨w.heap.size, 2, none⟩) hbl (by simp)).trans q2'.out
            have r3 := (K3.out.cell (p := ⟨w.heap.size, 3, none⟩) hbl (by simp)).trans q3'.out
            have hb3 : w.heap.size < w3.heap.size := Nat.lt_of_lt_of_le hbl K3.out.size
            obtain ⟨a', c', rfl, hc', hcm⟩ := own_slice ho3
            rw [Nat.zero_add] at ho3 hc'
            rw [List.nil_append] at ho3
            have O3 := Lib.hid ho3; clear ho3))
          | (at_builtin; refine app1 23 52 (.agg #[.string ByteArray.empty, .string ByteArray.empty, .string ByteArray.empty]) 3 48 Tryz.underlying23 infoTest rfl (by decide) (by decide) rfl _ _ rfl [.string x1, .string x2, .string x3] O3.out rfl rfl rfl (by simp [Value.oneCell']) (by omega) (K3.out.size) ?_; intro v' w4 ho4 hF4; (
              have K4 := Lib.hid (app_frame K3.out O3.out hF4 K3.out.size)
              have G4 := Lib.hid (F2.out.and K4.out)
              have S4 := Lib.hid (S2.out.fr K4.out)
              clear hF4 r0 r1 r2 r3
              obtain ⟨a4, c4, rfl, hc4, hcm4⟩ := own_slice ho4
              have hN : Sl w4 a4 (tests (xs ++ [(x1, x2, x3)])) := by rw [tests, rows_append, rows_one]; exact own_sl ho4
              have HN := Lib.hid hN
              have ho5 : Own w4 w1.heap.size 52 3 (.slice a4 (xs.length + 1) c4) (xs.length + 1) (tests (xs ++ [(x1, x2, x3)])) := by rw [tests, rows_append, rows_one]; exact Own.of ho4
              have O4 := Lib.hid ho5
              have CB := fun W hs => specBoard_val (a := a4) (cap := c4) (xs := xs ++ [(x1, x2, x3)]) (w := W) hs (by simp; omega) (small_snoc hz hd) HB.out
              simp only [List.length_append, List.length_cons, List.length_nil, Nat.zero_add] at CB
              have CB := Lib.hid CB
              clear hN ho4 ho5))
          | (go_at_call 12; refine (CB.out _ HN.out).mono ?_; rintro e w5 ⟨rfl, m5, rfl⟩; (
              have O5 := Lib.hid (O4.out.drewN m5)
              have G5 := Lib.hid (G4.out.drewN m5))))
        go_ret2
        exact newTB_as hr.out (newTB_len hq.out hlen.out O5.out F2.out.size G5.out)
    · dsimp only at hd S1 F1 ⊢
      by_cases hx : (x1, x2, x3) = noTest
      · by_cases h0 : 0 < xs.length
        · have hq := Lib.hid (do_back_yes hx h0)
          simp only [noTest, Prod.mk.injEq] at hx
          obtain ⟨rfl, rfl, rfl⟩ := hx
          have hzl : ((xs.length : Int) == 0) = false := by rw [beq_eq_false_iff_ne]; omega
          have hln := Lib.hid (show (xs.take (xs.length - 1)).length = xs.length - 1 by rw [List.length_take]; omega)
          have hcast : ((xs.length : Int) - 1).toNat = xs.length - 1 := by omega
          go_enter Tryz.func42, Tryz.ntmps42
          go_wp2_with fail
          refine (specBoard_val S1.out hm hz H.out).mono ?_; rintro e w2 ⟨rfl, m, rfl⟩
          have F2 := Lib.hid (F1.out.drewN m)
          have S2 := Lib.hid (Sl.drewN S1.out m)
          obtain ⟨w1, hw1⟩ : ∃ w1, w1 = (w.alloc (.cells #[.bool true, .string ByteArray.empty, .string ByteArray.empty, .string ByteArray.empty] 54)).drewN m := ⟨_, rfl⟩
          have q0 : w1.cell? ⟨w.heap.size, 0, none⟩ = some (.bool true) := by rw [hw1]; go_simp
          have q1 : w1.cell? ⟨w.heap.size, 1, none⟩ = some (.string ByteArray.empty) := by rw [hw1]; go_simp
          have q2 : w1.cell? ⟨w.heap.size, 2, none⟩ = some (.string ByteArray.empty) := by rw [hw1]; go_simp
          have q3 : w1.cell? ⟨w.heap.size, 3, none⟩ = some (.string ByteArray.empty) := by rw [hw1]; go_simp
          rw [← hw1] at F2 S2 ⊢
          have hbl : w.heap.size < w1.heap.size := World.block_lt_of_cell? w1 _ q0
          clear hw1
          have SW := Lib.hid (S2.out.fr ((Fr.refl w1.heap.size none w1).alloc (Nat.le_refl _) (.cells #[] 52)))
          have q0' := Lib.hid q0; have q1' := Lib.hid q1; have q2' := Lib.hid q2; have q3' := Lib.hid q3
          clear q0 q1 q2 q3
          go_wp2_with (at_builtin; refine appAllO rfl _ _ rfl a ca xs (World.ownsRow_made (base := w1.heap.size) w1 #[] 0 (Nat.le_refl _) (by simp [maxLen]) (by simp)) rfl rfl HP.out SW.out (by omega) (by simp) ?_; intro v' w3 ho3 hF3; (
              have K3 := Lib.hid (((Fr.refl w1.heap.size none w1).alloc (Nat.le_refl _) (.cells #[] 52)).trans (hF3.up (B' := w1.heap.size) (by simp) (by intro g hg; cases hg; exact Nat.le_refl _)))
              clear hF3
              have G3 := Lib.hid (F2.out.and K3.out)
              have S3 := Lib.hid (S2.out.fr K3.out)
              have r0 := (K3.out.cell (p := ⟨w.heap.size, 0, none⟩) hbl (by simp)).trans q0'.out
              have r1 := (K3.out.cell (p := ⟨w.heap.size, 1, none⟩) hbl (by simp)).trans q1'.out
              have r2 := (K3.out.cell (p := ⟨w.heap.size, 2, none⟩) hbl (by simp)).trans q2'.out
              have r3 := (K3.out.cell (p := ⟨w.heap.size, 3, none⟩) hbl (by simp)).trans q3'.out
              have hb3 : w.heap.size < w3.heap.size := Nat.lt_of_lt_of_le hbl K3.out.size
              obtain ⟨a', c', rfl, hc', hcm⟩ := own_slice ho3
              rw [Nat.zero_add] at ho3 hc'
              rw [List.nil_append] at ho3
              have O3 := Lib.hid ho3; clear ho3))
          have O6 := Lib.hid (own_take (k := xs.length - 1) (Own.of O3.out) (by omega))
          go_ret2
          exact newTB_as hr.out (newTB_len hq.out hln.out O6.out F2.out.size G3.out)
        · have hq := Lib.hid (do_back_no2 (x := (x1, x2, x3)) h0)
          simp only [noTest, Prod.mk.injEq] at hx
          obtain ⟨rfl, rfl, rfl⟩ := hx
          have hzl : ((xs.length : Int) == 0) = true := by rw [beq_iff_eq]; omega
          clear h0
          go_enter Tryz.func42, Tryz.ntmps42
          go_wp2_with fail
          refine (specBoard_val S1.out hm hz H.out).mono ?_; rintro e w2 ⟨rfl, m, rfl⟩
          have F2 := Lib.hid (F1.out.drewN m)
          have S2 := Lib.hid (Sl.drewN S1.out m)
          obtain ⟨w1, hw1⟩ : ∃ w1, w1 = (w.alloc (.cells #[.bool true, .string ByteArray.empty, .string ByteArray.empty, .string ByteArray.empty] 54)).drewN m := ⟨_, rfl⟩
          have q0 : w1.cell? ⟨w.heap.size, 0, none⟩ = some (.bool true) := by rw [hw1]; go_simp
          have q1 : w1.cell? ⟨w.heap.size, 1, none⟩ = some (.string ByteArray.empty) := by rw [hw1]; go_simp
          have q2 : w1.cell? ⟨w.heap.size, 2, none⟩ = some (.string ByteArray.empty) := by rw [hw1]; go_simp
          have q3 : w1.cell? ⟨w.heap.size, 3, none⟩ = some (.string ByteArray.empty) := by rw [hw1]; go_simp
          rw [← hw1] at F2 S2 ⊢
          have hbl : w.heap.size < w1.heap.size := World.block_lt_of_cell? w1 _ q0
          clear hw1
          have SW := Lib.hid (S2.out.fr ((Fr.refl w1.heap.size none w1).alloc (Nat.le_refl _) (.cells #[] 52)))
          have q0' := Lib.hid q0; have q1' := Lib.hid q1; have q2' := Lib.hid q2; have q3' := Lib.hid q3
          clear q0 q1 q2 q3
          go_wp2_with (at_builtin; refine appAllO rfl _ _ rfl a ca xs (World.ownsRow_made (base := w1.heap.size) w1 #[] 0 (Nat.le_refl _) (by simp [maxLen]) (by simp)) rfl rfl HP.out SW.out (by omega) (by simp) ?_; intro v' w3 ho3 hF3; (
              have K3 := Lib.hid (((Fr.refl w1.heap.size none w1).alloc (Nat.le_refl _) (.cells #[] 52)).trans (hF3.up (B' := w1.heap.size) (by simp) (by intro g hg; cases hg; exact Nat.le_refl _)))
              clear hF3
              have G3 := Lib.hid (F2.out.and K3.out)
              have S3 := Lib.hid (S2.out.fr K3.out)
              have r0 := (K3.out.cell (p := ⟨w.heap.size, 0, none⟩) hbl (by simp)).trans q0'.out
              have r1 := (K3.out.cell (p := ⟨w.heap.size, 1, none⟩) hbl (by simp)).trans q1'.out
              have r2 := (K3.out.cell (p := ⟨w.heap.size, 2, none⟩) hbl (by simp)).trans q2'.out
              have r3 := (K3.out.cell (p := ⟨w.heap.size, 3, none⟩) hbl (by simp)).trans q3'.out
              have hb3 : w.heap.size < w3.heap.size := Nat.lt_of_lt_of_le hbl K3.out.size
              obtain ⟨a', c', rfl, hc', hcm⟩ := own_slice ho3
              rw [Nat.zero_add] at ho3 hc'
              rw [List.nil_append] at ho3
              have O3 := Lib.hid ho3; clear ho3))
          go_ret2
          exact newTB_as hr.out (newTB_of hq.out (Own.of O3.out) F2.out.size G3.out)
      · have hq := Lib.hid (do_back_no1 (xs := xs) hx)
        have HX := Lib.hid hx; clear hx
        go_enter Tryz.func42, Tryz.ntmps42
        go_wp2_with fail
        refine (specBoard_val S1.out hm hz H.out).mono ?_; rintro e w2 ⟨rfl, m, rfl⟩
        have F2 := Lib.hid (F1.out.drewN m)
        have S2 := Lib.hid (Sl.drewN S1.out m)
        obtain ⟨w1, hw1⟩ : ∃ w1, w1 = (w.alloc (.cells #[.bool true, .string x1, .string x2, .string x3] 54)).drewN m := ⟨_, rfl⟩
        have q0 : w1.cell? ⟨w.heap.size, 0, none⟩ = some (.bool true) := by rw [hw1]; go_simp
        have q1 : w1.cell? ⟨w.heap.size, 1, none⟩ = some (.string x1) := by rw [hw1]; go_simp
        have q2 : w1.cell? ⟨w.heap.size, 2, none⟩ = some (.string x2) := by rw [hw1]; go_simp
        have q3 : w1.cell? ⟨w.heap.size, 3, none⟩ = some (.string x3) := by rw [hw1]; go_simp
        rw [← hw1] at F2 S2 ⊢
        have hbl : w.heap.size < w1.heap.size := World.block_lt_of_cell? w1 _ q0
        clear hw1
        have SW := Lib.hid (S2.out.fr ((Fr.refl w1.heap.size none w1).alloc (Nat.le_refl _) (.cells #[] 52)))
        have q0' := Lib.hid q0; have q1' := Lib.hid q1; have q2' := Lib.hid q2; have q3' := Lib.hid q3
        clear q0 q1 q2 q3
        go_wp2_with (at_builtin; refine appAllO rfl _ _ rfl a ca xs (World.ownsRow_made (base := w1.heap.size) w1 #[] 0 (Nat.le_refl _) (by simp [maxLen]) (by simp)) rfl rfl HP.out SW.out (by omega) (by simp) ?_; intro v' w3 ho3 hF3; (
            have K3 := Lib.hid (((Fr.refl w1.heap.size none w1).alloc (Nat.le_refl _) (.cells #[] 52)).trans (hF3.up (B' := w1.heap.size) (by simp) (by intro g hg; cases hg; exact Nat.le_refl _)))
            clear hF3
            have G3 := Lib.hid (F2.out.and K3.out)
            have S3 := Lib.hid (S2.out.fr K3.out)
            have r0 := (K3.out.cell (p := ⟨w.heap.size, 0, none⟩) hbl (by simp)).trans q0'.out
            have r1 := (K3.out.cell (p := ⟨w.heap.size, 1, none⟩) hbl (by simp)).trans q1'.out
            have r2 := (K3.out.cell (p := ⟨w.heap.size, 2, none⟩) hbl (by simp)).trans q2'.out
            have r3 := (K3.out.cell (p := ⟨w.heap.size, 3, none⟩) hbl (by simp)).trans q3'.out
            have hb3 : w.heap.size < w3.heap.size := Nat.lt_of_lt_of_le hbl K3.out.size
            obtain ⟨a', c', rfl, hc', hcm⟩ := own_slice ho3
            rw [Nat.zero_add] at ho3 hc'
            rw [List.nil_append] at ho3
            have O3 := Lib.hid ho3; clear ho3))
        all_goals first
          | (exfalso; apply HX.out; simp only [noTest, Prod.mk.injEq]; refine ⟨?_, ?_, ?_⟩ <;> (rw [← toList_nil_iff_emptyBytes]; assumption))
          | (go_ret2; exact newTB_as hr.out (newTB_of hq.out (Own.of O3.out) F2.out.size G3.out))
end Go.Proofs.YtdngnmpmaacapaaGreatDoor
