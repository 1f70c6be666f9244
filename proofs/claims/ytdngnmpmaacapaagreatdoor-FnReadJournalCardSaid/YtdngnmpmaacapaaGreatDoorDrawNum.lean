/-
  Contracts: the draws of numerals and deeds: they return short texts.
-/
import Derived.Test.YtdngnmpmaacapaaGreatDoorDraw
import Derived.Test.YtdngnmpmaacapaaGreatDoorTaken
import Derived.Test.YtdngnmpmaacapaaGreatDoorBoardP
namespace Go.Proofs.YtdngnmpmaacapaaGreatDoor
open Go.RowKit

/-- A text is drawn with the reader B. -/
def RdStr (B N m : Nat) (w : World) (e : Ending) (w' : World) : Prop := ∃ s : ByteArray, e = .returned (.string s) ∧ s.size ≤ m ∧ Rdr w' B N ∧ Fr w.heap.size (some B) w w'
theorem rdr_keep {w w' : World} {B N : Nat} (h : Rdr w B N) (hF : Fr w.heap.size none w w') : Rdr w' B N := h.fr hF h.lt (by simp)
theorem fr_any {B : Nat} {a b c : World} (h : Fr a.heap.size (some B) a b) (k : Fr b.heap.size none b c) : Fr a.heap.size (some B) a c := h.trans ((k.mono h.size).weak _)
theorem fr_rd {B : Nat} {a b c : World} (h : Fr a.heap.size (some B) a b) (k : Fr b.heap.size (some B) b c) : Fr a.heap.size (some B) a c := h.trans (k.mono h.size)
theorem five_ints {w : World} {g : Nat} {a b c d e : Int} {q : Nat} (h : ∀ j : Nat, j < 5 → w.cell? ⟨g, j, none⟩ = #[Value.int .i64 a, .int .i64 b, .int .i64 c, .int .i64 d, .int .i64 e][j]?) (hq : q < 5)
    (ha : 0 ≤ a ∧ a ≤ 9) (hb : 0 ≤ b ∧ b ≤ 9) (hc : 0 ≤ c ∧ c ≤ 9) (hd : 0 ≤ d ∧ d ≤ 9) (he : 0 ≤ e ∧ e ≤ 9) : ∃ x : Int, w.cell? ⟨g, q, none⟩ = some (.int .i64 x) ∧ 0 ≤ x ∧ x ≤ 9 := by
  have := h q hq
  have h2 : q = 0 ∨ q = 1 ∨ q = 2 ∨ q = 3 ∨ q = 4 := by omega
  rcases h2 with rfl | rfl | rfl | rfl | rfl
  · exact ⟨a, this, ha.1, ha.2⟩
  · exact ⟨b, this, hb.1, hb.2⟩
  · exact ⟨c, this, hc.1, hc.2⟩
  · exact ⟨d, this, hd.1, hd.2⟩
  · exact ⟨e, this, he.1, he.2⟩
theorem five_strs {w : World} {g m : Nat} {a b c d e : ByteArray} {q : Nat} (h : ∀ j : Nat, j < 5 → w.cell? ⟨g, j, none⟩ = #[Value.string a, .string b, .string c, .string d, .string e][j]?) (hq : q < 5)
    (ha : a.size ≤ m) (hb : b.size ≤ m) (hc : c.size ≤ m) (hd : d.size ≤ m) (he : e.size ≤ m) : ∃ x : ByteArray, w.cell? ⟨g, q, none⟩ = some (.string x) ∧ x.size ≤ m := by
  have := h q hq
  have h2 : q = 0 ∨ q = 1 ∨ q = 2 ∨ q = 3 ∨ q = 4 := by omega
  rcases h2 with rfl | rfl | rfl | rfl | rfl
  · exact ⟨a, this, ha⟩
  · exact ⟨b, this, hb⟩
  · exact ⟨c, this, hc⟩
  · exact ⟨d, this, hd⟩
  · exact ⟨e, this, he⟩
theorem block_cells {w : World} {g : Nat} {cs : Array Value} {T : TypeId} (h : w.heap[g]? = some (.cells cs T (0, 0))) (j : Nat) : w.cell? ⟨g, j, none⟩ = cs[j]? := by
  simp [World.cell?, h]

set_option maxHeartbeats 4000000 in
theorem l20Numeral_any (B N : Nat) (most n : Int) (w : World) (h : Rdr w B N) (hN : N ≤ 1000000) (hm : 1 ≤ most ∧ most ≤ 9) (hn : n ≤ 1000000) :
    Calls Tryz.prog 79 #[.pointer (some ⟨B, 0, none⟩), .int .i64 most, .int .i64 n] w (RdStr B (N + 100) 10 w) := by
  have hBl := h.lt
  obtain ⟨m0, m1⟩ := hm
  have HR0 := Lib.hid h; clear h
  go_enter Tryz.func79, Tryz.ntmps79
  go_wp2_with fail
  refine (pick_any B N _ _ HR0.out (by omega)).mono ?_; rintro e w1 ⟨p, rfl, ⟨p0, p1, _⟩, hR1, hF1⟩
  have R1 := Lib.hid hR1; have F1 := Lib.hid hF1; have p2 := p1 (by omega)
  clear hR1 hF1 p1
  go_wp2
  go_loopw [7, 8] (fun o i wr => ∃ (k : Nat) (x : ByteArray), i = .int .i64 (k : Int) ∧ k ≤ 9 ∧ o = .string x ∧ x.size + k ≤ 9 ∧ Hid (Rdr wr B (N + 1 + 7 * (9 - k))) ∧ Fr w.heap.size (some B) w wr) (fun _ i _ => (intOf i).toNat)
  case atStart => exact ⟨(1 + p).toNat, _, by go_num, by omega, rfl, (by show 0 + (1 + p).toNat ≤ 9; omega), Lib.hid (R1.out.mono (by omega)), F1.out⟩
  case round =>
    obtain ⟨k, x, rfl, hk, rfl, hx, hR, hF⟩ := hrel
    have HF := Lib.hid hF; clear hF
    by_cases hk0 : 0 < k
    · have hk0' : (0 : Int) < (k : Int) := by omega
      go_wp2_with fail
      refine (pick_any B _ _ _ hR.out (by omega)).mono ?_; rintro e w2 ⟨q1, rfl, ⟨a1, b1, _⟩, hR2, hF2⟩
      have R2 := Lib.hid hR2; have F2 := Lib.hid (fr_rd HF.out hF2); have c1 := b1 (by omega); clear hR2 hF2 b1
      go_wp2_with fail
      refine (pick_any B _ _ _ R2.out (by omega)).mono ?_; rintro e w3 ⟨q2, rfl, ⟨a2, b2, _⟩, hR3, hF3⟩
      have R3 := Lib.hid hR3; have F3 := Lib.hid (fr_rd F2.out hF3); have c2 := b2 (by omega); clear hR3 hF3 b2
      go_wp2_with fail
      refine (pick_any B _ _ _ R3.out (by omega)).mono ?_; rintro e w4 ⟨q3, rfl, ⟨a3, b3, _⟩, hR4, hF4⟩
      have R4 := Lib.hid hR4; have F4 := Lib.hid (fr_rd F3.out hF4); have c3 := b3 (by omega); clear hR4 hF4 b3
      have hB4 := R4.out.lt
      go_wp2_with fail
      refine (pick_any B _ _ _ (R4.out.fr ((Fr.refl w4.heap.size none w4).alloc (Nat.le_refl _) _) hB4 (by simp)) (by omega)).mono ?_; rintro e w5 ⟨q4, rfl, ⟨a4, b4, _⟩, hR5, hF5⟩
      have R5 := Lib.hid hR5
      have c4 := b4 (by omega)
      have F5 := Lib.hid (fr_rd (fr_any F4.out ((Fr.refl w4.heap.size none w4).alloc (Nat.le_refl _) _)) hF5)
      obtain ⟨q4n, rfl⟩ := Int.eq_ofNat_of_zero_le a4
      have hq5 : q4n < 5 := by omega
      have cells5 : ∀ j : Nat, j < 5 → w5.cell? ⟨w4.heap.size, j, none⟩ = #[Value.int .i64 0, .int .i64 9, .int .i64 q1, .int .i64 q2, .int .i64 q3][j]? := by
        intro j hj
        refine block_cells (T := 3) ?_ j
        rw [hF5.block w4.heap.size (by simp) (by simp; omega)]
        exact heap_alloc_new w4 _
      obtain ⟨d, hcd, d0, d1⟩ := five_ints cells5 hq5 (by omega) (by omega) (by omega) (by omega) (by omega)
      have hq40 : (0 : Int) ≤ (q4n : Int) := by omega
      have hq45 : (q4n : Int) < 5 := by omega
      clear hR5 hF5 b4 cells5 c4
      go_wp2_with (first
        | (go_at_call 65; refine (pick_any B _ _ _ R5.out (by omega)).mono ?_; rintro e w6 ⟨q6, rfl, ⟨a6, b6, _⟩, hR6, hF6⟩; (
            have R6 := Lib.hid hR6; have F6 := Lib.hid (fr_rd F5.out hF6); have c6 := b6 (by omega); clear hR6 hF6 b6))
        | (go_at_call 43; refine (l1One_any _ _ (by omega) (by omega)).mono ?_; rintro e w7 ⟨⟨y, rfl, hy⟩, hF7⟩; (
            have R7 := Lib.hid (show Rdr w7 B (N + 1 + 7 * (9 - k) + 5) by first | exact (rdr_keep R6.out hF7).mono (by omega) | exact (rdr_keep R5.out hF7).mono (by omega))
            have F7 := Lib.hid (show Fr w.heap.size (some B) w w7 by first | exact fr_any F6.out hF7 | exact fr_any F5.out hF7)
            clear hF7
            have ad := fun W => run_string_add_sum (P := Tryz.prog) W x y (by omega)
            have hsz := Lib.hid (show (x ++ y).size = x.size + 1 by rw [ByteArray.size_append, hy]))))
      all_goals go_roundw
      all_goals first
        | (refine ⟨k - 1, _, by go_num, by omega, rfl, ?_, Lib.hid (R7.out.mono (by omega)), F7.out⟩; first | (rw [hsz.out]; omega) | omega)
        | (simp [intOf]; omega)
    · have hk1 : k = 0 := by omega
      subst hk1
      go_wp2_with fail
      refine (odd_any B _ _ _ hR.out (by omega) (by omega)).mono ?_; rintro e w2 ⟨bo, rfl, _, hR2, hF2⟩
      have R2 := Lib.hid hR2; have F2 := Lib.hid (fr_rd HF.out hF2); clear hR2 hF2
      cases bo
      · go_wp2
        go_ret
        exact ⟨x, rfl, by omega, R2.out.mono (by omega), F2.out⟩
      · have t1 : (⟨#[48]⟩ : ByteArray).size = 1 := rfl
        have t2 : (⟨#[120]⟩ : ByteArray).size = 1 := rfl
        have ad1 := fun W => run_string_add_sum (P := Tryz.prog) W ⟨#[48]⟩ x (by omega)
        have ad2 := fun W => run_string_add_sum (P := Tryz.prog) W x ⟨#[120]⟩ (by omega)
        have s1 : ((⟨#[48]⟩ : ByteArray) ++ x).size ≤ 10 := by rw [ByteArray.size_append]; omega
        have s2 : (x ++ (⟨#[120]⟩ : ByteArray)).size ≤ 10 := by rw [ByteArray.size_append]; omega
        obtain ⟨u1, hu1⟩ : ∃ u, u = (⟨#[48]⟩ : ByteArray) ++ x := ⟨_, rfl⟩
        obtain ⟨u2, hu2⟩ : ∃ u, u = x ++ (⟨#[120]⟩ : ByteArray) := ⟨_, rfl⟩
        rw [← hu1] at ad1 s1; rw [← hu2] at ad2 s2
        clear t1 t2 hu1 hu2
        have hB2 := R2.out.lt
        go_wp2_with fail
        refine (pick_any B _ _ _ (R2.out.fr ((Fr.refl w2.heap.size none w2).alloc (Nat.le_refl _) _) hB2 (by simp)) (by omega)).mono ?_; rintro e w5 ⟨q4, rfl, ⟨a4, b4, _⟩, hR5, hF5⟩
        have R5 := Lib.hid hR5
        have c4 := b4 (by omega)
        have F5 := Lib.hid (fr_rd (fr_any F2.out ((Fr.refl w2.heap.size none w2).alloc (Nat.le_refl _) _)) hF5)
        obtain ⟨q4n, rfl⟩ := Int.eq_ofNat_of_zero_le a4
        have hq5 : q4n < 5 := by omega
        have cells5 : ∀ j : Nat, j < 5 → w5.cell? ⟨w2.heap.size, j, none⟩ = #[Value.string ⟨#[]⟩, .string u1, .string ⟨#[97]⟩, .string u2, .string ⟨#[49, 50, 51, 52, 53, 54, 55, 56, 57, 48]⟩][j]? := by
          intro j hj
          refine block_cells (T := 9) ?_ j
          rw [hF5.block w2.heap.size (by simp) (by simp; omega)]
          exact heap_alloc_new w2 _
        obtain ⟨d, hcd, d1⟩ := five_strs (m := 10) cells5 hq5 (by decide) s1 (by decide) s2 (by decide)
        have hq40 : (0 : Int) ≤ (q4n : Int) := by omega
        have hq45 : (q4n : Int) < 5 := by omega
        clear hR5 hF5 b4 cells5 c4
        go_wp2
        go_ret
        exact ⟨d, rfl, d1, R5.out.mono (by omega), F5.out⟩

/-- Two texts are drawn. -/
def RdStr2 (B N m : Nat) (w : World) (e : Ending) (w' : World) : Prop := ∃ s t : ByteArray, e = .returned (.tuple #[.string s, .string t]) ∧ s.size ≤ m ∧ t.size ≤ m ∧ Rdr w' B N ∧ Fr w.heap.size (some B) w w'
theorem l20Both_any (B N : Nat) (most : Int) (w : World) (h : Rdr w B N) (hN : N ≤ 900000) (hm : 1 ≤ most ∧ most ≤ 9) :
    Calls Tryz.prog 78 #[.pointer (some ⟨B, 0, none⟩), .int .i64 most] w (RdStr2 B (N + 250) 10 w) := by
  have HR0 := Lib.hid h; clear h
  go_enter Tryz.func78, Tryz.ntmps78
  go_wp2_with fail
  refine (l20Numeral_any B N most 16 _ HR0.out (by omega) hm (by omega)).mono ?_; rintro e w1 ⟨s, rfl, hs, hR1, hF1⟩
  have R1 := Lib.hid hR1; have F1 := Lib.hid hF1; clear hR1 hF1
  go_wp2_with fail
  refine (l20Numeral_any B _ most 16 _ R1.out (by omega) hm (by omega)).mono ?_; rintro e w2 ⟨t, rfl, ht, hR2, hF2⟩
  have R2 := Lib.hid hR2; have F2 := Lib.hid (fr_rd F1.out hF2); clear hR2 hF2
  go_wp2_with fail
  refine (pick_any B _ _ _ R2.out (by omega)).mono ?_; rintro e w3 ⟨q, rfl, _, hR3, hF3⟩
  have R3 := Lib.hid hR3; have F3 := Lib.hid (fr_rd F2.out hF3); clear hR3 hF3
  by_cases hq : q = 0
  · have hz : (q == 0) = true := by rw [beq_iff_eq]; exact hq
    clear hq
    go_wp2
    go_ret2
    exact ⟨s, s, rfl, hs, hs, R3.out.mono (by omega), F3.out⟩
  · have hz : (q == 0) = false := by rw [beq_eq_false_iff_ne]; exact hq
    clear hq
    go_wp2
    go_ret2
    exact ⟨s, t, rfl, hs, ht, R3.out.mono (by omega), F3.out⟩
theorem l20Greater_any (B N : Nat) (most : Int) (w : World) (h : Rdr w B N) (hN : N ≤ 900000) (hm : 1 ≤ most ∧ most ≤ 9) :
    Calls Tryz.prog 105 #[.pointer (some ⟨B, 0, none⟩), .int .i64 most] w (RdStr2 B (N + 300) 10 w) := by
  have HR0 := Lib.hid h; clear h
  go_enter Tryz.func105, Tryz.ntmps105
  go_wp2_with fail
  refine (l20Both_any B N most _ HR0.out hN hm).mono ?_; rintro e w1 ⟨s, t, rfl, hs, ht, hR1, hF1⟩
  have R1 := Lib.hid hR1; have F1 := Lib.hid hF1; clear hR1 hF1
  have CO := Lib.hid (fun W => specOrder_any s t W (by omega) (by omega))
  generalize ordI s t = o at *
  go_wp2_with fail
  refine (CO.out _).mono ?_; rintro e w2 ⟨rfl, m, rfl⟩
  by_cases ho : o = -1
  · have hz : (o == -1) = true := by rw [beq_iff_eq]; exact ho
    clear ho
    go_wp2_with fail
    refine (pick_any B _ _ _ (R1.out.drewN m) (by omega)).mono ?_; rintro e w3 ⟨q, rfl, _, hR3, hF3⟩
    have R3 := Lib.hid hR3; have F3 := Lib.hid (fr_rd (F1.out.drewN m) hF3); clear hR3 hF3
    by_cases hq : 0 < q
    · go_wp2
      go_ret2
      exact ⟨t, s, rfl, ht, hs, R3.out.mono (by omega), F3.out⟩
    · have hq' : q ≤ 0 := by omega
      go_wp2
      go_ret2
      exact ⟨s, t, rfl, hs, ht, R3.out.mono (by omega), F3.out⟩
  · have hz : (o == -1) = false := by rw [beq_eq_false_iff_ne]; exact ho
    clear ho
    go_wp2
    go_ret2
    exact ⟨s, t, rfl, hs, ht, (R1.out.drewN m).mono (by omega), F1.out.drewN m⟩

def tiny (x : Tst) : Prop := x.1.size ≤ 10 ∧ x.2.1.size ≤ 10 ∧ x.2.2.size ≤ 10
theorem tiny_small {x : Tst} (h : tiny x) : small x := ⟨by have := h.1; omega, by have := h.2.1; omega, by have := h.2.2; omega⟩
/-- A deed is drawn. -/
def RdDeed (B N : Nat) (w : World) (e : Ending) (w' : World) : Prop := ∃ d : Dd, e = .returned (.agg #[.bool d.1, .string d.2.1, .string d.2.2.1, .string d.2.2.2]) ∧ tiny d.2 ∧ Rdr w' B N ∧ Fr w.heap.size (some B) w w'
theorem two_strs {w : World} {g m : Nat} {a b : ByteArray} {q : Nat} (h : ∀ j : Nat, j < 2 → w.cell? ⟨g, j, none⟩ = #[Value.string a, .string b][j]?) (hq : q < 2)
    (ha : a.size ≤ m) (hb : b.size ≤ m) : ∃ x : ByteArray, w.cell? ⟨g, q, none⟩ = some (.string x) ∧ x.size ≤ m := by
  have := h q hq
  have h2 : q = 0 ∨ q = 1 := by omega
  rcases h2 with rfl | rfl
  · exact ⟨a, this, ha⟩
  · exact ⟨b, this, hb⟩
theorem three_strs {w : World} {g m : Nat} {a b c : ByteArray} {q : Nat} (h : ∀ j : Nat, j < 3 → w.cell? ⟨g, j, none⟩ = #[Value.string a, .string b, .string c][j]?) (hq : q < 3)
    (ha : a.size ≤ m) (hb : b.size ≤ m) (hc : c.size ≤ m) : ∃ x : ByteArray, w.cell? ⟨g, q, none⟩ = some (.string x) ∧ x.size ≤ m := by
  have := h q hq
  have h2 : q = 0 ∨ q = 1 ∨ q = 2 := by omega
  rcases h2 with rfl | rfl | rfl
  · exact ⟨a, this, ha⟩
  · exact ⟨b, this, hb⟩
  · exact ⟨c, this, hc⟩
end Go.Proofs.YtdngnmpmaacapaaGreatDoor
