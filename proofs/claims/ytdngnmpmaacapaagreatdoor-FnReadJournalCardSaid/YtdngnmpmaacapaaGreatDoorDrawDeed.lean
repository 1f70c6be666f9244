/-
  Contracts: the draws of deeds.
-/
import Derived.Test.YtdngnmpmaacapaaGreatDoorDrawNum
import Derived.Test.YtdngnmpmaacapaaGreatDoorApp
import Derived.Shelf.Strings.Builder1
namespace Go.Proofs.YtdngnmpmaacapaaGreatDoor
open Go.RowKit

theorem rdr_alloc {w : World} {B N : Nat} (h : Rdr w B N) (o : Obj) : Rdr (w.alloc o) B N := h.fr ((Fr.refl w.heap.size none w).alloc (Nat.le_refl _) _) h.lt (by simp)
theorem block_on {w w' : World} {B R : Nat} {o : Obj} (h : w.heap[R]? = some o) (hF : Fr w.heap.size (some B) w w') (hne : R ≠ B) : w'.heap[R]? = some o :=
  (hF.block R (Array.getElem?_eq_some_iff.1 h).1 (by simp; exact hne)).trans h
theorem block_onN {w w' : World} {R : Nat} {o : Obj} (h : w.heap[R]? = some o) (hF : Fr w.heap.size none w w') : w'.heap[R]? = some o :=
  (hF.block R (Array.getElem?_eq_some_iff.1 h).1 (by simp)).trans h
def zD : Array Value := #[.bool false, .string ⟨#[]⟩, .string ⟨#[]⟩, .string ⟨#[]⟩]
/-- The four cells of a new deed. -/
theorem four_cells {w : World} {R : Nat} {T : TypeId} {a b c d : Value} (h : w.heap[R]? = some (.cells #[a, b, c, d] T (0, 0))) :
    (w.cell? ⟨R, 0, none⟩ = some a ∧ w.cell? ⟨R, 1, none⟩ = some b ∧ w.cell? ⟨R, 2, none⟩ = some c ∧ w.cell? ⟨R, 3, none⟩ = some d) ∧ (w.frozen? ⟨R, 0, none⟩ = false ∧ w.frozen? ⟨R, 1, none⟩ = false ∧ w.frozen? ⟨R, 2, none⟩ = false ∧ w.frozen? ⟨R, 3, none⟩ = false) := by
  refine ⟨⟨?_, ?_, ?_, ?_⟩, Lib.frozen_of_heap h 0, Lib.frozen_of_heap h 1, Lib.frozen_of_heap h 2, Lib.frozen_of_heap h 3⟩ <;> (rw [block_cells h]; rfl)

set_option maxHeartbeats 4000000 in
set_option maxRecDepth 100000 in
theorem l20Deed_any (B N : Nat) (w : World) (h : Rdr w B N) (hN : N ≤ 800000) : Calls Tryz.prog 81 #[.pointer (some ⟨B, 0, none⟩)] w (RdDeed B (N + 400) w) := by
  have hBl := h.lt
  have R0 := Lib.hid (rdr_alloc h (.cells #[.bool false, .string ⟨#[]⟩, .string ⟨#[]⟩, .string ⟨#[]⟩] 54))
  have C0 := Lib.hid (heap_alloc_new w (.cells #[.bool false, .string ⟨#[]⟩, .string ⟨#[]⟩, .string ⟨#[]⟩] 54))
  have G0 := Lib.hid ((Fr.refl w.heap.size (some B) w).alloc (Nat.le_refl _) (.cells #[.bool false, .string ⟨#[]⟩, .string ⟨#[]⟩, .string ⟨#[]⟩] 54))
  have hne : w.heap.size ≠ B := by omega
  have hle : ∀ i : Nat, w.heap.size ≤ w.heap.size := fun _ => Nat.le_refl _
  clear h
  go_enter Tryz.func81, Tryz.ntmps81
  go_wp2_with fail
  refine (pick_any B N _ _ R0.out (by omega)).mono ?_; rintro e w1 ⟨q, rfl, _, hR1, hF1⟩
  have R1 := Lib.hid hR1; have G1 := Lib.hid (fr_rd G0.out hF1); have C1 := Lib.hid (block_on C0.out hF1 hne); clear hR1 hF1
  by_cases hq : q = 0
  · have hz : (q == 0) = true := by rw [beq_iff_eq]; exact hq
    clear hq
    have RA := Lib.hid (rdr_alloc R1.out (.cells #[.string ⟨#[]⟩, .string ⟨#[49]⟩] 9))
    have GA := Lib.hid (G1.out.alloc G1.out.size (.cells #[.string ⟨#[]⟩, .string ⟨#[49]⟩] 9))
    have CA := Lib.hid (block_onN C1.out ((Fr.refl w1.heap.size none w1).alloc (Nat.le_refl _) (.cells #[.string ⟨#[]⟩, .string ⟨#[49]⟩] 9)))
    have hB1 := R1.out.lt
    go_wp2_with fail
    refine (pick_any B _ _ _ RA.out (by omega)).mono ?_; rintro e w2 ⟨q2, rfl, ⟨a2, b2, _⟩, hR2, hF2⟩
    have c2 := b2 (by omega)
    have R2 := Lib.hid hR2; have G2 := Lib.hid (fr_rd GA.out hF2)
    obtain ⟨⟨d0, d1, d2, d3⟩, f0, f1, f2, f3⟩ := four_cells (block_on CA.out hF2 hne)
    obtain ⟨z, hzz⟩ : ∃ z : Nat, q2 / 19 = (z : Int) := ⟨(q2 / 19).toNat, by omega⟩
    have hz2 : z < 2 := by omega
    have cells2 : ∀ j : Nat, j < 2 → w2.cell? ⟨w1.heap.size, j, none⟩ = #[Value.string ⟨#[]⟩, .string ⟨#[49]⟩][j]? := by
      intro j hj
      refine block_cells (T := 9) ?_ j
      rw [hF2.block w1.heap.size (by simp) (by simp; omega)]
      exact heap_alloc_new w1 _
    obtain ⟨s, hcs, hs⟩ := two_strs (m := 10) cells2 hz2 (by decide) (by decide)
    have hz0 : (0 : Int) ≤ (z : Int) := by omega
    have hz1 : (z : Int) < 2 := by omega
    clear hR2 hF2 b2 cells2 c2
    go_wp2
    refine bodyPost_ret (v := .agg #[.bool true, .string s, .string ⟨#[]⟩, .string ⟨#[]⟩]) (by simp [results, Tryz.results81, go_sem, *]) rfl ?_
    refine ⟨(true, s, ⟨#[]⟩, ⟨#[]⟩), rfl, ⟨hs, Nat.zero_le _, Nat.zero_le _⟩, ?_, ?_⟩
    · exact ((((Rdr.mono R2.out (by omega)).fr (((((Fr.refl w2.heap.size (some w.heap.size) w2).setCell (p := ⟨w.heap.size, 0, none⟩) (.inr rfl) _).setCell (p := ⟨w.heap.size, 1, none⟩) (.inr rfl) _).setCell (p := ⟨w.heap.size, 2, none⟩) (.inr rfl) _).setCell (p := ⟨w.heap.size, 3, none⟩) (.inr rfl) _) R2.out.lt (by intro g hg; cases hg; exact hBl))))
    · exact (((G2.out.setCell (p := ⟨w.heap.size, 0, none⟩) (.inl (Nat.le_refl _)) _).setCell (p := ⟨w.heap.size, 1, none⟩) (.inl (Nat.le_refl _)) _).setCell (p := ⟨w.heap.size, 2, none⟩) (.inl (Nat.le_refl _)) _).setCell (p := ⟨w.heap.size, 3, none⟩) (.inl (Nat.le_refl _)) _
  · have hz : (q == 0) = false := by rw [beq_eq_false_iff_ne]; exact hq
    clear hq
    go_wp2_with fail
    refine (l20Greater_any B _ 4 _ R1.out (by omega) (by omega)).mono ?_; rintro e w2 ⟨s, t, rfl, hs, ht, hR2, hF2⟩
    have R2 := Lib.hid hR2; have G2 := Lib.hid (fr_rd G1.out hF2); have C2 := Lib.hid (block_on C1.out hF2 hne); clear hR2 hF2
    go_wp2_with fail
    refine (pick_any B _ _ _ R2.out (by omega)).mono ?_; rintro e w3 ⟨way, rfl, _, hR3, hF3⟩
    have R3 := Lib.hid hR3; have G3 := Lib.hid (fr_rd G2.out hF3); have C3 := Lib.hid (block_on C2.out hF3 hne); clear hR3 hF3
    go_wp2_with fail
    refine (takenBy_any s t way _ (by omega) (by omega)).mono ?_; rintro e w4 ⟨⟨x, bx, rfl, hx⟩, hF4⟩
    have R4 := Lib.hid (rdr_keep R3.out hF4); have G4 := Lib.hid (fr_any G3.out hF4); have C4 := Lib.hid (block_onN C3.out hF4); clear hF4
    go_wp2_with fail
    refine (odd_any B _ _ _ R4.out (by omega) (by omega)).mono ?_; rintro e w5 ⟨bo, rfl, _, hR5, hF5⟩
    have R5 := Lib.hid hR5; have G5 := Lib.hid (fr_rd G4.out hF5); have C5 := Lib.hid (block_on C4.out hF5 hne); clear hR5 hF5
    cases bo
    · obtain ⟨⟨d0, d1, d2, d3⟩, f0, f1, f2, f3⟩ := four_cells C5.out
      go_wp2
      refine bodyPost_ret (v := .agg #[.bool false, .string s, .string t, .string x]) (by simp [results, Tryz.results81, go_sem, *]) rfl ?_
      refine ⟨(false, s, t, x), rfl, ⟨hs, ht, by show x.size ≤ 10; omega⟩, ?_, ?_⟩
      · exact ((((Rdr.mono R5.out (by omega)).fr (((((Fr.refl w5.heap.size (some w.heap.size) w5).setCell (p := ⟨w.heap.size, 0, none⟩) (.inr rfl) _).setCell (p := ⟨w.heap.size, 1, none⟩) (.inr rfl) _).setCell (p := ⟨w.heap.size, 2, none⟩) (.inr rfl) _).setCell (p := ⟨w.heap.size, 3, none⟩) (.inr rfl) _) R5.out.lt (by intro g hg; cases hg; exact hBl))))
      · exact (((G5.out.setCell (p := ⟨w.heap.size, 0, none⟩) (.inl (Nat.le_refl _)) _).setCell (p := ⟨w.heap.size, 1, none⟩) (.inl (Nat.le_refl _)) _).setCell (p := ⟨w.heap.size, 2, none⟩) (.inl (Nat.le_refl _)) _).setCell (p := ⟨w.heap.size, 3, none⟩) (.inl (Nat.le_refl _)) _
    · have RA := Lib.hid (rdr_alloc R5.out (.cells #[.string ⟨#[]⟩, .string ⟨#[48, 48]⟩, .string ⟨#[120]⟩] 9))
      have GA := Lib.hid (G5.out.alloc G5.out.size (.cells #[.string ⟨#[]⟩, .string ⟨#[48, 48]⟩, .string ⟨#[120]⟩] 9))
      have CA := Lib.hid (block_onN C5.out ((Fr.refl w5.heap.size none w5).alloc (Nat.le_refl _) (.cells #[.string ⟨#[]⟩, .string ⟨#[48, 48]⟩, .string ⟨#[120]⟩] 9)))
      have hB5 := R5.out.lt
      go_wp2_with fail
      refine (pick_any B _ _ _ RA.out (by omega)).mono ?_; rintro e w6 ⟨q6, rfl, ⟨a6, b6, _⟩, hR6, hF6⟩
      have c6 := b6 (by omega)
      have R6 := Lib.hid hR6; have G6 := Lib.hid (fr_rd GA.out hF6)
      obtain ⟨⟨d0, d1, d2, d3⟩, f0, f1, f2, f3⟩ := four_cells (block_on CA.out hF6 hne)
      obtain ⟨z, rfl⟩ := Int.eq_ofNat_of_zero_le a6
      have hz2 : z < 3 := by omega
      have cells6 : ∀ j : Nat, j < 3 → w6.cell? ⟨w5.heap.size, j, none⟩ = #[Value.string ⟨#[]⟩, .string ⟨#[48, 48]⟩, .string ⟨#[120]⟩][j]? := by
        intro j hj
        refine block_cells (T := 9) ?_ j
        rw [hF6.block w5.heap.size (by simp) (by simp; omega)]
        exact heap_alloc_new w5 _
      obtain ⟨y, hcs, hy⟩ := three_strs (m := 10) cells6 hz2 (by decide) (by decide) (by decide)
      have hz0 : (0 : Int) ≤ (z : Int) := by omega
      have hz1 : (z : Int) < 3 := by omega
      clear hR6 hF6 b6 cells6 c6
      go_wp2
      refine bodyPost_ret (v := .agg #[.bool false, .string s, .string t, .string y]) (by simp [results, Tryz.results81, go_sem, *]) rfl ?_
      refine ⟨(false, s, t, y), rfl, ⟨hs, ht, hy⟩, ?_, ?_⟩
      · exact ((((Rdr.mono R6.out (by omega)).fr (((((Fr.refl w6.heap.size (some w.heap.size) w6).setCell (p := ⟨w.heap.size, 0, none⟩) (.inr rfl) _).setCell (p := ⟨w.heap.size, 1, none⟩) (.inr rfl) _).setCell (p := ⟨w.heap.size, 2, none⟩) (.inr rfl) _).setCell (p := ⟨w.heap.size, 3, none⟩) (.inr rfl) _) R6.out.lt (by intro g hg; cases hg; exact hBl))))
      · exact (((G6.out.setCell (p := ⟨w.heap.size, 0, none⟩) (.inl (Nat.le_refl _)) _).setCell (p := ⟨w.heap.size, 1, none⟩) (.inl (Nat.le_refl _)) _).setCell (p := ⟨w.heap.size, 2, none⟩) (.inl (Nat.le_refl _)) _).setCell (p := ⟨w.heap.size, 3, none⟩) (.inl (Nat.le_refl _)) _
end Go.Proofs.YtdngnmpmaacapaaGreatDoor
