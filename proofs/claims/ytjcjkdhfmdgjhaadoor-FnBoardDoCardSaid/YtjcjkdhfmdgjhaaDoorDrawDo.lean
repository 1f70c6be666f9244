/-
  Contracts: the draw of a board and a deed, and sameTests of slices of different lengths.
-/
import Derived.Test.YtjcjkdhfmdgjhaaDoorDrawBoardB
import Derived.Test.YtjcjkdhfmdgjhaaDoorSame
namespace Go.Proofs.YtjcjkdhfmdgjhaaDoor
open Go.RowKit

theorem tiny_past {m : Nat} {w w' : World} {b B : Nat} {v : Value} (h : NewTiny m w b v) (hF : Fr w.heap.size (some B) w w') (hB : B < b) : NewTiny m w' b v := by
  obtain ⟨a, c, ys, e, ho, hl, ht⟩ := h
  exact ⟨a, c, ys, e, row_past ho hF hB, hl, ht⟩
theorem tiny_set {m : Nat} {w : World} {b B : Nat} {v : Value} (h : NewTiny m w b v) (hB : B < b) (p : Nat) (u : Value) : NewTiny m (w.setCell ⟨B, p, none⟩ u) b v :=
  tiny_past h ((Fr.refl w.heap.size (some B) w).setCell (p := ⟨B, p, none⟩) (.inr rfl) u) hB
/-- A board and a deed are drawn. -/
def DrawnDo (w : World) (e : Ending) (w' : World) : Prop := ∃ v, ∃ d : Dd, e = .returned (.tuple #[v, .agg #[.bool d.1, .string d.2.1, .string d.2.2.1, .string d.2.2.2]]) ∧ NewTiny 4 w' w.heap.size v ∧ tiny d.2 ∧ Fr w.heap.size none w w'
set_option maxHeartbeats 1000000 in
set_option maxRecDepth 100000 in
theorem drawBoardDo_any (a : Option Addr) (cap : Nat) (bs : List Int) (w : World) (hs : Sl w a (u8s bs)) (hb : ∀ x ∈ bs, 0 ≤ x ∧ x ≤ 255) (hn : bs.length ≤ 1048576) (hcap : bs.length ≤ cap) :
    Calls Tryd.prog 4 #[.slice a bs.length cap] w (DrawnDo w) := by
  have S1 := Lib.hid (hs.fr ((Fr.refl w.heap.size none w).alloc (Nat.le_refl _) (.cells #[.bool false, .string ⟨#[]⟩, .string ⟨#[]⟩, .string ⟨#[]⟩] 27)))
  have G0 := Lib.hid ((Fr.refl w.heap.size none w).alloc (Nat.le_refl _) (.cells #[.bool false, .string ⟨#[]⟩, .string ⟨#[]⟩, .string ⟨#[]⟩] 27))
  have C0 := Lib.hid (heap_alloc_new w (.cells #[.bool false, .string ⟨#[]⟩, .string ⟨#[]⟩, .string ⟨#[]⟩] 27))
  have HB := Lib.hid hb; clear hs hb
  go_enter Tryd.func4, Tryd.ntmps4
  go_wp2_with fail
  refine (l20Open_any a cap bs _ S1.out HB.out hn hcap).mono ?_; rintro e w1 ⟨B, rfl, hB, hR, hF⟩
  have hB' : w.heap.size < B := Nat.lt_of_lt_of_le (by simp) hB
  have G1 := Lib.hid (G0.out.and hF)
  have C1 := Lib.hid (block_onN C0.out hF)
  have R1 := Lib.hid hR
  have hBl := hR.lt
  have z1 := G1.out.size
  clear hF hR
  go_wp2_with fail
  refine (l20Board_any B 0 12 _ R1.out (by omega) (by omega)).mono ?_; rintro e w2 ⟨v, rfl, hN, hR2, hF2⟩
  have G2 := Lib.hid (G1.out.trans (hF2.up (B' := w.heap.size) z1 (by intro g hg; cases hg; omega)))
  have N2 := Lib.hid hN
  have R2 := Lib.hid hR2
  have C2 := Lib.hid (block_on C1.out hF2 (by omega))
  have z2 := G2.out.size
  clear hF2 hR2 hN
  go_wp2_with fail
  refine (l20Deed_any B _ _ R2.out (by omega)).mono ?_; rintro e w3 ⟨⟨x0, x1, x2, x3⟩, rfl, ht, hR3, hF3⟩
  have G3 := Lib.hid (G2.out.trans (hF3.up (B' := w.heap.size) z2 (by intro g hg; cases hg; omega)))
  have N3 := Lib.hid (tiny_past N2.out hF3 hBl)
  have HT := Lib.hid ht
  obtain ⟨⟨d0, d1, d2, d3⟩, f0, f1, f2, f3⟩ := four_cells (block_on C2.out hF3 (by omega))
  have hwl : w.heap.size < w1.heap.size := by omega
  clear hF3 hR3 ht
  dsimp only
  go_wp2
  refine bodyPost_ret (v := .tuple #[v, .agg #[.bool x0, .string x1, .string x2, .string x3]]) (by simp [results, Tryd.results4, go_sem, *]) rfl ?_
  exact ⟨v, (x0, x1, x2, x3), rfl, newTiny_base (tiny_set (tiny_set (tiny_set (tiny_set N3.out hwl 0 _) hwl 1 _) hwl 2 _) hwl 3 _) (Nat.le_of_lt hwl), HT.out, (((G3.out.setCell (p := ⟨w.heap.size, 0, none⟩) (.inl (Nat.le_refl _)) _).setCell (p := ⟨w.heap.size, 1, none⟩) (.inl (Nat.le_refl _)) _).setCell (p := ⟨w.heap.size, 2, none⟩) (.inl (Nat.le_refl _)) _).setCell (p := ⟨w.heap.size, 3, none⟩) (.inl (Nat.le_refl _)) _⟩

theorem sameTests_no (a b : Option Addr) (n m ca cb : Nat) (w : World) (h : n ≠ m) : Calls Tryd.prog 7 #[.slice a n ca, .slice b m cb] w fun e w' => e = .returned (.bool false) ∧ w = w' := by
  have hz : ((n : Int) != (m : Int)) = true := by rw [bne_iff_ne]; omega
  have hz2 : ((n : Int) == (m : Int)) = false := by rw [beq_eq_false_iff_ne]; omega
  clear h
  go_enter Tryd.func7, Tryd.ntmps7
  go_wp2
  go_ret
  exact ⟨rfl, rfl⟩
end Go.Proofs.YtjcjkdhfmdgjhaaDoor
