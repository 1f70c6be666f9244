/-
  Contracts: the draws of the laws of texts of deeds.
-/
import Derived.Test.YtdngnmpmaacapaaGreatDoorDeedR
import Derived.Test.YtdngnmpmaacapaaGreatDoorDeedT
namespace Go.Proofs.YtdngnmpmaacapaaGreatDoor
open Go.RowKit

def DrawnDeed (w : World) (e : Ending) (w' : World) : Prop := ∃ d : Dd, e = .returned (.agg #[.bool d.1, .string d.2.1, .string d.2.2.1, .string d.2.2.2]) ∧ tiny d.2 ∧ Fr w.heap.size none w w'
theorem six_strs {w : World} {g m : Nat} {a b c d e f : ByteArray} {q : Nat} (h : ∀ j : Nat, j < 6 → w.cell? ⟨g, j, none⟩ = #[Value.string a, .string b, .string c, .string d, .string e, .string f][j]?) (hq : q < 6)
    (ha : a.size ≤ m) (hb : b.size ≤ m) (hc : c.size ≤ m) (hd : d.size ≤ m) (he : e.size ≤ m) (hf : f.size ≤ m) : ∃ x : ByteArray, w.cell? ⟨g, q, none⟩ = some (.string x) ∧ x.size ≤ m := by
  have := h q hq
  have h2 : q = 0 ∨ q = 1 ∨ q = 2 ∨ q = 3 ∨ q = 4 ∨ q = 5 := by omega
  rcases h2 with rfl | rfl | rfl | rfl | rfl | rfl
  · exact ⟨a, this, ha⟩
  · exact ⟨b, this, hb⟩
  · exact ⟨c, this, hc⟩
  · exact ⟨d, this, hd⟩
  · exact ⟨e, this, he⟩
  · exact ⟨f, this, hf⟩
def sixCells : Array Value := #[.string ⟨#[]⟩, .string ⟨#[48]⟩, .string ⟨#[32]⟩, .string ⟨#[10]⟩, .string ⟨#[45]⟩, .string ⟨#[98, 97, 99, 107]⟩]
theorem six_pick (q : Nat) (hq : q < 6) : ∃ x : ByteArray, sixCells[q]? = some (.string x) ∧ x.size ≤ 4 := by
  have h2 : q = 0 ∨ q = 1 ∨ q = 2 ∨ q = 3 ∨ q = 4 ∨ q = 5 := by omega
  rcases h2 with rfl | rfl | rfl | rfl | rfl | rfl
  · exact ⟨_, rfl, by decide⟩
  · exact ⟨_, rfl, by decide⟩
  · exact ⟨_, rfl, by decide⟩
  · exact ⟨_, rfl, by decide⟩
  · exact ⟨_, rfl, by decide⟩
  · exact ⟨_, rfl, by decide⟩
theorem extract_le (s : ByteArray) (a b : Nat) : (s.extract a b).size ≤ s.size := by
  rw [ByteArray.size_extract]; omega

set_option maxHeartbeats 4000000 in
set_option maxRecDepth 100000 in
theorem l20Spoil_any (B N : Nat) (s : ByteArray) (w : World) (h : Rdr w B N) (hN : N ≤ 800000) (hs : s.size ≤ 100) :
    Calls Tryz.prog 69 #[.pointer (some ⟨B, 0, none⟩), .string s] w fun e w' => (∃ t : ByteArray, e = .returned (.string t) ∧ t.size ≤ 300) ∧ Fr w.heap.size (some B) w w' := by
  have hBl := h.lt
  have R0 := Lib.hid h; clear h
  by_cases h0 : s.size = 0
  · have hz : ((s.size : Int) == 0) = true := by rw [h0]; rfl
    go_enter Tryz.func69, Tryz.ntmps69
    go_wp2
    go_ret
    exact ⟨⟨_, rfl, by decide⟩, Fr.refl _ _ _⟩
  · have hz : ((s.size : Int) == 0) = false := by rw [beq_eq_false_iff_ne]; omega
    have hp : 0 < s.size := by omega
    clear h0
    go_enter Tryz.func69, Tryz.ntmps69
    go_wp2_with fail
    refine (pick_any B N _ _ R0.out (by omega)).mono ?_; rintro e w1 ⟨k, rfl, ⟨k0, k1, _⟩, hR1, hF1⟩
    have k2 := k1 (by omega)
    obtain ⟨kn, rfl⟩ := Int.eq_ofNat_of_zero_le k0
    have k3 : kn < s.size := by omega
    have R1 := Lib.hid hR1; have F1 := Lib.hid hF1; clear hR1 hF1 k1
    have RA := Lib.hid (rdr_alloc R1.out (.cells #[.string ⟨#[]⟩, .string ⟨#[48]⟩, .string ⟨#[32]⟩, .string ⟨#[10]⟩, .string ⟨#[45]⟩, .string ⟨#[98, 97, 99, 107]⟩] 9))
    have e1 := extract_le s 0 kn
    have e2 := extract_le s (kn + 1) s.size
    have kf : (kn : Int) + 1 ≤ (s.size : Int) := by omega
    have kg : (0 : Int) ≤ (kn : Int) + 1 := by omega
    have kt : ((kn : Int) + 1).toNat = kn + 1 := by omega
    have kh : kn + 1 ≤ s.size := by omega
    have rs : ∀ W : World, (Instr.slice 9 (.string s) (some (.int .i64 ((kn : Int) + 1))) none none).run Tryz.prog W = .ok (.string (s.extract (kn + 1) s.size)) W := by intro W; go_simp
    have kw : IntKind.i64.wrap ((kn : Int) + 1) = (kn : Int) + 1 := by simp [IntKind.wrap, IntKind.bits, IntKind.signed]; omega
    have kl : kn ≤ s.size := by omega
    go_wp2
    go_region_with (go_at_call 65; go_loud (refine (pick_any B (N + 1) 6 _ (by first | exact R1.out | exact rdr_alloc R1.out _) (by omega)).mono ?_; rintro e w4 ⟨q, rfl, ⟨a4, b4, _⟩, hR4, hF4⟩; (
      have c4 := b4 (by omega)
      obtain ⟨qn, rfl⟩ := Int.eq_ofNat_of_zero_le a4
      obtain ⟨x, hx, hxs⟩ := six_pick qn (by omega)
      have A2 : ∀ W : World, (W.alloc (.cells #[.string ⟨#[]⟩, .string ⟨#[48]⟩, .string ⟨#[32]⟩, .string ⟨#[10]⟩, .string ⟨#[45]⟩, .string ⟨#[98, 97, 99, 107]⟩] 9)).cell? ⟨W.heap.size, qn, none⟩ = some (.string x) := fun W => (block_cells (heap_alloc_new W (.cells sixCells 9)) qn).trans hx
      have A3 : ∀ W : World, Fr (W.alloc (.cells #[.string ⟨#[]⟩, .string ⟨#[48]⟩, .string ⟨#[32]⟩, .string ⟨#[10]⟩, .string ⟨#[45]⟩, .string ⟨#[98, 97, 99, 107]⟩] 9)).drew.heap.size (some B) (W.alloc (.cells #[.string ⟨#[]⟩, .string ⟨#[48]⟩, .string ⟨#[32]⟩, .string ⟨#[10]⟩, .string ⟨#[45]⟩, .string ⟨#[98, 97, 99, 107]⟩] 9)).drew w4 → B < W.heap.size → w4.cell? ⟨W.heap.size, qn, none⟩ = some (.string x) := fun W hW hB => (hW.cell (p := ⟨W.heap.size, qn, none⟩) (by simp) (by simp; omega)).trans (A2 W)
      try have A1 : w4.cell? ⟨w1.heap.size, qn, none⟩ = some (.string x) := A3 w1 hF4 R1.out.lt
      have ad1 := fun W => run_string_add_sum (P := Tryz.prog) W (s.extract 0 kn) x (by omega)
      have sz1 : (s.extract 0 kn ++ x).size ≤ 104 := by rw [ByteArray.size_append]; omega
      have ad2 := fun W => run_string_add_sum (P := Tryz.prog) W (s.extract 0 kn ++ x) (s.extract (kn + 1) s.size) (by omega)
      have sz2 : (s.extract 0 kn ++ x ++ s.extract (kn + 1) s.size).size ≤ 300 := by rw [ByteArray.size_append]; omega
      have FF := Lib.hid (show Fr w.heap.size (some B) w w4 by first | exact fr_rd F1.out.drew hF4 | exact fr_rd (fr_any F1.out ((Fr.refl w1.heap.size none w1).alloc (Nat.le_refl _) _)) hF4 | exact fr_rd ((fr_any F1.out ((Fr.refl w1.heap.size none w1).alloc (Nat.le_refl _) _)).drew) hF4)
      clear A3 hR4 hF4 b4)))
    all_goals go_wp2
    all_goals go_ret
    all_goals first
      | exact ⟨⟨_, rfl, sz2⟩, FF.out⟩
      | exact ⟨⟨_, rfl, sz2⟩, FF.out.alloc FF.out.size _⟩

end Go.Proofs.YtdngnmpmaacapaaGreatDoor
