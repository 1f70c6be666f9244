/-
  Whatever the text, the law FnExactReadDeed of the given program returns true, if the library's MaxLen holds a number.
-/
import Derived.Test.YtcfbdjdbmjdjnaaDoorDeedB
import Derived.Test.YtcfbdjdbmjdjnaaDoorReadB
namespace Go.Proofs.YtcfbdjdbmjdjnaaDoor.fnExactReadDeed
open Go.RowKit
set_option maxHeartbeats 2000000 in
theorem walk {w : World} (m : Int) (hm : w.cell? ⟨0, 0, none⟩ = some (.int .i64 m)) (s : ByteArray) (_ : s.size ≤ maxLen) :
    Calls Tryd.prog 3 #[.string s] w fun e w' => e = .returned (.bool true) ∧ Fr w.heap.size none w w' := by
  have hb := World.block_lt_of_cell? w _ hm
  obtain ⟨x, hx⟩ : ∃ x, readD s = x := ⟨_, rfl⟩
  obtain ⟨d, b⟩ := x
  go_enter Tryd.func3, Tryd.ntmps3
  by_cases h : s.size ≤ 1048576
  · go_wp2_with fail
    refine (specReadDeed_any s _ h).mono ?_; unfold ReadPost; rw [hx]; rintro e w1 ⟨rfl, F1⟩
    have hm1 := (F1.cell (p := ⟨0, 0, none⟩) hb (by simp)).trans hm
    dsimp only [deedV]
    go_wp2_with fail
    refine (implReadDeed_any s m _ h ((((Fr.refl w1.heap.size none w1).alloc (Nat.le_refl _) _).cell (p := ⟨0, 0, none⟩) (Nat.lt_of_lt_of_le hb F1.size) (by simp)).trans hm1)).mono ?_; unfold ReadPost; rw [hx]; rintro e w2 ⟨rfl, F2⟩
    dsimp only [deedV]
    have d0 : w2.cell? ⟨w1.heap.size, 0, none⟩ = some (.bool d.1) := (F2.cell (by simp) (by simp)).trans (by go_simp)
    have d1 : w2.cell? ⟨w1.heap.size, 1, none⟩ = some (.string d.2.1) := (F2.cell (by simp) (by simp)).trans (by go_simp)
    have d2 : w2.cell? ⟨w1.heap.size, 2, none⟩ = some (.string d.2.2.1) := (F2.cell (by simp) (by simp)).trans (by go_simp)
    have d3 : w2.cell? ⟨w1.heap.size, 3, none⟩ = some (.string d.2.2.2) := (F2.cell (by simp) (by simp)).trans (by go_simp)
    have hlt : w1.heap.size < w2.heap.size := Nat.lt_of_lt_of_le (by simp) F2.size
    go_wp2_with fail
    refine (eqDeed_any d _).mono ?_; rintro e w3 ⟨rfl, F3⟩
    go_wp2
    go_ret
    exact ⟨rfl, (((F1.alloc F1.size _).and F2).alloc (((F1.alloc F1.size _).and F2).size) _).and F3⟩
  · go_wp2
    go_ret
    exact ⟨rfl, Fr.refl _ _ _⟩
end Go.Proofs.YtcfbdjdbmjdjnaaDoor.fnExactReadDeed
