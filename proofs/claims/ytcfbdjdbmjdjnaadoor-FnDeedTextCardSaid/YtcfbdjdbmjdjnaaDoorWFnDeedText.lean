/-
  Whatever the code, the law FnDeedText of the given program returns true, if the library's MaxLen holds a number.
-/
import Derived.Test.YtcfbdjdbmjdjnaaDoorDrawText
import Derived.Test.YtcfbdjdbmjdjnaaDoorNum
namespace Go.Proofs.YtcfbdjdbmjdjnaaDoor.fnDeedText
open Go.RowKit
set_option maxHeartbeats 2000000 in
set_option maxRecDepth 100000 in
theorem walk {w : World} (m : Int) (hm : w.cell? ⟨0, 0, none⟩ = some (.int .i64 m)) (a : Option Addr) (cap : Nat) (bs : List Int) (hs : Sl w a (bs.map (Value.int .u8))) (hb : ∀ x ∈ bs, 0 ≤ x ∧ x ≤ 255) (hcap : bs.length ≤ cap) :
    Calls Tryd.prog 5 #[.slice a bs.length cap] w fun e w' => e = .returned (.bool true) ∧ Fr w.heap.size none w w' := by
  have hb0 := World.block_lt_of_cell? w _ hm
  have HS : Hid (Sl w a (u8s bs)) := hs
  have HB := Lib.hid hb; clear hs hb
  by_cases hn : bs.length ≤ 1048576
  · go_enter Tryd.func5, Tryd.ntmps5
    go_wp2_with fail
    refine (drawDeedText_any a cap bs _ HS.out HB.out hn hcap).mono ?_; rintro e w1 ⟨d, rfl, ht, hF⟩
    have G1 := Lib.hid hF
    have HT := Lib.hid (tiny_small ht)
    have ts := tiny_text ht
    have RT := Lib.hid (fun h => readD_text (d := d) h)
    have CT := Lib.hid (fun W => implDeedText_any d W HT.out)
    have CS := Lib.hid (fun W => specDeedText_any d W HT.out)
    generalize deedT d = s at *
    obtain ⟨x0, x1, x2, x3⟩ := d
    dsimp only at *
    have z1 := G1.out.size
    clear hF ht
    go_wp2_with fail
    refine (CT.out _).mono ?_; rintro e w2 ⟨rfl, hF2⟩
    have G2 := Lib.hid ((G1.out.alloc z1 _).and hF2)
    have d0 : w2.cell? ⟨w1.heap.size, 0, none⟩ = some (.bool x0) := (hF2.cell (by simp) (by simp)).trans (by go_simp)
    have d1 : w2.cell? ⟨w1.heap.size, 1, none⟩ = some (.string x1) := (hF2.cell (by simp) (by simp)).trans (by go_simp)
    have d2 : w2.cell? ⟨w1.heap.size, 2, none⟩ = some (.string x2) := (hF2.cell (by simp) (by simp)).trans (by go_simp)
    have d3 : w2.cell? ⟨w1.heap.size, 3, none⟩ = some (.string x3) := (hF2.cell (by simp) (by simp)).trans (by go_simp)
    have hlt : w1.heap.size < w2.heap.size := Nat.lt_of_lt_of_le (by simp) hF2.size
    clear hF2
    go_wp2_with fail
    refine (CS.out _).mono ?_; rintro e w3 ⟨rfl, hF3⟩
    have G3 := Lib.hid (G2.out.and hF3)
    have e0 : w3.cell? ⟨w1.heap.size, 0, none⟩ = some (.bool x0) := (hF3.cell hlt (by simp)).trans d0
    have e1 : w3.cell? ⟨w1.heap.size, 1, none⟩ = some (.string x1) := (hF3.cell hlt (by simp)).trans d1
    have e2 : w3.cell? ⟨w1.heap.size, 2, none⟩ = some (.string x2) := (hF3.cell hlt (by simp)).trans d2
    have e3 : w3.cell? ⟨w1.heap.size, 3, none⟩ = some (.string x3) := (hF3.cell hlt (by simp)).trans d3
    have hlt3 : w1.heap.size < w3.heap.size := Nat.lt_of_lt_of_le hlt hF3.size
    clear hF3 d0 d1 d2 d3
    by_cases h0 : s = ⟨#[]⟩
    · subst h0
      go_wp2_with (go_at_call 19; refine (alive_any _).mono ?_; rintro e w' ⟨rfl, rfl⟩)
      go_ret
      exact ⟨rfl, G3.out⟩
    · have hrd := RT.out h0
      have hne : s.toList.isEmpty = false := by
        cases h : s.toList.isEmpty
        · rfl
        · rw [List.isEmpty_iff] at h
          exact absurd ((toList_nil_iff_emptyBytes s).1 h) h0
      have hm3 := (G3.out.cell (p := ⟨0, 0, none⟩) hb0 (by simp)).trans hm
      go_wp2_with fail
      refine (implReadDeed_any s m _ (by omega) hm3).mono ?_; unfold ReadPost; rw [hrd]; rintro e w4 ⟨rfl, hF4⟩
      dsimp only [deedV]
      have G4 := Lib.hid (G3.out.and hF4)
      have k0 : w4.cell? ⟨w1.heap.size, 0, none⟩ = some (.bool x0) := (hF4.cell hlt3 (by simp)).trans e0
      have k1 : w4.cell? ⟨w1.heap.size, 1, none⟩ = some (.string x1) := (hF4.cell hlt3 (by simp)).trans e1
      have k2 : w4.cell? ⟨w1.heap.size, 2, none⟩ = some (.string x2) := (hF4.cell hlt3 (by simp)).trans e2
      have k3 : w4.cell? ⟨w1.heap.size, 3, none⟩ = some (.string x3) := (hF4.cell hlt3 (by simp)).trans e3
      have hlt4 : w1.heap.size < w4.heap.size := Nat.lt_of_lt_of_le hlt3 hF4.size
      clear hF4 e0 e1 e2 e3 hrd
      go_wp2
      go_ret
      exact ⟨rfl, G4.out.alloc G4.out.size _⟩
  · go_enter Tryd.func5, Tryd.ntmps5
    go_wp2
    go_ret
    exact ⟨rfl, Fr.refl _ _ _⟩
end Go.Proofs.YtcfbdjdbmjdjnaaDoor.fnDeedText
