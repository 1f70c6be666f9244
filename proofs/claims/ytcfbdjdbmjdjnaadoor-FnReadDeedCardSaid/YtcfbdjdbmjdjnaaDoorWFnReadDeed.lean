/-
  Whatever the code, the law FnReadDeed of the given program returns true, if the library's MaxLen holds a number.
-/
import Derived.Test.YtcfbdjdbmjdjnaaDoorDrawText
import Derived.Test.YtcfbdjdbmjdjnaaDoorNum
namespace Go.Proofs.YtcfbdjdbmjdjnaaDoor.fnReadDeed
open Go.RowKit
set_option maxHeartbeats 2000000 in
set_option maxRecDepth 100000 in
theorem walk {w : World} (m : Int) (hm : w.cell? ⟨0, 0, none⟩ = some (.int .i64 m)) (a : Option Addr) (cap : Nat) (bs : List Int) (hs : Sl w a (bs.map (Value.int .u8))) (hb : ∀ x ∈ bs, 0 ≤ x ∧ x ≤ 255) (hcap : bs.length ≤ cap) :
    Calls Tryd.prog 6 #[.slice a bs.length cap] w fun e w' => e = .returned (.bool true) ∧ Fr w.heap.size none w w' := by
  have hb0 := World.block_lt_of_cell? w _ hm
  have HS : Hid (Sl w a (u8s bs)) := hs
  have HB := Lib.hid hb; clear hs hb
  by_cases hn : bs.length ≤ 1048576
  · go_enter Tryd.func6, Tryd.ntmps6
    go_wp2_with fail
    refine (drawReadDeed_any a cap bs _ HS.out HB.out hn hcap).mono ?_; rintro e w1 ⟨⟨s, rfl, hs⟩, hF⟩
    have G1 := Lib.hid hF
    have hm1 := (hF.cell (p := ⟨0, 0, none⟩) hb0 (by simp)).trans hm
    have RO := Lib.hid (fun h => readD_ok (s := s) h)
    have RN := Lib.hid (fun h => readD_not (s := s) h)
    have RS := Lib.hid (readD_small (s := s) (by omega))
    have CI := Lib.hid (fun W hW => implReadDeed_any s m W (by omega) hW)
    have CS := Lib.hid (fun W => specReadDeed_any s W (by omega))
    have hsp := readD_space s
    have sz : (s ++ (⟨#[32]⟩ : ByteArray)).size ≤ 301 := by rw [ByteArray.size_append]; show s.size + 1 ≤ 301; omega
    have ad := fun W => run_string_add_sum (P := Tryd.prog) W s ⟨#[32]⟩ (by have : (⟨#[32]⟩ : ByteArray).size = 1 := rfl; omega)
    have CM := Lib.hid (fun W hW => implReadDeed_any (s ++ ⟨#[32]⟩) m W (by omega) hW)
    unfold ReadPost at CI CS CM
    generalize s ++ (⟨#[32]⟩ : ByteArray) = s2 at *
    generalize readD s2 = y at *
    obtain ⟨y, yb⟩ := y
    dsimp only at hsp
    subst hsp
    generalize readD s = x at *
    obtain ⟨⟨x0, x1, x2, x3⟩, b⟩ := x
    dsimp only [deedV] at *
    clear hF sz
    go_wp2_with fail
    refine (CI.out _ hm1).mono ?_; rintro e w2 ⟨rfl, hF2⟩
    have G2 := Lib.hid (G1.out.and hF2)
    clear hF2
    go_wp2_with fail
    refine (CS.out _).mono ?_; rintro e w3 ⟨rfl, hF3⟩
    have G3 := Lib.hid ((G2.out.alloc G2.out.size _).and hF3)
    have d0 : w3.cell? ⟨w2.heap.size, 0, none⟩ = some (.bool x0) := (hF3.cell (by simp) (by simp)).trans (by go_simp)
    have d1 : w3.cell? ⟨w2.heap.size, 1, none⟩ = some (.string x1) := (hF3.cell (by simp) (by simp)).trans (by go_simp)
    have d2 : w3.cell? ⟨w2.heap.size, 2, none⟩ = some (.string x2) := (hF3.cell (by simp) (by simp)).trans (by go_simp)
    have d3 : w3.cell? ⟨w2.heap.size, 3, none⟩ = some (.string x3) := (hF3.cell (by simp) (by simp)).trans (by go_simp)
    have hlt : w2.heap.size < w3.heap.size := Nat.lt_of_lt_of_le (by simp) hF3.size
    clear hF3
    cases b
    · have hN := RN.out rfl
      simp only [noDeed, noTest, Prod.mk.injEq] at hN
      obtain ⟨rfl, rfl, rfl, rfl⟩ := hN
      go_wp2_with (go_at_call 19; refine (alive_any _).mono ?_; rintro e w' ⟨rfl, rfl⟩)
      go_ret
      exact ⟨rfl, G3.out.alloc G3.out.size _⟩
    · have hT := (RO.out rfl).1
      have CT := Lib.hid (fun W => implDeedText_any (x0, x1, x2, x3) W RS.out)
      rw [hT] at CT
      have G4 := Lib.hid (G3.out.alloc G3.out.size (.cells #[.bool x0, .string x1, .string x2, .string x3] 25))
      have hm4 : (w3.alloc (.cells #[.bool x0, .string x1, .string x2, .string x3] 25)).cell? ⟨0, 0, none⟩ = some (.int .i64 m) := (G4.out.cell (p := ⟨0, 0, none⟩) hb0 (by simp)).trans hm
      clear hT RO RN
      go_wp2_with fail
      refine (CM.out _ hm4).mono ?_; rintro e w5 ⟨rfl, hF5⟩
      have G5 := Lib.hid (G4.out.and hF5)
      have k0 : w5.cell? ⟨w2.heap.size, 0, none⟩ = some (.bool x0) := (hF5.cell (by simp; omega) (by simp)).trans (by go_simp)
      have k1 : w5.cell? ⟨w2.heap.size, 1, none⟩ = some (.string x1) := (hF5.cell (by simp; omega) (by simp)).trans (by go_simp)
      have k2 : w5.cell? ⟨w2.heap.size, 2, none⟩ = some (.string x2) := (hF5.cell (by simp; omega) (by simp)).trans (by go_simp)
      have k3 : w5.cell? ⟨w2.heap.size, 3, none⟩ = some (.string x3) := (hF5.cell (by simp; omega) (by simp)).trans (by go_simp)
      have hlt5 : w2.heap.size < w5.heap.size := Nat.lt_of_lt_of_le (by simp; omega) hF5.size
      clear hF5 d0 d1 d2 d3
      go_wp2_with fail
      refine (CT.out _).mono ?_; rintro e w6 ⟨rfl, hF6⟩
      have G6 := Lib.hid ((G5.out.alloc G5.out.size _).and hF6)
      clear hF6
      go_wp2
      go_ret
      exact ⟨rfl, G6.out⟩
  · go_enter Tryd.func6, Tryd.ntmps6
    go_wp2
    go_ret
    exact ⟨rfl, Fr.refl _ _ _⟩
end Go.Proofs.YtcfbdjdbmjdjnaaDoor.fnReadDeed
