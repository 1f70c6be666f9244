/-
  Merged: TestE DeedB Same TestF.
-/
import Derived.Test.YtdngnmpmaacapaaGreatDoorMTestB
import Derived.Deep.RegionHeld3
set_option linter.unusedVariables false
set_option linter.unusedSimpArgs false
/-
  Exercises: contract of heldTestS.
-/
namespace Go.Proofs.YtdngnmpmaacapaaGreatDoor
open Go.RowKit

theorem heldTestS_any (a : Option Addr) (cap n : Nat) (q : Int) (w : World) (hs : Sl w a (tests (markedT n q))) (hn : n ≤ 1048576) (hq : 0 ≤ q) (hq2 : q ≤ 549755813888) :
    Calls Tryz.prog 25 #[.slice a n cap, .int .i64 q] w fun e w' => e = .returned (.int .i64 (q + 3 * (n : Int))) ∧ Fr w.heap.size none w w' := by
  have HS := Lib.hid hs; clear hs
  go_enter Tryz.func25, Tryz.ntmps25
  go_wp2
  go_loopw [1, 5] (fun c i wr => ∃ k : Nat, k ≤ n ∧ i = .int .i64 k ∧ c = .int .i64 (q + 3 * (k : Int)) ∧ Fr w.heap.size none w wr) (fun _ i _ => n - (intOf i).toNat)
  case atStart => exact ⟨0, Nat.zero_le _, rfl, by go_num, Fr.refl _ _ _⟩
  case round =>
    obtain ⟨k, hk, rfl, rfl, hF⟩ := hrel
    have HF := Lib.hid hF; clear hF
    by_cases hlt : k < n
    · obtain ⟨b, off, rfl, hc0, hc1, hc2, hc1', hc2'⟩ := HS.out.test k (by rw [markedT_length]; exact hlt)
      rw [markedT_getD n q k hlt] at hc0 hc1' hc2'
      simp only at hc0 hc1' hc2'
      have hbw := World.block_lt_of_cell? w _ hc0
      have hbl : b < wr.heap.size := Nat.lt_of_lt_of_le hbw HF.out.size
      rw [← HF.out.cell (p := ⟨b, off + k * 3, none⟩) hbw (by simp)] at hc0
      rw [← HF.out.cell (p := ⟨b, off + k * 3 + 1, none⟩) hbw (by simp)] at hc1'
      rw [← HF.out.cell (p := ⟨b, off + k * 3 + 2, none⟩) hbw (by simp)] at hc2'
      clear hc1 hc2
      have k0 : (0 : Int) ≤ (k : Int) := by omega
      have k1 : (k : Int) < (n : Int) := by omega
      have c1wr := hc1'
      have c2wr := hc2'
      have hbwr := hbl
      clear hc1' hc2' hbl
      go_wp2
      go_region_held3 (fun w' => w'.cell? ⟨b, off + k * 3, none⟩ = some (.string (markS (q + 3 * (k : Int))))) (first | go_keep | (rw [hw2.cell (by first | exact hbwr | simpa using hbwr) (by simp)]; assumption))
        (first | (go_at_call 64; refine (markText_any (q + 3 * (k : Int)) (by omega) (by omega) _).mono ?_; rintro e w2 ⟨rfl, hw2⟩))
      have F2 := Lib.hid (HF.out.drew.trans (hw2.mono HF.out.size))
      have c1w2 : w2.cell? ⟨b, off + k * 3 + 1, none⟩ = some (.string (markS (q + 3 * (k : Int) + 1))) := (hw2.cell (p := ⟨b, off + k * 3 + 1, none⟩) hbwr (by simp)).trans c1wr
      have c2w2 : w2.cell? ⟨b, off + k * 3 + 2, none⟩ = some (.string (markS (q + 3 * (k : Int) + 1 + 1))) := (hw2.cell (p := ⟨b, off + k * 3 + 2, none⟩) hbwr (by simp)).trans c2wr
      have hbw2 : b < w2.heap.size := Nat.lt_of_lt_of_le hbwr hw2.size
      clear hw2
      clear c1wr c2wr
      go_wp2
      go_region_held3 (fun w' => w'.cell? ⟨b, off + k * 3 + 1, none⟩ = some (.string (markS (q + 3 * (k : Int) + 1)))) (first | go_keep | (rw [hw4.cell (by first | exact hbw2 | simpa using hbw2) (by simp)]; assumption))
        (first | (go_at_call 64; refine (markText_any (q + 3 * (k : Int) + 1) (by omega) (by omega) _).mono ?_; rintro e w4 ⟨rfl, hw4⟩))
      have F4 := Lib.hid (F2.out.drew.trans (hw4.mono F2.out.size))
      have c2w4 : w4.cell? ⟨b, off + k * 3 + 2, none⟩ = some (.string (markS (q + 3 * (k : Int) + 1 + 1))) := (hw4.cell (p := ⟨b, off + k * 3 + 2, none⟩) hbw2 (by simp)).trans c2w2
      have hbw4 : b < w4.heap.size := Nat.lt_of_lt_of_le hbw2 hw4.size
      clear hw4
      clear c1w2 c2w2
      go_wp2
      go_region_held3 (fun w' => w'.cell? ⟨b, off + k * 3 + 2, none⟩ = some (.string (markS (q + 3 * (k : Int) + 1 + 1)))) (first | go_keep | (rw [hw6.cell (by first | exact hbw4 | simpa using hbw4) (by simp)]; assumption))
        (first | (go_at_call 64; refine (markText_any (q + 3 * (k : Int) + 1 + 1) (by omega) (by omega) _).mono ?_; rintro e w6 ⟨rfl, hw6⟩))
      have F6 := Lib.hid (F4.out.drew.trans (hw6.mono F4.out.size))
      clear hw6
      go_wp2
      go_roundw
      case rel => exact ⟨k + 1, by omega, by go_num, by go_num, F6.out⟩
      case measure => simp [intOf]; omega
    · have hq' := Lib.hid (show q + 3 * (k : Int) = q + 3 * (n : Int) by omega)
      go_wp2
      go_ret
      exact ⟨ret_int hq'.out, HF.out⟩
end Go.Proofs.YtdngnmpmaacapaaGreatDoor
/-
  Deeds: contracts of the statements' own helpers: szDeed, szDeedS, toDeed, toDeedS, eqDeed, eqDeedS.
-/
namespace Go.Proofs.YtdngnmpmaacapaaGreatDoor
open Go.RowKit

theorem infoDeed : (Tryz.prog.info? 54).map (fun i => (i.zero, i.size, i.bytes)) = some (some (.agg #[.bool false, .string ByteArray.empty, .string ByteArray.empty, .string ByteArray.empty]), 4, 56) := by kernel_rfl

def zDeed : List Value := [.bool false, .string ByteArray.empty, .string ByteArray.empty, .string ByteArray.empty]
theorem mkDeeds (n : Nat) (hn : n ≤ 2097152) (w : World) :
    ∃ w1, (Instr.makeSlice 44 (.int .i64 (n : Int)) (.int .i64 (n : Int))).run Tryz.prog w = .ok (.slice (some ⟨w.heap.size, 0, none⟩) n n) w1 ∧
      w1.ownsRow w.heap.size 54 4 (.slice (some ⟨w.heap.size, 0, none⟩) n n) n (zrows zDeed n) ∧ Fr w.heap.size none w w1 := by
  obtain ⟨i0, hi, hz0, hz1, hz2⟩ := info_parts infoDeed
  obtain ⟨w1, hr, ho, hg⟩ := run_make_full (P := Tryz.prog) w w.heap.size 44 54 i0 (.agg zDeed.toArray) 4 Tryz.underlying44 hi hz0 hz1 .i64 .i64 n (by rw [hz2]; omega) (by simp [maxLen]; omega) (Nat.le_refl _)
  refine ⟨w1, hr, ?_, (Fr.refl _ _ w).grown hg (Nat.le_refl _) (by simp)⟩
  have e := made_zrows zDeed n (by simp [zDeed])
  rw [← e]; exact ho

/-- Four fields of an own row are written. -/
theorem own_set4 {w : World} {B : Nat} {T g n cap : Nat} {A C : List Value} {x y z u : Value} (k : Nat) (a b c d : Value) (hA : A.length = k * 4)
    (ho : w.ownsRow B T 4 (.slice (some ⟨g, 0, none⟩) n cap) n (A ++ ([x, y, z, u] ++ C))) :
    ((((w.setCell ⟨g, k * 4, none⟩ a).setCell ⟨g, k * 4 + 1, none⟩ b).setCell ⟨g, k * 4 + 2, none⟩ c).setCell ⟨g, k * 4 + 3, none⟩ d).ownsRow B T 4 (.slice (some ⟨g, 0, none⟩) n cap) n (A ++ ([a, b, c, d] ++ C)) := by
  have h1 := (ho.stored (k * 4) a).1
  have h2 := (h1.stored (k * 4 + 1) b).1
  have h3 := (h2.stored (k * 4 + 2) c).1
  have h4 := (h3.stored (k * 4 + 3) d).1
  rw [set4 A C x y z u a b c d (k * 4) (k * 4 + 1) (k * 4 + 2) (k * 4 + 3) hA.symm rfl rfl rfl] at h4
  exact h4
theorem own_get4 {w : World} {B : Nat} {T g n cap : Nat} {A C : List Value} {x y z u : Value} (k : Nat) (hA : A.length = k * 4)
    (ho : w.ownsRow B T 4 (.slice (some ⟨g, 0, none⟩) n cap) n (A ++ ([x, y, z, u] ++ C))) :
    (w.cell? ⟨g, k * 4, none⟩ = some x ∧ w.cell? ⟨g, k * 4 + 1, none⟩ = some y ∧ w.cell? ⟨g, k * 4 + 2, none⟩ = some z ∧ w.cell? ⟨g, k * 4 + 3, none⟩ = some u) ∧ w.frozen? ⟨g, k * 4, none⟩ = false ∧ w.frozen? ⟨g, k * 4 + 1, none⟩ = false ∧ w.frozen? ⟨g, k * 4 + 2, none⟩ = false ∧ w.frozen? ⟨g, k * 4 + 3, none⟩ = false := by
  have hl := ho.1
  simp only [List.length_append, List.length_cons, List.length_nil] at hl
  refine ⟨⟨?_, ?_, ?_, ?_⟩, ho.frozenAt _, ho.frozenAt _, ho.frozenAt _, ho.frozenAt _⟩
  · rw [ho.cellAt (k * 4) (by omega), List.getElem?_append_right (by omega)]; simp [hA]
  · rw [ho.cellAt (k * 4 + 1) (by omega), List.getElem?_append_right (by omega)]; simp [hA]
  · rw [ho.cellAt (k * 4 + 2) (by omega), List.getElem?_append_right (by omega)]; simp [hA]
  · rw [ho.cellAt (k * 4 + 3) (by omega), List.getElem?_append_right (by omega)]; simp [hA]
theorem ownO_get4 {w : World} {B : Nat} {T g n cap : Nat} {A C : List Value} {x y z u : Value} (k : Nat) (hA : A.length = k * 4)
    (ho : Own w B T 4 (.slice (some ⟨g, 0, none⟩) n cap) n (A ++ ([x, y, z, u] ++ C))) :
    (w.cell? ⟨g, k * 4, none⟩ = some x ∧ w.cell? ⟨g, k * 4 + 1, none⟩ = some y ∧ w.cell? ⟨g, k * 4 + 2, none⟩ = some z ∧ w.cell? ⟨g, k * 4 + 3, none⟩ = some u) ∧ w.frozen? ⟨g, k * 4, none⟩ = false ∧ w.frozen? ⟨g, k * 4 + 1, none⟩ = false ∧ w.frozen? ⟨g, k * 4 + 2, none⟩ = false ∧ w.frozen? ⟨g, k * 4 + 3, none⟩ = false := by
  have hl := ho.1
  simp only [List.length_append, List.length_cons, List.length_nil] at hl
  refine ⟨⟨?_, ?_, ?_, ?_⟩, ho.frozenAt _, ho.frozenAt _, ho.frozenAt _, ho.frozenAt _⟩
  · rw [ho.cellAt (k * 4) (by omega), List.getElem?_append_right (by omega)]; simp [hA]
  · rw [ho.cellAt (k * 4 + 1) (by omega), List.getElem?_append_right (by omega)]; simp [hA]
  · rw [ho.cellAt (k * 4 + 2) (by omega), List.getElem?_append_right (by omega)]; simp [hA]
  · rw [ho.cellAt (k * 4 + 3) (by omega), List.getElem?_append_right (by omega)]; simp [hA]

end Go.Proofs.YtdngnmpmaacapaaGreatDoor
/-
  Contracts: sameTests and sameDeeds of two slices that read alike.
-/
namespace Go.Proofs.YtdngnmpmaacapaaGreatDoor
open Go.RowKit

set_option maxRecDepth 100000 in
theorem sameTests_any (a b : Option Addr) (ca cb : Nat) (xs : List Tst) (w : World) (ha : Sl w a (tests xs)) (hb : Sl w b (tests xs)) (hn : xs.length ≤ 1048576) :
    Calls Tryz.prog 11 #[.slice a xs.length ca, .slice b xs.length cb] w fun e w' => e = .returned (.bool true) ∧ Fr w.heap.size none w w' := by
  have HA := Lib.hid ha; have HB := Lib.hid hb; clear ha hb
  go_enter Tryz.func11, Tryz.ntmps11
  go_wp2
  go_loopw [5] (fun i wr => ∃ k : Nat, k ≤ xs.length ∧ i = .int .i64 k ∧ Fr w.heap.size none w wr) (fun i _ => xs.length - (intOf i).toNat)
  case atStart => exact ⟨0, Nat.zero_le _, rfl, Fr.refl _ _ _⟩
  case round =>
    obtain ⟨k, hk, rfl, hF⟩ := hrel
    have HF := Lib.hid hF; clear hF
    by_cases hlt : k < xs.length
    · obtain ⟨b1, off1, rfl, hc1, hc1', hc1'', hd1, hd1'⟩ := (HA.out.fr HF.out).test k hlt
      obtain ⟨b2, off2, rfl, hc2, hc2', hc2'', hd2, hd2'⟩ := (HB.out.fr HF.out).test k hlt
      generalize xs.getD k noTest = x at *
      obtain ⟨x1, x2, x3⟩ := x
      dsimp only at *
      have hlt' : (k : Int) < (xs.length : Int) := by omega
      have k0 : (0 : Int) ≤ (k : Int) := by omega
      go_wp2
      go_quiet (fail)
      go_wp2
      go_roundw
      case rel => exact ⟨k + 1, by omega, by go_num, by first | exact HF.out.drewN _ | exact HF.out.drew⟩
      case measure => simp [intOf]; omega
    · go_wp2
      go_ret
      exact ⟨rfl, HF.out⟩

set_option maxRecDepth 100000 in
theorem sameDeeds_any (a b : Option Addr) (ca cb : Nat) (xs : List Dd) (w : World) (ha : Sl w a (deeds xs)) (hb : Sl w b (deeds xs)) (hn : xs.length ≤ 1048576) :
    Calls Tryz.prog 32 #[.slice a xs.length ca, .slice b xs.length cb] w fun e w' => e = .returned (.bool true) ∧ Fr w.heap.size none w w' := by
  have HA := Lib.hid ha; have HB := Lib.hid hb; clear ha hb
  go_enter Tryz.func32, Tryz.ntmps32
  go_wp2
  go_loopw [5] (fun i wr => ∃ k : Nat, k ≤ xs.length ∧ i = .int .i64 k ∧ Fr w.heap.size none w wr) (fun i _ => xs.length - (intOf i).toNat)
  case atStart => exact ⟨0, Nat.zero_le _, rfl, Fr.refl _ _ _⟩
  case round =>
    obtain ⟨k, hk, rfl, hF⟩ := hrel
    have HF := Lib.hid hF; clear hF
    by_cases hlt : k < xs.length
    · obtain ⟨b1, off1, rfl, hc1, ⟨hc1', hc1'', hc1'''⟩, hd1, hd1', hd1''⟩ := (HA.out.fr HF.out).deed k hlt
      obtain ⟨b2, off2, rfl, hc2, ⟨hc2', hc2'', hc2'''⟩, hd2, hd2', hd2''⟩ := (HB.out.fr HF.out).deed k hlt
      generalize xs.getD k noDeed = x at *
      obtain ⟨x0, x1, x2, x3⟩ := x
      dsimp only at *
      have hlt' : (k : Int) < (xs.length : Int) := by omega
      have k0 : (0 : Int) ≤ (k : Int) := by omega
      go_wp2
      go_quiet (fail)
      go_wp2
      go_roundw
      case rel => exact ⟨k + 1, by omega, by go_num, by first | exact HF.out.drewN _ | exact HF.out.drew⟩
      case measure => simp [intOf]; omega
    · go_wp2
      go_ret
      exact ⟨rfl, HF.out⟩
end Go.Proofs.YtdngnmpmaacapaaGreatDoor
/-
  Exercises: all contracts of the statements' own helpers together.
-/
namespace Go.Proofs.YtdngnmpmaacapaaGreatDoor
end Go.Proofs.YtdngnmpmaacapaaGreatDoor
