/-
  Deeds: contracts of the statements' own helpers: szDeed, szDeedS, toDeed, toDeedS, eqDeed, eqDeedS.
-/
import Derived.Test.YtdngnmpmaacapaaGreatDoorTestE
namespace Go.Proofs.YtdngnmpmaacapaaGreatDoor
open Go.RowKit

theorem infoDeed : (Tryz.prog.info? 54).map (fun i => (i.zero, i.size, i.bytes)) = some (some (.agg #[.bool false, .string ByteArray.empty, .string ByteArray.empty, .string ByteArray.empty]), 4, 56) := by kernel_rfl

def zDeed : List Value := [.bool false, .string ByteArray.empty, .string ByteArray.empty, .string ByteArray.empty]
theorem mkDeeds (n : Nat) (hn : n ≤ 2097152) (w : World) :
    ∃ w1, (Instr.makeSlice 44 (.int .i64 (n : Int)) (.int .i64 (n : Int))).run Tryz.prog w = .ok (.slice (some ⟨w.heap.size, 0, none⟩) n n) w1 ∧
      w1.ownsRow w.heap.size 54 4 (.slice (some ⟨w.heap.size, 0, none⟩) n n) n (zrows zDeed n) ∧ Fr w.heap.size none w w1 := by
  obtain ⟨i0, hi, hz0, hz1, hz2⟩ := info_parts infoDeed
  obtain ⟨w1, hr, ho, hg⟩ := run_make_full (P := Tryz.prog) w w.heap.size 44 54 i0 (.agg zDeed.toArray) 4 Tryz.underlying44 hi hz0 hz1 .i64 .i64 n (by rw [hz2]; omega) (by simp [maxLen]; omega) (Nat.le_refl _)
  refine ⟨w1, hr, ?_, (Fr.refl _ _ w).grown hg (Nat.le_refl _) (by simp)⟩
  have e := made_zrows zDeed n (by simp [zDeed])
  rw [← e]; exact ho

/-- Four fields of an own row are written. -/
theorem own_set4 {w : World} {B : Nat} {T g n cap : Nat} {A C : List Value} {x y z u : Value} (k : Nat) (a b c d : Value) (hA : A.length = k * 4)
    (ho : w.ownsRow B T 4 (.slice (some ⟨g, 0, none⟩) n cap) n (A ++ ([x, y, z, u] ++ C))) :
    ((((w.setCell ⟨g, k * 4, none⟩ a).setCell ⟨g, k * 4 + 1, none⟩ b).setCell ⟨g, k * 4 + 2, none⟩ c).setCell ⟨g, k * 4 + 3, none⟩ d).ownsRow B T 4 (.slice (some ⟨g, 0, none⟩) n cap) n (A ++ ([a, b, c, d] ++ C)) := by
  have h1 := (ho.stored (k * 4) a).1
  have h2 := (h1.stored (k * 4 + 1) b).1
  have h3 := (h2.stored (k * 4 + 2) c).1
  have h4 := (h3.stored (k * 4 + 3) d).1
  rw [set4 A C x y z u a b c d (k * 4) (k * 4 + 1) (k * 4 + 2) (k * 4 + 3) hA.symm rfl rfl rfl] at h4
  exact h4
theorem own_get4 {w : World} {B : Nat} {T g n cap : Nat} {A C : List Value} {x y z u : Value} (k : Nat) (hA : A.length = k * 4)
    (ho : w.ownsRow B T 4 (.slice (some ⟨g, 0, none⟩) n cap) n (A ++ ([x, y, z, u] ++ C))) :
    (w.cell? ⟨g, k * 4, none⟩ = some x ∧ w.cell? ⟨g, k * 4 + 1, none⟩ = some y ∧ w.cell? ⟨g, k * 4 + 2, none⟩ = some z ∧ w.cell? ⟨g, k * 4 + 3, none⟩ = some u) ∧ w.frozen? ⟨g, k * 4, none⟩ = false ∧ w.frozen? ⟨g, k * 4 + 1, none⟩ = false ∧ w.frozen? ⟨g, k * 4 + 2, none⟩ = false ∧ w.frozen? ⟨g, k * 4 + 3, none⟩ = false := by
  have hl := ho.1
  simp only [List.length_append, List.length_cons, List.length_nil] at hl
  refine ⟨⟨?_, ?_, ?_, ?_⟩, ho.frozenAt _, ho.frozenAt _, ho.frozenAt _, ho.frozenAt _⟩
  · rw [ho.cellAt (k * 4) (by omega), List.getElem?_append_right (by omega)]; simp [hA]
  · rw [ho.cellAt (k * 4 + 1) (by omega), List.getElem?_append_right (by omega)]; simp [hA]
  · rw [ho.cellAt (k * 4 + 2) (by omega), List.getElem?_append_right (by omega)]; simp [hA]
  · rw [ho.cellAt (k * 4 + 3) (by omega), List.getElem?_append_right (by omega)]; simp [hA]
theorem ownO_get4 {w : World} {B : Nat} {T g n cap : Nat} {A C : List Value} {x y z u : Value} (k : Nat) (hA : A.length = k * 4)
    (ho : Own w B T 4 (.slice (some ⟨g, 0, none⟩) n cap) n (A ++ ([x, y, z, u] ++ C))) :
    (w.cell? ⟨g, k * 4, none⟩ = some x ∧ w.cell? ⟨g, k * 4 + 1, none⟩ = some y ∧ w.cell? ⟨g, k * 4 + 2, none⟩ = some z ∧ w.cell? ⟨g, k * 4 + 3, none⟩ = some u) ∧ w.frozen? ⟨g, k * 4, none⟩ = false ∧ w.frozen? ⟨g, k * 4 + 1, none⟩ = false ∧ w.frozen? ⟨g, k * 4 + 2, none⟩ = false ∧ w.frozen? ⟨g, k * 4 + 3, none⟩ = false := by
  have hl := ho.1
  simp only [List.length_append, List.length_cons, List.length_nil] at hl
  refine ⟨⟨?_, ?_, ?_, ?_⟩, ho.frozenAt _, ho.frozenAt _, ho.frozenAt _, ho.frozenAt _⟩
  · rw [ho.cellAt (k * 4) (by omega), List.getElem?_append_right (by omega)]; simp [hA]
  · rw [ho.cellAt (k * 4 + 1) (by omega), List.getElem?_append_right (by omega)]; simp [hA]
  · rw [ho.cellAt (k * 4 + 2) (by omega), List.getElem?_append_right (by omega)]; simp [hA]
  · rw [ho.cellAt (k * 4 + 3) (by omega), List.getElem?_append_right (by omega)]; simp [hA]

end Go.Proofs.YtdngnmpmaacapaaGreatDoor
