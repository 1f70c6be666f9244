/-
  Deeds: contracts of the statements' own helpers: szDeed, szDeedS, toDeed, toDeedS, eqDeed, eqDeedS.
-/
import Derived.Test.YtjcjkdhfmdgjhaaDoorTestE
namespace Go.Proofs.YtjcjkdhfmdgjhaaDoor
open Go.RowKit

theorem infoDeed : (Tryd.prog.info? 27).map (fun i => (i.zero, i.size, i.bytes)) = some (some (.agg #[.bool false, .string ByteArray.empty, .string ByteArray.empty, .string ByteArray.empty]), 4, 56) := by kernel_rfl

def zDeed : List Value := [.bool false, .string ByteArray.empty, .string ByteArray.empty, .string ByteArray.empty]
/-- Four fields of an own row are written. -/
theorem own_set4 {w : World} {B : Nat} {T g n cap : Nat} {A C : List Value} {x y z u : Value} (k : Nat) (a b c d : Value) (hA : A.length = k * 4)
    (ho : w.ownsRow B T 4 (.slice (some ⟨g, 0, none⟩) n cap) n (A ++ ([x, y, z, u] ++ C))) :
    ((((w.setCell ⟨g, k * 4, none⟩ a).setCell ⟨g, k * 4 + 1, none⟩ b).setCell ⟨g, k * 4 + 2, none⟩ c).setCell ⟨g, k * 4 + 3, none⟩ d).ownsRow B T 4 (.slice (some ⟨g, 0, none⟩) n cap) n (A ++ ([a, b, c, d] ++ C)) := by
  have h1 := (ho.stored (k * 4) a).1
  have h2 := (h1.stored (k * 4 + 1) b).1
  have h3 := (h2.stored (k * 4 + 2) c).1
  have h4 := (h3.stored (k * 4 + 3) d).1
  rw [set4 A C x y z u a b c d (k * 4) (k * 4 + 1) (k * 4 + 2) (k * 4 + 3) hA.symm rfl rfl rfl] at h4
  exact h4
theorem own_get4 {w : World} {B : Nat} {T g n cap : Nat} {A C : List Value} {x y z u : Value} (k : Nat) (hA : A.length = k * 4)
    (ho : w.ownsRow B T 4 (.slice (some ⟨g, 0, none⟩) n cap) n (A ++ ([x, y, z, u] ++ C))) :
    (w.cell? ⟨g, k * 4, none⟩ = some x ∧ w.cell? ⟨g, k * 4 + 1, none⟩ = some y ∧ w.cell? ⟨g, k * 4 + 2, none⟩ = some z ∧ w.cell? ⟨g, k * 4 + 3, none⟩ = some u) ∧ w.frozen? ⟨g, k * 4, none⟩ = false ∧ w.frozen? ⟨g, k * 4 + 1, none⟩ = false ∧ w.frozen? ⟨g, k * 4 + 2, none⟩ = false ∧ w.frozen? ⟨g, k * 4 + 3, none⟩ = false := by
  have hl := ho.1
  simp only [List.length_append, List.length_cons, List.length_nil] at hl
  refine ⟨⟨?_, ?_, ?_, ?_⟩, ho.frozenAt _, ho.frozenAt _, ho.frozenAt _, ho.frozenAt _⟩
  · rw [ho.cellAt (k * 4) (by omega), List.getElem?_append_right (by omega)]; simp [hA]
  · rw [ho.cellAt (k * 4 + 1) (by omega), List.getElem?_append_right (by omega)]; simp [hA]
  · rw [ho.cellAt (k * 4 + 2) (by omega), List.getElem?_append_right (by omega)]; simp [hA]
  · rw [ho.cellAt (k * 4 + 3) (by omega), List.getElem?_append_right (by omega)]; simp [hA]
theorem ownO_get4 {w : World} {B : Nat} {T g n cap : Nat} {A C : List Value} {x y z u : Value} (k : Nat) (hA : A.length = k * 4)
    (ho : Own w B T 4 (.slice (some ⟨g, 0, none⟩) n cap) n (A ++ ([x, y, z, u] ++ C))) :
    (w.cell? ⟨g, k * 4, none⟩ = some x ∧ w.cell? ⟨g, k * 4 + 1, none⟩ = some y ∧ w.cell? ⟨g, k * 4 + 2, none⟩ = some z ∧ w.cell? ⟨g, k * 4 + 3, none⟩ = some u) ∧ w.frozen? ⟨g, k * 4, none⟩ = false ∧ w.frozen? ⟨g, k * 4 + 1, none⟩ = false ∧ w.frozen? ⟨g, k * 4 + 2, none⟩ = false ∧ w.frozen? ⟨g, k * 4 + 3, none⟩ = false := by
  have hl := ho.1
  simp only [List.length_append, List.length_cons, List.length_nil] at hl
  refine ⟨⟨?_, ?_, ?_, ?_⟩, ho.frozenAt _, ho.frozenAt _, ho.frozenAt _, ho.frozenAt _⟩
  · rw [ho.cellAt (k * 4) (by omega), List.getElem?_append_right (by omega)]; simp [hA]
  · rw [ho.cellAt (k * 4 + 1) (by omega), List.getElem?_append_right (by omega)]; simp [hA]
  · rw [ho.cellAt (k * 4 + 2) (by omega), List.getElem?_append_right (by omega)]; simp [hA]
  · rw [ho.cellAt (k * 4 + 3) (by omega), List.getElem?_append_right (by omega)]; simp [hA]

end Go.Proofs.YtjcjkdhfmdgjhaaDoor
