/-
  Exercises: contracts of the statements' own helpers: szTestS, toTestS, eqTestS, markText, markTestS, heldTestS.
-/
import Derived.Test.YtjcjkdhfmdgjhaaDoorBoardP
import Derived.Test.YtjcjkdhfmdgjhaaDoorApp
import Derived.Test.YtjcjkdhfmdgjhaaDoorNum
import Derived.StillTailTactics
namespace Go.Proofs.YtjcjkdhfmdgjhaaDoor
open Go.RowKit

theorem infoTest : (Tryd.prog.info? 25).map (fun i => (i.zero, i.size, i.bytes)) = some (some (.agg #[.string ByteArray.empty, .string ByteArray.empty, .string ByteArray.empty]), 3, 48) := by kernel_rfl

/-- What a count of sizes leaves: -1, or all is small. -/
def Left (l z : Int) (p : Prop) : Prop := z = -1 ∨ (0 ≤ z ∧ z ≤ l ∧ p)
def zTest : List Value := [.string ByteArray.empty, .string ByteArray.empty, .string ByteArray.empty]
theorem mkTests (n : Nat) (hn : n ≤ 2097152) (w : World) :
    ∃ w1, (Instr.makeSlice 23 (.int .i64 (n : Int)) (.int .i64 (n : Int))).run Tryd.prog w = .ok (.slice (some ⟨w.heap.size, 0, none⟩) n n) w1 ∧
      w1.ownsRow w.heap.size 25 3 (.slice (some ⟨w.heap.size, 0, none⟩) n n) n (zrows zTest n) ∧ Fr w.heap.size none w w1 := by
  obtain ⟨i0, hi, hz0, hz1, hz2⟩ := info_parts infoTest
  obtain ⟨w1, hr, ho, hg⟩ := run_make_full (P := Tryd.prog) w w.heap.size 23 25 i0 (.agg zTest.toArray) 3 Tryd.underlying23 hi hz0 hz1 .i64 .i64 n (by rw [hz2]; omega) (by simp [maxLen]; omega) (Nat.le_refl _)
  refine ⟨w1, hr, ?_, (Fr.refl _ _ w).grown hg (Nat.le_refl _) (by simp)⟩
  have e := made_zrows zTest n (by simp [zTest])
  rw [← e]; exact ho

theorem getD_snoc {α : Type} (xs : List α) (d : α) (k : Nat) (h : k < xs.length) : xs.take (k + 1) = xs.take k ++ [xs.getD k d] := by
  rw [List.take_succ_eq_append_getElem h]; simp [List.getD_eq_getElem?_getD, h]

/-- Three fields of an own row are written. -/
theorem own_set3 {w : World} {B : Nat} {T g n cap : Nat} {A C : List Value} {x y z : Value} (k : Nat) (a b c : Value) (hA : A.length = k * 3)
    (ho : w.ownsRow B T 3 (.slice (some ⟨g, 0, none⟩) n cap) n (A ++ ([x, y, z] ++ C))) :
    (((w.setCell ⟨g, k * 3, none⟩ a).setCell ⟨g, k * 3 + 1, none⟩ b).setCell ⟨g, k * 3 + 2, none⟩ c).ownsRow B T 3 (.slice (some ⟨g, 0, none⟩) n cap) n (A ++ ([a, b, c] ++ C)) := by
  have h1 := (ho.stored (k * 3) a).1
  have h2 := (h1.stored (k * 3 + 1) b).1
  have h3 := (h2.stored (k * 3 + 2) c).1
  rw [set3 A C x y z a b c (k * 3) (k * 3 + 1) (k * 3 + 2) hA.symm rfl rfl] at h3
  exact h3
theorem own_get3 {w : World} {B : Nat} {T g n cap : Nat} {A C : List Value} {x y z : Value} (k : Nat) (hA : A.length = k * 3)
    (ho : w.ownsRow B T 3 (.slice (some ⟨g, 0, none⟩) n cap) n (A ++ ([x, y, z] ++ C))) :
    (w.cell? ⟨g, k * 3, none⟩ = some x ∧ w.cell? ⟨g, k * 3 + 1, none⟩ = some y ∧ w.cell? ⟨g, k * 3 + 2, none⟩ = some z) ∧ w.frozen? ⟨g, k * 3, none⟩ = false ∧ w.frozen? ⟨g, k * 3 + 1, none⟩ = false ∧ w.frozen? ⟨g, k * 3 + 2, none⟩ = false := by
  have hl := ho.1
  simp only [List.length_append, List.length_cons, List.length_nil] at hl
  refine ⟨⟨?_, ?_, ?_⟩, ho.frozenAt _, ho.frozenAt _, ho.frozenAt _⟩
  · rw [ho.cellAt (k * 3) (by omega), List.getElem?_append_right (by omega)]; simp [hA]
  · rw [ho.cellAt (k * 3 + 1) (by omega), List.getElem?_append_right (by omega)]; simp [hA]
  · rw [ho.cellAt (k * 3 + 2) (by omega), List.getElem?_append_right (by omega)]; simp [hA]
theorem ownO_set3 {w : World} {B : Nat} {T g n cap : Nat} {A C : List Value} {x y z : Value} (k : Nat) (a b c : Value) (hA : A.length = k * 3)
    (ho : Own w B T 3 (.slice (some ⟨g, 0, none⟩) n cap) n (A ++ ([x, y, z] ++ C))) :
    Own (((w.setCell ⟨g, k * 3, none⟩ a).setCell ⟨g, k * 3 + 1, none⟩ b).setCell ⟨g, k * 3 + 2, none⟩ c) B T 3 (.slice (some ⟨g, 0, none⟩) n cap) n (A ++ ([a, b, c] ++ C)) := by
  have h1 := ho.stored (k * 3) a
  have h2 := h1.stored (k * 3 + 1) b
  have h3 := h2.stored (k * 3 + 2) c
  rw [set3 A C x y z a b c (k * 3) (k * 3 + 1) (k * 3 + 2) hA.symm rfl rfl] at h3
  exact h3
theorem ownO_get3 {w : World} {B : Nat} {T g n cap : Nat} {A C : List Value} {x y z : Value} (k : Nat) (hA : A.length = k * 3)
    (ho : Own w B T 3 (.slice (some ⟨g, 0, none⟩) n cap) n (A ++ ([x, y, z] ++ C))) :
    (w.cell? ⟨g, k * 3, none⟩ = some x ∧ w.cell? ⟨g, k * 3 + 1, none⟩ = some y ∧ w.cell? ⟨g, k * 3 + 2, none⟩ = some z) ∧ w.frozen? ⟨g, k * 3, none⟩ = false ∧ w.frozen? ⟨g, k * 3 + 1, none⟩ = false ∧ w.frozen? ⟨g, k * 3 + 2, none⟩ = false := by
  have hl := ho.1
  simp only [List.length_append, List.length_cons, List.length_nil] at hl
  refine ⟨⟨?_, ?_, ?_⟩, ho.frozenAt _, ho.frozenAt _, ho.frozenAt _⟩
  · rw [ho.cellAt (k * 3) (by omega), List.getElem?_append_right (by omega)]; simp [hA]
  · rw [ho.cellAt (k * 3 + 1) (by omega), List.getElem?_append_right (by omega)]; simp [hA]
  · rw [ho.cellAt (k * 3 + 2) (by omega), List.getElem?_append_right (by omega)]; simp [hA]

def digB (m : Nat) : UInt8 := UInt8.ofNat (48 + m % 10)
def digL : Nat → Nat → List UInt8 → List UInt8
  | 0, _, acc => acc
  | f + 1, n, acc => if n = 0 then acc else digL f (n / 10) (digB n :: acc)
theorem digL_zero (f : Nat) (acc : List UInt8) : digL f 0 acc = acc := by cases f <;> simp [digL]
theorem digL_step (f n : Nat) (acc : List UInt8) (h : 0 < n) : digL (f + 1) n acc = digL f (n / 10) (digB n :: acc) := by
  rw [digL, if_neg (by omega)]
theorem digL_len (f n : Nat) (acc : List UInt8) : (digL f n acc).length ≤ acc.length + f := by
  induction f generalizing n acc with
  | zero => simp [digL]
  | succ f ih => unfold digL; split
                 · omega
                 · have := ih (n / 10) (digB n :: acc); rw [List.length_cons] at this; omega
def markS (k : Int) : ByteArray := if k ≤ 0 then ⟨#[109, 48]⟩ else ⟨#[109]⟩ ++ ⟨(digL 13 k.toNat []).toArray⟩
theorem convByte (c : Nat) (hc : c < 256) (T : TypeId) (w : World) :
    (convert 22 9 (.slice (some ⟨w.heap.size, 0, none⟩) 1 1)).run Tryd.prog (w.alloc (.cells #[.int .u8 (c : Int)] T)) = .ok (.string ⟨[UInt8.ofNat c].toArray⟩) (w.alloc (.cells #[.int .u8 (c : Int)] T)) :=
  run_convert_bytes_back _ _ _ 5 ⟨w.heap.size, 0, none⟩ 1 [UInt8.ofNat c] Tryd.underlying22 Tryd.underlying5 Tryd.underlying9 (by
    intro j hj
    have : j = 0 := by simpa using hj
    subst this
    show (w.alloc _).cell? ⟨w.heap.size, 0, none⟩ = _
    rw [World.cell?_alloc_at _ _ _ _ rfl]
    have : (UInt8.ofNat c).toNat = c := by simp [UInt8.toNat_ofNat]; omega
    simp [this])
end Go.Proofs.YtjcjkdhfmdgjhaaDoor
