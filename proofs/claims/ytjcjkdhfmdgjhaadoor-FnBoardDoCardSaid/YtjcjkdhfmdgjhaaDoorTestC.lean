/-
  Exercises: contracts of markText, markTestS, heldTestS.
-/
import Derived.Test.YtjcjkdhfmdgjhaaDoorTestB
namespace Go.Proofs.YtjcjkdhfmdgjhaaDoor
open Go.RowKit

theorem convByteI (z : Int) (c : Nat) (hz : z = ((48 + c % 10 : Nat) : Int)) (T : TypeId) (w : World) :
    (convert 22 9 (.slice (some ⟨w.heap.size, 0, none⟩) 1 1)).run Tryd.prog (w.alloc (.cells #[.int .u8 z] T)) = .ok (.string ⟨[digB c].toArray⟩) (w.alloc (.cells #[.int .u8 z] T)) := by
  subst hz; exact convByte (48 + c % 10) (by omega) T w
theorem markS_no {k : Int} (h : k ≤ 0) : ⟨#[109, 48]⟩ = markS k := by unfold markS; rw [if_pos h]
theorem markS_yes {k : Int} (h : 0 < k) : (⟨#[109]⟩ : ByteArray) ++ ⟨(digL 13 k.toNat []).toArray⟩ = markS k := by unfold markS; rw [if_neg (by omega)]
theorem arr_size (l : List UInt8) : (⟨l.toArray⟩ : ByteArray).size = l.length := by show l.toArray.size = _; simp
theorem markS_size (k : Int) : (markS k).size ≤ 1048576 := by
  unfold markS
  split
  · decide
  · have := digL_len 13 k.toNat []
    have h1 : (⟨#[109]⟩ : ByteArray).size = 1 := rfl
    have h2 := arr_size (digL 13 k.toNat [])
    rw [ByteArray.size_append, h1, h2]
    simp at this; omega

def markedT (n : Nat) (q : Int) : List Tst := (List.range n).map fun j : Nat => (markS (q + 3 * (j : Int)), markS (q + 3 * (j : Int) + 1), markS (q + 3 * (j : Int) + 1 + 1))
theorem markedT_length (n : Nat) (q : Int) : (markedT n q).length = n := by simp [markedT]
theorem markedT_succ (n : Nat) (q : Int) : markedT (n + 1) q = markedT n q ++ [(markS (q + 3 * (n : Int)), markS (q + 3 * (n : Int) + 1), markS (q + 3 * (n : Int) + 1 + 1))] := by simp [markedT, List.range_succ]
theorem markedT_getD (n : Nat) (q : Int) (j : Nat) (h : j < n) : (markedT n q).getD j noTest = (markS (q + 3 * (j : Int)), markS (q + 3 * (j : Int) + 1), markS (q + 3 * (j : Int) + 1 + 1)) := by simp [markedT, List.getD_eq_getElem?_getD, h]
theorem drop_getD {α : Type} (xs : List α) (d : α) (k : Nat) (h : k < xs.length) : xs.drop k = xs.getD k d :: xs.drop (k + 1) := by
  rw [List.drop_eq_getElem_cons h]; simp [List.getD_eq_getElem?_getD, h]
theorem set3a (A C : List Value) (x y z a : Value) (n : Nat) (hn : n = A.length) : (A ++ ([x, y, z] ++ C)).set n a = A ++ ([a, y, z] ++ C) := by
  subst hn; simp [List.set_append_right]
theorem set3b (A C : List Value) (x y z a : Value) (n : Nat) (hn : n = A.length + 1) : (A ++ ([x, y, z] ++ C)).set n a = A ++ ([x, a, z] ++ C) := by
  subst hn; simp [List.set_append_right]
theorem set3c (A C : List Value) (x y z a : Value) (n : Nat) (hn : n = A.length + 2) : (A ++ ([x, y, z] ++ C)).set n a = A ++ ([x, y, a] ++ C) := by
  subst hn; simp [List.set_append_right]

end Go.Proofs.YtjcjkdhfmdgjhaaDoor
