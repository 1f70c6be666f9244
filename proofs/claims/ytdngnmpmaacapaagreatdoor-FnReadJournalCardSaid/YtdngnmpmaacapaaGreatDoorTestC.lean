/-
  Exercises: contracts of markText, markTestS, heldTestS.
-/
import Derived.Test.YtdngnmpmaacapaaGreatDoorTestB
namespace Go.Proofs.YtdngnmpmaacapaaGreatDoor
open Go.RowKit

theorem convByteI (z : Int) (c : Nat) (hz : z = ((48 + c % 10 : Nat) : Int)) (T : TypeId) (w : World) :
    (convert 22 9 (.slice (some ⟨w.heap.size, 0, none⟩) 1 1)).run Tryz.prog (w.alloc (.cells #[.int .u8 z] T)) = .ok (.string ⟨[digB c].toArray⟩) (w.alloc (.cells #[.int .u8 z] T)) := by
  subst hz; exact convByte (48 + c % 10) (by omega) T w
theorem markS_no {k : Int} (h : k ≤ 0) : ⟨#[109, 48]⟩ = markS k := by unfold markS; rw [if_pos h]
theorem markS_yes {k : Int} (h : 0 < k) : (⟨#[109]⟩ : ByteArray) ++ ⟨(digL 13 k.toNat []).toArray⟩ = markS k := by unfold markS; rw [if_neg (by omega)]
theorem arr_size (l : List UInt8) : (⟨l.toArray⟩ : ByteArray).size = l.length := by show l.toArray.size = _; simp
theorem markS_size (k : Int) : (markS k).size ≤ 1048576 := by
  unfold markS
  split
  · decide
  · have := digL_len 13 k.toNat []
    have h1 : (⟨#[109]⟩ : ByteArray).size = 1 := rfl
    have h2 := arr_size (digL 13 k.toNat [])
    rw [ByteArray.size_append, h1, h2]
    simp at this; omega

set_option maxHeartbeats 400000 in
set_option maxRecDepth 100000 in
theorem markText_any (k : Int) (h0 : 0 ≤ k) (h1 : k ≤ 1099511627776) (w : World) : Calls Tryz.prog 64 #[.int .i64 k] w fun e w' => e = .returned (.string (markS k)) ∧ Fr w.heap.size none w w' := by
  by_cases hk : k ≤ 0
  · have hb := Lib.hid (markS_no hk)
    go_enter Tryz.func64, Tryz.ntmps64
    go_wp2
    go_ret
    exact ⟨by rw [← hb.out]; rfl, Fr.refl _ _ _⟩
  · obtain ⟨n, rfl⟩ := Int.eq_ofNat_of_zero_le h0
    have hb := Lib.hid (markS_yes (k := (n : Int)) (by omega))
    have h13 : (10 : Nat) ^ 13 = 10000000000000 := by decide
    have hn13 := Lib.hid (show n < 10 ^ 13 by rw [h13]; omega)
    clear h13
    go_enter Tryz.func64, Tryz.ntmps64
    go_wp2
    go_loopw [0, 3] (fun z out wr => ∃ (m f : Nat) (acc : List UInt8), z = .int .i64 (m : Int) ∧ out = .string ⟨acc.toArray⟩ ∧ m ≤ 1099511627776 ∧ Hid (m < 10 ^ f) ∧ acc.length + f = 13 ∧ Hid (digL f m acc = digL 13 n []) ∧ Fr w.heap.size none w wr) (fun z _ _ => (intOf z).toNat)
    case atStart => exact ⟨n, 13, [], rfl, rfl, by omega, hn13, rfl, Lib.hid rfl, Fr.refl _ _ _⟩
    case round =>
      obtain ⟨m, f, acc, rfl, rfl, hm, hlt, hl, hd, hF⟩ := hrel
      have HF := Lib.hid hF; clear hF
      by_cases hm0 : 0 < m
      · obtain ⟨f', rfl⟩ : ∃ f', f = f' + 1 := by
          cases f with
          | zero => have := hlt.out; simp at this; omega
          | succ f' => exact ⟨f', rfl⟩
        have hst := Lib.hid ((digL_step f' m acc hm0).symm.trans hd.out)
        have hlt' := Lib.hid (show m / 10 < 10 ^ f' by
          have := hlt.out
          rw [Nat.pow_succ] at this
          exact Nat.div_lt_of_lt_mul (by rw [Nat.mul_comm]; exact this))
        have hcv := fun W => convByteI (48 + (m : Int) % 10) m (by omega) 5 W
        have hadd := fun W => run_string_add_sum (P := Tryz.prog) W ⟨[digB m].toArray⟩ ⟨acc.toArray⟩ (by have h1 := arr_size [digB m]; have h2 := arr_size acc; simp only [List.length_cons, List.length_nil] at h1; omega)
        have hcat : (⟨[digB m].toArray⟩ : ByteArray) ++ ⟨acc.toArray⟩ = ⟨(digB m :: acc).toArray⟩ := by rw [ByteArray.mk_append_mk]; rfl
        have hcat := Lib.hid hcat
        have hm0' : (0 : Int) < (m : Int) := by omega
        go_wp2
        go_roundw
        case rel => exact ⟨m / 10, f', digB m :: acc, by go_num, by first | rfl | rw [hcat.out], by omega, hlt', by rw [List.length_cons]; omega, hst, (HF.out.alloc HF.out.size _)⟩
        case measure => simp only [intOf]; omega
      · have hm1 : m = 0 := by omega
        subst hm1
        have hfin := Lib.hid (show (⟨#[109]⟩ : ByteArray) ++ ⟨acc.toArray⟩ = markS (n : Int) by rw [← hb.out, ← digL_zero f acc, hd.out]; rfl)
        have hadd := fun W => run_string_add_sum (P := Tryz.prog) W ⟨#[109]⟩ ⟨acc.toArray⟩ (by have h1 : (⟨#[109]⟩ : ByteArray).size = 1 := rfl; have h2 := arr_size acc; omega)
        go_wp2
        go_ret
        exact ⟨by rw [← hfin.out]; rfl, HF.out⟩

def markedT (n : Nat) (q : Int) : List Tst := (List.range n).map fun j : Nat => (markS (q + 3 * (j : Int)), markS (q + 3 * (j : Int) + 1), markS (q + 3 * (j : Int) + 1 + 1))
theorem markedT_length (n : Nat) (q : Int) : (markedT n q).length = n := by simp [markedT]
theorem markedT_succ (n : Nat) (q : Int) : markedT (n + 1) q = markedT n q ++ [(markS (q + 3 * (n : Int)), markS (q + 3 * (n : Int) + 1), markS (q + 3 * (n : Int) + 1 + 1))] := by simp [markedT, List.range_succ]
theorem markedT_getD (n : Nat) (q : Int) (j : Nat) (h : j < n) : (markedT n q).getD j noTest = (markS (q + 3 * (j : Int)), markS (q + 3 * (j : Int) + 1), markS (q + 3 * (j : Int) + 1 + 1)) := by simp [markedT, List.getD_eq_getElem?_getD, h]
theorem drop_getD {α : Type} (xs : List α) (d : α) (k : Nat) (h : k < xs.length) : xs.drop k = xs.getD k d :: xs.drop (k + 1) := by
  rw [List.drop_eq_getElem_cons h]; simp [List.getD_eq_getElem?_getD, h]
theorem set3a (A C : List Value) (x y z a : Value) (n : Nat) (hn : n = A.length) : (A ++ ([x, y, z] ++ C)).set n a = A ++ ([a, y, z] ++ C) := by
  subst hn; simp [List.set_append_right]
theorem set3b (A C : List Value) (x y z a : Value) (n : Nat) (hn : n = A.length + 1) : (A ++ ([x, y, z] ++ C)).set n a = A ++ ([x, a, z] ++ C) := by
  subst hn; simp [List.set_append_right]
theorem set3c (A C : List Value) (x y z a : Value) (n : Nat) (hn : n = A.length + 2) : (A ++ ([x, y, z] ++ C)).set n a = A ++ ([x, y, a] ++ C) := by
  subst hn; simp [List.set_append_right]

end Go.Proofs.YtdngnmpmaacapaaGreatDoor
