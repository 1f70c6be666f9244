/-
  Deeds: contract of markDeedS.
-/
import Derived.Test.YtcfbdjdbmjdjnaaDoorDeedB
namespace Go.Proofs.YtcfbdjdbmjdjnaaDoor
open Go.RowKit

def markD (q : Int) : Dd := (q % 3 == 0, markS (q + 1), markS (q + 1 + 1), markS (q + 1 + 1 + 1))
def markedD (n : Nat) (q : Int) : List Dd := (List.range n).map fun j : Nat => markD (q + 4 * (j : Int))
theorem markedD_length (n : Nat) (q : Int) : (markedD n q).length = n := by simp [markedD]
theorem markedD_succ (n : Nat) (q : Int) : markedD (n + 1) q = markedD n q ++ [markD (q + 4 * (n : Int))] := by simp [markedD, List.range_succ]
theorem markedD_getD (n : Nat) (q : Int) (j : Nat) (h : j < n) : (markedD n q).getD j noDeed = markD (q + 4 * (j : Int)) := by simp [markedD, List.getD_eq_getElem?_getD, h]
theorem set4a (A C : List Value) (x y z u a : Value) (n : Nat) (hn : n = A.length) : (A ++ ([x, y, z, u] ++ C)).set n a = A ++ ([a, y, z, u] ++ C) := by
  subst hn; simp [List.set_append_right]
theorem set4b (A C : List Value) (x y z u a : Value) (n : Nat) (hn : n = A.length + 1) : (A ++ ([x, y, z, u] ++ C)).set n a = A ++ ([x, a, z, u] ++ C) := by
  subst hn; simp [List.set_append_right]
theorem set4c (A C : List Value) (x y z u a : Value) (n : Nat) (hn : n = A.length + 2) : (A ++ ([x, y, z, u] ++ C)).set n a = A ++ ([x, y, a, u] ++ C) := by
  subst hn; simp [List.set_append_right]
theorem set4d (A C : List Value) (x y z u a : Value) (n : Nat) (hn : n = A.length + 3) : (A ++ ([x, y, z, u] ++ C)).set n a = A ++ ([x, y, z, a] ++ C) := by
  subst hn; simp [List.set_append_right]

set_option maxHeartbeats 1000000 in
theorem markDeedS_any (a : Option Addr) (cap : Nat) (xs : List Dd) (q : Int) (w : World) (base : Nat) (ho : Own w base 25 4 (.slice a xs.length cap) xs.length (deeds xs)) (hn : xs.length ≤ 1048576) (hq : 0 ≤ q) (hq2 : q ≤ 549755813888) :
    Calls Tryd.prog 14 #[.slice a xs.length cap, .int .i64 q] w fun e w' => e = .returned (.int .i64 (q + 4 * (xs.length : Int))) ∧ Own w' base 25 4 (.slice a xs.length cap) xs.length (deeds (markedD xs.length q)) ∧ Fr w.heap.size (Value.slice a xs.length cap).ownBlock w w' := by
  have HO := Lib.hid ho; clear ho
  go_enter Tryd.func14, Tryd.ntmps14
  go_wp2
  go_loopw [1, 5] (fun c i wr => ∃ k : Nat, k ≤ xs.length ∧ i = .int .i64 k ∧ c = .int .i64 (q + 4 * (k : Int)) ∧ Own wr base 25 4 (.slice a xs.length cap) xs.length (deeds (markedD k q ++ xs.drop k)) ∧ Fr w.heap.size (Value.slice a xs.length cap).ownBlock w wr) (fun _ i _ => xs.length - (intOf i).toNat)
  case atStart => exact ⟨0, Nat.zero_le _, rfl, by go_num, by simpa [markedD] using HO.out, Fr.refl _ _ _⟩
  case round =>
    obtain ⟨k, hk, rfl, rfl, ho, hF⟩ := hrel
    have HF := Lib.hid hF; clear hF
    by_cases hlt : k < xs.length
    · obtain ⟨g, rfl⟩ : ∃ g, a = some ⟨g, 0, none⟩ := by
        rcases ho.2 with ⟨h', h0⟩ | ⟨g, cap', cur, h', _⟩
        · omega
        · simp only [Value.slice.injEq] at h'; exact ⟨g, h'.1⟩
      have hA : Hid ((deeds (markedD k q)).length = k * 4) := by rw [deeds_length, markedD_length]; rfl
      have ho2 : Hid (Own wr base 25 4 (.slice (some ⟨g, 0, none⟩) xs.length cap) xs.length (deeds (markedD k q) ++ ([.bool (xs.getD k noDeed).1, .string (xs.getD k noDeed).2.1, .string (xs.getD k noDeed).2.2.1, .string (xs.getD k noDeed).2.2.2] ++ deeds (xs.drop (k + 1))))) := by
        rw [drop_getD xs noDeed k hlt, deeds, rows_append] at ho; exact ho
      have hms := Lib.hid (markedD_succ k q)
      clear ho
      generalize xs.getD k noDeed = x at *
      obtain ⟨x0, x1, x2, x3⟩ := x
      obtain ⟨⟨g1, g2, g3, g4⟩, f1, f2, f3, f4⟩ := ownO_get4 k hA.out ho2.out
      have o3 := ho2.out.stored (k * 4) (.bool ((q + 4 * (k : Int)) % 3 == 0))
      rw [set4a _ _ _ _ _ _ _ _ hA.out.symm] at o3
      have O3 := Lib.hid o3; clear o3
      have F3 := Lib.hid (HF.out.setCell (p := ⟨g, k * 4, none⟩) (.inr rfl) (.bool ((q + 4 * (k : Int)) % 3 == 0)))
      go_wp2_with fail
      clear g1 g2 g3 g4 f1 f2 f3 f4
      refine (markText_any (q + 4 * (k : Int) + 1) (by omega) (by omega) _).mono ?_; rintro e w4 ⟨rfl, hF4⟩
      have O4 := Lib.hid (Own.keep O3.out hF4)
      have F4 := Lib.hid (F3.out.next hF4 F3.out.size)
      clear hF4
      obtain ⟨⟨g1, g2, g3, g4⟩, f1, f2, f3, f4⟩ := ownO_get4 k hA.out O4.out
      have o5 := O4.out.stored (k * 4 + 1) (.string (markS (q + 4 * (k : Int) + 1)))
      rw [set4b _ _ _ _ _ _ _ _ (by rw [hA.out])] at o5
      have O5 := Lib.hid o5; clear o5
      have F5 := Lib.hid (F4.out.setCell (p := ⟨g, k * 4 + 1, none⟩) (.inr rfl) (.string (markS (q + 4 * (k : Int) + 1))))
      go_wp2_with fail
      clear g1 g2 g3 g4 f1 f2 f3 f4
      refine (markText_any (q + 4 * (k : Int) + 1 + 1) (by omega) (by omega) _).mono ?_; rintro e w6 ⟨rfl, hF6⟩
      have O6 := Lib.hid (Own.keep O5.out hF6)
      have F6 := Lib.hid (F5.out.next hF6 F5.out.size)
      clear hF6
      obtain ⟨⟨g1, g2, g3, g4⟩, f1, f2, f3, f4⟩ := ownO_get4 k hA.out O6.out
      have o7 := O6.out.stored (k * 4 + 2) (.string (markS (q + 4 * (k : Int) + 1 + 1)))
      rw [set4c _ _ _ _ _ _ _ _ (by rw [hA.out])] at o7
      have O7 := Lib.hid o7; clear o7
      have F7 := Lib.hid (F6.out.setCell (p := ⟨g, k * 4 + 2, none⟩) (.inr rfl) (.string (markS (q + 4 * (k : Int) + 1 + 1))))
      go_wp2_with fail
      clear g1 g2 g3 g4 f1 f2 f3 f4
      refine (markText_any (q + 4 * (k : Int) + 1 + 1 + 1) (by omega) (by omega) _).mono ?_; rintro e w8 ⟨rfl, hF8⟩
      have O8 := Lib.hid (Own.keep O7.out hF8)
      have F8 := Lib.hid (F7.out.next hF8 F7.out.size)
      clear hF8
      obtain ⟨⟨g1, g2, g3, g4⟩, f1, f2, f3, f4⟩ := ownO_get4 k hA.out O8.out
      have o9 := O8.out.stored (k * 4 + 3) (.string (markS (q + 4 * (k : Int) + 1 + 1 + 1)))
      rw [set4d _ _ _ _ _ _ _ _ (by rw [hA.out])] at o9
      have O9 : Hid (Own (w8.setCell ⟨g, k * 4 + 3, none⟩ (.string (markS (q + 4 * (k : Int) + 1 + 1 + 1)))) base 25 4 (.slice (some ⟨g, 0, none⟩) xs.length cap) xs.length (deeds (markedD (k + 1) q ++ xs.drop (k + 1)))) := by
        rw [hms.out, deeds, rows_append, rows_append, rows_one, List.append_assoc]; exact o9
      clear o9
      have F9 := Lib.hid (F8.out.setCell (p := ⟨g, k * 4 + 3, none⟩) (.inr rfl) (.string (markS (q + 4 * (k : Int) + 1 + 1 + 1))))
      go_wp2
      go_roundw
      case rel => exact ⟨k + 1, by omega, by go_num, by go_num, O9.out, F9.out⟩
      case measure => simp [intOf]; omega
    · have hkk : k = xs.length := by omega
      have HO' : Hid (Own wr base 25 4 (.slice a xs.length cap) xs.length (deeds (markedD xs.length q))) := by
        rw [hkk, List.drop_length, List.append_nil] at ho; exact ho
      have hq' := Lib.hid (show q + 4 * (k : Int) = q + 4 * (xs.length : Int) by omega)
      clear hkk ho
      go_wp2
      go_ret
      exact ⟨ret_int hq'.out, HO'.out, HF.out⟩
end Go.Proofs.YtcfbdjdbmjdjnaaDoor
