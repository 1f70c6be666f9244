/-
  Exercises: contract of markTestS.
-/
import Derived.Test.YtcfbdjdbmjdjnaaTestC
namespace Go.Proofs.Ytcfbdjdbmjdjnaa
open Go.RowKit

set_option maxHeartbeats 1000000 in
theorem markTestS_any (a : Option Addr) (cap : Nat) (xs : List Tst) (q : Int) (w : World) (base : Nat) (ho : Own w base 28 3 (.slice a xs.length cap) xs.length (tests xs)) (hn : xs.length ≤ 1048576) (hq : 0 ≤ q) (hq2 : q ≤ 549755813888) :
    Calls Try.prog 28 #[.slice a xs.length cap, .int .i64 q] w fun e w' => e = .returned (.int .i64 (q + 3 * (xs.length : Int))) ∧ Own w' base 28 3 (.slice a xs.length cap) xs.length (tests (markedT xs.length q)) ∧ Fr w.heap.size (Value.slice a xs.length cap).ownBlock w w' := by
  have HO := Lib.hid ho; clear ho
  go_enter Try.func28, Try.ntmps28
  go_wp2
  go_loopw [1, 5] (fun c i wr => ∃ k : Nat, k ≤ xs.length ∧ i = .int .i64 k ∧ c = .int .i64 (q + 3 * (k : Int)) ∧ Own wr base 28 3 (.slice a xs.length cap) xs.length (tests (markedT k q ++ xs.drop k)) ∧ Fr w.heap.size (Value.slice a xs.length cap).ownBlock w wr) (fun _ i _ => xs.length - (intOf i).toNat)
  case atStart => exact ⟨0, Nat.zero_le _, rfl, by go_num, by simpa [markedT] using HO.out, Fr.refl _ _ _⟩
  case round =>
    obtain ⟨k, hk, rfl, rfl, ho, hF⟩ := hrel
    have HF := Lib.hid hF; clear hF
    by_cases hlt : k < xs.length
    · obtain ⟨g, rfl⟩ : ∃ g, a = some ⟨g, 0, none⟩ := by
        rcases ho.2 with ⟨h', h0⟩ | ⟨g, cap', cur, h', _⟩
        · omega
        · simp only [Value.slice.injEq] at h'; exact ⟨g, h'.1⟩
      have hA : Hid ((tests (markedT k q)).length = k * 3) := by rw [tests_length, markedT_length]; rfl
      have ho2 : Hid (Own wr base 28 3 (.slice (some ⟨g, 0, none⟩) xs.length cap) xs.length (tests (markedT k q) ++ ([.string (xs.getD k noTest).1, .string (xs.getD k noTest).2.1, .string (xs.getD k noTest).2.2] ++ tests (xs.drop (k + 1))))) := by
        rw [drop_getD xs noTest k hlt, tests, rows_append] at ho; exact ho
      have hms := Lib.hid (markedT_succ k q)
      have hz0 := HF.out.size
      clear ho
      generalize xs.getD k noTest = x at *
      obtain ⟨x1, x2, x3⟩ := x
      go_wp2_with fail
      refine (markText_any (q + 3 * (k : Int)) (by omega) (by omega) _).mono ?_; rintro e w2 ⟨rfl, hF2⟩
      have O2 := Lib.hid (Own.keep ho2.out hF2)
      have F2 := Lib.hid (HF.out.next hF2 HF.out.size)
      clear hF2
      obtain ⟨⟨g1, g2, g3⟩, f1, f2, f3⟩ := ownO_get3 k hA.out O2.out
      have o3 := O2.out.stored (k * 3) (.string (markS (q + 3 * (k : Int))))
      rw [set3a _ _ _ _ _ _ _ hA.out.symm] at o3
      have O3 := Lib.hid o3; clear o3
      have F3 := Lib.hid (F2.out.setCell (p := ⟨g, k * 3, none⟩) (.inr rfl) (.string (markS (q + 3 * (k : Int)))))
      go_wp2_with fail
      clear g1 g2 g3 f1 f2 f3
      refine (markText_any (q + 3 * (k : Int) + 1) (by omega) (by omega) _).mono ?_; rintro e w4 ⟨rfl, hF4⟩
      have O4 := Lib.hid (Own.keep O3.out hF4)
      have F4 := Lib.hid (F3.out.next hF4 F3.out.size)
      clear hF4
      obtain ⟨⟨g1, g2, g3⟩, f1, f2, f3⟩ := ownO_get3 k hA.out O4.out
      have o5 := O4.out.stored (k * 3 + 1) (.string (markS (q + 3 * (k : Int) + 1)))
      rw [set3b _ _ _ _ _ _ _ (by rw [hA.out])] at o5
      have O5 := Lib.hid o5; clear o5
      have F5 := Lib.hid (F4.out.setCell (p := ⟨g, k * 3 + 1, none⟩) (.inr rfl) (.string (markS (q + 3 * (k : Int) + 1))))
      go_wp2_with fail
      clear g1 g2 g3 f1 f2 f3
      refine (markText_any (q + 3 * (k : Int) + 1 + 1) (by omega) (by omega) _).mono ?_; rintro e w6 ⟨rfl, hF6⟩
      have O6 := Lib.hid (Own.keep O5.out hF6)
      have F6 := Lib.hid (F5.out.next hF6 F5.out.size)
      clear hF6
      obtain ⟨⟨g1, g2, g3⟩, f1, f2, f3⟩ := ownO_get3 k hA.out O6.out
      have o7 := O6.out.stored (k * 3 + 2) (.string (markS (q + 3 * (k : Int) + 1 + 1)))
      rw [set3c _ _ _ _ _ _ _ (by rw [hA.out])] at o7
      have O7 : Hid (Own (w6.setCell ⟨g, k * 3 + 2, none⟩ (.string (markS (q + 3 * (k : Int) + 1 + 1)))) base 28 3 (.slice (some ⟨g, 0, none⟩) xs.length cap) xs.length (tests (markedT (k + 1) q ++ xs.drop (k + 1)))) := by
        rw [hms.out, tests, rows_append, rows_append, rows_one, List.append_assoc]; exact o7
      clear o7
      have F7 := Lib.hid (F6.out.setCell (p := ⟨g, k * 3 + 2, none⟩) (.inr rfl) (.string (markS (q + 3 * (k : Int) + 1 + 1))))
      go_wp2
      go_roundw
      case rel => exact ⟨k + 1, by omega, by go_num, by go_num, O7.out, F7.out⟩
      case measure => simp [intOf]; omega
    · have hkk : k = xs.length := by omega
      have HO' : Hid (Own wr base 28 3 (.slice a xs.length cap) xs.length (tests (markedT xs.length q))) := by
        rw [hkk, List.drop_length, List.append_nil] at ho; exact ho
      have hq' := Lib.hid (show q + 3 * (k : Int) = q + 3 * (xs.length : Int) by omega)
      clear hkk ho
      go_wp2
      go_ret
      exact ⟨ret_int hq'.out, HO'.out, HF.out⟩

end Go.Proofs.Ytcfbdjdbmjdjnaa
