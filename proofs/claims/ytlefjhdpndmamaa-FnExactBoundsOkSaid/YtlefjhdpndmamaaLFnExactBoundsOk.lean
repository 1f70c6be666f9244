/-
  For every list of numbers the law FnExactBoundsOk of the given program returns true, and the list reads as before. No condition.
-/
import Derived.Test.YtlefjhdpndmamaaLift
import Derived.Test.YtlefjhdpndmamaaInts
import Derived.Test.YtlefjhdpndmamaaMarksD
namespace Go.Proofs.Ytlefjhdpndmamaa.fnExactBoundsOk
open Go.ChangeShapes Go.WideShapes Go.ChangeAt Go.RowKit
theorem walk {w : World} (a : Option Addr) (cap : Nat) (xs : List Int) (hs : Sl w a (xs.map (Value.int .i64))) (hw : ∀ n ∈ xs, (Lit.int .i64 n).wf = true) :
    Calls Try.prog 4 #[.slice a xs.length cap] w fun e w' => e = .returned (.bool true) ∧ Fr w.heap.size none w w' := by
  clear hw
  have HS : Hid (Sl w a (ints xs)) := hs
  clear hs
  by_cases hn : xs.length ≤ 1048576
  · go_enter Try.func4, Try.ntmps4
    go_wp2_with fail
    refine (toIntS_any a cap xs _ HS.out hn).mono ?_; rintro e w1 ⟨g1, rfl, o1, F1⟩
    have O1 := Lib.hid o1; clear o1
    go_wp2_with fail
    refine (quietFr (specBoundsOk_any _ _ xs _ (own_sl O1.out) hn)).mono ?_; rintro e w1' ⟨rfl, F1'⟩
    go_wp2_with fail
    have F01 := F1.and F1'
    refine (toIntS_any a cap xs _ (HS.out.fr F01) hn).mono ?_; rintro e w2 ⟨g2, rfl, o2, F2⟩
    have O2 := Lib.hid o2; clear o2
    have F02 : Fr w.heap.size none w w2 := F01.and F2
    have S2 := Lib.hid (HS.out.fr F02)
    go_wp2_with fail
    refine (implBoundsOk_any _ _ xs _ (own_sl O2.out) hn).mono ?_; rintro e w2' ⟨rfl, rfl⟩
    go_wp2_with fail
    refine (toIntS_any a cap xs _ S2.out hn).mono ?_; rintro e w3 ⟨g3, rfl, o3, F3⟩
    have O3 := Lib.hid o3; clear o3
    have O2' := Lib.hid (own_keep O2.out F3)
    go_wp2_with fail
    refine (eqIntS_any _ _ _ _ xs _ (own_sl O2'.out) (own_sl O3.out) hn).mono ?_; rintro e w4 ⟨rfl, F4⟩
    go_wp2
    go_ret
    exact ⟨rfl, (F02.and F3).and F4⟩
  · have hl : (1048576 : Int) < xs.length := by omega
    go_enter Try.func4, Try.ntmps4
    go_wp2
    go_ret
    exact ⟨rfl, Fr.refl _ _ _⟩
set_option maxRecDepth 100000 in
theorem lifted (os : Os) (started : os.Started) (H : Type) (enc : TypeId × Value → H) :
    ReturnsInHanded {} Try.checked os 4 .any (Rows.fnExactBoundsOkSpec.pre6 enc Try.prog Try.f4 Rows.fnExactBoundsOkRow.domain false) (Rows.fnExactBoundsOkSpec.post enc Try.prog Try.f4 false true false false) := by
  refine returnsInHanded_of_change (C := Try.checked) own started (by kernel_rfl) Try.func4
    (ChangeSpec.witness6 (enc := enc) (C := Try.checked) false ⟨#[], #[.slice none 0 0], []⟩ 8 (by kernel_rfl) (by kernel_rfl) (by kernel_rfl) (by kernel_rfl)) ?_
  intro W base args ds gs before hval0 hW hcnd _
  have hval : ∀ (j : Nat) t v, Try.f4.params[j]? = some t → args[j]? = some v → Value.okWide Try.prog W .any base t v := hval0
  have hW' := hW
  obtain ⟨p, q, hA0, hV, rfl, hfz, hnd⟩ := hW
  have hA : DataW.TrodAll enc Try.prog W 0 (fun _ => true) true Try.f4.params.toList args.toList ds p := hA0
  rw [Try.params4] at hA hval
  obtain ⟨v0, vs0, d0, ds0, p0, q0, hargs, rfl, rfl, h0, r0⟩ := trodAll_cons hA
  obtain ⟨rfl, rfl, rfl⟩ := trodAll_nil r0
  obtain rfl : args = #[v0] := by cases args; simp_all
  obtain ⟨rfl, rfl⟩ := trodVars_none hV
  obtain ⟨a0, len0, cap0, rfl⟩ := okWide_slice Try.underlying24 (hval 0 24 v0 rfl rfl)
  have k0 := h0
  have lt0 : ∀ x ∈ p0, x.block < W.heap.size := by obtain ⟨m, hm⟩ := k0; exact DataW.trod_lt m _ _ _ hm
  obtain ⟨z0, hlen0, s0, wz0⟩ : ∃ xs : List Int, xs.length = len0 ∧ Sl W a0 (xs.map (Value.int .i64)) ∧ (∀ n ∈ xs, (Lit.int .i64 n).wf = true) := by
    obtain ⟨fuel, hf⟩ := h0
    rcases open_ints Try.underlying24 Try.underlying3 (by kernel_rfl) hf with ⟨hcs, _⟩ | ⟨x, l, c, zs, hcs, _, hl, hm, hz, _, hcell, hwz⟩
    · simp [Value.cells] at hcs
      obtain ⟨rfl, rfl, rfl⟩ := hcs
      exact rowNil .i64 W
    · simp [Value.cells] at hcs
      obtain ⟨rfl, rfl, rfl⟩ := hcs
      exact rowOf (by simpa using hz) hl hcell hwz
  subst hlen0
  refine (walk (w := W) a0 cap0 z0 s0 wz0).mono fun e W' ⟨he, fr⟩ => ?_
  subst he
  have bel := fr.below
  exact ⟨_, rfl, _, _, _, [], _, [], hW', trodAll_mk1 (shut_bool Try.underlying4 _), (trodAll_cons_mk (Below.trod laidOut (by kernel_rfl) (of_decide_eq_true (by kernel_rfl)) k0 bel lt0) trodAll_mk0), rfl, bel.frame _, fun h => by cases h⟩

theorem over : Rows.fnExactBoundsOkRow.holds Try.pinned (OpenSpec.ofChange Rows.fnExactBoundsOkSpec) :=
  OpenClaim.holds_of_wide 4 Try.f4 rfl rfl rfl rfl rfl rfl rfl ⟨rfl, rfl, rfl, rfl, rfl⟩ rfl rfl rfl rfl rfl (by kernel_rfl) Try.func4 (by kernel_rfl)
    (of_decide_eq_true (by kernel_rfl)) (by unfold Func.isWrapper; first | (rw [if_pos (by decide +kernel)]; kernel_rfl) | (rw [if_neg (by decide +kernel)]; exact ⟨rfl, rfl⟩))
    (fun os started H enc _ => lifted os started H enc)

theorem proved : Rows.FnExactBoundsOkSaid := over
#print axioms proved
end Go.Proofs.Ytlefjhdpndmamaa.fnExactBoundsOk
