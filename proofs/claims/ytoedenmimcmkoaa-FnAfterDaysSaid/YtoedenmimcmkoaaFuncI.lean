/-
  Contracts: slices.IndexFunc and slices.ContainsFunc on numbers.
-/
import Derived.Test.YtoedenmimcmkoaaCore
namespace Go.Proofs.Ytoedenmimcmkoaa
open Go.RowKit

theorem any_take_succ (p : Int → Bool) (xs : List Int) (k : Nat) (h : k < xs.length) : (xs.take (k+1)).any p = ((xs.take k).any p || p (xs.getD k 0)) := by
  rw [List.take_succ_eq_append_getElem h, List.any_append]; simp [List.getD_eq_getElem?_getD, h]
theorem any_of_take (p : Int → Bool) (xs : List Int) (k : Nat) (h : k < xs.length) (hp : p (xs.getD k 0) = true) : xs.any p = true := by
  rw [List.any_eq_true]; exact ⟨xs[k], List.getElem_mem h, by simpa [List.getD_eq_getElem?_getD, h] using hp⟩

theorem indexFuncI (g : FuncId) (p : Int → Bool) (eg : ∀ args w, (callFunc g args).run Try.prog w = .ok (.enter g args) w) (hg : ∀ x w, Calls Try.prog g #[.int .i64 x] w fun e w' => e = .returned (.bool (p x)) ∧ w = w')
    (a : Option Addr) (cap : Nat) (xs : List Int) (w : World) (hs : Sl w a (ints xs)) (hm : xs.length ≤ 1048576) :
    Calls Try.prog 77 #[.slice a xs.length cap, .func (.func g) #[] #[]] w fun e w' => ∃ r : Int, e = .returned (.int .i64 r) ∧ decide (0 ≤ r) = xs.any p ∧ w = w' := by
  have HC := Lib.hid hs; clear hs
  have HG := Lib.hid hg; clear hg
  go_enter Try.func77, Try.ntmps77
  go_wp2
  go_loop [8] (fun i => ∃ k : Nat, k ≤ xs.length ∧ i = .int .i64 k ∧ Hid ((xs.take k).any p = false)) (fun i => xs.length - (intOf i).toNat)
  case atStart => exact ⟨0, Nat.zero_le _, rfl, rfl⟩
  case round =>
    obtain ⟨k, hk, rfl, hT⟩ := hrel
    by_cases hlt : k < xs.length
    · obtain ⟨b, off, rfl, hcell⟩ := HC.out.int k hlt
      cases hb : p (xs.getD k 0)
      · have HB := Lib.hid hb; clear hb
        have hT' := Lib.hid (show (xs.take (k+1)).any p = false by rw [any_take_succ p xs k hlt, hT.out, HB.out]; rfl)
        generalize xs.getD k 0 = x at *
        go_wp2_with fail
        refine (HG.out x _).mono ?_
        rintro e w' ⟨rfl, rfl⟩
        rw [HB.out]
        go_wp2
        go_round
        case rel => exact ⟨k + 1, by omega, by go_num, hT'⟩
        case measure => simp [intOf]; omega
      · have HB := Lib.hid hb; clear hb
        have hT' := Lib.hid (show xs.any p = true from any_of_take p xs k hlt HB.out)
        generalize xs.getD k 0 = x at *
        go_wp2_with fail
        refine (HG.out x _).mono ?_
        rintro e w' ⟨rfl, rfl⟩
        rw [HB.out]
        go_wp2
        go_ret
        exact ⟨_, rfl, by rw [hT'.out]; simp, rfl⟩
    · have hkk : k = xs.length := by omega
      have hT' := Lib.hid (show xs.any p = false by have := hT.out; rw [hkk, List.take_length] at this; exact this)
      clear hkk
      go_wp2
      go_ret
      exact ⟨_, rfl, by rw [hT'.out]; decide, rfl⟩

theorem containsFuncI (g : FuncId) (p : Int → Bool) (eg : ∀ args w, (callFunc g args).run Try.prog w = .ok (.enter g args) w) (hg : ∀ x w, Calls Try.prog g #[.int .i64 x] w fun e w' => e = .returned (.bool (p x)) ∧ w = w')
    (a : Option Addr) (cap : Nat) (xs : List Int) (w : World) (hs : Sl w a (ints xs)) (hm : xs.length ≤ 1048576) :
    Calls Try.prog 50 #[.slice a xs.length cap, .func (.func g) #[] #[]] w fun e w' => e = .returned (.bool (xs.any p)) ∧ w = w' := by
  have HG := Lib.hid hg; clear hg
  have HS := Lib.hid hs; clear hs
  go_enter Try.func50, Try.ntmps50
  go_wp2_with fail
  refine (indexFuncI g p eg HG.out a cap xs w HS.out hm).mono ?_
  rintro e w' ⟨r, rfl, hr, rfl⟩
  have HR := Lib.hid hr; clear hr
  go_wp2
  go_ret
  exact ⟨ret_bool HR.out, rfl⟩

theorem any_not_all (p : Int → Bool) (xs : List Int) : (!xs.any fun n => !p n) = xs.all p := by
  rw [List.all_eq_not_any_not]

end Go.Proofs.Ytoedenmimcmkoaa
