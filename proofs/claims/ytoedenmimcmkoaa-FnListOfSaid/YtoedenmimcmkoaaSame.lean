/-
  Contracts of the statements' own helpers: sameInts, sumOf.
-/
import Derived.Test.YtoedenmimcmkoaaInts
namespace Go.Proofs.Ytoedenmimcmkoaa
open Go.RowKit
theorem sameInts_any (a b : Option Addr) (ca cb : Nat) (xs : List Int) (w : World) (ha : Sl w a (ints xs)) (hb : Sl w b (ints xs)) (hn : xs.length ≤ 1048576) :
    Calls Try.prog 14 #[.slice a xs.length ca, .slice b xs.length cb] w fun e w' => e = .returned (.bool true) ∧ Fr w.heap.size none w w' := by
  have HA := Lib.hid ha; have HB := Lib.hid hb; clear ha hb
  go_enter Try.func14, Try.ntmps14
  go_wp2
  go_loopw [5] (fun i wr => ∃ k : Nat, k ≤ xs.length ∧ i = .int .i64 k ∧ ∃ m, wr = w.drewN m) (fun i _ => xs.length - (intOf i).toNat)
  case atStart => exact ⟨0, Nat.zero_le _, rfl, 0, rfl⟩
  case round =>
    obtain ⟨k, hk, rfl, m, rfl⟩ := hrel
    by_cases hlt : k < xs.length
    · obtain ⟨b1, off1, rfl, hc1⟩ := HA.out.int k hlt
      obtain ⟨b2, off2, rfl, hc2⟩ := HB.out.int k hlt
      generalize xs.getD k 0 = x at *
      have hlt' : (k : Int) < (xs.length : Int) := by omega
      go_wp2
      go_quiet (fail)
      go_wp2
      go_roundw
      case rel => exact ⟨k + 1, by omega, by go_num, _, rfl⟩
      case measure => simp [intOf]; omega
    · go_wp2
      go_ret
      exact ⟨rfl, (Fr.refl _ _ w).drewN m⟩


def isum (xs : List Int) : Int := xs.foldr (· + ·) 0
theorem isum_append (xs ys : List Int) : isum (xs ++ ys) = isum xs + isum ys := by
  induction xs with
  | nil => simp [isum]
  | cons x xs ih => simp only [isum, List.cons_append, List.foldr_cons] at *; omega
theorem isum_take (xs : List Int) (k : Nat) (h : k < xs.length) : isum (xs.take (k + 1)) = isum (xs.take k) + xs.getD k 0 := by
  rw [List.take_succ_eq_append_getElem h, isum_append]; simp [isum, List.getD_eq_getElem?_getD, h]
theorem isum_bdG {c : Int} (xs : List Int) (h : ∀ n ∈ xs, 0 ≤ n ∧ n ≤ c) : 0 ≤ isum xs ∧ isum xs ≤ c * xs.length := by
  induction xs with
  | nil => simp [isum]
  | cons x xs ih =>
    have h1 := h x (by simp)
    have h2 := ih (fun n hn => h n (by simp [hn]))
    simp only [isum, List.foldr_cons, List.length_cons] at *
    rw [Int.natCast_add, Int.mul_add]
    omega
theorem isum_bd (xs : List Int) (h : ∀ n ∈ xs, 0 ≤ n ∧ n ≤ 100) : 0 ≤ isum xs ∧ isum xs ≤ 100 * xs.length := isum_bdG xs h

theorem sumOf_any (a : Option Addr) (cap : Nat) (xs : List Int) (w : World) (hs : Sl w a (ints xs)) (hm : xs.length ≤ 1048576) (hin0 : ∀ n ∈ xs, 0 ≤ n ∧ n ≤ 1000000) :
    Calls Try.prog 22 #[.slice a xs.length cap] w fun e w' => e = .returned (.int .i64 (isum xs)) ∧ w = w' := by
  have HS := Lib.hid hs; clear hs
  have hin := Lib.hid hin0; clear hin0
  go_enter Try.func22, Try.ntmps22
  go_wp2
  go_loop [3, 4] (fun s i => ∃ k : Nat, k ≤ xs.length ∧ i = .int .i64 k ∧ s = .int .i64 (isum (xs.take k))) (fun _ i => xs.length - (intOf i).toNat)
  case atStart => exact ⟨0, Nat.zero_le _, rfl, rfl⟩
  case round =>
    obtain ⟨k, hk, rfl, rfl⟩ := hrel
    obtain ⟨hc0, hc1⟩ := isum_bdG (xs.take k) (fun n hn => hin.out n (List.mem_of_mem_take hn))
    have hlk : (xs.take k).length ≤ k := List.length_take_le _ _
    by_cases hlt : k < xs.length
    · obtain ⟨b, off, rfl, hcell⟩ := HS.out.int k hlt
      have hst := Lib.hid (isum_take xs k hlt)
      have hx := hin.out (xs.getD k 0) (by simp [List.getD_eq_getElem?_getD, hlt])
      generalize xs.getD k 0 = x at *
      obtain ⟨hx0, hx1⟩ := hx
      go_wp2
      go_round
      case rel => exact ⟨k + 1, by omega, by go_num, by rw [hst.out]⟩
      case measure => simp [intOf]; omega
    · have hkk : k = xs.length := by omega
      have hst := Lib.hid (show isum (xs.take k) = isum xs by rw [hkk, List.take_length])
      clear hkk
      go_wp2
      go_ret
      exact ⟨ret_int (by rw [hst.out]), rfl⟩
end Go.Proofs.Ytoedenmimcmkoaa
