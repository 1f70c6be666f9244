/-
  Contracts of the statements' own helpers: hasInt, ascend.
-/
import Derived.Test.YtoedenmimcmkoaaCardsA
import Derived.Test.YtoedenmimcmkoaaInts
namespace Go.Proofs.Ytoedenmimcmkoaa
open Go.RowKit

theorem hasInt_any (a : Option Addr) (cap : Nat) (xs : List Int) (n : Int) (w : World) (hs : Sl w a (ints xs)) (hm : xs.length ≤ 1048576) :
    Calls Try.prog 17 #[.slice a xs.length cap, .int .i64 n] w fun e w' => e = .returned (.bool (decide (n ∈ xs))) ∧ w = w' := by
  have HS := Lib.hid hs; clear hs
  go_enter Try.func17, Try.ntmps17
  go_wp2
  go_loop [5] (fun i => ∃ k : Nat, k ≤ xs.length ∧ i = .int .i64 k ∧ Hid ((xs.take k).contains n = false)) (fun i => xs.length - (intOf i).toNat)
  case atStart => exact ⟨0, Nat.zero_le _, rfl, rfl⟩
  case round =>
    obtain ⟨k, hk, rfl, hno⟩ := hrel
    by_cases hlt : k < xs.length
    · obtain ⟨b, off, rfl, hcell⟩ := HS.out.int k hlt
      by_cases hx : xs.getD k 0 = n
      · have hst := Lib.hid (show true = xs.contains n by
          symm; rw [List.contains_iff_mem, ← hx]; simp [List.getD_eq_getElem?_getD, hlt])
        have hx' : (xs.getD k 0 == n) = true := by simpa using hx
        clear hx
        generalize xs.getD k 0 = x at *
        go_wp2
        go_ret
        exact ⟨ret_bool (by rw [← List.contains_eq_mem]; exact hst.out), rfl⟩
      · have hst := Lib.hid (show (xs.take (k + 1)).contains n = false by
          rw [List.take_succ_eq_append_getElem hlt]
          have h1 := hno.out
          have h2 : xs[k] = xs.getD k 0 := by simp [List.getD_eq_getElem?_getD, hlt]
          rw [h2]
          simp only [List.contains_eq_mem, List.mem_append, List.mem_singleton, decide_eq_false_iff_not] at h1 ⊢
          rintro (h | h)
          · exact h1 h
          · exact hx h.symm)
        have hx' : (xs.getD k 0 == n) = false := by simpa using hx
        clear hx
        generalize xs.getD k 0 = x at *
        go_wp2
        go_round
        case rel => exact ⟨k + 1, by omega, by go_num, hst⟩
        case measure => simp [intOf]; omega
    · have hkk : k = xs.length := by omega
      have hst := Lib.hid (show false = xs.contains n by have := hno.out; rw [hkk, List.take_length] at this; exact this.symm)
      clear hkk
      go_wp2
      go_ret
      exact ⟨ret_bool (by rw [← List.contains_eq_mem]; exact hst.out), rfl⟩
theorem has_val {a : Option Addr} {cap : Nat} {xs : List Int} {n : Int} {w : World} {b : Bool} (hs : Sl w a (ints xs)) (hm : xs.length ≤ 1048576) (h : decide (n ∈ xs) = b) :
    Calls Try.prog 17 #[.slice a xs.length cap, .int .i64 n] w fun e w' => e = .returned (.bool b) ∧ w = w' := h ▸ hasInt_any a cap xs n w hs hm

theorem sameCards_any (a b : Option Addr) (ca cb : Nat) (xs : List (Int × Int)) (w : World) (ha : Sl w a (cards xs)) (hb : Sl w b (cards xs)) (hn : xs.length ≤ 1048576) :
    Calls Try.prog 26 #[.slice a xs.length ca, .slice b xs.length cb] w fun e w' => e = .returned (.bool true) ∧ Fr w.heap.size none w w' := by
  have HA := Lib.hid ha; have HB := Lib.hid hb; clear ha hb
  go_enter Try.func26, Try.ntmps26
  go_wp2
  go_loopw [5] (fun i wr => ∃ k : Nat, k ≤ xs.length ∧ i = .int .i64 k ∧ ∃ m, wr = w.drewN m) (fun i _ => xs.length - (intOf i).toNat)
  case atStart => exact ⟨0, Nat.zero_le _, rfl, 0, rfl⟩
  case round =>
    obtain ⟨k, hk, rfl, m, rfl⟩ := hrel
    by_cases hlt : k < xs.length
    · obtain ⟨b1, off1, rfl, hc1, hc2, hc3⟩ := HA.out.card k hlt
      obtain ⟨b2, off2, rfl, hd1, hd2, hd3⟩ := HB.out.card k hlt
      generalize xs.getD k (0, 0) = x at *
      obtain ⟨xa, xb⟩ := x
      have hlt' : (k : Int) < (xs.length : Int) := by omega
      go_wp2
      go_quiet (fail)
      go_wp2
      go_roundw
      case rel => exact ⟨k + 1, by omega, by go_num, _, rfl⟩
      case measure => simp [intOf]; omega
    · go_wp2
      go_ret
      exact ⟨rfl, (Fr.refl _ _ w).drewN m⟩

/-- The numbers rise. -/
def ascB (xs : List Int) (k : Nat) : Bool := allTo (fun j => decide (j = 0) || decide (xs.getD (j - 1) 0 < xs.getD j 0)) k
end Go.Proofs.Ytoedenmimcmkoaa
