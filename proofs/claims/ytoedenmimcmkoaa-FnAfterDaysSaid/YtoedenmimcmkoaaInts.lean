/-
  Contracts of the statements' own helpers on lists of numbers: toIntS, eqIntS, markIntS, heldIntS.
-/
import Derived.Test.YtoedenmimcmkoaaBase
import Derived.Test.YtoedenmimcmkoaaProg
import Derived.KernelRfl
namespace Go.Proofs.Ytoedenmimcmkoaa
open Go.RowKit

theorem infoInt : (Try.prog.info? 3).map (fun i => (i.zero, i.size, i.bytes)) = some (some (.int .i64 0), 1, 8) := by kernel_rfl

theorem mkInts (f : Nat → Value) (n : Nat) (hn : n ≤ 2097152) (w : World) :
    ∃ w1, (Instr.makeSlice 23 (.int .i64 (n : Int)) (.int .i64 (n : Int))).run Try.prog w = .ok (.slice (some ⟨w.heap.size, 0, none⟩) n n) w1 ∧
      w1.ownsRow w.heap.size 3 1 (.slice (some ⟨w.heap.size, 0, none⟩) n n) n (fillV f (.int .i64 0) n 0) ∧ Fr w.heap.size none w w1 := by
  obtain ⟨i0, hi, hz0, hz1, hz2⟩ := info_parts infoInt
  obtain ⟨w1, hr, ho, hg⟩ := run_make_full (P := Try.prog) w w.heap.size 23 3 i0 (.int .i64 0) 1 Try.underlying23 hi hz0 hz1 .i64 .i64 n (by rw [hz2]; omega) (by simp [maxLen]; omega) (Nat.le_refl _)
  refine ⟨w1, hr, ?_, (Fr.refl _ _ w).grown hg (Nat.le_refl _) (by simp)⟩
  rw [fillV_zero]; have := ho; simp only [Nat.mul_one, Value.cells, toList_madeCells_one] at this; exact this

theorem toIntS_any (a : Option Addr) (cap : Nat) (xs : List Int) (w : World) (hs : Sl w a (ints xs)) (hn : xs.length ≤ 1048576) :
    Calls Try.prog 29 #[.slice a xs.length cap] w fun e w' => ∃ g, e = .returned (.slice (some ⟨g, 0, none⟩) xs.length xs.length) ∧ w'.ownsRow w.heap.size 3 1 (.slice (some ⟨g, 0, none⟩) xs.length xs.length) xs.length (ints xs) ∧ Fr w.heap.size none w w' := by
  obtain ⟨w1, hr, ho1, HF⟩ := mkInts (fun j => .int .i64 (xs.getD j 0)) xs.length (by omega) w
  have HO := Lib.hid ho1; clear ho1
  have HS := Lib.hid hs; clear hs
  go_enter Try.func29, Try.ntmps29
  go_wp2
  clear hr
  go_loopw [4] (fun i wr => ∃ k : Nat, k ≤ xs.length ∧ i = .int .i64 k ∧ wr.ownsRow w.heap.size 3 1 (.slice (some ⟨w.heap.size, 0, none⟩) xs.length xs.length) xs.length (fillV (fun j => .int .i64 (xs.getD j 0)) (.int .i64 0) xs.length k) ∧ Fr w.heap.size none w wr) (fun i _ => xs.length - (intOf i).toNat)
  case atStart => exact ⟨0, Nat.zero_le _, rfl, HO.out, HF⟩
  case round =>
    obtain ⟨k, hk, rfl, ho, hF⟩ := hrel
    by_cases hlt : k < xs.length
    · obtain ⟨b, off, rfl, hcell⟩ := (HS.out.fr hF).int k hlt
      have hc2 : ∃ v, wr.cell? ⟨w.heap.size, k, none⟩ = some v := by
        rw [ho.cellAt k (by omega), List.getElem?_eq_getElem (by rw [fillV_length]; exact hlt)]; exact ⟨_, rfl⟩
      obtain ⟨v0, hc2⟩ := hc2
      have hf2 := ho.frozenAt k
      have hst := ho.stored k (.int .i64 (xs.getD k 0))
      rw [fillV_set (fun j => .int .i64 (xs.getD j 0))] at hst
      have HST := Lib.hid hst; clear hst ho
      have hF' := (hF.setCell (p := ⟨w.heap.size, k, none⟩) (.inl (Nat.le_refl _)) (.int .i64 (xs.getD k 0)))
      have HF' := Lib.hid hF'; clear hF hF'
      generalize xs.getD k 0 = x at *
      go_wp2
      go_roundw
      case rel => exact ⟨k + 1, by omega, by go_num, HST.out.1, HF'.out⟩
      case measure => simp [intOf]; omega
    · have hkk : k = xs.length := by omega
      have ho' : wr.ownsRow w.heap.size 3 1 (.slice (some ⟨w.heap.size, 0, none⟩) xs.length xs.length) xs.length (ints xs) := by
        rw [hkk, fillV_full, range_ints] at ho; exact ho
      have HO' := Lib.hid ho'
      clear hkk ho ho'
      go_wp2
      go_ret
      exact ⟨_, rfl, HO'.out, hF⟩

theorem eqIntS_any (a b : Option Addr) (ca cb : Nat) (xs : List Int) (w : World) (ha : Sl w a (ints xs)) (hb : Sl w b (ints xs)) (hn : xs.length ≤ 1048576) :
    Calls Try.prog 31 #[.slice a xs.length ca, .slice b xs.length cb] w fun e w' => e = .returned (.bool true) ∧ Fr w.heap.size none w w' := by
  have HA := Lib.hid ha; have HB := Lib.hid hb; clear ha hb
  go_enter Try.func31, Try.ntmps31
  go_wp2
  go_loopw [5] (fun i wr => ∃ k : Nat, k ≤ xs.length ∧ i = .int .i64 k ∧ ∃ m, wr = w.drewN m) (fun i _ => xs.length - (intOf i).toNat)
  case atStart => exact ⟨0, Nat.zero_le _, rfl, 0, rfl⟩
  case round =>
    obtain ⟨k, hk, rfl, m, rfl⟩ := hrel
    by_cases hlt : k < xs.length
    · obtain ⟨b1, off1, rfl, hc1⟩ := HA.out.int k hlt
      obtain ⟨b2, off2, rfl, hc2⟩ := HB.out.int k hlt
      generalize xs.getD k 0 = x at *
      have hlt' : (k : Int) < (xs.length : Int) := by omega
      go_wp2
      go_quiet (fail)
      go_wp2
      go_roundw
      case rel => exact ⟨k + 1, by omega, by go_num, _, rfl⟩
      case measure => simp [intOf]; omega
    · go_wp2
      go_ret
      exact ⟨rfl, (Fr.refl _ _ w).drewN m⟩

/-- What marking writes. -/
def markedI (n : Nat) (k : Int) : List Int := (List.range n).map fun j : Nat => k + (j : Int)
theorem markedI_length (n : Nat) (k : Int) : (markedI n k).length = n := by simp [markedI]
theorem markedI_getD (n : Nat) (k : Int) (j : Nat) (h : j < n) : (markedI n k).getD j 0 = k + j := by simp [markedI, List.getD_eq_getElem?_getD, h]

theorem markIntS_any (a : Option Addr) (cap : Nat) (xs : List Int) (q : Int) (w : World) (base : Nat) (ho : Own w base 3 1 (.slice a xs.length cap) xs.length (ints xs)) (hn : xs.length ≤ 1048576) (hq : 0 ≤ q) (hq2 : q ≤ 1099511627776) :
    Calls Try.prog 33 #[.slice a xs.length cap, .int .i64 q] w fun e w' => e = .returned (.int .i64 (q + xs.length)) ∧ Own w' base 3 1 (.slice a xs.length cap) xs.length (ints (markedI xs.length q)) ∧ Fr w.heap.size (Value.slice a xs.length cap).ownBlock w w' := by
  have HO := Lib.hid ho
  go_enter Try.func33, Try.ntmps33
  go_wp2
  go_loopw [1, 5] (fun c i wr => ∃ k : Nat, k ≤ xs.length ∧ i = .int .i64 k ∧ c = .int .i64 (q + k) ∧ Own wr base 3 1 (.slice a xs.length cap) xs.length (ints (markedI k q ++ xs.drop k)) ∧ Fr w.heap.size (Value.slice a xs.length cap).ownBlock w wr) (fun _ i _ => xs.length - (intOf i).toNat)
  case atStart => exact ⟨0, Nat.zero_le _, rfl, by go_num, by simpa [markedI] using HO.out, Fr.refl _ _ _⟩
  case round =>
    obtain ⟨k, hk, rfl, rfl, ho, hF⟩ := hrel
    by_cases hlt : k < xs.length
    · obtain ⟨g, rfl⟩ : ∃ g, a = some ⟨g, 0, none⟩ := by
        rcases ho.2 with ⟨h', h0⟩ | ⟨g, cap', cur, h', _⟩
        · omega
        · simp only [Value.slice.injEq] at h'; exact ⟨g, h'.1⟩
      have hc2 : ∃ v, wr.cell? ⟨g, k, none⟩ = some v := by
        rw [ho.cellAt k (by omega), List.getElem?_eq_getElem (by rw [ints_length]; simp [markedI]; omega)]; exact ⟨_, rfl⟩
      obtain ⟨v0, hc2⟩ := hc2
      have hf2 := ho.frozenAt k
      have hst := ho.stored k (.int .i64 (q + k))
      have e : (ints (markedI k q ++ xs.drop k)).set k (.int .i64 (q + k)) = ints (markedI (k+1) q ++ xs.drop (k+1)) := by
        apply List.ext_getElem?
        intro j
        simp only [ints, markedI, List.getElem?_set, List.getElem?_map, List.getElem?_append, List.length_map, List.length_range, List.length_append, List.length_drop, List.getElem?_drop]
        by_cases h1 : k = j
        · subst h1
          rw [if_pos rfl, if_pos (by omega), if_pos (by omega)]; simp
        · rw [if_neg h1]
          by_cases h2 : j < k
          · rw [if_pos h2, if_pos (by omega)]; simp [h2, show j < k + 1 by omega]
          · rw [if_neg h2, if_neg (by omega)]; congr 2; omega
      rw [e] at hst
      have HST := Lib.hid hst; clear hst ho e
      have HF' := Lib.hid (hF.setCell (p := ⟨g, k, none⟩) (.inr rfl) (.int .i64 (q + k)))
      clear hF
      go_wp2
      go_roundw
      case rel => exact ⟨k + 1, by omega, by go_num, by go_num, HST.out, HF'.out⟩
      case measure => simp [intOf]; omega
    · have hkk : k = xs.length := by omega
      have ho' : Own wr base 3 1 (.slice a xs.length cap) xs.length (ints (markedI xs.length q)) := by
        rw [hkk, List.drop_length, List.append_nil] at ho; exact ho
      have HO' := Lib.hid ho'
      have hq' := Lib.hid (show q + (k : Int) = q + xs.length by omega)
      clear hkk ho ho'
      go_wp2
      go_ret
      exact ⟨ret_int hq'.out, HO'.out, hF⟩

theorem heldIntS_any (a : Option Addr) (cap n : Nat) (q : Int) (w : World) (hs : Sl w a (ints (markedI n q))) (hn : n ≤ 1048576) (hq : 0 ≤ q) (hq2 : q ≤ 1099511627776) :
    Calls Try.prog 39 #[.slice a n cap, .int .i64 q] w fun e w' => e = .returned (.int .i64 (q + n)) ∧ Fr w.heap.size none w w' := by
  have HS := Lib.hid hs; clear hs
  go_enter Try.func39, Try.ntmps39
  go_wp2
  go_loop [1, 5] (fun c i => ∃ k : Nat, k ≤ n ∧ i = .int .i64 k ∧ c = .int .i64 (q + k)) (fun _ i => n - (intOf i).toNat)
  case atStart => exact ⟨0, Nat.zero_le _, rfl, by go_num⟩
  case round =>
    obtain ⟨k, hk, rfl, rfl⟩ := hrel
    by_cases hlt : k < n
    · obtain ⟨b, off, rfl, hc⟩ := HS.out.int k (by rw [markedI_length]; exact hlt)
      rw [markedI_getD n q k hlt] at hc
      go_wp2
      go_round
      case rel => exact ⟨k + 1, by omega, by go_num, by go_num⟩
      case measure => simp [intOf]; omega
    · have hq' := Lib.hid (show q + (k : Int) = q + n by omega)
      go_wp2
      go_ret
      exact ⟨ret_int hq'.out, Fr.refl _ _ _⟩
end Go.Proofs.Ytoedenmimcmkoaa
