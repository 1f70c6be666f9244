/-
  Contracts: sameTests and sameDeeds of two slices that read alike.
-/
import Derived.Test.YtdngnmpmaacapaaGreatDoorDeedB
namespace Go.Proofs.YtdngnmpmaacapaaGreatDoor
open Go.RowKit

set_option maxRecDepth 100000 in
theorem sameTests_any (a b : Option Addr) (ca cb : Nat) (xs : List Tst) (w : World) (ha : Sl w a (tests xs)) (hb : Sl w b (tests xs)) (hn : xs.length ≤ 1048576) :
    Calls Tryz.prog 11 #[.slice a xs.length ca, .slice b xs.length cb] w fun e w' => e = .returned (.bool true) ∧ Fr w.heap.size none w w' := by
  have HA := Lib.hid ha; have HB := Lib.hid hb; clear ha hb
  go_enter Tryz.func11, Tryz.ntmps11
  go_wp2
  go_loopw [5] (fun i wr => ∃ k : Nat, k ≤ xs.length ∧ i = .int .i64 k ∧ Fr w.heap.size none w wr) (fun i _ => xs.length - (intOf i).toNat)
  case atStart => exact ⟨0, Nat.zero_le _, rfl, Fr.refl _ _ _⟩
  case round =>
    obtain ⟨k, hk, rfl, hF⟩ := hrel
    have HF := Lib.hid hF; clear hF
    by_cases hlt : k < xs.length
    · obtain ⟨b1, off1, rfl, hc1, hc1', hc1'', hd1, hd1'⟩ := (HA.out.fr HF.out).test k hlt
      obtain ⟨b2, off2, rfl, hc2, hc2', hc2'', hd2, hd2'⟩ := (HB.out.fr HF.out).test k hlt
      generalize xs.getD k noTest = x at *
      obtain ⟨x1, x2, x3⟩ := x
      dsimp only at *
      have hlt' : (k : Int) < (xs.length : Int) := by omega
      have k0 : (0 : Int) ≤ (k : Int) := by omega
      go_wp2
      go_quiet (fail)
      go_wp2
      go_roundw
      case rel => exact ⟨k + 1, by omega, by go_num, by first | exact HF.out.drewN _ | exact HF.out.drew⟩
      case measure => simp [intOf]; omega
    · go_wp2
      go_ret
      exact ⟨rfl, HF.out⟩

set_option maxRecDepth 100000 in
theorem sameDeeds_any (a b : Option Addr) (ca cb : Nat) (xs : List Dd) (w : World) (ha : Sl w a (deeds xs)) (hb : Sl w b (deeds xs)) (hn : xs.length ≤ 1048576) :
    Calls Tryz.prog 32 #[.slice a xs.length ca, .slice b xs.length cb] w fun e w' => e = .returned (.bool true) ∧ Fr w.heap.size none w w' := by
  have HA := Lib.hid ha; have HB := Lib.hid hb; clear ha hb
  go_enter Tryz.func32, Tryz.ntmps32
  go_wp2
  go_loopw [5] (fun i wr => ∃ k : Nat, k ≤ xs.length ∧ i = .int .i64 k ∧ Fr w.heap.size none w wr) (fun i _ => xs.length - (intOf i).toNat)
  case atStart => exact ⟨0, Nat.zero_le _, rfl, Fr.refl _ _ _⟩
  case round =>
    obtain ⟨k, hk, rfl, hF⟩ := hrel
    have HF := Lib.hid hF; clear hF
    by_cases hlt : k < xs.length
    · obtain ⟨b1, off1, rfl, hc1, ⟨hc1', hc1'', hc1'''⟩, hd1, hd1', hd1''⟩ := (HA.out.fr HF.out).deed k hlt
      obtain ⟨b2, off2, rfl, hc2, ⟨hc2', hc2'', hc2'''⟩, hd2, hd2', hd2''⟩ := (HB.out.fr HF.out).deed k hlt
      generalize xs.getD k noDeed = x at *
      obtain ⟨x0, x1, x2, x3⟩ := x
      dsimp only at *
      have hlt' : (k : Int) < (xs.length : Int) := by omega
      have k0 : (0 : Int) ≤ (k : Int) := by omega
      go_wp2
      go_quiet (fail)
      go_wp2
      go_roundw
      case rel => exact ⟨k + 1, by omega, by go_num, by first | exact HF.out.drewN _ | exact HF.out.drew⟩
      case measure => simp [intOf]; omega
    · go_wp2
      go_ret
      exact ⟨rfl, HF.out⟩
end Go.Proofs.YtdngnmpmaacapaaGreatDoor
