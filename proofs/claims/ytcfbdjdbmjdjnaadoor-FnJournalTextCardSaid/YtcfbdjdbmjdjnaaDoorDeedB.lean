/-
  Deeds: contracts of the statements' own helpers: szDeed, szDeedS, toDeed, toDeedS, eqDeed, eqDeedS.
-/
import Derived.Test.YtcfbdjdbmjdjnaaDoorTestE
namespace Go.Proofs.YtcfbdjdbmjdjnaaDoor
open Go.RowKit

theorem infoDeed : (Tryd.prog.info? 25).map (fun i => (i.zero, i.size, i.bytes)) = some (some (.agg #[.bool false, .string ByteArray.empty, .string ByteArray.empty, .string ByteArray.empty]), 4, 56) := by kernel_rfl

def zDeed : List Value := [.bool false, .string ByteArray.empty, .string ByteArray.empty, .string ByteArray.empty]
theorem mkDeeds (n : Nat) (hn : n ≤ 2097152) (w : World) :
    ∃ w1, (Instr.makeSlice 30 (.int .i64 (n : Int)) (.int .i64 (n : Int))).run Tryd.prog w = .ok (.slice (some ⟨w.heap.size, 0, none⟩) n n) w1 ∧
      w1.ownsRow w.heap.size 25 4 (.slice (some ⟨w.heap.size, 0, none⟩) n n) n (zrows zDeed n) ∧ Fr w.heap.size none w w1 := by
  obtain ⟨i0, hi, hz0, hz1, hz2⟩ := info_parts infoDeed
  obtain ⟨w1, hr, ho, hg⟩ := run_make_full (P := Tryd.prog) w w.heap.size 30 25 i0 (.agg zDeed.toArray) 4 Tryd.underlying30 hi hz0 hz1 .i64 .i64 n (by rw [hz2]; omega) (by simp [maxLen]; omega) (Nat.le_refl _)
  refine ⟨w1, hr, ?_, (Fr.refl _ _ w).grown hg (Nat.le_refl _) (by simp)⟩
  have e := made_zrows zDeed n (by simp [zDeed])
  rw [← e]; exact ho

/-- Four fields of an own row are written. -/
theorem own_set4 {w : World} {B : Nat} {T g n cap : Nat} {A C : List Value} {x y z u : Value} (k : Nat) (a b c d : Value) (hA : A.length = k * 4)
    (ho : w.ownsRow B T 4 (.slice (some ⟨g, 0, none⟩) n cap) n (A ++ ([x, y, z, u] ++ C))) :
    ((((w.setCell ⟨g, k * 4, none⟩ a).setCell ⟨g, k * 4 + 1, none⟩ b).setCell ⟨g, k * 4 + 2, none⟩ c).setCell ⟨g, k * 4 + 3, none⟩ d).ownsRow B T 4 (.slice (some ⟨g, 0, none⟩) n cap) n (A ++ ([a, b, c, d] ++ C)) := by
  have h1 := (ho.stored (k * 4) a).1
  have h2 := (h1.stored (k * 4 + 1) b).1
  have h3 := (h2.stored (k * 4 + 2) c).1
  have h4 := (h3.stored (k * 4 + 3) d).1
  rw [set4 A C x y z u a b c d (k * 4) (k * 4 + 1) (k * 4 + 2) (k * 4 + 3) hA.symm rfl rfl rfl] at h4
  exact h4
theorem own_get4 {w : World} {B : Nat} {T g n cap : Nat} {A C : List Value} {x y z u : Value} (k : Nat) (hA : A.length = k * 4)
    (ho : w.ownsRow B T 4 (.slice (some ⟨g, 0, none⟩) n cap) n (A ++ ([x, y, z, u] ++ C))) :
    (w.cell? ⟨g, k * 4, none⟩ = some x ∧ w.cell? ⟨g, k * 4 + 1, none⟩ = some y ∧ w.cell? ⟨g, k * 4 + 2, none⟩ = some z ∧ w.cell? ⟨g, k * 4 + 3, none⟩ = some u) ∧ w.frozen? ⟨g, k * 4, none⟩ = false ∧ w.frozen? ⟨g, k * 4 + 1, none⟩ = false ∧ w.frozen? ⟨g, k * 4 + 2, none⟩ = false ∧ w.frozen? ⟨g, k * 4 + 3, none⟩ = false := by
  have hl := ho.1
  simp only [List.length_append, List.length_cons, List.length_nil] at hl
  refine ⟨⟨?_, ?_, ?_, ?_⟩, ho.frozenAt _, ho.frozenAt _, ho.frozenAt _, ho.frozenAt _⟩
  · rw [ho.cellAt (k * 4) (by omega), List.getElem?_append_right (by omega)]; simp [hA]
  · rw [ho.cellAt (k * 4 + 1) (by omega), List.getElem?_append_right (by omega)]; simp [hA]
  · rw [ho.cellAt (k * 4 + 2) (by omega), List.getElem?_append_right (by omega)]; simp [hA]
  · rw [ho.cellAt (k * 4 + 3) (by omega), List.getElem?_append_right (by omega)]; simp [hA]
theorem ownO_get4 {w : World} {B : Nat} {T g n cap : Nat} {A C : List Value} {x y z u : Value} (k : Nat) (hA : A.length = k * 4)
    (ho : Own w B T 4 (.slice (some ⟨g, 0, none⟩) n cap) n (A ++ ([x, y, z, u] ++ C))) :
    (w.cell? ⟨g, k * 4, none⟩ = some x ∧ w.cell? ⟨g, k * 4 + 1, none⟩ = some y ∧ w.cell? ⟨g, k * 4 + 2, none⟩ = some z ∧ w.cell? ⟨g, k * 4 + 3, none⟩ = some u) ∧ w.frozen? ⟨g, k * 4, none⟩ = false ∧ w.frozen? ⟨g, k * 4 + 1, none⟩ = false ∧ w.frozen? ⟨g, k * 4 + 2, none⟩ = false ∧ w.frozen? ⟨g, k * 4 + 3, none⟩ = false := by
  have hl := ho.1
  simp only [List.length_append, List.length_cons, List.length_nil] at hl
  refine ⟨⟨?_, ?_, ?_, ?_⟩, ho.frozenAt _, ho.frozenAt _, ho.frozenAt _, ho.frozenAt _⟩
  · rw [ho.cellAt (k * 4) (by omega), List.getElem?_append_right (by omega)]; simp [hA]
  · rw [ho.cellAt (k * 4 + 1) (by omega), List.getElem?_append_right (by omega)]; simp [hA]
  · rw [ho.cellAt (k * 4 + 2) (by omega), List.getElem?_append_right (by omega)]; simp [hA]
  · rw [ho.cellAt (k * 4 + 3) (by omega), List.getElem?_append_right (by omega)]; simp [hA]

theorem eqDeed_any (x : Dd) (w : World) : Calls Tryd.prog 10 #[.agg #[.bool x.1, .string x.2.1, .string x.2.2.1, .string x.2.2.2], .agg #[.bool x.1, .string x.2.1, .string x.2.2.1, .string x.2.2.2]] w fun e w' => e = .returned (.bool true) ∧ Fr w.heap.size none w w' := by
  obtain ⟨x0, x1, x2, x3⟩ := x
  go_enter Tryd.func10, Tryd.ntmps10
  go_wp2_with fail
  refine (eqTest_any (x1, x2, x3) _).mono ?_; rintro e w2 ⟨rfl, hF2⟩
  have HF2 := Lib.hid ((((Fr.refl w.heap.size none w).alloc (Nat.le_refl _) _).alloc (by simp) _).and hF2); clear hF2
  go_wp2
  go_ret
  exact ⟨rfl, HF2.out⟩

set_option maxRecDepth 100000 in
theorem eqDeedS_any (a b : Option Addr) (ca cb : Nat) (xs : List Dd) (w : World) (ha : Sl w a (deeds xs)) (hb : Sl w b (deeds xs)) (hn : xs.length ≤ 1048576) :
    Calls Tryd.prog 13 #[.slice a xs.length ca, .slice b xs.length cb] w fun e w' => e = .returned (.bool true) ∧ Fr w.heap.size none w w' := by
  have HA := Lib.hid ha; have HB := Lib.hid hb; clear ha hb
  go_enter Tryd.func13, Tryd.ntmps13
  go_wp2
  go_loopw [5] (fun i wr => ∃ k : Nat, k ≤ xs.length ∧ i = .int .i64 k ∧ Fr w.heap.size none w wr) (fun i _ => xs.length - (intOf i).toNat)
  case atStart => exact ⟨0, Nat.zero_le _, rfl, Fr.refl _ _ _⟩
  case round =>
    obtain ⟨k, hk, rfl, hF⟩ := hrel
    have HF := Lib.hid hF; clear hF
    by_cases hlt : k < xs.length
    · obtain ⟨b1, off1, rfl, hc1, ⟨hc1', hc1'', hc1'''⟩, hd1, hd1', hd1''⟩ := (HA.out.fr HF.out).deed k hlt
      obtain ⟨b2, off2, rfl, hc2, ⟨hc2', hc2'', hc2'''⟩, hd2, hd2', hd2''⟩ := (HB.out.fr HF.out).deed k hlt
      generalize xs.getD k noDeed = x at *
      have hlt' : (k : Int) < (xs.length : Int) := by omega
      go_wp2
      go_still_tail 8, (by kernel_rfl)
      change wpList _ _ _ _ _ wr.drew
      go_wp2_with fail
      refine (eqDeed_any x _).mono ?_; rintro e w2 ⟨rfl, hF2⟩
      have HF2 := Lib.hid (HF.out.drew.trans (hF2.mono HF.out.size)); clear hF2
      go_wp2
      go_roundw
      case rel => exact ⟨k + 1, by omega, by go_num, HF2.out⟩
      case measure => simp [intOf]; omega
    · go_wp2
      go_ret
      exact ⟨rfl, HF.out⟩

end Go.Proofs.YtcfbdjdbmjdjnaaDoor
