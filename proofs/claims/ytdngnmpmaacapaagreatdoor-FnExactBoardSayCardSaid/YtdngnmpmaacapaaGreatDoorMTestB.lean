/-
  Merged: TestB TestC TestD.
-/
import Derived.Test.YtdngnmpmaacapaaGreatDoorMOrdP
import Derived.Test.YtdngnmpmaacapaaGreatDoorMCore
import Derived.StillTailTactics
set_option linter.unusedVariables false
set_option linter.unusedSimpArgs false
/-
  Exercises: contracts of the statements' own helpers: szTestS, toTestS, eqTestS, markText, markTestS, heldTestS.
-/
namespace Go.Proofs.YtdngnmpmaacapaaGreatDoor
open Go.RowKit

theorem infoTest : (Tryz.prog.info? 52).map (fun i => (i.zero, i.size, i.bytes)) = some (some (.agg #[.string ByteArray.empty, .string ByteArray.empty, .string ByteArray.empty]), 3, 48) := by kernel_rfl

/-- What a count of sizes leaves: -1, or all is small. -/
def Left (l z : Int) (p : Prop) : Prop := z = -1 ∨ (0 ≤ z ∧ z ≤ l ∧ p)
theorem szTest_any (x : Tst) (l : Int) (w : World) (h0 : 0 ≤ l) (h1 : l ≤ 1048576) (hx : big x) :
    Calls Tryz.prog 59 #[.agg #[.string x.1, .string x.2.1, .string x.2.2], .int .i64 l] w fun e w' => (∃ z : Int, e = .returned (.int .i64 z) ∧ Left l z (small x)) ∧ Fr w.heap.size none w w' := by
  obtain ⟨x1, x2, x3⟩ := x
  have s1 : x1.size ≤ 9223372036854775807 := hx.1
  have s2 : x2.size ≤ 9223372036854775807 := hx.2.1
  have s3 : x3.size ≤ 9223372036854775807 := hx.2.2
  clear hx
  by_cases c1 : (x1.size : Int) ≤ l
  · by_cases c2 : (x2.size : Int) ≤ l - x1.size
    · by_cases c3 : (x3.size : Int) ≤ l - x1.size - x2.size
      · have hp := Lib.hid (show small (x1, x2, x3) by simp only [small]; omega)
        go_enter Tryz.func59, Tryz.ntmps59
        go_wp2
        go_ret
        exact ⟨⟨_, rfl, .inr ⟨by omega, by omega, hp.out⟩⟩, (Fr.refl _ _ _).alloc (Nat.le_refl _) _⟩
      · have e3 : wrap64 (l - x1.size - x2.size - x3.size) = l - x1.size - x2.size - x3.size := by unfold wrap64; omega
        go_enter Tryz.func59, Tryz.ntmps59
        go_wp2
        go_ret
        exact ⟨⟨_, rfl, .inl rfl⟩, (Fr.refl _ _ _).alloc (Nat.le_refl _) _⟩
    · have e3 : wrap64 (l - x1.size - x2.size) = l - x1.size - x2.size := by unfold wrap64; omega
      go_enter Tryz.func59, Tryz.ntmps59
      go_wp2
      go_ret
      exact ⟨⟨_, rfl, .inl rfl⟩, (Fr.refl _ _ _).alloc (Nat.le_refl _) _⟩
  · have e3 : wrap64 (l - x1.size) = l - x1.size := by unfold wrap64; omega
    go_enter Tryz.func59, Tryz.ntmps59
    go_wp2
    go_ret
    exact ⟨⟨_, rfl, .inl rfl⟩, (Fr.refl _ _ _).alloc (Nat.le_refl _) _⟩

theorem szTestS_any (a : Option Addr) (cap : Nat) (xs : List Tst) (l : Int) (w : World) (hs : Sl w a (tests xs)) (hn : xs.length ≤ 9223372036854775807) (hb : Big xs) (h0 : 0 ≤ l) (h1 : l ≤ 1048576) :
    Calls Tryz.prog 15 #[.slice a xs.length cap, .int .i64 l] w fun e w' => (∃ z : Int, e = .returned (.int .i64 z) ∧ Left l z (xs.length ≤ 1048576 ∧ Small xs)) ∧ Fr w.heap.size none w w' := by
  have HS := Lib.hid hs; have HB := Lib.hid hb; clear hs hb
  by_cases hl : (xs.length : Int) ≤ l
  · go_enter Tryz.func15, Tryz.ntmps15
    go_wp2
    go_loopw [1, 5] (fun z i wr => ∃ k : Nat, k ≤ xs.length ∧ i = .int .i64 k ∧ (∃ q : Int, z = .int .i64 q ∧ 0 ≤ q ∧ q ≤ l) ∧ Hid (∀ j, j < k → small (xs.getD j noTest)) ∧ Fr w.heap.size none w wr) (fun _ i _ => xs.length - (intOf i).toNat)
    case atStart => exact ⟨0, Nat.zero_le _, rfl, ⟨_, rfl, by omega, by omega⟩, Lib.hid (by intro j hj; omega), Fr.refl _ _ _⟩
    case round =>
      obtain ⟨k, hk, rfl, ⟨q, rfl, q0, q1⟩, hT, hF⟩ := hrel
      have HF := Lib.hid hF; clear hF
      by_cases hlt : k < xs.length
      · obtain ⟨b, off, rfl, hc0, hc1, hc2, hc1', hc2'⟩ := (HS.out.fr HF.out).test k hlt
        have hbig := Lib.hid (HB.out.at k)
        have step : small (xs.getD k noTest) → ∀ j, j < k + 1 → small (xs.getD j noTest) := by
          intro hsm j hj
          by_cases e : j = k
          · subst e; exact hsm
          · exact hT.out j (by omega)
        have ST := Lib.hid step; clear step
        generalize xs.getD k noTest = x at *
        obtain ⟨x1, x2, x3⟩ := x
        go_wp2_with fail
        refine (szTest_any (x1, x2, x3) q _ q0 (by omega) hbig.out).mono ?_; rintro e w2 ⟨⟨z, rfl, hz⟩, hF2⟩
        have HF2 := Lib.hid (HF.out.and hF2); clear hF2
        rcases hz with rfl | ⟨z0, z1, hsm⟩
        · go_wp2
          go_ret
          exact ⟨⟨_, rfl, .inl rfl⟩, HF2.out⟩
        · have HN := Lib.hid (ST.out hsm); clear hsm
          go_wp2
          go_roundw
          case rel => exact ⟨k + 1, by omega, by go_num, ⟨_, rfl, by omega, by omega⟩, HN, HF2.out⟩
          case measure => simp [intOf]; omega
      · have hkk : k = xs.length := by omega
        have hfin : Hid (xs.length ≤ 1048576 ∧ Small xs) := by
          refine ⟨by omega, ?_⟩
          intro x hx
          obtain ⟨i, hi, rfl⟩ := List.getElem_of_mem hx
          have := hT.out i (by omega)
          simpa [List.getD_eq_getElem?_getD, hi] using this
        clear hkk
        go_wp2
        go_ret
        exact ⟨⟨_, rfl, .inr ⟨by omega, by omega, hfin.out⟩⟩, HF.out⟩
  · go_enter Tryz.func15, Tryz.ntmps15
    go_wp2
    go_ret
    exact ⟨⟨_, rfl, .inl rfl⟩, Fr.refl _ _ _⟩

theorem toTest_any (x : Tst) (w : World) : Calls Tryz.prog 60 #[.agg #[.string x.1, .string x.2.1, .string x.2.2]] w fun e w' => e = .returned (.agg #[.string x.1, .string x.2.1, .string x.2.2]) ∧ Fr w.heap.size none w w' := by
  obtain ⟨x1, x2, x3⟩ := x
  go_enter Tryz.func60, Tryz.ntmps60
  go_wp2
  exact bodyPost_ret (v := .agg #[.string x1, .string x2, .string x3]) (by simp [results, Tryz.results60, go_sem]) rfl ⟨rfl, (((Fr.refl _ _ w).alloc (Nat.le_refl _) _).alloc (by simp) _).alloc (by simp; omega) _⟩

def zTest : List Value := [.string ByteArray.empty, .string ByteArray.empty, .string ByteArray.empty]
theorem mkTests (n : Nat) (hn : n ≤ 2097152) (w : World) :
    ∃ w1, (Instr.makeSlice 23 (.int .i64 (n : Int)) (.int .i64 (n : Int))).run Tryz.prog w = .ok (.slice (some ⟨w.heap.size, 0, none⟩) n n) w1 ∧
      w1.ownsRow w.heap.size 52 3 (.slice (some ⟨w.heap.size, 0, none⟩) n n) n (zrows zTest n) ∧ Fr w.heap.size none w w1 := by
  obtain ⟨i0, hi, hz0, hz1, hz2⟩ := info_parts infoTest
  obtain ⟨w1, hr, ho, hg⟩ := run_make_full (P := Tryz.prog) w w.heap.size 23 52 i0 (.agg zTest.toArray) 3 Tryz.underlying23 hi hz0 hz1 .i64 .i64 n (by rw [hz2]; omega) (by simp [maxLen]; omega) (Nat.le_refl _)
  refine ⟨w1, hr, ?_, (Fr.refl _ _ w).grown hg (Nat.le_refl _) (by simp)⟩
  have e := made_zrows zTest n (by simp [zTest])
  rw [← e]; exact ho

theorem getD_snoc {α : Type} (xs : List α) (d : α) (k : Nat) (h : k < xs.length) : xs.take (k + 1) = xs.take k ++ [xs.getD k d] := by
  rw [List.take_succ_eq_append_getElem h]; simp [List.getD_eq_getElem?_getD, h]

/-- Three fields of an own row are written. -/
theorem own_set3 {w : World} {B : Nat} {T g n cap : Nat} {A C : List Value} {x y z : Value} (k : Nat) (a b c : Value) (hA : A.length = k * 3)
    (ho : w.ownsRow B T 3 (.slice (some ⟨g, 0, none⟩) n cap) n (A ++ ([x, y, z] ++ C))) :
    (((w.setCell ⟨g, k * 3, none⟩ a).setCell ⟨g, k * 3 + 1, none⟩ b).setCell ⟨g, k * 3 + 2, none⟩ c).ownsRow B T 3 (.slice (some ⟨g, 0, none⟩) n cap) n (A ++ ([a, b, c] ++ C)) := by
  have h1 := (ho.stored (k * 3) a).1
  have h2 := (h1.stored (k * 3 + 1) b).1
  have h3 := (h2.stored (k * 3 + 2) c).1
  rw [set3 A C x y z a b c (k * 3) (k * 3 + 1) (k * 3 + 2) hA.symm rfl rfl] at h3
  exact h3
theorem own_get3 {w : World} {B : Nat} {T g n cap : Nat} {A C : List Value} {x y z : Value} (k : Nat) (hA : A.length = k * 3)
    (ho : w.ownsRow B T 3 (.slice (some ⟨g, 0, none⟩) n cap) n (A ++ ([x, y, z] ++ C))) :
    (w.cell? ⟨g, k * 3, none⟩ = some x ∧ w.cell? ⟨g, k * 3 + 1, none⟩ = some y ∧ w.cell? ⟨g, k * 3 + 2, none⟩ = some z) ∧ w.frozen? ⟨g, k * 3, none⟩ = false ∧ w.frozen? ⟨g, k * 3 + 1, none⟩ = false ∧ w.frozen? ⟨g, k * 3 + 2, none⟩ = false := by
  have hl := ho.1
  simp only [List.length_append, List.length_cons, List.length_nil] at hl
  refine ⟨⟨?_, ?_, ?_⟩, ho.frozenAt _, ho.frozenAt _, ho.frozenAt _⟩
  · rw [ho.cellAt (k * 3) (by omega), List.getElem?_append_right (by omega)]; simp [hA]
  · rw [ho.cellAt (k * 3 + 1) (by omega), List.getElem?_append_right (by omega)]; simp [hA]
  · rw [ho.cellAt (k * 3 + 2) (by omega), List.getElem?_append_right (by omega)]; simp [hA]
theorem ownO_set3 {w : World} {B : Nat} {T g n cap : Nat} {A C : List Value} {x y z : Value} (k : Nat) (a b c : Value) (hA : A.length = k * 3)
    (ho : Own w B T 3 (.slice (some ⟨g, 0, none⟩) n cap) n (A ++ ([x, y, z] ++ C))) :
    Own (((w.setCell ⟨g, k * 3, none⟩ a).setCell ⟨g, k * 3 + 1, none⟩ b).setCell ⟨g, k * 3 + 2, none⟩ c) B T 3 (.slice (some ⟨g, 0, none⟩) n cap) n (A ++ ([a, b, c] ++ C)) := by
  have h1 := ho.stored (k * 3) a
  have h2 := h1.stored (k * 3 + 1) b
  have h3 := h2.stored (k * 3 + 2) c
  rw [set3 A C x y z a b c (k * 3) (k * 3 + 1) (k * 3 + 2) hA.symm rfl rfl] at h3
  exact h3
theorem ownO_get3 {w : World} {B : Nat} {T g n cap : Nat} {A C : List Value} {x y z : Value} (k : Nat) (hA : A.length = k * 3)
    (ho : Own w B T 3 (.slice (some ⟨g, 0, none⟩) n cap) n (A ++ ([x, y, z] ++ C))) :
    (w.cell? ⟨g, k * 3, none⟩ = some x ∧ w.cell? ⟨g, k * 3 + 1, none⟩ = some y ∧ w.cell? ⟨g, k * 3 + 2, none⟩ = some z) ∧ w.frozen? ⟨g, k * 3, none⟩ = false ∧ w.frozen? ⟨g, k * 3 + 1, none⟩ = false ∧ w.frozen? ⟨g, k * 3 + 2, none⟩ = false := by
  have hl := ho.1
  simp only [List.length_append, List.length_cons, List.length_nil] at hl
  refine ⟨⟨?_, ?_, ?_⟩, ho.frozenAt _, ho.frozenAt _, ho.frozenAt _⟩
  · rw [ho.cellAt (k * 3) (by omega), List.getElem?_append_right (by omega)]; simp [hA]
  · rw [ho.cellAt (k * 3 + 1) (by omega), List.getElem?_append_right (by omega)]; simp [hA]
  · rw [ho.cellAt (k * 3 + 2) (by omega), List.getElem?_append_right (by omega)]; simp [hA]

set_option maxHeartbeats 400000 in
theorem toTestS_any (a : Option Addr) (cap : Nat) (xs : List Tst) (w : World) (hs : Sl w a (tests xs)) (hn : xs.length ≤ 1048576) :
    Calls Tryz.prog 18 #[.slice a xs.length cap] w fun e w' => ∃ g, e = .returned (.slice (some ⟨g, 0, none⟩) xs.length xs.length) ∧ w'.ownsRow w.heap.size 52 3 (.slice (some ⟨g, 0, none⟩) xs.length xs.length) xs.length (tests xs) ∧ Fr w.heap.size none w w' := by
  obtain ⟨w1, hr, ho1, HF⟩ := mkTests xs.length (by omega) w
  have HO := Lib.hid ho1; clear ho1
  have z1 := HF.size
  have zl : w.heap.size < w1.heap.size := (own_lt HO.out _ rfl).2
  have HS := Lib.hid hs; clear hs
  go_enter Tryz.func18, Tryz.ntmps18
  go_wp2
  clear hr
  go_loopw [4] (fun i wr => ∃ k : Nat, k ≤ xs.length ∧ i = .int .i64 k ∧ wr.ownsRow w.heap.size 52 3 (.slice (some ⟨w.heap.size, 0, none⟩) xs.length xs.length) xs.length (tests (xs.take k) ++ zrows zTest (xs.length - k)) ∧ Fr w.heap.size none w wr ∧ w.heap.size < wr.heap.size) (fun i _ => xs.length - (intOf i).toNat)
  case atStart => exact ⟨0, Nat.zero_le _, rfl, HO.out, HF, zl⟩
  case round =>
    obtain ⟨k, hk, rfl, ho, hF, hz⟩ := hrel
    have HF' := Lib.hid hF; clear hF
    by_cases hlt : k < xs.length
    · obtain ⟨b, off, rfl, hc0, hc1, hc2, hc1', hc2'⟩ := (HS.out.fr HF'.out).test k hlt
      have e : xs.length - k = (xs.length - (k + 1)) + 1 := by omega
      rw [e, zrows_succ] at ho
      have HO' := Lib.hid ho
      have hA : Hid ((tests (xs.take k)).length = k * 3) := by rw [tests_length, List.length_take]; show _ = _; rw [Nat.min_eq_left hk]
      have hst := Lib.hid (getD_snoc xs noTest k hlt)
      clear ho e
      generalize xs.getD k noTest = x at *
      go_wp2_with fail
      refine (toTest_any x _).mono ?_; rintro e w2 ⟨rfl, hF2⟩
      have O2 := Lib.hid (own_keep HO'.out hF2)
      have F2 := Lib.hid (HF'.out.and hF2)
      have z2 := hF2.size
      obtain ⟨⟨g1, g2, g3⟩, f1, f2, f3⟩ := own_get3 k hA.out O2.out
      have O3 := Lib.hid (own_set3 k (.string x.1) (.string x.2.1) (.string x.2.2) hA.out O2.out)
      have F3 := Lib.hid (((F2.out.setCell (p := ⟨w.heap.size, k * 3, none⟩) (.inl (Nat.le_refl _)) (.string x.1)).setCell (p := ⟨w.heap.size, k * 3 + 1, none⟩) (.inl (Nat.le_refl _)) (.string x.2.1)).setCell (p := ⟨w.heap.size, k * 3 + 2, none⟩) (.inl (Nat.le_refl _)) (.string x.2.2))
      clear hF2
      go_wp2
      go_roundw
      case rel => exact ⟨k + 1, by omega, by go_num, by rw [hst.out, tests, rows_append, rows_one, List.append_assoc]; exact O3.out, F3.out, by simp [World.setCell]; omega⟩
      case measure => simp [intOf]; omega
    · have hkk : k = xs.length := by omega
      have HN : Hid (wr.ownsRow w.heap.size 52 3 (.slice (some ⟨w.heap.size, 0, none⟩) xs.length xs.length) xs.length (tests xs)) := by
        rw [hkk, Nat.sub_self, zrows_zero, List.append_nil, List.take_length] at ho; exact ho
      clear hkk ho
      go_wp2
      go_ret
      exact ⟨_, rfl, HN.out, HF'.out⟩

theorem eqTest_any (x : Tst) (w : World) : Calls Tryz.prog 63 #[.agg #[.string x.1, .string x.2.1, .string x.2.2], .agg #[.string x.1, .string x.2.1, .string x.2.2]] w fun e w' => e = .returned (.bool true) ∧ Fr w.heap.size none w w' := by
  obtain ⟨x1, x2, x3⟩ := x
  go_enter Tryz.func63, Tryz.ntmps63
  go_wp2
  go_ret
  exact ⟨rfl, ((Fr.refl _ _ w).alloc (Nat.le_refl _) _).alloc (by simp) _⟩

set_option maxRecDepth 100000 in
theorem eqTestS_any (a b : Option Addr) (ca cb : Nat) (xs : List Tst) (w : World) (ha : Sl w a (tests xs)) (hb : Sl w b (tests xs)) (hn : xs.length ≤ 1048576) :
    Calls Tryz.prog 21 #[.slice a xs.length ca, .slice b xs.length cb] w fun e w' => e = .returned (.bool true) ∧ Fr w.heap.size none w w' := by
  have HA := Lib.hid ha; have HB := Lib.hid hb; clear ha hb
  go_enter Tryz.func21, Tryz.ntmps21
  go_wp2
  go_loopw [5] (fun i wr => ∃ k : Nat, k ≤ xs.length ∧ i = .int .i64 k ∧ Fr w.heap.size none w wr) (fun i _ => xs.length - (intOf i).toNat)
  case atStart => exact ⟨0, Nat.zero_le _, rfl, Fr.refl _ _ _⟩
  case round =>
    obtain ⟨k, hk, rfl, hF⟩ := hrel
    have HF := Lib.hid hF; clear hF
    by_cases hlt : k < xs.length
    · obtain ⟨b1, off1, rfl, hc1, hc1', hc1'', hd1, hd1'⟩ := (HA.out.fr HF.out).test k hlt
      obtain ⟨b2, off2, rfl, hc2, hc2', hc2'', hd2, hd2'⟩ := (HB.out.fr HF.out).test k hlt
      generalize xs.getD k noTest = x at *
      have hlt' : (k : Int) < (xs.length : Int) := by omega
      go_wp2
      go_still_tail 8, (by kernel_rfl)
      change wpList _ _ _ _ _ wr.drew
      go_wp2_with fail
      refine (eqTest_any x _).mono ?_; rintro e w2 ⟨rfl, hF2⟩
      have HF2 := Lib.hid (HF.out.drew.trans (hF2.mono HF.out.size)); clear hF2
      go_wp2
      go_roundw
      case rel => exact ⟨k + 1, by omega, by go_num, HF2.out⟩
      case measure => simp [intOf]; omega
    · go_wp2
      go_ret
      exact ⟨rfl, HF.out⟩

/- What marking writes. -/
def digB (m : Nat) : UInt8 := UInt8.ofNat (48 + m % 10)
def digL : Nat → Nat → List UInt8 → List UInt8
  | 0, _, acc => acc
  | f + 1, n, acc => if n = 0 then acc else digL f (n / 10) (digB n :: acc)
theorem digL_zero (f : Nat) (acc : List UInt8) : digL f 0 acc = acc := by cases f <;> simp [digL]
theorem digL_step (f n : Nat) (acc : List UInt8) (h : 0 < n) : digL (f + 1) n acc = digL f (n / 10) (digB n :: acc) := by
  rw [digL, if_neg (by omega)]
theorem digL_len (f n : Nat) (acc : List UInt8) : (digL f n acc).length ≤ acc.length + f := by
  induction f generalizing n acc with
  | zero => simp [digL]
  | succ f ih => unfold digL; split
                 · omega
                 · have := ih (n / 10) (digB n :: acc); rw [List.length_cons] at this; omega
def markS (k : Int) : ByteArray := if k ≤ 0 then ⟨#[109, 48]⟩ else ⟨#[109]⟩ ++ ⟨(digL 13 k.toNat []).toArray⟩
theorem convByte (c : Nat) (hc : c < 256) (T : TypeId) (w : World) :
    (convert 22 9 (.slice (some ⟨w.heap.size, 0, none⟩) 1 1)).run Tryz.prog (w.alloc (.cells #[.int .u8 (c : Int)] T)) = .ok (.string ⟨[UInt8.ofNat c].toArray⟩) (w.alloc (.cells #[.int .u8 (c : Int)] T)) :=
  run_convert_bytes_back _ _ _ 5 ⟨w.heap.size, 0, none⟩ 1 [UInt8.ofNat c] Tryz.underlying22 Tryz.underlying5 Tryz.underlying9 (by
    intro j hj
    have : j = 0 := by simpa using hj
    subst this
    show (w.alloc _).cell? ⟨w.heap.size, 0, none⟩ = _
    rw [World.cell?_alloc_at _ _ _ _ rfl]
    have : (UInt8.ofNat c).toNat = c := by simp [UInt8.toNat_ofNat]; omega
    simp [this])
end Go.Proofs.YtdngnmpmaacapaaGreatDoor
/-
  Exercises: contracts of markText, markTestS, heldTestS.
-/
namespace Go.Proofs.YtdngnmpmaacapaaGreatDoor
open Go.RowKit

theorem convByteI (z : Int) (c : Nat) (hz : z = ((48 + c % 10 : Nat) : Int)) (T : TypeId) (w : World) :
    (convert 22 9 (.slice (some ⟨w.heap.size, 0, none⟩) 1 1)).run Tryz.prog (w.alloc (.cells #[.int .u8 z] T)) = .ok (.string ⟨[digB c].toArray⟩) (w.alloc (.cells #[.int .u8 z] T)) := by
  subst hz; exact convByte (48 + c % 10) (by omega) T w
theorem markS_no {k : Int} (h : k ≤ 0) : ⟨#[109, 48]⟩ = markS k := by unfold markS; rw [if_pos h]
theorem markS_yes {k : Int} (h : 0 < k) : (⟨#[109]⟩ : ByteArray) ++ ⟨(digL 13 k.toNat []).toArray⟩ = markS k := by unfold markS; rw [if_neg (by omega)]
theorem arr_size (l : List UInt8) : (⟨l.toArray⟩ : ByteArray).size = l.length := by show l.toArray.size = _; simp
theorem markS_size (k : Int) : (markS k).size ≤ 1048576 := by
  unfold markS
  split
  · decide
  · have := digL_len 13 k.toNat []
    have h1 : (⟨#[109]⟩ : ByteArray).size = 1 := rfl
    have h2 := arr_size (digL 13 k.toNat [])
    rw [ByteArray.size_append, h1, h2]
    simp at this; omega

set_option maxHeartbeats 400000 in
set_option maxRecDepth 100000 in
theorem markText_any (k : Int) (h0 : 0 ≤ k) (h1 : k ≤ 1099511627776) (w : World) : Calls Tryz.prog 64 #[.int .i64 k] w fun e w' => e = .returned (.string (markS k)) ∧ Fr w.heap.size none w w' := by
  by_cases hk : k ≤ 0
  · have hb := Lib.hid (markS_no hk)
    go_enter Tryz.func64, Tryz.ntmps64
    go_wp2
    go_ret
    exact ⟨by rw [← hb.out]; rfl, Fr.refl _ _ _⟩
  · obtain ⟨n, rfl⟩ := Int.eq_ofNat_of_zero_le h0
    have hb := Lib.hid (markS_yes (k := (n : Int)) (by omega))
    have h13 : (10 : Nat) ^ 13 = 10000000000000 := by decide
    have hn13 := Lib.hid (show n < 10 ^ 13 by rw [h13]; omega)
    clear h13
    go_enter Tryz.func64, Tryz.ntmps64
    go_wp2
    go_loopw [0, 3] (fun z out wr => ∃ (m f : Nat) (acc : List UInt8), z = .int .i64 (m : Int) ∧ out = .string ⟨acc.toArray⟩ ∧ m ≤ 1099511627776 ∧ Hid (m < 10 ^ f) ∧ acc.length + f = 13 ∧ Hid (digL f m acc = digL 13 n []) ∧ Fr w.heap.size none w wr) (fun z _ _ => (intOf z).toNat)
    case atStart => exact ⟨n, 13, [], rfl, rfl, by omega, hn13, rfl, Lib.hid rfl, Fr.refl _ _ _⟩
    case round =>
      obtain ⟨m, f, acc, rfl, rfl, hm, hlt, hl, hd, hF⟩ := hrel
      have HF := Lib.hid hF; clear hF
      by_cases hm0 : 0 < m
      · obtain ⟨f', rfl⟩ : ∃ f', f = f' + 1 := by
          cases f with
          | zero => have := hlt.out; simp at this; omega
          | succ f' => exact ⟨f', rfl⟩
        have hst := Lib.hid ((digL_step f' m acc hm0).symm.trans hd.out)
        have hlt' := Lib.hid (show m / 10 < 10 ^ f' by
          have := hlt.out
          rw [Nat.pow_succ] at this
          exact Nat.div_lt_of_lt_mul (by rw [Nat.mul_comm]; exact this))
        have hcv := fun W => convByteI (48 + (m : Int) % 10) m (by omega) 5 W
        have hadd := fun W => run_string_add_sum (P := Tryz.prog) W ⟨[digB m].toArray⟩ ⟨acc.toArray⟩ (by have h1 := arr_size [digB m]; have h2 := arr_size acc; simp only [List.length_cons, List.length_nil] at h1; omega)
        have hcat : (⟨[digB m].toArray⟩ : ByteArray) ++ ⟨acc.toArray⟩ = ⟨(digB m :: acc).toArray⟩ := by rw [ByteArray.mk_append_mk]; rfl
        have hcat := Lib.hid hcat
        have hm0' : (0 : Int) < (m : Int) := by omega
        go_wp2
        go_roundw
        case rel => exact ⟨m / 10, f', digB m :: acc, by go_num, by first | rfl | rw [hcat.out], by omega, hlt', by rw [List.length_cons]; omega, hst, (HF.out.alloc HF.out.size _)⟩
        case measure => simp only [intOf]; omega
      · have hm1 : m = 0 := by omega
        subst hm1
        have hfin := Lib.hid (show (⟨#[109]⟩ : ByteArray) ++ ⟨acc.toArray⟩ = markS (n : Int) by rw [← hb.out, ← digL_zero f acc, hd.out]; rfl)
        have hadd := fun W => run_string_add_sum (P := Tryz.prog) W ⟨#[109]⟩ ⟨acc.toArray⟩ (by have h1 : (⟨#[109]⟩ : ByteArray).size = 1 := rfl; have h2 := arr_size acc; omega)
        go_wp2
        go_ret
        exact ⟨by rw [← hfin.out]; rfl, HF.out⟩

def markedT (n : Nat) (q : Int) : List Tst := (List.range n).map fun j : Nat => (markS (q + 3 * (j : Int)), markS (q + 3 * (j : Int) + 1), markS (q + 3 * (j : Int) + 1 + 1))
theorem markedT_length (n : Nat) (q : Int) : (markedT n q).length = n := by simp [markedT]
theorem markedT_succ (n : Nat) (q : Int) : markedT (n + 1) q = markedT n q ++ [(markS (q + 3 * (n : Int)), markS (q + 3 * (n : Int) + 1), markS (q + 3 * (n : Int) + 1 + 1))] := by simp [markedT, List.range_succ]
theorem markedT_getD (n : Nat) (q : Int) (j : Nat) (h : j < n) : (markedT n q).getD j noTest = (markS (q + 3 * (j : Int)), markS (q + 3 * (j : Int) + 1), markS (q + 3 * (j : Int) + 1 + 1)) := by simp [markedT, List.getD_eq_getElem?_getD, h]
theorem drop_getD {α : Type} (xs : List α) (d : α) (k : Nat) (h : k < xs.length) : xs.drop k = xs.getD k d :: xs.drop (k + 1) := by
  rw [List.drop_eq_getElem_cons h]; simp [List.getD_eq_getElem?_getD, h]
theorem set3a (A C : List Value) (x y z a : Value) (n : Nat) (hn : n = A.length) : (A ++ ([x, y, z] ++ C)).set n a = A ++ ([a, y, z] ++ C) := by
  subst hn; simp [List.set_append_right]
theorem set3b (A C : List Value) (x y z a : Value) (n : Nat) (hn : n = A.length + 1) : (A ++ ([x, y, z] ++ C)).set n a = A ++ ([x, a, z] ++ C) := by
  subst hn; simp [List.set_append_right]
theorem set3c (A C : List Value) (x y z a : Value) (n : Nat) (hn : n = A.length + 2) : (A ++ ([x, y, z] ++ C)).set n a = A ++ ([x, y, a] ++ C) := by
  subst hn; simp [List.set_append_right]

end Go.Proofs.YtdngnmpmaacapaaGreatDoor
/-
  Exercises: contract of markTestS.
-/
namespace Go.Proofs.YtdngnmpmaacapaaGreatDoor
open Go.RowKit

set_option maxHeartbeats 1000000 in
theorem markTestS_any (a : Option Addr) (cap : Nat) (xs : List Tst) (q : Int) (w : World) (base : Nat) (ho : Own w base 52 3 (.slice a xs.length cap) xs.length (tests xs)) (hn : xs.length ≤ 1048576) (hq : 0 ≤ q) (hq2 : q ≤ 549755813888) :
    Calls Tryz.prog 23 #[.slice a xs.length cap, .int .i64 q] w fun e w' => e = .returned (.int .i64 (q + 3 * (xs.length : Int))) ∧ Own w' base 52 3 (.slice a xs.length cap) xs.length (tests (markedT xs.length q)) ∧ Fr w.heap.size (Value.slice a xs.length cap).ownBlock w w' := by
  have HO := Lib.hid ho; clear ho
  go_enter Tryz.func23, Tryz.ntmps23
  go_wp2
  go_loopw [1, 5] (fun c i wr => ∃ k : Nat, k ≤ xs.length ∧ i = .int .i64 k ∧ c = .int .i64 (q + 3 * (k : Int)) ∧ Own wr base 52 3 (.slice a xs.length cap) xs.length (tests (markedT k q ++ xs.drop k)) ∧ Fr w.heap.size (Value.slice a xs.length cap).ownBlock w wr) (fun _ i _ => xs.length - (intOf i).toNat)
  case atStart => exact ⟨0, Nat.zero_le _, rfl, by go_num, by simpa [markedT] using HO.out, Fr.refl _ _ _⟩
  case round =>
    obtain ⟨k, hk, rfl, rfl, ho, hF⟩ := hrel
    have HF := Lib.hid hF; clear hF
    by_cases hlt : k < xs.length
    · obtain ⟨g, rfl⟩ : ∃ g, a = some ⟨g, 0, none⟩ := by
        rcases ho.2 with ⟨h', h0⟩ | ⟨g, cap', cur, h', _⟩
        · omega
        · simp only [Value.slice.injEq] at h'; exact ⟨g, h'.1⟩
      have hA : Hid ((tests (markedT k q)).length = k * 3) := by rw [tests_length, markedT_length]; rfl
      have ho2 : Hid (Own wr base 52 3 (.slice (some ⟨g, 0, none⟩) xs.length cap) xs.length (tests (markedT k q) ++ ([.string (xs.getD k noTest).1, .string (xs.getD k noTest).2.1, .string (xs.getD k noTest).2.2] ++ tests (xs.drop (k + 1))))) := by
        rw [drop_getD xs noTest k hlt, tests, rows_append] at ho; exact ho
      have hms := Lib.hid (markedT_succ k q)
      have hz0 := HF.out.size
      clear ho
      generalize xs.getD k noTest = x at *
      obtain ⟨x1, x2, x3⟩ := x
      go_wp2_with fail
      refine (markText_any (q + 3 * (k : Int)) (by omega) (by omega) _).mono ?_; rintro e w2 ⟨rfl, hF2⟩
      have O2 := Lib.hid (Own.keep ho2.out hF2)
      have F2 := Lib.hid (HF.out.next hF2 HF.out.size)
      clear hF2
      obtain ⟨⟨g1, g2, g3⟩, f1, f2, f3⟩ := ownO_get3 k hA.out O2.out
      have o3 := O2.out.stored (k * 3) (.string (markS (q + 3 * (k : Int))))
      rw [set3a _ _ _ _ _ _ _ hA.out.symm] at o3
      have O3 := Lib.hid o3; clear o3
      have F3 := Lib.hid (F2.out.setCell (p := ⟨g, k * 3, none⟩) (.inr rfl) (.string (markS (q + 3 * (k : Int)))))
      go_wp2_with fail
      clear g1 g2 g3 f1 f2 f3
      refine (markText_any (q + 3 * (k : Int) + 1) (by omega) (by omega) _).mono ?_; rintro e w4 ⟨rfl, hF4⟩
      have O4 := Lib.hid (Own.keep O3.out hF4)
      have F4 := Lib.hid (F3.out.next hF4 F3.out.size)
      clear hF4
      obtain ⟨⟨g1, g2, g3⟩, f1, f2, f3⟩ := ownO_get3 k hA.out O4.out
      have o5 := O4.out.stored (k * 3 + 1) (.string (markS (q + 3 * (k : Int) + 1)))
      rw [set3b _ _ _ _ _ _ _ (by rw [hA.out])] at o5
      have O5 := Lib.hid o5; clear o5
      have F5 := Lib.hid (F4.out.setCell (p := ⟨g, k * 3 + 1, none⟩) (.inr rfl) (.string (markS (q + 3 * (k : Int) + 1))))
      go_wp2_with fail
      clear g1 g2 g3 f1 f2 f3
      refine (markText_any (q + 3 * (k : Int) + 1 + 1) (by omega) (by omega) _).mono ?_; rintro e w6 ⟨rfl, hF6⟩
      have O6 := Lib.hid (Own.keep O5.out hF6)
      have F6 := Lib.hid (F5.out.next hF6 F5.out.size)
      clear hF6
      obtain ⟨⟨g1, g2, g3⟩, f1, f2, f3⟩ := ownO_get3 k hA.out O6.out
      have o7 := O6.out.stored (k * 3 + 2) (.string (markS (q + 3 * (k : Int) + 1 + 1)))
      rw [set3c _ _ _ _ _ _ _ (by rw [hA.out])] at o7
      have O7 : Hid (Own (w6.setCell ⟨g, k * 3 + 2, none⟩ (.string (markS (q + 3 * (k : Int) + 1 + 1)))) base 52 3 (.slice (some ⟨g, 0, none⟩) xs.length cap) xs.length (tests (markedT (k + 1) q ++ xs.drop (k + 1)))) := by
        rw [hms.out, tests, rows_append, rows_append, rows_one, List.append_assoc]; exact o7
      clear o7
      have F7 := Lib.hid (F6.out.setCell (p := ⟨g, k * 3 + 2, none⟩) (.inr rfl) (.string (markS (q + 3 * (k : Int) + 1 + 1))))
      go_wp2
      go_roundw
      case rel => exact ⟨k + 1, by omega, by go_num, by go_num, O7.out, F7.out⟩
      case measure => simp [intOf]; omega
    · have hkk : k = xs.length := by omega
      have HO' : Hid (Own wr base 52 3 (.slice a xs.length cap) xs.length (tests (markedT xs.length q))) := by
        rw [hkk, List.drop_length, List.append_nil] at ho; exact ho
      have hq' := Lib.hid (show q + 3 * (k : Int) = q + 3 * (xs.length : Int) by omega)
      clear hkk ho
      go_wp2
      go_ret
      exact ⟨ret_int hq'.out, HO'.out, HF.out⟩

end Go.Proofs.YtdngnmpmaacapaaGreatDoor
