/-
  Merged: ColU ColV.
-/
import Derived.Test.YtdngnmpmaacapaaGreatDoorMWaysA
import Derived.Deep.Cut
set_option linter.unusedVariables false
set_option linter.unusedSimpArgs false
/-
  Contracts: WrongRow of the program and of the reference.
-/
namespace Go.Proofs.YtdngnmpmaacapaaGreatDoor
open Go.RowKit

theorem goodR_parts {b : Int} {c : Col} (h : goodR b c = true) : (isD c.1 = true ∧ isD c.2.1 = true ∧ isD c.2.2.1 = true ∧ isD c.2.2.2.1 = true ∧ isD c.2.2.2.2 = true) ∧ c.2.1 = b ∧ c.1 * c.2.1 + c.2.2.1 = c.2.2.2.1 + 10 * c.2.2.2.2 := by
  simp only [goodR, Bool.and_eq_true, decide_eq_true_eq] at h
  exact ⟨⟨h.1.1.1.1.1.1, h.1.1.1.1.1.2, h.1.1.1.1.2, h.1.1.1.2, h.1.1.2⟩, h.1.2, h.2⟩
set_option maxHeartbeats 2000000 in
set_option maxRecDepth 100000 in
theorem rowGood_any (q : Nat) (a : Option Addr) (cap : Nat) (cs : List Col) (c : Col) (w : World) (hp : w.cell? ⟨q, 0, none⟩ = some (.slice a cs.length cap)) (hs : Sl w a (cols cs)) (h0 : 0 < cs.length) (h : goodR (cs.getD 0 noCol).2.1 c = true) :
    Calls Tryz.prog 240 #[.agg #[.int .i64 c.1, .int .i64 c.2.1, .int .i64 c.2.2.1, .int .i64 c.2.2.2.1, .int .i64 c.2.2.2.2], .pointer (some ⟨q, 0, none⟩)] w fun e w' => e = .returned (.bool true) ∧ Fr w.heap.size none w w' := by
  have hq := World.block_lt_of_cell? w _ hp
  dsimp only at hq
  obtain ⟨⟨i1, i2, i3, i4, i5⟩, hb, he⟩ := goodR_parts h
  clear h
  obtain ⟨x1, x2, x3, x4, x5⟩ := c
  dsimp only at i1 i2 i3 i4 i5 hb he ⊢
  have b1 := inB_true.1 i1; have b2 := inB_true.1 i2; have b3 := inB_true.1 i3; have b4 := inB_true.1 i4; have b5 := inB_true.1 i5
  have bp := mul_le b1 b2
  have G0 := Lib.hid ((Fr.refl w.heap.size none w).alloc (Nat.le_refl _) (.cells #[.int .i64 x1, .int .i64 x2, .int .i64 x3, .int .i64 x4, .int .i64 x5] 149))
  have HS := Lib.hid (hs.fr G0.out); have HP := Lib.hid hp
  clear hs hp
  obtain ⟨p, hpp⟩ : ∃ z, x1 * x2 = z := ⟨_, rfl⟩
  rw [hpp] at bp he
  have hz : (p + x3 == x4 + 10 * x5) = true := by rw [beq_iff_eq]; exact he
  have HB := Lib.hid hb
  clear he hb
  go_enter Tryz.func240, Tryz.ntmps240
  go_upto_region 1 with fail
  obtain ⟨w0, hw0⟩ : ∃ w0, w0 = w.alloc (.cells #[.int .i64 x1, .int .i64 x2, .int .i64 x3, .int .i64 x4, .int .i64 x5] 149) := ⟨_, rfl⟩
  rw [← hw0] at G0 HS
  have q0 : w0.cell? ⟨w.heap.size, 0, none⟩ = some (.int .i64 x1) := by rw [hw0]; go_simp
  have q1 : w0.cell? ⟨w.heap.size, 1, none⟩ = some (.int .i64 x2) := by rw [hw0]; go_simp
  have q2 : w0.cell? ⟨w.heap.size, 2, none⟩ = some (.int .i64 x3) := by rw [hw0]; go_simp
  have q3 : w0.cell? ⟨w.heap.size, 3, none⟩ = some (.int .i64 x4) := by rw [hw0]; go_simp
  have q4 : w0.cell? ⟨w.heap.size, 4, none⟩ = some (.int .i64 x5) := by rw [hw0]; go_simp
  have q5 : w0.cell? ⟨q, 0, none⟩ = some (.slice a cs.length cap) := (G0.out.cell (p := ⟨q, 0, none⟩) hq (by simp)).trans HP.out
  obtain ⟨b, off, rfl, _, c1, _, _, _⟩ := HS.out.col 0 h0
  rw [← HB.out, Nat.zero_mul, Nat.add_zero] at c1
  have h0' : (0 : Int) < (cs.length : Int) := by omega
  have hxx : (x2 == x2) = true := by simp
  rw [← hw0]
  clear hw0
  go_quiet ((go_at_call 221; exact quiet_left (isDigit_val (b := true) (by assumption) _)))
  go_wp2
  go_ret
  exact ⟨rfl, G0.out.drewN _⟩

set_option maxHeartbeats 1000000 in
set_option maxRecDepth 100000 in
/-- No column is wrong: a test that leans on a cell and on the columns. -/
theorem wrong_noneC (g : FuncId) (q : Nat) (v : Value) (eg : ∀ args w, (callFunc g args).run Tryz.prog w = .ok (.enter g args) w) (a : Option Addr) (cap : Nat) (cs : List Col) (w : World) (hs : Sl w a (cols cs)) (hn : cs.length ≤ 100) (hl : Linked cs) (hq : w.cell? ⟨q, 0, none⟩ = some v)
    (hg : ∀ k, k < cs.length → ∀ W, W.cell? ⟨q, 0, none⟩ = some v → Sl W a (cols cs) → Calls Tryz.prog g #[.agg #[.int .i64 (cs.getD k noCol).1, .int .i64 (cs.getD k noCol).2.1, .int .i64 (cs.getD k noCol).2.2.1, .int .i64 (cs.getD k noCol).2.2.2.1, .int .i64 (cs.getD k noCol).2.2.2.2], .pointer (some ⟨q, 0, none⟩)] W fun e w' => e = .returned (.bool true) ∧ Fr W.heap.size none W w') :
    Calls Tryz.prog 215 #[.slice a cs.length cap, .func (.func g) #[] #[.pointer (some ⟨q, 0, none⟩)]] w fun e w' => e = .returned (.int .i64 (-1)) ∧ Fr w.heap.size none w w' := by
  have HS := Lib.hid hs; have HL := Lib.hid hl; have HG := Lib.hid hg; have HQ := Lib.hid hq
  have hql := World.block_lt_of_cell? w _ hq
  dsimp only at hql
  clear hs hl hg hq
  go_enter Tryz.func215, Tryz.ntmps215
  go_wp2
  go_loopw [5, 10] (fun v i wr => ∃ (k : Nat) (z : Int), k ≤ cs.length ∧ i = .int .i64 k ∧ v = .int .i64 z ∧ Hid (z = if k = 0 then 0 else (cs.getD (k - 1) noCol).2.2.2.2) ∧ Fr w.heap.size none w wr) (fun _ i _ => cs.length - (intOf i).toNat)
  case atStart => exact ⟨0, 0, Nat.zero_le _, rfl, rfl, rfl, Fr.refl _ _ _⟩
  case round =>
    obtain ⟨k, z, hk, rfl, rfl, hZ, hF⟩ := hrel
    have HF := Lib.hid hF; have hz1 := hF.size; clear hF
    by_cases hlt : k < cs.length
    · obtain ⟨b, off, rfl, c0, c1, c2, c3, c4⟩ := (HS.out.fr HF.out).col k hlt
      have F1 := Lib.hid (HF.out.alloc hz1 (.cells #[.int .i64 (cs.getD k noCol).1, .int .i64 (cs.getD k noCol).2.1, .int .i64 (cs.getD k noCol).2.2.1, .int .i64 (cs.getD k noCol).2.2.2.1, .int .i64 (cs.getD k noCol).2.2.2.2] 149))
      have CG := Lib.hid (HG.out k hlt _ ((F1.out.cell (p := ⟨q, 0, none⟩) hql (by simp)).trans HQ.out) (HS.out.fr F1.out))
      clear F1
      have e1 := HL.out k hlt
      rw [← hZ.out] at e1
      have e2 := Lib.hid (show (cs.getD k noCol).2.2.2.2 = if k + 1 = 0 then 0 else (cs.getD (k + 1 - 1) noCol).2.2.2.2 by rw [if_neg (by omega), show k + 1 - 1 = k by omega])
      obtain ⟨c, hc⟩ : ∃ c, cs.getD k noCol = c := ⟨_, rfl⟩
      rw [hc] at CG e1 c0 c1 c2 c3 c4
      have e3 := Lib.hid (show c.2.2.2.2 = if k + 1 = 0 then 0 else (cs.getD (k + 1 - 1) noCol).2.2.2.2 by rw [← hc]; exact e2.out)
      clear e2 hc
      obtain ⟨x1, x2, x3, x4, x5⟩ := c
      dsimp only at *
      subst e1
      have hzz : (x3 != x3) = false := by simp
      have k0 : (0 : Int) ≤ (k : Int) := by omega
      have k1 : (k : Int) < (cs.length : Int) := by omega
      clear hZ
      go_wp2_with fail
      refine CG.out.mono ?_; rintro e w2 ⟨rfl, hF2⟩
      have d4 : w2.cell? ⟨wr.heap.size, 4, none⟩ = some (.int .i64 x5) := (hF2.cell (by simp) (by simp)).trans (by go_simp)
      have F2 := Lib.hid ((HF.out.alloc hz1 (.cells #[.int .i64 x1, .int .i64 x2, .int .i64 x3, .int .i64 x4, .int .i64 x5] 149)).and hF2)
      clear hF2 c0 c1 c2 c3 c4
      go_wp2
      go_roundw
      case rel => exact ⟨k + 1, x5, by omega, by go_num, rfl, e3, F2.out⟩
      case measure => simp [intOf]; omega
    · have hge : (cs.length : Int) ≤ (k : Int) := by omega
      go_wp2
      go_ret
      exact ⟨rfl, HF.out⟩

set_option maxRecDepth 100000 in
theorem implWrongRow_none (a : Option Addr) (cap : Nat) (cs : List Col) (w : World) (hs : Sl w a (cols cs)) (hn : cs.length ≤ 9) (h1 : 1 ≤ cs.length) (hl : Linked cs) (hg : ∀ k, k < cs.length → goodR (cs.getD 0 noCol).2.1 (cs.getD k noCol) = true) :
    Calls Tryz.prog 220 #[.slice a cs.length cap] w fun e w' => e = .returned (.int .i64 (-1)) ∧ Fr w.heap.size none w w' := by
  have HE := Lib.hid (enters_by (P := Tryz.prog) Tryz.func240 (by kernel_rfl) rfl)
  have F0 := Lib.hid ((Fr.refl w.heap.size none w).alloc (Nat.le_refl _) (.cells #[.slice a cs.length cap] 126))
  have HS := Lib.hid (hs.fr F0.out); clear hs
  have HQ := Lib.hid (show (w.alloc (.cells #[.slice a cs.length cap] 126)).cell? ⟨w.heap.size, 0, none⟩ = some (.slice a cs.length cap) by go_simp)
  have CW := Lib.hid (wrong_noneC 240 w.heap.size (.slice a cs.length cap) HE.out a cap cs _ HS.out (by omega) hl HQ.out (fun k hk W2 hp hS => rowGood_any w.heap.size a cap cs _ W2 hp hS (by omega) (hg k hk)))
  have hin := Lib.hid (show inB (cs.length : Int) 1 9 = true from inB_true.2 (by omega))
  clear hg hl
  go_enter Tryz.func220, Tryz.ntmps220
  go_wp2_with fail
  refine (in_val hin.out _).mono ?_; rintro e w' ⟨rfl, rfl⟩
  go_wp2_with fail
  refine CW.out.mono ?_; rintro e w2 ⟨rfl, hF⟩
  have F2 := Lib.hid (F0.out.and hF); clear hF
  go_wp2
  go_ret
  exact ⟨rfl, F2.out⟩
end Go.Proofs.YtdngnmpmaacapaaGreatDoor
/-
  Contracts: WrongRow of the reference.
-/
namespace Go.Proofs.YtdngnmpmaacapaaGreatDoor
open Go.RowKit

set_option maxHeartbeats 4000000 in
set_option maxRecDepth 100000 in
theorem specWrongRow_none (a : Option Addr) (cap : Nat) (cs : List Col) (w : World) (hs : Sl w a (cols cs)) (hn : cs.length ≤ 9) (h1 : 1 ≤ cs.length) (hl : Linked cs) (hg : ∀ k, k < cs.length → goodR (cs.getD 0 noCol).2.1 (cs.getD k noCol) = true) :
    Calls Tryz.prog 202 #[.slice a cs.length cap] w fun e w' => e = .returned (.int .i64 (-1)) ∧ Fr w.heap.size none w w' := by
  have HS := Lib.hid hs; have HL := Lib.hid hl; have HG := Lib.hid hg; clear hs hl hg
  have hin := Lib.hid (show inB (cs.length : Int) 1 9 = true from inB_true.2 (by omega))
  go_enter Tryz.func202, Tryz.ntmps202
  go_wp2_with fail
  refine (l1In_val hin.out _).mono ?_; rintro e w' ⟨rfl, rfl⟩
  go_wp2
  go_loopw [3, 4] (fun v i wr => ∃ (k : Nat) (z : Int), k ≤ cs.length ∧ i = .int .i64 k ∧ v = .int .i64 z ∧ Hid (z = if k = 0 then 0 else (cs.getD (k - 1) noCol).2.2.2.2) ∧ Fr w.heap.size none w wr) (fun _ i _ => cs.length - (intOf i).toNat)
  case atStart => exact ⟨0, 0, Nat.zero_le _, rfl, rfl, rfl, Fr.refl _ _ _⟩
  case round =>
    obtain ⟨k, z, hk, rfl, rfl, hZ, hF⟩ := hrel
    have HF := Lib.hid hF; have hz1 := hF.size; clear hF
    by_cases hlt : k < cs.length
    · obtain ⟨b, off, ha, c0, c1, c2, c3, c4⟩ := (HS.out.fr HF.out).col k hlt
      obtain ⟨b', off', ha', _, f1, _, _, _⟩ := (HS.out.fr HF.out).col 0 (by omega)
      rw [ha] at ha'
      cases ha'
      subst ha
      rw [Nat.zero_mul, Nat.add_zero] at f1
      have gg := goodR_parts (HG.out k hlt)
      have e1 := HL.out k hlt
      rw [← hZ.out] at e1
      have e2 := Lib.hid (show (cs.getD k noCol).2.2.2.2 = if k + 1 = 0 then 0 else (cs.getD (k + 1 - 1) noCol).2.2.2.2 by rw [if_neg (by omega), show k + 1 - 1 = k by omega])
      obtain ⟨c, hc⟩ : ∃ c, cs.getD k noCol = c := ⟨_, rfl⟩
      rw [hc] at gg e1 c0 c1 c2 c3 c4
      have e3 := Lib.hid (show c.2.2.2.2 = if k + 1 = 0 then 0 else (cs.getD (k + 1 - 1) noCol).2.2.2.2 by rw [← hc]; exact e2.out)
      obtain ⟨⟨i1, i2, i3, i4, i5⟩, hb, he⟩ := gg
      rw [← hb] at f1
      clear e2 hc hb
      obtain ⟨x1, x2, x3, x4, x5⟩ := c
      dsimp only at *
      subst e1
      have b1 := inB_true.1 i1; have b2 := inB_true.1 i2; have b3 := inB_true.1 i3; have b4 := inB_true.1 i4; have b5 := inB_true.1 i5
      have I1 := Lib.hid i1; have I2 := Lib.hid i2; have I3 := Lib.hid i3; have I4 := Lib.hid i4; have I5 := Lib.hid i5
      have bp := mul_le b1 b2
      obtain ⟨p, hpp⟩ : ∃ z, x1 * x2 = z := ⟨_, rfl⟩
      rw [hpp] at bp he
      have hzz : (x3 != x3) = false := by simp
      have hww : (x2 != x2) = false := by simp
      have hyy : (p + x3 != x4 + 10 * x5) = false := by rw [he]; simp
      have k0 : (0 : Int) ≤ (k : Int) := by omega
      have k1 : (k : Int) < (cs.length : Int) := by omega
      have k2 : (0 : Int) < (cs.length : Int) := by omega
      clear hZ he i1 i2 i3 i4 i5
      go_wp2_with fail
      refine (l1In_val I1.out _).mono ?_; rintro e w' ⟨rfl, rfl⟩
      go_wp2_with fail
      refine (l1In_val I2.out _).mono ?_; rintro e w' ⟨rfl, rfl⟩
      go_wp2_with fail
      refine (l1In_val I3.out _).mono ?_; rintro e w' ⟨rfl, rfl⟩
      go_wp2_with fail
      refine (l1In_val I4.out _).mono ?_; rintro e w' ⟨rfl, rfl⟩
      go_wp2_with fail
      refine (l1In_val I5.out _).mono ?_; rintro e w' ⟨rfl, rfl⟩
      go_upto_region 9 with fail
      obtain ⟨w0, hw0⟩ : ∃ w0, w0 = wr.alloc (.cells #[.int .i64 x1, .int .i64 x2, .int .i64 x3, .int .i64 x4, .int .i64 x5] 149) := ⟨_, rfl⟩
      have G0 := Lib.hid (show Fr w.heap.size none w w0 by rw [hw0]; exact HF.out.alloc hz1 _)
      have hbl := World.block_lt_of_cell? wr _ f1
      have q0 : w0.cell? ⟨wr.heap.size, 0, none⟩ = some (.int .i64 x1) := by rw [hw0]; go_simp
      have q1 : w0.cell? ⟨wr.heap.size, 1, none⟩ = some (.int .i64 x2) := by rw [hw0]; go_simp
      have q2 : w0.cell? ⟨wr.heap.size, 2, none⟩ = some (.int .i64 x3) := by rw [hw0]; go_simp
      have q3 : w0.cell? ⟨wr.heap.size, 3, none⟩ = some (.int .i64 x4) := by rw [hw0]; go_simp
      have q4 : w0.cell? ⟨wr.heap.size, 4, none⟩ = some (.int .i64 x5) := by rw [hw0]; go_simp
      have q5 : w0.cell? ⟨b, off + 1, none⟩ = some (.int .i64 x2) := by rw [hw0, World.cell?_alloc_lt _ _ _ hbl]; exact f1
      rw [← hw0]
      clear hw0 c0 c1 c2 c3 c4 f1
      go_quiet (fail)
      go_wp2
      go_roundw
      case rel => exact ⟨k + 1, x5, by omega, by go_num, rfl, e3, G0.out.drewN _⟩
      case measure => simp [intOf]; omega
    · have hge : (cs.length : Int) ≤ (k : Int) := by omega
      go_wp2
      go_ret
      exact ⟨rfl, HF.out⟩
end Go.Proofs.YtdngnmpmaacapaaGreatDoor
