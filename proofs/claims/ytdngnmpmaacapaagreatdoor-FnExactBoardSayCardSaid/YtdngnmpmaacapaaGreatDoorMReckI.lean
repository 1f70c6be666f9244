/-
  Merged: ReckI LineI ReckS LineS LineR.
-/
import Derived.Test.YtdngnmpmaacapaaGreatDoorMRowsC
import Derived.Test.YtdngnmpmaacapaaGreatDoorMDivI
import Derived.Test.YtdngnmpmaacapaaGreatDoorMTold
import Derived.Test.YtdngnmpmaacapaaGreatDoorMTrim
import Derived.Test.YtdngnmpmaacapaaGreatDoorMLineD
import Derived.Lib.QuietBelow
import Derived.Test.YtdngnmpmaacapaaGreatDoorMDrawJ
import Derived.Test.YtdngnmpmaacapaaGreatDoorMTell
import Derived.Test.YtdngnmpmaacapaaGreatDoorMScoreC
set_option linter.unusedVariables false
set_option linter.unusedSimpArgs false
/-
  Contracts: reckon of the program: a line of a word and numerals. (Printed by gen_reck.py.)
-/
namespace Go.Proofs.YtdngnmpmaacapaaGreatDoor
open Go.RowKit Go.Sort

theorem regr {f : FuncId} {args : Array Value} {v : Value} {w : World} (h : ∀ W, Fr w.heap.size none w W → Calls Tryz.prog f args W fun e w' => e = .returned v ∧ Fr W.heap.size none W w') :
    ∀ d os, Calls Tryz.prog f args (grow (redrawn w d) os) fun e w'' => e = .returned v ∧ ∃ p : Regrown, w'' = grow (redrawn w p.d) p.os := fun d os =>
  Calls.regrown_of ((h _ (Fr.of_below (below_regrown w d os))).mono fun _ _ ⟨he, hF⟩ => ⟨he, hF.below⟩)
theorem quo_cases (s : ByteArray) (d : Int) : (quoI s d = (⟨#[]⟩, -1, false)) ∨ ((quoI s d).2.2 = true ∧ 0 ≤ (quoI s d).2.1 ∧ (quoI s d).2.1 < 99 ∧ (quoI s d).1.size ≤ 9) := by
  have hb := quoI_bd s d
  unfold quoI at hb ⊢
  split
  · next h =>
    simp only [Bool.and_eq_true, inB_true] at h
    have := divC_bd (s := s) (d := d) (by omega) s.size
    refine .inr ⟨rfl, by dsimp only; omega, by dsimp only; omega, ?_⟩
    dsimp only
    unfold plainT
    split
    · next h2 =>
      simp only [plainOk, Bool.and_eq_true] at h2
      exact (num_len h2.2).2
    · show (0 : Nat) ≤ 9; omega
  · exact .inl rfl
theorem nineI_bd (s : ByteArray) : -1 ≤ nineI s ∧ nineI s ≤ 8 := by unfold nineI; split <;> omega
theorem elevI_bd (s : ByteArray) : -1 ≤ elevI s ∧ elevI s ≤ 10 := by unfold elevI; split <;> omega

set_option maxRecDepth 100000 in
theorem implReck_sum (b off cap : Nat) (x y : ByteArray) (w : World) (c0 : w.cell? ⟨b, off, none⟩ = some (.string ⟨#[115, 117, 109]⟩)) (c1 : w.cell? ⟨b, off + 1, none⟩ = some (.string x)) (c2 : w.cell? ⟨b, off + 2, none⟩ = some (.string y)) (hx : x.size ≤ 1048576) (hy : y.size ≤ 1048576) :
    Calls Tryz.prog 83 #[.slice (some ⟨b, off, none⟩) 3 cap] w fun e w' => e = .returned (.string (orS (sumI x y).1 (sumI x y).2)) ∧ Fr w.heap.size none w w' := by
  have k1 := cell_regrown c1
  have k2 := cell_regrown c2
  have cS := regr (w := w) (fun W _ => implSum_any x y W hx hy)
  have cO := regr (w := w) (fun W _ => sameFr (or_any (sumI x y).1 (sumI x y).2 W))
  generalize sumI x y = r at *
  obtain ⟨r1, r2⟩ := r
  dsimp only at *
  generalize orS r1 r2 = res at *
  go_enter Tryz.func83, Tryz.ntmps83
  go_wp2
  refine wp_region_quiet_below (by kernel_rfl) (by kernel_rfl) ?_
  repeat (quiet_step (first | (go_at_call 116; exact cS _ _) | (go_at_call 112; exact cO _ _)))
  refine wpQuiet_nil ?_
  intro _ hw'
  obtain ⟨⟨dq, osq⟩, hw2⟩ := hw'
  subst hw2
  go_wp2
  go_ret
  exact ⟨rfl, Fr.of_below (below_regrown w dq osq)⟩
set_option maxRecDepth 100000 in
theorem implReck_left (b off cap : Nat) (x y : ByteArray) (w : World) (c0 : w.cell? ⟨b, off, none⟩ = some (.string ⟨#[108, 101, 102, 116]⟩)) (c1 : w.cell? ⟨b, off + 1, none⟩ = some (.string x)) (c2 : w.cell? ⟨b, off + 2, none⟩ = some (.string y)) (hx : x.size ≤ 1048576) (hy : y.size ≤ 1048576) :
    Calls Tryz.prog 83 #[.slice (some ⟨b, off, none⟩) 3 cap] w fun e w' => e = .returned (.string (orS (difI x y).1 (difI x y).2)) ∧ Fr w.heap.size none w w' := by
  have k1 := cell_regrown c1
  have k2 := cell_regrown c2
  have cS := regr (w := w) (fun W _ => implDif_any x y W hx hy)
  have cO := regr (w := w) (fun W _ => sameFr (or_any (difI x y).1 (difI x y).2 W))
  generalize difI x y = r at *
  obtain ⟨r1, r2⟩ := r
  dsimp only at *
  generalize orS r1 r2 = res at *
  go_enter Tryz.func83, Tryz.ntmps83
  go_wp2
  refine wp_region_quiet_below (by kernel_rfl) (by kernel_rfl) ?_
  repeat (quiet_step (first | (go_at_call 117; exact cS _ _) | (go_at_call 112; exact cO _ _)))
  refine wpQuiet_nil ?_
  intro _ hw'
  obtain ⟨⟨dq, osq⟩, hw2⟩ := hw'
  subst hw2
  go_wp2
  go_ret
  exact ⟨rfl, Fr.of_below (below_regrown w dq osq)⟩
set_option maxRecDepth 100000 in
theorem implReck_product (b off cap : Nat) (x y : ByteArray) (w : World) (c0 : w.cell? ⟨b, off, none⟩ = some (.string ⟨#[112, 114, 111, 100, 117, 99, 116]⟩)) (c1 : w.cell? ⟨b, off + 1, none⟩ = some (.string x)) (c2 : w.cell? ⟨b, off + 2, none⟩ = some (.string y)) (hx : x.size ≤ 1048576) (hy : y.size ≤ 1048576) :
    Calls Tryz.prog 83 #[.slice (some ⟨b, off, none⟩) 3 cap] w fun e w' => e = .returned (.string (orS (prodI x y).1 (prodI x y).2)) ∧ Fr w.heap.size none w w' := by
  have k1 := cell_regrown c1
  have k2 := cell_regrown c2
  have cS := regr (w := w) (fun W _ => implProd_any x y W hx hy)
  have cO := regr (w := w) (fun W _ => sameFr (or_any (prodI x y).1 (prodI x y).2 W))
  generalize prodI x y = r at *
  obtain ⟨r1, r2⟩ := r
  dsimp only at *
  generalize orS r1 r2 = res at *
  go_enter Tryz.func83, Tryz.ntmps83
  go_wp2
  refine wp_region_quiet_below (by kernel_rfl) (by kernel_rfl) ?_
  repeat (quiet_step (first | (go_at_call 118; exact cS _ _) | (go_at_call 112; exact cO _ _)))
  refine wpQuiet_nil ?_
  intro _ hw'
  obtain ⟨⟨dq, osq⟩, hw2⟩ := hw'
  subst hw2
  go_wp2
  go_ret
  exact ⟨rfl, Fr.of_below (below_regrown w dq osq)⟩
set_option maxHeartbeats 1000000 in
set_option maxRecDepth 100000 in
theorem implReck_divide_no (b off cap : Nat) (x y : ByteArray) (w : World) (hT : Tab w) (c0 : w.cell? ⟨b, off, none⟩ = some (.string ⟨#[100, 105, 118, 105, 100, 101]⟩)) (c1 : w.cell? ⟨b, off + 1, none⟩ = some (.string x)) (c2 : w.cell? ⟨b, off + 2, none⟩ = some (.string y)) (hx : x.size ≤ 1048576) (hy : y.size ≤ 1048576)
    (hq : quoI x (valI y) = (⟨#[]⟩, -1, false)) :
    Calls Tryz.prog 83 #[.slice (some ⟨b, off, none⟩) 3 cap] w fun e w' => e = .returned (.string (quoS x (valI y))) ∧ Fr w.heap.size none w w' := by
  have k1 := cell_regrown c1
  have k2 := cell_regrown c2
  have cV := regr (w := w) (fun W _ => implValue_any y W hy)
  have cQ := regr (w := w) (fun W _ => implQuotient_any x (valI y) W hx)
  have hr := Lib.hid (show noneS = quoS x (valI y) by unfold quoS; rw [hq]; rfl)
  rw [hq] at cQ
  dsimp only at cQ
  have CI := Lib.hid (fun W (hF : Fr w.heap.size none w W) => itoaM W (hT.fr hF))
  have CO := Lib.hid (fun t W => or_any t false W)
  generalize valI y = vy at *
  go_enter Tryz.func83, Tryz.ntmps83
  go_wp2
  refine wp_region_quiet_below (by kernel_rfl) (by kernel_rfl) ?_
  repeat (quiet_step (first | (go_at_call 120; exact cV _ _) | (go_at_call 119; exact cQ _ _)))
  refine wpQuiet_nil ?_
  intro _ hw'
  obtain ⟨⟨dq, osq⟩, hw2⟩ := hw'
  subst hw2
  have F1 := Lib.hid (Fr.of_below (below_regrown w dq osq))
  clear k1 k2 cV cQ
  generalize grow (redrawn w dq) osq = w1 at *
  go_wp2_with fail
  refine (CI.out _ F1.out).mono ?_; rintro e w2 ⟨rfl, hF2⟩
  have F2 := Lib.hid (F1.out.and hF2); clear hF2
  go_wp2_with fail
  refine (CO.out _ _).mono ?_; rintro e w' ⟨rfl, rfl⟩
  go_wp2
  go_ret
  exact ⟨by rw [← hr.out]; rfl, F2.out⟩
set_option maxHeartbeats 1000000 in
set_option maxRecDepth 100000 in
theorem implReck_divide_yes (b off cap : Nat) (x y : ByteArray) (w : World) (hT : Tab w) (c0 : w.cell? ⟨b, off, none⟩ = some (.string ⟨#[100, 105, 118, 105, 100, 101]⟩)) (c1 : w.cell? ⟨b, off + 1, none⟩ = some (.string x)) (c2 : w.cell? ⟨b, off + 2, none⟩ = some (.string y)) (hx : x.size ≤ 1048576) (hy : y.size ≤ 1048576)
    (q1 : (quoI x (valI y)).2.2 = true) (q2 : 0 ≤ (quoI x (valI y)).2.1) (q3 : (quoI x (valI y)).2.1 < 99) (q4 : (quoI x (valI y)).1.size ≤ 9) :
    Calls Tryz.prog 83 #[.slice (some ⟨b, off, none⟩) 3 cap] w fun e w' => e = .returned (.string (quoS x (valI y))) ∧ Fr w.heap.size none w w' := by
  have k1 := cell_regrown c1
  have k2 := cell_regrown c2
  have cV := regr (w := w) (fun W _ => implValue_any y W hy)
  have cQ := regr (w := w) (fun W _ => implQuotient_any x (valI y) W hx)
  have hr := Lib.hid (show orS ((quoI x (valI y)).1 ++ ⟨#[32]⟩ ++ decS (quoI x (valI y)).2.1.toNat) true = quoS x (valI y) by unfold quoS; rw [q1])
  rw [q1] at cQ
  obtain ⟨k, hk⟩ : ∃ k : Nat, (quoI x (valI y)).2.1 = (k : Int) := ⟨(quoI x (valI y)).2.1.toNat, by omega⟩
  rw [hk] at cQ hr q2 q3
  rw [show ((k : Int)).toNat = k by omega] at hr
  have CI := Lib.hid (fun W (hF : Fr w.heap.size none w W) => itoaS k W (by omega))
  have ds := decS_size2 (n := k) (by omega)
  generalize (quoI x (valI y)).1 = qt at *
  generalize decS k = dk at *
  have CO := Lib.hid (fun t W => or_any t true W)
  have hno : ¬ 9223372036854775807 < qt.size + 1 := by omega
  have hno2 : ¬ 9223372036854775807 < qt.size + 1 + dk.size := by omega
  clear hk q1 hx hy
  generalize valI y = vy at *
  go_enter Tryz.func83, Tryz.ntmps83
  go_wp2
  refine wp_region_quiet_below (by kernel_rfl) (by kernel_rfl) ?_
  repeat (quiet_step (first | (go_at_call 120; exact cV _ _) | (go_at_call 119; exact cQ _ _)))
  refine wpQuiet_nil ?_
  intro _ hw'
  obtain ⟨⟨dq, osq⟩, hw2⟩ := hw'
  subst hw2
  have F1 := Lib.hid (Fr.of_below (below_regrown w dq osq))
  clear k1 k2 cV cQ
  generalize grow (redrawn w dq) osq = w1 at *
  go_wp2_with fail
  refine (CI.out _ F1.out).mono ?_; rintro e w2 ⟨rfl, hF2⟩
  have F2 := Lib.hid (F1.out.and hF2); clear hF2
  go_wp2_with fail
  refine (CO.out _ _).mono ?_; rintro e w' ⟨rfl, rfl⟩
  go_wp2
  go_ret
  exact ⟨by rw [← hr.out]; rfl, F2.out⟩
set_option maxHeartbeats 1000000 in
set_option maxRecDepth 100000 in
theorem implReck_nine (b off cap : Nat) (x : ByteArray) (w : World) (hT : Tab w) (c0 : w.cell? ⟨b, off, none⟩ = some (.string ⟨#[110, 105, 110, 101]⟩)) (c1 : w.cell? ⟨b, off + 1, none⟩ = some (.string x)) (hx : x.size ≤ 1048576) :
    Calls Tryz.prog 83 #[.slice (some ⟨b, off, none⟩) 2 cap] w fun e w' => e = .returned (.string (toldS (nineI x))) ∧ Fr w.heap.size none w w' := by
  have hb := nineI_bd x
  have CN := Lib.hid (fun W => implNine_any x W hx)
  have CT := Lib.hid (fun W hT => toldI_any (nineI x) W (by omega) (by omega) hT)
  have HT := Lib.hid hT; clear hT hb
  generalize toldS (nineI x) = res at *
  generalize nineI x = n at *
  go_enter Tryz.func83, Tryz.ntmps83
  go_wp2_with fail
  refine (CN.out _).mono ?_; rintro e w' ⟨rfl, rfl⟩
  go_wp2_with fail
  refine (CT.out _ HT.out).mono ?_; rintro e w2 ⟨rfl, hF2⟩
  go_wp2
  go_ret
  exact ⟨rfl, hF2⟩
set_option maxHeartbeats 1000000 in
set_option maxRecDepth 100000 in
theorem implReck_eleven (b off cap : Nat) (x : ByteArray) (w : World) (hT : Tab w) (c0 : w.cell? ⟨b, off, none⟩ = some (.string ⟨#[101, 108, 101, 118, 101, 110]⟩)) (c1 : w.cell? ⟨b, off + 1, none⟩ = some (.string x)) (hx : x.size ≤ 1048576) :
    Calls Tryz.prog 83 #[.slice (some ⟨b, off, none⟩) 2 cap] w fun e w' => e = .returned (.string (toldS (elevI x))) ∧ Fr w.heap.size none w w' := by
  have hb := elevI_bd x
  have CN := Lib.hid (fun W => implEleven_any x W hx)
  have CT := Lib.hid (fun W hT => toldI_any (elevI x) W (by omega) (by omega) hT)
  have HT := Lib.hid hT; clear hT hb
  generalize toldS (elevI x) = res at *
  generalize elevI x = n at *
  go_enter Tryz.func83, Tryz.ntmps83
  go_wp2_with fail
  refine (CN.out _).mono ?_; rintro e w' ⟨rfl, rfl⟩
  go_wp2_with fail
  refine (CT.out _ HT.out).mono ?_; rintro e w2 ⟨rfl, hF2⟩
  go_wp2
  go_ret
  exact ⟨rfl, hF2⟩
set_option maxRecDepth 100000 in
theorem implReck_what_sum (b off n cap : Nat) (w : World) (c0 : w.cell? ⟨b, off, none⟩ = some (.string ⟨#[115, 117, 109]⟩)) (hn : 0 < n) (hl : n ≠ 3) :
    Calls Tryz.prog 83 #[.slice (some ⟨b, off, none⟩) n cap] w fun e w' => e = .returned (.string whatS) ∧ w = w' := by
  have h0 : (0 : Int) < (n : Int) := by omega
  have hz : ((n : Int) == 3) = false := by rw [beq_eq_false_iff_ne]; omega
  go_enter Tryz.func83, Tryz.ntmps83
  go_wp2
  go_ret
  exact ⟨rfl, rfl⟩
set_option maxRecDepth 100000 in
theorem implReck_what_left (b off n cap : Nat) (w : World) (c0 : w.cell? ⟨b, off, none⟩ = some (.string ⟨#[108, 101, 102, 116]⟩)) (hn : 0 < n) (hl : n ≠ 3) :
    Calls Tryz.prog 83 #[.slice (some ⟨b, off, none⟩) n cap] w fun e w' => e = .returned (.string whatS) ∧ w = w' := by
  have h0 : (0 : Int) < (n : Int) := by omega
  have hz : ((n : Int) == 3) = false := by rw [beq_eq_false_iff_ne]; omega
  go_enter Tryz.func83, Tryz.ntmps83
  go_wp2
  go_ret
  exact ⟨rfl, rfl⟩
set_option maxRecDepth 100000 in
theorem implReck_what_product (b off n cap : Nat) (w : World) (c0 : w.cell? ⟨b, off, none⟩ = some (.string ⟨#[112, 114, 111, 100, 117, 99, 116]⟩)) (hn : 0 < n) (hl : n ≠ 3) :
    Calls Tryz.prog 83 #[.slice (some ⟨b, off, none⟩) n cap] w fun e w' => e = .returned (.string whatS) ∧ w = w' := by
  have h0 : (0 : Int) < (n : Int) := by omega
  have hz : ((n : Int) == 3) = false := by rw [beq_eq_false_iff_ne]; omega
  go_enter Tryz.func83, Tryz.ntmps83
  go_wp2
  go_ret
  exact ⟨rfl, rfl⟩
set_option maxRecDepth 100000 in
theorem implReck_what_divide (b off n cap : Nat) (w : World) (c0 : w.cell? ⟨b, off, none⟩ = some (.string ⟨#[100, 105, 118, 105, 100, 101]⟩)) (hn : 0 < n) (hl : n ≠ 3) :
    Calls Tryz.prog 83 #[.slice (some ⟨b, off, none⟩) n cap] w fun e w' => e = .returned (.string whatS) ∧ w = w' := by
  have h0 : (0 : Int) < (n : Int) := by omega
  have hz : ((n : Int) == 3) = false := by rw [beq_eq_false_iff_ne]; omega
  go_enter Tryz.func83, Tryz.ntmps83
  go_wp2
  go_ret
  exact ⟨rfl, rfl⟩
set_option maxRecDepth 100000 in
theorem implReck_what_nine (b off n cap : Nat) (w : World) (c0 : w.cell? ⟨b, off, none⟩ = some (.string ⟨#[110, 105, 110, 101]⟩)) (hn : 0 < n) (hl : n ≠ 2) :
    Calls Tryz.prog 83 #[.slice (some ⟨b, off, none⟩) n cap] w fun e w' => e = .returned (.string whatS) ∧ w = w' := by
  have h0 : (0 : Int) < (n : Int) := by omega
  have hz : ((n : Int) == 2) = false := by rw [beq_eq_false_iff_ne]; omega
  go_enter Tryz.func83, Tryz.ntmps83
  go_wp2
  go_ret
  exact ⟨rfl, rfl⟩
set_option maxRecDepth 100000 in
theorem implReck_what_eleven (b off n cap : Nat) (w : World) (c0 : w.cell? ⟨b, off, none⟩ = some (.string ⟨#[101, 108, 101, 118, 101, 110]⟩)) (hn : 0 < n) (hl : n ≠ 2) :
    Calls Tryz.prog 83 #[.slice (some ⟨b, off, none⟩) n cap] w fun e w' => e = .returned (.string whatS) ∧ w = w' := by
  have h0 : (0 : Int) < (n : Int) := by omega
  have hz : ((n : Int) == 2) = false := by rw [beq_eq_false_iff_ne]; omega
  go_enter Tryz.func83, Tryz.ntmps83
  go_wp2
  go_ret
  exact ⟨rfl, rfl⟩
set_option maxRecDepth 100000 in
theorem implReck_what_none (b off n cap : Nat) (x : ByteArray) (w : World) (c0 : w.cell? ⟨b, off, none⟩ = some (.string x)) (hn : 0 < n) (h0 : x ≠ sumW) (h1 : x ≠ leftW) (h2 : x ≠ productW) (h3 : x ≠ divideW) (h4 : x ≠ nineW) (h5 : x ≠ elevenW) :
    Calls Tryz.prog 83 #[.slice (some ⟨b, off, none⟩) n cap] w fun e w' => e = .returned (.string whatS) ∧ w = w' := by
  have p0 : (0 : Int) < (n : Int) := by omega
  have e0 : (x.toList == [115, 117, 109]) = false := lit_ne (l := [115, 117, 109]) h0
  have e1 : (x.toList == [108, 101, 102, 116]) = false := lit_ne (l := [108, 101, 102, 116]) h1
  have e2 : (x.toList == [112, 114, 111, 100, 117, 99, 116]) = false := lit_ne (l := [112, 114, 111, 100, 117, 99, 116]) h2
  have e3 : (x.toList == [100, 105, 118, 105, 100, 101]) = false := lit_ne (l := [100, 105, 118, 105, 100, 101]) h3
  have e4 : (x.toList == [110, 105, 110, 101]) = false := lit_ne (l := [110, 105, 110, 101]) h4
  have e5 : (x.toList == [101, 108, 101, 118, 101, 110]) = false := lit_ne (l := [101, 108, 101, 118, 101, 110]) h5
  go_enter Tryz.func83, Tryz.ntmps83
  go_wp2
  go_ret
  exact ⟨rfl, rfl⟩
set_option maxHeartbeats 1000000 in
theorem implReck_any (a : Option Addr) (cap : Nat) (ws : List ByteArray) (w : World) (hT : Tab w) (hs : Sl w a (strs ws)) (hn : 0 < ws.length) (hz : ∀ k, k < ws.length → (ws.getD k noS).size ≤ 1048576) :
    Calls Tryz.prog 83 #[.slice a ws.length cap] w fun e w' => e = .returned (.string (reckI ws)) ∧ Fr w.heap.size none w w' := by
  obtain ⟨b, off, rfl, c0⟩ := hs.str 0 hn
  rw [Nat.add_zero] at c0
  have c1 : 1 < ws.length → w.cell? ⟨b, off + 1, none⟩ = some (.string (ws.getD 1 noS)) := fun h => by obtain ⟨b', off', e', h1⟩ := hs.str 1 h; cases e'; exact h1
  have c2 : 2 < ws.length → w.cell? ⟨b, off + 2, none⟩ = some (.string (ws.getD 2 noS)) := fun h => by obtain ⟨b', off', e', h1⟩ := hs.str 2 h; cases e'; exact h1
  have z1 := hz 1
  have z2 := hz 2
  unfold reckI
  generalize ws.getD 0 noS = w0 at *
  generalize ws.getD 1 noS = x at *
  generalize ws.getD 2 noS = y at *
  generalize ws.length = n at *
  clear hs hz
  by_cases h0 : w0 = sumW
  · subst h0
    by_cases hn0 : n = 3
    · subst hn0
      rw [if_pos ⟨rfl, rfl⟩]
      exact implReck_sum b off cap x y w c0 (c1 (by omega)) (c2 (by omega)) (z1 (by omega)) (z2 (by omega))
    · rw [if_neg (fun e => hn0 e.2)]; rw [if_neg (fun e => absurd e.1 (by decide))]; rw [if_neg (fun e => absurd e.1 (by decide))]; rw [if_neg (fun e => absurd e.1 (by decide))]; rw [if_neg (fun e => absurd e.1 (by decide))]; rw [if_neg (fun e => absurd e.1 (by decide))]
      exact sameFr (implReck_what_sum b off n cap w c0 hn hn0)
  by_cases h1 : w0 = leftW
  · subst h1
    by_cases hn1 : n = 3
    · subst hn1
      rw [if_neg (fun e => absurd e.1 (by decide))]; rw [if_pos ⟨rfl, rfl⟩]
      exact implReck_left b off cap x y w c0 (c1 (by omega)) (c2 (by omega)) (z1 (by omega)) (z2 (by omega))
    · rw [if_neg (fun e => absurd e.1 (by decide))]; rw [if_neg (fun e => hn1 e.2)]; rw [if_neg (fun e => absurd e.1 (by decide))]; rw [if_neg (fun e => absurd e.1 (by decide))]; rw [if_neg (fun e => absurd e.1 (by decide))]; rw [if_neg (fun e => absurd e.1 (by decide))]
      exact sameFr (implReck_what_left b off n cap w c0 hn hn1)
  by_cases h2 : w0 = productW
  · subst h2
    by_cases hn2 : n = 3
    · subst hn2
      rw [if_neg (fun e => absurd e.1 (by decide))]; rw [if_neg (fun e => absurd e.1 (by decide))]; rw [if_pos ⟨rfl, rfl⟩]
      exact implReck_product b off cap x y w c0 (c1 (by omega)) (c2 (by omega)) (z1 (by omega)) (z2 (by omega))
    · rw [if_neg (fun e => absurd e.1 (by decide))]; rw [if_neg (fun e => absurd e.1 (by decide))]; rw [if_neg (fun e => hn2 e.2)]; rw [if_neg (fun e => absurd e.1 (by decide))]; rw [if_neg (fun e => absurd e.1 (by decide))]; rw [if_neg (fun e => absurd e.1 (by decide))]
      exact sameFr (implReck_what_product b off n cap w c0 hn hn2)
  by_cases h3 : w0 = divideW
  · subst h3
    by_cases hn3 : n = 3
    · subst hn3
      rw [if_neg (fun e => absurd e.1 (by decide))]; rw [if_neg (fun e => absurd e.1 (by decide))]; rw [if_neg (fun e => absurd e.1 (by decide))]; rw [if_pos ⟨rfl, rfl⟩]
      rcases quo_cases x (valI y) with hq | ⟨q1, q2, q3, q4⟩
      · exact implReck_divide_no b off cap x y w hT c0 (c1 (by omega)) (c2 (by omega)) (z1 (by omega)) (z2 (by omega)) hq
      · exact implReck_divide_yes b off cap x y w hT c0 (c1 (by omega)) (c2 (by omega)) (z1 (by omega)) (z2 (by omega)) q1 q2 q3 q4
    · rw [if_neg (fun e => absurd e.1 (by decide))]; rw [if_neg (fun e => absurd e.1 (by decide))]; rw [if_neg (fun e => absurd e.1 (by decide))]; rw [if_neg (fun e => hn3 e.2)]; rw [if_neg (fun e => absurd e.1 (by decide))]; rw [if_neg (fun e => absurd e.1 (by decide))]
      exact sameFr (implReck_what_divide b off n cap w c0 hn hn3)
  by_cases h4 : w0 = nineW
  · subst h4
    by_cases hn4 : n = 2
    · subst hn4
      rw [if_neg (fun e => absurd e.1 (by decide))]; rw [if_neg (fun e => absurd e.1 (by decide))]; rw [if_neg (fun e => absurd e.1 (by decide))]; rw [if_neg (fun e => absurd e.1 (by decide))]; rw [if_pos ⟨rfl, rfl⟩]
      exact implReck_nine b off cap x w hT c0 (c1 (by omega)) (z1 (by omega))
    · rw [if_neg (fun e => absurd e.1 (by decide))]; rw [if_neg (fun e => absurd e.1 (by decide))]; rw [if_neg (fun e => absurd e.1 (by decide))]; rw [if_neg (fun e => absurd e.1 (by decide))]; rw [if_neg (fun e => hn4 e.2)]; rw [if_neg (fun e => absurd e.1 (by decide))]
      exact sameFr (implReck_what_nine b off n cap w c0 hn hn4)
  by_cases h5 : w0 = elevenW
  · subst h5
    by_cases hn5 : n = 2
    · subst hn5
      rw [if_neg (fun e => absurd e.1 (by decide))]; rw [if_neg (fun e => absurd e.1 (by decide))]; rw [if_neg (fun e => absurd e.1 (by decide))]; rw [if_neg (fun e => absurd e.1 (by decide))]; rw [if_neg (fun e => absurd e.1 (by decide))]; rw [if_pos ⟨rfl, rfl⟩]
      exact implReck_eleven b off cap x w hT c0 (c1 (by omega)) (z1 (by omega))
    · rw [if_neg (fun e => absurd e.1 (by decide))]; rw [if_neg (fun e => absurd e.1 (by decide))]; rw [if_neg (fun e => absurd e.1 (by decide))]; rw [if_neg (fun e => absurd e.1 (by decide))]; rw [if_neg (fun e => absurd e.1 (by decide))]; rw [if_neg (fun e => hn5 e.2)]
      exact sameFr (implReck_what_eleven b off n cap w c0 hn hn5)
  rw [if_neg (fun e => h0 e.1)]; rw [if_neg (fun e => h1 e.1)]; rw [if_neg (fun e => h2 e.1)]; rw [if_neg (fun e => h3 e.1)]; rw [if_neg (fun e => h4 e.1)]; rw [if_neg (fun e => h5 e.1)]
  exact sameFr (implReck_what_none b off n cap w0 w c0 hn h0 h1 h2 h3 h4 h5)
end Go.Proofs.YtdngnmpmaacapaaGreatDoor
/-
  Contracts: answer, BoardLine of the program.
-/
namespace Go.Proofs.YtdngnmpmaacapaaGreatDoor
open Go.RowKit

theorem readD_twoWays (s : ByteArray) : ((readD s).2 = true ∧ small (readD s).1.2) ∨ (readD s = (noDeed, false)) := by
  unfold readD
  by_cases hb : s = backS
  · rw [if_pos hb]; exact .inl ⟨rfl, small_back⟩
  · rw [if_neg hb]
    split
    · next x a b c h =>
      by_cases h2 : s ≠ ⟨#[]⟩ ∧ deedT (false, a, b, c) = s
      · rw [if_pos h2]
        refine .inl ⟨rfl, tiny_small (tiny_has (d := (false, a, b, c)) ?_)⟩
        rw [h2.2]; exact h2.1
      · rw [if_neg h2]; exact .inr rfl
    · exact .inr rfl
theorem words_pos (s : ByteArray) : 0 < (wordsB s).length := by
  have h := cutL_ne 32 s.data.toList
  unfold wordsB
  rw [List.length_map]
  exact List.length_pos_iff.2 h
theorem words_small {s : ByteArray} (hs : s.size ≤ 1048576) (k : Nat) (hk : k < (wordsB s).length) : ((wordsB s).getD k noS).size ≤ 1048576 := by
  have e : (wordsB s).getD k noS = (wordsB s)[k] := by simp [List.getD_eq_getElem?_getD, hk]
  rw [e]
  have := words_le (List.getElem_mem hk)
  omega
theorem newTS_as {ys zs : List Tst} {s t : ByteArray} {w : World} {e : Ending} {w' : World} (h : (ys, s) = (zs, t)) (hN : NewTS ys s w e w') : NewTS zs t w e w' := by cases h; exact hN

set_option maxHeartbeats 2000000 in
set_option maxRecDepth 100000 in
theorem implAnswer_any (a : Option Addr) (ca : Nat) (xs : List Tst) (s : ByteArray) (m : Int) (w : World) (hT : Tab w) (hM : w.cell? ⟨0, 0, none⟩ = some (.int .i64 m)) (hs : Sl w a (tests xs)) (hok : boardOkB xs = true) (hz : Small xs) (hc : xs.length ≤ ca) (hsz : s.size ≤ 1048576) :
    Calls Tryz.prog 40 #[.slice a xs.length ca, .string s] w (NewTS (lineI xs s).1 (lineI xs s).2 w) := by
  have hl := board_le hok
  rcases readD_twoWays s with ⟨h2, hd⟩ | hr
  · have e : readD s = ((readD s).1, true) := by rw [← h2]
    have hA := answerDeed_any a ca xs (readD s).1 s m w hs (by omega) hz hd hc e hsz hM
    unfold lineI
    rw [h2]
    exact hA
  · have hL : lineI xs s = (xs, sayI xs s) := by unfold lineI; rw [hr]; rfl
    rw [hL]
    dsimp only
    have CR := implReadDeed_any s m w hsz hM
    unfold ReadPost at CR; rw [hr] at CR
    dsimp only [deedV, noDeed, noTest] at CR
    have CR := Lib.hid CR
    have hb0 := World.block_lt_of_cell? w _ hM
    dsimp only at hb0
    have CQ := Lib.hid (fun W hT hS => quest_any a ca xs s W hT hS hok hz)
    have CC := Lib.hid (fun W hS => cloneT_any a ca xs W hS (by omega))
    have HS := Lib.hid hs; have HT := Lib.hid hT; have HM := Lib.hid hM
    have F0 := Lib.hid (fun (w1 : World) (hF : Fr w.heap.size none w w1) => hF.alloc hF.size (.cells #[.bool false, .string ByteArray.empty, .string ByteArray.empty, .string ByteArray.empty] 54))
    cases hq : askI xs s with
    | some t =>
      have hs' := Lib.hid (show sayI xs s = t by unfold sayI; rw [hq])
      rw [hq] at CQ
      rw [hs'.out]
      clear hr hs hok hz hT hM hq hs' hL
      go_enter Tryz.func40, Tryz.ntmps40
      go_wp2_with fail
      refine CR.out.mono ?_; rintro e w1 ⟨rfl, hF1⟩
      have F1 := Lib.hid hF1; clear hF1
      have F1a := Lib.hid (F0.out w1 F1.out)
      go_wp2_with fail
      refine (CQ.out _ (HT.out.fr F1a.out) (HS.out.fr F1a.out)).mono ?_; rintro e w2 ⟨rfl, hF2⟩
      have F2 := Lib.hid (F1a.out.and hF2); clear hF2
      go_wp2_with fail
      refine (CC.out _ (HS.out.fr F2.out)).mono ?_; rintro e w3 ⟨a3, rfl, ho3, hF3⟩
      have F3 := Lib.hid (F2.out.and hF3)
      have O3 := Lib.hid (ho3.base_le F2.out.size)
      clear ho3 hF3
      go_wp2
      go_ret2
      exact ⟨a3, xs.length, rfl, O3.out, F3.out⟩
    | none =>
      have hs' := Lib.hid (show sayI xs s = reckI (wordsB s) by unfold sayI; rw [hq])
      rw [hq] at CQ
      rw [hs'.out]
      have CW := Lib.hid (fun W hM => split_val (s := s) (m := m) (w := W) rfl hsz hM)
      have CK := Lib.hid (fun a c W hT hS => implReck_any a c (wordsB s) W hT hS (words_pos s) (words_small hsz))
      have WL := Lib.hid (show (strs (wordsB s)).length = (wordsB s).length from strs_length _)
      clear hr hs hok hz hT hM hq hs' hL
      generalize reckI (wordsB s) = t at *
      generalize wordsB s = ws at *
      go_enter Tryz.func40, Tryz.ntmps40
      go_wp2_with fail
      refine CR.out.mono ?_; rintro e w1 ⟨rfl, hF1⟩
      have F1 := Lib.hid hF1; clear hF1
      have F1a := Lib.hid (F0.out w1 F1.out)
      go_wp2_with fail
      refine (CQ.out _ (HT.out.fr F1a.out) (HS.out.fr F1a.out)).mono ?_; rintro e w2 ⟨rfl, hF2⟩
      have F2 := Lib.hid (F1a.out.and hF2); clear hF2
      go_wp2_with fail
      refine (CC.out _ (HS.out.fr F2.out)).mono ?_; rintro e w3 ⟨a3, rfl, ho3, hF3⟩
      have F3 := Lib.hid (F2.out.and hF3)
      have O3 := Lib.hid ho3
      have M3 := Lib.hid ((F3.out.cell (p := ⟨0, 0, none⟩) hb0 (by simp)).trans HM.out)
      clear hF3
      go_wp2_with fail
      refine (CW.out _ M3.out).mono ?_; rintro e w4 ⟨rfl, rfl⟩
      have S4 := Lib.hid (show Sl (w3.alloc (.cells (ws.map Value.string).toArray 9)) (some ⟨w3.heap.size, 0, none⟩) (strs ws) by
        intro j hj
        refine ⟨w3.heap.size, 0, rfl, ?_⟩
        rw [Nat.zero_add, World.cell?_alloc_at _ _ _ _ rfl]
        simp [strs] at hj ⊢)
      have F4 := Lib.hid (F3.out.alloc F3.out.size (.cells (ws.map Value.string).toArray 9))
      have O4 := Lib.hid (O3.out.keep ((Fr.refl w3.heap.size none w3).alloc (Nat.le_refl _) (.cells (ws.map Value.string).toArray 9)))
      go_wp2_with fail
      refine (CK.out _ _ _ (HT.out.fr F4.out) S4.out).mono ?_; rintro e w5 ⟨rfl, hF5⟩
      have F5 := Lib.hid (F4.out.and hF5)
      have O5 := Lib.hid ((O4.out.keep hF5).base_le F2.out.size)
      clear hF5
      go_wp2
      go_ret2
      exact ⟨a3, xs.length, rfl, O5.out, F5.out⟩

set_option maxRecDepth 100000 in
theorem implLine_any (a : Option Addr) (ca : Nat) (xs : List Tst) (s : ByteArray) (m : Int) (w : World) (hT : Tab w) (hM : w.cell? ⟨0, 0, none⟩ = some (.int .i64 m)) (hs : Sl w a (tests xs)) (hm : xs.length ≤ 1048576) (hz : Small xs) (hc : xs.length ≤ ca) (hsz : s.size ≤ 1048576) :
    Calls Tryz.prog 9 #[.slice a xs.length ca, .string s] w (NewTS (boardLineI xs s).1 (boardLineI xs s).2 w) := by
  cases hok : boardOkB xs
  · have hr : boardLineI xs s = ([], ⟨#[]⟩) := by unfold boardLineI; rw [hok]; rfl
    rw [hr]
    have HOK := Lib.hid hok; clear hok
    have HS := Lib.hid hs; clear hs
    go_enter Tryz.func9, Tryz.ntmps9
    go_wp2_with fail
    refine (implBoard_val HS.out hm hz HOK.out).mono ?_; rintro e w1 ⟨rfl, hF1⟩
    go_wp2
    go_ret2
    exact ⟨none, 0, rfl, Own.nil _ _ _ _, hF1⟩
  · have hr : boardLineI xs s = lineI xs s := by unfold boardLineI; rw [hok]; rfl
    rw [hr]
    have hb0 := World.block_lt_of_cell? w _ hM
    dsimp only at hb0
    have CA := Lib.hid (fun W hT hM hS => implAnswer_any a ca xs s m W hT hM hS hok hz hc hsz)
    have HOK := Lib.hid hok; clear hok
    have HS := Lib.hid hs; have HT := Lib.hid hT; have HM := Lib.hid hM; clear hs hT hM
    generalize lineI xs s = r at *
    obtain ⟨r1, r2⟩ := r
    dsimp only at *
    go_enter Tryz.func9, Tryz.ntmps9
    go_wp2_with fail
    refine (implBoard_val HS.out hm hz HOK.out).mono ?_; rintro e w1 ⟨rfl, hF1⟩
    have F1 := Lib.hid hF1
    have S1 := Lib.hid (HS.out.fr hF1)
    have M1 := Lib.hid ((hF1.cell (p := ⟨0, 0, none⟩) hb0 (by simp)).trans HM.out)
    clear hF1
    go_wp2_with fail
    refine (CA.out _ (HT.out.fr F1.out) M1.out S1.out).mono ?_; rintro e w2 ⟨a2, c2, rfl, ho2, hF2⟩
    have F2 := Lib.hid (F1.out.and hF2)
    have O2 := Lib.hid (ho2.base_le F1.out.size)
    clear ho2 hF2
    go_wp2
    go_ret2
    exact ⟨a2, c2, rfl, O2.out, F2.out⟩
end Go.Proofs.YtdngnmpmaacapaaGreatDoor
/-
  Contracts: l10Ask of the reference: a line of a word and numerals. (Printed by gen_reck.py.)
-/
namespace Go.Proofs.YtdngnmpmaacapaaGreatDoor
open Go.RowKit Go.Sort

theorem or_nine (s : ByteArray) : orS (decS (nineI s).toNat) (numOk s) = toldS (nineI s) := by
  unfold nineI toldS orS
  cases h : numOk s
  · simp
  · simp only [if_true]
    rw [if_neg (by omega)]
theorem or_elev (s : ByteArray) : orS (decS (elevI s).toNat) (numOk s) = toldS (elevI s) := by
  unfold elevI toldS orS
  cases h : numOk s
  · simp
  · simp only [if_true]
    rw [if_neg (by omega)]

set_option maxRecDepth 100000 in
theorem specReck_sum (b off cap : Nat) (x y : ByteArray) (w : World) (c0 : w.cell? ⟨b, off, none⟩ = some (.string ⟨#[115, 117, 109]⟩)) (c1 : w.cell? ⟨b, off + 1, none⟩ = some (.string x)) (c2 : w.cell? ⟨b, off + 2, none⟩ = some (.string y)) (hx : x.size ≤ 1048576) (hy : y.size ≤ 1048576) :
    Calls Tryz.prog 51 #[.slice (some ⟨b, off, none⟩) 3 cap] w fun e w' => e = .returned (.string (orS (sumI x y).1 (sumI x y).2)) ∧ Fr w.heap.size none w w' := by
  have k1 := cell_regrown c1
  have k2 := cell_regrown c2
  have cS := regr (w := w) (fun W _ => specSum_any x y W hx hy)
  have cO := regr (w := w) (fun W _ => sameFr (told_any (sumI x y).1 (sumI x y).2 W))
  generalize sumI x y = r at *
  obtain ⟨r1, r2⟩ := r
  dsimp only at *
  generalize orS r1 r2 = res at *
  go_enter Tryz.func51, Tryz.ntmps51
  go_wp2
  refine wp_region_quiet_below (by kernel_rfl) (by kernel_rfl) ?_
  repeat (quiet_step (first | (go_at_call 90; exact cS _ _) | (go_at_call 46; exact cO _ _)))
  refine wpQuiet_nil ?_
  intro _ hw'
  obtain ⟨⟨dq, osq⟩, hw2⟩ := hw'
  subst hw2
  go_wp2
  go_ret
  exact ⟨rfl, Fr.of_below (below_regrown w dq osq)⟩
set_option maxRecDepth 100000 in
theorem specReck_left (b off cap : Nat) (x y : ByteArray) (w : World) (c0 : w.cell? ⟨b, off, none⟩ = some (.string ⟨#[108, 101, 102, 116]⟩)) (c1 : w.cell? ⟨b, off + 1, none⟩ = some (.string x)) (c2 : w.cell? ⟨b, off + 2, none⟩ = some (.string y)) (hx : x.size ≤ 1048576) (hy : y.size ≤ 1048576) :
    Calls Tryz.prog 51 #[.slice (some ⟨b, off, none⟩) 3 cap] w fun e w' => e = .returned (.string (orS (difI x y).1 (difI x y).2)) ∧ Fr w.heap.size none w w' := by
  have k1 := cell_regrown c1
  have k2 := cell_regrown c2
  have cS := regr (w := w) (fun W _ => specDif_any x y W hx hy)
  have cO := regr (w := w) (fun W _ => sameFr (told_any (difI x y).1 (difI x y).2 W))
  generalize difI x y = r at *
  obtain ⟨r1, r2⟩ := r
  dsimp only at *
  generalize orS r1 r2 = res at *
  go_enter Tryz.func51, Tryz.ntmps51
  go_wp2
  refine wp_region_quiet_below (by kernel_rfl) (by kernel_rfl) ?_
  repeat (quiet_step (first | (go_at_call 85; exact cS _ _) | (go_at_call 46; exact cO _ _)))
  refine wpQuiet_nil ?_
  intro _ hw'
  obtain ⟨⟨dq, osq⟩, hw2⟩ := hw'
  subst hw2
  go_wp2
  go_ret
  exact ⟨rfl, Fr.of_below (below_regrown w dq osq)⟩
set_option maxRecDepth 100000 in
theorem specReck_product (b off cap : Nat) (x y : ByteArray) (w : World) (c0 : w.cell? ⟨b, off, none⟩ = some (.string ⟨#[112, 114, 111, 100, 117, 99, 116]⟩)) (c1 : w.cell? ⟨b, off + 1, none⟩ = some (.string x)) (c2 : w.cell? ⟨b, off + 2, none⟩ = some (.string y)) (hx : x.size ≤ 1048576) (hy : y.size ≤ 1048576) :
    Calls Tryz.prog 51 #[.slice (some ⟨b, off, none⟩) 3 cap] w fun e w' => e = .returned (.string (orS (prodI x y).1 (prodI x y).2)) ∧ Fr w.heap.size none w w' := by
  have k1 := cell_regrown c1
  have k2 := cell_regrown c2
  have cS := regr (w := w) (fun W _ => specProd_any x y W hx hy)
  have cO := regr (w := w) (fun W _ => sameFr (told_any (prodI x y).1 (prodI x y).2 W))
  generalize prodI x y = r at *
  obtain ⟨r1, r2⟩ := r
  dsimp only at *
  generalize orS r1 r2 = res at *
  go_enter Tryz.func51, Tryz.ntmps51
  go_wp2
  refine wp_region_quiet_below (by kernel_rfl) (by kernel_rfl) ?_
  repeat (quiet_step (first | (go_at_call 91; exact cS _ _) | (go_at_call 46; exact cO _ _)))
  refine wpQuiet_nil ?_
  intro _ hw'
  obtain ⟨⟨dq, osq⟩, hw2⟩ := hw'
  subst hw2
  go_wp2
  go_ret
  exact ⟨rfl, Fr.of_below (below_regrown w dq osq)⟩
set_option maxHeartbeats 1000000 in
set_option maxRecDepth 100000 in
theorem specReck_divide_no (b off cap : Nat) (x y : ByteArray) (w : World) (c0 : w.cell? ⟨b, off, none⟩ = some (.string ⟨#[100, 105, 118, 105, 100, 101]⟩)) (c1 : w.cell? ⟨b, off + 1, none⟩ = some (.string x)) (c2 : w.cell? ⟨b, off + 2, none⟩ = some (.string y)) (hx : x.size ≤ 1048576) (hy : y.size ≤ 1048576)
    (hq : quoI x (valI y) = (⟨#[]⟩, -1, false)) :
    Calls Tryz.prog 51 #[.slice (some ⟨b, off, none⟩) 3 cap] w fun e w' => e = .returned (.string (quoS x (valI y))) ∧ Fr w.heap.size none w w' := by
  have k1 := cell_regrown c1
  have k2 := cell_regrown c2
  have cV := regr (w := w) (fun W _ => sameFr (specValue_any y W hy))
  have cQ := regr (w := w) (fun W _ => specQuotient_any x (valI y) W hx)
  have hr := Lib.hid (show noneS = quoS x (valI y) by unfold quoS; rw [hq]; rfl)
  rw [hq] at cQ
  dsimp only at cQ
  have CI := Lib.hid (fun W (hF : Fr w.heap.size none w W) => (show Calls Tryz.prog 43 #[.int .i64 (-1)] W fun e w' => e = .returned (.string ⟨#[48]⟩) ∧ Fr W.heap.size none W w' from by have h := l1Number_neg W; rwa [dec_zero] at h))
  have CO := Lib.hid (fun t W => told_any t false W)
  generalize valI y = vy at *
  go_enter Tryz.func51, Tryz.ntmps51
  go_wp2
  refine wp_region_quiet_below (by kernel_rfl) (by kernel_rfl) ?_
  repeat (quiet_step (first | (go_at_call 93; exact cV _ _) | (go_at_call 92; exact cQ _ _)))
  refine wpQuiet_nil ?_
  intro _ hw'
  obtain ⟨⟨dq, osq⟩, hw2⟩ := hw'
  subst hw2
  have F1 := Lib.hid (Fr.of_below (below_regrown w dq osq))
  clear k1 k2 cV cQ
  generalize grow (redrawn w dq) osq = w1 at *
  go_wp2_with fail
  refine (CI.out _ F1.out).mono ?_; rintro e w2 ⟨rfl, hF2⟩
  have F2 := Lib.hid (F1.out.and hF2); clear hF2
  go_wp2_with fail
  refine (CO.out _ _).mono ?_; rintro e w' ⟨rfl, rfl⟩
  go_wp2
  go_ret
  exact ⟨by rw [← hr.out]; rfl, F2.out⟩
set_option maxHeartbeats 1000000 in
set_option maxRecDepth 100000 in
theorem specReck_divide_yes (b off cap : Nat) (x y : ByteArray) (w : World) (c0 : w.cell? ⟨b, off, none⟩ = some (.string ⟨#[100, 105, 118, 105, 100, 101]⟩)) (c1 : w.cell? ⟨b, off + 1, none⟩ = some (.string x)) (c2 : w.cell? ⟨b, off + 2, none⟩ = some (.string y)) (hx : x.size ≤ 1048576) (hy : y.size ≤ 1048576)
    (q1 : (quoI x (valI y)).2.2 = true) (q2 : 0 ≤ (quoI x (valI y)).2.1) (q3 : (quoI x (valI y)).2.1 < 99) (q4 : (quoI x (valI y)).1.size ≤ 9) :
    Calls Tryz.prog 51 #[.slice (some ⟨b, off, none⟩) 3 cap] w fun e w' => e = .returned (.string (quoS x (valI y))) ∧ Fr w.heap.size none w w' := by
  have k1 := cell_regrown c1
  have k2 := cell_regrown c2
  have cV := regr (w := w) (fun W _ => sameFr (specValue_any y W hy))
  have cQ := regr (w := w) (fun W _ => specQuotient_any x (valI y) W hx)
  have hr := Lib.hid (show orS ((quoI x (valI y)).1 ++ ⟨#[32]⟩ ++ decS (quoI x (valI y)).2.1.toNat) true = quoS x (valI y) by unfold quoS; rw [q1])
  rw [q1] at cQ
  obtain ⟨k, hk⟩ : ∃ k : Nat, (quoI x (valI y)).2.1 = (k : Int) := ⟨(quoI x (valI y)).2.1.toNat, by omega⟩
  rw [hk] at cQ hr q2 q3
  rw [show ((k : Int)).toNat = k by omega] at hr
  have CI := Lib.hid (fun W (hF : Fr w.heap.size none w W) => l1Number_any k W (by omega))
  have ds := decS_size2 (n := k) (by omega)
  generalize (quoI x (valI y)).1 = qt at *
  generalize decS k = dk at *
  have CO := Lib.hid (fun t W => told_any t true W)
  have hno : ¬ 9223372036854775807 < qt.size + 1 := by omega
  have hno2 : ¬ 9223372036854775807 < qt.size + 1 + dk.size := by omega
  clear hk q1 hx hy
  generalize valI y = vy at *
  go_enter Tryz.func51, Tryz.ntmps51
  go_wp2
  refine wp_region_quiet_below (by kernel_rfl) (by kernel_rfl) ?_
  repeat (quiet_step (first | (go_at_call 93; exact cV _ _) | (go_at_call 92; exact cQ _ _)))
  refine wpQuiet_nil ?_
  intro _ hw'
  obtain ⟨⟨dq, osq⟩, hw2⟩ := hw'
  subst hw2
  have F1 := Lib.hid (Fr.of_below (below_regrown w dq osq))
  clear k1 k2 cV cQ
  generalize grow (redrawn w dq) osq = w1 at *
  go_wp2_with fail
  refine (CI.out _ F1.out).mono ?_; rintro e w2 ⟨rfl, hF2⟩
  have F2 := Lib.hid (F1.out.and hF2); clear hF2
  go_wp2_with fail
  refine (CO.out _ _).mono ?_; rintro e w' ⟨rfl, rfl⟩
  go_wp2
  go_ret
  exact ⟨by rw [← hr.out]; rfl, F2.out⟩
set_option maxHeartbeats 1000000 in
set_option maxRecDepth 100000 in
theorem specReck_nine (b off cap : Nat) (x : ByteArray) (w : World) (c0 : w.cell? ⟨b, off, none⟩ = some (.string ⟨#[110, 105, 110, 101]⟩)) (c1 : w.cell? ⟨b, off + 1, none⟩ = some (.string x)) (hx : x.size ≤ 1048576) :
    Calls Tryz.prog 51 #[.slice (some ⟨b, off, none⟩) 2 cap] w fun e w' => e = .returned (.string (toldS (nineI x))) ∧ Fr w.heap.size none w w' := by
  have hb := nineI_bd x
  have k1 := cell_regrown c1
  have cN := regr (w := w) (fun W _ => specNine_any x W hx)
  have cL := regr (w := w) (fun W _ => l1Number_int (nineI x) W (by omega) (by omega))
  obtain ⟨ok, hok⟩ : ∃ z, numOk x = z := ⟨_, rfl⟩
  have cM := regr (w := w) (fun W _ => sameFr (numS_val hx hok W))
  have cO := regr (w := w) (fun W _ => sameFr (told_any (decS (nineI x).toNat) ok W))
  have hr := Lib.hid (or_nine x)
  rw [hok] at hr
  rw [hr.out] at cO
  clear hr hok hb
  generalize toldS (nineI x) = res at *
  generalize decS (nineI x).toNat = dt at *
  generalize nineI x = n at *
  go_enter Tryz.func51, Tryz.ntmps51
  go_wp2
  refine wp_region_quiet_below (by kernel_rfl) (by kernel_rfl) ?_
  repeat (quiet_step (first | (go_at_call 94; exact cN _ _) | (go_at_call 43; exact cL _ _) | (go_at_call 53; exact cM _ _) | (go_at_call 46; exact cO _ _)))
  refine wpQuiet_nil ?_
  intro _ hw'
  obtain ⟨⟨dq, osq⟩, hw2⟩ := hw'
  subst hw2
  go_wp2
  go_ret
  exact ⟨rfl, Fr.of_below (below_regrown w dq osq)⟩
set_option maxHeartbeats 1000000 in
set_option maxRecDepth 100000 in
theorem specReck_eleven (b off cap : Nat) (x : ByteArray) (w : World) (c0 : w.cell? ⟨b, off, none⟩ = some (.string ⟨#[101, 108, 101, 118, 101, 110]⟩)) (c1 : w.cell? ⟨b, off + 1, none⟩ = some (.string x)) (hx : x.size ≤ 1048576) :
    Calls Tryz.prog 51 #[.slice (some ⟨b, off, none⟩) 2 cap] w fun e w' => e = .returned (.string (toldS (elevI x))) ∧ Fr w.heap.size none w w' := by
  have hb := elevI_bd x
  have k1 := cell_regrown c1
  have cN := regr (w := w) (fun W _ => sameFr (specEleven_any x W hx))
  have cL := regr (w := w) (fun W _ => l1Number_int (elevI x) W (by omega) (by omega))
  obtain ⟨ok, hok⟩ : ∃ z, numOk x = z := ⟨_, rfl⟩
  have cM := regr (w := w) (fun W _ => sameFr (numS_val hx hok W))
  have cO := regr (w := w) (fun W _ => sameFr (told_any (decS (elevI x).toNat) ok W))
  have hr := Lib.hid (or_elev x)
  rw [hok] at hr
  rw [hr.out] at cO
  clear hr hok hb
  generalize toldS (elevI x) = res at *
  generalize decS (elevI x).toNat = dt at *
  generalize elevI x = n at *
  go_enter Tryz.func51, Tryz.ntmps51
  go_wp2
  refine wp_region_quiet_below (by kernel_rfl) (by kernel_rfl) ?_
  repeat (quiet_step (first | (go_at_call 95; exact cN _ _) | (go_at_call 43; exact cL _ _) | (go_at_call 53; exact cM _ _) | (go_at_call 46; exact cO _ _)))
  refine wpQuiet_nil ?_
  intro _ hw'
  obtain ⟨⟨dq, osq⟩, hw2⟩ := hw'
  subst hw2
  go_wp2
  go_ret
  exact ⟨rfl, Fr.of_below (below_regrown w dq osq)⟩
set_option maxRecDepth 100000 in
theorem specReck_what_sum (b off n cap : Nat) (w : World) (c0 : w.cell? ⟨b, off, none⟩ = some (.string ⟨#[115, 117, 109]⟩)) (hn : 0 < n) (hl : n ≠ 3) :
    Calls Tryz.prog 51 #[.slice (some ⟨b, off, none⟩) n cap] w fun e w' => e = .returned (.string whatS) ∧ w = w' := by
  have h0 : (0 : Int) < (n : Int) := by omega
  have hz : ((n : Int) == 3) = false := by rw [beq_eq_false_iff_ne]; omega
  go_enter Tryz.func51, Tryz.ntmps51
  go_wp2
  go_ret
  exact ⟨rfl, rfl⟩
set_option maxRecDepth 100000 in
theorem specReck_what_left (b off n cap : Nat) (w : World) (c0 : w.cell? ⟨b, off, none⟩ = some (.string ⟨#[108, 101, 102, 116]⟩)) (hn : 0 < n) (hl : n ≠ 3) :
    Calls Tryz.prog 51 #[.slice (some ⟨b, off, none⟩) n cap] w fun e w' => e = .returned (.string whatS) ∧ w = w' := by
  have h0 : (0 : Int) < (n : Int) := by omega
  have hz : ((n : Int) == 3) = false := by rw [beq_eq_false_iff_ne]; omega
  go_enter Tryz.func51, Tryz.ntmps51
  go_wp2
  go_ret
  exact ⟨rfl, rfl⟩
set_option maxRecDepth 100000 in
theorem specReck_what_product (b off n cap : Nat) (w : World) (c0 : w.cell? ⟨b, off, none⟩ = some (.string ⟨#[112, 114, 111, 100, 117, 99, 116]⟩)) (hn : 0 < n) (hl : n ≠ 3) :
    Calls Tryz.prog 51 #[.slice (some ⟨b, off, none⟩) n cap] w fun e w' => e = .returned (.string whatS) ∧ w = w' := by
  have h0 : (0 : Int) < (n : Int) := by omega
  have hz : ((n : Int) == 3) = false := by rw [beq_eq_false_iff_ne]; omega
  go_enter Tryz.func51, Tryz.ntmps51
  go_wp2
  go_ret
  exact ⟨rfl, rfl⟩
set_option maxRecDepth 100000 in
theorem specReck_what_divide (b off n cap : Nat) (w : World) (c0 : w.cell? ⟨b, off, none⟩ = some (.string ⟨#[100, 105, 118, 105, 100, 101]⟩)) (hn : 0 < n) (hl : n ≠ 3) :
    Calls Tryz.prog 51 #[.slice (some ⟨b, off, none⟩) n cap] w fun e w' => e = .returned (.string whatS) ∧ w = w' := by
  have h0 : (0 : Int) < (n : Int) := by omega
  have hz : ((n : Int) == 3) = false := by rw [beq_eq_false_iff_ne]; omega
  go_enter Tryz.func51, Tryz.ntmps51
  go_wp2
  go_ret
  exact ⟨rfl, rfl⟩
set_option maxRecDepth 100000 in
theorem specReck_what_nine (b off n cap : Nat) (w : World) (c0 : w.cell? ⟨b, off, none⟩ = some (.string ⟨#[110, 105, 110, 101]⟩)) (hn : 0 < n) (hl : n ≠ 2) :
    Calls Tryz.prog 51 #[.slice (some ⟨b, off, none⟩) n cap] w fun e w' => e = .returned (.string whatS) ∧ w = w' := by
  have h0 : (0 : Int) < (n : Int) := by omega
  have hz : ((n : Int) == 2) = false := by rw [beq_eq_false_iff_ne]; omega
  go_enter Tryz.func51, Tryz.ntmps51
  go_wp2
  go_ret
  exact ⟨rfl, rfl⟩
set_option maxRecDepth 100000 in
theorem specReck_what_eleven (b off n cap : Nat) (w : World) (c0 : w.cell? ⟨b, off, none⟩ = some (.string ⟨#[101, 108, 101, 118, 101, 110]⟩)) (hn : 0 < n) (hl : n ≠ 2) :
    Calls Tryz.prog 51 #[.slice (some ⟨b, off, none⟩) n cap] w fun e w' => e = .returned (.string whatS) ∧ w = w' := by
  have h0 : (0 : Int) < (n : Int) := by omega
  have hz : ((n : Int) == 2) = false := by rw [beq_eq_false_iff_ne]; omega
  go_enter Tryz.func51, Tryz.ntmps51
  go_wp2
  go_ret
  exact ⟨rfl, rfl⟩
set_option maxRecDepth 100000 in
theorem specReck_what_none (b off n cap : Nat) (x : ByteArray) (w : World) (c0 : w.cell? ⟨b, off, none⟩ = some (.string x)) (hn : 0 < n) (h0 : x ≠ sumW) (h1 : x ≠ leftW) (h2 : x ≠ productW) (h3 : x ≠ divideW) (h4 : x ≠ nineW) (h5 : x ≠ elevenW) :
    Calls Tryz.prog 51 #[.slice (some ⟨b, off, none⟩) n cap] w fun e w' => e = .returned (.string whatS) ∧ w = w' := by
  have p0 : (0 : Int) < (n : Int) := by omega
  have e0 : (x.toList == [115, 117, 109]) = false := lit_ne (l := [115, 117, 109]) h0
  have e1 : (x.toList == [108, 101, 102, 116]) = false := lit_ne (l := [108, 101, 102, 116]) h1
  have e2 : (x.toList == [112, 114, 111, 100, 117, 99, 116]) = false := lit_ne (l := [112, 114, 111, 100, 117, 99, 116]) h2
  have e3 : (x.toList == [100, 105, 118, 105, 100, 101]) = false := lit_ne (l := [100, 105, 118, 105, 100, 101]) h3
  have e4 : (x.toList == [110, 105, 110, 101]) = false := lit_ne (l := [110, 105, 110, 101]) h4
  have e5 : (x.toList == [101, 108, 101, 118, 101, 110]) = false := lit_ne (l := [101, 108, 101, 118, 101, 110]) h5
  go_enter Tryz.func51, Tryz.ntmps51
  go_wp2
  go_ret
  exact ⟨rfl, rfl⟩
set_option maxHeartbeats 1000000 in
theorem specReck_any (a : Option Addr) (cap : Nat) (ws : List ByteArray) (w : World) (hs : Sl w a (strs ws)) (hn : 0 < ws.length) (hz : ∀ k, k < ws.length → (ws.getD k noS).size ≤ 1048576) :
    Calls Tryz.prog 51 #[.slice a ws.length cap] w fun e w' => e = .returned (.string (reckI ws)) ∧ Fr w.heap.size none w w' := by
  obtain ⟨b, off, rfl, c0⟩ := hs.str 0 hn
  rw [Nat.add_zero] at c0
  have c1 : 1 < ws.length → w.cell? ⟨b, off + 1, none⟩ = some (.string (ws.getD 1 noS)) := fun h => by obtain ⟨b', off', e', h1⟩ := hs.str 1 h; cases e'; exact h1
  have c2 : 2 < ws.length → w.cell? ⟨b, off + 2, none⟩ = some (.string (ws.getD 2 noS)) := fun h => by obtain ⟨b', off', e', h1⟩ := hs.str 2 h; cases e'; exact h1
  have z1 := hz 1
  have z2 := hz 2
  unfold reckI
  generalize ws.getD 0 noS = w0 at *
  generalize ws.getD 1 noS = x at *
  generalize ws.getD 2 noS = y at *
  generalize ws.length = n at *
  clear hs hz
  by_cases h0 : w0 = sumW
  · subst h0
    by_cases hn0 : n = 3
    · subst hn0
      rw [if_pos ⟨rfl, rfl⟩]
      exact specReck_sum b off cap x y w c0 (c1 (by omega)) (c2 (by omega)) (z1 (by omega)) (z2 (by omega))
    · rw [if_neg (fun e => hn0 e.2)]; rw [if_neg (fun e => absurd e.1 (by decide))]; rw [if_neg (fun e => absurd e.1 (by decide))]; rw [if_neg (fun e => absurd e.1 (by decide))]; rw [if_neg (fun e => absurd e.1 (by decide))]; rw [if_neg (fun e => absurd e.1 (by decide))]
      exact sameFr (specReck_what_sum b off n cap w c0 hn hn0)
  by_cases h1 : w0 = leftW
  · subst h1
    by_cases hn1 : n = 3
    · subst hn1
      rw [if_neg (fun e => absurd e.1 (by decide))]; rw [if_pos ⟨rfl, rfl⟩]
      exact specReck_left b off cap x y w c0 (c1 (by omega)) (c2 (by omega)) (z1 (by omega)) (z2 (by omega))
    · rw [if_neg (fun e => absurd e.1 (by decide))]; rw [if_neg (fun e => hn1 e.2)]; rw [if_neg (fun e => absurd e.1 (by decide))]; rw [if_neg (fun e => absurd e.1 (by decide))]; rw [if_neg (fun e => absurd e.1 (by decide))]; rw [if_neg (fun e => absurd e.1 (by decide))]
      exact sameFr (specReck_what_left b off n cap w c0 hn hn1)
  by_cases h2 : w0 = productW
  · subst h2
    by_cases hn2 : n = 3
    · subst hn2
      rw [if_neg (fun e => absurd e.1 (by decide))]; rw [if_neg (fun e => absurd e.1 (by decide))]; rw [if_pos ⟨rfl, rfl⟩]
      exact specReck_product b off cap x y w c0 (c1 (by omega)) (c2 (by omega)) (z1 (by omega)) (z2 (by omega))
    · rw [if_neg (fun e => absurd e.1 (by decide))]; rw [if_neg (fun e => absurd e.1 (by decide))]; rw [if_neg (fun e => hn2 e.2)]; rw [if_neg (fun e => absurd e.1 (by decide))]; rw [if_neg (fun e => absurd e.1 (by decide))]; rw [if_neg (fun e => absurd e.1 (by decide))]
      exact sameFr (specReck_what_product b off n cap w c0 hn hn2)
  by_cases h3 : w0 = divideW
  · subst h3
    by_cases hn3 : n = 3
    · subst hn3
      rw [if_neg (fun e => absurd e.1 (by decide))]; rw [if_neg (fun e => absurd e.1 (by decide))]; rw [if_neg (fun e => absurd e.1 (by decide))]; rw [if_pos ⟨rfl, rfl⟩]
      rcases quo_cases x (valI y) with hq | ⟨q1, q2, q3, q4⟩
      · exact specReck_divide_no b off cap x y w c0 (c1 (by omega)) (c2 (by omega)) (z1 (by omega)) (z2 (by omega)) hq
      · exact specReck_divide_yes b off cap x y w c0 (c1 (by omega)) (c2 (by omega)) (z1 (by omega)) (z2 (by omega)) q1 q2 q3 q4
    · rw [if_neg (fun e => absurd e.1 (by decide))]; rw [if_neg (fun e => absurd e.1 (by decide))]; rw [if_neg (fun e => absurd e.1 (by decide))]; rw [if_neg (fun e => hn3 e.2)]; rw [if_neg (fun e => absurd e.1 (by decide))]; rw [if_neg (fun e => absurd e.1 (by decide))]
      exact sameFr (specReck_what_divide b off n cap w c0 hn hn3)
  by_cases h4 : w0 = nineW
  · subst h4
    by_cases hn4 : n = 2
    · subst hn4
      rw [if_neg (fun e => absurd e.1 (by decide))]; rw [if_neg (fun e => absurd e.1 (by decide))]; rw [if_neg (fun e => absurd e.1 (by decide))]; rw [if_neg (fun e => absurd e.1 (by decide))]; rw [if_pos ⟨rfl, rfl⟩]
      exact specReck_nine b off cap x w c0 (c1 (by omega)) (z1 (by omega))
    · rw [if_neg (fun e => absurd e.1 (by decide))]; rw [if_neg (fun e => absurd e.1 (by decide))]; rw [if_neg (fun e => absurd e.1 (by decide))]; rw [if_neg (fun e => absurd e.1 (by decide))]; rw [if_neg (fun e => hn4 e.2)]; rw [if_neg (fun e => absurd e.1 (by decide))]
      exact sameFr (specReck_what_nine b off n cap w c0 hn hn4)
  by_cases h5 : w0 = elevenW
  · subst h5
    by_cases hn5 : n = 2
    · subst hn5
      rw [if_neg (fun e => absurd e.1 (by decide))]; rw [if_neg (fun e => absurd e.1 (by decide))]; rw [if_neg (fun e => absurd e.1 (by decide))]; rw [if_neg (fun e => absurd e.1 (by decide))]; rw [if_neg (fun e => absurd e.1 (by decide))]; rw [if_pos ⟨rfl, rfl⟩]
      exact specReck_eleven b off cap x w c0 (c1 (by omega)) (z1 (by omega))
    · rw [if_neg (fun e => absurd e.1 (by decide))]; rw [if_neg (fun e => absurd e.1 (by decide))]; rw [if_neg (fun e => absurd e.1 (by decide))]; rw [if_neg (fun e => absurd e.1 (by decide))]; rw [if_neg (fun e => absurd e.1 (by decide))]; rw [if_neg (fun e => hn5 e.2)]
      exact sameFr (specReck_what_eleven b off n cap w c0 hn hn5)
  rw [if_neg (fun e => h0 e.1)]; rw [if_neg (fun e => h1 e.1)]; rw [if_neg (fun e => h2 e.1)]; rw [if_neg (fun e => h3 e.1)]; rw [if_neg (fun e => h4 e.1)]; rw [if_neg (fun e => h5 e.1)]
  exact sameFr (specReck_what_none b off n cap w0 w c0 hn h0 h1 h2 h3 h4 h5)
end Go.Proofs.YtdngnmpmaacapaaGreatDoor
/-
  Contracts: BoardLine of the reference. (Printed by gen_lines.py.)
-/
namespace Go.Proofs.YtdngnmpmaacapaaGreatDoor
open Go.RowKit

theorem or_mark (n : Int) (h : -1 ≤ n) : orS (decS n.toNat) (decide (0 ≤ n)) = toldS n := by
  unfold orS toldS
  by_cases hn : n < 0
  · rw [if_pos hn, decide_eq_false (by omega)]; rfl
  · rw [if_neg hn, decide_eq_true (by omega)]; rfl
/-- What the reference's ReadDeed says of a text that is no deed's. -/
theorem readS_no (s : ByteArray) (hs : s.size ≤ 1048576) (h : readD s = (noDeed, false)) (W : World) : Calls Tryz.prog 41 #[.string s] W fun e w' => e = .returned (.tuple #[.agg #[.bool false, .string ByteArray.empty, .string ByteArray.empty, .string ByteArray.empty], .bool false]) ∧ Fr W.heap.size none W w' := by
  have CR := specReadDeed_any s W hs
  unfold ReadPost at CR
  rw [h] at CR
  exact CR
set_option maxHeartbeats 2000000 in
set_option maxRecDepth 100000 in
theorem specLine_score (a : Option Addr) (ca : Nat) (xs : List Tst) (w : World) (hs : Sl w a (tests xs)) (hok : boardOkB xs = true) (hz : Small xs) (hp : a = none → ca = 0) :
    Calls Tryz.prog 10 #[.slice a xs.length ca, .string ⟨#[115, 99, 111, 114, 101]⟩] w (NewTS xs (decS (scoreN xs)) w) := by
  have hl := board_le hok
  have hok2 := board_tests hok
  have HS := Lib.hid hs; have HP := Lib.hid hp; have HOK := Lib.hid hok
  have SW := Lib.hid (fun W (hF : Fr w.heap.size none w W) => (hs.fr hF).fr ((Fr.refl W.heap.size none W).alloc (Nat.le_refl _) (.cells #[] 52)))
  have CR := Lib.hid (fun W => readS_no ⟨#[115, 99, 111, 114, 101]⟩ (by decide) (by decide) W)
  have CS := Lib.hid (fun W hS => specScore_any a ca xs W hS hok2 hz)
  have CL := Lib.hid (fun W => l1Number_any (scoreN xs) W (by have := scoreN_le xs; omega))
  generalize decS (scoreN xs) = t at *
  have HZ := Lib.hid hz
  clear hs hok hok2 hz hp
  go_enter Tryz.func10, Tryz.ntmps10
  go_wp2_with fail
  refine (specBoard_val HS.out (by omega) HZ.out HOK.out).mono ?_; rintro e w1' ⟨rfl, mm, rfl⟩
  obtain ⟨w1, hw1⟩ : ∃ w1, w1 = w.drewN mm := ⟨_, rfl⟩
  have F1 := Lib.hid (show Fr w.heap.size none w w1 by rw [hw1]; exact (Fr.refl w.heap.size none w).drewN mm)
  rw [← hw1]; clear hw1
  have SW1 := Lib.hid (SW.out w1 F1.out)
  go_wp2_with (at_builtin; refine appAllO rfl _ _ rfl a ca xs (World.ownsRow_made (base := w1.heap.size) w1 #[] 0 (Nat.le_refl _) (by simp [maxLen]) (by simp)) rfl rfl HP.out SW1.out (by omega) (by simp) ?_; intro v' w2 ho2 hF2; (
    have K2 := Lib.hid (((Fr.refl w1.heap.size none w1).alloc (Nat.le_refl _) (.cells #[] 52)).trans (hF2.up (B' := w1.heap.size) (by simp) (by intro g hg; cases hg; exact Nat.le_refl _)))
    have F2 := Lib.hid (F1.out.and K2.out)
    obtain ⟨a', c', rfl, hc', hcm⟩ := own_slice ho2
    rw [Nat.zero_add] at ho2 hc'
    rw [List.nil_append] at ho2
    have O2 := Lib.hid ((Own.of ho2).base_le F1.out.size); clear ho2 hF2 hc' hcm))
  refine (CR.out _).mono ?_; rintro e w3 ⟨rfl, hF3⟩
  have F3 := Lib.hid (F2.out.and hF3)
  have O3 := Lib.hid (O2.out.keep hF3)
  clear hF3
  have F4 := Lib.hid (F3.out.alloc F3.out.size (.cells #[.bool false, .string ByteArray.empty, .string ByteArray.empty, .string ByteArray.empty] 54))
  have O4 := Lib.hid (O3.out.keep ((Fr.refl w3.heap.size none w3).alloc (Nat.le_refl _) (.cells #[.bool false, .string ByteArray.empty, .string ByteArray.empty, .string ByteArray.empty] 54)))
  have S4 := Lib.hid (HS.out.fr F4.out)
  go_wp2_with fail
  refine (CS.out _ S4.out).mono ?_; rintro e w5 ⟨rfl, hF5⟩
  have F5 := Lib.hid (F4.out.and hF5); have O5 := Lib.hid (O4.out.keep hF5); clear hF5
  go_wp2_with fail
  refine (CL.out _).mono ?_; rintro e w6 ⟨rfl, hF6⟩
  go_wp2
  go_ret2
  exact ⟨a', c', rfl, O5.out.keep hF6, F5.out.and hF6⟩
set_option maxHeartbeats 2000000 in
set_option maxRecDepth 100000 in
theorem specLine_mark (a : Option Addr) (ca : Nat) (xs : List Tst) (w : World) (hs : Sl w a (tests xs)) (hok : boardOkB xs = true) (hz : Small xs) (hp : a = none → ca = 0) :
    Calls Tryz.prog 10 #[.slice a xs.length ca, .string ⟨#[109, 97, 114, 107]⟩] w (NewTS xs (toldS (markI (scoreN xs) xs.length)) w) := by
  have hl := board_le hok
  have hok2 := board_tests hok
  have HS := Lib.hid hs; have HP := Lib.hid hp; have HOK := Lib.hid hok
  have SW := Lib.hid (fun W (hF : Fr w.heap.size none w W) => (hs.fr hF).fr ((Fr.refl W.heap.size none W).alloc (Nat.le_refl _) (.cells #[] 52)))
  have CR := Lib.hid (fun W => readS_no ⟨#[109, 97, 114, 107]⟩ (by decide) (by decide) W)
  have hsc := scoreN_le xs
  have hb := markI_bd (scoreN xs : Int) (xs.length : Int)
  have CS := Lib.hid (fun W hS => specScore_any a ca xs W hS hok2 hz)
  have CM := Lib.hid (fun W => specMark_any (scoreN xs : Int) (xs.length : Int) W (by omega) (by omega))
  have CL := Lib.hid (fun W => l1Number_int (markI (scoreN xs : Int) (xs.length : Int)) W (by omega) (by omega))
  have OM := or_mark (markI (scoreN xs : Int) (xs.length : Int)) (by omega)
  obtain ⟨q, hq⟩ : ∃ z, decide (0 ≤ markI (scoreN xs : Int) (xs.length : Int)) = z := ⟨_, rfl⟩
  rw [hq] at OM
  have CO := Lib.hid (fun W => told_any (decS (markI (scoreN xs : Int) (xs.length : Int)).toNat) q W)
  rw [OM] at CO
  clear OM hb
  generalize toldS (markI (scoreN xs : Int) (xs.length : Int)) = t at *
  generalize decS (markI (scoreN xs : Int) (xs.length : Int)).toNat = dt at *
  generalize markI (scoreN xs : Int) (xs.length : Int) = mk at *
  have HZ := Lib.hid hz
  clear hs hok hok2 hz hp
  go_enter Tryz.func10, Tryz.ntmps10
  go_wp2_with fail
  refine (specBoard_val HS.out (by omega) HZ.out HOK.out).mono ?_; rintro e w1' ⟨rfl, mm, rfl⟩
  obtain ⟨w1, hw1⟩ : ∃ w1, w1 = w.drewN mm := ⟨_, rfl⟩
  have F1 := Lib.hid (show Fr w.heap.size none w w1 by rw [hw1]; exact (Fr.refl w.heap.size none w).drewN mm)
  rw [← hw1]; clear hw1
  have SW1 := Lib.hid (SW.out w1 F1.out)
  go_wp2_with (at_builtin; refine appAllO rfl _ _ rfl a ca xs (World.ownsRow_made (base := w1.heap.size) w1 #[] 0 (Nat.le_refl _) (by simp [maxLen]) (by simp)) rfl rfl HP.out SW1.out (by omega) (by simp) ?_; intro v' w2 ho2 hF2; (
    have K2 := Lib.hid (((Fr.refl w1.heap.size none w1).alloc (Nat.le_refl _) (.cells #[] 52)).trans (hF2.up (B' := w1.heap.size) (by simp) (by intro g hg; cases hg; exact Nat.le_refl _)))
    have F2 := Lib.hid (F1.out.and K2.out)
    obtain ⟨a', c', rfl, hc', hcm⟩ := own_slice ho2
    rw [Nat.zero_add] at ho2 hc'
    rw [List.nil_append] at ho2
    have O2 := Lib.hid ((Own.of ho2).base_le F1.out.size); clear ho2 hF2 hc' hcm))
  refine (CR.out _).mono ?_; rintro e w3 ⟨rfl, hF3⟩
  have F3 := Lib.hid (F2.out.and hF3)
  have O3 := Lib.hid (O2.out.keep hF3)
  clear hF3
  have F4 := Lib.hid (F3.out.alloc F3.out.size (.cells #[.bool false, .string ByteArray.empty, .string ByteArray.empty, .string ByteArray.empty] 54))
  have O4 := Lib.hid (O3.out.keep ((Fr.refl w3.heap.size none w3).alloc (Nat.le_refl _) (.cells #[.bool false, .string ByteArray.empty, .string ByteArray.empty, .string ByteArray.empty] 54)))
  have S4 := Lib.hid (HS.out.fr F4.out)
  go_wp2_with fail
  refine (CS.out _ S4.out).mono ?_; rintro e w5 ⟨rfl, hF5⟩
  have F5 := Lib.hid (F4.out.and hF5); have O5 := Lib.hid (O4.out.keep hF5); clear hF5
  go_wp2_with fail
  refine (CM.out _).mono ?_; rintro e w' ⟨rfl, rfl⟩
  go_wp2_with fail
  refine (CL.out _).mono ?_; rintro e w6 ⟨rfl, hF6⟩
  have F6 := Lib.hid (F5.out.and hF6); have O6 := Lib.hid (O5.out.keep hF6); clear hF6
  go_wp2_with fail
  refine (CO.out _).mono ?_; rintro e w' ⟨rfl, rfl⟩
  go_wp2
  go_ret2
  exact ⟨a', c', rfl, O6.out, F6.out⟩
set_option maxHeartbeats 2000000 in
set_option maxRecDepth 100000 in
theorem specLine_ways (a : Option Addr) (ca : Nat) (xs : List Tst) (w : World) (hs : Sl w a (tests xs)) (hok : boardOkB xs = true) (hz : Small xs) (hp : a = none → ca = 0) :
    Calls Tryz.prog 10 #[.slice a xs.length ca, .string ⟨#[119, 97, 121, 115]⟩] w (NewTS xs (rowTextI (waysI xs 16)) w) := by
  have hl := board_le hok
  have hok2 := board_tests hok
  have HS := Lib.hid hs; have HP := Lib.hid hp; have HOK := Lib.hid hok
  have SW := Lib.hid (fun W (hF : Fr w.heap.size none w W) => (hs.fr hF).fr ((Fr.refl W.heap.size none W).alloc (Nat.le_refl _) (.cells #[] 52)))
  have CR := Lib.hid (fun W => readS_no ⟨#[119, 97, 121, 115]⟩ (by decide) (by decide) W)
  have CS := Lib.hid (fun W hS => specWays_any a ca xs W hS hok2 hz)
  have CL := Lib.hid (fun a' c' W hS => specRow10_any a' c' (waysI xs 16) W hS (fun y hy => by have := waysI_bd xs 16 y hy; omega) (waysI_len xs 16))
  unfold NewW at CS
  generalize rowTextI (waysI xs 16) = t at *
  generalize waysI xs 16 = ys at *
  have HZ := Lib.hid hz
  clear hs hok hok2 hz hp
  go_enter Tryz.func10, Tryz.ntmps10
  go_wp2_with fail
  refine (specBoard_val HS.out (by omega) HZ.out HOK.out).mono ?_; rintro e w1' ⟨rfl, mm, rfl⟩
  obtain ⟨w1, hw1⟩ : ∃ w1, w1 = w.drewN mm := ⟨_, rfl⟩
  have F1 := Lib.hid (show Fr w.heap.size none w w1 by rw [hw1]; exact (Fr.refl w.heap.size none w).drewN mm)
  rw [← hw1]; clear hw1
  have SW1 := Lib.hid (SW.out w1 F1.out)
  go_wp2_with (at_builtin; refine appAllO rfl _ _ rfl a ca xs (World.ownsRow_made (base := w1.heap.size) w1 #[] 0 (Nat.le_refl _) (by simp [maxLen]) (by simp)) rfl rfl HP.out SW1.out (by omega) (by simp) ?_; intro v' w2 ho2 hF2; (
    have K2 := Lib.hid (((Fr.refl w1.heap.size none w1).alloc (Nat.le_refl _) (.cells #[] 52)).trans (hF2.up (B' := w1.heap.size) (by simp) (by intro g hg; cases hg; exact Nat.le_refl _)))
    have F2 := Lib.hid (F1.out.and K2.out)
    obtain ⟨a', c', rfl, hc', hcm⟩ := own_slice ho2
    rw [Nat.zero_add] at ho2 hc'
    rw [List.nil_append] at ho2
    have O2 := Lib.hid ((Own.of ho2).base_le F1.out.size); clear ho2 hF2 hc' hcm))
  refine (CR.out _).mono ?_; rintro e w3 ⟨rfl, hF3⟩
  have F3 := Lib.hid (F2.out.and hF3)
  have O3 := Lib.hid (O2.out.keep hF3)
  clear hF3
  have F4 := Lib.hid (F3.out.alloc F3.out.size (.cells #[.bool false, .string ByteArray.empty, .string ByteArray.empty, .string ByteArray.empty] 54))
  have O4 := Lib.hid (O3.out.keep ((Fr.refl w3.heap.size none w3).alloc (Nat.le_refl _) (.cells #[.bool false, .string ByteArray.empty, .string ByteArray.empty, .string ByteArray.empty] 54)))
  have S4 := Lib.hid (HS.out.fr F4.out)
  go_wp2_with fail
  refine (CS.out _ S4.out).mono ?_; rintro e w5 ⟨a5, c5, rfl, hs5, hF5⟩
  have F5 := Lib.hid (F4.out.and hF5); have O5 := Lib.hid (O4.out.keep hF5); have S5 := Lib.hid hs5; clear hF5 hs5
  go_wp2_with fail
  refine (CL.out _ _ _ S5.out).mono ?_; rintro e w6 ⟨rfl, hF6⟩
  go_wp2
  go_ret2
  exact ⟨a', c', rfl, O5.out.keep hF6, F5.out.and hF6⟩
set_option maxHeartbeats 2000000 in
set_option maxRecDepth 100000 in
theorem specLine_simplest (a : Option Addr) (ca : Nat) (xs : List Tst) (w : World) (hs : Sl w a (tests xs)) (hok : boardOkB xs = true) (hz : Small xs) (hp : a = none → ca = 0) :
    Calls Tryz.prog 10 #[.slice a xs.length ca, .string ⟨#[115, 105, 109, 112, 108, 101, 115, 116]⟩] w (NewTS xs (toldS (simI xs)) w) := by
  have hl := board_le hok
  have hok2 := board_tests hok
  have HS := Lib.hid hs; have HP := Lib.hid hp; have HOK := Lib.hid hok
  have SW := Lib.hid (fun W (hF : Fr w.heap.size none w W) => (hs.fr hF).fr ((Fr.refl W.heap.size none W).alloc (Nat.le_refl _) (.cells #[] 52)))
  have CR := Lib.hid (fun W => readS_no ⟨#[115, 105, 109, 112, 108, 101, 115, 116]⟩ (by decide) (by decide) W)
  have CS := Lib.hid (fun W hS => specSimplest_any a ca xs W hS hok2 hz)
  have hb : -1 ≤ simI xs ∧ simI xs < 16 := by rcases simI_bd xs with ⟨_, h⟩ | ⟨_, h⟩ <;> omega
  have CL := Lib.hid (fun W => l1Number_int (simI xs) W (by omega) (by omega))
  have OM := or_mark (simI xs) hb.1
  have CO := Lib.hid (fun W => told_any (decS (simI xs).toNat) (decide (0 ≤ simI xs)) W)
  rw [OM] at CO
  clear OM hb
  generalize toldS (simI xs) = t at *
  generalize decS (simI xs).toNat = dt at *
  generalize decide (0 ≤ simI xs) = q at *
  generalize simI xs = sv at *
  have HZ := Lib.hid hz
  clear hs hok hok2 hz hp
  go_enter Tryz.func10, Tryz.ntmps10
  go_wp2_with fail
  refine (specBoard_val HS.out (by omega) HZ.out HOK.out).mono ?_; rintro e w1' ⟨rfl, mm, rfl⟩
  obtain ⟨w1, hw1⟩ : ∃ w1, w1 = w.drewN mm := ⟨_, rfl⟩
  have F1 := Lib.hid (show Fr w.heap.size none w w1 by rw [hw1]; exact (Fr.refl w.heap.size none w).drewN mm)
  rw [← hw1]; clear hw1
  have SW1 := Lib.hid (SW.out w1 F1.out)
  go_wp2_with (at_builtin; refine appAllO rfl _ _ rfl a ca xs (World.ownsRow_made (base := w1.heap.size) w1 #[] 0 (Nat.le_refl _) (by simp [maxLen]) (by simp)) rfl rfl HP.out SW1.out (by omega) (by simp) ?_; intro v' w2 ho2 hF2; (
    have K2 := Lib.hid (((Fr.refl w1.heap.size none w1).alloc (Nat.le_refl _) (.cells #[] 52)).trans (hF2.up (B' := w1.heap.size) (by simp) (by intro g hg; cases hg; exact Nat.le_refl _)))
    have F2 := Lib.hid (F1.out.and K2.out)
    obtain ⟨a', c', rfl, hc', hcm⟩ := own_slice ho2
    rw [Nat.zero_add] at ho2 hc'
    rw [List.nil_append] at ho2
    have O2 := Lib.hid ((Own.of ho2).base_le F1.out.size); clear ho2 hF2 hc' hcm))
  refine (CR.out _).mono ?_; rintro e w3 ⟨rfl, hF3⟩
  have F3 := Lib.hid (F2.out.and hF3)
  have O3 := Lib.hid (O2.out.keep hF3)
  clear hF3
  have F4 := Lib.hid (F3.out.alloc F3.out.size (.cells #[.bool false, .string ByteArray.empty, .string ByteArray.empty, .string ByteArray.empty] 54))
  have O4 := Lib.hid (O3.out.keep ((Fr.refl w3.heap.size none w3).alloc (Nat.le_refl _) (.cells #[.bool false, .string ByteArray.empty, .string ByteArray.empty, .string ByteArray.empty] 54)))
  have S4 := Lib.hid (HS.out.fr F4.out)
  go_wp2_with fail
  refine (CS.out _ S4.out).mono ?_; rintro e w5 ⟨rfl, hF5⟩
  have F5 := Lib.hid (F4.out.and hF5); have O5 := Lib.hid (O4.out.keep hF5); clear hF5
  go_wp2_with fail
  refine (CL.out _).mono ?_; rintro e w6 ⟨rfl, hF6⟩
  have F6 := Lib.hid (F5.out.and hF6); have O6 := Lib.hid (O5.out.keep hF6); clear hF6
  go_wp2_with fail
  refine (CO.out _).mono ?_; rintro e w' ⟨rfl, rfl⟩
  go_wp2
  go_ret2
  exact ⟨a', c', rfl, O6.out, F6.out⟩
set_option maxHeartbeats 2000000 in
set_option maxRecDepth 100000 in
theorem specLine_apart (a : Option Addr) (ca : Nat) (xs : List Tst) (w : World) (hs : Sl w a (tests xs)) (hok : boardOkB xs = true) (hz : Small xs) (hp : a = none → ca = 0) :
    Calls Tryz.prog 10 #[.slice a xs.length ca, .string ⟨#[97, 112, 97, 114, 116]⟩] w (NewTS xs (decS (apartTo xs 16)) w) := by
  have hl := board_le hok
  have hok2 := board_tests hok
  have HS := Lib.hid hs; have HP := Lib.hid hp; have HOK := Lib.hid hok
  have SW := Lib.hid (fun W (hF : Fr w.heap.size none w W) => (hs.fr hF).fr ((Fr.refl W.heap.size none W).alloc (Nat.le_refl _) (.cells #[] 52)))
  have CR := Lib.hid (fun W => readS_no ⟨#[97, 112, 97, 114, 116]⟩ (by decide) (by decide) W)
  have CS := Lib.hid (fun W hS => specApart_any a ca xs W hS hok2 hz)
  have CL := Lib.hid (fun W => l1Number_any (apartTo xs 16) W (by have := apartTo_le xs 16; omega))
  generalize decS (apartTo xs 16) = t at *
  have HZ := Lib.hid hz
  clear hs hok hok2 hz hp
  go_enter Tryz.func10, Tryz.ntmps10
  go_wp2_with fail
  refine (specBoard_val HS.out (by omega) HZ.out HOK.out).mono ?_; rintro e w1' ⟨rfl, mm, rfl⟩
  obtain ⟨w1, hw1⟩ : ∃ w1, w1 = w.drewN mm := ⟨_, rfl⟩
  have F1 := Lib.hid (show Fr w.heap.size none w w1 by rw [hw1]; exact (Fr.refl w.heap.size none w).drewN mm)
  rw [← hw1]; clear hw1
  have SW1 := Lib.hid (SW.out w1 F1.out)
  go_wp2_with (at_builtin; refine appAllO rfl _ _ rfl a ca xs (World.ownsRow_made (base := w1.heap.size) w1 #[] 0 (Nat.le_refl _) (by simp [maxLen]) (by simp)) rfl rfl HP.out SW1.out (by omega) (by simp) ?_; intro v' w2 ho2 hF2; (
    have K2 := Lib.hid (((Fr.refl w1.heap.size none w1).alloc (Nat.le_refl _) (.cells #[] 52)).trans (hF2.up (B' := w1.heap.size) (by simp) (by intro g hg; cases hg; exact Nat.le_refl _)))
    have F2 := Lib.hid (F1.out.and K2.out)
    obtain ⟨a', c', rfl, hc', hcm⟩ := own_slice ho2
    rw [Nat.zero_add] at ho2 hc'
    rw [List.nil_append] at ho2
    have O2 := Lib.hid ((Own.of ho2).base_le F1.out.size); clear ho2 hF2 hc' hcm))
  refine (CR.out _).mono ?_; rintro e w3 ⟨rfl, hF3⟩
  have F3 := Lib.hid (F2.out.and hF3)
  have O3 := Lib.hid (O2.out.keep hF3)
  clear hF3
  have F4 := Lib.hid (F3.out.alloc F3.out.size (.cells #[.bool false, .string ByteArray.empty, .string ByteArray.empty, .string ByteArray.empty] 54))
  have O4 := Lib.hid (O3.out.keep ((Fr.refl w3.heap.size none w3).alloc (Nat.le_refl _) (.cells #[.bool false, .string ByteArray.empty, .string ByteArray.empty, .string ByteArray.empty] 54)))
  have S4 := Lib.hid (HS.out.fr F4.out)
  go_wp2_with fail
  refine (CS.out _ S4.out).mono ?_; rintro e w5 ⟨rfl, hF5⟩
  have F5 := Lib.hid (F4.out.and hF5); have O5 := Lib.hid (O4.out.keep hF5); clear hF5
  go_wp2_with fail
  refine (CL.out _).mono ?_; rintro e w6 ⟨rfl, hF6⟩
  go_wp2
  go_ret2
  exact ⟨a', c', rfl, O5.out.keep hF6, F5.out.and hF6⟩
set_option maxHeartbeats 2000000 in
set_option maxRecDepth 100000 in
theorem specLine_many (a : Option Addr) (ca : Nat) (xs : List Tst) (w : World) (hs : Sl w a (tests xs)) (hok : boardOkB xs = true) (hz : Small xs) (hp : a = none → ca = 0) :
    Calls Tryz.prog 10 #[.slice a xs.length ca, .string ⟨#[109, 97, 110, 121]⟩] w (NewTS xs (decS xs.length) w) := by
  have hl := board_le hok
  have hok2 := board_tests hok
  have HS := Lib.hid hs; have HP := Lib.hid hp; have HOK := Lib.hid hok
  have SW := Lib.hid (fun W (hF : Fr w.heap.size none w W) => (hs.fr hF).fr ((Fr.refl W.heap.size none W).alloc (Nat.le_refl _) (.cells #[] 52)))
  have CR := Lib.hid (fun W => readS_no ⟨#[109, 97, 110, 121]⟩ (by decide) (by decide) W)
  have CL := Lib.hid (fun W => l1Number_any xs.length W (by omega))
  generalize decS xs.length = t at *
  have HZ := Lib.hid hz
  clear hs hok hok2 hz hp
  go_enter Tryz.func10, Tryz.ntmps10
  go_wp2_with fail
  refine (specBoard_val HS.out (by omega) HZ.out HOK.out).mono ?_; rintro e w1' ⟨rfl, mm, rfl⟩
  obtain ⟨w1, hw1⟩ : ∃ w1, w1 = w.drewN mm := ⟨_, rfl⟩
  have F1 := Lib.hid (show Fr w.heap.size none w w1 by rw [hw1]; exact (Fr.refl w.heap.size none w).drewN mm)
  rw [← hw1]; clear hw1
  have SW1 := Lib.hid (SW.out w1 F1.out)
  go_wp2_with (at_builtin; refine appAllO rfl _ _ rfl a ca xs (World.ownsRow_made (base := w1.heap.size) w1 #[] 0 (Nat.le_refl _) (by simp [maxLen]) (by simp)) rfl rfl HP.out SW1.out (by omega) (by simp) ?_; intro v' w2 ho2 hF2; (
    have K2 := Lib.hid (((Fr.refl w1.heap.size none w1).alloc (Nat.le_refl _) (.cells #[] 52)).trans (hF2.up (B' := w1.heap.size) (by simp) (by intro g hg; cases hg; exact Nat.le_refl _)))
    have F2 := Lib.hid (F1.out.and K2.out)
    obtain ⟨a', c', rfl, hc', hcm⟩ := own_slice ho2
    rw [Nat.zero_add] at ho2 hc'
    rw [List.nil_append] at ho2
    have O2 := Lib.hid ((Own.of ho2).base_le F1.out.size); clear ho2 hF2 hc' hcm))
  refine (CR.out _).mono ?_; rintro e w3 ⟨rfl, hF3⟩
  have F3 := Lib.hid (F2.out.and hF3)
  have O3 := Lib.hid (O2.out.keep hF3)
  clear hF3
  have F4 := Lib.hid (F3.out.alloc F3.out.size (.cells #[.bool false, .string ByteArray.empty, .string ByteArray.empty, .string ByteArray.empty] 54))
  have O4 := Lib.hid (O3.out.keep ((Fr.refl w3.heap.size none w3).alloc (Nat.le_refl _) (.cells #[.bool false, .string ByteArray.empty, .string ByteArray.empty, .string ByteArray.empty] 54)))
  have S4 := Lib.hid (HS.out.fr F4.out)
  go_wp2_with fail
  refine (CL.out _).mono ?_; rintro e w6 ⟨rfl, hF6⟩
  go_wp2
  go_ret2
  exact ⟨a', c', rfl, O4.out.keep hF6, F4.out.and hF6⟩
set_option maxHeartbeats 2000000 in
set_option maxRecDepth 100000 in
theorem specLine_none (a : Option Addr) (ca : Nat) (xs : List Tst) (w : World) (hs : Sl w a (tests xs)) (hok : boardOkB xs = true) (hz : Small xs) (hp : a = none → ca = 0) (s : ByteArray) (hsz : s.size ≤ 1048576) (hr : readD s = (noDeed, false)) (h0 : s ≠ scoreS) (h1 : s ≠ markS') (h2 : s ≠ waysS) (h3 : s ≠ simpleS) (h4 : s ≠ apartS) (h5 : s ≠ manyS) :
    Calls Tryz.prog 10 #[.slice a xs.length ca, .string s] w (NewTS xs (reckI (wordsB s)) w) := by
  have hl := board_le hok
  have hok2 := board_tests hok
  have HS := Lib.hid hs; have HP := Lib.hid hp; have HOK := Lib.hid hok
  have SW := Lib.hid (fun W (hF : Fr w.heap.size none w W) => (hs.fr hF).fr ((Fr.refl W.heap.size none W).alloc (Nat.le_refl _) (.cells #[] 52)))
  have CR := Lib.hid (fun W => readS_no s hsz hr W)
  have e0 : (s.toList == [115, 99, 111, 114, 101]) = false := lit_ne (l := [115, 99, 111, 114, 101]) h0
  have e1 : (s.toList == [109, 97, 114, 107]) = false := lit_ne (l := [109, 97, 114, 107]) h1
  have e2 : (s.toList == [119, 97, 121, 115]) = false := lit_ne (l := [119, 97, 121, 115]) h2
  have e3 : (s.toList == [115, 105, 109, 112, 108, 101, 115, 116]) = false := lit_ne (l := [115, 105, 109, 112, 108, 101, 115, 116]) h3
  have e4 : (s.toList == [97, 112, 97, 114, 116]) = false := lit_ne (l := [97, 112, 97, 114, 116]) h4
  have e5 : (s.toList == [109, 97, 110, 121]) = false := lit_ne (l := [109, 97, 110, 121]) h5
  have CW := Lib.hid (fun W => l1Cut_any s W hsz)
  have CK := Lib.hid (fun a' c' W hS => specReck_any a' c' (wordsB s) W hS (words_pos s) (words_small hsz))
  generalize reckI (wordsB s) = t at *
  generalize wordsB s = ws at *
  have HZ := Lib.hid hz
  clear hs hok hok2 hz hp
  go_enter Tryz.func10, Tryz.ntmps10
  go_wp2_with fail
  refine (specBoard_val HS.out (by omega) HZ.out HOK.out).mono ?_; rintro e w1' ⟨rfl, mm, rfl⟩
  obtain ⟨w1, hw1⟩ : ∃ w1, w1 = w.drewN mm := ⟨_, rfl⟩
  have F1 := Lib.hid (show Fr w.heap.size none w w1 by rw [hw1]; exact (Fr.refl w.heap.size none w).drewN mm)
  rw [← hw1]; clear hw1
  have SW1 := Lib.hid (SW.out w1 F1.out)
  go_wp2_with (at_builtin; refine appAllO rfl _ _ rfl a ca xs (World.ownsRow_made (base := w1.heap.size) w1 #[] 0 (Nat.le_refl _) (by simp [maxLen]) (by simp)) rfl rfl HP.out SW1.out (by omega) (by simp) ?_; intro v' w2 ho2 hF2; (
    have K2 := Lib.hid (((Fr.refl w1.heap.size none w1).alloc (Nat.le_refl _) (.cells #[] 52)).trans (hF2.up (B' := w1.heap.size) (by simp) (by intro g hg; cases hg; exact Nat.le_refl _)))
    have F2 := Lib.hid (F1.out.and K2.out)
    obtain ⟨a', c', rfl, hc', hcm⟩ := own_slice ho2
    rw [Nat.zero_add] at ho2 hc'
    rw [List.nil_append] at ho2
    have O2 := Lib.hid ((Own.of ho2).base_le F1.out.size); clear ho2 hF2 hc' hcm))
  refine (CR.out _).mono ?_; rintro e w3 ⟨rfl, hF3⟩
  have F3 := Lib.hid (F2.out.and hF3)
  have O3 := Lib.hid (O2.out.keep hF3)
  clear hF3
  have F4 := Lib.hid (F3.out.alloc F3.out.size (.cells #[.bool false, .string ByteArray.empty, .string ByteArray.empty, .string ByteArray.empty] 54))
  have O4 := Lib.hid (O3.out.keep ((Fr.refl w3.heap.size none w3).alloc (Nat.le_refl _) (.cells #[.bool false, .string ByteArray.empty, .string ByteArray.empty, .string ByteArray.empty] 54)))
  have S4 := Lib.hid (HS.out.fr F4.out)
  go_wp2_with fail
  refine (CW.out _).mono ?_; rintro e w5 ⟨a5, c5, rfl, ho5, hF5⟩
  have F5 := Lib.hid (F4.out.and hF5); have O5 := Lib.hid (O4.out.keep hF5); have S5 := Lib.hid (own_sl ho5); clear hF5 ho5
  go_wp2_with fail
  refine (CK.out _ _ _ S5.out).mono ?_; rintro e w6 ⟨rfl, hF6⟩
  go_wp2
  go_ret2
  exact ⟨a', c', rfl, O5.out.keep hF6, F5.out.and hF6⟩
end Go.Proofs.YtdngnmpmaacapaaGreatDoor
/-
  Contracts: BoardLine of the reference, all lines.
-/
namespace Go.Proofs.YtdngnmpmaacapaaGreatDoor
open Go.RowKit

set_option maxHeartbeats 2000000 in
set_option maxRecDepth 100000 in
theorem specLine_deed (a : Option Addr) (ca : Nat) (xs : List Tst) (w : World) (hs : Sl w a (tests xs)) (hok : boardOkB xs = true) (hz : Small xs) (hp : a = none → ca = 0) (s : ByteArray) (d : Dd) (hsz : s.size ≤ 1048576) (hr : readD s = (d, true)) (hd : small d.2) :
    Calls Tryz.prog 10 #[.slice a xs.length ca, .string s] w (NewTS (doI xs d).1 (okS (doI xs d).2) w) := by
  have hl := board_le hok
  have HS := Lib.hid hs; have HP := Lib.hid hp; have HOK := Lib.hid hok
  have SW := Lib.hid (fun W (hF : Fr w.heap.size none w W) => (hs.fr hF).fr ((Fr.refl W.heap.size none W).alloc (Nat.le_refl _) (.cells #[] 52)))
  have CR := Lib.hid (fun W => show Calls Tryz.prog 41 #[.string s] W (fun e w' => e = .returned (.tuple #[.agg #[.bool d.1, .string d.2.1, .string d.2.2.1, .string d.2.2.2], .bool true]) ∧ Fr W.heap.size none W w') by
    have CR := specReadDeed_any s W hsz
    unfold ReadPost at CR
    rw [hr] at CR
    exact CR)
  have CD := Lib.hid (fun W hW => specBoardDo_any a ca xs d W hW (by omega) hz hd hp)
  rw [← boardDo_yes hok] at CD
  have HZ := Lib.hid hz
  clear hs hok hz hp hr hd
  obtain ⟨d0, x1, x2, x3⟩ := d
  generalize doI xs (d0, x1, x2, x3) = r at *
  obtain ⟨r1, r2⟩ := r
  dsimp only at *
  go_enter Tryz.func10, Tryz.ntmps10
  go_wp2_with fail
  refine (specBoard_val HS.out (by omega) HZ.out HOK.out).mono ?_; rintro e w1' ⟨rfl, mm, rfl⟩
  obtain ⟨w1, hw1⟩ : ∃ w1, w1 = w.drewN mm := ⟨_, rfl⟩
  have F1 := Lib.hid (show Fr w.heap.size none w w1 by rw [hw1]; exact (Fr.refl w.heap.size none w).drewN mm)
  rw [← hw1]; clear hw1
  have SW1 := Lib.hid (SW.out w1 F1.out)
  go_wp2_with (at_builtin; refine appAllO rfl _ _ rfl a ca xs (World.ownsRow_made (base := w1.heap.size) w1 #[] 0 (Nat.le_refl _) (by simp [maxLen]) (by simp)) rfl rfl HP.out SW1.out (by omega) (by simp) ?_; intro v' w2 ho2 hF2; (
    have K2 := Lib.hid (((Fr.refl w1.heap.size none w1).alloc (Nat.le_refl _) (.cells #[] 52)).trans (hF2.up (B' := w1.heap.size) (by simp) (by intro g hg; cases hg; exact Nat.le_refl _)))
    have F2 := Lib.hid (F1.out.and K2.out)
    obtain ⟨a', c', rfl, hc', hcm⟩ := own_slice ho2
    rw [Nat.zero_add] at ho2 hc'
    clear ho2 hF2 hc' hcm))
  refine (CR.out _).mono ?_; rintro e w3 ⟨rfl, hF3⟩
  have F3 := Lib.hid (F2.out.and hF3)
  clear hF3
  have F4 := Lib.hid (F3.out.alloc F3.out.size (.cells #[.bool d0, .string x1, .string x2, .string x3] 54))
  have S4 := Lib.hid (HS.out.fr F4.out)
  go_wp2_with fail
  refine (CD.out _ S4.out).mono ?_; rintro e w5 ⟨a5, c5, rfl, ho5, hF5⟩
  have F5 := Lib.hid (F4.out.and hF5)
  have O5 := Lib.hid (ho5.base_le F4.out.size)
  clear ho5 hF5
  cases r2
  · go_wp2
    go_ret2
    exact ⟨a5, c5, rfl, O5.out, F5.out⟩
  · go_wp2
    go_ret2
    exact ⟨a5, c5, rfl, O5.out, F5.out⟩

set_option maxHeartbeats 2000000 in
set_option maxRecDepth 100000 in
theorem specLine_any (a : Option Addr) (ca : Nat) (xs : List Tst) (s : ByteArray) (w : World) (hs : Sl w a (tests xs)) (hm : xs.length ≤ 1048576) (hz : Small xs) (hp : a = none → ca = 0) (hsz : s.size ≤ 1048576) :
    Calls Tryz.prog 10 #[.slice a xs.length ca, .string s] w (NewTS (boardLineI xs s).1 (boardLineI xs s).2 w) := by
  cases hok : boardOkB xs
  · have hr : boardLineI xs s = ([], ⟨#[]⟩) := by unfold boardLineI; rw [hok]; rfl
    rw [hr]
    have HOK := Lib.hid hok; clear hok
    have HS := Lib.hid hs; clear hs hr
    go_enter Tryz.func10, Tryz.ntmps10
    go_wp2_with fail
    refine (specBoard_val HS.out hm hz HOK.out).mono ?_; rintro e w1' ⟨rfl, mm, rfl⟩
    have F2 := Lib.hid ((Fr.refl w.heap.size none w).drewN mm)
    go_wp2
    go_ret2
    exact ⟨_, 0, rfl, madeNil F2.out.size (by simp), F2.out.alloc F2.out.size _⟩
  · have hr : boardLineI xs s = lineI xs s := by unfold boardLineI; rw [hok]; rfl
    rw [hr]
    rcases readD_twoWays s with ⟨h2, hd⟩ | hn
    · have e : readD s = ((readD s).1, true) := by rw [← h2]
      have hA := specLine_deed a ca xs w hs hok hz hp s (readD s).1 hsz e hd
      unfold lineI
      rw [h2]
      exact hA
    · have hL : lineI xs s = (xs, sayI xs s) := by unfold lineI; rw [hn]; rfl
      rw [hL]
      dsimp only
      unfold sayI askI
      by_cases h0 : s = scoreS
      · rw [if_pos h0]; subst h0; exact specLine_score a ca xs w hs hok hz hp
      rw [if_neg h0]
      by_cases h1 : s = markS'
      · rw [if_pos h1]; subst h1; exact specLine_mark a ca xs w hs hok hz hp
      rw [if_neg h1]
      by_cases h2 : s = waysS
      · rw [if_pos h2]; subst h2; exact specLine_ways a ca xs w hs hok hz hp
      rw [if_neg h2]
      by_cases h3 : s = simpleS
      · rw [if_pos h3]; subst h3; exact specLine_simplest a ca xs w hs hok hz hp
      rw [if_neg h3]
      by_cases h4 : s = apartS
      · rw [if_pos h4]; subst h4; exact specLine_apart a ca xs w hs hok hz hp
      rw [if_neg h4]
      by_cases h5 : s = manyS
      · rw [if_pos h5]; subst h5; exact specLine_many a ca xs w hs hok hz hp
      rw [if_neg h5]
      exact specLine_none a ca xs w hs hok hz hp s hsz hn h0 h1 h2 h3 h4 h5
end Go.Proofs.YtdngnmpmaacapaaGreatDoor
