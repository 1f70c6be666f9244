/-
  Merged: TakenX TakenY.
-/
import Derived.Test.YtdngnmpmaacapaaGreatDoorMWroteS
import Derived.Test.YtdngnmpmaacapaaGreatDoorMWaysD
set_option linter.unusedVariables false
set_option linter.unusedSimpArgs false
/-
  Contracts: l6Column and TakenBy of the reference, as functions.
-/
namespace Go.Proofs.YtdngnmpmaacapaaGreatDoor
open Go.RowKit

/-- A column by a way, as the reference says it. -/
def wrW (a c b way : Int) (q : Bool) : Int × Int :=
  if way / 4 % 2 = 1 ∧ a = 0 ∧ 0 < c then (c, 0)
  else if way / 8 % 2 = 1 ∧ c = 0 ∧ q = true then (0, 0)
  else if way % 2 = 1 then (max (a - c) (c - a), 0)
  else if (if way / 2 % 2 = 0 then a - c - b else a - c) < 0 then ((if way / 2 % 2 = 0 then a - c - b else a - c) + 10, 1)
  else ((if way / 2 % 2 = 0 then a - c - b else a - c), 0)
theorem bits_way : ∀ n : Fin 16, ((bits .and .i64 (n.val : Int) 1 ≠ 0) ↔ ((n.val : Int) % 2 = 1)) ∧ ((bits .and .i64 (n.val : Int) 2 = 0) ↔ ((n.val : Int) / 2 % 2 = 0)) ∧ ((bits .and .i64 (n.val : Int) 4 ≠ 0) ↔ ((n.val : Int) / 4 % 2 = 1)) ∧ ((bits .and .i64 (n.val : Int) 8 ≠ 0) ↔ ((n.val : Int) / 8 % 2 = 1)) := by decide
theorem wrW_wrD {a c b way : Int} {q : Bool} (hw : 0 ≤ way ∧ way ≤ 15) (hc : 0 ≤ c) : wrW a c b way q = wrD a c b (bits .and .i64 way 1) (bits .and .i64 way 2) (bits .and .i64 way 4) (bits .and .i64 way 8) q := by
  obtain ⟨n, rfl⟩ := Int.eq_ofNat_of_zero_le hw.1
  obtain ⟨h1, h2, h4, h8⟩ := bits_way ⟨n, by omega⟩
  dsimp only at h1 h2 h4 h8
  have hcc : (0 < c) ↔ (c ≠ 0) := by omega
  unfold wrW wrD
  simp only [h1, h2, h4, h8, hcc]
set_option maxHeartbeats 8000000 in
theorem l6ColumnX (a b : Int) (within : Bool) (c way : Int) (w : World) (ha : 0 ≤ a ∧ a ≤ 9) (hb : 0 ≤ b ∧ b ≤ 9) (hc : 0 ≤ c ∧ c ≤ 1) (hw : 0 ≤ way ∧ way ≤ 15) :
    Calls Tryz.prog 138 #[.int .i64 a, .int .i64 b, .bool within, .int .i64 c, .int .i64 way] w fun e w' => (∃ d n : Int, e = .returned (.tuple #[.int .i64 d, .int .i64 n]) ∧ Hid (wrW a b c way within = (d, n))) ∧ w = w' := by
  obtain ⟨a0, a1⟩ := ha; obtain ⟨b0, b1⟩ := hb; obtain ⟨c0, c1⟩ := hc; obtain ⟨w0, w1⟩ := hw
  by_cases p1 : way % 2 = 1
  · have hb1 : (way % 2 == 1) = true := by rw [beq_iff_eq]; exact p1
    cases within
    all_goals
      go_enter Tryz.func138, Tryz.ntmps138
      go_wp2
      all_goals go_ret2
      all_goals refine ⟨⟨_, _, rfl, ?_⟩, rfl⟩
      all_goals (show wrW _ _ _ _ _ = _)
      all_goals (unfold wrW; (try simp only [and_true, and_false, Bool.false_eq_true, if_false]); (repeat' split) <;> first | rfl | (exfalso; omega) | (apply Prod.ext <;> dsimp only <;> omega))
  · have hb1 : (way % 2 == 1) = false := by rw [beq_eq_false_iff_ne]; exact p1
    by_cases p2 : way / 2 % 2 = 0
    · have hb2 : (way / 2 % 2 == 0) = true := by rw [beq_iff_eq]; exact p2
      cases within
      all_goals
        go_enter Tryz.func138, Tryz.ntmps138
        go_wp2
        all_goals go_ret2
        all_goals refine ⟨⟨_, _, rfl, ?_⟩, rfl⟩
        all_goals (show wrW _ _ _ _ _ = _)
        all_goals (unfold wrW; (try simp only [and_true, and_false, Bool.false_eq_true, if_false]); (repeat' split) <;> first | rfl | (exfalso; omega) | (apply Prod.ext <;> dsimp only <;> omega))
    · have hb2 : (way / 2 % 2 == 0) = false := by rw [beq_eq_false_iff_ne]; exact p2
      cases within
      all_goals
        go_enter Tryz.func138, Tryz.ntmps138
        go_wp2
        all_goals go_ret2
        all_goals refine ⟨⟨_, _, rfl, ?_⟩, rfl⟩
        all_goals (show wrW _ _ _ _ _ = _)
        all_goals (unfold wrW; (try simp only [and_true, and_false, Bool.false_eq_true, if_false]); (repeat' split) <;> first | rfl | (exfalso; omega) | (apply Prod.ext <;> dsimp only <;> omega))
end Go.Proofs.YtdngnmpmaacapaaGreatDoor
/-
  Contracts: TakenBy of the reference, as a function.
-/
namespace Go.Proofs.YtdngnmpmaacapaaGreatDoor
open Go.RowKit

/-- One numeral taken away from another one by a way, if this can be told. -/
def tbX (s t : ByteArray) (way : Int) : ByteArray × Bool := if decide (0 ≤ ordI s t) && inB way 0 15 then (tbI s t way, true) else (⟨#[]⟩, false)
/-- Digits as a text, the last one ahead. -/
def revT (l : List Int) : ByteArray := mkL (l.reverse.map digC)
theorem revT_size (l : List Int) : (revT l).size = l.length := by unfold revT; rw [mkL_size, List.length_map, List.length_reverse]
theorem digs_cons (l : List Int) (d : Int) : mkL [digC d] ++ revT l = revT (l ++ [d]) := by
  unfold revT; rw [mkL_app]; simp
theorem tb_fin {s t : ByteArray} {way b : Int} {k : Nat} {l : List Int} (hs : numOk s = true) (ht : numOk t = true) (hk : k = s.size)
    (h : tkI s t (bits .and .i64 way 1) (bits .and .i64 way 2) (bits .and .i64 way 4) (bits .and .i64 way 8) k = (l, b)) : trimB (revT l) = tbI s t way := by
  unfold revT
  subst hk
  have bd := tkI_bd hs ht (bits .and .i64 way 1) (bits .and .i64 way 2) (bits .and .i64 way 4) (bits .and .i64 way 8) s.size
  have hl := num_len hs
  rw [h] at bd
  obtain ⟨b1, _, b3⟩ := bd
  dsimp only at b1 b3
  rw [trimB_plain]
  unfold tbI
  rw [h]
  exact plain_yes (plainOk_nine (fun d hd => b1 d (List.mem_reverse.1 hd)) (by rw [List.length_reverse]; omega) (by rw [List.length_reverse]; omega))
set_option maxHeartbeats 4000000 in
set_option maxRecDepth 100000 in
theorem specTakenByX (s t : ByteArray) (way : Int) (w : World) (hs : s.size ≤ 1048576) (ht : t.size ≤ 1048576) :
    Calls Tryz.prog 106 #[.string s, .string t, .int .i64 way] w fun e w' => e = .returned (.tuple #[.string (tbX s t way).1, .bool (tbX s t way).2]) ∧ Fr w.heap.size none w w' := by
  have CP := Lib.hid (fun W => l6Pair_any s t way W hs ht)
  cases hb : (decide (0 ≤ ordI s t) && inB way 0 15)
  · have hr := Lib.hid (show ((⟨#[]⟩ : ByteArray), false) = tbX s t way by simp [tbX, hb])
    rw [hb] at CP
    clear hb
    go_enter Tryz.func106, Tryz.ntmps106
    go_wp2_with fail
    refine (CP.out _).mono ?_; rintro e w' ⟨rfl, m, rfl⟩
    go_wp2
    go_ret2
    exact ⟨ret_pair hr.out, (Fr.refl _ _ _).drewN m⟩
  · have hr := Lib.hid (show (tbI s t way, true) = tbX s t way by simp [tbX, hb])
    rw [hb] at CP
    simp only [Bool.and_eq_true, decide_eq_true_eq] at hb
    obtain ⟨hn1, hn2⟩ := ord_ok hb.1
    have hway := inB_true.1 hb.2
    have hp := num_len hn1
    have H1 := Lib.hid hn1; have H2 := Lib.hid hn2
    have FIN := Lib.hid (fun k l b hk h => tb_fin (way := way) (k := k) (l := l) (b := b) hn1 hn2 hk h)
    have TB := Lib.hid (fun k => tkI_bd hn1 hn2 (bits .and .i64 way 1) (bits .and .i64 way 2) (bits .and .i64 way 4) (bits .and .i64 way 8) k)
    have WW := Lib.hid (fun a c b q hc => wrW_wrD (a := a) (c := c) (b := b) (q := q) hway hc)
    generalize bits .and .i64 way 1 = m1 at *
    generalize bits .and .i64 way 2 = m2 at *
    generalize bits .and .i64 way 4 = m4 at *
    generalize bits .and .i64 way 8 = m8 at *
    clear hb hn1 hn2
    obtain ⟨wy0, wy1⟩ := hway
    go_enter Tryz.func106, Tryz.ntmps106
    go_wp2_with fail
    refine (CP.out _).mono ?_; rintro e w' ⟨rfl, m, rfl⟩
    go_wp2
    go_loopw [8, 9, 10] (fun o c i wr => ∃ (k : Nat) (l : List Int) (cc : Int), k ≤ s.size ∧ i = .int .i64 k ∧ o = .string (revT l) ∧ c = .int .i64 cc ∧ Hid (tkI s t m1 m2 m4 m8 k = (l, cc)) ∧ Fr w.heap.size none w wr) (fun _ _ i _ => s.size - (intOf i).toNat)
    case atStart => exact ⟨0, [], 0, Nat.zero_le _, rfl, rfl, rfl, rfl, (Fr.refl _ _ _).drewN m⟩
    case round =>
      obtain ⟨k, l, cc, hk, rfl, rfl, rfl, hT, hF⟩ := hrel
      have HF := Lib.hid hF; clear hF
      have tb := TB.out k
      rw [hT.out] at tb
      obtain ⟨_, bc, bl⟩ := tb
      dsimp only at bc bl
      have HL := Lib.hid bl
      clear bl
      by_cases hlt : k < s.size
      · have g1 := digI_bd H1.out k; have g2 := digI_bd H2.out k
        have D1 := Lib.hid (fun W => digitAtX s k W H1.out (by omega))
        have D2 := Lib.hid (fun W => digitAtX t k W H2.out (by omega))
        have ST := Lib.hid (fun x y h => tk_step (x := x) (y := y) (m1 := m1) (m2 := m2) (m4 := m4) (m8 := m8) rfl rfl (rfl : decide (k < t.size) = decide (k < t.size)) hT.out h)
        have WB := Lib.hid (wrD_bd (m1 := m1) (m2 := m2) (m4 := m4) (m8 := m8) (inT := decide (k < t.size)) g1 g2 bc)
        have WQ := Lib.hid (WW.out (digI s k) (digI t k) cc (decide (k < t.size)) g2.1)
        generalize digI s k = d1 at *
        generalize digI t k = d2 at *
        have CC := Lib.hid (fun W => l6ColumnX d1 d2 (decide (k < t.size)) cc way W g1 g2 bc ⟨wy0, wy1⟩)
        have hsz := Lib.hid (show (revT l).size = k by rw [revT_size, HL.out])
        go_wp2_with fail
        refine (D1.out _).mono ?_; rintro e w' ⟨rfl, rfl⟩
        go_wp2_with fail
        refine (D2.out _).mono ?_; rintro e w' ⟨rfl, rfl⟩
        go_wp2_with fail
        refine (CC.out _).mono ?_
        rintro e w2 ⟨⟨d3, c3, rfl, hW⟩, rfl⟩
        have hW2 := Lib.hid (WQ.out.symm.trans hW.out)
        have bb := WB.out
        rw [hW2.out] at bb
        dsimp only at bb
        have E1 := Lib.hid (ST.out d3 c3 hW2.out)
        have CL := Lib.hid (fun W => l1Digit_any d3 W bb.1.1 bb.1.2)
        have dc := digs_cons l d3
        have a1 := fun W => run_string_add_sum (P := Tryz.prog) W (mkL [digC d3]) (revT l) (by rw [hsz.out, mkL_size]; simp; omega)
        rw [dc] at a1
        clear dc hW hW2 ST WB WQ
        generalize hA2 : revT (l ++ [d3]) = A2 at *
        have HA2 := Lib.hid hA2; clear hA2
        generalize revT l = A at *
        generalize mkL [digC d3] = u at *
        go_wp2_with fail
        refine (CL.out _).mono ?_; rintro e w3 ⟨rfl, hF3⟩
        have F3 := Lib.hid (HF.out.and hF3); clear hF3
        go_wp2
        go_roundw
        case rel => exact ⟨k + 1, l ++ [d3], c3, by omega, by go_num, by rw [HA2.out], rfl, E1, F3.out⟩
        case measure => simp [intOf]; omega
      · have hge : (s.size : Int) ≤ (k : Int) := by omega
        have hE := Lib.hid (FIN.out k l cc (by omega) hT.out)
        have CT := Lib.hid (fun W => l2TrimX (revT l) W (by rw [revT_size, HL.out]; omega) (by rw [revT_size, HL.out]; omega))
        rw [hE.out] at CT
        generalize revT l = A at *
        go_wp2_with fail
        refine (CT.out _).mono ?_; rintro e w' ⟨rfl, rfl⟩
        go_wp2
        go_ret2
        exact ⟨ret_pair hr.out, HF.out⟩
end Go.Proofs.YtdngnmpmaacapaaGreatDoor
