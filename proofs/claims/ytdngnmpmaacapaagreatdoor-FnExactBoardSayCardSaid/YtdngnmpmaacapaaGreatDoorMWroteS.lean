/-
  Merged: WroteS SumS LeftS DifS TotS MovS ScoreP.
-/
import Derived.Test.YtdngnmpmaacapaaGreatDoorMTrim
import Derived.Test.YtdngnmpmaacapaaGreatDoorMColU
import Derived.Test.YtdngnmpmaacapaaGreatDoorMWaysA
import Derived.Test.YtdngnmpmaacapaaGreatDoorMCore
set_option linter.unusedVariables false
set_option linter.unusedSimpArgs false
/-
  Contracts: WrittenOf of the reference.
-/
namespace Go.Proofs.YtdngnmpmaacapaaGreatDoor
open Go.RowKit

theorem wrote_len (cs : List Col) : (wrote cs).length = cs.length := by simp [wrote]
theorem wrote_at (cs : List Col) (j : Nat) (h : j < cs.length) : (wrote cs).getD j 0 = (cs.getD (cs.length - 1 - j) noCol).2.2.2.1 := by
  have h2 : cs.length - 1 - j < cs.length := by omega
  simp [wrote, List.getD_eq_getElem?_getD, h, h2]
theorem mkL_app (A B : List UInt8) : mkL A ++ mkL B = mkL (A ++ B) := by
  apply ByteArray.ext
  show (mkL A ++ mkL B).data = (A ++ B).toArray
  rw [ByteArray.data_append]; show A.toArray ++ B.toArray = _; simp
/-- The text of some digits ahead, and of the first j that columns write. -/
def wText (Q : List Int) (cs : List Col) (j : Nat) : ByteArray := mkL ((Q ++ (wrote cs).take j).map digC)
theorem wText_step (Q : List Int) (cs : List Col) (j : Nat) (h : j < cs.length) : wText Q cs j ++ mkL [digC (cs.getD (cs.length - 1 - j) noCol).2.2.2.1] = wText Q cs (j + 1) := by
  have hw : j < (wrote cs).length := by rw [wrote_len]; exact h
  have e : (wrote cs)[j] = (cs.getD (cs.length - 1 - j) noCol).2.2.2.1 := by rw [← wrote_at cs j h]; simp [List.getD_eq_getElem?_getD, hw]
  unfold wText
  rw [mkL_app, List.take_succ_eq_append_getElem hw, e]
  simp
theorem wText_size (Q : List Int) (cs : List Col) (j : Nat) : (wText Q cs j).size ≤ Q.length + cs.length := by
  unfold wText; rw [mkL_size]
  have : ((wrote cs).take j).length ≤ cs.length := by rw [List.length_take, wrote_len]; omega
  rw [List.length_map, List.length_append]; omega
theorem wText_end (Q : List Int) (cs : List Col) : wText Q cs cs.length = mkL ((Q ++ wrote cs).map digC) := by
  unfold wText; rw [← wrote_len cs, List.take_length]
theorem plainOk_cons (d : Int) (ds : List Int) : plainOk (d :: ds) = numOk (plainS (d :: ds)) := by simp [plainOk]
theorem plainS_pos (ds : List Int) : 0 < (plainS ds).size := by
  unfold plainS; split
  · decide
  · next h => rw [mkL_size]; exact List.length_pos_iff.2 h

set_option maxHeartbeats 4000000 in
set_option maxRecDepth 100000 in
theorem specWritten_any (a : Option Addr) (cap : Nat) (cs : List Col) (w : World) (hs : Sl w a (cols cs)) (hn : cs.length ≤ 9) (h1 : 1 ≤ cs.length) (hl : Linked cs) (hg : ∀ k, k < cs.length → goodA (cs.getD k noCol) = true) :
    Calls Tryz.prog 126 #[.slice a cs.length cap] w fun e w' => e = .returned (.tuple #[.string (plainT (lastOut cs :: wrote cs)), .bool (plainOk (lastOut cs :: wrote cs))]) ∧ Fr w.heap.size none w w' := by
  have CW := Lib.hid (fun W hS => specWrongColumn_none a cap cs W hS hn hl hg)
  have BD := Lib.hid (fun k hk => single_bd (by have := hg k hk; simp only [goodA, Bool.and_eq_true] at this; exact this.1))
  have HS := Lib.hid hs
  clear hs hg hl
  have hlt : cs.length - 1 < cs.length := by omega
  have hi : ((cs.length : Int) - 1) = ((cs.length - 1 : Nat) : Int) := by omega
  have hz0 : ((cs.length : Int) == 0) = false := by rw [beq_eq_false_iff_ne]; omega
  have hlo := Lib.hid (show (cs.getD (cs.length - 1) noCol).2.2.2.2 = lastOut cs by unfold lastOut; rw [if_neg (by omega)])
  have hbo : 0 ≤ lastOut cs ∧ lastOut cs ≤ 1 := by rw [← hlo.out]; exact (BD.out _ hlt).2.2.2.2
  have CL := Lib.hid (fun W => l1Digit_any (lastOut cs) W hbo.1 (by omega))
  have W0 := Lib.hid (show mkL [digC (lastOut cs)] = wText [lastOut cs] cs 0 by simp [wText])
  have WE := Lib.hid (wText_end [lastOut cs] cs)
  have TB := Lib.hid (trimB_plain (lastOut cs :: wrote cs))
  have PO := Lib.hid (plainOk_cons (lastOut cs) (wrote cs))
  have psz := plainS_size (lastOut cs :: wrote cs)
  have hdl : (lastOut cs :: wrote cs).length = cs.length + 1 := by simp [wrote_len]
  have WS := Lib.hid (fun j => wText_size [lastOut cs] cs j)
  go_enter Tryz.func126, Tryz.ntmps126
  go_wp2_with fail
  refine (CW.out _ HS.out).mono ?_; rintro e w1 ⟨rfl, hF1⟩
  have F1 := Lib.hid hF1
  obtain ⟨b, off, rfl, _, _, _, _, c4⟩ := (HS.out.fr hF1).col (cs.length - 1) hlt
  rw [hlo.out] at c4
  clear hF1
  generalize hq : cs.length - 1 = q at *
  have q0 : (0 : Int) ≤ (q : Int) := by omega
  have q1 : (q : Int) < (cs.length : Int) := by omega
  have hlo9 := hbo
  clear hlo
  generalize hE : lastOut cs = lo at *
  have HLO := Lib.hid hE; clear hE
  have WT := Lib.hid (fun j h => wText_step [lo] cs j h)
  go_wp2_with fail
  refine (CL.out _).mono ?_; rintro e w2 ⟨rfl, hF2⟩
  have F2 := Lib.hid (F1.out.and hF2); clear hF2
  rw [W0.out]
  go_wp2
  go_loopw [4, 5] (fun v i wr => ∃ (j : Nat) (z : Int), j ≤ cs.length ∧ i = .int .i64 z ∧ Hid (z = (cs.length : Int) - 1 - (j : Int)) ∧ v = .string (wText [lo] cs j) ∧ Fr w.heap.size none w wr) (fun _ i _ => (intOf i + 1).toNat)
  case atStart => exact ⟨0, (q : Int), Nat.zero_le _, rfl, by show (q : Int) = _; omega, rfl, F2.out⟩
  case round =>
    obtain ⟨j, z, hj, rfl, hZ, rfl, hF⟩ := hrel
    have HF := Lib.hid hF; clear hF
    by_cases hlt2 : j < cs.length
    · have hzi : z = ((cs.length - 1 - j : Nat) : Int) := by have := hZ.out; omega
      have hi2 : cs.length - 1 - j < cs.length := by omega
      obtain ⟨b2, off2, e2, _, _, _, c3, _⟩ := (HS.out.fr HF.out).col (cs.length - 1 - j) hi2
      cases e2
      have bd := (BD.out _ hi2).2.2.1
      have st := Lib.hid (WT.out j hlt2)
      have sz1 := WS.out j
      have HZI := Lib.hid (show ((cs.length - 1 - j : Nat) : Int) - 1 = (cs.length : Int) - 1 - ((j + 1 : Nat) : Int) by omega)
      subst hzi
      generalize cs.length - 1 - j = i at *
      generalize (cs.getD i noCol).2.2.2.1 = d at *
      have CD := Lib.hid (fun W => l1Digit_any d W bd.1 bd.2)
      have ad := fun W => run_string_add_sum (P := Tryz.prog) W (wText [lo] cs j) (mkL [digC d]) (by rw [mkL_size]; simp at sz1 ⊢; omega)
      rw [st.out] at ad
      have i0 : (0 : Int) ≤ (i : Int) := by omega
      have i1 : (i : Int) < (cs.length : Int) := by omega
      generalize wText [lo] cs j = A at *
      generalize hA2 : wText [lo] cs (j + 1) = A2 at *
      have HA2 := Lib.hid hA2; clear hA2
      generalize mkL [digC d] = u at *
      clear hZ st
      go_wp2_with fail
      refine (CD.out _).mono ?_; rintro e w4 ⟨rfl, hF4⟩
      have F4 := Lib.hid (HF.out.and hF4); clear hF4
      go_wp2
      go_roundw
      case rel => exact ⟨j + 1, _, by omega, rfl, HZI, by rw [HA2.out], F4.out⟩
      case measure => simp [intOf] <;> omega
    · have hje : j = cs.length := by omega
      have hzz : decide (0 ≤ z) = false := by have := hZ.out; simp; omega
      have hzn : z < 0 := by have := hZ.out; omega
      have e1 := Lib.hid (show wText [lo] cs j = mkL ((lo :: wrote cs).map digC) by rw [hje]; exact WE.out)
      have CT := Lib.hid (fun W => l2TrimX (wText [lo] cs j) W (by have := WS.out j; simp at this; omega) (by rw [e1.out, mkL_size]; simp))
      rw [e1.out, TB.out] at CT
      rw [e1.out]
      have NP := Lib.hid (fun h => plain_no (ds := lo :: wrote cs) h)
      have YP := Lib.hid (fun h => plain_yes (ds := lo :: wrote cs) h)
      have hps : (plainS (lo :: wrote cs)).size ≤ 1048576 := by omega
      clear hje hZ
      generalize mkL ((lo :: wrote cs).map digC) = M at *
      obtain ⟨PS, hPS⟩ : ∃ z, plainS (lo :: wrote cs) = z := ⟨_, rfl⟩
      rw [hPS] at CT PO YP hps
      clear hPS psz TB
      go_wp2_with fail
      refine (CT.out _).mono ?_; rintro e w' ⟨rfl, rfl⟩
      cases hn2 : numOk PS
      · have HN := Lib.hid hn2
        have HP := Lib.hid (PO.out.trans hn2)
        have HQ := Lib.hid (NP.out HP.out)
        clear hn2
        go_wp2_with fail
        refine (numS_val hps HN.out _).mono ?_; rintro e w' ⟨rfl, rfl⟩
        go_wp2
        go_ret2
        exact ⟨ret_sb (by rw [HLO.out]; exact HQ.out) (by rw [HLO.out]; exact HP.out.symm), HF.out⟩
      · have HN := Lib.hid hn2
        have HP := Lib.hid (PO.out.trans hn2)
        have HQ := Lib.hid (YP.out HP.out)
        clear hn2
        go_wp2_with fail
        refine (numS_val hps HN.out _).mono ?_; rintro e w' ⟨rfl, rfl⟩
        go_wp2
        go_ret2
        exact ⟨ret_sb (by rw [HLO.out]; exact HQ.out) (by rw [HLO.out]; exact HP.out.symm), HF.out⟩
end Go.Proofs.YtdngnmpmaacapaaGreatDoor
/-
  Contracts: RowWritten and SumOf of the reference.
-/
namespace Go.Proofs.YtdngnmpmaacapaaGreatDoor
open Go.RowKit

theorem rowC_bd {b : Int} {c : Col} (h : goodR b c = true) : (0 ≤ c.2.2.2.1 ∧ c.2.2.2.1 ≤ 9) ∧ (0 ≤ c.2.2.2.2 ∧ c.2.2.2.2 ≤ 9) := by
  obtain ⟨⟨_, _, _, h4, h5⟩, _, _⟩ := goodR_parts h
  exact ⟨inB_true.1 h4, inB_true.1 h5⟩

set_option maxHeartbeats 4000000 in
set_option maxRecDepth 100000 in
theorem specRowWritten_any (a : Option Addr) (cap : Nat) (cs : List Col) (w : World) (hs : Sl w a (cols cs)) (hn : cs.length ≤ 9) (h1 : 1 ≤ cs.length) (hl : Linked cs) (hg : ∀ k, k < cs.length → goodR (cs.getD 0 noCol).2.1 (cs.getD k noCol) = true) :
    Calls Tryz.prog 165 #[.slice a cs.length cap] w fun e w' => e = .returned (.tuple #[.string (plainT (lastOut cs :: wrote cs)), .bool (plainOk (lastOut cs :: wrote cs))]) ∧ Fr w.heap.size none w w' := by
  have CW := Lib.hid (fun W hS => specWrongRow_none a cap cs W hS hn h1 hl hg)
  have BD := Lib.hid (fun k hk => rowC_bd (hg k hk))
  have HS := Lib.hid hs
  clear hs hg hl
  have hlt : cs.length - 1 < cs.length := by omega
  have hi : ((cs.length : Int) - 1) = ((cs.length - 1 : Nat) : Int) := by omega
  have hz0 : ((cs.length : Int) == 0) = false := by rw [beq_eq_false_iff_ne]; omega
  have hlo := Lib.hid (show (cs.getD (cs.length - 1) noCol).2.2.2.2 = lastOut cs by unfold lastOut; rw [if_neg (by omega)])
  have hbo : 0 ≤ lastOut cs ∧ lastOut cs ≤ 9 := by rw [← hlo.out]; exact (BD.out _ hlt).2
  have CL := Lib.hid (fun W => l1Digit_any (lastOut cs) W hbo.1 (by omega))
  have W0 := Lib.hid (show mkL [digC (lastOut cs)] = wText [lastOut cs] cs 0 by simp [wText])
  have WE := Lib.hid (wText_end [lastOut cs] cs)
  have TB := Lib.hid (trimB_plain (lastOut cs :: wrote cs))
  have PO := Lib.hid (plainOk_cons (lastOut cs) (wrote cs))
  have psz := plainS_size (lastOut cs :: wrote cs)
  have hdl : (lastOut cs :: wrote cs).length = cs.length + 1 := by simp [wrote_len]
  have WS := Lib.hid (fun j => wText_size [lastOut cs] cs j)
  go_enter Tryz.func165, Tryz.ntmps165
  go_wp2_with fail
  refine (CW.out _ HS.out).mono ?_; rintro e w1 ⟨rfl, hF1⟩
  have F1 := Lib.hid hF1
  obtain ⟨b, off, rfl, _, _, _, _, c4⟩ := (HS.out.fr hF1).col (cs.length - 1) hlt
  rw [hlo.out] at c4
  clear hF1
  generalize hq : cs.length - 1 = q at *
  have q0 : (0 : Int) ≤ (q : Int) := by omega
  have q1 : (q : Int) < (cs.length : Int) := by omega
  have hlo9 := hbo
  clear hlo
  generalize hE : lastOut cs = lo at *
  have HLO := Lib.hid hE; clear hE
  have WT := Lib.hid (fun j h => wText_step [lo] cs j h)
  go_wp2_with fail
  refine (CL.out _).mono ?_; rintro e w2 ⟨rfl, hF2⟩
  have F2 := Lib.hid (F1.out.and hF2); clear hF2
  rw [W0.out]
  go_wp2
  go_loopw [4, 5] (fun v i wr => ∃ (j : Nat) (z : Int), j ≤ cs.length ∧ i = .int .i64 z ∧ Hid (z = (cs.length : Int) - 1 - (j : Int)) ∧ v = .string (wText [lo] cs j) ∧ Fr w.heap.size none w wr) (fun _ i _ => (intOf i + 1).toNat)
  case atStart => exact ⟨0, (q : Int), Nat.zero_le _, rfl, by show (q : Int) = _; omega, rfl, F2.out⟩
  case round =>
    obtain ⟨j, z, hj, rfl, hZ, rfl, hF⟩ := hrel
    have HF := Lib.hid hF; clear hF
    by_cases hlt2 : j < cs.length
    · have hzi : z = ((cs.length - 1 - j : Nat) : Int) := by have := hZ.out; omega
      have hi2 : cs.length - 1 - j < cs.length := by omega
      obtain ⟨b2, off2, e2, _, _, _, c3, _⟩ := (HS.out.fr HF.out).col (cs.length - 1 - j) hi2
      cases e2
      have bd := (BD.out _ hi2).1
      have st := Lib.hid (WT.out j hlt2)
      have sz1 := WS.out j
      have HZI := Lib.hid (show ((cs.length - 1 - j : Nat) : Int) - 1 = (cs.length : Int) - 1 - ((j + 1 : Nat) : Int) by omega)
      subst hzi
      generalize cs.length - 1 - j = i at *
      generalize (cs.getD i noCol).2.2.2.1 = d at *
      have CD := Lib.hid (fun W => l1Digit_any d W bd.1 bd.2)
      have ad := fun W => run_string_add_sum (P := Tryz.prog) W (wText [lo] cs j) (mkL [digC d]) (by rw [mkL_size]; simp at sz1 ⊢; omega)
      rw [st.out] at ad
      have i0 : (0 : Int) ≤ (i : Int) := by omega
      have i1 : (i : Int) < (cs.length : Int) := by omega
      generalize wText [lo] cs j = A at *
      generalize hA2 : wText [lo] cs (j + 1) = A2 at *
      have HA2 := Lib.hid hA2; clear hA2
      generalize mkL [digC d] = u at *
      clear hZ st
      go_wp2_with fail
      refine (CD.out _).mono ?_; rintro e w4 ⟨rfl, hF4⟩
      have F4 := Lib.hid (HF.out.and hF4); clear hF4
      go_wp2
      go_roundw
      case rel => exact ⟨j + 1, _, by omega, rfl, HZI, by rw [HA2.out], F4.out⟩
      case measure => simp [intOf] <;> omega
    · have hje : j = cs.length := by omega
      have hzz : decide (0 ≤ z) = false := by have := hZ.out; simp; omega
      have hzn : z < 0 := by have := hZ.out; omega
      have e1 := Lib.hid (show wText [lo] cs j = mkL ((lo :: wrote cs).map digC) by rw [hje]; exact WE.out)
      have CT := Lib.hid (fun W => l2TrimX (wText [lo] cs j) W (by have := WS.out j; simp at this; omega) (by rw [e1.out, mkL_size]; simp))
      rw [e1.out, TB.out] at CT
      rw [e1.out]
      have NP := Lib.hid (fun h => plain_no (ds := lo :: wrote cs) h)
      have YP := Lib.hid (fun h => plain_yes (ds := lo :: wrote cs) h)
      have hps : (plainS (lo :: wrote cs)).size ≤ 1048576 := by omega
      clear hje hZ
      generalize mkL ((lo :: wrote cs).map digC) = M at *
      obtain ⟨PS, hPS⟩ : ∃ z, plainS (lo :: wrote cs) = z := ⟨_, rfl⟩
      rw [hPS] at CT PO YP hps
      clear hPS psz TB
      go_wp2_with fail
      refine (CT.out _).mono ?_; rintro e w' ⟨rfl, rfl⟩
      cases hn2 : numOk PS
      · have HN := Lib.hid hn2
        have HP := Lib.hid (PO.out.trans hn2)
        have HQ := Lib.hid (NP.out HP.out)
        clear hn2
        go_wp2_with fail
        refine (numS_val hps HN.out _).mono ?_; rintro e w' ⟨rfl, rfl⟩
        go_wp2
        go_ret2
        exact ⟨ret_sb (by rw [HLO.out]; exact HQ.out) (by rw [HLO.out]; exact HP.out.symm), HF.out⟩
      · have HN := Lib.hid hn2
        have HP := Lib.hid (PO.out.trans hn2)
        have HQ := Lib.hid (YP.out HP.out)
        clear hn2
        go_wp2_with fail
        refine (numS_val hps HN.out _).mono ?_; rintro e w' ⟨rfl, rfl⟩
        go_wp2
        go_ret2
        exact ⟨ret_sb (by rw [HLO.out]; exact HQ.out) (by rw [HLO.out]; exact HP.out.symm), HF.out⟩

theorem sumC_facts {s t : ByteArray} (hs : numOk s = true) (ht : numOk t = true) : (sumC s t).1.length ≤ 9 ∧ 1 ≤ (sumC s t).1.length ∧ Linked (sumC s t).1 ∧ (∀ k, k < (sumC s t).1.length → goodA ((sumC s t).1.getD k noCol) = true) ∧ lastOut (sumC s t).1 = (sumC s t).2 := by
  have l1 := num_len hs; have l2 := num_len ht
  have e : (sumC s t).1.length = max s.size t.size := chain_len _ _
  refine ⟨by omega, by omega, chain_linked _ (fun _ _ => rfl) _, ?_, chain_last _ _⟩
  intro k hk
  rw [e] at hk
  unfold sumC
  rw [chain_get _ _ _ hk]
  exact add_good hs ht k
theorem sum_no1 {s t : ByteArray} (h : numOk s = false) : ((⟨#[]⟩ : ByteArray), false) = sumI s t := by simp [sumI, h]
theorem sum_no2 {s t : ByteArray} (h : numOk t = false) : ((⟨#[]⟩ : ByteArray), false) = sumI s t := by simp [sumI, h]
theorem sum_yes {s t : ByteArray} (hs : numOk s = true) (ht : numOk t = true) : (plainT (lastOut (sumC s t).1 :: wrote (sumC s t).1), plainOk (lastOut (sumC s t).1 :: wrote (sumC s t).1)) = sumI s t := by
  rw [(sumC_facts hs ht).2.2.2.2]; simp [sumI, hs, ht, sumDs]
theorem ret_pair {x : ByteArray} {b : Bool} {p : ByteArray × Bool} (h : (x, b) = p) : Ending.returned (.tuple #[.string x, .bool b]) = .returned (.tuple #[.string p.1, .bool p.2]) := by subst h; rfl
/-- No columns are written as nothing. -/
theorem specWritten_nil (a : Option Addr) (cap : Nat) (w : World) : Calls Tryz.prog 126 #[.slice a 0 cap] w fun e w' => e = .returned (.tuple #[.string ⟨#[]⟩, .bool false]) ∧ w = w' := by
  go_enter Tryz.func126, Tryz.ntmps126
  go_wp2
  go_ret2
  exact ⟨rfl, rfl⟩
theorem specAdded_no (s t : ByteArray) (w : World) (hs : s.size ≤ 1048576) (ht : t.size ≤ 1048576) (h : (numOk s && numOk t) = false) : Calls Tryz.prog 127 #[.string s, .string t] w fun e w' => (∃ a cap, e = .returned (.slice a 0 cap)) ∧ Fr w.heap.size none w w' := by
  have F0 := Lib.hid ((Fr.refl w.heap.size none w).alloc (Nat.le_refl _) (.cells #[] 149))
  cases h1 : numOk s
  · have H1 := Lib.hid h1; clear h1 h
    go_enter Tryz.func127, Tryz.ntmps127
    go_wp2_with fail
    refine (numS_val hs H1.out _).mono ?_; rintro e w' ⟨rfl, rfl⟩
    go_wp2
    go_ret
    exact ⟨⟨_, _, rfl⟩, F0.out⟩
  · rw [h1] at h
    have H1 := Lib.hid h1; have H2 := Lib.hid (show numOk t = false by simpa using h); clear h1 h
    go_enter Tryz.func127, Tryz.ntmps127
    go_wp2_with fail
    refine (numS_val hs H1.out _).mono ?_; rintro e w' ⟨rfl, rfl⟩
    go_wp2_with fail
    refine (numS_val ht H2.out _).mono ?_; rintro e w' ⟨rfl, rfl⟩
    go_wp2
    go_ret
    exact ⟨⟨_, _, rfl⟩, F0.out⟩
set_option maxRecDepth 100000 in
theorem specSum_any (s t : ByteArray) (w : World) (hs : s.size ≤ 1048576) (ht : t.size ≤ 1048576) : Calls Tryz.prog 90 #[.string s, .string t] w fun e w' => e = .returned (.tuple #[.string (sumI s t).1, .bool (sumI s t).2]) ∧ Fr w.heap.size none w w' := by
  cases h : (numOk s && numOk t)
  · have hr := Lib.hid (show ((⟨#[]⟩ : ByteArray), false) = sumI s t by simp [sumI, h])
    have CA := Lib.hid (fun W => specAdded_no s t W hs ht h)
    clear h
    generalize sumI s t = r at *
    obtain ⟨r1, r2⟩ := r
    go_enter Tryz.func90, Tryz.ntmps90
    go_wp2_with fail
    refine (CA.out _).mono ?_; rintro e w1 ⟨⟨a, c, rfl⟩, hF1⟩
    have F1 := Lib.hid hF1; clear hF1
    go_wp2_with fail
    refine (specWritten_nil a c _).mono ?_; rintro e w' ⟨rfl, rfl⟩
    go_wp2
    go_ret2
    exact ⟨ret_pair hr.out, F1.out⟩
  · simp only [Bool.and_eq_true] at h
    obtain ⟨h1, h2⟩ := h
    have hr := Lib.hid (sum_yes h1 h2)
    obtain ⟨f1, f2, f3, f4, _⟩ := sumC_facts h1 h2
    have CA := Lib.hid (fun W => specAdded_any s t W h1 h2)
    have CW := Lib.hid (fun a c W hS => specWritten_any a c (sumC s t).1 W hS f1 f2 f3 f4)
    clear f3 f4
    generalize plainT (lastOut (sumC s t).1 :: wrote (sumC s t).1) = x at *
    generalize plainOk (lastOut (sumC s t).1 :: wrote (sumC s t).1) = y at *
    generalize (sumC s t).1 = cs at *
    generalize sumI s t = r at *
    go_enter Tryz.func90, Tryz.ntmps90
    go_wp2_with fail
    refine (CA.out _).mono ?_; rintro e w1 ⟨a, c, rfl, hs1, hF1⟩
    have F1 := Lib.hid hF1; have S1 := Lib.hid hs1; clear hF1 hs1
    go_wp2_with fail
    refine (CW.out _ _ _ S1.out).mono ?_; rintro e w2 ⟨rfl, hF2⟩
    have F2 := Lib.hid (F1.out.and hF2); clear hF2
    go_wp2
    go_ret2
    exact ⟨ret_pair hr.out, F2.out⟩
end Go.Proofs.YtdngnmpmaacapaaGreatDoor
/-
  Contracts: LeftOf and DifferenceOf of the reference.
-/
namespace Go.Proofs.YtdngnmpmaacapaaGreatDoor
open Go.RowKit

theorem digC_dig {d : Int} (h0 : 0 ≤ d) (h1 : d ≤ 9) : isDig (digC d) = true := by
  rcases ten_of h0 h1 with rfl | rfl | rfl | rfl | rfl | rfl | rfl | rfl | rfl | rfl <;> rfl
theorem getD_head {T : List UInt8} (h : T ≠ []) : T.getD 0 0 = T.head h := by
  cases T with
  | nil => exact absurd rfl h
  | cons a r => rfl
/-- At most nine digits are a numeral, the noughts ahead being left out. -/
theorem plain_nine {ds : List Int} (hd : ∀ d ∈ ds, 0 ≤ d ∧ d ≤ 9) (hl : ds.length ≤ 9) : numOk (plainS ds) = true := by
  unfold plainS
  split
  · decide
  · next hne =>
    have hall : (trimZ (ds.map digC)).all isDig = true := by
      rw [List.all_eq_true]
      intro b hb
      have hb2 : b ∈ ds.map digC := (List.dropWhile_sublist _).subset hb
      obtain ⟨d, hd2, rfl⟩ := List.mem_map.1 hb2
      exact digC_dig (hd d hd2).1 (hd d hd2).2
    have hlen : (trimZ (ds.map digC)).length ≤ 9 := by
      have : (trimZ (ds.map digC)).length ≤ (ds.map digC).length := (List.dropWhile_sublist _).length_le
      rw [List.length_map] at this; omega
    have hpos : 0 < (trimZ (ds.map digC)).length := List.length_pos_iff.2 hne
    have hhead : ((trimZ (ds.map digC)).getD 0 0 == 48) = false := by
      have h1 : ((trimZ (ds.map digC)).head hne == 48) = false := List.head_dropWhile_not (fun b : UInt8 => b == 48) hne
      rw [getD_head hne, h1]
    have e : (mkL (trimZ (ds.map digC))).data.toList = trimZ (ds.map digC) := by show (trimZ (ds.map digC)).toArray.toList = _; simp
    unfold numOk
    rw [e, mkL_size, hall, hhead]
    have : inB ((trimZ (ds.map digC)).length : Int) 1 9 = true := inB_true.2 (by omega)
    rw [this]; rfl
theorem plainOk_nine {ds : List Int} (hd : ∀ d ∈ ds, 0 ≤ d ∧ d ≤ 9) (hl : ds.length ≤ 9) (h1 : 1 ≤ ds.length) : plainOk ds = true := by
  unfold plainOk
  rw [plain_nine hd hl]
  have : ds ≠ [] := by intro e; rw [e] at h1; simp at h1
  simp [this]
theorem wrote_bd {cs : List Col} (h : ∀ k, k < cs.length → 0 ≤ (cs.getD k noCol).2.2.2.1 ∧ (cs.getD k noCol).2.2.2.1 ≤ 9) : ∀ d ∈ wrote cs, 0 ≤ d ∧ d ≤ 9 := by
  intro d hd
  simp only [wrote, List.mem_reverse, List.mem_map] at hd
  obtain ⟨c, hc, rfl⟩ := hd
  obtain ⟨k, hk, rfl⟩ := List.mem_iff_getElem.1 hc
  have := h k hk
  simpa [List.getD_eq_getElem?_getD, hk] using this

def leftI (cs : List Col) : ByteArray × Bool := if lastOut cs = 1 then (⟨#[]⟩, false) else (plainT (wrote cs), plainOk (wrote cs))
set_option maxHeartbeats 4000000 in
set_option maxRecDepth 100000 in
theorem specLeft_any (a : Option Addr) (cap : Nat) (cs : List Col) (w : World) (hs : Sl w a (cols cs)) (hn : cs.length ≤ 9) (h1 : 1 ≤ cs.length) (hl : Linked cs) (hg : ∀ k, k < cs.length → goodT (cs.getD k noCol) = true) :
    Calls Tryz.prog 124 #[.slice a cs.length cap] w fun e w' => e = .returned (.tuple #[.string (leftI cs).1, .bool (leftI cs).2]) ∧ Fr w.heap.size none w w' := by
  have CW := Lib.hid (fun W hS => specWrongTaken_any a cap cs W hS hn hl hg)
  have BD := Lib.hid (fun k hk => single_bd (by have := hg k hk; simp only [goodT, Bool.and_eq_true] at this; exact this.1))
  have HS := Lib.hid hs
  clear hs hg hl
  have hi : ((cs.length : Int) - 1) = ((cs.length - 1 : Nat) : Int) := by omega
  have hz0 : ((cs.length : Int) == 0) = false := by rw [beq_eq_false_iff_ne]; omega
  by_cases hlo : lastOut cs = 1
  · have hr := Lib.hid (show ((⟨#[]⟩ : ByteArray), false) = leftI cs by unfold leftI; rw [if_pos hlo])
    have hw : wtI cs = (cs.length : Int) := by unfold wtI; rw [if_pos hlo]
    rw [hw] at CW
    have hz1 : ((cs.length : Int) != -1) = true := by rw [bne_iff_ne]; omega
    clear hlo hw
    go_enter Tryz.func124, Tryz.ntmps124
    go_wp2_with fail
    refine (CW.out _ HS.out).mono ?_; rintro e w1 ⟨rfl, hF1⟩
    go_wp2
    go_ret2
    exact ⟨ret_pair hr.out, hF1⟩
  have hok : plainOk (wrote cs) = true := plainOk_nine (wrote_bd fun k hk => (BD.out k hk).2.2.1) (by rw [wrote_len]; exact hn) (by rw [wrote_len]; exact h1)
  have hr := Lib.hid (show (plainS (wrote cs), true) = leftI cs by unfold leftI; rw [if_neg hlo, ← plain_yes hok, hok])
  have hw : wtI cs = -1 := by unfold wtI; rw [if_neg hlo]
  rw [hw] at CW
  clear hlo hw hok
  have W0 := Lib.hid (show (⟨#[]⟩ : ByteArray) = wText [] cs 0 from rfl)
  have WE := Lib.hid (wText_end [] cs)
  have TB := Lib.hid (trimB_plain (wrote cs))
  have psz := plainS_size (wrote cs)
  have hdl : (wrote cs).length = cs.length := wrote_len cs
  have WS := Lib.hid (fun j => wText_size [] cs j)
  go_enter Tryz.func124, Tryz.ntmps124
  go_wp2_with fail
  refine (CW.out _ HS.out).mono ?_; rintro e w1 ⟨rfl, hF1⟩
  have F1 := Lib.hid hF1; clear hF1
  generalize hq : cs.length - 1 = q at *
  have q0 : (0 : Int) ≤ (q : Int) := by omega
  have WT := Lib.hid (fun j h => wText_step [] cs j h)
  go_wp2
  go_loopw [4, 5] (fun v i wr => ∃ (j : Nat) (z : Int), j ≤ cs.length ∧ i = .int .i64 z ∧ Hid (z = (cs.length : Int) - 1 - (j : Int)) ∧ v = .string (wText [] cs j) ∧ Fr w.heap.size none w wr) (fun _ i _ => (intOf i + 1).toNat)
  case atStart => exact ⟨0, (q : Int), Nat.zero_le _, rfl, by show (q : Int) = _; omega, by rw [W0.out], F1.out⟩
  case round =>
    obtain ⟨j, z, hj, rfl, hZ, rfl, hF⟩ := hrel
    have HF := Lib.hid hF; clear hF
    by_cases hlt2 : j < cs.length
    · have hzi : z = ((cs.length - 1 - j : Nat) : Int) := by have := hZ.out; omega
      have hi2 : cs.length - 1 - j < cs.length := by omega
      obtain ⟨b2, off2, e2, _, _, _, c3, _⟩ := (HS.out.fr HF.out).col (cs.length - 1 - j) hi2
      cases e2
      have bd := (BD.out _ hi2).2.2.1
      have st := Lib.hid (WT.out j hlt2)
      have sz1 := WS.out j
      have HZI := Lib.hid (show ((cs.length - 1 - j : Nat) : Int) - 1 = (cs.length : Int) - 1 - ((j + 1 : Nat) : Int) by omega)
      subst hzi
      generalize cs.length - 1 - j = i at *
      generalize (cs.getD i noCol).2.2.2.1 = d at *
      have CD := Lib.hid (fun W => l1Digit_any d W bd.1 bd.2)
      have ad := fun W => run_string_add_sum (P := Tryz.prog) W (wText [] cs j) (mkL [digC d]) (by rw [mkL_size]; simp at sz1 ⊢; omega)
      rw [st.out] at ad
      have i0 : (0 : Int) ≤ (i : Int) := by omega
      have i1 : (i : Int) < (cs.length : Int) := by omega
      generalize wText [] cs j = A at *
      generalize hA2 : wText [] cs (j + 1) = A2 at *
      have HA2 := Lib.hid hA2; clear hA2
      generalize mkL [digC d] = u at *
      clear hZ st
      go_wp2_with fail
      refine (CD.out _).mono ?_; rintro e w4 ⟨rfl, hF4⟩
      have F4 := Lib.hid (HF.out.and hF4); clear hF4
      go_wp2
      go_roundw
      case rel => exact ⟨j + 1, _, by omega, rfl, HZI, by rw [HA2.out], F4.out⟩
      case measure => simp [intOf] <;> omega
    · have hje : j = cs.length := by omega
      have hzz : decide (0 ≤ z) = false := by have := hZ.out; simp; omega
      have hzn : z < 0 := by have := hZ.out; omega
      have e1 := Lib.hid (show wText [] cs j = mkL ((wrote cs).map digC) by rw [hje]; exact WE.out)
      have CT := Lib.hid (fun W => l2TrimX (wText [] cs j) W (by have := WS.out j; simp at this; omega) (by rw [e1.out, mkL_size, List.length_map, wrote_len]; omega))
      rw [e1.out, TB.out] at CT
      rw [e1.out]
      have hps : (plainS (wrote cs)).size ≤ 1048576 := by omega
      clear hje hZ
      generalize mkL ((wrote cs).map digC) = M at *
      generalize plainS (wrote cs) = PS at *
      clear psz TB
      go_wp2_with fail
      refine (CT.out _).mono ?_; rintro e w' ⟨rfl, rfl⟩
      go_wp2
      go_ret2
      exact ⟨ret_pair hr.out, HF.out⟩
end Go.Proofs.YtdngnmpmaacapaaGreatDoor
/-
  Contracts: DifferenceOf of the reference.
-/
namespace Go.Proofs.YtdngnmpmaacapaaGreatDoor
open Go.RowKit

theorem takC_facts {s t : ByteArray} (hs : numOk s = true) (ht : numOk t = true) : (takC s t).1.length ≤ 9 ∧ 1 ≤ (takC s t).1.length ∧ Linked (takC s t).1 ∧ (∀ k, k < (takC s t).1.length → goodT ((takC s t).1.getD k noCol) = true) ∧ lastOut (takC s t).1 = (takC s t).2 := by
  have l1 := num_len hs
  have e : (takC s t).1.length = s.size := chain_len _ _
  refine ⟨by omega, by omega, chain_linked _ (fun _ _ => rfl) _, ?_, chain_last _ _⟩
  intro k hk
  rw [e] at hk
  unfold takC
  rw [chain_get _ _ _ hk]
  exact tak_good hs ht k
theorem dif_no {s t : ByteArray} (h : ordI s t < 0) : ((⟨#[]⟩ : ByteArray), false) = difI s t := by
  unfold difI; rw [if_neg (by intro e; omega)]
theorem dif_yes {s t : ByteArray} (hs : numOk s = true) (ht : numOk t = true) (h : 0 ≤ ordI s t) : leftI (takC s t).1 = difI s t := by
  have hb := tak_bd (s := s) (t := t) s.size
  have hl := (takC_facts hs ht).2.2.2.2
  have e2 : (takC s t).2 = (chain (takS s t) s.size).2 := rfl
  unfold leftI difI
  rw [hl]
  by_cases h1 : (takC s t).2 = 1
  · rw [if_pos h1, if_neg (by intro e; omega)]
  · rw [if_neg h1, if_pos ⟨h, by omega⟩]
/-- No columns leave nothing. -/
theorem specLeft_nil (a : Option Addr) (cap : Nat) (w : World) : Calls Tryz.prog 124 #[.slice a 0 cap] w fun e w' => e = .returned (.tuple #[.string ⟨#[]⟩, .bool false]) ∧ w = w' := by
  go_enter Tryz.func124, Tryz.ntmps124
  go_wp2
  go_ret2
  exact ⟨rfl, rfl⟩
theorem specTaken_no (s t : ByteArray) (w : World) (hs : s.size ≤ 1048576) (ht : t.size ≤ 1048576) (h : ordI s t < 0) : Calls Tryz.prog 125 #[.string s, .string t] w fun e w' => (∃ a cap, e = .returned (.slice a 0 cap)) ∧ Fr w.heap.size none w w' := by
  have F0 := Lib.hid ((Fr.refl w.heap.size none w).alloc (Nat.le_refl _) (.cells #[] 149))
  have CO := Lib.hid (fun W => specOrder_any s t W hs ht)
  generalize ordI s t = o at *
  go_enter Tryz.func125, Tryz.ntmps125
  go_wp2_with fail
  refine (CO.out _).mono ?_; rintro e w' ⟨rfl, m, rfl⟩
  go_wp2
  go_ret
  exact ⟨⟨_, _, rfl⟩, F0.out.drewN m⟩
set_option maxRecDepth 100000 in
theorem specDif_any (s t : ByteArray) (w : World) (hs : s.size ≤ 1048576) (ht : t.size ≤ 1048576) : Calls Tryz.prog 85 #[.string s, .string t] w fun e w' => e = .returned (.tuple #[.string (difI s t).1, .bool (difI s t).2]) ∧ Fr w.heap.size none w w' := by
  by_cases h : ordI s t < 0
  · have hr := Lib.hid (dif_no h)
    have CA := Lib.hid (fun W => specTaken_no s t W hs ht h)
    clear h
    generalize difI s t = r at *
    go_enter Tryz.func85, Tryz.ntmps85
    go_wp2_with fail
    refine (CA.out _).mono ?_; rintro e w1 ⟨⟨a, c, rfl⟩, hF1⟩
    have F1 := Lib.hid hF1; clear hF1
    go_wp2_with fail
    refine (specLeft_nil a c _).mono ?_; rintro e w' ⟨rfl, rfl⟩
    go_wp2
    go_ret2
    exact ⟨ret_pair hr.out, F1.out⟩
  · have h0 : 0 ≤ ordI s t := by omega
    obtain ⟨h1, h2⟩ := ord_ok h0
    have hr := Lib.hid (dif_yes h1 h2 h0)
    obtain ⟨f1, f2, f3, f4, _⟩ := takC_facts h1 h2
    have CA := Lib.hid (fun W => specTaken_any s t W h1 h2 h0)
    have CW := Lib.hid (fun a c W hS => specLeft_any a c (takC s t).1 W hS f1 f2 f3 f4)
    clear f3 f4 h h0
    rw [hr.out] at CW
    generalize (takC s t).1 = cs at *
    go_enter Tryz.func85, Tryz.ntmps85
    go_wp2_with fail
    refine (CA.out _).mono ?_; rintro e w1 ⟨a, c, rfl, hs1, hF1⟩
    have F1 := Lib.hid hF1; have S1 := Lib.hid hs1; clear hF1 hs1
    go_wp2_with fail
    refine (CW.out _ _ _ S1.out).mono ?_; rintro e w2 ⟨rfl, hF2⟩
    have F2 := Lib.hid (F1.out.and hF2); clear hF2
    go_wp2
    go_ret2
    exact ⟨rfl, F2.out⟩
end Go.Proofs.YtdngnmpmaacapaaGreatDoor
/-
  Contracts: TotalOf of the reference.
-/
namespace Go.Proofs.YtdngnmpmaacapaaGreatDoor
open Go.RowKit

/-- Texts added one after the other. -/
def totF : List ByteArray → ByteArray → ByteArray × Bool
  | [], now => (now, true)
  | s :: r, now => if (sumI now s).2 = true then totF r (sumI now s).1 else (⟨#[]⟩, false)
def totI (xs : List ByteArray) : ByteArray × Bool := totF xs ⟨#[48]⟩
theorem sumI_size {s t : ByteArray} (h : (sumI s t).2 = true) : (sumI s t).1.size ≤ 9 := by
  unfold sumI at h ⊢
  split at h
  · next hc =>
    rw [if_pos hc]
    dsimp only at h ⊢
    rw [← plain_yes h]
    simp only [plainOk, Bool.and_eq_true] at h
    exact (num_len h.2).2
  · cases h
set_option maxHeartbeats 1000000 in
set_option maxRecDepth 100000 in
theorem specTotal_any (a : Option Addr) (cap : Nat) (xs : List ByteArray) (w : World) (hs : Sl w a (strs xs)) (hn : xs.length ≤ 9) (hz : ∀ k, k < xs.length → (xs.getD k noS).size ≤ 1048576) :
    Calls Tryz.prog 129 #[.slice a xs.length cap] w fun e w' => e = .returned (.tuple #[.string (totI xs).1, .bool (totI xs).2]) ∧ Fr w.heap.size none w w' := by
  have HS := Lib.hid hs; have HZ := Lib.hid hz; clear hs hz
  go_enter Tryz.func129, Tryz.ntmps129
  go_wp2
  go_loopw [4, 5] (fun v i wr => ∃ (k : Nat) (now : ByteArray), k ≤ xs.length ∧ i = .int .i64 k ∧ v = .string now ∧ now.size ≤ 9 ∧ Hid (totF (xs.drop k) now = totI xs) ∧ Fr w.heap.size none w wr) (fun _ i _ => xs.length - (intOf i).toNat)
  case atStart => exact ⟨0, ⟨#[48]⟩, Nat.zero_le _, rfl, rfl, by decide, rfl, Fr.refl _ _ _⟩
  case round =>
    obtain ⟨k, now, hk, rfl, rfl, hsz, hT, hF⟩ := hrel
    have HF := Lib.hid hF; clear hF
    by_cases hlt : k < xs.length
    · obtain ⟨b, off, rfl, hc⟩ := (HS.out.fr HF.out).str k hlt
      have hzk := HZ.out k hlt
      have e1 := hT.out
      rw [drop_str hlt] at e1
      generalize xs.getD k noS = u at *
      have CS := Lib.hid (fun W => specSum_any now u W (by omega) hzk)
      have SZ := Lib.hid (fun h => sumI_size (s := now) (t := u) h)
      simp only [totF] at e1
      have E1 := Lib.hid e1
      clear e1 hT
      generalize sumI now u = r at *
      obtain ⟨r1, r2⟩ := r
      dsimp only at *
      have k0 : (0 : Int) ≤ (k : Int) := by omega
      have k1 : (k : Int) < (xs.length : Int) := by omega
      have k9 : ¬ (9 : Int) < (xs.length : Int) := by omega
      cases r2
      · have hr := Lib.hid (show ((⟨#[]⟩ : ByteArray), false) = totI xs by rw [← E1.out]; simp)
        go_wp2_with fail
        refine (CS.out _).mono ?_; rintro e w2 ⟨rfl, hF2⟩
        have F2 := Lib.hid (HF.out.and hF2); clear hF2
        go_wp2
        go_ret2
        exact ⟨ret_pair hr.out, F2.out⟩
      · have hr := Lib.hid (show totF (xs.drop (k + 1)) r1 = totI xs by rw [← E1.out]; simp)
        have hsz2 := SZ.out rfl
        clear E1 SZ
        go_wp2_with fail
        refine (CS.out _).mono ?_; rintro e w2 ⟨rfl, hF2⟩
        have F2 := Lib.hid (HF.out.and hF2); clear hF2
        go_wp2
        go_roundw
        case rel => exact ⟨k + 1, r1, by omega, by go_num, rfl, hsz2, hr, F2.out⟩
        case measure => simp [intOf]; omega
    · have hke : k = xs.length := by omega
      have hge : (xs.length : Int) ≤ (k : Int) := by omega
      have hr := Lib.hid (show (now, true) = totI xs by rw [← hT.out, hke, List.drop_length]; rfl)
      clear hke
      go_wp2
      go_ret2
      exact ⟨ret_pair hr.out, HF.out⟩
end Go.Proofs.YtdngnmpmaacapaaGreatDoor
/-
  Plain law and contract: MovedBy of the reference.
-/
namespace Go.Proofs.YtdngnmpmaacapaaGreatDoor
open Go.RowKit

def zeroS : ByteArray := ⟨#[48]⟩
def zerosB (p : Nat) : ByteArray := mkL (List.replicate p 48)
theorem lit_ne {s : ByteArray} {l : List UInt8} (h : s ≠ mkL l) : (s.toList == l) = false := by
  rw [beq_eq_false_iff_ne]
  intro e
  apply h
  rw [ByteArray.toList_eq] at e
  rw [← e, mkL_data]
/-- A numeral moved to the left. -/
def movI (s : ByteArray) (p : Nat) : ByteArray × Bool := if numOk s then (if s = zeroS then (s, true) else if s.size + p ≤ 9 then (s ++ zerosB p, true) else (⟨#[]⟩, false)) else (⟨#[]⟩, false)
theorem head_ne {s : ByteArray} (h : numOk s = true) (hz : s ≠ zeroS) : (s.data.toList.getD 0 0 == 48) = false := by
  have hl := num_len h
  have hll : s.data.toList.length = s.size := by simp
  simp only [numOk, Bool.and_eq_true, Bool.or_eq_true, Bool.not_eq_true', decide_eq_true_eq] at h
  rcases h.2.2 with h1 | h1
  · exact h1
  · cases hq : (s.data.toList.getD 0 0 == 48)
    · rfl
    · exfalso
      apply hz
      rw [← mkL_data s]
      have : s.data.toList = [48] := by
        match hs : s.data.toList with
        | [] => rw [hs] at hll; simp at hll; omega
        | [a] => rw [hs] at hq; simp at hq; rw [hq]
        | a :: b :: r => rw [hs] at hll; simp at hll; omega
      rw [this]; rfl
theorem mov_ok {s : ByteArray} (h : numOk s = true) (hz : s ≠ zeroS) (p : Nat) : numOk (s ++ zerosB p) = decide (s.size + p ≤ 9) := by
  have hh := head_ne h hz
  have hl := num_len h
  have hd : (s ++ zerosB p).data.toList = s.data.toList ++ List.replicate p 48 := by
    rw [ByteArray.data_append]; simp [zerosB, mkL]
  have hs : (s ++ zerosB p).size = s.size + p := by rw [ByteArray.size_append]; unfold zerosB; rw [mkL_size, List.length_replicate]
  have hll : s.data.toList.length = s.size := by simp
  have ha : (s.data.toList ++ List.replicate p 48).all isDig = true := by
    rw [List.all_append]
    have h1 : s.data.toList.all isDig = true := by simp only [numOk, Bool.and_eq_true] at h; exact h.1
    rw [h1]
    rw [List.all_eq_true.2 (fun b hb => by rw [List.eq_of_mem_replicate hb]; rfl)]; rfl
  have hg : (s.data.toList ++ List.replicate p 48).getD 0 0 = s.data.toList.getD 0 0 := by
    simp only [List.getD_eq_getElem?_getD]
    rw [List.getElem?_append_left (by omega)]
  unfold numOk
  rw [hd, hs, ha, hg, hh]
  by_cases h9 : s.size + p ≤ 9
  · have : inB ((s.size + p : Nat) : Int) 1 9 = true := inB_true.2 (by omega)
    rw [this]; simp [h9]
  · have : inB ((s.size + p : Nat) : Int) 1 9 = false := inB_false.2 (by omega)
    rw [this]; simp [h9]
theorem zeros_step (s : ByteArray) (k : Nat) : s ++ zerosB k ++ zeroS = s ++ zerosB (k + 1) := by
  have e : zerosB k ++ zeroS = zerosB (k + 1) := by
    show mkL (List.replicate k 48) ++ mkL [48] = _
    rw [mkL_app, ← List.replicate_succ']; rfl
  rw [ByteArray.append_assoc, e]
set_option maxRecDepth 100000 in
theorem specMoved_any (s : ByteArray) (p : Nat) (w : World) (hs : s.size ≤ 1048576) (hp : p ≤ 8) :
    Calls Tryz.prog 167 #[.string s, .int .i64 (p : Int)] w fun e w' => e = .returned (.tuple #[.string (movI s p).1, .bool (movI s p).2]) ∧ w = w' := by
  have p0 : (0 : Int) ≤ (p : Int) := by omega
  have p9 : (p : Int) ≤ 9 := by omega
  cases h : numOk s
  · have hr := Lib.hid (show ((⟨#[]⟩ : ByteArray), false) = movI s p by simp [movI, h])
    have H := Lib.hid h; clear h
    go_enter Tryz.func167, Tryz.ntmps167
    go_wp2_with fail
    refine (numS_val hs H.out _).mono ?_; rintro e w' ⟨rfl, rfl⟩
    go_wp2
    go_ret2
    exact ⟨ret_pair hr.out, rfl⟩
  · by_cases hz : s = zeroS
    · subst hz
      have hr := Lib.hid (show (zeroS, true) = movI zeroS p by simp [movI, h])
      have H := Lib.hid h; clear h
      unfold zeroS at H hr
      dsimp only [zeroS]
      go_enter Tryz.func167, Tryz.ntmps167
      go_wp2_with fail
      refine (numS_val (by decide) H.out _).mono ?_; rintro e w' ⟨rfl, rfl⟩
      go_wp2
      go_loop [6, 7] (fun v i => v = .string ⟨#[48]⟩ ∧ i = .int .i64 0) (fun _ _ => 0)
      case atStart => exact ⟨rfl, rfl⟩
      case round =>
        obtain ⟨rfl, rfl⟩ := hrel
        go_wp2_with (go_at_call 53; refine (numS_val (by decide) H.out _).mono ?_; rintro e w' ⟨rfl, rfl⟩)
        all_goals go_ret2
        all_goals exact ⟨ret_pair hr.out, rfl⟩
    · have hl := num_len h
      have hm := mov_ok h hz p
      have hzl : (s.toList == [48]) = false := lit_ne (l := [48]) hz
      have hr := Lib.hid (show (if s.size + p ≤ 9 then (s ++ zerosB p, true) else ((⟨#[]⟩ : ByteArray), false)) = movI s p by simp [movI, h, hz])
      have HM := Lib.hid hm; clear hm
      have H := Lib.hid h; clear h
      have HZ := Lib.hid hz; clear hz
      go_enter Tryz.func167, Tryz.ntmps167
      go_wp2_with fail
      refine (numS_val (by omega) H.out _).mono ?_; rintro e w' ⟨rfl, rfl⟩
      go_wp2
      go_loop [6, 7] (fun v i => ∃ k : Nat, k ≤ p ∧ i = .int .i64 k ∧ v = .string (s ++ zerosB k)) (fun _ i => p - (intOf i).toNat)
      case atStart => exact ⟨0, Nat.zero_le _, rfl, by rw [show zerosB 0 = ByteArray.empty from rfl, ByteArray.append_empty]⟩
      case round =>
        obtain ⟨k, hk, rfl, rfl⟩ := hrel
        have hsz : (s ++ zerosB k).size = s.size + k := by rw [ByteArray.size_append]; unfold zerosB; rw [mkL_size, List.length_replicate]
        have hst := zeros_step s k
        have HST := Lib.hid hst
        have HSZ := Lib.hid hsz; clear hsz hst
        by_cases hlt : k < p
        · have k1 : (k : Int) < (p : Int) := by omega
          have hzk : (zerosB k).size ≤ 9 := by unfold zerosB; rw [mkL_size, List.length_replicate]; omega
          have hno : ¬ 9223372036854775807 < s.size + (zerosB k).size + 1 := by omega
          go_wp2
          go_round
          case rel => exact ⟨k + 1, hlt, by go_num, by rw [← HST.out]; rfl⟩
          case measure => simp [intOf]; omega
        · have hke : k = p := by omega
          subst hke
          cases h9 : decide (s.size + k ≤ 9)
          · have hn : ¬ (s.size + k ≤ 9) := of_decide_eq_false h9
            have hr2 := Lib.hid (show ((⟨#[]⟩ : ByteArray), false) = movI s k by rw [← hr.out, if_neg hn])
            go_wp2_with (go_at_call 53; refine (numS_val (by rw [HSZ.out]; omega) (HM.out.trans h9) _).mono ?_; rintro e w' ⟨rfl, rfl⟩)
            all_goals go_ret2
            all_goals exact ⟨ret_pair hr2.out, rfl⟩
          · have hn : s.size + k ≤ 9 := of_decide_eq_true h9
            have hr2 := Lib.hid (show (s ++ zerosB k, true) = movI s k by rw [← hr.out, if_pos hn])
            go_wp2_with (go_at_call 53; refine (numS_val (by rw [HSZ.out]; omega) (HM.out.trans h9) _).mono ?_; rintro e w' ⟨rfl, rfl⟩)
            all_goals go_ret2
            all_goals exact ⟨ret_pair hr2.out, rfl⟩
end Go.Proofs.YtdngnmpmaacapaaGreatDoor
/-
  Plain law: what is left if a numeral is taken away is what comes out by the way without faults: at last nothing is borrowed. No program is named here.
-/
namespace Go.Proofs.YtdngnmpmaacapaaGreatDoor
open Go.RowKit

theorem wrD_zero (a c b : Int) (q : Bool) : wrD a c b 0 0 0 0 q = if a - c - b < 0 then (a - c - b + 10, 1) else (a - c - b, 0) := by
  unfold wrD
  simp
theorem tk_chain (s t : ByteArray) : ∀ k, tkI s t 0 0 0 0 k = ((chain (takS s t) k).1.map (fun c => c.2.2.2.1), (chain (takS s t) k).2)
  | 0 => rfl
  | k + 1 => by
    have ih := tk_chain s t k
    simp only [tkI, chain, ih, wrD_zero, takS]
    generalize digI s k - digI t k - (chain (takS s t) k).2 = z
    split
    · simp
    · simp
theorem tbI_zero (s t : ByteArray) : tbI s t 0 = plainT (wrote (takC s t).1) := by
  have e1 : bits .and .i64 0 1 = 0 := by rfl
  have e2 : bits .and .i64 0 2 = 0 := by rfl
  have e3 : bits .and .i64 0 4 = 0 := by rfl
  have e4 : bits .and .i64 0 8 = 0 := by rfl
  unfold tbI
  rw [e1, e2, e3, e4, tk_chain]
  rfl
theorem brw_cmp {s t : ByteArray} (hl : s.size = t.size) : ∀ k, k ≤ s.size → ((chain (takS s t) k).2 = 1 ↔ cmpFrom s t (s.size - k) = -1)
  | 0, _ => by
    have e := cmpFrom_end hl
    rw [Nat.sub_zero, e]
    simp [chain]
  | k + 1, hk => by
    have ih := brw_cmp hl k (by omega)
    have hb := tak_bd (s := s) (t := t) k
    have hi : s.size - 1 - k < s.size := by omega
    have hi2 : t.size - 1 - k < t.size := by omega
    have d1 := digI_in (s := s) (k := k) (by omega) hi
    have d2 := digI_in (s := t) (k := k) (by omega) hi2
    have ei : t.size - 1 - k = s.size - 1 - k := by omega
    have e1 : s.size - k = s.size - 1 - k + 1 := by omega
    have e2 : s.size - (k + 1) = s.size - 1 - k := by omega
    have hi3 : s.size - 1 - k < t.size := by omega
    have d3 : ((t[s.size - 1 - k].toNat : Int) - 48) = digI t k := by rw [← d2]; congr 3; simp [ei]
    rw [e1] at ih
    rw [e2]
    have hstep : (chain (takS s t) (k + 1)).2 = if digI s k - digI t k - (chain (takS s t) k).2 < 0 then 1 else 0 := rfl
    rw [hstep]
    generalize (chain (takS s t) k).2 = b at *
    rcases Nat.lt_trichotomy (s[s.size - 1 - k].toNat) (t[s.size - 1 - k].toNat) with h | h | h
    · rw [cmpFrom_lt hi hi3 (UInt8.lt_iff_toNat_lt.2 h), if_pos (by omega)]
      simp
    · rw [cmpFrom_same hi hi3 (UInt8.toNat_inj.1 h), ← ih]
      split <;> omega
    · rw [cmpFrom_gt hi hi3 (UInt8.lt_iff_toNat_lt.2 h), if_neg (by omega)]
      simp
theorem head_nine {s : ByteArray} (h : numOk s = true) (h2 : 2 ≤ s.size) : 1 ≤ digI s (s.size - 1) := by
  have hb := numOk_digits h
  have hz : (s.data.toList.getD 0 0 == 48) = false := by
    simp only [numOk, Bool.and_eq_true, Bool.or_eq_true, Bool.not_eq_true', decide_eq_true_eq] at h
    rcases h.2.2 with h3 | h3
    · exact h3
    · omega
  have hll : s.data.toList.length = s.size := by simp
  unfold digI
  rw [if_pos (by omega), show s.size - 1 - (s.size - 1) = 0 by omega]
  have e : s.data.toList.getD 0 48 = s.data.toList.getD 0 0 := by
    simp only [List.getD_eq_getElem?_getD]
    rw [List.getElem?_eq_getElem (by omega)]; rfl
  have hm : s.data.toList.getD 0 0 ∈ s.data.toList := by
    simp only [List.getD_eq_getElem?_getD]
    rw [List.getElem?_eq_getElem (by omega)]
    exact List.getElem_mem (by omega)
  have h48 := hb _ hm
  rw [e]
  generalize s.data.toList.getD 0 0 = x at *
  have : x ≠ 48 := by simpa using hz
  have h3 : x.toNat ≠ 48 := fun hx => this (UInt8.toNat_inj.1 hx)
  omega
theorem takC_free {s t : ByteArray} (h : 0 ≤ ordI s t) : (takC s t).2 = 0 := by
  obtain ⟨hs, ht⟩ := ord_ok h
  have hl := num_len hs
  have hl2 := num_len ht
  have hb := tak_bd (s := s) (t := t) s.size
  show (chain (takS s t) s.size).2 = 0
  by_cases hl3 : s.size = t.size
  · have e : ordI s t = cmpFrom s t 0 := by simp [ordI, hs, ht, hl3]
    have := brw_cmp hl3 s.size (Nat.le_refl _)
    rw [Nat.sub_self] at this
    rw [e] at h
    by_cases h1 : (chain (takS s t) s.size).2 = 1
    · rw [this.1 h1] at h; omega
    · omega
  · have hlt : t.size < s.size := by
      by_cases h4 : s.size < t.size
      · have e : ordI s t = -1 := by simp [ordI, hs, ht, hl3, h4]
        rw [e] at h; omega
      · omega
    obtain ⟨j, hj⟩ : ∃ j, s.size = j + 1 := ⟨s.size - 1, by omega⟩
    have hd := head_nine hs (by omega)
    have hb2 := tak_bd (s := s) (t := t) j
    have e0 : digI t j = 0 := by unfold digI; rw [if_neg (by omega)]
    rw [show s.size - 1 = j by omega] at hd
    rw [hj]
    simp only [chain, takS, e0]
    rw [if_neg (by omega)]
/-- What is left is what comes out by the way without faults. -/
theorem dif_tb {s t : ByteArray} (h : 0 ≤ ordI s t) : difI s t = (tbI s t 0, true) := by
  obtain ⟨hs, ht⟩ := ord_ok h
  obtain ⟨f1, f2, _, f4, _⟩ := takC_facts hs ht
  have hw := wrote_bd (cs := (takC s t).1) (fun k hk => by
    have h4 := f4 k hk
    simp only [goodT, Bool.and_eq_true] at h4
    exact (single_bd h4.1).2.2.1)
  have hok := plainOk_nine hw (by rw [wrote_len]; exact f1) (by rw [wrote_len]; exact f2)
  unfold difI
  rw [if_pos ⟨h, takC_free h⟩, hok, tbI_zero]
end Go.Proofs.YtdngnmpmaacapaaGreatDoor
