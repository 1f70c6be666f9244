/-
  Contracts: JournalText, of the program and of the reference.
-/
import Derived.Test.YtdngnmpmaacapaaGreatDoorDeedT
import Derived.Test.YtdngnmpmaacapaaGreatDoorBuilder
namespace Go.Proofs.YtdngnmpmaacapaaGreatDoor
open Go.RowKit

theorem numOk_size {s : ByteArray} (h : numOk s = true) : s.size ≤ 9 := by
  simp only [numOk, Bool.and_eq_true] at h
  have := (inB_true.1 h.2.1).2
  omega
theorem deedT_size (d : Dd) : (deedT d).size ≤ 34 := by
  unfold deedT
  split
  · split
    · decide
    · decide
  · split
    · next h =>
      simp only [Bool.and_eq_true] at h
      have a := numOk_size h.1; have b := numOk_size h.2.1; have c := numOk_size h.2.2
      have t0 : (⟨#[116, 97, 107, 101, 32]⟩ : ByteArray).size = 5 := rfl
      have t1 : (⟨#[32]⟩ : ByteArray).size = 1 := rfl
      simp only [takeS, ByteArray.size_append]
      omega
    · decide
/-- The texts of the first k deeds, each with a newline. -/
def jT (ds : List Dd) : Nat → ByteArray
  | 0 => ⟨#[]⟩
  | k + 1 => jT ds k ++ deedT (ds.getD k noDeed) ++ ⟨#[10]⟩
theorem jT_size (ds : List Dd) (k : Nat) : (jT ds k).size ≤ 35 * k := by
  induction k with
  | zero => exact Nat.le_refl 0
  | succ k ih =>
    have := deedT_size (ds.getD k noDeed)
    have t1 : (⟨#[10]⟩ : ByteArray).size = 1 := rfl
    simp only [jT, ByteArray.size_append]; omega
def hasText (d : Dd) : Bool := decide (0 < (deedT d).size)
theorem size_zero {t : ByteArray} (h : ¬ 0 < t.size) : t = ⟨#[]⟩ := by
  obtain ⟨d⟩ := t
  have h0 : d.size = 0 := by have : (ByteArray.mk d).size = d.size := rfl
                             omega
  rw [Array.size_eq_zero_iff] at h0; rw [h0]
def journalI (ds : List Dd) : ByteArray := if ds.all hasText then jT ds ds.length else ⟨#[]⟩
theorem hasText_no {d : Dd} (h : deedT d = ⟨#[]⟩) : hasText d = false := by
  unfold hasText; rw [h]; rfl
theorem hasText_yes {d : Dd} (h : deedT d ≠ ⟨#[]⟩) : hasText d = true := by
  unfold hasText; rw [decide_eq_true_iff]; exact Decidable.byContradiction fun hn => h (size_zero hn)
theorem journal_no {ds : List Dd} {k : Nat} (hk : k < ds.length) (h : deedT (ds.getD k noDeed) = ⟨#[]⟩) : (⟨#[]⟩ : ByteArray) = journalI ds := by
  unfold journalI
  rw [if_neg]
  intro hall
  rw [List.all_eq_true] at hall
  have := hall ds[k] (List.getElem_mem hk)
  have e : ds.getD k noDeed = ds[k] := by simp [List.getD_eq_getElem?_getD, hk]
  rw [e] at h
  rw [hasText_no h] at this; cases this
theorem journal_yes {ds : List Dd} (h : ∀ k, k < ds.length → hasText (ds.getD k noDeed) = true) : jT ds ds.length = journalI ds := by
  unfold journalI
  rw [if_pos]
  rw [List.all_eq_true]
  intro x hx
  obtain ⟨i, hi, rfl⟩ := List.getElem_of_mem hx
  have := h i hi
  simpa [List.getD_eq_getElem?_getD, hi] using this
theorem specText_val {d : Dd} {t : ByteArray} (hd : small d.2) (h : deedT d = t) (w : World) :
    Calls Tryz.prog 80 #[.agg #[.bool d.1, .string d.2.1, .string d.2.2.1, .string d.2.2.2]] w fun e w' => e = .returned (.string t) ∧ Fr w.heap.size none w w' := h ▸ specDeedText_any d w hd
theorem implText_val {d : Dd} {t : ByteArray} (hd : small d.2) (h : deedT d = t) (w : World) :
    Calls Tryz.prog 34 #[.agg #[.bool d.1, .string d.2.1, .string d.2.2.1, .string d.2.2.2]] w fun e w' => e = .returned (.string t) ∧ Fr w.heap.size none w w' := h ▸ implDeedText_any d w hd

set_option maxHeartbeats 1000000 in
theorem specJournal_any (b : Option Addr) (cb : Nat) (ds : List Dd) (w : World) (hk : Sl w b (deeds ds)) (hm : ds.length ≤ 1048576) (hz : SmallD ds) :
    Calls Tryz.prog 67 #[.slice b ds.length cb] w fun e w' => e = .returned (.string (journalI ds)) ∧ Fr w.heap.size none w w' := by
  have HK := Lib.hid hk; have HZ := Lib.hid hz; clear hk hz
  go_enter Tryz.func67, Tryz.ntmps67
  go_wp2
  go_loopw [3, 4] (fun o i wr => ∃ k : Nat, k ≤ ds.length ∧ i = .int .i64 k ∧ o = .string (jT ds k) ∧ Hid (∀ j, j < k → hasText (ds.getD j noDeed) = true) ∧ Fr w.heap.size none w wr) (fun _ i _ => ds.length - (intOf i).toNat)
  case atStart => exact ⟨0, Nat.zero_le _, rfl, rfl, Lib.hid (by intro j hj; omega), Fr.refl _ _ _⟩
  case round =>
    obtain ⟨k, hk, rfl, rfl, hT, hF⟩ := hrel
    have HF := Lib.hid hF; clear hF
    have js := jT_size ds k
    by_cases hlt : k < ds.length
    · obtain ⟨b1, off1, rfl, hc0, ⟨hc1, hc2, hc3⟩, hc1', hc2', hc3'⟩ := (HK.out.fr HF.out).deed k hlt
      have hno := Lib.hid (@journal_no ds k hlt)
      have hst : Hid (jT ds k ++ deedT (ds.getD k noDeed) ++ ⟨#[10]⟩ = jT ds (k + 1)) := Lib.hid rfl
      have hsm := Lib.hid (HZ.out.at k)
      have hts := deedT_size (ds.getD k noDeed)
      have hnx : Hid (deedT (ds.getD k noDeed) ≠ ⟨#[]⟩ → ∀ j, j < k + 1 → hasText (ds.getD j noDeed) = true) := Lib.hid (by
        intro h j hj
        by_cases e : j = k
        · subst e; exact hasText_yes h
        · exact hT.out j (by omega))
      obtain ⟨d, hde⟩ : ∃ d, ds.getD k noDeed = d := ⟨_, rfl⟩
      rw [hde] at hc0 hc1 hc2 hc3 hc1' hc2' hc3' hsm hno hst hts hnx
      clear hde
      obtain ⟨t, ht⟩ : ∃ t, deedT d = t := ⟨_, rfl⟩
      have HTX := Lib.hid ht
      rw [ht] at hno hst hts hnx
      have CD := Lib.hid (fun W => specText_val hsm.out HTX.out W)
      clear ht
      obtain ⟨d0, x1, x2, x3⟩ := d
      generalize jT ds k = J at *
      by_cases he : t = ⟨#[]⟩
      · have hr := Lib.hid (hno.out he)
        subst he
        go_wp2_with fail
        refine (CD.out _).mono ?_; rintro e w2 ⟨rfl, hF2⟩
        have F2 := Lib.hid (HF.out.and hF2); clear hF2
        go_wp2
        go_ret
        exact ⟨ret_str hr.out, F2.out⟩
      · have hn := Lib.hid (hnx.out he)
        have HE := Lib.hid he
        have he3 : t.toList.isEmpty = false := by rw [List.isEmpty_eq_false_iff]; exact fun h => he ((toList_nil_iff_emptyBytes t).1 h)
        have a1 := fun W => run_string_add_sum (P := Tryz.prog) W J t (by omega)
        have t1 : (⟨#[10]⟩ : ByteArray).size = 1 := rfl
        have a2 := fun W => run_string_add_sum (P := Tryz.prog) W (J ++ t) ⟨#[10]⟩ (by rw [ByteArray.size_append]; omega)
        clear t1 he
        go_wp2_with fail
        refine (CD.out _).mono ?_; rintro e w2 ⟨rfl, hF2⟩
        have F2 := Lib.hid (HF.out.and hF2)
        have hc0 := (Fr.cell hF2 (World.block_lt_of_cell? wr _ hc0) (by simp)).trans hc0
        have hc1' := (Fr.cell hF2 (World.block_lt_of_cell? wr _ hc1') (by simp)).trans hc1'
        have hc2' := (Fr.cell hF2 (World.block_lt_of_cell? wr _ hc2') (by simp)).trans hc2'
        have hc3' := (Fr.cell hF2 (World.block_lt_of_cell? wr _ hc3') (by simp)).trans hc3'
        clear hF2 hc1 hc2 hc3
        go_wp2_with fail
        refine (CD.out _).mono ?_; rintro e w3 ⟨rfl, hF3⟩
        have F3 := Lib.hid (F2.out.and hF3); clear hF3
        go_wp2
        go_roundw
        case rel => exact ⟨k + 1, by omega, by go_num, by rw [← hst.out], hn, F3.out⟩
        case measure => simp [intOf]; omega
    · have hkk : k = ds.length := by omega
      have hr := Lib.hid (journal_yes (ds := ds) (by intro j hj; exact hT.out j (by omega)))
      subst hkk
      go_wp2
      go_ret
      exact ⟨ret_str hr.out, HF.out⟩

theorem builder_fr {T e : TypeId} {B b : Nat} {bs : List Value} {w w' : World} (h : Lib.IsBuilder T e B b bs w) (hF : Fr w.heap.size none w w') : Lib.IsBuilder T e B b bs w' := by
  rcases h with h | h
  · have hl := h.lt
    obtain ⟨hB, v, hbk, hown, hne⟩ := h
    exact .inl ⟨hB, v, (hF.block b hl (by simp)).trans hbk, own_keep hown hF, hne⟩
  · have hl := h.lt
    obtain ⟨hB, v, hbk, hown, hne⟩ := h
    exact .inr ⟨hB, v, (hF.block b hl (by simp)).trans hbk, own_keep hown hF, hne⟩
theorem builder_as {T e : TypeId} {B b : Nat} {bs cs : List Value} {w : World} (h : Lib.IsBuilder T e B b bs w) (he : bs = cs) : Lib.IsBuilder T e B b cs w := he ▸ h
theorem cells_snoc (J t : ByteArray) : Lib.byteCells J.data.toList ++ Lib.strCells t = Lib.byteCells (J ++ t).data.toList := by
  simp [Lib.byteCells, Lib.strCells]

set_option maxHeartbeats 2000000 in
theorem implJournal_any (b : Option Addr) (cb : Nat) (ds : List Dd) (w : World) (hk : Sl w b (deeds ds)) (hm : ds.length ≤ 1048576) (hz : SmallD ds) :
    Calls Tryz.prog 36 #[.slice b ds.length cb] w fun e w' => e = .returned (.string (journalI ds)) ∧ Fr w.heap.size none w w' := by
  have HK := Lib.hid hk; have HZ := Lib.hid hz; clear hk hz
  have B0 := Lib.hid (Lib.fresh_isBuilder 96 5 w)
  go_enter Tryz.func36, Tryz.ntmps36
  go_wp2
  go_loopw [9] (fun i wr => ∃ k : Nat, k ≤ ds.length ∧ i = .int .i64 k ∧ Hid (Lib.IsBuilder 96 5 w.heap.size w.heap.size (Lib.byteCells (jT ds k).data.toList) wr) ∧ Hid (∀ j, j < k → hasText (ds.getD j noDeed) = true) ∧ Fr w.heap.size none w wr) (fun i _ => ds.length - (intOf i).toNat)
  case atStart => exact ⟨0, Nat.zero_le _, rfl, B0, Lib.hid (by intro j hj; omega), (Fr.refl w.heap.size none w).alloc (Nat.le_refl _) _⟩
  case round =>
    obtain ⟨k, hk, rfl, hB, hT, hF⟩ := hrel
    have HF := Lib.hid hF; clear hF
    have js := jT_size ds k
    by_cases hlt : k < ds.length
    · obtain ⟨b1, off1, rfl, hc0, ⟨hc1, hc2, hc3⟩, hc1', hc2', hc3'⟩ := (HK.out.fr HF.out).deed k hlt
      have hno := Lib.hid (@journal_no ds k hlt)
      have hst : Hid (jT ds k ++ deedT (ds.getD k noDeed) ++ ⟨#[10]⟩ = jT ds (k + 1)) := Lib.hid rfl
      have hsm := Lib.hid (HZ.out.at k)
      have hts := deedT_size (ds.getD k noDeed)
      have hnx : Hid (deedT (ds.getD k noDeed) ≠ ⟨#[]⟩ → ∀ j, j < k + 1 → hasText (ds.getD j noDeed) = true) := Lib.hid (by
        intro h j hj
        by_cases e : j = k
        · subst e; exact hasText_yes h
        · exact hT.out j (by omega))
      obtain ⟨d, hde⟩ : ∃ d, ds.getD k noDeed = d := ⟨_, rfl⟩
      rw [hde] at hc0 hc1 hc2 hc3 hc1' hc2' hc3' hsm hno hst hts hnx
      clear hde
      obtain ⟨t, ht⟩ : ∃ t, deedT d = t := ⟨_, rfl⟩
      have HTX := Lib.hid ht
      rw [ht] at hno hst hts hnx
      have CD := Lib.hid (fun W => implText_val hsm.out HTX.out W)
      clear ht
      obtain ⟨d0, x1, x2, x3⟩ := d
      generalize jT ds k = J at *
      by_cases he : t = ⟨#[]⟩
      · have hr := Lib.hid (hno.out he)
        subst he
        go_wp2_with fail
        refine (CD.out _).mono ?_; rintro e w2 ⟨rfl, hF2⟩
        have F2 := Lib.hid ((HF.out.alloc HF.out.size _).and hF2); clear hF2
        go_wp2
        go_ret
        exact ⟨ret_str hr.out, F2.out⟩
      · have hn := Lib.hid (hnx.out he)
        have he3 : t.toList.isEmpty = false := by rw [List.isEmpty_eq_false_iff]; exact fun h => he ((toList_nil_iff_emptyBytes t).1 h)
        have t1 : (⟨#[10]⟩ : ByteArray).size = 1 := rfl
        have a2 := fun W => run_string_add_sum (P := Tryz.prog) W t ⟨#[10]⟩ (by omega)
        have hl : Hid ((Lib.byteCells J.data.toList).length + (t ++ ⟨#[10]⟩).size ≤ 140737488355328) := Lib.hid (by
          rw [Lib.byteCells_length, ByteArray.size_append]
          have : J.data.toList.length = J.size := by simp
          omega)
        have hcat := Lib.hid ((cells_snoc J (t ++ ⟨#[10]⟩)).trans (show Lib.byteCells (J ++ (t ++ ⟨#[10]⟩)).data.toList = Lib.byteCells (jT ds (k + 1)).data.toList by rw [← hst.out, ByteArray.append_assoc]))
        obtain ⟨u, hu⟩ : ∃ u, u = t ++ (⟨#[10]⟩ : ByteArray) := ⟨_, rfl⟩
        rw [← hu] at a2 hl hcat
        clear t1 he hu
        go_wp2_with fail
        refine (CD.out _).mono ?_; rintro e w2 ⟨rfl, hF2⟩
        have F2 := Lib.hid ((HF.out.alloc HF.out.size _).and hF2)
        have B2 := Lib.hid (builder_fr hB.out (((Fr.refl wr.heap.size none wr).alloc (Nat.le_refl _) _).and hF2))
        clear hF2 hc1 hc2 hc3 hc0 hc1' hc2' hc3'
        go_wp2_with fail
        refine (writeString_any w.heap.size w.heap.size (Lib.byteCells J.data.toList) u w2 B2.out hl.out F2.out.size).mono ?_; rintro e w3 ⟨rfl, hB3, hF3⟩
        have F3 := Lib.hid (F2.out.trans hF3)
        have B3 := Lib.hid (builder_as hB3 hcat.out)
        clear hF3 hB3
        go_wp2
        go_roundw
        case rel => exact ⟨k + 1, by omega, by go_num, B3, hn, F3.out⟩
        case measure => simp [intOf]; omega
    · have hkk : k = ds.length := by omega
      have hr := Lib.hid (journal_yes (ds := ds) (by intro j hj; exact hT.out j (by omega)))
      subst hkk
      go_wp2_with fail
      refine (builderString_any w.heap.size w.heap.size (jT ds ds.length).data.toList wr hB.out HF.out.size).mono ?_; rintro e w2 ⟨rfl, hF2⟩
      have F2 := Lib.hid (HF.out.trans hF2); clear hF2
      go_wp2
      go_ret
      exact ⟨ret_str hr.out, F2.out⟩
end Go.Proofs.YtdngnmpmaacapaaGreatDoor
