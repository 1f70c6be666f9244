/-
  Merged: Journal DrawDeed.
-/
import Derived.Test.YtdngnmpmaacapaaGreatDoorMOrdP
import Derived.Test.YtdngnmpmaacapaaGreatDoorMBuilder
import Derived.Test.YtdngnmpmaacapaaGreatDoorMCore
import Derived.Shelf.Strings.Builder1
set_option linter.unusedVariables false
set_option linter.unusedSimpArgs false
/-
  Contracts: JournalText, of the program and of the reference.
-/
namespace Go.Proofs.YtdngnmpmaacapaaGreatDoor
open Go.RowKit

theorem numOk_size {s : ByteArray} (h : numOk s = true) : s.size ≤ 9 := by
  simp only [numOk, Bool.and_eq_true] at h
  have := (inB_true.1 h.2.1).2
  omega
theorem deedT_size (d : Dd) : (deedT d).size ≤ 34 := by
  unfold deedT
  split
  · split
    · decide
    · decide
  · split
    · next h =>
      simp only [Bool.and_eq_true] at h
      have a := numOk_size h.1; have b := numOk_size h.2.1; have c := numOk_size h.2.2
      have t0 : (⟨#[116, 97, 107, 101, 32]⟩ : ByteArray).size = 5 := rfl
      have t1 : (⟨#[32]⟩ : ByteArray).size = 1 := rfl
      simp only [takeS, ByteArray.size_append]
      omega
    · decide
/-- The texts of the first k deeds, each with a newline. -/
def jT (ds : List Dd) : Nat → ByteArray
  | 0 => ⟨#[]⟩
  | k + 1 => jT ds k ++ deedT (ds.getD k noDeed) ++ ⟨#[10]⟩
theorem jT_size (ds : List Dd) (k : Nat) : (jT ds k).size ≤ 35 * k := by
  induction k with
  | zero => exact Nat.le_refl 0
  | succ k ih =>
    have := deedT_size (ds.getD k noDeed)
    have t1 : (⟨#[10]⟩ : ByteArray).size = 1 := rfl
    simp only [jT, ByteArray.size_append]; omega
def hasText (d : Dd) : Bool := decide (0 < (deedT d).size)
theorem size_zero {t : ByteArray} (h : ¬ 0 < t.size) : t = ⟨#[]⟩ := by
  obtain ⟨d⟩ := t
  have h0 : d.size = 0 := by have : (ByteArray.mk d).size = d.size := rfl
                             omega
  rw [Array.size_eq_zero_iff] at h0; rw [h0]
def journalI (ds : List Dd) : ByteArray := if ds.all hasText then jT ds ds.length else ⟨#[]⟩
theorem hasText_no {d : Dd} (h : deedT d = ⟨#[]⟩) : hasText d = false := by
  unfold hasText; rw [h]; rfl
theorem hasText_yes {d : Dd} (h : deedT d ≠ ⟨#[]⟩) : hasText d = true := by
  unfold hasText; rw [decide_eq_true_iff]; exact Decidable.byContradiction fun hn => h (size_zero hn)
theorem journal_no {ds : List Dd} {k : Nat} (hk : k < ds.length) (h : deedT (ds.getD k noDeed) = ⟨#[]⟩) : (⟨#[]⟩ : ByteArray) = journalI ds := by
  unfold journalI
  rw [if_neg]
  intro hall
  rw [List.all_eq_true] at hall
  have := hall ds[k] (List.getElem_mem hk)
  have e : ds.getD k noDeed = ds[k] := by simp [List.getD_eq_getElem?_getD, hk]
  rw [e] at h
  rw [hasText_no h] at this; cases this
theorem journal_yes {ds : List Dd} (h : ∀ k, k < ds.length → hasText (ds.getD k noDeed) = true) : jT ds ds.length = journalI ds := by
  unfold journalI
  rw [if_pos]
  rw [List.all_eq_true]
  intro x hx
  obtain ⟨i, hi, rfl⟩ := List.getElem_of_mem hx
  have := h i hi
  simpa [List.getD_eq_getElem?_getD, hi] using this
theorem specText_val {d : Dd} {t : ByteArray} (hd : small d.2) (h : deedT d = t) (w : World) :
    Calls Tryz.prog 80 #[.agg #[.bool d.1, .string d.2.1, .string d.2.2.1, .string d.2.2.2]] w fun e w' => e = .returned (.string t) ∧ Fr w.heap.size none w w' := h ▸ specDeedText_any d w hd
theorem implText_val {d : Dd} {t : ByteArray} (hd : small d.2) (h : deedT d = t) (w : World) :
    Calls Tryz.prog 34 #[.agg #[.bool d.1, .string d.2.1, .string d.2.2.1, .string d.2.2.2]] w fun e w' => e = .returned (.string t) ∧ Fr w.heap.size none w w' := h ▸ implDeedText_any d w hd

set_option maxHeartbeats 1000000 in
theorem specJournal_any (b : Option Addr) (cb : Nat) (ds : List Dd) (w : World) (hk : Sl w b (deeds ds)) (hm : ds.length ≤ 1048576) (hz : SmallD ds) :
    Calls Tryz.prog 67 #[.slice b ds.length cb] w fun e w' => e = .returned (.string (journalI ds)) ∧ Fr w.heap.size none w w' := by
  have HK := Lib.hid hk; have HZ := Lib.hid hz; clear hk hz
  go_enter Tryz.func67, Tryz.ntmps67
  go_wp2
  go_loopw [3, 4] (fun o i wr => ∃ k : Nat, k ≤ ds.length ∧ i = .int .i64 k ∧ o = .string (jT ds k) ∧ Hid (∀ j, j < k → hasText (ds.getD j noDeed) = true) ∧ Fr w.heap.size none w wr) (fun _ i _ => ds.length - (intOf i).toNat)
  case atStart => exact ⟨0, Nat.zero_le _, rfl, rfl, Lib.hid (by intro j hj; omega), Fr.refl _ _ _⟩
  case round =>
    obtain ⟨k, hk, rfl, rfl, hT, hF⟩ := hrel
    have HF := Lib.hid hF; clear hF
    have js := jT_size ds k
    by_cases hlt : k < ds.length
    · obtain ⟨b1, off1, rfl, hc0, ⟨hc1, hc2, hc3⟩, hc1', hc2', hc3'⟩ := (HK.out.fr HF.out).deed k hlt
      have hno := Lib.hid (@journal_no ds k hlt)
      have hst : Hid (jT ds k ++ deedT (ds.getD k noDeed) ++ ⟨#[10]⟩ = jT ds (k + 1)) := Lib.hid rfl
      have hsm := Lib.hid (HZ.out.at k)
      have hts := deedT_size (ds.getD k noDeed)
      have hnx : Hid (deedT (ds.getD k noDeed) ≠ ⟨#[]⟩ → ∀ j, j < k + 1 → hasText (ds.getD j noDeed) = true) := Lib.hid (by
        intro h j hj
        by_cases e : j = k
        · subst e; exact hasText_yes h
        · exact hT.out j (by omega))
      obtain ⟨d, hde⟩ : ∃ d, ds.getD k noDeed = d := ⟨_, rfl⟩
      rw [hde] at hc0 hc1 hc2 hc3 hc1' hc2' hc3' hsm hno hst hts hnx
      clear hde
      obtain ⟨t, ht⟩ : ∃ t, deedT d = t := ⟨_, rfl⟩
      have HTX := Lib.hid ht
      rw [ht] at hno hst hts hnx
      have CD := Lib.hid (fun W => specText_val hsm.out HTX.out W)
      clear ht
      obtain ⟨d0, x1, x2, x3⟩ := d
      generalize jT ds k = J at *
      by_cases he : t = ⟨#[]⟩
      · have hr := Lib.hid (hno.out he)
        subst he
        go_wp2_with fail
        refine (CD.out _).mono ?_; rintro e w2 ⟨rfl, hF2⟩
        have F2 := Lib.hid (HF.out.and hF2); clear hF2
        go_wp2
        go_ret
        exact ⟨ret_str hr.out, F2.out⟩
      · have hn := Lib.hid (hnx.out he)
        have HE := Lib.hid he
        have he3 : t.toList.isEmpty = false := by rw [List.isEmpty_eq_false_iff]; exact fun h => he ((toList_nil_iff_emptyBytes t).1 h)
        have a1 := fun W => run_string_add_sum (P := Tryz.prog) W J t (by omega)
        have t1 : (⟨#[10]⟩ : ByteArray).size = 1 := rfl
        have a2 := fun W => run_string_add_sum (P := Tryz.prog) W (J ++ t) ⟨#[10]⟩ (by rw [ByteArray.size_append]; omega)
        clear t1 he
        go_wp2_with fail
        refine (CD.out _).mono ?_; rintro e w2 ⟨rfl, hF2⟩
        have F2 := Lib.hid (HF.out.and hF2)
        have hc0 := (Fr.cell hF2 (World.block_lt_of_cell? wr _ hc0) (by simp)).trans hc0
        have hc1' := (Fr.cell hF2 (World.block_lt_of_cell? wr _ hc1') (by simp)).trans hc1'
        have hc2' := (Fr.cell hF2 (World.block_lt_of_cell? wr _ hc2') (by simp)).trans hc2'
        have hc3' := (Fr.cell hF2 (World.block_lt_of_cell? wr _ hc3') (by simp)).trans hc3'
        clear hF2 hc1 hc2 hc3
        go_wp2_with fail
        refine (CD.out _).mono ?_; rintro e w3 ⟨rfl, hF3⟩
        have F3 := Lib.hid (F2.out.and hF3); clear hF3
        go_wp2
        go_roundw
        case rel => exact ⟨k + 1, by omega, by go_num, by rw [← hst.out], hn, F3.out⟩
        case measure => simp [intOf]; omega
    · have hkk : k = ds.length := by omega
      have hr := Lib.hid (journal_yes (ds := ds) (by intro j hj; exact hT.out j (by omega)))
      subst hkk
      go_wp2
      go_ret
      exact ⟨ret_str hr.out, HF.out⟩

theorem builder_fr {T e : TypeId} {B b : Nat} {bs : List Value} {w w' : World} (h : Lib.IsBuilder T e B b bs w) (hF : Fr w.heap.size none w w') : Lib.IsBuilder T e B b bs w' := by
  rcases h with h | h
  · have hl := h.lt
    obtain ⟨hB, v, hbk, hown, hne⟩ := h
    exact .inl ⟨hB, v, (hF.block b hl (by simp)).trans hbk, own_keep hown hF, hne⟩
  · have hl := h.lt
    obtain ⟨hB, v, hbk, hown, hne⟩ := h
    exact .inr ⟨hB, v, (hF.block b hl (by simp)).trans hbk, own_keep hown hF, hne⟩
theorem builder_as {T e : TypeId} {B b : Nat} {bs cs : List Value} {w : World} (h : Lib.IsBuilder T e B b bs w) (he : bs = cs) : Lib.IsBuilder T e B b cs w := he ▸ h
theorem cells_snoc (J t : ByteArray) : Lib.byteCells J.data.toList ++ Lib.strCells t = Lib.byteCells (J ++ t).data.toList := by
  simp [Lib.byteCells, Lib.strCells]

set_option maxHeartbeats 2000000 in
theorem implJournal_any (b : Option Addr) (cb : Nat) (ds : List Dd) (w : World) (hk : Sl w b (deeds ds)) (hm : ds.length ≤ 1048576) (hz : SmallD ds) :
    Calls Tryz.prog 36 #[.slice b ds.length cb] w fun e w' => e = .returned (.string (journalI ds)) ∧ Fr w.heap.size none w w' := by
  have HK := Lib.hid hk; have HZ := Lib.hid hz; clear hk hz
  have B0 := Lib.hid (Lib.fresh_isBuilder 96 5 w)
  go_enter Tryz.func36, Tryz.ntmps36
  go_wp2
  go_loopw [9] (fun i wr => ∃ k : Nat, k ≤ ds.length ∧ i = .int .i64 k ∧ Hid (Lib.IsBuilder 96 5 w.heap.size w.heap.size (Lib.byteCells (jT ds k).data.toList) wr) ∧ Hid (∀ j, j < k → hasText (ds.getD j noDeed) = true) ∧ Fr w.heap.size none w wr) (fun i _ => ds.length - (intOf i).toNat)
  case atStart => exact ⟨0, Nat.zero_le _, rfl, B0, Lib.hid (by intro j hj; omega), (Fr.refl w.heap.size none w).alloc (Nat.le_refl _) _⟩
  case round =>
    obtain ⟨k, hk, rfl, hB, hT, hF⟩ := hrel
    have HF := Lib.hid hF; clear hF
    have js := jT_size ds k
    by_cases hlt : k < ds.length
    · obtain ⟨b1, off1, rfl, hc0, ⟨hc1, hc2, hc3⟩, hc1', hc2', hc3'⟩ := (HK.out.fr HF.out).deed k hlt
      have hno := Lib.hid (@journal_no ds k hlt)
      have hst : Hid (jT ds k ++ deedT (ds.getD k noDeed) ++ ⟨#[10]⟩ = jT ds (k + 1)) := Lib.hid rfl
      have hsm := Lib.hid (HZ.out.at k)
      have hts := deedT_size (ds.getD k noDeed)
      have hnx : Hid (deedT (ds.getD k noDeed) ≠ ⟨#[]⟩ → ∀ j, j < k + 1 → hasText (ds.getD j noDeed) = true) := Lib.hid (by
        intro h j hj
        by_cases e : j = k
        · subst e; exact hasText_yes h
        · exact hT.out j (by omega))
      obtain ⟨d, hde⟩ : ∃ d, ds.getD k noDeed = d := ⟨_, rfl⟩
      rw [hde] at hc0 hc1 hc2 hc3 hc1' hc2' hc3' hsm hno hst hts hnx
      clear hde
      obtain ⟨t, ht⟩ : ∃ t, deedT d = t := ⟨_, rfl⟩
      have HTX := Lib.hid ht
      rw [ht] at hno hst hts hnx
      have CD := Lib.hid (fun W => implText_val hsm.out HTX.out W)
      clear ht
      obtain ⟨d0, x1, x2, x3⟩ := d
      generalize jT ds k = J at *
      by_cases he : t = ⟨#[]⟩
      · have hr := Lib.hid (hno.out he)
        subst he
        go_wp2_with fail
        refine (CD.out _).mono ?_; rintro e w2 ⟨rfl, hF2⟩
        have F2 := Lib.hid ((HF.out.alloc HF.out.size _).and hF2); clear hF2
        go_wp2
        go_ret
        exact ⟨ret_str hr.out, F2.out⟩
      · have hn := Lib.hid (hnx.out he)
        have he3 : t.toList.isEmpty = false := by rw [List.isEmpty_eq_false_iff]; exact fun h => he ((toList_nil_iff_emptyBytes t).1 h)
        have t1 : (⟨#[10]⟩ : ByteArray).size = 1 := rfl
        have a2 := fun W => run_string_add_sum (P := Tryz.prog) W t ⟨#[10]⟩ (by omega)
        have hl : Hid ((Lib.byteCells J.data.toList).length + (t ++ ⟨#[10]⟩).size ≤ 140737488355328) := Lib.hid (by
          rw [Lib.byteCells_length, ByteArray.size_append]
          have : J.data.toList.length = J.size := by simp
          omega)
        have hcat := Lib.hid ((cells_snoc J (t ++ ⟨#[10]⟩)).trans (show Lib.byteCells (J ++ (t ++ ⟨#[10]⟩)).data.toList = Lib.byteCells (jT ds (k + 1)).data.toList by rw [← hst.out, ByteArray.append_assoc]))
        obtain ⟨u, hu⟩ : ∃ u, u = t ++ (⟨#[10]⟩ : ByteArray) := ⟨_, rfl⟩
        rw [← hu] at a2 hl hcat
        clear t1 he hu
        go_wp2_with fail
        refine (CD.out _).mono ?_; rintro e w2 ⟨rfl, hF2⟩
        have F2 := Lib.hid ((HF.out.alloc HF.out.size _).and hF2)
        have B2 := Lib.hid (builder_fr hB.out (((Fr.refl wr.heap.size none wr).alloc (Nat.le_refl _) _).and hF2))
        clear hF2 hc1 hc2 hc3 hc0 hc1' hc2' hc3'
        go_wp2_with fail
        refine (writeString_any w.heap.size w.heap.size (Lib.byteCells J.data.toList) u w2 B2.out hl.out F2.out.size).mono ?_; rintro e w3 ⟨rfl, hB3, hF3⟩
        have F3 := Lib.hid (F2.out.trans hF3)
        have B3 := Lib.hid (builder_as hB3 hcat.out)
        clear hF3 hB3
        go_wp2
        go_roundw
        case rel => exact ⟨k + 1, by omega, by go_num, B3, hn, F3.out⟩
        case measure => simp [intOf]; omega
    · have hkk : k = ds.length := by omega
      have hr := Lib.hid (journal_yes (ds := ds) (by intro j hj; exact hT.out j (by omega)))
      subst hkk
      go_wp2_with fail
      refine (builderString_any w.heap.size w.heap.size (jT ds ds.length).data.toList wr hB.out HF.out.size).mono ?_; rintro e w2 ⟨rfl, hF2⟩
      have F2 := Lib.hid (HF.out.trans hF2); clear hF2
      go_wp2
      go_ret
      exact ⟨ret_str hr.out, F2.out⟩
end Go.Proofs.YtdngnmpmaacapaaGreatDoor
/-
  Contracts: the draws of deeds.
-/
namespace Go.Proofs.YtdngnmpmaacapaaGreatDoor
open Go.RowKit

theorem rdr_alloc {w : World} {B N : Nat} (h : Rdr w B N) (o : Obj) : Rdr (w.alloc o) B N := h.fr ((Fr.refl w.heap.size none w).alloc (Nat.le_refl _) _) h.lt (by simp)
theorem block_on {w w' : World} {B R : Nat} {o : Obj} (h : w.heap[R]? = some o) (hF : Fr w.heap.size (some B) w w') (hne : R ≠ B) : w'.heap[R]? = some o :=
  (hF.block R (Array.getElem?_eq_some_iff.1 h).1 (by simp; exact hne)).trans h
theorem block_onN {w w' : World} {R : Nat} {o : Obj} (h : w.heap[R]? = some o) (hF : Fr w.heap.size none w w') : w'.heap[R]? = some o :=
  (hF.block R (Array.getElem?_eq_some_iff.1 h).1 (by simp)).trans h
def zD : Array Value := #[.bool false, .string ⟨#[]⟩, .string ⟨#[]⟩, .string ⟨#[]⟩]
/-- The four cells of a new deed. -/
theorem four_cells {w : World} {R : Nat} {T : TypeId} {a b c d : Value} (h : w.heap[R]? = some (.cells #[a, b, c, d] T (0, 0))) :
    (w.cell? ⟨R, 0, none⟩ = some a ∧ w.cell? ⟨R, 1, none⟩ = some b ∧ w.cell? ⟨R, 2, none⟩ = some c ∧ w.cell? ⟨R, 3, none⟩ = some d) ∧ (w.frozen? ⟨R, 0, none⟩ = false ∧ w.frozen? ⟨R, 1, none⟩ = false ∧ w.frozen? ⟨R, 2, none⟩ = false ∧ w.frozen? ⟨R, 3, none⟩ = false) := by
  refine ⟨⟨?_, ?_, ?_, ?_⟩, Lib.frozen_of_heap h 0, Lib.frozen_of_heap h 1, Lib.frozen_of_heap h 2, Lib.frozen_of_heap h 3⟩ <;> (rw [block_cells h]; rfl)

set_option maxHeartbeats 4000000 in
set_option maxRecDepth 100000 in
theorem l20Deed_any (B N : Nat) (w : World) (h : Rdr w B N) (hN : N ≤ 800000) : Calls Tryz.prog 81 #[.pointer (some ⟨B, 0, none⟩)] w (RdDeed B (N + 400) w) := by
  have hBl := h.lt
  have R0 := Lib.hid (rdr_alloc h (.cells #[.bool false, .string ⟨#[]⟩, .string ⟨#[]⟩, .string ⟨#[]⟩] 54))
  have C0 := Lib.hid (heap_alloc_new w (.cells #[.bool false, .string ⟨#[]⟩, .string ⟨#[]⟩, .string ⟨#[]⟩] 54))
  have G0 := Lib.hid ((Fr.refl w.heap.size (some B) w).alloc (Nat.le_refl _) (.cells #[.bool false, .string ⟨#[]⟩, .string ⟨#[]⟩, .string ⟨#[]⟩] 54))
  have hne : w.heap.size ≠ B := by omega
  have hle : ∀ i : Nat, w.heap.size ≤ w.heap.size := fun _ => Nat.le_refl _
  clear h
  go_enter Tryz.func81, Tryz.ntmps81
  go_wp2_with fail
  refine (pick_any B N _ _ R0.out (by omega)).mono ?_; rintro e w1 ⟨q, rfl, _, hR1, hF1⟩
  have R1 := Lib.hid hR1; have G1 := Lib.hid (fr_rd G0.out hF1); have C1 := Lib.hid (block_on C0.out hF1 hne); clear hR1 hF1
  by_cases hq : q = 0
  · have hz : (q == 0) = true := by rw [beq_iff_eq]; exact hq
    clear hq
    have RA := Lib.hid (rdr_alloc R1.out (.cells #[.string ⟨#[]⟩, .string ⟨#[49]⟩] 9))
    have GA := Lib.hid (G1.out.alloc G1.out.size (.cells #[.string ⟨#[]⟩, .string ⟨#[49]⟩] 9))
    have CA := Lib.hid (block_onN C1.out ((Fr.refl w1.heap.size none w1).alloc (Nat.le_refl _) (.cells #[.string ⟨#[]⟩, .string ⟨#[49]⟩] 9)))
    have hB1 := R1.out.lt
    go_wp2_with fail
    refine (pick_any B _ _ _ RA.out (by omega)).mono ?_; rintro e w2 ⟨q2, rfl, ⟨a2, b2, _⟩, hR2, hF2⟩
    have c2 := b2 (by omega)
    have R2 := Lib.hid hR2; have G2 := Lib.hid (fr_rd GA.out hF2)
    obtain ⟨⟨d0, d1, d2, d3⟩, f0, f1, f2, f3⟩ := four_cells (block_on CA.out hF2 hne)
    obtain ⟨z, hzz⟩ : ∃ z : Nat, q2 / 19 = (z : Int) := ⟨(q2 / 19).toNat, by omega⟩
    have hz2 : z < 2 := by omega
    have cells2 : ∀ j : Nat, j < 2 → w2.cell? ⟨w1.heap.size, j, none⟩ = #[Value.string ⟨#[]⟩, .string ⟨#[49]⟩][j]? := by
      intro j hj
      refine block_cells (T := 9) ?_ j
      rw [hF2.block w1.heap.size (by simp) (by simp; omega)]
      exact heap_alloc_new w1 _
    obtain ⟨s, hcs, hs⟩ := two_strs (m := 10) cells2 hz2 (by decide) (by decide)
    have hz0 : (0 : Int) ≤ (z : Int) := by omega
    have hz1 : (z : Int) < 2 := by omega
    clear hR2 hF2 b2 cells2 c2
    go_wp2
    refine bodyPost_ret (v := .agg #[.bool true, .string s, .string ⟨#[]⟩, .string ⟨#[]⟩]) (by simp [results, Tryz.results81, go_sem, *]) rfl ?_
    refine ⟨(true, s, ⟨#[]⟩, ⟨#[]⟩), rfl, ⟨hs, Nat.zero_le _, Nat.zero_le _⟩, ?_, ?_⟩
    · exact ((((Rdr.mono R2.out (by omega)).fr (((((Fr.refl w2.heap.size (some w.heap.size) w2).setCell (p := ⟨w.heap.size, 0, none⟩) (.inr rfl) _).setCell (p := ⟨w.heap.size, 1, none⟩) (.inr rfl) _).setCell (p := ⟨w.heap.size, 2, none⟩) (.inr rfl) _).setCell (p := ⟨w.heap.size, 3, none⟩) (.inr rfl) _) R2.out.lt (by intro g hg; cases hg; exact hBl))))
    · exact (((G2.out.setCell (p := ⟨w.heap.size, 0, none⟩) (.inl (Nat.le_refl _)) _).setCell (p := ⟨w.heap.size, 1, none⟩) (.inl (Nat.le_refl _)) _).setCell (p := ⟨w.heap.size, 2, none⟩) (.inl (Nat.le_refl _)) _).setCell (p := ⟨w.heap.size, 3, none⟩) (.inl (Nat.le_refl _)) _
  · have hz : (q == 0) = false := by rw [beq_eq_false_iff_ne]; exact hq
    clear hq
    go_wp2_with fail
    refine (l20Greater_any B _ 4 _ R1.out (by omega) (by omega)).mono ?_; rintro e w2 ⟨s, t, rfl, hs, ht, hR2, hF2⟩
    have R2 := Lib.hid hR2; have G2 := Lib.hid (fr_rd G1.out hF2); have C2 := Lib.hid (block_on C1.out hF2 hne); clear hR2 hF2
    go_wp2_with fail
    refine (pick_any B _ _ _ R2.out (by omega)).mono ?_; rintro e w3 ⟨way, rfl, _, hR3, hF3⟩
    have R3 := Lib.hid hR3; have G3 := Lib.hid (fr_rd G2.out hF3); have C3 := Lib.hid (block_on C2.out hF3 hne); clear hR3 hF3
    go_wp2_with fail
    refine (takenBy_any s t way _ (by omega) (by omega)).mono ?_; rintro e w4 ⟨⟨x, bx, rfl, hx⟩, hF4⟩
    have R4 := Lib.hid (rdr_keep R3.out hF4); have G4 := Lib.hid (fr_any G3.out hF4); have C4 := Lib.hid (block_onN C3.out hF4); clear hF4
    go_wp2_with fail
    refine (odd_any B _ _ _ R4.out (by omega) (by omega)).mono ?_; rintro e w5 ⟨bo, rfl, _, hR5, hF5⟩
    have R5 := Lib.hid hR5; have G5 := Lib.hid (fr_rd G4.out hF5); have C5 := Lib.hid (block_on C4.out hF5 hne); clear hR5 hF5
    cases bo
    · obtain ⟨⟨d0, d1, d2, d3⟩, f0, f1, f2, f3⟩ := four_cells C5.out
      go_wp2
      refine bodyPost_ret (v := .agg #[.bool false, .string s, .string t, .string x]) (by simp [results, Tryz.results81, go_sem, *]) rfl ?_
      refine ⟨(false, s, t, x), rfl, ⟨hs, ht, by show x.size ≤ 10; omega⟩, ?_, ?_⟩
      · exact ((((Rdr.mono R5.out (by omega)).fr (((((Fr.refl w5.heap.size (some w.heap.size) w5).setCell (p := ⟨w.heap.size, 0, none⟩) (.inr rfl) _).setCell (p := ⟨w.heap.size, 1, none⟩) (.inr rfl) _).setCell (p := ⟨w.heap.size, 2, none⟩) (.inr rfl) _).setCell (p := ⟨w.heap.size, 3, none⟩) (.inr rfl) _) R5.out.lt (by intro g hg; cases hg; exact hBl))))
      · exact (((G5.out.setCell (p := ⟨w.heap.size, 0, none⟩) (.inl (Nat.le_refl _)) _).setCell (p := ⟨w.heap.size, 1, none⟩) (.inl (Nat.le_refl _)) _).setCell (p := ⟨w.heap.size, 2, none⟩) (.inl (Nat.le_refl _)) _).setCell (p := ⟨w.heap.size, 3, none⟩) (.inl (Nat.le_refl _)) _
    · have RA := Lib.hid (rdr_alloc R5.out (.cells #[.string ⟨#[]⟩, .string ⟨#[48, 48]⟩, .string ⟨#[120]⟩] 9))
      have GA := Lib.hid (G5.out.alloc G5.out.size (.cells #[.string ⟨#[]⟩, .string ⟨#[48, 48]⟩, .string ⟨#[120]⟩] 9))
      have CA := Lib.hid (block_onN C5.out ((Fr.refl w5.heap.size none w5).alloc (Nat.le_refl _) (.cells #[.string ⟨#[]⟩, .string ⟨#[48, 48]⟩, .string ⟨#[120]⟩] 9)))
      have hB5 := R5.out.lt
      go_wp2_with fail
      refine (pick_any B _ _ _ RA.out (by omega)).mono ?_; rintro e w6 ⟨q6, rfl, ⟨a6, b6, _⟩, hR6, hF6⟩
      have c6 := b6 (by omega)
      have R6 := Lib.hid hR6; have G6 := Lib.hid (fr_rd GA.out hF6)
      obtain ⟨⟨d0, d1, d2, d3⟩, f0, f1, f2, f3⟩ := four_cells (block_on CA.out hF6 hne)
      obtain ⟨z, rfl⟩ := Int.eq_ofNat_of_zero_le a6
      have hz2 : z < 3 := by omega
      have cells6 : ∀ j : Nat, j < 3 → w6.cell? ⟨w5.heap.size, j, none⟩ = #[Value.string ⟨#[]⟩, .string ⟨#[48, 48]⟩, .string ⟨#[120]⟩][j]? := by
        intro j hj
        refine block_cells (T := 9) ?_ j
        rw [hF6.block w5.heap.size (by simp) (by simp; omega)]
        exact heap_alloc_new w5 _
      obtain ⟨y, hcs, hy⟩ := three_strs (m := 10) cells6 hz2 (by decide) (by decide) (by decide)
      have hz0 : (0 : Int) ≤ (z : Int) := by omega
      have hz1 : (z : Int) < 3 := by omega
      clear hR6 hF6 b6 cells6 c6
      go_wp2
      refine bodyPost_ret (v := .agg #[.bool false, .string s, .string t, .string y]) (by simp [results, Tryz.results81, go_sem, *]) rfl ?_
      refine ⟨(false, s, t, y), rfl, ⟨hs, ht, hy⟩, ?_, ?_⟩
      · exact ((((Rdr.mono R6.out (by omega)).fr (((((Fr.refl w6.heap.size (some w.heap.size) w6).setCell (p := ⟨w.heap.size, 0, none⟩) (.inr rfl) _).setCell (p := ⟨w.heap.size, 1, none⟩) (.inr rfl) _).setCell (p := ⟨w.heap.size, 2, none⟩) (.inr rfl) _).setCell (p := ⟨w.heap.size, 3, none⟩) (.inr rfl) _) R6.out.lt (by intro g hg; cases hg; exact hBl))))
      · exact (((G6.out.setCell (p := ⟨w.heap.size, 0, none⟩) (.inl (Nat.le_refl _)) _).setCell (p := ⟨w.heap.size, 1, none⟩) (.inl (Nat.le_refl _)) _).setCell (p := ⟨w.heap.size, 2, none⟩) (.inl (Nat.le_refl _)) _).setCell (p := ⟨w.heap.size, 3, none⟩) (.inl (Nat.le_refl _)) _
end Go.Proofs.YtdngnmpmaacapaaGreatDoor
