/-
  Merged: ReadB DeedR.
-/
import Derived.Test.YtdngnmpmaacapaaGreatDoorMReadA
import Derived.Deep.RegionHeld3
import Derived.Test.YtdngnmpmaacapaaGreatDoorMJournal
set_option linter.unusedVariables false
set_option linter.unusedSimpArgs false
/-
  Contracts: ReadDeed, of the program and of the reference.
-/
namespace Go.Proofs.YtdngnmpmaacapaaGreatDoor
open Go.RowKit

/-- The deed that a text tells, and whether it tells one. -/
def readD (s : ByteArray) : Dd × Bool :=
  if s = backS then ((true, noTest), true)
  else match wordsB s with
    | [_, a, b, c] => if s ≠ ⟨#[]⟩ ∧ deedT (false, a, b, c) = s then ((false, a, b, c), true) else (noDeed, false)
    | _ => (noDeed, false)
theorem words_back : wordsB backS = [backS] := by decide
theorem words_nil : wordsB ⟨#[]⟩ = [⟨#[]⟩] := by decide
theorem readD_back : ((true, noTest), true) = readD backS := by simp [readD]
theorem readD_len {s : ByteArray} {ws : List ByteArray} (h : wordsB s = ws) (hb : s ≠ backS) (hl : ws.length ≠ 4) : (noDeed, false) = readD s := by
  unfold readD
  rw [if_neg hb, h]
  split
  · next a b c d => simp at hl
  · rfl
theorem readD_yes {s x a b c : ByteArray} (h : wordsB s = [x, a, b, c]) (hb : s ≠ backS) (h0 : s ≠ ⟨#[]⟩) (h2 : deedT (false, a, b, c) = s) : ((false, a, b, c), true) = readD s := by
  unfold readD; rw [if_neg hb, h]; simp only; rw [if_pos ⟨h0, h2⟩]
theorem readD_no {s x a b c : ByteArray} (h : wordsB s = [x, a, b, c]) (hb : s ≠ backS) (h2 : deedT (false, a, b, c) ≠ s) : (noDeed, false) = readD s := by
  unfold readD; rw [if_neg hb, h]; simp only; rw [if_neg (fun e => h2 e.2)]
theorem four_of {ws : List ByteArray} (h : ws.length = 4) : ∃ x a b c, ws = [x, a, b, c] := by
  match ws, h with
  | [x, a, b, c], _ => exact ⟨x, a, b, c, rfl⟩
def deedV (d : Dd) : Value := .agg #[.bool d.1, .string d.2.1, .string d.2.2.1, .string d.2.2.2]
def ReadPost (s : ByteArray) (w : World) (e : Ending) (w' : World) : Prop := e = .returned (.tuple #[deedV (readD s).1, .bool (readD s).2]) ∧ Fr w.heap.size none w w'
theorem readPost_of {s : ByteArray} {d : Dd} {b : Bool} {w w' : World} (h : (d, b) = readD s) (hF : Fr w.heap.size none w w') : ReadPost s w (.returned (.tuple #[.agg #[.bool d.1, .string d.2.1, .string d.2.2.1, .string d.2.2.2], .bool b])) w' := by
  unfold ReadPost; rw [← h]; exact ⟨rfl, hF⟩
theorem small_back : small (true, noTest).2 := by simp [small, noTest]
theorem eq_list (a b : ByteArray) (h : a ≠ b) : (a.toList == b.toList) = false := by
  rw [beq_eq_false_iff_ne]
  intro e
  apply h
  rw [ByteArray.toList_eq, ByteArray.toList_eq] at e
  have := congrArg mkB e
  rwa [mkB_data, mkB_data] at this
theorem fr_setR {w w2 : World} {d : Value} (G : Fr w.heap.size none w w2) (p : Nat) : Fr w.heap.size none w (w2.setCell ⟨w.heap.size, p, none⟩ d) := G.setCell (.inl (Nat.le_refl _)) d

set_option maxHeartbeats 4000000 in
set_option maxRecDepth 100000 in
theorem implReadDeed_any (s : ByteArray) (m : Int) (w : World) (hs : s.size ≤ 1048576) (hm : w.cell? ⟨0, 0, none⟩ = some (.int .i64 m)) :
    Calls Tryz.prog 71 #[.string s] w (ReadPost s w) := by
  have hbl := World.block_lt_of_cell? w _ hm
  have G2 := Lib.hid (((Fr.refl w.heap.size none w).alloc (Nat.le_refl _) (.cells #[.bool false, .string ⟨#[]⟩, .string ⟨#[]⟩, .string ⟨#[]⟩] 54)).alloc (by simp) (.cells #[.bool true, .string ⟨#[]⟩, .string ⟨#[]⟩, .string ⟨#[]⟩] 54))
  have hm2 := Lib.hid ((G2.out.cell (p := ⟨0, 0, none⟩) hbl (by simp)).trans hm)
  clear hm
  obtain ⟨ws, hw⟩ : ∃ ws, wordsB s = ws := ⟨_, rfl⟩
  have CS := Lib.hid (split_val hw hs hm2.out)
  have hne0 : s = ⟨#[]⟩ → ws.length ≠ 4 := by intro e; rw [← hw, e, words_nil]; decide
  have hneb : s = backS → ws.length ≠ 4 := by intro e; rw [← hw, e, words_back]; decide
  by_cases hl : ws.length = 4
  · have hb : s ≠ backS := fun e => hneb e hl
    have h0 : s ≠ ⟨#[]⟩ := fun e => hne0 e hl
    obtain ⟨x0, x1, x2, x3, rfl⟩ := four_of hl
    have sm : small (false, x1, x2, x3).2 := by
      have h1 := words_le (s := s) (x := x1) (by rw [hw]; simp)
      have h2 := words_le (s := s) (x := x2) (by rw [hw]; simp)
      have h3 := words_le (s := s) (x := x3) (by rw [hw]; simp)
      exact ⟨by show x1.size ≤ _; omega, by show x2.size ≤ _; omega, by show x3.size ≤ _; omega⟩
    obtain ⟨t, ht⟩ : ∃ t, deedT (false, x1, x2, x3) = t := ⟨_, rfl⟩
    have CD := Lib.hid (fun W => implText_val sm ht W)
    have he0 : s.toList.isEmpty = false := by rw [List.isEmpty_eq_false_iff]; exact fun h => h0 ((toList_nil_iff_emptyBytes s).1 h)
    by_cases he : t = s
    · have hr := Lib.hid (readD_yes hw hb h0 (ht.trans he))
      subst he
      clear hw hb h0 hne0 hneb hl ht sm
      go_enter Tryz.func71, Tryz.ntmps71
      go_wp2_with fail
      refine CS.out.mono ?_; rintro e w3 ⟨rfl, rfl⟩
      go_wp2
      go_region
      go_wp2_with fail
      refine (CD.out _).mono ?_; rintro e w4 ⟨rfl, hF4⟩
      have G := (Fr.drew ((((Fr.refl w.heap.size none w).alloc (Nat.le_refl _) _).alloc (by simp) _).alloc (by simp; omega) _)).and hF4
      have c0 : w4.cell? ⟨w.heap.size, 0, none⟩ = some (.bool false) := (hF4.cell (by first | (simp; done) | (simp; omega)) (by simp)).trans (by go_simp)
      have cf0 : w4.frozen? ⟨w.heap.size, 0, none⟩ = false := (hF4.frozen (by first | (simp; done) | (simp; omega)) (by simp)).trans (by go_simp)
      have c1 : w4.cell? ⟨w.heap.size, 1, none⟩ = some (.string ⟨#[]⟩) := (hF4.cell (by first | (simp; done) | (simp; omega)) (by simp)).trans (by go_simp)
      have cf1 : w4.frozen? ⟨w.heap.size, 1, none⟩ = false := (hF4.frozen (by first | (simp; done) | (simp; omega)) (by simp)).trans (by go_simp)
      have c2 : w4.cell? ⟨w.heap.size, 2, none⟩ = some (.string ⟨#[]⟩) := (hF4.cell (by first | (simp; done) | (simp; omega)) (by simp)).trans (by go_simp)
      have cf2 : w4.frozen? ⟨w.heap.size, 2, none⟩ = false := (hF4.frozen (by first | (simp; done) | (simp; omega)) (by simp)).trans (by go_simp)
      have c3 : w4.cell? ⟨w.heap.size, 3, none⟩ = some (.string ⟨#[]⟩) := (hF4.cell (by first | (simp; done) | (simp; omega)) (by simp)).trans (by go_simp)
      have cf3 : w4.frozen? ⟨w.heap.size, 3, none⟩ = false := (hF4.frozen (by first | (simp; done) | (simp; omega)) (by simp)).trans (by go_simp)
      have d0 : w4.cell? ⟨w.heap.size + 1, 0, none⟩ = some (.bool false) := (hF4.cell (by first | (simp; done) | (simp; omega)) (by simp)).trans (by go_simp)
      have df0 : w4.frozen? ⟨w.heap.size + 1, 0, none⟩ = false := (hF4.frozen (by first | (simp; done) | (simp; omega)) (by simp)).trans (by go_simp)
      have d1 : w4.cell? ⟨w.heap.size + 1, 1, none⟩ = some (.string x1) := (hF4.cell (by first | (simp; done) | (simp; omega)) (by simp)).trans (by go_simp)
      have df1 : w4.frozen? ⟨w.heap.size + 1, 1, none⟩ = false := (hF4.frozen (by first | (simp; done) | (simp; omega)) (by simp)).trans (by go_simp)
      have d2 : w4.cell? ⟨w.heap.size + 1, 2, none⟩ = some (.string x2) := (hF4.cell (by first | (simp; done) | (simp; omega)) (by simp)).trans (by go_simp)
      have df2 : w4.frozen? ⟨w.heap.size + 1, 2, none⟩ = false := (hF4.frozen (by first | (simp; done) | (simp; omega)) (by simp)).trans (by go_simp)
      have d3 : w4.cell? ⟨w.heap.size + 1, 3, none⟩ = some (.string x3) := (hF4.cell (by first | (simp; done) | (simp; omega)) (by simp)).trans (by go_simp)
      have df3 : w4.frozen? ⟨w.heap.size + 1, 3, none⟩ = false := (hF4.frozen (by first | (simp; done) | (simp; omega)) (by simp)).trans (by go_simp)
      clear hF4
      go_wp2
      exact bodyPost_ret (v := .tuple #[.agg #[.bool false, .string x1, .string x2, .string x3], .bool true]) (by simp [results, Tryz.results71, go_sem, *]) rfl (readPost_of (d := (false, x1, x2, x3)) hr.out ((((fr_setR G 0).setCell (.inl (Nat.le_refl _)) _).setCell (.inl (Nat.le_refl _)) _).setCell (.inl (Nat.le_refl _)) _))
    · have hr := Lib.hid (readD_no hw hb (fun e => he (ht.symm.trans e)))
      have hq := eq_list t s he
      clear hw hb h0 hne0 hneb hl ht sm he
      go_enter Tryz.func71, Tryz.ntmps71
      go_wp2_with fail
      refine CS.out.mono ?_; rintro e w3 ⟨rfl, rfl⟩
      go_wp2
      go_region
      go_wp2_with fail
      refine (CD.out _).mono ?_; rintro e w4 ⟨rfl, hF4⟩
      have G := (Fr.drew ((((Fr.refl w.heap.size none w).alloc (Nat.le_refl _) _).alloc (by simp) _).alloc (by simp; omega) _)).and hF4
      have c0 : w4.cell? ⟨w.heap.size, 0, none⟩ = some (.bool false) := (hF4.cell (by first | (simp; done) | (simp; omega)) (by simp)).trans (by go_simp)
      have cf0 : w4.frozen? ⟨w.heap.size, 0, none⟩ = false := (hF4.frozen (by first | (simp; done) | (simp; omega)) (by simp)).trans (by go_simp)
      have c1 : w4.cell? ⟨w.heap.size, 1, none⟩ = some (.string ⟨#[]⟩) := (hF4.cell (by first | (simp; done) | (simp; omega)) (by simp)).trans (by go_simp)
      have cf1 : w4.frozen? ⟨w.heap.size, 1, none⟩ = false := (hF4.frozen (by first | (simp; done) | (simp; omega)) (by simp)).trans (by go_simp)
      have c2 : w4.cell? ⟨w.heap.size, 2, none⟩ = some (.string ⟨#[]⟩) := (hF4.cell (by first | (simp; done) | (simp; omega)) (by simp)).trans (by go_simp)
      have cf2 : w4.frozen? ⟨w.heap.size, 2, none⟩ = false := (hF4.frozen (by first | (simp; done) | (simp; omega)) (by simp)).trans (by go_simp)
      have c3 : w4.cell? ⟨w.heap.size, 3, none⟩ = some (.string ⟨#[]⟩) := (hF4.cell (by first | (simp; done) | (simp; omega)) (by simp)).trans (by go_simp)
      have cf3 : w4.frozen? ⟨w.heap.size, 3, none⟩ = false := (hF4.frozen (by first | (simp; done) | (simp; omega)) (by simp)).trans (by go_simp)
      clear hF4
      go_wp2
      exact bodyPost_ret (v := .tuple #[.agg #[.bool false, .string ⟨#[]⟩, .string ⟨#[]⟩, .string ⟨#[]⟩], .bool false]) (by simp [results, Tryz.results71, go_sem, *]) rfl (readPost_of (d := noDeed) hr.out ((((fr_setR G 0).setCell (.inl (Nat.le_refl _)) _).setCell (.inl (Nat.le_refl _)) _).setCell (.inl (Nat.le_refl _)) _))
  · have hz : ((ws.length : Int) == 4) = false := by rw [beq_eq_false_iff_ne]; omega
    have CD : Hid (∀ W, Calls Tryz.prog 34 #[.agg #[.bool true, .string ⟨#[]⟩, .string ⟨#[]⟩, .string ⟨#[]⟩]] W fun e w' => e = .returned (.string backS) ∧ Fr W.heap.size none W w') := Lib.hid (fun W => implText_val (d := (true, ⟨#[]⟩, ⟨#[]⟩, ⟨#[]⟩)) (t := backS) small_back (by decide) W)
    by_cases hb : s = backS
    · subst hb
      have hr := Lib.hid readD_back
      have he0 : backS.toList.isEmpty = false := by rw [List.isEmpty_eq_false_iff]; exact fun h => absurd ((toList_nil_iff_emptyBytes backS).1 h) (by decide)
      clear hw hne0 hneb
      go_enter Tryz.func71, Tryz.ntmps71
      go_wp2_with fail
      refine CS.out.mono ?_; rintro e w3 ⟨rfl, rfl⟩
      go_wp2_with fail
      refine (CD.out _).mono ?_; rintro e w4 ⟨rfl, hF4⟩
      have G := (((((Fr.refl w.heap.size none w).alloc (Nat.le_refl _) _).alloc (by simp) _).alloc (by simp; omega) _)).and hF4
      have c0 : w4.cell? ⟨w.heap.size, 0, none⟩ = some (.bool false) := (hF4.cell (by first | (simp; done) | (simp; omega)) (by simp)).trans (by go_simp)
      have cf0 : w4.frozen? ⟨w.heap.size, 0, none⟩ = false := (hF4.frozen (by first | (simp; done) | (simp; omega)) (by simp)).trans (by go_simp)
      have c1 : w4.cell? ⟨w.heap.size, 1, none⟩ = some (.string ⟨#[]⟩) := (hF4.cell (by first | (simp; done) | (simp; omega)) (by simp)).trans (by go_simp)
      have cf1 : w4.frozen? ⟨w.heap.size, 1, none⟩ = false := (hF4.frozen (by first | (simp; done) | (simp; omega)) (by simp)).trans (by go_simp)
      have c2 : w4.cell? ⟨w.heap.size, 2, none⟩ = some (.string ⟨#[]⟩) := (hF4.cell (by first | (simp; done) | (simp; omega)) (by simp)).trans (by go_simp)
      have cf2 : w4.frozen? ⟨w.heap.size, 2, none⟩ = false := (hF4.frozen (by first | (simp; done) | (simp; omega)) (by simp)).trans (by go_simp)
      have c3 : w4.cell? ⟨w.heap.size, 3, none⟩ = some (.string ⟨#[]⟩) := (hF4.cell (by first | (simp; done) | (simp; omega)) (by simp)).trans (by go_simp)
      have cf3 : w4.frozen? ⟨w.heap.size, 3, none⟩ = false := (hF4.frozen (by first | (simp; done) | (simp; omega)) (by simp)).trans (by go_simp)
      have d0 : w4.cell? ⟨w.heap.size + 1, 0, none⟩ = some (.bool true) := (hF4.cell (by first | (simp; done) | (simp; omega)) (by simp)).trans (by go_simp)
      have df0 : w4.frozen? ⟨w.heap.size + 1, 0, none⟩ = false := (hF4.frozen (by first | (simp; done) | (simp; omega)) (by simp)).trans (by go_simp)
      have d1 : w4.cell? ⟨w.heap.size + 1, 1, none⟩ = some (.string ⟨#[]⟩) := (hF4.cell (by first | (simp; done) | (simp; omega)) (by simp)).trans (by go_simp)
      have df1 : w4.frozen? ⟨w.heap.size + 1, 1, none⟩ = false := (hF4.frozen (by first | (simp; done) | (simp; omega)) (by simp)).trans (by go_simp)
      have d2 : w4.cell? ⟨w.heap.size + 1, 2, none⟩ = some (.string ⟨#[]⟩) := (hF4.cell (by first | (simp; done) | (simp; omega)) (by simp)).trans (by go_simp)
      have df2 : w4.frozen? ⟨w.heap.size + 1, 2, none⟩ = false := (hF4.frozen (by first | (simp; done) | (simp; omega)) (by simp)).trans (by go_simp)
      have d3 : w4.cell? ⟨w.heap.size + 1, 3, none⟩ = some (.string ⟨#[]⟩) := (hF4.cell (by first | (simp; done) | (simp; omega)) (by simp)).trans (by go_simp)
      have df3 : w4.frozen? ⟨w.heap.size + 1, 3, none⟩ = false := (hF4.frozen (by first | (simp; done) | (simp; omega)) (by simp)).trans (by go_simp)
      clear hF4
      go_wp2
      exact bodyPost_ret (v := .tuple #[.agg #[.bool true, .string ⟨#[]⟩, .string ⟨#[]⟩, .string ⟨#[]⟩], .bool true]) (by simp [results, Tryz.results71, go_sem, *]) rfl (readPost_of (d := (true, ⟨#[]⟩, ⟨#[]⟩, ⟨#[]⟩)) hr.out ((((fr_setR G 0).setCell (.inl (Nat.le_refl _)) _).setCell (.inl (Nat.le_refl _)) _).setCell (.inl (Nat.le_refl _)) _))
    · have hr := Lib.hid (readD_len hw hb hl)
      by_cases h0 : s = ⟨#[]⟩
      · subst h0
        clear hw hne0 hneb hb
        go_enter Tryz.func71, Tryz.ntmps71
        go_wp2_with fail
        refine CS.out.mono ?_; rintro e w3 ⟨rfl, rfl⟩
        have G := ((((Fr.refl w.heap.size none w).alloc (Nat.le_refl _) (.cells #[.bool false, .string ⟨#[]⟩, .string ⟨#[]⟩, .string ⟨#[]⟩] 54)).alloc (by simp) (.cells #[.bool true, .string ⟨#[]⟩, .string ⟨#[]⟩, .string ⟨#[]⟩] 54)).alloc (by simp; omega) (.cells (List.map Value.string ws).toArray 9))
        go_wp2
        exact bodyPost_ret (v := .tuple #[.agg #[.bool false, .string ⟨#[]⟩, .string ⟨#[]⟩, .string ⟨#[]⟩], .bool false]) (by simp [results, Tryz.results71, go_sem, *]) rfl (readPost_of (d := noDeed) hr.out G)
      · have he0 : s.toList.isEmpty = false := by rw [List.isEmpty_eq_false_iff]; exact fun h => h0 ((toList_nil_iff_emptyBytes s).1 h)
        have hq := eq_list backS s (fun e => hb e.symm)
        clear hw hne0 hneb hb h0
        go_enter Tryz.func71, Tryz.ntmps71
        go_wp2_with fail
        refine CS.out.mono ?_; rintro e w3 ⟨rfl, rfl⟩
        go_wp2_with fail
        refine (CD.out _).mono ?_; rintro e w4 ⟨rfl, hF4⟩
        have G := (((((Fr.refl w.heap.size none w).alloc (Nat.le_refl _) _).alloc (by simp) _).alloc (by simp; omega) _)).and hF4
        have c0 : w4.cell? ⟨w.heap.size, 0, none⟩ = some (.bool false) := (hF4.cell (by first | (simp; done) | (simp; omega)) (by simp)).trans (by go_simp)
        have cf0 : w4.frozen? ⟨w.heap.size, 0, none⟩ = false := (hF4.frozen (by first | (simp; done) | (simp; omega)) (by simp)).trans (by go_simp)
        have c1 : w4.cell? ⟨w.heap.size, 1, none⟩ = some (.string ⟨#[]⟩) := (hF4.cell (by first | (simp; done) | (simp; omega)) (by simp)).trans (by go_simp)
        have cf1 : w4.frozen? ⟨w.heap.size, 1, none⟩ = false := (hF4.frozen (by first | (simp; done) | (simp; omega)) (by simp)).trans (by go_simp)
        have c2 : w4.cell? ⟨w.heap.size, 2, none⟩ = some (.string ⟨#[]⟩) := (hF4.cell (by first | (simp; done) | (simp; omega)) (by simp)).trans (by go_simp)
        have cf2 : w4.frozen? ⟨w.heap.size, 2, none⟩ = false := (hF4.frozen (by first | (simp; done) | (simp; omega)) (by simp)).trans (by go_simp)
        have c3 : w4.cell? ⟨w.heap.size, 3, none⟩ = some (.string ⟨#[]⟩) := (hF4.cell (by first | (simp; done) | (simp; omega)) (by simp)).trans (by go_simp)
        have cf3 : w4.frozen? ⟨w.heap.size, 3, none⟩ = false := (hF4.frozen (by first | (simp; done) | (simp; omega)) (by simp)).trans (by go_simp)
        clear hF4
        go_wp2
        exact bodyPost_ret (v := .tuple #[.agg #[.bool false, .string ⟨#[]⟩, .string ⟨#[]⟩, .string ⟨#[]⟩], .bool false]) (by simp [results, Tryz.results71, go_sem, *]) rfl (readPost_of (d := noDeed) hr.out ((((fr_setR G 0).setCell (.inl (Nat.le_refl _)) _).setCell (.inl (Nat.le_refl _)) _).setCell (.inl (Nat.le_refl _)) _))

set_option maxHeartbeats 4000000 in
set_option maxRecDepth 100000 in
theorem specReadDeed_any (s : ByteArray) (w : World) (hs : s.size ≤ 1048576) :
    Calls Tryz.prog 41 #[.string s] w (ReadPost s w) := by
  obtain ⟨ws, hw⟩ : ∃ ws, wordsB s = ws := ⟨_, rfl⟩
  have hne0 : s = ⟨#[]⟩ → ws.length ≠ 4 := by intro e; rw [← hw, e, words_nil]; decide
  by_cases hb : s = (⟨#[98, 97, 99, 107]⟩ : ByteArray)
  · subst hb
    have hr := Lib.hid readD_back
    clear hw hne0
    go_enter Tryz.func41, Tryz.ntmps41
    go_wp2
    exact bodyPost_ret (v := .tuple #[.agg #[.bool true, .string ⟨#[]⟩, .string ⟨#[]⟩, .string ⟨#[]⟩], .bool true]) (by simp [results, Tryz.results41, go_sem, *]) rfl (readPost_of (d := (true, noTest)) hr.out ((Fr.refl w.heap.size none w).alloc (Nat.le_refl _) _))
  · have hq0 := eq_list s ⟨#[98, 97, 99, 107]⟩ hb
    have hq1 : (s.toList == [98, 97, 99, 107]) = false := by
      have h := hq0
      rw [show (⟨#[98, 97, 99, 107]⟩ : ByteArray).toList = [98, 97, 99, 107] from by rw [ByteArray.toList_eq]] at h
      exact h
    by_cases hl : ws.length = 4
    · have h0 : s ≠ ⟨#[]⟩ := fun e => hne0 e hl
      obtain ⟨x0, x1, x2, x3, rfl⟩ := four_of hl
      have sm : small (false, x1, x2, x3).2 := by
        have h1 := words_le (s := s) (x := x1) (by rw [hw]; simp)
        have h2 := words_le (s := s) (x := x2) (by rw [hw]; simp)
        have h3 := words_le (s := s) (x := x3) (by rw [hw]; simp)
        exact ⟨by show x1.size ≤ _; omega, by show x2.size ≤ _; omega, by show x3.size ≤ _; omega⟩
      obtain ⟨t, ht⟩ : ∃ t, deedT (false, x1, x2, x3) = t := ⟨_, rfl⟩
      have CD := Lib.hid (fun W => specText_val sm ht W)
      by_cases he : t = s
      · have hr := Lib.hid (readD_yes hw hb h0 (ht.trans he))
        clear h0 hne0 hl ht sm
        go_enter Tryz.func41, Tryz.ntmps41
        go_wp2_with fail
        refine (l1Cut_any s _ hs).mono ?_; rintro e w3 ⟨va, vc, rfl, ho3, hF3⟩
        rw [hw] at ho3 ⊢
        have G3 := ((Fr.refl w.heap.size none w).alloc (Nat.le_refl _) _).and hF3
        obtain ⟨g, rfl⟩ : ∃ g, va = some ⟨g, 0, none⟩ := by
          rcases ho3.2 with ⟨h', h0'⟩ | ⟨g, cap', cur, h', _⟩
          · simp at h0'
          · simp only [Value.slice.injEq] at h'; exact ⟨g, h'.1⟩
        have k1 : w3.cell? ⟨g, 1, none⟩ = some (.string x1) := ho3.cellAt 1 (by simp)
        have k2 : w3.cell? ⟨g, 2, none⟩ = some (.string x2) := ho3.cellAt 2 (by simp)
        have k3 : w3.cell? ⟨g, 3, none⟩ = some (.string x3) := ho3.cellAt 3 (by simp)
        have hgl := World.block_lt_of_cell? w3 _ k1
        have kA1 : ∀ o, (w3.alloc o).cell? ⟨g, 1, none⟩ = some (.string x1) := fun o => (((Fr.refl w3.heap.size none w3).alloc (Nat.le_refl _) o).cell (p := ⟨g, 1, none⟩) hgl (by simp)).trans k1
        have kA2 : ∀ o, (w3.alloc o).cell? ⟨g, 2, none⟩ = some (.string x2) := fun o => (((Fr.refl w3.heap.size none w3).alloc (Nat.le_refl _) o).cell (p := ⟨g, 2, none⟩) hgl (by simp)).trans k2
        have kA3 : ∀ o, (w3.alloc o).cell? ⟨g, 3, none⟩ = some (.string x3) := fun o => (((Fr.refl w3.heap.size none w3).alloc (Nat.le_refl _) o).cell (p := ⟨g, 3, none⟩) hgl (by simp)).trans k3
        have hR3 : w.heap.size < w3.heap.size := Nat.lt_of_lt_of_le (by simp) hF3.size
        have r0 : w3.cell? ⟨w.heap.size, 0, none⟩ = some (.bool false) := (hF3.cell (by simp) (by simp)).trans (by go_simp)
        have rf0 : w3.frozen? ⟨w.heap.size, 0, none⟩ = false := (hF3.frozen (by simp) (by simp)).trans (by go_simp)
        have r1 : w3.cell? ⟨w.heap.size, 1, none⟩ = some (.string ⟨#[]⟩) := (hF3.cell (by simp) (by simp)).trans (by go_simp)
        have rf1 : w3.frozen? ⟨w.heap.size, 1, none⟩ = false := (hF3.frozen (by simp) (by simp)).trans (by go_simp)
        have r2 : w3.cell? ⟨w.heap.size, 2, none⟩ = some (.string ⟨#[]⟩) := (hF3.cell (by simp) (by simp)).trans (by go_simp)
        have rf2 : w3.frozen? ⟨w.heap.size, 2, none⟩ = false := (hF3.frozen (by simp) (by simp)).trans (by go_simp)
        have r3 : w3.cell? ⟨w.heap.size, 3, none⟩ = some (.string ⟨#[]⟩) := (hF3.cell (by simp) (by simp)).trans (by go_simp)
        have rf3 : w3.frozen? ⟨w.heap.size, 3, none⟩ = false := (hF3.frozen (by simp) (by simp)).trans (by go_simp)
        subst he
        go_wp2
        go_region
        go_wp2_with fail
        refine (CD.out _).mono ?_; rintro e w4 ⟨rfl, hF4⟩
        have G := (G3.alloc G3.size _).drew.and hF4
        have c0 : w4.cell? ⟨w.heap.size, 0, none⟩ = some (.bool false) := (hF4.cell (by simp; omega) (by simp)).trans (by go_simp)
        have cf0 : w4.frozen? ⟨w.heap.size, 0, none⟩ = false := (hF4.frozen (by simp; omega) (by simp)).trans (by go_simp)
        have c1 : w4.cell? ⟨w.heap.size, 1, none⟩ = some (.string ⟨#[]⟩) := (hF4.cell (by simp; omega) (by simp)).trans (by go_simp)
        have cf1 : w4.frozen? ⟨w.heap.size, 1, none⟩ = false := (hF4.frozen (by simp; omega) (by simp)).trans (by go_simp)
        have c2 : w4.cell? ⟨w.heap.size, 2, none⟩ = some (.string ⟨#[]⟩) := (hF4.cell (by simp; omega) (by simp)).trans (by go_simp)
        have cf2 : w4.frozen? ⟨w.heap.size, 2, none⟩ = false := (hF4.frozen (by simp; omega) (by simp)).trans (by go_simp)
        have c3 : w4.cell? ⟨w.heap.size, 3, none⟩ = some (.string ⟨#[]⟩) := (hF4.cell (by simp; omega) (by simp)).trans (by go_simp)
        have cf3 : w4.frozen? ⟨w.heap.size, 3, none⟩ = false := (hF4.frozen (by simp; omega) (by simp)).trans (by go_simp)
        have d0 : w4.cell? ⟨w3.heap.size, 0, none⟩ = some (.bool false) := (hF4.cell (by simp) (by simp)).trans (by go_simp)
        have d1 : w4.cell? ⟨w3.heap.size, 1, none⟩ = some (.string x1) := (hF4.cell (by simp) (by simp)).trans (by go_simp)
        have d2 : w4.cell? ⟨w3.heap.size, 2, none⟩ = some (.string x2) := (hF4.cell (by simp) (by simp)).trans (by go_simp)
        have d3 : w4.cell? ⟨w3.heap.size, 3, none⟩ = some (.string x3) := (hF4.cell (by simp) (by simp)).trans (by go_simp)
        clear hF4 r0 r1 r2 r3 rf0 rf1 rf2 rf3
        go_wp2
        exact bodyPost_ret (v := .tuple #[.agg #[.bool false, .string x1, .string x2, .string x3], .bool true]) (by simp [results, Tryz.results41, go_sem, *]) rfl (readPost_of (d := (false, x1, x2, x3)) hr.out ((((fr_setR G 0).setCell (.inl (Nat.le_refl _)) _).setCell (.inl (Nat.le_refl _)) _).setCell (.inl (Nat.le_refl _)) _))
      · have hr := Lib.hid (readD_no hw hb (fun e => he (ht.symm.trans e)))
        have hq := eq_list t s he
        clear h0 hne0 hl ht sm he
        go_enter Tryz.func41, Tryz.ntmps41
        go_wp2_with fail
        refine (l1Cut_any s _ hs).mono ?_; rintro e w3 ⟨va, vc, rfl, ho3, hF3⟩
        rw [hw] at ho3 ⊢
        have G3 := ((Fr.refl w.heap.size none w).alloc (Nat.le_refl _) _).and hF3
        obtain ⟨g, rfl⟩ : ∃ g, va = some ⟨g, 0, none⟩ := by
          rcases ho3.2 with ⟨h', h0'⟩ | ⟨g, cap', cur, h', _⟩
          · simp at h0'
          · simp only [Value.slice.injEq] at h'; exact ⟨g, h'.1⟩
        have k1 : w3.cell? ⟨g, 1, none⟩ = some (.string x1) := ho3.cellAt 1 (by simp)
        have k2 : w3.cell? ⟨g, 2, none⟩ = some (.string x2) := ho3.cellAt 2 (by simp)
        have k3 : w3.cell? ⟨g, 3, none⟩ = some (.string x3) := ho3.cellAt 3 (by simp)
        have hgl := World.block_lt_of_cell? w3 _ k1
        have kA1 : ∀ o, (w3.alloc o).cell? ⟨g, 1, none⟩ = some (.string x1) := fun o => (((Fr.refl w3.heap.size none w3).alloc (Nat.le_refl _) o).cell (p := ⟨g, 1, none⟩) hgl (by simp)).trans k1
        have kA2 : ∀ o, (w3.alloc o).cell? ⟨g, 2, none⟩ = some (.string x2) := fun o => (((Fr.refl w3.heap.size none w3).alloc (Nat.le_refl _) o).cell (p := ⟨g, 2, none⟩) hgl (by simp)).trans k2
        have kA3 : ∀ o, (w3.alloc o).cell? ⟨g, 3, none⟩ = some (.string x3) := fun o => (((Fr.refl w3.heap.size none w3).alloc (Nat.le_refl _) o).cell (p := ⟨g, 3, none⟩) hgl (by simp)).trans k3
        have hR3 : w.heap.size < w3.heap.size := Nat.lt_of_lt_of_le (by simp) hF3.size
        have r0 : w3.cell? ⟨w.heap.size, 0, none⟩ = some (.bool false) := (hF3.cell (by simp) (by simp)).trans (by go_simp)
        have rf0 : w3.frozen? ⟨w.heap.size, 0, none⟩ = false := (hF3.frozen (by simp) (by simp)).trans (by go_simp)
        have r1 : w3.cell? ⟨w.heap.size, 1, none⟩ = some (.string ⟨#[]⟩) := (hF3.cell (by simp) (by simp)).trans (by go_simp)
        have rf1 : w3.frozen? ⟨w.heap.size, 1, none⟩ = false := (hF3.frozen (by simp) (by simp)).trans (by go_simp)
        have r2 : w3.cell? ⟨w.heap.size, 2, none⟩ = some (.string ⟨#[]⟩) := (hF3.cell (by simp) (by simp)).trans (by go_simp)
        have rf2 : w3.frozen? ⟨w.heap.size, 2, none⟩ = false := (hF3.frozen (by simp) (by simp)).trans (by go_simp)
        have r3 : w3.cell? ⟨w.heap.size, 3, none⟩ = some (.string ⟨#[]⟩) := (hF3.cell (by simp) (by simp)).trans (by go_simp)
        have rf3 : w3.frozen? ⟨w.heap.size, 3, none⟩ = false := (hF3.frozen (by simp) (by simp)).trans (by go_simp)
        go_wp2
        go_region
        go_wp2_with fail
        refine (CD.out _).mono ?_; rintro e w4 ⟨rfl, hF4⟩
        have G := (G3.alloc G3.size _).drew.and hF4
        have c0 : w4.cell? ⟨w.heap.size, 0, none⟩ = some (.bool false) := (hF4.cell (by simp; omega) (by simp)).trans (by go_simp)
        have cf0 : w4.frozen? ⟨w.heap.size, 0, none⟩ = false := (hF4.frozen (by simp; omega) (by simp)).trans (by go_simp)
        have c1 : w4.cell? ⟨w.heap.size, 1, none⟩ = some (.string ⟨#[]⟩) := (hF4.cell (by simp; omega) (by simp)).trans (by go_simp)
        have cf1 : w4.frozen? ⟨w.heap.size, 1, none⟩ = false := (hF4.frozen (by simp; omega) (by simp)).trans (by go_simp)
        have c2 : w4.cell? ⟨w.heap.size, 2, none⟩ = some (.string ⟨#[]⟩) := (hF4.cell (by simp; omega) (by simp)).trans (by go_simp)
        have cf2 : w4.frozen? ⟨w.heap.size, 2, none⟩ = false := (hF4.frozen (by simp; omega) (by simp)).trans (by go_simp)
        have c3 : w4.cell? ⟨w.heap.size, 3, none⟩ = some (.string ⟨#[]⟩) := (hF4.cell (by simp; omega) (by simp)).trans (by go_simp)
        have cf3 : w4.frozen? ⟨w.heap.size, 3, none⟩ = false := (hF4.frozen (by simp; omega) (by simp)).trans (by go_simp)
        clear hF4 r0 r1 r2 r3 rf0 rf1 rf2 rf3
        go_wp2
        exact bodyPost_ret (v := .tuple #[.agg #[.bool false, .string ⟨#[]⟩, .string ⟨#[]⟩, .string ⟨#[]⟩], .bool false]) (by simp [results, Tryz.results41, go_sem, *]) rfl (readPost_of (d := noDeed) hr.out ((((fr_setR G 0).setCell (.inl (Nat.le_refl _)) _).setCell (.inl (Nat.le_refl _)) _).setCell (.inl (Nat.le_refl _)) _))
    · have hz : ((ws.length : Int) != 4) = true := by rw [bne_iff_ne]; omega
      have hr := Lib.hid (readD_len hw hb hl)
      clear hne0 hb
      go_enter Tryz.func41, Tryz.ntmps41
      go_wp2_with fail
      refine (l1Cut_any s _ hs).mono ?_; rintro e w3 ⟨va, vc, rfl, ho3, hF3⟩
      rw [hw] at ho3 ⊢
      have G3 := ((Fr.refl w.heap.size none w).alloc (Nat.le_refl _) _).and hF3
      have r0 : w3.cell? ⟨w.heap.size, 0, none⟩ = some (.bool false) := (hF3.cell (by simp) (by simp)).trans (by go_simp)
      have rf0 : w3.frozen? ⟨w.heap.size, 0, none⟩ = false := (hF3.frozen (by simp) (by simp)).trans (by go_simp)
      have r1 : w3.cell? ⟨w.heap.size, 1, none⟩ = some (.string ⟨#[]⟩) := (hF3.cell (by simp) (by simp)).trans (by go_simp)
      have rf1 : w3.frozen? ⟨w.heap.size, 1, none⟩ = false := (hF3.frozen (by simp) (by simp)).trans (by go_simp)
      have r2 : w3.cell? ⟨w.heap.size, 2, none⟩ = some (.string ⟨#[]⟩) := (hF3.cell (by simp) (by simp)).trans (by go_simp)
      have rf2 : w3.frozen? ⟨w.heap.size, 2, none⟩ = false := (hF3.frozen (by simp) (by simp)).trans (by go_simp)
      have r3 : w3.cell? ⟨w.heap.size, 3, none⟩ = some (.string ⟨#[]⟩) := (hF3.cell (by simp) (by simp)).trans (by go_simp)
      have rf3 : w3.frozen? ⟨w.heap.size, 3, none⟩ = false := (hF3.frozen (by simp) (by simp)).trans (by go_simp)
      go_wp2
      exact bodyPost_ret (v := .tuple #[.agg #[.bool false, .string ⟨#[]⟩, .string ⟨#[]⟩, .string ⟨#[]⟩], .bool false]) (by simp [results, Tryz.results41, go_sem, *]) rfl (readPost_of (d := noDeed) hr.out ((((fr_setR G3 0).setCell (.inl (Nat.le_refl _)) _).setCell (.inl (Nat.le_refl _)) _).setCell (.inl (Nat.le_refl _)) _))
end Go.Proofs.YtdngnmpmaacapaaGreatDoor
/-
  Plain laws: the text of a deed and what is read of it.
-/
namespace Go.Proofs.YtdngnmpmaacapaaGreatDoor
open Go.RowKit

theorem app_data (a b : ByteArray) : (a ++ b).data.toList = a.data.toList ++ b.data.toList := by simp [ByteArray.data_append]
theorem numOk_free {s : ByteArray} (h : numOk s = true) : (32 : UInt8) ∉ s.data.toList := by
  intro hm
  obtain ⟨i, hi, e⟩ := List.mem_iff_getElem.1 hm
  have hi' : i < s.size := by simpa using hi
  have hd := byte_dig h i hi'
  have : s[i] = 32 := by rw [← e]; simp; rfl
  rw [this] at hd
  exact absurd hd.1 (by decide)
theorem words_take {x : Tst} (h1 : numOk x.1 = true) (h2 : numOk x.2.1 = true) (h3 : numOk x.2.2 = true) : wordsB (takeS x) = [⟨#[116, 97, 107, 101]⟩, x.1, x.2.1, x.2.2] := by
  have e : (takeS x).data.toList = [116, 97, 107, 101] ++ 32 :: (x.1.data.toList ++ 32 :: (x.2.1.data.toList ++ 32 :: x.2.2.data.toList)) := by
    unfold takeS; simp [ByteArray.data_append]
  unfold wordsB
  rw [e, cutL_hit (by decide), cutL_hit (numOk_free h1), cutL_hit (numOk_free h2), cutL_free (numOk_free h3)]
  show [mkB [116, 97, 107, 101], mkB x.1.data.toList, mkB x.2.1.data.toList, mkB x.2.2.data.toList] = _
  rw [mkB_data, mkB_data, mkB_data]; rfl
theorem takeS_size (x : Tst) : (takeS x).size = 7 + x.1.size + x.2.1.size + x.2.2.size := by
  unfold takeS; simp only [ByteArray.size_append]; show (5 + x.1.size + 1 + x.2.1.size + 1 + x.2.2.size) = _; omega
theorem tiny_text {d : Dd} (h : tiny d.2) : (deedT d).size ≤ 37 := by
  obtain ⟨a, b, c⟩ := h
  unfold deedT
  split
  · split <;> decide
  · split
    · rw [takeS_size]; omega
    · decide
theorem text_cases (d : Dd) : deedT d = ⟨#[]⟩ ∨ (d = (true, noTest) ∧ deedT d = backS) ∨ (∃ x, d = (false, x) ∧ numOk x.1 = true ∧ numOk x.2.1 = true ∧ numOk x.2.2 = true ∧ deedT d = takeS x) := by
  obtain ⟨b, x⟩ := d
  cases b
  · by_cases h : (numOk x.1 && (numOk x.2.1 && numOk x.2.2)) = true
    · simp only [Bool.and_eq_true] at h
      exact .inr (.inr ⟨x, rfl, h.1, h.2.1, h.2.2, (deedT_take h.1 h.2.1 h.2.2).symm⟩)
    · exact .inl (by unfold deedT; simp only [Bool.false_eq_true, if_false]; rw [if_neg h])
  · by_cases h : x = noTest
    · exact .inr (.inl ⟨by rw [h], (deedT_back h).symm⟩)
    · exact .inl (deedT_nob h).symm
theorem takeS_ne {x : Tst} : takeS x ≠ backS ∧ takeS x ≠ ⟨#[]⟩ := by
  have h := takeS_size x
  constructor
  · intro e; rw [e] at h; have h4 : backS.size = 4 := rfl; omega
  · intro e; rw [e] at h; have h4 : (⟨#[]⟩ : ByteArray).size = 0 := rfl; omega
theorem readD_cases (s : ByteArray) : s = backS ∨ readD s = (noDeed, false) ∨ ∃ x a b c, wordsB s = [x, a, b, c] ∧ s ≠ ⟨#[]⟩ ∧ deedT (false, a, b, c) = s ∧ readD s = ((false, a, b, c), true) := by
  by_cases hb : s = backS
  · exact .inl hb
  · by_cases hl : (wordsB s).length = 4
    · obtain ⟨x, a, b, c, hw⟩ := four_of hl
      have h0 : s ≠ ⟨#[]⟩ := by intro e; rw [e, words_nil] at hl; simp at hl
      by_cases h2 : deedT (false, a, b, c) = s
      · exact .inr (.inr ⟨x, a, b, c, hw, h0, h2, (readD_yes hw hb h0 h2).symm⟩)
      · exact .inr (.inl (readD_no hw hb h2).symm)
    · exact .inr (.inl (readD_len rfl hb hl).symm)
/-- Texts of deeds are read. -/
theorem readD_text {d : Dd} (h : deedT d ≠ ⟨#[]⟩) : readD (deedT d) = (d, true) := by
  rcases text_cases d with h0 | ⟨rfl, e⟩ | ⟨x, rfl, h1, h2, h3, e⟩
  · exact absurd h0 h
  · rw [e]; exact readD_back.symm
  · have hw := words_take h1 h2 h3
    rw [e]
    exact (readD_yes hw takeS_ne.1 takeS_ne.2 e).symm
/-- What is read is no text but its own. -/
theorem readD_ok {s : ByteArray} (h : (readD s).2 = true) : deedT (readD s).1 = s ∧ s ≠ ⟨#[]⟩ := by
  rcases readD_cases s with rfl | e | ⟨x, a, b, c, _, h0, h2, e⟩
  · rw [← readD_back]
    exact ⟨(deedT_back (x := noTest) rfl).symm, by decide⟩
  · rw [e] at h; cases h
  · rw [e]; exact ⟨h2, h0⟩
theorem readD_not {s : ByteArray} (h : (readD s).2 = false) : (readD s).1 = noDeed := by
  rcases readD_cases s with rfl | e | ⟨x, a, b, c, _, h0, h2, e⟩
  · rw [← readD_back] at h; cases h
  · rw [e]
  · rw [e] at h; cases h
theorem readD_small {s : ByteArray} (hs : s.size ≤ 1048576) : small (readD s).1.2 := by
  rcases readD_cases s with rfl | e | ⟨x, a, b, c, hw, h0, h2, e⟩
  · rw [← readD_back]; exact small_back
  · rw [e]; exact small_back
  · rw [e]
    have h1 := words_le (s := s) (x := a) (by rw [hw]; simp)
    have h2 := words_le (s := s) (x := b) (by rw [hw]; simp)
    have h3 := words_le (s := s) (x := c) (by rw [hw]; simp)
    exact ⟨by show a.size ≤ _; omega, by show b.size ≤ _; omega, by show c.size ≤ _; omega⟩
theorem last_space (s : ByteArray) : (s ++ (⟨#[32]⟩ : ByteArray)).data.toList.getLast? = some 32 := by
  rw [app_data, List.getLast?_append]; rfl
theorem text_last (d : Dd) (s : ByteArray) : deedT d ≠ s ++ ⟨#[32]⟩ := by
  intro e
  have hl := last_space s
  rw [← e] at hl
  rcases text_cases d with h0 | ⟨rfl, e1⟩ | ⟨x, rfl, h1, h2, h3, e1⟩
  · rw [h0] at hl; revert hl; decide
  · rw [e1] at hl; revert hl; decide
  · rw [e1] at hl
    unfold takeS at hl
    rw [app_data, List.getLast?_append] at hl
    have hne : x.2.2.data.toList ≠ [] := by
      intro h0
      have hp := (numOk_pos h3).1
      have h5 : x.2.2.data.toList.length = x.2.2.size := by simp
      rw [h0] at h5; rw [List.length_nil] at h5; omega
    rw [List.getLast?_eq_some_getLast hne] at hl
    have h4 : x.2.2.data.toList.getLast hne = 32 := by simpa using hl
    exact numOk_free h3 (h4 ▸ List.getLast_mem hne)
/-- With a space behind it no text is read. -/
theorem readD_space (s : ByteArray) : (readD (s ++ ⟨#[32]⟩)).2 = false := by
  cases h : (readD (s ++ ⟨#[32]⟩)).2
  · rfl
  · exact absurd (readD_ok h).1 (text_last _ s)
end Go.Proofs.YtdngnmpmaacapaaGreatDoor
