/-
  Contracts: l20Deck and l20Answers.
-/
import Derived.Test.YtoedenmimcmkoaaDraw
import Derived.Test.YtoedenmimcmkoaaCardsB
import Derived.Test.YtoedenmimcmkoaaInts
namespace Go.Proofs.Ytoedenmimcmkoaa
open Go.RowKit

/-- A new slice of cards is drawn with the reader B. -/
def RdCards (B N m : Nat) (w : World) (e : Ending) (w' : World) : Prop :=
  ∃ a cap, ∃ xs : List (Int × Int), e = .returned (.slice a xs.length cap) ∧ w'.ownsRow w.heap.size 63 2 (.slice a xs.length cap) xs.length (cards xs) ∧ xs.length ≤ m ∧ Rdr w' B (N + 200) ∧ Fr w.heap.size (some B) w w'
theorem own_past {w w' : World} {base : Nat} {e : TypeId} {k n B : Nat} {v : Value} {cs : List Value} (h : w.ownsRow base e k v n cs) (hF : Fr w.heap.size (some B) w w') (hB : B < base) : w'.ownsRow base e k v n cs :=
  own_frB h hF fun g hg => by have := h.lt g hg; exact ⟨this.2, by simp; omega⟩

set_option maxHeartbeats 1000000 in
theorem l20Deck_any (B N : Nat) (n : Int) (w : World) (h : Rdr w B N) (hN : N ≤ 1000000) (hn : n ≤ 1000000) :
    Calls Try.prog 57 #[.pointer (some ⟨B, 0, none⟩), .int .i64 n] w (RdCards B N 9 w) := by
  have hBl := h.lt
  have HR0 := Lib.hid h; clear h
  go_enter Try.func57, Try.ntmps57
  go_wp2_with fail
  refine (pick_any B N _ _ (HR0.out.fr ((Fr.refl w.heap.size none w).alloc (Nat.le_refl _) _) hBl (by simp)) (by omega)).mono ?_; rintro e w2 ⟨k0, rfl, hk0, hR2, hF2⟩
  have O2 := Lib.hid (own_past (World.ownsRow_made (e := 63) (size := 2) (base := w.heap.size) w #[] 0 (Nat.le_refl _) (by simp [maxLen]) (by simp)) hF2 hBl)
  have G2 := Lib.hid ((((Fr.refl w.heap.size (some B) w).alloc (Nat.le_refl _) _)).trans (hF2.mono (by simp)))
  have z2 := hF2.size
  have z2' : w.heap.size + 1 ≤ w2.heap.size := by simpa using z2
  obtain ⟨hk1, hk2, _⟩ := hk0
  have hk3 := hk2 (by omega)
  have R2 := Lib.hid hR2
  clear hF2 hR2 hk2 z2
  obtain ⟨kn, rfl⟩ := Int.eq_ofNat_of_zero_le hk1
  go_wp2
  go_loopw [5, 6] (fun v k wr => ∃ (i : Nat) (a : Option Addr) (c : Nat) (xs : List (Int × Int)), v = .slice a xs.length c ∧ k = .int .i64 i ∧ i ≤ 8 ∧ xs.length + i ≤ 8 ∧ wr.ownsRow w.heap.size 63 2 (.slice a xs.length c) xs.length (cards xs) ∧ Hid (Rdr wr B (N + 1 + 2 * xs.length)) ∧ Fr w.heap.size (some B) w wr ∧ w.heap.size < wr.heap.size) (fun _ k _ => (intOf k).toNat)
  case atStart => exact ⟨kn, some ⟨w.heap.size, 0, none⟩, 0, [], rfl, rfl, by omega, by simp; omega, O2.out, R2.out, G2.out, by omega⟩
  case round =>
    obtain ⟨i, ao, co, xs, rfl, rfl, hi, hji, ho, hR, hF, hsz⟩ := hrel
    have HO := Lib.hid ho; have HF := Lib.hid hF; clear ho hF
    by_cases hi0 : 0 < i
    · go_wp2_with fail
      refine (pick_any B _ _ _ hR.out (by omega)).mono ?_; rintro e w3 ⟨x1, rfl, hx1, hR3, hF3⟩
      have O3 := Lib.hid (own_past HO.out hF3 hBl)
      have G3 := Lib.hid (HF.out.trans (hF3.mono (by omega)))
      have z3 := hF3.size
      obtain ⟨p1, p2, _⟩ := hx1
      have p3 := p2 (by omega)
      clear hF3 p2
      go_wp2_with fail
      refine (pick_any B _ _ _ hR3 (by omega)).mono ?_; rintro e w4 ⟨x2, rfl, hx2, hR4, hF4⟩
      have O4 := Lib.hid (own_past O3.out hF4 hBl)
      have G4 := Lib.hid (G3.out.trans (hF4.mono (by omega)))
      have z4 := hF4.size
      obtain ⟨q1, q2, _⟩ := hx2
      have q3 := q2 (by omega)
      have R4 := Lib.hid hR4
      clear hF4 hR3 hR4 q2
      go_wp2_with (at_builtin; refine app1 35 63 (.agg #[.int .i64 0, .int .i64 0]) 2 16 Try.underlying35 infoCard rfl (by decide) (by decide) rfl _ _ rfl [.int .i64 (1 + x1), .int .i64 x2] O4.out rfl rfl rfl (by simp [Value.oneCell']) (by omega) (by omega) ?_; intro v' w' ho' hF')
      obtain ⟨a', c', rfl, _, _⟩ := own_slice ho'
      have hO4 := own_lt O4.out
      have hl : (xs ++ [(1 + x1, x2)]).length = xs.length + 1 := by simp
      have z5 := hF'.size
      have H1 : Hid (w'.ownsRow w.heap.size 63 2 (.slice a' (xs ++ [(1 + x1, x2)]).length c') (xs ++ [(1 + x1, x2)]).length (cards (xs ++ [(1 + x1, x2)]))) := by rw [hl, cards, rows_append, rows_one]; exact ho'
      have H3 : Hid (Rdr w' B (N + 1 + 2 * (xs ++ [(1 + x1, x2)]).length)) := (R4.out.fr hF' (by omega) (fun g hg => by have := hO4 g hg; omega)).mono (by omega)
      have H4 := Lib.hid (G4.out.trans (hF'.up (by omega) (fun g hg => (hO4 g hg).1) |>.weak _))
      have HL := Lib.hid hl
      clear ho' hF' hO4 hl
      go_wp2
      go_roundw
      case rel => exact ⟨i - 1, a', c', _, by rw [HL.out], by go_num, by omega, by rw [HL.out]; omega, H1.out, H3, H4.out, by omega⟩
      case measure => simp [intOf]; omega
    · have hi1 : (i : Int) ≤ 0 := by omega
      go_wp2_with fail
      refine (odd_any B _ _ _ hR.out (by omega) hn).mono ?_; rintro e w3 ⟨bo, rfl, _, hR3, hF3⟩
      have O3 := Lib.hid (own_past HO.out hF3 hBl)
      have G3 := Lib.hid (HF.out.trans (hF3.mono (by omega)))
      have z3 := hF3.size
      have R3 := Lib.hid hR3
      clear hF3 hR3
      cases bo
      · go_wp2
        go_ret
        exact ⟨_, _, xs, rfl, O3.out, by omega, R3.out.mono (by omega), G3.out⟩
      · have mk : ∀ W : World, ∃ w1, (Instr.makeSlice 35 (.int .i64 9) (.int .i64 9)).run Try.prog W = .ok (.slice (some ⟨W.heap.size, 0, none⟩) 9 9) w1 ∧
            w1.ownsRow W.heap.size 63 2 (.slice (some ⟨W.heap.size, 0, none⟩) 9 9) 9 (cards (List.replicate 9 (0, 0))) ∧ Fr W.heap.size none W w1 := by
          intro W
          obtain ⟨w1, hr, ho, hF⟩ := mkCards 9 (by omega) W
          exact ⟨w1, hr, ho, hF⟩
        have MK := Lib.hid mk; clear mk
        by_cases hl0 : xs.length = 0
        · have hz : ((xs.length : Int) == 0) = true := by rw [beq_iff_eq]; omega
          clear hl0
          obtain ⟨w4, hr, ho, hF⟩ := MK.out w3
          have HN := Lib.hid (own_base ho (by omega : w.heap.size ≤ w3.heap.size))
          have HR4 := Lib.hid (R3.out.fr hF (by omega) (by simp))
          have G4 := Lib.hid (G3.out.trans ((hF.mono (by omega)).weak _))
          clear ho hF
          go_wp2
          go_ret
          exact ⟨_, _, List.replicate 9 (0, 0), rfl, HN.out, by simp, HR4.out.mono (by omega), G4.out⟩
        · have hz : ((xs.length : Int) == 0) = false := by rw [beq_eq_false_iff_ne]; omega
          have hl1 : 0 < xs.length := by omega
          clear hl0
          go_wp2_with fail
          refine (pick_any B _ _ _ R3.out (by omega)).mono ?_; rintro e w4 ⟨r, rfl, hr, hR4, hF4⟩
          have O4 := Lib.hid (own_past O3.out hF4 hBl)
          have G4 := Lib.hid (G3.out.trans (hF4.mono (by omega)))
          have z4 := hF4.size
          have R4 := Lib.hid hR4
          clear hF4 hR4 hr
          cases hr0 : (r == 0)
          · go_wp2_with fail
            generalize hX : Obj.cells #[Value.int IntKind.i64 0, Value.int IntKind.i64 0, Value.int IntKind.i64 6, Value.int IntKind.i64 0, Value.int IntKind.i64 1, Value.int IntKind.i64 (-1), Value.int IntKind.i64 2, Value.int IntKind.i64 300] 63 = X
            have R4' := Lib.hid (R4.out.fr ((Fr.refl w4.heap.size none w4).alloc (Nat.le_refl _) X) (by omega) (by simp))
            have O4' := Lib.hid (O4.out.alloc X)
            have G4' := Lib.hid (G4.out.alloc (by omega) X)
            have s4 : w4.heap.size < (w4.alloc X).heap.size := by simp
            have cx : ∀ q : Nat, (w4.alloc X).cell? ⟨w4.heap.size, q, none⟩ = (#[Value.int IntKind.i64 0, Value.int IntKind.i64 0, Value.int IntKind.i64 6, Value.int IntKind.i64 0, Value.int IntKind.i64 1, Value.int IntKind.i64 (-1), Value.int IntKind.i64 2, Value.int IntKind.i64 300] : Array Value)[q]? := by
              intro q; rw [← hX]; exact World.cell?_alloc_at _ _ _ _ rfl
            refine (pick_any B _ _ _ R4'.out (by omega)).mono ?_; rintro e w5 ⟨q, rfl, hq, hR5, hF5⟩
            have O5 := Lib.hid (own_past O4'.out hF5 hBl)
            have G5 := Lib.hid (G4'.out.trans (hF5.mono (by omega)))
            have z5 := hF5.size
            have z5' : w4.heap.size < w5.heap.size := by omega
            have R5 := Lib.hid hR5
            have dx : ∀ q : Nat, w5.cell? ⟨w4.heap.size, q, none⟩ = (#[Value.int IntKind.i64 0, Value.int IntKind.i64 0, Value.int IntKind.i64 6, Value.int IntKind.i64 0, Value.int IntKind.i64 1, Value.int IntKind.i64 (-1), Value.int IntKind.i64 2, Value.int IntKind.i64 300] : Array Value)[q]? :=
              fun q => (hF5.cell (p := ⟨w4.heap.size, q, none⟩) s4 (by simp; omega)).trans (cx q)
            have d0 := dx 0; have d1 := dx 1; have d2 := dx 2; have d3 := dx 3; have d4 := dx 4; have d5 := dx 5; have d6 := dx 6; have d7 := dx 7
            simp only [List.getElem?_toArray, List.getElem?_cons_zero, List.getElem?_cons_succ] at d0 d1 d2 d3 d4 d5 d6 d7
            obtain ⟨q1, q2, _⟩ := hq
            have q3 := q2 (by omega)
            clear hF5 hR5 cx hr0 dx z5 hX q2
            obtain ⟨g, rfl⟩ : ∃ g, ao = some ⟨g, 0, none⟩ := (Own.of O5.out).addr hl1
            have hg := own_lt O5.out g rfl
            have e0 : cards xs = [] ++ ([.int .i64 (xs.getD 0 (0, 0)).1, .int .i64 (xs.getD 0 (0, 0)).2] ++ cards (xs.drop 1)) := by
              have := drop_getD xs (0, 0) 0 hl1
              rw [List.drop_zero] at this
              conv => lhs; rw [this]
              rfl
            have ho5 := O5.out
            rw [e0] at ho5
            obtain ⟨g1, g2, g3, g4⟩ := own_get2 0 rfl ho5
            have fin : ∀ y z : Int, RdCards B N 9 w (.returned (.slice (some ⟨g, 0, none⟩) xs.length co)) ((w5.setCell ⟨g, 0, none⟩ (.int .i64 y)).setCell ⟨g, 1, none⟩ (.int .i64 z)) := by
              intro y z
              have hst := own_set2 0 (.int .i64 y) (.int .i64 z) rfl ho5
              have hl : ((y, z) :: xs.drop 1).length = xs.length := by simp; omega
              refine ⟨some ⟨g, 0, none⟩, co, (y, z) :: xs.drop 1, by rw [hl], by rw [hl]; exact hst, by rw [hl]; omega, ?_, (G5.out.setCell (.inl hg.1) _).setCell (.inl hg.1) _⟩
              exact (R5.out.fr (((Fr.refl w5.heap.size (some g) w5).setCell (p := ⟨g, 0, none⟩) (.inr rfl) _).setCell (p := ⟨g, 1, none⟩) (.inr rfl) _) (by omega) (by intro k hk; cases hk; omega)).mono (by omega)
            have FIN := Lib.hid fin; clear fin ho5 e0
            have g1' : w5.cell? ⟨g, 0, none⟩ = some (.int .i64 (xs.getD 0 (0, 0)).1) := g1
            have g2' : w5.cell? ⟨g, 1, none⟩ = some (.int .i64 (xs.getD 0 (0, 0)).2) := g2
            have g3' : w5.frozen? ⟨g, 0, none⟩ = false := g3
            have g4' : w5.frozen? ⟨g, 1, none⟩ = false := g4
            clear g1 g2 g3 g4
            generalize (xs.getD 0 (0, 0)).1 = y1 at *
            generalize (xs.getD 0 (0, 0)).2 = y2 at *
            have hq3 : q = 0 ∨ q = 1 ∨ q = 2 ∨ q = 3 := by omega
            clear q1 q3
            rcases hq3 with rfl | rfl | rfl | rfl
            all_goals
              go_wp2
              go_ret
              exact FIN.out _ _
          · obtain ⟨w5, hr, ho, hF⟩ := MK.out w4
            have HN := Lib.hid (own_base ho (by omega : w.heap.size ≤ w4.heap.size))
            have HR5 := Lib.hid (R4.out.fr hF (by omega) (by simp))
            have G5 := Lib.hid (G4.out.trans ((hF.mono (by omega)).weak _))
            clear ho hF
            go_wp2
            go_ret
            exact ⟨_, _, List.replicate 9 (0, 0), rfl, HN.out, by simp, HR5.out.mono (by omega), G5.out⟩
end Go.Proofs.Ytoedenmimcmkoaa
