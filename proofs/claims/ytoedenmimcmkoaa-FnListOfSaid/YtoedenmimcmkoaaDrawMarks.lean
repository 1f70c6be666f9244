/-
  Contracts: l20Marks, l20Bounds and the draws of marks.
-/
import Derived.Test.YtoedenmimcmkoaaDraw
import Derived.Test.YtoedenmimcmkoaaInts
import Derived.Test.YtoedenmimcmkoaaApp
namespace Go.Proofs.Ytoedenmimcmkoaa
open Go.RowKit

/-- A new slice of numbers is drawn with the reader B. -/
def RdInts (B N m lo hi : Nat) (w : World) (e : Ending) (w' : World) : Prop :=
  ∃ a cap, ∃ xs : List Int, e = .returned (.slice a xs.length cap) ∧ w'.ownsRow w.heap.size 3 1 (.slice a xs.length cap) xs.length (ints xs) ∧ xs.length ≤ m ∧ (∀ x ∈ xs, -(lo : Int) ≤ x ∧ x ≤ hi) ∧ Rdr w' B (N + 200) ∧ Fr w.heap.size (some B) w w'

theorem own_past {w w' : World} {base : Nat} {e : TypeId} {k n B : Nat} {v : Value} {cs : List Value} (h : w.ownsRow base e k v n cs) (hF : Fr w.heap.size (some B) w w') (hB : B < base) : w'.ownsRow base e k v n cs :=
  own_frB h hF fun g hg => by have := h.lt g hg; exact ⟨this.2, by simp; omega⟩

theorem kind3 {k : Int} (h : Picked k 3) : k = 0 ∨ k = 1 ∨ k = 2 := by have := h.1; have := h.2.1 (by omega); omega

theorem bd_snoc {lo hi : Int} {xs : List Int} (h : ∀ x ∈ xs, lo ≤ x ∧ x ≤ hi) {y : Int} (hy : lo ≤ y ∧ y ≤ hi) : ∀ x ∈ xs ++ [y], lo ≤ x ∧ x ≤ hi := by
  intro x hx
  rcases List.mem_append.1 hx with hx | hx
  · exact h x hx
  · simp at hx; subst hx; exact hy

set_option maxHeartbeats 1000000 in
theorem l20Marks_any (B N : Nat) (n : Int) (w : World) (h : Rdr w B N) (hN : N ≤ 1000000) (hn : n ≤ 1000000) :
    Calls Try.prog 45 #[.pointer (some ⟨B, 0, none⟩), .int .i64 n] w (RdInts B N 13 1 101 w) := by
  have hBl := h.lt
  have HR0 := Lib.hid h; clear h
  go_enter Try.func45, Try.ntmps45
  go_wp2_with fail
  refine (pick_any B N _ _ (HR0.out.fr ((Fr.refl w.heap.size none w).alloc (Nat.le_refl _) _) hBl (by simp)) (by omega)).mono ?_; rintro e w1 ⟨kd, rfl, hkd, hR1, hF1⟩
  have O1 := Lib.hid (own_past (World.ownsRow_made (e := 3) (size := 1) (base := w.heap.size) w #[] 0 (Nat.le_refl _) (by simp [maxLen]) (by simp)) hF1 hBl)
  have HK := Lib.hid hkd; clear hkd
  have G1 := Lib.hid ((((Fr.refl w.heap.size (some B) w).alloc (Nat.le_refl _) _)).trans (hF1.mono (by simp)))
  have z1 := hF1.size
  have z1' : w.heap.size + 1 ≤ w1.heap.size := by simpa using z1
  clear hF1 z1
  go_wp2_with fail
  refine (pick_any B (N+1) _ _ hR1 (by omega)).mono ?_; rintro e w2 ⟨k0, rfl, hk0, hR2, hF2⟩
  have O2 := Lib.hid (own_past O1.out hF2 hBl)
  have G2 := Lib.hid (G1.out.trans (hF2.mono (by omega)))
  have z2 := hF2.size
  obtain ⟨hk1, hk2, _⟩ := hk0
  have hk3 := hk2 (by omega)
  have R2 := Lib.hid hR2
  clear hF2 hR1 hR2 hk2
  obtain ⟨kn, rfl⟩ := Int.eq_ofNat_of_zero_le hk1
  go_wp2
  go_loopw [5, 7] (fun v k wr => ∃ (j i : Nat) (a : Option Addr) (c : Nat) (xs : List Int), v = .slice a xs.length c ∧ k = .int .i64 i ∧ xs.length = j ∧ i ≤ 12 ∧ j + i ≤ 12 ∧ wr.ownsRow w.heap.size 3 1 (.slice a xs.length c) xs.length (ints xs) ∧ Hid (∀ x ∈ xs, (-((1 : Nat) : Int)) ≤ x ∧ x ≤ ((101 : Nat) : Int)) ∧ Hid (Rdr wr B (N + 2 + 3 * j)) ∧ Fr w.heap.size (some B) w wr ∧ w.heap.size < wr.heap.size) (fun _ k _ => (intOf k).toNat)
  case atStart => exact ⟨0, kn, some ⟨w.heap.size, 0, none⟩, 0, [], rfl, rfl, rfl, by omega, by omega, O2.out, by intro x hx; simp at hx, R2.out, G2.out, by omega⟩
  case round =>
    obtain ⟨_, i, ao, co, xs, rfl, rfl, rfl, hi, hji, ho, hbd, hR, hF, hsz⟩ := hrel
    have HO := Lib.hid ho; have HF := Lib.hid hF; clear ho hF
    by_cases hi0 : 0 < i
    · go_wp2_with fail
      refine (pick_any B _ _ _ hR.out (by omega)).mono ?_; rintro e w3 ⟨x1, rfl, hx1, hR3, hF3⟩
      have O3 := Lib.hid (own_past HO.out hF3 hBl)
      have G3 := Lib.hid (HF.out.trans (hF3.mono (by omega)))
      have z3 := hF3.size
      obtain ⟨p1, p2, _⟩ := hx1
      have p2 := p2 (by omega)
      clear hF3
      go_wp2_with fail
      refine (pick_any B _ _ _ hR3 (by omega)).mono ?_; rintro e w4 ⟨x2, rfl, hx2, hR4, hF4⟩
      have O4 := Lib.hid (own_past O3.out hF4 hBl)
      have G4 := Lib.hid (G3.out.trans (hF4.mono (by omega)))
      have z4 := hF4.size
      obtain ⟨q1, q2, _⟩ := hx2
      have q2 := q2 (by omega)
      clear hF4 hR3
      go_wp2_with fail
      refine (pick_any B _ _ _ hR4 (by omega)).mono ?_; rintro e w5 ⟨x3, rfl, hx3, hR5, hF5⟩
      have O5 := Lib.hid (own_past O4.out hF5 hBl)
      have G5 := Lib.hid (G4.out.trans (hF5.mono (by omega)))
      have z5 := hF5.size
      obtain ⟨r1, r2, _⟩ := hx3
      have r2 := r2 (by omega)
      have R5 := Lib.hid hR5
      clear hF5 hR4 hR5
      have step : ∀ (y : Int) (v' : Value) (w' : World), (-((1 : Nat) : Int)) ≤ y ∧ y ≤ ((101 : Nat) : Int) → w'.ownsRow w.heap.size 3 1 v' (xs.length + 1) (ints xs ++ [.int .i64 y]) → Fr (w5.alloc (.cells #[.int .i64 x1, .int .i64 (50 + x2), .int .i64 (10 * x3)] 3)).heap.size (Value.slice ao xs.length co).ownBlock (w5.alloc (.cells #[.int .i64 x1, .int .i64 (50 + x2), .int .i64 (10 * x3)] 3)) w' →
          ∃ a' c', v' = .slice a' (xs ++ [y]).length c' ∧ w'.ownsRow w.heap.size 3 1 (.slice a' (xs ++ [y]).length c') (xs ++ [y]).length (ints (xs ++ [y])) ∧ Hid (∀ x ∈ xs ++ [y], (-((1 : Nat) : Int)) ≤ x ∧ x ≤ ((101 : Nat) : Int)) ∧ Hid (Rdr w' B (N + 2 + 3 * (xs.length + 1))) ∧ Fr w.heap.size (some B) w w' ∧ w.heap.size < w'.heap.size := by
        intro y v' w' hy ho' hF'
        obtain ⟨a', c', rfl, _, _⟩ := own_slice ho'
        have hl : (xs ++ [y]).length = xs.length + 1 := by simp
        have hz := hF'.size
        have hO5 := own_lt O5.out
        refine ⟨a', c', by rw [hl], by rw [hl, ints_append]; exact ho', bd_snoc hbd.out hy, ?_, ?_, by simp at hz; omega⟩
        · refine ((R5.out.fr ((Fr.refl _ none _).alloc (Nat.le_refl _) _) (by omega) (by simp)).fr hF' (by simp; omega) ?_).mono (by omega)
          intro g hg; have := hO5 g hg; omega
        · refine (G5.out.alloc (by omega) _).trans (hF'.up (by simp; omega) ?_ |>.weak _)
          intro g hg; exact (hO5 g hg).1
      have ST := Lib.hid step; clear step
      rcases kind3 HK.out with rfl | rfl | rfl
      · go_wp2_with (at_builtin; refine app1g 23 3 (.int .i64 0) 1 8 Try.underlying23 infoInt rfl (by decide) (by decide) rfl _ _ rfl [.int .i64 x1] (O5.out.alloc _) rfl _ (by simp) rfl rfl (by simp [Value.oneCell']) (by omega) (by simp; omega) ?_; intro v' w' ho' hF')
        obtain ⟨a', c', rfl, h1, h2, h3, h4, h5⟩ := ST.out x1 v' w' ⟨by omega, by omega⟩ ho' hF'
        have H1 := Lib.hid h1; have H4 := Lib.hid h4; clear h1 h4 ho' hF'
        go_wp2
        go_roundw
        case rel => exact ⟨xs.length + 1, i - 1, a', c', _, rfl, by go_num, by simp, by omega, by omega, H1.out, h2, h3, H4.out, h5⟩
        case measure => simp [intOf]; omega
      · go_wp2_with (at_builtin; refine app1g 23 3 (.int .i64 0) 1 8 Try.underlying23 infoInt rfl (by decide) (by decide) rfl _ _ rfl [.int .i64 (50 + x2)] (O5.out.alloc _) rfl _ (by simp) rfl rfl (by simp [Value.oneCell']) (by omega) (by simp; omega) ?_; intro v' w' ho' hF')
        obtain ⟨a', c', rfl, h1, h2, h3, h4, h5⟩ := ST.out (50 + x2) v' w' ⟨by omega, by omega⟩ ho' hF'
        have H1 := Lib.hid h1; have H4 := Lib.hid h4; clear h1 h4 ho' hF'
        go_wp2
        go_roundw
        case rel => exact ⟨xs.length + 1, i - 1, a', c', _, rfl, by go_num, by simp, by omega, by omega, H1.out, h2, h3, H4.out, h5⟩
        case measure => simp [intOf]; omega
      · go_wp2_with (at_builtin; refine app1g 23 3 (.int .i64 0) 1 8 Try.underlying23 infoInt rfl (by decide) (by decide) rfl _ _ rfl [.int .i64 (10 * x3)] (O5.out.alloc _) rfl _ (by simp) rfl rfl (by simp [Value.oneCell']) (by omega) (by simp; omega) ?_; intro v' w' ho' hF')
        obtain ⟨a', c', rfl, h1, h2, h3, h4, h5⟩ := ST.out (10 * x3) v' w' ⟨by omega, by omega⟩ ho' hF'
        have H1 := Lib.hid h1; have H4 := Lib.hid h4; clear h1 h4 ho' hF'
        go_wp2
        go_roundw
        case rel => exact ⟨xs.length + 1, i - 1, a', c', _, rfl, by go_num, by simp, by omega, by omega, H1.out, h2, h3, H4.out, h5⟩
        case measure => simp [intOf]; omega
    · have hi1 : (i : Int) ≤ 0 := by omega
      go_wp2_with fail
      refine (odd_any B _ _ _ hR.out (by omega) hn).mono ?_; rintro e w3 ⟨bo, rfl, _, hR3, hF3⟩
      have O3 := Lib.hid (own_past HO.out hF3 hBl)
      have G3 := Lib.hid (HF.out.trans (hF3.mono (by omega)))
      have z3 := hF3.size
      have R3 := Lib.hid hR3
      clear hF3 hR3
      cases bo
      · go_wp2
        go_ret
        exact ⟨_, _, xs, rfl, O3.out, by omega, hbd.out, R3.out.mono (by omega), G3.out⟩
      · have mk : ∀ W : World, ∃ w1, (Instr.makeSlice 23 (.int .i64 13) (.int .i64 13)).run Try.prog W = .ok (.slice (some ⟨W.heap.size, 0, none⟩) 13 13) w1 ∧
            w1.ownsRow W.heap.size 3 1 (.slice (some ⟨W.heap.size, 0, none⟩) 13 13) 13 (ints (List.replicate 13 0)) ∧ Fr W.heap.size none W w1 := by
          intro W
          obtain ⟨w1, hr, ho, hF⟩ := mkInts (fun _ => .int .i64 0) 13 (by omega) W
          exact ⟨w1, hr, by rw [fillV_zero] at ho; exact ho, hF⟩
        have MK := Lib.hid mk; clear mk
        have hrep : ∀ x ∈ List.replicate 13 (0 : Int), (-((1 : Nat) : Int)) ≤ x ∧ x ≤ ((101 : Nat) : Int) := by intro x hx; simp at hx; omega
        have HREP := Lib.hid hrep; clear hrep
        by_cases hl0 : xs.length = 0
        · have hz : ((xs.length : Int) == 0) = true := by rw [beq_iff_eq]; omega
          clear hl0
          obtain ⟨w4, hr, ho, hF⟩ := MK.out w3
          have HN := Lib.hid (own_base ho (by omega : w.heap.size ≤ w3.heap.size))
          have HR4 := Lib.hid (R3.out.fr hF (by omega) (by simp))
          have G4 := Lib.hid (G3.out.trans ((hF.mono (by omega)).weak _))
          clear ho hF
          go_wp2
          go_ret
          exact ⟨_, _, List.replicate 13 0, rfl, HN.out, by simp, HREP.out, HR4.out.mono (by omega), G4.out⟩
        · have hz : ((xs.length : Int) == 0) = false := by rw [beq_eq_false_iff_ne]; omega
          have hl1 : 0 < xs.length := by omega
          clear hl0
          go_wp2_with fail
          refine (pick_any B _ _ _ R3.out (by omega)).mono ?_; rintro e w4 ⟨r, rfl, hr, hR4, hF4⟩
          have O4 := Lib.hid (own_past O3.out hF4 hBl)
          have G4 := Lib.hid (G3.out.trans (hF4.mono (by omega)))
          have z4 := hF4.size
          have R4 := Lib.hid hR4
          clear hF4 hR4 hr
          cases hr0 : (r == 0)
          · go_wp2_with fail
            have R4' := Lib.hid (R4.out.fr ((Fr.refl w4.heap.size none w4).alloc (Nat.le_refl _) (.cells #[.int .i64 (-1), .int .i64 101] 3)) (by omega) (by simp))
            have O4' := Lib.hid (O4.out.alloc (.cells #[.int .i64 (-1), .int .i64 101] 3))
            have G4' := Lib.hid (G4.out.alloc (by omega) (.cells #[.int .i64 (-1), .int .i64 101] 3))
            have c0 : (w4.alloc (.cells #[.int .i64 (-1), .int .i64 101] 3)).cell? ⟨w4.heap.size, 0, none⟩ = some (.int .i64 (-1)) := by rw [World.cell?_alloc_at _ _ _ _ rfl]; rfl
            have c1 : (w4.alloc (.cells #[.int .i64 (-1), .int .i64 101] 3)).cell? ⟨w4.heap.size, 1, none⟩ = some (.int .i64 101) := by rw [World.cell?_alloc_at _ _ _ _ rfl]; rfl
            have s4 : w4.heap.size < (w4.alloc (.cells #[.int .i64 (-1), .int .i64 101] 3)).heap.size := by simp
            refine (pick_any B _ _ _ R4'.out (by omega)).mono ?_; rintro e w5 ⟨q, rfl, hq, hR5, hF5⟩
            have O5 := Lib.hid (own_past O4'.out hF5 hBl)
            have G5 := Lib.hid (G4'.out.trans (hF5.mono (by omega)))
            have z5 := hF5.size
            have R5 := Lib.hid hR5
            have d0 : w5.cell? ⟨w4.heap.size, 0, none⟩ = some (.int .i64 (-1)) := (hF5.cell (p := ⟨w4.heap.size, 0, none⟩) s4 (by simp; omega)).trans c0
            have d1 : w5.cell? ⟨w4.heap.size, 1, none⟩ = some (.int .i64 101) := (hF5.cell (p := ⟨w4.heap.size, 1, none⟩) s4 (by simp; omega)).trans c1
            obtain ⟨q1, q2, _⟩ := hq
            have q2 := q2 (by omega)
            clear hF5 hR5 c0 c1 hr0
            have hx5 := O5.out
            obtain ⟨g, rfl⟩ : ∃ g, ao = some ⟨g, 0, none⟩ := by
              rcases hx5.2 with ⟨h', h0⟩ | ⟨g, cap', cur, h', _⟩
              · omega
              · simp only [Value.slice.injEq] at h'; exact ⟨g, h'.1⟩
            have hg := own_lt hx5 g rfl
            obtain ⟨v0, hc2⟩ : ∃ v, w5.cell? ⟨g, 0, none⟩ = some v := by
              rw [hx5.cellAt 0 (by omega), List.getElem?_eq_getElem (by rw [ints_length]; omega)]; exact ⟨_, rfl⟩
            have hf2 := hx5.frozenAt 0
            have fin : ∀ y : Int, (-((1 : Nat) : Int)) ≤ y ∧ y ≤ ((101 : Nat) : Int) → RdInts B N 13 1 101 w (.returned (.slice (some ⟨g, 0, none⟩) xs.length co)) (w5.setCell ⟨g, 0, none⟩ (.int .i64 y)) := by
              intro y hy
              have hst := (hx5.stored 0 (.int .i64 y)).1
              have e : (ints xs).set 0 (.int .i64 y) = ints (xs.set 0 y) := by simp [ints]
              rw [e] at hst
              refine ⟨some ⟨g, 0, none⟩, co, xs.set 0 y, by simp, by simpa using hst, by simp; omega, ?_, ?_, G5.out.setCell (.inl hg.1) _⟩
              · intro x hx
                rcases List.mem_or_eq_of_mem_set hx with h | h
                · exact hbd.out x h
                · rw [h]; exact hy
              · exact (R5.out.fr ((Fr.refl w5.heap.size (some g) w5).setCell (p := ⟨g, 0, none⟩) (.inr rfl) _) (by simp at z5; omega) (by intro k hk; cases hk; omega)).mono (by omega)
            have FIN := Lib.hid fin; clear fin hx5 z5
            have hq3 : q = 0 ∨ q = 1 := by omega
            clear q1 q2
            rcases hq3 with rfl | rfl
            · go_wp2
              go_ret
              exact FIN.out (-1) ⟨by omega, by omega⟩
            · go_wp2
              go_ret
              exact FIN.out 101 ⟨by omega, by omega⟩
          · obtain ⟨w5, hr, ho, hF⟩ := MK.out w4
            have HN := Lib.hid (own_base ho (by omega : w.heap.size ≤ w4.heap.size))
            have HR5 := Lib.hid (R4.out.fr hF (by omega) (by simp))
            have G5 := Lib.hid (G4.out.trans ((hF.mono (by omega)).weak _))
            clear ho hF
            go_wp2
            go_ret
            exact ⟨_, _, List.replicate 13 0, rfl, HN.out, by simp, HREP.out, HR5.out.mono (by omega), G5.out⟩
end Go.Proofs.Ytoedenmimcmkoaa
