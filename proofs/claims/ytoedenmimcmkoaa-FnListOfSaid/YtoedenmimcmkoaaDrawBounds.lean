/-
  Contracts: l20Bounds.
-/
import Derived.Test.YtoedenmimcmkoaaDrawMarks
namespace Go.Proofs.Ytoedenmimcmkoaa
open Go.RowKit

set_option maxHeartbeats 1000000 in
theorem l20Bounds_any (B N : Nat) (n : Int) (w : World) (h : Rdr w B N) (hN : N ≤ 1000000) (hn : n ≤ 1000000) :
    Calls Try.prog 53 #[.pointer (some ⟨B, 0, none⟩), .int .i64 n] w (RdInts B N 13 1 101 w) := by
  have hBl := h.lt
  have HR0 := Lib.hid h; clear h
  go_enter Try.func53, Try.ntmps53
  go_wp2_with fail
  refine (pick_any B N _ _ (HR0.out.fr ((Fr.refl w.heap.size none w).alloc (Nat.le_refl _) _) hBl (by simp)) (by omega)).mono ?_; rintro e w2 ⟨k0, rfl, hk0, hR2, hF1⟩
  have O2 := Lib.hid (own_past (World.ownsRow_made (e := 3) (size := 1) (base := w.heap.size) w #[] 0 (Nat.le_refl _) (by simp [maxLen]) (by simp)) hF1 hBl)
  have G2 := Lib.hid ((((Fr.refl w.heap.size (some B) w).alloc (Nat.le_refl _) _)).trans (hF1.mono (by simp)))
  have z1 := hF1.size
  have z1' : w.heap.size + 1 ≤ w2.heap.size := by simpa using z1
  obtain ⟨hk1, hk2, _⟩ := hk0
  have hk3 := hk2 (by omega)
  have R2 := Lib.hid hR2
  clear hF1 z1 hR2 hk2
  obtain ⟨kn, rfl⟩ := Int.eq_ofNat_of_zero_le hk1
  go_wp2
  go_loopw [5, 6, 7] (fun v nw k wr => ∃ (i : Nat) (now : Int) (a : Option Addr) (c : Nat) (xs : List Int), v = .slice a xs.length c ∧ nw = .int .i64 now ∧ k = .int .i64 i ∧ 0 ≤ now ∧ now ≤ 101 ∧ i ≤ 5 ∧ xs.length + i ≤ 5 ∧ wr.ownsRow w.heap.size 3 1 (.slice a xs.length c) xs.length (ints xs) ∧ Hid (∀ x ∈ xs, (-((1 : Nat) : Int)) ≤ x ∧ x ≤ ((101 : Nat) : Int)) ∧ Hid (Rdr wr B (N + 1 + xs.length)) ∧ Fr w.heap.size (some B) w wr ∧ w.heap.size < wr.heap.size) (fun _ _ k _ => (intOf k).toNat)
  case atStart => exact ⟨kn, 101, some ⟨w.heap.size, 0, none⟩, 0, [], rfl, rfl, rfl, by omega, by omega, by omega, by simp; omega, O2.out, by intro x hx; simp at hx, R2.out, G2.out, by omega⟩
  case round =>
    obtain ⟨i, now, ao, co, xs, rfl, rfl, rfl, hn0, hn1, hi, hji, ho, hbd, hR, hF, hsz⟩ := hrel
    have HO := Lib.hid ho; have HF := Lib.hid hF; clear ho hF
    have after : ∀ (w3 : World) (b : Bool), True := fun _ _ => trivial
    clear after
    by_cases hi0 : 0 < i ∧ 0 < now
    · obtain ⟨hi0, hnow⟩ := hi0
      go_wp2_with fail
      all_goals
        refine (pick_any B _ _ _ hR.out (by omega)).mono ?_; rintro e w3 ⟨x, rfl, hx, hR3, hF3⟩
        have O3 := Lib.hid (own_past HO.out hF3 hBl)
        have G3 := Lib.hid (HF.out.trans (hF3.mono (by omega)))
        have z3 := hF3.size
        obtain ⟨p1, p2, _⟩ := hx
        have p3 := p2 (by omega)
        have p4 : x < now := by omega
        have R3 := Lib.hid hR3
        clear hF3 hR3 p2
        go_wp2_with (at_builtin; refine app1 23 3 (.int .i64 0) 1 8 Try.underlying23 infoInt rfl (by decide) (by decide) rfl _ _ rfl [.int .i64 (now - 1 - x)] O3.out rfl rfl rfl (by simp [Value.oneCell']) (by omega) (by omega) ?_; intro v' w' ho' hF')
        obtain ⟨a', c', rfl, _, _⟩ := own_slice ho'
        have hO3 := own_lt O3.out
        have hl : (xs ++ [now - 1 - x]).length = xs.length + 1 := by simp
        have z5 := hF'.size
        have H1 : Hid (w'.ownsRow w.heap.size 3 1 (.slice a' (xs ++ [now - 1 - x]).length c') (xs ++ [now - 1 - x]).length (ints (xs ++ [now - 1 - x]))) := by rw [hl, ints_append]; exact ho'
        have H2 := Lib.hid (bd_snoc hbd.out (y := now - 1 - x) ⟨by omega, by omega⟩)
        have H3 : Hid (Rdr w' B (N + 1 + (xs ++ [now - 1 - x]).length)) := (R3.out.fr hF' (by omega) (fun g hg => by have := hO3 g hg; omega)).mono (by omega)
        have H4 := Lib.hid (G3.out.trans (hF'.up (by omega) (fun g hg => (hO3 g hg).1) |>.weak _))
        have HL := Lib.hid hl
        clear ho' hF' hO3 hl
        go_wp2
        go_roundw
        case rel => exact ⟨i - 1, now - 1 - x, a', c', _, by rw [HL.out], rfl, by go_num, by omega, by omega, by omega, by rw [HL.out]; omega, H1.out, H2.out, H3, H4.out, by omega⟩
        case measure => simp [intOf]; omega
    · have tail : ∀ wx, Fr w.heap.size (some B) w wx → wx.ownsRow w.heap.size 3 1 (.slice ao xs.length co) xs.length (ints xs) → Rdr wx B (N + 2 + xs.length) → w.heap.size < wx.heap.size →
          RdInts B N 13 1 101 w (.returned (.slice ao xs.length co)) wx := fun wx h1 h2 h3 h4 => ⟨_, _, xs, rfl, h2, by omega, hbd.out, h3.mono (by omega), h1⟩
      have TAIL := Lib.hid tail; clear tail
      have hor : (0 < i ∧ now ≤ 0) ∨ ((i : Int) ≤ 0) := by omega
      clear hi0
      rcases hor with ⟨hk0, hnow⟩ | hi1
      all_goals
        go_wp2_with fail
        refine (odd_any B _ _ _ hR.out (by omega) hn).mono ?_; rintro e w3 ⟨bo, rfl, _, hR3, hF3⟩
        have O3 := Lib.hid (own_past HO.out hF3 hBl)
        have G3 := Lib.hid (HF.out.trans (hF3.mono (by omega)))
        have z3 := hF3.size
        have R3 := Lib.hid (hR3.mono (by omega : N + 1 + xs.length + 1 ≤ N + 2 + xs.length))
        clear hF3 hR3
        cases bo
        · go_wp2
          go_ret
          exact TAIL.out _ G3.out O3.out R3.out (by omega)
        · go_wp2_with fail
          have O4 := Lib.hid (O3.out.alloc (.cells #[.int .i64 101, .int .i64 100, .int .i64 (-1)] 3))
          have G4 := Lib.hid (G3.out.alloc (by omega) (.cells #[.int .i64 101, .int .i64 100, .int .i64 (-1)] 3))
          have R4 := Lib.hid (R3.out.fr ((Fr.refl w3.heap.size none w3).alloc (Nat.le_refl _) (.cells #[.int .i64 101, .int .i64 100, .int .i64 (-1)] 3)) (by omega) (by simp))
          have c0 : (w3.alloc (.cells #[.int .i64 101, .int .i64 100, .int .i64 (-1)] 3)).cell? ⟨w3.heap.size, 0, none⟩ = some (.int .i64 101) := by rw [World.cell?_alloc_at _ _ _ _ rfl]; rfl
          have c1 : (w3.alloc (.cells #[.int .i64 101, .int .i64 100, .int .i64 (-1)] 3)).cell? ⟨w3.heap.size, 1, none⟩ = some (.int .i64 100) := by rw [World.cell?_alloc_at _ _ _ _ rfl]; rfl
          have c2 : (w3.alloc (.cells #[.int .i64 101, .int .i64 100, .int .i64 (-1)] 3)).cell? ⟨w3.heap.size, 2, none⟩ = some (.int .i64 (-1)) := by rw [World.cell?_alloc_at _ _ _ _ rfl]; rfl
          have s4 : w3.heap.size < (w3.alloc (.cells #[.int .i64 101, .int .i64 100, .int .i64 (-1)] 3)).heap.size := by simp
          refine (pick_any B _ _ _ R4.out (by omega)).mono ?_; rintro e w5 ⟨q, rfl, hq, hR5, hF5⟩
          have O5 := Lib.hid (own_past O4.out hF5 hBl)
          have G5 := Lib.hid (G4.out.trans (hF5.mono (by omega)))
          have z5 := hF5.size
          have R5 := Lib.hid hR5
          have d0 : w5.cell? ⟨w3.heap.size, 0, none⟩ = some (.int .i64 101) := (hF5.cell (p := ⟨w3.heap.size, 0, none⟩) s4 (by simp; omega)).trans c0
          have d1 : w5.cell? ⟨w3.heap.size, 1, none⟩ = some (.int .i64 100) := (hF5.cell (p := ⟨w3.heap.size, 1, none⟩) s4 (by simp; omega)).trans c1
          have d2 : w5.cell? ⟨w3.heap.size, 2, none⟩ = some (.int .i64 (-1)) := (hF5.cell (p := ⟨w3.heap.size, 2, none⟩) s4 (by simp; omega)).trans c2
          have hz5 : w.heap.size < w5.heap.size := by omega
          have fin : ∀ (y : Int) (v' : Value) (w' : World), (-((1 : Nat) : Int)) ≤ y ∧ y ≤ ((101 : Nat) : Int) → w'.ownsRow w.heap.size 3 1 v' (xs.length + 2) (ints xs ++ [.int .i64 y, .int .i64 100]) → Fr w5.heap.size (Value.slice ao xs.length co).ownBlock w5 w' →
              ∃ a' c', v' = .slice a' (xs.length + 2) c' ∧ RdInts B N 13 1 101 w (.returned (.slice a' (xs.length + 2) c')) w' := by
            intro y v' w' hy ho' hF'
            obtain ⟨a', c', rfl, _, _⟩ := own_slice ho'
            have hl : (xs ++ [y, 100]).length = xs.length + 2 := by simp
            have hO5 := own_lt O5.out
            refine ⟨a', c', rfl, a', c', xs ++ [y, 100], by rw [hl], by rw [hl, ints_append]; exact ho', by rw [hl]; omega, ?_, ?_, ?_⟩
            · intro x hx
              rcases List.mem_append.1 hx with hx | hx
              · exact hbd.out x hx
              · simp at hx; rcases hx with rfl | rfl <;> omega
            · exact (R5.out.fr hF' (by omega) (fun g hg => by have := hO5 g hg; omega)).mono (by omega)
            · exact G5.out.trans (hF'.up (by omega) (fun g hg => (hO5 g hg).1) |>.weak _)
          have FIN := Lib.hid fin
          clear hF5 hR5 c0 c1 c2 s4 fin
          rcases kind3 hq with rfl | rfl | rfl
          · clear hq
            go_wp2_with (at_builtin; refine appMg 23 3 (.int .i64 0) 1 8 Try.underlying23 infoInt rfl (by decide) (by decide) rfl _ _ rfl 2 [.int .i64 101, .int .i64 100] O5.out rfl _ rfl rfl rfl (by simp [Value.oneCell']) (by omega) (by omega) ?_; intro v' w' ho' hF')
            obtain ⟨a', c', rfl, h1⟩ := FIN.out 101 v' w' ⟨by omega, by omega⟩ ho' hF'
            have H1 := Lib.hid h1; clear h1 ho' hF'
            go_wp2
            go_ret
            exact H1.out
          · clear hq
            go_wp2_with (at_builtin; refine appMg 23 3 (.int .i64 0) 1 8 Try.underlying23 infoInt rfl (by decide) (by decide) rfl _ _ rfl 2 [.int .i64 100, .int .i64 100] O5.out rfl _ rfl rfl rfl (by simp [Value.oneCell']) (by omega) (by omega) ?_; intro v' w' ho' hF')
            obtain ⟨a', c', rfl, h1⟩ := FIN.out 100 v' w' ⟨by omega, by omega⟩ ho' hF'
            have H1 := Lib.hid h1; clear h1 ho' hF'
            go_wp2
            go_ret
            exact H1.out
          · clear hq
            go_wp2_with (at_builtin; refine appMg 23 3 (.int .i64 0) 1 8 Try.underlying23 infoInt rfl (by decide) (by decide) rfl _ _ rfl 2 [.int .i64 (-1), .int .i64 100] O5.out rfl _ rfl rfl rfl (by simp [Value.oneCell']) (by omega) (by omega) ?_; intro v' w' ho' hF')
            obtain ⟨a', c', rfl, h1⟩ := FIN.out (-1) v' w' ⟨by omega, by omega⟩ ho' hF'
            have H1 := Lib.hid h1; clear h1 ho' hF'
            go_wp2
            go_ret
            exact H1.out
end Go.Proofs.Ytoedenmimcmkoaa
