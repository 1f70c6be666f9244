/-
  Contracts: l20Answers and the draws of decks.
-/
import Derived.Test.YtoedenmimcmkoaaDrawDeck
import Derived.Test.YtoedenmimcmkoaaApp
namespace Go.Proofs.Ytoedenmimcmkoaa
open Go.RowKit

/-- A new slice of noughts and ones is drawn with the reader B. -/
def RdAns (B N m : Nat) (w : World) (e : Ending) (w' : World) : Prop :=
  ∃ a cap, ∃ xs : List Int, e = .returned (.slice a xs.length cap) ∧ w'.ownsRow w.heap.size 3 1 (.slice a xs.length cap) xs.length (ints xs) ∧ xs.length ≤ m ∧ Rdr w' B (N + 200) ∧ Fr w.heap.size (some B) w w'

set_option maxHeartbeats 1000000 in
theorem l20Answers_any (B N : Nat) (d : Option Addr) (dn dc : Nat) (w : World) (h : Rdr w B N) (hN : N ≤ 1000000) (hd : dn ≤ 12) :
    Calls Try.prog 59 #[.pointer (some ⟨B, 0, none⟩), .slice d dn dc] w (RdAns B N 13 w) := by
  have hBl := h.lt
  have HR0 := Lib.hid h; clear h
  go_enter Try.func59, Try.ntmps59
  go_wp2
  go_loopw [5, 6] (fun v k wr => ∃ (a : Option Addr) (c : Nat) (xs : List Int), v = .slice a xs.length c ∧ k = .int .i64 xs.length ∧ xs.length ≤ dn ∧ wr.ownsRow w.heap.size 3 1 (.slice a xs.length c) xs.length (ints xs) ∧ Hid (Rdr wr B (N + xs.length)) ∧ Fr w.heap.size (some B) w wr) (fun _ k _ => dn - (intOf k).toNat)
  case atStart => exact ⟨some ⟨w.heap.size, 0, none⟩, 0, [], rfl, rfl, Nat.zero_le _, World.ownsRow_made (e := 3) (size := 1) (base := w.heap.size) w #[] 0 (Nat.le_refl _) (by simp [maxLen]) (by simp), HR0.out.fr ((Fr.refl w.heap.size none w).alloc (Nat.le_refl _) _) hBl (by simp), (Fr.refl w.heap.size (some B) w).alloc (Nat.le_refl _) _⟩
  case round =>
    obtain ⟨ao, co, xs, rfl, rfl, hi, ho, hR, hF⟩ := hrel
    have HO := Lib.hid ho; have HF := Lib.hid hF; have hz := hF.size; clear ho hF
    have hO := own_lt HO.out
    have step : ∀ (y : Int) (w5 : World) (v' : Value) (w' : World), Rdr w5 B (N + xs.length + 1) → Fr w.heap.size (some B) w w5 → w5.ownsRow w.heap.size 3 1 (.slice ao xs.length co) xs.length (ints xs) → w'.ownsRow w.heap.size 3 1 v' (xs.length + 1) (ints xs ++ [.int .i64 y]) → Fr w5.heap.size (Value.slice ao xs.length co).ownBlock w5 w' →
        ∃ a' c', v' = .slice a' (xs ++ [y]).length c' ∧ w'.ownsRow w.heap.size 3 1 (.slice a' (xs ++ [y]).length c') (xs ++ [y]).length (ints (xs ++ [y])) ∧ Hid (Rdr w' B (N + xs.length + 1)) ∧ Fr w.heap.size (some B) w w' := by
      intro y w5 v' w' hR5 hG5 hO5 ho' hF'
      obtain ⟨a', c', rfl, _, _⟩ := own_slice ho'
      have hl : (xs ++ [y]).length = xs.length + 1 := by simp
      have hz5 := hG5.size
      refine ⟨a', c', by rw [hl], by rw [hl, ints_append]; exact ho', ?_, ?_⟩
      · exact hR5.fr hF' (by omega) (by intro g hg; have := own_lt hO5 g hg; omega)
      · exact hG5.trans ((hF'.up (B' := w.heap.size) hz5 (by intro g hg; exact (own_lt hO5 g hg).1)).weak _)
    have ST := Lib.hid step; clear step
    by_cases hlt : xs.length < dn
    · have hlt' : (xs.length : Int) < (dn : Int) := by omega
      go_wp2_with fail
      refine (pick_any B _ _ _ hR.out (by omega)).mono ?_; rintro e w5 ⟨x1, rfl, hx1, hR5, hF5⟩
      have O5 := Lib.hid (own_past HO.out hF5 hBl)
      have G5 := Lib.hid (HF.out.trans (hF5.mono hz))
      have z5 := hF5.size
      have R5 := Lib.hid hR5
      clear hF5 hR5 hx1
      go_wp2_with (at_builtin; refine app1 23 3 (.int .i64 0) 1 8 Try.underlying23 infoInt rfl (by decide) (by decide) rfl _ _ rfl [.int .i64 x1] O5.out rfl rfl rfl (by simp [Value.oneCell']) (by omega) (by omega) ?_; intro v' w' ho' hF')
      obtain ⟨a', c', rfl, h1, h4, h5⟩ := ST.out x1 w5 v' w' R5.out G5.out O5.out ho' hF'
      have H1 := Lib.hid h1; have H5 := Lib.hid h5; clear h1 h5 ho' hF'
      go_wp2
      go_roundw
      case rel => exact ⟨a', c', xs ++ [x1], rfl, by first | (go_num; done) | (simp; done) | (simp; omega), by simp; omega, H1.out, h4.out.mono (by simp; omega), H5.out⟩
      case measure => simp [intOf]; omega
    · have hge : (dn : Int) ≤ (xs.length : Int) := by omega
      go_wp2_with fail
      refine (odd_any B _ _ _ hR.out (by omega) (by omega)).mono ?_; rintro e w5 ⟨bo, rfl, _, hR5, hF5⟩
      have O5 := Lib.hid (own_past HO.out hF5 hBl)
      have G5 := Lib.hid (HF.out.trans (hF5.mono hz))
      have z5 := hF5.size
      have R5 := Lib.hid hR5
      clear hF5 hR5
      cases bo
      · go_wp2
        go_ret
        exact ⟨_, _, xs, rfl, O5.out, by omega, R5.out.mono (by omega), G5.out⟩
      · go_wp2_with (at_builtin; refine app1 23 3 (.int .i64 0) 1 8 Try.underlying23 infoInt rfl (by decide) (by decide) rfl _ _ rfl [.int .i64 1] O5.out rfl rfl rfl (by simp [Value.oneCell']) (by omega) (by omega) ?_; intro v' w' ho' hF')
        obtain ⟨a', c', rfl, h1, h4, h5⟩ := ST.out 1 w5 v' w' (R5.out.mono (by omega)) G5.out O5.out ho' hF'
        have H1 := Lib.hid h1; have H5 := Lib.hid h5; clear h1 h5 ho' hF'
        go_wp2
        go_ret
        exact ⟨a', c', xs ++ [1], by simp, H1.out, by simp; omega, h4.out.mono (by omega), H5.out⟩

/-- A deck is drawn. -/
def DrawnDeck (w : World) (e : Ending) (w' : World) : Prop :=
  ∃ a cap, ∃ xs : List (Int × Int), e = .returned (.slice a xs.length cap) ∧ w'.ownsRow w.heap.size 63 2 (.slice a xs.length cap) xs.length (cards xs) ∧ xs.length ≤ 9 ∧ Fr w.heap.size none w w'

/-- A twentieth part. -/
theorem one_of {q : Int} (h0 : 0 ≤ q) (h1 : q < 20) : q.tdiv 19 = 0 ∨ q.tdiv 19 = 1 := by
  obtain ⟨n, rfl⟩ := Int.eq_ofNat_of_zero_le h0
  have : n < 20 := by omega
  have e : (Int.ofNat n).tdiv 19 = ((n / 19 : Nat) : Int) := rfl
  rw [show ((n : Nat) : Int).tdiv 19 = ((n / 19 : Nat) : Int) from e]; omega
theorem one_of' {q : Int} (h0 : 0 ≤ q) (h1 : q < 20) : 0 ≤ q / 19 ∧ q / 19 ≤ 1 := by omega

/-- A deck and a day are drawn. -/
def DrawnDeckDay (w : World) (e : Ending) (w' : World) : Prop :=
  ∃ a cap, ∃ xs : List (Int × Int), ∃ d : Int, e = .returned (.tuple #[.slice a xs.length cap, .int .i64 d]) ∧ w'.ownsRow w.heap.size 63 2 (.slice a xs.length cap) xs.length (cards xs) ∧ xs.length ≤ 9 ∧ -1000 ≤ d ∧ d ≤ 1000 ∧ Fr w.heap.size none w w'
/-- A deck, a day and answers are drawn. -/
def DrawnDay (w : World) (e : Ending) (w' : World) : Prop :=
  ∃ a cap, ∃ xs : List (Int × Int), ∃ d : Int, ∃ b cb, ∃ ks : List Int, e = .returned (.tuple #[.slice a xs.length cap, .int .i64 d, .slice b ks.length cb]) ∧ w'.ownsRow w.heap.size 63 2 (.slice a xs.length cap) xs.length (cards xs) ∧ xs.length ≤ 9 ∧ -1000 ≤ d ∧ d ≤ 1000 ∧
    w'.ownsRow w.heap.size 3 1 (.slice b ks.length cb) ks.length (ints ks) ∧ ks.length ≤ 13 ∧ Fr w.heap.size none w w'
end Go.Proofs.Ytoedenmimcmkoaa
