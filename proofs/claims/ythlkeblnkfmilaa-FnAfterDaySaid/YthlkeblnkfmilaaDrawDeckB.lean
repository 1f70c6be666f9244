/-
  Contracts: l20Answers and the draws of decks.
-/
import Derived.Test.YthlkeblnkfmilaaDrawDeck
import Derived.Test.YthlkeblnkfmilaaApp
namespace Go.Proofs.Ythlkeblnkfmilaa
open Go.RowKit

/-- A new slice of noughts and ones is drawn with the reader B. -/
def RdAns (B N m : Nat) (w : World) (e : Ending) (w' : World) : Prop :=
  ∃ a cap, ∃ xs : List Int, e = .returned (.slice a xs.length cap) ∧ w'.ownsRow w.heap.size 3 1 (.slice a xs.length cap) xs.length (ints xs) ∧ xs.length ≤ m ∧ Rdr w' B (N + 200) ∧ Fr w.heap.size (some B) w w'

set_option maxHeartbeats 1000000 in
theorem l20Answers_any (B N : Nat) (d : Option Addr) (dn dc : Nat) (w : World) (h : Rdr w B N) (hN : N ≤ 1000000) (hd : dn ≤ 12) :
    Calls Try.prog 64 #[.pointer (some ⟨B, 0, none⟩), .slice d dn dc] w (RdAns B N 13 w) := by
  have hBl := h.lt
  have HR0 := Lib.hid h; clear h
  go_enter Try.func64, Try.ntmps64
  go_wp2
  go_loopw [5, 6] (fun v k wr => ∃ (a : Option Addr) (c : Nat) (xs : List Int), v = .slice a xs.length c ∧ k = .int .i64 xs.length ∧ xs.length ≤ dn ∧ wr.ownsRow w.heap.size 3 1 (.slice a xs.length c) xs.length (ints xs) ∧ Hid (Rdr wr B (N + xs.length)) ∧ Fr w.heap.size (some B) w wr) (fun _ k _ => dn - (intOf k).toNat)
  case atStart => exact ⟨some ⟨w.heap.size, 0, none⟩, 0, [], rfl, rfl, Nat.zero_le _, World.ownsRow_made (e := 3) (size := 1) (base := w.heap.size) w #[] 0 (Nat.le_refl _) (by simp [maxLen]) (by simp), HR0.out.fr ((Fr.refl w.heap.size none w).alloc (Nat.le_refl _) _) hBl (by simp), (Fr.refl w.heap.size (some B) w).alloc (Nat.le_refl _) _⟩
  case round =>
    obtain ⟨ao, co, xs, rfl, rfl, hi, ho, hR, hF⟩ := hrel
    have HO := Lib.hid ho; have HF := Lib.hid hF; have hz := hF.size; clear ho hF
    have hO := own_lt HO.out
    have step : ∀ (y : Int) (w5 : World) (v' : Value) (w' : World), Rdr w5 B (N + xs.length + 1) → Fr w.heap.size (some B) w w5 → w5.ownsRow w.heap.size 3 1 (.slice ao xs.length co) xs.length (ints xs) → w'.ownsRow w.heap.size 3 1 v' (xs.length + 1) (ints xs ++ [.int .i64 y]) → Fr w5.heap.size (Value.slice ao xs.length co).ownBlock w5 w' →
        ∃ a' c', v' = .slice a' (xs ++ [y]).length c' ∧ w'.ownsRow w.heap.size 3 1 (.slice a' (xs ++ [y]).length c') (xs ++ [y]).length (ints (xs ++ [y])) ∧ Hid (Rdr w' B (N + xs.length + 1)) ∧ Fr w.heap.size (some B) w w' := by
      intro y w5 v' w' hR5 hG5 hO5 ho' hF'
      obtain ⟨a', c', rfl, _, _⟩ := own_slice ho'
      have hl : (xs ++ [y]).length = xs.length + 1 := by simp
      have hz5 := hG5.size
      refine ⟨a', c', by rw [hl], by rw [hl, ints_append]; exact ho', ?_, ?_⟩
      · exact hR5.fr hF' (by omega) (by intro g hg; have := own_lt hO5 g hg; omega)
      · exact hG5.trans ((hF'.up (B' := w.heap.size) hz5 (by intro g hg; exact (own_lt hO5 g hg).1)).weak _)
    have ST := Lib.hid step; clear step
    by_cases hlt : xs.length < dn
    · have hlt' : (xs.length : Int) < (dn : Int) := by omega
      go_wp2_with fail
      refine (pick_any B _ _ _ hR.out (by omega)).mono ?_; rintro e w5 ⟨x1, rfl, hx1, hR5, hF5⟩
      have O5 := Lib.hid (own_past HO.out hF5 hBl)
      have G5 := Lib.hid (HF.out.trans (hF5.mono hz))
      have z5 := hF5.size
      have R5 := Lib.hid hR5
      clear hF5 hR5 hx1
      go_wp2_with (at_builtin; refine app1 38 3 (.int .i64 0) 1 8 Try.underlying38 infoInt rfl (by decide) (by decide) rfl _ _ rfl [.int .i64 x1] O5.out rfl rfl rfl (by simp [Value.oneCell']) (by omega) (by omega) ?_; intro v' w' ho' hF')
      obtain ⟨a', c', rfl, h1, h4, h5⟩ := ST.out x1 w5 v' w' R5.out G5.out O5.out ho' hF'
      have H1 := Lib.hid h1; have H5 := Lib.hid h5; clear h1 h5 ho' hF'
      go_wp2
      go_roundw
      case rel => exact ⟨a', c', xs ++ [x1], rfl, by first | (go_num; done) | (simp; done) | (simp; omega), by simp; omega, H1.out, h4.out.mono (by simp; omega), H5.out⟩
      case measure => simp [intOf]; omega
    · have hge : (dn : Int) ≤ (xs.length : Int) := by omega
      go_wp2_with fail
      refine (odd_any B _ _ _ hR.out (by omega) (by omega)).mono ?_; rintro e w5 ⟨bo, rfl, _, hR5, hF5⟩
      have O5 := Lib.hid (own_past HO.out hF5 hBl)
      have G5 := Lib.hid (HF.out.trans (hF5.mono hz))
      have z5 := hF5.size
      have R5 := Lib.hid hR5
      clear hF5 hR5
      cases bo
      · go_wp2
        go_ret
        exact ⟨_, _, xs, rfl, O5.out, by omega, R5.out.mono (by omega), G5.out⟩
      · go_wp2_with (at_builtin; refine app1 38 3 (.int .i64 0) 1 8 Try.underlying38 infoInt rfl (by decide) (by decide) rfl _ _ rfl [.int .i64 1] O5.out rfl rfl rfl (by simp [Value.oneCell']) (by omega) (by omega) ?_; intro v' w' ho' hF')
        obtain ⟨a', c', rfl, h1, h4, h5⟩ := ST.out 1 w5 v' w' (R5.out.mono (by omega)) G5.out O5.out ho' hF'
        have H1 := Lib.hid h1; have H5 := Lib.hid h5; clear h1 h5 ho' hF'
        go_wp2
        go_ret
        exact ⟨a', c', xs ++ [1], by simp, H1.out, by simp; omega, h4.out.mono (by omega), H5.out⟩

/-- A deck is drawn. -/
def DrawnDeck (w : World) (e : Ending) (w' : World) : Prop :=
  ∃ a cap, ∃ xs : List (Int × Int), e = .returned (.slice a xs.length cap) ∧ w'.ownsRow w.heap.size 54 2 (.slice a xs.length cap) xs.length (cards xs) ∧ xs.length ≤ 9 ∧ Fr w.heap.size none w w'

theorem drawDeckOk_any (a : Option Addr) (cap : Nat) (bs : List Int) (w : World) (hs : Sl w a (u8s bs)) (hb : ∀ x ∈ bs, 0 ≤ x ∧ x ≤ 255) (hn : bs.length ≤ 1048576) (hcap : bs.length ≤ cap) :
    Calls Try.prog 24 #[.slice a bs.length cap] w (DrawnDeck w) := by
  have HS := Lib.hid hs; have HB := Lib.hid hb; clear hs hb
  go_enter Try.func24, Try.ntmps24
  go_wp2_with fail
  refine (l20Open_any a cap bs _ HS.out HB.out hn hcap).mono ?_; rintro e w1 ⟨B, rfl, hB, hR, hF⟩
  go_wp2_with fail
  refine (l20Deck_any B 0 _ _ hR (by omega) (by omega)).mono ?_; rintro e w2 ⟨va, vc, xs, rfl, ho, hl, hR2, hF2⟩
  have HF := Lib.hid (hF.trans (hF2.up (B' := w.heap.size) hF.size (by intro g hg; cases hg; exact hB)))
  have HO := Lib.hid (own_base ho hF.size)
  clear hF hF2 hR hR2 ho
  go_wp2
  go_ret
  exact ⟨_, _, xs, rfl, HO.out, hl, HF.out⟩
theorem drawInBoxes_any (a : Option Addr) (cap : Nat) (bs : List Int) (w : World) (hs : Sl w a (u8s bs)) (hb : ∀ x ∈ bs, 0 ≤ x ∧ x ≤ 255) (hn : bs.length ≤ 1048576) (hcap : bs.length ≤ cap) :
    Calls Try.prog 29 #[.slice a bs.length cap] w (DrawnDeck w) := by
  have HS := Lib.hid hs; have HB := Lib.hid hb; clear hs hb
  go_enter Try.func29, Try.ntmps29
  go_wp2_with fail
  refine (l20Open_any a cap bs _ HS.out HB.out hn hcap).mono ?_; rintro e w1 ⟨B, rfl, hB, hR, hF⟩
  go_wp2_with fail
  refine (l20Deck_any B 0 _ _ hR (by omega) (by omega)).mono ?_; rintro e w2 ⟨va, vc, xs, rfl, ho, hl, hR2, hF2⟩
  have HF := Lib.hid (hF.trans (hF2.up (B' := w.heap.size) hF.size (by intro g hg; cases hg; exact hB)))
  have HO := Lib.hid (own_base ho hF.size)
  clear hF hF2 hR hR2 ho
  go_wp2
  go_ret
  exact ⟨_, _, xs, rfl, HO.out, hl, HF.out⟩

/-- A twentieth part. -/
theorem one_of {q : Int} (h0 : 0 ≤ q) (h1 : q < 20) : q.tdiv 19 = 0 ∨ q.tdiv 19 = 1 := by
  obtain ⟨n, rfl⟩ := Int.eq_ofNat_of_zero_le h0
  have : n < 20 := by omega
  have e : (Int.ofNat n).tdiv 19 = ((n / 19 : Nat) : Int) := rfl
  rw [show ((n : Nat) : Int).tdiv 19 = ((n / 19 : Nat) : Int) from e]; omega
theorem one_of' {q : Int} (h0 : 0 ≤ q) (h1 : q < 20) : 0 ≤ q / 19 ∧ q / 19 ≤ 1 := by omega

/-- A deck and a day are drawn. -/
def DrawnDeckDay (w : World) (e : Ending) (w' : World) : Prop :=
  ∃ a cap, ∃ xs : List (Int × Int), ∃ d : Int, e = .returned (.tuple #[.slice a xs.length cap, .int .i64 d]) ∧ w'.ownsRow w.heap.size 54 2 (.slice a xs.length cap) xs.length (cards xs) ∧ xs.length ≤ 9 ∧ -1000 ≤ d ∧ d ≤ 1000 ∧ Fr w.heap.size none w w'
theorem drawDueOn_any (a : Option Addr) (cap : Nat) (bs : List Int) (w : World) (hs : Sl w a (u8s bs)) (hb : ∀ x ∈ bs, 0 ≤ x ∧ x ≤ 255) (hn : bs.length ≤ 1048576) (hcap : bs.length ≤ cap) :
    Calls Try.prog 39 #[.slice a bs.length cap] w (DrawnDeckDay w) := by
  have HS := Lib.hid hs; have HB := Lib.hid hb; clear hs hb
  go_enter Try.func39, Try.ntmps39
  go_wp2_with fail
  refine (l20Open_any a cap bs _ HS.out HB.out hn hcap).mono ?_; rintro e w1 ⟨B, rfl, hB, hR, hF⟩
  have z1 := hF.size
  go_wp2_with fail
  refine (l20Deck_any B 0 _ _ hR (by omega) (by omega)).mono ?_; rintro e w2 ⟨va, vc, xs, rfl, ho, hl, hR2, hF2⟩
  have HF := Lib.hid (hF.trans (hF2.up (B' := w.heap.size) hF.size (by intro g hg; cases hg; exact hB)))
  have z2 := hF2.size
  have hBl := hR.lt
  have HO := Lib.hid ho
  clear hF hF2 hR ho
  go_wp2_with fail
  refine (pick_any B _ _ _ hR2 (by omega)).mono ?_; rintro e w3 ⟨p3, rfl, hp3, hR3, hF3⟩
  have HF3 := Lib.hid (HF.out.trans (hF3.up (B' := w.heap.size) (by omega) (by intro g hg; cases hg; exact hB)))
  have HO3 := Lib.hid (own_past HO.out hF3 hBl)
  have z3 := hF3.size
  obtain ⟨a3, b3, _⟩ := hp3
  have c3 := b3 (by omega)
  clear hF3 hR2 b3
  go_wp2_with fail
  refine (pick_any B _ _ _ hR3 (by omega)).mono ?_; rintro e w4 ⟨p4, rfl, hp4, hR4, hF4⟩
  have HF4 := Lib.hid (HF3.out.trans (hF4.up (B' := w.heap.size) (by omega) (by intro g hg; cases hg; exact hB)))
  have HO4 := Lib.hid (own_past HO3.out hF4 hBl)
  have z4 := hF4.size
  obtain ⟨a4, b4, _⟩ := hp4
  have c4 := b4 (by omega)
  have d4 := one_of' a4 c4
  clear hF4 hR3 b4
  go_wp2_with fail
  refine (pick_any B _ _ _ hR4 (by omega)).mono ?_; rintro e w5 ⟨p5, rfl, hp5, hR5, hF5⟩
  have HF5 := Lib.hid (HF4.out.trans (hF5.up (B' := w.heap.size) (by omega) (by intro g hg; cases hg; exact hB)))
  have HO5 := Lib.hid (own_base (own_past HO4.out hF5 hBl) z1)
  obtain ⟨a5, b5, _⟩ := hp5
  have c5 := b5 (by omega)
  have d5 := one_of' a5 c5
  clear hF5 hR4 hR5 b5
  go_wp2
  go_ret2
  exact ⟨_, _, xs, _, rfl, HO5.out, hl, by omega, by omega, HF5.out⟩

/-- A deck, a day and answers are drawn. -/
def DrawnDay (w : World) (e : Ending) (w' : World) : Prop :=
  ∃ a cap, ∃ xs : List (Int × Int), ∃ d : Int, ∃ b cb, ∃ ks : List Int, e = .returned (.tuple #[.slice a xs.length cap, .int .i64 d, .slice b ks.length cb]) ∧ w'.ownsRow w.heap.size 54 2 (.slice a xs.length cap) xs.length (cards xs) ∧ xs.length ≤ 9 ∧ -1000 ≤ d ∧ d ≤ 1000 ∧
    w'.ownsRow w.heap.size 3 1 (.slice b ks.length cb) ks.length (ints ks) ∧ ks.length ≤ 13 ∧ Fr w.heap.size none w w'
theorem drawAfterDay_any (a : Option Addr) (cap : Nat) (bs : List Int) (w : World) (hs : Sl w a (u8s bs)) (hb : ∀ x ∈ bs, 0 ≤ x ∧ x ≤ 255) (hn : bs.length ≤ 1048576) (hcap : bs.length ≤ cap) :
    Calls Try.prog 44 #[.slice a bs.length cap] w (DrawnDay w) := by
  have HS := Lib.hid hs; have HB := Lib.hid hb; clear hs hb
  go_enter Try.func44, Try.ntmps44
  go_wp2_with fail
  refine (l20Open_any a cap bs _ HS.out HB.out hn hcap).mono ?_; rintro e w1 ⟨B, rfl, hB, hR, hF⟩
  have z1 := hF.size
  go_wp2_with fail
  refine (l20Deck_any B 0 _ _ hR (by omega) (by omega)).mono ?_; rintro e w2 ⟨va, vc, xs, rfl, ho, hl, hR2, hF2⟩
  have HF := Lib.hid (hF.trans (hF2.up (B' := w.heap.size) hF.size (by intro g hg; cases hg; exact hB)))
  have z2 := hF2.size
  have hBl := hR.lt
  have HO := Lib.hid ho
  clear hF hF2 hR ho
  go_wp2_with fail
  refine (pick_any B _ _ _ hR2 (by omega)).mono ?_; rintro e w3 ⟨p3, rfl, hp3, hR3, hF3⟩
  have HF3 := Lib.hid (HF.out.trans (hF3.up (B' := w.heap.size) (by omega) (by intro g hg; cases hg; exact hB)))
  have HO3 := Lib.hid (own_past HO.out hF3 hBl)
  have z3 := hF3.size
  obtain ⟨a3, b3, _⟩ := hp3
  have c3 := b3 (by omega)
  clear hF3 hR2 b3
  go_wp2_with fail
  refine (pick_any B _ _ _ hR3 (by omega)).mono ?_; rintro e w4 ⟨p4, rfl, hp4, hR4, hF4⟩
  have HF4 := Lib.hid (HF3.out.trans (hF4.up (B' := w.heap.size) (by omega) (by intro g hg; cases hg; exact hB)))
  have HO4 := Lib.hid (own_past HO3.out hF4 hBl)
  have z4 := hF4.size
  obtain ⟨a4, b4, _⟩ := hp4
  have c4 := b4 (by omega)
  have d4 := one_of' a4 c4
  clear hF4 hR3 b4
  go_wp2_with fail
  refine (l20Answers_any B _ _ _ _ _ hR4 (by omega) (by omega)).mono ?_; rintro e w5 ⟨ka, kc, ks, rfl, ko, kl, hR5, hF5⟩
  have HF5 := Lib.hid (HF4.out.trans (hF5.up (B' := w.heap.size) (by omega) (by intro g hg; cases hg; exact hB)))
  have HO5 := Lib.hid (own_base (own_past HO4.out hF5 hBl) z1)
  have KO := Lib.hid (own_base ko (by omega : w.heap.size ≤ w4.heap.size))
  clear hF5 hR4 hR5 ko
  go_wp2
  go_ret3
  exact ⟨_, _, xs, _, _, _, ks, rfl, HO5.out, hl, by omega, by omega, KO.out, kl, HF5.out⟩
end Go.Proofs.Ythlkeblnkfmilaa
