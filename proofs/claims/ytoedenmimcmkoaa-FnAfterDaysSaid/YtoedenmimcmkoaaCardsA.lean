/-
  Cards: contracts of the checks of decks.
-/
import Derived.Test.YtoedenmimcmkoaaRows2
import Derived.Test.YtoedenmimcmkoaaCore
namespace Go.Proofs.Ytoedenmimcmkoaa
open Go.RowKit

def cardF (c : Int × Int) : List Value := [.int .i64 c.1, .int .i64 c.2]
theorem cardF_len (c : Int × Int) : (cardF c).length = 2 := rfl
def cards (cs : List (Int × Int)) : List Value := rows cardF cs
theorem cards_length (cs : List (Int × Int)) : (cards cs).length = cs.length * 2 := rows_length cardF 2 cardF_len cs
theorem Sl.card {w : World} {a : Option Addr} {cs : List (Int × Int)} (h : Sl w a (cards cs)) (k : Nat) (hk : k < cs.length) :
    ∃ b off, a = some ⟨b, off, none⟩ ∧ w.cell? ⟨b, off + k * 2, none⟩ = some (.int .i64 (cs.getD k (0, 0)).1) ∧ w.cell? ⟨b, off + (k * 2 + 1), none⟩ = some (.int .i64 (cs.getD k (0, 0)).2) ∧ w.cell? ⟨b, off + k * 2 + 1, none⟩ = some (.int .i64 (cs.getD k (0, 0)).2) := by
  obtain ⟨b, off, ha, hc⟩ := h.row 2 cardF_len (by omega) k hk
  have h1 : w.cell? ⟨b, off + (k * 2 + 1), none⟩ = some (.int .i64 (cs.getD k (0, 0)).2) := by
    rw [hc 1 (by omega)]; simp [cardF, List.getD_eq_getElem?_getD, hk]
  refine ⟨b, off, ha, ?_, h1, by rw [Nat.add_assoc]; exact h1⟩
  have := hc 0 (by omega); rw [Nat.add_zero] at this; rw [this]; simp [cardF, List.getD_eq_getElem?_getD, hk]

def cardOk (c : Int × Int) : Bool := inB c.1 1 5 && inB c.2 0 216
def deckTo (cs : List (Int × Int)) (k : Nat) : Bool := (cs.take k).all cardOk
def deckOkB (cs : List (Int × Int)) : Bool := cs.all cardOk && decide (cs.length ≤ 8)

theorem deck_next {cs : List (Int × Int)} {k : Nat} (hk : k < cs.length) (h : deckTo cs k = true) (hc : cardOk (cs.getD k (0, 0)) = true) : deckTo cs (k + 1) = true := by
  unfold deckTo at *
  rw [List.take_succ_eq_append_getElem hk, List.all_append, h]
  simpa [List.getD_eq_getElem?_getD, hk] using hc
theorem deck_bad {cs : List (Int × Int)} {k : Nat} (hk : k < cs.length) (hc : cardOk (cs.getD k (0, 0)) = false) : false = deckOkB cs := by
  have : cs.all cardOk = false := by
    rw [List.all_eq_false]
    exact ⟨cs[k], List.getElem_mem hk, by simpa [List.getD_eq_getElem?_getD, hk] using hc⟩
  rw [deckOkB, this]; rfl
theorem deck_end {cs : List (Int × Int)} (h : deckTo cs cs.length = true) : decide (cs.length ≤ 8) = deckOkB cs := by
  unfold deckTo at h; rw [List.take_length] at h; rw [deckOkB, h]; rfl

theorem specDeckOk_any (a : Option Addr) (cap : Nat) (cs : List (Int × Int)) (w : World) (hs : Sl w a (cards cs)) (hm : cs.length ≤ 1048576) :
    Calls Try.prog 66 #[.slice a cs.length cap] w fun e w' => e = .returned (.bool (deckOkB cs)) ∧ w = w' := by
  have HC := Lib.hid hs; clear hs
  go_enter Try.func66, Try.ntmps66
  go_wp2
  go_loop [3] (fun i => ∃ k : Nat, k ≤ cs.length ∧ i = .int .i64 k ∧ Hid (deckTo cs k = true)) (fun i => cs.length - (intOf i).toNat)
  case atStart => exact ⟨0, Nat.zero_le _, rfl, rfl⟩
  case round =>
    obtain ⟨k, hk, rfl, hT⟩ := hrel
    by_cases hlt : k < cs.length
    · obtain ⟨b, off, rfl, hc0, hc1, hc2⟩ := HC.out.card k hlt
      have hbad := Lib.hid (deck_bad hlt)
      have hnext := Lib.hid (deck_next hlt hT.out)
      generalize cs.getD k (0, 0) = x at *
      obtain ⟨x1, x2⟩ := x
      cases h1 : inB x1 1 5
      · have hb := Lib.hid (hbad.out (by simp [cardOk, h1])); have H1 := Lib.hid h1; clear h1
        go_wp2_with (go_at_call 65; refine (l1In_val H1.out _).mono ?_; rintro e w' ⟨rfl, rfl⟩)
        go_ret
        exact ⟨ret_bool hb.out, rfl⟩
      · cases h2 : inB x2 0 216
        · have hb := Lib.hid (hbad.out (by simp [cardOk, h2])); have H1 := Lib.hid h1; have H2 := Lib.hid h2; clear h1 h2
          go_wp2_with fail
          refine (l1In_val H1.out _).mono ?_; rintro e w' ⟨rfl, rfl⟩
          go_wp2_with fail
          refine (l1In_val H2.out _).mono ?_; rintro e w' ⟨rfl, rfl⟩
          go_wp2
          go_ret
          exact ⟨ret_bool hb.out, rfl⟩
        · have hb := Lib.hid (hnext.out (by simp [cardOk, h1, h2])); have H1 := Lib.hid h1; have H2 := Lib.hid h2; clear h1 h2
          go_wp2_with fail
          refine (l1In_val H1.out _).mono ?_; rintro e w' ⟨rfl, rfl⟩
          go_wp2_with fail
          refine (l1In_val H2.out _).mono ?_; rintro e w' ⟨rfl, rfl⟩
          go_wp2
          go_round
          case rel => exact ⟨k + 1, by omega, by go_num, hb⟩
          case measure => simp [intOf]; omega
    · have hkk : k = cs.length := by omega
      have hfin := Lib.hid (deck_end (cs := cs) (hkk ▸ hT.out))
      clear hkk
      go_wp2
      all_goals go_ret
      all_goals exact ⟨ret_bool (by rw [← hfin.out]; simp; try omega), rfl⟩

theorem notCard_any (x : Int × Int) (w : World) : Calls Try.prog 89 #[.agg #[.int .i64 x.1, .int .i64 x.2]] w fun e w' => e = .returned (.bool (!cardOk x)) ∧ Fr w.heap.size none w w' := by
  obtain ⟨x1, x2⟩ := x
  cases h1 : inB x1 1 5
  · have hb := Lib.hid (show (!false) = !cardOk (x1, x2) by simp [cardOk, h1]); have H1 := Lib.hid h1; clear h1
    go_enter Try.func89, Try.ntmps89
    go_wp2_with (go_at_call 62; refine (in_val H1.out _).mono ?_; rintro e w' ⟨rfl, rfl⟩)
    go_ret
    exact ⟨ret_bool hb.out, (Fr.refl _ _ _).alloc (Nat.le_refl _) _⟩
  · cases h2 : inB x2 0 216
    all_goals
      have hb := Lib.hid (show (!inB x2 0 216) = !cardOk (x1, x2) by simp [cardOk, h1])
      rw [h2] at hb
      have H1 := Lib.hid h1; have H2 := Lib.hid h2; clear h1 h2
      go_enter Try.func89, Try.ntmps89
      go_wp2_with fail
      refine (in_val H1.out _).mono ?_; rintro e w' ⟨rfl, rfl⟩
      go_wp2_with fail
      refine (in_val H2.out _).mono ?_; rintro e w' ⟨rfl, rfl⟩
      go_wp2
      go_ret
      exact ⟨ret_bool hb.out, (Fr.refl _ _ _).alloc (Nat.le_refl _) _⟩

theorem anyC_take_succ (p : Int × Int → Bool) (xs : List (Int × Int)) (k : Nat) (h : k < xs.length) : (xs.take (k+1)).any p = ((xs.take k).any p || p (xs.getD k (0, 0))) := by
  rw [List.take_succ_eq_append_getElem h, List.any_append]; simp [List.getD_eq_getElem?_getD, h]
theorem anyC_of_take (p : Int × Int → Bool) (xs : List (Int × Int)) (k : Nat) (h : k < xs.length) (hp : p (xs.getD k (0, 0)) = true) : xs.any p = true := by
  rw [List.any_eq_true]; exact ⟨xs[k], List.getElem_mem h, by simpa [List.getD_eq_getElem?_getD, h] using hp⟩

theorem indexFuncC (g : FuncId) (p : Int × Int → Bool) (eg : ∀ args w, (callFunc g args).run Try.prog w = .ok (.enter g args) w)
    (hg : ∀ (x : Int × Int) w, Calls Try.prog g #[.agg #[.int .i64 x.1, .int .i64 x.2]] w fun e w' => e = .returned (.bool (p x)) ∧ Fr w.heap.size none w w')
    (a : Option Addr) (cap : Nat) (xs : List (Int × Int)) (w : World) (hs : Sl w a (cards xs)) (hm : xs.length ≤ 1048576) :
    Calls Try.prog 94 #[.slice a xs.length cap, .func (.func g) #[] #[]] w fun e w' => ∃ r : Int, e = .returned (.int .i64 r) ∧ decide (0 ≤ r) = xs.any p ∧ Fr w.heap.size none w w' := by
  have HC := Lib.hid hs; clear hs
  have HG := Lib.hid hg; clear hg
  go_enter Try.func94, Try.ntmps94
  go_wp2
  go_loopw [8] (fun i wr => ∃ k : Nat, k ≤ xs.length ∧ i = .int .i64 k ∧ Hid ((xs.take k).any p = false) ∧ Fr w.heap.size none w wr) (fun i _ => xs.length - (intOf i).toNat)
  case atStart => exact ⟨0, Nat.zero_le _, rfl, rfl, Fr.refl _ _ _⟩
  case round =>
    obtain ⟨k, hk, rfl, hT, hF⟩ := hrel
    have HF := Lib.hid hF; clear hF
    by_cases hlt : k < xs.length
    · obtain ⟨b, off, rfl, hc0, hc1, hc2⟩ := (HC.out.fr HF.out).card k hlt
      cases hb : p (xs.getD k (0, 0))
      · have HB := Lib.hid hb; clear hb
        have hT' := Lib.hid (show (xs.take (k+1)).any p = false by rw [anyC_take_succ p xs k hlt, hT.out, HB.out]; rfl)
        generalize xs.getD k (0, 0) = x at *
        go_wp2_with fail
        refine (HG.out x _).mono ?_
        rintro e w' ⟨rfl, hF2⟩
        have HF2 := Lib.hid (HF.out.and hF2); clear hF2
        rw [HB.out]
        go_wp2
        go_roundw
        case rel => exact ⟨k + 1, by omega, by go_num, hT', HF2.out⟩
        case measure => simp [intOf]; omega
      · have HB := Lib.hid hb; clear hb
        have hT' := Lib.hid (show xs.any p = true from anyC_of_take p xs k hlt HB.out)
        generalize xs.getD k (0, 0) = x at *
        go_wp2_with fail
        refine (HG.out x _).mono ?_
        rintro e w' ⟨rfl, hF2⟩
        have HF2 := Lib.hid (HF.out.and hF2); clear hF2
        rw [HB.out]
        go_wp2
        go_ret
        exact ⟨_, rfl, by rw [hT'.out]; simp, HF2.out⟩
    · have hkk : k = xs.length := by omega
      have hT' := Lib.hid (show xs.any p = false by have := hT.out; rw [hkk, List.take_length] at this; exact this)
      clear hkk
      go_wp2
      go_ret
      exact ⟨_, rfl, by rw [hT'.out]; decide, HF.out⟩

theorem containsFuncC (g : FuncId) (p : Int × Int → Bool) (eg : ∀ args w, (callFunc g args).run Try.prog w = .ok (.enter g args) w)
    (hg : ∀ (x : Int × Int) w, Calls Try.prog g #[.agg #[.int .i64 x.1, .int .i64 x.2]] w fun e w' => e = .returned (.bool (p x)) ∧ Fr w.heap.size none w w')
    (a : Option Addr) (cap : Nat) (xs : List (Int × Int)) (w : World) (hs : Sl w a (cards xs)) (hm : xs.length ≤ 1048576) :
    Calls Try.prog 88 #[.slice a xs.length cap, .func (.func g) #[] #[]] w fun e w' => e = .returned (.bool (xs.any p)) ∧ Fr w.heap.size none w w' := by
  have HG := Lib.hid hg; clear hg
  have HS := Lib.hid hs; clear hs
  go_enter Try.func88, Try.ntmps88
  go_wp2_with fail
  refine (indexFuncC g p eg HG.out a cap xs w HS.out hm).mono ?_
  rintro e w' ⟨r, rfl, hr, hF⟩
  have HR := Lib.hid hr; clear hr
  go_wp2
  go_ret
  exact ⟨ret_bool HR.out, hF⟩

theorem implDeckOk_any (a : Option Addr) (cap : Nat) (xs : List (Int × Int)) (w : World) (hs : Sl w a (cards xs)) (hm : xs.length ≤ 1048576) :
    Calls Try.prog 78 #[.slice a xs.length cap] w fun e w' => e = .returned (.bool (deckOkB xs)) ∧ Fr w.heap.size none w w' := by
  have HS := Lib.hid hs; clear hs
  by_cases hl : xs.length ≤ 8
  · have hfin := Lib.hid (show (!xs.any fun c => !cardOk c) = deckOkB xs by rw [deckOkB, List.all_eq_not_any_not]; simp [hl])
    go_enter Try.func78, Try.ntmps78
    go_wp2_with (go_at_call 88; refine (containsFuncC 89 (fun c => !cardOk c) (enters_by Try.func89 (by kernel_rfl) rfl) notCard_any _ _ _ _ HS.out hm).mono ?_; rintro e w' ⟨rfl, hF⟩)
    go_ret
    exact ⟨ret_bool hfin.out, hF⟩
  · have hfin := Lib.hid (show false = deckOkB xs by rw [deckOkB]; simp [hl])
    have hlt : (8 : Int) < xs.length := by omega
    go_enter Try.func78, Try.ntmps78
    go_wp2
    go_ret
    exact ⟨ret_bool hfin.out, Fr.refl _ _ _⟩
end Go.Proofs.Ytoedenmimcmkoaa
