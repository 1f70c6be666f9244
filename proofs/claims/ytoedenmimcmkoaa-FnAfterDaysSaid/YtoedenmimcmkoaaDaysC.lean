/-
  Contracts: AfterDays of the reference, whole; QuestionsUpTo, of the program and of the reference.
-/
import Derived.Test.YtoedenmimcmkoaaDaysB
import Derived.Test.YtoedenmimcmkoaaRepeat
namespace Go.Proofs.Ytoedenmimcmkoaa
open Go.RowKit

theorem specAfterDays_any (a : Option Addr) (ca : Nat) (cs : List (Int × Int)) (d1 d2 : Int) (b : Option Addr) (cb : Nat) (ks : List Int) (w : World) (hs : Sl w a (cards cs)) (hm : cs.length ≤ 1048576) (hk : Sl w b (ints ks)) (hm2 : ks.length ≤ 1048576) :
    Calls Try.prog 25 #[.slice a cs.length ca, .int .i64 d1, .int .i64 d2, .slice b ks.length cb] w (NewCNB (daysC cs d1 d2 ks) (daysN cs d1 d2 ks) (daysOk cs d1 d2 ks) w) := by
  by_cases h4 : inB d1 0 d2 = true ∧ inB d2 0 200 = true ∧ deckOkB cs = true ∧ ks.length = cs.length
  · obtain ⟨k1, k2, k3, k4⟩ := h4
    cases k5 : ks.all fun n => inB n 0 1
    · have h : daysOk cs d1 d2 ks = false := by simp [daysOk, knownB, k5]
      rw [h]
      exact specAfterDays_bad a ca cs d1 d2 b cb ks w hs hm hk hm2 k1 k2 k3 k4 k5 (daysC_no h) (daysN_no h)
    · have h : daysOk cs d1 d2 ks = true := by simp [daysOk, knownB, k5, k1, k2, k3, k4]
      rw [h]
      exact specAfterDays_yes a ca cs d1 d2 b cb ks w hs hm hk hm2 k1 k2 k3 k4 k5 (daysC_yes h) (daysN_yes h)
  · have h : daysOk cs d1 d2 ks = false := by
      cases h : daysOk cs d1 d2 ks
      · rfl
      · exfalso
        simp only [daysOk, knownB, Bool.and_eq_true, decide_eq_true_eq] at h
        exact h4 ⟨h.2.2, h.2.1, h.1.1, h.1.2.1⟩
    rw [h]
    refine specAfterDays_no a ca cs d1 d2 b cb ks w hs hm hm2 ?_ (daysC_no h) (daysN_no h)
    cases k1 : inB d1 0 d2
    · exact .inl rfl
    · cases k2 : inB d2 0 200
      · exact .inr (.inl rfl)
      · cases k3 : deckOkB cs
        · exact .inr (.inr (.inl rfl))
        · exact .inr (.inr (.inr fun k4 => h4 ⟨k1, k2, k3, k4⟩))

/-- How often a new card is asked. -/
def questI (d k : Int) : Int := if daysOk [(1, 0)] 0 d [k] then daysN [(1, 0)] 0 d [k] else -1
theorem quest_no {d k : Int} (h : daysOk [(1, 0)] 0 d [k] = false) : -1 = questI d k := by simp [questI, h]
theorem quest_yes {d k : Int} (h : daysOk [(1, 0)] 0 d [k] = true) : daysN [(1, 0)] 0 d [k] = questI d k := by simp [questI, h]
theorem oneInt (w : World) (k : Int) : Sl (w.alloc (.cells #[.int .i64 k] 3)) (some ⟨w.heap.size, 0, none⟩) (ints [k]) := by
  intro j hj
  have : j = 0 := by simp [ints] at hj; omega
  subst this
  refine ⟨w.heap.size, 0, rfl, ?_⟩
  rw [World.cell?_alloc_at _ _ _ _ rfl]; rfl
theorem implQuest_any (d k : Int) (w : World) : Calls Try.prog 41 #[.int .i64 d, .int .i64 k] w fun e w' => e = .returned (.int .i64 (questI d k)) ∧ Fr w.heap.size none w w' := by
  have hn : newDeckI 1 = [(1, 0)] := by decide
  go_enter Try.func41, Try.ntmps41
  go_wp2_with fail
  refine (implDeckNew_any 1 _).mono ?_; rintro e w1 ⟨fa, fc, rfl, fo, hF1⟩
  rw [hn] at fo ⊢
  have FO := Lib.hid fo; have G1 := Lib.hid hF1; clear fo hF1 hn
  have CA := Lib.hid (implAfterDays_any fa fc [(1, 0)] 0 d (some ⟨w1.heap.size, 0, none⟩) 1 [k] (w1.alloc (.cells #[.int .i64 k] 3)) (FO.out.sl.fr ((Fr.refl w1.heap.size none w1).alloc (Nat.le_refl _) _)) (by simp) (oneInt w1 k) (by simp))
  go_wp2_with fail
  refine CA.out.mono ?_; rintro e w2 ⟨ra, rc, rfl, _, hF2⟩
  have G2 := Lib.hid ((G1.out.alloc G1.out.size _).and hF2); clear hF2 CA
  cases h : daysOk [(1, 0)] 0 d [k]
  · have hq := Lib.hid (quest_no h); clear h
    go_wp2
    go_ret
    exact ⟨ret_int hq.out, G2.out⟩
  · have hq := Lib.hid (quest_yes h); clear h
    go_wp2
    go_ret
    exact ⟨ret_int hq.out, G2.out⟩
theorem specQuest_any (d k : Int) (w : World) : Calls Try.prog 42 #[.int .i64 d, .int .i64 k] w fun e w' => e = .returned (.int .i64 (questI d k)) ∧ Fr w.heap.size none w w' := by
  have hn : newDeckI 1 = [(1, 0)] := by decide
  go_enter Try.func42, Try.ntmps42
  go_wp2_with fail
  refine (specDeckNew_any 1 _).mono ?_; rintro e w1 ⟨fa, fc, rfl, fo, hF1⟩
  rw [hn] at fo ⊢
  have FO := Lib.hid fo; have G1 := Lib.hid hF1; clear fo hF1 hn
  have CA := Lib.hid (specAfterDays_any fa fc [(1, 0)] 0 d (some ⟨w1.heap.size, 0, none⟩) 1 [k] (w1.alloc (.cells #[.int .i64 k] 3)) (FO.out.sl.fr ((Fr.refl w1.heap.size none w1).alloc (Nat.le_refl _) _)) (by simp) (oneInt w1 k) (by simp))
  go_wp2_with fail
  refine CA.out.mono ?_; rintro e w2 ⟨ra, rc, rfl, _, hF2⟩
  have G2 := Lib.hid ((G1.out.alloc G1.out.size _).and hF2); clear hF2 CA
  cases h : daysOk [(1, 0)] 0 d [k]
  · have hq := Lib.hid (quest_no h); clear h
    go_wp2
    go_ret
    exact ⟨ret_int hq.out, G2.out⟩
  · have hq := Lib.hid (quest_yes h); clear h
    go_wp2
    go_ret
    exact ⟨ret_int hq.out, G2.out⟩
end Go.Proofs.Ytoedenmimcmkoaa
