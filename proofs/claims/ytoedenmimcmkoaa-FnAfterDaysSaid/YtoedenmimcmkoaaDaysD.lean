/-
  Plain laws: how often a new card is asked; days go on; with all known no more is asked. No program is named here.
-/
import Derived.Test.YtoedenmimcmkoaaDaysC
namespace Go.Proofs.Ytoedenmimcmkoaa
open Go.RowKit

theorem upTo_one (c : Int × Int) (day k : Int) : upTo [c] day [k] 1 = [nextC day c k] := by simp [upTo, List.range_succ]
theorem dueN_one (c : Int × Int) (day : Int) : dueN [c] day 1 = if c.2 ≤ day then 1 else 0 := by
  have := dueN_succ [c] day 0
  rw [this]
  have h0 : dueN [c] day 0 = 0 := by simp [dueN, dueTo]
  rw [h0]; simp
theorem never_run (n : Nat) : runC [(1, 0)] [0] 0 n = [(1, (n : Int))] ∧ runN [(1, 0)] [0] 0 n = n := by
  induction n with
  | zero => exact ⟨rfl, rfl⟩
  | succ n ih =>
    obtain ⟨h1, h2⟩ := ih
    refine ⟨?_, ?_⟩
    · simp only [runC]; rw [h1, show ([(1, (n : Int))] : List (Int × Int)).length = 1 from rfl, upTo_one]
      have : nextC (0 + (n : Int)) (1, (n : Int)) 0 = (1, ((n + 1 : Nat) : Int)) := by
        unfold nextC
        rw [if_pos (show (1, (n : Int)).2 ≤ 0 + (n : Int) by simp)]
        simp [waitZ]
      rw [this]
    · simp only [runN]; rw [h1, h2, show ([(1, (n : Int))] : List (Int × Int)).length = 1 from rfl, dueN_one, if_pos (by simp)]
theorem next_not {day : Int} {c : Int × Int} {k : Int} (h : ¬ c.2 ≤ day) : nextC day c k = c := by unfold nextC; rw [if_neg h]
theorem off_if {day : Int} {c : Int × Int} (q : Nat) (h : ¬ c.2 ≤ day) : (q + if c.2 ≤ day then 1 else 0) = q := by rw [if_neg h]; rfl
/-- Where a card that is always known is, before the day n, and how often it was asked. -/
def Always (n : Nat) (c : Int × Int) (q : Nat) : Prop :=
  (c = (1, 0) ∧ q = 0 ∧ n = 0) ∨ (c = (2, 2) ∧ q = 1 ∧ 1 ≤ n ∧ n ≤ 2) ∨ (c = (3, 6) ∧ q = 2 ∧ 3 ≤ n ∧ n ≤ 6) ∨ (c = (4, 14) ∧ q = 3 ∧ 7 ≤ n ∧ n ≤ 14) ∨
    (∃ m : Nat, c = (5, ((30 + 16 * m : Nat) : Int)) ∧ q = 4 + m ∧ 15 + 16 * m ≤ n ∧ n ≤ 30 + 16 * m)
theorem always_next {n q : Nat} {c : Int × Int} (h : Always n c q) : Always (n + 1) (nextC (0 + (n : Int)) c 1) (q + if c.2 ≤ 0 + (n : Int) then 1 else 0) := by
  rcases h with ⟨rfl, rfl, rfl⟩ | ⟨rfl, rfl, h1, h2⟩ | ⟨rfl, rfl, h1, h2⟩ | ⟨rfl, rfl, h1, h2⟩ | ⟨m, rfl, rfl, h1, h2⟩
  · right; left; decide
  · by_cases hn : n = 2
    · subst hn; right; right; left; decide
    · have : ¬ ((2 : Int) ≤ 0 + (n : Int)) := by omega
      right; left; exact ⟨next_not this, off_if _ this, by omega, by omega⟩
  · by_cases hn : n = 6
    · subst hn; right; right; right; left; decide
    · have : ¬ ((6 : Int) ≤ 0 + (n : Int)) := by omega
      right; right; left; exact ⟨next_not this, off_if _ this, by omega, by omega⟩
  · by_cases hn : n = 14
    · subst hn; right; right; right; right; exact ⟨0, by decide, by decide, by decide, by decide⟩
    · have : ¬ ((14 : Int) ≤ 0 + (n : Int)) := by omega
      right; right; right; left; exact ⟨next_not this, off_if _ this, by omega, by omega⟩
  · by_cases hn : n = 30 + 16 * m
    · subst hn
      right; right; right; right
      refine ⟨m + 1, ?_, ?_, by omega, by omega⟩
      · unfold nextC
        rw [if_pos (by simp)]
        simp [waitZ]; omega
      · rw [if_pos (by simp)]; omega
    · have : ¬ (((30 + 16 * m : Nat) : Int) ≤ 0 + (n : Int)) := by omega
      right; right; right; right
      exact ⟨m, next_not this, off_if _ this, by omega, by omega⟩
theorem always_run (n : Nat) : ∃ c, runC [(1, 0)] [1] 0 n = [c] ∧ Always n c (runN [(1, 0)] [1] 0 n) := by
  induction n with
  | zero => exact ⟨(1, 0), rfl, .inl ⟨rfl, rfl, rfl⟩⟩
  | succ n ih =>
    obtain ⟨c, h1, h2⟩ := ih
    refine ⟨nextC (0 + (n : Int)) c 1, ?_, ?_⟩
    · simp only [runC]; rw [h1, show ([c] : List (Int × Int)).length = 1 from rfl, upTo_one]
    · simp only [runN]; rw [h1, show ([c] : List (Int × Int)).length = 1 from rfl, dueN_one]; exact always_next h2
theorem always_le {n q : Nat} {c : Int × Int} (h : Always n c q) : q ≤ n / 16 + 5 ∧ q ≤ n := by
  rcases h with ⟨_, rfl, rfl⟩ | ⟨_, rfl, h1, h2⟩ | ⟨_, rfl, h1, h2⟩ | ⟨_, rfl, h1, h2⟩ | ⟨m, _, rfl, h1, h2⟩ <;> omega
theorem quest_law (d k : Int) : questI d k = -1 ∨ (0 ≤ d ∧ d ≤ 200 ∧ k = 0 ∧ questI d k = d) ∨ (0 ≤ d ∧ d ≤ 200 ∧ k = 1 ∧ 0 ≤ questI d k ∧ questI d k ≤ d / 16 + 5 ∧ questI d k ≤ d) := by
  cases h : daysOk [(1, 0)] 0 d [k]
  · exact .inl (quest_no h).symm
  · rw [← quest_yes h, ← daysN_yes h]
    simp only [daysOk, knownB, Bool.and_eq_true, List.all_cons, List.all_nil, inB_true, and_true] at h
    obtain ⟨⟨_, _, hk⟩, hd, _⟩ := h
    obtain ⟨n, rfl⟩ := Int.eq_ofNat_of_zero_le hd.1
    rw [show ((n : Int) - 0).toNat = n by omega]
    have : k = 0 ∨ k = 1 := by omega
    rcases this with rfl | rfl
    · rw [(never_run n).2]; right; left; exact ⟨by omega, by omega, rfl, rfl⟩
    · obtain ⟨c, _, h2⟩ := always_run n
      have := always_le h2
      right; right; exact ⟨by omega, by omega, rfl, by omega, by omega, by omega⟩

/- Days go on. -/
theorem runC_add (cs : List (Int × Int)) (ks : List Int) (day : Int) (m n : Nat) : runC cs ks day (m + n) = runC (runC cs ks day m) ks (day + m) n := by
  induction n with
  | zero => rfl
  | succ n ih =>
    rw [← Nat.add_assoc]; simp only [runC]; rw [ih, show day + ((m + n : Nat) : Int) = day + (m : Int) + (n : Int) by omega]
theorem runN_add (cs : List (Int × Int)) (ks : List Int) (day : Int) (m n : Nat) : runN cs ks day (m + n) = runN cs ks day m + runN (runC cs ks day m) ks (day + m) n := by
  induction n with
  | zero => rfl
  | succ n ih =>
    rw [← Nat.add_assoc]; simp only [runN]; rw [ih, runC_add, show day + ((m + n : Nat) : Int) = day + (m : Int) + (n : Int) by omega, Nat.add_assoc]
theorem days_split {cs : List (Int × Int)} {a b h : Int} {ks : List Int} (hok : daysOk cs a b ks = true) (h1 : a ≤ h) (h2 : h ≤ b) :
    daysOk cs a h ks = true ∧ daysOk (daysC cs a h ks) h b ks = true ∧ daysC (daysC cs a h ks) h b ks = daysC cs a b ks ∧ daysN cs a h ks + daysN (daysC cs a h ks) h b ks = daysN cs a b ks := by
  have hh := hok
  simp only [daysOk, knownB, Bool.and_eq_true, decide_eq_true_eq] at hh
  obtain ⟨⟨k1, k2, k3⟩, k4, k5⟩ := hh
  have b4 := inB_true.1 k4; have b5 := inB_true.1 k5
  have o1 : daysOk cs a h ks = true := by
    simp only [daysOk, knownB, Bool.and_eq_true, decide_eq_true_eq]
    exact ⟨⟨k1, k2, k3⟩, inB_true.2 ⟨by omega, by omega⟩, inB_true.2 ⟨by omega, by omega⟩⟩
  have o2 : daysOk (daysC cs a h ks) h b ks = true := by
    rw [← daysC_yes o1]
    simp only [daysOk, knownB, Bool.and_eq_true, decide_eq_true_eq]
    exact ⟨⟨runC_ok k1 (by omega) _ (by omega), by rw [runC_length]; exact k2, k3⟩, k4, inB_true.2 ⟨by omega, by omega⟩⟩
  have e : (b - a).toNat = (h - a).toNat + (b - h).toNat := by omega
  have e2 : a + ((h - a).toNat : Int) = h := by omega
  refine ⟨o1, o2, ?_, ?_⟩
  · rw [← daysC_yes o2, ← daysC_yes hok, ← daysC_yes o1, e, runC_add, e2]
  · rw [← daysN_yes o2, ← daysN_yes hok, ← daysN_yes o1, ← daysC_yes o1, e, runN_add, e2]; omega

/- Card by card. -/
def cardC (c : Int × Int) (k : Int) (day : Int) : Nat → Int × Int
  | 0 => c
  | n + 1 => nextC (day + n) (cardC c k day n) k
def cardN (c : Int × Int) (k : Int) (day : Int) : Nat → Nat
  | 0 => 0
  | n + 1 => cardN c k day n + if (cardC c k day n).2 ≤ day + n then 1 else 0
def sumTo (f : Nat → Nat) : Nat → Nat
  | 0 => 0
  | k + 1 => sumTo f k + f k
theorem sumTo_add (f g : Nat → Nat) (k : Nat) : sumTo f k + sumTo g k = sumTo (fun t => f t + g t) k := by
  induction k with
  | zero => rfl
  | succ k ih => simp only [sumTo]; omega
theorem sumTo_le (f g : Nat → Nat) (k : Nat) (h : ∀ t, t < k → f t ≤ g t) : sumTo f k ≤ sumTo g k := by
  induction k with
  | zero => exact Nat.le_refl _
  | succ k ih => simp only [sumTo]; have := ih (fun t ht => h t (by omega)); have := h k (by omega); omega
theorem sumTo_ext (f g : Nat → Nat) (k : Nat) (h : ∀ t, t < k → f t = g t) : sumTo f k = sumTo g k := by
  induction k with
  | zero => rfl
  | succ k ih => simp only [sumTo]; rw [ih (fun t ht => h t (by omega)), h k (by omega)]
theorem dueN_sum (cs : List (Int × Int)) (day : Int) (k : Nat) : dueN cs day k = sumTo (fun t => if (cs.getD t (0, 0)).2 ≤ day then 1 else 0) k := by
  induction k with
  | zero => simp [dueN, dueTo, sumTo]
  | succ k ih => rw [dueN_succ, ih]; rfl
theorem runC_card (cs : List (Int × Int)) (ks : List Int) (day : Int) (n t : Nat) (ht : t < cs.length) : (runC cs ks day n).getD t (0, 0) = cardC (cs.getD t (0, 0)) (ks.getD t 0) day n := by
  induction n with
  | zero => rfl
  | succ n ih =>
    have hl := runC_length cs ks day n
    simp only [runC, cardC]
    rw [upTo_getD _ _ _ _ _ (by omega), if_pos (by omega), ih]
theorem runN_card (cs : List (Int × Int)) (ks : List Int) (day : Int) (n : Nat) : runN cs ks day n = sumTo (fun t => cardN (cs.getD t (0, 0)) (ks.getD t 0) day n) cs.length := by
  induction n with
  | zero =>
    have : ∀ k, sumTo (fun _ => 0) k = 0 := by intro k; induction k with | zero => rfl | succ k ih => simp only [sumTo, ih]
    simp only [runN, cardN]; exact (this _).symm
  | succ n ih =>
    simp only [runN, cardN]
    rw [ih, dueN_sum, runC_length, ← sumTo_add]
    congr 1
    apply sumTo_ext
    intro t ht
    rw [runC_card _ _ _ _ _ ht]

/-- Where a card comes that is known when it is due. -/
def adv1 (c : Int × Int) : Int × Int := (min (c.1 + 1) 5, c.2 + waitZ (min (c.1 + 1) 5))
def adv : Nat → Int × Int → Int × Int
  | 0, c => c
  | j + 1, c => adv1 (adv j c)
theorem adv_in (j : Nat) (c : Int × Int) : adv j (adv1 c) = adv (j + 1) c := by
  induction j with
  | zero => rfl
  | succ j ih => simp only [adv]; rw [ih]; rfl
theorem waitZ_mono {a b : Int} (h0 : 1 ≤ a) (h : a ≤ b) (hb : b ≤ 5) : waitZ a ≤ waitZ b := by
  have h1 : a = 1 ∨ a = 2 ∨ a = 3 ∨ a = 4 ∨ a = 5 := by omega
  have h2 : b = 1 ∨ b = 2 ∨ b = 3 ∨ b = 4 ∨ b = 5 := by omega
  rcases h1 with rfl | rfl | rfl | rfl | rfl <;> rcases h2 with rfl | rfl | rfl | rfl | rfl <;> first | omega | decide
def Box (c : Int × Int) : Prop := 1 ≤ c.1 ∧ c.1 ≤ 5
theorem adv1_box {c : Int × Int} (h : Box c) : Box (adv1 c) := by unfold Box adv1 at *; simp only; omega
theorem adv_box {c : Int × Int} (h : Box c) (j : Nat) : Box (adv j c) := by
  induction j with
  | zero => exact h
  | succ j ih => exact adv1_box ih
theorem adv1_mono {a b : Int × Int} (ha : Box a) (hb : Box b) (h1 : a.1 ≤ b.1) (h2 : a.2 ≤ b.2) : (adv1 a).1 ≤ (adv1 b).1 ∧ (adv1 a).2 ≤ (adv1 b).2 := by
  unfold Box at ha hb
  unfold adv1
  have hw := waitZ_mono (a := min (a.1 + 1) 5) (b := min (b.1 + 1) 5) (by omega) (by omega) (by omega)
  simp only
  omega
theorem adv_far (c : Int × Int) (h : Box c) (j : Nat) : c.2 ≤ (adv j c).2 := by
  induction j with
  | zero => exact Int.le_refl _
  | succ j ih =>
    have hb := adv_box h j
    unfold Box at hb
    have hw := (waitZ_bd (b := min ((adv j c).1 + 1) 5) ⟨by omega, by omega⟩).1
    simp only [adv, adv1]; omega
/-- A card as it is on a day, when what is overdue is due then. -/
def onDay (day : Int) (c : Int × Int) : Int × Int := (c.1, max c.2 day)
theorem next_due1 {day : Int} {c : Int × Int} (h : c.2 ≤ day) : nextC day c 1 = adv1 (onDay day c) := by
  unfold nextC adv1 onDay; rw [if_pos h]; simp only [if_true]; rw [show max c.2 day = day by omega]
theorem next_le {day : Int} {c : Int × Int} {k : Int} (hb : Box c) (h : c.2 ≤ day) : (nextC day c k).1 ≤ (adv1 (onDay day c)).1 ∧ (nextC day c k).2 ≤ (adv1 (onDay day c)).2 ∧ Box (nextC day c k) ∧ day + 1 ≤ (nextC day c k).2 := by
  unfold Box at *
  by_cases hk : k = 1
  · subst hk; rw [next_due1 h]
    have hw := (waitZ_bd (b := min (c.1 + 1) 5) ⟨by omega, by omega⟩).1
    unfold adv1 onDay; simp only; omega
  · unfold nextC; rw [if_pos h, if_neg hk]
    have hw := (waitZ_bd (b := min (c.1 + 1) 5) ⟨by omega, by omega⟩).1
    have h1 : waitZ 1 = 1 := by decide
    unfold adv1 onDay; simp only; omega
/-- B is not behind A, which was asked j times less. -/
def Ahead (day : Int) (A B : Int × Int) (p q : Nat) : Prop :=
  Box A ∧ Box B ∧ ∃ j : Nat, q = p + j ∧ (onDay day B).1 ≤ (adv j (onDay day A)).1 ∧ (onDay day B).2 ≤ (adv j (onDay day A)).2
theorem onDay_next {day : Int} {c : Int × Int} (h : day + 1 ≤ c.2) : onDay (day + 1) c = c ∧ onDay day c = c := by
  refine ⟨Prod.ext rfl ?_, Prod.ext rfl ?_⟩ <;> simp only [onDay] <;> omega
theorem onDay_box {day : Int} {c : Int × Int} (h : Box c) : Box (onDay day c) := h
theorem ahead_next {day : Int} {A B : Int × Int} {p q : Nat} (k : Int) (h : Ahead day A B p q) :
    Ahead (day + 1) (nextC day A 1) (nextC day B k) (p + if A.2 ≤ day then 1 else 0) (q + if B.2 ≤ day then 1 else 0) := by
  obtain ⟨hA, hB, j, rfl, h1, h2⟩ := h
  by_cases ha : A.2 ≤ day <;> by_cases hb : B.2 ≤ day
  · obtain ⟨a1, a2, a3, a4⟩ := next_le (k := 1) hA ha
    obtain ⟨b1, b2, b3, b4⟩ := next_le (k := k) hB hb
    refine ⟨a3, b3, j, by rw [if_pos ha, if_pos hb]; omega, ?_⟩
    rw [(onDay_next b4).1, (onDay_next a4).1, next_due1 ha, adv_in]
    have := adv1_mono (onDay_box (day := day) hB) (adv_box (onDay_box (day := day) hA) j) h1 h2
    simp only [adv]; omega
  · obtain ⟨a1, a2, a3, a4⟩ := next_le (k := 1) hA ha
    have b4 : day + 1 ≤ B.2 := by omega
    rw [next_not hb]
    cases j with
    | zero =>
      exfalso
      simp only [adv, onDay] at h2; omega
    | succ j =>
      refine ⟨a3, hB, j, by rw [if_pos ha, if_neg hb]; omega, ?_⟩
      rw [(onDay_next b4).1, (onDay_next a4).1, next_due1 ha, adv_in]
      rw [(onDay_next b4).2] at h1 h2
      exact ⟨h1, h2⟩
  · obtain ⟨b1, b2, b3, b4⟩ := next_le (k := k) hB hb
    have a4 : day + 1 ≤ A.2 := by omega
    rw [next_not ha]
    refine ⟨hA, b3, j + 1, by rw [if_neg ha, if_pos hb]; omega, ?_⟩
    rw [(onDay_next b4).1, (onDay_next a4).1]
    rw [(onDay_next a4).2] at h1 h2
    have := adv1_mono (onDay_box (day := day) hB) (adv_box hA j) h1 h2
    simp only [adv]; omega
  · have a4 : day + 1 ≤ A.2 := by omega
    have b4 : day + 1 ≤ B.2 := by omega
    rw [next_not ha, next_not hb]
    refine ⟨hA, hB, j, by rw [if_neg ha, if_neg hb]; omega, ?_⟩
    rw [(onDay_next b4).1, (onDay_next a4).1]
    rw [(onDay_next a4).2, (onDay_next b4).2] at h1 h2
    exact ⟨h1, h2⟩
theorem ahead_run (c : Int × Int) (k day : Int) (hb : Box c) (n : Nat) : Ahead (day + n) (cardC c 1 day n) (cardC c k day n) (cardN c 1 day n) (cardN c k day n) := by
  induction n with
  | zero => exact ⟨hb, hb, 0, rfl, Int.le_refl _, Int.le_refl _⟩
  | succ n ih =>
    have := ahead_next k ih
    simp only [cardC, cardN]
    rw [show day + ((n + 1 : Nat) : Int) = day + (n : Int) + 1 by omega]
    exact this
theorem ones_fewer {cs : List (Int × Int)} {a b : Int} {ks : List Int} (hok : daysOk cs a b ks = true) :
    daysOk cs a b (List.replicate ks.length 1) = true ∧ daysN cs a b (List.replicate ks.length 1) ≤ daysN cs a b ks := by
  have hh := hok
  simp only [daysOk, knownB, Bool.and_eq_true, decide_eq_true_eq] at hh
  obtain ⟨⟨k1, k2, k3⟩, k4, k5⟩ := hh
  have o1 : daysOk cs a b (List.replicate ks.length 1) = true := by
    simp only [daysOk, knownB, Bool.and_eq_true, decide_eq_true_eq, List.all_eq_true]
    refine ⟨⟨k1, by rw [List.length_replicate]; exact k2, ?_⟩, k4, k5⟩
    intro x hx
    have := List.eq_of_mem_replicate hx
    subst this; decide
  refine ⟨o1, ?_⟩
  rw [← daysN_yes o1, ← daysN_yes hok]
  apply Int.ofNat_le.2
  rw [runN_card, runN_card]
  apply sumTo_le
  intro t ht
  have e : (List.replicate ks.length (1 : Int)).getD t 0 = 1 := by
    rw [List.getD_eq_getElem?_getD, List.getElem?_replicate, if_pos (by omega)]; rfl
  rw [e]
  have hb := (deck_in k1 t ht).1
  obtain ⟨_, _, j, hj, _⟩ := ahead_run (cs.getD t (0, 0)) (ks.getD t 0) a hb (b - a).toNat
  omega
end Go.Proofs.Ytoedenmimcmkoaa
