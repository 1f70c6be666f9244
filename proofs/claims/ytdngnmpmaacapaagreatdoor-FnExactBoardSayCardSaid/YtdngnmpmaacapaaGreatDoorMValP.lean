/-
  Merged: ValP.
-/
import Derived.Test.YtdngnmpmaacapaaGreatDoorMWroteS
import Derived.Lib.Atoi
set_option linter.unusedVariables false
set_option linter.unusedSimpArgs false
/-
  Plain notions: the number that a numeral tells, and dividing it. No program is named here.
-/
namespace Go.Proofs.YtdngnmpmaacapaaGreatDoor
open Go.RowKit

/-- The number that digits tell behind a number. -/
def decN (n : Nat) (b : UInt8) : Nat := n * 10 + (b.toNat - 48)
def valT (l : List UInt8) : Nat := l.foldl decN 0
def valN (s : ByteArray) : Nat := valT s.data.toList
/-- The number of a numeral, or -1. -/
def valI (s : ByteArray) : Int := if numOk s then (valN s : Int) else -1
theorem dec_from : ∀ (l : List UInt8) (n : Nat), l.all isDig = true → Lib.decFrom n l = some (l.foldl decN n)
  | [], n, _ => rfl
  | b :: r, n, h => by
    simp only [List.all_cons, Bool.and_eq_true] at h
    have hd : 48 ≤ b.toNat ∧ b.toNat ≤ 57 := by
      have := h.1
      simp only [isDig, Bool.and_eq_true, decide_eq_true_eq] at this
      omega
    have e : Lib.digitVal b = some (b.toNat - 48) := by unfold Lib.digitVal; rw [if_pos hd]
    simp only [Lib.decFrom, e, List.foldl_cons]
    exact dec_from r _ h.2
theorem val_atoi {s : ByteArray} (h : numOk s = true) : Lib.atoi s.data.toList = some (valN s : Int) := by
  have hl := num_len h
  have hall : s.data.toList.all isDig = true := by simp only [numOk, Bool.and_eq_true] at h; exact h.1
  have hll : s.data.toList.length = s.size := by simp
  unfold valN valT
  generalize s.data.toList = l at *
  match l, hll with
  | [], hll => simp at hll; omega
  | b :: r, _ =>
    have hd : 48 ≤ b.toNat ∧ b.toNat ≤ 57 := by
      simp only [List.all_cons, Bool.and_eq_true] at hall
      have := hall.1
      simp only [isDig, Bool.and_eq_true, decide_eq_true_eq] at this
      omega
    have n1 : (b == 45) = false := by
      rw [beq_eq_false_iff_ne]; intro e; rw [e] at hd; exact absurd hd.1 (by decide)
    have n2 : (b == 43) = false := by
      rw [beq_eq_false_iff_ne]; intro e; rw [e] at hd; exact absurd hd.1 (by decide)
    have e := dec_from (b :: r) 0 hall
    simp only [Lib.atoi, n1, n2, Lib.decNat, List.isEmpty_cons, Bool.false_eq_true, if_false, e, Option.map_some]
theorem fold_bd : ∀ (l : List UInt8) (n : Nat), l.all isDig = true → l.foldl decN n < (n + 1) * 10 ^ l.length
  | [], n, _ => by simp
  | b :: r, n, h => by
    simp only [List.all_cons, Bool.and_eq_true] at h
    have hd : b.toNat ≤ 57 := by
      have := h.1
      simp only [isDig, Bool.and_eq_true, decide_eq_true_eq] at this
      omega
    have ih := fold_bd r (decN n b) h.2
    simp only [List.foldl_cons, List.length_cons]
    refine Nat.lt_of_lt_of_le ih ?_
    rw [Nat.pow_succ, Nat.mul_comm (10 ^ r.length) 10, ← Nat.mul_assoc]
    refine Nat.mul_le_mul_right _ ?_
    unfold decN; omega
theorem valT_bd {l : List UInt8} (h : l.all isDig = true) (hl : l.length ≤ 9) : valT l < 1000000000 := by
  have := fold_bd l 0 h
  have hp : 10 ^ l.length ≤ 10 ^ 9 := Nat.pow_le_pow_right (by omega) hl
  unfold valT
  simp at this
  omega
theorem valN_bd {s : ByteArray} (h : numOk s = true) : valN s < 1000000000 := by
  have hl := num_len h
  have hall : s.data.toList.all isDig = true := by simp only [numOk, Bool.and_eq_true] at h; exact h.1
  exact valT_bd hall (by have hll : s.data.toList.length = s.size := by simp
                         omega)
theorem valI_bd (s : ByteArray) : -1 ≤ valI s ∧ valI s < 1000000000 := by
  unfold valI
  split
  · next h => have := valN_bd h; omega
  · omega
/-- The number of the first k digits. -/
def valK (s : ByteArray) (k : Nat) : Nat := valT (s.data.toList.take k)
theorem valK_zero (s : ByteArray) : valK s 0 = 0 := by simp [valK, valT]
theorem valK_succ (s : ByteArray) (k : Nat) (h : k < s.size) : valK s (k + 1) = valK s k * 10 + (s[k].toNat - 48) := by
  have hk : k < s.data.toList.length := by simpa using h
  have e : s.data.toList[k] = s[k] := by simp [ByteArray.getElem_eq_getElem_data]
  unfold valK valT
  rw [List.take_succ_eq_append_getElem hk, List.foldl_append, e]
  rfl
theorem valK_end (s : ByteArray) : valK s s.size = valN s := by
  have hll : s.data.toList.length = s.size := by simp
  unfold valK valN; rw [← hll, List.take_length]
theorem valK_bd {s : ByteArray} (h : numOk s = true) (k : Nat) : valK s k < 1000000000 := by
  have hl := num_len h
  have hall : s.data.toList.all isDig = true := by simp only [numOk, Bool.and_eq_true] at h; exact h.1
  refine valT_bd ?_ ?_
  · rw [List.all_eq_true] at hall ⊢
    intro b hb; exact hall b (List.mem_of_mem_take hb)
  · have hll : s.data.toList.length = s.size := by simp
    rw [List.length_take]; omega

/-- A step of a division: what is left before, the digit, how often, what is left after. -/
abbrev Stp := Int × Int × Int × Int
def stpF (c : Stp) : List Value := [.int .i64 c.1, .int .i64 c.2.1, .int .i64 c.2.2.1, .int .i64 c.2.2.2]
theorem stpF_len (c : Stp) : (stpF c).length = 4 := rfl
def stps (xs : List Stp) : List Value := rows stpF xs
theorem stps_length (xs : List Stp) : (stps xs).length = xs.length * 4 := rows_length stpF 4 stpF_len xs
def noStp : Stp := (0, 0, 0, 0)
theorem Sl.stp {w : World} {a : Option Addr} {xs : List Stp} (h : Sl w a (stps xs)) (k : Nat) (hk : k < xs.length) :
    ∃ b off, a = some ⟨b, off, none⟩ ∧ w.cell? ⟨b, off + k * 4, none⟩ = some (.int .i64 (xs.getD k noStp).1) ∧ w.cell? ⟨b, off + k * 4 + 1, none⟩ = some (.int .i64 (xs.getD k noStp).2.1) ∧
      w.cell? ⟨b, off + k * 4 + 2, none⟩ = some (.int .i64 (xs.getD k noStp).2.2.1) ∧ w.cell? ⟨b, off + k * 4 + 3, none⟩ = some (.int .i64 (xs.getD k noStp).2.2.2) := by
  obtain ⟨b, off, ha, hc⟩ := h.row 4 stpF_len (by omega) k hk
  have hg : xs.getD k noStp = xs[k] := by simp [List.getD_eq_getElem?_getD, hk]
  have h0 := hc 0 (by omega)
  have h1 := hc 1 (by omega)
  have h2 := hc 2 (by omega)
  have h3 := hc 3 (by omega)
  rw [Nat.add_zero] at h0
  rw [hg]
  exact ⟨b, off, ha, h0, by rw [Nat.add_assoc]; exact h1, by rw [Nat.add_assoc]; exact h2, by rw [Nat.add_assoc]; exact h3⟩
/-- The digit of a numeral at a place from the front. -/
def digF (s : ByteArray) (k : Nat) : Int := ((s.data.toList.getD k 48).toNat : Int) - 48
theorem digF_in {s : ByteArray} {k : Nat} (h : k < s.size) : ((s[k].toNat : Int) - 48) = digF s k := by
  unfold digF
  have hi : k < s.data.toList.length := by simpa using h
  rw [List.getD_eq_getElem?_getD, List.getElem?_eq_getElem hi]
  simp [ByteArray.getElem_eq_getElem_data]
theorem digF_bd {s : ByteArray} (h : numOk s = true) (k : Nat) (hk : k < s.size) : 0 ≤ digF s k ∧ digF s k ≤ 9 := by
  have := dig_byte h k hk
  rw [← digF_in hk]; omega
/-- The first k steps of dividing a numeral, and what is left. -/
def divC (s : ByteArray) (d : Int) : Nat → List Stp × Int
  | 0 => ([], 0)
  | k + 1 => ((divC s d k).1 ++ [((divC s d k).2, digF s k, (10 * (divC s d k).2 + digF s k) / d, (10 * (divC s d k).2 + digF s k) % d)], (10 * (divC s d k).2 + digF s k) % d)
theorem divC_len (s : ByteArray) (d : Int) : ∀ k, (divC s d k).1.length = k
  | 0 => rfl
  | k + 1 => by simp [divC, divC_len s d k]
theorem divC_bd {s : ByteArray} {d : Int} (hd : 1 ≤ d) : ∀ k, 0 ≤ (divC s d k).2 ∧ (divC s d k).2 < d
  | 0 => by simp [divC]; omega
  | k + 1 => ⟨Int.emod_nonneg _ (by omega), Int.emod_lt_of_pos _ (by omega)⟩
theorem divC_step {s : ByteArray} {d : Int} {k : Nat} {l : List Stp} {c x : Int} (h : divC s d k = (l, c)) (hx : digF s k = x) : divC s d (k + 1) = (l ++ [(c, x, (10 * c + x) / d, (10 * c + x) % d)], (10 * c + x) % d) := by
  subst hx; simp only [divC, h]
/-- A quotient digit is one. -/
theorem quo_dig {c x d : Int} (hd : 1 ≤ d) (hc : 0 ≤ c ∧ c < d) (hx : 0 ≤ x ∧ x ≤ 9) : 0 ≤ (10 * c + x) / d ∧ (10 * c + x) / d ≤ 9 := by
  refine ⟨Int.ediv_nonneg (by omega) (by omega), ?_⟩
  have : (10 * c + x) / d < 10 := Int.ediv_lt_of_lt_mul (by omega) (by omega)
  omega
/-- A step that is right by itself for a divisor. -/
def goodS (d : Int) (c : Stp) : Bool := isD c.2.1 && isD c.2.2.1 && inB c.2.2.2 0 (d - 1) && decide (c.2.2.1 * d + c.2.2.2 = 10 * c.1 + c.2.1)
theorem step_good {c x d : Int} (hd : 1 ≤ d) (hc : 0 ≤ c ∧ c < d) (hx : 0 ≤ x ∧ x ≤ 9) : goodS d (c, x, (10 * c + x) / d, (10 * c + x) % d) = true := by
  have h1 := quo_dig hd hc hx
  have h2 := Int.emod_nonneg (10 * c + x) (show d ≠ 0 by omega)
  have h3 := Int.emod_lt_of_pos (10 * c + x) (show 0 < d by omega)
  have h4 := Int.mul_ediv_add_emod (10 * c + x) d
  simp only [goodS, isD, Bool.and_eq_true, inB_true, decide_eq_true_eq]
  refine ⟨⟨⟨hx, h1⟩, by omega, by omega⟩, ?_⟩
  rw [Int.mul_comm]; exact h4
/-- Each step is given what the one before leaves. -/
def LinkedS (cs : List Stp) : Prop := ∀ k, k < cs.length → (cs.getD k noStp).1 = if k = 0 then 0 else (cs.getD (k - 1) noStp).2.2.2
theorem divC_get (s : ByteArray) (d : Int) : ∀ (k j : Nat), j < k → (divC s d k).1.getD j noStp = ((divC s d j).2, digF s j, (10 * (divC s d j).2 + digF s j) / d, (10 * (divC s d j).2 + digF s j) % d)
  | 0, j, h => by omega
  | k + 1, j, h => by
    have hl := divC_len s d k
    by_cases hj : j < k
    · have := divC_get s d k j hj
      simp only [divC, List.getD_eq_getElem?_getD] at this ⊢
      rw [List.getElem?_append_left (by omega)]; exact this
    · have : j = k := by omega
      subst this
      simp only [divC, List.getD_eq_getElem?_getD]
      rw [List.getElem?_append_right (by omega), hl]; simp
theorem divC_linked (s : ByteArray) (d : Int) (n : Nat) : LinkedS (divC s d n).1 := by
  intro k hk
  rw [divC_len] at hk
  rw [divC_get s d n k hk]
  split
  · next h0 => subst h0; rfl
  · next h0 =>
    rw [divC_get s d n (k - 1) (by omega)]
    obtain ⟨j, rfl⟩ : ∃ j, k = j + 1 := ⟨k - 1, by omega⟩
    rfl
theorem divC_good {s : ByteArray} {d : Int} (hs : numOk s = true) (hd : 1 ≤ d) (n : Nat) (hn : n ≤ s.size) (k : Nat) (hk : k < (divC s d n).1.length) : goodS d ((divC s d n).1.getD k noStp) = true := by
  rw [divC_len] at hk
  rw [divC_get s d n k hk]
  exact step_good hd (divC_bd hd k) (digF_bd hs k (by omega))
/-- The digits of the quotient. -/
def quoD (cs : List Stp) : List Int := cs.map fun c => c.2.2.1
theorem quoD_len (cs : List Stp) : (quoD cs).length = cs.length := by simp [quoD]
def lastS (cs : List Stp) : Int := if cs.length = 0 then 0 else (cs.getD (cs.length - 1) noStp).2.2.2
theorem divC_last (s : ByteArray) (d : Int) (n : Nat) : lastS (divC s d n).1 = (divC s d n).2 := by
  unfold lastS
  rw [divC_len]
  split
  · next h => subst h; rfl
  · next h =>
    rw [divC_get s d n (n - 1) (by omega)]
    obtain ⟨j, rfl⟩ : ∃ j, n = j + 1 := ⟨n - 1, by omega⟩
    rfl
/-- The quotient of a numeral, and what is left. -/
def quoI (s : ByteArray) (d : Int) : ByteArray × Int × Bool := if numOk s && inB d 1 99 then (plainT (quoD (divC s d s.size).1), (divC s d s.size).2, true) else (⟨#[]⟩, -1, false)
theorem quoI_bd (s : ByteArray) (d : Int) : -1 ≤ (quoI s d).2.1 ∧ (quoI s d).2.1 < 99 := by
  unfold quoI
  split
  · next h =>
    simp only [Bool.and_eq_true, inB_true] at h
    have := divC_bd (s := s) (d := d) (by omega) s.size
    dsimp only; omega
  · dsimp only; omega
theorem quoD_bd {cs : List Stp} {d : Int} (h : ∀ k, k < cs.length → goodS d (cs.getD k noStp) = true) : ∀ q ∈ quoD cs, 0 ≤ q ∧ q ≤ 9 := by
  intro q hq
  unfold quoD at hq
  rw [List.mem_map] at hq
  obtain ⟨c, hc, rfl⟩ := hq
  obtain ⟨k, hk, rfl⟩ := List.getElem_of_mem hc
  have := h k hk
  have e : cs.getD k noStp = cs[k] := by simp [List.getD_eq_getElem?_getD, hk]
  rw [e] at this
  simp only [goodS, isD, Bool.and_eq_true, inB_true] at this
  exact this.1.1.2
end Go.Proofs.YtdngnmpmaacapaaGreatDoor
