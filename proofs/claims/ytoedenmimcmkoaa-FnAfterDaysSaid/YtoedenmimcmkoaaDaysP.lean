/-
  Plain laws: what several days do. No program is named here.
-/
import Derived.Test.YtoedenmimcmkoaaDeckP
namespace Go.Proofs.Ytoedenmimcmkoaa
open Go.RowKit

/-- The deck after n days from a day on. -/
def runC (cs : List (Int × Int)) (ks : List Int) (day : Int) : Nat → List (Int × Int)
  | 0 => cs
  | n + 1 => upTo (runC cs ks day n) (day + n) ks (runC cs ks day n).length
/-- How many questions these days ask. -/
def runN (cs : List (Int × Int)) (ks : List Int) (day : Int) : Nat → Nat
  | 0 => 0
  | n + 1 => runN cs ks day n + dueN (runC cs ks day n) (day + n) (runC cs ks day n).length
theorem runC_length (cs : List (Int × Int)) (ks : List Int) (day : Int) (n : Nat) : (runC cs ks day n).length = cs.length := by
  induction n with
  | zero => rfl
  | succ n ih => simp only [runC]; rw [upTo_length, ih]
theorem runC_ok {cs : List (Int × Int)} {ks : List Int} {day : Int} (h : deckOkB cs = true) (h0 : 0 ≤ day) (n : Nat) (hn : day + n ≤ 201) : deckOkB (runC cs ks day n) = true := by
  induction n with
  | zero => exact h
  | succ n ih => simp only [runC]; exact upTo_ok (ih (by omega)) ⟨by omega, by omega⟩
theorem runN_le (cs : List (Int × Int)) (ks : List Int) (day : Int) (n : Nat) : runN cs ks day n ≤ n * cs.length := by
  induction n with
  | zero => simp [runN]
  | succ n ih =>
    have h1 : dueN (runC cs ks day n) (day + n) (runC cs ks day n).length ≤ (runC cs ks day n).length := dueTo_len _ _ _
    rw [runC_length] at h1
    simp only [runN, Nat.succ_mul]
    rw [runC_length]
    omega
def daysOk (cs : List (Int × Int)) (a b : Int) (ks : List Int) : Bool := knownB cs ks && (inB b 0 200 && inB a 0 b)
def daysC (cs : List (Int × Int)) (a b : Int) (ks : List Int) : List (Int × Int) := if daysOk cs a b ks then runC cs ks a (b - a).toNat else []
def daysN (cs : List (Int × Int)) (a b : Int) (ks : List Int) : Int := if daysOk cs a b ks then runN cs ks a (b - a).toNat else 0
theorem daysC_no {cs : List (Int × Int)} {a b : Int} {ks : List Int} (h : daysOk cs a b ks = false) : [] = daysC cs a b ks := by simp [daysC, h]
theorem daysN_no {cs : List (Int × Int)} {a b : Int} {ks : List Int} (h : daysOk cs a b ks = false) : 0 = daysN cs a b ks := by simp [daysN, h]
theorem daysC_yes {cs : List (Int × Int)} {a b : Int} {ks : List Int} (h : daysOk cs a b ks = true) : runC cs ks a (b - a).toNat = daysC cs a b ks := by simp [daysC, h]
theorem daysN_yes {cs : List (Int × Int)} {a b : Int} {ks : List Int} (h : daysOk cs a b ks = true) : (runN cs ks a (b - a).toNat : Int) = daysN cs a b ks := by simp [daysN, h]
theorem daysC_len (cs : List (Int × Int)) (a b : Int) (ks : List Int) : (daysC cs a b ks).length ≤ 1048576 := by
  unfold daysC; split
  · next h => simp only [daysOk, knownB, Bool.and_eq_true] at h; have := deck_len h.1.1; rw [runC_length]; omega
  · simp
end Go.Proofs.Ytoedenmimcmkoaa
