/-
  Merged: Tell NineP.
-/
import Derived.Test.YtdngnmpmaacapaaGreatDoorMOrdP
import Derived.Laws.DeepStrings4
import Derived.Lib.ItoaNum
import Derived.Deep.RegionWith
set_option linter.unusedVariables false
set_option linter.unusedSimpArgs false
/-
  Contracts: l1Number of the reference: a number in decimal, for numbers of at most three digits (a negative one reads 0); and the texts of answers.
-/
namespace Go.Proofs.YtdngnmpmaacapaaGreatDoor
open Go.RowKit

/-- A number in decimal. -/
def decS (n : Nat) : ByteArray := ⟨(Lib.decDigits n).toArray⟩
theorem decS_one {n : Nat} (h : n < 10) : decS n = ⟨#[UInt8.ofNat (48 + n)]⟩ := by unfold decS; rw [Lib.decDigits_one h]
theorem decS_more {n : Nat} (h : ¬ n < 10) : decS n = decS (n / 10) ++ ⟨#[UInt8.ofNat (48 + n % 10)]⟩ := by
  unfold decS
  conv => lhs; rw [Lib.decDigits, dif_neg h]
  apply ByteArray.ext
  simp [ByteArray.data_append]
theorem one_size (c : UInt8) : (⟨#[c]⟩ : ByteArray).size = 1 := rfl
theorem decS_size2 {n : Nat} (h : n < 100) : (decS n).size ≤ 2 := by
  by_cases h1 : n < 10
  · rw [decS_one h1, one_size]; omega
  · rw [decS_more h1, decS_one (by omega), ByteArray.size_append, one_size, one_size]; omega
theorem decS_size3 {n : Nat} (h : n < 1000) : (decS n).size ≤ 3 := by
  by_cases h1 : n < 10
  · rw [decS_one h1, one_size]; omega
  · rw [decS_more h1, ByteArray.size_append, one_size]
    have := decS_size2 (n := n / 10) (by omega)
    omega
theorem convByteX (z : Int) (h0 : 0 ≤ z) (h1 : z < 256) (b : Nat) (w : World) (hc : w.cell? ⟨b, 0, none⟩ = some (.int .u8 z)) :
    (convert 22 9 (.slice (some ⟨b, 0, none⟩) 1 1)).run Tryz.prog w = .ok (.string ⟨#[UInt8.ofNat z.toNat]⟩) w := by
  obtain ⟨c, rfl⟩ := Int.eq_ofNat_of_zero_le h0
  exact run_convert_bytes_back _ _ _ 5 ⟨b, 0, none⟩ 1 [UInt8.ofNat c] Tryz.underlying22 Tryz.underlying5 Tryz.underlying9 (by
    intro j hj
    have : j = 0 := by simpa using hj
    subst this
    have e : (UInt8.ofNat c).toNat = c := by simp [UInt8.toNat_ofNat]; omega
    simp [Addr.add, hc, e])
set_option maxRecDepth 100000 in
theorem l1Number_one (c : Nat) (w : World) (h1 : c < 10) : Calls Tryz.prog 43 #[.int .i64 (c : Int)] w fun e w' => e = .returned (.string (decS c)) ∧ Fr w.heap.size none w w' := by
  have e48 : ((48 : Int) + (c : Int)).toNat = 48 + c := by omega
  have hr := Lib.hid (show (⟨#[UInt8.ofNat (((48 : Int) + (c : Int)).toNat)]⟩ : ByteArray) = decS c by rw [e48, decS_one h1])
  have hcv := convByteX (48 + (c : Int)) (by omega) (by omega) w.heap.size (w.alloc (.cells #[.int .u8 (48 + (c : Int))] 5)) (World.cell?_alloc_at _ _ _ _ rfl)
  have hlt : (c : Int) < 10 := by omega
  clear e48
  go_enter Tryz.func43, Tryz.ntmps43
  go_wp2
  go_ret
  exact ⟨by rw [← hr.out]; rfl, (Fr.refl _ _ _).alloc (Nat.le_refl _) _⟩
set_option maxRecDepth 100000 in
theorem l1Number_neg (w : World) : Calls Tryz.prog 43 #[.int .i64 (-1)] w fun e w' => e = .returned (.string (decS 0)) ∧ Fr w.heap.size none w w' := by
  have hr := Lib.hid (show (⟨#[UInt8.ofNat ((48 : Int).toNat)]⟩ : ByteArray) = decS 0 by rw [decS_one (by omega)]; rfl)
  have hcv := convByteX 48 (by omega) (by omega) w.heap.size (w.alloc (.cells #[.int .u8 48] 5)) (World.cell?_alloc_at _ _ _ _ rfl)
  go_enter Tryz.func43, Tryz.ntmps43
  go_wp2
  go_ret
  exact ⟨by rw [← hr.out]; rfl, (Fr.refl _ _ _).alloc (Nat.le_refl _) _⟩
set_option maxHeartbeats 2000000 in
set_option maxRecDepth 100000 in
theorem l1Number_step (c : Nat) (w : World) (h0 : ¬ c < 10) (h1 : c < 1000) (CR : ∀ W, Calls Tryz.prog 43 #[.int .i64 ((c / 10 : Nat) : Int)] W fun e w' => e = .returned (.string (decS (c / 10))) ∧ Fr W.heap.size none W w') :
    Calls Tryz.prog 43 #[.int .i64 (c : Int)] w fun e w' => e = .returned (.string (decS c)) ∧ Fr w.heap.size none w w' := by
  obtain ⟨q, hq⟩ : ∃ q : Nat, c / 10 = q := ⟨_, rfl⟩
  obtain ⟨r, hr⟩ : ∃ r : Nat, c % 10 = r := ⟨_, rfl⟩
  have e48 : ((48 : Int) + (r : Int)).toNat = 48 + r := by omega
  have HR := Lib.hid (show decS q ++ (⟨#[UInt8.ofNat (((48 : Int) + (r : Int)).toNat)]⟩ : ByteArray) = decS c by rw [e48, decS_more h0, hq, hr])
  have sq := decS_size3 (n := q) (by omega)
  rw [hq] at CR
  have CR := Lib.hid CR
  have hge : (10 : Int) ≤ (c : Int) := by omega
  have hdv : (c : Int).tdiv 10 = (q : Int) := by rw [Int.tdiv_eq_ediv_of_nonneg (by omega)]; omega
  have hmd : (c : Int).tmod 10 = (r : Int) := by rw [Int.tmod_eq_emod_of_nonneg (by omega)]; omega
  have hdv2 : (c : Int) / 10 = (q : Int) := by omega
  have hmd2 : (c : Int) % 10 = (r : Int) := by omega
  have hcv := fun W : World => convByteX (48 + (r : Int)) (by omega) (by omega) W.heap.size (W.alloc (.cells #[.int .u8 (48 + (r : Int))] 5)) (World.cell?_alloc_at _ _ _ _ rfl)
  have ad := fun W => run_string_add_sum (P := Tryz.prog) W (decS q) (⟨#[UInt8.ofNat (((48 : Int) + (r : Int)).toNat)]⟩ : ByteArray) (by rw [one_size]; omega)
  have r0 : (0 : Int) ≤ (r : Int) ∧ (r : Int) ≤ 9 := by omega
  have kw1 : IntKind.i64.wrap (48 + (r : Int)) = 48 + (r : Int) := by simp [IntKind.wrap, IntKind.bits, IntKind.signed]; omega
  have kw2 : IntKind.u8.wrap (48 + (r : Int)) = 48 + (r : Int) := by simp [IntKind.wrap, IntKind.bits, IntKind.signed]; omega
  have kw3 : IntKind.i64.wrap (q : Int) = (q : Int) := by simp [IntKind.wrap, IntKind.bits, IntKind.signed]; omega
  have kw4 : IntKind.i64.wrap (r : Int) = (r : Int) := by simp [IntKind.wrap, IntKind.bits, IntKind.signed]; omega
  clear hq hr e48 h0
  generalize decS q = D at *
  have hcvd := convByteX (48 + (r : Int)) (by omega) (by omega) w.heap.size ((w.alloc (.cells #[.int .u8 (48 + (r : Int))] 5)).drew) (show (w.alloc (.cells #[.int .u8 (48 + (r : Int))] 5)).cell? ⟨w.heap.size, 0, none⟩ = some (.int .u8 (48 + (r : Int))) from World.cell?_alloc_at _ _ _ _ rfl)
  go_enter Tryz.func43, Tryz.ntmps43
  go_wp2
  go_region_with (go_at_call 43; refine (CR.out _).mono ?_; rintro e w4 ⟨rfl, hF4⟩; (
    try have A1 : w4.cell? ⟨w.heap.size, 0, none⟩ = some (.int .u8 (48 + (r : Int))) := (hF4.cell (p := ⟨w.heap.size, 0, none⟩) (by simp) (by simp)).trans (show (w.alloc (.cells #[.int .u8 (48 + (r : Int))] 5)).cell? ⟨w.heap.size, 0, none⟩ = some (.int .u8 (48 + (r : Int))) from World.cell?_alloc_at _ _ _ _ rfl)
    try have A2 := convByteX (48 + (r : Int)) (by omega) (by omega) w.heap.size w4 A1
    try clear A1))
  all_goals
    have F4 := Lib.hid (show Fr w.heap.size none w w4 by first | exact (Fr.refl _ _ w).drew.and hF4 | exact (((Fr.refl w.heap.size none w).alloc (Nat.le_refl _) _).drew).and hF4)
    clear hF4
    go_wp2
    go_ret
    first
      | exact ⟨by rw [← HR.out]; rfl, F4.out⟩
      | exact ⟨by rw [← HR.out]; rfl, F4.out.alloc F4.out.size _⟩
theorem l1Number_any (c : Nat) (w : World) (h : c < 1000) : Calls Tryz.prog 43 #[.int .i64 (c : Int)] w fun e w' => e = .returned (.string (decS c)) ∧ Fr w.heap.size none w w' := by
  by_cases h1 : c < 10
  · exact l1Number_one c w h1
  · refine l1Number_step c w h1 h fun W => ?_
    by_cases h2 : c / 10 < 10
    · exact l1Number_one _ W h2
    · exact l1Number_step _ W h2 (by omega) fun W2 => l1Number_one _ W2 (by omega)
/-- A number from -1 on, as l1Number writes it. -/
theorem l1Number_int (n : Int) (w : World) (h0 : -1 ≤ n) (h1 : n < 1000) : Calls Tryz.prog 43 #[.int .i64 n] w fun e w' => e = .returned (.string (decS n.toNat)) ∧ Fr w.heap.size none w w' := by
  by_cases h : 0 ≤ n
  · obtain ⟨c, rfl⟩ := Int.eq_ofNat_of_zero_le h
    exact l1Number_any c w (by omega)
  · have : n = -1 := by omega
    subst this
    exact l1Number_neg w
def noneS : ByteArray := ⟨#[110, 111, 110, 101]⟩
def orS (s : ByteArray) (ok : Bool) : ByteArray := if ok then s else noneS
theorem told_any (s : ByteArray) (ok : Bool) (w : World) : Calls Tryz.prog 46 #[.string s, .bool ok] w fun e w' => e = .returned (.string (orS s ok)) ∧ w = w' := by
  cases ok
  all_goals
    go_enter Tryz.func46, Tryz.ntmps46
    go_wp2
    go_ret
    exact ⟨rfl, rfl⟩
theorem or_any (s : ByteArray) (ok : Bool) (w : World) : Calls Tryz.prog 112 #[.string s, .bool ok] w fun e w' => e = .returned (.string (orS s ok)) ∧ w = w' := by
  cases ok
  all_goals
    go_enter Tryz.func112, Tryz.ntmps112
    go_wp2
    go_ret
    exact ⟨rfl, rfl⟩
end Go.Proofs.YtdngnmpmaacapaaGreatDoor
/-
  Plain laws: sums of digits, what is left by nine and by eleven. No program is named here.
-/
namespace Go.Proofs.YtdngnmpmaacapaaGreatDoor
open Go.RowKit

def sumF (f : Nat → Int) : Nat → Int
  | 0 => 0
  | k + 1 => sumF f k + f k
theorem sumF_congr {f g : Nat → Int} : ∀ (n : Nat), (∀ k, k < n → f k = g k) → sumF f n = sumF g n
  | 0, _ => rfl
  | n + 1, h => by simp only [sumF]; rw [sumF_congr n (fun k hk => h k (by omega)), h n (by omega)]
theorem sumF_shift (f : Nat → Int) : ∀ n, sumF f (n + 1) = f 0 + sumF (fun k => f (k + 1)) n
  | 0 => by simp [sumF]
  | n + 1 => by
    have := sumF_shift f n
    simp only [sumF] at this ⊢
    omega
theorem sumF_rev (f : Nat → Int) : ∀ n, sumF (fun k => f (n - 1 - k)) n = sumF f n
  | 0 => rfl
  | n + 1 => by
    rw [sumF_shift]
    have e : sumF (fun k => f (n + 1 - 1 - (k + 1))) n = sumF (fun k => f (n - 1 - k)) n := sumF_congr n fun k hk => by rw [show n + 1 - 1 - (k + 1) = n - 1 - k by omega]
    rw [e, sumF_rev f n]
    simp only [sumF]
    have : n + 1 - 1 - 0 = n := by omega
    rw [this]; omega
def digSum (s : ByteArray) : Int := sumF (digI s) s.size
theorem digSum_bd {s : ByteArray} (h : numOk s = true) (k : Nat) : 0 ≤ sumF (digI s) k ∧ sumF (digI s) k ≤ 9 * k := by
  induction k with
  | zero => simp [sumF]
  | succ k ih => have := digI_bd h k; simp only [sumF]; omega
def dsI (s : ByteArray) : Int := if numOk s then digSum s else -1
def nineI (s : ByteArray) : Int := if numOk s then digSum s % 9 else -1
/-- The digits by turns more and less. -/
def altF (s : ByteArray) (k : Nat) : Int := if k % 2 = 0 then digI s k else -digI s k
def altTo (s : ByteArray) (k : Nat) : Int := sumF (altF s) k
theorem altTo_bd {s : ByteArray} (h : numOk s = true) (k : Nat) : -(9 * k) ≤ altTo s k ∧ altTo s k ≤ 9 * k := by
  induction k with
  | zero => simp [altTo, sumF]
  | succ k ih =>
    have := digI_bd h k
    simp only [altTo, sumF, altF] at ih ⊢
    split <;> omega
def elevI (s : ByteArray) : Int := if numOk s then altTo s s.size % 11 else -1
theorem decS_two {n : Nat} (h1 : ¬ n < 10) (h2 : n < 100) : decS n = ⟨#[UInt8.ofNat (48 + n / 10), UInt8.ofNat (48 + n % 10)]⟩ := by
  unfold decS; rw [Lib.decDigits_two h1 h2]
theorem dec_byte {d : Nat} (h : d < 10) : (UInt8.ofNat (48 + d)).toNat = 48 + d := by simp [UInt8.toNat_ofNat]; omega
theorem two_ok {a b : Nat} (ha : a < 10) (hb : b < 10) (h : a ≠ 0) : numOk ⟨#[UInt8.ofNat (48 + a), UInt8.ofNat (48 + b)]⟩ = true := by
  have h1 := dec_byte ha; have h2 := dec_byte hb
  have : ∀ x : Fin 10, ∀ y : Fin 10, x.val ≠ 0 → numOk ⟨#[UInt8.ofNat (48 + x.val), UInt8.ofNat (48 + y.val)]⟩ = true := by decide
  exact this ⟨a, ha⟩ ⟨b, hb⟩ h
theorem two_sum {a b : Nat} (ha : a < 10) (hb : b < 10) : digSum ⟨#[UInt8.ofNat (48 + a), UInt8.ofNat (48 + b)]⟩ = (a : Int) + b := by
  have h1 := dec_byte ha; have h2 := dec_byte hb
  show sumF _ 2 = _
  have e0 : digI ⟨#[UInt8.ofNat (48 + a), UInt8.ofNat (48 + b)]⟩ 0 = b := by
    unfold digI
    rw [if_pos (by show 0 < 2; omega)]
    show ((UInt8.ofNat (48 + b)).toNat : Int) - 48 = b
    rw [h2]; omega
  have e1 : digI ⟨#[UInt8.ofNat (48 + a), UInt8.ofNat (48 + b)]⟩ 1 = a := by
    unfold digI
    rw [if_pos (by show 1 < 2; omega)]
    show ((UInt8.ofNat (48 + a)).toNat : Int) - 48 = a
    rw [h1]; omega
  simp only [sumF, e0, e1]; omega
theorem dec_two {n : Nat} (h1 : ¬ n < 10) (h2 : n < 100) : dsI (decS n) = ((n / 10 + n % 10 : Nat) : Int) := by
  rw [decS_two h1 h2]
  unfold dsI
  rw [if_pos (two_ok (by omega) (by omega) (by omega)), two_sum (by omega) (by omega)]; omega
end Go.Proofs.YtdngnmpmaacapaaGreatDoor
