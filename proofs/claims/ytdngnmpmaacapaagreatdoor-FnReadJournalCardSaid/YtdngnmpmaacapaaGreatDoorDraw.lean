/-
  Contracts of the reader of codes: l20Open, pick, odd.
-/
import Derived.Test.YtdngnmpmaacapaaGreatDoorBase
import Derived.Test.YtdngnmpmaacapaaGreatDoorProg
import Derived.KernelRfl
namespace Go.Proofs.YtdngnmpmaacapaaGreatDoor
open Go.RowKit

def u8s (xs : List Int) : List Value := xs.map (Value.int .u8)
theorem Sl.u8 {w : World} {a : Option Addr} {xs : List Int} (h : Sl w a (u8s xs)) (k : Nat) (hk : k < xs.length) :
    ∃ b off, a = some ⟨b, off, none⟩ ∧ w.cell? ⟨b, off + k, none⟩ = some (.int .u8 (xs.getD k 0)) := by
  obtain ⟨b, off, ha, hc⟩ := h k (by simpa [u8s] using hk)
  exact ⟨b, off, ha, by rw [hc]; simp [u8s, List.getD_eq_getElem?_getD, hk]⟩

/-- Block B is a reader of a code that lies below it; at most N numbers were picked. -/
def Rdr (w : World) (B N : Nat) : Prop :=
  ∃ (a : Option Addr) (cap : Nat) (bs : List Int) (p : Nat), w.heap[B]? = some (.cells #[.slice a bs.length cap, .int .i64 p] 103) ∧ Sl w a (u8s bs) ∧ (∀ q, a = some q → 0 < bs.length → q.block < B) ∧ (∀ x ∈ bs, 0 ≤ x ∧ x ≤ 255) ∧ p ≤ N ∧ bs.length ≤ 2000
theorem Rdr.lt {w : World} {B N : Nat} (h : Rdr w B N) : B < w.heap.size := by
  obtain ⟨a, cap, bs, p, hb, _⟩ := h
  exact (Array.getElem?_eq_some_iff.1 hb).1
theorem Rdr.fr {w w' : World} {B N C : Nat} {r : Option Nat} (h : Rdr w B N) (hF : Fr C r w w') (hC : B < C) (hr : ∀ g, r = some g → B < g) : Rdr w' B N := by
  obtain ⟨a, cap, bs, p, hb, hs, hlt, hbs, hp, hn⟩ := h
  refine ⟨a, cap, bs, p, ?_, hs.frL hF fun q hq hl => ?_, hlt, hbs, hp, hn⟩
  · rw [hF.block B hC (fun e => by have := hr B e.symm; omega)]; exact hb
  · have := hlt q hq (by simpa [u8s] using hl)
    exact ⟨by omega, fun e => by have := hr _ e.symm; omega⟩
theorem Rdr.drewN {w : World} {B N : Nat} (h : Rdr w B N) (m : Nat) : Rdr (w.drewN m) B N := h
theorem Rdr.mono {w : World} {B N N' : Nat} (h : Rdr w B N) (hN : N ≤ N') : Rdr w B N' := by
  obtain ⟨a, cap, bs, p, hb, hs, hlt, hbs, hp, hn⟩ := h
  exact ⟨a, cap, bs, p, hb, hs, hlt, hbs, by omega, hn⟩

/-- What pick returns for n. -/
def Picked (r n : Int) : Prop := 0 ≤ r ∧ (1 ≤ n → r < n) ∧ (n < 1 → r = 0)
def PickPost (B N : Nat) (n : Int) (w : World) (e : Ending) (w' : World) : Prop :=
  ∃ r : Int, e = .returned (.int .i64 r) ∧ Picked r n ∧ Rdr w' B (N + 1) ∧ Fr w.heap.size (some B) w w'

theorem xor_i64_nat (a b : Nat) (ha : a < 9223372036854775808) (hb : b < 9223372036854775808) : bits .xor .i64 (a : Int) (b : Int) = ((a ^^^ b : Nat) : Int) := by
  have hx : a ^^^ b < 2 ^ 63 := Nat.xor_lt_two_pow (by omega) (by omega)
  have h1 : (BitVec.ofInt 64 (a : Int)).toNat = a := by
    rw [BitVec.ofInt_natCast, BitVec.toNat_ofNat]; exact Nat.mod_eq_of_lt (by omega)
  have h2 : (BitVec.ofInt 64 (b : Int)).toNat = b := by
    rw [BitVec.ofInt_natCast, BitVec.toNat_ofNat]; exact Nat.mod_eq_of_lt (by omega)
  show IntKind.i64.wrap ((BitVec.ofInt 64 (a : Int) ^^^ BitVec.ofInt 64 (b : Int)).toNat : Int) = _
  rw [BitVec.toNat_xor, h1, h2]
  simp [IntKind.wrap, IntKind.bits, IntKind.signed]
  omega
theorem xor_bd (X : Int) (h0 : 0 ≤ X) (h1 : X < 9223372036854775808) : 0 ≤ bits .xor .i64 X (X / 64) ∧ bits .xor .i64 X (X / 64) ≤ 9223372036854775807 := by
  obtain ⟨a, rfl⟩ := Int.eq_ofNat_of_zero_le h0
  have d : ((a : Int) / 64) = ((a / 64 : Nat) : Int) := by simp
  have hx : a ^^^ (a / 64) < 2 ^ 63 := Nat.xor_lt_two_pow (by omega) (by omega)
  rw [d, xor_i64_nat a (a / 64) (by omega) (by omega)]
  omega

theorem pick_any (B N : Nat) (n : Int) (w : World) (h : Rdr w B N) (hN : N ≤ 1099511627776) :
    Calls Tryz.prog 65 #[.pointer (some ⟨B, 0, none⟩), .int .i64 n] w (PickPost B N n w) := by
  have hBl := h.lt
  obtain ⟨a, cap, bs, p, hb, hs, hlt, hbs, hp, hn⟩ := h
  have c0 : w.cell? ⟨B, 0, none⟩ = some (.slice a bs.length cap) := by simp [World.cell?, hb]
  have c1 : w.cell? ⟨B, 1, none⟩ = some (.int .i64 p) := by simp [World.cell?, hb]
  have f1 : w.frozen? ⟨B, 1, none⟩ = false := by simp [World.frozen?, hb]
  have HF := Lib.hid ((Fr.refl w.heap.size (some B) w).setCell (p := ⟨B, 1, none⟩) (.inr rfl) (.int .i64 ((p : Int) + 1)))
  have hb' : (w.setCell ⟨B, 1, none⟩ (.int .i64 ((p : Int) + 1))).heap[B]? = some (.cells #[.slice a bs.length cap, .int .i64 ((p + 1 : Nat) : Int)] 103) := by
    simp [World.setCell, Array.getElem?_modify, hb]
  have HR : Hid (Rdr (w.setCell ⟨B, 1, none⟩ (.int .i64 ((p : Int) + 1))) B (N + 1)) :=
    ⟨a, cap, bs, p + 1, hb', hs.frL HF.out (fun q hq hl => by have := hlt q hq (by simpa [u8s] using hl); exact ⟨by omega, by simp; omega⟩), hlt, hbs, by omega, hn⟩
  clear hb hb'
  have HL := Lib.hid hlt; clear hlt
  have HS := Lib.hid hs; clear hs
  by_cases h1 : n < 1
  · go_enter Tryz.func65, Tryz.ntmps65
    go_wp2
    go_ret
    exact ⟨0, rfl, ⟨by omega, by omega, fun _ => rfl⟩, HR.out, HF.out⟩
  · have h1' : 1 ≤ n := by omega
    by_cases h0 : bs.length = 0
    · have hz : ((bs.length : Int) == 0) = true := by rw [h0]; rfl
      clear h0
      go_enter Tryz.func65, Tryz.ntmps65
      go_wp2
      go_ret
      exact ⟨0, rfl, ⟨by omega, by omega, fun _ => rfl⟩, HR.out, HF.out⟩
    · have hz : ((bs.length : Int) == 0) = false := by rw [beq_eq_false_iff_ne]; omega
      have hp0 : 0 < bs.length := by omega
      clear h0
      by_cases hpl : p < bs.length
      · have hpl' : (p : Int) < (bs.length : Int) := by omega
        obtain ⟨b, off, rfl, hc⟩ := HS.out.u8 p hpl
        have hbB : b < B := HL.out _ rfl hp0
        have hx := hbs (bs.getD p 0) (by simp [List.getD_eq_getElem?_getD, hpl])
        generalize bs.getD p 0 = x at *
        obtain ⟨hx0, hx1⟩ := hx
        clear hbs
        have hr : Picked (x % n) n := ⟨Int.emod_nonneg _ (by omega), fun _ => Int.emod_lt_of_pos _ (by omega), fun h => by omega⟩
        have HP := Lib.hid hr; clear hr
        go_enter Tryz.func65, Tryz.ntmps65
        go_wp2
        go_ret
        exact ⟨_, rfl, HP.out, HR.out, HF.out⟩
      · have hpl' : (bs.length : Int) ≤ (p : Int) := by omega
        have hm1 : p % bs.length < bs.length := Nat.mod_lt _ hp0
        have hm2 : (p * 7 + 3) % bs.length < bs.length := Nat.mod_lt _ hp0
        obtain ⟨b, off, rfl, hc⟩ := HS.out.u8 (p % bs.length) hm1
        obtain ⟨b2, off2, hb2, hc2⟩ := HS.out.u8 ((p * 7 + 3) % bs.length) hm2
        cases hb2
        have hbB : b < B := HL.out _ rfl hp0
        obtain ⟨hx0, hx1⟩ := hbs (bs.getD (p % bs.length) 0) (by simp [List.getD_eq_getElem?_getD, hm1])
        obtain ⟨hy0, hy1⟩ := hbs (bs.getD ((p * 7 + 3) % bs.length) 0) (by simp [List.getD_eq_getElem?_getD, hm2])
        generalize bs.getD (p % bs.length) 0 = x at *
        generalize bs.getD ((p * 7 + 3) % bs.length) 0 = y at *
        have e1 : ((p : Int) % (bs.length : Int)).toNat = p % bs.length := by rw [← Int.natCast_emod, Int.toNat_natCast]
        have e2 : (((p : Int) * 7 + 3) % (bs.length : Int)).toNat = (p * 7 + 3) % bs.length := by
          rw [show ((p : Int) * 7 + 3) = ((p * 7 + 3 : Nat) : Int) by simp, ← Int.natCast_emod, Int.toNat_natCast]
        have l1 : (p : Int) % (bs.length : Int) < bs.length := Int.emod_lt_of_pos _ (by omega)
        have l2 : ((p : Int) * 7 + 3) % (bs.length : Int) < bs.length := Int.emod_lt_of_pos _ (by omega)
        have l3 : 0 ≤ (p : Int) % (bs.length : Int) := Int.emod_nonneg _ (by omega)
        have l4 : 0 ≤ ((p : Int) * 7 + 3) % (bs.length : Int) := Int.emod_nonneg _ (by omega)
        have l5 : 0 ≤ (p : Int) / (bs.length : Int) := Int.ediv_nonneg (by omega) (by omega)
        have l6 : (p : Int) / (bs.length : Int) ≤ p := Int.ediv_le_self _ (by omega)
        clear hbs
        obtain ⟨x1, x2⟩ := xor_bd (x * 131 + y * 1117 + ↑p * 29 + ↑p / ↑bs.length * 53) (by omega) (by omega)
        have hr : Picked (bits .xor .i64 (x * 131 + y * 1117 + ↑p * 29 + ↑p / ↑bs.length * 53) ((x * 131 + y * 1117 + ↑p * 29 + ↑p / ↑bs.length * 53) / 64) % n) n := ⟨Int.emod_nonneg _ (by omega), fun _ => Int.emod_lt_of_pos _ (by omega), fun h => by omega⟩
        have HP := Lib.hid hr; clear hr
        go_enter Tryz.func65, Tryz.ntmps65
        go_wp2
        go_quiet (fail)
        go_wp2
        go_ret
        exact ⟨_, rfl, HP.out, HR.out.drewN _, HF.out.drewN _⟩

def OddPost (B N : Nat) (n : Int) (w : World) (e : Ending) (w' : World) : Prop :=
  ∃ b : Bool, e = .returned (.bool b) ∧ (n ≤ 0 → b = false) ∧ Rdr w' B (N + 1) ∧ Fr w.heap.size (some B) w w'
theorem odd_any (B N : Nat) (n : Int) (w : World) (h : Rdr w B N) (hN : N ≤ 1099511627776) (hn : n ≤ 1000000) :
    Calls Tryz.prog 66 #[.pointer (some ⟨B, 0, none⟩), .int .i64 n] w (OddPost B N n w) := by
  have H := Lib.hid h; clear h
  by_cases h0 : 0 < n
  · go_enter Tryz.func66, Tryz.ntmps66
    go_wp2_with fail
    refine (pick_any B N _ _ H.out hN).mono ?_; rintro e w' ⟨r, rfl, hr, hR, hF⟩
    have HR := Lib.hid hR; clear hR
    clear hr
    go_wp2
    go_ret
    exact ⟨_, rfl, fun h => by omega, HR.out, hF⟩
  · have h0' : n ≤ 0 := by omega
    go_enter Tryz.func66, Tryz.ntmps66
    go_wp2
    go_ret
    exact ⟨false, rfl, fun _ => rfl, H.out.mono (by omega), Fr.refl _ _ _⟩

/-- A reader is opened. -/
def OpenPost (w : World) (e : Ending) (w' : World) : Prop := ∃ B, e = .returned (.pointer (some ⟨B, 0, none⟩)) ∧ w.heap.size ≤ B ∧ Rdr w' B 0 ∧ Fr w.heap.size none w w'
theorem l20Open_any (a : Option Addr) (cap : Nat) (bs : List Int) (w : World) (hs : Sl w a (u8s bs)) (hb : ∀ x ∈ bs, 0 ≤ x ∧ x ≤ 255) (hn : bs.length ≤ 1048576) (hcap : bs.length ≤ cap) :
    Calls Tryz.prog 37 #[.slice a bs.length cap] w (OpenPost w) := by
  have hlt : ∀ q, a = some q → 0 < bs.length → q.block < w.heap.size := by
    intro q hq h0
    obtain ⟨b, off, h1, h2⟩ := hs 0 (by simpa [u8s] using h0)
    rw [hq] at h1; cases h1
    exact World.block_lt_of_cell? w _ h2
  have HS := Lib.hid hs; clear hs
  have HL := Lib.hid hlt; clear hlt
  have HB := Lib.hid hb; clear hb
  by_cases h : bs.length ≤ 2000
  · go_enter Tryz.func37, Tryz.ntmps37
    go_wp2
    go_ret
    exact ⟨w.heap.size, rfl, Nat.le_refl _, ⟨a, cap, bs, 0, heap_alloc_new w _, HS.out.fr ((Fr.refl _ _ _).alloc (Nat.le_refl _) _), HL.out, HB.out, Nat.le_refl _, h⟩, (Fr.refl _ _ _).alloc (Nat.le_refl _) _⟩
  · have h1 : (2000 : Int) < bs.length := by omega
    have hl : (bs.take 2000).length = 2000 := by rw [List.length_take]; omega
    have hs2 : Hid (Sl w a (u8s (bs.take 2000))) := by
      intro j hj
      have hj' : j < 2000 := by have : j < (u8s (bs.take 2000)).length := hj; rw [u8s, List.length_map, hl] at this; exact this
      obtain ⟨b, off, e1, e2⟩ := HS.out j (by simp [u8s]; omega)
      exact ⟨b, off, e1, by rw [e2]; simp [u8s]⟩
    have HLen := Lib.hid hl; clear hl
    go_enter Tryz.func37, Tryz.ntmps37
    go_wp2
    go_ret
    refine ⟨w.heap.size, rfl, Nat.le_refl _, ⟨a, cap, bs.take 2000, 0, ?_, hs2.out.fr ((Fr.refl _ _ _).alloc (Nat.le_refl _) _), ?_, fun x hx => HB.out x (List.mem_of_mem_take hx), Nat.le_refl _, ?_⟩, (Fr.refl _ _ _).alloc (Nat.le_refl _) _⟩
    · rw [HLen.out]; exact heap_alloc_new w _
    · intro q hq _; exact HL.out q hq (by omega)
    · rw [HLen.out]; exact Nat.le_refl _
end Go.Proofs.YtdngnmpmaacapaaGreatDoor
