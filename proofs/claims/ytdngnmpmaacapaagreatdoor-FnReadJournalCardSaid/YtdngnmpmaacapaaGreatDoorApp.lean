/-
  One law on 'append(out, x)' of one element to a slice that the call itself made, in the form in which the walks of this seat use it.
-/
import Derived.Test.YtdngnmpmaacapaaGreatDoorBase
import Derived.Test.YtdngnmpmaacapaaGreatDoorProg
import Derived.KernelRfl
namespace Go.Proofs.YtdngnmpmaacapaaGreatDoor
open Go.RowKit

theorem appMg {ops : Array Oper} {rest : List Oper} {o : Oper} {a : Act} {Q : Exit → Act → World → Prop} {wr : World} (T E : TypeId) (z : Value) (size bytes : Nat)
    (ht : Tryz.prog.underlying T = some (.slice E)) (hinfo : (Tryz.prog.info? E).map (fun i => (i.zero, i.size, i.bytes)) = some (some z, size, bytes)) (hzs : z.cells.size = size) (hsz : 0 < size) (hby : bytes ≤ 64)
    (hgd : o.guard = none) (s x : Operand) (ho : o.op = .call { callee := .builtin .append, args := #[s, x], argTypes := #[T, T] })
    {B : Nat} {v : Value} {n : Nat} {cs : List Value} (m : Nat) (news : List Value) (hown : wr.ownsRow B E size v n cs) (hs : a.eval s = v) (g : Nat) (hg : g = wr.heap.size) (hx : a.eval x = .slice (some ⟨g, 0, none⟩) m m)
    (hl : news.length = m * size) (h1 : ∀ u ∈ news, u.oneCell' = true) (hn : n + m ≤ 1099511627776) (hB : B ≤ wr.heap.size)
    (h : ∀ v' w', w'.ownsRow B E size v' (n + m) (cs ++ news) → Fr wr.heap.size v.ownBlock wr w' → wpList Tryz.prog ops Q rest (a.put o.dst v') w') :
    wpList Tryz.prog ops Q (o :: rest) a (wr.alloc (.cells news.toArray E)) := by
  subst hg
  obtain ⟨i0, hi, hz0, hz1, hz2⟩ := info_parts hinfo
  refine wpList_append_own _ hgd s x T ho B E i0 z size bytes ht hi hz0 hz1 hz2 hzs hsz v n cs hs (hown.alloc _) ⟨wr.heap.size, 0, none⟩ m m news hx hl ?_ h1 (by simp [maxLen]; omega) ?_ (by simp; omega) ?_
  · intro j u hu
    have ha : (⟨wr.heap.size, 0, none⟩ : Addr).add j = ⟨wr.heap.size, j, none⟩ := by unfold Addr.add; split <;> simp_all
    rw [ha, World.cell?_alloc_at _ _ _ _ rfl]; simpa using hu
  · have : (n + m) * bytes ≤ (n + m) * 64 := Nat.mul_le_mul_left _ hby
    omega
  · intro v' w' ho' hg _
    refine h v' w' ho' (((Fr.refl _ _ wr).alloc (Nat.le_refl _) _).grown hg (by simp) ?_)
    intro k hk; exact .inr hk.symm
theorem app1g {ops : Array Oper} {rest : List Oper} {o : Oper} {a : Act} {Q : Exit → Act → World → Prop} {wr : World} (T E : TypeId) (z : Value) (size bytes : Nat)
    (ht : Tryz.prog.underlying T = some (.slice E)) (hinfo : (Tryz.prog.info? E).map (fun i => (i.zero, i.size, i.bytes)) = some (some z, size, bytes)) (hzs : z.cells.size = size) (hsz : 0 < size) (hby : bytes ≤ 64)
    (hgd : o.guard = none) (s x : Operand) (ho : o.op = .call { callee := .builtin .append, args := #[s, x], argTypes := #[T, T] })
    {B : Nat} {v : Value} {n : Nat} {cs : List Value} (news : List Value) (hown : wr.ownsRow B E size v n cs) (hs : a.eval s = v) (g : Nat) (hg : g = wr.heap.size) (hx : a.eval x = .slice (some ⟨g, 0, none⟩) 1 1)
    (hl : news.length = size) (h1 : ∀ u ∈ news, u.oneCell' = true) (hn : n ≤ 1099511627776) (hB : B ≤ wr.heap.size)
    (h : ∀ v' w', w'.ownsRow B E size v' (n + 1) (cs ++ news) → Fr wr.heap.size v.ownBlock wr w' → wpList Tryz.prog ops Q rest (a.put o.dst v') w') :
    wpList Tryz.prog ops Q (o :: rest) a (wr.alloc (.cells news.toArray E)) := by
  subst hg
  obtain ⟨i0, hi, hz0, hz1, hz2⟩ := info_parts hinfo
  refine wpList_append_own _ hgd s x T ho B E i0 z size bytes ht hi hz0 hz1 hz2 hzs hsz v n cs hs (hown.alloc _) ⟨wr.heap.size, 0, none⟩ 1 1 news hx (by omega) ?_ h1 (by simp [maxLen]; omega) ?_ (by simp; omega) ?_
  · intro j u hu
    have ha : (⟨wr.heap.size, 0, none⟩ : Addr).add j = ⟨wr.heap.size, j, none⟩ := by unfold Addr.add; split <;> simp_all
    rw [ha, World.cell?_alloc_at _ _ _ _ rfl]; simpa using hu
  · have : (n + 1) * bytes ≤ (n + 1) * 64 := Nat.mul_le_mul_left _ hby
    omega
  · intro v' w' ho' hg _
    refine h v' w' ho' (((Fr.refl _ _ wr).alloc (Nat.le_refl _) _).grown hg (by simp) ?_)
    intro k hk; exact .inr hk.symm
theorem app1 {ops : Array Oper} {rest : List Oper} {o : Oper} {a : Act} {Q : Exit → Act → World → Prop} {wr : World} (T E : TypeId) (z : Value) (size bytes : Nat)
    (ht : Tryz.prog.underlying T = some (.slice E)) (hinfo : (Tryz.prog.info? E).map (fun i => (i.zero, i.size, i.bytes)) = some (some z, size, bytes)) (hzs : z.cells.size = size) (hsz : 0 < size) (hby : bytes ≤ 64)
    (hgd : o.guard = none) (s x : Operand) (ho : o.op = .call { callee := .builtin .append, args := #[s, x], argTypes := #[T, T] })
    {B : Nat} {v : Value} {n : Nat} {cs : List Value} (news : List Value) (hown : wr.ownsRow B E size v n cs) (hs : a.eval s = v) (hx : a.eval x = .slice (some ⟨wr.heap.size, 0, none⟩) 1 1)
    (hl : news.length = size) (h1 : ∀ u ∈ news, u.oneCell' = true) (hn : n ≤ 1099511627776) (hB : B ≤ wr.heap.size)
    (h : ∀ v' w', w'.ownsRow B E size v' (n + 1) (cs ++ news) → Fr wr.heap.size v.ownBlock wr w' → wpList Tryz.prog ops Q rest (a.put o.dst v') w') :
    wpList Tryz.prog ops Q (o :: rest) a (wr.alloc (.cells news.toArray E)) :=
  app1g T E z size bytes ht hinfo hzs hsz hby hgd s x ho news hown hs wr.heap.size rfl hx hl h1 hn hB h
/-- The frame of such a step, seen from where the call began. -/
theorem app_frame {B : Nat} {w0 wr w' : World} {E : TypeId} {size n : Nat} {v : Value} {cs : List Value} (h0 : Fr B none w0 wr) (hown : wr.ownsRow B E size v n cs) (h : Fr wr.heap.size v.ownBlock wr w') (hB : B ≤ wr.heap.size) : Fr B none w0 w' :=
  h0.trans (h.up hB fun g hg => (hown.lt g hg).1)
end Go.Proofs.YtdngnmpmaacapaaGreatDoor
