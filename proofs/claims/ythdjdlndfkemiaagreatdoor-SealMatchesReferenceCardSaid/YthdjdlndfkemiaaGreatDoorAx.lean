/- An append that says when it adds a block only (every seat). -/
import Derived.Test.YthdjdlndfkemiaaGreatDoorAp
set_option linter.unusedSimpArgs false
set_option linter.unusedVariables false
set_option maxRecDepth 100000
namespace Go.Proofs.YthdjdlndfkemiaaGreatDoor
open Go.RowKit
namespace Ap
section
variable {T e : TypeId} {sz bytes : Nat} {z : Value} {i0 : TypeInfo}
theorem below_drew_alloc (w : World) (o : Obj) : Below w.heap.size w (w.drew.alloc o) := ((Below.refl w.heap.size w).drew).alloc (Nat.le_refl _) o
theorem run_appX (ht : Tryz.prog.underlying T = some (.slice e)) (hi : Tryz.prog.info? e = some i0) (hz0 : i0.zero = some z) (hz1 : i0.size = sz) (hz2 : i0.bytes = bytes) (hzc : z.cells.size = sz) (hsz : 0 < sz) (hby : bytes ≤ 100)
    (ty : TypeId) {w : World} {B n m c cap : Nat} {A0 : Option Addr} {xs ys : List Value} {A : Option Addr} (hown : w.ownsRow B e sz (.slice A0 n cap) n xs) (hy : SrcAt w A sz m ys) (hA : A = none → c = 0) (hn : n + m ≤ 1000000) (hB : B ≤ w.heap.size) :
    ∃ A' c' w', (Builtin.append_ #[T, T] ty #[.slice A0 n cap, .slice A m c]).run Tryz.prog w = .ok (.slice A' (n + m) c') w' ∧ w'.ownsRow B e sz (.slice A' (n + m) c') (n + m) (xs ++ ys) ∧ w.grownBy w' (Value.slice A0 n cap).ownBlock ∧
      (cap < n + m → Below w.heap.size w w') := by
  obtain ⟨A', c', w', hr, h2, h3, h4⟩ := run_appG ht hi hz0 hz1 hz2 hzc hsz hby ty hown hy hA hn hB
  refine ⟨A', c', w', hr, h2, h3, fun hcap => ?_⟩
  subst hz1 hz2
  have hs : Src Tryz.prog i0.size T (.slice A m c) m ys w := by
    by_cases hm : m = 0
    · subst hm
      have hl := hy.len
      rw [Nat.zero_mul] at hl
      obtain rfl : ys = [] := List.eq_nil_of_length_eq_zero hl
      cases A with
      | none => exact Src.ofNil w ht c
      | some a => exact Src.ofSlice w ht a 0 c [] (by simp) (fun j u h => by simp at h) (fun u h => by simp at h)
    · have hpos : 0 < ys.length := by rw [hy.len]; exact Nat.mul_pos (by omega) hsz
      obtain ⟨b, off, rfl, hlt, _⟩ := hy.at_ 0 ys[0] (List.getElem?_eq_getElem hpos)
      refine Src.ofSlice w ht _ m c ys hy.len (fun j u hu => ?_) hy.one
      obtain ⟨b', off', e, _, hc⟩ := hy.at_ j u hu
      simp only [Option.some.injEq, Addr.mk.injEq] at e
      obtain ⟨rfl, rfl, _⟩ := e
      rw [add_at]
      exact hc
  have hold : (Builtin.firstCells i0.size n (.slice A0 n cap)).run Tryz.prog w.drew = .ok xs.toArray w.drew := by
    rcases hown.2 with ⟨e, h0⟩ | ⟨g, cap', cur, e, _, hg, hc, _, hcs, htk⟩
    · injection e with e1 e2 e3
      subst e1 e2
      have hl := hown.1
      rw [Nat.zero_mul] at hl
      obtain rfl : xs = [] := List.eq_nil_of_length_eq_zero hl
      exact run_firstCells_none w.drew i0.size 0 0 cap
    · injection e with e1 e2 e3
      subst e1
      refine run_firstCells_some w.drew i0.size n _ n cap xs hown.1 fun j v hj => ?_
      rw [add_at]
      have hjl : j < n * i0.size := by
        rw [← hown.1]
        rcases Nat.lt_or_ge j xs.length with hh | hh
        · exact hh
        · rw [List.getElem?_eq_none hh] at hj; cases hj
      have hcell : w.cell? ⟨g, 0 + j, none⟩ = cur[j]? := by rw [Nat.zero_add]; simp [World.cell?, hg]
      show w.cell? ⟨g, 0 + j, none⟩ = some v
      rw [hcell, ← hj, ← htk, List.getElem?_take_of_lt hjl, Array.getElem?_toList]
  have hgrow := run_append_grow_src (P := Tryz.prog) w T T ty e i0 z ht hi hz0 A0 n cap xs hold (.slice A m c) m ys hs hcap (by omega) (growslice_fits hcap (by have := Nat.mul_le_mul hn hby; omega))
  rw [hr] at hgrow
  simp only [Result.ok.injEq] at hgrow
  rw [hgrow.2]
  exact below_drew_alloc _ _
theorem wp_appX (ht : Tryz.prog.underlying T = some (.slice e)) (hi : Tryz.prog.info? e = some i0) (hz0 : i0.zero = some z) (hz1 : i0.size = sz) (hz2 : i0.bytes = bytes) (hzc : z.cells.size = sz) (hsz : 0 < sz) (hby : bytes ≤ 100)
    {o : Oper} {a : Act} {K : Act → World → Prop} {Q : Exit → Act → World → Prop} {w : World} (s x : Operand) (ho : o.op = .call { callee := .builtin .append, args := #[s, x], argTypes := #[T, T] })
    {B n m c cap : Nat} {A0 : Option Addr} {xs ys : List Value} {A : Option Addr} (hs : a.eval s = .slice A0 n cap) (hx : a.eval x = .slice A m c) (hown : w.ownsRow B e sz (.slice A0 n cap) n xs) (hy : SrcAt w A sz m ys) (hA : A = none → c = 0) (hn : n + m ≤ 1000000) (hB : B ≤ w.heap.size)
    (h : ∀ A' c' w', w'.ownsRow B e sz (.slice A' (n + m) c') (n + m) (xs ++ ys) → w.grownBy w' (Value.slice A0 n cap).ownBlock → (cap < n + m → Below w.heap.size w w') → K (a.put o.dst (.slice A' (n + m) c')) w') :
    Oper.wp Tryz.prog o a w K Q := by
  obtain ⟨A', c', w', hr, h2, h3, h4⟩ := run_appX ht hi hz0 hz1 hz2 hzc hsz hby o.type hown hy hA hn hB
  unfold Oper.wp execOp
  simp only [ho, resolve, invoke, builtin, Sem.run_bind, Sem.run_pure, Result.andThen_ok, List.map_toArray, List.map_cons, List.map_nil, hs, hx, hr]
  exact h A' c' w' h2 h3 h4
theorem does_appX (ht : Tryz.prog.underlying T = some (.slice e)) (hi : Tryz.prog.info? e = some i0) (hz0 : i0.zero = some z) (hz1 : i0.size = sz) (hz2 : i0.bytes = bytes) (hzc : z.cells.size = sz) (hsz : 0 < sz) (hby : bytes ≤ 100)
    {ops : Array Oper} {o : Oper} {a : Act} {K : Act → World → Prop} {w : World} (hw : Region.wanted o (yielded ops a.tmps) = true) (s x : Operand) (ho : o.op = .call { callee := .builtin .append, args := #[s, x], argTypes := #[T, T] })
    {B n m c cap : Nat} {A0 : Option Addr} {xs ys : List Value} {A : Option Addr} (hs : a.eval s = .slice A0 n cap) (hx : a.eval x = .slice A m c) (hown : w.ownsRow B e sz (.slice A0 n cap) n xs) (hy : SrcAt w A sz m ys) (hA : A = none → c = 0) (hn : n + m ≤ 1000000) (hB : B ≤ w.heap.size)
    (h : ∀ A' c' w', w'.ownsRow B e sz (.slice A' (n + m) c') (n + m) (xs ++ ys) → w.grownBy w' (Value.slice A0 n cap).ownBlock → (cap < n + m → Below w.heap.size w w') → K (a.put o.dst (.slice A' (n + m) c')) w') :
    Reg.Does Tryz.prog ops o a w K := by
  unfold Reg.Does
  rw [if_pos hw]
  exact wp_appX ht hi hz0 hz1 hz2 hzc hsz hby s x ho hs hx hown hy hA hn hB h
/-- What an append does to a small block beside the row. -/
theorem app_beside {w w' : World} {B n cap : Nat} {A0 : Option Addr} {m : Nat} {xs : List Value} (hown : w.ownsRow B e sz (.slice A0 n cap) n xs) (hg : w.grownBy w' (Value.slice A0 n cap).ownBlock) (hb : cap < n + m → Below w.heap.size w w')
    {g : Nat} {C : Array Value} {T' : TypeId} (hk : Reg.Blk g C T' w) (hC : C.size < (n + m) * sz) : Reg.Blk g C T' w' := by
  by_cases hc : cap < n + m
  · exact hk.keep (hb hc)
  · rcases hown.2 with ⟨h, h0⟩ | ⟨g1, cap', cur, h, _, hg1, _, _, hcs, _⟩
    · injection h with h1 h2 h3
      subst h1
      exact (hg.block g hk.lt (fun h => by cases h)).trans hk
    · injection h with h1 h2 h3
      subst h1 h3
      refine (hg.block g hk.lt (fun h => ?_)).trans hk
      have e1 : g1 = g := by simpa [Value.ownBlock] using h.symm
      subst e1
      have hk' : w.heap[g1]? = some (.cells C T' (0, 0)) := hk
      rw [hg1] at hk'
      simp only [Option.some.injEq, Obj.cells.injEq] at hk'
      have : cur.size = C.size := by rw [hk'.1]
      have h5 := Nat.mul_le_mul_right sz (Nat.le_of_not_lt hc)
      omega
end
end Ap
end Go.Proofs.YthdjdlndfkemiaaGreatDoor
