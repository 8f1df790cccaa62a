/- Slices: a general append of cells of one size, slices of a slice. -/
import Derived.Test.YtjeapimjgojpoaaReg
import Derived.Test.YtjeapimjgojpoaaProg
import Derived.WalkKit
import Derived.ProofKit
import Derived.WalkSpells
import Derived.WalkLawsBesides
import Derived.Defers
import Derived.Deep.RegionHeld3
import Derived.Deep.RegionLaw
import Derived.Deep.Upon
import Derived.Deep.AppendLies
import Derived.Maps.AppendAt
import Derived.Deep.Slices
import Derived.Room.AppendFits
set_option linter.unusedSimpArgs false
set_option linter.unusedVariables false
set_option maxRecDepth 100000
namespace Go.Proofs.Ytjeapimjgojpoaa
open Go.RowKit
namespace Ap

theorem add_at (b off k : Nat) : (⟨b, off, none⟩ : Addr).add k = ⟨b, off + k, none⟩ := by unfold Addr.add; split <;> simp_all
theorem own_below {w w' : World} {B : Nat} {e : TypeId} {size n : Nat} {v : Value} {xs : List Value} (h : w.ownsRow B e size v n xs) (hb : Below w.heap.size w w') : w'.ownsRow B e size v n xs := by
  refine ⟨h.1, ?_⟩
  rcases h.2 with hn | ⟨g', cap, cur, e1, hB, hg, rest⟩
  · exact .inl hn
  · exact .inr ⟨g', cap, cur, e1, hB, (hb.block g' (Array.getElem?_eq_some_iff.1 hg).1).trans hg, rest⟩
theorem own_base {w : World} {B B' : Nat} {e : TypeId} {size n : Nat} {v : Value} {xs : List Value} (h : w.ownsRow B e size v n xs) (hb : B' ≤ B) : w.ownsRow B' e size v n xs := by
  refine ⟨h.1, ?_⟩
  rcases h.2 with hn | ⟨g', cap, cur, e1, hB, rest⟩
  · exact .inl hn
  · exact .inr ⟨g', cap, cur, e1, Nat.le_trans hb hB, rest⟩
/-- A slice in memory, as a list of cells. -/
structure SrcAt (w : World) (A : Option Addr) (sz m : Nat) (ys : List Value) : Prop where
  len : ys.length = m * sz
  one : ∀ u ∈ ys, u.oneCell' = true
  at_ : ∀ j u, ys[j]? = some u → ∃ b off, A = some ⟨b, off, none⟩ ∧ b < w.heap.size ∧ w.cell? ⟨b, off + j, none⟩ = some u
theorem SrcAt.below {w w' : World} {A : Option Addr} {sz m : Nat} {ys : List Value} (h : SrcAt w A sz m ys) (hb : Below w.heap.size w w') : SrcAt w' A sz m ys :=
  ⟨h.len, h.one, fun j u hu => by obtain ⟨b, off, e, hlt, c⟩ := h.at_ j u hu; exact ⟨b, off, e, Nat.lt_of_lt_of_le hlt hb.size, (hb.cell (p := ⟨b, _, none⟩) hlt).trans c⟩⟩
theorem SrcAt.own {w : World} {B n c sz : Nat} {A : Option Addr} {e : TypeId} {xs : List Value} (h : w.ownsRow B e sz (.slice A n c) n xs) (h1 : ∀ u ∈ xs, u.oneCell' = true) : SrcAt w A sz n xs :=
  ⟨h.1, h1, fun j u hu => by
    have hj : j < n * sz := by
      rw [← h.1]
      rcases Nat.lt_or_ge j xs.length with hh | hh
      · exact hh
      · rw [List.getElem?_eq_none hh] at hu; cases hu
    obtain ⟨g, cap, hv, _, hlt⟩ := h.form (by rcases Nat.eq_zero_or_pos n with e | e; (rw [e, Nat.zero_mul] at hj; omega); exact e)
    injection hv with hA _ hc
    subst hA hc
    exact ⟨g, 0, rfl, hlt, by rw [Nat.zero_add, h.cellAt _ hj]; exact hu⟩⟩
section
variable {T e : TypeId} {sz bytes : Nat} {z : Value} {i0 : TypeInfo}
theorem run_appG (ht : Try.prog.underlying T = some (.slice e)) (hi : Try.prog.info? e = some i0) (hz0 : i0.zero = some z) (hz1 : i0.size = sz) (hz2 : i0.bytes = bytes) (hzc : z.cells.size = sz) (hsz : 0 < sz) (hby : bytes ≤ 100)
    (ty : TypeId) {w : World} {B n m c : Nat} {v : Value} {xs ys : List Value} {A : Option Addr} (hown : w.ownsRow B e sz v n xs) (hy : SrcAt w A sz m ys) (hA : A = none → c = 0) (hn : n + m ≤ 1000000) (hB : B ≤ w.heap.size) :
    ∃ A' c' w', (Builtin.append_ #[T, T] ty #[v, .slice A m c]).run Try.prog w = .ok (.slice A' (n + m) c') w' ∧ w'.ownsRow B e sz (.slice A' (n + m) c') (n + m) (xs ++ ys) ∧ w.grownBy w' v.ownBlock ∧
      ((Value.slice A' (n + m) c').ownBlock = v.ownBlock ∨ (Value.slice A' (n + m) c').ownBlock = some w.heap.size) := by
  by_cases hm : m = 0
  · subst hm
    have hl := hy.len
    rw [Nat.zero_mul] at hl
    obtain rfl : ys = [] := List.eq_nil_of_length_eq_zero hl
    obtain ⟨A1, c1, hv, hle⟩ : ∃ A1 c1, v = .slice A1 n c1 ∧ n ≤ c1 := by
      rcases hown.2 with ⟨e, h0⟩ | ⟨g', cap, cur, e, _, _, hc, _⟩
      · exact ⟨none, 0, by rw [e, h0], by omega⟩
      · exact ⟨_, cap, e, hc⟩
    have hs : Src Try.prog i0.size T (.slice A 0 c) 0 [] w := by
      cases A with
      | none => exact Src.ofNil w ht c
      | some a => exact Src.ofSlice w ht a 0 c [] (by simp) (fun j u h => by simp at h) (fun u h => by simp at h)
    have hr := run_append_nothing (P := Try.prog) w T T ty e i0 ht hi A1 n c1 hle (.slice A 0 c) hs
    subst hv
    exact ⟨A1, c1, w, hr, by rw [List.append_nil]; exact hown, World.grownBy.refl w _, .inl rfl⟩
  · have hpos : 0 < ys.length := by rw [hy.len]; exact Nat.mul_pos (by omega) hsz
    obtain ⟨b, off, rfl, hlt, _⟩ := hy.at_ 0 ys[0] (List.getElem?_eq_getElem hpos)
    have hcell : ∀ j u, ys[j]? = some u → w.cell? ((⟨b, off, none⟩ : Addr).add j) = some u := fun j u hu => by
      obtain ⟨b', off', e, _, hc⟩ := hy.at_ j u hu
      simp only [Option.some.injEq, Addr.mk.injEq] at e
      obtain ⟨rfl, rfl, _⟩ := e
      rw [add_at]
      exact hc
    obtain ⟨v', w', hr, h2, h3, _, h5⟩ := run_append_own_at (P := Try.prog) w B T ty e i0 _ sz bytes ht hi hz0 hz1 hz2 hzc hsz v n xs hown ⟨b, off, none⟩ m c ys hy.len hcell
      hy.one (by unfold maxLen; omega) (by have := Nat.mul_le_mul hn hby; omega) hB
    obtain ⟨g, cap, rfl, _, hlt⟩ := h2.form (by omega)
    exact ⟨_, cap, w', hr, h2, h3, h5⟩
theorem wp_appG (ht : Try.prog.underlying T = some (.slice e)) (hi : Try.prog.info? e = some i0) (hz0 : i0.zero = some z) (hz1 : i0.size = sz) (hz2 : i0.bytes = bytes) (hzc : z.cells.size = sz) (hsz : 0 < sz) (hby : bytes ≤ 100)
    {o : Oper} {a : Act} {K : Act → World → Prop} {Q : Exit → Act → World → Prop} {w : World} (s x : Operand) (ho : o.op = .call { callee := .builtin .append, args := #[s, x], argTypes := #[T, T] })
    {B n m c : Nat} {v : Value} {xs ys : List Value} {A : Option Addr} (hs : a.eval s = v) (hx : a.eval x = .slice A m c) (hown : w.ownsRow B e sz v n xs) (hy : SrcAt w A sz m ys) (hA : A = none → c = 0) (hn : n + m ≤ 1000000) (hB : B ≤ w.heap.size)
    (h : ∀ A' c' w', w'.ownsRow B e sz (.slice A' (n + m) c') (n + m) (xs ++ ys) → w.grownBy w' v.ownBlock → ((Value.slice A' (n + m) c').ownBlock = v.ownBlock ∨ (Value.slice A' (n + m) c').ownBlock = some w.heap.size) → K (a.put o.dst (.slice A' (n + m) c')) w') :
    Oper.wp Try.prog o a w K Q := by
  obtain ⟨A', c', w', hr, h2, h3, h4⟩ := run_appG ht hi hz0 hz1 hz2 hzc hsz hby o.type hown hy hA hn hB
  unfold Oper.wp execOp
  simp only [ho, resolve, invoke, builtin, Sem.run_bind, Sem.run_pure, Result.andThen_ok, List.map_toArray, List.map_cons, List.map_nil, hs, hx, hr]
  exact h A' c' w' h2 h3 h4
theorem slicedG (A : Option Addr) (c l h : Nat) (hA : A = none → c = 0) : ∃ A', sliced A l h c sz = .slice A' (h - l) (c - l) ∧ (A' = none → c - l = 0) ∧ (l < c → ∀ b off, A = some ⟨b, off, none⟩ → A' = some ⟨b, off + l * sz, none⟩) := by
  unfold sliced
  by_cases hc : c = l
  · exact ⟨A, by rw [if_pos hc], fun h => by have := hA h; omega, fun h => by omega⟩
  · refine ⟨A.map (·.add (l * sz)), by rw [if_neg hc], fun h => ?_, fun _ b off e => ?_⟩
    · cases A with
      | none => have := hA rfl; omega
      | some a => simp at h
    · rw [e]; simp [add_at]
/-- 's[:k]' -/
theorem run_toG (he : Try.prog.underlying T = some (.slice (Try.prog.elem T))) (hes : ∀ w, (sizeOf (Try.prog.elem T)).run Try.prog w = .ok sz w) {A : Option Addr} {n c k : Nat} {ys : List Value} (hA : A = none → c = 0) (hk : k ≤ n) (hc : n ≤ c) :
    ∃ A', (A' = none → c = 0) ∧ (∀ w, (Instr.slice T (.slice A n c) none (some (.int .i64 (k : Int))) none).run Try.prog w = .ok (.slice A' k c) w) ∧ ∀ w, SrcAt w A sz n ys → SrcAt w A' sz k (ys.take (k * sz)) := by
  obtain ⟨A', h1, h2, h3⟩ := slicedG (sz := sz) A c 0 k hA
  refine ⟨A', h2, fun w => ?_, fun w hs => ⟨?_, fun u hu => hs.one u (List.mem_of_mem_take hu), fun j u hu => ?_⟩⟩
  · rw [run_slice_h w T A n c he .i64 (k : Int) (by omega) (by omega), hes]
    simp only [Result.andThen_ok, Int.toNat_natCast]
    rw [h1]; rfl
  · rw [List.length_take, hs.len]
    exact Nat.min_eq_left (Nat.mul_le_mul_right _ hk)
  · have hu' : ys[j]? = some u := by
      rw [List.getElem?_take] at hu
      split at hu
      · exact hu
      · cases hu
    obtain ⟨b, off, e1, hlt, hcell⟩ := hs.at_ j u hu'
    have hn0 : 0 < n := by
      rcases Nat.eq_zero_or_pos n with e | e
      · have := hs.len; rw [e, Nat.zero_mul] at this
        rw [List.getElem?_eq_none (by omega)] at hu'; cases hu'
      · exact e
    exact ⟨b, off, by rw [h3 (by omega) b off e1]; simp, hlt, hcell⟩
/-- 's[k:]' -/
theorem run_fromG (he : Try.prog.underlying T = some (.slice (Try.prog.elem T))) (hes : ∀ w, (sizeOf (Try.prog.elem T)).run Try.prog w = .ok sz w) {A : Option Addr} {n c k : Nat} {ys : List Value} (hA : A = none → c = 0) (hk : k ≤ n) (hc : n ≤ c) :
    ∃ A', (A' = none → c - k = 0) ∧ (∀ w, (Instr.slice T (.slice A n c) (some (.int .i64 (k : Int))) none none).run Try.prog w = .ok (.slice A' (n - k) (c - k)) w) ∧ ∀ w, SrcAt w A sz n ys → SrcAt w A' sz (n - k) (ys.drop (k * sz)) := by
  obtain ⟨A', h1, h2, h3⟩ := slicedG (sz := sz) A c k n hA
  refine ⟨A', h2, fun w => ?_, fun w hs => ⟨?_, fun u hu => hs.one u (List.mem_of_mem_drop hu), fun j u hu => ?_⟩⟩
  · rw [run_slice_l w T A n c he .i64 (k : Int) (by omega) (by omega), hes]
    simp only [Result.andThen_ok, Int.toNat_natCast]
    rw [h1]
  · rw [List.length_drop, hs.len, Nat.sub_mul]
  · rw [List.getElem?_drop] at hu
    obtain ⟨b, off, e1, hlt, hcell⟩ := hs.at_ _ u hu
    have hkn : k < n := by
      rcases Nat.lt_or_ge k n with e | e
      · exact e
      · have h5 := hs.len
        have h6 := Nat.mul_le_mul_right sz e
        rw [List.getElem?_eq_none (by omega)] at hu; cases hu
    exact ⟨b, off + k * sz, h3 (by omega) b off e1, hlt, by rw [Nat.add_assoc]; exact hcell⟩
theorem does_appG (ht : Try.prog.underlying T = some (.slice e)) (hi : Try.prog.info? e = some i0) (hz0 : i0.zero = some z) (hz1 : i0.size = sz) (hz2 : i0.bytes = bytes) (hzc : z.cells.size = sz) (hsz : 0 < sz) (hby : bytes ≤ 100)
    {ops : Array Oper} {o : Oper} {a : Act} {K : Act → World → Prop} {w : World} (hw : Region.wanted o (yielded ops a.tmps) = true) (s x : Operand) (ho : o.op = .call { callee := .builtin .append, args := #[s, x], argTypes := #[T, T] })
    {B n m c : Nat} {v : Value} {xs ys : List Value} {A : Option Addr} (hs : a.eval s = v) (hx : a.eval x = .slice A m c) (hown : w.ownsRow B e sz v n xs) (hy : SrcAt w A sz m ys) (hA : A = none → c = 0) (hn : n + m ≤ 1000000) (hB : B ≤ w.heap.size)
    (h : ∀ A' c' w', w'.ownsRow B e sz (.slice A' (n + m) c') (n + m) (xs ++ ys) → w.grownBy w' v.ownBlock → ((Value.slice A' (n + m) c').ownBlock = v.ownBlock ∨ (Value.slice A' (n + m) c').ownBlock = some w.heap.size) → K (a.put o.dst (.slice A' (n + m) c')) w') :
    Reg.Does Try.prog ops o a w K := by
  unfold Reg.Does
  rw [if_pos hw]
  exact wp_appG ht hi hz0 hz1 hz2 hzc hsz hby s x ho hs hx hown hy hA hn hB h
theorem wpList_appG (ht : Try.prog.underlying T = some (.slice e)) (hi : Try.prog.info? e = some i0) (hz0 : i0.zero = some z) (hz1 : i0.size = sz) (hz2 : i0.bytes = bytes) (hzc : z.cells.size = sz) (hsz : 0 < sz) (hby : bytes ≤ 100)
    {ops : Array Oper} {rest : List Oper} {o : Oper} {a : Act} {Q : Exit → Act → World → Prop} {w : World} (hw : Region.wanted o (yielded ops a.tmps) = true) (s x : Operand) (ho : o.op = .call { callee := .builtin .append, args := #[s, x], argTypes := #[T, T] })
    {B n m c : Nat} {v : Value} {xs ys : List Value} {A : Option Addr} (hs : a.eval s = v) (hx : a.eval x = .slice A m c) (hown : w.ownsRow B e sz v n xs) (hy : SrcAt w A sz m ys) (hA : A = none → c = 0) (hn : n + m ≤ 1000000) (hB : B ≤ w.heap.size)
    (h : ∀ A' c' w', w'.ownsRow B e sz (.slice A' (n + m) c') (n + m) (xs ++ ys) → w.grownBy w' v.ownBlock → ((Value.slice A' (n + m) c').ownBlock = v.ownBlock ∨ (Value.slice A' (n + m) c').ownBlock = some w.heap.size) → wpList Try.prog ops Q rest (a.put o.dst (.slice A' (n + m) c')) w') :
    wpList Try.prog ops Q (o :: rest) a w := by
  unfold wpList
  rw [if_pos hw]
  exact .inl (wp_appG ht hi hz0 hz1 hz2 hzc hsz hby s x ho hs hx hown hy hA hn hB h)
end

/-- What owns a row lies where it lies. -/
theorem own_fresh {w : World} {B n sz : Nat} {e : TypeId} {v : Value} {xs : List Value} (h : w.ownsRow B e sz v n xs) (k : Nat) (hk : k < B) : v.ownBlock ≠ some k := by
  rcases h.2 with ⟨e1, _⟩ | ⟨g', cap, cur, e1, hB, _⟩
  · rw [e1]; simp [Value.ownBlock]
  · rw [e1]; simp only [Value.ownBlock, ne_eq, Option.some.injEq]; omega
/-- A row that another append does not touch. -/
theorem own_beside {w w' : World} {B n sz : Nat} {e : TypeId} {v u : Value} {xs : List Value} (h : w.ownsRow B e sz v n xs) (hg : w.grownBy w' u.ownBlock) (hne : ∀ k, u.ownBlock = some k → v.ownBlock ≠ some k) : w'.ownsRow B e sz v n xs := by
  refine ⟨h.1, ?_⟩
  rcases h.2 with hn | ⟨g', cap, cur, e1, hB, hh, rest⟩
  · exact .inl hn
  · refine .inr ⟨g', cap, cur, e1, hB, ?_, rest⟩
    have := hg.block g' (Array.getElem?_eq_some_iff.1 hh).1 (fun e2 => hne g' e2.symm (by rw [e1]; rfl))
    rw [this]; exact hh

theorem keep_grown {w w' : World} {r : Option Nat} (h : w.grownBy w' r) : Reg.Keep (fun k => r = some k) w w' := ⟨h.os, h.tape, h.output, h.size, fun k hk hn => h.block k hk (fun e => hn e.symm)⟩
theorem own_keep {M : Nat → Prop} {w w' : World} {B n sz : Nat} {e : TypeId} {v : Value} {xs : List Value} (h : w.ownsRow B e sz v n xs) (hk : Reg.Keep M w w') (hm : ∀ k, v.ownBlock = some k → ¬ M k) : w'.ownsRow B e sz v n xs := by
  refine ⟨h.1, ?_⟩
  rcases h.2 with hn | ⟨g', cap, cur, e1, hB, hh, rest⟩
  · exact .inl hn
  · exact .inr ⟨g', cap, cur, e1, hB, (hk.block g' (Array.getElem?_eq_some_iff.1 hh).1 (hm g' (by rw [e1]; rfl))).trans hh, rest⟩
theorem blk_keep {M : Nat → Prop} {w w' : World} {g : Nat} {C : Array Value} {T : TypeId} (h : Reg.Blk g C T w) (hk : Reg.Keep M w w') (hm : ¬ M g) : Reg.Blk g C T w' := (hk.block g h.lt hm).trans h

theorem SrcAt.blk2 {w : World} {g : Nat} {T : TypeId} {x y : Value} (h : Reg.Blk g #[x, y] T w) (hx : x.oneCell' = true) (hy : y.oneCell' = true) : SrcAt w (some ⟨g, 0, none⟩) 2 1 [x, y] :=
  ⟨rfl, fun u hu => by simp at hu; rcases hu with rfl | rfl <;> assumption, fun j u hu => by
    obtain ⟨c, _⟩ := Reg.cells_at h
    refine ⟨g, 0, rfl, h.lt, ?_⟩
    rw [c, Nat.zero_add]
    simpa using hu⟩
theorem SrcAt.blk1 {w : World} {g : Nat} {T : TypeId} {x : Value} (h : Reg.Blk g #[x] T w) (hx : x.oneCell' = true) : SrcAt w (some ⟨g, 0, none⟩) 1 1 [x] :=
  ⟨rfl, fun u hu => by simp at hu; rcases hu with rfl; assumption, fun j u hu => by
    obtain ⟨c, _⟩ := Reg.cells_at h
    refine ⟨g, 0, rfl, h.lt, ?_⟩
    rw [c, Nat.zero_add]
    simpa using hu⟩

theorem cap_le {w : World} {B n sz c : Nat} {e : TypeId} {g : Nat} {xs : List Value} (h : w.ownsRow B e sz (.slice (some ⟨g, 0, none⟩) n c) n xs) : n ≤ c := by
  rcases h.2 with ⟨e1, _⟩ | ⟨g', cap, cur, e1, _, _, hc, _⟩
  · cases e1
  · injection e1 with _ _ e2
    omega

/-- 'append', under a name that no rule of the walk unfolds. -/
def appA (ats : Array TypeId) (ty : TypeId) (args : Array Value) : Sem Value := Builtin.append_ ats ty args
theorem builtin_appA {ats : Array TypeId} {ty : TypeId} {cs : Array Bool} {args : Array Value} : builtin .append ats ty cs args = (do pure (.value (← appA ats ty args))) := rfl
theorem run_of {P : Program} {ats : Array TypeId} {ty : TypeId} {args : Array Value} {w : World} {r : Result Value} (h : (Builtin.append_ ats ty args).run P w = r) : (appA ats ty args).run P w = r := h
end Ap
end Go.Proofs.Ytjeapimjgojpoaa
