/- A general append of cells of one size, slices of a slice; the reference network: New. -/
import Derived.Test.YtklcpopnggiepaaRv
set_option linter.unusedSimpArgs false
set_option linter.unusedVariables false
set_option maxRecDepth 100000
namespace Go.Proofs.Ytklcpopnggiepaa
open Go.RowKit
namespace N

/-- A slice in memory, as a list of cells. -/
structure SrcAt (w : World) (A : Option Addr) (sz m : Nat) (ys : List Value) : Prop where
  len : ys.length = m * sz
  one : ∀ u ∈ ys, u.oneCell' = true
  at_ : ∀ j u, ys[j]? = some u → ∃ b off, A = some ⟨b, off, none⟩ ∧ b < w.heap.size ∧ w.cell? ⟨b, off + j, none⟩ = some u
theorem SrcAt.below {w w' : World} {A : Option Addr} {sz m : Nat} {ys : List Value} (h : SrcAt w A sz m ys) (hb : Below w.heap.size w w') : SrcAt w' A sz m ys :=
  ⟨h.len, h.one, fun j u hu => by obtain ⟨b, off, e, hlt, c⟩ := h.at_ j u hu; exact ⟨b, off, e, Nat.lt_of_lt_of_le hlt hb.size, (hb.cell (p := ⟨b, _, none⟩) hlt).trans c⟩⟩
theorem SrcAt.own {w : World} {B n c sz : Nat} {A : Option Addr} {e : TypeId} {xs : List Value} (h : w.ownsRow B e sz (.slice A n c) n xs) (h1 : ∀ u ∈ xs, u.oneCell' = true) : SrcAt w A sz n xs :=
  ⟨h.1, h1, fun j u hu => by
    have hj : j < n * sz := by
      rw [← h.1]
      rcases Nat.lt_or_ge j xs.length with hh | hh
      · exact hh
      · rw [List.getElem?_eq_none hh] at hu; cases hu
    obtain ⟨g, cap, hv, _, hlt⟩ := h.form (by rcases Nat.eq_zero_or_pos n with e | e; (rw [e, Nat.zero_mul] at hj; omega); exact e)
    injection hv with hA _ hc
    subst hA hc
    exact ⟨g, 0, rfl, hlt, by rw [Nat.zero_add, h.cellAt _ hj]; exact hu⟩⟩
section
variable {T e : TypeId} {sz bytes : Nat} {z : Value} {i0 : TypeInfo}
theorem run_appG (ht : Try.prog.underlying T = some (.slice e)) (hi : Try.prog.info? e = some i0) (hz0 : i0.zero = some z) (hz1 : i0.size = sz) (hz2 : i0.bytes = bytes) (hzc : z.cells.size = sz) (hsz : 0 < sz) (hby : bytes ≤ 100)
    (ty : TypeId) {w : World} {B n m c : Nat} {v : Value} {xs ys : List Value} {A : Option Addr} (hown : w.ownsRow B e sz v n xs) (hy : SrcAt w A sz m ys) (hA : A = none → c = 0) (hn : n + m ≤ 1000000) (hB : B ≤ w.heap.size) :
    ∃ A' c' w', (Builtin.append_ #[T, T] ty #[v, .slice A m c]).run Try.prog w = .ok (.slice A' (n + m) c') w' ∧ w'.ownsRow B e sz (.slice A' (n + m) c') (n + m) (xs ++ ys) ∧ w.grownBy w' v.ownBlock ∧
      ((Value.slice A' (n + m) c').ownBlock = v.ownBlock ∨ (Value.slice A' (n + m) c').ownBlock = some w.heap.size) := by
  by_cases hm : m = 0
  · subst hm
    have hl := hy.len
    rw [Nat.zero_mul] at hl
    obtain rfl : ys = [] := List.eq_nil_of_length_eq_zero hl
    obtain ⟨A1, c1, hv, hle⟩ : ∃ A1 c1, v = .slice A1 n c1 ∧ n ≤ c1 := by
      rcases hown.2 with ⟨e, h0⟩ | ⟨g', cap, cur, e, _, _, hc, _⟩
      · exact ⟨none, 0, by rw [e, h0], by omega⟩
      · exact ⟨_, cap, e, hc⟩
    have hs : Src Try.prog i0.size T (.slice A 0 c) 0 [] w := by
      cases A with
      | none => exact Src.ofNil w ht c
      | some a => exact Src.ofSlice w ht a 0 c [] (by simp) (fun j u h => by simp at h) (fun u h => by simp at h)
    have hr := run_append_nothing (P := Try.prog) w T T ty e i0 ht hi A1 n c1 hle (.slice A 0 c) hs
    subst hv
    exact ⟨A1, c1, w, hr, by rw [List.append_nil]; exact hown, World.grownBy.refl w _, .inl rfl⟩
  · have hpos : 0 < ys.length := by rw [hy.len]; exact Nat.mul_pos (by omega) hsz
    obtain ⟨b, off, rfl, hlt, _⟩ := hy.at_ 0 ys[0] (List.getElem?_eq_getElem hpos)
    have hcell : ∀ j u, ys[j]? = some u → w.cell? ((⟨b, off, none⟩ : Addr).add j) = some u := fun j u hu => by
      obtain ⟨b', off', e, _, hc⟩ := hy.at_ j u hu
      simp only [Option.some.injEq, Addr.mk.injEq] at e
      obtain ⟨rfl, rfl, _⟩ := e
      rw [add_at]
      exact hc
    obtain ⟨v', w', hr, h2, h3, _, h5⟩ := run_append_own_at (P := Try.prog) w B T ty e i0 _ sz bytes ht hi hz0 hz1 hz2 hzc hsz v n xs hown ⟨b, off, none⟩ m c ys hy.len hcell
      hy.one (by unfold maxLen; omega) (by have := Nat.mul_le_mul hn hby; omega) hB
    obtain ⟨g, cap, rfl, _, hlt⟩ := h2.form (by omega)
    exact ⟨_, cap, w', hr, h2, h3, h5⟩
theorem wp_appG (ht : Try.prog.underlying T = some (.slice e)) (hi : Try.prog.info? e = some i0) (hz0 : i0.zero = some z) (hz1 : i0.size = sz) (hz2 : i0.bytes = bytes) (hzc : z.cells.size = sz) (hsz : 0 < sz) (hby : bytes ≤ 100)
    {o : Oper} {a : Act} {K : Act → World → Prop} {Q : Exit → Act → World → Prop} {w : World} (s x : Operand) (ho : o.op = .call { callee := .builtin .append, args := #[s, x], argTypes := #[T, T] })
    {B n m c : Nat} {v : Value} {xs ys : List Value} {A : Option Addr} (hs : a.eval s = v) (hx : a.eval x = .slice A m c) (hown : w.ownsRow B e sz v n xs) (hy : SrcAt w A sz m ys) (hA : A = none → c = 0) (hn : n + m ≤ 1000000) (hB : B ≤ w.heap.size)
    (h : ∀ A' c' w', w'.ownsRow B e sz (.slice A' (n + m) c') (n + m) (xs ++ ys) → w.grownBy w' v.ownBlock → ((Value.slice A' (n + m) c').ownBlock = v.ownBlock ∨ (Value.slice A' (n + m) c').ownBlock = some w.heap.size) → K (a.put o.dst (.slice A' (n + m) c')) w') :
    Oper.wp Try.prog o a w K Q := by
  obtain ⟨A', c', w', hr, h2, h3, h4⟩ := run_appG ht hi hz0 hz1 hz2 hzc hsz hby o.type hown hy hA hn hB
  unfold Oper.wp execOp
  simp only [ho, resolve, invoke, builtin, Sem.run_bind, Sem.run_pure, Result.andThen_ok, List.map_toArray, List.map_cons, List.map_nil, hs, hx, hr]
  exact h A' c' w' h2 h3 h4
theorem slicedG (A : Option Addr) (c l h : Nat) (hA : A = none → c = 0) : ∃ A', sliced A l h c sz = .slice A' (h - l) (c - l) ∧ (A' = none → c - l = 0) ∧ (l < c → ∀ b off, A = some ⟨b, off, none⟩ → A' = some ⟨b, off + l * sz, none⟩) := by
  unfold sliced
  by_cases hc : c = l
  · exact ⟨A, by rw [if_pos hc], fun h => by have := hA h; omega, fun h => by omega⟩
  · refine ⟨A.map (·.add (l * sz)), by rw [if_neg hc], fun h => ?_, fun _ b off e => ?_⟩
    · cases A with
      | none => have := hA rfl; omega
      | some a => simp at h
    · rw [e]; simp [add_at]
/-- 's[:k]' -/
theorem run_toG (he : Try.prog.underlying T = some (.slice (Try.prog.elem T))) (hes : ∀ w, (sizeOf (Try.prog.elem T)).run Try.prog w = .ok sz w) {A : Option Addr} {n c k : Nat} {ys : List Value} (hA : A = none → c = 0) (hk : k ≤ n) (hc : n ≤ c) :
    ∃ A', (A' = none → c = 0) ∧ (∀ w, (Instr.slice T (.slice A n c) none (some (.int .i64 (k : Int))) none).run Try.prog w = .ok (.slice A' k c) w) ∧ ∀ w, SrcAt w A sz n ys → SrcAt w A' sz k (ys.take (k * sz)) := by
  obtain ⟨A', h1, h2, h3⟩ := slicedG (sz := sz) A c 0 k hA
  refine ⟨A', h2, fun w => ?_, fun w hs => ⟨?_, fun u hu => hs.one u (List.mem_of_mem_take hu), fun j u hu => ?_⟩⟩
  · rw [run_slice_h w T A n c he .i64 (k : Int) (by omega) (by omega), hes]
    simp only [Result.andThen_ok, Int.toNat_natCast]
    rw [h1]; rfl
  · rw [List.length_take, hs.len]
    exact Nat.min_eq_left (Nat.mul_le_mul_right _ hk)
  · have hu' : ys[j]? = some u := by
      rw [List.getElem?_take] at hu
      split at hu
      · exact hu
      · cases hu
    obtain ⟨b, off, e1, hlt, hcell⟩ := hs.at_ j u hu'
    have hn0 : 0 < n := by
      rcases Nat.eq_zero_or_pos n with e | e
      · have := hs.len; rw [e, Nat.zero_mul] at this
        rw [List.getElem?_eq_none (by omega)] at hu'; cases hu'
      · exact e
    exact ⟨b, off, by rw [h3 (by omega) b off e1]; simp, hlt, hcell⟩
/-- 's[k:]' -/
theorem run_fromG (he : Try.prog.underlying T = some (.slice (Try.prog.elem T))) (hes : ∀ w, (sizeOf (Try.prog.elem T)).run Try.prog w = .ok sz w) {A : Option Addr} {n c k : Nat} {ys : List Value} (hA : A = none → c = 0) (hk : k ≤ n) (hc : n ≤ c) :
    ∃ A', (A' = none → c - k = 0) ∧ (∀ w, (Instr.slice T (.slice A n c) (some (.int .i64 (k : Int))) none none).run Try.prog w = .ok (.slice A' (n - k) (c - k)) w) ∧ ∀ w, SrcAt w A sz n ys → SrcAt w A' sz (n - k) (ys.drop (k * sz)) := by
  obtain ⟨A', h1, h2, h3⟩ := slicedG (sz := sz) A c k n hA
  refine ⟨A', h2, fun w => ?_, fun w hs => ⟨?_, fun u hu => hs.one u (List.mem_of_mem_drop hu), fun j u hu => ?_⟩⟩
  · rw [run_slice_l w T A n c he .i64 (k : Int) (by omega) (by omega), hes]
    simp only [Result.andThen_ok, Int.toNat_natCast]
    rw [h1]
  · rw [List.length_drop, hs.len, Nat.sub_mul]
  · rw [List.getElem?_drop] at hu
    obtain ⟨b, off, e1, hlt, hcell⟩ := hs.at_ _ u hu
    have hkn : k < n := by
      rcases Nat.lt_or_ge k n with e | e
      · exact e
      · have h5 := hs.len
        have h6 := Nat.mul_le_mul_right sz e
        rw [List.getElem?_eq_none (by omega)] at hu; cases hu
    exact ⟨b, off + k * sz, h3 (by omega) b off e1, hlt, by rw [Nat.add_assoc]; exact hcell⟩
end

theorem rnew_no (n : Int) (hn : n < 1 ∨ 8 < n) (w : World) : Calls Try.prog 17 #[.int .i64 n] w fun e w' => e = .returned (.tuple #[.pointer none, .int .i64 1]) ∧ Below w.heap.size w w' := by
  rcases hn with h | h
  · go_enter Try.func17, Try.ntmps17
    go_wp2
    go_ret2
    exact ⟨rfl, Below.refl _ _⟩
  · have h1 : ¬ n < 1 := by omega
    go_enter Try.func17, Try.ntmps17
    go_wp2
    go_ret2
    exact ⟨rfl, Below.refl _ _⟩
theorem rnew_yes (n : Int) (h1 : 1 ≤ n) (h8 : n ≤ 8) (w : World) (B : Nat) (hB : B ≤ w.heap.size) : Calls Try.prog 17 #[.int .i64 n] w fun e w' =>
    ∃ g M, e = .returned (.tuple #[.pointer (some ⟨g, 0, none⟩), .int .i64 0]) ∧ RefAt w' B M g ⟨n, [], []⟩ ∧ (∀ k, M k → w.heap.size ≤ k) ∧ Below w.heap.size w w' := by
  have g1 : ¬ n < 1 := by omega
  have g2 : ¬ 8 < n := by omega
  go_enter Try.func17, Try.ntmps17
  go_wp2
  go_ret2
  refine ⟨w.heap.size, rfl, fun k => k = w.heap.size, ⟨.slice none 0 0, .slice none 0 0, Reg.Blk.new _ _ _, World.ownsRow_nil _ _ _ _, World.ownsRow_nil _ _ _ _, rfl, fun k e => by simp [Value.ownBlock] at e, fun k e => by simp [Value.ownBlock] at e, fun k e => by subst e; exact ⟨hB, by simp⟩⟩, fun k e => by omega, (Below.refl _ _).alloc (Nat.le_refl _) _⟩

end N
end Go.Proofs.Ytklcpopnggiepaa
