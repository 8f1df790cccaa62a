/- Texts: a general append, and slices of a slice. -/
import Derived.Test.YtklcpopnggiepaaNt
import Derived.Test.YtklcpopnggiepaaOn
import Derived.Deep.Upon
set_option linter.unusedSimpArgs false
set_option linter.unusedVariables false
set_option maxRecDepth 100000
namespace Go.Proofs.Ytklcpopnggiepaa
open Go.RowKit
namespace N

/-- 'append(s, x...)': s is the call's own, x any slice of texts. -/
theorem run_app (ty : TypeId) {w : World} {B n m c : Nat} {v : Value} {xs l : List Tx} {A : Option Addr} (hown : w.ownsRow B 9 1 v n (sv xs)) (hl : l.length = m) (hy : StrsAt w A l) (hA : A = none → c = 0) (hn : n + m ≤ 1000000) (hB : B ≤ w.heap.size) :
    ∃ A' c' w', (Builtin.append_ #[22, 22] ty #[v, .slice A m c]).run Try.prog w = .ok (.slice A' (n + m) c') w' ∧ w'.ownsRow B 9 1 (.slice A' (n + m) c') (n + m) (sv (xs ++ l)) ∧ w.grownBy w' v.ownBlock ∧
      ((Value.slice A' (n + m) c').ownBlock = v.ownBlock ∨ (Value.slice A' (n + m) c').ownBlock = some w.heap.size) := by
  obtain ⟨i0, hi0, hz0, hz1, hz2⟩ := info_parts info_text
  by_cases hm : m = 0
  · subst hm
    obtain rfl : l = [] := List.eq_nil_of_length_eq_zero hl
    obtain ⟨A1, c1, hv, hle⟩ : ∃ A1 c1, v = .slice A1 n c1 ∧ n ≤ c1 := by
      rcases hown.2 with ⟨e, h0⟩ | ⟨g', cap, cur, e, _, _, hc, _⟩
      · exact ⟨none, 0, by rw [e, h0], by omega⟩
      · exact ⟨_, cap, e, hc⟩
    have hs : Src Try.prog i0.size 22 (.slice A 0 c) 0 [] w := by
      cases A with
      | none => exact Src.ofNil w Try.underlying22 c
      | some a => exact Src.ofSlice w Try.underlying22 a 0 c [] (by simp) (fun j u h => by simp at h) (fun u h => by simp at h)
    have hr := run_append_nothing (P := Try.prog) w 22 22 ty 9 i0 Try.underlying22 hi0 A1 n c1 hle (.slice A 0 c) hs
    subst hv
    exact ⟨A1, c1, w, hr, by rw [List.append_nil]; exact hown, World.grownBy.refl w _, .inl rfl⟩
  · obtain ⟨b, off, rfl, hlt, _⟩ := hy 0 (by omega)
    have hcell : ∀ j u, (sv l)[j]? = some u → w.cell? ((⟨b, off, none⟩ : Addr).add j) = some u := fun j u hu => by
      rw [sv_get] at hu
      have hj : j < l.length := by
        rcases Nat.lt_or_ge j l.length with h | h
        · exact h
        · rw [List.getElem?_eq_none h] at hu; cases hu
      rw [List.getElem?_eq_getElem hj] at hu
      obtain ⟨b', off', e, _, hc⟩ := hy j hj
      simp only [Option.some.injEq, Addr.mk.injEq] at e
      obtain ⟨rfl, rfl, _⟩ := e
      rw [add_at, hc]
      simpa using hu
    obtain ⟨v', w', hr, h2, h3, _, h5⟩ := run_append_own_at (P := Try.prog) w B 22 ty 9 i0 _ 1 16 Try.underlying22 hi0 hz0 hz1 hz2 rfl (by omega) v n (sv xs) hown ⟨b, off, none⟩ m c (sv l) (by rw [sv_len]; omega) hcell
      (fun u hu => by obtain ⟨t, _, rfl⟩ := List.mem_map.1 hu; rfl) (by unfold maxLen; omega) (by omega) hB
    obtain ⟨g, cap, rfl, _, hlt⟩ := h2.form (by omega)
    refine ⟨_, cap, w', hr, ?_, h3, h5⟩
    have e : sv xs ++ sv l = sv (xs ++ l) := by simp [sv]
    rw [← e]
    exact h2

/-- .. at the operation. -/
theorem wp_app {o : Oper} {a : Act} {K : Act → World → Prop} {Q : Exit → Act → World → Prop} {w : World} (s x : Operand) (ho : o.op = .call { callee := .builtin .append, args := #[s, x], argTypes := #[22, 22] })
    {B n m c : Nat} {v : Value} {xs l : List Tx} {A : Option Addr} (hs : a.eval s = v) (hx : a.eval x = .slice A m c) (hown : w.ownsRow B 9 1 v n (sv xs)) (hl : l.length = m) (hy : StrsAt w A l) (hA : A = none → c = 0) (hn : n + m ≤ 1000000) (hB : B ≤ w.heap.size)
    (h : ∀ A' c' w', w'.ownsRow B 9 1 (.slice A' (n + m) c') (n + m) (sv (xs ++ l)) → w.grownBy w' v.ownBlock → ((Value.slice A' (n + m) c').ownBlock = v.ownBlock ∨ (Value.slice A' (n + m) c').ownBlock = some w.heap.size) → K (a.put o.dst (.slice A' (n + m) c')) w') :
    Oper.wp Try.prog o a w K Q := by
  obtain ⟨A', c', w', hr, h2, h3, h4⟩ := run_app o.type hown hl hy hA hn hB
  unfold Oper.wp execOp
  simp only [ho, resolve, invoke, builtin, Sem.run_bind, Sem.run_pure, Result.andThen_ok, List.map_toArray, List.map_cons, List.map_nil, hs, hx, hr]
  exact h A' c' w' h2 h3 h4
theorem does_app {ops : Array Oper} {o : Oper} {a : Act} {K : Act → World → Prop} {w : World} (hw : Region.wanted o (yielded ops a.tmps) = true) (s x : Operand) (ho : o.op = .call { callee := .builtin .append, args := #[s, x], argTypes := #[22, 22] })
    {B n m c : Nat} {v : Value} {xs l : List Tx} {A : Option Addr} (hs : a.eval s = v) (hx : a.eval x = .slice A m c) (hown : w.ownsRow B 9 1 v n (sv xs)) (hl : l.length = m) (hy : StrsAt w A l) (hA : A = none → c = 0) (hn : n + m ≤ 1000000) (hB : B ≤ w.heap.size)
    (h : ∀ A' c' w', w'.ownsRow B 9 1 (.slice A' (n + m) c') (n + m) (sv (xs ++ l)) → w.grownBy w' v.ownBlock → ((Value.slice A' (n + m) c').ownBlock = v.ownBlock ∨ (Value.slice A' (n + m) c').ownBlock = some w.heap.size) → K (a.put o.dst (.slice A' (n + m) c')) w') :
    Reg.Does Try.prog ops o a w K := by
  unfold Reg.Does
  rw [if_pos hw]
  exact wp_app s x ho hs hx hown hl hy hA hn hB h
theorem wpList_app {ops : Array Oper} {rest : List Oper} {o : Oper} {a : Act} {Q : Exit → Act → World → Prop} {w : World} (hw : Region.wanted o (yielded ops a.tmps) = true) (s x : Operand) (ho : o.op = .call { callee := .builtin .append, args := #[s, x], argTypes := #[22, 22] })
    {B n m c : Nat} {v : Value} {xs l : List Tx} {A : Option Addr} (hs : a.eval s = v) (hx : a.eval x = .slice A m c) (hown : w.ownsRow B 9 1 v n (sv xs)) (hl : l.length = m) (hy : StrsAt w A l) (hA : A = none → c = 0) (hn : n + m ≤ 1000000) (hB : B ≤ w.heap.size)
    (h : ∀ A' c' w', w'.ownsRow B 9 1 (.slice A' (n + m) c') (n + m) (sv (xs ++ l)) → w.grownBy w' v.ownBlock → ((Value.slice A' (n + m) c').ownBlock = v.ownBlock ∨ (Value.slice A' (n + m) c').ownBlock = some w.heap.size) → wpList Try.prog ops Q rest (a.put o.dst (.slice A' (n + m) c')) w') :
    wpList Try.prog ops Q (o :: rest) a w := by
  unfold wpList
  rw [if_pos hw]
  exact .inl (wp_app s x ho hs hx hown hl hy hA hn hB h)

theorem slice_elem : Try.prog.underlying 22 = some (.slice (Try.prog.elem 22)) := by kernel_rfl
theorem elem_size (w : World) : (sizeOf (Try.prog.elem 22)).run Try.prog w = .ok 1 w := by
  have e : Try.prog.elem 22 = 9 := by kernel_rfl
  rw [e]; exact Try.sizeOf9 w
theorem sliced_is (A : Option Addr) (c l h : Nat) (hA : A = none → c = 0) : ∃ A', sliced A l h c 1 = .slice A' (h - l) (c - l) ∧ (A' = none → c - l = 0) ∧ ∀ w (x : List Tx), StrsAt w A x → l < x.length → l < c → ∀ b off, A = some ⟨b, off, none⟩ → A' = some ⟨b, off + l, none⟩ := by
  unfold sliced
  by_cases hc : c = l
  · refine ⟨A, by rw [if_pos hc], fun h => by have := hA h; omega, fun w x _ _ h => by omega⟩
  · refine ⟨A.map (·.add (l * 1)), by rw [if_neg hc], fun h => ?_, fun w x _ _ _ b off e => ?_⟩
    · cases A with
      | none => have := hA rfl; omega
      | some a => simp at h
    · rw [e]; simp [add_at]
/-- 's[l:h]' of texts. -/
theorem texts_sliced {A : Option Addr} {n c l h : Nat} {x : List Tx} (hA : A = none → c = 0) (hx : x.length = n) (hl : l ≤ h) (hh : h ≤ n) (hc : n ≤ c) :
    ∃ A', sliced A l h c 1 = .slice A' (h - l) (c - l) ∧ (A' = none → c - l = 0) ∧ ∀ w, StrsAt w A x → StrsAt w A' ((x.take h).drop l) := by
  obtain ⟨A', h1, h2, h3⟩ := sliced_is A c l h hA
  refine ⟨A', h1, h2, fun w hs i hi => ?_⟩
  have hi' : l + i < x.length := by simp at hi; omega
  have hih : l + i < h := by simp at hi; omega
  obtain ⟨b, off, e, hb, hcell⟩ := hs (l + i) hi'
  refine ⟨b, off + l, h3 w x hs (by omega) (by omega) b off e, hb, ?_⟩
  rw [Nat.add_assoc, hcell]
  simp
/-- 's[:k]' -/
theorem run_to {A : Option Addr} {n c k : Nat} {x : List Tx} (hA : A = none → c = 0) (hx : x.length = n) (hk : k ≤ n) (hc : n ≤ c) :
    ∃ A', (A' = none → c = 0) ∧ (∀ w, (Instr.slice 22 (.slice A n c) none (some (.int .i64 (k : Int))) none).run Try.prog w = .ok (.slice A' k c) w) ∧ ∀ w, StrsAt w A x → StrsAt w A' (x.take k) := by
  obtain ⟨A', h1, h2, h3⟩ := texts_sliced (l := 0) (h := k) hA hx (by omega) hk hc
  refine ⟨A', h2, fun w => ?_, fun w hs => by simpa using h3 w hs⟩
  rw [run_slice_h w 22 A n c slice_elem .i64 (k : Int) (by omega) (by omega), elem_size]
  simp only [Result.andThen_ok, Int.toNat_natCast]
  rw [h1]; rfl
/-- 's[k:]' -/
theorem run_from {A : Option Addr} {n c k : Nat} {x : List Tx} (hA : A = none → c = 0) (hx : x.length = n) (hk : k ≤ n) (hc : n ≤ c) :
    ∃ A', (A' = none → c - k = 0) ∧ (∀ w, (Instr.slice 22 (.slice A n c) (some (.int .i64 (k : Int))) none none).run Try.prog w = .ok (.slice A' (n - k) (c - k)) w) ∧ ∀ w, StrsAt w A x → StrsAt w A' (x.drop k) := by
  obtain ⟨A', h1, h2, h3⟩ := texts_sliced (l := k) (h := n) hA hx hk (Nat.le_refl _) hc
  refine ⟨A', h2, fun w => ?_, fun w hs => by have := h3 w hs; rwa [List.take_of_length_le (by omega)] at this⟩
  rw [run_slice_l w 22 A n c slice_elem .i64 (k : Int) (by omega) (by omega), elem_size]
  simp only [Result.andThen_ok, Int.toNat_natCast]
  rw [h1]
end N
end Go.Proofs.Ytklcpopnggiepaa
