/- Seals: 'SealChanges': plain law; the rows that are copied; an element put into a row of one's own. -/
import Derived.Test.YthdjdlndfkemiaaGreatDoorWw
import Derived.Test.YthdjdlndfkemiaaGreatDoorRea
set_option linter.unusedSimpArgs false
set_option linter.unusedVariables false
set_option maxRecDepth 100000
namespace Go.Proofs.YthdjdlndfkemiaaGreatDoor
open Go.RowKit
namespace S

theorem last_changes {s m : Tx} {h i i' : Nat} (hh : h ≤ 2) (hi : i < 2 ^ h) (hs : s.length ≤ 300) (hm : m.length ≤ 140737488351232) {sig p : List Tx} (hv : verB (pubT s h) m i' sig p = true) (hne : ¬ ((i' : Int) = i ∧ sig = sigT s i m ∧ p = pathT (leavesT s h) i)) (hor : i' = i ∨ sig = sigT s i m) : Last s m h 15 i' sig p := by
  obtain ⟨j', e, hj, h8, hp8, hd1, hd2, hup⟩ := ver_true hv
  obtain rfl : i' = j' := by omega
  refine ⟨hh, hs, hm, by omega, by omega, h8, hd1, hd2, hp8, hj, (shown_iff _).2 ?_⟩
  rcases sound_law s m h 15 hh (Nat.le_refl _) sig p i' h8 hd1 hd2 hj hup with ⟨a1, a2, a3⟩ | hc
  · by_cases hii : i' = i
    · subst hii
      exact absurd ⟨rfl, a2, a3⟩ hne
    · have e1 := hor.resolve_left hii
      have hp4 := pow4 hh
      have hc := other_law s m h 15 i i' (Nat.le_refl _) hi (by rw [← a1]; exact hj) (by omega) (lt20 hs) (fun e => hii e.symm) (e1.symm.trans a2)
      exact hc.mono fun t ht => List.mem_append_left _ ht
  · exact hc

theorem Reg.upd3a' {w : World} {g : Nat} {T : TypeId} {a b c x : Value} (h : w.heap[g]? = some (.cells #[a, b, c] T (0, 0))) : Reg.Upd g #[x, b, c] T w (w.setCell ⟨g, 0, none⟩ x) := (Reg.Upd.refl h).set 0 x

/-! Copies. -/
def EmpR (B : Nat) (v : Value) (w : World) : Prop := ∃ g, v = .slice (some ⟨g, 0, none⟩) 0 0 ∧ Own B w v []
def RowR (B n : Nat) (l : List Tx) (v : Value) (w : World) : Prop := ∃ A c, v = .slice A n c ∧ Own B w (.slice A n c) l
def BoxR (B : Nat) (v : Value) (w : World) : Prop := ∃ g, v = .pointer (some ⟨g, 0, none⟩) ∧ B ≤ g ∧ Reg.Blk g #[.int .i64 0, .slice none 0 0, .slice none 0 0] 29 w
def ptrB : Value → Option Nat
  | .pointer (some a) => some a.block
  | _ => none
def chB (h : Nat) : Nat → Value → Option Nat
  | 5, v => v.ownBlock
  | 9, v => if h = 0 then none else v.ownBlock
  | 11, v => ptrB v
  | _, _ => none
def chF (B h : Nat) (sig p : List Tx) (d : Nat) (v : Value) (w : World) : Prop :=
  (d = 2 ∨ d = 6 → EmpR B v w) ∧ (d = 5 → RowR B 18 sig v w) ∧ (d = 9 → RowR B h p v w) ∧ (d = 11 → BoxR B v w)
theorem chF_s {B h : Nat} {sig p : List Tx} : ∀ d v w w', chF B h sig p d v w → Reg.Keep (fun _ => False) w w' → chF B h sig p d v w' := fun _ _ _ _ ⟨h1, h2, h3, h4⟩ k =>
  ⟨fun e => let ⟨g, e1, ho⟩ := h1 e; ⟨g, e1, ho.below (below_no k)⟩, fun e => let ⟨A, c, e1, ho⟩ := h2 e; ⟨A, c, e1, ho.below (below_no k)⟩, fun e => let ⟨A, c, e1, ho⟩ := h3 e; ⟨A, c, e1, ho.below (below_no k)⟩, fun e => let ⟨g, e1, hB, hb⟩ := h4 e; ⟨g, e1, hB, hb.keep (below_no k)⟩⟩
theorem apF_no {B h : Nat} {sig p : List Tx} {d : Nat} (hd : d ≠ 2 ∧ d ≠ 6 ∧ d ≠ 5 ∧ d ≠ 9 ∧ d ≠ 11) (v : Value) (w : World) : chF B h sig p d v w :=
  ⟨fun e => by rcases e with e | e; exact absurd e hd.1; exact absurd e hd.2.1, fun e => absurd e hd.2.2.1, fun e => absurd e hd.2.2.2.1, fun e => absurd e hd.2.2.2.2⟩
theorem emp_new (w : World) (B : Nat) (hB : B ≤ w.heap.size) : EmpR B (.slice (some ⟨w.heap.size, 0, none⟩) 0 0) (w.alloc (.cells #[] 9)) :=
  ⟨w.heap.size, rfl, ⟨rfl, .inr ⟨w.heap.size, 0, #[], rfl, hB, Reg.heap_new _ _, Nat.le_refl _, Nat.zero_le _, rfl, rfl⟩⟩⟩
theorem emp_app {w : World} {B g : Nat} {A : Option Addr} {n c : Nat} {l : List Tx} (hown : Own B w (.slice (some ⟨g, 0, none⟩) 0 0) []) (hm : Lst w A n c l) (hn : n ≤ 1000000) (hBw : B ≤ w.heap.size) :
    ∃ A' c' w', (Builtin.append_ #[27, 27] 27 #[.slice (some ⟨g, 0, none⟩) 0 0, .slice A n c]).run Tryz.prog w = .ok (.slice A' n c') w' ∧ Own B w' (.slice A' n c') l ∧ Below w.heap.size w w' ∧ (n ≠ 0 → ∀ k, (Value.slice A' n c').ownBlock = some k → w.heap.size ≤ k ∧ k < w'.heap.size) := by
  obtain ⟨i0, hi0, hz⟩ := Option.map_eq_some_iff.1 info_str
  simp only [Prod.mk.injEq] at hz
  obtain ⟨hz0, hz1, hz2⟩ := hz
  obtain ⟨h1, rfl, h3, h4, h5⟩ := hm
  obtain ⟨A', c', w', hrun, ho, hgr, hat⟩ := Ap.run_appG (c := c) Tryz.underlying27 hi0 hz0 hz1 hz2 rfl (by omega) (by omega) 27 hown (src_of h1) h5 (by simp; omega) hBw
  obtain ⟨A2, c2, w2, hrun2, _, _, hbw⟩ := Ap.run_appX (c := c) Tryz.underlying27 hi0 hz0 hz1 hz2 rfl (by omega) (by omega) 27 hown (src_of h1) h5 (by simp; omega) hBw
  have he := hrun.symm.trans hrun2
  injection he with he1 he2
  subst he2
  simp only [List.length_nil, Nat.zero_add, List.nil_append] at hrun ho hat hbw
  by_cases hl : l.length = 0
  · have hl0 : l = [] := List.eq_nil_of_length_eq_zero hl
    subst hl0
    have hs : Src Tryz.prog i0.size 27 (.slice A 0 c) 0 [] w := by
      cases A with
      | none => exact Src.ofNil w Tryz.underlying27 c
      | some a => exact Src.ofSlice w Tryz.underlying27 a 0 c [] (by simp) (fun j u h => by simp at h) (fun u h => by simp at h)
    have hr := run_append_nothing (P := Tryz.prog) w 27 27 27 9 i0 Tryz.underlying27 hi0 (some ⟨g, 0, none⟩) 0 0 (Nat.le_refl _) (.slice A 0 c) hs
    exact ⟨_, 0, w, hr, hown, Below.refl _ _, fun h => absurd rfl h⟩
  · have hz := hbw (by omega)
    refine ⟨A', c', w', hrun, ho, hz, fun _ k hk => ?_⟩
    have h0 : w'.ownsRow B 9 1 (.slice A' l.length c') l.length (sv l) := ho
    refine ⟨?_, (own_len (show Own B w' _ l from ho) hk).2⟩
    rcases hat with e | e
    · exfalso
      rw [e] at hk
      have hkg := (own_len hown hk).2
      have e1 : k = g := by simpa [Value.ownBlock] using hk.symm
      subst e1
      rcases h0.2 with ⟨e0, e1⟩ | ⟨g', cap, cur, e1, h2, hgg, h3, h4, h6, _⟩
      · exact hl e1
      · have hown0 : w.ownsRow B 9 1 (.slice (some ⟨k, 0, none⟩) 0 0) 0 (sv []) := hown
        rcases hown0.2 with ⟨e2, _⟩ | ⟨g2, cap2, cur2, e2, _, hgg2, _, _, h62, _⟩
        · cases e2
        · injection e2 with e3 e4 e5
          injection e3 with e3
          injection e3 with e3
          subst e3 e5
          have hb := hz.block k hkg
          have e6 : g' = k := by
            have := e
            rw [e1] at this
            simpa [Value.ownBlock] using this
          subst e6
          rw [hgg, hgg2] at hb
          injection hb with hb
          injection hb with hb
          rw [← hb] at h62
          omega
    · rw [hk] at e
      injection e with e
      omega

theorem does_emp {ops : Array Oper} {o : Oper} {a : Act} {K : Act → World → Prop} {w : World} (hw : Region.wanted o (yielded ops a.tmps) = true) (s x : Operand) (ho : o.op = .call { callee := .builtin .append, args := #[s, x], argTypes := #[27, 27] }) (hty : o.type = 27)
    {A : Option Addr} {B g n c : Nat} {l : List Tx} (hs : a.eval s = .slice (some ⟨g, 0, none⟩) 0 0) (hx : a.eval x = .slice A n c) (hown : Own B w (.slice (some ⟨g, 0, none⟩) 0 0) []) (hm : Lst w A n c l) (hn : n ≤ 1000000) (hBw : B ≤ w.heap.size)
    (hk : ∀ A' c' w', Own B w' (.slice A' n c') l → Below w.heap.size w w' → (n ≠ 0 → ∀ k, (Value.slice A' n c').ownBlock = some k → w.heap.size ≤ k ∧ k < w'.heap.size) → K (a.put o.dst (.slice A' n c')) w') : Reg.Does Tryz.prog ops o a w K := by
  obtain ⟨A', c', w', hr, h2, h3, h4⟩ := emp_app hown hm hn hBw
  unfold Reg.Does
  rw [if_pos hw]
  unfold Oper.wp execOp
  simp only [ho, hty, resolve, invoke, builtin, Sem.run_bind, Sem.run_pure, Result.andThen_ok, List.map_toArray, List.map_cons, List.map_nil, hs, hx, hr]
  exact hk A' c' w' h2 h3 h4
/-- An element put into a row of one's own. -/
theorem row_set {B n c : Nat} {A : Option Addr} {w : World} {l : List Tx} (ho : Own B w (.slice A n c) l) (hl : l.length = n) {k : Nat} (hk : k < n) (x : Tx) :
    ∃ b, A = some ⟨b, 0, none⟩ ∧ B ≤ b ∧ b < w.heap.size ∧ (∃ u, w.cell? ⟨b, k, none⟩ = some u) ∧ w.frozen? ⟨b, k, none⟩ = false ∧ Lst (w.setCell ⟨b, k, none⟩ (.string (str x))) A n c (l.set k x) ∧ Reg.Keep (fun q => q = b) w (w.setCell ⟨b, k, none⟩ (.string (str x))) := by
  subst hl
  have h0 : w.ownsRow B 9 1 (.slice A l.length c) l.length (sv l) := ho
  rcases h0.2 with ⟨_, e⟩ | ⟨b, cap, cur, e, hB, hb, hc, hm, hcs, htk⟩
  · omega
  injection e with e1 _ e3
  subst e1 e3
  have hu := (Reg.Upd.refl hb).set k (.string (str x))
  obtain ⟨c0, f0⟩ := Reg.cells_at hb
  obtain ⟨c1, f1⟩ := Reg.cells_at hu.at_
  have hkc : k < cur.size := by rw [hcs]; omega
  have hlt : b < w.heap.size := (Array.getElem?_eq_some_iff.1 hb).1
  refine ⟨b, rfl, hB, hlt, ⟨cur[k], by rw [c0]; exact Array.getElem?_eq_getElem hkc⟩, f0 k, ⟨fun i hi => ⟨b, 0, rfl, by rw [hu.size]; exact hlt, ?_⟩, by rw [List.length_set], hc, hm, fun e => by cases e⟩, Reg.updK (M := fun q => q = b) (g := b) rfl _ _ _ _ (Reg.Keep.refl _ _) hu⟩
  rw [Nat.zero_add, c1]
  rw [List.length_set] at hi
  by_cases hik : k = i
  · subst hik
    rw [Array.getElem?_setIfInBounds_self_of_lt hkc, List.getElem_set_self]
  · rw [Array.getElem?_setIfInBounds_ne hik, List.getElem_set_ne hik]
    have h2 : (sv l)[i]? = some (.string (str l[i])) := by unfold sv; rw [List.getElem?_map, List.getElem?_eq_getElem hi]; rfl
    rw [← htk, List.getElem?_take_of_lt (by omega), Array.getElem?_toList] at h2
    exact h2
theorem own_far {B g : Nat} {C : Array Value} {T : TypeId} {w w' : World} {v : Value} {l : List Tx} (h : Own B w v l) (hu : Reg.Upd g C T w w') (hne : v.ownBlock ≠ some g) : Own B w' v l := by
  refine ⟨h.1, ?_⟩
  rcases h.2 with h2 | ⟨g', cap, cur, hv, hg, hh, r⟩
  · exact .inl h2
  · exact .inr ⟨g', cap, cur, hv, hg, (hu.far g' (fun e => hne (by rw [hv, e]; rfl))).trans hh, r⟩
theorem lst_own {B n c : Nat} {A : Option Addr} {w : World} {l : List Tx} (h : Own B w (.slice A n c) l) (hl : l.length = n) : ∀ b off, A = some ⟨b, off, none⟩ → (Value.slice A n c).ownBlock = some b := fun b off e => by rw [e]; rfl
theorem lst_vac {w w' : World} {A : Option Addr} {n c : Nat} {l : List Tx} (h : Lst w A n c l) (hn : n = 0) : Lst w' A n c l := ⟨fun i hi => by have := h.len; omega, h.len, h.cap, h.max, h.nil⟩
theorem txb_set {l : List Tx} {k : Nat} {x : Tx} (h : TxB l) (hx : x.length ≤ 9223372036854775807) : TxB (l.set k x) := fun t ht => by
  rcases List.mem_or_eq_of_mem_set ht with h1 | h1
  · exact h t h1
  · rw [h1]; exact hx

end S
end Go.Proofs.YthdjdlndfkemiaaGreatDoor
