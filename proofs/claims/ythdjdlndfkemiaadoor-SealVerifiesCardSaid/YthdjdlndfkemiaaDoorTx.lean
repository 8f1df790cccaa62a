/- Trees: the walk of 'TreeRoots'. -/
import Derived.Test.YthdjdlndfkemiaaDoorTv
set_option linter.unusedSimpArgs false
set_option linter.unusedVariables false
set_option maxRecDepth 100000
namespace Go.Proofs.YthdjdlndfkemiaaDoor
open Go.RowKit
namespace S

/-- 'append(l, m...)' -/
theorem app2 {w0 w : World} {B cap c n : Nat} {A0 A : Option Addr} {l m : List Tx} (hown : Own B w (.slice A0 l.length cap) l) (hm : Lst w A n c m) (hn : l.length + n ≤ 1000000) (hB : Below B w0 w) (hBw : B ≤ w.heap.size) :
    ∃ A' c' w', (Ap.appA #[22, 22] 22 #[.slice A0 l.length cap, .slice A n c]).run Tryd.prog w = .ok (.slice A' (l ++ m).length c') w' ∧
      Own B w' (.slice A' (l ++ m).length c') (l ++ m) ∧ Below B w0 w' := by
  obtain ⟨i0, hi0, hz⟩ := Option.map_eq_some_iff.1 info_str
  simp only [Prod.mk.injEq] at hz
  obtain ⟨hz0, hz1, hz2⟩ := hz
  obtain ⟨h1, rfl, h3, h4, h5⟩ := hm
  obtain ⟨A', c', w', hrun, ho, hgr, _⟩ := Ap.run_appX (c := c) Tryd.underlying22 hi0 hz0 hz1 hz2 rfl (by omega) (by omega) 22 hown (src_of h1) h5 hn hBw
  have e1 : (l ++ m).length = l.length + m.length := by simp
  refine ⟨A', c', w', by rw [e1]; exact hrun, ?_, hB.grown hgr hBw (fun k e => ?_)⟩
  · show World.ownsRow _ _ _ _ _ _ _
    rw [e1, show sv (l ++ m) = sv l ++ sv m by simp [sv]]
    exact ho
  · have h0 : w.ownsRow B 9 1 (.slice A0 l.length cap) l.length (sv l) := hown
    exact (World.ownsRow.lt h0 k e).1
theorem Own.lst' {B : Nat} {w : World} {A : Option Addr} {n c : Nat} {l : List Tx} (h : Own B w (.slice A n c) l) (hn : l.length = n) : Lst w A n c l := by
  obtain ⟨A', c', e, hl⟩ := h.lst
  injection e with e1 e2 e3
  subst e1 e3
  rw [hn] at hl; exact hl
theorem lst_of {w : World} {A : Option Addr} {c : Nat} {l : List Tx} (h : StrsAt w A l) (hn : (l.length ≤ c ∧ c ≤ maxLen) ∧ (A = none → c = 0)) : Lst w A l.length c l := ⟨h, rfl, hn.1.1, by have := hn.1.2; unfold maxLen at this; omega, hn.2⟩
theorem txb_of {l : List Tx} (h : ∀ t ∈ l, t.length ≤ maxLen) : TxB l := fun t ht => by have := h t ht; unfold maxLen at this; omega
theorem few_n {l : List Tx} (h : fewT l = true) : l.length ≤ 20 := by unfold fewT at h; simp at h; exact h.1
theorem few_sh {l : List Tx} (h : fewT l = true) : ∀ t ∈ l, Sh t := fun t ht => by
  unfold fewT at h
  rw [Bool.and_eq_true] at h
  have := fewB_all h.2 t ht
  unfold Sh; omega
theorem dig_sh {l : List Tx} (h : l.all isD = true) : ∀ t ∈ l, Sh t := fun t ht => isD_sh (List.all_eq_true.1 h t ht)
theorem dig_sm {l : List Tx} (h : l.all isD = true) : ∀ t ∈ l, Sm t := fun t ht => isD_sm (List.all_eq_true.1 h t ht)
theorem app_b {l m : List Tx} {N : Nat} (h : ∀ t ∈ l, t.length ≤ N) (k : ∀ t ∈ m, t.length ≤ N) : ∀ t ∈ l ++ m, t.length ≤ N := fun t ht => by
  rcases List.mem_append.1 ht with ht | ht
  · exact h t ht
  · exact k t ht

end S
end Go.Proofs.YthdjdlndfkemiaaDoor

/- Trees: the walk of 'TreeBinds'. -/
namespace Go.Proofs.YthdjdlndfkemiaaDoor
open Go.RowKit
namespace S

theorem good_all {l : List Tx} (h : goodB l = true) : l.all isD = true := by unfold goodB at h; rw [Bool.and_eq_true] at h; exact h.1
theorem good_few {l : List Tx} (h : goodB l = true) : fewT l = true := by unfold goodB at h; rw [Bool.and_eq_true] at h; exact h.2
theorem rooted_all {l : List Tx} (h : l.all isD = true) : rootedT l = rootT l := by unfold rootedT; rw [if_pos h]
theorem check_true {r : Tx} {n i : Nat} {d : Tx} {p : List Tx} (h : checkB r n i d p = true) : p.all isD = true ∧ isD d = true ∧ upT n i d p.reverse = r ∧ p.length = lenT n i := by
  unfold checkB at h
  simp only [Bool.and_eq_true, decide_eq_true_eq, beq_iff_eq, Int.toNat_natCast] at h
  exact ⟨h.1.1.1.2, h.1.1.2, h.1.2, h.2⟩

end S
end Go.Proofs.YthdjdlndfkemiaaDoor

/- Trees: the walk of 'TreeContinues'. -/
namespace Go.Proofs.YthdjdlndfkemiaaDoor
open Go.RowKit
namespace S

theorem does_appO {ops : Array Oper} {o : Oper} {a : Act} {K : Act → World → Prop} {w : World} (hw : Region.wanted o (yielded ops a.tmps) = true) (s x : Operand) (ho : o.op = .call { callee := .builtin .append, args := #[s, x], argTypes := #[22, 22] })
    {B cap n c : Nat} {A0 A : Option Addr} {l m : List Tx} (hs : a.eval s = .slice A0 l.length cap) (hx : a.eval x = .slice A n c) (hown : Own B w (.slice A0 l.length cap) l) (hm : Lst w A n c m) (hn : l.length + n ≤ 1000000) (hB : B ≤ w.heap.size)
    (h : ∀ A' c' w', Own B w' (.slice A' (l ++ m).length c') (l ++ m) → Reg.Keep (fun q => B ≤ q) w w' → K (a.put o.dst (.slice A' (l ++ m).length c')) w') :
    Reg.Does Tryd.prog ops o a w K := by
  obtain ⟨i0, hi0, hz⟩ := Option.map_eq_some_iff.1 info_str
  simp only [Prod.mk.injEq] at hz
  obtain ⟨hz0, hz1, hz2⟩ := hz
  obtain ⟨h1, rfl, h3, h4, h5⟩ := hm
  refine Ap.does_appX Tryd.underlying22 hi0 hz0 hz1 hz2 rfl (by omega) (by omega) hw s x ho hs hx hown (src_of h1) h5 hn hB ?_
  intro A' c' w' ho' hg _
  have e1 : (l ++ m).length = l.length + m.length := by simp
  have := h A' c' w' (by
    show World.ownsRow _ _ _ _ _ _ _
    rw [e1, show sv (l ++ m) = sv l ++ sv m by simp [sv]]
    exact ho') ⟨hg.os, hg.tape, hg.output, hg.size, fun k hk hn => hg.block k hk (fun e => hn (by
      have h0 : w.ownsRow B 9 1 (.slice A0 l.length cap) l.length (sv l) := hown
      exact (h0.lt k e.symm).1))⟩
  rw [e1] at this
  exact this
/-- A list that owns its block, as a value. -/
def OwS (B : Nat) (w : World) (v : Value) (l : List Tx) : Prop := ∃ A c, v = .slice A l.length c ∧ Own B w v l
theorem OwS.below {B : Nat} {w w' : World} {v : Value} {l : List Tx} (h : OwS B w v l) (hb : Below w.heap.size w w') : OwS B w' v l := by
  obtain ⟨A, c, e, ho⟩ := h
  exact ⟨A, c, e, ho.below hb⟩
def coT (B : Nat) (l m k : List Tx) : List Value → World → Prop
  | [], _ => True
  | [v0], w => OwS B w v0 l
  | [v0, v1], w => OwS B w v0 l ∧ OwS B w v1 m
  | [_, _, v2], w => OwS B w v2 (l ++ m)
  | [_, _, v2, v3], w => OwS B w v2 (l ++ m) ∧ OwS B w v3 k
  | _ :: _ :: _ :: _ :: v4 :: _, w => OwS B w v4 (l ++ m ++ k)
theorem coT_s {B : Nat} {l m k : List Tx} : ∀ vs w w', coT B l m k vs w → Below w.heap.size w w' → coT B l m k vs w' := fun vs w w' h hb => by
  match vs, h with
  | [], _ => trivial
  | [v0], h => exact OwS.below h hb
  | [v0, v1], ⟨h1, h2⟩ => exact ⟨h1.below hb, h2.below hb⟩
  | [_, _, v2], h => exact OwS.below h hb
  | [_, _, v2, v3], ⟨h1, h2⟩ => exact ⟨h1.below hb, h2.below hb⟩
  | _ :: _ :: _ :: _ :: v4 :: _, h => exact OwS.below h hb
theorem to_L {W : World} {A : Option Addr} {n c k : Nat} {l : List Tx} (h : Lst W A n c l) (hk : k ≤ n) :
    ∃ A', (∀ w, (Instr.slice 22 (.slice A n c) none (some (.int .i64 (k : Int))) none).run Tryd.prog w = .ok (.slice A' k c) w) ∧ Lst W A' k c (l.take k) := by
  obtain ⟨h1, rfl, h3, h4, h5⟩ := h
  obtain ⟨A', e1, e2, e3⟩ := strs_to (l := l) (A := A) (c := c) (k := k) h5 hk h3
  exact ⟨A', e2, e3 W h1, by rw [List.length_take]; omega, by omega, h4, e1⟩
theorem ext_true {old root : Tx} {m n : Nat} {p : List Tx} (h : extB old m root n p = true) (hm : 1 ≤ m) : p.all isD = true ∧ (bothT n m true old p.reverse).1 = old ∧ (bothT n m true old p.reverse).2 = root ∧ p.length = longT n m true := by
  unfold extB at h
  have hm0 : ¬ (m : Int) = 0 := by omega
  rw [if_neg hm0] at h
  simp only [Bool.and_eq_true, decide_eq_true_eq, beq_iff_eq, Int.toNat_natCast] at h
  exact ⟨h.1.1.2, h.2.1, h.2.2.1, h.2.2.2⟩

theorem keepGE {B : Nat} {w w' : World} (h : Reg.Keep (fun q => B ≤ q) w w') (hB : B ≤ w.heap.size) : Below B w w' := h.below fun q hq => ⟨by omega, by omega⟩

/-- The law: either the beginning, or a collision. -/
theorem cont_law (a l p : List Tx) (hla : 1 ≤ a.length) (hle : a.length ≤ l.length) (ga : a.all isD = true) (gl : l.all isD = true) (gp : ∀ t ∈ p, Sm t) (hx : extB (rootT a) a.length (rootT l) l.length p = true) (hne : ¬ a = l.take a.length) :
    shownB (textsT a ++ textsT l ++ textsT (l.take a.length) ++ linkTexts l.length a.length true (rootT a) p.reverse) = true := by
  obtain ⟨_, e1, e2, _⟩ := ext_true hx hla
  rw [shown_iff]
  have sl := dig_sm gl
  have sa := dig_sm ga
  rcases conts_law l.length l a.length true (rootT a) p.reverse rfl hla hle sl (fun t ht => gp t (List.mem_reverse.1 ht)) (root_sm _ sa) e2 with h | h
  · rw [e1] at h
    rcases roots_law a.length a (l.take a.length) rfl (by simp; omega) sa (sm_take sl _) h with h | h
    · exact absurd h hne
    · exact h.mono fun t ht => by simp only [List.mem_append] at ht ⊢; rcases ht with ht | ht <;> simp [ht]
  · exact h.mono fun t ht => by simp only [List.mem_append] at ht ⊢; rcases ht with ht | ht <;> simp [ht]
/-- Without elements, all is linked. -/
theorem cont_nil (l p : List Tx) (gl : l.all isD = true) (hne : ¬ ([] : List Tx) = l.take 0) : False := hne (by simp)

end S
end Go.Proofs.YthdjdlndfkemiaaDoor
