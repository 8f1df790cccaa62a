/- Trees: the walk of 'TreeRoots'. -/
import Derived.Test.YtejhefmcinohhaaGreatDoorTv
set_option linter.unusedSimpArgs false
set_option linter.unusedVariables false
set_option maxRecDepth 100000
namespace Go.Proofs.YtejhefmcinohhaaGreatDoor
open Go.RowKit
namespace S

/-- 'append(l, m...)' -/
theorem app2 {w0 w : World} {B cap c n : Nat} {A0 A : Option Addr} {l m : List Tx} (hown : Own B w (.slice A0 l.length cap) l) (hm : Lst w A n c m) (hn : l.length + n ≤ 1000000) (hB : Below B w0 w) (hBw : B ≤ w.heap.size) :
    ∃ A' c' w', (Ap.appA #[22, 22] 22 #[.slice A0 l.length cap, .slice A n c]).run Tryz.prog w = .ok (.slice A' (l ++ m).length c') w' ∧
      Own B w' (.slice A' (l ++ m).length c') (l ++ m) ∧ Below B w0 w' := by
  obtain ⟨i0, hi0, hz⟩ := Option.map_eq_some_iff.1 info_str
  simp only [Prod.mk.injEq] at hz
  obtain ⟨hz0, hz1, hz2⟩ := hz
  obtain ⟨h1, rfl, h3, h4, h5⟩ := hm
  obtain ⟨A', c', w', hrun, ho, hgr, _⟩ := Ap.run_appX (c := c) Tryz.underlying22 hi0 hz0 hz1 hz2 rfl (by omega) (by omega) 22 hown (src_of h1) h5 hn hBw
  have e1 : (l ++ m).length = l.length + m.length := by simp
  refine ⟨A', c', w', by rw [e1]; exact hrun, ?_, hB.grown hgr hBw (fun k e => ?_)⟩
  · show World.ownsRow _ _ _ _ _ _ _
    rw [e1, show sv (l ++ m) = sv l ++ sv m by simp [sv]]
    exact ho
  · have h0 : w.ownsRow B 9 1 (.slice A0 l.length cap) l.length (sv l) := hown
    exact (World.ownsRow.lt h0 k e).1
theorem Own.lst' {B : Nat} {w : World} {A : Option Addr} {n c : Nat} {l : List Tx} (h : Own B w (.slice A n c) l) (hn : l.length = n) : Lst w A n c l := by
  obtain ⟨A', c', e, hl⟩ := h.lst
  injection e with e1 e2 e3
  subst e1 e3
  rw [hn] at hl; exact hl
theorem lst_of {w : World} {A : Option Addr} {c : Nat} {l : List Tx} (h : StrsAt w A l) (hn : (l.length ≤ c ∧ c ≤ maxLen) ∧ (A = none → c = 0)) : Lst w A l.length c l := ⟨h, rfl, hn.1.1, by have := hn.1.2; unfold maxLen at this; omega, hn.2⟩
theorem txb_of {l : List Tx} (h : ∀ t ∈ l, t.length ≤ maxLen) : TxB l := fun t ht => by have := h t ht; unfold maxLen at this; omega
theorem few_n {l : List Tx} (h : fewT l = true) : l.length ≤ 20 := by unfold fewT at h; simp at h; exact h.1
theorem few_sh {l : List Tx} (h : fewT l = true) : ∀ t ∈ l, Sh t := fun t ht => by
  unfold fewT at h
  rw [Bool.and_eq_true] at h
  have := fewB_all h.2 t ht
  unfold Sh; omega
theorem dig_sh {l : List Tx} (h : l.all isD = true) : ∀ t ∈ l, Sh t := fun t ht => isD_sh (List.all_eq_true.1 h t ht)
theorem dig_sm {l : List Tx} (h : l.all isD = true) : ∀ t ∈ l, Sm t := fun t ht => isD_sm (List.all_eq_true.1 h t ht)
theorem app_b {l m : List Tx} {N : Nat} (h : ∀ t ∈ l, t.length ≤ N) (k : ∀ t ∈ m, t.length ≤ N) : ∀ t ∈ l ++ m, t.length ≤ N := fun t ht => by
  rcases List.mem_append.1 ht with ht | ht
  · exact h t ht
  · exact k t ht

end S
end Go.Proofs.YtejhefmcinohhaaGreatDoor
