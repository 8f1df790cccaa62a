/- Lines: 'normal', 'Before'. -/
import Derived.Test.YtjeapimjgojpoaaIe
set_option linter.unusedSimpArgs false
set_option linter.unusedVariables false
set_option maxRecDepth 100000
namespace Go.Proofs.Ytjeapimjgojpoaa
open Go.RowKit
namespace G

def Spt.formed (s : Spt) : Bool := decide (0 ≤ s.seg ∧ s.seg ≤ 38) && (validI s.pn s.pd && decide (0 ≤ s.pn ∧ s.pn ≤ s.pd))
def Spt.norm (s : Spt) : Spt := if s.formed = true ∧ s.pn = s.pd then ⟨s.seg + 1, 0, 1, s.side, s.an, s.ad⟩ else s
def Spt.B6 (s : Spt) : Prop := B64 s.seg ∧ B64 s.pn ∧ B64 s.pd ∧ B64 s.side ∧ B64 s.an ∧ B64 s.ad
theorem norm_B6 {s : Spt} (h : s.B6) : s.norm.B6 := by
  unfold Spt.norm
  split
  · rename_i hf
    have h1 := hf.1
    unfold Spt.formed at h1
    simp only [Bool.and_eq_true, decide_eq_true_eq] at h1
    unfold Spt.B6 B64 at h ⊢
    simp only
    omega
  · exact h
theorem formed_iff (s : Spt) : s.formed = true ↔ (0 ≤ s.seg ∧ s.seg ≤ 38) ∧ validI s.pn s.pd = true ∧ 0 ≤ s.pn ∧ s.pn ≤ s.pd := by
  unfold Spt.formed; simp [and_assoc]
set_option maxHeartbeats 4000000 in
theorem norm_neg (a1 a2 a3 a4 a5 a6 : Int) (w : World) (hB : Spt.B6 ⟨a1, a2, a3, a4, a5, a6⟩) (h1 : a1 < 0) :
    Calls Try.prog 35 #[.agg #[.int .i64 a1, .int .i64 a2, .int .i64 a3, .int .i64 a4, .int .i64 a5, .int .i64 a6]] w fun e w' => e = .returned (.tuple #[.agg (Spt.norm ⟨a1, a2, a3, a4, a5, a6⟩).cells, .bool (Spt.formed ⟨a1, a2, a3, a4, a5, a6⟩)]) ∧ Below w.heap.size w w' := by
  have hff : Spt.formed ⟨a1, a2, a3, a4, a5, a6⟩ = false := by
    cases hf : Spt.formed ⟨a1, a2, a3, a4, a5, a6⟩ with
    | false => rfl
    | true =>
      obtain ⟨⟨q1, q2⟩, q3, q4, q5⟩ := (formed_iff _).1 hf
      simp only at q1 q2 q3 q4 q5
      exfalso
      first | omega | (rw [hv] at q3; cases q3)
  have HR : Hid (Spt.norm ⟨a1, a2, a3, a4, a5, a6⟩ = ⟨a1, a2, a3, a4, a5, a6⟩ ∧ Spt.formed ⟨a1, a2, a3, a4, a5, a6⟩ = false) := by
    refine ⟨?_, hff⟩
    unfold Spt.norm
    rw [hff]
    rw [if_neg (by simp only; first | (intro h; exact absurd h.1 (by decide)) | (intro h; exact absurd h.2 (by omega)))]
  unfold Spt.B6 B64 at hB
  simp only at hB
  obtain ⟨⟨b1, b1'⟩, ⟨b2, b2'⟩, ⟨b3, b3'⟩, ⟨b4, b4'⟩, ⟨b5, b5'⟩, b6, b6'⟩ := hB
  clear hff
  go_enter Try.func35, Try.ntmps35
  obtain ⟨k1, k2⟩ := Reg.Blk.new2 (w := w) (C := #[.int .i64 a1, .int .i64 a2, .int .i64 a3, .int .i64 a4, .int .i64 a5, .int .i64 a6]) (T := 34) (C' := #[.int .i64 0, .int .i64 0, .int .i64 0, .int .i64 0, .int .i64 0, .int .i64 0]) (T' := 34) (Below.refl _ _)
  have HB := Lib.hid (keep_of (((Below.refl w.heap.size w).alloc (Nat.le_refl _) (.cells #[.int .i64 a1, .int .i64 a2, .int .i64 a3, .int .i64 a4, .int .i64 a5, .int .i64 a6] 34)).alloc (by simp) (.cells #[.int .i64 0, .int .i64 0, .int .i64 0, .int .i64 0, .int .i64 0, .int .i64 0] 34)))
  obtain ⟨c1, f1, z1⟩ := k1.facts
  obtain ⟨c2, f2, z2⟩ := k2.facts
  have HK2 := Lib.hid k2
  clear k1 k2
  go_wp2_with fail
  rw [HR.out.1, HR.out.2]
  refine bodyPost_ret (v := .tuple #[.agg (Spt.mk a1 a2 a3 a4 a5 a6).cells, .bool false]) (by simp [results, Try.results35, go_sem, Spt.cells]) rfl ⟨rfl, ((Below.refl _ _).alloc (Nat.le_refl _) _).alloc (by simp) _⟩
set_option maxHeartbeats 4000000 in
theorem norm_far (a1 a2 a3 a4 a5 a6 : Int) (w : World) (hB : Spt.B6 ⟨a1, a2, a3, a4, a5, a6⟩) (h0 : ¬ a1 < 0) (h1 : 38 < a1) :
    Calls Try.prog 35 #[.agg #[.int .i64 a1, .int .i64 a2, .int .i64 a3, .int .i64 a4, .int .i64 a5, .int .i64 a6]] w fun e w' => e = .returned (.tuple #[.agg (Spt.norm ⟨a1, a2, a3, a4, a5, a6⟩).cells, .bool (Spt.formed ⟨a1, a2, a3, a4, a5, a6⟩)]) ∧ Below w.heap.size w w' := by
  have hff : Spt.formed ⟨a1, a2, a3, a4, a5, a6⟩ = false := by
    cases hf : Spt.formed ⟨a1, a2, a3, a4, a5, a6⟩ with
    | false => rfl
    | true =>
      obtain ⟨⟨q1, q2⟩, q3, q4, q5⟩ := (formed_iff _).1 hf
      simp only at q1 q2 q3 q4 q5
      exfalso
      first | omega | (rw [hv] at q3; cases q3)
  have HR : Hid (Spt.norm ⟨a1, a2, a3, a4, a5, a6⟩ = ⟨a1, a2, a3, a4, a5, a6⟩ ∧ Spt.formed ⟨a1, a2, a3, a4, a5, a6⟩ = false) := by
    refine ⟨?_, hff⟩
    unfold Spt.norm
    rw [hff]
    rw [if_neg (by simp only; first | (intro h; exact absurd h.1 (by decide)) | (intro h; exact absurd h.2 (by omega)))]
  unfold Spt.B6 B64 at hB
  simp only at hB
  obtain ⟨⟨b1, b1'⟩, ⟨b2, b2'⟩, ⟨b3, b3'⟩, ⟨b4, b4'⟩, ⟨b5, b5'⟩, b6, b6'⟩ := hB
  clear hff
  go_enter Try.func35, Try.ntmps35
  obtain ⟨k1, k2⟩ := Reg.Blk.new2 (w := w) (C := #[.int .i64 a1, .int .i64 a2, .int .i64 a3, .int .i64 a4, .int .i64 a5, .int .i64 a6]) (T := 34) (C' := #[.int .i64 0, .int .i64 0, .int .i64 0, .int .i64 0, .int .i64 0, .int .i64 0]) (T' := 34) (Below.refl _ _)
  have HB := Lib.hid (keep_of (((Below.refl w.heap.size w).alloc (Nat.le_refl _) (.cells #[.int .i64 a1, .int .i64 a2, .int .i64 a3, .int .i64 a4, .int .i64 a5, .int .i64 a6] 34)).alloc (by simp) (.cells #[.int .i64 0, .int .i64 0, .int .i64 0, .int .i64 0, .int .i64 0, .int .i64 0] 34)))
  obtain ⟨c1, f1, z1⟩ := k1.facts
  obtain ⟨c2, f2, z2⟩ := k2.facts
  have HK2 := Lib.hid k2
  clear k1 k2
  go_wp2_with fail
  rw [HR.out.1, HR.out.2]
  refine bodyPost_ret (v := .tuple #[.agg (Spt.mk a1 a2 a3 a4 a5 a6).cells, .bool false]) (by simp [results, Try.results35, go_sem, Spt.cells]) rfl ⟨rfl, ((Below.refl _ _).alloc (Nat.le_refl _) _).alloc (by simp) _⟩
set_option maxHeartbeats 4000000 in
theorem norm_inv (a1 a2 a3 a4 a5 a6 : Int) (w : World) (hB : Spt.B6 ⟨a1, a2, a3, a4, a5, a6⟩) (h0 : ¬ a1 < 0) (h1 : ¬ 38 < a1) (hv : validI a2 a3 = false) :
    Calls Try.prog 35 #[.agg #[.int .i64 a1, .int .i64 a2, .int .i64 a3, .int .i64 a4, .int .i64 a5, .int .i64 a6]] w fun e w' => e = .returned (.tuple #[.agg (Spt.norm ⟨a1, a2, a3, a4, a5, a6⟩).cells, .bool (Spt.formed ⟨a1, a2, a3, a4, a5, a6⟩)]) ∧ Below w.heap.size w w' := by
  have hff : Spt.formed ⟨a1, a2, a3, a4, a5, a6⟩ = false := by
    cases hf : Spt.formed ⟨a1, a2, a3, a4, a5, a6⟩ with
    | false => rfl
    | true =>
      obtain ⟨⟨q1, q2⟩, q3, q4, q5⟩ := (formed_iff _).1 hf
      simp only at q1 q2 q3 q4 q5
      exfalso
      first | omega | (rw [hv] at q3; cases q3)
  have HR : Hid (Spt.norm ⟨a1, a2, a3, a4, a5, a6⟩ = ⟨a1, a2, a3, a4, a5, a6⟩ ∧ Spt.formed ⟨a1, a2, a3, a4, a5, a6⟩ = false) := by
    refine ⟨?_, hff⟩
    unfold Spt.norm
    rw [hff]
    rw [if_neg (by simp only; first | (intro h; exact absurd h.1 (by decide)) | (intro h; exact absurd h.2 (by omega)))]
  unfold Spt.B6 B64 at hB
  simp only at hB
  obtain ⟨⟨b1, b1'⟩, ⟨b2, b2'⟩, ⟨b3, b3'⟩, ⟨b4, b4'⟩, ⟨b5, b5'⟩, b6, b6'⟩ := hB
  clear hff
  have hq := fun W => valid_any a2 a3 W b2 b2' b3 b3'
  rw [hv] at hq
  have HQ := Lib.hid hq
  clear hq hv
  go_enter Try.func35, Try.ntmps35
  go_wp2_with fail
  (with_reducible refine (HQ.out _).mono ?_); rintro e w1 ⟨rfl, hb1⟩
  have HB := Lib.hid (keep_of ((((Below.refl w.heap.size w).alloc (Nat.le_refl _) _).alloc (by simp) _).trans (hb1.mono (by simp; omega))))
  obtain ⟨k1, k2⟩ := Reg.Blk.new2 hb1
  clear hb1 HQ
  obtain ⟨c1, f1, z1⟩ := k1.facts
  obtain ⟨c2, f2, z2⟩ := k2.facts
  have HK1 := Lib.hid k1
  have HK2 := Lib.hid k2
  clear k1 k2
  go_wp2_with fail
  have hu := Reg.upd6 (x := .int .i64 a1) (y := .int .i64 a2) (z := .int .i64 a3) (t := .int .i64 a4) (u := .int .i64 a5) (v := .int .i64 a6) HK2.out
  have kC := Reg.updK (M := fun k => w.heap.size ≤ k) (g := w.heap.size + 1) (by omega) _ _ _ _ HB.out hu
  have hn5 : Reg.Blk (w.heap.size + 1) _ _ _ := hu.at_
  clear c1 f1 z1 c2 f2 z2
  obtain ⟨c2, f2, z2⟩ := hn5.facts
  generalize ((((((World.setCell _ _ _).setCell _ _).setCell _ _).setCell _ _).setCell _ _).setCell _ _) = Wn at *
  rw [HR.out.1, HR.out.2]
  refine bodyPost_ret (v := .tuple #[.agg (Spt.mk a1 a2 a3 a4 a5 a6).cells, .bool false]) (by simp [results, Try.results35, go_sem, c2, Spt.cells]) rfl ⟨rfl, kC.below fun k hk => by omega⟩
set_option maxHeartbeats 4000000 in
theorem norm_low (a1 a2 a3 a4 a5 a6 : Int) (w : World) (hB : Spt.B6 ⟨a1, a2, a3, a4, a5, a6⟩) (h0 : ¬ a1 < 0) (h1 : ¬ 38 < a1) (hv : validI a2 a3 = true) (h2 : a2 < 0) :
    Calls Try.prog 35 #[.agg #[.int .i64 a1, .int .i64 a2, .int .i64 a3, .int .i64 a4, .int .i64 a5, .int .i64 a6]] w fun e w' => e = .returned (.tuple #[.agg (Spt.norm ⟨a1, a2, a3, a4, a5, a6⟩).cells, .bool (Spt.formed ⟨a1, a2, a3, a4, a5, a6⟩)]) ∧ Below w.heap.size w w' := by
  have hff : Spt.formed ⟨a1, a2, a3, a4, a5, a6⟩ = false := by
    cases hf : Spt.formed ⟨a1, a2, a3, a4, a5, a6⟩ with
    | false => rfl
    | true =>
      obtain ⟨⟨q1, q2⟩, q3, q4, q5⟩ := (formed_iff _).1 hf
      simp only at q1 q2 q3 q4 q5
      exfalso
      first | omega | (rw [hv] at q3; cases q3)
  have HR : Hid (Spt.norm ⟨a1, a2, a3, a4, a5, a6⟩ = ⟨a1, a2, a3, a4, a5, a6⟩ ∧ Spt.formed ⟨a1, a2, a3, a4, a5, a6⟩ = false) := by
    refine ⟨?_, hff⟩
    unfold Spt.norm
    rw [hff]
    rw [if_neg (by simp only; first | (intro h; exact absurd h.1 (by decide)) | (intro h; exact absurd h.2 (by omega)))]
  unfold Spt.B6 B64 at hB
  simp only at hB
  obtain ⟨⟨b1, b1'⟩, ⟨b2, b2'⟩, ⟨b3, b3'⟩, ⟨b4, b4'⟩, ⟨b5, b5'⟩, b6, b6'⟩ := hB
  clear hff
  have hq := fun W => valid_any a2 a3 W b2 b2' b3 b3'
  rw [hv] at hq
  have HQ := Lib.hid hq
  clear hq hv
  go_enter Try.func35, Try.ntmps35
  go_wp2_with fail
  (with_reducible refine (HQ.out _).mono ?_); rintro e w1 ⟨rfl, hb1⟩
  have HB := Lib.hid (keep_of ((((Below.refl w.heap.size w).alloc (Nat.le_refl _) _).alloc (by simp) _).trans (hb1.mono (by simp; omega))))
  obtain ⟨k1, k2⟩ := Reg.Blk.new2 hb1
  clear hb1 HQ
  obtain ⟨c1, f1, z1⟩ := k1.facts
  obtain ⟨c2, f2, z2⟩ := k2.facts
  have HK1 := Lib.hid k1
  have HK2 := Lib.hid k2
  clear k1 k2
  go_wp2_with fail
  have hu := Reg.upd6 (x := .int .i64 a1) (y := .int .i64 a2) (z := .int .i64 a3) (t := .int .i64 a4) (u := .int .i64 a5) (v := .int .i64 a6) HK2.out
  have kC := Reg.updK (M := fun k => w.heap.size ≤ k) (g := w.heap.size + 1) (by omega) _ _ _ _ HB.out hu
  have hn5 : Reg.Blk (w.heap.size + 1) _ _ _ := hu.at_
  clear c1 f1 z1 c2 f2 z2
  obtain ⟨c2, f2, z2⟩ := hn5.facts
  generalize ((((((World.setCell _ _ _).setCell _ _).setCell _ _).setCell _ _).setCell _ _).setCell _ _) = Wn at *
  rw [HR.out.1, HR.out.2]
  refine bodyPost_ret (v := .tuple #[.agg (Spt.mk a1 a2 a3 a4 a5 a6).cells, .bool false]) (by simp [results, Try.results35, go_sem, c2, Spt.cells]) rfl ⟨rfl, kC.below fun k hk => by omega⟩
set_option maxHeartbeats 4000000 in
theorem norm_big (a1 a2 a3 a4 a5 a6 : Int) (w : World) (hB : Spt.B6 ⟨a1, a2, a3, a4, a5, a6⟩) (h0 : ¬ a1 < 0) (h1 : ¬ 38 < a1) (hv : validI a2 a3 = true) (h2 : ¬ a2 < 0) (h3 : a3 < a2) :
    Calls Try.prog 35 #[.agg #[.int .i64 a1, .int .i64 a2, .int .i64 a3, .int .i64 a4, .int .i64 a5, .int .i64 a6]] w fun e w' => e = .returned (.tuple #[.agg (Spt.norm ⟨a1, a2, a3, a4, a5, a6⟩).cells, .bool (Spt.formed ⟨a1, a2, a3, a4, a5, a6⟩)]) ∧ Below w.heap.size w w' := by
  have hff : Spt.formed ⟨a1, a2, a3, a4, a5, a6⟩ = false := by
    cases hf : Spt.formed ⟨a1, a2, a3, a4, a5, a6⟩ with
    | false => rfl
    | true =>
      obtain ⟨⟨q1, q2⟩, q3, q4, q5⟩ := (formed_iff _).1 hf
      simp only at q1 q2 q3 q4 q5
      exfalso
      first | omega | (rw [hv] at q3; cases q3)
  have HR : Hid (Spt.norm ⟨a1, a2, a3, a4, a5, a6⟩ = ⟨a1, a2, a3, a4, a5, a6⟩ ∧ Spt.formed ⟨a1, a2, a3, a4, a5, a6⟩ = false) := by
    refine ⟨?_, hff⟩
    unfold Spt.norm
    rw [hff]
    rw [if_neg (by simp only; first | (intro h; exact absurd h.1 (by decide)) | (intro h; exact absurd h.2 (by omega)))]
  unfold Spt.B6 B64 at hB
  simp only at hB
  obtain ⟨⟨b1, b1'⟩, ⟨b2, b2'⟩, ⟨b3, b3'⟩, ⟨b4, b4'⟩, ⟨b5, b5'⟩, b6, b6'⟩ := hB
  clear hff
  have hq := fun W => valid_any a2 a3 W b2 b2' b3 b3'
  rw [hv] at hq
  have HQ := Lib.hid hq
  clear hq hv
  go_enter Try.func35, Try.ntmps35
  go_wp2_with fail
  (with_reducible refine (HQ.out _).mono ?_); rintro e w1 ⟨rfl, hb1⟩
  have HB := Lib.hid (keep_of ((((Below.refl w.heap.size w).alloc (Nat.le_refl _) _).alloc (by simp) _).trans (hb1.mono (by simp; omega))))
  obtain ⟨k1, k2⟩ := Reg.Blk.new2 hb1
  clear hb1 HQ
  obtain ⟨c1, f1, z1⟩ := k1.facts
  obtain ⟨c2, f2, z2⟩ := k2.facts
  have HK1 := Lib.hid k1
  have HK2 := Lib.hid k2
  clear k1 k2
  go_wp2_with fail
  have hu := Reg.upd6 (x := .int .i64 a1) (y := .int .i64 a2) (z := .int .i64 a3) (t := .int .i64 a4) (u := .int .i64 a5) (v := .int .i64 a6) HK2.out
  have kC := Reg.updK (M := fun k => w.heap.size ≤ k) (g := w.heap.size + 1) (by omega) _ _ _ _ HB.out hu
  have hn5 : Reg.Blk (w.heap.size + 1) _ _ _ := hu.at_
  clear c1 f1 z1 c2 f2 z2
  obtain ⟨c2, f2, z2⟩ := hn5.facts
  generalize ((((((World.setCell _ _ _).setCell _ _).setCell _ _).setCell _ _).setCell _ _).setCell _ _) = Wn at *
  rw [HR.out.1, HR.out.2]
  refine bodyPost_ret (v := .tuple #[.agg (Spt.mk a1 a2 a3 a4 a5 a6).cells, .bool false]) (by simp [results, Try.results35, go_sem, c2, Spt.cells]) rfl ⟨rfl, kC.below fun k hk => by omega⟩
set_option maxHeartbeats 4000000 in
theorem norm_mid (a1 a2 a3 a4 a5 a6 : Int) (w : World) (hB : Spt.B6 ⟨a1, a2, a3, a4, a5, a6⟩) (h0 : ¬ a1 < 0) (h1 : ¬ 38 < a1) (hv : validI a2 a3 = true) (h2 : ¬ a2 < 0) (h3 : ¬ a3 < a2) (h4 : ¬ a2 = a3) :
    Calls Try.prog 35 #[.agg #[.int .i64 a1, .int .i64 a2, .int .i64 a3, .int .i64 a4, .int .i64 a5, .int .i64 a6]] w fun e w' => e = .returned (.tuple #[.agg (Spt.norm ⟨a1, a2, a3, a4, a5, a6⟩).cells, .bool (Spt.formed ⟨a1, a2, a3, a4, a5, a6⟩)]) ∧ Below w.heap.size w w' := by
  have hff : Spt.formed ⟨a1, a2, a3, a4, a5, a6⟩ = true := by
    exact (formed_iff _).2 ⟨⟨by simp only; omega, by simp only; omega⟩, by simpa only using hv, by simp only; omega, by simp only; omega⟩
  have HR : Hid (Spt.norm ⟨a1, a2, a3, a4, a5, a6⟩ = ⟨a1, a2, a3, a4, a5, a6⟩ ∧ Spt.formed ⟨a1, a2, a3, a4, a5, a6⟩ = true) := by
    refine ⟨?_, hff⟩
    unfold Spt.norm
    rw [hff]
    rw [if_neg (by simp only; first | (intro h; exact absurd h.1 (by decide)) | (intro h; exact absurd h.2 (by omega)))]
  unfold Spt.B6 B64 at hB
  simp only at hB
  obtain ⟨⟨b1, b1'⟩, ⟨b2, b2'⟩, ⟨b3, b3'⟩, ⟨b4, b4'⟩, ⟨b5, b5'⟩, b6, b6'⟩ := hB
  clear hff
  have hq := fun W => valid_any a2 a3 W b2 b2' b3 b3'
  rw [hv] at hq
  have HQ := Lib.hid hq
  clear hq hv
  go_enter Try.func35, Try.ntmps35
  go_wp2_with fail
  (with_reducible refine (HQ.out _).mono ?_); rintro e w1 ⟨rfl, hb1⟩
  have HB := Lib.hid (keep_of ((((Below.refl w.heap.size w).alloc (Nat.le_refl _) _).alloc (by simp) _).trans (hb1.mono (by simp; omega))))
  obtain ⟨k1, k2⟩ := Reg.Blk.new2 hb1
  clear hb1 HQ
  obtain ⟨c1, f1, z1⟩ := k1.facts
  obtain ⟨c2, f2, z2⟩ := k2.facts
  have HK1 := Lib.hid k1
  have HK2 := Lib.hid k2
  clear k1 k2
  go_wp2_with fail
  have hu := Reg.upd6 (x := .int .i64 a1) (y := .int .i64 a2) (z := .int .i64 a3) (t := .int .i64 a4) (u := .int .i64 a5) (v := .int .i64 a6) HK2.out
  have kC := Reg.updK (M := fun k => w.heap.size ≤ k) (g := w.heap.size + 1) (by omega) _ _ _ _ HB.out hu
  have hn5 : Reg.Blk (w.heap.size + 1) _ _ _ := hu.at_
  clear c1 f1 z1 c2 f2 z2
  obtain ⟨c2, f2, z2⟩ := hn5.facts
  generalize ((((((World.setCell _ _ _).setCell _ _).setCell _ _).setCell _ _).setCell _ _).setCell _ _) = Wn at *
  rw [HR.out.1, HR.out.2]
  refine bodyPost_ret (v := .tuple #[.agg (Spt.mk a1 a2 a3 a4 a5 a6).cells, .bool true]) (by simp [results, Try.results35, go_sem, c2, Spt.cells]) rfl ⟨rfl, kC.below fun k hk => by omega⟩
set_option maxHeartbeats 4000000 in
theorem norm_end (a1 a2 a3 a4 a5 a6 : Int) (w : World) (hB : Spt.B6 ⟨a1, a2, a3, a4, a5, a6⟩) (h0 : ¬ a1 < 0) (h1 : ¬ 38 < a1) (hv : validI a2 a3 = true) (h2 : ¬ a2 < 0) (h3 : ¬ a3 < a2) (h4 : a2 = a3) :
    Calls Try.prog 35 #[.agg #[.int .i64 a1, .int .i64 a2, .int .i64 a3, .int .i64 a4, .int .i64 a5, .int .i64 a6]] w fun e w' => e = .returned (.tuple #[.agg (Spt.norm ⟨a1, a2, a3, a4, a5, a6⟩).cells, .bool (Spt.formed ⟨a1, a2, a3, a4, a5, a6⟩)]) ∧ Below w.heap.size w w' := by
  have hff : Spt.formed ⟨a1, a2, a3, a4, a5, a6⟩ = true := by
    exact (formed_iff _).2 ⟨⟨by simp only; omega, by simp only; omega⟩, by simpa only using hv, by simp only; omega, by simp only; omega⟩
  have HR : Hid (Spt.norm ⟨a1, a2, a3, a4, a5, a6⟩ = ⟨a1 + 1, 0, 1, a4, a5, a6⟩ ∧ Spt.formed ⟨a1, a2, a3, a4, a5, a6⟩ = true) := by
    refine ⟨?_, hff⟩
    unfold Spt.norm
    rw [hff]
    rw [if_pos ⟨rfl, by simp only; omega⟩]
  unfold Spt.B6 B64 at hB
  simp only at hB
  obtain ⟨⟨b1, b1'⟩, ⟨b2, b2'⟩, ⟨b3, b3'⟩, ⟨b4, b4'⟩, ⟨b5, b5'⟩, b6, b6'⟩ := hB
  clear hff
  obtain rfl := h4
  have hq := fun W => valid_any a2 a2 W b2 b2' b2 b2'
  rw [hv] at hq
  have HQ := Lib.hid hq
  clear hq hv
  go_enter Try.func35, Try.ntmps35
  go_wp2_with fail
  (with_reducible refine (HQ.out _).mono ?_); rintro e w1 ⟨rfl, hb1⟩
  have HB := Lib.hid (keep_of ((((Below.refl w.heap.size w).alloc (Nat.le_refl _) _).alloc (by simp) _).trans (hb1.mono (by simp; omega))))
  obtain ⟨k1, k2⟩ := Reg.Blk.new2 hb1
  clear hb1 HQ
  obtain ⟨c1, f1, z1⟩ := k1.facts
  obtain ⟨c2, f2, z2⟩ := k2.facts
  have HK1 := Lib.hid k1
  have HK2 := Lib.hid k2
  clear k1 k2
  have hu1 := ((Reg.Upd.refl HK1.out).set 0 (.int .i64 (a1 + 1)))
  have hw1 : wrap64 (a1 + 1) = a1 + 1 := IntWalk.wrap64_in _ (by omega)
  go_wp2_with fail
  have hu1 := (((Reg.Upd.refl HK1.out).set 0 (.int .i64 (a1 + 1))).set 1 (.int .i64 0)).set 2 (.int .i64 1)
  have h2 : Reg.Blk (w.heap.size + 1) _ _ _ := (hu1.far (w.heap.size + 1) (by omega)).trans HK2.out
  have kC1 := Reg.updK (M := fun k => w.heap.size ≤ k) (g := w.heap.size) (Nat.le_refl _) _ _ _ _ HB.out hu1
  have hu := Reg.upd6 (x := .int .i64 (a1 + 1)) (y := .int .i64 0) (z := .int .i64 1) (t := .int .i64 a4) (u := .int .i64 a5) (v := .int .i64 a6) h2
  have kC := Reg.updK (M := fun k => w.heap.size ≤ k) (g := w.heap.size + 1) (by omega) _ _ _ _ kC1 hu
  have hn5 : Reg.Blk (w.heap.size + 1) _ _ _ := hu.at_
  clear c1 f1 z1 c2 f2 z2
  obtain ⟨c2, f2, z2⟩ := hn5.facts
  generalize (((((((((World.setCell _ _ _).setCell _ _).setCell _ _).setCell _ _).setCell _ _).setCell _ _).setCell _ _).setCell _ _).setCell _ _) = Wn at *
  rw [HR.out.1, HR.out.2]
  refine bodyPost_ret (v := .tuple #[.agg (Spt.mk (a1 + 1) 0 1 a4 a5 a6).cells, .bool true]) (by simp [results, Try.results35, go_sem, c2, Spt.cells]) rfl ⟨rfl, kC.below fun k hk => by omega⟩

end G
end Go.Proofs.Ytjeapimjgojpoaa
