/- Lines of the reference: 'Before'. -/
import Derived.Test.YtjeapimjgojpoaaJi
import Derived.Test.YtjeapimjgojpoaaJq
set_option linter.unusedSimpArgs false
set_option linter.unusedVariables false
set_option maxRecDepth 100000
namespace Go.Proofs.Ytjeapimjgojpoaa
open Go.RowKit
namespace G

theorem norm_end' {a1 a2 a3 a4 a5 a6 : Int} (h : Spt.formed ⟨a1, a2, a3, a4, a5, a6⟩ = true) (e : a2 = a3) : Spt.norm ⟨a1, a2, a3, a4, a5, a6⟩ = ⟨a1 + 1, 0, 1, a4, a5, a6⟩ := by
  unfold Spt.norm; rw [if_pos ⟨h, e⟩]
theorem norm_mid' {a1 a2 a3 a4 a5 a6 : Int} (e : ¬ a2 = a3) : Spt.norm ⟨a1, a2, a3, a4, a5, a6⟩ = ⟨a1, a2, a3, a4, a5, a6⟩ := by
  unfold Spt.norm; rw [if_neg (fun h => e h.2)]
/-- What 'Before' answers at well-formed places. -/
def befN (x y : Spt) : Int := if x.seg < y.seg then -1 else if y.seg < x.seg then 1 else (compareI x.pn x.pd y.pn y.pd).1
set_option maxHeartbeats 16000000 in
theorem rbefore_cells (a1 a2 a3 a4 a5 a6 b1 b2 b3 b4 b5 b6 : Int) (w : World) (ha : Spt.B6 ⟨a1, a2, a3, a4, a5, a6⟩) (hb : Spt.B6 ⟨b1, b2, b3, b4, b5, b6⟩) :
    Calls Try.prog 25 #[.agg #[.int .i64 a1, .int .i64 a2, .int .i64 a3, .int .i64 a4, .int .i64 a5, .int .i64 a6], .agg #[.int .i64 b1, .int .i64 b2, .int .i64 b3, .int .i64 b4, .int .i64 b5, .int .i64 b6]] w fun e w' => e = .returned (.int .i64 (beforeI ⟨a1, a2, a3, a4, a5, a6⟩ ⟨b1, b2, b3, b4, b5, b6⟩)) ∧ Below w.heap.size w w' := by
  have HA := Lib.hid (fun W => rformed_cells a1 a2 a3 a4 a5 a6 W ha)
  have HB' := Lib.hid (fun W => rformed_cells b1 b2 b3 b4 b5 b6 W hb)
  obtain ⟨R, hR⟩ : ∃ R, R = beforeI ⟨a1, a2, a3, a4, a5, a6⟩ ⟨b1, b2, b3, b4, b5, b6⟩ := ⟨_, rfl⟩
  have HR0 : Hid ((Spt.formed ⟨a1, a2, a3, a4, a5, a6⟩ && Spt.formed ⟨b1, b2, b3, b4, b5, b6⟩) = false → R = 0) := fun h => by
    rw [hR]; unfold beforeI; rw [h]; rfl
  have HR1 : Hid (Spt.formed ⟨a1, a2, a3, a4, a5, a6⟩ = true → Spt.formed ⟨b1, b2, b3, b4, b5, b6⟩ = true → R = befN (Spt.norm ⟨a1, a2, a3, a4, a5, a6⟩) (Spt.norm ⟨b1, b2, b3, b4, b5, b6⟩)) := fun h k => by
    rw [hR]; unfold beforeI befN; rw [h, k]; rfl
  have HFa : Hid (Spt.formed ⟨a1, a2, a3, a4, a5, a6⟩ = true → (0 ≤ a1 ∧ a1 ≤ 38) ∧ (a2 = a3 → Spt.norm ⟨a1, a2, a3, a4, a5, a6⟩ = ⟨a1 + 1, 0, 1, a4, a5, a6⟩)) := fun h => ⟨((formed_iff _).1 h).1, norm_end' h⟩
  have HFb : Hid (Spt.formed ⟨b1, b2, b3, b4, b5, b6⟩ = true → (0 ≤ b1 ∧ b1 ≤ 38) ∧ (b2 = b3 → Spt.norm ⟨b1, b2, b3, b4, b5, b6⟩ = ⟨b1 + 1, 0, 1, b4, b5, b6⟩)) := fun h => ⟨((formed_iff _).1 h).1, norm_end' h⟩
  have HFm : Hid (¬ a2 = a3 → Spt.norm ⟨a1, a2, a3, a4, a5, a6⟩ = ⟨a1, a2, a3, a4, a5, a6⟩) := norm_mid'
  have HFn : Hid (¬ b2 = b3 → Spt.norm ⟨b1, b2, b3, b4, b5, b6⟩ = ⟨b1, b2, b3, b4, b5, b6⟩) := norm_mid'
  have HBd := Lib.hid (And.intro ha hb)
  rw [← hR]
  generalize Spt.formed ⟨a1, a2, a3, a4, a5, a6⟩ = fa at *
  generalize Spt.formed ⟨b1, b2, b3, b4, b5, b6⟩ = fb at *
  generalize Spt.norm ⟨a1, a2, a3, a4, a5, a6⟩ = na at *
  generalize Spt.norm ⟨b1, b2, b3, b4, b5, b6⟩ = nb at *
  obtain ⟨k2, k3⟩ := Reg.Blk.new2 (w := w) (C := #[.int .i64 a1, .int .i64 a2, .int .i64 a3, .int .i64 a4, .int .i64 a5, .int .i64 a6]) (T := 34) (C' := #[.int .i64 b1, .int .i64 b2, .int .i64 b3, .int .i64 b4, .int .i64 b5, .int .i64 b6]) (T' := 34) (Below.refl _ _)
  have hal : Below w.heap.size w ((w.alloc (.cells #[.int .i64 a1, .int .i64 a2, .int .i64 a3, .int .i64 a4, .int .i64 a5, .int .i64 a6] 34)).alloc (.cells #[.int .i64 b1, .int .i64 b2, .int .i64 b3, .int .i64 b4, .int .i64 b5, .int .i64 b6] 34)) := ((Below.refl _ _).alloc (Nat.le_refl _) _).alloc (by simp) _
  have HB := Lib.hid hal
  have K2 := Lib.hid k2
  have K3 := Lib.hid k3
  clear hal k2 k3 ha hb hR
  obtain ⟨c2, f2, z2⟩ := K2.out.facts
  go_enter Try.func25, Try.ntmps25
  go_wp2_with fail
  generalize ((w.alloc (.cells #[.int .i64 a1, .int .i64 a2, .int .i64 a3, .int .i64 a4, .int .i64 a5, .int .i64 a6] 34)).alloc (.cells #[.int .i64 b1, .int .i64 b2, .int .i64 b3, .int .i64 b4, .int .i64 b5, .int .i64 b6] 34)) = w0 at *
  (with_reducible refine (HA.out _).mono ?_); rintro e w1 ⟨rfl, hb⟩
  replace HB := Lib.hid (HB.out.trans (hb.mono HB.out.size))
  replace K2 := Lib.hid (K2.out.keep hb)
  replace K3 := Lib.hid (K3.out.keep hb)
  clear hb c2 f2 z2 HA
  obtain ⟨c3, f3, z3⟩ := K3.out.facts
  cases fa with
  | false =>
    have HF := Lib.hid (HR0.out rfl)
    go_wp2_with fail
    go_ret
    exact ⟨by rw [HF.out]; rfl, HB.out⟩
  | true =>
  go_wp2_with fail
  (with_reducible refine (HB'.out _).mono ?_); rintro e w2 ⟨rfl, hb⟩
  replace HB := Lib.hid (HB.out.trans (hb.mono HB.out.size))
  replace K2 := Lib.hid (K2.out.keep hb)
  replace K3 := Lib.hid (K3.out.keep hb)
  clear hb c3 f3 z3 HB'
  cases fb with
  | false =>
    have HF := Lib.hid (HR0.out rfl)
    go_wp2_with fail
    go_ret
    exact ⟨by rw [HF.out]; rfl, HB.out⟩
  | true =>
  have HRr := HR1.out trivial rfl
  obtain ⟨⟨ra0, ra1⟩, hea⟩ := HFa.out trivial
  obtain ⟨⟨rb0, rb1⟩, heb⟩ := HFb.out rfl
  have HEa := Lib.hid hea
  have HEb := Lib.hid heb
  have HQ := Lib.hid HRr
  clear hea heb HRr HR0 HR1 HFa HFb
  have hd23 : ¬ w.heap.size + 1 = w.heap.size := by omega
  have hd32 : ¬ w.heap.size = w.heap.size + 1 := by omega
  by_cases ha : a2 = a3
  · by_cases hb : b2 = b3
    · have hna := HEa.out ha
      have hnb := HEb.out hb
      have hq := HQ.out
      rw [hna, hnb] at hq
      unfold befN at hq
      simp only at hq
      have HQq := Lib.hid hq
      have HC := Lib.hid (fun W => rcompare_any 0 1 0 1 W ⟨by decide, by decide⟩ ⟨by decide, by decide⟩ ⟨by decide, by decide⟩ ⟨by decide, by decide⟩)
      clear hna hnb hq
      subst ha
      subst hb
      have hw1 : wrap64 (a1 + 1) = a1 + 1 := IntWalk.wrap64_in _ (by omega)
      have hw2 : wrap64 (b1 + 1) = b1 + 1 := IntWalk.wrap64_in _ (by omega)
      obtain ⟨c2, f2, z2⟩ := K2.out.facts
      obtain ⟨c3, f3, z3⟩ := K3.out.facts
      have hu0 := (Reg.Upd.refl K2.out).set 0 (.int .i64 (a1 + 1)) |>.set 1 (.int .i64 0) |>.set 2 (.int .i64 1)
      have h3 : Reg.Blk (w.heap.size + 1) _ _ _ := (hu0.far (w.heap.size + 1) hd23).trans K3.out
      have hu1 := (Reg.Upd.refl h3).set 0 (.int .i64 (b1 + 1)) |>.set 1 (.int .i64 0) |>.set 2 (.int .i64 1)
      have kA := Reg.updK (M := fun k => w.heap.size ≤ k) (g := w.heap.size) (Nat.le_refl _) _ _ _ _ (keep_of HB.out) hu0
      have kB := Reg.updK (M := fun k => w.heap.size ≤ k) (g := w.heap.size + 1) (by omega) _ _ _ _ kA hu1
      have hn2 : Reg.Blk w.heap.size #[.int .i64 (a1 + 1), .int .i64 0, .int .i64 1, .int .i64 a4, .int .i64 a5, .int .i64 a6] 34 _ := (hu1.far w.heap.size hd32).trans hu0.at_
      have hn3 : Reg.Blk (w.heap.size + 1) #[.int .i64 (b1 + 1), .int .i64 0, .int .i64 1, .int .i64 b4, .int .i64 b5, .int .i64 b6] 34 _ := hu1.at_
      have HN := Lib.hid (And.intro hn2 (And.intro hn3 (show Below w.heap.size w _ from kB.below fun k hk => by omega)))
      clear hu0 h3 hu1 kA kB hn2 hn3
      by_cases h1 : (a1 + 1) < (b1 + 1)
      · have hi : decide (a1 < b1) = true := decide_eq_true (by omega)
        have hne : (a1 == b1) = false := beq_eq_false_iff_ne.2 (by omega)
        have HF : Hid (R = -1) := by unfold Hid; rw [HQq.out, if_pos h1]
        clear h1
        go_wp2_with fail
        go_ret
        exact ⟨by rw [HF.out]; rfl, HN.out.2.2⟩
      by_cases h2 : (b1 + 1) < (a1 + 1)
      · have hi : decide (a1 < b1) = false := decide_eq_false (by omega)
        have hne : (a1 == b1) = false := beq_eq_false_iff_ne.2 (by omega)
        have HF : Hid (R = 1) := by unfold Hid; rw [HQq.out, if_neg h1, if_pos h2]
        clear h1 h2
        go_wp2_with fail
        go_ret
        exact ⟨by rw [HF.out]; rfl, HN.out.2.2⟩
      have he : (a1 == b1) = true := beq_iff_eq.2 (by omega)
      have HF : Hid (R = (compareI 0 1 0 1).1) := by unfold Hid; rw [HQq.out, if_neg h1, if_neg h2]
      clear h1 h2
      go_wp2_with fail
      (with_reducible refine (HC.out _).mono ?_); rintro e w4 ⟨rfl, hb4⟩
      have HB4 := Lib.hid (HN.out.2.2.trans (hb4.mono HN.out.2.2.size))
      clear hb4
      go_wp2_with fail
      go_ret
      exact ⟨by rw [HF.out]; rfl, HB4.out⟩
    · have hna := HEa.out ha
      have hnb := HFn.out hb
      have hq := HQ.out
      rw [hna, hnb] at hq
      unfold befN at hq
      simp only at hq
      have HQq := Lib.hid hq
      have HC := Lib.hid (fun W => rcompare_any 0 1 b2 b3 W ⟨by decide, by decide⟩ ⟨by decide, by decide⟩ HBd.out.2.2.1 HBd.out.2.2.2.1)
      clear hna hnb hq
      subst ha
      have hbb : (b2 == b3) = false := beq_eq_false_iff_ne.2 hb
      clear hb
      have hw1 : wrap64 (a1 + 1) = a1 + 1 := IntWalk.wrap64_in _ (by omega)
      obtain ⟨c2, f2, z2⟩ := K2.out.facts
      obtain ⟨c3, f3, z3⟩ := K3.out.facts
      have hu0 := (Reg.Upd.refl K2.out).set 0 (.int .i64 (a1 + 1)) |>.set 1 (.int .i64 0) |>.set 2 (.int .i64 1)
      have h3 : Reg.Blk (w.heap.size + 1) _ _ _ := (hu0.far (w.heap.size + 1) hd23).trans K3.out
      have hu1 := (Reg.Upd.refl h3)
      have kA := Reg.updK (M := fun k => w.heap.size ≤ k) (g := w.heap.size) (Nat.le_refl _) _ _ _ _ (keep_of HB.out) hu0
      have kB := Reg.updK (M := fun k => w.heap.size ≤ k) (g := w.heap.size + 1) (by omega) _ _ _ _ kA hu1
      have hn2 : Reg.Blk w.heap.size #[.int .i64 (a1 + 1), .int .i64 0, .int .i64 1, .int .i64 a4, .int .i64 a5, .int .i64 a6] 34 _ := (hu1.far w.heap.size hd32).trans hu0.at_
      have hn3 : Reg.Blk (w.heap.size + 1) #[.int .i64 b1, .int .i64 b2, .int .i64 b3, .int .i64 b4, .int .i64 b5, .int .i64 b6] 34 _ := hu1.at_
      have HN := Lib.hid (And.intro hn2 (And.intro hn3 (show Below w.heap.size w _ from kB.below fun k hk => by omega)))
      clear hu0 h3 hu1 kA kB hn2 hn3
      by_cases h1 : (a1 + 1) < b1
      · have hi : decide ((a1 + 1) < b1) = true := decide_eq_true (by omega)
        have hne : ((a1 + 1) == b1) = false := beq_eq_false_iff_ne.2 (by omega)
        have HF : Hid (R = -1) := by unfold Hid; rw [HQq.out, if_pos h1]
        clear h1
        go_wp2_with fail
        go_ret
        exact ⟨by rw [HF.out]; rfl, HN.out.2.2⟩
      by_cases h2 : b1 < (a1 + 1)
      · have hi : decide ((a1 + 1) < b1) = false := decide_eq_false (by omega)
        have hne : ((a1 + 1) == b1) = false := beq_eq_false_iff_ne.2 (by omega)
        have HF : Hid (R = 1) := by unfold Hid; rw [HQq.out, if_neg h1, if_pos h2]
        clear h1 h2
        go_wp2_with fail
        go_ret
        exact ⟨by rw [HF.out]; rfl, HN.out.2.2⟩
      have he : ((a1 + 1) == b1) = true := beq_iff_eq.2 (by omega)
      have HF : Hid (R = (compareI 0 1 b2 b3).1) := by unfold Hid; rw [HQq.out, if_neg h1, if_neg h2]
      clear h1 h2
      go_wp2_with fail
      (with_reducible refine (HC.out _).mono ?_); rintro e w4 ⟨rfl, hb4⟩
      have HB4 := Lib.hid (HN.out.2.2.trans (hb4.mono HN.out.2.2.size))
      clear hb4
      go_wp2_with fail
      go_ret
      exact ⟨by rw [HF.out]; rfl, HB4.out⟩
  · by_cases hb : b2 = b3
    · have hna := HFm.out ha
      have hnb := HEb.out hb
      have hq := HQ.out
      rw [hna, hnb] at hq
      unfold befN at hq
      simp only at hq
      have HQq := Lib.hid hq
      have HC := Lib.hid (fun W => rcompare_any a2 a3 0 1 W HBd.out.1.2.1 HBd.out.1.2.2.1 ⟨by decide, by decide⟩ ⟨by decide, by decide⟩)
      clear hna hnb hq
      have hab : (a2 == a3) = false := beq_eq_false_iff_ne.2 ha
      clear ha
      subst hb
      have hw2 : wrap64 (b1 + 1) = b1 + 1 := IntWalk.wrap64_in _ (by omega)
      obtain ⟨c2, f2, z2⟩ := K2.out.facts
      obtain ⟨c3, f3, z3⟩ := K3.out.facts
      have hu0 := (Reg.Upd.refl K2.out)
      have h3 : Reg.Blk (w.heap.size + 1) _ _ _ := (hu0.far (w.heap.size + 1) hd23).trans K3.out
      have hu1 := (Reg.Upd.refl h3).set 0 (.int .i64 (b1 + 1)) |>.set 1 (.int .i64 0) |>.set 2 (.int .i64 1)
      have kA := Reg.updK (M := fun k => w.heap.size ≤ k) (g := w.heap.size) (Nat.le_refl _) _ _ _ _ (keep_of HB.out) hu0
      have kB := Reg.updK (M := fun k => w.heap.size ≤ k) (g := w.heap.size + 1) (by omega) _ _ _ _ kA hu1
      have hn2 : Reg.Blk w.heap.size #[.int .i64 a1, .int .i64 a2, .int .i64 a3, .int .i64 a4, .int .i64 a5, .int .i64 a6] 34 _ := (hu1.far w.heap.size hd32).trans hu0.at_
      have hn3 : Reg.Blk (w.heap.size + 1) #[.int .i64 (b1 + 1), .int .i64 0, .int .i64 1, .int .i64 b4, .int .i64 b5, .int .i64 b6] 34 _ := hu1.at_
      have HN := Lib.hid (And.intro hn2 (And.intro hn3 (show Below w.heap.size w _ from kB.below fun k hk => by omega)))
      clear hu0 h3 hu1 kA kB hn2 hn3
      by_cases h1 : a1 < (b1 + 1)
      · have hi : decide (a1 < (b1 + 1)) = true := decide_eq_true (by omega)
        have hne : (a1 == (b1 + 1)) = false := beq_eq_false_iff_ne.2 (by omega)
        have HF : Hid (R = -1) := by unfold Hid; rw [HQq.out, if_pos h1]
        clear h1
        go_wp2_with fail
        go_ret
        exact ⟨by rw [HF.out]; rfl, HN.out.2.2⟩
      by_cases h2 : (b1 + 1) < a1
      · have hi : decide (a1 < (b1 + 1)) = false := decide_eq_false (by omega)
        have hne : (a1 == (b1 + 1)) = false := beq_eq_false_iff_ne.2 (by omega)
        have HF : Hid (R = 1) := by unfold Hid; rw [HQq.out, if_neg h1, if_pos h2]
        clear h1 h2
        go_wp2_with fail
        go_ret
        exact ⟨by rw [HF.out]; rfl, HN.out.2.2⟩
      have he : (a1 == (b1 + 1)) = true := beq_iff_eq.2 (by omega)
      have HF : Hid (R = (compareI a2 a3 0 1).1) := by unfold Hid; rw [HQq.out, if_neg h1, if_neg h2]
      clear h1 h2
      go_wp2_with fail
      (with_reducible refine (HC.out _).mono ?_); rintro e w4 ⟨rfl, hb4⟩
      have HB4 := Lib.hid (HN.out.2.2.trans (hb4.mono HN.out.2.2.size))
      clear hb4
      go_wp2_with fail
      go_ret
      exact ⟨by rw [HF.out]; rfl, HB4.out⟩
    · have hna := HFm.out ha
      have hnb := HFn.out hb
      have hq := HQ.out
      rw [hna, hnb] at hq
      unfold befN at hq
      simp only at hq
      have HQq := Lib.hid hq
      have HC := Lib.hid (fun W => rcompare_any a2 a3 b2 b3 W HBd.out.1.2.1 HBd.out.1.2.2.1 HBd.out.2.2.1 HBd.out.2.2.2.1)
      clear hna hnb hq
      have hab : (a2 == a3) = false := beq_eq_false_iff_ne.2 ha
      clear ha
      have hbb : (b2 == b3) = false := beq_eq_false_iff_ne.2 hb
      clear hb
      obtain ⟨c2, f2, z2⟩ := K2.out.facts
      obtain ⟨c3, f3, z3⟩ := K3.out.facts
      have hu0 := (Reg.Upd.refl K2.out)
      have h3 : Reg.Blk (w.heap.size + 1) _ _ _ := (hu0.far (w.heap.size + 1) hd23).trans K3.out
      have hu1 := (Reg.Upd.refl h3)
      have kA := Reg.updK (M := fun k => w.heap.size ≤ k) (g := w.heap.size) (Nat.le_refl _) _ _ _ _ (keep_of HB.out) hu0
      have kB := Reg.updK (M := fun k => w.heap.size ≤ k) (g := w.heap.size + 1) (by omega) _ _ _ _ kA hu1
      have hn2 : Reg.Blk w.heap.size #[.int .i64 a1, .int .i64 a2, .int .i64 a3, .int .i64 a4, .int .i64 a5, .int .i64 a6] 34 _ := (hu1.far w.heap.size hd32).trans hu0.at_
      have hn3 : Reg.Blk (w.heap.size + 1) #[.int .i64 b1, .int .i64 b2, .int .i64 b3, .int .i64 b4, .int .i64 b5, .int .i64 b6] 34 _ := hu1.at_
      have HN := Lib.hid (And.intro hn2 (And.intro hn3 (show Below w.heap.size w _ from kB.below fun k hk => by omega)))
      clear hu0 h3 hu1 kA kB hn2 hn3
      by_cases h1 : a1 < b1
      · have hi : decide (a1 < b1) = true := decide_eq_true (by omega)
        have hne : (a1 == b1) = false := beq_eq_false_iff_ne.2 (by omega)
        have HF : Hid (R = -1) := by unfold Hid; rw [HQq.out, if_pos h1]
        clear h1
        go_wp2_with fail
        go_ret
        exact ⟨by rw [HF.out]; rfl, HN.out.2.2⟩
      by_cases h2 : b1 < a1
      · have hi : decide (a1 < b1) = false := decide_eq_false (by omega)
        have hne : (a1 == b1) = false := beq_eq_false_iff_ne.2 (by omega)
        have HF : Hid (R = 1) := by unfold Hid; rw [HQq.out, if_neg h1, if_pos h2]
        clear h1 h2
        go_wp2_with fail
        go_ret
        exact ⟨by rw [HF.out]; rfl, HN.out.2.2⟩
      have he : (a1 == b1) = true := beq_iff_eq.2 (by omega)
      have HF : Hid (R = (compareI a2 a3 b2 b3).1) := by unfold Hid; rw [HQq.out, if_neg h1, if_neg h2]
      clear h1 h2
      go_wp2_with fail
      (with_reducible refine (HC.out _).mono ?_); rintro e w4 ⟨rfl, hb4⟩
      have HB4 := Lib.hid (HN.out.2.2.trans (hb4.mono HN.out.2.2.size))
      clear hb4
      go_wp2_with fail
      go_ret
      exact ⟨by rw [HF.out]; rfl, HB4.out⟩

end G
end Go.Proofs.Ytjeapimjgojpoaa

