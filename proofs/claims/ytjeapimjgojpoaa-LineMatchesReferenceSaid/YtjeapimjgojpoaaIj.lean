/- Lines: 'head'. -/
import Derived.Test.YtjeapimjgojpoaaIi
set_option linter.unusedSimpArgs false
set_option linter.unusedVariables false
set_option maxRecDepth 100000
namespace Go.Proofs.Ytjeapimjgojpoaa
open Go.RowKit
namespace G

theorem line_blk3 {g : Nat} {T : TypeId} {w : World} {a0 b0 a1 b1 a2 b2 : Int} (h : Reg.Blk g #[.int .i64 a0, .int .i64 b0, .int .i64 a1, .int .i64 b1, .int .i64 a2, .int .i64 b2] T w) : LineAt w (some ⟨g, 0, none⟩) [(a0, b0), (a1, b1), (a2, b2)] := fun i hi => by
  obtain ⟨c, _, z⟩ := h.facts
  refine ⟨g, 0, rfl, z, ?_, ?_⟩
  · rw [c]
    match i, hi with
    | 0, _ => rfl
    | 1, _ => rfl
    | 2, _ => rfl
  · rw [c]
    match i, hi with
    | 0, _ => rfl
    | 1, _ => rfl
    | 2, _ => rfl
theorem line_blk2 {g : Nat} {T : TypeId} {w : World} {a0 b0 a1 b1 : Int} (h : Reg.Blk g #[.int .i64 a0, .int .i64 b0, .int .i64 a1, .int .i64 b1] T w) : LineAt w (some ⟨g, 0, none⟩) [(a0, b0), (a1, b1)] := fun i hi => by
  obtain ⟨c, _, z⟩ := h.facts
  refine ⟨g, 0, rfl, z, ?_, ?_⟩
  · rw [c]
    match i, hi with
    | 0, _ => rfl
    | 1, _ => rfl
  · rw [c]
    match i, hi with
    | 0, _ => rfl
    | 1, _ => rfl
def l0 : List P2 := [(0, 0), (10, 0), (10, 10)]
def l1 : List P2 := [(0, 9), (9, 9)]
theorem h_a : locS l0 4 3 = ⟨0, 2, 5, 1, 9, 1⟩ ∧ locE l0 4 3 = 0 := by exact ⟨by kernel_rfl, by kernel_rfl⟩
theorem h_f : locE l0 4 (-3) = 1 := by kernel_rfl
theorem h_f2 : locS l0 4 (-3) = spt0 := by kernel_rfl
theorem h_b : locS l0 12 5 = ⟨1, 1, 2, -1, 4, 1⟩ ∧ locE l0 12 5 = 0 := by exact ⟨by kernel_rfl, by kernel_rfl⟩
theorem h_c : locS l0 11 0 = ⟨0, 1, 1, 0, 1, 1⟩ ∧ locE l0 11 0 = 0 := by exact ⟨by kernel_rfl, by kernel_rfl⟩
theorem h_n (A B : Option Addr) (c d : Nat) : nearR [⟨A, c, l1⟩, ⟨B, d, l0⟩] 9 4 = (1, 0) := by kernel_rfl
theorem h_b1 : beforeI ⟨0, 1, 1, 0, 0, 1⟩ ⟨1, 0, 1, 0, 0, 1⟩ = 0 := by kernel_rfl
theorem h_b2 : beforeI ⟨0, 1, 2, 0, 0, 1⟩ ⟨1, 0, 1, 0, 0, 1⟩ = -1 := by kernel_rfl
theorem spot_any (a b c d e : Int) (w : World) : Calls Try.prog 30 #[.int .i64 a, .int .i64 b, .int .i64 c, .int .i64 d, .int .i64 e] w fun e' w' => e' = .returned (.agg #[.int .i64 a, .int .i64 b, .int .i64 c, .int .i64 d, .int .i64 e, .int .i64 1]) ∧ Below w.heap.size w w' := by
  go_enter Try.func30, Try.ntmps30
  go_wp2
  refine bodyPost_ret (v := .agg #[.int .i64 a, .int .i64 b, .int .i64 c, .int .i64 d, .int .i64 e, .int .i64 1]) (by simp [results, Try.results30, go_sem]) rfl ⟨rfl, ?_⟩
  repeat (first | exact Below.refl _ _ | assumption | (refine Below.setCell ?_ (by first | (simp; done) | (simp; omega) | omega) _) | (refine Below.alloc ?_ (by first | (simp; done) | (simp; omega) | omega) _) | (refine Below.drew ?_))

theorem loc0 (px py : Int) (s : Spt) (er : Int) (hs : locS l0 px py = s) (he : locE l0 px py = er) (g : Nat) (T : TypeId) (w : World) (h : Reg.Blk g #[.int .i64 0, .int .i64 0, .int .i64 10, .int .i64 0, .int .i64 10, .int .i64 10] T w) :
    Calls Try.prog 16 #[.slice (some ⟨g, 0, none⟩) 3 3, .agg #[.int .i64 px, .int .i64 py]] w fun e w' => e = .returned (.tuple #[.agg s.cells, .int .i64 er]) ∧ Below w.heap.size w w' := by
  have hq := locate_any (some ⟨g, 0, none⟩) 3 l0 px py w (line_blk3 h) (by decide)
  rw [hs, he] at hq
  exact hq

theorem run_eql_spot_same (a1 a2 a3 a4 a5 a6 : Int) (w : World) : (binOp .eql 34 (.agg #[.int .i64 a1, .int .i64 a2, .int .i64 a3, .int .i64 a4, .int .i64 a5, .int .i64 a6]) (.agg #[.int .i64 a1, .int .i64 a2, .int .i64 a3, .int .i64 a4, .int .i64 a5, .int .i64 a6])).run Try.prog w = .ok (.bool true) w := by
  rw [run_eql_spot]; simp [Spt.eqB]
theorem lines_blk {g : Nat} {T : TypeId} {w : World} {A1 A2 : Option Addr} (h : Reg.Blk g #[.slice A1 2 2, .slice A2 3 3] T w) (h1 : LineAt w A1 l1) (h2 : LineAt w A2 l0) : LinesAt w (some ⟨g, 0, none⟩) [⟨A1, 2, l1⟩, ⟨A2, 3, l0⟩] := fun i hi => by
  obtain ⟨c, _, z⟩ := h.facts
  match i, hi with
  | 0, _ => exact ⟨g, 0, rfl, z, by rw [c]; rfl, h1, show (2 : Nat) ≤ 9223372036854775807 by omega⟩
  | 1, _ => exact ⟨g, 0, rfl, z, by rw [c]; rfl, h2, show (3 : Nat) ≤ 9223372036854775807 by omega⟩

theorem B6_small {s : Spt} (h : (∀ x ∈ [s.seg, s.pn, s.pd, s.side, s.an, s.ad], -100 ≤ x ∧ x ≤ 100)) : s.B6 := by
  simp at h
  unfold Spt.B6 B64
  omega
theorem before1 (w : World) : Calls Try.prog 14 #[.agg #[.int .i64 0, .int .i64 1, .int .i64 1, .int .i64 0, .int .i64 0, .int .i64 1], .agg #[.int .i64 1, .int .i64 0, .int .i64 1, .int .i64 0, .int .i64 0, .int .i64 1]] w fun e w' => e = .returned (.int .i64 0) ∧ Below w.heap.size w w' := by
  have h := before_any ⟨0, 1, 1, 0, 0, 1⟩ ⟨1, 0, 1, 0, 0, 1⟩ w (B6_small (by decide)) (B6_small (by decide))
  rw [h_b1] at h
  exact h
theorem before2 (w : World) : Calls Try.prog 14 #[.agg #[.int .i64 0, .int .i64 1, .int .i64 2, .int .i64 0, .int .i64 0, .int .i64 1], .agg #[.int .i64 1, .int .i64 0, .int .i64 1, .int .i64 0, .int .i64 0, .int .i64 1]] w fun e w' => e = .returned (.int .i64 (-1)) ∧ Below w.heap.size w w' := by
  have h := before_any ⟨0, 1, 2, 0, 0, 1⟩ ⟨1, 0, 1, 0, 0, 1⟩ w (B6_small (by decide)) (B6_small (by decide))
  rw [h_b2] at h
  exact h

set_option maxHeartbeats 4000000 in
theorem head_any (w : World) : Calls Try.prog 10 #[] w fun e w' => e = .returned (.bool true) ∧ Below w.heap.size w w' := by
  have heq := run_eql_spot_same
  go_enter Try.func10, Try.ntmps10
  have HB := Lib.hid ((Below.refl w.heap.size w).alloc (Nat.le_refl _) (.cells #[.int .i64 0, .int .i64 0, .int .i64 10, .int .i64 0, .int .i64 10, .int .i64 10] 24))
  have K1 := Lib.hid (Reg.Blk.new w #[.int .i64 0, .int .i64 0, .int .i64 10, .int .i64 0, .int .i64 10, .int .i64 10] 24)
  go_wp2_with fail
  have hq := loc0 4 3 _ _ h_a.1 h_a.2 _ _ _ K1.out
  simp only [Spt.cells, spt0] at hq
  (with_reducible refine hq.mono ?_); clear hq; rintro e w1 ⟨rfl, hb⟩
  replace HB := Lib.hid (HB.out.trans (hb.mono HB.out.size))
  replace K1 := Lib.hid (K1.out.keep hb)
  clear hb
  replace K1 := Lib.hid (K1.out.alloc (.cells #[.int .i64 0, .int .i64 2, .int .i64 5, .int .i64 1, .int .i64 9, .int .i64 1] 34))
  have K2 := Lib.hid (Reg.Blk.new w1 #[.int .i64 0, .int .i64 2, .int .i64 5, .int .i64 1, .int .i64 9, .int .i64 1] 34)
  replace HB := Lib.hid (HB.out.alloc HB.out.size (.cells #[.int .i64 0, .int .i64 2, .int .i64 5, .int .i64 1, .int .i64 9, .int .i64 1] 34))
  go_wp2_with fail
  have hq := loc0 4 (-3) spt0 1 h_f2 h_f _ _ _ K1.out
  simp only [Spt.cells, spt0] at hq
  (with_reducible refine hq.mono ?_); clear hq; rintro e w2 ⟨rfl, hb⟩
  replace HB := Lib.hid (HB.out.trans (hb.mono HB.out.size))
  replace K1 := Lib.hid (K1.out.keep hb)
  replace K2 := Lib.hid (K2.out.keep hb)
  clear hb
  replace K1 := Lib.hid (K1.out.alloc (.cells #[.int .i64 0, .int .i64 0, .int .i64 0, .int .i64 0, .int .i64 0, .int .i64 0] 34))
  replace K2 := Lib.hid (K2.out.alloc (.cells #[.int .i64 0, .int .i64 0, .int .i64 0, .int .i64 0, .int .i64 0, .int .i64 0] 34))
  have K4 := Lib.hid (Reg.Blk.new w2 #[.int .i64 0, .int .i64 0, .int .i64 0, .int .i64 0, .int .i64 0, .int .i64 0] 34)
  replace HB := Lib.hid (HB.out.alloc HB.out.size (.cells #[.int .i64 0, .int .i64 0, .int .i64 0, .int .i64 0, .int .i64 0, .int .i64 0] 34))
  go_wp2_with fail
  have hq := loc0 12 5 _ _ h_b.1 h_b.2 _ _ _ K1.out
  simp only [Spt.cells, spt0] at hq
  (with_reducible refine hq.mono ?_); clear hq; rintro e w3 ⟨rfl, hb⟩
  replace HB := Lib.hid (HB.out.trans (hb.mono HB.out.size))
  replace K1 := Lib.hid (K1.out.keep hb)
  replace K2 := Lib.hid (K2.out.keep hb)
  replace K4 := Lib.hid (K4.out.keep hb)
  clear hb
  replace K1 := Lib.hid (K1.out.alloc (.cells #[.int .i64 1, .int .i64 1, .int .i64 2, .int .i64 (-1), .int .i64 4, .int .i64 1] 34))
  replace K2 := Lib.hid (K2.out.alloc (.cells #[.int .i64 1, .int .i64 1, .int .i64 2, .int .i64 (-1), .int .i64 4, .int .i64 1] 34))
  replace K4 := Lib.hid (K4.out.alloc (.cells #[.int .i64 1, .int .i64 1, .int .i64 2, .int .i64 (-1), .int .i64 4, .int .i64 1] 34))
  have K6 := Lib.hid (Reg.Blk.new w3 #[.int .i64 1, .int .i64 1, .int .i64 2, .int .i64 (-1), .int .i64 4, .int .i64 1] 34)
  replace HB := Lib.hid (HB.out.alloc HB.out.size (.cells #[.int .i64 1, .int .i64 1, .int .i64 2, .int .i64 (-1), .int .i64 4, .int .i64 1] 34))
  go_wp2_with fail
  have hq := loc0 11 0 _ _ h_c.1 h_c.2 _ _ _ K1.out
  simp only [Spt.cells, spt0] at hq
  (with_reducible refine hq.mono ?_); clear hq; rintro e w4 ⟨rfl, hb⟩
  replace HB := Lib.hid (HB.out.trans (hb.mono HB.out.size))
  replace K1 := Lib.hid (K1.out.keep hb)
  replace K2 := Lib.hid (K2.out.keep hb)
  replace K4 := Lib.hid (K4.out.keep hb)
  replace K6 := Lib.hid (K6.out.keep hb)
  clear hb
  have hal : Below w4.heap.size w4 (((w4.alloc (.cells #[.int .i64 0, .int .i64 1, .int .i64 1, .int .i64 0, .int .i64 1, .int .i64 1] 34)).alloc (.cells #[.int .i64 0, .int .i64 9, .int .i64 9, .int .i64 9] 24)).alloc (.cells #[.slice (some ⟨w4.heap.size + 1, 0, none⟩) 2 2, .slice (some ⟨w.heap.size, 0, none⟩) 3 3] 38)) := (((Below.refl _ _).alloc (Nat.le_refl _) _).alloc (by simp) _).alloc (by simp; omega) _
  obtain ⟨k8, kp, ks⟩ := Reg.Blk.new3 (w := w4) (C := #[.int .i64 0, .int .i64 1, .int .i64 1, .int .i64 0, .int .i64 1, .int .i64 1]) (T := 34) (C' := #[.int .i64 0, .int .i64 9, .int .i64 9, .int .i64 9]) (T' := 24) (C'' := #[.slice (some ⟨w4.heap.size + 1, 0, none⟩) 2 2, .slice (some ⟨w.heap.size, 0, none⟩) 3 3]) (T'' := 38) (Below.refl _ _)
  replace HB := Lib.hid (HB.out.trans (hal.mono HB.out.size))
  replace K1 := Lib.hid (K1.out.keep hal)
  replace K2 := Lib.hid (K2.out.keep hal)
  replace K4 := Lib.hid (K4.out.keep hal)
  replace K6 := Lib.hid (K6.out.keep hal)
  have K8 := Lib.hid k8
  have hq := nearest_any _ 2 _ 9 4 _ (lines_blk ks (line_blk2 kp) (line_blk3 K1.out))
  rw [h_n] at hq
  simp only [List.length_cons, List.length_nil, Nat.reduceAdd] at hq
  have HQ := Lib.hid hq
  clear hal k8 kp ks hq
  go_wp2_with fail
  (with_reducible refine HQ.out.mono ?_); rintro e w5 ⟨rfl, hb⟩
  replace HB := Lib.hid (HB.out.trans (hb.mono HB.out.size))
  replace K2 := Lib.hid (K2.out.keep hb)
  replace K6 := Lib.hid (K6.out.keep hb)
  replace K8 := Lib.hid (K8.out.keep hb)
  clear hb HQ K1 K4
  go_wp2_with fail
  obtain ⟨c2, f2, z2⟩ := K2.out.facts
  obtain ⟨c6, f6, z6⟩ := K6.out.facts
  obtain ⟨c8, f8, z8⟩ := K8.out.facts
  refine Reg.wp_region_seq (by kernel_rfl) (by kernel_rfl) ?_
  simp only
  iterate 30
    apply Reg.SeqOK.val
    · intro γ W hW K hK
      obtain ⟨hc, hf, _⟩ := bcell hW
      simp only [Act.put, List.setIfInBounds_toArray, List.set_cons_zero, List.set_cons_succ] at hK
      unfold Reg.Does
      go_simp
      try simp only [IntWalk.i64_left]
      first
        | exact hK _ (Below.refl _ _)
        | (go_at_call 30; (with_reducible refine (spot_any _ _ _ _ _ _).mono ?_); rintro e w' ⟨rfl, hb⟩; exact hK _ hb)
        | (trace_state; fail)
    simp only [Act.put, List.setIfInBounds_toArray, List.set_cons_zero, List.set_cons_succ, List.nil_append, List.cons_append, Nat.reduceAdd, Nat.zero_add]
  refine Reg.SeqOK.nil (by kernel_rfl) (fun γ W hW _ _ _ => ?_)
  replace HB := Lib.hid (HB.out.trans (hW.mono HB.out.size))
  clear hW
  clear K2 K6 K8 c2 f2 z2 c6 f6 z6 c8 f8 z8
  go_wp2_with fail
  (with_reducible refine (spot_any _ _ _ _ _ _).mono ?_); rintro e w6 ⟨rfl, hb⟩
  replace HB := Lib.hid (HB.out.trans (hb.mono HB.out.size))
  clear hb
  go_wp2_with fail
  (with_reducible refine (spot_any _ _ _ _ _ _).mono ?_); rintro e w7 ⟨rfl, hb⟩
  replace HB := Lib.hid (HB.out.trans (hb.mono HB.out.size))
  clear hb
  go_wp2_with fail
  (with_reducible refine (before1 _).mono ?_); rintro e w8 ⟨rfl, hb⟩
  replace HB := Lib.hid (HB.out.trans (hb.mono HB.out.size))
  clear hb
  go_wp2_with fail
  (with_reducible refine (spot_any _ _ _ _ _ _).mono ?_); rintro e w9 ⟨rfl, hb⟩
  replace HB := Lib.hid (HB.out.trans (hb.mono HB.out.size))
  clear hb
  go_wp2_with fail
  (with_reducible refine (spot_any _ _ _ _ _ _).mono ?_); rintro e w10 ⟨rfl, hb⟩
  replace HB := Lib.hid (HB.out.trans (hb.mono HB.out.size))
  clear hb
  go_wp2_with fail
  (with_reducible refine (before2 _).mono ?_); rintro e w11 ⟨rfl, hb⟩
  replace HB := Lib.hid (HB.out.trans (hb.mono HB.out.size))
  clear hb
  go_wp2_with fail
  go_ret
  exact ⟨rfl, HB.out⟩

end G
end Go.Proofs.Ytjeapimjgojpoaa
