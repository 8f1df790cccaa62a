/- Net: 'Send'. -/
import Derived.Test.YtklcpopnggiepaaNc
set_option linter.unusedSimpArgs false
set_option linter.unusedVariables false
set_option maxRecDepth 100000
namespace Go.Proofs.Ytklcpopnggiepaa
open Go.RowKit
namespace N

section
variable (a b : Int) (t : Tx) (w : World) {B g : Nat} {M : Nat → Prop} {d : Nt}
theorem send_no (hd : NetAt w B M g d) (hk : okP d.n a b = false) :
    Calls Try.prog 12 #[.pointer (some ⟨g, 0, none⟩), .int .i64 a, .int .i64 b, .string (str t)] w fun e w' => e = .returned (.int .i64 1) ∧ Below w.heap.size w w' := by
  have HK := Lib.hid (fun (W : World) (hW : NetAt W B M g d) => knows_at a b W hW)
  go_enter Try.func12, Try.ntmps12
  go_wp2_with fail
  (with_reducible refine (HK.out _ (hd.below ?_)).mono ?_)
  · exact (Below.refl _ _).alloc (Nat.le_refl _) _
  rw [hk]; rintro e w1 ⟨rfl, hb1⟩
  go_wp2
  go_ret
  exact ⟨rfl, ((Below.refl _ _).alloc (Nat.le_refl _) _).trans (hb1.mono (by simp))⟩
theorem send_long (hd : NetAt w B M g d) (hk : okP d.n a b = true) (ht : 20000 < t.length) :
    Calls Try.prog 12 #[.pointer (some ⟨g, 0, none⟩), .int .i64 a, .int .i64 b, .string (str t)] w fun e w' => e = .returned (.int .i64 1) ∧ Below w.heap.size w w' := by
  have HK := Lib.hid (fun (W : World) (hW : NetAt W B M g d) => knows_at a b W hW)
  have h1 : 20000 < (str t).size := by rw [str_size]; exact ht
  have h2 : (20000 : Int) < ((str t).size : Int) := by omega
  go_enter Try.func12, Try.ntmps12
  go_wp2_with fail
  (with_reducible refine (HK.out _ (hd.below ?_)).mono ?_)
  · exact (Below.refl _ _).alloc (Nat.le_refl _) _
  rw [hk]; rintro e w1 ⟨rfl, hb1⟩
  go_wp2
  go_ret
  exact ⟨rfl, ((Below.refl _ _).alloc (Nat.le_refl _) _).trans (hb1.mono (by simp))⟩
theorem send_cut (ha : B64 a) (hb : B64 b) (hd : NetAt w B M g d) (hk : okP d.n a b = true) (ht : t.length ≤ 20000) (hc : d.c a b = true) :
    Calls Try.prog 12 #[.pointer (some ⟨g, 0, none⟩), .int .i64 a, .int .i64 b, .string (str t)] w fun e w' => e = .returned (.int .i64 23) ∧ Below w.heap.size w w' := by
  have HK := Lib.hid (fun (W : World) (hW : NetAt W B M g d) => knows_at a b W hW)
  have h1 : ¬ 20000 < (str t).size := by rw [str_size]; omega
  have h2 : ¬ (20000 : Int) < ((str t).size : Int) := by omega
  go_enter Try.func12, Try.ntmps12
  go_wp2_with fail
  (with_reducible refine (HK.out _ (hd.below ?_)).mono ?_)
  · exact (Below.refl _ _).alloc (Nat.le_refl _) _
  rw [hk]; rintro e w1 ⟨rfl, hb1⟩
  have kw := Reg.Blk.new1 hb1
  have hT : Below w.heap.size w w1 := ((Below.refl _ _).alloc (Nat.le_refl _) _).trans (hb1.mono (by simp))
  have hd1 := hd.below hT
  obtain ⟨bq, bc, fq, fc, h1'⟩ := hd1
  obtain ⟨ckw, fkw, zkw⟩ := kw.facts
  obtain ⟨ckd, fkd, zkd⟩ := h1'.blk.facts
  have hl := fun (W : World) (hW : Below w1.heap.size w1 W) => (h1'.below hW).look_cut ha hb
  rw [hc] at hl
  have HT := Lib.hid hT
  clear hb1 hd hT h1'
  go_wp2_with fail
  refine Reg.wp_region_seq (by kernel_rfl) (by kernel_rfl) ?_
  simp only
  iterate 7
    apply Reg.SeqOK.val
    · intro γ W hW K hK
      obtain ⟨hc, hf, _⟩ := bcell hW
      simp only [Act.put, List.setIfInBounds_toArray, List.set_cons_zero, List.set_cons_succ] at hK
      unfold Reg.Does
      go_simp
      try simp only [IntWalk.i64_left]
      first
        | exact hK _ (Below.refl _ _)
    simp only [Act.put, List.setIfInBounds_toArray, List.set_cons_zero, List.set_cons_succ, List.nil_append, List.cons_append, Nat.reduceAdd, Nat.zero_add]
  refine Reg.SeqOK.nil (by kernel_rfl) (fun γ W hW _ _ _ => ?_)
  have HW := Lib.hid hW
  clear hW hl
  go_wp2_with fail
  go_ret
  exact ⟨rfl, HT.out.trans (HW.out.mono HT.out.size)⟩

set_option maxHeartbeats 1000000 in
theorem send_full (ha : B64 a) (hb : B64 b) (hd : NetAt w B M g d) (hk : okP d.n a b = true) (ht : t.length ≤ 20000) (hc : d.c a b = false) (hq : 100 ≤ (d.q a b).length) :
    Calls Try.prog 12 #[.pointer (some ⟨g, 0, none⟩), .int .i64 a, .int .i64 b, .string (str t)] w fun e w' => e = .returned (.int .i64 22) ∧ Below w.heap.size w w' := by
  have HK := Lib.hid (fun (W : World) (hW : NetAt W B M g d) => knows_at a b W hW)
  have h1 : ¬ 20000 < (str t).size := by rw [str_size]; omega
  have h2 : ¬ (20000 : Int) < ((str t).size : Int) := by omega
  go_enter Try.func12, Try.ntmps12
  go_wp2_with fail
  (with_reducible refine (HK.out _ (hd.below ?_)).mono ?_)
  · exact (Below.refl _ _).alloc (Nat.le_refl _) _
  rw [hk]; rintro e w1 ⟨rfl, hb1⟩
  have kw := Reg.Blk.new1 hb1
  have hT : Below w.heap.size w w1 := ((Below.refl _ _).alloc (Nat.le_refl _) _).trans (hb1.mono (by simp))
  have hd1 := hd.below hT
  obtain ⟨bq, bc, fq, fc, h1'⟩ := hd1
  obtain ⟨ckw, fkw, zkw⟩ := kw.facts
  obtain ⟨ckd, fkd, zkd⟩ := h1'.blk.facts
  have hl := fun (W : World) (hW : Below w1.heap.size w1 W) => (h1'.below hW).look_cut ha hb
  rw [hc] at hl
  have HT := Lib.hid hT
  have H1 := Lib.hid h1'
  clear hb1 hd hT h1'
  go_wp2_with fail
  refine Reg.wp_region_seq (by kernel_rfl) (by kernel_rfl) ?_
  simp only
  iterate 7
    apply Reg.SeqOK.val
    · intro γ W hW K hK
      obtain ⟨hc, hf, _⟩ := bcell hW
      simp only [Act.put, List.setIfInBounds_toArray, List.set_cons_zero, List.set_cons_succ] at hK
      unfold Reg.Does
      go_simp
      try simp only [IntWalk.i64_left]
      first
        | exact hK _ (Below.refl _ _)
    simp only [Act.put, List.setIfInBounds_toArray, List.set_cons_zero, List.set_cons_succ, List.nil_append, List.cons_append, Nat.reduceAdd, Nat.zero_add]
  refine Reg.SeqOK.nil (by kernel_rfl) (fun γ W hW _ _ _ => ?_)
  have HW := Lib.hid hW
  have kw2 := kw.keep hW
  have h3 := H1.out.below hW
  clear hW hl ckw fkw zkw ckd fkd zkd
  obtain ⟨ckw, fkw, zkw⟩ := kw2.facts
  obtain ⟨ckd, fkd, zkd⟩ := h3.blk.facts
  obtain ⟨A, c, hv, _, _⟩ := h3.form a b
  have hl := fun (W' : World) (hW' : Below W.heap.size W W') => (h3.below hW').look_row ha hb
  rw [hv] at hl
  have hq1 : (100 : Int) ≤ ((d.q a b).length : Int) := by omega
  have H3 := Lib.hid h3
  clear h3 hv
  go_wp2_with fail
  refine Reg.wp_region_seq (by kernel_rfl) (by kernel_rfl) ?_
  simp only
  iterate 9
    apply Reg.SeqOK.val
    · intro γ W hW K hK
      obtain ⟨hc, hf, _⟩ := bcell hW
      simp only [Act.put, List.setIfInBounds_toArray, List.set_cons_zero, List.set_cons_succ] at hK
      unfold Reg.Does
      go_simp
      try simp only [IntWalk.i64_left]
      first
        | exact hK _ (Below.refl _ _)
    simp only [Act.put, List.setIfInBounds_toArray, List.set_cons_zero, List.set_cons_succ, List.nil_append, List.cons_append, Nat.reduceAdd, Nat.zero_add]
  refine Reg.SeqOK.nil (by kernel_rfl) (fun γ W2 hW2 _ _ _ => ?_)
  have HW2 := Lib.hid hW2
  clear hW2 hl
  go_wp2_with fail
  go_ret
  exact ⟨rfl, (HT.out.trans (HW.out.mono HT.out.size)).trans (HW2.out.mono (Nat.le_trans HT.out.size HW.out.size))⟩
end
end N
end Go.Proofs.Ytklcpopnggiepaa
