/- Seals: 'Verify' where it fails ahead of the digits. Printed by mkWh.py. -/
import Derived.Test.YthdjdlndfkemiaaDoorWg
set_option linter.unusedSimpArgs false
set_option linter.unusedVariables false
set_option maxRecDepth 100000
namespace Go.Proofs.YthdjdlndfkemiaaDoor
open Go.RowKit
namespace S

set_option maxHeartbeats 4000000 in
theorem ver_no1 (pub m : ByteArray) (i : Int) (A B : Option Addr) (n c k d : Nat) (sig p : List Tx) (w : World) (h1 : Lst w A n c sig) (h2 : Lst w B k d p) (t1 : TxB sig) (t2 : TxB p) (hn : n ≠ 18) :
    Calls Tryd.prog 8 #[.string pub, .string m, .agg #[.int .i64 i, .slice A n c, .slice B k d]] w fun e w' => e = .returned (.bool false) ∧ Below w.heap.size w w' := by
  have e18 : ((n : Int) == 18) = false := by rw [beq_eq_false_iff_ne]; omega
  have e19 : ((n : Int) != 18) = true := by rw [bne_iff_ne]; omega
  have e17 : ¬ (n : Int) = 18 := by omega
  have kb := Reg.Blk.new w #[.int .i64 i, .slice A n c, .slice B k d] 24
  have hal : Below w.heap.size w (w.alloc (.cells #[.int .i64 i, .slice A n c, .slice B k d] 24)) := (Below.refl _ _).alloc (Nat.le_refl _) _
  have O1 := Lib.hid (fun W (hb : Below w.heap.size w W) => odd_L (h1.below hb) t1)
  have O2 := Lib.hid (fun W (hb : Below w.heap.size w W) => odd_L (h2.below hb) t2)
  clear h1 h2 t1 t2
  obtain ⟨kc, kf, kz⟩ := kb.facts
  go_enter Tryd.func8, Tryd.ntmps8
  go_wp2_with fail
  have HAL := Lib.hid hal
  have KB := Lib.hid kb
  generalize w.alloc (.cells #[.int .i64 i, .slice A n c, .slice B k d] 24) = W0 at *
  have hgb : Hid (∀ W, Below W0.heap.size W0 W → Below w.heap.size w W) := fun W hb => HAL.out.trans (hb.mono HAL.out.size)
  clear hal kb
  refine Reg.wp_region_seq (by kernel_rfl) (by kernel_rfl) ?_
  simp only
  iterate 32
    apply Reg.SeqOK.val
    · intro γ W hW K hK
      obtain ⟨hc, hf, _⟩ := bcell hW
      simp only [Act.put, List.setIfInBounds_toArray, List.set_cons_zero, List.set_cons_succ] at hK
      unfold Reg.Does
      go_simp
      try simp only [IntWalk.i64_left]
      first
        | exact hK _ (Below.refl _ _)
        | (go_at_call 14; (with_reducible refine (O1.out _ (hgb.out _ hW)).mono ?_); rintro e w' ⟨rfl, hb⟩; exact hK _ hb)
        | (go_at_call 14; (with_reducible refine (O2.out _ (hgb.out _ hW)).mono ?_); rintro e w' ⟨rfl, hb⟩; exact hK _ hb)
        | (trace_state; fail)
    simp only [Act.put, List.setIfInBounds_toArray, List.set_cons_zero, List.set_cons_succ, List.nil_append, List.cons_append, Nat.reduceAdd, Nat.zero_add]
  refine Reg.SeqOK.nil (by kernel_rfl) (fun γ W1 hW _ _ _ => ?_)
  have HW1 := Lib.hid (hgb.out W1 hW)
  clear hW
  go_wp2_with fail
  go_ret
  exact ⟨rfl, HW1.out⟩
set_option maxHeartbeats 4000000 in
theorem ver_no2 (pub m : ByteArray) (i : Int) (A B : Option Addr) (c k d : Nat) (sig p : List Tx) (w : World) (h1 : Lst w A 18 c sig) (h2 : Lst w B k d p) (t1 : TxB sig) (t2 : TxB p) (hk : 8 < k) :
    Calls Tryd.prog 8 #[.string pub, .string m, .agg #[.int .i64 i, .slice A 18 c, .slice B k d]] w fun e w' => e = .returned (.bool false) ∧ Below w.heap.size w w' := by
  have e8 : decide ((8 : Int) < (k : Int)) = true := decide_eq_true (by omega)
  have kb := Reg.Blk.new w #[.int .i64 i, .slice A 18 c, .slice B k d] 24
  have hal : Below w.heap.size w (w.alloc (.cells #[.int .i64 i, .slice A 18 c, .slice B k d] 24)) := (Below.refl _ _).alloc (Nat.le_refl _) _
  have O1 := Lib.hid (fun W (hb : Below w.heap.size w W) => odd_L (h1.below hb) t1)
  have O2 := Lib.hid (fun W (hb : Below w.heap.size w W) => odd_L (h2.below hb) t2)
  clear h1 h2 t1 t2
  obtain ⟨kc, kf, kz⟩ := kb.facts
  go_enter Tryd.func8, Tryd.ntmps8
  go_wp2_with fail
  have HAL := Lib.hid hal
  have KB := Lib.hid kb
  generalize w.alloc (.cells #[.int .i64 i, .slice A 18 c, .slice B k d] 24) = W0 at *
  have hgb : Hid (∀ W, Below W0.heap.size W0 W → Below w.heap.size w W) := fun W hb => HAL.out.trans (hb.mono HAL.out.size)
  clear hal kb
  refine Reg.wp_region_seq (by kernel_rfl) (by kernel_rfl) ?_
  simp only
  iterate 32
    apply Reg.SeqOK.val
    · intro γ W hW K hK
      obtain ⟨hc, hf, _⟩ := bcell hW
      simp only [Act.put, List.setIfInBounds_toArray, List.set_cons_zero, List.set_cons_succ] at hK
      unfold Reg.Does
      go_simp
      try simp only [IntWalk.i64_left]
      first
        | exact hK _ (Below.refl _ _)
        | (go_at_call 14; (with_reducible refine (O1.out _ (hgb.out _ hW)).mono ?_); rintro e w' ⟨rfl, hb⟩; exact hK _ hb)
        | (go_at_call 14; (with_reducible refine (O2.out _ (hgb.out _ hW)).mono ?_); rintro e w' ⟨rfl, hb⟩; exact hK _ hb)
        | (trace_state; fail)
    simp only [Act.put, List.setIfInBounds_toArray, List.set_cons_zero, List.set_cons_succ, List.nil_append, List.cons_append, Nat.reduceAdd, Nat.zero_add]
  refine Reg.SeqOK.nil (by kernel_rfl) (fun γ W1 hW _ _ _ => ?_)
  have HW1 := Lib.hid (hgb.out W1 hW)
  clear hW
  go_wp2_with fail
  go_ret
  exact ⟨rfl, HW1.out⟩
set_option maxHeartbeats 4000000 in
theorem ver_no3 (pub m : ByteArray) (i : Int) (A B : Option Addr) (c k d : Nat) (sig p : List Tx) (w : World) (h1 : Lst w A 18 c sig) (h2 : Lst w B k d p) (t1 : TxB sig) (t2 : TxB p) (hk : k ≤ 8) (ha1 : sig.all isD = false) :
    Calls Tryd.prog 8 #[.string pub, .string m, .agg #[.int .i64 i, .slice A 18 c, .slice B k d]] w fun e w' => e = .returned (.bool false) ∧ Below w.heap.size w w' := by
  have e8 : decide ((8 : Int) < (k : Int)) = false := decide_eq_false (by omega)
  have kb := Reg.Blk.new w #[.int .i64 i, .slice A 18 c, .slice B k d] 24
  have hal : Below w.heap.size w (w.alloc (.cells #[.int .i64 i, .slice A 18 c, .slice B k d] 24)) := (Below.refl _ _).alloc (Nat.le_refl _) _
  have O1 := Lib.hid (fun W (hb : Below w.heap.size w W) => odd_L (h1.below hb) t1)
  have O2 := Lib.hid (fun W (hb : Below w.heap.size w W) => odd_L (h2.below hb) t2)
  clear h1 h2 t1 t2
  rw [ha1, Bool.not_false] at O1
  obtain ⟨kc, kf, kz⟩ := kb.facts
  go_enter Tryd.func8, Tryd.ntmps8
  go_wp2_with fail
  have HAL := Lib.hid hal
  have KB := Lib.hid kb
  generalize w.alloc (.cells #[.int .i64 i, .slice A 18 c, .slice B k d] 24) = W0 at *
  have hgb : Hid (∀ W, Below W0.heap.size W0 W → Below w.heap.size w W) := fun W hb => HAL.out.trans (hb.mono HAL.out.size)
  clear hal kb
  refine Reg.wp_region_seq (by kernel_rfl) (by kernel_rfl) ?_
  simp only
  iterate 32
    apply Reg.SeqOK.val
    · intro γ W hW K hK
      obtain ⟨hc, hf, _⟩ := bcell hW
      simp only [Act.put, List.setIfInBounds_toArray, List.set_cons_zero, List.set_cons_succ] at hK
      unfold Reg.Does
      go_simp
      try simp only [IntWalk.i64_left]
      first
        | exact hK _ (Below.refl _ _)
        | (go_at_call 14; (with_reducible refine (O1.out _ (hgb.out _ hW)).mono ?_); rintro e w' ⟨rfl, hb⟩; exact hK _ hb)
        | (go_at_call 14; (with_reducible refine (O2.out _ (hgb.out _ hW)).mono ?_); rintro e w' ⟨rfl, hb⟩; exact hK _ hb)
        | (trace_state; fail)
    simp only [Act.put, List.setIfInBounds_toArray, List.set_cons_zero, List.set_cons_succ, List.nil_append, List.cons_append, Nat.reduceAdd, Nat.zero_add]
  refine Reg.SeqOK.nil (by kernel_rfl) (fun γ W1 hW _ _ _ => ?_)
  have HW1 := Lib.hid (hgb.out W1 hW)
  clear hW
  go_wp2_with fail
  go_ret
  exact ⟨rfl, HW1.out⟩
set_option maxHeartbeats 4000000 in
theorem ver_no4 (pub m : ByteArray) (i : Int) (A B : Option Addr) (c k d : Nat) (sig p : List Tx) (w : World) (h1 : Lst w A 18 c sig) (h2 : Lst w B k d p) (t1 : TxB sig) (t2 : TxB p) (hk : k ≤ 8) (ha1 : sig.all isD = true) (ha2 : p.all isD = false) :
    Calls Tryd.prog 8 #[.string pub, .string m, .agg #[.int .i64 i, .slice A 18 c, .slice B k d]] w fun e w' => e = .returned (.bool false) ∧ Below w.heap.size w w' := by
  have e8 : decide ((8 : Int) < (k : Int)) = false := decide_eq_false (by omega)
  have kb := Reg.Blk.new w #[.int .i64 i, .slice A 18 c, .slice B k d] 24
  have hal : Below w.heap.size w (w.alloc (.cells #[.int .i64 i, .slice A 18 c, .slice B k d] 24)) := (Below.refl _ _).alloc (Nat.le_refl _) _
  have O1 := Lib.hid (fun W (hb : Below w.heap.size w W) => odd_L (h1.below hb) t1)
  have O2 := Lib.hid (fun W (hb : Below w.heap.size w W) => odd_L (h2.below hb) t2)
  clear h1 h2 t1 t2
  rw [ha1, Bool.not_true] at O1
  rw [ha2, Bool.not_false] at O2
  obtain ⟨kc, kf, kz⟩ := kb.facts
  go_enter Tryd.func8, Tryd.ntmps8
  go_wp2_with fail
  have HAL := Lib.hid hal
  have KB := Lib.hid kb
  generalize w.alloc (.cells #[.int .i64 i, .slice A 18 c, .slice B k d] 24) = W0 at *
  have hgb : Hid (∀ W, Below W0.heap.size W0 W → Below w.heap.size w W) := fun W hb => HAL.out.trans (hb.mono HAL.out.size)
  clear hal kb
  refine Reg.wp_region_seq (by kernel_rfl) (by kernel_rfl) ?_
  simp only
  iterate 32
    apply Reg.SeqOK.val
    · intro γ W hW K hK
      obtain ⟨hc, hf, _⟩ := bcell hW
      simp only [Act.put, List.setIfInBounds_toArray, List.set_cons_zero, List.set_cons_succ] at hK
      unfold Reg.Does
      go_simp
      try simp only [IntWalk.i64_left]
      first
        | exact hK _ (Below.refl _ _)
        | (go_at_call 14; (with_reducible refine (O1.out _ (hgb.out _ hW)).mono ?_); rintro e w' ⟨rfl, hb⟩; exact hK _ hb)
        | (go_at_call 14; (with_reducible refine (O2.out _ (hgb.out _ hW)).mono ?_); rintro e w' ⟨rfl, hb⟩; exact hK _ hb)
        | (trace_state; fail)
    simp only [Act.put, List.setIfInBounds_toArray, List.set_cons_zero, List.set_cons_succ, List.nil_append, List.cons_append, Nat.reduceAdd, Nat.zero_add]
  refine Reg.SeqOK.nil (by kernel_rfl) (fun γ W1 hW _ _ _ => ?_)
  have HW1 := Lib.hid (hgb.out W1 hW)
  clear hW
  go_wp2_with fail
  go_ret
  exact ⟨rfl, HW1.out⟩
set_option maxHeartbeats 4000000 in
theorem ver_no5 (pub m : ByteArray) (i : Int) (A B : Option Addr) (c k d : Nat) (sig p : List Tx) (w : World) (h1 : Lst w A 18 c sig) (h2 : Lst w B k d p) (t1 : TxB sig) (t2 : TxB p) (hk : k ≤ 8) (ha1 : sig.all isD = true) (ha2 : p.all isD = true) (hi : i < 0) :
    Calls Tryd.prog 8 #[.string pub, .string m, .agg #[.int .i64 i, .slice A 18 c, .slice B k d]] w fun e w' => e = .returned (.bool false) ∧ Below w.heap.size w w' := by
  have e8 : decide ((8 : Int) < (k : Int)) = false := decide_eq_false (by omega)
  have ei : decide (i < 0) = true := decide_eq_true hi
  have kb := Reg.Blk.new w #[.int .i64 i, .slice A 18 c, .slice B k d] 24
  have hal : Below w.heap.size w (w.alloc (.cells #[.int .i64 i, .slice A 18 c, .slice B k d] 24)) := (Below.refl _ _).alloc (Nat.le_refl _) _
  have O1 := Lib.hid (fun W (hb : Below w.heap.size w W) => odd_L (h1.below hb) t1)
  have O2 := Lib.hid (fun W (hb : Below w.heap.size w W) => odd_L (h2.below hb) t2)
  clear h1 h2 t1 t2
  rw [ha1, Bool.not_true] at O1
  rw [ha2, Bool.not_true] at O2
  obtain ⟨kc, kf, kz⟩ := kb.facts
  go_enter Tryd.func8, Tryd.ntmps8
  go_wp2_with fail
  have HAL := Lib.hid hal
  have KB := Lib.hid kb
  generalize w.alloc (.cells #[.int .i64 i, .slice A 18 c, .slice B k d] 24) = W0 at *
  have hgb : Hid (∀ W, Below W0.heap.size W0 W → Below w.heap.size w W) := fun W hb => HAL.out.trans (hb.mono HAL.out.size)
  clear hal kb
  refine Reg.wp_region_seq (by kernel_rfl) (by kernel_rfl) ?_
  simp only
  iterate 32
    apply Reg.SeqOK.val
    · intro γ W hW K hK
      obtain ⟨hc, hf, _⟩ := bcell hW
      simp only [Act.put, List.setIfInBounds_toArray, List.set_cons_zero, List.set_cons_succ] at hK
      unfold Reg.Does
      go_simp
      try simp only [IntWalk.i64_left]
      first
        | exact hK _ (Below.refl _ _)
        | (go_at_call 14; (with_reducible refine (O1.out _ (hgb.out _ hW)).mono ?_); rintro e w' ⟨rfl, hb⟩; exact hK _ hb)
        | (go_at_call 14; (with_reducible refine (O2.out _ (hgb.out _ hW)).mono ?_); rintro e w' ⟨rfl, hb⟩; exact hK _ hb)
        | (trace_state; fail)
    simp only [Act.put, List.setIfInBounds_toArray, List.set_cons_zero, List.set_cons_succ, List.nil_append, List.cons_append, Nat.reduceAdd, Nat.zero_add]
  refine Reg.SeqOK.nil (by kernel_rfl) (fun γ W1 hW _ _ _ => ?_)
  have HW1 := Lib.hid (hgb.out W1 hW)
  clear hW
  go_wp2_with fail
  go_ret
  exact ⟨rfl, HW1.out⟩
set_option maxHeartbeats 4000000 in
theorem ver_no6 (pub m : ByteArray) (i : Int) (A B : Option Addr) (c k d : Nat) (sig p : List Tx) (w : World) (h1 : Lst w A 18 c sig) (h2 : Lst w B k d p) (t1 : TxB sig) (t2 : TxB p) (hk : k ≤ 8) (ha1 : sig.all isD = true) (ha2 : p.all isD = true) (hi : 0 ≤ i) (hi2 : ((2 ^ k : Nat) : Int) ≤ i) :
    Calls Tryd.prog 8 #[.string pub, .string m, .agg #[.int .i64 i, .slice A 18 c, .slice B k d]] w fun e w' => e = .returned (.bool false) ∧ Below w.heap.size w w' := by
  have e8 : decide ((8 : Int) < (k : Int)) = false := decide_eq_false (by omega)
  have ei : decide (i < 0) = false := decide_eq_false (by omega)
  have hshl := wrap_pow k hk
  have hin : decide (((2 ^ k : Nat) : Int) ≤ i) = true := decide_eq_true hi2
  generalize 2 ^ k = N at *
  clear hi hi2
  have kb := Reg.Blk.new w #[.int .i64 i, .slice A 18 c, .slice B k d] 24
  have hal : Below w.heap.size w (w.alloc (.cells #[.int .i64 i, .slice A 18 c, .slice B k d] 24)) := (Below.refl _ _).alloc (Nat.le_refl _) _
  have O1 := Lib.hid (fun W (hb : Below w.heap.size w W) => odd_L (h1.below hb) t1)
  have O2 := Lib.hid (fun W (hb : Below w.heap.size w W) => odd_L (h2.below hb) t2)
  clear h1 h2 t1 t2
  rw [ha1, Bool.not_true] at O1
  rw [ha2, Bool.not_true] at O2
  obtain ⟨kc, kf, kz⟩ := kb.facts
  go_enter Tryd.func8, Tryd.ntmps8
  go_wp2_with fail
  have HAL := Lib.hid hal
  have KB := Lib.hid kb
  generalize w.alloc (.cells #[.int .i64 i, .slice A 18 c, .slice B k d] 24) = W0 at *
  have hgb : Hid (∀ W, Below W0.heap.size W0 W → Below w.heap.size w W) := fun W hb => HAL.out.trans (hb.mono HAL.out.size)
  clear hal kb
  refine Reg.wp_region_seq (by kernel_rfl) (by kernel_rfl) ?_
  simp only
  iterate 29
    apply Reg.SeqOK.val
    · intro γ W hW K hK
      obtain ⟨hc, hf, _⟩ := bcell hW
      simp only [Act.put, List.setIfInBounds_toArray, List.set_cons_zero, List.set_cons_succ] at hK
      unfold Reg.Does
      go_simp
      try simp only [IntWalk.i64_left]
      first
        | exact hK _ (Below.refl _ _)
        | (go_at_call 14; (with_reducible refine (O1.out _ (hgb.out _ hW)).mono ?_); rintro e w' ⟨rfl, hb⟩; exact hK _ hb)
        | (go_at_call 14; (with_reducible refine (O2.out _ (hgb.out _ hW)).mono ?_); rintro e w' ⟨rfl, hb⟩; exact hK _ hb)
        | (trace_state; fail)
    simp only [Act.put, List.setIfInBounds_toArray, List.set_cons_zero, List.set_cons_succ, List.nil_append, List.cons_append, Nat.reduceAdd, Nat.zero_add]
  refine Reg.SeqOK.val (.int .i64 (N : Int)) (fun γ W hW K hK => ?_) ?_
  · simp only [Act.put, List.setIfInBounds_toArray, List.set_cons_zero, List.set_cons_succ] at hK
    unfold Reg.Does
    go_simp
    try simp only [IntWalk.i64_left]
    try simp only [hshl]
    exact hK _ (Below.refl _ _)
  simp only [Act.put, List.setIfInBounds_toArray, List.set_cons_zero, List.set_cons_succ, List.nil_append, List.cons_append, Nat.reduceAdd, Nat.zero_add]
  iterate 2
    apply Reg.SeqOK.val
    · intro γ W hW K hK
      obtain ⟨hc, hf, _⟩ := bcell hW
      simp only [Act.put, List.setIfInBounds_toArray, List.set_cons_zero, List.set_cons_succ] at hK
      unfold Reg.Does
      go_simp
      try simp only [IntWalk.i64_left]
      first
        | exact hK _ (Below.refl _ _)
        | (trace_state; fail)
    simp only [Act.put, List.setIfInBounds_toArray, List.set_cons_zero, List.set_cons_succ, List.nil_append, List.cons_append, Nat.reduceAdd, Nat.zero_add]
  refine Reg.SeqOK.nil (by kernel_rfl) (fun γ W1 hW _ _ _ => ?_)
  have HW1 := Lib.hid (hgb.out W1 hW)
  clear hW
  go_wp2_with fail
  go_ret
  exact ⟨rfl, HW1.out⟩

end S
end Go.Proofs.YthdjdlndfkemiaaDoor
