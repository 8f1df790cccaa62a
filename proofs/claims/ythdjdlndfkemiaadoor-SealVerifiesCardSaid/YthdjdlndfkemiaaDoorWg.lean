/- Seals: 'odd' of 'Verify'; 'Sign' where it fails. Printed by mkWg.py. -/
import Derived.Test.YthdjdlndfkemiaaDoorWf
set_option linter.unusedSimpArgs false
set_option linter.unusedVariables false
set_option maxRecDepth 100000
namespace Go.Proofs.YthdjdlndfkemiaaDoor
open Go.RowKit
namespace S

theorem vnotis_any (t : Tx) (w : World) (hs : t.length ≤ 9223372036854775807) :
    Calls Tryd.prog 16 #[.string (str t)] w fun e w' => e = .returned (.bool (!isD t)) ∧ Below w.heap.size w w' := by
  have HQ := Lib.hid (is_str t w hs)
  clear hs
  go_enter Tryd.func16, Tryd.ntmps16
  go_wp2_with fail
  (with_reducible refine HQ.out.mono ?_); rintro e w1 ⟨rfl, hb1⟩
  have HB := Lib.hid hb1
  clear hb1 HQ
  go_wp2_with fail
  go_ret
  exact ⟨rfl, HB.out⟩

theorem vindex_any (A : Option Addr) (c : Nat) (L : List Tx) (w : World) (hl : StrsAt w A L) (hn : L.length ≤ 9223372036854775807) (hs : ∀ t ∈ L, t.length ≤ 9223372036854775807) :
    Calls Tryd.prog 27 #[.slice A L.length c, .func (.func 16) #[] #[]] w fun e w' => (∃ r : Int, e = .returned (.int .i64 r) ∧ decide (0 ≤ r) = !L.all isD) ∧ Below w.heap.size w w' := by
  have HL := Lib.hid hl
  have HS := Lib.hid hs
  clear hl hs
  go_enter Tryd.func27, Tryd.ntmps27
  go_wp2_with fail
  go_loopw [8] (fun i wr => ∃ k : Nat, k ≤ L.length ∧ i = .int .i64 k ∧ prN L k = true ∧ Below w.heap.size w wr) (fun i _ => L.length - (intOf i).toNat)
  case atStart => exact ⟨0, Nat.zero_le _, rfl, rfl, Below.refl _ _⟩
  case round =>
    obtain ⟨k, hk, rfl, hg, hbw⟩ := hrel
    have HG := Lib.hid hg
    have HB := Lib.hid hbw
    clear hg hbw
    by_cases hlt : k < L.length
    · obtain ⟨b, off, hA, hb, c0⟩ := (HL.out.below HB.out) k hlt
      subst hA
      have hki : (k : Int) < (L.length : Int) := by omega
      have hk0 : (0 : Int) ≤ (k : Int) := by omega
      have HV : Hid (∀ v, isD L[k] = v → prN L (k + 1) = v ∧ (v = false → L.all isD = false)) := fun v h => ⟨by rw [prN_succ hlt, HG.out, h]; simp, fun hv => prN_false hlt (by rw [h, hv])⟩
      have HQ := Lib.hid (vnotis_any L[k] wr (HS.out _ (List.getElem_mem hlt)))
      generalize L[k] = t at *
      generalize hv : isD t = v at *
      clear hv
      go_wp2_with fail
      (with_reducible refine HQ.out.mono ?_); rintro e w2 ⟨rfl, hb2⟩
      have HB2 := Lib.hid (HB.out.trans (hb2.mono HB.out.size))
      clear hb2 HQ
      cases v with
      | true =>
        go_wp2_with fail
        refine ⟨⟨k + 1, by omega, by go_num, (HV.out _ rfl).1, HB2.out⟩, by simp [intOf]; omega⟩
      | false =>
        go_wp2_with fail
        go_ret
        refine ⟨⟨(k : Int), rfl, ?_⟩, HB2.out⟩
        rw [(HV.out _ rfl).2 rfl, decide_eq_true hk0]; rfl
    · obtain rfl : k = L.length := by omega
      go_wp2_with fail
      go_ret
      refine ⟨⟨-1, rfl, ?_⟩, HB.out⟩
      rw [← prN_all, HG.out]; rfl

theorem vcontains_any (A : Option Addr) (c : Nat) (L : List Tx) (w : World) (hl : StrsAt w A L) (hn : L.length ≤ 9223372036854775807) (hs : ∀ t ∈ L, t.length ≤ 9223372036854775807) :
    Calls Tryd.prog 15 #[.slice A L.length c, .func (.func 16) #[] #[]] w fun e w' => e = .returned (.bool (!L.all isD)) ∧ Below w.heap.size w w' := by
  have HQ := Lib.hid (vindex_any A c L w hl hn hs)
  clear hl
  go_enter Tryd.func15, Tryd.ntmps15
  go_wp2_with fail
  (with_reducible refine HQ.out.mono ?_); rintro e w1 ⟨⟨r, rfl, hr⟩, hb1⟩
  have HB := Lib.hid hb1
  have HR := Lib.hid hr
  clear hb1 HQ hr
  go_wp2_with fail
  go_ret
  exact ⟨by rw [← HR.out]; rfl, HB.out⟩
theorem odd_any (A : Option Addr) (c : Nat) (L : List Tx) (w : World) (hl : StrsAt w A L) (hn : L.length ≤ 9223372036854775807) (hs : ∀ t ∈ L, t.length ≤ 9223372036854775807) :
    Calls Tryd.prog 14 #[.slice A L.length c] w fun e w' => e = .returned (.bool (!L.all isD)) ∧ Below w.heap.size w w' := by
  have HQ := Lib.hid (vcontains_any A c L w hl hn hs)
  clear hl
  go_enter Tryd.func14, Tryd.ntmps14
  go_wp2_with fail
  (with_reducible refine HQ.out.mono ?_); rintro e w1 ⟨rfl, hb1⟩
  have HB := Lib.hid hb1
  clear hb1 HQ
  go_wp2_with fail
  go_ret
  exact ⟨rfl, HB.out⟩
theorem odd_L {W : World} {A : Option Addr} {n c : Nat} {l : List Tx} (h : Lst W A n c l) (hs : TxB l) :
    Calls Tryd.prog 14 #[.slice A n c] W fun e w' => e = .returned (.bool (!l.all isD)) ∧ Below W.heap.size W w' := by
  obtain ⟨h1, rfl, h3, h4, h5⟩ := h
  exact odd_any A c l W h1 (by omega) hs

set_option maxHeartbeats 4000000 in
theorem sign_no1 (s m : ByteArray) (h i : Int) (w : World) (hh : h < 0) :
    Calls Tryd.prog 11 #[.string s, .int .i64 h, .int .i64 i, .string m] w fun e w' => e = .returned (.tuple #[.agg #[.int .i64 0, .slice none 0 0, .slice none 0 0], .int .i64 1]) ∧ Below w.heap.size w w' := by
  have h0 : decide (h < 0) = true := decide_eq_true hh
  go_enter Tryd.func11, Tryd.ntmps11
  go_wp2_with fail
  obtain ⟨n4, n6, n8⟩ := Reg.Blk.new3 (w := w) (C := #[.string s]) (T := 9) (C' := #[.int .i64 i]) (T' := 3) (C'' := #[.int .i64 0, .slice none 0 0, .slice none 0 0]) (T'' := 24) (Below.refl _ _)
  have hal : Below w.heap.size w (((w.alloc (.cells #[.string s] 9)).alloc (.cells #[.int .i64 i] 3)).alloc (.cells #[.int .i64 0, .slice none 0 0, .slice none 0 0] 24)) := (((Below.refl _ _).alloc (Nat.le_refl _) _).alloc (by simp) _).alloc (by simp; omega) _
  generalize (((w.alloc (.cells #[.string s] 9)).alloc (.cells #[.int .i64 i] 3)).alloc (.cells #[.int .i64 0, .slice none 0 0, .slice none 0 0] 24)) = W0 at *
  have HAL := Lib.hid hal
  have N6 := Lib.hid n6
  have N8 := Lib.hid n8
  clear hal n4 n6 n8
  obtain ⟨c6, f6, z6⟩ := N6.out.facts
  refine Reg.wp_region_seq (by kernel_rfl) (by kernel_rfl) ?_
  simp only
  iterate 16
    apply Reg.SeqOK.val
    · intro γ W hW K hK
      obtain ⟨hc, hf, _⟩ := bcell hW
      simp only [Act.put, List.setIfInBounds_toArray, List.set_cons_zero, List.set_cons_succ] at hK
      unfold Reg.Does
      go_simp
      try simp only [IntWalk.i64_left]
      first
        | exact hK _ (Below.refl _ _)
        | (trace_state; fail)
    simp only [Act.put, List.setIfInBounds_toArray, List.set_cons_zero, List.set_cons_succ, List.nil_append, List.cons_append, Nat.reduceAdd, Nat.zero_add]
  refine Reg.SeqOK.nil (by kernel_rfl) (fun γ W1 hW _ _ _ => ?_)
  have HW1 := Lib.hid hW
  have b8 := N8.out.keep HW1.out
  clear c6 f6 z6 hW
  obtain ⟨c8, f8, z8⟩ := b8.facts
  have HB8 := Lib.hid b8
  clear b8
  go_wp2_with fail
  have hu := (((Reg.Upd.refl HB8.out).set 0 (.int .i64 0)).set 1 (.slice none 0 0)).set 2 (.slice none 0 0)
  have kA : Reg.Keep (fun k => w.heap.size ≤ k) w W1 := keep_of (HAL.out.trans (HW1.out.mono HAL.out.size))
  have kC := Reg.updK (M := fun k => w.heap.size ≤ k) (g := w.heap.size + 1 + 1) (by omega) _ _ _ _ kA hu
  have hn8 : Reg.Blk (w.heap.size + 1 + 1) #[.int .i64 0, .slice none 0 0, .slice none 0 0] 24 _ := hu.at_
  clear c8 f8 z8
  obtain ⟨c8, f8, z8⟩ := hn8.facts
  generalize ((W1.setCell _ _).setCell _ _).setCell _ _ = Wn at *
  refine bodyPost_ret (v := .tuple #[.agg #[.int .i64 0, .slice none 0 0, .slice none 0 0], .int .i64 1]) (by simp [results, Tryd.results11, go_sem, c8]) rfl ⟨rfl, kC.below fun k hk => by omega⟩
set_option maxHeartbeats 4000000 in
theorem sign_no2 (s m : ByteArray) (h i : Int) (w : World) (hh : 8 < h) :
    Calls Tryd.prog 11 #[.string s, .int .i64 h, .int .i64 i, .string m] w fun e w' => e = .returned (.tuple #[.agg #[.int .i64 0, .slice none 0 0, .slice none 0 0], .int .i64 1]) ∧ Below w.heap.size w w' := by
  have h0 : decide (h < 0) = false := decide_eq_false (by omega)
  have h8 : decide (8 < h) = true := decide_eq_true hh
  go_enter Tryd.func11, Tryd.ntmps11
  go_wp2_with fail
  obtain ⟨n4, n6, n8⟩ := Reg.Blk.new3 (w := w) (C := #[.string s]) (T := 9) (C' := #[.int .i64 i]) (T' := 3) (C'' := #[.int .i64 0, .slice none 0 0, .slice none 0 0]) (T'' := 24) (Below.refl _ _)
  have hal : Below w.heap.size w (((w.alloc (.cells #[.string s] 9)).alloc (.cells #[.int .i64 i] 3)).alloc (.cells #[.int .i64 0, .slice none 0 0, .slice none 0 0] 24)) := (((Below.refl _ _).alloc (Nat.le_refl _) _).alloc (by simp) _).alloc (by simp; omega) _
  generalize (((w.alloc (.cells #[.string s] 9)).alloc (.cells #[.int .i64 i] 3)).alloc (.cells #[.int .i64 0, .slice none 0 0, .slice none 0 0] 24)) = W0 at *
  have HAL := Lib.hid hal
  have N6 := Lib.hid n6
  have N8 := Lib.hid n8
  clear hal n4 n6 n8
  obtain ⟨c6, f6, z6⟩ := N6.out.facts
  refine Reg.wp_region_seq (by kernel_rfl) (by kernel_rfl) ?_
  simp only
  iterate 16
    apply Reg.SeqOK.val
    · intro γ W hW K hK
      obtain ⟨hc, hf, _⟩ := bcell hW
      simp only [Act.put, List.setIfInBounds_toArray, List.set_cons_zero, List.set_cons_succ] at hK
      unfold Reg.Does
      go_simp
      try simp only [IntWalk.i64_left]
      first
        | exact hK _ (Below.refl _ _)
        | (trace_state; fail)
    simp only [Act.put, List.setIfInBounds_toArray, List.set_cons_zero, List.set_cons_succ, List.nil_append, List.cons_append, Nat.reduceAdd, Nat.zero_add]
  refine Reg.SeqOK.nil (by kernel_rfl) (fun γ W1 hW _ _ _ => ?_)
  have HW1 := Lib.hid hW
  have b8 := N8.out.keep HW1.out
  clear c6 f6 z6 hW
  obtain ⟨c8, f8, z8⟩ := b8.facts
  have HB8 := Lib.hid b8
  clear b8
  go_wp2_with fail
  have hu := (((Reg.Upd.refl HB8.out).set 0 (.int .i64 0)).set 1 (.slice none 0 0)).set 2 (.slice none 0 0)
  have kA : Reg.Keep (fun k => w.heap.size ≤ k) w W1 := keep_of (HAL.out.trans (HW1.out.mono HAL.out.size))
  have kC := Reg.updK (M := fun k => w.heap.size ≤ k) (g := w.heap.size + 1 + 1) (by omega) _ _ _ _ kA hu
  have hn8 : Reg.Blk (w.heap.size + 1 + 1) #[.int .i64 0, .slice none 0 0, .slice none 0 0] 24 _ := hu.at_
  clear c8 f8 z8
  obtain ⟨c8, f8, z8⟩ := hn8.facts
  generalize ((W1.setCell _ _).setCell _ _).setCell _ _ = Wn at *
  refine bodyPost_ret (v := .tuple #[.agg #[.int .i64 0, .slice none 0 0, .slice none 0 0], .int .i64 1]) (by simp [results, Tryd.results11, go_sem, c8]) rfl ⟨rfl, kC.below fun k hk => by omega⟩
set_option maxHeartbeats 4000000 in
theorem sign_no3 (s m : ByteArray) (h i : Int) (w : World) (h1 : 0 ≤ h) (h2 : h ≤ 8) (h3 : i < 0) :
    Calls Tryd.prog 11 #[.string s, .int .i64 h, .int .i64 i, .string m] w fun e w' => e = .returned (.tuple #[.agg #[.int .i64 0, .slice none 0 0, .slice none 0 0], .int .i64 1]) ∧ Below w.heap.size w w' := by
  have h0 : decide (h < 0) = false := decide_eq_false (by omega)
  have h8 : decide (8 < h) = false := decide_eq_false (by omega)
  have hi : decide (i < 0) = true := decide_eq_true h3
  go_enter Tryd.func11, Tryd.ntmps11
  go_wp2_with fail
  obtain ⟨n4, n6, n8⟩ := Reg.Blk.new3 (w := w) (C := #[.string s]) (T := 9) (C' := #[.int .i64 i]) (T' := 3) (C'' := #[.int .i64 0, .slice none 0 0, .slice none 0 0]) (T'' := 24) (Below.refl _ _)
  have hal : Below w.heap.size w (((w.alloc (.cells #[.string s] 9)).alloc (.cells #[.int .i64 i] 3)).alloc (.cells #[.int .i64 0, .slice none 0 0, .slice none 0 0] 24)) := (((Below.refl _ _).alloc (Nat.le_refl _) _).alloc (by simp) _).alloc (by simp; omega) _
  generalize (((w.alloc (.cells #[.string s] 9)).alloc (.cells #[.int .i64 i] 3)).alloc (.cells #[.int .i64 0, .slice none 0 0, .slice none 0 0] 24)) = W0 at *
  have HAL := Lib.hid hal
  have N6 := Lib.hid n6
  have N8 := Lib.hid n8
  clear hal n4 n6 n8
  obtain ⟨c6, f6, z6⟩ := N6.out.facts
  refine Reg.wp_region_seq (by kernel_rfl) (by kernel_rfl) ?_
  simp only
  iterate 16
    apply Reg.SeqOK.val
    · intro γ W hW K hK
      obtain ⟨hc, hf, _⟩ := bcell hW
      simp only [Act.put, List.setIfInBounds_toArray, List.set_cons_zero, List.set_cons_succ] at hK
      unfold Reg.Does
      go_simp
      try simp only [IntWalk.i64_left]
      first
        | exact hK _ (Below.refl _ _)
        | (trace_state; fail)
    simp only [Act.put, List.setIfInBounds_toArray, List.set_cons_zero, List.set_cons_succ, List.nil_append, List.cons_append, Nat.reduceAdd, Nat.zero_add]
  refine Reg.SeqOK.nil (by kernel_rfl) (fun γ W1 hW _ _ _ => ?_)
  have HW1 := Lib.hid hW
  have b8 := N8.out.keep HW1.out
  clear c6 f6 z6 hW
  obtain ⟨c8, f8, z8⟩ := b8.facts
  have HB8 := Lib.hid b8
  clear b8
  go_wp2_with fail
  have hu := (((Reg.Upd.refl HB8.out).set 0 (.int .i64 0)).set 1 (.slice none 0 0)).set 2 (.slice none 0 0)
  have kA : Reg.Keep (fun k => w.heap.size ≤ k) w W1 := keep_of (HAL.out.trans (HW1.out.mono HAL.out.size))
  have kC := Reg.updK (M := fun k => w.heap.size ≤ k) (g := w.heap.size + 1 + 1) (by omega) _ _ _ _ kA hu
  have hn8 : Reg.Blk (w.heap.size + 1 + 1) #[.int .i64 0, .slice none 0 0, .slice none 0 0] 24 _ := hu.at_
  clear c8 f8 z8
  obtain ⟨c8, f8, z8⟩ := hn8.facts
  generalize ((W1.setCell _ _).setCell _ _).setCell _ _ = Wn at *
  refine bodyPost_ret (v := .tuple #[.agg #[.int .i64 0, .slice none 0 0, .slice none 0 0], .int .i64 1]) (by simp [results, Tryd.results11, go_sem, c8]) rfl ⟨rfl, kC.below fun k hk => by omega⟩
set_option maxHeartbeats 4000000 in
theorem sign_no4 (s m : ByteArray) (h : Nat) (i : Int) (w : World) (hh : h ≤ 8) (h3 : 0 ≤ i) (h4 : ((2 ^ h : Nat) : Int) ≤ i) :
    Calls Tryd.prog 11 #[.string s, .int .i64 h, .int .i64 i, .string m] w fun e w' => e = .returned (.tuple #[.agg #[.int .i64 0, .slice none 0 0, .slice none 0 0], .int .i64 1]) ∧ Below w.heap.size w w' := by
  have h0 : decide ((h : Int) < 0) = false := decide_eq_false (by omega)
  have h8 : decide ((8 : Int) < (h : Int)) = false := decide_eq_false (by omega)
  have hi : decide (i < 0) = false := decide_eq_false (by omega)
  have hshl := wrap_pow h hh
  have hin : decide (((2 ^ h : Nat) : Int) ≤ i) = true := decide_eq_true h4
  generalize 2 ^ h = N at *
  clear h3 h4
  go_enter Tryd.func11, Tryd.ntmps11
  go_wp2_with fail
  obtain ⟨n4, n6, n8⟩ := Reg.Blk.new3 (w := w) (C := #[.string s]) (T := 9) (C' := #[.int .i64 i]) (T' := 3) (C'' := #[.int .i64 0, .slice none 0 0, .slice none 0 0]) (T'' := 24) (Below.refl _ _)
  have hal : Below w.heap.size w (((w.alloc (.cells #[.string s] 9)).alloc (.cells #[.int .i64 i] 3)).alloc (.cells #[.int .i64 0, .slice none 0 0, .slice none 0 0] 24)) := (((Below.refl _ _).alloc (Nat.le_refl _) _).alloc (by simp) _).alloc (by simp; omega) _
  generalize (((w.alloc (.cells #[.string s] 9)).alloc (.cells #[.int .i64 i] 3)).alloc (.cells #[.int .i64 0, .slice none 0 0, .slice none 0 0] 24)) = W0 at *
  have HAL := Lib.hid hal
  have N6 := Lib.hid n6
  have N8 := Lib.hid n8
  clear hal n4 n6 n8
  obtain ⟨c6, f6, z6⟩ := N6.out.facts
  refine Reg.wp_region_seq (by kernel_rfl) (by kernel_rfl) ?_
  simp only
  iterate 13
    apply Reg.SeqOK.val
    · intro γ W hW K hK
      obtain ⟨hc, hf, _⟩ := bcell hW
      simp only [Act.put, List.setIfInBounds_toArray, List.set_cons_zero, List.set_cons_succ] at hK
      unfold Reg.Does
      go_simp
      try simp only [IntWalk.i64_left]
      first
        | exact hK _ (Below.refl _ _)
        | (trace_state; fail)
    simp only [Act.put, List.setIfInBounds_toArray, List.set_cons_zero, List.set_cons_succ, List.nil_append, List.cons_append, Nat.reduceAdd, Nat.zero_add]
  refine Reg.SeqOK.val (.int .i64 (N : Int)) (fun γ W hW K hK => ?_) ?_
  · simp only [Act.put, List.setIfInBounds_toArray, List.set_cons_zero, List.set_cons_succ] at hK
    unfold Reg.Does
    go_simp
    try simp only [IntWalk.i64_left]
    try simp only [hshl]
    exact hK _ (Below.refl _ _)
  simp only [Act.put, List.setIfInBounds_toArray, List.set_cons_zero, List.set_cons_succ, List.nil_append, List.cons_append, Nat.reduceAdd, Nat.zero_add]
  iterate 2
    apply Reg.SeqOK.val
    · intro γ W hW K hK
      obtain ⟨hc, hf, _⟩ := bcell hW
      simp only [Act.put, List.setIfInBounds_toArray, List.set_cons_zero, List.set_cons_succ] at hK
      unfold Reg.Does
      go_simp
      try simp only [IntWalk.i64_left]
      first
        | exact hK _ (Below.refl _ _)
        | (trace_state; fail)
    simp only [Act.put, List.setIfInBounds_toArray, List.set_cons_zero, List.set_cons_succ, List.nil_append, List.cons_append, Nat.reduceAdd, Nat.zero_add]
  refine Reg.SeqOK.nil (by kernel_rfl) (fun γ W1 hW _ _ _ => ?_)
  have HW1 := Lib.hid hW
  have b8 := N8.out.keep HW1.out
  clear c6 f6 z6 hW
  obtain ⟨c8, f8, z8⟩ := b8.facts
  have HB8 := Lib.hid b8
  clear b8
  go_wp2_with fail
  have hu := (((Reg.Upd.refl HB8.out).set 0 (.int .i64 0)).set 1 (.slice none 0 0)).set 2 (.slice none 0 0)
  have kA : Reg.Keep (fun k => w.heap.size ≤ k) w W1 := keep_of (HAL.out.trans (HW1.out.mono HAL.out.size))
  have kC := Reg.updK (M := fun k => w.heap.size ≤ k) (g := w.heap.size + 1 + 1) (by omega) _ _ _ _ kA hu
  have hn8 : Reg.Blk (w.heap.size + 1 + 1) #[.int .i64 0, .slice none 0 0, .slice none 0 0] 24 _ := hu.at_
  clear c8 f8 z8
  obtain ⟨c8, f8, z8⟩ := hn8.facts
  generalize ((W1.setCell _ _).setCell _ _).setCell _ _ = Wn at *
  refine bodyPost_ret (v := .tuple #[.agg #[.int .i64 0, .slice none 0 0, .slice none 0 0], .int .i64 1]) (by simp [results, Tryd.results11, go_sem, c8]) rfl ⟨rfl, kC.below fun k hk => by omega⟩

end S
end Go.Proofs.YthdjdlndfkemiaaDoor

/- Seals: 'Verify' where it fails ahead of the digits. Printed by mkWh.py. -/
namespace Go.Proofs.YthdjdlndfkemiaaDoor
open Go.RowKit
namespace S

set_option maxHeartbeats 4000000 in
theorem ver_no1 (pub m : ByteArray) (i : Int) (A B : Option Addr) (n c k d : Nat) (sig p : List Tx) (w : World) (h1 : Lst w A n c sig) (h2 : Lst w B k d p) (t1 : TxB sig) (t2 : TxB p) (hn : n ≠ 18) :
    Calls Tryd.prog 8 #[.string pub, .string m, .agg #[.int .i64 i, .slice A n c, .slice B k d]] w fun e w' => e = .returned (.bool false) ∧ Below w.heap.size w w' := by
  have e18 : ((n : Int) == 18) = false := by rw [beq_eq_false_iff_ne]; omega
  have e19 : ((n : Int) != 18) = true := by rw [bne_iff_ne]; omega
  have e17 : ¬ (n : Int) = 18 := by omega
  have kb := Reg.Blk.new w #[.int .i64 i, .slice A n c, .slice B k d] 24
  have hal : Below w.heap.size w (w.alloc (.cells #[.int .i64 i, .slice A n c, .slice B k d] 24)) := (Below.refl _ _).alloc (Nat.le_refl _) _
  have O1 := Lib.hid (fun W (hb : Below w.heap.size w W) => odd_L (h1.below hb) t1)
  have O2 := Lib.hid (fun W (hb : Below w.heap.size w W) => odd_L (h2.below hb) t2)
  clear h1 h2 t1 t2
  obtain ⟨kc, kf, kz⟩ := kb.facts
  go_enter Tryd.func8, Tryd.ntmps8
  go_wp2_with fail
  have HAL := Lib.hid hal
  have KB := Lib.hid kb
  generalize w.alloc (.cells #[.int .i64 i, .slice A n c, .slice B k d] 24) = W0 at *
  have hgb : Hid (∀ W, Below W0.heap.size W0 W → Below w.heap.size w W) := fun W hb => HAL.out.trans (hb.mono HAL.out.size)
  clear hal kb
  refine Reg.wp_region_seq (by kernel_rfl) (by kernel_rfl) ?_
  simp only
  iterate 32
    apply Reg.SeqOK.val
    · intro γ W hW K hK
      obtain ⟨hc, hf, _⟩ := bcell hW
      simp only [Act.put, List.setIfInBounds_toArray, List.set_cons_zero, List.set_cons_succ] at hK
      unfold Reg.Does
      go_simp
      try simp only [IntWalk.i64_left]
      first
        | exact hK _ (Below.refl _ _)
        | (go_at_call 14; (with_reducible refine (O1.out _ (hgb.out _ hW)).mono ?_); rintro e w' ⟨rfl, hb⟩; exact hK _ hb)
        | (go_at_call 14; (with_reducible refine (O2.out _ (hgb.out _ hW)).mono ?_); rintro e w' ⟨rfl, hb⟩; exact hK _ hb)
        | (trace_state; fail)
    simp only [Act.put, List.setIfInBounds_toArray, List.set_cons_zero, List.set_cons_succ, List.nil_append, List.cons_append, Nat.reduceAdd, Nat.zero_add]
  refine Reg.SeqOK.nil (by kernel_rfl) (fun γ W1 hW _ _ _ => ?_)
  have HW1 := Lib.hid (hgb.out W1 hW)
  clear hW
  go_wp2_with fail
  go_ret
  exact ⟨rfl, HW1.out⟩
set_option maxHeartbeats 4000000 in
theorem ver_no2 (pub m : ByteArray) (i : Int) (A B : Option Addr) (c k d : Nat) (sig p : List Tx) (w : World) (h1 : Lst w A 18 c sig) (h2 : Lst w B k d p) (t1 : TxB sig) (t2 : TxB p) (hk : 8 < k) :
    Calls Tryd.prog 8 #[.string pub, .string m, .agg #[.int .i64 i, .slice A 18 c, .slice B k d]] w fun e w' => e = .returned (.bool false) ∧ Below w.heap.size w w' := by
  have e8 : decide ((8 : Int) < (k : Int)) = true := decide_eq_true (by omega)
  have kb := Reg.Blk.new w #[.int .i64 i, .slice A 18 c, .slice B k d] 24
  have hal : Below w.heap.size w (w.alloc (.cells #[.int .i64 i, .slice A 18 c, .slice B k d] 24)) := (Below.refl _ _).alloc (Nat.le_refl _) _
  have O1 := Lib.hid (fun W (hb : Below w.heap.size w W) => odd_L (h1.below hb) t1)
  have O2 := Lib.hid (fun W (hb : Below w.heap.size w W) => odd_L (h2.below hb) t2)
  clear h1 h2 t1 t2
  obtain ⟨kc, kf, kz⟩ := kb.facts
  go_enter Tryd.func8, Tryd.ntmps8
  go_wp2_with fail
  have HAL := Lib.hid hal
  have KB := Lib.hid kb
  generalize w.alloc (.cells #[.int .i64 i, .slice A 18 c, .slice B k d] 24) = W0 at *
  have hgb : Hid (∀ W, Below W0.heap.size W0 W → Below w.heap.size w W) := fun W hb => HAL.out.trans (hb.mono HAL.out.size)
  clear hal kb
  refine Reg.wp_region_seq (by kernel_rfl) (by kernel_rfl) ?_
  simp only
  iterate 32
    apply Reg.SeqOK.val
    · intro γ W hW K hK
      obtain ⟨hc, hf, _⟩ := bcell hW
      simp only [Act.put, List.setIfInBounds_toArray, List.set_cons_zero, List.set_cons_succ] at hK
      unfold Reg.Does
      go_simp
      try simp only [IntWalk.i64_left]
      first
        | exact hK _ (Below.refl _ _)
        | (go_at_call 14; (with_reducible refine (O1.out _ (hgb.out _ hW)).mono ?_); rintro e w' ⟨rfl, hb⟩; exact hK _ hb)
        | (go_at_call 14; (with_reducible refine (O2.out _ (hgb.out _ hW)).mono ?_); rintro e w' ⟨rfl, hb⟩; exact hK _ hb)
        | (trace_state; fail)
    simp only [Act.put, List.setIfInBounds_toArray, List.set_cons_zero, List.set_cons_succ, List.nil_append, List.cons_append, Nat.reduceAdd, Nat.zero_add]
  refine Reg.SeqOK.nil (by kernel_rfl) (fun γ W1 hW _ _ _ => ?_)
  have HW1 := Lib.hid (hgb.out W1 hW)
  clear hW
  go_wp2_with fail
  go_ret
  exact ⟨rfl, HW1.out⟩
set_option maxHeartbeats 4000000 in
theorem ver_no3 (pub m : ByteArray) (i : Int) (A B : Option Addr) (c k d : Nat) (sig p : List Tx) (w : World) (h1 : Lst w A 18 c sig) (h2 : Lst w B k d p) (t1 : TxB sig) (t2 : TxB p) (hk : k ≤ 8) (ha1 : sig.all isD = false) :
    Calls Tryd.prog 8 #[.string pub, .string m, .agg #[.int .i64 i, .slice A 18 c, .slice B k d]] w fun e w' => e = .returned (.bool false) ∧ Below w.heap.size w w' := by
  have e8 : decide ((8 : Int) < (k : Int)) = false := decide_eq_false (by omega)
  have kb := Reg.Blk.new w #[.int .i64 i, .slice A 18 c, .slice B k d] 24
  have hal : Below w.heap.size w (w.alloc (.cells #[.int .i64 i, .slice A 18 c, .slice B k d] 24)) := (Below.refl _ _).alloc (Nat.le_refl _) _
  have O1 := Lib.hid (fun W (hb : Below w.heap.size w W) => odd_L (h1.below hb) t1)
  have O2 := Lib.hid (fun W (hb : Below w.heap.size w W) => odd_L (h2.below hb) t2)
  clear h1 h2 t1 t2
  rw [ha1, Bool.not_false] at O1
  obtain ⟨kc, kf, kz⟩ := kb.facts
  go_enter Tryd.func8, Tryd.ntmps8
  go_wp2_with fail
  have HAL := Lib.hid hal
  have KB := Lib.hid kb
  generalize w.alloc (.cells #[.int .i64 i, .slice A 18 c, .slice B k d] 24) = W0 at *
  have hgb : Hid (∀ W, Below W0.heap.size W0 W → Below w.heap.size w W) := fun W hb => HAL.out.trans (hb.mono HAL.out.size)
  clear hal kb
  refine Reg.wp_region_seq (by kernel_rfl) (by kernel_rfl) ?_
  simp only
  iterate 32
    apply Reg.SeqOK.val
    · intro γ W hW K hK
      obtain ⟨hc, hf, _⟩ := bcell hW
      simp only [Act.put, List.setIfInBounds_toArray, List.set_cons_zero, List.set_cons_succ] at hK
      unfold Reg.Does
      go_simp
      try simp only [IntWalk.i64_left]
      first
        | exact hK _ (Below.refl _ _)
        | (go_at_call 14; (with_reducible refine (O1.out _ (hgb.out _ hW)).mono ?_); rintro e w' ⟨rfl, hb⟩; exact hK _ hb)
        | (go_at_call 14; (with_reducible refine (O2.out _ (hgb.out _ hW)).mono ?_); rintro e w' ⟨rfl, hb⟩; exact hK _ hb)
        | (trace_state; fail)
    simp only [Act.put, List.setIfInBounds_toArray, List.set_cons_zero, List.set_cons_succ, List.nil_append, List.cons_append, Nat.reduceAdd, Nat.zero_add]
  refine Reg.SeqOK.nil (by kernel_rfl) (fun γ W1 hW _ _ _ => ?_)
  have HW1 := Lib.hid (hgb.out W1 hW)
  clear hW
  go_wp2_with fail
  go_ret
  exact ⟨rfl, HW1.out⟩
set_option maxHeartbeats 4000000 in
theorem ver_no4 (pub m : ByteArray) (i : Int) (A B : Option Addr) (c k d : Nat) (sig p : List Tx) (w : World) (h1 : Lst w A 18 c sig) (h2 : Lst w B k d p) (t1 : TxB sig) (t2 : TxB p) (hk : k ≤ 8) (ha1 : sig.all isD = true) (ha2 : p.all isD = false) :
    Calls Tryd.prog 8 #[.string pub, .string m, .agg #[.int .i64 i, .slice A 18 c, .slice B k d]] w fun e w' => e = .returned (.bool false) ∧ Below w.heap.size w w' := by
  have e8 : decide ((8 : Int) < (k : Int)) = false := decide_eq_false (by omega)
  have kb := Reg.Blk.new w #[.int .i64 i, .slice A 18 c, .slice B k d] 24
  have hal : Below w.heap.size w (w.alloc (.cells #[.int .i64 i, .slice A 18 c, .slice B k d] 24)) := (Below.refl _ _).alloc (Nat.le_refl _) _
  have O1 := Lib.hid (fun W (hb : Below w.heap.size w W) => odd_L (h1.below hb) t1)
  have O2 := Lib.hid (fun W (hb : Below w.heap.size w W) => odd_L (h2.below hb) t2)
  clear h1 h2 t1 t2
  rw [ha1, Bool.not_true] at O1
  rw [ha2, Bool.not_false] at O2
  obtain ⟨kc, kf, kz⟩ := kb.facts
  go_enter Tryd.func8, Tryd.ntmps8
  go_wp2_with fail
  have HAL := Lib.hid hal
  have KB := Lib.hid kb
  generalize w.alloc (.cells #[.int .i64 i, .slice A 18 c, .slice B k d] 24) = W0 at *
  have hgb : Hid (∀ W, Below W0.heap.size W0 W → Below w.heap.size w W) := fun W hb => HAL.out.trans (hb.mono HAL.out.size)
  clear hal kb
  refine Reg.wp_region_seq (by kernel_rfl) (by kernel_rfl) ?_
  simp only
  iterate 32
    apply Reg.SeqOK.val
    · intro γ W hW K hK
      obtain ⟨hc, hf, _⟩ := bcell hW
      simp only [Act.put, List.setIfInBounds_toArray, List.set_cons_zero, List.set_cons_succ] at hK
      unfold Reg.Does
      go_simp
      try simp only [IntWalk.i64_left]
      first
        | exact hK _ (Below.refl _ _)
        | (go_at_call 14; (with_reducible refine (O1.out _ (hgb.out _ hW)).mono ?_); rintro e w' ⟨rfl, hb⟩; exact hK _ hb)
        | (go_at_call 14; (with_reducible refine (O2.out _ (hgb.out _ hW)).mono ?_); rintro e w' ⟨rfl, hb⟩; exact hK _ hb)
        | (trace_state; fail)
    simp only [Act.put, List.setIfInBounds_toArray, List.set_cons_zero, List.set_cons_succ, List.nil_append, List.cons_append, Nat.reduceAdd, Nat.zero_add]
  refine Reg.SeqOK.nil (by kernel_rfl) (fun γ W1 hW _ _ _ => ?_)
  have HW1 := Lib.hid (hgb.out W1 hW)
  clear hW
  go_wp2_with fail
  go_ret
  exact ⟨rfl, HW1.out⟩
set_option maxHeartbeats 4000000 in
theorem ver_no5 (pub m : ByteArray) (i : Int) (A B : Option Addr) (c k d : Nat) (sig p : List Tx) (w : World) (h1 : Lst w A 18 c sig) (h2 : Lst w B k d p) (t1 : TxB sig) (t2 : TxB p) (hk : k ≤ 8) (ha1 : sig.all isD = true) (ha2 : p.all isD = true) (hi : i < 0) :
    Calls Tryd.prog 8 #[.string pub, .string m, .agg #[.int .i64 i, .slice A 18 c, .slice B k d]] w fun e w' => e = .returned (.bool false) ∧ Below w.heap.size w w' := by
  have e8 : decide ((8 : Int) < (k : Int)) = false := decide_eq_false (by omega)
  have ei : decide (i < 0) = true := decide_eq_true hi
  have kb := Reg.Blk.new w #[.int .i64 i, .slice A 18 c, .slice B k d] 24
  have hal : Below w.heap.size w (w.alloc (.cells #[.int .i64 i, .slice A 18 c, .slice B k d] 24)) := (Below.refl _ _).alloc (Nat.le_refl _) _
  have O1 := Lib.hid (fun W (hb : Below w.heap.size w W) => odd_L (h1.below hb) t1)
  have O2 := Lib.hid (fun W (hb : Below w.heap.size w W) => odd_L (h2.below hb) t2)
  clear h1 h2 t1 t2
  rw [ha1, Bool.not_true] at O1
  rw [ha2, Bool.not_true] at O2
  obtain ⟨kc, kf, kz⟩ := kb.facts
  go_enter Tryd.func8, Tryd.ntmps8
  go_wp2_with fail
  have HAL := Lib.hid hal
  have KB := Lib.hid kb
  generalize w.alloc (.cells #[.int .i64 i, .slice A 18 c, .slice B k d] 24) = W0 at *
  have hgb : Hid (∀ W, Below W0.heap.size W0 W → Below w.heap.size w W) := fun W hb => HAL.out.trans (hb.mono HAL.out.size)
  clear hal kb
  refine Reg.wp_region_seq (by kernel_rfl) (by kernel_rfl) ?_
  simp only
  iterate 32
    apply Reg.SeqOK.val
    · intro γ W hW K hK
      obtain ⟨hc, hf, _⟩ := bcell hW
      simp only [Act.put, List.setIfInBounds_toArray, List.set_cons_zero, List.set_cons_succ] at hK
      unfold Reg.Does
      go_simp
      try simp only [IntWalk.i64_left]
      first
        | exact hK _ (Below.refl _ _)
        | (go_at_call 14; (with_reducible refine (O1.out _ (hgb.out _ hW)).mono ?_); rintro e w' ⟨rfl, hb⟩; exact hK _ hb)
        | (go_at_call 14; (with_reducible refine (O2.out _ (hgb.out _ hW)).mono ?_); rintro e w' ⟨rfl, hb⟩; exact hK _ hb)
        | (trace_state; fail)
    simp only [Act.put, List.setIfInBounds_toArray, List.set_cons_zero, List.set_cons_succ, List.nil_append, List.cons_append, Nat.reduceAdd, Nat.zero_add]
  refine Reg.SeqOK.nil (by kernel_rfl) (fun γ W1 hW _ _ _ => ?_)
  have HW1 := Lib.hid (hgb.out W1 hW)
  clear hW
  go_wp2_with fail
  go_ret
  exact ⟨rfl, HW1.out⟩
set_option maxHeartbeats 4000000 in
theorem ver_no6 (pub m : ByteArray) (i : Int) (A B : Option Addr) (c k d : Nat) (sig p : List Tx) (w : World) (h1 : Lst w A 18 c sig) (h2 : Lst w B k d p) (t1 : TxB sig) (t2 : TxB p) (hk : k ≤ 8) (ha1 : sig.all isD = true) (ha2 : p.all isD = true) (hi : 0 ≤ i) (hi2 : ((2 ^ k : Nat) : Int) ≤ i) :
    Calls Tryd.prog 8 #[.string pub, .string m, .agg #[.int .i64 i, .slice A 18 c, .slice B k d]] w fun e w' => e = .returned (.bool false) ∧ Below w.heap.size w w' := by
  have e8 : decide ((8 : Int) < (k : Int)) = false := decide_eq_false (by omega)
  have ei : decide (i < 0) = false := decide_eq_false (by omega)
  have hshl := wrap_pow k hk
  have hin : decide (((2 ^ k : Nat) : Int) ≤ i) = true := decide_eq_true hi2
  generalize 2 ^ k = N at *
  clear hi hi2
  have kb := Reg.Blk.new w #[.int .i64 i, .slice A 18 c, .slice B k d] 24
  have hal : Below w.heap.size w (w.alloc (.cells #[.int .i64 i, .slice A 18 c, .slice B k d] 24)) := (Below.refl _ _).alloc (Nat.le_refl _) _
  have O1 := Lib.hid (fun W (hb : Below w.heap.size w W) => odd_L (h1.below hb) t1)
  have O2 := Lib.hid (fun W (hb : Below w.heap.size w W) => odd_L (h2.below hb) t2)
  clear h1 h2 t1 t2
  rw [ha1, Bool.not_true] at O1
  rw [ha2, Bool.not_true] at O2
  obtain ⟨kc, kf, kz⟩ := kb.facts
  go_enter Tryd.func8, Tryd.ntmps8
  go_wp2_with fail
  have HAL := Lib.hid hal
  have KB := Lib.hid kb
  generalize w.alloc (.cells #[.int .i64 i, .slice A 18 c, .slice B k d] 24) = W0 at *
  have hgb : Hid (∀ W, Below W0.heap.size W0 W → Below w.heap.size w W) := fun W hb => HAL.out.trans (hb.mono HAL.out.size)
  clear hal kb
  refine Reg.wp_region_seq (by kernel_rfl) (by kernel_rfl) ?_
  simp only
  iterate 29
    apply Reg.SeqOK.val
    · intro γ W hW K hK
      obtain ⟨hc, hf, _⟩ := bcell hW
      simp only [Act.put, List.setIfInBounds_toArray, List.set_cons_zero, List.set_cons_succ] at hK
      unfold Reg.Does
      go_simp
      try simp only [IntWalk.i64_left]
      first
        | exact hK _ (Below.refl _ _)
        | (go_at_call 14; (with_reducible refine (O1.out _ (hgb.out _ hW)).mono ?_); rintro e w' ⟨rfl, hb⟩; exact hK _ hb)
        | (go_at_call 14; (with_reducible refine (O2.out _ (hgb.out _ hW)).mono ?_); rintro e w' ⟨rfl, hb⟩; exact hK _ hb)
        | (trace_state; fail)
    simp only [Act.put, List.setIfInBounds_toArray, List.set_cons_zero, List.set_cons_succ, List.nil_append, List.cons_append, Nat.reduceAdd, Nat.zero_add]
  refine Reg.SeqOK.val (.int .i64 (N : Int)) (fun γ W hW K hK => ?_) ?_
  · simp only [Act.put, List.setIfInBounds_toArray, List.set_cons_zero, List.set_cons_succ] at hK
    unfold Reg.Does
    go_simp
    try simp only [IntWalk.i64_left]
    try simp only [hshl]
    exact hK _ (Below.refl _ _)
  simp only [Act.put, List.setIfInBounds_toArray, List.set_cons_zero, List.set_cons_succ, List.nil_append, List.cons_append, Nat.reduceAdd, Nat.zero_add]
  iterate 2
    apply Reg.SeqOK.val
    · intro γ W hW K hK
      obtain ⟨hc, hf, _⟩ := bcell hW
      simp only [Act.put, List.setIfInBounds_toArray, List.set_cons_zero, List.set_cons_succ] at hK
      unfold Reg.Does
      go_simp
      try simp only [IntWalk.i64_left]
      first
        | exact hK _ (Below.refl _ _)
        | (trace_state; fail)
    simp only [Act.put, List.setIfInBounds_toArray, List.set_cons_zero, List.set_cons_succ, List.nil_append, List.cons_append, Nat.reduceAdd, Nat.zero_add]
  refine Reg.SeqOK.nil (by kernel_rfl) (fun γ W1 hW _ _ _ => ?_)
  have HW1 := Lib.hid (hgb.out W1 hW)
  clear hW
  go_wp2_with fail
  go_ret
  exact ⟨rfl, HW1.out⟩

end S
end Go.Proofs.YthdjdlndfkemiaaDoor
