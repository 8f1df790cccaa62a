/- Lines: 'Nearest'. -/
import Derived.Test.YtjeapimjgojpoaaIh
set_option linter.unusedSimpArgs false
set_option linter.unusedVariables false
set_option maxRecDepth 100000
namespace Go.Proofs.Ytjeapimjgojpoaa
open Go.RowKit
namespace G

theorem bestN_B {l : List P2} {px py : Int} (hv : validL l = true) (hon : onB px py = true) : ∀ k, k + 1 ≤ l.length → (bestN l px py k).B
  | 0, _ => spt0_B
  | k + 1, h => keepS_B (bestN_B hv hon k (by omega)) (spot_B hv hon h)
theorem locS_B (l : List P2) (px py : Int) : (locS l px py).B := by
  unfold locS
  split
  · rename_i h
    simp only [Bool.and_eq_true] at h
    have := valid_len h.1
    exact bestN_B h.1 h.2 _ (by omega)
  · exact spt0_B
/-- The nearest of the first lines, and its place. -/
def nearN (L : List Ln) (px py : Int) : Nat → Nat × Spt
  | 0 => (0, spt0)
  | k + 1 => if (decide (k = 0) || (locS (ln L k).l px py).less (nearN L px py k).2) = true then (k, locS (ln L k).l px py) else nearN L px py k
theorem nearN_B (L : List Ln) (px py : Int) : ∀ k, (nearN L px py k).2.B
  | 0 => spt0_B
  | k + 1 => by
    unfold nearN
    split
    · exact locS_B _ _ _
    · exact nearN_B L px py k
def nearR (L : List Ln) (px py : Int) : Int × Int :=
  if 400 < L.length then (0, 2) else if (decide (L.length = 0) || !onB px py || !goodL L) = true then (0, 1) else (((nearN L px py L.length).1 : Int), 0)

set_option maxHeartbeats 4000000 in
theorem near_round (A : Option Addr) (c : Nat) (L : List Ln) (px py : Int) (w : World) (hl : LinesAt w A L) (hn : L.length ≤ 400) (h0 : 0 < L.length) (hon : onB px py = true) (hg : goodL L = true) :
    Calls Try.prog 12 #[.slice A L.length c, .agg #[.int .i64 px, .int .i64 py]] w fun e w' => e = .returned (.tuple #[.int .i64 ((nearN L px py L.length).1 : Int), .int .i64 0]) ∧ Below w.heap.size w w' := by
  have HL := Lib.hid hl
  have HON := Lib.hid (fun W => on_any px py W)
  rw [hon] at HON
  have HC := Lib.hid (fun W (h : LinesAt W A L) => contains_any A c L W h (by omega))
  rw [hg] at HC
  have HNX := Lib.hid (And.intro hn h0)
  obtain ⟨n, hnL⟩ : ∃ n, n = L.length := ⟨_, rfl⟩
  rw [← hnL] at HC hn h0 ⊢
  have HNL := Lib.hid hnL
  have hn' : ¬ (400 : Int) < (n : Int) := by omega
  have hd1 : ((n : Int) == 0) = false := by rw [beq_eq_false_iff_ne]; omega
  clear hl hon hg hn h0 hnL
  go_enter Try.func12, Try.ntmps12
  go_wp2_with fail
  (with_reducible refine (HON.out _).mono ?_); rintro e w1 ⟨rfl, hb1⟩
  have HB := Lib.hid (((Below.refl w.heap.size w).alloc (Nat.le_refl _) _).trans (hb1.mono (by simp)))
  have k3 := Reg.Blk.new1 hb1
  have HK3 := Lib.hid k3
  clear hb1 HON k3
  go_wp2_with fail
  (with_reducible refine (HC.out _ (HL.out.below HB.out)).mono ?_); rintro e w2 ⟨rfl, hb2⟩
  have hg7 : w.heap.size < w2.heap.size := Nat.lt_of_lt_of_le HK3.out.lt hb2.size
  have HB2 := Lib.hid ((HB.out.trans (hb2.mono HB.out.size)).alloc (Nat.le_trans HB.out.size hb2.size) (.cells #[.int .i64 0, .int .i64 0, .int .i64 0, .int .i64 0, .int .i64 0, .int .i64 0] 34))
  replace HK3 := Lib.hid ((HK3.out.keep hb2).alloc (.cells #[.int .i64 0, .int .i64 0, .int .i64 0, .int .i64 0, .int .i64 0, .int .i64 0] 34))
  have HK7 := Lib.hid (Reg.Blk.new w2 #[.int .i64 0, .int .i64 0, .int .i64 0, .int .i64 0, .int .i64 0, .int .i64 0] 34)
  clear hb2 HB HC
  go_wp2_with fail
  generalize w2.heap.size = g at *
  have H0 := Lib.hid (And.intro HB2.out (And.intro HK3.out HK7.out))
  generalize w2.alloc (.cells #[.int .i64 0, .int .i64 0, .int .i64 0, .int .i64 0, .int .i64 0, .int .i64 0] 34) = w3 at *
  clear HB2 HK3 HK7
  go_loopw [6, 32] (fun b i wr => ∃ k : Nat, k ≤ n ∧ i = .int .i64 k ∧ b = .int .i64 ((nearN L px py k).1 : Nat) ∧ Below w.heap.size w wr ∧ Reg.Blk w.heap.size #[.int .i64 px, .int .i64 py] 24 wr ∧ Reg.Blk g (nearN L px py k).2.cells 34 wr) (fun _ i _ => n - (intOf i).toNat)
  case atStart => exact ⟨0, Nat.zero_le _, rfl, rfl, H0.out.1, H0.out.2.1, H0.out.2.2⟩
  case round =>
    obtain ⟨k, hk, rfl, rfl, hbw, hk3, hk7⟩ := hrel
    have HB := Lib.hid hbw
    have HK3 := Lib.hid hk3
    have HK7 := Lib.hid hk7
    clear hbw hk3 hk7 H0
    by_cases hlt : k < n
    · obtain ⟨b, off, hA, hb, c0, hl, hln⟩ := (HL.out.below HB.out) k (by rw [← HNL.out]; exact hlt)
      subst hA
      obtain ⟨c3, f3, z3⟩ := HK3.out.facts
      have hki : (k : Int) < (n : Int) := by omega
      have hk0 : (0 : Int) ≤ (k : Int) := by omega
      have HQ := Lib.hid (locate_any (ln L k).A (ln L k).c (ln L k).l px py wr hl hln)
      have hsB := locS_B (ln L k).l px py
      have hnB := nearN_B L px py k
      have HS : Hid (nearN L px py (k + 1) = if (decide (k = 0) || (locS (ln L k).l px py).less (nearN L px py k).2) = true then (k, locS (ln L k).l px py) else nearN L px py k) := by unfold Hid; rfl
      clear hl hln
      generalize (ln L k).A = A' at *
      generalize (ln L k).c = c' at *
      generalize (ln L k).l = l' at *
      generalize locE l' px py = er at *
      generalize locS l' px py = sp at *
      generalize nearN L px py k = nr at *
      obtain ⟨bi, nr⟩ := nr
      obtain ⟨s1, s2, s3, s4, s5, s6⟩ := sp
      obtain ⟨n1, n2, n3, n4, n5, n6⟩ := nr
      simp only [Spt.cells] at HQ HK7 hsB hnB ⊢
      have HC := Lib.hid (fun W => compare_any s5 s6 n5 n6 W hsB.1 hsB.2 hnB.1 hnB.2)
      unfold Spt.less at HS
      simp only at HS
      clear hsB hnB
      go_wp2_with fail
      (with_reducible refine HQ.out.mono ?_); rintro e w4 ⟨rfl, hb4⟩
      have hgw : g < w4.heap.size := Nat.lt_of_lt_of_le HK7.out.lt hb4.size
      have hww : w.heap.size < w4.heap.size := Nat.lt_of_lt_of_le HK3.out.lt hb4.size
      have HB4 := Lib.hid ((HB.out.trans (hb4.mono HB.out.size)).alloc (Nat.le_trans HB.out.size hb4.size) (.cells #[.int .i64 s1, .int .i64 s2, .int .i64 s3, .int .i64 s4, .int .i64 s5, .int .i64 s6] 34))
      replace HK3 := Lib.hid ((HK3.out.keep hb4).alloc (.cells #[.int .i64 s1, .int .i64 s2, .int .i64 s3, .int .i64 s4, .int .i64 s5, .int .i64 s6] 34))
      replace HK7 := Lib.hid ((HK7.out.keep hb4).alloc (.cells #[.int .i64 s1, .int .i64 s2, .int .i64 s3, .int .i64 s4, .int .i64 s5, .int .i64 s6] 34))
      have h10 := Reg.Blk.new w4 #[.int .i64 s1, .int .i64 s2, .int .i64 s3, .int .i64 s4, .int .i64 s5, .int .i64 s6] 34
      clear hb4 HQ c0 c3 f3 z3 HB
      obtain ⟨c7, f7, z7⟩ := HK7.out.facts
      obtain ⟨c10, f10, z10⟩ := h10.facts
      have HK10 := Lib.hid h10
      clear h10
      go_wp2_with fail
      (with_reducible refine (HC.out _).mono ?_); rintro e w6 ⟨rfl, hb6⟩
      have HB6 := Lib.hid (HB4.out.trans (hb6.mono HB4.out.size))
      replace HK3 := Lib.hid (HK3.out.keep hb6)
      replace HK7 := Lib.hid (HK7.out.keep hb6)
      replace HK10 := Lib.hid (HK10.out.keep hb6)
      have hz6 : w4.heap.size < w6.heap.size := Nat.lt_of_lt_of_le (by simp) hb6.size
      clear hb6 HC c7 f7 z7 c10 f10 z10 HB4
      obtain ⟨c7, f7, z7⟩ := HK7.out.facts
      obtain ⟨c10, f10, z10⟩ := HK10.out.facts
      generalize w4.heap.size = g10 at *
      have hlow : w.heap.size < w6.heap.size := by omega
      have hgg : w.heap.size < g := hg7
      have hne : ¬ g10 = g := by omega
      by_cases hz : k = 0
      · have HR : Hid (nearN L px py (k + 1) = (k, ⟨s1, s2, s3, s4, s5, s6⟩)) := by unfold Hid; rw [HS.out, if_pos (by simp [hz])]
        have hbq : ((k : Int) == 0) = true := by rw [beq_iff_eq]; omega
        clear hz
        go_wp2_with fail
        refine Reg.wp_region_seqK (fun j => j = g) (by kernel_rfl) (by kernel_rfl) ?_
        simp only
        iterate 3
          apply Reg.SeqOK.val
          · intro γ W hW K hK
            obtain ⟨hc, hf, _⟩ := Reg.kcell hW
            simp only [Act.put, List.setIfInBounds_toArray, List.set_cons_zero, List.set_cons_succ] at hK
            unfold Reg.Does
            go_simp
            try simp only [IntWalk.i64_left]
            first
              | exact hK _ (Below.refl _ _)
              | (trace_state; fail)
          simp only [Act.put, List.setIfInBounds_toArray, List.set_cons_zero, List.set_cons_succ, List.nil_append, List.cons_append, Nat.reduceAdd, Nat.zero_add]
        apply Reg.SeqOK.old (g := g) (hB := (Reg.updK (M := fun j => j = g) (g := g) rfl)) (hg := HK7.out) (hne := by simp [Reg.NotOld])
        · intro γ W hW hat K hK
          obtain ⟨hcl, hfr⟩ := Reg.cells_at hat
          simp only [Act.put, List.setIfInBounds_toArray, List.set_cons_zero, List.set_cons_succ] at hK
          unfold Reg.Does
          go_simp
          exact hK _ (Reg.upd6 hat)
        simp only [Act.put, List.setIfInBounds_toArray, List.set_cons_zero, List.set_cons_succ, List.nil_append, List.cons_append, Nat.reduceAdd, Nat.zero_add]
        refine Reg.SeqOK.nil (by kernel_rfl) (fun γ W hW _ _ hO => ?_)
        simp only [Reg.Olds, and_true] at hO
        have HW := Lib.hid (And.intro hW hO)
        clear hW hO c7 f7 z7 c10 f10 z10
        go_wp2_with fail
        refine ⟨⟨k + 1, by omega, by go_num, by rw [HR.out], ?_, ?_, ?_⟩, by simp [intOf]; omega⟩
        · exact HB6.out.trans (keep_weak HW.out.1 (M' := fun j => w.heap.size ≤ j) (fun j e => by omega) |>.below fun j hj => ⟨by omega, by omega⟩)
        · exact blkK HK3.out HW.out.1 (by omega)
        · rw [HR.out]; exact HW.out.2
      have hbq : ((k : Int) == 0) = false := by rw [beq_eq_false_iff_ne]; omega
      by_cases hc : (compareI s5 s6 n5 n6).1 < 0
      · have HR : Hid (nearN L px py (k + 1) = (k, ⟨s1, s2, s3, s4, s5, s6⟩)) := by unfold Hid; rw [HS.out, if_pos (by simp [hc])]
        clear hz
        go_wp2_with fail
        refine Reg.wp_region_seqK (fun j => j = g) (by kernel_rfl) (by kernel_rfl) ?_
        simp only
        iterate 3
          apply Reg.SeqOK.val
          · intro γ W hW K hK
            obtain ⟨hc, hf, _⟩ := Reg.kcell hW
            simp only [Act.put, List.setIfInBounds_toArray, List.set_cons_zero, List.set_cons_succ] at hK
            unfold Reg.Does
            go_simp
            try simp only [IntWalk.i64_left]
            first
              | exact hK _ (Below.refl _ _)
              | (trace_state; fail)
          simp only [Act.put, List.setIfInBounds_toArray, List.set_cons_zero, List.set_cons_succ, List.nil_append, List.cons_append, Nat.reduceAdd, Nat.zero_add]
        apply Reg.SeqOK.old (g := g) (hB := (Reg.updK (M := fun j => j = g) (g := g) rfl)) (hg := HK7.out) (hne := by simp [Reg.NotOld])
        · intro γ W hW hat K hK
          obtain ⟨hcl, hfr⟩ := Reg.cells_at hat
          simp only [Act.put, List.setIfInBounds_toArray, List.set_cons_zero, List.set_cons_succ] at hK
          unfold Reg.Does
          go_simp
          exact hK _ (Reg.upd6 hat)
        simp only [Act.put, List.setIfInBounds_toArray, List.set_cons_zero, List.set_cons_succ, List.nil_append, List.cons_append, Nat.reduceAdd, Nat.zero_add]
        refine Reg.SeqOK.nil (by kernel_rfl) (fun γ W hW _ _ hO => ?_)
        simp only [Reg.Olds, and_true] at hO
        have HW := Lib.hid (And.intro hW hO)
        clear hW hO c7 f7 z7 c10 f10 z10
        go_wp2_with fail
        refine ⟨⟨k + 1, by omega, by go_num, by rw [HR.out], ?_, ?_, ?_⟩, by simp [intOf]; omega⟩
        · exact HB6.out.trans (keep_weak HW.out.1 (M' := fun j => w.heap.size ≤ j) (fun j e => by omega) |>.below fun j hj => ⟨by omega, by omega⟩)
        · exact blkK HK3.out HW.out.1 (by omega)
        · rw [HR.out]; exact HW.out.2
      · have HR : Hid (nearN L px py (k + 1) = (bi, ⟨n1, n2, n3, n4, n5, n6⟩)) := by unfold Hid; rw [HS.out, if_neg (by simp [hc, hz])]
        clear hz
        go_wp2_with fail
        refine ⟨⟨k + 1, by omega, by go_num, by rw [HR.out], HB6.out, HK3.out, by rw [HR.out]; exact HK7.out⟩, by simp [intOf]; omega⟩
    · obtain rfl : k = n := by omega
      go_wp2_with fail
      go_ret2
      exact ⟨rfl, HB.out⟩

theorem near_lim (A : Option Addr) (c n : Nat) (px py : Int) (w : World) (hn : 400 < n) :
    Calls Try.prog 12 #[.slice A n c, .agg #[.int .i64 px, .int .i64 py]] w fun e w' => e = .returned (.tuple #[.int .i64 0, .int .i64 2]) ∧ Below w.heap.size w w' := by
  have hn' : (400 : Int) < (n : Int) := by omega
  go_enter Try.func12, Try.ntmps12
  go_wp2_with fail
  go_ret2
  exact ⟨rfl, (Below.refl _ _).alloc (Nat.le_refl _) _⟩
theorem near_zero (A : Option Addr) (c : Nat) (px py : Int) (w : World) :
    Calls Try.prog 12 #[.slice A 0 c, .agg #[.int .i64 px, .int .i64 py]] w fun e w' => e = .returned (.tuple #[.int .i64 0, .int .i64 1]) ∧ Below w.heap.size w w' := by
  go_enter Try.func12, Try.ntmps12
  go_wp2_with fail
  go_ret2
  exact ⟨rfl, (Below.refl _ _).alloc (Nat.le_refl _) _⟩
theorem near_off (A : Option Addr) (c n : Nat) (px py : Int) (w : World) (hn : n ≤ 400) (h0 : 0 < n) (hon : onB px py = false) :
    Calls Try.prog 12 #[.slice A n c, .agg #[.int .i64 px, .int .i64 py]] w fun e w' => e = .returned (.tuple #[.int .i64 0, .int .i64 1]) ∧ Below w.heap.size w w' := by
  have HON := Lib.hid (fun W => on_any px py W)
  rw [hon] at HON
  have hn' : ¬ (400 : Int) < (n : Int) := by omega
  have hd1 : ((n : Int) == 0) = false := by rw [beq_eq_false_iff_ne]; omega
  clear hon hn h0
  go_enter Try.func12, Try.ntmps12
  go_wp2_with fail
  (with_reducible refine (HON.out _).mono ?_); rintro e w1 ⟨rfl, hb1⟩
  have HB := Lib.hid (((Below.refl w.heap.size w).alloc (Nat.le_refl _) _).trans (hb1.mono (by simp)))
  clear hb1 HON
  go_wp2_with fail
  go_ret2
  exact ⟨rfl, HB.out⟩
theorem near_bad (A : Option Addr) (c : Nat) (L : List Ln) (px py : Int) (w : World) (hl : LinesAt w A L) (hn : L.length ≤ 400) (h0 : 0 < L.length) (hon : onB px py = true) (hg : goodL L = false) :
    Calls Try.prog 12 #[.slice A L.length c, .agg #[.int .i64 px, .int .i64 py]] w fun e w' => e = .returned (.tuple #[.int .i64 0, .int .i64 1]) ∧ Below w.heap.size w w' := by
  have HL := Lib.hid hl
  have HON := Lib.hid (fun W => on_any px py W)
  rw [hon] at HON
  have HC := Lib.hid (fun W (h : LinesAt W A L) => contains_any A c L W h (by omega))
  rw [hg] at HC
  generalize L.length = n at *
  have hn' : ¬ (400 : Int) < (n : Int) := by omega
  have hd1 : ((n : Int) == 0) = false := by rw [beq_eq_false_iff_ne]; omega
  clear hl hon hg hn h0
  go_enter Try.func12, Try.ntmps12
  go_wp2_with fail
  (with_reducible refine (HON.out _).mono ?_); rintro e w1 ⟨rfl, hb1⟩
  have HB := Lib.hid (((Below.refl w.heap.size w).alloc (Nat.le_refl _) _).trans (hb1.mono (by simp)))
  clear hb1 HON
  go_wp2_with fail
  (with_reducible refine (HC.out _ (HL.out.below HB.out)).mono ?_); rintro e w2 ⟨rfl, hb2⟩
  replace HB := Lib.hid (HB.out.trans (hb2.mono HB.out.size))
  clear hb2 HC
  go_wp2_with fail
  go_ret2
  exact ⟨rfl, HB.out⟩
theorem nearest_any (A : Option Addr) (c : Nat) (L : List Ln) (px py : Int) (w : World) (hl : LinesAt w A L) :
    Calls Try.prog 12 #[.slice A L.length c, .agg #[.int .i64 px, .int .i64 py]] w fun e w' => e = .returned (.tuple #[.int .i64 (nearR L px py).1, .int .i64 (nearR L px py).2]) ∧ Below w.heap.size w w' := by
  unfold nearR
  by_cases h4 : 400 < L.length
  · rw [if_pos h4]; exact near_lim A c _ px py w h4
  rw [if_neg h4]
  by_cases h0 : L.length = 0
  · rw [if_pos (by simp [h0]), h0]; exact near_zero A c px py w
  cases hon : onB px py with
  | false => rw [if_pos (by simp)]; exact near_off A c _ px py w (by omega) (by omega) hon
  | true =>
    cases hg : goodL L with
    | false => rw [if_pos (by simp)]; exact near_bad A c L px py w hl (by omega) (by omega) hon hg
    | true => rw [if_neg (by simp only [h0, decide_false, Bool.not_true, Bool.or_self]; decide)]; exact near_round A c L px py w hl (by omega) (by omega) hon hg

end G
end Go.Proofs.Ytjeapimjgojpoaa
